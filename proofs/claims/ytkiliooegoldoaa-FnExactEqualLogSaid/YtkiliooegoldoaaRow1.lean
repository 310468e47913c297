/- What an input reads as. -/
import Derived.ProofKit
import Derived.Test.YtkiliooegoldoaaSem5
set_option linter.unusedVariables false
set_option linter.unusedSimpArgs false
namespace Go.Proofs.Ytkiliooegoldoaa
open Go

/-- Values of a type, as they may be read. -/
inductive HasT (P : Program) : TypeId → List PV → Prop
  | bool {t b} : P.underlying t = some .bool → HasT P t [.bool b]
  | int {t k n} : P.underlying t = some (.int k) → (Lit.int k n).wf = true → HasT P t [.int k n]
  | str {t s} : P.underlying t = some .string → s.size ≤ maxLen → HasT P t [.str s]
  | sl {t e} {xs : List (List PV)} : P.underlying t = some (.slice e) → xs.length ≤ maxLen → (∀ (i : Nat) r, xs[i]? = some r → HasT P e r) → HasT P t [.sl (P.cellsOf e) xs]
  | struct {t} {fs : Array Field} {pss : List (List PV)} : P.underlying t = some (.struct fs) → pss.length = fs.size → (∀ (i : Nat) f ps, fs[i]? = some f → pss[i]? = some ps → HasT P f.type ps) → HasT P t pss.flatten

def contig (P : Program) (k : Nat) : List Field → Nat → Bool
  | [], n => k == n
  | f :: fs, n => f.offset == k && contig P (k + P.cellsOf f.type) fs n
def plainTs (P : Program) (ts : List TypeId) : Bool :=
  ts.all fun t => match P.underlying t with
    | some .bool | some (.int _) | some .string => P.cellsOf t == 1
    | some (.slice e) => ts.elem e && decide (0 < P.cellsOf e) && P.cellsOf t == 1
    | some (.struct fs) => fs.toList.all (fun f => ts.elem f.type) && contig P 0 fs.toList (P.cellsOf t)
    | _ => false

section
variable {H : Type} {enc : TypeId × Value → H} {P : Program} {w : World} {ok : Nat → Nat → Prop}

theorem mapM_get {α β : Type} {f : α → Option β} {l : List α} {r : List β} (h : l.mapM f = some r) : r.length = l.length ∧ ∀ (i : Nat) x, l[i]? = some x → f x = r[i]? :=
  ⟨mapM_some_length h, mapM_some_get h⟩

theorem cellAddr {a : Addr} {g o n : Nat} (ha : a = ⟨g, o, none⟩) : a.add n = ⟨g, o + n, none⟩ := by rw [ha]; exact addr_add g o n

theorem fields_pv {ts : List TypeId} {n : Nat} {cs : List Value} {tr : TypeId → List Value → Option (DataW H × List MemPlace)}
    (ih : ∀ t cs x, t ∈ ts → tr t cs = some x → ∃ pvs, HasT P t pvs ∧ RdL w ok pvs cs ∧ cs.length = P.cellsOf t) :
    ∀ {fs : List Field} {k : Nat} {xs}, (∀ f ∈ fs, f.type ∈ ts) → contig P k fs n = true → cs.length = n → (fs.mapM fun f => tr f.type ((cs.drop f.offset).take (P.cellsOf f.type))) = some xs →
      ∃ pss : List (List PV), pss.length = fs.length ∧ (∀ (i : Nat) f ps, fs[i]? = some f → pss[i]? = some ps → HasT P f.type ps) ∧ RdL w ok pss.flatten (cs.drop k) ∧ k ≤ n := by
  intro fs
  induction fs with
  | nil =>
    intro k xs _ hc hl _
    simp only [contig, beq_iff_eq] at hc
    subst hc
    exact ⟨[], rfl, fun i f ps h => by simp at h, by rw [List.drop_of_length_le (by omega)]; exact .nil, Nat.le_refl _⟩
  | cons f fs ihf =>
    intro k xs hts hc hl hx
    simp only [contig, Bool.and_eq_true, beq_iff_eq] at hc
    obtain ⟨hoff, hc⟩ := hc
    simp only [List.mapM_cons, Option.bind_eq_bind, Option.pure_def, Option.bind_eq_some_iff] at hx
    obtain ⟨x, h1, xs', h2, _⟩ := hx
    obtain ⟨pvs, p1, p2, p3⟩ := ih f.type _ x (hts f (by simp)) h1
    obtain ⟨pss, q1, q2, q3, q4⟩ := ihf (fun g hg => hts g (by simp [hg])) hc hl h2
    refine ⟨pvs :: pss, by simp [q1], fun i g ps hg hps => ?_, ?_, by omega⟩
    · cases i with
      | zero => simp at hg hps; subst hg; subst hps; exact p1
      | succ i => exact q2 i g ps (by simpa using hg) (by simpa using hps)
    · rw [hoff] at p2
      have := p2.append_ q3
      rw [← List.drop_drop, List.take_append_drop] at this
      exact this

theorem rows_pv {c : Nat} (hc : 0 < c) {a : Addr} {e : TypeId} {tr : TypeId → List Value → Option (DataW H × List MemPlace)} (hok : ∀ g k v, w.cell? ⟨g, k, none⟩ = some v → ok g k)
    (ih : ∀ cs x, tr e cs = some x → ∃ pvs, HasT P e pvs ∧ RdL w ok pvs cs ∧ cs.length = c) : ∀ {n : Nat}, (∀ i, i < n → ∃ x, ((w.cells? 0 (a.add (i * c)) c).bind (tr e)) = some x) →
      ∃ (xs : List (List PV)) (cvs : List Value), xs.length = n ∧ (∀ r ∈ xs, r.length = c) ∧ (∀ (i : Nat) r, xs[i]? = some r → HasT P e r) ∧ cvs.length = n * c ∧ RdL w ok xs.flatten cvs ∧ ∀ (k : Nat) v, cvs[k]? = some v → CellOk w ok (some a) k v := by
  intro n
  induction n with
  | zero => intro _; exact ⟨[], [], rfl, by simp, fun i r h => by simp at h, by simp, .nil, fun k v h => by simp at h⟩
  | succ n ihn =>
    intro h
    obtain ⟨xs, cvs, h1, h2, h3, h4, h5, h6⟩ := ihn fun i hi => h i (by omega)
    obtain ⟨x, hx⟩ := h n (by omega)
    obtain ⟨cs, hcs, htr⟩ := Option.bind_eq_some_iff.1 hx
    obtain ⟨pvs, p1, p2, p3⟩ := ih cs x htr
    unfold World.cells? at hcs
    rw [if_pos (Nat.zero_le _)] at hcs
    obtain ⟨q1, q2⟩ := mapM_get hcs
    have hcell : ∀ (j : Nat) v, cs[j]? = some v → w.cell? ((a.add (n * c)).add j) = some v := by
      intro j v hj
      have hjc : j < c := by have := (List.getElem?_eq_some_iff.1 hj).1; omega
      rw [q2 j j (by rw [List.getElem?_range hjc]), hj]
    -- the address is that of a block's cell
    have spot_of : ∀ (b : Addr) v, w.cell? b = some v → b.spot = none := by
      intro b v hb
      unfold World.cell? at hb
      split at hb
      · split at hb
        · cases hb
        · rename_i hs; simpa using hs
      · cases hb
    have hspot : a.spot = none := by
      obtain ⟨x0, hx0⟩ := h 0 (by omega)
      obtain ⟨cs0, hcs0, htr0⟩ := Option.bind_eq_some_iff.1 hx0
      obtain ⟨pv0, r1, r2, r3⟩ := ih cs0 x0 htr0
      unfold World.cells? at hcs0
      rw [if_pos (Nat.zero_le _)] at hcs0
      obtain ⟨s1, s2⟩ := mapM_get hcs0
      have := s2 0 0 (by rw [List.getElem?_range hc])
      rw [List.getElem?_eq_getElem (by omega)] at this
      have := spot_of _ _ this
      simpa [Addr.add] using this
    obtain ⟨g, o, ha⟩ : ∃ g o, a = ⟨g, o, none⟩ := ⟨a.block, a.off, by cases a; simp at hspot; simp [hspot]⟩
    refine ⟨xs ++ [pvs], cvs ++ cs, by simp [h1], fun r hr => ?_, fun i r hr => ?_, by simp [h4, p3, Nat.succ_mul], by simpa using h5.append_ p2, fun k v hv => ?_⟩
    · rcases List.mem_append.1 hr with hr | hr
      · exact h2 r hr
      · simp at hr; subst hr; rw [p2.length, p3]
    · rw [List.getElem?_append] at hr
      split at hr
      · exact h3 i r hr
      · cases hi : i - xs.length with
        | zero => rw [hi] at hr; simp at hr; subst hr; exact p1
        | succ m => rw [hi] at hr; simp at hr
    · rw [List.getElem?_append] at hv
      split at hv
      · exact h6 k v hv
      · rename_i hk
        have hk2 := hcell _ v hv
        rw [cellAddr ha, addr_add] at hk2
        have e1 : o + n * c + (k - cvs.length) = o + k := by omega
        rw [e1] at hk2
        exact ⟨g, o, by rw [ha], hok _ _ _ hk2, hk2⟩

theorem trod_pv {ts : List TypeId} (hts : plainTs P ts = true) (hok : ∀ g k v, w.cell? ⟨g, k, none⟩ = some v → ok g k) {base : Nat} (hbase : base = 0) {sp : Nat → Bool} {held : Bool} : ∀ (fuel : Nat) (t : TypeId) (cs : List Value) (x : DataW H × List MemPlace), t ∈ ts →
    DataW.trod enc P w base sp held fuel t cs = some x → ∃ pvs, HasT P t pvs ∧ RdL w ok pvs cs ∧ cs.length = P.cellsOf t := by
  subst hbase
  intro fuel
  induction fuel with
  | zero => intro t cs x _ h; simp [DataW.trod] at h
  | succ fuel ih =>
    intro t cs x ht h
    have hp := List.all_eq_true.1 hts t ht
    try dsimp only at hp
    unfold DataW.trod at h
    split at hp
    · rename_i hu
      simp only [hu] at h
      rcases cs with _ | ⟨u, _ | ⟨u2, us⟩⟩
      · simp at h
      · cases u <;> simp at h
        rename_i b
        exact ⟨[.bool b], .bool hu, .bool .nil, by have hp := beq_iff_eq.1 hp; simp [hp]⟩
      · simp at h
    · rename_i k hu
      simp only [hu] at h
      rcases cs with _ | ⟨u, _ | ⟨u2, us⟩⟩
      · simp at h
      · cases u <;> simp at h
        rename_i k' n
        obtain ⟨⟨rfl, hw⟩, _⟩ := h
        exact ⟨[.int k' n], .int hu hw, .int .nil, by have hp := beq_iff_eq.1 hp; simp [hp]⟩
      · simp at h
    · rename_i hu
      simp only [hu] at h
      rcases cs with _ | ⟨u, _ | ⟨u2, us⟩⟩
      · simp at h
      · cases u <;> simp at h
        rename_i b
        exact ⟨[.str b], .str hu h.1, .str .nil, by have hp := beq_iff_eq.1 hp; simp [hp]⟩
      · simp at h
    · rename_i e hu
      simp only [Bool.and_eq_true, decide_eq_true_eq, beq_iff_eq] at hp
      obtain ⟨⟨he, hc⟩, hone⟩ := hp
      have he : e ∈ ts := by simpa using he
      simp only [hu] at h
      rcases cs with _ | ⟨u, _ | ⟨u2, us⟩⟩
      · simp at h
      · cases u <;> try (simp at h; done)
        rename_i A len cap
        cases A with
        | none =>
          have : len = 0 ∧ cap = 0 := by
            by_cases hl : len = 0 ∧ cap = 0
            · exact hl
            · exfalso
              rcases len with _ | len <;> rcases cap with _ | cap <;> simp at h hl
          obtain ⟨rfl, rfl⟩ := this
          exact ⟨[.sl (P.cellsOf e) []], .sl hu (by simp [maxLen]) (fun i r h => by simp at h), .sl (cvs := []) rfl (Nat.le_refl _) (by simp) (by simp) (by simpa using RdL.nil) .nil, by simp [hone]⟩
        | some a =>
          dsimp only at h
          split at h
          case isFalse => cases h
          rename_i hcond
          obtain ⟨elems, he1, _⟩ := Option.bind_eq_some_iff.1 h
          obtain ⟨l1, l2⟩ := mapM_get he1
          obtain ⟨xs, cvs, h1, h2, h3, h4, h5, h6⟩ := rows_pv (w := w) (ok := ok) (P := P) (c := P.cellsOf e) hc (a := a) (e := e) (tr := DataW.trod enc P w 0 sp held fuel) hok (fun cs x hx => ih e cs x he hx) (n := len) (fun i hi => by
            have := l2 i i (by rw [List.getElem?_range hi])
            rw [List.getElem?_eq_getElem (by rw [l1]; simpa using hi)] at this
            exact ⟨_, this⟩)
          exact ⟨[.sl (P.cellsOf e) xs], .sl hu (by rw [h1]; omega) h3, .sl h1 hcond.2.1 h2 h6 h5 .nil, by simp [hone]⟩
      · simp at h
    · rename_i fs hu
      simp only [Bool.and_eq_true, List.all_eq_true] at hp
      simp only [hu] at h
      split at h
      case isFalse => cases h
      rename_i hl
      cases hx : (fs.toList.mapM fun f => DataW.trod enc P w 0 sp held fuel f.type ((cs.drop f.offset).take (P.cellsOf f.type))) with
      | none => rw [hx] at h; cases h
      | some xs =>
        obtain ⟨pss, q1, q2, q3, _⟩ := fields_pv (w := w) (ok := ok) (P := P) (tr := DataW.trod enc P w 0 sp held fuel) (fun t cs x ht hx => ih t cs x ht hx) (fun f hf => by simpa using hp.1 f hf) hp.2 hl hx
        exact ⟨pss.flatten, .struct hu (by simpa using q1) (fun i f ps hf hps => q2 i f ps (by simpa using hf) hps), by simpa using q3, hl⟩
    · cases hp
end
end Go.Proofs.Ytkiliooegoldoaa
