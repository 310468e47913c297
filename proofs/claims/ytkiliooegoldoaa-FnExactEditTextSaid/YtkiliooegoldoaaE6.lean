/- Abstract reading of Go code and its soundness, part 6. -/
import Derived.ProofKit
import Derived.Test.YtkiliooegoldoaaE4
import Derived.Test.YtkiliooegoldoaaE5
/- What an input reads as. -/
set_option linter.unusedVariables false
set_option linter.unusedSimpArgs false
namespace Go.Proofs.Ytkiliooegoldoaa
open Go

/-- Values of a type, as they may be read. -/
inductive HasT (P : Program) : TypeId → List PV → Prop
  | bool {t b} : P.underlying t = some .bool → HasT P t [.bool b]
  | int {t k n} : P.underlying t = some (.int k) → (Lit.int k n).wf = true → HasT P t [.int k n]
  | str {t s} : P.underlying t = some .string → s.size ≤ maxLen → HasT P t [.str s]
  | sl {t e} {xs : List (List PV)} : P.underlying t = some (.slice e) → xs.length ≤ maxLen → (∀ (i : Nat) r, xs[i]? = some r → HasT P e r) → HasT P t [.sl (P.cellsOf e) xs]
  | struct {t} {fs : Array Field} {pss : List (List PV)} : P.underlying t = some (.struct fs) → pss.length = fs.size → (∀ (i : Nat) f ps, fs[i]? = some f → pss[i]? = some ps → HasT P f.type ps) → HasT P t pss.flatten

def contig (P : Program) (k : Nat) : List Field → Nat → Bool
  | [], n => k == n
  | f :: fs, n => f.offset == k && contig P (k + P.cellsOf f.type) fs n
def plainTs (P : Program) (ts : List TypeId) : Bool :=
  ts.all fun t => match P.underlying t with
    | some .bool | some (.int _) | some .string => P.cellsOf t == 1
    | some (.slice e) => ts.elem e && decide (0 < P.cellsOf e) && P.cellsOf t == 1
    | some (.struct fs) => fs.toList.all (fun f => ts.elem f.type) && contig P 0 fs.toList (P.cellsOf t)
    | _ => false

section
variable {H : Type} {enc : TypeId × Value → H} {P : Program} {w : World} {ok : Nat → Nat → Prop}

theorem mapM_get {α β : Type} {f : α → Option β} {l : List α} {r : List β} (h : l.mapM f = some r) : r.length = l.length ∧ ∀ (i : Nat) x, l[i]? = some x → f x = r[i]? :=
  ⟨mapM_some_length h, mapM_some_get h⟩

theorem cellAddr {a : Addr} {g o n : Nat} (ha : a = ⟨g, o, none⟩) : a.add n = ⟨g, o + n, none⟩ := by rw [ha]; exact addr_add g o n

theorem fields_pv {ts : List TypeId} {n : Nat} {cs : List Value} {tr : TypeId → List Value → Option (DataW H × List MemPlace)}
    (ih : ∀ t cs x, t ∈ ts → tr t cs = some x → ∃ pvs, HasT P t pvs ∧ RdL w ok pvs cs ∧ cs.length = P.cellsOf t) :
    ∀ {fs : List Field} {k : Nat} {xs}, (∀ f ∈ fs, f.type ∈ ts) → contig P k fs n = true → cs.length = n → (fs.mapM fun f => tr f.type ((cs.drop f.offset).take (P.cellsOf f.type))) = some xs →
      ∃ pss : List (List PV), pss.length = fs.length ∧ (∀ (i : Nat) f ps, fs[i]? = some f → pss[i]? = some ps → HasT P f.type ps) ∧ RdL w ok pss.flatten (cs.drop k) ∧ k ≤ n := by
  intro fs
  induction fs with
  | nil =>
    intro k xs _ hc hl _
    simp only [contig, beq_iff_eq] at hc
    subst hc
    exact ⟨[], rfl, fun i f ps h => by simp at h, by rw [List.drop_of_length_le (by omega)]; exact .nil, Nat.le_refl _⟩
  | cons f fs ihf =>
    intro k xs hts hc hl hx
    simp only [contig, Bool.and_eq_true, beq_iff_eq] at hc
    obtain ⟨hoff, hc⟩ := hc
    simp only [List.mapM_cons, Option.bind_eq_bind, Option.pure_def, Option.bind_eq_some_iff] at hx
    obtain ⟨x, h1, xs', h2, _⟩ := hx
    obtain ⟨pvs, p1, p2, p3⟩ := ih f.type _ x (hts f (by simp)) h1
    obtain ⟨pss, q1, q2, q3, q4⟩ := ihf (fun g hg => hts g (by simp [hg])) hc hl h2
    refine ⟨pvs :: pss, by simp [q1], fun i g ps hg hps => ?_, ?_, by omega⟩
    · cases i with
      | zero => simp at hg hps; subst hg; subst hps; exact p1
      | succ i => exact q2 i g ps (by simpa using hg) (by simpa using hps)
    · rw [hoff] at p2
      have := p2.append_ q3
      rw [← List.drop_drop, List.take_append_drop] at this
      exact this

theorem rows_pv {c : Nat} (hc : 0 < c) {a : Addr} {e : TypeId} {tr : TypeId → List Value → Option (DataW H × List MemPlace)} (hok : ∀ g k v, w.cell? ⟨g, k, none⟩ = some v → ok g k)
    (ih : ∀ cs x, tr e cs = some x → ∃ pvs, HasT P e pvs ∧ RdL w ok pvs cs ∧ cs.length = c) : ∀ {n : Nat}, (∀ i, i < n → ∃ x, ((w.cells? 0 (a.add (i * c)) c).bind (tr e)) = some x) →
      ∃ (xs : List (List PV)) (cvs : List Value), xs.length = n ∧ (∀ r ∈ xs, r.length = c) ∧ (∀ (i : Nat) r, xs[i]? = some r → HasT P e r) ∧ cvs.length = n * c ∧ RdL w ok xs.flatten cvs ∧ ∀ (k : Nat) v, cvs[k]? = some v → CellOk w ok (some a) k v := by
  intro n
  induction n with
  | zero => intro _; exact ⟨[], [], rfl, by simp, fun i r h => by simp at h, by simp, .nil, fun k v h => by simp at h⟩
  | succ n ihn =>
    intro h
    obtain ⟨xs, cvs, h1, h2, h3, h4, h5, h6⟩ := ihn fun i hi => h i (by omega)
    obtain ⟨x, hx⟩ := h n (by omega)
    obtain ⟨cs, hcs, htr⟩ := Option.bind_eq_some_iff.1 hx
    obtain ⟨pvs, p1, p2, p3⟩ := ih cs x htr
    unfold World.cells? at hcs
    rw [if_pos (Nat.zero_le _)] at hcs
    obtain ⟨q1, q2⟩ := mapM_get hcs
    have hcell : ∀ (j : Nat) v, cs[j]? = some v → w.cell? ((a.add (n * c)).add j) = some v := by
      intro j v hj
      have hjc : j < c := by have := (List.getElem?_eq_some_iff.1 hj).1; omega
      rw [q2 j j (by rw [List.getElem?_range hjc]), hj]
    -- the address is that of a block's cell
    have spot_of : ∀ (b : Addr) v, w.cell? b = some v → b.spot = none := by
      intro b v hb
      unfold World.cell? at hb
      split at hb
      · split at hb
        · cases hb
        · rename_i hs; simpa using hs
      · cases hb
    have hspot : a.spot = none := by
      obtain ⟨x0, hx0⟩ := h 0 (by omega)
      obtain ⟨cs0, hcs0, htr0⟩ := Option.bind_eq_some_iff.1 hx0
      obtain ⟨pv0, r1, r2, r3⟩ := ih cs0 x0 htr0
      unfold World.cells? at hcs0
      rw [if_pos (Nat.zero_le _)] at hcs0
      obtain ⟨s1, s2⟩ := mapM_get hcs0
      have := s2 0 0 (by rw [List.getElem?_range hc])
      rw [List.getElem?_eq_getElem (by omega)] at this
      have := spot_of _ _ this
      simpa [Addr.add] using this
    obtain ⟨g, o, ha⟩ : ∃ g o, a = ⟨g, o, none⟩ := ⟨a.block, a.off, by cases a; simp at hspot; simp [hspot]⟩
    refine ⟨xs ++ [pvs], cvs ++ cs, by simp [h1], fun r hr => ?_, fun i r hr => ?_, by simp [h4, p3, Nat.succ_mul], by simpa using h5.append_ p2, fun k v hv => ?_⟩
    · rcases List.mem_append.1 hr with hr | hr
      · exact h2 r hr
      · simp at hr; subst hr; rw [p2.length, p3]
    · rw [List.getElem?_append] at hr
      split at hr
      · exact h3 i r hr
      · cases hi : i - xs.length with
        | zero => rw [hi] at hr; simp at hr; subst hr; exact p1
        | succ m => rw [hi] at hr; simp at hr
    · rw [List.getElem?_append] at hv
      split at hv
      · exact h6 k v hv
      · rename_i hk
        have hk2 := hcell _ v hv
        rw [cellAddr ha, addr_add] at hk2
        have e1 : o + n * c + (k - cvs.length) = o + k := by omega
        rw [e1] at hk2
        exact ⟨g, o, by rw [ha], hok _ _ _ hk2, hk2⟩

theorem trod_pv {ts : List TypeId} (hts : plainTs P ts = true) (hok : ∀ g k v, w.cell? ⟨g, k, none⟩ = some v → ok g k) {base : Nat} (hbase : base = 0) {sp : Nat → Bool} {held : Bool} : ∀ (fuel : Nat) (t : TypeId) (cs : List Value) (x : DataW H × List MemPlace), t ∈ ts →
    DataW.trod enc P w base sp held fuel t cs = some x → ∃ pvs, HasT P t pvs ∧ RdL w ok pvs cs ∧ cs.length = P.cellsOf t := by
  subst hbase
  intro fuel
  induction fuel with
  | zero => intro t cs x _ h; simp [DataW.trod] at h
  | succ fuel ih =>
    intro t cs x ht h
    have hp := List.all_eq_true.1 hts t ht
    try dsimp only at hp
    unfold DataW.trod at h
    split at hp
    · rename_i hu
      simp only [hu] at h
      rcases cs with _ | ⟨u, _ | ⟨u2, us⟩⟩
      · simp at h
      · cases u <;> simp at h
        rename_i b
        exact ⟨[.bool b], .bool hu, .bool .nil, by have hp := beq_iff_eq.1 hp; simp [hp]⟩
      · simp at h
    · rename_i k hu
      simp only [hu] at h
      rcases cs with _ | ⟨u, _ | ⟨u2, us⟩⟩
      · simp at h
      · cases u <;> simp at h
        rename_i k' n
        obtain ⟨⟨rfl, hw⟩, _⟩ := h
        exact ⟨[.int k' n], .int hu hw, .int .nil, by have hp := beq_iff_eq.1 hp; simp [hp]⟩
      · simp at h
    · rename_i hu
      simp only [hu] at h
      rcases cs with _ | ⟨u, _ | ⟨u2, us⟩⟩
      · simp at h
      · cases u <;> simp at h
        rename_i b
        exact ⟨[.str b], .str hu h.1, .str .nil, by have hp := beq_iff_eq.1 hp; simp [hp]⟩
      · simp at h
    · rename_i e hu
      simp only [Bool.and_eq_true, decide_eq_true_eq, beq_iff_eq] at hp
      obtain ⟨⟨he, hc⟩, hone⟩ := hp
      have he : e ∈ ts := by simpa using he
      simp only [hu] at h
      rcases cs with _ | ⟨u, _ | ⟨u2, us⟩⟩
      · simp at h
      · cases u <;> try (simp at h; done)
        rename_i A len cap
        cases A with
        | none =>
          have : len = 0 ∧ cap = 0 := by
            by_cases hl : len = 0 ∧ cap = 0
            · exact hl
            · exfalso
              rcases len with _ | len <;> rcases cap with _ | cap <;> simp at h hl
          obtain ⟨rfl, rfl⟩ := this
          exact ⟨[.sl (P.cellsOf e) []], .sl hu (by simp [maxLen]) (fun i r h => by simp at h), .sl (cvs := []) rfl (Nat.le_refl _) (by simp) (by simp) (by simpa using RdL.nil) .nil, by simp [hone]⟩
        | some a =>
          dsimp only at h
          split at h
          case isFalse => cases h
          rename_i hcond
          obtain ⟨elems, he1, _⟩ := Option.bind_eq_some_iff.1 h
          obtain ⟨l1, l2⟩ := mapM_get he1
          obtain ⟨xs, cvs, h1, h2, h3, h4, h5, h6⟩ := rows_pv (w := w) (ok := ok) (P := P) (c := P.cellsOf e) hc (a := a) (e := e) (tr := DataW.trod enc P w 0 sp held fuel) hok (fun cs x hx => ih e cs x he hx) (n := len) (fun i hi => by
            have := l2 i i (by rw [List.getElem?_range hi])
            rw [List.getElem?_eq_getElem (by rw [l1]; simpa using hi)] at this
            exact ⟨_, this⟩)
          exact ⟨[.sl (P.cellsOf e) xs], .sl hu (by rw [h1]; omega) h3, .sl h1 hcond.2.1 h2 h6 h5 .nil, by simp [hone]⟩
      · simp at h
    · rename_i fs hu
      simp only [Bool.and_eq_true, List.all_eq_true] at hp
      simp only [hu] at h
      split at h
      case isFalse => cases h
      rename_i hl
      cases hx : (fs.toList.mapM fun f => DataW.trod enc P w 0 sp held fuel f.type ((cs.drop f.offset).take (P.cellsOf f.type))) with
      | none => rw [hx] at h; cases h
      | some xs =>
        obtain ⟨pss, q1, q2, q3, _⟩ := fields_pv (w := w) (ok := ok) (P := P) (tr := DataW.trod enc P w 0 sp held fuel) (fun t cs x ht hx => ih t cs x ht hx) (fun f hf => by simpa using hp.1 f hf) hp.2 hl hx
        exact ⟨pss.flatten, .struct hu (by simpa using q1) (fun i f ps hf hps => q2 i f ps (by simpa using hf) hps), by simpa using q3, hl⟩
    · cases hp
end
end Go.Proofs.Ytkiliooegoldoaa

/- From the evaluator's answer to a row. -/
set_option linter.unusedVariables false
set_option linter.unusedSimpArgs false
namespace Go.Proofs.Ytkiliooegoldoaa
open Go Go.RowKit Go.ChangeShapes Go.WideShapes Go.ChangeAt

section
variable {H : Type} {enc : TypeId × Value → H} {P : Program} {W : World}

theorem Gr.below {W W' : World} {φ φ' : Nat → Nat} (h : Gr W W' φ φ') : Below W.heap.size W W' :=
  ⟨h.os.1, h.os.2.1, congrArg Prod.fst (congrFun h.os.2.2 default), h.size, fun k hk => (h.heap k hk).1⟩
theorem Gr.frozen {W W' : World} {φ φ' : Nat → Nat} (h : Gr W W' φ φ') (a : Addr) : W'.frozen? a = W.frozen? a := congrArg Prod.snd (congrFun h.os.2.2 a)

/-- All of the memory may be read. -/
def φall (w : World) : Nat → Nat := fun g => match w.heap[g]? with
  | some (.cells c _ _) => c.size
  | _ => 0
theorem φall_ok (w : World) : ∀ g k v, w.cell? ⟨g, k, none⟩ = some v → okB (φall w) g k := by
  intro g k v h
  unfold World.cell? at h
  dsimp only at h
  split at h
  · rename_i c t fr hg
    simp at h
    unfold okB φall
    rw [hg]
    exact (Array.getElem?_eq_some_iff.1 h).1
  · cases h

def aggT (P : Program) (t : TypeId) : Bool := match P.underlying t with
  | some d => aggD d
  | none => false

theorem not_agg {t : TypeId} {base : Nat} {cs : Array Value} (ht : aggT P t = false) (h : Value.okWide P W .any base t (.agg cs)) : False := by
  unfold aggT at ht
  unfold Value.okWide at h
  cases hu : P.underlying t with
  | none => simp [hu, Cell.okWide, Cell.ok] at h
  | some d => rw [hu] at ht; cases d <;> simp [hu, Cell.okWide, Cell.ok, aggD] at h ht

def HasTs (P : Program) : List TypeId → List (List PV) → Prop
  | [], [] => True
  | t :: ts, a :: as => HasT P t a ∧ HasTs P ts as
  | _, _ => False

theorem args_of {ts : List TypeId} (hts : plainTs P ts = true) {base : Nat} : ∀ {pts : List TypeId} {vs : List Value} {ds : List (DataW H)} {ps : List MemPlace}, (∀ t ∈ pts, t ∈ ts) →
    (∀ (j : Nat) t v, pts[j]? = some t → vs[j]? = some v → Value.okWide P W .any base t v) → DataW.TrodAll enc P W 0 (fun _ => true) true pts vs ds ps →
    ∃ args, HasTs P pts args ∧ ArgsR W (φall W) (pts.map (aggT P)) args vs := by
  intro pts
  induction pts with
  | nil =>
    intro vs ds ps _ _ h
    cases vs <;> cases ds <;> simp [DataW.TrodAll] at h
    exact ⟨[], trivial, trivial⟩
  | cons t pts ih =>
    intro vs ds ps hin hval h
    cases vs with
    | nil => cases ds <;> simp [DataW.TrodAll] at h
    | cons v vs =>
      cases ds with
      | nil => simp [DataW.TrodAll] at h
      | cons d ds =>
        obtain ⟨p, q, ⟨fuel, h1⟩, h2, _⟩ := h
        obtain ⟨args, k1, k2⟩ := ih (fun t ht => hin t (by simp [ht])) (fun j t' v' a b => hval (j + 1) t' v' (by simpa using a) (by simpa using b)) h2
        obtain ⟨pvs, m1, m2, m3⟩ := trod_pv (ok := okB (φall W)) hts (φall_ok W) rfl fuel t _ _ (hin t (by simp)) h1
        refine ⟨pvs :: args, ⟨m1, k1⟩, ⟨v.cells.toList, ?_, m2⟩, k2⟩
        have hv := hval 0 t v rfl rfl
        by_cases hag : aggT P t = true
        · rw [if_pos hag]
          unfold aggT at hag
          unfold Value.okWide at hv
          cases hu : P.underlying t with
          | none => rw [hu] at hag; cases hag
          | some d =>
            rw [hu] at hag
            cases d <;> simp [aggD] at hag <;> simp only [hu] at hv <;> (obtain ⟨cs, rfl, _⟩ := hv; simp [Value.cells])
        · rw [if_neg hag]
          cases v with
          | agg cs => exact (not_agg (by simpa using hag) hv).elim
          | _ => rfl

theorem stays {P : Program} (hl : laidOutB P = true) {W W' : World} (hb : Below W.heap.size W W') {sp' : Nat → Bool} : ∀ {pts : List TypeId} {vs : List Value} {ds : List (DataW H)} {ps : List MemPlace},
    (∀ t ∈ pts, P.readableRec t = true ∧ t < P.types.size) → (∀ p ∈ ps, p.block < W.heap.size) → (∀ p ∈ ps, sp' p.block = true) →
    DataW.TrodAll enc P W 0 (fun _ => true) true pts vs ds ps → DataW.TrodAll enc P W' 0 sp' true pts vs ds ps := by
  intro pts
  induction pts with
  | nil =>
    intro vs ds ps _ _ _ h
    cases vs <;> cases ds <;> simp [DataW.TrodAll] at h ⊢
    exact h
  | cons t pts ih =>
    intro vs ds ps hr hlt hsp h
    cases vs with
    | nil => cases ds <;> simp [DataW.TrodAll] at h
    | cons v vs =>
      cases ds with
      | nil => simp [DataW.TrodAll] at h
      | cons d ds =>
        obtain ⟨p, q, h1, h2, rfl⟩ := h
        exact ⟨p, q, WideElems.Trod_stays hl (hr t (by simp)).1 (hr t (by simp)).2 h1 (fun x hx => hb.same (hlt x (by simp [hx]))) (fun x hx => hsp x (by simp [hx])),
          ih (fun t ht => hr t (by simp [ht])) (fun x hx => hlt x (by simp [hx])) (fun x hx => hsp x (by simp [hx])) h2, rfl⟩

/-- The law answers true; the input reads as it did. -/
theorem contract_of {num : Nat → FuncId} {F : Nat → Option AFunc} {k : Nat} {fd : AFunc} {fn : Func} {s : ChangeSpec} {apart fresh handsOn again : Bool} (hl : laidOutB P = true)
    (HF : ∀ k fd, F k = some fd → ∃ fn c, FnOk P num k fd fn c) (hk : F k = some fd) {ts : List TypeId} (hts : plainTs P ts = true)
    (hparams : ∀ t ∈ fn.params.toList, t ∈ ts ∧ P.readableRec t = true ∧ t < P.types.size) (hagg : fn.params.toList.map (aggT P) = fd.params) {tb : TypeId} (hres : fn.resultTypes = #[tb]) (hb : P.underlying tb = some .bool)
    (hrk : fd.rk = [(false, .deep)]) (law : ∀ args, HasTs P fn.params.toList args → Big F (.fn k args [[.bool true]]))
    (hvars : s.vars = []) (hs : ∀ ds : List (DataW H), ds.length = fn.params.size → s.fn H ds = { results := [.lit (.bool true)], args := ds })
    {base : Nat} {args : Array Value} {ds gs : List (DataW H)} {before : List MemPlace} (hval : ∀ (j : Nat) t v, fn.params[j]? = some t → args[j]? = some v → Value.okWide P W .any base t v)
    (hW : DataW.Whole enc P fn.params.toList s.vars apart W args.toList ds gs before) :
    Calls P (num k) args W fun e W' => ∃ v, e = .returned v ∧ s.post enc P fn apart fresh handsOn again W args v W' := by
  have hW' := hW
  obtain ⟨p, q, hA, hV, rfl, hfz, hnd⟩ := hW
  rw [hvars] at hV
  obtain ⟨rfl, rfl⟩ : gs = [] ∧ q = [] := by
    cases gs <;> simp [DataW.TrodVars] at hV
    exact ⟨rfl, hV⟩
  obtain ⟨as, k1, k2⟩ := args_of (W := W) (base := base) hts (fun t ht => (hparams t ht).1) (fun j t v a b => hval j t v (by simpa using a) (by simpa using b)) hA
  rw [hagg] at k2
  have hsem := big_sound (P := P) (num := num) HF (law as k1) fd hk
  have hlen : ds.length = fn.params.size := by
    have : ∀ {pts : List TypeId} {vs : List Value} {ds : List (DataW H)} {ps : List MemPlace}, DataW.TrodAll enc P W 0 (fun _ => true) true pts vs ds ps → ds.length = pts.length := by
      intro pts
      induction pts with
      | nil => intro vs ds ps h; cases vs <;> cases ds <;> simp [DataW.TrodAll] at h; rfl
      | cons t pts ih =>
        intro vs ds ps h
        cases vs with
        | nil => cases ds <;> simp [DataW.TrodAll] at h
        | cons v vs =>
          cases ds with
          | nil => simp [DataW.TrodAll] at h
          | cons d ds => obtain ⟨p, q, _, h2, _⟩ := h; simp [ih h2]
    simpa using this hA
  refine (hsem W (φall W) args k2).mono ?_
  rintro e W' ⟨v, rfl, φ', hgr, hret⟩
  refine ⟨v, rfl, ?_⟩
  rw [hrk] at hret
  obtain ⟨bs, r1, _⟩ := hret (.one (.val .deep (.bool true))) rfl
  have hc : CellR ⟨W, φall W, []⟩ W' φ' (.val .deep (.bool true)) v bs := r1 ⟨W, φall W, []⟩
  have hv : v = .bool true := hc.flat rfl
  subst hv
  have hlt := hW'.lt
  have hfn := hs ds hlen
  have e1 : (Value.bool true).resultList fn.resultTypes.size = [.bool true] := by rw [hres]; rfl
  refine post_of_same (pa := p) (pv := []) hW' ?_ ?_ ?_ rfl (hgr.below.frame _) hgr.frozen ?_
  · intro b sp hd
    rw [List.append_nil, hfn, e1, hres]
    exact ChangeShapes.trodAll_mk1 (shut_bool hb true)
  · intro sp hsp
    rw [List.append_nil, hfn]
    exact stays hl hgr.below (fun t ht => (hparams t ht).2) (fun x hx => hlt x (by simp [hx])) (fun x hx => hsp x (by simp [hx])) hA
  · intro sp hsp
    rw [hvars, List.append_nil, hfn]
    exact rfl
  · exact ok_one hres rfl (okWide_bool_mk hb true)
end
end Go.Proofs.Ytkiliooegoldoaa

/- Rules for what trees come to. -/
set_option linter.unusedVariables false
set_option linter.unusedSimpArgs false
namespace Go.Proofs.Ytkiliooegoldoaa
open Go

/-- The numbers that fit. -/
def inR (x : Int) : Prop := -9223372036854775808 ≤ x ∧ x ≤ 9223372036854775807

theorem wrap_i64 {x : Int} (h : inR x) : IntKind.wrap .i64 x = x := by
  unfold inR at h
  have e : IntKind.wrap .i64 x = if x % 18446744073709551616 ≥ 9223372036854775808 then x % 18446744073709551616 - 18446744073709551616 else x % 18446744073709551616 := by
    show (if (true && decide (x % 18446744073709551616 ≥ 9223372036854775808)) = true then x % 18446744073709551616 - 18446744073709551616 else x % 18446744073709551616) = _
    simp only [Bool.true_and, decide_eq_true_eq]
  rw [e]
  split <;> omega
theorem wrap_u64 {x : Int} (h0 : 0 ≤ x) (h1 : x < 18446744073709551616) : IntKind.wrap .u64 x = x := by
  show (if (false && decide (x % 18446744073709551616 ≥ 9223372036854775808)) = true then x % 18446744073709551616 - 18446744073709551616 else x % 18446744073709551616) = _
  simp only [Bool.false_and, Bool.false_eq_true, if_false]
  omega
theorem wrap_u64' {x : Int} (h0 : -18446744073709551616 < x) (h1 : x < 0) : IntKind.wrap .u64 x = x + 18446744073709551616 := by
  show (if (false && decide (x % 18446744073709551616 ≥ 9223372036854775808)) = true then x % 18446744073709551616 - 18446744073709551616 else x % 18446744073709551616) = _
  simp only [Bool.false_and, Bool.false_eq_true, if_false]
  omega
theorem wrap_u8 {x : Int} (h0 : 0 ≤ x) (h1 : x < 256) : IntKind.wrap .u8 x = x := by
  show (if (false && decide (x % 256 ≥ 128)) = true then x % 256 - 256 else x % 256) = _
  simp only [Bool.false_and, Bool.false_eq_true, if_false]
  omega
theorem bytes_toList (a b : ByteArray) : (a.toList == b.toList) = decide (a = b) := by
  rw [ByteArray.toList_eq, ByteArray.toList_eq]
  by_cases h : a = b
  · subst h; simp
  · have : a.data.toList ≠ b.data.toList := fun hn => h (Go.WideShapes.bytes_inj hn)
    rw [decide_eq_false h]
    simpa using this

theorem iffT {P : Prop} (h : P) : true = true ↔ P := ⟨fun _ => h, fun _ => rfl⟩
theorem iffF {P : Prop} (h : ¬ P) : false = true ↔ P := ⟨fun h' => absurd h' (by simp), fun h' => absurd h' h⟩
theorem iffD {P R : Prop} {i : Decidable P} (h : P ↔ R) : @decide P i = true ↔ R := by rw [decide_eq_true_eq]; exact h

def sameK : PV → PV → Bool
  | .int k _, .int k' _ => decide (k = k')
  | .bool _, .bool _ => true
  | .str _, .str _ => true
  | _, _ => false
def sameKs : List PV → List PV → Bool
  | [], [] => true
  | x :: xs, y :: ys => sameK x y && sameKs xs ys
  | _, _ => false
theorem sameScalar_iff {p q : PV} (h : sameK p q = true) : ∃ b, sameScalar p q = some b ∧ (b = true ↔ p = q) := by
  unfold sameK at h
  split at h
  · simp only [decide_eq_true_eq] at h
    subst h
    refine ⟨_, by simp [sameScalar]; rfl, by simp⟩
  · exact ⟨_, rfl, by simp⟩
  · refine ⟨_, rfl, ?_⟩
    rw [bytes_toList]; simp
  · cases h
theorem sameCells_iff : ∀ {ps qs : List PV}, sameKs ps qs = true → ∃ b, sameCells (ps.map fun p => (Lev.deep, p)) (qs.map fun p => (Lev.deep, p)) = some b ∧ (b = true ↔ ps = qs) := by
  intro ps
  induction ps with
  | nil => intro qs h; cases qs <;> simp [sameKs] at h; exact ⟨true, rfl, by simp⟩
  | cons p ps ih =>
    intro qs h
    cases qs with
    | nil => simp [sameKs] at h
    | cons q qs =>
      simp only [sameKs, Bool.and_eq_true] at h
      obtain ⟨b, h1, h2⟩ := sameScalar_iff h.1
      obtain ⟨c, h3, h4⟩ := ih h.2
      refine ⟨b && c, by simp only [List.map_cons, sameCells, h1, h3]; rfl, ?_⟩
      simp only [Bool.and_eq_true, h2, h4, List.cons.injEq]

section
variable {F : Nat → Option AFunc} {Q : List (List PV) → Prop} {t e : Tr} {Qs : Nat → List PV → Prop} {env : List PV} {a b c : At} {k : IntKind} {x y : Int}

theorem r_lett {p : Prim} {as : List At} {fl : Bool} (v : PV) (h : primDen p (as.map (At.den env)) = some v) (hf : v.flat = fl) (K : wp F Q t Qs (env ++ [v])) : wp F Q (.lett ⟨p, as, fl⟩ t) Qs env := ⟨v, h, hf, K⟩
theorem r_len {sz xs} (h : a.den env = .sl sz xs) (K : wp F Q t Qs (env ++ [I xs.length])) : wp F Q (.lett ⟨.len, [a], true⟩ t) Qs env :=
  ⟨_, by simp [primDen, h], rfl, K⟩
theorem r_lenS {s} (h : a.den env = .str s) (K : wp F Q t Qs (env ++ [I s.size])) : wp F Q (.lett ⟨.lenS, [a], true⟩ t) Qs env :=
  ⟨_, by simp [primDen, h], rfl, K⟩
section
variable (ha : a.den env = .int k x) (hb : b.den env = .int k y)
include ha hb
theorem r_lss (K : wp F Q t Qs (env ++ [.bool (decide (x < y))])) : wp F Q (.lett ⟨.bin .lss, [a, b], true⟩ t) Qs env :=
  ⟨_, by
    simp only [primDen, List.map_cons, List.map_nil, ha, hb]
    simp only [binS, PV.toV, Go.binOp, ne_eq, not_true, if_false]
    rfl, rfl, K⟩
theorem r_leq (K : wp F Q t Qs (env ++ [.bool (decide (x ≤ y))])) : wp F Q (.lett ⟨.bin .leq, [a, b], true⟩ t) Qs env :=
  ⟨_, by
    simp only [primDen, List.map_cons, List.map_nil, ha, hb]
    simp only [binS, PV.toV, Go.binOp, ne_eq, not_true, if_false]
    rfl, rfl, K⟩
theorem r_gtr (K : wp F Q t Qs (env ++ [.bool (decide (x > y))])) : wp F Q (.lett ⟨.bin .gtr, [a, b], true⟩ t) Qs env :=
  ⟨_, by
    simp only [primDen, List.map_cons, List.map_nil, ha, hb]
    simp only [binS, PV.toV, Go.binOp, ne_eq, not_true, if_false]
    rfl, rfl, K⟩
theorem r_geq (K : wp F Q t Qs (env ++ [.bool (decide (x ≥ y))])) : wp F Q (.lett ⟨.bin .geq, [a, b], true⟩ t) Qs env :=
  ⟨_, by
    simp only [primDen, List.map_cons, List.map_nil, ha, hb]
    simp only [binS, PV.toV, Go.binOp, ne_eq, not_true, if_false]
    rfl, rfl, K⟩
theorem r_eql (K : wp F Q t Qs (env ++ [.bool (decide (x = y))])) : wp F Q (.lett ⟨.bin .eql, [a, b], true⟩ t) Qs env :=
  ⟨.bool (decide (x = y)), by
    simp only [primDen, List.map_cons, List.map_nil, ha, hb]; simp only [binS, PV.toV, Go.binOp, ne_eq, not_true, if_false]
    show some (PV.bool (x == y)) = _
    first | rfl | (congr 2; by_cases h : x = y <;> simp [h]), rfl, K⟩
theorem r_neq (K : wp F Q t Qs (env ++ [.bool (decide (¬ x = y))])) : wp F Q (.lett ⟨.bin .neq, [a, b], true⟩ t) Qs env :=
  ⟨.bool (decide (¬ x = y)), by
    simp only [primDen, List.map_cons, List.map_nil, ha, hb]; simp only [binS, PV.toV, Go.binOp, ne_eq, not_true, if_false]
    show some (PV.bool (x != y)) = _
    congr 2; by_cases h : x = y <;> simp [h], rfl, K⟩
end
theorem r_add (ha : a.den env = I x) (hb : b.den env = I y) (hr : inR (x + y)) (K : wp F Q t Qs (env ++ [I (x + y)])) : wp F Q (.lett ⟨.bin .add, [a, b], true⟩ t) Qs env :=
  ⟨I (x + y), by
    simp only [primDen, List.map_cons, List.map_nil, ha, hb]; simp only [binS, PV.toV, Go.binOp, ne_eq, not_true, if_false]
    show some (PV.int .i64 (IntKind.wrap .i64 (x + y))) = _
    rw [wrap_i64 hr], rfl, K⟩
theorem r_sub (ha : a.den env = I x) (hb : b.den env = I y) (hr : inR (x - y)) (K : wp F Q t Qs (env ++ [I (x - y)])) : wp F Q (.lett ⟨.bin .sub, [a, b], true⟩ t) Qs env :=
  ⟨I (x - y), by
    simp only [primDen, List.map_cons, List.map_nil, ha, hb]; simp only [binS, PV.toV, Go.binOp, ne_eq, not_true, if_false]
    show some (PV.int .i64 (IntKind.wrap .i64 (x - y))) = _
    rw [wrap_i64 hr], rfl, K⟩
theorem r_mul (ha : a.den env = I x) (hb : b.den env = I y) (hr : inR (x * y)) (K : wp F Q t Qs (env ++ [I (x * y)])) : wp F Q (.lett ⟨.bin .mul, [a, b], true⟩ t) Qs env :=
  ⟨I (x * y), by
    simp only [primDen, List.map_cons, List.map_nil, ha, hb]; simp only [binS, PV.toV, Go.binOp, ne_eq, not_true, if_false]
    show some (PV.int .i64 (IntKind.wrap .i64 (x * y))) = _
    rw [wrap_i64 hr], rfl, K⟩
section
variable {s u : ByteArray} (ha : a.den env = .str s) (hb : b.den env = .str u)
include ha hb
theorem r_eqlS (K : wp F Q t Qs (env ++ [.bool (decide (s = u))])) : wp F Q (.lett ⟨.bin .eql, [a, b], true⟩ t) Qs env :=
  ⟨.bool (decide (s = u)), by
    simp only [primDen, List.map_cons, List.map_nil, ha, hb]
    show some (PV.bool (s.toList == u.toList)) = _
    rw [bytes_toList], rfl, K⟩
theorem r_neqS (K : wp F Q t Qs (env ++ [.bool (decide (¬ s = u))])) : wp F Q (.lett ⟨.bin .neq, [a, b], true⟩ t) Qs env :=
  ⟨.bool (decide (¬ s = u)), by
    simp only [primDen, List.map_cons, List.map_nil, ha, hb]
    show some (PV.bool (!(s.toList == u.toList))) = _
    rw [bytes_toList]; congr 2; by_cases h : s = u <;> simp [h], rfl, K⟩
theorem r_geqS (K : wp F Q t Qs (env ++ [.bool (!(Op.bytesLess s.toList u.toList))])) : wp F Q (.lett ⟨.bin .geq, [a, b], true⟩ t) Qs env :=
  ⟨.bool (!(Op.bytesLess s.toList u.toList)), by
    simp only [primDen, List.map_cons, List.map_nil, ha, hb]
    rfl, rfl, K⟩
theorem r_lssS (K : wp F Q t Qs (env ++ [.bool (Op.bytesLess s.toList u.toList)])) : wp F Q (.lett ⟨.bin .lss, [a, b], true⟩ t) Qs env :=
  ⟨.bool (Op.bytesLess s.toList u.toList), by
    simp only [primDen, List.map_cons, List.map_nil, ha, hb]
    rfl, rfl, K⟩
theorem r_addS (hl : s.size + u.size ≤ 9223372036854775807) (K : wp F Q t Qs (env ++ [.str (s ++ u)])) : wp F Q (.lett ⟨.bin .add, [a, b], true⟩ t) Qs env :=
  ⟨.str (s ++ u), by
    simp only [primDen, List.map_cons, List.map_nil, ha, hb]
    have : ¬ ((↑(s.size + u.size) : Int) > IntKind.i64.max) := by
      have : IntKind.i64.max = 9223372036854775807 := by decide
      rw [this]; omega
    simp only [binS, PV.toV, Go.binOp, Op.stringOp, if_neg this]
    rfl, rfl, K⟩
end
theorem r_not {b : Bool} (ha : a.den env = .bool b) (K : wp F Q t Qs (env ++ [.bool (!b)])) : wp F Q (.lett ⟨.un .not, [a], true⟩ t) Qs env :=
  ⟨.bool (!b), by simp only [primDen, List.map_cons, List.map_nil, ha]; rfl, rfl, K⟩
theorem r_eqB {p q neg : Bool} (ha : a.den env = .bool p) (hb : b.den env = .bool q) (K : wp F Q t Qs (env ++ [.bool (if neg then !(p == q) else p == q)])) : wp F Q (.lett ⟨.eqB neg, [a, b], true⟩ t) Qs env :=
  ⟨_, by simp only [primDen, List.map_cons, List.map_nil, ha, hb], rfl, K⟩
theorem r_conv {k' : IntKind} (ha : a.den env = .int k' x) (K : wp F Q t Qs (env ++ [.int k (k.wrap x)])) : wp F Q (.lett ⟨.conv k, [a], true⟩ t) Qs env :=
  ⟨_, by simp only [primDen, List.map_cons, List.map_nil, ha], rfl, K⟩
theorem r_addW {z : Int} (ha : a.den env = .int k x) (hb : b.den env = .int k y) (hr : IntKind.wrap k (x + y) = z) (K : wp F Q t Qs (env ++ [.int k z])) : wp F Q (.lett ⟨.bin .add, [a, b], true⟩ t) Qs env :=
  ⟨.int k z, by
    simp only [primDen, List.map_cons, List.map_nil, ha, hb]; simp only [binS, PV.toV, Go.binOp, ne_eq, not_true, if_false]
    show some (PV.int k (IntKind.wrap k (x + y))) = _
    rw [hr], rfl, K⟩
theorem r_quo {z : Int} (ha : a.den env = .int k x) (hb : b.den env = .int k y) (hy : y ≠ 0) (hr : IntKind.wrap k (x.tdiv y) = z) (K : wp F Q t Qs (env ++ [.int k z])) : wp F Q (.lett ⟨.bin .quo, [a, b], true⟩ t) Qs env :=
  ⟨.int k z, by
    simp only [primDen, List.map_cons, List.map_nil, ha, hb]; simp only [binS, PV.toV, Go.binOp, ne_eq, not_true, if_false, Op.intDiv, if_neg hy]
    show some (PV.int k (IntKind.wrap k (x.tdiv y))) = _
    rw [hr], rfl, K⟩
theorem r_rem (ha : a.den env = .int k x) (hb : b.den env = .int k y) (hy : y ≠ 0) (K : wp F Q t Qs (env ++ [.int k (x.tmod y)])) : wp F Q (.lett ⟨.bin .rem, [a, b], true⟩ t) Qs env :=
  ⟨.int k (x.tmod y), by
    simp only [primDen, List.map_cons, List.map_nil, ha, hb]; simp only [binS, PV.toV, Go.binOp, ne_eq, not_true, if_false, Op.intDiv, if_neg hy]
    rfl, rfl, K⟩
theorem r_neg {z : Int} (ha : a.den env = .int k x) (hr : IntKind.wrap k (0 - x) = z) (K : wp F Q t Qs (env ++ [.int k z])) : wp F Q (.lett ⟨.un .neg, [a], true⟩ t) Qs env :=
  ⟨.int k z, by
    simp only [primDen, List.map_cons, List.map_nil, ha]
    show some (PV.int k (IntKind.wrap k (0 - x))) = _
    rw [hr], rfl, K⟩
theorem r_convW {k' : IntKind} {z : Int} (ha : a.den env = .int k' x) (hr : IntKind.wrap k x = z) (K : wp F Q t Qs (env ++ [.int k z])) : wp F Q (.lett ⟨.conv k, [a], true⟩ t) Qs env :=
  ⟨_, by simp only [primDen, List.map_cons, List.map_nil, ha, hr], rfl, K⟩
theorem r_bytes {xs : List (List PV)} {l : List UInt8} (ha : a.den env = .sl 1 xs) (hl : bytesOfRows xs = some l) (K : wp F Q t Qs (env ++ [.str ⟨l.toArray⟩])) : wp F Q (.lett ⟨.bytesStr, [a], true⟩ t) Qs env :=
  ⟨.str ⟨l.toArray⟩, by simp only [primDen, List.map_cons, List.map_nil, ha, hl, Option.map_some], rfl, K⟩
theorem r_eqAgg {neg : Bool} {ks : List Nat} {as : List At} (ps qs : List PV) (ha : as.map (At.den env) = ps ++ qs) (hk : ps.map PV.kind = ks) (hs : sameKs ps qs = true)
    (K : ∀ b, (b = true ↔ ps = qs) → wp F Q t Qs (env ++ [.bool (if neg then !b else b)])) : wp F Q (.lett ⟨.eqAgg neg ks, as, true⟩ t) Qs env := by
  obtain ⟨b, h1, h2⟩ := sameCells_iff hs
  refine ⟨_, ?_, rfl, K b h2⟩
  have hl : ps.length = ks.length := by rw [← hk]; simp
  have h3 : List.take ks.length (ps ++ qs) = ps := by rw [← hl]; simp
  have h4 : List.drop ks.length (ps ++ qs) = qs := by rw [← hl]; simp
  simp only [primDen, ha, h3, h4, hk, if_true, h1, Option.map_some]
theorem r_neqAgg {ks : List Nat} {as : List At} (ps qs : List PV) (ha : as.map (At.den env) = ps ++ qs) (hk : ps.map PV.kind = ks) (hs : sameKs ps qs = true)
    (K : ∀ b, (b = true ↔ ps = qs) → wp F Q t Qs (env ++ [.bool (!b)])) : wp F Q (.lett ⟨.eqAgg true ks, as, true⟩ t) Qs env := r_eqAgg ps qs ha hk hs K
theorem r_max (ha : a.den env = .int k x) (hb : b.den env = .int k y) (K : wp F Q t Qs (env ++ [.int k (max x y)])) : wp F Q (.lett ⟨.max, [a, b], true⟩ t) Qs env :=
  ⟨.int k (max x y), by
    simp only [primDen, List.map_cons, List.map_nil, ha, hb, if_true, Option.some.injEq, PV.int.injEq, true_and]
    split <;> omega, rfl, K⟩
/-- An index is inside: the row is named. -/
theorem r_inb {sz xs} (ha : a.den env = .sl sz xs) (hb : b.den env = .int k x) (h0 : 0 ≤ x) (h1 : x < xs.length) (K : wp F Q t Qs (env ++ [.bool true])) : wp F Q (.lett ⟨.inb sz, [a, b], true⟩ t) Qs env :=
  ⟨.bool true, by
    simp only [primDen, List.map_cons, List.map_nil, ha, hb, nat?, if_pos h0, Option.bind_some]
    rw [if_pos ⟨trivial, by omega⟩], rfl, K⟩
theorem r_inbT {α : Type} {f : α → List PV} {l : List α} {sz} (ha : a.den env = .sl sz (l.map f)) (hb : b.den env = .int k x) (h0 : 0 ≤ x) (h1 : x < l.length)
    (K : ∀ e, l[x.toNat]? = some e → (l.map f)[x.toNat]? = some (f e) → wp F Q t Qs (env ++ [.bool true])) : wp F Q (.lett ⟨.inb sz, [a, b], true⟩ t) Qs env := by
  have hi : x.toNat < l.length := by omega
  exact r_inb ha hb h0 (by simpa using h1) (K l[x.toNat] (List.getElem?_eq_getElem hi) (by simp [hi]))
theorem r_get1 {sz xs j row q fl} (ha : a.den env = .sl sz xs) (hb : b.den env = .int k x) (hrow : xs[x.toNat]? = some row) (hq : row[j]? = some q) (hf : q.flat = fl) (K : wp F Q t Qs (env ++ [q])) :
    wp F Q (.lett ⟨.get [(sz, j)], [a, b], fl⟩ t) Qs env :=
  ⟨q, by
    simp only [primDen, List.map_cons, List.map_nil, ha, hb, zipPath, idxNat, pget, if_true, hrow, hq], hf, K⟩
theorem r_set1 {sz xs j row news as} (ha : a.den env = .sl sz xs) (hb : b.den env = .int k x) (hrow : xs[x.toNat]? = some row) (hn : as.map (At.den env) = news) (hl : j + news.length ≤ row.length)
    (K : wp F Q t Qs (env ++ [.sl sz (xs.set x.toNat (rowSet row j news))])) : wp F Q (.lett ⟨.set [(sz, j)], a :: b :: as, false⟩ t) Qs env :=
  ⟨_, by
    simp only [primDen, List.map_cons, ha, hb, zipPath, hn, List.length_cons, List.length_nil, List.drop_succ_cons, List.drop_zero]
    simp only [zipPath, idxNat]
    simp only [pset, if_true, hrow, if_pos hl], rfl, K⟩
theorem r_make {sz zs} (ha : a.den env = .int k x) (h0 : 0 ≤ x) (h1 : x ≤ 1099511627776) (K : wp F Q t Qs (env ++ [.sl sz (List.replicate x.toNat zs)])) : wp F Q (.lett ⟨.make sz zs, [a], false⟩ t) Qs env :=
  ⟨_, by
    simp only [primDen, List.map_cons, List.map_nil, ha, nat?, if_pos h0, Option.bind_some]
    rw [if_pos (by omega)], rfl, K⟩
theorem r_app {sz bytes c1 c2 xs ys} (ha : a.den env = .sl sz xs) (hb : b.den env = .sl sz ys) (h1 : c1 = true → flatRows xs = true) (h2 : c2 = true → flatRows ys = true) (hl : (xs.length + ys.length) * bytes ≤ 140737488355328)
    (K : wp F Q t Qs (env ++ [.sl sz (xs ++ ys)])) : wp F Q (.lett ⟨.app sz bytes c1 c2, [a, b], false⟩ t) Qs env :=
  ⟨_, by
    simp only [primDen, List.map_cons, List.map_nil, ha, hb]
    rw [if_pos ⟨trivial, trivial, h1, h2, hl⟩], rfl, K⟩
theorem r_appStr {xs : List (List PV)} {s : ByteArray} (ha : a.den env = .sl 1 xs) (hb : b.den env = .str s) (hl : xs.length + s.size ≤ 140737488355328) (K : wp F Q t Qs (env ++ [.sl 1 (xs ++ bytesPV s)])) : wp F Q (.lett ⟨.appStr, [a, b], false⟩ t) Qs env :=
  ⟨_, by
    simp only [primDen, List.map_cons, List.map_nil, ha, hb]
    rw [if_pos hl], rfl, K⟩
theorem r_mk {sz rows as xs} (h : splitBy rows (as.map (At.den env)) = xs) (K : wp F Q t Qs (env ++ [.sl sz xs])) : wp F Q (.lett ⟨.mk sz rows, as, false⟩ t) Qs env :=
  ⟨_, by simp only [primDen, h], rfl, K⟩
theorem r_ix {s : ByteArray} (ha : a.den env = .str s) (hb : b.den env = .int k x) (h0 : 0 ≤ x) (h1 : x < s.size) (K : ∀ v, s[x.toNat]? = some v → wp F Q t Qs (env ++ [.int .u8 v.toNat])) :
    wp F Q (.lett ⟨.ix, [a, b], true⟩ t) Qs env := by
  have hi : x.toNat < s.size := by omega
  refine ⟨_, ?_, ?_, K _ (getElem?_pos s x.toNat hi)⟩
  · simp only [primDen, List.map_cons, List.map_nil, ha, hb, nat?, if_pos h0, Option.bind_some, getElem?_pos s x.toNat hi, Option.map_some]
  · rfl

theorem r_ite {b : Bool} (h : a.den env = .bool b) (h1 : b = true → wp F Q t Qs env) (h2 : b = false → wp F Q e Qs env) : wp F Q (.ite a t e) Qs env := by
  refine ⟨b, h, ?_⟩
  cases b
  · simpa using h2 rfl
  · simpa using h1 rfl
theorem r_iteP {p : Prop} {i : Decidable p} (h : a.den env = .bool (@decide p i)) (h1 : p → wp F Q t Qs env) (h2 : ¬ p → wp F Q e Qs env) : wp F Q (.ite a t e) Qs env :=
  r_ite h (fun h => h1 (of_decide_eq_true h)) fun h => h2 (of_decide_eq_false h)
theorem r_iteN {b : Bool} (h : a.den env = .bool (!b)) (h1 : b = false → wp F Q t Qs env) (h2 : b = true → wp F Q e Qs env) : wp F Q (.ite a t e) Qs env :=
  r_ite h (fun h => h1 (by simpa using h)) fun h => h2 (by simpa using h)
theorem r_iteNP {p : Prop} {i : Decidable p} (h : a.den env = .bool (!(@decide p i))) (h1 : ¬ p → wp F Q t Qs env) (h2 : p → wp F Q e Qs env) : wp F Q (.ite a t e) Qs env :=
  r_iteN h (fun h => h1 (of_decide_eq_false h)) fun h => h2 (of_decide_eq_true h)
theorem r_call {f : Nat} {as : List (List At)} {fls : List (List Bool)} {args rs} (hb : Big F (.fn f args rs)) (ha : as.map (fun r => r.map (At.den env)) = args) (hf : rs.map (fun r => r.map PV.flat) = fls) (K : wp F Q t Qs (env ++ rs.flatten)) :
    wp F Q (.call f as fls t) Qs env := ⟨rs, by rw [ha]; exact hb, hf, K⟩
theorem r_callQ {f : Nat} {as : List (List At)} {fls : List (List Bool)} {args} {R : List (List PV) → Prop} (hw : ∃ rs, Big F (.fn f args rs) ∧ R rs) (ha : as.map (fun r => r.map (At.den env)) = args)
    (K : ∀ rs, R rs → rs.map (fun r => r.map PV.flat) = fls ∧ wp F Q t Qs (env ++ rs.flatten)) : wp F Q (.call f as fls t) Qs env := by
  obtain ⟨rs, hb, hr⟩ := hw
  exact r_call hb ha (K rs hr).1 (K rs hr).2
theorem r_loop {L : Nat} {inits : List At} (Inv : Nat → List PV → Prop) (m0 : Nat) (h0 : Inv m0 (inits.map (At.den env)))
    (h : ∀ m vs, Inv m vs → wp F Q t (updQ Qs L fun vs' => ∃ m', m' < m ∧ Inv m' vs') (env ++ vs)) : wp F Q (.loop L inits t) Qs env :=
  ⟨Inv, ⟨m0, h0⟩, fun m vs _ hi => h m vs hi⟩
theorem r_join {L : Nat} {fls : List Bool} (J : List PV → Prop) (h1 : wp F Q t (updQ Qs L J) env) (h2 : ∀ vs, J vs → wp F Q e Qs (env ++ vs)) : wp F Q (.join L fls t e) Qs env :=
  ⟨J, h1, fun vs _ hj => h2 vs hj⟩
theorem r_again {L : Nat} {as : List At} {R : List PV → Prop} (h : R (as.map (At.den env))) : wp F Q (.again L as) (updQ Qs L R) env := by
  show updQ Qs L R L _
  simpa [updQ] using h
theorem r_again' {L L' : Nat} {as : List At} {R : List PV → Prop} (hL : L ≠ L') (h : wp F Q (.again L as) Qs env) : wp F Q (.again L as) (updQ Qs L' R) env := by
  show updQ Qs L' R L _
  have h' : Qs L _ := h
  simpa [updQ, hL] using h'
theorem r_ret {rs : List (List At)} {vs} (hv : rs.map (fun r => r.map (At.den env)) = vs) (h : Q vs) : wp F Q (.ret rs) Qs env := by
  show Q _
  rw [hv]; exact h
end
end Go.Proofs.Ytkiliooegoldoaa

/- Readings of inputs as plain data: steps. -/
set_option linter.unusedVariables false
set_option linter.unusedSimpArgs false
namespace Go.Proofs.Ytkiliooegoldoaa
open Go

section
variable {P : Program}
theorem inv_sl {t e a} (h : P.underlying t = some (.slice e)) (ha : HasT P t a) : ∃ xs, a = [.sl (P.cellsOf e) xs] ∧ xs.length ≤ maxLen ∧ ∀ r ∈ xs, HasT P e r := by
  cases ha with
  | bool h' => rw [h] at h'; simp at h'
  | int h' => rw [h] at h'; simp at h'
  | str h' => rw [h] at h'; simp at h'
  | struct h' => rw [h] at h'; simp at h'
  | sl h' hl hr =>
    rw [h] at h'
    simp only [Option.some.injEq, TypeDesc.slice.injEq] at h'
    subst h'
    refine ⟨_, rfl, hl, fun r hr' => ?_⟩
    obtain ⟨i, hi, he⟩ := List.getElem_of_mem hr'
    exact hr i r (by rw [List.getElem?_eq_getElem hi, he])
theorem inv_int {t k a} (h : P.underlying t = some (.int k)) (ha : HasT P t a) : ∃ n, a = [.int k n] ∧ (Lit.int k n).wf = true := by
  cases ha with
  | bool h' => rw [h] at h'; simp at h'
  | int h' hw =>
    rw [h] at h'
    simp only [Option.some.injEq, TypeDesc.int.injEq] at h'
    subst h'
    exact ⟨_, rfl, hw⟩
  | str h' => rw [h] at h'; simp at h'
  | struct h' => rw [h] at h'; simp at h'
  | sl h' => rw [h] at h'; simp at h'
theorem inv_i64 {t a} (h : P.underlying t = some (.int .i64)) (ha : HasT P t a) : ∃ n, a = [I n] ∧ inR n := by
  obtain ⟨n, rfl, hw⟩ := inv_int h ha
  refine ⟨n, rfl, ?_⟩
  simp only [Lit.wf, Bool.and_eq_true, decide_eq_true_eq] at hw
  have h1 : IntKind.i64.min = -9223372036854775808 := by decide
  have h2 : IntKind.i64.max = 9223372036854775807 := by decide
  rw [h1, h2] at hw
  exact hw
theorem inv_str {t a} (h : P.underlying t = some .string) (ha : HasT P t a) : ∃ s, a = [.str s] ∧ s.size ≤ maxLen := by
  cases ha with
  | bool h' => rw [h] at h'; simp at h'
  | int h' => rw [h] at h'; simp at h'
  | str h' hw => exact ⟨_, rfl, hw⟩
  | struct h' => rw [h] at h'; simp at h'
  | sl h' => rw [h] at h'; simp at h'
theorem inv_bool {t a} (h : P.underlying t = some .bool) (ha : HasT P t a) : ∃ b, a = [.bool b] := by
  cases ha with
  | bool h' => exact ⟨_, rfl⟩
  | int h' => rw [h] at h'; simp at h'
  | str h' => rw [h] at h'; simp at h'
  | struct h' => rw [h] at h'; simp at h'
  | sl h' => rw [h] at h'; simp at h'
theorem hasTs_of {tys : List TypeId} : ∀ {pss : List (List PV)}, pss.length = tys.length → (∀ (i : Nat) t ps, tys[i]? = some t → pss[i]? = some ps → HasT P t ps) → HasTs P tys pss := by
  induction tys with
  | nil => intro pss hl _; cases pss <;> simp at hl; trivial
  | cons t tys ih =>
    intro pss hl h
    cases pss with
    | nil => simp at hl
    | cons ps pss => exact ⟨h 0 t ps rfl rfl, ih (by simpa using hl) fun i t ps h1 h2 => h (i + 1) t ps (by simpa using h1) (by simpa using h2)⟩
/-- The types of a struct's fields. -/
def isStruct (P : Program) (t : TypeId) (tys : List TypeId) : Bool := match P.underlying t with
  | some (.struct fs) => fs.toList.map Field.type == tys
  | _ => false
theorem inv_struct {t tys a} (h : isStruct P t tys = true) (ha : HasT P t a) : ∃ pss, a = pss.flatten ∧ HasTs P tys pss := by
  unfold isStruct at h
  split at h
  · rename_i fs hu
    have hty : fs.toList.map Field.type = tys := by simpa using h
    cases ha with
    | bool h' => rw [hu] at h'; simp at h'
    | int h' => rw [hu] at h'; simp at h'
    | str h' => rw [hu] at h'; simp at h'
    | sl h' => rw [hu] at h'; simp at h'
    | struct h' hl hr =>
      rw [hu] at h'
      simp only [Option.some.injEq, TypeDesc.struct.injEq] at h'
      subst h'
      refine ⟨_, rfl, hasTs_of (by rw [← hty]; simpa using hl) fun i t ps h1 h2 => ?_⟩
      rw [← hty, List.getElem?_map, Option.map_eq_some_iff] at h1
      obtain ⟨f, hf, rfl⟩ := h1
      exact hr i f ps (by simpa using hf) h2
  · cases h
theorem list_of {α : Type} {R : List PV → α → Prop} : ∀ {xs : List (List PV)}, (∀ r ∈ xs, ∃ x, R r x) → ∃ l : List α, l.length = xs.length ∧ ∀ (i : Nat) r x, xs[i]? = some r → l[i]? = some x → R r x := by
  intro xs
  induction xs with
  | nil => intro _; exact ⟨[], rfl, fun i r x h => by simp at h⟩
  | cons r xs ih =>
    intro h
    obtain ⟨x, hx⟩ := h r (by simp)
    obtain ⟨l, h1, h2⟩ := ih fun r' hr' => h r' (by simp [hr'])
    refine ⟨x :: l, by simp [h1], fun i r' x' hr hx' => ?_⟩
    cases i with
    | zero => simp at hr hx'; subst hr; subst hx'; exact hx
    | succ i => exact h2 i r' x' (by simpa using hr) (by simpa using hx')
/-- Rows that all read as data. -/
theorem rows_of {α : Type} {f : α → List PV} {ok : α → Prop} : ∀ {xs : List (List PV)}, (∀ r ∈ xs, ∃ x, r = f x ∧ ok x) → ∃ l : List α, xs = l.map f ∧ ∀ x ∈ l, ok x := by
  intro xs
  induction xs with
  | nil => intro _; exact ⟨[], rfl, by simp⟩
  | cons r xs ih =>
    intro h
    obtain ⟨x, rfl, hx⟩ := h r (by simp)
    obtain ⟨l, rfl, h2⟩ := ih fun r' hr' => h r' (by simp [hr'])
    refine ⟨x :: l, rfl, fun y hy => ?_⟩
    rcases List.mem_cons.1 hy with rfl | hy
    · exact hx
    · exact h2 y hy
end

/-! ### Steps -/
structure Stp where
  k : Int
  s : ByteArray
  n : Int
def Stp.row (x : Stp) : List PV := [I x.k, .str x.s, I x.n]
def Stp.ok (x : Stp) : Prop := inR x.k ∧ x.s.size ≤ maxLen ∧ inR x.n
abbrev stps (l : List Stp) : PV := .sl 3 (l.map Stp.row)
def stpsOk (l : List Stp) : Prop := l.length ≤ maxLen ∧ ∀ x ∈ l, x.ok
theorem Stp.row_inj {x y : Stp} (h : x.row = y.row) : x = y := by
  cases x; cases y
  simp [Stp.row] at h
  simp [h]
theorem stps_of {P : Program} {tS tR ti ts a} (h1 : P.underlying tS = some (.slice tR)) (hc : P.cellsOf tR = 3) (h2 : isStruct P tR [ti, ts, ti] = true) (h3 : P.underlying ti = some (.int .i64)) (h4 : P.underlying ts = some .string)
    (ha : HasT P tS a) : ∃ l, a = [stps l] ∧ stpsOk l := by
  obtain ⟨xs, rfl, hl, hr⟩ := inv_sl h1 ha
  obtain ⟨l, rfl, hok⟩ := rows_of (f := Stp.row) (ok := Stp.ok) (xs := xs) fun r hr' => by
    obtain ⟨pss, rfl, hp⟩ := inv_struct h2 (hr r hr')
    match pss, hp with
    | [p0, p1, p2], ⟨q0, q1, q2, _⟩ =>
      obtain ⟨k, rfl, hk⟩ := inv_i64 h3 q0
      obtain ⟨s, rfl, hs⟩ := inv_str h4 q1
      obtain ⟨n, rfl, hn⟩ := inv_i64 h3 q2
      exact ⟨⟨k, s, n⟩, rfl, hk, hs, hn⟩
  exact ⟨l, by rw [hc], by simpa using hl, hok⟩
end Go.Proofs.Ytkiliooegoldoaa

/- Lists of rows: the functions that measure, copy and compare them. -/
set_option linter.unusedVariables false
set_option linter.unusedSimpArgs false
namespace Go.Proofs.Ytkiliooegoldoaa
open Go

theorem den_at {env rest : List PV} {n : Nat} {x : PV} {fl : Bool} (hn : env.length = n) (hf : x.flat = fl) : (At.v n fl).den (env ++ x :: rest) = x := by
  subst hn
  simp only [At.den, List.getD_eq_getElem?_getD, List.getElem?_append_right (Nat.le_refl _), Nat.sub_self, List.getElem?_cons_zero, Option.getD_some]
  exact PV.coe_eq hf
theorem den_ext {env rest : List PV} {i : Nat} {fl : Bool} (h : i < env.length) : (At.v i fl).den (env ++ rest) = (At.v i fl).den env := At.ext (by simpa [At.lt] using h)

def gets (a b : At) (w : Nat) : Nat → List Bool → Tr → Tr
  | _, [], t => t
  | j, fl :: fls, t => .lett ⟨.get [(w, j)], [a, b], fl⟩ (gets a b w (j + 1) fls t)
section
variable {F : Nat → Option AFunc} {Q : List (List PV) → Prop} {t : Tr} {Qs : Nat → List PV → Prop}
theorem gets_wp {a b : At} {w : Nat} {k : IntKind} {x : Int} {xs row} (hrow : xs[x.toNat]? = some row) : ∀ {fls : List Bool} {env : List PV} {j : Nat}, a.lt env.length = true → b.lt env.length = true → a.den env = .sl w xs → b.den env = .int k x →
    (row.drop j).map PV.flat = fls → wp F Q t Qs (env ++ row.drop j) → wp F Q (gets a b w j fls t) Qs env := by
  intro fls
  induction fls with
  | nil =>
    intro env j _ _ _ _ hf h
    have : row.drop j = [] := by simpa using hf
    rw [this, List.append_nil] at h
    exact h
  | cons fl fls ih =>
    intro env j hla hlb ha hb hf h
    cases hd : row.drop j with
    | nil => rw [hd] at hf; simp at hf
    | cons q qs =>
      have hq : row[j]? = some q := by rw [← List.head?_drop, hd]; rfl
      have hd' : row.drop (j + 1) = qs := by rw [← List.tail_drop, hd]; rfl
      rw [hd] at hf h
      simp only [List.map_cons, List.cons.injEq] at hf
      refine r_get1 ha hb hrow hq hf.1 ?_
      have hlt : ∀ {c : At}, c.lt env.length = true → c.lt (env ++ [q]).length = true := by
        intro c hc
        cases c with
        | v i f => simp [At.lt] at hc ⊢; omega
        | c p => rfl
      refine ih (hlt hla) (hlt hlb) (by rw [At.ext hla, ha]) (by rw [At.ext hlb, hb]) (by rw [hd']; exact hf.2) ?_
      rw [hd']; simpa using h
end

/-! ### Measured -/
def szTree (w : Nat) (fls : List Bool) (callee : Nat) : Tr :=
  .lett ⟨.len, [vs 0], true⟩ (.lett ⟨.bin .sub, [vf 1, vf 2], true⟩ (.lett ⟨.bin .lss, [vf 3, .c (I 0)], true⟩ (.ite (vf 4) (.ret [[.c (I (-1))]])
  (.loop 0 [vf 3, .c (I 0)] (.lett ⟨.len, [vs 0], true⟩ (.lett ⟨.bin .lss, [vf 6, vf 7], true⟩ (.ite (vf 8)
    (.lett ⟨.inb w, [vs 0, vf 6], true⟩ (gets (vs 0) (vf 6) w 0 fls (.call callee [fresh 10 fls, [vf 5]] [[true]]
      (.lett ⟨.bin .lss, [vf (10 + w), .c (I 0)], true⟩ (.ite (vf (11 + w)) (.ret [[.c (I (-1))]])
        (.lett ⟨.bin .add, [vf 6, .c (I 1)], true⟩ (.again 0 [vf (10 + w), vf (12 + w)])))))))
    (.ret [[vf 5]])))))))) 
def sumC (c : List PV → Nat) (xs : List (List PV)) : Nat := (xs.map c).sum
theorem sumC_snoc {c : List PV → Nat} {xs : List (List PV)} {i : Nat} {r : List PV} (h : xs[i]? = some r) : sumC c (xs.take (i + 1)) = sumC c (xs.take i) + c r := by
  rw [List.take_add_one, h]; simp [sumC]

section
variable {F : Nat → Option AFunc} {hint : Hint} {k : Nat} {fd : AFunc} {w : Nat} {fls : List Bool} {callee : Nat}

theorem szList (hF : F k = some fd) (hc : compFn F hint fd [[false], [true]] = some (szTree w fls callee)) (c : List PV → Nat) {xs : List (List PV)} (hw : fls.length = w) (hl : xs.length ≤ 9223372036854775807) (hfl : ∀ r ∈ xs, r.map PV.flat = fls)
    {left : Int} (h0 : 0 ≤ left) (h1 : left ≤ 9223372036854775807)
    (hcal : ∀ r ∈ xs, ∀ lf : Int, 0 ≤ lf → lf ≤ left → ∃ rs, Big F (.fn callee [r, [I lf]] rs) ∧ ∃ x, rs = [[I x]] ∧ (x = -1 ∨ (0 ≤ x ∧ x + c r ≤ lf))) :
    ∃ rs, Big F (.fn k [[.sl w xs], [I left]] rs) ∧ ∃ x, rs = [[I x]] ∧ (x = -1 ∨ (0 ≤ x ∧ x + (xs.length + sumC c xs : Nat) ≤ left)) := by
  refine tr_sound hF hc rfl ?_
  show wp _ _ _ _ [.sl w xs, I left]
  refine r_len rfl ?_
  refine r_sub rfl rfl (by simp only [inR] at *; omega) ?_
  refine r_lss rfl rfl ?_
  refine r_iteP rfl (fun h => ?_) (fun h => ?_)
  · exact r_ret rfl ⟨_, rfl, Or.inl rfl⟩
  refine r_loop (fun m vs => ∃ (lf : Int) (i : Nat), vs = [I lf, I i] ∧ i ≤ xs.length ∧ 0 ≤ lf ∧ lf + (xs.length + sumC c (xs.take i) : Nat) ≤ left ∧ m = xs.length - i) _ ⟨_, 0, rfl, by omega, by omega, by simp [sumC], rfl⟩ ?_
  rintro m _ ⟨lf, i, rfl, hi, hf0, hf1, rfl⟩
  refine r_len rfl ?_
  refine r_lss rfl rfl ?_
  refine r_iteP rfl (fun h => ?_) (fun h => ?_)
  · have hi' : i < xs.length := by omega
    refine r_inb rfl rfl (by omega) (by omega) ?_
    obtain ⟨r, hr⟩ : ∃ r, xs[i]? = some r := ⟨_, List.getElem?_eq_getElem hi'⟩
    have hm := List.mem_of_getElem? hr
    refine gets_wp (xs := xs) (row := r) (k := .i64) (x := i) (by simpa using hr) rfl rfl rfl rfl (by rw [List.drop_zero]; exact hfl r hm) ?_
    rw [List.drop_zero]
    obtain ⟨rs, hb, x, rfl, hx⟩ := hcal r hm lf hf0 (by omega)
    have hrl : r.length = w := by rw [← hw, ← hfl r hm]; simp
    generalize hE : ([PV.sl w xs, I left] ++ [I xs.length] ++ [I (left - xs.length)] ++ [PV.bool (decide (left - xs.length < 0))] ++ [I lf, I i] ++ [I xs.length] ++ [PV.bool (decide ((i : Int) < xs.length))] ++ [PV.bool true]) = E
    have hEl : E.length = 10 := by rw [← hE]; rfl
    have e5 : ∀ rest, (vf 5).den (E ++ rest) = I lf := fun rest => by rw [den_ext (by omega), ← hE]; rfl
    have e6 : ∀ rest, (vf 6).den (E ++ rest) = I i := fun rest => by rw [den_ext (by omega), ← hE]; rfl
    have hEr : (E ++ r).length = 10 + w := by simp [hEl, hrl]
    have hEr1 : (E ++ r ++ [I x]).length = 11 + w := by simp [hEl, hrl]; omega
    have hEr2 : (E ++ r ++ [I x] ++ [PV.bool (decide (x < 0))]).length = 12 + w := by simp [hEl, hrl]; omega
    refine r_call hb (by simp only [List.map_cons, List.map_nil, fresh_den' hEl (hfl r hm), e5]) rfl ?_
    simp only [List.flatten_cons, List.flatten_nil, List.append_nil]
    refine r_lss (x := x) (y := 0) (k := .i64) (den_at hEr rfl) rfl ?_
    refine r_iteP (den_at (rest := []) hEr1 rfl) (fun h => ?_) (fun h => ?_)
    · exact r_ret rfl ⟨_, rfl, Or.inl rfl⟩
    refine r_add (x := i) (y := 1) (by simp only [List.append_assoc]; exact e6 _) rfl (by simp only [inR] at *; omega) ?_
    have es : sumC c (xs.take (i + 1)) = sumC c (xs.take i) + c r := sumC_snoc hr
    refine r_again ⟨xs.length - (i + 1), by omega, x, i + 1, ?_, by omega, by omega, by omega, rfl⟩
    have d1 : (vf (10 + w)).den (E ++ r ++ [I x] ++ [PV.bool (decide (x < 0))] ++ [I (i + 1)]) = I x := by
      rw [List.append_assoc (E ++ r), List.append_assoc (E ++ r)]; exact den_at hEr rfl
    have d2 : (vf (12 + w)).den (E ++ r ++ [I x] ++ [PV.bool (decide (x < 0))] ++ [I (i + 1)]) = I (i + 1) := den_at hEr2 rfl
    simp only [List.map_cons, List.map_nil, d1, d2]
    rfl
  · exact r_ret (vs := [[I lf]]) rfl ⟨lf, rfl, Or.inr ⟨by omega, by
      have : i = xs.length := by omega
      subst this
      rw [List.take_length] at hf1
      exact hf1⟩⟩

theorem szListT {α : Type} (f : α → List PV) (hF : F k = some fd) (hc : compFn F hint fd [[false], [true]] = some (szTree w fls callee)) (c : α → Nat) {l : List α} (hw : fls.length = w) (hl : l.length ≤ 9223372036854775807) (hfl : ∀ e, (f e).map PV.flat = fls)
    {left : Int} (h0 : 0 ≤ left) (h1 : left ≤ 9223372036854775807)
    (hcal : ∀ e ∈ l, ∀ lf : Int, 0 ≤ lf → lf ≤ left → ∃ rs, Big F (.fn callee [f e, [I lf]] rs) ∧ ∃ x, rs = [[I x]] ∧ (x = -1 ∨ (0 ≤ x ∧ x + c e ≤ lf))) :
    ∃ rs, Big F (.fn k [[.sl w (l.map f)], [I left]] rs) ∧ ∃ x, rs = [[I x]] ∧ (x = -1 ∨ (0 ≤ x ∧ x + (l.length + (l.map c).sum : Nat) ≤ left)) := by
  have hlen : (l.map f).length = l.length := List.length_map ..
  generalize hxs : l.map f = xs at *
  refine tr_sound hF hc rfl ?_
  show wp _ _ _ _ [.sl w xs, I left]
  refine r_len rfl ?_
  refine r_sub rfl rfl (by simp only [inR] at *; omega) ?_
  refine r_lss rfl rfl ?_
  refine r_iteP rfl (fun h => ?_) (fun h => ?_)
  · exact r_ret rfl ⟨_, rfl, Or.inl rfl⟩
  refine r_loop (fun m vs => ∃ (lf : Int) (i : Nat), vs = [I lf, I i] ∧ i ≤ xs.length ∧ 0 ≤ lf ∧ lf + (xs.length + ((l.take i).map c).sum : Nat) ≤ left ∧ m = xs.length - i) _ ⟨_, 0, rfl, by omega, by omega, by simp, rfl⟩ ?_
  rintro m _ ⟨lf, i, rfl, hi, hf0, hf1, rfl⟩
  refine r_len rfl ?_
  refine r_lss rfl rfl ?_
  refine r_iteP rfl (fun h => ?_) (fun h => ?_)
  · have hi' : i < xs.length := by omega
    refine r_inb rfl rfl (by omega) (by omega) ?_
    obtain ⟨e, he⟩ : ∃ e, l[i]? = some e := ⟨_, List.getElem?_eq_getElem (by omega)⟩
    have hm := List.mem_of_getElem? he
    have hr : xs[i]? = some (f e) := by rw [← hxs, List.getElem?_map, he]; rfl
    have hfe := hfl e
    refine gets_wp (xs := xs) (row := f e) (k := .i64) (x := i) (by simpa using hr) rfl rfl rfl rfl (by rw [List.drop_zero]; exact hfe) ?_
    rw [List.drop_zero]
    obtain ⟨rs, hb, x, rfl, hx⟩ := hcal e hm lf hf0 (by omega)
    have hrl : (f e).length = w := by rw [← hw, ← hfe]; simp
    have es : ((l.take (i + 1)).map c).sum = ((l.take i).map c).sum + c e := by rw [List.take_add_one, he]; simp
    generalize f e = r at *
    generalize hE : ([PV.sl w xs, I left] ++ [I xs.length] ++ [I (left - xs.length)] ++ [PV.bool (decide (left - xs.length < 0))] ++ [I lf, I i] ++ [I xs.length] ++ [PV.bool (decide ((i : Int) < xs.length))] ++ [PV.bool true]) = E
    have hEl : E.length = 10 := by rw [← hE]; rfl
    have e5 : ∀ rest, (vf 5).den (E ++ rest) = I lf := fun rest => by rw [den_ext (by omega), ← hE]; rfl
    have e6 : ∀ rest, (vf 6).den (E ++ rest) = I i := fun rest => by rw [den_ext (by omega), ← hE]; rfl
    have hEr : (E ++ r).length = 10 + w := by simp [hEl, hrl]
    have hEr1 : (E ++ r ++ [I x]).length = 11 + w := by simp [hEl, hrl]; omega
    have hEr2 : (E ++ r ++ [I x] ++ [PV.bool (decide (x < 0))]).length = 12 + w := by simp [hEl, hrl]; omega
    refine r_call hb (by simp only [List.map_cons, List.map_nil, fresh_den' hEl (hfe), e5]) rfl ?_
    simp only [List.flatten_cons, List.flatten_nil, List.append_nil]
    refine r_lss (x := x) (y := 0) (k := .i64) (den_at hEr rfl) rfl ?_
    refine r_iteP (den_at (rest := []) hEr1 rfl) (fun h => ?_) (fun h => ?_)
    · exact r_ret rfl ⟨_, rfl, Or.inl rfl⟩
    refine r_add (x := i) (y := 1) (by simp only [List.append_assoc]; exact e6 _) rfl (by simp only [inR] at *; omega) ?_
    refine r_again ⟨xs.length - (i + 1), by omega, x, i + 1, ?_, by omega, by omega, by omega, rfl⟩
    have d1 : (vf (10 + w)).den (E ++ r ++ [I x] ++ [PV.bool (decide (x < 0))] ++ [I (i + 1)]) = I x := by
      rw [List.append_assoc (E ++ r), List.append_assoc (E ++ r)]; exact den_at hEr rfl
    have d2 : (vf (12 + w)).den (E ++ r ++ [I x] ++ [PV.bool (decide (x < 0))] ++ [I (i + 1)]) = I (i + 1) := den_at hEr2 rfl
    simp only [List.map_cons, List.map_nil, d1, d2]
    rfl
  · exact r_ret (vs := [[I lf]]) rfl ⟨lf, rfl, Or.inr ⟨by omega, by
      have : i = xs.length := by omega
      subst this
      rw [hlen, List.take_length] at hf1
      exact hf1⟩⟩

/-! ### Copied -/
def toTree (w w' : Nat) (zs : List PV) (fls fls' : List Bool) (callee : Nat) : Tr :=
  .lett ⟨.len, [vs 0], true⟩ (.lett ⟨.make w' zs, [vf 1], false⟩
  (.loop 0 [vs 2, .c (I 0)] (.lett ⟨.len, [vs 0], true⟩ (.lett ⟨.bin .lss, [vf 4, vf 5], true⟩ (.ite (vf 6)
    (.lett ⟨.inb w, [vs 0, vf 4], true⟩ (gets (vs 0) (vf 4) w 0 fls (.call callee [fresh 8 fls] [fls']
      (.lett ⟨.inb w', [vs 3, vf 4], true⟩ (.lett ⟨.set [(w', 0)], vs 3 :: vf 4 :: fresh (8 + w) fls', false⟩
        (.lett ⟨.bin .add, [vf 4, .c (I 1)], true⟩ (.again 0 [vs (9 + w + w'), vf (10 + w + w')])))))))
    (.ret [[vs 3]]))))))
theorem copy_row {T : List (List PV)} {z : List PV} {i n : Nat} (hi : i < n) (hn : n = T.length) : (T.take i ++ List.replicate (n - i) z)[i]? = some z := by
  rw [List.getElem?_append_right (by simp; omega)]
  have : i - (T.take i).length = 0 := by simp; omega
  rw [this, List.getElem?_replicate, if_pos (by omega)]
theorem copy_set {T : List (List PV)} {z r : List PV} {i n : Nat} (hi : i < n) (hn : n = T.length) (hr : T[i]? = some r) : (T.take i ++ List.replicate (n - i) z).set i r = T.take (i + 1) ++ List.replicate (n - (i + 1)) z := by
  have h1 : n - i = (n - (i + 1)) + 1 := by omega
  rw [List.set_append_right _ _ (by simp; omega)]
  have : i - (T.take i).length = 0 := by simp; omega
  rw [this, h1, List.replicate_succ, List.set_cons_zero, List.take_add_one, hr]
  simp
theorem rowSet_all {z news : List PV} (h : news.length = z.length) : rowSet z 0 news = news := by
  simp [rowSet, h]

theorem toList (hF : F k = some fd) {zs : List PV} (hc : compFn F hint fd [[false]] = some (toTree w w zs fls fls callee)) {xs : List (List PV)} (hw : fls.length = w) (hz : zs.length = w) (hl : xs.length ≤ 1099511627776) (hfl : ∀ r ∈ xs, r.map PV.flat = fls)
    (hcal : ∀ r ∈ xs, ∃ rs, Big F (.fn callee [r] rs) ∧ rs = [r]) : ∃ rs, Big F (.fn k [[.sl w xs]] rs) ∧ rs = [[.sl w xs]] := by
  refine tr_sound hF hc rfl ?_
  show wp _ _ _ _ [.sl w xs]
  refine r_len rfl ?_
  refine r_make rfl (by omega) (by omega) ?_
  refine r_loop (fun m vs => ∃ i : Nat, vs = [.sl w (xs.take i ++ List.replicate (xs.length - i) zs), I i] ∧ i ≤ xs.length ∧ m = xs.length - i) _ ⟨0, by rw [List.take_zero, List.nil_append]; rfl, by omega, rfl⟩ ?_
  rintro m _ ⟨i, rfl, hi, rfl⟩
  refine r_len rfl ?_
  refine r_lss rfl rfl ?_
  refine r_iteP rfl (fun h => ?_) (fun h => ?_)
  · have hi' : i < xs.length := by omega
    refine r_inb rfl rfl (by omega) (by omega) ?_
    obtain ⟨r, hr⟩ : ∃ r, xs[i]? = some r := ⟨_, List.getElem?_eq_getElem hi'⟩
    have hm := List.mem_of_getElem? hr
    refine gets_wp (xs := xs) (row := r) (k := .i64) (x := i) (by simpa using hr) rfl rfl rfl rfl (by rw [List.drop_zero]; exact hfl r hm) ?_
    rw [List.drop_zero]
    obtain ⟨rs, hb, rfl⟩ := hcal r hm
    have hrl : r.length = w := by rw [← hw, ← hfl r hm]; simp
    generalize hE : ([PV.sl w xs] ++ [I xs.length] ++ [PV.sl w (List.replicate (xs.length : Int).toNat zs)] ++ [PV.sl w (xs.take i ++ List.replicate (xs.length - i) zs), I i] ++ [I xs.length] ++ [PV.bool (decide ((i : Int) < xs.length))] ++ [PV.bool true]) = E
    have hEl : E.length = 8 := by rw [← hE]; rfl
    have e3 : ∀ rest, (vs 3).den (E ++ rest) = .sl w (xs.take i ++ List.replicate (xs.length - i) zs) := fun rest => by rw [den_ext (by omega), ← hE]; rfl
    have e4 : ∀ rest, (vf 4).den (E ++ rest) = I i := fun rest => by rw [den_ext (by omega), ← hE]; rfl
    have hEr : (E ++ r).length = 8 + w := by simp [hEl, hrl]
    refine r_call hb (by simp only [List.map_cons, List.map_nil, fresh_den' hEl (hfl r hm)]) (by simp [hfl r hm]) ?_
    simp only [List.flatten_cons, List.flatten_nil, List.append_nil]
    have hn : (fresh (8 + w) fls).map (At.den (E ++ r ++ r)) = r := fresh_den' hEr (hfl r hm)
    have hn' : (fresh (8 + w) fls).map (At.den (E ++ r ++ r ++ [PV.bool true])) = r := by
      have := fresh_den (ps := r) (env := E ++ r) (rest := [PV.bool true])
      rw [hEr, hfl r hm, ← List.append_assoc] at this
      exact this
    refine r_inb (x := i) (k := .i64) (by simp only [List.append_assoc]; exact e3 _) (by simp only [List.append_assoc]; exact e4 _) (by omega) (by simp; omega) ?_
    refine r_set1 (sz := w) (xs := xs.take i ++ List.replicate (xs.length - i) zs) (x := i) (k := .i64) (by simp only [List.append_assoc]; exact e3 _) (by simp only [List.append_assoc]; exact e4 _) (row := zs) (copy_row hi' rfl) hn' (by omega) ?_
    rw [rowSet_all (by omega)]
    have hset : (xs.take i ++ List.replicate (xs.length - i) zs).set (i : Int).toNat r = xs.take (i + 1) ++ List.replicate (xs.length - (i + 1)) zs := copy_set hi' rfl hr
    rw [hset]
    refine r_add (x := i) (y := 1) (by simp only [List.append_assoc]; exact e4 _) rfl (by simp only [inR] at *; omega) ?_
    refine r_again ⟨xs.length - (i + 1), by omega, i + 1, ?_, by omega, rfl⟩
    have l1 : (E ++ r ++ r ++ [PV.bool true]).length = 9 + w + w := by simp [hEl, hrl]; omega
    have l2 : (E ++ r ++ r ++ [PV.bool true] ++ [PV.sl w (xs.take (i + 1) ++ List.replicate (xs.length - (i + 1)) zs)]).length = 10 + w + w := by simp [hEl, hrl]; omega
    have d1 : (vs (9 + w + w)).den (E ++ r ++ r ++ [PV.bool true] ++ [PV.sl w (xs.take (i + 1) ++ List.replicate (xs.length - (i + 1)) zs)] ++ [I (i + 1)]) = PV.sl w (xs.take (i + 1) ++ List.replicate (xs.length - (i + 1)) zs) := by
      rw [List.append_assoc (E ++ r ++ r ++ [PV.bool true])]; exact den_at l1 rfl
    have d2 : (vf (10 + w + w)).den (E ++ r ++ r ++ [PV.bool true] ++ [PV.sl w (xs.take (i + 1) ++ List.replicate (xs.length - (i + 1)) zs)] ++ [I (i + 1)]) = I (i + 1) := den_at l2 rfl
    simp only [List.map_cons, List.map_nil, d1, d2]
    rfl
  · have : i = xs.length := by omega
    subst this
    refine r_ret (vs := [[.sl w (xs.take xs.length ++ List.replicate (xs.length - xs.length) zs)]]) rfl ?_
    rw [Nat.sub_self, List.replicate_zero, List.append_nil, List.take_length]

/-! ### Compared -/
def eqTree (w : Nat) (fls : List Bool) (callee : Nat) : Tr :=
  .lett ⟨.len, [vs 0], true⟩ (.lett ⟨.len, [vs 1], true⟩ (.lett ⟨.bin .neq, [vf 2, vf 3], true⟩ (.ite (vf 4) (.ret [[.c (.bool false)]])
  (.loop 0 [.c (I 0)] (.lett ⟨.len, [vs 0], true⟩ (.lett ⟨.bin .lss, [vf 5, vf 6], true⟩ (.ite (vf 7)
    (.lett ⟨.inb w, [vs 0, vf 5], true⟩ (gets (vs 0) (vf 5) w 0 fls (.lett ⟨.inb w, [vs 1, vf 5], true⟩ (gets (vs 1) (vf 5) w 0 fls
      (.call callee [fresh 9 fls, fresh (10 + w) fls] [[true]] (.lett ⟨.un .not, [vf (10 + w + w)], true⟩ (.ite (vf (11 + w + w)) (.ret [[.c (.bool false)]])
        (.lett ⟨.bin .add, [vf 5, .c (I 1)], true⟩ (.again 0 [vf (12 + w + w)])))))))))
    (.ret [[.c (.bool true)]]))))))))
theorem eqList (hF : F k = some fd) (hc : compFn F hint fd [[false], [false]] = some (eqTree w fls callee)) {xs ys : List (List PV)} (hw : fls.length = w) (hl : xs.length ≤ 9223372036854775807) (hl' : ys.length ≤ 9223372036854775807) (hfl : ∀ r ∈ xs, r.map PV.flat = fls) (hfl' : ∀ r ∈ ys, r.map PV.flat = fls)
    (hcal : ∀ r ∈ xs, ∀ r' ∈ ys, ∃ rs, Big F (.fn callee [r, r'] rs) ∧ ∃ b, rs = [[.bool b]] ∧ (b = true ↔ r = r')) : ∃ rs, Big F (.fn k [[.sl w xs], [.sl w ys]] rs) ∧ ∃ b, rs = [[.bool b]] ∧ (b = true ↔ xs = ys) := by
  refine tr_sound hF hc rfl ?_
  show wp _ _ _ _ [.sl w xs, .sl w ys]
  refine r_len rfl ?_
  refine r_len rfl ?_
  refine r_neq rfl rfl ?_
  refine r_iteP rfl (fun h => ?_) (fun h => ?_)
  · exact r_ret rfl ⟨_, rfl, by simp; rintro rfl; exact h rfl⟩
  have hee : xs.length = ys.length := by omega
  refine r_loop (fun m vs => ∃ i : Nat, vs = [I i] ∧ i ≤ xs.length ∧ (∀ j : Nat, j < i → xs[j]? = ys[j]?) ∧ m = xs.length - i) _ ⟨0, rfl, by omega, fun j hj => by omega, rfl⟩ ?_
  rintro m _ ⟨i, rfl, hi, hj, rfl⟩
  refine r_len rfl ?_
  refine r_lss rfl rfl ?_
  refine r_iteP rfl (fun h => ?_) (fun h => ?_)
  · have hi' : i < xs.length := by omega
    refine r_inb rfl rfl (by omega) (by omega) ?_
    obtain ⟨r, hr⟩ : ∃ r, xs[i]? = some r := ⟨_, List.getElem?_eq_getElem hi'⟩
    obtain ⟨r', hr'⟩ : ∃ r', ys[i]? = some r' := ⟨_, List.getElem?_eq_getElem (by omega)⟩
    have hm := List.mem_of_getElem? hr
    have hm' := List.mem_of_getElem? hr'
    refine gets_wp (xs := xs) (row := r) (k := .i64) (x := i) (by simpa using hr) rfl rfl rfl rfl (by rw [List.drop_zero]; exact hfl r hm) ?_
    rw [List.drop_zero]
    have hrl : r.length = w := by rw [← hw, ← hfl r hm]; simp
    have hrl' : r'.length = w := by rw [← hw, ← hfl' r' hm']; simp
    generalize hE : ([PV.sl w xs, PV.sl w ys] ++ [I xs.length] ++ [I ys.length] ++ [PV.bool (decide (¬ (xs.length : Int) = ys.length))] ++ [I i] ++ [I xs.length] ++ [PV.bool (decide ((i : Int) < xs.length))] ++ [PV.bool true]) = E
    have hEl : E.length = 9 := by rw [← hE]; rfl
    have e1 : ∀ rest, (vs 1).den (E ++ rest) = .sl w ys := fun rest => by rw [den_ext (by omega), ← hE]; rfl
    have e5 : ∀ rest, (vf 5).den (E ++ rest) = I i := fun rest => by rw [den_ext (by omega), ← hE]; rfl
    have hEr : (E ++ r).length = 9 + w := by simp [hEl, hrl]
    have hEr1 : (E ++ r ++ [PV.bool true]).length = 10 + w := by simp [hEl, hrl]; omega
    refine r_inb (x := i) (k := .i64) (e1 _) (e5 _) (by omega) (by omega) ?_
    refine gets_wp (xs := ys) (row := r') (k := .i64) (x := i) (by simpa using hr') (by simp [At.lt, hEl]; omega) (by simp [At.lt, hEl]; omega) (by simp only [List.append_assoc]; exact e1 _) (by simp only [List.append_assoc]; exact e5 _) (by rw [List.drop_zero]; exact hfl' r' hm') ?_
    rw [List.drop_zero]
    obtain ⟨rs, hb, b, rfl, hbi⟩ := hcal r hm r' hm'
    have f1 : (fresh 9 fls).map (At.den (E ++ r ++ [PV.bool true] ++ r')) = r := by
      have := fresh_den (ps := r) (env := E) (rest := [PV.bool true] ++ r')
      rw [hEl, hfl r hm] at this
      simpa only [List.append_assoc] using this
    have f2 : (fresh (10 + w) fls).map (At.den (E ++ r ++ [PV.bool true] ++ r')) = r' := fresh_den' hEr1 (hfl' r' hm')
    have hEr2 : (E ++ r ++ [PV.bool true] ++ r').length = 10 + w + w := by simp [hEl, hrl, hrl']; omega
    have hEr3 : (E ++ r ++ [PV.bool true] ++ r' ++ [PV.bool b]).length = 11 + w + w := by simp [hEl, hrl, hrl']; omega
    have hEr4 : (E ++ r ++ [PV.bool true] ++ r' ++ [PV.bool b] ++ [PV.bool (!b)]).length = 12 + w + w := by simp [hEl, hrl, hrl']; omega
    refine r_call hb (by simp only [List.map_cons, List.map_nil, f1, f2]) rfl ?_
    simp only [List.flatten_cons, List.flatten_nil, List.append_nil]
    refine r_not (b := b) (den_at (rest := []) hEr2 rfl) ?_
    refine r_iteN (b := b) (den_at (rest := []) hEr3 rfl) (fun hbb => ?_) (fun hbb => ?_)
    · refine r_ret rfl ⟨_, rfl, ?_⟩
      subst hbb
      simp only [Bool.false_eq_true, false_iff] at hbi ⊢
      rintro rfl
      rw [hr] at hr'
      exact hbi (Option.some.inj hr')
    · refine r_add (x := i) (y := 1) (by simp only [List.append_assoc]; exact e5 _) rfl (by simp only [inR] at *; omega) ?_
      refine r_again ⟨xs.length - (i + 1), by omega, i + 1, ?_, by omega, fun j hji => ?_, rfl⟩
      · have d2 : (vf (12 + w + w)).den (E ++ r ++ [PV.bool true] ++ r' ++ [PV.bool b] ++ [PV.bool (!b)] ++ [I (i + 1)]) = I (i + 1) := den_at (rest := []) hEr4 rfl
        simp only [List.map_cons, List.map_nil, d2]
        rfl
      · by_cases hjj : j < i
        · exact hj j hjj
        · have : j = i := by omega
          subst this
          rw [hr, hr', hbi.1 hbb]
  · refine r_ret rfl ⟨_, rfl, ?_⟩
    simp only [true_iff]
    apply List.ext_getElem?
    intro j
    by_cases hjl : j < xs.length
    · exact hj j (by omega)
    · rw [List.getElem?_eq_none (by omega), List.getElem?_eq_none (by omega)]
end
end Go.Proofs.Ytkiliooegoldoaa

/- Readings of inputs as plain data: lists of strings, values, edits. -/
set_option linter.unusedVariables false
set_option linter.unusedSimpArgs false
namespace Go.Proofs.Ytkiliooegoldoaa
open Go

section
variable {P : Program}
def isSl (P : Program) (t e n : Nat) : Bool := match P.underlying t with
  | some (.slice e') => e' == e && P.cellsOf e == n
  | _ => false
def isI (P : Program) (t : TypeId) : Bool := match P.underlying t with
  | some (.int .i64) => true
  | _ => false
def isS (P : Program) (t : TypeId) : Bool := match P.underlying t with
  | some .string => true
  | _ => false
theorem isSl_ {t e n} (h : isSl P t e n = true) : P.underlying t = some (.slice e) ∧ P.cellsOf e = n := by
  unfold isSl at h
  split at h
  · rename_i e' hu
    simp only [Bool.and_eq_true, beq_iff_eq] at h
    exact ⟨by rw [hu, h.1], h.2⟩
  · cases h
theorem isI_ {t} (h : isI P t = true) : P.underlying t = some (.int .i64) := by
  unfold isI at h
  split at h
  · assumption
  · cases h
theorem isS_ {t} (h : isS P t = true) : P.underlying t = some .string := by
  unfold isS at h
  split at h
  · assumption
  · cases h
end

/-! ### Lists of strings -/
abbrev strRow (s : ByteArray) : List PV := [.str s]
abbrev strs (ls : List ByteArray) : PV := .sl 1 (ls.map strRow)
def strsOk (ls : List ByteArray) : Prop := ls.length ≤ maxLen ∧ ∀ s ∈ ls, s.size ≤ maxLen
def strSum (ls : List ByteArray) : Nat := (ls.map ByteArray.size).sum
theorem strSum_snoc {ls : List ByteArray} {i : Nat} {s : ByteArray} (h : ls[i]? = some s) : strSum (ls.take (i + 1)) = strSum (ls.take i) + s.size := by
  rw [List.take_add_one, h]; simp [strSum]
theorem strRow_inj {x y : ByteArray} (h : strRow x = strRow y) : x = y := by simpa [strRow] using h
theorem strs_inj {x y : List ByteArray} (h : strs x = strs y) : x = y := by
  simp only [strs, PV.sl.injEq, true_and] at h
  exact (List.map_inj_right (fun _ _ => strRow_inj)).1 h
theorem strs_of {P : Program} {tSS ts a} (h1 : isSl P tSS ts 1 = true) (h2 : isS P ts = true) (ha : HasT P tSS a) : ∃ l, a = [strs l] ∧ strsOk l := by
  obtain ⟨h1, hc⟩ := isSl_ h1
  obtain ⟨xs, rfl, hl, hr⟩ := inv_sl h1 ha
  obtain ⟨l, rfl, hok⟩ := rows_of (f := strRow) (ok := fun s => s.size ≤ maxLen) (xs := xs) fun r hr' => inv_str (isS_ h2) (hr r hr')
  exact ⟨l, by rw [hc], by simpa using hl, hok⟩

/-! ### Values -/
inductive Val where
  | mk (k n : Int) (s : ByteArray) (ls : List ByteArray) (as : List Val)
theorem Val.ind {M : Val → Prop} (h : ∀ k n s ls as, (∀ v ∈ as, M v) → M (.mk k n s ls as)) (v : Val) : M v :=
  Val.rec (motive_1 := M) (motive_2 := fun as => ∀ v ∈ as, M v) (fun k n s ls as ih => h k n s ls as ih) (by simp) (fun v vs h1 h2 => by
    intro w hw
    rcases List.mem_cons.1 hw with rfl | hw
    · exact h1
    · exact h2 w hw) v
mutual
def Val.row : Val → List PV
  | .mk k n s ls as => [I k, I n, .str s, strs ls, .sl 5 (valRows as)]
def valRows : List Val → List (List PV)
  | [] => []
  | v :: vs => v.row :: valRows vs
end
theorem valRows_eq : ∀ vs, valRows vs = vs.map Val.row := by
  intro vs
  induction vs with
  | nil => rfl
  | cons v vs ih => simp only [valRows, ih, List.map_cons]
abbrev vals (vs : List Val) : PV := .sl 5 (vs.map Val.row)
theorem Val.row_mk {k n s ls as} : (Val.mk k n s ls as).row = [I k, I n, .str s, strs ls, vals as] := by
  rw [Val.row, valRows_eq]
theorem Val.row_flat (v : Val) : v.row.map PV.flat = [true, true, true, false, false] := by
  cases v; rfl
inductive Val.ok : Val → Prop
  | mk {k n s ls as} : inR k → inR n → s.size ≤ maxLen → strsOk ls → as.length ≤ maxLen → (∀ v ∈ as, Val.ok v) → Val.ok (.mk k n s ls as)
theorem Val.row_inj : ∀ {v w : Val}, v.row = w.row → v = w := by
  intro v
  induction v using Val.ind with
  | h k n s ls as ih =>
    intro w h
    obtain ⟨k', n', s', ls', as'⟩ := w
    rw [Val.row_mk, Val.row_mk] at h
    simp only [List.cons.injEq, PV.int.injEq, PV.str.injEq, true_and, and_true, PV.sl.injEq] at h
    obtain ⟨h1, h2, h3, h4, h5⟩ := h
    have h6 : ls = ls' := (List.map_inj_right (fun _ _ => strRow_inj)).1 h4
    have h7 : as = as' := by
      clear h4
      induction as generalizing as' with
      | nil => cases as' <;> simp at h5; rfl
      | cons x xs ihx =>
        cases as' with
        | nil => simp at h5
        | cons y ys =>
          simp only [List.map_cons, List.cons.injEq] at h5
          rw [ih x (by simp) h5.1, ihx (fun v hv => ih v (by simp [hv])) ys h5.2]
    rw [h1, h2, h3, h6, h7]
theorem vals_inj {x y : List Val} (h : x.map Val.row = y.map Val.row) : x = y := (List.map_inj_right (fun _ _ => Val.row_inj)).1 h
mutual
/-- What the measure takes for a value. -/
def Val.wt : Val → Nat
  | .mk k n s ls as => s.size + (ls.length + strSum ls) + (as.length + valWts as)
def valWts : List Val → Nat
  | [] => 0
  | v :: vs => v.wt + valWts vs
end
theorem valWts_eq : ∀ vs, valWts vs = (vs.map Val.wt).sum := by
  intro vs
  induction vs with
  | nil => rfl
  | cons v vs ih => simp only [valWts, ih, List.map_cons, List.sum_cons]
theorem Val.wt_mk {k n s ls as} : (Val.mk k n s ls as).wt = s.size + (ls.length + strSum ls) + (as.length + (as.map Val.wt).sum) := by
  rw [Val.wt, valWts_eq]
theorem mem_sum {α : Type} {f : α → Nat} {x : α} : ∀ {l : List α}, x ∈ l → f x ≤ (l.map f).sum := by
  intro l
  induction l with
  | nil => intro h; simp at h
  | cons y l ih =>
    intro h
    simp only [List.map_cons, List.sum_cons]
    rcases List.mem_cons.1 h with rfl | h
    · omega
    · have := ih h; omega

def tyVal (P : Program) (tV tVS tSS ti ts : Nat) : Bool := isStruct P tV [ti, ti, ts, tSS, tVS] && isSl P tVS tV 5 && isSl P tSS ts 1 && isI P ti && isS P ts
theorem val_of {P : Program} {tV tVS tSS ti ts : Nat} (h : tyVal P tV tVS tSS ti ts = true) {t a} (ha : HasT P t a) : (t = tV → ∃ v : Val, a = v.row ∧ v.ok) ∧ (t = tVS → ∃ vs : List Val, a = [vals vs] ∧ vs.length ≤ maxLen ∧ ∀ v ∈ vs, v.ok) := by
  simp only [tyVal, Bool.and_eq_true] at h
  obtain ⟨⟨⟨⟨h1, h2⟩, h3⟩, h4⟩, h5⟩ := h
  obtain ⟨h2, hc⟩ := isSl_ h2
  have hst : ∃ fs, P.underlying tV = some (.struct fs) ∧ fs.toList.map Field.type = [ti, ti, ts, tSS, tVS] := by
    unfold isStruct at h1
    split at h1
    · rename_i fs hu; exact ⟨fs, hu, by simpa using h1⟩
    · cases h1
  obtain ⟨fs0, hu0, hty⟩ := hst
  induction ha with
  | bool h' => exact ⟨fun e => by subst e; rw [hu0] at h'; simp at h', fun e => by subst e; rw [h2] at h'; simp at h'⟩
  | int h' => exact ⟨fun e => by subst e; rw [hu0] at h'; simp at h', fun e => by subst e; rw [h2] at h'; simp at h'⟩
  | str h' => exact ⟨fun e => by subst e; rw [hu0] at h'; simp at h', fun e => by subst e; rw [h2] at h'; simp at h'⟩
  | @sl t e xs h' hl hr ih =>
    refine ⟨fun e => by subst e; rw [hu0] at h'; simp at h', fun et => ?_⟩
    subst et
    rw [h2] at h'
    simp only [Option.some.injEq, TypeDesc.slice.injEq] at h'
    subst h'
    obtain ⟨l, rfl, hok⟩ := rows_of (f := Val.row) (ok := Val.ok) (xs := xs) fun r hr' => by
      obtain ⟨i, hi, he⟩ := List.getElem_of_mem hr'
      exact (ih i r (by rw [List.getElem?_eq_getElem hi, he])).1 rfl
    exact ⟨l, by rw [hc], by simpa using hl, hok⟩
  | @struct t fs pss h' hl hr ih =>
    refine ⟨fun et => ?_, fun e => by subst e; rw [h2] at h'; simp at h'⟩
    subst et
    rw [hu0] at h'
    simp only [Option.some.injEq, TypeDesc.struct.injEq] at h'
    subst h'
    have hfl : fs0.size = 5 := by have := congrArg List.length hty; simpa using this
    have hf : ∀ (i : Nat) t, [ti, ti, ts, tSS, tVS][i]? = some t → ∃ f, fs0[i]? = some f ∧ f.type = t := by
      intro i t hi
      rw [← hty, List.getElem?_map, Option.map_eq_some_iff] at hi
      obtain ⟨f, hf, rfl⟩ := hi
      exact ⟨f, by simpa using hf, rfl⟩
    match pss, hl with
    | [p0, p1, p2, p3, p4], _ =>
      obtain ⟨f0, q0, e0⟩ := hf 0 ti rfl
      obtain ⟨f1, q1, e1⟩ := hf 1 ti rfl
      obtain ⟨f2, q2, e2⟩ := hf 2 ts rfl
      obtain ⟨f3, q3, e3⟩ := hf 3 tSS rfl
      obtain ⟨f4, q4, e4⟩ := hf 4 tVS rfl
      obtain ⟨k, rfl, hk⟩ := inv_i64 (isI_ h4) (e0 ▸ hr 0 f0 p0 q0 rfl)
      obtain ⟨n, rfl, hn⟩ := inv_i64 (isI_ h4) (e1 ▸ hr 1 f1 p1 q1 rfl)
      obtain ⟨s, rfl, hs⟩ := inv_str (isS_ h5) (e2 ▸ hr 2 f2 p2 q2 rfl)
      obtain ⟨ls, rfl, hls⟩ := strs_of h3 h5 (e3 ▸ hr 3 f3 p3 q3 rfl)
      obtain ⟨as, rfl, has, has'⟩ := (ih 4 f4 p4 q4 rfl).2 e4
      exact ⟨.mk k n s ls as, by rw [Val.row_mk]; rfl, .mk hk hn hs hls has has'⟩
    | [], h => simp [hfl] at h
    | [_], h => simp [hfl] at h
    | [_, _], h => simp [hfl] at h
    | [_, _, _], h => simp [hfl] at h
    | [_, _, _, _], h => simp [hfl] at h
    | _ :: _ :: _ :: _ :: _ :: _ :: _, h => simp [hfl] at h
theorem of_Value {P : Program} {tValue tValueS tint tstring tstringS : Nat} (tyOk : tyVal P tValue tValueS tstringS tint tstring = true) {a} (ha : HasT P tValue a) : ∃ v : Val, a = v.row ∧ v.ok := (val_of tyOk ha).1 rfl

/-! ### Edits -/
structure Edt where
  k : Int
  p : List Stp
  v : Val
  n : Int
def Edt.row (e : Edt) : List PV := I e.k :: stps e.p :: (e.v.row ++ [I e.n])
abbrev edts (l : List Edt) : PV := .sl 8 (l.map Edt.row)
def Edt.ok (e : Edt) : Prop := inR e.k ∧ stpsOk e.p ∧ e.v.ok ∧ inR e.n
def edtsOk (l : List Edt) : Prop := l.length ≤ maxLen ∧ ∀ e ∈ l, e.ok
def Edt.wt (e : Edt) : Nat := e.p.length + e.v.wt
theorem Edt.row_mk {k p vk vn vs vl va n} : Edt.row ⟨k, p, .mk vk vn vs vl va, n⟩ = [I k, stps p, I vk, I vn, .str vs, strs vl, vals va, I n] := by
  simp only [Edt.row, Val.row_mk]; rfl
theorem Edt.row_flat (e : Edt) : e.row.map PV.flat = [true, false, true, true, true, false, false, true] := by
  obtain ⟨k, p, v, n⟩ := e
  cases v; rfl
theorem Edt.row_inj {e e' : Edt} (h : e.row = e'.row) : e = e' := by
  obtain ⟨k, p, v, n⟩ := e
  obtain ⟨k', p', v', n'⟩ := e'
  simp only [Edt.row, List.cons.injEq] at h
  obtain ⟨h1, h2, h3⟩ := h
  have hl : v.row.length = v'.row.length := by
    have a := congrArg List.length (Val.row_flat v)
    have b := congrArg List.length (Val.row_flat v')
    simp at a b; omega
  obtain ⟨h4, h5⟩ := List.append_inj h3 hl
  simp at h1 h5
  have h2' : p = p' := (List.map_inj_right (fun _ _ => Stp.row_inj)).1 (by simpa using h2)
  rw [h1, h2', Val.row_inj h4, h5]
def tyEdt (P : Program) (tE tES tV tVS tSS tPS tP ti ts : Nat) : Bool :=
  isSl P tES tE 8 && isStruct P tE [ti, tPS, tV, ti] && tyVal P tV tVS tSS ti ts && isSl P tPS tP 3 && isStruct P tP [ti, ts, ti]
theorem stps_of' {P : Program} {tPS tP ti ts : Nat} (h1 : isSl P tPS tP 3 = true) (h2 : isStruct P tP [ti, ts, ti] = true) (h3 : isI P ti = true) (h4 : isS P ts = true) {a} (ha : HasT P tPS a) : ∃ l, a = [stps l] ∧ stpsOk l :=
  stps_of (isSl_ h1).1 (isSl_ h1).2 h2 (isI_ h3) (isS_ h4) ha
theorem tyVal_i {P : Program} {tV tVS tSS ti ts : Nat} (h : tyVal P tV tVS tSS ti ts = true) : isI P ti = true ∧ isS P ts = true := by
  simp only [tyVal, Bool.and_eq_true] at h; exact ⟨h.1.2, h.2⟩
theorem edt_of {P : Program} {tE tES tV tVS tSS tPS tP ti ts : Nat} (h : tyEdt P tE tES tV tVS tSS tPS tP ti ts = true) {a} (ha : HasT P tE a) : ∃ e : Edt, a = e.row ∧ e.ok := by
  simp only [tyEdt, Bool.and_eq_true] at h
  obtain ⟨⟨⟨⟨h1, h2⟩, h3⟩, h4⟩, h5⟩ := h
  obtain ⟨hi, hs⟩ := tyVal_i h3
  obtain ⟨pss, rfl, hp⟩ := inv_struct h2 ha
  match pss, hp with
  | [p0, p1, p2, p3], ⟨q0, q1, q2, q3, _⟩ =>
    obtain ⟨k, rfl, hk⟩ := inv_i64 (isI_ hi) q0
    obtain ⟨p, rfl, hp⟩ := stps_of' h4 h5 hi hs q1
    obtain ⟨v, rfl, hv⟩ := (val_of h3 q2).1 rfl
    obtain ⟨n, rfl, hn⟩ := inv_i64 (isI_ hi) q3
    exact ⟨⟨k, p, v, n⟩, by simp [Edt.row], hk, hp, hv, hn⟩
theorem of_EditS {P : Program} {tEdit tEditS tValue tValueS tStep tStepS tint tstring tstringS : Nat} (tyOk : tyEdt P tEdit tEditS tValue tValueS tstringS tStepS tStep tint tstring = true) {a} (ha : HasT P tEditS a) : ∃ l, a = [edts l] ∧ edtsOk l := by
  have h := tyOk
  simp only [tyEdt, Bool.and_eq_true] at h
  obtain ⟨h1, hc⟩ := isSl_ h.1.1.1.1
  obtain ⟨xs, rfl, hl, hr⟩ := inv_sl h1 ha
  obtain ⟨l, rfl, hok⟩ := rows_of (f := Edt.row) (ok := Edt.ok) (xs := xs) fun r hr' => edt_of tyOk (hr r hr')
  exact ⟨l, by rw [hc], by simpa using hl, hok⟩
theorem of_Edit {P : Program} {tEdit tEditS tValue tValueS tStep tStepS tint tstring tstringS : Nat} (tyOk : tyEdt P tEdit tEditS tValue tValueS tstringS tStepS tStep tint tstring = true) {a} (ha : HasT P tEdit a) : ∃ e : Edt, a = e.row ∧ e.ok := edt_of tyOk ha
end Go.Proofs.Ytkiliooegoldoaa

/- Readings of inputs as plain data: types, logs. -/
set_option linter.unusedVariables false
set_option linter.unusedSimpArgs false
namespace Go.Proofs.Ytkiliooegoldoaa
open Go

inductive Typ where
  | mk (k : Int) (ls : List ByteArray) (us : List Typ)
theorem Typ.ind {M : Typ → Prop} (h : ∀ k ls us, (∀ v ∈ us, M v) → M (.mk k ls us)) (v : Typ) : M v :=
  Typ.rec (motive_1 := M) (motive_2 := fun us => ∀ v ∈ us, M v) (fun k ls us ih => h k ls us ih) (by simp) (fun v vs h1 h2 => by
    intro w hw
    rcases List.mem_cons.1 hw with rfl | hw
    · exact h1
    · exact h2 w hw) v
mutual
def Typ.row : Typ → List PV
  | .mk k ls us => [I k, strs ls, .sl 3 (typRows us)]
def typRows : List Typ → List (List PV)
  | [] => []
  | v :: vs => v.row :: typRows vs
end
theorem typRows_eq : ∀ vs, typRows vs = vs.map Typ.row := by
  intro vs
  induction vs with
  | nil => rfl
  | cons v vs ih => simp only [typRows, ih, List.map_cons]
abbrev typs (vs : List Typ) : PV := .sl 3 (vs.map Typ.row)
theorem Typ.row_mk {k ls us} : (Typ.mk k ls us).row = [I k, strs ls, typs us] := by
  rw [Typ.row, typRows_eq]
theorem Typ.row_flat (v : Typ) : v.row.map PV.flat = [true, false, false] := by
  cases v; rfl
inductive Typ.ok : Typ → Prop
  | mk {k ls us} : inR k → strsOk ls → us.length ≤ maxLen → (∀ v ∈ us, Typ.ok v) → Typ.ok (.mk k ls us)
theorem Typ.row_inj : ∀ {v w : Typ}, v.row = w.row → v = w := by
  intro v
  induction v using Typ.ind with
  | h k ls us ih =>
    intro w h
    obtain ⟨k', ls', us'⟩ := w
    rw [Typ.row_mk, Typ.row_mk] at h
    simp only [List.cons.injEq, PV.int.injEq, PV.str.injEq, true_and, and_true, PV.sl.injEq] at h
    obtain ⟨h1, h4, h5⟩ := h
    have h6 : ls = ls' := (List.map_inj_right (fun _ _ => strRow_inj)).1 h4
    have h7 : us = us' := by
      clear h4
      induction us generalizing us' with
      | nil => cases us' <;> simp at h5; rfl
      | cons x xs ihx =>
        cases us' with
        | nil => simp at h5
        | cons y ys =>
          simp only [List.map_cons, List.cons.injEq] at h5
          rw [ih x (by simp) h5.1, ihx (fun v hv => ih v (by simp [hv])) ys h5.2]
    rw [h1, h6, h7]
theorem typs_inj {x y : List Typ} (h : x.map Typ.row = y.map Typ.row) : x = y := (List.map_inj_right (fun _ _ => Typ.row_inj)).1 h
mutual
/-- What the measure takes for a type. -/
def Typ.wt : Typ → Nat
  | .mk k ls us => (ls.length + strSum ls) + (us.length + typWts us)
def typWts : List Typ → Nat
  | [] => 0
  | v :: vs => v.wt + typWts vs
end
theorem typWts_eq : ∀ vs, typWts vs = (vs.map Typ.wt).sum := by
  intro vs
  induction vs with
  | nil => rfl
  | cons v vs ih => simp only [typWts, ih, List.map_cons, List.sum_cons]
theorem Typ.wt_mk {k ls us} : (Typ.mk k ls us).wt = (ls.length + strSum ls) + (us.length + (us.map Typ.wt).sum) := by
  rw [Typ.wt, typWts_eq]
theorem Typ.wt_len {k ls us} : ls.length ≤ (Typ.mk k ls us).wt ∧ us.length ≤ (Typ.mk k ls us).wt ∧ ∀ v ∈ us, Typ.wt v ≤ (Typ.mk k ls us).wt := by
  rw [Typ.wt_mk]
  refine ⟨by omega, by omega, fun v hv => ?_⟩
  have := mem_sum (f := Typ.wt) hv
  omega

def tyTyp (P : Program) (tV tVS tSS ti ts : Nat) : Bool := isStruct P tV [ti, tSS, tVS] && isSl P tVS tV 3 && isSl P tSS ts 1 && isI P ti && isS P ts
theorem typ_of {P : Program} {tV tVS tSS ti ts : Nat} (h : tyTyp P tV tVS tSS ti ts = true) {t a} (ha : HasT P t a) : (t = tV → ∃ v : Typ, a = v.row ∧ v.ok) ∧ (t = tVS → ∃ vs : List Typ, a = [typs vs] ∧ vs.length ≤ maxLen ∧ ∀ v ∈ vs, v.ok) := by
  simp only [tyTyp, Bool.and_eq_true] at h
  obtain ⟨⟨⟨⟨h1, h2⟩, h3⟩, h4⟩, h5⟩ := h
  obtain ⟨h2, hc⟩ := isSl_ h2
  have hst : ∃ fs, P.underlying tV = some (.struct fs) ∧ fs.toList.map Field.type = [ti, tSS, tVS] := by
    unfold isStruct at h1
    split at h1
    · rename_i fs hu; exact ⟨fs, hu, by simpa using h1⟩
    · cases h1
  obtain ⟨fs0, hu0, hty⟩ := hst
  induction ha with
  | bool h' => exact ⟨fun e => by subst e; rw [hu0] at h'; simp at h', fun e => by subst e; rw [h2] at h'; simp at h'⟩
  | int h' => exact ⟨fun e => by subst e; rw [hu0] at h'; simp at h', fun e => by subst e; rw [h2] at h'; simp at h'⟩
  | str h' => exact ⟨fun e => by subst e; rw [hu0] at h'; simp at h', fun e => by subst e; rw [h2] at h'; simp at h'⟩
  | @sl t e xs h' hl hr ih =>
    refine ⟨fun e => by subst e; rw [hu0] at h'; simp at h', fun et => ?_⟩
    subst et
    rw [h2] at h'
    simp only [Option.some.injEq, TypeDesc.slice.injEq] at h'
    subst h'
    obtain ⟨l, rfl, hok⟩ := rows_of (f := Typ.row) (ok := Typ.ok) (xs := xs) fun r hr' => by
      obtain ⟨i, hi, he⟩ := List.getElem_of_mem hr'
      exact (ih i r (by rw [List.getElem?_eq_getElem hi, he])).1 rfl
    exact ⟨l, by rw [hc], by simpa using hl, hok⟩
  | @struct t fs pss h' hl hr ih =>
    refine ⟨fun et => ?_, fun e => by subst e; rw [h2] at h'; simp at h'⟩
    subst et
    rw [hu0] at h'
    simp only [Option.some.injEq, TypeDesc.struct.injEq] at h'
    subst h'
    have hfl : fs0.size = 3 := by have := congrArg List.length hty; simpa using this
    have hf : ∀ (i : Nat) t, [ti, tSS, tVS][i]? = some t → ∃ f, fs0[i]? = some f ∧ f.type = t := by
      intro i t hi
      rw [← hty, List.getElem?_map, Option.map_eq_some_iff] at hi
      obtain ⟨f, hf, rfl⟩ := hi
      exact ⟨f, by simpa using hf, rfl⟩
    match pss, hl with
    | [p0, p3, p4], _ =>
      obtain ⟨f0, q0, e0⟩ := hf 0 ti rfl
      obtain ⟨f3, q3, e3⟩ := hf 1 tSS rfl
      obtain ⟨f4, q4, e4⟩ := hf 2 tVS rfl
      obtain ⟨k, rfl, hk⟩ := inv_i64 (isI_ h4) (e0 ▸ hr 0 f0 p0 q0 rfl)
      obtain ⟨ls, rfl, hls⟩ := strs_of h3 h5 (e3 ▸ hr 1 f3 p3 q3 rfl)
      obtain ⟨us, rfl, has, has'⟩ := (ih 2 f4 p4 q4 rfl).2 e4
      exact ⟨.mk k ls us, by rw [Typ.row_mk]; rfl, .mk hk hls has has'⟩
    | [], h => simp [hfl] at h
    | [_], h => simp [hfl] at h
    | [_, _], h => simp [hfl] at h
    | _ :: _ :: _ :: _ :: _, h => simp [hfl] at h
theorem of_Type {P : Program} {tType tTypeS tint tstring tstringS : Nat} (tyOk : tyTyp P tType tTypeS tstringS tint tstring = true) {a} (ha : HasT P tType a) : ∃ v : Typ, a = v.row ∧ v.ok := (typ_of tyOk ha).1 rfl

/-! ### Logs -/
structure Lg where
  t : Typ
  v : Val
  p : List Edt
  f : List Edt
def Lg.row (g : Lg) : List PV := g.t.row ++ (g.v.row ++ [edts g.p, edts g.f])
def Lg.ok (g : Lg) : Prop := g.t.ok ∧ g.v.ok ∧ edtsOk g.p ∧ edtsOk g.f
theorem Lg.row_mk {tk tl tu vk vn vs vl vu p f} : Lg.row ⟨.mk tk tl tu, .mk vk vn vs vl vu, p, f⟩ = [I tk, strs tl, typs tu, I vk, I vn, .str vs, strs vl, vals vu, edts p, edts f] := by
  simp only [Lg.row, Typ.row_mk, Val.row_mk]; rfl
def tyLg (P : Program) (tL tT tTS tE tES tV tVS tSS tPS tP ti ts : Nat) : Bool :=
  isStruct P tL [tT, tV, tES, tES] && tyTyp P tT tTS tSS ti ts && tyEdt P tE tES tV tVS tSS tPS tP ti ts
theorem of_Log {P : Program} {tLog tType tTypeS tEdit tEditS tValue tValueS tStep tStepS tint tstring tstringS : Nat} (tyOk : tyLg P tLog tType tTypeS tEdit tEditS tValue tValueS tstringS tStepS tStep tint tstring = true) {a} (ha : HasT P tLog a) : ∃ g : Lg, a = g.row ∧ g.ok := by
  simp only [tyLg, Bool.and_eq_true] at tyOk
  obtain ⟨⟨h1, h2⟩, h3⟩ := tyOk
  have h3' := h3
  simp only [tyEdt, Bool.and_eq_true] at h3'
  obtain ⟨pss, rfl, hp⟩ := inv_struct h1 ha
  match pss, hp with
  | [p0, p1, p2, p3], ⟨q0, q1, q2, q3, _⟩ =>
    obtain ⟨t, rfl, ht⟩ := of_Type h2 q0
    obtain ⟨v, rfl, hv⟩ := of_Value h3'.1.1.2 q1
    obtain ⟨p, rfl, hp⟩ := of_EditS h3 q2
    obtain ⟨f, rfl, hf⟩ := of_EditS h3 q3
    exact ⟨⟨t, v, p, f⟩, by simp [Lg.row], ht, hv, hp, hf⟩
end Go.Proofs.Ytkiliooegoldoaa

/- Readings of inputs as plain data: actions. -/
set_option linter.unusedVariables false
set_option linter.unusedSimpArgs false
namespace Go.Proofs.Ytkiliooegoldoaa
open Go
structure Act where
  k : Int
  n : Int
  v : Val
def Act.row (a : Act) : List PV := I a.k :: I a.n :: a.v.row
def Act.ok (a : Act) : Prop := inR a.k ∧ inR a.n ∧ a.v.ok
theorem Act.row_mk {k n vk vn s ls us} : Act.row ⟨k, n, .mk vk vn s ls us⟩ = [I k, I n, I vk, I vn, .str s, strs ls, vals us] := by
  simp only [Act.row, Val.row_mk]
def tyAct (P : Program) (tA tV tVS tSS ti ts : Nat) : Bool := isStruct P tA [ti, ti, tV] && tyVal P tV tVS tSS ti ts
theorem of_Action {P : Program} {tAction tValue tValueS tint tstring tstringS : Nat} (tyOk : tyAct P tAction tValue tValueS tstringS tint tstring = true) {a} (ha : HasT P tAction a) : ∃ x : Act, a = x.row ∧ x.ok := by
  simp only [tyAct, Bool.and_eq_true] at tyOk
  obtain ⟨h1, h2⟩ := tyOk
  obtain ⟨hi, hs⟩ := tyVal_i h2
  obtain ⟨pss, rfl, hp⟩ := inv_struct h1 ha
  match pss, hp with
  | [p0, p1, p2], ⟨q0, q1, q2, _⟩ =>
    obtain ⟨k, rfl, hk⟩ := inv_i64 (isI_ hi) q0
    obtain ⟨n, rfl, hn⟩ := inv_i64 (isI_ hi) q1
    obtain ⟨v, rfl, hv⟩ := of_Value h2 q2
    exact ⟨⟨k, n, v⟩, by simp [Act.row], hk, hn, hv⟩
end Go.Proofs.Ytkiliooegoldoaa
