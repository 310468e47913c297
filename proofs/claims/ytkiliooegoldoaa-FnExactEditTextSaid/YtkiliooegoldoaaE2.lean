/- Abstract reading of Go code and its soundness, part 2. -/
import Derived.Test.YtkiliooegoldoaaE1
import Derived.Great.BuildSlice
/- The operations that make no memory. -/
set_option linter.unusedVariables false
set_option linter.unusedSimpArgs false
namespace Go.Proofs.Ytkiliooegoldoaa
open Go

def upd (vs : List Value) (d : Option Nat) (v : Value) : List Value :=
  match d with
  | none => vs
  | some d => vs.set d v
def Done (E : Env) (S' : St) (vs : List Value) (w : World) (φ : Nat → Nat) : Prop := ∃ bs', SR E S' vs w φ bs' []

theorem done_put {E S vs w φ bs bt g d tv v S'} (hs : SR E S vs w φ bs (bt ++ [])) (ht : TVR E w φ tv v bt) (hv : ViewTV S vs w φ tv v) (h : put g S d tv = some S') :
    Done E S' (upd vs d v) w φ := by
  obtain ⟨bs', k⟩ := put_sound hs ht hv h
  exact ⟨bs', by cases d <;> exact k⟩

/-! ### Values of known form -/
theorem CellR.flat {E w φ l p v b} (h : CellR E w φ (.val l p) v b) (hf : p.flat = true) : v = p.toV := by
  have rd : ∀ {ok}, RdL w ok [p] [v] → v = p.toV := by
    intro ok h
    cases h with
    | int _ => rfl
    | bool _ => rfl
    | str _ => rfl
    | sl _ _ _ _ _ _ => simp [PV.flat] at hf
  cases l with
  | old => exact rd h.1
  | bor => exact rd h.1
  | deep => exact rd (OwL.reads h)
  | oldR => exact absurd h.not_flat (by simp [hf])
  | borR => exact absurd h.not_flat (by simp [hf])

theorem CellR.slice_ {E S vs w φ bs hand l sz xs v b} (hs : SR E S vs w φ bs hand) (h : CellR E w φ (.val l (.sl sz xs)) v b) : ∃ A c, v = .slice A xs.length c ∧ xs.length ≤ c := by
  have h := CellR.reads hs.hO h
  cases h with
  | sl a b _ _ _ _ => exact ⟨_, _, by rw [a], by rw [a]; exact b⟩

theorem flat_own {p : PV} {v : Value} (hf : p.flat = true) (hv : v = p.toV) (w : World) (φ : Nat → Nat) : OwL w φ [p] [v] [] := by
  subst hv
  cases p with
  | int k n => exact .int .nil
  | bool b => exact .bool .nil
  | str s => exact .str .nil
  | sl s x => simp [PV.flat] at hf

theorem done_scalar {E S vs w φ bs d p v S'} (hs : SR E S vs w φ bs []) (hf : p.flat = true) (hv : v = p.toV) (h : put false S d (.one (.val .deep p)) = some S') : Done E S' (upd vs d v) w φ :=
  done_put (bt := []) (tv := .one (.val .deep p)) hs (flat_own hf hv w φ) trivial h

theorem slotv {E S vs w φ bs hand n} (hs : SR E S vs w φ bs hand) (h : S.g n ≠ .dead) : vs[n]? = some (vs.getD n undef) := by
  obtain ⟨u, hu⟩ := hs.lt h
  rw [List.getD_eq_getElem?_getD, hu]; rfl

theorem asPlace_sound {E S vs w φ bs hand p} (hs : SR E S vs w φ bs hand) (h : S.g p ≠ .dead) : ∃ bt, TVR E w φ (asPlace S p) (vs.getD p undef) bt ∧ ViewTV S vs w φ (asPlace S p) (vs.getD p undef) := by
  have hu := slotv hs h
  obtain ⟨bt, h1, h2⟩ := hs.slot hu
  unfold asPlace
  cases hS : S.g p with
  | box cs =>
    rw [hS] at h1
    obtain ⟨g, arr, e, b1, ev, _⟩ := h1
    exact ⟨[], rfl, .inl ⟨rfl, cs, g, hS, by rw [hu, ev], ev⟩⟩
  | _ => rw [hS] at h1 h2; exact ⟨bt, h1, h2⟩

theorem bOne_sound {E S vs w φ bs hand o v l p} (hs : SR E S vs w φ bs hand) (hv : OpndR vs o v) (h : bOne S o = some (l, p)) : CellR E w φ (.val l p) v [] := by
  cases o with
  | c q =>
    simp only [bOne, Option.some.injEq, Prod.mk.injEq] at h
    obtain ⟨rfl, rfl⟩ := h
    exact ConstR.own hv w φ
  | t n rs =>
    simp only [bOne] at h
    split at h
    · rename_i c hS
      have hu := slotv hs (n := n) (by rw [hS]; simp)
      obtain ⟨bt, h1, h2⟩ := hs.slot hu
      rw [hS] at h1 h2
      have : v = vs.getD n undef := hv
      rw [this]
      exact bCell_sound hs h1 h2 h
    · cases h

theorem bAny_sound {E S vs w φ bs hand o v agg l} (hs : SR E S vs w φ bs hand) (hv : OpndR vs o v) (h : bAny S o = some (agg, l)) :
    ∃ us, AggR E w φ agg (l.map valCell) v us [] := by
  cases o with
  | c q =>
    simp only [bAny, Option.some.injEq, Prod.mk.injEq] at h
    obtain ⟨rfl, rfl⟩ := h
    exact ⟨[v], rfl, v, [], [], [], rfl, rfl, ConstR.own hv w φ, rfl, rfl⟩
  | t n rs =>
    have : v = vs.getD n undef := hv
    subst this
    simp only [bAny] at h
    split at h
    · rename_i c hS
      have hu := slotv hs (n := n) (by rw [hS]; simp)
      obtain ⟨bt, h1, h2⟩ := hs.slot hu
      rw [hS] at h1 h2
      cases hb : bCell S rs c with
      | none => rw [hb] at h; cases h
      | some x =>
        rw [hb] at h
        simp only [Option.map_some, Option.some.injEq, Prod.mk.injEq] at h
        obtain ⟨rfl, rfl⟩ := h
        exact ⟨_, rfl, _, [], [], [], rfl, rfl, bCell_sound hs h1 h2 hb, rfl, rfl⟩
    · rename_i cs hS
      have hu := slotv hs (n := n) (by rw [hS]; simp)
      obtain ⟨bt, h1, h2⟩ := hs.slot hu
      rw [hS] at h1 h2
      obtain ⟨arr, e, h1⟩ := h1
      cases hb : bCells S rs cs with
      | none => rw [hb] at h; cases h
      | some x =>
        rw [hb] at h
        simp only [Option.map_some, Option.some.injEq, Prod.mk.injEq] at h
        obtain ⟨rfl, rfl⟩ := h
        exact ⟨arr.toList, by simpa using e, bCells_sound hs h1 (fun i c u a b => h2 arr e i c u a (by rw [← b, Array.getElem?_toList])) hb⟩
    · cases h

theorem natOf_sound {E S vs w φ bs hand o v n} (hs : SR E S vs w φ bs hand) (hv : OpndR vs o v) (h : natOf S o = some n) : ∃ k, v = .int k n := by
  unfold natOf at h
  split at h
  · rename_i l k z hb
    split at h
    · rename_i h0
      injection h with h
      refine ⟨k, ?_⟩
      rw [(bOne_sound hs hv hb).flat rfl]
      simp only [PV.toV]
      rw [← h, Int.toNat_of_nonneg h0]
    · cases h
  · cases h

/-! ### mv, take -/
theorem boxCells_get {r : Nat} : ∀ {cs : List Cell} {k i : Nat}, (boxCells r k cs)[i]? = (cs[i]?).map (boxCell r (k + i)) := by
  intro cs
  induction cs with
  | nil => intro k i; rfl
  | cons c cs ih =>
    intro k i
    cases i with
    | zero => rfl
    | succ i =>
      simp only [boxCells, List.getElem?_cons_succ]
      rw [ih]
      rw [Nat.add_assoc, Nat.add_comm 1 i]

theorem RdL.oneC {w ok p v} (h : RdL w ok [p] [v]) : v.oneCell' = true := h.one_ v (by simp)
theorem CellR.oneC {E S vs w φ bs hand l p v b} (hs : SR E S vs w φ bs hand) (h : CellR E w φ (.val l p) v b) : v.oneCell' = true := RdL.oneC (CellR.reads hs.hO h)

theorem CellR.boxCell {E S vs w φ bs hand r c x v b} (hs : SR E S vs w φ bs hand) (h : CellR E w φ x v b) : CellR E w φ (boxCell r c x) v [] := by
  cases x with
  | view r' c' path => exact ⟨rfl, h.2⟩
  | dead => rfl
  | val l p =>
    simp only [Ytkiliooegoldoaa.boxCell]
    split
    · rename_i hf; exact flat_own hf (h.flat hf) w φ
    · split
      · exact ⟨rfl, CellR.oneC hs h⟩
      · exact CellR.weak hs h
theorem CellsR.boxCells {E S vs w φ bs hand r} (hs : SR E S vs w φ bs hand) : ∀ {cs us b k}, CellsR E w φ cs us b → CellsR E w φ (boxCells r k cs) us [] := by
  intro cs
  induction cs with
  | nil => intro us b k h; exact ⟨h.1, rfl⟩
  | cons c cs ih =>
    intro us b k h
    obtain ⟨u, us', b1, b2, rfl, rfl, hc, h⟩ := h
    exact ⟨u, us', [], [], rfl, rfl, CellR.boxCell hs hc, ih h⟩

/-- What a box's or an aggregate's cell is, seen from outside. -/
theorem view_boxCell {S vs w φ r i x u} (hr : rootish (S.g r) = true ∨ ∀ l p, x = .val l p → p.flat = true) (hroot : rootCell S r i = x) (hv : rootV S vs w r i = some u) (hx : ViewC S vs w φ x u) :
    ViewC S vs w φ (boxCell r i x) u := by
  cases x with
  | view r' c' path => exact hx
  | dead => trivial
  | val l p =>
    simp only [boxCell]
    split
    · trivial
    · rename_i hf
      split
      · refine ⟨?_, fun l' p' h => ?_⟩
        · rcases hr with hr | hr
          · exact hr
          · exact absurd (hr l p rfl) (by simpa using hf)
        · rw [hroot] at h
          injection h with h1 h2
          subst h1; subst h2
          exact ⟨by simpa using hf, fun h => absurd rfl h, ⟨p, rfl⟩, u, hv, rfl⟩
      · trivial

theorem mv_ok {E S vs w φ bs g x d v S'} (hs : SR E S vs w φ bs []) (hx : OpndR vs x v) (h : step S d (.mv g x) = some S') : Done E S' (upd vs d v) w φ := by
  cases x with
  | c p => exact done_put (bt := []) (tv := .one (.val .deep p)) hs (ConstR.own hx w φ) trivial h
  | t n rs =>
    have hv : v = vs.getD n undef := hx
    subst hv
    simp only [step] at h
    cases hS : S.g n <;> rw [hS] at h <;> (try dsimp only at h)
    case one c =>
      have hu := slotv hs (n := n) (by rw [hS]; simp)
      obtain ⟨bt, h1, h2⟩ := hs.slot hu
      rw [hS] at h1 h2
      cases c with
      | dead => cases h
      | view r c path => exact done_put (bt := []) (tv := .one (.view r c path)) hs ⟨rfl, h1.2⟩ h2 h
      | val l p =>
        refine done_put (bt := []) (tv := .one (boxCell n 0 (.val l p))) hs (CellR.boxCell (r := n) (c := 0) hs h1) ?_ h
        refine view_boxCell (u := vs.getD n undef) ?_ (by simp [rootCell, hS]) (by unfold rootV; rw [hS, hu]; rfl) trivial
        by_cases hf : p.flat = true
        · exact .inr fun l' p' e => by injection e with e1 e2; subst e2; exact hf
        · exact .inl (by simp [rootish, rootishC, hS, hf])
    case agg cs =>
      have hu := slotv hs (n := n) (by rw [hS]; simp)
      obtain ⟨bt, h1, h2⟩ := hs.slot hu
      rw [hS] at h1 h2
      obtain ⟨arr, e, h1⟩ := h1
      refine done_put (bt := []) (tv := .agg (boxCells n 0 cs)) hs ⟨arr, e, CellsR.boxCells hs h1⟩ ?_ h
      intro arr' e' i c u hc hu'
      rw [boxCells_get, Nat.zero_add] at hc
      cases hci : cs[i]? with
      | none => rw [hci] at hc; cases hc
      | some x =>
        rw [hci] at hc
        injection hc with hc
        subst hc
        refine view_boxCell ?_ (by simp [rootCell, hS, List.getD_eq_getElem?_getD, hci]) (by rw [rootV, hS, hu, e']; exact hu') (h2 arr' e' i x u hci hu')
        by_cases hf : rootishC x = true
        · exact .inl (by simp only [rootish, hS, List.any_eq_true]; exact ⟨x, List.mem_of_getElem? hci, hf⟩)
        · exact .inr fun l p e => by subst e; simpa [rootishC] using hf
    case box cs =>
      have hu := slotv hs (n := n) (by rw [hS]; simp)
      obtain ⟨bt, h1, h2⟩ := hs.slot hu
      rw [hS] at h1 h2
      obtain ⟨g', arr, e, b1, e1, hg, hf, h1, _⟩ := h1
      exact done_put (bt := []) (tv := .place n 0 []) hs rfl (.inl ⟨rfl, cs, g', hS, by rw [hu, e1], e1⟩) h
    case place r c path =>
      have hu := slotv hs (n := n) (by rw [hS]; simp)
      obtain ⟨bt, h1, h2⟩ := hs.slot hu
      rw [hS] at h1 h2
      exact done_put (bt := []) (tv := .place r c path) hs rfl h2 h
    case ep l row off =>
      have hu := slotv hs (n := n) (by rw [hS]; simp)
      obtain ⟨bt, h1, h2⟩ := hs.slot hu
      rw [hS] at h1 h2
      exact done_put (bt := []) (tv := .ep l row off) hs ⟨rfl, h1.2⟩ trivial h
    all_goals cases h

theorem ofCells_TVR {E w φ agg cs v us b tv} (h : AggR E w φ agg cs v us b) (ht : TV.ofCells agg cs = some tv) : TVR E w φ tv v b := by
  unfold TV.ofCells at ht
  obtain ⟨h1, h2⟩ := h
  split at ht
  · rename_i ha
    injection ht with ht
    subst ht
    rw [if_pos ha] at h1
    exact ⟨us.toArray, h1, by simpa using h2⟩
  · rename_i ha
    rw [if_neg ha] at h1
    split at ht
    · rename_i c
      injection ht with ht
      subst ht
      obtain ⟨u, us', b1, b2, rfl, rfl, hc, h2⟩ := h2
      obtain ⟨rfl, rfl⟩ := h2
      injection h1 with h1
      subst h1
      rw [List.append_nil]
      exact hc
    · cases ht
theorem ofCells_view {S vs w φ agg cs v us tv} (h1 : if agg = true then v = .agg us.toArray else us = [v]) (hc : ∀ (i : Nat) c u, cs[i]? = some c → us[i]? = some u → ViewC S vs w φ c u)
    (ht : TV.ofCells agg cs = some tv) : ViewTV S vs w φ tv v := by
  unfold TV.ofCells at ht
  split at ht
  · rename_i ha
    injection ht with ht
    subst ht
    rw [if_pos ha] at h1
    intro arr e i c u a b
    rw [h1] at e
    injection e with e
    subst e
    exact hc i c u a (by simpa using b)
  · rename_i ha
    rw [if_neg ha] at h1
    split at ht
    · injection ht with ht
      subst ht
      subst h1
      exact hc 0 _ v rfl rfl
    · cases ht

theorem take_ok {E S vs w φ bs g x d v S'} (hs : SR E S vs w φ bs []) (hx : OpndR vs x v) (h : step S d (.take g x) = some S') : Done E S' (upd vs d v) w φ := by
  simp only [step] at h
  cases ht : tAny S x with
  | none => rw [ht] at h; cases h
  | some y =>
    obtain ⟨agg, cs, S1⟩ := y
    rw [ht] at h
    simp only [Option.bind_some] at h
    cases ho : TV.ofCells agg cs with
    | none => rw [ho] at h; cases h
    | some tv =>
      rw [ho] at h
      obtain ⟨bs', bc, us, q1, q2, q3, q4⟩ := tAny_sound hs hx ht
      exact done_put q1 (ofCells_TVR q3 ho) (ofCells_view q3.1 q4 ho) h

/-! ### Scalars -/
theorem ofSem_eq {s : Sem Value} {p : PV} (h : ofSem s = some p) : s = .pure p.toV ∧ p.flat = true := by
  unfold ofSem at h
  split at h
  · rename_i v
    unfold ofV at h
    split at h <;> first | (injection h with h; subst h; exact ⟨rfl, rfl⟩) | cases h
  · cases h

theorem pick_ok {E S vs w φ bs c a b d vc va vb S'} (hs : SR E S vs w φ bs []) (hc : OpndR vs c vc) (ha : OpndR vs a va) (hb : OpndR vs b vb)
    (h : step S d (.pick c a b) = some S') : ∃ t, vc = .bool t ∧ ∀ v, v = (if t then va else vb) → Done E S' (upd vs d v) w φ := by
  simp only [step] at h
  split at h
  · rename_i lc t h1
    split at h
    · rename_i lv v h2
      split at h
      · rename_i hf
        refine ⟨t, (bOne_sound hs hc h1).flat rfl, fun u hv => ?_⟩
        refine done_scalar hs hf ?_ h
        rw [hv]
        cases t
        · exact (bOne_sound hs hb h2).flat hf
        · exact (bOne_sound hs ha h2).flat hf
      · cases h
    · cases h
  · cases h

theorem sameCells_sound {E w φ} : ∀ {a b : List (Lev × PV)} {us ts r}, CellsR E w φ (a.map valCell) us [] → CellsR E w φ (b.map valCell) ts [] → sameCells a b = some r →
    us.length = ts.length ∧ (∀ (i : Nat) u t, us[i]? = some u → ts[i]? = some t → ∃ p q, u = PV.toV p ∧ t = PV.toV q ∧ (sameScalar p q).isSome) ∧
    (r = true ↔ ∀ (i : Nat) u t, us[i]? = some u → ts[i]? = some t → ∃ p q, u = PV.toV p ∧ t = PV.toV q ∧ sameScalar p q = some true) := by
  intro a
  induction a with
  | nil =>
    intro b us ts r h1 h2 h
    cases b with
    | cons y ys => simp [sameCells] at h
    | nil =>
      simp only [sameCells, Option.some.injEq] at h
      subst h
      obtain ⟨rfl, _⟩ := h1
      obtain ⟨rfl, _⟩ := h2
      simp
  | cons x xs ih =>
    intro b us ts r h1 h2 h
    cases b with
    | nil => simp [sameCells] at h
    | cons y ys =>
      simp only [sameCells] at h
      cases hb : sameScalar x.2 y.2 with
      | none => rw [hb] at h; cases h
      | some b =>
        rw [hb] at h
        simp only [Option.bind_some] at h
        cases hr : sameCells xs ys with
        | none => rw [hr] at h; cases h
        | some c =>
          rw [hr] at h
          simp only [Option.map_some, Option.some.injEq] at h
          subst h
          obtain ⟨u, us', b1, b2, rfl, e1, hc, h1⟩ := h1
          obtain ⟨t, ts', c1, c2, rfl, e2, hd, h2⟩ := h2
          have e1 := List.append_eq_nil_iff.1 e1.symm
          have e2 := List.append_eq_nil_iff.1 e2.symm
          obtain ⟨rfl, rfl⟩ := e1
          obtain ⟨rfl, rfl⟩ := e2
          obtain ⟨k1, k2, k3⟩ := ih h1 h2 hr
          have fx : x.2.flat = true ∧ y.2.flat = true := by
            unfold sameScalar at hb
            split at hb <;> rename_i e1 e2 <;> first | (rw [e1, e2]; exact ⟨rfl, rfl⟩) | cases hb
          have hu := CellR.flat hc fx.1
          have ht := CellR.flat hd fx.2
          refine ⟨by simp [k1], fun i u' t' a b' => ?_, ?_⟩
          · cases i with
            | zero => simp at a b'; subst a; subst b'; exact ⟨x.2, y.2, hu, ht, by rw [hb]; rfl⟩
            | succ i => exact k2 i u' t' (by simpa using a) (by simpa using b')
          · rw [Bool.and_eq_true, k3]
            constructor
            · rintro ⟨rfl, k⟩ i u' t' a b'
              cases i with
              | zero => simp at a b'; subst a; subst b'; exact ⟨x.2, y.2, hu, ht, hb⟩
              | succ i => exact k i u' t' (by simpa using a) (by simpa using b')
            · intro k
              refine ⟨?_, fun i u' t' a b' => k (i + 1) u' t' (by simpa using a) (by simpa using b')⟩
              obtain ⟨p, q, e1, e2, e3⟩ := k 0 u t rfl rfl
              have inj : ∀ {p q : PV}, q.flat = true → p.toV = q.toV → p = q := by
                intro p q hq e
                cases p <;> cases q <;> simp [PV.toV, PV.flat] at e hq ⊢ <;> exact e
              have ep : x.2 = p := by
                have fp : p.flat = true := by
                  unfold sameScalar at e3
                  split at e3 <;> first | rfl | cases e3
                exact inj fp (by rw [← hu, e1])
              have eq : y.2 = q := by
                have fq : q.flat = true := by
                  unfold sameScalar at e3
                  split at e3 <;> first | rfl | cases e3
                exact inj fq (by rw [← ht, e2])
              rw [← ep, ← eq, hb] at e3
              injection e3

end Go.Proofs.Ytkiliooegoldoaa

/- Loads, places, indices. -/
set_option linter.unusedVariables false
set_option linter.unusedSimpArgs false
namespace Go.Proofs.Ytkiliooegoldoaa
open Go

theorem drop_take_get {α : Type} {l : List α} {a n i : Nat} : ((l.drop a).take n)[i]? = if i < n then l[a + i]? else none := by
  rw [List.getElem?_take]
  split
  · rw [List.getElem?_drop]
  · rfl

theorem CellR.ofRead {E w φ l q u} (h : RdL w (okOf E φ l) [q] [u]) : CellR E w φ (.val (borL l q) q) u [] := by
  unfold borL
  split <;> rename_i hf
  · exact (h.flat_ hf w (okB φ) φ).2
  · cases l <;> exact ⟨h, rfl⟩
theorem CellsR.ofRead {E w φ l} : ∀ {qs us}, RdL w (okOf E φ l) qs us → CellsR E w φ (qs.map fun q => .val (borL l q) q) us [] := by
  intro qs
  induction qs with
  | nil => intro us h; cases h; exact ⟨rfl, rfl⟩
  | cons q qs ih =>
    intro us h
    cases us with
    | nil => cases h
    | cons u us =>
      obtain ⟨h1, h2⟩ := RdL.cons_iff.1 h
      exact ⟨u, us, [], [], rfl, rfl, CellR.ofRead h1, ih h2⟩
theorem CellsR.ofGet {E w φ} : ∀ {cs us}, cs.length = us.length → (∀ (i : Nat) c u, cs[i]? = some c → us[i]? = some u → CellR E w φ c u []) → CellsR E w φ cs us [] := by
  intro cs
  induction cs with
  | nil => intro us h _; cases us <;> simp at h; exact ⟨rfl, rfl⟩
  | cons c cs ih =>
    intro us h k
    cases us with
    | nil => simp at h
    | cons u us =>
      exact ⟨u, us, [], [], rfl, rfl, k 0 c u rfl rfl, ih (by simpa using h) fun i c u a b => k (i + 1) c u (by simpa using a) (by simpa using b)⟩

theorem placeSplit_snoc (pre : Path) (x : Nat × Nat × Nat) : placeSplit (pre ++ [x]) = some (pre, x) := by
  induction pre with
  | nil => rfl
  | cons y pre ih =>
    cases pre with
    | nil => rfl
    | cons z pre => simp only [List.cons_append, placeSplit] at ih ⊢; rw [ih]; rfl

theorem pget_append {p q : PV} : ∀ {a b : Path}, pget p a = some q → pget p (a ++ b) = pget q b := by
  intro a
  induction a generalizing p with
  | nil => intro b h; simp only [pget, Option.some.injEq] at h; subst h; rfl
  | cons x a ih =>
    obtain ⟨s, i, j⟩ := x
    intro b h
    cases p with
    | sl sz xs =>
      simp only [pget, List.cons_append] at h ⊢
      split at h
      · rename_i hs
        rw [if_pos hs]
        split at h
        · rename_i r hr
          split at h
          · rename_i q' hq
            exact ih h
          · cases h
        · cases h
      · cases h
    | _ => simp [pget] at h
theorem rvPath_append {w φ} {v u : Value} : ∀ {a b : Path}, rvPath w φ v a = some u → rvPath w φ v (a ++ b) = rvPath w φ u b := by
  intro a
  induction a generalizing v with
  | nil => intro b h; simp only [rvPath, Option.some.injEq] at h; subst h; rfl
  | cons x a ih =>
    obtain ⟨s, i, j⟩ := x
    intro b h
    cases v with
    | slice A n c =>
      cases A with
      | none => simp [rvPath] at h
      | some A =>
        simp only [rvPath, List.cons_append] at h ⊢
        split at h
        · rename_i hok
          rw [if_pos hok]
          cases hc : w.cell? ⟨A.block, A.off + (i * s + j), none⟩ with
          | none => rw [hc] at h; cases h
          | some x => rw [hc] at h; exact ih h
        · cases h
    | _ => simp [rvPath] at h

/-- A slice that is read: its cells. -/
theorem RdL.slice_ {w ok sz xs v} (h : RdL w ok [.sl sz xs] [v]) : ∃ A c cvs, v = .slice A xs.length c ∧ xs.length ≤ c ∧ (∀ r ∈ xs, r.length = sz) ∧ (∀ k u, cvs[k]? = some u → CellOk w ok A k u) ∧ RdL w ok xs.flatten cvs := by
  cases h with
  | sl a b c d e _ => exact ⟨_, _, _, by rw [a], by rw [a]; exact b, c, d, e⟩

theorem RdL.row {w ok sz xs v g o n c i row} (h : RdL w ok [.sl sz xs] [v]) (hv : v = .slice (some ⟨g, o, none⟩) n c) (hi : xs[i]? = some row) :
    ∃ us, us.length = row.length ∧ RdL w ok row us ∧ ∀ k u, us[k]? = some u → ok g (o + (i * sz + k)) ∧ w.cell? ⟨g, o + (i * sz + k), none⟩ = some u := by
  obtain ⟨A, c', cvs, e, _, hr, hcv, hrd⟩ := h.slice_
  rw [hv] at e
  injection e with e1 e2 e3
  subst e1
  have hlen : row.length = sz := hr row (List.mem_of_getElem? hi)
  have hflat : xs.flatten.length = xs.length * sz := rows_length hr
  have hlt := (List.getElem?_eq_some_iff.1 hi).1
  have hle : i * sz + sz ≤ xs.length * sz := by rw [← Nat.succ_mul]; exact Nat.mul_le_mul_right _ hlt
  have hrow : (xs.flatten.drop (i * sz)).take sz = row := by
    apply List.ext_getElem?
    intro k
    rw [drop_take_get]
    split
    · rename_i hk
      cases hq : row[k]? with
      | none => have := List.getElem?_eq_none_iff.1 hq; omega
      | some q => exact flatten_get hr hi hq
    · rw [List.getElem?_eq_none (by omega)]
  refine ⟨(cvs.drop (i * sz)).take sz, ?_, ?_, fun k u hk => ?_⟩
  · have := hrd.length; simp; omega
  · rw [← hrow]; exact (hrd.drop_ _).take_ _
  · rw [drop_take_get] at hk
    split at hk
    · obtain ⟨g', o', e, h1, h2⟩ := hcv _ _ hk
      injection e with e
      cases e
      exact ⟨h1, h2⟩
    · cases hk

theorem cellsAt_get {r c l one pre s i} : ∀ {qs : List PV} {j k : Nat}, (cellsAt r c l one pre s i j qs)[k]? = (qs[k]?).map (cellAt r c l one pre s i (j + k)) := by
  intro qs
  induction qs with
  | nil => intro j k; rfl
  | cons q qs ih =>
    intro j k
    cases k with
    | zero => rfl
    | succ k =>
      simp only [cellsAt, List.getElem?_cons_succ]
      rw [ih, Nat.add_assoc, Nat.add_comm 1 k]
theorem cellsAt_length {r c l one pre s i} : ∀ {qs : List PV} {j : Nat}, (cellsAt r c l one pre s i j qs).length = qs.length := by
  intro qs
  induction qs with
  | nil => intro j; rfl
  | cons q qs ih => intro j; simp [cellsAt, ih]

structure Loaded (E : Env) (S : St) (vs : List Value) (w : World) (φ : Nat → Nat) (n : Nat) (v : Value) (cs : List Cell) (us : List Value) : Prop where
  len : us.length = n
  cells : ∃ g o, v = .pointer (some ⟨g, o, none⟩) ∧ ∀ (k : Nat) u, us[k]? = some u → w.cell? ⟨g, o + k, none⟩ = some u
  rel : CellsR E w φ cs us []
  views : ∀ (i : Nat) c u, cs[i]? = some c → us[i]? = some u → ViewC S vs w φ c u

theorem rootBox {S : St} {r : Nat} {cs : List Cell} {c : Nat} {x : Cell} (hS : S.g r = .box cs) (hx : cs[c]? = some x) : rootCell S r c = x := by
  simp [rootCell, hS, List.getD_eq_getElem?_getD, hx]

theorem RdL.okOf_ {E : Env} {w φ} {ok : Nat → Nat → Prop} {ps vs l} (h : RdL w ok ps vs) (hk : ok = okOf E φ l) : RdL w (okOf E φ l) ps vs := hk ▸ h

theorem loadAt_sound {E S vs w φ bs hand rs n p cs} (hs : SR E S vs w φ bs hand) (hd : S.g p ≠ .dead) (h : loadAt S rs n (asPlace S p) = some cs) :
    ∃ us, Loaded E S vs w φ n (vs.getD p undef) cs us := by
  have hu := slotv hs hd
  obtain ⟨bt, h1, h2⟩ := asPlace_sound hs hd
  cases hS : asPlace S p <;> rw [hS] at h h1 h2 <;> (try simp only [loadAt] at h)
  case ep l row off =>
    split at h
    · rename_i hle
      injection h with h
      subst h
      obtain ⟨_, g, o, cvs, e, k1, k2⟩ := h1
      have hl := k2.length
      refine ⟨(cvs.drop off).take n, ⟨by simp; omega, ⟨g, o + off, e, fun k u hk => ?_⟩, CellsR.ofRead ((k2.drop_ off).take_ n), fun i c u a b => ?_⟩⟩
      · rw [drop_take_get] at hk
        split at hk
        · have := (k1 _ _ hk).2
          rw [← Nat.add_assoc] at this
          exact this
        · cases hk
      · rw [List.getElem?_map] at a
        cases hq : ((row.drop off).take n)[i]? <;> rw [hq] at a
        · cases a
        · injection a with a; subst a; trivial
    · cases h
  case place r c path =>
    cases path with
    | nil =>
      simp only [loadAt] at h
      split at h
      · split at h
        · rename_i cs0 hr
          split at h
          · rename_i hle
            injection h with h
            subst h
            rcases h2 with ⟨_, cs', g, e1, e2, e3⟩ | ⟨pre, s, i, j, e, _⟩
            · obtain ⟨bt', h3, h4⟩ := hs.slot e2
              rw [hr] at h3 h4
              obtain ⟨g', arr, e, b1, ev, hg, hf, h3, _⟩ := h3
              injection ev with ev
              injection ev with ev
              cases ev
              have hlen := h3.length
              have hget : ∀ (k : Nat) u, ((arr.toList.drop c).take n)[k]? = some u → arr.toList[c + k]? = some u := fun k u hk => by
                rw [drop_take_get] at hk
                split at hk
                · exact hk
                · cases hk
              have hcells : ∀ (k : Nat) x u, (boxCells r c ((cs0.drop c).take n))[k]? = some x → ((arr.toList.drop c).take n)[k]? = some u → ∃ y b, x = boxCell r (c + k) y ∧ cs0[c + k]? = some y ∧ CellR E w φ y u b ∧ ViewC S vs w φ y u := by
                intro k x u a b
                rw [boxCells_get, drop_take_get] at a
                split at a
                · cases hy : cs0[c + k]? with
                  | none => rw [hy] at a; cases a
                  | some y =>
                    rw [hy] at a
                    injection a with a
                    obtain ⟨v', b1, br, m1, m2, _⟩ := h3.get hy
                    rw [hget k u b] at m1
                    injection m1 with m1
                    subst m1
                    exact ⟨y, b1, a.symm, rfl, m2, h4 ⟨g, 0, none⟩ arr e (0, 0) rfl hg (c + k) y u hy (by rw [← Array.getElem?_toList]; exact hget k u b)⟩
                · cases a
              refine ⟨(arr.toList.drop c).take n, ⟨by simp at hlen ⊢; omega, ⟨g, c, e3, fun k u hk => by rw [cell_of_heap hg, ← Array.getElem?_toList]; exact hget k u hk⟩, CellsR.ofGet ?_ ?_, ?_⟩⟩
              · have : ∀ (l : List Cell) k, (boxCells r k l).length = l.length := by
                  intro l; induction l with
                  | nil => intro k; rfl
                  | cons c l ih => intro k; simp [boxCells, ih]
                rw [this]; simp at hlen ⊢; omega
              · intro k x u a b
                obtain ⟨y, b1, rfl, hy, m1, m2⟩ := hcells k x u a b
                exact CellR.boxCell hs m1
              · intro k x u a b
                obtain ⟨y, b1, rfl, hy, m1, m2⟩ := hcells k x u a b
                refine view_boxCell (.inl (by rw [hr]; rfl)) (rootBox hr hy) ?_ m2
                simp only [rootV, hr, e2]
                rw [cell_of_heap hg, ← Array.getElem?_toList]
                exact hget k u b
            · simp at e
          · cases h
        · cases h
      · cases h
    | cons x path =>
      simp only [loadAt] at h
      split at h
      · rename_i hrs
        split at h
        · rename_i pre s i j l p0 hsplit hroot
          split at h
          · rename_i sz xs hget
            split at h
            · rename_i hsz
              subst hsz
              split at h
              · rename_i row hrow
                split at h
                · rename_i hle
                  injection h with h
                  subst h
                  rcases h2 with ⟨e, _⟩ | ⟨pre', s', i', j', e, k1, k2⟩
                  · cases e
                  · rw [e, placeSplit_snoc] at hsplit
                    injection hsplit with hsplit
                    cases hsplit
                    obtain ⟨hnf, hin, _, v0, g, o, n', cap, k3, k4, k5⟩ := k2 _ _ hroot
                    obtain ⟨b0, hb0⟩ := hs.root hroot k3
                    have hread := (CellR.reads hs.hO hb0).pget hget k4
                    obtain ⟨us, m1, m2, m3⟩ := hread.row rfl hrow
                    have hulen : ((us.drop j).take n).length = n := by simp; omega
                    refine ⟨(us.drop j).take n, ⟨hulen, ⟨g, o + (i * s + j), k5, fun k u hk => ?_⟩, CellsR.ofGet (by rw [cellsAt_length]; simp; omega) ?_, ?_⟩⟩
                    · rw [drop_take_get] at hk
                      split at hk
                      · have := (m3 _ _ hk).2
                        rw [show o + (i * s + j) + k = o + (i * s + (j + k)) from by omega]
                        exact this
                      · cases hk
                    · intro k x u a b
                      rw [cellsAt_get, drop_take_get] at a
                      rw [drop_take_get] at b
                      split at a <;> rename_i hk
                      · rw [if_pos hk] at b
                        cases hq : row[j + k]? with
                        | none => rw [hq] at a; cases a
                        | some q =>
                          rw [hq] at a
                          injection a with a
                          subst a
                          obtain ⟨u', hu', hrd⟩ := m2.get hq
                          rw [b] at hu'
                          injection hu' with hu'
                          subst hu'
                          unfold cellAt
                          split
                          · rename_i hf; exact (hrd.flat_ hf w (okB φ) φ).2
                          · cases l <;> dsimp only
                            · -- old
                              have hr2 : RdL w E.okO [p0] [v0] := hb0.1
                              obtain ⟨us2, m1', m2', m3'⟩ := (hr2.pget hget k4).row rfl hrow
                              obtain ⟨u2, hu2, hrd2⟩ := m2'.get hq
                              have e1 := (m3 _ _ b).2
                              have e2 := (m3' _ _ hu2).2
                              rw [e1] at e2
                              injection e2 with e2
                              subst e2
                              exact ⟨hrd2, rfl⟩
                            · exact ⟨hrd, rfl⟩
                            · exact ⟨rfl, hrd.oneC⟩
                            · -- oldR
                              cases hpe : pre with
                              | cons _ _ => exact ⟨hrd, rfl⟩
                              | nil =>
                                subst hpe
                                simp only [pget, Option.some.injEq] at hget
                                subst hget
                                simp only [rvPath, Option.some.injEq] at k4
                                subst k4
                                obtain ⟨sz', xs', ep, h0 | ⟨g', n'', c', cur, e', ev, _, q1, q2, q3, q4, q5, q6, q7⟩⟩ := hb0
                                · cases h0.1
                                · cases ep
                                  cases ev
                                  obtain ⟨u3, hu3, hrd3⟩ := q7.get (flatten_get q3 hrow hq)
                                  have e1 := (m3 _ _ b).2
                                  rw [cell_of_heap q4] at e1
                                  rw [List.getElem?_take] at hu3
                                  split at hu3
                                  · rw [Array.getElem?_toList] at hu3
                                    rw [Nat.zero_add] at e1
                                    rw [e1] at hu3
                                    injection hu3 with hu3
                                    subst hu3
                                    exact ⟨hrd3, rfl⟩
                                  · cases hu3
                            · exact ⟨hrd, rfl⟩
                      · cases a
                    · intro k x u a b
                      rw [cellsAt_get, drop_take_get] at a
                      rw [drop_take_get] at b
                      split at a <;> rename_i hk
                      · rw [if_pos hk] at b
                        cases hq : row[j + k]? with
                        | none => rw [hq] at a; cases a
                        | some q =>
                          rw [hq] at a
                          injection a with a
                          subst a
                          unfold cellAt
                          split
                          · trivial
                          · cases l <;> dsimp only <;> (try trivial)
                            · -- deep
                              refine ⟨k1, fun l' p' hr' => ?_⟩
                              rw [hroot] at hr'
                              injection hr' with e1 e2
                              subst e1; subst e2
                              refine ⟨hnf, fun _ => .inl rfl, ⟨q, ?_⟩, v0, k3, ?_⟩
                              · rw [pget_append hget]; simp [pget, hrow, hq]
                              · rw [rvPath_append k4]
                                have e1 := m3 _ _ b
                                simp only [rvPath]
                                rw [if_pos ⟨trivial, e1.1⟩, e1.2]
                                rfl
                            · split <;> trivial
                      · cases a
                · cases h
              · cases h
            · cases h
          · cases h
        · cases h
      · cases h
  all_goals (simp [loadAt] at h)

end Go.Proofs.Ytkiliooegoldoaa

/- What the model's operations do, in the terms of the relation. -/
set_option linter.unusedVariables false
set_option linter.unusedSimpArgs false
namespace Go.Proofs.Ytkiliooegoldoaa
open Go
variable {P : Program} {w : World}

theorem addr_add (g o j : Nat) : (⟨g, o, none⟩ : Addr).add j = ⟨g, o + j, none⟩ := by unfold Addr.add; split <;> simp_all

def aggD : TypeDesc → Bool
  | .struct _ | .array _ _ => true
  | _ => false

theorem r_isAgg {t d} (h : P.underlying t = some d) : (isAgg t).run P w = .ok (aggD d) w := by
  simp [isAgg, run_underlying h]
  cases d <;> rfl
theorem r_size {t i} (h : P.info? t = some i) : (sizeOf t).run P w = .ok i.size w := by
  simp [sizeOf, typeInfo, h]

theorem r_loadOne {t d g o u} (h : P.underlying t = some d) (hd : aggD d = false) (hc : w.cell? ⟨g, o, none⟩ = some u) :
    (Instr.loadAt t (.pointer (some ⟨g, o, none⟩))).run P w = .ok u w := by
  simp [Instr.loadAt, Instr.sureAddr, loadVar, r_isAgg h, hd, hc]
theorem r_loadAgg {t d g o i} {us : List Value} (h : P.underlying t = some d) (hd : aggD d = true) (hi : P.info? t = some i) (hn : i.size = us.length)
    (hc : ∀ (k : Nat) u, us[k]? = some u → w.cell? ⟨g, o + k, none⟩ = some u) :
    (Instr.loadAt t (.pointer (some ⟨g, o, none⟩))).run P w = .ok (.agg us.toArray) w := by
  have := run_loadCells_list (P := P) w ⟨g, o, none⟩ us (fun j v hj => by rw [addr_add]; exact hc j v hj)
  simp [Instr.loadAt, Instr.sureAddr, loadVar, r_isAgg h, hd, r_size hi, hn, this]

theorem r_store {t g o i T} {cur : Array Value} {v : Value} (hi : P.info? t = some i) (hn : v.cells.size = i.size) (hg : w.heap[g]? = some (.cells cur T (0, 0))) (hl : o + v.cells.size ≤ cur.size)
    (h1 : ∀ u ∈ v.cells.toList, u.oneCell' = true) :
    (Instr.storeAt t (.pointer (some ⟨g, o, none⟩)) v).run P w = .ok () (w.setRow g (cur.toList.take o ++ v.cells.toList ++ cur.toList.drop (o + v.cells.size)).toArray) := by
  have := run_storeCells_at (P := P) g o T v.cells.toList 0 cur w hg (by simpa using hl) h1
  simp only [Nat.add_zero, Array.length_toList] at this
  simp [Instr.storeAt, Instr.sureAddr, storeVar, r_size hi, hn, this]

theorem r_field {s fs f fd g o i} (h : P.underlying s = some (.struct fs)) (hf : fs[f]? = some fd) (hi : P.info? fd.type = some i) (hz : i.size ≠ 0) :
    (Instr.fieldAt s (.pointer (some ⟨g, o, none⟩)) f).run P w = .ok (.pointer (some ⟨g, o + fd.offset, none⟩)) w := by
  simp [Instr.fieldAt, run_underlying h, hf, Instr.sureAddr, fieldPlace, r_size hi, hz, addr_add]

theorem r_index {t e i k g o n c} {z : Nat} (h : P.underlying t = some (.slice e)) (hi : P.info? e = some i) (hz : z < n) :
    (Instr.indexAt t (.slice (some ⟨g, o, none⟩) n c) (.int k z)).run P w = .ok (.pointer (some ⟨g, o + z * i.size, none⟩)) w := by
  simp [Instr.indexAt, asIntOf, run_underlying h, r_size hi, hz, addr_add]

theorem r_alloc {t i z} (hi : P.info? t = some i) (hz : i.zero = some z) :
    (Instr.alloc t true (.tuple #[])).run P w = .ok (.pointer (some ⟨w.heap.size, 0, none⟩)) (w.alloc (.cells z.cells t)) := by
  simp [Instr.alloc, zeroValue, typeInfo, hi, hz, newVar, newRow]
theorem r_box {t v} : (Instr.box t v).run P w = .ok (.pointer (some ⟨w.heap.size, 0, none⟩)) (w.alloc (.cells v.cells t)) := by
  simp [Instr.box, newVar, newRow]

/-! ### Building -/
theorem foldl_set (cs : List Value) : ∀ (arr : Array Value) (off k : Nat), off + k + cs.length ≤ arr.size →
    ((cs.zipIdx k).foldl (fun (cs : Array Value) (x : Value × Nat) => cs.setIfInBounds (off + x.2) x.1) arr).toList = arr.toList.take (off + k) ++ cs ++ arr.toList.drop (off + k + cs.length) := by
  induction cs with
  | nil => intro arr off k h; simp
  | cons c cs ih =>
    intro arr off k h
    simp only [List.zipIdx_cons, List.foldl_cons]
    rw [ih _ off (k + 1) (by simp at h ⊢; omega)]
    simp only [Array.toList_setIfInBounds]
    simp only [List.length_cons] at h
    have hs : off + k < arr.toList.length := by simp; omega
    have e : arr.toList.set (off + k) c = arr.toList.take (off + k) ++ c :: arr.toList.drop (off + k + 1) := by
      rw [List.set_eq_take_append_cons_drop, if_pos hs]
    have hl : (arr.toList.take (off + k)).length = off + k := by simp; omega
    rw [e]
    rw [show off + (k + 1) = (arr.toList.take (off + k)).length + 1 from by omega, List.take_append, List.take_of_length_le (by omega)]
    rw [show (arr.toList.take (off + k)).length + 1 + cs.length = (arr.toList.take (off + k)).length + (1 + cs.length) from by omega, List.drop_append, List.drop_of_length_le (l := arr.toList.take (off + k)) (by omega)]
    rw [show (arr.toList.take (off + k)).length + 1 - (arr.toList.take (off + k)).length = 1 from by omega, show (arr.toList.take (off + k)).length + (1 + cs.length) - (arr.toList.take (off + k)).length = cs.length + 1 from by omega]
    simp only [List.take_succ_cons, List.take_zero, List.drop_succ_cons, List.drop_drop, List.nil_append, List.append_assoc, List.cons_append, List.length_cons]
    congr 3
    congr 1
    omega

theorem fill_cons {place : Nat → Option (Nat × Nat)} {cells : Array Value} {i : Nat} {v : Value} {rest} {off size : Nat} (hp : place i = some (off, size)) (hs : v.cells.size = size) (hl : off + v.cells.size ≤ cells.size) :
    Instr.fill place cells ((i, v) :: rest) = Instr.fill place (cells.toList.take off ++ v.cells.toList ++ cells.toList.drop (off + v.cells.size)).toArray rest := by
  simp only [Instr.fill, hp]
  rw [if_neg (by simp [hs]; omega)]
  congr 1
  apply Array.ext'
  have := foldl_set v.cells.toList cells off 0 (by simpa using hl)
  simp only [Nat.add_zero, Array.length_toList] at this
  rw [← this]
  rw [← Array.foldl_toList]
  simp [Array.toList_zipIdx]

end Go.Proofs.Ytkiliooegoldoaa

/- Operations that make no memory, as the model runs them. -/
set_option linter.unusedVariables false
set_option linter.unusedSimpArgs false
namespace Go.Proofs.Ytkiliooegoldoaa
open Go

def chkConst : Value → PV → Bool
  | .int k n, .int k' n' => k == k' && n == n'
  | .bool b, .bool b' => b == b'
  | .string s, .str s' => s.data.toList == s'.data.toList
  | .slice none 0 0, .sl _ [] => true
  | _, _ => false
def chkO : Operand → AOpnd → Bool
  | .tmp n, .t m _ => n == m
  | .const v, .c p => chkConst v p
  | _, _ => false

theorem chkConst_sound {v p} (h : chkConst v p = true) : ConstR p v := by
  unfold chkConst at h
  split at h
  · simp at h; obtain ⟨rfl, rfl⟩ := h; exact .inl ⟨rfl, rfl⟩
  · simp at h; subst h; exact .inl ⟨rfl, rfl⟩
  · rename_i s s'
    have : s = s' := by
      cases s; cases s'
      simp at h ⊢
      exact h
    subst this
    exact .inl ⟨rfl, rfl⟩
  · exact .inr ⟨_, rfl, rfl⟩
  · cases h

def RhoR (ρ : Operand → Value) (vs : List Value) : Prop := ∀ x y, chkO x y = true → OpndR vs y (ρ x)

def OpOk (P : Program) (ρ : Operand → Value) (o : Oper) (w : World) (K : Value → World → Prop) : Prop :=
  ∃ v w', ((execOp ρ o).run P w = .ok (.value v) w' ∨ ((execOp ρ o).run P w = .ok .skip w' ∧ v = undef)) ∧ K v w'

abbrev Goal (P : Program) (ρ : Operand → Value) (o : Oper) (E : Env) (S' : St) (vs : List Value) (d : Option Nat) (w : World) : Prop :=
  OpOk P ρ o w fun v w' => ∃ φ', Done E S' (upd vs d v) w' φ'

section
variable {P : Program} {ρ : Operand → Value} {o : Oper} {E : Env} {S S' : St} {vs : List Value} {w : World} {φ : Nat → Nat} {bs : List Nat} {d : Option Nat}

theorem slotρ (hρ : RhoR ρ vs) {a p rs} (h : chkO a (.t p rs) = true) : ρ a = vs.getD p undef := hρ a _ h

theorem goal_val {v} (hr : (execOp ρ o).run P w = .ok (.value v) w) (h : Done E S' (upd vs d v) w φ) : Goal P ρ o E S' vs d w := ⟨v, w, .inl hr, φ, h⟩

/-! ### move, assign -/
theorem mv_goal {g x y} (hs : SR E S vs w φ bs []) (hρ : RhoR ρ vs) (ho : o.op = .move y ∨ o.op = .assign y) (hc : chkO y x = true) (h : step S d (.mv g x) = some S') : Goal P ρ o E S' vs d w :=
  goal_val (v := ρ y) (by rcases ho with ho | ho <;> simp [execOp, ho]) (mv_ok hs (hρ y x hc) h)
theorem take_goal {g x y} (hs : SR E S vs w φ bs []) (hρ : RhoR ρ vs) (ho : o.op = .move y ∨ o.op = .assign y) (hc : chkO y x = true) (h : step S d (.take g x) = some S') : Goal P ρ o E S' vs d w :=
  goal_val (v := ρ y) (by rcases ho with ho | ho <;> simp [execOp, ho]) (take_ok hs (hρ y x hc) h)
theorem pick_goal {c a b x y z} (hs : SR E S vs w φ bs []) (hρ : RhoR ρ vs) (ho : o.op = .pick x y z) (hc : chkO x c = true) (ha : chkO y a = true) (hb : chkO z b = true) (h : step S d (.pick c a b) = some S') : Goal P ρ o E S' vs d w := by
  obtain ⟨t, ht, k⟩ := pick_ok hs (hρ x c hc) (hρ y a ha) (hρ z b hb) h
  exact goal_val (v := if t then ρ y else ρ z) (by simp [execOp, ho, ht, asBool]) (k _ rfl)

/-! ### load -/
theorem load_goal {n p t a rs} {dt : TypeDesc} {i : TypeInfo} (hs : SR E S vs w φ bs []) (hρ : RhoR ρ vs) (ho : o.op = .load t a) (hc : chkO a (.t p rs) = true) (hd : P.underlying t = some dt) (hi : P.info? t = some i)
    (hn : match n with | none => aggD dt = false | some k => aggD dt = true ∧ i.size = k) (h : step S d (.load n (.t p rs)) = some S') : Goal P ρ o E S' vs d w := by
  simp only [step] at h
  cases hl : loadAt S rs (n.getD 1) (asPlace S p) with
  | none => rw [hl] at h; cases h
  | some cs =>
    rw [hl] at h
    simp only [Option.bind_some] at h
    cases hc' : TV.ofCells n.isSome cs with
    | none => rw [hc'] at h; cases h
    | some tv =>
      rw [hc'] at h
      simp only [Option.bind_some] at h
      have hdead : S.g p ≠ .dead := by intro e; simp [asPlace, e, loadAt] at hl
      obtain ⟨us, hL⟩ := loadAt_sound hs hdead hl
      obtain ⟨g, off, hv, hcell⟩ := hL.cells
      have hρa := slotρ hρ hc
      rw [hv] at hρa
      cases n with
      | none =>
        have hlen := hL.len
        simp at hlen
        obtain ⟨u, rfl⟩ : ∃ u, us = [u] := by
          cases us with
          | nil => simp at hlen
          | cons u us => cases us with
            | nil => exact ⟨u, rfl⟩
            | cons _ _ => simp at hlen
        refine goal_val (φ := φ) (v := u) (by have e0 := hcell 0 u rfl; rw [Nat.add_zero] at e0; simp [execOp, ho, hρa, r_loadOne hd hn e0]) ?_
        have hA : AggR E w φ false cs u [u] [] := ⟨rfl, hL.rel⟩
        exact done_put (bt := []) (φ := φ) hs (ofCells_TVR hA hc') (ofCells_view (agg := false) (us := [u]) rfl hL.views hc') h
      | some k =>
        refine goal_val (φ := φ) (v := .agg us.toArray) (by simp [execOp, ho, hρa, r_loadAgg hd hn.1 hi (hn.2.trans hL.len.symm) hcell]) ?_
        have hA : AggR E w φ true cs (.agg us.toArray) us [] := ⟨rfl, hL.rel⟩
        exact done_put (bt := []) hs (ofCells_TVR hA hc') (ofCells_view (agg := true) (us := us) rfl hL.views hc') h

/-! ### places -/
theorem pathOff_snoc (off : Nat) (pre : Path) (s i j : Nat) : pathOff off (pre ++ [(s, i, j)]) = pre ++ [(s, i, j + off)] := by
  induction pre with
  | nil => rfl
  | cons y pre ih =>
    cases pre with
    | nil => rfl
    | cons z pre => simp only [List.cons_append, pathOff] at ih ⊢; rw [ih]

theorem faddr_goal {off p a rs s f fs} {fd : Field} {i : TypeInfo} (hs : SR E S vs w φ bs []) (hρ : RhoR ρ vs) (ho : o.op = .fieldAddr s a f) (hc : chkO a (.t p rs) = true)
    (hu : P.underlying s = some (.struct fs)) (hf : fs[f]? = some fd) (hi : P.info? fd.type = some i) (hz : i.size ≠ 0) (hoff : fd.offset = off) (h : step S d (.faddr off (.t p rs)) = some S') : Goal P ρ o E S' vs d w := by
  subst hoff
  have hρa := slotρ hρ hc
  simp only [step] at h
  cases hS : S.g p <;> rw [hS] at h <;> (try dsimp only at h)
  case box cs =>
    have hu' := slotv hs (n := p) (by rw [hS]; simp)
    obtain ⟨bt, h1, h2⟩ := hs.slot hu'
    rw [hS] at h1
    obtain ⟨g, arr, e, b1, ev, _⟩ := h1
    rw [ev] at hρa
    refine goal_val (φ := φ) (v := .pointer (some ⟨g, fd.offset, none⟩)) (by simp [execOp, ho, hρa, r_field hu hf hi hz]) ?_
    exact done_put (bt := []) (tv := .place p fd.offset []) hs rfl (.inl ⟨rfl, cs, g, hS, by rw [hu', ev], rfl⟩) h
  case place r c path =>
    have hu' := slotv hs (n := p) (by rw [hS]; simp)
    obtain ⟨bt, h1, h2⟩ := hs.slot hu'
    rw [hS] at h2
    rcases h2 with ⟨rfl, cs, g, e1, e2, e3⟩ | ⟨pre, s', i', j, rfl, k1, k2⟩
    · rw [e3] at hρa
      refine goal_val (φ := φ) (v := .pointer (some ⟨g, c + fd.offset, none⟩)) (by simp [execOp, ho, hρa, r_field hu hf hi hz]) ?_
      exact done_put (bt := []) (tv := .place r (c + fd.offset) []) hs rfl (.inl ⟨rfl, cs, g, e1, e2, rfl⟩) h
    · have hne : pre ++ [(s', i', j)] ≠ [] := by simp
      obtain ⟨x, t, hxt⟩ := List.exists_cons_of_ne_nil hne
      rw [hxt] at h
      simp only at h
      rw [← hxt, pathOff_snoc] at h
      by_cases hroot : ∃ l p0, rootCell S r c = .val l p0
      · obtain ⟨l, p0, hroot⟩ := hroot
        obtain ⟨a1, a2, a3, v0, g, o', n, cap, a4, a5, a6⟩ := k2 l p0 hroot
        rw [a6] at hρa
        refine goal_val (φ := φ) (v := .pointer (some ⟨g, o' + (i' * s' + (j + fd.offset)), none⟩)) (by simp [execOp, ho, hρa, r_field hu hf hi hz] <;> omega) ?_
        rw [hroot] at h
        split at h
        case isFalse => cases h
        refine done_put (bt := []) (tv := .place r c (pre ++ [(s', i', j + fd.offset)])) hs rfl (.inr ⟨pre, s', i', j + fd.offset, rfl, k1, fun l' p' hr' => ?_⟩) h
        rw [hroot] at hr'
        injection hr' with e1 e2
        subst e1; subst e2
        exact ⟨a1, a2, a3, v0, g, o', n, cap, a4, a5, rfl⟩
      · exfalso
        split at h
        · split at h
          · rename_i hr; exact hroot ⟨_, _, hr⟩
          · cases h
        · cases h
  case ep l row off =>
    have hu' := slotv hs (n := p) (by rw [hS]; simp)
    obtain ⟨bt, h1, h2⟩ := hs.slot hu'
    rw [hS] at h1
    obtain ⟨_, g, o', cvs, ev, k1, k2⟩ := h1
    rw [ev] at hρa
    refine goal_val (φ := φ) (v := .pointer (some ⟨g, o' + (off + fd.offset), none⟩)) (by simp [execOp, ho, hρa, r_field hu hf hi hz] <;> omega) ?_
    exact done_put (bt := []) (tv := .ep l row (off + fd.offset)) hs ⟨rfl, g, o', cvs, rfl, k1, k2⟩ trivial h
  all_goals cases h

theorem scalar_goal {p : PV} (hs : SR E S vs w φ bs []) (hf : p.flat = true) (hr : (execOp ρ o).run P w = .ok (.value p.toV) w) (h : put false S d (.one (.val .deep p)) = some S') : Goal P ρ o E S' vs d w :=
  goal_val (φ := φ) hr (done_scalar hs hf rfl h)

theorem iaddr_goal {sz n rs i t x ix e} {ti : TypeInfo} (hs : SR E S vs w φ bs []) (hρ : RhoR ρ vs) (ho : o.op = .indexAddr t x ix) (hc : chkO x (.t n rs) = true) (hci : chkO ix i = true)
    (hu : P.underlying t = some (.slice e)) (hi : P.info? e = some ti) (hsz : ti.size = sz) (h0 : 0 < sz) (h : step S d (.iaddr sz (.t n rs) i) = some S') : Goal P ρ o E S' vs d w := by
  have hρx := slotρ hρ hc
  have hsn : S.g n ≠ .dead := by intro e; simp only [step, e] at h; cases h
  have hv := slotv hs hsn
  obtain ⟨bt, h1, h2⟩ := hs.slot hv
  -- the cell that the place is
  have addr : ∀ {xs : List (List PV)} {z : Nat} {A : Option Addr} {cc : Nat} {ok}, RdL w ok [.sl sz xs] [vs.getD n undef] → z < xs.length → vs.getD n undef = .slice A xs.length cc → ∃ g off, A = some ⟨g, off, none⟩ := by
    intro xs z A cc ok hr hz he
    obtain ⟨A', c', cvs, e1, _, hrows, hcv, hrd⟩ := hr.slice_
    rw [he] at e1
    injection e1 with e1 _ _
    subst e1
    have hrow : xs[z]? = some xs[z] := List.getElem?_eq_getElem hz
    have hl : (xs[z]).length = sz := hrows _ (List.getElem_mem hz)
    obtain ⟨u, hu', _⟩ := hrd.get (flatten_get hrows hrow (List.getElem?_eq_getElem (by omega : 0 < (xs[z]).length)))
    obtain ⟨g, off, hA, _⟩ := hcv _ _ hu'
    exact ⟨g, off, hA⟩
  have run : ∀ {z k : _} {g off len cc : Nat}, ρ ix = .int k (z : Nat) → vs.getD n undef = .slice (some ⟨g, off, none⟩) len cc → z < len → (execOp ρ o).run P w = .ok (.value (.pointer (some ⟨g, off + z * sz, none⟩))) w := by
    intro z k g off len cc e1 e2 e3
    rw [e2] at hρx
    simp [execOp, ho, hρx, e1, r_index hu hi e3, hsz]
  simp only [step] at h
  split at h
  · -- a view
    rename_i r c path z hS hz
    rw [hS] at h1 h2
    obtain ⟨k, hix⟩ := natOf_sound hs (hρ _ _ hci) hz
    split at h
    · rename_i l sz' xs hb
      split at h
      · rename_i hcond
        obtain ⟨rfl, hlt⟩ := hcond
        have hread := bCell_sound (c := .view r c path) hs h1 h2 hb
        obtain ⟨A, cc, hval, hle⟩ := CellR.slice_ hs hread
        obtain ⟨g, off, rfl⟩ := addr (CellR.reads hs.hO hread) hlt hval
        refine goal_val (φ := φ) (run hix hval hlt) ?_
        refine done_put (bt := []) (tv := .place r c (path ++ [(sz', z, 0)])) hs rfl (.inr ⟨path, sz', z, 0, rfl, h2.1, fun l' p' hr' => ?_⟩) h
        obtain ⟨a1, a2, ⟨q, a3⟩, v0, a4, a5⟩ := h2.2 l' p' hr'
        simp only [bCell] at hb
        split at hb
        · rw [hr'] at hb
          simp only [a3, Option.map_some, Option.some.injEq, Prod.mk.injEq] at hb
          obtain ⟨_, rfl⟩ := hb
          exact ⟨a1, a2, ⟨xs, xs[z], a3, List.getElem?_eq_getElem hlt⟩, v0, g, off, _, _, a4, by rw [a5, hval], by simp⟩
        · cases hb
      · cases h
    · cases h
  · -- a slice itself
    rename_i l sz' xs z hS hz
    rw [hS] at h1 h2
    obtain ⟨k, hix⟩ := natOf_sound hs (hρ _ _ hci) hz
    split at h
    · rename_i hsz'
      subst hsz'
      obtain ⟨A, cc, hval, hle⟩ := CellR.slice_ hs h1
      split at h
      · rename_i hown
        split at h
        · rename_i hlt
          obtain ⟨g, off, rfl⟩ := addr (CellR.reads hs.hO h1) hlt hval
          refine goal_val (φ := φ) (run hix hval hlt) ?_
          refine done_put (bt := []) (tv := .place n 0 [(sz', z, 0)]) hs rfl (.inr ⟨[], sz', z, 0, rfl, by rw [hS]; rfl, fun l' p' hr' => ?_⟩) h
          simp only [rootCell, hS, if_true, Cell.val.injEq] at hr'
          obtain ⟨rfl, rfl⟩ := hr'
          refine ⟨rfl, fun h => absurd rfl h, ⟨xs, xs[z], rfl, List.getElem?_eq_getElem hlt⟩, vs.getD n undef, g, off, _, _, ?_, by rw [rvPath, hval], by simp⟩
          unfold rootV; rw [hS, hv]; rfl
        · cases h
      · rename_i hown
        split at h
        · rename_i row hrow
          have hlt := (List.getElem?_eq_some_iff.1 hrow).1
          obtain ⟨g, off, rfl⟩ := addr (CellR.reads hs.hO h1) hlt hval
          refine goal_val (φ := φ) (run hix hval hlt) ?_
          have fin : ∀ l', RdL w (okOf E φ l') [.sl sz' xs] [vs.getD n undef] → TVR E w φ (.ep l' row 0) (.pointer (some ⟨g, off + z * sz', none⟩)) [] := by
            intro l' hrd
            obtain ⟨us, m1, m2, m3⟩ := hrd.row hval hrow
            exact ⟨rfl, g, off + z * sz', us, by simp, fun k u hk => by have := m3 k u hk; rw [Nat.add_assoc]; exact this, m2⟩
          by_cases hl : l = .old
          · subst hl
            rw [if_pos rfl] at h
            exact done_put (bt := []) (tv := .ep .old row 0) hs (fin .old h1.1) trivial h
          · rw [if_neg hl] at h
            exact done_put (bt := []) (tv := .ep .bor row 0) hs (fin .bor (CellR.reads hs.hO h1)) trivial h
        · cases h
    · cases h
  · cases h

theorem index_goal {i t x ix s} (hs : SR E S vs w φ bs []) (hρ : RhoR ρ vs) (ho : o.op = .index t x ix) (hc : chkO x s = true) (hci : chkO ix i = true) (hu : P.underlying t = some .string)
    (h : step S d (.index s i) = some S') : Goal P ρ o E S' vs d w := by
  simp only [step] at h
  split at h
  · rename_i l b z hb hz
    obtain ⟨k, hix⟩ := natOf_sound hs (hρ _ _ hci) hz
    have hx := (bOne_sound hs (hρ _ _ hc) hb).flat rfl
    simp only [PV.toV] at hx
    split at h
    · rename_i c hget
      refine scalar_goal hs rfl ?_ h
      simp [execOp, ho, hx, hix, Instr.index, asIntOf, run_underlying hu, hget, PV.toV]
    · cases h
  · cases h

theorem len_goal {t x y e} {c : Call} (hs : SR E S vs w φ bs []) (hρ : RhoR ρ vs) (ho : o.op = .call c) (hcal : c.callee = .builtin .len) (ha : c.args = #[x]) (ht : c.argTypes = #[t]) (hc : chkO x y = true)
    (hu : P.underlying t = some (.slice e)) (h : step S d (.len y) = some S') : Goal P ρ o E S' vs d w := by
  obtain ⟨cal, args, tys⟩ := c
  simp only at hcal ha ht
  subst hcal; subst ha; subst ht
  simp only [step] at h
  split at h
  · rename_i l sz xs hb
    obtain ⟨A, cc, hval, _⟩ := CellR.slice_ hs (bOne_sound hs (hρ _ _ hc) hb)
    refine scalar_goal hs rfl ?_ h
    simp [execOp, ho, resolve, invoke, builtin, Builtin.len_, run_underlying hu, hval, PV.toV, goInt]
  · cases h
theorem lenS_goal {t x y} {c : Call} (hs : SR E S vs w φ bs []) (hρ : RhoR ρ vs) (ho : o.op = .call c) (hcal : c.callee = .builtin .len) (ha : c.args = #[x]) (ht : c.argTypes = #[t]) (hc : chkO x y = true)
    (hu : P.underlying t = some .string) (h : step S d (.lenS y) = some S') : Goal P ρ o E S' vs d w := by
  obtain ⟨cal, args, tys⟩ := c
  simp only at hcal ha ht
  subst hcal; subst ha; subst ht
  simp only [step] at h
  split at h
  · rename_i l s hb
    have hx := (bOne_sound hs (hρ _ _ hc) hb).flat rfl
    simp only [PV.toV] at hx
    refine scalar_goal hs rfl ?_ h
    simp [execOp, ho, resolve, invoke, builtin, Builtin.len_, run_underlying hu, hx, PV.toV, goInt]
  · cases h
theorem max_goal {t x x' y y'} {c : Call} (hs : SR E S vs w φ bs []) (hρ : RhoR ρ vs) (ho : o.op = .call c) (hcal : c.callee = .builtin .max) (ha : c.args = #[x, y]) (ht : c.argTypes = t) (hc : chkO x x' = true) (hc' : chkO y y' = true)
    (h : step S d (.max x' y') = some S') : Goal P ρ o E S' vs d w := by
  obtain ⟨cal, args, tys⟩ := c
  simp only at hcal ha ht
  subst hcal; subst ha; subst ht
  simp only [step] at h
  split at h
  · rename_i l k a l' k' b hb hb'
    split at h
    · rename_i hk
      subst hk
      have h1 := (bOne_sound hs (hρ _ _ hc) hb).flat rfl
      have h2 := (bOne_sound hs (hρ _ _ hc') hb').flat rfl
      simp only [PV.toV] at h1 h2
      refine scalar_goal hs rfl ?_ h
      simp [execOp, ho, resolve, invoke, builtin, Builtin.max_, Builtin.max2, h1, h2, PV.toV, List.foldlM]
    · cases h
  · cases h
theorem min_goal {t x x' y y'} {c : Call} (hs : SR E S vs w φ bs []) (hρ : RhoR ρ vs) (ho : o.op = .call c) (hcal : c.callee = .builtin .min) (ha : c.args = #[x, y]) (ht : c.argTypes = t) (hc : chkO x x' = true) (hc' : chkO y y' = true)
    (h : step S d (.min x' y') = some S') : Goal P ρ o E S' vs d w := by
  obtain ⟨cal, args, tys⟩ := c
  simp only at hcal ha ht
  subst hcal; subst ha; subst ht
  simp only [step] at h
  split at h
  · rename_i l k a l' k' b hb hb'
    split at h
    · rename_i hk
      subst hk
      have h1 := (bOne_sound hs (hρ _ _ hc) hb).flat rfl
      have h2 := (bOne_sound hs (hρ _ _ hc') hb').flat rfl
      simp only [PV.toV] at h1 h2
      refine scalar_goal hs rfl ?_ h
      simp [execOp, ho, resolve, invoke, builtin, Builtin.min_, Builtin.min2, h1, h2, PV.toV, List.foldlM]
    · cases h
  · cases h

/-! ### arithmetic, comparisons -/
theorem eqGuard_scalar {op : BinOp} {t : TypeId} {x y : Operand} {p q : PV} (hp : p.flat = true) : (eqGuard op t x y p.toV q.toV).run P w = .ok () w := by
  unfold eqGuard
  cases p <;> cases q <;> cases op <;> first | rfl | simp [PV.flat] at hp

theorem binOp_any {op : BinOp} {t : TypeId} {p q : PV} {r : PV} (h : binS op p q = some r) : Go.binOp op t p.toV q.toV = .pure r.toV ∧ r.flat = true ∧ p.flat = true ∧ q.flat = true := by
  unfold binS at h
  split at h
  · obtain ⟨h1, h2⟩ := ofSem_eq h
    refine ⟨?_, h2, rfl, rfl⟩
    rw [← h1]
    cases op <;> rfl
  · obtain ⟨h1, h2⟩ := ofSem_eq h
    refine ⟨?_, h2, rfl, rfl⟩
    rw [← h1]
    cases op <;> rfl
  · cases h

theorem bin_goal {op t ty x x' y y'} (hs : SR E S vs w φ bs []) (hρ : RhoR ρ vs) (ho : o.op = .binOp op t x y ty) (hc : chkO x x' = true) (hc' : chkO y y' = true)
    (h : step S d (.bin op x' y') = some S') : Goal P ρ o E S' vs d w := by
  simp only [step] at h
  split at h
  · rename_i l p l' q hb hb'
    cases hr : binS op p q with
    | none => rw [hr] at h; cases h
    | some r =>
      rw [hr] at h
      simp only [Option.bind_some] at h
      obtain ⟨h1, h2, h3, h4⟩ := binOp_any (t := t) hr
      have e1 := (bOne_sound hs (hρ _ _ hc) hb).flat h3
      have e2 := (bOne_sound hs (hρ _ _ hc') hb').flat h4
      refine scalar_goal hs h2 ?_ h
      simp [execOp, ho, e1, e2, eqGuard_scalar h3, h1]
  · cases h

theorem eqB_goal {neg t ty x x' y y'} (hs : SR E S vs w φ bs []) (hρ : RhoR ρ vs) (ho : o.op = .binOp (if neg then .neq else .eql) t x y ty) (hc : chkO x x' = true) (hc' : chkO y y' = true) (hu : P.underlying t = some .bool)
    (h : step S d (.eqB neg x' y') = some S') : Goal P ρ o E S' vs d w := by
  simp only [step] at h
  split at h
  · rename_i l a l' b hb hb'
    have e1 := (bOne_sound hs (hρ _ _ hc) hb).flat rfl
    have e2 := (bOne_sound hs (hρ _ _ hc') hb').flat rfl
    refine scalar_goal hs rfl ?_ h
    have hg := @eqGuard_scalar P w (if neg then .neq else .eql) t x y (.bool a) (.bool b) rfl
    simp only [PV.toV] at e1 e2 hg
    have hq : (Op.equalIn 10000 t (.bool a) (.bool b)).run P w = .ok (a == b) w := run_equalIn_bool w 9999 t a b hu
    cases neg
    · simp only [Bool.false_eq_true, if_false] at ho hg ⊢
      simp [execOp, ho, e1, e2, hg, binOp, Op.equal, Op.maxDepth, hq, PV.toV]
    · simp only [if_true] at ho hg ⊢
      simp [execOp, ho, e1, e2, hg, binOp, Op.equal, Op.maxDepth, hq, PV.toV]
  · cases h

theorem un_goal {op t x x'} (hs : SR E S vs w φ bs []) (hρ : RhoR ρ vs) (ho : o.op = .unOp op t x) (hc : chkO x x' = true)
    (h : step S d (.un op x') = some S') : Goal P ρ o E S' vs d w := by
  simp only [step] at h
  split at h
  · rename_i l p hb
    cases hr : unS op p with
    | none => rw [hr] at h; cases h
    | some r =>
      rw [hr] at h
      simp only [Option.bind_some] at h
      unfold unS at hr
      split at hr
      · obtain ⟨h1, h2⟩ := ofSem_eq hr
        have e1 := (bOne_sound hs (hρ _ _ hc) hb).flat rfl
        refine scalar_goal hs h2 ?_ h
        simp [execOp, ho, e1, h1]
      · obtain ⟨h1, h2⟩ := ofSem_eq hr
        have e1 := (bOne_sound hs (hρ _ _ hc) hb).flat rfl
        refine scalar_goal hs h2 ?_ h
        simp [execOp, ho, e1, h1]
      · cases hr
  · cases h

theorem convInt_goal {k src dst x x' ds} (hs : SR E S vs w φ bs []) (hρ : RhoR ρ vs) (ho : o.op = .convert src dst x) (hc : chkO x x' = true) (hsrc : P.underlying src = some ds) (hdst : P.underlying dst = some (.int k))
    (h : step S d (.convInt k x') = some S') : Goal P ρ o E S' vs d w := by
  simp only [step] at h
  split at h
  · rename_i l k' n hb
    have e1 := (bOne_sound hs (hρ _ _ hc) hb).flat rfl
    simp only [PV.toV] at e1
    refine scalar_goal hs rfl ?_ h
    simp [execOp, ho, e1, convert, run_underlying hsrc, run_underlying hdst, Conv.intToInt, PV.toV]
  · cases h

def chkOO (x : Option Operand) (y : Option AOpnd) : Bool :=
  match x, y with
  | none, none => true
  | some x, some y => chkO x y
  | _, _ => false
theorem optNat_sound {oo : Option AOpnd} {xo : Option Operand} {dflt n} (hs : SR E S vs w φ bs []) (hρ : RhoR ρ vs) (hc : chkOO xo oo = true)
    (h : optNat S oo dflt = some n) : match xo with | none => n = dflt | some x => ∃ k, ρ x = .int k n := by
  cases xo <;> cases oo <;> simp only [chkOO] at hc ⊢
  · simp only [optNat, Option.some.injEq] at h; exact h.symm
  · cases hc
  · cases hc
  · exact natOf_sound hs (hρ _ _ hc) h

theorem sliceS_goal {t x y lo hi lo' hi'} (hs : SR E S vs w φ bs []) (hρ : RhoR ρ vs) (ho : o.op = .slice t x lo hi none) (hc : chkO x y = true) (hlo : chkOO lo lo' = true) (hhi : chkOO hi hi' = true) (hu : P.underlying t = some .string)
    (h : step S d (.sliceS y lo' hi') = some S') : Goal P ρ o E S' vs d w := by
  simp only [step] at h
  split at h
  · rename_i l s hb
    have hx := (bOne_sound hs (hρ _ _ hc) hb).flat rfl
    simp only [PV.toV] at hx
    split at h
    · rename_i a b ha hb'
      split at h
      · rename_i hab
        have ka := optNat_sound hs hρ hlo ha
        have kb := optNat_sound hs hρ hhi hb'
        refine scalar_goal hs rfl ?_ h
        cases lo <;> cases hi <;> dsimp only at ka kb
        · subst ka; subst kb
          simp [execOp, ho, hx, Instr.sliceAt, Instr.slice, run_underlying hu, Instr.sliceBounds, PV.toV]
        · subst ka; obtain ⟨k, kb⟩ := kb
          simp [execOp, ho, hx, kb, Instr.sliceAt, Instr.slice, run_underlying hu, Instr.sliceBounds, Instr.sliceBound, asIntOf, PV.toV, hab]
        · obtain ⟨k, ka⟩ := ka; subst kb
          simp [execOp, ho, hx, ka, Instr.sliceAt, Instr.slice, run_underlying hu, Instr.sliceBounds, Instr.sliceBound, asIntOf, PV.toV, hab]
        · obtain ⟨k, ka⟩ := ka; obtain ⟨k', kb⟩ := kb
          simp [execOp, ho, hx, ka, kb, Instr.sliceAt, Instr.slice, run_underlying hu, Instr.sliceBounds, Instr.sliceBound, asIntOf, PV.toV, hab]
      · cases h
    · cases h
  · cases h

/-- A part of a slice that is read. -/
theorem RdL.part {ok : Nat → Nat → Prop} {sz xs v A c a b m : _} (h : RdL w ok [.sl sz xs] [v]) (hv : v = .slice A xs.length c) (hab : a ≤ b) (hb : b ≤ xs.length) (hbm : b ≤ m) (hm : m ≤ c) :
    RdL w ok [.sl sz ((xs.drop a).take (b - a))] [.slice (if m = a then A else A.map (·.add (a * sz))) (b - a) (m - a)] := by
  obtain ⟨A', c', cvs, e, hle, hr, hcv, hrd⟩ := h.slice_
  rw [hv] at e
  injection e with e1 e2 e3
  subst e1; subst e3
  have hlen := rows_length hr
  have hrows' : ∀ r ∈ (xs.drop a).take (b - a), r.length = sz := fun r hr' => hr r (List.mem_of_mem_drop (List.mem_of_mem_take hr'))
  have hfl : ((xs.drop a).take (b - a)).flatten = (xs.flatten.drop (a * sz)).take ((b - a) * sz) := by
    have e1 : xs.flatten = (xs.take a).flatten ++ ((xs.drop a).take (b - a)).flatten ++ (xs.drop b).flatten := by
      conv => lhs; rw [← List.take_append_drop a xs, List.flatten_append, ← List.take_append_drop (b - a) (xs.drop a), List.flatten_append, List.drop_drop, show a + (b - a) = b from by omega]
      rw [List.append_assoc]
    have l1 : (xs.take a).flatten.length = a * sz := by
      rw [rows_length (fun r h => hr r (List.mem_of_mem_take h)), List.length_take, Nat.min_eq_left (by omega)]
    have l2 : ((xs.drop a).take (b - a)).flatten.length = (b - a) * sz := by
      rw [rows_length hrows', List.length_take, List.length_drop, Nat.min_eq_left (by omega)]
    rw [e1]
    generalize (xs.take a).flatten = x1 at *
    generalize ((xs.drop a).take (b - a)).flatten = x2 at *
    generalize (xs.drop b).flatten = x3 at *
    rw [← l1, ← l2, List.append_assoc, List.drop_left, List.take_left]
  refine .sl (cvs := (cvs.drop (a * sz)).take ((b - a) * sz)) (by simp; omega) (by omega) hrows' (fun k u hk => ?_) (by rw [hfl]; exact (hrd.drop_ _).take_ _) .nil
  rw [drop_take_get] at hk
  split at hk
  · rename_i hlt
    obtain ⟨g, o, hA, h1, h2⟩ := hcv _ _ hk
    subst hA
    have hne : ¬ m = a := by
      intro e
      have : b - a = 0 := by omega
      rw [this] at hlt
      simp at hlt
    rw [if_neg hne]
    refine ⟨g, o + a * sz, by simp [addr_add], ?_, ?_⟩
    · rw [Nat.add_assoc]; exact h1
    · rw [Nat.add_assoc]; exact h2
  · cases hk

theorem slice_goal {sz0 : Nat} {t x y lo hi mx lo' hi' mx' e} {ti : TypeInfo} (hs : SR E S vs w φ bs []) (hρ : RhoR ρ vs) (ho : o.op = .slice t x lo hi mx) (hc : chkO x y = true) (hlo : chkOO lo lo' = true) (hhi : chkOO hi hi' = true) (hmx : chkOO mx mx' = true)
    (hu : P.underlying t = some (.slice e)) (hi2 : P.info? e = some ti) (hsz0 : ti.size = sz0)
    (h : step S d (.slice sz0 y lo' hi' mx') = some S') : Goal P ρ o E S' vs d w := by
  simp only [step] at h
  split at h
  · rename_i l sz xs hb
    have hr0 := bOne_sound hs (hρ _ _ hc) hb
    obtain ⟨A, c, hval, hle⟩ := CellR.slice_ hs hr0
    split at h
    case isFalse => cases h
    rename_i hsz'
    subst hsz0
    subst hsz'
    split at h
    · rename_i a b m ha hb' hm
      split at h
      · rename_i hab
        obtain ⟨h1, h2, h3, h4⟩ := hab
        have ka := optNat_sound hs hρ hlo ha
        have kb := optNat_sound hs hρ hhi hb'
        have km := optNat_sound hs hρ hmx hm
        -- the capacity's end
        have hrun : ∃ m', m' ≤ c ∧ b ≤ m' ∧ (execOp ρ o).run P w = .ok (.value (.slice (if m' = a then A else A.map (·.add (a * ti.size))) (b - a) (m' - a))) w := by
          have hi2' := r_size (w := w) hi2
          cases mx with
          | none =>
            refine ⟨c, Nat.le_refl _, by omega, ?_⟩
            cases lo <;> cases hi <;> dsimp only at ka kb
            · subst ka; subst kb
              simp [execOp, ho, hval, Instr.sliceAt, Instr.slice, run_underlying hu, Instr.sliceBounds, hi2']
            · subst ka; obtain ⟨k, kb⟩ := kb
              simp [execOp, ho, hval, kb, Instr.sliceAt, Instr.slice, run_underlying hu, Instr.sliceBounds, Instr.sliceBound, asIntOf, hi2', show b ≤ c from by omega]
            · obtain ⟨k, ka⟩ := ka; subst kb
              simp [execOp, ho, hval, ka, Instr.sliceAt, Instr.slice, run_underlying hu, Instr.sliceBounds, Instr.sliceBound, asIntOf, hi2', h1]
            · obtain ⟨k, ka⟩ := ka; obtain ⟨k', kb⟩ := kb
              simp [execOp, ho, hval, ka, kb, Instr.sliceAt, Instr.slice, run_underlying hu, Instr.sliceBounds, Instr.sliceBound, asIntOf, hi2', h1, show b ≤ c from by omega]
          | some xm =>
            obtain ⟨km', km⟩ := km
            refine ⟨m, by omega, h2, ?_⟩
            have hih : hi.isSome := by
              have e1 : mx'.isSome = true := by cases mx' <;> simp [chkOO] at hmx ⊢
              have e2 := h4 e1
              cases hi <;> cases hi' <;> simp [chkOO] at hhi e2 ⊢
            cases hi with
            | none => cases hih
            | some xh =>
              obtain ⟨kh, kb⟩ := kb
              cases lo <;> dsimp only at ka
              · subst ka
                simp [execOp, ho, hval, kb, km, Instr.sliceAt, Instr.slice, run_underlying hu, Instr.sliceBounds, Instr.sliceBound, asIntOf, hi2', h2, show m ≤ c from by omega]
              · obtain ⟨k, ka⟩ := ka
                simp [execOp, ho, hval, ka, kb, km, Instr.sliceAt, Instr.slice, run_underlying hu, Instr.sliceBounds, Instr.sliceBound, asIntOf, hi2', h1, h2, show m ≤ c from by omega]
        obtain ⟨m', q1, q2, hrun⟩ := hrun
        refine goal_val (φ := φ) hrun ?_
        by_cases hl : l = .old
        · subst hl
          rw [if_pos rfl] at h
          exact done_put (bt := []) (tv := .one (.val .old _)) hs ⟨RdL.part hr0.1 hval h1 (by omega) q2 q1, rfl⟩ trivial h
        · rw [if_neg hl] at h
          exact done_put (bt := []) (tv := .one (.val .bor _)) hs ⟨RdL.part (CellR.reads hs.hO hr0) hval h1 (by omega) q2 q1, rfl⟩ trivial h
      · cases h
    · cases h
  · cases h

theorem nilchk_goal {n rs x} (hs : SR E S vs w φ bs []) (hρ : RhoR ρ vs) (ho : o.op = .nilCheck x) (hc : chkO x (.t n rs) = true) (h : step S d (.nilchk (.t n rs)) = some S') : Goal P ρ o E S' vs d w := by
  have hρx := slotρ hρ hc
  simp only [step] at h
  split at h
  · rename_i cs hS
    have hv := slotv hs (n := n) (by rw [hS]; simp)
    obtain ⟨bt, h1, h2⟩ := hs.slot hv
    rw [hS] at h1
    obtain ⟨g, arr, e, b1, ev, _⟩ := h1
    rw [ev] at hρx
    exact goal_val (φ := φ) (v := .pointer (some ⟨g, 0, none⟩)) (by simp [execOp, ho, hρx]) (done_put (bt := []) (tv := .place n 0 []) hs rfl (.inl ⟨rfl, cs, g, hS, by rw [hv, ev], rfl⟩) h)
  · rename_i r c hS
    have hv := slotv hs (n := n) (by rw [hS]; simp)
    obtain ⟨bt, h1, h2⟩ := hs.slot hv
    rw [hS] at h2
    rcases h2 with ⟨_, cs, g, e1, e2, e3⟩ | ⟨pre, s', i', j, e, _⟩
    · rw [e3] at hρx
      exact goal_val (φ := φ) (v := .pointer (some ⟨g, c, none⟩)) (by simp [execOp, ho, hρx]) (done_put (bt := []) (tv := .place r c []) hs rfl (.inl ⟨rfl, cs, g, e1, e2, rfl⟩) h)
    · simp at e
  · rename_i l row off hS
    have hv := slotv hs (n := n) (by rw [hS]; simp)
    obtain ⟨bt, h1, h2⟩ := hs.slot hv
    rw [hS] at h1
    obtain ⟨_, g, o', cvs, ev, k1, k2⟩ := h1
    rw [ev] at hρx
    exact goal_val (φ := φ) (by simp [execOp, ho, hρx]) (done_put (bt := []) (tv := .ep l row off) hs ⟨rfl, g, o', cvs, rfl, k1, k2⟩ trivial h)
  · cases h

end
end Go.Proofs.Ytkiliooegoldoaa

/- Operations that make memory. -/
set_option linter.unusedVariables false
set_option linter.unusedSimpArgs false
namespace Go.Proofs.Ytkiliooegoldoaa
open Go

/-! ### A world that has only grown -/
structure Gr (w w' : World) (φ φ' : Nat → Nat) : Prop where
  heap : ∀ g, g < w.heap.size → w'.heap[g]? = w.heap[g]? ∧ φ' g = φ g
  size : w.heap.size ≤ w'.heap.size
  os : w'.os = w.os ∧ w'.tape = w.tape ∧ outw w' = outw w

theorem Gr.cell {w w' φ φ'} (h : Gr w w' φ φ') : ∀ g k x, k < φ g → w.cell? ⟨g, k, none⟩ = some x → k < φ' g ∧ w'.cell? ⟨g, k, none⟩ = some x := by
  intro g k x h1 h2
  obtain ⟨e1, e2⟩ := h.heap g (World.block_lt_of_cell? w ⟨g, k, none⟩ h2)
  exact ⟨by omega, (World.cell?_of_block (w := w) (a := ⟨g, k, none⟩) e1).trans h2⟩
theorem Gr.cell' {w w' φ φ'} (h : Gr w w' φ φ') : ∀ g k x, w.cell? ⟨g, k, none⟩ = some x → w'.cell? ⟨g, k, none⟩ = some x := by
  intro g k x h2
  obtain ⟨e1, e2⟩ := h.heap g (World.block_lt_of_cell? w ⟨g, k, none⟩ h2)
  exact (World.cell?_of_block (w := w) (a := ⟨g, k, none⟩) e1).trans h2
theorem Gr.cells {E w w' φ φ' cs us b} (h : Gr w w' φ φ') (hb : ∀ g ∈ b, g < w.heap.size) (k : CellsR E w φ cs us b) : CellsR E w' φ' cs us b :=
  k.mono (fun g k u _ h2 => h.cell' g k u h2) (fun g k u h1 h2 => h.cell g k u h1 h2) (fun g hg => h.heap g (hb g hg))
theorem Gr.tv {E w w' φ φ' tv v b} (h : Gr w w' φ φ') (hb : ∀ g ∈ b, g < w.heap.size) (k : TVR E w φ tv v b) : TVR E w' φ' tv v b :=
  k.mono (fun g k u _ h2 => h.cell' g k u h2) (fun g k u h1 h2 => h.cell g k u h1 h2) (fun g hg => h.heap g (hb g hg))
theorem Gr.sr {E S vs w w' φ φ' bs hand hand'} (h : Gr w w' φ φ') (hs : SR E S vs w φ bs hand)
    (hcnt : ∀ g, bs.count g + hand'.count g ≤ 1) (hh : ∀ g ∈ hand', g < w'.heap.size ∧ (E.w0.heap.size ≤ g ∨ g ∈ E.lin)) : SR E S vs w' φ' bs hand' :=
  hs.grow h.heap h.size hcnt hh h.os
theorem Gr.view {E S vs w w' φ φ' bs hand c v} (h : Gr w w' φ φ') (hs : SR E S vs w φ bs hand) (k : ViewC S vs w φ c v) : ViewC S vs w' φ' c v :=
  ViewC.world h.cell (fun t cs a h1 h2 => (h.heap _ (hs.own _ (.inl (hs.boxOwn t cs a h1 h2))).1).1) k
theorem Gr.refl (w : World) (φ : Nat → Nat) : Gr w w φ φ := ⟨fun _ _ => ⟨rfl, rfl⟩, Nat.le_refl _, rfl, rfl, rfl⟩
theorem Gr.trans {a b c : World} {φ φ' φ''} (h : Gr a b φ φ') (k : Gr b c φ' φ'') : Gr a c φ φ'' :=
  ⟨fun g hg => by
    have h1 := h.heap g hg
    have h2 := k.heap g (Nat.lt_of_lt_of_le hg h.size)
    exact ⟨h2.1.trans h1.1, h2.2.trans h1.2⟩, Nat.le_trans h.size k.size, k.os.1.trans h.os.1, k.os.2.1.trans h.os.2.1, k.os.2.2.trans h.os.2.2⟩

/-- One new block, so much of it protected. -/
def setφ (φ : Nat → Nat) (g n : Nat) : Nat → Nat := fun b => if b = g then n else φ b
theorem setφ_same (φ : Nat → Nat) (g n : Nat) : setφ φ g n g = n := by simp [setφ]
theorem setφ_ne (φ : Nat → Nat) {g b : Nat} (n : Nat) (h : b ≠ g) : setφ φ g n b = φ b := by simp [setφ, h]
theorem Gr.alloc (w : World) (φ : Nat → Nat) (o : Obj) (n : Nat) (ho : outw (w.alloc o) = outw w := by exact outw_alloc _ _ _) : Gr w (w.alloc o) φ (setφ φ w.heap.size n) :=
  ⟨fun g hg => ⟨heap_alloc_old w o hg, setφ_ne φ n (by omega)⟩, by simp, rfl, rfl, ho⟩
theorem Gr.drew (w : World) (φ : Nat → Nat) : Gr w w.drew φ φ := ⟨fun g hg => ⟨rfl, rfl⟩, Nat.le_refl _, rfl, rfl, rfl⟩

theorem SR.newHand {E S vs w φ bs hand} (hs : SR E S vs w φ bs hand) {w' : World} (hlt : w.heap.size < w'.heap.size) :
    (∀ g, bs.count g + (w.heap.size :: hand).count g ≤ 1) ∧ ∀ g ∈ w.heap.size :: hand, g < w'.heap.size ∧ (E.w0.heap.size ≤ g ∨ g ∈ E.lin) := by
  constructor
  · intro g
    rw [List.count_cons]
    have := hs.cnt g
    by_cases hg : w.heap.size = g
    · subst hg
      have h1 : w.heap.size ∉ bs := fun h => by have := (hs.own _ (.inl h)).1; omega
      have h2 : w.heap.size ∉ hand := fun h => by have := (hs.own _ (.inr h)).1; omega
      rw [count_zero_of h1, count_zero_of h2]
      simp
    · have : (w.heap.size == g) = false := by simp [hg]
      simp [this]
      omega
  · intro g hg
    rcases List.mem_cons.1 hg with rfl | hg
    · exact ⟨hlt, .inl hs.size⟩
    · have := hs.own g (.inr hg)
      exact ⟨by omega, this.2⟩

theorem SR.handLe {E S vs w φ bs hand hand'} (hs : SR E S vs w φ bs hand) (h : ∀ g, hand'.count g ≤ hand.count g) : SR E S vs w φ bs hand' :=
  ⟨hs.tvs, fun g => by have := hs.cnt g; have := h g; omega, fun g hg => hs.own g (hg.imp id fun k => mem_of_count (by have := h g; have := List.count_pos_iff.2 k; omega)), hs.views, hs.size, hs.same, hs.os⟩

section
variable {P : Program} {ρ : Operand → Value} {o : Oper} {E : Env} {S S' : St} {vs : List Value} {w : World} {φ : Nat → Nat} {bs : List Nat} {d : Option Nat}

theorem goal_new {v w' φ'} (hr : (execOp ρ o).run P w = .ok (.value v) w') (h : Done E S' (upd vs d v) w' φ') : Goal P ρ o E S' vs d w := ⟨v, w', .inl hr, φ', h⟩

/-! ### alloc, box -/
def chkCells : List Value → List PV → Bool
  | [], [] => true
  | v :: vs, p :: ps => chkConst v p && chkCells vs ps
  | _, _ => false
theorem chkCells_len : ∀ {us : List Value} {ps}, chkCells us ps = true → us.length = ps.length := by
  intro us
  induction us with
  | nil => intro ps h; cases ps <;> simp [chkCells] at h ⊢
  | cons u us ih => intro ps h; cases ps <;> simp [chkCells] at h ⊢; exact ih h.2
theorem chkCells_get : ∀ {us : List Value} {ps}, chkCells us ps = true → ∀ {i : Nat} {u p}, us[i]? = some u → ps[i]? = some p → ConstR p u := by
  intro us
  induction us with
  | nil => intro ps h i u p a; simp at a
  | cons u us ih =>
    intro ps h i u' p a b
    cases ps with
    | nil => simp at b
    | cons q ps =>
      simp [chkCells] at h
      cases i with
      | zero => simp at a b; subst a; subst b; exact chkConst_sound h.1
      | succ i => exact ih h.2 (by simpa using a) (by simpa using b)
theorem zeroCells_R {us : List Value} {zs : List PV} (h : chkCells us zs = true) (w : World) (φ : Nat → Nat) : CellsR E w φ (zeroCells zs) us [] := by
  refine CellsR.ofGet (by simp [zeroCells, chkCells_len h]) fun i c u a b => ?_
  simp only [zeroCells, List.getElem?_map] at a
  cases hz : zs[i]? with
  | none => rw [hz] at a; cases a
  | some p => rw [hz] at a; injection a with a; subst a; exact (chkCells_get h b hz).own w φ

theorem alloc_goal {g cs ls t z} {i : TypeInfo} (hs : SR E S vs w φ bs []) (ho : o.op = .alloc t) (hi : P.info? t = some i) (hz : i.zero = some z) (hc : chkCells z.cells.toList cs = true)
    (h : step S d (.alloc g cs ls) = some S') : Goal P ρ o E S' vs d w := by
  simp only [step] at h
  split at h
  · rename_i hcond
    obtain ⟨hl, hall⟩ := hcond
    refine goal_new (v := .pointer (some ⟨w.heap.size, 0, none⟩)) (w' := w.alloc (.cells z.cells t)) (φ' := setφ φ w.heap.size 0) (by simp [execOp, ho, r_alloc hi hz]) ?_
    obtain ⟨n1, n2⟩ := hs.newHand (w' := w.alloc (.cells z.cells t)) (by simp)
    have hs' := (Gr.alloc w φ (.cells z.cells t) 0).sr hs n1 n2
    have hcells : CellsR E (w.alloc (.cells z.cells t)) (setφ φ w.heap.size 0) ((cs.zip ls).map fun x => Cell.val (if x.1.flat then .deep else x.2) x.1) z.cells.toList [] := by
      have hlen := chkCells_len hc
      refine CellsR.ofGet (by simp at hlen ⊢; omega) fun k c u a b => ?_
      rw [List.getElem?_map] at a
      cases hx : (cs.zip ls)[k]? with
      | none => rw [hx] at a; cases a
      | some x =>
        rw [hx] at a
        injection a with a
        subst a
        have hx1 : cs[k]? = some x.1 := (List.getElem?_zip_eq_some.1 hx).1
        have hk := chkCells_get hc b hx1
        have hall' := List.all_eq_true.1 hall x (List.mem_of_getElem? hx)
        cases hf : x.1.flat
        case true => simp only [hf, if_true]; exact hk.own _ _
        case false =>
          simp only [hf, Bool.false_or, Bool.and_eq_true, Bool.false_eq_true, if_false] at hall' ⊢
          obtain ⟨k1, k2⟩ := hall'
          rcases hk with ⟨hk, _⟩ | ⟨sz, e, hv⟩
          · rw [hf] at hk; cases hk
          · rw [e, hv]
            cases hl : x.2 <;> rw [hl] at k1 <;> first | cases k1 | skip
            · exact .snil .nil
            · exact ⟨sz, [], rfl, .inl ⟨rfl, rfl, rfl⟩⟩
            · exact ⟨sz, [], rfl, .inl ⟨rfl, rfl, rfl⟩⟩
    refine done_put (bt := [w.heap.size]) (tv := .box _) hs' ⟨w.heap.size, z.cells, t, [], rfl, heap_alloc_new w _, setφ_same _ _ _, hcells, rfl⟩ ?_ h
    intro a arr e fr _ _ k c u hk _
    rw [List.getElem?_map] at hk
    cases hx : (cs.zip ls)[k]? <;> rw [hx] at hk
    · cases hk
    · injection hk with hk; subst hk; trivial
  · cases h

theorem tCells_nd {S : St} {rs} : ∀ {cs cs' : List Cell} {S S' : St}, tCells S rs cs = some (cs', S') → ∀ c ∈ cs', c ≠ .dead := by
  intro cs
  induction cs with
  | nil => intro cs' S S' h; simp only [tCells, Option.some.injEq, Prod.mk.injEq] at h; obtain ⟨rfl, _⟩ := h; simp
  | cons c cs ih =>
    intro cs' S S' h
    simp only [tCells] at h
    cases h1 : tCell S rs c with
    | none => rw [h1] at h; cases h
    | some x =>
      rw [h1] at h
      simp only [Option.bind_some] at h
      cases h2 : tCells x.2 rs cs with
      | none => rw [h2] at h; cases h
      | some y =>
        rw [h2] at h
        simp only [Option.map_some, Option.some.injEq, Prod.mk.injEq] at h
        obtain ⟨rfl, _⟩ := h
        intro c' hc'
        rcases List.mem_cons.1 hc' with rfl | hc'
        · cases c with
          | dead => simp [tCell] at h1
          | val l p => simp only [tCell, Option.some.injEq] at h1; rw [← h1]; simp
          | view r c path =>
            cases path with
            | cons _ _ => simp only [tCell, Option.some.injEq] at h1; rw [← h1]; simp
            | nil =>
              simp only [tCell] at h1
              split at h1
              · split at h1
                · simp only [Option.some.injEq] at h1; rw [← h1]; simp
                · cases h1
              · cases h1
        · exact ih h2 c' hc'
theorem tAny_nd {o agg cs} (h : tAny S o = some (agg, cs, S')) : ∀ c ∈ cs, c ≠ .dead := by
  cases o with
  | c p => simp only [tAny, Option.some.injEq, Prod.mk.injEq] at h; obtain ⟨_, rfl, _⟩ := h; simp
  | t n rs =>
    simp only [tAny] at h
    split at h
    · cases h
    · split at h
      · cases ht : tCells S rs [_] with
        | none => rw [ht] at h; cases h
        | some x =>
          rw [ht] at h
          simp only [Option.map_some, Option.some.injEq, Prod.mk.injEq] at h
          obtain ⟨_, rfl, _⟩ := h
          exact tCells_nd (S := S) (cs' := x.1) (S' := x.2) ht
      · cases ht : tCells S rs _ with
        | none => rw [ht] at h; cases h
        | some x =>
          rw [ht] at h
          simp only [Option.map_some, Option.some.injEq, Prod.mk.injEq] at h
          obtain ⟨_, rfl, _⟩ := h
          exact tCells_nd (S := S) (cs' := x.1) (S' := x.2) ht
      · cases h
theorem CellsR.ones {bs hand} (hs : SR E S vs w φ bs hand) : ∀ {cs us b}, CellsR E w φ cs us b → (∀ c ∈ cs, c ≠ .dead) → ∀ u ∈ us, u.oneCell' = true := by
  intro cs
  induction cs with
  | nil => intro us b h; obtain ⟨rfl, _⟩ := h; simp
  | cons c cs ih =>
    intro us b h hn u hu
    obtain ⟨v, us', b1, b2, rfl, rfl, hc, h⟩ := h
    rcases List.mem_cons.1 hu with rfl | hu
    · cases c with
      | val l p => exact CellR.oneC hs hc
      | view r c path => exact hc.2
      | dead => exact absurd rfl (hn _ (by simp))
    · exact ih h (fun c hc => hn c (by simp [hc])) u hu

theorem AggR.cells_ {agg cs v us b} (h : AggR E w φ agg cs v us b) (h1 : ∀ u ∈ us, u.oneCell' = true) : v.cells.toList = us := by
  obtain ⟨h, _⟩ := h
  split at h
  · subst h; simp [Value.cells]
  · subst h
    have := h1 v (by simp)
    cases v <;> first | rfl | simp [Value.oneCell'] at this

theorem box_goal {g t x y} (hs : SR E S vs w φ bs []) (hρ : RhoR ρ vs) (ho : o.op = .box t x) (hc : chkO x y = true) (h : step S d (.box g y) = some S') : Goal P ρ o E S' vs d w := by
  simp only [step] at h
  cases ht : tAny S y with
  | none => rw [ht] at h; cases h
  | some r =>
    obtain ⟨agg, cs, S1⟩ := r
    rw [ht] at h
    simp only [Option.bind_some] at h
    obtain ⟨bs1, bc, us, q1, q2, q3, q4⟩ := tAny_sound hs (hρ _ _ hc) ht
    have h1 := CellsR.ones q1 q3.2 (tAny_nd ht)
    have hcl := q3.cells_ h1
    refine goal_new (v := .pointer (some ⟨w.heap.size, 0, none⟩)) (w' := w.alloc (.cells (ρ x).cells t)) (φ' := setφ φ w.heap.size 0) (by simp [execOp, ho, r_box]) ?_
    obtain ⟨n1, n2⟩ := q1.newHand (w' := w.alloc (.cells (ρ x).cells t)) (by simp)
    have hG := Gr.alloc w φ (.cells (ρ x).cells t) 0
    have hs' := hG.sr q1 n1 n2
    have hcells := hG.cells (fun g hg => (q1.own g (.inr (by simp [hg]))).1) q3.2
    refine done_put (bt := w.heap.size :: bc) (tv := .box cs) hs' ⟨w.heap.size, (ρ x).cells, t, bc, rfl, heap_alloc_new w _, setφ_same _ _ _, by rw [hcl]; exact hcells, rfl⟩ ?_ h
    intro a arr e fr ha harr k c u hk hu
    injection ha with ha
    injection ha with ha
    subst ha
    rw [heap_alloc_new] at harr
    injection harr with harr
    injection harr with harr
    subst harr
    exact hG.view q1 (q4 k c u hk (by rw [← hcl, Array.getElem?_toList]; exact hu))

/-! ### Cells laid over cells -/
theorem CellsR.append_ : ∀ {cs us b ds ts b'}, CellsR E w φ cs us b → CellsR E w φ ds ts b' → CellsR E w φ (cs ++ ds) (us ++ ts) (b ++ b') := by
  intro cs
  induction cs with
  | nil => intro us b ds ts b' h k; obtain ⟨rfl, rfl⟩ := h; exact k
  | cons c cs ih =>
    intro us b ds ts b' h k
    obtain ⟨v, us', b1, b2, rfl, rfl, hc, h⟩ := h
    exact ⟨v, us' ++ ts, b1, b2 ++ b', rfl, by simp, hc, ih h k⟩
theorem CellsR.split_ : ∀ {cs ds us b}, CellsR E w φ (cs ++ ds) us b → ∃ u1 u2 b1 b2, us = u1 ++ u2 ∧ b = b1 ++ b2 ∧ CellsR E w φ cs u1 b1 ∧ CellsR E w φ ds u2 b2 := by
  intro cs
  induction cs with
  | nil => intro ds us b h; exact ⟨[], us, [], b, rfl, rfl, ⟨rfl, rfl⟩, h⟩
  | cons c cs ih =>
    intro ds us b h
    obtain ⟨v, us', b1, b2, rfl, rfl, hc, h⟩ := h
    obtain ⟨u1, u2, a1, a2, rfl, rfl, h1, h2⟩ := ih h
    exact ⟨v :: u1, u2, b1 ++ a1, a2, rfl, by simp, ⟨v, u1, b1, a1, rfl, rfl, hc, h1⟩, h2⟩
theorem split_len {α : Type} {u1 u2 us : List α} (h : us = u1 ++ u2) {n : Nat} (hn : u1.length = n) : u1 = us.take n ∧ u2 = us.drop n := by
  subst hn; subst h
  simp
theorem CellsR.lay_ {cs us b news ts bn off cs'} (h : CellsR E w φ cs us b) (k : CellsR E w φ news ts bn) (hl : lay cs off news = some cs') :
    off + ts.length ≤ us.length ∧ ∃ b', CellsR E w φ cs' (us.take off ++ ts ++ us.drop (off + ts.length)) b' ∧ ∀ g, b'.count g ≤ b.count g + bn.count g := by
  unfold lay at hl
  split at hl
  · rename_i hle
    injection hl with hl
    subst hl
    have hlen := h.length
    have klen := k.length
    refine ⟨by omega, ?_⟩
    have e : cs = cs.take off ++ ((cs.drop off).take news.length ++ cs.drop (off + news.length)) := by
      rw [← List.drop_drop, List.take_append_drop, List.take_append_drop]
    rw [e] at h
    obtain ⟨u1, u2, b1, b2, hu, rfl, h1, h2⟩ := h.split_
    obtain ⟨u3, u4, b3, b4, hu', rfl, h3, h4⟩ := h2.split_
    have l1 := h1.length
    have l3 := h3.length
    simp at l1 l3
    obtain ⟨e1, e2⟩ := split_len hu (n := off) (by omega)
    obtain ⟨e3, e4⟩ := split_len hu' (n := news.length) (by omega)
    refine ⟨b1 ++ bn ++ b4, ?_, fun g => by simp; omega⟩
    have eu : us.drop (off + ts.length) = u4 := by rw [e4, e2, List.drop_drop, klen]
    rw [← e1, eu]
    exact (h1.append_ k).append_ h4
  · cases hl

def ViewsL (S : St) (vs : List Value) (w : World) (φ : Nat → Nat) (cs : List Cell) (us : List Value) : Prop := ∀ (i : Nat) c u, cs[i]? = some c → us[i]? = some u → ViewC S vs w φ c u
theorem ViewsL.weak {S S' : St} (h : WeakSt S S') {cs us} (k : ViewsL S vs w φ cs us) : ViewsL S' vs w φ cs us := fun i c u a b => ViewC.weak h (k i c u a b)
theorem ViewsL.append_ {S : St} {cs us ds ts} (hl : cs.length = us.length) (h : ViewsL S vs w φ cs us) (k : ViewsL S vs w φ ds ts) : ViewsL S vs w φ (cs ++ ds) (us ++ ts) := by
  intro i c u a b
  rw [List.getElem?_append] at a b
  split at a <;> rename_i hi
  · rw [if_pos (by omega)] at b; exact h i c u a b
  · rw [if_neg (by omega)] at b; rw [← hl] at b; exact k _ c u a b
theorem ViewsL.lay_ {S : St} {cs us news ts off cs'} (hlen : cs.length = us.length) (klen : news.length = ts.length) (h : ViewsL S vs w φ cs us) (k : ViewsL S vs w φ news ts) (hl : lay cs off news = some cs') :
    ViewsL S vs w φ cs' (us.take off ++ ts ++ us.drop (off + ts.length)) := by
  unfold lay at hl
  split at hl
  · rename_i hle
    injection hl with hl
    subst hl
    refine ViewsL.append_ (by simp; omega) (ViewsL.append_ (by simp; omega) (fun i c u a b => ?_) k) (fun i c u a b => ?_)
    · rw [List.getElem?_take] at a b
      split at a
      · rename_i hi; rw [if_pos hi] at b; exact h i c u a b
      · cases a
    · rw [List.getElem?_drop] at a b
      rw [← klen] at b
      exact h _ c u a b
  · cases hl

def chkParts (place : Nat → Option (Nat × Nat)) : List (Nat × Operand) → List (Nat × Nat × AOpnd) → Bool
  | [], [] => true
  | (i, x) :: ps, (off, n, y) :: qs => place i == some (off, n) && chkO x y && chkParts place ps qs
  | _, _ => false

theorem layAll_sound (hρ : RhoR ρ vs) {place : Nat → Option (Nat × Nat)} : ∀ {rp : List (Nat × Operand)} {ap : List (Nat × Nat × AOpnd)} {S S' : St} {cs cs' : List Cell} {arr : Array Value} {bs b},
    chkParts place rp ap = true → SR E S vs w φ bs b → CellsR E w φ cs arr.toList b → ViewsL S vs w φ cs arr.toList → layAll S cs ap = some (cs', S') →
    ∃ arr' bs' b', Instr.fill place arr (rp.map fun (i, x) => (i, ρ x)) = some arr' ∧ SR E S' vs w φ bs' b' ∧ CellsR E w φ cs' arr'.toList b' ∧ ViewsL S' vs w φ cs' arr'.toList := by
  intro rp
  induction rp with
  | nil =>
    intro ap S S' cs cs' arr bs b hc hs h hv hl
    cases ap with
    | cons _ _ => simp [chkParts] at hc
    | nil =>
      simp only [layAll, Option.some.injEq, Prod.mk.injEq] at hl
      obtain ⟨rfl, rfl⟩ := hl
      exact ⟨arr, bs, b, rfl, hs, h, hv⟩
  | cons p rp ih =>
    intro ap S S' cs cs' arr bs b hc hs h hv hl
    obtain ⟨i, x⟩ := p
    cases ap with
    | nil => simp [chkParts] at hc
    | cons q ap =>
      obtain ⟨off, n, y⟩ := q
      simp only [chkParts, Bool.and_eq_true, beq_iff_eq] at hc
      obtain ⟨⟨hp, hxy⟩, hc⟩ := hc
      simp only [layAll] at hl
      cases ht : tAny S y with
      | none => rw [ht] at hl; cases hl
      | some r =>
        obtain ⟨agg, news, S1⟩ := r
        rw [ht] at hl
        simp only [Option.bind_some] at hl
        split at hl
        · rename_i hn
          cases hla : lay cs off news with
          | none => rw [hla] at hl; cases hl
          | some cs1 =>
            rw [hla] at hl
            simp only [Option.bind_some] at hl
            obtain ⟨bs1, bc, us, q1, q2, q3, q4⟩ := tAny_sound hs (hρ _ _ hxy) ht
            have hones := CellsR.ones q1 q3.2 (tAny_nd ht)
            have hcl := q3.cells_ hones
            have hul := q3.2.length
            obtain ⟨m1, b1, m2, m3⟩ := h.lay_ q3.2 hla
            have hs1 := q1.handLe (hand' := b1) (fun g => by have := m3 g; simp; omega)
            have hv1 := ViewsL.lay_ h.length hul (hv.weak q2) q4 hla
            obtain ⟨arr', bs', b', k1, k2, k3, k4⟩ := ih (arr := (arr.toList.take off ++ us ++ arr.toList.drop (off + us.length)).toArray) hc hs1 (by simpa using m2) (by simpa using hv1) hl
            refine ⟨arr', bs', b', ?_, k2, k3, k4⟩
            simp only [List.map_cons]
            have hsz : (ρ x).cells.size = us.length := by rw [← hcl, Array.length_toList]
            rw [fill_cons hp (by omega) (by rw [hsz]; simpa using m1), hcl, hsz]
            exact k1
        · cases hl

theorem zeroViews {us zs} : ViewsL S vs w φ (zeroCells zs) us := by
  intro i c u a _
  simp only [zeroCells, List.getElem?_map] at a
  cases hz : zs[i]? <;> rw [hz] at a
  · cases a
  · injection a with a; subst a; trivial

theorem build_goal {t zs ps rp fs z} {i : TypeInfo} {places : List (Nat × Nat)} (hs : SR E S vs w φ bs []) (hρ : RhoR ρ vs) (ho : o.op = .build t rp) (hu : P.underlying t = some (.struct fs)) (hi : P.info? t = some i) (hz : i.zero = some z)
    (hpl : fs.toList.mapM (fun f => (P.info? f.type).map fun i => (f.offset, i.size)) = some places) (hzc : chkCells z.cells.toList zs = true) (hc : chkParts (places.toArray[·]?) rp.toList ps = true)
    (h : step S d (.build zs ps) = some S') : Goal P ρ o E S' vs d w := by
  simp only [step] at h
  cases hl : layAll S (zeroCells zs) ps with
  | none => rw [hl] at h; cases h
  | some y =>
    rw [hl] at h
    simp only [Option.bind_some] at h
    obtain ⟨arr', bs', b', k1, k2, k3, k4⟩ := layAll_sound hρ (arr := z.cells) hc hs (zeroCells_R hzc w φ) zeroViews hl
    have hrun : (Instr.build t (rp.map fun (i, x) => (i, ρ x))).run P w = .ok (.agg arr') w := by
      refine run_build w t _ arr' ?_
      simp only [Program.built, hi, hu, hz, hpl]
      rw [Array.toList_map]
      exact k1
    refine goal_new (v := .agg arr') (w' := w) (φ' := φ) (by simp [execOp, ho, hrun]) ?_
    exact done_put (bt := b') (tv := .agg y.1) (by simpa using k2) ⟨arr', rfl, k3⟩ (fun arr'' e i c u a b => by
      injection e with e; subst e
      exact k4 i c u a (by rw [← b, Array.getElem?_toList])) h

end
end Go.Proofs.Ytkiliooegoldoaa

/- Slices that are made and appended to. -/
set_option linter.unusedVariables false
set_option linter.unusedSimpArgs false
namespace Go.Proofs.Ytkiliooegoldoaa
open Go

def RowsR (E : Env) (w : World) (φ : Nat → Nat) (lev : Lev) (ps : List PV) (us : List Value) (b : List Nat) : Prop :=
  match lev with
  | .deep => OwL w φ ps us b
  | .oldR => RdL w E.okO ps us ∧ b = []
  | _ => RdL w (okB φ) ps us ∧ b = []

theorem RowsR.mono {E w w' φ φ' lev ps us b} (hO : ∀ g k u, E.okO g k → w.cell? ⟨g, k, none⟩ = some u → w'.cell? ⟨g, k, none⟩ = some u)
    (hB : ∀ g k u, okB φ g k → w.cell? ⟨g, k, none⟩ = some u → okB φ' g k ∧ w'.cell? ⟨g, k, none⟩ = some u)
    (hown : ∀ g ∈ b, w'.heap[g]? = w.heap[g]? ∧ φ' g = φ g) (h : RowsR E w φ lev ps us b) : RowsR E w' φ' lev ps us b := by
  cases lev with
  | deep => exact OwL.mono h hown
  | oldR => exact ⟨h.1.mono fun g k u a b => ⟨a, hO g k u a b⟩, h.2⟩
  | _ => exact ⟨h.1.mono hB, h.2⟩
theorem RowsR.append_ {E w φ lev ps us b qs ts b'} (h : RowsR E w φ lev ps us b) (k : RowsR E w φ lev qs ts b') : RowsR E w φ lev (ps ++ qs) (us ++ ts) (b ++ b') := by
  cases lev with
  | deep => exact OwL.append_ h k
  | oldR => exact ⟨h.1.append_ k.1, by rw [h.2, k.2]; rfl⟩
  | _ => exact ⟨h.1.append_ k.1, by rw [h.2, k.2]; rfl⟩
theorem RowsR.reads {E w φ lev ps us b} (hO : ∀ g k u, E.okO g k → w.cell? ⟨g, k, none⟩ = some u → okB φ g k) (h : RowsR E w φ lev ps us b) : RdL w (okB φ) ps us := by
  cases lev with
  | deep => exact OwL.reads h
  | oldR => exact h.1.mono fun g k u a b => ⟨hO g k u a b, b⟩
  | _ => exact h.1
theorem RowsR.length {E w φ lev ps us b} (h : RowsR E w φ lev ps us b) : ps.length = us.length := by
  cases lev with
  | deep => exact OwL.length h
  | _ => exact h.1.length
theorem RowsR.ones {E w φ lev ps us b} (h : RowsR E w φ lev ps us b) : ∀ u ∈ us, u.oneCell' = true := by
  cases lev with
  | deep => exact OwL.one_ h
  | _ => exact h.1.one_
theorem flats {E w φ} : ∀ {ps us ok}, RdL w ok ps us → (∀ p ∈ ps, p.flat = true) → ∀ lev, RowsR E w φ lev ps us [] := by
  intro ps
  induction ps with
  | nil =>
    intro us ok h _ lev
    cases h
    cases lev <;> first | exact .nil | exact ⟨.nil, rfl⟩
  | cons p ps ih =>
    intro us ok h hf lev
    cases us with
    | nil => cases h
    | cons u us =>
      obtain ⟨h1, h2⟩ := RdL.cons_iff.1 h
      have hp := hf p (by simp)
      have k := ih h2 (fun q hq => hf q (by simp [hq])) lev
      have one : RowsR E w φ lev [p] [u] [] := by
        cases lev with
        | deep => exact (h1.flat_ hp w (okB φ) φ).2
        | oldR => exact ⟨(h1.flat_ hp w E.okO φ).1, rfl⟩
        | _ => exact ⟨(h1.flat_ hp w (okB φ) φ).1, rfl⟩
      exact RowsR.append_ one k
theorem flatRows_iff {xs : List (List PV)} : flatRows xs = true ↔ ∀ p ∈ xs.flatten, p.flat = true := by
  simp [flatRows, flatRow]
  constructor
  · intro h p r hr hp; exact h r hr p hp
  · intro h r hr p hp; exact h p r hr hp

/-- A slice of one's own. -/
def OwnS (E : Env) (w : World) (φ : Nat → Nat) (lev : Lev) (sz : Nat) (xs : List (List PV)) (v : Value) (bs : List Nat) : Prop :=
  (v = .slice none 0 0 ∧ xs = [] ∧ bs = []) ∨
    ∃ g n c cur e b1, v = .slice (some ⟨g, 0, none⟩) n c ∧ bs = g :: b1 ∧ xs.length = n ∧ n ≤ c ∧ (∀ r ∈ xs, r.length = sz) ∧
      w.heap[g]? = some (.cells cur e (0, 0)) ∧ cur.size = c * sz ∧ φ g = n * sz ∧ RowsR E w φ lev xs.flatten (cur.toList.take (n * sz)) b1

theorem ownS_iff {E w φ lev sz xs v bs} (hl : isOwn lev = true) : CellR E w φ (.val lev (.sl sz xs)) v bs ↔ OwnS E w φ lev sz xs v bs := by
  cases lev with
  | old => cases hl
  | bor => cases hl
  | deep =>
    constructor
    · intro h
      cases h with
      | snil h => cases h; exact .inl ⟨rfl, rfl, rfl⟩
      | sl a b c d e f h k => cases k; exact .inr ⟨_, _, _, _, _, _, rfl, by simp, a, b, c, d, e, f, h⟩
    · rintro (⟨rfl, rfl, rfl⟩ | ⟨g, n, c, cur, e, b1, rfl, rfl, a, b, hr, d, es, f, h⟩)
      · exact .snil .nil
      · have := OwL.sl a b hr d es f h (OwL.nil (w := w) (φ := φ))
        rw [List.append_nil] at this
        exact this
  | oldR =>
    constructor
    · rintro ⟨sz', xs', he, h | ⟨g, n, c, cur, e, rfl, rfl, a, b, hr, d, es, f, h⟩⟩
      · cases he; exact .inl h
      · cases he; exact .inr ⟨g, n, c, cur, e, [], rfl, rfl, a, b, hr, d, es, f, h, rfl⟩
    · rintro (h | ⟨g, n, c, cur, e, b1, rfl, rfl, a, b, hr, d, es, f, h, rfl⟩)
      · exact ⟨sz, xs, rfl, .inl h⟩
      · exact ⟨sz, xs, rfl, .inr ⟨g, n, c, cur, e, rfl, rfl, a, b, hr, d, es, f, h⟩⟩
  | borR =>
    constructor
    · rintro ⟨sz', xs', he, h | ⟨g, n, c, cur, e, rfl, rfl, a, b, hr, d, es, f, h⟩⟩
      · cases he; exact .inl h
      · cases he; exact .inr ⟨g, n, c, cur, e, [], rfl, rfl, a, b, hr, d, es, f, h, rfl⟩
    · rintro (h | ⟨g, n, c, cur, e, b1, rfl, rfl, a, b, hr, d, es, f, h, rfl⟩)
      · exact ⟨sz, xs, rfl, .inl h⟩
      · exact ⟨sz, xs, rfl, .inr ⟨g, n, c, cur, e, rfl, rfl, a, b, hr, d, es, f, h⟩⟩

theorem RowsR.relev {E w φ want l xs us b} (hO : ∀ g k u, E.okO g k → w.cell? ⟨g, k, none⟩ = some u → okB φ g k) (hok : okBase want l xs = true) (h : RowsR E w φ l xs.flatten us b) :
    ∃ b', RowsR E w φ want xs.flatten us b' ∧ ∀ g, b'.count g ≤ b.count g := by
  unfold okBase at hok
  split at hok
  · exact ⟨b, h, fun g => Nat.le_refl _⟩
  · exact ⟨b, h, fun g => Nat.le_refl _⟩
  · exact ⟨b, h, fun g => Nat.le_refl _⟩
  · exact ⟨[], ⟨h.reads hO, rfl⟩, fun g => by simp⟩
  · exact ⟨[], ⟨h.reads hO, rfl⟩, fun g => by simp⟩
  · exact ⟨[], flats (h.reads hO) (flatRows_iff.1 hok) .oldR, fun g => by simp⟩
  · cases hok

theorem OwnS.relev {E w φ want l sz xs v b} (hO : ∀ g k u, E.okO g k → w.cell? ⟨g, k, none⟩ = some u → okB φ g k) (hok : okBase want l xs = true) (h : OwnS E w φ l sz xs v b) :
    ∃ b', OwnS E w φ want sz xs v b' ∧ ∀ g, b'.count g ≤ b.count g := by
  rcases h with h | ⟨g, n, c, cur, e, b1, rfl, rfl, a, b, hr, d, es, f, h⟩
  · exact ⟨b, .inl h, fun g => Nat.le_refl _⟩
  · obtain ⟨b', k, kc⟩ := h.relev hO hok
    exact ⟨g :: b', .inr ⟨g, n, c, cur, e, b', rfl, rfl, a, b, hr, d, es, f, k⟩, fun g' => by have := kc g'; simp [List.count_cons]; omega⟩

/-- Cells that are laid into rows. -/
theorem rowsOf {E w φ} (hO : ∀ g k u, E.okO g k → w.cell? ⟨g, k, none⟩ = some u → okB φ g k) {lev} : ∀ {l : List (Lev × PV)} {us b}, CellsR E w φ (l.map valCell) us b → okCells lev l = true → isOwn lev = true →
    ∃ b', RowsR E w φ lev (l.map (·.2)) us b' ∧ ∀ g, b'.count g ≤ b.count g := by
  intro l
  induction l with
  | nil => intro us b h _ hl; obtain ⟨rfl, rfl⟩ := h; exact ⟨[], by cases lev <;> first | exact .nil | exact ⟨.nil, rfl⟩, fun g => by simp⟩
  | cons x l ih =>
    intro us b h hok hl
    obtain ⟨u, us', b1, b2, rfl, rfl, hc, h⟩ := h
    simp only [okCells, List.all_cons, Bool.and_eq_true] at hok
    obtain ⟨b', k, kc⟩ := ih h hok.2 hl
    have one : ∃ bo, RowsR E w φ lev [x.2] [u] bo ∧ ∀ g, bo.count g ≤ b1.count g := by
      have hx := hok.1
      have hc' : CellR E w φ (.val x.1 x.2) u b1 := hc
      cases hf : x.2.flat
      case true =>
        refine ⟨[], flats (CellR.reads hO hc') (by simpa using hf) lev, fun g => by simp⟩
      case false =>
        simp only [okCell, hf, Bool.false_or] at hx
        cases lev with
        | old => cases hl
        | bor => cases hl
        | deep =>
          simp only [beq_iff_eq] at hx
          rw [hx] at hc'
          exact ⟨b1, hc', fun g => Nat.le_refl _⟩
        | oldR =>
          simp only [beq_iff_eq] at hx
          rw [hx] at hc'
          exact ⟨[], ⟨hc'.1, rfl⟩, fun g => by simp⟩
        | borR => exact ⟨[], ⟨CellR.reads hO hc', rfl⟩, fun g => by simp⟩
    obtain ⟨bo, k1, k2⟩ := one
    exact ⟨bo ++ b', RowsR.append_ k1 k, fun g => by have := kc g; have := k2 g; simp; omega⟩

/-- A slice whose elements are taken over into another. -/
theorem spread {E S vs w φ bs hand l sz ys v b want} (hs : SR E S vs w φ bs hand) (h : CellR E w φ (.val l (.sl sz ys)) v b) (hok : okSpread want l ys = true) (hw : isOwn want = true) :
    ∃ A c us b', v = .slice A ys.length c ∧ us.length = ys.length * sz ∧ (∀ r ∈ ys, r.length = sz) ∧ (∀ k u, us[k]? = some u → ∃ g o, A = some ⟨g, o, none⟩ ∧ w.cell? ⟨g, o + k, none⟩ = some u) ∧
      RowsR E w φ want ys.flatten us b' ∧ ∀ g, b'.count g ≤ b.count g := by
  -- as read
  have hread := CellR.reads hs.hO h
  obtain ⟨A, c, cvs, e, hle, hr, hcv, hrd⟩ := hread.slice_
  have hlen : cvs.length = ys.length * sz := by rw [← hrd.length, rows_length hr]
  have hcells : ∀ k u, cvs[k]? = some u → ∃ g o, A = some ⟨g, o, none⟩ ∧ w.cell? ⟨g, o + k, none⟩ = some u := fun k u hk => by
    obtain ⟨g, o, h1, _, h2⟩ := hcv k u hk
    exact ⟨g, o, h1, h2⟩
  by_cases hf : flatRows ys = true
  · exact ⟨A, c, cvs, [], e, hlen, hr, hcells, flats hrd (flatRows_iff.1 hf) want, fun g => by simp⟩
  · simp only [okSpread, hf, Bool.false_or] at hok
    cases want with
    | old => cases hw
    | bor => cases hw
    | borR => exact ⟨A, c, cvs, [], e, hlen, hr, hcells, ⟨hrd, rfl⟩, fun g => by simp⟩
    | deep =>
      cases l <;> simp at hok
      cases h with
      | snil h => simp [flatRows] at hf
      | @sl _ _ g n c' cur e' _ _ b1 b2 a1 a2 a3 a4 a5 a6 k1 k2 =>
        cases k2
        refine ⟨some ⟨g, 0, none⟩, c', cur.toList.take (n * sz), b1, by rw [a1], ?_, hr, fun k u hk => ⟨g, 0, rfl, ?_⟩, k1, fun g' => by simp [List.count_cons]⟩
        · rw [← k1.length, rows_length hr]
        · rw [Nat.zero_add, cell_of_heap a4]
          rw [List.getElem?_take] at hk
          split at hk
          · simpa using hk
          · cases hk
    | oldR =>
      cases l <;> simp at hok
      · obtain ⟨A', c'', cvs', e', hle', hr', hcv', hrd'⟩ := h.1.slice_
        refine ⟨A', c'', cvs', [], e', by rw [← hrd'.length, rows_length hr], hr, fun k u hk => ?_, ⟨hrd', rfl⟩, fun g => by simp⟩
        obtain ⟨g, o, h1, _, h2⟩ := hcv' k u hk
        exact ⟨g, o, h1, h2⟩
      · rcases (ownS_iff rfl).1 h with ⟨_, rfl, _⟩ | ⟨g, n, c', cur, e', b1, rfl, rfl, a1, a2, a3, a4, a5, a6, k1, k2⟩
        · simp [flatRows] at hf
        · refine ⟨some ⟨g, 0, none⟩, c', cur.toList.take (n * sz), [], by rw [a1], ?_, hr, fun k u hk => ⟨g, 0, rfl, ?_⟩, ⟨k1, rfl⟩, fun g' => by simp⟩
          · rw [← k1.length, rows_length hr]
          · rw [Nat.zero_add, cell_of_heap a4]
            rw [List.getElem?_take] at hk
            split at hk
            · simpa using hk
            · cases hk

/-! ### The model's append -/
section
variable {P : Program} {w : World}

theorem firstCells_of {size m c : Nat} {A : Option Addr} {us : List Value} (hl : us.length = m * size) (h : ∀ (k : Nat) u, us[k]? = some u → ∃ g o, A = some ⟨g, o, none⟩ ∧ w.cell? ⟨g, o + k, none⟩ = some u) :
    (Builtin.firstCells size m (.slice A m c)).run P w = .ok us.toArray w := by
  cases A with
  | none =>
    cases us with
    | nil => exact run_firstCells_none (P := P) w size m m c
    | cons u us => obtain ⟨g, o, e, _⟩ := h 0 u rfl; cases e
  | some a =>
    refine run_firstCells_some (P := P) w size m a m c us hl fun j v hj => ?_
    obtain ⟨g, o, e, hc⟩ := h j v hj
    injection e with e
    subst e
    rw [addr_add]; exact hc

theorem r_append_room {t ty e T : TypeId} {i : TypeInfo} {g n c m cc : Nat} {A : Option Addr} {us : List Value} {cur : Array Value} (ht : P.underlying t = some (.slice e)) (hi : P.info? e = some i)
    (hg : w.heap[g]? = some (.cells cur T (0, 0))) (hcur : cur.size = c * i.size) (hl : us.length = m * i.size) (h : ∀ (k : Nat) u, us[k]? = some u → ∃ g o, A = some ⟨g, o, none⟩ ∧ w.cell? ⟨g, o + k, none⟩ = some u)
    (h1 : ∀ u ∈ us, u.oneCell' = true) (hroom : n + m ≤ c) :
    (Builtin.append_ #[t, t] ty #[.slice (some ⟨g, 0, none⟩) n c, .slice A m cc]).run P w = .ok (.slice (some ⟨g, 0, none⟩) (n + m) c) (w.setRow g (cur.toList.take (n * i.size) ++ us ++ cur.toList.drop (n * i.size + us.length)).toArray) := by
  have hfc := firstCells_of (P := P) (c := cc) hl h
  have hle : n * i.size + us.length ≤ cur.size := by rw [hl, hcur, ← Nat.add_mul]; exact Nat.mul_le_mul_right _ hroom
  have hst := run_storeCells_at (P := P) g (n * i.size) T us 0 cur w hg (by simpa using hle) h1
  simp only [Nat.add_zero] at hst
  simp [Builtin.append_, run_underlying ht, sizeOf, typeInfo, hi, Builtin.lenOf, hroom, hfc, addr_add, hst]

theorem r_append_none {t ty e : TypeId} {i : TypeInfo} {cc : Nat} {A : Option Addr} (ht : P.underlying t = some (.slice e)) (hi : P.info? e = some i) :
    (Builtin.append_ #[t, t] ty #[.slice none 0 0, .slice A 0 cc]).run P w = .ok (.slice none 0 0) w := by
  have hfc := firstCells_of (P := P) (w := w) (size := i.size) (m := 0) (c := cc) (A := A) (us := []) (by simp) (by simp)
  simp [Builtin.append_, run_underlying ht, sizeOf, typeInfo, hi, Builtin.lenOf, hfc]

theorem r_append_grow {t ty e : TypeId} {i : TypeInfo} {z : Value} {B : Option Addr} {n c m cc : Nat} {A : Option Addr} {os us : List Value} (ht : P.underlying t = some (.slice e)) (hi : P.info? e = some i) (hz : i.zero = some z)
    (hlo : os.length = n * i.size) (ho : ∀ (k : Nat) u, os[k]? = some u → ∃ g o, B = some ⟨g, o, none⟩ ∧ w.cell? ⟨g, o + k, none⟩ = some u)
    (hl : us.length = m * i.size) (h : ∀ (k : Nat) u, us[k]? = some u → ∃ g o, A = some ⟨g, o, none⟩ ∧ w.cell? ⟨g, o + k, none⟩ = some u)
    (hg : c < n + m) (hb0 : 0 < i.bytes) (hb : (n + m) * i.bytes ≤ 140737488355328) :
    ∃ nc, n + m ≤ nc ∧ (Builtin.append_ #[t, t] ty #[.slice B n c, .slice A m cc]).run P w = .ok (.slice (some ⟨w.heap.size, 0, none⟩) (n + m) nc)
      (w.drew.alloc (.cells (os.toArray ++ us.toArray ++ Builtin.zeroCells z.cells (nc - (n + m))) e)) := by
  have hfit := growslice_fits (old := c) hg hb
  have hle : n + m ≤ (n + m) * i.bytes := Nat.le_mul_of_pos_right _ hb0
  have hn : ¬ (n + m ≤ c) := by omega
  have h63' : ¬ (9223372036854775807 < ((n : Int) + (m : Int))) := by omega
  have h48' : ¬ (281474976710656 < Builtin.nextslicecap (n + m) c * i.bytes) := by omega
  have hf := firstCells_of (P := P) (w := w.drew) (c := cc) hl (by simpa using h)
  have hfo := firstCells_of (P := P) (w := w.drew) (c := c) hlo (by simpa using ho)
  refine ⟨grownCap w (n + m) c e, grownCap_ge w (n + m) c e, ?_⟩
  simp [Builtin.append_, run_underlying ht, sizeOf, typeInfo, zeroValue, hi, hz, Builtin.lenOf, hn, h63', h48', Question.forced, hf, hfo, newRow, grownCap]
  congr 2
  apply Array.ext'
  simp [List.append_assoc]

end
end Go.Proofs.Ytkiliooegoldoaa

/- append, slice literals, make. -/
set_option linter.unusedVariables false
set_option linter.unusedSimpArgs false
namespace Go.Proofs.Ytkiliooegoldoaa
open Go

section
variable {P : Program} {ρ : Operand → Value} {o : Oper} {E : Env} {S S' : St} {vs : List Value} {w : World} {φ : Nat → Nat} {bs hand : List Nat} {d : Option Nat}

theorem tVals_sound (hs : SR E S vs w φ bs hand) {rs} : ∀ {cs us b l}, CellsR E w φ cs us b → ViewsL S vs w φ cs us → tVals S rs cs = some l →
    ∃ b', CellsR E w φ (l.map valCell) us b' ∧ ∀ g, b'.count g ≤ b.count g := by
  intro cs
  induction cs with
  | nil => intro us b l h _ hl; simp only [tVals, Option.some.injEq] at hl; subst hl; obtain ⟨rfl, rfl⟩ := h; exact ⟨[], ⟨rfl, rfl⟩, fun g => by simp⟩
  | cons c cs ih =>
    intro us b l h hv hl
    obtain ⟨u, us', b1, b2, rfl, rfl, hc, h⟩ := h
    simp only [tVals] at hl
    cases h1 : tVal S rs c with
    | none => rw [h1] at hl; cases hl
    | some x =>
      rw [h1] at hl
      simp only [Option.bind_some] at hl
      cases h2 : tVals S rs cs with
      | none => rw [h2] at hl; cases hl
      | some l' =>
        rw [h2] at hl
        simp only [Option.map_some, Option.some.injEq] at hl
        subst hl
        obtain ⟨b', k, kc⟩ := ih h (fun i c u a b => hv (i + 1) c u (by simpa using a) (by simpa using b)) h2
        have one : ∃ bo, CellR E w φ (valCell x) u bo ∧ ∀ g, bo.count g ≤ b1.count g := by
          cases c with
          | val l p => simp only [tVal, Option.some.injEq] at h1; subst h1; exact ⟨b1, hc, fun g => Nat.le_refl _⟩
          | view r cc path => exact ⟨[], bCell_sound hs hc (hv 0 _ u rfl rfl) h1, fun g => by simp⟩
          | dead => simp [tVal, bCell] at h1
        obtain ⟨bo, k1, k2⟩ := one
        exact ⟨bo ++ b', ⟨u, us', bo, b', rfl, rfl, k1, k⟩, fun g => by have := kc g; have := k2 g; simp; omega⟩

theorem tPV_sound {y v agg l} (hs : SR E S vs w φ bs hand) (hv : OpndR vs y v) (h : tPV S y = some (agg, l, S')) :
    ∃ bs' bc us, SR E S' vs w φ bs' (bc ++ hand) ∧ WeakSt S S' ∧ AggR E w φ agg (l.map valCell) v us bc := by
  unfold tPV at h
  cases ht : tAny S y with
  | none => rw [ht] at h; cases h
  | some r =>
    obtain ⟨agg', cs, S1⟩ := r
    rw [ht] at h
    simp only [Option.bind_some] at h
    cases hl : tVals S1 y.rs cs with
    | none => rw [hl] at h; cases h
    | some l' =>
      rw [hl] at h
      simp only [Option.map_some, Option.some.injEq, Prod.mk.injEq] at h
      obtain ⟨rfl, rfl, rfl⟩ := h
      obtain ⟨bs1, bc, us, q1, q2, q3, q4⟩ := tAny_sound hs hv ht
      obtain ⟨b', k, kc⟩ := tVals_sound q1 q3.2 q4 hl
      exact ⟨bs1, b', us, q1.handLe (fun g => by have := kc g; simp; omega), q2, q3.1, k⟩

/-- A world in which one block has been turned beyond what was protected of it. -/
structure InPl (w w' : World) (φ φ' : Nat → Nat) (g : Nat) : Prop where
  heap : ∀ b, b ≠ g → w'.heap[b]? = w.heap[b]? ∧ φ' b = φ b
  cell : ∀ k x, k < φ g → w.cell? ⟨g, k, none⟩ = some x → w'.cell? ⟨g, k, none⟩ = some x
  phi : φ g ≤ φ' g
  size : w'.heap.size = w.heap.size
  os : w'.os = w.os ∧ w'.tape = w.tape ∧ outw w' = outw w

theorem InPl.cell_ {w' φ' g} (h : InPl w w' φ φ' g) : ∀ b k x, k < φ b → w.cell? ⟨b, k, none⟩ = some x → k < φ' b ∧ w'.cell? ⟨b, k, none⟩ = some x := by
  intro b k x h1 h2
  by_cases hb : b = g
  · subst hb
    exact ⟨Nat.lt_of_lt_of_le h1 h.phi, h.cell k x h1 h2⟩
  · obtain ⟨e1, e2⟩ := h.heap b hb
    exact ⟨by omega, (World.cell?_of_block (w := w) (a := ⟨b, k, none⟩) e1).trans h2⟩

theorem InPl.sr {w' φ' g hand'} (h : InPl w w' φ φ' g) (hs : SR E S vs w φ bs hand) (hg : g ∈ hand) (hh : ∀ x, hand'.count x ≤ hand.count x) : SR E S vs w' φ' bs hand' := by
  have hnot : g ∉ bs := fun k => by
    have := hs.cnt g
    have h1 := List.count_pos_iff.2 k
    have h2 := List.count_pos_iff.2 hg
    omega
  have hown := hs.own g (.inr hg)
  refine hs.world h.cell_ (fun b hb => h.heap b (fun e => hnot (e ▸ hb))) (Nat.le_of_eq h.size.symm) (fun b h1 h2 => h.heap b (fun e => ?_)) (fun x => by have := hs.cnt x; have := hh x; omega) (fun x hx => ?_) h.os
  · subst e
    rcases hown.2 with k | k
    · omega
    · exact h2 k
  · have : x ∈ hand := mem_of_count (by have := hh x; have := List.count_pos_iff.2 hx; omega)
    have := hs.own x (.inr this)
    exact ⟨by rw [h.size]; exact this.1, this.2⟩

theorem okO_not {w' φ' g} (h : InPl w w' φ φ' g) (hg : E.w0.heap.size ≤ g ∨ g ∈ E.lin) : ∀ b k x, E.okO b k → w.cell? ⟨b, k, none⟩ = some x → w'.cell? ⟨b, k, none⟩ = some x := by
  intro b k x ⟨h1, h2, _⟩ hc
  have hb : b ≠ g := by
    rintro rfl
    rcases hg with hg | hg
    · omega
    · exact h2 hg
  exact (World.cell?_of_block (w := w) (a := ⟨b, k, none⟩) (h.heap b hb).1).trans hc

/-- append: the real side, whichever way it goes. -/
theorem append_any {t e ty : TypeId} {i : TypeInfo} {z : Value} {lev l l' : Lev} {sz : Nat} {xs ys : List (List PV)} {vx vy : Value} {bx b_y : List Nat}
    (hs : SR E S vs w φ bs (b_y ++ (bx ++ hand))) (hx : CellR E w φ (.val l (.sl sz xs)) vx bx) (hy : CellR E w φ (.val l' (.sl sz ys)) vy b_y)
    (ht : P.underlying t = some (.slice e)) (hi : P.info? e = some i) (hz : i.zero = some z) (hsz : i.size = sz) (hzs : z.cells.size = sz) (hsz0 : 0 < sz) (hb0 : 0 < i.bytes)
    (ho : isOwn l = true) (hol : isOwn lev = true) (hbase : okBase lev l xs = true) (hsp : okSpread lev l' ys = true) (hlen : (xs.length + ys.length) * i.bytes ≤ 140737488355328) :
    ∃ v w' φ' bt, (Builtin.append_ #[t, t] ty #[vx, vy]).run P w = .ok v w' ∧ SR E S vs w' φ' bs (bt ++ hand) ∧ CellR E w' φ' (.val lev (.sl sz (xs ++ ys))) v bt := by
  obtain ⟨bx', hx', hxc⟩ := ((ownS_iff ho).1 hx).relev hs.hO hbase
  obtain ⟨A, cc, us, by', hvy, hul, hyr, hyc, hrows, hbyc⟩ := spread hs hy hsp hol
  subst hvy
  subst hsz
  have hones := hrows.ones
  -- the hand, cut down
  have hs1 : SR E S vs w φ bs (by' ++ (bx' ++ hand)) := hs.handLe (fun g => by have := hxc g; have := hbyc g; simp; omega)
  rcases hx' with ⟨rfl, rfl, rfl⟩ | ⟨g, n, c, cur, T, b1, rfl, rfl, hxl, hle, hxr, hg, hcur, hφ, hxrows⟩
  · -- nil
    by_cases hm : ys.length = 0
    · have : ys = [] := List.length_eq_zero_iff.1 hm
      subst this
      refine ⟨.slice none 0 0, w, φ, [], by simpa using r_append_none (A := A) (cc := cc) (ty := ty) ht hi, hs1.handLe (fun g => by simp), (ownS_iff hol).2 (.inl ⟨rfl, rfl, rfl⟩)⟩
    · obtain ⟨nc, hnc, hrun⟩ := r_append_grow (w := w) (ty := ty) (B := none) (n := 0) (c := 0) (m := ys.length) (cc := cc) (A := A) (os := []) (us := us) ht hi hz (by simp) (by simp) hul hyc (by omega) hb0 (by simpa using hlen)
      have hG : Gr w (w.drew.alloc (.cells ([].toArray ++ us.toArray ++ Builtin.zeroCells z.cells (nc - (0 + ys.length))) e)) φ (setφ φ w.heap.size (ys.length * i.size)) :=
        (Gr.drew w φ).trans (Gr.alloc w.drew φ _ _)
      have hnew := hs1.newHand (w' := w.drew.alloc (.cells ([].toArray ++ us.toArray ++ Builtin.zeroCells z.cells (nc - (0 + ys.length))) e)) (by simp)
      refine ⟨_, _, setφ φ w.heap.size (ys.length * i.size), w.heap.size :: by', hrun, hG.sr (hand' := w.heap.size :: (by' ++ hand)) (hs1.handLe (fun g => Nat.le_refl _)) (by simpa using hnew.1) (by simpa using hnew.2), (ownS_iff hol).2 (.inr ⟨w.heap.size, 0 + ys.length, nc, _, e, by', rfl, rfl, by simp, by omega, by simpa using hyr, heap_alloc_new w.drew _, ?_, ?_, ?_⟩)⟩
      · simp only [Array.size_append, List.size_toArray, List.length_nil, size_zeroCells, hzs, hul]
        rw [Nat.zero_add, ← Nat.add_mul]; congr 1; omega
      · rw [setφ_same, Nat.zero_add]
      · have hr2 := hrows.mono (fun g k u _ h2 => hG.cell' g k u h2) (fun g k u h1 h2 => hG.cell g k u h1 h2) (fun g hg => hG.heap g (hs1.own g (.inr (by simp [hg]))).1)
        have : (([].toArray ++ us.toArray ++ Builtin.zeroCells z.cells (nc - (0 + ys.length))).toList.take ((0 + ys.length) * i.size)) = us := by
          rw [Array.toList_append, Array.toList_append]
          simp only [List.nil_append, Nat.zero_add]
          rw [← hul, List.take_left]
        rw [this]
        simpa using hr2
  · -- a block
    have hgh : g ∈ by' ++ (g :: b1 ++ hand) := by simp
    have hcells : ∀ (k : Nat) u, (cur.toList.take (n * i.size))[k]? = some u → ∃ g' o, some (⟨g, 0, none⟩ : Addr) = some ⟨g', o, none⟩ ∧ w.cell? ⟨g', o + k, none⟩ = some u := fun k u hk => ⟨g, 0, rfl, by
      rw [Nat.zero_add, cell_of_heap hg]
      rw [List.getElem?_take] at hk
      split at hk
      · simpa using hk
      · cases hk⟩
    have hnle : n * i.size ≤ cur.size := by rw [hcur]; exact Nat.mul_le_mul_right _ hle
    have htl : (cur.toList.take (n * i.size)).length = n * i.size := by simp; omega
    by_cases hroom : n + ys.length ≤ c
    · -- there is room
      have hrun := r_append_room (w := w) (ty := ty) (cc := cc) (A := A) ht hi hg hcur hul hyc hones hroom
      have hle2 : n * i.size + us.length ≤ cur.size := by rw [hul, hcur, ← Nat.add_mul]; exact Nat.mul_le_mul_right _ hroom
      have hI : InPl w (w.setRow g (cur.toList.take (n * i.size) ++ us ++ cur.toList.drop (n * i.size + us.length)).toArray) φ (setφ φ g ((n + ys.length) * i.size)) g := by
        refine ⟨fun b hb => ⟨setRow_other w g b _ hb, setφ_ne φ _ hb⟩, fun k x hk hc => ?_, ?_, by simp, rfl, rfl, outw_setRow _ _ _⟩
        · rw [cell_of_heap (setRow_heap w g cur _ T (0, 0) hg)]
          rw [cell_of_heap hg] at hc
          rw [hφ] at hk
          rw [List.getElem?_toArray, List.append_assoc, List.getElem?_append_left (by omega), List.getElem?_take, if_pos hk]
          simpa using hc
        · rw [setφ_same, hφ]; exact Nat.mul_le_mul_right _ (by omega)
      have hgo := (hs1.own g (.inr hgh)).2
      have hsI := hI.sr (hand' := g :: (b1 ++ by') ++ hand) hs1 hgh (fun x => by simp [List.count_cons]; omega)
      have hne : ∀ x ∈ b1 ++ by', x ≠ g := by
        intro x hxm e
        rw [e] at hxm
        have := hs1.cnt g
        have h1 := List.count_pos_iff.2 hxm
        simp [List.count_cons] at this h1
        omega
      have m1 := hxrows.mono (okO_not hI hgo) (fun g k u h1 h2 => hI.cell_ g k u h1 h2) (fun x hx => hI.heap x (hne x (by simp [hx])))
      have m2 := hrows.mono (okO_not hI hgo) (fun g k u h1 h2 => hI.cell_ g k u h1 h2) (fun x hx => hI.heap x (hne x (by simp [hx])))
      refine ⟨_, _, setφ φ g ((n + ys.length) * i.size), g :: (b1 ++ by'), hrun, hsI, (ownS_iff hol).2 (.inr ⟨g, n + ys.length, c, _, T, b1 ++ by', rfl, rfl, by simp [hxl], hroom, ?_, setRow_heap w g cur _ T (0, 0) hg, ?_, setφ_same _ _ _, ?_⟩)⟩
      · intro r hr
        rcases List.mem_append.1 hr with hr | hr
        · exact hxr r hr
        · exact hyr r hr
      · simp; rw [← hcur]; omega
      · have : (((cur.toList.take (n * i.size) ++ us ++ cur.toList.drop (n * i.size + us.length)).toArray).toList.take ((n + ys.length) * i.size)) = cur.toList.take (n * i.size) ++ us := by
          rw [Nat.add_mul, ← hul]
          have hl2 : (cur.toList.take (n * i.size) ++ us).length = n * i.size + us.length := by rw [List.length_append, htl]
          rw [← hl2]
          exact List.take_left
        rw [this, List.flatten_append]
        exact m1.append_ m2
    · -- it grows
      obtain ⟨nc, hnc, hrun⟩ := r_append_grow (w := w) (ty := ty) (B := some ⟨g, 0, none⟩) (n := n) (c := c) (m := ys.length) (cc := cc) (A := A) (os := cur.toList.take (n * i.size)) (us := us) ht hi hz htl hcells hul hyc (by omega) hb0 (by rw [← hxl]; exact hlen)
      have hG : Gr w (w.drew.alloc (.cells ((cur.toList.take (n * i.size)).toArray ++ us.toArray ++ Builtin.zeroCells z.cells (nc - (n + ys.length))) e)) φ (setφ φ w.heap.size ((n + ys.length) * i.size)) :=
        (Gr.drew w φ).trans (Gr.alloc w.drew φ _ _)
      have hs2 : SR E S vs w φ bs ((b1 ++ by') ++ hand) := hs1.handLe (fun x => by simp [List.count_cons]; omega)
      have hnew := hs2.newHand (w' := w.drew.alloc (.cells ((cur.toList.take (n * i.size)).toArray ++ us.toArray ++ Builtin.zeroCells z.cells (nc - (n + ys.length))) e)) (by simp)
      have lt : ∀ x ∈ b1 ++ by', x < w.heap.size := fun x hx => (hs2.own x (.inr (List.mem_append_left _ hx))).1
      have m1 := hxrows.mono (fun g k u _ h2 => hG.cell' g k u h2) (fun g k u h1 h2 => hG.cell g k u h1 h2) (fun x hx => hG.heap x (lt x (by simp [hx])))
      have m2 := hrows.mono (fun g k u _ h2 => hG.cell' g k u h2) (fun g k u h1 h2 => hG.cell g k u h1 h2) (fun x hx => hG.heap x (lt x (by simp [hx])))
      refine ⟨_, _, setφ φ w.heap.size ((n + ys.length) * i.size), w.heap.size :: (b1 ++ by'), hrun, hG.sr hs2 hnew.1 hnew.2, (ownS_iff hol).2 (.inr ⟨w.heap.size, n + ys.length, nc, _, e, b1 ++ by', rfl, rfl, by simp [hxl], hnc, ?_, heap_alloc_new w.drew _, ?_, setφ_same _ _ _, ?_⟩)⟩
      · intro r hr
        rcases List.mem_append.1 hr with hr | hr
        · exact hxr r hr
        · exact hyr r hr
      · simp only [Array.size_append, List.size_toArray, size_zeroCells, hzs, hul, htl]
        rw [← Nat.add_mul, ← Nat.add_mul]; congr 1; omega
      · have : (((cur.toList.take (n * i.size)).toArray ++ us.toArray ++ Builtin.zeroCells z.cells (nc - (n + ys.length))).toList.take ((n + ys.length) * i.size)) = cur.toList.take (n * i.size) ++ us := by
          rw [Nat.add_mul, ← hul, Array.toList_append, Array.toList_append]
          have hl2 : (cur.toList.take (n * i.size) ++ us).length = n * i.size + us.length := by rw [List.length_append, htl]
          rw [← hl2]
          exact List.take_left
        rw [this, List.flatten_append]
        exact m1.append_ m2

theorem AggR.single {v us b x} (h : AggR E w φ false [valCell x] v us b) : CellR E w φ (.val x.1 x.2) v b := by
  obtain ⟨h1, u, us', b1, b2, h2, h3, hc, h4, h5⟩ := h
  simp at h1
  subst h1
  simp at h2
  obtain ⟨rfl, rfl⟩ := h2
  subst h3; subst h5
  simpa [valCell] using hc

theorem append_goal {lev sz bytes x y x' y' t e} {c : Call} {i : TypeInfo} {z : Value} (hs : SR E S vs w φ bs []) (hρ : RhoR ρ vs) (ho : o.op = .call c) (hcal : c.callee = .builtin .append) (ha : c.args = #[x, y]) (htt : c.argTypes = #[t, t])
    (hc : chkO x x' = true) (hc' : chkO y y' = true) (ht : P.underlying t = some (.slice e)) (hi : P.info? e = some i) (hz : i.zero = some z) (hsz : i.size = sz) (hzs : z.cells.size = sz) (hsz0 : 0 < sz) (hb0 : 0 < bytes) (hby : i.bytes = bytes)
    (h : step S d (.append lev sz bytes x' y') = some S') : Goal P ρ o E S' vs d w := by
  obtain ⟨cal, args, tys⟩ := c
  simp only at hcal ha htt
  subst hcal; subst ha; subst htt; subst hby
  simp only [step] at h
  cases h1 : tPV S x' with
  | none => rw [h1] at h; cases h
  | some r1 =>
    obtain ⟨ag1, l1, S1⟩ := r1
    rw [h1] at h
    simp only [Option.bind_some] at h
    cases h2 : tPV S1 y' with
    | none => rw [h2] at h; cases h
    | some r2 =>
      obtain ⟨ag2, l2, S2⟩ := r2
      rw [h2] at h
      simp only [Option.bind_some] at h
      split at h
      · rename_i l sz1 xs l' sz2 ys
        split at h
        · rename_i hcond
          obtain ⟨rfl, rfl, hown, hol, hbase, hsp, hlen⟩ := hcond
          obtain ⟨bs1, bx, ux, p1, p2, p3⟩ := tPV_sound hs (hρ _ _ hc) h1
          obtain ⟨bs2, b_y, uy, q1, q2, q3⟩ := tPV_sound p1 (hρ _ _ hc') h2
          obtain ⟨v, w', φ', bt, hrun, hsr, hcell⟩ := append_any (ty := o.type) (lev := lev) q1 p3.single q3.single ht hi hz hsz hzs hsz0 hb0 hown hol hbase hsp hlen
          refine goal_new (v := v) (w' := w') (φ' := φ') (by simp [execOp, ho, resolve, invoke, builtin, hrun]) ?_
          exact done_put (bt := bt) (tv := .one (.val lev (.sl sz2 (xs ++ ys)))) hsr hcell trivial h
        · cases h
      · cases h

/-! ### literals, make -/
theorem rows_flatten_set {α : Type} {sz : Nat} : ∀ {rows : List (List α)} {k : Nat} {r : List α}, (∀ x ∈ rows, x.length = sz) → k < rows.length →
    (rows.set k r).flatten = rows.flatten.take (k * sz) ++ r ++ rows.flatten.drop (k * sz + sz) := by
  intro rows
  induction rows with
  | nil => intro k r _ h; simp at h
  | cons x rows ih =>
    intro k r hl hk
    have hx := hl x (by simp)
    cases k with
    | zero =>
      simp only [List.set_cons_zero, List.flatten_cons, Nat.zero_mul, List.take_zero, List.nil_append, Nat.zero_add]
      rw [← hx, List.drop_left]
    | succ k =>
      simp only [List.set_cons_succ, List.flatten_cons]
      rw [ih (fun y hy => hl y (by simp [hy])) (by simpa using hk)]
      have e1 : (k + 1) * sz = x.length + k * sz := by rw [hx, Nat.succ_mul]; omega
      rw [e1, Nat.add_assoc, List.take_append, List.drop_append]
      rw [List.take_of_length_le (l := x) (by omega), List.drop_of_length_le (l := x) (by omega)]
      simp [Nat.add_sub_cancel_left, List.append_assoc]

theorem flatten_len {α : Type} {sz : Nat} : ∀ {rows : List (List α)}, (∀ x ∈ rows, x.length = sz) → rows.flatten.length = rows.length * sz := by
  intro rows
  induction rows with
  | nil => intro _; simp
  | cons x rows ih => intro h; simp [h x (by simp), ih (fun r hr => h r (by simp [hr])), Nat.succ_mul, Nat.add_comm]
theorem set_uniform {α : Type} {sz : Nat} {rows : List (List α)} {k : Nat} {r : List α} (h : ∀ x ∈ rows, x.length = sz) (hr : r.length = sz) : ∀ x ∈ rows.set k r, x.length = sz := by
  intro x hx
  rcases List.mem_or_eq_of_mem_set hx with hx | rfl
  · exact h x hx
  · exact hr

def chkRows : List (Nat × Operand) → List (Nat × AOpnd) → Bool
  | [], [] => true
  | (i, x) :: ps, (j, y) :: qs => i == j && chkO x y && chkRows ps qs
  | _, _ => false

theorem layRows_sound (hρ : RhoR ρ vs) {sz : Nat} : ∀ {rp : List (Nat × Operand)} {ap : List (Nat × AOpnd)} {S S' : St} {rows rows' : List (List (Lev × PV))} {arr : Array Value} {bs b},
    chkRows rp ap = true → SR E S vs w φ bs b → (∀ r ∈ rows, r.length = sz) → CellsR E w φ (rows.flatten.map valCell) arr.toList b → layRows S sz rows ap = some (rows', S') →
    ∃ arr' bs' b', Instr.fill (fun i => some (i * sz, sz)) arr (rp.map fun (i, x) => (i, ρ x)) = some arr' ∧ SR E S' vs w φ bs' b' ∧ (∀ r ∈ rows', r.length = sz) ∧ rows'.length = rows.length ∧ CellsR E w φ (rows'.flatten.map valCell) arr'.toList b' := by
  intro rp
  induction rp with
  | nil =>
    intro ap S S' rows rows' arr bs b hc hs hu h hl
    cases ap with
    | cons _ _ => simp [chkRows] at hc
    | nil =>
      simp only [layRows, Option.some.injEq, Prod.mk.injEq] at hl
      obtain ⟨rfl, rfl⟩ := hl
      exact ⟨arr, bs, b, rfl, hs, hu, rfl, h⟩
  | cons p rp ih =>
    intro ap S S' rows rows' arr bs b hc hs hu h hl
    obtain ⟨i, x⟩ := p
    cases ap with
    | nil => simp [chkRows] at hc
    | cons q ap =>
      obtain ⟨j, y⟩ := q
      simp only [chkRows, Bool.and_eq_true, beq_iff_eq] at hc
      obtain ⟨⟨rfl, hxy⟩, hc⟩ := hc
      simp only [layRows] at hl
      cases ht : tPV S y with
      | none => rw [ht] at hl; cases hl
      | some r =>
        obtain ⟨agg, l, S1⟩ := r
        rw [ht] at hl
        simp only [Option.bind_some] at hl
        split at hl
        · rename_i hcond
          obtain ⟨hn, hi⟩ := hcond
          obtain ⟨bs1, bc, us, q1, q2, q3⟩ := tPV_sound hs (hρ _ _ hxy) ht
          have hones := CellsR.ones q1 q3.2 (by intro c hc; simp only [List.mem_map] at hc; obtain ⟨x, _, rfl⟩ := hc; simp [valCell])
          have hcl := q3.cells_ hones
          have hul := q3.2.length
          rw [List.length_map] at hul
          have hfl : rows.flatten.length = rows.length * sz := flatten_len hu
          have hle : i * sz + sz ≤ rows.length * sz := by rw [← Nat.succ_mul]; exact Nat.mul_le_mul_right _ hi
          have hal := h.length
          simp only [List.length_map] at hal
          have hlay : lay (rows.flatten.map valCell) (i * sz) (l.map valCell) = some ((rows.set i l).flatten.map valCell) := by
            unfold lay
            rw [if_pos (by rw [List.length_map, List.length_map, hfl, hn]; omega), rows_flatten_set hu hi]
            simp [List.map_take, List.map_drop, hn]
          obtain ⟨m1, b1, m2, m3⟩ := h.lay_ q3.2 hlay
          have hs1 := q1.handLe (hand' := b1) (fun g => by have := m3 g; simp; omega)
          obtain ⟨arr', bs', b', k1, k2, k3, k4, k5⟩ := ih (arr := (arr.toList.take (i * sz) ++ us ++ arr.toList.drop (i * sz + us.length)).toArray) hc hs1 (set_uniform hu hn) (by simpa using m2) hl
          refine ⟨arr', bs', b', ?_, k2, k3, by simpa using k4, k5⟩
          simp only [List.map_cons]
          have hsz : (ρ x).cells.size = us.length := by rw [← hcl, Array.length_toList]
          rw [fill_cons (off := i * sz) (size := sz) rfl (by omega) (by rw [hsz]; simpa using m1), hcl, hsz]
          exact k1
        · cases hl

theorem made_get {z : Array Value} {n k : Nat} (hk : k < n) : (madeCells z n).toList[k]? = some z[k % z.size]! := by
  rw [Array.getElem?_toList]
  unfold madeCells
  simp [hk]

theorem zeroRows {α : Type} {sz n : Nat} {zs : List α} (hl : zs.length = sz) {k : Nat} (hk : k < n * sz) : (List.replicate n zs).flatten[k]? = zs[k % sz]? := by
  have h0 : 0 < sz := by
    rcases Nat.eq_zero_or_pos sz with h | h
    · subst h; simp at hk
    · exact h
  have hq : k / sz < n := Nat.div_lt_of_lt_mul (by rw [Nat.mul_comm]; exact hk)
  have hm := Nat.mod_lt k h0
  have hdm : k / sz * sz + k % sz = k := by rw [Nat.mul_comm]; exact Nat.div_add_mod k sz
  have := flatten_get (sz := sz) (xs := List.replicate n zs) (i := k / sz) (j := k % sz) (r := zs) (q := zs[k % sz]) (fun r hr => by rw [List.eq_of_mem_replicate hr]; exact hl) (by rw [List.getElem?_replicate, if_pos hq]) (List.getElem?_eq_getElem (by omega))
  rw [hdm] at this
  rw [this, List.getElem?_eq_getElem (by omega)]

theorem zero_get {z : Array Value} {zs : List PV} {sz n k : Nat} (hc : chkCells z.toList zs = true) (hz : z.size = sz) (hk : k < n * sz) {p : PV} (hp : zs[k % sz]? = some p) {u : Value} (hu : (madeCells z (n * sz)).toList[k]? = some u) : ConstR p u := by
  rw [made_get hk] at hu
  injection hu with hu
  have hlt : k % sz < z.size := by
    have := (List.getElem?_eq_some_iff.1 hp).1
    have := chkCells_len hc
    simp at this
    omega
  refine chkCells_get hc (i := k % sz) ?_ hp
  rw [Array.getElem?_toList, Array.getElem?_eq_getElem hlt, ← hu, hz, getElem!_pos z (k % sz) hlt]

theorem zerosR {z : Array Value} {zs : List PV} {sz n : Nat} (hc : chkCells z.toList zs = true) (hz : z.size = sz) : CellsR E w φ ((List.replicate n (zs.map fun p => (Lev.deep, p))).flatten.map valCell) (madeCells z (n * sz)).toList [] := by
  have hl : zs.length = sz := by have := chkCells_len hc; simp at this; omega
  refine CellsR.ofGet ?_ fun k c u a b => ?_
  · rw [List.length_map, flatten_len (sz := sz) (fun r hr => by rw [List.eq_of_mem_replicate hr]; simp [hl])]
    simp [size_madeCells]
  · have hk : k < n * sz := by have := (List.getElem?_eq_some_iff.1 b).1; simpa [size_madeCells] using this
    rw [List.getElem?_map, zeroRows (sz := sz) (by simp [hl]) hk, List.getElem?_map] at a
    cases hp : zs[k % sz]? with
    | none => rw [hp] at a; cases a
    | some p =>
      rw [hp] at a
      injection a with a
      subst a
      exact (zero_get hc hz hk hp b).own w φ

theorem map_snd_flatten (rows : List (List (Lev × PV))) : (rows.map fun r => r.map (·.2)).flatten = rows.flatten.map (·.2) := by
  induction rows with
  | nil => rfl
  | cons r rows ih => simp only [List.map_cons, List.flatten_cons, List.map_append, ih]
theorem okCells_flatten {lev} {rows : List (List (Lev × PV))} (h : rows.all (okCells lev) = true) : okCells lev rows.flatten = true := by
  induction rows with
  | nil => rfl
  | cons r rows ih =>
    simp only [List.all_cons, Bool.and_eq_true] at h
    simp only [List.flatten_cons, okCells, List.all_append, Bool.and_eq_true]
    exact ⟨h.1, ih h.2⟩

theorem mkSl_goal {lev sz zs n ps t e rp z} {i : TypeInfo} (hs : SR E S vs w φ bs []) (hρ : RhoR ρ vs) (ho : o.op = .buildSlice t n rp) (hu : P.underlying t = some (.slice e)) (hi : P.info? e = some i) (hz : i.zero = some z) (hsz : i.size = sz) (h0 : 0 < sz)
    (hzs : z.cells.size = sz) (hsmall : n * sz ≤ 16777216) (hzc : chkCells z.cells.toList zs = true) (hc : chkRows rp.toList ps = true) (hlev : isOwn lev = true)
    (h : step S d (.mkSl lev sz zs n ps) = some S') : Goal P ρ o E S' vs d w := by
  subst hsz
  simp only [step] at h
  cases hl : layRows S i.size (List.replicate n (zs.map fun z => (Lev.deep, z))) ps with
  | none => rw [hl] at h; cases h
  | some y =>
    obtain ⟨rows', S1⟩ := y
    rw [hl] at h
    simp only [Option.bind_some] at h
    split at h
    · rename_i hcond
      obtain ⟨hzl, hok⟩ := hcond
      obtain ⟨arr', bs', b', k1, k2, k3, k4, k5⟩ := layRows_sound hρ (arr := madeCells z.cells (n * i.size)) hc hs (fun r hr => by rw [List.eq_of_mem_replicate hr]; simpa using hzl) (zerosR hzc hzs) hl
      simp only [List.length_replicate] at k4
      have hrun : (Instr.buildSlice t n (rp.map fun (i, x) => (i, ρ x))).run P w = .ok (.slice (some ⟨w.heap.size, 0, none⟩) n n) (w.alloc (.cells arr' e)) := by
        by_cases hn : n * i.size = 0
        · have hn0 : n = 0 := by rcases Nat.mul_eq_zero.1 hn with h | h <;> omega
          subst hn0
          rw [Nat.zero_mul] at k1
          have e1 : madeCells z.cells 0 = #[] := by simp [madeCells]
          rw [e1] at k1
          have k1' : Instr.fill (fun j => some (j * i.size, i.size)) #[] (rp.toList.map fun x => (x.1, ρ x.2)) = some arr' := k1
          simp [Instr.buildSlice, run_underlying hu, sizeOf, typeInfo, hi, newRow, Array.range_zero', k1']
        · exact run_buildSlice w t e n _ arr' i z hu hi hz (by omega) hn (by rw [Array.toList_map]; exact k1)
      obtain ⟨b2, q1, q2⟩ := rowsOf k2.hO k5 (okCells_flatten hok) hlev
      have hs1 := k2.handLe (hand' := b2) q2
      obtain ⟨n1, n2⟩ := hs1.newHand (w' := w.alloc (.cells arr' e)) (by simp)
      have hG := Gr.alloc w φ (.cells arr' e) (n * i.size)
      have hs2 := hG.sr hs1 n1 n2
      have q3 := q1.mono (fun g k u _ h2 => hG.cell' g k u h2) (fun g k u h1 h2 => hG.cell g k u h1 h2) (fun x hx => hG.heap x (hs1.own x (.inr hx)).1)
      have hal := k5.length
      rw [List.length_map, flatten_len k3, k4] at hal
      simp at hal
      refine goal_new (v := .slice (some ⟨w.heap.size, 0, none⟩) n n) (w' := w.alloc (.cells arr' e)) (φ' := setφ φ w.heap.size (n * i.size)) (by simp [execOp, ho, hrun]) ?_
      refine done_put (bt := w.heap.size :: b2) (tv := .one (.val lev (.sl i.size (rows'.map fun r => r.map (·.2))))) (by simpa using hs2) ?_ trivial h
      refine (ownS_iff hlev).2 (.inr ⟨w.heap.size, n, n, arr', e, b2, rfl, rfl, by simpa using k4, Nat.le_refl _, fun r hr => ?_, heap_alloc_new w _, hal.symm, setφ_same _ _ _, ?_⟩)
      · simp only [List.mem_map] at hr
        obtain ⟨r', hr', rfl⟩ := hr
        simpa using k3 r' hr'
      · rw [map_snd_flatten, List.take_of_length_le (by simp; omega)]
        exact q3
    · cases h

theorem RowsR.ofGet {lev} (hl : isOwn lev = true) : ∀ {ps us}, ps.length = us.length → (∀ (i : Nat) p u, ps[i]? = some p → us[i]? = some u → zeroPV p = true ∧ ConstR p u) → RowsR E w φ lev ps us [] := by
  intro ps
  induction ps with
  | nil => intro us h _; cases us <;> simp at h; cases lev <;> first | exact .nil | exact ⟨.nil, rfl⟩
  | cons p ps ih =>
    intro us h k
    cases us with
    | nil => simp at h
    | cons u us =>
      obtain ⟨k1, k2⟩ := k 0 p u rfl rfl
      have hO := k2.own w φ
      have one : RowsR E w φ lev [p] [u] [] := by
        rcases k2 with ⟨hf, hv⟩ | ⟨sz, rfl, rfl⟩
        · exact flats (OwL.reads hO) (by simpa using hf) lev
        · cases lev with
          | deep => exact hO
          | oldR => exact ⟨.sl (cvs := []) rfl (Nat.le_refl _) (by simp) (by simp) (by simpa using RdL.nil) .nil, rfl⟩
          | _ => exact ⟨.sl (cvs := []) rfl (Nat.le_refl _) (by simp) (by simp) (by simpa using RdL.nil) .nil, rfl⟩
      exact one.append_ (ih (by simpa using h) fun i p u a b => k (i + 1) p u (by simpa using a) (by simpa using b))

theorem make_goal {lev sz zs x t e y cp z} {i : TypeInfo} (hs : SR E S vs w φ bs []) (hρ : RhoR ρ vs) (ho : o.op = .makeSlice t y cp) (hcp : ρ cp = ρ y) (hu : P.underlying t = some (.slice e)) (hi : P.info? e = some i) (hz : i.zero = some z) (hsz : i.size = sz)
    (hzs : z.cells.size = sz) (hby : i.bytes ≤ 256) (hzc : chkCells z.cells.toList zs = true) (hc : chkO y x = true)
    (h : step S d (.make lev sz zs x) = some S') : Goal P ρ o E S' vs d w := by
  subst hsz
  simp only [step] at h
  split at h
  · rename_i n hn
    split at h
    · rename_i hc1
      split at h
      · rename_i hc2
        obtain ⟨hzl, hle⟩ := hc2
        simp only [Bool.and_eq_true] at hc1
        obtain ⟨hlev, hall⟩ := hc1
        obtain ⟨k, hk⟩ := natOf_sound hs (hρ _ _ hc) hn
        have hb : (i.bytes : Int) * (n : Int) ≤ 281474976710656 := by
          have h1 : i.bytes * n ≤ 256 * 1099511627776 := Nat.mul_le_mul hby hle
          have h2 : ((i.bytes * n : Nat) : Int) ≤ 281474976710656 := by omega
          rwa [Int.natCast_mul] at h2
        have hrun := run_make (P := P) w t e i z hu hi hz k k n n (by omega) (Int.le_refl _) hb (by omega)
        simp only [Int.toNat_natCast] at hrun
        have hG := Gr.alloc w φ (.cells (madeCells z.cells (n * i.size)) e) (n * i.size)
        obtain ⟨n1, n2⟩ := hs.newHand (w' := w.alloc (.cells (madeCells z.cells (n * i.size)) e)) (by simp)
        have hs2 := hG.sr hs n1 n2
        refine goal_new (v := .slice (some ⟨w.heap.size, 0, none⟩) n n) (w' := w.alloc (.cells (madeCells z.cells (n * i.size)) e)) (φ' := setφ φ w.heap.size (n * i.size)) (by simp [execOp, ho, hcp, hk, hrun]) ?_
        refine done_put (bt := [w.heap.size]) (tv := .one (.val lev (.sl i.size (List.replicate n zs)))) hs2 ?_ trivial h
        have hrl : ∀ r ∈ List.replicate n zs, r.length = i.size := fun r hr => by rw [List.eq_of_mem_replicate hr]; exact hzl
        refine (ownS_iff hlev).2 (.inr ⟨w.heap.size, n, n, _, e, [], rfl, rfl, by simp, Nat.le_refl _, hrl, heap_alloc_new w _, by simp [size_madeCells], setφ_same _ _ _, ?_⟩)
        rw [List.take_of_length_le (by simp [size_madeCells])]
        refine RowsR.ofGet hlev (by rw [flatten_len hrl]; simp [size_madeCells]) fun k p u a b => ?_
        have hk : k < n * i.size := by have := (List.getElem?_eq_some_iff.1 b).1; simpa [size_madeCells] using this
        rw [zeroRows (sz := i.size) hzl hk] at a
        exact ⟨List.all_eq_true.1 hall p (List.mem_of_getElem? a), zero_get hzc hzs hk a b⟩
      · cases h
    · cases h
  · cases h

end
end Go.Proofs.Ytkiliooegoldoaa
