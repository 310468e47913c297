/- The operations that make no memory. -/
import Derived.Test.YtkiliooegoldoaaRel5
set_option linter.unusedVariables false
set_option linter.unusedSimpArgs false
namespace Go.Proofs.Ytkiliooegoldoaa
open Go

def upd (vs : List Value) (d : Option Nat) (v : Value) : List Value :=
  match d with
  | none => vs
  | some d => vs.set d v
def Done (E : Env) (S' : St) (vs : List Value) (w : World) (φ : Nat → Nat) : Prop := ∃ bs', SR E S' vs w φ bs' []

theorem done_put {E S vs w φ bs bt g d tv v S'} (hs : SR E S vs w φ bs (bt ++ [])) (ht : TVR E w φ tv v bt) (hv : ViewTV S vs w φ tv v) (h : put g S d tv = some S') :
    Done E S' (upd vs d v) w φ := by
  obtain ⟨bs', k⟩ := put_sound hs ht hv h
  exact ⟨bs', by cases d <;> exact k⟩

/-! ### Values of known form -/
theorem CellR.flat {E w φ l p v b} (h : CellR E w φ (.val l p) v b) (hf : p.flat = true) : v = p.toV := by
  have rd : ∀ {ok}, RdL w ok [p] [v] → v = p.toV := by
    intro ok h
    cases h with
    | int _ => rfl
    | bool _ => rfl
    | str _ => rfl
    | sl _ _ _ _ _ _ => simp [PV.flat] at hf
  cases l with
  | old => exact rd h.1
  | bor => exact rd h.1
  | deep => exact rd (OwL.reads h)
  | oldR => exact absurd h.not_flat (by simp [hf])
  | borR => exact absurd h.not_flat (by simp [hf])

theorem CellR.slice_ {E S vs w φ bs hand l sz xs v b} (hs : SR E S vs w φ bs hand) (h : CellR E w φ (.val l (.sl sz xs)) v b) : ∃ A c, v = .slice A xs.length c ∧ xs.length ≤ c := by
  have h := CellR.reads hs.hO h
  cases h with
  | sl a b _ _ _ _ => exact ⟨_, _, by rw [a], by rw [a]; exact b⟩

theorem flat_own {p : PV} {v : Value} (hf : p.flat = true) (hv : v = p.toV) (w : World) (φ : Nat → Nat) : OwL w φ [p] [v] [] := by
  subst hv
  cases p with
  | int k n => exact .int .nil
  | bool b => exact .bool .nil
  | str s => exact .str .nil
  | sl s x => simp [PV.flat] at hf

theorem done_scalar {E S vs w φ bs d p v S'} (hs : SR E S vs w φ bs []) (hf : p.flat = true) (hv : v = p.toV) (h : put false S d (.one (.val .deep p)) = some S') : Done E S' (upd vs d v) w φ :=
  done_put (bt := []) (tv := .one (.val .deep p)) hs (flat_own hf hv w φ) trivial h

theorem slotv {E S vs w φ bs hand n} (hs : SR E S vs w φ bs hand) (h : S.g n ≠ .dead) : vs[n]? = some (vs.getD n undef) := by
  obtain ⟨u, hu⟩ := hs.lt h
  rw [List.getD_eq_getElem?_getD, hu]; rfl

theorem asPlace_sound {E S vs w φ bs hand p} (hs : SR E S vs w φ bs hand) (h : S.g p ≠ .dead) : ∃ bt, TVR E w φ (asPlace S p) (vs.getD p undef) bt ∧ ViewTV S vs w φ (asPlace S p) (vs.getD p undef) := by
  have hu := slotv hs h
  obtain ⟨bt, h1, h2⟩ := hs.slot hu
  unfold asPlace
  cases hS : S.g p with
  | box cs =>
    rw [hS] at h1
    obtain ⟨g, arr, e, b1, ev, _⟩ := h1
    exact ⟨[], rfl, .inl ⟨rfl, cs, g, hS, by rw [hu, ev], ev⟩⟩
  | _ => rw [hS] at h1 h2; exact ⟨bt, h1, h2⟩

theorem bOne_sound {E S vs w φ bs hand o v l p} (hs : SR E S vs w φ bs hand) (hv : OpndR vs o v) (h : bOne S o = some (l, p)) : CellR E w φ (.val l p) v [] := by
  cases o with
  | c q =>
    simp only [bOne, Option.some.injEq, Prod.mk.injEq] at h
    obtain ⟨rfl, rfl⟩ := h
    exact ConstR.own hv w φ
  | t n rs =>
    simp only [bOne] at h
    split at h
    · rename_i c hS
      have hu := slotv hs (n := n) (by rw [hS]; simp)
      obtain ⟨bt, h1, h2⟩ := hs.slot hu
      rw [hS] at h1 h2
      have : v = vs.getD n undef := hv
      rw [this]
      exact bCell_sound hs h1 h2 h
    · cases h

theorem bAny_sound {E S vs w φ bs hand o v agg l} (hs : SR E S vs w φ bs hand) (hv : OpndR vs o v) (h : bAny S o = some (agg, l)) :
    ∃ us, AggR E w φ agg (l.map valCell) v us [] := by
  cases o with
  | c q =>
    simp only [bAny, Option.some.injEq, Prod.mk.injEq] at h
    obtain ⟨rfl, rfl⟩ := h
    exact ⟨[v], rfl, v, [], [], [], rfl, rfl, ConstR.own hv w φ, rfl, rfl⟩
  | t n rs =>
    have : v = vs.getD n undef := hv
    subst this
    simp only [bAny] at h
    split at h
    · rename_i c hS
      have hu := slotv hs (n := n) (by rw [hS]; simp)
      obtain ⟨bt, h1, h2⟩ := hs.slot hu
      rw [hS] at h1 h2
      cases hb : bCell S rs c with
      | none => rw [hb] at h; cases h
      | some x =>
        rw [hb] at h
        simp only [Option.map_some, Option.some.injEq, Prod.mk.injEq] at h
        obtain ⟨rfl, rfl⟩ := h
        exact ⟨_, rfl, _, [], [], [], rfl, rfl, bCell_sound hs h1 h2 hb, rfl, rfl⟩
    · rename_i cs hS
      have hu := slotv hs (n := n) (by rw [hS]; simp)
      obtain ⟨bt, h1, h2⟩ := hs.slot hu
      rw [hS] at h1 h2
      obtain ⟨arr, e, h1⟩ := h1
      cases hb : bCells S rs cs with
      | none => rw [hb] at h; cases h
      | some x =>
        rw [hb] at h
        simp only [Option.map_some, Option.some.injEq, Prod.mk.injEq] at h
        obtain ⟨rfl, rfl⟩ := h
        exact ⟨arr.toList, by simpa using e, bCells_sound hs h1 (fun i c u a b => h2 arr e i c u a (by rw [← b, Array.getElem?_toList])) hb⟩
    · cases h

theorem natOf_sound {E S vs w φ bs hand o v n} (hs : SR E S vs w φ bs hand) (hv : OpndR vs o v) (h : natOf S o = some n) : ∃ k, v = .int k n := by
  unfold natOf at h
  split at h
  · rename_i l k z hb
    split at h
    · rename_i h0
      injection h with h
      refine ⟨k, ?_⟩
      rw [(bOne_sound hs hv hb).flat rfl]
      simp only [PV.toV]
      rw [← h, Int.toNat_of_nonneg h0]
    · cases h
  · cases h

/-! ### mv, take -/
theorem boxCells_get {r : Nat} : ∀ {cs : List Cell} {k i : Nat}, (boxCells r k cs)[i]? = (cs[i]?).map (boxCell r (k + i)) := by
  intro cs
  induction cs with
  | nil => intro k i; rfl
  | cons c cs ih =>
    intro k i
    cases i with
    | zero => rfl
    | succ i =>
      simp only [boxCells, List.getElem?_cons_succ]
      rw [ih]
      rw [Nat.add_assoc, Nat.add_comm 1 i]

theorem RdL.oneC {w ok p v} (h : RdL w ok [p] [v]) : v.oneCell' = true := h.one_ v (by simp)
theorem CellR.oneC {E S vs w φ bs hand l p v b} (hs : SR E S vs w φ bs hand) (h : CellR E w φ (.val l p) v b) : v.oneCell' = true := RdL.oneC (CellR.reads hs.hO h)

theorem CellR.boxCell {E S vs w φ bs hand r c x v b} (hs : SR E S vs w φ bs hand) (h : CellR E w φ x v b) : CellR E w φ (boxCell r c x) v [] := by
  cases x with
  | view r' c' path => exact ⟨rfl, h.2⟩
  | dead => rfl
  | val l p =>
    simp only [Ytkiliooegoldoaa.boxCell]
    split
    · rename_i hf; exact flat_own hf (h.flat hf) w φ
    · split
      · exact ⟨rfl, CellR.oneC hs h⟩
      · exact CellR.weak hs h
theorem CellsR.boxCells {E S vs w φ bs hand r} (hs : SR E S vs w φ bs hand) : ∀ {cs us b k}, CellsR E w φ cs us b → CellsR E w φ (boxCells r k cs) us [] := by
  intro cs
  induction cs with
  | nil => intro us b k h; exact ⟨h.1, rfl⟩
  | cons c cs ih =>
    intro us b k h
    obtain ⟨u, us', b1, b2, rfl, rfl, hc, h⟩ := h
    exact ⟨u, us', [], [], rfl, rfl, CellR.boxCell hs hc, ih h⟩

/-- What a box's or an aggregate's cell is, seen from outside. -/
theorem view_boxCell {S vs w φ r i x u} (hr : rootish (S.g r) = true ∨ ∀ l p, x = .val l p → p.flat = true) (hroot : rootCell S r i = x) (hv : rootV S vs w r i = some u) (hx : ViewC S vs w φ x u) :
    ViewC S vs w φ (boxCell r i x) u := by
  cases x with
  | view r' c' path => exact hx
  | dead => trivial
  | val l p =>
    simp only [boxCell]
    split
    · trivial
    · rename_i hf
      split
      · refine ⟨?_, fun l' p' h => ?_⟩
        · rcases hr with hr | hr
          · exact hr
          · exact absurd (hr l p rfl) (by simpa using hf)
        · rw [hroot] at h
          injection h with h1 h2
          subst h1; subst h2
          exact ⟨by simpa using hf, fun h => absurd rfl h, ⟨p, rfl⟩, u, hv, rfl⟩
      · trivial

theorem mv_ok {E S vs w φ bs g x d v S'} (hs : SR E S vs w φ bs []) (hx : OpndR vs x v) (h : step S d (.mv g x) = some S') : Done E S' (upd vs d v) w φ := by
  cases x with
  | c p => exact done_put (bt := []) (tv := .one (.val .deep p)) hs (ConstR.own hx w φ) trivial h
  | t n rs =>
    have hv : v = vs.getD n undef := hx
    subst hv
    simp only [step] at h
    cases hS : S.g n <;> rw [hS] at h <;> (try dsimp only at h)
    case one c =>
      have hu := slotv hs (n := n) (by rw [hS]; simp)
      obtain ⟨bt, h1, h2⟩ := hs.slot hu
      rw [hS] at h1 h2
      cases c with
      | dead => cases h
      | view r c path => exact done_put (bt := []) (tv := .one (.view r c path)) hs ⟨rfl, h1.2⟩ h2 h
      | val l p =>
        refine done_put (bt := []) (tv := .one (boxCell n 0 (.val l p))) hs (CellR.boxCell (r := n) (c := 0) hs h1) ?_ h
        refine view_boxCell (u := vs.getD n undef) ?_ (by simp [rootCell, hS]) (by unfold rootV; rw [hS, hu]; rfl) trivial
        by_cases hf : p.flat = true
        · exact .inr fun l' p' e => by injection e with e1 e2; subst e2; exact hf
        · exact .inl (by simp [rootish, rootishC, hS, hf])
    case agg cs =>
      have hu := slotv hs (n := n) (by rw [hS]; simp)
      obtain ⟨bt, h1, h2⟩ := hs.slot hu
      rw [hS] at h1 h2
      obtain ⟨arr, e, h1⟩ := h1
      refine done_put (bt := []) (tv := .agg (boxCells n 0 cs)) hs ⟨arr, e, CellsR.boxCells hs h1⟩ ?_ h
      intro arr' e' i c u hc hu'
      rw [boxCells_get, Nat.zero_add] at hc
      cases hci : cs[i]? with
      | none => rw [hci] at hc; cases hc
      | some x =>
        rw [hci] at hc
        injection hc with hc
        subst hc
        refine view_boxCell ?_ (by simp [rootCell, hS, List.getD_eq_getElem?_getD, hci]) (by rw [rootV, hS, hu, e']; exact hu') (h2 arr' e' i x u hci hu')
        by_cases hf : rootishC x = true
        · exact .inl (by simp only [rootish, hS, List.any_eq_true]; exact ⟨x, List.mem_of_getElem? hci, hf⟩)
        · exact .inr fun l p e => by subst e; simpa [rootishC] using hf
    case box cs =>
      have hu := slotv hs (n := n) (by rw [hS]; simp)
      obtain ⟨bt, h1, h2⟩ := hs.slot hu
      rw [hS] at h1 h2
      obtain ⟨g', arr, e, b1, e1, hg, hf, h1, _⟩ := h1
      exact done_put (bt := []) (tv := .place n 0 []) hs rfl (.inl ⟨rfl, cs, g', hS, by rw [hu, e1], e1⟩) h
    case place r c path =>
      have hu := slotv hs (n := n) (by rw [hS]; simp)
      obtain ⟨bt, h1, h2⟩ := hs.slot hu
      rw [hS] at h1 h2
      exact done_put (bt := []) (tv := .place r c path) hs rfl h2 h
    case ep l row off =>
      have hu := slotv hs (n := n) (by rw [hS]; simp)
      obtain ⟨bt, h1, h2⟩ := hs.slot hu
      rw [hS] at h1 h2
      exact done_put (bt := []) (tv := .ep l row off) hs ⟨rfl, h1.2⟩ trivial h
    all_goals cases h

theorem ofCells_TVR {E w φ agg cs v us b tv} (h : AggR E w φ agg cs v us b) (ht : TV.ofCells agg cs = some tv) : TVR E w φ tv v b := by
  unfold TV.ofCells at ht
  obtain ⟨h1, h2⟩ := h
  split at ht
  · rename_i ha
    injection ht with ht
    subst ht
    rw [if_pos ha] at h1
    exact ⟨us.toArray, h1, by simpa using h2⟩
  · rename_i ha
    rw [if_neg ha] at h1
    split at ht
    · rename_i c
      injection ht with ht
      subst ht
      obtain ⟨u, us', b1, b2, rfl, rfl, hc, h2⟩ := h2
      obtain ⟨rfl, rfl⟩ := h2
      injection h1 with h1
      subst h1
      rw [List.append_nil]
      exact hc
    · cases ht
theorem ofCells_view {S vs w φ agg cs v us tv} (h1 : if agg = true then v = .agg us.toArray else us = [v]) (hc : ∀ (i : Nat) c u, cs[i]? = some c → us[i]? = some u → ViewC S vs w φ c u)
    (ht : TV.ofCells agg cs = some tv) : ViewTV S vs w φ tv v := by
  unfold TV.ofCells at ht
  split at ht
  · rename_i ha
    injection ht with ht
    subst ht
    rw [if_pos ha] at h1
    intro arr e i c u a b
    rw [h1] at e
    injection e with e
    subst e
    exact hc i c u a (by simpa using b)
  · rename_i ha
    rw [if_neg ha] at h1
    split at ht
    · injection ht with ht
      subst ht
      subst h1
      exact hc 0 _ v rfl rfl
    · cases ht

theorem take_ok {E S vs w φ bs g x d v S'} (hs : SR E S vs w φ bs []) (hx : OpndR vs x v) (h : step S d (.take g x) = some S') : Done E S' (upd vs d v) w φ := by
  simp only [step] at h
  cases ht : tAny S x with
  | none => rw [ht] at h; cases h
  | some y =>
    obtain ⟨agg, cs, S1⟩ := y
    rw [ht] at h
    simp only [Option.bind_some] at h
    cases ho : TV.ofCells agg cs with
    | none => rw [ho] at h; cases h
    | some tv =>
      rw [ho] at h
      obtain ⟨bs', bc, us, q1, q2, q3, q4⟩ := tAny_sound hs hx ht
      exact done_put q1 (ofCells_TVR q3 ho) (ofCells_view q3.1 q4 ho) h

/-! ### Scalars -/
theorem ofSem_eq {s : Sem Value} {p : PV} (h : ofSem s = some p) : s = .pure p.toV ∧ p.flat = true := by
  unfold ofSem at h
  split at h
  · rename_i v
    unfold ofV at h
    split at h <;> first | (injection h with h; subst h; exact ⟨rfl, rfl⟩) | cases h
  · cases h

theorem pick_ok {E S vs w φ bs c a b d vc va vb S'} (hs : SR E S vs w φ bs []) (hc : OpndR vs c vc) (ha : OpndR vs a va) (hb : OpndR vs b vb)
    (h : step S d (.pick c a b) = some S') : ∃ t, vc = .bool t ∧ ∀ v, v = (if t then va else vb) → Done E S' (upd vs d v) w φ := by
  simp only [step] at h
  split at h
  · rename_i lc t h1
    split at h
    · rename_i lv v h2
      split at h
      · rename_i hf
        refine ⟨t, (bOne_sound hs hc h1).flat rfl, fun u hv => ?_⟩
        refine done_scalar hs hf ?_ h
        rw [hv]
        cases t
        · exact (bOne_sound hs hb h2).flat hf
        · exact (bOne_sound hs ha h2).flat hf
      · cases h
    · cases h
  · cases h

theorem sameCells_sound {E w φ} : ∀ {a b : List (Lev × PV)} {us ts r}, CellsR E w φ (a.map valCell) us [] → CellsR E w φ (b.map valCell) ts [] → sameCells a b = some r →
    us.length = ts.length ∧ (∀ (i : Nat) u t, us[i]? = some u → ts[i]? = some t → ∃ p q, u = PV.toV p ∧ t = PV.toV q ∧ (sameScalar p q).isSome) ∧
    (r = true ↔ ∀ (i : Nat) u t, us[i]? = some u → ts[i]? = some t → ∃ p q, u = PV.toV p ∧ t = PV.toV q ∧ sameScalar p q = some true) := by
  intro a
  induction a with
  | nil =>
    intro b us ts r h1 h2 h
    cases b with
    | cons y ys => simp [sameCells] at h
    | nil =>
      simp only [sameCells, Option.some.injEq] at h
      subst h
      obtain ⟨rfl, _⟩ := h1
      obtain ⟨rfl, _⟩ := h2
      simp
  | cons x xs ih =>
    intro b us ts r h1 h2 h
    cases b with
    | nil => simp [sameCells] at h
    | cons y ys =>
      simp only [sameCells] at h
      cases hb : sameScalar x.2 y.2 with
      | none => rw [hb] at h; cases h
      | some b =>
        rw [hb] at h
        simp only [Option.bind_some] at h
        cases hr : sameCells xs ys with
        | none => rw [hr] at h; cases h
        | some c =>
          rw [hr] at h
          simp only [Option.map_some, Option.some.injEq] at h
          subst h
          obtain ⟨u, us', b1, b2, rfl, e1, hc, h1⟩ := h1
          obtain ⟨t, ts', c1, c2, rfl, e2, hd, h2⟩ := h2
          have e1 := List.append_eq_nil_iff.1 e1.symm
          have e2 := List.append_eq_nil_iff.1 e2.symm
          obtain ⟨rfl, rfl⟩ := e1
          obtain ⟨rfl, rfl⟩ := e2
          obtain ⟨k1, k2, k3⟩ := ih h1 h2 hr
          have fx : x.2.flat = true ∧ y.2.flat = true := by
            unfold sameScalar at hb
            split at hb <;> rename_i e1 e2 <;> first | (rw [e1, e2]; exact ⟨rfl, rfl⟩) | cases hb
          have hu := CellR.flat hc fx.1
          have ht := CellR.flat hd fx.2
          refine ⟨by simp [k1], fun i u' t' a b' => ?_, ?_⟩
          · cases i with
            | zero => simp at a b'; subst a; subst b'; exact ⟨x.2, y.2, hu, ht, by rw [hb]; rfl⟩
            | succ i => exact k2 i u' t' (by simpa using a) (by simpa using b')
          · rw [Bool.and_eq_true, k3]
            constructor
            · rintro ⟨rfl, k⟩ i u' t' a b'
              cases i with
              | zero => simp at a b'; subst a; subst b'; exact ⟨x.2, y.2, hu, ht, hb⟩
              | succ i => exact k i u' t' (by simpa using a) (by simpa using b')
            · intro k
              refine ⟨?_, fun i u' t' a b' => k (i + 1) u' t' (by simpa using a) (by simpa using b')⟩
              obtain ⟨p, q, e1, e2, e3⟩ := k 0 u t rfl rfl
              have inj : ∀ {p q : PV}, q.flat = true → p.toV = q.toV → p = q := by
                intro p q hq e
                cases p <;> cases q <;> simp [PV.toV, PV.flat] at e hq ⊢ <;> exact e
              have ep : x.2 = p := by
                have fp : p.flat = true := by
                  unfold sameScalar at e3
                  split at e3 <;> first | rfl | cases e3
                exact inj fp (by rw [← hu, e1])
              have eq : y.2 = q := by
                have fq : q.flat = true := by
                  unfold sameScalar at e3
                  split at e3 <;> first | rfl | cases e3
                exact inj fq (by rw [← ht, e2])
              rw [← ep, ← eq, hb] at e3
              injection e3

end Go.Proofs.Ytkiliooegoldoaa
