/- Taking. -/
import Derived.Test.YtkiliooegoldoaaRel3
set_option linter.unusedVariables false
set_option linter.unusedSimpArgs false
namespace Go.Proofs.Ytkiliooegoldoaa
open Go

theorem elem_iff {r : Nat} {rs : List Nat} : rs.elem r = true ↔ r ∈ rs := by simp

theorem g_setRoot_ne {S : St} {r c t : Nat} {x : Cell} (h : t ≠ r) : St.g (setRoot S r c x) t = S.g t := by
  unfold setRoot
  split <;> first | rfl | (rw [g_set, if_neg (by omega)])

theorem set_get_same (vs : List Value) (t : Nat) {v : Value} (h : vs[t]? = some v) : vs.set t v = vs := by
  apply List.ext_getElem?
  intro i
  rw [List.getElem?_set]
  split
  · rename_i e
    subst e
    have := (List.getElem?_eq_some_iff.1 h).1
    rw [if_pos this, h]
  · rfl

/-- A root's cell is taken out. -/
theorem SR.takeRoot {E S vs w φ bs hand} (hs : SR E S vs w φ bs hand) {r c : Nat} {l : Lev} {p : PV} {v : Value} (hc : rootCell S r c = .val l p) (hv : rootV S vs w r c = some v) :
    ∃ bs' b, SR E (setRoot S r c (weakC (.val l p))) vs w φ bs' (b ++ hand) ∧ CellR E w φ (.val l p) v b ∧ WeakSt S (setRoot S r c (weakC (.val l p))) := by
  have main : ∀ (tv : TV), WTV (S.g r) tv → (∀ u bt, vs[r]? = some u → TVR E w φ (S.g r) u bt → ∃ bt' b, TVR E w φ tv u bt' ∧ CellR E w φ (.val l p) v b ∧ ∀ g, bt'.count g + b.count g = bt.count g) →
      S.g r ≠ .dead → ∃ bs' b, SR E (S.set r tv) vs w φ bs' (b ++ hand) ∧ CellR E w φ (.val l p) v b ∧ WeakSt S (S.set r tv) := by
    intro tv hw hk hd
    obtain ⟨u, hu⟩ := hs.lt hd
    obtain ⟨bt, br, h1, h2, h3⟩ := hs.tvs.get hu
    obtain ⟨bt', b, k1, k2, k3⟩ := hk u bt hu h1
    obtain ⟨bs', m1, m2⟩ := h3 tv u bt' k1
    rw [set_get_same vs r hu] at m1
    have hweak := WeakSt.set_ hw
    have hcount : ∀ g, bs'.count g + b.count g = bs.count g := fun g => by have := h2 g; have := k3 g; have := m2 g; omega
    refine ⟨bs', b, ⟨m1, fun g => ?_, fun g hg => ?_, hs.views.weak hweak, hs.size, hs.same, hs.os⟩, k2, hweak⟩
    · have := hs.cnt g; have := hcount g; simp only [List.count_append]; omega
    · refine hs.own g ?_
      by_cases hb : g ∈ bs
      · exact .inl hb
      · have h0 := count_zero_of hb
        have := hcount g
        rcases hg with hg | hg
        · have := List.count_pos_iff.2 hg; omega
        · rcases List.mem_append.1 hg with hg | hg
          · have := List.count_pos_iff.2 hg; omega
          · exact .inr hg
  unfold rootCell at hc
  unfold rootV at hv
  unfold setRoot
  cases hS : S.g r <;> rw [hS] at hc hv <;> dsimp only at hc hv ⊢
  case one x =>
    split at hc
    · rename_i h0
      subst hc
      refine main _ (by rw [hS]; exact ⟨_, rfl, .inr rfl⟩) (fun u bt hu h => ?_) (by rw [hS]; simp)
      rw [hS] at h
      rw [hu] at hv
      dsimp only at hv
      rw [if_pos h0] at hv
      injection hv with hv
      subst hv
      exact ⟨[], bt, CellR.weak hs h, h, fun g => by simp⟩
    · cases hc
  case agg x =>
    rw [List.getD_eq_getElem?_getD] at hc
    cases hx : x[c]? with
    | none => rw [hx] at hc; cases hc
    | some cc =>
      rw [hx] at hc
      simp only [Option.getD_some] at hc
      subst hc
      refine main _ (by
        rw [hS]
        refine ⟨_, rfl, by simp, fun i a b h1 h2 => ?_⟩
        rw [List.getElem?_set] at h2
        split at h2
        · rename_i e
          subst e
          rw [hx] at h1
          injection h1 with h1
          subst h1
          split at h2
          · injection h2 with h2; subst h2; exact .inr rfl
          · cases h2
        · rw [h1] at h2; injection h2 with h2; subst h2; exact .refl _) (fun u bt hu h => ?_) (by rw [hS]; simp)
      rw [hS] at h
      obtain ⟨arr, rfl, h⟩ := h
      rw [hu] at hv
      dsimp only at hv
      obtain ⟨v', b, br, h1, h2, h3, h4⟩ := h.get hx
      rw [Array.getElem?_toList, hv] at h1
      injection h1 with h1
      subst h1
      obtain ⟨bt', m1, m2⟩ := h4 _ v [] (CellR.weak hs h2)
      rw [set_get_same _ c (by rw [Array.getElem?_toList]; exact hv)] at m1
      exact ⟨bt', b, ⟨arr, rfl, m1⟩, h2, fun g => by have := h3 g; have := m2 g; simp at *; omega⟩
  case box x =>
    rw [List.getD_eq_getElem?_getD] at hc
    cases hx : x[c]? with
    | none => rw [hx] at hc; cases hc
    | some cc =>
      rw [hx] at hc
      simp only [Option.getD_some] at hc
      subst hc
      refine main _ (by
        rw [hS]
        refine ⟨_, rfl, by simp, fun i a b h1 h2 => ?_⟩
        rw [List.getElem?_set] at h2
        split at h2
        · rename_i e
          subst e
          rw [hx] at h1
          injection h1 with h1
          subst h1
          split at h2
          · injection h2 with h2; subst h2; exact .inr rfl
          · cases h2
        · rw [h1] at h2; injection h2 with h2; subst h2; exact .refl _) (fun u bt hu h => ?_) (by rw [hS]; simp)
      rw [hS] at h
      obtain ⟨g, arr, e, b1, rfl, hg, hf, h, rfl⟩ := h
      rw [hu] at hv
      dsimp only at hv
      rw [cell_of_heap hg] at hv
      obtain ⟨v', b, br, h1, h2, h3, h4⟩ := h.get hx
      rw [Array.getElem?_toList, hv] at h1
      injection h1 with h1
      subst h1
      obtain ⟨bt', m1, m2⟩ := h4 _ v [] (CellR.weak hs h2)
      rw [set_get_same _ c (by rw [Array.getElem?_toList]; exact hv)] at m1
      exact ⟨g :: bt', b, ⟨g, arr, e, bt', rfl, hg, hf, m1, rfl⟩, h2, fun g' => by have := h3 g'; have := m2 g'; simp [List.count_cons] at *; omega⟩
  all_goals cases hc

/-- Cells are taken; those of slot n itself (n is no root) are given up afterwards. -/
theorem tCells_sound {E vs w φ rs n} (hn : rs.elem n = false) : ∀ {cs us b S bs hand cs' S'}, SR E S vs w φ bs hand → CellsR E w φ cs us b →
    (∀ (i : Nat) c u, cs[i]? = some c → us[i]? = some u → ViewC S vs w φ c u) → tCells S rs cs = some (cs', S') →
    ∃ bs' bv bc, SR E S' vs w φ bs' (bv ++ hand) ∧ WeakSt S S' ∧ S'.g n = S.g n ∧ CellsR E w φ cs' us bc ∧ (∀ g, bc.count g = b.count g + bv.count g) ∧
      (∀ (i : Nat) c u, cs'[i]? = some c → us[i]? = some u → ViewC S' vs w φ c u) ∧ cs'.length = cs.length := by
  intro cs
  induction cs with
  | nil =>
    intro us b S bs hand cs' S' hs h hv ht
    simp only [tCells, Option.some.injEq, Prod.mk.injEq] at ht
    obtain ⟨rfl, rfl⟩ := ht
    obtain ⟨rfl, rfl⟩ := h
    exact ⟨bs, [], [], hs, .refl _, rfl, ⟨rfl, rfl⟩, fun g => rfl, by simp, rfl⟩
  | cons c cs ih =>
    intro us b S bs hand cs' S' hs h hv ht
    obtain ⟨u, us', b1, b2, rfl, rfl, hc, h⟩ := h
    simp only [tCells] at ht
    cases h1 : tCell S rs c with
    | none => rw [h1] at ht; simp at ht
    | some x =>
      obtain ⟨c1, S1⟩ := x
      rw [h1] at ht
      simp only [Option.bind_some] at ht
      cases h2 : tCells S1 rs cs with
      | none => rw [h2] at ht; simp at ht
      | some y =>
        obtain ⟨cs2, S2⟩ := y
        rw [h2] at ht
        simp only [Option.map_some, Option.some.injEq, Prod.mk.injEq] at ht
        obtain ⟨rfl, rfl⟩ := ht
        have hu := hv 0 c u rfl rfl
        have step : ∃ bs1 bv1 bc1, SR E S1 vs w φ bs1 (bv1 ++ hand) ∧ WeakSt S S1 ∧ S1.g n = S.g n ∧ CellR E w φ c1 u bc1 ∧ (∀ g, bc1.count g = b1.count g + bv1.count g) ∧ ViewC S1 vs w φ c1 u := by
          cases c with
          | dead => simp [tCell] at h1
          | val l p =>
            simp only [tCell, Option.some.injEq, Prod.mk.injEq] at h1
            obtain ⟨rfl, rfl⟩ := h1
            exact ⟨bs, [], b1, hs, .refl _, rfl, hc, fun g => by simp, trivial⟩
          | view r cc path =>
            cases path with
            | cons x path =>
              simp only [tCell, Option.some.injEq, Prod.mk.injEq] at h1
              obtain ⟨rfl, rfl⟩ := h1
              exact ⟨bs, [], b1, hs, .refl _, rfl, hc, fun g => by simp, hu⟩
            | nil =>
              simp only [tCell] at h1
              split at h1
              · rename_i hr
                split at h1
                · rename_i l p hroot
                  simp only [Option.some.injEq, Prod.mk.injEq] at h1
                  obtain ⟨rfl, rfl⟩ := h1
                  obtain ⟨_, k⟩ := hu
                  obtain ⟨_, _, _, v0, k1, k2⟩ := k _ _ hroot
                  simp only [rvPath, Option.some.injEq] at k2
                  subst k2
                  obtain ⟨bs1, b', m1, m2, m3⟩ := hs.takeRoot hroot k1
                  have hb1 : b1 = [] := hc.1
                  subst hb1
                  exact ⟨bs1, b', b', m1, m3, g_setRoot_ne (by rintro rfl; rw [hr] at hn; cases hn), m2, fun g => by simp, trivial⟩
                · simp at h1
              · simp at h1
        obtain ⟨bs1, bv1, bc1, m1, m2, m3, m4, m5, m6⟩ := step
        obtain ⟨bs', bv, bc, q1, q2, q3, q4, q5, q6, q7⟩ := ih m1 h (fun i c u a b => ViewC.weak m2 (hv (i + 1) c u (by simpa using a) (by simpa using b))) h2
        refine ⟨bs', bv ++ bv1, bc1 ++ bc, ?_, m2.trans q2, q3.trans m3, ⟨u, us', bc1, bc, rfl, rfl, m4, q4⟩, fun g => ?_, fun i c u' a b => ?_, by simp [q7]⟩
        · rw [List.append_assoc]; exact q1
        · have := m5 g; have := q5 g; simp only [List.count_append]; omega
        · cases i with
          | zero => simp at a b; subst a; subst b; exact ViewC.weak q2 m6
          | succ i => exact q6 i c u' (by simpa using a) (by simpa using b)

/-- What an operand's value is. -/
def AggR (E : Env) (w : World) (φ : Nat → Nat) (agg : Bool) (cs : List Cell) (v : Value) (us : List Value) (b : List Nat) : Prop :=
  (if agg = true then v = .agg us.toArray else us = [v]) ∧ CellsR E w φ cs us b

def ConstR (p : PV) (v : Value) : Prop := (p.flat = true ∧ v = p.toV) ∨ (∃ sz, p = .sl sz [] ∧ v = .slice none 0 0)

theorem ConstR.own {p v} (h : ConstR p v) (w : World) (φ : Nat → Nat) : OwL w φ [p] [v] [] := by
  rcases h with ⟨h, rfl⟩ | ⟨sz, rfl, rfl⟩
  · cases p <;> first | exact .int .nil | exact .bool .nil | exact .str .nil | simp [PV.flat] at h
  · exact .snil .nil

def OpndR (vs : List Value) (o : AOpnd) (v : Value) : Prop :=
  match o with
  | .t n _ => v = vs.getD n undef
  | .c p => ConstR p v

theorem weakCells {E S vs w φ bs hand} (hs : SR E S vs w φ bs hand) : ∀ {cs us b}, CellsR E w φ cs us b → CellsR E w φ (cs.map weakC) us [] := by
  intro cs
  induction cs with
  | nil => intro us b h; obtain ⟨rfl, rfl⟩ := h; exact ⟨rfl, rfl⟩
  | cons c cs ih =>
    intro us b h
    obtain ⟨u, us', b1, b2, rfl, rfl, hc, h⟩ := h
    refine ⟨u, us', [], [], rfl, rfl, ?_, ih h⟩
    cases c with
    | val l p => exact CellR.weak hs hc
    | view r c path => exact ⟨rfl, hc.2⟩
    | dead => rfl

theorem toList_toArray' (a : Array Value) : a.toList.toArray = a := by simp

theorem OwL.det {w φ ps vs b1} (h : OwL w φ ps vs b1) : ∀ {b2}, OwL w φ ps vs b2 → b2 = b1 := by
  induction h with
  | nil => intro b2 k; cases k; rfl
  | int _ ih => intro b2 k; cases k with | int k => exact ih k
  | bool _ ih => intro b2 k; cases k with | bool k => exact ih k
  | str _ ih => intro b2 k; cases k with | str k => exact ih k
  | snil _ ih => intro b2 k; cases k with | snil k => exact ih k
  | sl a b c d e f _ _ ih1 ih2 =>
    intro b2 k
    cases k with
    | sl a' b' c' d' e' f' k1 k2 =>
      rw [d] at d'
      injection d' with d'
      injection d' with d'
      subst d'
      rw [ih1 k1, ih2 k2]
theorem CellR.det {E w φ c v b1 b2} (h : CellR E w φ c v b1) (k : CellR E w φ c v b2) : b2 = b1 := by
  cases c with
  | view r c p => rw [h.1, k.1]
  | dead => exact k.trans h.symm
  | val l p =>
    cases l with
    | old => rw [h.2, k.2]
    | bor => rw [h.2, k.2]
    | deep => exact OwL.det h k
    | oldR =>
      obtain ⟨sz, xs, rfl, h | ⟨g, n, c, cur, e, rfl, rfl, a, b, hr, d, es, f, hrd⟩⟩ := h <;> obtain ⟨sz', xs', hp', k | ⟨g', n', c', cur', e', hv', rfl, k⟩⟩ := k
      · rw [h.2.2, k.2.2]
      · rw [h.1] at hv'; cases hv'
      · cases k.1
      · cases hv'; rfl
    | borR =>
      obtain ⟨sz, xs, rfl, h | ⟨g, n, c, cur, e, rfl, rfl, a, b, hr, d, es, f, hrd⟩⟩ := h <;> obtain ⟨sz', xs', hp', k | ⟨g', n', c', cur', e', hv', rfl, k⟩⟩ := k
      · rw [h.2.2, k.2.2]
      · rw [h.1] at hv'; cases hv'
      · cases k.1
      · cases hv'; rfl
theorem CellsR.det {E w φ} : ∀ {cs vs b1 b2}, CellsR E w φ cs vs b1 → CellsR E w φ cs vs b2 → b2 = b1 := by
  intro cs
  induction cs with
  | nil => intro vs b1 b2 h k; rw [h.2, k.2]
  | cons c cs ih =>
    intro vs b1 b2 h k
    obtain ⟨u, us, a1, a2, rfl, rfl, hc, h⟩ := h
    obtain ⟨u', us', c1, c2, e, rfl, hc', k⟩ := k
    cases e
    rw [CellR.det hc hc', ih h k]
theorem TupR.det {E w φ} : ∀ {cs vs b1 b2}, TupR E w φ cs vs b1 → TupR E w φ cs vs b2 → b2 = b1 := by
  intro cs
  induction cs with
  | nil => intro vs b1 b2 h k; rw [h.2, k.2]
  | cons c cs ih =>
    intro vs b1 b2 h k
    obtain ⟨u, us, a1, a2, rfl, rfl, hc, h⟩ := h
    obtain ⟨u', us', c1, c2, e, rfl, hc', k⟩ := k
    cases e
    rw [ih h k]
    split at hc <;> rename_i hb
    · rw [if_pos hb] at hc'
      obtain ⟨arr, rfl, hc⟩ := hc
      obtain ⟨arr', e, hc'⟩ := hc'
      cases e
      rw [CellsR.det hc hc']
    · rw [if_neg hb] at hc'
      rw [CellsR.det hc hc']
theorem TVR.det {E w φ tv v b1 b2} (h : TVR E w φ tv v b1) (k : TVR E w φ tv v b2) : b2 = b1 := by
  cases tv with
  | one c => exact CellR.det h k
  | agg cs => obtain ⟨a, rfl, h⟩ := h; obtain ⟨a', e, k⟩ := k; cases e; exact CellsR.det h k
  | box cs =>
    obtain ⟨g, arr, e, b1, rfl, hg, hf, h, rfl⟩ := h
    obtain ⟨g', arr', e', b1', ev, hg', hf', k, rfl⟩ := k
    cases ev
    rw [hg] at hg'
    injection hg' with hg'
    injection hg' with hg'
    subst hg'
    rw [CellsR.det h k]
  | place r c p => exact k.trans h.symm
  | ep l row off => rw [h.1, k.1]
  | tup vs => obtain ⟨a, rfl, h⟩ := h; obtain ⟨a', e, k⟩ := k; cases e; exact TupR.det h k
  | undef => rw [h.1, k.1]
  | dead => exact k.trans h.symm

theorem giveUp {E S vs w φ bs hand rs n v cs cs0 us b0 tvw S1} (hs : SR E S vs w φ bs hand) (hn : rs.elem n = false) (hc : CellsR E w φ cs0 us b0)
    (hview : ∀ (i : Nat) c u, cs0[i]? = some c → us[i]? = some u → ViewC S vs w φ c u) (hn' : vs[n]? = some v) (htv : TVR E w φ (S.g n) v b0) (htw : TVR E w φ tvw v [])
    (hw : WTV (S.g n) tvw) (ht : tCells S rs cs0 = some (cs, S1)) :
    ∃ bs' bc, SR E (S1.set n tvw) vs w φ bs' (bc ++ hand) ∧ WeakSt S (S1.set n tvw) ∧ CellsR E w φ cs us bc ∧ (∀ (i : Nat) c u, cs[i]? = some c → us[i]? = some u → ViewC (S1.set n tvw) vs w φ c u) := by
  obtain ⟨bs1, bv, bc, m1, m2, m3, m4, m5, m6, m7⟩ := tCells_sound hn hs hc hview ht
  obtain ⟨bt, br, k1, k2, k3⟩ := m1.tvs.get hn'
  rw [m3] at k1
  have hbt : bt = b0 := TVR.det htv k1
  subst hbt
  obtain ⟨bs', q1, q2⟩ := k3 tvw v [] htw
  rw [set_get_same vs n hn'] at q1
  have hw1 : WeakSt S1 (S1.set n tvw) := .set_ (by rw [m3]; exact hw)
  have hcount : ∀ g, bs'.count g + bc.count g = bs1.count g + bv.count g := fun g => by
    have := k2 g; have := q2 g; have := m5 g; simp at *; omega
  refine ⟨bs', bc, ⟨q1, fun g => ?_, fun g hg => ?_, m1.views.weak hw1, hs.size, hs.same, hs.os⟩, m2.trans hw1, m4, fun i c u a b => ViewC.weak hw1 (m6 i c u a b)⟩
  · have := m1.cnt g; have := hcount g; simp only [List.count_append] at *; omega
  · refine m1.own g ?_
    have := hcount g
    rw [List.mem_append] at hg ⊢
    by_cases hb : g ∈ bs1
    · exact .inl hb
    by_cases hb2 : g ∈ bv
    · exact .inr (.inl hb2)
    have h0 := count_zero_of hb
    have h1 := count_zero_of hb2
    rcases hg with hg | hg | hg
    · have := List.count_pos_iff.2 hg; omega
    · have := List.count_pos_iff.2 hg; omega
    · exact .inr (.inr hg)

theorem tAny_sound {E S vs w φ bs hand o v agg cs S'} (hs : SR E S vs w φ bs hand) (hv : OpndR vs o v) (h : tAny S o = some (agg, cs, S')) :
    ∃ bs' bc us, SR E S' vs w φ bs' (bc ++ hand) ∧ WeakSt S S' ∧ AggR E w φ agg cs v us bc ∧ (∀ (i : Nat) c u, cs[i]? = some c → us[i]? = some u → ViewC S' vs w φ c u) := by
  cases o with
  | c p =>
    simp only [tAny, Option.some.injEq, Prod.mk.injEq] at h
    obtain ⟨rfl, rfl, rfl⟩ := h
    refine ⟨bs, [], [v], hs, .refl _, ⟨rfl, v, [], [], [], rfl, rfl, ConstR.own hv w φ, rfl, rfl⟩, fun i c u a b => ?_⟩
    cases i <;> simp at a
    subst a; trivial
  | t n rs =>
    simp only [tAny] at h
    split at h
    · cases h
    rename_i hn
    have hn : rs.elem n = false := by simpa using hn
    cases hS : S.g n <;> rw [hS] at h <;> dsimp only at h
    case one c =>
      obtain ⟨u, hu⟩ := hs.lt (t := n) (by rw [hS]; simp)
      have hvu : v = u := by have : v = vs.getD n undef := hv; rw [this, List.getD_eq_getElem?_getD, hu]; rfl
      subst hvu
      obtain ⟨b0, hb0, hview⟩ := hs.slot hu
      rw [hS] at hb0 hview
      cases ht : tCells S rs [c] with
      | none => rw [ht] at h; simp at h
      | some x =>
        obtain ⟨cs1, S1⟩ := x
        rw [ht] at h
        simp only [Option.map_some, Option.some.injEq, Prod.mk.injEq] at h
        obtain ⟨rfl, rfl, rfl⟩ := h
        have hcs : CellsR E w φ [c] [v] b0 := ⟨v, [], b0, [], rfl, by simp, hb0, rfl, rfl⟩
        obtain ⟨bs', bc, q1, q2, q3, q4⟩ := giveUp hs hn (cs0 := [c]) (tvw := .one (weakC c)) hcs (fun i c' u' a b => by
          cases i <;> simp at a b
          subst a; subst b; exact hview) hu (by rw [hS]; exact hb0) (by
          obtain ⟨v', _, b1, b2, e1, e2, k, _⟩ := weakCells hs hcs
          simp at e1 e2
          obtain ⟨rfl, _⟩ := e1
          obtain ⟨rfl, _⟩ := e2
          exact k) (by rw [hS]; exact ⟨_, rfl, .inr rfl⟩) ht
        exact ⟨bs', bc, [v], q1, q2, ⟨rfl, q3⟩, q4⟩
    case agg cs0 =>
      obtain ⟨u, hu⟩ := hs.lt (t := n) (by rw [hS]; simp)
      have hvu : v = u := by have : v = vs.getD n undef := hv; rw [this, List.getD_eq_getElem?_getD, hu]; rfl
      subst hvu
      obtain ⟨b0, hb0, hview⟩ := hs.slot hu
      rw [hS] at hb0 hview
      obtain ⟨arr, rfl, hcs⟩ := hb0
      cases ht : tCells S rs cs0 with
      | none => rw [ht] at h; simp at h
      | some x =>
        obtain ⟨cs1, S1⟩ := x
        rw [ht] at h
        simp only [Option.map_some, Option.some.injEq, Prod.mk.injEq] at h
        obtain ⟨rfl, rfl, rfl⟩ := h
        obtain ⟨bs', bc, q1, q2, q3, q4⟩ := giveUp hs hn (cs0 := cs0) (tvw := .agg (cs0.map weakC)) hcs (fun i c' u' a b => hview arr rfl i c' u' a (by rw [← b, Array.getElem?_toList])) hu (by rw [hS]; exact ⟨arr, rfl, hcs⟩) ⟨arr, rfl, weakCells hs hcs⟩ (by
          rw [hS]
          refine ⟨_, rfl, by simp, fun i c c' a b => ?_⟩
          rw [List.getElem?_map, a] at b
          injection b with b
          exact .inr b.symm) ht
        exact ⟨bs', bc, arr.toList, q1, q2, ⟨by simp, q3⟩, q4⟩
    all_goals cases h

end Go.Proofs.Ytkiliooegoldoaa
