/- Reading and taking. -/
import Derived.Test.YtkiliooegoldoaaRel2
set_option linter.unusedVariables false
set_option linter.unusedSimpArgs false
namespace Go.Proofs.Ytkiliooegoldoaa
open Go

theorem SR.hO {E S vs w φ bs hand} (h : SR E S vs w φ bs hand) : ∀ g k u, E.okO g k → w.cell? ⟨g, k, none⟩ = some u → okB φ g k :=
  fun g k u ⟨h1, h2, h3⟩ _ => by unfold okB; rw [(h.same g h1 h2).2]; exact h3

theorem count_zero_of {g : Nat} {l : List Nat} (h : g ∉ l) : l.count g = 0 := List.count_eq_zero.2 h
theorem mem_of_count {g : Nat} {l : List Nat} (h : 0 < l.count g) : g ∈ l := List.count_pos_iff.1 h

/-! ### A state some of whose cells are no longer owned -/
def WC (c c' : Cell) : Prop := c' = c ∨ c' = weakC c
def WTV : TV → TV → Prop
  | .one c, tv' => ∃ c', tv' = .one c' ∧ WC c c'
  | .agg cs, tv' => ∃ cs', tv' = .agg cs' ∧ cs'.length = cs.length ∧ ∀ (i : Nat) c c', cs[i]? = some c → cs'[i]? = some c' → WC c c'
  | .box cs, tv' => ∃ cs', tv' = .box cs' ∧ cs'.length = cs.length ∧ ∀ (i : Nat) c c', cs[i]? = some c → cs'[i]? = some c' → WC c c'
  | tv, tv' => tv' = tv
def WeakSt (S S' : St) : Prop := S'.length = S.length ∧ ∀ t, WTV (S.g t) (S'.g t)

theorem borL_idem (l : Lev) (p : PV) : borL (borL l p) p = borL l p := by
  unfold borL; split <;> cases l <;> rfl
theorem weakC_idem (c : Cell) : weakC (weakC c) = weakC c := by
  cases c <;> simp [weakC, borL_idem]
theorem WC.refl (c : Cell) : WC c c := .inl rfl
theorem WC.trans {a b c : Cell} (h : WC a b) (k : WC b c) : WC a c := by
  rcases h with rfl | rfl
  · exact k
  · rcases k with rfl | rfl
    · exact .inr rfl
    · exact .inr (weakC_idem a)
theorem WTV.refl (tv : TV) : WTV tv tv := by
  cases tv <;> simp only [WTV]
  · exact ⟨_, rfl, .refl _⟩
  · exact ⟨_, rfl, rfl, fun i c c' h h' => by rw [h] at h'; injection h' with h'; subst h'; exact .refl _⟩
  · exact ⟨_, rfl, rfl, fun i c c' h h' => by rw [h] at h'; injection h' with h'; subst h'; exact .refl _⟩
theorem get_of_length {α β : Type} {l : List α} {l' : List β} (h : l'.length = l.length) {i : Nat} {c : α} (hc : l[i]? = some c) : ∃ c', l'[i]? = some c' := by
  have := (List.getElem?_eq_some_iff.1 hc).1
  exact ⟨l'[i], List.getElem?_eq_getElem (by omega)⟩
theorem WTV.trans {a b c : TV} (h : WTV a b) (k : WTV b c) : WTV a c := by
  cases a <;> simp only [WTV] at h ⊢
  case one x =>
    obtain ⟨c1, rfl, h⟩ := h
    obtain ⟨c2, rfl, k⟩ := k
    exact ⟨c2, rfl, h.trans k⟩
  case agg x =>
    obtain ⟨c1, rfl, hl, h⟩ := h
    obtain ⟨c2, rfl, kl, k⟩ := k
    refine ⟨c2, rfl, kl.trans hl, fun i u u' e e' => ?_⟩
    obtain ⟨m, hm⟩ := get_of_length hl e
    exact (h i u m e hm).trans (k i m u' hm e')
  case box x =>
    obtain ⟨c1, rfl, hl, h⟩ := h
    obtain ⟨c2, rfl, kl, k⟩ := k
    refine ⟨c2, rfl, kl.trans hl, fun i u u' e e' => ?_⟩
    obtain ⟨m, hm⟩ := get_of_length hl e
    exact (h i u m e hm).trans (k i m u' hm e')
  all_goals (subst h; exact k)
theorem WeakSt.refl (S : St) : WeakSt S S := ⟨rfl, fun _ => .refl _⟩
theorem WeakSt.trans {a b c : St} (h : WeakSt a b) (k : WeakSt b c) : WeakSt a c := ⟨k.1.trans h.1, fun t => (h.2 t).trans (k.2 t)⟩

theorem g_set (S : St) (d t : Nat) (v : TV) : St.g (S.set d v) t = if t = d ∧ d < S.length then v else S.g t := by
  unfold St.g
  rw [List.getD_eq_getElem?_getD, List.getD_eq_getElem?_getD, List.getElem?_set]
  by_cases h : d = t
  · subst h
    by_cases hl : d < S.length
    · simp [hl]
    · simp [hl]
  · simp [h, Ne.symm h]

theorem WeakSt.set_ {S : St} {t : Nat} {tv : TV} (h : WTV (S.g t) tv) : WeakSt S (S.set t tv) := by
  refine ⟨by simp, fun u => ?_⟩
  rw [g_set]
  split <;> rename_i hu
  · rw [hu.1]; exact h
  · exact .refl _

theorem WC.rootish {c c' : Cell} (h : WC c c') : rootishC c' = rootishC c := by
  rcases h with rfl | rfl
  · rfl
  · cases c <;> rfl
theorem any_of_len {cs cs' : List Cell} (hl : cs'.length = cs.length) (h : ∀ (i : Nat) c c', cs[i]? = some c → cs'[i]? = some c' → WC c c') : cs'.any rootishC = cs.any rootishC := by
  induction cs generalizing cs' with
  | nil => cases cs' <;> simp_all
  | cons c cs ih =>
    cases cs' with
    | nil => simp at hl
    | cons c' cs' =>
      have h0 := (h 0 c c' rfl rfl).rootish
      have := @ih cs' (by simpa using hl) (fun i a b ha hb => h (i + 1) a b (by simpa using ha) (by simpa using hb))
      simp [h0, this]
theorem WTV.rootish {a b : TV} (h : WTV a b) : rootish b = rootish a := by
  cases a <;> simp only [WTV] at h
  case one x => obtain ⟨c, rfl, h⟩ := h; exact h.rootish
  case agg x => obtain ⟨c, rfl, hl, h⟩ := h; exact any_of_len hl h
  case box x => obtain ⟨c, rfl, hl, h⟩ := h; rfl
  all_goals (subst h; rfl)

theorem WeakSt.rootCell {S S' : St} (h : WeakSt S S') (r c : Nat) : WC (rootCell S r c) (rootCell S' r c) := by
  have hr := h.2 r
  unfold Ytkiliooegoldoaa.rootCell
  cases hS : S.g r <;> rw [hS] at hr <;> simp only [WTV] at hr
  case one x =>
    obtain ⟨c', h', hw⟩ := hr
    rw [h']
    dsimp only
    split
    · exact hw
    · exact .refl _
  case agg x =>
    obtain ⟨c', h', hl, hw⟩ := hr
    rw [h']
    simp only [List.getD_eq_getElem?_getD]
    cases hx : x[c]? with
    | none => rw [List.getElem?_eq_none (by have := List.getElem?_eq_none_iff.1 hx; omega)]; exact .refl _
    | some u => obtain ⟨u', hu'⟩ := get_of_length hl hx; rw [hu']; exact hw c u u' hx hu'
  case box x =>
    obtain ⟨c', h', hl, hw⟩ := hr
    rw [h']
    simp only [List.getD_eq_getElem?_getD]
    cases hx : x[c]? with
    | none => rw [List.getElem?_eq_none (by have := List.getElem?_eq_none_iff.1 hx; omega)]; exact .refl _
    | some u => obtain ⟨u', hu'⟩ := get_of_length hl hx; rw [hu']; exact hw c u u' hx hu'
  all_goals (rw [hr]; exact .refl _)

theorem WeakSt.rootV {S S' : St} (h : WeakSt S S') (vs : List Value) (w : World) (r c : Nat) : rootV S' vs w r c = rootV S vs w r c := by
  have hr := h.2 r
  unfold Ytkiliooegoldoaa.rootV
  cases hS : S.g r <;> rw [hS] at hr <;> simp only [WTV] at hr
  case one x => obtain ⟨c', h', hw⟩ := hr; rw [h']; cases vs[r]? <;> rfl
  case agg x => obtain ⟨c', h', hl, hw⟩ := hr; rw [h']; cases vs[r]? with
    | none => rfl
    | some v => cases v <;> rfl
  case box x => obtain ⟨c', h', hl, hw⟩ := hr; rw [h']; cases vs[r]? with
    | none => rfl
    | some v => cases v <;> first | rfl | (rename_i a; cases a <;> rfl)
  all_goals (rw [hr])

theorem weak_root {S S' : St} (h : WeakSt S S') {r c : Nat} {l : Lev} {p : PV} (hc : rootCell S' r c = .val l p) :
    ∃ l0, rootCell S r c = .val l0 p ∧ (p.flat = false → inner l0 → inner l) := by
  rcases h.rootCell r c with e | e
  · exact ⟨l, by rw [← e, hc], fun _ k => k⟩
  · cases hS : rootCell S r c with
    | val l0 p0 =>
      rw [hS, hc] at e
      simp only [weakC, Cell.val.injEq] at e
      obtain ⟨rfl, rfl⟩ := e
      refine ⟨l0, rfl, fun hf k => ?_⟩
      rcases k with rfl | rfl | rfl <;> simp [borL, hf, inner]
    | view a b d => rw [hS, hc] at e; simp [weakC] at e
    | dead => rw [hS, hc] at e; simp [weakC] at e

theorem ViewC.weak {S S' : St} (h : WeakSt S S') {vs w φ c v} (k : ViewC S vs w φ c v) : ViewC S' vs w φ c v := by
  cases c with
  | val l p => trivial
  | dead => trivial
  | view r c path =>
    obtain ⟨k1, k2⟩ := k
    refine ⟨(h.2 r).rootish.trans k1, fun l p hc => ?_⟩
    obtain ⟨l0, h0, hi⟩ := weak_root h hc
    obtain ⟨a, b, d, v0, e, f⟩ := k2 l0 p h0
    exact ⟨a, fun hp => hi a (b hp), d, v0, by rw [h.rootV]; exact e, f⟩

theorem PlaceR.weak {S S' : St} (h : WeakSt S S') {vs w φ r c path v} (k : PlaceR S vs w φ r c path v) : PlaceR S' vs w φ r c path v := by
  rcases k with ⟨rfl, cs, g, hS, hv, rfl⟩ | ⟨pre, s, i, j, rfl, k1, k2⟩
  · have hr := h.2 r
    rw [hS] at hr
    obtain ⟨cs', h', _⟩ := hr
    exact .inl ⟨rfl, cs', g, h', hv, rfl⟩
  · refine .inr ⟨pre, s, i, j, rfl, (h.2 r).rootish.trans k1, fun l p hc => ?_⟩
    obtain ⟨l0, h0, hi⟩ := weak_root h hc
    obtain ⟨a, b, d, v0, g, o, n, cap, e, f, f'⟩ := k2 l0 p h0
    exact ⟨a, fun hp => hi a (b hp), d, v0, g, o, n, cap, by rw [h.rootV]; exact e, f, f'⟩

theorem WC.view {c c' : Cell} (h : WC c c') {S : St} {vs w φ v} (k : ViewC S vs w φ c v) : ViewC S vs w φ c' v := by
  rcases h with rfl | rfl
  · exact k
  · cases c <;> first | trivial | exact k

theorem ViewTV.weak {S S' : St} (h : WeakSt S S') {vs w φ tv tv' v} (ht : WTV tv tv') (k : ViewTV S vs w φ tv v) : ViewTV S' vs w φ tv' v := by
  cases tv <;> simp only [WTV] at ht
  case one c => obtain ⟨c', rfl, hc⟩ := ht; exact hc.view (ViewC.weak h k)
  case agg cs =>
    obtain ⟨cs', rfl, hl, hc⟩ := ht
    intro arr hv i c u h1 h2
    obtain ⟨c0, h0⟩ := get_of_length hl.symm h1
    exact (hc i c0 c h0 h1).view (ViewC.weak h (k arr hv i c0 u h0 h2))
  case box cs =>
    obtain ⟨cs', rfl, hl, hc⟩ := ht
    intro a arr e fr hv hh i c u h1 h2
    obtain ⟨c0, h0⟩ := get_of_length hl.symm h1
    exact (hc i c0 c h0 h1).view (ViewC.weak h (k a arr e fr hv hh i c0 u h0 h2))
  case place r c path => subst ht; exact PlaceR.weak h k
  all_goals (subst ht; exact k)

theorem ViewsOK.weak {S S' : St} (h : WeakSt S S') {vs w φ} (k : ViewsOK S vs w φ) : ViewsOK S' vs w φ :=
  fun t v hv => ViewTV.weak h (h.2 t) (k t v hv)

/-! ### Reading -/
theorem CellR.weak {E S vs w φ bs hand} (hs : SR E S vs w φ bs hand) {l p v b} (h : CellR E w φ (.val l p) v b) : CellR E w φ (.val (borL l p) p) v [] := by
  unfold borL
  split <;> rename_i hf
  · exact ((CellR.reads hs.hO h).flat_ hf w (okB φ) φ).2
  · cases l <;> dsimp only
    · exact ⟨h.1, rfl⟩
    all_goals exact ⟨CellR.reads hs.hO h, rfl⟩

theorem CellR.bor {E S vs w φ bs hand} (hs : SR E S vs w φ bs hand) {q v} (h : RdL w (okB φ) [q] [v]) : CellR E w φ (.val (borL .bor q) q) v [] := by
  unfold borL
  split <;> rename_i hf
  · exact (h.flat_ hf w (okB φ) φ).2
  · exact ⟨h, rfl⟩

theorem SR.slot {E S vs w φ bs hand} (hs : SR E S vs w φ bs hand) {t : Nat} {v : Value} (hv : vs[t]? = some v) : ∃ bt, TVR E w φ (S.g t) v bt ∧ ViewTV S vs w φ (S.g t) v := by
  obtain ⟨bt, br, h, _⟩ := hs.tvs.get hv
  exact ⟨bt, h, hs.views t v hv⟩

theorem SR.lt {E S vs w φ bs hand} (hs : SR E S vs w φ bs hand) {t : Nat} (h : S.g t ≠ .dead) : ∃ v, vs[t]? = some v := by
  have hl := hs.tvs.length
  by_cases ht : t < S.length
  · exact ⟨vs[t], List.getElem?_eq_getElem (by omega)⟩
  · exact absurd (by unfold St.g; rw [List.getD_eq_getElem?_getD, List.getElem?_eq_none (by omega)]; rfl) h

/-- The real value at a root's cell reads as the cell says. -/
theorem SR.root {E S vs w φ bs hand} (hs : SR E S vs w φ bs hand) {r c : Nat} {l : Lev} {p : PV} {v : Value} (hc : rootCell S r c = .val l p) (hv : rootV S vs w r c = some v) :
    ∃ b, CellR E w φ (.val l p) v b := by
  unfold rootCell at hc
  unfold rootV at hv
  cases hS : S.g r <;> rw [hS] at hc hv <;> dsimp only at hc hv
  case one x =>
    obtain ⟨u, hu⟩ := hs.lt (t := r) (by rw [hS]; simp)
    obtain ⟨bt, h, _⟩ := hs.slot hu
    rw [hS] at h
    rw [hu] at hv
    dsimp only at hv
    split at hc
    · rename_i h0
      rw [if_pos h0] at hv
      injection hv with hv
      subst hv; subst hc
      exact ⟨bt, h⟩
    · cases hc
  case agg x =>
    obtain ⟨u, hu⟩ := hs.lt (t := r) (by rw [hS]; simp)
    obtain ⟨bt, h, _⟩ := hs.slot hu
    rw [hS] at h
    obtain ⟨arr, rfl, h⟩ := h
    rw [hu] at hv
    dsimp only at hv
    rw [List.getD_eq_getElem?_getD] at hc
    cases hx : x[c]? with
    | none => rw [hx] at hc; cases hc
    | some cc =>
      rw [hx] at hc
      simp only [Option.getD_some] at hc
      subst hc
      obtain ⟨v', b, br, h1, h2, _⟩ := h.get hx
      rw [Array.getElem?_toList, hv] at h1
      injection h1 with h1
      subst h1
      exact ⟨b, h2⟩
  case box x =>
    obtain ⟨u, hu⟩ := hs.lt (t := r) (by rw [hS]; simp)
    obtain ⟨bt, h, _⟩ := hs.slot hu
    rw [hS] at h
    obtain ⟨g, arr, e, b1, rfl, hg, hf, h, rfl⟩ := h
    rw [hu] at hv
    dsimp only at hv
    rw [cell_of_heap hg] at hv
    rw [List.getD_eq_getElem?_getD] at hc
    cases hx : x[c]? with
    | none => rw [hx] at hc; cases hc
    | some cc =>
      rw [hx] at hc
      simp only [Option.getD_some] at hc
      subst hc
      obtain ⟨v', b, br, h1, h2, _⟩ := h.get hx
      rw [Array.getElem?_toList, hv] at h1
      injection h1 with h1
      subst h1
      exact ⟨b, h2⟩
  all_goals cases hc

theorem bCell_sound {E S vs w φ bs hand rs c v b l p} (hs : SR E S vs w φ bs hand) (hc : CellR E w φ c v b) (hv : ViewC S vs w φ c v) (h : bCell S rs c = some (l, p)) :
    CellR E w φ (.val l p) v [] := by
  cases c with
  | val l0 p0 =>
    simp only [bCell, Option.some.injEq, Prod.mk.injEq] at h
    obtain ⟨rfl, rfl⟩ := h
    exact CellR.weak hs hc
  | dead => simp [bCell] at h
  | view r c path =>
    simp only [bCell] at h
    split at h
    · split at h
      · rename_i l0 p0 hr
        obtain ⟨_, k⟩ := hv
        obtain ⟨_, _, _, v0, k1, k2⟩ := k _ _ hr
        obtain ⟨b0, hb0⟩ := hs.root hr k1
        cases hq : pget p0 path with
        | none => rw [hq] at h; simp at h
        | some q =>
          rw [hq] at h
          simp only [Option.map_some, Option.some.injEq, Prod.mk.injEq] at h
          obtain ⟨rfl, rfl⟩ := h
          exact CellR.bor hs ((CellR.reads hs.hO hb0).pget hq k2)
      · simp at h
    · simp at h

theorem bCells_sound {E S vs w φ bs hand rs} (hs : SR E S vs w φ bs hand) : ∀ {cs us b l}, CellsR E w φ cs us b → (∀ (i : Nat) c u, cs[i]? = some c → us[i]? = some u → ViewC S vs w φ c u) →
    bCells S rs cs = some l → CellsR E w φ (l.map valCell) us [] := by
  intro cs
  induction cs with
  | nil => intro us b l h _ hl; simp only [bCells, Option.some.injEq] at hl; subst hl; obtain ⟨rfl, _⟩ := h; exact ⟨rfl, rfl⟩
  | cons c cs ih =>
    intro us b l h hv hl
    obtain ⟨u, us', b1, b2, rfl, rfl, hc, h⟩ := h
    simp only [bCells] at hl
    cases h1 : bCell S rs c with
    | none => rw [h1] at hl; simp at hl
    | some x =>
      rw [h1] at hl
      simp only [Option.bind_some] at hl
      cases h2 : bCells S rs cs with
      | none => rw [h2] at hl; simp at hl
      | some l' =>
        rw [h2] at hl
        simp only [Option.map_some, Option.some.injEq] at hl
        subst hl
        exact ⟨u, us', [], [], rfl, rfl, bCell_sound hs hc (hv 0 c u rfl rfl) h1, ih h (fun i c u a b => hv (i + 1) c u (by simpa using a) (by simpa using b)) h2⟩

end Go.Proofs.Ytkiliooegoldoaa
