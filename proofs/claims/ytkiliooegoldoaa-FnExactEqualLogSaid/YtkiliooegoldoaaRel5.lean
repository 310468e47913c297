/- A slot is written; the world grows. -/
import Derived.Test.YtkiliooegoldoaaRel4
set_option linter.unusedVariables false
set_option linter.unusedSimpArgs false
namespace Go.Proofs.Ytkiliooegoldoaa
open Go

/-! ### Views are struck -/
def Strikes (f : Cell → Cell) : Prop := ∀ c, f c = c ∨ (∃ r cc path, c = .view r cc path) ∧ f c = .dead

theorem strikes_root (r : Nat) : Strikes (killRootC r) := by
  intro c
  cases c with
  | val l p => exact .inl rfl
  | dead => exact .inl rfl
  | view r' c path =>
    by_cases h : r' = r
    · exact .inr ⟨⟨_, _, _, rfl⟩, by simp [killRootC, h]⟩
    · exact .inl (by simp [killRootC, h])
theorem strikes_box (r c n : Nat) : Strikes (killBoxC r c n) := by
  intro x
  cases x with
  | val l p => exact .inl rfl
  | dead => exact .inl rfl
  | view r' c' path =>
    by_cases h : r' = r ∧ c ≤ c' ∧ c' < c + n
    · exact .inr ⟨⟨_, _, _, rfl⟩, by simp [killBoxC, h]⟩
    · exact .inl (by simp [killBoxC, h])

theorem g_map {S : St} {F : TV → TV} (h : F .dead = .dead) (t : Nat) : St.g (S.map F) t = F (S.g t) := by
  unfold St.g
  rw [List.getD_eq_getElem?_getD, List.getD_eq_getElem?_getD, List.getElem?_map]
  cases S[t]? with
  | none => simp [h]
  | some v => rfl

theorem Strikes.val {f : Cell → Cell} (hf : Strikes f) (l : Lev) (p : PV) : f (.val l p) = .val l p := by
  rcases hf (.val l p) with h | ⟨⟨r, c, path, h⟩, _⟩
  · exact h
  · cases h
theorem Strikes.dead {f : Cell → Cell} (hf : Strikes f) : f .dead = .dead := by
  rcases hf .dead with h | ⟨⟨r, c, path, h⟩, _⟩
  · exact h
  · cases h
theorem Strikes.cell {f : Cell → Cell} (hf : Strikes f) {E w φ c v b} (h : CellR E w φ c v b) : CellR E w φ (f c) v b := by
  rcases hf c with e | ⟨⟨r, cc, path, rfl⟩, e⟩
  · rw [e]; exact h
  · rw [e]; exact h.1
theorem Strikes.cells {f : Cell → Cell} (hf : Strikes f) {E w φ} : ∀ {cs vs b}, CellsR E w φ cs vs b → CellsR E w φ (cs.map f) vs b := by
  intro cs
  induction cs with
  | nil => intro vs b h; exact h
  | cons c cs ih =>
    intro vs b h
    obtain ⟨u, us, a1, a2, rfl, rfl, hc, h⟩ := h
    exact ⟨u, us, a1, a2, rfl, rfl, hf.cell hc, ih h⟩
theorem Strikes.tup {f : Cell → Cell} (hf : Strikes f) {E w φ} : ∀ {cs vs b}, TupR E w φ cs vs b → TupR E w φ (cs.map fun x => (x.1, x.2.map f)) vs b := by
  intro cs
  induction cs with
  | nil => intro vs b h; exact h
  | cons c cs ih =>
    intro vs b h
    obtain ⟨u, us, a1, a2, rfl, rfl, hc, h⟩ := h
    refine ⟨u, us, a1, a2, rfl, rfl, ?_, ih h⟩
    dsimp only
    split at hc <;> rename_i hb
    · obtain ⟨arr, rfl, hc⟩ := hc
      rw [if_pos hb]
      exact ⟨arr, rfl, hf.cells hc⟩
    · rw [if_neg hb]
      exact hf.cells hc
theorem Strikes.tv {f : Cell → Cell} (hf : Strikes f) {E w φ h tv v b} (k : TVR E w φ tv v b) : TVR E w φ (mapTV f h false tv) v b := by
  cases tv with
  | one c => exact hf.cell k
  | agg cs => obtain ⟨arr, rfl, k⟩ := k; exact ⟨arr, rfl, hf.cells k⟩
  | box cs => obtain ⟨g, arr, e, b1, rfl, hg, hfi, k, rfl⟩ := k; exact ⟨g, arr, e, b1, rfl, hg, hfi, hf.cells k, rfl⟩
  | place r c path => simp only [mapTV]; split <;> exact k
  | ep l row off => exact k
  | tup vs => obtain ⟨arr, rfl, k⟩ := k; exact ⟨arr, rfl, hf.tup k⟩
  | undef => exact k
  | dead => exact k
theorem Strikes.tvs {f : Cell → Cell} (hf : Strikes f) {E w φ h} : ∀ {S : St} {vs b}, TVsR E w φ S vs b → TVsR E w φ (S.map (mapTV f h false)) vs b := by
  intro S
  induction S with
  | nil => intro vs b k; exact k
  | cons c cs ih =>
    intro vs b k
    obtain ⟨u, us, a1, a2, rfl, rfl, hc, k⟩ := k
    exact ⟨u, us, a1, a2, rfl, rfl, hf.tv hc, ih k⟩

theorem Strikes.rootishC {f : Cell → Cell} (hf : Strikes f) {c : Cell} (h : rootishC c = true) : Ytkiliooegoldoaa.rootishC (f c) = true := by
  rcases hf c with e | ⟨⟨r, cc, path, rfl⟩, e⟩
  · rw [e]; exact h
  · simp [Ytkiliooegoldoaa.rootishC] at h
theorem Strikes.rootish {f : Cell → Cell} (hf : Strikes f) {h tv} (k : rootish tv = true) : Ytkiliooegoldoaa.rootish (mapTV f h false tv) = true := by
  cases tv with
  | one c => exact hf.rootishC k
  | agg cs =>
    simp only [mapTV, Ytkiliooegoldoaa.rootish, List.any_eq_true, List.mem_map] at k ⊢
    obtain ⟨c, hc, k⟩ := k
    exact ⟨f c, ⟨c, hc, rfl⟩, hf.rootishC k⟩
  | box cs => rfl
  | _ => simp [Ytkiliooegoldoaa.rootish] at k
theorem Strikes.rootCell {f : Cell → Cell} (hf : Strikes f) {h} {S : St} {r c l p} (k : rootCell (S.map (mapTV f h false)) r c = .val l p) : rootCell S r c = .val l p := by
  have inv : ∀ c, f c = .val l p → c = .val l p := by
    intro c e
    rcases hf c with e' | ⟨_, e'⟩
    · rw [← e', e]
    · rw [e'] at e; cases e
  unfold Ytkiliooegoldoaa.rootCell at k ⊢
  rw [g_map rfl] at k
  cases hS : S.g r <;> rw [hS] at k <;> simp only [mapTV] at k ⊢
  case one x => split at k <;> first | (rename_i h0; rw [if_pos h0]; exact inv _ k) | cases k
  case agg cs =>
    rw [List.getD_eq_getElem?_getD, List.getElem?_map] at k
    rw [List.getD_eq_getElem?_getD]
    cases hc : cs[c]? with
    | none => rw [hc] at k; cases k
    | some x => rw [hc] at k; exact inv x k
  case box cs =>
    rw [List.getD_eq_getElem?_getD, List.getElem?_map] at k
    rw [List.getD_eq_getElem?_getD]
    cases hc : cs[c]? with
    | none => rw [hc] at k; cases k
    | some x => rw [hc] at k; exact inv x k
  case place r' c' path => by_cases hh : h r' c' path = true <;> simp [hh] at k
  all_goals cases k
theorem rootV_map {f : Cell → Cell} {h b} {S : St} {vs w r c} : rootV (S.map (mapTV f h b)) vs w r c = rootV S vs w r c := by
  unfold rootV
  rw [g_map rfl]
  cases S.g r <;> simp only [mapTV]
  case one c => cases vs[r]? <;> rfl
  case agg c => cases vs[r]? with
    | none => rfl
    | some v => cases v <;> rfl
  case box c => cases vs[r]? with
    | none => rfl
    | some v => cases v <;> first | rfl | (rename_i a; cases a <;> rfl)
  case place r' c' path => by_cases hh : h r' c' path = true <;> simp [hh]
  case ep l row off => by_cases hh : (b && (l != Lev.old)) = true <;> simp [hh]

theorem Strikes.viewC {f : Cell → Cell} (hf : Strikes f) {h S vs w φ c v} (k : ViewC S vs w φ c v) : ViewC (S.map (mapTV f h false)) vs w φ c v := by
  cases c with
  | val l p => trivial
  | dead => trivial
  | view r c path =>
    refine ⟨by rw [g_map rfl]; exact hf.rootish k.1, fun l p hc => ?_⟩
    obtain ⟨a, b, d, v0, e, e'⟩ := k.2 l p (hf.rootCell hc)
    exact ⟨a, b, d, v0, by rw [rootV_map]; exact e, e'⟩
theorem Strikes.viewF {f : Cell → Cell} (hf : Strikes f) {S vs w φ c v} (k : ViewC S vs w φ c v) : ViewC S vs w φ (f c) v := by
  rcases hf c with e | ⟨_, e⟩
  · rw [e]; exact k
  · rw [e]; trivial
theorem Strikes.place {f : Cell → Cell} (hf : Strikes f) {h S vs w φ r c path v} (k : PlaceR S vs w φ r c path v) : PlaceR (S.map (mapTV f h false)) vs w φ r c path v := by
  rcases k with ⟨rfl, cs, g, hS, hv, rfl⟩ | ⟨pre, s, i, j, rfl, k1, k2⟩
  · exact .inl ⟨rfl, cs.map f, g, by rw [g_map rfl, hS]; rfl, hv, rfl⟩
  · refine .inr ⟨pre, s, i, j, rfl, by rw [g_map rfl]; exact hf.rootish k1, fun l p hc => ?_⟩
    obtain ⟨a, b, d, v0, g, o, n, cap, e, e'⟩ := k2 l p (hf.rootCell hc)
    exact ⟨a, b, d, v0, g, o, n, cap, by rw [rootV_map]; exact e, e'⟩
theorem Strikes.viewTV {f : Cell → Cell} (hf : Strikes f) {h h' S vs w φ tv v} (k : ViewTV S vs w φ tv v) : ViewTV (S.map (mapTV f h false)) vs w φ (mapTV f h' false tv) v := by
  cases tv with
  | one c => exact hf.viewC (hf.viewF k)
  | agg cs =>
    intro arr hv i c u h1 h2
    rw [List.getElem?_map] at h1
    cases hc : cs[i]? with
    | none => rw [hc] at h1; cases h1
    | some x =>
      rw [hc] at h1
      injection h1 with h1
      subst h1
      exact hf.viewC (hf.viewF (k arr hv i x u hc h2))
  | box cs =>
    intro a arr e fr hv hh i c u h1 h2
    rw [List.getElem?_map] at h1
    cases hc : cs[i]? with
    | none => rw [hc] at h1; cases h1
    | some x =>
      rw [hc] at h1
      injection h1 with h1
      subst h1
      exact hf.viewC (hf.viewF (k a arr e fr hv hh i x u hc h2))
  | place r c path =>
    simp only [mapTV]
    split
    · trivial
    · exact hf.place k
  | ep l row off => trivial
  | tup ts =>
    intro x hx c hc
    simp only [List.mem_map] at hx
    obtain ⟨y, hy, rfl⟩ := hx
    simp only [List.mem_map] at hc
    obtain ⟨d, hd, rfl⟩ := hc
    have := k y hy d hd
    rcases hf d with e | ⟨⟨r, cc, path, rfl⟩, _⟩
    · rw [e]; exact this
    · exact this.elim
  | undef => trivial
  | dead => trivial
theorem SR.strike {E S vs w φ bs hand f h} (hf : Strikes f) (hs : SR E S vs w φ bs hand) : SR E (S.map (mapTV f h false)) vs w φ bs hand :=
  ⟨hf.tvs hs.tvs, hs.cnt, hs.own, fun t v hv => by rw [g_map rfl]; exact hf.viewTV (hs.views t v hv), hs.size, hs.same, hs.os⟩

/-! ### A slot is written -/
def noRootC (d : Nat) : Cell → Prop
  | .view r _ _ => r ≠ d
  | _ => True
def noRootTV (d : Nat) : TV → Prop
  | .one c => noRootC d c
  | .agg cs => ∀ c ∈ cs, noRootC d c
  | .box cs => ∀ c ∈ cs, noRootC d c
  | .place r _ _ => r ≠ d
  | _ => True

theorem set_get_ne {vs : List Value} {d t : Nat} (v : Value) (h : t ≠ d) : (vs.set d v)[t]? = vs[t]? := by
  rw [List.getElem?_set]; simp [Ne.symm h]

theorem rootCell_ne {S : St} {d r c : Nat} {tv : TV} (h : r ≠ d) : rootCell (S.set d tv) r c = rootCell S r c := by
  unfold rootCell; rw [g_set, if_neg (by omega)]
theorem rootV_ne {S : St} {vs : List Value} {w : World} {d r c : Nat} {tv : TV} {v : Value} (h : r ≠ d) : rootV (S.set d tv) (vs.set d v) w r c = rootV S vs w r c := by
  unfold rootV; rw [g_set, if_neg (by omega), set_get_ne v h]

theorem ViewC.frame {S vs w φ c u d} (tv : TV) (v : Value) (h : ViewC S vs w φ c u) (hd : rootish (S.g d) = false ∨ noRootC d c) : ViewC (S.set d tv) (vs.set d v) w φ c u := by
  cases c with
  | val l p => trivial
  | dead => trivial
  | view r c path =>
    have hr : r ≠ d := by
      rcases hd with hd | hd
      · rintro rfl; rw [h.1] at hd; cases hd
      · exact hd
    refine ⟨by rw [g_set, if_neg (by omega)]; exact h.1, fun l p hc => ?_⟩
    rw [rootCell_ne hr] at hc
    rw [rootV_ne hr]
    exact h.2 l p hc
theorem PlaceR.frame {S vs w φ r c path u d} (tv : TV) (v : Value) (h : PlaceR S vs w φ r c path u) (hd : rootish (S.g d) = false ∨ r ≠ d) : PlaceR (S.set d tv) (vs.set d v) w φ r c path u := by
  rcases h with ⟨rfl, cs, g, hS, hv, rfl⟩ | ⟨pre, s, i, j, rfl, k1, k2⟩
  · have hr : r ≠ d := by
      rcases hd with hd | hd
      · rintro rfl; rw [hS] at hd; cases hd
      · exact hd
    exact .inl ⟨rfl, cs, g, by rw [g_set, if_neg (by omega)]; exact hS, by rw [set_get_ne v hr]; exact hv, rfl⟩
  · have hr : r ≠ d := by
      rcases hd with hd | hd
      · rintro rfl; rw [k1] at hd; cases hd
      · exact hd
    refine .inr ⟨pre, s, i, j, rfl, by rw [g_set, if_neg (by omega)]; exact k1, fun l p hc => ?_⟩
    rw [rootCell_ne hr] at hc
    rw [rootV_ne hr]
    exact k2 l p hc
theorem ViewTV.frame {S vs w φ x u d} (tv : TV) (v : Value) (h : ViewTV S vs w φ x u) (hd : rootish (S.g d) = false ∨ noRootTV d x) : ViewTV (S.set d tv) (vs.set d v) w φ x u := by
  cases x with
  | one c => exact ViewC.frame tv v h hd
  | agg cs => exact fun arr hv i c u h1 h2 => ViewC.frame tv v (h arr hv i c u h1 h2) (hd.imp id fun k => k c (List.mem_of_getElem? h1))
  | box cs => exact fun a arr e fr hv hh i c u h1 h2 => ViewC.frame tv v (h a arr e fr hv hh i c u h1 h2) (hd.imp id fun k => k c (List.mem_of_getElem? h1))
  | place r c path => exact PlaceR.frame tv v h hd
  | tup ts => exact h
  | _ => trivial

theorem SR.set_ {E S vs w φ bs hand d tv v bt} (hs : SR E S vs w φ bs (bt ++ hand)) (ht : TVR E w φ tv v bt) (hv : ViewTV S vs w φ tv v)
    (hd : rootish (S.g d) = false ∨ (noRootTV d tv ∧ ∀ t, noRootTV d (S.g t))) : ∃ bs', SR E (S.set d tv) (vs.set d v) w φ bs' hand := by
  have hl := hs.tvs.length
  by_cases hlt : d < vs.length
  · obtain ⟨bd, br, h1, h2, h3⟩ := hs.tvs.get (List.getElem?_eq_getElem hlt)
    obtain ⟨bs', q1, q2⟩ := h3 tv v bt ht
    refine ⟨bs', q1, fun g => ?_, fun g hg => ?_, fun t u hu => ?_, hs.size, hs.same, hs.os⟩
    · have := hs.cnt g; have := h2 g; have := q2 g; simp only [List.count_append] at *; omega
    · refine hs.own g ?_
      have e1 := h2 g
      have e2 := q2 g
      rw [List.mem_append]
      rcases hg with hg | hg
      · have := List.count_pos_iff.2 hg
        by_cases hb : g ∈ bt
        · exact .inr (.inl hb)
        · have := count_zero_of hb
          exact .inl (mem_of_count (by omega))
      · exact .inr (.inr hg)
    · by_cases htd : t = d
      · subst htd
        rw [List.getElem?_set, if_pos rfl, if_pos hlt] at hu
        injection hu with hu
        subst hu
        rw [g_set, if_pos ⟨rfl, by omega⟩]
        exact ViewTV.frame tv v hv (hd.imp id And.left)
      · rw [set_get_ne v htd] at hu
        rw [g_set, if_neg (by omega)]
        exact ViewTV.frame tv v (hs.views t u hu) (hd.imp id fun k => k.2 t)
  · refine ⟨bs, ?_⟩
    rw [List.set_eq_of_length_le (by omega), List.set_eq_of_length_le (by omega)]
    exact ⟨hs.tvs, fun g => by have := hs.cnt g; simp only [List.count_append] at this; omega, fun g hg => hs.own g (hg.imp id fun k => by simp [k]), hs.views, hs.size, hs.same, hs.os⟩

theorem noRoot_killC (d : Nat) (c : Cell) : noRootC d (killRootC d c) := by
  cases c with
  | val l p => trivial
  | dead => trivial
  | view r c path =>
    simp only [killRootC]
    split
    · trivial
    · assumption
theorem noRoot_kill (d : Nat) (tv : TV) : noRootTV d (mapTV (killRootC d) (fun r' _ _ => r' == d) false tv) := by
  cases tv with
  | one c => exact noRoot_killC d c
  | agg cs => intro c hc; simp only [List.mem_map] at hc; obtain ⟨x, _, rfl⟩ := hc; exact noRoot_killC d x
  | box cs => intro c hc; simp only [List.mem_map] at hc; obtain ⟨x, _, rfl⟩ := hc; exact noRoot_killC d x
  | place r c path =>
    simp only [mapTV]
    split
    · trivial
    · rename_i h; exact fun e => h (by simp [e])
  | ep l row off => simp [mapTV, noRootTV]
  | _ => trivial

theorem put_sound {E S vs w φ bs hand g d tv v bt S'} (hs : SR E S vs w φ bs (bt ++ hand)) (ht : TVR E w φ tv v bt) (hv : ViewTV S vs w φ tv v)
    (h : put g S d tv = some S') : ∃ bs', SR E S' (match d with | none => vs | some d => vs.set d v) w φ bs' hand := by
  cases d with
  | none =>
    simp only [put, Option.some.injEq] at h
    subst h
    exact ⟨bs, hs.tvs, fun g => by have := hs.cnt g; simp only [List.count_append] at this; omega, fun g hg => hs.own g (hg.imp id fun k => by simp [k]), hs.views, hs.size, hs.same, hs.os⟩
  | some d =>
    simp only [put] at h
    split at h
    · injection h with h
      subst h
      have hk := strikes_root d
      refine SR.set_ (hs.strike (h := fun r' _ _ => r' == d) hk) (hk.tv ht) (hk.viewTV hv) (.inr ⟨noRoot_kill d tv, fun t => ?_⟩)
      rw [killRoot, g_map rfl]
      exact noRoot_kill d _
    · split at h
      · cases h
      · rename_i hr
        injection h with h
        subst h
        exact SR.set_ hs ht hv (.inl (by simpa using hr))

/-! ### The world turns, outside of what is said -/
theorem rvPath_mono {w w' : World} {φ φ' : Nat → Nat} (hc : ∀ g k x, k < φ g → w.cell? ⟨g, k, none⟩ = some x → k < φ' g ∧ w'.cell? ⟨g, k, none⟩ = some x) :
    ∀ {path : Path} {v u : Value}, rvPath w φ v path = some u → rvPath w' φ' v path = some u := by
  intro path
  induction path with
  | nil => intro v u h; exact h
  | cons x t ih =>
    obtain ⟨s, i, j⟩ := x
    intro v u h
    cases v with
    | slice a n c =>
      cases a with
      | none => simp [rvPath] at h
      | some a =>
        simp only [rvPath] at h ⊢
        split at h
        · rename_i hok
          cases hcell : w.cell? ⟨a.block, a.off + (i * s + j), none⟩ with
          | none => rw [hcell] at h; simp at h
          | some x =>
            rw [hcell] at h
            obtain ⟨k1, k2⟩ := hc _ _ _ hok.2 hcell
            rw [if_pos ⟨hok.1, k1⟩, k2]
            exact ih h
        · cases h
    | _ => simp [rvPath] at h

theorem rootV_world {S : St} {vs w w' r c v} (hb : ∀ t cs a, S.g t = .box cs → vs[t]? = some (.pointer (some a)) → w'.heap[a.block]? = w.heap[a.block]?) (h : rootV S vs w r c = some v) : rootV S vs w' r c = some v := by
  unfold rootV at h ⊢
  cases hS : S.g r <;> rw [hS] at h <;> (try dsimp only at h ⊢)
  case one x => cases hv : vs[r]? <;> rw [hv] at h <;> exact h
  case agg cs => cases hv : vs[r]? with
    | none => rw [hv] at h; exact h
    | some u => rw [hv] at h; cases u <;> exact h
  case box cs =>
    cases hv : vs[r]? with
    | none => rw [hv] at h; cases h
    | some u =>
      rw [hv] at h
      cases u with
      | pointer a =>
        cases a with
        | none => cases h
        | some a => dsimp only at h ⊢; unfold World.cell? at h ⊢; rw [hb r cs a hS hv]; exact h
      | _ => cases h
  all_goals cases h

theorem ViewC.world {S vs w w' φ φ' c v} (hc : ∀ g k x, k < φ g → w.cell? ⟨g, k, none⟩ = some x → k < φ' g ∧ w'.cell? ⟨g, k, none⟩ = some x)
    (hb : ∀ t cs a, S.g t = .box cs → vs[t]? = some (.pointer (some a)) → w'.heap[a.block]? = w.heap[a.block]?) (h : ViewC S vs w φ c v) : ViewC S vs w' φ' c v := by
  cases c with
  | val l p => trivial
  | dead => trivial
  | view r c path =>
    refine ⟨h.1, fun l p hr => ?_⟩
    obtain ⟨a, b, d, v0, e, f⟩ := h.2 l p hr
    exact ⟨a, b, d, v0, rootV_world hb e, rvPath_mono hc f⟩
theorem PlaceR.world {S vs w w' φ φ' r c path v} (hc : ∀ g k x, k < φ g → w.cell? ⟨g, k, none⟩ = some x → k < φ' g ∧ w'.cell? ⟨g, k, none⟩ = some x)
    (hb : ∀ t cs a, S.g t = .box cs → vs[t]? = some (.pointer (some a)) → w'.heap[a.block]? = w.heap[a.block]?) (h : PlaceR S vs w φ r c path v) : PlaceR S vs w' φ' r c path v := by
  rcases h with h | ⟨pre, s, i, j, rfl, k1, k2⟩
  · exact .inl h
  · refine .inr ⟨pre, s, i, j, rfl, k1, fun l p hr => ?_⟩
    obtain ⟨a, b, d, v0, g, o, n, cap, e, f, f'⟩ := k2 l p hr
    exact ⟨a, b, d, v0, g, o, n, cap, rootV_world hb e, rvPath_mono hc f, f'⟩
theorem ViewTV.world {S vs w w' φ φ' tv v} (hc : ∀ g k x, k < φ g → w.cell? ⟨g, k, none⟩ = some x → k < φ' g ∧ w'.cell? ⟨g, k, none⟩ = some x)
    (hb : ∀ t cs a, S.g t = .box cs → vs[t]? = some (.pointer (some a)) → w'.heap[a.block]? = w.heap[a.block]?)
    (hself : ∀ cs a, tv = .box cs → v = .pointer (some a) → w'.heap[a.block]? = w.heap[a.block]?) (h : ViewTV S vs w φ tv v) : ViewTV S vs w' φ' tv v := by
  cases tv with
  | one c => exact ViewC.world hc hb h
  | agg cs => exact fun arr hv i c u h1 h2 => ViewC.world hc hb (h arr hv i c u h1 h2)
  | box cs => exact fun a arr e fr hv hh i c u h1 h2 => ViewC.world hc hb (h a arr e fr hv (by rw [← hself cs a rfl hv]; exact hh) i c u h1 h2)
  | place r c path => exact PlaceR.world hc hb h
  | tup ts => exact h
  | _ => trivial

theorem SR.boxOwn {E S vs w φ bs hand} (hs : SR E S vs w φ bs hand) : ∀ t cs a, S.g t = .box cs → vs[t]? = some (.pointer (some a)) → a.block ∈ bs := by
  intro t cs a hS hv
  obtain ⟨bt, br, h1, h2, _⟩ := hs.tvs.get hv
  rw [hS] at h1
  obtain ⟨g, arr, e, b1, hp, hg, hf, h, rfl⟩ := h1
  injection hp with hp
  injection hp with hp
  subst hp
  exact mem_of_count (by have := h2 g; simp [List.count_cons] at this; show 0 < bs.count g; omega)

theorem SR.world {E S vs w w' φ φ' bs hand hand'} (hs : SR E S vs w φ bs hand)
    (hc : ∀ g k x, k < φ g → w.cell? ⟨g, k, none⟩ = some x → k < φ' g ∧ w'.cell? ⟨g, k, none⟩ = some x)
    (hown : ∀ g ∈ bs, w'.heap[g]? = w.heap[g]? ∧ φ' g = φ g) (hsize : w.heap.size ≤ w'.heap.size)
    (hold : ∀ g, g < E.w0.heap.size → g ∉ E.lin → w'.heap[g]? = w.heap[g]? ∧ φ' g = φ g)
    (hcnt : ∀ g, bs.count g + hand'.count g ≤ 1) (hh : ∀ g ∈ hand', g < w'.heap.size ∧ (E.w0.heap.size ≤ g ∨ g ∈ E.lin))
    (hos : w'.os = w.os ∧ w'.tape = w.tape ∧ outw w' = outw w) : SR E S vs w' φ' bs hand' := by
  have hb : ∀ t cs a, S.g t = .box cs → vs[t]? = some (.pointer (some a)) → w'.heap[a.block]? = w.heap[a.block]? := fun t cs a h1 h2 => (hown _ (hs.boxOwn t cs a h1 h2)).1
  refine ⟨hs.tvs.mono (fun g k u h1 h2 => (hc g k u (hs.hO g k u h1 h2) h2).2) (fun g k u h1 h2 => hc g k u h1 h2) hown, hcnt, fun g hg => ?_, fun t v hv => ?_, Nat.le_trans hs.size hsize, fun g h1 h2 => ?_, ?_⟩
  · rcases hg with hg | hg
    · have := hs.own g (.inl hg); exact ⟨by omega, this.2⟩
    · exact hh g hg
  · exact ViewTV.world hc hb (fun cs a h1 h2 => hb t cs a h1 (by rw [hv, h2])) (hs.views t v hv)
  · have a := hold g h1 h2
    have b := hs.same g h1 h2
    exact ⟨a.1.trans b.1, a.2.trans b.2⟩
  · exact ⟨hos.1.trans hs.os.1, hos.2.1.trans hs.os.2.1, hos.2.2.trans hs.os.2.2⟩

/-- New blocks. -/
theorem SR.grow {E S vs w w' φ φ' bs hand hand'} (hs : SR E S vs w φ bs hand)
    (hheap : ∀ g, g < w.heap.size → w'.heap[g]? = w.heap[g]? ∧ φ' g = φ g) (hsize : w.heap.size ≤ w'.heap.size)
    (hcnt : ∀ g, bs.count g + hand'.count g ≤ 1) (hh : ∀ g ∈ hand', g < w'.heap.size ∧ (E.w0.heap.size ≤ g ∨ g ∈ E.lin))
    (hos : w'.os = w.os ∧ w'.tape = w.tape ∧ outw w' = outw w) : SR E S vs w' φ' bs hand' := by
  refine hs.world (fun g k x h1 h2 => ?_) (fun g hg => hheap g (hs.own g (.inl hg)).1) hsize (fun g h1 h2 => hheap g (Nat.lt_of_lt_of_le h1 hs.size)) hcnt hh hos
  have hlt : g < w.heap.size := World.block_lt_of_cell? w ⟨g, k, none⟩ h2
  obtain ⟨e1, e2⟩ := hheap g hlt
  exact ⟨by omega, (World.cell?_of_block (w := w) (a := ⟨g, k, none⟩) e1).trans h2⟩

end Go.Proofs.Ytkiliooegoldoaa
