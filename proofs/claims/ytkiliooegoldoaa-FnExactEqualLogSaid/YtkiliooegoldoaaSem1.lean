/- Entering a function; giving slots up; what a function hands back. -/
import Derived.Test.YtkiliooegoldoaaChk
set_option linter.unusedVariables false
set_option linter.unusedSimpArgs false
namespace Go.Proofs.Ytkiliooegoldoaa
open Go

/-! ### Slots that are given up -/
theorem set_self (vs : List Value) (t : Nat) : vs.set t (vs.getD t undef) = vs := by
  apply List.ext_getElem?
  intro i
  rw [List.getElem?_set]
  split
  · rename_i h
    subst h
    split
    · rename_i hl
      rw [List.getD_eq_getElem?_getD, List.getElem?_eq_getElem hl]
      rfl
    · rename_i hl
      rw [List.getElem?_eq_none (by omega)]
  · rfl

theorem killSlot_sound {E S vs w φ bs hand} (hs : SR E S vs w φ bs hand) (t : Nat) : ∃ bs', SR E (killSlot S t) vs w φ bs' hand := by
  unfold killSlot
  split
  · have h : put true S (some t) .dead = some ((killRoot t S).set t .dead) := by simp [put, mapTV]
    obtain ⟨bs', k⟩ := put_sound (bt := []) (tv := .dead) (v := vs.getD t undef) hs rfl trivial h
    dsimp only at k
    rw [set_self] at k
    exact ⟨bs', k⟩
  · rename_i hr
    have h : put false S (some t) .dead = some (S.set t .dead) := by simp [put, hr]
    obtain ⟨bs', k⟩ := put_sound (bt := []) (tv := .dead) (v := vs.getD t undef) hs rfl trivial h
    dsimp only at k
    rw [set_self] at k
    exact ⟨bs', k⟩

theorem killSlots_sound {E vs w φ hand} : ∀ {ts S bs}, SR E S vs w φ bs hand → ∃ bs', SR E (killSlots S ts) vs w φ bs' hand := by
  intro ts
  induction ts with
  | nil => intro S bs h; exact ⟨bs, h⟩
  | cons t ts ih =>
    intro S bs h
    obtain ⟨b, k⟩ := killSlot_sound h t
    exact ih k

/-! ### Arguments -/
def ArgsR (w : World) (φ : Nat → Nat) : List Bool → List (List PV) → List Value → Prop
  | [], [], [] => True
  | b :: bs, ps :: as, v :: vs => (∃ us, (if b = true then v = .agg us.toArray else us = [v]) ∧ RdL w (okB φ) ps us) ∧ ArgsR w φ bs as vs
  | _, _, _ => False

def env0 (w : World) (φ : Nat → Nat) : Env := ⟨w, φ, []⟩

theorem okO_env0 {w : World} {φ : Nat → Nat} {g k : Nat} {u : Value} (h : okB φ g k) (hc : w.cell? ⟨g, k, none⟩ = some u) : (env0 w φ).okO g k :=
  ⟨World.block_lt_of_cell? w ⟨g, k, none⟩ hc, by simp [env0], h⟩

theorem old_cell {w φ p v} (h : RdL w (okB φ) [p] [v]) : CellR (env0 w φ) w φ (.val (borL .old p) p) v [] := by
  unfold borL
  by_cases hf : p.flat = true
  · rw [if_pos hf]
    exact (RdL.flat_ h hf w (okB φ) φ).2
  · rw [if_neg hf]
    exact ⟨h.mono fun g k u h1 h2 => ⟨okO_env0 h1 h2, h2⟩, rfl⟩

theorem old_cells {w φ} : ∀ {ps us}, RdL w (okB φ) ps us → CellsR (env0 w φ) w φ (ps.map fun p => .val (borL .old p) p) us [] := by
  intro ps
  induction ps with
  | nil => intro us h; cases h; exact ⟨rfl, rfl⟩
  | cons p ps ih =>
    intro us h
    cases us with
    | nil => cases h
    | cons u us =>
      obtain ⟨h1, h2⟩ := RdL.cons_iff.1 h
      exact ⟨u, us, [], [], rfl, rfl, old_cell h1, ih h2⟩

theorem parTV_sound {w φ b ps v tv} (h : parTV b ps = some tv) (ha : ∃ us, (if b = true then v = .agg us.toArray else us = [v]) ∧ RdL w (okB φ) ps us) :
    TVR (env0 w φ) w φ tv v [] ∧ ∀ S vs, ViewTV S vs w φ tv v := by
  obtain ⟨us, hv, hr⟩ := ha
  cases b with
  | true =>
    simp only [if_true] at hv
    simp only [parTV, if_true, Option.some.injEq] at h
    subst h; subst hv
    refine ⟨⟨_, rfl, by simpa using old_cells hr⟩, fun S vs arr e i c u a b => ?_⟩
    rw [List.getElem?_map] at a
    cases hp : ps[i]? with
    | none => rw [hp] at a; cases a
    | some p => rw [hp] at a; simp only [Option.map_some, Option.some.injEq] at a; subst a; trivial
  | false =>
    simp only [parTV] at h
    rw [if_neg (by simp)] at hv
    subst hv
    cases ps with
    | nil => simp at h
    | cons p ps =>
      cases ps with
      | cons _ _ => simp at h
      | nil =>
        simp at h
        subst h
        exact ⟨old_cell hr, fun S vs => trivial⟩

theorem parTVs_sound {w φ} : ∀ {bs as vs l}, parTVs bs as = some l → ArgsR w φ bs as vs → TVsR (env0 w φ) w φ l vs [] ∧ ∀ (i : Nat) tv v, l[i]? = some tv → vs[i]? = some v → ∀ S vs', ViewTV S vs' w φ tv v := by
  intro bs
  induction bs with
  | nil =>
    intro as vs l h ha
    cases as with
    | nil =>
      simp [parTVs] at h
      subst h
      cases vs with
      | nil => exact ⟨⟨rfl, rfl⟩, fun i tv v a => by simp at a⟩
      | cons _ _ => cases ha
    | cons _ _ => cases h
  | cons b bs ih =>
    intro as vs l h ha
    cases as with
    | nil => cases h
    | cons a as =>
      cases vs with
      | nil => cases ha
      | cons v vs =>
        simp only [parTVs] at h
        cases hp : parTV b a with
        | none => rw [hp] at h; cases h
        | some tv =>
          rw [hp] at h
          simp only [Option.bind_some] at h
          cases hq : parTVs bs as with
          | none => rw [hq] at h; cases h
          | some l' =>
            rw [hq] at h
            simp only [Option.map_some, Option.some.injEq] at h
            subst h
            obtain ⟨h1, h2⟩ := parTV_sound hp ha.1
            obtain ⟨h3, h4⟩ := ih hq ha.2
            refine ⟨⟨v, vs, [], [], rfl, rfl, h1, h3⟩, fun i t u a b => ?_⟩
            cases i with
            | zero => simp at a b; subst a; subst b; exact h2
            | succ i => exact h4 i t u (by simpa using a) (by simpa using b)

theorem undefs {E w φ} (n : Nat) : TVsR E w φ (List.replicate n .undef) (List.replicate n undef) [] := by
  induction n with
  | zero => exact ⟨rfl, rfl⟩
  | succ n ih => exact ⟨undef, List.replicate n undef, [], [], rfl, rfl, ⟨rfl, rfl⟩, ih⟩

theorem TVsR.append_ {E w φ} : ∀ {S : St} {vs bs T us cs}, TVsR E w φ S vs bs → TVsR E w φ T us cs → TVsR E w φ (S ++ T) (vs ++ us) (bs ++ cs) := by
  intro S
  induction S with
  | nil => intro vs bs T us cs h k; obtain ⟨rfl, rfl⟩ := h; exact k
  | cons c S ih =>
    intro vs bs T us cs h k
    obtain ⟨v, vs', b1, b2, rfl, rfl, h1, h2⟩ := h
    exact ⟨v, vs' ++ us, b1, b2 ++ cs, rfl, by simp, h1, ih h2 k⟩

theorem entry_sound {w φ fd args vals S} (h : entry fd args = some S) (ha : ArgsR w φ fd.params args vals) :
    vals.length ≤ fd.ntmps ∧ SR (env0 w φ) S (vals ++ List.replicate (fd.ntmps - vals.length) undef) w φ [] [] := by
  unfold entry at h
  cases hp : parTVs fd.params args with
  | none => rw [hp] at h; cases h
  | some l =>
    rw [hp] at h
    simp only [Option.bind_some] at h
    split at h
    case isFalse => cases h
    rename_i hle
    injection h with h
    subst h
    obtain ⟨h1, h2⟩ := parTVs_sound hp ha
    have hl : l.length = vals.length := h1.length
    refine ⟨by omega, ?_, fun g => by simp, fun g hg => by simp at hg, fun t v hv => ?_, Nat.le_refl _, fun g _ _ => ⟨rfl, rfl⟩, rfl, rfl, rfl⟩
    · rw [hl]
      simpa using h1.append_ (undefs (fd.ntmps - vals.length))
    · by_cases ht : t < vals.length
      · have hg : St.g (l ++ List.replicate (fd.ntmps - l.length) .undef) t = l[t]'(by omega) := by
          unfold St.g
          rw [List.getD_eq_getElem?_getD, List.getElem?_append_left (by omega), List.getElem?_eq_getElem (by omega)]
          rfl
        rw [hg]
        rw [List.getElem?_append_left ht] at hv
        exact h2 t _ v (List.getElem?_eq_getElem (by omega)) hv _ _
      · have hg : St.g (l ++ List.replicate (fd.ntmps - l.length) .undef) t = .undef := by
          unfold St.g
          have hlt := (List.getElem?_eq_some_iff.1 hv).1
          simp at hlt
          rw [List.getD_eq_getElem?_getD, List.getElem?_append_right (by omega), List.getElem?_replicate, if_pos (by omega)]
          rfl
        rw [hg]
        trivial

/-! ### Results -/
theorem resCell_sound {E S vs w φ bs hand want l p v b} (hs : SR E S vs w φ bs hand) (h : CellR E w φ (.val l p) v b) (hok : okRes want l p = true) :
    ∃ b', (∀ E' : Env, CellR E' w φ (resCell want p) v b') ∧ ∀ g, b'.count g ≤ b.count g := by
  unfold resCell resLev
  have hrd := CellR.reads hs.hO h
  by_cases hf : p.flat = true
  · rw [if_pos hf]
    exact ⟨[], fun E' => (RdL.flat_ hrd hf w (okB φ) φ).2, fun g => by simp⟩
  · rw [if_neg hf]
    simp only [okRes, hf, Bool.false_or, Bool.or_eq_true, Bool.and_eq_true, beq_iff_eq] at hok
    rcases hok with (rfl | ⟨rfl, rfl⟩) | ⟨rfl, hl⟩
    · exact ⟨[], fun E' => ⟨hrd, rfl⟩, fun g => by simp⟩
    · exact ⟨b, fun E' => h, fun g => Nat.le_refl _⟩
    · cases p with
      | int _ _ => simp [PV.flat] at hf
      | bool _ => simp [PV.flat] at hf
      | str _ => simp [PV.flat] at hf
      | sl sz xs =>
        have h' := (ownS_iff hl).1 h
        have hok : okBase .borR l xs = true := by cases l <;> first | rfl | cases hl
        obtain ⟨b', k1, k2⟩ := OwnS.relev hs.hO hok h'
        exact ⟨b', fun E' => (ownS_iff rfl).2 k1, k2⟩

theorem outCells_sound {E S vs w φ bs hand want} (hs : SR E S vs w φ bs hand) : ∀ {cs us b ps}, CellsR E w φ cs us b → outCells want cs = some ps →
    ∃ b', (∀ E' : Env, CellsR E' w φ (ps.map (resCell want)) us b') ∧ ∀ g, b'.count g ≤ b.count g := by
  intro cs
  induction cs with
  | nil => intro us b ps h ho; simp [outCells] at ho; subst ho; exact ⟨[], fun E' => ⟨h.1, rfl⟩, fun g => by simp⟩
  | cons c cs ih =>
    intro us b ps h ho
    obtain ⟨u, us', b1, b2, rfl, rfl, hc, h⟩ := h
    simp only [outCells] at ho
    cases hp : outCell want c with
    | none => rw [hp] at ho; cases ho
    | some p =>
      rw [hp] at ho
      simp only [Option.bind_some] at ho
      cases hq : outCells want cs with
      | none => rw [hq] at ho; cases ho
      | some ps' =>
        rw [hq] at ho
        simp only [Option.map_some, Option.some.injEq] at ho
        subst ho
        obtain ⟨b2', k1, k2⟩ := ih h hq
        cases c with
        | val l p' =>
          simp only [outCell] at hp
          split at hp
          case isFalse => cases hp
          rename_i hok
          injection hp with hp
          subst hp
          obtain ⟨b1', m1, m2⟩ := resCell_sound hs hc hok
          refine ⟨b1' ++ b2', fun E' => ⟨u, us', b1', b2', rfl, rfl, m1 E', k1 E'⟩, fun g => ?_⟩
          have := m2 g; have := k2 g
          simp only [List.count_append]; omega
        | view r c path => cases hp
        | dead => cases hp

theorem outCells_len {want} : ∀ {cs ps}, outCells want cs = some ps → ps.length = cs.length := by
  intro cs
  induction cs with
  | nil => intro ps h; simp [outCells] at h; subst h; rfl
  | cons c cs ih =>
    intro ps h
    simp only [outCells] at h
    cases hp : outCell want c with
    | none => rw [hp] at h; cases h
    | some p =>
      rw [hp] at h
      simp only [Option.bind_some] at h
      cases hq : outCells want cs with
      | none => rw [hq] at h; cases h
      | some ps' =>
        rw [hq] at h
        simp only [Option.map_some, Option.some.injEq] at h
        subst h
        simp [ih hq]

end Go.Proofs.Ytkiliooegoldoaa
