/- Walks: StepSS -/
import Derived.Test.YtdgmelniiclbnaaPaths
import Derived.Test.YtdgmelniiclbnaaIsPrefix
set_option linter.unusedVariables false
set_option linter.unusedSimpArgs false
namespace Go.Proofs.Ytdgmelniiclbnaa
open Go

abbrev pths (l : List (List Stp)) : PV := .sl 1 (l.map fun p => [stps p])
def pthsOk (l : List (List Stp)) : Prop := l.length ≤ maxLen ∧ ∀ p ∈ l, stpsOk p
def ctLen : List PV → Nat
  | [.sl _ xs] => xs.length
  | _ => 0
theorem sumC_mem {c : List PV → Nat} : ∀ {xs : List (List PV)} {r}, r ∈ xs → c r ≤ sumC c xs := by
  intro xs
  induction xs with
  | nil => intro r h; simp at h
  | cons x xs ih =>
    intro r h
    simp only [sumC, List.map_cons, List.sum_cons]
    rcases List.mem_cons.1 h with rfl | h
    · omega
    · have := ih h; simp only [sumC] at this; omega
theorem stps_inj {l l' : List Stp} (h : stps l = stps l') : l = l' := by
  simp only [stps, PV.sl.injEq, true_and] at h
  exact (List.map_inj_right (fun _ _ => Stp.row_inj)).1 h

/-- laws.szStepSS -/
theorem w18 {l : List (List Stp)} {left : Int} (hl : pthsOk l) (h0 : 0 ≤ left) (h1 : left ≤ 1099511627776) :
    ∃ rs, Big tab (.fn 18 [[pths l], [I left]] rs) ∧ ∃ r, rs = [[I r]] ∧ (r = -1 ∨ (0 ≤ r ∧ r + l.length ≤ left ∧ ∀ p ∈ l, r + p.length ≤ left)) := by
  obtain ⟨rs, hb, r, rfl, hr⟩ := szList (F := tab) (k := 18) (w := 1) (fls := [false]) (callee := 11) rfl c18 ctLen (xs := l.map fun p => [stps p]) rfl (by have := hl.1; simp only [List.length_map]; exact this)
    (by intro r hr; obtain ⟨p, hp, rfl⟩ := List.mem_map.1 hr; rfl) (left := left) h0 (by omega) (fun r hr lf h0' h1' => by
      obtain ⟨p, hp, rfl⟩ := List.mem_map.1 hr
      obtain ⟨rs, hb, x, rfl, hx⟩ := w11 (hl.2 p hp) h0' (by omega)
      refine ⟨_, hb, x, rfl, ?_⟩
      have : ctLen [stps p] = p.length := by simp [ctLen]
      rw [this]
      exact hx)
  refine ⟨_, hb, r, rfl, ?_⟩
  rcases hr with h | ⟨h2, h3⟩
  · exact Or.inl h
  · rw [List.length_map] at h3
    refine Or.inr ⟨h2, by omega, fun p hp => ?_⟩
    have := sumC_mem (c := ctLen) (xs := l.map fun p => [stps p]) (r := [stps p]) (List.mem_map.2 ⟨p, hp, rfl⟩)
    have h4 : ctLen [stps p] = p.length := by simp [ctLen]
    omega
/-- laws.toStepSS -/
theorem w20 {l : List (List Stp)} (hl : pthsOk l) (h1 : l.length ≤ 1099511627776) (h2 : ∀ p ∈ l, p.length ≤ 1099511627776) : ∃ rs, Big tab (.fn 20 [[pths l]] rs) ∧ rs = [[pths l]] :=
  toList (F := tab) (k := 20) (w := 1) (fls := [false]) (callee := 13) (zs := [Z 3]) rfl c20 (xs := l.map fun p => [stps p]) rfl rfl (by simpa using h1)
    (by intro r hr; obtain ⟨p, hp, rfl⟩ := List.mem_map.1 hr; rfl) fun r hr => by
      obtain ⟨p, hp, rfl⟩ := List.mem_map.1 hr
      exact w13 (hl.2 p hp) (h2 p hp)
/-- laws.eqStepSS -/
theorem w22 {l l' : List (List Stp)} (hl : pthsOk l) (hl' : pthsOk l') : ∃ rs, Big tab (.fn 22 [[pths l], [pths l']] rs) ∧ ∃ b, rs = [[.bool b]] ∧ (b = true ↔ l.map (fun p => [stps p]) = l'.map fun p => [stps p]) :=
  eqList (F := tab) (k := 22) (w := 1) (fls := [false]) (callee := 15) rfl c22 (xs := l.map fun p => [stps p]) (ys := l'.map fun p => [stps p]) rfl (by have := hl.1; simp only [List.length_map]; exact this) (by have := hl'.1; simp only [List.length_map]; exact this)
    (by intro r hr; obtain ⟨p, hp, rfl⟩ := List.mem_map.1 hr; rfl) (by intro r hr; obtain ⟨p, hp, rfl⟩ := List.mem_map.1 hr; rfl) fun r hr r' hr' => by
      obtain ⟨p, hp, rfl⟩ := List.mem_map.1 hr
      obtain ⟨p', hp', rfl⟩ := List.mem_map.1 hr'
      obtain ⟨rs, hb, b, rfl, hb2⟩ := w15 (hl.2 p hp) (hl'.2 p' hp')
      exact ⟨_, hb, b, rfl, hb2.trans ⟨fun h => by rw [h], fun h => stps_inj (by simpa using h)⟩⟩
theorem pths_of {P : Program} {tSS tS tR ti ts a} (h0 : P.underlying tSS = some (.slice tS)) (hc0 : P.cellsOf tS = 1) (h1 : P.underlying tS = some (.slice tR)) (hc : P.cellsOf tR = 3) (h2 : isStruct P tR [ti, ts, ti] = true)
    (h3 : P.underlying ti = some (.int .i64)) (h4 : P.underlying ts = some .string) (ha : HasT P tSS a) : ∃ l, a = [pths l] ∧ pthsOk l := by
  obtain ⟨xs, rfl, hl, hr⟩ := inv_sl h0 ha
  obtain ⟨l, rfl, hok⟩ := rows_of (f := fun p => [stps p]) (ok := stpsOk) (xs := xs) fun r hr' => stps_of h1 hc h2 h3 h4 (hr r hr')
  exact ⟨l, by rw [hc0], by simpa using hl, hok⟩
end Go.Proofs.Ytdgmelniiclbnaa
