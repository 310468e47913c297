/- Readings of inputs as plain data: steps. -/
import Derived.Test.YtkiliooegoldoaaRow2
import Derived.Test.YtkiliooegoldoaaRl
set_option linter.unusedVariables false
set_option linter.unusedSimpArgs false
namespace Go.Proofs.Ytkiliooegoldoaa
open Go

section
variable {P : Program}
theorem inv_sl {t e a} (h : P.underlying t = some (.slice e)) (ha : HasT P t a) : ∃ xs, a = [.sl (P.cellsOf e) xs] ∧ xs.length ≤ maxLen ∧ ∀ r ∈ xs, HasT P e r := by
  cases ha with
  | bool h' => rw [h] at h'; simp at h'
  | int h' => rw [h] at h'; simp at h'
  | str h' => rw [h] at h'; simp at h'
  | struct h' => rw [h] at h'; simp at h'
  | sl h' hl hr =>
    rw [h] at h'
    simp only [Option.some.injEq, TypeDesc.slice.injEq] at h'
    subst h'
    refine ⟨_, rfl, hl, fun r hr' => ?_⟩
    obtain ⟨i, hi, he⟩ := List.getElem_of_mem hr'
    exact hr i r (by rw [List.getElem?_eq_getElem hi, he])
theorem inv_int {t k a} (h : P.underlying t = some (.int k)) (ha : HasT P t a) : ∃ n, a = [.int k n] ∧ (Lit.int k n).wf = true := by
  cases ha with
  | bool h' => rw [h] at h'; simp at h'
  | int h' hw =>
    rw [h] at h'
    simp only [Option.some.injEq, TypeDesc.int.injEq] at h'
    subst h'
    exact ⟨_, rfl, hw⟩
  | str h' => rw [h] at h'; simp at h'
  | struct h' => rw [h] at h'; simp at h'
  | sl h' => rw [h] at h'; simp at h'
theorem inv_i64 {t a} (h : P.underlying t = some (.int .i64)) (ha : HasT P t a) : ∃ n, a = [I n] ∧ inR n := by
  obtain ⟨n, rfl, hw⟩ := inv_int h ha
  refine ⟨n, rfl, ?_⟩
  simp only [Lit.wf, Bool.and_eq_true, decide_eq_true_eq] at hw
  have h1 : IntKind.i64.min = -9223372036854775808 := by decide
  have h2 : IntKind.i64.max = 9223372036854775807 := by decide
  rw [h1, h2] at hw
  exact hw
theorem inv_str {t a} (h : P.underlying t = some .string) (ha : HasT P t a) : ∃ s, a = [.str s] ∧ s.size ≤ maxLen := by
  cases ha with
  | bool h' => rw [h] at h'; simp at h'
  | int h' => rw [h] at h'; simp at h'
  | str h' hw => exact ⟨_, rfl, hw⟩
  | struct h' => rw [h] at h'; simp at h'
  | sl h' => rw [h] at h'; simp at h'
theorem inv_bool {t a} (h : P.underlying t = some .bool) (ha : HasT P t a) : ∃ b, a = [.bool b] := by
  cases ha with
  | bool h' => exact ⟨_, rfl⟩
  | int h' => rw [h] at h'; simp at h'
  | str h' => rw [h] at h'; simp at h'
  | struct h' => rw [h] at h'; simp at h'
  | sl h' => rw [h] at h'; simp at h'
theorem hasTs_of {tys : List TypeId} : ∀ {pss : List (List PV)}, pss.length = tys.length → (∀ (i : Nat) t ps, tys[i]? = some t → pss[i]? = some ps → HasT P t ps) → HasTs P tys pss := by
  induction tys with
  | nil => intro pss hl _; cases pss <;> simp at hl; trivial
  | cons t tys ih =>
    intro pss hl h
    cases pss with
    | nil => simp at hl
    | cons ps pss => exact ⟨h 0 t ps rfl rfl, ih (by simpa using hl) fun i t ps h1 h2 => h (i + 1) t ps (by simpa using h1) (by simpa using h2)⟩
/-- The types of a struct's fields. -/
def isStruct (P : Program) (t : TypeId) (tys : List TypeId) : Bool := match P.underlying t with
  | some (.struct fs) => fs.toList.map Field.type == tys
  | _ => false
theorem inv_struct {t tys a} (h : isStruct P t tys = true) (ha : HasT P t a) : ∃ pss, a = pss.flatten ∧ HasTs P tys pss := by
  unfold isStruct at h
  split at h
  · rename_i fs hu
    have hty : fs.toList.map Field.type = tys := by simpa using h
    cases ha with
    | bool h' => rw [hu] at h'; simp at h'
    | int h' => rw [hu] at h'; simp at h'
    | str h' => rw [hu] at h'; simp at h'
    | sl h' => rw [hu] at h'; simp at h'
    | struct h' hl hr =>
      rw [hu] at h'
      simp only [Option.some.injEq, TypeDesc.struct.injEq] at h'
      subst h'
      refine ⟨_, rfl, hasTs_of (by rw [← hty]; simpa using hl) fun i t ps h1 h2 => ?_⟩
      rw [← hty, List.getElem?_map, Option.map_eq_some_iff] at h1
      obtain ⟨f, hf, rfl⟩ := h1
      exact hr i f ps (by simpa using hf) h2
  · cases h
theorem list_of {α : Type} {R : List PV → α → Prop} : ∀ {xs : List (List PV)}, (∀ r ∈ xs, ∃ x, R r x) → ∃ l : List α, l.length = xs.length ∧ ∀ (i : Nat) r x, xs[i]? = some r → l[i]? = some x → R r x := by
  intro xs
  induction xs with
  | nil => intro _; exact ⟨[], rfl, fun i r x h => by simp at h⟩
  | cons r xs ih =>
    intro h
    obtain ⟨x, hx⟩ := h r (by simp)
    obtain ⟨l, h1, h2⟩ := ih fun r' hr' => h r' (by simp [hr'])
    refine ⟨x :: l, by simp [h1], fun i r' x' hr hx' => ?_⟩
    cases i with
    | zero => simp at hr hx'; subst hr; subst hx'; exact hx
    | succ i => exact h2 i r' x' (by simpa using hr) (by simpa using hx')
/-- Rows that all read as data. -/
theorem rows_of {α : Type} {f : α → List PV} {ok : α → Prop} : ∀ {xs : List (List PV)}, (∀ r ∈ xs, ∃ x, r = f x ∧ ok x) → ∃ l : List α, xs = l.map f ∧ ∀ x ∈ l, ok x := by
  intro xs
  induction xs with
  | nil => intro _; exact ⟨[], rfl, by simp⟩
  | cons r xs ih =>
    intro h
    obtain ⟨x, rfl, hx⟩ := h r (by simp)
    obtain ⟨l, rfl, h2⟩ := ih fun r' hr' => h r' (by simp [hr'])
    refine ⟨x :: l, rfl, fun y hy => ?_⟩
    rcases List.mem_cons.1 hy with rfl | hy
    · exact hx
    · exact h2 y hy
end

/-! ### Steps -/
structure Stp where
  k : Int
  s : ByteArray
  n : Int
def Stp.row (x : Stp) : List PV := [I x.k, .str x.s, I x.n]
def Stp.ok (x : Stp) : Prop := inR x.k ∧ x.s.size ≤ maxLen ∧ inR x.n
abbrev stps (l : List Stp) : PV := .sl 3 (l.map Stp.row)
def stpsOk (l : List Stp) : Prop := l.length ≤ maxLen ∧ ∀ x ∈ l, x.ok
theorem Stp.row_inj {x y : Stp} (h : x.row = y.row) : x = y := by
  cases x; cases y
  simp [Stp.row] at h
  simp [h]
theorem stps_of {P : Program} {tS tR ti ts a} (h1 : P.underlying tS = some (.slice tR)) (hc : P.cellsOf tR = 3) (h2 : isStruct P tR [ti, ts, ti] = true) (h3 : P.underlying ti = some (.int .i64)) (h4 : P.underlying ts = some .string)
    (ha : HasT P tS a) : ∃ l, a = [stps l] ∧ stpsOk l := by
  obtain ⟨xs, rfl, hl, hr⟩ := inv_sl h1 ha
  obtain ⟨l, rfl, hok⟩ := rows_of (f := Stp.row) (ok := Stp.ok) (xs := xs) fun r hr' => by
    obtain ⟨pss, rfl, hp⟩ := inv_struct h2 (hr r hr')
    match pss, hp with
    | [p0, p1, p2], ⟨q0, q1, q2, _⟩ =>
      obtain ⟨k, rfl, hk⟩ := inv_i64 h3 q0
      obtain ⟨s, rfl, hs⟩ := inv_str h4 q1
      obtain ⟨n, rfl, hn⟩ := inv_i64 h3 q2
      exact ⟨⟨k, s, n⟩, rfl, hk, hs, hn⟩
  exact ⟨l, by rw [hc], by simpa using hl, hok⟩
end Go.Proofs.Ytkiliooegoldoaa
