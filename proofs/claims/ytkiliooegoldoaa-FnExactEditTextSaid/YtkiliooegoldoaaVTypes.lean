/- Walks: VTypes -/
import Derived.Test.YtkiliooegoldoaaLabs
import Derived.Test.YtkiliooegoldoaaSizeV
set_option linter.unusedVariables false
set_option linter.unusedSimpArgs false
namespace Go.Proofs.Ytkiliooegoldoaa
open Go

/-! ### Types: size, depth, form -/
mutual
def Typ.nodes : Typ → Nat
  | .mk k ls us => 1 + typNodes us
def typNodes : List Typ → Nat
  | [] => 0
  | v :: vs => v.nodes + typNodes vs
end
theorem typNodes_eq : ∀ vs, typNodes vs = (vs.map Typ.nodes).sum := by
  intro vs
  induction vs with
  | nil => rfl
  | cons v vs ih => simp only [typNodes, ih, List.map_cons, List.sum_cons]
theorem Typ.nodes_mk {k ls us} : (Typ.mk k ls us).nodes = 1 + (us.map Typ.nodes).sum := by
  rw [Typ.nodes, typNodes_eq]
theorem Typ.nodes_pos (v : Typ) : 1 ≤ v.nodes := by
  cases v; rw [Typ.nodes_mk]; omega
theorem Typ.nodes_le (v : Typ) : v.nodes ≤ v.wt + 1 := by
  induction v using Typ.ind with
  | h k ls us ih =>
    have := sum_le ih
    rw [Typ.nodes_mk, Typ.wt_mk]; omega
theorem Typ.nodes_mem {k ls us} : ∀ v ∈ us, Typ.nodes v ≤ (Typ.mk k ls us).nodes := by
  intro v hv
  rw [Typ.nodes_mk]
  have := mem_sum (f := Typ.nodes) hv
  omega
mutual
def Typ.depth : Typ → Nat
  | .mk k ls us => 1 + typDepth us
def typDepth : List Typ → Nat
  | [] => 0
  | v :: vs => max v.depth (typDepth vs)
end
theorem typDepth_snoc : ∀ {vs : List Typ} {i : Nat} {v}, vs[i]? = some v → typDepth (vs.take (i + 1)) = max (typDepth (vs.take i)) v.depth := by
  intro vs
  induction vs with
  | nil => intro i v h; simp at h
  | cons w vs ih =>
    intro i v h
    cases i with
    | zero =>
      simp only [List.getElem?_cons_zero, Option.some.injEq] at h
      subst h
      simp [typDepth]
    | succ i =>
      have := ih (i := i) (by simpa using h)
      simp only [List.take_succ_cons, typDepth, this]
      omega
theorem typDepth_take {vs : List Typ} : ∀ {i : Nat}, typDepth (vs.take i) ≤ typDepth vs := by
  induction vs with
  | nil => intro i; simp
  | cons w vs ih =>
    intro i
    cases i with
    | zero => simp [typDepth]
    | succ i => have := ih (i := i); simp only [List.take_succ_cons, typDepth]; omega
theorem Typ.depth_le (v : Typ) : v.depth ≤ v.nodes := by
  induction v using Typ.ind with
  | h k ls us ih =>
    rw [Typ.nodes_mk, Typ.depth]
    have : typDepth us ≤ (us.map Typ.nodes).sum := by
      induction us with
      | nil => simp [typDepth]
      | cons w us ih2 =>
        have h1 := ih w (by simp)
        have h2 := ih2 fun v hv => ih v (by simp [hv])
        simp only [typDepth, List.map_cons, List.sum_cons]
        omega
    omega
def topOk (k : Int) (ls : List ByteArray) (m : Nat) : Prop :=
  ((k = 1 ∨ k = 2) ∧ ls.length = 0 ∧ m = 0) ∨ ((k = 3 ∨ k = 4) ∧ m = ls.length ∧ LabOk ls) ∨ (k = 5 ∧ ls.length = 0 ∧ m = 1)
inductive TForm : Typ → Prop
  | mk {k ls us} : topOk k ls us.length → (∀ u ∈ us, TForm u) → TForm (.mk k ls us)
theorem TForm_mk {k ls us} : TForm (.mk k ls us) ↔ topOk k ls us.length ∧ ∀ u ∈ us, TForm u := ⟨fun h => by cases h; exact ⟨‹_›, ‹_›⟩, fun h => .mk h.1 h.2⟩
def VType (t : Typ) : Prop := t.nodes ≤ 30 ∧ t.depth ≤ 8 ∧ TForm t



section
variable {k : Int} {ls : List ByteArray} {us : List Typ} (hv : (Typ.mk k ls us).ok)
include hv
end

end Go.Proofs.Ytkiliooegoldoaa
