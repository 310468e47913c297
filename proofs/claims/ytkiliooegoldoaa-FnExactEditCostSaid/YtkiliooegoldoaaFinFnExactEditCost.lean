/- FnExactEditCost: the law that the claim states holds for all arguments: no condition. -/
import Derived.Test.YtkiliooegoldoaaEditCost
import Derived.Test.YtkiliooegoldoaaRows
set_option linter.unusedVariables false
namespace Go.Proofs.Ytkiliooegoldoaa
open Go.ChangeShapes Go.WideShapes Go.ChangeAt Go.RowKit Go

theorem Try.own : ownKnob Try.prog.godebug = Option.none := by kernel_rfl
theorem Try.laidOut : laidOutB Try.prog = true := by kernel_rfl

theorem law : ∀ args, HasTs Try.prog [29] args → Big tab (.fn 7 args [[.bool true]]) := by
  intro args h
  match args, h with
  | [a0], ⟨p0, _⟩ =>
    obtain ⟨x0, rfl, hx0⟩ := of_EditS (P := Try.prog) (tEdit := 70) (tEditS := 29) (tStep := 99) (tStepS := 22) (tValue := 54) (tValueS := 52) (tint := 3) (tstring := 9) (tstringS := 48) (tyOk := by kernel_rfl) p0
    obtain ⟨rs, hb, rfl⟩ := w7 hx0
    exact hb

set_option maxRecDepth 100000 in
theorem lifted (os : Os) (started : os.Started) (H : Type) (enc : TypeId × Value → H) :
    ReturnsInHanded {} Try.checked os 4 .any (Rows.fnExactEditCostSpec.pre6 enc Try.prog Try.f4 Rows.fnExactEditCostRow.domain false) (Rows.fnExactEditCostSpec.post enc Try.prog Try.f4 false true false false) := by
  refine returnsInHanded_of_change (C := Try.checked) Try.own started (by kernel_rfl) Try.func4
    (ChangeSpec.witness6 (enc := enc) (C := Try.checked) false ⟨#[], #[.slice Option.none 0 0], []⟩ 8 (by kernel_rfl) (by kernel_rfl) (by kernel_rfl) (by kernel_rfl)) ?_
  intro W base args ds gs before hval0 hW hcnd _
  exact contract_of (P := Try.prog) (num := num) (F := tab) (k := 7) (fd := a_laws_FnExactEditCost) (fn := Try.f4) (ts := [29, 70, 3, 22, 99, 9, 54, 48, 52]) Try.laidOut tabHF rfl (by kernel_rfl)
    (fun t ht => by
      have : t = 29 := by simpa [Try.f4] using ht
      rcases this with rfl
      · exact ⟨by simp, by kernel_rfl, of_decide_eq_true (by kernel_rfl)⟩) (by kernel_rfl) (tb := 4) rfl (by kernel_rfl) rfl law rfl
    (fun ds hl => by
      match ds, hl with
      | [d0], _ => rfl) hval0 hW

theorem holds : Rows.FnExactEditCostSaid :=
  OpenClaim.holds_of_wide 4 Try.f4 rfl rfl rfl rfl rfl rfl rfl ⟨rfl, rfl, rfl, rfl, rfl⟩ rfl rfl rfl rfl rfl (by kernel_rfl) Try.func4 (by kernel_rfl)
    (of_decide_eq_true (by kernel_rfl)) (by unfold Func.isWrapper; first | (rw [if_pos (by decide +kernel)]; kernel_rfl) | (rw [if_neg (by decide +kernel)]; exact ⟨rfl, rfl⟩))
    (fun os started H enc _ => lifted os started H enc)
#print axioms holds
end Go.Proofs.Ytkiliooegoldoaa
