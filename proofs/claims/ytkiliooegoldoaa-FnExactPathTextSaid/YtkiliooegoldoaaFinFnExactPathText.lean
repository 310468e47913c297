/- FnExactPathText: the law that the claim states holds for all arguments: no condition. -/
import Derived.Test.YtkiliooegoldoaaPathText
import Derived.Test.YtkiliooegoldoaaRows
set_option linter.unusedVariables false
namespace Go.Proofs.Ytkiliooegoldoaa
open Go.ChangeShapes Go.WideShapes Go.ChangeAt Go.RowKit Go

theorem Try.own : ownKnob Try.prog.godebug = Option.none := by kernel_rfl
theorem Try.laidOut : laidOutB Try.prog = true := by kernel_rfl

theorem law : ∀ args, HasTs Try.prog [22] args → Big tab (.fn 6 args [[.bool true]]) := by
  intro args h
  match args, h with
  | [a0], ⟨p0, _⟩ =>
    obtain ⟨x0, rfl, hx0⟩ := stps_of (P := Try.prog) (tS := 22) (tR := 99) (ti := 3) (ts := 9) (by kernel_rfl) (by kernel_rfl) (by kernel_rfl) (by kernel_rfl) (by kernel_rfl) p0
    obtain ⟨rs, hb, rfl⟩ := w6 hx0
    exact hb

set_option maxRecDepth 100000 in
theorem lifted (os : Os) (started : os.Started) (H : Type) (enc : TypeId × Value → H) :
    ReturnsInHanded {} Try.checked os 3 .any (Rows.fnExactPathTextSpec.pre6 enc Try.prog Try.f3 Rows.fnExactPathTextRow.domain false) (Rows.fnExactPathTextSpec.post enc Try.prog Try.f3 false true false false) := by
  refine returnsInHanded_of_change (C := Try.checked) Try.own started (by kernel_rfl) Try.func3
    (ChangeSpec.witness6 (enc := enc) (C := Try.checked) false ⟨#[], #[.slice Option.none 0 0], []⟩ 8 (by kernel_rfl) (by kernel_rfl) (by kernel_rfl) (by kernel_rfl)) ?_
  intro W base args ds gs before hval0 hW hcnd _
  exact contract_of (P := Try.prog) (num := num) (F := tab) (k := 6) (fd := a_laws_FnExactPathText) (fn := Try.f3) (ts := [22, 99, 3, 9]) Try.laidOut tabHF rfl (by kernel_rfl)
    (fun t ht => by
      have : t = 22 := by simpa [Try.f3] using ht
      rcases this with rfl
      · exact ⟨by simp, by kernel_rfl, of_decide_eq_true (by kernel_rfl)⟩) (by kernel_rfl) (tb := 4) rfl (by kernel_rfl) rfl law rfl
    (fun ds hl => by
      match ds, hl with
      | [d0], _ => rfl) hval0 hW

theorem holds : Rows.FnExactPathTextSaid :=
  OpenClaim.holds_of_wide 3 Try.f3 rfl rfl rfl rfl rfl rfl rfl ⟨rfl, rfl, rfl, rfl, rfl⟩ rfl rfl rfl rfl rfl (by kernel_rfl) Try.func3 (by kernel_rfl)
    (of_decide_eq_true (by kernel_rfl)) (by unfold Func.isWrapper; first | (rw [if_pos (by decide +kernel)]; kernel_rfl) | (rw [if_neg (by decide +kernel)]; exact ⟨rfl, rfl⟩))
    (fun os started H enc _ => lifted os started H enc)
#print axioms holds
end Go.Proofs.Ytkiliooegoldoaa
