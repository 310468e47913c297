/- FnExactOverlap: the law that the claim states holds for all arguments: no condition. -/
import Derived.Test.YtdgmelniiclbnaaOverlap
import Derived.Test.YtdgmelniiclbnaaRows
set_option linter.unusedVariables false
namespace Go.Proofs.Ytdgmelniiclbnaa
open Go.ChangeShapes Go.WideShapes Go.ChangeAt Go.RowKit Go

theorem Try.own : ownKnob Try.prog.godebug = Option.none := by kernel_rfl
theorem Try.laidOut : laidOutB Try.prog = true := by kernel_rfl

theorem law : ∀ args, HasTs Try.prog [30, 30] args → Big tab (.fn 3 args [[.bool true]]) := by
  intro args h
  match args, h with
  | [a0, a1], ⟨p0, p1, _⟩ =>
    obtain ⟨x0, rfl, hx0⟩ := pths_of (P := Try.prog) (tSS := 30) (tS := 22) (tR := 58) (ti := 3) (ts := 9) (by kernel_rfl) (by kernel_rfl) (by kernel_rfl) (by kernel_rfl) (by kernel_rfl) (by kernel_rfl) (by kernel_rfl) p0
    obtain ⟨x1, rfl, hx1⟩ := pths_of (P := Try.prog) (tSS := 30) (tS := 22) (tR := 58) (ti := 3) (ts := 9) (by kernel_rfl) (by kernel_rfl) (by kernel_rfl) (by kernel_rfl) (by kernel_rfl) (by kernel_rfl) (by kernel_rfl) p1
    obtain ⟨rs, hb, rfl⟩ := w3 hx0 hx1
    exact hb

set_option maxRecDepth 100000 in
theorem lifted (os : Os) (started : os.Started) (H : Type) (enc : TypeId × Value → H) :
    ReturnsInHanded {} Try.checked os 6 .any (Rows.fnExactOverlapSpec.pre6 enc Try.prog Try.f6 Rows.fnExactOverlapRow.domain false) (Rows.fnExactOverlapSpec.post enc Try.prog Try.f6 false true false false) := by
  refine returnsInHanded_of_change (C := Try.checked) Try.own started (by kernel_rfl) Try.func6
    (ChangeSpec.witness6 (enc := enc) (C := Try.checked) false ⟨#[], #[.slice Option.none 0 0, .slice Option.none 0 0], []⟩ 8 (by kernel_rfl) (by kernel_rfl) (by kernel_rfl) (by kernel_rfl)) ?_
  intro W base args ds gs before hval0 hW hcnd _
  exact contract_of (P := Try.prog) (num := num) (F := tab) (k := 3) (fd := a_laws_FnExactOverlap) (fn := Try.f6) (ts := [30, 22, 58, 3, 9]) Try.laidOut tabHF rfl (by kernel_rfl)
    (fun t ht => by
      have : t = 30 := by simpa [Try.f6] using ht
      rcases this with rfl
      · exact ⟨by simp, by kernel_rfl, of_decide_eq_true (by kernel_rfl)⟩) (by kernel_rfl) (tb := 4) rfl (by kernel_rfl) rfl law rfl
    (fun ds hl => by
      match ds, hl with
      | [d0, d1], _ => rfl) hval0 hW

theorem holds : Rows.FnExactOverlapSaid :=
  OpenClaim.holds_of_wide 6 Try.f6 rfl rfl rfl rfl rfl rfl rfl ⟨rfl, rfl, rfl, rfl, rfl⟩ rfl rfl rfl rfl rfl (by kernel_rfl) Try.func6 (by kernel_rfl)
    (of_decide_eq_true (by kernel_rfl)) (by unfold Func.isWrapper; first | (rw [if_pos (by decide +kernel)]; kernel_rfl) | (rw [if_neg (by decide +kernel)]; exact ⟨rfl, rfl⟩))
    (fun os started H enc _ => lifted os started H enc)
#print axioms holds
end Go.Proofs.Ytdgmelniiclbnaa
