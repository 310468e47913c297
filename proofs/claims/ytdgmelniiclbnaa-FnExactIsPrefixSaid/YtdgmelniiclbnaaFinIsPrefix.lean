/- The program's IsPrefix answers as the reference's, for all arguments: no condition. -/
import Derived.Test.YtdgmelniiclbnaaIsPrefix
import Derived.Test.YtdgmelniiclbnaaRows
set_option linter.unusedVariables false
namespace Go.Proofs.Ytdgmelniiclbnaa
open Go.ChangeShapes Go.WideShapes Go.ChangeAt Go.RowKit Go

theorem Try.own : ownKnob Try.prog.godebug = Option.none := by kernel_rfl
theorem Try.laidOut : laidOutB Try.prog = true := by kernel_rfl

theorem law : ∀ args, HasTs Try.prog [22, 22] args → Big tab (.fn 0 args [[.bool true]]) := by
  intro args h
  match args, h with
  | [a1, a2], ⟨h1, h2, _⟩ =>
    obtain ⟨l, rfl, hl⟩ := stps_of (P := Try.prog) (tS := 22) (tR := 58) (ti := 3) (ts := 9) (by kernel_rfl) (by kernel_rfl) (by kernel_rfl) (by kernel_rfl) (by kernel_rfl) h1
    obtain ⟨l', rfl, hl'⟩ := stps_of (P := Try.prog) (tS := 22) (tR := 58) (ti := 3) (ts := 9) (by kernel_rfl) (by kernel_rfl) (by kernel_rfl) (by kernel_rfl) (by kernel_rfl) h2
    obtain ⟨rs, hb, rfl⟩ := w0 hl hl'
    exact hb

set_option maxRecDepth 100000 in
theorem lifted (os : Os) (started : os.Started) (H : Type) (enc : TypeId × Value → H) :
    ReturnsInHanded {} Try.checked os 3 .any (Rows.fnExactIsPrefixSpec.pre6 enc Try.prog Try.f3 Rows.fnExactIsPrefixRow.domain false) (Rows.fnExactIsPrefixSpec.post enc Try.prog Try.f3 false true false false) := by
  refine returnsInHanded_of_change (C := Try.checked) Try.own started (by kernel_rfl) Try.func3
    (ChangeSpec.witness6 (enc := enc) (C := Try.checked) false ⟨#[], #[.slice Option.none 0 0, .slice Option.none 0 0], []⟩ 8 (by kernel_rfl) (by kernel_rfl) (by kernel_rfl) (by kernel_rfl)) ?_
  intro W base args ds gs before hval0 hW hcnd _
  exact contract_of (P := Try.prog) (num := num) (F := tab) (k := 0) (fd := a_laws_FnExactIsPrefix) (fn := Try.f3) (ts := [22, 58, 3, 9]) Try.laidOut tabHF rfl (by kernel_rfl)
    (fun t ht => by
      have : t = 22 := by simpa [Try.f3] using ht
      subst this
      exact ⟨by simp, by kernel_rfl, of_decide_eq_true (by kernel_rfl)⟩) (by kernel_rfl) (tb := 4) rfl (by kernel_rfl) rfl law rfl
    (fun ds hl => by
      match ds, hl with
      | [d1, d2], _ => rfl) hval0 hW

theorem exactIsPrefix_holds : Rows.FnExactIsPrefixSaid :=
  OpenClaim.holds_of_wide 3 Try.f3 rfl rfl rfl rfl rfl rfl rfl ⟨rfl, rfl, rfl, rfl, rfl⟩ rfl rfl rfl rfl rfl (by kernel_rfl) Try.func3 (by kernel_rfl)
    (of_decide_eq_true (by kernel_rfl)) (by unfold Func.isWrapper; first | (rw [if_pos (by decide +kernel)]; kernel_rfl) | (rw [if_neg (by decide +kernel)]; exact ⟨rfl, rfl⟩))
    (fun os started H enc _ => lifted os started H enc)
#print axioms exactIsPrefix_holds
end Go.Proofs.Ytdgmelniiclbnaa
