/-
  NARROWER THAN 'FOR EVERY INPUT', by the rows' own cells (each row's printed sentence says how): FnExactEditCost: loops · FnExactIsNormal: loops · FnExactSameNormal: loops · FnExactEqualLog: loops · FnExactEditText: loops · FnExactIsAction: loops · FnExactIsMinor: loops · FnExactCanEdit: loops.
  DERIVED. THE GIVEN ROWS OF THIS SEAT. 9 by the template 'for every input the law returns true; each argument reads behind the call as it read before'; 0 by the template 'total and deterministic' (their statements: YtkiliooegoldoaaTotals.lean).
  GIVEN WITH THE SEED: the statements are not yours to turn. If you find one false, say at which input.
  Laid BY PROGRAM, IN A SANDBOX (cutbox-rows.mjs): the forced cells as the released guide's own fill.sh prints them over the translation 5bbd2da42d530aad… (all of the seat's roots in one cut). By AI agents, Wed Nov 11 2026. No macro, syntax, notation, axiom, sorry.
-/
import Derived.Test.YtkiliooegoldoaaChecked
import GoSem.Claim
import GoSem.ClaimJoined
import GoSem.ClaimMapViews
import Derived.JoinedTies
import Derived.KernelRfl
namespace Go.Proofs.Ytkiliooegoldoaa
/- THE CELL 'sum', in the pinned program and in every row, IS THE sha256 OF THE DUMP (.gsa) THAT YtkiliooegoldoaaProg.lean LOADS. Nothing in Lean hashes anything: it is a label: what it is worth is what the hold of that sum in a sandbox is worth. -/
noncomputable def Try.pinned : Pinned := { name := "ytkiliooegoldoaa", sum := "5bbd2da42d530aad57e6fdabe4d7d339ab3d119d314fa641273826274147b9d7", checked := Try.checked }
namespace Rows
def none {H : Type} : Left H := { results := [], args := [] }

/-- 'laws.FnExactPathText': WHATEVER THE INPUT: true; the input reads as it did. -/
def fnExactPathTextSpec : ChangeSpec := { name := "fnExactPathText", fn := fun _ => fun
  | [d] => { results := [.lit (.bool true)], args := [d] }
  | _ => none }
def fnExactPathTextRow : OpenClaim := { program := "ytkiliooegoldoaa", sum := "5bbd2da42d530aad57e6fdabe4d7d339ab3d119d314fa641273826274147b9d7", func := "loop.example/g00592/laws.FnExactPathText", spec := "fnExactPathText", recurses := true, apart := false }
def FnExactPathTextSaid : Prop := fnExactPathTextRow.holds Try.pinned (OpenSpec.ofChange fnExactPathTextSpec)

/-- ITS FALSE NEIGHBOUR: 'it returns false'. Refute it at one input. -/
def fnExactPathTextWrong : ChangeSpec := { name := "fnExactPathText", fn := fun _ => fun
  | [d] => { results := [.lit (.bool false)], args := [d] }
  | _ => none }
def FnExactPathTextWrongFalsely : Prop := fnExactPathTextRow.holds Try.pinned (OpenSpec.ofChange fnExactPathTextWrong)

/-- 'laws.FnExactEditCost': WHATEVER THE INPUT: true; the input reads as it did. -/
def fnExactEditCostSpec : ChangeSpec := { name := "fnExactEditCost", fn := fun _ => fun
  | [d] => { results := [.lit (.bool true)], args := [d] }
  | _ => none }
def fnExactEditCostRow : OpenClaim := { program := "ytkiliooegoldoaa", sum := "5bbd2da42d530aad57e6fdabe4d7d339ab3d119d314fa641273826274147b9d7", func := "loop.example/g00592/laws.FnExactEditCost", spec := "fnExactEditCost", recurses := true, loops := true, apart := false }
def FnExactEditCostSaid : Prop := fnExactEditCostRow.holds Try.pinned (OpenSpec.ofChange fnExactEditCostSpec)

/-- ITS FALSE NEIGHBOUR: 'it returns false'. Refute it at one input. -/
def fnExactEditCostWrong : ChangeSpec := { name := "fnExactEditCost", fn := fun _ => fun
  | [d] => { results := [.lit (.bool false)], args := [d] }
  | _ => none }
def FnExactEditCostWrongFalsely : Prop := fnExactEditCostRow.holds Try.pinned (OpenSpec.ofChange fnExactEditCostWrong)

/-- 'laws.FnExactIsNormal': WHATEVER THE INPUT: true; the input reads as it did. -/
def fnExactIsNormalSpec : ChangeSpec := { name := "fnExactIsNormal", fn := fun _ => fun
  | [d] => { results := [.lit (.bool true)], args := [d] }
  | _ => none }
def fnExactIsNormalRow : OpenClaim := { program := "ytkiliooegoldoaa", sum := "5bbd2da42d530aad57e6fdabe4d7d339ab3d119d314fa641273826274147b9d7", func := "loop.example/g00592/laws.FnExactIsNormal", spec := "fnExactIsNormal", recurses := true, loops := true, apart := false }
def FnExactIsNormalSaid : Prop := fnExactIsNormalRow.holds Try.pinned (OpenSpec.ofChange fnExactIsNormalSpec)

/-- ITS FALSE NEIGHBOUR: 'it returns false'. Refute it at one input. -/
def fnExactIsNormalWrong : ChangeSpec := { name := "fnExactIsNormal", fn := fun _ => fun
  | [d] => { results := [.lit (.bool false)], args := [d] }
  | _ => none }
def FnExactIsNormalWrongFalsely : Prop := fnExactIsNormalRow.holds Try.pinned (OpenSpec.ofChange fnExactIsNormalWrong)

/-- 'laws.FnExactSameNormal': WHATEVER THE INPUT: true; the input reads as it did. -/
def fnExactSameNormalSpec : ChangeSpec := { name := "fnExactSameNormal", fn := fun _ => fun
  | [d1, d2] => { results := [.lit (.bool true)], args := [d1, d2] }
  | _ => none }
def fnExactSameNormalRow : OpenClaim := { program := "ytkiliooegoldoaa", sum := "5bbd2da42d530aad57e6fdabe4d7d339ab3d119d314fa641273826274147b9d7", func := "loop.example/g00592/laws.FnExactSameNormal", spec := "fnExactSameNormal", recurses := true, loops := true, apart := false }
def FnExactSameNormalSaid : Prop := fnExactSameNormalRow.holds Try.pinned (OpenSpec.ofChange fnExactSameNormalSpec)

/-- ITS FALSE NEIGHBOUR: 'it returns false'. Refute it at one input. -/
def fnExactSameNormalWrong : ChangeSpec := { name := "fnExactSameNormal", fn := fun _ => fun
  | [d1, d2] => { results := [.lit (.bool false)], args := [d1, d2] }
  | _ => none }
def FnExactSameNormalWrongFalsely : Prop := fnExactSameNormalRow.holds Try.pinned (OpenSpec.ofChange fnExactSameNormalWrong)

/-- 'laws.FnExactEqualLog': WHATEVER THE INPUT: true; the input reads as it did. -/
def fnExactEqualLogSpec : ChangeSpec := { name := "fnExactEqualLog", fn := fun _ => fun
  | [d1, d2] => { results := [.lit (.bool true)], args := [d1, d2] }
  | _ => none }
def fnExactEqualLogRow : OpenClaim := { program := "ytkiliooegoldoaa", sum := "5bbd2da42d530aad57e6fdabe4d7d339ab3d119d314fa641273826274147b9d7", func := "loop.example/g00592/laws.FnExactEqualLog", spec := "fnExactEqualLog", recurses := true, loops := true, apart := false }
def FnExactEqualLogSaid : Prop := fnExactEqualLogRow.holds Try.pinned (OpenSpec.ofChange fnExactEqualLogSpec)

/-- ITS FALSE NEIGHBOUR: 'it returns false'. Refute it at one input. -/
def fnExactEqualLogWrong : ChangeSpec := { name := "fnExactEqualLog", fn := fun _ => fun
  | [d1, d2] => { results := [.lit (.bool false)], args := [d1, d2] }
  | _ => none }
def FnExactEqualLogWrongFalsely : Prop := fnExactEqualLogRow.holds Try.pinned (OpenSpec.ofChange fnExactEqualLogWrong)

/-- 'laws.FnExactEditText': WHATEVER THE INPUT: true; the input reads as it did. -/
def fnExactEditTextSpec : ChangeSpec := { name := "fnExactEditText", fn := fun _ => fun
  | [d] => { results := [.lit (.bool true)], args := [d] }
  | _ => none }
def fnExactEditTextRow : OpenClaim := { program := "ytkiliooegoldoaa", sum := "5bbd2da42d530aad57e6fdabe4d7d339ab3d119d314fa641273826274147b9d7", func := "loop.example/g00592/laws.FnExactEditText", spec := "fnExactEditText", recurses := true, loops := true, apart := false }
def FnExactEditTextSaid : Prop := fnExactEditTextRow.holds Try.pinned (OpenSpec.ofChange fnExactEditTextSpec)

/-- ITS FALSE NEIGHBOUR: 'it returns false'. Refute it at one input. -/
def fnExactEditTextWrong : ChangeSpec := { name := "fnExactEditText", fn := fun _ => fun
  | [d] => { results := [.lit (.bool false)], args := [d] }
  | _ => none }
def FnExactEditTextWrongFalsely : Prop := fnExactEditTextRow.holds Try.pinned (OpenSpec.ofChange fnExactEditTextWrong)

/-- 'laws.FnExactIsAction': WHATEVER THE INPUT: true; the input reads as it did. -/
def fnExactIsActionSpec : ChangeSpec := { name := "fnExactIsAction", fn := fun _ => fun
  | [d1, d2] => { results := [.lit (.bool true)], args := [d1, d2] }
  | _ => none }
def fnExactIsActionRow : OpenClaim := { program := "ytkiliooegoldoaa", sum := "5bbd2da42d530aad57e6fdabe4d7d339ab3d119d314fa641273826274147b9d7", func := "loop.example/g00592/laws.FnExactIsAction", spec := "fnExactIsAction", recurses := true, loops := true, apart := false }
def FnExactIsActionSaid : Prop := fnExactIsActionRow.holds Try.pinned (OpenSpec.ofChange fnExactIsActionSpec)

/-- ITS FALSE NEIGHBOUR: 'it returns false'. Refute it at one input. -/
def fnExactIsActionWrong : ChangeSpec := { name := "fnExactIsAction", fn := fun _ => fun
  | [d1, d2] => { results := [.lit (.bool false)], args := [d1, d2] }
  | _ => none }
def FnExactIsActionWrongFalsely : Prop := fnExactIsActionRow.holds Try.pinned (OpenSpec.ofChange fnExactIsActionWrong)

/-- 'laws.FnExactIsMinor': WHATEVER THE INPUT: true; the input reads as it did. -/
def fnExactIsMinorSpec : ChangeSpec := { name := "fnExactIsMinor", fn := fun _ => fun
  | [d1, d2, d3] => { results := [.lit (.bool true)], args := [d1, d2, d3] }
  | _ => none }
def fnExactIsMinorRow : OpenClaim := { program := "ytkiliooegoldoaa", sum := "5bbd2da42d530aad57e6fdabe4d7d339ab3d119d314fa641273826274147b9d7", func := "loop.example/g00592/laws.FnExactIsMinor", spec := "fnExactIsMinor", recurses := true, loops := true, apart := false }
def FnExactIsMinorSaid : Prop := fnExactIsMinorRow.holds Try.pinned (OpenSpec.ofChange fnExactIsMinorSpec)

/-- ITS FALSE NEIGHBOUR: 'it returns false'. Refute it at one input. -/
def fnExactIsMinorWrong : ChangeSpec := { name := "fnExactIsMinor", fn := fun _ => fun
  | [d1, d2, d3] => { results := [.lit (.bool false)], args := [d1, d2, d3] }
  | _ => none }
def FnExactIsMinorWrongFalsely : Prop := fnExactIsMinorRow.holds Try.pinned (OpenSpec.ofChange fnExactIsMinorWrong)

/-- 'laws.FnExactCanEdit': WHATEVER THE INPUT: true; the input reads as it did. -/
def fnExactCanEditSpec : ChangeSpec := { name := "fnExactCanEdit", fn := fun _ => fun
  | [d1, d2, d3] => { results := [.lit (.bool true)], args := [d1, d2, d3] }
  | _ => none }
def fnExactCanEditRow : OpenClaim := { program := "ytkiliooegoldoaa", sum := "5bbd2da42d530aad57e6fdabe4d7d339ab3d119d314fa641273826274147b9d7", func := "loop.example/g00592/laws.FnExactCanEdit", spec := "fnExactCanEdit", recurses := true, loops := true, apart := false }
def FnExactCanEditSaid : Prop := fnExactCanEditRow.holds Try.pinned (OpenSpec.ofChange fnExactCanEditSpec)

/-- ITS FALSE NEIGHBOUR: 'it returns false'. Refute it at one input. -/
def fnExactCanEditWrong : ChangeSpec := { name := "fnExactCanEdit", fn := fun _ => fun
  | [d1, d2, d3] => { results := [.lit (.bool false)], args := [d1, d2, d3] }
  | _ => none }
def FnExactCanEditWrongFalsely : Prop := fnExactCanEditRow.holds Try.pinned (OpenSpec.ofChange fnExactCanEditWrong)

/- THE SECOND FORM. 'bulk': how many values and letters a reading holds, each counted each time it is reached (what is shared counts as often as it is met; a slice's spare places count too). A statement '..UptoSaid' is the law's where the arguments, and the package variables that the reading takes, are together of bulk at most 1048576: NARROWER than '..Said'. Prove '..Said' where nothing that the law and all that it calls make is longer than what came in: it says more and counts as full. Else prove '..UptoSaid'. A law counts once. -/
mutual
def uptoBulk {H : Type} : DataW H → Nat
  | .lit (.string bytes) => bytes.length + 1
  | .lit _ => 1
  | .nil => 1
  | .ptr d => uptoBulk d + 1
  | .slice elems spare => uptoBulkAll elems + uptoBulkAll spare + 1
  | .agg parts => uptoBulkAll parts + 1
  | .iface _ d => uptoBulk d + 1
  | .map entries => uptoBulkEntries entries + 1
  | .held _ => 1
def uptoBulkAll {H : Type} : List (DataW H) → Nat
  | [] => 0
  | d :: r => uptoBulk d + uptoBulkAll r
def uptoBulkEntries {H : Type} : List (Lit × DataW H) → Nat
  | [] => 0
  | x :: r => uptoBulkEntry x + uptoBulkEntries r
def uptoBulkEntry {H : Type} : Lit × DataW H → Nat
  | (.string bytes, d) => bytes.length + uptoBulk d + 1
  | (_, d) => uptoBulk d + 1
 end
def uptoSmall : (H : Type) → List (DataW H) → Bool := fun _ ds => decide (uptoBulkAll ds ≤ 1048576)
def OpenSpec.upto (s : _root_.Go.ChangeSpec) : _root_.Go.OpenSpec := { _root_.Go.OpenSpec.ofChange s with cond := some uptoSmall }

/-- 'laws.FnExactPathText', WHERE WHAT IT READS IS OF BULK AT MOST 1048576: true; the input reads as it did. -/
def fnExactPathTextUptoRow : OpenClaim := { program := "ytkiliooegoldoaa", sum := "5bbd2da42d530aad57e6fdabe4d7d339ab3d119d314fa641273826274147b9d7", func := "loop.example/g00592/laws.FnExactPathText", spec := "fnExactPathText", recurses := true, apart := false, narrowed := true }
def FnExactPathTextUptoSaid : Prop := fnExactPathTextUptoRow.holds Try.pinned (OpenSpec.upto fnExactPathTextSpec)

/-- 'laws.FnExactEditCost', WHERE WHAT IT READS IS OF BULK AT MOST 1048576: true; the input reads as it did. -/
def fnExactEditCostUptoRow : OpenClaim := { program := "ytkiliooegoldoaa", sum := "5bbd2da42d530aad57e6fdabe4d7d339ab3d119d314fa641273826274147b9d7", func := "loop.example/g00592/laws.FnExactEditCost", spec := "fnExactEditCost", recurses := true, loops := true, apart := false, narrowed := true }
def FnExactEditCostUptoSaid : Prop := fnExactEditCostUptoRow.holds Try.pinned (OpenSpec.upto fnExactEditCostSpec)

/-- 'laws.FnExactIsNormal', WHERE WHAT IT READS IS OF BULK AT MOST 1048576: true; the input reads as it did. -/
def fnExactIsNormalUptoRow : OpenClaim := { program := "ytkiliooegoldoaa", sum := "5bbd2da42d530aad57e6fdabe4d7d339ab3d119d314fa641273826274147b9d7", func := "loop.example/g00592/laws.FnExactIsNormal", spec := "fnExactIsNormal", recurses := true, loops := true, apart := false, narrowed := true }
def FnExactIsNormalUptoSaid : Prop := fnExactIsNormalUptoRow.holds Try.pinned (OpenSpec.upto fnExactIsNormalSpec)

/-- 'laws.FnExactSameNormal', WHERE WHAT IT READS IS OF BULK AT MOST 1048576: true; the input reads as it did. -/
def fnExactSameNormalUptoRow : OpenClaim := { program := "ytkiliooegoldoaa", sum := "5bbd2da42d530aad57e6fdabe4d7d339ab3d119d314fa641273826274147b9d7", func := "loop.example/g00592/laws.FnExactSameNormal", spec := "fnExactSameNormal", recurses := true, loops := true, apart := false, narrowed := true }
def FnExactSameNormalUptoSaid : Prop := fnExactSameNormalUptoRow.holds Try.pinned (OpenSpec.upto fnExactSameNormalSpec)

/-- 'laws.FnExactEqualLog', WHERE WHAT IT READS IS OF BULK AT MOST 1048576: true; the input reads as it did. -/
def fnExactEqualLogUptoRow : OpenClaim := { program := "ytkiliooegoldoaa", sum := "5bbd2da42d530aad57e6fdabe4d7d339ab3d119d314fa641273826274147b9d7", func := "loop.example/g00592/laws.FnExactEqualLog", spec := "fnExactEqualLog", recurses := true, loops := true, apart := false, narrowed := true }
def FnExactEqualLogUptoSaid : Prop := fnExactEqualLogUptoRow.holds Try.pinned (OpenSpec.upto fnExactEqualLogSpec)

/-- 'laws.FnExactEditText', WHERE WHAT IT READS IS OF BULK AT MOST 1048576: true; the input reads as it did. -/
def fnExactEditTextUptoRow : OpenClaim := { program := "ytkiliooegoldoaa", sum := "5bbd2da42d530aad57e6fdabe4d7d339ab3d119d314fa641273826274147b9d7", func := "loop.example/g00592/laws.FnExactEditText", spec := "fnExactEditText", recurses := true, loops := true, apart := false, narrowed := true }
def FnExactEditTextUptoSaid : Prop := fnExactEditTextUptoRow.holds Try.pinned (OpenSpec.upto fnExactEditTextSpec)

/-- 'laws.FnExactIsAction', WHERE WHAT IT READS IS OF BULK AT MOST 1048576: true; the input reads as it did. -/
def fnExactIsActionUptoRow : OpenClaim := { program := "ytkiliooegoldoaa", sum := "5bbd2da42d530aad57e6fdabe4d7d339ab3d119d314fa641273826274147b9d7", func := "loop.example/g00592/laws.FnExactIsAction", spec := "fnExactIsAction", recurses := true, loops := true, apart := false, narrowed := true }
def FnExactIsActionUptoSaid : Prop := fnExactIsActionUptoRow.holds Try.pinned (OpenSpec.upto fnExactIsActionSpec)

/-- 'laws.FnExactIsMinor', WHERE WHAT IT READS IS OF BULK AT MOST 1048576: true; the input reads as it did. -/
def fnExactIsMinorUptoRow : OpenClaim := { program := "ytkiliooegoldoaa", sum := "5bbd2da42d530aad57e6fdabe4d7d339ab3d119d314fa641273826274147b9d7", func := "loop.example/g00592/laws.FnExactIsMinor", spec := "fnExactIsMinor", recurses := true, loops := true, apart := false, narrowed := true }
def FnExactIsMinorUptoSaid : Prop := fnExactIsMinorUptoRow.holds Try.pinned (OpenSpec.upto fnExactIsMinorSpec)

/-- 'laws.FnExactCanEdit', WHERE WHAT IT READS IS OF BULK AT MOST 1048576: true; the input reads as it did. -/
def fnExactCanEditUptoRow : OpenClaim := { program := "ytkiliooegoldoaa", sum := "5bbd2da42d530aad57e6fdabe4d7d339ab3d119d314fa641273826274147b9d7", func := "loop.example/g00592/laws.FnExactCanEdit", spec := "fnExactCanEdit", recurses := true, loops := true, apart := false, narrowed := true }
def FnExactCanEditUptoSaid : Prop := fnExactCanEditUptoRow.holds Try.pinned (OpenSpec.upto fnExactCanEditSpec)

end Rows
end Go.Proofs.Ytkiliooegoldoaa
