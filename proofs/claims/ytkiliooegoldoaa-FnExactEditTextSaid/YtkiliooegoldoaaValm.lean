/- Walks: Valm -/
import Derived.Test.YtkiliooegoldoaaVals
set_option linter.unusedVariables false
set_option linter.unusedSimpArgs false
namespace Go.Proofs.Ytkiliooegoldoaa
open Go

section
variable {k n : Int} {s : ByteArray} {ls : List ByteArray} {us : List Val}
theorem w76m {left : Int} (hv : (Val.mk k n s ls us).ok) (h0 : 0 ≤ left) (h1 : left ≤ 9223372036854775807) : ∃ rs, Big tab (.fn 76 [[I k, I n, .str s, strs ls, vals us], [I left]] rs) ∧ ∃ r, rs = [[I r]] ∧ (r = -1 ∨ (0 ≤ r ∧ r + (Val.mk k n s ls us).wt ≤ left)) := by
  have := w76 hv h0 h1
  rwa [Val.row_mk] at this
theorem w78m (hw : (Val.mk k n s ls us).wt ≤ 1099511627776) : ∃ rs, Big tab (.fn 78 [[I k, I n, .str s, strs ls, vals us]] rs) ∧ rs = [[I k, I n, .str s, strs ls, vals us]] := by
  have := w78 hw
  rwa [Val.row_mk] at this
theorem w81m {k' n' : Int} {s' : ByteArray} {ls' : List ByteArray} {us' : List Val} (hv : (Val.mk k n s ls us).ok) (hv' : (Val.mk k' n' s' ls' us').ok) :
    ∃ rs, Big tab (.fn 81 [[I k, I n, .str s, strs ls, vals us], [I k', I n', .str s', strs ls', vals us']] rs) ∧ ∃ b, rs = [[.bool b]] ∧ (b = true ↔ Val.mk k n s ls us = Val.mk k' n' s' ls' us') := by
  have := w81 hv hv'
  rwa [Val.row_mk, Val.row_mk] at this
end
end Go.Proofs.Ytkiliooegoldoaa
