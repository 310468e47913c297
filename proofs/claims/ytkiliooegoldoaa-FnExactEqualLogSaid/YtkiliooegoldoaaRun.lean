/- What the model's operations do, in the terms of the relation. -/
import Derived.Test.YtkiliooegoldoaaOps2
set_option linter.unusedVariables false
set_option linter.unusedSimpArgs false
namespace Go.Proofs.Ytkiliooegoldoaa
open Go
variable {P : Program} {w : World}

theorem addr_add (g o j : Nat) : (⟨g, o, none⟩ : Addr).add j = ⟨g, o + j, none⟩ := by unfold Addr.add; split <;> simp_all

def aggD : TypeDesc → Bool
  | .struct _ | .array _ _ => true
  | _ => false

theorem r_isAgg {t d} (h : P.underlying t = some d) : (isAgg t).run P w = .ok (aggD d) w := by
  simp [isAgg, run_underlying h]
  cases d <;> rfl
theorem r_size {t i} (h : P.info? t = some i) : (sizeOf t).run P w = .ok i.size w := by
  simp [sizeOf, typeInfo, h]

theorem r_loadOne {t d g o u} (h : P.underlying t = some d) (hd : aggD d = false) (hc : w.cell? ⟨g, o, none⟩ = some u) :
    (Instr.loadAt t (.pointer (some ⟨g, o, none⟩))).run P w = .ok u w := by
  simp [Instr.loadAt, Instr.sureAddr, loadVar, r_isAgg h, hd, hc]
theorem r_loadAgg {t d g o i} {us : List Value} (h : P.underlying t = some d) (hd : aggD d = true) (hi : P.info? t = some i) (hn : i.size = us.length)
    (hc : ∀ (k : Nat) u, us[k]? = some u → w.cell? ⟨g, o + k, none⟩ = some u) :
    (Instr.loadAt t (.pointer (some ⟨g, o, none⟩))).run P w = .ok (.agg us.toArray) w := by
  have := run_loadCells_list (P := P) w ⟨g, o, none⟩ us (fun j v hj => by rw [addr_add]; exact hc j v hj)
  simp [Instr.loadAt, Instr.sureAddr, loadVar, r_isAgg h, hd, r_size hi, hn, this]

theorem r_store {t g o i T} {cur : Array Value} {v : Value} (hi : P.info? t = some i) (hn : v.cells.size = i.size) (hg : w.heap[g]? = some (.cells cur T (0, 0))) (hl : o + v.cells.size ≤ cur.size)
    (h1 : ∀ u ∈ v.cells.toList, u.oneCell' = true) :
    (Instr.storeAt t (.pointer (some ⟨g, o, none⟩)) v).run P w = .ok () (w.setRow g (cur.toList.take o ++ v.cells.toList ++ cur.toList.drop (o + v.cells.size)).toArray) := by
  have := run_storeCells_at (P := P) g o T v.cells.toList 0 cur w hg (by simpa using hl) h1
  simp only [Nat.add_zero, Array.length_toList] at this
  simp [Instr.storeAt, Instr.sureAddr, storeVar, r_size hi, hn, this]

theorem r_field {s fs f fd g o i} (h : P.underlying s = some (.struct fs)) (hf : fs[f]? = some fd) (hi : P.info? fd.type = some i) (hz : i.size ≠ 0) :
    (Instr.fieldAt s (.pointer (some ⟨g, o, none⟩)) f).run P w = .ok (.pointer (some ⟨g, o + fd.offset, none⟩)) w := by
  simp [Instr.fieldAt, run_underlying h, hf, Instr.sureAddr, fieldPlace, r_size hi, hz, addr_add]

theorem r_index {t e i k g o n c} {z : Nat} (h : P.underlying t = some (.slice e)) (hi : P.info? e = some i) (hz : z < n) :
    (Instr.indexAt t (.slice (some ⟨g, o, none⟩) n c) (.int k z)).run P w = .ok (.pointer (some ⟨g, o + z * i.size, none⟩)) w := by
  simp [Instr.indexAt, asIntOf, run_underlying h, r_size hi, hz, addr_add]

theorem r_alloc {t i z} (hi : P.info? t = some i) (hz : i.zero = some z) :
    (Instr.alloc t true (.tuple #[])).run P w = .ok (.pointer (some ⟨w.heap.size, 0, none⟩)) (w.alloc (.cells z.cells t)) := by
  simp [Instr.alloc, zeroValue, typeInfo, hi, hz, newVar, newRow]
theorem r_box {t v} : (Instr.box t v).run P w = .ok (.pointer (some ⟨w.heap.size, 0, none⟩)) (w.alloc (.cells v.cells t)) := by
  simp [Instr.box, newVar, newRow]

/-! ### Building -/
theorem foldl_set (cs : List Value) : ∀ (arr : Array Value) (off k : Nat), off + k + cs.length ≤ arr.size →
    ((cs.zipIdx k).foldl (fun (cs : Array Value) (x : Value × Nat) => cs.setIfInBounds (off + x.2) x.1) arr).toList = arr.toList.take (off + k) ++ cs ++ arr.toList.drop (off + k + cs.length) := by
  induction cs with
  | nil => intro arr off k h; simp
  | cons c cs ih =>
    intro arr off k h
    simp only [List.zipIdx_cons, List.foldl_cons]
    rw [ih _ off (k + 1) (by simp at h ⊢; omega)]
    simp only [Array.toList_setIfInBounds]
    simp only [List.length_cons] at h
    have hs : off + k < arr.toList.length := by simp; omega
    have e : arr.toList.set (off + k) c = arr.toList.take (off + k) ++ c :: arr.toList.drop (off + k + 1) := by
      rw [List.set_eq_take_append_cons_drop, if_pos hs]
    have hl : (arr.toList.take (off + k)).length = off + k := by simp; omega
    rw [e]
    rw [show off + (k + 1) = (arr.toList.take (off + k)).length + 1 from by omega, List.take_append, List.take_of_length_le (by omega)]
    rw [show (arr.toList.take (off + k)).length + 1 + cs.length = (arr.toList.take (off + k)).length + (1 + cs.length) from by omega, List.drop_append, List.drop_of_length_le (l := arr.toList.take (off + k)) (by omega)]
    rw [show (arr.toList.take (off + k)).length + 1 - (arr.toList.take (off + k)).length = 1 from by omega, show (arr.toList.take (off + k)).length + (1 + cs.length) - (arr.toList.take (off + k)).length = cs.length + 1 from by omega]
    simp only [List.take_succ_cons, List.take_zero, List.drop_succ_cons, List.drop_drop, List.nil_append, List.append_assoc, List.cons_append, List.length_cons]
    congr 3
    congr 1
    omega

theorem fill_cons {place : Nat → Option (Nat × Nat)} {cells : Array Value} {i : Nat} {v : Value} {rest} {off size : Nat} (hp : place i = some (off, size)) (hs : v.cells.size = size) (hl : off + v.cells.size ≤ cells.size) :
    Instr.fill place cells ((i, v) :: rest) = Instr.fill place (cells.toList.take off ++ v.cells.toList ++ cells.toList.drop (off + v.cells.size)).toArray rest := by
  simp only [Instr.fill, hp]
  rw [if_neg (by simp [hs]; omega)]
  congr 1
  apply Array.ext'
  have := foldl_set v.cells.toList cells off 0 (by simpa using hl)
  simp only [Nat.add_zero, Array.length_toList] at this
  rw [← this]
  rw [← Array.foldl_toList]
  simp [Array.toList_zipIdx]

end Go.Proofs.Ytkiliooegoldoaa
