/- Walks: EditCost -/
import Derived.Test.YtkiliooegoldoaaEdits
import Derived.Test.YtkiliooegoldoaaSizeV
set_option linter.unusedVariables false
set_option linter.unusedSimpArgs false
namespace Go.Proofs.Ytkiliooegoldoaa
open Go

theorem w72m {k n : Int} {s : ByteArray} {ls : List ByteArray} {us : List Val} (hb : (Val.mk k n s ls us).nodes ≤ 1099511627777) : ∃ rs, Big tab (.fn 72 [[I k, I n, .str s, strs ls, vals us]] rs) ∧ rs = [[I (Val.mk k n s ls us).nodes]] := by
  have := w72 hb
  rwa [Val.row_mk] at this
theorem w74m {k n : Int} {s : ByteArray} {ls : List ByteArray} {us : List Val} (hb : (Val.mk k n s ls us).nodes ≤ 1099511627777) : ∃ rs, Big tab (.fn 74 [[I k, I n, .str s, strs ls, vals us]] rs) ∧ rs = [[I (Val.mk k n s ls us).nodes]] := by
  have := w74 hb
  rwa [Val.row_mk] at this
def Edt.cost (e : Edt) : Nat := if e.k = 3 then 1 else e.v.nodes
theorem Edt.cost_le (e : Edt) : e.cost ≤ e.wt + 1 := by
  unfold Edt.cost
  have := e.v.nodes_le
  simp only [Edt.wt]
  split <;> omega
theorem edts_cost {l : List Edt} : (l.map Edt.cost).sum ≤ edtsWt l := sum_le fun e _ => e.cost_le

/-- spec.EditCost -/
theorem w42 {l : List Edt} (hl : edtsOk l) (hw : edtsWt l ≤ 1099511627776) : ∃ rs, Big tab (.fn 42 [[edts l]] rs) ∧ rs = [[I ((l.map Edt.cost).sum : Nat)]] := by
  have hlen : (l.map Edt.row).length = l.length := List.length_map ..
  have hcl := edts_cost (l := l)
  have hll : l.length ≤ edtsWt l := by simp only [edtsWt]; omega
  refine tr_sound rfl c42 rfl ?_
  show wp _ _ _ _ [edts l]
  refine r_loop (fun m vs => ∃ c i : Int, vs = [I c, I i] ∧ c = ((l.take i.toNat).map Edt.cost).sum ∧ 0 ≤ i ∧ i ≤ l.length ∧ m = (l.length - i).toNat) _ ⟨_, _, rfl, by simp, by omega, by omega, rfl⟩ ?_
  rintro m _ ⟨c, i, rfl, hc, hi0, hi1, rfl⟩
  have htl := take_sum_le (f := Edt.cost) (l := l) (n := i.toNat)
  try simp only [List.cons_append, List.nil_append, List.flatten_cons, List.flatten_nil, List.append_nil]
  refine r_len rfl ?_
  simp only [List.cons_append, List.nil_append, List.flatten_cons, List.flatten_nil, List.append_nil]
  try simp only [List.cons_append, List.nil_append, List.flatten_cons, List.flatten_nil, List.append_nil]
  refine r_lss rfl rfl ?_
  simp only [List.cons_append, List.nil_append, List.flatten_cons, List.flatten_nil, List.append_nil]
  try simp only [List.cons_append, List.nil_append, List.flatten_cons, List.flatten_nil, List.append_nil]
  first | refine r_iteP rfl (fun h3 => ?_) (fun h3 => ?_) | refine r_iteNP rfl (fun h3 => ?_) (fun h3 => ?_) | refine r_iteN rfl (fun h3 => ?_) (fun h3 => ?_) | refine r_ite rfl (fun h3 => ?_) (fun h3 => ?_)
  · refine r_inbT rfl rfl (by omega) (by omega) (fun e4 he4 hr4 => ?_)
    simp only [List.cons_append, List.nil_append, List.flatten_cons, List.flatten_nil, List.append_nil]
    try simp only [List.cons_append, List.nil_append, List.flatten_cons, List.flatten_nil, List.append_nil]
    have hm4 := List.mem_of_getElem? he4
    have es4 := take_sum (f := Edt.cost) hi0 he4
    have htl4 := take_sum_le (f := Edt.cost) (l := l) (n := (i + 1).toNat)
    have hn4 : e4.v.nodes ≤ 1099511627777 := by
      have := e4.v.nodes_le
      have := mem_sum (f := Edt.wt) hm4
      have : e4.v.wt ≤ e4.wt := by simp only [Edt.wt]; omega
      simp only [edtsWt] at hw; omega
    obtain ⟨k4, p4, ⟨vk4, vn4, vs4, vl4, va4⟩, n4⟩ := e4
    rw [Edt.row_mk] at hr4
    simp only [Edt.cost] at es4
    refine r_get1 rfl rfl hr4 rfl rfl ?_
    simp only [List.cons_append, List.nil_append, List.flatten_cons, List.flatten_nil, List.append_nil]
    try simp only [List.cons_append, List.nil_append, List.flatten_cons, List.flatten_nil, List.append_nil]
    first | refine r_eql rfl rfl ?_ | refine r_eqlS rfl rfl ?_
    try simp only [List.cons_append, List.nil_append, List.flatten_cons, List.flatten_nil, List.append_nil]
    first | refine r_iteP rfl (fun h7 => ?_) (fun h7 => ?_) | refine r_iteNP rfl (fun h7 => ?_) (fun h7 => ?_) | refine r_iteN rfl (fun h7 => ?_) (fun h7 => ?_) | refine r_ite rfl (fun h7 => ?_) (fun h7 => ?_)
    · first | refine r_add rfl rfl (by simp only [inR] at *; omega) ?_ | refine r_addS rfl rfl (by omega) ?_
      try simp only [List.cons_append, List.nil_append, List.flatten_cons, List.flatten_nil, List.append_nil]
      first | refine r_add rfl rfl (by simp only [inR] at *; omega) ?_ | refine r_addS rfl rfl (by omega) ?_
      try simp only [List.cons_append, List.nil_append, List.flatten_cons, List.flatten_nil, List.append_nil]
      rw [if_pos h7] at es4
      exact r_again ⟨_, by omega, _, _, rfl, by omega, by omega, by omega, rfl⟩
    · refine r_inb rfl rfl (by omega) (by omega) ?_
      simp only [List.cons_append, List.nil_append, List.flatten_cons, List.flatten_nil, List.append_nil]
      try simp only [List.cons_append, List.nil_append, List.flatten_cons, List.flatten_nil, List.append_nil]
      refine r_get1 rfl rfl hr4 rfl rfl ?_
      simp only [List.cons_append, List.nil_append, List.flatten_cons, List.flatten_nil, List.append_nil]
      try simp only [List.cons_append, List.nil_append, List.flatten_cons, List.flatten_nil, List.append_nil]
      refine r_get1 rfl rfl hr4 rfl rfl ?_
      simp only [List.cons_append, List.nil_append, List.flatten_cons, List.flatten_nil, List.append_nil]
      try simp only [List.cons_append, List.nil_append, List.flatten_cons, List.flatten_nil, List.append_nil]
      refine r_get1 rfl rfl hr4 rfl rfl ?_
      simp only [List.cons_append, List.nil_append, List.flatten_cons, List.flatten_nil, List.append_nil]
      try simp only [List.cons_append, List.nil_append, List.flatten_cons, List.flatten_nil, List.append_nil]
      refine r_get1 rfl rfl hr4 rfl rfl ?_
      simp only [List.cons_append, List.nil_append, List.flatten_cons, List.flatten_nil, List.append_nil]
      try simp only [List.cons_append, List.nil_append, List.flatten_cons, List.flatten_nil, List.append_nil]
      refine r_get1 rfl rfl hr4 rfl rfl ?_
      simp only [List.cons_append, List.nil_append, List.flatten_cons, List.flatten_nil, List.append_nil]
      try simp only [List.cons_append, List.nil_append, List.flatten_cons, List.flatten_nil, List.append_nil]
      rw [if_neg h7] at es4
      refine r_callQ (w72m hn4) rfl ?_
      rintro _ rfl
      refine ⟨rfl, ?_⟩
      try simp only [List.cons_append, List.nil_append, List.flatten_cons, List.flatten_nil, List.append_nil]
      first | refine r_add rfl rfl (by simp only [inR] at *; omega) ?_ | refine r_addS rfl rfl (by omega) ?_
      try simp only [List.cons_append, List.nil_append, List.flatten_cons, List.flatten_nil, List.append_nil]
      first | refine r_add rfl rfl (by simp only [inR] at *; omega) ?_ | refine r_addS rfl rfl (by omega) ?_
      try simp only [List.cons_append, List.nil_append, List.flatten_cons, List.flatten_nil, List.append_nil]
      exact r_again ⟨_, by omega, _, _, rfl, by omega, by omega, by omega, rfl⟩
  · have es := take_sum_all (f := Edt.cost) (l := l) (i := i) (by omega)
    rw [es] at hc
    exact r_ret (vs := [[I c]]) rfl (by rw [hc])

/-- impl.EditCost -/
theorem w44 {l : List Edt} (hl : edtsOk l) (hw : edtsWt l ≤ 1099511627776) : ∃ rs, Big tab (.fn 44 [[edts l]] rs) ∧ rs = [[I ((l.map Edt.cost).sum : Nat)]] := by
  have hlen : (l.map Edt.row).length = l.length := List.length_map ..
  have hcl := edts_cost (l := l)
  have hll : l.length ≤ edtsWt l := by simp only [edtsWt]; omega
  refine tr_sound rfl c44 rfl ?_
  show wp _ _ _ _ [edts l]
  refine r_len rfl ?_
  simp only [List.cons_append, List.nil_append, List.flatten_cons, List.flatten_nil, List.append_nil]
  try simp only [List.cons_append, List.nil_append, List.flatten_cons, List.flatten_nil, List.append_nil]
  refine r_loop (fun m vs => ∃ c i : Int, vs = [I c, I i] ∧ c = ((l.take i.toNat).map Edt.cost).sum ∧ 0 ≤ i ∧ i ≤ l.length ∧ m = (l.length - i).toNat) _ ⟨_, _, rfl, by simp, by omega, by omega, rfl⟩ ?_
  rintro m _ ⟨c, i, rfl, hc, hi0, hi1, rfl⟩
  have htl := take_sum_le (f := Edt.cost) (l := l) (n := i.toNat)
  try simp only [List.cons_append, List.nil_append, List.flatten_cons, List.flatten_nil, List.append_nil]
  refine r_lss rfl rfl ?_
  simp only [List.cons_append, List.nil_append, List.flatten_cons, List.flatten_nil, List.append_nil]
  try simp only [List.cons_append, List.nil_append, List.flatten_cons, List.flatten_nil, List.append_nil]
  first | refine r_iteP rfl (fun h3 => ?_) (fun h3 => ?_) | refine r_iteNP rfl (fun h3 => ?_) (fun h3 => ?_) | refine r_iteN rfl (fun h3 => ?_) (fun h3 => ?_) | refine r_ite rfl (fun h3 => ?_) (fun h3 => ?_)
  · refine r_inbT rfl rfl (by omega) (by omega) (fun e4 he4 hr4 => ?_)
    simp only [List.cons_append, List.nil_append, List.flatten_cons, List.flatten_nil, List.append_nil]
    try simp only [List.cons_append, List.nil_append, List.flatten_cons, List.flatten_nil, List.append_nil]
    have hm4 := List.mem_of_getElem? he4
    have es4 := take_sum (f := Edt.cost) hi0 he4
    have htl4 := take_sum_le (f := Edt.cost) (l := l) (n := (i + 1).toNat)
    have hn4 : e4.v.nodes ≤ 1099511627777 := by
      have := e4.v.nodes_le
      have := mem_sum (f := Edt.wt) hm4
      have : e4.v.wt ≤ e4.wt := by simp only [Edt.wt]; omega
      simp only [edtsWt] at hw; omega
    obtain ⟨k4, p4, ⟨vk4, vn4, vs4, vl4, va4⟩, n4⟩ := e4
    rw [Edt.row_mk] at hr4
    simp only [Edt.cost] at es4
    refine r_get1 rfl rfl hr4 rfl rfl ?_
    simp only [List.cons_append, List.nil_append, List.flatten_cons, List.flatten_nil, List.append_nil]
    try simp only [List.cons_append, List.nil_append, List.flatten_cons, List.flatten_nil, List.append_nil]
    refine r_get1 rfl rfl hr4 rfl rfl ?_
    simp only [List.cons_append, List.nil_append, List.flatten_cons, List.flatten_nil, List.append_nil]
    try simp only [List.cons_append, List.nil_append, List.flatten_cons, List.flatten_nil, List.append_nil]
    refine r_get1 rfl rfl hr4 rfl rfl ?_
    simp only [List.cons_append, List.nil_append, List.flatten_cons, List.flatten_nil, List.append_nil]
    try simp only [List.cons_append, List.nil_append, List.flatten_cons, List.flatten_nil, List.append_nil]
    refine r_get1 rfl rfl hr4 rfl rfl ?_
    simp only [List.cons_append, List.nil_append, List.flatten_cons, List.flatten_nil, List.append_nil]
    try simp only [List.cons_append, List.nil_append, List.flatten_cons, List.flatten_nil, List.append_nil]
    refine r_get1 rfl rfl hr4 rfl rfl ?_
    simp only [List.cons_append, List.nil_append, List.flatten_cons, List.flatten_nil, List.append_nil]
    try simp only [List.cons_append, List.nil_append, List.flatten_cons, List.flatten_nil, List.append_nil]
    refine r_get1 rfl rfl hr4 rfl rfl ?_
    simp only [List.cons_append, List.nil_append, List.flatten_cons, List.flatten_nil, List.append_nil]
    try simp only [List.cons_append, List.nil_append, List.flatten_cons, List.flatten_nil, List.append_nil]
    refine r_get1 rfl rfl hr4 rfl rfl ?_
    simp only [List.cons_append, List.nil_append, List.flatten_cons, List.flatten_nil, List.append_nil]
    try simp only [List.cons_append, List.nil_append, List.flatten_cons, List.flatten_nil, List.append_nil]
    refine r_get1 rfl rfl hr4 rfl rfl ?_
    simp only [List.cons_append, List.nil_append, List.flatten_cons, List.flatten_nil, List.append_nil]
    try simp only [List.cons_append, List.nil_append, List.flatten_cons, List.flatten_nil, List.append_nil]
    first | refine r_eql rfl rfl ?_ | refine r_eqlS rfl rfl ?_
    try simp only [List.cons_append, List.nil_append, List.flatten_cons, List.flatten_nil, List.append_nil]
    first | refine r_iteP rfl (fun h14 => ?_) (fun h14 => ?_) | refine r_iteNP rfl (fun h14 => ?_) (fun h14 => ?_) | refine r_iteN rfl (fun h14 => ?_) (fun h14 => ?_) | refine r_ite rfl (fun h14 => ?_) (fun h14 => ?_)
    · first | refine r_add rfl rfl (by simp only [inR] at *; omega) ?_ | refine r_addS rfl rfl (by omega) ?_
      try simp only [List.cons_append, List.nil_append, List.flatten_cons, List.flatten_nil, List.append_nil]
      first | refine r_add rfl rfl (by simp only [inR] at *; omega) ?_ | refine r_addS rfl rfl (by omega) ?_
      try simp only [List.cons_append, List.nil_append, List.flatten_cons, List.flatten_nil, List.append_nil]
      rw [if_pos h14] at es4
      exact r_again ⟨_, by omega, _, _, rfl, by omega, by omega, by omega, rfl⟩
    · rw [if_neg h14] at es4
      refine r_callQ (w74m hn4) rfl ?_
      rintro _ rfl
      refine ⟨rfl, ?_⟩
      try simp only [List.cons_append, List.nil_append, List.flatten_cons, List.flatten_nil, List.append_nil]
      first | refine r_add rfl rfl (by simp only [inR] at *; omega) ?_ | refine r_addS rfl rfl (by omega) ?_
      try simp only [List.cons_append, List.nil_append, List.flatten_cons, List.flatten_nil, List.append_nil]
      first | refine r_add rfl rfl (by simp only [inR] at *; omega) ?_ | refine r_addS rfl rfl (by omega) ?_
      try simp only [List.cons_append, List.nil_append, List.flatten_cons, List.flatten_nil, List.append_nil]
      exact r_again ⟨_, by omega, _, _, rfl, by omega, by omega, by omega, rfl⟩
  · have es := take_sum_all (f := Edt.cost) (l := l) (i := i) (by omega)
    rw [es] at hc
    exact r_ret (vs := [[I c]]) rfl (by rw [hc])

/-- laws.FnExactEditCost -/
theorem w7 {l : List Edt} (hl : edtsOk l) : ∃ rs, Big tab (.fn 7 [[edts l]] rs) ∧ rs = [[.bool true]] := by
  refine tr_sound rfl c7 rfl ?_
  show wp _ _ _ _ [edts l]
  refine r_callQ (w41 hl (by omega) (by omega)) rfl ?_
  rintro _ ⟨r0, rfl, hr0⟩
  refine ⟨rfl, ?_⟩
  try simp only [List.cons_append, List.nil_append, List.flatten_cons, List.flatten_nil, List.append_nil]
  refine r_lss rfl rfl ?_
  simp only [List.cons_append, List.nil_append, List.flatten_cons, List.flatten_nil, List.append_nil]
  try simp only [List.cons_append, List.nil_append, List.flatten_cons, List.flatten_nil, List.append_nil]
  first | refine r_iteP rfl (fun h2 => ?_) (fun h2 => ?_) | refine r_iteNP rfl (fun h2 => ?_) (fun h2 => ?_) | refine r_iteN rfl (fun h2 => ?_) (fun h2 => ?_) | refine r_ite rfl (fun h2 => ?_) (fun h2 => ?_)
  · refine r_ret rfl ?_
    rfl
  · have hw : edtsWt l ≤ 1099511627776 := by rcases hr0 with h | ⟨_, h⟩ <;> omega
    refine r_callQ (w43 hl hw) rfl ?_
    rintro _ rfl
    refine ⟨rfl, ?_⟩
    try simp only [List.cons_append, List.nil_append, List.flatten_cons, List.flatten_nil, List.append_nil]
    refine r_callQ (w42 (by first | assumption | omega | (simp only [inR] at *; omega)) (by first | assumption | omega | (simp only [inR] at *; omega))) rfl ?_
    rintro _ rfl
    refine ⟨rfl, ?_⟩
    try simp only [List.cons_append, List.nil_append, List.flatten_cons, List.flatten_nil, List.append_nil]
    refine r_callQ (w43 hl hw) rfl ?_
    rintro _ rfl
    refine ⟨rfl, ?_⟩
    try simp only [List.cons_append, List.nil_append, List.flatten_cons, List.flatten_nil, List.append_nil]
    refine r_callQ (w44 (by first | assumption | omega | (simp only [inR] at *; omega)) (by first | assumption | omega | (simp only [inR] at *; omega))) rfl ?_
    rintro _ rfl
    refine ⟨rfl, ?_⟩
    try simp only [List.cons_append, List.nil_append, List.flatten_cons, List.flatten_nil, List.append_nil]
    first | refine r_neq rfl rfl ?_ | refine r_neqS rfl rfl ?_
    try simp only [List.cons_append, List.nil_append, List.flatten_cons, List.flatten_nil, List.append_nil]
    first | refine r_iteP rfl (fun h9 => ?_) (fun h9 => ?_) | refine r_iteNP rfl (fun h9 => ?_) (fun h9 => ?_) | refine r_iteN rfl (fun h9 => ?_) (fun h9 => ?_) | refine r_ite rfl (fun h9 => ?_) (fun h9 => ?_)
    · refine r_ret rfl ?_
      simp at h9
    · refine r_callQ (w43 hl hw) rfl ?_
      rintro _ rfl
      refine ⟨rfl, ?_⟩
      try simp only [List.cons_append, List.nil_append, List.flatten_cons, List.flatten_nil, List.append_nil]
      refine r_callQ (w45 hl hl) rfl ?_
      rintro _ ⟨r12, rfl, hr12⟩
      refine ⟨rfl, ?_⟩
      try simp only [List.cons_append, List.nil_append, List.flatten_cons, List.flatten_nil, List.append_nil]
      refine r_not rfl ?_
      simp only [List.cons_append, List.nil_append, List.flatten_cons, List.flatten_nil, List.append_nil]
      try simp only [List.cons_append, List.nil_append, List.flatten_cons, List.flatten_nil, List.append_nil]
      first | refine r_iteP rfl (fun h14 => ?_) (fun h14 => ?_) | refine r_iteNP rfl (fun h14 => ?_) (fun h14 => ?_) | refine r_iteN rfl (fun h14 => ?_) (fun h14 => ?_) | refine r_ite rfl (fun h14 => ?_) (fun h14 => ?_)
      · refine r_ret rfl ?_
        rw [hr12.2 rfl] at h14; cases h14
      · refine r_ret rfl ?_
        rfl

end Go.Proofs.Ytkiliooegoldoaa
