/- Walks: Txt -/
import Derived.Test.YtkiliooegoldoaaPathText
import Derived.Test.YtkiliooegoldoaaVVals
import Derived.Test.YtkiliooegoldoaaEdits
set_option linter.unusedVariables false
set_option linter.unusedSimpArgs false
namespace Go.Proofs.Ytkiliooegoldoaa
open Go

/-! ### Strings joined -/
def bpv (l : List UInt8) : List (List PV) := l.map fun b => [PV.int .u8 b.toNat]
theorem bpv_app {a b : List UInt8} : bpv (a ++ b) = bpv a ++ bpv b := List.map_append ..
theorem bpv_rows {l : List UInt8} : bytesOfRows (bpv l) = some l := by
  induction l with
  | nil => rfl
  | cons b l ih =>
    have : byteOf [PV.int .u8 (b.toNat : Int)] = some b := by simp [byteOf]
    simp only [bpv, List.map_cons, bytesOfRows] at ih ⊢
    rw [this, ih]; rfl
theorem bpv_len {l : List UInt8} : (bpv l).length = l.length := List.length_map ..
def jr (c : List UInt8) : List ByteArray → List UInt8
  | [] => []
  | s :: l => c ++ (s.data.toList ++ jr c l)
def jn (c : List UInt8) : List ByteArray → List UInt8
  | [] => []
  | s :: l => s.data.toList ++ jr c l
theorem jr_snoc {c : List UInt8} {s : ByteArray} : ∀ {l : List ByteArray}, jr c (l ++ [s]) = jr c l ++ (c ++ s.data.toList) := by
  intro l
  induction l with
  | nil => simp [jr]
  | cons x l ih => simp [jr, ih]
theorem jn_snoc {c : List UInt8} {s : ByteArray} {l : List ByteArray} (h : l ≠ []) : jn c (l ++ [s]) = jn c l ++ (c ++ s.data.toList) := by
  cases l with
  | nil => exact absurd rfl h
  | cons x l => simp [jn, jr_snoc]
theorem size_toList (s : ByteArray) : s.data.toList.length = s.size := rfl
theorem jr_len {c : List UInt8} : ∀ {l : List ByteArray}, (jr c l).length = (l.map ByteArray.size).sum + l.length * c.length := by
  intro l
  induction l with
  | nil => simp [jr]
  | cons x l ih => simp only [jr, List.length_append, ih, size_toList, List.map_cons, List.sum_cons, List.length_cons, Nat.succ_mul]; omega
theorem jn_len {c : List UInt8} {l : List ByteArray} : (jn c l).length ≤ (l.map ByteArray.size).sum + l.length * c.length := by
  cases l with
  | nil => simp [jn]
  | cons x l => simp only [jn, List.length_append, jr_len, size_toList, List.map_cons, List.sum_cons, List.length_cons, Nat.succ_mul]; omega
theorem jn_take {ls : List ByteArray} {i : Int} {e : ByteArray} (h0 : 0 ≤ i) (he : ls[i.toNat]? = some e) :
    jn [44] (ls.take (i + 1).toNat) = if i > 0 then jn [44] (ls.take i.toNat) ++ ([44] ++ e.data.toList) else e.data.toList := by
  have h1 : (i + 1).toNat = i.toNat + 1 := by omega
  have hlt := (List.getElem?_eq_some_iff.1 he).1
  rw [h1, List.take_add_one, he]
  split
  · rw [Option.toList_some, jn_snoc]
    intro h
    have := congrArg List.length h
    rw [List.length_take, List.length_nil] at this; omega
  · have : i.toNat = 0 := by omega
    rw [this]; simp [jn, jr]

/-- spec.Join -/
theorem w243 {ls : List ByteArray} (hl : strsOk ls) (hb : (ls.map ByteArray.size).sum + ls.length ≤ 1099511627776) : ∃ rs, Big tab (.fn 243 [[strs ls], [.str (bs [44])]] rs) ∧ rs = [[.str (bs (jn [44] ls))]] := by
  have hm : maxLen = 9223372036854775807 := rfl
  obtain ⟨hl1, hl2⟩ := hl
  have hlen : (ls.map strRow).length = ls.length := List.length_map ..
  have hc : (bs [44]).size = 1 := rfl
  refine tr_sound rfl c243 rfl ?_
  show wp _ _ _ _ [strs ls, .str (bs [44])]
  refine r_mk rfl ?_
  try simp only [List.cons_append, List.nil_append, List.flatten_cons, List.flatten_nil, List.append_nil]
  refine r_loop (fun m vs => ∃ i : Int, vs = [.sl 1 (bpv (jn [44] (ls.take i.toNat))), I i] ∧ 0 ≤ i ∧ i ≤ ls.length ∧ m = (ls.length - i).toNat) _ ⟨0, rfl, by omega, by omega, rfl⟩ ?_
  rintro m _ ⟨i, rfl, hi0, hi1, rfl⟩
  have hjl := jn_len (c := [44]) (l := ls.take i.toNat)
  have htl := take_sum_le (f := ByteArray.size) (l := ls) (n := i.toNat)
  have htk : (ls.take i.toNat).length ≤ ls.length := by simp; omega
  simp only [List.length_cons, List.length_nil, Nat.mul_one, Nat.zero_add] at hjl
  try simp only [List.cons_append, List.nil_append, List.flatten_cons, List.flatten_nil, List.append_nil]
  refine r_len rfl ?_
  try simp only [List.cons_append, List.nil_append, List.flatten_cons, List.flatten_nil, List.append_nil]
  first | refine r_lss rfl rfl ?_ | refine r_lssS rfl rfl ?_
  try simp only [List.cons_append, List.nil_append, List.flatten_cons, List.flatten_nil, List.append_nil]
  first | refine r_iteP rfl (fun h4 => ?_) (fun h4 => ?_) | refine r_iteNP rfl (fun h4 => ?_) (fun h4 => ?_) | refine r_iteN rfl (fun h4 => ?_) (fun h4 => ?_) | refine r_ite rfl (fun h4 => ?_) (fun h4 => ?_)
  · refine r_gtr rfl rfl ?_
    try simp only [List.cons_append, List.nil_append, List.flatten_cons, List.flatten_nil, List.append_nil]
    first | refine r_iteP rfl (fun h6 => ?_) (fun h6 => ?_) | refine r_iteNP rfl (fun h6 => ?_) (fun h6 => ?_) | refine r_iteN rfl (fun h6 => ?_) (fun h6 => ?_) | refine r_ite rfl (fun h6 => ?_) (fun h6 => ?_)
    · refine r_appStr (xs := bpv (jn [44] (ls.take i.toNat))) rfl rfl (by rw [bpv_len, hc]; omega) ?_
      try simp only [List.cons_append, List.nil_append, List.flatten_cons, List.flatten_nil, List.append_nil]
      refine r_inbT rfl rfl (by omega) (by omega) (fun e8 he8 hr8 => ?_)
      try simp only [List.cons_append, List.nil_append, List.flatten_cons, List.flatten_nil, List.append_nil]
      have hsn := jn_take hi0 he8
      rw [if_pos h6] at hsn
      have hm8 := mem_sum (f := ByteArray.size) (List.mem_of_getElem? he8)
      refine r_get1 rfl rfl hr8 rfl rfl ?_
      try simp only [List.cons_append, List.nil_append, List.flatten_cons, List.flatten_nil, List.append_nil]
      refine r_appStr rfl rfl (by rw [List.length_append, bpv_len]; simp only [bytesPV, List.length_map]; show _ + 1 + _ ≤ _; omega) ?_
      try simp only [List.cons_append, List.nil_append, List.flatten_cons, List.flatten_nil, List.append_nil]
      first | refine r_add rfl rfl (by simp only [inR] at *; omega) ?_ | refine r_addS rfl rfl (by omega) ?_
      try simp only [List.cons_append, List.nil_append, List.flatten_cons, List.flatten_nil, List.append_nil]
      refine r_again ⟨_, by omega, i + 1, ?_, by omega, by omega, rfl⟩
      rw [hsn, bpv_app, bpv_app, ← List.append_assoc]
      rfl
    · refine r_inbT rfl rfl (by omega) (by omega) (fun e13 he13 hr13 => ?_)
      try simp only [List.cons_append, List.nil_append, List.flatten_cons, List.flatten_nil, List.append_nil]
      have hsn := jn_take hi0 he13
      rw [if_neg h6] at hsn
      have hm13 := mem_sum (f := ByteArray.size) (List.mem_of_getElem? he13)
      refine r_get1 rfl rfl hr13 rfl rfl ?_
      try simp only [List.cons_append, List.nil_append, List.flatten_cons, List.flatten_nil, List.append_nil]
      refine r_appStr (xs := bpv (jn [44] (ls.take i.toNat))) rfl rfl (by rw [bpv_len]; omega) ?_
      try simp only [List.cons_append, List.nil_append, List.flatten_cons, List.flatten_nil, List.append_nil]
      first | refine r_add rfl rfl (by simp only [inR] at *; omega) ?_ | refine r_addS rfl rfl (by omega) ?_
      try simp only [List.cons_append, List.nil_append, List.flatten_cons, List.flatten_nil, List.append_nil]
      refine r_again ⟨_, by omega, i + 1, ?_, by omega, by omega, rfl⟩
      have hz : i.toNat = 0 := by omega
      rw [hsn, hz]
      rfl
  · refine r_bytes (xs := bpv (jn [44] (ls.take i.toNat))) rfl bpv_rows ?_
    try simp only [List.cons_append, List.nil_append, List.flatten_cons, List.flatten_nil, List.append_nil]
    refine r_ret rfl ?_
    rw [List.take_of_length_le (by omega)]; rfl

/-- impl.Join -/
theorem w244 {ls : List ByteArray} (hl : strsOk ls) (hb : (ls.map ByteArray.size).sum + ls.length ≤ 1099511627776) : ∃ rs, Big tab (.fn 244 [[strs ls], [.str (bs [44])]] rs) ∧ rs = [[.str (bs (jn [44] ls))]] := by
  have hm : maxLen = 9223372036854775807 := rfl
  obtain ⟨hl1, hl2⟩ := hl
  have hlen : (ls.map strRow).length = ls.length := List.length_map ..
  have hc : (bs [44]).size = 1 := rfl
  refine tr_sound rfl c244 rfl ?_
  show wp _ _ _ _ [strs ls, .str (bs [44])]
  refine r_mk rfl ?_
  try simp only [List.cons_append, List.nil_append, List.flatten_cons, List.flatten_nil, List.append_nil]
  refine r_len rfl ?_
  try simp only [List.cons_append, List.nil_append, List.flatten_cons, List.flatten_nil, List.append_nil]
  refine r_loop (fun m vs => ∃ i : Int, vs = [.sl 1 (bpv (jn [44] (ls.take i.toNat))), I i] ∧ 0 ≤ i ∧ i ≤ ls.length ∧ m = (ls.length - i).toNat) _ ⟨0, rfl, by omega, by omega, rfl⟩ ?_
  rintro m _ ⟨i, rfl, hi0, hi1, rfl⟩
  have hjl := jn_len (c := [44]) (l := ls.take i.toNat)
  have htl := take_sum_le (f := ByteArray.size) (l := ls) (n := i.toNat)
  have htk : (ls.take i.toNat).length ≤ ls.length := by simp; omega
  simp only [List.length_cons, List.length_nil, Nat.mul_one, Nat.zero_add] at hjl
  try simp only [List.cons_append, List.nil_append, List.flatten_cons, List.flatten_nil, List.append_nil]
  first | refine r_lss rfl rfl ?_ | refine r_lssS rfl rfl ?_
  try simp only [List.cons_append, List.nil_append, List.flatten_cons, List.flatten_nil, List.append_nil]
  first | refine r_iteP rfl (fun h4 => ?_) (fun h4 => ?_) | refine r_iteNP rfl (fun h4 => ?_) (fun h4 => ?_) | refine r_iteN rfl (fun h4 => ?_) (fun h4 => ?_) | refine r_ite rfl (fun h4 => ?_) (fun h4 => ?_)
  · refine r_inbT rfl rfl (by omega) (by omega) (fun e5 he5 hr5 => ?_)
    try simp only [List.cons_append, List.nil_append, List.flatten_cons, List.flatten_nil, List.append_nil]
    have hsn := jn_take hi0 he5
    have hm8 := mem_sum (f := ByteArray.size) (List.mem_of_getElem? he5)
    refine r_get1 rfl rfl hr5 rfl rfl ?_
    try simp only [List.cons_append, List.nil_append, List.flatten_cons, List.flatten_nil, List.append_nil]
    refine r_gtr rfl rfl ?_
    try simp only [List.cons_append, List.nil_append, List.flatten_cons, List.flatten_nil, List.append_nil]
    first | refine r_iteP rfl (fun h8 => ?_) (fun h8 => ?_) | refine r_iteNP rfl (fun h8 => ?_) (fun h8 => ?_) | refine r_iteN rfl (fun h8 => ?_) (fun h8 => ?_) | refine r_ite rfl (fun h8 => ?_) (fun h8 => ?_)
    · rw [if_pos h8] at hsn
      refine r_appStr (xs := bpv (jn [44] (ls.take i.toNat))) rfl rfl (by rw [bpv_len, hc]; omega) ?_
      try simp only [List.cons_append, List.nil_append, List.flatten_cons, List.flatten_nil, List.append_nil]
      refine r_appStr rfl rfl (by rw [List.length_append, bpv_len]; simp only [bytesPV, List.length_map]; show _ + 1 + _ ≤ _; omega) ?_
      try simp only [List.cons_append, List.nil_append, List.flatten_cons, List.flatten_nil, List.append_nil]
      first | refine r_add rfl rfl (by simp only [inR] at *; omega) ?_ | refine r_addS rfl rfl (by omega) ?_
      try simp only [List.cons_append, List.nil_append, List.flatten_cons, List.flatten_nil, List.append_nil]
      refine r_again ⟨_, by omega, i + 1, ?_, by omega, by omega, rfl⟩
      rw [hsn, bpv_app, bpv_app, ← List.append_assoc]
      rfl
    · rw [if_neg h8] at hsn
      refine r_appStr (xs := bpv (jn [44] (ls.take i.toNat))) rfl rfl (by rw [bpv_len]; omega) ?_
      try simp only [List.cons_append, List.nil_append, List.flatten_cons, List.flatten_nil, List.append_nil]
      first | refine r_add rfl rfl (by simp only [inR] at *; omega) ?_ | refine r_addS rfl rfl (by omega) ?_
      try simp only [List.cons_append, List.nil_append, List.flatten_cons, List.flatten_nil, List.append_nil]
      refine r_again ⟨_, by omega, i + 1, ?_, by omega, by omega, rfl⟩
      have hz : i.toNat = 0 := by omega
      rw [hsn, hz]
      rfl
  · refine r_bytes (xs := bpv (jn [44] (ls.take i.toNat))) rfl bpv_rows ?_
    try simp only [List.cons_append, List.nil_append, List.flatten_cons, List.flatten_nil, List.append_nil]
    refine r_ret rfl ?_
    rw [List.take_of_length_le (by omega)]; rfl

/-! ### A value's text -/
def vparts (k : Int) (ls ts : List ByteArray) : List ByteArray := if k = 3 then List.zipWith (fun l t => l ++ bs [61] ++ t) ls ts else ts
def vtxt (k n : Int) (s : ByteArray) (ls ts : List ByteArray) : ByteArray :=
  if k = 1 then fmt n else if k = 2 then (if n = 1 then bs [35, 116] else bs [35, 102]) else
  if k = 4 then bs [60] ++ s ++ bs [32] ++ ts.headD (bs []) ++ bs [62] else
  if k = 3 then bs [123] ++ bs (jn [44] (vparts k ls ts)) ++ bs [125] else bs [91] ++ bs (jn [44] (vparts k ls ts)) ++ bs [93]
mutual
def Val.txt : Val → ByteArray
  | .mk k n s ls us => vtxt k n s ls (valTxts us)
def valTxts : List Val → List ByteArray
  | [] => []
  | v :: vs => v.txt :: valTxts vs
end
theorem valTxts_eq : ∀ vs, valTxts vs = vs.map Val.txt := by
  intro vs
  induction vs with
  | nil => rfl
  | cons v vs ih => simp only [valTxts, ih, List.map_cons]
theorem Val.txt_mk {k n s ls us} : (Val.mk k n s ls us).txt = vtxt k n s ls (us.map Val.txt) := by
  rw [Val.txt, valTxts_eq]
theorem zsum : ∀ {ls : List ByteArray} {us : List Val}, (∀ l ∈ ls, l.size ≤ 4) →
    ((List.zipWith (fun l t => l ++ bs [61] ++ t) ls (us.map Val.txt)).map ByteArray.size).sum + (List.zipWith (fun l t => l ++ bs [61] ++ t) ls (us.map Val.txt)).length ≤ (us.map fun u => u.txt.size + 6).sum := by
  intro ls
  induction ls with
  | nil => intro us _; simp
  | cons l ls ih =>
    intro us h
    cases us with
    | nil => simp
    | cons u us =>
      have h1 := ih (us := us) fun x hx => h x (by simp [hx])
      have h2 := h l (by simp)
      have h3 : (bs [61]).size = 1 := rfl
      simp only [List.map_cons, List.zipWith_cons_cons, List.sum_cons, List.length_cons, ByteArray.size_append, h3]
      omega
theorem tsum {us : List Val} : ((us.map Val.txt).map ByteArray.size).sum + us.length ≤ (us.map fun u => u.txt.size + 6).sum := by
  induction us with
  | nil => simp
  | cons u us ih => simp only [List.map_cons, List.sum_cons, List.length_cons]; omega
theorem nsum {us : List Val} (h : ∀ u ∈ us, u.txt.size + 6 ≤ 30 * u.nodes) : (us.map fun u => u.txt.size + 6).sum ≤ 30 * (us.map Val.nodes).sum := by
  induction us with
  | nil => simp
  | cons u us ih =>
    have h1 := h u (by simp)
    have h2 := ih fun x hx => h x (by simp [hx])
    simp only [List.map_cons, List.sum_cons]
    omega
theorem psum {k : Int} {ls : List ByteArray} {us : List Val} (hl : k = 3 → ∀ l ∈ ls, l.size ≤ 4) : ((vparts k ls (us.map Val.txt)).map ByteArray.size).sum + (vparts k ls (us.map Val.txt)).length ≤ (us.map fun u => u.txt.size + 6).sum := by
  unfold vparts
  split
  · rename_i hk; exact zsum (hl hk)
  · have := tsum (us := us); rw [List.length_map]; exact this
theorem lab4 {ls : List ByteArray} (h : LabOk ls) : ∀ l ∈ ls, l.size ≤ 4 := fun l hl => (h.2.2.2 l hl).2.1
theorem Val.txt_size {v : Val} (hv : v.ok) (fv : VForm v) : v.txt.size + 6 ≤ 30 * v.nodes := by
  induction v using Val.ind with
  | h k n s ls us ih =>
    obtain ⟨_, hn, hs, hls, hal, has⟩ := hv
    obtain ⟨fv1, fv2⟩ := VForm_mk.1 fv
    have hN := nsum fun u hu => ih u hu (has u hu) (fv2 u hu)
    rw [Val.txt_mk, Val.nodes_mk]
    unfold vtxt
    have b1 : ∀ x : UInt8, (bs [x]).size = 1 := fun x => rfl
    rcases fv1 with ⟨h, _⟩ | ⟨h, _⟩ | ⟨h, _, _, _, hlab⟩ | ⟨h, _, hnm, _, hu⟩ | ⟨h, _⟩
    · rw [if_pos h]; have := fmt_size hn; omega
    · rw [if_neg (by omega), if_pos h]; split <;> simp [bs_size] <;> omega
    · rw [if_neg (by omega), if_neg (by omega), if_neg (by omega), if_pos h]
      have h1 := psum (k := k) (ls := ls) (us := us) (fun _ => lab4 hlab)
      have h2 := jn_len (c := [44]) (l := vparts k ls (us.map Val.txt))
      simp only [List.length_cons, List.length_nil, Nat.mul_one, Nat.zero_add] at h2
      simp only [ByteArray.size_append, b1, bs_size]
      omega
    · rw [if_neg (by omega), if_neg (by omega), if_pos h]
      match us, hu with
      | [u], _ =>
        have := hnm.2.1
        simp only [List.map_cons, List.map_nil, List.headD_cons, List.sum_cons, List.sum_nil, ByteArray.size_append, b1] at hN ⊢
        omega
    · rw [if_neg (by omega), if_neg (by omega), if_neg (by omega), if_neg (by omega)]
      have h1 := psum (k := k) (ls := ls) (us := us) (fun h3 => by omega)
      have h2 := jn_len (c := [44]) (l := vparts k ls (us.map Val.txt))
      simp only [List.length_cons, List.length_nil, Nat.mul_one, Nat.zero_add] at h2
      simp only [ByteArray.size_append, b1, bs_size]
      omega
theorem part3 {k : Int} {ls : List ByteArray} {us : List Val} {j : Nat} {l : ByteArray} {u : Val} (h : k = 3) (hl : ls[j]? = some l) (hu : us[j]? = some u) : (vparts k ls (us.map Val.txt))[j]? = some (l ++ bs [61] ++ u.txt) := by
  unfold vparts
  rw [if_pos h, List.getElem?_zipWith, hl, List.getElem?_map, hu]
  rfl
theorem partN {k : Int} {ls : List ByteArray} {us : List Val} {j : Nat} {u : Val} (h : ¬ k = 3) (hu : us[j]? = some u) : (vparts k ls (us.map Val.txt))[j]? = some u.txt := by
  unfold vparts
  rw [if_neg h, List.getElem?_map, hu]
  rfl
theorem part_step {P : List ByteArray} {i : Int} {x : ByteArray} (h0 : 0 ≤ i) (h : P[i.toNat]? = some x) : (P.take (i + 1).toNat).map strRow = (P.take i.toNat).map strRow ++ [strRow x] := by
  have h1 : (i + 1).toNat = i.toNat + 1 := by omega
  rw [h1, List.take_add_one, h]
  simp
theorem part_len {k : Int} {ls : List ByteArray} {us : List Val} (h : k = 3 → ls.length = us.length) : (vparts k ls (us.map Val.txt)).length = us.length := by
  unfold vparts
  split
  · rename_i hk; rw [List.length_zipWith, List.length_map, h hk]; simp
  · rw [List.length_map]
end Go.Proofs.Ytkiliooegoldoaa
