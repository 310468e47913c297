/- Walks: VTypes -/
import Derived.Test.YtkiliooegoldoaaLabs
import Derived.Test.YtkiliooegoldoaaSizeV
import Derived.Test.YtkiliooegoldoaaE6
set_option linter.unusedVariables false
set_option linter.unusedSimpArgs false
namespace Go.Proofs.Ytkiliooegoldoaa
open Go

/-! ### Types: size, depth, form -/
mutual
def Typ.nodes : Typ → Nat
  | .mk k ls us => 1 + typNodes us
def typNodes : List Typ → Nat
  | [] => 0
  | v :: vs => v.nodes + typNodes vs
end
theorem typNodes_eq : ∀ vs, typNodes vs = (vs.map Typ.nodes).sum := by
  intro vs
  induction vs with
  | nil => rfl
  | cons v vs ih => simp only [typNodes, ih, List.map_cons, List.sum_cons]
theorem Typ.nodes_mk {k ls us} : (Typ.mk k ls us).nodes = 1 + (us.map Typ.nodes).sum := by
  rw [Typ.nodes, typNodes_eq]
theorem Typ.nodes_pos (v : Typ) : 1 ≤ v.nodes := by
  cases v; rw [Typ.nodes_mk]; omega
theorem Typ.nodes_le (v : Typ) : v.nodes ≤ v.wt + 1 := by
  induction v using Typ.ind with
  | h k ls us ih =>
    have := sum_le ih
    rw [Typ.nodes_mk, Typ.wt_mk]; omega
theorem Typ.nodes_mem {k ls us} : ∀ v ∈ us, Typ.nodes v ≤ (Typ.mk k ls us).nodes := by
  intro v hv
  rw [Typ.nodes_mk]
  have := mem_sum (f := Typ.nodes) hv
  omega
mutual
def Typ.depth : Typ → Nat
  | .mk k ls us => 1 + typDepth us
def typDepth : List Typ → Nat
  | [] => 0
  | v :: vs => max v.depth (typDepth vs)
end
theorem typDepth_snoc : ∀ {vs : List Typ} {i : Nat} {v}, vs[i]? = some v → typDepth (vs.take (i + 1)) = max (typDepth (vs.take i)) v.depth := by
  intro vs
  induction vs with
  | nil => intro i v h; simp at h
  | cons w vs ih =>
    intro i v h
    cases i with
    | zero =>
      simp only [List.getElem?_cons_zero, Option.some.injEq] at h
      subst h
      simp [typDepth]
    | succ i =>
      have := ih (i := i) (by simpa using h)
      simp only [List.take_succ_cons, typDepth, this]
      omega
theorem typDepth_take {vs : List Typ} : ∀ {i : Nat}, typDepth (vs.take i) ≤ typDepth vs := by
  induction vs with
  | nil => intro i; simp
  | cons w vs ih =>
    intro i
    cases i with
    | zero => simp [typDepth]
    | succ i => have := ih (i := i); simp only [List.take_succ_cons, typDepth]; omega
theorem Typ.depth_le (v : Typ) : v.depth ≤ v.nodes := by
  induction v using Typ.ind with
  | h k ls us ih =>
    rw [Typ.nodes_mk, Typ.depth]
    have : typDepth us ≤ (us.map Typ.nodes).sum := by
      induction us with
      | nil => simp [typDepth]
      | cons w us ih2 =>
        have h1 := ih w (by simp)
        have h2 := ih2 fun v hv => ih v (by simp [hv])
        simp only [typDepth, List.map_cons, List.sum_cons]
        omega
    omega
def topOk (k : Int) (ls : List ByteArray) (m : Nat) : Prop :=
  ((k = 1 ∨ k = 2) ∧ ls.length = 0 ∧ m = 0) ∨ ((k = 3 ∨ k = 4) ∧ m = ls.length ∧ LabOk ls) ∨ (k = 5 ∧ ls.length = 0 ∧ m = 1)
inductive TForm : Typ → Prop
  | mk {k ls us} : topOk k ls us.length → (∀ u ∈ us, TForm u) → TForm (.mk k ls us)
theorem TForm_mk {k ls us} : TForm (.mk k ls us) ↔ topOk k ls us.length ∧ ∀ u ∈ us, TForm u := ⟨fun h => by cases h; exact ⟨‹_›, ‹_›⟩, fun h => .mk h.1 h.2⟩
def VType (t : Typ) : Prop := t.nodes ≤ 30 ∧ t.depth ≤ 8 ∧ TForm t

/-- spec.l1Max -/
theorem w129 {x y : Int} : ∃ rs, Big tab (.fn 129 [[I x], [I y]] rs) ∧ rs = [[I (max x y)]] := by
  refine tr_sound rfl c129 rfl ?_
  show wp _ _ _ _ [I x, I y]
  refine r_gtr rfl rfl ?_
  try simp only [List.cons_append, List.nil_append, List.flatten_cons, List.flatten_nil, List.append_nil]
  first | refine r_iteP rfl (fun h1 => ?_) (fun h1 => ?_) | refine r_iteNP rfl (fun h1 => ?_) (fun h1 => ?_) | refine r_iteN rfl (fun h1 => ?_) (fun h1 => ?_) | refine r_ite rfl (fun h1 => ?_) (fun h1 => ?_)
  · exact r_ret (vs := [[I x]]) rfl (by rw [show max x y = x by omega])
  · exact r_ret (vs := [[I y]]) rfl (by rw [show max x y = y by omega])

/-- spec.l3Left -/
theorem w219a {k : Int} {ls : List ByteArray} {us : List Typ} {left : Int} (hal : us.length ≤ maxLen) (h0 : 0 ≤ left) (h1 : left ≤ 1099511627776) (ih : ∀ v ∈ us, ∀ lf : Int, 0 ≤ lf → lf ≤ left → ∃ rs, Big tab (.fn 219 [v.row, [I lf]] rs) ∧ ∃ x, rs = [[I x]] ∧ -1 ≤ x ∧ (v.nodes ≤ lf → x = lf - v.nodes) ∧ (lf < v.nodes → x = -1)) : ∃ rs, Big tab (.fn 219 [[I k, strs ls, typs us], [I left]] rs) ∧ ∃ x, rs = [[I x]] ∧ -1 ≤ x ∧ ((Typ.mk k ls us).nodes ≤ left → x = left - (Typ.mk k ls us).nodes) ∧ (left < (Typ.mk k ls us).nodes → x = -1) := by
  have hm : maxLen = 9223372036854775807 := rfl
  have hlen : (us.map Typ.row).length = us.length := List.length_map ..
  rw [Typ.nodes_mk]
  refine tr_sound rfl c219 rfl ?_
  show wp _ _ _ _ [I k, strs ls, typs us, I left]
  first | refine r_sub rfl rfl (by simp only [inR] at *; omega) ?_
  try simp only [List.cons_append, List.nil_append, List.flatten_cons, List.flatten_nil, List.append_nil]
  refine r_loop (fun m vs => ∃ c i : Int, vs = [I c, I i] ∧ 0 ≤ i ∧ i ≤ us.length ∧ -1 ≤ c ∧ c ≤ left ∧ (0 ≤ c → c = left - (1 + ((us.take i.toNat).map Typ.nodes).sum : Nat)) ∧ (c = -1 → left < (1 + (us.map Typ.nodes).sum : Nat) ∨ (i = 0 ∧ left = 0)) ∧ m = (us.length - i).toNat) _ ⟨_, _, rfl, by omega, by omega, by omega, by omega, by simp, by omega, rfl⟩ ?_
  rintro m _ ⟨c, i, rfl, hi0, hi1, hc0, hc1, hc2, hc3, rfl⟩
  have htl := take_sum_le (f := Typ.nodes) (l := us) (n := i.toNat)
  try simp only [List.cons_append, List.nil_append, List.flatten_cons, List.flatten_nil, List.append_nil]
  refine r_len rfl ?_
  try simp only [List.cons_append, List.nil_append, List.flatten_cons, List.flatten_nil, List.append_nil]
  first | refine r_lss rfl rfl ?_ | refine r_lssS rfl rfl ?_
  try simp only [List.cons_append, List.nil_append, List.flatten_cons, List.flatten_nil, List.append_nil]
  first | refine r_iteP rfl (fun h4 => ?_) (fun h4 => ?_) | refine r_iteNP rfl (fun h4 => ?_) (fun h4 => ?_) | refine r_iteN rfl (fun h4 => ?_) (fun h4 => ?_) | refine r_ite rfl (fun h4 => ?_) (fun h4 => ?_)
  · first | refine r_geq rfl rfl ?_ | refine r_geqS rfl rfl ?_
    try simp only [List.cons_append, List.nil_append, List.flatten_cons, List.flatten_nil, List.append_nil]
    first | refine r_iteP rfl (fun h6 => ?_) (fun h6 => ?_) | refine r_iteNP rfl (fun h6 => ?_) (fun h6 => ?_) | refine r_iteN rfl (fun h6 => ?_) (fun h6 => ?_) | refine r_ite rfl (fun h6 => ?_) (fun h6 => ?_)
    · refine r_inbT rfl rfl (by omega) (by omega) (fun e7 he7 hr7 => ?_)
      try simp only [List.cons_append, List.nil_append, List.flatten_cons, List.flatten_nil, List.append_nil]
      have hm7 := List.mem_of_getElem? he7
      have es7 := take_sum (f := Typ.nodes) hi0 he7
      have htl7 := take_sum_le (f := Typ.nodes) (l := us) (n := (i + 1).toNat)
      have hp7 := e7.nodes_pos
      have ih7 := ih e7 hm7 c (by omega) hc1
      generalize e7.nodes = q7 at *
      obtain ⟨k7, l7, u7⟩ := e7
      rw [Typ.row_mk] at hr7 ih7
      refine r_get1 rfl rfl hr7 rfl rfl ?_
      try simp only [List.cons_append, List.nil_append, List.flatten_cons, List.flatten_nil, List.append_nil]
      refine r_get1 rfl rfl hr7 rfl rfl ?_
      try simp only [List.cons_append, List.nil_append, List.flatten_cons, List.flatten_nil, List.append_nil]
      refine r_get1 rfl rfl hr7 rfl rfl ?_
      try simp only [List.cons_append, List.nil_append, List.flatten_cons, List.flatten_nil, List.append_nil]
      refine r_callQ ih7 rfl ?_
      rintro _ ⟨r11, rfl, hr11, hr11a, hr11b⟩
      refine ⟨rfl, ?_⟩
      try simp only [List.cons_append, List.nil_append, List.flatten_cons, List.flatten_nil, List.append_nil]
      first | refine r_add rfl rfl (by simp only [inR] at *; omega) ?_ | refine r_addS rfl rfl (by omega) ?_
      try simp only [List.cons_append, List.nil_append, List.flatten_cons, List.flatten_nil, List.append_nil]
      refine r_again ⟨_, by omega, _, _, rfl, by omega, by omega, by omega, by omega, by omega, by omega, rfl⟩
    · refine r_ret (vs := [[I c]]) rfl ⟨c, rfl, by omega, ?_, ?_⟩
      · intro h; have := hc3 (by omega); omega
      · intro h; omega
  · have es := take_sum_all (f := Typ.nodes) (l := us) (i := i) (by omega)
    refine r_ret (vs := [[I c]]) rfl ⟨c, rfl, by omega, ?_, ?_⟩
    · intro h
      by_cases hc : 0 ≤ c
      · have := hc2 hc; omega
      · have := hc3 (by omega); omega
    · intro h
      by_cases hc : 0 ≤ c
      · have := hc2 hc; omega
      · omega

theorem w219 {v : Typ} (hv : v.ok) : ∀ {left : Int}, 0 ≤ left → left ≤ 1099511627776 → ∃ rs, Big tab (.fn 219 [v.row, [I left]] rs) ∧ ∃ x, rs = [[I x]] ∧ -1 ≤ x ∧ (v.nodes ≤ left → x = left - v.nodes) ∧ (left < v.nodes → x = -1) := by
  induction v using Typ.ind with
  | h k ls us ih =>
    intro left h0 h1
    obtain ⟨_, hls, hal, has⟩ := hv
    rw [Typ.row_mk]
    exact w219a hal h0 h1 fun v hv lf a b => ih v hv (has v hv) a (by omega)

/-- spec.DepthOfType -/
theorem w220a {k : Int} {ls : List ByteArray} {us : List Typ} (hb : (Typ.mk k ls us).nodes ≤ 1099511627777) (hal : us.length ≤ maxLen) (ih : ∀ v ∈ us, ∃ rs, Big tab (.fn 220 [v.row] rs) ∧ rs = [[I v.depth]]) : ∃ rs, Big tab (.fn 220 [[I k, strs ls, typs us]] rs) ∧ rs = [[I (Typ.mk k ls us).depth]] := by
  have hm : maxLen = 9223372036854775807 := rfl
  have hlen : (us.map Typ.row).length = us.length := List.length_map ..
  have hdl := (Typ.mk k ls us).depth_le
  rw [Typ.depth] at hdl ⊢
  refine tr_sound rfl c220 rfl ?_
  show wp _ _ _ _ [I k, strs ls, typs us]
  refine r_loop (fun m vs => ∃ c i : Int, vs = [I c, I i] ∧ c = (typDepth (us.take i.toNat) : Nat) ∧ 0 ≤ i ∧ i ≤ us.length ∧ m = (us.length - i).toNat) _ ⟨_, _, rfl, by simp [typDepth], by omega, by omega, rfl⟩ ?_
  rintro m _ ⟨c, i, rfl, hc, hi0, hi1, rfl⟩
  have htl := typDepth_take (vs := us) (i := i.toNat)
  try simp only [List.cons_append, List.nil_append, List.flatten_cons, List.flatten_nil, List.append_nil]
  refine r_len rfl ?_
  try simp only [List.cons_append, List.nil_append, List.flatten_cons, List.flatten_nil, List.append_nil]
  first | refine r_lss rfl rfl ?_ | refine r_lssS rfl rfl ?_
  try simp only [List.cons_append, List.nil_append, List.flatten_cons, List.flatten_nil, List.append_nil]
  first | refine r_iteP rfl (fun h3 => ?_) (fun h3 => ?_) | refine r_iteNP rfl (fun h3 => ?_) (fun h3 => ?_) | refine r_iteN rfl (fun h3 => ?_) (fun h3 => ?_) | refine r_ite rfl (fun h3 => ?_) (fun h3 => ?_)
  · refine r_inbT rfl rfl (by omega) (by omega) (fun e4 he4 hr4 => ?_)
    try simp only [List.cons_append, List.nil_append, List.flatten_cons, List.flatten_nil, List.append_nil]
    have hm4 := List.mem_of_getElem? he4
    have es4 := typDepth_snoc he4
    have hii : (i + 1).toNat = i.toNat + 1 := by omega
    rw [← hii] at es4
    have ih4 := ih e4 hm4
    generalize e4.depth = q4 at *
    obtain ⟨k4, l4, u4⟩ := e4
    rw [Typ.row_mk] at hr4 ih4
    refine r_get1 rfl rfl hr4 rfl rfl ?_
    try simp only [List.cons_append, List.nil_append, List.flatten_cons, List.flatten_nil, List.append_nil]
    refine r_get1 rfl rfl hr4 rfl rfl ?_
    try simp only [List.cons_append, List.nil_append, List.flatten_cons, List.flatten_nil, List.append_nil]
    refine r_get1 rfl rfl hr4 rfl rfl ?_
    try simp only [List.cons_append, List.nil_append, List.flatten_cons, List.flatten_nil, List.append_nil]
    refine r_callQ ih4 rfl ?_
    rintro _ rfl
    refine ⟨rfl, ?_⟩
    try simp only [List.cons_append, List.nil_append, List.flatten_cons, List.flatten_nil, List.append_nil]
    refine r_callQ (w129) rfl ?_
    rintro _ rfl
    refine ⟨rfl, ?_⟩
    try simp only [List.cons_append, List.nil_append, List.flatten_cons, List.flatten_nil, List.append_nil]
    first | refine r_add rfl rfl (by simp only [inR] at *; omega) ?_ | refine r_addS rfl rfl (by omega) ?_
    try simp only [List.cons_append, List.nil_append, List.flatten_cons, List.flatten_nil, List.append_nil]
    exact r_again ⟨_, by omega, _, _, rfl, by omega, by omega, by omega, rfl⟩
  · have es : us.take i.toNat = us := List.take_of_length_le (by omega)
    rw [es] at hc
    first | refine r_add rfl rfl (by simp only [inR] at *; omega) ?_ | refine r_addS rfl rfl (by omega) ?_
    try simp only [List.cons_append, List.nil_append, List.flatten_cons, List.flatten_nil, List.append_nil]
    exact r_ret (vs := [[I (c + 1)]]) rfl (by rw [hc]; simp; omega)

/-- impl.DepthOfType -/
theorem w223a {k : Int} {ls : List ByteArray} {us : List Typ} (hb : (Typ.mk k ls us).nodes ≤ 1099511627777) (hal : us.length ≤ maxLen) (ih : ∀ v ∈ us, ∃ rs, Big tab (.fn 223 [v.row] rs) ∧ rs = [[I v.depth]]) : ∃ rs, Big tab (.fn 223 [[I k, strs ls, typs us]] rs) ∧ rs = [[I (Typ.mk k ls us).depth]] := by
  have hm : maxLen = 9223372036854775807 := rfl
  have hlen : (us.map Typ.row).length = us.length := List.length_map ..
  have hdl := (Typ.mk k ls us).depth_le
  rw [Typ.depth] at hdl ⊢
  refine tr_sound rfl c223 rfl ?_
  show wp _ _ _ _ [I k, strs ls, typs us]
  refine r_len rfl ?_
  try simp only [List.cons_append, List.nil_append, List.flatten_cons, List.flatten_nil, List.append_nil]
  refine r_loop (fun m vs => ∃ c i : Int, vs = [I c, I i] ∧ c = (typDepth (us.take i.toNat) : Nat) ∧ 0 ≤ i ∧ i ≤ us.length ∧ m = (us.length - i).toNat) _ ⟨_, _, rfl, by simp [typDepth], by omega, by omega, rfl⟩ ?_
  rintro m _ ⟨c, i, rfl, hc, hi0, hi1, rfl⟩
  have htl := typDepth_take (vs := us) (i := i.toNat)
  try simp only [List.cons_append, List.nil_append, List.flatten_cons, List.flatten_nil, List.append_nil]
  first | refine r_lss rfl rfl ?_ | refine r_lssS rfl rfl ?_
  try simp only [List.cons_append, List.nil_append, List.flatten_cons, List.flatten_nil, List.append_nil]
  first | refine r_iteP rfl (fun h3 => ?_) (fun h3 => ?_) | refine r_iteNP rfl (fun h3 => ?_) (fun h3 => ?_) | refine r_iteN rfl (fun h3 => ?_) (fun h3 => ?_) | refine r_ite rfl (fun h3 => ?_) (fun h3 => ?_)
  · refine r_inbT rfl rfl (by omega) (by omega) (fun e4 he4 hr4 => ?_)
    try simp only [List.cons_append, List.nil_append, List.flatten_cons, List.flatten_nil, List.append_nil]
    have hm4 := List.mem_of_getElem? he4
    have es4 := typDepth_snoc he4
    have hii : (i + 1).toNat = i.toNat + 1 := by omega
    rw [← hii] at es4
    have ih4 := ih e4 hm4
    generalize e4.depth = q4 at *
    obtain ⟨k4, l4, u4⟩ := e4
    rw [Typ.row_mk] at hr4 ih4
    refine r_get1 rfl rfl hr4 rfl rfl ?_
    try simp only [List.cons_append, List.nil_append, List.flatten_cons, List.flatten_nil, List.append_nil]
    refine r_get1 rfl rfl hr4 rfl rfl ?_
    try simp only [List.cons_append, List.nil_append, List.flatten_cons, List.flatten_nil, List.append_nil]
    refine r_get1 rfl rfl hr4 rfl rfl ?_
    try simp only [List.cons_append, List.nil_append, List.flatten_cons, List.flatten_nil, List.append_nil]
    refine r_callQ ih4 rfl ?_
    rintro _ rfl
    refine ⟨rfl, ?_⟩
    try simp only [List.cons_append, List.nil_append, List.flatten_cons, List.flatten_nil, List.append_nil]
    refine r_max rfl rfl ?_
    try simp only [List.cons_append, List.nil_append, List.flatten_cons, List.flatten_nil, List.append_nil]
    first | refine r_add rfl rfl (by simp only [inR] at *; omega) ?_ | refine r_addS rfl rfl (by omega) ?_
    try simp only [List.cons_append, List.nil_append, List.flatten_cons, List.flatten_nil, List.append_nil]
    exact r_again ⟨_, by omega, _, _, rfl, by omega, by omega, by omega, rfl⟩
  · have es : us.take i.toNat = us := List.take_of_length_le (by omega)
    rw [es] at hc
    first | refine r_add rfl rfl (by simp only [inR] at *; omega) ?_ | refine r_addS rfl rfl (by omega) ?_
    try simp only [List.cons_append, List.nil_append, List.flatten_cons, List.flatten_nil, List.append_nil]
    exact r_ret (vs := [[I (c + 1)]]) rfl (by rw [hc]; simp; omega)

/-- impl.SizeOfType -/
theorem w222a {k : Int} {ls : List ByteArray} {us : List Typ} (hb : (Typ.mk k ls us).nodes ≤ 1099511627777) (hal : us.length ≤ maxLen) (ih : ∀ v ∈ us, ∃ rs, Big tab (.fn 222 [v.row] rs) ∧ rs = [[I v.nodes]]) : ∃ rs, Big tab (.fn 222 [[I k, strs ls, typs us]] rs) ∧ rs = [[I (Typ.mk k ls us).nodes]] := by
  have hm : maxLen = 9223372036854775807 := rfl
  rw [Typ.nodes_mk] at hb ⊢
  have hlen : (us.map Typ.row).length = us.length := List.length_map ..
  refine tr_sound rfl c222 rfl ?_
  show wp _ _ _ _ [I k, strs ls, typs us]
  refine r_len rfl ?_
  try simp only [List.cons_append, List.nil_append, List.flatten_cons, List.flatten_nil, List.append_nil]
  refine r_loop (fun m vs => ∃ c i : Int, vs = [I c, I i] ∧ c = (1 + ((us.take i.toNat).map Typ.nodes).sum : Nat) ∧ 0 ≤ i ∧ i ≤ us.length ∧ m = (us.length - i).toNat) _ ⟨_, _, rfl, by simp, by omega, by omega, rfl⟩ ?_
  rintro m _ ⟨c, i, rfl, hc, hi0, hi1, rfl⟩
  have htl := take_sum_le (f := Typ.nodes) (l := us) (n := i.toNat)
  try simp only [List.cons_append, List.nil_append, List.flatten_cons, List.flatten_nil, List.append_nil]
  first | refine r_lss rfl rfl ?_ | refine r_lssS rfl rfl ?_
  try simp only [List.cons_append, List.nil_append, List.flatten_cons, List.flatten_nil, List.append_nil]
  first | refine r_iteP rfl (fun h3 => ?_) (fun h3 => ?_) | refine r_iteNP rfl (fun h3 => ?_) (fun h3 => ?_) | refine r_iteN rfl (fun h3 => ?_) (fun h3 => ?_) | refine r_ite rfl (fun h3 => ?_) (fun h3 => ?_)
  · refine r_inbT rfl rfl (by omega) (by omega) (fun e4 he4 hr4 => ?_)
    try simp only [List.cons_append, List.nil_append, List.flatten_cons, List.flatten_nil, List.append_nil]
    have hm4 := List.mem_of_getElem? he4
    have es4 := take_sum (f := Typ.nodes) hi0 he4
    have htl4 := take_sum_le (f := Typ.nodes) (l := us) (n := (i + 1).toNat)
    have ih4 := ih e4 hm4
    generalize e4.nodes = q4 at *
    obtain ⟨k4, l4, u4⟩ := e4
    rw [Typ.row_mk] at hr4 ih4
    refine r_get1 rfl rfl hr4 rfl rfl ?_
    try simp only [List.cons_append, List.nil_append, List.flatten_cons, List.flatten_nil, List.append_nil]
    refine r_get1 rfl rfl hr4 rfl rfl ?_
    try simp only [List.cons_append, List.nil_append, List.flatten_cons, List.flatten_nil, List.append_nil]
    refine r_get1 rfl rfl hr4 rfl rfl ?_
    try simp only [List.cons_append, List.nil_append, List.flatten_cons, List.flatten_nil, List.append_nil]
    refine r_callQ ih4 rfl ?_
    rintro _ rfl
    refine ⟨rfl, ?_⟩
    try simp only [List.cons_append, List.nil_append, List.flatten_cons, List.flatten_nil, List.append_nil]
    first | refine r_add rfl rfl (by simp only [inR] at *; omega) ?_ | refine r_addS rfl rfl (by omega) ?_
    try simp only [List.cons_append, List.nil_append, List.flatten_cons, List.flatten_nil, List.append_nil]
    first | refine r_add rfl rfl (by simp only [inR] at *; omega) ?_ | refine r_addS rfl rfl (by omega) ?_
    try simp only [List.cons_append, List.nil_append, List.flatten_cons, List.flatten_nil, List.append_nil]
    exact r_again ⟨_, by omega, _, _, rfl, by omega, by omega, by omega, rfl⟩
  · have es := take_sum_all (f := Typ.nodes) (l := us) (i := i) (by omega)
    rw [es] at hc
    exact r_ret (vs := [[I c]]) rfl (by rw [hc])

theorem w220 {v : Typ} (hv : v.ok) (hb : v.nodes ≤ 1099511627777) : ∃ rs, Big tab (.fn 220 [v.row] rs) ∧ rs = [[I v.depth]] := by
  induction v using Typ.ind with
  | h k ls us ih =>
    obtain ⟨_, hls, hal, has⟩ := hv
    rw [Typ.row_mk]
    exact w220a hb hal fun v hv => ih v hv (has v hv) (by have := Typ.nodes_mem (k := k) (ls := ls) v hv; omega)
theorem w223 {v : Typ} (hv : v.ok) (hb : v.nodes ≤ 1099511627777) : ∃ rs, Big tab (.fn 223 [v.row] rs) ∧ rs = [[I v.depth]] := by
  induction v using Typ.ind with
  | h k ls us ih =>
    obtain ⟨_, hls, hal, has⟩ := hv
    rw [Typ.row_mk]
    exact w223a hb hal fun v hv => ih v hv (has v hv) (by have := Typ.nodes_mem (k := k) (ls := ls) v hv; omega)
theorem w222 {v : Typ} (hv : v.ok) (hb : v.nodes ≤ 1099511627777) : ∃ rs, Big tab (.fn 222 [v.row] rs) ∧ rs = [[I v.nodes]] := by
  induction v using Typ.ind with
  | h k ls us ih =>
    obtain ⟨_, hls, hal, has⟩ := hv
    rw [Typ.row_mk]
    exact w222a hb hal fun v hv => ih v hv (has v hv) (by have := Typ.nodes_mem (k := k) (ls := ls) v hv; omega)

/-- spec.l3Form -/
theorem w221a {k : Int} {ls : List ByteArray} {us : List Typ} (hls : strsOk ls) (hal : us.length ≤ maxLen) (ih : ∀ v ∈ us, ∃ rs, Big tab (.fn 221 [v.row] rs) ∧ ∃ b, rs = [[.bool b]] ∧ (b = true ↔ TForm v)) : ∃ rs, Big tab (.fn 221 [[I k, strs ls, typs us]] rs) ∧ ∃ b, rs = [[.bool b]] ∧ (b = true ↔ TForm (.mk k ls us)) := by
  have hm : maxLen = 9223372036854775807 := rfl
  have hlen : (us.map Typ.row).length = us.length := List.length_map ..
  have hlen2 : (ls.map strRow).length = ls.length := List.length_map ..
  rw [TForm_mk]
  refine tr_sound rfl c221 rfl ?_
  show wp _ _ _ _ [I k, strs ls, typs us]
  refine r_loop (fun m vs => ∃ i : Int, vs = [I i] ∧ 0 ≤ i ∧ i ≤ us.length ∧ (∀ (j : Nat) x, (j : Int) < i → us[j]? = some x → TForm x) ∧ m = (us.length - i).toNat) _ ⟨_, rfl, by omega, by omega, fun j b hj => by omega, rfl⟩ ?_
  rintro m _ ⟨i, rfl, hi0, hi1, hj, rfl⟩
  try simp only [List.cons_append, List.nil_append, List.flatten_cons, List.flatten_nil, List.append_nil]
  refine r_len rfl ?_
  try simp only [List.cons_append, List.nil_append, List.flatten_cons, List.flatten_nil, List.append_nil]
  first | refine r_lss rfl rfl ?_ | refine r_lssS rfl rfl ?_
  try simp only [List.cons_append, List.nil_append, List.flatten_cons, List.flatten_nil, List.append_nil]
  first | refine r_iteP rfl (fun h3 => ?_) (fun h3 => ?_) | refine r_iteNP rfl (fun h3 => ?_) (fun h3 => ?_) | refine r_iteN rfl (fun h3 => ?_) (fun h3 => ?_) | refine r_ite rfl (fun h3 => ?_) (fun h3 => ?_)
  · refine r_inbT rfl rfl (by omega) (by omega) (fun e4 he4 hr4 => ?_)
    try simp only [List.cons_append, List.nil_append, List.flatten_cons, List.flatten_nil, List.append_nil]
    have hm4 := List.mem_of_getElem? he4
    have ih4 := ih e4 hm4
    have hno4 : ¬ TForm e4 → ¬ (topOk k ls us.length ∧ ∀ u ∈ us, TForm u) := fun h h' => h (h'.2 e4 hm4)
    have hst4 : TForm e4 → _ := fun h => allStep hi0 hj he4 h
    generalize TForm e4 = M4 at *
    obtain ⟨k4, l4, u4⟩ := e4
    rw [Typ.row_mk] at hr4 ih4
    refine r_get1 rfl rfl hr4 rfl rfl ?_
    try simp only [List.cons_append, List.nil_append, List.flatten_cons, List.flatten_nil, List.append_nil]
    refine r_get1 rfl rfl hr4 rfl rfl ?_
    try simp only [List.cons_append, List.nil_append, List.flatten_cons, List.flatten_nil, List.append_nil]
    refine r_get1 rfl rfl hr4 rfl rfl ?_
    try simp only [List.cons_append, List.nil_append, List.flatten_cons, List.flatten_nil, List.append_nil]
    refine r_callQ ih4 rfl ?_
    rintro _ ⟨r8, rfl, hr8⟩
    refine ⟨rfl, ?_⟩
    try simp only [List.cons_append, List.nil_append, List.flatten_cons, List.flatten_nil, List.append_nil]
    refine r_not rfl ?_
    try simp only [List.cons_append, List.nil_append, List.flatten_cons, List.flatten_nil, List.append_nil]
    first | refine r_iteP rfl (fun h10 => ?_) (fun h10 => ?_) | refine r_iteNP rfl (fun h10 => ?_) (fun h10 => ?_) | refine r_iteN rfl (fun h10 => ?_) (fun h10 => ?_) | refine r_ite rfl (fun h10 => ?_) (fun h10 => ?_)
    · refine r_ret rfl ?_
      exact ⟨_, rfl, iffF (hno4 fun h => by rw [hr8.2 h] at h10; cases h10)⟩
    · first | refine r_add rfl rfl (by simp only [inR] at *; omega) ?_ | refine r_addS rfl rfl (by omega) ?_
      try simp only [List.cons_append, List.nil_append, List.flatten_cons, List.flatten_nil, List.append_nil]
      exact r_again ⟨_, by omega, _, rfl, by omega, by omega, hst4 (hr8.1 h10), rfl⟩
  · have hall := allDone (by omega) hj
    have hdo : topOk k ls us.length ↔ (topOk k ls us.length ∧ ∀ u ∈ us, TForm u) := ⟨fun h => ⟨h, hall⟩, fun h => h.1⟩
    rw [← hdo]
    refine r_join (fun vs => ∃ b : Bool, vs = [.bool b] ∧ (b = true ↔ (k = 1 ∨ k = 2))) ?_ ?_
    · first | refine r_eql rfl rfl ?_ | refine r_eqlS rfl rfl ?_
      try simp only [List.cons_append, List.nil_append, List.flatten_cons, List.flatten_nil, List.append_nil]
      first | refine r_iteP rfl (fun h16 => ?_) (fun h16 => ?_) | refine r_iteNP rfl (fun h16 => ?_) (fun h16 => ?_) | refine r_iteN rfl (fun h16 => ?_) (fun h16 => ?_) | refine r_ite rfl (fun h16 => ?_) (fun h16 => ?_)
      · exact r_again ⟨_, rfl, iffT (Or.inl h16)⟩
      · first | refine r_eql rfl rfl ?_ | refine r_eqlS rfl rfl ?_
        try simp only [List.cons_append, List.nil_append, List.flatten_cons, List.flatten_nil, List.append_nil]
        exact r_again ⟨_, rfl, iffD (by omega)⟩
    rintro _ ⟨b14, rfl, hb14⟩
    try simp only [List.cons_append, List.nil_append, List.flatten_cons, List.flatten_nil, List.append_nil]
    first | refine r_iteP rfl (fun h20 => ?_) (fun h20 => ?_) | refine r_iteNP rfl (fun h20 => ?_) (fun h20 => ?_) | refine r_iteN rfl (fun h20 => ?_) (fun h20 => ?_) | refine r_ite rfl (fun h20 => ?_) (fun h20 => ?_)
    · have hk := hb14.1 h20
      refine r_len rfl ?_
      try simp only [List.cons_append, List.nil_append, List.flatten_cons, List.flatten_nil, List.append_nil]
      first | refine r_eql rfl rfl ?_ | refine r_eqlS rfl rfl ?_
      try simp only [List.cons_append, List.nil_append, List.flatten_cons, List.flatten_nil, List.append_nil]
      first | refine r_iteP rfl (fun h23 => ?_) (fun h23 => ?_) | refine r_iteNP rfl (fun h23 => ?_) (fun h23 => ?_) | refine r_iteN rfl (fun h23 => ?_) (fun h23 => ?_) | refine r_ite rfl (fun h23 => ?_) (fun h23 => ?_)
      · refine r_len rfl ?_
        try simp only [List.cons_append, List.nil_append, List.flatten_cons, List.flatten_nil, List.append_nil]
        first | refine r_eql rfl rfl ?_ | refine r_eqlS rfl rfl ?_
        try simp only [List.cons_append, List.nil_append, List.flatten_cons, List.flatten_nil, List.append_nil]
        refine r_ret rfl ?_
        exact ⟨_, rfl, iffD (by simp only [topOk]; omega)⟩
      · refine r_ret rfl ?_
        exact ⟨_, rfl, iffF (by simp only [topOk]; omega)⟩
    · have hk : ¬ (k = 1 ∨ k = 2) := fun h => by rw [hb14.2 h] at h20; cases h20
      refine r_join (fun vs => ∃ b : Bool, vs = [.bool b] ∧ (b = true ↔ (k = 3 ∨ k = 4))) ?_ ?_
      · first | refine r_eql rfl rfl ?_ | refine r_eqlS rfl rfl ?_
        try simp only [List.cons_append, List.nil_append, List.flatten_cons, List.flatten_nil, List.append_nil]
        first | refine r_iteP rfl (fun h30 => ?_) (fun h30 => ?_) | refine r_iteNP rfl (fun h30 => ?_) (fun h30 => ?_) | refine r_iteN rfl (fun h30 => ?_) (fun h30 => ?_) | refine r_ite rfl (fun h30 => ?_) (fun h30 => ?_)
        · exact r_again ⟨_, rfl, iffT (Or.inl h30)⟩
        · first | refine r_eql rfl rfl ?_ | refine r_eqlS rfl rfl ?_
          try simp only [List.cons_append, List.nil_append, List.flatten_cons, List.flatten_nil, List.append_nil]
          exact r_again ⟨_, rfl, iffD (by omega)⟩
      rintro _ ⟨b28, rfl, hb28⟩
      try simp only [List.cons_append, List.nil_append, List.flatten_cons, List.flatten_nil, List.append_nil]
      first | refine r_iteP rfl (fun h34 => ?_) (fun h34 => ?_) | refine r_iteNP rfl (fun h34 => ?_) (fun h34 => ?_) | refine r_iteN rfl (fun h34 => ?_) (fun h34 => ?_) | refine r_ite rfl (fun h34 => ?_) (fun h34 => ?_)
      · have hk2 := hb28.1 h34
        refine r_len rfl ?_
        try simp only [List.cons_append, List.nil_append, List.flatten_cons, List.flatten_nil, List.append_nil]
        refine r_len rfl ?_
        try simp only [List.cons_append, List.nil_append, List.flatten_cons, List.flatten_nil, List.append_nil]
        first | refine r_eql rfl rfl ?_ | refine r_eqlS rfl rfl ?_
        try simp only [List.cons_append, List.nil_append, List.flatten_cons, List.flatten_nil, List.append_nil]
        first | refine r_iteP rfl (fun h38 => ?_) (fun h38 => ?_) | refine r_iteNP rfl (fun h38 => ?_) (fun h38 => ?_) | refine r_iteN rfl (fun h38 => ?_) (fun h38 => ?_) | refine r_ite rfl (fun h38 => ?_) (fun h38 => ?_)
        · refine r_callQ (w240 hls) rfl ?_
          rintro _ ⟨r39, rfl, hr39⟩
          refine ⟨rfl, ?_⟩
          try simp only [List.cons_append, List.nil_append, List.flatten_cons, List.flatten_nil, List.append_nil]
          refine r_ret rfl ?_
          exact ⟨_, rfl, hr39.trans ⟨fun h => Or.inr (Or.inl ⟨hk2, by omega, h⟩), fun h => by rcases h with h | h | h <;> first | exact h.2.2 | exact absurd h.1 (by omega)⟩⟩
        · refine r_ret rfl ?_
          exact ⟨_, rfl, iffF (by simp only [topOk]; omega)⟩
      · have hk2 : ¬ (k = 3 ∨ k = 4) := fun h => by rw [hb28.2 h] at h34; cases h34
        first | refine r_eql rfl rfl ?_ | refine r_eqlS rfl rfl ?_
        try simp only [List.cons_append, List.nil_append, List.flatten_cons, List.flatten_nil, List.append_nil]
        first | refine r_iteP rfl (fun h43 => ?_) (fun h43 => ?_) | refine r_iteNP rfl (fun h43 => ?_) (fun h43 => ?_) | refine r_iteN rfl (fun h43 => ?_) (fun h43 => ?_) | refine r_ite rfl (fun h43 => ?_) (fun h43 => ?_)
        · refine r_len rfl ?_
          try simp only [List.cons_append, List.nil_append, List.flatten_cons, List.flatten_nil, List.append_nil]
          first | refine r_eql rfl rfl ?_ | refine r_eqlS rfl rfl ?_
          try simp only [List.cons_append, List.nil_append, List.flatten_cons, List.flatten_nil, List.append_nil]
          first | refine r_iteP rfl (fun h46 => ?_) (fun h46 => ?_) | refine r_iteNP rfl (fun h46 => ?_) (fun h46 => ?_) | refine r_iteN rfl (fun h46 => ?_) (fun h46 => ?_) | refine r_ite rfl (fun h46 => ?_) (fun h46 => ?_)
          · refine r_len rfl ?_
            try simp only [List.cons_append, List.nil_append, List.flatten_cons, List.flatten_nil, List.append_nil]
            first | refine r_eql rfl rfl ?_ | refine r_eqlS rfl rfl ?_
            try simp only [List.cons_append, List.nil_append, List.flatten_cons, List.flatten_nil, List.append_nil]
            refine r_ret rfl ?_
            exact ⟨_, rfl, iffD (by simp only [topOk]; omega)⟩
          · refine r_ret rfl ?_
            exact ⟨_, rfl, iffF (by simp only [topOk]; omega)⟩
        · refine r_ret rfl ?_
          exact ⟨_, rfl, iffF (by simp only [topOk]; omega)⟩

/-- impl.typeFormed -/
theorem w224a {k : Int} {ls : List ByteArray} {us : List Typ} (hls : strsOk ls) (hal : us.length ≤ maxLen) (ih : ∀ v ∈ us, ∃ rs, Big tab (.fn 224 [v.row] rs) ∧ ∃ b, rs = [[.bool b]] ∧ (b = true ↔ TForm v)) : ∃ rs, Big tab (.fn 224 [[I k, strs ls, typs us]] rs) ∧ ∃ b, rs = [[.bool b]] ∧ (b = true ↔ TForm (.mk k ls us)) := by
  have hm : maxLen = 9223372036854775807 := rfl
  have hlen : (us.map Typ.row).length = us.length := List.length_map ..
  have hlen2 : (ls.map strRow).length = ls.length := List.length_map ..
  rw [TForm_mk]
  refine tr_sound rfl c224 rfl ?_
  show wp _ _ _ _ [I k, strs ls, typs us]
  refine r_join (fun vs => ∃ b : Bool, vs = [.bool b] ∧ (b = true ↔ topOk k ls us.length)) ?_ ?_
  · refine r_join (fun vs => ∃ b : Bool, vs = [.bool b] ∧ (b = true ↔ (k = 1 ∨ k = 2))) ?_ ?_
    · first | refine r_eql rfl rfl ?_ | refine r_eqlS rfl rfl ?_
      try simp only [List.cons_append, List.nil_append, List.flatten_cons, List.flatten_nil, List.append_nil]
      first | refine r_iteP rfl (fun h3 => ?_) (fun h3 => ?_) | refine r_iteNP rfl (fun h3 => ?_) (fun h3 => ?_) | refine r_iteN rfl (fun h3 => ?_) (fun h3 => ?_) | refine r_ite rfl (fun h3 => ?_) (fun h3 => ?_)
      · exact r_again ⟨_, rfl, iffT (Or.inl h3)⟩
      · first | refine r_eql rfl rfl ?_ | refine r_eqlS rfl rfl ?_
        try simp only [List.cons_append, List.nil_append, List.flatten_cons, List.flatten_nil, List.append_nil]
        exact r_again ⟨_, rfl, iffD (by omega)⟩
    rintro _ ⟨b1, rfl, hb1⟩
    try simp only [List.cons_append, List.nil_append, List.flatten_cons, List.flatten_nil, List.append_nil]
    first | refine r_iteP rfl (fun h7 => ?_) (fun h7 => ?_) | refine r_iteNP rfl (fun h7 => ?_) (fun h7 => ?_) | refine r_iteN rfl (fun h7 => ?_) (fun h7 => ?_) | refine r_ite rfl (fun h7 => ?_) (fun h7 => ?_)
    · have hk := hb1.1 h7
      refine r_len rfl ?_
      try simp only [List.cons_append, List.nil_append, List.flatten_cons, List.flatten_nil, List.append_nil]
      first | refine r_eql rfl rfl ?_ | refine r_eqlS rfl rfl ?_
      try simp only [List.cons_append, List.nil_append, List.flatten_cons, List.flatten_nil, List.append_nil]
      first | refine r_iteP rfl (fun h10 => ?_) (fun h10 => ?_) | refine r_iteNP rfl (fun h10 => ?_) (fun h10 => ?_) | refine r_iteN rfl (fun h10 => ?_) (fun h10 => ?_) | refine r_ite rfl (fun h10 => ?_) (fun h10 => ?_)
      · refine r_len rfl ?_
        try simp only [List.cons_append, List.nil_append, List.flatten_cons, List.flatten_nil, List.append_nil]
        first | refine r_eql rfl rfl ?_ | refine r_eqlS rfl rfl ?_
        try simp only [List.cons_append, List.nil_append, List.flatten_cons, List.flatten_nil, List.append_nil]
        exact r_again ⟨_, rfl, iffD (by simp only [topOk]; omega)⟩
      · exact r_again ⟨_, rfl, iffF (by simp only [topOk]; omega)⟩
    · have hk : ¬ (k = 1 ∨ k = 2) := fun h => by rw [hb1.2 h] at h7; cases h7
      refine r_join (fun vs => ∃ b : Bool, vs = [.bool b] ∧ (b = true ↔ (k = 3 ∨ k = 4))) ?_ ?_
      · first | refine r_eql rfl rfl ?_ | refine r_eqlS rfl rfl ?_
        try simp only [List.cons_append, List.nil_append, List.flatten_cons, List.flatten_nil, List.append_nil]
        first | refine r_iteP rfl (fun h17 => ?_) (fun h17 => ?_) | refine r_iteNP rfl (fun h17 => ?_) (fun h17 => ?_) | refine r_iteN rfl (fun h17 => ?_) (fun h17 => ?_) | refine r_ite rfl (fun h17 => ?_) (fun h17 => ?_)
        · exact r_again ⟨_, rfl, iffT (Or.inl h17)⟩
        · first | refine r_eql rfl rfl ?_ | refine r_eqlS rfl rfl ?_
          try simp only [List.cons_append, List.nil_append, List.flatten_cons, List.flatten_nil, List.append_nil]
          exact r_again ⟨_, rfl, iffD (by omega)⟩
      rintro _ ⟨b15, rfl, hb15⟩
      try simp only [List.cons_append, List.nil_append, List.flatten_cons, List.flatten_nil, List.append_nil]
      first | refine r_iteP rfl (fun h21 => ?_) (fun h21 => ?_) | refine r_iteNP rfl (fun h21 => ?_) (fun h21 => ?_) | refine r_iteN rfl (fun h21 => ?_) (fun h21 => ?_) | refine r_ite rfl (fun h21 => ?_) (fun h21 => ?_)
      · have hk2 := hb15.1 h21
        refine r_len rfl ?_
        try simp only [List.cons_append, List.nil_append, List.flatten_cons, List.flatten_nil, List.append_nil]
        refine r_len rfl ?_
        try simp only [List.cons_append, List.nil_append, List.flatten_cons, List.flatten_nil, List.append_nil]
        first | refine r_eql rfl rfl ?_ | refine r_eqlS rfl rfl ?_
        try simp only [List.cons_append, List.nil_append, List.flatten_cons, List.flatten_nil, List.append_nil]
        first | refine r_iteP rfl (fun h25 => ?_) (fun h25 => ?_) | refine r_iteNP rfl (fun h25 => ?_) (fun h25 => ?_) | refine r_iteN rfl (fun h25 => ?_) (fun h25 => ?_) | refine r_ite rfl (fun h25 => ?_) (fun h25 => ?_)
        · refine r_callQ (w241 hls) rfl ?_
          rintro _ ⟨r26, rfl, hr26⟩
          refine ⟨rfl, ?_⟩
          try simp only [List.cons_append, List.nil_append, List.flatten_cons, List.flatten_nil, List.append_nil]
          exact r_again ⟨_, rfl, hr26.trans ⟨fun h => Or.inr (Or.inl ⟨hk2, by omega, h⟩), fun h => by rcases h with h | h | h <;> first | exact h.2.2 | exact absurd h.1 (by omega)⟩⟩
        · exact r_again ⟨_, rfl, iffF (by simp only [topOk]; omega)⟩
      · have hk2 : ¬ (k = 3 ∨ k = 4) := fun h => by rw [hb15.2 h] at h21; cases h21
        first | refine r_eql rfl rfl ?_ | refine r_eqlS rfl rfl ?_
        try simp only [List.cons_append, List.nil_append, List.flatten_cons, List.flatten_nil, List.append_nil]
        first | refine r_iteP rfl (fun h30 => ?_) (fun h30 => ?_) | refine r_iteNP rfl (fun h30 => ?_) (fun h30 => ?_) | refine r_iteN rfl (fun h30 => ?_) (fun h30 => ?_) | refine r_ite rfl (fun h30 => ?_) (fun h30 => ?_)
        · refine r_len rfl ?_
          try simp only [List.cons_append, List.nil_append, List.flatten_cons, List.flatten_nil, List.append_nil]
          first | refine r_eql rfl rfl ?_ | refine r_eqlS rfl rfl ?_
          try simp only [List.cons_append, List.nil_append, List.flatten_cons, List.flatten_nil, List.append_nil]
          first | refine r_iteP rfl (fun h33 => ?_) (fun h33 => ?_) | refine r_iteNP rfl (fun h33 => ?_) (fun h33 => ?_) | refine r_iteN rfl (fun h33 => ?_) (fun h33 => ?_) | refine r_ite rfl (fun h33 => ?_) (fun h33 => ?_)
          · refine r_len rfl ?_
            try simp only [List.cons_append, List.nil_append, List.flatten_cons, List.flatten_nil, List.append_nil]
            first | refine r_eql rfl rfl ?_ | refine r_eqlS rfl rfl ?_
            try simp only [List.cons_append, List.nil_append, List.flatten_cons, List.flatten_nil, List.append_nil]
            exact r_again ⟨_, rfl, iffD (by simp only [topOk]; omega)⟩
          · exact r_again ⟨_, rfl, iffF (by simp only [topOk]; omega)⟩
        · exact r_again ⟨_, rfl, iffF (by simp only [topOk]; omega)⟩
  rintro _ ⟨b0, rfl, hb0⟩
  try simp only [List.cons_append, List.nil_append, List.flatten_cons, List.flatten_nil, List.append_nil]
  refine r_len rfl ?_
  try simp only [List.cons_append, List.nil_append, List.flatten_cons, List.flatten_nil, List.append_nil]
  refine r_loop (fun m vs => ∃ (c : Bool) (i : Int), vs = [.bool c, I i] ∧ 0 ≤ i ∧ i ≤ us.length ∧ (c = true → topOk k ls us.length ∧ ∀ (j : Nat) x, (j : Int) < i → us[j]? = some x → TForm x) ∧ (c = false → ¬ (topOk k ls us.length ∧ ∀ u ∈ us, TForm u)) ∧ m = (us.length - i).toNat) _ ⟨_, _, rfl, by omega, by omega, fun h => ⟨hb0.1 h, fun j b hj => by omega⟩, fun h h' => (by rw [hb0.2 h'.1] at h; cases h), rfl⟩ ?_
  rintro m _ ⟨c, i, rfl, hi0, hi1, hc1, hc2, rfl⟩
  try simp only [List.cons_append, List.nil_append, List.flatten_cons, List.flatten_nil, List.append_nil]
  first | refine r_lss rfl rfl ?_ | refine r_lssS rfl rfl ?_
  try simp only [List.cons_append, List.nil_append, List.flatten_cons, List.flatten_nil, List.append_nil]
  first | refine r_iteP rfl (fun h42 => ?_) (fun h42 => ?_) | refine r_iteNP rfl (fun h42 => ?_) (fun h42 => ?_) | refine r_iteN rfl (fun h42 => ?_) (fun h42 => ?_) | refine r_ite rfl (fun h42 => ?_) (fun h42 => ?_)
  · refine r_inbT rfl rfl (by omega) (by omega) (fun e43 he43 hr43 => ?_)
    try simp only [List.cons_append, List.nil_append, List.flatten_cons, List.flatten_nil, List.append_nil]
    have hm4 := List.mem_of_getElem? he43
    have ih4 := ih e43 hm4
    have hno4 : ¬ TForm e43 → ¬ (topOk k ls us.length ∧ ∀ u ∈ us, TForm u) := fun h h' => h (h'.2 e43 hm4)
    have hst4 : c = true → TForm e43 → _ := fun hc h => allStep hi0 (hc1 hc).2 he43 h
    generalize TForm e43 = M4 at *
    obtain ⟨k4, l4, u4⟩ := e43
    rw [Typ.row_mk] at hr43 ih4
    refine r_get1 rfl rfl hr43 rfl rfl ?_
    try simp only [List.cons_append, List.nil_append, List.flatten_cons, List.flatten_nil, List.append_nil]
    refine r_get1 rfl rfl hr43 rfl rfl ?_
    try simp only [List.cons_append, List.nil_append, List.flatten_cons, List.flatten_nil, List.append_nil]
    refine r_get1 rfl rfl hr43 rfl rfl ?_
    try simp only [List.cons_append, List.nil_append, List.flatten_cons, List.flatten_nil, List.append_nil]
    first | refine r_iteP rfl (fun h47 => ?_) (fun h47 => ?_) | refine r_iteNP rfl (fun h47 => ?_) (fun h47 => ?_) | refine r_iteN rfl (fun h47 => ?_) (fun h47 => ?_) | refine r_ite rfl (fun h47 => ?_) (fun h47 => ?_)
    · refine r_callQ ih4 rfl ?_
      rintro _ ⟨r48, rfl, hr48⟩
      refine ⟨rfl, ?_⟩
      try simp only [List.cons_append, List.nil_append, List.flatten_cons, List.flatten_nil, List.append_nil]
      first | refine r_add rfl rfl (by simp only [inR] at *; omega) ?_ | refine r_addS rfl rfl (by omega) ?_
      try simp only [List.cons_append, List.nil_append, List.flatten_cons, List.flatten_nil, List.append_nil]
      exact r_again ⟨_, by omega, _, _, rfl, by omega, by omega, fun h => ⟨(hc1 h47).1, hst4 h47 (hr48.1 h)⟩, fun h => hno4 fun h' => (by rw [hr48.2 h'] at h; cases h), rfl⟩
    · first | refine r_add rfl rfl (by simp only [inR] at *; omega) ?_ | refine r_addS rfl rfl (by omega) ?_
      try simp only [List.cons_append, List.nil_append, List.flatten_cons, List.flatten_nil, List.append_nil]
      exact r_again ⟨_, by omega, _, _, rfl, by omega, by omega, fun h => absurd h (by simp), fun _ => hc2 h47, rfl⟩
  · refine r_ret (vs := [[.bool c]]) rfl ⟨c, rfl, ?_⟩
    cases c
    · exact iffF (hc2 rfl)
    · exact iffT ⟨(hc1 rfl).1, allDone (by omega) (hc1 rfl).2⟩

theorem w221 {v : Typ} (hv : v.ok) : ∃ rs, Big tab (.fn 221 [v.row] rs) ∧ ∃ b, rs = [[.bool b]] ∧ (b = true ↔ TForm v) := by
  induction v using Typ.ind with
  | h k ls us ih =>
    obtain ⟨_, hls, hal, has⟩ := hv
    rw [Typ.row_mk]
    exact w221a hls hal fun v hv => ih v hv (has v hv)
theorem w224 {v : Typ} (hv : v.ok) : ∃ rs, Big tab (.fn 224 [v.row] rs) ∧ ∃ b, rs = [[.bool b]] ∧ (b = true ↔ TForm v) := by
  induction v using Typ.ind with
  | h k ls us ih =>
    obtain ⟨_, hls, hal, has⟩ := hv
    rw [Typ.row_mk]
    exact w224a hls hal fun v hv => ih v hv (has v hv)
section
variable {k : Int} {ls : List ByteArray} {us : List Typ} (hv : (Typ.mk k ls us).ok)
include hv
theorem w219m {left : Int} (h0 : 0 ≤ left) (h1 : left ≤ 1099511627776) : ∃ rs, Big tab (.fn 219 [[I k, strs ls, typs us], [I left]] rs) ∧ ∃ x, rs = [[I x]] ∧ -1 ≤ x ∧ ((Typ.mk k ls us).nodes ≤ left → x = left - (Typ.mk k ls us).nodes) ∧ (left < (Typ.mk k ls us).nodes → x = -1) := by
  have := w219 hv h0 h1
  rwa [Typ.row_mk] at this
theorem w220m (hb : (Typ.mk k ls us).nodes ≤ 1099511627777) : ∃ rs, Big tab (.fn 220 [[I k, strs ls, typs us]] rs) ∧ rs = [[I (Typ.mk k ls us).depth]] := by
  have := w220 hv hb
  rwa [Typ.row_mk] at this
theorem w223m (hb : (Typ.mk k ls us).nodes ≤ 1099511627777) : ∃ rs, Big tab (.fn 223 [[I k, strs ls, typs us]] rs) ∧ rs = [[I (Typ.mk k ls us).depth]] := by
  have := w223 hv hb
  rwa [Typ.row_mk] at this
theorem w222m (hb : (Typ.mk k ls us).nodes ≤ 1099511627777) : ∃ rs, Big tab (.fn 222 [[I k, strs ls, typs us]] rs) ∧ rs = [[I (Typ.mk k ls us).nodes]] := by
  have := w222 hv hb
  rwa [Typ.row_mk] at this
theorem w221m : ∃ rs, Big tab (.fn 221 [[I k, strs ls, typs us]] rs) ∧ ∃ b, rs = [[.bool b]] ∧ (b = true ↔ TForm (Typ.mk k ls us)) := by
  have := w221 hv
  rwa [Typ.row_mk] at this
theorem w224m : ∃ rs, Big tab (.fn 224 [[I k, strs ls, typs us]] rs) ∧ ∃ b, rs = [[.bool b]] ∧ (b = true ↔ TForm (Typ.mk k ls us)) := by
  have := w224 hv
  rwa [Typ.row_mk] at this
end

/-- spec.IsValidType -/
theorem w185 {k : Int} {ls : List ByteArray} {us : List Typ} (hv : (Typ.mk k ls us).ok) : ∃ rs, Big tab (.fn 185 [[I k, strs ls, typs us]] rs) ∧ ∃ b, rs = [[.bool b]] ∧ (b = true ↔ VType (Typ.mk k ls us)) := by
  refine tr_sound rfl c185 rfl ?_
  show wp _ _ _ _ [I k, strs ls, typs us]
  refine r_callQ (w219m hv (by omega) (by omega)) rfl ?_
  rintro _ ⟨r0, rfl, hr0, hr0a, hr0b⟩
  refine ⟨rfl, ?_⟩
  try simp only [List.cons_append, List.nil_append, List.flatten_cons, List.flatten_nil, List.append_nil]
  first | refine r_geq rfl rfl ?_ | refine r_geqS rfl rfl ?_
  try simp only [List.cons_append, List.nil_append, List.flatten_cons, List.flatten_nil, List.append_nil]
  first | refine r_iteP rfl (fun h2 => ?_) (fun h2 => ?_) | refine r_iteNP rfl (fun h2 => ?_) (fun h2 => ?_) | refine r_iteN rfl (fun h2 => ?_) (fun h2 => ?_) | refine r_ite rfl (fun h2 => ?_) (fun h2 => ?_)
  · refine r_callQ (w220m hv (by omega)) rfl ?_
    rintro _ rfl
    refine ⟨rfl, ?_⟩
    try simp only [List.cons_append, List.nil_append, List.flatten_cons, List.flatten_nil, List.append_nil]
    refine r_leq rfl rfl ?_
    try simp only [List.cons_append, List.nil_append, List.flatten_cons, List.flatten_nil, List.append_nil]
    first | refine r_iteP rfl (fun h5 => ?_) (fun h5 => ?_) | refine r_iteNP rfl (fun h5 => ?_) (fun h5 => ?_) | refine r_iteN rfl (fun h5 => ?_) (fun h5 => ?_) | refine r_ite rfl (fun h5 => ?_) (fun h5 => ?_)
    · refine r_callQ (w221m hv) rfl ?_
      rintro _ ⟨r6, rfl, hr6⟩
      refine ⟨rfl, ?_⟩
      try simp only [List.cons_append, List.nil_append, List.flatten_cons, List.flatten_nil, List.append_nil]
      refine r_ret rfl ?_
      exact ⟨_, rfl, hr6.trans ⟨fun h => ⟨by omega, by omega, h⟩, fun h => h.2.2⟩⟩
    · refine r_ret rfl ?_
      exact ⟨_, rfl, iffF (fun h => by have := h.2.1; omega)⟩
  · refine r_ret rfl ?_
    exact ⟨_, rfl, iffF (fun h => by have := h.1; omega)⟩

/-- impl.IsValidType -/
theorem w189 {k : Int} {ls : List ByteArray} {us : List Typ} (hv : (Typ.mk k ls us).ok) (hb : (Typ.mk k ls us).nodes ≤ 1099511627777) : ∃ rs, Big tab (.fn 189 [[I k, strs ls, typs us]] rs) ∧ ∃ b, rs = [[.bool b]] ∧ (b = true ↔ VType (Typ.mk k ls us)) := by
  refine tr_sound rfl c189 rfl ?_
  show wp _ _ _ _ [I k, strs ls, typs us]
  refine r_callQ (w222m hv hb) rfl ?_
  rintro _ rfl
  refine ⟨rfl, ?_⟩
  try simp only [List.cons_append, List.nil_append, List.flatten_cons, List.flatten_nil, List.append_nil]
  refine r_leq rfl rfl ?_
  try simp only [List.cons_append, List.nil_append, List.flatten_cons, List.flatten_nil, List.append_nil]
  first | refine r_iteP rfl (fun h2 => ?_) (fun h2 => ?_) | refine r_iteNP rfl (fun h2 => ?_) (fun h2 => ?_) | refine r_iteN rfl (fun h2 => ?_) (fun h2 => ?_) | refine r_ite rfl (fun h2 => ?_) (fun h2 => ?_)
  · refine r_callQ (w223m hv hb) rfl ?_
    rintro _ rfl
    refine ⟨rfl, ?_⟩
    try simp only [List.cons_append, List.nil_append, List.flatten_cons, List.flatten_nil, List.append_nil]
    refine r_leq rfl rfl ?_
    try simp only [List.cons_append, List.nil_append, List.flatten_cons, List.flatten_nil, List.append_nil]
    first | refine r_iteP rfl (fun h5 => ?_) (fun h5 => ?_) | refine r_iteNP rfl (fun h5 => ?_) (fun h5 => ?_) | refine r_iteN rfl (fun h5 => ?_) (fun h5 => ?_) | refine r_ite rfl (fun h5 => ?_) (fun h5 => ?_)
    · refine r_callQ (w224m hv) rfl ?_
      rintro _ ⟨r6, rfl, hr6⟩
      refine ⟨rfl, ?_⟩
      try simp only [List.cons_append, List.nil_append, List.flatten_cons, List.flatten_nil, List.append_nil]
      refine r_ret rfl ?_
      exact ⟨_, rfl, hr6.trans ⟨fun h => ⟨by omega, by omega, h⟩, fun h => h.2.2⟩⟩
    · refine r_ret rfl ?_
      exact ⟨_, rfl, iffF (fun h => by have := h.2.1; omega)⟩
  · refine r_ret rfl ?_
    exact ⟨_, rfl, iffF (fun h => by have := h.1; omega)⟩

end Go.Proofs.Ytkiliooegoldoaa
