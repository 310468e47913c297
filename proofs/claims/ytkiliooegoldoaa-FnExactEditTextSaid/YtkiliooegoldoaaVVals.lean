/- Walks: VVals -/
import Derived.Test.YtkiliooegoldoaaVTypes
import Derived.Test.YtkiliooegoldoaaValm
set_option linter.unusedVariables false
set_option linter.unusedSimpArgs false
namespace Go.Proofs.Ytkiliooegoldoaa
open Go

/-! ### Values: form -/
abbrev eS : ByteArray := ⟨#[]⟩
def vtop (k n : Int) (s : ByteArray) (ls : List ByteArray) (m : Nat) : Prop :=
  (k = 1 ∧ s = eS ∧ ls.length = 0 ∧ m = 0) ∨ (k = 2 ∧ (n = 0 ∨ n = 1) ∧ s = eS ∧ ls.length = 0 ∧ m = 0) ∨ (k = 3 ∧ n = 0 ∧ s = eS ∧ ls.length = m ∧ LabOk ls) ∨
  (k = 4 ∧ n = 0 ∧ IsNm s ∧ ls.length = 0 ∧ m = 1) ∨ (k = 5 ∧ n = 0 ∧ s = eS ∧ ls.length = 0)
inductive VForm : Val → Prop
  | mk {k n s ls us} : vtop k n s ls us.length → (∀ u ∈ us, VForm u) → VForm (.mk k n s ls us)
theorem VForm_mk {k n s ls us} : VForm (.mk k n s ls us) ↔ vtop k n s ls us.length ∧ ∀ u ∈ us, VForm u := ⟨fun h => by cases h; exact ⟨‹_›, ‹_›⟩, fun h => .mk h.1 h.2⟩
def VVal (v : Val) : Prop := v.nodes ≤ 300 ∧ VForm v
theorem notNm : ¬ IsNm eS := fun h => absurd h.1 (by decide)
theorem Val.nodes_pos (v : Val) : 1 ≤ v.nodes := by
  cases v; rw [Val.nodes_mk]; omega

/-- spec.l5Left -/
theorem w212a {k n : Int} {s : ByteArray} {ls : List ByteArray} {us : List Val} {left : Int} (hal : us.length ≤ maxLen) (h0 : 0 ≤ left) (h1 : left ≤ 1099511627776) (ih : ∀ v ∈ us, ∀ lf : Int, 0 ≤ lf → lf ≤ left → ∃ rs, Big tab (.fn 212 [v.row, [I lf]] rs) ∧ ∃ x, rs = [[I x]] ∧ -1 ≤ x ∧ (v.nodes ≤ lf → x = lf - v.nodes) ∧ (lf < v.nodes → x = -1)) : ∃ rs, Big tab (.fn 212 [[I k, I n, .str s, strs ls, vals us], [I left]] rs) ∧ ∃ x, rs = [[I x]] ∧ -1 ≤ x ∧ ((Val.mk k n s ls us).nodes ≤ left → x = left - (Val.mk k n s ls us).nodes) ∧ (left < (Val.mk k n s ls us).nodes → x = -1) := by
  have hm : maxLen = 9223372036854775807 := rfl
  have hlen : (us.map Val.row).length = us.length := List.length_map ..
  rw [Val.nodes_mk]
  refine tr_sound rfl c212 rfl ?_
  show wp _ _ _ _ [I k, I n, .str s, strs ls, vals us, I left]
  first | refine r_sub rfl rfl (by simp only [inR] at *; omega) ?_
  try simp only [List.cons_append, List.nil_append, List.flatten_cons, List.flatten_nil, List.append_nil]
  refine r_loop (fun m vs => ∃ c i : Int, vs = [I c, I i] ∧ 0 ≤ i ∧ i ≤ us.length ∧ -1 ≤ c ∧ c ≤ left ∧ (0 ≤ c → c = left - (1 + ((us.take i.toNat).map Val.nodes).sum : Nat)) ∧ (c = -1 → left < (1 + (us.map Val.nodes).sum : Nat) ∨ (i = 0 ∧ left = 0)) ∧ m = (us.length - i).toNat) _ ⟨_, _, rfl, by omega, by omega, by omega, by omega, by simp, by omega, rfl⟩ ?_
  rintro m _ ⟨c, i, rfl, hi0, hi1, hc0, hc1, hc2, hc3, rfl⟩
  have htl := take_sum_le (f := Val.nodes) (l := us) (n := i.toNat)
  try simp only [List.cons_append, List.nil_append, List.flatten_cons, List.flatten_nil, List.append_nil]
  refine r_len rfl ?_
  try simp only [List.cons_append, List.nil_append, List.flatten_cons, List.flatten_nil, List.append_nil]
  first | refine r_lss rfl rfl ?_ | refine r_lssS rfl rfl ?_
  try simp only [List.cons_append, List.nil_append, List.flatten_cons, List.flatten_nil, List.append_nil]
  first | refine r_iteP rfl (fun h4 => ?_) (fun h4 => ?_) | refine r_iteNP rfl (fun h4 => ?_) (fun h4 => ?_) | refine r_iteN rfl (fun h4 => ?_) (fun h4 => ?_) | refine r_ite rfl (fun h4 => ?_) (fun h4 => ?_)
  · first | refine r_geq rfl rfl ?_ | refine r_geqS rfl rfl ?_
    try simp only [List.cons_append, List.nil_append, List.flatten_cons, List.flatten_nil, List.append_nil]
    first | refine r_iteP rfl (fun h6 => ?_) (fun h6 => ?_) | refine r_iteNP rfl (fun h6 => ?_) (fun h6 => ?_) | refine r_iteN rfl (fun h6 => ?_) (fun h6 => ?_) | refine r_ite rfl (fun h6 => ?_) (fun h6 => ?_)
    · refine r_inbT rfl rfl (by omega) (by omega) (fun e7 he7 hr7 => ?_)
      try simp only [List.cons_append, List.nil_append, List.flatten_cons, List.flatten_nil, List.append_nil]
      have hm7 := List.mem_of_getElem? he7
      have es7 := take_sum (f := Val.nodes) hi0 he7
      have htl7 := take_sum_le (f := Val.nodes) (l := us) (n := (i + 1).toNat)
      have hp7 := e7.nodes_pos
      have ih7 := ih e7 hm7 c (by omega) hc1
      generalize e7.nodes = q7 at *
      obtain ⟨k7, n7, s7, l7, u7⟩ := e7
      rw [Val.row_mk] at hr7 ih7
      refine r_get1 rfl rfl hr7 rfl rfl ?_
      try simp only [List.cons_append, List.nil_append, List.flatten_cons, List.flatten_nil, List.append_nil]
      refine r_get1 rfl rfl hr7 rfl rfl ?_
      try simp only [List.cons_append, List.nil_append, List.flatten_cons, List.flatten_nil, List.append_nil]
      refine r_get1 rfl rfl hr7 rfl rfl ?_
      try simp only [List.cons_append, List.nil_append, List.flatten_cons, List.flatten_nil, List.append_nil]
      refine r_get1 rfl rfl hr7 rfl rfl ?_
      try simp only [List.cons_append, List.nil_append, List.flatten_cons, List.flatten_nil, List.append_nil]
      refine r_get1 rfl rfl hr7 rfl rfl ?_
      try simp only [List.cons_append, List.nil_append, List.flatten_cons, List.flatten_nil, List.append_nil]
      refine r_callQ ih7 rfl ?_
      rintro _ ⟨r11, rfl, hr11, hr11a, hr11b⟩
      refine ⟨rfl, ?_⟩
      try simp only [List.cons_append, List.nil_append, List.flatten_cons, List.flatten_nil, List.append_nil]
      first | refine r_add rfl rfl (by simp only [inR] at *; omega) ?_ | refine r_addS rfl rfl (by omega) ?_
      try simp only [List.cons_append, List.nil_append, List.flatten_cons, List.flatten_nil, List.append_nil]
      refine r_again ⟨_, by omega, _, _, rfl, by omega, by omega, by omega, by omega, by omega, by omega, rfl⟩
    · refine r_ret (vs := [[I c]]) rfl ⟨c, rfl, by omega, ?_, ?_⟩
      · intro h; have := hc3 (by omega); omega
      · intro h; omega
  · have es := take_sum_all (f := Val.nodes) (l := us) (i := i) (by omega)
    refine r_ret (vs := [[I c]]) rfl ⟨c, rfl, by omega, ?_, ?_⟩
    · intro h
      by_cases hc : 0 ≤ c
      · have := hc2 hc; omega
      · have := hc3 (by omega); omega
    · intro h
      by_cases hc : 0 ≤ c
      · have := hc2 hc; omega
      · omega

theorem w212 {v : Val} (hv : v.ok) : ∀ {left : Int}, 0 ≤ left → left ≤ 1099511627776 → ∃ rs, Big tab (.fn 212 [v.row, [I left]] rs) ∧ ∃ x, rs = [[I x]] ∧ -1 ≤ x ∧ (v.nodes ≤ left → x = left - v.nodes) ∧ (left < v.nodes → x = -1) := by
  induction v using Val.ind with
  | h k n s ls us ih =>
    intro left h0 h1
    obtain ⟨_, _, hs, hls, hal, has⟩ := hv
    rw [Val.row_mk]
    exact w212a hal h0 h1 fun v hv lf a b => ih v hv (has v hv) a (by omega)

/-- spec.l5Form -/
theorem w213a {k n : Int} {s : ByteArray} {ls : List ByteArray} {us : List Val} (hs : s.size ≤ maxLen) (hls : strsOk ls) (hal : us.length ≤ maxLen) (ih : ∀ v ∈ us, ∃ rs, Big tab (.fn 213 [v.row] rs) ∧ ∃ b, rs = [[.bool b]] ∧ (b = true ↔ VForm v)) : ∃ rs, Big tab (.fn 213 [[I k, I n, .str s, strs ls, vals us]] rs) ∧ ∃ b, rs = [[.bool b]] ∧ (b = true ↔ VForm (.mk k n s ls us)) := by
  have hm : maxLen = 9223372036854775807 := rfl
  have hlen : (us.map Val.row).length = us.length := List.length_map ..
  have hlen2 : (ls.map strRow).length = ls.length := List.length_map ..
  have hnm := notNm
  rw [VForm_mk]
  refine tr_sound rfl c213 rfl ?_
  show wp _ _ _ _ [I k, I n, .str s, strs ls, vals us]
  refine r_loop (fun m vs => ∃ i : Int, vs = [I i] ∧ 0 ≤ i ∧ i ≤ us.length ∧ (∀ (j : Nat) x, (j : Int) < i → us[j]? = some x → VForm x) ∧ m = (us.length - i).toNat) _ ⟨_, rfl, by omega, by omega, fun j b hj => by omega, rfl⟩ ?_
  rintro m _ ⟨i, rfl, hi0, hi1, hj, rfl⟩
  try simp only [List.cons_append, List.nil_append, List.flatten_cons, List.flatten_nil, List.append_nil]
  refine r_len rfl ?_
  try simp only [List.cons_append, List.nil_append, List.flatten_cons, List.flatten_nil, List.append_nil]
  first | refine r_lss rfl rfl ?_ | refine r_lssS rfl rfl ?_
  try simp only [List.cons_append, List.nil_append, List.flatten_cons, List.flatten_nil, List.append_nil]
  first | refine r_iteP rfl (fun h3 => ?_) (fun h3 => ?_) | refine r_iteNP rfl (fun h3 => ?_) (fun h3 => ?_) | refine r_iteN rfl (fun h3 => ?_) (fun h3 => ?_) | refine r_ite rfl (fun h3 => ?_) (fun h3 => ?_)
  · refine r_inbT rfl rfl (by omega) (by omega) (fun e4 he4 hr4 => ?_)
    try simp only [List.cons_append, List.nil_append, List.flatten_cons, List.flatten_nil, List.append_nil]
    have hm4 := List.mem_of_getElem? he4
    have ih4 := ih e4 hm4
    have hno4 : ¬ VForm e4 → ¬ (vtop k n s ls us.length ∧ ∀ u ∈ us, VForm u) := fun h h' => h (h'.2 e4 hm4)
    have hst4 : VForm e4 → _ := fun h => allStep hi0 hj he4 h
    generalize VForm e4 = M4 at *
    obtain ⟨k4, n4, s4, l4, u4⟩ := e4
    rw [Val.row_mk] at hr4 ih4
    refine r_get1 rfl rfl hr4 rfl rfl ?_
    try simp only [List.cons_append, List.nil_append, List.flatten_cons, List.flatten_nil, List.append_nil]
    refine r_get1 rfl rfl hr4 rfl rfl ?_
    try simp only [List.cons_append, List.nil_append, List.flatten_cons, List.flatten_nil, List.append_nil]
    refine r_get1 rfl rfl hr4 rfl rfl ?_
    try simp only [List.cons_append, List.nil_append, List.flatten_cons, List.flatten_nil, List.append_nil]
    refine r_get1 rfl rfl hr4 rfl rfl ?_
    try simp only [List.cons_append, List.nil_append, List.flatten_cons, List.flatten_nil, List.append_nil]
    refine r_get1 rfl rfl hr4 rfl rfl ?_
    try simp only [List.cons_append, List.nil_append, List.flatten_cons, List.flatten_nil, List.append_nil]
    refine r_callQ ih4 rfl ?_
    rintro _ ⟨r8, rfl, hr8⟩
    refine ⟨rfl, ?_⟩
    try simp only [List.cons_append, List.nil_append, List.flatten_cons, List.flatten_nil, List.append_nil]
    refine r_not rfl ?_
    try simp only [List.cons_append, List.nil_append, List.flatten_cons, List.flatten_nil, List.append_nil]
    first | refine r_iteP rfl (fun h12 => ?_) (fun h12 => ?_) | refine r_iteNP rfl (fun h12 => ?_) (fun h12 => ?_) | refine r_iteN rfl (fun h12 => ?_) (fun h12 => ?_) | refine r_ite rfl (fun h12 => ?_) (fun h12 => ?_)
    · refine r_ret rfl ?_
      exact ⟨_, rfl, iffF (hno4 fun h => by rw [hr8.2 h] at h12; cases h12)⟩
    · first | refine r_add rfl rfl (by simp only [inR] at *; omega) ?_ | refine r_addS rfl rfl (by omega) ?_
      try simp only [List.cons_append, List.nil_append, List.flatten_cons, List.flatten_nil, List.append_nil]
      exact r_again ⟨_, by omega, _, rfl, by omega, by omega, hst4 (hr8.1 h12), rfl⟩
  · have hall := allDone (by omega) hj
    have hdo : vtop k n s ls us.length ↔ (vtop k n s ls us.length ∧ ∀ u ∈ us, VForm u) := ⟨fun h => ⟨h, hall⟩, fun h => h.1⟩
    rw [← hdo]
    clear hdo hall hj ih
    first | refine r_eql rfl rfl ?_ | refine r_eqlS rfl rfl ?_
    try simp only [List.cons_append, List.nil_append, List.flatten_cons, List.flatten_nil, List.append_nil]
    refine r_join (fun vs => vs = [] ∧ (k = 4 ↔ IsNm s) ∧ (k ≠ 4 → s = eS) ∧ (k ≠ 3 → ls.length = 0)) ?_ ?_
    · refine r_callQ (w62 (by first | assumption | omega | (simp only [inR] at *; omega))) rfl ?_
      rintro _ ⟨r18, rfl, hr18⟩
      refine ⟨rfl, ?_⟩
      try simp only [List.cons_append, List.nil_append, List.flatten_cons, List.flatten_nil, List.append_nil]
      refine r_eqB rfl rfl ?_
      try simp only [List.cons_append, List.nil_append, List.flatten_cons, List.flatten_nil, List.append_nil]
      first | refine r_iteP rfl (fun h20 => ?_) (fun h20 => ?_) | refine r_iteNP rfl (fun h20 => ?_) (fun h20 => ?_) | refine r_iteN rfl (fun h20 => ?_) (fun h20 => ?_) | refine r_ite rfl (fun h20 => ?_) (fun h20 => ?_)
      · refine r_ret rfl ?_
        exact ⟨_, rfl, iffF (by simp only [vtop]; have h20 : ¬ (k = 4 ↔ IsNm s) := (fun h => by rw [← hr18] at h; by_cases hk : k = 4 <;> simp_all); grind)⟩
      · have h20' : (k = 4 ↔ IsNm s) := by rw [← hr18]; by_cases hk : k = 4 <;> simp_all
        refine r_not rfl ?_
        try simp only [List.cons_append, List.nil_append, List.flatten_cons, List.flatten_nil, List.append_nil]
        first | refine r_iteP rfl (fun h23 => ?_) (fun h23 => ?_) | refine r_iteNP rfl (fun h23 => ?_) (fun h23 => ?_) | refine r_iteN rfl (fun h23 => ?_) (fun h23 => ?_) | refine r_ite rfl (fun h23 => ?_) (fun h23 => ?_)
        · first | refine r_neq rfl rfl ?_ | refine r_neqS rfl rfl ?_
          try simp only [List.cons_append, List.nil_append, List.flatten_cons, List.flatten_nil, List.append_nil]
          first | refine r_iteP rfl (fun h25 => ?_) (fun h25 => ?_) | refine r_iteNP rfl (fun h25 => ?_) (fun h25 => ?_) | refine r_iteN rfl (fun h25 => ?_) (fun h25 => ?_) | refine r_ite rfl (fun h25 => ?_) (fun h25 => ?_)
          · refine r_ret rfl ?_
            exact ⟨_, rfl, iffF (by simp only [vtop]; grind)⟩
          · first | refine r_neq rfl rfl ?_ | refine r_neqS rfl rfl ?_
            try simp only [List.cons_append, List.nil_append, List.flatten_cons, List.flatten_nil, List.append_nil]
            first | refine r_iteP rfl (fun h28 => ?_) (fun h28 => ?_) | refine r_iteNP rfl (fun h28 => ?_) (fun h28 => ?_) | refine r_iteN rfl (fun h28 => ?_) (fun h28 => ?_) | refine r_ite rfl (fun h28 => ?_) (fun h28 => ?_)
            · refine r_len rfl ?_
              try simp only [List.cons_append, List.nil_append, List.flatten_cons, List.flatten_nil, List.append_nil]
              refine r_gtr rfl rfl ?_
              try simp only [List.cons_append, List.nil_append, List.flatten_cons, List.flatten_nil, List.append_nil]
              first | refine r_iteP rfl (fun h31 => ?_) (fun h31 => ?_) | refine r_iteNP rfl (fun h31 => ?_) (fun h31 => ?_) | refine r_iteN rfl (fun h31 => ?_) (fun h31 => ?_) | refine r_ite rfl (fun h31 => ?_) (fun h31 => ?_)
              · refine r_ret rfl ?_
                exact ⟨_, rfl, iffF (by simp only [vtop]; grind)⟩
              · exact r_again ⟨rfl, h20', fun _ => Decidable.not_not.1 h25, fun _ => by omega⟩
            · exact r_again ⟨rfl, h20', fun _ => Decidable.not_not.1 h25, fun h => absurd h h28⟩
        · first | refine r_neq rfl rfl ?_ | refine r_neqS rfl rfl ?_
          try simp only [List.cons_append, List.nil_append, List.flatten_cons, List.flatten_nil, List.append_nil]
          first | refine r_iteP rfl (fun h36 => ?_) (fun h36 => ?_) | refine r_iteNP rfl (fun h36 => ?_) (fun h36 => ?_) | refine r_iteN rfl (fun h36 => ?_) (fun h36 => ?_) | refine r_ite rfl (fun h36 => ?_) (fun h36 => ?_)
          · refine r_len rfl ?_
            try simp only [List.cons_append, List.nil_append, List.flatten_cons, List.flatten_nil, List.append_nil]
            refine r_gtr rfl rfl ?_
            try simp only [List.cons_append, List.nil_append, List.flatten_cons, List.flatten_nil, List.append_nil]
            first | refine r_iteP rfl (fun h39 => ?_) (fun h39 => ?_) | refine r_iteNP rfl (fun h39 => ?_) (fun h39 => ?_) | refine r_iteN rfl (fun h39 => ?_) (fun h39 => ?_) | refine r_ite rfl (fun h39 => ?_) (fun h39 => ?_)
            · refine r_ret rfl ?_
              exact ⟨_, rfl, iffF (by simp only [vtop]; grind)⟩
            · exact r_again ⟨rfl, h20', fun h => absurd h23 h, fun _ => by omega⟩
          · exact r_again ⟨rfl, h20', fun h => absurd h23 h, fun h => absurd h h36⟩
    rintro _ ⟨rfl, j1, j2, j3⟩
    rw [List.append_nil]
    try simp only [List.cons_append, List.nil_append, List.flatten_cons, List.flatten_nil, List.append_nil]
    first | refine r_eql rfl rfl ?_ | refine r_eqlS rfl rfl ?_
    try simp only [List.cons_append, List.nil_append, List.flatten_cons, List.flatten_nil, List.append_nil]
    first | refine r_iteP rfl (fun h44 => ?_) (fun h44 => ?_) | refine r_iteNP rfl (fun h44 => ?_) (fun h44 => ?_) | refine r_iteN rfl (fun h44 => ?_) (fun h44 => ?_) | refine r_ite rfl (fun h44 => ?_) (fun h44 => ?_)
    · refine r_len rfl ?_
      try simp only [List.cons_append, List.nil_append, List.flatten_cons, List.flatten_nil, List.append_nil]
      first | refine r_eql rfl rfl ?_ | refine r_eqlS rfl rfl ?_
      try simp only [List.cons_append, List.nil_append, List.flatten_cons, List.flatten_nil, List.append_nil]
      refine r_ret rfl ?_
      exact ⟨_, rfl, iffD (by simp only [vtop]; grind)⟩
    · first | refine r_eql rfl rfl ?_ | refine r_eqlS rfl rfl ?_
      try simp only [List.cons_append, List.nil_append, List.flatten_cons, List.flatten_nil, List.append_nil]
      first | refine r_iteP rfl (fun h49 => ?_) (fun h49 => ?_) | refine r_iteNP rfl (fun h49 => ?_) (fun h49 => ?_) | refine r_iteN rfl (fun h49 => ?_) (fun h49 => ?_) | refine r_ite rfl (fun h49 => ?_) (fun h49 => ?_)
      · refine r_len rfl ?_
        try simp only [List.cons_append, List.nil_append, List.flatten_cons, List.flatten_nil, List.append_nil]
        first | refine r_eql rfl rfl ?_ | refine r_eqlS rfl rfl ?_
        try simp only [List.cons_append, List.nil_append, List.flatten_cons, List.flatten_nil, List.append_nil]
        first | refine r_iteP rfl (fun h52 => ?_) (fun h52 => ?_) | refine r_iteNP rfl (fun h52 => ?_) (fun h52 => ?_) | refine r_iteN rfl (fun h52 => ?_) (fun h52 => ?_) | refine r_ite rfl (fun h52 => ?_) (fun h52 => ?_)
        · refine r_callQ (w63) rfl ?_
          rintro _ ⟨r53, rfl, hr53⟩
          refine ⟨rfl, ?_⟩
          try simp only [List.cons_append, List.nil_append, List.flatten_cons, List.flatten_nil, List.append_nil]
          refine r_ret rfl ?_
          have hu : us.length = 0 := by omega
          have hl0 := j3 (by omega)
          have hs0 := j2 (by omega)
          exact ⟨_, rfl, hr53.trans ⟨fun h => Or.inr (Or.inl ⟨h49, by omega, hs0, hl0, hu⟩), fun h => by simp only [vtop] at h; omega⟩⟩
        · refine r_ret rfl ?_
          exact ⟨_, rfl, iffF (by simp only [vtop]; grind)⟩
      · first | refine r_eql rfl rfl ?_ | refine r_eqlS rfl rfl ?_
        try simp only [List.cons_append, List.nil_append, List.flatten_cons, List.flatten_nil, List.append_nil]
        first | refine r_iteP rfl (fun h57 => ?_) (fun h57 => ?_) | refine r_iteNP rfl (fun h57 => ?_) (fun h57 => ?_) | refine r_iteN rfl (fun h57 => ?_) (fun h57 => ?_) | refine r_ite rfl (fun h57 => ?_) (fun h57 => ?_)
        · first | refine r_eql rfl rfl ?_ | refine r_eqlS rfl rfl ?_
          try simp only [List.cons_append, List.nil_append, List.flatten_cons, List.flatten_nil, List.append_nil]
          first | refine r_iteP rfl (fun h59 => ?_) (fun h59 => ?_) | refine r_iteNP rfl (fun h59 => ?_) (fun h59 => ?_) | refine r_iteN rfl (fun h59 => ?_) (fun h59 => ?_) | refine r_ite rfl (fun h59 => ?_) (fun h59 => ?_)
          · refine r_len rfl ?_
            try simp only [List.cons_append, List.nil_append, List.flatten_cons, List.flatten_nil, List.append_nil]
            refine r_len rfl ?_
            try simp only [List.cons_append, List.nil_append, List.flatten_cons, List.flatten_nil, List.append_nil]
            first | refine r_eql rfl rfl ?_ | refine r_eqlS rfl rfl ?_
            try simp only [List.cons_append, List.nil_append, List.flatten_cons, List.flatten_nil, List.append_nil]
            first | refine r_iteP rfl (fun h63 => ?_) (fun h63 => ?_) | refine r_iteNP rfl (fun h63 => ?_) (fun h63 => ?_) | refine r_iteN rfl (fun h63 => ?_) (fun h63 => ?_) | refine r_ite rfl (fun h63 => ?_) (fun h63 => ?_)
            · refine r_callQ (w240 (by first | assumption | omega | (simp only [inR] at *; omega))) rfl ?_
              rintro _ ⟨r64, rfl, hr64⟩
              refine ⟨rfl, ?_⟩
              try simp only [List.cons_append, List.nil_append, List.flatten_cons, List.flatten_nil, List.append_nil]
              refine r_ret rfl ?_
              exact ⟨_, rfl, hr64.trans (by simp only [vtop]; grind)⟩
            · refine r_ret rfl ?_
              exact ⟨_, rfl, iffF (by simp only [vtop]; grind)⟩
          · refine r_ret rfl ?_
            exact ⟨_, rfl, iffF (by simp only [vtop]; grind)⟩
        · first | refine r_eql rfl rfl ?_ | refine r_eqlS rfl rfl ?_
          try simp only [List.cons_append, List.nil_append, List.flatten_cons, List.flatten_nil, List.append_nil]
          first | refine r_iteP rfl (fun h69 => ?_) (fun h69 => ?_) | refine r_iteNP rfl (fun h69 => ?_) (fun h69 => ?_) | refine r_iteN rfl (fun h69 => ?_) (fun h69 => ?_) | refine r_ite rfl (fun h69 => ?_) (fun h69 => ?_)
          · first | refine r_eql rfl rfl ?_ | refine r_eqlS rfl rfl ?_
            try simp only [List.cons_append, List.nil_append, List.flatten_cons, List.flatten_nil, List.append_nil]
            first | refine r_iteP rfl (fun h71 => ?_) (fun h71 => ?_) | refine r_iteNP rfl (fun h71 => ?_) (fun h71 => ?_) | refine r_iteN rfl (fun h71 => ?_) (fun h71 => ?_) | refine r_ite rfl (fun h71 => ?_) (fun h71 => ?_)
            · refine r_len rfl ?_
              try simp only [List.cons_append, List.nil_append, List.flatten_cons, List.flatten_nil, List.append_nil]
              first | refine r_eql rfl rfl ?_ | refine r_eqlS rfl rfl ?_
              try simp only [List.cons_append, List.nil_append, List.flatten_cons, List.flatten_nil, List.append_nil]
              refine r_ret rfl ?_
              exact ⟨_, rfl, iffD (by simp only [vtop]; grind)⟩
            · refine r_ret rfl ?_
              exact ⟨_, rfl, iffF (by simp only [vtop]; grind)⟩
          · first | refine r_eql rfl rfl ?_ | refine r_eqlS rfl rfl ?_
            try simp only [List.cons_append, List.nil_append, List.flatten_cons, List.flatten_nil, List.append_nil]
            first | refine r_iteP rfl (fun h77 => ?_) (fun h77 => ?_) | refine r_iteNP rfl (fun h77 => ?_) (fun h77 => ?_) | refine r_iteN rfl (fun h77 => ?_) (fun h77 => ?_) | refine r_ite rfl (fun h77 => ?_) (fun h77 => ?_)
            · first | refine r_eql rfl rfl ?_ | refine r_eqlS rfl rfl ?_
              try simp only [List.cons_append, List.nil_append, List.flatten_cons, List.flatten_nil, List.append_nil]
              refine r_ret rfl ?_
              exact ⟨_, rfl, iffD (by simp only [vtop]; grind)⟩
            · refine r_ret rfl ?_
              exact ⟨_, rfl, iffF (by simp only [vtop]; grind)⟩

/-- impl.valueFormed -/
theorem w216a {k n : Int} {s : ByteArray} {ls : List ByteArray} {us : List Val} (hs : s.size ≤ maxLen) (hls : strsOk ls) (hal : us.length ≤ maxLen) (ih : ∀ v ∈ us, ∃ rs, Big tab (.fn 216 [v.row] rs) ∧ ∃ b, rs = [[.bool b]] ∧ (b = true ↔ VForm v)) : ∃ rs, Big tab (.fn 216 [[I k, I n, .str s, strs ls, vals us]] rs) ∧ ∃ b, rs = [[.bool b]] ∧ (b = true ↔ VForm (.mk k n s ls us)) := by
  have hm : maxLen = 9223372036854775807 := rfl
  have hlen : (us.map Val.row).length = us.length := List.length_map ..
  have hlen2 : (ls.map strRow).length = ls.length := List.length_map ..
  have hnm := notNm
  rw [VForm_mk]
  refine tr_sound rfl c216 rfl ?_
  show wp _ _ _ _ [I k, I n, .str s, strs ls, vals us]
  refine r_join (fun vs => ∃ b : Bool, vs = [.bool b] ∧ (b = true ↔ vtop k n s ls us.length)) ?_ ?_
  · first | refine r_eql rfl rfl ?_ | refine r_eqlS rfl rfl ?_
    try simp only [List.cons_append, List.nil_append, List.flatten_cons, List.flatten_nil, List.append_nil]
    first | refine r_iteP rfl (fun h2 => ?_) (fun h2 => ?_) | refine r_iteNP rfl (fun h2 => ?_) (fun h2 => ?_) | refine r_iteN rfl (fun h2 => ?_) (fun h2 => ?_) | refine r_ite rfl (fun h2 => ?_) (fun h2 => ?_)
    · first | refine r_eql rfl rfl ?_ | refine r_eqlS rfl rfl ?_
      try simp only [List.cons_append, List.nil_append, List.flatten_cons, List.flatten_nil, List.append_nil]
      first | refine r_iteP rfl (fun h4 => ?_) (fun h4 => ?_) | refine r_iteNP rfl (fun h4 => ?_) (fun h4 => ?_) | refine r_iteN rfl (fun h4 => ?_) (fun h4 => ?_) | refine r_ite rfl (fun h4 => ?_) (fun h4 => ?_)
      · refine r_len rfl ?_
        try simp only [List.cons_append, List.nil_append, List.flatten_cons, List.flatten_nil, List.append_nil]
        first | refine r_eql rfl rfl ?_ | refine r_eqlS rfl rfl ?_
        try simp only [List.cons_append, List.nil_append, List.flatten_cons, List.flatten_nil, List.append_nil]
        first | refine r_iteP rfl (fun h7 => ?_) (fun h7 => ?_) | refine r_iteNP rfl (fun h7 => ?_) (fun h7 => ?_) | refine r_iteN rfl (fun h7 => ?_) (fun h7 => ?_) | refine r_ite rfl (fun h7 => ?_) (fun h7 => ?_)
        · refine r_len rfl ?_
          try simp only [List.cons_append, List.nil_append, List.flatten_cons, List.flatten_nil, List.append_nil]
          first | refine r_eql rfl rfl ?_ | refine r_eqlS rfl rfl ?_
          try simp only [List.cons_append, List.nil_append, List.flatten_cons, List.flatten_nil, List.append_nil]
          exact r_again ⟨_, rfl, iffD (by simp only [vtop]; grind)⟩
        · exact r_again ⟨_, rfl, iffF (by simp only [vtop]; grind)⟩
      · exact r_again ⟨_, rfl, iffF (by simp only [vtop]; grind)⟩
    · first | refine r_eql rfl rfl ?_ | refine r_eqlS rfl rfl ?_
      try simp only [List.cons_append, List.nil_append, List.flatten_cons, List.flatten_nil, List.append_nil]
      first | refine r_iteP rfl (fun h14 => ?_) (fun h14 => ?_) | refine r_iteNP rfl (fun h14 => ?_) (fun h14 => ?_) | refine r_iteN rfl (fun h14 => ?_) (fun h14 => ?_) | refine r_ite rfl (fun h14 => ?_) (fun h14 => ?_)
      · first | refine r_eql rfl rfl ?_ | refine r_eqlS rfl rfl ?_
        try simp only [List.cons_append, List.nil_append, List.flatten_cons, List.flatten_nil, List.append_nil]
        first | refine r_iteP rfl (fun h16 => ?_) (fun h16 => ?_) | refine r_iteNP rfl (fun h16 => ?_) (fun h16 => ?_) | refine r_iteN rfl (fun h16 => ?_) (fun h16 => ?_) | refine r_ite rfl (fun h16 => ?_) (fun h16 => ?_)
        · first | refine r_eql rfl rfl ?_ | refine r_eqlS rfl rfl ?_
          try simp only [List.cons_append, List.nil_append, List.flatten_cons, List.flatten_nil, List.append_nil]
          first | refine r_iteP rfl (fun h18 => ?_) (fun h18 => ?_) | refine r_iteNP rfl (fun h18 => ?_) (fun h18 => ?_) | refine r_iteN rfl (fun h18 => ?_) (fun h18 => ?_) | refine r_ite rfl (fun h18 => ?_) (fun h18 => ?_)
          · refine r_len rfl ?_
            try simp only [List.cons_append, List.nil_append, List.flatten_cons, List.flatten_nil, List.append_nil]
            first | refine r_eql rfl rfl ?_ | refine r_eqlS rfl rfl ?_
            try simp only [List.cons_append, List.nil_append, List.flatten_cons, List.flatten_nil, List.append_nil]
            first | refine r_iteP rfl (fun h21 => ?_) (fun h21 => ?_) | refine r_iteNP rfl (fun h21 => ?_) (fun h21 => ?_) | refine r_iteN rfl (fun h21 => ?_) (fun h21 => ?_) | refine r_ite rfl (fun h21 => ?_) (fun h21 => ?_)
            · refine r_len rfl ?_
              try simp only [List.cons_append, List.nil_append, List.flatten_cons, List.flatten_nil, List.append_nil]
              first | refine r_eql rfl rfl ?_ | refine r_eqlS rfl rfl ?_
              try simp only [List.cons_append, List.nil_append, List.flatten_cons, List.flatten_nil, List.append_nil]
              exact r_again ⟨_, rfl, iffD (by simp only [vtop]; grind)⟩
            · exact r_again ⟨_, rfl, iffF (by simp only [vtop]; grind)⟩
          · exact r_again ⟨_, rfl, iffF (by simp only [vtop]; grind)⟩
        · first | refine r_eql rfl rfl ?_ | refine r_eqlS rfl rfl ?_
          try simp only [List.cons_append, List.nil_append, List.flatten_cons, List.flatten_nil, List.append_nil]
          first | refine r_iteP rfl (fun h28 => ?_) (fun h28 => ?_) | refine r_iteNP rfl (fun h28 => ?_) (fun h28 => ?_) | refine r_iteN rfl (fun h28 => ?_) (fun h28 => ?_) | refine r_ite rfl (fun h28 => ?_) (fun h28 => ?_)
          · first | refine r_eql rfl rfl ?_ | refine r_eqlS rfl rfl ?_
            try simp only [List.cons_append, List.nil_append, List.flatten_cons, List.flatten_nil, List.append_nil]
            first | refine r_iteP rfl (fun h30 => ?_) (fun h30 => ?_) | refine r_iteNP rfl (fun h30 => ?_) (fun h30 => ?_) | refine r_iteN rfl (fun h30 => ?_) (fun h30 => ?_) | refine r_ite rfl (fun h30 => ?_) (fun h30 => ?_)
            · refine r_len rfl ?_
              try simp only [List.cons_append, List.nil_append, List.flatten_cons, List.flatten_nil, List.append_nil]
              first | refine r_eql rfl rfl ?_ | refine r_eqlS rfl rfl ?_
              try simp only [List.cons_append, List.nil_append, List.flatten_cons, List.flatten_nil, List.append_nil]
              first | refine r_iteP rfl (fun h33 => ?_) (fun h33 => ?_) | refine r_iteNP rfl (fun h33 => ?_) (fun h33 => ?_) | refine r_iteN rfl (fun h33 => ?_) (fun h33 => ?_) | refine r_ite rfl (fun h33 => ?_) (fun h33 => ?_)
              · refine r_len rfl ?_
                try simp only [List.cons_append, List.nil_append, List.flatten_cons, List.flatten_nil, List.append_nil]
                first | refine r_eql rfl rfl ?_ | refine r_eqlS rfl rfl ?_
                try simp only [List.cons_append, List.nil_append, List.flatten_cons, List.flatten_nil, List.append_nil]
                exact r_again ⟨_, rfl, iffD (by simp only [vtop]; grind)⟩
              · exact r_again ⟨_, rfl, iffF (by simp only [vtop]; grind)⟩
            · exact r_again ⟨_, rfl, iffF (by simp only [vtop]; grind)⟩
          · exact r_again ⟨_, rfl, iffF (by simp only [vtop]; grind)⟩
      · first | refine r_eql rfl rfl ?_ | refine r_eqlS rfl rfl ?_
        try simp only [List.cons_append, List.nil_append, List.flatten_cons, List.flatten_nil, List.append_nil]
        first | refine r_iteP rfl (fun h41 => ?_) (fun h41 => ?_) | refine r_iteNP rfl (fun h41 => ?_) (fun h41 => ?_) | refine r_iteN rfl (fun h41 => ?_) (fun h41 => ?_) | refine r_ite rfl (fun h41 => ?_) (fun h41 => ?_)
        · first | refine r_eql rfl rfl ?_ | refine r_eqlS rfl rfl ?_
          try simp only [List.cons_append, List.nil_append, List.flatten_cons, List.flatten_nil, List.append_nil]
          first | refine r_iteP rfl (fun h43 => ?_) (fun h43 => ?_) | refine r_iteNP rfl (fun h43 => ?_) (fun h43 => ?_) | refine r_iteN rfl (fun h43 => ?_) (fun h43 => ?_) | refine r_ite rfl (fun h43 => ?_) (fun h43 => ?_)
          · first | refine r_eql rfl rfl ?_ | refine r_eqlS rfl rfl ?_
            try simp only [List.cons_append, List.nil_append, List.flatten_cons, List.flatten_nil, List.append_nil]
            first | refine r_iteP rfl (fun h45 => ?_) (fun h45 => ?_) | refine r_iteNP rfl (fun h45 => ?_) (fun h45 => ?_) | refine r_iteN rfl (fun h45 => ?_) (fun h45 => ?_) | refine r_ite rfl (fun h45 => ?_) (fun h45 => ?_)
            · refine r_len rfl ?_
              try simp only [List.cons_append, List.nil_append, List.flatten_cons, List.flatten_nil, List.append_nil]
              refine r_len rfl ?_
              try simp only [List.cons_append, List.nil_append, List.flatten_cons, List.flatten_nil, List.append_nil]
              first | refine r_eql rfl rfl ?_ | refine r_eqlS rfl rfl ?_
              try simp only [List.cons_append, List.nil_append, List.flatten_cons, List.flatten_nil, List.append_nil]
              first | refine r_iteP rfl (fun h49 => ?_) (fun h49 => ?_) | refine r_iteNP rfl (fun h49 => ?_) (fun h49 => ?_) | refine r_iteN rfl (fun h49 => ?_) (fun h49 => ?_) | refine r_ite rfl (fun h49 => ?_) (fun h49 => ?_)
              · refine r_callQ (w241 (by first | assumption | omega | (simp only [inR] at *; omega))) rfl ?_
                rintro _ ⟨r50, rfl, hr50⟩
                refine ⟨rfl, ?_⟩
                try simp only [List.cons_append, List.nil_append, List.flatten_cons, List.flatten_nil, List.append_nil]
                exact r_again ⟨_, rfl, hr50.trans (by simp only [vtop]; grind)⟩
              · exact r_again ⟨_, rfl, iffF (by simp only [vtop]; grind)⟩
            · exact r_again ⟨_, rfl, iffF (by simp only [vtop]; grind)⟩
          · exact r_again ⟨_, rfl, iffF (by simp only [vtop]; grind)⟩
        · first | refine r_eql rfl rfl ?_ | refine r_eqlS rfl rfl ?_
          try simp only [List.cons_append, List.nil_append, List.flatten_cons, List.flatten_nil, List.append_nil]
          first | refine r_iteP rfl (fun h56 => ?_) (fun h56 => ?_) | refine r_iteNP rfl (fun h56 => ?_) (fun h56 => ?_) | refine r_iteN rfl (fun h56 => ?_) (fun h56 => ?_) | refine r_ite rfl (fun h56 => ?_) (fun h56 => ?_)
          · first | refine r_eql rfl rfl ?_ | refine r_eqlS rfl rfl ?_
            try simp only [List.cons_append, List.nil_append, List.flatten_cons, List.flatten_nil, List.append_nil]
            first | refine r_iteP rfl (fun h58 => ?_) (fun h58 => ?_) | refine r_iteNP rfl (fun h58 => ?_) (fun h58 => ?_) | refine r_iteN rfl (fun h58 => ?_) (fun h58 => ?_) | refine r_ite rfl (fun h58 => ?_) (fun h58 => ?_)
            · refine r_callQ (w64 (by first | assumption | omega | (simp only [inR] at *; omega))) rfl ?_
              rintro _ ⟨r59, rfl, hr59⟩
              refine ⟨rfl, ?_⟩
              try simp only [List.cons_append, List.nil_append, List.flatten_cons, List.flatten_nil, List.append_nil]
              first | refine r_iteP rfl (fun h60 => ?_) (fun h60 => ?_) | refine r_iteNP rfl (fun h60 => ?_) (fun h60 => ?_) | refine r_iteN rfl (fun h60 => ?_) (fun h60 => ?_) | refine r_ite rfl (fun h60 => ?_) (fun h60 => ?_)
              · refine r_len rfl ?_
                try simp only [List.cons_append, List.nil_append, List.flatten_cons, List.flatten_nil, List.append_nil]
                first | refine r_eql rfl rfl ?_ | refine r_eqlS rfl rfl ?_
                try simp only [List.cons_append, List.nil_append, List.flatten_cons, List.flatten_nil, List.append_nil]
                first | refine r_iteP rfl (fun h63 => ?_) (fun h63 => ?_) | refine r_iteNP rfl (fun h63 => ?_) (fun h63 => ?_) | refine r_iteN rfl (fun h63 => ?_) (fun h63 => ?_) | refine r_ite rfl (fun h63 => ?_) (fun h63 => ?_)
                · refine r_len rfl ?_
                  try simp only [List.cons_append, List.nil_append, List.flatten_cons, List.flatten_nil, List.append_nil]
                  first | refine r_eql rfl rfl ?_ | refine r_eqlS rfl rfl ?_
                  try simp only [List.cons_append, List.nil_append, List.flatten_cons, List.flatten_nil, List.append_nil]
                  exact r_again ⟨_, rfl, iffD (by simp only [vtop]; grind)⟩
                · exact r_again ⟨_, rfl, iffF (by simp only [vtop]; grind)⟩
              · exact r_again ⟨_, rfl, iffF (by simp only [vtop]; grind)⟩
            · exact r_again ⟨_, rfl, iffF (by simp only [vtop]; grind)⟩
          · first | refine r_eql rfl rfl ?_ | refine r_eqlS rfl rfl ?_
            try simp only [List.cons_append, List.nil_append, List.flatten_cons, List.flatten_nil, List.append_nil]
            first | refine r_iteP rfl (fun h71 => ?_) (fun h71 => ?_) | refine r_iteNP rfl (fun h71 => ?_) (fun h71 => ?_) | refine r_iteN rfl (fun h71 => ?_) (fun h71 => ?_) | refine r_ite rfl (fun h71 => ?_) (fun h71 => ?_)
            · first | refine r_eql rfl rfl ?_ | refine r_eqlS rfl rfl ?_
              try simp only [List.cons_append, List.nil_append, List.flatten_cons, List.flatten_nil, List.append_nil]
              first | refine r_iteP rfl (fun h73 => ?_) (fun h73 => ?_) | refine r_iteNP rfl (fun h73 => ?_) (fun h73 => ?_) | refine r_iteN rfl (fun h73 => ?_) (fun h73 => ?_) | refine r_ite rfl (fun h73 => ?_) (fun h73 => ?_)
              · first | refine r_eql rfl rfl ?_ | refine r_eqlS rfl rfl ?_
                try simp only [List.cons_append, List.nil_append, List.flatten_cons, List.flatten_nil, List.append_nil]
                first | refine r_iteP rfl (fun h75 => ?_) (fun h75 => ?_) | refine r_iteNP rfl (fun h75 => ?_) (fun h75 => ?_) | refine r_iteN rfl (fun h75 => ?_) (fun h75 => ?_) | refine r_ite rfl (fun h75 => ?_) (fun h75 => ?_)
                · refine r_len rfl ?_
                  try simp only [List.cons_append, List.nil_append, List.flatten_cons, List.flatten_nil, List.append_nil]
                  first | refine r_eql rfl rfl ?_ | refine r_eqlS rfl rfl ?_
                  try simp only [List.cons_append, List.nil_append, List.flatten_cons, List.flatten_nil, List.append_nil]
                  exact r_again ⟨_, rfl, iffD (by simp only [vtop]; grind)⟩
                · exact r_again ⟨_, rfl, iffF (by simp only [vtop]; grind)⟩
              · exact r_again ⟨_, rfl, iffF (by simp only [vtop]; grind)⟩
            · exact r_again ⟨_, rfl, iffF (by simp only [vtop]; grind)⟩
  rintro _ ⟨b0, rfl, hb0⟩
  try simp only [List.cons_append, List.nil_append, List.flatten_cons, List.flatten_nil, List.append_nil]
  refine r_len rfl ?_
  try simp only [List.cons_append, List.nil_append, List.flatten_cons, List.flatten_nil, List.append_nil]
  refine r_loop (fun m vs => ∃ (c : Bool) (i : Int), vs = [.bool c, I i] ∧ 0 ≤ i ∧ i ≤ us.length ∧ (c = true → vtop k n s ls us.length ∧ ∀ (j : Nat) x, (j : Int) < i → us[j]? = some x → VForm x) ∧ (c = false → ¬ (vtop k n s ls us.length ∧ ∀ u ∈ us, VForm u)) ∧ m = (us.length - i).toNat) _ ⟨_, _, rfl, by omega, by omega, fun h => ⟨hb0.1 h, fun j b hj => by omega⟩, fun h h' => (by rw [hb0.2 h'.1] at h; cases h), rfl⟩ ?_
  rintro m _ ⟨c, i, rfl, hi0, hi1, hc1, hc2, rfl⟩
  try simp only [List.cons_append, List.nil_append, List.flatten_cons, List.flatten_nil, List.append_nil]
  first | refine r_lss rfl rfl ?_ | refine r_lssS rfl rfl ?_
  try simp only [List.cons_append, List.nil_append, List.flatten_cons, List.flatten_nil, List.append_nil]
  first | refine r_iteP rfl (fun h85 => ?_) (fun h85 => ?_) | refine r_iteNP rfl (fun h85 => ?_) (fun h85 => ?_) | refine r_iteN rfl (fun h85 => ?_) (fun h85 => ?_) | refine r_ite rfl (fun h85 => ?_) (fun h85 => ?_)
  · refine r_inbT rfl rfl (by omega) (by omega) (fun e86 he86 hr86 => ?_)
    try simp only [List.cons_append, List.nil_append, List.flatten_cons, List.flatten_nil, List.append_nil]
    have hm4 := List.mem_of_getElem? he86
    have ih4 := ih e86 hm4
    have hno4 : ¬ VForm e86 → ¬ (vtop k n s ls us.length ∧ ∀ u ∈ us, VForm u) := fun h h' => h (h'.2 e86 hm4)
    have hst4 : c = true → VForm e86 → _ := fun hc h => allStep hi0 (hc1 hc).2 he86 h
    generalize VForm e86 = M4 at *
    obtain ⟨k4, n4, s4, l4, u4⟩ := e86
    rw [Val.row_mk] at hr86 ih4
    refine r_get1 rfl rfl hr86 rfl rfl ?_
    try simp only [List.cons_append, List.nil_append, List.flatten_cons, List.flatten_nil, List.append_nil]
    refine r_get1 rfl rfl hr86 rfl rfl ?_
    try simp only [List.cons_append, List.nil_append, List.flatten_cons, List.flatten_nil, List.append_nil]
    refine r_get1 rfl rfl hr86 rfl rfl ?_
    try simp only [List.cons_append, List.nil_append, List.flatten_cons, List.flatten_nil, List.append_nil]
    refine r_get1 rfl rfl hr86 rfl rfl ?_
    try simp only [List.cons_append, List.nil_append, List.flatten_cons, List.flatten_nil, List.append_nil]
    refine r_get1 rfl rfl hr86 rfl rfl ?_
    try simp only [List.cons_append, List.nil_append, List.flatten_cons, List.flatten_nil, List.append_nil]
    first | refine r_iteP rfl (fun h92 => ?_) (fun h92 => ?_) | refine r_iteNP rfl (fun h92 => ?_) (fun h92 => ?_) | refine r_iteN rfl (fun h92 => ?_) (fun h92 => ?_) | refine r_ite rfl (fun h92 => ?_) (fun h92 => ?_)
    · refine r_callQ ih4 rfl ?_
      rintro _ ⟨r48, rfl, hr48⟩
      refine ⟨rfl, ?_⟩
      try simp only [List.cons_append, List.nil_append, List.flatten_cons, List.flatten_nil, List.append_nil]
      first | refine r_add rfl rfl (by simp only [inR] at *; omega) ?_ | refine r_addS rfl rfl (by omega) ?_
      try simp only [List.cons_append, List.nil_append, List.flatten_cons, List.flatten_nil, List.append_nil]
      exact r_again ⟨_, by omega, _, _, rfl, by omega, by omega, fun h => ⟨(hc1 h92).1, hst4 h92 (hr48.1 h)⟩, fun h => hno4 fun h' => (by rw [hr48.2 h'] at h; cases h), rfl⟩
    · first | refine r_add rfl rfl (by simp only [inR] at *; omega) ?_ | refine r_addS rfl rfl (by omega) ?_
      try simp only [List.cons_append, List.nil_append, List.flatten_cons, List.flatten_nil, List.append_nil]
      exact r_again ⟨_, by omega, _, _, rfl, by omega, by omega, fun h => absurd h (by simp), fun _ => hc2 h92, rfl⟩
  · refine r_ret (vs := [[.bool c]]) rfl ⟨c, rfl, ?_⟩
    cases c
    · exact iffF (hc2 rfl)
    · exact iffT ⟨(hc1 rfl).1, allDone (by omega) (hc1 rfl).2⟩

theorem w213 {v : Val} (hv : v.ok) : ∃ rs, Big tab (.fn 213 [v.row] rs) ∧ ∃ b, rs = [[.bool b]] ∧ (b = true ↔ VForm v) := by
  induction v using Val.ind with
  | h k n s ls us ih =>
    obtain ⟨_, _, hs, hls, hal, has⟩ := hv
    rw [Val.row_mk]
    exact w213a hs hls hal fun v hv => ih v hv (has v hv)
theorem w216 {v : Val} (hv : v.ok) : ∃ rs, Big tab (.fn 216 [v.row] rs) ∧ ∃ b, rs = [[.bool b]] ∧ (b = true ↔ VForm v) := by
  induction v using Val.ind with
  | h k n s ls us ih =>
    obtain ⟨_, _, hs, hls, hal, has⟩ := hv
    rw [Val.row_mk]
    exact w216a hs hls hal fun v hv => ih v hv (has v hv)
theorem w212m {k n : Int} {s : ByteArray} {ls : List ByteArray} {us : List Val} (hv : (Val.mk k n s ls us).ok) {left : Int} (h0 : 0 ≤ left) (h1 : left ≤ 1099511627776) : ∃ rs, Big tab (.fn 212 [[I k, I n, .str s, strs ls, vals us], [I left]] rs) ∧ ∃ x, rs = [[I x]] ∧ -1 ≤ x ∧ ((Val.mk k n s ls us).nodes ≤ left → x = left - (Val.mk k n s ls us).nodes) ∧ (left < (Val.mk k n s ls us).nodes → x = -1) := by
  have := w212 hv h0 h1
  rwa [Val.row_mk] at this
theorem w213m {k n : Int} {s : ByteArray} {ls : List ByteArray} {us : List Val} (hv : (Val.mk k n s ls us).ok) : ∃ rs, Big tab (.fn 213 [[I k, I n, .str s, strs ls, vals us]] rs) ∧ ∃ b, rs = [[.bool b]] ∧ (b = true ↔ VForm (Val.mk k n s ls us)) := by
  have := w213 hv
  rwa [Val.row_mk] at this
theorem w216m {k n : Int} {s : ByteArray} {ls : List ByteArray} {us : List Val} (hv : (Val.mk k n s ls us).ok) : ∃ rs, Big tab (.fn 216 [[I k, I n, .str s, strs ls, vals us]] rs) ∧ ∃ b, rs = [[.bool b]] ∧ (b = true ↔ VForm (Val.mk k n s ls us)) := by
  have := w216 hv
  rwa [Val.row_mk] at this
theorem w74n {k n : Int} {s : ByteArray} {ls : List ByteArray} {us : List Val} (hb : (Val.mk k n s ls us).nodes ≤ 1099511627777) : ∃ rs, Big tab (.fn 74 [[I k, I n, .str s, strs ls, vals us]] rs) ∧ rs = [[I (Val.mk k n s ls us).nodes]] := by
  have := w74 hb
  rwa [Val.row_mk] at this

/-- spec.IsValue -/
theorem w180 {k n : Int} {s : ByteArray} {ls : List ByteArray} {us : List Val} (hv : (Val.mk k n s ls us).ok) : ∃ rs, Big tab (.fn 180 [[I k, I n, .str s, strs ls, vals us]] rs) ∧ ∃ b, rs = [[.bool b]] ∧ (b = true ↔ VVal (Val.mk k n s ls us)) := by
  refine tr_sound rfl c180 rfl ?_
  show wp _ _ _ _ [I k, I n, .str s, strs ls, vals us]
  refine r_callQ (w212m hv (by omega) (by omega)) rfl ?_
  rintro _ ⟨r0, rfl, hr0, hr0a, hr0b⟩
  refine ⟨rfl, ?_⟩
  try simp only [List.cons_append, List.nil_append, List.flatten_cons, List.flatten_nil, List.append_nil]
  first | refine r_geq rfl rfl ?_ | refine r_geqS rfl rfl ?_
  try simp only [List.cons_append, List.nil_append, List.flatten_cons, List.flatten_nil, List.append_nil]
  first | refine r_iteP rfl (fun h2 => ?_) (fun h2 => ?_) | refine r_iteNP rfl (fun h2 => ?_) (fun h2 => ?_) | refine r_iteN rfl (fun h2 => ?_) (fun h2 => ?_) | refine r_ite rfl (fun h2 => ?_) (fun h2 => ?_)
  · refine r_callQ (w213m hv) rfl ?_
    rintro _ ⟨r3, rfl, hr3⟩
    refine ⟨rfl, ?_⟩
    try simp only [List.cons_append, List.nil_append, List.flatten_cons, List.flatten_nil, List.append_nil]
    refine r_ret rfl ?_
    exact ⟨_, rfl, hr3.trans ⟨fun h => ⟨by omega, h⟩, fun h => h.2⟩⟩
  · refine r_ret rfl ?_
    exact ⟨_, rfl, iffF (fun h => by have := h.1; omega)⟩

/-- impl.IsValue -/
theorem w182 {k n : Int} {s : ByteArray} {ls : List ByteArray} {us : List Val} (hv : (Val.mk k n s ls us).ok) (hb : (Val.mk k n s ls us).nodes ≤ 1099511627777) : ∃ rs, Big tab (.fn 182 [[I k, I n, .str s, strs ls, vals us]] rs) ∧ ∃ b, rs = [[.bool b]] ∧ (b = true ↔ VVal (Val.mk k n s ls us)) := by
  refine tr_sound rfl c182 rfl ?_
  show wp _ _ _ _ [I k, I n, .str s, strs ls, vals us]
  refine r_callQ (w74n hb) rfl ?_
  rintro _ rfl
  refine ⟨rfl, ?_⟩
  try simp only [List.cons_append, List.nil_append, List.flatten_cons, List.flatten_nil, List.append_nil]
  refine r_leq rfl rfl ?_
  try simp only [List.cons_append, List.nil_append, List.flatten_cons, List.flatten_nil, List.append_nil]
  first | refine r_iteP rfl (fun h2 => ?_) (fun h2 => ?_) | refine r_iteNP rfl (fun h2 => ?_) (fun h2 => ?_) | refine r_iteN rfl (fun h2 => ?_) (fun h2 => ?_) | refine r_ite rfl (fun h2 => ?_) (fun h2 => ?_)
  · refine r_callQ (w216m hv) rfl ?_
    rintro _ ⟨r3, rfl, hr3⟩
    refine ⟨rfl, ?_⟩
    try simp only [List.cons_append, List.nil_append, List.flatten_cons, List.flatten_nil, List.append_nil]
    refine r_ret rfl ?_
    exact ⟨_, rfl, hr3.trans ⟨fun h => ⟨by omega, h⟩, fun h => h.2⟩⟩
  · refine r_ret rfl ?_
    exact ⟨_, rfl, iffF (fun h => by have := h.1; omega)⟩

end Go.Proofs.Ytkiliooegoldoaa
