/- Walks: Names -/
import Derived.Test.YtkiliooegoldoaaSteps
set_option linter.unusedVariables false
set_option linter.unusedSimpArgs false
namespace Go.Proofs.Ytkiliooegoldoaa
open Go

/-! ### Names -/
def nmB (b : UInt8) (nz : Prop) : Prop := (97 ≤ b.toNat ∧ b.toNat ≤ 122) ∨ (nz ∧ 48 ≤ b.toNat ∧ b.toNat ≤ 57)
def IsNm (s : ByteArray) : Prop := 1 ≤ s.size ∧ s.size ≤ 4 ∧ ∀ (j : Nat) b, s[j]? = some b → nmB b (j ≠ 0)
theorem nmNo {s : ByteArray} {j : Nat} {b : UInt8} (hb : s[j]? = some b) (h : ¬ nmB b (j ≠ 0)) : ¬ IsNm s := fun hn => h (hn.2.2 j b hb)
theorem nmStep {s : ByteArray} {i : Int} {b0 : UInt8} (h0 : 0 ≤ i) (hj : ∀ (j : Nat) b, (j : Int) < i → s[j]? = some b → nmB b (j ≠ 0)) (hb : s[i.toNat]? = some b0) (h : nmB b0 (i.toNat ≠ 0)) :
    ∀ (j : Nat) b, (j : Int) < i + 1 → s[j]? = some b → nmB b (j ≠ 0) := by
  intro j b hlt hb'
  by_cases hji : (j : Int) < i
  · exact hj j b hji hb'
  · have : j = i.toNat := by omega
    subst this
    rw [hb] at hb'
    cases hb'
    exact h
theorem nm_lt {s : ByteArray} {j : Nat} {b : UInt8} (h : s[j]? = some b) : j < s.size := by
  by_cases hj : j < s.size
  · exact hj
  · rw [getElem?_neg s j hj] at h; cases h

/-- spec.l1In -/
theorem w63 {x lo hi : Int} : ∃ rs, Big tab (.fn 63 [[I x], [I lo], [I hi]] rs) ∧ ∃ b, rs = [[.bool b]] ∧ (b = true ↔ (lo ≤ x ∧ x ≤ hi)) := by
  refine tr_sound rfl c63 rfl ?_
  show wp _ _ _ _ [I x, I lo, I hi]
  first | refine r_geq rfl rfl ?_ | refine r_geqS rfl rfl ?_
  try simp only [List.cons_append, List.nil_append, List.flatten_cons, List.flatten_nil, List.append_nil]
  first | refine r_iteP rfl (fun h1 => ?_) (fun h1 => ?_) | refine r_iteNP rfl (fun h1 => ?_) (fun h1 => ?_) | refine r_iteN rfl (fun h1 => ?_) (fun h1 => ?_) | refine r_ite rfl (fun h1 => ?_) (fun h1 => ?_)
  · refine r_leq rfl rfl ?_
    try simp only [List.cons_append, List.nil_append, List.flatten_cons, List.flatten_nil, List.append_nil]
    refine r_ret rfl ?_
    exact ⟨_, rfl, iffD (by omega)⟩
  · refine r_ret rfl ?_
    exact ⟨_, rfl, iffF (by omega)⟩

/-- spec.IsName -/
theorem w62 {s : ByteArray} (hs : s.size ≤ maxLen) : ∃ rs, Big tab (.fn 62 [[.str s]] rs) ∧ ∃ b, rs = [[.bool b]] ∧ (b = true ↔ IsNm s) := by
  have hm : maxLen = 9223372036854775807 := rfl
  refine tr_sound rfl c62 rfl ?_
  show wp _ _ _ _ [.str s]
  refine r_loop (fun m vs => ∃ i : Int, vs = [I i] ∧ 0 ≤ i ∧ i ≤ s.size ∧ (∀ (j : Nat) b, (j : Int) < i → s[j]? = some b → nmB b (j ≠ 0)) ∧ m = (s.size - i).toNat) _ ⟨_, rfl, by omega, by omega, fun j b hj => by omega, rfl⟩ ?_
  rintro m _ ⟨i, rfl, hi0, hi1, hj, rfl⟩
  try simp only [List.cons_append, List.nil_append, List.flatten_cons, List.flatten_nil, List.append_nil]
  refine r_lenS rfl ?_
  try simp only [List.cons_append, List.nil_append, List.flatten_cons, List.flatten_nil, List.append_nil]
  first | refine r_lss rfl rfl ?_ | refine r_lssS rfl rfl ?_
  try simp only [List.cons_append, List.nil_append, List.flatten_cons, List.flatten_nil, List.append_nil]
  first | refine r_iteP rfl (fun h3 => ?_) (fun h3 => ?_) | refine r_iteNP rfl (fun h3 => ?_) (fun h3 => ?_) | refine r_iteN rfl (fun h3 => ?_) (fun h3 => ?_) | refine r_ite rfl (fun h3 => ?_) (fun h3 => ?_)
  · refine r_join (fun vs => ∃ b : Bool, vs = [.bool b] ∧ ∀ c, s[i.toNat]? = some c → (b = true ↔ 97 ≤ c.toNat ∧ c.toNat ≤ 122)) ?_ ?_
    · refine r_ix rfl rfl (by omega) (by omega) (fun b5 hb5 => ?_)
      try simp only [List.cons_append, List.nil_append, List.flatten_cons, List.flatten_nil, List.append_nil]
      first | refine r_geq rfl rfl ?_ | refine r_geqS rfl rfl ?_
      try simp only [List.cons_append, List.nil_append, List.flatten_cons, List.flatten_nil, List.append_nil]
      first | refine r_iteP rfl (fun h7 => ?_) (fun h7 => ?_) | refine r_iteNP rfl (fun h7 => ?_) (fun h7 => ?_) | refine r_iteN rfl (fun h7 => ?_) (fun h7 => ?_) | refine r_ite rfl (fun h7 => ?_) (fun h7 => ?_)
      · refine r_ix rfl rfl (by omega) (by omega) (fun b8 hb8 => ?_)
        try simp only [List.cons_append, List.nil_append, List.flatten_cons, List.flatten_nil, List.append_nil]
        refine r_leq rfl rfl ?_
        try simp only [List.cons_append, List.nil_append, List.flatten_cons, List.flatten_nil, List.append_nil]
        obtain rfl : b5 = b8 := Option.some.inj (hb5.symm.trans hb8)
        exact r_again ⟨_, rfl, fun c hc => iffD (by obtain rfl : b5 = c := Option.some.inj (hb5.symm.trans hc); omega)⟩
      · exact r_again ⟨_, rfl, fun c hc => iffF (by obtain rfl : b5 = c := Option.some.inj (hb5.symm.trans hc); omega)⟩
    rintro _ ⟨b4, rfl, hb4⟩
    obtain ⟨c4, hc4⟩ : ∃ c, s[i.toNat]? = some c := ⟨_, getElem?_pos s i.toNat (by omega)⟩
    have hb4 := hb4 c4 hc4
    try simp only [List.cons_append, List.nil_append, List.flatten_cons, List.flatten_nil, List.append_nil]
    refine r_not rfl ?_
    try simp only [List.cons_append, List.nil_append, List.flatten_cons, List.flatten_nil, List.append_nil]
    first | refine r_iteP rfl (fun h13 => ?_) (fun h13 => ?_) | refine r_iteNP rfl (fun h13 => ?_) (fun h13 => ?_) | refine r_iteN rfl (fun h13 => ?_) (fun h13 => ?_) | refine r_ite rfl (fun h13 => ?_) (fun h13 => ?_)
    · have hn4 : ¬ (97 ≤ c4.toNat ∧ c4.toNat ≤ 122) := fun h => by rw [hb4.2 h] at h13; cases h13
      first | refine r_eql rfl rfl ?_ | refine r_eqlS rfl rfl ?_
      try simp only [List.cons_append, List.nil_append, List.flatten_cons, List.flatten_nil, List.append_nil]
      first | refine r_iteP rfl (fun h15 => ?_) (fun h15 => ?_) | refine r_iteNP rfl (fun h15 => ?_) (fun h15 => ?_) | refine r_iteN rfl (fun h15 => ?_) (fun h15 => ?_) | refine r_ite rfl (fun h15 => ?_) (fun h15 => ?_)
      · refine r_ret rfl ?_
        exact ⟨_, rfl, iffF (nmNo hc4 (by simp only [nmB]; omega))⟩
      · refine r_ix rfl rfl (by omega) (by omega) (fun b17 hb17 => ?_)
        try simp only [List.cons_append, List.nil_append, List.flatten_cons, List.flatten_nil, List.append_nil]
        obtain rfl : c4 = b17 := Option.some.inj (hc4.symm.trans hb17)
        first | refine r_lss rfl rfl ?_ | refine r_lssS rfl rfl ?_
        try simp only [List.cons_append, List.nil_append, List.flatten_cons, List.flatten_nil, List.append_nil]
        first | refine r_iteP rfl (fun h19 => ?_) (fun h19 => ?_) | refine r_iteNP rfl (fun h19 => ?_) (fun h19 => ?_) | refine r_iteN rfl (fun h19 => ?_) (fun h19 => ?_) | refine r_ite rfl (fun h19 => ?_) (fun h19 => ?_)
        · refine r_ret rfl ?_
          exact ⟨_, rfl, iffF (nmNo hc4 (by simp only [nmB]; omega))⟩
        · refine r_ix rfl rfl (by omega) (by omega) (fun b21 hb21 => ?_)
          try simp only [List.cons_append, List.nil_append, List.flatten_cons, List.flatten_nil, List.append_nil]
          obtain rfl : c4 = b21 := Option.some.inj (hc4.symm.trans hb21)
          refine r_gtr rfl rfl ?_
          try simp only [List.cons_append, List.nil_append, List.flatten_cons, List.flatten_nil, List.append_nil]
          first | refine r_iteP rfl (fun h23 => ?_) (fun h23 => ?_) | refine r_iteNP rfl (fun h23 => ?_) (fun h23 => ?_) | refine r_iteN rfl (fun h23 => ?_) (fun h23 => ?_) | refine r_ite rfl (fun h23 => ?_) (fun h23 => ?_)
          · refine r_ret rfl ?_
            exact ⟨_, rfl, iffF (nmNo hc4 (by simp only [nmB]; omega))⟩
          · first | refine r_add rfl rfl (by simp only [inR] at *; omega) ?_ | refine r_addS rfl rfl (by omega) ?_
            try simp only [List.cons_append, List.nil_append, List.flatten_cons, List.flatten_nil, List.append_nil]
            exact r_again ⟨_, by omega, _, rfl, by omega, by omega, nmStep hi0 hj hc4 (by simp only [nmB]; omega), rfl⟩
    · first | refine r_add rfl rfl (by simp only [inR] at *; omega) ?_ | refine r_addS rfl rfl (by omega) ?_
      try simp only [List.cons_append, List.nil_append, List.flatten_cons, List.flatten_nil, List.append_nil]
      exact r_again ⟨_, by omega, _, rfl, by omega, by omega, nmStep hi0 hj hc4 (Or.inl (hb4.1 h13)), rfl⟩
  · refine r_lenS rfl ?_
    try simp only [List.cons_append, List.nil_append, List.flatten_cons, List.flatten_nil, List.append_nil]
    refine r_callQ (w63) rfl ?_
    rintro _ ⟨r30, rfl, hr30⟩
    refine ⟨rfl, ?_⟩
    try simp only [List.cons_append, List.nil_append, List.flatten_cons, List.flatten_nil, List.append_nil]
    refine r_ret rfl ?_
    exact ⟨_, rfl, hr30.trans ⟨fun h => ⟨by omega, by omega, fun j b hb => hj j b (by have := nm_lt hb; omega) hb⟩, fun h => ⟨by have := h.1; omega, by have := h.2.1; omega⟩⟩⟩

/-- impl.nameByte -/
theorem w95 {b : UInt8} {z : Bool} : ∃ rs, Big tab (.fn 95 [[.int .u8 b.toNat], [.bool z]] rs) ∧ ∃ r, rs = [[.bool r]] ∧ (r = true ↔ nmB b (z = false)) := by
  refine tr_sound rfl c95 rfl ?_
  show wp _ _ _ _ [.int .u8 b.toNat, .bool z]
  first | refine r_geq rfl rfl ?_ | refine r_geqS rfl rfl ?_
  try simp only [List.cons_append, List.nil_append, List.flatten_cons, List.flatten_nil, List.append_nil]
  first | refine r_iteP rfl (fun h1 => ?_) (fun h1 => ?_) | refine r_iteNP rfl (fun h1 => ?_) (fun h1 => ?_) | refine r_iteN rfl (fun h1 => ?_) (fun h1 => ?_) | refine r_ite rfl (fun h1 => ?_) (fun h1 => ?_)
  · refine r_leq rfl rfl ?_
    try simp only [List.cons_append, List.nil_append, List.flatten_cons, List.flatten_nil, List.append_nil]
    first | refine r_iteP rfl (fun h3 => ?_) (fun h3 => ?_) | refine r_iteNP rfl (fun h3 => ?_) (fun h3 => ?_) | refine r_iteN rfl (fun h3 => ?_) (fun h3 => ?_) | refine r_ite rfl (fun h3 => ?_) (fun h3 => ?_)
    · refine r_ret rfl ?_
      exact ⟨_, rfl, iffT (Or.inl (by omega))⟩
    · refine r_not rfl ?_
      try simp only [List.cons_append, List.nil_append, List.flatten_cons, List.flatten_nil, List.append_nil]
      first | refine r_iteP rfl (fun h6 => ?_) (fun h6 => ?_) | refine r_iteNP rfl (fun h6 => ?_) (fun h6 => ?_) | refine r_iteN rfl (fun h6 => ?_) (fun h6 => ?_) | refine r_ite rfl (fun h6 => ?_) (fun h6 => ?_)
      · first | refine r_geq rfl rfl ?_ | refine r_geqS rfl rfl ?_
        try simp only [List.cons_append, List.nil_append, List.flatten_cons, List.flatten_nil, List.append_nil]
        first | refine r_iteP rfl (fun h8 => ?_) (fun h8 => ?_) | refine r_iteNP rfl (fun h8 => ?_) (fun h8 => ?_) | refine r_iteN rfl (fun h8 => ?_) (fun h8 => ?_) | refine r_ite rfl (fun h8 => ?_) (fun h8 => ?_)
        · refine r_leq rfl rfl ?_
          try simp only [List.cons_append, List.nil_append, List.flatten_cons, List.flatten_nil, List.append_nil]
          refine r_ret rfl ?_
          exact ⟨_, rfl, iffD ⟨fun h => Or.inr ⟨h6, by omega, by omega⟩, fun h => by rcases h with h | ⟨_, h⟩ <;> omega⟩⟩
        · refine r_ret rfl ?_
          exact ⟨_, rfl, iffF (by simp only [nmB]; omega)⟩
      · refine r_ret rfl ?_
        exact ⟨_, rfl, iffF (by rintro (⟨_, _⟩ | ⟨h, _⟩) <;> first | omega | (rw [h6] at h; cases h))⟩
  · refine r_not rfl ?_
    try simp only [List.cons_append, List.nil_append, List.flatten_cons, List.flatten_nil, List.append_nil]
    first | refine r_iteP rfl (fun h14 => ?_) (fun h14 => ?_) | refine r_iteNP rfl (fun h14 => ?_) (fun h14 => ?_) | refine r_iteN rfl (fun h14 => ?_) (fun h14 => ?_) | refine r_ite rfl (fun h14 => ?_) (fun h14 => ?_)
    · first | refine r_geq rfl rfl ?_ | refine r_geqS rfl rfl ?_
      try simp only [List.cons_append, List.nil_append, List.flatten_cons, List.flatten_nil, List.append_nil]
      first | refine r_iteP rfl (fun h16 => ?_) (fun h16 => ?_) | refine r_iteNP rfl (fun h16 => ?_) (fun h16 => ?_) | refine r_iteN rfl (fun h16 => ?_) (fun h16 => ?_) | refine r_ite rfl (fun h16 => ?_) (fun h16 => ?_)
      · refine r_leq rfl rfl ?_
        try simp only [List.cons_append, List.nil_append, List.flatten_cons, List.flatten_nil, List.append_nil]
        refine r_ret rfl ?_
        exact ⟨_, rfl, iffD ⟨fun h => Or.inr ⟨h14, by omega, by omega⟩, fun h => by rcases h with h | ⟨_, h⟩ <;> omega⟩⟩
      · refine r_ret rfl ?_
        exact ⟨_, rfl, iffF (by simp only [nmB]; omega)⟩
    · refine r_ret rfl ?_
      exact ⟨_, rfl, iffF (by rintro (⟨_, _⟩ | ⟨h, _⟩) <;> first | omega | (rw [h14] at h; cases h))⟩

/-- impl.IsName -/
theorem w64 {s : ByteArray} (hs : s.size ≤ maxLen) : ∃ rs, Big tab (.fn 64 [[.str s]] rs) ∧ ∃ b, rs = [[.bool b]] ∧ (b = true ↔ IsNm s) := by
  have hm : maxLen = 9223372036854775807 := rfl
  refine tr_sound rfl c64 rfl ?_
  show wp _ _ _ _ [.str s]
  refine r_lenS rfl ?_
  try simp only [List.cons_append, List.nil_append, List.flatten_cons, List.flatten_nil, List.append_nil]
  first | refine r_eql rfl rfl ?_ | refine r_eqlS rfl rfl ?_
  try simp only [List.cons_append, List.nil_append, List.flatten_cons, List.flatten_nil, List.append_nil]
  first | refine r_iteP rfl (fun h2 => ?_) (fun h2 => ?_) | refine r_iteNP rfl (fun h2 => ?_) (fun h2 => ?_) | refine r_iteN rfl (fun h2 => ?_) (fun h2 => ?_) | refine r_ite rfl (fun h2 => ?_) (fun h2 => ?_)
  · refine r_ret rfl ?_
    exact ⟨_, rfl, iffF (fun h => by have := h.1; omega)⟩
  · refine r_lenS rfl ?_
    try simp only [List.cons_append, List.nil_append, List.flatten_cons, List.flatten_nil, List.append_nil]
    refine r_gtr rfl rfl ?_
    try simp only [List.cons_append, List.nil_append, List.flatten_cons, List.flatten_nil, List.append_nil]
    first | refine r_iteP rfl (fun h6 => ?_) (fun h6 => ?_) | refine r_iteNP rfl (fun h6 => ?_) (fun h6 => ?_) | refine r_iteN rfl (fun h6 => ?_) (fun h6 => ?_) | refine r_ite rfl (fun h6 => ?_) (fun h6 => ?_)
    · refine r_ret rfl ?_
      exact ⟨_, rfl, iffF (fun h => by have := h.2.1; omega)⟩
    · refine r_lenS rfl ?_
      try simp only [List.cons_append, List.nil_append, List.flatten_cons, List.flatten_nil, List.append_nil]
      refine r_loop (fun m vs => ∃ i : Int, vs = [I i] ∧ 0 ≤ i ∧ i ≤ s.size ∧ (∀ (j : Nat) b, (j : Int) < i → s[j]? = some b → nmB b (j ≠ 0)) ∧ m = (s.size - i).toNat) _ ⟨_, rfl, by omega, by omega, fun j b hj => by omega, rfl⟩ ?_
      rintro m _ ⟨i, rfl, hi0, hi1, hj, rfl⟩
      try simp only [List.cons_append, List.nil_append, List.flatten_cons, List.flatten_nil, List.append_nil]
      first | refine r_lss rfl rfl ?_ | refine r_lssS rfl rfl ?_
      try simp only [List.cons_append, List.nil_append, List.flatten_cons, List.flatten_nil, List.append_nil]
      first | refine r_iteP rfl (fun h11 => ?_) (fun h11 => ?_) | refine r_iteNP rfl (fun h11 => ?_) (fun h11 => ?_) | refine r_iteN rfl (fun h11 => ?_) (fun h11 => ?_) | refine r_ite rfl (fun h11 => ?_) (fun h11 => ?_)
      · refine r_ix rfl rfl (by omega) (by omega) (fun b12 hb12 => ?_)
        try simp only [List.cons_append, List.nil_append, List.flatten_cons, List.flatten_nil, List.append_nil]
        first | refine r_eql rfl rfl ?_ | refine r_eqlS rfl rfl ?_
        try simp only [List.cons_append, List.nil_append, List.flatten_cons, List.flatten_nil, List.append_nil]
        refine r_callQ (w95) rfl ?_
        rintro _ ⟨r14, rfl, hr14⟩
        refine ⟨rfl, ?_⟩
        try simp only [List.cons_append, List.nil_append, List.flatten_cons, List.flatten_nil, List.append_nil]
        have hz : (decide (i = 0) = false) ↔ i.toNat ≠ 0 := by simp only [decide_eq_false_iff_not]; omega
        refine r_not rfl ?_
        try simp only [List.cons_append, List.nil_append, List.flatten_cons, List.flatten_nil, List.append_nil]
        first | refine r_iteP rfl (fun h16 => ?_) (fun h16 => ?_) | refine r_iteNP rfl (fun h16 => ?_) (fun h16 => ?_) | refine r_iteN rfl (fun h16 => ?_) (fun h16 => ?_) | refine r_ite rfl (fun h16 => ?_) (fun h16 => ?_)
        · refine r_ret rfl ?_
          exact ⟨_, rfl, iffF (nmNo hb12 (by rw [← hz, ← hr14, h16]; simp))⟩
        · first | refine r_add rfl rfl (by simp only [inR] at *; omega) ?_ | refine r_addS rfl rfl (by omega) ?_
          try simp only [List.cons_append, List.nil_append, List.flatten_cons, List.flatten_nil, List.append_nil]
          exact r_again ⟨_, by omega, _, rfl, by omega, by omega, nmStep hi0 hj hb12 (by rw [← hz]; exact hr14.1 h16), rfl⟩
      · refine r_ret rfl ?_
        exact ⟨_, rfl, iffT ⟨by omega, by omega, fun j b hb => hj j b (by have := nm_lt hb; omega) hb⟩⟩

end Go.Proofs.Ytkiliooegoldoaa
