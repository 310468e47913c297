/- Walks: Paths -/
import Derived.Test.YtdgmelniiclbnaaSteps
import Derived.Test.YtdgmelniiclbnaaGl
set_option linter.unusedVariables false
set_option linter.unusedSimpArgs false
namespace Go.Proofs.Ytdgmelniiclbnaa
open Go

theorem iffT {P : Prop} (h : P) : true = true ↔ P := ⟨fun _ => h, fun _ => rfl⟩
theorem iffF {P : Prop} (h : ¬ P) : false = true ↔ P := ⟨fun h' => absurd h' (by simp), fun h' => absurd h' h⟩
theorem iffD {P R : Prop} {i : Decidable P} (h : P ↔ R) : @decide P i = true ↔ R := by rw [decide_eq_true_eq]; exact h

/-! ### Names -/
def nmB (b : UInt8) (nz : Prop) : Prop := (97 ≤ b.toNat ∧ b.toNat ≤ 122) ∨ (nz ∧ 48 ≤ b.toNat ∧ b.toNat ≤ 57)
def IsNm (s : ByteArray) : Prop := 1 ≤ s.size ∧ s.size ≤ 4 ∧ ∀ (j : Nat) b, s[j]? = some b → nmB b (j ≠ 0)
theorem nmNo {s : ByteArray} {j : Nat} {b : UInt8} (hb : s[j]? = some b) (h : ¬ nmB b (j ≠ 0)) : ¬ IsNm s := fun hn => h (hn.2.2 j b hb)
theorem nmStep {s : ByteArray} {i : Int} {b0 : UInt8} (h0 : 0 ≤ i) (hj : ∀ (j : Nat) b, (j : Int) < i → s[j]? = some b → nmB b (j ≠ 0)) (hb : s[i.toNat]? = some b0) (h : nmB b0 (i.toNat ≠ 0)) :
    ∀ (j : Nat) b, (j : Int) < i + 1 → s[j]? = some b → nmB b (j ≠ 0) := by
  intro j b hlt hb'
  by_cases hji : (j : Int) < i
  · exact hj j b hji hb'
  · have : j = i.toNat := by omega
    subst this
    rw [hb] at hb'
    cases hb'
    exact h
theorem nm_lt {s : ByteArray} {j : Nat} {b : UInt8} (h : s[j]? = some b) : j < s.size := by
  by_cases hj : j < s.size
  · exact hj
  · rw [getElem?_neg s j hj] at h; cases h

/-- spec.l1In -/
theorem w63 {x lo hi : Int} : ∃ rs, Big tab (.fn 63 [[I x], [I lo], [I hi]] rs) ∧ ∃ b, rs = [[.bool b]] ∧ (b = true ↔ (lo ≤ x ∧ x ≤ hi)) := by
  refine tr_sound rfl c63 rfl ?_
  show wp _ _ _ _ [I x, I lo, I hi]
  refine r_geq rfl rfl ?_
  simp only [List.cons_append, List.nil_append, List.flatten_cons, List.flatten_nil, List.append_nil]
  try simp only [List.cons_append, List.nil_append, List.flatten_cons, List.flatten_nil, List.append_nil]
  first | refine r_iteP rfl (fun h1 => ?_) (fun h1 => ?_) | refine r_iteNP rfl (fun h1 => ?_) (fun h1 => ?_) | refine r_iteN rfl (fun h1 => ?_) (fun h1 => ?_) | refine r_ite rfl (fun h1 => ?_) (fun h1 => ?_)
  · refine r_leq rfl rfl ?_
    simp only [List.cons_append, List.nil_append, List.flatten_cons, List.flatten_nil, List.append_nil]
    try simp only [List.cons_append, List.nil_append, List.flatten_cons, List.flatten_nil, List.append_nil]
    refine r_ret rfl ?_
    exact ⟨_, rfl, iffD (by omega)⟩
  · refine r_ret rfl ?_
    exact ⟨_, rfl, iffF (by omega)⟩

/-- spec.IsName -/
theorem w62 {s : ByteArray} (hs : s.size ≤ maxLen) : ∃ rs, Big tab (.fn 62 [[.str s]] rs) ∧ ∃ b, rs = [[.bool b]] ∧ (b = true ↔ IsNm s) := by
  have hm : maxLen = 9223372036854775807 := rfl
  refine tr_sound rfl c62 rfl ?_
  show wp _ _ _ _ [.str s]
  refine r_loop (fun m vs => ∃ i : Int, vs = [I i] ∧ 0 ≤ i ∧ i ≤ s.size ∧ (∀ (j : Nat) b, (j : Int) < i → s[j]? = some b → nmB b (j ≠ 0)) ∧ m = (s.size - i).toNat) _ ⟨_, rfl, by omega, by omega, fun j b hj => by omega, rfl⟩ ?_
  rintro m _ ⟨i, rfl, hi0, hi1, hj, rfl⟩
  try simp only [List.cons_append, List.nil_append, List.flatten_cons, List.flatten_nil, List.append_nil]
  refine r_lenS rfl ?_
  simp only [List.cons_append, List.nil_append, List.flatten_cons, List.flatten_nil, List.append_nil]
  try simp only [List.cons_append, List.nil_append, List.flatten_cons, List.flatten_nil, List.append_nil]
  refine r_lss rfl rfl ?_
  simp only [List.cons_append, List.nil_append, List.flatten_cons, List.flatten_nil, List.append_nil]
  try simp only [List.cons_append, List.nil_append, List.flatten_cons, List.flatten_nil, List.append_nil]
  first | refine r_iteP rfl (fun h3 => ?_) (fun h3 => ?_) | refine r_iteNP rfl (fun h3 => ?_) (fun h3 => ?_) | refine r_iteN rfl (fun h3 => ?_) (fun h3 => ?_) | refine r_ite rfl (fun h3 => ?_) (fun h3 => ?_)
  · refine r_ix rfl rfl (by omega) (by omega) (fun b4 hb4 => ?_)
    simp only [List.cons_append, List.nil_append, List.flatten_cons, List.flatten_nil, List.append_nil]
    try simp only [List.cons_append, List.nil_append, List.flatten_cons, List.flatten_nil, List.append_nil]
    refine r_geq rfl rfl ?_
    simp only [List.cons_append, List.nil_append, List.flatten_cons, List.flatten_nil, List.append_nil]
    try simp only [List.cons_append, List.nil_append, List.flatten_cons, List.flatten_nil, List.append_nil]
    first | refine r_iteP rfl (fun h6 => ?_) (fun h6 => ?_) | refine r_iteNP rfl (fun h6 => ?_) (fun h6 => ?_) | refine r_iteN rfl (fun h6 => ?_) (fun h6 => ?_) | refine r_ite rfl (fun h6 => ?_) (fun h6 => ?_)
    · refine r_ix rfl rfl (by omega) (by omega) (fun b7 hb7 => ?_)
      simp only [List.cons_append, List.nil_append, List.flatten_cons, List.flatten_nil, List.append_nil]
      try simp only [List.cons_append, List.nil_append, List.flatten_cons, List.flatten_nil, List.append_nil]
      obtain rfl : b4 = b7 := Option.some.inj (hb4.symm.trans hb7)
      refine r_leq rfl rfl ?_
      simp only [List.cons_append, List.nil_append, List.flatten_cons, List.flatten_nil, List.append_nil]
      try simp only [List.cons_append, List.nil_append, List.flatten_cons, List.flatten_nil, List.append_nil]
      refine r_not rfl ?_
      simp only [List.cons_append, List.nil_append, List.flatten_cons, List.flatten_nil, List.append_nil]
      try simp only [List.cons_append, List.nil_append, List.flatten_cons, List.flatten_nil, List.append_nil]
      first | refine r_iteP rfl (fun h10 => ?_) (fun h10 => ?_) | refine r_iteNP rfl (fun h10 => ?_) (fun h10 => ?_) | refine r_iteN rfl (fun h10 => ?_) (fun h10 => ?_) | refine r_ite rfl (fun h10 => ?_) (fun h10 => ?_)
      · first | refine r_eql rfl rfl ?_ | refine r_eqlS rfl rfl ?_
        try simp only [List.cons_append, List.nil_append, List.flatten_cons, List.flatten_nil, List.append_nil]
        first | refine r_iteP rfl (fun h12 => ?_) (fun h12 => ?_) | refine r_iteNP rfl (fun h12 => ?_) (fun h12 => ?_) | refine r_iteN rfl (fun h12 => ?_) (fun h12 => ?_) | refine r_ite rfl (fun h12 => ?_) (fun h12 => ?_)
        · refine r_ret rfl ?_
          exact ⟨_, rfl, iffF (nmNo hb4 (by simp only [nmB]; omega))⟩
        · refine r_ix rfl rfl (by omega) (by omega) (fun b14 hb14 => ?_)
          simp only [List.cons_append, List.nil_append, List.flatten_cons, List.flatten_nil, List.append_nil]
          try simp only [List.cons_append, List.nil_append, List.flatten_cons, List.flatten_nil, List.append_nil]
          obtain rfl : b4 = b14 := Option.some.inj (hb4.symm.trans hb14)
          refine r_lss rfl rfl ?_
          simp only [List.cons_append, List.nil_append, List.flatten_cons, List.flatten_nil, List.append_nil]
          try simp only [List.cons_append, List.nil_append, List.flatten_cons, List.flatten_nil, List.append_nil]
          first | refine r_iteP rfl (fun h16 => ?_) (fun h16 => ?_) | refine r_iteNP rfl (fun h16 => ?_) (fun h16 => ?_) | refine r_iteN rfl (fun h16 => ?_) (fun h16 => ?_) | refine r_ite rfl (fun h16 => ?_) (fun h16 => ?_)
          · refine r_ret rfl ?_
            exact ⟨_, rfl, iffF (nmNo hb4 (by simp only [nmB]; omega))⟩
          · refine r_ix rfl rfl (by omega) (by omega) (fun b18 hb18 => ?_)
            simp only [List.cons_append, List.nil_append, List.flatten_cons, List.flatten_nil, List.append_nil]
            try simp only [List.cons_append, List.nil_append, List.flatten_cons, List.flatten_nil, List.append_nil]
            obtain rfl : b4 = b18 := Option.some.inj (hb4.symm.trans hb18)
            refine r_gtr rfl rfl ?_
            simp only [List.cons_append, List.nil_append, List.flatten_cons, List.flatten_nil, List.append_nil]
            try simp only [List.cons_append, List.nil_append, List.flatten_cons, List.flatten_nil, List.append_nil]
            first | refine r_iteP rfl (fun h20 => ?_) (fun h20 => ?_) | refine r_iteNP rfl (fun h20 => ?_) (fun h20 => ?_) | refine r_iteN rfl (fun h20 => ?_) (fun h20 => ?_) | refine r_ite rfl (fun h20 => ?_) (fun h20 => ?_)
            · refine r_ret rfl ?_
              exact ⟨_, rfl, iffF (nmNo hb4 (by simp only [nmB]; omega))⟩
            · first | refine r_add rfl rfl (by simp only [inR] at *; omega) ?_ | refine r_addS rfl rfl (by omega) ?_
              try simp only [List.cons_append, List.nil_append, List.flatten_cons, List.flatten_nil, List.append_nil]
              exact r_again ⟨_, by omega, _, rfl, by omega, by omega, nmStep hi0 hj hb4 (by simp only [nmB]; omega), rfl⟩
      · first | refine r_add rfl rfl (by simp only [inR] at *; omega) ?_ | refine r_addS rfl rfl (by omega) ?_
        try simp only [List.cons_append, List.nil_append, List.flatten_cons, List.flatten_nil, List.append_nil]
        exact r_again ⟨_, by omega, _, rfl, by omega, by omega, nmStep hi0 hj hb4 (by simp only [nmB]; omega), rfl⟩
    · first | refine r_eql rfl rfl ?_ | refine r_eqlS rfl rfl ?_
      try simp only [List.cons_append, List.nil_append, List.flatten_cons, List.flatten_nil, List.append_nil]
      first | refine r_iteP rfl (fun h27 => ?_) (fun h27 => ?_) | refine r_iteNP rfl (fun h27 => ?_) (fun h27 => ?_) | refine r_iteN rfl (fun h27 => ?_) (fun h27 => ?_) | refine r_ite rfl (fun h27 => ?_) (fun h27 => ?_)
      · refine r_ret rfl ?_
        exact ⟨_, rfl, iffF (nmNo hb4 (by simp only [nmB]; omega))⟩
      · refine r_ix rfl rfl (by omega) (by omega) (fun b29 hb29 => ?_)
        simp only [List.cons_append, List.nil_append, List.flatten_cons, List.flatten_nil, List.append_nil]
        try simp only [List.cons_append, List.nil_append, List.flatten_cons, List.flatten_nil, List.append_nil]
        obtain rfl : b4 = b29 := Option.some.inj (hb4.symm.trans hb29)
        refine r_lss rfl rfl ?_
        simp only [List.cons_append, List.nil_append, List.flatten_cons, List.flatten_nil, List.append_nil]
        try simp only [List.cons_append, List.nil_append, List.flatten_cons, List.flatten_nil, List.append_nil]
        first | refine r_iteP rfl (fun h31 => ?_) (fun h31 => ?_) | refine r_iteNP rfl (fun h31 => ?_) (fun h31 => ?_) | refine r_iteN rfl (fun h31 => ?_) (fun h31 => ?_) | refine r_ite rfl (fun h31 => ?_) (fun h31 => ?_)
        · refine r_ret rfl ?_
          exact ⟨_, rfl, iffF (nmNo hb4 (by simp only [nmB]; omega))⟩
        · refine r_ix rfl rfl (by omega) (by omega) (fun b33 hb33 => ?_)
          simp only [List.cons_append, List.nil_append, List.flatten_cons, List.flatten_nil, List.append_nil]
          try simp only [List.cons_append, List.nil_append, List.flatten_cons, List.flatten_nil, List.append_nil]
          obtain rfl : b4 = b33 := Option.some.inj (hb4.symm.trans hb33)
          refine r_gtr rfl rfl ?_
          simp only [List.cons_append, List.nil_append, List.flatten_cons, List.flatten_nil, List.append_nil]
          try simp only [List.cons_append, List.nil_append, List.flatten_cons, List.flatten_nil, List.append_nil]
          first | refine r_iteP rfl (fun h35 => ?_) (fun h35 => ?_) | refine r_iteNP rfl (fun h35 => ?_) (fun h35 => ?_) | refine r_iteN rfl (fun h35 => ?_) (fun h35 => ?_) | refine r_ite rfl (fun h35 => ?_) (fun h35 => ?_)
          · refine r_ret rfl ?_
            exact ⟨_, rfl, iffF (nmNo hb4 (by simp only [nmB]; omega))⟩
          · first | refine r_add rfl rfl (by simp only [inR] at *; omega) ?_ | refine r_addS rfl rfl (by omega) ?_
            try simp only [List.cons_append, List.nil_append, List.flatten_cons, List.flatten_nil, List.append_nil]
            exact r_again ⟨_, by omega, _, rfl, by omega, by omega, nmStep hi0 hj hb4 (by simp only [nmB]; omega), rfl⟩
  · refine r_lenS rfl ?_
    simp only [List.cons_append, List.nil_append, List.flatten_cons, List.flatten_nil, List.append_nil]
    try simp only [List.cons_append, List.nil_append, List.flatten_cons, List.flatten_nil, List.append_nil]
    refine r_callQ (w63) rfl ?_
    rintro _ ⟨r40, rfl, hr40⟩
    refine ⟨rfl, ?_⟩
    try simp only [List.cons_append, List.nil_append, List.flatten_cons, List.flatten_nil, List.append_nil]
    refine r_ret rfl ?_
    exact ⟨_, rfl, hr40.trans ⟨fun h => ⟨by omega, by omega, fun j b hb => hj j b (by have := nm_lt hb; omega) hb⟩, fun h => ⟨by have := h.1; omega, by have := h.2.1; omega⟩⟩⟩

/-- impl.nameByte -/
theorem w95 {b : UInt8} {z : Bool} : ∃ rs, Big tab (.fn 95 [[.int .u8 b.toNat], [.bool z]] rs) ∧ ∃ r, rs = [[.bool r]] ∧ (r = true ↔ nmB b (z = false)) := by
  refine tr_sound rfl c95 rfl ?_
  show wp _ _ _ _ [.int .u8 b.toNat, .bool z]
  refine r_geq rfl rfl ?_
  simp only [List.cons_append, List.nil_append, List.flatten_cons, List.flatten_nil, List.append_nil]
  try simp only [List.cons_append, List.nil_append, List.flatten_cons, List.flatten_nil, List.append_nil]
  first | refine r_iteP rfl (fun h1 => ?_) (fun h1 => ?_) | refine r_iteNP rfl (fun h1 => ?_) (fun h1 => ?_) | refine r_iteN rfl (fun h1 => ?_) (fun h1 => ?_) | refine r_ite rfl (fun h1 => ?_) (fun h1 => ?_)
  · refine r_leq rfl rfl ?_
    simp only [List.cons_append, List.nil_append, List.flatten_cons, List.flatten_nil, List.append_nil]
    try simp only [List.cons_append, List.nil_append, List.flatten_cons, List.flatten_nil, List.append_nil]
    first | refine r_iteP rfl (fun h3 => ?_) (fun h3 => ?_) | refine r_iteNP rfl (fun h3 => ?_) (fun h3 => ?_) | refine r_iteN rfl (fun h3 => ?_) (fun h3 => ?_) | refine r_ite rfl (fun h3 => ?_) (fun h3 => ?_)
    · refine r_ret rfl ?_
      exact ⟨_, rfl, iffT (Or.inl (by omega))⟩
    · refine r_not rfl ?_
      simp only [List.cons_append, List.nil_append, List.flatten_cons, List.flatten_nil, List.append_nil]
      try simp only [List.cons_append, List.nil_append, List.flatten_cons, List.flatten_nil, List.append_nil]
      first | refine r_iteP rfl (fun h6 => ?_) (fun h6 => ?_) | refine r_iteNP rfl (fun h6 => ?_) (fun h6 => ?_) | refine r_iteN rfl (fun h6 => ?_) (fun h6 => ?_) | refine r_ite rfl (fun h6 => ?_) (fun h6 => ?_)
      · refine r_geq rfl rfl ?_
        simp only [List.cons_append, List.nil_append, List.flatten_cons, List.flatten_nil, List.append_nil]
        try simp only [List.cons_append, List.nil_append, List.flatten_cons, List.flatten_nil, List.append_nil]
        first | refine r_iteP rfl (fun h8 => ?_) (fun h8 => ?_) | refine r_iteNP rfl (fun h8 => ?_) (fun h8 => ?_) | refine r_iteN rfl (fun h8 => ?_) (fun h8 => ?_) | refine r_ite rfl (fun h8 => ?_) (fun h8 => ?_)
        · refine r_leq rfl rfl ?_
          simp only [List.cons_append, List.nil_append, List.flatten_cons, List.flatten_nil, List.append_nil]
          try simp only [List.cons_append, List.nil_append, List.flatten_cons, List.flatten_nil, List.append_nil]
          refine r_ret rfl ?_
          exact ⟨_, rfl, iffD ⟨fun h => Or.inr ⟨h6, by omega, by omega⟩, fun h => by rcases h with h | ⟨_, h⟩ <;> omega⟩⟩
        · refine r_ret rfl ?_
          exact ⟨_, rfl, iffF (by simp only [nmB]; omega)⟩
      · refine r_ret rfl ?_
        exact ⟨_, rfl, iffF (by rintro (⟨_, _⟩ | ⟨h, _⟩) <;> first | omega | (rw [h6] at h; cases h))⟩
  · refine r_not rfl ?_
    simp only [List.cons_append, List.nil_append, List.flatten_cons, List.flatten_nil, List.append_nil]
    try simp only [List.cons_append, List.nil_append, List.flatten_cons, List.flatten_nil, List.append_nil]
    first | refine r_iteP rfl (fun h14 => ?_) (fun h14 => ?_) | refine r_iteNP rfl (fun h14 => ?_) (fun h14 => ?_) | refine r_iteN rfl (fun h14 => ?_) (fun h14 => ?_) | refine r_ite rfl (fun h14 => ?_) (fun h14 => ?_)
    · refine r_geq rfl rfl ?_
      simp only [List.cons_append, List.nil_append, List.flatten_cons, List.flatten_nil, List.append_nil]
      try simp only [List.cons_append, List.nil_append, List.flatten_cons, List.flatten_nil, List.append_nil]
      first | refine r_iteP rfl (fun h16 => ?_) (fun h16 => ?_) | refine r_iteNP rfl (fun h16 => ?_) (fun h16 => ?_) | refine r_iteN rfl (fun h16 => ?_) (fun h16 => ?_) | refine r_ite rfl (fun h16 => ?_) (fun h16 => ?_)
      · refine r_leq rfl rfl ?_
        simp only [List.cons_append, List.nil_append, List.flatten_cons, List.flatten_nil, List.append_nil]
        try simp only [List.cons_append, List.nil_append, List.flatten_cons, List.flatten_nil, List.append_nil]
        refine r_ret rfl ?_
        exact ⟨_, rfl, iffD ⟨fun h => Or.inr ⟨h14, by omega, by omega⟩, fun h => by rcases h with h | ⟨_, h⟩ <;> omega⟩⟩
      · refine r_ret rfl ?_
        exact ⟨_, rfl, iffF (by simp only [nmB]; omega)⟩
    · refine r_ret rfl ?_
      exact ⟨_, rfl, iffF (by rintro (⟨_, _⟩ | ⟨h, _⟩) <;> first | omega | (rw [h14] at h; cases h))⟩

/-- impl.IsName -/
theorem w64 {s : ByteArray} (hs : s.size ≤ maxLen) : ∃ rs, Big tab (.fn 64 [[.str s]] rs) ∧ ∃ b, rs = [[.bool b]] ∧ (b = true ↔ IsNm s) := by
  have hm : maxLen = 9223372036854775807 := rfl
  refine tr_sound rfl c64 rfl ?_
  show wp _ _ _ _ [.str s]
  refine r_lenS rfl ?_
  simp only [List.cons_append, List.nil_append, List.flatten_cons, List.flatten_nil, List.append_nil]
  try simp only [List.cons_append, List.nil_append, List.flatten_cons, List.flatten_nil, List.append_nil]
  first | refine r_eql rfl rfl ?_ | refine r_eqlS rfl rfl ?_
  try simp only [List.cons_append, List.nil_append, List.flatten_cons, List.flatten_nil, List.append_nil]
  first | refine r_iteP rfl (fun h2 => ?_) (fun h2 => ?_) | refine r_iteNP rfl (fun h2 => ?_) (fun h2 => ?_) | refine r_iteN rfl (fun h2 => ?_) (fun h2 => ?_) | refine r_ite rfl (fun h2 => ?_) (fun h2 => ?_)
  · refine r_ret rfl ?_
    exact ⟨_, rfl, iffF (fun h => by have := h.1; omega)⟩
  · refine r_lenS rfl ?_
    simp only [List.cons_append, List.nil_append, List.flatten_cons, List.flatten_nil, List.append_nil]
    try simp only [List.cons_append, List.nil_append, List.flatten_cons, List.flatten_nil, List.append_nil]
    refine r_gtr rfl rfl ?_
    simp only [List.cons_append, List.nil_append, List.flatten_cons, List.flatten_nil, List.append_nil]
    try simp only [List.cons_append, List.nil_append, List.flatten_cons, List.flatten_nil, List.append_nil]
    first | refine r_iteP rfl (fun h6 => ?_) (fun h6 => ?_) | refine r_iteNP rfl (fun h6 => ?_) (fun h6 => ?_) | refine r_iteN rfl (fun h6 => ?_) (fun h6 => ?_) | refine r_ite rfl (fun h6 => ?_) (fun h6 => ?_)
    · refine r_ret rfl ?_
      exact ⟨_, rfl, iffF (fun h => by have := h.2.1; omega)⟩
    · refine r_lenS rfl ?_
      simp only [List.cons_append, List.nil_append, List.flatten_cons, List.flatten_nil, List.append_nil]
      try simp only [List.cons_append, List.nil_append, List.flatten_cons, List.flatten_nil, List.append_nil]
      refine r_loop (fun m vs => ∃ i : Int, vs = [I i] ∧ 0 ≤ i ∧ i ≤ s.size ∧ (∀ (j : Nat) b, (j : Int) < i → s[j]? = some b → nmB b (j ≠ 0)) ∧ m = (s.size - i).toNat) _ ⟨_, rfl, by omega, by omega, fun j b hj => by omega, rfl⟩ ?_
      rintro m _ ⟨i, rfl, hi0, hi1, hj, rfl⟩
      try simp only [List.cons_append, List.nil_append, List.flatten_cons, List.flatten_nil, List.append_nil]
      refine r_lss rfl rfl ?_
      simp only [List.cons_append, List.nil_append, List.flatten_cons, List.flatten_nil, List.append_nil]
      try simp only [List.cons_append, List.nil_append, List.flatten_cons, List.flatten_nil, List.append_nil]
      first | refine r_iteP rfl (fun h11 => ?_) (fun h11 => ?_) | refine r_iteNP rfl (fun h11 => ?_) (fun h11 => ?_) | refine r_iteN rfl (fun h11 => ?_) (fun h11 => ?_) | refine r_ite rfl (fun h11 => ?_) (fun h11 => ?_)
      · refine r_ix rfl rfl (by omega) (by omega) (fun b12 hb12 => ?_)
        simp only [List.cons_append, List.nil_append, List.flatten_cons, List.flatten_nil, List.append_nil]
        try simp only [List.cons_append, List.nil_append, List.flatten_cons, List.flatten_nil, List.append_nil]
        first | refine r_eql rfl rfl ?_ | refine r_eqlS rfl rfl ?_
        try simp only [List.cons_append, List.nil_append, List.flatten_cons, List.flatten_nil, List.append_nil]
        refine r_callQ (w95) rfl ?_
        rintro _ ⟨r14, rfl, hr14⟩
        refine ⟨rfl, ?_⟩
        try simp only [List.cons_append, List.nil_append, List.flatten_cons, List.flatten_nil, List.append_nil]
        have hz : (decide (i = 0) = false) ↔ i.toNat ≠ 0 := by simp only [decide_eq_false_iff_not]; omega
        refine r_not rfl ?_
        simp only [List.cons_append, List.nil_append, List.flatten_cons, List.flatten_nil, List.append_nil]
        try simp only [List.cons_append, List.nil_append, List.flatten_cons, List.flatten_nil, List.append_nil]
        first | refine r_iteP rfl (fun h16 => ?_) (fun h16 => ?_) | refine r_iteNP rfl (fun h16 => ?_) (fun h16 => ?_) | refine r_iteN rfl (fun h16 => ?_) (fun h16 => ?_) | refine r_ite rfl (fun h16 => ?_) (fun h16 => ?_)
        · refine r_ret rfl ?_
          exact ⟨_, rfl, iffF (nmNo hb12 (by rw [← hz, ← hr14, h16]; simp))⟩
        · first | refine r_add rfl rfl (by simp only [inR] at *; omega) ?_ | refine r_addS rfl rfl (by omega) ?_
          try simp only [List.cons_append, List.nil_append, List.flatten_cons, List.flatten_nil, List.append_nil]
          exact r_again ⟨_, by omega, _, rfl, by omega, by omega, nmStep hi0 hj hb12 (by rw [← hz]; exact hr14.1 h16), rfl⟩
      · refine r_ret rfl ?_
        exact ⟨_, rfl, iffT ⟨by omega, by omega, fun j b hb => hj j b (by have := nm_lt hb; omega) hb⟩⟩

/-! ### Paths -/
def stpOk (x : Stp) : Prop := ((x.k = 1 ∨ x.k = 2) ∧ IsNm x.s ∧ x.n = 0) ∨ (x.k = 3 ∧ x.s = ⟨#[]⟩ ∧ 0 ≤ x.n ∧ x.n ≤ 1000)
def IsPth (l : List Stp) : Prop := l.length ≤ 12 ∧ ∀ x ∈ l, stpOk x
theorem pthNo {l : List Stp} {j : Nat} {x : Stp} (hx : l[j]? = some x) (h : ¬ stpOk x) : ¬ IsPth l := fun hn => h (hn.2 x (List.mem_of_getElem? hx))
theorem pthStep {l : List Stp} {i : Int} {x0 : Stp} (h0 : 0 ≤ i) (hj : ∀ (j : Nat) x, (j : Int) < i → l[j]? = some x → stpOk x) (hx : l[i.toNat]? = some x0) (h : stpOk x0) :
    ∀ (j : Nat) x, (j : Int) < i + 1 → l[j]? = some x → stpOk x := by
  intro j x hlt hx'
  by_cases hji : (j : Int) < i
  · exact hj j x hji hx'
  · have : j = i.toNat := by omega
    subst this
    rw [hx] at hx'
    cases hx'
    exact h
theorem pthAll {l : List Stp} {i : Int} (hi : ¬ i < l.length) (hj : ∀ (j : Nat) x, (j : Int) < i → l[j]? = some x → stpOk x) : ∀ x ∈ l, stpOk x := by
  intro x hx
  obtain ⟨j, hjl, he⟩ := List.getElem_of_mem hx
  exact hj j x (by omega) (by rw [List.getElem?_eq_getElem hjl, he])

/-- spec.IsPath -/
theorem w16 {l : List Stp} (hl : stpsOk l) : ∃ rs, Big tab (.fn 16 [[stps l]] rs) ∧ ∃ b, rs = [[.bool b]] ∧ (b = true ↔ IsPth l) := by
  have hm : maxLen = 9223372036854775807 := rfl
  obtain ⟨hl1, hl2⟩ := hl
  have hlen : (l.map Stp.row).length = l.length := List.length_map ..
  refine tr_sound rfl c16 rfl ?_
  show wp _ _ _ _ [stps l]
  refine r_loop (fun m vs => ∃ i : Int, vs = [I i] ∧ 0 ≤ i ∧ i ≤ l.length ∧ (∀ (j : Nat) x, (j : Int) < i → l[j]? = some x → stpOk x) ∧ m = (l.length - i).toNat) _ ⟨_, rfl, by omega, by omega, fun j b hj => by omega, rfl⟩ ?_
  rintro m _ ⟨i, rfl, hi0, hi1, hj, rfl⟩
  try simp only [List.cons_append, List.nil_append, List.flatten_cons, List.flatten_nil, List.append_nil]
  refine r_len rfl ?_
  simp only [List.cons_append, List.nil_append, List.flatten_cons, List.flatten_nil, List.append_nil]
  try simp only [List.cons_append, List.nil_append, List.flatten_cons, List.flatten_nil, List.append_nil]
  refine r_lss rfl rfl ?_
  simp only [List.cons_append, List.nil_append, List.flatten_cons, List.flatten_nil, List.append_nil]
  try simp only [List.cons_append, List.nil_append, List.flatten_cons, List.flatten_nil, List.append_nil]
  first | refine r_iteP rfl (fun h3 => ?_) (fun h3 => ?_) | refine r_iteNP rfl (fun h3 => ?_) (fun h3 => ?_) | refine r_iteN rfl (fun h3 => ?_) (fun h3 => ?_) | refine r_ite rfl (fun h3 => ?_) (fun h3 => ?_)
  · refine r_inbT rfl rfl (by omega) (by omega) (fun e4 he4 hr4 => ?_)
    simp only [List.cons_append, List.nil_append, List.flatten_cons, List.flatten_nil, List.append_nil]
    try simp only [List.cons_append, List.nil_append, List.flatten_cons, List.flatten_nil, List.append_nil]
    have hs4 := (hl2 e4 (List.mem_of_getElem? he4)).2.1
    refine r_get1 rfl rfl hr4 rfl rfl ?_
    simp only [List.cons_append, List.nil_append, List.flatten_cons, List.flatten_nil, List.append_nil]
    try simp only [List.cons_append, List.nil_append, List.flatten_cons, List.flatten_nil, List.append_nil]
    refine r_get1 rfl rfl hr4 rfl rfl ?_
    simp only [List.cons_append, List.nil_append, List.flatten_cons, List.flatten_nil, List.append_nil]
    try simp only [List.cons_append, List.nil_append, List.flatten_cons, List.flatten_nil, List.append_nil]
    refine r_get1 rfl rfl hr4 rfl rfl ?_
    simp only [List.cons_append, List.nil_append, List.flatten_cons, List.flatten_nil, List.append_nil]
    try simp only [List.cons_append, List.nil_append, List.flatten_cons, List.flatten_nil, List.append_nil]
    first | refine r_eql rfl rfl ?_ | refine r_eqlS rfl rfl ?_
    try simp only [List.cons_append, List.nil_append, List.flatten_cons, List.flatten_nil, List.append_nil]
    first | refine r_iteP rfl (fun h9 => ?_) (fun h9 => ?_) | refine r_iteNP rfl (fun h9 => ?_) (fun h9 => ?_) | refine r_iteN rfl (fun h9 => ?_) (fun h9 => ?_) | refine r_ite rfl (fun h9 => ?_) (fun h9 => ?_)
    · refine r_callQ (w62 (by first | assumption | omega | (simp only [inR] at *; omega))) rfl ?_
      rintro _ ⟨r10, rfl, hr10⟩
      refine ⟨rfl, ?_⟩
      try simp only [List.cons_append, List.nil_append, List.flatten_cons, List.flatten_nil, List.append_nil]
      refine r_not rfl ?_
      simp only [List.cons_append, List.nil_append, List.flatten_cons, List.flatten_nil, List.append_nil]
      try simp only [List.cons_append, List.nil_append, List.flatten_cons, List.flatten_nil, List.append_nil]
      first | refine r_iteP rfl (fun h12 => ?_) (fun h12 => ?_) | refine r_iteNP rfl (fun h12 => ?_) (fun h12 => ?_) | refine r_iteN rfl (fun h12 => ?_) (fun h12 => ?_) | refine r_ite rfl (fun h12 => ?_) (fun h12 => ?_)
      · refine r_ret rfl ?_
        exact ⟨_, rfl, iffF (pthNo he4 (by rintro (⟨_, h, _⟩ | ⟨h, _⟩) <;> first | omega | (rw [hr10.2 h] at h12; cases h12)))⟩
      · first | refine r_neq rfl rfl ?_ | refine r_neqS rfl rfl ?_
        try simp only [List.cons_append, List.nil_append, List.flatten_cons, List.flatten_nil, List.append_nil]
        first | refine r_iteP rfl (fun h15 => ?_) (fun h15 => ?_) | refine r_iteNP rfl (fun h15 => ?_) (fun h15 => ?_) | refine r_iteN rfl (fun h15 => ?_) (fun h15 => ?_) | refine r_ite rfl (fun h15 => ?_) (fun h15 => ?_)
        · refine r_ret rfl ?_
          exact ⟨_, rfl, iffF (pthNo he4 (by rintro (⟨_, _, h⟩ | ⟨h, _⟩) <;> omega))⟩
        · first | refine r_add rfl rfl (by simp only [inR] at *; omega) ?_ | refine r_addS rfl rfl (by omega) ?_
          try simp only [List.cons_append, List.nil_append, List.flatten_cons, List.flatten_nil, List.append_nil]
          exact r_again ⟨_, by omega, _, rfl, by omega, by omega, pthStep hi0 hj he4 (Or.inl ⟨by omega, hr10.1 h12, by omega⟩), rfl⟩
    · first | refine r_eql rfl rfl ?_ | refine r_eqlS rfl rfl ?_
      try simp only [List.cons_append, List.nil_append, List.flatten_cons, List.flatten_nil, List.append_nil]
      first | refine r_iteP rfl (fun h20 => ?_) (fun h20 => ?_) | refine r_iteNP rfl (fun h20 => ?_) (fun h20 => ?_) | refine r_iteN rfl (fun h20 => ?_) (fun h20 => ?_) | refine r_ite rfl (fun h20 => ?_) (fun h20 => ?_)
      · refine r_callQ (w62 (by first | assumption | omega | (simp only [inR] at *; omega))) rfl ?_
        rintro _ ⟨r21, rfl, hr21⟩
        refine ⟨rfl, ?_⟩
        try simp only [List.cons_append, List.nil_append, List.flatten_cons, List.flatten_nil, List.append_nil]
        refine r_not rfl ?_
        simp only [List.cons_append, List.nil_append, List.flatten_cons, List.flatten_nil, List.append_nil]
        try simp only [List.cons_append, List.nil_append, List.flatten_cons, List.flatten_nil, List.append_nil]
        first | refine r_iteP rfl (fun h23 => ?_) (fun h23 => ?_) | refine r_iteNP rfl (fun h23 => ?_) (fun h23 => ?_) | refine r_iteN rfl (fun h23 => ?_) (fun h23 => ?_) | refine r_ite rfl (fun h23 => ?_) (fun h23 => ?_)
        · refine r_ret rfl ?_
          exact ⟨_, rfl, iffF (pthNo he4 (by rintro (⟨_, h, _⟩ | ⟨h, _⟩) <;> first | omega | (rw [hr21.2 h] at h23; cases h23)))⟩
        · first | refine r_neq rfl rfl ?_ | refine r_neqS rfl rfl ?_
          try simp only [List.cons_append, List.nil_append, List.flatten_cons, List.flatten_nil, List.append_nil]
          first | refine r_iteP rfl (fun h26 => ?_) (fun h26 => ?_) | refine r_iteNP rfl (fun h26 => ?_) (fun h26 => ?_) | refine r_iteN rfl (fun h26 => ?_) (fun h26 => ?_) | refine r_ite rfl (fun h26 => ?_) (fun h26 => ?_)
          · refine r_ret rfl ?_
            exact ⟨_, rfl, iffF (pthNo he4 (by rintro (⟨_, _, h⟩ | ⟨h, _⟩) <;> omega))⟩
          · first | refine r_add rfl rfl (by simp only [inR] at *; omega) ?_ | refine r_addS rfl rfl (by omega) ?_
            try simp only [List.cons_append, List.nil_append, List.flatten_cons, List.flatten_nil, List.append_nil]
            exact r_again ⟨_, by omega, _, rfl, by omega, by omega, pthStep hi0 hj he4 (Or.inl ⟨by omega, hr21.1 h23, by omega⟩), rfl⟩
      · first | refine r_eql rfl rfl ?_ | refine r_eqlS rfl rfl ?_
        try simp only [List.cons_append, List.nil_append, List.flatten_cons, List.flatten_nil, List.append_nil]
        first | refine r_iteP rfl (fun h31 => ?_) (fun h31 => ?_) | refine r_iteNP rfl (fun h31 => ?_) (fun h31 => ?_) | refine r_iteN rfl (fun h31 => ?_) (fun h31 => ?_) | refine r_ite rfl (fun h31 => ?_) (fun h31 => ?_)
        · first | refine r_neq rfl rfl ?_ | refine r_neqS rfl rfl ?_
          try simp only [List.cons_append, List.nil_append, List.flatten_cons, List.flatten_nil, List.append_nil]
          first | refine r_iteP rfl (fun h33 => ?_) (fun h33 => ?_) | refine r_iteNP rfl (fun h33 => ?_) (fun h33 => ?_) | refine r_iteN rfl (fun h33 => ?_) (fun h33 => ?_) | refine r_ite rfl (fun h33 => ?_) (fun h33 => ?_)
          · refine r_ret rfl ?_
            exact ⟨_, rfl, iffF (pthNo he4 (by rintro (⟨h, _⟩ | ⟨_, h, _⟩) <;> first | omega | exact h33 h))⟩
          · refine r_callQ (w63) rfl ?_
            rintro _ ⟨r35, rfl, hr35⟩
            refine ⟨rfl, ?_⟩
            try simp only [List.cons_append, List.nil_append, List.flatten_cons, List.flatten_nil, List.append_nil]
            refine r_not rfl ?_
            simp only [List.cons_append, List.nil_append, List.flatten_cons, List.flatten_nil, List.append_nil]
            try simp only [List.cons_append, List.nil_append, List.flatten_cons, List.flatten_nil, List.append_nil]
            first | refine r_iteP rfl (fun h37 => ?_) (fun h37 => ?_) | refine r_iteNP rfl (fun h37 => ?_) (fun h37 => ?_) | refine r_iteN rfl (fun h37 => ?_) (fun h37 => ?_) | refine r_ite rfl (fun h37 => ?_) (fun h37 => ?_)
            · refine r_ret rfl ?_
              exact ⟨_, rfl, iffF (pthNo he4 (by rintro (⟨h, _⟩ | ⟨_, _, h⟩) <;> first | omega | (rw [hr35.2 h] at h37; cases h37)))⟩
            · first | refine r_add rfl rfl (by simp only [inR] at *; omega) ?_ | refine r_addS rfl rfl (by omega) ?_
              try simp only [List.cons_append, List.nil_append, List.flatten_cons, List.flatten_nil, List.append_nil]
              exact r_again ⟨_, by omega, _, rfl, by omega, by omega, pthStep hi0 hj he4 (Or.inr ⟨h31, Decidable.not_not.1 h33, hr35.1 h37⟩), rfl⟩
        · refine r_ret rfl ?_
          exact ⟨_, rfl, iffF (pthNo he4 (by rintro (⟨h, _⟩ | ⟨h, _⟩) <;> omega))⟩
  · refine r_len rfl ?_
    simp only [List.cons_append, List.nil_append, List.flatten_cons, List.flatten_nil, List.append_nil]
    try simp only [List.cons_append, List.nil_append, List.flatten_cons, List.flatten_nil, List.append_nil]
    refine r_leq rfl rfl ?_
    simp only [List.cons_append, List.nil_append, List.flatten_cons, List.flatten_nil, List.append_nil]
    try simp only [List.cons_append, List.nil_append, List.flatten_cons, List.flatten_nil, List.append_nil]
    refine r_ret rfl ?_
    exact ⟨_, rfl, iffD ⟨fun h => ⟨by omega, pthAll (by omega) hj⟩, fun h => by have := h.1; omega⟩⟩

/-- impl.IsPath -/
theorem w17 {l : List Stp} (hl : stpsOk l) : ∃ rs, Big tab (.fn 17 [[stps l]] rs) ∧ ∃ b, rs = [[.bool b]] ∧ (b = true ↔ IsPth l) := by
  have hm : maxLen = 9223372036854775807 := rfl
  obtain ⟨hl1, hl2⟩ := hl
  have hlen : (l.map Stp.row).length = l.length := List.length_map ..
  refine tr_sound rfl c17 rfl ?_
  show wp _ _ _ _ [stps l]
  refine r_len rfl ?_
  simp only [List.cons_append, List.nil_append, List.flatten_cons, List.flatten_nil, List.append_nil]
  try simp only [List.cons_append, List.nil_append, List.flatten_cons, List.flatten_nil, List.append_nil]
  refine r_gtr rfl rfl ?_
  simp only [List.cons_append, List.nil_append, List.flatten_cons, List.flatten_nil, List.append_nil]
  try simp only [List.cons_append, List.nil_append, List.flatten_cons, List.flatten_nil, List.append_nil]
  first | refine r_iteP rfl (fun h2 => ?_) (fun h2 => ?_) | refine r_iteNP rfl (fun h2 => ?_) (fun h2 => ?_) | refine r_iteN rfl (fun h2 => ?_) (fun h2 => ?_) | refine r_ite rfl (fun h2 => ?_) (fun h2 => ?_)
  · refine r_ret rfl ?_
    exact ⟨_, rfl, iffF (fun h => by have := h.1; omega)⟩
  · refine r_len rfl ?_
    simp only [List.cons_append, List.nil_append, List.flatten_cons, List.flatten_nil, List.append_nil]
    try simp only [List.cons_append, List.nil_append, List.flatten_cons, List.flatten_nil, List.append_nil]
    refine r_loop (fun m vs => ∃ i : Int, vs = [I i] ∧ 0 ≤ i ∧ i ≤ l.length ∧ (∀ (j : Nat) x, (j : Int) < i → l[j]? = some x → stpOk x) ∧ m = (l.length - i).toNat) _ ⟨_, rfl, by omega, by omega, fun j b hj => by omega, rfl⟩ ?_
    rintro m _ ⟨i, rfl, hi0, hi1, hj, rfl⟩
    try simp only [List.cons_append, List.nil_append, List.flatten_cons, List.flatten_nil, List.append_nil]
    refine r_lss rfl rfl ?_
    simp only [List.cons_append, List.nil_append, List.flatten_cons, List.flatten_nil, List.append_nil]
    try simp only [List.cons_append, List.nil_append, List.flatten_cons, List.flatten_nil, List.append_nil]
    first | refine r_iteP rfl (fun h7 => ?_) (fun h7 => ?_) | refine r_iteNP rfl (fun h7 => ?_) (fun h7 => ?_) | refine r_iteN rfl (fun h7 => ?_) (fun h7 => ?_) | refine r_ite rfl (fun h7 => ?_) (fun h7 => ?_)
    · refine r_inbT rfl rfl (by omega) (by omega) (fun e8 he8 hr8 => ?_)
      simp only [List.cons_append, List.nil_append, List.flatten_cons, List.flatten_nil, List.append_nil]
      try simp only [List.cons_append, List.nil_append, List.flatten_cons, List.flatten_nil, List.append_nil]
      have hs8 := (hl2 e8 (List.mem_of_getElem? he8)).2.1
      refine r_get1 rfl rfl hr8 rfl rfl ?_
      simp only [List.cons_append, List.nil_append, List.flatten_cons, List.flatten_nil, List.append_nil]
      try simp only [List.cons_append, List.nil_append, List.flatten_cons, List.flatten_nil, List.append_nil]
      refine r_get1 rfl rfl hr8 rfl rfl ?_
      simp only [List.cons_append, List.nil_append, List.flatten_cons, List.flatten_nil, List.append_nil]
      try simp only [List.cons_append, List.nil_append, List.flatten_cons, List.flatten_nil, List.append_nil]
      refine r_get1 rfl rfl hr8 rfl rfl ?_
      simp only [List.cons_append, List.nil_append, List.flatten_cons, List.flatten_nil, List.append_nil]
      try simp only [List.cons_append, List.nil_append, List.flatten_cons, List.flatten_nil, List.append_nil]
      first | refine r_eql rfl rfl ?_ | refine r_eqlS rfl rfl ?_
      try simp only [List.cons_append, List.nil_append, List.flatten_cons, List.flatten_nil, List.append_nil]
      first | refine r_iteP rfl (fun h13 => ?_) (fun h13 => ?_) | refine r_iteNP rfl (fun h13 => ?_) (fun h13 => ?_) | refine r_iteN rfl (fun h13 => ?_) (fun h13 => ?_) | refine r_ite rfl (fun h13 => ?_) (fun h13 => ?_)
      · refine r_callQ (w64 (by first | assumption | omega | (simp only [inR] at *; omega))) rfl ?_
        rintro _ ⟨r14, rfl, hr14⟩
        refine ⟨rfl, ?_⟩
        try simp only [List.cons_append, List.nil_append, List.flatten_cons, List.flatten_nil, List.append_nil]
        refine r_not rfl ?_
        simp only [List.cons_append, List.nil_append, List.flatten_cons, List.flatten_nil, List.append_nil]
        try simp only [List.cons_append, List.nil_append, List.flatten_cons, List.flatten_nil, List.append_nil]
        first | refine r_iteP rfl (fun h16 => ?_) (fun h16 => ?_) | refine r_iteNP rfl (fun h16 => ?_) (fun h16 => ?_) | refine r_iteN rfl (fun h16 => ?_) (fun h16 => ?_) | refine r_ite rfl (fun h16 => ?_) (fun h16 => ?_)
        · refine r_ret rfl ?_
          exact ⟨_, rfl, iffF (pthNo he8 (by rintro (⟨_, h, _⟩ | ⟨h, _⟩) <;> first | omega | (rw [hr14.2 h] at h16; cases h16)))⟩
        · first | refine r_neq rfl rfl ?_ | refine r_neqS rfl rfl ?_
          try simp only [List.cons_append, List.nil_append, List.flatten_cons, List.flatten_nil, List.append_nil]
          first | refine r_iteP rfl (fun h19 => ?_) (fun h19 => ?_) | refine r_iteNP rfl (fun h19 => ?_) (fun h19 => ?_) | refine r_iteN rfl (fun h19 => ?_) (fun h19 => ?_) | refine r_ite rfl (fun h19 => ?_) (fun h19 => ?_)
          · refine r_ret rfl ?_
            exact ⟨_, rfl, iffF (pthNo he8 (by rintro (⟨_, _, h⟩ | ⟨h, _⟩) <;> omega))⟩
          · first | refine r_add rfl rfl (by simp only [inR] at *; omega) ?_ | refine r_addS rfl rfl (by omega) ?_
            try simp only [List.cons_append, List.nil_append, List.flatten_cons, List.flatten_nil, List.append_nil]
            exact r_again ⟨_, by omega, _, rfl, by omega, by omega, pthStep hi0 hj he8 (Or.inl ⟨by omega, hr14.1 h16, by omega⟩), rfl⟩
      · first | refine r_eql rfl rfl ?_ | refine r_eqlS rfl rfl ?_
        try simp only [List.cons_append, List.nil_append, List.flatten_cons, List.flatten_nil, List.append_nil]
        first | refine r_iteP rfl (fun h24 => ?_) (fun h24 => ?_) | refine r_iteNP rfl (fun h24 => ?_) (fun h24 => ?_) | refine r_iteN rfl (fun h24 => ?_) (fun h24 => ?_) | refine r_ite rfl (fun h24 => ?_) (fun h24 => ?_)
        · refine r_callQ (w64 (by first | assumption | omega | (simp only [inR] at *; omega))) rfl ?_
          rintro _ ⟨r25, rfl, hr25⟩
          refine ⟨rfl, ?_⟩
          try simp only [List.cons_append, List.nil_append, List.flatten_cons, List.flatten_nil, List.append_nil]
          refine r_not rfl ?_
          simp only [List.cons_append, List.nil_append, List.flatten_cons, List.flatten_nil, List.append_nil]
          try simp only [List.cons_append, List.nil_append, List.flatten_cons, List.flatten_nil, List.append_nil]
          first | refine r_iteP rfl (fun h27 => ?_) (fun h27 => ?_) | refine r_iteNP rfl (fun h27 => ?_) (fun h27 => ?_) | refine r_iteN rfl (fun h27 => ?_) (fun h27 => ?_) | refine r_ite rfl (fun h27 => ?_) (fun h27 => ?_)
          · refine r_ret rfl ?_
            exact ⟨_, rfl, iffF (pthNo he8 (by rintro (⟨_, h, _⟩ | ⟨h, _⟩) <;> first | omega | (rw [hr25.2 h] at h27; cases h27)))⟩
          · first | refine r_neq rfl rfl ?_ | refine r_neqS rfl rfl ?_
            try simp only [List.cons_append, List.nil_append, List.flatten_cons, List.flatten_nil, List.append_nil]
            first | refine r_iteP rfl (fun h30 => ?_) (fun h30 => ?_) | refine r_iteNP rfl (fun h30 => ?_) (fun h30 => ?_) | refine r_iteN rfl (fun h30 => ?_) (fun h30 => ?_) | refine r_ite rfl (fun h30 => ?_) (fun h30 => ?_)
            · refine r_ret rfl ?_
              exact ⟨_, rfl, iffF (pthNo he8 (by rintro (⟨_, _, h⟩ | ⟨h, _⟩) <;> omega))⟩
            · first | refine r_add rfl rfl (by simp only [inR] at *; omega) ?_ | refine r_addS rfl rfl (by omega) ?_
              try simp only [List.cons_append, List.nil_append, List.flatten_cons, List.flatten_nil, List.append_nil]
              exact r_again ⟨_, by omega, _, rfl, by omega, by omega, pthStep hi0 hj he8 (Or.inl ⟨by omega, hr25.1 h27, by omega⟩), rfl⟩
        · first | refine r_eql rfl rfl ?_ | refine r_eqlS rfl rfl ?_
          try simp only [List.cons_append, List.nil_append, List.flatten_cons, List.flatten_nil, List.append_nil]
          first | refine r_iteP rfl (fun h35 => ?_) (fun h35 => ?_) | refine r_iteNP rfl (fun h35 => ?_) (fun h35 => ?_) | refine r_iteN rfl (fun h35 => ?_) (fun h35 => ?_) | refine r_ite rfl (fun h35 => ?_) (fun h35 => ?_)
          · first | refine r_neq rfl rfl ?_ | refine r_neqS rfl rfl ?_
            try simp only [List.cons_append, List.nil_append, List.flatten_cons, List.flatten_nil, List.append_nil]
            first | refine r_iteP rfl (fun h37 => ?_) (fun h37 => ?_) | refine r_iteNP rfl (fun h37 => ?_) (fun h37 => ?_) | refine r_iteN rfl (fun h37 => ?_) (fun h37 => ?_) | refine r_ite rfl (fun h37 => ?_) (fun h37 => ?_)
            · refine r_ret rfl ?_
              exact ⟨_, rfl, iffF (pthNo he8 (by rintro (⟨h, _⟩ | ⟨_, h, _⟩) <;> first | omega | exact h37 h))⟩
            · refine r_lss rfl rfl ?_
              simp only [List.cons_append, List.nil_append, List.flatten_cons, List.flatten_nil, List.append_nil]
              try simp only [List.cons_append, List.nil_append, List.flatten_cons, List.flatten_nil, List.append_nil]
              first | refine r_iteP rfl (fun h40 => ?_) (fun h40 => ?_) | refine r_iteNP rfl (fun h40 => ?_) (fun h40 => ?_) | refine r_iteN rfl (fun h40 => ?_) (fun h40 => ?_) | refine r_ite rfl (fun h40 => ?_) (fun h40 => ?_)
              · refine r_ret rfl ?_
                exact ⟨_, rfl, iffF (pthNo he8 (by rintro (⟨h, _⟩ | ⟨_, _, h⟩) <;> omega))⟩
              · refine r_gtr rfl rfl ?_
                simp only [List.cons_append, List.nil_append, List.flatten_cons, List.flatten_nil, List.append_nil]
                try simp only [List.cons_append, List.nil_append, List.flatten_cons, List.flatten_nil, List.append_nil]
                first | refine r_iteP rfl (fun h43 => ?_) (fun h43 => ?_) | refine r_iteNP rfl (fun h43 => ?_) (fun h43 => ?_) | refine r_iteN rfl (fun h43 => ?_) (fun h43 => ?_) | refine r_ite rfl (fun h43 => ?_) (fun h43 => ?_)
                · refine r_ret rfl ?_
                  exact ⟨_, rfl, iffF (pthNo he8 (by rintro (⟨h, _⟩ | ⟨_, _, h⟩) <;> omega))⟩
                · first | refine r_add rfl rfl (by simp only [inR] at *; omega) ?_ | refine r_addS rfl rfl (by omega) ?_
                  try simp only [List.cons_append, List.nil_append, List.flatten_cons, List.flatten_nil, List.append_nil]
                  exact r_again ⟨_, by omega, _, rfl, by omega, by omega, pthStep hi0 hj he8 (Or.inr ⟨h35, Decidable.not_not.1 h37, by omega, by omega⟩), rfl⟩
          · refine r_ret rfl ?_
            exact ⟨_, rfl, iffF (pthNo he8 (by rintro (⟨h, _⟩ | ⟨h, _⟩) <;> omega))⟩
    · refine r_ret rfl ?_
      exact ⟨_, rfl, iffT ⟨by omega, pthAll (by omega) hj⟩⟩

end Go.Proofs.Ytdgmelniiclbnaa
