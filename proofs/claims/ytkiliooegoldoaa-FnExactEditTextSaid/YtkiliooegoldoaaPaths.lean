/- Walks: Paths -/
import Derived.Test.YtkiliooegoldoaaNames
set_option linter.unusedVariables false
set_option linter.unusedSimpArgs false
namespace Go.Proofs.Ytkiliooegoldoaa
open Go

/-! ### Paths -/
def stpOk (x : Stp) : Prop := ((x.k = 1 ∨ x.k = 2) ∧ IsNm x.s ∧ x.n = 0) ∨ (x.k = 3 ∧ x.s = ⟨#[]⟩ ∧ 0 ≤ x.n ∧ x.n ≤ 1000)
def IsPth (l : List Stp) : Prop := l.length ≤ 12 ∧ ∀ x ∈ l, stpOk x
theorem pthNo {l : List Stp} {j : Nat} {x : Stp} (hx : l[j]? = some x) (h : ¬ stpOk x) : ¬ IsPth l := fun hn => h (hn.2 x (List.mem_of_getElem? hx))
theorem pthStep {l : List Stp} {i : Int} {x0 : Stp} (h0 : 0 ≤ i) (hj : ∀ (j : Nat) x, (j : Int) < i → l[j]? = some x → stpOk x) (hx : l[i.toNat]? = some x0) (h : stpOk x0) :
    ∀ (j : Nat) x, (j : Int) < i + 1 → l[j]? = some x → stpOk x := by
  intro j x hlt hx'
  by_cases hji : (j : Int) < i
  · exact hj j x hji hx'
  · have : j = i.toNat := by omega
    subst this
    rw [hx] at hx'
    cases hx'
    exact h
theorem pthAll {l : List Stp} {i : Int} (hi : ¬ i < l.length) (hj : ∀ (j : Nat) x, (j : Int) < i → l[j]? = some x → stpOk x) : ∀ x ∈ l, stpOk x := by
  intro x hx
  obtain ⟨j, hjl, he⟩ := List.getElem_of_mem hx
  exact hj j x (by omega) (by rw [List.getElem?_eq_getElem hjl, he])

/-- spec.IsPath -/
theorem w16 {l : List Stp} (hl : stpsOk l) : ∃ rs, Big tab (.fn 16 [[stps l]] rs) ∧ ∃ b, rs = [[.bool b]] ∧ (b = true ↔ IsPth l) := by
  have hm : maxLen = 9223372036854775807 := rfl
  obtain ⟨hl1, hl2⟩ := hl
  have hlen : (l.map Stp.row).length = l.length := List.length_map ..
  refine tr_sound rfl c16 rfl ?_
  show wp _ _ _ _ [stps l]
  refine r_loop (fun m vs => ∃ i : Int, vs = [I i] ∧ 0 ≤ i ∧ i ≤ l.length ∧ (∀ (j : Nat) x, (j : Int) < i → l[j]? = some x → stpOk x) ∧ m = (l.length - i).toNat) _ ⟨_, rfl, by omega, by omega, fun j b hj => by omega, rfl⟩ ?_
  rintro m _ ⟨i, rfl, hi0, hi1, hj, rfl⟩
  try simp only [List.cons_append, List.nil_append, List.flatten_cons, List.flatten_nil, List.append_nil]
  refine r_len rfl ?_
  try simp only [List.cons_append, List.nil_append, List.flatten_cons, List.flatten_nil, List.append_nil]
  first | refine r_lss rfl rfl ?_ | refine r_lssS rfl rfl ?_
  try simp only [List.cons_append, List.nil_append, List.flatten_cons, List.flatten_nil, List.append_nil]
  first | refine r_iteP rfl (fun h3 => ?_) (fun h3 => ?_) | refine r_iteNP rfl (fun h3 => ?_) (fun h3 => ?_) | refine r_iteN rfl (fun h3 => ?_) (fun h3 => ?_) | refine r_ite rfl (fun h3 => ?_) (fun h3 => ?_)
  · refine r_inbT rfl rfl (by omega) (by omega) (fun e4 he4 hr4 => ?_)
    try simp only [List.cons_append, List.nil_append, List.flatten_cons, List.flatten_nil, List.append_nil]
    have hs4 := (hl2 e4 (List.mem_of_getElem? he4)).2.1
    refine r_get1 rfl rfl hr4 rfl rfl ?_
    try simp only [List.cons_append, List.nil_append, List.flatten_cons, List.flatten_nil, List.append_nil]
    refine r_get1 rfl rfl hr4 rfl rfl ?_
    try simp only [List.cons_append, List.nil_append, List.flatten_cons, List.flatten_nil, List.append_nil]
    refine r_get1 rfl rfl hr4 rfl rfl ?_
    try simp only [List.cons_append, List.nil_append, List.flatten_cons, List.flatten_nil, List.append_nil]
    refine r_join (fun vs => ∃ b : Bool, vs = [.bool b] ∧ (b = true ↔ (e4.k = 1 ∨ e4.k = 2))) ?_ ?_
    · first | refine r_eql rfl rfl ?_ | refine r_eqlS rfl rfl ?_
      try simp only [List.cons_append, List.nil_append, List.flatten_cons, List.flatten_nil, List.append_nil]
      first | refine r_iteP rfl (fun h10 => ?_) (fun h10 => ?_) | refine r_iteNP rfl (fun h10 => ?_) (fun h10 => ?_) | refine r_iteN rfl (fun h10 => ?_) (fun h10 => ?_) | refine r_ite rfl (fun h10 => ?_) (fun h10 => ?_)
      · exact r_again ⟨_, rfl, iffT (Or.inl h10)⟩
      · first | refine r_eql rfl rfl ?_ | refine r_eqlS rfl rfl ?_
        try simp only [List.cons_append, List.nil_append, List.flatten_cons, List.flatten_nil, List.append_nil]
        exact r_again ⟨_, rfl, iffD (by omega)⟩
    rintro _ ⟨b8, rfl, hb8⟩
    try simp only [List.cons_append, List.nil_append, List.flatten_cons, List.flatten_nil, List.append_nil]
    first | refine r_iteP rfl (fun h14 => ?_) (fun h14 => ?_) | refine r_iteNP rfl (fun h14 => ?_) (fun h14 => ?_) | refine r_iteN rfl (fun h14 => ?_) (fun h14 => ?_) | refine r_ite rfl (fun h14 => ?_) (fun h14 => ?_)
    · have hk8 := hb8.1 h14
      refine r_callQ (w62 (by first | assumption | omega | (simp only [inR] at *; omega))) rfl ?_
      rintro _ ⟨r15, rfl, hr15⟩
      refine ⟨rfl, ?_⟩
      try simp only [List.cons_append, List.nil_append, List.flatten_cons, List.flatten_nil, List.append_nil]
      refine r_not rfl ?_
      try simp only [List.cons_append, List.nil_append, List.flatten_cons, List.flatten_nil, List.append_nil]
      first | refine r_iteP rfl (fun h17 => ?_) (fun h17 => ?_) | refine r_iteNP rfl (fun h17 => ?_) (fun h17 => ?_) | refine r_iteN rfl (fun h17 => ?_) (fun h17 => ?_) | refine r_ite rfl (fun h17 => ?_) (fun h17 => ?_)
      · refine r_ret rfl ?_
        exact ⟨_, rfl, iffF (pthNo he4 (by rintro (⟨_, h, _⟩ | ⟨h, _⟩) <;> first | omega | (rw [hr15.2 h] at h17; cases h17)))⟩
      · first | refine r_neq rfl rfl ?_ | refine r_neqS rfl rfl ?_
        try simp only [List.cons_append, List.nil_append, List.flatten_cons, List.flatten_nil, List.append_nil]
        first | refine r_iteP rfl (fun h20 => ?_) (fun h20 => ?_) | refine r_iteNP rfl (fun h20 => ?_) (fun h20 => ?_) | refine r_iteN rfl (fun h20 => ?_) (fun h20 => ?_) | refine r_ite rfl (fun h20 => ?_) (fun h20 => ?_)
        · refine r_ret rfl ?_
          exact ⟨_, rfl, iffF (pthNo he4 (by rintro (⟨_, _, h⟩ | ⟨h, _⟩) <;> omega))⟩
        · first | refine r_add rfl rfl (by simp only [inR] at *; omega) ?_ | refine r_addS rfl rfl (by omega) ?_
          try simp only [List.cons_append, List.nil_append, List.flatten_cons, List.flatten_nil, List.append_nil]
          exact r_again ⟨_, by omega, _, rfl, by omega, by omega, pthStep hi0 hj he4 (Or.inl ⟨by omega, hr15.1 h17, by omega⟩), rfl⟩
    · have hk8 : ¬ (e4.k = 1 ∨ e4.k = 2) := fun h => by rw [hb8.2 h] at h14; cases h14
      first | refine r_eql rfl rfl ?_ | refine r_eqlS rfl rfl ?_
      try simp only [List.cons_append, List.nil_append, List.flatten_cons, List.flatten_nil, List.append_nil]
      first | refine r_iteP rfl (fun h25 => ?_) (fun h25 => ?_) | refine r_iteNP rfl (fun h25 => ?_) (fun h25 => ?_) | refine r_iteN rfl (fun h25 => ?_) (fun h25 => ?_) | refine r_ite rfl (fun h25 => ?_) (fun h25 => ?_)
      · first | refine r_neq rfl rfl ?_ | refine r_neqS rfl rfl ?_
        try simp only [List.cons_append, List.nil_append, List.flatten_cons, List.flatten_nil, List.append_nil]
        first | refine r_iteP rfl (fun h27 => ?_) (fun h27 => ?_) | refine r_iteNP rfl (fun h27 => ?_) (fun h27 => ?_) | refine r_iteN rfl (fun h27 => ?_) (fun h27 => ?_) | refine r_ite rfl (fun h27 => ?_) (fun h27 => ?_)
        · refine r_ret rfl ?_
          exact ⟨_, rfl, iffF (pthNo he4 (by rintro (⟨h, _⟩ | ⟨_, h, _⟩) <;> first | omega | exact h27 h))⟩
        · refine r_callQ (w63) rfl ?_
          rintro _ ⟨r29, rfl, hr29⟩
          refine ⟨rfl, ?_⟩
          try simp only [List.cons_append, List.nil_append, List.flatten_cons, List.flatten_nil, List.append_nil]
          refine r_not rfl ?_
          try simp only [List.cons_append, List.nil_append, List.flatten_cons, List.flatten_nil, List.append_nil]
          first | refine r_iteP rfl (fun h31 => ?_) (fun h31 => ?_) | refine r_iteNP rfl (fun h31 => ?_) (fun h31 => ?_) | refine r_iteN rfl (fun h31 => ?_) (fun h31 => ?_) | refine r_ite rfl (fun h31 => ?_) (fun h31 => ?_)
          · refine r_ret rfl ?_
            exact ⟨_, rfl, iffF (pthNo he4 (by rintro (⟨h, _⟩ | ⟨_, _, h⟩) <;> first | omega | (rw [hr29.2 h] at h31; cases h31)))⟩
          · first | refine r_add rfl rfl (by simp only [inR] at *; omega) ?_ | refine r_addS rfl rfl (by omega) ?_
            try simp only [List.cons_append, List.nil_append, List.flatten_cons, List.flatten_nil, List.append_nil]
            exact r_again ⟨_, by omega, _, rfl, by omega, by omega, pthStep hi0 hj he4 (Or.inr ⟨h25, Decidable.not_not.1 h27, hr29.1 h31⟩), rfl⟩
      · refine r_ret rfl ?_
        exact ⟨_, rfl, iffF (pthNo he4 (by rintro (⟨h, _⟩ | ⟨h, _⟩) <;> omega))⟩
  · refine r_len rfl ?_
    try simp only [List.cons_append, List.nil_append, List.flatten_cons, List.flatten_nil, List.append_nil]
    refine r_leq rfl rfl ?_
    try simp only [List.cons_append, List.nil_append, List.flatten_cons, List.flatten_nil, List.append_nil]
    refine r_ret rfl ?_
    exact ⟨_, rfl, iffD ⟨fun h => ⟨by omega, pthAll (by omega) hj⟩, fun h => by have := h.1; omega⟩⟩

/-- impl.IsPath -/
theorem w17 {l : List Stp} (hl : stpsOk l) : ∃ rs, Big tab (.fn 17 [[stps l]] rs) ∧ ∃ b, rs = [[.bool b]] ∧ (b = true ↔ IsPth l) := by
  have hm : maxLen = 9223372036854775807 := rfl
  obtain ⟨hl1, hl2⟩ := hl
  have hlen : (l.map Stp.row).length = l.length := List.length_map ..
  refine tr_sound rfl c17 rfl ?_
  show wp _ _ _ _ [stps l]
  refine r_len rfl ?_
  try simp only [List.cons_append, List.nil_append, List.flatten_cons, List.flatten_nil, List.append_nil]
  refine r_gtr rfl rfl ?_
  try simp only [List.cons_append, List.nil_append, List.flatten_cons, List.flatten_nil, List.append_nil]
  first | refine r_iteP rfl (fun h2 => ?_) (fun h2 => ?_) | refine r_iteNP rfl (fun h2 => ?_) (fun h2 => ?_) | refine r_iteN rfl (fun h2 => ?_) (fun h2 => ?_) | refine r_ite rfl (fun h2 => ?_) (fun h2 => ?_)
  · refine r_ret rfl ?_
    exact ⟨_, rfl, iffF (fun h => by have := h.1; omega)⟩
  · refine r_len rfl ?_
    try simp only [List.cons_append, List.nil_append, List.flatten_cons, List.flatten_nil, List.append_nil]
    refine r_loop (fun m vs => ∃ i : Int, vs = [I i] ∧ 0 ≤ i ∧ i ≤ l.length ∧ (∀ (j : Nat) x, (j : Int) < i → l[j]? = some x → stpOk x) ∧ m = (l.length - i).toNat) _ ⟨_, rfl, by omega, by omega, fun j b hj => by omega, rfl⟩ ?_
    rintro m _ ⟨i, rfl, hi0, hi1, hj, rfl⟩
    try simp only [List.cons_append, List.nil_append, List.flatten_cons, List.flatten_nil, List.append_nil]
    first | refine r_lss rfl rfl ?_ | refine r_lssS rfl rfl ?_
    try simp only [List.cons_append, List.nil_append, List.flatten_cons, List.flatten_nil, List.append_nil]
    first | refine r_iteP rfl (fun h7 => ?_) (fun h7 => ?_) | refine r_iteNP rfl (fun h7 => ?_) (fun h7 => ?_) | refine r_iteN rfl (fun h7 => ?_) (fun h7 => ?_) | refine r_ite rfl (fun h7 => ?_) (fun h7 => ?_)
    · refine r_inbT rfl rfl (by omega) (by omega) (fun e8 he8 hr8 => ?_)
      try simp only [List.cons_append, List.nil_append, List.flatten_cons, List.flatten_nil, List.append_nil]
      have hs8 := (hl2 e8 (List.mem_of_getElem? he8)).2.1
      refine r_get1 rfl rfl hr8 rfl rfl ?_
      try simp only [List.cons_append, List.nil_append, List.flatten_cons, List.flatten_nil, List.append_nil]
      refine r_get1 rfl rfl hr8 rfl rfl ?_
      try simp only [List.cons_append, List.nil_append, List.flatten_cons, List.flatten_nil, List.append_nil]
      refine r_get1 rfl rfl hr8 rfl rfl ?_
      try simp only [List.cons_append, List.nil_append, List.flatten_cons, List.flatten_nil, List.append_nil]
      refine r_join (fun vs => ∃ b : Bool, vs = [.bool b] ∧ (b = true ↔ (e8.k = 1 ∨ e8.k = 2))) ?_ ?_
      · first | refine r_eql rfl rfl ?_ | refine r_eqlS rfl rfl ?_
        try simp only [List.cons_append, List.nil_append, List.flatten_cons, List.flatten_nil, List.append_nil]
        first | refine r_iteP rfl (fun h14 => ?_) (fun h14 => ?_) | refine r_iteNP rfl (fun h14 => ?_) (fun h14 => ?_) | refine r_iteN rfl (fun h14 => ?_) (fun h14 => ?_) | refine r_ite rfl (fun h14 => ?_) (fun h14 => ?_)
        · exact r_again ⟨_, rfl, iffT (Or.inl h14)⟩
        · first | refine r_eql rfl rfl ?_ | refine r_eqlS rfl rfl ?_
          try simp only [List.cons_append, List.nil_append, List.flatten_cons, List.flatten_nil, List.append_nil]
          exact r_again ⟨_, rfl, iffD (by omega)⟩
      rintro _ ⟨b12, rfl, hb12⟩
      try simp only [List.cons_append, List.nil_append, List.flatten_cons, List.flatten_nil, List.append_nil]
      first | refine r_iteP rfl (fun h18 => ?_) (fun h18 => ?_) | refine r_iteNP rfl (fun h18 => ?_) (fun h18 => ?_) | refine r_iteN rfl (fun h18 => ?_) (fun h18 => ?_) | refine r_ite rfl (fun h18 => ?_) (fun h18 => ?_)
      · have hk8 := hb12.1 h18
        refine r_callQ (w64 (by first | assumption | omega | (simp only [inR] at *; omega))) rfl ?_
        rintro _ ⟨r19, rfl, hr19⟩
        refine ⟨rfl, ?_⟩
        try simp only [List.cons_append, List.nil_append, List.flatten_cons, List.flatten_nil, List.append_nil]
        refine r_not rfl ?_
        try simp only [List.cons_append, List.nil_append, List.flatten_cons, List.flatten_nil, List.append_nil]
        first | refine r_iteP rfl (fun h21 => ?_) (fun h21 => ?_) | refine r_iteNP rfl (fun h21 => ?_) (fun h21 => ?_) | refine r_iteN rfl (fun h21 => ?_) (fun h21 => ?_) | refine r_ite rfl (fun h21 => ?_) (fun h21 => ?_)
        · refine r_ret rfl ?_
          exact ⟨_, rfl, iffF (pthNo he8 (by rintro (⟨_, h, _⟩ | ⟨h, _⟩) <;> first | omega | (rw [hr19.2 h] at h21; cases h21)))⟩
        · first | refine r_neq rfl rfl ?_ | refine r_neqS rfl rfl ?_
          try simp only [List.cons_append, List.nil_append, List.flatten_cons, List.flatten_nil, List.append_nil]
          first | refine r_iteP rfl (fun h24 => ?_) (fun h24 => ?_) | refine r_iteNP rfl (fun h24 => ?_) (fun h24 => ?_) | refine r_iteN rfl (fun h24 => ?_) (fun h24 => ?_) | refine r_ite rfl (fun h24 => ?_) (fun h24 => ?_)
          · refine r_ret rfl ?_
            exact ⟨_, rfl, iffF (pthNo he8 (by rintro (⟨_, _, h⟩ | ⟨h, _⟩) <;> omega))⟩
          · first | refine r_add rfl rfl (by simp only [inR] at *; omega) ?_ | refine r_addS rfl rfl (by omega) ?_
            try simp only [List.cons_append, List.nil_append, List.flatten_cons, List.flatten_nil, List.append_nil]
            exact r_again ⟨_, by omega, _, rfl, by omega, by omega, pthStep hi0 hj he8 (Or.inl ⟨by omega, hr19.1 h21, by omega⟩), rfl⟩
      · have hk8 : ¬ (e8.k = 1 ∨ e8.k = 2) := fun h => by rw [hb12.2 h] at h18; cases h18
        first | refine r_eql rfl rfl ?_ | refine r_eqlS rfl rfl ?_
        try simp only [List.cons_append, List.nil_append, List.flatten_cons, List.flatten_nil, List.append_nil]
        first | refine r_iteP rfl (fun h29 => ?_) (fun h29 => ?_) | refine r_iteNP rfl (fun h29 => ?_) (fun h29 => ?_) | refine r_iteN rfl (fun h29 => ?_) (fun h29 => ?_) | refine r_ite rfl (fun h29 => ?_) (fun h29 => ?_)
        · first | refine r_neq rfl rfl ?_ | refine r_neqS rfl rfl ?_
          try simp only [List.cons_append, List.nil_append, List.flatten_cons, List.flatten_nil, List.append_nil]
          first | refine r_iteP rfl (fun h31 => ?_) (fun h31 => ?_) | refine r_iteNP rfl (fun h31 => ?_) (fun h31 => ?_) | refine r_iteN rfl (fun h31 => ?_) (fun h31 => ?_) | refine r_ite rfl (fun h31 => ?_) (fun h31 => ?_)
          · refine r_ret rfl ?_
            exact ⟨_, rfl, iffF (pthNo he8 (by rintro (⟨h, _⟩ | ⟨_, h, _⟩) <;> first | omega | exact h31 h))⟩
          · first | refine r_lss rfl rfl ?_ | refine r_lssS rfl rfl ?_
            try simp only [List.cons_append, List.nil_append, List.flatten_cons, List.flatten_nil, List.append_nil]
            first | refine r_iteP rfl (fun h34 => ?_) (fun h34 => ?_) | refine r_iteNP rfl (fun h34 => ?_) (fun h34 => ?_) | refine r_iteN rfl (fun h34 => ?_) (fun h34 => ?_) | refine r_ite rfl (fun h34 => ?_) (fun h34 => ?_)
            · refine r_ret rfl ?_
              exact ⟨_, rfl, iffF (pthNo he8 (by rintro (⟨h, _⟩ | ⟨_, _, h⟩) <;> omega))⟩
            · refine r_gtr rfl rfl ?_
              try simp only [List.cons_append, List.nil_append, List.flatten_cons, List.flatten_nil, List.append_nil]
              first | refine r_iteP rfl (fun h37 => ?_) (fun h37 => ?_) | refine r_iteNP rfl (fun h37 => ?_) (fun h37 => ?_) | refine r_iteN rfl (fun h37 => ?_) (fun h37 => ?_) | refine r_ite rfl (fun h37 => ?_) (fun h37 => ?_)
              · refine r_ret rfl ?_
                exact ⟨_, rfl, iffF (pthNo he8 (by rintro (⟨h, _⟩ | ⟨_, _, h⟩) <;> omega))⟩
              · first | refine r_add rfl rfl (by simp only [inR] at *; omega) ?_ | refine r_addS rfl rfl (by omega) ?_
                try simp only [List.cons_append, List.nil_append, List.flatten_cons, List.flatten_nil, List.append_nil]
                exact r_again ⟨_, by omega, _, rfl, by omega, by omega, pthStep hi0 hj he8 (Or.inr ⟨h29, Decidable.not_not.1 h31, by omega, by omega⟩), rfl⟩
        · refine r_ret rfl ?_
          exact ⟨_, rfl, iffF (pthNo he8 (by rintro (⟨h, _⟩ | ⟨h, _⟩) <;> omega))⟩
    · refine r_ret rfl ?_
      exact ⟨_, rfl, iffT ⟨by omega, pthAll (by omega) hj⟩⟩

end Go.Proofs.Ytkiliooegoldoaa
