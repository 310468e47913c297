/- Walks: AreDisjoint -/
import Derived.Test.YtdgmelniiclbnaaStepSS
set_option linter.unusedVariables false
set_option linter.unusedSimpArgs false
namespace Go.Proofs.Ytdgmelniiclbnaa
open Go

def IsDis (l : List (List Stp)) : Prop := ∀ (i j : Nat) a b, i ≠ j → l[i]? = some a → l[j]? = some b → ¬ IsPre a b

/-- spec.AreDisjoint -/
theorem w19 {l : List (List Stp)} (hl : pthsOk l) : ∃ rs, Big tab (.fn 19 [[pths l]] rs) ∧ ∃ b, rs = [[.bool b]] ∧ (b = true ↔ IsDis l) := by
  have hm : maxLen = 9223372036854775807 := rfl
  obtain ⟨hl1, hl2⟩ := hl
  have hlen : (l.map fun p => [stps p]).length = l.length := List.length_map ..
  refine tr_sound rfl c19 rfl ?_
  show wp _ _ _ _ [pths l]
  refine r_loop (fun m vs => ∃ i : Int, vs = [I i] ∧ 0 ≤ i ∧ i ≤ l.length ∧ (∀ (i' j : Nat) a b, (i' : Int) < i → i' ≠ j → l[i']? = some a → l[j]? = some b → ¬ IsPre a b) ∧ m = (l.length - i).toNat) _ ⟨_, rfl, by omega, by omega, fun i' j a b hj => by omega, rfl⟩ ?_
  rintro m _ ⟨i, rfl, hi0, hi1, hd, rfl⟩
  try simp only [List.cons_append, List.nil_append, List.flatten_cons, List.flatten_nil, List.append_nil]
  refine r_len rfl ?_
  simp only [List.cons_append, List.nil_append, List.flatten_cons, List.flatten_nil, List.append_nil]
  try simp only [List.cons_append, List.nil_append, List.flatten_cons, List.flatten_nil, List.append_nil]
  refine r_lss rfl rfl ?_
  simp only [List.cons_append, List.nil_append, List.flatten_cons, List.flatten_nil, List.append_nil]
  try simp only [List.cons_append, List.nil_append, List.flatten_cons, List.flatten_nil, List.append_nil]
  first | refine r_iteP rfl (fun h3 => ?_) (fun h3 => ?_) | refine r_iteNP rfl (fun h3 => ?_) (fun h3 => ?_) | refine r_iteN rfl (fun h3 => ?_) (fun h3 => ?_) | refine r_ite rfl (fun h3 => ?_) (fun h3 => ?_)
  · refine r_loop (fun m vs => ∃ j : Int, vs = [I j] ∧ 0 ≤ j ∧ j ≤ l.length ∧ (∀ (j' : Nat) a b, (j' : Int) < j → i.toNat ≠ j' → l[i.toNat]? = some a → l[j']? = some b → ¬ IsPre a b) ∧ m = (l.length - j).toNat) _ ⟨_, rfl, by omega, by omega, fun j a b hj => by omega, rfl⟩ ?_
    rintro m _ ⟨j, rfl, hj0, hj1, hj, rfl⟩
    try simp only [List.cons_append, List.nil_append, List.flatten_cons, List.flatten_nil, List.append_nil]
    refine r_len rfl ?_
    simp only [List.cons_append, List.nil_append, List.flatten_cons, List.flatten_nil, List.append_nil]
    try simp only [List.cons_append, List.nil_append, List.flatten_cons, List.flatten_nil, List.append_nil]
    refine r_lss rfl rfl ?_
    simp only [List.cons_append, List.nil_append, List.flatten_cons, List.flatten_nil, List.append_nil]
    try simp only [List.cons_append, List.nil_append, List.flatten_cons, List.flatten_nil, List.append_nil]
    first | refine r_iteP rfl (fun h7 => ?_) (fun h7 => ?_) | refine r_iteNP rfl (fun h7 => ?_) (fun h7 => ?_) | refine r_iteN rfl (fun h7 => ?_) (fun h7 => ?_) | refine r_ite rfl (fun h7 => ?_) (fun h7 => ?_)
    · first | refine r_neq rfl rfl ?_ | refine r_neqS rfl rfl ?_
      try simp only [List.cons_append, List.nil_append, List.flatten_cons, List.flatten_nil, List.append_nil]
      first | refine r_iteP rfl (fun h9 => ?_) (fun h9 => ?_) | refine r_iteNP rfl (fun h9 => ?_) (fun h9 => ?_) | refine r_iteN rfl (fun h9 => ?_) (fun h9 => ?_) | refine r_ite rfl (fun h9 => ?_) (fun h9 => ?_)
      · refine r_inbT rfl rfl (by omega) (by omega) (fun e10 he10 hr10 => ?_)
        simp only [List.cons_append, List.nil_append, List.flatten_cons, List.flatten_nil, List.append_nil]
        try simp only [List.cons_append, List.nil_append, List.flatten_cons, List.flatten_nil, List.append_nil]
        refine r_get1 rfl rfl hr10 rfl rfl ?_
        simp only [List.cons_append, List.nil_append, List.flatten_cons, List.flatten_nil, List.append_nil]
        try simp only [List.cons_append, List.nil_append, List.flatten_cons, List.flatten_nil, List.append_nil]
        refine r_inbT rfl rfl (by omega) (by omega) (fun e12 he12 hr12 => ?_)
        simp only [List.cons_append, List.nil_append, List.flatten_cons, List.flatten_nil, List.append_nil]
        try simp only [List.cons_append, List.nil_append, List.flatten_cons, List.flatten_nil, List.append_nil]
        refine r_get1 rfl rfl hr12 rfl rfl ?_
        simp only [List.cons_append, List.nil_append, List.flatten_cons, List.flatten_nil, List.append_nil]
        try simp only [List.cons_append, List.nil_append, List.flatten_cons, List.flatten_nil, List.append_nil]
        refine r_callQ (w12 (hl2 e10 (List.mem_of_getElem? he10)) (hl2 e12 (List.mem_of_getElem? he12))) rfl ?_
        rintro _ ⟨r14, rfl, hr14⟩
        refine ⟨rfl, ?_⟩
        try simp only [List.cons_append, List.nil_append, List.flatten_cons, List.flatten_nil, List.append_nil]
        first | refine r_iteP rfl (fun h15 => ?_) (fun h15 => ?_) | refine r_iteNP rfl (fun h15 => ?_) (fun h15 => ?_) | refine r_iteN rfl (fun h15 => ?_) (fun h15 => ?_) | refine r_ite rfl (fun h15 => ?_) (fun h15 => ?_)
        · refine r_ret rfl ?_
          exact ⟨_, rfl, iffF (fun hn => hn _ _ _ _ (by omega) he10 he12 (hr14.1 h15))⟩
        · first | refine r_add rfl rfl (by simp only [inR] at *; omega) ?_ | refine r_addS rfl rfl (by omega) ?_
          try simp only [List.cons_append, List.nil_append, List.flatten_cons, List.flatten_nil, List.append_nil]
          refine r_again ⟨_, by omega, _, rfl, by omega, by omega, fun j' a b hlt hne ha hb => ?_, rfl⟩
          by_cases hjj : (j' : Int) < j
          · exact hj j' a b hjj hne ha hb
          · have : j' = j.toNat := by omega
            subst this
            rw [he10] at ha; rw [he12] at hb; cases ha; cases hb
            intro hp
            rw [hr14.2 hp] at h15; cases h15
      · first | refine r_add rfl rfl (by simp only [inR] at *; omega) ?_ | refine r_addS rfl rfl (by omega) ?_
        try simp only [List.cons_append, List.nil_append, List.flatten_cons, List.flatten_nil, List.append_nil]
        refine r_again ⟨_, by omega, _, rfl, by omega, by omega, fun j' a b hlt hne ha hb => ?_, rfl⟩
        by_cases hjj : (j' : Int) < j
        · exact hj j' a b hjj hne ha hb
        · exact absurd (by omega) hne
    · first | refine r_add rfl rfl (by simp only [inR] at *; omega) ?_ | refine r_addS rfl rfl (by omega) ?_
      try simp only [List.cons_append, List.nil_append, List.flatten_cons, List.flatten_nil, List.append_nil]
      refine r_again' (by decide) (r_again ⟨_, by omega, _, rfl, by omega, by omega, fun i' j' a b hlt hne ha hb => ?_, rfl⟩)
      by_cases hii : (i' : Int) < i
      · exact hd i' j' a b hii hne ha hb
      · have : i' = i.toNat := by omega
        subst this
        have hjl : j' < l.length := (List.getElem?_eq_some_iff.1 hb).1
        exact hj j' a b (by omega) hne ha hb
  · refine r_ret rfl ?_
    exact ⟨_, rfl, iffT (fun i' j' a b hne ha hb => hd i' j' a b (by have := (List.getElem?_eq_some_iff.1 ha).1; omega) hne ha hb)⟩

/-- impl.AreDisjoint -/
theorem w21 {l : List (List Stp)} (hl : pthsOk l) : ∃ rs, Big tab (.fn 21 [[pths l]] rs) ∧ ∃ b, rs = [[.bool b]] ∧ (b = true ↔ IsDis l) := by
  have hm : maxLen = 9223372036854775807 := rfl
  obtain ⟨hl1, hl2⟩ := hl
  have hlen : (l.map fun p => [stps p]).length = l.length := List.length_map ..
  refine tr_sound rfl c21 rfl ?_
  show wp _ _ _ _ [pths l]
  refine r_len rfl ?_
  simp only [List.cons_append, List.nil_append, List.flatten_cons, List.flatten_nil, List.append_nil]
  try simp only [List.cons_append, List.nil_append, List.flatten_cons, List.flatten_nil, List.append_nil]
  refine r_loop (fun m vs => ∃ i : Int, vs = [I i] ∧ 0 ≤ i ∧ i ≤ l.length ∧ (∀ (i' j : Nat) a b, (i' : Int) < i → i' ≠ j → l[i']? = some a → l[j]? = some b → ¬ IsPre a b) ∧ m = (l.length - i).toNat) _ ⟨_, rfl, by omega, by omega, fun i' j a b hj => by omega, rfl⟩ ?_
  rintro m _ ⟨i, rfl, hi0, hi1, hd, rfl⟩
  try simp only [List.cons_append, List.nil_append, List.flatten_cons, List.flatten_nil, List.append_nil]
  refine r_lss rfl rfl ?_
  simp only [List.cons_append, List.nil_append, List.flatten_cons, List.flatten_nil, List.append_nil]
  try simp only [List.cons_append, List.nil_append, List.flatten_cons, List.flatten_nil, List.append_nil]
  first | refine r_iteP rfl (fun h3 => ?_) (fun h3 => ?_) | refine r_iteNP rfl (fun h3 => ?_) (fun h3 => ?_) | refine r_iteN rfl (fun h3 => ?_) (fun h3 => ?_) | refine r_ite rfl (fun h3 => ?_) (fun h3 => ?_)
  · refine r_inbT rfl rfl (by omega) (by omega) (fun e4 he4 hr4 => ?_)
    simp only [List.cons_append, List.nil_append, List.flatten_cons, List.flatten_nil, List.append_nil]
    try simp only [List.cons_append, List.nil_append, List.flatten_cons, List.flatten_nil, List.append_nil]
    refine r_get1 rfl rfl hr4 rfl rfl ?_
    simp only [List.cons_append, List.nil_append, List.flatten_cons, List.flatten_nil, List.append_nil]
    try simp only [List.cons_append, List.nil_append, List.flatten_cons, List.flatten_nil, List.append_nil]
    refine r_len rfl ?_
    simp only [List.cons_append, List.nil_append, List.flatten_cons, List.flatten_nil, List.append_nil]
    try simp only [List.cons_append, List.nil_append, List.flatten_cons, List.flatten_nil, List.append_nil]
    refine r_loop (fun m vs => ∃ j : Int, vs = [I j] ∧ 0 ≤ j ∧ j ≤ l.length ∧ (∀ (j' : Nat) a b, (j' : Int) < j → i.toNat ≠ j' → l[i.toNat]? = some a → l[j']? = some b → ¬ IsPre a b) ∧ m = (l.length - j).toNat) _ ⟨_, rfl, by omega, by omega, fun j a b hj => by omega, rfl⟩ ?_
    rintro m _ ⟨j, rfl, hj0, hj1, hj, rfl⟩
    try simp only [List.cons_append, List.nil_append, List.flatten_cons, List.flatten_nil, List.append_nil]
    refine r_lss rfl rfl ?_
    simp only [List.cons_append, List.nil_append, List.flatten_cons, List.flatten_nil, List.append_nil]
    try simp only [List.cons_append, List.nil_append, List.flatten_cons, List.flatten_nil, List.append_nil]
    first | refine r_iteP rfl (fun h9 => ?_) (fun h9 => ?_) | refine r_iteNP rfl (fun h9 => ?_) (fun h9 => ?_) | refine r_iteN rfl (fun h9 => ?_) (fun h9 => ?_) | refine r_ite rfl (fun h9 => ?_) (fun h9 => ?_)
    · refine r_inbT rfl rfl (by omega) (by omega) (fun e10 he10 hr10 => ?_)
      simp only [List.cons_append, List.nil_append, List.flatten_cons, List.flatten_nil, List.append_nil]
      try simp only [List.cons_append, List.nil_append, List.flatten_cons, List.flatten_nil, List.append_nil]
      refine r_get1 rfl rfl hr10 rfl rfl ?_
      simp only [List.cons_append, List.nil_append, List.flatten_cons, List.flatten_nil, List.append_nil]
      try simp only [List.cons_append, List.nil_append, List.flatten_cons, List.flatten_nil, List.append_nil]
      first | refine r_neq rfl rfl ?_ | refine r_neqS rfl rfl ?_
      try simp only [List.cons_append, List.nil_append, List.flatten_cons, List.flatten_nil, List.append_nil]
      first | refine r_iteP rfl (fun h13 => ?_) (fun h13 => ?_) | refine r_iteNP rfl (fun h13 => ?_) (fun h13 => ?_) | refine r_iteN rfl (fun h13 => ?_) (fun h13 => ?_) | refine r_ite rfl (fun h13 => ?_) (fun h13 => ?_)
      · refine r_callQ (w14 (hl2 e4 (List.mem_of_getElem? he4)) (hl2 e10 (List.mem_of_getElem? he10))) rfl ?_
        rintro _ ⟨r14, rfl, hr14⟩
        refine ⟨rfl, ?_⟩
        try simp only [List.cons_append, List.nil_append, List.flatten_cons, List.flatten_nil, List.append_nil]
        first | refine r_iteP rfl (fun h15 => ?_) (fun h15 => ?_) | refine r_iteNP rfl (fun h15 => ?_) (fun h15 => ?_) | refine r_iteN rfl (fun h15 => ?_) (fun h15 => ?_) | refine r_ite rfl (fun h15 => ?_) (fun h15 => ?_)
        · refine r_ret rfl ?_
          exact ⟨_, rfl, iffF (fun hn => hn _ _ _ _ (by omega) he4 he10 (hr14.1 h15))⟩
        · first | refine r_add rfl rfl (by simp only [inR] at *; omega) ?_ | refine r_addS rfl rfl (by omega) ?_
          try simp only [List.cons_append, List.nil_append, List.flatten_cons, List.flatten_nil, List.append_nil]
          refine r_again ⟨_, by omega, _, rfl, by omega, by omega, fun j' a b hlt hne ha hb => ?_, rfl⟩
          by_cases hjj : (j' : Int) < j
          · exact hj j' a b hjj hne ha hb
          · have : j' = j.toNat := by omega
            subst this
            rw [he4] at ha; rw [he10] at hb; cases ha; cases hb
            intro hp
            rw [hr14.2 hp] at h15; cases h15
      · first | refine r_add rfl rfl (by simp only [inR] at *; omega) ?_ | refine r_addS rfl rfl (by omega) ?_
        try simp only [List.cons_append, List.nil_append, List.flatten_cons, List.flatten_nil, List.append_nil]
        refine r_again ⟨_, by omega, _, rfl, by omega, by omega, fun j' a b hlt hne ha hb => ?_, rfl⟩
        by_cases hjj : (j' : Int) < j
        · exact hj j' a b hjj hne ha hb
        · exact absurd (by omega) hne
    · first | refine r_add rfl rfl (by simp only [inR] at *; omega) ?_ | refine r_addS rfl rfl (by omega) ?_
      try simp only [List.cons_append, List.nil_append, List.flatten_cons, List.flatten_nil, List.append_nil]
      refine r_again' (by decide) (r_again ⟨_, by omega, _, rfl, by omega, by omega, fun i' j' a b hlt hne ha hb => ?_, rfl⟩)
      by_cases hii : (i' : Int) < i
      · exact hd i' j' a b hii hne ha hb
      · have : i' = i.toNat := by omega
        subst this
        have hjl : j' < l.length := (List.getElem?_eq_some_iff.1 hb).1
        exact hj j' a b (by omega) hne ha hb
  · refine r_ret rfl ?_
    exact ⟨_, rfl, iffT (fun i' j' a b hne ha hb => hd i' j' a b (by have := (List.getElem?_eq_some_iff.1 ha).1; omega) hne ha hb)⟩

/-- laws.FnExactAreDisjoint -/
theorem w2 {l : List (List Stp)} (hl : pthsOk l) : ∃ rs, Big tab (.fn 2 [[pths l]] rs) ∧ rs = [[.bool true]] := by
  refine tr_sound rfl c2 rfl ?_
  show wp _ _ _ _ [pths l]
  refine r_callQ (w18 hl (by omega) (by omega)) rfl ?_
  rintro _ ⟨r0, rfl, hr0⟩
  refine ⟨rfl, ?_⟩
  try simp only [List.cons_append, List.nil_append, List.flatten_cons, List.flatten_nil, List.append_nil]
  refine r_lss rfl rfl ?_
  simp only [List.cons_append, List.nil_append, List.flatten_cons, List.flatten_nil, List.append_nil]
  try simp only [List.cons_append, List.nil_append, List.flatten_cons, List.flatten_nil, List.append_nil]
  first | refine r_iteP rfl (fun h2 => ?_) (fun h2 => ?_) | refine r_iteNP rfl (fun h2 => ?_) (fun h2 => ?_) | refine r_iteN rfl (fun h2 => ?_) (fun h2 => ?_) | refine r_ite rfl (fun h2 => ?_) (fun h2 => ?_)
  · refine r_ret rfl ?_
    rfl
  · have hz : l.length ≤ 1099511627776 := by rcases hr0 with h | h <;> omega
    have hz2 : ∀ p ∈ l, p.length ≤ 1099511627776 := fun p hp => by
      rcases hr0 with h | ⟨_, _, h⟩
      · omega
      · have := h p hp; omega
    refine r_callQ (w20 hl hz hz2) rfl ?_
    rintro _ rfl
    refine ⟨rfl, ?_⟩
    try simp only [List.cons_append, List.nil_append, List.flatten_cons, List.flatten_nil, List.append_nil]
    refine r_callQ (w19 (by first | assumption | omega | (simp only [inR] at *; omega))) rfl ?_
    rintro _ ⟨r5, rfl, hr5⟩
    refine ⟨rfl, ?_⟩
    try simp only [List.cons_append, List.nil_append, List.flatten_cons, List.flatten_nil, List.append_nil]
    refine r_callQ (w20 hl hz hz2) rfl ?_
    rintro _ rfl
    refine ⟨rfl, ?_⟩
    try simp only [List.cons_append, List.nil_append, List.flatten_cons, List.flatten_nil, List.append_nil]
    refine r_callQ (w21 (by first | assumption | omega | (simp only [inR] at *; omega))) rfl ?_
    rintro _ ⟨r7, rfl, hr7⟩
    refine ⟨rfl, ?_⟩
    try simp only [List.cons_append, List.nil_append, List.flatten_cons, List.flatten_nil, List.append_nil]
    obtain rfl : r7 = r5 := by rw [Bool.eq_iff_iff, hr7, hr5]
    refine r_eqB rfl rfl ?_
    simp only [List.cons_append, List.nil_append, List.flatten_cons, List.flatten_nil, List.append_nil]
    try simp only [List.cons_append, List.nil_append, List.flatten_cons, List.flatten_nil, List.append_nil]
    first | refine r_iteP rfl (fun h9 => ?_) (fun h9 => ?_) | refine r_iteNP rfl (fun h9 => ?_) (fun h9 => ?_) | refine r_iteN rfl (fun h9 => ?_) (fun h9 => ?_) | refine r_ite rfl (fun h9 => ?_) (fun h9 => ?_)
    · refine r_ret rfl ?_
      simp at h9
    · refine r_callQ (w20 hl hz hz2) rfl ?_
      rintro _ rfl
      refine ⟨rfl, ?_⟩
      try simp only [List.cons_append, List.nil_append, List.flatten_cons, List.flatten_nil, List.append_nil]
      refine r_callQ (w22 hl hl) rfl ?_
      rintro _ ⟨r12, rfl, hr12⟩
      refine ⟨rfl, ?_⟩
      try simp only [List.cons_append, List.nil_append, List.flatten_cons, List.flatten_nil, List.append_nil]
      refine r_not rfl ?_
      simp only [List.cons_append, List.nil_append, List.flatten_cons, List.flatten_nil, List.append_nil]
      try simp only [List.cons_append, List.nil_append, List.flatten_cons, List.flatten_nil, List.append_nil]
      first | refine r_iteP rfl (fun h14 => ?_) (fun h14 => ?_) | refine r_iteNP rfl (fun h14 => ?_) (fun h14 => ?_) | refine r_iteN rfl (fun h14 => ?_) (fun h14 => ?_) | refine r_ite rfl (fun h14 => ?_) (fun h14 => ?_)
      · refine r_ret rfl ?_
        rw [hr12.2 rfl] at h14; cases h14
      · refine r_ret rfl ?_
        rfl

end Go.Proofs.Ytdgmelniiclbnaa
