/- Walks: Overlap -/
import Derived.Test.YtdgmelniiclbnaaStepSS
set_option linter.unusedVariables false
set_option linter.unusedSimpArgs false
namespace Go.Proofs.Ytdgmelniiclbnaa
open Go

def IsOv (l l' : List (List Stp)) : Prop := ∃ (i j : Nat) (a b : List Stp), l[i]? = some a ∧ l'[j]? = some b ∧ (IsPre a b ∨ IsPre b a)

/-- spec.Overlap -/
theorem w23 {l l' : List (List Stp)} (hl : pthsOk l) (hl' : pthsOk l') : ∃ rs, Big tab (.fn 23 [[pths l], [pths l']] rs) ∧ ∃ b, rs = [[.bool b]] ∧ (b = true ↔ IsOv l l') := by
  have hm : maxLen = 9223372036854775807 := rfl
  obtain ⟨hl1, hl2⟩ := hl
  obtain ⟨hl1', hl2'⟩ := hl'
  have hlen : (l.map fun p => [stps p]).length = l.length := List.length_map ..
  have hlen' : (l'.map fun p => [stps p]).length = l'.length := List.length_map ..
  refine tr_sound rfl c23 rfl ?_
  show wp _ _ _ _ [pths l, pths l']
  refine r_loop (fun m vs => ∃ i : Int, vs = [I i] ∧ 0 ≤ i ∧ i ≤ l.length ∧ (∀ (i' j : Nat) a b, (i' : Int) < i → l[i']? = some a → l'[j]? = some b → ¬ (IsPre a b ∨ IsPre b a)) ∧ m = (l.length - i).toNat) _ ⟨_, rfl, by omega, by omega, fun i' j a b hj => by omega, rfl⟩ ?_
  rintro m _ ⟨i, rfl, hi0, hi1, hd, rfl⟩
  try simp only [List.cons_append, List.nil_append, List.flatten_cons, List.flatten_nil, List.append_nil]
  refine r_len rfl ?_
  simp only [List.cons_append, List.nil_append, List.flatten_cons, List.flatten_nil, List.append_nil]
  try simp only [List.cons_append, List.nil_append, List.flatten_cons, List.flatten_nil, List.append_nil]
  refine r_lss rfl rfl ?_
  simp only [List.cons_append, List.nil_append, List.flatten_cons, List.flatten_nil, List.append_nil]
  try simp only [List.cons_append, List.nil_append, List.flatten_cons, List.flatten_nil, List.append_nil]
  first | refine r_iteP rfl (fun h3 => ?_) (fun h3 => ?_) | refine r_iteNP rfl (fun h3 => ?_) (fun h3 => ?_) | refine r_iteN rfl (fun h3 => ?_) (fun h3 => ?_) | refine r_ite rfl (fun h3 => ?_) (fun h3 => ?_)
  · refine r_loop (fun m vs => ∃ j : Int, vs = [I j] ∧ 0 ≤ j ∧ j ≤ l'.length ∧ (∀ (j' : Nat) a b, (j' : Int) < j → l[i.toNat]? = some a → l'[j']? = some b → ¬ (IsPre a b ∨ IsPre b a)) ∧ m = (l'.length - j).toNat) _ ⟨_, rfl, by omega, by omega, fun j a b hj => by omega, rfl⟩ ?_
    rintro m _ ⟨j, rfl, hj0, hj1, hj, rfl⟩
    try simp only [List.cons_append, List.nil_append, List.flatten_cons, List.flatten_nil, List.append_nil]
    refine r_len rfl ?_
    simp only [List.cons_append, List.nil_append, List.flatten_cons, List.flatten_nil, List.append_nil]
    try simp only [List.cons_append, List.nil_append, List.flatten_cons, List.flatten_nil, List.append_nil]
    refine r_lss rfl rfl ?_
    simp only [List.cons_append, List.nil_append, List.flatten_cons, List.flatten_nil, List.append_nil]
    try simp only [List.cons_append, List.nil_append, List.flatten_cons, List.flatten_nil, List.append_nil]
    first | refine r_iteP rfl (fun h7 => ?_) (fun h7 => ?_) | refine r_iteNP rfl (fun h7 => ?_) (fun h7 => ?_) | refine r_iteN rfl (fun h7 => ?_) (fun h7 => ?_) | refine r_ite rfl (fun h7 => ?_) (fun h7 => ?_)
    · refine r_inbT rfl rfl (by omega) (by omega) (fun e8 he8 hr8 => ?_)
      simp only [List.cons_append, List.nil_append, List.flatten_cons, List.flatten_nil, List.append_nil]
      try simp only [List.cons_append, List.nil_append, List.flatten_cons, List.flatten_nil, List.append_nil]
      refine r_get1 rfl rfl hr8 rfl rfl ?_
      simp only [List.cons_append, List.nil_append, List.flatten_cons, List.flatten_nil, List.append_nil]
      try simp only [List.cons_append, List.nil_append, List.flatten_cons, List.flatten_nil, List.append_nil]
      refine r_inbT rfl rfl (by omega) (by omega) (fun e10 he10 hr10 => ?_)
      simp only [List.cons_append, List.nil_append, List.flatten_cons, List.flatten_nil, List.append_nil]
      try simp only [List.cons_append, List.nil_append, List.flatten_cons, List.flatten_nil, List.append_nil]
      refine r_get1 rfl rfl hr10 rfl rfl ?_
      simp only [List.cons_append, List.nil_append, List.flatten_cons, List.flatten_nil, List.append_nil]
      try simp only [List.cons_append, List.nil_append, List.flatten_cons, List.flatten_nil, List.append_nil]
      refine r_callQ (w12 (hl2 e8 (List.mem_of_getElem? he8)) (hl2' e10 (List.mem_of_getElem? he10))) rfl ?_
      rintro _ ⟨r12, rfl, hr12⟩
      refine ⟨rfl, ?_⟩
      try simp only [List.cons_append, List.nil_append, List.flatten_cons, List.flatten_nil, List.append_nil]
      first | refine r_iteP rfl (fun h13 => ?_) (fun h13 => ?_) | refine r_iteNP rfl (fun h13 => ?_) (fun h13 => ?_) | refine r_iteN rfl (fun h13 => ?_) (fun h13 => ?_) | refine r_ite rfl (fun h13 => ?_) (fun h13 => ?_)
      · refine r_ret rfl ?_
        exact ⟨_, rfl, iffT ⟨_, _, _, _, he8, he10, Or.inl (hr12.1 h13)⟩⟩
      · refine r_inbT rfl rfl (by omega) (by omega) (fun e15 he15 hr15 => ?_)
        simp only [List.cons_append, List.nil_append, List.flatten_cons, List.flatten_nil, List.append_nil]
        try simp only [List.cons_append, List.nil_append, List.flatten_cons, List.flatten_nil, List.append_nil]
        obtain rfl : e10 = e15 := Option.some.inj (he10.symm.trans he15)
        refine r_get1 rfl rfl hr15 rfl rfl ?_
        simp only [List.cons_append, List.nil_append, List.flatten_cons, List.flatten_nil, List.append_nil]
        try simp only [List.cons_append, List.nil_append, List.flatten_cons, List.flatten_nil, List.append_nil]
        refine r_inbT rfl rfl (by omega) (by omega) (fun e17 he17 hr17 => ?_)
        simp only [List.cons_append, List.nil_append, List.flatten_cons, List.flatten_nil, List.append_nil]
        try simp only [List.cons_append, List.nil_append, List.flatten_cons, List.flatten_nil, List.append_nil]
        obtain rfl : e8 = e17 := Option.some.inj (he8.symm.trans he17)
        refine r_get1 rfl rfl hr17 rfl rfl ?_
        simp only [List.cons_append, List.nil_append, List.flatten_cons, List.flatten_nil, List.append_nil]
        try simp only [List.cons_append, List.nil_append, List.flatten_cons, List.flatten_nil, List.append_nil]
        refine r_callQ (w12 (hl2' e10 (List.mem_of_getElem? he10)) (hl2 e8 (List.mem_of_getElem? he8))) rfl ?_
        rintro _ ⟨r19, rfl, hr19⟩
        refine ⟨rfl, ?_⟩
        try simp only [List.cons_append, List.nil_append, List.flatten_cons, List.flatten_nil, List.append_nil]
        first | refine r_iteP rfl (fun h20 => ?_) (fun h20 => ?_) | refine r_iteNP rfl (fun h20 => ?_) (fun h20 => ?_) | refine r_iteN rfl (fun h20 => ?_) (fun h20 => ?_) | refine r_ite rfl (fun h20 => ?_) (fun h20 => ?_)
        · refine r_ret rfl ?_
          exact ⟨_, rfl, iffT ⟨_, _, _, _, he8, he10, Or.inr (hr19.1 h20)⟩⟩
        · first | refine r_add rfl rfl (by simp only [inR] at *; omega) ?_ | refine r_addS rfl rfl (by omega) ?_
          try simp only [List.cons_append, List.nil_append, List.flatten_cons, List.flatten_nil, List.append_nil]
          refine r_again ⟨_, by omega, _, rfl, by omega, by omega, fun j' a b hlt ha hb => ?_, rfl⟩
          by_cases hjj : (j' : Int) < j
          · exact hj j' a b hjj ha hb
          · have : j' = j.toNat := by omega
            subst this
            rw [he8] at ha; rw [he10] at hb; cases ha; cases hb
            rintro (hp | hp)
            · rw [hr12.2 hp] at h13; cases h13
            · rw [hr19.2 hp] at h20; cases h20
    · first | refine r_add rfl rfl (by simp only [inR] at *; omega) ?_ | refine r_addS rfl rfl (by omega) ?_
      try simp only [List.cons_append, List.nil_append, List.flatten_cons, List.flatten_nil, List.append_nil]
      refine r_again' (by decide) (r_again ⟨_, by omega, _, rfl, by omega, by omega, fun i' j' a b hlt ha hb => ?_, rfl⟩)
      by_cases hii : (i' : Int) < i
      · exact hd i' j' a b hii ha hb
      · have : i' = i.toNat := by omega
        subst this
        have hjl : j' < l'.length := (List.getElem?_eq_some_iff.1 hb).1
        exact hj j' a b (by omega) ha hb
  · refine r_ret rfl ?_
    exact ⟨_, rfl, iffF (fun ⟨i', j', a, b, ha, hb, hp⟩ => hd i' j' a b (by have := (List.getElem?_eq_some_iff.1 ha).1; omega) ha hb hp)⟩

/-- impl.Overlap -/
theorem w24 {l l' : List (List Stp)} (hl : pthsOk l) (hl' : pthsOk l') : ∃ rs, Big tab (.fn 24 [[pths l], [pths l']] rs) ∧ ∃ b, rs = [[.bool b]] ∧ (b = true ↔ IsOv l l') := by
  have hm : maxLen = 9223372036854775807 := rfl
  obtain ⟨hl1, hl2⟩ := hl
  obtain ⟨hl1', hl2'⟩ := hl'
  have hlen : (l.map fun p => [stps p]).length = l.length := List.length_map ..
  have hlen' : (l'.map fun p => [stps p]).length = l'.length := List.length_map ..
  refine tr_sound rfl c24 rfl ?_
  show wp _ _ _ _ [pths l, pths l']
  refine r_len rfl ?_
  simp only [List.cons_append, List.nil_append, List.flatten_cons, List.flatten_nil, List.append_nil]
  try simp only [List.cons_append, List.nil_append, List.flatten_cons, List.flatten_nil, List.append_nil]
  refine r_loop (fun m vs => ∃ i : Int, vs = [I i] ∧ 0 ≤ i ∧ i ≤ l.length ∧ (∀ (i' j : Nat) a b, (i' : Int) < i → l[i']? = some a → l'[j]? = some b → ¬ (IsPre a b ∨ IsPre b a)) ∧ m = (l.length - i).toNat) _ ⟨_, rfl, by omega, by omega, fun i' j a b hj => by omega, rfl⟩ ?_
  rintro m _ ⟨i, rfl, hi0, hi1, hd, rfl⟩
  try simp only [List.cons_append, List.nil_append, List.flatten_cons, List.flatten_nil, List.append_nil]
  refine r_lss rfl rfl ?_
  simp only [List.cons_append, List.nil_append, List.flatten_cons, List.flatten_nil, List.append_nil]
  try simp only [List.cons_append, List.nil_append, List.flatten_cons, List.flatten_nil, List.append_nil]
  first | refine r_iteP rfl (fun h3 => ?_) (fun h3 => ?_) | refine r_iteNP rfl (fun h3 => ?_) (fun h3 => ?_) | refine r_iteN rfl (fun h3 => ?_) (fun h3 => ?_) | refine r_ite rfl (fun h3 => ?_) (fun h3 => ?_)
  · refine r_inbT rfl rfl (by omega) (by omega) (fun e4 he4 hr4 => ?_)
    simp only [List.cons_append, List.nil_append, List.flatten_cons, List.flatten_nil, List.append_nil]
    try simp only [List.cons_append, List.nil_append, List.flatten_cons, List.flatten_nil, List.append_nil]
    refine r_get1 rfl rfl hr4 rfl rfl ?_
    simp only [List.cons_append, List.nil_append, List.flatten_cons, List.flatten_nil, List.append_nil]
    try simp only [List.cons_append, List.nil_append, List.flatten_cons, List.flatten_nil, List.append_nil]
    refine r_len rfl ?_
    simp only [List.cons_append, List.nil_append, List.flatten_cons, List.flatten_nil, List.append_nil]
    try simp only [List.cons_append, List.nil_append, List.flatten_cons, List.flatten_nil, List.append_nil]
    refine r_loop (fun m vs => ∃ j : Int, vs = [I j] ∧ 0 ≤ j ∧ j ≤ l'.length ∧ (∀ (j' : Nat) a b, (j' : Int) < j → l[i.toNat]? = some a → l'[j']? = some b → ¬ (IsPre a b ∨ IsPre b a)) ∧ m = (l'.length - j).toNat) _ ⟨_, rfl, by omega, by omega, fun j a b hj => by omega, rfl⟩ ?_
    rintro m _ ⟨j, rfl, hj0, hj1, hj, rfl⟩
    try simp only [List.cons_append, List.nil_append, List.flatten_cons, List.flatten_nil, List.append_nil]
    refine r_lss rfl rfl ?_
    simp only [List.cons_append, List.nil_append, List.flatten_cons, List.flatten_nil, List.append_nil]
    try simp only [List.cons_append, List.nil_append, List.flatten_cons, List.flatten_nil, List.append_nil]
    first | refine r_iteP rfl (fun h9 => ?_) (fun h9 => ?_) | refine r_iteNP rfl (fun h9 => ?_) (fun h9 => ?_) | refine r_iteN rfl (fun h9 => ?_) (fun h9 => ?_) | refine r_ite rfl (fun h9 => ?_) (fun h9 => ?_)
    · refine r_inbT rfl rfl (by omega) (by omega) (fun e10 he10 hr10 => ?_)
      simp only [List.cons_append, List.nil_append, List.flatten_cons, List.flatten_nil, List.append_nil]
      try simp only [List.cons_append, List.nil_append, List.flatten_cons, List.flatten_nil, List.append_nil]
      refine r_get1 rfl rfl hr10 rfl rfl ?_
      simp only [List.cons_append, List.nil_append, List.flatten_cons, List.flatten_nil, List.append_nil]
      try simp only [List.cons_append, List.nil_append, List.flatten_cons, List.flatten_nil, List.append_nil]
      refine r_callQ (w14 (hl2 e4 (List.mem_of_getElem? he4)) (hl2' e10 (List.mem_of_getElem? he10))) rfl ?_
      rintro _ ⟨r12, rfl, hr12⟩
      refine ⟨rfl, ?_⟩
      try simp only [List.cons_append, List.nil_append, List.flatten_cons, List.flatten_nil, List.append_nil]
      first | refine r_iteP rfl (fun h13 => ?_) (fun h13 => ?_) | refine r_iteNP rfl (fun h13 => ?_) (fun h13 => ?_) | refine r_iteN rfl (fun h13 => ?_) (fun h13 => ?_) | refine r_ite rfl (fun h13 => ?_) (fun h13 => ?_)
      · refine r_ret rfl ?_
        exact ⟨_, rfl, iffT ⟨_, _, _, _, he4, he10, Or.inl (hr12.1 h13)⟩⟩
      · refine r_callQ (w14 (hl2' e10 (List.mem_of_getElem? he10)) (hl2 e4 (List.mem_of_getElem? he4))) rfl ?_
        rintro _ ⟨r15, rfl, hr15⟩
        refine ⟨rfl, ?_⟩
        try simp only [List.cons_append, List.nil_append, List.flatten_cons, List.flatten_nil, List.append_nil]
        first | refine r_iteP rfl (fun h16 => ?_) (fun h16 => ?_) | refine r_iteNP rfl (fun h16 => ?_) (fun h16 => ?_) | refine r_iteN rfl (fun h16 => ?_) (fun h16 => ?_) | refine r_ite rfl (fun h16 => ?_) (fun h16 => ?_)
        · refine r_ret rfl ?_
          exact ⟨_, rfl, iffT ⟨_, _, _, _, he4, he10, Or.inr (hr15.1 h16)⟩⟩
        · first | refine r_add rfl rfl (by simp only [inR] at *; omega) ?_ | refine r_addS rfl rfl (by omega) ?_
          try simp only [List.cons_append, List.nil_append, List.flatten_cons, List.flatten_nil, List.append_nil]
          refine r_again ⟨_, by omega, _, rfl, by omega, by omega, fun j' a b hlt ha hb => ?_, rfl⟩
          by_cases hjj : (j' : Int) < j
          · exact hj j' a b hjj ha hb
          · have : j' = j.toNat := by omega
            subst this
            rw [he4] at ha; rw [he10] at hb; cases ha; cases hb
            rintro (hp | hp)
            · rw [hr12.2 hp] at h13; cases h13
            · rw [hr15.2 hp] at h16; cases h16
    · first | refine r_add rfl rfl (by simp only [inR] at *; omega) ?_ | refine r_addS rfl rfl (by omega) ?_
      try simp only [List.cons_append, List.nil_append, List.flatten_cons, List.flatten_nil, List.append_nil]
      refine r_again' (by decide) (r_again ⟨_, by omega, _, rfl, by omega, by omega, fun i' j' a b hlt ha hb => ?_, rfl⟩)
      by_cases hii : (i' : Int) < i
      · exact hd i' j' a b hii ha hb
      · have : i' = i.toNat := by omega
        subst this
        have hjl : j' < l'.length := (List.getElem?_eq_some_iff.1 hb).1
        exact hj j' a b (by omega) ha hb
  · refine r_ret rfl ?_
    exact ⟨_, rfl, iffF (fun ⟨i', j', a, b, ha, hb, hp⟩ => hd i' j' a b (by have := (List.getElem?_eq_some_iff.1 ha).1; omega) ha hb hp)⟩

/-- laws.FnExactOverlap -/
theorem w3 {l l' : List (List Stp)} (hl : pthsOk l) (hl' : pthsOk l') : ∃ rs, Big tab (.fn 3 [[pths l], [pths l']] rs) ∧ rs = [[.bool true]] := by
  refine tr_sound rfl c3 rfl ?_
  show wp _ _ _ _ [pths l, pths l']
  refine r_callQ (w18 hl (by omega) (by omega)) rfl ?_
  rintro _ ⟨r0, rfl, hr0⟩
  refine ⟨rfl, ?_⟩
  try simp only [List.cons_append, List.nil_append, List.flatten_cons, List.flatten_nil, List.append_nil]
  refine r_lss rfl rfl ?_
  simp only [List.cons_append, List.nil_append, List.flatten_cons, List.flatten_nil, List.append_nil]
  try simp only [List.cons_append, List.nil_append, List.flatten_cons, List.flatten_nil, List.append_nil]
  first | refine r_iteP rfl (fun h2 => ?_) (fun h2 => ?_) | refine r_iteNP rfl (fun h2 => ?_) (fun h2 => ?_) | refine r_iteN rfl (fun h2 => ?_) (fun h2 => ?_) | refine r_ite rfl (fun h2 => ?_) (fun h2 => ?_)
  · refine r_ret rfl ?_
    rfl
  · refine r_callQ (w18 hl' (by omega) (by omega)) rfl ?_
    rintro _ ⟨r4, rfl, hr4⟩
    refine ⟨rfl, ?_⟩
    try simp only [List.cons_append, List.nil_append, List.flatten_cons, List.flatten_nil, List.append_nil]
    refine r_lss rfl rfl ?_
    simp only [List.cons_append, List.nil_append, List.flatten_cons, List.flatten_nil, List.append_nil]
    try simp only [List.cons_append, List.nil_append, List.flatten_cons, List.flatten_nil, List.append_nil]
    first | refine r_iteP rfl (fun h6 => ?_) (fun h6 => ?_) | refine r_iteNP rfl (fun h6 => ?_) (fun h6 => ?_) | refine r_iteN rfl (fun h6 => ?_) (fun h6 => ?_) | refine r_ite rfl (fun h6 => ?_) (fun h6 => ?_)
    · refine r_ret rfl ?_
      rfl
    · have hz : l.length ≤ 1099511627776 := by rcases hr0 with h | h <;> omega
      have hz2 : ∀ p ∈ l, p.length ≤ 1099511627776 := fun p hp => by
        rcases hr0 with h | ⟨_, _, h⟩
        · omega
        · have := h p hp; omega
      have hz' : l'.length ≤ 1099511627776 := by rcases hr4 with h | h <;> omega
      have hz2' : ∀ p ∈ l', p.length ≤ 1099511627776 := fun p hp => by
        rcases hr4 with h | ⟨_, _, h⟩
        · omega
        · have := h p hp; omega
      refine r_callQ (w20 hl hz hz2) rfl ?_
      rintro _ rfl
      refine ⟨rfl, ?_⟩
      try simp only [List.cons_append, List.nil_append, List.flatten_cons, List.flatten_nil, List.append_nil]
      refine r_callQ (w20 hl' hz' hz2') rfl ?_
      rintro _ rfl
      refine ⟨rfl, ?_⟩
      try simp only [List.cons_append, List.nil_append, List.flatten_cons, List.flatten_nil, List.append_nil]
      refine r_callQ (w23 (by first | assumption | omega | (simp only [inR] at *; omega)) (by first | assumption | omega | (simp only [inR] at *; omega))) rfl ?_
      rintro _ ⟨r10, rfl, hr10⟩
      refine ⟨rfl, ?_⟩
      try simp only [List.cons_append, List.nil_append, List.flatten_cons, List.flatten_nil, List.append_nil]
      refine r_callQ (w20 hl hz hz2) rfl ?_
      rintro _ rfl
      refine ⟨rfl, ?_⟩
      try simp only [List.cons_append, List.nil_append, List.flatten_cons, List.flatten_nil, List.append_nil]
      refine r_callQ (w20 hl' hz' hz2') rfl ?_
      rintro _ rfl
      refine ⟨rfl, ?_⟩
      try simp only [List.cons_append, List.nil_append, List.flatten_cons, List.flatten_nil, List.append_nil]
      refine r_callQ (w24 (by first | assumption | omega | (simp only [inR] at *; omega)) (by first | assumption | omega | (simp only [inR] at *; omega))) rfl ?_
      rintro _ ⟨r13, rfl, hr13⟩
      refine ⟨rfl, ?_⟩
      try simp only [List.cons_append, List.nil_append, List.flatten_cons, List.flatten_nil, List.append_nil]
      obtain rfl : r13 = r10 := by rw [Bool.eq_iff_iff, hr13, hr10]
      refine r_eqB rfl rfl ?_
      simp only [List.cons_append, List.nil_append, List.flatten_cons, List.flatten_nil, List.append_nil]
      try simp only [List.cons_append, List.nil_append, List.flatten_cons, List.flatten_nil, List.append_nil]
      first | refine r_iteP rfl (fun h15 => ?_) (fun h15 => ?_) | refine r_iteNP rfl (fun h15 => ?_) (fun h15 => ?_) | refine r_iteN rfl (fun h15 => ?_) (fun h15 => ?_) | refine r_ite rfl (fun h15 => ?_) (fun h15 => ?_)
      · refine r_ret rfl ?_
        simp at h15
      · refine r_callQ (w20 hl hz hz2) rfl ?_
        rintro _ rfl
        refine ⟨rfl, ?_⟩
        try simp only [List.cons_append, List.nil_append, List.flatten_cons, List.flatten_nil, List.append_nil]
        refine r_callQ (w22 hl hl) rfl ?_
        rintro _ ⟨r18, rfl, hr18⟩
        refine ⟨rfl, ?_⟩
        try simp only [List.cons_append, List.nil_append, List.flatten_cons, List.flatten_nil, List.append_nil]
        refine r_not rfl ?_
        simp only [List.cons_append, List.nil_append, List.flatten_cons, List.flatten_nil, List.append_nil]
        try simp only [List.cons_append, List.nil_append, List.flatten_cons, List.flatten_nil, List.append_nil]
        first | refine r_iteP rfl (fun h20 => ?_) (fun h20 => ?_) | refine r_iteNP rfl (fun h20 => ?_) (fun h20 => ?_) | refine r_iteN rfl (fun h20 => ?_) (fun h20 => ?_) | refine r_ite rfl (fun h20 => ?_) (fun h20 => ?_)
        · refine r_ret rfl ?_
          rw [hr18.2 rfl] at h20; cases h20
        · refine r_callQ (w20 hl' hz' hz2') rfl ?_
          rintro _ rfl
          refine ⟨rfl, ?_⟩
          try simp only [List.cons_append, List.nil_append, List.flatten_cons, List.flatten_nil, List.append_nil]
          refine r_callQ (w22 hl' hl') rfl ?_
          rintro _ ⟨r23, rfl, hr23⟩
          refine ⟨rfl, ?_⟩
          try simp only [List.cons_append, List.nil_append, List.flatten_cons, List.flatten_nil, List.append_nil]
          refine r_not rfl ?_
          simp only [List.cons_append, List.nil_append, List.flatten_cons, List.flatten_nil, List.append_nil]
          try simp only [List.cons_append, List.nil_append, List.flatten_cons, List.flatten_nil, List.append_nil]
          first | refine r_iteP rfl (fun h25 => ?_) (fun h25 => ?_) | refine r_iteNP rfl (fun h25 => ?_) (fun h25 => ?_) | refine r_iteN rfl (fun h25 => ?_) (fun h25 => ?_) | refine r_ite rfl (fun h25 => ?_) (fun h25 => ?_)
          · refine r_ret rfl ?_
            rw [hr23.2 rfl] at h25; cases h25
          · refine r_ret rfl ?_
            rfl

end Go.Proofs.Ytdgmelniiclbnaa
