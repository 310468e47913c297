/- Walks: PathText -/
import Derived.Test.YtkiliooegoldoaaPaths
import Derived.Test.YtkiliooegoldoaaFmt
set_option linter.unusedVariables false
set_option linter.unusedSimpArgs false
namespace Go.Proofs.Ytkiliooegoldoaa
open Go

/-! ### A path's text -/
def stText (x : Stp) : ByteArray := if x.k = 1 then bs [46] ++ x.s else if x.k = 2 then bs [63] ++ x.s else bs [35] ++ fmt x.n
def pText (l : List Stp) : ByteArray := l.foldl (fun o x => o ++ stText x) (bs [])
theorem pText_snoc {l : List Stp} {i : Int} {x : Stp} (h0 : 0 ≤ i) (h : l[i.toNat]? = some x) : pText (l.take (i + 1).toNat) = pText (l.take i.toNat) ++ stText x := by
  have : (i + 1).toNat = i.toNat + 1 := by omega
  rw [this, List.take_add_one, h]
  simp [pText, List.foldl_append]
theorem ba_assoc (a b c : ByteArray) : a ++ b ++ c = a ++ (b ++ c) := by
  apply Go.WideShapes.bytes_inj
  simp [ByteArray.data_append, Array.append_assoc]
theorem st_size {x : Stp} (h : stpOk x) (hn : inR x.n) : (stText x).size ≤ 30 := by
  have h1 := fmt_size hn
  unfold stText
  rcases h with ⟨hk, hs, _⟩ | ⟨hk, _⟩
  · have := hs.2.1
    split
    · rw [ByteArray.size_append, bs_size]; simp; omega
    · split
      · rw [ByteArray.size_append, bs_size]; simp; omega
      · rw [ByteArray.size_append, bs_size]; simp; omega
  · rw [if_neg (by omega), if_neg (by omega), ByteArray.size_append, bs_size]; simp; omega
theorem p_size' : ∀ {l : List Stp} {o : ByteArray}, (∀ x ∈ l, stpOk x ∧ inR x.n) → (l.foldl (fun o x => o ++ stText x) o).size ≤ o.size + 30 * l.length := by
  intro l
  induction l with
  | nil => intro o _; simp
  | cons x l ih =>
    intro o h
    have h1 := ih (o := o ++ stText x) fun y hy => h y (by simp [hy])
    have h2 := st_size (h x (by simp)).1 (h x (by simp)).2
    rw [ByteArray.size_append] at h1
    simp only [List.foldl_cons, List.length_cons]
    omega
theorem p_size {l : List Stp} (h : ∀ x ∈ l, stpOk x ∧ inR x.n) : (pText l).size ≤ 30 * l.length := by
  have := p_size' (o := bs []) h
  rw [bs_size] at this
  simpa [pText] using this
noncomputable def pathText (l : List Stp) : ByteArray := open Classical in if IsPth l then pText l else bs []

/-- spec.PathText -/
theorem w39 {l : List Stp} (hl : stpsOk l) : ∃ rs, Big tab (.fn 39 [[stps l]] rs) ∧ rs = [[.str (pathText l)]] := by
  have hm : maxLen = 9223372036854775807 := rfl
  have hl0 := hl
  obtain ⟨hl1, hl2⟩ := hl
  have hlen : (l.map Stp.row).length = l.length := List.length_map ..
  refine tr_sound rfl c39 rfl ?_
  show wp _ _ _ _ [stps l]
  refine r_callQ (w16 hl0) rfl ?_
  rintro _ ⟨r0, rfl, hr0⟩
  refine ⟨rfl, ?_⟩
  try simp only [List.cons_append, List.nil_append, List.flatten_cons, List.flatten_nil, List.append_nil]
  refine r_not rfl ?_
  try simp only [List.cons_append, List.nil_append, List.flatten_cons, List.flatten_nil, List.append_nil]
  first | refine r_iteP rfl (fun h2 => ?_) (fun h2 => ?_) | refine r_iteNP rfl (fun h2 => ?_) (fun h2 => ?_) | refine r_iteN rfl (fun h2 => ?_) (fun h2 => ?_) | refine r_ite rfl (fun h2 => ?_) (fun h2 => ?_)
  · refine r_ret rfl ?_
    unfold pathText; rw [if_neg (fun h => by rw [hr0.2 h] at h2; cases h2)]; rfl
  · have hp := hr0.1 h2
    have hp1 := hp.1
    have hal : ∀ i : Nat, ∀ x ∈ l.take i, stpOk x ∧ inR x.n := fun i x hx => ⟨hp.2 x (List.mem_of_mem_take hx), (hl2 x (List.mem_of_mem_take hx)).2.2⟩
    refine r_loop (fun m vs => ∃ i : Int, vs = [.str (pText (l.take i.toNat)), I i] ∧ 0 ≤ i ∧ i ≤ l.length ∧ m = (l.length - i).toNat) _ ⟨0, rfl, by omega, by omega, rfl⟩ ?_
    rintro m _ ⟨i, rfl, hi0, hi1, rfl⟩
    have hsz := p_size (hal i.toNat)
    have hsl : (l.take i.toNat).length ≤ 12 := by simp; omega
    try simp only [List.cons_append, List.nil_append, List.flatten_cons, List.flatten_nil, List.append_nil]
    refine r_len rfl ?_
    try simp only [List.cons_append, List.nil_append, List.flatten_cons, List.flatten_nil, List.append_nil]
    first | refine r_lss rfl rfl ?_ | refine r_lssS rfl rfl ?_
    try simp only [List.cons_append, List.nil_append, List.flatten_cons, List.flatten_nil, List.append_nil]
    first | refine r_iteP rfl (fun h7 => ?_) (fun h7 => ?_) | refine r_iteNP rfl (fun h7 => ?_) (fun h7 => ?_) | refine r_iteN rfl (fun h7 => ?_) (fun h7 => ?_) | refine r_ite rfl (fun h7 => ?_) (fun h7 => ?_)
    · refine r_inbT rfl rfl (by omega) (by omega) (fun e8 he8 hr8 => ?_)
      try simp only [List.cons_append, List.nil_append, List.flatten_cons, List.flatten_nil, List.append_nil]
      have hm8 := List.mem_of_getElem? he8
      have hok8 := hp.2 e8 hm8
      have hin8 := (hl2 e8 hm8).2.2
      have hss8 := st_size hok8 hin8
      have hsn8 := pText_snoc hi0 he8
      refine r_get1 rfl rfl hr8 rfl rfl ?_
      try simp only [List.cons_append, List.nil_append, List.flatten_cons, List.flatten_nil, List.append_nil]
      first | refine r_eql rfl rfl ?_ | refine r_eqlS rfl rfl ?_
      try simp only [List.cons_append, List.nil_append, List.flatten_cons, List.flatten_nil, List.append_nil]
      first | refine r_iteP rfl (fun h11 => ?_) (fun h11 => ?_) | refine r_iteNP rfl (fun h11 => ?_) (fun h11 => ?_) | refine r_iteN rfl (fun h11 => ?_) (fun h11 => ?_) | refine r_ite rfl (fun h11 => ?_) (fun h11 => ?_)
      · refine r_addS (s := pText (l.take i.toNat)) (u := bs [46]) rfl rfl (by rw [bs_size]; simp; omega) ?_
        try simp only [List.cons_append, List.nil_append, List.flatten_cons, List.flatten_nil, List.append_nil]
        refine r_inb rfl rfl (by omega) (by omega) ?_
        try simp only [List.cons_append, List.nil_append, List.flatten_cons, List.flatten_nil, List.append_nil]
        refine r_get1 rfl rfl hr8 rfl rfl ?_
        try simp only [List.cons_append, List.nil_append, List.flatten_cons, List.flatten_nil, List.append_nil]
        have hst : stText e8 = bs [46] ++ e8.s := by unfold stText; rw [if_pos h11]
        rw [hst] at hsn8 hss8
        refine r_addS rfl rfl (by rw [ByteArray.size_append] at hss8 ⊢; omega) ?_
        try simp only [List.cons_append, List.nil_append, List.flatten_cons, List.flatten_nil, List.append_nil]
        first | refine r_add rfl rfl (by simp only [inR] at *; omega) ?_ | refine r_addS rfl rfl (by omega) ?_
        try simp only [List.cons_append, List.nil_append, List.flatten_cons, List.flatten_nil, List.append_nil]
        exact r_again ⟨_, by omega, i + 1, by rw [hsn8, ← ba_assoc]; rfl, by omega, by omega, rfl⟩
      · first | refine r_eql rfl rfl ?_ | refine r_eqlS rfl rfl ?_
        try simp only [List.cons_append, List.nil_append, List.flatten_cons, List.flatten_nil, List.append_nil]
        first | refine r_iteP rfl (fun h19 => ?_) (fun h19 => ?_) | refine r_iteNP rfl (fun h19 => ?_) (fun h19 => ?_) | refine r_iteN rfl (fun h19 => ?_) (fun h19 => ?_) | refine r_ite rfl (fun h19 => ?_) (fun h19 => ?_)
        · refine r_addS (s := pText (l.take i.toNat)) (u := bs [63]) rfl rfl (by rw [bs_size]; simp; omega) ?_
          try simp only [List.cons_append, List.nil_append, List.flatten_cons, List.flatten_nil, List.append_nil]
          refine r_inb rfl rfl (by omega) (by omega) ?_
          try simp only [List.cons_append, List.nil_append, List.flatten_cons, List.flatten_nil, List.append_nil]
          refine r_get1 rfl rfl hr8 rfl rfl ?_
          try simp only [List.cons_append, List.nil_append, List.flatten_cons, List.flatten_nil, List.append_nil]
          have hst : stText e8 = bs [63] ++ e8.s := by unfold stText; rw [if_neg h11, if_pos h19]
          rw [hst] at hsn8 hss8
          refine r_addS rfl rfl (by rw [ByteArray.size_append] at hss8 ⊢; omega) ?_
          try simp only [List.cons_append, List.nil_append, List.flatten_cons, List.flatten_nil, List.append_nil]
          first | refine r_add rfl rfl (by simp only [inR] at *; omega) ?_ | refine r_addS rfl rfl (by omega) ?_
          try simp only [List.cons_append, List.nil_append, List.flatten_cons, List.flatten_nil, List.append_nil]
          exact r_again ⟨_, by omega, i + 1, by rw [hsn8, ← ba_assoc]; rfl, by omega, by omega, rfl⟩
        · first | refine r_eql rfl rfl ?_ | refine r_eqlS rfl rfl ?_
          try simp only [List.cons_append, List.nil_append, List.flatten_cons, List.flatten_nil, List.append_nil]
          first | refine r_iteP rfl (fun h27 => ?_) (fun h27 => ?_) | refine r_iteNP rfl (fun h27 => ?_) (fun h27 => ?_) | refine r_iteN rfl (fun h27 => ?_) (fun h27 => ?_) | refine r_ite rfl (fun h27 => ?_) (fun h27 => ?_)
          · refine r_addS (s := pText (l.take i.toNat)) (u := bs [35]) rfl rfl (by rw [bs_size]; simp; omega) ?_
            try simp only [List.cons_append, List.nil_append, List.flatten_cons, List.flatten_nil, List.append_nil]
            refine r_inb rfl rfl (by omega) (by omega) ?_
            try simp only [List.cons_append, List.nil_append, List.flatten_cons, List.flatten_nil, List.append_nil]
            refine r_get1 rfl rfl hr8 rfl rfl ?_
            try simp only [List.cons_append, List.nil_append, List.flatten_cons, List.flatten_nil, List.append_nil]
            refine r_callQ (w69 hin8) rfl ?_
            rintro _ rfl
            refine ⟨rfl, ?_⟩
            try simp only [List.cons_append, List.nil_append, List.flatten_cons, List.flatten_nil, List.append_nil]
            have hst : stText e8 = bs [35] ++ fmt e8.n := by unfold stText; rw [if_neg h11, if_neg h19]
            rw [hst] at hsn8 hss8
            refine r_addS rfl rfl (by rw [ByteArray.size_append] at hss8 ⊢; omega) ?_
            try simp only [List.cons_append, List.nil_append, List.flatten_cons, List.flatten_nil, List.append_nil]
            first | refine r_add rfl rfl (by simp only [inR] at *; omega) ?_ | refine r_addS rfl rfl (by omega) ?_
            try simp only [List.cons_append, List.nil_append, List.flatten_cons, List.flatten_nil, List.append_nil]
            exact r_again ⟨_, by omega, i + 1, by rw [hsn8, ← ba_assoc]; rfl, by omega, by omega, rfl⟩
          · exact absurd hok8 (by simp only [stpOk]; omega)
    · have hil : l.take i.toNat = l := List.take_of_length_le (by omega)
      refine r_ret (vs := [[.str (pText (l.take i.toNat))]]) rfl ?_
      unfold pathText
      rw [hil, if_pos hp]

/-- impl.PathText -/
theorem w40 {l : List Stp} (hl : stpsOk l) : ∃ rs, Big tab (.fn 40 [[stps l]] rs) ∧ rs = [[.str (pathText l)]] := by
  have hm : maxLen = 9223372036854775807 := rfl
  have hl0 := hl
  obtain ⟨hl1, hl2⟩ := hl
  have hlen : (l.map Stp.row).length = l.length := List.length_map ..
  refine tr_sound rfl c40 rfl ?_
  show wp _ _ _ _ [stps l]
  refine r_callQ (w17 hl0) rfl ?_
  rintro _ ⟨r0, rfl, hr0⟩
  refine ⟨rfl, ?_⟩
  try simp only [List.cons_append, List.nil_append, List.flatten_cons, List.flatten_nil, List.append_nil]
  refine r_not rfl ?_
  try simp only [List.cons_append, List.nil_append, List.flatten_cons, List.flatten_nil, List.append_nil]
  first | refine r_iteP rfl (fun h2 => ?_) (fun h2 => ?_) | refine r_iteNP rfl (fun h2 => ?_) (fun h2 => ?_) | refine r_iteN rfl (fun h2 => ?_) (fun h2 => ?_) | refine r_ite rfl (fun h2 => ?_) (fun h2 => ?_)
  · refine r_ret rfl ?_
    unfold pathText; rw [if_neg (fun h => by rw [hr0.2 h] at h2; cases h2)]; rfl
  · have hp := hr0.1 h2
    have hp1 := hp.1
    have hal : ∀ i : Nat, ∀ x ∈ l.take i, stpOk x ∧ inR x.n := fun i x hx => ⟨hp.2 x (List.mem_of_mem_take hx), (hl2 x (List.mem_of_mem_take hx)).2.2⟩
    refine r_len rfl ?_
    try simp only [List.cons_append, List.nil_append, List.flatten_cons, List.flatten_nil, List.append_nil]
    refine r_loop (fun m vs => ∃ i : Int, vs = [.str (pText (l.take i.toNat)), I i] ∧ 0 ≤ i ∧ i ≤ l.length ∧ m = (l.length - i).toNat) _ ⟨0, rfl, by omega, by omega, rfl⟩ ?_
    rintro m _ ⟨i, rfl, hi0, hi1, rfl⟩
    have hsz := p_size (hal i.toNat)
    have hsl : (l.take i.toNat).length ≤ 12 := by simp; omega
    try simp only [List.cons_append, List.nil_append, List.flatten_cons, List.flatten_nil, List.append_nil]
    first | refine r_lss rfl rfl ?_ | refine r_lssS rfl rfl ?_
    try simp only [List.cons_append, List.nil_append, List.flatten_cons, List.flatten_nil, List.append_nil]
    first | refine r_iteP rfl (fun h7 => ?_) (fun h7 => ?_) | refine r_iteNP rfl (fun h7 => ?_) (fun h7 => ?_) | refine r_iteN rfl (fun h7 => ?_) (fun h7 => ?_) | refine r_ite rfl (fun h7 => ?_) (fun h7 => ?_)
    · refine r_inbT rfl rfl (by omega) (by omega) (fun e8 he8 hr8 => ?_)
      try simp only [List.cons_append, List.nil_append, List.flatten_cons, List.flatten_nil, List.append_nil]
      have hm8 := List.mem_of_getElem? he8
      have hok8 := hp.2 e8 hm8
      have hin8 := (hl2 e8 hm8).2.2
      have hss8 := st_size hok8 hin8
      have hsn8 := pText_snoc hi0 he8
      refine r_get1 rfl rfl hr8 rfl rfl ?_
      try simp only [List.cons_append, List.nil_append, List.flatten_cons, List.flatten_nil, List.append_nil]
      refine r_get1 rfl rfl hr8 rfl rfl ?_
      try simp only [List.cons_append, List.nil_append, List.flatten_cons, List.flatten_nil, List.append_nil]
      refine r_get1 rfl rfl hr8 rfl rfl ?_
      try simp only [List.cons_append, List.nil_append, List.flatten_cons, List.flatten_nil, List.append_nil]
      first | refine r_eql rfl rfl ?_ | refine r_eqlS rfl rfl ?_
      try simp only [List.cons_append, List.nil_append, List.flatten_cons, List.flatten_nil, List.append_nil]
      first | refine r_iteP rfl (fun h13 => ?_) (fun h13 => ?_) | refine r_iteNP rfl (fun h13 => ?_) (fun h13 => ?_) | refine r_iteN rfl (fun h13 => ?_) (fun h13 => ?_) | refine r_ite rfl (fun h13 => ?_) (fun h13 => ?_)
      · have hst : stText e8 = bs [46] ++ e8.s := by unfold stText; rw [if_pos h13]
        rw [hst] at hsn8 hss8
        refine r_addS (s := bs [46]) rfl rfl (by rw [ByteArray.size_append] at hss8; omega) ?_
        try simp only [List.cons_append, List.nil_append, List.flatten_cons, List.flatten_nil, List.append_nil]
        refine r_addS (s := pText (l.take i.toNat)) rfl rfl (by omega) ?_
        try simp only [List.cons_append, List.nil_append, List.flatten_cons, List.flatten_nil, List.append_nil]
        first | refine r_add rfl rfl (by simp only [inR] at *; omega) ?_ | refine r_addS rfl rfl (by omega) ?_
        try simp only [List.cons_append, List.nil_append, List.flatten_cons, List.flatten_nil, List.append_nil]
        exact r_again ⟨_, by omega, i + 1, by rw [hsn8]; rfl, by omega, by omega, rfl⟩
      · first | refine r_eql rfl rfl ?_ | refine r_eqlS rfl rfl ?_
        try simp only [List.cons_append, List.nil_append, List.flatten_cons, List.flatten_nil, List.append_nil]
        first | refine r_iteP rfl (fun h19 => ?_) (fun h19 => ?_) | refine r_iteNP rfl (fun h19 => ?_) (fun h19 => ?_) | refine r_iteN rfl (fun h19 => ?_) (fun h19 => ?_) | refine r_ite rfl (fun h19 => ?_) (fun h19 => ?_)
        · have hst : stText e8 = bs [63] ++ e8.s := by unfold stText; rw [if_neg h13, if_pos h19]
          rw [hst] at hsn8 hss8
          refine r_addS (s := bs [63]) rfl rfl (by rw [ByteArray.size_append] at hss8; omega) ?_
          try simp only [List.cons_append, List.nil_append, List.flatten_cons, List.flatten_nil, List.append_nil]
          refine r_addS (s := pText (l.take i.toNat)) rfl rfl (by omega) ?_
          try simp only [List.cons_append, List.nil_append, List.flatten_cons, List.flatten_nil, List.append_nil]
          first | refine r_add rfl rfl (by simp only [inR] at *; omega) ?_ | refine r_addS rfl rfl (by omega) ?_
          try simp only [List.cons_append, List.nil_append, List.flatten_cons, List.flatten_nil, List.append_nil]
          exact r_again ⟨_, by omega, i + 1, by rw [hsn8]; rfl, by omega, by omega, rfl⟩
        · refine r_callQ (w70 hin8) rfl ?_
          rintro _ rfl
          refine ⟨rfl, ?_⟩
          try simp only [List.cons_append, List.nil_append, List.flatten_cons, List.flatten_nil, List.append_nil]
          have hst : stText e8 = bs [35] ++ fmt e8.n := by unfold stText; rw [if_neg h13, if_neg h19]
          rw [hst] at hsn8 hss8
          refine r_addS (s := bs [35]) rfl rfl (by rw [ByteArray.size_append] at hss8; omega) ?_
          try simp only [List.cons_append, List.nil_append, List.flatten_cons, List.flatten_nil, List.append_nil]
          refine r_addS (s := pText (l.take i.toNat)) rfl rfl (by omega) ?_
          try simp only [List.cons_append, List.nil_append, List.flatten_cons, List.flatten_nil, List.append_nil]
          first | refine r_add rfl rfl (by simp only [inR] at *; omega) ?_ | refine r_addS rfl rfl (by omega) ?_
          try simp only [List.cons_append, List.nil_append, List.flatten_cons, List.flatten_nil, List.append_nil]
          exact r_again ⟨_, by omega, i + 1, by rw [hsn8]; rfl, by omega, by omega, rfl⟩
    · have hil : l.take i.toNat = l := List.take_of_length_le (by omega)
      refine r_ret (vs := [[.str (pText (l.take i.toNat))]]) rfl ?_
      unfold pathText
      rw [hil, if_pos hp]

end Go.Proofs.Ytkiliooegoldoaa
