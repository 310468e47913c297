/- Walks: Steps -/
import Derived.Test.YtkiliooegoldoaaTre
import Derived.Test.YtkiliooegoldoaaE6
set_option linter.unusedVariables false
set_option linter.unusedSimpArgs false
namespace Go.Proofs.Ytkiliooegoldoaa
open Go


theorem w59 {k n left : Int} {s : ByteArray} (hs : s.size ≤ maxLen) (h0 : 0 ≤ left) (h1 : left ≤ 9223372036854775807) :
    ∃ rs, Big tab (.fn 59 [[I k, .str s, I n], [I left]] rs) ∧ ∃ r, rs = [[I r]] ∧ (r = -1 ∨ (0 ≤ r ∧ r + s.size = left)) := by
  have hm : maxLen = 9223372036854775807 := rfl
  refine tr_sound rfl c59 rfl ?_
  show wp _ _ _ _ [I k, .str s, I n, I left]
  refine r_lenS rfl ?_
  try simp only [List.cons_append, List.nil_append, List.flatten_cons, List.flatten_nil, List.append_nil]
  refine r_sub rfl rfl (by simp only [inR] at *; omega) ?_
  try simp only [List.cons_append, List.nil_append, List.flatten_cons, List.flatten_nil, List.append_nil]
  refine r_lss rfl rfl ?_
  try simp only [List.cons_append, List.nil_append, List.flatten_cons, List.flatten_nil, List.append_nil]
  refine r_iteP rfl (fun h => ?_) (fun h => ?_)
  · exact r_ret rfl ⟨_, rfl, Or.inl rfl⟩
  · exact r_ret rfl ⟨_, rfl, Or.inr ⟨by omega, by omega⟩⟩

theorem w60 {k n : Int} {s : ByteArray} : ∃ rs, Big tab (.fn 60 [[I k, .str s, I n]] rs) ∧ rs = [[I k, .str s, I n]] := by
  refine tr_sound rfl c60 rfl ?_
  show wp _ _ _ _ [I k, .str s, I n]
  exact r_ret rfl rfl

theorem w61 {x y : Stp} : ∃ rs, Big tab (.fn 61 [x.row, y.row] rs) ∧ ∃ b, rs = [[.bool b]] ∧ (b = true ↔ x = y) := by
  refine tr_sound rfl c61 rfl ?_
  show wp _ _ _ _ [I x.k, .str x.s, I x.n, I y.k, .str y.s, I y.n]
  refine r_neq rfl rfl ?_
  try simp only [List.cons_append, List.nil_append, List.flatten_cons, List.flatten_nil, List.append_nil]
  refine r_iteP rfl (fun h => ?_) (fun h => ?_)
  · exact r_ret rfl ⟨_, rfl, by simp; rintro rfl; exact h rfl⟩
  refine r_neqS rfl rfl ?_
  try simp only [List.cons_append, List.nil_append, List.flatten_cons, List.flatten_nil, List.append_nil]
  refine r_iteP rfl (fun h => ?_) (fun h => ?_)
  · exact r_ret rfl ⟨_, rfl, by simp; rintro rfl; exact h rfl⟩
  refine r_neq rfl rfl ?_
  try simp only [List.cons_append, List.nil_append, List.flatten_cons, List.flatten_nil, List.append_nil]
  refine r_iteP rfl (fun h => ?_) (fun h => ?_)
  · exact r_ret rfl ⟨_, rfl, by simp; rintro rfl; exact h rfl⟩
  · refine r_ret rfl ⟨_, rfl, ?_⟩
    cases x; cases y
    simp_all

/-- szStepS -/
theorem w11 {l : List Stp} {left : Int} (hl : stpsOk l) (h0 : 0 ≤ left) (h1 : left ≤ 1099511627776) :
    ∃ rs, Big tab (.fn 11 [[stps l], [I left]] rs) ∧ ∃ r, rs = [[I r]] ∧ (r = -1 ∨ (0 ≤ r ∧ r + l.length ≤ left)) := by
  have hm : maxLen = 9223372036854775807 := rfl
  obtain ⟨hl1, hl2⟩ := hl
  have hlen : (l.map Stp.row).length = l.length := List.length_map ..
  refine tr_sound rfl c11 rfl ?_
  show wp _ _ _ _ [stps l, I left]
  refine r_len rfl ?_
  try simp only [List.cons_append, List.nil_append, List.flatten_cons, List.flatten_nil, List.append_nil]
  refine r_sub rfl rfl (by simp only [inR] at *; omega) ?_
  try simp only [List.cons_append, List.nil_append, List.flatten_cons, List.flatten_nil, List.append_nil]
  refine r_lss rfl rfl ?_
  try simp only [List.cons_append, List.nil_append, List.flatten_cons, List.flatten_nil, List.append_nil]
  refine r_iteP rfl (fun h => ?_) (fun h => ?_)
  · exact r_ret rfl ⟨_, rfl, Or.inl rfl⟩
  refine r_loop (fun m vs => ∃ lf i : Int, vs = [I lf, I i] ∧ 0 ≤ i ∧ i ≤ l.length ∧ 0 ≤ lf ∧ lf + l.length ≤ left ∧ m = (l.length - i).toNat) _ ⟨_, _, rfl, by omega, by omega, by omega, by omega, rfl⟩ ?_
  rintro m _ ⟨lf, i, rfl, hi0, hi1, hf0, hf1, rfl⟩
  try simp only [List.cons_append, List.nil_append, List.flatten_cons, List.flatten_nil, List.append_nil]
  refine r_len rfl ?_
  try simp only [List.cons_append, List.nil_append, List.flatten_cons, List.flatten_nil, List.append_nil]
  refine r_lss rfl rfl ?_
  try simp only [List.cons_append, List.nil_append, List.flatten_cons, List.flatten_nil, List.append_nil]
  refine r_iteP rfl (fun h => ?_) (fun h => ?_)
  · refine r_inbT rfl rfl (by omega) (by omega) (fun e he hr => ?_)
    try simp only [List.cons_append, List.nil_append, List.flatten_cons, List.flatten_nil, List.append_nil]
    refine r_get1 rfl rfl hr rfl rfl ?_
    try simp only [List.cons_append, List.nil_append, List.flatten_cons, List.flatten_nil, List.append_nil]
    refine r_get1 rfl rfl hr rfl rfl ?_
    try simp only [List.cons_append, List.nil_append, List.flatten_cons, List.flatten_nil, List.append_nil]
    refine r_get1 rfl rfl hr rfl rfl ?_
    try simp only [List.cons_append, List.nil_append, List.flatten_cons, List.flatten_nil, List.append_nil]
    obtain ⟨rs, hb, r, rfl, hr⟩ := w59 (k := e.k) (n := e.n) (hl2 e (List.mem_of_getElem? he)).2.1 hf0 (by omega)
    refine r_call hb rfl rfl ?_
    try simp only [List.cons_append, List.nil_append, List.flatten_cons, List.flatten_nil, List.append_nil]
    refine r_lss rfl rfl ?_
    try simp only [List.cons_append, List.nil_append, List.flatten_cons, List.flatten_nil, List.append_nil]
    refine r_iteP rfl (fun h => ?_) (fun h => ?_)
    · exact r_ret rfl ⟨_, rfl, Or.inl rfl⟩
    refine r_add rfl rfl (by simp only [inR] at *; omega) ?_
    try simp only [List.cons_append, List.nil_append, List.flatten_cons, List.flatten_nil, List.append_nil]
    exact r_again ⟨_, by omega, _, _, rfl, by omega, by omega, by omega, by omega, rfl⟩
  · exact r_ret rfl ⟨_, rfl, Or.inr ⟨by omega, by omega⟩⟩

/-- toStepS -/
theorem w13 {l : List Stp} (hl : stpsOk l) (h1 : l.length ≤ 1099511627776) : ∃ rs, Big tab (.fn 13 [[stps l]] rs) ∧ rs = [[stps l]] := by
  have hm : maxLen = 9223372036854775807 := rfl
  obtain ⟨hl1, hl2⟩ := hl
  have hlen : (l.map Stp.row).length = l.length := List.length_map ..
  refine tr_sound rfl c13 rfl ?_
  show wp _ _ _ _ [stps l]
  refine r_len rfl ?_
  try simp only [List.cons_append, List.nil_append, List.flatten_cons, List.flatten_nil, List.append_nil]
  refine r_make rfl (by omega) (by omega) ?_
  try simp only [List.cons_append, List.nil_append, List.flatten_cons, List.flatten_nil, List.append_nil]
  refine r_loop (fun m vs => ∃ i : Nat, vs = [.sl 3 ((l.map Stp.row).take i ++ List.replicate (l.length - i) [I0, S0, I0]), I i] ∧ i ≤ l.length ∧ m = l.length - i) _ ⟨0, by rw [List.take_zero, List.nil_append]; exact congrArg (fun n => [PV.sl 3 (List.replicate n [I0, S0, I0]), I 0]) hlen, by omega, rfl⟩ ?_
  rintro m _ ⟨i, rfl, hi1, rfl⟩
  try simp only [List.cons_append, List.nil_append, List.flatten_cons, List.flatten_nil, List.append_nil]
  refine r_len rfl ?_
  try simp only [List.cons_append, List.nil_append, List.flatten_cons, List.flatten_nil, List.append_nil]
  refine r_lss rfl rfl ?_
  try simp only [List.cons_append, List.nil_append, List.flatten_cons, List.flatten_nil, List.append_nil]
  refine r_iteP rfl (fun h => ?_) (fun h => ?_)
  · have hi : i < l.length := by omega
    refine r_inbT rfl rfl (by omega) (by omega) (fun e he hr => ?_)
    try simp only [List.cons_append, List.nil_append, List.flatten_cons, List.flatten_nil, List.append_nil]
    refine r_get1 rfl rfl hr rfl rfl ?_
    try simp only [List.cons_append, List.nil_append, List.flatten_cons, List.flatten_nil, List.append_nil]
    refine r_get1 rfl rfl hr rfl rfl ?_
    try simp only [List.cons_append, List.nil_append, List.flatten_cons, List.flatten_nil, List.append_nil]
    refine r_get1 rfl rfl hr rfl rfl ?_
    try simp only [List.cons_append, List.nil_append, List.flatten_cons, List.flatten_nil, List.append_nil]
    obtain ⟨rs, hb, rfl⟩ := w60 (k := e.k) (s := e.s) (n := e.n)
    refine r_call hb rfl rfl ?_
    try simp only [List.cons_append, List.nil_append, List.flatten_cons, List.flatten_nil, List.append_nil]
    refine r_inb rfl rfl (by omega) (by simp; omega) ?_
    try simp only [List.cons_append, List.nil_append, List.flatten_cons, List.flatten_nil, List.append_nil]
    refine r_set1 rfl rfl (row := [I0, S0, I0]) (copy_row hi hlen.symm) rfl (by simp) ?_
    try simp only [List.cons_append, List.nil_append, List.flatten_cons, List.flatten_nil, List.append_nil]
    refine r_add rfl rfl (by simp only [inR] at *; omega) ?_
    try simp only [List.cons_append, List.nil_append, List.flatten_cons, List.flatten_nil, List.append_nil]
    refine r_again ⟨_, ?_, i + 1, ?_, by omega, rfl⟩
    · omega
    · have := copy_set (z := [I0, S0, I0]) hi hlen.symm hr
      rw [← this]
      rfl
  · have : i = l.length := by omega
    subst this
    refine r_ret (vs := [[.sl 3 ((l.map Stp.row).take l.length ++ List.replicate (l.length - l.length) [I0, S0, I0])]]) rfl ?_
    rw [Nat.sub_self, List.replicate_zero, List.append_nil, ← hlen, List.take_length]

/-- eqStepS -/
theorem w15 {l l' : List Stp} (hl : stpsOk l) (hl' : stpsOk l') : ∃ rs, Big tab (.fn 15 [[stps l], [stps l']] rs) ∧ ∃ b, rs = [[.bool b]] ∧ (b = true ↔ l = l') := by
  have hm : maxLen = 9223372036854775807 := rfl
  obtain ⟨hl1, hl2⟩ := hl
  have hlen : (l.map Stp.row).length = l.length := List.length_map ..
  have hlen' : (l'.map Stp.row).length = l'.length := List.length_map ..
  refine tr_sound rfl c15 rfl ?_
  show wp _ _ _ _ [stps l, stps l']
  refine r_len rfl ?_
  try simp only [List.cons_append, List.nil_append, List.flatten_cons, List.flatten_nil, List.append_nil]
  refine r_len rfl ?_
  try simp only [List.cons_append, List.nil_append, List.flatten_cons, List.flatten_nil, List.append_nil]
  refine r_neq rfl rfl ?_
  try simp only [List.cons_append, List.nil_append, List.flatten_cons, List.flatten_nil, List.append_nil]
  refine r_iteP rfl (fun h => ?_) (fun h => ?_)
  · exact r_ret rfl ⟨_, rfl, by simp; rintro rfl; exact h rfl⟩
  have hee : l.length = l'.length := by omega
  refine r_loop (fun m vs => ∃ i : Int, vs = [I i] ∧ 0 ≤ i ∧ i ≤ l.length ∧ (∀ j : Nat, j < i → l[j]? = l'[j]?) ∧ m = (l.length - i).toNat) _ ⟨_, rfl, by omega, by omega, fun j hj => by omega, rfl⟩ ?_
  rintro m _ ⟨i, rfl, hi0, hi1, hj, rfl⟩
  try simp only [List.cons_append, List.nil_append, List.flatten_cons, List.flatten_nil, List.append_nil]
  refine r_len rfl ?_
  try simp only [List.cons_append, List.nil_append, List.flatten_cons, List.flatten_nil, List.append_nil]
  refine r_lss rfl rfl ?_
  try simp only [List.cons_append, List.nil_append, List.flatten_cons, List.flatten_nil, List.append_nil]
  refine r_iteP rfl (fun h => ?_) (fun h => ?_)
  · refine r_inbT rfl rfl (by omega) (by omega) (fun e he hr => ?_)
    try simp only [List.cons_append, List.nil_append, List.flatten_cons, List.flatten_nil, List.append_nil]
    refine r_get1 rfl rfl hr rfl rfl ?_
    try simp only [List.cons_append, List.nil_append, List.flatten_cons, List.flatten_nil, List.append_nil]
    refine r_get1 rfl rfl hr rfl rfl ?_
    try simp only [List.cons_append, List.nil_append, List.flatten_cons, List.flatten_nil, List.append_nil]
    refine r_get1 rfl rfl hr rfl rfl ?_
    try simp only [List.cons_append, List.nil_append, List.flatten_cons, List.flatten_nil, List.append_nil]
    refine r_inbT rfl rfl (by omega) (by omega) (fun e' he' hr' => ?_)
    try simp only [List.cons_append, List.nil_append, List.flatten_cons, List.flatten_nil, List.append_nil]
    refine r_get1 rfl rfl hr' rfl rfl ?_
    try simp only [List.cons_append, List.nil_append, List.flatten_cons, List.flatten_nil, List.append_nil]
    refine r_get1 rfl rfl hr' rfl rfl ?_
    try simp only [List.cons_append, List.nil_append, List.flatten_cons, List.flatten_nil, List.append_nil]
    refine r_get1 rfl rfl hr' rfl rfl ?_
    try simp only [List.cons_append, List.nil_append, List.flatten_cons, List.flatten_nil, List.append_nil]
    obtain ⟨rs, hb, b, rfl, hb2⟩ := w61 (x := e) (y := e')
    refine r_call hb rfl rfl ?_
    try simp only [List.cons_append, List.nil_append, List.flatten_cons, List.flatten_nil, List.append_nil]
    refine r_not rfl ?_
    try simp only [List.cons_append, List.nil_append, List.flatten_cons, List.flatten_nil, List.append_nil]
    refine r_iteN rfl (fun h => ?_) (fun h => ?_)
    · refine r_ret rfl ⟨_, rfl, ?_⟩
      subst h
      simp only [Bool.false_eq_true, false_iff] at hb2 ⊢
      rintro rfl
      rw [he] at he'
      exact hb2 (Option.some.inj he')
    · refine r_add rfl rfl (by simp only [inR] at *; omega) ?_
      try simp only [List.cons_append, List.nil_append, List.flatten_cons, List.flatten_nil, List.append_nil]
      refine r_again ⟨_, ?_, _, rfl, by omega, by omega, fun j hji => ?_, rfl⟩
      · omega
      · by_cases hjj : j < i
        · exact hj j hjj
        · have : j = i.toNat := by omega
          subst this
          rw [he, he', hb2.1 h]
  · refine r_ret rfl ⟨_, rfl, ?_⟩
    simp only [true_iff]
    apply List.ext_getElem?
    intro j
    by_cases hjl : j < l.length
    · exact hj j (by omega)
    · rw [List.getElem?_eq_none (by omega), List.getElem?_eq_none (by omega)]
end Go.Proofs.Ytkiliooegoldoaa
