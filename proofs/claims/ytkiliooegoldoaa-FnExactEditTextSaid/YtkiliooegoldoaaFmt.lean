/- Walks: Fmt -/
import Derived.Test.YtkiliooegoldoaaTre
import Derived.Test.YtkiliooegoldoaaE6
set_option linter.unusedVariables false
set_option linter.unusedSimpArgs false
namespace Go.Proofs.Ytkiliooegoldoaa
open Go

/-! ### Numbers as text -/
def dec (n : Nat) : List UInt8 := if n < 10 then [UInt8.ofNat (48 + n)] else dec (n / 10) ++ [UInt8.ofNat (48 + n % 10)]
termination_by n
theorem dec_lt {n : Nat} (h : n < 10) : dec n = [UInt8.ofNat (48 + n)] := by rw [dec, if_pos h]
theorem dec_ge {n : Nat} (h : ¬ n < 10) : dec n = dec (n / 10) ++ [UInt8.ofNat (48 + n % 10)] := by rw [dec, if_neg h]
theorem dec_len : ∀ (k : Nat) {n : Nat}, n < 10 ^ (k + 1) → (dec n).length ≤ k + 1 := by
  intro k
  induction k with
  | zero => intro n h; rw [dec_lt (by omega)]; simp
  | succ k ih =>
    intro n h
    by_cases hn : n < 10
    · rw [dec_lt hn]; simp
    · rw [dec_ge hn]
      have := ih (n := n / 10) (by rw [Nat.pow_succ] at h; omega)
      simp; omega
theorem dec_len20 {n : Nat} (h : n < 18446744073709551616) : (dec n).length ≤ 20 := dec_len 19 (by omega)
def bs (l : List UInt8) : ByteArray := ⟨l.toArray⟩
theorem bs_app (x y : List UInt8) : bs x ++ bs y = bs (x ++ y) := by
  apply Go.WideShapes.bytes_inj
  simp [bs, ByteArray.data_append]
theorem bs_size (x : List UInt8) : (bs x).size = x.length := by simp [bs, ByteArray.size]
def fmt (n : Int) : ByteArray := if n < 0 then bs (45 :: dec n.natAbs) else bs (dec n.natAbs)
theorem digit_row {c : Nat} : bytesOfRows [[PV.int .u8 (48 + (c : Int))]] = some [UInt8.ofNat (48 + c)] := by
  have : (48 + (c : Int)).toNat = 48 + c := by omega
  simp [bytesOfRows, byteOf, this]

/-- impl.digitsOf -/
theorem w96a {n : Nat} (hn : n < 18446744073709551616) (ih : ∀ m : Nat, m < n → ∃ rs, Big tab (.fn 96 [[.int .u64 m]] rs) ∧ rs = [[.str (bs (dec m))]]) : ∃ rs, Big tab (.fn 96 [[.int .u64 n]] rs) ∧ rs = [[.str (bs (dec n))]] := by
  refine tr_sound rfl c96 rfl ?_
  show wp _ _ _ _ [.int .u64 n]
  first | refine r_lss rfl rfl ?_ | refine r_lssS rfl rfl ?_
  try simp only [List.cons_append, List.nil_append, List.flatten_cons, List.flatten_nil, List.append_nil]
  first | refine r_iteP rfl (fun h1 => ?_) (fun h1 => ?_) | refine r_iteNP rfl (fun h1 => ?_) (fun h1 => ?_) | refine r_iteN rfl (fun h1 => ?_) (fun h1 => ?_) | refine r_ite rfl (fun h1 => ?_) (fun h1 => ?_)
  · refine r_addW (z := 48 + n) rfl rfl (wrap_u64 (by omega) (by omega)) ?_
    try simp only [List.cons_append, List.nil_append, List.flatten_cons, List.flatten_nil, List.append_nil]
    refine r_convW (z := 48 + n) rfl (wrap_u8 (by omega) (by omega)) ?_
    try simp only [List.cons_append, List.nil_append, List.flatten_cons, List.flatten_nil, List.append_nil]
    refine r_mk rfl ?_
    try simp only [List.cons_append, List.nil_append, List.flatten_cons, List.flatten_nil, List.append_nil]
    refine r_bytes rfl digit_row ?_
    try simp only [List.cons_append, List.nil_append, List.flatten_cons, List.flatten_nil, List.append_nil]
    refine r_ret rfl ?_
    rw [dec_lt (by omega)]; rfl
  · refine r_quo (z := (n / 10 : Nat)) rfl rfl (by decide) (by rw [Int.tdiv_eq_ediv_of_nonneg (by omega)]; exact wrap_u64 (by omega) (by omega)) ?_
    try simp only [List.cons_append, List.nil_append, List.flatten_cons, List.flatten_nil, List.append_nil]
    refine r_callQ (ih (n / 10) (by omega)) rfl ?_
    rintro _ rfl
    refine ⟨rfl, ?_⟩
    try simp only [List.cons_append, List.nil_append, List.flatten_cons, List.flatten_nil, List.append_nil]
    refine r_rem rfl rfl (by decide) ?_
    try simp only [List.cons_append, List.nil_append, List.flatten_cons, List.flatten_nil, List.append_nil]
    have hm : (n : Int).tmod 10 = (n % 10 : Nat) := by rw [Int.tmod_eq_emod_of_nonneg (by omega)]; omega
    rw [hm]
    refine r_addW (z := 48 + (n % 10 : Nat)) rfl rfl (wrap_u64 (by omega) (by omega)) ?_
    try simp only [List.cons_append, List.nil_append, List.flatten_cons, List.flatten_nil, List.append_nil]
    refine r_convW (z := 48 + (n % 10 : Nat)) rfl (wrap_u8 (by omega) (by omega)) ?_
    try simp only [List.cons_append, List.nil_append, List.flatten_cons, List.flatten_nil, List.append_nil]
    refine r_mk rfl ?_
    try simp only [List.cons_append, List.nil_append, List.flatten_cons, List.flatten_nil, List.append_nil]
    refine r_bytes rfl digit_row ?_
    try simp only [List.cons_append, List.nil_append, List.flatten_cons, List.flatten_nil, List.append_nil]
    refine r_addS rfl rfl (by have := dec_len20 (n := n / 10) (by omega); have h2 := bs_size (dec (n / 10)); have h3 := bs_size [UInt8.ofNat (48 + n % 10)]; simp only [bs, List.length_cons, List.length_nil] at h2 h3 ⊢; omega) ?_
    try simp only [List.cons_append, List.nil_append, List.flatten_cons, List.flatten_nil, List.append_nil]
    refine r_ret rfl ?_
    rw [dec_ge (n := n) (by omega), ← bs_app]; rfl

theorem w96 {n : Nat} : n < 18446744073709551616 → ∃ rs, Big tab (.fn 96 [[.int .u64 n]] rs) ∧ rs = [[.str (bs (dec n))]] := by
  induction n using Nat.strongRecOn with
  | _ n ih => exact fun hn => w96a hn fun m hm => ih m hm (by omega)
theorem fmt_size {n : Int} (h : inR n) : (fmt n).size ≤ 21 := by
  unfold inR at h
  have := dec_len20 (n := n.natAbs) (by omega)
  unfold fmt
  split <;> rw [bs_size] <;> simp <;> omega

/-- impl.FormatInt -/
theorem w70 {n : Int} (hn : inR n) : ∃ rs, Big tab (.fn 70 [[I n]] rs) ∧ rs = [[.str (fmt n)]] := by
  have hn' := hn
  simp only [inR] at hn
  refine tr_sound rfl c70 rfl ?_
  show wp _ _ _ _ [I n]
  first | refine r_lss rfl rfl ?_ | refine r_lssS rfl rfl ?_
  try simp only [List.cons_append, List.nil_append, List.flatten_cons, List.flatten_nil, List.append_nil]
  first | refine r_iteP rfl (fun h1 => ?_) (fun h1 => ?_) | refine r_iteNP rfl (fun h1 => ?_) (fun h1 => ?_) | refine r_iteN rfl (fun h1 => ?_) (fun h1 => ?_) | refine r_ite rfl (fun h1 => ?_) (fun h1 => ?_)
  · refine r_convW (z := n + 18446744073709551616) rfl (wrap_u64' (by omega) (by omega)) ?_
    try simp only [List.cons_append, List.nil_append, List.flatten_cons, List.flatten_nil, List.append_nil]
    refine r_neg (z := n.natAbs) rfl (by rw [wrap_u64' (by omega) (by omega)]; omega) ?_
    try simp only [List.cons_append, List.nil_append, List.flatten_cons, List.flatten_nil, List.append_nil]
    refine r_callQ (w96 (n := n.natAbs) (by omega)) rfl ?_
    rintro _ rfl
    refine ⟨rfl, ?_⟩
    try simp only [List.cons_append, List.nil_append, List.flatten_cons, List.flatten_nil, List.append_nil]
    refine r_addS rfl rfl (by have := dec_len20 (n := n.natAbs) (by omega); have h2 := bs_size (dec n.natAbs); have h3 := bs_size [45]; simp only [bs, List.length_cons, List.length_nil] at h2 h3 ⊢; omega) ?_
    try simp only [List.cons_append, List.nil_append, List.flatten_cons, List.flatten_nil, List.append_nil]
    refine r_ret rfl ?_
    unfold fmt; rw [if_pos h1]; exact congrArg (fun s => [[PV.str s]]) (bs_app [45] _)
  · refine r_convW (z := n.natAbs) rfl (by rw [wrap_u64 (by omega) (by omega)]; omega) ?_
    try simp only [List.cons_append, List.nil_append, List.flatten_cons, List.flatten_nil, List.append_nil]
    refine r_callQ (w96 (n := n.natAbs) (by omega)) rfl ?_
    rintro _ rfl
    refine ⟨rfl, ?_⟩
    try simp only [List.cons_append, List.nil_append, List.flatten_cons, List.flatten_nil, List.append_nil]
    refine r_ret rfl ?_
    unfold fmt; rw [if_neg h1]; rfl

/-- spec.FormatInt -/
theorem w69 {n : Int} (hn : inR n) : ∃ rs, Big tab (.fn 69 [[I n]] rs) ∧ rs = [[.str (fmt n)]] := by
  have hn' := hn
  simp only [inR] at hn
  refine tr_sound rfl c69 rfl ?_
  show wp _ _ _ _ [I n]
  first | refine r_eql rfl rfl ?_ | refine r_eqlS rfl rfl ?_
  try simp only [List.cons_append, List.nil_append, List.flatten_cons, List.flatten_nil, List.append_nil]
  first | refine r_iteP rfl (fun h1 => ?_) (fun h1 => ?_) | refine r_iteNP rfl (fun h1 => ?_) (fun h1 => ?_) | refine r_iteN rfl (fun h1 => ?_) (fun h1 => ?_) | refine r_ite rfl (fun h1 => ?_) (fun h1 => ?_)
  · refine r_ret rfl ?_
    rw [h1]; unfold fmt; rw [if_neg (by omega)]; rw [show (0 : Int).natAbs = 0 from rfl, dec_lt (by omega)]; rfl
  · first | refine r_lss rfl rfl ?_ | refine r_lssS rfl rfl ?_
    try simp only [List.cons_append, List.nil_append, List.flatten_cons, List.flatten_nil, List.append_nil]
    refine r_loop (fun m vs => ∃ (c : Int) (o : List UInt8), vs = [I c, .str (bs o)] ∧ inR c ∧ (c = 0 → o = dec n.natAbs) ∧ (c ≠ 0 → dec n.natAbs = dec c.natAbs ++ o) ∧ c.natAbs ≤ n.natAbs ∧ m = c.natAbs) _ ⟨_, [], rfl, hn', fun h => absurd h h1, fun _ => by simp, by omega, rfl⟩ ?_
    rintro m _ ⟨c, o, rfl, hc, hc0, hc1, hc2, rfl⟩
    simp only [inR] at hc
    try simp only [List.cons_append, List.nil_append, List.flatten_cons, List.flatten_nil, List.append_nil]
    first | refine r_neq rfl rfl ?_ | refine r_neqS rfl rfl ?_
    try simp only [List.cons_append, List.nil_append, List.flatten_cons, List.flatten_nil, List.append_nil]
    first | refine r_iteP rfl (fun h6 => ?_) (fun h6 => ?_) | refine r_iteNP rfl (fun h6 => ?_) (fun h6 => ?_) | refine r_iteN rfl (fun h6 => ?_) (fun h6 => ?_) | refine r_ite rfl (fun h6 => ?_) (fun h6 => ?_)
    · refine r_rem rfl rfl (by decide) ?_
      try simp only [List.cons_append, List.nil_append, List.flatten_cons, List.flatten_nil, List.append_nil]
      have hq : c.tmod 10 = if c < 0 then -((c.natAbs % 10 : Nat) : Int) else ((c.natAbs % 10 : Nat) : Int) := by
        split
        · have : c = -(c.natAbs : Int) := by omega
          conv => lhs; rw [this]
          rw [Int.neg_tmod, Int.tmod_eq_emod_of_nonneg (by omega)]; omega
        · rw [Int.tmod_eq_emod_of_nonneg (by omega)]; omega
      have hd : (c.tdiv 10).natAbs = c.natAbs / 10 := by rw [Int.natAbs_tdiv]; rfl
      have hds : c.tdiv 10 = if c < 0 then -((c.natAbs / 10 : Nat) : Int) else ((c.natAbs / 10 : Nat) : Int) := by
        split
        · have : c = -(c.natAbs : Int) := by omega
          conv => lhs; rw [this]
          rw [Int.neg_tdiv, Int.tdiv_eq_ediv_of_nonneg (by omega)]; omega
        · rw [Int.tdiv_eq_ediv_of_nonneg (by omega)]; omega
      generalize c.tmod 10 = q at *
      generalize hr : c.tdiv 10 = r at *
      refine r_join (fun vs => vs = [I ((c.natAbs % 10 : Nat) : Int)]) ?_ ?_
      · first | refine r_lss rfl rfl ?_ | refine r_lssS rfl rfl ?_
        try simp only [List.cons_append, List.nil_append, List.flatten_cons, List.flatten_nil, List.append_nil]
        first | refine r_iteP rfl (fun h10 => ?_) (fun h10 => ?_) | refine r_iteNP rfl (fun h10 => ?_) (fun h10 => ?_) | refine r_iteN rfl (fun h10 => ?_) (fun h10 => ?_) | refine r_ite rfl (fun h10 => ?_) (fun h10 => ?_)
        · first | refine r_sub rfl rfl (by simp only [inR] at *; omega) ?_
          try simp only [List.cons_append, List.nil_append, List.flatten_cons, List.flatten_nil, List.append_nil]
          refine r_again ?_
          show [I (0 - q)] = _
          rw [show (0 - q : Int) = ((c.natAbs % 10 : Nat) : Int) by split at hq <;> omega]
        · refine r_again ?_
          show [I q] = _
          rw [show (q : Int) = ((c.natAbs % 10 : Nat) : Int) by split at hq <;> omega]
      rintro _ rfl
      try simp only [List.cons_append, List.nil_append, List.flatten_cons, List.flatten_nil, List.append_nil]
      refine r_add rfl rfl (by simp only [inR] at *; omega) ?_
      try simp only [List.cons_append, List.nil_append, List.flatten_cons, List.flatten_nil, List.append_nil]
      refine r_convW (z := 48 + (c.natAbs % 10 : Nat)) rfl (wrap_u8 (by omega) (by omega)) ?_
      try simp only [List.cons_append, List.nil_append, List.flatten_cons, List.flatten_nil, List.append_nil]
      refine r_mk rfl ?_
      try simp only [List.cons_append, List.nil_append, List.flatten_cons, List.flatten_nil, List.append_nil]
      refine r_bytes rfl digit_row ?_
      try simp only [List.cons_append, List.nil_append, List.flatten_cons, List.flatten_nil, List.append_nil]
      have hol : o.length ≤ 20 := by
        by_cases hz : c = 0
        · rw [hc0 hz]; exact dec_len20 (by omega)
        · have h1 := dec_len20 (n := n.natAbs) (by omega)
          have h2 := congrArg List.length (hc1 hz)
          simp at h2; omega
      refine r_addS (s := bs [UInt8.ofNat (48 + c.natAbs % 10)]) (u := bs o) rfl rfl (by rw [bs_size, bs_size]; simp; omega) ?_
      try simp only [List.cons_append, List.nil_append, List.flatten_cons, List.flatten_nil, List.append_nil]
      refine r_quo (z := r) rfl rfl (by decide) (by rw [hr]; exact wrap_i64 (by simp only [inR]; split at hds <;> omega)) ?_
      try simp only [List.cons_append, List.nil_append, List.flatten_cons, List.flatten_nil, List.append_nil]
      refine r_again ⟨_, ?_, r, UInt8.ofNat (48 + c.natAbs % 10) :: o, ?_, ?_, fun hz => ?_, fun hz => ?_, by omega, rfl⟩
      · omega
      · rw [bs_app]; rfl
      · simp only [inR]; split at hds <;> omega
      · have h10 : c.natAbs < 10 := by omega
        have := hc1 h6
        rw [dec_lt h10] at this
        rw [this]
        simp only [List.cons_append, List.nil_append]
        rw [show c.natAbs % 10 = c.natAbs by omega]
      · have h10 : ¬ c.natAbs < 10 := by omega
        have := hc1 h6
        rw [dec_ge h10] at this
        rw [this, hd]
        simp
    · first | refine r_iteP rfl (fun h21 => ?_) (fun h21 => ?_) | refine r_iteNP rfl (fun h21 => ?_) (fun h21 => ?_) | refine r_iteN rfl (fun h21 => ?_) (fun h21 => ?_) | refine r_ite rfl (fun h21 => ?_) (fun h21 => ?_)
      · refine r_addS (s := bs [45]) (u := bs o) rfl rfl (by rw [bs_size, bs_size, hc0 (Decidable.not_not.1 h6)]; have := dec_len20 (n := n.natAbs) (by omega); simp; omega) ?_
        try simp only [List.cons_append, List.nil_append, List.flatten_cons, List.flatten_nil, List.append_nil]
        refine r_ret rfl ?_
        rw [hc0 (Decidable.not_not.1 h6)]; unfold fmt; rw [if_pos h21]; exact congrArg (fun s => [[PV.str s]]) (bs_app [45] _)
      · refine r_ret rfl ?_
        rw [hc0 (Decidable.not_not.1 h6)]; unfold fmt; rw [if_neg h21]; rfl

end Go.Proofs.Ytkiliooegoldoaa
