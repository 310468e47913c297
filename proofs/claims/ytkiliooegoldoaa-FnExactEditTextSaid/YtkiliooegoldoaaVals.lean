/- Walks: Vals -/
import Derived.Test.YtkiliooegoldoaaSteps
set_option linter.unusedVariables false
set_option linter.unusedSimpArgs false
namespace Go.Proofs.Ytkiliooegoldoaa
open Go

theorem take_sum {α : Type} {f : α → Nat} {l : List α} {i : Int} {x : α} (h0 : 0 ≤ i) (h : l[i.toNat]? = some x) : ((l.take (i + 1).toNat).map f).sum = ((l.take i.toNat).map f).sum + f x := by
  have : (i + 1).toNat = i.toNat + 1 := by omega
  rw [this, List.take_add_one, h]; simp
theorem take_sum_le {α : Type} {f : α → Nat} {l : List α} {n : Nat} : ((l.take n).map f).sum ≤ (l.map f).sum := by
  induction l generalizing n with
  | nil => simp
  | cons x l ih =>
    cases n with
    | zero => simp
    | succ n => have := ih (n := n); simp only [List.take_succ_cons, List.map_cons, List.sum_cons]; omega
theorem take_sum_all {α : Type} {f : α → Nat} {l : List α} {i : Int} (h : ¬ i < l.length) : ((l.take i.toNat).map f).sum = (l.map f).sum := by
  rw [List.take_of_length_le (by omega)]

/-- laws.szStringS -/
theorem w97 {ls : List ByteArray} {left : Int} (hl : strsOk ls) (h0 : 0 ≤ left) (h1 : left ≤ 9223372036854775807) : ∃ rs, Big tab (.fn 97 [[strs ls], [I left]] rs) ∧ ∃ r, rs = [[I r]] ∧ (r = -1 ∨ (0 ≤ r ∧ r + (ls.length + strSum ls : Nat) ≤ left)) := by
  have hm : maxLen = 9223372036854775807 := rfl
  obtain ⟨hl1, hl2⟩ := hl
  have hlen : (ls.map strRow).length = ls.length := List.length_map ..
  refine tr_sound rfl c97 rfl ?_
  show wp _ _ _ _ [strs ls, I left]
  refine r_len rfl ?_
  try simp only [List.cons_append, List.nil_append, List.flatten_cons, List.flatten_nil, List.append_nil]
  first | refine r_sub rfl rfl (by simp only [inR] at *; omega) ?_
  try simp only [List.cons_append, List.nil_append, List.flatten_cons, List.flatten_nil, List.append_nil]
  first | refine r_lss rfl rfl ?_ | refine r_lssS rfl rfl ?_
  try simp only [List.cons_append, List.nil_append, List.flatten_cons, List.flatten_nil, List.append_nil]
  first | refine r_iteP rfl (fun h3 => ?_) (fun h3 => ?_) | refine r_iteNP rfl (fun h3 => ?_) (fun h3 => ?_) | refine r_iteN rfl (fun h3 => ?_) (fun h3 => ?_) | refine r_ite rfl (fun h3 => ?_) (fun h3 => ?_)
  · refine r_ret rfl ?_
    exact ⟨_, rfl, Or.inl rfl⟩
  · refine r_loop (fun m vs => ∃ lf i : Int, vs = [I lf, I i] ∧ 0 ≤ i ∧ i ≤ ls.length ∧ 0 ≤ lf ∧ lf + (ls.length + ((ls.take i.toNat).map ByteArray.size).sum : Nat) ≤ left ∧ m = (ls.length - i).toNat) _ ⟨_, _, rfl, by omega, by omega, by omega, by simp <;> omega, rfl⟩ ?_
    rintro m _ ⟨lf, i, rfl, hi0, hi1, hf0, hf1, rfl⟩
    try simp only [List.cons_append, List.nil_append, List.flatten_cons, List.flatten_nil, List.append_nil]
    refine r_len rfl ?_
    try simp only [List.cons_append, List.nil_append, List.flatten_cons, List.flatten_nil, List.append_nil]
    first | refine r_lss rfl rfl ?_ | refine r_lssS rfl rfl ?_
    try simp only [List.cons_append, List.nil_append, List.flatten_cons, List.flatten_nil, List.append_nil]
    first | refine r_iteP rfl (fun h8 => ?_) (fun h8 => ?_) | refine r_iteNP rfl (fun h8 => ?_) (fun h8 => ?_) | refine r_iteN rfl (fun h8 => ?_) (fun h8 => ?_) | refine r_ite rfl (fun h8 => ?_) (fun h8 => ?_)
    · refine r_inbT rfl rfl (by omega) (by omega) (fun e9 he9 hr9 => ?_)
      try simp only [List.cons_append, List.nil_append, List.flatten_cons, List.flatten_nil, List.append_nil]
      have hs9 := hl2 e9 (List.mem_of_getElem? he9)
      have es9 := take_sum (f := ByteArray.size) hi0 he9
      refine r_get1 rfl rfl hr9 rfl rfl ?_
      try simp only [List.cons_append, List.nil_append, List.flatten_cons, List.flatten_nil, List.append_nil]
      refine r_lenS rfl ?_
      try simp only [List.cons_append, List.nil_append, List.flatten_cons, List.flatten_nil, List.append_nil]
      first | refine r_sub rfl rfl (by simp only [inR] at *; omega) ?_
      try simp only [List.cons_append, List.nil_append, List.flatten_cons, List.flatten_nil, List.append_nil]
      first | refine r_lss rfl rfl ?_ | refine r_lssS rfl rfl ?_
      try simp only [List.cons_append, List.nil_append, List.flatten_cons, List.flatten_nil, List.append_nil]
      first | refine r_iteP rfl (fun h14 => ?_) (fun h14 => ?_) | refine r_iteNP rfl (fun h14 => ?_) (fun h14 => ?_) | refine r_iteN rfl (fun h14 => ?_) (fun h14 => ?_) | refine r_ite rfl (fun h14 => ?_) (fun h14 => ?_)
      · refine r_ret rfl ?_
        exact ⟨_, rfl, Or.inl rfl⟩
      · first | refine r_add rfl rfl (by simp only [inR] at *; omega) ?_ | refine r_addS rfl rfl (by omega) ?_
        try simp only [List.cons_append, List.nil_append, List.flatten_cons, List.flatten_nil, List.append_nil]
        exact r_again ⟨_, by omega, _, _, rfl, by omega, by omega, by omega, by omega, rfl⟩
    · have es := take_sum_all (f := ByteArray.size) (l := ls) (i := i) (by omega)
      exact r_ret (vs := [[I lf]]) rfl ⟨lf, rfl, Or.inr ⟨by omega, by simp only [strSum]; omega⟩⟩

/-- laws.toStringS -/
theorem w100 {ls : List ByteArray} (hl : ls.length ≤ 1099511627776) : ∃ rs, Big tab (.fn 100 [[strs ls]] rs) ∧ rs = [[strs ls]] := by
  have hm : maxLen = 9223372036854775807 := rfl
  have hlen : (ls.map strRow).length = ls.length := List.length_map ..
  refine tr_sound rfl c100 rfl ?_
  show wp _ _ _ _ [strs ls]
  refine r_len rfl ?_
  try simp only [List.cons_append, List.nil_append, List.flatten_cons, List.flatten_nil, List.append_nil]
  refine r_make rfl (by omega) (by omega) ?_
  try simp only [List.cons_append, List.nil_append, List.flatten_cons, List.flatten_nil, List.append_nil]
  refine r_loop (fun m vs => ∃ i : Nat, vs = [.sl 1 ((ls.map strRow).take i ++ List.replicate (ls.length - i) [S0]), I i] ∧ i ≤ ls.length ∧ m = ls.length - i) _ ⟨0, by rw [List.take_zero, List.nil_append]; exact congrArg (fun n => [PV.sl 1 (List.replicate n [S0]), I 0]) hlen, by omega, rfl⟩ ?_
  rintro m _ ⟨i, rfl, hi1, rfl⟩
  try simp only [List.cons_append, List.nil_append, List.flatten_cons, List.flatten_nil, List.append_nil]
  refine r_len rfl ?_
  try simp only [List.cons_append, List.nil_append, List.flatten_cons, List.flatten_nil, List.append_nil]
  first | refine r_lss rfl rfl ?_ | refine r_lssS rfl rfl ?_
  try simp only [List.cons_append, List.nil_append, List.flatten_cons, List.flatten_nil, List.append_nil]
  first | refine r_iteP rfl (fun h5 => ?_) (fun h5 => ?_) | refine r_iteNP rfl (fun h5 => ?_) (fun h5 => ?_) | refine r_iteN rfl (fun h5 => ?_) (fun h5 => ?_) | refine r_ite rfl (fun h5 => ?_) (fun h5 => ?_)
  · have hi : i < ls.length := by omega
    refine r_inbT rfl rfl (by omega) (by omega) (fun e6 he6 hr6 => ?_)
    try simp only [List.cons_append, List.nil_append, List.flatten_cons, List.flatten_nil, List.append_nil]
    refine r_get1 rfl rfl hr6 rfl rfl ?_
    try simp only [List.cons_append, List.nil_append, List.flatten_cons, List.flatten_nil, List.append_nil]
    refine r_inb rfl rfl (by omega) (by simp; omega) ?_
    try simp only [List.cons_append, List.nil_append, List.flatten_cons, List.flatten_nil, List.append_nil]
    refine r_set1 rfl rfl (row := [S0]) (copy_row hi hlen.symm) rfl (by simp) ?_
    try simp only [List.cons_append, List.nil_append, List.flatten_cons, List.flatten_nil, List.append_nil]
    first | refine r_add rfl rfl (by simp only [inR] at *; omega) ?_ | refine r_addS rfl rfl (by omega) ?_
    try simp only [List.cons_append, List.nil_append, List.flatten_cons, List.flatten_nil, List.append_nil]
    refine r_again ⟨_, ?_, i + 1, ?_, by omega, rfl⟩
    · omega
    · have := copy_set (z := [S0]) hi hlen.symm hr6
      rw [← this]
      rfl
  · have : i = ls.length := by omega
    subst this
    refine r_ret (vs := [[.sl 1 ((ls.map strRow).take ls.length ++ List.replicate (ls.length - ls.length) [S0])]]) rfl ?_
    rw [Nat.sub_self, List.replicate_zero, List.append_nil, ← hlen, List.take_length]

/-- laws.eqStringS -/
theorem w103g {K : Nat} {FD : AFunc} {HT : Hint} (hF : tab K = some FD) (hc : compFn tab HT FD [[false], [false]] = some t103) {ls ls' : List ByteArray} (hl : strsOk ls) (hl' : strsOk ls') : ∃ rs, Big tab (.fn K [[strs ls], [strs ls']] rs) ∧ ∃ b, rs = [[.bool b]] ∧ (b = true ↔ ls = ls') := by
  have hm : maxLen = 9223372036854775807 := rfl
  obtain ⟨hl1, hl2⟩ := hl
  obtain ⟨hl1', hl2'⟩ := hl'
  have hlen : (ls.map strRow).length = ls.length := List.length_map ..
  have hlen' : (ls'.map strRow).length = ls'.length := List.length_map ..
  refine tr_sound hF hc rfl ?_
  show wp _ _ _ _ [strs ls, strs ls']
  refine r_len rfl ?_
  try simp only [List.cons_append, List.nil_append, List.flatten_cons, List.flatten_nil, List.append_nil]
  refine r_len rfl ?_
  try simp only [List.cons_append, List.nil_append, List.flatten_cons, List.flatten_nil, List.append_nil]
  first | refine r_neq rfl rfl ?_ | refine r_neqS rfl rfl ?_
  try simp only [List.cons_append, List.nil_append, List.flatten_cons, List.flatten_nil, List.append_nil]
  first | refine r_iteP rfl (fun h3 => ?_) (fun h3 => ?_) | refine r_iteNP rfl (fun h3 => ?_) (fun h3 => ?_) | refine r_iteN rfl (fun h3 => ?_) (fun h3 => ?_) | refine r_ite rfl (fun h3 => ?_) (fun h3 => ?_)
  · refine r_ret rfl ?_
    exact ⟨_, rfl, by simp; rintro rfl; exact h3 rfl⟩
  · refine r_loop (fun m vs => ∃ i : Int, vs = [I i] ∧ 0 ≤ i ∧ i ≤ ls.length ∧ (∀ j : Nat, j < i → ls[j]? = ls'[j]?) ∧ m = (ls.length - i).toNat) _ ⟨_, rfl, by omega, by omega, fun j hj => by omega, rfl⟩ ?_
    rintro m _ ⟨i, rfl, hi0, hi1, hj, rfl⟩
    try simp only [List.cons_append, List.nil_append, List.flatten_cons, List.flatten_nil, List.append_nil]
    refine r_len rfl ?_
    try simp only [List.cons_append, List.nil_append, List.flatten_cons, List.flatten_nil, List.append_nil]
    first | refine r_lss rfl rfl ?_ | refine r_lssS rfl rfl ?_
    try simp only [List.cons_append, List.nil_append, List.flatten_cons, List.flatten_nil, List.append_nil]
    first | refine r_iteP rfl (fun h8 => ?_) (fun h8 => ?_) | refine r_iteNP rfl (fun h8 => ?_) (fun h8 => ?_) | refine r_iteN rfl (fun h8 => ?_) (fun h8 => ?_) | refine r_ite rfl (fun h8 => ?_) (fun h8 => ?_)
    · refine r_inbT rfl rfl (by omega) (by omega) (fun e9 he9 hr9 => ?_)
      try simp only [List.cons_append, List.nil_append, List.flatten_cons, List.flatten_nil, List.append_nil]
      refine r_get1 rfl rfl hr9 rfl rfl ?_
      try simp only [List.cons_append, List.nil_append, List.flatten_cons, List.flatten_nil, List.append_nil]
      refine r_inbT rfl rfl (by omega) (by omega) (fun e11 he11 hr11 => ?_)
      try simp only [List.cons_append, List.nil_append, List.flatten_cons, List.flatten_nil, List.append_nil]
      refine r_get1 rfl rfl hr11 rfl rfl ?_
      try simp only [List.cons_append, List.nil_append, List.flatten_cons, List.flatten_nil, List.append_nil]
      first | refine r_neq rfl rfl ?_ | refine r_neqS rfl rfl ?_
      try simp only [List.cons_append, List.nil_append, List.flatten_cons, List.flatten_nil, List.append_nil]
      first | refine r_iteP rfl (fun h14 => ?_) (fun h14 => ?_) | refine r_iteNP rfl (fun h14 => ?_) (fun h14 => ?_) | refine r_iteN rfl (fun h14 => ?_) (fun h14 => ?_) | refine r_ite rfl (fun h14 => ?_) (fun h14 => ?_)
      · refine r_ret rfl ?_
        refine ⟨_, rfl, ?_⟩
        simp only [Bool.false_eq_true, false_iff]
        rintro rfl
        rw [he9] at he11
        exact h14 (Option.some.inj he11)
      · first | refine r_add rfl rfl (by simp only [inR] at *; omega) ?_ | refine r_addS rfl rfl (by omega) ?_
        try simp only [List.cons_append, List.nil_append, List.flatten_cons, List.flatten_nil, List.append_nil]
        refine r_again ⟨_, ?_, _, rfl, by omega, by omega, fun j hji => ?_, rfl⟩
        · omega
        · by_cases hjj : j < i
          · exact hj j hjj
          · have : j = i.toNat := by omega
            subst this
            rw [he9, he11, Decidable.not_not.1 h14]
    · refine r_ret rfl ?_
      refine ⟨_, rfl, ?_⟩
      simp only [true_iff]
      apply List.ext_getElem?
      intro j
      by_cases hjl : j < ls.length
      · exact hj j (by omega)
      · rw [List.getElem?_eq_none (by omega), List.getElem?_eq_none (by omega)]

theorem w103 {ls ls' : List ByteArray} (hl : strsOk ls) (hl' : strsOk ls') : ∃ rs, Big tab (.fn 103 [[strs ls], [strs ls']] rs) ∧ ∃ b, rs = [[.bool b]] ∧ (b = true ↔ ls = ls') := w103g (K := 103) rfl c103 hl hl'
theorem w98a {us : List Val} {left : Int} (hal : us.length ≤ maxLen) (h0 : 0 ≤ left) (h1 : left ≤ 9223372036854775807)
    (ih : ∀ v ∈ us, ∀ lf : Int, 0 ≤ lf → lf ≤ left → ∃ rs, Big tab (.fn 76 [v.row, [I lf]] rs) ∧ ∃ x, rs = [[I x]] ∧ (x = -1 ∨ (0 ≤ x ∧ x + v.wt ≤ lf))) :
    ∃ rs, Big tab (.fn 98 [[vals us], [I left]] rs) ∧ ∃ r, rs = [[I r]] ∧ (r = -1 ∨ (0 ≤ r ∧ r + (us.length + (us.map Val.wt).sum : Nat) ≤ left)) :=
  szListT (F := tab) (k := 98) (w := 5) (fls := [true, true, true, false, false]) (callee := 76) Val.row rfl c98 Val.wt rfl hal Val.row_flat h0 h1 ih

/-- laws.szValue -/
theorem w76a {k n : Int} {s : ByteArray} {ls : List ByteArray} {us : List Val} {left : Int} (hs : s.size ≤ maxLen) (hls : strsOk ls) (hal : us.length ≤ maxLen) (h0 : 0 ≤ left) (h1 : left ≤ 9223372036854775807) (ih : ∀ v ∈ us, ∀ lf : Int, 0 ≤ lf → lf ≤ left → ∃ rs, Big tab (.fn 76 [v.row, [I lf]] rs) ∧ ∃ x, rs = [[I x]] ∧ (x = -1 ∨ (0 ≤ x ∧ x + v.wt ≤ lf))) : ∃ rs, Big tab (.fn 76 [[I k, I n, .str s, strs ls, vals us], [I left]] rs) ∧ ∃ r, rs = [[I r]] ∧ (r = -1 ∨ (0 ≤ r ∧ r + (Val.mk k n s ls us).wt ≤ left)) := by
  have hm : maxLen = 9223372036854775807 := rfl
  refine tr_sound rfl c76 rfl ?_
  show wp _ _ _ _ [I k, I n, .str s, strs ls, vals us, I left]
  refine r_lenS rfl ?_
  try simp only [List.cons_append, List.nil_append, List.flatten_cons, List.flatten_nil, List.append_nil]
  first | refine r_sub rfl rfl (by simp only [inR] at *; omega) ?_
  try simp only [List.cons_append, List.nil_append, List.flatten_cons, List.flatten_nil, List.append_nil]
  first | refine r_lss rfl rfl ?_ | refine r_lssS rfl rfl ?_
  try simp only [List.cons_append, List.nil_append, List.flatten_cons, List.flatten_nil, List.append_nil]
  first | refine r_iteP rfl (fun h3 => ?_) (fun h3 => ?_) | refine r_iteNP rfl (fun h3 => ?_) (fun h3 => ?_) | refine r_iteN rfl (fun h3 => ?_) (fun h3 => ?_) | refine r_ite rfl (fun h3 => ?_) (fun h3 => ?_)
  · refine r_ret rfl ?_
    exact ⟨_, rfl, Or.inl rfl⟩
  · refine r_callQ (w97 hls (by omega) (by omega)) rfl ?_
    rintro _ ⟨r5, rfl, hr5⟩
    refine ⟨rfl, ?_⟩
    try simp only [List.cons_append, List.nil_append, List.flatten_cons, List.flatten_nil, List.append_nil]
    first | refine r_lss rfl rfl ?_ | refine r_lssS rfl rfl ?_
    try simp only [List.cons_append, List.nil_append, List.flatten_cons, List.flatten_nil, List.append_nil]
    first | refine r_iteP rfl (fun h7 => ?_) (fun h7 => ?_) | refine r_iteNP rfl (fun h7 => ?_) (fun h7 => ?_) | refine r_iteN rfl (fun h7 => ?_) (fun h7 => ?_) | refine r_ite rfl (fun h7 => ?_) (fun h7 => ?_)
    · refine r_ret rfl ?_
      exact ⟨_, rfl, Or.inl rfl⟩
    · refine r_callQ (w98a hal (by omega) (by omega) (fun v hv lf a b => ih v hv lf a (by omega))) rfl ?_
      rintro _ ⟨r9, rfl, hr9⟩
      refine ⟨rfl, ?_⟩
      try simp only [List.cons_append, List.nil_append, List.flatten_cons, List.flatten_nil, List.append_nil]
      first | refine r_lss rfl rfl ?_ | refine r_lssS rfl rfl ?_
      try simp only [List.cons_append, List.nil_append, List.flatten_cons, List.flatten_nil, List.append_nil]
      first | refine r_iteP rfl (fun h11 => ?_) (fun h11 => ?_) | refine r_iteNP rfl (fun h11 => ?_) (fun h11 => ?_) | refine r_iteN rfl (fun h11 => ?_) (fun h11 => ?_) | refine r_ite rfl (fun h11 => ?_) (fun h11 => ?_)
      · refine r_ret rfl ?_
        exact ⟨_, rfl, Or.inl rfl⟩
      · refine r_ret rfl ?_
        exact ⟨_, rfl, Or.inr ⟨by omega, by rw [Val.wt_mk]; omega⟩⟩

theorem w76 {v : Val} (hv : v.ok) : ∀ {left : Int}, 0 ≤ left → left ≤ 9223372036854775807 → ∃ rs, Big tab (.fn 76 [v.row, [I left]] rs) ∧ ∃ r, rs = [[I r]] ∧ (r = -1 ∨ (0 ≤ r ∧ r + v.wt ≤ left)) := by
  induction v using Val.ind with
  | h k n s ls us ih =>
    intro left h0 h1
    obtain ⟨_, _, hs, hls, hal, has⟩ := hv
    rw [Val.row_mk]
    exact w76a hs hls hal h0 h1 fun v hv lf a b => ih v hv (has v hv) a (by omega)
theorem w98 {us : List Val} {left : Int} (hal : us.length ≤ maxLen) (has : ∀ v ∈ us, v.ok) (h0 : 0 ≤ left) (h1 : left ≤ 9223372036854775807) :
    ∃ rs, Big tab (.fn 98 [[vals us], [I left]] rs) ∧ ∃ r, rs = [[I r]] ∧ (r = -1 ∨ (0 ≤ r ∧ r + (us.length + (us.map Val.wt).sum : Nat) ≤ left)) :=
  w98a hal h0 h1 fun v hv lf a b => w76 (has v hv) a (by omega)
theorem vals_rows {us : List Val} : ∀ r ∈ us.map Val.row, r.map PV.flat = [true, true, true, false, false] := by
  intro r hr; obtain ⟨v, hv, rfl⟩ := List.mem_map.1 hr; exact Val.row_flat v
theorem w101a {us : List Val} (hal : us.length ≤ 1099511627776) (ih : ∀ v ∈ us, ∃ rs, Big tab (.fn 78 [v.row] rs) ∧ rs = [v.row]) : ∃ rs, Big tab (.fn 101 [[vals us]] rs) ∧ rs = [[vals us]] :=
  toList (F := tab) (k := 101) (w := 5) (fls := [true, true, true, false, false]) (callee := 78) (zs := [I0, I0, S0, Z 1, Z 5]) rfl c101 rfl rfl (by simpa using hal) vals_rows fun r hr => by
    obtain ⟨v, hv, rfl⟩ := List.mem_map.1 hr; exact ih v hv

/-- laws.toValue -/
theorem w78a {k n : Int} {s : ByteArray} {ls : List ByteArray} {us : List Val} (hl : ls.length ≤ 1099511627776) (hal : us.length ≤ 1099511627776) (ih : ∀ v ∈ us, ∃ rs, Big tab (.fn 78 [v.row] rs) ∧ rs = [v.row]) : ∃ rs, Big tab (.fn 78 [[I k, I n, .str s, strs ls, vals us]] rs) ∧ rs = [[I k, I n, .str s, strs ls, vals us]] := by
  refine tr_sound rfl c78 rfl ?_
  show wp _ _ _ _ [I k, I n, .str s, strs ls, vals us]
  refine r_callQ (w100 hl) rfl ?_
  rintro _ rfl
  refine ⟨rfl, ?_⟩
  try simp only [List.cons_append, List.nil_append, List.flatten_cons, List.flatten_nil, List.append_nil]
  refine r_callQ (w101a hal ih) rfl ?_
  rintro _ rfl
  refine ⟨rfl, ?_⟩
  try simp only [List.cons_append, List.nil_append, List.flatten_cons, List.flatten_nil, List.append_nil]
  refine r_ret rfl ?_
  rfl

theorem Val.wt_len {k n s ls us} : ls.length ≤ (Val.mk k n s ls us).wt ∧ us.length ≤ (Val.mk k n s ls us).wt ∧ ∀ v ∈ us, Val.wt v ≤ (Val.mk k n s ls us).wt := by
  rw [Val.wt_mk]
  refine ⟨by omega, by omega, fun v hv => ?_⟩
  have := mem_sum (f := Val.wt) hv
  omega
theorem w78 {v : Val} (hw : v.wt ≤ 1099511627776) : ∃ rs, Big tab (.fn 78 [v.row] rs) ∧ rs = [v.row] := by
  induction v using Val.ind with
  | h k n s ls us ih =>
    obtain ⟨h1, h2, h3⟩ := Val.wt_len (k := k) (n := n) (s := s) (ls := ls) (us := us)
    rw [Val.row_mk]
    exact w78a (by omega) (by omega) fun v hv => ih v hv (by have := h3 v hv; omega)
theorem w104a {us us' : List Val} (hal : us.length ≤ maxLen) (hal' : us'.length ≤ maxLen) (ih : ∀ v ∈ us, ∀ v' ∈ us', ∃ rs, Big tab (.fn 81 [v.row, v'.row] rs) ∧ ∃ b, rs = [[.bool b]] ∧ (b = true ↔ v = v')) :
    ∃ rs, Big tab (.fn 104 [[vals us], [vals us']] rs) ∧ ∃ b, rs = [[.bool b]] ∧ (b = true ↔ us = us') := by
  obtain ⟨rs, hb, b, rfl, h⟩ := eqList (F := tab) (k := 104) (w := 5) (fls := [true, true, true, false, false]) (callee := 81) rfl c104 (xs := us.map Val.row) (ys := us'.map Val.row) rfl (by rw [List.length_map]; exact hal) (by rw [List.length_map]; exact hal') vals_rows vals_rows fun r hr r' hr' => by
    obtain ⟨v, hv, rfl⟩ := List.mem_map.1 hr
    obtain ⟨v', hv', rfl⟩ := List.mem_map.1 hr'
    obtain ⟨rs, hb, b, rfl, h⟩ := ih v hv v' hv'
    exact ⟨_, hb, b, rfl, h.trans ⟨fun h => by rw [h], Val.row_inj⟩⟩
  exact ⟨_, hb, b, rfl, h.trans ⟨vals_inj, fun h => by rw [h]⟩⟩

/-- laws.eqValue -/
theorem w81a {k n : Int} {s : ByteArray} {ls : List ByteArray} {us : List Val} {k' n' : Int} {s' : ByteArray} {ls' : List ByteArray} {us' : List Val} (hl : strsOk ls) (hl' : strsOk ls') (hal : us.length ≤ maxLen) (hal' : us'.length ≤ maxLen) (ih : ∀ v ∈ us, ∀ v' ∈ us', ∃ rs, Big tab (.fn 81 [v.row, v'.row] rs) ∧ ∃ b, rs = [[.bool b]] ∧ (b = true ↔ v = v')) : ∃ rs, Big tab (.fn 81 [[I k, I n, .str s, strs ls, vals us], [I k', I n', .str s', strs ls', vals us']] rs) ∧ ∃ b, rs = [[.bool b]] ∧ (b = true ↔ Val.mk k n s ls us = Val.mk k' n' s' ls' us') := by
  refine tr_sound rfl c81 rfl ?_
  show wp _ _ _ _ [I k, I n, .str s, strs ls, vals us, I k', I n', .str s', strs ls', vals us']
  first | refine r_neq rfl rfl ?_ | refine r_neqS rfl rfl ?_
  try simp only [List.cons_append, List.nil_append, List.flatten_cons, List.flatten_nil, List.append_nil]
  first | refine r_iteP rfl (fun h1 => ?_) (fun h1 => ?_) | refine r_iteNP rfl (fun h1 => ?_) (fun h1 => ?_) | refine r_iteN rfl (fun h1 => ?_) (fun h1 => ?_) | refine r_ite rfl (fun h1 => ?_) (fun h1 => ?_)
  · refine r_ret rfl ?_
    exact ⟨_, rfl, by simp; intro h; exact absurd h h1⟩
  · first | refine r_neq rfl rfl ?_ | refine r_neqS rfl rfl ?_
    try simp only [List.cons_append, List.nil_append, List.flatten_cons, List.flatten_nil, List.append_nil]
    first | refine r_iteP rfl (fun h4 => ?_) (fun h4 => ?_) | refine r_iteNP rfl (fun h4 => ?_) (fun h4 => ?_) | refine r_iteN rfl (fun h4 => ?_) (fun h4 => ?_) | refine r_ite rfl (fun h4 => ?_) (fun h4 => ?_)
    · refine r_ret rfl ?_
      exact ⟨_, rfl, by simp; intro _ h; exact absurd h h4⟩
    · first | refine r_neq rfl rfl ?_ | refine r_neqS rfl rfl ?_
      try simp only [List.cons_append, List.nil_append, List.flatten_cons, List.flatten_nil, List.append_nil]
      first | refine r_iteP rfl (fun h7 => ?_) (fun h7 => ?_) | refine r_iteNP rfl (fun h7 => ?_) (fun h7 => ?_) | refine r_iteN rfl (fun h7 => ?_) (fun h7 => ?_) | refine r_ite rfl (fun h7 => ?_) (fun h7 => ?_)
      · refine r_ret rfl ?_
        exact ⟨_, rfl, by simp; intro _ _ h; exact absurd h h7⟩
      · refine r_callQ (w103 hl hl') rfl ?_
        rintro _ ⟨r9, rfl, hr9⟩
        refine ⟨rfl, ?_⟩
        try simp only [List.cons_append, List.nil_append, List.flatten_cons, List.flatten_nil, List.append_nil]
        refine r_not rfl ?_
        try simp only [List.cons_append, List.nil_append, List.flatten_cons, List.flatten_nil, List.append_nil]
        first | refine r_iteP rfl (fun h11 => ?_) (fun h11 => ?_) | refine r_iteNP rfl (fun h11 => ?_) (fun h11 => ?_) | refine r_iteN rfl (fun h11 => ?_) (fun h11 => ?_) | refine r_ite rfl (fun h11 => ?_) (fun h11 => ?_)
        · refine r_ret rfl ?_
          exact ⟨_, rfl, by rw [h11] at hr9; simp at hr9; simp; intro _ _ _ h; exact absurd h hr9⟩
        · refine r_callQ (w104a hal hal' ih) rfl ?_
          rintro _ ⟨r13, rfl, hr13⟩
          refine ⟨rfl, ?_⟩
          try simp only [List.cons_append, List.nil_append, List.flatten_cons, List.flatten_nil, List.append_nil]
          refine r_not rfl ?_
          try simp only [List.cons_append, List.nil_append, List.flatten_cons, List.flatten_nil, List.append_nil]
          first | refine r_iteP rfl (fun h15 => ?_) (fun h15 => ?_) | refine r_iteNP rfl (fun h15 => ?_) (fun h15 => ?_) | refine r_iteN rfl (fun h15 => ?_) (fun h15 => ?_) | refine r_ite rfl (fun h15 => ?_) (fun h15 => ?_)
          · refine r_ret rfl ?_
            exact ⟨_, rfl, by rw [h15] at hr13; simp at hr13; simp; intro _ _ _ _ h; exact absurd h hr13⟩
          · refine r_ret rfl ?_
            exact ⟨_, rfl, by simp; exact ⟨Decidable.not_not.1 h1, Decidable.not_not.1 h4, Decidable.not_not.1 h7, hr9.1 h11, hr13.1 h15⟩⟩

theorem w81 {v : Val} (hv : v.ok) : ∀ {v' : Val}, v'.ok → ∃ rs, Big tab (.fn 81 [v.row, v'.row] rs) ∧ ∃ b, rs = [[.bool b]] ∧ (b = true ↔ v = v') := by
  induction v using Val.ind with
  | h k n s ls us ih =>
    intro v' hv'
    obtain ⟨_, _, hs, hls, hal, has⟩ := hv
    obtain ⟨_, _, hs', hls', hal', has'⟩ := hv'
    rw [Val.row_mk, Val.row_mk]
    exact w81a hls hls' hal hal' fun v hv v' hv' => ih v hv (has v hv) (has' v' hv')
end Go.Proofs.Ytkiliooegoldoaa
