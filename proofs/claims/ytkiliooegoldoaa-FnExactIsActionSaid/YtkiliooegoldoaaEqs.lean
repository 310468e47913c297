/- Walks: Eqs -/
import Derived.Test.YtkiliooegoldoaaTypes
set_option linter.unusedVariables false
set_option linter.unusedSimpArgs false
namespace Go.Proofs.Ytkiliooegoldoaa
open Go

theorem eqStep {α : Type} {l l' : List α} {i : Int} (h0 : 0 ≤ i) (hj : ∀ j : Nat, (j : Int) < i → l[j]? = l'[j]?) (h : l[i.toNat]? = l'[i.toNat]?) : ∀ j : Nat, (j : Int) < i + 1 → l[j]? = l'[j]? := by
  intro j hlt
  by_cases hji : (j : Int) < i
  · exact hj j hji
  · have : j = i.toNat := by omega
    subst this
    exact h
theorem eqAll {α : Type} {l l' : List α} {i : Int} (hl : l.length = l'.length) (hi : ¬ i < l.length) (hj : ∀ j : Nat, (j : Int) < i → l[j]? = l'[j]?) : l = l' := by
  apply List.ext_getElem?
  intro j
  by_cases hjl : j < l.length
  · exact hj j (by omega)
  · rw [List.getElem?_eq_none (by omega), List.getElem?_eq_none (by omega)]
theorem w208 {ls ls' : List ByteArray} (hl : strsOk ls) (hl' : strsOk ls') : ∃ rs, Big tab (.fn 208 [[strs ls], [strs ls']] rs) ∧ ∃ b, rs = [[.bool b]] ∧ (b = true ↔ ls = ls') := w103g (K := 208) rfl c208 hl hl'

/-- impl.sameStrings -/
theorem w210 {ls ls' : List ByteArray} (hl : strsOk ls) (hl' : strsOk ls') : ∃ rs, Big tab (.fn 210 [[strs ls], [strs ls']] rs) ∧ ∃ b, rs = [[.bool b]] ∧ (b = true ↔ ls = ls') := by
  have hm : maxLen = 9223372036854775807 := rfl
  obtain ⟨hl1, hl2⟩ := hl
  obtain ⟨hl1', hl2'⟩ := hl'
  have hlen : (ls.map strRow).length = ls.length := List.length_map ..
  have hlen' : (ls'.map strRow).length = ls'.length := List.length_map ..
  refine tr_sound rfl c210 rfl ?_
  show wp _ _ _ _ [strs ls, strs ls']
  refine r_len rfl ?_
  try simp only [List.cons_append, List.nil_append, List.flatten_cons, List.flatten_nil, List.append_nil]
  refine r_len rfl ?_
  try simp only [List.cons_append, List.nil_append, List.flatten_cons, List.flatten_nil, List.append_nil]
  first | refine r_neq rfl rfl ?_ | refine r_neqS rfl rfl ?_
  try simp only [List.cons_append, List.nil_append, List.flatten_cons, List.flatten_nil, List.append_nil]
  first | refine r_iteP rfl (fun h3 => ?_) (fun h3 => ?_) | refine r_iteNP rfl (fun h3 => ?_) (fun h3 => ?_) | refine r_iteN rfl (fun h3 => ?_) (fun h3 => ?_) | refine r_ite rfl (fun h3 => ?_) (fun h3 => ?_)
  · refine r_ret rfl ?_
    exact ⟨_, rfl, by simp; rintro rfl; exact h3 rfl⟩
  · refine r_len rfl ?_
    try simp only [List.cons_append, List.nil_append, List.flatten_cons, List.flatten_nil, List.append_nil]
    refine r_loop (fun m vs => ∃ i : Int, vs = [I i] ∧ 0 ≤ i ∧ i ≤ ls.length ∧ (∀ j : Nat, (j : Int) < i → ls[j]? = ls'[j]?) ∧ m = (ls.length - i).toNat) _ ⟨_, rfl, by omega, by omega, fun j hj => by omega, rfl⟩ ?_
    rintro m _ ⟨i, rfl, hi0, hi1, hj, rfl⟩
    try simp only [List.cons_append, List.nil_append, List.flatten_cons, List.flatten_nil, List.append_nil]
    first | refine r_lss rfl rfl ?_ | refine r_lssS rfl rfl ?_
    try simp only [List.cons_append, List.nil_append, List.flatten_cons, List.flatten_nil, List.append_nil]
    first | refine r_iteP rfl (fun h8 => ?_) (fun h8 => ?_) | refine r_iteNP rfl (fun h8 => ?_) (fun h8 => ?_) | refine r_iteN rfl (fun h8 => ?_) (fun h8 => ?_) | refine r_ite rfl (fun h8 => ?_) (fun h8 => ?_)
    · refine r_inbT rfl rfl (by omega) (by omega) (fun e9 he9 hr9 => ?_)
      try simp only [List.cons_append, List.nil_append, List.flatten_cons, List.flatten_nil, List.append_nil]
      refine r_get1 rfl rfl hr9 rfl rfl ?_
      try simp only [List.cons_append, List.nil_append, List.flatten_cons, List.flatten_nil, List.append_nil]
      refine r_inbT rfl rfl (by omega) (by omega) (fun e11 he11 hr11 => ?_)
      try simp only [List.cons_append, List.nil_append, List.flatten_cons, List.flatten_nil, List.append_nil]
      refine r_get1 rfl rfl hr11 rfl rfl ?_
      try simp only [List.cons_append, List.nil_append, List.flatten_cons, List.flatten_nil, List.append_nil]
      first | refine r_neq rfl rfl ?_ | refine r_neqS rfl rfl ?_
      try simp only [List.cons_append, List.nil_append, List.flatten_cons, List.flatten_nil, List.append_nil]
      first | refine r_iteP rfl (fun h14 => ?_) (fun h14 => ?_) | refine r_iteNP rfl (fun h14 => ?_) (fun h14 => ?_) | refine r_iteN rfl (fun h14 => ?_) (fun h14 => ?_) | refine r_ite rfl (fun h14 => ?_) (fun h14 => ?_)
      · refine r_ret rfl ?_
        exact ⟨_, rfl, iffF (by rintro rfl; rw [he9] at he11; exact h14 (Option.some.inj he11))⟩
      · first | refine r_add rfl rfl (by simp only [inR] at *; omega) ?_ | refine r_addS rfl rfl (by omega) ?_
        try simp only [List.cons_append, List.nil_append, List.flatten_cons, List.flatten_nil, List.append_nil]
        exact r_again ⟨_, by omega, _, rfl, by omega, by omega, eqStep hi0 hj (by rw [he9, he11, Decidable.not_not.1 h14]), rfl⟩
    · refine r_ret rfl ?_
      exact ⟨_, rfl, iffT (eqAll (by omega) (by omega) hj)⟩

/-- impl.sameValues -/
theorem w211a {us us' : List Val} (hal : us.length ≤ maxLen) (hal' : us'.length ≤ maxLen) (ih : ∀ v ∈ us, ∀ v' ∈ us', ∃ rs, Big tab (.fn 178 [v.row, v'.row] rs) ∧ ∃ b, rs = [[.bool b]] ∧ (b = true ↔ v = v')) : ∃ rs, Big tab (.fn 211 [[vals us], [vals us']] rs) ∧ ∃ b, rs = [[.bool b]] ∧ (b = true ↔ us = us') := by
  have hm : maxLen = 9223372036854775807 := rfl
  have hlen : (us.map Val.row).length = us.length := List.length_map ..
  have hlen' : (us'.map Val.row).length = us'.length := List.length_map ..
  refine tr_sound rfl c211 rfl ?_
  show wp _ _ _ _ [vals us, vals us']
  refine r_len rfl ?_
  try simp only [List.cons_append, List.nil_append, List.flatten_cons, List.flatten_nil, List.append_nil]
  refine r_len rfl ?_
  try simp only [List.cons_append, List.nil_append, List.flatten_cons, List.flatten_nil, List.append_nil]
  first | refine r_neq rfl rfl ?_ | refine r_neqS rfl rfl ?_
  try simp only [List.cons_append, List.nil_append, List.flatten_cons, List.flatten_nil, List.append_nil]
  first | refine r_iteP rfl (fun h3 => ?_) (fun h3 => ?_) | refine r_iteNP rfl (fun h3 => ?_) (fun h3 => ?_) | refine r_iteN rfl (fun h3 => ?_) (fun h3 => ?_) | refine r_ite rfl (fun h3 => ?_) (fun h3 => ?_)
  · refine r_ret rfl ?_
    exact ⟨_, rfl, iffF (by rintro rfl; exact h3 rfl)⟩
  · refine r_len rfl ?_
    try simp only [List.cons_append, List.nil_append, List.flatten_cons, List.flatten_nil, List.append_nil]
    refine r_loop (fun m vs => ∃ i : Int, vs = [I i] ∧ 0 ≤ i ∧ i ≤ us.length ∧ (∀ j : Nat, (j : Int) < i → us[j]? = us'[j]?) ∧ m = (us.length - i).toNat) _ ⟨_, rfl, by omega, by omega, fun j hj => by omega, rfl⟩ ?_
    rintro m _ ⟨i, rfl, hi0, hi1, hj, rfl⟩
    try simp only [List.cons_append, List.nil_append, List.flatten_cons, List.flatten_nil, List.append_nil]
    first | refine r_lss rfl rfl ?_ | refine r_lssS rfl rfl ?_
    try simp only [List.cons_append, List.nil_append, List.flatten_cons, List.flatten_nil, List.append_nil]
    first | refine r_iteP rfl (fun h8 => ?_) (fun h8 => ?_) | refine r_iteNP rfl (fun h8 => ?_) (fun h8 => ?_) | refine r_iteN rfl (fun h8 => ?_) (fun h8 => ?_) | refine r_ite rfl (fun h8 => ?_) (fun h8 => ?_)
    · refine r_inbT rfl rfl (by omega) (by omega) (fun e9 he9 hr9 => ?_)
      try simp only [List.cons_append, List.nil_append, List.flatten_cons, List.flatten_nil, List.append_nil]
      have ih22 := ih e9 (List.mem_of_getElem? he9)
      obtain ⟨k22, n22, s22, l22, u22⟩ := e9
      rw [Val.row_mk] at hr9 ih22
      refine r_get1 rfl rfl hr9 rfl rfl ?_
      try simp only [List.cons_append, List.nil_append, List.flatten_cons, List.flatten_nil, List.append_nil]
      refine r_get1 rfl rfl hr9 rfl rfl ?_
      try simp only [List.cons_append, List.nil_append, List.flatten_cons, List.flatten_nil, List.append_nil]
      refine r_get1 rfl rfl hr9 rfl rfl ?_
      try simp only [List.cons_append, List.nil_append, List.flatten_cons, List.flatten_nil, List.append_nil]
      refine r_get1 rfl rfl hr9 rfl rfl ?_
      try simp only [List.cons_append, List.nil_append, List.flatten_cons, List.flatten_nil, List.append_nil]
      refine r_get1 rfl rfl hr9 rfl rfl ?_
      try simp only [List.cons_append, List.nil_append, List.flatten_cons, List.flatten_nil, List.append_nil]
      refine r_inbT rfl rfl (by omega) (by omega) (fun e15 he15 hr15 => ?_)
      try simp only [List.cons_append, List.nil_append, List.flatten_cons, List.flatten_nil, List.append_nil]
      have ih28 := ih22 e15 (List.mem_of_getElem? he15)
      obtain ⟨k28, n28, s28, l28, u28⟩ := e15
      rw [Val.row_mk] at hr15 ih28
      refine r_get1 rfl rfl hr15 rfl rfl ?_
      try simp only [List.cons_append, List.nil_append, List.flatten_cons, List.flatten_nil, List.append_nil]
      refine r_get1 rfl rfl hr15 rfl rfl ?_
      try simp only [List.cons_append, List.nil_append, List.flatten_cons, List.flatten_nil, List.append_nil]
      refine r_get1 rfl rfl hr15 rfl rfl ?_
      try simp only [List.cons_append, List.nil_append, List.flatten_cons, List.flatten_nil, List.append_nil]
      refine r_get1 rfl rfl hr15 rfl rfl ?_
      try simp only [List.cons_append, List.nil_append, List.flatten_cons, List.flatten_nil, List.append_nil]
      refine r_get1 rfl rfl hr15 rfl rfl ?_
      try simp only [List.cons_append, List.nil_append, List.flatten_cons, List.flatten_nil, List.append_nil]
      refine r_callQ ih28 rfl ?_
      rintro _ ⟨r34, rfl, hr34⟩
      refine ⟨rfl, ?_⟩
      try simp only [List.cons_append, List.nil_append, List.flatten_cons, List.flatten_nil, List.append_nil]
      refine r_not rfl ?_
      try simp only [List.cons_append, List.nil_append, List.flatten_cons, List.flatten_nil, List.append_nil]
      first | refine r_iteP rfl (fun h23 => ?_) (fun h23 => ?_) | refine r_iteNP rfl (fun h23 => ?_) (fun h23 => ?_) | refine r_iteN rfl (fun h23 => ?_) (fun h23 => ?_) | refine r_ite rfl (fun h23 => ?_) (fun h23 => ?_)
      · refine r_ret rfl ?_
        exact ⟨_, rfl, iffF (by rintro rfl; rw [he15] at he9; rw [hr34.2 (Option.some.inj he9).symm] at h23; cases h23)⟩
      · first | refine r_add rfl rfl (by simp only [inR] at *; omega) ?_ | refine r_addS rfl rfl (by omega) ?_
        try simp only [List.cons_append, List.nil_append, List.flatten_cons, List.flatten_nil, List.append_nil]
        exact r_again ⟨_, by omega, _, rfl, by omega, by omega, eqStep hi0 hj (by rw [he9, he15, hr34.1 h23]), rfl⟩
    · refine r_ret rfl ?_
      exact ⟨_, rfl, iffT (eqAll (by omega) (by omega) hj)⟩

/-- impl.EqualValue -/
theorem w178a {k n : Int} {s : ByteArray} {ls : List ByteArray} {us : List Val} {k' n' : Int} {s' : ByteArray} {ls' : List ByteArray} {us' : List Val} (hl : strsOk ls) (hl' : strsOk ls') (hal : us.length ≤ maxLen) (hal' : us'.length ≤ maxLen) (ih : ∀ v ∈ us, ∀ v' ∈ us', ∃ rs, Big tab (.fn 178 [v.row, v'.row] rs) ∧ ∃ b, rs = [[.bool b]] ∧ (b = true ↔ v = v')) : ∃ rs, Big tab (.fn 178 [[I k, I n, .str s, strs ls, vals us], [I k', I n', .str s', strs ls', vals us']] rs) ∧ ∃ b, rs = [[.bool b]] ∧ (b = true ↔ Val.mk k n s ls us = Val.mk k' n' s' ls' us') := by
  rw [Val.mk.injEq]
  refine tr_sound rfl c178 rfl ?_
  show wp _ _ _ _ [I k, I n, .str s, strs ls, vals us, I k', I n', .str s', strs ls', vals us']
  first | refine r_eql rfl rfl ?_ | refine r_eqlS rfl rfl ?_
  try simp only [List.cons_append, List.nil_append, List.flatten_cons, List.flatten_nil, List.append_nil]
  first | refine r_iteP rfl (fun h1 => ?_) (fun h1 => ?_) | refine r_iteNP rfl (fun h1 => ?_) (fun h1 => ?_) | refine r_iteN rfl (fun h1 => ?_) (fun h1 => ?_) | refine r_ite rfl (fun h1 => ?_) (fun h1 => ?_)
  · first | refine r_eql rfl rfl ?_ | refine r_eqlS rfl rfl ?_
    try simp only [List.cons_append, List.nil_append, List.flatten_cons, List.flatten_nil, List.append_nil]
    first | refine r_iteP rfl (fun h3 => ?_) (fun h3 => ?_) | refine r_iteNP rfl (fun h3 => ?_) (fun h3 => ?_) | refine r_iteN rfl (fun h3 => ?_) (fun h3 => ?_) | refine r_ite rfl (fun h3 => ?_) (fun h3 => ?_)
    · first | refine r_eql rfl rfl ?_ | refine r_eqlS rfl rfl ?_
      try simp only [List.cons_append, List.nil_append, List.flatten_cons, List.flatten_nil, List.append_nil]
      first | refine r_iteP rfl (fun h5 => ?_) (fun h5 => ?_) | refine r_iteNP rfl (fun h5 => ?_) (fun h5 => ?_) | refine r_iteN rfl (fun h5 => ?_) (fun h5 => ?_) | refine r_ite rfl (fun h5 => ?_) (fun h5 => ?_)
      · refine r_callQ (w210 hl hl') rfl ?_
        rintro _ ⟨r6, rfl, hr6⟩
        refine ⟨rfl, ?_⟩
        try simp only [List.cons_append, List.nil_append, List.flatten_cons, List.flatten_nil, List.append_nil]
        first | refine r_iteP rfl (fun h7 => ?_) (fun h7 => ?_) | refine r_iteNP rfl (fun h7 => ?_) (fun h7 => ?_) | refine r_iteN rfl (fun h7 => ?_) (fun h7 => ?_) | refine r_ite rfl (fun h7 => ?_) (fun h7 => ?_)
        · refine r_callQ (w211a hal hal' ih) rfl ?_
          rintro _ ⟨r8, rfl, hr8⟩
          refine ⟨rfl, ?_⟩
          try simp only [List.cons_append, List.nil_append, List.flatten_cons, List.flatten_nil, List.append_nil]
          refine r_ret rfl ?_
          exact ⟨_, rfl, hr8.trans ⟨fun h => ⟨h1, h3, h5, hr6.1 h7, h⟩, fun h => h.2.2.2.2⟩⟩
        · refine r_ret rfl ?_
          exact ⟨_, rfl, iffF (fun h => by rw [hr6.2 h.2.2.2.1] at h7; cases h7)⟩
      · refine r_ret rfl ?_
        exact ⟨_, rfl, iffF (fun h => h5 h.2.2.1)⟩
    · refine r_ret rfl ?_
      exact ⟨_, rfl, iffF (fun h => h3 h.2.1)⟩
  · refine r_ret rfl ?_
    exact ⟨_, rfl, iffF (fun h => h1 h.1)⟩

theorem w178 {v : Val} (hv : v.ok) : ∀ {v' : Val}, v'.ok → ∃ rs, Big tab (.fn 178 [v.row, v'.row] rs) ∧ ∃ b, rs = [[.bool b]] ∧ (b = true ↔ v = v') := by
  induction v using Val.ind with
  | h k n s ls us ih =>
    intro v' hv'
    obtain ⟨_, _, hs, hls, hal, has⟩ := hv
    obtain ⟨_, _, hs', hls', hal', has'⟩ := hv'
    rw [Val.row_mk, Val.row_mk]
    exact w178a hls hls' hal hal' fun v hv v' hv' => ih v hv (has v hv) (has' v' hv')
theorem w178m {k n : Int} {s : ByteArray} {ls : List ByteArray} {us : List Val} {k' n' : Int} {s' : ByteArray} {ls' : List ByteArray} {us' : List Val} (hv : (Val.mk k n s ls us).ok) (hv' : (Val.mk k' n' s' ls' us').ok) :
    ∃ rs, Big tab (.fn 178 [[I k, I n, .str s, strs ls, vals us], [I k', I n', .str s', strs ls', vals us']] rs) ∧ ∃ b, rs = [[.bool b]] ∧ (b = true ↔ Val.mk k n s ls us = Val.mk k' n' s' ls' us') := by
  have := w178 hv hv'
  rwa [Val.row_mk, Val.row_mk] at this
end Go.Proofs.Ytkiliooegoldoaa
