/- Walks: Labs -/
import Derived.Test.YtkiliooegoldoaaNames
import Derived.Test.YtkiliooegoldoaaVals
set_option linter.unusedVariables false
set_option linter.unusedSimpArgs false
namespace Go.Proofs.Ytkiliooegoldoaa
open Go

/-! ### Labels -/
def AscL (ls : List ByteArray) : Prop := ∀ (j : Nat) a b, ls[j]? = some a → ls[j + 1]? = some b → Op.bytesLess a.toList b.toList = true
def LabOk (ls : List ByteArray) : Prop := 1 ≤ ls.length ∧ ls.length ≤ 4 ∧ AscL ls ∧ ∀ s ∈ ls, IsNm s
theorem allStep {α : Type} {M : α → Prop} {l : List α} {i : Int} {x0 : α} (h0 : 0 ≤ i) (hj : ∀ (j : Nat) x, (j : Int) < i → l[j]? = some x → M x) (hx : l[i.toNat]? = some x0) (h : M x0) :
    ∀ (j : Nat) x, (j : Int) < i + 1 → l[j]? = some x → M x := by
  intro j x hlt hx'
  by_cases hji : (j : Int) < i
  · exact hj j x hji hx'
  · have : j = i.toNat := by omega
    subst this
    rw [hx] at hx'
    cases hx'
    exact h
theorem allDone {α : Type} {M : α → Prop} {l : List α} {i : Int} (hi : ¬ i < l.length) (hj : ∀ (j : Nat) x, (j : Int) < i → l[j]? = some x → M x) : ∀ x ∈ l, M x := by
  intro x hx
  obtain ⟨j, hjl, he⟩ := List.getElem_of_mem hx
  exact hj j x (by omega) (by rw [List.getElem?_eq_getElem hjl, he])

/-- The first place of a string, or -1. -/
def IdxOf (ls : List ByteArray) (s : ByteArray) (r : Int) : Prop := (0 ≤ r ∧ ls[r.toNat]? = some s ∧ ∀ (j : Nat) x, (j : Int) < r → ls[j]? = some x → x ≠ s) ∨ (r = -1 ∧ ∀ x ∈ ls, x ≠ s)

/-- spec.AreAscending -/
theorem w245g {K : Nat} {FD : AFunc} {HT : Hint} (hF : tab K = some FD) (hc : compFn tab HT FD [[false]] = some t245) {ls : List ByteArray} (hl : strsOk ls) : ∃ rs, Big tab (.fn K [[strs ls]] rs) ∧ ∃ b, rs = [[.bool b]] ∧ (b = true ↔ AscL ls) := by
  have hm : maxLen = 9223372036854775807 := rfl
  obtain ⟨hl1, hl2⟩ := hl
  have hlen : (ls.map strRow).length = ls.length := List.length_map ..
  refine tr_sound hF hc rfl ?_
  show wp _ _ _ _ [strs ls]
  refine r_loop (fun m vs => ∃ i : Int, vs = [I i] ∧ 1 ≤ i ∧ (i ≤ ls.length ∨ i = 1) ∧ (∀ (j : Nat) a b, (j : Int) + 1 < i → ls[j]? = some a → ls[j + 1]? = some b → Op.bytesLess a.toList b.toList = true) ∧ m = (ls.length + 1 - i).toNat) _ ⟨_, rfl, by omega, by omega, fun j a b hj => by omega, rfl⟩ ?_
  rintro m _ ⟨i, rfl, hi0, hi1, hj, rfl⟩
  try simp only [List.cons_append, List.nil_append, List.flatten_cons, List.flatten_nil, List.append_nil]
  refine r_len rfl ?_
  try simp only [List.cons_append, List.nil_append, List.flatten_cons, List.flatten_nil, List.append_nil]
  first | refine r_lss rfl rfl ?_ | refine r_lssS rfl rfl ?_
  try simp only [List.cons_append, List.nil_append, List.flatten_cons, List.flatten_nil, List.append_nil]
  first | refine r_iteP rfl (fun h3 => ?_) (fun h3 => ?_) | refine r_iteNP rfl (fun h3 => ?_) (fun h3 => ?_) | refine r_iteN rfl (fun h3 => ?_) (fun h3 => ?_) | refine r_ite rfl (fun h3 => ?_) (fun h3 => ?_)
  · first | refine r_sub rfl rfl (by simp only [inR] at *; omega) ?_
    try simp only [List.cons_append, List.nil_append, List.flatten_cons, List.flatten_nil, List.append_nil]
    refine r_inbT rfl rfl (by omega) (by omega) (fun e5 he5 hr5 => ?_)
    try simp only [List.cons_append, List.nil_append, List.flatten_cons, List.flatten_nil, List.append_nil]
    have hii : i.toNat = (i - 1).toNat + 1 := by omega
    refine r_get1 rfl rfl hr5 rfl rfl ?_
    try simp only [List.cons_append, List.nil_append, List.flatten_cons, List.flatten_nil, List.append_nil]
    refine r_inbT rfl rfl (by omega) (by omega) (fun e7 he7 hr7 => ?_)
    try simp only [List.cons_append, List.nil_append, List.flatten_cons, List.flatten_nil, List.append_nil]
    refine r_get1 rfl rfl hr7 rfl rfl ?_
    try simp only [List.cons_append, List.nil_append, List.flatten_cons, List.flatten_nil, List.append_nil]
    first | refine r_geq rfl rfl ?_ | refine r_geqS rfl rfl ?_
    try simp only [List.cons_append, List.nil_append, List.flatten_cons, List.flatten_nil, List.append_nil]
    first | refine r_iteP rfl (fun h10 => ?_) (fun h10 => ?_) | refine r_iteNP rfl (fun h10 => ?_) (fun h10 => ?_) | refine r_iteN rfl (fun h10 => ?_) (fun h10 => ?_) | refine r_ite rfl (fun h10 => ?_) (fun h10 => ?_)
    · refine r_ret rfl ?_
      exact ⟨_, rfl, iffF (fun h => by rw [hii] at he7; rw [h _ _ _ he5 he7] at h10; cases h10)⟩
    · first | refine r_add rfl rfl (by simp only [inR] at *; omega) ?_ | refine r_addS rfl rfl (by omega) ?_
      try simp only [List.cons_append, List.nil_append, List.flatten_cons, List.flatten_nil, List.append_nil]
      refine r_again ⟨_, by omega, _, rfl, by omega, by omega, fun j a b hlt ha hb => ?_, rfl⟩
      by_cases hjj : (j : Int) + 1 < i
      · exact hj j a b hjj ha hb
      · have : j = (i - 1).toNat := by omega
        subst this
        rw [hii] at he7
        rw [he5] at ha; rw [he7] at hb; cases ha; cases hb
        exact h10
  · refine r_ret rfl ?_
    exact ⟨_, rfl, iffT (fun j a b ha hb => hj j a b (by have := (List.getElem?_eq_some_iff.1 hb).1; omega) ha hb)⟩

theorem w245 {ls : List ByteArray} (hl : strsOk ls) : ∃ rs, Big tab (.fn 245 [[strs ls]] rs) ∧ ∃ b, rs = [[.bool b]] ∧ (b = true ↔ AscL ls) := w245g (K := 245) rfl c245 hl
theorem w246 {ls : List ByteArray} (hl : strsOk ls) : ∃ rs, Big tab (.fn 246 [[strs ls]] rs) ∧ ∃ b, rs = [[.bool b]] ∧ (b = true ↔ AscL ls) := w245g (K := 246) rfl c246 hl

/-- spec.l3Labels -/
theorem w240 {ls : List ByteArray} (hl : strsOk ls) : ∃ rs, Big tab (.fn 240 [[strs ls]] rs) ∧ ∃ b, rs = [[.bool b]] ∧ (b = true ↔ LabOk ls) := by
  have hm : maxLen = 9223372036854775807 := rfl
  have hl0 := hl
  obtain ⟨hl1, hl2⟩ := hl
  have hlen : (ls.map strRow).length = ls.length := List.length_map ..
  refine tr_sound rfl c240 rfl ?_
  show wp _ _ _ _ [strs ls]
  refine r_loop (fun m vs => ∃ i : Int, vs = [I i] ∧ 0 ≤ i ∧ i ≤ ls.length ∧ (∀ (j : Nat) x, (j : Int) < i → ls[j]? = some x → IsNm x) ∧ m = (ls.length - i).toNat) _ ⟨_, rfl, by omega, by omega, fun j b hj => by omega, rfl⟩ ?_
  rintro m _ ⟨i, rfl, hi0, hi1, hj, rfl⟩
  try simp only [List.cons_append, List.nil_append, List.flatten_cons, List.flatten_nil, List.append_nil]
  refine r_len rfl ?_
  try simp only [List.cons_append, List.nil_append, List.flatten_cons, List.flatten_nil, List.append_nil]
  first | refine r_lss rfl rfl ?_ | refine r_lssS rfl rfl ?_
  try simp only [List.cons_append, List.nil_append, List.flatten_cons, List.flatten_nil, List.append_nil]
  first | refine r_iteP rfl (fun h3 => ?_) (fun h3 => ?_) | refine r_iteNP rfl (fun h3 => ?_) (fun h3 => ?_) | refine r_iteN rfl (fun h3 => ?_) (fun h3 => ?_) | refine r_ite rfl (fun h3 => ?_) (fun h3 => ?_)
  · refine r_inbT rfl rfl (by omega) (by omega) (fun e4 he4 hr4 => ?_)
    try simp only [List.cons_append, List.nil_append, List.flatten_cons, List.flatten_nil, List.append_nil]
    have hs4 := hl2 e4 (List.mem_of_getElem? he4)
    refine r_get1 rfl rfl hr4 rfl rfl ?_
    try simp only [List.cons_append, List.nil_append, List.flatten_cons, List.flatten_nil, List.append_nil]
    refine r_callQ (w62 (by first | assumption | omega | (simp only [inR] at *; omega))) rfl ?_
    rintro _ ⟨r6, rfl, hr6⟩
    refine ⟨rfl, ?_⟩
    try simp only [List.cons_append, List.nil_append, List.flatten_cons, List.flatten_nil, List.append_nil]
    refine r_not rfl ?_
    try simp only [List.cons_append, List.nil_append, List.flatten_cons, List.flatten_nil, List.append_nil]
    first | refine r_iteP rfl (fun h8 => ?_) (fun h8 => ?_) | refine r_iteNP rfl (fun h8 => ?_) (fun h8 => ?_) | refine r_iteN rfl (fun h8 => ?_) (fun h8 => ?_) | refine r_ite rfl (fun h8 => ?_) (fun h8 => ?_)
    · refine r_ret rfl ?_
      exact ⟨_, rfl, iffF (fun h => by rw [hr6.2 (h.2.2.2 _ (List.mem_of_getElem? he4))] at h8; cases h8)⟩
    · first | refine r_add rfl rfl (by simp only [inR] at *; omega) ?_ | refine r_addS rfl rfl (by omega) ?_
      try simp only [List.cons_append, List.nil_append, List.flatten_cons, List.flatten_nil, List.append_nil]
      exact r_again ⟨_, by omega, _, rfl, by omega, by omega, allStep hi0 hj he4 (hr6.1 h8), rfl⟩
  · refine r_len rfl ?_
    try simp only [List.cons_append, List.nil_append, List.flatten_cons, List.flatten_nil, List.append_nil]
    refine r_callQ (w63) rfl ?_
    rintro _ ⟨r13, rfl, hr13⟩
    refine ⟨rfl, ?_⟩
    try simp only [List.cons_append, List.nil_append, List.flatten_cons, List.flatten_nil, List.append_nil]
    first | refine r_iteP rfl (fun h14 => ?_) (fun h14 => ?_) | refine r_iteNP rfl (fun h14 => ?_) (fun h14 => ?_) | refine r_iteN rfl (fun h14 => ?_) (fun h14 => ?_) | refine r_ite rfl (fun h14 => ?_) (fun h14 => ?_)
    · refine r_callQ (w245 (by first | assumption | omega | (simp only [inR] at *; omega))) rfl ?_
      rintro _ ⟨r15, rfl, hr15⟩
      refine ⟨rfl, ?_⟩
      try simp only [List.cons_append, List.nil_append, List.flatten_cons, List.flatten_nil, List.append_nil]
      refine r_ret rfl ?_
      exact ⟨_, rfl, hr15.trans ⟨fun h => ⟨by have := hr13.1 h14; omega, by have := hr13.1 h14; omega, h, allDone (by omega) hj⟩, fun h => h.2.2.1⟩⟩
    · refine r_ret rfl ?_
      exact ⟨_, rfl, iffF (fun h => by rw [hr13.2 ⟨by have := h.1; omega, by have := h.2.1; omega⟩] at h14; cases h14)⟩

/-- impl.labelsOk -/
theorem w241 {ls : List ByteArray} (hl : strsOk ls) : ∃ rs, Big tab (.fn 241 [[strs ls]] rs) ∧ ∃ b, rs = [[.bool b]] ∧ (b = true ↔ LabOk ls) := by
  have hm : maxLen = 9223372036854775807 := rfl
  have hl0 := hl
  obtain ⟨hl1, hl2⟩ := hl
  have hlen : (ls.map strRow).length = ls.length := List.length_map ..
  refine tr_sound rfl c241 rfl ?_
  show wp _ _ _ _ [strs ls]
  refine r_len rfl ?_
  try simp only [List.cons_append, List.nil_append, List.flatten_cons, List.flatten_nil, List.append_nil]
  first | refine r_lss rfl rfl ?_ | refine r_lssS rfl rfl ?_
  try simp only [List.cons_append, List.nil_append, List.flatten_cons, List.flatten_nil, List.append_nil]
  first | refine r_iteP rfl (fun h2 => ?_) (fun h2 => ?_) | refine r_iteNP rfl (fun h2 => ?_) (fun h2 => ?_) | refine r_iteN rfl (fun h2 => ?_) (fun h2 => ?_) | refine r_ite rfl (fun h2 => ?_) (fun h2 => ?_)
  · refine r_ret rfl ?_
    exact ⟨_, rfl, iffF (fun h => by have := h.1; omega)⟩
  · refine r_len rfl ?_
    try simp only [List.cons_append, List.nil_append, List.flatten_cons, List.flatten_nil, List.append_nil]
    refine r_gtr rfl rfl ?_
    try simp only [List.cons_append, List.nil_append, List.flatten_cons, List.flatten_nil, List.append_nil]
    first | refine r_iteP rfl (fun h6 => ?_) (fun h6 => ?_) | refine r_iteNP rfl (fun h6 => ?_) (fun h6 => ?_) | refine r_iteN rfl (fun h6 => ?_) (fun h6 => ?_) | refine r_ite rfl (fun h6 => ?_) (fun h6 => ?_)
    · refine r_ret rfl ?_
      exact ⟨_, rfl, iffF (fun h => by have := h.2.1; omega)⟩
    · refine r_callQ (w246 (by first | assumption | omega | (simp only [inR] at *; omega))) rfl ?_
      rintro _ ⟨r8, rfl, hr8⟩
      refine ⟨rfl, ?_⟩
      try simp only [List.cons_append, List.nil_append, List.flatten_cons, List.flatten_nil, List.append_nil]
      refine r_not rfl ?_
      try simp only [List.cons_append, List.nil_append, List.flatten_cons, List.flatten_nil, List.append_nil]
      first | refine r_iteP rfl (fun h10 => ?_) (fun h10 => ?_) | refine r_iteNP rfl (fun h10 => ?_) (fun h10 => ?_) | refine r_iteN rfl (fun h10 => ?_) (fun h10 => ?_) | refine r_ite rfl (fun h10 => ?_) (fun h10 => ?_)
      · refine r_ret rfl ?_
        exact ⟨_, rfl, iffF (fun h => by rw [hr8.2 h.2.2.1] at h10; cases h10)⟩
      · refine r_len rfl ?_
        try simp only [List.cons_append, List.nil_append, List.flatten_cons, List.flatten_nil, List.append_nil]
        refine r_loop (fun m vs => ∃ i : Int, vs = [I i] ∧ 0 ≤ i ∧ i ≤ ls.length ∧ (∀ (j : Nat) x, (j : Int) < i → ls[j]? = some x → IsNm x) ∧ m = (ls.length - i).toNat) _ ⟨_, rfl, by omega, by omega, fun j b hj => by omega, rfl⟩ ?_
        rintro m _ ⟨i, rfl, hi0, hi1, hj, rfl⟩
        try simp only [List.cons_append, List.nil_append, List.flatten_cons, List.flatten_nil, List.append_nil]
        first | refine r_lss rfl rfl ?_ | refine r_lssS rfl rfl ?_
        try simp only [List.cons_append, List.nil_append, List.flatten_cons, List.flatten_nil, List.append_nil]
        first | refine r_iteP rfl (fun h15 => ?_) (fun h15 => ?_) | refine r_iteNP rfl (fun h15 => ?_) (fun h15 => ?_) | refine r_iteN rfl (fun h15 => ?_) (fun h15 => ?_) | refine r_ite rfl (fun h15 => ?_) (fun h15 => ?_)
        · refine r_inbT rfl rfl (by omega) (by omega) (fun e16 he16 hr16 => ?_)
          try simp only [List.cons_append, List.nil_append, List.flatten_cons, List.flatten_nil, List.append_nil]
          have hs16 := hl2 e16 (List.mem_of_getElem? he16)
          refine r_get1 rfl rfl hr16 rfl rfl ?_
          try simp only [List.cons_append, List.nil_append, List.flatten_cons, List.flatten_nil, List.append_nil]
          refine r_callQ (w64 (by first | assumption | omega | (simp only [inR] at *; omega))) rfl ?_
          rintro _ ⟨r18, rfl, hr18⟩
          refine ⟨rfl, ?_⟩
          try simp only [List.cons_append, List.nil_append, List.flatten_cons, List.flatten_nil, List.append_nil]
          refine r_not rfl ?_
          try simp only [List.cons_append, List.nil_append, List.flatten_cons, List.flatten_nil, List.append_nil]
          first | refine r_iteP rfl (fun h20 => ?_) (fun h20 => ?_) | refine r_iteNP rfl (fun h20 => ?_) (fun h20 => ?_) | refine r_iteN rfl (fun h20 => ?_) (fun h20 => ?_) | refine r_ite rfl (fun h20 => ?_) (fun h20 => ?_)
          · refine r_ret rfl ?_
            exact ⟨_, rfl, iffF (fun h => by rw [hr18.2 (h.2.2.2 _ (List.mem_of_getElem? he16))] at h20; cases h20)⟩
          · first | refine r_add rfl rfl (by simp only [inR] at *; omega) ?_ | refine r_addS rfl rfl (by omega) ?_
            try simp only [List.cons_append, List.nil_append, List.flatten_cons, List.flatten_nil, List.append_nil]
            exact r_again ⟨_, by omega, _, rfl, by omega, by omega, allStep hi0 hj he16 (hr18.1 h20), rfl⟩
        · refine r_ret rfl ?_
          exact ⟨_, rfl, iffT ⟨by omega, by omega, hr8.1 h10, allDone (by omega) hj⟩⟩

end Go.Proofs.Ytkiliooegoldoaa
