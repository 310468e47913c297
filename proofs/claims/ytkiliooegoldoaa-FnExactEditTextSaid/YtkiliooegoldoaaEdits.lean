/- Walks: Edits -/
import Derived.Test.YtkiliooegoldoaaValm
set_option linter.unusedVariables false
set_option linter.unusedSimpArgs false
namespace Go.Proofs.Ytkiliooegoldoaa
open Go

/-- laws.szEdit -/
theorem w71a {k n vk vn : Int} {p : List Stp} {s : ByteArray} {ls : List ByteArray} {us : List Val} {left : Int} (hp : stpsOk p) (hv : (Val.mk vk vn s ls us).ok) (h0 : 0 ≤ left) (h1 : left ≤ 1099511627776) : ∃ rs, Big tab (.fn 71 [[I k, stps p, I vk, I vn, .str s, strs ls, vals us, I n], [I left]] rs) ∧ ∃ r, rs = [[I r]] ∧ (r = -1 ∨ (0 ≤ r ∧ r + (Edt.mk k p (Val.mk vk vn s ls us) n).wt ≤ left)) := by
  refine tr_sound rfl c71 rfl ?_
  show wp _ _ _ _ [I k, stps p, I vk, I vn, .str s, strs ls, vals us, I n, I left]
  refine r_callQ (w11 hp h0 h1) rfl ?_
  rintro _ ⟨r0, rfl, hr0⟩
  refine ⟨rfl, ?_⟩
  try simp only [List.cons_append, List.nil_append, List.flatten_cons, List.flatten_nil, List.append_nil]
  first | refine r_lss rfl rfl ?_ | refine r_lssS rfl rfl ?_
  try simp only [List.cons_append, List.nil_append, List.flatten_cons, List.flatten_nil, List.append_nil]
  first | refine r_iteP rfl (fun h2 => ?_) (fun h2 => ?_) | refine r_iteNP rfl (fun h2 => ?_) (fun h2 => ?_) | refine r_iteN rfl (fun h2 => ?_) (fun h2 => ?_) | refine r_ite rfl (fun h2 => ?_) (fun h2 => ?_)
  · refine r_ret rfl ?_
    exact ⟨_, rfl, Or.inl rfl⟩
  · refine r_callQ (w76m hv (by omega) (by omega)) rfl ?_
    rintro _ ⟨r4, rfl, hr4⟩
    refine ⟨rfl, ?_⟩
    try simp only [List.cons_append, List.nil_append, List.flatten_cons, List.flatten_nil, List.append_nil]
    first | refine r_lss rfl rfl ?_ | refine r_lssS rfl rfl ?_
    try simp only [List.cons_append, List.nil_append, List.flatten_cons, List.flatten_nil, List.append_nil]
    first | refine r_iteP rfl (fun h6 => ?_) (fun h6 => ?_) | refine r_iteNP rfl (fun h6 => ?_) (fun h6 => ?_) | refine r_iteN rfl (fun h6 => ?_) (fun h6 => ?_) | refine r_ite rfl (fun h6 => ?_) (fun h6 => ?_)
    · refine r_ret rfl ?_
      exact ⟨_, rfl, Or.inl rfl⟩
    · refine r_ret rfl ?_
      exact ⟨_, rfl, Or.inr ⟨by omega, by simp only [Edt.wt]; omega⟩⟩

/-- laws.toEdit -/
theorem w73a {k n vk vn : Int} {p : List Stp} {s : ByteArray} {ls : List ByteArray} {us : List Val} (hp : stpsOk p) (hpl : p.length ≤ 1099511627776) (hv : (Val.mk vk vn s ls us).wt ≤ 1099511627776) : ∃ rs, Big tab (.fn 73 [[I k, stps p, I vk, I vn, .str s, strs ls, vals us, I n]] rs) ∧ rs = [[I k, stps p, I vk, I vn, .str s, strs ls, vals us, I n]] := by
  refine tr_sound rfl c73 rfl ?_
  show wp _ _ _ _ [I k, stps p, I vk, I vn, .str s, strs ls, vals us, I n]
  refine r_callQ (w13 hp hpl) rfl ?_
  rintro _ rfl
  refine ⟨rfl, ?_⟩
  try simp only [List.cons_append, List.nil_append, List.flatten_cons, List.flatten_nil, List.append_nil]
  refine r_callQ (w78m hv) rfl ?_
  rintro _ rfl
  refine ⟨rfl, ?_⟩
  try simp only [List.cons_append, List.nil_append, List.flatten_cons, List.flatten_nil, List.append_nil]
  refine r_ret rfl ?_
  rfl

/-- laws.eqEdit -/
theorem w75a {k n vk vn : Int} {p : List Stp} {s : ByteArray} {ls : List ByteArray} {us : List Val} {k' n' vk' vn' : Int} {p' : List Stp} {s' : ByteArray} {ls' : List ByteArray} {us' : List Val} (hp : stpsOk p) (hv : (Val.mk vk vn s ls us).ok) (hp' : stpsOk p') (hv' : (Val.mk vk' vn' s' ls' us').ok) : ∃ rs, Big tab (.fn 75 [[I k, stps p, I vk, I vn, .str s, strs ls, vals us, I n], [I k', stps p', I vk', I vn', .str s', strs ls', vals us', I n']] rs) ∧ ∃ b, rs = [[.bool b]] ∧ (b = true ↔ Edt.mk k p (Val.mk vk vn s ls us) n = Edt.mk k' p' (Val.mk vk' vn' s' ls' us') n') := by
  refine tr_sound rfl c75 rfl ?_
  show wp _ _ _ _ [I k, stps p, I vk, I vn, .str s, strs ls, vals us, I n, I k', stps p', I vk', I vn', .str s', strs ls', vals us', I n']
  first | refine r_neq rfl rfl ?_ | refine r_neqS rfl rfl ?_
  try simp only [List.cons_append, List.nil_append, List.flatten_cons, List.flatten_nil, List.append_nil]
  first | refine r_iteP rfl (fun h1 => ?_) (fun h1 => ?_) | refine r_iteNP rfl (fun h1 => ?_) (fun h1 => ?_) | refine r_iteN rfl (fun h1 => ?_) (fun h1 => ?_) | refine r_ite rfl (fun h1 => ?_) (fun h1 => ?_)
  · refine r_ret rfl ?_
    exact ⟨_, rfl, by rw [Edt.mk.injEq]; exact iffF (fun h => h1 h.1)⟩
  · refine r_callQ (w15 hp hp') rfl ?_
    rintro _ ⟨r3, rfl, hr3⟩
    refine ⟨rfl, ?_⟩
    try simp only [List.cons_append, List.nil_append, List.flatten_cons, List.flatten_nil, List.append_nil]
    refine r_not rfl ?_
    try simp only [List.cons_append, List.nil_append, List.flatten_cons, List.flatten_nil, List.append_nil]
    first | refine r_iteP rfl (fun h5 => ?_) (fun h5 => ?_) | refine r_iteNP rfl (fun h5 => ?_) (fun h5 => ?_) | refine r_iteN rfl (fun h5 => ?_) (fun h5 => ?_) | refine r_ite rfl (fun h5 => ?_) (fun h5 => ?_)
    · refine r_ret rfl ?_
      exact ⟨_, rfl, by rw [Edt.mk.injEq]; exact iffF (fun h => by rw [hr3.2 h.2.1] at h5; cases h5)⟩
    · refine r_callQ (w81m hv hv') rfl ?_
      rintro _ ⟨r7, rfl, hr7⟩
      refine ⟨rfl, ?_⟩
      try simp only [List.cons_append, List.nil_append, List.flatten_cons, List.flatten_nil, List.append_nil]
      refine r_not rfl ?_
      try simp only [List.cons_append, List.nil_append, List.flatten_cons, List.flatten_nil, List.append_nil]
      first | refine r_iteP rfl (fun h9 => ?_) (fun h9 => ?_) | refine r_iteNP rfl (fun h9 => ?_) (fun h9 => ?_) | refine r_iteN rfl (fun h9 => ?_) (fun h9 => ?_) | refine r_ite rfl (fun h9 => ?_) (fun h9 => ?_)
      · refine r_ret rfl ?_
        exact ⟨_, rfl, by rw [Edt.mk.injEq]; exact iffF (fun h => by rw [hr7.2 h.2.2.1] at h9; cases h9)⟩
      · first | refine r_neq rfl rfl ?_ | refine r_neqS rfl rfl ?_
        try simp only [List.cons_append, List.nil_append, List.flatten_cons, List.flatten_nil, List.append_nil]
        first | refine r_iteP rfl (fun h12 => ?_) (fun h12 => ?_) | refine r_iteNP rfl (fun h12 => ?_) (fun h12 => ?_) | refine r_iteN rfl (fun h12 => ?_) (fun h12 => ?_) | refine r_ite rfl (fun h12 => ?_) (fun h12 => ?_)
        · refine r_ret rfl ?_
          exact ⟨_, rfl, by rw [Edt.mk.injEq]; exact iffF (fun h => h12 h.2.2.2)⟩
        · refine r_ret rfl ?_
          exact ⟨_, rfl, by rw [Edt.mk.injEq]; exact iffT ⟨Decidable.not_not.1 h1, hr3.1 h5, hr7.1 h9, Decidable.not_not.1 h12⟩⟩

theorem w71 {e : Edt} (he : e.ok) {left : Int} (h0 : 0 ≤ left) (h1 : left ≤ 1099511627776) : ∃ rs, Big tab (.fn 71 [e.row, [I left]] rs) ∧ ∃ r, rs = [[I r]] ∧ (r = -1 ∨ (0 ≤ r ∧ r + e.wt ≤ left)) := by
  obtain ⟨k, p, ⟨vk, vn, vs, vl, va⟩, n⟩ := e
  rw [Edt.row_mk]
  exact w71a he.2.1 he.2.2.1 h0 h1
theorem w73 {e : Edt} (he : e.ok) (hw : e.wt ≤ 1099511627776) : ∃ rs, Big tab (.fn 73 [e.row] rs) ∧ rs = [e.row] := by
  obtain ⟨k, p, ⟨vk, vn, vs, vl, va⟩, n⟩ := e
  simp only [Edt.wt] at hw
  rw [Edt.row_mk]
  exact w73a he.2.1 (by omega) (by omega)
theorem w75 {e e' : Edt} (he : e.ok) (he' : e'.ok) : ∃ rs, Big tab (.fn 75 [e.row, e'.row] rs) ∧ ∃ b, rs = [[.bool b]] ∧ (b = true ↔ e = e') := by
  obtain ⟨k, p, ⟨vk, vn, vs, vl, va⟩, n⟩ := e
  obtain ⟨k', p', ⟨vk', vn', vs', vl', va'⟩, n'⟩ := e'
  rw [Edt.row_mk, Edt.row_mk]
  exact w75a he.2.1 he.2.2.1 he'.2.1 he'.2.2.1
def edtsWt (l : List Edt) : Nat := l.length + (l.map Edt.wt).sum
theorem edts_rows {l : List Edt} : ∀ r ∈ l.map Edt.row, r.map PV.flat = [true, false, true, true, true, false, false, true] := by
  intro r hr; obtain ⟨e, he, rfl⟩ := List.mem_map.1 hr; exact Edt.row_flat e
end Go.Proofs.Ytkiliooegoldoaa
