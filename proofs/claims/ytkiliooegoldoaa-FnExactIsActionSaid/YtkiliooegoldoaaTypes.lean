/- Walks: Types -/
import Derived.Test.YtkiliooegoldoaaVals
import Derived.Test.YtkiliooegoldoaaE6
set_option linter.unusedVariables false
set_option linter.unusedSimpArgs false
namespace Go.Proofs.Ytkiliooegoldoaa
open Go

theorem w184a {us : List Typ} {left : Int} (hal : us.length ≤ maxLen) (h0 : 0 ≤ left) (h1 : left ≤ 9223372036854775807)
    (ih : ∀ v ∈ us, ∀ lf : Int, 0 ≤ lf → lf ≤ left → ∃ rs, Big tab (.fn 157 [v.row, [I lf]] rs) ∧ ∃ x, rs = [[I x]] ∧ (x = -1 ∨ (0 ≤ x ∧ x + v.wt ≤ lf))) :
    ∃ rs, Big tab (.fn 184 [[typs us], [I left]] rs) ∧ ∃ r, rs = [[I r]] ∧ (r = -1 ∨ (0 ≤ r ∧ r + (us.length + (us.map Typ.wt).sum : Nat) ≤ left)) :=
  szListT (F := tab) (k := 184) (w := 3) (fls := [true, false, false]) (callee := 157) Typ.row rfl c184 Typ.wt rfl hal Typ.row_flat h0 h1 ih

/-- laws.szType -/
theorem w157a {k : Int} {ls : List ByteArray} {us : List Typ} {left : Int} (hls : strsOk ls) (hal : us.length ≤ maxLen) (h0 : 0 ≤ left) (h1 : left ≤ 9223372036854775807) (ih : ∀ v ∈ us, ∀ lf : Int, 0 ≤ lf → lf ≤ left → ∃ rs, Big tab (.fn 157 [v.row, [I lf]] rs) ∧ ∃ x, rs = [[I x]] ∧ (x = -1 ∨ (0 ≤ x ∧ x + v.wt ≤ lf))) : ∃ rs, Big tab (.fn 157 [[I k, strs ls, typs us], [I left]] rs) ∧ ∃ r, rs = [[I r]] ∧ (r = -1 ∨ (0 ≤ r ∧ r + (Typ.mk k ls us).wt ≤ left)) := by
  refine tr_sound rfl c157 rfl ?_
  show wp _ _ _ _ [I k, strs ls, typs us, I left]
  refine r_callQ (w97 hls (by omega) (by omega)) rfl ?_
  rintro _ ⟨r0, rfl, hr0⟩
  refine ⟨rfl, ?_⟩
  try simp only [List.cons_append, List.nil_append, List.flatten_cons, List.flatten_nil, List.append_nil]
  first | refine r_lss rfl rfl ?_ | refine r_lssS rfl rfl ?_
  try simp only [List.cons_append, List.nil_append, List.flatten_cons, List.flatten_nil, List.append_nil]
  first | refine r_iteP rfl (fun h2 => ?_) (fun h2 => ?_) | refine r_iteNP rfl (fun h2 => ?_) (fun h2 => ?_) | refine r_iteN rfl (fun h2 => ?_) (fun h2 => ?_) | refine r_ite rfl (fun h2 => ?_) (fun h2 => ?_)
  · refine r_ret rfl ?_
    exact ⟨_, rfl, Or.inl rfl⟩
  · refine r_callQ (w184a hal (by omega) (by omega) (fun v hv lf a b => ih v hv lf a (by omega))) rfl ?_
    rintro _ ⟨r4, rfl, hr4⟩
    refine ⟨rfl, ?_⟩
    try simp only [List.cons_append, List.nil_append, List.flatten_cons, List.flatten_nil, List.append_nil]
    first | refine r_lss rfl rfl ?_ | refine r_lssS rfl rfl ?_
    try simp only [List.cons_append, List.nil_append, List.flatten_cons, List.flatten_nil, List.append_nil]
    first | refine r_iteP rfl (fun h6 => ?_) (fun h6 => ?_) | refine r_iteNP rfl (fun h6 => ?_) (fun h6 => ?_) | refine r_iteN rfl (fun h6 => ?_) (fun h6 => ?_) | refine r_ite rfl (fun h6 => ?_) (fun h6 => ?_)
    · refine r_ret rfl ?_
      exact ⟨_, rfl, Or.inl rfl⟩
    · refine r_ret rfl ?_
      exact ⟨_, rfl, Or.inr ⟨by omega, by rw [Typ.wt_mk]; omega⟩⟩

theorem w157 {v : Typ} (hv : v.ok) : ∀ {left : Int}, 0 ≤ left → left ≤ 9223372036854775807 → ∃ rs, Big tab (.fn 157 [v.row, [I left]] rs) ∧ ∃ r, rs = [[I r]] ∧ (r = -1 ∨ (0 ≤ r ∧ r + v.wt ≤ left)) := by
  induction v using Typ.ind with
  | h k ls us ih =>
    intro left h0 h1
    obtain ⟨_, hls, hal, has⟩ := hv
    rw [Typ.row_mk]
    exact w157a hls hal h0 h1 fun v hv lf a b => ih v hv (has v hv) a (by omega)
theorem typs_rows {us : List Typ} : ∀ r ∈ us.map Typ.row, r.map PV.flat = [true, false, false] := by
  intro r hr; obtain ⟨v, hv, rfl⟩ := List.mem_map.1 hr; exact Typ.row_flat v
theorem w188a {us : List Typ} (hal : us.length ≤ 1099511627776) (ih : ∀ v ∈ us, ∃ rs, Big tab (.fn 159 [v.row] rs) ∧ rs = [v.row]) : ∃ rs, Big tab (.fn 188 [[typs us]] rs) ∧ rs = [[typs us]] :=
  toList (F := tab) (k := 188) (w := 3) (fls := [true, false, false]) (callee := 159) (zs := [I0, Z 1, Z 3]) rfl c188 rfl rfl (by simpa using hal) typs_rows fun r hr => by
    obtain ⟨v, hv, rfl⟩ := List.mem_map.1 hr; exact ih v hv

/-- laws.toType -/
theorem w159a {k : Int} {ls : List ByteArray} {us : List Typ} (hl : ls.length ≤ 1099511627776) (hal : us.length ≤ 1099511627776) (ih : ∀ v ∈ us, ∃ rs, Big tab (.fn 159 [v.row] rs) ∧ rs = [v.row]) : ∃ rs, Big tab (.fn 159 [[I k, strs ls, typs us]] rs) ∧ rs = [[I k, strs ls, typs us]] := by
  refine tr_sound rfl c159 rfl ?_
  show wp _ _ _ _ [I k, strs ls, typs us]
  refine r_callQ (w100 hl) rfl ?_
  rintro _ rfl
  refine ⟨rfl, ?_⟩
  try simp only [List.cons_append, List.nil_append, List.flatten_cons, List.flatten_nil, List.append_nil]
  refine r_callQ (w188a hal ih) rfl ?_
  rintro _ rfl
  refine ⟨rfl, ?_⟩
  try simp only [List.cons_append, List.nil_append, List.flatten_cons, List.flatten_nil, List.append_nil]
  refine r_ret rfl ?_
  rfl

theorem w159 {v : Typ} (hw : v.wt ≤ 1099511627776) : ∃ rs, Big tab (.fn 159 [v.row] rs) ∧ rs = [v.row] := by
  induction v using Typ.ind with
  | h k ls us ih =>
    obtain ⟨h1, h2, h3⟩ := Typ.wt_len (k := k) (ls := ls) (us := us)
    rw [Typ.row_mk]
    exact w159a (by omega) (by omega) fun v hv => ih v hv (by have := h3 v hv; omega)
theorem w192a {us us' : List Typ} (hal : us.length ≤ maxLen) (hal' : us'.length ≤ maxLen) (ih : ∀ v ∈ us, ∀ v' ∈ us', ∃ rs, Big tab (.fn 161 [v.row, v'.row] rs) ∧ ∃ b, rs = [[.bool b]] ∧ (b = true ↔ v = v')) :
    ∃ rs, Big tab (.fn 192 [[typs us], [typs us']] rs) ∧ ∃ b, rs = [[.bool b]] ∧ (b = true ↔ us = us') := by
  obtain ⟨rs, hb, b, rfl, h⟩ := eqList (F := tab) (k := 192) (w := 3) (fls := [true, false, false]) (callee := 161) rfl c192 (xs := us.map Typ.row) (ys := us'.map Typ.row) rfl (by rw [List.length_map]; exact hal) (by rw [List.length_map]; exact hal') typs_rows typs_rows fun r hr r' hr' => by
    obtain ⟨v, hv, rfl⟩ := List.mem_map.1 hr
    obtain ⟨v', hv', rfl⟩ := List.mem_map.1 hr'
    obtain ⟨rs, hb, b, rfl, h⟩ := ih v hv v' hv'
    exact ⟨_, hb, b, rfl, h.trans ⟨fun h => by rw [h], Typ.row_inj⟩⟩
  exact ⟨_, hb, b, rfl, h.trans ⟨typs_inj, fun h => by rw [h]⟩⟩

/-- laws.eqType -/
theorem w161a {k : Int} {ls : List ByteArray} {us : List Typ} {k' : Int} {ls' : List ByteArray} {us' : List Typ} (hl : strsOk ls) (hl' : strsOk ls') (hal : us.length ≤ maxLen) (hal' : us'.length ≤ maxLen) (ih : ∀ v ∈ us, ∀ v' ∈ us', ∃ rs, Big tab (.fn 161 [v.row, v'.row] rs) ∧ ∃ b, rs = [[.bool b]] ∧ (b = true ↔ v = v')) : ∃ rs, Big tab (.fn 161 [[I k, strs ls, typs us], [I k', strs ls', typs us']] rs) ∧ ∃ b, rs = [[.bool b]] ∧ (b = true ↔ Typ.mk k ls us = Typ.mk k' ls' us') := by
  refine tr_sound rfl c161 rfl ?_
  show wp _ _ _ _ [I k, strs ls, typs us, I k', strs ls', typs us']
  first | refine r_neq rfl rfl ?_ | refine r_neqS rfl rfl ?_
  try simp only [List.cons_append, List.nil_append, List.flatten_cons, List.flatten_nil, List.append_nil]
  first | refine r_iteP rfl (fun h1 => ?_) (fun h1 => ?_) | refine r_iteNP rfl (fun h1 => ?_) (fun h1 => ?_) | refine r_iteN rfl (fun h1 => ?_) (fun h1 => ?_) | refine r_ite rfl (fun h1 => ?_) (fun h1 => ?_)
  · refine r_ret rfl ?_
    exact ⟨_, rfl, by rw [Typ.mk.injEq]; exact iffF (fun h => h1 h.1)⟩
  · refine r_callQ (w103 hl hl') rfl ?_
    rintro _ ⟨r3, rfl, hr3⟩
    refine ⟨rfl, ?_⟩
    try simp only [List.cons_append, List.nil_append, List.flatten_cons, List.flatten_nil, List.append_nil]
    refine r_not rfl ?_
    try simp only [List.cons_append, List.nil_append, List.flatten_cons, List.flatten_nil, List.append_nil]
    first | refine r_iteP rfl (fun h5 => ?_) (fun h5 => ?_) | refine r_iteNP rfl (fun h5 => ?_) (fun h5 => ?_) | refine r_iteN rfl (fun h5 => ?_) (fun h5 => ?_) | refine r_ite rfl (fun h5 => ?_) (fun h5 => ?_)
    · refine r_ret rfl ?_
      exact ⟨_, rfl, by rw [Typ.mk.injEq]; exact iffF (fun h => by rw [hr3.2 h.2.1] at h5; cases h5)⟩
    · refine r_callQ (w192a hal hal' ih) rfl ?_
      rintro _ ⟨r7, rfl, hr7⟩
      refine ⟨rfl, ?_⟩
      try simp only [List.cons_append, List.nil_append, List.flatten_cons, List.flatten_nil, List.append_nil]
      refine r_not rfl ?_
      try simp only [List.cons_append, List.nil_append, List.flatten_cons, List.flatten_nil, List.append_nil]
      first | refine r_iteP rfl (fun h9 => ?_) (fun h9 => ?_) | refine r_iteNP rfl (fun h9 => ?_) (fun h9 => ?_) | refine r_iteN rfl (fun h9 => ?_) (fun h9 => ?_) | refine r_ite rfl (fun h9 => ?_) (fun h9 => ?_)
      · refine r_ret rfl ?_
        exact ⟨_, rfl, by rw [Typ.mk.injEq]; exact iffF (fun h => by rw [hr7.2 h.2.2] at h9; cases h9)⟩
      · refine r_ret rfl ?_
        exact ⟨_, rfl, by rw [Typ.mk.injEq]; exact iffT ⟨Decidable.not_not.1 h1, hr3.1 h5, hr7.1 h9⟩⟩

theorem w161 {v : Typ} (hv : v.ok) : ∀ {v' : Typ}, v'.ok → ∃ rs, Big tab (.fn 161 [v.row, v'.row] rs) ∧ ∃ b, rs = [[.bool b]] ∧ (b = true ↔ v = v') := by
  induction v using Typ.ind with
  | h k ls us ih =>
    intro v' hv'
    obtain ⟨_, hls, hal, has⟩ := hv
    obtain ⟨_, hls', hal', has'⟩ := hv'
    rw [Typ.row_mk, Typ.row_mk]
    exact w161a hls hls' hal hal' fun v hv v' hv' => ih v hv (has v hv) (has' v' hv')
section
variable {k : Int} {ls : List ByteArray} {us : List Typ}
theorem w157m {left : Int} (hv : (Typ.mk k ls us).ok) (h0 : 0 ≤ left) (h1 : left ≤ 9223372036854775807) : ∃ rs, Big tab (.fn 157 [[I k, strs ls, typs us], [I left]] rs) ∧ ∃ r, rs = [[I r]] ∧ (r = -1 ∨ (0 ≤ r ∧ r + (Typ.mk k ls us).wt ≤ left)) := by
  have := w157 hv h0 h1
  rwa [Typ.row_mk] at this
theorem w159m (hw : (Typ.mk k ls us).wt ≤ 1099511627776) : ∃ rs, Big tab (.fn 159 [[I k, strs ls, typs us]] rs) ∧ rs = [[I k, strs ls, typs us]] := by
  have := w159 hw
  rwa [Typ.row_mk] at this
theorem w161m {k' : Int} {ls' : List ByteArray} {us' : List Typ} (hv : (Typ.mk k ls us).ok) (hv' : (Typ.mk k' ls' us').ok) :
    ∃ rs, Big tab (.fn 161 [[I k, strs ls, typs us], [I k', strs ls', typs us']] rs) ∧ ∃ b, rs = [[.bool b]] ∧ (b = true ↔ Typ.mk k ls us = Typ.mk k' ls' us') := by
  have := w161 hv hv'
  rwa [Typ.row_mk, Typ.row_mk] at this
end
end Go.Proofs.Ytkiliooegoldoaa
