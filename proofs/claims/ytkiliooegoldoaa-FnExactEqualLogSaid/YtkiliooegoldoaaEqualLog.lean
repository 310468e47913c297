/- Walks: EqualLog -/
import Derived.Test.YtkiliooegoldoaaEqs
import Derived.Test.YtkiliooegoldoaaEdits
import Derived.Test.YtkiliooegoldoaaPre
set_option linter.unusedVariables false
set_option linter.unusedSimpArgs false
namespace Go.Proofs.Ytkiliooegoldoaa
open Go

theorem pre_eq {l l' : List Stp} (hl : l.length = l'.length) : IsPre l l' ↔ l = l' := by
  constructor
  · rintro ⟨_, h⟩
    apply List.ext_getElem?
    intro j
    by_cases hjl : j < l.length
    · exact h j hjl
    · rw [List.getElem?_eq_none (by omega), List.getElem?_eq_none (by omega)]
  · rintro rfl
    exact ⟨Nat.le_refl _, fun j _ => rfl⟩

/-- spec.l19Same -/
theorem w209a {k n vk vn : Int} {p : List Stp} {s : ByteArray} {ls : List ByteArray} {us : List Val} {k' n' vk' vn' : Int} {p' : List Stp} {s' : ByteArray} {ls' : List ByteArray} {us' : List Val} (hp : stpsOk p) (hv : (Val.mk vk vn s ls us).ok) (hp' : stpsOk p') (hv' : (Val.mk vk' vn' s' ls' us').ok) : ∃ rs, Big tab (.fn 209 [[I k, stps p, I vk, I vn, .str s, strs ls, vals us, I n], [I k', stps p', I vk', I vn', .str s', strs ls', vals us', I n']] rs) ∧ ∃ b, rs = [[.bool b]] ∧ (b = true ↔ Edt.mk k p (Val.mk vk vn s ls us) n = Edt.mk k' p' (Val.mk vk' vn' s' ls' us') n') := by
  have hlen : (p.map Stp.row).length = p.length := List.length_map ..
  have hlen' : (p'.map Stp.row).length = p'.length := List.length_map ..
  rw [Edt.mk.injEq]
  refine tr_sound rfl c209 rfl ?_
  show wp _ _ _ _ [I k, stps p, I vk, I vn, .str s, strs ls, vals us, I n, I k', stps p', I vk', I vn', .str s', strs ls', vals us', I n']
  first | refine r_eql rfl rfl ?_ | refine r_eqlS rfl rfl ?_
  try simp only [List.cons_append, List.nil_append, List.flatten_cons, List.flatten_nil, List.append_nil]
  first | refine r_iteP rfl (fun h1 => ?_) (fun h1 => ?_) | refine r_iteNP rfl (fun h1 => ?_) (fun h1 => ?_) | refine r_iteN rfl (fun h1 => ?_) (fun h1 => ?_) | refine r_ite rfl (fun h1 => ?_) (fun h1 => ?_)
  · first | refine r_eql rfl rfl ?_ | refine r_eqlS rfl rfl ?_
    try simp only [List.cons_append, List.nil_append, List.flatten_cons, List.flatten_nil, List.append_nil]
    first | refine r_iteP rfl (fun h3 => ?_) (fun h3 => ?_) | refine r_iteNP rfl (fun h3 => ?_) (fun h3 => ?_) | refine r_iteN rfl (fun h3 => ?_) (fun h3 => ?_) | refine r_ite rfl (fun h3 => ?_) (fun h3 => ?_)
    · refine r_len rfl ?_
      simp only [List.cons_append, List.nil_append, List.flatten_cons, List.flatten_nil, List.append_nil]
      try simp only [List.cons_append, List.nil_append, List.flatten_cons, List.flatten_nil, List.append_nil]
      refine r_len rfl ?_
      simp only [List.cons_append, List.nil_append, List.flatten_cons, List.flatten_nil, List.append_nil]
      try simp only [List.cons_append, List.nil_append, List.flatten_cons, List.flatten_nil, List.append_nil]
      first | refine r_eql rfl rfl ?_ | refine r_eqlS rfl rfl ?_
      try simp only [List.cons_append, List.nil_append, List.flatten_cons, List.flatten_nil, List.append_nil]
      first | refine r_iteP rfl (fun h7 => ?_) (fun h7 => ?_) | refine r_iteNP rfl (fun h7 => ?_) (fun h7 => ?_) | refine r_iteN rfl (fun h7 => ?_) (fun h7 => ?_) | refine r_ite rfl (fun h7 => ?_) (fun h7 => ?_)
      · refine r_callQ (w12 hp hp') rfl ?_
        rintro _ ⟨r8, rfl, hr8⟩
        refine ⟨rfl, ?_⟩
        try simp only [List.cons_append, List.nil_append, List.flatten_cons, List.flatten_nil, List.append_nil]
        first | refine r_iteP rfl (fun h9 => ?_) (fun h9 => ?_) | refine r_iteNP rfl (fun h9 => ?_) (fun h9 => ?_) | refine r_iteN rfl (fun h9 => ?_) (fun h9 => ?_) | refine r_ite rfl (fun h9 => ?_) (fun h9 => ?_)
        · refine r_callQ (w175m hv hv') rfl ?_
          rintro _ ⟨r10, rfl, hr10⟩
          refine ⟨rfl, ?_⟩
          try simp only [List.cons_append, List.nil_append, List.flatten_cons, List.flatten_nil, List.append_nil]
          refine r_ret rfl ?_
          exact ⟨_, rfl, hr10.trans ⟨fun h => ⟨h1, (pre_eq (by omega)).1 (hr8.1 h9), h, h3⟩, fun h => h.2.2.1⟩⟩
        · refine r_ret rfl ?_
          exact ⟨_, rfl, iffF (fun h => by rw [hr8.2 ((pre_eq (by omega)).2 h.2.1)] at h9; cases h9)⟩
      · refine r_ret rfl ?_
        exact ⟨_, rfl, iffF (fun h => by rw [h.2.1] at h7; exact h7 rfl)⟩
    · refine r_ret rfl ?_
      exact ⟨_, rfl, iffF (fun h => h3 h.2.2.2)⟩
  · refine r_ret rfl ?_
    exact ⟨_, rfl, iffF (fun h => h1 h.1)⟩

theorem w209 {e e' : Edt} (he : e.ok) (he' : e'.ok) : ∃ rs, Big tab (.fn 209 [e.row, e'.row] rs) ∧ ∃ b, rs = [[.bool b]] ∧ (b = true ↔ e = e') := by
  obtain ⟨k, p, ⟨vk, vn, vs, vl, va⟩, n⟩ := e
  obtain ⟨k', p', ⟨vk', vn', vs', vl', va'⟩, n'⟩ := e'
  rw [Edt.row_mk, Edt.row_mk]
  exact w209a he.2.1 he.2.2.1 he'.2.1 he'.2.2.1
theorem w176 {l l' : List Edt} (hl : edtsOk l) (hl' : edtsOk l') : ∃ rs, Big tab (.fn 176 [[edts l], [edts l']] rs) ∧ ∃ b, rs = [[.bool b]] ∧ (b = true ↔ l = l') := by
  obtain ⟨rs, hb, b, rfl, h⟩ := eqList (F := tab) (k := 176) (w := 8) (fls := [true, false, true, true, true, false, false, true]) (callee := 209) rfl c176 (xs := l.map Edt.row) (ys := l'.map Edt.row) rfl (by rw [List.length_map]; exact hl.1) (by rw [List.length_map]; exact hl'.1) edts_rows edts_rows fun r hr r' hr' => by
    obtain ⟨v, hv, rfl⟩ := List.mem_map.1 hr
    obtain ⟨v', hv', rfl⟩ := List.mem_map.1 hr'
    obtain ⟨rs, hb, b, rfl, h⟩ := w209 (hl.2 v hv) (hl'.2 v' hv')
    exact ⟨_, hb, b, rfl, h.trans ⟨fun h => by rw [h], Edt.row_inj⟩⟩
  exact ⟨_, hb, b, rfl, h.trans ⟨fun h => (List.map_inj_right (fun _ _ => Edt.row_inj)).1 h, fun h => by rw [h]⟩⟩

/-- impl.sameEdits -/
theorem w179 {l l' : List Edt} (hl : edtsOk l) (hl' : edtsOk l') : ∃ rs, Big tab (.fn 179 [[edts l], [edts l']] rs) ∧ ∃ b, rs = [[.bool b]] ∧ (b = true ↔ l = l') := by
  have hm : maxLen = 9223372036854775807 := rfl
  obtain ⟨hl1, hl2⟩ := hl
  obtain ⟨hl1', hl2'⟩ := hl'
  have hlen : (l.map Edt.row).length = l.length := List.length_map ..
  have hlen' : (l'.map Edt.row).length = l'.length := List.length_map ..
  refine tr_sound rfl c179 rfl ?_
  show wp _ _ _ _ [edts l, edts l']
  refine r_len rfl ?_
  simp only [List.cons_append, List.nil_append, List.flatten_cons, List.flatten_nil, List.append_nil]
  try simp only [List.cons_append, List.nil_append, List.flatten_cons, List.flatten_nil, List.append_nil]
  refine r_len rfl ?_
  simp only [List.cons_append, List.nil_append, List.flatten_cons, List.flatten_nil, List.append_nil]
  try simp only [List.cons_append, List.nil_append, List.flatten_cons, List.flatten_nil, List.append_nil]
  first | refine r_neq rfl rfl ?_ | refine r_neqS rfl rfl ?_
  try simp only [List.cons_append, List.nil_append, List.flatten_cons, List.flatten_nil, List.append_nil]
  first | refine r_iteP rfl (fun h3 => ?_) (fun h3 => ?_) | refine r_iteNP rfl (fun h3 => ?_) (fun h3 => ?_) | refine r_iteN rfl (fun h3 => ?_) (fun h3 => ?_) | refine r_ite rfl (fun h3 => ?_) (fun h3 => ?_)
  · refine r_ret rfl ?_
    exact ⟨_, rfl, iffF (by rintro rfl; exact h3 rfl)⟩
  · refine r_len rfl ?_
    simp only [List.cons_append, List.nil_append, List.flatten_cons, List.flatten_nil, List.append_nil]
    try simp only [List.cons_append, List.nil_append, List.flatten_cons, List.flatten_nil, List.append_nil]
    refine r_loop (fun m vs => ∃ i : Int, vs = [I i] ∧ 0 ≤ i ∧ i ≤ l.length ∧ (∀ j : Nat, (j : Int) < i → l[j]? = l'[j]?) ∧ m = (l.length - i).toNat) _ ⟨_, rfl, by omega, by omega, fun j hj => by omega, rfl⟩ ?_
    rintro m _ ⟨i, rfl, hi0, hi1, hj, rfl⟩
    try simp only [List.cons_append, List.nil_append, List.flatten_cons, List.flatten_nil, List.append_nil]
    refine r_lss rfl rfl ?_
    simp only [List.cons_append, List.nil_append, List.flatten_cons, List.flatten_nil, List.append_nil]
    try simp only [List.cons_append, List.nil_append, List.flatten_cons, List.flatten_nil, List.append_nil]
    first | refine r_iteP rfl (fun h8 => ?_) (fun h8 => ?_) | refine r_iteNP rfl (fun h8 => ?_) (fun h8 => ?_) | refine r_iteN rfl (fun h8 => ?_) (fun h8 => ?_) | refine r_ite rfl (fun h8 => ?_) (fun h8 => ?_)
    · refine r_inbT rfl rfl (by omega) (by omega) (fun e9 he9 hr9 => ?_)
      simp only [List.cons_append, List.nil_append, List.flatten_cons, List.flatten_nil, List.append_nil]
      try simp only [List.cons_append, List.nil_append, List.flatten_cons, List.flatten_nil, List.append_nil]
      have ok9 := hl2 e9 (List.mem_of_getElem? he9)
      obtain ⟨k9, p9, ⟨a9, b9, c9, d9, f9⟩, n9⟩ := e9
      rw [Edt.row_mk] at hr9
      refine r_get1 rfl rfl hr9 rfl rfl ?_
      simp only [List.cons_append, List.nil_append, List.flatten_cons, List.flatten_nil, List.append_nil]
      try simp only [List.cons_append, List.nil_append, List.flatten_cons, List.flatten_nil, List.append_nil]
      refine r_get1 rfl rfl hr9 rfl rfl ?_
      simp only [List.cons_append, List.nil_append, List.flatten_cons, List.flatten_nil, List.append_nil]
      try simp only [List.cons_append, List.nil_append, List.flatten_cons, List.flatten_nil, List.append_nil]
      refine r_get1 rfl rfl hr9 rfl rfl ?_
      simp only [List.cons_append, List.nil_append, List.flatten_cons, List.flatten_nil, List.append_nil]
      try simp only [List.cons_append, List.nil_append, List.flatten_cons, List.flatten_nil, List.append_nil]
      refine r_get1 rfl rfl hr9 rfl rfl ?_
      simp only [List.cons_append, List.nil_append, List.flatten_cons, List.flatten_nil, List.append_nil]
      try simp only [List.cons_append, List.nil_append, List.flatten_cons, List.flatten_nil, List.append_nil]
      refine r_get1 rfl rfl hr9 rfl rfl ?_
      simp only [List.cons_append, List.nil_append, List.flatten_cons, List.flatten_nil, List.append_nil]
      try simp only [List.cons_append, List.nil_append, List.flatten_cons, List.flatten_nil, List.append_nil]
      refine r_get1 rfl rfl hr9 rfl rfl ?_
      simp only [List.cons_append, List.nil_append, List.flatten_cons, List.flatten_nil, List.append_nil]
      try simp only [List.cons_append, List.nil_append, List.flatten_cons, List.flatten_nil, List.append_nil]
      refine r_get1 rfl rfl hr9 rfl rfl ?_
      simp only [List.cons_append, List.nil_append, List.flatten_cons, List.flatten_nil, List.append_nil]
      try simp only [List.cons_append, List.nil_append, List.flatten_cons, List.flatten_nil, List.append_nil]
      refine r_get1 rfl rfl hr9 rfl rfl ?_
      simp only [List.cons_append, List.nil_append, List.flatten_cons, List.flatten_nil, List.append_nil]
      try simp only [List.cons_append, List.nil_append, List.flatten_cons, List.flatten_nil, List.append_nil]
      refine r_inbT rfl rfl (by omega) (by omega) (fun e18 he18 hr18 => ?_)
      simp only [List.cons_append, List.nil_append, List.flatten_cons, List.flatten_nil, List.append_nil]
      try simp only [List.cons_append, List.nil_append, List.flatten_cons, List.flatten_nil, List.append_nil]
      have ok18 := hl2' e18 (List.mem_of_getElem? he18)
      obtain ⟨k18, p18, ⟨a18, b18, c18', d18, f18⟩, n18⟩ := e18
      rw [Edt.row_mk] at hr18
      have hlp : (p9.map Stp.row).length = p9.length := List.length_map ..
      have hlp' : (p18.map Stp.row).length = p18.length := List.length_map ..
      have hno : ∀ (h : ¬ Edt.mk k9 p9 (.mk a9 b9 c9 d9 f9) n9 = Edt.mk k18 p18 (.mk a18 b18 c18' d18 f18) n18), ¬ l = l' := by
        rintro h rfl
        rw [he9] at he18
        exact h (Option.some.inj he18)
      rw [Edt.mk.injEq] at hno
      refine r_get1 rfl rfl hr18 rfl rfl ?_
      simp only [List.cons_append, List.nil_append, List.flatten_cons, List.flatten_nil, List.append_nil]
      try simp only [List.cons_append, List.nil_append, List.flatten_cons, List.flatten_nil, List.append_nil]
      refine r_get1 rfl rfl hr18 rfl rfl ?_
      simp only [List.cons_append, List.nil_append, List.flatten_cons, List.flatten_nil, List.append_nil]
      try simp only [List.cons_append, List.nil_append, List.flatten_cons, List.flatten_nil, List.append_nil]
      refine r_get1 rfl rfl hr18 rfl rfl ?_
      simp only [List.cons_append, List.nil_append, List.flatten_cons, List.flatten_nil, List.append_nil]
      try simp only [List.cons_append, List.nil_append, List.flatten_cons, List.flatten_nil, List.append_nil]
      refine r_get1 rfl rfl hr18 rfl rfl ?_
      simp only [List.cons_append, List.nil_append, List.flatten_cons, List.flatten_nil, List.append_nil]
      try simp only [List.cons_append, List.nil_append, List.flatten_cons, List.flatten_nil, List.append_nil]
      refine r_get1 rfl rfl hr18 rfl rfl ?_
      simp only [List.cons_append, List.nil_append, List.flatten_cons, List.flatten_nil, List.append_nil]
      try simp only [List.cons_append, List.nil_append, List.flatten_cons, List.flatten_nil, List.append_nil]
      refine r_get1 rfl rfl hr18 rfl rfl ?_
      simp only [List.cons_append, List.nil_append, List.flatten_cons, List.flatten_nil, List.append_nil]
      try simp only [List.cons_append, List.nil_append, List.flatten_cons, List.flatten_nil, List.append_nil]
      refine r_get1 rfl rfl hr18 rfl rfl ?_
      simp only [List.cons_append, List.nil_append, List.flatten_cons, List.flatten_nil, List.append_nil]
      try simp only [List.cons_append, List.nil_append, List.flatten_cons, List.flatten_nil, List.append_nil]
      refine r_get1 rfl rfl hr18 rfl rfl ?_
      simp only [List.cons_append, List.nil_append, List.flatten_cons, List.flatten_nil, List.append_nil]
      try simp only [List.cons_append, List.nil_append, List.flatten_cons, List.flatten_nil, List.append_nil]
      first | refine r_neq rfl rfl ?_ | refine r_neqS rfl rfl ?_
      try simp only [List.cons_append, List.nil_append, List.flatten_cons, List.flatten_nil, List.append_nil]
      first | refine r_iteP rfl (fun h28 => ?_) (fun h28 => ?_) | refine r_iteNP rfl (fun h28 => ?_) (fun h28 => ?_) | refine r_iteN rfl (fun h28 => ?_) (fun h28 => ?_) | refine r_ite rfl (fun h28 => ?_) (fun h28 => ?_)
      · refine r_ret rfl ?_
        exact ⟨_, rfl, iffF (hno fun h => h28 h.1)⟩
      · first | refine r_neq rfl rfl ?_ | refine r_neqS rfl rfl ?_
        try simp only [List.cons_append, List.nil_append, List.flatten_cons, List.flatten_nil, List.append_nil]
        first | refine r_iteP rfl (fun h31 => ?_) (fun h31 => ?_) | refine r_iteNP rfl (fun h31 => ?_) (fun h31 => ?_) | refine r_iteN rfl (fun h31 => ?_) (fun h31 => ?_) | refine r_ite rfl (fun h31 => ?_) (fun h31 => ?_)
        · refine r_ret rfl ?_
          exact ⟨_, rfl, iffF (hno fun h => h31 h.2.2.2)⟩
        · refine r_len rfl ?_
          simp only [List.cons_append, List.nil_append, List.flatten_cons, List.flatten_nil, List.append_nil]
          try simp only [List.cons_append, List.nil_append, List.flatten_cons, List.flatten_nil, List.append_nil]
          refine r_len rfl ?_
          simp only [List.cons_append, List.nil_append, List.flatten_cons, List.flatten_nil, List.append_nil]
          try simp only [List.cons_append, List.nil_append, List.flatten_cons, List.flatten_nil, List.append_nil]
          first | refine r_neq rfl rfl ?_ | refine r_neqS rfl rfl ?_
          try simp only [List.cons_append, List.nil_append, List.flatten_cons, List.flatten_nil, List.append_nil]
          first | refine r_iteP rfl (fun h36 => ?_) (fun h36 => ?_) | refine r_iteNP rfl (fun h36 => ?_) (fun h36 => ?_) | refine r_iteN rfl (fun h36 => ?_) (fun h36 => ?_) | refine r_ite rfl (fun h36 => ?_) (fun h36 => ?_)
          · refine r_ret rfl ?_
            exact ⟨_, rfl, iffF (hno fun h => by rw [h.2.1] at h36; exact h36 rfl)⟩
          · refine r_callQ (w14 (l := p9) (l' := p18) ok9.2.1 ok18.2.1) rfl ?_
            rintro _ ⟨r38, rfl, hr38⟩
            refine ⟨rfl, ?_⟩
            try simp only [List.cons_append, List.nil_append, List.flatten_cons, List.flatten_nil, List.append_nil]
            refine r_not rfl ?_
            simp only [List.cons_append, List.nil_append, List.flatten_cons, List.flatten_nil, List.append_nil]
            try simp only [List.cons_append, List.nil_append, List.flatten_cons, List.flatten_nil, List.append_nil]
            first | refine r_iteP rfl (fun h40 => ?_) (fun h40 => ?_) | refine r_iteNP rfl (fun h40 => ?_) (fun h40 => ?_) | refine r_iteN rfl (fun h40 => ?_) (fun h40 => ?_) | refine r_ite rfl (fun h40 => ?_) (fun h40 => ?_)
            · refine r_ret rfl ?_
              exact ⟨_, rfl, iffF (hno fun h => by rw [hr38.2 ((pre_eq (by omega)).2 h.2.1)] at h40; cases h40)⟩
            · refine r_callQ (w178m ok9.2.2.1 ok18.2.2.1) rfl ?_
              rintro _ ⟨r42, rfl, hr42⟩
              refine ⟨rfl, ?_⟩
              try simp only [List.cons_append, List.nil_append, List.flatten_cons, List.flatten_nil, List.append_nil]
              refine r_not rfl ?_
              simp only [List.cons_append, List.nil_append, List.flatten_cons, List.flatten_nil, List.append_nil]
              try simp only [List.cons_append, List.nil_append, List.flatten_cons, List.flatten_nil, List.append_nil]
              first | refine r_iteP rfl (fun h44 => ?_) (fun h44 => ?_) | refine r_iteNP rfl (fun h44 => ?_) (fun h44 => ?_) | refine r_iteN rfl (fun h44 => ?_) (fun h44 => ?_) | refine r_ite rfl (fun h44 => ?_) (fun h44 => ?_)
              · refine r_ret rfl ?_
                exact ⟨_, rfl, iffF (hno fun h => by rw [hr42.2 h.2.2.1] at h44; cases h44)⟩
              · first | refine r_add rfl rfl (by simp only [inR] at *; omega) ?_ | refine r_addS rfl rfl (by omega) ?_
                try simp only [List.cons_append, List.nil_append, List.flatten_cons, List.flatten_nil, List.append_nil]
                exact r_again ⟨_, by omega, _, rfl, by omega, by omega, eqStep hi0 hj (by rw [he9, he18, Decidable.not_not.1 h28, Decidable.not_not.1 h31, (pre_eq (by omega)).1 (hr38.1 h40), hr42.1 h44]), rfl⟩
    · refine r_ret rfl ?_
      exact ⟨_, rfl, iffT (eqAll (by omega) (by omega) hj)⟩

theorem w174m {k : Int} {ls : List ByteArray} {us : List Typ} {k' : Int} {ls' : List ByteArray} {us' : List Typ} (hv : (Typ.mk k ls us).ok) (hv' : (Typ.mk k' ls' us').ok) :
    ∃ rs, Big tab (.fn 174 [[I k, strs ls, typs us], [I k', strs ls', typs us']] rs) ∧ ∃ b, rs = [[.bool b]] ∧ (b = true ↔ Typ.mk k ls us = Typ.mk k' ls' us') := by
  have := w174 hv hv'
  rwa [Typ.row_mk, Typ.row_mk] at this
theorem w177m {k : Int} {ls : List ByteArray} {us : List Typ} {k' : Int} {ls' : List ByteArray} {us' : List Typ} (hv : (Typ.mk k ls us).ok) (hv' : (Typ.mk k' ls' us').ok) :
    ∃ rs, Big tab (.fn 177 [[I k, strs ls, typs us], [I k', strs ls', typs us']] rs) ∧ ∃ b, rs = [[.bool b]] ∧ (b = true ↔ Typ.mk k ls us = Typ.mk k' ls' us') := by
  have := w177 hv hv'
  rwa [Typ.row_mk, Typ.row_mk] at this
def Lg.wt (g : Lg) : Nat := g.t.wt + g.v.wt + edtsWt g.p + edtsWt g.f

/-- laws.szLog -/
theorem w148a {tk vk vn : Int} {tl vl : List ByteArray} {tu : List Typ} {s : ByteArray} {vu : List Val} {p f : List Edt} {left : Int} (ht : (Typ.mk tk tl tu).ok) (hv : (Val.mk vk vn s vl vu).ok) (hp : edtsOk p) (hf : edtsOk f) (h0 : 0 ≤ left) (h1 : left ≤ 1099511627776) : ∃ rs, Big tab (.fn 148 [[I tk, strs tl, typs tu, I vk, I vn, .str s, strs vl, vals vu, edts p, edts f], [I left]] rs) ∧ ∃ r, rs = [[I r]] ∧ (r = -1 ∨ (0 ≤ r ∧ r + (Lg.mk (.mk tk tl tu) (.mk vk vn s vl vu) p f).wt ≤ left)) := by
  refine tr_sound rfl c148 rfl ?_
  show wp _ _ _ _ [I tk, strs tl, typs tu, I vk, I vn, .str s, strs vl, vals vu, edts p, edts f, I left]
  refine r_callQ (w157m ht (by omega) (by omega)) rfl ?_
  rintro _ ⟨r0, rfl, hr0⟩
  refine ⟨rfl, ?_⟩
  try simp only [List.cons_append, List.nil_append, List.flatten_cons, List.flatten_nil, List.append_nil]
  refine r_lss rfl rfl ?_
  simp only [List.cons_append, List.nil_append, List.flatten_cons, List.flatten_nil, List.append_nil]
  try simp only [List.cons_append, List.nil_append, List.flatten_cons, List.flatten_nil, List.append_nil]
  first | refine r_iteP rfl (fun h2 => ?_) (fun h2 => ?_) | refine r_iteNP rfl (fun h2 => ?_) (fun h2 => ?_) | refine r_iteN rfl (fun h2 => ?_) (fun h2 => ?_) | refine r_ite rfl (fun h2 => ?_) (fun h2 => ?_)
  · refine r_ret rfl ?_
    exact ⟨_, rfl, Or.inl rfl⟩
  · refine r_callQ (w76m hv (by omega) (by omega)) rfl ?_
    rintro _ ⟨r4, rfl, hr4⟩
    refine ⟨rfl, ?_⟩
    try simp only [List.cons_append, List.nil_append, List.flatten_cons, List.flatten_nil, List.append_nil]
    refine r_lss rfl rfl ?_
    simp only [List.cons_append, List.nil_append, List.flatten_cons, List.flatten_nil, List.append_nil]
    try simp only [List.cons_append, List.nil_append, List.flatten_cons, List.flatten_nil, List.append_nil]
    first | refine r_iteP rfl (fun h6 => ?_) (fun h6 => ?_) | refine r_iteNP rfl (fun h6 => ?_) (fun h6 => ?_) | refine r_iteN rfl (fun h6 => ?_) (fun h6 => ?_) | refine r_ite rfl (fun h6 => ?_) (fun h6 => ?_)
    · refine r_ret rfl ?_
      exact ⟨_, rfl, Or.inl rfl⟩
    · refine r_callQ (w41 hp (by omega) (by omega)) rfl ?_
      rintro _ ⟨r8, rfl, hr8⟩
      refine ⟨rfl, ?_⟩
      try simp only [List.cons_append, List.nil_append, List.flatten_cons, List.flatten_nil, List.append_nil]
      refine r_lss rfl rfl ?_
      simp only [List.cons_append, List.nil_append, List.flatten_cons, List.flatten_nil, List.append_nil]
      try simp only [List.cons_append, List.nil_append, List.flatten_cons, List.flatten_nil, List.append_nil]
      first | refine r_iteP rfl (fun h10 => ?_) (fun h10 => ?_) | refine r_iteNP rfl (fun h10 => ?_) (fun h10 => ?_) | refine r_iteN rfl (fun h10 => ?_) (fun h10 => ?_) | refine r_ite rfl (fun h10 => ?_) (fun h10 => ?_)
      · refine r_ret rfl ?_
        exact ⟨_, rfl, Or.inl rfl⟩
      · refine r_callQ (w41 hf (by omega) (by omega)) rfl ?_
        rintro _ ⟨r12, rfl, hr12⟩
        refine ⟨rfl, ?_⟩
        try simp only [List.cons_append, List.nil_append, List.flatten_cons, List.flatten_nil, List.append_nil]
        refine r_lss rfl rfl ?_
        simp only [List.cons_append, List.nil_append, List.flatten_cons, List.flatten_nil, List.append_nil]
        try simp only [List.cons_append, List.nil_append, List.flatten_cons, List.flatten_nil, List.append_nil]
        first | refine r_iteP rfl (fun h14 => ?_) (fun h14 => ?_) | refine r_iteNP rfl (fun h14 => ?_) (fun h14 => ?_) | refine r_iteN rfl (fun h14 => ?_) (fun h14 => ?_) | refine r_ite rfl (fun h14 => ?_) (fun h14 => ?_)
        · refine r_ret rfl ?_
          exact ⟨_, rfl, Or.inl rfl⟩
        · refine r_ret rfl ?_
          exact ⟨_, rfl, Or.inr ⟨by omega, by simp only [Lg.wt]; omega⟩⟩

/-- laws.toLog -/
theorem w150a {tk vk vn : Int} {tl vl : List ByteArray} {tu : List Typ} {s : ByteArray} {vu : List Val} {p f : List Edt} (hp : edtsOk p) (hf : edtsOk f) (hw : (Lg.mk (.mk tk tl tu) (.mk vk vn s vl vu) p f).wt ≤ 1099511627776) : ∃ rs, Big tab (.fn 150 [[I tk, strs tl, typs tu, I vk, I vn, .str s, strs vl, vals vu, edts p, edts f]] rs) ∧ rs = [[I tk, strs tl, typs tu, I vk, I vn, .str s, strs vl, vals vu, edts p, edts f]] := by
  simp only [Lg.wt] at hw
  refine tr_sound rfl c150 rfl ?_
  show wp _ _ _ _ [I tk, strs tl, typs tu, I vk, I vn, .str s, strs vl, vals vu, edts p, edts f]
  refine r_callQ (w159m (by omega)) rfl ?_
  rintro _ rfl
  refine ⟨rfl, ?_⟩
  try simp only [List.cons_append, List.nil_append, List.flatten_cons, List.flatten_nil, List.append_nil]
  refine r_callQ (w78m (by omega)) rfl ?_
  rintro _ rfl
  refine ⟨rfl, ?_⟩
  try simp only [List.cons_append, List.nil_append, List.flatten_cons, List.flatten_nil, List.append_nil]
  refine r_callQ (w43 hp (by omega)) rfl ?_
  rintro _ rfl
  refine ⟨rfl, ?_⟩
  try simp only [List.cons_append, List.nil_append, List.flatten_cons, List.flatten_nil, List.append_nil]
  refine r_callQ (w43 hf (by omega)) rfl ?_
  rintro _ rfl
  refine ⟨rfl, ?_⟩
  try simp only [List.cons_append, List.nil_append, List.flatten_cons, List.flatten_nil, List.append_nil]
  refine r_ret rfl ?_
  rfl

/-- laws.eqLog -/
theorem w152a {tk vk vn : Int} {tl vl : List ByteArray} {tu : List Typ} {s : ByteArray} {vu : List Val} {p f : List Edt} {tk' vk' vn' : Int} {tl' vl' : List ByteArray} {tu' : List Typ} {s' : ByteArray} {vu' : List Val} {p' f' : List Edt} (ht : (Typ.mk tk tl tu).ok) (hv : (Val.mk vk vn s vl vu).ok) (hp : edtsOk p) (hf : edtsOk f) (ht' : (Typ.mk tk' tl' tu').ok) (hv' : (Val.mk vk' vn' s' vl' vu').ok) (hp' : edtsOk p') (hf' : edtsOk f') : ∃ rs, Big tab (.fn 152 [[I tk, strs tl, typs tu, I vk, I vn, .str s, strs vl, vals vu, edts p, edts f], [I tk', strs tl', typs tu', I vk', I vn', .str s', strs vl', vals vu', edts p', edts f']] rs) ∧ ∃ b, rs = [[.bool b]] ∧ (b = true ↔ Lg.mk (.mk tk tl tu) (.mk vk vn s vl vu) p f = Lg.mk (.mk tk' tl' tu') (.mk vk' vn' s' vl' vu') p' f') := by
  rw [Lg.mk.injEq]
  refine tr_sound rfl c152 rfl ?_
  show wp _ _ _ _ [I tk, strs tl, typs tu, I vk, I vn, .str s, strs vl, vals vu, edts p, edts f, I tk', strs tl', typs tu', I vk', I vn', .str s', strs vl', vals vu', edts p', edts f']
  refine r_callQ (w161m ht ht') rfl ?_
  rintro _ ⟨r0, rfl, hr0⟩
  refine ⟨rfl, ?_⟩
  try simp only [List.cons_append, List.nil_append, List.flatten_cons, List.flatten_nil, List.append_nil]
  refine r_not rfl ?_
  simp only [List.cons_append, List.nil_append, List.flatten_cons, List.flatten_nil, List.append_nil]
  try simp only [List.cons_append, List.nil_append, List.flatten_cons, List.flatten_nil, List.append_nil]
  first | refine r_iteP rfl (fun h2 => ?_) (fun h2 => ?_) | refine r_iteNP rfl (fun h2 => ?_) (fun h2 => ?_) | refine r_iteN rfl (fun h2 => ?_) (fun h2 => ?_) | refine r_ite rfl (fun h2 => ?_) (fun h2 => ?_)
  · refine r_ret rfl ?_
    exact ⟨_, rfl, iffF (fun h => by rw [hr0.2 h.1] at h2; cases h2)⟩
  · refine r_callQ (w81m hv hv') rfl ?_
    rintro _ ⟨r4, rfl, hr4⟩
    refine ⟨rfl, ?_⟩
    try simp only [List.cons_append, List.nil_append, List.flatten_cons, List.flatten_nil, List.append_nil]
    refine r_not rfl ?_
    simp only [List.cons_append, List.nil_append, List.flatten_cons, List.flatten_nil, List.append_nil]
    try simp only [List.cons_append, List.nil_append, List.flatten_cons, List.flatten_nil, List.append_nil]
    first | refine r_iteP rfl (fun h6 => ?_) (fun h6 => ?_) | refine r_iteNP rfl (fun h6 => ?_) (fun h6 => ?_) | refine r_iteN rfl (fun h6 => ?_) (fun h6 => ?_) | refine r_ite rfl (fun h6 => ?_) (fun h6 => ?_)
    · refine r_ret rfl ?_
      exact ⟨_, rfl, iffF (fun h => by rw [hr4.2 h.2.1] at h6; cases h6)⟩
    · refine r_callQ (w45 hp hp') rfl ?_
      rintro _ ⟨r8, rfl, hr8⟩
      refine ⟨rfl, ?_⟩
      try simp only [List.cons_append, List.nil_append, List.flatten_cons, List.flatten_nil, List.append_nil]
      refine r_not rfl ?_
      simp only [List.cons_append, List.nil_append, List.flatten_cons, List.flatten_nil, List.append_nil]
      try simp only [List.cons_append, List.nil_append, List.flatten_cons, List.flatten_nil, List.append_nil]
      first | refine r_iteP rfl (fun h10 => ?_) (fun h10 => ?_) | refine r_iteNP rfl (fun h10 => ?_) (fun h10 => ?_) | refine r_iteN rfl (fun h10 => ?_) (fun h10 => ?_) | refine r_ite rfl (fun h10 => ?_) (fun h10 => ?_)
      · refine r_ret rfl ?_
        exact ⟨_, rfl, iffF (fun h => by rw [hr8.2 h.2.2.1] at h10; cases h10)⟩
      · refine r_callQ (w45 hf hf') rfl ?_
        rintro _ ⟨r12, rfl, hr12⟩
        refine ⟨rfl, ?_⟩
        try simp only [List.cons_append, List.nil_append, List.flatten_cons, List.flatten_nil, List.append_nil]
        refine r_not rfl ?_
        simp only [List.cons_append, List.nil_append, List.flatten_cons, List.flatten_nil, List.append_nil]
        try simp only [List.cons_append, List.nil_append, List.flatten_cons, List.flatten_nil, List.append_nil]
        first | refine r_iteP rfl (fun h14 => ?_) (fun h14 => ?_) | refine r_iteNP rfl (fun h14 => ?_) (fun h14 => ?_) | refine r_iteN rfl (fun h14 => ?_) (fun h14 => ?_) | refine r_ite rfl (fun h14 => ?_) (fun h14 => ?_)
        · refine r_ret rfl ?_
          exact ⟨_, rfl, iffF (fun h => by rw [hr12.2 h.2.2.2] at h14; cases h14)⟩
        · refine r_ret rfl ?_
          exact ⟨_, rfl, iffT ⟨hr0.1 h2, hr4.1 h6, hr8.1 h10, hr12.1 h14⟩⟩

/-- spec.EqualLog -/
theorem w149a {tk vk vn : Int} {tl vl : List ByteArray} {tu : List Typ} {s : ByteArray} {vu : List Val} {p f : List Edt} {tk' vk' vn' : Int} {tl' vl' : List ByteArray} {tu' : List Typ} {s' : ByteArray} {vu' : List Val} {p' f' : List Edt} (ht : (Typ.mk tk tl tu).ok) (hv : (Val.mk vk vn s vl vu).ok) (hp : edtsOk p) (hf : edtsOk f) (ht' : (Typ.mk tk' tl' tu').ok) (hv' : (Val.mk vk' vn' s' vl' vu').ok) (hp' : edtsOk p') (hf' : edtsOk f') : ∃ rs, Big tab (.fn 149 [[I tk, strs tl, typs tu, I vk, I vn, .str s, strs vl, vals vu, edts p, edts f], [I tk', strs tl', typs tu', I vk', I vn', .str s', strs vl', vals vu', edts p', edts f']] rs) ∧ ∃ b, rs = [[.bool b]] ∧ (b = true ↔ Lg.mk (.mk tk tl tu) (.mk vk vn s vl vu) p f = Lg.mk (.mk tk' tl' tu') (.mk vk' vn' s' vl' vu') p' f') := by
  rw [Lg.mk.injEq]
  refine tr_sound rfl c149 rfl ?_
  show wp _ _ _ _ [I tk, strs tl, typs tu, I vk, I vn, .str s, strs vl, vals vu, edts p, edts f, I tk', strs tl', typs tu', I vk', I vn', .str s', strs vl', vals vu', edts p', edts f']
  refine r_callQ (w174m ht ht') rfl ?_
  rintro _ ⟨r0, rfl, hr0⟩
  refine ⟨rfl, ?_⟩
  try simp only [List.cons_append, List.nil_append, List.flatten_cons, List.flatten_nil, List.append_nil]
  first | refine r_iteP rfl (fun h1 => ?_) (fun h1 => ?_) | refine r_iteNP rfl (fun h1 => ?_) (fun h1 => ?_) | refine r_iteN rfl (fun h1 => ?_) (fun h1 => ?_) | refine r_ite rfl (fun h1 => ?_) (fun h1 => ?_)
  · refine r_callQ (w175m hv hv') rfl ?_
    rintro _ ⟨r2, rfl, hr2⟩
    refine ⟨rfl, ?_⟩
    try simp only [List.cons_append, List.nil_append, List.flatten_cons, List.flatten_nil, List.append_nil]
    first | refine r_iteP rfl (fun h3 => ?_) (fun h3 => ?_) | refine r_iteNP rfl (fun h3 => ?_) (fun h3 => ?_) | refine r_iteN rfl (fun h3 => ?_) (fun h3 => ?_) | refine r_ite rfl (fun h3 => ?_) (fun h3 => ?_)
    · refine r_callQ (w176 hp hp') rfl ?_
      rintro _ ⟨r4, rfl, hr4⟩
      refine ⟨rfl, ?_⟩
      try simp only [List.cons_append, List.nil_append, List.flatten_cons, List.flatten_nil, List.append_nil]
      first | refine r_iteP rfl (fun h5 => ?_) (fun h5 => ?_) | refine r_iteNP rfl (fun h5 => ?_) (fun h5 => ?_) | refine r_iteN rfl (fun h5 => ?_) (fun h5 => ?_) | refine r_ite rfl (fun h5 => ?_) (fun h5 => ?_)
      · refine r_callQ (w176 hf hf') rfl ?_
        rintro _ ⟨r6, rfl, hr6⟩
        refine ⟨rfl, ?_⟩
        try simp only [List.cons_append, List.nil_append, List.flatten_cons, List.flatten_nil, List.append_nil]
        refine r_ret rfl ?_
        exact ⟨_, rfl, hr6.trans ⟨fun h => ⟨hr0.1 h1, hr2.1 h3, hr4.1 h5, h⟩, fun h => h.2.2.2⟩⟩
      · refine r_ret rfl ?_
        exact ⟨_, rfl, iffF (fun h => by rw [hr4.2 h.2.2.1] at h5; cases h5)⟩
    · refine r_ret rfl ?_
      exact ⟨_, rfl, iffF (fun h => by rw [hr2.2 h.2.1] at h3; cases h3)⟩
  · refine r_ret rfl ?_
    exact ⟨_, rfl, iffF (fun h => by rw [hr0.2 h.1] at h1; cases h1)⟩

/-- impl.EqualLog -/
theorem w151a {tk vk vn : Int} {tl vl : List ByteArray} {tu : List Typ} {s : ByteArray} {vu : List Val} {p f : List Edt} {tk' vk' vn' : Int} {tl' vl' : List ByteArray} {tu' : List Typ} {s' : ByteArray} {vu' : List Val} {p' f' : List Edt} (ht : (Typ.mk tk tl tu).ok) (hv : (Val.mk vk vn s vl vu).ok) (hp : edtsOk p) (hf : edtsOk f) (ht' : (Typ.mk tk' tl' tu').ok) (hv' : (Val.mk vk' vn' s' vl' vu').ok) (hp' : edtsOk p') (hf' : edtsOk f') : ∃ rs, Big tab (.fn 151 [[I tk, strs tl, typs tu, I vk, I vn, .str s, strs vl, vals vu, edts p, edts f], [I tk', strs tl', typs tu', I vk', I vn', .str s', strs vl', vals vu', edts p', edts f']] rs) ∧ ∃ b, rs = [[.bool b]] ∧ (b = true ↔ Lg.mk (.mk tk tl tu) (.mk vk vn s vl vu) p f = Lg.mk (.mk tk' tl' tu') (.mk vk' vn' s' vl' vu') p' f') := by
  rw [Lg.mk.injEq]
  refine tr_sound rfl c151 rfl ?_
  show wp _ _ _ _ [I tk, strs tl, typs tu, I vk, I vn, .str s, strs vl, vals vu, edts p, edts f, I tk', strs tl', typs tu', I vk', I vn', .str s', strs vl', vals vu', edts p', edts f']
  refine r_callQ (w177m ht ht') rfl ?_
  rintro _ ⟨r0, rfl, hr0⟩
  refine ⟨rfl, ?_⟩
  try simp only [List.cons_append, List.nil_append, List.flatten_cons, List.flatten_nil, List.append_nil]
  first | refine r_iteP rfl (fun h1 => ?_) (fun h1 => ?_) | refine r_iteNP rfl (fun h1 => ?_) (fun h1 => ?_) | refine r_iteN rfl (fun h1 => ?_) (fun h1 => ?_) | refine r_ite rfl (fun h1 => ?_) (fun h1 => ?_)
  · refine r_callQ (w178m hv hv') rfl ?_
    rintro _ ⟨r2, rfl, hr2⟩
    refine ⟨rfl, ?_⟩
    try simp only [List.cons_append, List.nil_append, List.flatten_cons, List.flatten_nil, List.append_nil]
    first | refine r_iteP rfl (fun h3 => ?_) (fun h3 => ?_) | refine r_iteNP rfl (fun h3 => ?_) (fun h3 => ?_) | refine r_iteN rfl (fun h3 => ?_) (fun h3 => ?_) | refine r_ite rfl (fun h3 => ?_) (fun h3 => ?_)
    · refine r_callQ (w179 hp hp') rfl ?_
      rintro _ ⟨r4, rfl, hr4⟩
      refine ⟨rfl, ?_⟩
      try simp only [List.cons_append, List.nil_append, List.flatten_cons, List.flatten_nil, List.append_nil]
      first | refine r_iteP rfl (fun h5 => ?_) (fun h5 => ?_) | refine r_iteNP rfl (fun h5 => ?_) (fun h5 => ?_) | refine r_iteN rfl (fun h5 => ?_) (fun h5 => ?_) | refine r_ite rfl (fun h5 => ?_) (fun h5 => ?_)
      · refine r_callQ (w179 hf hf') rfl ?_
        rintro _ ⟨r6, rfl, hr6⟩
        refine ⟨rfl, ?_⟩
        try simp only [List.cons_append, List.nil_append, List.flatten_cons, List.flatten_nil, List.append_nil]
        refine r_ret rfl ?_
        exact ⟨_, rfl, hr6.trans ⟨fun h => ⟨hr0.1 h1, hr2.1 h3, hr4.1 h5, h⟩, fun h => h.2.2.2⟩⟩
      · refine r_ret rfl ?_
        exact ⟨_, rfl, iffF (fun h => by rw [hr4.2 h.2.2.1] at h5; cases h5)⟩
    · refine r_ret rfl ?_
      exact ⟨_, rfl, iffF (fun h => by rw [hr2.2 h.2.1] at h3; cases h3)⟩
  · refine r_ret rfl ?_
    exact ⟨_, rfl, iffF (fun h => by rw [hr0.2 h.1] at h1; cases h1)⟩

/-- laws.FnExactEqualLog -/
theorem w138a {tk vk vn : Int} {tl vl : List ByteArray} {tu : List Typ} {s : ByteArray} {vu : List Val} {p f : List Edt} {tk' vk' vn' : Int} {tl' vl' : List ByteArray} {tu' : List Typ} {s' : ByteArray} {vu' : List Val} {p' f' : List Edt} (ht : (Typ.mk tk tl tu).ok) (hv : (Val.mk vk vn s vl vu).ok) (hp : edtsOk p) (hf : edtsOk f) (ht' : (Typ.mk tk' tl' tu').ok) (hv' : (Val.mk vk' vn' s' vl' vu').ok) (hp' : edtsOk p') (hf' : edtsOk f') : ∃ rs, Big tab (.fn 138 [[I tk, strs tl, typs tu, I vk, I vn, .str s, strs vl, vals vu, edts p, edts f], [I tk', strs tl', typs tu', I vk', I vn', .str s', strs vl', vals vu', edts p', edts f']] rs) ∧ rs = [[.bool true]] := by
  refine tr_sound rfl c138 rfl ?_
  show wp _ _ _ _ [I tk, strs tl, typs tu, I vk, I vn, .str s, strs vl, vals vu, edts p, edts f, I tk', strs tl', typs tu', I vk', I vn', .str s', strs vl', vals vu', edts p', edts f']
  refine r_callQ (w148a ht hv hp hf (by omega) (by omega)) rfl ?_
  rintro _ ⟨r0, rfl, hr0⟩
  refine ⟨rfl, ?_⟩
  try simp only [List.cons_append, List.nil_append, List.flatten_cons, List.flatten_nil, List.append_nil]
  refine r_lss rfl rfl ?_
  simp only [List.cons_append, List.nil_append, List.flatten_cons, List.flatten_nil, List.append_nil]
  try simp only [List.cons_append, List.nil_append, List.flatten_cons, List.flatten_nil, List.append_nil]
  first | refine r_iteP rfl (fun h2 => ?_) (fun h2 => ?_) | refine r_iteNP rfl (fun h2 => ?_) (fun h2 => ?_) | refine r_iteN rfl (fun h2 => ?_) (fun h2 => ?_) | refine r_ite rfl (fun h2 => ?_) (fun h2 => ?_)
  · refine r_ret rfl ?_
    rfl
  · refine r_callQ (w148a ht' hv' hp' hf' (by omega) (by omega)) rfl ?_
    rintro _ ⟨r4, rfl, hr4⟩
    refine ⟨rfl, ?_⟩
    try simp only [List.cons_append, List.nil_append, List.flatten_cons, List.flatten_nil, List.append_nil]
    refine r_lss rfl rfl ?_
    simp only [List.cons_append, List.nil_append, List.flatten_cons, List.flatten_nil, List.append_nil]
    try simp only [List.cons_append, List.nil_append, List.flatten_cons, List.flatten_nil, List.append_nil]
    first | refine r_iteP rfl (fun h6 => ?_) (fun h6 => ?_) | refine r_iteNP rfl (fun h6 => ?_) (fun h6 => ?_) | refine r_iteN rfl (fun h6 => ?_) (fun h6 => ?_) | refine r_ite rfl (fun h6 => ?_) (fun h6 => ?_)
    · refine r_ret rfl ?_
      rfl
    · have tw := w150a (tk := tk) (tl := tl) (tu := tu) (vk := vk) (vn := vn) (s := s) (vl := vl) (vu := vu) hp hf (by omega)
      have tw' := w150a (tk := tk') (tl := tl') (tu := tu') (vk := vk') (vn := vn') (s := s') (vl := vl') (vu := vu') hp' hf' (by omega)
      refine r_callQ tw rfl ?_
      rintro _ rfl
      refine ⟨rfl, ?_⟩
      try simp only [List.cons_append, List.nil_append, List.flatten_cons, List.flatten_nil, List.append_nil]
      refine r_callQ tw' rfl ?_
      rintro _ rfl
      refine ⟨rfl, ?_⟩
      try simp only [List.cons_append, List.nil_append, List.flatten_cons, List.flatten_nil, List.append_nil]
      refine r_callQ (w149a ht hv hp hf ht' hv' hp' hf') rfl ?_
      rintro _ ⟨r10, rfl, hr10⟩
      refine ⟨rfl, ?_⟩
      try simp only [List.cons_append, List.nil_append, List.flatten_cons, List.flatten_nil, List.append_nil]
      refine r_callQ tw rfl ?_
      rintro _ rfl
      refine ⟨rfl, ?_⟩
      try simp only [List.cons_append, List.nil_append, List.flatten_cons, List.flatten_nil, List.append_nil]
      refine r_callQ tw' rfl ?_
      rintro _ rfl
      refine ⟨rfl, ?_⟩
      try simp only [List.cons_append, List.nil_append, List.flatten_cons, List.flatten_nil, List.append_nil]
      refine r_callQ (w151a ht hv hp hf ht' hv' hp' hf') rfl ?_
      rintro _ ⟨r13, rfl, hr13⟩
      refine ⟨rfl, ?_⟩
      try simp only [List.cons_append, List.nil_append, List.flatten_cons, List.flatten_nil, List.append_nil]
      obtain rfl : r13 = r10 := by rw [Bool.eq_iff_iff, hr13, hr10]
      refine r_eqB rfl rfl ?_
      simp only [List.cons_append, List.nil_append, List.flatten_cons, List.flatten_nil, List.append_nil]
      try simp only [List.cons_append, List.nil_append, List.flatten_cons, List.flatten_nil, List.append_nil]
      first | refine r_iteP rfl (fun h15 => ?_) (fun h15 => ?_) | refine r_iteNP rfl (fun h15 => ?_) (fun h15 => ?_) | refine r_iteN rfl (fun h15 => ?_) (fun h15 => ?_) | refine r_ite rfl (fun h15 => ?_) (fun h15 => ?_)
      · refine r_ret rfl ?_
        simp at h15
      · refine r_callQ tw rfl ?_
        rintro _ rfl
        refine ⟨rfl, ?_⟩
        try simp only [List.cons_append, List.nil_append, List.flatten_cons, List.flatten_nil, List.append_nil]
        refine r_callQ (w152a ht hv hp hf ht hv hp hf) rfl ?_
        rintro _ ⟨r18, rfl, hr18⟩
        refine ⟨rfl, ?_⟩
        try simp only [List.cons_append, List.nil_append, List.flatten_cons, List.flatten_nil, List.append_nil]
        refine r_not rfl ?_
        simp only [List.cons_append, List.nil_append, List.flatten_cons, List.flatten_nil, List.append_nil]
        try simp only [List.cons_append, List.nil_append, List.flatten_cons, List.flatten_nil, List.append_nil]
        first | refine r_iteP rfl (fun h20 => ?_) (fun h20 => ?_) | refine r_iteNP rfl (fun h20 => ?_) (fun h20 => ?_) | refine r_iteN rfl (fun h20 => ?_) (fun h20 => ?_) | refine r_ite rfl (fun h20 => ?_) (fun h20 => ?_)
        · refine r_ret rfl ?_
          rw [hr18.2 rfl] at h20; cases h20
        · refine r_callQ tw' rfl ?_
          rintro _ rfl
          refine ⟨rfl, ?_⟩
          try simp only [List.cons_append, List.nil_append, List.flatten_cons, List.flatten_nil, List.append_nil]
          refine r_callQ (w152a ht' hv' hp' hf' ht' hv' hp' hf') rfl ?_
          rintro _ ⟨r23, rfl, hr23⟩
          refine ⟨rfl, ?_⟩
          try simp only [List.cons_append, List.nil_append, List.flatten_cons, List.flatten_nil, List.append_nil]
          refine r_not rfl ?_
          simp only [List.cons_append, List.nil_append, List.flatten_cons, List.flatten_nil, List.append_nil]
          try simp only [List.cons_append, List.nil_append, List.flatten_cons, List.flatten_nil, List.append_nil]
          first | refine r_iteP rfl (fun h25 => ?_) (fun h25 => ?_) | refine r_iteNP rfl (fun h25 => ?_) (fun h25 => ?_) | refine r_iteN rfl (fun h25 => ?_) (fun h25 => ?_) | refine r_ite rfl (fun h25 => ?_) (fun h25 => ?_)
          · refine r_ret rfl ?_
            rw [hr23.2 rfl] at h25; cases h25
          · refine r_ret rfl ?_
            rfl

theorem w138 {g g' : Lg} (h : g.ok) (h' : g'.ok) : ∃ rs, Big tab (.fn 138 [g.row, g'.row] rs) ∧ rs = [[.bool true]] := by
  obtain ⟨⟨tk, tl, tu⟩, ⟨vk, vn, s, vl, vu⟩, p, f⟩ := g
  obtain ⟨⟨tk', tl', tu'⟩, ⟨vk', vn', s', vl', vu'⟩, p', f'⟩ := g'
  rw [Lg.row_mk, Lg.row_mk]
  exact w138a h.1 h.2.1 h.2.2.1 h.2.2.2 h'.1 h'.2.1 h'.2.2.1 h'.2.2.2
end Go.Proofs.Ytkiliooegoldoaa
