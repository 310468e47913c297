/- Walks: HasT -/
import Derived.Test.YtkiliooegoldoaaVVals
import Derived.Test.YtkiliooegoldoaaEqs
set_option linter.unusedVariables false
set_option linter.unusedSimpArgs false
namespace Go.Proofs.Ytkiliooegoldoaa
open Go

/-! ### A value has a type -/
inductive Has : Val → Typ → Prop
  | t1 {k n s ls us tk tl tu} : tk = 1 → k = 1 → Has (.mk k n s ls us) (.mk tk tl tu)
  | t2 {k n s ls us tk tl tu} : tk = 2 → k = 2 → Has (.mk k n s ls us) (.mk tk tl tu)
  | t3 {k n s ls us tk tl tu} : tk = 3 → k = 3 → ls = tl → (∀ (j : Nat) u w, us[j]? = some u → tu[j]? = some w → Has u w) → Has (.mk k n s ls us) (.mk tk tl tu)
  | t4 {k n s ls us tk tl tu} {r : Int} {u w} : tk = 4 → k = 4 → 0 ≤ r → IdxOf tl s r → us[0]? = some u → tu[r.toNat]? = some w → Has u w → Has (.mk k n s ls us) (.mk tk tl tu)
  | t5 {k n s ls us tk tl tu} : tk = 5 → k = 5 → (∀ (j : Nat) u w, us[j]? = some u → tu[0]? = some w → Has u w) → Has (.mk k n s ls us) (.mk tk tl tu)
section
variable {k n : Int} {s : ByteArray} {ls : List ByteArray} {us : List Val} {tk : Int} {tl : List ByteArray} {tu : List Typ}
theorem has1 (h : tk = 1) : Has (.mk k n s ls us) (.mk tk tl tu) ↔ k = 1 := ⟨fun h' => by cases h' <;> omega, fun h' => .t1 h h'⟩
theorem has2 (h : tk = 2) : Has (.mk k n s ls us) (.mk tk tl tu) ↔ k = 2 := ⟨fun h' => by cases h' <;> omega, fun h' => .t2 h h'⟩
theorem has3 (h : tk = 3) : Has (.mk k n s ls us) (.mk tk tl tu) ↔ k = 3 ∧ ls = tl ∧ ∀ (j : Nat) u w, us[j]? = some u → tu[j]? = some w → Has u w :=
  ⟨fun h' => by cases h' <;> first | omega | exact ⟨‹_›, ‹_›, ‹_›⟩, fun h' => .t3 h h'.1 h'.2.1 h'.2.2⟩
theorem idx_uniq {r r' : Int} (h : IdxOf ls s r) (h' : IdxOf ls s r') : r = r' := by
  rcases h with ⟨a1, a2, a3⟩ | ⟨a1, a2⟩ <;> rcases h' with ⟨b1, b2, b3⟩ | ⟨b1, b2⟩
  · by_cases h1 : r < r'
    · exact absurd rfl (b3 r.toNat s (by omega) a2)
    · by_cases h2 : r' < r
      · exact absurd rfl (a3 r'.toNat s (by omega) b2)
      · omega
  · exact absurd rfl (b2 s (List.mem_of_getElem? a2))
  · exact absurd rfl (a2 s (List.mem_of_getElem? b2))
  · omega
theorem has4 (h : tk = 4) : Has (.mk k n s ls us) (.mk tk tl tu) ↔ k = 4 ∧ ∃ (r : Int) (u : Val) (w : Typ), 0 ≤ r ∧ IdxOf tl s r ∧ us[0]? = some u ∧ tu[r.toNat]? = some w ∧ Has u w :=
  ⟨fun h' => by cases h' <;> first | omega | exact ⟨‹_›, _, _, _, ‹_›, ‹_›, ‹_›, ‹_›, ‹_›⟩, fun ⟨h1, r, u, w, h2, h3, h4, h5, h6⟩ => .t4 h h1 h2 h3 h4 h5 h6⟩
theorem has5 (h : tk = 5) : Has (.mk k n s ls us) (.mk tk tl tu) ↔ k = 5 ∧ ∀ (j : Nat) u w, us[j]? = some u → tu[0]? = some w → Has u w :=
  ⟨fun h' => by cases h' <;> first | omega | exact ⟨‹_›, ‹_›⟩, fun h' => .t5 h h'.1 h'.2⟩
end
theorem pairStep {M : Val → Typ → Prop} {us : List Val} {tu : List Typ} {i : Int} {u0 : Val} {wo : Typ} (h0 : 0 ≤ i) (hj : ∀ (j : Nat) u w, (j : Int) < i → us[j]? = some u → tu[j]? = some w → M u w) (hu : us[i.toNat]? = some u0) (hw : tu[i.toNat]? = some wo) (h : M u0 wo) :
    ∀ (j : Nat) u w, (j : Int) < i + 1 → us[j]? = some u → tu[j]? = some w → M u w := by
  intro j u w hlt hu' hw'
  by_cases hji : (j : Int) < i
  · exact hj j u w hji hu' hw'
  · have : j = i.toNat := by omega
    subst this
    rw [hu] at hu'; rw [hw] at hw'
    cases hu'; cases hw'
    exact h
theorem idx_lt {ls : List ByteArray} {s : ByteArray} {r : Int} (h : IdxOf ls s r) : -1 ≤ r ∧ r < ls.length := by
  rcases h with ⟨a1, a2, a3⟩ | ⟨a1, a2⟩
  · have := (List.getElem?_eq_some_iff.1 a2).1; omega
  · omega

/-- spec.l5Has -/
theorem w237a {k n : Int} {s : ByteArray} {ls : List ByteArray} {us : List Val} {tk : Int} {tl : List ByteArray} {tu : List Typ} (hv : (Val.mk k n s ls us).ok) (ht : (Typ.mk tk tl tu).ok) (fv : VForm (.mk k n s ls us)) (ft : TForm (.mk tk tl tu)) (ih : ∀ v ∈ us, ∀ w : Typ, w.ok → VForm v → TForm w → ∃ rs, Big tab (.fn 237 [v.row, w.row] rs) ∧ ∃ b, rs = [[.bool b]] ∧ (b = true ↔ Has v w)) : ∃ rs, Big tab (.fn 237 [[I k, I n, .str s, strs ls, vals us], [I tk, strs tl, typs tu]] rs) ∧ ∃ b, rs = [[.bool b]] ∧ (b = true ↔ Has (.mk k n s ls us) (.mk tk tl tu)) := by
  have hm : maxLen = 9223372036854775807 := rfl
  have hlen : (us.map Val.row).length = us.length := List.length_map ..
  have hlen2 : (tu.map Typ.row).length = tu.length := List.length_map ..
  obtain ⟨_, _, hs, hls, hal, has⟩ := hv
  obtain ⟨_, htl, htu, hts⟩ := ht
  obtain ⟨fv1, fv2⟩ := VForm_mk.1 fv
  obtain ⟨ft1, ft2⟩ := TForm_mk.1 ft
  simp only [vtop] at fv1
  simp only [topOk] at ft1
  refine tr_sound rfl c237 rfl ?_
  show wp _ _ _ _ [I k, I n, .str s, strs ls, vals us, I tk, strs tl, typs tu]
  first | refine r_eql rfl rfl ?_ | refine r_eqlS rfl rfl ?_
  try simp only [List.cons_append, List.nil_append, List.flatten_cons, List.flatten_nil, List.append_nil]
  first | refine r_iteP rfl (fun h1 => ?_) (fun h1 => ?_) | refine r_iteNP rfl (fun h1 => ?_) (fun h1 => ?_) | refine r_iteN rfl (fun h1 => ?_) (fun h1 => ?_) | refine r_ite rfl (fun h1 => ?_) (fun h1 => ?_)
  · first | refine r_eql rfl rfl ?_ | refine r_eqlS rfl rfl ?_
    try simp only [List.cons_append, List.nil_append, List.flatten_cons, List.flatten_nil, List.append_nil]
    refine r_ret rfl ?_
    exact ⟨_, rfl, iffD (has1 h1).symm⟩
  · first | refine r_eql rfl rfl ?_ | refine r_eqlS rfl rfl ?_
    try simp only [List.cons_append, List.nil_append, List.flatten_cons, List.flatten_nil, List.append_nil]
    first | refine r_iteP rfl (fun h5 => ?_) (fun h5 => ?_) | refine r_iteNP rfl (fun h5 => ?_) (fun h5 => ?_) | refine r_iteN rfl (fun h5 => ?_) (fun h5 => ?_) | refine r_ite rfl (fun h5 => ?_) (fun h5 => ?_)
    · first | refine r_eql rfl rfl ?_ | refine r_eqlS rfl rfl ?_
      try simp only [List.cons_append, List.nil_append, List.flatten_cons, List.flatten_nil, List.append_nil]
      refine r_ret rfl ?_
      exact ⟨_, rfl, iffD (has2 h5).symm⟩
    · first | refine r_eql rfl rfl ?_ | refine r_eqlS rfl rfl ?_
      try simp only [List.cons_append, List.nil_append, List.flatten_cons, List.flatten_nil, List.append_nil]
      first | refine r_iteP rfl (fun h9 => ?_) (fun h9 => ?_) | refine r_iteNP rfl (fun h9 => ?_) (fun h9 => ?_) | refine r_iteN rfl (fun h9 => ?_) (fun h9 => ?_) | refine r_ite rfl (fun h9 => ?_) (fun h9 => ?_)
      · first | refine r_neq rfl rfl ?_ | refine r_neqS rfl rfl ?_
        try simp only [List.cons_append, List.nil_append, List.flatten_cons, List.flatten_nil, List.append_nil]
        first | refine r_iteP rfl (fun h11 => ?_) (fun h11 => ?_) | refine r_iteNP rfl (fun h11 => ?_) (fun h11 => ?_) | refine r_iteN rfl (fun h11 => ?_) (fun h11 => ?_) | refine r_ite rfl (fun h11 => ?_) (fun h11 => ?_)
        · refine r_ret rfl ?_
          exact ⟨_, rfl, iffF (fun h => h11 ((has3 h9).1 h).1)⟩
        · refine r_callQ (w208 hls htl) rfl ?_
          rintro _ ⟨r13, rfl, hr13⟩
          refine ⟨rfl, ?_⟩
          try simp only [List.cons_append, List.nil_append, List.flatten_cons, List.flatten_nil, List.append_nil]
          refine r_not rfl ?_
          try simp only [List.cons_append, List.nil_append, List.flatten_cons, List.flatten_nil, List.append_nil]
          first | refine r_iteP rfl (fun h15 => ?_) (fun h15 => ?_) | refine r_iteNP rfl (fun h15 => ?_) (fun h15 => ?_) | refine r_iteN rfl (fun h15 => ?_) (fun h15 => ?_) | refine r_ite rfl (fun h15 => ?_) (fun h15 => ?_)
          · refine r_ret rfl ?_
            exact ⟨_, rfl, iffF (fun h => by rw [hr13.2 ((has3 h9).1 h).2.1] at h15; cases h15)⟩
          · have hlt := hr13.1 h15
            have hll : ls.length = tl.length := by rw [hlt]
            refine r_loop (fun m vs => ∃ i : Int, vs = [I i] ∧ 0 ≤ i ∧ i ≤ us.length ∧ (∀ (j : Nat) u w, (j : Int) < i → us[j]? = some u → tu[j]? = some w → Has u w) ∧ m = (us.length - i).toNat) _ ⟨_, rfl, by omega, by omega, fun j b c hj => by omega, rfl⟩ ?_
            rintro m _ ⟨i, rfl, hi0, hi1, hj, rfl⟩
            try simp only [List.cons_append, List.nil_append, List.flatten_cons, List.flatten_nil, List.append_nil]
            refine r_len rfl ?_
            try simp only [List.cons_append, List.nil_append, List.flatten_cons, List.flatten_nil, List.append_nil]
            first | refine r_lss rfl rfl ?_ | refine r_lssS rfl rfl ?_
            try simp only [List.cons_append, List.nil_append, List.flatten_cons, List.flatten_nil, List.append_nil]
            first | refine r_iteP rfl (fun h20 => ?_) (fun h20 => ?_) | refine r_iteNP rfl (fun h20 => ?_) (fun h20 => ?_) | refine r_iteN rfl (fun h20 => ?_) (fun h20 => ?_) | refine r_ite rfl (fun h20 => ?_) (fun h20 => ?_)
            · refine r_inbT rfl rfl (by omega) (by omega) (fun e21 he21 hr21 => ?_)
              try simp only [List.cons_append, List.nil_append, List.flatten_cons, List.flatten_nil, List.append_nil]
              have hm21 := List.mem_of_getElem? he21
              have ih21 := ih e21 hm21
              have fv21 := fv2 e21 hm21
              obtain ⟨ka, na, sa, la, ua⟩ := e21
              rw [Val.row_mk] at hr21 ih21
              refine r_get1 rfl rfl hr21 rfl rfl ?_
              try simp only [List.cons_append, List.nil_append, List.flatten_cons, List.flatten_nil, List.append_nil]
              refine r_get1 rfl rfl hr21 rfl rfl ?_
              try simp only [List.cons_append, List.nil_append, List.flatten_cons, List.flatten_nil, List.append_nil]
              refine r_get1 rfl rfl hr21 rfl rfl ?_
              try simp only [List.cons_append, List.nil_append, List.flatten_cons, List.flatten_nil, List.append_nil]
              refine r_get1 rfl rfl hr21 rfl rfl ?_
              try simp only [List.cons_append, List.nil_append, List.flatten_cons, List.flatten_nil, List.append_nil]
              refine r_get1 rfl rfl hr21 rfl rfl ?_
              try simp only [List.cons_append, List.nil_append, List.flatten_cons, List.flatten_nil, List.append_nil]
              refine r_inbT rfl rfl (by omega) (by omega) (fun e27 he27 hr27 => ?_)
              try simp only [List.cons_append, List.nil_append, List.flatten_cons, List.flatten_nil, List.append_nil]
              have hm27 := List.mem_of_getElem? he27
              have ih27 := ih21 e27 (hts _ hm27) fv21 (ft2 _ hm27)
              obtain ⟨kb, lb, ub⟩ := e27
              rw [Typ.row_mk] at hr27 ih27
              refine r_get1 rfl rfl hr27 rfl rfl ?_
              try simp only [List.cons_append, List.nil_append, List.flatten_cons, List.flatten_nil, List.append_nil]
              refine r_get1 rfl rfl hr27 rfl rfl ?_
              try simp only [List.cons_append, List.nil_append, List.flatten_cons, List.flatten_nil, List.append_nil]
              refine r_get1 rfl rfl hr27 rfl rfl ?_
              try simp only [List.cons_append, List.nil_append, List.flatten_cons, List.flatten_nil, List.append_nil]
              refine r_callQ ih27 rfl ?_
              rintro _ ⟨r31, rfl, hr31⟩
              refine ⟨rfl, ?_⟩
              try simp only [List.cons_append, List.nil_append, List.flatten_cons, List.flatten_nil, List.append_nil]
              refine r_not rfl ?_
              try simp only [List.cons_append, List.nil_append, List.flatten_cons, List.flatten_nil, List.append_nil]
              first | refine r_iteP rfl (fun h33 => ?_) (fun h33 => ?_) | refine r_iteNP rfl (fun h33 => ?_) (fun h33 => ?_) | refine r_iteN rfl (fun h33 => ?_) (fun h33 => ?_) | refine r_ite rfl (fun h33 => ?_) (fun h33 => ?_)
              · refine r_ret rfl ?_
                exact ⟨_, rfl, iffF (fun h => by rw [hr31.2 (((has3 h9).1 h).2.2 _ _ _ he21 he27)] at h33; cases h33)⟩
              · first | refine r_add rfl rfl (by simp only [inR] at *; omega) ?_ | refine r_addS rfl rfl (by omega) ?_
                try simp only [List.cons_append, List.nil_append, List.flatten_cons, List.flatten_nil, List.append_nil]
                exact r_again ⟨_, by omega, _, rfl, by omega, by omega, pairStep hi0 hj he21 he27 (hr31.1 h33), rfl⟩
            · refine r_ret rfl ?_
              exact ⟨_, rfl, iffT ((has3 h9).2 ⟨Decidable.not_not.1 h11, hlt, fun j u w hu hw => hj j u w (by have := (List.getElem?_eq_some_iff.1 hu).1; omega) hu hw⟩)⟩
      · first | refine r_eql rfl rfl ?_ | refine r_eqlS rfl rfl ?_
        try simp only [List.cons_append, List.nil_append, List.flatten_cons, List.flatten_nil, List.append_nil]
        first | refine r_iteP rfl (fun h39 => ?_) (fun h39 => ?_) | refine r_iteNP rfl (fun h39 => ?_) (fun h39 => ?_) | refine r_iteN rfl (fun h39 => ?_) (fun h39 => ?_) | refine r_ite rfl (fun h39 => ?_) (fun h39 => ?_)
        · refine r_callQ (w187 (s := s) htl) rfl ?_
          rintro _ ⟨r40, rfl, hr40⟩
          refine ⟨rfl, ?_⟩
          try simp only [List.cons_append, List.nil_append, List.flatten_cons, List.flatten_nil, List.append_nil]
          first | refine r_eql rfl rfl ?_ | refine r_eqlS rfl rfl ?_
          try simp only [List.cons_append, List.nil_append, List.flatten_cons, List.flatten_nil, List.append_nil]
          first | refine r_iteP rfl (fun h42 => ?_) (fun h42 => ?_) | refine r_iteNP rfl (fun h42 => ?_) (fun h42 => ?_) | refine r_iteN rfl (fun h42 => ?_) (fun h42 => ?_) | refine r_ite rfl (fun h42 => ?_) (fun h42 => ?_)
          · first | refine r_geq rfl rfl ?_ | refine r_geqS rfl rfl ?_
            try simp only [List.cons_append, List.nil_append, List.flatten_cons, List.flatten_nil, List.append_nil]
            first | refine r_iteP rfl (fun h44 => ?_) (fun h44 => ?_) | refine r_iteNP rfl (fun h44 => ?_) (fun h44 => ?_) | refine r_iteN rfl (fun h44 => ?_) (fun h44 => ?_) | refine r_ite rfl (fun h44 => ?_) (fun h44 => ?_)
            · have hil := idx_lt hr40
              have hlq : tu.length = tl.length := by omega
              refine r_inbT rfl rfl (by omega) (by omega) (fun e45 he45 hr45 => ?_)
              try simp only [List.cons_append, List.nil_append, List.flatten_cons, List.flatten_nil, List.append_nil]
              have hm45 := List.mem_of_getElem? he45
              have ih45 := ih e45 hm45
              have fv45 := fv2 e45 hm45
              obtain ⟨ka, na, sa, la, ua⟩ := e45
              rw [Val.row_mk] at hr45 ih45
              refine r_get1 rfl rfl hr45 rfl rfl ?_
              try simp only [List.cons_append, List.nil_append, List.flatten_cons, List.flatten_nil, List.append_nil]
              refine r_get1 rfl rfl hr45 rfl rfl ?_
              try simp only [List.cons_append, List.nil_append, List.flatten_cons, List.flatten_nil, List.append_nil]
              refine r_get1 rfl rfl hr45 rfl rfl ?_
              try simp only [List.cons_append, List.nil_append, List.flatten_cons, List.flatten_nil, List.append_nil]
              refine r_get1 rfl rfl hr45 rfl rfl ?_
              try simp only [List.cons_append, List.nil_append, List.flatten_cons, List.flatten_nil, List.append_nil]
              refine r_get1 rfl rfl hr45 rfl rfl ?_
              try simp only [List.cons_append, List.nil_append, List.flatten_cons, List.flatten_nil, List.append_nil]
              refine r_inbT rfl rfl (by omega) (by omega) (fun e51 he51 hr51 => ?_)
              try simp only [List.cons_append, List.nil_append, List.flatten_cons, List.flatten_nil, List.append_nil]
              have hm51 := List.mem_of_getElem? he51
              have ih51 := ih45 e51 (hts _ hm51) fv45 (ft2 _ hm51)
              obtain ⟨kb, lb, ub⟩ := e51
              rw [Typ.row_mk] at hr51 ih51
              refine r_get1 rfl rfl hr51 rfl rfl ?_
              try simp only [List.cons_append, List.nil_append, List.flatten_cons, List.flatten_nil, List.append_nil]
              refine r_get1 rfl rfl hr51 rfl rfl ?_
              try simp only [List.cons_append, List.nil_append, List.flatten_cons, List.flatten_nil, List.append_nil]
              refine r_get1 rfl rfl hr51 rfl rfl ?_
              try simp only [List.cons_append, List.nil_append, List.flatten_cons, List.flatten_nil, List.append_nil]
              refine r_callQ ih51 rfl ?_
              rintro _ ⟨r55, rfl, hr55⟩
              refine ⟨rfl, ?_⟩
              try simp only [List.cons_append, List.nil_append, List.flatten_cons, List.flatten_nil, List.append_nil]
              refine r_ret rfl ?_
              exact ⟨_, rfl, hr55.trans ⟨fun h => (has4 h39).2 ⟨h42, _, _, _, h44, hr40, he45, he51, h⟩, fun h => by
                obtain ⟨_, r, u, w, a1, a2, a3, a4, a5⟩ := (has4 h39).1 h
                have := idx_uniq a2 hr40
                subst this
                have he45' : us[0]? = _ := he45
                rw [he45'] at a3; rw [he51] at a4; cases a3; cases a4
                exact a5⟩⟩
            · refine r_ret rfl ?_
              exact ⟨_, rfl, iffF (fun h => by
                obtain ⟨_, r, u, w, a1, a2, a3, a4, a5⟩ := (has4 h39).1 h
                have := idx_uniq a2 hr40
                omega)⟩
          · refine r_ret rfl ?_
            exact ⟨_, rfl, iffF (fun h => h42 ((has4 h39).1 h).1)⟩
        · have h5 : tk = 5 := by omega
          have htu1 : tu.length = 1 := by omega
          refine r_loop (fun m vs => ∃ i : Int, vs = [I i] ∧ 0 ≤ i ∧ i ≤ us.length ∧ (∀ (j : Nat) u w, (j : Int) < i → us[j]? = some u → tu[0]? = some w → Has u w) ∧ m = (us.length - i).toNat) _ ⟨_, rfl, by omega, by omega, fun j b c hj => by omega, rfl⟩ ?_
          rintro m _ ⟨i, rfl, hi0, hi1, hj, rfl⟩
          try simp only [List.cons_append, List.nil_append, List.flatten_cons, List.flatten_nil, List.append_nil]
          refine r_len rfl ?_
          try simp only [List.cons_append, List.nil_append, List.flatten_cons, List.flatten_nil, List.append_nil]
          first | refine r_lss rfl rfl ?_ | refine r_lssS rfl rfl ?_
          try simp only [List.cons_append, List.nil_append, List.flatten_cons, List.flatten_nil, List.append_nil]
          first | refine r_iteP rfl (fun h62 => ?_) (fun h62 => ?_) | refine r_iteNP rfl (fun h62 => ?_) (fun h62 => ?_) | refine r_iteN rfl (fun h62 => ?_) (fun h62 => ?_) | refine r_ite rfl (fun h62 => ?_) (fun h62 => ?_)
          · first | refine r_eql rfl rfl ?_ | refine r_eqlS rfl rfl ?_
            try simp only [List.cons_append, List.nil_append, List.flatten_cons, List.flatten_nil, List.append_nil]
            first | refine r_iteP rfl (fun h64 => ?_) (fun h64 => ?_) | refine r_iteNP rfl (fun h64 => ?_) (fun h64 => ?_) | refine r_iteN rfl (fun h64 => ?_) (fun h64 => ?_) | refine r_ite rfl (fun h64 => ?_) (fun h64 => ?_)
            · refine r_inbT rfl rfl (by omega) (by omega) (fun e65 he65 hr65 => ?_)
              try simp only [List.cons_append, List.nil_append, List.flatten_cons, List.flatten_nil, List.append_nil]
              have hm65 := List.mem_of_getElem? he65
              have ih65 := ih e65 hm65
              have fv65 := fv2 e65 hm65
              obtain ⟨ka, na, sa, la, ua⟩ := e65
              rw [Val.row_mk] at hr65 ih65
              refine r_get1 rfl rfl hr65 rfl rfl ?_
              try simp only [List.cons_append, List.nil_append, List.flatten_cons, List.flatten_nil, List.append_nil]
              refine r_get1 rfl rfl hr65 rfl rfl ?_
              try simp only [List.cons_append, List.nil_append, List.flatten_cons, List.flatten_nil, List.append_nil]
              refine r_get1 rfl rfl hr65 rfl rfl ?_
              try simp only [List.cons_append, List.nil_append, List.flatten_cons, List.flatten_nil, List.append_nil]
              refine r_get1 rfl rfl hr65 rfl rfl ?_
              try simp only [List.cons_append, List.nil_append, List.flatten_cons, List.flatten_nil, List.append_nil]
              refine r_get1 rfl rfl hr65 rfl rfl ?_
              try simp only [List.cons_append, List.nil_append, List.flatten_cons, List.flatten_nil, List.append_nil]
              refine r_inbT rfl rfl (by omega) (by omega) (fun e71 he71 hr71 => ?_)
              try simp only [List.cons_append, List.nil_append, List.flatten_cons, List.flatten_nil, List.append_nil]
              have hm71 := List.mem_of_getElem? he71
              have ih71 := ih65 e71 (hts _ hm71) fv65 (ft2 _ hm71)
              obtain ⟨kb, lb, ub⟩ := e71
              rw [Typ.row_mk] at hr71 ih71
              have he71' : tu[0]? = _ := he71
              refine r_get1 rfl rfl hr71 rfl rfl ?_
              try simp only [List.cons_append, List.nil_append, List.flatten_cons, List.flatten_nil, List.append_nil]
              refine r_get1 rfl rfl hr71 rfl rfl ?_
              try simp only [List.cons_append, List.nil_append, List.flatten_cons, List.flatten_nil, List.append_nil]
              refine r_get1 rfl rfl hr71 rfl rfl ?_
              try simp only [List.cons_append, List.nil_append, List.flatten_cons, List.flatten_nil, List.append_nil]
              refine r_callQ ih71 rfl ?_
              rintro _ ⟨r75, rfl, hr75⟩
              refine ⟨rfl, ?_⟩
              try simp only [List.cons_append, List.nil_append, List.flatten_cons, List.flatten_nil, List.append_nil]
              refine r_not rfl ?_
              try simp only [List.cons_append, List.nil_append, List.flatten_cons, List.flatten_nil, List.append_nil]
              first | refine r_iteP rfl (fun h77 => ?_) (fun h77 => ?_) | refine r_iteNP rfl (fun h77 => ?_) (fun h77 => ?_) | refine r_iteN rfl (fun h77 => ?_) (fun h77 => ?_) | refine r_ite rfl (fun h77 => ?_) (fun h77 => ?_)
              · refine r_ret rfl ?_
                exact ⟨_, rfl, iffF (fun h => by rw [hr75.2 (((has5 h5).1 h).2 _ _ _ he65 he71')] at h77; cases h77)⟩
              · first | refine r_add rfl rfl (by simp only [inR] at *; omega) ?_ | refine r_addS rfl rfl (by omega) ?_
                try simp only [List.cons_append, List.nil_append, List.flatten_cons, List.flatten_nil, List.append_nil]
                refine r_again ⟨_, by omega, _, rfl, by omega, by omega, fun j u w hlt hu hw => ?_, rfl⟩
                by_cases hji : (j : Int) < i
                · exact hj j u w hji hu hw
                · have : j = i.toNat := by omega
                  subst this
                  rw [he65] at hu; rw [he71'] at hw; cases hu; cases hw
                  exact hr75.1 h77
            · first | refine r_eql rfl rfl ?_ | refine r_eqlS rfl rfl ?_
              try simp only [List.cons_append, List.nil_append, List.flatten_cons, List.flatten_nil, List.append_nil]
              refine r_ret rfl ?_
              exact ⟨_, rfl, iffD ⟨fun h => absurd h h64, fun h => ((has5 h5).1 h).1⟩⟩
          · first | refine r_eql rfl rfl ?_ | refine r_eqlS rfl rfl ?_
            try simp only [List.cons_append, List.nil_append, List.flatten_cons, List.flatten_nil, List.append_nil]
            refine r_ret rfl ?_
            exact ⟨_, rfl, iffD ⟨fun h => (has5 h5).2 ⟨h, fun j u w hu hw => hj j u w (by have := (List.getElem?_eq_some_iff.1 hu).1; omega) hu hw⟩, fun h => ((has5 h5).1 h).1⟩⟩

theorem w237 {v : Val} (hv : v.ok) (fv : VForm v) : ∀ {w : Typ}, w.ok → TForm w → ∃ rs, Big tab (.fn 237 [v.row, w.row] rs) ∧ ∃ b, rs = [[.bool b]] ∧ (b = true ↔ Has v w) := by
  induction v using Val.ind with
  | h k n s ls us ih =>
    intro w hw fw
    have has : ∀ v ∈ us, v.ok := by cases hv; assumption
    obtain ⟨tk, tl, tu⟩ := w
    rw [Val.row_mk, Typ.row_mk]
    exact w237a hv hw fv fw fun v hm w hw' fv' fw' => ih v hm (has v hm) fv' hw' fw'
theorem w237m {k n : Int} {s : ByteArray} {ls : List ByteArray} {us : List Val} {tk : Int} {tl : List ByteArray} {tu : List Typ} (hv : (Val.mk k n s ls us).ok) (ht : (Typ.mk tk tl tu).ok) (fv : VForm (.mk k n s ls us)) (ft : TForm (.mk tk tl tu)) :
    ∃ rs, Big tab (.fn 237 [[I k, I n, .str s, strs ls, vals us], [I tk, strs tl, typs tu]] rs) ∧ ∃ b, rs = [[.bool b]] ∧ (b = true ↔ Has (.mk k n s ls us) (.mk tk tl tu)) := by
  have := w237 hv fv ht ft
  rwa [Val.row_mk, Typ.row_mk] at this

/-- impl.ofType -/
theorem w238a {k n : Int} {s : ByteArray} {ls : List ByteArray} {us : List Val} {tk : Int} {tl : List ByteArray} {tu : List Typ} (hv : (Val.mk k n s ls us).ok) (ht : (Typ.mk tk tl tu).ok) (fv : VForm (.mk k n s ls us)) (ft : TForm (.mk tk tl tu)) (ih : ∀ v ∈ us, ∀ w : Typ, w.ok → VForm v → TForm w → ∃ rs, Big tab (.fn 238 [v.row, w.row] rs) ∧ ∃ b, rs = [[.bool b]] ∧ (b = true ↔ Has v w)) : ∃ rs, Big tab (.fn 238 [[I k, I n, .str s, strs ls, vals us], [I tk, strs tl, typs tu]] rs) ∧ ∃ b, rs = [[.bool b]] ∧ (b = true ↔ Has (.mk k n s ls us) (.mk tk tl tu)) := by
  have hm : maxLen = 9223372036854775807 := rfl
  have hlen : (us.map Val.row).length = us.length := List.length_map ..
  have hlen2 : (tu.map Typ.row).length = tu.length := List.length_map ..
  obtain ⟨_, _, hs, hls, hal, has⟩ := hv
  obtain ⟨_, htl, htu, hts⟩ := ht
  obtain ⟨fv1, fv2⟩ := VForm_mk.1 fv
  obtain ⟨ft1, ft2⟩ := TForm_mk.1 ft
  simp only [vtop] at fv1
  simp only [topOk] at ft1
  refine tr_sound rfl c238 rfl ?_
  show wp _ _ _ _ [I k, I n, .str s, strs ls, vals us, I tk, strs tl, typs tu]
  first | refine r_eql rfl rfl ?_ | refine r_eqlS rfl rfl ?_
  try simp only [List.cons_append, List.nil_append, List.flatten_cons, List.flatten_nil, List.append_nil]
  first | refine r_iteP rfl (fun h1 => ?_) (fun h1 => ?_) | refine r_iteNP rfl (fun h1 => ?_) (fun h1 => ?_) | refine r_iteN rfl (fun h1 => ?_) (fun h1 => ?_) | refine r_ite rfl (fun h1 => ?_) (fun h1 => ?_)
  · first | refine r_eql rfl rfl ?_ | refine r_eqlS rfl rfl ?_
    try simp only [List.cons_append, List.nil_append, List.flatten_cons, List.flatten_nil, List.append_nil]
    refine r_ret rfl ?_
    exact ⟨_, rfl, iffD (has1 h1).symm⟩
  · first | refine r_eql rfl rfl ?_ | refine r_eqlS rfl rfl ?_
    try simp only [List.cons_append, List.nil_append, List.flatten_cons, List.flatten_nil, List.append_nil]
    first | refine r_iteP rfl (fun h5 => ?_) (fun h5 => ?_) | refine r_iteNP rfl (fun h5 => ?_) (fun h5 => ?_) | refine r_iteN rfl (fun h5 => ?_) (fun h5 => ?_) | refine r_ite rfl (fun h5 => ?_) (fun h5 => ?_)
    · first | refine r_eql rfl rfl ?_ | refine r_eqlS rfl rfl ?_
      try simp only [List.cons_append, List.nil_append, List.flatten_cons, List.flatten_nil, List.append_nil]
      refine r_ret rfl ?_
      exact ⟨_, rfl, iffD (has2 h5).symm⟩
    · first | refine r_eql rfl rfl ?_ | refine r_eqlS rfl rfl ?_
      try simp only [List.cons_append, List.nil_append, List.flatten_cons, List.flatten_nil, List.append_nil]
      first | refine r_iteP rfl (fun h9 => ?_) (fun h9 => ?_) | refine r_iteNP rfl (fun h9 => ?_) (fun h9 => ?_) | refine r_iteN rfl (fun h9 => ?_) (fun h9 => ?_) | refine r_ite rfl (fun h9 => ?_) (fun h9 => ?_)
      · first | refine r_neq rfl rfl ?_ | refine r_neqS rfl rfl ?_
        try simp only [List.cons_append, List.nil_append, List.flatten_cons, List.flatten_nil, List.append_nil]
        first | refine r_iteP rfl (fun h11 => ?_) (fun h11 => ?_) | refine r_iteNP rfl (fun h11 => ?_) (fun h11 => ?_) | refine r_iteN rfl (fun h11 => ?_) (fun h11 => ?_) | refine r_ite rfl (fun h11 => ?_) (fun h11 => ?_)
        · refine r_ret rfl ?_
          exact ⟨_, rfl, iffF (fun h => h11 ((has3 h9).1 h).1)⟩
        · refine r_callQ (w210 hls htl) rfl ?_
          rintro _ ⟨r13, rfl, hr13⟩
          refine ⟨rfl, ?_⟩
          try simp only [List.cons_append, List.nil_append, List.flatten_cons, List.flatten_nil, List.append_nil]
          refine r_not rfl ?_
          try simp only [List.cons_append, List.nil_append, List.flatten_cons, List.flatten_nil, List.append_nil]
          first | refine r_iteP rfl (fun h15 => ?_) (fun h15 => ?_) | refine r_iteNP rfl (fun h15 => ?_) (fun h15 => ?_) | refine r_iteN rfl (fun h15 => ?_) (fun h15 => ?_) | refine r_ite rfl (fun h15 => ?_) (fun h15 => ?_)
          · refine r_ret rfl ?_
            exact ⟨_, rfl, iffF (fun h => by rw [hr13.2 ((has3 h9).1 h).2.1] at h15; cases h15)⟩
          · have hlt := hr13.1 h15
            have hll : ls.length = tl.length := by rw [hlt]
            refine r_len rfl ?_
            try simp only [List.cons_append, List.nil_append, List.flatten_cons, List.flatten_nil, List.append_nil]
            refine r_loop (fun m vs => ∃ i : Int, vs = [I tk, strs tl, typs tu, I i] ∧ 0 ≤ i ∧ i ≤ us.length ∧ (∀ (j : Nat) u w, (j : Int) < i → us[j]? = some u → tu[j]? = some w → Has u w) ∧ m = (us.length - i).toNat) _ ⟨_, rfl, by omega, by omega, fun j b c hj => by omega, rfl⟩ ?_
            rintro m _ ⟨i, rfl, hi0, hi1, hj, rfl⟩
            try simp only [List.cons_append, List.nil_append, List.flatten_cons, List.flatten_nil, List.append_nil]
            first | refine r_lss rfl rfl ?_ | refine r_lssS rfl rfl ?_
            try simp only [List.cons_append, List.nil_append, List.flatten_cons, List.flatten_nil, List.append_nil]
            first | refine r_iteP rfl (fun h20 => ?_) (fun h20 => ?_) | refine r_iteNP rfl (fun h20 => ?_) (fun h20 => ?_) | refine r_iteN rfl (fun h20 => ?_) (fun h20 => ?_) | refine r_ite rfl (fun h20 => ?_) (fun h20 => ?_)
            · refine r_inbT rfl rfl (by omega) (by omega) (fun e21 he21 hr21 => ?_)
              try simp only [List.cons_append, List.nil_append, List.flatten_cons, List.flatten_nil, List.append_nil]
              have hm21 := List.mem_of_getElem? he21
              have ih21 := ih e21 hm21
              have fv21 := fv2 e21 hm21
              obtain ⟨ka, na, sa, la, ua⟩ := e21
              rw [Val.row_mk] at hr21 ih21
              refine r_get1 rfl rfl hr21 rfl rfl ?_
              try simp only [List.cons_append, List.nil_append, List.flatten_cons, List.flatten_nil, List.append_nil]
              refine r_get1 rfl rfl hr21 rfl rfl ?_
              try simp only [List.cons_append, List.nil_append, List.flatten_cons, List.flatten_nil, List.append_nil]
              refine r_get1 rfl rfl hr21 rfl rfl ?_
              try simp only [List.cons_append, List.nil_append, List.flatten_cons, List.flatten_nil, List.append_nil]
              refine r_get1 rfl rfl hr21 rfl rfl ?_
              try simp only [List.cons_append, List.nil_append, List.flatten_cons, List.flatten_nil, List.append_nil]
              refine r_get1 rfl rfl hr21 rfl rfl ?_
              try simp only [List.cons_append, List.nil_append, List.flatten_cons, List.flatten_nil, List.append_nil]
              refine r_inbT rfl rfl (by omega) (by omega) (fun e27 he27 hr27 => ?_)
              try simp only [List.cons_append, List.nil_append, List.flatten_cons, List.flatten_nil, List.append_nil]
              have hm27 := List.mem_of_getElem? he27
              have ih27 := ih21 e27 (hts _ hm27) fv21 (ft2 _ hm27)
              obtain ⟨kb, lb, ub⟩ := e27
              rw [Typ.row_mk] at hr27 ih27
              refine r_get1 rfl rfl hr27 rfl rfl ?_
              try simp only [List.cons_append, List.nil_append, List.flatten_cons, List.flatten_nil, List.append_nil]
              refine r_get1 rfl rfl hr27 rfl rfl ?_
              try simp only [List.cons_append, List.nil_append, List.flatten_cons, List.flatten_nil, List.append_nil]
              refine r_get1 rfl rfl hr27 rfl rfl ?_
              try simp only [List.cons_append, List.nil_append, List.flatten_cons, List.flatten_nil, List.append_nil]
              refine r_callQ ih27 rfl ?_
              rintro _ ⟨r31, rfl, hr31⟩
              refine ⟨rfl, ?_⟩
              try simp only [List.cons_append, List.nil_append, List.flatten_cons, List.flatten_nil, List.append_nil]
              refine r_not rfl ?_
              try simp only [List.cons_append, List.nil_append, List.flatten_cons, List.flatten_nil, List.append_nil]
              first | refine r_iteP rfl (fun h33 => ?_) (fun h33 => ?_) | refine r_iteNP rfl (fun h33 => ?_) (fun h33 => ?_) | refine r_iteN rfl (fun h33 => ?_) (fun h33 => ?_) | refine r_ite rfl (fun h33 => ?_) (fun h33 => ?_)
              · refine r_ret rfl ?_
                exact ⟨_, rfl, iffF (fun h => by rw [hr31.2 (((has3 h9).1 h).2.2 _ _ _ he21 he27)] at h33; cases h33)⟩
              · first | refine r_add rfl rfl (by simp only [inR] at *; omega) ?_ | refine r_addS rfl rfl (by omega) ?_
                try simp only [List.cons_append, List.nil_append, List.flatten_cons, List.flatten_nil, List.append_nil]
                exact r_again ⟨_, by omega, _, rfl, by omega, by omega, pairStep hi0 hj he21 he27 (hr31.1 h33), rfl⟩
            · refine r_ret rfl ?_
              exact ⟨_, rfl, iffT ((has3 h9).2 ⟨Decidable.not_not.1 h11, hlt, fun j u w hu hw => hj j u w (by have := (List.getElem?_eq_some_iff.1 hu).1; omega) hu hw⟩)⟩
      · first | refine r_eql rfl rfl ?_ | refine r_eqlS rfl rfl ?_
        try simp only [List.cons_append, List.nil_append, List.flatten_cons, List.flatten_nil, List.append_nil]
        first | refine r_iteP rfl (fun h39 => ?_) (fun h39 => ?_) | refine r_iteNP rfl (fun h39 => ?_) (fun h39 => ?_) | refine r_iteN rfl (fun h39 => ?_) (fun h39 => ?_) | refine r_ite rfl (fun h39 => ?_) (fun h39 => ?_)
        · refine r_callQ (w225 (s := s) htl) rfl ?_
          rintro _ ⟨r40, rfl, hr40⟩
          refine ⟨rfl, ?_⟩
          try simp only [List.cons_append, List.nil_append, List.flatten_cons, List.flatten_nil, List.append_nil]
          first | refine r_eql rfl rfl ?_ | refine r_eqlS rfl rfl ?_
          try simp only [List.cons_append, List.nil_append, List.flatten_cons, List.flatten_nil, List.append_nil]
          first | refine r_iteP rfl (fun h42 => ?_) (fun h42 => ?_) | refine r_iteNP rfl (fun h42 => ?_) (fun h42 => ?_) | refine r_iteN rfl (fun h42 => ?_) (fun h42 => ?_) | refine r_ite rfl (fun h42 => ?_) (fun h42 => ?_)
          · first | refine r_geq rfl rfl ?_ | refine r_geqS rfl rfl ?_
            try simp only [List.cons_append, List.nil_append, List.flatten_cons, List.flatten_nil, List.append_nil]
            first | refine r_iteP rfl (fun h44 => ?_) (fun h44 => ?_) | refine r_iteNP rfl (fun h44 => ?_) (fun h44 => ?_) | refine r_iteN rfl (fun h44 => ?_) (fun h44 => ?_) | refine r_ite rfl (fun h44 => ?_) (fun h44 => ?_)
            · have hil := idx_lt hr40
              have hlq : tu.length = tl.length := by omega
              refine r_inbT rfl rfl (by omega) (by omega) (fun e45 he45 hr45 => ?_)
              try simp only [List.cons_append, List.nil_append, List.flatten_cons, List.flatten_nil, List.append_nil]
              have hm45 := List.mem_of_getElem? he45
              have ih45 := ih e45 hm45
              have fv45 := fv2 e45 hm45
              obtain ⟨ka, na, sa, la, ua⟩ := e45
              rw [Val.row_mk] at hr45 ih45
              refine r_get1 rfl rfl hr45 rfl rfl ?_
              try simp only [List.cons_append, List.nil_append, List.flatten_cons, List.flatten_nil, List.append_nil]
              refine r_get1 rfl rfl hr45 rfl rfl ?_
              try simp only [List.cons_append, List.nil_append, List.flatten_cons, List.flatten_nil, List.append_nil]
              refine r_get1 rfl rfl hr45 rfl rfl ?_
              try simp only [List.cons_append, List.nil_append, List.flatten_cons, List.flatten_nil, List.append_nil]
              refine r_get1 rfl rfl hr45 rfl rfl ?_
              try simp only [List.cons_append, List.nil_append, List.flatten_cons, List.flatten_nil, List.append_nil]
              refine r_get1 rfl rfl hr45 rfl rfl ?_
              try simp only [List.cons_append, List.nil_append, List.flatten_cons, List.flatten_nil, List.append_nil]
              refine r_inbT rfl rfl (by omega) (by omega) (fun e51 he51 hr51 => ?_)
              try simp only [List.cons_append, List.nil_append, List.flatten_cons, List.flatten_nil, List.append_nil]
              have hm51 := List.mem_of_getElem? he51
              have ih51 := ih45 e51 (hts _ hm51) fv45 (ft2 _ hm51)
              obtain ⟨kb, lb, ub⟩ := e51
              rw [Typ.row_mk] at hr51 ih51
              refine r_get1 rfl rfl hr51 rfl rfl ?_
              try simp only [List.cons_append, List.nil_append, List.flatten_cons, List.flatten_nil, List.append_nil]
              refine r_get1 rfl rfl hr51 rfl rfl ?_
              try simp only [List.cons_append, List.nil_append, List.flatten_cons, List.flatten_nil, List.append_nil]
              refine r_get1 rfl rfl hr51 rfl rfl ?_
              try simp only [List.cons_append, List.nil_append, List.flatten_cons, List.flatten_nil, List.append_nil]
              refine r_callQ ih51 rfl ?_
              rintro _ ⟨r55, rfl, hr55⟩
              refine ⟨rfl, ?_⟩
              try simp only [List.cons_append, List.nil_append, List.flatten_cons, List.flatten_nil, List.append_nil]
              refine r_ret rfl ?_
              exact ⟨_, rfl, hr55.trans ⟨fun h => (has4 h39).2 ⟨h42, _, _, _, h44, hr40, he45, he51, h⟩, fun h => by
                obtain ⟨_, r, u, w, a1, a2, a3, a4, a5⟩ := (has4 h39).1 h
                have := idx_uniq a2 hr40
                subst this
                have he45' : us[0]? = _ := he45
                rw [he45'] at a3; rw [he51] at a4; cases a3; cases a4
                exact a5⟩⟩
            · refine r_ret rfl ?_
              exact ⟨_, rfl, iffF (fun h => by
                obtain ⟨_, r, u, w, a1, a2, a3, a4, a5⟩ := (has4 h39).1 h
                have := idx_uniq a2 hr40
                omega)⟩
          · refine r_ret rfl ?_
            exact ⟨_, rfl, iffF (fun h => h42 ((has4 h39).1 h).1)⟩
        · have h5 : tk = 5 := by omega
          have htu1 : tu.length = 1 := by omega
          first | refine r_neq rfl rfl ?_ | refine r_neqS rfl rfl ?_
          try simp only [List.cons_append, List.nil_append, List.flatten_cons, List.flatten_nil, List.append_nil]
          first | refine r_iteP rfl (fun h60 => ?_) (fun h60 => ?_) | refine r_iteNP rfl (fun h60 => ?_) (fun h60 => ?_) | refine r_iteN rfl (fun h60 => ?_) (fun h60 => ?_) | refine r_ite rfl (fun h60 => ?_) (fun h60 => ?_)
          · refine r_ret rfl ?_
            exact ⟨_, rfl, iffF (fun h => h60 ((has5 h5).1 h).1)⟩
          · refine r_len rfl ?_
            try simp only [List.cons_append, List.nil_append, List.flatten_cons, List.flatten_nil, List.append_nil]
            refine r_loop (fun m vs => ∃ i : Int, vs = [I tk, strs tl, typs tu, I i] ∧ 0 ≤ i ∧ i ≤ us.length ∧ (∀ (j : Nat) u w, (j : Int) < i → us[j]? = some u → tu[0]? = some w → Has u w) ∧ m = (us.length - i).toNat) _ ⟨_, rfl, by omega, by omega, fun j b c hj => by omega, rfl⟩ ?_
            rintro m _ ⟨i, rfl, hi0, hi1, hj, rfl⟩
            try simp only [List.cons_append, List.nil_append, List.flatten_cons, List.flatten_nil, List.append_nil]
            first | refine r_lss rfl rfl ?_ | refine r_lssS rfl rfl ?_
            try simp only [List.cons_append, List.nil_append, List.flatten_cons, List.flatten_nil, List.append_nil]
            first | refine r_iteP rfl (fun h65 => ?_) (fun h65 => ?_) | refine r_iteNP rfl (fun h65 => ?_) (fun h65 => ?_) | refine r_iteN rfl (fun h65 => ?_) (fun h65 => ?_) | refine r_ite rfl (fun h65 => ?_) (fun h65 => ?_)
            · refine r_inbT rfl rfl (by omega) (by omega) (fun e66 he66 hr66 => ?_)
              try simp only [List.cons_append, List.nil_append, List.flatten_cons, List.flatten_nil, List.append_nil]
              have hm65 := List.mem_of_getElem? he66
              have ih65 := ih e66 hm65
              have fv65 := fv2 e66 hm65
              obtain ⟨ka, na, sa, la, ua⟩ := e66
              rw [Val.row_mk] at hr66 ih65
              refine r_get1 rfl rfl hr66 rfl rfl ?_
              try simp only [List.cons_append, List.nil_append, List.flatten_cons, List.flatten_nil, List.append_nil]
              refine r_get1 rfl rfl hr66 rfl rfl ?_
              try simp only [List.cons_append, List.nil_append, List.flatten_cons, List.flatten_nil, List.append_nil]
              refine r_get1 rfl rfl hr66 rfl rfl ?_
              try simp only [List.cons_append, List.nil_append, List.flatten_cons, List.flatten_nil, List.append_nil]
              refine r_get1 rfl rfl hr66 rfl rfl ?_
              try simp only [List.cons_append, List.nil_append, List.flatten_cons, List.flatten_nil, List.append_nil]
              refine r_get1 rfl rfl hr66 rfl rfl ?_
              try simp only [List.cons_append, List.nil_append, List.flatten_cons, List.flatten_nil, List.append_nil]
              refine r_inbT rfl rfl (by omega) (by omega) (fun e72 he72 hr72 => ?_)
              try simp only [List.cons_append, List.nil_append, List.flatten_cons, List.flatten_nil, List.append_nil]
              have hm71 := List.mem_of_getElem? he72
              have ih71 := ih65 e72 (hts _ hm71) fv65 (ft2 _ hm71)
              obtain ⟨kb, lb, ub⟩ := e72
              rw [Typ.row_mk] at hr72 ih71
              have he71' : tu[0]? = _ := he72
              refine r_get1 rfl rfl hr72 rfl rfl ?_
              try simp only [List.cons_append, List.nil_append, List.flatten_cons, List.flatten_nil, List.append_nil]
              refine r_get1 rfl rfl hr72 rfl rfl ?_
              try simp only [List.cons_append, List.nil_append, List.flatten_cons, List.flatten_nil, List.append_nil]
              refine r_get1 rfl rfl hr72 rfl rfl ?_
              try simp only [List.cons_append, List.nil_append, List.flatten_cons, List.flatten_nil, List.append_nil]
              refine r_callQ ih71 rfl ?_
              rintro _ ⟨r75, rfl, hr75⟩
              refine ⟨rfl, ?_⟩
              try simp only [List.cons_append, List.nil_append, List.flatten_cons, List.flatten_nil, List.append_nil]
              refine r_not rfl ?_
              try simp only [List.cons_append, List.nil_append, List.flatten_cons, List.flatten_nil, List.append_nil]
              first | refine r_iteP rfl (fun h78 => ?_) (fun h78 => ?_) | refine r_iteNP rfl (fun h78 => ?_) (fun h78 => ?_) | refine r_iteN rfl (fun h78 => ?_) (fun h78 => ?_) | refine r_ite rfl (fun h78 => ?_) (fun h78 => ?_)
              · refine r_ret rfl ?_
                exact ⟨_, rfl, iffF (fun h => by rw [hr75.2 (((has5 h5).1 h).2 _ _ _ he66 he71')] at h78; cases h78)⟩
              · first | refine r_add rfl rfl (by simp only [inR] at *; omega) ?_ | refine r_addS rfl rfl (by omega) ?_
                try simp only [List.cons_append, List.nil_append, List.flatten_cons, List.flatten_nil, List.append_nil]
                refine r_again ⟨_, by omega, _, rfl, by omega, by omega, fun j u w hlt hu hw => ?_, rfl⟩
                by_cases hji : (j : Int) < i
                · exact hj j u w hji hu hw
                · have : j = i.toNat := by omega
                  subst this
                  rw [he66] at hu; rw [he71'] at hw; cases hu; cases hw
                  exact hr75.1 h78
            · refine r_ret rfl ?_
              exact ⟨_, rfl, iffT ((has5 h5).2 ⟨Decidable.not_not.1 h60, fun j u w hu hw => hj j u w (by have := (List.getElem?_eq_some_iff.1 hu).1; omega) hu hw⟩)⟩

theorem w238 {v : Val} (hv : v.ok) (fv : VForm v) : ∀ {w : Typ}, w.ok → TForm w → ∃ rs, Big tab (.fn 238 [v.row, w.row] rs) ∧ ∃ b, rs = [[.bool b]] ∧ (b = true ↔ Has v w) := by
  induction v using Val.ind with
  | h k n s ls us ih =>
    intro w hw fw
    have has : ∀ v ∈ us, v.ok := by cases hv; assumption
    obtain ⟨tk, tl, tu⟩ := w
    rw [Val.row_mk, Typ.row_mk]
    exact w238a hv hw fv fw fun v hm w hw' fv' fw' => ih v hm (has v hm) fv' hw' fw'
theorem w238m {k n : Int} {s : ByteArray} {ls : List ByteArray} {us : List Val} {tk : Int} {tl : List ByteArray} {tu : List Typ} (hv : (Val.mk k n s ls us).ok) (ht : (Typ.mk tk tl tu).ok) (fv : VForm (.mk k n s ls us)) (ft : TForm (.mk tk tl tu)) :
    ∃ rs, Big tab (.fn 238 [[I k, I n, .str s, strs ls, vals us], [I tk, strs tl, typs tu]] rs) ∧ ∃ b, rs = [[.bool b]] ∧ (b = true ↔ Has (.mk k n s ls us) (.mk tk tl tu)) := by
  have := w238 hv fv ht ft
  rwa [Val.row_mk, Typ.row_mk] at this

def HasTy (v : Val) (t : Typ) : Prop := VVal v ∧ VType t ∧ Has v t

/-- spec.HasType -/
theorem w203 {k n : Int} {s : ByteArray} {ls : List ByteArray} {us : List Val} {tk : Int} {tl : List ByteArray} {tu : List Typ} (hv : (Val.mk k n s ls us).ok) (ht : (Typ.mk tk tl tu).ok) : ∃ rs, Big tab (.fn 203 [[I k, I n, .str s, strs ls, vals us], [I tk, strs tl, typs tu]] rs) ∧ ∃ b, rs = [[.bool b]] ∧ (b = true ↔ HasTy (.mk k n s ls us) (.mk tk tl tu)) := by
  refine tr_sound rfl c203 rfl ?_
  show wp _ _ _ _ [I k, I n, .str s, strs ls, vals us, I tk, strs tl, typs tu]
  refine r_callQ (w180 hv) rfl ?_
  rintro _ ⟨r0, rfl, hr0⟩
  refine ⟨rfl, ?_⟩
  try simp only [List.cons_append, List.nil_append, List.flatten_cons, List.flatten_nil, List.append_nil]
  first | refine r_iteP rfl (fun h1 => ?_) (fun h1 => ?_) | refine r_iteNP rfl (fun h1 => ?_) (fun h1 => ?_) | refine r_iteN rfl (fun h1 => ?_) (fun h1 => ?_) | refine r_ite rfl (fun h1 => ?_) (fun h1 => ?_)
  · refine r_callQ (w185 ht) rfl ?_
    rintro _ ⟨r2, rfl, hr2⟩
    refine ⟨rfl, ?_⟩
    try simp only [List.cons_append, List.nil_append, List.flatten_cons, List.flatten_nil, List.append_nil]
    first | refine r_iteP rfl (fun h3 => ?_) (fun h3 => ?_) | refine r_iteNP rfl (fun h3 => ?_) (fun h3 => ?_) | refine r_iteN rfl (fun h3 => ?_) (fun h3 => ?_) | refine r_ite rfl (fun h3 => ?_) (fun h3 => ?_)
    · refine r_callQ (w237m hv ht (hr0.1 h1).2 (hr2.1 h3).2.2) rfl ?_
      rintro _ ⟨r4, rfl, hr4⟩
      refine ⟨rfl, ?_⟩
      try simp only [List.cons_append, List.nil_append, List.flatten_cons, List.flatten_nil, List.append_nil]
      refine r_ret rfl ?_
      exact ⟨_, rfl, hr4.trans ⟨fun h => ⟨hr0.1 h1, hr2.1 h3, h⟩, fun h => h.2.2⟩⟩
    · refine r_ret rfl ?_
      exact ⟨_, rfl, iffF (fun h => by rw [hr2.2 h.2.1] at h3; cases h3)⟩
  · refine r_ret rfl ?_
    exact ⟨_, rfl, iffF (fun h => by rw [hr0.2 h.1] at h1; cases h1)⟩

/-- impl.HasType -/
theorem w205 {k n : Int} {s : ByteArray} {ls : List ByteArray} {us : List Val} {tk : Int} {tl : List ByteArray} {tu : List Typ} (hv : (Val.mk k n s ls us).ok) (ht : (Typ.mk tk tl tu).ok) (hb : (Val.mk k n s ls us).nodes ≤ 1099511627777) (hb' : (Typ.mk tk tl tu).nodes ≤ 1099511627777) : ∃ rs, Big tab (.fn 205 [[I k, I n, .str s, strs ls, vals us], [I tk, strs tl, typs tu]] rs) ∧ ∃ b, rs = [[.bool b]] ∧ (b = true ↔ HasTy (.mk k n s ls us) (.mk tk tl tu)) := by
  refine tr_sound rfl c205 rfl ?_
  show wp _ _ _ _ [I k, I n, .str s, strs ls, vals us, I tk, strs tl, typs tu]
  refine r_callQ (w182 hv hb) rfl ?_
  rintro _ ⟨r0, rfl, hr0⟩
  refine ⟨rfl, ?_⟩
  try simp only [List.cons_append, List.nil_append, List.flatten_cons, List.flatten_nil, List.append_nil]
  first | refine r_iteP rfl (fun h1 => ?_) (fun h1 => ?_) | refine r_iteNP rfl (fun h1 => ?_) (fun h1 => ?_) | refine r_iteN rfl (fun h1 => ?_) (fun h1 => ?_) | refine r_ite rfl (fun h1 => ?_) (fun h1 => ?_)
  · refine r_callQ (w189 ht hb') rfl ?_
    rintro _ ⟨r2, rfl, hr2⟩
    refine ⟨rfl, ?_⟩
    try simp only [List.cons_append, List.nil_append, List.flatten_cons, List.flatten_nil, List.append_nil]
    first | refine r_iteP rfl (fun h3 => ?_) (fun h3 => ?_) | refine r_iteNP rfl (fun h3 => ?_) (fun h3 => ?_) | refine r_iteN rfl (fun h3 => ?_) (fun h3 => ?_) | refine r_ite rfl (fun h3 => ?_) (fun h3 => ?_)
    · refine r_callQ (w238m hv ht (hr0.1 h1).2 (hr2.1 h3).2.2) rfl ?_
      rintro _ ⟨r4, rfl, hr4⟩
      refine ⟨rfl, ?_⟩
      try simp only [List.cons_append, List.nil_append, List.flatten_cons, List.flatten_nil, List.append_nil]
      refine r_ret rfl ?_
      exact ⟨_, rfl, hr4.trans ⟨fun h => ⟨hr0.1 h1, hr2.1 h3, h⟩, fun h => h.2.2⟩⟩
    · refine r_ret rfl ?_
      exact ⟨_, rfl, iffF (fun h => by rw [hr2.2 h.2.1] at h3; cases h3)⟩
  · refine r_ret rfl ?_
    exact ⟨_, rfl, iffF (fun h => by rw [hr0.2 h.1] at h1; cases h1)⟩

end Go.Proofs.Ytkiliooegoldoaa
