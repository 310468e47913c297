/- Walks: VText -/
import Derived.Test.YtkiliooegoldoaaTxt
set_option linter.unusedVariables false
set_option linter.unusedSimpArgs false
namespace Go.Proofs.Ytkiliooegoldoaa
open Go

theorem ft0 : primDen (.subS true true) [.str ⟨#[102, 116]⟩, I 0, I (0 + 1)] = some (.str (bs [102])) := by rfl
theorem ft1 : primDen (.subS true true) [.str ⟨#[102, 116]⟩, I 1, I (1 + 1)] = some (.str (bs [116])) := by rfl
theorem r_ft {F : Nat → Option AFunc} {Q : List (List PV) → Prop} {t : Tr} {Qs : Nat → List PV → Prop} {env : List PV} {a b c : At} {n : Int} (h : n = 0 ∨ n = 1) (ha : a.den env = .str ⟨#[102, 116]⟩) (hb : b.den env = I n) (hc : c.den env = I (n + 1))
    (K : wp F Q t Qs (env ++ [.str (if n = 1 then bs [116] else bs [102])])) : wp F Q (.lett ⟨.subS true true, [a, b, c], true⟩ t) Qs env := by
  refine r_lett (.str (if n = 1 then bs [116] else bs [102])) ?_ rfl K
  simp only [List.map_cons, List.map_nil, ha, hb, hc]
  rcases h with rfl | rfl
  · exact ft0
  · exact ft1

/-- spec.l6Text -/
theorem w235a {k n : Int} {s : ByteArray} {ls : List ByteArray} {us : List Val} (hv : (Val.mk k n s ls us).ok) (fv : VForm (.mk k n s ls us)) (hN : (Val.mk k n s ls us).nodes ≤ 300) (ih : ∀ v ∈ us, ∃ rs, Big tab (.fn 235 [v.row] rs) ∧ rs = [[.str v.txt]]) : ∃ rs, Big tab (.fn 235 [[I k, I n, .str s, strs ls, vals us]] rs) ∧ rs = [[.str (Val.mk k n s ls us).txt]] := by
  have hm : maxLen = 9223372036854775807 := rfl
  have hlen : (us.map Val.row).length = us.length := List.length_map ..
  have hlen2 : (ls.map strRow).length = ls.length := List.length_map ..
  have hsz := Val.txt_size hv fv
  have hin : inR n := by cases hv; assumption
  obtain ⟨_, _, hs, hls, hal, has⟩ := hv
  obtain ⟨fv1, fv2⟩ := VForm_mk.1 fv
  have hus : ∀ u ∈ us, u.txt.size ≤ 9000 := fun u hu => by
    have h1 := Val.txt_size (has u hu) (fv2 u hu)
    have h2 := Val.nodes_mem (k := k) (n := n) (s := s) (ls := ls) u hu
    omega
  have hNs := nsum fun u hu => Val.txt_size (has u hu) (fv2 u hu)
  rw [Val.nodes_mk] at hN
  have hl4 : k = 3 → (∀ l ∈ ls, l.size ≤ 4) ∧ ls.length = us.length := fun h3 => by
    rcases fv1 with ⟨h, _⟩ | ⟨h, _⟩ | ⟨h, _, _, hl, hlab⟩ | ⟨h, _⟩ | ⟨h, _⟩ <;> first | exact ⟨lab4 hlab, hl⟩ | (exfalso; omega)
  have hps := psum (k := k) (ls := ls) (us := us) fun h3 => (hl4 h3).1
  have hpl := part_len (k := k) (ls := ls) (us := us) fun h3 => (hl4 h3).2
  rw [Val.txt_mk] at hsz ⊢
  have p3 : ∀ {j : Nat} {l : ByteArray} {u : Val}, k = 3 → ls[j]? = some l → us[j]? = some u → (vparts k ls (us.map Val.txt))[j]? = some (l ++ bs [61] ++ u.txt) := fun h => part3 h
  have pN : ∀ {j : Nat} {u : Val}, ¬ k = 3 → us[j]? = some u → (vparts k ls (us.map Val.txt))[j]? = some u.txt := fun h => partN h
  generalize hP : vparts k ls (us.map Val.txt) = P at *
  have hPok : strsOk P := ⟨by omega, fun x hx => by have := mem_sum (f := ByteArray.size) hx; omega⟩
  have hjl := jn_len (c := [44]) (l := P)
  simp only [List.length_cons, List.length_nil, Nat.mul_one, Nat.zero_add] at hjl
  have b1 : ∀ x : UInt8, (bs [x]).size = 1 := fun x => rfl
  refine tr_sound rfl c235 rfl ?_
  show wp _ _ _ _ [I k, I n, .str s, strs ls, vals us]
  refine r_mk rfl ?_
  try simp only [List.cons_append, List.nil_append, List.flatten_cons, List.flatten_nil, List.append_nil]
  refine r_loop (fun m vs => ∃ i : Int, vs = [.sl 1 ((P.take i.toNat).map strRow), I i] ∧ 0 ≤ i ∧ i ≤ us.length ∧ m = (us.length - i).toNat) _ ⟨0, rfl, by omega, by omega, rfl⟩ ?_
  rintro m _ ⟨i, rfl, hi0, hi1, rfl⟩
  try simp only [List.cons_append, List.nil_append, List.flatten_cons, List.flatten_nil, List.append_nil]
  refine r_len rfl ?_
  try simp only [List.cons_append, List.nil_append, List.flatten_cons, List.flatten_nil, List.append_nil]
  first | refine r_lss rfl rfl ?_ | refine r_lssS rfl rfl ?_
  try simp only [List.cons_append, List.nil_append, List.flatten_cons, List.flatten_nil, List.append_nil]
  first | refine r_iteP rfl (fun h4 => ?_) (fun h4 => ?_) | refine r_iteNP rfl (fun h4 => ?_) (fun h4 => ?_) | refine r_iteN rfl (fun h4 => ?_) (fun h4 => ?_) | refine r_ite rfl (fun h4 => ?_) (fun h4 => ?_)
  · refine r_inbT rfl rfl (by omega) (by omega) (fun e5 he5 hr5 => ?_)
    try simp only [List.cons_append, List.nil_append, List.flatten_cons, List.flatten_nil, List.append_nil]
    have hm5 := List.mem_of_getElem? he5
    have ih5 := ih e5 hm5
    have hu5 := hus e5 hm5
    have q3 := fun (h : k = 3) l (hl : ls[i.toNat]? = some l) => p3 h hl he5
    have qN := fun (h : ¬ k = 3) => pN h he5
    generalize e5.txt = t5 at *
    obtain ⟨ka, na, sa, la, ua⟩ := e5
    rw [Val.row_mk] at hr5 ih5
    refine r_get1 rfl rfl hr5 rfl rfl ?_
    try simp only [List.cons_append, List.nil_append, List.flatten_cons, List.flatten_nil, List.append_nil]
    refine r_get1 rfl rfl hr5 rfl rfl ?_
    try simp only [List.cons_append, List.nil_append, List.flatten_cons, List.flatten_nil, List.append_nil]
    refine r_get1 rfl rfl hr5 rfl rfl ?_
    try simp only [List.cons_append, List.nil_append, List.flatten_cons, List.flatten_nil, List.append_nil]
    refine r_get1 rfl rfl hr5 rfl rfl ?_
    try simp only [List.cons_append, List.nil_append, List.flatten_cons, List.flatten_nil, List.append_nil]
    refine r_get1 rfl rfl hr5 rfl rfl ?_
    try simp only [List.cons_append, List.nil_append, List.flatten_cons, List.flatten_nil, List.append_nil]
    refine r_callQ ih5 rfl ?_
    rintro _ rfl
    refine ⟨rfl, ?_⟩
    try simp only [List.cons_append, List.nil_append, List.flatten_cons, List.flatten_nil, List.append_nil]
    first | refine r_eql rfl rfl ?_ | refine r_eqlS rfl rfl ?_
    try simp only [List.cons_append, List.nil_append, List.flatten_cons, List.flatten_nil, List.append_nil]
    first | refine r_iteP rfl (fun h13 => ?_) (fun h13 => ?_) | refine r_iteNP rfl (fun h13 => ?_) (fun h13 => ?_) | refine r_iteN rfl (fun h13 => ?_) (fun h13 => ?_) | refine r_ite rfl (fun h13 => ?_) (fun h13 => ?_)
    · have hll := (hl4 h13).2
      refine r_inbT rfl rfl (by omega) (by omega) (fun e14 he14 hr14 => ?_)
      try simp only [List.cons_append, List.nil_append, List.flatten_cons, List.flatten_nil, List.append_nil]
      have hq := q3 h13 e14 he14
      have h414 := (hl4 h13).1 e14 (List.mem_of_getElem? he14)
      have hst := part_step hi0 hq
      refine r_get1 rfl rfl hr14 rfl rfl ?_
      try simp only [List.cons_append, List.nil_append, List.flatten_cons, List.flatten_nil, List.append_nil]
      refine r_addS (u := bs [61]) rfl rfl (by rw [b1]; omega) ?_
      try simp only [List.cons_append, List.nil_append, List.flatten_cons, List.flatten_nil, List.append_nil]
      refine r_addS rfl rfl (by rw [ByteArray.size_append, b1]; omega) ?_
      try simp only [List.cons_append, List.nil_append, List.flatten_cons, List.flatten_nil, List.append_nil]
      refine r_mk (xs := [strRow (e14 ++ bs [61] ++ t5)]) rfl ?_
      try simp only [List.cons_append, List.nil_append, List.flatten_cons, List.flatten_nil, List.append_nil]
      refine r_app (xs := (P.take i.toNat).map strRow) (ys := [strRow (e14 ++ bs [61] ++ t5)]) rfl rfl (by simp) (by simp) (by simp; omega) ?_
      try simp only [List.cons_append, List.nil_append, List.flatten_cons, List.flatten_nil, List.append_nil]
      first | refine r_add rfl rfl (by simp only [inR] at *; omega) ?_ | refine r_addS rfl rfl (by omega) ?_
      try simp only [List.cons_append, List.nil_append, List.flatten_cons, List.flatten_nil, List.append_nil]
      refine r_again ⟨_, by omega, i + 1, ?_, by omega, by omega, rfl⟩
      rw [hst]
      rfl
    · have hst := part_step hi0 (qN h13)
      refine r_mk (xs := [strRow t5]) rfl ?_
      try simp only [List.cons_append, List.nil_append, List.flatten_cons, List.flatten_nil, List.append_nil]
      refine r_app (xs := (P.take i.toNat).map strRow) (ys := [strRow t5]) rfl rfl (by simp) (by simp) (by simp; omega) ?_
      try simp only [List.cons_append, List.nil_append, List.flatten_cons, List.flatten_nil, List.append_nil]
      first | refine r_add rfl rfl (by simp only [inR] at *; omega) ?_ | refine r_addS rfl rfl (by omega) ?_
      try simp only [List.cons_append, List.nil_append, List.flatten_cons, List.flatten_nil, List.append_nil]
      refine r_again ⟨_, by omega, i + 1, ?_, by omega, by omega, rfl⟩
      rw [hst]
      rfl
  · have htk : P.take i.toNat = P := List.take_of_length_le (by omega)
    rw [htk]
    first | refine r_eql rfl rfl ?_ | refine r_eqlS rfl rfl ?_
    try simp only [List.cons_append, List.nil_append, List.flatten_cons, List.flatten_nil, List.append_nil]
    first | refine r_iteP rfl (fun h27 => ?_) (fun h27 => ?_) | refine r_iteNP rfl (fun h27 => ?_) (fun h27 => ?_) | refine r_iteN rfl (fun h27 => ?_) (fun h27 => ?_) | refine r_ite rfl (fun h27 => ?_) (fun h27 => ?_)
    · refine r_callQ (w69 hin) rfl ?_
      rintro _ rfl
      refine ⟨rfl, ?_⟩
      try simp only [List.cons_append, List.nil_append, List.flatten_cons, List.flatten_nil, List.append_nil]
      refine r_ret rfl ?_
      unfold vtxt; rw [if_pos h27]; rfl
    · first | refine r_eql rfl rfl ?_ | refine r_eqlS rfl rfl ?_
      try simp only [List.cons_append, List.nil_append, List.flatten_cons, List.flatten_nil, List.append_nil]
      first | refine r_iteP rfl (fun h31 => ?_) (fun h31 => ?_) | refine r_iteNP rfl (fun h31 => ?_) (fun h31 => ?_) | refine r_iteN rfl (fun h31 => ?_) (fun h31 => ?_) | refine r_ite rfl (fun h31 => ?_) (fun h31 => ?_)
      · have h01 : n = 0 ∨ n = 1 := by
          rcases fv1 with ⟨h, _⟩ | ⟨_, h, _⟩ | ⟨h, _⟩ | ⟨h, _⟩ | ⟨h, _⟩ <;> first | exact h | (exfalso; omega)
        first | refine r_add rfl rfl (by simp only [inR] at *; omega) ?_ | refine r_addS rfl rfl (by omega) ?_
        try simp only [List.cons_append, List.nil_append, List.flatten_cons, List.flatten_nil, List.append_nil]
        refine r_ft h01 rfl rfl rfl ?_
        try simp only [List.cons_append, List.nil_append, List.flatten_cons, List.flatten_nil, List.append_nil]
        refine r_addS (s := bs [35]) rfl rfl (by split <;> decide) ?_
        try simp only [List.cons_append, List.nil_append, List.flatten_cons, List.flatten_nil, List.append_nil]
        refine r_ret rfl ?_
        unfold vtxt; rw [if_neg h27, if_pos h31]; rcases h01 with rfl | rfl <;> rfl
      · first | refine r_eql rfl rfl ?_ | refine r_eqlS rfl rfl ?_
        try simp only [List.cons_append, List.nil_append, List.flatten_cons, List.flatten_nil, List.append_nil]
        first | refine r_iteP rfl (fun h37 => ?_) (fun h37 => ?_) | refine r_iteNP rfl (fun h37 => ?_) (fun h37 => ?_) | refine r_iteN rfl (fun h37 => ?_) (fun h37 => ?_) | refine r_ite rfl (fun h37 => ?_) (fun h37 => ?_)
        · refine r_callQ (w243 hPok (by omega)) rfl ?_
          rintro _ rfl
          refine ⟨rfl, ?_⟩
          try simp only [List.cons_append, List.nil_append, List.flatten_cons, List.flatten_nil, List.append_nil]
          refine r_addS (s := bs [123]) (u := bs (jn [44] P)) rfl rfl (by rw [b1, bs_size]; omega) ?_
          try simp only [List.cons_append, List.nil_append, List.flatten_cons, List.flatten_nil, List.append_nil]
          refine r_addS (s := bs [123] ++ bs (jn [44] P)) (u := bs [125]) rfl rfl (by rw [ByteArray.size_append, b1, b1, bs_size]; omega) ?_
          try simp only [List.cons_append, List.nil_append, List.flatten_cons, List.flatten_nil, List.append_nil]
          refine r_ret rfl ?_
          unfold vtxt; rw [if_neg h27, if_neg h31, if_neg (by omega), if_pos h37, hP]; rfl
        · first | refine r_eql rfl rfl ?_ | refine r_eqlS rfl rfl ?_
          try simp only [List.cons_append, List.nil_append, List.flatten_cons, List.flatten_nil, List.append_nil]
          first | refine r_iteP rfl (fun h43 => ?_) (fun h43 => ?_) | refine r_iteNP rfl (fun h43 => ?_) (fun h43 => ?_) | refine r_iteN rfl (fun h43 => ?_) (fun h43 => ?_) | refine r_ite rfl (fun h43 => ?_) (fun h43 => ?_)
          · have hk4 : IsNm s ∧ us.length = 1 := by
              rcases fv1 with ⟨h, _⟩ | ⟨h, _⟩ | ⟨h, _⟩ | ⟨_, _, hnm, _, hu⟩ | ⟨h, _⟩ <;> first | exact ⟨hnm, hu⟩ | (exfalso; omega)
            have hs4 := hk4.1.2.1
            obtain ⟨u0, hu0⟩ : ∃ u0, us = [u0] := by
              match us, hk4.2 with
              | [u], _ => exact ⟨u, rfl⟩
            have hPe : P = [u0.txt] := by rw [← hP, hu0]; unfold vparts; rw [if_neg h37]; rfl
            have hu9 := hus u0 (by rw [hu0]; simp)
            rw [hPe]
            refine r_addS (s := bs [60]) rfl rfl (by rw [b1]; omega) ?_
            try simp only [List.cons_append, List.nil_append, List.flatten_cons, List.flatten_nil, List.append_nil]
            refine r_addS (u := bs [32]) rfl rfl (by rw [ByteArray.size_append, b1, b1]; omega) ?_
            try simp only [List.cons_append, List.nil_append, List.flatten_cons, List.flatten_nil, List.append_nil]
            refine r_inb (xs := [strRow u0.txt]) rfl rfl (by omega) (by simp) ?_
            try simp only [List.cons_append, List.nil_append, List.flatten_cons, List.flatten_nil, List.append_nil]
            refine r_get1 (xs := [strRow u0.txt]) rfl rfl (row := strRow u0.txt) rfl rfl rfl ?_
            try simp only [List.cons_append, List.nil_append, List.flatten_cons, List.flatten_nil, List.append_nil]
            refine r_addS (u := u0.txt) rfl rfl (by rw [ByteArray.size_append, ByteArray.size_append, b1, b1]; omega) ?_
            try simp only [List.cons_append, List.nil_append, List.flatten_cons, List.flatten_nil, List.append_nil]
            refine r_addS (u := bs [62]) rfl rfl (by rw [ByteArray.size_append, ByteArray.size_append, ByteArray.size_append, b1, b1, b1]; omega) ?_
            try simp only [List.cons_append, List.nil_append, List.flatten_cons, List.flatten_nil, List.append_nil]
            refine r_ret rfl ?_
            unfold vtxt; rw [if_neg h27, if_neg h31, if_pos h43, hu0]; rfl
          · refine r_callQ (w243 hPok (by omega)) rfl ?_
            rintro _ rfl
            refine ⟨rfl, ?_⟩
            try simp only [List.cons_append, List.nil_append, List.flatten_cons, List.flatten_nil, List.append_nil]
            refine r_addS (s := bs [91]) (u := bs (jn [44] P)) rfl rfl (by rw [b1, bs_size]; omega) ?_
            try simp only [List.cons_append, List.nil_append, List.flatten_cons, List.flatten_nil, List.append_nil]
            refine r_addS (s := bs [91] ++ bs (jn [44] P)) (u := bs [93]) rfl rfl (by rw [ByteArray.size_append, b1, b1, bs_size]; omega) ?_
            try simp only [List.cons_append, List.nil_append, List.flatten_cons, List.flatten_nil, List.append_nil]
            refine r_ret rfl ?_
            unfold vtxt; rw [if_neg h27, if_neg h31, if_neg h43, if_neg h37, hP]; rfl

/-- impl.valueText -/
theorem w236a {k n : Int} {s : ByteArray} {ls : List ByteArray} {us : List Val} (hv : (Val.mk k n s ls us).ok) (fv : VForm (.mk k n s ls us)) (hN : (Val.mk k n s ls us).nodes ≤ 300) (ih : ∀ v ∈ us, ∃ rs, Big tab (.fn 236 [v.row] rs) ∧ rs = [[.str v.txt]]) : ∃ rs, Big tab (.fn 236 [[I k, I n, .str s, strs ls, vals us]] rs) ∧ rs = [[.str (Val.mk k n s ls us).txt]] := by
  have hm : maxLen = 9223372036854775807 := rfl
  have hlen : (us.map Val.row).length = us.length := List.length_map ..
  have hlen2 : (ls.map strRow).length = ls.length := List.length_map ..
  have hsz := Val.txt_size hv fv
  have hin : inR n := by cases hv; assumption
  obtain ⟨_, _, hs, hls, hal, has⟩ := hv
  obtain ⟨fv1, fv2⟩ := VForm_mk.1 fv
  have hus : ∀ u ∈ us, u.txt.size ≤ 9000 := fun u hu => by
    have h1 := Val.txt_size (has u hu) (fv2 u hu)
    have h2 := Val.nodes_mem (k := k) (n := n) (s := s) (ls := ls) u hu
    omega
  have hNs := nsum fun u hu => Val.txt_size (has u hu) (fv2 u hu)
  rw [Val.nodes_mk] at hN
  have hl4 : k = 3 → (∀ l ∈ ls, l.size ≤ 4) ∧ ls.length = us.length := fun h3 => by
    rcases fv1 with ⟨h, _⟩ | ⟨h, _⟩ | ⟨h, _, _, hl, hlab⟩ | ⟨h, _⟩ | ⟨h, _⟩ <;> first | exact ⟨lab4 hlab, hl⟩ | (exfalso; omega)
  have hps := psum (k := k) (ls := ls) (us := us) fun h3 => (hl4 h3).1
  have hpl := part_len (k := k) (ls := ls) (us := us) fun h3 => (hl4 h3).2
  rw [Val.txt_mk] at hsz ⊢
  have p3 : ∀ {j : Nat} {l : ByteArray} {u : Val}, k = 3 → ls[j]? = some l → us[j]? = some u → (vparts k ls (us.map Val.txt))[j]? = some (l ++ bs [61] ++ u.txt) := fun h => part3 h
  have pN : ∀ {j : Nat} {u : Val}, ¬ k = 3 → us[j]? = some u → (vparts k ls (us.map Val.txt))[j]? = some u.txt := fun h => partN h
  generalize hP : vparts k ls (us.map Val.txt) = P at *
  have hPok : strsOk P := ⟨by omega, fun x hx => by have := mem_sum (f := ByteArray.size) hx; omega⟩
  have hjl := jn_len (c := [44]) (l := P)
  simp only [List.length_cons, List.length_nil, Nat.mul_one, Nat.zero_add] at hjl
  have b1 : ∀ x : UInt8, (bs [x]).size = 1 := fun x => rfl
  refine tr_sound rfl c236 rfl ?_
  show wp _ _ _ _ [I k, I n, .str s, strs ls, vals us]
  first | refine r_eql rfl rfl ?_ | refine r_eqlS rfl rfl ?_
  try simp only [List.cons_append, List.nil_append, List.flatten_cons, List.flatten_nil, List.append_nil]
  first | refine r_iteP rfl (fun h1 => ?_) (fun h1 => ?_) | refine r_iteNP rfl (fun h1 => ?_) (fun h1 => ?_) | refine r_iteN rfl (fun h1 => ?_) (fun h1 => ?_) | refine r_ite rfl (fun h1 => ?_) (fun h1 => ?_)
  · refine r_callQ (w70 hin) rfl ?_
    rintro _ rfl
    refine ⟨rfl, ?_⟩
    try simp only [List.cons_append, List.nil_append, List.flatten_cons, List.flatten_nil, List.append_nil]
    refine r_ret rfl ?_
    unfold vtxt; rw [if_pos h1]; rfl
  · first | refine r_eql rfl rfl ?_ | refine r_eqlS rfl rfl ?_
    try simp only [List.cons_append, List.nil_append, List.flatten_cons, List.flatten_nil, List.append_nil]
    first | refine r_iteP rfl (fun h5 => ?_) (fun h5 => ?_) | refine r_iteNP rfl (fun h5 => ?_) (fun h5 => ?_) | refine r_iteN rfl (fun h5 => ?_) (fun h5 => ?_) | refine r_ite rfl (fun h5 => ?_) (fun h5 => ?_)
    · first | refine r_eql rfl rfl ?_ | refine r_eqlS rfl rfl ?_
      try simp only [List.cons_append, List.nil_append, List.flatten_cons, List.flatten_nil, List.append_nil]
      first | refine r_iteP rfl (fun h7 => ?_) (fun h7 => ?_) | refine r_iteNP rfl (fun h7 => ?_) (fun h7 => ?_) | refine r_iteN rfl (fun h7 => ?_) (fun h7 => ?_) | refine r_ite rfl (fun h7 => ?_) (fun h7 => ?_)
      · refine r_ret rfl ?_
        unfold vtxt; rw [if_neg h1, if_pos h5, if_pos h7]; rfl
      · refine r_ret rfl ?_
        unfold vtxt; rw [if_neg h1, if_pos h5, if_neg h7]; rfl
    · first | refine r_eql rfl rfl ?_ | refine r_eqlS rfl rfl ?_
      try simp only [List.cons_append, List.nil_append, List.flatten_cons, List.flatten_nil, List.append_nil]
      first | refine r_iteP rfl (fun h11 => ?_) (fun h11 => ?_) | refine r_iteNP rfl (fun h11 => ?_) (fun h11 => ?_) | refine r_iteN rfl (fun h11 => ?_) (fun h11 => ?_) | refine r_ite rfl (fun h11 => ?_) (fun h11 => ?_)
      · have hk4 : IsNm s ∧ us.length = 1 := by
          rcases fv1 with ⟨h, _⟩ | ⟨h, _⟩ | ⟨h, _⟩ | ⟨_, _, hnm, _, hu⟩ | ⟨h, _⟩ <;> first | exact ⟨hnm, hu⟩ | (exfalso; omega)
        have hs4 := hk4.1.2.1
        refine r_addS (s := bs [60]) rfl rfl (by rw [b1]; omega) ?_
        try simp only [List.cons_append, List.nil_append, List.flatten_cons, List.flatten_nil, List.append_nil]
        refine r_addS (u := bs [32]) rfl rfl (by rw [ByteArray.size_append, b1, b1]; omega) ?_
        try simp only [List.cons_append, List.nil_append, List.flatten_cons, List.flatten_nil, List.append_nil]
        refine r_inbT rfl rfl (by omega) (by omega) (fun e14 he14 hr14 => ?_)
        try simp only [List.cons_append, List.nil_append, List.flatten_cons, List.flatten_nil, List.append_nil]
        have hm14 := List.mem_of_getElem? he14
        have ih14 := ih e14 hm14
        have hu14 := hus e14 hm14
        have hh14 : (us.map Val.txt).headD (bs []) = e14.txt := by
          have he : us[0]? = some e14 := he14
          match us, he with
          | u :: _, he => simp at he; rw [he]; rfl
        generalize e14.txt = t14 at *
        obtain ⟨ka, na, sa, la, ua⟩ := e14
        rw [Val.row_mk] at hr14 ih14
        refine r_get1 rfl rfl hr14 rfl rfl ?_
        try simp only [List.cons_append, List.nil_append, List.flatten_cons, List.flatten_nil, List.append_nil]
        refine r_get1 rfl rfl hr14 rfl rfl ?_
        try simp only [List.cons_append, List.nil_append, List.flatten_cons, List.flatten_nil, List.append_nil]
        refine r_get1 rfl rfl hr14 rfl rfl ?_
        try simp only [List.cons_append, List.nil_append, List.flatten_cons, List.flatten_nil, List.append_nil]
        refine r_get1 rfl rfl hr14 rfl rfl ?_
        try simp only [List.cons_append, List.nil_append, List.flatten_cons, List.flatten_nil, List.append_nil]
        refine r_get1 rfl rfl hr14 rfl rfl ?_
        try simp only [List.cons_append, List.nil_append, List.flatten_cons, List.flatten_nil, List.append_nil]
        refine r_callQ ih14 rfl ?_
        rintro _ rfl
        refine ⟨rfl, ?_⟩
        try simp only [List.cons_append, List.nil_append, List.flatten_cons, List.flatten_nil, List.append_nil]
        refine r_addS (u := t14) rfl rfl (by rw [ByteArray.size_append, ByteArray.size_append, b1, b1]; omega) ?_
        try simp only [List.cons_append, List.nil_append, List.flatten_cons, List.flatten_nil, List.append_nil]
        refine r_addS (u := bs [62]) rfl rfl (by rw [ByteArray.size_append, ByteArray.size_append, ByteArray.size_append, b1, b1, b1]; omega) ?_
        try simp only [List.cons_append, List.nil_append, List.flatten_cons, List.flatten_nil, List.append_nil]
        refine r_ret rfl ?_
        unfold vtxt; rw [if_neg h1, if_neg h5, if_pos h11, hh14]; rfl
      · refine r_mk rfl ?_
        try simp only [List.cons_append, List.nil_append, List.flatten_cons, List.flatten_nil, List.append_nil]
        refine r_len rfl ?_
        try simp only [List.cons_append, List.nil_append, List.flatten_cons, List.flatten_nil, List.append_nil]
        refine r_loop (fun m vs => ∃ i : Int, vs = [I k, I n, .str s, strs ls, vals us, .sl 1 ((P.take i.toNat).map strRow), I i] ∧ 0 ≤ i ∧ i ≤ us.length ∧ m = (us.length - i).toNat) _ ⟨0, rfl, by omega, by omega, rfl⟩ ?_
        rintro m _ ⟨i, rfl, hi0, hi1, rfl⟩
        try simp only [List.cons_append, List.nil_append, List.flatten_cons, List.flatten_nil, List.append_nil]
        first | refine r_lss rfl rfl ?_ | refine r_lssS rfl rfl ?_
        try simp only [List.cons_append, List.nil_append, List.flatten_cons, List.flatten_nil, List.append_nil]
        first | refine r_iteP rfl (fun h28 => ?_) (fun h28 => ?_) | refine r_iteNP rfl (fun h28 => ?_) (fun h28 => ?_) | refine r_iteN rfl (fun h28 => ?_) (fun h28 => ?_) | refine r_ite rfl (fun h28 => ?_) (fun h28 => ?_)
        · refine r_inbT rfl rfl (by omega) (by omega) (fun e29 he29 hr29 => ?_)
          try simp only [List.cons_append, List.nil_append, List.flatten_cons, List.flatten_nil, List.append_nil]
          have hm5 := List.mem_of_getElem? he29
          have ih5 := ih e29 hm5
          have hu5 := hus e29 hm5
          have q3 := fun (h : k = 3) l (hl : ls[i.toNat]? = some l) => p3 h hl he29
          have qN := fun (h : ¬ k = 3) => pN h he29
          generalize e29.txt = t5 at *
          obtain ⟨ka, na, sa, la, ua⟩ := e29
          rw [Val.row_mk] at hr29 ih5
          refine r_get1 rfl rfl hr29 rfl rfl ?_
          try simp only [List.cons_append, List.nil_append, List.flatten_cons, List.flatten_nil, List.append_nil]
          refine r_get1 rfl rfl hr29 rfl rfl ?_
          try simp only [List.cons_append, List.nil_append, List.flatten_cons, List.flatten_nil, List.append_nil]
          refine r_get1 rfl rfl hr29 rfl rfl ?_
          try simp only [List.cons_append, List.nil_append, List.flatten_cons, List.flatten_nil, List.append_nil]
          refine r_get1 rfl rfl hr29 rfl rfl ?_
          try simp only [List.cons_append, List.nil_append, List.flatten_cons, List.flatten_nil, List.append_nil]
          refine r_get1 rfl rfl hr29 rfl rfl ?_
          try simp only [List.cons_append, List.nil_append, List.flatten_cons, List.flatten_nil, List.append_nil]
          refine r_callQ ih5 rfl ?_
          rintro _ rfl
          refine ⟨rfl, ?_⟩
          try simp only [List.cons_append, List.nil_append, List.flatten_cons, List.flatten_nil, List.append_nil]
          first | refine r_eql rfl rfl ?_ | refine r_eqlS rfl rfl ?_
          try simp only [List.cons_append, List.nil_append, List.flatten_cons, List.flatten_nil, List.append_nil]
          first | refine r_iteP rfl (fun h37 => ?_) (fun h37 => ?_) | refine r_iteNP rfl (fun h37 => ?_) (fun h37 => ?_) | refine r_iteN rfl (fun h37 => ?_) (fun h37 => ?_) | refine r_ite rfl (fun h37 => ?_) (fun h37 => ?_)
          · have hll := (hl4 h37).2
            refine r_inbT rfl rfl (by omega) (by omega) (fun e38 he38 hr38 => ?_)
            try simp only [List.cons_append, List.nil_append, List.flatten_cons, List.flatten_nil, List.append_nil]
            have hq := q3 h37 e38 he38
            have h414 := (hl4 h37).1 e38 (List.mem_of_getElem? he38)
            have hst := part_step hi0 hq
            refine r_get1 rfl rfl hr38 rfl rfl ?_
            try simp only [List.cons_append, List.nil_append, List.flatten_cons, List.flatten_nil, List.append_nil]
            refine r_addS (u := bs [61]) rfl rfl (by rw [b1]; omega) ?_
            try simp only [List.cons_append, List.nil_append, List.flatten_cons, List.flatten_nil, List.append_nil]
            refine r_addS rfl rfl (by rw [ByteArray.size_append, b1]; omega) ?_
            try simp only [List.cons_append, List.nil_append, List.flatten_cons, List.flatten_nil, List.append_nil]
            refine r_mk (xs := [strRow (e38 ++ bs [61] ++ t5)]) rfl ?_
            try simp only [List.cons_append, List.nil_append, List.flatten_cons, List.flatten_nil, List.append_nil]
            refine r_app (xs := (P.take i.toNat).map strRow) (ys := [strRow (e38 ++ bs [61] ++ t5)]) rfl rfl (by simp) (by simp) (by simp; omega) ?_
            try simp only [List.cons_append, List.nil_append, List.flatten_cons, List.flatten_nil, List.append_nil]
            first | refine r_add rfl rfl (by simp only [inR] at *; omega) ?_ | refine r_addS rfl rfl (by omega) ?_
            try simp only [List.cons_append, List.nil_append, List.flatten_cons, List.flatten_nil, List.append_nil]
            refine r_again ⟨_, by omega, i + 1, ?_, by omega, by omega, rfl⟩
            rw [hst]
            rfl
          · have hst := part_step hi0 (qN h37)
            refine r_mk (xs := [strRow t5]) rfl ?_
            try simp only [List.cons_append, List.nil_append, List.flatten_cons, List.flatten_nil, List.append_nil]
            refine r_app (xs := (P.take i.toNat).map strRow) (ys := [strRow t5]) rfl rfl (by simp) (by simp) (by simp; omega) ?_
            try simp only [List.cons_append, List.nil_append, List.flatten_cons, List.flatten_nil, List.append_nil]
            first | refine r_add rfl rfl (by simp only [inR] at *; omega) ?_ | refine r_addS rfl rfl (by omega) ?_
            try simp only [List.cons_append, List.nil_append, List.flatten_cons, List.flatten_nil, List.append_nil]
            refine r_again ⟨_, by omega, i + 1, ?_, by omega, by omega, rfl⟩
            rw [hst]
            rfl
        · have htk : P.take i.toNat = P := List.take_of_length_le (by omega)
          rw [htk]
          first | refine r_eql rfl rfl ?_ | refine r_eqlS rfl rfl ?_
          try simp only [List.cons_append, List.nil_append, List.flatten_cons, List.flatten_nil, List.append_nil]
          first | refine r_iteP rfl (fun h51 => ?_) (fun h51 => ?_) | refine r_iteNP rfl (fun h51 => ?_) (fun h51 => ?_) | refine r_iteN rfl (fun h51 => ?_) (fun h51 => ?_) | refine r_ite rfl (fun h51 => ?_) (fun h51 => ?_)
          · refine r_callQ (w244 hPok (by omega)) rfl ?_
            rintro _ rfl
            refine ⟨rfl, ?_⟩
            try simp only [List.cons_append, List.nil_append, List.flatten_cons, List.flatten_nil, List.append_nil]
            refine r_addS (s := bs [123]) (u := bs (jn [44] P)) rfl rfl (by rw [b1, bs_size]; omega) ?_
            try simp only [List.cons_append, List.nil_append, List.flatten_cons, List.flatten_nil, List.append_nil]
            refine r_addS (s := bs [123] ++ bs (jn [44] P)) (u := bs [125]) rfl rfl (by rw [ByteArray.size_append, b1, b1, bs_size]; omega) ?_
            try simp only [List.cons_append, List.nil_append, List.flatten_cons, List.flatten_nil, List.append_nil]
            refine r_ret rfl ?_
            unfold vtxt; rw [if_neg h1, if_neg h5, if_neg h11, if_pos h51, hP]; rfl
          · refine r_callQ (w244 hPok (by omega)) rfl ?_
            rintro _ rfl
            refine ⟨rfl, ?_⟩
            try simp only [List.cons_append, List.nil_append, List.flatten_cons, List.flatten_nil, List.append_nil]
            refine r_addS (s := bs [91]) (u := bs (jn [44] P)) rfl rfl (by rw [b1, bs_size]; omega) ?_
            try simp only [List.cons_append, List.nil_append, List.flatten_cons, List.flatten_nil, List.append_nil]
            refine r_addS (s := bs [91] ++ bs (jn [44] P)) (u := bs [93]) rfl rfl (by rw [ByteArray.size_append, b1, b1, bs_size]; omega) ?_
            try simp only [List.cons_append, List.nil_append, List.flatten_cons, List.flatten_nil, List.append_nil]
            refine r_ret rfl ?_
            unfold vtxt; rw [if_neg h1, if_neg h5, if_neg h11, if_neg h51, hP]; rfl

end Go.Proofs.Ytkiliooegoldoaa
