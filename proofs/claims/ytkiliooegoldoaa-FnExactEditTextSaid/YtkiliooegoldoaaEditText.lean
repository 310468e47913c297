/- Walks: EditText -/
import Derived.Test.YtkiliooegoldoaaVText
set_option linter.unusedVariables false
set_option linter.unusedSimpArgs false
namespace Go.Proofs.Ytkiliooegoldoaa
open Go

theorem w235 {v : Val} (hv : v.ok) (fv : VForm v) (hN : v.nodes ≤ 300) : ∃ rs, Big tab (.fn 235 [v.row] rs) ∧ rs = [[.str v.txt]] := by
  induction v using Val.ind with
  | h k n s ls us ih =>
    have has : ∀ v ∈ us, v.ok := by cases hv; assumption
    have fv2 := (VForm_mk.1 fv).2
    rw [Val.row_mk]
    exact w235a hv fv hN fun v hm => ih v hm (has v hm) (fv2 v hm) (by have := Val.nodes_mem (k := k) (n := n) (s := s) (ls := ls) v hm; omega)
theorem w236 {v : Val} (hv : v.ok) (fv : VForm v) (hN : v.nodes ≤ 300) : ∃ rs, Big tab (.fn 236 [v.row] rs) ∧ rs = [[.str v.txt]] := by
  induction v using Val.ind with
  | h k n s ls us ih =>
    have has : ∀ v ∈ us, v.ok := by cases hv; assumption
    have fv2 := (VForm_mk.1 fv).2
    rw [Val.row_mk]
    exact w236a hv fv hN fun v hm => ih v hm (has v hm) (fv2 v hm) (by have := Val.nodes_mem (k := k) (n := n) (s := s) (ls := ls) v hm; omega)
section
variable {k n : Int} {s : ByteArray} {ls : List ByteArray} {us : List Val} (hv : (Val.mk k n s ls us).ok) (fv : VVal (.mk k n s ls us))
include hv fv
theorem w235m : ∃ rs, Big tab (.fn 235 [[I k, I n, .str s, strs ls, vals us]] rs) ∧ rs = [[.str (Val.mk k n s ls us).txt]] := by
  have := w235 hv fv.2 fv.1
  rwa [Val.row_mk] at this
theorem w236m : ∃ rs, Big tab (.fn 236 [[I k, I n, .str s, strs ls, vals us]] rs) ∧ rs = [[.str (Val.mk k n s ls us).txt]] := by
  have := w236 hv fv.2 fv.1
  rwa [Val.row_mk] at this
end
noncomputable def fmtV (v : Val) : ByteArray := open Classical in if VVal v then v.txt else bs []
theorem fmtV_size {v : Val} (hv : v.ok) : (fmtV v).size ≤ 9000 := by
  unfold fmtV
  split
  · rename_i h; have := Val.txt_size hv h.2; have := h.1; omega
  · simp [bs_size]
theorem pathText_size {l : List Stp} (hl : stpsOk l) : (pathText l).size ≤ 400 := by
  unfold pathText
  split
  · rename_i h
    have := p_size (l := l) fun x hx => ⟨h.2 x hx, (hl.2 x hx).2.2⟩
    have := h.1
    omega
  · simp [bs_size]

/-- spec.FormatValue -/
theorem w200 {k n : Int} {s : ByteArray} {ls : List ByteArray} {us : List Val} (hv : (Val.mk k n s ls us).ok) : ∃ rs, Big tab (.fn 200 [[I k, I n, .str s, strs ls, vals us]] rs) ∧ rs = [[.str (fmtV (.mk k n s ls us))]] := by
  refine tr_sound rfl c200 rfl ?_
  show wp _ _ _ _ [I k, I n, .str s, strs ls, vals us]
  refine r_callQ (w180 hv) rfl ?_
  rintro _ ⟨r0, rfl, hr0⟩
  refine ⟨rfl, ?_⟩
  try simp only [List.cons_append, List.nil_append, List.flatten_cons, List.flatten_nil, List.append_nil]
  refine r_not rfl ?_
  try simp only [List.cons_append, List.nil_append, List.flatten_cons, List.flatten_nil, List.append_nil]
  first | refine r_iteP rfl (fun h2 => ?_) (fun h2 => ?_) | refine r_iteNP rfl (fun h2 => ?_) (fun h2 => ?_) | refine r_iteN rfl (fun h2 => ?_) (fun h2 => ?_) | refine r_ite rfl (fun h2 => ?_) (fun h2 => ?_)
  · refine r_ret rfl ?_
    unfold fmtV; rw [if_neg (fun h => by rw [hr0.2 h] at h2; cases h2)]; rfl
  · refine r_callQ (w235m hv (hr0.1 h2)) rfl ?_
    rintro _ rfl
    refine ⟨rfl, ?_⟩
    try simp only [List.cons_append, List.nil_append, List.flatten_cons, List.flatten_nil, List.append_nil]
    refine r_ret rfl ?_
    unfold fmtV; rw [if_pos (hr0.1 h2)]; rfl

/-- impl.FormatValue -/
theorem w201 {k n : Int} {s : ByteArray} {ls : List ByteArray} {us : List Val} (hv : (Val.mk k n s ls us).ok) (hb : (Val.mk k n s ls us).nodes ≤ 1099511627777) : ∃ rs, Big tab (.fn 201 [[I k, I n, .str s, strs ls, vals us]] rs) ∧ rs = [[.str (fmtV (.mk k n s ls us))]] := by
  refine tr_sound rfl c201 rfl ?_
  show wp _ _ _ _ [I k, I n, .str s, strs ls, vals us]
  refine r_callQ (w182 hv hb) rfl ?_
  rintro _ ⟨r0, rfl, hr0⟩
  refine ⟨rfl, ?_⟩
  try simp only [List.cons_append, List.nil_append, List.flatten_cons, List.flatten_nil, List.append_nil]
  refine r_not rfl ?_
  try simp only [List.cons_append, List.nil_append, List.flatten_cons, List.flatten_nil, List.append_nil]
  first | refine r_iteP rfl (fun h2 => ?_) (fun h2 => ?_) | refine r_iteNP rfl (fun h2 => ?_) (fun h2 => ?_) | refine r_iteN rfl (fun h2 => ?_) (fun h2 => ?_) | refine r_ite rfl (fun h2 => ?_) (fun h2 => ?_)
  · refine r_ret rfl ?_
    unfold fmtV; rw [if_neg (fun h => by rw [hr0.2 h] at h2; cases h2)]; rfl
  · refine r_callQ (w236m hv (hr0.1 h2)) rfl ?_
    rintro _ rfl
    refine ⟨rfl, ?_⟩
    try simp only [List.cons_append, List.nil_append, List.flatten_cons, List.flatten_nil, List.append_nil]
    refine r_ret rfl ?_
    unfold fmtV; rw [if_pos (hr0.1 h2)]; rfl

noncomputable def edTxt (k : Int) (p : List Stp) (v : Val) (n : Int) : ByteArray :=
  let a := if p.length = 0 then bs [45] else pathText p
  if k = 1 then bs [115, 101, 116, 32] ++ a ++ bs [32] ++ fmtV v else
  if k = 2 then bs [105, 110, 115, 101, 114, 116, 32] ++ a ++ bs [32] ++ fmt n ++ bs [32] ++ fmtV v else
  if k = 3 then bs [100, 101, 108, 101, 116, 101, 32] ++ a ++ bs [32] ++ fmt n else bs []

/-- spec.EditText -/
theorem w168a {k n vk vn : Int} {p : List Stp} {s : ByteArray} {ls : List ByteArray} {us : List Val} (hn : inR n) (hp : stpsOk p) (hv : (Val.mk vk vn s ls us).ok) : ∃ rs, Big tab (.fn 168 [[I k, stps p, I vk, I vn, .str s, strs ls, vals us, I n]] rs) ∧ rs = [[.str (edTxt k p (.mk vk vn s ls us) n)]] := by
  have hlen : (p.map Stp.row).length = p.length := List.length_map ..
  have z1 := pathText_size hp
  have z2 := fmtV_size hv
  have z3 := fmt_size hn
  refine tr_sound rfl c168 rfl ?_
  show wp _ _ _ _ [I k, stps p, I vk, I vn, .str s, strs ls, vals us, I n]
  refine r_callQ (w39 hp) rfl ?_
  rintro _ rfl
  refine ⟨rfl, ?_⟩
  try simp only [List.cons_append, List.nil_append, List.flatten_cons, List.flatten_nil, List.append_nil]
  refine r_join (fun vs => vs = [.str (if p.length = 0 then bs [45] else pathText p)]) ?_ ?_
  · refine r_len rfl ?_
    try simp only [List.cons_append, List.nil_append, List.flatten_cons, List.flatten_nil, List.append_nil]
    first | refine r_eql rfl rfl ?_ | refine r_eqlS rfl rfl ?_
    try simp only [List.cons_append, List.nil_append, List.flatten_cons, List.flatten_nil, List.append_nil]
    first | refine r_iteP rfl (fun h4 => ?_) (fun h4 => ?_) | refine r_iteNP rfl (fun h4 => ?_) (fun h4 => ?_) | refine r_iteN rfl (fun h4 => ?_) (fun h4 => ?_) | refine r_ite rfl (fun h4 => ?_) (fun h4 => ?_)
    · refine r_again ?_
      rw [if_pos (by omega)]
      rfl
    · refine r_again ?_
      rw [if_neg (by omega)]
      rfl
  rintro _ rfl
  have z0 : (if p.length = 0 then bs [45] else pathText p).size ≤ 400 := by
    split
    · rw [bs_size]; simp
    · exact z1
  generalize ha : (if p.length = 0 then bs [45] else pathText p) = a at *
  try simp only [List.cons_append, List.nil_append, List.flatten_cons, List.flatten_nil, List.append_nil]
  first | refine r_eql rfl rfl ?_ | refine r_eqlS rfl rfl ?_
  try simp only [List.cons_append, List.nil_append, List.flatten_cons, List.flatten_nil, List.append_nil]
  first | refine r_iteP rfl (fun h8 => ?_) (fun h8 => ?_) | refine r_iteNP rfl (fun h8 => ?_) (fun h8 => ?_) | refine r_iteN rfl (fun h8 => ?_) (fun h8 => ?_) | refine r_ite rfl (fun h8 => ?_) (fun h8 => ?_)
  · refine r_addS (s := bs [115, 101, 116, 32]) (u := a) rfl rfl (by rw [bs_size]; simp; omega) ?_
    try simp only [List.cons_append, List.nil_append, List.flatten_cons, List.flatten_nil, List.append_nil]
    refine r_addS (u := bs [32]) rfl rfl (by rw [ByteArray.size_append, bs_size, bs_size]; simp; omega) ?_
    try simp only [List.cons_append, List.nil_append, List.flatten_cons, List.flatten_nil, List.append_nil]
    refine r_callQ (w200 hv) rfl ?_
    rintro _ rfl
    refine ⟨rfl, ?_⟩
    try simp only [List.cons_append, List.nil_append, List.flatten_cons, List.flatten_nil, List.append_nil]
    refine r_addS (u := fmtV (.mk vk vn s ls us)) rfl rfl (by rw [ByteArray.size_append, ByteArray.size_append, bs_size, bs_size]; simp; omega) ?_
    try simp only [List.cons_append, List.nil_append, List.flatten_cons, List.flatten_nil, List.append_nil]
    refine r_ret rfl ?_
    unfold edTxt; rw [ha]; simp only []; rw [if_pos h8]; rfl
  · first | refine r_eql rfl rfl ?_ | refine r_eqlS rfl rfl ?_
    try simp only [List.cons_append, List.nil_append, List.flatten_cons, List.flatten_nil, List.append_nil]
    first | refine r_iteP rfl (fun h15 => ?_) (fun h15 => ?_) | refine r_iteNP rfl (fun h15 => ?_) (fun h15 => ?_) | refine r_iteN rfl (fun h15 => ?_) (fun h15 => ?_) | refine r_ite rfl (fun h15 => ?_) (fun h15 => ?_)
    · refine r_addS (s := bs [105, 110, 115, 101, 114, 116, 32]) (u := a) rfl rfl (by rw [bs_size]; simp; omega) ?_
      try simp only [List.cons_append, List.nil_append, List.flatten_cons, List.flatten_nil, List.append_nil]
      refine r_addS (u := bs [32]) rfl rfl (by rw [ByteArray.size_append, bs_size, bs_size]; simp; omega) ?_
      try simp only [List.cons_append, List.nil_append, List.flatten_cons, List.flatten_nil, List.append_nil]
      refine r_callQ (w69 hn) rfl ?_
      rintro _ rfl
      refine ⟨rfl, ?_⟩
      try simp only [List.cons_append, List.nil_append, List.flatten_cons, List.flatten_nil, List.append_nil]
      refine r_addS (u := fmt n) rfl rfl (by rw [ByteArray.size_append, ByteArray.size_append, bs_size, bs_size]; simp; omega) ?_
      try simp only [List.cons_append, List.nil_append, List.flatten_cons, List.flatten_nil, List.append_nil]
      refine r_addS (u := bs [32]) rfl rfl (by rw [ByteArray.size_append, ByteArray.size_append, ByteArray.size_append, bs_size, bs_size]; simp; omega) ?_
      try simp only [List.cons_append, List.nil_append, List.flatten_cons, List.flatten_nil, List.append_nil]
      refine r_callQ (w200 hv) rfl ?_
      rintro _ rfl
      refine ⟨rfl, ?_⟩
      try simp only [List.cons_append, List.nil_append, List.flatten_cons, List.flatten_nil, List.append_nil]
      refine r_addS (u := fmtV (.mk vk vn s ls us)) rfl rfl (by rw [ByteArray.size_append, ByteArray.size_append, ByteArray.size_append, ByteArray.size_append, bs_size, bs_size]; simp; omega) ?_
      try simp only [List.cons_append, List.nil_append, List.flatten_cons, List.flatten_nil, List.append_nil]
      refine r_ret rfl ?_
      unfold edTxt; rw [ha]; simp only []; rw [if_neg h8, if_pos h15]; rfl
    · first | refine r_eql rfl rfl ?_ | refine r_eqlS rfl rfl ?_
      try simp only [List.cons_append, List.nil_append, List.flatten_cons, List.flatten_nil, List.append_nil]
      first | refine r_iteP rfl (fun h25 => ?_) (fun h25 => ?_) | refine r_iteNP rfl (fun h25 => ?_) (fun h25 => ?_) | refine r_iteN rfl (fun h25 => ?_) (fun h25 => ?_) | refine r_ite rfl (fun h25 => ?_) (fun h25 => ?_)
      · refine r_addS (s := bs [100, 101, 108, 101, 116, 101, 32]) (u := a) rfl rfl (by rw [bs_size]; simp; omega) ?_
        try simp only [List.cons_append, List.nil_append, List.flatten_cons, List.flatten_nil, List.append_nil]
        refine r_addS (u := bs [32]) rfl rfl (by rw [ByteArray.size_append, bs_size, bs_size]; simp; omega) ?_
        try simp only [List.cons_append, List.nil_append, List.flatten_cons, List.flatten_nil, List.append_nil]
        refine r_callQ (w69 hn) rfl ?_
        rintro _ rfl
        refine ⟨rfl, ?_⟩
        try simp only [List.cons_append, List.nil_append, List.flatten_cons, List.flatten_nil, List.append_nil]
        refine r_addS (u := fmt n) rfl rfl (by rw [ByteArray.size_append, ByteArray.size_append, bs_size, bs_size]; simp; omega) ?_
        try simp only [List.cons_append, List.nil_append, List.flatten_cons, List.flatten_nil, List.append_nil]
        refine r_ret rfl ?_
        unfold edTxt; rw [ha]; simp only []; rw [if_neg h8, if_neg h15, if_pos h25]; rfl
      · refine r_ret rfl ?_
        unfold edTxt; rw [ha]; simp only []; rw [if_neg h8, if_neg h15, if_neg h25]; rfl

/-- impl.EditText -/
theorem w169a {k n vk vn : Int} {p : List Stp} {s : ByteArray} {ls : List ByteArray} {us : List Val} (hn : inR n) (hp : stpsOk p) (hv : (Val.mk vk vn s ls us).ok) (hb : (Val.mk vk vn s ls us).nodes ≤ 1099511627777) : ∃ rs, Big tab (.fn 169 [[I k, stps p, I vk, I vn, .str s, strs ls, vals us, I n]] rs) ∧ rs = [[.str (edTxt k p (.mk vk vn s ls us) n)]] := by
  have hlen : (p.map Stp.row).length = p.length := List.length_map ..
  have z1 := pathText_size hp
  have z2 := fmtV_size hv
  have z3 := fmt_size hn
  refine tr_sound rfl c169 rfl ?_
  show wp _ _ _ _ [I k, stps p, I vk, I vn, .str s, strs ls, vals us, I n]
  refine r_callQ (w40 hp) rfl ?_
  rintro _ rfl
  refine ⟨rfl, ?_⟩
  try simp only [List.cons_append, List.nil_append, List.flatten_cons, List.flatten_nil, List.append_nil]
  refine r_join (fun vs => vs = [.str (if p.length = 0 then bs [45] else pathText p)]) ?_ ?_
  · refine r_len rfl ?_
    try simp only [List.cons_append, List.nil_append, List.flatten_cons, List.flatten_nil, List.append_nil]
    first | refine r_eql rfl rfl ?_ | refine r_eqlS rfl rfl ?_
    try simp only [List.cons_append, List.nil_append, List.flatten_cons, List.flatten_nil, List.append_nil]
    first | refine r_iteP rfl (fun h4 => ?_) (fun h4 => ?_) | refine r_iteNP rfl (fun h4 => ?_) (fun h4 => ?_) | refine r_iteN rfl (fun h4 => ?_) (fun h4 => ?_) | refine r_ite rfl (fun h4 => ?_) (fun h4 => ?_)
    · refine r_again ?_
      rw [if_pos (by omega)]
      rfl
    · refine r_again ?_
      rw [if_neg (by omega)]
      rfl
  rintro _ rfl
  have z0 : (if p.length = 0 then bs [45] else pathText p).size ≤ 400 := by
    split
    · rw [bs_size]; simp
    · exact z1
  generalize ha : (if p.length = 0 then bs [45] else pathText p) = a at *
  try simp only [List.cons_append, List.nil_append, List.flatten_cons, List.flatten_nil, List.append_nil]
  first | refine r_eql rfl rfl ?_ | refine r_eqlS rfl rfl ?_
  try simp only [List.cons_append, List.nil_append, List.flatten_cons, List.flatten_nil, List.append_nil]
  first | refine r_iteP rfl (fun h8 => ?_) (fun h8 => ?_) | refine r_iteNP rfl (fun h8 => ?_) (fun h8 => ?_) | refine r_iteN rfl (fun h8 => ?_) (fun h8 => ?_) | refine r_ite rfl (fun h8 => ?_) (fun h8 => ?_)
  · refine r_addS (s := bs [115, 101, 116, 32]) (u := a) rfl rfl (by rw [bs_size]; simp; omega) ?_
    try simp only [List.cons_append, List.nil_append, List.flatten_cons, List.flatten_nil, List.append_nil]
    refine r_addS (u := bs [32]) rfl rfl (by rw [ByteArray.size_append, bs_size, bs_size]; simp; omega) ?_
    try simp only [List.cons_append, List.nil_append, List.flatten_cons, List.flatten_nil, List.append_nil]
    refine r_callQ (w201 hv hb) rfl ?_
    rintro _ rfl
    refine ⟨rfl, ?_⟩
    try simp only [List.cons_append, List.nil_append, List.flatten_cons, List.flatten_nil, List.append_nil]
    refine r_addS (u := fmtV (.mk vk vn s ls us)) rfl rfl (by rw [ByteArray.size_append, ByteArray.size_append, bs_size, bs_size]; simp; omega) ?_
    try simp only [List.cons_append, List.nil_append, List.flatten_cons, List.flatten_nil, List.append_nil]
    refine r_ret rfl ?_
    unfold edTxt; rw [ha]; simp only []; rw [if_pos h8]; rfl
  · first | refine r_eql rfl rfl ?_ | refine r_eqlS rfl rfl ?_
    try simp only [List.cons_append, List.nil_append, List.flatten_cons, List.flatten_nil, List.append_nil]
    first | refine r_iteP rfl (fun h15 => ?_) (fun h15 => ?_) | refine r_iteNP rfl (fun h15 => ?_) (fun h15 => ?_) | refine r_iteN rfl (fun h15 => ?_) (fun h15 => ?_) | refine r_ite rfl (fun h15 => ?_) (fun h15 => ?_)
    · refine r_addS (s := bs [105, 110, 115, 101, 114, 116, 32]) (u := a) rfl rfl (by rw [bs_size]; simp; omega) ?_
      try simp only [List.cons_append, List.nil_append, List.flatten_cons, List.flatten_nil, List.append_nil]
      refine r_addS (u := bs [32]) rfl rfl (by rw [ByteArray.size_append, bs_size, bs_size]; simp; omega) ?_
      try simp only [List.cons_append, List.nil_append, List.flatten_cons, List.flatten_nil, List.append_nil]
      refine r_callQ (w70 hn) rfl ?_
      rintro _ rfl
      refine ⟨rfl, ?_⟩
      try simp only [List.cons_append, List.nil_append, List.flatten_cons, List.flatten_nil, List.append_nil]
      refine r_addS (u := fmt n) rfl rfl (by rw [ByteArray.size_append, ByteArray.size_append, bs_size, bs_size]; simp; omega) ?_
      try simp only [List.cons_append, List.nil_append, List.flatten_cons, List.flatten_nil, List.append_nil]
      refine r_addS (u := bs [32]) rfl rfl (by rw [ByteArray.size_append, ByteArray.size_append, ByteArray.size_append, bs_size, bs_size]; simp; omega) ?_
      try simp only [List.cons_append, List.nil_append, List.flatten_cons, List.flatten_nil, List.append_nil]
      refine r_callQ (w201 hv hb) rfl ?_
      rintro _ rfl
      refine ⟨rfl, ?_⟩
      try simp only [List.cons_append, List.nil_append, List.flatten_cons, List.flatten_nil, List.append_nil]
      refine r_addS (u := fmtV (.mk vk vn s ls us)) rfl rfl (by rw [ByteArray.size_append, ByteArray.size_append, ByteArray.size_append, ByteArray.size_append, bs_size, bs_size]; simp; omega) ?_
      try simp only [List.cons_append, List.nil_append, List.flatten_cons, List.flatten_nil, List.append_nil]
      refine r_ret rfl ?_
      unfold edTxt; rw [ha]; simp only []; rw [if_neg h8, if_pos h15]; rfl
    · first | refine r_eql rfl rfl ?_ | refine r_eqlS rfl rfl ?_
      try simp only [List.cons_append, List.nil_append, List.flatten_cons, List.flatten_nil, List.append_nil]
      first | refine r_iteP rfl (fun h25 => ?_) (fun h25 => ?_) | refine r_iteNP rfl (fun h25 => ?_) (fun h25 => ?_) | refine r_iteN rfl (fun h25 => ?_) (fun h25 => ?_) | refine r_ite rfl (fun h25 => ?_) (fun h25 => ?_)
      · refine r_addS (s := bs [100, 101, 108, 101, 116, 101, 32]) (u := a) rfl rfl (by rw [bs_size]; simp; omega) ?_
        try simp only [List.cons_append, List.nil_append, List.flatten_cons, List.flatten_nil, List.append_nil]
        refine r_addS (u := bs [32]) rfl rfl (by rw [ByteArray.size_append, bs_size, bs_size]; simp; omega) ?_
        try simp only [List.cons_append, List.nil_append, List.flatten_cons, List.flatten_nil, List.append_nil]
        refine r_callQ (w70 hn) rfl ?_
        rintro _ rfl
        refine ⟨rfl, ?_⟩
        try simp only [List.cons_append, List.nil_append, List.flatten_cons, List.flatten_nil, List.append_nil]
        refine r_addS (u := fmt n) rfl rfl (by rw [ByteArray.size_append, ByteArray.size_append, bs_size, bs_size]; simp; omega) ?_
        try simp only [List.cons_append, List.nil_append, List.flatten_cons, List.flatten_nil, List.append_nil]
        refine r_ret rfl ?_
        unfold edTxt; rw [ha]; simp only []; rw [if_neg h8, if_neg h15, if_pos h25]; rfl
      · refine r_ret rfl ?_
        unfold edTxt; rw [ha]; simp only []; rw [if_neg h8, if_neg h15, if_neg h25]; rfl

/-- laws.FnExactEditText -/
theorem w143a {k n vk vn : Int} {p : List Stp} {s : ByteArray} {ls : List ByteArray} {us : List Val} (hn : inR n) (hp : stpsOk p) (hv : (Val.mk vk vn s ls us).ok) : ∃ rs, Big tab (.fn 143 [[I k, stps p, I vk, I vn, .str s, strs ls, vals us, I n]] rs) ∧ rs = [[.bool true]] := by
  refine tr_sound rfl c143 rfl ?_
  show wp _ _ _ _ [I k, stps p, I vk, I vn, .str s, strs ls, vals us, I n]
  refine r_callQ (w71a hp hv (by omega) (by omega)) rfl ?_
  rintro _ ⟨r0, rfl, hr0⟩
  refine ⟨rfl, ?_⟩
  try simp only [List.cons_append, List.nil_append, List.flatten_cons, List.flatten_nil, List.append_nil]
  first | refine r_lss rfl rfl ?_ | refine r_lssS rfl rfl ?_
  try simp only [List.cons_append, List.nil_append, List.flatten_cons, List.flatten_nil, List.append_nil]
  first | refine r_iteP rfl (fun h2 => ?_) (fun h2 => ?_) | refine r_iteNP rfl (fun h2 => ?_) (fun h2 => ?_) | refine r_iteN rfl (fun h2 => ?_) (fun h2 => ?_) | refine r_ite rfl (fun h2 => ?_) (fun h2 => ?_)
  · refine r_ret rfl ?_
    rfl
  · have hw : (Edt.mk k p (Val.mk vk vn s ls us) n).wt ≤ 1099511627776 := by omega
    simp only [Edt.wt] at hw
    have hb2 := (Val.mk vk vn s ls us).nodes_le
    have te := w73a (k := k) (n := n) (vk := vk) (vn := vn) (s := s) (ls := ls) (us := us) hp (by omega) (by omega)
    refine r_callQ te rfl ?_
    rintro _ rfl
    refine ⟨rfl, ?_⟩
    try simp only [List.cons_append, List.nil_append, List.flatten_cons, List.flatten_nil, List.append_nil]
    refine r_callQ (w168a hn hp hv) rfl ?_
    rintro _ rfl
    refine ⟨rfl, ?_⟩
    try simp only [List.cons_append, List.nil_append, List.flatten_cons, List.flatten_nil, List.append_nil]
    refine r_callQ te rfl ?_
    rintro _ rfl
    refine ⟨rfl, ?_⟩
    try simp only [List.cons_append, List.nil_append, List.flatten_cons, List.flatten_nil, List.append_nil]
    refine r_callQ (w169a hn hp hv (by omega)) rfl ?_
    rintro _ rfl
    refine ⟨rfl, ?_⟩
    try simp only [List.cons_append, List.nil_append, List.flatten_cons, List.flatten_nil, List.append_nil]
    first | refine r_neq rfl rfl ?_ | refine r_neqS rfl rfl ?_
    try simp only [List.cons_append, List.nil_append, List.flatten_cons, List.flatten_nil, List.append_nil]
    first | refine r_iteP rfl (fun h9 => ?_) (fun h9 => ?_) | refine r_iteNP rfl (fun h9 => ?_) (fun h9 => ?_) | refine r_iteN rfl (fun h9 => ?_) (fun h9 => ?_) | refine r_ite rfl (fun h9 => ?_) (fun h9 => ?_)
    · refine r_ret rfl ?_
      simp at h9
    · refine r_callQ te rfl ?_
      rintro _ rfl
      refine ⟨rfl, ?_⟩
      try simp only [List.cons_append, List.nil_append, List.flatten_cons, List.flatten_nil, List.append_nil]
      refine r_callQ (w75a hp hv hp hv) rfl ?_
      rintro _ ⟨r12, rfl, hr12⟩
      refine ⟨rfl, ?_⟩
      try simp only [List.cons_append, List.nil_append, List.flatten_cons, List.flatten_nil, List.append_nil]
      refine r_not rfl ?_
      try simp only [List.cons_append, List.nil_append, List.flatten_cons, List.flatten_nil, List.append_nil]
      first | refine r_iteP rfl (fun h14 => ?_) (fun h14 => ?_) | refine r_iteNP rfl (fun h14 => ?_) (fun h14 => ?_) | refine r_iteN rfl (fun h14 => ?_) (fun h14 => ?_) | refine r_ite rfl (fun h14 => ?_) (fun h14 => ?_)
      · refine r_ret rfl ?_
        rw [hr12.2 rfl] at h14; cases h14
      · refine r_ret rfl ?_
        rfl

theorem w143 {e : Edt} (he : e.ok) : ∃ rs, Big tab (.fn 143 [e.row] rs) ∧ rs = [[.bool true]] := by
  obtain ⟨k, p, ⟨vk, vn, vs, vl, va⟩, n⟩ := e
  rw [Edt.row_mk]
  exact w143a he.2.2.2 he.2.1 he.2.2.1
end Go.Proofs.Ytkiliooegoldoaa
