/- Walks: IsAction -/
import Derived.Test.YtkiliooegoldoaaHasT
import Derived.Test.YtkiliooegoldoaaE6
set_option linter.unusedVariables false
set_option linter.unusedSimpArgs false
namespace Go.Proofs.Ytkiliooegoldoaa
open Go

def NoneV : Val → Prop
  | .mk k n s ls us => k = 0 ∧ n = 0 ∧ s = eS ∧ ls.length = 0 ∧ us.length = 0
theorem none_iff {k n : Int} {s : ByteArray} {ls : List ByteArray} {us : List Val} : Val.mk k n s ls us = Val.mk 0 0 eS [] [] ↔ NoneV (.mk k n s ls us) := by
  rw [Val.mk.injEq]
  simp only [NoneV, List.length_eq_zero_iff]
def IsAct (tk : Int) (t : Typ) (k n : Int) (v : Val) : Prop :=
  VType t ∧ ((k = 1 ∧ n = 0 ∧ NoneV v) ∨ (k = 2 ∧ n = 0 ∧ HasTy v t) ∨ (k = 3 ∧ tk = 1 ∧ -1000 ≤ n ∧ n ≤ 1000 ∧ NoneV v) ∨ (k = 4 ∧ tk = 2 ∧ n = 0 ∧ NoneV v))

/-- impl.stepOk -/
theorem w80 {x : Int} : ∃ rs, Big tab (.fn 80 [[I x]] rs) ∧ ∃ b, rs = [[.bool b]] ∧ (b = true ↔ (-1000 ≤ x ∧ x ≤ 1000)) := by
  refine tr_sound rfl c80 rfl ?_
  show wp _ _ _ _ [I x]
  first | refine r_geq rfl rfl ?_ | refine r_geqS rfl rfl ?_
  try simp only [List.cons_append, List.nil_append, List.flatten_cons, List.flatten_nil, List.append_nil]
  first | refine r_iteP rfl (fun h1 => ?_) (fun h1 => ?_) | refine r_iteNP rfl (fun h1 => ?_) (fun h1 => ?_) | refine r_iteN rfl (fun h1 => ?_) (fun h1 => ?_) | refine r_ite rfl (fun h1 => ?_) (fun h1 => ?_)
  · refine r_leq rfl rfl ?_
    try simp only [List.cons_append, List.nil_append, List.flatten_cons, List.flatten_nil, List.append_nil]
    refine r_ret rfl ?_
    exact ⟨_, rfl, iffD (by omega)⟩
  · refine r_ret rfl ?_
    exact ⟨_, rfl, iffF (by omega)⟩

/-- spec.l14None -/
theorem w202 {k n : Int} {s : ByteArray} {ls : List ByteArray} {us : List Val} : ∃ rs, Big tab (.fn 202 [[I k, I n, .str s, strs ls, vals us]] rs) ∧ ∃ b, rs = [[.bool b]] ∧ (b = true ↔ NoneV (.mk k n s ls us)) := by
  have hlen : (us.map Val.row).length = us.length := List.length_map ..
  have hlen2 : (ls.map strRow).length = ls.length := List.length_map ..
  simp only [NoneV]
  refine tr_sound rfl c202 rfl ?_
  show wp _ _ _ _ [I k, I n, .str s, strs ls, vals us]
  first | refine r_eql rfl rfl ?_ | refine r_eqlS rfl rfl ?_
  try simp only [List.cons_append, List.nil_append, List.flatten_cons, List.flatten_nil, List.append_nil]
  first | refine r_iteP rfl (fun h1 => ?_) (fun h1 => ?_) | refine r_iteNP rfl (fun h1 => ?_) (fun h1 => ?_) | refine r_iteN rfl (fun h1 => ?_) (fun h1 => ?_) | refine r_ite rfl (fun h1 => ?_) (fun h1 => ?_)
  · first | refine r_eql rfl rfl ?_ | refine r_eqlS rfl rfl ?_
    try simp only [List.cons_append, List.nil_append, List.flatten_cons, List.flatten_nil, List.append_nil]
    first | refine r_iteP rfl (fun h3 => ?_) (fun h3 => ?_) | refine r_iteNP rfl (fun h3 => ?_) (fun h3 => ?_) | refine r_iteN rfl (fun h3 => ?_) (fun h3 => ?_) | refine r_ite rfl (fun h3 => ?_) (fun h3 => ?_)
    · first | refine r_eql rfl rfl ?_ | refine r_eqlS rfl rfl ?_
      try simp only [List.cons_append, List.nil_append, List.flatten_cons, List.flatten_nil, List.append_nil]
      first | refine r_iteP rfl (fun h5 => ?_) (fun h5 => ?_) | refine r_iteNP rfl (fun h5 => ?_) (fun h5 => ?_) | refine r_iteN rfl (fun h5 => ?_) (fun h5 => ?_) | refine r_ite rfl (fun h5 => ?_) (fun h5 => ?_)
      · refine r_len rfl ?_
        try simp only [List.cons_append, List.nil_append, List.flatten_cons, List.flatten_nil, List.append_nil]
        first | refine r_eql rfl rfl ?_ | refine r_eqlS rfl rfl ?_
        try simp only [List.cons_append, List.nil_append, List.flatten_cons, List.flatten_nil, List.append_nil]
        first | refine r_iteP rfl (fun h8 => ?_) (fun h8 => ?_) | refine r_iteNP rfl (fun h8 => ?_) (fun h8 => ?_) | refine r_iteN rfl (fun h8 => ?_) (fun h8 => ?_) | refine r_ite rfl (fun h8 => ?_) (fun h8 => ?_)
        · refine r_len rfl ?_
          try simp only [List.cons_append, List.nil_append, List.flatten_cons, List.flatten_nil, List.append_nil]
          first | refine r_eql rfl rfl ?_ | refine r_eqlS rfl rfl ?_
          try simp only [List.cons_append, List.nil_append, List.flatten_cons, List.flatten_nil, List.append_nil]
          refine r_ret rfl ?_
          exact ⟨_, rfl, iffD ⟨fun h => ⟨h1, h3, h5, by omega, by omega⟩, fun h => by have := h.2.2.2.2; omega⟩⟩
        · refine r_ret rfl ?_
          exact ⟨_, rfl, iffF (fun h => by have := h.2.2.2.1; omega)⟩
      · refine r_ret rfl ?_
        exact ⟨_, rfl, iffF (fun h => h5 h.2.2.1)⟩
    · refine r_ret rfl ?_
      exact ⟨_, rfl, iffF (fun h => h3 h.2.1)⟩
  · refine r_ret rfl ?_
    exact ⟨_, rfl, iffF (fun h => h1 h.1)⟩

/-- impl.none -/
theorem w204 {k n : Int} {s : ByteArray} {ls : List ByteArray} {us : List Val} (hv : (Val.mk k n s ls us).ok) : ∃ rs, Big tab (.fn 204 [[I k, I n, .str s, strs ls, vals us]] rs) ∧ ∃ b, rs = [[.bool b]] ∧ (b = true ↔ NoneV (.mk k n s ls us)) := by
  have hz : (Val.mk 0 0 eS [] []).ok := .mk (by simp only [inR]; omega) (by simp only [inR]; omega) (by decide) ⟨by decide, by simp⟩ (by decide) (by simp)
  refine tr_sound rfl c204 rfl ?_
  show wp _ _ _ _ [I k, I n, .str s, strs ls, vals us]
  refine r_callQ (w178m hv hz) rfl ?_
  rintro _ ⟨r0, rfl, hr0⟩
  refine ⟨rfl, ?_⟩
  try simp only [List.cons_append, List.nil_append, List.flatten_cons, List.flatten_nil, List.append_nil]
  refine r_ret rfl ?_
  exact ⟨_, rfl, hr0.trans none_iff⟩

/-- spec.IsAction -/
theorem w170 {tk : Int} {tl : List ByteArray} {tu : List Typ} {k n vk vn : Int} {s : ByteArray} {ls : List ByteArray} {us : List Val} (ht : (Typ.mk tk tl tu).ok) (hv : (Val.mk vk vn s ls us).ok) : ∃ rs, Big tab (.fn 170 [[I tk, strs tl, typs tu], [I k, I n, I vk, I vn, .str s, strs ls, vals us]] rs) ∧ ∃ b, rs = [[.bool b]] ∧ (b = true ↔ IsAct tk (.mk tk tl tu) k n (.mk vk vn s ls us)) := by
  refine tr_sound rfl c170 rfl ?_
  show wp _ _ _ _ [I tk, strs tl, typs tu, I k, I n, I vk, I vn, .str s, strs ls, vals us]
  refine r_join (fun vs => vs = [] ∧ VType (.mk tk tl tu) ∧ (k ≠ 2 → NoneV (.mk vk vn s ls us)) ∧ (k ≠ 3 → n = 0)) ?_ ?_
  · refine r_callQ (w185 ht) rfl ?_
    rintro _ ⟨r1, rfl, hr1⟩
    refine ⟨rfl, ?_⟩
    try simp only [List.cons_append, List.nil_append, List.flatten_cons, List.flatten_nil, List.append_nil]
    refine r_not rfl ?_
    try simp only [List.cons_append, List.nil_append, List.flatten_cons, List.flatten_nil, List.append_nil]
    first | refine r_iteP rfl (fun h3 => ?_) (fun h3 => ?_) | refine r_iteNP rfl (fun h3 => ?_) (fun h3 => ?_) | refine r_iteN rfl (fun h3 => ?_) (fun h3 => ?_) | refine r_ite rfl (fun h3 => ?_) (fun h3 => ?_)
    · refine r_ret rfl ?_
      exact ⟨_, rfl, iffF (fun h => by rw [hr1.2 h.1] at h3; cases h3)⟩
    · first | refine r_neq rfl rfl ?_ | refine r_neqS rfl rfl ?_
      try simp only [List.cons_append, List.nil_append, List.flatten_cons, List.flatten_nil, List.append_nil]
      first | refine r_iteP rfl (fun h6 => ?_) (fun h6 => ?_) | refine r_iteNP rfl (fun h6 => ?_) (fun h6 => ?_) | refine r_iteN rfl (fun h6 => ?_) (fun h6 => ?_) | refine r_ite rfl (fun h6 => ?_) (fun h6 => ?_)
      · refine r_callQ (w202) rfl ?_
        rintro _ ⟨r7, rfl, hr7⟩
        refine ⟨rfl, ?_⟩
        try simp only [List.cons_append, List.nil_append, List.flatten_cons, List.flatten_nil, List.append_nil]
        refine r_not rfl ?_
        try simp only [List.cons_append, List.nil_append, List.flatten_cons, List.flatten_nil, List.append_nil]
        first | refine r_iteP rfl (fun h9 => ?_) (fun h9 => ?_) | refine r_iteNP rfl (fun h9 => ?_) (fun h9 => ?_) | refine r_iteN rfl (fun h9 => ?_) (fun h9 => ?_) | refine r_ite rfl (fun h9 => ?_) (fun h9 => ?_)
        · refine r_ret rfl ?_
          exact ⟨_, rfl, iffF (fun h => by have : ¬ NoneV (.mk vk vn s ls us) := (fun h' => by rw [hr7.2 h'] at h9; cases h9); simp only [IsAct] at h; grind)⟩
        · first | refine r_neq rfl rfl ?_ | refine r_neqS rfl rfl ?_
          try simp only [List.cons_append, List.nil_append, List.flatten_cons, List.flatten_nil, List.append_nil]
          first | refine r_iteP rfl (fun h12 => ?_) (fun h12 => ?_) | refine r_iteNP rfl (fun h12 => ?_) (fun h12 => ?_) | refine r_iteN rfl (fun h12 => ?_) (fun h12 => ?_) | refine r_ite rfl (fun h12 => ?_) (fun h12 => ?_)
          · first | refine r_neq rfl rfl ?_ | refine r_neqS rfl rfl ?_
            try simp only [List.cons_append, List.nil_append, List.flatten_cons, List.flatten_nil, List.append_nil]
            first | refine r_iteP rfl (fun h14 => ?_) (fun h14 => ?_) | refine r_iteNP rfl (fun h14 => ?_) (fun h14 => ?_) | refine r_iteN rfl (fun h14 => ?_) (fun h14 => ?_) | refine r_ite rfl (fun h14 => ?_) (fun h14 => ?_)
            · refine r_ret rfl ?_
              exact ⟨_, rfl, iffF (fun h => by simp only [IsAct] at h; grind)⟩
            · exact r_again ⟨rfl, hr1.1 h3, fun _ => hr7.1 h9, fun _ => Decidable.not_not.1 h14⟩
          · exact r_again ⟨rfl, hr1.1 h3, fun _ => hr7.1 h9, fun h => absurd h h12⟩
      · first | refine r_neq rfl rfl ?_ | refine r_neqS rfl rfl ?_
        try simp only [List.cons_append, List.nil_append, List.flatten_cons, List.flatten_nil, List.append_nil]
        first | refine r_iteP rfl (fun h19 => ?_) (fun h19 => ?_) | refine r_iteNP rfl (fun h19 => ?_) (fun h19 => ?_) | refine r_iteN rfl (fun h19 => ?_) (fun h19 => ?_) | refine r_ite rfl (fun h19 => ?_) (fun h19 => ?_)
        · first | refine r_neq rfl rfl ?_ | refine r_neqS rfl rfl ?_
          try simp only [List.cons_append, List.nil_append, List.flatten_cons, List.flatten_nil, List.append_nil]
          first | refine r_iteP rfl (fun h21 => ?_) (fun h21 => ?_) | refine r_iteNP rfl (fun h21 => ?_) (fun h21 => ?_) | refine r_iteN rfl (fun h21 => ?_) (fun h21 => ?_) | refine r_ite rfl (fun h21 => ?_) (fun h21 => ?_)
          · refine r_ret rfl ?_
            exact ⟨_, rfl, iffF (fun h => by simp only [IsAct] at h; grind)⟩
          · exact r_again ⟨rfl, hr1.1 h3, fun h => absurd h h6, fun _ => Decidable.not_not.1 h21⟩
        · exact r_again ⟨rfl, hr1.1 h3, fun h => absurd h h6, fun h => absurd h h19⟩
  rintro _ ⟨rfl, j1, j2, j3⟩
  rw [List.append_nil]
  try simp only [List.cons_append, List.nil_append, List.flatten_cons, List.flatten_nil, List.append_nil]
  first | refine r_eql rfl rfl ?_ | refine r_eqlS rfl rfl ?_
  try simp only [List.cons_append, List.nil_append, List.flatten_cons, List.flatten_nil, List.append_nil]
  first | refine r_iteP rfl (fun h26 => ?_) (fun h26 => ?_) | refine r_iteNP rfl (fun h26 => ?_) (fun h26 => ?_) | refine r_iteN rfl (fun h26 => ?_) (fun h26 => ?_) | refine r_ite rfl (fun h26 => ?_) (fun h26 => ?_)
  · refine r_ret rfl ?_
    exact ⟨_, rfl, iffT ⟨j1, Or.inl ⟨h26, j3 (by omega), j2 (by omega)⟩⟩⟩
  · first | refine r_eql rfl rfl ?_ | refine r_eqlS rfl rfl ?_
    try simp only [List.cons_append, List.nil_append, List.flatten_cons, List.flatten_nil, List.append_nil]
    first | refine r_iteP rfl (fun h29 => ?_) (fun h29 => ?_) | refine r_iteNP rfl (fun h29 => ?_) (fun h29 => ?_) | refine r_iteN rfl (fun h29 => ?_) (fun h29 => ?_) | refine r_ite rfl (fun h29 => ?_) (fun h29 => ?_)
    · refine r_callQ (w203 hv ht) rfl ?_
      rintro _ ⟨r30, rfl, hr30⟩
      refine ⟨rfl, ?_⟩
      try simp only [List.cons_append, List.nil_append, List.flatten_cons, List.flatten_nil, List.append_nil]
      refine r_ret rfl ?_
      exact ⟨_, rfl, hr30.trans ⟨fun h => ⟨j1, Or.inr (Or.inl ⟨h29, j3 (by omega), h⟩)⟩, fun h => by rcases h.2 with h | h | h | h <;> first | exact h.2.2 | exact absurd h.1 (by omega)⟩⟩
    · first | refine r_eql rfl rfl ?_ | refine r_eqlS rfl rfl ?_
      try simp only [List.cons_append, List.nil_append, List.flatten_cons, List.flatten_nil, List.append_nil]
      first | refine r_iteP rfl (fun h33 => ?_) (fun h33 => ?_) | refine r_iteNP rfl (fun h33 => ?_) (fun h33 => ?_) | refine r_iteN rfl (fun h33 => ?_) (fun h33 => ?_) | refine r_ite rfl (fun h33 => ?_) (fun h33 => ?_)
      · first | refine r_eql rfl rfl ?_ | refine r_eqlS rfl rfl ?_
        try simp only [List.cons_append, List.nil_append, List.flatten_cons, List.flatten_nil, List.append_nil]
        first | refine r_iteP rfl (fun h35 => ?_) (fun h35 => ?_) | refine r_iteNP rfl (fun h35 => ?_) (fun h35 => ?_) | refine r_iteN rfl (fun h35 => ?_) (fun h35 => ?_) | refine r_ite rfl (fun h35 => ?_) (fun h35 => ?_)
        · refine r_callQ (w63) rfl ?_
          rintro _ ⟨r36, rfl, hr36⟩
          refine ⟨rfl, ?_⟩
          try simp only [List.cons_append, List.nil_append, List.flatten_cons, List.flatten_nil, List.append_nil]
          refine r_ret rfl ?_
          exact ⟨_, rfl, hr36.trans ⟨fun h => ⟨j1, Or.inr (Or.inr (Or.inl ⟨h33, h35, h.1, h.2, j2 (by omega)⟩))⟩, fun h => by rcases h.2 with h | h | h | h <;> first | exact ⟨h.2.2.1, h.2.2.2.1⟩ | exact absurd h.1 (by omega)⟩⟩
        · refine r_ret rfl ?_
          exact ⟨_, rfl, iffF (fun h => by rcases h.2 with h | h | h | h <;> first | exact h35 h.2.1 | exact absurd h.1 (by omega))⟩
      · first | refine r_eql rfl rfl ?_ | refine r_eqlS rfl rfl ?_
        try simp only [List.cons_append, List.nil_append, List.flatten_cons, List.flatten_nil, List.append_nil]
        first | refine r_iteP rfl (fun h40 => ?_) (fun h40 => ?_) | refine r_iteNP rfl (fun h40 => ?_) (fun h40 => ?_) | refine r_iteN rfl (fun h40 => ?_) (fun h40 => ?_) | refine r_ite rfl (fun h40 => ?_) (fun h40 => ?_)
        · first | refine r_eql rfl rfl ?_ | refine r_eqlS rfl rfl ?_
          try simp only [List.cons_append, List.nil_append, List.flatten_cons, List.flatten_nil, List.append_nil]
          refine r_ret rfl ?_
          exact ⟨_, rfl, iffD ⟨fun h => ⟨j1, Or.inr (Or.inr (Or.inr ⟨h40, h, j3 (by omega), j2 (by omega)⟩))⟩, fun h => by rcases h.2 with h | h | h | h <;> first | exact h.2.1 | exact absurd h.1 (by omega)⟩⟩
        · refine r_ret rfl ?_
          exact ⟨_, rfl, iffF (fun h => by rcases h.2 with h | h | h | h <;> exact absurd h.1 (by omega))⟩

/-- impl.IsAction -/
theorem w171 {tk : Int} {tl : List ByteArray} {tu : List Typ} {k n vk vn : Int} {s : ByteArray} {ls : List ByteArray} {us : List Val} (ht : (Typ.mk tk tl tu).ok) (hv : (Val.mk vk vn s ls us).ok) (hb : (Val.mk vk vn s ls us).nodes ≤ 1099511627777) (hb' : (Typ.mk tk tl tu).nodes ≤ 1099511627777) : ∃ rs, Big tab (.fn 171 [[I tk, strs tl, typs tu], [I k, I n, I vk, I vn, .str s, strs ls, vals us]] rs) ∧ ∃ b, rs = [[.bool b]] ∧ (b = true ↔ IsAct tk (.mk tk tl tu) k n (.mk vk vn s ls us)) := by
  refine tr_sound rfl c171 rfl ?_
  show wp _ _ _ _ [I tk, strs tl, typs tu, I k, I n, I vk, I vn, .str s, strs ls, vals us]
  refine r_callQ (w189 ht hb') rfl ?_
  rintro _ ⟨r0, rfl, hr0⟩
  refine ⟨rfl, ?_⟩
  try simp only [List.cons_append, List.nil_append, List.flatten_cons, List.flatten_nil, List.append_nil]
  refine r_not rfl ?_
  try simp only [List.cons_append, List.nil_append, List.flatten_cons, List.flatten_nil, List.append_nil]
  first | refine r_iteP rfl (fun h2 => ?_) (fun h2 => ?_) | refine r_iteNP rfl (fun h2 => ?_) (fun h2 => ?_) | refine r_iteN rfl (fun h2 => ?_) (fun h2 => ?_) | refine r_ite rfl (fun h2 => ?_) (fun h2 => ?_)
  · refine r_ret rfl ?_
    exact ⟨_, rfl, iffF (fun h => by rw [hr0.2 h.1] at h2; cases h2)⟩
  · first | refine r_eql rfl rfl ?_ | refine r_eqlS rfl rfl ?_
    try simp only [List.cons_append, List.nil_append, List.flatten_cons, List.flatten_nil, List.append_nil]
    first | refine r_iteP rfl (fun h5 => ?_) (fun h5 => ?_) | refine r_iteNP rfl (fun h5 => ?_) (fun h5 => ?_) | refine r_iteN rfl (fun h5 => ?_) (fun h5 => ?_) | refine r_ite rfl (fun h5 => ?_) (fun h5 => ?_)
    · first | refine r_eql rfl rfl ?_ | refine r_eqlS rfl rfl ?_
      try simp only [List.cons_append, List.nil_append, List.flatten_cons, List.flatten_nil, List.append_nil]
      first | refine r_iteP rfl (fun h7 => ?_) (fun h7 => ?_) | refine r_iteNP rfl (fun h7 => ?_) (fun h7 => ?_) | refine r_iteN rfl (fun h7 => ?_) (fun h7 => ?_) | refine r_ite rfl (fun h7 => ?_) (fun h7 => ?_)
      · refine r_callQ (w204 hv) rfl ?_
        rintro _ ⟨r8, rfl, hr8⟩
        refine ⟨rfl, ?_⟩
        try simp only [List.cons_append, List.nil_append, List.flatten_cons, List.flatten_nil, List.append_nil]
        refine r_ret rfl ?_
        exact ⟨_, rfl, hr8.trans ⟨fun h => ⟨hr0.1 h2, Or.inl ⟨h5, h7, h⟩⟩, fun h => by rcases h.2 with h | h | h | h <;> first | exact h.2.2 | exact absurd h.1 (by omega)⟩⟩
      · refine r_ret rfl ?_
        exact ⟨_, rfl, iffF (fun h => by rcases h.2 with h | h | h | h <;> first | exact h7 h.2.1 | exact absurd h.1 (by omega))⟩
    · first | refine r_eql rfl rfl ?_ | refine r_eqlS rfl rfl ?_
      try simp only [List.cons_append, List.nil_append, List.flatten_cons, List.flatten_nil, List.append_nil]
      first | refine r_iteP rfl (fun h12 => ?_) (fun h12 => ?_) | refine r_iteNP rfl (fun h12 => ?_) (fun h12 => ?_) | refine r_iteN rfl (fun h12 => ?_) (fun h12 => ?_) | refine r_ite rfl (fun h12 => ?_) (fun h12 => ?_)
      · first | refine r_eql rfl rfl ?_ | refine r_eqlS rfl rfl ?_
        try simp only [List.cons_append, List.nil_append, List.flatten_cons, List.flatten_nil, List.append_nil]
        first | refine r_iteP rfl (fun h14 => ?_) (fun h14 => ?_) | refine r_iteNP rfl (fun h14 => ?_) (fun h14 => ?_) | refine r_iteN rfl (fun h14 => ?_) (fun h14 => ?_) | refine r_ite rfl (fun h14 => ?_) (fun h14 => ?_)
        · refine r_callQ (w205 hv ht hb hb') rfl ?_
          rintro _ ⟨r15, rfl, hr15⟩
          refine ⟨rfl, ?_⟩
          try simp only [List.cons_append, List.nil_append, List.flatten_cons, List.flatten_nil, List.append_nil]
          refine r_ret rfl ?_
          exact ⟨_, rfl, hr15.trans ⟨fun h => ⟨hr0.1 h2, Or.inr (Or.inl ⟨h12, h14, h⟩)⟩, fun h => by rcases h.2 with h | h | h | h <;> first | exact h.2.2 | exact absurd h.1 (by omega)⟩⟩
        · refine r_ret rfl ?_
          exact ⟨_, rfl, iffF (fun h => by rcases h.2 with h | h | h | h <;> first | exact h14 h.2.1 | exact absurd h.1 (by omega))⟩
      · first | refine r_eql rfl rfl ?_ | refine r_eqlS rfl rfl ?_
        try simp only [List.cons_append, List.nil_append, List.flatten_cons, List.flatten_nil, List.append_nil]
        first | refine r_iteP rfl (fun h19 => ?_) (fun h19 => ?_) | refine r_iteNP rfl (fun h19 => ?_) (fun h19 => ?_) | refine r_iteN rfl (fun h19 => ?_) (fun h19 => ?_) | refine r_ite rfl (fun h19 => ?_) (fun h19 => ?_)
        · first | refine r_eql rfl rfl ?_ | refine r_eqlS rfl rfl ?_
          try simp only [List.cons_append, List.nil_append, List.flatten_cons, List.flatten_nil, List.append_nil]
          first | refine r_iteP rfl (fun h21 => ?_) (fun h21 => ?_) | refine r_iteNP rfl (fun h21 => ?_) (fun h21 => ?_) | refine r_iteN rfl (fun h21 => ?_) (fun h21 => ?_) | refine r_ite rfl (fun h21 => ?_) (fun h21 => ?_)
          · refine r_callQ (w80) rfl ?_
            rintro _ ⟨r22, rfl, hr22⟩
            refine ⟨rfl, ?_⟩
            try simp only [List.cons_append, List.nil_append, List.flatten_cons, List.flatten_nil, List.append_nil]
            first | refine r_iteP rfl (fun h23 => ?_) (fun h23 => ?_) | refine r_iteNP rfl (fun h23 => ?_) (fun h23 => ?_) | refine r_iteN rfl (fun h23 => ?_) (fun h23 => ?_) | refine r_ite rfl (fun h23 => ?_) (fun h23 => ?_)
            · refine r_callQ (w204 hv) rfl ?_
              rintro _ ⟨r24, rfl, hr24⟩
              refine ⟨rfl, ?_⟩
              try simp only [List.cons_append, List.nil_append, List.flatten_cons, List.flatten_nil, List.append_nil]
              refine r_ret rfl ?_
              exact ⟨_, rfl, hr24.trans ⟨fun h => ⟨hr0.1 h2, Or.inr (Or.inr (Or.inl ⟨h19, h21, (hr22.1 h23).1, (hr22.1 h23).2, h⟩))⟩, fun h => by rcases h.2 with h | h | h | h <;> first | exact h.2.2.2.2 | exact absurd h.1 (by omega)⟩⟩
            · refine r_ret rfl ?_
              exact ⟨_, rfl, iffF (fun h => by rcases h.2 with h | h | h | h <;> first | exact absurd h.1 (by omega) | (rw [hr22.2 ⟨h.2.2.1, h.2.2.2.1⟩] at h23; cases h23))⟩
          · refine r_ret rfl ?_
            exact ⟨_, rfl, iffF (fun h => by rcases h.2 with h | h | h | h <;> first | exact absurd h.1 (by omega) | exact h21 h.2.1)⟩
        · first | refine r_eql rfl rfl ?_ | refine r_eqlS rfl rfl ?_
          try simp only [List.cons_append, List.nil_append, List.flatten_cons, List.flatten_nil, List.append_nil]
          first | refine r_iteP rfl (fun h29 => ?_) (fun h29 => ?_) | refine r_iteNP rfl (fun h29 => ?_) (fun h29 => ?_) | refine r_iteN rfl (fun h29 => ?_) (fun h29 => ?_) | refine r_ite rfl (fun h29 => ?_) (fun h29 => ?_)
          · first | refine r_eql rfl rfl ?_ | refine r_eqlS rfl rfl ?_
            try simp only [List.cons_append, List.nil_append, List.flatten_cons, List.flatten_nil, List.append_nil]
            first | refine r_iteP rfl (fun h31 => ?_) (fun h31 => ?_) | refine r_iteNP rfl (fun h31 => ?_) (fun h31 => ?_) | refine r_iteN rfl (fun h31 => ?_) (fun h31 => ?_) | refine r_ite rfl (fun h31 => ?_) (fun h31 => ?_)
            · first | refine r_eql rfl rfl ?_ | refine r_eqlS rfl rfl ?_
              try simp only [List.cons_append, List.nil_append, List.flatten_cons, List.flatten_nil, List.append_nil]
              first | refine r_iteP rfl (fun h33 => ?_) (fun h33 => ?_) | refine r_iteNP rfl (fun h33 => ?_) (fun h33 => ?_) | refine r_iteN rfl (fun h33 => ?_) (fun h33 => ?_) | refine r_ite rfl (fun h33 => ?_) (fun h33 => ?_)
              · refine r_callQ (w204 hv) rfl ?_
                rintro _ ⟨r34, rfl, hr34⟩
                refine ⟨rfl, ?_⟩
                try simp only [List.cons_append, List.nil_append, List.flatten_cons, List.flatten_nil, List.append_nil]
                refine r_ret rfl ?_
                exact ⟨_, rfl, hr34.trans ⟨fun h => ⟨hr0.1 h2, Or.inr (Or.inr (Or.inr ⟨h29, h31, h33, h⟩))⟩, fun h => by rcases h.2 with h | h | h | h <;> first | exact absurd h.1 (by omega) | exact h.2.2.2⟩⟩
              · refine r_ret rfl ?_
                exact ⟨_, rfl, iffF (fun h => by rcases h.2 with h | h | h | h <;> first | exact absurd h.1 (by omega) | exact h33 h.2.2.1)⟩
            · refine r_ret rfl ?_
              exact ⟨_, rfl, iffF (fun h => by rcases h.2 with h | h | h | h <;> first | exact absurd h.1 (by omega) | exact h31 h.2.1)⟩
          · refine r_ret rfl ?_
            exact ⟨_, rfl, iffF (fun h => by rcases h.2 with h | h | h | h <;> exact absurd h.1 (by omega))⟩

/-- laws.szAction -/
theorem w46a {k n vk vn : Int} {s : ByteArray} {ls : List ByteArray} {us : List Val} {left : Int} (hv : (Val.mk vk vn s ls us).ok) (h0 : 0 ≤ left) (h1 : left ≤ 1099511627776) : ∃ rs, Big tab (.fn 46 [[I k, I n, I vk, I vn, .str s, strs ls, vals us], [I left]] rs) ∧ ∃ r, rs = [[I r]] ∧ (r = -1 ∨ (0 ≤ r ∧ r + (Val.mk vk vn s ls us).wt ≤ left)) := by
  refine tr_sound rfl c46 rfl ?_
  show wp _ _ _ _ [I k, I n, I vk, I vn, .str s, strs ls, vals us, I left]
  refine r_callQ (w76m hv (by omega) (by omega)) rfl ?_
  rintro _ ⟨r0, rfl, hr0⟩
  refine ⟨rfl, ?_⟩
  try simp only [List.cons_append, List.nil_append, List.flatten_cons, List.flatten_nil, List.append_nil]
  first | refine r_lss rfl rfl ?_ | refine r_lssS rfl rfl ?_
  try simp only [List.cons_append, List.nil_append, List.flatten_cons, List.flatten_nil, List.append_nil]
  first | refine r_iteP rfl (fun h2 => ?_) (fun h2 => ?_) | refine r_iteNP rfl (fun h2 => ?_) (fun h2 => ?_) | refine r_iteN rfl (fun h2 => ?_) (fun h2 => ?_) | refine r_ite rfl (fun h2 => ?_) (fun h2 => ?_)
  · refine r_ret rfl ?_
    exact ⟨_, rfl, Or.inl rfl⟩
  · refine r_ret rfl ?_
    exact ⟨_, rfl, Or.inr ⟨by omega, by omega⟩⟩

/-- laws.toAction -/
theorem w48a {k n vk vn : Int} {s : ByteArray} {ls : List ByteArray} {us : List Val} (hw : (Val.mk vk vn s ls us).wt ≤ 1099511627776) : ∃ rs, Big tab (.fn 48 [[I k, I n, I vk, I vn, .str s, strs ls, vals us]] rs) ∧ rs = [[I k, I n, I vk, I vn, .str s, strs ls, vals us]] := by
  refine tr_sound rfl c48 rfl ?_
  show wp _ _ _ _ [I k, I n, I vk, I vn, .str s, strs ls, vals us]
  refine r_callQ (w78m hw) rfl ?_
  rintro _ rfl
  refine ⟨rfl, ?_⟩
  try simp only [List.cons_append, List.nil_append, List.flatten_cons, List.flatten_nil, List.append_nil]
  refine r_ret rfl ?_
  rfl

/-- laws.eqAction -/
theorem w50a {k n vk vn : Int} {s : ByteArray} {ls : List ByteArray} {us : List Val} {k' n' vk' vn' : Int} {s' : ByteArray} {ls' : List ByteArray} {us' : List Val} (hv : (Val.mk vk vn s ls us).ok) (hv' : (Val.mk vk' vn' s' ls' us').ok) : ∃ rs, Big tab (.fn 50 [[I k, I n, I vk, I vn, .str s, strs ls, vals us], [I k', I n', I vk', I vn', .str s', strs ls', vals us']] rs) ∧ ∃ b, rs = [[.bool b]] ∧ (b = true ↔ (k = k' ∧ n = n' ∧ Val.mk vk vn s ls us = Val.mk vk' vn' s' ls' us')) := by
  refine tr_sound rfl c50 rfl ?_
  show wp _ _ _ _ [I k, I n, I vk, I vn, .str s, strs ls, vals us, I k', I n', I vk', I vn', .str s', strs ls', vals us']
  first | refine r_neq rfl rfl ?_ | refine r_neqS rfl rfl ?_
  try simp only [List.cons_append, List.nil_append, List.flatten_cons, List.flatten_nil, List.append_nil]
  first | refine r_iteP rfl (fun h1 => ?_) (fun h1 => ?_) | refine r_iteNP rfl (fun h1 => ?_) (fun h1 => ?_) | refine r_iteN rfl (fun h1 => ?_) (fun h1 => ?_) | refine r_ite rfl (fun h1 => ?_) (fun h1 => ?_)
  · refine r_ret rfl ?_
    exact ⟨_, rfl, iffF (fun h => h1 h.1)⟩
  · first | refine r_neq rfl rfl ?_ | refine r_neqS rfl rfl ?_
    try simp only [List.cons_append, List.nil_append, List.flatten_cons, List.flatten_nil, List.append_nil]
    first | refine r_iteP rfl (fun h4 => ?_) (fun h4 => ?_) | refine r_iteNP rfl (fun h4 => ?_) (fun h4 => ?_) | refine r_iteN rfl (fun h4 => ?_) (fun h4 => ?_) | refine r_ite rfl (fun h4 => ?_) (fun h4 => ?_)
    · refine r_ret rfl ?_
      exact ⟨_, rfl, iffF (fun h => h4 h.2.1)⟩
    · refine r_callQ (w81m hv hv') rfl ?_
      rintro _ ⟨r6, rfl, hr6⟩
      refine ⟨rfl, ?_⟩
      try simp only [List.cons_append, List.nil_append, List.flatten_cons, List.flatten_nil, List.append_nil]
      refine r_not rfl ?_
      try simp only [List.cons_append, List.nil_append, List.flatten_cons, List.flatten_nil, List.append_nil]
      first | refine r_iteP rfl (fun h8 => ?_) (fun h8 => ?_) | refine r_iteNP rfl (fun h8 => ?_) (fun h8 => ?_) | refine r_iteN rfl (fun h8 => ?_) (fun h8 => ?_) | refine r_ite rfl (fun h8 => ?_) (fun h8 => ?_)
      · refine r_ret rfl ?_
        exact ⟨_, rfl, iffF (fun h => by rw [hr6.2 h.2.2] at h8; cases h8)⟩
      · refine r_ret rfl ?_
        exact ⟨_, rfl, iffT ⟨Decidable.not_not.1 h1, Decidable.not_not.1 h4, hr6.1 h8⟩⟩

/-- laws.FnExactIsAction -/
theorem w144a {tk : Int} {tl : List ByteArray} {tu : List Typ} {k n vk vn : Int} {s : ByteArray} {ls : List ByteArray} {us : List Val} (ht : (Typ.mk tk tl tu).ok) (hv : (Val.mk vk vn s ls us).ok) : ∃ rs, Big tab (.fn 144 [[I tk, strs tl, typs tu], [I k, I n, I vk, I vn, .str s, strs ls, vals us]] rs) ∧ rs = [[.bool true]] := by
  refine tr_sound rfl c144 rfl ?_
  show wp _ _ _ _ [I tk, strs tl, typs tu, I k, I n, I vk, I vn, .str s, strs ls, vals us]
  refine r_callQ (w157m ht (by omega) (by omega)) rfl ?_
  rintro _ ⟨r0, rfl, hr0⟩
  refine ⟨rfl, ?_⟩
  try simp only [List.cons_append, List.nil_append, List.flatten_cons, List.flatten_nil, List.append_nil]
  first | refine r_lss rfl rfl ?_ | refine r_lssS rfl rfl ?_
  try simp only [List.cons_append, List.nil_append, List.flatten_cons, List.flatten_nil, List.append_nil]
  first | refine r_iteP rfl (fun h2 => ?_) (fun h2 => ?_) | refine r_iteNP rfl (fun h2 => ?_) (fun h2 => ?_) | refine r_iteN rfl (fun h2 => ?_) (fun h2 => ?_) | refine r_ite rfl (fun h2 => ?_) (fun h2 => ?_)
  · refine r_ret rfl ?_
    rfl
  · refine r_callQ (w46a hv (by omega) (by omega)) rfl ?_
    rintro _ ⟨r4, rfl, hr4⟩
    refine ⟨rfl, ?_⟩
    try simp only [List.cons_append, List.nil_append, List.flatten_cons, List.flatten_nil, List.append_nil]
    first | refine r_lss rfl rfl ?_ | refine r_lssS rfl rfl ?_
    try simp only [List.cons_append, List.nil_append, List.flatten_cons, List.flatten_nil, List.append_nil]
    first | refine r_iteP rfl (fun h6 => ?_) (fun h6 => ?_) | refine r_iteNP rfl (fun h6 => ?_) (fun h6 => ?_) | refine r_iteN rfl (fun h6 => ?_) (fun h6 => ?_) | refine r_ite rfl (fun h6 => ?_) (fun h6 => ?_)
    · refine r_ret rfl ?_
      rfl
    · have hw1 : (Typ.mk tk tl tu).wt ≤ 1099511627776 := by omega
      have hw2 : (Val.mk vk vn s ls us).wt ≤ 1099511627776 := by omega
      have hb1 := (Typ.mk tk tl tu).nodes_le
      have hb2 := (Val.mk vk vn s ls us).nodes_le
      have ta := w48a (k := k) (n := n) hw2
      refine r_callQ (w159m hw1) rfl ?_
      rintro _ rfl
      refine ⟨rfl, ?_⟩
      try simp only [List.cons_append, List.nil_append, List.flatten_cons, List.flatten_nil, List.append_nil]
      refine r_callQ ta rfl ?_
      rintro _ rfl
      refine ⟨rfl, ?_⟩
      try simp only [List.cons_append, List.nil_append, List.flatten_cons, List.flatten_nil, List.append_nil]
      refine r_callQ (w170 ht hv) rfl ?_
      rintro _ ⟨r10, rfl, hr10⟩
      refine ⟨rfl, ?_⟩
      try simp only [List.cons_append, List.nil_append, List.flatten_cons, List.flatten_nil, List.append_nil]
      refine r_callQ (w159m hw1) rfl ?_
      rintro _ rfl
      refine ⟨rfl, ?_⟩
      try simp only [List.cons_append, List.nil_append, List.flatten_cons, List.flatten_nil, List.append_nil]
      refine r_callQ ta rfl ?_
      rintro _ rfl
      refine ⟨rfl, ?_⟩
      try simp only [List.cons_append, List.nil_append, List.flatten_cons, List.flatten_nil, List.append_nil]
      refine r_callQ (w171 ht hv (by omega) (by omega)) rfl ?_
      rintro _ ⟨r13, rfl, hr13⟩
      refine ⟨rfl, ?_⟩
      try simp only [List.cons_append, List.nil_append, List.flatten_cons, List.flatten_nil, List.append_nil]
      obtain rfl : r13 = r10 := by rw [Bool.eq_iff_iff, hr13, hr10]
      refine r_eqB rfl rfl ?_
      try simp only [List.cons_append, List.nil_append, List.flatten_cons, List.flatten_nil, List.append_nil]
      first | refine r_iteP rfl (fun h15 => ?_) (fun h15 => ?_) | refine r_iteNP rfl (fun h15 => ?_) (fun h15 => ?_) | refine r_iteN rfl (fun h15 => ?_) (fun h15 => ?_) | refine r_ite rfl (fun h15 => ?_) (fun h15 => ?_)
      · refine r_ret rfl ?_
        simp at h15
      · refine r_callQ (w159m hw1) rfl ?_
        rintro _ rfl
        refine ⟨rfl, ?_⟩
        try simp only [List.cons_append, List.nil_append, List.flatten_cons, List.flatten_nil, List.append_nil]
        refine r_callQ (w161m ht ht) rfl ?_
        rintro _ ⟨r18, rfl, hr18⟩
        refine ⟨rfl, ?_⟩
        try simp only [List.cons_append, List.nil_append, List.flatten_cons, List.flatten_nil, List.append_nil]
        refine r_not rfl ?_
        try simp only [List.cons_append, List.nil_append, List.flatten_cons, List.flatten_nil, List.append_nil]
        first | refine r_iteP rfl (fun h20 => ?_) (fun h20 => ?_) | refine r_iteNP rfl (fun h20 => ?_) (fun h20 => ?_) | refine r_iteN rfl (fun h20 => ?_) (fun h20 => ?_) | refine r_ite rfl (fun h20 => ?_) (fun h20 => ?_)
        · refine r_ret rfl ?_
          rw [hr18.2 rfl] at h20; cases h20
        · refine r_callQ ta rfl ?_
          rintro _ rfl
          refine ⟨rfl, ?_⟩
          try simp only [List.cons_append, List.nil_append, List.flatten_cons, List.flatten_nil, List.append_nil]
          refine r_callQ (w50a hv hv) rfl ?_
          rintro _ ⟨r23, rfl, hr23⟩
          refine ⟨rfl, ?_⟩
          try simp only [List.cons_append, List.nil_append, List.flatten_cons, List.flatten_nil, List.append_nil]
          refine r_not rfl ?_
          try simp only [List.cons_append, List.nil_append, List.flatten_cons, List.flatten_nil, List.append_nil]
          first | refine r_iteP rfl (fun h25 => ?_) (fun h25 => ?_) | refine r_iteNP rfl (fun h25 => ?_) (fun h25 => ?_) | refine r_iteN rfl (fun h25 => ?_) (fun h25 => ?_) | refine r_ite rfl (fun h25 => ?_) (fun h25 => ?_)
          · refine r_ret rfl ?_
            rw [hr23.2 ⟨rfl, rfl, rfl⟩] at h25; cases h25
          · refine r_ret rfl ?_
            rfl

theorem w144 {t : Typ} {x : Act} (ht : t.ok) (hx : x.ok) : ∃ rs, Big tab (.fn 144 [t.row, x.row] rs) ∧ rs = [[.bool true]] := by
  obtain ⟨tk, tl, tu⟩ := t
  obtain ⟨k, n, ⟨vk, vn, s, ls, us⟩⟩ := x
  rw [Typ.row_mk, Act.row_mk]
  exact w144a ht hx.2.2
end Go.Proofs.Ytkiliooegoldoaa
