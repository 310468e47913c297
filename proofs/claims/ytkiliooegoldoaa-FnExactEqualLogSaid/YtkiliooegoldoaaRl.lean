/- Rules for what trees come to. -/
import Derived.ProofKit
import Derived.Test.YtkiliooegoldoaaSy5
set_option linter.unusedVariables false
set_option linter.unusedSimpArgs false
namespace Go.Proofs.Ytkiliooegoldoaa
open Go

/-- The numbers that fit. -/
def inR (x : Int) : Prop := -9223372036854775808 ≤ x ∧ x ≤ 9223372036854775807

theorem wrap_i64 {x : Int} (h : inR x) : IntKind.wrap .i64 x = x := by
  unfold inR at h
  have e : IntKind.wrap .i64 x = if x % 18446744073709551616 ≥ 9223372036854775808 then x % 18446744073709551616 - 18446744073709551616 else x % 18446744073709551616 := by
    show (if (true && decide (x % 18446744073709551616 ≥ 9223372036854775808)) = true then x % 18446744073709551616 - 18446744073709551616 else x % 18446744073709551616) = _
    simp only [Bool.true_and, decide_eq_true_eq]
  rw [e]
  split <;> omega
theorem bytes_toList (a b : ByteArray) : (a.toList == b.toList) = decide (a = b) := by
  rw [ByteArray.toList_eq, ByteArray.toList_eq]
  by_cases h : a = b
  · subst h; simp
  · have : a.data.toList ≠ b.data.toList := fun hn => h (Go.WideShapes.bytes_inj hn)
    rw [decide_eq_false h]
    simpa using this

theorem iffT {P : Prop} (h : P) : true = true ↔ P := ⟨fun _ => h, fun _ => rfl⟩
theorem iffF {P : Prop} (h : ¬ P) : false = true ↔ P := ⟨fun h' => absurd h' (by simp), fun h' => absurd h' h⟩
theorem iffD {P R : Prop} {i : Decidable P} (h : P ↔ R) : @decide P i = true ↔ R := by rw [decide_eq_true_eq]; exact h

def sameK : PV → PV → Bool
  | .int k _, .int k' _ => decide (k = k')
  | .bool _, .bool _ => true
  | .str _, .str _ => true
  | _, _ => false
def sameKs : List PV → List PV → Bool
  | [], [] => true
  | x :: xs, y :: ys => sameK x y && sameKs xs ys
  | _, _ => false
theorem sameScalar_iff {p q : PV} (h : sameK p q = true) : ∃ b, sameScalar p q = some b ∧ (b = true ↔ p = q) := by
  unfold sameK at h
  split at h
  · simp only [decide_eq_true_eq] at h
    subst h
    refine ⟨_, by simp [sameScalar]; rfl, by simp⟩
  · exact ⟨_, rfl, by simp⟩
  · refine ⟨_, rfl, ?_⟩
    rw [bytes_toList]; simp
  · cases h
theorem sameCells_iff : ∀ {ps qs : List PV}, sameKs ps qs = true → ∃ b, sameCells (ps.map fun p => (Lev.deep, p)) (qs.map fun p => (Lev.deep, p)) = some b ∧ (b = true ↔ ps = qs) := by
  intro ps
  induction ps with
  | nil => intro qs h; cases qs <;> simp [sameKs] at h; exact ⟨true, rfl, by simp⟩
  | cons p ps ih =>
    intro qs h
    cases qs with
    | nil => simp [sameKs] at h
    | cons q qs =>
      simp only [sameKs, Bool.and_eq_true] at h
      obtain ⟨b, h1, h2⟩ := sameScalar_iff h.1
      obtain ⟨c, h3, h4⟩ := ih h.2
      refine ⟨b && c, by simp only [List.map_cons, sameCells, h1, h3]; rfl, ?_⟩
      simp only [Bool.and_eq_true, h2, h4, List.cons.injEq]

section
variable {F : Nat → Option AFunc} {Q : List (List PV) → Prop} {t e : Tr} {Qs : Nat → List PV → Prop} {env : List PV} {a b c : At} {k : IntKind} {x y : Int}

theorem r_lett {p : Prim} {as : List At} {fl : Bool} (v : PV) (h : primDen p (as.map (At.den env)) = some v) (hf : v.flat = fl) (K : wp F Q t Qs (env ++ [v])) : wp F Q (.lett ⟨p, as, fl⟩ t) Qs env := ⟨v, h, hf, K⟩
theorem r_len {sz xs} (h : a.den env = .sl sz xs) (K : wp F Q t Qs (env ++ [I xs.length])) : wp F Q (.lett ⟨.len, [a], true⟩ t) Qs env :=
  ⟨_, by simp [primDen, h], rfl, K⟩
theorem r_lenS {s} (h : a.den env = .str s) (K : wp F Q t Qs (env ++ [I s.size])) : wp F Q (.lett ⟨.lenS, [a], true⟩ t) Qs env :=
  ⟨_, by simp [primDen, h], rfl, K⟩
section
variable (ha : a.den env = .int k x) (hb : b.den env = .int k y)
include ha hb
theorem r_lss (K : wp F Q t Qs (env ++ [.bool (decide (x < y))])) : wp F Q (.lett ⟨.bin .lss, [a, b], true⟩ t) Qs env :=
  ⟨_, by
    simp only [primDen, List.map_cons, List.map_nil, ha, hb]
    simp only [binS, PV.toV, Go.binOp, ne_eq, not_true, if_false]
    rfl, rfl, K⟩
theorem r_leq (K : wp F Q t Qs (env ++ [.bool (decide (x ≤ y))])) : wp F Q (.lett ⟨.bin .leq, [a, b], true⟩ t) Qs env :=
  ⟨_, by
    simp only [primDen, List.map_cons, List.map_nil, ha, hb]
    simp only [binS, PV.toV, Go.binOp, ne_eq, not_true, if_false]
    rfl, rfl, K⟩
theorem r_gtr (K : wp F Q t Qs (env ++ [.bool (decide (x > y))])) : wp F Q (.lett ⟨.bin .gtr, [a, b], true⟩ t) Qs env :=
  ⟨_, by
    simp only [primDen, List.map_cons, List.map_nil, ha, hb]
    simp only [binS, PV.toV, Go.binOp, ne_eq, not_true, if_false]
    rfl, rfl, K⟩
theorem r_geq (K : wp F Q t Qs (env ++ [.bool (decide (x ≥ y))])) : wp F Q (.lett ⟨.bin .geq, [a, b], true⟩ t) Qs env :=
  ⟨_, by
    simp only [primDen, List.map_cons, List.map_nil, ha, hb]
    simp only [binS, PV.toV, Go.binOp, ne_eq, not_true, if_false]
    rfl, rfl, K⟩
theorem r_eql (K : wp F Q t Qs (env ++ [.bool (decide (x = y))])) : wp F Q (.lett ⟨.bin .eql, [a, b], true⟩ t) Qs env :=
  ⟨.bool (decide (x = y)), by
    simp only [primDen, List.map_cons, List.map_nil, ha, hb]; simp only [binS, PV.toV, Go.binOp, ne_eq, not_true, if_false]
    show some (PV.bool (x == y)) = _
    first | rfl | (congr 2; by_cases h : x = y <;> simp [h]), rfl, K⟩
theorem r_neq (K : wp F Q t Qs (env ++ [.bool (decide (¬ x = y))])) : wp F Q (.lett ⟨.bin .neq, [a, b], true⟩ t) Qs env :=
  ⟨.bool (decide (¬ x = y)), by
    simp only [primDen, List.map_cons, List.map_nil, ha, hb]; simp only [binS, PV.toV, Go.binOp, ne_eq, not_true, if_false]
    show some (PV.bool (x != y)) = _
    congr 2; by_cases h : x = y <;> simp [h], rfl, K⟩
end
theorem r_add (ha : a.den env = I x) (hb : b.den env = I y) (hr : inR (x + y)) (K : wp F Q t Qs (env ++ [I (x + y)])) : wp F Q (.lett ⟨.bin .add, [a, b], true⟩ t) Qs env :=
  ⟨I (x + y), by
    simp only [primDen, List.map_cons, List.map_nil, ha, hb]; simp only [binS, PV.toV, Go.binOp, ne_eq, not_true, if_false]
    show some (PV.int .i64 (IntKind.wrap .i64 (x + y))) = _
    rw [wrap_i64 hr], rfl, K⟩
theorem r_sub (ha : a.den env = I x) (hb : b.den env = I y) (hr : inR (x - y)) (K : wp F Q t Qs (env ++ [I (x - y)])) : wp F Q (.lett ⟨.bin .sub, [a, b], true⟩ t) Qs env :=
  ⟨I (x - y), by
    simp only [primDen, List.map_cons, List.map_nil, ha, hb]; simp only [binS, PV.toV, Go.binOp, ne_eq, not_true, if_false]
    show some (PV.int .i64 (IntKind.wrap .i64 (x - y))) = _
    rw [wrap_i64 hr], rfl, K⟩
theorem r_mul (ha : a.den env = I x) (hb : b.den env = I y) (hr : inR (x * y)) (K : wp F Q t Qs (env ++ [I (x * y)])) : wp F Q (.lett ⟨.bin .mul, [a, b], true⟩ t) Qs env :=
  ⟨I (x * y), by
    simp only [primDen, List.map_cons, List.map_nil, ha, hb]; simp only [binS, PV.toV, Go.binOp, ne_eq, not_true, if_false]
    show some (PV.int .i64 (IntKind.wrap .i64 (x * y))) = _
    rw [wrap_i64 hr], rfl, K⟩
section
variable {s u : ByteArray} (ha : a.den env = .str s) (hb : b.den env = .str u)
include ha hb
theorem r_eqlS (K : wp F Q t Qs (env ++ [.bool (decide (s = u))])) : wp F Q (.lett ⟨.bin .eql, [a, b], true⟩ t) Qs env :=
  ⟨.bool (decide (s = u)), by
    simp only [primDen, List.map_cons, List.map_nil, ha, hb]
    show some (PV.bool (s.toList == u.toList)) = _
    rw [bytes_toList], rfl, K⟩
theorem r_neqS (K : wp F Q t Qs (env ++ [.bool (decide (¬ s = u))])) : wp F Q (.lett ⟨.bin .neq, [a, b], true⟩ t) Qs env :=
  ⟨.bool (decide (¬ s = u)), by
    simp only [primDen, List.map_cons, List.map_nil, ha, hb]
    show some (PV.bool (!(s.toList == u.toList))) = _
    rw [bytes_toList]; congr 2; by_cases h : s = u <;> simp [h], rfl, K⟩
theorem r_addS (hl : s.size + u.size ≤ 9223372036854775807) (K : wp F Q t Qs (env ++ [.str (s ++ u)])) : wp F Q (.lett ⟨.bin .add, [a, b], true⟩ t) Qs env :=
  ⟨.str (s ++ u), by
    simp only [primDen, List.map_cons, List.map_nil, ha, hb]
    have : ¬ ((↑(s.size + u.size) : Int) > IntKind.i64.max) := by
      have : IntKind.i64.max = 9223372036854775807 := by decide
      rw [this]; omega
    simp only [binS, PV.toV, Go.binOp, Op.stringOp, if_neg this]
    rfl, rfl, K⟩
end
theorem r_not {b : Bool} (ha : a.den env = .bool b) (K : wp F Q t Qs (env ++ [.bool (!b)])) : wp F Q (.lett ⟨.un .not, [a], true⟩ t) Qs env :=
  ⟨.bool (!b), by simp only [primDen, List.map_cons, List.map_nil, ha]; rfl, rfl, K⟩
theorem r_eqB {p q neg : Bool} (ha : a.den env = .bool p) (hb : b.den env = .bool q) (K : wp F Q t Qs (env ++ [.bool (if neg then !(p == q) else p == q)])) : wp F Q (.lett ⟨.eqB neg, [a, b], true⟩ t) Qs env :=
  ⟨_, by simp only [primDen, List.map_cons, List.map_nil, ha, hb], rfl, K⟩
theorem r_conv {k' : IntKind} (ha : a.den env = .int k' x) (K : wp F Q t Qs (env ++ [.int k (k.wrap x)])) : wp F Q (.lett ⟨.conv k, [a], true⟩ t) Qs env :=
  ⟨_, by simp only [primDen, List.map_cons, List.map_nil, ha], rfl, K⟩
theorem r_eqAgg {neg : Bool} {ks : List Nat} {as : List At} (ps qs : List PV) (ha : as.map (At.den env) = ps ++ qs) (hk : ps.map PV.kind = ks) (hs : sameKs ps qs = true)
    (K : ∀ b, (b = true ↔ ps = qs) → wp F Q t Qs (env ++ [.bool (if neg then !b else b)])) : wp F Q (.lett ⟨.eqAgg neg ks, as, true⟩ t) Qs env := by
  obtain ⟨b, h1, h2⟩ := sameCells_iff hs
  refine ⟨_, ?_, rfl, K b h2⟩
  have hl : ps.length = ks.length := by rw [← hk]; simp
  have h3 : List.take ks.length (ps ++ qs) = ps := by rw [← hl]; simp
  have h4 : List.drop ks.length (ps ++ qs) = qs := by rw [← hl]; simp
  simp only [primDen, ha, h3, h4, hk, if_true, h1, Option.map_some]
theorem r_neqAgg {ks : List Nat} {as : List At} (ps qs : List PV) (ha : as.map (At.den env) = ps ++ qs) (hk : ps.map PV.kind = ks) (hs : sameKs ps qs = true)
    (K : ∀ b, (b = true ↔ ps = qs) → wp F Q t Qs (env ++ [.bool (!b)])) : wp F Q (.lett ⟨.eqAgg true ks, as, true⟩ t) Qs env := r_eqAgg ps qs ha hk hs K
/-- An index is inside: the row is named. -/
theorem r_inb {sz xs} (ha : a.den env = .sl sz xs) (hb : b.den env = .int k x) (h0 : 0 ≤ x) (h1 : x < xs.length) (K : wp F Q t Qs (env ++ [.bool true])) : wp F Q (.lett ⟨.inb sz, [a, b], true⟩ t) Qs env :=
  ⟨.bool true, by
    simp only [primDen, List.map_cons, List.map_nil, ha, hb, nat?, if_pos h0, Option.bind_some]
    rw [if_pos ⟨trivial, by omega⟩], rfl, K⟩
theorem r_inbT {α : Type} {f : α → List PV} {l : List α} {sz} (ha : a.den env = .sl sz (l.map f)) (hb : b.den env = .int k x) (h0 : 0 ≤ x) (h1 : x < l.length)
    (K : ∀ e, l[x.toNat]? = some e → (l.map f)[x.toNat]? = some (f e) → wp F Q t Qs (env ++ [.bool true])) : wp F Q (.lett ⟨.inb sz, [a, b], true⟩ t) Qs env := by
  have hi : x.toNat < l.length := by omega
  exact r_inb ha hb h0 (by simpa using h1) (K l[x.toNat] (List.getElem?_eq_getElem hi) (by simp [hi]))
theorem r_get1 {sz xs j row q fl} (ha : a.den env = .sl sz xs) (hb : b.den env = .int k x) (hrow : xs[x.toNat]? = some row) (hq : row[j]? = some q) (hf : q.flat = fl) (K : wp F Q t Qs (env ++ [q])) :
    wp F Q (.lett ⟨.get [(sz, j)], [a, b], fl⟩ t) Qs env :=
  ⟨q, by
    simp only [primDen, List.map_cons, List.map_nil, ha, hb, zipPath, idxNat, pget, if_true, hrow, hq], hf, K⟩
theorem r_set1 {sz xs j row news as} (ha : a.den env = .sl sz xs) (hb : b.den env = .int k x) (hrow : xs[x.toNat]? = some row) (hn : as.map (At.den env) = news) (hl : j + news.length ≤ row.length)
    (K : wp F Q t Qs (env ++ [.sl sz (xs.set x.toNat (rowSet row j news))])) : wp F Q (.lett ⟨.set [(sz, j)], a :: b :: as, false⟩ t) Qs env :=
  ⟨_, by
    simp only [primDen, List.map_cons, ha, hb, zipPath, hn, List.length_cons, List.length_nil, List.drop_succ_cons, List.drop_zero]
    simp only [zipPath, idxNat]
    simp only [pset, if_true, hrow, if_pos hl], rfl, K⟩
theorem r_make {sz zs} (ha : a.den env = .int k x) (h0 : 0 ≤ x) (h1 : x ≤ 1099511627776) (K : wp F Q t Qs (env ++ [.sl sz (List.replicate x.toNat zs)])) : wp F Q (.lett ⟨.make sz zs, [a], false⟩ t) Qs env :=
  ⟨_, by
    simp only [primDen, List.map_cons, List.map_nil, ha, nat?, if_pos h0, Option.bind_some]
    rw [if_pos (by omega)], rfl, K⟩
theorem r_app {sz bytes c1 c2 xs ys} (ha : a.den env = .sl sz xs) (hb : b.den env = .sl sz ys) (h1 : c1 = true → flatRows xs = true) (h2 : c2 = true → flatRows ys = true) (hl : (xs.length + ys.length) * bytes ≤ 140737488355328)
    (K : wp F Q t Qs (env ++ [.sl sz (xs ++ ys)])) : wp F Q (.lett ⟨.app sz bytes c1 c2, [a, b], false⟩ t) Qs env :=
  ⟨_, by
    simp only [primDen, List.map_cons, List.map_nil, ha, hb]
    rw [if_pos ⟨trivial, trivial, h1, h2, hl⟩], rfl, K⟩
theorem r_mk {sz rows as xs} (h : splitBy rows (as.map (At.den env)) = xs) (K : wp F Q t Qs (env ++ [.sl sz xs])) : wp F Q (.lett ⟨.mk sz rows, as, false⟩ t) Qs env :=
  ⟨_, by simp only [primDen, h], rfl, K⟩
theorem r_ix {s : ByteArray} (ha : a.den env = .str s) (hb : b.den env = .int k x) (h0 : 0 ≤ x) (h1 : x < s.size) (K : ∀ v, s[x.toNat]? = some v → wp F Q t Qs (env ++ [.int .u8 v.toNat])) :
    wp F Q (.lett ⟨.ix, [a, b], true⟩ t) Qs env := by
  have hi : x.toNat < s.size := by omega
  refine ⟨_, ?_, ?_, K _ (getElem?_pos s x.toNat hi)⟩
  · simp only [primDen, List.map_cons, List.map_nil, ha, hb, nat?, if_pos h0, Option.bind_some, getElem?_pos s x.toNat hi, Option.map_some]
  · rfl

theorem r_ite {b : Bool} (h : a.den env = .bool b) (h1 : b = true → wp F Q t Qs env) (h2 : b = false → wp F Q e Qs env) : wp F Q (.ite a t e) Qs env := by
  refine ⟨b, h, ?_⟩
  cases b
  · simpa using h2 rfl
  · simpa using h1 rfl
theorem r_iteP {p : Prop} {i : Decidable p} (h : a.den env = .bool (@decide p i)) (h1 : p → wp F Q t Qs env) (h2 : ¬ p → wp F Q e Qs env) : wp F Q (.ite a t e) Qs env :=
  r_ite h (fun h => h1 (of_decide_eq_true h)) fun h => h2 (of_decide_eq_false h)
theorem r_iteN {b : Bool} (h : a.den env = .bool (!b)) (h1 : b = false → wp F Q t Qs env) (h2 : b = true → wp F Q e Qs env) : wp F Q (.ite a t e) Qs env :=
  r_ite h (fun h => h1 (by simpa using h)) fun h => h2 (by simpa using h)
theorem r_iteNP {p : Prop} {i : Decidable p} (h : a.den env = .bool (!(@decide p i))) (h1 : ¬ p → wp F Q t Qs env) (h2 : p → wp F Q e Qs env) : wp F Q (.ite a t e) Qs env :=
  r_iteN h (fun h => h1 (of_decide_eq_false h)) fun h => h2 (of_decide_eq_true h)
theorem r_call {f : Nat} {as : List (List At)} {fls : List (List Bool)} {args rs} (hb : Big F (.fn f args rs)) (ha : as.map (fun r => r.map (At.den env)) = args) (hf : rs.map (fun r => r.map PV.flat) = fls) (K : wp F Q t Qs (env ++ rs.flatten)) :
    wp F Q (.call f as fls t) Qs env := ⟨rs, by rw [ha]; exact hb, hf, K⟩
theorem r_callQ {f : Nat} {as : List (List At)} {fls : List (List Bool)} {args} {R : List (List PV) → Prop} (hw : ∃ rs, Big F (.fn f args rs) ∧ R rs) (ha : as.map (fun r => r.map (At.den env)) = args)
    (K : ∀ rs, R rs → rs.map (fun r => r.map PV.flat) = fls ∧ wp F Q t Qs (env ++ rs.flatten)) : wp F Q (.call f as fls t) Qs env := by
  obtain ⟨rs, hb, hr⟩ := hw
  exact r_call hb ha (K rs hr).1 (K rs hr).2
theorem r_loop {L : Nat} {inits : List At} (Inv : Nat → List PV → Prop) (m0 : Nat) (h0 : Inv m0 (inits.map (At.den env)))
    (h : ∀ m vs, Inv m vs → wp F Q t (updQ Qs L fun vs' => ∃ m', m' < m ∧ Inv m' vs') (env ++ vs)) : wp F Q (.loop L inits t) Qs env :=
  ⟨Inv, ⟨m0, h0⟩, fun m vs _ hi => h m vs hi⟩
theorem r_again {L : Nat} {as : List At} {R : List PV → Prop} (h : R (as.map (At.den env))) : wp F Q (.again L as) (updQ Qs L R) env := by
  show updQ Qs L R L _
  simpa [updQ] using h
theorem r_again' {L L' : Nat} {as : List At} {R : List PV → Prop} (hL : L ≠ L') (h : wp F Q (.again L as) Qs env) : wp F Q (.again L as) (updQ Qs L' R) env := by
  show updQ Qs L' R L _
  have h' : Qs L _ := h
  simpa [updQ, hL] using h'
theorem r_ret {rs : List (List At)} {vs} (hv : rs.map (fun r => r.map (At.den env)) = vs) (h : Q vs) : wp F Q (.ret rs) Qs env := by
  show Q _
  rw [hv]; exact h
end
end Go.Proofs.Ytkiliooegoldoaa
