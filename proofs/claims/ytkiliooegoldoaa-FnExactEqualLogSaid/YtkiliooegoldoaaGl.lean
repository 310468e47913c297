/- Lists of rows: the functions that measure, copy and compare them. -/
import Derived.Test.YtkiliooegoldoaaRl
set_option linter.unusedVariables false
set_option linter.unusedSimpArgs false
namespace Go.Proofs.Ytkiliooegoldoaa
open Go

theorem den_at {env rest : List PV} {n : Nat} {x : PV} {fl : Bool} (hn : env.length = n) (hf : x.flat = fl) : (At.v n fl).den (env ++ x :: rest) = x := by
  subst hn
  simp only [At.den, List.getD_eq_getElem?_getD, List.getElem?_append_right (Nat.le_refl _), Nat.sub_self, List.getElem?_cons_zero, Option.getD_some]
  exact PV.coe_eq hf
theorem den_ext {env rest : List PV} {i : Nat} {fl : Bool} (h : i < env.length) : (At.v i fl).den (env ++ rest) = (At.v i fl).den env := At.ext (by simpa [At.lt] using h)

def gets (a b : At) (w : Nat) : Nat → List Bool → Tr → Tr
  | _, [], t => t
  | j, fl :: fls, t => .lett ⟨.get [(w, j)], [a, b], fl⟩ (gets a b w (j + 1) fls t)
section
variable {F : Nat → Option AFunc} {Q : List (List PV) → Prop} {t : Tr} {Qs : Nat → List PV → Prop}
theorem gets_wp {a b : At} {w : Nat} {k : IntKind} {x : Int} {xs row} (hrow : xs[x.toNat]? = some row) : ∀ {fls : List Bool} {env : List PV} {j : Nat}, a.lt env.length = true → b.lt env.length = true → a.den env = .sl w xs → b.den env = .int k x →
    (row.drop j).map PV.flat = fls → wp F Q t Qs (env ++ row.drop j) → wp F Q (gets a b w j fls t) Qs env := by
  intro fls
  induction fls with
  | nil =>
    intro env j _ _ _ _ hf h
    have : row.drop j = [] := by simpa using hf
    rw [this, List.append_nil] at h
    exact h
  | cons fl fls ih =>
    intro env j hla hlb ha hb hf h
    cases hd : row.drop j with
    | nil => rw [hd] at hf; simp at hf
    | cons q qs =>
      have hq : row[j]? = some q := by rw [← List.head?_drop, hd]; rfl
      have hd' : row.drop (j + 1) = qs := by rw [← List.tail_drop, hd]; rfl
      rw [hd] at hf h
      simp only [List.map_cons, List.cons.injEq] at hf
      refine r_get1 ha hb hrow hq hf.1 ?_
      have hlt : ∀ {c : At}, c.lt env.length = true → c.lt (env ++ [q]).length = true := by
        intro c hc
        cases c with
        | v i f => simp [At.lt] at hc ⊢; omega
        | c p => rfl
      refine ih (hlt hla) (hlt hlb) (by rw [At.ext hla, ha]) (by rw [At.ext hlb, hb]) (by rw [hd']; exact hf.2) ?_
      rw [hd']; simpa using h
end

/-! ### Measured -/
def szTree (w : Nat) (fls : List Bool) (callee : Nat) : Tr :=
  .lett ⟨.len, [vs 0], true⟩ (.lett ⟨.bin .sub, [vf 1, vf 2], true⟩ (.lett ⟨.bin .lss, [vf 3, .c (I 0)], true⟩ (.ite (vf 4) (.ret [[.c (I (-1))]])
  (.loop 0 [vf 3, .c (I 0)] (.lett ⟨.len, [vs 0], true⟩ (.lett ⟨.bin .lss, [vf 6, vf 7], true⟩ (.ite (vf 8)
    (.lett ⟨.inb w, [vs 0, vf 6], true⟩ (gets (vs 0) (vf 6) w 0 fls (.call callee [fresh 10 fls, [vf 5]] [[true]]
      (.lett ⟨.bin .lss, [vf (10 + w), .c (I 0)], true⟩ (.ite (vf (11 + w)) (.ret [[.c (I (-1))]])
        (.lett ⟨.bin .add, [vf 6, .c (I 1)], true⟩ (.again 0 [vf (10 + w), vf (12 + w)])))))))
    (.ret [[vf 5]])))))))) 
def sumC (c : List PV → Nat) (xs : List (List PV)) : Nat := (xs.map c).sum
theorem sumC_snoc {c : List PV → Nat} {xs : List (List PV)} {i : Nat} {r : List PV} (h : xs[i]? = some r) : sumC c (xs.take (i + 1)) = sumC c (xs.take i) + c r := by
  rw [List.take_add_one, h]; simp [sumC]

section
variable {F : Nat → Option AFunc} {hint : Hint} {k : Nat} {fd : AFunc} {w : Nat} {fls : List Bool} {callee : Nat}

theorem szList (hF : F k = some fd) (hc : compFn F hint fd [[false], [true]] = some (szTree w fls callee)) (c : List PV → Nat) {xs : List (List PV)} (hw : fls.length = w) (hl : xs.length ≤ 9223372036854775807) (hfl : ∀ r ∈ xs, r.map PV.flat = fls)
    {left : Int} (h0 : 0 ≤ left) (h1 : left ≤ 9223372036854775807)
    (hcal : ∀ r ∈ xs, ∀ lf : Int, 0 ≤ lf → lf ≤ left → ∃ rs, Big F (.fn callee [r, [I lf]] rs) ∧ ∃ x, rs = [[I x]] ∧ (x = -1 ∨ (0 ≤ x ∧ x + c r ≤ lf))) :
    ∃ rs, Big F (.fn k [[.sl w xs], [I left]] rs) ∧ ∃ x, rs = [[I x]] ∧ (x = -1 ∨ (0 ≤ x ∧ x + (xs.length + sumC c xs : Nat) ≤ left)) := by
  refine tr_sound hF hc rfl ?_
  show wp _ _ _ _ [.sl w xs, I left]
  refine r_len rfl ?_
  refine r_sub rfl rfl (by simp only [inR] at *; omega) ?_
  refine r_lss rfl rfl ?_
  refine r_iteP rfl (fun h => ?_) (fun h => ?_)
  · exact r_ret rfl ⟨_, rfl, Or.inl rfl⟩
  refine r_loop (fun m vs => ∃ (lf : Int) (i : Nat), vs = [I lf, I i] ∧ i ≤ xs.length ∧ 0 ≤ lf ∧ lf + (xs.length + sumC c (xs.take i) : Nat) ≤ left ∧ m = xs.length - i) _ ⟨_, 0, rfl, by omega, by omega, by simp [sumC], rfl⟩ ?_
  rintro m _ ⟨lf, i, rfl, hi, hf0, hf1, rfl⟩
  refine r_len rfl ?_
  refine r_lss rfl rfl ?_
  refine r_iteP rfl (fun h => ?_) (fun h => ?_)
  · have hi' : i < xs.length := by omega
    refine r_inb rfl rfl (by omega) (by omega) ?_
    obtain ⟨r, hr⟩ : ∃ r, xs[i]? = some r := ⟨_, List.getElem?_eq_getElem hi'⟩
    have hm := List.mem_of_getElem? hr
    refine gets_wp (xs := xs) (row := r) (k := .i64) (x := i) (by simpa using hr) rfl rfl rfl rfl (by rw [List.drop_zero]; exact hfl r hm) ?_
    rw [List.drop_zero]
    obtain ⟨rs, hb, x, rfl, hx⟩ := hcal r hm lf hf0 (by omega)
    have hrl : r.length = w := by rw [← hw, ← hfl r hm]; simp
    generalize hE : ([PV.sl w xs, I left] ++ [I xs.length] ++ [I (left - xs.length)] ++ [PV.bool (decide (left - xs.length < 0))] ++ [I lf, I i] ++ [I xs.length] ++ [PV.bool (decide ((i : Int) < xs.length))] ++ [PV.bool true]) = E
    have hEl : E.length = 10 := by rw [← hE]; rfl
    have e5 : ∀ rest, (vf 5).den (E ++ rest) = I lf := fun rest => by rw [den_ext (by omega), ← hE]; rfl
    have e6 : ∀ rest, (vf 6).den (E ++ rest) = I i := fun rest => by rw [den_ext (by omega), ← hE]; rfl
    have hEr : (E ++ r).length = 10 + w := by simp [hEl, hrl]
    have hEr1 : (E ++ r ++ [I x]).length = 11 + w := by simp [hEl, hrl]; omega
    have hEr2 : (E ++ r ++ [I x] ++ [PV.bool (decide (x < 0))]).length = 12 + w := by simp [hEl, hrl]; omega
    refine r_call hb (by simp only [List.map_cons, List.map_nil, fresh_den' hEl (hfl r hm), e5]) rfl ?_
    simp only [List.flatten_cons, List.flatten_nil, List.append_nil]
    refine r_lss (x := x) (y := 0) (k := .i64) (den_at hEr rfl) rfl ?_
    refine r_iteP (den_at (rest := []) hEr1 rfl) (fun h => ?_) (fun h => ?_)
    · exact r_ret rfl ⟨_, rfl, Or.inl rfl⟩
    refine r_add (x := i) (y := 1) (by simp only [List.append_assoc]; exact e6 _) rfl (by simp only [inR] at *; omega) ?_
    have es : sumC c (xs.take (i + 1)) = sumC c (xs.take i) + c r := sumC_snoc hr
    refine r_again ⟨xs.length - (i + 1), by omega, x, i + 1, ?_, by omega, by omega, by omega, rfl⟩
    have d1 : (vf (10 + w)).den (E ++ r ++ [I x] ++ [PV.bool (decide (x < 0))] ++ [I (i + 1)]) = I x := by
      rw [List.append_assoc (E ++ r), List.append_assoc (E ++ r)]; exact den_at hEr rfl
    have d2 : (vf (12 + w)).den (E ++ r ++ [I x] ++ [PV.bool (decide (x < 0))] ++ [I (i + 1)]) = I (i + 1) := den_at hEr2 rfl
    simp only [List.map_cons, List.map_nil, d1, d2]
    rfl
  · exact r_ret (vs := [[I lf]]) rfl ⟨lf, rfl, Or.inr ⟨by omega, by
      have : i = xs.length := by omega
      subst this
      rw [List.take_length] at hf1
      exact hf1⟩⟩

theorem szListT {α : Type} (f : α → List PV) (hF : F k = some fd) (hc : compFn F hint fd [[false], [true]] = some (szTree w fls callee)) (c : α → Nat) {l : List α} (hw : fls.length = w) (hl : l.length ≤ 9223372036854775807) (hfl : ∀ e, (f e).map PV.flat = fls)
    {left : Int} (h0 : 0 ≤ left) (h1 : left ≤ 9223372036854775807)
    (hcal : ∀ e ∈ l, ∀ lf : Int, 0 ≤ lf → lf ≤ left → ∃ rs, Big F (.fn callee [f e, [I lf]] rs) ∧ ∃ x, rs = [[I x]] ∧ (x = -1 ∨ (0 ≤ x ∧ x + c e ≤ lf))) :
    ∃ rs, Big F (.fn k [[.sl w (l.map f)], [I left]] rs) ∧ ∃ x, rs = [[I x]] ∧ (x = -1 ∨ (0 ≤ x ∧ x + (l.length + (l.map c).sum : Nat) ≤ left)) := by
  have hlen : (l.map f).length = l.length := List.length_map ..
  generalize hxs : l.map f = xs at *
  refine tr_sound hF hc rfl ?_
  show wp _ _ _ _ [.sl w xs, I left]
  refine r_len rfl ?_
  refine r_sub rfl rfl (by simp only [inR] at *; omega) ?_
  refine r_lss rfl rfl ?_
  refine r_iteP rfl (fun h => ?_) (fun h => ?_)
  · exact r_ret rfl ⟨_, rfl, Or.inl rfl⟩
  refine r_loop (fun m vs => ∃ (lf : Int) (i : Nat), vs = [I lf, I i] ∧ i ≤ xs.length ∧ 0 ≤ lf ∧ lf + (xs.length + ((l.take i).map c).sum : Nat) ≤ left ∧ m = xs.length - i) _ ⟨_, 0, rfl, by omega, by omega, by simp, rfl⟩ ?_
  rintro m _ ⟨lf, i, rfl, hi, hf0, hf1, rfl⟩
  refine r_len rfl ?_
  refine r_lss rfl rfl ?_
  refine r_iteP rfl (fun h => ?_) (fun h => ?_)
  · have hi' : i < xs.length := by omega
    refine r_inb rfl rfl (by omega) (by omega) ?_
    obtain ⟨e, he⟩ : ∃ e, l[i]? = some e := ⟨_, List.getElem?_eq_getElem (by omega)⟩
    have hm := List.mem_of_getElem? he
    have hr : xs[i]? = some (f e) := by rw [← hxs, List.getElem?_map, he]; rfl
    have hfe := hfl e
    refine gets_wp (xs := xs) (row := f e) (k := .i64) (x := i) (by simpa using hr) rfl rfl rfl rfl (by rw [List.drop_zero]; exact hfe) ?_
    rw [List.drop_zero]
    obtain ⟨rs, hb, x, rfl, hx⟩ := hcal e hm lf hf0 (by omega)
    have hrl : (f e).length = w := by rw [← hw, ← hfe]; simp
    have es : ((l.take (i + 1)).map c).sum = ((l.take i).map c).sum + c e := by rw [List.take_add_one, he]; simp
    generalize f e = r at *
    generalize hE : ([PV.sl w xs, I left] ++ [I xs.length] ++ [I (left - xs.length)] ++ [PV.bool (decide (left - xs.length < 0))] ++ [I lf, I i] ++ [I xs.length] ++ [PV.bool (decide ((i : Int) < xs.length))] ++ [PV.bool true]) = E
    have hEl : E.length = 10 := by rw [← hE]; rfl
    have e5 : ∀ rest, (vf 5).den (E ++ rest) = I lf := fun rest => by rw [den_ext (by omega), ← hE]; rfl
    have e6 : ∀ rest, (vf 6).den (E ++ rest) = I i := fun rest => by rw [den_ext (by omega), ← hE]; rfl
    have hEr : (E ++ r).length = 10 + w := by simp [hEl, hrl]
    have hEr1 : (E ++ r ++ [I x]).length = 11 + w := by simp [hEl, hrl]; omega
    have hEr2 : (E ++ r ++ [I x] ++ [PV.bool (decide (x < 0))]).length = 12 + w := by simp [hEl, hrl]; omega
    refine r_call hb (by simp only [List.map_cons, List.map_nil, fresh_den' hEl (hfe), e5]) rfl ?_
    simp only [List.flatten_cons, List.flatten_nil, List.append_nil]
    refine r_lss (x := x) (y := 0) (k := .i64) (den_at hEr rfl) rfl ?_
    refine r_iteP (den_at (rest := []) hEr1 rfl) (fun h => ?_) (fun h => ?_)
    · exact r_ret rfl ⟨_, rfl, Or.inl rfl⟩
    refine r_add (x := i) (y := 1) (by simp only [List.append_assoc]; exact e6 _) rfl (by simp only [inR] at *; omega) ?_
    refine r_again ⟨xs.length - (i + 1), by omega, x, i + 1, ?_, by omega, by omega, by omega, rfl⟩
    have d1 : (vf (10 + w)).den (E ++ r ++ [I x] ++ [PV.bool (decide (x < 0))] ++ [I (i + 1)]) = I x := by
      rw [List.append_assoc (E ++ r), List.append_assoc (E ++ r)]; exact den_at hEr rfl
    have d2 : (vf (12 + w)).den (E ++ r ++ [I x] ++ [PV.bool (decide (x < 0))] ++ [I (i + 1)]) = I (i + 1) := den_at hEr2 rfl
    simp only [List.map_cons, List.map_nil, d1, d2]
    rfl
  · exact r_ret (vs := [[I lf]]) rfl ⟨lf, rfl, Or.inr ⟨by omega, by
      have : i = xs.length := by omega
      subst this
      rw [hlen, List.take_length] at hf1
      exact hf1⟩⟩

/-! ### Copied -/
def toTree (w w' : Nat) (zs : List PV) (fls fls' : List Bool) (callee : Nat) : Tr :=
  .lett ⟨.len, [vs 0], true⟩ (.lett ⟨.make w' zs, [vf 1], false⟩
  (.loop 0 [vs 2, .c (I 0)] (.lett ⟨.len, [vs 0], true⟩ (.lett ⟨.bin .lss, [vf 4, vf 5], true⟩ (.ite (vf 6)
    (.lett ⟨.inb w, [vs 0, vf 4], true⟩ (gets (vs 0) (vf 4) w 0 fls (.call callee [fresh 8 fls] [fls']
      (.lett ⟨.inb w', [vs 3, vf 4], true⟩ (.lett ⟨.set [(w', 0)], vs 3 :: vf 4 :: fresh (8 + w) fls', false⟩
        (.lett ⟨.bin .add, [vf 4, .c (I 1)], true⟩ (.again 0 [vs (9 + w + w'), vf (10 + w + w')])))))))
    (.ret [[vs 3]]))))))
theorem copy_row {T : List (List PV)} {z : List PV} {i n : Nat} (hi : i < n) (hn : n = T.length) : (T.take i ++ List.replicate (n - i) z)[i]? = some z := by
  rw [List.getElem?_append_right (by simp; omega)]
  have : i - (T.take i).length = 0 := by simp; omega
  rw [this, List.getElem?_replicate, if_pos (by omega)]
theorem copy_set {T : List (List PV)} {z r : List PV} {i n : Nat} (hi : i < n) (hn : n = T.length) (hr : T[i]? = some r) : (T.take i ++ List.replicate (n - i) z).set i r = T.take (i + 1) ++ List.replicate (n - (i + 1)) z := by
  have h1 : n - i = (n - (i + 1)) + 1 := by omega
  rw [List.set_append_right _ _ (by simp; omega)]
  have : i - (T.take i).length = 0 := by simp; omega
  rw [this, h1, List.replicate_succ, List.set_cons_zero, List.take_add_one, hr]
  simp
theorem rowSet_all {z news : List PV} (h : news.length = z.length) : rowSet z 0 news = news := by
  simp [rowSet, h]

theorem toList (hF : F k = some fd) {zs : List PV} (hc : compFn F hint fd [[false]] = some (toTree w w zs fls fls callee)) {xs : List (List PV)} (hw : fls.length = w) (hz : zs.length = w) (hl : xs.length ≤ 1099511627776) (hfl : ∀ r ∈ xs, r.map PV.flat = fls)
    (hcal : ∀ r ∈ xs, ∃ rs, Big F (.fn callee [r] rs) ∧ rs = [r]) : ∃ rs, Big F (.fn k [[.sl w xs]] rs) ∧ rs = [[.sl w xs]] := by
  refine tr_sound hF hc rfl ?_
  show wp _ _ _ _ [.sl w xs]
  refine r_len rfl ?_
  refine r_make rfl (by omega) (by omega) ?_
  refine r_loop (fun m vs => ∃ i : Nat, vs = [.sl w (xs.take i ++ List.replicate (xs.length - i) zs), I i] ∧ i ≤ xs.length ∧ m = xs.length - i) _ ⟨0, by rw [List.take_zero, List.nil_append]; rfl, by omega, rfl⟩ ?_
  rintro m _ ⟨i, rfl, hi, rfl⟩
  refine r_len rfl ?_
  refine r_lss rfl rfl ?_
  refine r_iteP rfl (fun h => ?_) (fun h => ?_)
  · have hi' : i < xs.length := by omega
    refine r_inb rfl rfl (by omega) (by omega) ?_
    obtain ⟨r, hr⟩ : ∃ r, xs[i]? = some r := ⟨_, List.getElem?_eq_getElem hi'⟩
    have hm := List.mem_of_getElem? hr
    refine gets_wp (xs := xs) (row := r) (k := .i64) (x := i) (by simpa using hr) rfl rfl rfl rfl (by rw [List.drop_zero]; exact hfl r hm) ?_
    rw [List.drop_zero]
    obtain ⟨rs, hb, rfl⟩ := hcal r hm
    have hrl : r.length = w := by rw [← hw, ← hfl r hm]; simp
    generalize hE : ([PV.sl w xs] ++ [I xs.length] ++ [PV.sl w (List.replicate (xs.length : Int).toNat zs)] ++ [PV.sl w (xs.take i ++ List.replicate (xs.length - i) zs), I i] ++ [I xs.length] ++ [PV.bool (decide ((i : Int) < xs.length))] ++ [PV.bool true]) = E
    have hEl : E.length = 8 := by rw [← hE]; rfl
    have e3 : ∀ rest, (vs 3).den (E ++ rest) = .sl w (xs.take i ++ List.replicate (xs.length - i) zs) := fun rest => by rw [den_ext (by omega), ← hE]; rfl
    have e4 : ∀ rest, (vf 4).den (E ++ rest) = I i := fun rest => by rw [den_ext (by omega), ← hE]; rfl
    have hEr : (E ++ r).length = 8 + w := by simp [hEl, hrl]
    refine r_call hb (by simp only [List.map_cons, List.map_nil, fresh_den' hEl (hfl r hm)]) (by simp [hfl r hm]) ?_
    simp only [List.flatten_cons, List.flatten_nil, List.append_nil]
    have hn : (fresh (8 + w) fls).map (At.den (E ++ r ++ r)) = r := fresh_den' hEr (hfl r hm)
    have hn' : (fresh (8 + w) fls).map (At.den (E ++ r ++ r ++ [PV.bool true])) = r := by
      have := fresh_den (ps := r) (env := E ++ r) (rest := [PV.bool true])
      rw [hEr, hfl r hm, ← List.append_assoc] at this
      exact this
    refine r_inb (x := i) (k := .i64) (by simp only [List.append_assoc]; exact e3 _) (by simp only [List.append_assoc]; exact e4 _) (by omega) (by simp; omega) ?_
    refine r_set1 (sz := w) (xs := xs.take i ++ List.replicate (xs.length - i) zs) (x := i) (k := .i64) (by simp only [List.append_assoc]; exact e3 _) (by simp only [List.append_assoc]; exact e4 _) (row := zs) (copy_row hi' rfl) hn' (by omega) ?_
    rw [rowSet_all (by omega)]
    have hset : (xs.take i ++ List.replicate (xs.length - i) zs).set (i : Int).toNat r = xs.take (i + 1) ++ List.replicate (xs.length - (i + 1)) zs := copy_set hi' rfl hr
    rw [hset]
    refine r_add (x := i) (y := 1) (by simp only [List.append_assoc]; exact e4 _) rfl (by simp only [inR] at *; omega) ?_
    refine r_again ⟨xs.length - (i + 1), by omega, i + 1, ?_, by omega, rfl⟩
    have l1 : (E ++ r ++ r ++ [PV.bool true]).length = 9 + w + w := by simp [hEl, hrl]; omega
    have l2 : (E ++ r ++ r ++ [PV.bool true] ++ [PV.sl w (xs.take (i + 1) ++ List.replicate (xs.length - (i + 1)) zs)]).length = 10 + w + w := by simp [hEl, hrl]; omega
    have d1 : (vs (9 + w + w)).den (E ++ r ++ r ++ [PV.bool true] ++ [PV.sl w (xs.take (i + 1) ++ List.replicate (xs.length - (i + 1)) zs)] ++ [I (i + 1)]) = PV.sl w (xs.take (i + 1) ++ List.replicate (xs.length - (i + 1)) zs) := by
      rw [List.append_assoc (E ++ r ++ r ++ [PV.bool true])]; exact den_at l1 rfl
    have d2 : (vf (10 + w + w)).den (E ++ r ++ r ++ [PV.bool true] ++ [PV.sl w (xs.take (i + 1) ++ List.replicate (xs.length - (i + 1)) zs)] ++ [I (i + 1)]) = I (i + 1) := den_at l2 rfl
    simp only [List.map_cons, List.map_nil, d1, d2]
    rfl
  · have : i = xs.length := by omega
    subst this
    refine r_ret (vs := [[.sl w (xs.take xs.length ++ List.replicate (xs.length - xs.length) zs)]]) rfl ?_
    rw [Nat.sub_self, List.replicate_zero, List.append_nil, List.take_length]

/-! ### Compared -/
def eqTree (w : Nat) (fls : List Bool) (callee : Nat) : Tr :=
  .lett ⟨.len, [vs 0], true⟩ (.lett ⟨.len, [vs 1], true⟩ (.lett ⟨.bin .neq, [vf 2, vf 3], true⟩ (.ite (vf 4) (.ret [[.c (.bool false)]])
  (.loop 0 [.c (I 0)] (.lett ⟨.len, [vs 0], true⟩ (.lett ⟨.bin .lss, [vf 5, vf 6], true⟩ (.ite (vf 7)
    (.lett ⟨.inb w, [vs 0, vf 5], true⟩ (gets (vs 0) (vf 5) w 0 fls (.lett ⟨.inb w, [vs 1, vf 5], true⟩ (gets (vs 1) (vf 5) w 0 fls
      (.call callee [fresh 9 fls, fresh (10 + w) fls] [[true]] (.lett ⟨.un .not, [vf (10 + w + w)], true⟩ (.ite (vf (11 + w + w)) (.ret [[.c (.bool false)]])
        (.lett ⟨.bin .add, [vf 5, .c (I 1)], true⟩ (.again 0 [vf (12 + w + w)])))))))))
    (.ret [[.c (.bool true)]]))))))))
theorem eqList (hF : F k = some fd) (hc : compFn F hint fd [[false], [false]] = some (eqTree w fls callee)) {xs ys : List (List PV)} (hw : fls.length = w) (hl : xs.length ≤ 9223372036854775807) (hl' : ys.length ≤ 9223372036854775807) (hfl : ∀ r ∈ xs, r.map PV.flat = fls) (hfl' : ∀ r ∈ ys, r.map PV.flat = fls)
    (hcal : ∀ r ∈ xs, ∀ r' ∈ ys, ∃ rs, Big F (.fn callee [r, r'] rs) ∧ ∃ b, rs = [[.bool b]] ∧ (b = true ↔ r = r')) : ∃ rs, Big F (.fn k [[.sl w xs], [.sl w ys]] rs) ∧ ∃ b, rs = [[.bool b]] ∧ (b = true ↔ xs = ys) := by
  refine tr_sound hF hc rfl ?_
  show wp _ _ _ _ [.sl w xs, .sl w ys]
  refine r_len rfl ?_
  refine r_len rfl ?_
  refine r_neq rfl rfl ?_
  refine r_iteP rfl (fun h => ?_) (fun h => ?_)
  · exact r_ret rfl ⟨_, rfl, by simp; rintro rfl; exact h rfl⟩
  have hee : xs.length = ys.length := by omega
  refine r_loop (fun m vs => ∃ i : Nat, vs = [I i] ∧ i ≤ xs.length ∧ (∀ j : Nat, j < i → xs[j]? = ys[j]?) ∧ m = xs.length - i) _ ⟨0, rfl, by omega, fun j hj => by omega, rfl⟩ ?_
  rintro m _ ⟨i, rfl, hi, hj, rfl⟩
  refine r_len rfl ?_
  refine r_lss rfl rfl ?_
  refine r_iteP rfl (fun h => ?_) (fun h => ?_)
  · have hi' : i < xs.length := by omega
    refine r_inb rfl rfl (by omega) (by omega) ?_
    obtain ⟨r, hr⟩ : ∃ r, xs[i]? = some r := ⟨_, List.getElem?_eq_getElem hi'⟩
    obtain ⟨r', hr'⟩ : ∃ r', ys[i]? = some r' := ⟨_, List.getElem?_eq_getElem (by omega)⟩
    have hm := List.mem_of_getElem? hr
    have hm' := List.mem_of_getElem? hr'
    refine gets_wp (xs := xs) (row := r) (k := .i64) (x := i) (by simpa using hr) rfl rfl rfl rfl (by rw [List.drop_zero]; exact hfl r hm) ?_
    rw [List.drop_zero]
    have hrl : r.length = w := by rw [← hw, ← hfl r hm]; simp
    have hrl' : r'.length = w := by rw [← hw, ← hfl' r' hm']; simp
    generalize hE : ([PV.sl w xs, PV.sl w ys] ++ [I xs.length] ++ [I ys.length] ++ [PV.bool (decide (¬ (xs.length : Int) = ys.length))] ++ [I i] ++ [I xs.length] ++ [PV.bool (decide ((i : Int) < xs.length))] ++ [PV.bool true]) = E
    have hEl : E.length = 9 := by rw [← hE]; rfl
    have e1 : ∀ rest, (vs 1).den (E ++ rest) = .sl w ys := fun rest => by rw [den_ext (by omega), ← hE]; rfl
    have e5 : ∀ rest, (vf 5).den (E ++ rest) = I i := fun rest => by rw [den_ext (by omega), ← hE]; rfl
    have hEr : (E ++ r).length = 9 + w := by simp [hEl, hrl]
    have hEr1 : (E ++ r ++ [PV.bool true]).length = 10 + w := by simp [hEl, hrl]; omega
    refine r_inb (x := i) (k := .i64) (e1 _) (e5 _) (by omega) (by omega) ?_
    refine gets_wp (xs := ys) (row := r') (k := .i64) (x := i) (by simpa using hr') (by simp [At.lt, hEl]; omega) (by simp [At.lt, hEl]; omega) (by simp only [List.append_assoc]; exact e1 _) (by simp only [List.append_assoc]; exact e5 _) (by rw [List.drop_zero]; exact hfl' r' hm') ?_
    rw [List.drop_zero]
    obtain ⟨rs, hb, b, rfl, hbi⟩ := hcal r hm r' hm'
    have f1 : (fresh 9 fls).map (At.den (E ++ r ++ [PV.bool true] ++ r')) = r := by
      have := fresh_den (ps := r) (env := E) (rest := [PV.bool true] ++ r')
      rw [hEl, hfl r hm] at this
      simpa only [List.append_assoc] using this
    have f2 : (fresh (10 + w) fls).map (At.den (E ++ r ++ [PV.bool true] ++ r')) = r' := fresh_den' hEr1 (hfl' r' hm')
    have hEr2 : (E ++ r ++ [PV.bool true] ++ r').length = 10 + w + w := by simp [hEl, hrl, hrl']; omega
    have hEr3 : (E ++ r ++ [PV.bool true] ++ r' ++ [PV.bool b]).length = 11 + w + w := by simp [hEl, hrl, hrl']; omega
    have hEr4 : (E ++ r ++ [PV.bool true] ++ r' ++ [PV.bool b] ++ [PV.bool (!b)]).length = 12 + w + w := by simp [hEl, hrl, hrl']; omega
    refine r_call hb (by simp only [List.map_cons, List.map_nil, f1, f2]) rfl ?_
    simp only [List.flatten_cons, List.flatten_nil, List.append_nil]
    refine r_not (b := b) (den_at (rest := []) hEr2 rfl) ?_
    refine r_iteN (b := b) (den_at (rest := []) hEr3 rfl) (fun hbb => ?_) (fun hbb => ?_)
    · refine r_ret rfl ⟨_, rfl, ?_⟩
      subst hbb
      simp only [Bool.false_eq_true, false_iff] at hbi ⊢
      rintro rfl
      rw [hr] at hr'
      exact hbi (Option.some.inj hr')
    · refine r_add (x := i) (y := 1) (by simp only [List.append_assoc]; exact e5 _) rfl (by simp only [inR] at *; omega) ?_
      refine r_again ⟨xs.length - (i + 1), by omega, i + 1, ?_, by omega, fun j hji => ?_, rfl⟩
      · have d2 : (vf (12 + w + w)).den (E ++ r ++ [PV.bool true] ++ r' ++ [PV.bool b] ++ [PV.bool (!b)] ++ [I (i + 1)]) = I (i + 1) := den_at (rest := []) hEr4 rfl
        simp only [List.map_cons, List.map_nil, d2]
        rfl
      · by_cases hjj : j < i
        · exact hj j hjj
        · have : j = i := by omega
          subst this
          rw [hr, hr', hbi.1 hbb]
  · refine r_ret rfl ⟨_, rfl, ?_⟩
    simp only [true_iff]
    apply List.ext_getElem?
    intro j
    by_cases hjl : j < xs.length
    · exact hj j (by omega)
    · rw [List.getElem?_eq_none (by omega), List.getElem?_eq_none (by omega)]
end
end Go.Proofs.Ytkiliooegoldoaa
