/- Orders that are drawn. -/
import Derived.Test.YtkiliooegoldoaaDraw2
set_option linter.unusedVariables false
set_option linter.unusedSimpArgs false
namespace Go.Proofs.Ytkiliooegoldoaa
open Go

section
variable (P : Program) (num : Nat → FuncId) (F : Nat → Option AFunc)

/-- One operation, whatever it calls being sound. -/
def One1 (a : AO) (S S' : St) : Prop :=
  (guardOf S a.guard = some false ∧ put false S a.dst .undef = some S') ∨
  (guardOf S a.guard = some true ∧ step S a.dst a.op = some S') ∨
  ∃ k as args fd rs tv, guardOf S a.guard = some true ∧ a.op = .call k as ∧ argsOf S as = some args ∧ F k = some fd ∧ args.map (·.1) = fd.params ∧
    FnSem P (num k) fd (args.map (·.2)) rs ∧ resAll fd.rk rs = some tv ∧ put false S a.dst tv = some S'

def Ops1 : List AO → St → St → Prop
  | [], S, S' => S' = S
  | a :: as, S, S' => ∃ S1, One1 P num F a S S1 ∧ Ops1 as S1 S'
end

def gslots : Option (Nat × Bool) → List Nat
  | none => []
  | some (g, _) => [g]
def AO.R (a : AO) (R : List Nat) : List Nat := gslots a.guard ++ R ++ a.dst.toList
def AO.W (a : AO) (W : List Nat) : List Nat := W ++ a.dst.toList

section
variable {P : Program} {num : Nat → FuncId} {F : Nat → Option AFunc}

theorem one_local {a : AO} {R W : List Nat} {S T S' : St} (hf : foot a.op = some (R, W)) (hsub : ∀ t ∈ W, t ∈ R) (hA : Agree (a.R R) S T) (h : One1 P num F a S S') :
    ∃ T', One1 P num F a T T' ∧ Upd (a.W W) S S' T T' := by
  have hg : guardOf S a.guard = guardOf T a.guard := guardOf_congr fun g b e => hA.eq g (by simp [AO.R, gslots, e])
  have hA2 : Agree (R ++ a.dst.toList) S T := hA.sub (by simp [AO.R]; rintro t (ht | ht) <;> simp [ht])
  have hAd : Agree (a.W W) S T := hA2.sub (by
    intro t ht
    rcases List.mem_append.1 ht with ht | ht
    · exact List.mem_append_left _ (hsub t ht)
    · exact List.mem_append_right _ ht)
  rcases h with ⟨h1, h2⟩ | ⟨h1, h2⟩ | ⟨k, as, args, fd, rs, tv, h1, h2, h3, h4, h5, h6, h7, h8⟩
  · obtain ⟨T', k1, u⟩ := put_local hA2.r h2
    exact ⟨T', .inl ⟨hg ▸ h1, k1⟩, u.wide hAd (by simp [AO.W]; intro t ht; exact .inr ht)⟩
  · obtain ⟨T', k1, u⟩ := step_local hf hA2 h2
    exact ⟨T', .inr (.inl ⟨hg ▸ h1, k1⟩), u⟩
  · obtain ⟨T', k1, u⟩ := put_local hA2.r h8
    rw [h2] at hf
    simp only [foot, Option.some.injEq, Prod.mk.injEq] at hf
    obtain ⟨rfl, rfl⟩ := hf
    refine ⟨T', .inr (.inr ⟨k, as, args, fd, rs, tv, hg ▸ h1, h2, ?_, h4, h5, h6, h7, k1⟩), u.wide hAd (by simp [AO.W])⟩
    rw [← argsOf_congr hA2.l.eq]; exact h3

def maskOf : List Nat → Nat
  | [] => 0
  | t :: ts => 1 <<< t ||| maskOf ts
theorem maskOf_bit {l : List Nat} {t : Nat} : (maskOf l).testBit t = true ↔ t ∈ l := by
  induction l with
  | nil => simp [maskOf]
  | cons x l ih =>
    simp only [maskOf, Nat.testBit_or, Bool.or_eq_true, ih, List.mem_cons]
    rw [Nat.one_shiftLeft, Nat.testBit_two_pow]
    simp [eq_comm]
theorem apart_of {l m : List Nat} (h : maskOf l &&& maskOf m = 0) : ∀ t, t ∈ l → t ∉ m := by
  intro t h1 h2
  have : (maskOf l &&& maskOf m).testBit t = true := by
    rw [Nat.testBit_and, maskOf_bit.2 h1, maskOf_bit.2 h2]; rfl
  rw [h] at this
  simp at this

/-- Two operations, in whatever order. -/
structure Fp where
  r : Nat
  w : Nat
def fpOf (a : AO) : Option Fp :=
  match foot a.op with
  | some (R, W) => if maskOf W &&& maskOf R = maskOf W then some ⟨maskOf (a.R R), maskOf (a.W W)⟩ else none
  | none => none
def indep (x y : Option Fp) : Bool :=
  match x, y with
  | some x, some y => x.w &&& y.r == 0 && y.w &&& x.r == 0
  | _, _ => false

theorem St.ext_ {S T : St} (hl : S.length = T.length) (h : ∀ t, S.g t = T.g t) : S = T := by
  apply List.ext_getElem?
  intro i
  have := h i
  unfold St.g at this
  rw [List.getD_eq_getElem?_getD, List.getD_eq_getElem?_getD] at this
  by_cases hi : i < S.length
  · rw [List.getElem?_eq_getElem hi, List.getElem?_eq_getElem (by omega)] at this ⊢
    simpa using this
  · rw [List.getElem?_eq_none (by omega), List.getElem?_eq_none (by omega)]

theorem fpOf_ {a : AO} {f : Fp} (h : fpOf a = some f) : ∃ R W, foot a.op = some (R, W) ∧ (∀ t ∈ W, t ∈ R) ∧ f.r = maskOf (a.R R) ∧ f.w = maskOf (a.W W) := by
  unfold fpOf at h
  split at h
  · rename_i R W hf
    split at h
    · rename_i hm
      injection h with h
      refine ⟨R, W, hf, fun t ht => ?_, by rw [← h], by rw [← h]⟩
      have h1 := maskOf_bit.2 ht
      rw [← hm, Nat.testBit_and, Bool.and_eq_true] at h1
      exact maskOf_bit.1 h1.2
    · cases h
  · cases h

theorem commute {a b : AO} {S S1 S2 : St} (hi : indep (fpOf a) (fpOf b) = true) (h1 : One1 P num F a S S1) (h2 : One1 P num F b S1 S2) : ∃ T1, One1 P num F b S T1 ∧ One1 P num F a T1 S2 := by
  unfold indep at hi
  split at hi
  case h_2 => cases hi
  rename_i x y hx hy
  obtain ⟨Ra, Wa, fa, sa, ra, wa⟩ := fpOf_ hx
  obtain ⟨Rb, Wb, fb, sb, rb, wb⟩ := fpOf_ hy
  simp only [Bool.and_eq_true, beq_iff_eq] at hi
  rw [wa, rb] at hi
  rw [wb, ra] at hi
  have ab := apart_of hi.1
  have ba := apart_of hi.2
  have subW : ∀ {c : AO} {R W : List Nat}, (∀ t ∈ W, t ∈ R) → ∀ t ∈ c.W W, t ∈ c.R R := by
    intro c R W hs t ht
    rcases List.mem_append.1 ht with ht | ht
    · exact List.mem_append_left _ (List.mem_append_right _ (hs t ht))
    · exact List.mem_append_right _ ht
  obtain ⟨S1', k0, u0⟩ := one_local fa sa (T := S) ⟨rfl, fun _ _ => rfl⟩ h1
  -- what the first one leaves alone
  have off0 : ∀ t, t ∉ a.W Wa → S1.g t = S.g t := fun t ht => (u0.off t ht).2
  obtain ⟨T1, k1, u1⟩ := one_local fb sb (T := S) ⟨u0.lenS, fun t ht => off0 t fun hw => ab t hw ht⟩ h2
  obtain ⟨T2, k2, u2⟩ := one_local fa sa (S := S) (T := T1) ⟨u1.lenT.symm, fun t ht => ((u1.off t fun hw => ba t hw ht).1).symm⟩ h1
  have e : T2 = S2 := by
    apply St.ext_
    · rw [u2.lenT, u1.lenT, u1.lenS, u0.lenS]
    · intro t
      by_cases hta : t ∈ a.W Wa
      · rw [u2.on t hta]
        have : t ∉ b.W Wb := fun hw => ab t hta (subW sb t hw)
        rw [(u1.off t this).2]
      · rw [(u2.off t hta).1]
        by_cases htb : t ∈ b.W Wb
        · exact u1.on t htb
        · rw [(u1.off t htb).1, (u1.off t htb).2, off0 t hta]
  subst e
  exact ⟨T1, k1, k2⟩

theorem moveFront {a : AO} {L2 : List AO} : ∀ {L1 : List AO} {S S' : St}, (∀ b ∈ L1, indep (fpOf b) (fpOf a) = true) → Ops1 P num F (L1 ++ a :: L2) S S' → Ops1 P num F (a :: (L1 ++ L2)) S S' := by
  intro L1
  induction L1 with
  | nil => intro S S' _ h; exact h
  | cons b L1 ih =>
    intro S S' hi h
    obtain ⟨S1, h1, h2⟩ := h
    obtain ⟨S2, k1, k2⟩ := ih (fun c hc => hi c (by simp [hc])) h2
    obtain ⟨T1, m1, m2⟩ := commute (hi b (by simp)) h1 k1
    exact ⟨T1, m1, S2, m2, k2⟩

/-! ### The orders that the edges leave open -/
def predsOf (o : Oper) : List Nat := (o.after.toList.filter (Region.binds .any)).map (·.on)
def ancMask (tab : List Nat) : List Nat → Nat
  | [] => 0
  | p :: ps => 1 <<< p ||| (tab.getD p 0 ||| ancMask tab ps)
theorem ancMask_bit {tab : List Nat} {j : Nat} : ∀ {ps : List Nat}, (ancMask tab ps).testBit j = true → j ∈ ps ∨ ∃ p ∈ ps, (tab.getD p 0).testBit j = true := by
  intro ps
  induction ps with
  | nil => intro h; simp [ancMask] at h
  | cons p ps ih =>
    intro h
    simp only [ancMask, Nat.testBit_or, Bool.or_eq_true] at h
    rcases h with h | h | h
    · rw [Nat.one_shiftLeft, Nat.testBit_two_pow] at h
      simp at h
      exact .inl (by simp [h])
    · exact .inr ⟨p, by simp, h⟩
    · rcases ih h with h | ⟨q, h1, h2⟩
      · exact .inl (by simp [h])
      · exact .inr ⟨q, by simp [h1], h2⟩

def mkTab : List Oper → List Nat → List Nat
  | [], tab => tab
  | o :: os, tab => mkTab os (tab ++ [ancMask tab (predsOf o)])
/-- Each row of the table is what the edges say; the edges lead back. -/
def chkTab (tab : List Nat) : Nat → List Oper → Bool
  | _, [] => true
  | i, o :: os => (predsOf o).all (fun p => decide (p < i)) && ancMask tab (predsOf o) == tab.getD i 0 && chkTab tab (i + 1) os
/-- Two operations that no edge orders are free of each other. -/
def chkPair (m : Nat) (f : Option Fp) : Nat → List (Option Fp) → Bool
  | _, [] => true
  | j, g :: gs => (m.testBit j || indep g f) && chkPair m f (j + 1) gs
def chkPairs (tab : List Nat) : Nat → List (Option Fp) → List (Option Fp) → Bool
  | _, _, [] => true
  | i, done, f :: fs => chkPair (tab.getD i 0) f 0 done && chkPairs tab (i + 1) (done ++ [f]) fs
def drawOk (os : List AO) (ops : List Oper) : Bool :=
  let tab := mkTab ops []
  chkTab tab 0 ops && chkPairs tab 0 [] (os.map fpOf)

theorem chkTab_ {tab : List Nat} : ∀ {ops : List Oper} {i : Nat}, chkTab tab i ops = true → ∀ (k : Nat) o, ops[k]? = some o → (∀ p ∈ predsOf o, p < i + k) ∧ ancMask tab (predsOf o) = tab.getD (i + k) 0 := by
  intro ops
  induction ops with
  | nil => intro i _ k o h; simp at h
  | cons o os ih =>
    intro i h k o' ho
    simp only [chkTab, Bool.and_eq_true, beq_iff_eq, List.all_eq_true, decide_eq_true_eq] at h
    cases k with
    | zero => simp at ho; subst ho; exact ⟨h.1.1, h.1.2⟩
    | succ k =>
      have := ih h.2 k o' (by simpa using ho)
      rw [show i + (k + 1) = i + 1 + k from by omega]
      exact this
theorem chkPair_ {m : Nat} {f : Option Fp} : ∀ {gs : List (Option Fp)} {j : Nat}, chkPair m f j gs = true → ∀ (k : Nat) g, gs[k]? = some g → m.testBit (j + k) = true ∨ indep g f = true := by
  intro gs
  induction gs with
  | nil => intro j _ k g h; simp at h
  | cons g gs ih =>
    intro j h k g' hg
    simp only [chkPair, Bool.and_eq_true, Bool.or_eq_true] at h
    cases k with
    | zero => simp at hg; subst hg; exact h.1
    | succ k =>
      have := ih h.2 k g' (by simpa using hg)
      rw [show j + (k + 1) = j + 1 + k from by omega]
      exact this
theorem chkPairs_ {tab : List Nat} : ∀ {fs done : List (Option Fp)} {i : Nat}, done.length = i → chkPairs tab i done fs = true → ∀ (k : Nat) f, fs[k]? = some f → ∀ (j : Nat) g, j < i + k → (done ++ fs)[j]? = some g → (tab.getD (i + k) 0).testBit j = true ∨ indep g f = true := by
  intro fs
  induction fs with
  | nil => intro done i _ _ k f h; simp at h
  | cons f fs ih =>
    intro done i hl h k f' hf j g hj hg
    simp only [chkPairs, Bool.and_eq_true] at h
    cases k with
    | zero =>
      simp at hf; subst hf
      rw [List.getElem?_append_left (by omega)] at hg
      have := chkPair_ h.1 j g hg
      simpa using this
    | succ k =>
      have := ih (done := done ++ [f]) (i := i + 1) (by simp [hl]) h.2 k f' (by simpa using hf) j g (by omega) (by simpa using hg)
      rw [show i + (k + 1) = i + 1 + k from by omega]
      exact this
end
end Go.Proofs.Ytkiliooegoldoaa
