/- Code as a decision tree. -/
import Derived.Test.YtkiliooegoldoaaSy3
set_option linter.unusedVariables false
set_option linter.unusedSimpArgs false
namespace Go.Proofs.Ytkiliooegoldoaa
open Go

inductive Tr where
  | ret (rs : List (List At))
  | again (L : Nat) (as : List At)
  | lett (l : Let) (t : Tr)
  | ite (a : At) (t e : Tr)
  | call (f : Nat) (as : List (List At)) (fls : List (List Bool)) (t : Tr)
  | loop (L : Nat) (inits : List At) (t : Tr)
deriving Inhabited

def updQ {α : Type} (f : Nat → α) (i : Nat) (x : α) : Nat → α := fun j => if j = i then x else f j

def wp (F : Nat → Option AFunc) (Q : List (List PV) → Prop) : Tr → (Nat → List PV → Prop) → List PV → Prop
  | .ret rs, Qs, env => Q (rs.map fun r => r.map (At.den env))
  | .again L as, Qs, env => Qs L (as.map (At.den env))
  | .lett l t, Qs, env => ∃ p, primDen l.p (l.as.map (At.den env)) = some p ∧ p.flat = l.fl ∧ wp F Q t Qs (env ++ [p])
  | .ite a t e, Qs, env => ∃ b, a.den env = .bool b ∧ if b = true then wp F Q t Qs env else wp F Q e Qs env
  | .call f as fls t, Qs, env => ∃ rs, Big F (.fn f (as.map fun r => r.map (At.den env)) rs) ∧ rs.map (fun r => r.map PV.flat) = fls ∧ wp F Q t Qs (env ++ rs.flatten)
  | .loop L inits t, Qs, env => ∃ Inv : Nat → List PV → Prop, (∃ m, Inv m (inits.map (At.den env))) ∧
      ∀ m vs, vs.map PV.flat = inits.map At.fl → Inv m vs → wp F Q t (updQ Qs L fun vs' => ∃ m', m' < m ∧ Inv m' vs') (env ++ vs)

/-! ### Bounds -/
def SCell.lt (n : Nat) : SCell → Bool
  | .val _ a => a.lt n
  | .view _ _ path => path.all fun x => x.2.1.lt n
  | .dead => true
def STV.lt (n : Nat) : STV → Bool
  | .one c => c.lt n
  | .agg cs => cs.all (SCell.lt n)
  | .box cs => cs.all (SCell.lt n)
  | .place _ _ path => path.all fun x => x.2.1.lt n
  | .ep _ _ a i _ => a.lt n && i.lt n
  | .tup vs => vs.all fun x => x.2.all (SCell.lt n)
  | .undef => true
  | .dead => true
def SSt.lt (n : Nat) (S : SSt) : Bool := S.all (STV.lt n)

theorem At.ext {env env' : List PV} {a : At} (h : a.lt env.length = true) : a.den (env ++ env') = a.den env := by
  cases a with
  | v i fl =>
    simp only [At.lt, Nat.blt_eq] at h
    simp only [At.den, List.getD_eq_getElem?_getD, List.getElem?_append_left h]
  | c p => rfl
theorem At.exts {env env' : List PV} {as : List At} (h : as.all (At.lt env.length) = true) : as.map (At.den (env ++ env')) = as.map (At.den env) := by
  rw [List.all_eq_true] at h
  exact List.map_congr_left fun a ha => At.ext (h a ha)
theorem SPath.ext {env env' : List PV} {p : SPath} (h : p.all (fun x => x.2.1.lt env.length) = true) : SPath.den (env ++ env') p = SPath.den env p := by
  rw [List.all_eq_true] at h
  exact List.map_congr_left fun a ha => by rw [At.ext (h a ha)]
theorem SCell.ext {env env' : List PV} {c : SCell} (h : c.lt env.length = true) : c.den (env ++ env') = c.den env := by
  cases c with
  | val l a => simp only [SCell.den, At.ext (show a.lt env.length = true from h)]
  | view r c path => simp only [SCell.den, SPath.ext (show path.all _ = true from h)]
  | dead => rfl
theorem SCell.exts {env env' : List PV} {cs : List SCell} (h : cs.all (SCell.lt env.length) = true) : cs.map (SCell.den (env ++ env')) = cs.map (SCell.den env) := by
  rw [List.all_eq_true] at h
  exact List.map_congr_left fun a ha => SCell.ext (h a ha)
theorem STV.ext {env env' : List PV} {v : STV} (h : v.lt env.length = true) : v.den (env ++ env') = v.den env := by
  cases v with
  | one c => simp only [STV.den, SCell.ext (show c.lt env.length = true from h)]
  | agg cs => simp only [STV.den, SCell.exts (show cs.all _ = true from h)]
  | box cs => simp only [STV.den, SCell.exts (show cs.all _ = true from h)]
  | place r c path => simp only [STV.den, SPath.ext (show path.all _ = true from h)]
  | ep l sz a i off =>
    simp only [STV.lt, Bool.and_eq_true] at h
    simp only [STV.den, At.ext h.1, At.ext h.2]
  | tup vs =>
    simp only [STV.lt, List.all_eq_true] at h
    simp only [STV.den]
    congr 1
    exact List.map_congr_left fun a ha => by rw [SCell.exts (List.all_eq_true.2 (h a ha))]
  | undef => rfl
  | dead => rfl
theorem SSt.ext {env env' : List PV} {S : SSt} (h : S.lt env.length = true) : SSt.den (env ++ env') S = SSt.den env S := by
  unfold SSt.lt at h
  rw [List.all_eq_true] at h
  exact List.map_congr_left fun a ha => STV.ext (h a ha)

def letsOk : Nat → Ls → Bool
  | _, [] => true
  | n, l :: X => l.as.all (At.lt n) && letsOk (n + 1) X
def lets : Ls → Tr → Tr
  | [], t => t
  | l :: X, t => .lett l (lets X t)
theorem lets_wp {F Q t Qs} : ∀ {X : Ls} {env : List PV}, letsOk env.length X = true → wp F Q (lets X t) Qs env → ∃ vs, vs.length = X.length ∧ Sat (env ++ vs) env.length X ∧ wp F Q t Qs (env ++ vs) := by
  intro X
  induction X with
  | nil => intro env _ h; exact ⟨[], rfl, by rw [List.append_nil]; exact Sat.nil, by rw [List.append_nil]; exact h⟩
  | cons l X ih =>
    intro env hok h
    simp only [letsOk, Bool.and_eq_true] at hok
    obtain ⟨p, h1, h2, h3⟩ := h
    obtain ⟨vs, k1, k2, k3⟩ := ih (env := env ++ [p]) (by simpa using hok.2) h3
    refine ⟨p :: vs, by simp [k1], ?_, ?_⟩
    · have he : env ++ p :: vs = (env ++ [p]) ++ vs := by simp
      intro j l' hj
      cases j with
      | zero =>
        simp only [List.getElem?_cons_zero, Option.some.injEq] at hj
        subst hj
        refine ⟨p, ?_, h2, ?_⟩
        · rw [At.exts hok.1]; exact h1
        · simp
      | succ j =>
        simp only [List.getElem?_cons_succ] at hj
        have := k2 j l' hj
        rw [← he] at this
        have hl : (env ++ [p]).length + j = env.length + (j + 1) := by simp; omega
        rw [hl] at this
        exact this
    · have he : env ++ p :: vs = (env ++ [p]) ++ vs := by simp
      rw [he]; exact k3

/-! ### A known condition -/
def At.subst (i : Nat) (fl b : Bool) : At → At
  | .v j fl' => if j = i ∧ fl' = fl then .c (.bool b) else .v j fl'
  | .c p => .c p
def SCell.subst (i : Nat) (fl b : Bool) : SCell → SCell
  | .val l a => .val l (a.subst i fl b)
  | c => c
def STV.subst (i : Nat) (fl b : Bool) : STV → STV
  | .one c => .one (c.subst i fl b)
  | .agg cs => .agg (cs.map (SCell.subst i fl b))
  | .box cs => .box (cs.map (SCell.subst i fl b))
  | v => v
def SSt.subst (i : Nat) (fl b : Bool) (S : SSt) : SSt := S.map (STV.subst i fl b)
section
variable {env : List PV} {i : Nat} {fl b : Bool} (h : (At.v i fl).den env = .bool b)
include h
theorem At.subst_den (a : At) : (a.subst i fl b).den env = a.den env := by
  cases a with
  | v j fl' =>
    by_cases hc : j = i ∧ fl' = fl
    · have : At.subst i fl b (.v j fl') = .c (.bool b) := if_pos hc
      rw [this, hc.1, hc.2, h]; rfl
    · have : At.subst i fl b (.v j fl') = .v j fl' := if_neg hc
      rw [this]
  | c p => rfl
theorem SCell.subst_den (c : SCell) : (c.subst i fl b).den env = c.den env := by
  cases c <;> simp only [SCell.subst, SCell.den, At.subst_den h]
theorem STV.subst_den (v : STV) : (v.subst i fl b).den env = v.den env := by
  cases v <;> simp [STV.subst, STV.den, SCell.subst_den h, Function.comp_def]
theorem SSt.subst_den (S : SSt) : SSt.den env (S.subst i fl b) = SSt.den env S := by
  simp [SSt.den, SSt.subst, STV.subst_den h, Function.comp_def]
end

/-! ### Guards, arguments, results -/
inductive SG where
  | yes | no
  | dyn (i : Nat) (fl want : Bool)
def sguard (S : SSt) : Option (Nat × Bool) → Option SG
  | none => some .yes
  | some (g, want) => match S.g g with
    | .one (.val _ (.c (.bool b))) => some (if b == want then .yes else .no)
    | .one (.val _ (.v i fl)) => some (.dyn i fl want)
    | .undef => some .no
    | _ => none
def SG.means (env : List PV) (S : SSt) (g : Option (Nat × Bool)) : SG → Prop
  | .yes => guardOf (SSt.den env S) g = some true
  | .no => guardOf (SSt.den env S) g = some false
  | .dyn i fl want => ∀ b, (At.v i fl).den env = .bool b → guardOf (SSt.den env S) g = some (b == want)
theorem sguard_den {env S g r} (h : sguard S g = some r) : r.means env S g := by
  cases g with
  | none =>
    simp only [sguard, Option.some.injEq] at h; subst h; rfl
  | some g =>
    obtain ⟨g, want⟩ := g
    simp only [sguard] at h
    split at h
    · rename_i l b hm
      simp only [Option.some.injEq] at h
      subst h
      have : guardOf (SSt.den env S) (some (g, want)) = some (b == want) := by simp only [guardOf, SSt.g_den, hm, STV.den, SCell.den, At.den]
      cases hb : b == want <;> rw [hb] at this <;> exact this
    · rename_i l i fl hm
      simp only [Option.some.injEq] at h
      subst h
      intro b hb
      simp only [guardOf, SSt.g_den, hm, STV.den, SCell.den, hb]
    · rename_i hm
      simp only [Option.some.injEq] at h
      subst h
      simp only [SG.means, guardOf, SSt.g_den, hm, STV.den]
    · cases h

def sargs (n : Nat) (S : SSt) (X : Ls) : List AOpnd → Option (List (Bool × List At) × Ls)
  | [] => some ([], X)
  | o :: os => (sbAny n S X o).bind fun x => (sargs n S x.2 os).map fun y => ((x.1.1, x.1.2.map (·.2)) :: y.1, y.2)
theorem sargs_den {env n S os} : ∀ {X r X'}, sargs n S X os = some (r, X') → Sat env n X' → argsOf (SSt.den env S) os = some (r.map fun x => (x.1, x.2.map (At.den env))) ∧ Sat env n X := by
  induction os with
  | nil =>
    intro X r X' h hs
    simp only [sargs, Option.some.injEq, Prod.mk.injEq] at h
    obtain ⟨rfl, rfl⟩ := h
    exact ⟨rfl, hs⟩
  | cons o os ih =>
    intro X r X' h hs
    simp only [sargs, Option.bind_eq_some_iff, Option.map_eq_some_iff, Prod.mk.injEq] at h
    obtain ⟨⟨⟨b, l⟩, X1⟩, h1, ⟨ys, X2⟩, h2, rfl, rfl⟩ := h
    obtain ⟨h3, h4⟩ := ih h2 hs
    obtain ⟨h5, h6⟩ := sbAny_den h1 h4
    refine ⟨?_, h6⟩
    simp only [argsOf, h5, Option.bind_some, h3, Option.map_some, List.map_cons, List.map_map, Function.comp_def, dLA]

def fresh (n : Nat) : List Bool → List At
  | [] => []
  | fl :: fls => .v n fl :: fresh (n + 1) fls
theorem fresh_den : ∀ {ps : List PV} {env rest : List PV}, (fresh env.length (ps.map PV.flat)).map (At.den (env ++ (ps ++ rest))) = ps := by
  intro ps
  induction ps with
  | nil => intro env rest; rfl
  | cons p ps ih =>
    intro env rest
    have h := ih (env := env ++ [p]) (rest := rest)
    simp only [List.length_append, List.length_cons, List.length_nil, List.append_assoc, List.cons_append, List.nil_append] at h
    simp only [List.map_cons, fresh, List.cons_append]
    congr 1
    simp only [At.den]
    rw [PV.coe_eq] <;> simp
theorem fresh_den' {ps env : List PV} {n : Nat} (hn : env.length = n) {fls : List Bool} (hf : ps.map PV.flat = fls) : (fresh n fls).map (At.den (env ++ ps)) = ps := by
  subst hn hf
  have := fresh_den (ps := ps) (env := env) (rest := [])
  rwa [List.append_nil] at this

def resLev' (l : Lev) (fl : Bool) : Lev := if fl then .deep else match l with
  | .deep => .deep
  | .borR => .borR
  | _ => .bor
def sresTup (n : Nat) : List (Bool × Lev) → List (List Bool) → Option (List (Bool × List SCell))
  | [], [] => some []
  | k :: ks, f :: fs => if k.1 || f.length == 1 then (sresTup (n + f.length) ks fs).map fun t => (k.1, (fresh n f).map fun a => SCell.val (resLev' k.2 a.fl) a) :: t else none
  | _, _ => none
def sresAll (n : Nat) (ks : List (Bool × Lev)) (fs : List (List Bool)) : Option STV :=
  (sresTup n ks fs).bind fun t => match t with
    | [x] => STV.ofCells x.1 x.2
    | _ => some (.tup t)
theorem sresTup_den : ∀ {ks : List (Bool × Lev)} {rs : List (List PV)} {env rest : List PV} {t}, sresTup env.length ks (rs.map fun r => r.map PV.flat) = some t →
    resTup ks rs = some (t.map fun x => (x.1, x.2.map (SCell.den (env ++ (rs.flatten ++ rest))))) := by
  intro ks
  induction ks with
  | nil =>
    intro rs env rest t h
    cases rs <;> simp [sresTup] at h
    subst h; rfl
  | cons k ks ih =>
    intro rs env rest t h
    cases rs with
    | nil => simp [sresTup] at h
    | cons r rs =>
      simp only [List.map_cons, sresTup] at h
      split at h
      · rename_i hc
        simp only [Option.map_eq_some_iff] at h
        obtain ⟨t', h1, rfl⟩ := h
        have h2 := ih (env := env ++ r) (rest := rest) (by simpa using h1)
        simp only [List.length_map] at hc
        simp only [resTup, hc, if_true, List.flatten_cons, List.append_assoc] at h2 ⊢
        rw [h2]
        simp only [Option.map_some, List.map_cons, Option.some.injEq, List.cons.injEq, Prod.mk.injEq, true_and, List.map_map, Function.comp_def, and_true]
        have h3 := fresh_den (ps := r) (env := env) (rest := rs.flatten ++ rest)
        have h4 : r.map (resCell k.2) = ((fresh env.length (r.map PV.flat)).map (At.den (env ++ (r ++ (rs.flatten ++ rest))))).map (resCell k.2) := by rw [h3]
        rw [h4, List.map_map]
        refine List.map_congr_left fun a _ => ?_
        simp only [Function.comp_def, resCell, resLev, SCell.den, resLev', At.den_flat]
        rfl
      · cases h
theorem sresAll_den {ks rs} {env : List PV} {tv} (h : sresAll env.length ks (rs.map fun r => r.map PV.flat) = some tv) : resAll ks rs = some (tv.den (env ++ rs.flatten)) := by
  simp only [sresAll, Option.bind_eq_some_iff] at h
  obtain ⟨t, h1, h2⟩ := h
  have h3 := sresTup_den (rest := []) h1
  rw [List.append_nil] at h3
  simp only [resAll, h3, Option.bind_some]
  split at h2
  · exact STV.ofCells_den h2
  · rename_i hne
    simp only [Option.some.injEq] at h2
    subst h2
    split
    · rename_i x heq
      match t, heq with
      | [y], _ => exact absurd rfl (hne y)
    · rfl

/-! ### Loops -/
def dfl (fl : Bool) : PV := if fl then .bool false else .sl 0 []
def At.inst (n : Nat) (as : List At) : At → At
  | .v i fl => if Nat.blt i n then .v i fl else match as[i - n]? with
    | some a => if a.fl = fl then a else .c (dfl fl)
    | none => .c (dfl fl)
  | .c p => .c p
def SPath.inst (n : Nat) (as : List At) (p : SPath) : SPath := p.map fun x => (x.1, x.2.1.inst n as, x.2.2)
def SCell.inst (n : Nat) (as : List At) : SCell → SCell
  | .val l a => .val l (a.inst n as)
  | .view r c path => .view r c (SPath.inst n as path)
  | .dead => .dead
def STV.inst (n : Nat) (as : List At) : STV → STV
  | .one c => .one (c.inst n as)
  | .agg cs => .agg (cs.map (SCell.inst n as))
  | .box cs => .box (cs.map (SCell.inst n as))
  | .place r c path => .place r c (SPath.inst n as path)
  | .ep l sz a i off => .ep l sz (a.inst n as) (i.inst n as) off
  | .tup vs => .tup (vs.map fun x => (x.1, x.2.map (SCell.inst n as)))
  | .undef => .undef
  | .dead => .dead
def SSt.inst (n : Nat) (as : List At) (S : SSt) : SSt := S.map (STV.inst n as)

section
variable {env ext : List PV} {as : List At}
theorem At.inst_den (a : At) : (a.inst env.length as).den (env ++ ext) = a.den (env ++ as.map (At.den (env ++ ext))) := by
  cases a with
  | v i fl =>
    simp only [At.inst]
    by_cases hi : i < env.length
    · have : Nat.blt i env.length = true := by simpa using hi
      rw [if_pos this]
      simp only [At.den, List.getD_eq_getElem?_getD, List.getElem?_append_left hi]
    · have hb : ¬ (Nat.blt i env.length = true) := by simpa using hi
      rw [if_neg hb]
      have hd : (At.v i fl).den (env ++ as.map (At.den (env ++ ext))) = PV.coe fl (((as[i - env.length]?).map (At.den (env ++ ext))).getD (.bool false)) := by
        simp only [At.den, List.getD_eq_getElem?_getD, List.getElem?_append_right (Nat.le_of_not_lt hi), List.getElem?_map]
      rw [hd]
      cases as[i - env.length]? with
      | none => cases fl <;> rfl
      | some a =>
        simp only [Option.map_some, Option.getD_some]
        split
        · rename_i hf
          rw [PV.coe_eq]
          rw [At.den_flat, hf]
        · rename_i hf
          unfold PV.coe
          rw [if_neg (by rw [At.den_flat]; exact hf)]
          cases fl <;> rfl
  | c p => rfl
theorem SPath.inst_den (p : SPath) : SPath.den (env ++ ext) (p.inst env.length as) = SPath.den (env ++ as.map (At.den (env ++ ext))) p := by
  simp [SPath.den, SPath.inst, At.inst_den, Function.comp_def]
theorem SCell.inst_den (c : SCell) : (c.inst env.length as).den (env ++ ext) = c.den (env ++ as.map (At.den (env ++ ext))) := by
  cases c <;> simp [SCell.den, SCell.inst, At.inst_den, SPath.inst_den]
theorem STV.inst_den (v : STV) : (v.inst env.length as).den (env ++ ext) = v.den (env ++ as.map (At.den (env ++ ext))) := by
  cases v <;> simp [STV.den, STV.inst, At.inst_den, SPath.inst_den, SCell.inst_den, Function.comp_def]
theorem SSt.inst_den (S : SSt) : SSt.den (env ++ ext) (S.inst env.length as) = SSt.den (env ++ as.map (At.den (env ++ ext))) S := by
  simp [SSt.den, SSt.inst, STV.inst_den, Function.comp_def]
end

/-! Are two states the same? -/
def listSame {α : Type} (f : α → α → Bool) : List α → List α → Bool
  | [], [] => true
  | x :: xs, y :: ys => f x y && listSame f xs ys
  | _, _ => false
theorem listSame_ {α : Type} {f : α → α → Bool} (hf : ∀ x y, f x y = true → x = y) : ∀ {xs ys}, listSame f xs ys = true → xs = ys := by
  intro xs
  induction xs with
  | nil => intro ys h; cases ys <;> simp [listSame] at h; rfl
  | cons x xs ih =>
    intro ys h
    cases ys with
    | nil => simp [listSame] at h
    | cons y ys =>
      simp only [listSame, Bool.and_eq_true] at h
      rw [hf _ _ h.1, ih h.2]
def PV.same : PV → PV → Bool
  | .int k a, .int k' b => decide (k = k') && a == b
  | .bool a, .bool b => a == b
  | .str a, .str b => a.data.toList == b.data.toList
  | .sl a [], .sl b [] => a == b
  | _, _ => false
theorem PV.same_ {p q : PV} (h : PV.same p q = true) : p = q := by
  unfold PV.same at h
  split at h
  · simp at h; rw [h.1, h.2]
  · simp at h; rw [h]
  · rename_i a b
    simp at h
    cases a; cases b; simp_all
  · simp at h; rw [h]
  · cases h
def At.same : At → At → Bool
  | .v i fl, .v j fl' => Nat.beq i j && fl == fl'
  | .c p, .c q => PV.same p q
  | _, _ => false
theorem At.same_ {p q : At} (h : At.same p q = true) : p = q := by
  unfold At.same at h
  split at h
  · simp at h; rw [h.1, h.2]
  · rw [PV.same_ h]
  · cases h
def pathSame : SPath → SPath → Bool := listSame fun x y => Nat.beq x.1 y.1 && x.2.1.same y.2.1 && Nat.beq x.2.2 y.2.2
theorem pathSame_ {p q} (h : pathSame p q = true) : p = q := listSame_ (fun x y h => by
  simp only [Bool.and_eq_true, Nat.beq_eq] at h
  obtain ⟨a, b, c⟩ := x
  obtain ⟨a', b', c'⟩ := y
  simp only at h
  rw [h.1.1, At.same_ h.1.2, h.2]) h
def SCell.same : SCell → SCell → Bool
  | .val l a, .val l' b => decide (l = l') && a.same b
  | .view r c p, .view r' c' p' => Nat.beq r r' && Nat.beq c c' && pathSame p p'
  | .dead, .dead => true
  | _, _ => false
theorem SCell.same_ {p q : SCell} (h : SCell.same p q = true) : p = q := by
  unfold SCell.same at h
  split at h
  · simp only [Bool.and_eq_true, decide_eq_true_eq] at h; rw [h.1, At.same_ h.2]
  · simp only [Bool.and_eq_true, Nat.beq_eq] at h; rw [h.1.1, h.1.2, pathSame_ h.2]
  · rfl
  · cases h
def STV.same : STV → STV → Bool
  | .one a, .one b => a.same b
  | .agg a, .agg b => listSame SCell.same a b
  | .box a, .box b => listSame SCell.same a b
  | .place r c p, .place r' c' p' => Nat.beq r r' && Nat.beq c c' && pathSame p p'
  | .ep l sz a i off, .ep l' sz' a' i' off' => decide (l = l') && Nat.beq sz sz' && a.same a' && i.same i' && Nat.beq off off'
  | .tup vs, .tup vs' => listSame (fun x y => x.1 == y.1 && listSame SCell.same x.2 y.2) vs vs'
  | .undef, .undef => true
  | .dead, .dead => true
  | _, _ => false
theorem STV.same_ {p q : STV} (h : STV.same p q = true) : p = q := by
  unfold STV.same at h
  split at h
  · rw [SCell.same_ h]
  · rw [listSame_ (fun _ _ => SCell.same_) h]
  · rw [listSame_ (fun _ _ => SCell.same_) h]
  · simp only [Bool.and_eq_true, Nat.beq_eq] at h; rw [h.1.1, h.1.2, pathSame_ h.2]
  · simp only [Bool.and_eq_true, decide_eq_true_eq, Nat.beq_eq] at h
    obtain ⟨⟨⟨⟨h1, h2⟩, h3⟩, h4⟩, h5⟩ := h
    rw [h1, h2, At.same_ h3, At.same_ h4, h5]
  · rw [listSame_ (fun x y h => by
      simp only [Bool.and_eq_true, beq_iff_eq] at h
      obtain ⟨a, b⟩ := x
      obtain ⟨a', b'⟩ := y
      simp only at h
      rw [h.1, listSame_ (fun _ _ => SCell.same_) h.2]) h]
  · rfl
  · rfl
  · cases h
def SSt.same : SSt → SSt → Bool := listSame STV.same
theorem SSt.same_ {p q : SSt} (h : SSt.same p q = true) : p = q := listSame_ (fun _ _ => STV.same_) h

/-! What a loop changes -/
def dstOps : List AO → List Nat
  | [] => []
  | o :: os => match o.dst with
    | some d => d :: dstOps os
    | none => dstOps os
def dsts : ACode → List Nat
  | .region os _ => dstOps os
  | .seq a b => dsts a ++ dsts b
  | .cond _ a b => dsts a ++ dsts b
  | .block _ a => dsts a
  | .loop a => dsts a
  | .pre _ a => dsts a
  | _ => []
def stores : ACode → Bool
  | .region os _ => os.any fun o => match o.op with
    | .store .. => true
    | _ => false
  | .seq a b => stores a || stores b
  | .cond _ a b => stores a || stores b
  | .block _ a => stores a
  | .loop a => stores a
  | .pre _ a => stores a
  | _ => false
/-- Cells made general: new variables from n on; what they stand for. -/
def genC (all own : Bool) (n : Nat) : SCell → SCell × List At
  | .val l a => if all || (own && !a.fl && isOwn l) then (.val l (.v n a.fl), [a]) else (.val l a, [])
  | c => (c, [])
def genCs (all own : Bool) (n : Nat) : List SCell → List SCell × List At
  | [] => ([], [])
  | c :: cs => let x := genC all own n c; let y := genCs all own (n + x.2.length) cs; (x.1 :: y.1, x.2 ++ y.2)
def genT (all own : Bool) (n : Nat) : STV → STV × List At
  | .one c => let x := genC all own n c; (.one x.1, x.2)
  | .agg cs => let x := genCs all own n cs; (.agg x.1, x.2)
  | .box cs => let x := genCs own own n cs; (.box x.1, x.2)
  | v => (v, [])
def genS (ds : List Nat) (own : Bool) (n t : Nat) : SSt → SSt × List At
  | [] => ([], [])
  | v :: S => let x := genT (ds.elem t) own n v; let y := genS ds own (n + x.2.length) (t + 1) S; (x.1 :: y.1, x.2 ++ y.2)

/-- What the new variables of a head stand for in a state. -/
def fitC (n : Nat) : SCell → SCell → List At
  | .val _ (.v i _), .val _ a => if Nat.blt i n then [] else [a]
  | _, _ => []
def fitCs (n : Nat) : List SCell → List SCell → List At
  | x :: xs, y :: ys => fitC n x y ++ fitCs n xs ys
  | _, _ => []
def fitT (n : Nat) : STV → STV → List At
  | .one x, .one y => fitC n x y
  | .agg x, .agg y => fitCs n x y
  | .box x, .box y => fitCs n x y
  | _, _ => []
def fitS (n : Nat) : SSt → SSt → List At
  | x :: xs, y :: ys => fitT n x y ++ fitS n xs ys
  | _, _ => []
end Go.Proofs.Ytkiliooegoldoaa
