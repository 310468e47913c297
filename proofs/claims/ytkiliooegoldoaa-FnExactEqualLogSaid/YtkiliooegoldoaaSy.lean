/- Programs without memory: symbolic states, and one operation on them. -/
import Derived.Test.YtkiliooegoldoaaWp
set_option linter.unusedVariables false
set_option linter.unusedSimpArgs false
namespace Go.Proofs.Ytkiliooegoldoaa
open Go

def PV.coe (fl : Bool) (p : PV) : PV := if p.flat = fl then p else if fl then .bool false else .sl 0 []
theorem PV.coe_flat {fl : Bool} {p : PV} : (PV.coe fl p).flat = fl := by
  unfold PV.coe
  split
  · assumption
  · cases fl <;> rfl
theorem PV.coe_eq {fl : Bool} {p : PV} (h : p.flat = fl) : PV.coe fl p = p := by simp [PV.coe, h]

/-- An atom: a variable (number, flat or not), or a constant. -/
inductive At where
  | v (i : Nat) (fl : Bool)
  | c (p : PV)
deriving Inhabited
def At.den (env : List PV) : At → PV
  | .v i fl => PV.coe fl (env.getD i (.bool false))
  | .c p => p
def At.fl : At → Bool
  | .v _ fl => fl
  | .c p => p.flat
def At.lt (n : Nat) : At → Bool
  | .v i _ => Nat.blt i n
  | .c _ => true
theorem At.den_flat {env : List PV} {a : At} : (a.den env).flat = a.fl := by
  cases a
  · exact PV.coe_flat
  · rfl

def idxNat : PV → Nat
  | .int _ n => n.toNat
  | _ => 0
abbrev SPath := List (Nat × At × Nat)
def SPath.den (env : List PV) (p : SPath) : Path := p.map fun x => (x.1, idxNat (x.2.1.den env), x.2.2)

inductive SCell where
  | val (l : Lev) (a : At)
  | view (r c : Nat) (path : SPath)
  | dead
deriving Inhabited
def SCell.den (env : List PV) : SCell → Cell
  | .val l a => .val l (a.den env)
  | .view r c path => .view r c (SPath.den env path)
  | .dead => .dead

inductive STV where
  | one (c : SCell)
  | agg (cs : List SCell)
  | box (cs : List SCell)
  | place (r c : Nat) (path : SPath)
  | ep (l : Lev) (sz : Nat) (a i : At) (off : Nat)
  | tup (vs : List (Bool × List SCell))
  | undef
  | dead
deriving Inhabited
def rowOf (p : PV) (i : Nat) : List PV := match p with
  | .sl _ xs => xs.getD i []
  | _ => []
def STV.den (env : List PV) : STV → TV
  | .one c => .one (c.den env)
  | .agg cs => .agg (cs.map (SCell.den env))
  | .box cs => .box (cs.map (SCell.den env))
  | .place r c path => .place r c (SPath.den env path)
  | .ep l sz a i off => .ep l (rowOf (a.den env) (idxNat (i.den env))) off
  | .tup vs => .tup (vs.map fun x => (x.1, x.2.map (SCell.den env)))
  | .undef => .undef
  | .dead => .dead
abbrev SSt := List STV
def SSt.g (S : SSt) (t : Nat) : STV := S.getD t .dead
def SSt.den (env : List PV) (S : SSt) : St := S.map (STV.den env)

/-! ### Primitives: what makes a new value; none where a bound or a size fails -/
inductive Prim where
  | bin (op : BinOp)
  | eqB (neg : Bool)
  | eqAgg (neg : Bool) (ks : List Nat)
  | un (op : UnOp)
  | conv (k : IntKind)
  | make (sz : Nat) (zs : List PV)
  | subS (lo hi : Bool)
  | sub (sz : Nat) (lo hi mx : Bool)
  | len
  | lenS
  | ix
  | inb (sz : Nat)
  | get (ps : List (Nat × Nat))
  | app (sz bytes : Nat) (c1 c2 : Bool)
  | mk (sz : Nat) (rows : List Nat)
  | set (ps : List (Nat × Nat))
  | max
  | min
  | pick
deriving Inhabited

structure Let where
  p : Prim
  as : List At
  fl : Bool
deriving Inhabited

def nat? : PV → Option Nat
  | .int _ n => if 0 ≤ n then some n.toNat else none
  | _ => none
def optArg (b : Bool) (d : Nat) (l : List PV) : Option (Nat × List PV) :=
  if b then match l with
    | [] => none
    | x :: xs => (nat? x).map fun n => (n, xs)
  else some (d, l)
def zipPath : List (Nat × Nat) → List PV → Path
  | (s, c) :: ps, i :: is => (s, idxNat i, c) :: zipPath ps is
  | _, _ => []
def splitBy {α : Type} : List Nat → List α → List (List α)
  | [], _ => []
  | n :: ns, l => l.take n :: splitBy ns (l.drop n)

def primDen (p : Prim) (as : List PV) : Option PV :=
  match p with
  | .bin op => match as with
    | [a, b] => binS op a b
    | _ => none
  | .eqB neg => match as with
    | [.bool a, .bool b] => some (.bool (if neg then !(a == b) else a == b))
    | _ => none
  | .eqAgg neg ks => if (as.take ks.length).map PV.kind = ks then
      (sameCells ((as.take ks.length).map fun p => (Lev.deep, p)) ((as.drop ks.length).map fun p => (Lev.deep, p))).map fun r => .bool (if neg then !r else r) else none
  | .un op => match as with
    | [a] => unS op a
    | _ => none
  | .conv k => match as with
    | [.int _ n] => some (.int k (k.wrap n))
    | _ => none
  | .make sz zs => match as with
    | [n] => (nat? n).bind fun n => if n ≤ 1099511627776 then some (.sl sz (List.replicate n zs)) else none
    | _ => none
  | .subS lo hi => match as with
    | .str s :: as => (optArg lo 0 as).bind fun x => (optArg hi s.size x.2).bind fun y => if x.1 ≤ y.1 ∧ y.1 ≤ s.size then some (.str (s.extract x.1 y.1)) else none
    | _ => none
  | .sub sz lo hi mx => match as with
    | .sl sz' xs :: as => (optArg lo 0 as).bind fun x => (optArg hi xs.length x.2).bind fun y => (optArg mx xs.length y.2).bind fun z =>
      if sz' = sz ∧ x.1 ≤ y.1 ∧ y.1 ≤ z.1 ∧ z.1 ≤ xs.length then some (.sl sz ((xs.drop x.1).take (y.1 - x.1))) else none
    | _ => none
  | .len => match as with
    | [.sl _ xs] => some (.int .i64 xs.length)
    | _ => none
  | .lenS => match as with
    | [.str s] => some (.int .i64 s.size)
    | _ => none
  | .ix => match as with
    | [.str s, i] => (nat? i).bind fun i => (s[i]?).map fun b => .int .u8 b.toNat
    | _ => none
  | .inb sz => match as with
    | [.sl sz' xs, i] => (nat? i).bind fun i => if sz' = sz ∧ i < xs.length then some (.bool true) else none
    | _ => none
  | .get ps => match as with
    | a :: is => pget a (zipPath ps is)
    | _ => none
  | .app sz bytes c1 c2 => match as with
    | [.sl sz1 xs, .sl sz2 ys] => if sz1 = sz ∧ sz2 = sz ∧ (c1 = true → flatRows xs = true) ∧ (c2 = true → flatRows ys = true) ∧ (xs.length + ys.length) * bytes ≤ 140737488355328 then some (.sl sz (xs ++ ys)) else none
    | _ => none
  | .mk sz rows => some (.sl sz (splitBy rows as))
  | .set ps => match as with
    | a :: is => pset a (zipPath ps is) (is.drop ps.length)
    | _ => none
  | .max => match as with
    | [.int k a, .int k' b] => if k = k' then some (.int k (if b > a then b else a)) else none
    | _ => none
  | .min => match as with
    | [.int k a, .int k' b] => if k = k' then some (.int k (if b < a then b else a)) else none
    | _ => none
  | .pick => match as with
    | [.bool c, a, b] => some (if c then a else b)
    | _ => none

abbrev Ls := List Let
def nw (n : Nat) (X : Ls) (fl : Bool) : At := .v (n + X.length) fl
def Let.holds (env : List PV) (i : Nat) (l : Let) : Prop := ∃ p, primDen l.p (l.as.map (At.den env)) = some p ∧ p.flat = l.fl ∧ env.getD i (.bool false) = p
def Sat (env : List PV) (n : Nat) (X : Ls) : Prop := ∀ (j : Nat) l, X[j]? = some l → l.holds env (n + j)

theorem Sat.nil {env n} : Sat env n [] := by intro j l h; simp at h
theorem Sat.pre {env n X l} (h : Sat env n (X ++ [l])) : Sat env n X := fun j l' hj => h j l' (by
  rw [List.getElem?_append_left (List.getElem?_eq_some_iff.1 hj).1]; exact hj)
theorem Sat.last {env n X p as fl} (h : Sat env n (X ++ [⟨p, as, fl⟩])) : primDen p (as.map (At.den env)) = some ((nw n X fl).den env) ∧ ((nw n X fl).den env).flat = fl := by
  obtain ⟨q, h1, h2, h3⟩ := h X.length ⟨p, as, fl⟩ (by simp)
  refine ⟨?_, At.den_flat⟩
  show _ = some (PV.coe fl (env.getD (n + X.length) (.bool false)))
  rw [h3, PV.coe_eq h2]; exact h1

/-! ### The state's functions -/
def borL' (l : Lev) (fl : Bool) : Lev := if fl then .deep else match l with | .old => .old | _ => .bor
theorem borL'_eq {l : Lev} {p : PV} : borL l p = borL' l p.flat := rfl
def SCell.fl : SCell → Bool
  | .val _ a => a.fl
  | _ => false

def smapTV (f : SCell → SCell) (h : Nat → Nat → Bool → Bool) (b : Bool) : STV → STV
  | .one c => .one (f c)
  | .agg cs => .agg (cs.map f)
  | .box cs => .box (cs.map f)
  | .place r c path => if h r c path.isEmpty then .dead else .place r c path
  | .ep l sz a i off => if b && (l != .old) then .dead else .ep l sz a i off
  | .tup vs => .tup (vs.map fun x => (x.1, x.2.map f))
  | .undef => .undef
  | .dead => .dead
theorem smapTV_den {env : List PV} {f : Cell → Cell} {h : Nat → Nat → Path → Bool} {sf : SCell → SCell} {sh : Nat → Nat → Bool → Bool} {b : Bool}
    (hf : ∀ c, (sf c).den env = f (c.den env)) (hh : ∀ r c path, h r c path = sh r c path.isEmpty) (tv : STV) : (smapTV sf sh b tv).den env = mapTV f h b (tv.den env) := by
  cases tv with
  | place r c path =>
    have : (SPath.den env path).isEmpty = path.isEmpty := by simp [SPath.den]
    simp only [smapTV, apply_ite (STV.den env)]; simp only [mapTV, STV.den, hh, this]
  | ep l sz a i off => simp only [smapTV, apply_ite (STV.den env)]; simp only [mapTV, STV.den]
  | _ => simp [smapTV, mapTV, STV.den, hf, Function.comp_def]

def skillRootC (r : Nat) : SCell → SCell
  | .view r' c path => if r' = r then .dead else .view r' c path
  | c => c
def skillRoot (r : Nat) (S : SSt) : SSt := S.map (smapTV (skillRootC r) (fun r' _ _ => r' == r) false)
theorem skillRootC_den {env r} (c : SCell) : (skillRootC r c).den env = killRootC r (c.den env) := by
  cases c <;> simp only [skillRootC, apply_ite (SCell.den env)] <;> simp only [killRootC, SCell.den]
theorem map_den_comm {env : List PV} {sf : STV → STV} {f : TV → TV} (h : ∀ tv, (sf tv).den env = f (tv.den env)) (S : SSt) : SSt.den env (S.map sf) = (SSt.den env S).map f := by
  simp [SSt.den, Function.comp_def, h]
theorem skillRoot_den {env r} (S : SSt) : SSt.den env (skillRoot r S) = killRoot r (SSt.den env S) :=
  map_den_comm (smapTV_den skillRootC_den fun _ _ _ => rfl) S

def skillBoxC (r c n : Nat) : SCell → SCell
  | .view r' c' path => if r' = r ∧ c ≤ c' ∧ c' < c + n then .dead else .view r' c' path
  | x => x
def skillBox (r c n : Nat) (S : SSt) : SSt :=
  S.map (smapTV (skillBoxC r c n) (fun r' c' e => r' == r && decide (c ≤ c') && decide (c' < c + n) && !e) false)
theorem skillBoxC_den {env r c n} (x : SCell) : (skillBoxC r c n x).den env = killBoxC r c n (x.den env) := by
  cases x <;> simp only [skillBoxC, apply_ite (SCell.den env)] <;> simp only [killBoxC, SCell.den]
theorem skillBox_den {env r c n} (S : SSt) : SSt.den env (skillBox r c n S) = killBox r c n (SSt.den env S) :=
  map_den_comm (smapTV_den skillBoxC_den fun _ _ _ => rfl) S

def skillElemC (r c : Nat) : SCell → SCell
  | .val l a => if a.fl || !isBorrow l then .val l a else .dead
  | .view r' c' path' => if r' = r ∧ c' = c ∧ path'.isEmpty = false then .dead else .view r' c' path'
  | .dead => .dead
def skillElem (r c : Nat) (S : SSt) : SSt := S.map (smapTV (skillElemC r c) (fun r' c' e => r' == r && c' == c && !e) true)
theorem skillElemC_den {env r c k} (x : SCell) : (skillElemC r c x).den env = killElemC r c k (x.den env) := by
  cases x with
  | val l a =>
    simp only [skillElemC, apply_ite (SCell.den env)]; simp only [killElemC, SCell.den, At.den_flat]
  | view r' c' path =>
    have : (SPath.den env path).isEmpty = path.isEmpty := by simp [SPath.den]
    simp only [skillElemC, apply_ite (SCell.den env)]; simp only [killElemC, SCell.den, this]
  | dead => rfl
theorem skillElem_den {env r c k} (S : SSt) : SSt.den env (skillElem r c S) = killElem r c k (SSt.den env S) :=
  map_den_comm (smapTV_den skillElemC_den fun _ _ _ => rfl) S

theorem SSt.g_den {env : List PV} {S : SSt} {t : Nat} : (SSt.den env S).g t = (S.g t).den env := by
  unfold St.g SSt.g SSt.den
  simp only [List.getD_eq_getElem?_getD, List.getElem?_map]
  cases S[t]? <;> rfl
theorem SSt.set_den {env : List PV} {S : SSt} {t : Nat} {v : STV} : SSt.den env (S.set t v) = (SSt.den env S).set t (v.den env) := by
  simp [SSt.den, List.map_set]

def srootCell (S : SSt) (r c : Nat) : SCell :=
  match S.g r with
  | .one x => if c = 0 then x else .dead
  | .agg cs => cs.getD c .dead
  | .box cs => cs.getD c .dead
  | _ => .dead
theorem getD_den {env : List PV} {cs : List SCell} {c : Nat} : (cs.map (SCell.den env)).getD c .dead = (cs.getD c .dead).den env := by
  simp only [List.getD_eq_getElem?_getD, List.getElem?_map]
  cases cs[c]? <;> rfl
theorem srootCell_den {env S r c} : rootCell (SSt.den env S) r c = (srootCell S r c).den env := by
  unfold rootCell srootCell
  rw [SSt.g_den]
  cases S.g r <;> simp only [STV.den, getD_den] <;> try rfl
  split <;> rfl

def ssetRoot (S : SSt) (r c : Nat) (x : SCell) : SSt :=
  match S.g r with
  | .one _ => S.set r (.one x)
  | .agg cs => S.set r (.agg (cs.set c x))
  | .box cs => S.set r (.box (cs.set c x))
  | _ => S
theorem ssetRoot_den {env S r c x} : SSt.den env (ssetRoot S r c x) = setRoot (SSt.den env S) r c (x.den env) := by
  unfold setRoot ssetRoot
  rw [SSt.g_den]
  cases S.g r <;> simp [STV.den, SSt.set_den, List.map_set]

def srootishC : SCell → Bool
  | .val _ a => !a.fl
  | .view .. => false
  | .dead => true
def srootish : STV → Bool
  | .one c => srootishC c
  | .agg cs => cs.any srootishC
  | .box _ => true
  | _ => false
theorem srootishC_den {env} (c : SCell) : rootishC (c.den env) = srootishC c := by
  cases c <;> simp [srootishC, rootishC, SCell.den, At.den_flat]
theorem srootish_den {env} (v : STV) : rootish (v.den env) = srootish v := by
  cases v <;> simp [srootish, rootish, STV.den, srootishC_den, Function.comp_def]

def sput (g : Bool) (S : SSt) (d : Option Nat) (v : STV) : Option SSt :=
  match d with
  | none => some S
  | some d => if g then some ((skillRoot d S).set d (smapTV (skillRootC d) (fun r' _ _ => r' == d) false v)) else if srootish (S.g d) then none else some (S.set d v)
theorem sput_den {env g S d v S'} (h : sput g S d v = some S') : put g (SSt.den env S) d (v.den env) = some (SSt.den env S') := by
  unfold sput at h
  unfold put
  cases d with
  | none => simp at h ⊢; rw [h]
  | some d =>
    simp only [SSt.g_den, srootish_den] at h ⊢
    split at h
    · simp only [Option.some.injEq] at h
      rw [← h, SSt.set_den, skillRoot_den, smapTV_den (skillRootC_den (r := d)) (fun _ _ _ => rfl)]
      simp [*]
    · split at h
      · cases h
      · rename_i hg hr
        simp only [Option.some.injEq] at h
        rw [if_neg hg, if_neg hr, ← h, SSt.set_den]

def skillSlot (S : SSt) (t : Nat) : SSt := if srootish (S.g t) then (skillRoot t S).set t .dead else S.set t .dead
def skillSlots (S : SSt) : List Nat → SSt
  | [] => S
  | t :: ts => skillSlots (skillSlot S t) ts
theorem skillSlot_den {env S t} : SSt.den env (skillSlot S t) = killSlot (SSt.den env S) t := by
  unfold skillSlot killSlot
  rw [SSt.g_den, srootish_den]
  split <;> simp [SSt.set_den, skillRoot_den, STV.den]
theorem skillSlots_den {env ts} : ∀ {S}, SSt.den env (skillSlots S ts) = killSlots (SSt.den env S) ts := by
  induction ts with
  | nil => intro S; rfl
  | cons t ts ih => intro S; simp only [skillSlots, killSlots, ih, skillSlot_den]
def spseudo (S : SSt) : List Pseudo → Option SSt
  | [] => some S
  | .kill ts :: ps => spseudo (skillSlots S ts) ps
  | .relev .. :: _ => none
theorem spseudo_den {env ps} : ∀ {S S'}, spseudo S ps = some S' → pseudo (SSt.den env S) ps = some (SSt.den env S') := by
  induction ps with
  | nil => intro S S' h; simp [spseudo, pseudo] at h ⊢; rw [h]
  | cons p ps ih =>
    intro S S' h
    cases p with
    | kill ts => simp only [spseudo, pseudo] at h ⊢; rw [← skillSlots_den]; exact ih h
    | relev => simp [spseudo] at h

/-! ### Reading -/
def spathP (p : SPath) : List (Nat × Nat) := p.map fun x => (x.1, x.2.2)
def spathI (p : SPath) : List At := p.map fun x => x.2.1
theorem zipPath_den {env : List PV} : ∀ (p : SPath) (rest : List PV), zipPath (spathP p) ((spathI p).map (At.den env) ++ rest) = SPath.den env p := by
  intro p rest
  induction p with
  | nil => cases rest <;> rfl
  | cons x p ih => exact congrArg (List.cons (x.1, idxNat (x.2.1.den env), x.2.2)) ih

def sbCell (n : Nat) (S : SSt) (rs : List Nat) (X : Ls) : SCell → Option ((Lev × At) × Ls)
  | .val l a => some ((borL' l a.fl, a), X)
  | .view r c [] =>
    if rs.elem r then match srootCell S r c with
      | .val _ a => some ((borL' .bor a.fl, a), X)
      | _ => none
    else none
  | .view r c (x :: path) =>
    if rs.elem r then match srootCell S r c with
      | .val _ a => some ((.bor, nw n X false), X ++ [⟨.get (spathP (x :: path)), a :: spathI (x :: path), false⟩])
      | _ => none
    else none
  | .dead => none
def dLA (env : List PV) (x : Lev × At) : Lev × PV := (x.1, x.2.den env)
theorem sbCell_den {env n S rs X c r X'} (h : sbCell n S rs X c = some (r, X')) (hs : Sat env n X') : bCell (SSt.den env S) rs (c.den env) = some (dLA env r) ∧ Sat env n X := by
  unfold sbCell at h
  split at h
  · rename_i l a
    simp only [Option.some.injEq, Prod.mk.injEq] at h
    obtain ⟨h, rfl⟩ := h
    subst h
    exact ⟨by simp [bCell, SCell.den, dLA, borL'_eq, At.den_flat], hs⟩
  · rename_i r' c'
    split at h
    · rename_i hr
      split at h
      · rename_i l a ha
        simp only [Option.some.injEq, Prod.mk.injEq] at h
        obtain ⟨h, rfl⟩ := h
        subst h
        refine ⟨?_, hs⟩
        simp only [bCell, SCell.den, srootCell_den, ha, hr, if_true, SPath.den, List.map_nil, pget, Option.map_some, dLA, borL'_eq, At.den_flat]
      · cases h
    · cases h
  · rename_i r' c' x path
    split at h
    · rename_i hr
      split at h
      · rename_i l a ha
        simp only [Option.some.injEq, Prod.mk.injEq] at h
        obtain ⟨h, rfl⟩ := h
        subst h
        obtain ⟨h1, h2⟩ := hs.last
        refine ⟨?_, hs.pre⟩
        simp only [primDen, List.map_cons] at h1
        have hz := zipPath_den (env := env) (x :: path) []
        rw [List.append_nil] at hz
        simp only [bCell, SCell.den, srootCell_den, ha, hr, if_true]
        rw [← hz]
        have h1' : pget (At.den env a) (zipPath (spathP (x :: path)) (List.map (At.den env) (spathI (x :: path)))) = some ((nw n X false).den env) := h1
        rw [h1']
        simp [dLA, borL'_eq, h2, borL']
      · cases h
    · cases h
  · cases h

def sbCells (n : Nat) (S : SSt) (rs : List Nat) (X : Ls) : List SCell → Option (List (Lev × At) × Ls)
  | [] => some ([], X)
  | c :: cs => (sbCell n S rs X c).bind fun x => (sbCells n S rs x.2 cs).map fun y => (x.1 :: y.1, y.2)
theorem sbCells_den {env n S rs cs} : ∀ {X r X'}, sbCells n S rs X cs = some (r, X') → Sat env n X' → bCells (SSt.den env S) rs (cs.map (SCell.den env)) = some (r.map (dLA env)) ∧ Sat env n X := by
  induction cs with
  | nil =>
    intro X r X' h hs
    simp only [sbCells, Option.some.injEq, Prod.mk.injEq] at h
    obtain ⟨rfl, rfl⟩ := h
    exact ⟨rfl, hs⟩
  | cons c cs ih =>
    intro X r X' h hs
    simp only [sbCells, Option.bind_eq_some_iff, Option.map_eq_some_iff] at h
    obtain ⟨⟨x, X1⟩, hx, ⟨y, X2⟩, hy, he⟩ := h
    simp only [Prod.mk.injEq] at he
    obtain ⟨rfl, rfl⟩ := he
    obtain ⟨h1, h2⟩ := ih hy hs
    obtain ⟨h3, h4⟩ := sbCell_den hx h2
    exact ⟨by simp [bCells, h3, h1], h4⟩

def sbOne (n : Nat) (S : SSt) (X : Ls) : AOpnd → Option ((Lev × At) × Ls)
  | .c p => some ((.deep, .c p), X)
  | .t m rs => match S.g m with
    | .one c => sbCell n S rs X c
    | _ => none
theorem sbOne_den {env n S X o r X'} (h : sbOne n S X o = some (r, X')) (hs : Sat env n X') : bOne (SSt.den env S) o = some (dLA env r) ∧ Sat env n X := by
  unfold sbOne at h
  split at h
  · simp only [Option.some.injEq, Prod.mk.injEq] at h
    obtain ⟨h, rfl⟩ := h
    subst h
    exact ⟨rfl, hs⟩
  · split at h
    · rename_i m rs c hc
      obtain ⟨h1, h2⟩ := sbCell_den h hs
      refine ⟨?_, h2⟩
      simp only [bOne, SSt.g_den, hc, STV.den]
      exact h1
    · cases h

def sbAny (n : Nat) (S : SSt) (X : Ls) : AOpnd → Option ((Bool × List (Lev × At)) × Ls)
  | .c p => some ((false, [(.deep, .c p)]), X)
  | .t m rs => match S.g m with
    | .one c => (sbCell n S rs X c).map fun x => ((false, [x.1]), x.2)
    | .agg cs => (sbCells n S rs X cs).map fun x => ((true, x.1), x.2)
    | _ => none
theorem sbAny_den {env n S X o r X'} (h : sbAny n S X o = some (r, X')) (hs : Sat env n X') : bAny (SSt.den env S) o = some (r.1, r.2.map (dLA env)) ∧ Sat env n X := by
  unfold sbAny at h
  split at h
  · simp only [Option.some.injEq, Prod.mk.injEq] at h
    obtain ⟨h, rfl⟩ := h
    subst h
    exact ⟨rfl, hs⟩
  · rename_i m rs
    split at h
    · rename_i c hc
      simp only [Option.map_eq_some_iff] at h
      obtain ⟨⟨x, X1⟩, hx, he⟩ := h
      simp only [Prod.mk.injEq] at he
      obtain ⟨he, rfl⟩ := he
      subst he
      obtain ⟨h1, h2⟩ := sbCell_den hx hs
      exact ⟨by simp [bAny, SSt.g_den, hc, STV.den, h1], h2⟩
    · rename_i cs hc
      simp only [Option.map_eq_some_iff] at h
      obtain ⟨⟨x, X1⟩, hx, he⟩ := h
      simp only [Prod.mk.injEq] at he
      obtain ⟨he, rfl⟩ := he
      subst he
      obtain ⟨h1, h2⟩ := sbCells_den hx hs
      exact ⟨by simp [bAny, SSt.g_den, hc, STV.den, h1], h2⟩
    · cases h

/-! ### Taking -/
def sweakC : SCell → SCell
  | .val l a => .val (borL' l a.fl) a
  | c => c
theorem sweakC_den {env} (c : SCell) : (sweakC c).den env = weakC (c.den env) := by
  cases c <;> simp [sweakC, weakC, SCell.den, borL'_eq, At.den_flat]
def stCell (S : SSt) (rs : List Nat) : SCell → Option (SCell × SSt)
  | .val l a => some (.val l a, S)
  | .view r c [] =>
    if rs.elem r then match srootCell S r c with
      | .val l a => some (.val l a, ssetRoot S r c (sweakC (.val l a)))
      | _ => none
    else none
  | .view r c (x :: path) => some (.view r c (x :: path), S)
  | .dead => none
theorem stCell_den {env S rs c r S'} (h : stCell S rs c = some (r, S')) : tCell (SSt.den env S) rs (c.den env) = some (r.den env, SSt.den env S') := by
  unfold stCell at h
  split at h
  · simp only [Option.some.injEq, Prod.mk.injEq] at h
    obtain ⟨rfl, rfl⟩ := h
    rfl
  · split at h
    · rename_i hr
      split at h
      · rename_i l a ha
        simp only [Option.some.injEq, Prod.mk.injEq] at h
        obtain ⟨rfl, rfl⟩ := h
        rw [ssetRoot_den, sweakC_den]
        simp only [SCell.den, tCell, SPath.den, List.map_nil, hr, if_true, srootCell_den, ha]
      · cases h
    · cases h
  · simp only [Option.some.injEq, Prod.mk.injEq] at h
    obtain ⟨rfl, rfl⟩ := h
    rfl
  · cases h
def stCells (S : SSt) (rs : List Nat) : List SCell → Option (List SCell × SSt)
  | [] => some ([], S)
  | c :: cs => (stCell S rs c).bind fun x => (stCells x.2 rs cs).map fun y => (x.1 :: y.1, y.2)
theorem stCells_den {env rs cs} : ∀ {S r S'}, stCells S rs cs = some (r, S') → tCells (SSt.den env S) rs (cs.map (SCell.den env)) = some (r.map (SCell.den env), SSt.den env S') := by
  induction cs with
  | nil =>
    intro S r S' h
    simp only [stCells, Option.some.injEq, Prod.mk.injEq] at h
    obtain ⟨rfl, rfl⟩ := h
    rfl
  | cons c cs ih =>
    intro S r S' h
    simp only [stCells, Option.bind_eq_some_iff, Option.map_eq_some_iff] at h
    obtain ⟨⟨x, S1⟩, hx, ⟨y, S2⟩, hy, he⟩ := h
    simp only [Prod.mk.injEq] at he
    obtain ⟨rfl, rfl⟩ := he
    simp [tCells, stCell_den hx, ih hy]
def stAny (S : SSt) : AOpnd → Option (Bool × List SCell × SSt)
  | .c p => some (false, [.val .deep (.c p)], S)
  | .t n rs => if rs.elem n then none else match S.g n with
    | .one c => (stCells S rs [c]).map fun x => (false, x.1, x.2.set n (.one (sweakC c)))
    | .agg cs => (stCells S rs cs).map fun x => (true, x.1, x.2.set n (.agg (cs.map sweakC)))
    | _ => none
theorem stAny_den {env S o b r S'} (h : stAny S o = some (b, r, S')) : tAny (SSt.den env S) o = some (b, r.map (SCell.den env), SSt.den env S') := by
  unfold stAny at h
  split at h
  · simp only [Option.some.injEq, Prod.mk.injEq] at h
    obtain ⟨rfl, rfl, rfl⟩ := h
    rfl
  · rename_i n rs
    split at h
    · cases h
    · rename_i hr
      split at h
      · rename_i c hc
        simp only [Option.map_eq_some_iff] at h
        obtain ⟨⟨x, S1⟩, hx, he⟩ := h
        simp only [Prod.mk.injEq] at he
        obtain ⟨rfl, rfl, rfl⟩ := he
        have := stCells_den (env := env) hx
        simp only [List.map_cons, List.map_nil] at this
        simp only [tAny, hr, SSt.g_den, hc, STV.den, this, SSt.set_den, sweakC_den, Option.map_some]
        rfl
      · rename_i cs hc
        simp only [Option.map_eq_some_iff] at h
        obtain ⟨⟨x, S1⟩, hx, he⟩ := h
        simp only [Prod.mk.injEq] at he
        obtain ⟨rfl, rfl, rfl⟩ := he
        have := stCells_den (env := env) hx
        have hw : List.map weakC (List.map (SCell.den env) cs) = List.map (SCell.den env) (cs.map sweakC) := by simp [Function.comp_def, sweakC_den]
        simp only [tAny, hr, SSt.g_den, hc, STV.den, this, SSt.set_den, Option.map_some, hw]
        rfl
      · cases h

def stVal (n : Nat) (S : SSt) (rs : List Nat) (X : Ls) : SCell → Option ((Lev × At) × Ls)
  | .val l a => some ((l, a), X)
  | c => sbCell n S rs X c
theorem stVal_den {env n S rs X c r X'} (h : stVal n S rs X c = some (r, X')) (hs : Sat env n X') : tVal (SSt.den env S) rs (c.den env) = some (dLA env r) ∧ Sat env n X := by
  cases c with
  | val l a =>
    simp only [stVal, Option.some.injEq, Prod.mk.injEq] at h
    obtain ⟨h, rfl⟩ := h
    subst h
    exact ⟨rfl, hs⟩
  | view r c path => exact sbCell_den h hs
  | dead => simp [stVal, sbCell] at h
def stVals (n : Nat) (S : SSt) (rs : List Nat) (X : Ls) : List SCell → Option (List (Lev × At) × Ls)
  | [] => some ([], X)
  | c :: cs => (stVal n S rs X c).bind fun x => (stVals n S rs x.2 cs).map fun y => (x.1 :: y.1, y.2)
theorem stVals_den {env n S rs cs} : ∀ {X r X'}, stVals n S rs X cs = some (r, X') → Sat env n X' → tVals (SSt.den env S) rs (cs.map (SCell.den env)) = some (r.map (dLA env)) ∧ Sat env n X := by
  induction cs with
  | nil =>
    intro X r X' h hs
    simp only [stVals, Option.some.injEq, Prod.mk.injEq] at h
    obtain ⟨rfl, rfl⟩ := h
    exact ⟨rfl, hs⟩
  | cons c cs ih =>
    intro X r X' h hs
    simp only [stVals, Option.bind_eq_some_iff, Option.map_eq_some_iff] at h
    obtain ⟨⟨x, X1⟩, hx, ⟨y, X2⟩, hy, he⟩ := h
    simp only [Prod.mk.injEq] at he
    obtain ⟨rfl, rfl⟩ := he
    obtain ⟨h1, h2⟩ := ih hy hs
    obtain ⟨h3, h4⟩ := stVal_den hx h2
    exact ⟨by simp [tVals, h3, h1], h4⟩
def stPV (n : Nat) (S : SSt) (X : Ls) (o : AOpnd) : Option ((Bool × List (Lev × At) × SSt) × Ls) :=
  (stAny S o).bind fun x => (stVals n x.2.2 o.rs X x.2.1).map fun l => ((x.1, l.1, x.2.2), l.2)
theorem stPV_den {env n S X o b l S' X'} (h : stPV n S X o = some ((b, l, S'), X')) (hs : Sat env n X') : tPV (SSt.den env S) o = some (b, l.map (dLA env), SSt.den env S') ∧ Sat env n X := by
  simp only [stPV, Option.bind_eq_some_iff, Option.map_eq_some_iff] at h
  obtain ⟨⟨b1, cs, S1⟩, hx, ⟨y, X2⟩, hy, he⟩ := h
  simp only [Prod.mk.injEq] at he
  obtain ⟨⟨rfl, rfl, rfl⟩, rfl⟩ := he
  obtain ⟨h1, h2⟩ := stVals_den hy hs
  refine ⟨?_, h2⟩
  simp [tPV, stAny_den hx, h1]
end Go.Proofs.Ytkiliooegoldoaa
