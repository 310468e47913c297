/- Abstract reading of Go code and its soundness, part 5. -/
import Derived.Test.YtkiliooegoldoaaE1
/- Rules for the evaluator. -/
set_option linter.unusedVariables false
namespace Go.Proofs.Ytkiliooegoldoaa
open Go

section
variable {F : Nat → Option AFunc}
def Wc (F : Nat → Option AFunc) (c : ACode) (S : St) (Q : AExit → St → Prop) : Prop := ∃ e S', Big F (.code c S e S') ∧ Q e S'
def Wo (F : Nat → Option AFunc) (os : List AO) (S : St) (Q : St → Prop) : Prop := ∃ S', Big F (.ops os S S') ∧ Q S'
def AExit.andThen (next : St → Prop) (Q : AExit → St → Prop) : AExit → St → Prop
  | .normal, S => next S
  | e, S => Q e S

theorem Wc.skip {S Q} (h : Q .normal S) : Wc F .skip S Q := ⟨_, _, .skip S, h⟩
theorem Wc.exit {id S Q} (h : Q (.exit id) S) : Wc F (.exit id) S Q := ⟨_, _, .exit id S, h⟩
theorem Wc.ret {S Q} (h : Q .ret S) : Wc F .ret S Q := ⟨_, _, .ret S, h⟩
theorem Wc.seq {a b S Q} (h : Wc F a S (AExit.andThen (fun S' => Wc F b S' Q) Q)) : Wc F (.seq a b) S Q := by
  obtain ⟨e, S', h1, h2⟩ := h
  cases e with
  | normal => obtain ⟨e2, S2, k1, k2⟩ := h2; exact ⟨e2, S2, .seqN h1 k1, k2⟩
  | exit id => exact ⟨_, _, .seqE h1 (by simp), h2⟩
  | ret => exact ⟨_, _, .seqE h1 (by simp), h2⟩
theorem Wc.region {os ks S Q} (h : Wo F os S fun S' => Q .normal (killSlots S' ks)) : Wc F (.region os ks) S Q := by
  obtain ⟨S', h1, h2⟩ := h
  exact ⟨_, _, .region h1, h2⟩
theorem Wc.cond {c a b S Q l t} (hc : bOne S c = some (l, .bool t)) (h : Wc F (if t then a else b) S Q) : Wc F (.cond c a b) S Q := by
  obtain ⟨e, S', h1, h2⟩ := h
  exact ⟨_, _, .cond hc h1, h2⟩
theorem Wc.condP {c a b S Q l} {p : Prop} [Decidable p] (hc : bOne S c = some (l, .bool (decide p))) (h1 : p → Wc F a S Q) (h2 : ¬ p → Wc F b S Q) : Wc F (.cond c a b) S Q := by
  refine Wc.cond hc ?_
  by_cases hp : p
  · simpa [hp] using h1 hp
  · simpa [hp] using h2 hp
theorem Wc.block {id a S Q} (h : Wc F a S fun e S' => Q (e.out id) S') : Wc F (.block id a) S Q := by
  obtain ⟨e, S', h1, h2⟩ := h
  exact ⟨_, _, .block h1, h2⟩
theorem Wc.pre {ps a S S1 Q} (hp : pseudo S ps = some S1) (h : Wc F a S1 Q) : Wc F (.pre ps a) S Q := by
  obtain ⟨e, S', h1, h2⟩ := h
  exact ⟨_, _, .pre hp h1, h2⟩
theorem Wc.once {a S Q} (h : Wc F a S (AExit.andThen (fun S' => Wc F (.loop a) S' Q) Q)) : Wc F (.loop a) S Q := by
  obtain ⟨e, S', h1, h2⟩ := h
  cases e with
  | normal => obtain ⟨e2, S2, k1, k2⟩ := h2; exact ⟨e2, S2, .loopN h1 k1, k2⟩
  | exit id => exact ⟨_, _, .loopE h1 (by simp), h2⟩
  | ret => exact ⟨_, _, .loopE h1 (by simp), h2⟩
theorem Wc.loop {a Q} (Inv : Nat → St → Prop) (h : ∀ n S, Inv n S → Wc F a S (AExit.andThen (fun S' => ∃ m, m < n ∧ Inv m S') Q)) {n S} (h0 : Inv n S) : Wc F (.loop a) S Q := by
  induction n using Nat.strongRecOn generalizing S with
  | _ n ih =>
    obtain ⟨e, S', h1, h2⟩ := h n S h0
    refine Wc.once ⟨e, S', h1, ?_⟩
    cases e with
    | normal => obtain ⟨m, hm, hi⟩ := h2; exact ih m hm hi
    | exit id => exact h2
    | ret => exact h2
theorem Wo.nil {S Q} (h : Q S) : Wo F [] S Q := ⟨_, .nil S, h⟩
theorem Wo.op {o : AO} {os S S1 Q} (hg : guardOf S o.guard = some true) (hs : step S o.dst o.op = some S1) (h : Wo F os S1 Q) : Wo F (o :: os) S Q := by
  obtain ⟨S', h1, h2⟩ := h
  exact ⟨_, .cons (.step hg hs) h1, h2⟩
theorem Wo.not {o : AO} {os S S1 Q} (hg : guardOf S o.guard = some false) (hs : put false S o.dst .undef = some S1) (h : Wo F os S1 Q) : Wo F (o :: os) S Q := by
  obtain ⟨S', h1, h2⟩ := h
  exact ⟨_, .cons (.not hg hs) h1, h2⟩
theorem Wo.call {d g k as os S S1 Q args fd rs tv} (hg : guardOf S g = some true) (ha : argsOf S as = some args) (hF : F k = some fd) (hp : args.map (·.1) = fd.params)
    (hf : Big F (.fn k (args.map (·.2)) rs)) (hr : resAll fd.rk rs = some tv) (hs : put false S d tv = some S1) (h : Wo F os S1 Q) : Wo F (⟨d, g, .call k as⟩ :: os) S Q := by
  obtain ⟨S', h1, h2⟩ := h
  exact ⟨_, .cons (.call hg rfl ha hF hp hf hr hs) h1, h2⟩
theorem fn_of {k fd args S rs} (hF : F k = some fd) (he : entry fd args = some S) (h : Wc F fd.body S fun e S' => e.leaves = true ∧ outs S' fd.results fd.rk = some rs) : Big F (.fn k args rs) := by
  obtain ⟨e, S', h1, h2, h3⟩ := h
  exact .fn hF he h1 h2 h3
theorem Wo.op' {o : AO} {os S S1 Q} (hs : (if guardOf S o.guard = some true then step S o.dst o.op else none) = some S1) (h : Wo F os S1 Q) : Wo F (o :: os) S Q := by
  by_cases hg : guardOf S o.guard = some true
  · rw [if_pos hg] at hs; exact Wo.op hg hs h
  · rw [if_neg hg] at hs; cases hs
end
end Go.Proofs.Ytkiliooegoldoaa

/- Programs without memory: symbolic states, and one operation on them. -/
set_option linter.unusedVariables false
set_option linter.unusedSimpArgs false
namespace Go.Proofs.Ytkiliooegoldoaa
open Go

def PV.coe (fl : Bool) (p : PV) : PV := if p.flat = fl then p else if fl then .bool false else .sl 0 []
theorem PV.coe_flat {fl : Bool} {p : PV} : (PV.coe fl p).flat = fl := by
  unfold PV.coe
  split
  · assumption
  · cases fl <;> rfl
theorem PV.coe_eq {fl : Bool} {p : PV} (h : p.flat = fl) : PV.coe fl p = p := by simp [PV.coe, h]

/-- An atom: a variable (number, flat or not), or a constant. -/
inductive At where
  | v (i : Nat) (fl : Bool)
  | c (p : PV)
deriving Inhabited
def At.den (env : List PV) : At → PV
  | .v i fl => PV.coe fl (env.getD i (.bool false))
  | .c p => p
def At.fl : At → Bool
  | .v _ fl => fl
  | .c p => p.flat
def At.lt (n : Nat) : At → Bool
  | .v i _ => Nat.blt i n
  | .c _ => true
theorem At.den_flat {env : List PV} {a : At} : (a.den env).flat = a.fl := by
  cases a
  · exact PV.coe_flat
  · rfl

def idxNat : PV → Nat
  | .int _ n => n.toNat
  | _ => 0
abbrev SPath := List (Nat × At × Nat)
def SPath.den (env : List PV) (p : SPath) : Path := p.map fun x => (x.1, idxNat (x.2.1.den env), x.2.2)

inductive SCell where
  | val (l : Lev) (a : At)
  | view (r c : Nat) (path : SPath)
  | dead
deriving Inhabited
def SCell.den (env : List PV) : SCell → Cell
  | .val l a => .val l (a.den env)
  | .view r c path => .view r c (SPath.den env path)
  | .dead => .dead

inductive STV where
  | one (c : SCell)
  | agg (cs : List SCell)
  | box (cs : List SCell)
  | place (r c : Nat) (path : SPath)
  | ep (l : Lev) (sz : Nat) (a i : At) (off : Nat)
  | tup (vs : List (Bool × List SCell))
  | undef
  | dead
deriving Inhabited
def rowOf (p : PV) (i : Nat) : List PV := match p with
  | .sl _ xs => xs.getD i []
  | _ => []
def STV.den (env : List PV) : STV → TV
  | .one c => .one (c.den env)
  | .agg cs => .agg (cs.map (SCell.den env))
  | .box cs => .box (cs.map (SCell.den env))
  | .place r c path => .place r c (SPath.den env path)
  | .ep l sz a i off => .ep l (rowOf (a.den env) (idxNat (i.den env))) off
  | .tup vs => .tup (vs.map fun x => (x.1, x.2.map (SCell.den env)))
  | .undef => .undef
  | .dead => .dead
abbrev SSt := List STV
def SSt.g (S : SSt) (t : Nat) : STV := S.getD t .dead
def SSt.den (env : List PV) (S : SSt) : St := S.map (STV.den env)

/-! ### Primitives: what makes a new value; none where a bound or a size fails -/
inductive Prim where
  | bin (op : BinOp)
  | eqB (neg : Bool)
  | eqAgg (neg : Bool) (ks : List Nat)
  | un (op : UnOp)
  | conv (k : IntKind)
  | bytesStr
  | make (sz : Nat) (zs : List PV)
  | subS (lo hi : Bool)
  | sub (sz : Nat) (lo hi mx : Bool)
  | len
  | lenS
  | ix
  | inb (sz : Nat)
  | get (ps : List (Nat × Nat))
  | app (sz bytes : Nat) (c1 c2 : Bool)
  | appStr
  | mk (sz : Nat) (rows : List Nat)
  | set (ps : List (Nat × Nat))
  | max
  | min
  | pick
deriving Inhabited

structure Let where
  p : Prim
  as : List At
  fl : Bool
deriving Inhabited

def nat? : PV → Option Nat
  | .int _ n => if 0 ≤ n then some n.toNat else none
  | _ => none
def optArg (b : Bool) (d : Nat) (l : List PV) : Option (Nat × List PV) :=
  if b then match l with
    | [] => none
    | x :: xs => (nat? x).map fun n => (n, xs)
  else some (d, l)
def zipPath : List (Nat × Nat) → List PV → Path
  | (s, c) :: ps, i :: is => (s, idxNat i, c) :: zipPath ps is
  | _, _ => []
def splitBy {α : Type} : List Nat → List α → List (List α)
  | [], _ => []
  | n :: ns, l => l.take n :: splitBy ns (l.drop n)

def primDen (p : Prim) (as : List PV) : Option PV :=
  match p with
  | .bin op => match as with
    | [a, b] => binS op a b
    | _ => none
  | .eqB neg => match as with
    | [.bool a, .bool b] => some (.bool (if neg then !(a == b) else a == b))
    | _ => none
  | .eqAgg neg ks => if (as.take ks.length).map PV.kind = ks then
      (sameCells ((as.take ks.length).map fun p => (Lev.deep, p)) ((as.drop ks.length).map fun p => (Lev.deep, p))).map fun r => .bool (if neg then !r else r) else none
  | .un op => match as with
    | [a] => unS op a
    | _ => none
  | .conv k => match as with
    | [.int _ n] => some (.int k (k.wrap n))
    | _ => none
  | .bytesStr => match as with
    | [.sl 1 xs] => (bytesOfRows xs).map fun l => .str ⟨l.toArray⟩
    | _ => none
  | .make sz zs => match as with
    | [n] => (nat? n).bind fun n => if n ≤ 1099511627776 then some (.sl sz (List.replicate n zs)) else none
    | _ => none
  | .subS lo hi => match as with
    | .str s :: as => (optArg lo 0 as).bind fun x => (optArg hi s.size x.2).bind fun y => if x.1 ≤ y.1 ∧ y.1 ≤ s.size then some (.str (s.extract x.1 y.1)) else none
    | _ => none
  | .sub sz lo hi mx => match as with
    | .sl sz' xs :: as => (optArg lo 0 as).bind fun x => (optArg hi xs.length x.2).bind fun y => (optArg mx xs.length y.2).bind fun z =>
      if sz' = sz ∧ x.1 ≤ y.1 ∧ y.1 ≤ z.1 ∧ z.1 ≤ xs.length then some (.sl sz ((xs.drop x.1).take (y.1 - x.1))) else none
    | _ => none
  | .len => match as with
    | [.sl _ xs] => some (.int .i64 xs.length)
    | _ => none
  | .lenS => match as with
    | [.str s] => some (.int .i64 s.size)
    | _ => none
  | .ix => match as with
    | [.str s, i] => (nat? i).bind fun i => (s[i]?).map fun b => .int .u8 b.toNat
    | _ => none
  | .inb sz => match as with
    | [.sl sz' xs, i] => (nat? i).bind fun i => if sz' = sz ∧ i < xs.length then some (.bool true) else none
    | _ => none
  | .get ps => match as with
    | a :: is => pget a (zipPath ps is)
    | _ => none
  | .app sz bytes c1 c2 => match as with
    | [.sl sz1 xs, .sl sz2 ys] => if sz1 = sz ∧ sz2 = sz ∧ (c1 = true → flatRows xs = true) ∧ (c2 = true → flatRows ys = true) ∧ (xs.length + ys.length) * bytes ≤ 140737488355328 then some (.sl sz (xs ++ ys)) else none
    | _ => none
  | .appStr => match as with
    | [.sl 1 xs, .str s] => if xs.length + s.size ≤ 140737488355328 then some (.sl 1 (xs ++ bytesPV s)) else none
    | _ => none
  | .mk sz rows => some (.sl sz (splitBy rows as))
  | .set ps => match as with
    | a :: is => pset a (zipPath ps is) (is.drop ps.length)
    | _ => none
  | .max => match as with
    | [.int k a, .int k' b] => if k = k' then some (.int k (if b > a then b else a)) else none
    | _ => none
  | .min => match as with
    | [.int k a, .int k' b] => if k = k' then some (.int k (if b < a then b else a)) else none
    | _ => none
  | .pick => match as with
    | [.bool c, a, b] => some (if c then a else b)
    | _ => none

abbrev Ls := List Let
def nw (n : Nat) (X : Ls) (fl : Bool) : At := .v (n + X.length) fl
def Let.holds (env : List PV) (i : Nat) (l : Let) : Prop := ∃ p, primDen l.p (l.as.map (At.den env)) = some p ∧ p.flat = l.fl ∧ env.getD i (.bool false) = p
def Sat (env : List PV) (n : Nat) (X : Ls) : Prop := ∀ (j : Nat) l, X[j]? = some l → l.holds env (n + j)

theorem Sat.nil {env n} : Sat env n [] := by intro j l h; simp at h
theorem Sat.pre {env n X l} (h : Sat env n (X ++ [l])) : Sat env n X := fun j l' hj => h j l' (by
  rw [List.getElem?_append_left (List.getElem?_eq_some_iff.1 hj).1]; exact hj)
theorem Sat.last {env n X p as fl} (h : Sat env n (X ++ [⟨p, as, fl⟩])) : primDen p (as.map (At.den env)) = some ((nw n X fl).den env) ∧ ((nw n X fl).den env).flat = fl := by
  obtain ⟨q, h1, h2, h3⟩ := h X.length ⟨p, as, fl⟩ (by simp)
  refine ⟨?_, At.den_flat⟩
  show _ = some (PV.coe fl (env.getD (n + X.length) (.bool false)))
  rw [h3, PV.coe_eq h2]; exact h1

/-! ### The state's functions -/
def borL' (l : Lev) (fl : Bool) : Lev := if fl then .deep else match l with | .old => .old | _ => .bor
theorem borL'_eq {l : Lev} {p : PV} : borL l p = borL' l p.flat := rfl
def SCell.fl : SCell → Bool
  | .val _ a => a.fl
  | _ => false

def smapTV (f : SCell → SCell) (h : Nat → Nat → Bool → Bool) (b : Bool) : STV → STV
  | .one c => .one (f c)
  | .agg cs => .agg (cs.map f)
  | .box cs => .box (cs.map f)
  | .place r c path => if h r c path.isEmpty then .dead else .place r c path
  | .ep l sz a i off => if b && (l != .old) then .dead else .ep l sz a i off
  | .tup vs => .tup (vs.map fun x => (x.1, x.2.map f))
  | .undef => .undef
  | .dead => .dead
theorem smapTV_den {env : List PV} {f : Cell → Cell} {h : Nat → Nat → Path → Bool} {sf : SCell → SCell} {sh : Nat → Nat → Bool → Bool} {b : Bool}
    (hf : ∀ c, (sf c).den env = f (c.den env)) (hh : ∀ r c path, h r c path = sh r c path.isEmpty) (tv : STV) : (smapTV sf sh b tv).den env = mapTV f h b (tv.den env) := by
  cases tv with
  | place r c path =>
    have : (SPath.den env path).isEmpty = path.isEmpty := by simp [SPath.den]
    simp only [smapTV, apply_ite (STV.den env)]; simp only [mapTV, STV.den, hh, this]
  | ep l sz a i off => simp only [smapTV, apply_ite (STV.den env)]; simp only [mapTV, STV.den]
  | _ => simp [smapTV, mapTV, STV.den, hf, Function.comp_def]

def skillRootC (r : Nat) : SCell → SCell
  | .view r' c path => if r' = r then .dead else .view r' c path
  | c => c
def skillRoot (r : Nat) (S : SSt) : SSt := S.map (smapTV (skillRootC r) (fun r' _ _ => r' == r) false)
theorem skillRootC_den {env r} (c : SCell) : (skillRootC r c).den env = killRootC r (c.den env) := by
  cases c <;> simp only [skillRootC, apply_ite (SCell.den env)] <;> simp only [killRootC, SCell.den]
theorem map_den_comm {env : List PV} {sf : STV → STV} {f : TV → TV} (h : ∀ tv, (sf tv).den env = f (tv.den env)) (S : SSt) : SSt.den env (S.map sf) = (SSt.den env S).map f := by
  simp [SSt.den, Function.comp_def, h]
theorem skillRoot_den {env r} (S : SSt) : SSt.den env (skillRoot r S) = killRoot r (SSt.den env S) :=
  map_den_comm (smapTV_den skillRootC_den fun _ _ _ => rfl) S

def skillBoxC (r c n : Nat) : SCell → SCell
  | .view r' c' path => if r' = r ∧ c ≤ c' ∧ c' < c + n then .dead else .view r' c' path
  | x => x
def skillBox (r c n : Nat) (S : SSt) : SSt :=
  S.map (smapTV (skillBoxC r c n) (fun r' c' e => r' == r && decide (c ≤ c') && decide (c' < c + n) && !e) false)
theorem skillBoxC_den {env r c n} (x : SCell) : (skillBoxC r c n x).den env = killBoxC r c n (x.den env) := by
  cases x <;> simp only [skillBoxC, apply_ite (SCell.den env)] <;> simp only [killBoxC, SCell.den]
theorem skillBox_den {env r c n} (S : SSt) : SSt.den env (skillBox r c n S) = killBox r c n (SSt.den env S) :=
  map_den_comm (smapTV_den skillBoxC_den fun _ _ _ => rfl) S

def skillElemC (r c : Nat) : SCell → SCell
  | .val l a => if a.fl || !isBorrow l then .val l a else .dead
  | .view r' c' path' => if r' = r ∧ c' = c ∧ path'.isEmpty = false then .dead else .view r' c' path'
  | .dead => .dead
def skillElem (r c : Nat) (S : SSt) : SSt := S.map (smapTV (skillElemC r c) (fun r' c' e => r' == r && c' == c && !e) true)
theorem skillElemC_den {env r c k} (x : SCell) : (skillElemC r c x).den env = killElemC r c k (x.den env) := by
  cases x with
  | val l a =>
    simp only [skillElemC, apply_ite (SCell.den env)]; simp only [killElemC, SCell.den, At.den_flat]
  | view r' c' path =>
    have : (SPath.den env path).isEmpty = path.isEmpty := by simp [SPath.den]
    simp only [skillElemC, apply_ite (SCell.den env)]; simp only [killElemC, SCell.den, this]
  | dead => rfl
theorem skillElem_den {env r c k} (S : SSt) : SSt.den env (skillElem r c S) = killElem r c k (SSt.den env S) :=
  map_den_comm (smapTV_den skillElemC_den fun _ _ _ => rfl) S

theorem SSt.g_den {env : List PV} {S : SSt} {t : Nat} : (SSt.den env S).g t = (S.g t).den env := by
  unfold St.g SSt.g SSt.den
  simp only [List.getD_eq_getElem?_getD, List.getElem?_map]
  cases S[t]? <;> rfl
theorem SSt.set_den {env : List PV} {S : SSt} {t : Nat} {v : STV} : SSt.den env (S.set t v) = (SSt.den env S).set t (v.den env) := by
  simp [SSt.den, List.map_set]

def srootCell (S : SSt) (r c : Nat) : SCell :=
  match S.g r with
  | .one x => if c = 0 then x else .dead
  | .agg cs => cs.getD c .dead
  | .box cs => cs.getD c .dead
  | _ => .dead
theorem getD_den {env : List PV} {cs : List SCell} {c : Nat} : (cs.map (SCell.den env)).getD c .dead = (cs.getD c .dead).den env := by
  simp only [List.getD_eq_getElem?_getD, List.getElem?_map]
  cases cs[c]? <;> rfl
theorem srootCell_den {env S r c} : rootCell (SSt.den env S) r c = (srootCell S r c).den env := by
  unfold rootCell srootCell
  rw [SSt.g_den]
  cases S.g r <;> simp only [STV.den, getD_den] <;> try rfl
  split <;> rfl

def ssetRoot (S : SSt) (r c : Nat) (x : SCell) : SSt :=
  match S.g r with
  | .one _ => S.set r (.one x)
  | .agg cs => S.set r (.agg (cs.set c x))
  | .box cs => S.set r (.box (cs.set c x))
  | _ => S
theorem ssetRoot_den {env S r c x} : SSt.den env (ssetRoot S r c x) = setRoot (SSt.den env S) r c (x.den env) := by
  unfold setRoot ssetRoot
  rw [SSt.g_den]
  cases S.g r <;> simp [STV.den, SSt.set_den, List.map_set]

def srootishC : SCell → Bool
  | .val _ a => !a.fl
  | .view .. => false
  | .dead => true
def srootish : STV → Bool
  | .one c => srootishC c
  | .agg cs => cs.any srootishC
  | .box _ => true
  | _ => false
theorem srootishC_den {env} (c : SCell) : rootishC (c.den env) = srootishC c := by
  cases c <;> simp [srootishC, rootishC, SCell.den, At.den_flat]
theorem srootish_den {env} (v : STV) : rootish (v.den env) = srootish v := by
  cases v <;> simp [srootish, rootish, STV.den, srootishC_den, Function.comp_def]

def sput (g : Bool) (S : SSt) (d : Option Nat) (v : STV) : Option SSt :=
  match d with
  | none => some S
  | some d => if g then some ((skillRoot d S).set d (smapTV (skillRootC d) (fun r' _ _ => r' == d) false v)) else if srootish (S.g d) then none else some (S.set d v)
theorem sput_den {env g S d v S'} (h : sput g S d v = some S') : put g (SSt.den env S) d (v.den env) = some (SSt.den env S') := by
  unfold sput at h
  unfold put
  cases d with
  | none => simp at h ⊢; rw [h]
  | some d =>
    simp only [SSt.g_den, srootish_den] at h ⊢
    split at h
    · simp only [Option.some.injEq] at h
      rw [← h, SSt.set_den, skillRoot_den, smapTV_den (skillRootC_den (r := d)) (fun _ _ _ => rfl)]
      simp [*]
    · split at h
      · cases h
      · rename_i hg hr
        simp only [Option.some.injEq] at h
        rw [if_neg hg, if_neg hr, ← h, SSt.set_den]

def skillSlot (S : SSt) (t : Nat) : SSt := if srootish (S.g t) then (skillRoot t S).set t .dead else S.set t .dead
def skillSlots (S : SSt) : List Nat → SSt
  | [] => S
  | t :: ts => skillSlots (skillSlot S t) ts
theorem skillSlot_den {env S t} : SSt.den env (skillSlot S t) = killSlot (SSt.den env S) t := by
  unfold skillSlot killSlot
  rw [SSt.g_den, srootish_den]
  split <;> simp [SSt.set_den, skillRoot_den, STV.den]
theorem skillSlots_den {env ts} : ∀ {S}, SSt.den env (skillSlots S ts) = killSlots (SSt.den env S) ts := by
  induction ts with
  | nil => intro S; rfl
  | cons t ts ih => intro S; simp only [skillSlots, killSlots, ih, skillSlot_den]
def spseudo (S : SSt) : List Pseudo → Option SSt
  | [] => some S
  | .kill ts :: ps => spseudo (skillSlots S ts) ps
  | .relev .. :: _ => none
theorem spseudo_den {env ps} : ∀ {S S'}, spseudo S ps = some S' → pseudo (SSt.den env S) ps = some (SSt.den env S') := by
  induction ps with
  | nil => intro S S' h; simp [spseudo, pseudo] at h ⊢; rw [h]
  | cons p ps ih =>
    intro S S' h
    cases p with
    | kill ts => simp only [spseudo, pseudo] at h ⊢; rw [← skillSlots_den]; exact ih h
    | relev => simp [spseudo] at h

/-! ### Reading -/
def spathP (p : SPath) : List (Nat × Nat) := p.map fun x => (x.1, x.2.2)
def spathI (p : SPath) : List At := p.map fun x => x.2.1
theorem zipPath_den {env : List PV} : ∀ (p : SPath) (rest : List PV), zipPath (spathP p) ((spathI p).map (At.den env) ++ rest) = SPath.den env p := by
  intro p rest
  induction p with
  | nil => cases rest <;> rfl
  | cons x p ih => exact congrArg (List.cons (x.1, idxNat (x.2.1.den env), x.2.2)) ih

def sbCell (n : Nat) (S : SSt) (rs : List Nat) (X : Ls) : SCell → Option ((Lev × At) × Ls)
  | .val l a => some ((borL' l a.fl, a), X)
  | .view r c [] =>
    if rs.elem r then match srootCell S r c with
      | .val _ a => some ((borL' .bor a.fl, a), X)
      | _ => none
    else none
  | .view r c (x :: path) =>
    if rs.elem r then match srootCell S r c with
      | .val _ a => some ((.bor, nw n X false), X ++ [⟨.get (spathP (x :: path)), a :: spathI (x :: path), false⟩])
      | _ => none
    else none
  | .dead => none
def dLA (env : List PV) (x : Lev × At) : Lev × PV := (x.1, x.2.den env)
theorem sbCell_den {env n S rs X c r X'} (h : sbCell n S rs X c = some (r, X')) (hs : Sat env n X') : bCell (SSt.den env S) rs (c.den env) = some (dLA env r) ∧ Sat env n X := by
  unfold sbCell at h
  split at h
  · rename_i l a
    simp only [Option.some.injEq, Prod.mk.injEq] at h
    obtain ⟨h, rfl⟩ := h
    subst h
    exact ⟨by simp [bCell, SCell.den, dLA, borL'_eq, At.den_flat], hs⟩
  · rename_i r' c'
    split at h
    · rename_i hr
      split at h
      · rename_i l a ha
        simp only [Option.some.injEq, Prod.mk.injEq] at h
        obtain ⟨h, rfl⟩ := h
        subst h
        refine ⟨?_, hs⟩
        simp only [bCell, SCell.den, srootCell_den, ha, hr, if_true, SPath.den, List.map_nil, pget, Option.map_some, dLA, borL'_eq, At.den_flat]
      · cases h
    · cases h
  · rename_i r' c' x path
    split at h
    · rename_i hr
      split at h
      · rename_i l a ha
        simp only [Option.some.injEq, Prod.mk.injEq] at h
        obtain ⟨h, rfl⟩ := h
        subst h
        obtain ⟨h1, h2⟩ := hs.last
        refine ⟨?_, hs.pre⟩
        simp only [primDen, List.map_cons] at h1
        have hz := zipPath_den (env := env) (x :: path) []
        rw [List.append_nil] at hz
        simp only [bCell, SCell.den, srootCell_den, ha, hr, if_true]
        rw [← hz]
        have h1' : pget (At.den env a) (zipPath (spathP (x :: path)) (List.map (At.den env) (spathI (x :: path)))) = some ((nw n X false).den env) := h1
        rw [h1']
        simp [dLA, borL'_eq, h2, borL']
      · cases h
    · cases h
  · cases h

def sbCells (n : Nat) (S : SSt) (rs : List Nat) (X : Ls) : List SCell → Option (List (Lev × At) × Ls)
  | [] => some ([], X)
  | c :: cs => (sbCell n S rs X c).bind fun x => (sbCells n S rs x.2 cs).map fun y => (x.1 :: y.1, y.2)
theorem sbCells_den {env n S rs cs} : ∀ {X r X'}, sbCells n S rs X cs = some (r, X') → Sat env n X' → bCells (SSt.den env S) rs (cs.map (SCell.den env)) = some (r.map (dLA env)) ∧ Sat env n X := by
  induction cs with
  | nil =>
    intro X r X' h hs
    simp only [sbCells, Option.some.injEq, Prod.mk.injEq] at h
    obtain ⟨rfl, rfl⟩ := h
    exact ⟨rfl, hs⟩
  | cons c cs ih =>
    intro X r X' h hs
    simp only [sbCells, Option.bind_eq_some_iff, Option.map_eq_some_iff] at h
    obtain ⟨⟨x, X1⟩, hx, ⟨y, X2⟩, hy, he⟩ := h
    simp only [Prod.mk.injEq] at he
    obtain ⟨rfl, rfl⟩ := he
    obtain ⟨h1, h2⟩ := ih hy hs
    obtain ⟨h3, h4⟩ := sbCell_den hx h2
    exact ⟨by simp [bCells, h3, h1], h4⟩

def sbOne (n : Nat) (S : SSt) (X : Ls) : AOpnd → Option ((Lev × At) × Ls)
  | .c p => some ((.deep, .c p), X)
  | .t m rs => match S.g m with
    | .one c => sbCell n S rs X c
    | _ => none
theorem sbOne_den {env n S X o r X'} (h : sbOne n S X o = some (r, X')) (hs : Sat env n X') : bOne (SSt.den env S) o = some (dLA env r) ∧ Sat env n X := by
  unfold sbOne at h
  split at h
  · simp only [Option.some.injEq, Prod.mk.injEq] at h
    obtain ⟨h, rfl⟩ := h
    subst h
    exact ⟨rfl, hs⟩
  · split at h
    · rename_i m rs c hc
      obtain ⟨h1, h2⟩ := sbCell_den h hs
      refine ⟨?_, h2⟩
      simp only [bOne, SSt.g_den, hc, STV.den]
      exact h1
    · cases h

def sbAny (n : Nat) (S : SSt) (X : Ls) : AOpnd → Option ((Bool × List (Lev × At)) × Ls)
  | .c p => some ((false, [(.deep, .c p)]), X)
  | .t m rs => match S.g m with
    | .one c => (sbCell n S rs X c).map fun x => ((false, [x.1]), x.2)
    | .agg cs => (sbCells n S rs X cs).map fun x => ((true, x.1), x.2)
    | _ => none
theorem sbAny_den {env n S X o r X'} (h : sbAny n S X o = some (r, X')) (hs : Sat env n X') : bAny (SSt.den env S) o = some (r.1, r.2.map (dLA env)) ∧ Sat env n X := by
  unfold sbAny at h
  split at h
  · simp only [Option.some.injEq, Prod.mk.injEq] at h
    obtain ⟨h, rfl⟩ := h
    subst h
    exact ⟨rfl, hs⟩
  · rename_i m rs
    split at h
    · rename_i c hc
      simp only [Option.map_eq_some_iff] at h
      obtain ⟨⟨x, X1⟩, hx, he⟩ := h
      simp only [Prod.mk.injEq] at he
      obtain ⟨he, rfl⟩ := he
      subst he
      obtain ⟨h1, h2⟩ := sbCell_den hx hs
      exact ⟨by simp [bAny, SSt.g_den, hc, STV.den, h1], h2⟩
    · rename_i cs hc
      simp only [Option.map_eq_some_iff] at h
      obtain ⟨⟨x, X1⟩, hx, he⟩ := h
      simp only [Prod.mk.injEq] at he
      obtain ⟨he, rfl⟩ := he
      subst he
      obtain ⟨h1, h2⟩ := sbCells_den hx hs
      exact ⟨by simp [bAny, SSt.g_den, hc, STV.den, h1], h2⟩
    · cases h

/-! ### Taking -/
def sweakC : SCell → SCell
  | .val l a => .val (borL' l a.fl) a
  | c => c
theorem sweakC_den {env} (c : SCell) : (sweakC c).den env = weakC (c.den env) := by
  cases c <;> simp [sweakC, weakC, SCell.den, borL'_eq, At.den_flat]
def stCell (S : SSt) (rs : List Nat) : SCell → Option (SCell × SSt)
  | .val l a => some (.val l a, S)
  | .view r c [] =>
    if rs.elem r then match srootCell S r c with
      | .val l a => some (.val l a, ssetRoot S r c (sweakC (.val l a)))
      | _ => none
    else none
  | .view r c (x :: path) => some (.view r c (x :: path), S)
  | .dead => none
theorem stCell_den {env S rs c r S'} (h : stCell S rs c = some (r, S')) : tCell (SSt.den env S) rs (c.den env) = some (r.den env, SSt.den env S') := by
  unfold stCell at h
  split at h
  · simp only [Option.some.injEq, Prod.mk.injEq] at h
    obtain ⟨rfl, rfl⟩ := h
    rfl
  · split at h
    · rename_i hr
      split at h
      · rename_i l a ha
        simp only [Option.some.injEq, Prod.mk.injEq] at h
        obtain ⟨rfl, rfl⟩ := h
        rw [ssetRoot_den, sweakC_den]
        simp only [SCell.den, tCell, SPath.den, List.map_nil, hr, if_true, srootCell_den, ha]
      · cases h
    · cases h
  · simp only [Option.some.injEq, Prod.mk.injEq] at h
    obtain ⟨rfl, rfl⟩ := h
    rfl
  · cases h
def stCells (S : SSt) (rs : List Nat) : List SCell → Option (List SCell × SSt)
  | [] => some ([], S)
  | c :: cs => (stCell S rs c).bind fun x => (stCells x.2 rs cs).map fun y => (x.1 :: y.1, y.2)
theorem stCells_den {env rs cs} : ∀ {S r S'}, stCells S rs cs = some (r, S') → tCells (SSt.den env S) rs (cs.map (SCell.den env)) = some (r.map (SCell.den env), SSt.den env S') := by
  induction cs with
  | nil =>
    intro S r S' h
    simp only [stCells, Option.some.injEq, Prod.mk.injEq] at h
    obtain ⟨rfl, rfl⟩ := h
    rfl
  | cons c cs ih =>
    intro S r S' h
    simp only [stCells, Option.bind_eq_some_iff, Option.map_eq_some_iff] at h
    obtain ⟨⟨x, S1⟩, hx, ⟨y, S2⟩, hy, he⟩ := h
    simp only [Prod.mk.injEq] at he
    obtain ⟨rfl, rfl⟩ := he
    simp [tCells, stCell_den hx, ih hy]
def stAny (S : SSt) : AOpnd → Option (Bool × List SCell × SSt)
  | .c p => some (false, [.val .deep (.c p)], S)
  | .t n rs => if rs.elem n then none else match S.g n with
    | .one c => (stCells S rs [c]).map fun x => (false, x.1, x.2.set n (.one (sweakC c)))
    | .agg cs => (stCells S rs cs).map fun x => (true, x.1, x.2.set n (.agg (cs.map sweakC)))
    | _ => none
theorem stAny_den {env S o b r S'} (h : stAny S o = some (b, r, S')) : tAny (SSt.den env S) o = some (b, r.map (SCell.den env), SSt.den env S') := by
  unfold stAny at h
  split at h
  · simp only [Option.some.injEq, Prod.mk.injEq] at h
    obtain ⟨rfl, rfl, rfl⟩ := h
    rfl
  · rename_i n rs
    split at h
    · cases h
    · rename_i hr
      split at h
      · rename_i c hc
        simp only [Option.map_eq_some_iff] at h
        obtain ⟨⟨x, S1⟩, hx, he⟩ := h
        simp only [Prod.mk.injEq] at he
        obtain ⟨rfl, rfl, rfl⟩ := he
        have := stCells_den (env := env) hx
        simp only [List.map_cons, List.map_nil] at this
        simp only [tAny, hr, SSt.g_den, hc, STV.den, this, SSt.set_den, sweakC_den, Option.map_some]
        rfl
      · rename_i cs hc
        simp only [Option.map_eq_some_iff] at h
        obtain ⟨⟨x, S1⟩, hx, he⟩ := h
        simp only [Prod.mk.injEq] at he
        obtain ⟨rfl, rfl, rfl⟩ := he
        have := stCells_den (env := env) hx
        have hw : List.map weakC (List.map (SCell.den env) cs) = List.map (SCell.den env) (cs.map sweakC) := by simp [Function.comp_def, sweakC_den]
        simp only [tAny, hr, SSt.g_den, hc, STV.den, this, SSt.set_den, Option.map_some, hw]
        rfl
      · cases h

def stVal (n : Nat) (S : SSt) (rs : List Nat) (X : Ls) : SCell → Option ((Lev × At) × Ls)
  | .val l a => some ((l, a), X)
  | c => sbCell n S rs X c
theorem stVal_den {env n S rs X c r X'} (h : stVal n S rs X c = some (r, X')) (hs : Sat env n X') : tVal (SSt.den env S) rs (c.den env) = some (dLA env r) ∧ Sat env n X := by
  cases c with
  | val l a =>
    simp only [stVal, Option.some.injEq, Prod.mk.injEq] at h
    obtain ⟨h, rfl⟩ := h
    subst h
    exact ⟨rfl, hs⟩
  | view r c path => exact sbCell_den h hs
  | dead => simp [stVal, sbCell] at h
def stVals (n : Nat) (S : SSt) (rs : List Nat) (X : Ls) : List SCell → Option (List (Lev × At) × Ls)
  | [] => some ([], X)
  | c :: cs => (stVal n S rs X c).bind fun x => (stVals n S rs x.2 cs).map fun y => (x.1 :: y.1, y.2)
theorem stVals_den {env n S rs cs} : ∀ {X r X'}, stVals n S rs X cs = some (r, X') → Sat env n X' → tVals (SSt.den env S) rs (cs.map (SCell.den env)) = some (r.map (dLA env)) ∧ Sat env n X := by
  induction cs with
  | nil =>
    intro X r X' h hs
    simp only [stVals, Option.some.injEq, Prod.mk.injEq] at h
    obtain ⟨rfl, rfl⟩ := h
    exact ⟨rfl, hs⟩
  | cons c cs ih =>
    intro X r X' h hs
    simp only [stVals, Option.bind_eq_some_iff, Option.map_eq_some_iff] at h
    obtain ⟨⟨x, X1⟩, hx, ⟨y, X2⟩, hy, he⟩ := h
    simp only [Prod.mk.injEq] at he
    obtain ⟨rfl, rfl⟩ := he
    obtain ⟨h1, h2⟩ := ih hy hs
    obtain ⟨h3, h4⟩ := stVal_den hx h2
    exact ⟨by simp [tVals, h3, h1], h4⟩
def stPV (n : Nat) (S : SSt) (X : Ls) (o : AOpnd) : Option ((Bool × List (Lev × At) × SSt) × Ls) :=
  (stAny S o).bind fun x => (stVals n x.2.2 o.rs X x.2.1).map fun l => ((x.1, l.1, x.2.2), l.2)
theorem stPV_den {env n S X o b l S' X'} (h : stPV n S X o = some ((b, l, S'), X')) (hs : Sat env n X') : tPV (SSt.den env S) o = some (b, l.map (dLA env), SSt.den env S') ∧ Sat env n X := by
  simp only [stPV, Option.bind_eq_some_iff, Option.map_eq_some_iff] at h
  obtain ⟨⟨b1, cs, S1⟩, hx, ⟨y, X2⟩, hy, he⟩ := h
  simp only [Prod.mk.injEq] at he
  obtain ⟨⟨rfl, rfl, rfl⟩, rfl⟩ := he
  obtain ⟨h1, h2⟩ := stVals_den hy hs
  refine ⟨?_, h2⟩
  simp [tPV, stAny_den hx, h1]
end Go.Proofs.Ytkiliooegoldoaa

/- One operation on a symbolic state. -/
set_option linter.unusedVariables false
set_option linter.unusedSimpArgs false
namespace Go.Proofs.Ytkiliooegoldoaa
open Go

def sboxCell (r c : Nat) : SCell → SCell
  | .val l a => if a.fl then .val .deep a else if isOwn l then .view r c [] else .val (borL' l a.fl) a
  | x => x
def sboxCells (r c : Nat) : List SCell → List SCell
  | [] => []
  | x :: xs => sboxCell r c x :: sboxCells r (c + 1) xs
theorem sboxCell_den {env r c} (x : SCell) : (sboxCell r c x).den env = boxCell r c (x.den env) := by
  cases x with
  | val l a =>
    simp only [sboxCell, apply_ite (SCell.den env)]
    simp only [boxCell, SCell.den, At.den_flat, borL'_eq]
    rfl
  | _ => rfl
theorem sboxCells_den {env r} : ∀ {cs : List SCell} {c}, (sboxCells r c cs).map (SCell.den env) = boxCells r c (cs.map (SCell.den env)) := by
  intro cs
  induction cs with
  | nil => intro c; rfl
  | cons x xs ih => intro c; simp only [sboxCells, List.map_cons, boxCells, sboxCell_den, ih]

def slay (cs : List SCell) (off : Nat) (news : List SCell) : Option (List SCell) :=
  if off + news.length ≤ cs.length then some (cs.take off ++ news ++ cs.drop (off + news.length)) else none
theorem slay_den {env cs off news r} (h : slay cs off news = some r) : lay (cs.map (SCell.den env)) off (news.map (SCell.den env)) = some (r.map (SCell.den env)) := by
  unfold slay at h
  split at h
  · rename_i hl
    simp only [Option.some.injEq] at h
    subst h
    unfold lay
    rw [if_pos (by simpa using hl)]
    simp [List.map_take, List.map_drop]
  · cases h
def slayAll (S : SSt) (cs : List SCell) : List (Nat × Nat × AOpnd) → Option (List SCell × SSt)
  | [] => some (cs, S)
  | (off, n, o) :: ps => (stAny S o).bind fun x => if x.2.1.length = n then (slay cs off x.2.1).bind fun cs' => slayAll x.2.2 cs' ps else none
theorem slayAll_den {env} : ∀ {ps S cs r S'}, slayAll S cs ps = some (r, S') → layAll (SSt.den env S) (cs.map (SCell.den env)) ps = some (r.map (SCell.den env), SSt.den env S') := by
  intro ps
  induction ps with
  | nil =>
    intro S cs r S' h
    simp only [slayAll, Option.some.injEq, Prod.mk.injEq] at h
    obtain ⟨rfl, rfl⟩ := h
    rfl
  | cons p ps ih =>
    intro S cs r S' h
    obtain ⟨off, n, o⟩ := p
    simp only [slayAll, Option.bind_eq_some_iff] at h
    obtain ⟨⟨b, ys, S1⟩, hx, h⟩ := h
    split at h
    · rename_i hl
      simp only [Option.bind_eq_some_iff] at h
      obtain ⟨cs', hc, h⟩ := h
      simp only at hl hc h
      simp [layAll, stAny_den hx, hl, slay_den hc, ih h]
    · cases h

def slayRows (n : Nat) (S : SSt) (X : Ls) (sz : Nat) (rows : List (List (Lev × At))) : List (Nat × AOpnd) → Option ((List (List (Lev × At)) × SSt) × Ls)
  | [] => some ((rows, S), X)
  | (i, o) :: ps => (stPV n S X o).bind fun x =>
    if x.1.2.1.length = sz ∧ i < rows.length then slayRows n x.1.2.2 x.2 sz (rows.set i x.1.2.1) ps else none
theorem slayRows_den {env n sz} : ∀ {ps S X rows r S' X'}, slayRows n S X sz rows ps = some ((r, S'), X') → Sat env n X' →
    layRows (SSt.den env S) sz (rows.map fun r => r.map (dLA env)) ps = some (r.map (fun r => r.map (dLA env)), SSt.den env S') ∧ Sat env n X := by
  intro ps
  induction ps with
  | nil =>
    intro S X rows r S' X' h hs
    simp only [slayRows, Option.some.injEq, Prod.mk.injEq] at h
    obtain ⟨⟨rfl, rfl⟩, rfl⟩ := h
    exact ⟨rfl, hs⟩
  | cons p ps ih =>
    intro S X rows r S' X' h hs
    obtain ⟨i, o⟩ := p
    simp only [slayRows, Option.bind_eq_some_iff] at h
    obtain ⟨⟨⟨b, l, S1⟩, X1⟩, hx, h⟩ := h
    split at h
    · rename_i hl
      simp only at hl h
      obtain ⟨h1, h2⟩ := ih h hs
      obtain ⟨h3, h4⟩ := stPV_den hx h2
      refine ⟨?_, h4⟩
      rw [List.map_set] at h1
      simp [layRows, h3, hl, h1]
    · cases h

/-! ### Rows -/
theorem pget_snoc {p : PV} {pre : Path} {s i j : Nat} {q : PV} : pget p (pre ++ [(s, i, j)]) = some q ↔ ∃ xs row, pget p pre = some (.sl s xs) ∧ xs[i]? = some row ∧ row[j]? = some q := by
  induction pre generalizing p with
  | nil =>
    cases p with
    | sl sz xs =>
      simp only [List.nil_append, pget]
      constructor
      · intro h
        split at h
        · rename_i hs
          split at h
          · rename_i r hr
            split at h
            · rename_i q' hq
              simp only [Option.some.injEq] at h
              exact ⟨xs, r, by rw [hs], hr, by rw [hq, h]⟩
            · cases h
          · cases h
        · cases h
      · rintro ⟨xs', row, he, hr, hq⟩
        simp only [Option.some.injEq, PV.sl.injEq] at he
        obtain ⟨rfl, rfl⟩ := he
        simp [hr, hq]
    | _ => simp [pget]
  | cons x pre ih =>
    obtain ⟨s', i', j'⟩ := x
    cases p with
    | sl sz xs =>
      simp only [List.cons_append, pget]
      split
      · split
        · split
          · exact ih
          · simp
        · simp
      · simp
    | _ => simp [pget]

theorem SPath.den_append {env} {p q : SPath} : SPath.den env (p ++ q) = SPath.den env p ++ SPath.den env q := by simp [SPath.den]

def getsAt (n : Nat) (a : At) (pre : SPath) (s : Nat) (i : At) : Nat → Ls → List Bool → List At × Ls
  | j, X, [] => ([], X)
  | j, X, fl :: fls =>
    let r := getsAt n a pre s i (j + 1) (X ++ [⟨.get (spathP (pre ++ [(s, i, j)])), a :: spathI (pre ++ [(s, i, j)]), fl⟩]) fls
    (nw n X fl :: r.1, r.2)
theorem get_sat {env n X a path fl} (h : Sat env n (X ++ [⟨.get (spathP path), a :: spathI path, fl⟩])) : pget (a.den env) (SPath.den env path) = some ((nw n X fl).den env) := by
  obtain ⟨h1, h2⟩ := h.last
  have hz := zipPath_den (env := env) path []
  rw [List.append_nil] at hz
  rw [← hz]
  exact h1
theorem getsAt_sat {env n a pre s i} : ∀ {fls j X}, Sat env n (getsAt n a pre s i j X fls).2 → Sat env n X := by
  intro fls
  induction fls with
  | nil => intro j X h; exact h
  | cons fl fls ih => intro j X h; exact (ih (j := j + 1) h).pre
theorem getsAt_den {env n a pre s i} {row : List PV} : ∀ {fls j X}, (∀ q j', pget (a.den env) (SPath.den env pre ++ [(s, idxNat (i.den env), j')]) = some q → row[j']? = some q) →
    Sat env n (getsAt n a pre s i j X fls).2 → (row.drop j).take fls.length = (getsAt n a pre s i j X fls).1.map (At.den env) ∧ (fls ≠ [] → j + fls.length ≤ row.length) := by
  intro fls
  induction fls with
  | nil => intro j X _ _; simp [getsAt]
  | cons fl fls ih =>
    intro j X hr h
    obtain ⟨h1, h2⟩ := ih (j := j + 1) hr h
    have hq := get_sat (getsAt_sat (j := j + 1) h)
    rw [SPath.den_append] at hq
    have hj := hr _ _ hq
    obtain ⟨hlt, hj'⟩ := List.getElem?_eq_some_iff.1 hj
    have hlt : j < row.length := hlt
    constructor
    · rw [List.drop_eq_getElem_cons hlt, List.length_cons, List.take_succ_cons, h1, hj']
      rfl
    · intro _
      cases fls with
      | nil => simp; omega
      | cons x y => have := h2 (by simp); simp at this ⊢; omega

def scellAt (r c : Nat) (l : Lev) (one : Bool) (pre : SPath) (s : Nat) (i : At) (j : Nat) (a : At) : SCell :=
  if a.fl then .val .deep a else
  match l with
  | .deep => .view r c (pre ++ [(s, i, j)])
  | .oldR => if one then .val .old a else .val .bor a
  | .old => .val .old a
  | _ => .val .bor a
def scellsAt (r c : Nat) (l : Lev) (one : Bool) (pre : SPath) (s : Nat) (i : At) (j : Nat) : List At → List SCell
  | [] => []
  | a :: as => scellAt r c l one pre s i j a :: scellsAt r c l one pre s i (j + 1) as
theorem scellAt_den {env r c l one pre s i j} (a : At) : (scellAt r c l one pre s i j a).den env = cellAt r c l one (SPath.den env pre) s (idxNat (i.den env)) j (a.den env) := by
  unfold scellAt cellAt
  rw [At.den_flat, apply_ite (SCell.den env)]
  congr 1
  cases l <;> simp only [SCell.den, SPath.den_append] <;> try rfl
  cases one <;> rfl
theorem scellsAt_den {env r c l one pre s i} : ∀ {as : List At} {j}, (scellsAt r c l one pre s i j as).map (SCell.den env) = cellsAt r c l one (SPath.den env pre) s (idxNat (i.den env)) j (as.map (At.den env)) := by
  intro as
  induction as with
  | nil => intro j; rfl
  | cons a as ih => intro j; simp only [scellsAt, List.map_cons, cellsAt, scellAt_den, ih]

def splaceSplit : SPath → Option (SPath × Nat × At × Nat)
  | [] => none
  | [x] => some ([], x)
  | x :: y :: t => (splaceSplit (y :: t)).map fun z => (x :: z.1, z.2)
theorem splaceSplit_den {env} : ∀ {p : SPath} {pre s i j}, splaceSplit p = some (pre, s, i, j) → placeSplit (SPath.den env p) = some (SPath.den env pre, s, idxNat (i.den env), j) := by
  intro p
  induction p with
  | nil => intro pre s i j h; simp [splaceSplit] at h
  | cons x p ih =>
    intro pre s i j h
    cases p with
    | nil =>
      simp only [splaceSplit, Option.some.injEq, Prod.mk.injEq] at h
      obtain ⟨rfl, rfl⟩ := h
      rfl
    | cons y t =>
      simp only [splaceSplit, Option.map_eq_some_iff] at h
      obtain ⟨⟨pre', s', i', j'⟩, hz, he⟩ := h
      simp only [Prod.mk.injEq] at he
      obtain ⟨rfl, rfl, rfl, rfl⟩ := he
      have := ih hz
      show placeSplit (_ :: _ :: _) = _
      simp only [placeSplit]
      simp only [SPath.den, List.map_cons] at this ⊢
      rw [this]
      rfl
def spathOff (off : Nat) : SPath → SPath
  | [] => []
  | [(s, i, j)] => [(s, i, j + off)]
  | x :: y :: t => x :: spathOff off (y :: t)
theorem spathOff_den {env off} : ∀ {p : SPath}, SPath.den env (spathOff off p) = pathOff off (SPath.den env p) := by
  intro p
  induction p with
  | nil => rfl
  | cons x p ih =>
    cases p with
    | nil => rfl
    | cons y t =>
      show _ :: SPath.den env (spathOff off (y :: t)) = _ :: pathOff off (SPath.den env (y :: t))
      rw [ih]

def STV.ofCells (agg : Bool) (cs : List SCell) : Option STV :=
  if agg then some (.agg cs) else match cs with
    | [c] => some (.one c)
    | _ => none
theorem STV.ofCells_den {env agg cs v} (h : STV.ofCells agg cs = some v) : TV.ofCells agg (cs.map (SCell.den env)) = some (v.den env) := by
  unfold STV.ofCells at h
  unfold TV.ofCells
  split at h
  · rename_i ha
    simp only [Option.some.injEq] at h
    subst h
    rw [if_pos ha]; rfl
  · rename_i ha
    rw [if_neg ha]
    split at h
    · simp only [Option.some.injEq] at h
      subst h
      rfl
    · cases h

def sasPlace (S : SSt) (p : Nat) : STV :=
  match S.g p with
  | .box _ => .place p 0 []
  | tv => tv
theorem sasPlace_den {env S p} : asPlace (SSt.den env S) p = (sasPlace S p).den env := by
  unfold asPlace sasPlace
  rw [SSt.g_den]
  cases S.g p <;> rfl

def sloadAt (n : Nat) (S : SSt) (X : Ls) (rs : List Nat) (fls : List Bool) : STV → Option (List SCell × Ls)
  | .ep l sz a i off => if fls.isEmpty then none else
    let r := getsAt n a [] sz i off X fls
    some (r.1.map fun b => .val (borL' l b.fl) b, r.2)
  | .place r c [] =>
    if rs.elem r then
      match S.g r with
      | .box cs => if c + fls.length ≤ cs.length then some (sboxCells r c ((cs.drop c).take fls.length), X) else none
      | _ => none
    else none
  | .place r c (x :: path) =>
    if rs.elem r && !fls.isEmpty then
      match splaceSplit (x :: path), srootCell S r c with
      | some (pre, s, i, j), .val l a =>
        let r' := getsAt n a pre s i j X fls
        some (scellsAt r c l pre.isEmpty pre s i j r'.1, r'.2)
      | _, _ => none
    else none
  | _ => none
theorem getsAt_row {env n a pre s i fls j X} (hne : fls ≠ []) (h : Sat env n (getsAt n a pre s i j X fls).2) : ∃ xs row, pget (a.den env) (SPath.den env pre) = some (.sl s xs) ∧ xs[idxNat (i.den env)]? = some row ∧
    (row.drop j).take fls.length = (getsAt n a pre s i j X fls).1.map (At.den env) ∧ j + fls.length ≤ row.length := by
  cases fls with
  | nil => exact absurd rfl hne
  | cons fl fls =>
    have hq := get_sat (getsAt_sat (j := j + 1) h)
    rw [SPath.den_append] at hq
    obtain ⟨xs, row, h1, h2, h3⟩ := pget_snoc.1 hq
    obtain ⟨h4, h5⟩ := getsAt_den (row := row) (fun q j' hq' => by
      obtain ⟨xs', row', k1, k2, k3⟩ := pget_snoc.1 hq'
      rw [h1] at k1
      simp only [Option.some.injEq, PV.sl.injEq, true_and] at k1
      subst k1
      rw [h2] at k2
      simp only [Option.some.injEq] at k2
      subst k2
      exact k3) h
    exact ⟨xs, row, h1, h2, h4, h5 hne⟩
theorem sloadAt_den {env n S X rs fls tv cs X'} (h : sloadAt n S X rs fls tv = some (cs, X')) (hs : Sat env n X') : loadAt (SSt.den env S) rs fls.length (tv.den env) = some (cs.map (SCell.den env)) ∧ Sat env n X := by
  unfold sloadAt at h
  split at h
  · rename_i l sz a i off
    split at h
    · cases h
    · rename_i hne
      simp only [Option.some.injEq, Prod.mk.injEq] at h
      obtain ⟨rfl, rfl⟩ := h
      refine ⟨?_, getsAt_sat hs⟩
      obtain ⟨xs, row, h1, h2, h3, h4⟩ := getsAt_row (by simpa using hne) hs
      simp only [SPath.den, List.map_nil, pget, Option.some.injEq] at h1
      have hrow : rowOf (At.den env a) (idxNat (At.den env i)) = row := by rw [h1]; simp [rowOf, h2]
      simp only [STV.den, loadAt, hrow, if_pos h4, h3]
      simp [SCell.den, Function.comp_def, borL'_eq, At.den_flat]
  · rename_i r c
    split at h
    · rename_i hr
      split at h
      · rename_i cs' hc
        split at h
        · rename_i hl
          simp only [Option.some.injEq, Prod.mk.injEq] at h
          obtain ⟨rfl, rfl⟩ := h
          refine ⟨?_, hs⟩
          have : loadAt (SSt.den env S) rs fls.length (.place r c []) = some (boxCells r c (((cs'.map (SCell.den env)).drop c).take fls.length)) := by
            simp only [loadAt, hr, if_true, SSt.g_den, hc, STV.den, List.length_map, if_pos hl]
          rw [sboxCells_den, List.map_take, List.map_drop]
          exact this
        · cases h
      · cases h
    · cases h
  · rename_i r c x path
    split at h
    · rename_i hr
      simp only [Bool.and_eq_true, Bool.not_eq_true'] at hr
      split at h
      · rename_i pre s i j l a hp ha
        simp only [Option.some.injEq, Prod.mk.injEq] at h
        obtain ⟨rfl, rfl⟩ := h
        refine ⟨?_, getsAt_sat hs⟩
        obtain ⟨xs, row, h1, h2, h3, h4⟩ := getsAt_row (by intro hn; simp [hn] at hr) hs
        have hp' := splaceSplit_den (env := env) hp
        have he : List.isEmpty (SPath.den env pre) = List.isEmpty pre := by simp [SPath.den]
        have hc : SPath.den env (x :: path) = (x.1, idxNat (x.2.1.den env), x.2.2) :: SPath.den env path := rfl
        rw [hc] at hp'
        simp only [STV.den, hc, loadAt, hr.1, if_true, hp', srootCell_den, ha, SCell.den, h1, h2, if_pos h4, he, h3, scellsAt_den]
      · cases h
    · cases h
  · cases h

/-! ### Levels -/
def sokCell (want : Lev) (x : Lev × At) : Bool :=
  x.2.fl || match want with
    | .deep => x.1 == .deep
    | .oldR => x.1 == .old
    | .borR => true
    | _ => false
theorem sokCell_den {env want} (x : Lev × At) : okCell want (dLA env x) = sokCell want x := by
  unfold okCell sokCell dLA
  rw [At.den_flat]
  cases want <;> rfl
def sokCells (want : Lev) (l : List (Lev × At)) : Bool := l.all (sokCell want)
theorem sokCells_den {env want} (l : List (Lev × At)) : okCells want (l.map (dLA env)) = sokCells want l := by
  simp [okCells, sokCells, Function.comp_def, sokCell_den]
def sokStore (l : Lev) (one : Bool) (news : List (Lev × At)) : Bool :=
  match l with
  | .deep => sokCells .deep news
  | .oldR => one && sokCells .oldR news
  | _ => false
theorem sokStore_den {env l one} (x : List (Lev × At)) : okStore l one (x.map (dLA env)) = sokStore l one x := by
  cases l <;> simp [okStore, sokStore, sokCells_den]

def sstoreAt (n : Nat) (S : SSt) (X : Ls) (rs : List Nat) (P : STV) (news : List SCell) : Option (SSt × Ls) :=
  match P with
  | .place r c [] =>
    if rs.elem r then
      match S.g r with
      | .box cs => (slay (cs.map (skillBoxC r c news.length)) c (news.map (skillBoxC r c news.length))).map fun cs' => ((skillBox r c news.length S).set r (.box cs'), X)
      | _ => none
    else none
  | .place r c (x :: path) =>
    if rs.elem r then
      (stVals n S rs X news).bind fun y =>
      match srootCell S r c with
      | .val l a =>
        if sokStore l path.isEmpty y.1 then
          some (ssetRoot (skillElem r c S) r c (.val l (nw n y.2 false)), y.2 ++ [⟨.set (spathP (x :: path)), a :: (spathI (x :: path) ++ y.1.map (·.2)), false⟩])
        else none
      | _ => none
    else none
  | _ => none
theorem sstoreAt_den {env n S X rs P news S' X'} (h : sstoreAt n S X rs P news = some (S', X')) (hs : Sat env n X') :
    storeAt (SSt.den env S) rs (P.den env) (news.map (SCell.den env)) = some (SSt.den env S') ∧ Sat env n X := by
  unfold sstoreAt at h
  split at h
  · rename_i r c
    split at h
    · rename_i hr
      split at h
      · rename_i cs hc
        simp only [Option.map_eq_some_iff, Prod.mk.injEq] at h
        obtain ⟨cs', h1, rfl, rfl⟩ := h
        refine ⟨?_, hs⟩
        have h2 := slay_den (env := env) h1
        simp only [List.map_map, Function.comp_def, skillBoxC_den] at h2
        have h3 : storeAt (SSt.den env S) rs (.place r c []) (news.map (SCell.den env)) = some ((killBox r c news.length (SSt.den env S)).set r (.box (cs'.map (SCell.den env)))) := by
          simp only [storeAt, hr, if_true, SSt.g_den, hc, STV.den, List.length_map, List.map_map, Function.comp_def]
          rw [h2]; rfl
        rw [SSt.set_den, skillBox_den]
        exact h3
      · cases h
    · cases h
  · rename_i r c x path
    split at h
    · rename_i hr
      simp only [Option.bind_eq_some_iff] at h
      obtain ⟨⟨ys, X1⟩, hy, h⟩ := h
      split at h
      · rename_i l a ha
        split at h
        · rename_i hok
          simp only [Option.some.injEq, Prod.mk.injEq] at h
          obtain ⟨rfl, rfl⟩ := h
          obtain ⟨h1, h2⟩ := hs.last
          obtain ⟨h3, h4⟩ := stVals_den hy hs.pre
          refine ⟨?_, h4⟩
          have hz := zipPath_den (env := env) (x :: path) (ys.map fun y => y.2.den env)
          have hd : (List.drop (spathP (x :: path)).length (List.map (At.den env) (spathI (x :: path)) ++ List.map (fun y => At.den env y.snd) ys)) = ys.map fun y => y.2.den env := by
            have : (spathP (x :: path)).length = ((spathI (x :: path)).map (At.den env)).length := by simp [spathP, spathI]
            rw [this, List.drop_left]
          have h1' : pset (a.den env) (zipPath (spathP (x :: path)) (List.map (At.den env) (spathI (x :: path)) ++ List.map (fun y => At.den env y.snd) ys))
              (List.drop (spathP (x :: path)).length (List.map (At.den env) (spathI (x :: path)) ++ List.map (fun y => At.den env y.snd) ys)) = some ((nw n X1 false).den env) := by
            rw [← h1]
            simp only [primDen, List.map_cons, List.map_append, List.map_map, Function.comp_def]
          rw [hz, hd] at h1'
          have he : List.isEmpty (SPath.den env path) = List.isEmpty path := by simp [SPath.den]
          have hok' : okStore l (List.isEmpty (SPath.den env path)) (ys.map (dLA env)) = true := by rw [sokStore_den, he]; exact hok
          have hc : SPath.den env (x :: path) = (x.1, idxNat (x.2.1.den env), x.2.2) :: SPath.den env path := rfl
          have hm : (ys.map (dLA env)).map (·.2) = ys.map fun y => y.2.den env := by simp [Function.comp_def, dLA]
          rw [hc] at h1'
          rw [ssetRoot_den, skillElem_den (k := (SPath.den env (x :: path)).dropLast)]
          simp only [STV.den, hc, storeAt, hr, if_true, srootCell_den, ha, SCell.den, h3, hok', hm, h1', Option.map_some]
        · cases h
      · cases h
    · cases h
  · cases h

/-! ### Numbers -/
theorem nat?_idx {p m} (h : nat? p = some m) : idxNat p = m := by
  cases p <;> simp [nat?] at h
  simp [idxNat, h.2]
theorem natOf_of {S o l p m} (h : bOne S o = some (l, p)) (hm : nat? p = some m) : natOf S o = some m := by
  cases p <;> simp [nat?] at hm
  simp [natOf, h, hm]
def soptNat (n : Nat) (S : SSt) (X : Ls) : Option AOpnd → Option (List At × Ls)
  | none => some ([], X)
  | some o => (sbOne n S X o).map fun x => ([x.1.2], x.2)
theorem soptNat_den {env n S X o as X'} (h : soptNat n S X o = some (as, X')) (hs : Sat env n X') : Sat env n X ∧
    ∀ d rest m r', optArg o.isSome d (as.map (At.den env) ++ rest) = some (m, r') → optNat (SSt.den env S) o d = some m ∧ r' = rest := by
  cases o with
  | none =>
    simp only [soptNat, Option.some.injEq, Prod.mk.injEq] at h
    obtain ⟨rfl, rfl⟩ := h
    refine ⟨hs, fun d rest m r' hm => ?_⟩
    simp [optArg] at hm
    simp [optNat, hm.1, hm.2]
  | some o =>
    simp only [soptNat, Option.map_eq_some_iff, Prod.mk.injEq] at h
    obtain ⟨⟨⟨l, a⟩, X1⟩, hx, rfl, rfl⟩ := h
    obtain ⟨h1, h2⟩ := sbOne_den hx hs
    refine ⟨h2, fun d rest m r' hm => ?_⟩
    simp [optArg] at hm
    obtain ⟨m', hm1, rfl, rfl⟩ := hm
    exact ⟨natOf_of h1 hm1, rfl⟩
end Go.Proofs.Ytkiliooegoldoaa

/- One operation on a symbolic state: the step. -/
set_option linter.unusedVariables false
set_option linter.unusedSimpArgs false
namespace Go.Proofs.Ytkiliooegoldoaa
open Go

def sret (S : SSt) (X : Ls) (d : Option Nat) (v : STV) : Option (SSt × Ls) := (sput false S d v).map fun S' => (S', X)
def semit (n : Nat) (S : SSt) (X : Ls) (d : Option Nat) (p : Prim) (as : List At) (l : Lev) (fl : Bool) : Option (SSt × Ls) :=
  sret S (X ++ [⟨p, as, fl⟩]) d (.one (.val l (nw n X fl)))
theorem sret_den {env n S X d v S' X'} (h : sret S X d v = some (S', X')) (hs : Sat env n X') : put false (SSt.den env S) d (v.den env) = some (SSt.den env S') ∧ Sat env n X := by
  simp only [sret, Option.map_eq_some_iff, Prod.mk.injEq] at h
  obtain ⟨S1, h1, rfl, rfl⟩ := h
  exact ⟨sput_den h1, hs⟩
theorem semit_den {env n S X d p as l fl S' X'} (h : semit n S X d p as l fl = some (S', X')) (hs : Sat env n X') : ∃ q, primDen p (as.map (At.den env)) = some q ∧ q.flat = fl ∧
    put false (SSt.den env S) d (.one (.val l q)) = some (SSt.den env S') ∧ Sat env n X := by
  obtain ⟨h1, h2⟩ := sret_den h hs
  exact ⟨_, h2.last.1, h2.last.2, h1, h2.pre⟩

def isEmptySl : PV → Bool
  | .sl _ [] => true
  | _ => false

def appC1 (lev l : Lev) : Bool := match lev, l with | .oldR, .deep => true | _, _ => false
def appK1 (lev l : Lev) : Bool := match lev, l with | .deep, .deep => true | .oldR, .oldR => true | .borR, .borR => true | .borR, .deep => true | .borR, .oldR => true | .oldR, .deep => true | _, _ => false
def appK2 (lev l : Lev) : Bool := match lev, l with | .deep, .deep => true | .oldR, .old => true | .oldR, .oldR => true | .borR, _ => true | _, _ => false

def sstep (n : Nat) (S : SSt) (d : Option Nat) (fls : List Bool) : AOp → Option (SSt × Ls)
  | .mv g (.c p) => (sput g S d (.one (.val .deep (.c p)))).map fun S' => (S', [])
  | .mv g (.t m _) => match S.g m with
    | .one (.val l a) => (sput g S d (.one (if a.fl then .val .deep a else if isOwn l then .view m 0 [] else .val (borL' l a.fl) a))).map fun S' => (S', [])
    | .one (.view r c path) => (sput g S d (.one (.view r c path))).map fun S' => (S', [])
    | .agg cs => (sput g S d (.agg (sboxCells m 0 cs))).map fun S' => (S', [])
    | .box _ => (sput g S d (.place m 0 [])).map fun S' => (S', [])
    | .place r c path => (sput g S d (.place r c path)).map fun S' => (S', [])
    | .ep l sz a i off => (sput g S d (.ep l sz a i off)).map fun S' => (S', [])
    | _ => none
  | .take g x => (stAny S x).bind fun y => (STV.ofCells y.1 y.2.1).bind fun v => (sput g y.2.2 d v).map fun S' => (S', [])
  | .mvT (.t m _) => match S.g m with
    | .tup vs => sret (S.set m .dead) [] d (.tup vs)
    | _ => none
  | .pick c a b => (sbOne n S [] c).bind fun x => match x.1.2 with
    | .c (.bool t) => (sbOne n S x.2 (if t then a else b)).bind fun y => if y.1.2.fl then sret S y.2 d (.one (.val .deep y.1.2)) else none
    | p => (sbOne n S x.2 a).bind fun y => (sbOne n S y.2 b).bind fun z =>
      if y.1.2.fl && z.1.2.fl then semit n S z.2 d .pick [p, y.1.2, z.1.2] .deep true else none
  | .alloc g cs ls => if ls.length = cs.length ∧ (cs.zip ls).all (fun x => x.1.flat || (isOwn x.2 && isEmptySl x.1))
      then (sput g S d (.box ((cs.zip ls).map fun x => .val (if x.1.flat then .deep else x.2) (.c x.1)))).map fun S' => (S', []) else none
  | .box g x => (stAny S x).bind fun y => (sput g y.2.2 d (.box y.2.1)).map fun S' => (S', [])
  | .build zs parts => (slayAll S (zs.map fun z => .val .deep (.c z)) parts).bind fun y => sret y.2 [] d (.agg y.1)
  | .mkSl lev sz zs len parts => (slayRows n S [] sz (List.replicate len (zs.map fun z => (Lev.deep, At.c z))) parts).bind fun y =>
      if zs.length = sz ∧ y.1.1.all (sokCells lev) then semit n y.1.2 y.2 d (.mk sz (y.1.1.map List.length)) (y.1.1.flatten.map (·.2)) lev false else none
  | .load k (.t p rs) => if fls.length = k.getD 1 then (sloadAt n S [] rs fls (sasPlace S p)).bind fun cs => (STV.ofCells k.isSome cs.1).bind fun v => sret S cs.2 d v else none
  | .store k (.t p rs) x => if d.isSome then none else (stAny S x).bind fun y => if y.2.1.length = k then sstoreAt n y.2.2 [] rs (sasPlace y.2.2 p) y.2.1 else none
  | .bin op x y => (sbOne n S [] x).bind fun x => (sbOne n S x.2 y).bind fun y => semit n S y.2 d (.bin op) [x.1.2, y.1.2] .deep true
  | .eqB neg x y => (sbOne n S [] x).bind fun x => (sbOne n S x.2 y).bind fun y => semit n S y.2 d (.eqB neg) [x.1.2, y.1.2] .deep true
  | .eqAgg neg ks x y => (sbAny n S [] x).bind fun x => (sbAny n S x.2 y).bind fun y =>
      if x.1.1 && y.1.1 && x.1.2.length == ks.length then semit n S y.2 d (.eqAgg neg ks) (x.1.2.map (·.2) ++ y.1.2.map (·.2)) .deep true else none
  | .un op x => (sbOne n S [] x).bind fun x => match op, x.1.2 with
    | .not, .c (.bool b) => sret S x.2 d (.one (.val .deep (.c (.bool (!b)))))
    | op, p => semit n S x.2 d (.un op) [p] .deep true
  | .convInt k x => (sbOne n S [] x).bind fun x => semit n S x.2 d (.conv k) [x.1.2] .deep true
  | .bytesStr x => (sbOne n S [] x).bind fun x => semit n S x.2 d .bytesStr [x.1.2] .deep true
  | .make lev sz zs len => (sbOne n S [] len).bind fun x => if isOwn lev && zs.all zeroPV && zs.length == sz then semit n S x.2 d (.make sz zs) [x.1.2] lev false else none
  | .sliceS x lo hi => (sbOne n S [] x).bind fun x => (soptNat n S x.2 lo).bind fun y => (soptNat n S y.2 hi).bind fun z =>
      semit n S z.2 d (.subS lo.isSome hi.isSome) (x.1.2 :: (y.1 ++ z.1)) .deep true
  | .slice sz x lo hi mx => (sbOne n S [] x).bind fun x => (soptNat n S x.2 lo).bind fun y => (soptNat n S y.2 hi).bind fun z => (soptNat n S z.2 mx).bind fun u =>
      if mx.isSome && !hi.isSome then none else semit n S u.2 d (.sub sz lo.isSome hi.isSome mx.isSome) (x.1.2 :: (y.1 ++ (z.1 ++ u.1))) (if x.1.1 = .old then .old else .bor) false
  | .faddr off (.t p rs) => match S.g p with
    | .place r c [] => sret S [] d (.place r (c + off) [])
    | .place r c (x :: path) => if rs.elem r then match srootCell S r c with
      | .val _ _ => sret S [] d (.place r c (spathOff off (x :: path)))
      | _ => none else none
    | .ep l sz a i o => sret S [] d (.ep l sz a i (o + off))
    | .box _ => sret S [] d (.place p off [])
    | _ => none
  | .field off k x => match stAny S x with
    | some (true, cs, S') => if off + k.getD 1 ≤ cs.length then (STV.ofCells k.isSome ((cs.drop off).take (k.getD 1))).bind fun v => sret S' [] d v else none
    | _ => none
  | .iaddr sz (.t m rs) i => match S.g m with
    | .one (.view r c path) => (sbOne n S [] i).bind fun y => (sbCell n S rs y.2 (.view r c path)).bind fun x =>
        sret S (x.2 ++ [⟨.inb sz, [x.1.2, y.1.2], true⟩]) d (.place r c (path ++ [(sz, y.1.2, 0)]))
    | .one (.val l a) => (sbOne n S [] i).bind fun y =>
        sret S (y.2 ++ [⟨.inb sz, [a, y.1.2], true⟩]) d (if isOwn l then .place m 0 [(sz, y.1.2, 0)] else .ep (if l = .old then .old else .bor) sz a y.1.2 0)
    | _ => none
  | .index x i => (sbOne n S [] x).bind fun x => (sbOne n S x.2 i).bind fun y => semit n S y.2 d .ix [x.1.2, y.1.2] .deep true
  | .extract i (.t m _) => match S.g m with
    | .tup vs => match vs[i]? with
      | some x => (STV.ofCells x.1 x.2).bind fun v => sret (S.set m (.tup (vs.set i (x.1, x.2.map fun _ => .dead)))) [] d v
      | none => none
    | _ => none
  | .len x => (sbOne n S [] x).bind fun x => semit n S x.2 d .len [x.1.2] .deep true
  | .lenS x => (sbOne n S [] x).bind fun x => semit n S x.2 d .lenS [x.1.2] .deep true
  | .append lev sz bytes x y => (stPV n S [] x).bind fun a => (stPV n a.1.2.2 a.2 y).bind fun b =>
      match a.1.1, a.1.2.1, b.1.1, b.1.2.1 with
      | false, [(l, p)], false, [(l', q)] =>
        if isOwn l && isOwn lev && appK1 lev l then semit n b.1.2.2 b.2 d (.app sz bytes (appC1 lev l) (!appK2 lev l')) [p, q] lev false else none
      | _, _, _, _ => none
  | .appendStr x y => (stPV n S [] x).bind fun a => (sbOne n a.1.2.2 a.2 y).bind fun b =>
      match a.1.1, a.1.2.1 with
      | false, [(l, p)] => if l = .deep then semit n a.1.2.2 b.2 d .appStr [p, b.1.2] .deep false else none
      | _, _ => none
  | .max x y => (sbOne n S [] x).bind fun x => (sbOne n S x.2 y).bind fun y => semit n S y.2 d .max [x.1.2, y.1.2] .deep true
  | .min x y => (sbOne n S [] x).bind fun x => (sbOne n S x.2 y).bind fun y => semit n S y.2 d .min [x.1.2, y.1.2] .deep true
  | .nilchk (.t m _) => match S.g m with
    | .box _ => sret S [] d (.place m 0 [])
    | .place r c [] => sret S [] d (.place r c [])
    | .ep l sz a i off => sret S [] d (.ep l sz a i off)
    | _ => none
  | _ => none

theorem splitBy_flatten {α : Type} : ∀ (l : List (List α)), splitBy (l.map List.length) l.flatten = l := by
  intro l
  induction l with
  | nil => rfl
  | cons x l ih => simp [splitBy, ih]
theorem map_sput {g S d v S' X env} (h : (sput g S d v).map (fun S' => (S', ([] : Ls))) = some (S', X)) : put g (SSt.den env S) d (v.den env) = some (SSt.den env S') := by
  simp only [Option.map_eq_some_iff, Prod.mk.injEq] at h
  obtain ⟨S1, h1, rfl, _⟩ := h
  exact sput_den h1

theorem sstep_den {env n S d fls op S' X} (h : sstep n S d fls op = some (S', X)) (hs : Sat env n X) : step (SSt.den env S) d op = some (SSt.den env S') := by
  cases op with
  | mv g x =>
    cases x with
    | c p => exact map_sput h
    | t m rs =>
      simp only [sstep] at h
      simp only [step, SSt.g_den]
      split at h <;> rename_i hm <;> simp only [hm, STV.den, SCell.den]
      · have := map_sput (env := env) h
        simp only [STV.den, apply_ite (SCell.den env)] at this
        simp only [SCell.den, SPath.den, List.map_nil] at this
        simp only [At.den_flat, borL'_eq]
        exact this
      · exact map_sput h
      · rw [← sboxCells_den]; exact map_sput h
      · exact map_sput h
      · exact map_sput h
      · exact map_sput h
      · cases h
  | take g x =>
    simp only [sstep, Option.bind_eq_some_iff] at h
    obtain ⟨⟨b, r, S1⟩, h1, v, h2, h3⟩ := h
    simp only [step, stAny_den h1, Option.bind_some, STV.ofCells_den h2]
    exact map_sput h3
  | mvT x =>
    cases x with
    | c p => simp [sstep] at h
    | t m rs =>
      simp only [sstep] at h
      split at h
      · rename_i vs hm
        obtain ⟨h3, _⟩ := sret_den h hs
        rw [SSt.set_den] at h3
        simp only [step, SSt.g_den, hm, STV.den] at h3 ⊢
        exact h3
      · cases h
  | pick c a b =>
    simp only [sstep, Option.bind_eq_some_iff] at h
    obtain ⟨⟨⟨l1, a1⟩, X1⟩, h1, h⟩ := h
    split at h
    · rename_i t e1
      simp only at e1
      subst e1
      simp only [Option.bind_eq_some_iff] at h
      obtain ⟨⟨⟨l2, a2⟩, X2⟩, h2, h⟩ := h
      split at h
      · rename_i hfl
        obtain ⟨hp, hs2⟩ := sret_den h hs
        obtain ⟨k2, hs1⟩ := sbOne_den h2 hs2
        obtain ⟨k1, _⟩ := sbOne_den h1 hs1
        simp only [dLA] at k1 k2
        have k1' : bOne (SSt.den env S) c = some (l1, .bool t) := k1
        simp only [step, k1', k2, At.den_flat]
        rw [if_pos hfl]
        exact hp
      · cases h
    · rename_i p hne
      simp only [Option.bind_eq_some_iff] at h
      obtain ⟨⟨⟨l2, a2⟩, X2⟩, h2, ⟨⟨l3, a3⟩, X3⟩, h3, h⟩ := h
      split at h
      · rename_i hfl
        simp only [Bool.and_eq_true] at hfl
        obtain ⟨q, hq, hf, hp, hs3⟩ := semit_den h hs
        obtain ⟨k3, hs2⟩ := sbOne_den h3 hs3
        obtain ⟨k2, hs1⟩ := sbOne_den h2 hs2
        obtain ⟨k1, _⟩ := sbOne_den h1 hs1
        simp only [dLA] at k1 k2 k3
        simp only [primDen, List.map_cons, List.map_nil] at hq
        split at hq
        · rename_i t u w heq
          simp only [List.cons.injEq, and_true] at heq
          obtain ⟨e1, e2, e3⟩ := heq
          simp only [Option.some.injEq] at hq
          simp only [step, k1, e1]
          cases t
          · have : bOne (SSt.den env S) (if false = true then a else b) = some (l3, a3.den env) := k3
            rw [this]
            simp only [At.den_flat]
            rw [if_pos hfl.2]
            simp only [Bool.false_eq_true, if_false] at hq
            rw [e3, hq]; exact hp
          · have : bOne (SSt.den env S) (if true = true then a else b) = some (l2, a2.den env) := k2
            rw [this]
            simp only [At.den_flat]
            rw [if_pos hfl.1]
            simp only [if_true] at hq
            rw [e2, hq]; exact hp
        · cases hq
      · cases h
  | alloc g cs ls =>
    simp only [sstep] at h
    split at h
    · rename_i hc
      simp only [step]
      split
      · have := map_sput (env := env) h
        simp only [STV.den, List.map_map, Function.comp_def, SCell.den, At.den] at this
        exact this
      · rename_i hn
        exact absurd hc hn
    · cases h
  | box g x =>
    simp only [sstep, Option.bind_eq_some_iff] at h
    obtain ⟨⟨b, r, S1⟩, h1, h3⟩ := h
    simp only [step, stAny_den h1, Option.bind_some]
    exact map_sput h3
  | boxV x => simp [sstep] at h
  | build zs parts =>
    simp only [sstep, Option.bind_eq_some_iff] at h
    obtain ⟨⟨cs, S1⟩, h1, h2⟩ := h
    have h3 := slayAll_den (env := env) h1
    have hz : (zs.map fun z => SCell.val .deep (.c z)).map (SCell.den env) = zeroCells zs := by simp [zeroCells, Function.comp_def, SCell.den, At.den]
    rw [hz] at h3
    simp only [step, h3, Option.bind_some]
    exact (sret_den h2 hs).1
  | mkSl lev sz zs len parts =>
    simp only [sstep, Option.bind_eq_some_iff] at h
    obtain ⟨⟨⟨rows, S1⟩, X1⟩, h1, h⟩ := h
    split at h
    · rename_i hc
      obtain ⟨q, hq, hf, hp, hs1⟩ := semit_den h hs
      obtain ⟨h3, h4⟩ := slayRows_den h1 hs1
      have hz : (List.replicate len (zs.map fun z => (Lev.deep, At.c z))).map (fun r => r.map (dLA env)) = List.replicate len (zs.map fun z => (Lev.deep, z)) := by
        simp [Function.comp_def, dLA, At.den]
      rw [hz] at h3
      have hc' : zs.length = sz ∧ (rows.map fun r => r.map (dLA env)).all (okCells lev) = true := ⟨hc.1, by
        have := hc.2
        simp only [List.all_map, Function.comp_def, sokCells_den]
        exact this⟩
      simp only [primDen] at hq
      have hsp : splitBy (rows.map List.length) (List.map (At.den env) (List.map (·.2) rows.flatten)) = (rows.map fun r => r.map (dLA env)).map fun r => r.map (·.2) := by
        have := splitBy_flatten (rows.map fun r => r.map fun y => y.2.den env)
        simp only [List.map_map, Function.comp_def, List.length_map, dLA, List.map_flatten] at this ⊢
        exact this
      rw [hsp] at hq
      simp only [Option.some.injEq] at hq
      simp only [step, h3, Option.bind_some, if_pos hc', hq]
      exact hp
    · cases h
  | load k x =>
    cases x with
    | c p => simp [sstep] at h
    | t p rs =>
      simp only [sstep] at h
      split at h
      · rename_i hl
        simp only [Option.bind_eq_some_iff] at h
        obtain ⟨⟨cs, X1⟩, h1, v, h2, h3⟩ := h
        obtain ⟨h4, h5⟩ := sret_den h3 hs
        obtain ⟨h6, h7⟩ := sloadAt_den h1 h5
        rw [hl] at h6
        simp only [step, sasPlace_den, h6, Option.bind_some, STV.ofCells_den h2]
        exact h4
      · cases h
  | store k p x =>
    cases p with
    | c p => simp [sstep] at h
    | t p rs =>
      simp only [sstep] at h
      split at h
      · cases h
      · rename_i hd
        simp only [Option.bind_eq_some_iff] at h
        obtain ⟨⟨b, cs, S1⟩, h1, h⟩ := h
        split at h
        · rename_i hl
          obtain ⟨h2, h3⟩ := sstoreAt_den h hs
          simp only [step, hd, stAny_den h1, Option.bind_some, List.length_map]
          simp only at hl
          rw [if_pos hl, sasPlace_den]
          exact h2
        · cases h
  | bin op x y =>
    simp only [sstep, Option.bind_eq_some_iff] at h
    obtain ⟨⟨⟨l1, a1⟩, X1⟩, h1, ⟨⟨l2, a2⟩, X2⟩, h2, h⟩ := h
    obtain ⟨q, hq, hf, hp, hs2⟩ := semit_den h hs
    obtain ⟨k2, hs1⟩ := sbOne_den h2 hs2
    obtain ⟨k1, _⟩ := sbOne_den h1 hs1
    simp only [dLA] at k1 k2
    simp only [primDen, List.map_cons, List.map_nil] at hq
    simp only [step, k1, k2, hq, Option.bind_some]
    exact hp
  | eqB neg x y =>
    simp only [sstep, Option.bind_eq_some_iff] at h
    obtain ⟨⟨⟨l1, a1⟩, X1⟩, h1, ⟨⟨l2, a2⟩, X2⟩, h2, h⟩ := h
    obtain ⟨q, hq, hf, hp, hs2⟩ := semit_den h hs
    obtain ⟨k2, hs1⟩ := sbOne_den h2 hs2
    obtain ⟨k1, _⟩ := sbOne_den h1 hs1
    simp only [dLA] at k1 k2
    simp only [primDen, List.map_cons, List.map_nil] at hq
    split at hq
    · rename_i heq
      simp only [List.cons.injEq, and_true] at heq
      simp only [Option.some.injEq] at hq
      simp only [step, k1, k2, heq.1, heq.2]
      rw [hq]; exact hp
    · cases hq
  | eqAgg neg ks x y =>
    simp only [sstep, Option.bind_eq_some_iff] at h
    obtain ⟨⟨⟨b1, l1⟩, X1⟩, h1, ⟨⟨b2, l2⟩, X2⟩, h2, h⟩ := h
    split at h
    · rename_i hc
      simp only [Bool.and_eq_true, beq_iff_eq] at hc
      obtain ⟨⟨rfl, rfl⟩, hl⟩ := hc
      obtain ⟨q, hq, hf, hp, hs2⟩ := semit_den h hs
      obtain ⟨k2, hs1⟩ := sbAny_den h2 hs2
      obtain ⟨k1, _⟩ := sbAny_den h1 hs1
      simp only at k1 k2
      simp only [primDen, List.map_append, List.map_map, Function.comp_def] at hq
      have ht : List.take ks.length (l1.map (fun x => At.den env x.2) ++ l2.map (fun x => At.den env x.2)) = l1.map fun x => At.den env x.2 := by
        rw [← hl]; simp
      have hd : List.drop ks.length (l1.map (fun x => At.den env x.2) ++ l2.map (fun x => At.den env x.2)) = l2.map fun x => At.den env x.2 := by
        rw [← hl]; simp
      rw [ht, hd] at hq
      split at hq
      · rename_i hk
        simp only [List.map_map, Function.comp_def, Option.map_eq_some_iff] at hq hk
        obtain ⟨r, hr, he⟩ := hq
        have hk' : (l1.map (dLA env)).map (fun z => z.2.kind) = ks := by simpa [Function.comp_def, dLA] using hk
        have hsc : ∀ (x y : List (Lev × At)), sameCells (x.map fun x => (Lev.deep, At.den env x.2)) (y.map fun x => (Lev.deep, At.den env x.2)) = sameCells (x.map (dLA env)) (y.map (dLA env)) := by
          intro x
          induction x with
          | nil => intro y; cases y <;> rfl
          | cons a x ih =>
            intro y
            cases y with
            | nil => rfl
            | cons b y => simp only [List.map_cons, sameCells, ih, dLA]
        rw [hsc] at hr
        simp only [step, k1, k2, if_pos hk', hr, Option.bind_some]
        rw [he]; exact hp
      · cases hq
    · cases h
  | un op x =>
    simp only [sstep, Option.bind_eq_some_iff] at h
    obtain ⟨⟨⟨l1, a1⟩, X1⟩, h1, h⟩ := h
    split at h
    · rename_i b e1
      simp only at e1
      subst e1
      obtain ⟨hp, hs1⟩ := sret_den h hs
      obtain ⟨k1, _⟩ := sbOne_den h1 hs1
      have k1' : bOne (SSt.den env S) x = some (l1, .bool b) := k1
      have hu : unS .not (.bool b) = some (.bool (!b)) := rfl
      simp only [step, k1', hu, Option.bind_some]
      exact hp
    rename_i op' p hne
    obtain ⟨q, hq, hf, hp, hs1⟩ := semit_den h hs
    obtain ⟨k1, _⟩ := sbOne_den h1 hs1
    simp only [dLA] at k1
    simp only [primDen, List.map_cons, List.map_nil] at hq
    simp only [step, k1, hq, Option.bind_some]
    exact hp
  | convInt k x =>
    simp only [sstep, Option.bind_eq_some_iff] at h
    obtain ⟨⟨⟨l1, a1⟩, X1⟩, h1, h⟩ := h
    obtain ⟨q, hq, hf, hp, hs1⟩ := semit_den h hs
    obtain ⟨k1, _⟩ := sbOne_den h1 hs1
    simp only [dLA] at k1
    simp only [primDen, List.map_cons, List.map_nil] at hq
    split at hq
    · rename_i heq
      simp only [List.cons.injEq, and_true] at heq
      simp only [Option.some.injEq] at hq
      simp only [step, k1, heq]
      rw [hq]; exact hp
    · cases hq
  | bytesStr x =>
    simp only [sstep, Option.bind_eq_some_iff] at h
    obtain ⟨⟨⟨l1, a1⟩, X1⟩, h1, h⟩ := h
    obtain ⟨q, hq, hf, hp, hs1⟩ := semit_den h hs
    obtain ⟨k1, _⟩ := sbOne_den h1 hs1
    simp only [dLA] at k1
    simp only [primDen, List.map_cons, List.map_nil] at hq
    split at hq
    · rename_i heq
      simp only [List.cons.injEq, and_true] at heq
      simp only [Option.map_eq_some_iff] at hq
      obtain ⟨bl, hbl, hq⟩ := hq
      simp only [step, k1, heq, hbl, Option.bind_some]
      rw [hq]; exact hp
    · cases hq
  | make lev sz zs len =>
    simp only [sstep, Option.bind_eq_some_iff] at h
    obtain ⟨⟨⟨l1, a1⟩, X1⟩, h1, h⟩ := h
    split at h
    · rename_i hc
      simp only [Bool.and_eq_true, beq_iff_eq] at hc
      obtain ⟨q, hq, hf, hp, hs1⟩ := semit_den h hs
      obtain ⟨k1, _⟩ := sbOne_den h1 hs1
      simp only [dLA] at k1
      simp only [primDen, List.map_cons, List.map_nil, Option.bind_eq_some_iff] at hq
      obtain ⟨m, hm, hq⟩ := hq
      split at hq
      · rename_i hle
        simp only [Option.some.injEq] at hq
        simp only [step, natOf_of k1 hm]
        rw [if_pos (by simp [hc.1]), if_pos ⟨hc.2, hle⟩, hq]
        exact hp
      · cases hq
    · cases h
  | sliceS x lo hi =>
    simp only [sstep, Option.bind_eq_some_iff] at h
    obtain ⟨⟨⟨l1, a1⟩, X1⟩, h1, ⟨as, X2⟩, h2, ⟨bs, X3⟩, h3, h⟩ := h
    obtain ⟨q, hq, hf, hp, hs3⟩ := semit_den h hs
    obtain ⟨hs2, k3⟩ := soptNat_den h3 hs3
    obtain ⟨hs1, k2⟩ := soptNat_den h2 hs2
    obtain ⟨k1, _⟩ := sbOne_den h1 hs1
    simp only [dLA] at k1
    simp only [primDen, List.map_cons] at hq
    split at hq
    · rename_i s as' heq
      simp only [List.cons.injEq] at heq
      obtain ⟨e1, e2⟩ := heq
      simp only [Option.bind_eq_some_iff] at hq
      obtain ⟨⟨m1, r1⟩, o1, ⟨m2, r2⟩, o2, hq⟩ := hq
      rw [← e2, List.map_append] at o1
      obtain ⟨n1, rfl⟩ := k2 _ _ _ _ o1
      have o2' : optArg hi.isSome s.size (List.map (At.den env) bs ++ []) = some (m2, r2) := by simpa using o2
      obtain ⟨n2, _⟩ := k3 _ _ _ _ o2'
      split at hq
      · rename_i hle
        simp only [Option.some.injEq] at hq
        simp only [step, k1, e1, n1, n2]
        simp only at hle
        rw [if_pos hle, hq]; exact hp
      · cases hq
    · cases hq
  | slice sz x lo hi mx =>
    simp only [sstep, Option.bind_eq_some_iff] at h
    obtain ⟨⟨⟨l1, a1⟩, X1⟩, h1, ⟨as, X2⟩, h2, ⟨bs, X3⟩, h3, ⟨cs, X4⟩, h4, h⟩ := h
    split at h
    · cases h
    · rename_i hmx
      obtain ⟨q, hq, hf, hp, hs4⟩ := semit_den h hs
      obtain ⟨hs3, k4⟩ := soptNat_den h4 hs4
      obtain ⟨hs2, k3⟩ := soptNat_den h3 hs3
      obtain ⟨hs1, k2⟩ := soptNat_den h2 hs2
      obtain ⟨k1, _⟩ := sbOne_den h1 hs1
      simp only [dLA] at k1
      simp only [primDen, List.map_cons] at hq
      split at hq
      · rename_i sz' xs as' heq
        simp only [List.cons.injEq] at heq
        obtain ⟨e1, e2⟩ := heq
        simp only [Option.bind_eq_some_iff] at hq
        obtain ⟨⟨m1, r1⟩, o1, ⟨m2, r2⟩, o2, ⟨m3, r3⟩, o3, hq⟩ := hq
        rw [← e2, List.map_append] at o1
        obtain ⟨n1, rfl⟩ := k2 _ _ _ _ o1
        simp only [List.map_append] at o2
        obtain ⟨n2, rfl⟩ := k3 _ _ _ _ o2
        have o3' : optArg mx.isSome xs.length (List.map (At.den env) cs ++ []) = some (m3, r3) := by simpa using o3
        obtain ⟨n3, _⟩ := k4 _ _ _ _ o3'
        split at hq
        · rename_i hle
          obtain ⟨rfl, hle⟩ := hle
          simp only [Option.some.injEq] at hq
          simp only at hle
          simp only [step, k1, e1, n1, n2, n3]
          have hm' : mx.isSome = true → hi.isSome = true := by
            intro hm
            cases hh : hi.isSome with
            | true => rfl
            | false => exact absurd (by rw [hm, hh]; rfl) hmx
          simp only [if_true]
          rw [if_pos ⟨hle.1, hle.2.1, hle.2.2, hm'⟩, hq]; exact hp
        · cases hq
      · cases hq
  | faddr off x =>
    cases x with
    | c p => simp [sstep] at h
    | t p rs =>
      simp only [sstep] at h
      simp only [step, SSt.g_den]
      split at h
      · rename_i hm; simp only [hm, STV.den, SPath.den, List.map_nil]; exact (sret_den h hs).1
      · rename_i r c x path hm
        split at h
        · rename_i hr
          split at h
          · rename_i l a ha
            have hc : SPath.den env (x :: path) = (x.1, idxNat (x.2.1.den env), x.2.2) :: SPath.den env path := rfl
            have h' := (sret_den h hs).1
            simp only [STV.den, spathOff_den, hc] at h'
            simp only [hm, STV.den, hc, hr, if_true, srootCell_den, ha, SCell.den]
            exact h'
          · cases h
        · cases h
      · rename_i hm; simp only [hm, STV.den]; exact (sret_den h hs).1
      · rename_i hm; simp only [hm, STV.den]; exact (sret_den h hs).1
      · cases h
  | field off k x =>
    simp only [sstep] at h
    split at h
    · rename_i cs S1 h1
      split at h
      · rename_i hl
        simp only [Option.bind_eq_some_iff] at h
        obtain ⟨v, h2, h3⟩ := h
        have h4 := STV.ofCells_den (env := env) h2
        rw [List.map_take, List.map_drop] at h4
        simp only [step, stAny_den h1, List.length_map, if_pos hl, h4, Option.bind_some]
        exact (sret_den h3 hs).1
      · cases h
    · cases h
  | iaddr sz x i =>
    cases x with
    | c p => simp [sstep] at h
    | t m rs =>
      simp only [sstep] at h
      split at h
      · rename_i r c path hm
        simp only [Option.bind_eq_some_iff] at h
        obtain ⟨⟨⟨l1, a1⟩, X1⟩, h1, ⟨⟨l2, a2⟩, X2⟩, h2, h⟩ := h
        obtain ⟨hp, hs3⟩ := sret_den h hs
        obtain ⟨k2, hs1⟩ := sbCell_den h2 hs3.pre
        obtain ⟨k1, _⟩ := sbOne_den h1 hs1
        have hq := hs3.last.1
        simp only [dLA] at k1 k2
        simp only [SCell.den] at k2
        simp only [primDen, List.map_cons, List.map_nil] at hq
        split at hq
        · rename_i sz' xs y heq
          simp only [List.cons.injEq, and_true] at heq
          obtain ⟨e1, e2⟩ := heq
          simp only [Option.bind_eq_some_iff] at hq
          obtain ⟨m', hm', hq⟩ := hq
          split at hq
          · rename_i hb
            rw [← e2] at hm'
            have hi := nat?_idx hm'
            simp only [step, SSt.g_den, hm, STV.den, SCell.den, natOf_of k1 hm', k2, e1]
            rw [if_pos hb]
            simp only [STV.den, SPath.den_append] at hp
            rw [← hi]
            exact hp
          · cases hq
        · cases hq
      · rename_i l a hm
        simp only [Option.bind_eq_some_iff] at h
        obtain ⟨⟨⟨l1, a1⟩, X1⟩, h1, h⟩ := h
        obtain ⟨hp, hs3⟩ := sret_den h hs
        obtain ⟨k1, _⟩ := sbOne_den h1 hs3.pre
        have hq := hs3.last.1
        simp only [dLA] at k1
        simp only [primDen, List.map_cons, List.map_nil] at hq
        split at hq
        · rename_i sz' xs y heq
          simp only [List.cons.injEq, and_true] at heq
          obtain ⟨e1, e2⟩ := heq
          simp only [Option.bind_eq_some_iff] at hq
          obtain ⟨m', hm', hq⟩ := hq
          split at hq
          · rename_i hb
            rw [← e2] at hm'
            have hi := nat?_idx hm'
            simp only [step, SSt.g_den, hm, STV.den, SCell.den, natOf_of k1 hm', e1]
            rw [if_pos hb.1]
            by_cases hl : isOwn l = true
            · rw [if_pos hl, if_pos hb.2]
              rw [if_pos hl] at hp
              simp only [STV.den, SPath.den, List.map_cons, List.map_nil, hi] at hp
              exact hp
            · rw [if_neg hl]
              rw [if_neg hl] at hp
              simp only [STV.den, e1, hi, rowOf] at hp
              have hx : xs[m']? = some (xs.getD m' []) := by
                rw [List.getD_eq_getElem?_getD, List.getElem?_eq_getElem hb.2]; rfl
              rw [hx]
              exact hp
          · cases hq
        · cases hq
      · cases h
  | index x y =>
    simp only [sstep, Option.bind_eq_some_iff] at h
    obtain ⟨⟨⟨l1, a1⟩, X1⟩, h1, ⟨⟨l2, a2⟩, X2⟩, h2, h⟩ := h
    obtain ⟨q, hq, hf, hp, hs2⟩ := semit_den h hs
    obtain ⟨k2, hs1⟩ := sbOne_den h2 hs2
    obtain ⟨k1, _⟩ := sbOne_den h1 hs1
    simp only [dLA] at k1 k2
    simp only [primDen, List.map_cons, List.map_nil] at hq
    split at hq
    · rename_i s i heq
      simp only [List.cons.injEq, and_true] at heq
      obtain ⟨e1, e2⟩ := heq
      simp only [Option.bind_eq_some_iff, Option.map_eq_some_iff] at hq
      obtain ⟨m, hm, b, hb, hq⟩ := hq
      rw [← e2] at hm
      simp only [step, k1, e1, natOf_of k2 hm, hb]
      rw [hq]; exact hp
    · cases hq
  | extract i x =>
    cases x with
    | c p => simp [sstep] at h
    | t m rs =>
      simp only [sstep] at h
      split at h
      · rename_i vs hm
        split at h
        · rename_i x hx
          simp only [Option.bind_eq_some_iff] at h
          obtain ⟨v, h1, h2⟩ := h
          obtain ⟨h3, _⟩ := sret_den h2 hs
          rw [SSt.set_den] at h3
          simp only [STV.den, List.map_set, List.map_map, Function.comp_def, SCell.den] at h3
          have hx' : (vs.map fun x => (x.1, x.2.map (SCell.den env)))[i]? = some (x.1, x.2.map (SCell.den env)) := by simp [hx]
          simp only [step, SSt.g_den, hm, STV.den, hx', STV.ofCells_den h1, Option.bind_some, List.map_map, Function.comp_def]
          exact h3
        · cases h
      · cases h
  | len x =>
    simp only [sstep, Option.bind_eq_some_iff] at h
    obtain ⟨⟨⟨l1, a1⟩, X1⟩, h1, h⟩ := h
    obtain ⟨q, hq, hf, hp, hs1⟩ := semit_den h hs
    obtain ⟨k1, _⟩ := sbOne_den h1 hs1
    simp only [dLA] at k1
    simp only [primDen, List.map_cons, List.map_nil] at hq
    split at hq
    · rename_i heq
      simp only [List.cons.injEq, and_true] at heq
      simp only [Option.some.injEq] at hq
      simp only [step, k1, heq]
      rw [hq]; exact hp
    · cases hq
  | lenS x =>
    simp only [sstep, Option.bind_eq_some_iff] at h
    obtain ⟨⟨⟨l1, a1⟩, X1⟩, h1, h⟩ := h
    obtain ⟨q, hq, hf, hp, hs1⟩ := semit_den h hs
    obtain ⟨k1, _⟩ := sbOne_den h1 hs1
    simp only [dLA] at k1
    simp only [primDen, List.map_cons, List.map_nil] at hq
    split at hq
    · rename_i heq
      simp only [List.cons.injEq, and_true] at heq
      simp only [Option.some.injEq] at hq
      simp only [step, k1, heq]
      rw [hq]; exact hp
    · cases hq
  | append lev sz bytes x y =>
    simp only [sstep, Option.bind_eq_some_iff] at h
    obtain ⟨⟨⟨b1, v1, S1⟩, X1⟩, h1, ⟨⟨b2, v2, S2⟩, X2⟩, h2, h⟩ := h
    split at h
    · rename_i l p l' q' e1 e2 e3 e4
      simp only at e1 e2 e3 e4
      subst e1 e2 e3 e4
      split at h
      · rename_i hc
        simp only [Bool.and_eq_true] at hc
        obtain ⟨q, hq, hf, hp, hs2⟩ := semit_den h hs
        obtain ⟨k2, hs1⟩ := stPV_den h2 hs2
        obtain ⟨k1, _⟩ := stPV_den h1 hs1
        simp only [dLA, List.map_cons, List.map_nil] at k1 k2
        simp only [primDen, List.map_cons, List.map_nil] at hq
        split at hq
        · rename_i sz1 xs sz2 ys heq
          simp only [List.cons.injEq, and_true] at heq
          obtain ⟨g1, g2⟩ := heq
          rw [g1] at k1
          rw [g2] at k2
          split at hq
          · rename_i hz
            obtain ⟨z1, z2, z3, z4, z5⟩ := hz
            have w1 : okBase lev l xs = true := by
              revert z3
              have := hc.2
              revert this
              cases lev <;> cases l <;> simp [okBase, appK1, appC1]
            have w2 : okSpread lev l' ys = true := by
              revert z4
              unfold okSpread
              cases lev <;> cases l' <;> simp [appK2]
            simp only [Option.some.injEq] at hq
            simp only [step, k1, k2, Option.bind_some]
            rw [if_pos ⟨z1, z2, hc.1.1, hc.1.2, w1, w2, z5⟩, hq]
            exact hp
          · cases hq
        · cases hq
      · cases h
    · cases h
  | appendStr x y =>
    simp only [sstep, Option.bind_eq_some_iff] at h
    obtain ⟨⟨⟨b1, v1, S1⟩, X1⟩, h1, ⟨⟨l2, a2⟩, X2⟩, h2, h⟩ := h
    split at h
    · rename_i l p e1 e2
      simp only at e1 e2
      subst e1 e2
      split at h
      · rename_i hl
        subst hl
        obtain ⟨q, hq, hf, hp, hs2⟩ := semit_den h hs
        obtain ⟨k2, hs1⟩ := sbOne_den h2 hs2
        obtain ⟨k1, _⟩ := stPV_den h1 hs1
        simp only [dLA, List.map_cons, List.map_nil] at k1 k2
        simp only [primDen, List.map_cons, List.map_nil] at hq
        split at hq
        · rename_i xs s heq
          simp only [List.cons.injEq, and_true] at heq
          obtain ⟨g1, g2⟩ := heq
          rw [g1] at k1
          rw [g2] at k2
          split at hq
          · rename_i hz
            simp only [Option.some.injEq] at hq
            simp only [step, k1, k2, Option.bind_some]
            rw [if_pos ⟨trivial, hz⟩, hq]
            exact hp
          · cases hq
        · cases hq
      · cases h
    · cases h
  | max x y =>
    simp only [sstep, Option.bind_eq_some_iff] at h
    obtain ⟨⟨⟨l1, a1⟩, X1⟩, h1, ⟨⟨l2, a2⟩, X2⟩, h2, h⟩ := h
    obtain ⟨q, hq, hf, hp, hs2⟩ := semit_den h hs
    obtain ⟨k2, hs1⟩ := sbOne_den h2 hs2
    obtain ⟨k1, _⟩ := sbOne_den h1 hs1
    simp only [dLA] at k1 k2
    simp only [primDen, List.map_cons, List.map_nil] at hq
    split at hq
    · rename_i heq
      simp only [List.cons.injEq, and_true] at heq
      split at hq
      · rename_i hk
        simp only [Option.some.injEq] at hq
        simp only [step, k1, k2, heq.1, heq.2, if_pos hk]
        rw [hq]; exact hp
      · cases hq
    · cases hq
  | min x y =>
    simp only [sstep, Option.bind_eq_some_iff] at h
    obtain ⟨⟨⟨l1, a1⟩, X1⟩, h1, ⟨⟨l2, a2⟩, X2⟩, h2, h⟩ := h
    obtain ⟨q, hq, hf, hp, hs2⟩ := semit_den h hs
    obtain ⟨k2, hs1⟩ := sbOne_den h2 hs2
    obtain ⟨k1, _⟩ := sbOne_den h1 hs1
    simp only [dLA] at k1 k2
    simp only [primDen, List.map_cons, List.map_nil] at hq
    split at hq
    · rename_i heq
      simp only [List.cons.injEq, and_true] at heq
      split at hq
      · rename_i hk
        simp only [Option.some.injEq] at hq
        simp only [step, k1, k2, heq.1, heq.2, if_pos hk]
        rw [hq]; exact hp
      · cases hq
    · cases hq
  | nilchk x =>
    cases x with
    | c p => simp [sstep] at h
    | t m rs =>
      simp only [sstep] at h
      simp only [step, SSt.g_den]
      split at h
      · rename_i hm; simp only [hm, STV.den]; exact (sret_den h hs).1
      · rename_i hm; simp only [hm, STV.den, SPath.den, List.map_nil]; exact (sret_den h hs).1
      · rename_i hm; simp only [hm, STV.den]; exact (sret_den h hs).1
      · cases h
  | call => simp [sstep] at h
end Go.Proofs.Ytkiliooegoldoaa

/- Code as a decision tree. -/
set_option linter.unusedVariables false
set_option linter.unusedSimpArgs false
namespace Go.Proofs.Ytkiliooegoldoaa
open Go

inductive Tr where
  | ret (rs : List (List At))
  | again (L : Nat) (as : List At)
  | lett (l : Let) (t : Tr)
  | ite (a : At) (t e : Tr)
  | call (f : Nat) (as : List (List At)) (fls : List (List Bool)) (t : Tr)
  | loop (L : Nat) (inits : List At) (t : Tr)
  | join (L : Nat) (fls : List Bool) (t b : Tr)
deriving Inhabited

def updQ {α : Type} (f : Nat → α) (i : Nat) (x : α) : Nat → α := fun j => if j = i then x else f j

def wp (F : Nat → Option AFunc) (Q : List (List PV) → Prop) : Tr → (Nat → List PV → Prop) → List PV → Prop
  | .ret rs, Qs, env => Q (rs.map fun r => r.map (At.den env))
  | .again L as, Qs, env => Qs L (as.map (At.den env))
  | .lett l t, Qs, env => ∃ p, primDen l.p (l.as.map (At.den env)) = some p ∧ p.flat = l.fl ∧ wp F Q t Qs (env ++ [p])
  | .ite a t e, Qs, env => ∃ b, a.den env = .bool b ∧ if b = true then wp F Q t Qs env else wp F Q e Qs env
  | .call f as fls t, Qs, env => ∃ rs, Big F (.fn f (as.map fun r => r.map (At.den env)) rs) ∧ rs.map (fun r => r.map PV.flat) = fls ∧ wp F Q t Qs (env ++ rs.flatten)
  | .loop L inits t, Qs, env => ∃ Inv : Nat → List PV → Prop, (∃ m, Inv m (inits.map (At.den env))) ∧
      ∀ m vs, vs.map PV.flat = inits.map At.fl → Inv m vs → wp F Q t (updQ Qs L fun vs' => ∃ m', m' < m ∧ Inv m' vs') (env ++ vs)
  | .join L fls t b, Qs, env => ∃ J : List PV → Prop, wp F Q t (updQ Qs L J) env ∧ ∀ vs, vs.map PV.flat = fls → J vs → wp F Q b Qs (env ++ vs)

/-! ### Bounds -/
def SCell.lt (n : Nat) : SCell → Bool
  | .val _ a => a.lt n
  | .view _ _ path => path.all fun x => x.2.1.lt n
  | .dead => true
def STV.lt (n : Nat) : STV → Bool
  | .one c => c.lt n
  | .agg cs => cs.all (SCell.lt n)
  | .box cs => cs.all (SCell.lt n)
  | .place _ _ path => path.all fun x => x.2.1.lt n
  | .ep _ _ a i _ => a.lt n && i.lt n
  | .tup vs => vs.all fun x => x.2.all (SCell.lt n)
  | .undef => true
  | .dead => true
def SSt.lt (n : Nat) (S : SSt) : Bool := S.all (STV.lt n)

theorem At.ext {env env' : List PV} {a : At} (h : a.lt env.length = true) : a.den (env ++ env') = a.den env := by
  cases a with
  | v i fl =>
    simp only [At.lt, Nat.blt_eq] at h
    simp only [At.den, List.getD_eq_getElem?_getD, List.getElem?_append_left h]
  | c p => rfl
theorem At.exts {env env' : List PV} {as : List At} (h : as.all (At.lt env.length) = true) : as.map (At.den (env ++ env')) = as.map (At.den env) := by
  rw [List.all_eq_true] at h
  exact List.map_congr_left fun a ha => At.ext (h a ha)
theorem SPath.ext {env env' : List PV} {p : SPath} (h : p.all (fun x => x.2.1.lt env.length) = true) : SPath.den (env ++ env') p = SPath.den env p := by
  rw [List.all_eq_true] at h
  exact List.map_congr_left fun a ha => by rw [At.ext (h a ha)]
theorem SCell.ext {env env' : List PV} {c : SCell} (h : c.lt env.length = true) : c.den (env ++ env') = c.den env := by
  cases c with
  | val l a => simp only [SCell.den, At.ext (show a.lt env.length = true from h)]
  | view r c path => simp only [SCell.den, SPath.ext (show path.all _ = true from h)]
  | dead => rfl
theorem SCell.exts {env env' : List PV} {cs : List SCell} (h : cs.all (SCell.lt env.length) = true) : cs.map (SCell.den (env ++ env')) = cs.map (SCell.den env) := by
  rw [List.all_eq_true] at h
  exact List.map_congr_left fun a ha => SCell.ext (h a ha)
theorem STV.ext {env env' : List PV} {v : STV} (h : v.lt env.length = true) : v.den (env ++ env') = v.den env := by
  cases v with
  | one c => simp only [STV.den, SCell.ext (show c.lt env.length = true from h)]
  | agg cs => simp only [STV.den, SCell.exts (show cs.all _ = true from h)]
  | box cs => simp only [STV.den, SCell.exts (show cs.all _ = true from h)]
  | place r c path => simp only [STV.den, SPath.ext (show path.all _ = true from h)]
  | ep l sz a i off =>
    simp only [STV.lt, Bool.and_eq_true] at h
    simp only [STV.den, At.ext h.1, At.ext h.2]
  | tup vs =>
    simp only [STV.lt, List.all_eq_true] at h
    simp only [STV.den]
    congr 1
    exact List.map_congr_left fun a ha => by rw [SCell.exts (List.all_eq_true.2 (h a ha))]
  | undef => rfl
  | dead => rfl
theorem SSt.ext {env env' : List PV} {S : SSt} (h : S.lt env.length = true) : SSt.den (env ++ env') S = SSt.den env S := by
  unfold SSt.lt at h
  rw [List.all_eq_true] at h
  exact List.map_congr_left fun a ha => STV.ext (h a ha)

def letsOk : Nat → Ls → Bool
  | _, [] => true
  | n, l :: X => l.as.all (At.lt n) && letsOk (n + 1) X
def lets : Ls → Tr → Tr
  | [], t => t
  | l :: X, t => .lett l (lets X t)
theorem lets_wp {F Q t Qs} : ∀ {X : Ls} {env : List PV}, letsOk env.length X = true → wp F Q (lets X t) Qs env → ∃ vs, vs.length = X.length ∧ Sat (env ++ vs) env.length X ∧ wp F Q t Qs (env ++ vs) := by
  intro X
  induction X with
  | nil => intro env _ h; exact ⟨[], rfl, by rw [List.append_nil]; exact Sat.nil, by rw [List.append_nil]; exact h⟩
  | cons l X ih =>
    intro env hok h
    simp only [letsOk, Bool.and_eq_true] at hok
    obtain ⟨p, h1, h2, h3⟩ := h
    obtain ⟨vs, k1, k2, k3⟩ := ih (env := env ++ [p]) (by simpa using hok.2) h3
    refine ⟨p :: vs, by simp [k1], ?_, ?_⟩
    · have he : env ++ p :: vs = (env ++ [p]) ++ vs := by simp
      intro j l' hj
      cases j with
      | zero =>
        simp only [List.getElem?_cons_zero, Option.some.injEq] at hj
        subst hj
        refine ⟨p, ?_, h2, ?_⟩
        · rw [At.exts hok.1]; exact h1
        · simp
      | succ j =>
        simp only [List.getElem?_cons_succ] at hj
        have := k2 j l' hj
        rw [← he] at this
        have hl : (env ++ [p]).length + j = env.length + (j + 1) := by simp; omega
        rw [hl] at this
        exact this
    · have he : env ++ p :: vs = (env ++ [p]) ++ vs := by simp
      rw [he]; exact k3

/-! ### A known condition -/
def At.subst (i : Nat) (fl b : Bool) : At → At
  | .v j fl' => if j = i ∧ fl' = fl then .c (.bool b) else .v j fl'
  | .c p => .c p
def SCell.subst (i : Nat) (fl b : Bool) : SCell → SCell
  | .val l a => .val l (a.subst i fl b)
  | c => c
def STV.subst (i : Nat) (fl b : Bool) : STV → STV
  | .one c => .one (c.subst i fl b)
  | .agg cs => .agg (cs.map (SCell.subst i fl b))
  | .box cs => .box (cs.map (SCell.subst i fl b))
  | v => v
def SSt.subst (i : Nat) (fl b : Bool) (S : SSt) : SSt := S.map (STV.subst i fl b)
section
variable {env : List PV} {i : Nat} {fl b : Bool} (h : (At.v i fl).den env = .bool b)
include h
theorem At.subst_den (a : At) : (a.subst i fl b).den env = a.den env := by
  cases a with
  | v j fl' =>
    by_cases hc : j = i ∧ fl' = fl
    · have : At.subst i fl b (.v j fl') = .c (.bool b) := if_pos hc
      rw [this, hc.1, hc.2, h]; rfl
    · have : At.subst i fl b (.v j fl') = .v j fl' := if_neg hc
      rw [this]
  | c p => rfl
theorem SCell.subst_den (c : SCell) : (c.subst i fl b).den env = c.den env := by
  cases c <;> simp only [SCell.subst, SCell.den, At.subst_den h]
theorem STV.subst_den (v : STV) : (v.subst i fl b).den env = v.den env := by
  cases v <;> simp [STV.subst, STV.den, SCell.subst_den h, Function.comp_def]
theorem SSt.subst_den (S : SSt) : SSt.den env (S.subst i fl b) = SSt.den env S := by
  simp [SSt.den, SSt.subst, STV.subst_den h, Function.comp_def]
end

/-! ### Guards, arguments, results -/
inductive SG where
  | yes | no
  | dyn (i : Nat) (fl want : Bool)
def sguard (S : SSt) : Option (Nat × Bool) → Option SG
  | none => some .yes
  | some (g, want) => match S.g g with
    | .one (.val _ (.c (.bool b))) => some (if b == want then .yes else .no)
    | .one (.val _ (.v i fl)) => some (.dyn i fl want)
    | .undef => some .no
    | _ => none
def SG.means (env : List PV) (S : SSt) (g : Option (Nat × Bool)) : SG → Prop
  | .yes => guardOf (SSt.den env S) g = some true
  | .no => guardOf (SSt.den env S) g = some false
  | .dyn i fl want => ∀ b, (At.v i fl).den env = .bool b → guardOf (SSt.den env S) g = some (b == want)
theorem sguard_den {env S g r} (h : sguard S g = some r) : r.means env S g := by
  cases g with
  | none =>
    simp only [sguard, Option.some.injEq] at h; subst h; rfl
  | some g =>
    obtain ⟨g, want⟩ := g
    simp only [sguard] at h
    split at h
    · rename_i l b hm
      simp only [Option.some.injEq] at h
      subst h
      have : guardOf (SSt.den env S) (some (g, want)) = some (b == want) := by simp only [guardOf, SSt.g_den, hm, STV.den, SCell.den, At.den]
      cases hb : b == want <;> rw [hb] at this <;> exact this
    · rename_i l i fl hm
      simp only [Option.some.injEq] at h
      subst h
      intro b hb
      simp only [guardOf, SSt.g_den, hm, STV.den, SCell.den, hb]
    · rename_i hm
      simp only [Option.some.injEq] at h
      subst h
      simp only [SG.means, guardOf, SSt.g_den, hm, STV.den]
    · cases h

def sargs (n : Nat) (S : SSt) (X : Ls) : List AOpnd → Option (List (Bool × List At) × Ls)
  | [] => some ([], X)
  | o :: os => (sbAny n S X o).bind fun x => (sargs n S x.2 os).map fun y => ((x.1.1, x.1.2.map (·.2)) :: y.1, y.2)
theorem sargs_den {env n S os} : ∀ {X r X'}, sargs n S X os = some (r, X') → Sat env n X' → argsOf (SSt.den env S) os = some (r.map fun x => (x.1, x.2.map (At.den env))) ∧ Sat env n X := by
  induction os with
  | nil =>
    intro X r X' h hs
    simp only [sargs, Option.some.injEq, Prod.mk.injEq] at h
    obtain ⟨rfl, rfl⟩ := h
    exact ⟨rfl, hs⟩
  | cons o os ih =>
    intro X r X' h hs
    simp only [sargs, Option.bind_eq_some_iff, Option.map_eq_some_iff, Prod.mk.injEq] at h
    obtain ⟨⟨⟨b, l⟩, X1⟩, h1, ⟨ys, X2⟩, h2, rfl, rfl⟩ := h
    obtain ⟨h3, h4⟩ := ih h2 hs
    obtain ⟨h5, h6⟩ := sbAny_den h1 h4
    refine ⟨?_, h6⟩
    simp only [argsOf, h5, Option.bind_some, h3, Option.map_some, List.map_cons, List.map_map, Function.comp_def, dLA]

def fresh (n : Nat) : List Bool → List At
  | [] => []
  | fl :: fls => .v n fl :: fresh (n + 1) fls
theorem fresh_den : ∀ {ps : List PV} {env rest : List PV}, (fresh env.length (ps.map PV.flat)).map (At.den (env ++ (ps ++ rest))) = ps := by
  intro ps
  induction ps with
  | nil => intro env rest; rfl
  | cons p ps ih =>
    intro env rest
    have h := ih (env := env ++ [p]) (rest := rest)
    simp only [List.length_append, List.length_cons, List.length_nil, List.append_assoc, List.cons_append, List.nil_append] at h
    simp only [List.map_cons, fresh, List.cons_append]
    congr 1
    simp only [At.den]
    rw [PV.coe_eq] <;> simp
theorem fresh_den' {ps env : List PV} {n : Nat} (hn : env.length = n) {fls : List Bool} (hf : ps.map PV.flat = fls) : (fresh n fls).map (At.den (env ++ ps)) = ps := by
  subst hn hf
  have := fresh_den (ps := ps) (env := env) (rest := [])
  rwa [List.append_nil] at this

def resLev' (l : Lev) (fl : Bool) : Lev := if fl then .deep else match l with
  | .deep => .deep
  | .borR => .borR
  | _ => .bor
def sresTup (n : Nat) : List (Bool × Lev) → List (List Bool) → Option (List (Bool × List SCell))
  | [], [] => some []
  | k :: ks, f :: fs => if k.1 || f.length == 1 then (sresTup (n + f.length) ks fs).map fun t => (k.1, (fresh n f).map fun a => SCell.val (resLev' k.2 a.fl) a) :: t else none
  | _, _ => none
def sresAll (n : Nat) (ks : List (Bool × Lev)) (fs : List (List Bool)) : Option STV :=
  (sresTup n ks fs).bind fun t => match t with
    | [x] => STV.ofCells x.1 x.2
    | _ => some (.tup t)
theorem sresTup_den : ∀ {ks : List (Bool × Lev)} {rs : List (List PV)} {env rest : List PV} {t}, sresTup env.length ks (rs.map fun r => r.map PV.flat) = some t →
    resTup ks rs = some (t.map fun x => (x.1, x.2.map (SCell.den (env ++ (rs.flatten ++ rest))))) := by
  intro ks
  induction ks with
  | nil =>
    intro rs env rest t h
    cases rs <;> simp [sresTup] at h
    subst h; rfl
  | cons k ks ih =>
    intro rs env rest t h
    cases rs with
    | nil => simp [sresTup] at h
    | cons r rs =>
      simp only [List.map_cons, sresTup] at h
      split at h
      · rename_i hc
        simp only [Option.map_eq_some_iff] at h
        obtain ⟨t', h1, rfl⟩ := h
        have h2 := ih (env := env ++ r) (rest := rest) (by simpa using h1)
        simp only [List.length_map] at hc
        simp only [resTup, hc, if_true, List.flatten_cons, List.append_assoc] at h2 ⊢
        rw [h2]
        simp only [Option.map_some, List.map_cons, Option.some.injEq, List.cons.injEq, Prod.mk.injEq, true_and, List.map_map, Function.comp_def, and_true]
        have h3 := fresh_den (ps := r) (env := env) (rest := rs.flatten ++ rest)
        have h4 : r.map (resCell k.2) = ((fresh env.length (r.map PV.flat)).map (At.den (env ++ (r ++ (rs.flatten ++ rest))))).map (resCell k.2) := by rw [h3]
        rw [h4, List.map_map]
        refine List.map_congr_left fun a _ => ?_
        simp only [Function.comp_def, resCell, resLev, SCell.den, resLev', At.den_flat]
        rfl
      · cases h
theorem sresAll_den {ks rs} {env : List PV} {tv} (h : sresAll env.length ks (rs.map fun r => r.map PV.flat) = some tv) : resAll ks rs = some (tv.den (env ++ rs.flatten)) := by
  simp only [sresAll, Option.bind_eq_some_iff] at h
  obtain ⟨t, h1, h2⟩ := h
  have h3 := sresTup_den (rest := []) h1
  rw [List.append_nil] at h3
  simp only [resAll, h3, Option.bind_some]
  split at h2
  · exact STV.ofCells_den h2
  · rename_i hne
    simp only [Option.some.injEq] at h2
    subst h2
    split
    · rename_i x heq
      match t, heq with
      | [y], _ => exact absurd rfl (hne y)
    · rfl

/-! ### Loops -/
def dfl (fl : Bool) : PV := if fl then .bool false else .sl 0 []
def At.inst (n : Nat) (as : List At) : At → At
  | .v i fl => if Nat.blt i n then .v i fl else match as[i - n]? with
    | some a => if a.fl = fl then a else .c (dfl fl)
    | none => .c (dfl fl)
  | .c p => .c p
def SPath.inst (n : Nat) (as : List At) (p : SPath) : SPath := p.map fun x => (x.1, x.2.1.inst n as, x.2.2)
def SCell.inst (n : Nat) (as : List At) : SCell → SCell
  | .val l a => .val l (a.inst n as)
  | .view r c path => .view r c (SPath.inst n as path)
  | .dead => .dead
def STV.inst (n : Nat) (as : List At) : STV → STV
  | .one c => .one (c.inst n as)
  | .agg cs => .agg (cs.map (SCell.inst n as))
  | .box cs => .box (cs.map (SCell.inst n as))
  | .place r c path => .place r c (SPath.inst n as path)
  | .ep l sz a i off => .ep l sz (a.inst n as) (i.inst n as) off
  | .tup vs => .tup (vs.map fun x => (x.1, x.2.map (SCell.inst n as)))
  | .undef => .undef
  | .dead => .dead
def SSt.inst (n : Nat) (as : List At) (S : SSt) : SSt := S.map (STV.inst n as)

section
variable {env ext : List PV} {as : List At}
theorem At.inst_den (a : At) : (a.inst env.length as).den (env ++ ext) = a.den (env ++ as.map (At.den (env ++ ext))) := by
  cases a with
  | v i fl =>
    simp only [At.inst]
    by_cases hi : i < env.length
    · have : Nat.blt i env.length = true := by simpa using hi
      rw [if_pos this]
      simp only [At.den, List.getD_eq_getElem?_getD, List.getElem?_append_left hi]
    · have hb : ¬ (Nat.blt i env.length = true) := by simpa using hi
      rw [if_neg hb]
      have hd : (At.v i fl).den (env ++ as.map (At.den (env ++ ext))) = PV.coe fl (((as[i - env.length]?).map (At.den (env ++ ext))).getD (.bool false)) := by
        simp only [At.den, List.getD_eq_getElem?_getD, List.getElem?_append_right (Nat.le_of_not_lt hi), List.getElem?_map]
      rw [hd]
      cases as[i - env.length]? with
      | none => cases fl <;> rfl
      | some a =>
        simp only [Option.map_some, Option.getD_some]
        split
        · rename_i hf
          rw [PV.coe_eq]
          rw [At.den_flat, hf]
        · rename_i hf
          unfold PV.coe
          rw [if_neg (by rw [At.den_flat]; exact hf)]
          cases fl <;> rfl
  | c p => rfl
theorem SPath.inst_den (p : SPath) : SPath.den (env ++ ext) (p.inst env.length as) = SPath.den (env ++ as.map (At.den (env ++ ext))) p := by
  simp [SPath.den, SPath.inst, At.inst_den, Function.comp_def]
theorem SCell.inst_den (c : SCell) : (c.inst env.length as).den (env ++ ext) = c.den (env ++ as.map (At.den (env ++ ext))) := by
  cases c <;> simp [SCell.den, SCell.inst, At.inst_den, SPath.inst_den]
theorem STV.inst_den (v : STV) : (v.inst env.length as).den (env ++ ext) = v.den (env ++ as.map (At.den (env ++ ext))) := by
  cases v <;> simp [STV.den, STV.inst, At.inst_den, SPath.inst_den, SCell.inst_den, Function.comp_def]
theorem SSt.inst_den (S : SSt) : SSt.den (env ++ ext) (S.inst env.length as) = SSt.den (env ++ as.map (At.den (env ++ ext))) S := by
  simp [SSt.den, SSt.inst, STV.inst_den, Function.comp_def]
end

/-! Are two states the same? -/
def listSame {α : Type} (f : α → α → Bool) : List α → List α → Bool
  | [], [] => true
  | x :: xs, y :: ys => f x y && listSame f xs ys
  | _, _ => false
theorem listSame_ {α : Type} {f : α → α → Bool} (hf : ∀ x y, f x y = true → x = y) : ∀ {xs ys}, listSame f xs ys = true → xs = ys := by
  intro xs
  induction xs with
  | nil => intro ys h; cases ys <;> simp [listSame] at h; rfl
  | cons x xs ih =>
    intro ys h
    cases ys with
    | nil => simp [listSame] at h
    | cons y ys =>
      simp only [listSame, Bool.and_eq_true] at h
      rw [hf _ _ h.1, ih h.2]
def PV.same : PV → PV → Bool
  | .int k a, .int k' b => decide (k = k') && a == b
  | .bool a, .bool b => a == b
  | .str a, .str b => a.data.toList == b.data.toList
  | .sl a [], .sl b [] => a == b
  | _, _ => false
theorem PV.same_ {p q : PV} (h : PV.same p q = true) : p = q := by
  unfold PV.same at h
  split at h
  · simp at h; rw [h.1, h.2]
  · simp at h; rw [h]
  · rename_i a b
    simp at h
    cases a; cases b; simp_all
  · simp at h; rw [h]
  · cases h
def At.same : At → At → Bool
  | .v i fl, .v j fl' => Nat.beq i j && fl == fl'
  | .c p, .c q => PV.same p q
  | _, _ => false
theorem At.same_ {p q : At} (h : At.same p q = true) : p = q := by
  unfold At.same at h
  split at h
  · simp at h; rw [h.1, h.2]
  · rw [PV.same_ h]
  · cases h
def pathSame : SPath → SPath → Bool := listSame fun x y => Nat.beq x.1 y.1 && x.2.1.same y.2.1 && Nat.beq x.2.2 y.2.2
theorem pathSame_ {p q} (h : pathSame p q = true) : p = q := listSame_ (fun x y h => by
  simp only [Bool.and_eq_true, Nat.beq_eq] at h
  obtain ⟨a, b, c⟩ := x
  obtain ⟨a', b', c'⟩ := y
  simp only at h
  rw [h.1.1, At.same_ h.1.2, h.2]) h
def SCell.same : SCell → SCell → Bool
  | .val l a, .val l' b => decide (l = l') && a.same b
  | .view r c p, .view r' c' p' => Nat.beq r r' && Nat.beq c c' && pathSame p p'
  | .dead, .dead => true
  | _, _ => false
theorem SCell.same_ {p q : SCell} (h : SCell.same p q = true) : p = q := by
  unfold SCell.same at h
  split at h
  · simp only [Bool.and_eq_true, decide_eq_true_eq] at h; rw [h.1, At.same_ h.2]
  · simp only [Bool.and_eq_true, Nat.beq_eq] at h; rw [h.1.1, h.1.2, pathSame_ h.2]
  · rfl
  · cases h
def STV.same : STV → STV → Bool
  | .one a, .one b => a.same b
  | .agg a, .agg b => listSame SCell.same a b
  | .box a, .box b => listSame SCell.same a b
  | .place r c p, .place r' c' p' => Nat.beq r r' && Nat.beq c c' && pathSame p p'
  | .ep l sz a i off, .ep l' sz' a' i' off' => decide (l = l') && Nat.beq sz sz' && a.same a' && i.same i' && Nat.beq off off'
  | .tup vs, .tup vs' => listSame (fun x y => x.1 == y.1 && listSame SCell.same x.2 y.2) vs vs'
  | .undef, .undef => true
  | .dead, .dead => true
  | _, _ => false
theorem STV.same_ {p q : STV} (h : STV.same p q = true) : p = q := by
  unfold STV.same at h
  split at h
  · rw [SCell.same_ h]
  · rw [listSame_ (fun _ _ => SCell.same_) h]
  · rw [listSame_ (fun _ _ => SCell.same_) h]
  · simp only [Bool.and_eq_true, Nat.beq_eq] at h; rw [h.1.1, h.1.2, pathSame_ h.2]
  · simp only [Bool.and_eq_true, decide_eq_true_eq, Nat.beq_eq] at h
    obtain ⟨⟨⟨⟨h1, h2⟩, h3⟩, h4⟩, h5⟩ := h
    rw [h1, h2, At.same_ h3, At.same_ h4, h5]
  · rw [listSame_ (fun x y h => by
      simp only [Bool.and_eq_true, beq_iff_eq] at h
      obtain ⟨a, b⟩ := x
      obtain ⟨a', b'⟩ := y
      simp only at h
      rw [h.1, listSame_ (fun _ _ => SCell.same_) h.2]) h]
  · rfl
  · rfl
  · cases h
def SSt.same : SSt → SSt → Bool := listSame STV.same
theorem SSt.same_ {p q : SSt} (h : SSt.same p q = true) : p = q := listSame_ (fun _ _ => STV.same_) h

/-! What a loop changes -/
def dstOps : List AO → List Nat
  | [] => []
  | o :: os => match o.dst with
    | some d => d :: dstOps os
    | none => dstOps os
def dsts : ACode → List Nat
  | .region os _ => dstOps os
  | .seq a b => dsts a ++ dsts b
  | .cond _ a b => dsts a ++ dsts b
  | .block _ a => dsts a
  | .loop a => dsts a
  | .pre _ a => dsts a
  | _ => []
def stores : ACode → Bool
  | .region os _ => os.any fun o => match o.op with
    | .store .. => true
    | _ => false
  | .seq a b => stores a || stores b
  | .cond _ a b => stores a || stores b
  | .block _ a => stores a
  | .loop a => stores a
  | .pre _ a => stores a
  | _ => false
/-- Cells made general: new variables from n on; what they stand for. -/
def genC (all own : Bool) (n : Nat) : SCell → SCell × List At
  | .val l a => if all || (own && !a.fl && isOwn l) then (.val l (.v n a.fl), [a]) else (.val l a, [])
  | c => (c, [])
def genCs (all own : Bool) (n : Nat) : List SCell → List SCell × List At
  | [] => ([], [])
  | c :: cs => let x := genC all own n c; let y := genCs all own (n + x.2.length) cs; (x.1 :: y.1, x.2 ++ y.2)
def genT (all own : Bool) (n : Nat) : STV → STV × List At
  | .one c => let x := genC all own n c; (.one x.1, x.2)
  | .agg cs => let x := genCs all own n cs; (.agg x.1, x.2)
  | .box cs => let x := genCs own own n cs; (.box x.1, x.2)
  | v => (v, [])
def genS (ds : List Nat) (own : Bool) (n t : Nat) : SSt → SSt × List At
  | [] => ([], [])
  | v :: S => let x := genT (ds.elem t) own n v; let y := genS ds own (n + x.2.length) (t + 1) S; (x.1 :: y.1, x.2 ++ y.2)

/-- What the new variables of a head stand for in a state. -/
def fitC (n : Nat) : SCell → SCell → List At
  | .val _ (.v i _), .val _ a => if Nat.blt i n then [] else [a]
  | _, _ => []
def fitCs (n : Nat) : List SCell → List SCell → List At
  | x :: xs, y :: ys => fitC n x y ++ fitCs n xs ys
  | _, _ => []
def fitT (n : Nat) : STV → STV → List At
  | .one x, .one y => fitC n x y
  | .agg x, .agg y => fitCs n x y
  | .box x, .box y => fitCs n x y
  | _, _ => []
def fitS (n : Nat) : SSt → SSt → List At
  | x :: xs, y :: ys => fitT n x y ++ fitS n xs ys
  | _, _ => []
end Go.Proofs.Ytkiliooegoldoaa

/- Code as a decision tree: the tree's meaning is the code's. -/
set_option linter.unusedVariables false
set_option linter.unusedSimpArgs false
namespace Go.Proofs.Ytkiliooegoldoaa
open Go

abbrev Hint := Nat → List (List Bool)
def total : List (List Bool) → Nat
  | [] => 0
  | f :: fs => f.length + total fs

def hof : List (Nat × List (List Bool)) → Hint
  | [], _ => []
  | (k, v) :: l, d => if Nat.beq k d then v else hof l d
/- Short words of the printed trees. -/
abbrev vf (i : Nat) : At := .v i true
abbrev vs (i : Nat) : At := .v i false

section
variable (F : Nat → Option AFunc) (hint : Hint)
def compAct (o : AO) (n : Nat) (S : SSt) (k : Nat → SSt → Option Tr) : Option Tr :=
  match o.op with
  | .call f as => match o.dst with
    | none => none
    | some d => (sargs n S [] as).bind fun x => (F f).bind fun fd =>
      if letsOk n x.2 && x.1.map (·.1) == fd.params then
        (sresAll (n + x.2.length) fd.rk (hint d)).bind fun tv => (sput false S (some d) tv).bind fun S' =>
          let n' := n + x.2.length + total (hint d)
          if S'.lt n' then (k n' S').map fun t => lets x.2 (.call f (x.1.map (·.2)) (hint d) t) else none
      else none
  | op => (sstep n S o.dst ((hint (o.dst.getD 0)).headD []) op).bind fun x =>
      let n' := n + x.2.length
      if letsOk n x.2 && x.1.lt n' then (k n' x.1).map (lets x.2) else none
def compNot (o : AO) (n : Nat) (S : SSt) (k : Nat → SSt → Option Tr) : Option Tr :=
  (sput false S o.dst .undef).bind fun S' => if S'.lt n then k n S' else none
def compOne (o : AO) (n : Nat) (S : SSt) (k : Nat → SSt → Option Tr) : Option Tr :=
  match sguard S o.guard with
  | some .yes => compAct F hint o n S k
  | some .no => compNot o n S k
  | some (.dyn i fl want) =>
    let St := S.subst i fl want
    let Sf := S.subst i fl (!want)
    if St.lt n && Sf.lt n then
      (compAct F hint o n St k).bind fun t => (compNot o n Sf k).map fun e => if want then .ite (.v i fl) t e else .ite (.v i fl) e t
    else none
  | none => none
def compOps : List AO → Nat → SSt → (Nat → SSt → Option Tr) → Option Tr
  | [], n, S, k => k n S
  | o :: os, n, S, k => compOne F hint o n S fun n S => compOps os n S k
/-! Where paths meet: what the state looks like there (a guess, checked at every meeting). -/
def actS (o : AO) (n : Nat) (S : SSt) : Option (Nat × SSt) :=
  match o.op with
  | .call f as => match o.dst with
    | none => none
    | some d => (sargs n S [] as).bind fun x => (F f).bind fun fd =>
        (sresAll (n + x.2.length) fd.rk (hint d)).bind fun tv => (sput false S (some d) tv).map fun S' => (n + x.2.length + total (hint d), S')
  | op => (sstep n S o.dst ((hint (o.dst.getD 0)).headD []) op).map fun x => (n + x.2.length, x.1)
def opsS : List AO → Nat → SSt → Option (Nat × SSt)
  | [], n, S => some (n, S)
  | o :: os, n, S => (match sguard S o.guard with
    | some .yes => actS F hint o n S
    | some .no => (sput false S o.dst .undef).map fun S' => (n, S')
    | some (.dyn i fl want) => actS F hint o n (S.subst i fl want)
    | none => none).bind fun x => opsS os x.1 x.2
def orElse' {α : Type} (x y : Option α) : Option α := match x with
  | some a => some a
  | none => y
def exitOf : ACode → Nat → SSt → AExit → Option (Nat × SSt)
  | .skip, n, S, t => match t with
    | .normal => some (n, S)
    | _ => none
  | .region os ks, n, S, t => match t with
    | .normal => (opsS F hint os n S).map fun x => (x.1, skillSlots x.2 ks)
    | _ => none
  | .seq a b, n, S, t => match t with
    | .normal => (exitOf a n S .normal).bind fun x => exitOf b x.1 x.2 t
    | _ => orElse' (exitOf a n S t) ((exitOf a n S .normal).bind fun x => exitOf b x.1 x.2 t)
  | .cond c a b, n, S, t => (sbOne n S [] c).bind fun x => match x.1.2 with
    | .c (.bool true) => exitOf a n S t
    | .c (.bool false) => exitOf b n S t
    | .v i fl => orElse' (exitOf a n (S.subst i fl true) t) (exitOf b n (S.subst i fl false) t)
    | _ => none
  | .block id a, n, S, t => match t with
    | .normal => orElse' (exitOf a n S .normal) (exitOf a n S (.exit id))
    | t => exitOf a n S t
  | .exit id, n, S, t => if t = .exit id then some (n, S) else none
  | .ret, n, S, t => match t with
    | .ret => some (n, S)
    | _ => none
  | .pre ps a, n, S, t => (spseudo S ps).bind fun S' => exitOf a n S' t
  | .loop a, n, S, t => match t with
    | .normal => none
    | t => let h := genS (dsts a) (stores a) n 0 S; exitOf a (n + h.2.length) h.1 t
mutual
def nx : ACode → Nat
  | .skip => 1
  | .region os _ => if os.any (fun o => o.guard.isSome) then 2 else 1
  | .seq a b => nx a * nx b
  | .cond _ a b => nx a + nx b
  | .block id a => nx a + exs id a
  | .loop _ => 0
  | .exit _ => 0
  | .ret => 0
  | .pre _ a => nx a
def exs (id : Nat) : ACode → Nat
  | .seq a b => exs id a + nx a * exs id b
  | .cond _ a b => exs id a + exs id b
  | .block _ a => exs id a
  | .loop a => exs id a
  | .exit i => if Nat.beq i id then 1 else 0
  | .pre _ a => exs id a
  | _ => 0
end
/-- How many ways lead to a mark. -/
def cntA (L : Nat) : Tr → Nat
  | .ret _ => 0
  | .again L' _ => if Nat.beq L L' then 1 else 0
  | .lett _ t => cntA L t
  | .ite _ t e => cntA L t + cntA L e
  | .call _ _ _ t => cntA L t
  | .loop _ _ t => cntA L t
  | .join _ _ t b => cntA L t + cntA L b
def isMany (L : Nat) : Option Tr → Bool
  | some t => Nat.ble 2 (cntA L t)
  | none => false
def markK (L : Nat) : AExit → Nat → SSt → Option Tr
  | .normal, _, _ => some (.again L [])
  | _, _, _ => some (.ret [])
def wgt : ACode → Nat
  | .region os _ => os.length
  | .seq a b => wgt a + wgt b
  | .cond _ a b => 2 + wgt a + wgt b
  | .block _ a => wgt a
  | .loop a => 10 + wgt a
  | .pre _ a => wgt a
  | _ => 0

def comp : ACode → Nat → Nat → SSt → (AExit → Nat → SSt → Option Tr) → Option Tr
  | .skip, L, n, S, k => k .normal n S
  | .region os ks, L, n, S, k => compOps F hint os n S fun n S =>
      let S' := skillSlots S ks
      if S'.lt n then k .normal n S' else none
  | .seq a b, L, n, S, k =>
    let plain := fun (_ : Unit) => comp a L n S fun e n S => match e with
      | .normal => comp b L n S k
      | .exit id => k (.exit id) n S
      | .ret => k .ret n S
    if Nat.ble 2 (nx a) && (Nat.ble 10 (wgt b) && isMany L (comp a (L + 1) n S (markK L))) then
      match (exitOf F hint a n S .normal).bind fun x =>
        let h := genS (dsts a) (stores a) n 0 x.2
        if h.1.lt (n + h.2.length) then
          (comp a (L + 1) n S fun e n' S' => match e with
            | .normal =>
              let as := fitS n h.1 S'
              if SSt.same (SSt.inst n as h.1) S' && as.map At.fl == h.2.map At.fl then some (.again L as) else none
            | .exit id => k (.exit id) n' S'
            | .ret => k .ret n' S').bind fun t => (comp b L (n + h.2.length) h.1 k).map fun u => .join L (h.2.map At.fl) t u
        else none with
      | some T => some T
      | none => plain ()
    else plain ()
  | .cond c a b, L, n, S, k => (sbOne n S [] c).bind fun x => match x.2, x.1.2 with
    | [], .c (.bool t) => if t then comp a L n S k else comp b L n S k
    | [], .v i fl =>
      let St := S.subst i fl true
      let Sf := S.subst i fl false
      if St.lt n && Sf.lt n then
        (comp a L n St k).bind fun t => (comp b L n Sf k).map fun e => .ite (.v i fl) t e
      else none
    | _, _ => none
  | .block id a, L, n, S, k => comp a L n S fun e n S => k (e.out id) n S
  | .exit id, L, n, S, k => k (.exit id) n S
  | .ret, L, n, S, k => k .ret n S
  | .pre ps a, L, n, S, k => (spseudo S ps).bind fun S' => if S'.lt n then comp a L n S' k else none
  | .loop a, L, n, S, k =>
    let h := genS (dsts a) (stores a) n 0 S
    if SSt.same (SSt.inst n h.2 h.1) S && h.1.lt (n + h.2.length) then
      (comp a (L + 1) (n + h.2.length) h.1 fun e n' S' => match e with
        | .normal =>
          let as := fitS n h.1 S'
          if SSt.same (SSt.inst n as h.1) S' && as.map At.fl == h.2.map At.fl then some (.again L as) else none
        | .exit id => k (.exit id) n' S'
        | .ret => k .ret n' S').map fun t => .loop L h.2 t
    else none
end

section
variable {F : Nat → Option AFunc} {hint : Hint} {Q : List (List PV) → Prop}

def Ext (env env' : List PV) : Prop := ∃ ys, env' = env ++ ys
theorem Ext.refl {env} : Ext env env := ⟨[], by simp⟩
theorem Ext.trans {a b c} (h1 : Ext a b) (h2 : Ext b c) : Ext a c := by
  obtain ⟨x, rfl⟩ := h1
  obtain ⟨y, rfl⟩ := h2
  exact ⟨x ++ y, by simp⟩
theorem Ext.app {a b} : Ext a (a ++ b) := ⟨b, rfl⟩

abbrev QS := Nat → List PV → Prop
def AgreeQ (L : Nat) (Qs Qs' : QS) : Prop := ∀ i, i < L → Qs' i = Qs i
theorem AgreeQ.refl {L Qs} : AgreeQ L Qs Qs := fun _ _ => rfl
theorem AgreeQ.trans {L a b c} (h1 : AgreeQ L a b) (h2 : AgreeQ L b c) : AgreeQ L a c := fun i hi => (h2 i hi).trans (h1 i hi)

/-- What is behind is right for P. -/
def KO (F : Nat → Option AFunc) (Q : List (List PV) → Prop) (k : Nat → SSt → Option Tr) (L : Nat) (env : List PV) (Qs : QS) (P : St → Prop) : Prop :=
  ∀ n S T env' Qs', k n S = some T → env'.length = n → S.lt n = true → Ext env env' → AgreeQ L Qs Qs' → wp F Q T Qs' env' → P (SSt.den env' S)
def KS (F : Nat → Option AFunc) (Q : List (List PV) → Prop) (k : AExit → Nat → SSt → Option Tr) (L : Nat) (env : List PV) (Qs : QS) (P : AExit → St → Prop) : Prop :=
  ∀ e n S T env' Qs', k e n S = some T → env'.length = n → S.lt n = true → Ext env env' → AgreeQ L Qs Qs' → wp F Q T Qs' env' → P e (SSt.den env' S)
theorem KO.ext {k L env Qs P env' Qs'} (h : KO F Q k L env Qs P) (he : Ext env env') (ha : AgreeQ L Qs Qs') : KO F Q k L env' Qs' P :=
  fun n S T e2 q2 hk hn hl h1 h2 hw => h n S T e2 q2 hk hn hl (he.trans h1) (ha.trans h2) hw
theorem KS.ext {k L env Qs P env' Qs'} (h : KS F Q k L env Qs P) (he : Ext env env') (ha : AgreeQ L Qs Qs') : KS F Q k L env' Qs' P :=
  fun e n S T e2 q2 hk hn hl h1 h2 hw => h e n S T e2 q2 hk hn hl (he.trans h1) (ha.trans h2) hw

theorem total_flat : ∀ {rs : List (List PV)} {fls : List (List Bool)}, rs.map (fun r => r.map PV.flat) = fls → rs.flatten.length = total fls := by
  intro rs
  induction rs with
  | nil => intro fls h; subst h; rfl
  | cons r rs ih => intro fls h; subst h; simp [total, ih rfl]

theorem compStep_sound {o : AO} {n S k T env L Qs P} (hg : guardOf (SSt.den env S) o.guard = some true)
    (hc : ((sstep n S o.dst ((hint (o.dst.getD 0)).headD []) o.op).bind fun x => if letsOk n x.2 && x.1.lt (n + x.2.length) then (k (n + x.2.length) x.1).map (lets x.2) else none) = some T)
    (hn : env.length = n) (hl : S.lt n = true) (hk : KO F Q k L env Qs P) (hw : wp F Q T Qs env) :
    ∃ S', Big F (.one o (SSt.den env S) S') ∧ P S' := by
  simp only [Option.bind_eq_some_iff] at hc
  obtain ⟨⟨S1, X⟩, h1, hc⟩ := hc
  split at hc
  · rename_i hok
    simp only [Bool.and_eq_true] at hok
    simp only [Option.map_eq_some_iff] at hc
    obtain ⟨t, h2, rfl⟩ := hc
    subst hn
    obtain ⟨vs, k1, k2, k3⟩ := lets_wp hok.1 hw
    have hst := sstep_den h1 k2
    rw [SSt.ext hl] at hst
    refine ⟨SSt.den (env ++ vs) S1, .step hg hst, ?_⟩
    exact hk _ _ _ _ _ h2 (by simp [k1]) hok.2 Ext.app AgreeQ.refl k3
  · cases hc

theorem compAct_sound {o : AO} {n S k T env L Qs P} (hg : guardOf (SSt.den env S) o.guard = some true) (hc : compAct F hint o n S k = some T)
    (hn : env.length = n) (hl : S.lt n = true) (hk : KO F Q k L env Qs P) (hw : wp F Q T Qs env) :
    ∃ S', Big F (.one o (SSt.den env S) S') ∧ P S' := by
  unfold compAct at hc
  split at hc
  · rename_i f as hop
    split at hc
    · cases hc
    · rename_i d hd
      simp only [Option.bind_eq_some_iff] at hc
      obtain ⟨⟨args, X⟩, h1, fd, h2, hc⟩ := hc
      split at hc
      · rename_i hok
        simp only [Bool.and_eq_true, beq_iff_eq] at hok
        simp only [Option.bind_eq_some_iff] at hc
        obtain ⟨tv, h3, S1, h4, hc⟩ := hc
        split at hc
        · rename_i hlt
          simp only [Option.map_eq_some_iff] at hc
          obtain ⟨t, h5, rfl⟩ := hc
          subst hn
          obtain ⟨vs, k1, k2, k3⟩ := lets_wp hok.1 hw
          obtain ⟨rs, b1, b2, b3⟩ := k3
          obtain ⟨a1, _⟩ := sargs_den h1 k2
          rw [SSt.ext hl] at a1
          have hlen : (env ++ vs).length = env.length + X.length := by simp [k1]
          have hres := sresAll_den (ks := fd.rk) (rs := rs) (env := env ++ vs) (tv := tv) (by rw [b2, hlen]; exact h3)
          have hput := sput_den (env := env ++ vs ++ rs.flatten) h4
          have hS : SSt.den (env ++ vs ++ rs.flatten) S = SSt.den env S := by rw [List.append_assoc, SSt.ext hl]
          rw [hS] at hput
          refine ⟨SSt.den (env ++ vs ++ rs.flatten) S1, ?_, ?_⟩
          · refine Big.call (args := args.map fun x => (x.1, x.2.map (At.den (env ++ vs)))) hg hop a1 h2 ?_ ?_ hres (by rw [hd]; exact hput)
            · rw [← hok.2]; simp [Function.comp_def]
            · simpa [Function.comp_def] using b1
          · refine hk _ _ _ _ _ h5 ?_ hlt ((Ext.app (b := vs)).trans Ext.app) AgreeQ.refl b3
            rw [List.length_append, hlen, total_flat b2]
        · cases hc
      · cases hc
  · exact compStep_sound hg hc hn hl hk hw

theorem compNot_sound {o : AO} {n S k T env L Qs P} (hg : guardOf (SSt.den env S) o.guard = some false) (hc : compNot o n S k = some T)
    (hn : env.length = n) (hl : S.lt n = true) (hk : KO F Q k L env Qs P) (hw : wp F Q T Qs env) :
    ∃ S', Big F (.one o (SSt.den env S) S') ∧ P S' := by
  simp only [compNot, Option.bind_eq_some_iff] at hc
  obtain ⟨S1, h1, hc⟩ := hc
  split at hc
  · rename_i hlt
    exact ⟨SSt.den env S1, .not hg (sput_den (v := .undef) h1), hk _ _ _ _ _ hc hn hlt Ext.refl AgreeQ.refl hw⟩
  · cases hc

theorem compOne_sound {o : AO} {n S k T env L Qs P} (hc : compOne F hint o n S k = some T)
    (hn : env.length = n) (hl : S.lt n = true) (hk : KO F Q k L env Qs P) (hw : wp F Q T Qs env) :
    ∃ S', Big F (.one o (SSt.den env S) S') ∧ P S' := by
  unfold compOne at hc
  split at hc
  · rename_i hg; exact compAct_sound (sguard_den hg) hc hn hl hk hw
  · rename_i hg; exact compNot_sound (sguard_den hg) hc hn hl hk hw
  · rename_i i fl want hg
    have hm := sguard_den (env := env) hg
    simp only at hc
    split at hc
    · rename_i hlt
      simp only [Bool.and_eq_true] at hlt
      simp only [Option.bind_eq_some_iff, Option.map_eq_some_iff] at hc
      obtain ⟨t, h1, e, h2, rfl⟩ := hc
      have hw' : ∃ b, (At.v i fl).den env = .bool b ∧ if b = want then wp F Q t Qs env else wp F Q e Qs env := by
        cases want
        · obtain ⟨b, hb, h⟩ := hw
          refine ⟨b, hb, ?_⟩
          cases b <;> simpa using h
        · exact hw
      obtain ⟨b, hb, hw'⟩ := hw'
      have hgd := hm b hb
      by_cases hbw : b = want
      · subst hbw
        rw [if_pos rfl] at hw'
        have := compAct_sound (o := o) (S := S.subst i fl b) (by rw [SSt.subst_den hb]; simpa using hgd) h1 hn hlt.1 hk hw'
        rwa [SSt.subst_den hb] at this
      · rw [if_neg hbw] at hw'
        have hbn : b = !want := by cases b <;> cases want <;> simp_all
        subst hbn
        have := compNot_sound (o := o) (S := S.subst i fl (!want)) (by rw [SSt.subst_den hb, hgd]; cases want <;> rfl) h2 hn hlt.2 hk hw'
        rwa [SSt.subst_den hb] at this
    · cases hc
  · cases hc

theorem compOps_sound : ∀ {os : List AO} {n S k T env L Qs P}, compOps F hint os n S k = some T → env.length = n → S.lt n = true → KO F Q k L env Qs P → wp F Q T Qs env → Wo F os (SSt.den env S) P := by
  intro os
  induction os with
  | nil => intro n S k T env L Qs P hc hn hl hk hw; exact Wo.nil (hk _ _ _ _ _ hc hn hl Ext.refl AgreeQ.refl hw)
  | cons o os ih =>
    intro n S k T env L Qs P hc hn hl hk hw
    obtain ⟨S1, h1, S2, h2, h3⟩ := compOne_sound (P := fun S => Wo F os S P) (L := L) hc hn hl
      (fun n' S' T' env' Qs' hk' hn' hl' he ha hw' => ih hk' hn' hl' (hk.ext he ha) hw') hw
    exact ⟨S2, .cons h1 h2, h3⟩

theorem comp_sound : ∀ {c : ACode} {L n S k T env Qs P}, comp F hint c L n S k = some T → env.length = n → S.lt n = true → KS F Q k L env Qs P → wp F Q T Qs env → Wc F c (SSt.den env S) P := by
  intro c
  induction c with
  | skip => intro L n S k T env Qs P hc hn hl hk hw; exact Wc.skip (hk _ _ _ _ _ _ hc hn hl Ext.refl AgreeQ.refl hw)
  | region os ks =>
    intro L n S k T env Qs P hc hn hl hk hw
    refine Wc.region (compOps_sound (L := L) hc hn hl ?_ hw)
    intro n' S' T' env' Qs' hc' hn' hl' he ha hw'
    simp only at hc'
    split at hc'
    · rename_i hlt
      rw [← skillSlots_den]
      exact hk _ _ _ _ _ _ hc' hn' hlt he ha hw'
    · cases hc'
  | seq a b iha ihb =>
    intro L n S k T env Qs P hc hn hl hk hw
    have plain : ∀ T, (comp F hint a L n S fun e n S => match e with
      | .normal => comp F hint b L n S k
      | .exit id => k (.exit id) n S
      | .ret => k .ret n S) = some T → wp F Q T Qs env → Wc F (.seq a b) (SSt.den env S) P := by
      intro T hc hw
      refine Wc.seq (iha (L := L) hc hn hl ?_ hw)
      intro e n' S' T' env' Qs' hc' hn' hl' he ha hw'
      cases e with
      | normal => exact ihb hc' hn' hl' (hk.ext he ha) hw'
      | exit id => exact hk _ _ _ _ _ _ hc' hn' hl' he ha hw'
      | ret => exact hk _ _ _ _ _ _ hc' hn' hl' he ha hw'
    simp only [comp] at hc
    split at hc
    · split at hc
      · rename_i T0 hj
        simp only [Option.some.injEq] at hc
        subst hc
        simp only [Option.bind_eq_some_iff] at hj
        obtain ⟨⟨n1, S1⟩, _, hj⟩ := hj
        simp only at hj
        generalize hh : genS (dsts a) (stores a) n 0 S1 = h at *
        split at hj
        · rename_i hlt
          simp only [Option.bind_eq_some_iff, Option.map_eq_some_iff] at hj
          obtain ⟨t, h1, u, h2, rfl⟩ := hj
          obtain ⟨J, hw1, hw2⟩ := hw
          subst hn
          refine Wc.seq (iha (L := L + 1) h1 rfl hl ?_ hw1)
          intro e n' S' T' env' Qs' hc' hn' hl' he ha hw'
          have hQ : AgreeQ L Qs Qs' := fun i hi => by
            rw [ha i (by omega)]
            simp only [updQ]
            rw [if_neg (by omega)]
          cases e with
          | normal =>
            simp only at hc'
            split at hc'
            · rename_i hs
              simp only [Bool.and_eq_true, beq_iff_eq] at hs
              simp only [Option.some.injEq] at hc'
              subst hc'
              have hw3 : Qs' L ((fitS env.length h.1 S').map (At.den env')) := hw'
              rw [ha L (by omega)] at hw3
              simp only [updQ, if_true] at hw3
              obtain ⟨ys, rfl⟩ := he
              have hd := SSt.inst_den (env := env) (ext := ys) (as := fitS env.length h.1 S') h.1
              rw [SSt.same_ hs.1] at hd
              have hfl : ((fitS env.length h.1 S').map (At.den (env ++ ys))).map PV.flat = h.2.map At.fl := by rw [← hs.2]; simp [Function.comp_def, At.den_flat]
              have hvl : ((fitS env.length h.1 S').map (At.den (env ++ ys))).length = h.2.length := by have := congrArg List.length hfl; simpa using this
              show Wc F b (SSt.den (env ++ ys) S') P
              rw [hd]
              refine ihb h2 (by rw [List.length_append, hvl]) hlt (hk.ext Ext.app AgreeQ.refl) (hw2 _ hfl hw3)
            · cases hc'
          | exit id => exact hk _ _ _ _ _ _ hc' hn' hl' he hQ hw'
          | ret => exact hk _ _ _ _ _ _ hc' hn' hl' he hQ hw'
        · cases hj
      · exact plain T hc hw
    · exact plain T hc hw
  | cond c a b iha ihb =>
    intro L n S k T env Qs P hc hn hl hk hw
    simp only [comp, Option.bind_eq_some_iff] at hc
    obtain ⟨⟨⟨l, x⟩, X⟩, h1, hc⟩ := hc
    split at hc
    · rename_i t hX hx
      simp only at hX hx
      subst hX hx
      obtain ⟨h2, _⟩ := sbOne_den (env := env) h1 Sat.nil
      refine Wc.cond h2 ?_
      cases t
      · exact ihb hc hn hl hk hw
      · exact iha hc hn hl hk hw
    · rename_i i fl hX hx
      simp only at hX hx
      subst hX hx
      obtain ⟨h2, _⟩ := sbOne_den (env := env) h1 Sat.nil
      split at hc
      · rename_i hlt
        simp only [Bool.and_eq_true] at hlt
        simp only [Option.bind_eq_some_iff, Option.map_eq_some_iff] at hc
        obtain ⟨t, h3, e, h4, rfl⟩ := hc
        obtain ⟨b, hb, hw⟩ := hw
        simp only [dLA, hb] at h2
        refine Wc.cond h2 ?_
        cases b
        · have := ihb h4 hn hlt.2 hk hw
          rwa [SSt.subst_den hb] at this
        · have := iha h3 hn hlt.1 hk hw
          rwa [SSt.subst_den hb] at this
      · cases hc
    · cases hc
  | block id a iha =>
    intro L n S k T env Qs P hc hn hl hk hw
    refine Wc.block (iha (L := L) hc hn hl ?_ hw)
    intro e n' S' T' env' Qs' hc' hn' hl' he ha hw'
    exact hk _ _ _ _ _ _ hc' hn' hl' he ha hw'
  | loop a iha =>
    intro L n S k T env Qs P hc hn hl hk hw
    simp only [comp] at hc
    split at hc
    · rename_i hok
      simp only [Bool.and_eq_true] at hok
      simp only [Option.map_eq_some_iff] at hc
      obtain ⟨t, h1, rfl⟩ := hc
      obtain ⟨Inv, ⟨m0, hi0⟩, hstep⟩ := hw
      subst hn
      generalize hh : genS (dsts a) (stores a) env.length 0 S = h at *
      have hS : SSt.den env S = SSt.den (env ++ h.2.map (At.den env)) h.1 := by
        have := SSt.inst_den (env := env) (ext := []) (as := h.2) h.1
        rw [List.append_nil] at this
        rw [← this, SSt.same_ hok.1]
      have hfl0 : (h.2.map (At.den env)).map PV.flat = h.2.map At.fl := by simp [Function.comp_def, At.den_flat]
      rw [hS]
      refine Wc.loop (fun m st => ∃ vs, vs.map PV.flat = h.2.map At.fl ∧ Inv m vs ∧ st = SSt.den (env ++ vs) h.1) ?_ (n := m0) ⟨_, hfl0, hi0, rfl⟩
      rintro m st ⟨vs, hfl, hi, rfl⟩
      have hvl : vs.length = h.2.length := by have := congrArg List.length hfl; simpa using this
      refine iha (L := L + 1) h1 (by simp [hvl]) hok.2 ?_ (hstep m vs hfl hi)
      intro e n' S' T' env' Qs' hc' hn' hl' he ha hw'
      have hQ : AgreeQ L Qs Qs' := fun i hi => by
        rw [ha i (by omega)]
        simp only [updQ]
        rw [if_neg (by omega)]
      cases e with
      | normal =>
        simp only at hc'
        split at hc'
        · rename_i hs
          simp only [Bool.and_eq_true, beq_iff_eq] at hs
          simp only [Option.some.injEq] at hc'
          subst hc'
          have hw2 : Qs' L ((fitS env.length h.1 S').map (At.den env')) := hw'
          rw [ha L (by omega)] at hw2
          simp only [updQ, if_true] at hw2
          obtain ⟨m', hm', hi'⟩ := hw2
          refine ⟨m', hm', _, ?_, hi', ?_⟩
          · rw [← hs.2]; simp [Function.comp_def, At.den_flat]
          · obtain ⟨ys, rfl⟩ := he
            have := SSt.inst_den (env := env) (ext := vs ++ ys) (as := fitS env.length h.1 S') h.1
            rw [SSt.same_ hs.1] at this
            simp only [List.append_assoc] at this ⊢
            exact this
        · cases hc'
      | exit id => exact hk _ _ _ _ _ _ hc' hn' hl' (Ext.app.trans he) hQ hw'
      | ret => exact hk _ _ _ _ _ _ hc' hn' hl' (Ext.app.trans he) hQ hw'
    · cases hc
  | exit id => intro L n S k T env Qs P hc hn hl hk hw; exact Wc.exit (hk _ _ _ _ _ _ hc hn hl Ext.refl AgreeQ.refl hw)
  | ret => intro L n S k T env Qs P hc hn hl hk hw; exact Wc.ret (hk _ _ _ _ _ _ hc hn hl Ext.refl AgreeQ.refl hw)
  | pre ps a iha =>
    intro L n S k T env Qs P hc hn hl hk hw
    simp only [comp, Option.bind_eq_some_iff] at hc
    obtain ⟨S1, h1, hc⟩ := hc
    split at hc
    · rename_i hlt
      exact Wc.pre (spseudo_den h1) (iha hc hn hlt hk hw)
    · cases hc

/-! ### Functions -/
def sparTV (n : Nat) (agg : Bool) (fl : List Bool) : Option STV :=
  if agg then some (.agg ((fresh n fl).map fun a => .val (borL' .old a.fl) a)) else match fl with
    | [fl] => some (.one (.val (borL' .old fl) (.v n fl)))
    | _ => none
def sparTVs (n : Nat) : List Bool → List (List Bool) → Option SSt
  | [], [] => some []
  | b :: bs, f :: fs => (sparTV n b f).bind fun t => (sparTVs (n + f.length) bs fs).map fun l => t :: l
  | _, _ => none
def sentry (fd : AFunc) (fs : List (List Bool)) : Option SSt :=
  (sparTVs 0 fd.params fs).bind fun l => if l.length ≤ fd.ntmps then some (l ++ List.replicate (fd.ntmps - l.length) .undef) else none
theorem sparTV_den {b : Bool} {ps env rest : List PV} {t} (h : sparTV env.length b (ps.map PV.flat) = some t) : parTV b ps = some (t.den (env ++ (ps ++ rest))) := by
  unfold sparTV at h
  unfold parTV
  cases b with
  | true =>
    simp only [if_true, Option.some.injEq] at h ⊢
    subst h
    simp only [STV.den, List.map_map, Function.comp_def, SCell.den]
    congr 1
    have h3 := fresh_den (ps := ps) (env := env) (rest := rest)
    have h4 : ps.map (fun p => Cell.val (borL .old p) p) = ((fresh env.length (ps.map PV.flat)).map (At.den (env ++ (ps ++ rest)))).map (fun p => Cell.val (borL .old p) p) := by rw [h3]
    rw [h4, List.map_map]
    refine List.map_congr_left fun a _ => ?_
    simp only [Function.comp_def, borL'_eq, At.den_flat]
  | false =>
    match ps with
    | [p] =>
      simp only [List.map_cons, List.map_nil, Bool.false_eq_true, if_false, Option.some.injEq] at h ⊢
      subst h
      have h3 := fresh_den (ps := [p]) (env := env) (rest := rest)
      simp only [List.map_cons, List.map_nil, fresh, List.cons.injEq, and_true] at h3
      simp only [STV.den, SCell.den, borL'_eq, h3]
    | [] => simp at h
    | _ :: _ :: _ => simp at h
theorem sparTVs_den : ∀ {bs : List Bool} {args : List (List PV)} {env rest : List PV} {l}, sparTVs env.length bs (args.map fun r => r.map PV.flat) = some l →
    parTVs bs args = some (SSt.den (env ++ (args.flatten ++ rest)) l) := by
  intro bs
  induction bs with
  | nil =>
    intro args env rest l h
    cases args <;> simp [sparTVs] at h
    subst h; rfl
  | cons b bs ih =>
    intro args env rest l h
    cases args with
    | nil => simp [sparTVs] at h
    | cons a args =>
      simp only [List.map_cons, sparTVs, Option.bind_eq_some_iff, Option.map_eq_some_iff] at h
      obtain ⟨t, h1, l', h2, rfl⟩ := h
      have h3 := ih (env := env ++ a) (rest := rest) (by simpa using h2)
      have h4 := sparTV_den (rest := args.flatten ++ rest) h1
      simp only [List.append_assoc] at h3
      simp only [parTVs, h4, Option.bind_some, h3, Option.map_some, List.flatten_cons, List.append_assoc, SSt.den, List.map_cons]

def soutCell (want : Lev) : SCell → Option At
  | .val l a => if a.fl || want == .bor || (want == .deep && l == .deep) || (want == .borR && isOwn l) then some a else none
  | _ => none
def soutCells (want : Lev) : List SCell → Option (List At)
  | [] => some []
  | c :: cs => (soutCell want c).bind fun p => (soutCells want cs).map fun l => p :: l
theorem soutCells_den {env want} : ∀ {cs : List SCell} {as}, soutCells want cs = some as → outCells want (cs.map (SCell.den env)) = some (as.map (At.den env)) := by
  intro cs
  induction cs with
  | nil => intro as h; simp [soutCells] at h; subst h; rfl
  | cons c cs ih =>
    intro as h
    simp only [soutCells, Option.bind_eq_some_iff, Option.map_eq_some_iff] at h
    obtain ⟨a, h1, as', h2, rfl⟩ := h
    cases c with
    | val l a' =>
      simp only [soutCell] at h1
      split at h1
      · rename_i hc
        simp only [Option.some.injEq] at h1
        subst h1
        have : outCell want ((SCell.val l a').den env) = some (a'.den env) := by
          simp only [outCell, SCell.den, okRes, At.den_flat]
          rw [if_pos hc]
        simp only [List.map_cons, outCells, this, Option.bind_some, ih h2, Option.map_some]
      · cases h1
    | _ => simp [soutCell] at h1
def soutTV (S : SSt) (r : Nat × Option Nat) (k : Bool × Lev) : Option (List At) :=
  match r.2, S.g r.1 with
  | none, .one c => if k.1 then none else soutCells k.2 [c]
  | none, .agg cs => if k.1 then soutCells k.2 cs else none
  | some n, .box cs => if cs.length = n ∧ (k.1 = true ∨ n = 1) then soutCells k.2 cs else none
  | _, _ => none
theorem soutTV_den {env S r k as} (h : soutTV S r k = some as) : outTV (SSt.den env S) r k = some (as.map (At.den env)) := by
  unfold soutTV at h
  unfold outTV
  rw [SSt.g_den]
  split at h
  · rename_i c h1 h2
    rw [h1, h2]
    simp only [STV.den]
    split at h
    · cases h
    · rename_i hk; rw [if_neg hk]; exact soutCells_den (cs := [c]) h
  · rename_i cs h1 h2
    rw [h1, h2]
    simp only [STV.den]
    split at h
    · rename_i hk; rw [if_pos hk]; exact soutCells_den h
    · cases h
  · rename_i n cs h1 h2
    rw [h1, h2]
    simp only [STV.den, List.length_map]
    split at h
    · rename_i hk; rw [if_pos hk]; exact soutCells_den h
    · cases h
  · cases h
def souts (S : SSt) : List (Nat × Option Nat) → List (Bool × Lev) → Option (List (List At))
  | [], [] => some []
  | r :: rs, k :: ks => (soutTV S r k).bind fun p => (souts S rs ks).map fun l => p :: l
  | _, _ => none
theorem souts_den {env S} : ∀ {rs ks as}, souts S rs ks = some as → outs (SSt.den env S) rs ks = some (as.map fun r => r.map (At.den env)) := by
  intro rs
  induction rs with
  | nil => intro ks as h; cases ks <;> simp [souts] at h; subst h; rfl
  | cons r rs ih =>
    intro ks as h
    cases ks with
    | nil => simp [souts] at h
    | cons k ks =>
      simp only [souts, Option.bind_eq_some_iff, Option.map_eq_some_iff] at h
      obtain ⟨a, h1, as', h2, rfl⟩ := h
      simp only [outs, soutTV_den h1, Option.bind_some, ih h2, Option.map_some, List.map_cons]

def compFn (F : Nat → Option AFunc) (hint : Hint) (fd : AFunc) (fs : List (List Bool)) : Option Tr :=
  (sentry fd fs).bind fun S => if S.lt (total fs) then
    comp F hint fd.body 0 (total fs) S fun e n S => if e.leaves then (souts S fd.results fd.rk).map .ret else none
  else none
theorem tr_sound {k fd fs T} (hF : F k = some fd) (hc : compFn F hint fd fs = some T) {args : List (List PV)} (hfl : args.map (fun r => r.map PV.flat) = fs) {Q : List (List PV) → Prop}
    (hw : wp F Q T (fun _ _ => False) args.flatten) : ∃ rs, Big F (.fn k args rs) ∧ Q rs := by
  simp only [compFn, Option.bind_eq_some_iff] at hc
  obtain ⟨S, h1, hc⟩ := hc
  split at hc
  · rename_i hlt
    have he : entry fd args = some (SSt.den args.flatten S) := by
      simp only [sentry, Option.bind_eq_some_iff] at h1
      obtain ⟨l, h2, h3⟩ := h1
      subst hfl
      have h4 := sparTVs_den (env := []) (rest := []) h2
      simp only [List.nil_append, List.append_nil] at h4
      split at h3
      · rename_i hle
        simp only [Option.some.injEq] at h3
        subst h3
        simp only [entry, h4, Option.bind_some]
        rw [if_pos (by simpa [SSt.den] using hle)]
        simp [SSt.den, STV.den]
      · cases h3
    obtain ⟨e, S', b1, hl, rs, b2, b3⟩ := comp_sound (P := fun e S' => e.leaves = true ∧ ∃ rs, outs S' fd.results fd.rk = some rs ∧ Q rs) hc (total_flat hfl) hlt (by
      intro e n S' T' env' Qs' hc' hn' hl' he' ha hw'
      simp only at hc'
      split at hc'
      · rename_i hle
        simp only [Option.map_eq_some_iff] at hc'
        obtain ⟨as, h5, rfl⟩ := hc'
        exact ⟨hle, _, souts_den h5, hw'⟩
      · cases hc') hw
    exact ⟨rs, .fn hF he b1 hl b2, b3⟩
  · cases hc
end
end Go.Proofs.Ytkiliooegoldoaa
