/- The evaluator of code, as a relation. -/
import Derived.Test.YtkiliooegoldoaaPv
set_option linter.unusedVariables false
namespace Go.Proofs.Ytkiliooegoldoaa
open Go

/- Short words of the printed code. -/
abbrev I (n : Int) : PV := .int .i64 n
abbrev I0 : PV := .int .i64 0
abbrev B0 : PV := .bool false
abbrev S0 : PV := .str ⟨#[]⟩
abbrev Z (n : Nat) : PV := .sl n []

structure AFunc where
  params : List Bool
  ntmps : Nat
  body : ACode
  results : List (Nat × Option Nat)
  rk : List (Bool × Lev)
deriving Inhabited

def parTV (agg : Bool) (ps : List PV) : Option TV :=
  if agg then some (.agg (ps.map fun p => .val (borL .old p) p)) else match ps with
    | [p] => some (.one (.val (borL .old p) p))
    | _ => none
def parTVs : List Bool → List (List PV) → Option (List TV)
  | [], [] => some []
  | b :: bs, a :: as => (parTV b a).bind fun t => (parTVs bs as).map fun l => t :: l
  | _, _ => none
def entry (fd : AFunc) (args : List (List PV)) : Option St :=
  (parTVs fd.params args).bind fun l => if l.length ≤ fd.ntmps then some (l ++ List.replicate (fd.ntmps - l.length) .undef) else none

def okRes (want l : Lev) (p : PV) : Bool := p.flat || want == .bor || (want == .deep && l == .deep) || (want == .borR && isOwn l)
def outCell (want : Lev) : Cell → Option PV
  | .val l p => if okRes want l p then some p else none
  | _ => none
def outCells (want : Lev) : List Cell → Option (List PV)
  | [] => some []
  | c :: cs => (outCell want c).bind fun p => (outCells want cs).map fun l => p :: l
def outTV (S : St) (r : Nat × Option Nat) (k : Bool × Lev) : Option (List PV) :=
  match r.2, S.g r.1 with
  | none, .one c => if k.1 then none else outCells k.2 [c]
  | none, .agg cs => if k.1 then outCells k.2 cs else none
  | some n, .box cs => if cs.length = n ∧ (k.1 = true ∨ n = 1) then outCells k.2 cs else none
  | _, _ => none
def outs (S : St) : List (Nat × Option Nat) → List (Bool × Lev) → Option (List (List PV))
  | [], [] => some []
  | r :: rs, k :: ks => (outTV S r k).bind fun p => (outs S rs ks).map fun l => p :: l
  | _, _ => none

def resLev (l : Lev) (p : PV) : Lev := if p.flat then .deep else match l with
  | .deep => .deep
  | .borR => .borR
  | _ => .bor
def resCell (l : Lev) (p : PV) : Cell := .val (resLev l p) p
def resTup : List (Bool × Lev) → List (List PV) → Option (List (Bool × List Cell))
  | [], [] => some []
  | k :: ks, ps :: rs => if k.1 || ps.length == 1 then (resTup ks rs).map fun t => (k.1, ps.map (resCell k.2)) :: t else none
  | _, _ => none
def resAll (ks : List (Bool × Lev)) (rs : List (List PV)) : Option TV :=
  (resTup ks rs).bind fun t => match t with
    | [x] => TV.ofCells x.1 x.2
    | _ => some (.tup t)

def argsOf (S : St) : List AOpnd → Option (List (Bool × List PV))
  | [] => some []
  | o :: os => (bAny S o).bind fun x => (argsOf S os).map fun l => (x.1, x.2.map (·.2)) :: l

def guardOf (S : St) : Option (Nat × Bool) → Option Bool
  | none => some true
  | some (g, want) => match S.g g with
    | .one (.val _ (.bool b)) => some (b == want)
    | .undef => some false
    | _ => none

inductive Job where
  | code (c : ACode) (S : St) (e : AExit) (S' : St)
  | ops (os : List AO) (S S' : St)
  | one (o : AO) (S S' : St)
  | fn (k : Nat) (args rs : List (List PV))

def AExit.out (id : Nat) : AExit → AExit
  | .exit i => if i = id then .normal else .exit i
  | e => e
def AExit.leaves : AExit → Bool
  | .exit _ => false
  | _ => true

inductive Big (F : Nat → Option AFunc) : Job → Prop
  | skip (S) : Big F (.code .skip S .normal S)
  | exit (id S) : Big F (.code (.exit id) S (.exit id) S)
  | ret (S) : Big F (.code .ret S .ret S)
  | region {os ks S S'} : Big F (.ops os S S') → Big F (.code (.region os ks) S .normal (killSlots S' ks))
  | seqN {a b S S1 e S2} : Big F (.code a S .normal S1) → Big F (.code b S1 e S2) → Big F (.code (.seq a b) S e S2)
  | seqE {a b S e S1} : Big F (.code a S e S1) → e ≠ .normal → Big F (.code (.seq a b) S e S1)
  | cond {c a b S l t e S'} : bOne S c = some (l, .bool t) → Big F (.code (if t then a else b) S e S') → Big F (.code (.cond c a b) S e S')
  | block {id a S e S'} : Big F (.code a S e S') → Big F (.code (.block id a) S (e.out id) S')
  | loopN {a S S1 e S2} : Big F (.code a S .normal S1) → Big F (.code (.loop a) S1 e S2) → Big F (.code (.loop a) S e S2)
  | loopE {a S e S1} : Big F (.code a S e S1) → e ≠ .normal → Big F (.code (.loop a) S e S1)
  | pre {ps a S S1 e S2} : pseudo S ps = some S1 → Big F (.code a S1 e S2) → Big F (.code (.pre ps a) S e S2)
  | nil (S) : Big F (.ops [] S S)
  | cons {o os S S1 S2} : Big F (.one o S S1) → Big F (.ops os S1 S2) → Big F (.ops (o :: os) S S2)
  | not {o S S'} : guardOf S o.guard = some false → put false S o.dst .undef = some S' → Big F (.one o S S')
  | step {o S S'} : guardOf S o.guard = some true → step S o.dst o.op = some S' → Big F (.one o S S')
  | call {o S S' k as args fd rs tv} : guardOf S o.guard = some true → o.op = .call k as → argsOf S as = some args → F k = some fd → args.map (·.1) = fd.params →
      Big F (.fn k (args.map (·.2)) rs) → resAll fd.rk rs = some tv → put false S o.dst tv = some S' → Big F (.one o S S')
  | fn {k fd args rs S e S'} : F k = some fd → entry fd args = some S → Big F (.code fd.body S e S') → e.leaves = true → outs S' fd.results fd.rk = some rs → Big F (.fn k args rs)

end Go.Proofs.Ytkiliooegoldoaa
