/- Abstract reading of Go code and its soundness, part 1. -/
import Derived.Test.YtkiliooegoldoaaE0
import Derived.WalkKit
/- The evaluator of code, as a relation. -/
set_option linter.unusedVariables false
namespace Go.Proofs.Ytkiliooegoldoaa
open Go

/- Short words of the printed code. -/
abbrev I (n : Int) : PV := .int .i64 n
abbrev I0 : PV := .int .i64 0
abbrev B0 : PV := .bool false
abbrev S0 : PV := .str ⟨#[]⟩
abbrev Z (n : Nat) : PV := .sl n []

structure AFunc where
  params : List Bool
  ntmps : Nat
  body : ACode
  results : List (Nat × Option Nat)
  rk : List (Bool × Lev)
deriving Inhabited

def parTV (agg : Bool) (ps : List PV) : Option TV :=
  if agg then some (.agg (ps.map fun p => .val (borL .old p) p)) else match ps with
    | [p] => some (.one (.val (borL .old p) p))
    | _ => none
def parTVs : List Bool → List (List PV) → Option (List TV)
  | [], [] => some []
  | b :: bs, a :: as => (parTV b a).bind fun t => (parTVs bs as).map fun l => t :: l
  | _, _ => none
def entry (fd : AFunc) (args : List (List PV)) : Option St :=
  (parTVs fd.params args).bind fun l => if l.length ≤ fd.ntmps then some (l ++ List.replicate (fd.ntmps - l.length) .undef) else none

def okRes (want l : Lev) (p : PV) : Bool := p.flat || want == .bor || (want == .deep && l == .deep) || (want == .borR && isOwn l)
def outCell (want : Lev) : Cell → Option PV
  | .val l p => if okRes want l p then some p else none
  | _ => none
def outCells (want : Lev) : List Cell → Option (List PV)
  | [] => some []
  | c :: cs => (outCell want c).bind fun p => (outCells want cs).map fun l => p :: l
def outTV (S : St) (r : Nat × Option Nat) (k : Bool × Lev) : Option (List PV) :=
  match r.2, S.g r.1 with
  | none, .one c => if k.1 then none else outCells k.2 [c]
  | none, .agg cs => if k.1 then outCells k.2 cs else none
  | some n, .box cs => if cs.length = n ∧ (k.1 = true ∨ n = 1) then outCells k.2 cs else none
  | _, _ => none
def outs (S : St) : List (Nat × Option Nat) → List (Bool × Lev) → Option (List (List PV))
  | [], [] => some []
  | r :: rs, k :: ks => (outTV S r k).bind fun p => (outs S rs ks).map fun l => p :: l
  | _, _ => none

def resLev (l : Lev) (p : PV) : Lev := if p.flat then .deep else match l with
  | .deep => .deep
  | .borR => .borR
  | _ => .bor
def resCell (l : Lev) (p : PV) : Cell := .val (resLev l p) p
def resTup : List (Bool × Lev) → List (List PV) → Option (List (Bool × List Cell))
  | [], [] => some []
  | k :: ks, ps :: rs => if k.1 || ps.length == 1 then (resTup ks rs).map fun t => (k.1, ps.map (resCell k.2)) :: t else none
  | _, _ => none
def resAll (ks : List (Bool × Lev)) (rs : List (List PV)) : Option TV :=
  (resTup ks rs).bind fun t => match t with
    | [x] => TV.ofCells x.1 x.2
    | _ => some (.tup t)

def argsOf (S : St) : List AOpnd → Option (List (Bool × List PV))
  | [] => some []
  | o :: os => (bAny S o).bind fun x => (argsOf S os).map fun l => (x.1, x.2.map (·.2)) :: l

def guardOf (S : St) : Option (Nat × Bool) → Option Bool
  | none => some true
  | some (g, want) => match S.g g with
    | .one (.val _ (.bool b)) => some (b == want)
    | .undef => some false
    | _ => none

inductive Job where
  | code (c : ACode) (S : St) (e : AExit) (S' : St)
  | ops (os : List AO) (S S' : St)
  | one (o : AO) (S S' : St)
  | fn (k : Nat) (args rs : List (List PV))

def AExit.out (id : Nat) : AExit → AExit
  | .exit i => if i = id then .normal else .exit i
  | e => e
def AExit.leaves : AExit → Bool
  | .exit _ => false
  | _ => true

inductive Big (F : Nat → Option AFunc) : Job → Prop
  | skip (S) : Big F (.code .skip S .normal S)
  | exit (id S) : Big F (.code (.exit id) S (.exit id) S)
  | ret (S) : Big F (.code .ret S .ret S)
  | region {os ks S S'} : Big F (.ops os S S') → Big F (.code (.region os ks) S .normal (killSlots S' ks))
  | seqN {a b S S1 e S2} : Big F (.code a S .normal S1) → Big F (.code b S1 e S2) → Big F (.code (.seq a b) S e S2)
  | seqE {a b S e S1} : Big F (.code a S e S1) → e ≠ .normal → Big F (.code (.seq a b) S e S1)
  | cond {c a b S l t e S'} : bOne S c = some (l, .bool t) → Big F (.code (if t then a else b) S e S') → Big F (.code (.cond c a b) S e S')
  | block {id a S e S'} : Big F (.code a S e S') → Big F (.code (.block id a) S (e.out id) S')
  | loopN {a S S1 e S2} : Big F (.code a S .normal S1) → Big F (.code (.loop a) S1 e S2) → Big F (.code (.loop a) S e S2)
  | loopE {a S e S1} : Big F (.code a S e S1) → e ≠ .normal → Big F (.code (.loop a) S e S1)
  | pre {ps a S S1 e S2} : pseudo S ps = some S1 → Big F (.code a S1 e S2) → Big F (.code (.pre ps a) S e S2)
  | nil (S) : Big F (.ops [] S S)
  | cons {o os S S1 S2} : Big F (.one o S S1) → Big F (.ops os S1 S2) → Big F (.ops (o :: os) S S2)
  | not {o S S'} : guardOf S o.guard = some false → put false S o.dst .undef = some S' → Big F (.one o S S')
  | step {o S S'} : guardOf S o.guard = some true → step S o.dst o.op = some S' → Big F (.one o S S')
  | call {o S S' k as args fd rs tv} : guardOf S o.guard = some true → o.op = .call k as → argsOf S as = some args → F k = some fd → args.map (·.1) = fd.params →
      Big F (.fn k (args.map (·.2)) rs) → resAll fd.rk rs = some tv → put false S o.dst tv = some S' → Big F (.one o S S')
  | fn {k fd args rs S e S'} : F k = some fd → entry fd args = some S → Big F (.code fd.body S e S') → e.leaves = true → outs S' fd.results fd.rk = some rs → Big F (.fn k args rs)

end Go.Proofs.Ytkiliooegoldoaa

/- How abstract values lie in memory; what keeps them. -/
set_option linter.unusedVariables false
set_option linter.unusedSimpArgs false
namespace Go.Proofs.Ytkiliooegoldoaa
open Go

/-- What is put out, and what of the memory is frozen. -/
def outw (w : World) := fun a : Addr => (w.output, w.frozen? a)
theorem outw_setRow (w : World) (g : Nat) (cs : Array Value) : outw (w.setRow g cs) = outw w := by
  funext a
  have : (w.setRow g cs).frozen? a = w.frozen? a := by
    simp only [World.setRow, World.frozen?, Array.getElem?_modify]
    by_cases h : g = a.block
    · subst h
      simp only [if_true]
      cases w.heap[a.block]? with
      | none => rfl
      | some o => cases o <;> rfl
    · simp only [h, if_false]
  show ((w.setRow g cs).output, _) = (w.output, _)
  rw [this]; rfl
theorem outw_alloc (w : World) (c : Array Value) (t : TypeId) : outw (w.alloc (.cells c t)) = outw w := by
  funext a
  have : (w.alloc (.cells c t)).frozen? a = w.frozen? a := by
    by_cases h : a.block = w.heap.size
    · have e1 : (w.alloc (.cells c t)).heap[a.block]? = some (.cells c t) := by rw [h]; show (w.heap.push _)[w.heap.size]? = _; simp
      have e2 : w.heap[a.block]? = none := by rw [h]; simp
      simp [World.frozen?, e1, e2]
    · exact World.frozen?_alloc_old _ _ _ h
  show ((w.alloc (.cells c t)).output, _) = (w.output, _)
  rw [this]; rfl

/-! ### Cells -/
def CellOk (w : World) (ok : Nat → Nat → Prop) (A : Option Addr) (k : Nat) (v : Value) : Prop :=
  ∃ g o, A = some ⟨g, o, none⟩ ∧ ok g (o + k) ∧ w.cell? ⟨g, o + k, none⟩ = some v

/-- Values that read as these. -/
inductive RdL (w : World) (ok : Nat → Nat → Prop) : List PV → List Value → Prop
  | nil : RdL w ok [] []
  | int {k n ps vs} : RdL w ok ps vs → RdL w ok (.int k n :: ps) (.int k n :: vs)
  | bool {b ps vs} : RdL w ok ps vs → RdL w ok (.bool b :: ps) (.bool b :: vs)
  | str {s ps vs} : RdL w ok ps vs → RdL w ok (.str s :: ps) (.string s :: vs)
  | sl {sz xs A n c cvs ps vs} : xs.length = n → n ≤ c → (∀ r ∈ xs, r.length = sz) →
      (∀ k v, cvs[k]? = some v → CellOk w ok A k v) → RdL w ok xs.flatten cvs → RdL w ok ps vs →
      RdL w ok (.sl sz xs :: ps) (.slice A n c :: vs)

/-- Values whose blocks are owned, each once. -/
inductive OwL (w : World) (φ : Nat → Nat) : List PV → List Value → List Nat → Prop
  | nil : OwL w φ [] [] []
  | int {k n ps vs bs} : OwL w φ ps vs bs → OwL w φ (.int k n :: ps) (.int k n :: vs) bs
  | bool {b ps vs bs} : OwL w φ ps vs bs → OwL w φ (.bool b :: ps) (.bool b :: vs) bs
  | str {s ps vs bs} : OwL w φ ps vs bs → OwL w φ (.str s :: ps) (.string s :: vs) bs
  | snil {sz ps vs bs} : OwL w φ ps vs bs → OwL w φ (.sl sz [] :: ps) (.slice none 0 0 :: vs) bs
  | sl {sz xs g n c cur e ps vs b1 b2} : xs.length = n → n ≤ c → (∀ r ∈ xs, r.length = sz) →
      w.heap[g]? = some (.cells cur e (0, 0)) → cur.size = c * sz → φ g = n * sz →
      OwL w φ xs.flatten (cur.toList.take (n * sz)) b1 → OwL w φ ps vs b2 →
      OwL w φ (.sl sz xs :: ps) (.slice (some ⟨g, 0, none⟩) n c :: vs) (g :: (b1 ++ b2))

/-- A block that is owned; its rows are only read. -/
def OwR (w : World) (φ : Nat → Nat) (ok : Nat → Nat → Prop) (p : PV) (v : Value) (bs : List Nat) : Prop :=
  ∃ sz xs, p = .sl sz xs ∧ ((v = .slice none 0 0 ∧ xs = [] ∧ bs = []) ∨
    ∃ g n c cur e, v = .slice (some ⟨g, 0, none⟩) n c ∧ bs = [g] ∧ xs.length = n ∧ n ≤ c ∧ (∀ r ∈ xs, r.length = sz) ∧
      w.heap[g]? = some (.cells cur e (0, 0)) ∧ cur.size = c * sz ∧ φ g = n * sz ∧ RdL w ok xs.flatten (cur.toList.take (n * sz)))

def okB (φ : Nat → Nat) (g k : Nat) : Prop := k < φ g

structure Env where
  w0 : World
  φ0 : Nat → Nat
  lin : List Nat

/-- What came in and is only read: no later event of this call turns it. -/
def Env.okO (E : Env) (g k : Nat) : Prop := g < E.w0.heap.size ∧ g ∉ E.lin ∧ k < E.φ0 g

def CellR (E : Env) (w : World) (φ : Nat → Nat) : Cell → Value → List Nat → Prop
  | .val .old p, v, bs => RdL w E.okO [p] [v] ∧ bs = []
  | .val .bor p, v, bs => RdL w (okB φ) [p] [v] ∧ bs = []
  | .val .deep p, v, bs => OwL w φ [p] [v] bs
  | .val .oldR p, v, bs => OwR w φ E.okO p v bs
  | .val .borR p, v, bs => OwR w φ (okB φ) p v bs
  | .view .., v, bs => bs = [] ∧ v.oneCell' = true
  | .dead, _, bs => bs = []

def CellsR (E : Env) (w : World) (φ : Nat → Nat) : List Cell → List Value → List Nat → Prop
  | [], vs, bs => vs = [] ∧ bs = []
  | c :: cs, vs, bs => ∃ v vs' b1 b2, vs = v :: vs' ∧ bs = b1 ++ b2 ∧ CellR E w φ c v b1 ∧ CellsR E w φ cs vs' b2

def TupR (E : Env) (w : World) (φ : Nat → Nat) : List (Bool × List Cell) → List Value → List Nat → Prop
  | [], vs, bs => vs = [] ∧ bs = []
  | c :: cs, vs, bs => ∃ v vs' b1 b2, vs = v :: vs' ∧ bs = b1 ++ b2 ∧
      (if c.1 = true then ∃ arr, v = .agg arr ∧ CellsR E w φ c.2 arr.toList b1 else CellsR E w φ c.2 [v] b1) ∧ TupR E w φ cs vs' b2

def okOf (E : Env) (φ : Nat → Nat) : Lev → Nat → Nat → Prop
  | .old => E.okO
  | _ => okB φ

def TVR (E : Env) (w : World) (φ : Nat → Nat) : TV → Value → List Nat → Prop
  | .one c, v, bs => CellR E w φ c v bs
  | .agg cs, v, bs => ∃ arr, v = .agg arr ∧ CellsR E w φ cs arr.toList bs
  | .box cs, v, bs => ∃ g arr e b1, v = .pointer (some ⟨g, 0, none⟩) ∧ w.heap[g]? = some (.cells arr e (0, 0)) ∧ φ g = 0 ∧
      CellsR E w φ cs arr.toList b1 ∧ bs = g :: b1
  | .place .., _, bs => bs = []
  | .ep l row off, v, bs => bs = [] ∧ ∃ g o cvs, v = .pointer (some ⟨g, o + off, none⟩) ∧
      (∀ k u, cvs[k]? = some u → okOf E φ l g (o + k) ∧ w.cell? ⟨g, o + k, none⟩ = some u) ∧ RdL w (okOf E φ l) row cvs
  | .tup vs, v, bs => ∃ arr, v = .tuple arr ∧ TupR E w φ vs arr.toList bs
  | .undef, v, bs => bs = [] ∧ v = undef
  | .dead, _, bs => bs = []

def TVsR (E : Env) (w : World) (φ : Nat → Nat) : List TV → List Value → List Nat → Prop
  | [], vs, bs => vs = [] ∧ bs = []
  | c :: cs, vs, bs => ∃ v vs' b1 b2, vs = v :: vs' ∧ bs = b1 ++ b2 ∧ TVR E w φ c v b1 ∧ TVsR E w φ cs vs' b2

/-! ### Lengths, parts -/
theorem RdL.length {w ok ps vs} (h : RdL w ok ps vs) : ps.length = vs.length := by
  induction h <;> simp [*]
theorem OwL.length {w φ ps vs bs} (h : OwL w φ ps vs bs) : ps.length = vs.length := by
  induction h <;> simp [*]

theorem RdL.one_ {w ok ps vs} (h : RdL w ok ps vs) : ∀ u ∈ vs, u.oneCell' = true := by
  induction h <;> simp_all [Value.oneCell']
theorem OwL.one_ {w φ ps vs bs} (h : OwL w φ ps vs bs) : ∀ u ∈ vs, u.oneCell' = true := by
  induction h <;> simp_all [Value.oneCell']

theorem RdL.cons_iff {w ok p ps v vs} : RdL w ok (p :: ps) (v :: vs) ↔ RdL w ok [p] [v] ∧ RdL w ok ps vs := by
  constructor
  · intro h
    cases h with
    | int h => exact ⟨.int .nil, h⟩
    | bool h => exact ⟨.bool .nil, h⟩
    | str h => exact ⟨.str .nil, h⟩
    | sl a b c d e f => exact ⟨.sl a b c d e .nil, f⟩
  · rintro ⟨h, k⟩
    cases h with
    | int _ => exact .int k
    | bool _ => exact .bool k
    | str _ => exact .str k
    | sl a b c d e _ => exact .sl a b c d e k

theorem RdL.append_ {w ok ps vs qs us} (h : RdL w ok ps vs) (k : RdL w ok qs us) : RdL w ok (ps ++ qs) (vs ++ us) := by
  induction h with
  | nil => exact k
  | int _ ih => exact .int ih
  | bool _ ih => exact .bool ih
  | str _ ih => exact .str ih
  | sl a b c d e _ _ ih => exact .sl a b c d e ih

theorem RdL.get {w ok} : ∀ {ps vs}, RdL w ok ps vs → ∀ {i : Nat} {p}, ps[i]? = some p → ∃ v, vs[i]? = some v ∧ RdL w ok [p] [v] := by
  intro ps
  induction ps with
  | nil => intro vs _ i p hp; simp at hp
  | cons q ps ih =>
    intro vs h i p hp
    cases vs with
    | nil => cases h
    | cons v vs =>
      obtain ⟨h1, h2⟩ := RdL.cons_iff.1 h
      cases i with
      | zero => simp only [List.getElem?_cons_zero, Option.some.injEq] at hp; subst hp; exact ⟨v, rfl, h1⟩
      | succ i => simpa using ih h2 (by simpa using hp)

theorem RdL.take_ {w ok} : ∀ {ps vs}, RdL w ok ps vs → ∀ n : Nat, RdL w ok (ps.take n) (vs.take n) := by
  intro ps
  induction ps with
  | nil => intro vs h n; cases h; simp; exact .nil
  | cons q ps ih =>
    intro vs h n
    cases vs with
    | nil => cases h
    | cons v vs =>
      obtain ⟨h1, h2⟩ := RdL.cons_iff.1 h
      cases n with
      | zero => exact .nil
      | succ n => exact RdL.cons_iff.2 ⟨h1, ih h2 n⟩
theorem RdL.drop_ {w ok} : ∀ {ps vs}, RdL w ok ps vs → ∀ n : Nat, RdL w ok (ps.drop n) (vs.drop n) := by
  intro ps
  induction ps with
  | nil => intro vs h n; cases h; simp; exact .nil
  | cons q ps ih =>
    intro vs h n
    cases vs with
    | nil => cases h
    | cons v vs =>
      cases n with
      | zero => exact h
      | succ n => exact ih (RdL.cons_iff.1 h).2 n

theorem RdL.mono {w w' : World} {ok ok' : Nat → Nat → Prop} (hm : ∀ g k v, ok g k → w.cell? ⟨g, k, none⟩ = some v → ok' g k ∧ w'.cell? ⟨g, k, none⟩ = some v)
    {ps vs} (h : RdL w ok ps vs) : RdL w' ok' ps vs := by
  induction h with
  | nil => exact .nil
  | int _ ih => exact .int ih
  | bool _ ih => exact .bool ih
  | str _ ih => exact .str ih
  | sl a b c d _ _ ih1 ih2 =>
    refine .sl a b c (fun k v hk => ?_) ih1 ih2
    obtain ⟨g, o, hA, hok, hc⟩ := d k v hk
    obtain ⟨h1, h2⟩ := hm _ _ _ hok hc
    exact ⟨g, o, hA, h1, h2⟩

theorem OwL.cons_iff {w φ p ps v vs bs} : OwL w φ (p :: ps) (v :: vs) bs ↔ ∃ b1 b2, bs = b1 ++ b2 ∧ OwL w φ [p] [v] b1 ∧ OwL w φ ps vs b2 := by
  constructor
  · intro h
    cases h with
    | int h => exact ⟨[], _, rfl, .int .nil, h⟩
    | bool h => exact ⟨[], _, rfl, .bool .nil, h⟩
    | str h => exact ⟨[], _, rfl, .str .nil, h⟩
    | snil h => exact ⟨[], _, rfl, .snil .nil, h⟩
    | @sl _ _ g _ _ _ _ _ _ b1 b2 a b c d e f h k => exact ⟨g :: (b1 ++ []), b2, by simp, .sl a b c d e f h .nil, k⟩
  · rintro ⟨b1, b2, rfl, h, k⟩
    cases h with
    | int h => cases h; exact .int k
    | bool h => cases h; exact .bool k
    | str h => cases h; exact .str k
    | snil h => cases h; exact .snil k
    | @sl _ _ g _ _ _ _ _ _ b1 b2' a b c d e f h h' =>
      cases h'
      have := OwL.sl (w := w) (φ := φ) a b c d e f h k
      simpa using this

theorem OwL.append_ {w φ ps vs qs us b1 b2} (h : OwL w φ ps vs b1) (k : OwL w φ qs us b2) : OwL w φ (ps ++ qs) (vs ++ us) (b1 ++ b2) := by
  induction h with
  | nil => exact k
  | int _ ih => exact .int ih
  | bool _ ih => exact .bool ih
  | str _ ih => exact .str ih
  | snil _ ih => exact .snil ih
  | sl a b c d e f g _ _ ih => simpa [List.append_assoc] using OwL.sl a b c d e f g ih

theorem OwL.split_ {w φ} : ∀ {ps qs : List PV} {vs bs}, OwL w φ (ps ++ qs) vs bs → ∃ v1 v2 b1 b2, vs = v1 ++ v2 ∧ bs = b1 ++ b2 ∧ OwL w φ ps v1 b1 ∧ OwL w φ qs v2 b2 := by
  intro ps
  induction ps with
  | nil => intro qs vs bs h; exact ⟨[], vs, [], bs, rfl, rfl, .nil, h⟩
  | cons p ps ih =>
    intro qs vs bs h
    cases vs with
    | nil => cases h
    | cons v vs =>
      obtain ⟨b1, b2, rfl, h1, h2⟩ := OwL.cons_iff.1 h
      obtain ⟨v1, v2, c1, c2, rfl, rfl, k1, k2⟩ := ih h2
      exact ⟨v :: v1, v2, b1 ++ c1, c2, rfl, by simp, OwL.cons_iff.2 ⟨b1, c1, rfl, h1, k1⟩, k2⟩

theorem OwL.mono {w w' : World} {φ φ' : Nat → Nat} {ps vs bs} (h : OwL w φ ps vs bs) (hm : ∀ g ∈ bs, w'.heap[g]? = w.heap[g]? ∧ φ' g = φ g) : OwL w' φ' ps vs bs := by
  induction h with
  | nil => exact .nil
  | int _ ih => exact .int (ih hm)
  | bool _ ih => exact .bool (ih hm)
  | str _ ih => exact .str (ih hm)
  | snil _ ih => exact .snil (ih hm)
  | @sl _ _ g _ _ _ _ _ _ b1 b2 a b c d e f _ _ ih1 ih2 =>
    have hg := hm g (by simp)
    exact .sl a b c (hg.1.trans d) e (hg.2.trans f) (ih1 fun g' hg' => hm g' (by simp [hg'])) (ih2 fun g' hg' => hm g' (by simp [hg']))

theorem OwL.lt {w φ ps vs bs} (h : OwL w φ ps vs bs) : ∀ g ∈ bs, g < w.heap.size := by
  induction h with
  | nil => simp
  | int _ ih => exact ih
  | bool _ ih => exact ih
  | str _ ih => exact ih
  | snil _ ih => exact ih
  | @sl _ _ g _ _ _ _ _ _ b1 b2 a b c d e f _ _ ih1 ih2 =>
    intro g' hg'
    simp at hg'
    rcases hg' with rfl | hg' | hg'
    · exact (Array.getElem?_eq_some_iff.1 d).1
    · exact ih1 _ hg'
    · exact ih2 _ hg'

theorem cell_of_heap {w : World} {g k : Nat} {cur : Array Value} {e : TypeId} {fr : Nat × Nat} (h : w.heap[g]? = some (.cells cur e fr)) : w.cell? ⟨g, k, none⟩ = cur[k]? := by
  simp [World.cell?, h]

theorem rows_length {xs : List (List PV)} {sz : Nat} (h : ∀ r ∈ xs, r.length = sz) : xs.flatten.length = xs.length * sz := by
  induction xs with
  | nil => simp
  | cons x xs ih =>
    simp [h x (by simp), ih (fun r hr => h r (by simp [hr])), Nat.succ_mul, Nat.add_comm]

/-- What is owned is read, too. -/
theorem OwL.reads {w φ ps vs bs} (h : OwL w φ ps vs bs) : RdL w (okB φ) ps vs := by
  induction h with
  | nil => exact .nil
  | int _ ih => exact .int ih
  | bool _ ih => exact .bool ih
  | str _ ih => exact .str ih
  | @snil sz ps vs bs _ ih => exact .sl (cvs := []) rfl (Nat.le_refl _) (by simp) (by simp) (by simpa using RdL.nil) ih
  | @sl sz xs g n c cur e ps vs b1 b2 a b hr d es f _ _ ih1 ih2 =>
    refine .sl a b hr (fun k v hk => ⟨g, 0, rfl, ?_, ?_⟩) ih1 ih2
    · have := (List.getElem?_eq_some_iff.1 hk).1
      simp at this
      simp [okB, f]
      omega
    · rw [Nat.zero_add, cell_of_heap d]
      rw [List.getElem?_take] at hk
      split at hk
      · simpa using hk
      · simp at hk

theorem OwR.reads {w φ ok p v bs} (h : OwR w φ ok p v bs) (hok : ∀ g k v, ok g k → w.cell? ⟨g, k, none⟩ = some v → okB φ g k) : RdL w (okB φ) [p] [v] := by
  obtain ⟨sz, xs, rfl, h | ⟨g, n, c, cur, e, rfl, rfl, a, b, hr, d, es, f, hrd⟩⟩ := h
  · obtain ⟨rfl, rfl, rfl⟩ := h
    exact .sl (cvs := []) rfl (Nat.le_refl _) (by simp) (by simp) (by simpa using RdL.nil) .nil
  · refine .sl a b hr (fun k v hk => ⟨g, 0, rfl, ?_, ?_⟩) (hrd.mono fun g k v h1 h2 => ⟨hok g k v h1 h2, h2⟩) .nil
    · have := (List.getElem?_eq_some_iff.1 hk).1
      simp at this
      simp [okB, f]
      omega
    · rw [Nat.zero_add, cell_of_heap d]
      rw [List.getElem?_take] at hk
      split at hk
      · simpa using hk
      · simp at hk

end Go.Proofs.Ytkiliooegoldoaa

/- Views and places; the relation between an abstract state and a frame. -/
set_option linter.unusedVariables false
set_option linter.unusedSimpArgs false
namespace Go.Proofs.Ytkiliooegoldoaa
open Go

theorem flatten_get {α : Type} {sz : Nat} : ∀ {xs : List (List α)}, (∀ r ∈ xs, r.length = sz) → ∀ {i j : Nat} {r : List α} {q : α}, xs[i]? = some r → r[j]? = some q → xs.flatten[i * sz + j]? = some q := by
  intro xs
  induction xs with
  | nil => intro _ i j r q h; simp at h
  | cons x xs ih =>
    intro h i j r q hi hj
    have hx : x.length = sz := h x (by simp)
    cases i with
    | zero =>
      simp only [List.getElem?_cons_zero, Option.some.injEq] at hi
      subst hi
      have := (List.getElem?_eq_some_iff.1 hj).1
      rw [List.flatten_cons, List.getElem?_append_left (by omega)]
      simpa using hj
    | succ i =>
      have hl : (x :: xs).flatten[(i + 1) * sz + j]? = xs.flatten[i * sz + j]? := by
        rw [List.flatten_cons, List.getElem?_append_right (by rw [hx, Nat.succ_mul]; omega)]
        congr 1
        rw [hx, Nat.succ_mul]
        omega
      rw [hl]
      exact ih (fun r hr => h r (by simp [hr])) (by simpa using hi) hj

/-! ### Real values along a path -/
def rvPath (w : World) (φ : Nat → Nat) : Value → Path → Option Value
  | v, [] => some v
  | .slice (some a) _ _, (s, i, j) :: t =>
    if a.spot = none ∧ a.off + (i * s + j) < φ a.block then (w.cell? ⟨a.block, a.off + (i * s + j), none⟩).bind fun v => rvPath w φ v t else none
  | _, _ :: _ => none

def rootV (S : St) (vs : List Value) (w : World) (r c : Nat) : Option Value :=
  match S.g r, vs[r]? with
  | .one _, some v => if c = 0 then some v else none
  | .agg _, some (.agg arr) => arr[c]?
  | .box _, some (.pointer (some a)) => w.cell? ⟨a.block, c, none⟩
  | _, _ => none

def inner (l : Lev) : Prop := l = .deep ∨ l = .bor ∨ l = .borR

def ViewC (S : St) (vs : List Value) (w : World) (φ : Nat → Nat) : Cell → Value → Prop
  | .view r c path, v => rootish (S.g r) = true ∧ ∀ l p, rootCell S r c = .val l p →
      p.flat = false ∧ (path ≠ [] → inner l) ∧ (∃ q, pget p path = some q) ∧ ∃ v0, rootV S vs w r c = some v0 ∧ rvPath w φ v0 path = some v
  | _, _ => True

def PlaceR (S : St) (vs : List Value) (w : World) (φ : Nat → Nat) (r c : Nat) (path : Path) (v : Value) : Prop :=
  (path = [] ∧ ∃ cs g, S.g r = .box cs ∧ vs[r]? = some (.pointer (some ⟨g, 0, none⟩)) ∧ v = .pointer (some ⟨g, c, none⟩)) ∨
  ∃ pre s i j, path = pre ++ [(s, i, j)] ∧ rootish (S.g r) = true ∧ ∀ l p, rootCell S r c = .val l p →
    p.flat = false ∧ (pre ≠ [] → inner l) ∧ (∃ xs row, pget p pre = some (.sl s xs) ∧ xs[i]? = some row) ∧
    ∃ v0 g o n cap, rootV S vs w r c = some v0 ∧ rvPath w φ v0 pre = some (.slice (some ⟨g, o, none⟩) n cap) ∧ v = .pointer (some ⟨g, o + (i * s + j), none⟩)

def noView : Cell → Prop
  | .view .. => False
  | _ => True

def ViewTV (S : St) (vs : List Value) (w : World) (φ : Nat → Nat) : TV → Value → Prop
  | .one c, v => ViewC S vs w φ c v
  | .agg cs, v => ∀ arr, v = .agg arr → ∀ (i : Nat) c u, cs[i]? = some c → arr[i]? = some u → ViewC S vs w φ c u
  | .box cs, v => ∀ a arr e fr, v = .pointer (some a) → w.heap[a.block]? = some (.cells arr e fr) → ∀ (i : Nat) c u, cs[i]? = some c → arr[i]? = some u → ViewC S vs w φ c u
  | .place r c path, v => PlaceR S vs w φ r c path v
  | .tup ts, _ => ∀ x ∈ ts, ∀ c ∈ x.2, noView c
  | _, _ => True

def ViewsOK (S : St) (vs : List Value) (w : World) (φ : Nat → Nat) : Prop := ∀ (t : Nat) v, vs[t]? = some v → ViewTV S vs w φ (S.g t) v

/-- bs: the blocks that the slots own; hand: those that are owned by what is in hand. -/
structure SR (E : Env) (S : St) (vs : List Value) (w : World) (φ : Nat → Nat) (bs hand : List Nat) : Prop where
  tvs : TVsR E w φ S vs bs
  cnt : ∀ g, bs.count g + hand.count g ≤ 1
  own : ∀ g, g ∈ bs ∨ g ∈ hand → g < w.heap.size ∧ (E.w0.heap.size ≤ g ∨ g ∈ E.lin)
  views : ViewsOK S vs w φ
  size : E.w0.heap.size ≤ w.heap.size
  same : ∀ g, g < E.w0.heap.size → g ∉ E.lin → w.heap[g]? = E.w0.heap[g]? ∧ φ g = E.φ0 g
  os : w.os = E.w0.os ∧ w.tape = E.w0.tape ∧ outw w = outw E.w0

/-! ### One slot of many -/
theorem TVsR.length {E w φ} : ∀ {S : St} {vs bs}, TVsR E w φ S vs bs → S.length = vs.length := by
  intro S
  induction S with
  | nil => intro vs bs h; obtain ⟨rfl, _⟩ := h; rfl
  | cons c cs ih => intro vs bs h; obtain ⟨v, vs', b1, b2, rfl, rfl, _, h⟩ := h; simp [ih h]

theorem TVsR.get {E w φ} : ∀ {S : St} {vs bs}, TVsR E w φ S vs bs → ∀ {t : Nat} {v}, vs[t]? = some v →
    ∃ (bt br : List Nat), TVR E w φ (S.g t) v bt ∧ (∀ g, bs.count g = bt.count g + br.count g) ∧
      ∀ tv' v' bt', TVR E w φ tv' v' bt' → ∃ bs', TVsR E w φ (S.set t tv') (vs.set t v') bs' ∧ ∀ g, bs'.count g = bt'.count g + br.count g := by
  intro S
  induction S with
  | nil => intro vs bs h t v hv; obtain ⟨rfl, _⟩ := h; simp at hv
  | cons c cs ih =>
    intro vs bs h t v hv
    obtain ⟨u, us, b1, b2, rfl, rfl, hc, h⟩ := h
    cases t with
    | zero =>
      simp at hv
      subst hv
      refine ⟨b1, b2, by simpa [St.g] using hc, fun g => by simp, fun tv' v' bt' h' => ⟨bt' ++ b2, ⟨v', us, bt', b2, rfl, rfl, h', h⟩, fun g => by simp⟩⟩
    | succ t =>
      obtain ⟨bt, br, h1, h2, h3⟩ := ih h (by simpa using hv)
      refine ⟨bt, b1 ++ br, by simpa [St.g] using h1, fun g => by simp [h2 g]; omega, fun tv' v' bt' h' => ?_⟩
      obtain ⟨bs', k1, k2⟩ := h3 tv' v' bt' h'
      exact ⟨b1 ++ bs', ⟨u, us.set t v', b1, bs', rfl, rfl, hc, k1⟩, fun g => by simp [k2 g]; omega⟩

theorem CellsR.get {E w φ} : ∀ {S : List Cell} {vs bs}, CellsR E w φ S vs bs → ∀ {t : Nat} {c}, S[t]? = some c →
    ∃ (v : Value) (bt br : List Nat), vs[t]? = some v ∧ CellR E w φ c v bt ∧ (∀ g, bs.count g = bt.count g + br.count g) ∧
      ∀ tv' v' bt', CellR E w φ tv' v' bt' → ∃ bs', CellsR E w φ (S.set t tv') (vs.set t v') bs' ∧ ∀ g, bs'.count g = bt'.count g + br.count g := by
  intro S
  induction S with
  | nil => intro vs bs h t v hv; simp at hv
  | cons c cs ih =>
    intro vs bs h t v hv
    obtain ⟨u, us, b1, b2, rfl, rfl, hc, h⟩ := h
    cases t with
    | zero =>
      simp at hv
      subst hv
      refine ⟨u, b1, b2, rfl, hc, fun g => by simp, fun tv' v' bt' h' => ⟨bt' ++ b2, ⟨v', us, bt', b2, rfl, rfl, h', h⟩, fun g => by simp⟩⟩
    | succ t =>
      obtain ⟨v', bt, br, h0, h1, h2, h3⟩ := ih h (by simpa using hv)
      refine ⟨v', bt, b1 ++ br, by simpa using h0, h1, fun g => by simp [h2 g]; omega, fun tv' v' bt' h' => ?_⟩
      obtain ⟨bs', k1, k2⟩ := h3 tv' v' bt' h'
      exact ⟨b1 ++ bs', ⟨u, us.set t v', b1, bs', rfl, rfl, hc, k1⟩, fun g => by simp [k2 g]; omega⟩

theorem CellsR.length {E w φ} : ∀ {S : List Cell} {vs bs}, CellsR E w φ S vs bs → S.length = vs.length := by
  intro S
  induction S with
  | nil => intro vs bs h; obtain ⟨rfl, _⟩ := h; rfl
  | cons c cs ih => intro vs bs h; obtain ⟨v, vs', b1, b2, rfl, rfl, _, h⟩ := h; simp [ih h]

/-! ### Reading -/
theorem CellR.reads {E w φ l p v bs} (hO : ∀ g k u, E.okO g k → w.cell? ⟨g, k, none⟩ = some u → okB φ g k) (h : CellR E w φ (.val l p) v bs) : RdL w (okB φ) [p] [v] := by
  cases l with
  | old => exact h.1.mono fun g k u h1 h2 => ⟨hO g k u h1 h2, h2⟩
  | bor => exact h.1
  | deep => exact OwL.reads h
  | oldR => exact OwR.reads h hO
  | borR => exact OwR.reads h (fun g k v h _ => h)

theorem RdL.flat_ {w ok p v} (h : RdL w ok [p] [v]) (hf : p.flat = true) (w' : World) (ok' : Nat → Nat → Prop) (φ' : Nat → Nat) : RdL w' ok' [p] [v] ∧ OwL w' φ' [p] [v] [] := by
  cases h with
  | int _ => exact ⟨.int .nil, .int .nil⟩
  | bool _ => exact ⟨.bool .nil, .bool .nil⟩
  | str _ => exact ⟨.str .nil, .str .nil⟩
  | sl _ _ _ _ _ _ => simp [PV.flat] at hf

theorem OwR.not_flat {w φ ok p v bs} (h : OwR w φ ok p v bs) : p.flat = false := by
  obtain ⟨sz, xs, rfl, _⟩ := h
  rfl

/-- What is read along a path. -/
theorem RdL.pget {w φ ok} : ∀ {path : Path} {p q : PV} {v u : Value}, RdL w ok [p] [v] → pget p path = some q → rvPath w φ v path = some u → RdL w ok [q] [u] := by
  intro path
  induction path with
  | nil => intro p q v u h h1 h2; simp only [Ytkiliooegoldoaa.pget, rvPath, Option.some.injEq] at h1 h2; subst h1; subst h2; exact h
  | cons x t ih =>
    obtain ⟨s, i, j⟩ := x
    intro p q v u h h1 h2
    cases h with
    | int _ => simp [Ytkiliooegoldoaa.pget] at h1
    | bool _ => simp [Ytkiliooegoldoaa.pget] at h1
    | str _ => simp [Ytkiliooegoldoaa.pget] at h1
    | @sl sz xs A n c cvs _ _ a b hr d e _ =>
      simp only [Ytkiliooegoldoaa.pget] at h1
      split at h1 <;> rename_i hs
      · subst hs
        split at h1 <;> rename_i hi
        · split at h1 <;> rename_i hj
          · rename_i r _ q' hrow
            obtain ⟨u', hu', hread⟩ := e.get (flatten_get hr hi hj)
            obtain ⟨g, o, rfl, hok, hc⟩ := d _ _ hu'
            simp only [rvPath] at h2
            split at h2
            · rw [show (⟨(⟨g, o, none⟩ : Addr).block, (⟨g, o, none⟩ : Addr).off + (i * s + j), none⟩ : Addr) = ⟨g, o + (i * s + j), none⟩ from rfl, hc] at h2
              exact ih hread h1 h2
            · simp at h2
          · simp at h1
        · simp at h1
      · simp at h1

/-! ### Movers -/
theorem CellR.mono {E w w' φ φ' c v bs} (hO : ∀ g k u, E.okO g k → w.cell? ⟨g, k, none⟩ = some u → w'.cell? ⟨g, k, none⟩ = some u)
    (hB : ∀ g k u, okB φ g k → w.cell? ⟨g, k, none⟩ = some u → okB φ' g k ∧ w'.cell? ⟨g, k, none⟩ = some u)
    (hown : ∀ g ∈ bs, w'.heap[g]? = w.heap[g]? ∧ φ' g = φ g) (h : CellR E w φ c v bs) : CellR E w' φ' c v bs := by
  cases c with
  | view r c path => exact h
  | dead => exact h
  | val l p =>
    cases l with
    | old => exact ⟨h.1.mono fun g k u h1 h2 => ⟨h1, hO g k u h1 h2⟩, h.2⟩
    | bor => exact ⟨h.1.mono hB, h.2⟩
    | deep => exact OwL.mono h hown
    | oldR =>
      obtain ⟨sz, xs, rfl, h | ⟨g, n, c, cur, e, rfl, rfl, a, b, hr, d, es, f, hrd⟩⟩ := h
      · exact ⟨sz, xs, rfl, .inl h⟩
      · have hg := hown g (by simp)
        exact ⟨sz, xs, rfl, .inr ⟨g, n, c, cur, e, rfl, rfl, a, b, hr, hg.1.trans d, es, hg.2.trans f, hrd.mono fun g k u h1 h2 => ⟨h1, hO g k u h1 h2⟩⟩⟩
    | borR =>
      obtain ⟨sz, xs, rfl, h | ⟨g, n, c, cur, e, rfl, rfl, a, b, hr, d, es, f, hrd⟩⟩ := h
      · exact ⟨sz, xs, rfl, .inl h⟩
      · have hg := hown g (by simp)
        exact ⟨sz, xs, rfl, .inr ⟨g, n, c, cur, e, rfl, rfl, a, b, hr, hg.1.trans d, es, hg.2.trans f, hrd.mono hB⟩⟩

theorem CellsR.mono {E w w' φ φ'} (hO : ∀ g k u, E.okO g k → w.cell? ⟨g, k, none⟩ = some u → w'.cell? ⟨g, k, none⟩ = some u)
    (hB : ∀ g k u, okB φ g k → w.cell? ⟨g, k, none⟩ = some u → okB φ' g k ∧ w'.cell? ⟨g, k, none⟩ = some u) :
    ∀ {cs vs bs}, (∀ g ∈ bs, w'.heap[g]? = w.heap[g]? ∧ φ' g = φ g) → CellsR E w φ cs vs bs → CellsR E w' φ' cs vs bs := by
  intro cs
  induction cs with
  | nil => intro vs bs _ h; exact h
  | cons c cs ih =>
    intro vs bs hown h
    obtain ⟨u, us, b1, b2, rfl, rfl, hc, h⟩ := h
    exact ⟨u, us, b1, b2, rfl, rfl, hc.mono hO hB fun g hg => hown g (by simp [hg]), ih (fun g hg => hown g (by simp [hg])) h⟩

theorem TupR.mono {E w w' φ φ'} (hO : ∀ g k u, E.okO g k → w.cell? ⟨g, k, none⟩ = some u → w'.cell? ⟨g, k, none⟩ = some u)
    (hB : ∀ g k u, okB φ g k → w.cell? ⟨g, k, none⟩ = some u → okB φ' g k ∧ w'.cell? ⟨g, k, none⟩ = some u) :
    ∀ {cs vs bs}, (∀ g ∈ bs, w'.heap[g]? = w.heap[g]? ∧ φ' g = φ g) → TupR E w φ cs vs bs → TupR E w' φ' cs vs bs := by
  intro cs
  induction cs with
  | nil => intro vs bs _ h; exact h
  | cons c cs ih =>
    intro vs bs hown h
    obtain ⟨u, us, b1, b2, rfl, rfl, hc, h⟩ := h
    refine ⟨u, us, b1, b2, rfl, rfl, ?_, ih (fun g hg => hown g (by simp [hg])) h⟩
    split at hc <;> rename_i hb
    · obtain ⟨arr, rfl, hc⟩ := hc
      rw [if_pos hb]
      exact ⟨arr, rfl, hc.mono hO hB fun g hg => hown g (by simp [hg])⟩
    · rw [if_neg hb]
      exact hc.mono hO hB fun g hg => hown g (by simp [hg])

theorem TVR.mono {E w w' φ φ' c v bs} (hO : ∀ g k u, E.okO g k → w.cell? ⟨g, k, none⟩ = some u → w'.cell? ⟨g, k, none⟩ = some u)
    (hB : ∀ g k u, okB φ g k → w.cell? ⟨g, k, none⟩ = some u → okB φ' g k ∧ w'.cell? ⟨g, k, none⟩ = some u)
    (hown : ∀ g ∈ bs, w'.heap[g]? = w.heap[g]? ∧ φ' g = φ g) (h : TVR E w φ c v bs) : TVR E w' φ' c v bs := by
  cases c with
  | one c => exact CellR.mono hO hB hown h
  | agg cs => obtain ⟨arr, rfl, h⟩ := h; exact ⟨arr, rfl, h.mono hO hB hown⟩
  | box cs =>
    obtain ⟨g, arr, e, b1, rfl, hg, hf, h, rfl⟩ := h
    have k := hown g (by simp)
    exact ⟨g, arr, e, b1, rfl, k.1.trans hg, k.2.trans hf, h.mono hO hB fun g' hg' => hown g' (by simp [hg']), rfl⟩
  | place r c path => exact h
  | ep l row off =>
    obtain ⟨rfl, g, o, cvs, rfl, h1, h2⟩ := h
    have hm : ∀ g k u, okOf E φ l g k → w.cell? ⟨g, k, none⟩ = some u → okOf E φ' l g k ∧ w'.cell? ⟨g, k, none⟩ = some u := by
      intro g k u a b
      cases l with
      | old => exact ⟨a, hO g k u a b⟩
      | _ => exact hB g k u a b
    exact ⟨rfl, g, o, cvs, rfl, fun k u hk => hm _ _ _ (h1 k u hk).1 (h1 k u hk).2, h2.mono hm⟩
  | tup vs => obtain ⟨arr, rfl, h⟩ := h; exact ⟨arr, rfl, h.mono hO hB hown⟩
  | undef => exact h
  | dead => exact h

theorem TVsR.mono {E w w' φ φ'} (hO : ∀ g k u, E.okO g k → w.cell? ⟨g, k, none⟩ = some u → w'.cell? ⟨g, k, none⟩ = some u)
    (hB : ∀ g k u, okB φ g k → w.cell? ⟨g, k, none⟩ = some u → okB φ' g k ∧ w'.cell? ⟨g, k, none⟩ = some u) :
    ∀ {cs : St} {vs bs}, (∀ g ∈ bs, w'.heap[g]? = w.heap[g]? ∧ φ' g = φ g) → TVsR E w φ cs vs bs → TVsR E w' φ' cs vs bs := by
  intro cs
  induction cs with
  | nil => intro vs bs _ h; exact h
  | cons c cs ih =>
    intro vs bs hown h
    obtain ⟨u, us, b1, b2, rfl, rfl, hc, h⟩ := h
    exact ⟨u, us, b1, b2, rfl, rfl, hc.mono hO hB fun g hg => hown g (by simp [hg]), ih (fun g hg => hown g (by simp [hg])) h⟩

end Go.Proofs.Ytkiliooegoldoaa

/- Reading and taking. -/
set_option linter.unusedVariables false
set_option linter.unusedSimpArgs false
namespace Go.Proofs.Ytkiliooegoldoaa
open Go

theorem SR.hO {E S vs w φ bs hand} (h : SR E S vs w φ bs hand) : ∀ g k u, E.okO g k → w.cell? ⟨g, k, none⟩ = some u → okB φ g k :=
  fun g k u ⟨h1, h2, h3⟩ _ => by unfold okB; rw [(h.same g h1 h2).2]; exact h3

theorem count_zero_of {g : Nat} {l : List Nat} (h : g ∉ l) : l.count g = 0 := List.count_eq_zero.2 h
theorem mem_of_count {g : Nat} {l : List Nat} (h : 0 < l.count g) : g ∈ l := List.count_pos_iff.1 h

/-! ### A state some of whose cells are no longer owned -/
def WC (c c' : Cell) : Prop := c' = c ∨ c' = weakC c
def WTV : TV → TV → Prop
  | .one c, tv' => ∃ c', tv' = .one c' ∧ WC c c'
  | .agg cs, tv' => ∃ cs', tv' = .agg cs' ∧ cs'.length = cs.length ∧ ∀ (i : Nat) c c', cs[i]? = some c → cs'[i]? = some c' → WC c c'
  | .box cs, tv' => ∃ cs', tv' = .box cs' ∧ cs'.length = cs.length ∧ ∀ (i : Nat) c c', cs[i]? = some c → cs'[i]? = some c' → WC c c'
  | tv, tv' => tv' = tv
def WeakSt (S S' : St) : Prop := S'.length = S.length ∧ ∀ t, WTV (S.g t) (S'.g t)

theorem borL_idem (l : Lev) (p : PV) : borL (borL l p) p = borL l p := by
  unfold borL; split <;> cases l <;> rfl
theorem weakC_idem (c : Cell) : weakC (weakC c) = weakC c := by
  cases c <;> simp [weakC, borL_idem]
theorem WC.refl (c : Cell) : WC c c := .inl rfl
theorem WC.trans {a b c : Cell} (h : WC a b) (k : WC b c) : WC a c := by
  rcases h with rfl | rfl
  · exact k
  · rcases k with rfl | rfl
    · exact .inr rfl
    · exact .inr (weakC_idem a)
theorem WTV.refl (tv : TV) : WTV tv tv := by
  cases tv <;> simp only [WTV]
  · exact ⟨_, rfl, .refl _⟩
  · exact ⟨_, rfl, rfl, fun i c c' h h' => by rw [h] at h'; injection h' with h'; subst h'; exact .refl _⟩
  · exact ⟨_, rfl, rfl, fun i c c' h h' => by rw [h] at h'; injection h' with h'; subst h'; exact .refl _⟩
theorem get_of_length {α β : Type} {l : List α} {l' : List β} (h : l'.length = l.length) {i : Nat} {c : α} (hc : l[i]? = some c) : ∃ c', l'[i]? = some c' := by
  have := (List.getElem?_eq_some_iff.1 hc).1
  exact ⟨l'[i], List.getElem?_eq_getElem (by omega)⟩
theorem WTV.trans {a b c : TV} (h : WTV a b) (k : WTV b c) : WTV a c := by
  cases a <;> simp only [WTV] at h ⊢
  case one x =>
    obtain ⟨c1, rfl, h⟩ := h
    obtain ⟨c2, rfl, k⟩ := k
    exact ⟨c2, rfl, h.trans k⟩
  case agg x =>
    obtain ⟨c1, rfl, hl, h⟩ := h
    obtain ⟨c2, rfl, kl, k⟩ := k
    refine ⟨c2, rfl, kl.trans hl, fun i u u' e e' => ?_⟩
    obtain ⟨m, hm⟩ := get_of_length hl e
    exact (h i u m e hm).trans (k i m u' hm e')
  case box x =>
    obtain ⟨c1, rfl, hl, h⟩ := h
    obtain ⟨c2, rfl, kl, k⟩ := k
    refine ⟨c2, rfl, kl.trans hl, fun i u u' e e' => ?_⟩
    obtain ⟨m, hm⟩ := get_of_length hl e
    exact (h i u m e hm).trans (k i m u' hm e')
  all_goals (subst h; exact k)
theorem WeakSt.refl (S : St) : WeakSt S S := ⟨rfl, fun _ => .refl _⟩
theorem WeakSt.trans {a b c : St} (h : WeakSt a b) (k : WeakSt b c) : WeakSt a c := ⟨k.1.trans h.1, fun t => (h.2 t).trans (k.2 t)⟩

theorem g_set (S : St) (d t : Nat) (v : TV) : St.g (S.set d v) t = if t = d ∧ d < S.length then v else S.g t := by
  unfold St.g
  rw [List.getD_eq_getElem?_getD, List.getD_eq_getElem?_getD, List.getElem?_set]
  by_cases h : d = t
  · subst h
    by_cases hl : d < S.length
    · simp [hl]
    · simp [hl]
  · simp [h, Ne.symm h]

theorem WeakSt.set_ {S : St} {t : Nat} {tv : TV} (h : WTV (S.g t) tv) : WeakSt S (S.set t tv) := by
  refine ⟨by simp, fun u => ?_⟩
  rw [g_set]
  split <;> rename_i hu
  · rw [hu.1]; exact h
  · exact .refl _

theorem WC.rootish {c c' : Cell} (h : WC c c') : rootishC c' = rootishC c := by
  rcases h with rfl | rfl
  · rfl
  · cases c <;> rfl
theorem any_of_len {cs cs' : List Cell} (hl : cs'.length = cs.length) (h : ∀ (i : Nat) c c', cs[i]? = some c → cs'[i]? = some c' → WC c c') : cs'.any rootishC = cs.any rootishC := by
  induction cs generalizing cs' with
  | nil => cases cs' <;> simp_all
  | cons c cs ih =>
    cases cs' with
    | nil => simp at hl
    | cons c' cs' =>
      have h0 := (h 0 c c' rfl rfl).rootish
      have := @ih cs' (by simpa using hl) (fun i a b ha hb => h (i + 1) a b (by simpa using ha) (by simpa using hb))
      simp [h0, this]
theorem WTV.rootish {a b : TV} (h : WTV a b) : rootish b = rootish a := by
  cases a <;> simp only [WTV] at h
  case one x => obtain ⟨c, rfl, h⟩ := h; exact h.rootish
  case agg x => obtain ⟨c, rfl, hl, h⟩ := h; exact any_of_len hl h
  case box x => obtain ⟨c, rfl, hl, h⟩ := h; rfl
  all_goals (subst h; rfl)

theorem WeakSt.rootCell {S S' : St} (h : WeakSt S S') (r c : Nat) : WC (rootCell S r c) (rootCell S' r c) := by
  have hr := h.2 r
  unfold Ytkiliooegoldoaa.rootCell
  cases hS : S.g r <;> rw [hS] at hr <;> simp only [WTV] at hr
  case one x =>
    obtain ⟨c', h', hw⟩ := hr
    rw [h']
    dsimp only
    split
    · exact hw
    · exact .refl _
  case agg x =>
    obtain ⟨c', h', hl, hw⟩ := hr
    rw [h']
    simp only [List.getD_eq_getElem?_getD]
    cases hx : x[c]? with
    | none => rw [List.getElem?_eq_none (by have := List.getElem?_eq_none_iff.1 hx; omega)]; exact .refl _
    | some u => obtain ⟨u', hu'⟩ := get_of_length hl hx; rw [hu']; exact hw c u u' hx hu'
  case box x =>
    obtain ⟨c', h', hl, hw⟩ := hr
    rw [h']
    simp only [List.getD_eq_getElem?_getD]
    cases hx : x[c]? with
    | none => rw [List.getElem?_eq_none (by have := List.getElem?_eq_none_iff.1 hx; omega)]; exact .refl _
    | some u => obtain ⟨u', hu'⟩ := get_of_length hl hx; rw [hu']; exact hw c u u' hx hu'
  all_goals (rw [hr]; exact .refl _)

theorem WeakSt.rootV {S S' : St} (h : WeakSt S S') (vs : List Value) (w : World) (r c : Nat) : rootV S' vs w r c = rootV S vs w r c := by
  have hr := h.2 r
  unfold Ytkiliooegoldoaa.rootV
  cases hS : S.g r <;> rw [hS] at hr <;> simp only [WTV] at hr
  case one x => obtain ⟨c', h', hw⟩ := hr; rw [h']; cases vs[r]? <;> rfl
  case agg x => obtain ⟨c', h', hl, hw⟩ := hr; rw [h']; cases vs[r]? with
    | none => rfl
    | some v => cases v <;> rfl
  case box x => obtain ⟨c', h', hl, hw⟩ := hr; rw [h']; cases vs[r]? with
    | none => rfl
    | some v => cases v <;> first | rfl | (rename_i a; cases a <;> rfl)
  all_goals (rw [hr])

theorem weak_root {S S' : St} (h : WeakSt S S') {r c : Nat} {l : Lev} {p : PV} (hc : rootCell S' r c = .val l p) :
    ∃ l0, rootCell S r c = .val l0 p ∧ (p.flat = false → inner l0 → inner l) := by
  rcases h.rootCell r c with e | e
  · exact ⟨l, by rw [← e, hc], fun _ k => k⟩
  · cases hS : rootCell S r c with
    | val l0 p0 =>
      rw [hS, hc] at e
      simp only [weakC, Cell.val.injEq] at e
      obtain ⟨rfl, rfl⟩ := e
      refine ⟨l0, rfl, fun hf k => ?_⟩
      rcases k with rfl | rfl | rfl <;> simp [borL, hf, inner]
    | view a b d => rw [hS, hc] at e; simp [weakC] at e
    | dead => rw [hS, hc] at e; simp [weakC] at e

theorem ViewC.weak {S S' : St} (h : WeakSt S S') {vs w φ c v} (k : ViewC S vs w φ c v) : ViewC S' vs w φ c v := by
  cases c with
  | val l p => trivial
  | dead => trivial
  | view r c path =>
    obtain ⟨k1, k2⟩ := k
    refine ⟨(h.2 r).rootish.trans k1, fun l p hc => ?_⟩
    obtain ⟨l0, h0, hi⟩ := weak_root h hc
    obtain ⟨a, b, d, v0, e, f⟩ := k2 l0 p h0
    exact ⟨a, fun hp => hi a (b hp), d, v0, by rw [h.rootV]; exact e, f⟩

theorem PlaceR.weak {S S' : St} (h : WeakSt S S') {vs w φ r c path v} (k : PlaceR S vs w φ r c path v) : PlaceR S' vs w φ r c path v := by
  rcases k with ⟨rfl, cs, g, hS, hv, rfl⟩ | ⟨pre, s, i, j, rfl, k1, k2⟩
  · have hr := h.2 r
    rw [hS] at hr
    obtain ⟨cs', h', _⟩ := hr
    exact .inl ⟨rfl, cs', g, h', hv, rfl⟩
  · refine .inr ⟨pre, s, i, j, rfl, (h.2 r).rootish.trans k1, fun l p hc => ?_⟩
    obtain ⟨l0, h0, hi⟩ := weak_root h hc
    obtain ⟨a, b, d, v0, g, o, n, cap, e, f, f'⟩ := k2 l0 p h0
    exact ⟨a, fun hp => hi a (b hp), d, v0, g, o, n, cap, by rw [h.rootV]; exact e, f, f'⟩

theorem WC.view {c c' : Cell} (h : WC c c') {S : St} {vs w φ v} (k : ViewC S vs w φ c v) : ViewC S vs w φ c' v := by
  rcases h with rfl | rfl
  · exact k
  · cases c <;> first | trivial | exact k

theorem ViewTV.weak {S S' : St} (h : WeakSt S S') {vs w φ tv tv' v} (ht : WTV tv tv') (k : ViewTV S vs w φ tv v) : ViewTV S' vs w φ tv' v := by
  cases tv <;> simp only [WTV] at ht
  case one c => obtain ⟨c', rfl, hc⟩ := ht; exact hc.view (ViewC.weak h k)
  case agg cs =>
    obtain ⟨cs', rfl, hl, hc⟩ := ht
    intro arr hv i c u h1 h2
    obtain ⟨c0, h0⟩ := get_of_length hl.symm h1
    exact (hc i c0 c h0 h1).view (ViewC.weak h (k arr hv i c0 u h0 h2))
  case box cs =>
    obtain ⟨cs', rfl, hl, hc⟩ := ht
    intro a arr e fr hv hh i c u h1 h2
    obtain ⟨c0, h0⟩ := get_of_length hl.symm h1
    exact (hc i c0 c h0 h1).view (ViewC.weak h (k a arr e fr hv hh i c0 u h0 h2))
  case place r c path => subst ht; exact PlaceR.weak h k
  all_goals (subst ht; exact k)

theorem ViewsOK.weak {S S' : St} (h : WeakSt S S') {vs w φ} (k : ViewsOK S vs w φ) : ViewsOK S' vs w φ :=
  fun t v hv => ViewTV.weak h (h.2 t) (k t v hv)

/-! ### Reading -/
theorem CellR.weak {E S vs w φ bs hand} (hs : SR E S vs w φ bs hand) {l p v b} (h : CellR E w φ (.val l p) v b) : CellR E w φ (.val (borL l p) p) v [] := by
  unfold borL
  split <;> rename_i hf
  · exact ((CellR.reads hs.hO h).flat_ hf w (okB φ) φ).2
  · cases l <;> dsimp only
    · exact ⟨h.1, rfl⟩
    all_goals exact ⟨CellR.reads hs.hO h, rfl⟩

theorem CellR.bor {E S vs w φ bs hand} (hs : SR E S vs w φ bs hand) {q v} (h : RdL w (okB φ) [q] [v]) : CellR E w φ (.val (borL .bor q) q) v [] := by
  unfold borL
  split <;> rename_i hf
  · exact (h.flat_ hf w (okB φ) φ).2
  · exact ⟨h, rfl⟩

theorem SR.slot {E S vs w φ bs hand} (hs : SR E S vs w φ bs hand) {t : Nat} {v : Value} (hv : vs[t]? = some v) : ∃ bt, TVR E w φ (S.g t) v bt ∧ ViewTV S vs w φ (S.g t) v := by
  obtain ⟨bt, br, h, _⟩ := hs.tvs.get hv
  exact ⟨bt, h, hs.views t v hv⟩

theorem SR.lt {E S vs w φ bs hand} (hs : SR E S vs w φ bs hand) {t : Nat} (h : S.g t ≠ .dead) : ∃ v, vs[t]? = some v := by
  have hl := hs.tvs.length
  by_cases ht : t < S.length
  · exact ⟨vs[t], List.getElem?_eq_getElem (by omega)⟩
  · exact absurd (by unfold St.g; rw [List.getD_eq_getElem?_getD, List.getElem?_eq_none (by omega)]; rfl) h

/-- The real value at a root's cell reads as the cell says. -/
theorem SR.root {E S vs w φ bs hand} (hs : SR E S vs w φ bs hand) {r c : Nat} {l : Lev} {p : PV} {v : Value} (hc : rootCell S r c = .val l p) (hv : rootV S vs w r c = some v) :
    ∃ b, CellR E w φ (.val l p) v b := by
  unfold rootCell at hc
  unfold rootV at hv
  cases hS : S.g r <;> rw [hS] at hc hv <;> dsimp only at hc hv
  case one x =>
    obtain ⟨u, hu⟩ := hs.lt (t := r) (by rw [hS]; simp)
    obtain ⟨bt, h, _⟩ := hs.slot hu
    rw [hS] at h
    rw [hu] at hv
    dsimp only at hv
    split at hc
    · rename_i h0
      rw [if_pos h0] at hv
      injection hv with hv
      subst hv; subst hc
      exact ⟨bt, h⟩
    · cases hc
  case agg x =>
    obtain ⟨u, hu⟩ := hs.lt (t := r) (by rw [hS]; simp)
    obtain ⟨bt, h, _⟩ := hs.slot hu
    rw [hS] at h
    obtain ⟨arr, rfl, h⟩ := h
    rw [hu] at hv
    dsimp only at hv
    rw [List.getD_eq_getElem?_getD] at hc
    cases hx : x[c]? with
    | none => rw [hx] at hc; cases hc
    | some cc =>
      rw [hx] at hc
      simp only [Option.getD_some] at hc
      subst hc
      obtain ⟨v', b, br, h1, h2, _⟩ := h.get hx
      rw [Array.getElem?_toList, hv] at h1
      injection h1 with h1
      subst h1
      exact ⟨b, h2⟩
  case box x =>
    obtain ⟨u, hu⟩ := hs.lt (t := r) (by rw [hS]; simp)
    obtain ⟨bt, h, _⟩ := hs.slot hu
    rw [hS] at h
    obtain ⟨g, arr, e, b1, rfl, hg, hf, h, rfl⟩ := h
    rw [hu] at hv
    dsimp only at hv
    rw [cell_of_heap hg] at hv
    rw [List.getD_eq_getElem?_getD] at hc
    cases hx : x[c]? with
    | none => rw [hx] at hc; cases hc
    | some cc =>
      rw [hx] at hc
      simp only [Option.getD_some] at hc
      subst hc
      obtain ⟨v', b, br, h1, h2, _⟩ := h.get hx
      rw [Array.getElem?_toList, hv] at h1
      injection h1 with h1
      subst h1
      exact ⟨b, h2⟩
  all_goals cases hc

theorem bCell_sound {E S vs w φ bs hand rs c v b l p} (hs : SR E S vs w φ bs hand) (hc : CellR E w φ c v b) (hv : ViewC S vs w φ c v) (h : bCell S rs c = some (l, p)) :
    CellR E w φ (.val l p) v [] := by
  cases c with
  | val l0 p0 =>
    simp only [bCell, Option.some.injEq, Prod.mk.injEq] at h
    obtain ⟨rfl, rfl⟩ := h
    exact CellR.weak hs hc
  | dead => simp [bCell] at h
  | view r c path =>
    simp only [bCell] at h
    split at h
    · split at h
      · rename_i l0 p0 hr
        obtain ⟨_, k⟩ := hv
        obtain ⟨_, _, _, v0, k1, k2⟩ := k _ _ hr
        obtain ⟨b0, hb0⟩ := hs.root hr k1
        cases hq : pget p0 path with
        | none => rw [hq] at h; simp at h
        | some q =>
          rw [hq] at h
          simp only [Option.map_some, Option.some.injEq, Prod.mk.injEq] at h
          obtain ⟨rfl, rfl⟩ := h
          exact CellR.bor hs ((CellR.reads hs.hO hb0).pget hq k2)
      · simp at h
    · simp at h

theorem bCells_sound {E S vs w φ bs hand rs} (hs : SR E S vs w φ bs hand) : ∀ {cs us b l}, CellsR E w φ cs us b → (∀ (i : Nat) c u, cs[i]? = some c → us[i]? = some u → ViewC S vs w φ c u) →
    bCells S rs cs = some l → CellsR E w φ (l.map valCell) us [] := by
  intro cs
  induction cs with
  | nil => intro us b l h _ hl; simp only [bCells, Option.some.injEq] at hl; subst hl; obtain ⟨rfl, _⟩ := h; exact ⟨rfl, rfl⟩
  | cons c cs ih =>
    intro us b l h hv hl
    obtain ⟨u, us', b1, b2, rfl, rfl, hc, h⟩ := h
    simp only [bCells] at hl
    cases h1 : bCell S rs c with
    | none => rw [h1] at hl; simp at hl
    | some x =>
      rw [h1] at hl
      simp only [Option.bind_some] at hl
      cases h2 : bCells S rs cs with
      | none => rw [h2] at hl; simp at hl
      | some l' =>
        rw [h2] at hl
        simp only [Option.map_some, Option.some.injEq] at hl
        subst hl
        exact ⟨u, us', [], [], rfl, rfl, bCell_sound hs hc (hv 0 c u rfl rfl) h1, ih h (fun i c u a b => hv (i + 1) c u (by simpa using a) (by simpa using b)) h2⟩

end Go.Proofs.Ytkiliooegoldoaa

/- Taking. -/
set_option linter.unusedVariables false
set_option linter.unusedSimpArgs false
namespace Go.Proofs.Ytkiliooegoldoaa
open Go

theorem elem_iff {r : Nat} {rs : List Nat} : rs.elem r = true ↔ r ∈ rs := by simp

theorem g_setRoot_ne {S : St} {r c t : Nat} {x : Cell} (h : t ≠ r) : St.g (setRoot S r c x) t = S.g t := by
  unfold setRoot
  split <;> first | rfl | (rw [g_set, if_neg (by omega)])

theorem set_get_same (vs : List Value) (t : Nat) {v : Value} (h : vs[t]? = some v) : vs.set t v = vs := by
  apply List.ext_getElem?
  intro i
  rw [List.getElem?_set]
  split
  · rename_i e
    subst e
    have := (List.getElem?_eq_some_iff.1 h).1
    rw [if_pos this, h]
  · rfl

/-- A root's cell is taken out. -/
theorem SR.takeRoot {E S vs w φ bs hand} (hs : SR E S vs w φ bs hand) {r c : Nat} {l : Lev} {p : PV} {v : Value} (hc : rootCell S r c = .val l p) (hv : rootV S vs w r c = some v) :
    ∃ bs' b, SR E (setRoot S r c (weakC (.val l p))) vs w φ bs' (b ++ hand) ∧ CellR E w φ (.val l p) v b ∧ WeakSt S (setRoot S r c (weakC (.val l p))) := by
  have main : ∀ (tv : TV), WTV (S.g r) tv → (∀ u bt, vs[r]? = some u → TVR E w φ (S.g r) u bt → ∃ bt' b, TVR E w φ tv u bt' ∧ CellR E w φ (.val l p) v b ∧ ∀ g, bt'.count g + b.count g = bt.count g) →
      S.g r ≠ .dead → ∃ bs' b, SR E (S.set r tv) vs w φ bs' (b ++ hand) ∧ CellR E w φ (.val l p) v b ∧ WeakSt S (S.set r tv) := by
    intro tv hw hk hd
    obtain ⟨u, hu⟩ := hs.lt hd
    obtain ⟨bt, br, h1, h2, h3⟩ := hs.tvs.get hu
    obtain ⟨bt', b, k1, k2, k3⟩ := hk u bt hu h1
    obtain ⟨bs', m1, m2⟩ := h3 tv u bt' k1
    rw [set_get_same vs r hu] at m1
    have hweak := WeakSt.set_ hw
    have hcount : ∀ g, bs'.count g + b.count g = bs.count g := fun g => by have := h2 g; have := k3 g; have := m2 g; omega
    refine ⟨bs', b, ⟨m1, fun g => ?_, fun g hg => ?_, hs.views.weak hweak, hs.size, hs.same, hs.os⟩, k2, hweak⟩
    · have := hs.cnt g; have := hcount g; simp only [List.count_append]; omega
    · refine hs.own g ?_
      by_cases hb : g ∈ bs
      · exact .inl hb
      · have h0 := count_zero_of hb
        have := hcount g
        rcases hg with hg | hg
        · have := List.count_pos_iff.2 hg; omega
        · rcases List.mem_append.1 hg with hg | hg
          · have := List.count_pos_iff.2 hg; omega
          · exact .inr hg
  unfold rootCell at hc
  unfold rootV at hv
  unfold setRoot
  cases hS : S.g r <;> rw [hS] at hc hv <;> dsimp only at hc hv ⊢
  case one x =>
    split at hc
    · rename_i h0
      subst hc
      refine main _ (by rw [hS]; exact ⟨_, rfl, .inr rfl⟩) (fun u bt hu h => ?_) (by rw [hS]; simp)
      rw [hS] at h
      rw [hu] at hv
      dsimp only at hv
      rw [if_pos h0] at hv
      injection hv with hv
      subst hv
      exact ⟨[], bt, CellR.weak hs h, h, fun g => by simp⟩
    · cases hc
  case agg x =>
    rw [List.getD_eq_getElem?_getD] at hc
    cases hx : x[c]? with
    | none => rw [hx] at hc; cases hc
    | some cc =>
      rw [hx] at hc
      simp only [Option.getD_some] at hc
      subst hc
      refine main _ (by
        rw [hS]
        refine ⟨_, rfl, by simp, fun i a b h1 h2 => ?_⟩
        rw [List.getElem?_set] at h2
        split at h2
        · rename_i e
          subst e
          rw [hx] at h1
          injection h1 with h1
          subst h1
          split at h2
          · injection h2 with h2; subst h2; exact .inr rfl
          · cases h2
        · rw [h1] at h2; injection h2 with h2; subst h2; exact .refl _) (fun u bt hu h => ?_) (by rw [hS]; simp)
      rw [hS] at h
      obtain ⟨arr, rfl, h⟩ := h
      rw [hu] at hv
      dsimp only at hv
      obtain ⟨v', b, br, h1, h2, h3, h4⟩ := h.get hx
      rw [Array.getElem?_toList, hv] at h1
      injection h1 with h1
      subst h1
      obtain ⟨bt', m1, m2⟩ := h4 _ v [] (CellR.weak hs h2)
      rw [set_get_same _ c (by rw [Array.getElem?_toList]; exact hv)] at m1
      exact ⟨bt', b, ⟨arr, rfl, m1⟩, h2, fun g => by have := h3 g; have := m2 g; simp at *; omega⟩
  case box x =>
    rw [List.getD_eq_getElem?_getD] at hc
    cases hx : x[c]? with
    | none => rw [hx] at hc; cases hc
    | some cc =>
      rw [hx] at hc
      simp only [Option.getD_some] at hc
      subst hc
      refine main _ (by
        rw [hS]
        refine ⟨_, rfl, by simp, fun i a b h1 h2 => ?_⟩
        rw [List.getElem?_set] at h2
        split at h2
        · rename_i e
          subst e
          rw [hx] at h1
          injection h1 with h1
          subst h1
          split at h2
          · injection h2 with h2; subst h2; exact .inr rfl
          · cases h2
        · rw [h1] at h2; injection h2 with h2; subst h2; exact .refl _) (fun u bt hu h => ?_) (by rw [hS]; simp)
      rw [hS] at h
      obtain ⟨g, arr, e, b1, rfl, hg, hf, h, rfl⟩ := h
      rw [hu] at hv
      dsimp only at hv
      rw [cell_of_heap hg] at hv
      obtain ⟨v', b, br, h1, h2, h3, h4⟩ := h.get hx
      rw [Array.getElem?_toList, hv] at h1
      injection h1 with h1
      subst h1
      obtain ⟨bt', m1, m2⟩ := h4 _ v [] (CellR.weak hs h2)
      rw [set_get_same _ c (by rw [Array.getElem?_toList]; exact hv)] at m1
      exact ⟨g :: bt', b, ⟨g, arr, e, bt', rfl, hg, hf, m1, rfl⟩, h2, fun g' => by have := h3 g'; have := m2 g'; simp [List.count_cons] at *; omega⟩
  all_goals cases hc

/-- Cells are taken; those of slot n itself (n is no root) are given up afterwards. -/
theorem tCells_sound {E vs w φ rs n} (hn : rs.elem n = false) : ∀ {cs us b S bs hand cs' S'}, SR E S vs w φ bs hand → CellsR E w φ cs us b →
    (∀ (i : Nat) c u, cs[i]? = some c → us[i]? = some u → ViewC S vs w φ c u) → tCells S rs cs = some (cs', S') →
    ∃ bs' bv bc, SR E S' vs w φ bs' (bv ++ hand) ∧ WeakSt S S' ∧ S'.g n = S.g n ∧ CellsR E w φ cs' us bc ∧ (∀ g, bc.count g = b.count g + bv.count g) ∧
      (∀ (i : Nat) c u, cs'[i]? = some c → us[i]? = some u → ViewC S' vs w φ c u) ∧ cs'.length = cs.length := by
  intro cs
  induction cs with
  | nil =>
    intro us b S bs hand cs' S' hs h hv ht
    simp only [tCells, Option.some.injEq, Prod.mk.injEq] at ht
    obtain ⟨rfl, rfl⟩ := ht
    obtain ⟨rfl, rfl⟩ := h
    exact ⟨bs, [], [], hs, .refl _, rfl, ⟨rfl, rfl⟩, fun g => rfl, by simp, rfl⟩
  | cons c cs ih =>
    intro us b S bs hand cs' S' hs h hv ht
    obtain ⟨u, us', b1, b2, rfl, rfl, hc, h⟩ := h
    simp only [tCells] at ht
    cases h1 : tCell S rs c with
    | none => rw [h1] at ht; simp at ht
    | some x =>
      obtain ⟨c1, S1⟩ := x
      rw [h1] at ht
      simp only [Option.bind_some] at ht
      cases h2 : tCells S1 rs cs with
      | none => rw [h2] at ht; simp at ht
      | some y =>
        obtain ⟨cs2, S2⟩ := y
        rw [h2] at ht
        simp only [Option.map_some, Option.some.injEq, Prod.mk.injEq] at ht
        obtain ⟨rfl, rfl⟩ := ht
        have hu := hv 0 c u rfl rfl
        have step : ∃ bs1 bv1 bc1, SR E S1 vs w φ bs1 (bv1 ++ hand) ∧ WeakSt S S1 ∧ S1.g n = S.g n ∧ CellR E w φ c1 u bc1 ∧ (∀ g, bc1.count g = b1.count g + bv1.count g) ∧ ViewC S1 vs w φ c1 u := by
          cases c with
          | dead => simp [tCell] at h1
          | val l p =>
            simp only [tCell, Option.some.injEq, Prod.mk.injEq] at h1
            obtain ⟨rfl, rfl⟩ := h1
            exact ⟨bs, [], b1, hs, .refl _, rfl, hc, fun g => by simp, trivial⟩
          | view r cc path =>
            cases path with
            | cons x path =>
              simp only [tCell, Option.some.injEq, Prod.mk.injEq] at h1
              obtain ⟨rfl, rfl⟩ := h1
              exact ⟨bs, [], b1, hs, .refl _, rfl, hc, fun g => by simp, hu⟩
            | nil =>
              simp only [tCell] at h1
              split at h1
              · rename_i hr
                split at h1
                · rename_i l p hroot
                  simp only [Option.some.injEq, Prod.mk.injEq] at h1
                  obtain ⟨rfl, rfl⟩ := h1
                  obtain ⟨_, k⟩ := hu
                  obtain ⟨_, _, _, v0, k1, k2⟩ := k _ _ hroot
                  simp only [rvPath, Option.some.injEq] at k2
                  subst k2
                  obtain ⟨bs1, b', m1, m2, m3⟩ := hs.takeRoot hroot k1
                  have hb1 : b1 = [] := hc.1
                  subst hb1
                  exact ⟨bs1, b', b', m1, m3, g_setRoot_ne (by rintro rfl; rw [hr] at hn; cases hn), m2, fun g => by simp, trivial⟩
                · simp at h1
              · simp at h1
        obtain ⟨bs1, bv1, bc1, m1, m2, m3, m4, m5, m6⟩ := step
        obtain ⟨bs', bv, bc, q1, q2, q3, q4, q5, q6, q7⟩ := ih m1 h (fun i c u a b => ViewC.weak m2 (hv (i + 1) c u (by simpa using a) (by simpa using b))) h2
        refine ⟨bs', bv ++ bv1, bc1 ++ bc, ?_, m2.trans q2, q3.trans m3, ⟨u, us', bc1, bc, rfl, rfl, m4, q4⟩, fun g => ?_, fun i c u' a b => ?_, by simp [q7]⟩
        · rw [List.append_assoc]; exact q1
        · have := m5 g; have := q5 g; simp only [List.count_append]; omega
        · cases i with
          | zero => simp at a b; subst a; subst b; exact ViewC.weak q2 m6
          | succ i => exact q6 i c u' (by simpa using a) (by simpa using b)

/-- What an operand's value is. -/
def AggR (E : Env) (w : World) (φ : Nat → Nat) (agg : Bool) (cs : List Cell) (v : Value) (us : List Value) (b : List Nat) : Prop :=
  (if agg = true then v = .agg us.toArray else us = [v]) ∧ CellsR E w φ cs us b

def ConstR (p : PV) (v : Value) : Prop := (p.flat = true ∧ v = p.toV) ∨ (∃ sz, p = .sl sz [] ∧ v = .slice none 0 0)

theorem ConstR.own {p v} (h : ConstR p v) (w : World) (φ : Nat → Nat) : OwL w φ [p] [v] [] := by
  rcases h with ⟨h, rfl⟩ | ⟨sz, rfl, rfl⟩
  · cases p <;> first | exact .int .nil | exact .bool .nil | exact .str .nil | simp [PV.flat] at h
  · exact .snil .nil

def OpndR (vs : List Value) (o : AOpnd) (v : Value) : Prop :=
  match o with
  | .t n _ => v = vs.getD n undef
  | .c p => ConstR p v

theorem weakCells {E S vs w φ bs hand} (hs : SR E S vs w φ bs hand) : ∀ {cs us b}, CellsR E w φ cs us b → CellsR E w φ (cs.map weakC) us [] := by
  intro cs
  induction cs with
  | nil => intro us b h; obtain ⟨rfl, rfl⟩ := h; exact ⟨rfl, rfl⟩
  | cons c cs ih =>
    intro us b h
    obtain ⟨u, us', b1, b2, rfl, rfl, hc, h⟩ := h
    refine ⟨u, us', [], [], rfl, rfl, ?_, ih h⟩
    cases c with
    | val l p => exact CellR.weak hs hc
    | view r c path => exact ⟨rfl, hc.2⟩
    | dead => rfl

theorem toList_toArray' (a : Array Value) : a.toList.toArray = a := by simp

theorem OwL.det {w φ ps vs b1} (h : OwL w φ ps vs b1) : ∀ {b2}, OwL w φ ps vs b2 → b2 = b1 := by
  induction h with
  | nil => intro b2 k; cases k; rfl
  | int _ ih => intro b2 k; cases k with | int k => exact ih k
  | bool _ ih => intro b2 k; cases k with | bool k => exact ih k
  | str _ ih => intro b2 k; cases k with | str k => exact ih k
  | snil _ ih => intro b2 k; cases k with | snil k => exact ih k
  | sl a b c d e f _ _ ih1 ih2 =>
    intro b2 k
    cases k with
    | sl a' b' c' d' e' f' k1 k2 =>
      rw [d] at d'
      injection d' with d'
      injection d' with d'
      subst d'
      rw [ih1 k1, ih2 k2]
theorem CellR.det {E w φ c v b1 b2} (h : CellR E w φ c v b1) (k : CellR E w φ c v b2) : b2 = b1 := by
  cases c with
  | view r c p => rw [h.1, k.1]
  | dead => exact k.trans h.symm
  | val l p =>
    cases l with
    | old => rw [h.2, k.2]
    | bor => rw [h.2, k.2]
    | deep => exact OwL.det h k
    | oldR =>
      obtain ⟨sz, xs, rfl, h | ⟨g, n, c, cur, e, rfl, rfl, a, b, hr, d, es, f, hrd⟩⟩ := h <;> obtain ⟨sz', xs', hp', k | ⟨g', n', c', cur', e', hv', rfl, k⟩⟩ := k
      · rw [h.2.2, k.2.2]
      · rw [h.1] at hv'; cases hv'
      · cases k.1
      · cases hv'; rfl
    | borR =>
      obtain ⟨sz, xs, rfl, h | ⟨g, n, c, cur, e, rfl, rfl, a, b, hr, d, es, f, hrd⟩⟩ := h <;> obtain ⟨sz', xs', hp', k | ⟨g', n', c', cur', e', hv', rfl, k⟩⟩ := k
      · rw [h.2.2, k.2.2]
      · rw [h.1] at hv'; cases hv'
      · cases k.1
      · cases hv'; rfl
theorem CellsR.det {E w φ} : ∀ {cs vs b1 b2}, CellsR E w φ cs vs b1 → CellsR E w φ cs vs b2 → b2 = b1 := by
  intro cs
  induction cs with
  | nil => intro vs b1 b2 h k; rw [h.2, k.2]
  | cons c cs ih =>
    intro vs b1 b2 h k
    obtain ⟨u, us, a1, a2, rfl, rfl, hc, h⟩ := h
    obtain ⟨u', us', c1, c2, e, rfl, hc', k⟩ := k
    cases e
    rw [CellR.det hc hc', ih h k]
theorem TupR.det {E w φ} : ∀ {cs vs b1 b2}, TupR E w φ cs vs b1 → TupR E w φ cs vs b2 → b2 = b1 := by
  intro cs
  induction cs with
  | nil => intro vs b1 b2 h k; rw [h.2, k.2]
  | cons c cs ih =>
    intro vs b1 b2 h k
    obtain ⟨u, us, a1, a2, rfl, rfl, hc, h⟩ := h
    obtain ⟨u', us', c1, c2, e, rfl, hc', k⟩ := k
    cases e
    rw [ih h k]
    split at hc <;> rename_i hb
    · rw [if_pos hb] at hc'
      obtain ⟨arr, rfl, hc⟩ := hc
      obtain ⟨arr', e, hc'⟩ := hc'
      cases e
      rw [CellsR.det hc hc']
    · rw [if_neg hb] at hc'
      rw [CellsR.det hc hc']
theorem TVR.det {E w φ tv v b1 b2} (h : TVR E w φ tv v b1) (k : TVR E w φ tv v b2) : b2 = b1 := by
  cases tv with
  | one c => exact CellR.det h k
  | agg cs => obtain ⟨a, rfl, h⟩ := h; obtain ⟨a', e, k⟩ := k; cases e; exact CellsR.det h k
  | box cs =>
    obtain ⟨g, arr, e, b1, rfl, hg, hf, h, rfl⟩ := h
    obtain ⟨g', arr', e', b1', ev, hg', hf', k, rfl⟩ := k
    cases ev
    rw [hg] at hg'
    injection hg' with hg'
    injection hg' with hg'
    subst hg'
    rw [CellsR.det h k]
  | place r c p => exact k.trans h.symm
  | ep l row off => rw [h.1, k.1]
  | tup vs => obtain ⟨a, rfl, h⟩ := h; obtain ⟨a', e, k⟩ := k; cases e; exact TupR.det h k
  | undef => rw [h.1, k.1]
  | dead => exact k.trans h.symm

theorem giveUp {E S vs w φ bs hand rs n v cs cs0 us b0 tvw S1} (hs : SR E S vs w φ bs hand) (hn : rs.elem n = false) (hc : CellsR E w φ cs0 us b0)
    (hview : ∀ (i : Nat) c u, cs0[i]? = some c → us[i]? = some u → ViewC S vs w φ c u) (hn' : vs[n]? = some v) (htv : TVR E w φ (S.g n) v b0) (htw : TVR E w φ tvw v [])
    (hw : WTV (S.g n) tvw) (ht : tCells S rs cs0 = some (cs, S1)) :
    ∃ bs' bc, SR E (S1.set n tvw) vs w φ bs' (bc ++ hand) ∧ WeakSt S (S1.set n tvw) ∧ CellsR E w φ cs us bc ∧ (∀ (i : Nat) c u, cs[i]? = some c → us[i]? = some u → ViewC (S1.set n tvw) vs w φ c u) := by
  obtain ⟨bs1, bv, bc, m1, m2, m3, m4, m5, m6, m7⟩ := tCells_sound hn hs hc hview ht
  obtain ⟨bt, br, k1, k2, k3⟩ := m1.tvs.get hn'
  rw [m3] at k1
  have hbt : bt = b0 := TVR.det htv k1
  subst hbt
  obtain ⟨bs', q1, q2⟩ := k3 tvw v [] htw
  rw [set_get_same vs n hn'] at q1
  have hw1 : WeakSt S1 (S1.set n tvw) := .set_ (by rw [m3]; exact hw)
  have hcount : ∀ g, bs'.count g + bc.count g = bs1.count g + bv.count g := fun g => by
    have := k2 g; have := q2 g; have := m5 g; simp at *; omega
  refine ⟨bs', bc, ⟨q1, fun g => ?_, fun g hg => ?_, m1.views.weak hw1, hs.size, hs.same, hs.os⟩, m2.trans hw1, m4, fun i c u a b => ViewC.weak hw1 (m6 i c u a b)⟩
  · have := m1.cnt g; have := hcount g; simp only [List.count_append] at *; omega
  · refine m1.own g ?_
    have := hcount g
    rw [List.mem_append] at hg ⊢
    by_cases hb : g ∈ bs1
    · exact .inl hb
    by_cases hb2 : g ∈ bv
    · exact .inr (.inl hb2)
    have h0 := count_zero_of hb
    have h1 := count_zero_of hb2
    rcases hg with hg | hg | hg
    · have := List.count_pos_iff.2 hg; omega
    · have := List.count_pos_iff.2 hg; omega
    · exact .inr (.inr hg)

theorem tAny_sound {E S vs w φ bs hand o v agg cs S'} (hs : SR E S vs w φ bs hand) (hv : OpndR vs o v) (h : tAny S o = some (agg, cs, S')) :
    ∃ bs' bc us, SR E S' vs w φ bs' (bc ++ hand) ∧ WeakSt S S' ∧ AggR E w φ agg cs v us bc ∧ (∀ (i : Nat) c u, cs[i]? = some c → us[i]? = some u → ViewC S' vs w φ c u) := by
  cases o with
  | c p =>
    simp only [tAny, Option.some.injEq, Prod.mk.injEq] at h
    obtain ⟨rfl, rfl, rfl⟩ := h
    refine ⟨bs, [], [v], hs, .refl _, ⟨rfl, v, [], [], [], rfl, rfl, ConstR.own hv w φ, rfl, rfl⟩, fun i c u a b => ?_⟩
    cases i <;> simp at a
    subst a; trivial
  | t n rs =>
    simp only [tAny] at h
    split at h
    · cases h
    rename_i hn
    have hn : rs.elem n = false := by simpa using hn
    cases hS : S.g n <;> rw [hS] at h <;> dsimp only at h
    case one c =>
      obtain ⟨u, hu⟩ := hs.lt (t := n) (by rw [hS]; simp)
      have hvu : v = u := by have : v = vs.getD n undef := hv; rw [this, List.getD_eq_getElem?_getD, hu]; rfl
      subst hvu
      obtain ⟨b0, hb0, hview⟩ := hs.slot hu
      rw [hS] at hb0 hview
      cases ht : tCells S rs [c] with
      | none => rw [ht] at h; simp at h
      | some x =>
        obtain ⟨cs1, S1⟩ := x
        rw [ht] at h
        simp only [Option.map_some, Option.some.injEq, Prod.mk.injEq] at h
        obtain ⟨rfl, rfl, rfl⟩ := h
        have hcs : CellsR E w φ [c] [v] b0 := ⟨v, [], b0, [], rfl, by simp, hb0, rfl, rfl⟩
        obtain ⟨bs', bc, q1, q2, q3, q4⟩ := giveUp hs hn (cs0 := [c]) (tvw := .one (weakC c)) hcs (fun i c' u' a b => by
          cases i <;> simp at a b
          subst a; subst b; exact hview) hu (by rw [hS]; exact hb0) (by
          obtain ⟨v', _, b1, b2, e1, e2, k, _⟩ := weakCells hs hcs
          simp at e1 e2
          obtain ⟨rfl, _⟩ := e1
          obtain ⟨rfl, _⟩ := e2
          exact k) (by rw [hS]; exact ⟨_, rfl, .inr rfl⟩) ht
        exact ⟨bs', bc, [v], q1, q2, ⟨rfl, q3⟩, q4⟩
    case agg cs0 =>
      obtain ⟨u, hu⟩ := hs.lt (t := n) (by rw [hS]; simp)
      have hvu : v = u := by have : v = vs.getD n undef := hv; rw [this, List.getD_eq_getElem?_getD, hu]; rfl
      subst hvu
      obtain ⟨b0, hb0, hview⟩ := hs.slot hu
      rw [hS] at hb0 hview
      obtain ⟨arr, rfl, hcs⟩ := hb0
      cases ht : tCells S rs cs0 with
      | none => rw [ht] at h; simp at h
      | some x =>
        obtain ⟨cs1, S1⟩ := x
        rw [ht] at h
        simp only [Option.map_some, Option.some.injEq, Prod.mk.injEq] at h
        obtain ⟨rfl, rfl, rfl⟩ := h
        obtain ⟨bs', bc, q1, q2, q3, q4⟩ := giveUp hs hn (cs0 := cs0) (tvw := .agg (cs0.map weakC)) hcs (fun i c' u' a b => hview arr rfl i c' u' a (by rw [← b, Array.getElem?_toList])) hu (by rw [hS]; exact ⟨arr, rfl, hcs⟩) ⟨arr, rfl, weakCells hs hcs⟩ (by
          rw [hS]
          refine ⟨_, rfl, by simp, fun i c c' a b => ?_⟩
          rw [List.getElem?_map, a] at b
          injection b with b
          exact .inr b.symm) ht
        exact ⟨bs', bc, arr.toList, q1, q2, ⟨by simp, q3⟩, q4⟩
    all_goals cases h

end Go.Proofs.Ytkiliooegoldoaa

/- A slot is written; the world grows. -/
set_option linter.unusedVariables false
set_option linter.unusedSimpArgs false
namespace Go.Proofs.Ytkiliooegoldoaa
open Go

/-! ### Views are struck -/
def Strikes (f : Cell → Cell) : Prop := ∀ c, f c = c ∨ (∃ r cc path, c = .view r cc path) ∧ f c = .dead

theorem strikes_root (r : Nat) : Strikes (killRootC r) := by
  intro c
  cases c with
  | val l p => exact .inl rfl
  | dead => exact .inl rfl
  | view r' c path =>
    by_cases h : r' = r
    · exact .inr ⟨⟨_, _, _, rfl⟩, by simp [killRootC, h]⟩
    · exact .inl (by simp [killRootC, h])
theorem strikes_box (r c n : Nat) : Strikes (killBoxC r c n) := by
  intro x
  cases x with
  | val l p => exact .inl rfl
  | dead => exact .inl rfl
  | view r' c' path =>
    by_cases h : r' = r ∧ c ≤ c' ∧ c' < c + n
    · exact .inr ⟨⟨_, _, _, rfl⟩, by simp [killBoxC, h]⟩
    · exact .inl (by simp [killBoxC, h])

theorem g_map {S : St} {F : TV → TV} (h : F .dead = .dead) (t : Nat) : St.g (S.map F) t = F (S.g t) := by
  unfold St.g
  rw [List.getD_eq_getElem?_getD, List.getD_eq_getElem?_getD, List.getElem?_map]
  cases S[t]? with
  | none => simp [h]
  | some v => rfl

theorem Strikes.val {f : Cell → Cell} (hf : Strikes f) (l : Lev) (p : PV) : f (.val l p) = .val l p := by
  rcases hf (.val l p) with h | ⟨⟨r, c, path, h⟩, _⟩
  · exact h
  · cases h
theorem Strikes.dead {f : Cell → Cell} (hf : Strikes f) : f .dead = .dead := by
  rcases hf .dead with h | ⟨⟨r, c, path, h⟩, _⟩
  · exact h
  · cases h
theorem Strikes.cell {f : Cell → Cell} (hf : Strikes f) {E w φ c v b} (h : CellR E w φ c v b) : CellR E w φ (f c) v b := by
  rcases hf c with e | ⟨⟨r, cc, path, rfl⟩, e⟩
  · rw [e]; exact h
  · rw [e]; exact h.1
theorem Strikes.cells {f : Cell → Cell} (hf : Strikes f) {E w φ} : ∀ {cs vs b}, CellsR E w φ cs vs b → CellsR E w φ (cs.map f) vs b := by
  intro cs
  induction cs with
  | nil => intro vs b h; exact h
  | cons c cs ih =>
    intro vs b h
    obtain ⟨u, us, a1, a2, rfl, rfl, hc, h⟩ := h
    exact ⟨u, us, a1, a2, rfl, rfl, hf.cell hc, ih h⟩
theorem Strikes.tup {f : Cell → Cell} (hf : Strikes f) {E w φ} : ∀ {cs vs b}, TupR E w φ cs vs b → TupR E w φ (cs.map fun x => (x.1, x.2.map f)) vs b := by
  intro cs
  induction cs with
  | nil => intro vs b h; exact h
  | cons c cs ih =>
    intro vs b h
    obtain ⟨u, us, a1, a2, rfl, rfl, hc, h⟩ := h
    refine ⟨u, us, a1, a2, rfl, rfl, ?_, ih h⟩
    dsimp only
    split at hc <;> rename_i hb
    · obtain ⟨arr, rfl, hc⟩ := hc
      rw [if_pos hb]
      exact ⟨arr, rfl, hf.cells hc⟩
    · rw [if_neg hb]
      exact hf.cells hc
theorem Strikes.tv {f : Cell → Cell} (hf : Strikes f) {E w φ h tv v b} (k : TVR E w φ tv v b) : TVR E w φ (mapTV f h false tv) v b := by
  cases tv with
  | one c => exact hf.cell k
  | agg cs => obtain ⟨arr, rfl, k⟩ := k; exact ⟨arr, rfl, hf.cells k⟩
  | box cs => obtain ⟨g, arr, e, b1, rfl, hg, hfi, k, rfl⟩ := k; exact ⟨g, arr, e, b1, rfl, hg, hfi, hf.cells k, rfl⟩
  | place r c path => simp only [mapTV]; split <;> exact k
  | ep l row off => exact k
  | tup vs => obtain ⟨arr, rfl, k⟩ := k; exact ⟨arr, rfl, hf.tup k⟩
  | undef => exact k
  | dead => exact k
theorem Strikes.tvs {f : Cell → Cell} (hf : Strikes f) {E w φ h} : ∀ {S : St} {vs b}, TVsR E w φ S vs b → TVsR E w φ (S.map (mapTV f h false)) vs b := by
  intro S
  induction S with
  | nil => intro vs b k; exact k
  | cons c cs ih =>
    intro vs b k
    obtain ⟨u, us, a1, a2, rfl, rfl, hc, k⟩ := k
    exact ⟨u, us, a1, a2, rfl, rfl, hf.tv hc, ih k⟩

theorem Strikes.rootishC {f : Cell → Cell} (hf : Strikes f) {c : Cell} (h : rootishC c = true) : Ytkiliooegoldoaa.rootishC (f c) = true := by
  rcases hf c with e | ⟨⟨r, cc, path, rfl⟩, e⟩
  · rw [e]; exact h
  · simp [Ytkiliooegoldoaa.rootishC] at h
theorem Strikes.rootish {f : Cell → Cell} (hf : Strikes f) {h tv} (k : rootish tv = true) : Ytkiliooegoldoaa.rootish (mapTV f h false tv) = true := by
  cases tv with
  | one c => exact hf.rootishC k
  | agg cs =>
    simp only [mapTV, Ytkiliooegoldoaa.rootish, List.any_eq_true, List.mem_map] at k ⊢
    obtain ⟨c, hc, k⟩ := k
    exact ⟨f c, ⟨c, hc, rfl⟩, hf.rootishC k⟩
  | box cs => rfl
  | _ => simp [Ytkiliooegoldoaa.rootish] at k
theorem Strikes.rootCell {f : Cell → Cell} (hf : Strikes f) {h} {S : St} {r c l p} (k : rootCell (S.map (mapTV f h false)) r c = .val l p) : rootCell S r c = .val l p := by
  have inv : ∀ c, f c = .val l p → c = .val l p := by
    intro c e
    rcases hf c with e' | ⟨_, e'⟩
    · rw [← e', e]
    · rw [e'] at e; cases e
  unfold Ytkiliooegoldoaa.rootCell at k ⊢
  rw [g_map rfl] at k
  cases hS : S.g r <;> rw [hS] at k <;> simp only [mapTV] at k ⊢
  case one x => split at k <;> first | (rename_i h0; rw [if_pos h0]; exact inv _ k) | cases k
  case agg cs =>
    rw [List.getD_eq_getElem?_getD, List.getElem?_map] at k
    rw [List.getD_eq_getElem?_getD]
    cases hc : cs[c]? with
    | none => rw [hc] at k; cases k
    | some x => rw [hc] at k; exact inv x k
  case box cs =>
    rw [List.getD_eq_getElem?_getD, List.getElem?_map] at k
    rw [List.getD_eq_getElem?_getD]
    cases hc : cs[c]? with
    | none => rw [hc] at k; cases k
    | some x => rw [hc] at k; exact inv x k
  case place r' c' path => by_cases hh : h r' c' path = true <;> simp [hh] at k
  all_goals cases k
theorem rootV_map {f : Cell → Cell} {h b} {S : St} {vs w r c} : rootV (S.map (mapTV f h b)) vs w r c = rootV S vs w r c := by
  unfold rootV
  rw [g_map rfl]
  cases S.g r <;> simp only [mapTV]
  case one c => cases vs[r]? <;> rfl
  case agg c => cases vs[r]? with
    | none => rfl
    | some v => cases v <;> rfl
  case box c => cases vs[r]? with
    | none => rfl
    | some v => cases v <;> first | rfl | (rename_i a; cases a <;> rfl)
  case place r' c' path => by_cases hh : h r' c' path = true <;> simp [hh]
  case ep l row off => by_cases hh : (b && (l != Lev.old)) = true <;> simp [hh]

theorem Strikes.viewC {f : Cell → Cell} (hf : Strikes f) {h S vs w φ c v} (k : ViewC S vs w φ c v) : ViewC (S.map (mapTV f h false)) vs w φ c v := by
  cases c with
  | val l p => trivial
  | dead => trivial
  | view r c path =>
    refine ⟨by rw [g_map rfl]; exact hf.rootish k.1, fun l p hc => ?_⟩
    obtain ⟨a, b, d, v0, e, e'⟩ := k.2 l p (hf.rootCell hc)
    exact ⟨a, b, d, v0, by rw [rootV_map]; exact e, e'⟩
theorem Strikes.viewF {f : Cell → Cell} (hf : Strikes f) {S vs w φ c v} (k : ViewC S vs w φ c v) : ViewC S vs w φ (f c) v := by
  rcases hf c with e | ⟨_, e⟩
  · rw [e]; exact k
  · rw [e]; trivial
theorem Strikes.place {f : Cell → Cell} (hf : Strikes f) {h S vs w φ r c path v} (k : PlaceR S vs w φ r c path v) : PlaceR (S.map (mapTV f h false)) vs w φ r c path v := by
  rcases k with ⟨rfl, cs, g, hS, hv, rfl⟩ | ⟨pre, s, i, j, rfl, k1, k2⟩
  · exact .inl ⟨rfl, cs.map f, g, by rw [g_map rfl, hS]; rfl, hv, rfl⟩
  · refine .inr ⟨pre, s, i, j, rfl, by rw [g_map rfl]; exact hf.rootish k1, fun l p hc => ?_⟩
    obtain ⟨a, b, d, v0, g, o, n, cap, e, e'⟩ := k2 l p (hf.rootCell hc)
    exact ⟨a, b, d, v0, g, o, n, cap, by rw [rootV_map]; exact e, e'⟩
theorem Strikes.viewTV {f : Cell → Cell} (hf : Strikes f) {h h' S vs w φ tv v} (k : ViewTV S vs w φ tv v) : ViewTV (S.map (mapTV f h false)) vs w φ (mapTV f h' false tv) v := by
  cases tv with
  | one c => exact hf.viewC (hf.viewF k)
  | agg cs =>
    intro arr hv i c u h1 h2
    rw [List.getElem?_map] at h1
    cases hc : cs[i]? with
    | none => rw [hc] at h1; cases h1
    | some x =>
      rw [hc] at h1
      injection h1 with h1
      subst h1
      exact hf.viewC (hf.viewF (k arr hv i x u hc h2))
  | box cs =>
    intro a arr e fr hv hh i c u h1 h2
    rw [List.getElem?_map] at h1
    cases hc : cs[i]? with
    | none => rw [hc] at h1; cases h1
    | some x =>
      rw [hc] at h1
      injection h1 with h1
      subst h1
      exact hf.viewC (hf.viewF (k a arr e fr hv hh i x u hc h2))
  | place r c path =>
    simp only [mapTV]
    split
    · trivial
    · exact hf.place k
  | ep l row off => trivial
  | tup ts =>
    intro x hx c hc
    simp only [List.mem_map] at hx
    obtain ⟨y, hy, rfl⟩ := hx
    simp only [List.mem_map] at hc
    obtain ⟨d, hd, rfl⟩ := hc
    have := k y hy d hd
    rcases hf d with e | ⟨⟨r, cc, path, rfl⟩, _⟩
    · rw [e]; exact this
    · exact this.elim
  | undef => trivial
  | dead => trivial
theorem SR.strike {E S vs w φ bs hand f h} (hf : Strikes f) (hs : SR E S vs w φ bs hand) : SR E (S.map (mapTV f h false)) vs w φ bs hand :=
  ⟨hf.tvs hs.tvs, hs.cnt, hs.own, fun t v hv => by rw [g_map rfl]; exact hf.viewTV (hs.views t v hv), hs.size, hs.same, hs.os⟩

/-! ### A slot is written -/
def noRootC (d : Nat) : Cell → Prop
  | .view r _ _ => r ≠ d
  | _ => True
def noRootTV (d : Nat) : TV → Prop
  | .one c => noRootC d c
  | .agg cs => ∀ c ∈ cs, noRootC d c
  | .box cs => ∀ c ∈ cs, noRootC d c
  | .place r _ _ => r ≠ d
  | _ => True

theorem set_get_ne {vs : List Value} {d t : Nat} (v : Value) (h : t ≠ d) : (vs.set d v)[t]? = vs[t]? := by
  rw [List.getElem?_set]; simp [Ne.symm h]

theorem rootCell_ne {S : St} {d r c : Nat} {tv : TV} (h : r ≠ d) : rootCell (S.set d tv) r c = rootCell S r c := by
  unfold rootCell; rw [g_set, if_neg (by omega)]
theorem rootV_ne {S : St} {vs : List Value} {w : World} {d r c : Nat} {tv : TV} {v : Value} (h : r ≠ d) : rootV (S.set d tv) (vs.set d v) w r c = rootV S vs w r c := by
  unfold rootV; rw [g_set, if_neg (by omega), set_get_ne v h]

theorem ViewC.frame {S vs w φ c u d} (tv : TV) (v : Value) (h : ViewC S vs w φ c u) (hd : rootish (S.g d) = false ∨ noRootC d c) : ViewC (S.set d tv) (vs.set d v) w φ c u := by
  cases c with
  | val l p => trivial
  | dead => trivial
  | view r c path =>
    have hr : r ≠ d := by
      rcases hd with hd | hd
      · rintro rfl; rw [h.1] at hd; cases hd
      · exact hd
    refine ⟨by rw [g_set, if_neg (by omega)]; exact h.1, fun l p hc => ?_⟩
    rw [rootCell_ne hr] at hc
    rw [rootV_ne hr]
    exact h.2 l p hc
theorem PlaceR.frame {S vs w φ r c path u d} (tv : TV) (v : Value) (h : PlaceR S vs w φ r c path u) (hd : rootish (S.g d) = false ∨ r ≠ d) : PlaceR (S.set d tv) (vs.set d v) w φ r c path u := by
  rcases h with ⟨rfl, cs, g, hS, hv, rfl⟩ | ⟨pre, s, i, j, rfl, k1, k2⟩
  · have hr : r ≠ d := by
      rcases hd with hd | hd
      · rintro rfl; rw [hS] at hd; cases hd
      · exact hd
    exact .inl ⟨rfl, cs, g, by rw [g_set, if_neg (by omega)]; exact hS, by rw [set_get_ne v hr]; exact hv, rfl⟩
  · have hr : r ≠ d := by
      rcases hd with hd | hd
      · rintro rfl; rw [k1] at hd; cases hd
      · exact hd
    refine .inr ⟨pre, s, i, j, rfl, by rw [g_set, if_neg (by omega)]; exact k1, fun l p hc => ?_⟩
    rw [rootCell_ne hr] at hc
    rw [rootV_ne hr]
    exact k2 l p hc
theorem ViewTV.frame {S vs w φ x u d} (tv : TV) (v : Value) (h : ViewTV S vs w φ x u) (hd : rootish (S.g d) = false ∨ noRootTV d x) : ViewTV (S.set d tv) (vs.set d v) w φ x u := by
  cases x with
  | one c => exact ViewC.frame tv v h hd
  | agg cs => exact fun arr hv i c u h1 h2 => ViewC.frame tv v (h arr hv i c u h1 h2) (hd.imp id fun k => k c (List.mem_of_getElem? h1))
  | box cs => exact fun a arr e fr hv hh i c u h1 h2 => ViewC.frame tv v (h a arr e fr hv hh i c u h1 h2) (hd.imp id fun k => k c (List.mem_of_getElem? h1))
  | place r c path => exact PlaceR.frame tv v h hd
  | tup ts => exact h
  | _ => trivial

theorem SR.set_ {E S vs w φ bs hand d tv v bt} (hs : SR E S vs w φ bs (bt ++ hand)) (ht : TVR E w φ tv v bt) (hv : ViewTV S vs w φ tv v)
    (hd : rootish (S.g d) = false ∨ (noRootTV d tv ∧ ∀ t, noRootTV d (S.g t))) : ∃ bs', SR E (S.set d tv) (vs.set d v) w φ bs' hand := by
  have hl := hs.tvs.length
  by_cases hlt : d < vs.length
  · obtain ⟨bd, br, h1, h2, h3⟩ := hs.tvs.get (List.getElem?_eq_getElem hlt)
    obtain ⟨bs', q1, q2⟩ := h3 tv v bt ht
    refine ⟨bs', q1, fun g => ?_, fun g hg => ?_, fun t u hu => ?_, hs.size, hs.same, hs.os⟩
    · have := hs.cnt g; have := h2 g; have := q2 g; simp only [List.count_append] at *; omega
    · refine hs.own g ?_
      have e1 := h2 g
      have e2 := q2 g
      rw [List.mem_append]
      rcases hg with hg | hg
      · have := List.count_pos_iff.2 hg
        by_cases hb : g ∈ bt
        · exact .inr (.inl hb)
        · have := count_zero_of hb
          exact .inl (mem_of_count (by omega))
      · exact .inr (.inr hg)
    · by_cases htd : t = d
      · subst htd
        rw [List.getElem?_set, if_pos rfl, if_pos hlt] at hu
        injection hu with hu
        subst hu
        rw [g_set, if_pos ⟨rfl, by omega⟩]
        exact ViewTV.frame tv v hv (hd.imp id And.left)
      · rw [set_get_ne v htd] at hu
        rw [g_set, if_neg (by omega)]
        exact ViewTV.frame tv v (hs.views t u hu) (hd.imp id fun k => k.2 t)
  · refine ⟨bs, ?_⟩
    rw [List.set_eq_of_length_le (by omega), List.set_eq_of_length_le (by omega)]
    exact ⟨hs.tvs, fun g => by have := hs.cnt g; simp only [List.count_append] at this; omega, fun g hg => hs.own g (hg.imp id fun k => by simp [k]), hs.views, hs.size, hs.same, hs.os⟩

theorem noRoot_killC (d : Nat) (c : Cell) : noRootC d (killRootC d c) := by
  cases c with
  | val l p => trivial
  | dead => trivial
  | view r c path =>
    simp only [killRootC]
    split
    · trivial
    · assumption
theorem noRoot_kill (d : Nat) (tv : TV) : noRootTV d (mapTV (killRootC d) (fun r' _ _ => r' == d) false tv) := by
  cases tv with
  | one c => exact noRoot_killC d c
  | agg cs => intro c hc; simp only [List.mem_map] at hc; obtain ⟨x, _, rfl⟩ := hc; exact noRoot_killC d x
  | box cs => intro c hc; simp only [List.mem_map] at hc; obtain ⟨x, _, rfl⟩ := hc; exact noRoot_killC d x
  | place r c path =>
    simp only [mapTV]
    split
    · trivial
    · rename_i h; exact fun e => h (by simp [e])
  | ep l row off => simp [mapTV, noRootTV]
  | _ => trivial

theorem put_sound {E S vs w φ bs hand g d tv v bt S'} (hs : SR E S vs w φ bs (bt ++ hand)) (ht : TVR E w φ tv v bt) (hv : ViewTV S vs w φ tv v)
    (h : put g S d tv = some S') : ∃ bs', SR E S' (match d with | none => vs | some d => vs.set d v) w φ bs' hand := by
  cases d with
  | none =>
    simp only [put, Option.some.injEq] at h
    subst h
    exact ⟨bs, hs.tvs, fun g => by have := hs.cnt g; simp only [List.count_append] at this; omega, fun g hg => hs.own g (hg.imp id fun k => by simp [k]), hs.views, hs.size, hs.same, hs.os⟩
  | some d =>
    simp only [put] at h
    split at h
    · injection h with h
      subst h
      have hk := strikes_root d
      refine SR.set_ (hs.strike (h := fun r' _ _ => r' == d) hk) (hk.tv ht) (hk.viewTV hv) (.inr ⟨noRoot_kill d tv, fun t => ?_⟩)
      rw [killRoot, g_map rfl]
      exact noRoot_kill d _
    · split at h
      · cases h
      · rename_i hr
        injection h with h
        subst h
        exact SR.set_ hs ht hv (.inl (by simpa using hr))

/-! ### The world turns, outside of what is said -/
theorem rvPath_mono {w w' : World} {φ φ' : Nat → Nat} (hc : ∀ g k x, k < φ g → w.cell? ⟨g, k, none⟩ = some x → k < φ' g ∧ w'.cell? ⟨g, k, none⟩ = some x) :
    ∀ {path : Path} {v u : Value}, rvPath w φ v path = some u → rvPath w' φ' v path = some u := by
  intro path
  induction path with
  | nil => intro v u h; exact h
  | cons x t ih =>
    obtain ⟨s, i, j⟩ := x
    intro v u h
    cases v with
    | slice a n c =>
      cases a with
      | none => simp [rvPath] at h
      | some a =>
        simp only [rvPath] at h ⊢
        split at h
        · rename_i hok
          cases hcell : w.cell? ⟨a.block, a.off + (i * s + j), none⟩ with
          | none => rw [hcell] at h; simp at h
          | some x =>
            rw [hcell] at h
            obtain ⟨k1, k2⟩ := hc _ _ _ hok.2 hcell
            rw [if_pos ⟨hok.1, k1⟩, k2]
            exact ih h
        · cases h
    | _ => simp [rvPath] at h

theorem rootV_world {S : St} {vs w w' r c v} (hb : ∀ t cs a, S.g t = .box cs → vs[t]? = some (.pointer (some a)) → w'.heap[a.block]? = w.heap[a.block]?) (h : rootV S vs w r c = some v) : rootV S vs w' r c = some v := by
  unfold rootV at h ⊢
  cases hS : S.g r <;> rw [hS] at h <;> (try dsimp only at h ⊢)
  case one x => cases hv : vs[r]? <;> rw [hv] at h <;> exact h
  case agg cs => cases hv : vs[r]? with
    | none => rw [hv] at h; exact h
    | some u => rw [hv] at h; cases u <;> exact h
  case box cs =>
    cases hv : vs[r]? with
    | none => rw [hv] at h; cases h
    | some u =>
      rw [hv] at h
      cases u with
      | pointer a =>
        cases a with
        | none => cases h
        | some a => dsimp only at h ⊢; unfold World.cell? at h ⊢; rw [hb r cs a hS hv]; exact h
      | _ => cases h
  all_goals cases h

theorem ViewC.world {S vs w w' φ φ' c v} (hc : ∀ g k x, k < φ g → w.cell? ⟨g, k, none⟩ = some x → k < φ' g ∧ w'.cell? ⟨g, k, none⟩ = some x)
    (hb : ∀ t cs a, S.g t = .box cs → vs[t]? = some (.pointer (some a)) → w'.heap[a.block]? = w.heap[a.block]?) (h : ViewC S vs w φ c v) : ViewC S vs w' φ' c v := by
  cases c with
  | val l p => trivial
  | dead => trivial
  | view r c path =>
    refine ⟨h.1, fun l p hr => ?_⟩
    obtain ⟨a, b, d, v0, e, f⟩ := h.2 l p hr
    exact ⟨a, b, d, v0, rootV_world hb e, rvPath_mono hc f⟩
theorem PlaceR.world {S vs w w' φ φ' r c path v} (hc : ∀ g k x, k < φ g → w.cell? ⟨g, k, none⟩ = some x → k < φ' g ∧ w'.cell? ⟨g, k, none⟩ = some x)
    (hb : ∀ t cs a, S.g t = .box cs → vs[t]? = some (.pointer (some a)) → w'.heap[a.block]? = w.heap[a.block]?) (h : PlaceR S vs w φ r c path v) : PlaceR S vs w' φ' r c path v := by
  rcases h with h | ⟨pre, s, i, j, rfl, k1, k2⟩
  · exact .inl h
  · refine .inr ⟨pre, s, i, j, rfl, k1, fun l p hr => ?_⟩
    obtain ⟨a, b, d, v0, g, o, n, cap, e, f, f'⟩ := k2 l p hr
    exact ⟨a, b, d, v0, g, o, n, cap, rootV_world hb e, rvPath_mono hc f, f'⟩
theorem ViewTV.world {S vs w w' φ φ' tv v} (hc : ∀ g k x, k < φ g → w.cell? ⟨g, k, none⟩ = some x → k < φ' g ∧ w'.cell? ⟨g, k, none⟩ = some x)
    (hb : ∀ t cs a, S.g t = .box cs → vs[t]? = some (.pointer (some a)) → w'.heap[a.block]? = w.heap[a.block]?)
    (hself : ∀ cs a, tv = .box cs → v = .pointer (some a) → w'.heap[a.block]? = w.heap[a.block]?) (h : ViewTV S vs w φ tv v) : ViewTV S vs w' φ' tv v := by
  cases tv with
  | one c => exact ViewC.world hc hb h
  | agg cs => exact fun arr hv i c u h1 h2 => ViewC.world hc hb (h arr hv i c u h1 h2)
  | box cs => exact fun a arr e fr hv hh i c u h1 h2 => ViewC.world hc hb (h a arr e fr hv (by rw [← hself cs a rfl hv]; exact hh) i c u h1 h2)
  | place r c path => exact PlaceR.world hc hb h
  | tup ts => exact h
  | _ => trivial

theorem SR.boxOwn {E S vs w φ bs hand} (hs : SR E S vs w φ bs hand) : ∀ t cs a, S.g t = .box cs → vs[t]? = some (.pointer (some a)) → a.block ∈ bs := by
  intro t cs a hS hv
  obtain ⟨bt, br, h1, h2, _⟩ := hs.tvs.get hv
  rw [hS] at h1
  obtain ⟨g, arr, e, b1, hp, hg, hf, h, rfl⟩ := h1
  injection hp with hp
  injection hp with hp
  subst hp
  exact mem_of_count (by have := h2 g; simp [List.count_cons] at this; show 0 < bs.count g; omega)

theorem SR.world {E S vs w w' φ φ' bs hand hand'} (hs : SR E S vs w φ bs hand)
    (hc : ∀ g k x, k < φ g → w.cell? ⟨g, k, none⟩ = some x → k < φ' g ∧ w'.cell? ⟨g, k, none⟩ = some x)
    (hown : ∀ g ∈ bs, w'.heap[g]? = w.heap[g]? ∧ φ' g = φ g) (hsize : w.heap.size ≤ w'.heap.size)
    (hold : ∀ g, g < E.w0.heap.size → g ∉ E.lin → w'.heap[g]? = w.heap[g]? ∧ φ' g = φ g)
    (hcnt : ∀ g, bs.count g + hand'.count g ≤ 1) (hh : ∀ g ∈ hand', g < w'.heap.size ∧ (E.w0.heap.size ≤ g ∨ g ∈ E.lin))
    (hos : w'.os = w.os ∧ w'.tape = w.tape ∧ outw w' = outw w) : SR E S vs w' φ' bs hand' := by
  have hb : ∀ t cs a, S.g t = .box cs → vs[t]? = some (.pointer (some a)) → w'.heap[a.block]? = w.heap[a.block]? := fun t cs a h1 h2 => (hown _ (hs.boxOwn t cs a h1 h2)).1
  refine ⟨hs.tvs.mono (fun g k u h1 h2 => (hc g k u (hs.hO g k u h1 h2) h2).2) (fun g k u h1 h2 => hc g k u h1 h2) hown, hcnt, fun g hg => ?_, fun t v hv => ?_, Nat.le_trans hs.size hsize, fun g h1 h2 => ?_, ?_⟩
  · rcases hg with hg | hg
    · have := hs.own g (.inl hg); exact ⟨by omega, this.2⟩
    · exact hh g hg
  · exact ViewTV.world hc hb (fun cs a h1 h2 => hb t cs a h1 (by rw [hv, h2])) (hs.views t v hv)
  · have a := hold g h1 h2
    have b := hs.same g h1 h2
    exact ⟨a.1.trans b.1, a.2.trans b.2⟩
  · exact ⟨hos.1.trans hs.os.1, hos.2.1.trans hs.os.2.1, hos.2.2.trans hs.os.2.2⟩

/-- New blocks. -/
theorem SR.grow {E S vs w w' φ φ' bs hand hand'} (hs : SR E S vs w φ bs hand)
    (hheap : ∀ g, g < w.heap.size → w'.heap[g]? = w.heap[g]? ∧ φ' g = φ g) (hsize : w.heap.size ≤ w'.heap.size)
    (hcnt : ∀ g, bs.count g + hand'.count g ≤ 1) (hh : ∀ g ∈ hand', g < w'.heap.size ∧ (E.w0.heap.size ≤ g ∨ g ∈ E.lin))
    (hos : w'.os = w.os ∧ w'.tape = w.tape ∧ outw w' = outw w) : SR E S vs w' φ' bs hand' := by
  refine hs.world (fun g k x h1 h2 => ?_) (fun g hg => hheap g (hs.own g (.inl hg)).1) hsize (fun g h1 h2 => hheap g (Nat.lt_of_lt_of_le h1 hs.size)) hcnt hh hos
  have hlt : g < w.heap.size := World.block_lt_of_cell? w ⟨g, k, none⟩ h2
  obtain ⟨e1, e2⟩ := hheap g hlt
  exact ⟨by omega, (World.cell?_of_block (w := w) (a := ⟨g, k, none⟩) e1).trans h2⟩

end Go.Proofs.Ytkiliooegoldoaa
