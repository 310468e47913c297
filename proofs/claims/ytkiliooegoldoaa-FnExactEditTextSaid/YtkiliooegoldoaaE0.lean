/- Abstract reading of Go code and its soundness, part 0. -/
import GoSem.Dispatch
/- Abstract values, abstract code and its evaluator. No program and no memory in this text. -/
namespace Go.Proofs.Ytkiliooegoldoaa
open Go

/-! ### Values -/
inductive PV where
  | int (k : IntKind) (n : Int)
  | bool (b : Bool)
  | str (s : ByteArray)
  | sl (sz : Nat) (xs : List (List PV))
deriving Inhabited

def PV.flat : PV → Bool
  | .sl .. => false
  | _ => true
def PV.kind : PV → Nat
  | .int .. => 0
  | .bool .. => 1
  | .str .. => 2
  | .sl .. => 3
def flatRow (r : List PV) : Bool := r.all PV.flat
def flatRows (xs : List (List PV)) : Bool := xs.all flatRow

/-- A place inside a slice: width of a row, row, column; and so on inwards. -/
abbrev Path := List (Nat × Nat × Nat)

inductive Lev where
  | old | bor | deep | oldR | borR
deriving DecidableEq, Repr

inductive Cell where
  | val (l : Lev) (p : PV)
  | view (r c : Nat) (path : Path)
  | dead
deriving Inhabited

inductive TV where
  | one (c : Cell)
  | agg (cs : List Cell)
  | box (cs : List Cell)
  | place (r c : Nat) (path : Path)
  | ep (l : Lev) (row : List PV) (off : Nat)
  | tup (vs : List (Bool × List Cell))
  | undef
  | dead
deriving Inhabited

abbrev St := List TV
def St.g (S : St) (t : Nat) : TV := S.getD t .dead

/-! ### Code -/
inductive AOpnd where
  | t (n : Nat) (rs : List Nat)
  | c (p : PV)
deriving Inhabited

inductive AOp where
  | mv (g : Bool) (x : AOpnd)
  | take (g : Bool) (x : AOpnd)
  | mvT (x : AOpnd)
  | pick (c a b : AOpnd)
  | alloc (g : Bool) (cs : List PV) (ls : List Lev)
  | box (g : Bool) (x : AOpnd)
  | boxV (x : AOpnd)
  | build (zs : List PV) (parts : List (Nat × Nat × AOpnd))
  | mkSl (lev : Lev) (sz : Nat) (zs : List PV) (len : Nat) (parts : List (Nat × AOpnd))
  | load (n : Option Nat) (p : AOpnd)
  | store (n : Nat) (p x : AOpnd)
  | bin (op : BinOp) (x y : AOpnd)
  | eqB (neg : Bool) (x y : AOpnd)
  | eqAgg (neg : Bool) (ks : List Nat) (x y : AOpnd)
  | un (op : UnOp) (x : AOpnd)
  | convInt (k : IntKind) (x : AOpnd)
  | bytesStr (x : AOpnd)
  | make (lev : Lev) (sz : Nat) (zs : List PV) (len : AOpnd)
  | sliceS (x : AOpnd) (lo hi : Option AOpnd)
  | slice (sz : Nat) (x : AOpnd) (lo hi mx : Option AOpnd)
  | faddr (off : Nat) (p : AOpnd)
  | field (off : Nat) (n : Option Nat) (x : AOpnd)
  | iaddr (sz : Nat) (x i : AOpnd)
  | index (x i : AOpnd)
  | extract (i : Nat) (x : AOpnd)
  | len (x : AOpnd)
  | lenS (x : AOpnd)
  | append (lev : Lev) (sz bytes : Nat) (x y : AOpnd)
  | appendStr (x y : AOpnd)
  | max (x y : AOpnd)
  | min (x y : AOpnd)
  | nilchk (x : AOpnd)
  | call (f : Nat) (args : List AOpnd)
deriving Inhabited

structure AO where
  dst : Option Nat
  guard : Option (Nat × Bool)
  op : AOp
deriving Inhabited

inductive Pseudo where
  | kill (ts : List Nat)
  | relev (t c : Nat) (l : Lev)

inductive ACode where
  | skip
  | region (ops : List AO) (kills : List Nat)
  | seq (a b : ACode)
  | cond (c : AOpnd) (a b : ACode)
  | block (id : Nat) (a : ACode)
  | loop (a : ACode)
  | exit (id : Nat)
  | ret
  | pre (ps : List Pseudo) (a : ACode)
deriving Inhabited

inductive AExit where
  | normal | exit (id : Nat) | ret
deriving DecidableEq, Repr

/-! ### Reading and taking -/
def pget : PV → Path → Option PV
  | p, [] => some p
  | .sl sz xs, (s, i, j) :: t =>
    if s = sz then
      match xs[i]? with
      | some r => match r[j]? with
        | some q => pget q t
        | none => none
      | none => none
    else none
  | _, _ :: _ => none

def rowSet (r : List PV) (j : Nat) (news : List PV) : List PV := r.take j ++ news ++ r.drop (j + news.length)

/-- The cells from a place on are written. -/
def pset : PV → Path → List PV → Option PV
  | .sl sz xs, (s, i, j) :: t, news =>
    if s = sz then
      match xs[i]? with
      | some r =>
        match t with
        | [] => if j + news.length ≤ r.length then some (.sl sz (xs.set i (rowSet r j news))) else none
        | _ :: _ => match r[j]? with
          | some q => (pset q t news).map fun q' => .sl sz (xs.set i (r.set j q'))
          | none => none
      | none => none
    else none
  | _, _, _ => none

def rootCell (S : St) (r c : Nat) : Cell :=
  match S.g r with
  | .one x => if c = 0 then x else .dead
  | .agg cs => cs.getD c .dead
  | .box cs => cs.getD c .dead
  | _ => .dead

def setRoot (S : St) (r c : Nat) (x : Cell) : St :=
  match S.g r with
  | .one _ => S.set r (.one x)
  | .agg cs => S.set r (.agg (cs.set c x))
  | .box cs => S.set r (.box (cs.set c x))
  | _ => S

def borL (l : Lev) (p : PV) : Lev := if p.flat then .deep else match l with | .old => .old | _ => .bor

def bCell (S : St) (rs : List Nat) : Cell → Option (Lev × PV)
  | .val l p => some (borL l p, p)
  | .view r c path =>
    if rs.elem r then
      match rootCell S r c with
      | .val _ p => (pget p path).map fun q => (borL .bor q, q)
      | _ => none
    else none
  | .dead => none

def bCells (S : St) (rs : List Nat) : List Cell → Option (List (Lev × PV))
  | [] => some []
  | c :: cs => (bCell S rs c).bind fun x => (bCells S rs cs).map fun l => x :: l

def bOne (S : St) : AOpnd → Option (Lev × PV)
  | .c p => some (.deep, p)
  | .t n rs => match S.g n with
    | .one c => bCell S rs c
    | _ => none

def bAny (S : St) : AOpnd → Option (Bool × List (Lev × PV))
  | .c p => some (false, [(.deep, p)])
  | .t n rs => match S.g n with
    | .one c => (bCell S rs c).map fun x => (false, [x])
    | .agg cs => (bCells S rs cs).map fun l => (true, l)
    | _ => none

def weakC : Cell → Cell
  | .val l p => .val (borL l p) p
  | c => c

/-- A cell is taken: what is owned goes along. -/
def tCell (S : St) (rs : List Nat) : Cell → Option (Cell × St)
  | .val l p => some (.val l p, S)
  | .view r c [] =>
    if rs.elem r then
      match rootCell S r c with
      | .val l p => some (.val l p, setRoot S r c (weakC (.val l p)))
      | _ => none
    else none
  | .view r c (x :: path) => some (.view r c (x :: path), S)
  | .dead => none

def tCells (S : St) (rs : List Nat) : List Cell → Option (List Cell × St)
  | [] => some ([], S)
  | c :: cs => (tCell S rs c).bind fun x => (tCells x.2 rs cs).map fun y => (x.1 :: y.1, y.2)

def tAny (S : St) : AOpnd → Option (Bool × List Cell × St)
  | .c p => some (false, [.val .deep p], S)
  | .t n rs => if rs.elem n then none else match S.g n with
    | .one c => (tCells S rs [c]).map fun x => (false, x.1, x.2.set n (.one (weakC c)))
    | .agg cs => (tCells S rs cs).map fun x => (true, x.1, x.2.set n (.agg (cs.map weakC)))
    | _ => none

/-- As values: a view inwards is read. -/
def tVal (S : St) (rs : List Nat) : Cell → Option (Lev × PV)
  | .val l p => some (l, p)
  | c => bCell S rs c

def tVals (S : St) (rs : List Nat) : List Cell → Option (List (Lev × PV))
  | [] => some []
  | c :: cs => (tVal S rs c).bind fun x => (tVals S rs cs).map fun l => x :: l

def AOpnd.rs : AOpnd → List Nat
  | .t _ rs => rs
  | .c _ => []

/-- Taken, as values. -/
def tPV (S : St) (o : AOpnd) : Option (Bool × List (Lev × PV) × St) :=
  (tAny S o).bind fun x => (tVals x.2.2 o.rs x.2.1).map fun l => (x.1, l, x.2.2)

/-! ### Levels -/
def okCell (want : Lev) (x : Lev × PV) : Bool :=
  x.2.flat || match want with
    | .deep => x.1 == .deep
    | .oldR => x.1 == .old
    | .borR => true
    | _ => false
def okCells (want : Lev) (l : List (Lev × PV)) : Bool := l.all (okCell want)
/-- May a row that is owned at level l be said to be at level want? -/
def okBase (want l : Lev) (xs : List (List PV)) : Bool :=
  match want, l with
  | .deep, .deep => true
  | .oldR, .oldR => true
  | .borR, .borR => true
  | .borR, .deep => true
  | .borR, .oldR => true
  | .oldR, .deep => flatRows xs
  | _, _ => false
/-- May the rows of a slice be taken over into one at level want? -/
def okSpread (want l : Lev) (ys : List (List PV)) : Bool :=
  flatRows ys || match want, l with
    | .deep, .deep => true
    | .oldR, .old => true
    | .oldR, .oldR => true
    | .borR, _ => true
    | _, _ => false
def isOwn : Lev → Bool
  | .deep | .oldR | .borR => true
  | _ => false
/-- A cell may be said to be at a lower level. -/
def okRelev (want l : Lev) (p : PV) : Bool :=
  p.flat || want == l || want == .bor || (isOwn want && isOwn l && (match p with | .sl _ xs => okBase want l xs | _ => false))

/-! ### Kills -/
def mapTV (f : Cell → Cell) (h : Nat → Nat → Path → Bool) (b : Bool) : TV → TV
  | .one c => .one (f c)
  | .agg cs => .agg (cs.map f)
  | .box cs => .box (cs.map f)
  | .place r c path => if h r c path then .dead else .place r c path
  | .ep l row off => if b && (l != .old) then .dead else .ep l row off
  | .tup vs => .tup (vs.map fun x => (x.1, x.2.map f))
  | .undef => .undef
  | .dead => .dead

/-- All that leads into r. -/
def killRootC (r : Nat) : Cell → Cell
  | .view r' c path => if r' = r then .dead else .view r' c path
  | c => c
def killRoot (r : Nat) (S : St) : St := S.map (mapTV (killRootC r) (fun r' _ _ => r' == r) false)

/-- All that leads into the cells c to c + n - 1 of r. -/
def killBoxC (r c n : Nat) : Cell → Cell
  | .view r' c' path => if r' = r ∧ c ≤ c' ∧ c' < c + n then .dead else .view r' c' path
  | x => x
def killBox (r c n : Nat) (S : St) : St :=
  S.map (mapTV (killBoxC r c n) (fun r' c' path => r' == r && decide (c ≤ c') && decide (c' < c + n) && !path.isEmpty) false)

/-- Is the first path a beginning of the second one? -/
def pfx : Path → Path → Bool
  | [], _ => true
  | x :: p, y :: q => x == y && pfx p q
  | _ :: _, [] => false
def isBorrow : Lev → Bool
  | .bor | .borR => true
  | _ => false
/-- What stands of a cell once a slice inside (r, c), at the path k, has been written: nothing that is borrowed; no view that leads further in than k. -/
def killElemC (r c : Nat) (k : Path) : Cell → Cell
  | .val l p => if p.flat || !isBorrow l then .val l p else .dead
  | .view r' c' path' => if r' = r ∧ c' = c ∧ path'.isEmpty = false then .dead else .view r' c' path'
  | .dead => .dead
def killElem (r c : Nat) (k : Path) (S : St) : St :=
  S.map (mapTV (killElemC r c k) (fun r' c' path' => r' == r && c' == c && !path'.isEmpty) true)

/-! ### A slot is written -/
def rootishC : Cell → Bool
  | .val _ p => !p.flat
  | .view .. => false
  | .dead => true
def rootish : TV → Bool
  | .one c => rootishC c
  | .agg cs => cs.any rootishC
  | .box _ => true
  | _ => false
def put (g : Bool) (S : St) (d : Option Nat) (v : TV) : Option St :=
  match d with
  | none => some S
  | some d => if g then some ((killRoot d S).set d (mapTV (killRootC d) (fun r' _ _ => r' == d) false v)) else if rootish (S.g d) then none else some (S.set d v)

/-! ### Scalars -/
def PV.toV : PV → Value
  | .int k n => .int k n
  | .bool b => .bool b
  | .str s => .string s
  | .sl .. => .tuple #[]
def ofV : Value → Option PV
  | .int k n => some (.int k n)
  | .bool b => some (.bool b)
  | .string s => some (.str s)
  | _ => none
def ofSem (s : Sem Value) : Option PV :=
  match s with
  | .pure v => ofV v
  | _ => none
def binS (op : BinOp) (x y : PV) : Option PV :=
  match x, y with
  | .int .., .int .. => ofSem (Go.binOp op 0 x.toV y.toV)
  | .str .., .str .. => ofSem (Go.binOp op 0 x.toV y.toV)
  | _, _ => none
def unS (op : UnOp) (x : PV) : Option PV :=
  match x with
  | .int .. | .bool .. => ofSem (Op.unary op x.toV)
  | _ => none
def sameScalar : PV → PV → Option Bool
  | .int k a, .int k' b => if k = k' then some (a == b) else none
  | .bool a, .bool b => some (a == b)
  | .str a, .str b => some (a.toList == b.toList)
  | _, _ => none
def sameCells : List (Lev × PV) → List (Lev × PV) → Option Bool
  | [], [] => some true
  | x :: xs, y :: ys => (sameScalar x.2 y.2).bind fun b => (sameCells xs ys).map fun c => b && c
  | _, _ => none
def byteOf : List PV → Option UInt8
  | [.int .u8 n] => some (UInt8.ofNat n.toNat)
  | _ => none
def bytesOfRows : List (List PV) → Option (List UInt8)
  | [] => some []
  | r :: rs => (byteOf r).bind fun b => (bytesOfRows rs).map fun l => b :: l
def bytesPV (s : ByteArray) : List (List PV) := s.data.toList.map fun b => [PV.int .u8 b.toNat]

def natOf (S : St) (o : AOpnd) : Option Nat :=
  match bOne S o with
  | some (_, .int _ n) => if 0 ≤ n then some n.toNat else none
  | _ => none
def optNat (S : St) (o : Option AOpnd) (d : Nat) : Option Nat :=
  match o with
  | none => some d
  | some o => natOf S o

/-- A slot is given up. -/
def killSlot (S : St) (t : Nat) : St := if rootish (S.g t) then (killRoot t S).set t .dead else S.set t .dead
def killSlots (S : St) : List Nat → St
  | [] => S
  | t :: ts => killSlots (killSlot S t) ts
/-- A cell is said to be at a lower level. -/
def relev (S : St) (t c : Nat) (l : Lev) : Option St :=
  match rootCell S t c with
  | .val l' p => if okRelev l l' p then some (setRoot (killRoot t S) t c (.val l p)) else none
  | _ => none
def pseudo (S : St) : List Pseudo → Option St
  | [] => some S
  | .kill ts :: ps => pseudo (killSlots S ts) ps
  | .relev t c l :: ps => (relev S t c l).bind fun S' => pseudo S' ps

def valCell (x : Lev × PV) : Cell := .val x.1 x.2

/-! ### Parts -/
/-- Cells laid over others from an offset on; none where they do not fit. -/
def lay (cs : List Cell) (off : Nat) (news : List Cell) : Option (List Cell) :=
  if off + news.length ≤ cs.length then some (cs.take off ++ news ++ cs.drop (off + news.length)) else none
def layAll (S : St) (cs : List Cell) : List (Nat × Nat × AOpnd) → Option (List Cell × St)
  | [] => some (cs, S)
  | (off, n, o) :: ps => (tAny S o).bind fun x => if x.2.1.length = n then (lay cs off x.2.1).bind fun cs' => layAll x.2.2 cs' ps else none
def layRows (S : St) (sz : Nat) (rows : List (List (Lev × PV))) : List (Nat × AOpnd) → Option (List (List (Lev × PV)) × St)
  | [] => some (rows, S)
  | (i, o) :: ps => (tPV S o).bind fun x =>
    if x.2.1.length = sz ∧ i < rows.length then layRows x.2.2 sz (rows.set i x.2.1) ps else none

def zeroPV : PV → Bool
  | .sl _ [] => true
  | z => z.flat
def zeroCells (zs : List PV) : List Cell := zs.map (.val .deep)

/-! ### What lies at a place -/
def placeSplit : Path → Option (Path × Nat × Nat × Nat)
  | [] => none
  | [x] => some ([], x)
  | x :: y :: t => (placeSplit (y :: t)).map fun z => (x :: z.1, z.2)
def pathOff (off : Nat) : Path → Path
  | [] => []
  | [(s, i, j)] => [(s, i, j + off)]
  | x :: y :: t => x :: pathOff off (y :: t)

/-- The cell at a place inside a slice whose root is at level l. -/
def cellAt (r c : Nat) (l : Lev) (one : Bool) (pre : Path) (s i j : Nat) (q : PV) : Cell :=
  if q.flat then .val .deep q else
  match l with
  | .deep => .view r c (pre ++ [(s, i, j)])
  | .oldR => if one then .val .old q else .val .bor q
  | .old => .val .old q
  | _ => .val .bor q
def cellsAt (r c : Nat) (l : Lev) (one : Bool) (pre : Path) (s i j : Nat) : List PV → List Cell
  | [] => []
  | q :: qs => cellAt r c l one pre s i j q :: cellsAt r c l one pre s i (j + 1) qs

def boxCell (r c : Nat) : Cell → Cell
  | .val l p => if p.flat then .val .deep p else if isOwn l then .view r c [] else .val (borL l p) p
  | x => x
def boxCells (r c : Nat) : List Cell → List Cell
  | [] => []
  | x :: xs => boxCell r c x :: boxCells r (c + 1) xs

/-- n cells from a place on. -/
def loadAt (S : St) (rs : List Nat) (n : Nat) : TV → Option (List Cell)
  | .ep l row off => if off + n ≤ row.length then some (((row.drop off).take n).map fun q => .val (borL l q) q) else none
  | .place r c [] =>
    if rs.elem r then
      match S.g r with
      | .box cs => if c + n ≤ cs.length then some (boxCells r c ((cs.drop c).take n)) else none
      | _ => none
    else none
  | .place r c (x :: path) =>
    if rs.elem r then
      match placeSplit (x :: path), rootCell S r c with
      | some (pre, s, i, j), .val l p =>
        match pget p pre with
        | some (.sl sz xs) =>
          if s = sz then
            match xs[i]? with
            | some row => if j + n ≤ row.length then some (cellsAt r c l pre.isEmpty pre s i j ((row.drop j).take n)) else none
            | none => none
          else none
        | _ => none
      | _, _ => none
    else none
  | _ => none

/-- A slot that holds a box, as its place. -/
def asPlace (S : St) (p : Nat) : TV :=
  match S.g p with
  | .box _ => .place p 0 []
  | tv => tv

def TV.ofCells (agg : Bool) (cs : List Cell) : Option TV :=
  if agg then some (.agg cs) else match cs with
    | [c] => some (.one c)
    | _ => none

/-! ### One operation -/
/-- The level of a root once a cell below one of its rows has been written. -/
def okStore (l : Lev) (one : Bool) (news : List (Lev × PV)) : Bool :=
  match l with
  | .deep => okCells .deep news
  | .oldR => one && okCells .oldR news
  | _ => false

def storeAt (S : St) (rs : List Nat) (P : TV) (news : List Cell) : Option St :=
  match P with
  | .place r c [] =>
    if rs.elem r then
      match S.g r with
      | .box cs => (lay (cs.map (killBoxC r c news.length)) c (news.map (killBoxC r c news.length))).map fun cs' => (killBox r c news.length S).set r (.box cs')
      | _ => none
    else none
  | .place r c (x :: path) =>
    if rs.elem r then
      match rootCell S r c, tVals S rs news with
      | .val l p, some vs =>
        if okStore l path.isEmpty vs then
          (pset p (x :: path) (vs.map (·.2))).map fun p' => setRoot (killElem r c (x :: path).dropLast S) r c (.val l p')
        else none
      | _, _ => none
    else none
  | _ => none

/-- One operation that is no call. -/
def step (S : St) (d : Option Nat) : AOp → Option St
  | .mv g (.c p) => put g S d (.one (.val .deep p))
  | .mv g (.t n _) => match S.g n with
    | .one (.val l p) => put g S d (.one (if p.flat then .val .deep p else if isOwn l then .view n 0 [] else .val (borL l p) p))
    | .one (.view r c path) => put g S d (.one (.view r c path))
    | .agg cs => put g S d (.agg (boxCells n 0 cs))
    | .box _ => put g S d (.place n 0 [])
    | .place r c path => put g S d (.place r c path)
    | .ep l row off => put g S d (.ep l row off)
    | _ => none
  | .take g x => (tAny S x).bind fun y => (TV.ofCells y.1 y.2.1).bind fun v => put g y.2.2 d v
  | .mvT (.t n _) => match S.g n with
    | .tup vs => put false (S.set n .dead) d (.tup vs)
    | _ => none
  | .mvT (.c _) => none
  | .pick c a b => match bOne S c with
    | some (_, .bool t) => (match bOne S (if t then a else b) with
      | some (_, v) => if v.flat then put false S d (.one (.val .deep v)) else none
      | none => none)
    | _ => none
  | .alloc g cs ls => if ls.length = cs.length ∧ (cs.zip ls).all (fun x => x.1.flat || (isOwn x.2 && (match x.1 with | .sl _ [] => true | _ => false)))
      then put g S d (.box ((cs.zip ls).map fun x => .val (if x.1.flat then .deep else x.2) x.1)) else none
  | .box g x => (tAny S x).bind fun y => put g y.2.2 d (.box y.2.1)
  | .boxV (.t n rs) => if rs.elem n then none else match S.g n, d with
    | .agg cs, some d => (tCells S rs cs).bind fun y => (put false (y.2.set n (.agg (cs.map weakC))) (some d) (.box y.1)).bind fun S' => if d = n then none else put true S' (some n) (.agg (boxCells d 0 y.1))
    | _, _ => none
  | .boxV (.c _) => none
  | .build zs parts => (layAll S (zeroCells zs) parts).bind fun y => put false y.2 d (.agg y.1)
  | .mkSl lev sz zs len parts => (layRows S sz (List.replicate len (zs.map fun z => (Lev.deep, z))) parts).bind fun y =>
      if zs.length = sz ∧ y.1.all (okCells lev) then put false y.2 d (.one (.val lev (.sl sz (y.1.map fun r => r.map (·.2))))) else none
  | .load n (.t p rs) => (loadAt S rs (n.getD 1) (asPlace S p)).bind fun cs => (TV.ofCells n.isSome cs).bind fun v => put false S d v
  | .load _ (.c _) => none
  | .store n (.t p rs) x => if d.isSome then none else (tAny S x).bind fun y => if y.2.1.length = n then storeAt y.2.2 rs (asPlace y.2.2 p) y.2.1 else none
  | .store _ (.c _) _ => none
  | .bin op x y => match bOne S x, bOne S y with
    | some (_, a), some (_, b) => (binS op a b).bind fun r => put false S d (.one (.val .deep r))
    | _, _ => none
  | .eqB neg x y => match bOne S x, bOne S y with
    | some (_, .bool a), some (_, .bool b) => put false S d (.one (.val .deep (.bool (if neg then !(a == b) else a == b))))
    | _, _ => none
  | .eqAgg neg ks x y => match bAny S x, bAny S y with
    | some (true, a), some (true, b) => if a.map (fun z => z.2.kind) = ks then (sameCells a b).bind fun r => put false S d (.one (.val .deep (.bool (if neg then !r else r)))) else none
    | _, _ => none
  | .un op x => match bOne S x with
    | some (_, a) => (unS op a).bind fun r => put false S d (.one (.val .deep r))
    | _ => none
  | .convInt k x => match bOne S x with
    | some (_, .int _ n) => put false S d (.one (.val .deep (.int k (k.wrap n))))
    | _ => none
  | .bytesStr x => match bOne S x with
    | some (_, .sl 1 xs) => (bytesOfRows xs).bind fun l => put false S d (.one (.val .deep (.str ⟨l.toArray⟩)))
    | _ => none
  | .make lev sz zs len => match natOf S len with
    | some n => if isOwn lev && zs.all zeroPV then
        if zs.length = sz ∧ n ≤ 1099511627776 then put false S d (.one (.val lev (.sl sz (List.replicate n zs)))) else none else none
    | none => none
  | .sliceS x lo hi => match bOne S x with
    | some (_, .str s) =>
      match optNat S lo 0, optNat S hi s.size with
      | some a, some b => if a ≤ b ∧ b ≤ s.size then put false S d (.one (.val .deep (.str (s.extract a b)))) else none
      | _, _ => none
    | _ => none
  | .slice sz x lo hi mx => match bOne S x with
    | some (l, .sl sz' xs) => if sz' = sz then
      match optNat S lo 0, optNat S hi xs.length, optNat S mx xs.length with
      | some a, some b, some m => if a ≤ b ∧ b ≤ m ∧ m ≤ xs.length ∧ (mx.isSome → hi.isSome) then put false S d (.one (.val (if l = .old then .old else .bor) (.sl sz' ((xs.drop a).take (b - a))))) else none
      | _, _, _ => none
      else none
    | _ => none
  | .faddr off (.t p rs) => match S.g p with
    | .place r c [] => put false S d (.place r (c + off) [])
    | .place r c (x :: path) => if rs.elem r then match rootCell S r c with
      | .val _ _ => put false S d (.place r c (pathOff off (x :: path)))
      | _ => none else none
    | .ep l row o => put false S d (.ep l row (o + off))
    | .box _ => put false S d (.place p off [])
    | _ => none
  | .faddr _ (.c _) => none
  | .field off n x => match tAny S x with
    | some (true, cs, S') => if off + n.getD 1 ≤ cs.length then (TV.ofCells n.isSome ((cs.drop off).take (n.getD 1))).bind fun v => put false S' d v else none
    | _ => none
  | .iaddr sz (.t n rs) i => match S.g n, natOf S i with
    | .one (.view r c path), some i =>
      (match bCell S rs (.view r c path) with
        | some (_, .sl sz' xs) => if sz' = sz ∧ i < xs.length then put false S d (.place r c (path ++ [(sz, i, 0)])) else none
        | _ => none)
    | .one (.val l (.sl sz' xs)), some i =>
      if sz' = sz then
        if isOwn l then (if i < xs.length then put false S d (.place n 0 [(sz, i, 0)]) else none)
        else match xs[i]? with
          | some row => put false S d (.ep (if l = .old then .old else .bor) row 0)
          | none => none
      else none
    | _, _ => none
  | .iaddr _ (.c _) _ => none
  | .index x i => match bOne S x, natOf S i with
    | some (_, .str s), some i => match s[i]? with
      | some b => put false S d (.one (.val .deep (.int .u8 b.toNat)))
      | none => none
    | _, _ => none
  | .extract i (.t n _) => match S.g n with
    | .tup vs => match vs[i]? with
      | some x => (TV.ofCells x.1 x.2).bind fun v => put false (S.set n (.tup (vs.set i (x.1, x.2.map fun _ => .dead)))) d v
      | none => none
    | _ => none
  | .extract _ (.c _) => none
  | .len x => match bOne S x with
    | some (_, .sl _ xs) => put false S d (.one (.val .deep (.int .i64 xs.length)))
    | _ => none
  | .lenS x => match bOne S x with
    | some (_, .str s) => put false S d (.one (.val .deep (.int .i64 s.size)))
    | _ => none
  | .append lev sz bytes x y => (tPV S x).bind fun a => (tPV a.2.2 y).bind fun b =>
      match a.1, a.2.1, b.1, b.2.1 with
      | false, [(l, .sl sz1 xs)], false, [(l', .sl sz2 ys)] =>
        if sz1 = sz ∧ sz2 = sz ∧ isOwn l ∧ isOwn lev ∧ okBase lev l xs ∧ okSpread lev l' ys ∧ (xs.length + ys.length) * bytes ≤ 140737488355328
        then put false b.2.2 d (.one (.val lev (.sl sz (xs ++ ys)))) else none
      | _, _, _, _ => none
  | .appendStr x y => (tPV S x).bind fun a =>
      match a.1, a.2.1, bOne a.2.2 y with
      | false, [(l, .sl 1 xs)], some (_, .str s) =>
        if l = .deep ∧ xs.length + s.size ≤ 140737488355328
        then put false a.2.2 d (.one (.val .deep (.sl 1 (xs ++ bytesPV s)))) else none
      | _, _, _ => none
  | .max x y => match bOne S x, bOne S y with
    | some (_, .int k a), some (_, .int k' b) => if k = k' then put false S d (.one (.val .deep (.int k (if b > a then b else a)))) else none
    | _, _ => none
  | .min x y => match bOne S x, bOne S y with
    | some (_, .int k a), some (_, .int k' b) => if k = k' then put false S d (.one (.val .deep (.int k (if b < a then b else a)))) else none
    | _, _ => none
  | .nilchk (.t n _) => match S.g n with
    | .box _ => put false S d (.place n 0 [])
    | .place r c [] => put false S d (.place r c [])
    | .ep l row off => put false S d (.ep l row off)
    | _ => none
  | .nilchk (.c _) => none
  | .call .. => none
