/- Abstract reading of Go code and its soundness, part 4. -/
import Derived.Test.YtkiliooegoldoaaE3
import Derived.Test.YtkiliooegoldoaaE1
import Derived.Orders
/- The checker of one operation. -/
set_option linter.unusedVariables false
set_option linter.unusedSimpArgs false
namespace Go.Proofs.Ytkiliooegoldoaa
open Go

def isT : AOpnd → Bool
  | .t _ _ => true
  | .c _ => false
theorem isT_ {x : AOpnd} (h : isT x = true) : ∃ n rs, x = .t n rs := by
  cases x with
  | t n rs => exact ⟨n, rs, rfl⟩
  | c p => cases h

section
variable (P : Program)
def elemOf (t : TypeId) : Option TypeInfo :=
  match P.underlying t with
  | some (.slice e) => P.info? e
  | _ => none
theorem elemOf_ {t i} (h : elemOf P t = some i) : ∃ e, P.underlying t = some (.slice e) ∧ P.info? e = some i := by
  unfold elemOf at h
  split at h
  · exact ⟨_, by assumption, h⟩
  · cases h
def widthOk (n : Option Nat) (t : TypeId) : Bool :=
  match P.underlying t, P.info? t with
  | some dt, some i => match n with
    | none => !aggD dt
    | some k => aggD dt && i.size == k
  | _, _ => false
theorem widthOk_ {n t} (h : widthOk P n t = true) : ∃ dt i, P.underlying t = some dt ∧ P.info? t = some i ∧ (match (generalizing := false) n with | none => aggD dt = false | some k => aggD dt = true ∧ i.size = k) := by
  unfold widthOk at h
  split at h
  · refine ⟨_, _, by assumption, by assumption, ?_⟩
    split at h
    · simpa using h
    · simpa using h
  · cases h
def fieldAt (s : TypeId) (f : Nat) : Option Field :=
  match P.underlying s with
  | some (.struct fs) => fs[f]?
  | _ => none
theorem fieldAt_ {s f fd} (h : fieldAt P s f = some fd) : ∃ fs, P.underlying s = some (.struct fs) ∧ fs[f]? = some fd := by
  unfold fieldAt at h
  split at h
  · exact ⟨_, by assumption, h⟩
  · cases h
def isStr (t : TypeId) : Bool := match P.underlying t with
  | some .string => true
  | _ => false
theorem isStr_ {t} (h : isStr P t = true) : P.underlying t = some .string := by
  unfold isStr at h
  split at h
  · assumption
  · cases h
def isBool (t : TypeId) : Bool := match P.underlying t with
  | some .bool => true
  | _ => false
theorem isBool_ {t} (h : isBool P t = true) : P.underlying t = some .bool := by
  unfold isBool at h
  split at h
  · assumption
  · cases h
def isInt (k : IntKind) (t : TypeId) : Bool := match P.underlying t with
  | some (.int k') => k' == k
  | _ => false
theorem isInt_ {k t} (h : isInt P k t = true) : P.underlying t = some (.int k) := by
  unfold isInt at h
  split at h
  · rename_i k' hk
    rw [hk]
    simp at h
    rw [h]
  · cases h

def cMv (x : AOpnd) : Op → Bool
  | .move y => chkO y x
  | .assign y => chkO y x
  | _ => false
def cPick (c a b : AOpnd) : Op → Bool
  | .pick x y z => chkO x c && chkO y a && chkO z b
  | _ => false
def cLoad (n : Option Nat) (p : AOpnd) : Op → Bool
  | .load t a => isT p && chkO a p && widthOk P n t
  | _ => false
def cStore (n : Nat) (p x : AOpnd) : Op → Bool
  | .store t a y => isT p && chkO a p && chkO y x && (match P.info? t with
    | some i => i.size == n
    | none => false)
  | _ => false
def cFaddr (off : Nat) (p : AOpnd) : Op → Bool
  | .fieldAddr s a f => isT p && chkO a p && (match fieldAt P s f with
    | some fd => fd.offset == off && (match P.info? fd.type with
      | some i => i.size != 0
      | none => false)
    | none => false)
  | _ => false
def cField (off : Nat) (n : Option Nat) (x : AOpnd) : Op → Bool
  | .field s a f => chkO a x && (match fieldAt P s f with
    | some fd => fd.offset == off && widthOk P n fd.type
    | none => false)
  | _ => false
def cIaddr (sz : Nat) (x i : AOpnd) : Op → Bool
  | .indexAddr t y ix => isT x && chkO y x && chkO ix i && decide (0 < sz) && (match elemOf P t with
    | some ti => ti.size == sz
    | none => false)
  | _ => false
def cIndex (x i : AOpnd) : Op → Bool
  | .index t y ix => chkO y x && chkO ix i && isStr P t
  | _ => false
def builtin1 (b : Builtin) : Op → Option (Operand × TypeId)
  | .call { callee := .builtin b', args := ⟨[x]⟩, argTypes := ⟨[t]⟩ } => if b' = b then some (x, t) else none
  | _ => none
def builtin2 (b : Builtin) : Op → Option (Operand × Operand × Array TypeId)
  | .call { callee := .builtin b', args := ⟨[x, y]⟩, argTypes := t } => if b' = b then some (x, y, t) else none
  | _ => none
theorem builtin1_ {b op x t} (h : builtin1 b op = some (x, t)) : ∃ c : Call, op = .call c ∧ c.callee = .builtin b ∧ c.args = #[x] ∧ c.argTypes = #[t] := by
  unfold builtin1 at h
  split at h
  · split at h
    · rename_i hb
      simp only [Option.some.injEq, Prod.mk.injEq] at h
      obtain ⟨rfl, rfl⟩ := h
      subst hb
      exact ⟨_, rfl, rfl, rfl, rfl⟩
    · cases h
  · cases h
theorem builtin2_ {b op x y t} (h : builtin2 b op = some (x, y, t)) : ∃ c : Call, op = .call c ∧ c.callee = .builtin b ∧ c.args = #[x, y] ∧ c.argTypes = t := by
  unfold builtin2 at h
  split at h
  · split at h
    · rename_i hb
      simp only [Option.some.injEq, Prod.mk.injEq] at h
      obtain ⟨rfl, rfl, rfl⟩ := h
      subst hb
      exact ⟨_, rfl, rfl, rfl, rfl⟩
    · cases h
  · cases h
def cLen (x : AOpnd) (op : Op) : Bool :=
  match builtin1 .len op with
  | some (y, t) => chkO y x && (elemOf P t).isSome
  | none => false
def cLenS (x : AOpnd) (op : Op) : Bool :=
  match builtin1 .len op with
  | some (y, t) => chkO y x && isStr P t
  | none => false
def cMax (b : Builtin) (x y : AOpnd) (op : Op) : Bool :=
  match builtin2 b op with
  | some (x', y', _) => chkO x' x && chkO y' y
  | none => false
def cAppend (lev : Lev) (sz bytes : Nat) (x y : AOpnd) (op : Op) : Bool :=
  match builtin2 .append op with
  | some (x', y', ⟨[t, t']⟩) => t == t' && chkO x' x && chkO y' y && decide (0 < sz) && decide (0 < bytes) && (match elemOf P t with
    | some i => i.size == sz && i.bytes == bytes && (match i.zero with
      | some z => z.cells.size == sz
      | none => false)
    | none => false)
  | _ => false
def cAppendStr (x y : AOpnd) (op : Op) : Bool :=
  match builtin2 .append op with
  | some (x', y', ⟨[t, t']⟩) => chkO x' x && chkO y' y && isStr P t' && (match elemOf P t with
    | some i => i.size == 1 && i.bytes == 1 && (match i.zero with
      | some z => z.cells.size == 1
      | none => false)
    | none => false)
  | _ => false
def cBin (b : BinOp) (x y : AOpnd) : Op → Bool
  | .binOp b' _ x' y' _ => b' == b && chkO x' x && chkO y' y
  | _ => false
def cEqB (neg : Bool) (x y : AOpnd) : Op → Bool
  | .binOp b' t x' y' _ => b' == (if neg then .neq else .eql) && chkO x' x && chkO y' y && isBool P t
  | _ => false
def cEqAgg (neg : Bool) (ks : List Nat) (x y : AOpnd) : Op → Bool
  | .binOp b' t x' y' _ => b' == (if neg then .neq else .eql) && chkO x' x && chkO y' y && !P.stoodInHeld t && !P.eqGuardType P.depth t && (match P.underlying t with
    | some (.struct fs) => kindsOk P 0 fs.toList ks
    | _ => false)
  | _ => false
def cUn (u : UnOp) (x : AOpnd) : Op → Bool
  | .unOp u' _ x' => u' == u && chkO x' x
  | _ => false
def cConvInt (k : IntKind) (x : AOpnd) : Op → Bool
  | .convert s t x' => chkO x' x && (P.underlying s).isSome && isInt P k t
  | _ => false
def cBytesStr (x : AOpnd) : Op → Bool
  | .convert s t x' => chkO x' x && isBytes P s && isStr P t
  | _ => false
def cSliceS (x : AOpnd) (lo hi : Option AOpnd) : Op → Bool
  | .slice t x' lo' hi' none => chkO x' x && chkOO lo' lo && chkOO hi' hi && isStr P t
  | _ => false
def cSlice (sz : Nat) (x : AOpnd) (lo hi mx : Option AOpnd) : Op → Bool
  | .slice t x' lo' hi' mx' => chkO x' x && chkOO lo' lo && chkOO hi' hi && chkOO mx' mx && (match elemOf P t with
    | some i => i.size == sz
    | none => false)
  | _ => false
def cNil (x : AOpnd) : Op → Bool
  | .nilCheck y => isT x && chkO y x
  | _ => false
def cExtract (i : Nat) (x : AOpnd) : Op → Bool
  | .extract y j => j == i && isT x && chkO y x
  | _ => false
def zeroOk (t : TypeId) (cs : List PV) : Bool :=
  match P.info? t with
  | some i => match i.zero with
    | some z => chkCells z.cells.toList cs
    | none => false
  | none => false
theorem zeroOk_ {t cs} (h : zeroOk P t cs = true) : ∃ i z, P.info? t = some i ∧ i.zero = some z ∧ chkCells z.cells.toList cs = true := by
  unfold zeroOk at h
  split at h
  · split at h
    · exact ⟨_, _, by assumption, by assumption, h⟩
    · cases h
  · cases h
def cAlloc (cs : List PV) : Op → Bool
  | .alloc t => zeroOk P t cs
  | _ => false
def cBox (x : AOpnd) : Op → Bool
  | .box _ y => chkO y x
  | _ => false
def placesOf (t : TypeId) : Option (List (Nat × Nat)) :=
  match P.underlying t with
  | some (.struct fs) => fs.toList.mapM (fun f => (P.info? f.type).map fun i => (f.offset, i.size))
  | _ => none
theorem placesOf_ {t pl} (h : placesOf P t = some pl) : ∃ fs, P.underlying t = some (.struct fs) ∧ fs.toList.mapM (fun f => (P.info? f.type).map fun i => (f.offset, i.size)) = some pl := by
  unfold placesOf at h
  split at h
  · exact ⟨_, by assumption, h⟩
  · cases h
def cBuild (zs : List PV) (ps : List (Nat × Nat × AOpnd)) : Op → Bool
  | .build t rp => zeroOk P t zs && (match placesOf P t with
    | some pl => chkParts (pl.toArray[·]?) rp.toList ps
    | none => false)
  | _ => false
def elemZero (t : TypeId) (sz : Nat) (zs : List PV) : Option TypeInfo :=
  match elemOf P t with
  | some i => match i.zero with
    | some z => if i.size = sz ∧ z.cells.size = sz ∧ chkCells z.cells.toList zs = true then some i else none
    | none => none
  | none => none
theorem elemZero_ {t sz zs i} (h : elemZero P t sz zs = some i) : ∃ e z, P.underlying t = some (.slice e) ∧ P.info? e = some i ∧ i.zero = some z ∧ i.size = sz ∧ z.cells.size = sz ∧ chkCells z.cells.toList zs = true := by
  unfold elemZero at h
  split at h
  · rename_i i' hi
    split at h
    · rename_i z hz
      split at h
      · rename_i hc
        injection h with h
        subst h
        obtain ⟨e, h1, h2⟩ := elemOf_ P hi
        exact ⟨e, z, h1, h2, hz, hc⟩
      · cases h
    · cases h
  · cases h
def cMkSl (lev : Lev) (sz : Nat) (zs : List PV) (n : Nat) (ps : List (Nat × AOpnd)) : Op → Bool
  | .buildSlice t n' rp => n' == n && isOwn lev && decide (0 < sz) && decide (n * sz ≤ 16777216) && chkRows rp.toList ps && (elemZero P t sz zs).isSome
  | _ => false
def sameO : Operand → Operand → Bool
  | .tmp a, .tmp b => a == b
  | .const (.int _ a), .const (.int _ b) => a == b
  | _, _ => false
def cMake (lev : Lev) (sz : Nat) (zs : List PV) (x : AOpnd) : Op → Bool
  | .makeSlice t (.tmp y) (.tmp y') => y == y' && chkO (.tmp y) x && (match elemZero P t sz zs with
    | some i => decide (i.bytes ≤ 256)
    | none => false)
  | .makeSlice t (.const (.int k y)) (.const (.int k' y')) => k == k' && y == y' && chkO (.const (.int k y)) x && (match elemZero P t sz zs with
    | some i => decide (i.bytes ≤ 256)
    | none => false)
  | _ => false

def chkOp : AOp → Op → Bool
  | .mv _ x, op => cMv x op
  | .take _ x, op => cMv x op
  | .mvT x, op => (match x with | .t .. => true | _ => false) && cMv x op
  | .pick c a b, op => cPick c a b op
  | .alloc _ cs _, op => cAlloc P cs op
  | .box _ x, op => cBox x op
  | .boxV _, _ => false
  | .build zs ps, op => cBuild P zs ps op
  | .mkSl lev sz zs n ps, op => cMkSl P lev sz zs n ps op
  | .load n p, op => cLoad P n p op
  | .store n p x, op => cStore P n p x op
  | .bin b x y, op => cBin b x y op
  | .eqB neg x y, op => cEqB P neg x y op
  | .eqAgg neg ks x y, op => cEqAgg P neg ks x y op
  | .un u x, op => cUn u x op
  | .convInt k x, op => cConvInt P k x op
  | .bytesStr x, op => cBytesStr P x op
  | .make lev sz zs x, op => cMake P lev sz zs x op
  | .sliceS x lo hi, op => cSliceS P x lo hi op
  | .slice sz x lo hi mx, op => cSlice P sz x lo hi mx op
  | .faddr off p, op => cFaddr P off p op
  | .field off n x, op => cField P off n x op
  | .iaddr sz x i, op => cIaddr P sz x i op
  | .index x i, op => cIndex P x i op
  | .extract i x, op => cExtract i x op
  | .len x, op => cLen P x op
  | .lenS x, op => cLenS P x op
  | .append lev sz bytes x y, op => cAppend P lev sz bytes x y op
  | .appendStr x y, op => cAppendStr P x y op
  | .max x y, op => cMax .max x y op
  | .min x y, op => cMax .min x y op
  | .nilchk x, op => cNil x op
  | .call .., _ => false
end

section
variable {P : Program} {ρ : Operand → Value} {o : Oper} {E : Env} {S S' : St} {vs : List Value} {w : World} {φ : Nat → Nat} {bs : List Nat} {d : Option Nat}

theorem cMv_ {x op} (h : cMv x op = true) : ∃ y, (op = .move y ∨ op = .assign y) ∧ chkO y x = true := by
  unfold cMv at h
  split at h
  · exact ⟨_, .inl rfl, h⟩
  · exact ⟨_, .inr rfl, h⟩
  · cases h

theorem op_sound {a : AOp} (hc : chkOp P a o.op = true) (hs : SR E S vs w φ bs []) (hρ : RhoR ρ vs) (h : step S d a = some S') : Goal P ρ o E S' vs d w := by
  cases a with
  | mv g x =>
    obtain ⟨y, h1, h2⟩ := cMv_ hc
    exact mv_goal hs hρ h1 h2 h
  | take g x =>
    obtain ⟨y, h1, h2⟩ := cMv_ hc
    exact take_goal hs hρ h1 h2 h
  | mvT x =>
    simp only [chkOp, Bool.and_eq_true] at hc
    obtain ⟨y, h1, h2⟩ := cMv_ hc.2
    cases x with
    | t n rs => exact mvT_goal hs hρ h1 h2 h
    | c p => cases hc.1
  | pick c a b =>
    simp only [chkOp] at hc
    unfold cPick at hc
    split at hc
    · rename_i ho
      simp only [Bool.and_eq_true] at hc
      exact pick_goal hs hρ ho hc.1.1 hc.1.2 hc.2 h
    · cases hc
  | alloc g cs ls =>
    simp only [chkOp] at hc
    unfold cAlloc at hc
    split at hc
    · rename_i ho
      obtain ⟨i, z, h1, h2, h3⟩ := zeroOk_ P hc
      exact alloc_goal hs ho h1 h2 h3 h
    · cases hc
  | box g x =>
    simp only [chkOp] at hc
    unfold cBox at hc
    split at hc
    · rename_i ho
      exact box_goal hs hρ ho hc h
    · cases hc
  | boxV x => cases hc
  | build zs ps =>
    simp only [chkOp] at hc
    unfold cBuild at hc
    split at hc
    · rename_i ho
      simp only [Bool.and_eq_true] at hc
      obtain ⟨i, z, h1, h2, h3⟩ := zeroOk_ P hc.1
      have hc2 := hc.2
      split at hc2
      · rename_i pl hpl
        obtain ⟨fs, k1, k2⟩ := placesOf_ P hpl
        exact build_goal hs hρ ho k1 h1 h2 k2 h3 hc2 h
      · cases hc2
    · cases hc
  | mkSl lev sz zs n ps =>
    simp only [chkOp] at hc
    unfold cMkSl at hc
    split at hc
    · rename_i ho
      simp only [Bool.and_eq_true, beq_iff_eq, decide_eq_true_eq] at hc
      obtain ⟨⟨⟨⟨⟨rfl, c2⟩, c3⟩, c4⟩, c5⟩, c6⟩ := hc
      obtain ⟨i, c6⟩ := Option.isSome_iff_exists.1 c6
      obtain ⟨e, z, k1, k2, k3, k4, k5, k6⟩ := elemZero_ P c6
      exact mkSl_goal hs hρ ho k1 k2 k3 k4 c3 k5 c4 k6 c5 c2 h
    · cases hc
  | load n p =>
    simp only [chkOp] at hc
    unfold cLoad at hc
    split at hc
    · rename_i ho
      simp only [Bool.and_eq_true] at hc
      obtain ⟨m, rs, rfl⟩ := isT_ hc.1.1
      obtain ⟨dt, i, h1, h2, h3⟩ := widthOk_ P hc.2
      exact load_goal hs hρ ho hc.1.2 h1 h2 h3 h
    · cases hc
  | store n p x =>
    simp only [chkOp] at hc
    unfold cStore at hc
    split at hc
    · rename_i ho
      simp only [Bool.and_eq_true] at hc
      obtain ⟨⟨⟨c1, c2⟩, c3⟩, c4⟩ := hc
      obtain ⟨m, rs, rfl⟩ := isT_ c1
      split at c4
      · rename_i i hi
        exact store_goal hs hρ ho c2 c3 hi (by simpa using c4) h
      · cases c4
    · cases hc
  | bin b x y =>
    simp only [chkOp] at hc
    unfold cBin at hc
    split at hc
    · rename_i ho
      simp only [Bool.and_eq_true, beq_iff_eq] at hc
      obtain ⟨⟨rfl, c2⟩, c3⟩ := hc
      exact bin_goal hs hρ ho c2 c3 h
    · cases hc
  | eqB neg x y =>
    simp only [chkOp] at hc
    unfold cEqB at hc
    split at hc
    · rename_i ho
      simp only [Bool.and_eq_true, beq_iff_eq] at hc
      obtain ⟨⟨⟨rfl, c2⟩, c3⟩, c4⟩ := hc
      exact eqB_goal hs hρ ho c2 c3 (isBool_ P c4) h
    · cases hc
  | eqAgg neg ks x y =>
    simp only [chkOp] at hc
    unfold cEqAgg at hc
    split at hc
    · rename_i ho
      simp only [Bool.and_eq_true, beq_iff_eq, Bool.not_eq_true'] at hc
      obtain ⟨⟨⟨⟨⟨rfl, c2⟩, c3⟩, c4⟩, c5⟩, c6⟩ := hc
      split at c6
      · rename_i fs hu
        exact eqAgg_goal hs hρ ho c2 c3 hu c4 c5 c6 h
      · cases c6
    · cases hc
  | un u x =>
    simp only [chkOp] at hc
    unfold cUn at hc
    split at hc
    · rename_i ho
      simp only [Bool.and_eq_true, beq_iff_eq] at hc
      obtain ⟨rfl, c2⟩ := hc
      exact un_goal hs hρ ho c2 h
    · cases hc
  | convInt k x =>
    simp only [chkOp] at hc
    unfold cConvInt at hc
    split at hc
    · rename_i ho
      simp only [Bool.and_eq_true] at hc
      obtain ⟨ds, hd⟩ := Option.isSome_iff_exists.1 hc.1.2
      exact convInt_goal hs hρ ho hc.1.1 hd (isInt_ P hc.2) h
    · cases hc
  | bytesStr x =>
    simp only [chkOp] at hc
    unfold cBytesStr at hc
    split at hc
    · rename_i ho
      simp only [Bool.and_eq_true] at hc
      obtain ⟨e, h1, h2⟩ := isBytes_ hc.1.2
      exact bytesStr_goal hs hρ ho hc.1.1 h1 h2 (isStr_ P hc.2) h
    · cases hc
  | make lev sz zs x =>
    simp only [chkOp] at hc
    unfold cMake at hc
    split at hc
    · rename_i ho
      simp only [Bool.and_eq_true, beq_iff_eq] at hc
      obtain ⟨⟨rfl, c2⟩, c3⟩ := hc
      split at c3
      · rename_i i hi
        obtain ⟨e, z, k1, k2, k3, k4, k5, k6⟩ := elemZero_ P hi
        exact make_goal hs hρ ho rfl k1 k2 k3 k4 k5 (by simpa using c3) k6 c2 h
      · cases c3
    · rename_i ho
      simp only [Bool.and_eq_true, beq_iff_eq] at hc
      obtain ⟨⟨⟨rfl, rfl⟩, c2⟩, c3⟩ := hc
      split at c3
      · rename_i i hi
        obtain ⟨e, z, k1, k2, k3, k4, k5, k6⟩ := elemZero_ P hi
        exact make_goal hs hρ ho rfl k1 k2 k3 k4 k5 (by simpa using c3) k6 c2 h
      · cases c3
    · cases hc
  | sliceS x lo hi =>
    simp only [chkOp] at hc
    unfold cSliceS at hc
    split at hc
    · rename_i ho
      simp only [Bool.and_eq_true] at hc
      exact sliceS_goal hs hρ ho hc.1.1.1 hc.1.1.2 hc.1.2 (isStr_ P hc.2) h
    · cases hc
  | slice sz x lo hi mx =>
    simp only [chkOp] at hc
    unfold cSlice at hc
    split at hc
    · rename_i ho
      simp only [Bool.and_eq_true] at hc
      obtain ⟨⟨⟨⟨c1, c2⟩, c3⟩, c4⟩, c5⟩ := hc
      split at c5
      · rename_i i hi
        obtain ⟨e, k1, k2⟩ := elemOf_ P hi
        exact slice_goal hs hρ ho c1 c2 c3 c4 k1 k2 (by simpa using c5) h
      · cases c5
    · cases hc
  | faddr off p =>
    simp only [chkOp] at hc
    unfold cFaddr at hc
    split at hc
    · rename_i ho
      simp only [Bool.and_eq_true] at hc
      obtain ⟨⟨c1, c2⟩, c3⟩ := hc
      obtain ⟨m, rs, rfl⟩ := isT_ c1
      split at c3
      · rename_i fd hfd
        simp only [Bool.and_eq_true, beq_iff_eq] at c3
        obtain ⟨c4, c5⟩ := c3
        split at c5
        · rename_i i hi
          obtain ⟨fs, k1, k2⟩ := fieldAt_ P hfd
          exact faddr_goal hs hρ ho c2 k1 k2 hi (by simpa using c5) c4 h
        · cases c5
      · cases c3
    · cases hc
  | field off n x =>
    simp only [chkOp] at hc
    unfold cField at hc
    split at hc
    · rename_i ho
      simp only [Bool.and_eq_true] at hc
      obtain ⟨c2, c3⟩ := hc
      split at c3
      · rename_i fd hfd
        simp only [Bool.and_eq_true, beq_iff_eq] at c3
        obtain ⟨c4, c5⟩ := c3
        obtain ⟨fs, k1, k2⟩ := fieldAt_ P hfd
        obtain ⟨dt, i, m1, m2, m3⟩ := widthOk_ P c5
        exact field_goal hs hρ ho c2 k1 k2 c4 m1 m2 m3 h
      · cases c3
    · cases hc
  | iaddr sz x i =>
    simp only [chkOp] at hc
    unfold cIaddr at hc
    split at hc
    · rename_i ho
      simp only [Bool.and_eq_true, decide_eq_true_eq] at hc
      obtain ⟨⟨⟨⟨c1, c2⟩, c3⟩, c4⟩, c5⟩ := hc
      obtain ⟨m, rs, rfl⟩ := isT_ c1
      split at c5
      · rename_i ti hti
        obtain ⟨e, k1, k2⟩ := elemOf_ P hti
        exact iaddr_goal hs hρ ho c2 c3 k1 k2 (by simpa using c5) c4 h
      · cases c5
    · cases hc
  | index x i =>
    simp only [chkOp] at hc
    unfold cIndex at hc
    split at hc
    · rename_i ho
      simp only [Bool.and_eq_true] at hc
      exact index_goal hs hρ ho hc.1.1 hc.1.2 (isStr_ P hc.2) h
    · cases hc
  | extract i x =>
    simp only [chkOp] at hc
    unfold cExtract at hc
    split at hc
    · rename_i ho
      simp only [Bool.and_eq_true, beq_iff_eq] at hc
      obtain ⟨⟨rfl, c1⟩, c2⟩ := hc
      obtain ⟨m, rs, rfl⟩ := isT_ c1
      exact extract_goal hs hρ ho c2 h
    · cases hc
  | len x =>
    simp only [chkOp] at hc
    unfold cLen at hc
    split at hc
    · rename_i y t hb
      simp only [Bool.and_eq_true] at hc
      obtain ⟨c, h1, h2, h3, h4⟩ := builtin1_ hb
      obtain ⟨i, hi⟩ := Option.isSome_iff_exists.1 hc.2
      obtain ⟨e, k1, k2⟩ := elemOf_ P hi
      exact len_goal hs hρ h1 h2 h3 h4 hc.1 k1 h
    · cases hc
  | lenS x =>
    simp only [chkOp] at hc
    unfold cLenS at hc
    split at hc
    · rename_i y t hb
      simp only [Bool.and_eq_true] at hc
      obtain ⟨c, h1, h2, h3, h4⟩ := builtin1_ hb
      exact lenS_goal hs hρ h1 h2 h3 h4 hc.1 (isStr_ P hc.2) h
    · cases hc
  | append lev sz bytes x y =>
    simp only [chkOp] at hc
    unfold cAppend at hc
    split at hc
    · rename_i x' y' t t' hb
      simp only [Bool.and_eq_true, decide_eq_true_eq, beq_iff_eq] at hc
      obtain ⟨⟨⟨⟨⟨rfl, c1⟩, c2⟩, c3⟩, c4⟩, c5⟩ := hc
      obtain ⟨c, h1, h2, h3, h4⟩ := builtin2_ hb
      split at c5
      · rename_i i hi
        simp only [Bool.and_eq_true, beq_iff_eq] at c5
        obtain ⟨⟨c6, c7⟩, c8⟩ := c5
        split at c8
        · rename_i z hz
          obtain ⟨e, k1, k2⟩ := elemOf_ P hi
          exact append_goal hs hρ h1 h2 h3 h4 c1 c2 k1 k2 hz c6 (by simpa using c8) c3 c4 c7 h
        · cases c8
      · cases c5
    · cases hc
  | appendStr x y =>
    simp only [chkOp] at hc
    unfold cAppendStr at hc
    split at hc
    · rename_i x' y' t t' hb
      simp only [Bool.and_eq_true] at hc
      obtain ⟨⟨⟨c1, c2⟩, c3⟩, c5⟩ := hc
      obtain ⟨c, h1, h2, h3, h4⟩ := builtin2_ hb
      split at c5
      · rename_i i hi
        simp only [Bool.and_eq_true, beq_iff_eq] at c5
        obtain ⟨⟨c6, c7⟩, c8⟩ := c5
        split at c8
        · rename_i z hz
          obtain ⟨e, k1, k2⟩ := elemOf_ P hi
          exact appendStr_goal hs hρ h1 h2 h3 h4 c1 c2 k1 (isStr_ P c3) k2 hz c6 (by simpa using c8) c7 h
        · cases c8
      · cases c5
    · cases hc
  | max x y =>
    simp only [chkOp] at hc
    unfold cMax at hc
    split at hc
    · rename_i x' y' t hb
      simp only [Bool.and_eq_true] at hc
      obtain ⟨c, h1, h2, h3, h4⟩ := builtin2_ hb
      exact max_goal hs hρ h1 h2 h3 h4 hc.1 hc.2 h
    · cases hc
  | min x y =>
    simp only [chkOp] at hc
    unfold cMax at hc
    split at hc
    · rename_i x' y' t hb
      simp only [Bool.and_eq_true] at hc
      obtain ⟨c, h1, h2, h3, h4⟩ := builtin2_ hb
      exact min_goal hs hρ h1 h2 h3 h4 hc.1 hc.2 h
    · cases hc
  | nilchk x =>
    simp only [chkOp] at hc
    unfold cNil at hc
    split at hc
    · rename_i ho
      simp only [Bool.and_eq_true] at hc
      obtain ⟨m, rs, rfl⟩ := isT_ hc.1
      exact nilchk_goal hs hρ ho hc.2 h
    · cases hc
  | call k as => cases hc
end
end Go.Proofs.Ytkiliooegoldoaa

/- Entering a function; giving slots up; what a function hands back. -/
set_option linter.unusedVariables false
set_option linter.unusedSimpArgs false
namespace Go.Proofs.Ytkiliooegoldoaa
open Go

/-! ### Slots that are given up -/
theorem set_self (vs : List Value) (t : Nat) : vs.set t (vs.getD t undef) = vs := by
  apply List.ext_getElem?
  intro i
  rw [List.getElem?_set]
  split
  · rename_i h
    subst h
    split
    · rename_i hl
      rw [List.getD_eq_getElem?_getD, List.getElem?_eq_getElem hl]
      rfl
    · rename_i hl
      rw [List.getElem?_eq_none (by omega)]
  · rfl

theorem killSlot_sound {E S vs w φ bs hand} (hs : SR E S vs w φ bs hand) (t : Nat) : ∃ bs', SR E (killSlot S t) vs w φ bs' hand := by
  unfold killSlot
  split
  · have h : put true S (some t) .dead = some ((killRoot t S).set t .dead) := by simp [put, mapTV]
    obtain ⟨bs', k⟩ := put_sound (bt := []) (tv := .dead) (v := vs.getD t undef) hs rfl trivial h
    dsimp only at k
    rw [set_self] at k
    exact ⟨bs', k⟩
  · rename_i hr
    have h : put false S (some t) .dead = some (S.set t .dead) := by simp [put, hr]
    obtain ⟨bs', k⟩ := put_sound (bt := []) (tv := .dead) (v := vs.getD t undef) hs rfl trivial h
    dsimp only at k
    rw [set_self] at k
    exact ⟨bs', k⟩

theorem killSlots_sound {E vs w φ hand} : ∀ {ts S bs}, SR E S vs w φ bs hand → ∃ bs', SR E (killSlots S ts) vs w φ bs' hand := by
  intro ts
  induction ts with
  | nil => intro S bs h; exact ⟨bs, h⟩
  | cons t ts ih =>
    intro S bs h
    obtain ⟨b, k⟩ := killSlot_sound h t
    exact ih k

/-! ### Arguments -/
def ArgsR (w : World) (φ : Nat → Nat) : List Bool → List (List PV) → List Value → Prop
  | [], [], [] => True
  | b :: bs, ps :: as, v :: vs => (∃ us, (if b = true then v = .agg us.toArray else us = [v]) ∧ RdL w (okB φ) ps us) ∧ ArgsR w φ bs as vs
  | _, _, _ => False

def env0 (w : World) (φ : Nat → Nat) : Env := ⟨w, φ, []⟩

theorem okO_env0 {w : World} {φ : Nat → Nat} {g k : Nat} {u : Value} (h : okB φ g k) (hc : w.cell? ⟨g, k, none⟩ = some u) : (env0 w φ).okO g k :=
  ⟨World.block_lt_of_cell? w ⟨g, k, none⟩ hc, by simp [env0], h⟩

theorem old_cell {w φ p v} (h : RdL w (okB φ) [p] [v]) : CellR (env0 w φ) w φ (.val (borL .old p) p) v [] := by
  unfold borL
  by_cases hf : p.flat = true
  · rw [if_pos hf]
    exact (RdL.flat_ h hf w (okB φ) φ).2
  · rw [if_neg hf]
    exact ⟨h.mono fun g k u h1 h2 => ⟨okO_env0 h1 h2, h2⟩, rfl⟩

theorem old_cells {w φ} : ∀ {ps us}, RdL w (okB φ) ps us → CellsR (env0 w φ) w φ (ps.map fun p => .val (borL .old p) p) us [] := by
  intro ps
  induction ps with
  | nil => intro us h; cases h; exact ⟨rfl, rfl⟩
  | cons p ps ih =>
    intro us h
    cases us with
    | nil => cases h
    | cons u us =>
      obtain ⟨h1, h2⟩ := RdL.cons_iff.1 h
      exact ⟨u, us, [], [], rfl, rfl, old_cell h1, ih h2⟩

theorem parTV_sound {w φ b ps v tv} (h : parTV b ps = some tv) (ha : ∃ us, (if b = true then v = .agg us.toArray else us = [v]) ∧ RdL w (okB φ) ps us) :
    TVR (env0 w φ) w φ tv v [] ∧ ∀ S vs, ViewTV S vs w φ tv v := by
  obtain ⟨us, hv, hr⟩ := ha
  cases b with
  | true =>
    simp only [if_true] at hv
    simp only [parTV, if_true, Option.some.injEq] at h
    subst h; subst hv
    refine ⟨⟨_, rfl, by simpa using old_cells hr⟩, fun S vs arr e i c u a b => ?_⟩
    rw [List.getElem?_map] at a
    cases hp : ps[i]? with
    | none => rw [hp] at a; cases a
    | some p => rw [hp] at a; simp only [Option.map_some, Option.some.injEq] at a; subst a; trivial
  | false =>
    simp only [parTV] at h
    rw [if_neg (by simp)] at hv
    subst hv
    cases ps with
    | nil => simp at h
    | cons p ps =>
      cases ps with
      | cons _ _ => simp at h
      | nil =>
        simp at h
        subst h
        exact ⟨old_cell hr, fun S vs => trivial⟩

theorem parTVs_sound {w φ} : ∀ {bs as vs l}, parTVs bs as = some l → ArgsR w φ bs as vs → TVsR (env0 w φ) w φ l vs [] ∧ ∀ (i : Nat) tv v, l[i]? = some tv → vs[i]? = some v → ∀ S vs', ViewTV S vs' w φ tv v := by
  intro bs
  induction bs with
  | nil =>
    intro as vs l h ha
    cases as with
    | nil =>
      simp [parTVs] at h
      subst h
      cases vs with
      | nil => exact ⟨⟨rfl, rfl⟩, fun i tv v a => by simp at a⟩
      | cons _ _ => cases ha
    | cons _ _ => cases h
  | cons b bs ih =>
    intro as vs l h ha
    cases as with
    | nil => cases h
    | cons a as =>
      cases vs with
      | nil => cases ha
      | cons v vs =>
        simp only [parTVs] at h
        cases hp : parTV b a with
        | none => rw [hp] at h; cases h
        | some tv =>
          rw [hp] at h
          simp only [Option.bind_some] at h
          cases hq : parTVs bs as with
          | none => rw [hq] at h; cases h
          | some l' =>
            rw [hq] at h
            simp only [Option.map_some, Option.some.injEq] at h
            subst h
            obtain ⟨h1, h2⟩ := parTV_sound hp ha.1
            obtain ⟨h3, h4⟩ := ih hq ha.2
            refine ⟨⟨v, vs, [], [], rfl, rfl, h1, h3⟩, fun i t u a b => ?_⟩
            cases i with
            | zero => simp at a b; subst a; subst b; exact h2
            | succ i => exact h4 i t u (by simpa using a) (by simpa using b)

theorem undefs {E w φ} (n : Nat) : TVsR E w φ (List.replicate n .undef) (List.replicate n undef) [] := by
  induction n with
  | zero => exact ⟨rfl, rfl⟩
  | succ n ih => exact ⟨undef, List.replicate n undef, [], [], rfl, rfl, ⟨rfl, rfl⟩, ih⟩

theorem TVsR.append_ {E w φ} : ∀ {S : St} {vs bs T us cs}, TVsR E w φ S vs bs → TVsR E w φ T us cs → TVsR E w φ (S ++ T) (vs ++ us) (bs ++ cs) := by
  intro S
  induction S with
  | nil => intro vs bs T us cs h k; obtain ⟨rfl, rfl⟩ := h; exact k
  | cons c S ih =>
    intro vs bs T us cs h k
    obtain ⟨v, vs', b1, b2, rfl, rfl, h1, h2⟩ := h
    exact ⟨v, vs' ++ us, b1, b2 ++ cs, rfl, by simp, h1, ih h2 k⟩

theorem entry_sound {w φ fd args vals S} (h : entry fd args = some S) (ha : ArgsR w φ fd.params args vals) :
    vals.length ≤ fd.ntmps ∧ SR (env0 w φ) S (vals ++ List.replicate (fd.ntmps - vals.length) undef) w φ [] [] := by
  unfold entry at h
  cases hp : parTVs fd.params args with
  | none => rw [hp] at h; cases h
  | some l =>
    rw [hp] at h
    simp only [Option.bind_some] at h
    split at h
    case isFalse => cases h
    rename_i hle
    injection h with h
    subst h
    obtain ⟨h1, h2⟩ := parTVs_sound hp ha
    have hl : l.length = vals.length := h1.length
    refine ⟨by omega, ?_, fun g => by simp, fun g hg => by simp at hg, fun t v hv => ?_, Nat.le_refl _, fun g _ _ => ⟨rfl, rfl⟩, rfl, rfl, rfl⟩
    · rw [hl]
      simpa using h1.append_ (undefs (fd.ntmps - vals.length))
    · by_cases ht : t < vals.length
      · have hg : St.g (l ++ List.replicate (fd.ntmps - l.length) .undef) t = l[t]'(by omega) := by
          unfold St.g
          rw [List.getD_eq_getElem?_getD, List.getElem?_append_left (by omega), List.getElem?_eq_getElem (by omega)]
          rfl
        rw [hg]
        rw [List.getElem?_append_left ht] at hv
        exact h2 t _ v (List.getElem?_eq_getElem (by omega)) hv _ _
      · have hg : St.g (l ++ List.replicate (fd.ntmps - l.length) .undef) t = .undef := by
          unfold St.g
          have hlt := (List.getElem?_eq_some_iff.1 hv).1
          simp at hlt
          rw [List.getD_eq_getElem?_getD, List.getElem?_append_right (by omega), List.getElem?_replicate, if_pos (by omega)]
          rfl
        rw [hg]
        trivial

/-! ### Results -/
theorem resCell_sound {E S vs w φ bs hand want l p v b} (hs : SR E S vs w φ bs hand) (h : CellR E w φ (.val l p) v b) (hok : okRes want l p = true) :
    ∃ b', (∀ E' : Env, CellR E' w φ (resCell want p) v b') ∧ ∀ g, b'.count g ≤ b.count g := by
  unfold resCell resLev
  have hrd := CellR.reads hs.hO h
  by_cases hf : p.flat = true
  · rw [if_pos hf]
    exact ⟨[], fun E' => (RdL.flat_ hrd hf w (okB φ) φ).2, fun g => by simp⟩
  · rw [if_neg hf]
    simp only [okRes, hf, Bool.false_or, Bool.or_eq_true, Bool.and_eq_true, beq_iff_eq] at hok
    rcases hok with (rfl | ⟨rfl, rfl⟩) | ⟨rfl, hl⟩
    · exact ⟨[], fun E' => ⟨hrd, rfl⟩, fun g => by simp⟩
    · exact ⟨b, fun E' => h, fun g => Nat.le_refl _⟩
    · cases p with
      | int _ _ => simp [PV.flat] at hf
      | bool _ => simp [PV.flat] at hf
      | str _ => simp [PV.flat] at hf
      | sl sz xs =>
        have h' := (ownS_iff hl).1 h
        have hok : okBase .borR l xs = true := by cases l <;> first | rfl | cases hl
        obtain ⟨b', k1, k2⟩ := OwnS.relev hs.hO hok h'
        exact ⟨b', fun E' => (ownS_iff rfl).2 k1, k2⟩

theorem outCells_sound {E S vs w φ bs hand want} (hs : SR E S vs w φ bs hand) : ∀ {cs us b ps}, CellsR E w φ cs us b → outCells want cs = some ps →
    ∃ b', (∀ E' : Env, CellsR E' w φ (ps.map (resCell want)) us b') ∧ ∀ g, b'.count g ≤ b.count g := by
  intro cs
  induction cs with
  | nil => intro us b ps h ho; simp [outCells] at ho; subst ho; exact ⟨[], fun E' => ⟨h.1, rfl⟩, fun g => by simp⟩
  | cons c cs ih =>
    intro us b ps h ho
    obtain ⟨u, us', b1, b2, rfl, rfl, hc, h⟩ := h
    simp only [outCells] at ho
    cases hp : outCell want c with
    | none => rw [hp] at ho; cases ho
    | some p =>
      rw [hp] at ho
      simp only [Option.bind_some] at ho
      cases hq : outCells want cs with
      | none => rw [hq] at ho; cases ho
      | some ps' =>
        rw [hq] at ho
        simp only [Option.map_some, Option.some.injEq] at ho
        subst ho
        obtain ⟨b2', k1, k2⟩ := ih h hq
        cases c with
        | val l p' =>
          simp only [outCell] at hp
          split at hp
          case isFalse => cases hp
          rename_i hok
          injection hp with hp
          subst hp
          obtain ⟨b1', m1, m2⟩ := resCell_sound hs hc hok
          refine ⟨b1' ++ b2', fun E' => ⟨u, us', b1', b2', rfl, rfl, m1 E', k1 E'⟩, fun g => ?_⟩
          have := m2 g; have := k2 g
          simp only [List.count_append]; omega
        | view r c path => cases hp
        | dead => cases hp

theorem outCells_len {want} : ∀ {cs ps}, outCells want cs = some ps → ps.length = cs.length := by
  intro cs
  induction cs with
  | nil => intro ps h; simp [outCells] at h; subst h; rfl
  | cons c cs ih =>
    intro ps h
    simp only [outCells] at h
    cases hp : outCell want c with
    | none => rw [hp] at h; cases h
    | some p =>
      rw [hp] at h
      simp only [Option.bind_some] at h
      cases hq : outCells want cs with
      | none => rw [hq] at h; cases h
      | some ps' =>
        rw [hq] at h
        simp only [Option.map_some, Option.some.injEq] at h
        subst h
        simp [ih hq]

end Go.Proofs.Ytkiliooegoldoaa

/- What a function hands back. -/
set_option linter.unusedVariables false
set_option linter.unusedSimpArgs false
namespace Go.Proofs.Ytkiliooegoldoaa
open Go

def chkRes (P : Program) : ResultVar → Nat × Option Nat → Bool × Lev → Bool
  | .tmp t, (t', none), _ => t == t'
  | .cell a ty, (t', some n), k => a == t' && widthOk P (if k.1 then some n else none) ty
  | _, _, _ => false

def resOne (tmps : Array Value) : ResultVar → Sem Value
  | .tmp t => pure (tmps.getD t undef)
  | .cell a t => do loadVar t (← asAddr (tmps.getD a undef))

theorem results_eq (fn : Func) (tmps : Array Value) : results fn tmps = (do
    let vs ← fn.results.toList.mapM (resOne tmps)
    pure (if h : vs.length = 1 then vs[0] else .tuple vs.toArray)) := by
  unfold results
  rw [Array.mapM_eq_mapM_toList]
  simp only [map_eq_pure_bind, bind_assoc, pure_bind]
  refine congr (congrArg bind (congrFun (congrArg List.mapM ?_) fn.results.toList)) rfl
  funext x
  cases x <;> rfl

theorem outTV_sound {P : Program} {E S w φ bs hand} {tmps : Array Value} {rv r k ps} (hs : SR E S tmps.toList w φ bs hand) (hc : chkRes P rv r k = true) (h : outTV S r k = some ps) :
    ∃ v0 v us, tmps.toList[r.1]? = some v0 ∧ (resOne tmps rv).run P w = .ok v w ∧ (if k.1 = true then v = .agg us.toArray else us = [v]) ∧ (k.1 = true ∨ ps.length = 1) ∧
      ∀ bt, TVR E w φ (S.g r.1) v0 bt → ∃ b', (∀ E' : Env, CellsR E' w φ (ps.map (resCell k.2)) us b') ∧ ∀ g, b'.count g ≤ bt.count g := by
  obtain ⟨t, n⟩ := r
  obtain ⟨ag, want⟩ := k
  unfold outTV at h
  dsimp only at h ⊢
  have hgetD : ∀ (t : Nat) v0, tmps.toList[t]? = some v0 → tmps.getD t undef = v0 := by
    intro t v0 h0
    rw [Array.getElem?_toList] at h0
    simp [h0]
  split at h
  · -- one
    rename_i c hS
    split at h
    case isTrue => cases h
    rename_i hag
    simp at hag
    subst hag
    obtain ⟨v0, hv0⟩ := hs.lt (t := t) (by rw [hS]; simp)
    cases rv with
    | cell a ty => simp [chkRes] at hc
    | tmp t' =>
      simp [chkRes] at hc
      subst hc
      refine ⟨v0, v0, [v0], hv0, by simp [resOne, hgetD _ _ hv0], rfl, .inr (by simpa using outCells_len h), fun bt hbt => ?_⟩
      rw [hS] at hbt
      exact outCells_sound hs (cs := [c]) ⟨v0, [], bt, [], rfl, by simp, hbt, rfl, rfl⟩ h
  · rename_i cs hS
    split at h
    case isFalse => cases h
    rename_i hag
    subst hag
    obtain ⟨v0, hv0⟩ := hs.lt (t := t) (by rw [hS]; simp)
    cases rv with
    | cell a ty => simp [chkRes] at hc
    | tmp t' =>
      simp [chkRes] at hc
      subst hc
      obtain ⟨bt0, h1, _⟩ := hs.slot hv0
      rw [hS] at h1
      obtain ⟨arr, e, h1⟩ := h1
      refine ⟨v0, v0, arr.toList, hv0, by simp [resOne, hgetD _ _ hv0], by simpa using e, .inl rfl, fun bt hbt => ?_⟩
      rw [hS] at hbt
      obtain ⟨arr', e', hbt⟩ := hbt
      rw [e] at e'
      injection e' with e'
      subst e'
      exact outCells_sound hs hbt h
  · rename_i m cs hS
    split at h
    case isFalse => cases h
    rename_i hcond
    obtain ⟨hlen, hag⟩ := hcond
    obtain ⟨v0, hv0⟩ := hs.lt (t := t) (by rw [hS]; simp)
    cases rv with
    | tmp t' => simp [chkRes] at hc
    | cell a ty =>
      simp only [chkRes, Bool.and_eq_true, beq_iff_eq] at hc
      obtain ⟨rfl, hw⟩ := hc
      obtain ⟨bt0, h1, _⟩ := hs.slot hv0
      rw [hS] at h1
      obtain ⟨g, arr, e, b1, ev, hg, hφ, hcs, _⟩ := h1
      have hl := hcs.length
      simp at hl
      obtain ⟨dt, i, k1, k2, k3⟩ := widthOk_ P hw
      have hcell : ∀ (k : Nat) u, arr.toList[k]? = some u → w.cell? ⟨g, 0 + k, none⟩ = some u := by
        intro k u hk
        rw [Nat.zero_add, cell_of_heap hg]
        simpa using hk
      have fin : ∀ bt, TVR E w φ (S.g a) v0 bt → ∃ b', (∀ E' : Env, CellsR E' w φ (ps.map (resCell want)) arr.toList b') ∧ ∀ g, b'.count g ≤ bt.count g := by
        intro bt hbt
        rw [hS] at hbt
        obtain ⟨g', arr', e', b1', ev', hg', _, hcs', rfl⟩ := hbt
        rw [ev] at ev'
        injection ev' with ev'
        simp at ev'
        subst ev'
        rw [hg] at hg'
        simp at hg'
        obtain ⟨rfl, rfl⟩ := hg'
        obtain ⟨b', m1, m2⟩ := outCells_sound hs hcs' h
        exact ⟨b', m1, fun x => by have := m2 x; simp [List.count_cons]; omega⟩
      cases ag with
      | true =>
        simp only [if_true] at k3
        have hrun := r_loadAgg (P := P) (w := w) (g := g) (o := 0) (us := arr.toList) k1 k3.1 k2 (by simp; omega) hcell
        refine ⟨v0, .agg arr, arr.toList, hv0, ?_, by simp, .inl rfl, fin⟩
        simp only [resOne, hgetD _ _ hv0, ev]
        simpa [Instr.loadAt, Instr.sureAddr, asAddr] using hrun
      | false =>
        simp only [Bool.false_eq_true, if_false, false_or] at k3 hag
        subst hag
        have h1 : cs.length = 1 := hlen
        obtain ⟨u, hu⟩ : ∃ u, arr.toList = [u] := by
          have hl2 : arr.toList.length = 1 := by rw [Array.length_toList]; omega
          match hA : arr.toList with
          | [] => rw [hA] at hl2; cases hl2
          | [u] => exact ⟨u, rfl⟩
          | _ :: _ :: _ => rw [hA] at hl2; simp at hl2
        have hrun := r_loadOne (P := P) (w := w) (g := g) (o := 0) k1 k3 (hcell 0 u (by simp [hu]))
        refine ⟨v0, u, [u], hv0, ?_, rfl, .inr (by rw [outCells_len h]; exact h1), ?_⟩
        · simp only [resOne, hgetD _ _ hv0, ev]
          simpa [Instr.loadAt, Instr.sureAddr, asAddr] using hrun
        · rw [hu] at fin
          exact fin
  · cases h

def chkRess (P : Program) : List ResultVar → List (Nat × Option Nat) → List (Bool × Lev) → Bool
  | [], [], [] => true
  | v :: vs, r :: rs, k :: ks => chkRes P v r k && !(rs.map (·.1)).elem r.1 && chkRess P vs rs ks
  | _, _, _ => false

theorem outTV_congr {S T : St} {r k} (h : T.g r.1 = S.g r.1) : outTV T r k = outTV S r k := by
  unfold outTV; rw [h]

theorem outs_sound {P : Program} {E S w φ bs hand} {tmps : Array Value} (hs : SR E S tmps.toList w φ bs hand) : ∀ {rvs rs ks pss} {T : St} {bT}, TVsR E w φ T tmps.toList bT → (∀ r ∈ rs, T.g r.1 = S.g r.1) →
    chkRess P rvs rs ks = true → outs S rs ks = some pss →
    ∃ vs b', (rvs.mapM (resOne tmps)).run P w = .ok vs w ∧ (∀ g, b'.count g ≤ bT.count g) ∧ ∀ tup, resTup ks pss = some tup → ∀ E' : Env, TupR E' w φ tup vs b' := by
  intro rvs
  induction rvs with
  | nil =>
    intro rs ks pss T bT hT hag hc ho
    cases rs <;> cases ks <;> simp [chkRess] at hc
    simp [outs] at ho
    subst ho
    exact ⟨[], [], by simp, fun g => by simp, fun tup ht E' => by simp [resTup] at ht; subst ht; exact ⟨rfl, rfl⟩⟩
  | cons rv rvs ih =>
    intro rs ks pss T bT hT hag hc ho
    cases rs with
    | nil => simp [chkRess] at hc
    | cons r rs =>
      cases ks with
      | nil => simp [chkRess] at hc
      | cons k ks =>
        simp only [chkRess, Bool.and_eq_true, Bool.not_eq_true'] at hc
        obtain ⟨⟨hc1, hnd⟩, hc2⟩ := hc
        simp only [outs] at ho
        cases hp : outTV S r k with
        | none => rw [hp] at ho; cases ho
        | some ps =>
          rw [hp] at ho
          simp only [Option.bind_some] at ho
          cases hq : outs S rs ks with
          | none => rw [hq] at ho; cases ho
          | some pss' =>
            rw [hq] at ho
            simp only [Option.map_some, Option.some.injEq] at ho
            subst ho
            obtain ⟨v0, v, us, hv0, hrun, hv, hlen, hcells⟩ := outTV_sound hs hc1 hp
            obtain ⟨bt, br, h1, h2, h3⟩ := hT.get hv0
            rw [hag r (by simp)] at h1
            obtain ⟨b1, m1, m2⟩ := hcells bt h1
            obtain ⟨bT', q1, q2⟩ := h3 .dead v0 [] rfl
            rw [set_get_same _ _ hv0] at q1
            have hag' : ∀ r' ∈ rs, St.g (T.set r.1 .dead) r'.1 = S.g r'.1 := by
              intro r' hr'
              rw [g_set, if_neg, hag r' (by simp [hr'])]
              rintro ⟨e, _⟩
              have : (rs.map (·.1)).elem r.1 = true := by
                rw [elem_iff, ← e]
                exact List.mem_map_of_mem hr'
              rw [this] at hnd
              cases hnd
            obtain ⟨vs, b2, n1, n2, n3⟩ := ih q1 hag' hc2 hq
            refine ⟨v :: vs, b1 ++ b2, ?_, fun g => ?_, fun tup ht E' => ?_⟩
            · simp only [List.mapM_cons]
              simp [hrun, n1]
            · have := h2 g; have := m2 g; have := q2 g; have := n2 g
              simp only [List.count_append]
              have e0 : List.count g ([] : List Nat) = 0 := rfl
              omega
            · simp only [resTup] at ht
              split at ht
              case isFalse => cases ht
              cases hr : resTup ks pss' with
              | none => rw [hr] at ht; cases ht
              | some tup' =>
                rw [hr] at ht
                simp only [Option.map_some, Option.some.injEq] at ht
                subst ht
                refine ⟨v, vs, b1, b2, rfl, rfl, ?_, n3 tup' hr E'⟩
                dsimp only
                by_cases hk : k.1 = true
                · rw [if_pos hk] at hv ⊢
                  exact ⟨us.toArray, hv, by simpa using m1 E'⟩
                · rw [if_neg hk] at hv ⊢
                  rw [← hv]
                  exact m1 E'

end Go.Proofs.Ytkiliooegoldoaa

/- Calls; code; functions: what the evaluator answers, the program answers. -/
set_option linter.unusedVariables false
set_option linter.unusedSimpArgs false
namespace Go.Proofs.Ytkiliooegoldoaa
open Go

def RetR (w w' : World) (φ' : Nat → Nat) (rk : List (Bool × Lev)) (rs : List (List PV)) (v : Value) : Prop :=
  ∀ tv, resAll rk rs = some tv → ∃ bs : List Nat, (∀ E : Env, TVR E w' φ' tv v bs) ∧ (∀ g, bs.count g ≤ 1) ∧ (∀ g ∈ bs, w.heap.size ≤ g ∧ g < w'.heap.size) ∧ ∀ S vs, ViewTV S vs w' φ' tv v

theorem noViews : ∀ {ks rs t}, resTup ks rs = some t → ∀ x ∈ t, ∀ c ∈ x.2, noView c := by
  intro ks
  induction ks with
  | nil => intro rs t h; cases rs <;> simp [resTup] at h; subst h; simp
  | cons k ks ih =>
    intro rs t h
    cases rs with
    | nil => cases h
    | cons ps rs =>
      simp only [resTup] at h
      split at h
      case isFalse => cases h
      cases hr : resTup ks rs with
      | none => rw [hr] at h; cases h
      | some t' =>
        rw [hr] at h
        simp only [Option.map_some, Option.some.injEq] at h
        subst h
        intro x hx c hc
        rcases List.mem_cons.1 hx with rfl | hx
        · obtain ⟨p, _, rfl⟩ := List.mem_map.1 hc
          trivial
        · exact ih hr x hx c hc

theorem TupR.length {E w φ} : ∀ {S : List (Bool × List Cell)} {vs bs}, TupR E w φ S vs bs → S.length = vs.length := by
  intro S
  induction S with
  | nil => intro vs bs h; obtain ⟨rfl, _⟩ := h; rfl
  | cons c cs ih => intro vs bs h; obtain ⟨v, vs', b1, b2, rfl, rfl, _, h⟩ := h; simp [ih h]

theorem noView_C {S vs w φ c v} (h : noView c) : ViewC S vs w φ c v := by
  cases c with
  | view r c path => cases h
  | _ => trivial

theorem exit_sound {P : Program} {fn : Func} {S w φ w' φ' bs rs rk rss} {tmps : Array Value} (hs : SR (env0 w φ) S tmps.toList w' φ' bs []) (hc : chkRess P fn.results.toList rs rk = true) (ho : outs S rs rk = some rss) :
    Gr w w' φ φ' ∧ ∃ v, (results fn tmps).run P w' = .ok v w' ∧ RetR w w' φ' rk rss v := by
  refine ⟨⟨fun g hg => hs.same g hg (by simp [env0]), hs.size, hs.os⟩, ?_⟩
  obtain ⟨vs, b, h1, h2, h3⟩ := outs_sound hs hs.tvs (fun r _ => rfl) hc ho
  refine ⟨if h : vs.length = 1 then vs[0] else .tuple vs.toArray, by rw [results_eq]; simp [h1], fun tv htv => ⟨b, ?_⟩⟩
  have hb1 : ∀ g, b.count g ≤ 1 := fun g => by have := h2 g; have := hs.cnt g; omega
  have hb2 : ∀ g ∈ b, w.heap.size ≤ g ∧ g < w'.heap.size := fun g hg => by
    have hm : g ∈ bs := mem_of_count (by have := h2 g; have := List.count_pos_iff.2 hg; omega)
    obtain ⟨k1, k2⟩ := hs.own g (.inl hm)
    exact ⟨k2.elim id (fun k => by simp [env0] at k), k1⟩
  unfold resAll at htv
  cases ht : resTup rk rss with
  | none => rw [ht] at htv; cases htv
  | some t =>
    rw [ht] at htv
    simp only [Option.bind_some] at htv
    have hT := h3 t ht
    have hlen := (hT (env0 w φ)).length
    have hnv := noViews ht
    split at htv
    · rename_i x
      have hl1 : vs.length = 1 := by simpa using hlen.symm
      obtain ⟨v, rfl⟩ : ∃ v, vs = [v] := by
        match vs, hl1 with
        | [v], _ => exact ⟨v, rfl⟩
      simp only [List.length_singleton, dite_true, List.getElem_cons_zero]
      have hone : ∀ E : Env, (if x.1 = true then ∃ arr, v = .agg arr ∧ CellsR E w' φ' x.2 arr.toList b else CellsR E w' φ' x.2 [v] b) := by
        intro E
        obtain ⟨v', vs', b1, b2, e1, e2, h, h', h''⟩ := hT E
        injection e1 with e1 e3
        subst e1
        subst h''
        rw [List.append_nil] at e2
        subst e2
        exact h
      refine ⟨fun E => ?_, hb1, hb2, ?_⟩
      · have h := hone E
        unfold TV.ofCells at htv
        by_cases hx : x.1 = true
        · rw [if_pos hx] at h htv
          injection htv with htv
          subst htv
          exact h
        · rw [if_neg hx] at h htv
          split at htv
          · rename_i c hc
            injection htv with htv
            subst htv
            rw [hc] at h
            obtain ⟨v', vs', b1, b2, e1, e2, h, h'⟩ := h
            injection e1 with e1 e3
            subst e1; subst e3
            obtain ⟨_, rfl⟩ := h'
            rw [List.append_nil] at e2
            subst e2
            exact h
          · cases htv
      · intro S' vs'
        unfold TV.ofCells at htv
        by_cases hx : x.1 = true
        · rw [if_pos hx] at htv
          injection htv with htv
          subst htv
          exact fun arr e i c u a _ => noView_C (hnv x (by simp) c (List.mem_of_getElem? a))
        · rw [if_neg hx] at htv
          split at htv
          · rename_i c hc
            injection htv with htv
            subst htv
            exact noView_C (hnv x (by simp) c (by simp [hc]))
          · cases htv
    · rename_i hne
      injection htv with htv
      subst htv
      have hl1 : vs.length ≠ 1 := by
        intro hl
        rw [hl] at hlen
        match t, hlen with
        | [x], _ => exact hne x rfl
      rw [dif_neg hl1]
      exact ⟨fun E => ⟨vs.toArray, rfl, by simpa using hT E⟩, hb1, hb2, fun S' vs' x hx c hc => hnv x hx c hc⟩

/-! ### Calls -/
def FnSem (P : Program) (f : FuncId) (fd : AFunc) (args rs : List (List PV)) : Prop :=
  ∀ w φ (vals : Array Value), ArgsR w φ fd.params args vals.toList →
    Calls P f vals w fun e w' => ∃ v, e = .returned v ∧ ∃ φ', Gr w w' φ φ' ∧ RetR w w' φ' fd.rk rs v

theorem reads_cells {E S vs w φ bs hand} (hs : SR E S vs w φ bs hand) : ∀ {l : List (Lev × PV)} {us b}, CellsR E w φ (l.map valCell) us b → RdL w (okB φ) (l.map (·.2)) us := by
  intro l
  induction l with
  | nil => intro us b h; obtain ⟨rfl, _⟩ := h; exact .nil
  | cons x l ih =>
    intro us b h
    obtain ⟨u, us', b1, b2, rfl, rfl, hc, h⟩ := h
    exact RdL.cons_iff.2 ⟨CellR.reads hs.hO hc, ih h⟩

def chkArgs : List Operand → List AOpnd → Bool
  | [], [] => true
  | x :: xs, y :: ys => chkO x y && chkArgs xs ys
  | _, _ => false

theorem args_sound {E S vs w φ bs hand} {ρ : Operand → Value} (hs : SR E S vs w φ bs hand) (hρ : RhoR ρ vs) : ∀ {xs : List Operand} {as : List AOpnd} {args}, chkArgs xs as = true → argsOf S as = some args →
    ArgsR w φ (args.map (·.1)) (args.map (·.2)) (xs.map ρ) := by
  intro xs
  induction xs with
  | nil =>
    intro as args hc h
    cases as with
    | nil => simp [argsOf] at h; subst h; trivial
    | cons _ _ => cases hc
  | cons x xs ih =>
    intro as args hc h
    cases as with
    | nil => cases hc
    | cons a as =>
      simp only [chkArgs, Bool.and_eq_true] at hc
      simp only [argsOf] at h
      cases hb : bAny S a with
      | none => rw [hb] at h; cases h
      | some l =>
        rw [hb] at h
        simp only [Option.bind_some] at h
        cases hq : argsOf S as with
        | none => rw [hq] at h; cases h
        | some args' =>
          rw [hq] at h
          simp only [Option.map_some, Option.some.injEq] at h
          subst h
          obtain ⟨us, h1, h2⟩ := bAny_sound hs (hρ x a hc.1) (agg := l.1) (l := l.2) (by rw [hb])
          exact ⟨⟨us, h1, reads_cells hs h2⟩, ih hc.2 hq⟩

def cCall (f : FuncId) (as : List AOpnd) : Op → Bool
  | .call { callee := .value (.func f'), args := xs, argTypes := _ } => f' == f && chkArgs xs.toList as
  | _ => false

theorem eval_rho (a : Act) : RhoR a.eval a.tmps.toList := by
  intro x y h
  unfold chkO at h
  split at h
  · simp at h
    subst h
    show a.tmps.getD _ undef = _
    simp
  · exact chkConst_sound h
  · cases h

def chkGuard (ops : Array Oper) (g : Option (Nat × Bool)) (h : Option (Nat × Bool)) : Bool :=
  match g, h with
  | none, none => true
  | some (j, b), some (t, c) => b == c && (match ops[j]? with
    | some o => match o.dst with
      | some d => d == t
      | none => false
    | none => false)
  | _, _ => false

theorem guard_sound {E S w φ bs hand} {ops : Array Oper} {o : Oper} {tmps : Array Value} {gd b} (hs : SR E S tmps.toList w φ bs hand) (hc : chkGuard ops o.guard gd = true) (h : guardOf S gd = some b) : Region.wanted o (yielded ops tmps) = b := by
  unfold chkGuard at hc
  split at hc
  · rename_i hg
    simp only [guardOf, Option.some.injEq] at h
    subst h
    simp [Region.wanted, hg]
  · rename_i j b' t c hg
    simp only [Bool.and_eq_true, beq_iff_eq] at hc
    obtain ⟨rfl, hc⟩ := hc
    split at hc
    case h_2 => cases hc
    rename_i oj hoj
    split at hc
    case h_2 => cases hc
    rename_i d hd
    simp only [beq_iff_eq] at hc
    subst hc
    simp only [Region.wanted, hg, yielded, hoj, Option.bind_some, hd]
    simp only [guardOf] at h
    split at h
    · rename_i l x hS
      injection h with h
      obtain ⟨v, hv⟩ := hs.lt (t := d) (by rw [hS]; simp)
      obtain ⟨bt, h1, _⟩ := hs.slot hv
      rw [hS] at h1
      have := CellR.flat h1 rfl
      subst this
      rw [Array.getElem?_toList] at hv
      rw [hv]
      simp only [PV.toV]
      rw [← h]
      cases x <;> cases b' <;> rfl
    · rename_i hS
      injection h with h
      obtain ⟨v, hv⟩ := hs.lt (t := d) (by rw [hS]; simp)
      obtain ⟨bt, h1, _⟩ := hs.slot hv
      rw [hS] at h1
      obtain ⟨_, rfl⟩ := h1
      rw [Array.getElem?_toList] at hv
      rw [hv]
      simp only [undef]
      rw [← h]
      rfl
    · cases h
  · cases hc

section
variable {P : Program} (num : Nat → FuncId)

def chkAO (P : Program) (ops : Array Oper) (a : AO) (o : Oper) : Bool :=
  o.dst == a.dst && chkGuard ops o.guard a.guard && (match a.op with
    | .call k as => cCall (num k) as o.op
    | op => chkOp P op o.op)

def OneSem (P : Program) (ops : Array Oper) (o : Oper) (S S' : St) : Prop :=
  ∀ i E w φ bs a (K : Act → World → Prop) Q, ops[i]? = some o → SR E S a.tmps.toList w φ bs [] → a.defers = [] →
    (∀ a' w' φ' bs', SR E S' a'.tmps.toList w' φ' bs' [] → a'.defers = [] → K a' w') → wpOp P ops Q i K a w

theorem put_toList (a : Act) (d : Option Tmp) (v : Value) : (a.put d v).tmps.toList = upd a.tmps.toList d v ∧ (a.put d v).defers = a.defers := by
  cases d <;> simp [Act.put, upd]

theorem one_op {ops : Array Oper} {ao : AO} {o : Oper} {S S' : St} (hd : o.dst = ao.dst) (hg : chkGuard ops o.guard ao.guard = true) (hc : chkOp P ao.op o.op = true)
    (h1 : guardOf S ao.guard = some true) (h2 : step S ao.dst ao.op = some S') : OneSem P ops o S S' := by
  intro i E w φ bs a K Q hi hs hdef hK
  unfold wpOp
  simp only [hi]
  rw [if_pos (guard_sound hs hg h1)]
  refine .inl ?_
  obtain ⟨v, w', hr, φ', bs', hs'⟩ := op_sound hc hs (eval_rho a) h2
  obtain ⟨e1, e2⟩ := put_toList a o.dst v
  have hfin : K (a.put o.dst v) w' := hK _ w' φ' bs' (by rw [e1, hd]; exact hs') (by rw [e2]; exact hdef)
  unfold Oper.wp
  rcases hr with hr | ⟨hr, rfl⟩
  · rw [hr]; exact hfin
  · rw [hr]; exact hfin

theorem one_not {ops : Array Oper} {ao : AO} {o : Oper} {S S' : St} (hd : o.dst = ao.dst) (hg : chkGuard ops o.guard ao.guard = true)
    (h1 : guardOf S ao.guard = some false) (h2 : put false S ao.dst .undef = some S') : OneSem P ops o S S' := by
  intro i E w φ bs a K Q hi hs hdef hK
  unfold wpOp
  simp only [hi]
  rw [if_neg (by rw [guard_sound hs hg h1]; simp)]
  obtain ⟨bs', hs'⟩ := done_put (bt := []) (tv := .undef) (v := undef) hs ⟨rfl, rfl⟩ trivial h2
  obtain ⟨e1, e2⟩ := put_toList a o.dst undef
  exact hK _ w φ bs' (by rw [e1, hd]; exact hs') (by rw [e2]; exact hdef)

theorem one_call {ops : Array Oper} {ao : AO} {o : Oper} {S S' : St} {f : FuncId} {fn : Func} {c : Code} {fd : AFunc} {as args rs tv} (hd : o.dst = ao.dst) (hg : chkGuard ops o.guard ao.guard = true) (hc : cCall f as o.op = true)
    (hf : P.funcs[f]? = some fn) (hname : (fn.name == "runtime.NumGoroutine") = false) (hb : fn.body = some c)
    (h1 : guardOf S ao.guard = some true) (h2 : argsOf S as = some args) (h3 : args.map (·.1) = fd.params) (hsem : FnSem P f fd (args.map (·.2)) rs)
    (h4 : resAll fd.rk rs = some tv) (h5 : put false S ao.dst tv = some S') : OneSem P ops o S S' := by
  intro i E w φ bs a K Q hi hs hdef hK
  unfold wpOp
  simp only [hi]
  rw [if_pos (guard_sound hs hg h1)]
  refine .inl ?_
  unfold cCall at hc
  split at hc
  case h_2 => cases hc
  rename_i f' xs tys ho
  simp only [Bool.and_eq_true, beq_iff_eq] at hc
  obtain ⟨rfl, hc⟩ := hc
  have hrun : (execOp a.eval o).run P w = .ok (.enter f' (xs.map a.eval)) w := by
    have e : execOp a.eval o = callFunc f' (#[] ++ xs.map a.eval ++ #[]) := by
      obtain ⟨dst, op, type, pos, after, guard⟩ := o
      dsimp only at ho
      subst ho
      rfl
    rw [e]
    have h1 : fn.name ≠ "runtime.NumGoroutine" := by simpa using hname
    simp [callFunc, hf, h1, hb]
  unfold Oper.wp
  rw [hrun, Oper.upon_enter]
  have hA := args_sound hs (eval_rho a) hc h2
  rw [h3] at hA
  refine (hsem w φ (xs.map a.eval) (by simpa using hA)).mono ?_
  rintro e w' ⟨v, rfl, φ', hgr, hret⟩
  obtain ⟨bt, k1, k2, k3, k4⟩ := hret tv h4
  have hs' : SR E S a.tmps.toList w' φ' bs (bt ++ []) := hgr.sr hs (fun g => by
      rw [List.append_nil]
      by_cases hb : g ∈ bt
      · have h0 : g ∉ bs := fun hm => by have := (hs.own g (.inl hm)).1; have := (k3 g hb).1; omega
        rw [count_zero_of h0]; have := k2 g; omega
      · rw [count_zero_of hb]; have := hs.cnt g; omega)
    (fun g hg => by
      rw [List.append_nil] at hg
      have := k3 g hg
      exact ⟨this.2, .inl (Nat.le_trans hs.size this.1)⟩)
  obtain ⟨bs', hs''⟩ := done_put hs' (k1 E) (k4 S a.tmps.toList) h5
  obtain ⟨e1, e2⟩ := put_toList a o.dst v
  exact hK _ w' φ' bs' (by rw [e1, hd]; exact hs'') (by rw [e2]; exact hdef)
end

end Go.Proofs.Ytkiliooegoldoaa

/- Code and functions: what the evaluator answers, the program answers. -/
set_option linter.unusedVariables false
set_option linter.unusedSimpArgs false
namespace Go.Proofs.Ytkiliooegoldoaa
open Go

def AExit.toExit : AExit → Exit
  | .normal => .normal
  | .exit id => .exit id
  | .ret => .ret

def CodeSem (P : Program) (rc : Code) (S : St) (e : AExit) (S' : St) : Prop :=
  ∀ E w φ bs a Q, SR E S a.tmps.toList w φ bs [] → a.defers = [] →
    (∀ a' w' φ' bs', SR E S' a'.tmps.toList w' φ' bs' [] → a'.defers = [] → Q e.toExit a' w') → rc.wp P Q a w

def OpsSem (P : Program) (ops : Array Oper) (is : List Nat) (S S' : St) : Prop :=
  ∀ E w φ bs a Q, SR E S a.tmps.toList w φ bs [] → a.defers = [] →
    (∀ a' w' φ' bs', SR E S' a'.tmps.toList w' φ' bs' [] → a'.defers = [] → Q .normal a' w') → wpOps P ops Q is a w

theorem exists_least {p : Nat → Prop} (h : ∃ n, p n) : ∃ m, p m ∧ ∀ k, p k → m ≤ k := by
  obtain ⟨n, hn⟩ := h
  induction n using Nat.strongRecOn with
  | _ n ih =>
    by_cases h : ∃ k, k < n ∧ p k
    · obtain ⟨k, hk, hp⟩ := h
      exact ih k hk hp
    · exact ⟨n, hn, fun k hk => Nat.le_of_not_lt fun hlt => h ⟨k, hlt, hk⟩⟩

open Classical in
theorem wp_loop_fuel {P : Program} {c : Code} {Q : Exit → Act → World → Prop} (G : Nat → Act → World → Prop)
    (round : ∀ n a w, G n a w → c.wp P (Exit.then (fun a' w' => ∃ m, m < n ∧ G m a' w') Q) a w) {n : Nat} {a : Act} {w : World} (h : G n a w) : (Code.loop c).wp P Q a w := by
  refine wp_loop (fun a w => ∃ n, G n a w) (fun a w => if h : ∃ n, G n a w then Classical.choose (exists_least h) else 0) ⟨n, h⟩ ?_
  intro a w hI
  have h1 := round _ a w (Classical.choose_spec (exists_least hI)).1
  refine Code.wp_mono ?_ h1
  intro e a' w' hq
  cases e with
  | normal =>
    obtain ⟨m, hm, hG⟩ := hq
    refine ⟨⟨m, hG⟩, ?_⟩
    simp only [dif_pos hI, dif_pos (⟨m, hG⟩ : ∃ n, G n a' w')]
    exact Nat.lt_of_le_of_lt ((Classical.choose_spec (exists_least (⟨m, hG⟩ : ∃ n, G n a' w'))).2 m hG) hm
  | _ => exact hq

def Rounds (P : Program) (rc : Code) : Nat → St → AExit → St → Prop
  | 0, S, e, S' => e ≠ .normal ∧ CodeSem P rc S e S'
  | n + 1, S, e, S' => ∃ S1, CodeSem P rc S .normal S1 ∧ Rounds P rc n S1 e S'

theorem rounds_sem {P : Program} {rc : Code} {n S e S'} (h : Rounds P rc n S e S') : CodeSem P (.loop rc) S e S' := by
  intro E w φ bs a Q hs hd hQ
  refine wp_loop_fuel (fun n a w => ∃ S φ bs, SR E S a.tmps.toList w φ bs [] ∧ a.defers = [] ∧ Rounds P rc n S e S') ?_ ⟨S, φ, bs, hs, hd, h⟩
  rintro n a w ⟨S, φ, bs, hs, hd, h⟩
  cases n with
  | zero =>
    refine h.2 E w φ bs a _ hs hd fun a' w' φ' bs' hs' hd' => ?_
    have := hQ a' w' φ' bs' hs' hd'
    cases e with
    | normal => exact absurd rfl h.1
    | exit id => exact this
    | ret => exact this
  | succ n =>
    obtain ⟨S1, h1, h2⟩ := h
    exact h1 E w φ bs a _ hs hd fun a' w' φ' bs' hs' hd' => ⟨n, Nat.lt_succ_self n, S1, φ', bs', hs', hd', h2⟩

theorem sem_seqN {P : Program} {x y : Code} {S S1 e S2} (h1 : CodeSem P x S .normal S1) (h2 : CodeSem P y S1 e S2) : CodeSem P (.seq x y) S e S2 := by
  intro E w φ bs a Q hs hd hQ
  exact wp_seq (h1 E w φ bs a _ hs hd fun a' w' φ' bs' hs' hd' => h2 E w' φ' bs' a' Q hs' hd' hQ)
theorem sem_seqE {P : Program} {x y : Code} {S e S1} (h1 : CodeSem P x S e S1) (hne : e ≠ .normal) : CodeSem P (.seq x y) S e S1 := by
  intro E w φ bs a Q hs hd hQ
  refine wp_seq (h1 E w φ bs a _ hs hd fun a' w' φ' bs' hs' hd' => ?_)
  have := hQ a' w' φ' bs' hs' hd'
  cases e with
  | normal => exact absurd rfl hne
  | exit id => exact this
  | ret => exact this
theorem sem_block {P : Program} {id : Nat} {x : Code} {S e S1} (h1 : CodeSem P x S e S1) : CodeSem P (.block id x) S (e.out id) S1 := by
  intro E w φ bs a Q hs hd hQ
  refine wp_block (h1 E w φ bs a _ hs hd fun a' w' φ' bs' hs' hd' => ?_)
  have := hQ a' w' φ' bs' hs' hd'
  cases e with
  | normal => exact this
  | ret => exact this
  | exit i =>
    simp only [AExit.out, AExit.toExit, Exit.inBlock] at this ⊢
    split <;> rename_i hi
    · rw [if_pos hi] at this; exact this
    · rw [if_neg hi] at this; exact this
theorem sem_cond {P : Program} {c' c} {x y : Code} {S l t e S1} (hc : chkO c' c = true) (hb : bOne S c = some (l, .bool t)) (h1 : CodeSem P (if t then x else y) S e S1) : CodeSem P (.cond c' x y) S e S1 := by
  intro E w φ bs a Q hs hd hQ
  have := (bOne_sound hs (eval_rho a _ _ hc) hb).flat rfl
  exact wp_cond (t := t) this (h1 E w φ bs a Q hs hd hQ)

def noRelev : List Pseudo → Bool
  | [] => true
  | .kill _ :: ps => noRelev ps
  | .relev .. :: _ => false
theorem pseudo_sound {E vs w φ hand} : ∀ {ps S S' bs}, noRelev ps = true → SR E S vs w φ bs hand → pseudo S ps = some S' → ∃ bs', SR E S' vs w φ bs' hand := by
  intro ps
  induction ps with
  | nil => intro S S' bs _ hs h; simp [pseudo] at h; subst h; exact ⟨bs, hs⟩
  | cons p ps ih =>
    intro S S' bs hn hs h
    cases p with
    | kill ts =>
      simp only [pseudo] at h
      obtain ⟨b1, k⟩ := killSlots_sound (ts := ts) hs
      exact ih hn k h
    | relev t c l => cases hn


end Go.Proofs.Ytkiliooegoldoaa

/- What an operation looks at and what it turns. -/
set_option linter.unusedVariables false
set_option linter.unusedSimpArgs false
namespace Go.Proofs.Ytkiliooegoldoaa
open Go

structure Agree (X : List Nat) (S T : St) : Prop where
  len : S.length = T.length
  eq : ∀ t ∈ X, S.g t = T.g t
structure Upd (W : List Nat) (S S' T T' : St) : Prop where
  lenS : S'.length = S.length
  lenT : T'.length = T.length
  on : ∀ t ∈ W, T'.g t = S'.g t
  off : ∀ t, t ∉ W → T'.g t = T.g t ∧ S'.g t = S.g t

theorem Agree.sub {X Y S T} (h : Agree X S T) (hs : ∀ t ∈ Y, t ∈ X) : Agree Y S T := ⟨h.len, fun t ht => h.eq t (hs t ht)⟩
theorem Upd.agree {X W S S' T T'} (h : Upd W S S' T T') (hA : Agree X S T) : Agree X S' T' := by
  refine ⟨by rw [h.lenS, h.lenT, hA.len], fun t ht => ?_⟩
  by_cases hw : t ∈ W
  · exact (h.on t hw).symm
  · rw [(h.off t hw).1, (h.off t hw).2]; exact hA.eq t ht
theorem Upd.trans {W V S S1 S2 T T1 T2} (h : Upd W S S1 T T1) (k : Upd V S1 S2 T1 T2) : Upd (W ++ V) S S2 T T2 := by
  refine ⟨k.lenS.trans h.lenS, k.lenT.trans h.lenT, fun t ht => ?_, fun t ht => ?_⟩
  · by_cases hv : t ∈ V
    · exact k.on t hv
    · rw [(k.off t hv).1, (k.off t hv).2]
      exact h.on t ((List.mem_append.1 ht).resolve_right hv)
  · simp only [List.mem_append, not_or] at ht
    obtain ⟨h1, h2⟩ := h.off t ht.1
    obtain ⟨k1, k2⟩ := k.off t ht.2
    exact ⟨k1.trans h1, k2.trans h2⟩
theorem Upd.wide {W V S S' T T'} (h : Upd W S S' T T') (hA : Agree V S T) (hs : ∀ t ∈ W, t ∈ V) : Upd V S S' T T' := by
  refine ⟨h.lenS, h.lenT, fun t ht => ?_, fun t ht => h.off t fun hw => ht (hs t hw)⟩
  by_cases hw : t ∈ W
  · exact h.on t hw
  · rw [(h.off t hw).1, (h.off t hw).2]; exact (hA.eq t ht).symm
theorem Upd.refl {W S T} (h : Agree W S T) : Upd W S S T T := ⟨rfl, rfl, fun t ht => (h.eq t ht).symm, fun t _ => ⟨rfl, rfl⟩⟩
theorem Upd.set_ {S T : St} {n : Nat} {v : TV} (h : S.length = T.length) : Upd [n] S (S.set n v) T (T.set n v) := by
  refine ⟨by simp, by simp, fun t ht => ?_, fun t ht => ?_⟩
  · simp at ht
    subst ht
    rw [g_set, g_set, h]
    split
    · rfl
    · rename_i hn
      simp at hn
      unfold St.g
      rw [List.getD_eq_getElem?_getD, List.getD_eq_getElem?_getD, List.getElem?_eq_none (by omega), List.getElem?_eq_none (by omega)]
  · simp at ht
    rw [g_set, g_set, if_neg (by omega), if_neg (by omega)]
    exact ⟨rfl, rfl⟩

/-! ### Reading -/
section
variable {S T : St}
theorem rootCell_congr {r c : Nat} (h : S.g r = T.g r) : rootCell S r c = rootCell T r c := by unfold rootCell; rw [h]
theorem bCell_congr {rs : List Nat} {c : Cell} (h : ∀ r ∈ rs, S.g r = T.g r) : bCell S rs c = bCell T rs c := by
  cases c with
  | val l p => rfl
  | dead => rfl
  | view r c path =>
    simp only [bCell]
    by_cases hr : rs.elem r = true
    · rw [if_pos hr, if_pos hr, rootCell_congr (h r (elem_iff.1 hr))]
    · rw [if_neg hr, if_neg hr]
theorem bCells_congr {rs : List Nat} (h : ∀ r ∈ rs, S.g r = T.g r) : ∀ {cs : List Cell}, bCells S rs cs = bCells T rs cs := by
  intro cs
  induction cs with
  | nil => rfl
  | cons c cs ih => simp only [bCells, bCell_congr h, ih]

def AOpnd.slots : AOpnd → List Nat
  | .t n rs => n :: rs
  | .c _ => []
theorem bOne_congr {x : AOpnd} (h : ∀ r ∈ x.slots, S.g r = T.g r) : bOne S x = bOne T x := by
  cases x with
  | c p => rfl
  | t n rs =>
    simp only [bOne, h n (by simp [AOpnd.slots])]
    split
    · exact bCell_congr fun r hr => h r (by simp [AOpnd.slots, hr])
    · rfl
theorem bAny_congr {x : AOpnd} (h : ∀ r ∈ x.slots, S.g r = T.g r) : bAny S x = bAny T x := by
  cases x with
  | c p => rfl
  | t n rs =>
    simp only [bAny, h n (by simp [AOpnd.slots])]
    split
    · rw [bCell_congr fun r hr => h r (by simp [AOpnd.slots, hr])]
    · rw [bCells_congr fun r hr => h r (by simp [AOpnd.slots, hr])]
    · rfl
theorem natOf_congr {x : AOpnd} (h : ∀ r ∈ x.slots, S.g r = T.g r) : natOf S x = natOf T x := by
  unfold natOf; rw [bOne_congr h]
def oslots : Option AOpnd → List Nat
  | none => []
  | some x => x.slots
theorem optNat_congr {x : Option AOpnd} {d : Nat} (h : ∀ r ∈ oslots x, S.g r = T.g r) : optNat S x d = optNat T x d := by
  cases x with
  | none => rfl
  | some x => exact natOf_congr h
theorem loadAt_congr {rs : List Nat} {n : Nat} {tv : TV} (h : ∀ r ∈ rs, S.g r = T.g r) : loadAt S rs n tv = loadAt T rs n tv := by
  cases tv with
  | place r c path =>
    cases path with
    | nil =>
      simp only [loadAt]
      by_cases hr : rs.elem r = true
      · rw [if_pos hr, if_pos hr, h r (elem_iff.1 hr)]
      · rw [if_neg hr, if_neg hr]
    | cons x path =>
      simp only [loadAt]
      by_cases hr : rs.elem r = true
      · rw [if_pos hr, if_pos hr, rootCell_congr (h r (elem_iff.1 hr))]
      · rw [if_neg hr, if_neg hr]
  | _ => rfl
theorem guardOf_congr {gd : Option (Nat × Bool)} (h : ∀ g b, gd = some (g, b) → S.g g = T.g g) : guardOf S gd = guardOf T gd := by
  cases gd with
  | none => rfl
  | some x => obtain ⟨g, b⟩ := x; simp only [guardOf, h g b rfl]
def aslots : List AOpnd → List Nat
  | [] => []
  | x :: xs => x.slots ++ aslots xs
theorem argsOf_congr : ∀ {as : List AOpnd}, (∀ r ∈ aslots as, S.g r = T.g r) → argsOf S as = argsOf T as := by
  intro as
  induction as with
  | nil => intro _; rfl
  | cons a as ih =>
    intro h
    simp only [argsOf]
    rw [bAny_congr fun r hr => h r (by simp [aslots, hr]), ih fun r hr => h r (by simp [aslots, hr])]
theorem tVal_congr {rs : List Nat} {c : Cell} (h : ∀ r ∈ rs, S.g r = T.g r) : tVal S rs c = tVal T rs c := by
  cases c with
  | val l p => rfl
  | view r c path => simp only [tVal]; exact bCell_congr h
  | dead => rfl
theorem tVals_congr {rs : List Nat} (h : ∀ r ∈ rs, S.g r = T.g r) : ∀ {cs : List Cell}, tVals S rs cs = tVals T rs cs := by
  intro cs
  induction cs with
  | nil => rfl
  | cons c cs ih => simp only [tVals, tVal_congr h, ih]
end

/-! ### Taking -/
theorem setRoot_upd {S T : St} {r c : Nat} {x : Cell} (hl : S.length = T.length) (h : S.g r = T.g r) : Upd [r] S (setRoot S r c x) T (setRoot T r c x) := by
  unfold setRoot
  rw [h]
  split
  · exact .set_ hl
  · exact .set_ hl
  · exact .set_ hl
  · exact .refl ⟨hl, fun t ht => by simp at ht; subst ht; exact h⟩

theorem tCell_local {S T S' : St} {rs : List Nat} {c c' : Cell} (hA : Agree rs S T) (h : tCell S rs c = some (c', S')) : ∃ T', tCell T rs c = some (c', T') ∧ Upd rs S S' T T' := by
  cases c with
  | val l p =>
    simp only [tCell, Option.some.injEq, Prod.mk.injEq] at h ⊢
    obtain ⟨rfl, rfl⟩ := h
    exact ⟨T, ⟨rfl, rfl⟩, .refl hA⟩
  | dead => cases h
  | view r c path =>
    cases path with
    | cons x path =>
      simp only [tCell, Option.some.injEq, Prod.mk.injEq] at h ⊢
      obtain ⟨rfl, rfl⟩ := h
      exact ⟨T, ⟨rfl, rfl⟩, .refl hA⟩
    | nil =>
      simp only [tCell] at h ⊢
      split at h
      case isFalse => cases h
      rename_i hr
      rw [if_pos hr]
      have hrg := hA.eq r (elem_iff.1 hr)
      rw [← rootCell_congr hrg]
      split at h
      · rename_i l p hc
        simp only [Option.some.injEq, Prod.mk.injEq] at h ⊢
        obtain ⟨rfl, rfl⟩ := h
        exact ⟨_, ⟨rfl, rfl⟩, (setRoot_upd hA.len hrg).wide hA (by simpa using elem_iff.1 hr)⟩
      · cases h

theorem tCells_local {rs : List Nat} : ∀ {cs cs' : List Cell} {S T S' : St}, Agree rs S T → tCells S rs cs = some (cs', S') → ∃ T', tCells T rs cs = some (cs', T') ∧ Upd rs S S' T T' := by
  intro cs
  induction cs with
  | nil =>
    intro cs' S T S' hA h
    simp only [tCells, Option.some.injEq, Prod.mk.injEq] at h ⊢
    obtain ⟨rfl, rfl⟩ := h
    exact ⟨T, ⟨rfl, rfl⟩, .refl hA⟩
  | cons c cs ih =>
    intro cs' S T S' hA h
    simp only [tCells] at h ⊢
    cases h1 : tCell S rs c with
    | none => rw [h1] at h; cases h
    | some x =>
      rw [h1] at h
      simp only [Option.bind_some] at h
      cases h2 : tCells x.2 rs cs with
      | none => rw [h2] at h; cases h
      | some y =>
        rw [h2] at h
        simp only [Option.map_some, Option.some.injEq, Prod.mk.injEq] at h
        obtain ⟨rfl, rfl⟩ := h
        obtain ⟨T1, k1, u1⟩ := tCell_local (c' := x.1) (S' := x.2) hA h1
        obtain ⟨T2, k2, u2⟩ := ih (cs' := y.1) (S' := y.2) (u1.agree hA) h2
        exact ⟨T2, by rw [k1]; simp [k2], (u1.trans u2).wide hA (by simp)⟩

theorem tAny_local {S T S' : St} {x : AOpnd} {ag cs} (hA : Agree x.slots S T) (h : tAny S x = some (ag, cs, S')) : ∃ T', tAny T x = some (ag, cs, T') ∧ Upd x.slots S S' T T' := by
  cases x with
  | c p =>
    simp only [tAny, Option.some.injEq, Prod.mk.injEq] at h ⊢
    obtain ⟨rfl, rfl, rfl⟩ := h
    exact ⟨T, ⟨rfl, rfl, rfl⟩, .refl hA⟩
  | t n rs =>
    have hn := hA.eq n (by simp [AOpnd.slots])
    have hA' : Agree rs S T := hA.sub (by simp [AOpnd.slots]; intro t ht; exact .inr ht)
    simp only [tAny] at h ⊢
    split at h
    case isTrue => cases h
    rename_i hel
    rw [if_neg hel, ← hn]
    split at h
    · rename_i c hS
      rename_i hS
      cases hc : tCells S rs [c] with
      | none => rw [hc] at h; cases h
      | some y =>
        rw [hc] at h
        simp only [Option.map_some, Option.some.injEq, Prod.mk.injEq] at h
        obtain ⟨rfl, rfl, rfl⟩ := h
        obtain ⟨T1, k1, u1⟩ := tCells_local (cs' := y.1) (S' := y.2) hA' hc
        refine ⟨T1.set n (.one (weakC c)), by simp [k1], ?_⟩
        exact (u1.trans (Upd.set_ (n := n) (by rw [u1.lenS, u1.lenT, hA.len]))).wide hA (by simp [AOpnd.slots]; rintro t (ht | rfl) <;> simp [*])
    · rename_i cs0 hS
      cases hc : tCells S rs cs0 with
      | none => rw [hc] at h; cases h
      | some y =>
        rw [hc] at h
        simp only [Option.map_some, Option.some.injEq, Prod.mk.injEq] at h
        obtain ⟨rfl, rfl, rfl⟩ := h
        obtain ⟨T1, k1, u1⟩ := tCells_local (cs' := y.1) (S' := y.2) hA' hc
        refine ⟨T1.set n (.agg (cs0.map weakC)), by simp [k1], ?_⟩
        exact (u1.trans (Upd.set_ (n := n) (by rw [u1.lenS, u1.lenT, hA.len]))).wide hA (by simp [AOpnd.slots]; rintro t (ht | rfl) <;> simp [*])
    · cases h

theorem AOpnd.rs_slots {x : AOpnd} : ∀ r ∈ x.rs, r ∈ x.slots := by
  cases x with
  | c p => intro r h; cases h
  | t n rs => intro r h; exact List.mem_cons_of_mem _ h

theorem tPV_local {S T S' : St} {x : AOpnd} {ag l} (hA : Agree x.slots S T) (h : tPV S x = some (ag, l, S')) : ∃ T', tPV T x = some (ag, l, T') ∧ Upd x.slots S S' T T' := by
  unfold tPV at h ⊢
  cases h1 : tAny S x with
  | none => rw [h1] at h; cases h
  | some y =>
    rw [h1] at h
    simp only [Option.bind_some] at h
    cases h2 : tVals y.2.2 x.rs y.2.1 with
    | none => rw [h2] at h; cases h
    | some l' =>
      rw [h2] at h
      simp only [Option.map_some, Option.some.injEq, Prod.mk.injEq] at h
      obtain ⟨rfl, rfl, rfl⟩ := h
      obtain ⟨T', k, u⟩ := tAny_local (ag := y.1) (cs := y.2.1) (S' := y.2.2) hA h1
      refine ⟨T', ?_, u⟩
      rw [k]
      simp only [Option.bind_some]
      rw [← tVals_congr (S := y.2.2) fun r hr => (u.agree hA).eq r (AOpnd.rs_slots r hr), h2]
      rfl

theorem put_local {S T S' : St} {d : Option Nat} {v : TV} (hA : Agree d.toList S T) (h : put false S d v = some S') : ∃ T', put false T d v = some T' ∧ Upd d.toList S S' T T' := by
  cases d with
  | none =>
    simp only [put, Option.some.injEq] at h ⊢
    subst h
    exact ⟨T, rfl, .refl hA⟩
  | some d =>
    have hd := hA.eq d (by simp)
    simp only [put, Bool.false_eq_true, if_false, ← hd] at h ⊢
    split at h
    case isTrue => cases h
    rename_i hr
    injection h with h
    subst h
    rw [if_neg hr]
    exact ⟨_, rfl, .set_ hA.len⟩

end Go.Proofs.Ytkiliooegoldoaa

/- What an operation looks at and what it turns: each operation. -/
set_option linter.unusedVariables false
set_option linter.unusedSimpArgs false
namespace Go.Proofs.Ytkiliooegoldoaa
open Go

def partSlots {α : Type} : List (α × AOpnd) → List Nat
  | [] => []
  | p :: ps => p.2.slots ++ partSlots ps
def partSlots2 {α β : Type} : List (α × β × AOpnd) → List Nat
  | [] => []
  | p :: ps => p.2.2.slots ++ partSlots2 ps

/-- What it looks at, what it takes; none where it is not local. -/
def foot : AOp → Option (List Nat × List Nat)
  | .mv g x => if g then none else some (x.slots, [])
  | .take g x => if g then none else some (x.slots, x.slots)
  | .mvT _ => none
  | .pick c a b => some (c.slots ++ a.slots ++ b.slots, [])
  | .build _ ps => some (partSlots2 ps, partSlots2 ps)
  | .mkSl _ _ _ _ ps => some (partSlots ps, partSlots ps)
  | .load _ p => some (p.slots, [])
  | .bin _ x y => some (x.slots ++ y.slots, [])
  | .eqB _ x y => some (x.slots ++ y.slots, [])
  | .eqAgg _ _ x y => some (x.slots ++ y.slots, [])
  | .un _ x => some (x.slots, [])
  | .convInt _ x => some (x.slots, [])
  | .bytesStr x => some (x.slots, [])
  | .make _ _ _ x => some (x.slots, [])
  | .sliceS x lo hi => some (x.slots ++ oslots lo ++ oslots hi, [])
  | .slice _ x lo hi mx => some (x.slots ++ oslots lo ++ oslots hi ++ oslots mx, [])
  | .faddr _ p => some (p.slots, [])
  | .field _ _ x => some (x.slots, x.slots)
  | .iaddr _ x i => some (x.slots ++ i.slots, [])
  | .index x i => some (x.slots ++ i.slots, [])
  | .extract _ x => some (x.slots, x.slots)
  | .len x => some (x.slots, [])
  | .lenS x => some (x.slots, [])
  | .append _ _ _ x y => some (x.slots ++ y.slots, x.slots ++ y.slots)
  | .max x y => some (x.slots ++ y.slots, [])
  | .min x y => some (x.slots ++ y.slots, [])
  | .nilchk x => some (x.slots, [])
  | .call _ as => some (aslots as, [])
  | _ => none

/-- An operation that only looks: what it puts is the same where what it looks at is the same. -/
theorem look {S T S' : St} {d : Option Nat} {a : AOp} {X : List Nat} (hA : Agree (X ++ d.toList) S T) (h : step S d a = some S')
    (hl : ∃ v, put false S d v = some S' ∧ step T d a = put false T d v) : ∃ T', step T d a = some T' ∧ Upd ([] ++ d.toList) S S' T T' := by
  obtain ⟨v, h1, h2⟩ := hl
  obtain ⟨T', k1, k2⟩ := put_local (hA.sub (by simp; intro t ht; exact .inr ht)) h1
  exact ⟨T', by rw [h2, k1], by simpa using k2⟩

theorem Agree.l {X Y S T} (h : Agree (X ++ Y) S T) : Agree X S T := h.sub (by simp; intro t ht; exact .inl ht)
theorem Agree.r {X Y S T} (h : Agree (X ++ Y) S T) : Agree Y S T := h.sub (by simp; intro t ht; exact .inr ht)

theorem layAll_local : ∀ {ps : List (Nat × Nat × AOpnd)} {cs cs' : List Cell} {S T S' : St}, Agree (partSlots2 ps) S T → layAll S cs ps = some (cs', S') → ∃ T', layAll T cs ps = some (cs', T') ∧ Upd (partSlots2 ps) S S' T T' := by
  intro ps
  induction ps with
  | nil =>
    intro cs cs' S T S' hA h
    simp only [layAll, Option.some.injEq, Prod.mk.injEq] at h ⊢
    obtain ⟨rfl, rfl⟩ := h
    exact ⟨T, ⟨rfl, rfl⟩, .refl hA⟩
  | cons p ps ih =>
    obtain ⟨off, n, o⟩ := p
    intro cs cs' S T S' hA h
    simp only [partSlots2] at hA
    simp only [layAll] at h ⊢
    cases h1 : tAny S o with
    | none => rw [h1] at h; cases h
    | some x =>
      rw [h1] at h
      simp only [Option.bind_some] at h
      split at h
      case isFalse => cases h
      rename_i hn
      cases h2 : lay cs off x.2.1 with
      | none => rw [h2] at h; cases h
      | some cs1 =>
        rw [h2] at h
        simp only [Option.bind_some] at h
        obtain ⟨T1, k1, u1⟩ := tAny_local (ag := x.1) (cs := x.2.1) (S' := x.2.2) hA.l h1
        obtain ⟨T2, k2, u2⟩ := ih (u1.agree hA.r) h
        exact ⟨T2, by rw [k1]; simp [hn, h2, k2], u1.trans u2⟩

theorem layRows_local {sz : Nat} : ∀ {ps : List (Nat × AOpnd)} {rows rows' : List (List (Lev × PV))} {S T S' : St}, Agree (partSlots ps) S T → layRows S sz rows ps = some (rows', S') → ∃ T', layRows T sz rows ps = some (rows', T') ∧ Upd (partSlots ps) S S' T T' := by
  intro ps
  induction ps with
  | nil =>
    intro cs cs' S T S' hA h
    simp only [layRows, Option.some.injEq, Prod.mk.injEq] at h ⊢
    obtain ⟨rfl, rfl⟩ := h
    exact ⟨T, ⟨rfl, rfl⟩, .refl hA⟩
  | cons p ps ih =>
    obtain ⟨i, o⟩ := p
    intro cs cs' S T S' hA h
    simp only [partSlots] at hA
    simp only [layRows] at h ⊢
    cases h1 : tPV S o with
    | none => rw [h1] at h; cases h
    | some x =>
      rw [h1] at h
      simp only [Option.bind_some] at h
      split at h
      case isFalse => cases h
      rename_i hn
      obtain ⟨T1, k1, u1⟩ := tPV_local (ag := x.1) (l := x.2.1) (S' := x.2.2) hA.l h1
      obtain ⟨T2, k2, u2⟩ := ih (u1.agree hA.r) h
      refine ⟨T2, ?_, u1.trans u2⟩
      rw [k1]
      simp only [Option.bind_some]
      rw [if_pos hn]
      exact k2

theorem step_local {a : AOp} {R W : List Nat} {d : Option Nat} {S T S' : St} (hf : foot a = some (R, W)) (hA : Agree (R ++ d.toList) S T) (h : step S d a = some S') :
    ∃ T', step T d a = some T' ∧ Upd (W ++ d.toList) S S' T T' := by
  cases a with
  | mvT x => cases hf
  | mv g x =>
    simp only [foot] at hf
    split at hf
    case isTrue => cases hf
    rename_i hg
    simp only [Bool.not_eq_true] at hg
    subst hg
    simp only [Option.some.injEq, Prod.mk.injEq] at hf
    obtain ⟨rfl, rfl⟩ := hf
    refine look hA h ?_
    cases x with
    | c p => exact ⟨_, h, rfl⟩
    | t n rs =>
      have hn := hA.eq n (by simp [AOpnd.slots])
      simp only [step] at h ⊢
      rw [← hn]
      split at h <;> first | exact ⟨_, h, rfl⟩ | cases h
  | take g x =>
    simp only [foot] at hf
    split at hf
    case isTrue => cases hf
    rename_i hg
    simp only [Bool.not_eq_true] at hg
    subst hg
    simp only [Option.some.injEq, Prod.mk.injEq] at hf
    obtain ⟨rfl, rfl⟩ := hf
    simp only [step] at h ⊢
    cases h1 : tAny S x with
    | none => rw [h1] at h; cases h
    | some y =>
      rw [h1] at h
      simp only [Option.bind_some] at h
      cases h2 : TV.ofCells y.1 y.2.1 with
      | none => rw [h2] at h; cases h
      | some v =>
        rw [h2] at h
        simp only [Option.bind_some] at h
        obtain ⟨T1, k1, u1⟩ := tAny_local (ag := y.1) (cs := y.2.1) (S' := y.2.2) hA.l h1
        obtain ⟨T2, k2, u2⟩ := put_local (u1.agree hA.r) h
        exact ⟨T2, by rw [k1]; simp [h2, k2], u1.trans u2⟩
  | pick c a b =>
    simp only [foot, Option.some.injEq, Prod.mk.injEq] at hf
    obtain ⟨rfl, rfl⟩ := hf
    refine look hA h ?_
    simp only [step] at h ⊢
    have hab : ∀ t : Bool, bOne S (if t then a else b) = bOne T (if t then a else b) := fun t => by
      cases t
      · exact bOne_congr hA.l.r.eq
      · exact bOne_congr hA.l.l.r.eq
    rw [← bOne_congr hA.l.l.l.eq]
    split at h
    · rename_i lc t h1
      rw [← hab t]
      split at h
      · rename_i lv v h2
        split at h
        · rename_i hfl
          exact ⟨_, h, by rw [if_pos hfl]⟩
        · cases h
      · cases h
    · cases h
  | alloc g cs ls => cases hf
  | box g x => cases hf
  | boxV x => cases hf
  | build zs ps =>
    simp only [foot, Option.some.injEq, Prod.mk.injEq] at hf
    obtain ⟨rfl, rfl⟩ := hf
    simp only [step] at h ⊢
    cases h1 : layAll S (zeroCells zs) ps with
    | none => rw [h1] at h; cases h
    | some y =>
      rw [h1] at h
      simp only [Option.bind_some] at h
      obtain ⟨T1, k1, u1⟩ := layAll_local (cs' := y.1) (S' := y.2) hA.l h1
      obtain ⟨T2, k2, u2⟩ := put_local (u1.agree hA.r) h
      exact ⟨T2, by rw [k1]; simp [k2], u1.trans u2⟩
  | mkSl lev sz zs n ps =>
    simp only [foot, Option.some.injEq, Prod.mk.injEq] at hf
    obtain ⟨rfl, rfl⟩ := hf
    simp only [step] at h ⊢
    cases h1 : layRows S sz (List.replicate n (zs.map fun z => (Lev.deep, z))) ps with
    | none => rw [h1] at h; cases h
    | some y =>
      rw [h1] at h
      simp only [Option.bind_some] at h
      split at h
      case isFalse => cases h
      rename_i hc
      obtain ⟨T1, k1, u1⟩ := layRows_local (rows' := y.1) (S' := y.2) hA.l h1
      obtain ⟨T2, k2, u2⟩ := put_local (u1.agree hA.r) h
      refine ⟨T2, ?_, u1.trans u2⟩
      rw [k1]
      simp only [Option.bind_some]
      rw [if_pos hc, k2]
  | load n p =>
    simp only [foot, Option.some.injEq, Prod.mk.injEq] at hf
    obtain ⟨rfl, rfl⟩ := hf
    refine look hA h ?_
    cases p with
    | c p => cases h
    | t m rs =>
      have hn := hA.eq m (by simp [AOpnd.slots])
      simp only [step] at h ⊢
      have hpl : asPlace S m = asPlace T m := by unfold asPlace; rw [hn]
      rw [← hpl, ← loadAt_congr (S := S) fun r hr => hA.eq r (by simp [AOpnd.slots, hr])]
      cases h1 : loadAt S rs (n.getD 1) (asPlace S m) with
      | none => rw [h1] at h; cases h
      | some cs =>
        rw [h1] at h
        simp only [Option.bind_some] at h ⊢
        cases h2 : TV.ofCells n.isSome cs with
        | none => rw [h2] at h; cases h
        | some v =>
          rw [h2] at h
          exact ⟨v, h, rfl⟩
  | store n p x => cases hf
  | bin b x y =>
    simp only [foot, Option.some.injEq, Prod.mk.injEq] at hf
    obtain ⟨rfl, rfl⟩ := hf
    refine look hA h ?_
    simp only [step] at h ⊢
    rw [← bOne_congr hA.l.l.eq, ← bOne_congr hA.l.r.eq]
    split at h
    · rename_i l1 p l2 q _ _
      cases hr : binS b p q with
      | none => rw [hr] at h; cases h
      | some r => rw [hr] at h; exact ⟨_, h, by simp⟩
    · cases h
  | eqB neg x y =>
    simp only [foot, Option.some.injEq, Prod.mk.injEq] at hf
    obtain ⟨rfl, rfl⟩ := hf
    refine look hA h ?_
    simp only [step] at h ⊢
    rw [← bOne_congr hA.l.l.eq, ← bOne_congr hA.l.r.eq]
    split at h
    · exact ⟨_, h, rfl⟩
    · cases h
  | eqAgg neg ks x y =>
    simp only [foot, Option.some.injEq, Prod.mk.injEq] at hf
    obtain ⟨rfl, rfl⟩ := hf
    refine look hA h ?_
    simp only [step] at h ⊢
    rw [← bAny_congr hA.l.l.eq, ← bAny_congr hA.l.r.eq]
    split at h
    · rename_i p q _ _
      split at h
      case isFalse => cases h
      rename_i hk
      cases hr : sameCells p q with
      | none => rw [hr] at h; cases h
      | some r => rw [hr] at h; exact ⟨_, h, by simp [hk]⟩
    · cases h
  | un u x =>
    simp only [foot, Option.some.injEq, Prod.mk.injEq] at hf
    obtain ⟨rfl, rfl⟩ := hf
    refine look hA h ?_
    simp only [step] at h ⊢
    rw [← bOne_congr hA.l.eq]
    split at h
    · rename_i l p _
      cases hr : unS u p with
      | none => rw [hr] at h; cases h
      | some r => rw [hr] at h; exact ⟨_, h, by simp⟩
    · cases h
  | convInt k x =>
    simp only [foot, Option.some.injEq, Prod.mk.injEq] at hf
    obtain ⟨rfl, rfl⟩ := hf
    refine look hA h ?_
    simp only [step] at h ⊢
    rw [← bOne_congr hA.l.eq]
    split at h
    · exact ⟨_, h, rfl⟩
    · cases h
  | bytesStr x =>
    simp only [foot, Option.some.injEq, Prod.mk.injEq] at hf
    obtain ⟨rfl, rfl⟩ := hf
    refine look hA h ?_
    simp only [step] at h ⊢
    rw [← bOne_congr hA.l.eq]
    split at h
    · rename_i l p _
      cases hr : bytesOfRows p with
      | none => rw [hr] at h; cases h
      | some r => rw [hr] at h; exact ⟨_, h, by simp⟩
    · cases h
  | make lev sz zs x =>
    simp only [foot, Option.some.injEq, Prod.mk.injEq] at hf
    obtain ⟨rfl, rfl⟩ := hf
    refine look hA h ?_
    simp only [step] at h ⊢
    rw [← natOf_congr hA.l.eq]
    split at h
    · split at h
      · rename_i h1
        split at h
        · rename_i h2
          exact ⟨_, h, by rw [if_pos h1, if_pos h2]⟩
        · cases h
      · cases h
    · cases h
  | sliceS x lo hi =>
    simp only [foot, Option.some.injEq, Prod.mk.injEq] at hf
    obtain ⟨rfl, rfl⟩ := hf
    refine look hA h ?_
    simp only [step] at h ⊢
    rw [← bOne_congr hA.l.l.l.eq]
    split at h
    · rw [← optNat_congr hA.l.l.r.eq, ← optNat_congr hA.l.r.eq]
      try dsimp only
      split at h
      · split at h
        · rename_i h2
          exact ⟨_, h, by rw [if_pos h2]⟩
        · cases h
      · cases h
    · cases h
  | slice sz x lo hi mx =>
    simp only [foot, Option.some.injEq, Prod.mk.injEq] at hf
    obtain ⟨rfl, rfl⟩ := hf
    refine look hA h ?_
    simp only [step] at h ⊢
    rw [← bOne_congr hA.l.l.l.l.eq]
    split at h
    · rw [← optNat_congr hA.l.l.l.r.eq, ← optNat_congr hA.l.l.r.eq, ← optNat_congr hA.l.r.eq]
      try dsimp only
      split at h
      · rename_i h0
        rw [if_pos h0]
        split at h
        · split at h
          · rename_i h2
            exact ⟨_, h, by rw [if_pos h2]⟩
          · cases h
        · cases h
      · cases h
    · cases h
  | faddr off p =>
    simp only [foot, Option.some.injEq, Prod.mk.injEq] at hf
    obtain ⟨rfl, rfl⟩ := hf
    refine look hA h ?_
    cases p with
    | c p => cases h
    | t m rs =>
      have hn := hA.eq m (by simp [AOpnd.slots])
      simp only [step] at h ⊢
      rw [← hn]
      split at h
      · exact ⟨_, h, rfl⟩
      · rename_i r c x path hS
        try dsimp only
        split at h
        case isFalse => cases h
        rename_i hr
        rw [if_pos hr, ← rootCell_congr (S := S) (hA.eq r (by simp [AOpnd.slots, elem_iff.1 hr]))]
        split at h
        · exact ⟨_, h, rfl⟩
        · cases h
      · exact ⟨_, h, rfl⟩
      · exact ⟨_, h, rfl⟩
      · cases h
  | field off n x =>
    simp only [foot, Option.some.injEq, Prod.mk.injEq] at hf
    obtain ⟨rfl, rfl⟩ := hf
    simp only [step] at h ⊢
    split at h
    case h_2 => cases h
    rename_i cs S1 h1
    split at h
    case isFalse => cases h
    rename_i hl
    cases h2 : TV.ofCells n.isSome ((cs.drop off).take (n.getD 1)) with
    | none => rw [h2] at h; cases h
    | some v =>
      rw [h2] at h
      simp only [Option.bind_some] at h
      obtain ⟨T1, k1, u1⟩ := tAny_local hA.l h1
      obtain ⟨T2, k2, u2⟩ := put_local (u1.agree hA.r) h
      refine ⟨T2, ?_, u1.trans u2⟩
      rw [k1]
      try dsimp only
      rw [if_pos hl, h2]
      exact k2
  | iaddr sz x i =>
    simp only [foot, Option.some.injEq, Prod.mk.injEq] at hf
    obtain ⟨rfl, rfl⟩ := hf
    refine look hA h ?_
    cases x with
    | c p => cases h
    | t m rs =>
      have hn := hA.eq m (by simp [AOpnd.slots])
      simp only [step] at h ⊢
      rw [← hn, ← natOf_congr hA.l.r.eq]
      split at h
      · rename_i r c path i' hS hi
        try dsimp only
        rw [← bCell_congr (S := S) fun r hr => hA.eq r (by simp [AOpnd.slots, hr])]
        split at h
        · split at h
          · rename_i h2
            exact ⟨_, h, by rw [if_pos h2]⟩
          · cases h
        · cases h
      · try dsimp only
        split at h
        case isFalse => cases h
        rename_i h1
        rw [if_pos h1]
        split at h
        · rename_i h2
          rw [if_pos h2]
          split at h
          · rename_i h3
            exact ⟨_, h, by rw [if_pos h3]⟩
          · cases h
        · rename_i h2
          rw [if_neg h2]
          split at h
          · exact ⟨_, h, rfl⟩
          · cases h
      · cases h
  | index x i =>
    simp only [foot, Option.some.injEq, Prod.mk.injEq] at hf
    obtain ⟨rfl, rfl⟩ := hf
    refine look hA h ?_
    simp only [step] at h ⊢
    rw [← bOne_congr hA.l.l.eq, ← natOf_congr hA.l.r.eq]
    split at h
    · try dsimp only
      split at h
      · exact ⟨_, h, rfl⟩
      · cases h
    · cases h
  | extract i x =>
    simp only [foot, Option.some.injEq, Prod.mk.injEq] at hf
    obtain ⟨rfl, rfl⟩ := hf
    cases x with
    | c p => cases h
    | t n rs =>
      have hn := hA.eq n (by simp [AOpnd.slots])
      simp only [step] at h ⊢
      rw [← hn]
      split at h
      case h_2 => cases h
      rename_i vs hS
      try dsimp only
      split at h
      case h_2 => cases h
      rename_i x hx
      try dsimp only
      cases h2 : TV.ofCells x.1 x.2 with
      | none => rw [h2] at h; cases h
      | some v =>
        rw [h2] at h
        simp only [Option.bind_some] at h ⊢
        have u1 := Upd.set_ (S := S) (T := T) (n := n) (v := .tup (vs.set i (x.1, x.2.map fun _ => .dead))) hA.len
        obtain ⟨T2, k2, u2⟩ := put_local (u1.agree hA.r) h
        refine ⟨T2, k2, (u1.trans u2).wide (V := (AOpnd.t n rs).slots ++ d.toList) hA (by simp [AOpnd.slots]; rintro t (rfl | ht) <;> simp [*])⟩
  | len x =>
    simp only [foot, Option.some.injEq, Prod.mk.injEq] at hf
    obtain ⟨rfl, rfl⟩ := hf
    refine look hA h ?_
    simp only [step] at h ⊢
    rw [← bOne_congr hA.l.eq]
    split at h
    · exact ⟨_, h, rfl⟩
    · cases h
  | lenS x =>
    simp only [foot, Option.some.injEq, Prod.mk.injEq] at hf
    obtain ⟨rfl, rfl⟩ := hf
    refine look hA h ?_
    simp only [step] at h ⊢
    rw [← bOne_congr hA.l.eq]
    split at h
    · exact ⟨_, h, rfl⟩
    · cases h
  | append lev sz bytes x y =>
    simp only [foot, Option.some.injEq, Prod.mk.injEq] at hf
    obtain ⟨rfl, rfl⟩ := hf
    simp only [step] at h ⊢
    cases h1 : tPV S x with
    | none => rw [h1] at h; cases h
    | some a =>
      rw [h1] at h
      simp only [Option.bind_some] at h
      cases h2 : tPV a.2.2 y with
      | none => rw [h2] at h; cases h
      | some b =>
        rw [h2] at h
        simp only [Option.bind_some] at h
        obtain ⟨T1, k1, u1⟩ := tPV_local (ag := a.1) (l := a.2.1) (S' := a.2.2) hA.l.l h1
        obtain ⟨T2, k2, u2⟩ := tPV_local (ag := b.1) (l := b.2.1) (S' := b.2.2) (u1.agree hA.l.r) h2
        rw [k1]
        simp only [Option.bind_some]
        rw [k2]
        simp only [Option.bind_some]
        split at h
        · split at h
          case isFalse => cases h
          rename_i hc
          obtain ⟨T3, k3, u3⟩ := put_local ((u1.trans u2).agree hA.r) h
          refine ⟨T3, ?_, (u1.trans u2).trans u3⟩
          rw [if_pos hc, k3]
        · cases h
  | appendStr x y => cases hf
  | max x y =>
    simp only [foot, Option.some.injEq, Prod.mk.injEq] at hf
    obtain ⟨rfl, rfl⟩ := hf
    refine look hA h ?_
    simp only [step] at h ⊢
    rw [← bOne_congr hA.l.l.eq, ← bOne_congr hA.l.r.eq]
    split at h
    · split at h
      · rename_i h2
        exact ⟨_, h, by rw [if_pos h2]⟩
      · cases h
    · cases h
  | min x y =>
    simp only [foot, Option.some.injEq, Prod.mk.injEq] at hf
    obtain ⟨rfl, rfl⟩ := hf
    refine look hA h ?_
    simp only [step] at h ⊢
    rw [← bOne_congr hA.l.l.eq, ← bOne_congr hA.l.r.eq]
    split at h
    · split at h
      · rename_i h2
        exact ⟨_, h, by rw [if_pos h2]⟩
      · cases h
    · cases h
  | nilchk x =>
    simp only [foot, Option.some.injEq, Prod.mk.injEq] at hf
    obtain ⟨rfl, rfl⟩ := hf
    refine look hA h ?_
    cases x with
    | c p => cases h
    | t n rs =>
      have hn := hA.eq n (by simp [AOpnd.slots])
      simp only [step] at h ⊢
      rw [← hn]
      split at h <;> first | exact ⟨_, h, rfl⟩ | cases h
  | call k as => cases h

end Go.Proofs.Ytkiliooegoldoaa

/- Orders that are drawn. -/
set_option linter.unusedVariables false
set_option linter.unusedSimpArgs false
namespace Go.Proofs.Ytkiliooegoldoaa
open Go

section
variable (P : Program) (num : Nat → FuncId) (F : Nat → Option AFunc)

/-- One operation, whatever it calls being sound. -/
def One1 (a : AO) (S S' : St) : Prop :=
  (guardOf S a.guard = some false ∧ put false S a.dst .undef = some S') ∨
  (guardOf S a.guard = some true ∧ step S a.dst a.op = some S') ∨
  ∃ k as args fd rs tv, guardOf S a.guard = some true ∧ a.op = .call k as ∧ argsOf S as = some args ∧ F k = some fd ∧ args.map (·.1) = fd.params ∧
    FnSem P (num k) fd (args.map (·.2)) rs ∧ resAll fd.rk rs = some tv ∧ put false S a.dst tv = some S'

def Ops1 : List AO → St → St → Prop
  | [], S, S' => S' = S
  | a :: as, S, S' => ∃ S1, One1 P num F a S S1 ∧ Ops1 as S1 S'
end

def gslots : Option (Nat × Bool) → List Nat
  | none => []
  | some (g, _) => [g]
def AO.R (a : AO) (R : List Nat) : List Nat := gslots a.guard ++ R ++ a.dst.toList
def AO.W (a : AO) (W : List Nat) : List Nat := W ++ a.dst.toList

section
variable {P : Program} {num : Nat → FuncId} {F : Nat → Option AFunc}

theorem one_local {a : AO} {R W : List Nat} {S T S' : St} (hf : foot a.op = some (R, W)) (hsub : ∀ t ∈ W, t ∈ R) (hA : Agree (a.R R) S T) (h : One1 P num F a S S') :
    ∃ T', One1 P num F a T T' ∧ Upd (a.W W) S S' T T' := by
  have hg : guardOf S a.guard = guardOf T a.guard := guardOf_congr fun g b e => hA.eq g (by simp [AO.R, gslots, e])
  have hA2 : Agree (R ++ a.dst.toList) S T := hA.sub (by simp [AO.R]; rintro t (ht | ht) <;> simp [ht])
  have hAd : Agree (a.W W) S T := hA2.sub (by
    intro t ht
    rcases List.mem_append.1 ht with ht | ht
    · exact List.mem_append_left _ (hsub t ht)
    · exact List.mem_append_right _ ht)
  rcases h with ⟨h1, h2⟩ | ⟨h1, h2⟩ | ⟨k, as, args, fd, rs, tv, h1, h2, h3, h4, h5, h6, h7, h8⟩
  · obtain ⟨T', k1, u⟩ := put_local hA2.r h2
    exact ⟨T', .inl ⟨hg ▸ h1, k1⟩, u.wide hAd (by simp [AO.W]; intro t ht; exact .inr ht)⟩
  · obtain ⟨T', k1, u⟩ := step_local hf hA2 h2
    exact ⟨T', .inr (.inl ⟨hg ▸ h1, k1⟩), u⟩
  · obtain ⟨T', k1, u⟩ := put_local hA2.r h8
    rw [h2] at hf
    simp only [foot, Option.some.injEq, Prod.mk.injEq] at hf
    obtain ⟨rfl, rfl⟩ := hf
    refine ⟨T', .inr (.inr ⟨k, as, args, fd, rs, tv, hg ▸ h1, h2, ?_, h4, h5, h6, h7, k1⟩), u.wide hAd (by simp [AO.W])⟩
    rw [← argsOf_congr hA2.l.eq]; exact h3

def maskOf : List Nat → Nat
  | [] => 0
  | t :: ts => 1 <<< t ||| maskOf ts
theorem maskOf_bit {l : List Nat} {t : Nat} : (maskOf l).testBit t = true ↔ t ∈ l := by
  induction l with
  | nil => simp [maskOf]
  | cons x l ih =>
    simp only [maskOf, Nat.testBit_or, Bool.or_eq_true, ih, List.mem_cons]
    rw [Nat.one_shiftLeft, Nat.testBit_two_pow]
    simp [eq_comm]
theorem apart_of {l m : List Nat} (h : maskOf l &&& maskOf m = 0) : ∀ t, t ∈ l → t ∉ m := by
  intro t h1 h2
  have : (maskOf l &&& maskOf m).testBit t = true := by
    rw [Nat.testBit_and, maskOf_bit.2 h1, maskOf_bit.2 h2]; rfl
  rw [h] at this
  simp at this

/-- Two operations, in whatever order. -/
structure Fp where
  r : Nat
  w : Nat
def fpOf (a : AO) : Option Fp :=
  match foot a.op with
  | some (R, W) => if maskOf W &&& maskOf R = maskOf W then some ⟨maskOf (a.R R), maskOf (a.W W)⟩ else none
  | none => none
def indep (x y : Option Fp) : Bool :=
  match x, y with
  | some x, some y => x.w &&& y.r == 0 && y.w &&& x.r == 0
  | _, _ => false

theorem St.ext_ {S T : St} (hl : S.length = T.length) (h : ∀ t, S.g t = T.g t) : S = T := by
  apply List.ext_getElem?
  intro i
  have := h i
  unfold St.g at this
  rw [List.getD_eq_getElem?_getD, List.getD_eq_getElem?_getD] at this
  by_cases hi : i < S.length
  · rw [List.getElem?_eq_getElem hi, List.getElem?_eq_getElem (by omega)] at this ⊢
    simpa using this
  · rw [List.getElem?_eq_none (by omega), List.getElem?_eq_none (by omega)]

theorem fpOf_ {a : AO} {f : Fp} (h : fpOf a = some f) : ∃ R W, foot a.op = some (R, W) ∧ (∀ t ∈ W, t ∈ R) ∧ f.r = maskOf (a.R R) ∧ f.w = maskOf (a.W W) := by
  unfold fpOf at h
  split at h
  · rename_i R W hf
    split at h
    · rename_i hm
      injection h with h
      refine ⟨R, W, hf, fun t ht => ?_, by rw [← h], by rw [← h]⟩
      have h1 := maskOf_bit.2 ht
      rw [← hm, Nat.testBit_and, Bool.and_eq_true] at h1
      exact maskOf_bit.1 h1.2
    · cases h
  · cases h

theorem commute {a b : AO} {S S1 S2 : St} (hi : indep (fpOf a) (fpOf b) = true) (h1 : One1 P num F a S S1) (h2 : One1 P num F b S1 S2) : ∃ T1, One1 P num F b S T1 ∧ One1 P num F a T1 S2 := by
  unfold indep at hi
  split at hi
  case h_2 => cases hi
  rename_i x y hx hy
  obtain ⟨Ra, Wa, fa, sa, ra, wa⟩ := fpOf_ hx
  obtain ⟨Rb, Wb, fb, sb, rb, wb⟩ := fpOf_ hy
  simp only [Bool.and_eq_true, beq_iff_eq] at hi
  rw [wa, rb] at hi
  rw [wb, ra] at hi
  have ab := apart_of hi.1
  have ba := apart_of hi.2
  have subW : ∀ {c : AO} {R W : List Nat}, (∀ t ∈ W, t ∈ R) → ∀ t ∈ c.W W, t ∈ c.R R := by
    intro c R W hs t ht
    rcases List.mem_append.1 ht with ht | ht
    · exact List.mem_append_left _ (List.mem_append_right _ (hs t ht))
    · exact List.mem_append_right _ ht
  obtain ⟨S1', k0, u0⟩ := one_local fa sa (T := S) ⟨rfl, fun _ _ => rfl⟩ h1
  -- what the first one leaves alone
  have off0 : ∀ t, t ∉ a.W Wa → S1.g t = S.g t := fun t ht => (u0.off t ht).2
  obtain ⟨T1, k1, u1⟩ := one_local fb sb (T := S) ⟨u0.lenS, fun t ht => off0 t fun hw => ab t hw ht⟩ h2
  obtain ⟨T2, k2, u2⟩ := one_local fa sa (S := S) (T := T1) ⟨u1.lenT.symm, fun t ht => ((u1.off t fun hw => ba t hw ht).1).symm⟩ h1
  have e : T2 = S2 := by
    apply St.ext_
    · rw [u2.lenT, u1.lenT, u1.lenS, u0.lenS]
    · intro t
      by_cases hta : t ∈ a.W Wa
      · rw [u2.on t hta]
        have : t ∉ b.W Wb := fun hw => ab t hta (subW sb t hw)
        rw [(u1.off t this).2]
      · rw [(u2.off t hta).1]
        by_cases htb : t ∈ b.W Wb
        · exact u1.on t htb
        · rw [(u1.off t htb).1, (u1.off t htb).2, off0 t hta]
  subst e
  exact ⟨T1, k1, k2⟩

theorem moveFront {a : AO} {L2 : List AO} : ∀ {L1 : List AO} {S S' : St}, (∀ b ∈ L1, indep (fpOf b) (fpOf a) = true) → Ops1 P num F (L1 ++ a :: L2) S S' → Ops1 P num F (a :: (L1 ++ L2)) S S' := by
  intro L1
  induction L1 with
  | nil => intro S S' _ h; exact h
  | cons b L1 ih =>
    intro S S' hi h
    obtain ⟨S1, h1, h2⟩ := h
    obtain ⟨S2, k1, k2⟩ := ih (fun c hc => hi c (by simp [hc])) h2
    obtain ⟨T1, m1, m2⟩ := commute (hi b (by simp)) h1 k1
    exact ⟨T1, m1, S2, m2, k2⟩

/-! ### The orders that the edges leave open -/
def predsOf (o : Oper) : List Nat := (o.after.toList.filter (Region.binds .any)).map (·.on)
def ancMask (tab : List Nat) : List Nat → Nat
  | [] => 0
  | p :: ps => 1 <<< p ||| (tab.getD p 0 ||| ancMask tab ps)
theorem ancMask_bit {tab : List Nat} {j : Nat} : ∀ {ps : List Nat}, (ancMask tab ps).testBit j = true → j ∈ ps ∨ ∃ p ∈ ps, (tab.getD p 0).testBit j = true := by
  intro ps
  induction ps with
  | nil => intro h; simp [ancMask] at h
  | cons p ps ih =>
    intro h
    simp only [ancMask, Nat.testBit_or, Bool.or_eq_true] at h
    rcases h with h | h | h
    · rw [Nat.one_shiftLeft, Nat.testBit_two_pow] at h
      simp at h
      exact .inl (by simp [h])
    · exact .inr ⟨p, by simp, h⟩
    · rcases ih h with h | ⟨q, h1, h2⟩
      · exact .inl (by simp [h])
      · exact .inr ⟨q, by simp [h1], h2⟩

def mkTab : List Oper → List Nat → List Nat
  | [], tab => tab
  | o :: os, tab => mkTab os (tab ++ [ancMask tab (predsOf o)])
/-- Each row of the table is what the edges say; the edges lead back. -/
def chkTab (tab : List Nat) : Nat → List Oper → Bool
  | _, [] => true
  | i, o :: os => (predsOf o).all (fun p => decide (p < i)) && ancMask tab (predsOf o) == tab.getD i 0 && chkTab tab (i + 1) os
/-- Two operations that no edge orders are free of each other. -/
def chkPair (m : Nat) (f : Option Fp) : Nat → List (Option Fp) → Bool
  | _, [] => true
  | j, g :: gs => (m.testBit j || indep g f) && chkPair m f (j + 1) gs
def chkPairs (tab : List Nat) : Nat → List (Option Fp) → List (Option Fp) → Bool
  | _, _, [] => true
  | i, done, f :: fs => chkPair (tab.getD i 0) f 0 done && chkPairs tab (i + 1) (done ++ [f]) fs
def drawOk (os : List AO) (ops : List Oper) : Bool :=
  let tab := mkTab ops []
  chkTab tab 0 ops && chkPairs tab 0 [] (os.map fpOf)

theorem chkTab_ {tab : List Nat} : ∀ {ops : List Oper} {i : Nat}, chkTab tab i ops = true → ∀ (k : Nat) o, ops[k]? = some o → (∀ p ∈ predsOf o, p < i + k) ∧ ancMask tab (predsOf o) = tab.getD (i + k) 0 := by
  intro ops
  induction ops with
  | nil => intro i _ k o h; simp at h
  | cons o os ih =>
    intro i h k o' ho
    simp only [chkTab, Bool.and_eq_true, beq_iff_eq, List.all_eq_true, decide_eq_true_eq] at h
    cases k with
    | zero => simp at ho; subst ho; exact ⟨h.1.1, h.1.2⟩
    | succ k =>
      have := ih h.2 k o' (by simpa using ho)
      rw [show i + (k + 1) = i + 1 + k from by omega]
      exact this
theorem chkPair_ {m : Nat} {f : Option Fp} : ∀ {gs : List (Option Fp)} {j : Nat}, chkPair m f j gs = true → ∀ (k : Nat) g, gs[k]? = some g → m.testBit (j + k) = true ∨ indep g f = true := by
  intro gs
  induction gs with
  | nil => intro j _ k g h; simp at h
  | cons g gs ih =>
    intro j h k g' hg
    simp only [chkPair, Bool.and_eq_true, Bool.or_eq_true] at h
    cases k with
    | zero => simp at hg; subst hg; exact h.1
    | succ k =>
      have := ih h.2 k g' (by simpa using hg)
      rw [show j + (k + 1) = j + 1 + k from by omega]
      exact this
theorem chkPairs_ {tab : List Nat} : ∀ {fs done : List (Option Fp)} {i : Nat}, done.length = i → chkPairs tab i done fs = true → ∀ (k : Nat) f, fs[k]? = some f → ∀ (j : Nat) g, j < i + k → (done ++ fs)[j]? = some g → (tab.getD (i + k) 0).testBit j = true ∨ indep g f = true := by
  intro fs
  induction fs with
  | nil => intro done i _ _ k f h; simp at h
  | cons f fs ih =>
    intro done i hl h k f' hf j g hj hg
    simp only [chkPairs, Bool.and_eq_true] at h
    cases k with
    | zero =>
      simp at hf; subst hf
      rw [List.getElem?_append_left (by omega)] at hg
      have := chkPair_ h.1 j g hg
      simpa using this
    | succ k =>
      have := ih (done := done ++ [f]) (i := i + 1) (by simp [hl]) h.2 k f' (by simpa using hf) j g (by omega) (by simpa using hg)
      rw [show i + (k + 1) = i + 1 + k from by omega]
      exact this
end
end Go.Proofs.Ytkiliooegoldoaa

/- Whatever order is drawn. -/
set_option linter.unusedVariables false
set_option linter.unusedSimpArgs false
namespace Go.Proofs.Ytkiliooegoldoaa
open Go

section
variable (P : Program) (num : Nat → FuncId)
structure FnHere (k : Nat) (fd : AFunc) (fn : Func) (c : Code) : Prop where
  here : P.funcs[num k]? = some fn
  name : (fn.name == "runtime.NumGoroutine") = false
  body : fn.body = some c
end

section
variable {P : Program} {num : Nat → FuncId} {F : Nat → Option AFunc}

theorem one_sem (H : ∀ k fd, F k = some fd → ∃ fn c, FnHere P num k fd fn c) {ops : Array Oper} {a : AO} {o : Oper} {S S' : St} (hc : chkAO num P ops a o = true) (h : One1 P num F a S S') : OneSem P ops o S S' := by
  simp only [chkAO, Bool.and_eq_true, beq_iff_eq] at hc
  obtain ⟨⟨c1, c2⟩, c3⟩ := hc
  rcases h with ⟨h1, h2⟩ | ⟨h1, h2⟩ | ⟨k, as, args, fd, rs, tv, h1, hop, h3, h4, h5, h6, h7, h8⟩
  · exact one_not c1 c2 h1 h2
  · refine one_op c1 c2 ?_ h1 h2
    split at c3
    · rename_i hop
      rw [hop] at h2
      simp [step] at h2
    · exact c3
  · rw [hop] at c3
    obtain ⟨fn, c, ok⟩ := H k fd h4
    exact one_call c1 c2 c3 ok.here ok.name ok.body h1 h3 h5 h6 h7 h8

structure Reg (ops : Array Oper) (os : List AO) (tab : List Nat) : Prop where
  size : ops.size = os.length
  op : ∀ (i : Nat) a, os[i]? = some a → ∃ o, ops[i]? = some o ∧ chkAO num P ops a o = true
  back : ∀ (i : Nat) o, ops[i]? = some o → (∀ p ∈ predsOf o, p < i) ∧ ancMask tab (predsOf o) = tab.getD i 0
  free : ∀ (i : Nat) a, os[i]? = some a → ∀ (j : Nat) b, j < i → os[j]? = some b → (tab.getD i 0).testBit j = true ∨ indep (fpOf b) (fpOf a) = true

structure Left (ops : Array Oper) (R : List Nat) (listed : Array Bool) : Prop where
  sorted : R.Pairwise (· < ·)
  lt : ∀ i ∈ R, i < ops.size
  lsize : listed.size = ops.size
  listed : ∀ i, i < ops.size → (listed.getD i false = true ↔ i ∉ R)
  closed : ∀ (i : Nat) o, ops[i]? = some o → i ∉ R → ∀ p ∈ predsOf o, p ∉ R

theorem anc_out {ops : Array Oper} {os : List AO} {tab : List Nat} {R : List Nat} {listed : Array Bool} (hr : Reg (P := P) (num := num) ops os tab) (hl : Left ops R listed) :
    ∀ (i : Nat) o, ops[i]? = some o → (∀ p ∈ predsOf o, p ∉ R) → ∀ j, (tab.getD i 0).testBit j = true → j ∉ R := by
  intro i
  induction i using Nat.strongRecOn with
  | _ i ih =>
    intro o ho hp j hj
    obtain ⟨h1, h2⟩ := hr.back i o ho
    rw [← h2] at hj
    rcases ancMask_bit hj with hj | ⟨p, hpm, hj⟩
    · exact hp j hj
    · have hpi := h1 p hpm
      have hpn : p < ops.size := Nat.lt_trans hpi (Array.getElem?_eq_some_iff.1 ho).1
      exact ih p hpi ops[p] (Array.getElem?_eq_getElem hpn) (hl.closed p _ (Array.getElem?_eq_getElem hpn) (hp p hpm)) j hj

theorem mem_ready {ops : Array Oper} {listed : Array Bool} {i : Nat} (hs : listed.size = ops.size) : i ∈ Region.ready .any ops listed ↔ ∃ o, ops[i]? = some o ∧ listed.getD i false = false ∧ ∀ p ∈ predsOf o, listed.getD p false = true := by
  unfold Region.ready
  simp only [List.mem_filter, List.mem_range, Bool.and_eq_true, Bool.not_eq_true']
  constructor
  · rintro ⟨h1, h2, h3⟩
    refine ⟨ops[i], Array.getElem?_eq_getElem h1, ?_, ?_⟩
    · rw [Array.getD_eq_getD_getElem?, Array.getElem?_eq_getElem (by omega)] at h2 ⊢
      exact h2
    · rw [Array.getElem?_eq_getElem h1] at h3
      simp only [Option.map_some, Option.getD_some] at h3
      intro p hp
      obtain ⟨e, he, rfl⟩ := List.mem_map.1 hp
      obtain ⟨he1, he2⟩ := List.mem_filter.1 he
      have := Array.all_eq_true'.1 h3 e (by simpa using he1)
      simpa [he2] using this
  · rintro ⟨o, h1, h2, h3⟩
    have hlt := (Array.getElem?_eq_some_iff.1 h1).1
    refine ⟨hlt, ?_, ?_⟩
    · rw [Array.getD_eq_getD_getElem?, Array.getElem?_eq_getElem (by omega)] at h2 ⊢
      exact h2
    · rw [h1]
      simp only [Option.map_some, Option.getD_some]
      refine Array.all_eq_true'.2 fun e he => ?_
      cases hb : Region.binds .any e with
      | false => rfl
      | true => simpa using h3 e.on (List.mem_map.2 ⟨e, List.mem_filter.2 ⟨by simpa using he, hb⟩, rfl⟩)

theorem any_sound (H : ∀ k fd, F k = some fd → ∃ fn c, FnHere P num k fd fn c) {ops : Array Oper} {os : List AO} {tab : List Nat} (hr : Reg (P := P) (num := num) ops os tab) {E : Env} {Q : Exit → Act → World → Prop} {S' : St}
    (hQ : ∀ a' w' φ' bs', SR E S' a'.tmps.toList w' φ' bs' [] → a'.defers = [] → Q .normal a' w') :
    ∀ (fuel : Nat) {R : List Nat} {listed : Array Bool} {S : St} {a : Act} {w : World} {φ bs}, R.length = fuel → Left ops R listed → Ops1 P num F (R.map fun i => os.getD i default) S S' →
      SR E S a.tmps.toList w φ bs [] → a.defers = [] → wpAny P .any ops Q fuel listed a w := by
  intro fuel
  induction fuel with
  | zero =>
    intro R listed S a w φ bs hlen hl ho hs hd
    have : R = [] := List.length_eq_zero_iff.1 hlen
    subst this
    have hS : S' = S := ho
    refine ⟨?_, hQ a w φ bs (by rw [hS]; exact hs) hd⟩
    apply List.eq_nil_iff_forall_not_mem.2
    intro i hi
    obtain ⟨o, h1, h2, _⟩ := (mem_ready hl.lsize).1 hi
    have := (hl.listed i (Array.getElem?_eq_some_iff.1 h1).1).2 (by simp)
    rw [h2] at this; cases this
  | succ fuel ih =>
    intro R listed S a w φ bs hlen hl ho hs hd
    refine ⟨fun he => ?_, fun i hi => ?_⟩
    · -- some operation is ready
      exfalso
      cases R with
      | nil => simp at hlen
      | cons r R =>
        have hrn := hl.lt r (by simp)
        have hmem : r ∈ Region.ready .any ops listed := by
          refine (mem_ready hl.lsize).2 ⟨ops[r], Array.getElem?_eq_getElem hrn, ?_, fun p hp => ?_⟩
          · cases hx : listed.getD r false with
            | false => rfl
            | true => exact absurd (List.mem_cons_self) ((hl.listed r hrn).1 hx)
          · have hpr := (hr.back r _ (Array.getElem?_eq_getElem hrn)).1 p hp
            refine (hl.listed p (by omega)).2 fun hm => ?_
            have hsorted := List.pairwise_cons.1 hl.sorted
            rcases List.mem_cons.1 hm with rfl | hm
            · omega
            · have := hsorted.1 p hm; omega
        rw [he] at hmem
        cases hmem
    · obtain ⟨o, h1, h2, h3⟩ := (mem_ready hl.lsize).1 hi
      have hin := (Array.getElem?_eq_some_iff.1 h1).1
      have hiR : i ∈ R := by
        by_cases hm : i ∈ R
        · exact hm
        · have := (hl.listed i hin).2 hm; rw [h2] at this; cases this
      have hpre : ∀ p ∈ predsOf o, p ∉ R := fun p hp => (hl.listed p (by have := (hr.back i o h1).1 p hp; omega)).1 (h3 p hp)
      obtain ⟨L1, L2, rfl⟩ := List.append_of_mem hiR
      have hanc := anc_out hr hl i o h1 hpre
      have hsorted := List.pairwise_append.1 hl.sorted
      have hai : os[i]? = some (os.getD i default) := by
        rw [List.getD_eq_getElem?_getD, List.getElem?_eq_getElem (by rw [← hr.size]; exact hin)]; rfl
      rw [List.map_append, List.map_cons] at ho
      have ho' := moveFront (P := P) (num := num) (F := F) (fun b hb => by
        obtain ⟨j, hj, rfl⟩ := List.mem_map.1 hb
        have hji : j < i := hsorted.2.2 j hj i (by simp)
        have haj : os[j]? = some (os.getD j default) := by
          rw [List.getD_eq_getElem?_getD, List.getElem?_eq_getElem (by rw [← hr.size]; omega)]; rfl
        rcases hr.free i _ hai j _ hji haj with hb | hb
        · exact absurd (by simp [hj]) (hanc j hb)
        · exact hb) ho
      obtain ⟨S1, m1, m2⟩ := ho'
      obtain ⟨o', k1, k2⟩ := hr.op i _ hai
      rw [h1] at k1
      injection k1 with k1
      subst k1
      have hnot : i ∉ L1 ++ L2 := by
        intro hm
        rcases List.mem_append.1 hm with hm | hm
        · have := hsorted.2.2 i hm i (by simp); omega
        · have := (List.pairwise_cons.1 hsorted.2.1).1 i hm; omega
      refine one_sem H k2 m1 i E w φ bs a _ Q h1 hs hd fun a' w' φ' bs' hs' hd' => ?_
      refine ih (R := L1 ++ L2) (by simp at hlen ⊢; omega) ⟨?_, fun k hk => hl.lt k ?_, by simp [hl.lsize], fun k hk => ?_, fun k o' ho' hk p hp => ?_⟩ (by rw [List.map_append]; exact m2) hs' hd'
      · exact hl.sorted.sublist (List.Sublist.append_left (List.sublist_cons_self _ _) _)
      · rcases List.mem_append.1 hk with hk | hk
        · simp [hk]
        · simp [hk]
      · rw [Array.getD_eq_getD_getElem?, Array.getElem?_setIfInBounds]
        by_cases hki : i = k
        · subst hki
          simp [hl.lsize, hin]
          simpa using hnot
        · rw [if_neg hki, ← Array.getD_eq_getD_getElem?, hl.listed k hk]
          simp only [List.mem_append, List.mem_cons, not_or]
          constructor
          · rintro ⟨q1, q2, q3⟩; exact ⟨q1, q3⟩
          · rintro ⟨q1, q3⟩; exact ⟨q1, fun e => hki e.symm, q3⟩
      · have hsub : ∀ x, x ∈ L1 ++ L2 → x ∈ L1 ++ i :: L2 := by
          intro x hx
          rcases List.mem_append.1 hx with hx | hx <;> simp [hx]
        by_cases hki : k = i
        · subst hki
          rw [h1] at ho'
          injection ho' with ho'
          subst ho'
          exact fun hm => hpre p hp (hsub p hm)
        · have hkR : k ∉ L1 ++ i :: L2 := by
            intro hm
            apply hk
            rcases List.mem_append.1 hm with hm | hm
            · simp [hm]
            · rcases List.mem_cons.1 hm with hm | hm
              · exact absurd hm hki
              · simp [hm]
          exact fun hm => hl.closed k o' ho' hkR p hp (hsub p hm)

theorem draw_sound (H : ∀ k fd, F k = some fd → ∃ fn c, FnHere P num k fd fn c) {ops : Array Oper} {os : List AO} (hal : ∀ (i : Nat) a, os[i]? = some a → ∃ o, ops[i]? = some o ∧ chkAO num P ops a o = true) (hsz : ops.size = os.length)
    (hdr : drawOk os ops.toList = true) (hm : P.follows .mixedOrders = true) {id : Nat} {S S' : St} (h : Ops1 P num F os S S') : CodeSem P (.region id ops true) S .normal S' := by
  intro E w φ bs a Q hs hd hQ
  refine wp_region_any hm ?_
  unfold drawOk at hdr
  simp only [Bool.and_eq_true] at hdr
  have hreg : Reg (P := P) (num := num) ops os (mkTab ops.toList []) := by
    refine ⟨hsz, hal, fun i o ho => ?_, fun i x hx j b hji hb => ?_⟩
    · have := chkTab_ hdr.1 i o (by simpa using ho)
      simpa using this
    · have := chkPairs_ (done := []) (i := 0) rfl hdr.2 i (fpOf x) (by simp [hx]) j (fpOf b) (by omega) (by simp [hb])
      simpa using this
  have hs' : SR E S a.tmps.toList { w with drawn := w.drawn + 1 } φ bs [] := by
    have := (Gr.drew w φ).sr hs hs.cnt (fun g hg => by cases hg)
    exact this
  refine any_sound H hreg hQ ops.size (R := List.range ops.size) (by simp) ⟨List.pairwise_lt_range, by simp, by simp, fun i hi => ?_, fun i o ho hi => ?_⟩ ?_ hs' hd
  · rw [Array.getD_eq_getD_getElem?]
    simp [hi]
  · exact absurd (List.mem_range.2 (Array.getElem?_eq_some_iff.1 ho).1) hi
  · have : (List.range ops.size).map (fun i => os.getD i default) = os := by
      apply List.ext_getElem?
      intro i
      rw [List.getElem?_map]
      by_cases hi : i < ops.size
      · rw [List.getElem?_range hi]
        simp only [Option.map_some]
        rw [List.getD_eq_getElem?_getD, List.getElem?_eq_getElem (by omega)]
        rfl
      · rw [List.getElem?_eq_none (by simp; omega), List.getElem?_eq_none (by omega)]; rfl
    rw [this]
    exact h
end
end Go.Proofs.Ytkiliooegoldoaa

/- Code and functions: what the evaluator answers, the program answers. -/
set_option linter.unusedVariables false
set_option linter.unusedSimpArgs false
namespace Go.Proofs.Ytkiliooegoldoaa
open Go

section
variable (P : Program) (num : Nat → FuncId)

def chkAOs (ops : Array Oper) : List AO → List Oper → Bool
  | [], [] => true
  | a :: as, o :: os => chkAO num P ops a o && chkAOs ops as os
  | _, _ => false

def chkCode : ACode → Code → Bool
  | .skip, .skip => true
  | .region os _, .region _ ops draw => chkAOs P num ops os ops.toList && (!draw || (P.follows .mixedOrders && drawOk os ops.toList))
  | .seq a b, .seq x y => chkCode a x && chkCode b y
  | .cond c a b, .cond c' x y => chkO c' c && chkCode a x && chkCode b y
  | .block id a, .block id' x => id == id' && chkCode a x
  | .loop a, .loop x => chkCode a x
  | .exit id, .exit id' => id == id'
  | .ret, .ret => true
  | .pre ps a, x => noRelev ps && chkCode a x
  | _, _ => false

structure FnOk (k : Nat) (fd : AFunc) (fn : Func) (c : Code) : Prop extends FnHere P num k fd fn c where
  ntmps : fn.ntmps = fd.ntmps
  res : chkRess P fn.results.toList fd.results fd.rk = true
  code : chkCode P num fd.body c = true

def chkFn (k : Nat) (fd : AFunc) : Bool :=
  match P.funcs[num k]? with
  | some fn => !(fn.name == "runtime.NumGoroutine") && fn.ntmps == fd.ntmps && chkRess P fn.results.toList fd.results fd.rk && (match fn.body with
    | some c => chkCode P num fd.body c
    | none => false)
  | none => false
theorem chkFn_ {k fd} (h : chkFn P num k fd = true) : ∃ fn c, FnOk P num k fd fn c := by
  unfold chkFn at h
  split at h
  · rename_i fn hfn
    simp only [Bool.and_eq_true, Bool.not_eq_true', beq_iff_eq] at h
    obtain ⟨⟨⟨h1, h2⟩, h3⟩, h4⟩ := h
    split at h4
    · rename_i c hc
      exact ⟨fn, c, ⟨hfn, h1, hc⟩, h2, h3, h4⟩
    · cases h4
  · cases h

def JobSem (F : Nat → Option AFunc) : Job → Prop
  | .code c S e S' => (∀ rc, chkCode P num c rc = true → CodeSem P rc S e S') ∧ ∀ rc' c', c = .loop c' → chkCode P num c' rc' = true → ∃ n, Rounds P rc' n S e S'
  | .ops os S S' => Ops1 P num F os S S'
  | .one a S S' => One1 P num F a S S'
  | .fn k args rs => ∀ fd, F k = some fd → FnSem P (num k) fd args rs
end

theorem chkAOs_len {P : Program} {num : Nat → FuncId} {ops : Array Oper} : ∀ {os : List AO} {l : List Oper}, chkAOs P num ops os l = true → l.length = os.length ∧ ∀ (i : Nat) a, os[i]? = some a → ∃ o, l[i]? = some o ∧ chkAO num P ops a o = true := by
  intro os
  induction os with
  | nil => intro l h; cases l <;> simp [chkAOs] at h; exact ⟨rfl, fun i a h => by simp at h⟩
  | cons a os ih =>
    intro l h
    cases l with
    | nil => simp [chkAOs] at h
    | cons o l =>
      simp only [chkAOs, Bool.and_eq_true] at h
      obtain ⟨h1, h2⟩ := ih h.2
      refine ⟨by simp [h1], fun i a' ha => ?_⟩
      cases i with
      | zero => simp at ha; subst ha; exact ⟨o, rfl, h.1⟩
      | succ i => exact h2 i a' (by simpa using ha)

theorem ops_nil {P : Program} {ops : Array Oper} {S : St} : OpsSem P ops [] S S := fun E w φ bs a Q hs hd hQ => hQ a w φ bs hs hd
theorem ops_cons {P : Program} {ops : Array Oper} {i : Nat} {is : List Nat} {o : Oper} {S S1 S2 : St} (hi : ops[i]? = some o) (h1 : OneSem P ops o S S1) (h2 : OpsSem P ops is S1 S2) : OpsSem P ops (i :: is) S S2 := by
  intro E w φ bs a Q hs hd hQ
  rw [wpOps_cons]
  exact h1 i E w φ bs a _ Q hi hs hd fun a' w' φ' bs' hs' hd' => h2 E w' φ' bs' a' Q hs' hd' hQ

theorem ops_sem {P : Program} {num : Nat → FuncId} {F : Nat → Option AFunc} (H : ∀ k fd, F k = some fd → ∃ fn c, FnHere P num k fd fn c) {ops : Array Oper} :
    ∀ {os : List AO} {n : Nat} {S S'}, (∀ (i : Nat) a, os[i]? = some a → ∃ o, ops[n + i]? = some o ∧ chkAO num P ops a o = true) → Ops1 P num F os S S' → OpsSem P ops (List.range' n os.length) S S' := by
  intro os
  induction os with
  | nil => intro n S S' _ h; rw [show S' = S from h]; exact ops_nil
  | cons a os ih =>
    intro n S S' hal h
    obtain ⟨S1, h1, h2⟩ := h
    obtain ⟨o, k1, k2⟩ := hal 0 a rfl
    exact ops_cons k1 (one_sem H k2 h1) (ih (fun i a ha => by rw [show n + 1 + i = n + (i + 1) from by omega]; exact hal (i + 1) a (by simpa using ha)) h2)

theorem fn_sound {P : Program} {num : Nat → FuncId} {k fd fn c args rs S e S'} (ok : FnOk P num k fd fn c) (h1 : entry fd args = some S) (h2 : CodeSem P c S e S') (he : e.leaves = true) (h3 : outs S' fd.results fd.rk = some rs) :
    FnSem P (num k) fd args rs := by
  intro w φ vals hA
  obtain ⟨hle, hs⟩ := entry_sound h1 hA
  refine calls_of_wp ok.here ok.body ?_
  rw [ok.ntmps]
  refine h2 (env0 w φ) w φ [] _ _ (by simpa using hs) rfl fun a' w' φ' bs' hs' hd' => ?_
  obtain ⟨hgr, v, hv, hret⟩ := exit_sound hs' ok.res h3
  cases e with
  | exit id => cases he
  | normal => exact ⟨hd', v, hv, v, rfl, φ', hgr, hret⟩
  | ret => exact ⟨hd', v, hv, v, rfl, φ', hgr, hret⟩

theorem region_sem {P : Program} {num : Nat → FuncId} {F : Nat → Option AFunc} (H : ∀ k fd, F k = some fd → ∃ fn c, FnHere P num k fd fn c) {os : List AO} {id : Nat} {ops : Array Oper} {draw : Bool} {S S' : St}
    (hc : chkAOs P num ops os ops.toList = true) (hd : draw = false ∨ (P.follows .mixedOrders = true ∧ drawOk os ops.toList = true)) (h : Ops1 P num F os S S') : CodeSem P (.region id ops draw) S .normal S' := by
  obtain ⟨h1, h2⟩ := chkAOs_len hc
  rw [Array.length_toList] at h1
  have hal : ∀ (i : Nat) a, os[i]? = some a → ∃ o, ops[i]? = some o ∧ chkAO num P ops a o = true := fun i a ha => by
    obtain ⟨o, k1, k2⟩ := h2 i a ha
    exact ⟨o, by rw [← Array.getElem?_toList]; exact k1, k2⟩
  cases draw with
  | false =>
    intro E w φ bs a Q hs hdf hQ
    refine wp_region ?_
    have := ops_sem H (n := 0) (fun i a ha => by rw [Nat.zero_add]; exact hal i a ha) h
    rw [List.range_eq_range', h1]
    exact this E w φ bs a Q hs hdf hQ
  | true =>
    obtain ⟨hm, hdr⟩ := hd.resolve_left (by simp)
    exact draw_sound H hal h1 hdr hm h

theorem big_sound {P : Program} {num : Nat → FuncId} {F : Nat → Option AFunc} (H : ∀ k fd, F k = some fd → ∃ fn c, FnOk P num k fd fn c) {j : Job} (h : Big F j) : JobSem P num F j := by
  have H' : ∀ k fd, F k = some fd → ∃ fn c, FnHere P num k fd fn c := fun k fd hF => by
    obtain ⟨fn, c, ok⟩ := H k fd hF
    exact ⟨fn, c, ok.toFnHere⟩
  induction h with
  | skip S =>
    refine ⟨fun rc hc => ?_, fun rc' c' e _ => by cases e⟩
    cases rc <;> simp [chkCode] at hc
    exact fun E w φ bs a Q hs hd hQ => wp_skip (hQ a w φ bs hs hd)
  | exit id S =>
    refine ⟨fun rc hc => ?_, fun rc' c' e _ => by cases e⟩
    cases rc <;> simp [chkCode] at hc
    subst hc
    exact fun E w φ bs a Q hs hd hQ => wp_exit (hQ a w φ bs hs hd)
  | ret S =>
    refine ⟨fun rc hc => ?_, fun rc' c' e _ => by cases e⟩
    cases rc <;> simp [chkCode] at hc
    exact fun E w φ bs a Q hs hd hQ => wp_ret (hQ a w φ bs hs hd)
  | @region os ks S S' _ ih =>
    refine ⟨fun rc hc => ?_, fun rc' c' e _ => by cases e⟩
    cases rc with
    | region id ops draw =>
      simp only [chkCode, Bool.and_eq_true, Bool.or_eq_true, Bool.not_eq_true'] at hc
      have hsem := region_sem (id := id) H' hc.1 hc.2 ih
      intro E w φ bs a Q hs hd hQ
      refine hsem E w φ bs a Q hs hd fun a' w' φ' bs' hs' hd' => ?_
      obtain ⟨b2, k⟩ := killSlots_sound (ts := ks) hs'
      exact hQ a' w' φ' b2 k hd'
    | _ => simp [chkCode] at hc
  | seqN _ _ ih1 ih2 =>
    refine ⟨fun rc hc => ?_, fun rc' c' e _ => by cases e⟩
    cases rc with
    | seq x y =>
      simp only [chkCode, Bool.and_eq_true] at hc
      exact sem_seqN (ih1.1 x hc.1) (ih2.1 y hc.2)
    | _ => simp [chkCode] at hc
  | seqE _ hne ih1 =>
    refine ⟨fun rc hc => ?_, fun rc' c' e _ => by cases e⟩
    cases rc with
    | seq x y =>
      simp only [chkCode, Bool.and_eq_true] at hc
      exact sem_seqE (ih1.1 x hc.1) hne
    | _ => simp [chkCode] at hc
  | @cond c a b S l t e S' hb _ ih =>
    refine ⟨fun rc hc => ?_, fun rc' c' e _ => by cases e⟩
    cases rc with
    | cond c' x y =>
      simp only [chkCode, Bool.and_eq_true] at hc
      exact sem_cond hc.1.1 hb (ih.1 _ (by cases t <;> simp [hc.1.2, hc.2]))
    | _ => simp [chkCode] at hc
  | block _ ih =>
    refine ⟨fun rc hc => ?_, fun rc' c' e _ => by cases e⟩
    cases rc with
    | block id' x =>
      simp only [chkCode, Bool.and_eq_true, beq_iff_eq] at hc
      obtain ⟨rfl, hc⟩ := hc
      exact sem_block (ih.1 x hc)
    | _ => simp [chkCode] at hc
  | @loopN a S S1 e S2 _ _ ih1 ih2 =>
    have key : ∀ rc', chkCode P num a rc' = true → ∃ n, Rounds P rc' n S e S2 := by
      intro rc' hc
      obtain ⟨n, hn⟩ := ih2.2 rc' a rfl hc
      exact ⟨n + 1, S1, ih1.1 rc' hc, hn⟩
    refine ⟨fun rc hc => ?_, fun rc' c' e hc => by injection e with e; subst e; exact key rc' hc⟩
    cases rc with
    | loop x =>
      obtain ⟨n, hn⟩ := key x (by simpa [chkCode] using hc)
      exact rounds_sem hn
    | _ => simp [chkCode] at hc
  | @loopE a S e S1 _ hne ih1 =>
    have key : ∀ rc', chkCode P num a rc' = true → ∃ n, Rounds P rc' n S e S1 := fun rc' hc => ⟨0, hne, ih1.1 rc' hc⟩
    refine ⟨fun rc hc => ?_, fun rc' c' e hc => by injection e with e; subst e; exact key rc' hc⟩
    cases rc with
    | loop x =>
      obtain ⟨n, hn⟩ := key x (by simpa [chkCode] using hc)
      exact rounds_sem hn
    | _ => simp [chkCode] at hc
  | @pre ps a S S1 e S2 hp _ ih =>
    refine ⟨fun rc hc => ?_, fun rc' c' e _ => by cases e⟩
    have hc' : noRelev ps = true ∧ chkCode P num a rc = true := by
      cases rc <;> simpa [chkCode] using hc
    intro E w φ bs x Q hs hd hQ
    obtain ⟨b1, k⟩ := pseudo_sound hc'.1 hs hp
    exact ih.1 rc hc'.2 E w φ b1 x Q k hd hQ
  | nil S => exact rfl
  | cons _ _ ih1 ih2 => exact ⟨_, ih1, ih2⟩
  | not h1 h2 => exact .inl ⟨h1, h2⟩
  | step h1 h2 => exact .inr (.inl ⟨h1, h2⟩)
  | @call ao S S' k as args fd rs tv h1 hop h2 hF h3 _ h4 h5 ih => exact .inr (.inr ⟨k, as, args, fd, rs, tv, h1, hop, h2, hF, h3, ih fd hF, h4, h5⟩)
  | @fn k fd args rs S e S' hF h1 _ he h2 ih =>
    intro fd' hF'
    rw [hF] at hF'
    injection hF' with hF'
    subst hF'
    obtain ⟨fn, c, ok⟩ := H k fd hF
    exact fn_sound ok h1 (ih.1 c ok.code) he h2

end Go.Proofs.Ytkiliooegoldoaa
