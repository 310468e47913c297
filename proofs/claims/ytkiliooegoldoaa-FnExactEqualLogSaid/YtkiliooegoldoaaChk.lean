/- The checker of one operation. -/
import Derived.Test.YtkiliooegoldoaaOps14
import Derived.Test.YtkiliooegoldoaaEv
set_option linter.unusedVariables false
set_option linter.unusedSimpArgs false
namespace Go.Proofs.Ytkiliooegoldoaa
open Go

def isT : AOpnd → Bool
  | .t _ _ => true
  | .c _ => false
theorem isT_ {x : AOpnd} (h : isT x = true) : ∃ n rs, x = .t n rs := by
  cases x with
  | t n rs => exact ⟨n, rs, rfl⟩
  | c p => cases h

section
variable (P : Program)
def elemOf (t : TypeId) : Option TypeInfo :=
  match P.underlying t with
  | some (.slice e) => P.info? e
  | _ => none
theorem elemOf_ {t i} (h : elemOf P t = some i) : ∃ e, P.underlying t = some (.slice e) ∧ P.info? e = some i := by
  unfold elemOf at h
  split at h
  · exact ⟨_, by assumption, h⟩
  · cases h
def widthOk (n : Option Nat) (t : TypeId) : Bool :=
  match P.underlying t, P.info? t with
  | some dt, some i => match n with
    | none => !aggD dt
    | some k => aggD dt && i.size == k
  | _, _ => false
theorem widthOk_ {n t} (h : widthOk P n t = true) : ∃ dt i, P.underlying t = some dt ∧ P.info? t = some i ∧ (match (generalizing := false) n with | none => aggD dt = false | some k => aggD dt = true ∧ i.size = k) := by
  unfold widthOk at h
  split at h
  · refine ⟨_, _, by assumption, by assumption, ?_⟩
    split at h
    · simpa using h
    · simpa using h
  · cases h
def fieldAt (s : TypeId) (f : Nat) : Option Field :=
  match P.underlying s with
  | some (.struct fs) => fs[f]?
  | _ => none
theorem fieldAt_ {s f fd} (h : fieldAt P s f = some fd) : ∃ fs, P.underlying s = some (.struct fs) ∧ fs[f]? = some fd := by
  unfold fieldAt at h
  split at h
  · exact ⟨_, by assumption, h⟩
  · cases h
def isStr (t : TypeId) : Bool := match P.underlying t with
  | some .string => true
  | _ => false
theorem isStr_ {t} (h : isStr P t = true) : P.underlying t = some .string := by
  unfold isStr at h
  split at h
  · assumption
  · cases h
def isBool (t : TypeId) : Bool := match P.underlying t with
  | some .bool => true
  | _ => false
theorem isBool_ {t} (h : isBool P t = true) : P.underlying t = some .bool := by
  unfold isBool at h
  split at h
  · assumption
  · cases h
def isInt (k : IntKind) (t : TypeId) : Bool := match P.underlying t with
  | some (.int k') => k' == k
  | _ => false
theorem isInt_ {k t} (h : isInt P k t = true) : P.underlying t = some (.int k) := by
  unfold isInt at h
  split at h
  · rename_i k' hk
    rw [hk]
    simp at h
    rw [h]
  · cases h

def cMv (x : AOpnd) : Op → Bool
  | .move y => chkO y x
  | .assign y => chkO y x
  | _ => false
def cPick (c a b : AOpnd) : Op → Bool
  | .pick x y z => chkO x c && chkO y a && chkO z b
  | _ => false
def cLoad (n : Option Nat) (p : AOpnd) : Op → Bool
  | .load t a => isT p && chkO a p && widthOk P n t
  | _ => false
def cStore (n : Nat) (p x : AOpnd) : Op → Bool
  | .store t a y => isT p && chkO a p && chkO y x && (match P.info? t with
    | some i => i.size == n
    | none => false)
  | _ => false
def cFaddr (off : Nat) (p : AOpnd) : Op → Bool
  | .fieldAddr s a f => isT p && chkO a p && (match fieldAt P s f with
    | some fd => fd.offset == off && (match P.info? fd.type with
      | some i => i.size != 0
      | none => false)
    | none => false)
  | _ => false
def cField (off : Nat) (n : Option Nat) (x : AOpnd) : Op → Bool
  | .field s a f => chkO a x && (match fieldAt P s f with
    | some fd => fd.offset == off && widthOk P n fd.type
    | none => false)
  | _ => false
def cIaddr (sz : Nat) (x i : AOpnd) : Op → Bool
  | .indexAddr t y ix => isT x && chkO y x && chkO ix i && decide (0 < sz) && (match elemOf P t with
    | some ti => ti.size == sz
    | none => false)
  | _ => false
def cIndex (x i : AOpnd) : Op → Bool
  | .index t y ix => chkO y x && chkO ix i && isStr P t
  | _ => false
def builtin1 (b : Builtin) : Op → Option (Operand × TypeId)
  | .call { callee := .builtin b', args := ⟨[x]⟩, argTypes := ⟨[t]⟩ } => if b' = b then some (x, t) else none
  | _ => none
def builtin2 (b : Builtin) : Op → Option (Operand × Operand × Array TypeId)
  | .call { callee := .builtin b', args := ⟨[x, y]⟩, argTypes := t } => if b' = b then some (x, y, t) else none
  | _ => none
theorem builtin1_ {b op x t} (h : builtin1 b op = some (x, t)) : ∃ c : Call, op = .call c ∧ c.callee = .builtin b ∧ c.args = #[x] ∧ c.argTypes = #[t] := by
  unfold builtin1 at h
  split at h
  · split at h
    · rename_i hb
      simp only [Option.some.injEq, Prod.mk.injEq] at h
      obtain ⟨rfl, rfl⟩ := h
      subst hb
      exact ⟨_, rfl, rfl, rfl, rfl⟩
    · cases h
  · cases h
theorem builtin2_ {b op x y t} (h : builtin2 b op = some (x, y, t)) : ∃ c : Call, op = .call c ∧ c.callee = .builtin b ∧ c.args = #[x, y] ∧ c.argTypes = t := by
  unfold builtin2 at h
  split at h
  · split at h
    · rename_i hb
      simp only [Option.some.injEq, Prod.mk.injEq] at h
      obtain ⟨rfl, rfl, rfl⟩ := h
      subst hb
      exact ⟨_, rfl, rfl, rfl, rfl⟩
    · cases h
  · cases h
def cLen (x : AOpnd) (op : Op) : Bool :=
  match builtin1 .len op with
  | some (y, t) => chkO y x && (elemOf P t).isSome
  | none => false
def cLenS (x : AOpnd) (op : Op) : Bool :=
  match builtin1 .len op with
  | some (y, t) => chkO y x && isStr P t
  | none => false
def cMax (b : Builtin) (x y : AOpnd) (op : Op) : Bool :=
  match builtin2 b op with
  | some (x', y', _) => chkO x' x && chkO y' y
  | none => false
def cAppend (lev : Lev) (sz bytes : Nat) (x y : AOpnd) (op : Op) : Bool :=
  match builtin2 .append op with
  | some (x', y', ⟨[t, t']⟩) => t == t' && chkO x' x && chkO y' y && decide (0 < sz) && decide (0 < bytes) && (match elemOf P t with
    | some i => i.size == sz && i.bytes == bytes && (match i.zero with
      | some z => z.cells.size == sz
      | none => false)
    | none => false)
  | _ => false
def cBin (b : BinOp) (x y : AOpnd) : Op → Bool
  | .binOp b' _ x' y' _ => b' == b && chkO x' x && chkO y' y
  | _ => false
def cEqB (neg : Bool) (x y : AOpnd) : Op → Bool
  | .binOp b' t x' y' _ => b' == (if neg then .neq else .eql) && chkO x' x && chkO y' y && isBool P t
  | _ => false
def cEqAgg (neg : Bool) (ks : List Nat) (x y : AOpnd) : Op → Bool
  | .binOp b' t x' y' _ => b' == (if neg then .neq else .eql) && chkO x' x && chkO y' y && !P.stoodInHeld t && !P.eqGuardType P.depth t && (match P.underlying t with
    | some (.struct fs) => kindsOk P 0 fs.toList ks
    | _ => false)
  | _ => false
def cUn (u : UnOp) (x : AOpnd) : Op → Bool
  | .unOp u' _ x' => u' == u && chkO x' x
  | _ => false
def cConvInt (k : IntKind) (x : AOpnd) : Op → Bool
  | .convert s t x' => chkO x' x && (P.underlying s).isSome && isInt P k t
  | _ => false
def cSliceS (x : AOpnd) (lo hi : Option AOpnd) : Op → Bool
  | .slice t x' lo' hi' none => chkO x' x && chkOO lo' lo && chkOO hi' hi && isStr P t
  | _ => false
def cSlice (sz : Nat) (x : AOpnd) (lo hi mx : Option AOpnd) : Op → Bool
  | .slice t x' lo' hi' mx' => chkO x' x && chkOO lo' lo && chkOO hi' hi && chkOO mx' mx && (match elemOf P t with
    | some i => i.size == sz
    | none => false)
  | _ => false
def cNil (x : AOpnd) : Op → Bool
  | .nilCheck y => isT x && chkO y x
  | _ => false
def cExtract (i : Nat) (x : AOpnd) : Op → Bool
  | .extract y j => j == i && isT x && chkO y x
  | _ => false
def zeroOk (t : TypeId) (cs : List PV) : Bool :=
  match P.info? t with
  | some i => match i.zero with
    | some z => chkCells z.cells.toList cs
    | none => false
  | none => false
theorem zeroOk_ {t cs} (h : zeroOk P t cs = true) : ∃ i z, P.info? t = some i ∧ i.zero = some z ∧ chkCells z.cells.toList cs = true := by
  unfold zeroOk at h
  split at h
  · split at h
    · exact ⟨_, _, by assumption, by assumption, h⟩
    · cases h
  · cases h
def cAlloc (cs : List PV) : Op → Bool
  | .alloc t => zeroOk P t cs
  | _ => false
def cBox (x : AOpnd) : Op → Bool
  | .box _ y => chkO y x
  | _ => false
def placesOf (t : TypeId) : Option (List (Nat × Nat)) :=
  match P.underlying t with
  | some (.struct fs) => fs.toList.mapM (fun f => (P.info? f.type).map fun i => (f.offset, i.size))
  | _ => none
theorem placesOf_ {t pl} (h : placesOf P t = some pl) : ∃ fs, P.underlying t = some (.struct fs) ∧ fs.toList.mapM (fun f => (P.info? f.type).map fun i => (f.offset, i.size)) = some pl := by
  unfold placesOf at h
  split at h
  · exact ⟨_, by assumption, h⟩
  · cases h
def cBuild (zs : List PV) (ps : List (Nat × Nat × AOpnd)) : Op → Bool
  | .build t rp => zeroOk P t zs && (match placesOf P t with
    | some pl => chkParts (pl.toArray[·]?) rp.toList ps
    | none => false)
  | _ => false
def elemZero (t : TypeId) (sz : Nat) (zs : List PV) : Option TypeInfo :=
  match elemOf P t with
  | some i => match i.zero with
    | some z => if i.size = sz ∧ z.cells.size = sz ∧ chkCells z.cells.toList zs = true then some i else none
    | none => none
  | none => none
theorem elemZero_ {t sz zs i} (h : elemZero P t sz zs = some i) : ∃ e z, P.underlying t = some (.slice e) ∧ P.info? e = some i ∧ i.zero = some z ∧ i.size = sz ∧ z.cells.size = sz ∧ chkCells z.cells.toList zs = true := by
  unfold elemZero at h
  split at h
  · rename_i i' hi
    split at h
    · rename_i z hz
      split at h
      · rename_i hc
        injection h with h
        subst h
        obtain ⟨e, h1, h2⟩ := elemOf_ P hi
        exact ⟨e, z, h1, h2, hz, hc⟩
      · cases h
    · cases h
  · cases h
def cMkSl (lev : Lev) (sz : Nat) (zs : List PV) (n : Nat) (ps : List (Nat × AOpnd)) : Op → Bool
  | .buildSlice t n' rp => n' == n && isOwn lev && decide (0 < sz) && decide (n * sz ≤ 16777216) && chkRows rp.toList ps && (elemZero P t sz zs).isSome
  | _ => false
def sameO : Operand → Operand → Bool
  | .tmp a, .tmp b => a == b
  | .const (.int _ a), .const (.int _ b) => a == b
  | _, _ => false
def cMake (lev : Lev) (sz : Nat) (zs : List PV) (x : AOpnd) : Op → Bool
  | .makeSlice t (.tmp y) (.tmp y') => y == y' && chkO (.tmp y) x && (match elemZero P t sz zs with
    | some i => decide (i.bytes ≤ 256)
    | none => false)
  | .makeSlice t (.const (.int k y)) (.const (.int k' y')) => k == k' && y == y' && chkO (.const (.int k y)) x && (match elemZero P t sz zs with
    | some i => decide (i.bytes ≤ 256)
    | none => false)
  | _ => false

def chkOp : AOp → Op → Bool
  | .mv _ x, op => cMv x op
  | .take _ x, op => cMv x op
  | .pick c a b, op => cPick c a b op
  | .alloc _ cs _, op => cAlloc P cs op
  | .box _ x, op => cBox x op
  | .boxV _, _ => false
  | .build zs ps, op => cBuild P zs ps op
  | .mkSl lev sz zs n ps, op => cMkSl P lev sz zs n ps op
  | .load n p, op => cLoad P n p op
  | .store n p x, op => cStore P n p x op
  | .bin b x y, op => cBin b x y op
  | .eqB neg x y, op => cEqB P neg x y op
  | .eqAgg neg ks x y, op => cEqAgg P neg ks x y op
  | .un u x, op => cUn u x op
  | .convInt k x, op => cConvInt P k x op
  | .bytesStr .., _ => false
  | .make lev sz zs x, op => cMake P lev sz zs x op
  | .sliceS x lo hi, op => cSliceS P x lo hi op
  | .slice sz x lo hi mx, op => cSlice P sz x lo hi mx op
  | .faddr off p, op => cFaddr P off p op
  | .field off n x, op => cField P off n x op
  | .iaddr sz x i, op => cIaddr P sz x i op
  | .index x i, op => cIndex P x i op
  | .extract i x, op => cExtract i x op
  | .len x, op => cLen P x op
  | .lenS x, op => cLenS P x op
  | .append lev sz bytes x y, op => cAppend P lev sz bytes x y op
  | .appendStr .., _ => false
  | .max x y, op => cMax .max x y op
  | .min x y, op => cMax .min x y op
  | .nilchk x, op => cNil x op
  | .call .., _ => false
end

section
variable {P : Program} {ρ : Operand → Value} {o : Oper} {E : Env} {S S' : St} {vs : List Value} {w : World} {φ : Nat → Nat} {bs : List Nat} {d : Option Nat}

theorem cMv_ {x op} (h : cMv x op = true) : ∃ y, (op = .move y ∨ op = .assign y) ∧ chkO y x = true := by
  unfold cMv at h
  split at h
  · exact ⟨_, .inl rfl, h⟩
  · exact ⟨_, .inr rfl, h⟩
  · cases h

theorem op_sound {a : AOp} (hc : chkOp P a o.op = true) (hs : SR E S vs w φ bs []) (hρ : RhoR ρ vs) (h : step S d a = some S') : Goal P ρ o E S' vs d w := by
  cases a with
  | mv g x =>
    obtain ⟨y, h1, h2⟩ := cMv_ hc
    exact mv_goal hs hρ h1 h2 h
  | take g x =>
    obtain ⟨y, h1, h2⟩ := cMv_ hc
    exact take_goal hs hρ h1 h2 h
  | pick c a b =>
    simp only [chkOp] at hc
    unfold cPick at hc
    split at hc
    · rename_i ho
      simp only [Bool.and_eq_true] at hc
      exact pick_goal hs hρ ho hc.1.1 hc.1.2 hc.2 h
    · cases hc
  | alloc g cs ls =>
    simp only [chkOp] at hc
    unfold cAlloc at hc
    split at hc
    · rename_i ho
      obtain ⟨i, z, h1, h2, h3⟩ := zeroOk_ P hc
      exact alloc_goal hs ho h1 h2 h3 h
    · cases hc
  | box g x =>
    simp only [chkOp] at hc
    unfold cBox at hc
    split at hc
    · rename_i ho
      exact box_goal hs hρ ho hc h
    · cases hc
  | boxV x => cases hc
  | build zs ps =>
    simp only [chkOp] at hc
    unfold cBuild at hc
    split at hc
    · rename_i ho
      simp only [Bool.and_eq_true] at hc
      obtain ⟨i, z, h1, h2, h3⟩ := zeroOk_ P hc.1
      have hc2 := hc.2
      split at hc2
      · rename_i pl hpl
        obtain ⟨fs, k1, k2⟩ := placesOf_ P hpl
        exact build_goal hs hρ ho k1 h1 h2 k2 h3 hc2 h
      · cases hc2
    · cases hc
  | mkSl lev sz zs n ps =>
    simp only [chkOp] at hc
    unfold cMkSl at hc
    split at hc
    · rename_i ho
      simp only [Bool.and_eq_true, beq_iff_eq, decide_eq_true_eq] at hc
      obtain ⟨⟨⟨⟨⟨rfl, c2⟩, c3⟩, c4⟩, c5⟩, c6⟩ := hc
      obtain ⟨i, c6⟩ := Option.isSome_iff_exists.1 c6
      obtain ⟨e, z, k1, k2, k3, k4, k5, k6⟩ := elemZero_ P c6
      exact mkSl_goal hs hρ ho k1 k2 k3 k4 c3 k5 c4 k6 c5 c2 h
    · cases hc
  | load n p =>
    simp only [chkOp] at hc
    unfold cLoad at hc
    split at hc
    · rename_i ho
      simp only [Bool.and_eq_true] at hc
      obtain ⟨m, rs, rfl⟩ := isT_ hc.1.1
      obtain ⟨dt, i, h1, h2, h3⟩ := widthOk_ P hc.2
      exact load_goal hs hρ ho hc.1.2 h1 h2 h3 h
    · cases hc
  | store n p x =>
    simp only [chkOp] at hc
    unfold cStore at hc
    split at hc
    · rename_i ho
      simp only [Bool.and_eq_true] at hc
      obtain ⟨⟨⟨c1, c2⟩, c3⟩, c4⟩ := hc
      obtain ⟨m, rs, rfl⟩ := isT_ c1
      split at c4
      · rename_i i hi
        exact store_goal hs hρ ho c2 c3 hi (by simpa using c4) h
      · cases c4
    · cases hc
  | bin b x y =>
    simp only [chkOp] at hc
    unfold cBin at hc
    split at hc
    · rename_i ho
      simp only [Bool.and_eq_true, beq_iff_eq] at hc
      obtain ⟨⟨rfl, c2⟩, c3⟩ := hc
      exact bin_goal hs hρ ho c2 c3 h
    · cases hc
  | eqB neg x y =>
    simp only [chkOp] at hc
    unfold cEqB at hc
    split at hc
    · rename_i ho
      simp only [Bool.and_eq_true, beq_iff_eq] at hc
      obtain ⟨⟨⟨rfl, c2⟩, c3⟩, c4⟩ := hc
      exact eqB_goal hs hρ ho c2 c3 (isBool_ P c4) h
    · cases hc
  | eqAgg neg ks x y =>
    simp only [chkOp] at hc
    unfold cEqAgg at hc
    split at hc
    · rename_i ho
      simp only [Bool.and_eq_true, beq_iff_eq, Bool.not_eq_true'] at hc
      obtain ⟨⟨⟨⟨⟨rfl, c2⟩, c3⟩, c4⟩, c5⟩, c6⟩ := hc
      split at c6
      · rename_i fs hu
        exact eqAgg_goal hs hρ ho c2 c3 hu c4 c5 c6 h
      · cases c6
    · cases hc
  | un u x =>
    simp only [chkOp] at hc
    unfold cUn at hc
    split at hc
    · rename_i ho
      simp only [Bool.and_eq_true, beq_iff_eq] at hc
      obtain ⟨rfl, c2⟩ := hc
      exact un_goal hs hρ ho c2 h
    · cases hc
  | convInt k x =>
    simp only [chkOp] at hc
    unfold cConvInt at hc
    split at hc
    · rename_i ho
      simp only [Bool.and_eq_true] at hc
      obtain ⟨ds, hd⟩ := Option.isSome_iff_exists.1 hc.1.2
      exact convInt_goal hs hρ ho hc.1.1 hd (isInt_ P hc.2) h
    · cases hc
  | bytesStr x => cases hc
  | make lev sz zs x =>
    simp only [chkOp] at hc
    unfold cMake at hc
    split at hc
    · rename_i ho
      simp only [Bool.and_eq_true, beq_iff_eq] at hc
      obtain ⟨⟨rfl, c2⟩, c3⟩ := hc
      split at c3
      · rename_i i hi
        obtain ⟨e, z, k1, k2, k3, k4, k5, k6⟩ := elemZero_ P hi
        exact make_goal hs hρ ho rfl k1 k2 k3 k4 k5 (by simpa using c3) k6 c2 h
      · cases c3
    · rename_i ho
      simp only [Bool.and_eq_true, beq_iff_eq] at hc
      obtain ⟨⟨⟨rfl, rfl⟩, c2⟩, c3⟩ := hc
      split at c3
      · rename_i i hi
        obtain ⟨e, z, k1, k2, k3, k4, k5, k6⟩ := elemZero_ P hi
        exact make_goal hs hρ ho rfl k1 k2 k3 k4 k5 (by simpa using c3) k6 c2 h
      · cases c3
    · cases hc
  | sliceS x lo hi =>
    simp only [chkOp] at hc
    unfold cSliceS at hc
    split at hc
    · rename_i ho
      simp only [Bool.and_eq_true] at hc
      exact sliceS_goal hs hρ ho hc.1.1.1 hc.1.1.2 hc.1.2 (isStr_ P hc.2) h
    · cases hc
  | slice sz x lo hi mx =>
    simp only [chkOp] at hc
    unfold cSlice at hc
    split at hc
    · rename_i ho
      simp only [Bool.and_eq_true] at hc
      obtain ⟨⟨⟨⟨c1, c2⟩, c3⟩, c4⟩, c5⟩ := hc
      split at c5
      · rename_i i hi
        obtain ⟨e, k1, k2⟩ := elemOf_ P hi
        exact slice_goal hs hρ ho c1 c2 c3 c4 k1 k2 (by simpa using c5) h
      · cases c5
    · cases hc
  | faddr off p =>
    simp only [chkOp] at hc
    unfold cFaddr at hc
    split at hc
    · rename_i ho
      simp only [Bool.and_eq_true] at hc
      obtain ⟨⟨c1, c2⟩, c3⟩ := hc
      obtain ⟨m, rs, rfl⟩ := isT_ c1
      split at c3
      · rename_i fd hfd
        simp only [Bool.and_eq_true, beq_iff_eq] at c3
        obtain ⟨c4, c5⟩ := c3
        split at c5
        · rename_i i hi
          obtain ⟨fs, k1, k2⟩ := fieldAt_ P hfd
          exact faddr_goal hs hρ ho c2 k1 k2 hi (by simpa using c5) c4 h
        · cases c5
      · cases c3
    · cases hc
  | field off n x =>
    simp only [chkOp] at hc
    unfold cField at hc
    split at hc
    · rename_i ho
      simp only [Bool.and_eq_true] at hc
      obtain ⟨c2, c3⟩ := hc
      split at c3
      · rename_i fd hfd
        simp only [Bool.and_eq_true, beq_iff_eq] at c3
        obtain ⟨c4, c5⟩ := c3
        obtain ⟨fs, k1, k2⟩ := fieldAt_ P hfd
        obtain ⟨dt, i, m1, m2, m3⟩ := widthOk_ P c5
        exact field_goal hs hρ ho c2 k1 k2 c4 m1 m2 m3 h
      · cases c3
    · cases hc
  | iaddr sz x i =>
    simp only [chkOp] at hc
    unfold cIaddr at hc
    split at hc
    · rename_i ho
      simp only [Bool.and_eq_true, decide_eq_true_eq] at hc
      obtain ⟨⟨⟨⟨c1, c2⟩, c3⟩, c4⟩, c5⟩ := hc
      obtain ⟨m, rs, rfl⟩ := isT_ c1
      split at c5
      · rename_i ti hti
        obtain ⟨e, k1, k2⟩ := elemOf_ P hti
        exact iaddr_goal hs hρ ho c2 c3 k1 k2 (by simpa using c5) c4 h
      · cases c5
    · cases hc
  | index x i =>
    simp only [chkOp] at hc
    unfold cIndex at hc
    split at hc
    · rename_i ho
      simp only [Bool.and_eq_true] at hc
      exact index_goal hs hρ ho hc.1.1 hc.1.2 (isStr_ P hc.2) h
    · cases hc
  | extract i x =>
    simp only [chkOp] at hc
    unfold cExtract at hc
    split at hc
    · rename_i ho
      simp only [Bool.and_eq_true, beq_iff_eq] at hc
      obtain ⟨⟨rfl, c1⟩, c2⟩ := hc
      obtain ⟨m, rs, rfl⟩ := isT_ c1
      exact extract_goal hs hρ ho c2 h
    · cases hc
  | len x =>
    simp only [chkOp] at hc
    unfold cLen at hc
    split at hc
    · rename_i y t hb
      simp only [Bool.and_eq_true] at hc
      obtain ⟨c, h1, h2, h3, h4⟩ := builtin1_ hb
      obtain ⟨i, hi⟩ := Option.isSome_iff_exists.1 hc.2
      obtain ⟨e, k1, k2⟩ := elemOf_ P hi
      exact len_goal hs hρ h1 h2 h3 h4 hc.1 k1 h
    · cases hc
  | lenS x =>
    simp only [chkOp] at hc
    unfold cLenS at hc
    split at hc
    · rename_i y t hb
      simp only [Bool.and_eq_true] at hc
      obtain ⟨c, h1, h2, h3, h4⟩ := builtin1_ hb
      exact lenS_goal hs hρ h1 h2 h3 h4 hc.1 (isStr_ P hc.2) h
    · cases hc
  | append lev sz bytes x y =>
    simp only [chkOp] at hc
    unfold cAppend at hc
    split at hc
    · rename_i x' y' t t' hb
      simp only [Bool.and_eq_true, decide_eq_true_eq, beq_iff_eq] at hc
      obtain ⟨⟨⟨⟨⟨rfl, c1⟩, c2⟩, c3⟩, c4⟩, c5⟩ := hc
      obtain ⟨c, h1, h2, h3, h4⟩ := builtin2_ hb
      split at c5
      · rename_i i hi
        simp only [Bool.and_eq_true, beq_iff_eq] at c5
        obtain ⟨⟨c6, c7⟩, c8⟩ := c5
        split at c8
        · rename_i z hz
          obtain ⟨e, k1, k2⟩ := elemOf_ P hi
          exact append_goal hs hρ h1 h2 h3 h4 c1 c2 k1 k2 hz c6 (by simpa using c8) c3 c4 c7 h
        · cases c8
      · cases c5
    · cases hc
  | appendStr x y => cases hc
  | max x y =>
    simp only [chkOp] at hc
    unfold cMax at hc
    split at hc
    · rename_i x' y' t hb
      simp only [Bool.and_eq_true] at hc
      obtain ⟨c, h1, h2, h3, h4⟩ := builtin2_ hb
      exact max_goal hs hρ h1 h2 h3 h4 hc.1 hc.2 h
    · cases hc
  | min x y =>
    simp only [chkOp] at hc
    unfold cMax at hc
    split at hc
    · rename_i x' y' t hb
      simp only [Bool.and_eq_true] at hc
      obtain ⟨c, h1, h2, h3, h4⟩ := builtin2_ hb
      exact min_goal hs hρ h1 h2 h3 h4 hc.1 hc.2 h
    · cases hc
  | nilchk x =>
    simp only [chkOp] at hc
    unfold cNil at hc
    split at hc
    · rename_i ho
      simp only [Bool.and_eq_true] at hc
      obtain ⟨m, rs, rfl⟩ := isT_ hc.1
      exact nilchk_goal hs hρ ho hc.2 h
    · cases hc
  | call k as => cases hc
end
end Go.Proofs.Ytkiliooegoldoaa
