/- One operation on a symbolic state. -/
import Derived.Test.YtkiliooegoldoaaSy
set_option linter.unusedVariables false
set_option linter.unusedSimpArgs false
namespace Go.Proofs.Ytkiliooegoldoaa
open Go

def sboxCell (r c : Nat) : SCell → SCell
  | .val l a => if a.fl then .val .deep a else if isOwn l then .view r c [] else .val (borL' l a.fl) a
  | x => x
def sboxCells (r c : Nat) : List SCell → List SCell
  | [] => []
  | x :: xs => sboxCell r c x :: sboxCells r (c + 1) xs
theorem sboxCell_den {env r c} (x : SCell) : (sboxCell r c x).den env = boxCell r c (x.den env) := by
  cases x with
  | val l a =>
    simp only [sboxCell, apply_ite (SCell.den env)]
    simp only [boxCell, SCell.den, At.den_flat, borL'_eq]
    rfl
  | _ => rfl
theorem sboxCells_den {env r} : ∀ {cs : List SCell} {c}, (sboxCells r c cs).map (SCell.den env) = boxCells r c (cs.map (SCell.den env)) := by
  intro cs
  induction cs with
  | nil => intro c; rfl
  | cons x xs ih => intro c; simp only [sboxCells, List.map_cons, boxCells, sboxCell_den, ih]

def slay (cs : List SCell) (off : Nat) (news : List SCell) : Option (List SCell) :=
  if off + news.length ≤ cs.length then some (cs.take off ++ news ++ cs.drop (off + news.length)) else none
theorem slay_den {env cs off news r} (h : slay cs off news = some r) : lay (cs.map (SCell.den env)) off (news.map (SCell.den env)) = some (r.map (SCell.den env)) := by
  unfold slay at h
  split at h
  · rename_i hl
    simp only [Option.some.injEq] at h
    subst h
    unfold lay
    rw [if_pos (by simpa using hl)]
    simp [List.map_take, List.map_drop]
  · cases h
def slayAll (S : SSt) (cs : List SCell) : List (Nat × Nat × AOpnd) → Option (List SCell × SSt)
  | [] => some (cs, S)
  | (off, n, o) :: ps => (stAny S o).bind fun x => if x.2.1.length = n then (slay cs off x.2.1).bind fun cs' => slayAll x.2.2 cs' ps else none
theorem slayAll_den {env} : ∀ {ps S cs r S'}, slayAll S cs ps = some (r, S') → layAll (SSt.den env S) (cs.map (SCell.den env)) ps = some (r.map (SCell.den env), SSt.den env S') := by
  intro ps
  induction ps with
  | nil =>
    intro S cs r S' h
    simp only [slayAll, Option.some.injEq, Prod.mk.injEq] at h
    obtain ⟨rfl, rfl⟩ := h
    rfl
  | cons p ps ih =>
    intro S cs r S' h
    obtain ⟨off, n, o⟩ := p
    simp only [slayAll, Option.bind_eq_some_iff] at h
    obtain ⟨⟨b, ys, S1⟩, hx, h⟩ := h
    split at h
    · rename_i hl
      simp only [Option.bind_eq_some_iff] at h
      obtain ⟨cs', hc, h⟩ := h
      simp only at hl hc h
      simp [layAll, stAny_den hx, hl, slay_den hc, ih h]
    · cases h

def slayRows (n : Nat) (S : SSt) (X : Ls) (sz : Nat) (rows : List (List (Lev × At))) : List (Nat × AOpnd) → Option ((List (List (Lev × At)) × SSt) × Ls)
  | [] => some ((rows, S), X)
  | (i, o) :: ps => (stPV n S X o).bind fun x =>
    if x.1.2.1.length = sz ∧ i < rows.length then slayRows n x.1.2.2 x.2 sz (rows.set i x.1.2.1) ps else none
theorem slayRows_den {env n sz} : ∀ {ps S X rows r S' X'}, slayRows n S X sz rows ps = some ((r, S'), X') → Sat env n X' →
    layRows (SSt.den env S) sz (rows.map fun r => r.map (dLA env)) ps = some (r.map (fun r => r.map (dLA env)), SSt.den env S') ∧ Sat env n X := by
  intro ps
  induction ps with
  | nil =>
    intro S X rows r S' X' h hs
    simp only [slayRows, Option.some.injEq, Prod.mk.injEq] at h
    obtain ⟨⟨rfl, rfl⟩, rfl⟩ := h
    exact ⟨rfl, hs⟩
  | cons p ps ih =>
    intro S X rows r S' X' h hs
    obtain ⟨i, o⟩ := p
    simp only [slayRows, Option.bind_eq_some_iff] at h
    obtain ⟨⟨⟨b, l, S1⟩, X1⟩, hx, h⟩ := h
    split at h
    · rename_i hl
      simp only at hl h
      obtain ⟨h1, h2⟩ := ih h hs
      obtain ⟨h3, h4⟩ := stPV_den hx h2
      refine ⟨?_, h4⟩
      rw [List.map_set] at h1
      simp [layRows, h3, hl, h1]
    · cases h

/-! ### Rows -/
theorem pget_snoc {p : PV} {pre : Path} {s i j : Nat} {q : PV} : pget p (pre ++ [(s, i, j)]) = some q ↔ ∃ xs row, pget p pre = some (.sl s xs) ∧ xs[i]? = some row ∧ row[j]? = some q := by
  induction pre generalizing p with
  | nil =>
    cases p with
    | sl sz xs =>
      simp only [List.nil_append, pget]
      constructor
      · intro h
        split at h
        · rename_i hs
          split at h
          · rename_i r hr
            split at h
            · rename_i q' hq
              simp only [Option.some.injEq] at h
              exact ⟨xs, r, by rw [hs], hr, by rw [hq, h]⟩
            · cases h
          · cases h
        · cases h
      · rintro ⟨xs', row, he, hr, hq⟩
        simp only [Option.some.injEq, PV.sl.injEq] at he
        obtain ⟨rfl, rfl⟩ := he
        simp [hr, hq]
    | _ => simp [pget]
  | cons x pre ih =>
    obtain ⟨s', i', j'⟩ := x
    cases p with
    | sl sz xs =>
      simp only [List.cons_append, pget]
      split
      · split
        · split
          · exact ih
          · simp
        · simp
      · simp
    | _ => simp [pget]

theorem SPath.den_append {env} {p q : SPath} : SPath.den env (p ++ q) = SPath.den env p ++ SPath.den env q := by simp [SPath.den]

def getsAt (n : Nat) (a : At) (pre : SPath) (s : Nat) (i : At) : Nat → Ls → List Bool → List At × Ls
  | j, X, [] => ([], X)
  | j, X, fl :: fls =>
    let r := getsAt n a pre s i (j + 1) (X ++ [⟨.get (spathP (pre ++ [(s, i, j)])), a :: spathI (pre ++ [(s, i, j)]), fl⟩]) fls
    (nw n X fl :: r.1, r.2)
theorem get_sat {env n X a path fl} (h : Sat env n (X ++ [⟨.get (spathP path), a :: spathI path, fl⟩])) : pget (a.den env) (SPath.den env path) = some ((nw n X fl).den env) := by
  obtain ⟨h1, h2⟩ := h.last
  have hz := zipPath_den (env := env) path []
  rw [List.append_nil] at hz
  rw [← hz]
  exact h1
theorem getsAt_sat {env n a pre s i} : ∀ {fls j X}, Sat env n (getsAt n a pre s i j X fls).2 → Sat env n X := by
  intro fls
  induction fls with
  | nil => intro j X h; exact h
  | cons fl fls ih => intro j X h; exact (ih (j := j + 1) h).pre
theorem getsAt_den {env n a pre s i} {row : List PV} : ∀ {fls j X}, (∀ q j', pget (a.den env) (SPath.den env pre ++ [(s, idxNat (i.den env), j')]) = some q → row[j']? = some q) →
    Sat env n (getsAt n a pre s i j X fls).2 → (row.drop j).take fls.length = (getsAt n a pre s i j X fls).1.map (At.den env) ∧ (fls ≠ [] → j + fls.length ≤ row.length) := by
  intro fls
  induction fls with
  | nil => intro j X _ _; simp [getsAt]
  | cons fl fls ih =>
    intro j X hr h
    obtain ⟨h1, h2⟩ := ih (j := j + 1) hr h
    have hq := get_sat (getsAt_sat (j := j + 1) h)
    rw [SPath.den_append] at hq
    have hj := hr _ _ hq
    obtain ⟨hlt, hj'⟩ := List.getElem?_eq_some_iff.1 hj
    have hlt : j < row.length := hlt
    constructor
    · rw [List.drop_eq_getElem_cons hlt, List.length_cons, List.take_succ_cons, h1, hj']
      rfl
    · intro _
      cases fls with
      | nil => simp; omega
      | cons x y => have := h2 (by simp); simp at this ⊢; omega

def scellAt (r c : Nat) (l : Lev) (one : Bool) (pre : SPath) (s : Nat) (i : At) (j : Nat) (a : At) : SCell :=
  if a.fl then .val .deep a else
  match l with
  | .deep => .view r c (pre ++ [(s, i, j)])
  | .oldR => if one then .val .old a else .val .bor a
  | .old => .val .old a
  | _ => .val .bor a
def scellsAt (r c : Nat) (l : Lev) (one : Bool) (pre : SPath) (s : Nat) (i : At) (j : Nat) : List At → List SCell
  | [] => []
  | a :: as => scellAt r c l one pre s i j a :: scellsAt r c l one pre s i (j + 1) as
theorem scellAt_den {env r c l one pre s i j} (a : At) : (scellAt r c l one pre s i j a).den env = cellAt r c l one (SPath.den env pre) s (idxNat (i.den env)) j (a.den env) := by
  unfold scellAt cellAt
  rw [At.den_flat, apply_ite (SCell.den env)]
  congr 1
  cases l <;> simp only [SCell.den, SPath.den_append] <;> try rfl
  cases one <;> rfl
theorem scellsAt_den {env r c l one pre s i} : ∀ {as : List At} {j}, (scellsAt r c l one pre s i j as).map (SCell.den env) = cellsAt r c l one (SPath.den env pre) s (idxNat (i.den env)) j (as.map (At.den env)) := by
  intro as
  induction as with
  | nil => intro j; rfl
  | cons a as ih => intro j; simp only [scellsAt, List.map_cons, cellsAt, scellAt_den, ih]

def splaceSplit : SPath → Option (SPath × Nat × At × Nat)
  | [] => none
  | [x] => some ([], x)
  | x :: y :: t => (splaceSplit (y :: t)).map fun z => (x :: z.1, z.2)
theorem splaceSplit_den {env} : ∀ {p : SPath} {pre s i j}, splaceSplit p = some (pre, s, i, j) → placeSplit (SPath.den env p) = some (SPath.den env pre, s, idxNat (i.den env), j) := by
  intro p
  induction p with
  | nil => intro pre s i j h; simp [splaceSplit] at h
  | cons x p ih =>
    intro pre s i j h
    cases p with
    | nil =>
      simp only [splaceSplit, Option.some.injEq, Prod.mk.injEq] at h
      obtain ⟨rfl, rfl⟩ := h
      rfl
    | cons y t =>
      simp only [splaceSplit, Option.map_eq_some_iff] at h
      obtain ⟨⟨pre', s', i', j'⟩, hz, he⟩ := h
      simp only [Prod.mk.injEq] at he
      obtain ⟨rfl, rfl, rfl, rfl⟩ := he
      have := ih hz
      show placeSplit (_ :: _ :: _) = _
      simp only [placeSplit]
      simp only [SPath.den, List.map_cons] at this ⊢
      rw [this]
      rfl
def spathOff (off : Nat) : SPath → SPath
  | [] => []
  | [(s, i, j)] => [(s, i, j + off)]
  | x :: y :: t => x :: spathOff off (y :: t)
theorem spathOff_den {env off} : ∀ {p : SPath}, SPath.den env (spathOff off p) = pathOff off (SPath.den env p) := by
  intro p
  induction p with
  | nil => rfl
  | cons x p ih =>
    cases p with
    | nil => rfl
    | cons y t =>
      show _ :: SPath.den env (spathOff off (y :: t)) = _ :: pathOff off (SPath.den env (y :: t))
      rw [ih]

def STV.ofCells (agg : Bool) (cs : List SCell) : Option STV :=
  if agg then some (.agg cs) else match cs with
    | [c] => some (.one c)
    | _ => none
theorem STV.ofCells_den {env agg cs v} (h : STV.ofCells agg cs = some v) : TV.ofCells agg (cs.map (SCell.den env)) = some (v.den env) := by
  unfold STV.ofCells at h
  unfold TV.ofCells
  split at h
  · rename_i ha
    simp only [Option.some.injEq] at h
    subst h
    rw [if_pos ha]; rfl
  · rename_i ha
    rw [if_neg ha]
    split at h
    · simp only [Option.some.injEq] at h
      subst h
      rfl
    · cases h

def sasPlace (S : SSt) (p : Nat) : STV :=
  match S.g p with
  | .box _ => .place p 0 []
  | tv => tv
theorem sasPlace_den {env S p} : asPlace (SSt.den env S) p = (sasPlace S p).den env := by
  unfold asPlace sasPlace
  rw [SSt.g_den]
  cases S.g p <;> rfl

def sloadAt (n : Nat) (S : SSt) (X : Ls) (rs : List Nat) (fls : List Bool) : STV → Option (List SCell × Ls)
  | .ep l sz a i off => if fls.isEmpty then none else
    let r := getsAt n a [] sz i off X fls
    some (r.1.map fun b => .val (borL' l b.fl) b, r.2)
  | .place r c [] =>
    if rs.elem r then
      match S.g r with
      | .box cs => if c + fls.length ≤ cs.length then some (sboxCells r c ((cs.drop c).take fls.length), X) else none
      | _ => none
    else none
  | .place r c (x :: path) =>
    if rs.elem r && !fls.isEmpty then
      match splaceSplit (x :: path), srootCell S r c with
      | some (pre, s, i, j), .val l a =>
        let r' := getsAt n a pre s i j X fls
        some (scellsAt r c l pre.isEmpty pre s i j r'.1, r'.2)
      | _, _ => none
    else none
  | _ => none
theorem getsAt_row {env n a pre s i fls j X} (hne : fls ≠ []) (h : Sat env n (getsAt n a pre s i j X fls).2) : ∃ xs row, pget (a.den env) (SPath.den env pre) = some (.sl s xs) ∧ xs[idxNat (i.den env)]? = some row ∧
    (row.drop j).take fls.length = (getsAt n a pre s i j X fls).1.map (At.den env) ∧ j + fls.length ≤ row.length := by
  cases fls with
  | nil => exact absurd rfl hne
  | cons fl fls =>
    have hq := get_sat (getsAt_sat (j := j + 1) h)
    rw [SPath.den_append] at hq
    obtain ⟨xs, row, h1, h2, h3⟩ := pget_snoc.1 hq
    obtain ⟨h4, h5⟩ := getsAt_den (row := row) (fun q j' hq' => by
      obtain ⟨xs', row', k1, k2, k3⟩ := pget_snoc.1 hq'
      rw [h1] at k1
      simp only [Option.some.injEq, PV.sl.injEq, true_and] at k1
      subst k1
      rw [h2] at k2
      simp only [Option.some.injEq] at k2
      subst k2
      exact k3) h
    exact ⟨xs, row, h1, h2, h4, h5 hne⟩
theorem sloadAt_den {env n S X rs fls tv cs X'} (h : sloadAt n S X rs fls tv = some (cs, X')) (hs : Sat env n X') : loadAt (SSt.den env S) rs fls.length (tv.den env) = some (cs.map (SCell.den env)) ∧ Sat env n X := by
  unfold sloadAt at h
  split at h
  · rename_i l sz a i off
    split at h
    · cases h
    · rename_i hne
      simp only [Option.some.injEq, Prod.mk.injEq] at h
      obtain ⟨rfl, rfl⟩ := h
      refine ⟨?_, getsAt_sat hs⟩
      obtain ⟨xs, row, h1, h2, h3, h4⟩ := getsAt_row (by simpa using hne) hs
      simp only [SPath.den, List.map_nil, pget, Option.some.injEq] at h1
      have hrow : rowOf (At.den env a) (idxNat (At.den env i)) = row := by rw [h1]; simp [rowOf, h2]
      simp only [STV.den, loadAt, hrow, if_pos h4, h3]
      simp [SCell.den, Function.comp_def, borL'_eq, At.den_flat]
  · rename_i r c
    split at h
    · rename_i hr
      split at h
      · rename_i cs' hc
        split at h
        · rename_i hl
          simp only [Option.some.injEq, Prod.mk.injEq] at h
          obtain ⟨rfl, rfl⟩ := h
          refine ⟨?_, hs⟩
          have : loadAt (SSt.den env S) rs fls.length (.place r c []) = some (boxCells r c (((cs'.map (SCell.den env)).drop c).take fls.length)) := by
            simp only [loadAt, hr, if_true, SSt.g_den, hc, STV.den, List.length_map, if_pos hl]
          rw [sboxCells_den, List.map_take, List.map_drop]
          exact this
        · cases h
      · cases h
    · cases h
  · rename_i r c x path
    split at h
    · rename_i hr
      simp only [Bool.and_eq_true, Bool.not_eq_true'] at hr
      split at h
      · rename_i pre s i j l a hp ha
        simp only [Option.some.injEq, Prod.mk.injEq] at h
        obtain ⟨rfl, rfl⟩ := h
        refine ⟨?_, getsAt_sat hs⟩
        obtain ⟨xs, row, h1, h2, h3, h4⟩ := getsAt_row (by intro hn; simp [hn] at hr) hs
        have hp' := splaceSplit_den (env := env) hp
        have he : List.isEmpty (SPath.den env pre) = List.isEmpty pre := by simp [SPath.den]
        have hc : SPath.den env (x :: path) = (x.1, idxNat (x.2.1.den env), x.2.2) :: SPath.den env path := rfl
        rw [hc] at hp'
        simp only [STV.den, hc, loadAt, hr.1, if_true, hp', srootCell_den, ha, SCell.den, h1, h2, if_pos h4, he, h3, scellsAt_den]
      · cases h
    · cases h
  · cases h

/-! ### Levels -/
def sokCell (want : Lev) (x : Lev × At) : Bool :=
  x.2.fl || match want with
    | .deep => x.1 == .deep
    | .oldR => x.1 == .old
    | .borR => true
    | _ => false
theorem sokCell_den {env want} (x : Lev × At) : okCell want (dLA env x) = sokCell want x := by
  unfold okCell sokCell dLA
  rw [At.den_flat]
  cases want <;> rfl
def sokCells (want : Lev) (l : List (Lev × At)) : Bool := l.all (sokCell want)
theorem sokCells_den {env want} (l : List (Lev × At)) : okCells want (l.map (dLA env)) = sokCells want l := by
  simp [okCells, sokCells, Function.comp_def, sokCell_den]
def sokStore (l : Lev) (one : Bool) (news : List (Lev × At)) : Bool :=
  match l with
  | .deep => sokCells .deep news
  | .oldR => one && sokCells .oldR news
  | _ => false
theorem sokStore_den {env l one} (x : List (Lev × At)) : okStore l one (x.map (dLA env)) = sokStore l one x := by
  cases l <;> simp [okStore, sokStore, sokCells_den]

def sstoreAt (n : Nat) (S : SSt) (X : Ls) (rs : List Nat) (P : STV) (news : List SCell) : Option (SSt × Ls) :=
  match P with
  | .place r c [] =>
    if rs.elem r then
      match S.g r with
      | .box cs => (slay (cs.map (skillBoxC r c news.length)) c (news.map (skillBoxC r c news.length))).map fun cs' => ((skillBox r c news.length S).set r (.box cs'), X)
      | _ => none
    else none
  | .place r c (x :: path) =>
    if rs.elem r then
      (stVals n S rs X news).bind fun y =>
      match srootCell S r c with
      | .val l a =>
        if sokStore l path.isEmpty y.1 then
          some (ssetRoot (skillElem r c S) r c (.val l (nw n y.2 false)), y.2 ++ [⟨.set (spathP (x :: path)), a :: (spathI (x :: path) ++ y.1.map (·.2)), false⟩])
        else none
      | _ => none
    else none
  | _ => none
theorem sstoreAt_den {env n S X rs P news S' X'} (h : sstoreAt n S X rs P news = some (S', X')) (hs : Sat env n X') :
    storeAt (SSt.den env S) rs (P.den env) (news.map (SCell.den env)) = some (SSt.den env S') ∧ Sat env n X := by
  unfold sstoreAt at h
  split at h
  · rename_i r c
    split at h
    · rename_i hr
      split at h
      · rename_i cs hc
        simp only [Option.map_eq_some_iff, Prod.mk.injEq] at h
        obtain ⟨cs', h1, rfl, rfl⟩ := h
        refine ⟨?_, hs⟩
        have h2 := slay_den (env := env) h1
        simp only [List.map_map, Function.comp_def, skillBoxC_den] at h2
        have h3 : storeAt (SSt.den env S) rs (.place r c []) (news.map (SCell.den env)) = some ((killBox r c news.length (SSt.den env S)).set r (.box (cs'.map (SCell.den env)))) := by
          simp only [storeAt, hr, if_true, SSt.g_den, hc, STV.den, List.length_map, List.map_map, Function.comp_def]
          rw [h2]; rfl
        rw [SSt.set_den, skillBox_den]
        exact h3
      · cases h
    · cases h
  · rename_i r c x path
    split at h
    · rename_i hr
      simp only [Option.bind_eq_some_iff] at h
      obtain ⟨⟨ys, X1⟩, hy, h⟩ := h
      split at h
      · rename_i l a ha
        split at h
        · rename_i hok
          simp only [Option.some.injEq, Prod.mk.injEq] at h
          obtain ⟨rfl, rfl⟩ := h
          obtain ⟨h1, h2⟩ := hs.last
          obtain ⟨h3, h4⟩ := stVals_den hy hs.pre
          refine ⟨?_, h4⟩
          have hz := zipPath_den (env := env) (x :: path) (ys.map fun y => y.2.den env)
          have hd : (List.drop (spathP (x :: path)).length (List.map (At.den env) (spathI (x :: path)) ++ List.map (fun y => At.den env y.snd) ys)) = ys.map fun y => y.2.den env := by
            have : (spathP (x :: path)).length = ((spathI (x :: path)).map (At.den env)).length := by simp [spathP, spathI]
            rw [this, List.drop_left]
          have h1' : pset (a.den env) (zipPath (spathP (x :: path)) (List.map (At.den env) (spathI (x :: path)) ++ List.map (fun y => At.den env y.snd) ys))
              (List.drop (spathP (x :: path)).length (List.map (At.den env) (spathI (x :: path)) ++ List.map (fun y => At.den env y.snd) ys)) = some ((nw n X1 false).den env) := by
            rw [← h1]
            simp only [primDen, List.map_cons, List.map_append, List.map_map, Function.comp_def]
          rw [hz, hd] at h1'
          have he : List.isEmpty (SPath.den env path) = List.isEmpty path := by simp [SPath.den]
          have hok' : okStore l (List.isEmpty (SPath.den env path)) (ys.map (dLA env)) = true := by rw [sokStore_den, he]; exact hok
          have hc : SPath.den env (x :: path) = (x.1, idxNat (x.2.1.den env), x.2.2) :: SPath.den env path := rfl
          have hm : (ys.map (dLA env)).map (·.2) = ys.map fun y => y.2.den env := by simp [Function.comp_def, dLA]
          rw [hc] at h1'
          rw [ssetRoot_den, skillElem_den (k := (SPath.den env (x :: path)).dropLast)]
          simp only [STV.den, hc, storeAt, hr, if_true, srootCell_den, ha, SCell.den, h3, hok', hm, h1', Option.map_some]
        · cases h
      · cases h
    · cases h
  · cases h

/-! ### Numbers -/
theorem nat?_idx {p m} (h : nat? p = some m) : idxNat p = m := by
  cases p <;> simp [nat?] at h
  simp [idxNat, h.2]
theorem natOf_of {S o l p m} (h : bOne S o = some (l, p)) (hm : nat? p = some m) : natOf S o = some m := by
  cases p <;> simp [nat?] at hm
  simp [natOf, h, hm]
def soptNat (n : Nat) (S : SSt) (X : Ls) : Option AOpnd → Option (List At × Ls)
  | none => some ([], X)
  | some o => (sbOne n S X o).map fun x => ([x.1.2], x.2)
theorem soptNat_den {env n S X o as X'} (h : soptNat n S X o = some (as, X')) (hs : Sat env n X') : Sat env n X ∧
    ∀ d rest m r', optArg o.isSome d (as.map (At.den env) ++ rest) = some (m, r') → optNat (SSt.den env S) o d = some m ∧ r' = rest := by
  cases o with
  | none =>
    simp only [soptNat, Option.some.injEq, Prod.mk.injEq] at h
    obtain ⟨rfl, rfl⟩ := h
    refine ⟨hs, fun d rest m r' hm => ?_⟩
    simp [optArg] at hm
    simp [optNat, hm.1, hm.2]
  | some o =>
    simp only [soptNat, Option.map_eq_some_iff, Prod.mk.injEq] at h
    obtain ⟨⟨⟨l, a⟩, X1⟩, hx, rfl, rfl⟩ := h
    obtain ⟨h1, h2⟩ := sbOne_den hx hs
    refine ⟨h2, fun d rest m r' hm => ?_⟩
    simp [optArg] at hm
    obtain ⟨m', hm1, rfl, rfl⟩ := hm
    exact ⟨natOf_of h1 hm1, rfl⟩
end Go.Proofs.Ytkiliooegoldoaa
