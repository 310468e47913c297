/- One operation on a symbolic state: the step. -/
import Derived.Test.YtkiliooegoldoaaSy2
set_option linter.unusedVariables false
set_option linter.unusedSimpArgs false
namespace Go.Proofs.Ytkiliooegoldoaa
open Go

def sret (S : SSt) (X : Ls) (d : Option Nat) (v : STV) : Option (SSt × Ls) := (sput false S d v).map fun S' => (S', X)
def semit (n : Nat) (S : SSt) (X : Ls) (d : Option Nat) (p : Prim) (as : List At) (l : Lev) (fl : Bool) : Option (SSt × Ls) :=
  sret S (X ++ [⟨p, as, fl⟩]) d (.one (.val l (nw n X fl)))
theorem sret_den {env n S X d v S' X'} (h : sret S X d v = some (S', X')) (hs : Sat env n X') : put false (SSt.den env S) d (v.den env) = some (SSt.den env S') ∧ Sat env n X := by
  simp only [sret, Option.map_eq_some_iff, Prod.mk.injEq] at h
  obtain ⟨S1, h1, rfl, rfl⟩ := h
  exact ⟨sput_den h1, hs⟩
theorem semit_den {env n S X d p as l fl S' X'} (h : semit n S X d p as l fl = some (S', X')) (hs : Sat env n X') : ∃ q, primDen p (as.map (At.den env)) = some q ∧ q.flat = fl ∧
    put false (SSt.den env S) d (.one (.val l q)) = some (SSt.den env S') ∧ Sat env n X := by
  obtain ⟨h1, h2⟩ := sret_den h hs
  exact ⟨_, h2.last.1, h2.last.2, h1, h2.pre⟩

def isEmptySl : PV → Bool
  | .sl _ [] => true
  | _ => false

def appC1 (lev l : Lev) : Bool := match lev, l with | .oldR, .deep => true | _, _ => false
def appK1 (lev l : Lev) : Bool := match lev, l with | .deep, .deep => true | .oldR, .oldR => true | .borR, .borR => true | .borR, .deep => true | .borR, .oldR => true | .oldR, .deep => true | _, _ => false
def appK2 (lev l : Lev) : Bool := match lev, l with | .deep, .deep => true | .oldR, .old => true | .oldR, .oldR => true | .borR, _ => true | _, _ => false

def sstep (n : Nat) (S : SSt) (d : Option Nat) (fls : List Bool) : AOp → Option (SSt × Ls)
  | .mv g (.c p) => (sput g S d (.one (.val .deep (.c p)))).map fun S' => (S', [])
  | .mv g (.t m _) => match S.g m with
    | .one (.val l a) => (sput g S d (.one (if a.fl then .val .deep a else if isOwn l then .view m 0 [] else .val (borL' l a.fl) a))).map fun S' => (S', [])
    | .one (.view r c path) => (sput g S d (.one (.view r c path))).map fun S' => (S', [])
    | .agg cs => (sput g S d (.agg (sboxCells m 0 cs))).map fun S' => (S', [])
    | .box _ => (sput g S d (.place m 0 [])).map fun S' => (S', [])
    | .place r c path => (sput g S d (.place r c path)).map fun S' => (S', [])
    | .ep l sz a i off => (sput g S d (.ep l sz a i off)).map fun S' => (S', [])
    | _ => none
  | .take g x => (stAny S x).bind fun y => (STV.ofCells y.1 y.2.1).bind fun v => (sput g y.2.2 d v).map fun S' => (S', [])
  | .pick c a b => (sbOne n S [] c).bind fun x => match x.1.2 with
    | .c (.bool t) => (sbOne n S x.2 (if t then a else b)).bind fun y => if y.1.2.fl then sret S y.2 d (.one (.val .deep y.1.2)) else none
    | p => (sbOne n S x.2 a).bind fun y => (sbOne n S y.2 b).bind fun z =>
      if y.1.2.fl && z.1.2.fl then semit n S z.2 d .pick [p, y.1.2, z.1.2] .deep true else none
  | .alloc g cs ls => if ls.length = cs.length ∧ (cs.zip ls).all (fun x => x.1.flat || (isOwn x.2 && isEmptySl x.1))
      then (sput g S d (.box ((cs.zip ls).map fun x => .val (if x.1.flat then .deep else x.2) (.c x.1)))).map fun S' => (S', []) else none
  | .box g x => (stAny S x).bind fun y => (sput g y.2.2 d (.box y.2.1)).map fun S' => (S', [])
  | .build zs parts => (slayAll S (zs.map fun z => .val .deep (.c z)) parts).bind fun y => sret y.2 [] d (.agg y.1)
  | .mkSl lev sz zs len parts => (slayRows n S [] sz (List.replicate len (zs.map fun z => (Lev.deep, At.c z))) parts).bind fun y =>
      if zs.length = sz ∧ y.1.1.all (sokCells lev) then semit n y.1.2 y.2 d (.mk sz (y.1.1.map List.length)) (y.1.1.flatten.map (·.2)) lev false else none
  | .load k (.t p rs) => if fls.length = k.getD 1 then (sloadAt n S [] rs fls (sasPlace S p)).bind fun cs => (STV.ofCells k.isSome cs.1).bind fun v => sret S cs.2 d v else none
  | .store k (.t p rs) x => if d.isSome then none else (stAny S x).bind fun y => if y.2.1.length = k then sstoreAt n y.2.2 [] rs (sasPlace y.2.2 p) y.2.1 else none
  | .bin op x y => (sbOne n S [] x).bind fun x => (sbOne n S x.2 y).bind fun y => semit n S y.2 d (.bin op) [x.1.2, y.1.2] .deep true
  | .eqB neg x y => (sbOne n S [] x).bind fun x => (sbOne n S x.2 y).bind fun y => semit n S y.2 d (.eqB neg) [x.1.2, y.1.2] .deep true
  | .eqAgg neg ks x y => (sbAny n S [] x).bind fun x => (sbAny n S x.2 y).bind fun y =>
      if x.1.1 && y.1.1 && x.1.2.length == ks.length then semit n S y.2 d (.eqAgg neg ks) (x.1.2.map (·.2) ++ y.1.2.map (·.2)) .deep true else none
  | .un op x => (sbOne n S [] x).bind fun x => match op, x.1.2 with
    | .not, .c (.bool b) => sret S x.2 d (.one (.val .deep (.c (.bool (!b)))))
    | op, p => semit n S x.2 d (.un op) [p] .deep true
  | .convInt k x => (sbOne n S [] x).bind fun x => semit n S x.2 d (.conv k) [x.1.2] .deep true
  | .make lev sz zs len => (sbOne n S [] len).bind fun x => if isOwn lev && zs.all zeroPV && zs.length == sz then semit n S x.2 d (.make sz zs) [x.1.2] lev false else none
  | .sliceS x lo hi => (sbOne n S [] x).bind fun x => (soptNat n S x.2 lo).bind fun y => (soptNat n S y.2 hi).bind fun z =>
      semit n S z.2 d (.subS lo.isSome hi.isSome) (x.1.2 :: (y.1 ++ z.1)) .deep true
  | .slice sz x lo hi mx => (sbOne n S [] x).bind fun x => (soptNat n S x.2 lo).bind fun y => (soptNat n S y.2 hi).bind fun z => (soptNat n S z.2 mx).bind fun u =>
      if mx.isSome && !hi.isSome then none else semit n S u.2 d (.sub sz lo.isSome hi.isSome mx.isSome) (x.1.2 :: (y.1 ++ (z.1 ++ u.1))) (if x.1.1 = .old then .old else .bor) false
  | .faddr off (.t p rs) => match S.g p with
    | .place r c [] => sret S [] d (.place r (c + off) [])
    | .place r c (x :: path) => if rs.elem r then match srootCell S r c with
      | .val _ _ => sret S [] d (.place r c (spathOff off (x :: path)))
      | _ => none else none
    | .ep l sz a i o => sret S [] d (.ep l sz a i (o + off))
    | .box _ => sret S [] d (.place p off [])
    | _ => none
  | .field off k x => match stAny S x with
    | some (true, cs, S') => if off + k.getD 1 ≤ cs.length then (STV.ofCells k.isSome ((cs.drop off).take (k.getD 1))).bind fun v => sret S' [] d v else none
    | _ => none
  | .iaddr sz (.t m rs) i => match S.g m with
    | .one (.view r c path) => (sbOne n S [] i).bind fun y => (sbCell n S rs y.2 (.view r c path)).bind fun x =>
        sret S (x.2 ++ [⟨.inb sz, [x.1.2, y.1.2], true⟩]) d (.place r c (path ++ [(sz, y.1.2, 0)]))
    | .one (.val l a) => (sbOne n S [] i).bind fun y =>
        sret S (y.2 ++ [⟨.inb sz, [a, y.1.2], true⟩]) d (if isOwn l then .place m 0 [(sz, y.1.2, 0)] else .ep (if l = .old then .old else .bor) sz a y.1.2 0)
    | _ => none
  | .index x i => (sbOne n S [] x).bind fun x => (sbOne n S x.2 i).bind fun y => semit n S y.2 d .ix [x.1.2, y.1.2] .deep true
  | .extract i (.t m _) => match S.g m with
    | .tup vs => match vs[i]? with
      | some x => (STV.ofCells x.1 x.2).bind fun v => sret (S.set m (.tup (vs.set i (x.1, x.2.map fun _ => .dead)))) [] d v
      | none => none
    | _ => none
  | .len x => (sbOne n S [] x).bind fun x => semit n S x.2 d .len [x.1.2] .deep true
  | .lenS x => (sbOne n S [] x).bind fun x => semit n S x.2 d .lenS [x.1.2] .deep true
  | .append lev sz bytes x y => (stPV n S [] x).bind fun a => (stPV n a.1.2.2 a.2 y).bind fun b =>
      match a.1.1, a.1.2.1, b.1.1, b.1.2.1 with
      | false, [(l, p)], false, [(l', q)] =>
        if isOwn l && isOwn lev && appK1 lev l then semit n b.1.2.2 b.2 d (.app sz bytes (appC1 lev l) (!appK2 lev l')) [p, q] lev false else none
      | _, _, _, _ => none
  | .max x y => (sbOne n S [] x).bind fun x => (sbOne n S x.2 y).bind fun y => semit n S y.2 d .max [x.1.2, y.1.2] .deep true
  | .min x y => (sbOne n S [] x).bind fun x => (sbOne n S x.2 y).bind fun y => semit n S y.2 d .min [x.1.2, y.1.2] .deep true
  | .nilchk (.t m _) => match S.g m with
    | .box _ => sret S [] d (.place m 0 [])
    | .place r c [] => sret S [] d (.place r c [])
    | .ep l sz a i off => sret S [] d (.ep l sz a i off)
    | _ => none
  | _ => none

theorem splitBy_flatten {α : Type} : ∀ (l : List (List α)), splitBy (l.map List.length) l.flatten = l := by
  intro l
  induction l with
  | nil => rfl
  | cons x l ih => simp [splitBy, ih]
theorem map_sput {g S d v S' X env} (h : (sput g S d v).map (fun S' => (S', ([] : Ls))) = some (S', X)) : put g (SSt.den env S) d (v.den env) = some (SSt.den env S') := by
  simp only [Option.map_eq_some_iff, Prod.mk.injEq] at h
  obtain ⟨S1, h1, rfl, _⟩ := h
  exact sput_den h1

theorem sstep_den {env n S d fls op S' X} (h : sstep n S d fls op = some (S', X)) (hs : Sat env n X) : step (SSt.den env S) d op = some (SSt.den env S') := by
  cases op with
  | mv g x =>
    cases x with
    | c p => exact map_sput h
    | t m rs =>
      simp only [sstep] at h
      simp only [step, SSt.g_den]
      split at h <;> rename_i hm <;> simp only [hm, STV.den, SCell.den]
      · have := map_sput (env := env) h
        simp only [STV.den, apply_ite (SCell.den env)] at this
        simp only [SCell.den, SPath.den, List.map_nil] at this
        simp only [At.den_flat, borL'_eq]
        exact this
      · exact map_sput h
      · rw [← sboxCells_den]; exact map_sput h
      · exact map_sput h
      · exact map_sput h
      · exact map_sput h
      · cases h
  | take g x =>
    simp only [sstep, Option.bind_eq_some_iff] at h
    obtain ⟨⟨b, r, S1⟩, h1, v, h2, h3⟩ := h
    simp only [step, stAny_den h1, Option.bind_some, STV.ofCells_den h2]
    exact map_sput h3
  | pick c a b =>
    simp only [sstep, Option.bind_eq_some_iff] at h
    obtain ⟨⟨⟨l1, a1⟩, X1⟩, h1, h⟩ := h
    split at h
    · rename_i t e1
      simp only at e1
      subst e1
      simp only [Option.bind_eq_some_iff] at h
      obtain ⟨⟨⟨l2, a2⟩, X2⟩, h2, h⟩ := h
      split at h
      · rename_i hfl
        obtain ⟨hp, hs2⟩ := sret_den h hs
        obtain ⟨k2, hs1⟩ := sbOne_den h2 hs2
        obtain ⟨k1, _⟩ := sbOne_den h1 hs1
        simp only [dLA] at k1 k2
        have k1' : bOne (SSt.den env S) c = some (l1, .bool t) := k1
        simp only [step, k1', k2, At.den_flat]
        rw [if_pos hfl]
        exact hp
      · cases h
    · rename_i p hne
      simp only [Option.bind_eq_some_iff] at h
      obtain ⟨⟨⟨l2, a2⟩, X2⟩, h2, ⟨⟨l3, a3⟩, X3⟩, h3, h⟩ := h
      split at h
      · rename_i hfl
        simp only [Bool.and_eq_true] at hfl
        obtain ⟨q, hq, hf, hp, hs3⟩ := semit_den h hs
        obtain ⟨k3, hs2⟩ := sbOne_den h3 hs3
        obtain ⟨k2, hs1⟩ := sbOne_den h2 hs2
        obtain ⟨k1, _⟩ := sbOne_den h1 hs1
        simp only [dLA] at k1 k2 k3
        simp only [primDen, List.map_cons, List.map_nil] at hq
        split at hq
        · rename_i t u w heq
          simp only [List.cons.injEq, and_true] at heq
          obtain ⟨e1, e2, e3⟩ := heq
          simp only [Option.some.injEq] at hq
          simp only [step, k1, e1]
          cases t
          · have : bOne (SSt.den env S) (if false = true then a else b) = some (l3, a3.den env) := k3
            rw [this]
            simp only [At.den_flat]
            rw [if_pos hfl.2]
            simp only [Bool.false_eq_true, if_false] at hq
            rw [e3, hq]; exact hp
          · have : bOne (SSt.den env S) (if true = true then a else b) = some (l2, a2.den env) := k2
            rw [this]
            simp only [At.den_flat]
            rw [if_pos hfl.1]
            simp only [if_true] at hq
            rw [e2, hq]; exact hp
        · cases hq
      · cases h
  | alloc g cs ls =>
    simp only [sstep] at h
    split at h
    · rename_i hc
      simp only [step]
      split
      · have := map_sput (env := env) h
        simp only [STV.den, List.map_map, Function.comp_def, SCell.den, At.den] at this
        exact this
      · rename_i hn
        exact absurd hc hn
    · cases h
  | box g x =>
    simp only [sstep, Option.bind_eq_some_iff] at h
    obtain ⟨⟨b, r, S1⟩, h1, h3⟩ := h
    simp only [step, stAny_den h1, Option.bind_some]
    exact map_sput h3
  | boxV x => simp [sstep] at h
  | build zs parts =>
    simp only [sstep, Option.bind_eq_some_iff] at h
    obtain ⟨⟨cs, S1⟩, h1, h2⟩ := h
    have h3 := slayAll_den (env := env) h1
    have hz : (zs.map fun z => SCell.val .deep (.c z)).map (SCell.den env) = zeroCells zs := by simp [zeroCells, Function.comp_def, SCell.den, At.den]
    rw [hz] at h3
    simp only [step, h3, Option.bind_some]
    exact (sret_den h2 hs).1
  | mkSl lev sz zs len parts =>
    simp only [sstep, Option.bind_eq_some_iff] at h
    obtain ⟨⟨⟨rows, S1⟩, X1⟩, h1, h⟩ := h
    split at h
    · rename_i hc
      obtain ⟨q, hq, hf, hp, hs1⟩ := semit_den h hs
      obtain ⟨h3, h4⟩ := slayRows_den h1 hs1
      have hz : (List.replicate len (zs.map fun z => (Lev.deep, At.c z))).map (fun r => r.map (dLA env)) = List.replicate len (zs.map fun z => (Lev.deep, z)) := by
        simp [Function.comp_def, dLA, At.den]
      rw [hz] at h3
      have hc' : zs.length = sz ∧ (rows.map fun r => r.map (dLA env)).all (okCells lev) = true := ⟨hc.1, by
        have := hc.2
        simp only [List.all_map, Function.comp_def, sokCells_den]
        exact this⟩
      simp only [primDen] at hq
      have hsp : splitBy (rows.map List.length) (List.map (At.den env) (List.map (·.2) rows.flatten)) = (rows.map fun r => r.map (dLA env)).map fun r => r.map (·.2) := by
        have := splitBy_flatten (rows.map fun r => r.map fun y => y.2.den env)
        simp only [List.map_map, Function.comp_def, List.length_map, dLA, List.map_flatten] at this ⊢
        exact this
      rw [hsp] at hq
      simp only [Option.some.injEq] at hq
      simp only [step, h3, Option.bind_some, if_pos hc', hq]
      exact hp
    · cases h
  | load k x =>
    cases x with
    | c p => simp [sstep] at h
    | t p rs =>
      simp only [sstep] at h
      split at h
      · rename_i hl
        simp only [Option.bind_eq_some_iff] at h
        obtain ⟨⟨cs, X1⟩, h1, v, h2, h3⟩ := h
        obtain ⟨h4, h5⟩ := sret_den h3 hs
        obtain ⟨h6, h7⟩ := sloadAt_den h1 h5
        rw [hl] at h6
        simp only [step, sasPlace_den, h6, Option.bind_some, STV.ofCells_den h2]
        exact h4
      · cases h
  | store k p x =>
    cases p with
    | c p => simp [sstep] at h
    | t p rs =>
      simp only [sstep] at h
      split at h
      · cases h
      · rename_i hd
        simp only [Option.bind_eq_some_iff] at h
        obtain ⟨⟨b, cs, S1⟩, h1, h⟩ := h
        split at h
        · rename_i hl
          obtain ⟨h2, h3⟩ := sstoreAt_den h hs
          simp only [step, hd, stAny_den h1, Option.bind_some, List.length_map]
          simp only at hl
          rw [if_pos hl, sasPlace_den]
          exact h2
        · cases h
  | bin op x y =>
    simp only [sstep, Option.bind_eq_some_iff] at h
    obtain ⟨⟨⟨l1, a1⟩, X1⟩, h1, ⟨⟨l2, a2⟩, X2⟩, h2, h⟩ := h
    obtain ⟨q, hq, hf, hp, hs2⟩ := semit_den h hs
    obtain ⟨k2, hs1⟩ := sbOne_den h2 hs2
    obtain ⟨k1, _⟩ := sbOne_den h1 hs1
    simp only [dLA] at k1 k2
    simp only [primDen, List.map_cons, List.map_nil] at hq
    simp only [step, k1, k2, hq, Option.bind_some]
    exact hp
  | eqB neg x y =>
    simp only [sstep, Option.bind_eq_some_iff] at h
    obtain ⟨⟨⟨l1, a1⟩, X1⟩, h1, ⟨⟨l2, a2⟩, X2⟩, h2, h⟩ := h
    obtain ⟨q, hq, hf, hp, hs2⟩ := semit_den h hs
    obtain ⟨k2, hs1⟩ := sbOne_den h2 hs2
    obtain ⟨k1, _⟩ := sbOne_den h1 hs1
    simp only [dLA] at k1 k2
    simp only [primDen, List.map_cons, List.map_nil] at hq
    split at hq
    · rename_i heq
      simp only [List.cons.injEq, and_true] at heq
      simp only [Option.some.injEq] at hq
      simp only [step, k1, k2, heq.1, heq.2]
      rw [hq]; exact hp
    · cases hq
  | eqAgg neg ks x y =>
    simp only [sstep, Option.bind_eq_some_iff] at h
    obtain ⟨⟨⟨b1, l1⟩, X1⟩, h1, ⟨⟨b2, l2⟩, X2⟩, h2, h⟩ := h
    split at h
    · rename_i hc
      simp only [Bool.and_eq_true, beq_iff_eq] at hc
      obtain ⟨⟨rfl, rfl⟩, hl⟩ := hc
      obtain ⟨q, hq, hf, hp, hs2⟩ := semit_den h hs
      obtain ⟨k2, hs1⟩ := sbAny_den h2 hs2
      obtain ⟨k1, _⟩ := sbAny_den h1 hs1
      simp only at k1 k2
      simp only [primDen, List.map_append, List.map_map, Function.comp_def] at hq
      have ht : List.take ks.length (l1.map (fun x => At.den env x.2) ++ l2.map (fun x => At.den env x.2)) = l1.map fun x => At.den env x.2 := by
        rw [← hl]; simp
      have hd : List.drop ks.length (l1.map (fun x => At.den env x.2) ++ l2.map (fun x => At.den env x.2)) = l2.map fun x => At.den env x.2 := by
        rw [← hl]; simp
      rw [ht, hd] at hq
      split at hq
      · rename_i hk
        simp only [List.map_map, Function.comp_def, Option.map_eq_some_iff] at hq hk
        obtain ⟨r, hr, he⟩ := hq
        have hk' : (l1.map (dLA env)).map (fun z => z.2.kind) = ks := by simpa [Function.comp_def, dLA] using hk
        have hsc : ∀ (x y : List (Lev × At)), sameCells (x.map fun x => (Lev.deep, At.den env x.2)) (y.map fun x => (Lev.deep, At.den env x.2)) = sameCells (x.map (dLA env)) (y.map (dLA env)) := by
          intro x
          induction x with
          | nil => intro y; cases y <;> rfl
          | cons a x ih =>
            intro y
            cases y with
            | nil => rfl
            | cons b y => simp only [List.map_cons, sameCells, ih, dLA]
        rw [hsc] at hr
        simp only [step, k1, k2, if_pos hk', hr, Option.bind_some]
        rw [he]; exact hp
      · cases hq
    · cases h
  | un op x =>
    simp only [sstep, Option.bind_eq_some_iff] at h
    obtain ⟨⟨⟨l1, a1⟩, X1⟩, h1, h⟩ := h
    split at h
    · rename_i b e1
      simp only at e1
      subst e1
      obtain ⟨hp, hs1⟩ := sret_den h hs
      obtain ⟨k1, _⟩ := sbOne_den h1 hs1
      have k1' : bOne (SSt.den env S) x = some (l1, .bool b) := k1
      have hu : unS .not (.bool b) = some (.bool (!b)) := rfl
      simp only [step, k1', hu, Option.bind_some]
      exact hp
    rename_i op' p hne
    obtain ⟨q, hq, hf, hp, hs1⟩ := semit_den h hs
    obtain ⟨k1, _⟩ := sbOne_den h1 hs1
    simp only [dLA] at k1
    simp only [primDen, List.map_cons, List.map_nil] at hq
    simp only [step, k1, hq, Option.bind_some]
    exact hp
  | convInt k x =>
    simp only [sstep, Option.bind_eq_some_iff] at h
    obtain ⟨⟨⟨l1, a1⟩, X1⟩, h1, h⟩ := h
    obtain ⟨q, hq, hf, hp, hs1⟩ := semit_den h hs
    obtain ⟨k1, _⟩ := sbOne_den h1 hs1
    simp only [dLA] at k1
    simp only [primDen, List.map_cons, List.map_nil] at hq
    split at hq
    · rename_i heq
      simp only [List.cons.injEq, and_true] at heq
      simp only [Option.some.injEq] at hq
      simp only [step, k1, heq]
      rw [hq]; exact hp
    · cases hq
  | bytesStr x => simp [sstep] at h
  | make lev sz zs len =>
    simp only [sstep, Option.bind_eq_some_iff] at h
    obtain ⟨⟨⟨l1, a1⟩, X1⟩, h1, h⟩ := h
    split at h
    · rename_i hc
      simp only [Bool.and_eq_true, beq_iff_eq] at hc
      obtain ⟨q, hq, hf, hp, hs1⟩ := semit_den h hs
      obtain ⟨k1, _⟩ := sbOne_den h1 hs1
      simp only [dLA] at k1
      simp only [primDen, List.map_cons, List.map_nil, Option.bind_eq_some_iff] at hq
      obtain ⟨m, hm, hq⟩ := hq
      split at hq
      · rename_i hle
        simp only [Option.some.injEq] at hq
        simp only [step, natOf_of k1 hm]
        rw [if_pos (by simp [hc.1]), if_pos ⟨hc.2, hle⟩, hq]
        exact hp
      · cases hq
    · cases h
  | sliceS x lo hi =>
    simp only [sstep, Option.bind_eq_some_iff] at h
    obtain ⟨⟨⟨l1, a1⟩, X1⟩, h1, ⟨as, X2⟩, h2, ⟨bs, X3⟩, h3, h⟩ := h
    obtain ⟨q, hq, hf, hp, hs3⟩ := semit_den h hs
    obtain ⟨hs2, k3⟩ := soptNat_den h3 hs3
    obtain ⟨hs1, k2⟩ := soptNat_den h2 hs2
    obtain ⟨k1, _⟩ := sbOne_den h1 hs1
    simp only [dLA] at k1
    simp only [primDen, List.map_cons] at hq
    split at hq
    · rename_i s as' heq
      simp only [List.cons.injEq] at heq
      obtain ⟨e1, e2⟩ := heq
      simp only [Option.bind_eq_some_iff] at hq
      obtain ⟨⟨m1, r1⟩, o1, ⟨m2, r2⟩, o2, hq⟩ := hq
      rw [← e2, List.map_append] at o1
      obtain ⟨n1, rfl⟩ := k2 _ _ _ _ o1
      have o2' : optArg hi.isSome s.size (List.map (At.den env) bs ++ []) = some (m2, r2) := by simpa using o2
      obtain ⟨n2, _⟩ := k3 _ _ _ _ o2'
      split at hq
      · rename_i hle
        simp only [Option.some.injEq] at hq
        simp only [step, k1, e1, n1, n2]
        simp only at hle
        rw [if_pos hle, hq]; exact hp
      · cases hq
    · cases hq
  | slice sz x lo hi mx =>
    simp only [sstep, Option.bind_eq_some_iff] at h
    obtain ⟨⟨⟨l1, a1⟩, X1⟩, h1, ⟨as, X2⟩, h2, ⟨bs, X3⟩, h3, ⟨cs, X4⟩, h4, h⟩ := h
    split at h
    · cases h
    · rename_i hmx
      obtain ⟨q, hq, hf, hp, hs4⟩ := semit_den h hs
      obtain ⟨hs3, k4⟩ := soptNat_den h4 hs4
      obtain ⟨hs2, k3⟩ := soptNat_den h3 hs3
      obtain ⟨hs1, k2⟩ := soptNat_den h2 hs2
      obtain ⟨k1, _⟩ := sbOne_den h1 hs1
      simp only [dLA] at k1
      simp only [primDen, List.map_cons] at hq
      split at hq
      · rename_i sz' xs as' heq
        simp only [List.cons.injEq] at heq
        obtain ⟨e1, e2⟩ := heq
        simp only [Option.bind_eq_some_iff] at hq
        obtain ⟨⟨m1, r1⟩, o1, ⟨m2, r2⟩, o2, ⟨m3, r3⟩, o3, hq⟩ := hq
        rw [← e2, List.map_append] at o1
        obtain ⟨n1, rfl⟩ := k2 _ _ _ _ o1
        simp only [List.map_append] at o2
        obtain ⟨n2, rfl⟩ := k3 _ _ _ _ o2
        have o3' : optArg mx.isSome xs.length (List.map (At.den env) cs ++ []) = some (m3, r3) := by simpa using o3
        obtain ⟨n3, _⟩ := k4 _ _ _ _ o3'
        split at hq
        · rename_i hle
          obtain ⟨rfl, hle⟩ := hle
          simp only [Option.some.injEq] at hq
          simp only at hle
          simp only [step, k1, e1, n1, n2, n3]
          have hm' : mx.isSome = true → hi.isSome = true := by
            intro hm
            cases hh : hi.isSome with
            | true => rfl
            | false => exact absurd (by rw [hm, hh]; rfl) hmx
          simp only [if_true]
          rw [if_pos ⟨hle.1, hle.2.1, hle.2.2, hm'⟩, hq]; exact hp
        · cases hq
      · cases hq
  | faddr off x =>
    cases x with
    | c p => simp [sstep] at h
    | t p rs =>
      simp only [sstep] at h
      simp only [step, SSt.g_den]
      split at h
      · rename_i hm; simp only [hm, STV.den, SPath.den, List.map_nil]; exact (sret_den h hs).1
      · rename_i r c x path hm
        split at h
        · rename_i hr
          split at h
          · rename_i l a ha
            have hc : SPath.den env (x :: path) = (x.1, idxNat (x.2.1.den env), x.2.2) :: SPath.den env path := rfl
            have h' := (sret_den h hs).1
            simp only [STV.den, spathOff_den, hc] at h'
            simp only [hm, STV.den, hc, hr, if_true, srootCell_den, ha, SCell.den]
            exact h'
          · cases h
        · cases h
      · rename_i hm; simp only [hm, STV.den]; exact (sret_den h hs).1
      · rename_i hm; simp only [hm, STV.den]; exact (sret_den h hs).1
      · cases h
  | field off k x =>
    simp only [sstep] at h
    split at h
    · rename_i cs S1 h1
      split at h
      · rename_i hl
        simp only [Option.bind_eq_some_iff] at h
        obtain ⟨v, h2, h3⟩ := h
        have h4 := STV.ofCells_den (env := env) h2
        rw [List.map_take, List.map_drop] at h4
        simp only [step, stAny_den h1, List.length_map, if_pos hl, h4, Option.bind_some]
        exact (sret_den h3 hs).1
      · cases h
    · cases h
  | iaddr sz x i =>
    cases x with
    | c p => simp [sstep] at h
    | t m rs =>
      simp only [sstep] at h
      split at h
      · rename_i r c path hm
        simp only [Option.bind_eq_some_iff] at h
        obtain ⟨⟨⟨l1, a1⟩, X1⟩, h1, ⟨⟨l2, a2⟩, X2⟩, h2, h⟩ := h
        obtain ⟨hp, hs3⟩ := sret_den h hs
        obtain ⟨k2, hs1⟩ := sbCell_den h2 hs3.pre
        obtain ⟨k1, _⟩ := sbOne_den h1 hs1
        have hq := hs3.last.1
        simp only [dLA] at k1 k2
        simp only [SCell.den] at k2
        simp only [primDen, List.map_cons, List.map_nil] at hq
        split at hq
        · rename_i sz' xs y heq
          simp only [List.cons.injEq, and_true] at heq
          obtain ⟨e1, e2⟩ := heq
          simp only [Option.bind_eq_some_iff] at hq
          obtain ⟨m', hm', hq⟩ := hq
          split at hq
          · rename_i hb
            rw [← e2] at hm'
            have hi := nat?_idx hm'
            simp only [step, SSt.g_den, hm, STV.den, SCell.den, natOf_of k1 hm', k2, e1]
            rw [if_pos hb]
            simp only [STV.den, SPath.den_append] at hp
            rw [← hi]
            exact hp
          · cases hq
        · cases hq
      · rename_i l a hm
        simp only [Option.bind_eq_some_iff] at h
        obtain ⟨⟨⟨l1, a1⟩, X1⟩, h1, h⟩ := h
        obtain ⟨hp, hs3⟩ := sret_den h hs
        obtain ⟨k1, _⟩ := sbOne_den h1 hs3.pre
        have hq := hs3.last.1
        simp only [dLA] at k1
        simp only [primDen, List.map_cons, List.map_nil] at hq
        split at hq
        · rename_i sz' xs y heq
          simp only [List.cons.injEq, and_true] at heq
          obtain ⟨e1, e2⟩ := heq
          simp only [Option.bind_eq_some_iff] at hq
          obtain ⟨m', hm', hq⟩ := hq
          split at hq
          · rename_i hb
            rw [← e2] at hm'
            have hi := nat?_idx hm'
            simp only [step, SSt.g_den, hm, STV.den, SCell.den, natOf_of k1 hm', e1]
            rw [if_pos hb.1]
            by_cases hl : isOwn l = true
            · rw [if_pos hl, if_pos hb.2]
              rw [if_pos hl] at hp
              simp only [STV.den, SPath.den, List.map_cons, List.map_nil, hi] at hp
              exact hp
            · rw [if_neg hl]
              rw [if_neg hl] at hp
              simp only [STV.den, e1, hi, rowOf] at hp
              have hx : xs[m']? = some (xs.getD m' []) := by
                rw [List.getD_eq_getElem?_getD, List.getElem?_eq_getElem hb.2]; rfl
              rw [hx]
              exact hp
          · cases hq
        · cases hq
      · cases h
  | index x y =>
    simp only [sstep, Option.bind_eq_some_iff] at h
    obtain ⟨⟨⟨l1, a1⟩, X1⟩, h1, ⟨⟨l2, a2⟩, X2⟩, h2, h⟩ := h
    obtain ⟨q, hq, hf, hp, hs2⟩ := semit_den h hs
    obtain ⟨k2, hs1⟩ := sbOne_den h2 hs2
    obtain ⟨k1, _⟩ := sbOne_den h1 hs1
    simp only [dLA] at k1 k2
    simp only [primDen, List.map_cons, List.map_nil] at hq
    split at hq
    · rename_i s i heq
      simp only [List.cons.injEq, and_true] at heq
      obtain ⟨e1, e2⟩ := heq
      simp only [Option.bind_eq_some_iff, Option.map_eq_some_iff] at hq
      obtain ⟨m, hm, b, hb, hq⟩ := hq
      rw [← e2] at hm
      simp only [step, k1, e1, natOf_of k2 hm, hb]
      rw [hq]; exact hp
    · cases hq
  | extract i x =>
    cases x with
    | c p => simp [sstep] at h
    | t m rs =>
      simp only [sstep] at h
      split at h
      · rename_i vs hm
        split at h
        · rename_i x hx
          simp only [Option.bind_eq_some_iff] at h
          obtain ⟨v, h1, h2⟩ := h
          obtain ⟨h3, _⟩ := sret_den h2 hs
          rw [SSt.set_den] at h3
          simp only [STV.den, List.map_set, List.map_map, Function.comp_def, SCell.den] at h3
          have hx' : (vs.map fun x => (x.1, x.2.map (SCell.den env)))[i]? = some (x.1, x.2.map (SCell.den env)) := by simp [hx]
          simp only [step, SSt.g_den, hm, STV.den, hx', STV.ofCells_den h1, Option.bind_some, List.map_map, Function.comp_def]
          exact h3
        · cases h
      · cases h
  | len x =>
    simp only [sstep, Option.bind_eq_some_iff] at h
    obtain ⟨⟨⟨l1, a1⟩, X1⟩, h1, h⟩ := h
    obtain ⟨q, hq, hf, hp, hs1⟩ := semit_den h hs
    obtain ⟨k1, _⟩ := sbOne_den h1 hs1
    simp only [dLA] at k1
    simp only [primDen, List.map_cons, List.map_nil] at hq
    split at hq
    · rename_i heq
      simp only [List.cons.injEq, and_true] at heq
      simp only [Option.some.injEq] at hq
      simp only [step, k1, heq]
      rw [hq]; exact hp
    · cases hq
  | lenS x =>
    simp only [sstep, Option.bind_eq_some_iff] at h
    obtain ⟨⟨⟨l1, a1⟩, X1⟩, h1, h⟩ := h
    obtain ⟨q, hq, hf, hp, hs1⟩ := semit_den h hs
    obtain ⟨k1, _⟩ := sbOne_den h1 hs1
    simp only [dLA] at k1
    simp only [primDen, List.map_cons, List.map_nil] at hq
    split at hq
    · rename_i heq
      simp only [List.cons.injEq, and_true] at heq
      simp only [Option.some.injEq] at hq
      simp only [step, k1, heq]
      rw [hq]; exact hp
    · cases hq
  | append lev sz bytes x y =>
    simp only [sstep, Option.bind_eq_some_iff] at h
    obtain ⟨⟨⟨b1, v1, S1⟩, X1⟩, h1, ⟨⟨b2, v2, S2⟩, X2⟩, h2, h⟩ := h
    split at h
    · rename_i l p l' q' e1 e2 e3 e4
      simp only at e1 e2 e3 e4
      subst e1 e2 e3 e4
      split at h
      · rename_i hc
        simp only [Bool.and_eq_true] at hc
        obtain ⟨q, hq, hf, hp, hs2⟩ := semit_den h hs
        obtain ⟨k2, hs1⟩ := stPV_den h2 hs2
        obtain ⟨k1, _⟩ := stPV_den h1 hs1
        simp only [dLA, List.map_cons, List.map_nil] at k1 k2
        simp only [primDen, List.map_cons, List.map_nil] at hq
        split at hq
        · rename_i sz1 xs sz2 ys heq
          simp only [List.cons.injEq, and_true] at heq
          obtain ⟨g1, g2⟩ := heq
          rw [g1] at k1
          rw [g2] at k2
          split at hq
          · rename_i hz
            obtain ⟨z1, z2, z3, z4, z5⟩ := hz
            have w1 : okBase lev l xs = true := by
              revert z3
              have := hc.2
              revert this
              cases lev <;> cases l <;> simp [okBase, appK1, appC1]
            have w2 : okSpread lev l' ys = true := by
              revert z4
              unfold okSpread
              cases lev <;> cases l' <;> simp [appK2]
            simp only [Option.some.injEq] at hq
            simp only [step, k1, k2, Option.bind_some]
            rw [if_pos ⟨z1, z2, hc.1.1, hc.1.2, w1, w2, z5⟩, hq]
            exact hp
          · cases hq
        · cases hq
      · cases h
    · cases h
  | appendStr x y => simp [sstep] at h
  | max x y =>
    simp only [sstep, Option.bind_eq_some_iff] at h
    obtain ⟨⟨⟨l1, a1⟩, X1⟩, h1, ⟨⟨l2, a2⟩, X2⟩, h2, h⟩ := h
    obtain ⟨q, hq, hf, hp, hs2⟩ := semit_den h hs
    obtain ⟨k2, hs1⟩ := sbOne_den h2 hs2
    obtain ⟨k1, _⟩ := sbOne_den h1 hs1
    simp only [dLA] at k1 k2
    simp only [primDen, List.map_cons, List.map_nil] at hq
    split at hq
    · rename_i heq
      simp only [List.cons.injEq, and_true] at heq
      split at hq
      · rename_i hk
        simp only [Option.some.injEq] at hq
        simp only [step, k1, k2, heq.1, heq.2, if_pos hk]
        rw [hq]; exact hp
      · cases hq
    · cases hq
  | min x y =>
    simp only [sstep, Option.bind_eq_some_iff] at h
    obtain ⟨⟨⟨l1, a1⟩, X1⟩, h1, ⟨⟨l2, a2⟩, X2⟩, h2, h⟩ := h
    obtain ⟨q, hq, hf, hp, hs2⟩ := semit_den h hs
    obtain ⟨k2, hs1⟩ := sbOne_den h2 hs2
    obtain ⟨k1, _⟩ := sbOne_den h1 hs1
    simp only [dLA] at k1 k2
    simp only [primDen, List.map_cons, List.map_nil] at hq
    split at hq
    · rename_i heq
      simp only [List.cons.injEq, and_true] at heq
      split at hq
      · rename_i hk
        simp only [Option.some.injEq] at hq
        simp only [step, k1, k2, heq.1, heq.2, if_pos hk]
        rw [hq]; exact hp
      · cases hq
    · cases hq
  | nilchk x =>
    cases x with
    | c p => simp [sstep] at h
    | t m rs =>
      simp only [sstep] at h
      simp only [step, SSt.g_den]
      split at h
      · rename_i hm; simp only [hm, STV.den]; exact (sret_den h hs).1
      · rename_i hm; simp only [hm, STV.den, SPath.den, List.map_nil]; exact (sret_den h hs).1
      · rename_i hm; simp only [hm, STV.den]; exact (sret_den h hs).1
      · cases h
  | call => simp [sstep] at h
end Go.Proofs.Ytkiliooegoldoaa
