/- What an operation looks at and what it turns: each operation. -/
import Derived.Test.YtkiliooegoldoaaDraw1
set_option linter.unusedVariables false
set_option linter.unusedSimpArgs false
namespace Go.Proofs.Ytkiliooegoldoaa
open Go

def partSlots {α : Type} : List (α × AOpnd) → List Nat
  | [] => []
  | p :: ps => p.2.slots ++ partSlots ps
def partSlots2 {α β : Type} : List (α × β × AOpnd) → List Nat
  | [] => []
  | p :: ps => p.2.2.slots ++ partSlots2 ps

/-- What it looks at, what it takes; none where it is not local. -/
def foot : AOp → Option (List Nat × List Nat)
  | .mv g x => if g then none else some (x.slots, [])
  | .take g x => if g then none else some (x.slots, x.slots)
  | .pick c a b => some (c.slots ++ a.slots ++ b.slots, [])
  | .build _ ps => some (partSlots2 ps, partSlots2 ps)
  | .mkSl _ _ _ _ ps => some (partSlots ps, partSlots ps)
  | .load _ p => some (p.slots, [])
  | .bin _ x y => some (x.slots ++ y.slots, [])
  | .eqB _ x y => some (x.slots ++ y.slots, [])
  | .eqAgg _ _ x y => some (x.slots ++ y.slots, [])
  | .un _ x => some (x.slots, [])
  | .convInt _ x => some (x.slots, [])
  | .bytesStr x => some (x.slots, [])
  | .make _ _ _ x => some (x.slots, [])
  | .sliceS x lo hi => some (x.slots ++ oslots lo ++ oslots hi, [])
  | .slice _ x lo hi mx => some (x.slots ++ oslots lo ++ oslots hi ++ oslots mx, [])
  | .faddr _ p => some (p.slots, [])
  | .field _ _ x => some (x.slots, x.slots)
  | .iaddr _ x i => some (x.slots ++ i.slots, [])
  | .index x i => some (x.slots ++ i.slots, [])
  | .extract _ x => some (x.slots, x.slots)
  | .len x => some (x.slots, [])
  | .lenS x => some (x.slots, [])
  | .append _ _ _ x y => some (x.slots ++ y.slots, x.slots ++ y.slots)
  | .max x y => some (x.slots ++ y.slots, [])
  | .min x y => some (x.slots ++ y.slots, [])
  | .nilchk x => some (x.slots, [])
  | .call _ as => some (aslots as, [])
  | _ => none

/-- An operation that only looks: what it puts is the same where what it looks at is the same. -/
theorem look {S T S' : St} {d : Option Nat} {a : AOp} {X : List Nat} (hA : Agree (X ++ d.toList) S T) (h : step S d a = some S')
    (hl : ∃ v, put false S d v = some S' ∧ step T d a = put false T d v) : ∃ T', step T d a = some T' ∧ Upd ([] ++ d.toList) S S' T T' := by
  obtain ⟨v, h1, h2⟩ := hl
  obtain ⟨T', k1, k2⟩ := put_local (hA.sub (by simp; intro t ht; exact .inr ht)) h1
  exact ⟨T', by rw [h2, k1], by simpa using k2⟩

theorem Agree.l {X Y S T} (h : Agree (X ++ Y) S T) : Agree X S T := h.sub (by simp; intro t ht; exact .inl ht)
theorem Agree.r {X Y S T} (h : Agree (X ++ Y) S T) : Agree Y S T := h.sub (by simp; intro t ht; exact .inr ht)

theorem layAll_local : ∀ {ps : List (Nat × Nat × AOpnd)} {cs cs' : List Cell} {S T S' : St}, Agree (partSlots2 ps) S T → layAll S cs ps = some (cs', S') → ∃ T', layAll T cs ps = some (cs', T') ∧ Upd (partSlots2 ps) S S' T T' := by
  intro ps
  induction ps with
  | nil =>
    intro cs cs' S T S' hA h
    simp only [layAll, Option.some.injEq, Prod.mk.injEq] at h ⊢
    obtain ⟨rfl, rfl⟩ := h
    exact ⟨T, ⟨rfl, rfl⟩, .refl hA⟩
  | cons p ps ih =>
    obtain ⟨off, n, o⟩ := p
    intro cs cs' S T S' hA h
    simp only [partSlots2] at hA
    simp only [layAll] at h ⊢
    cases h1 : tAny S o with
    | none => rw [h1] at h; cases h
    | some x =>
      rw [h1] at h
      simp only [Option.bind_some] at h
      split at h
      case isFalse => cases h
      rename_i hn
      cases h2 : lay cs off x.2.1 with
      | none => rw [h2] at h; cases h
      | some cs1 =>
        rw [h2] at h
        simp only [Option.bind_some] at h
        obtain ⟨T1, k1, u1⟩ := tAny_local (ag := x.1) (cs := x.2.1) (S' := x.2.2) hA.l h1
        obtain ⟨T2, k2, u2⟩ := ih (u1.agree hA.r) h
        exact ⟨T2, by rw [k1]; simp [hn, h2, k2], u1.trans u2⟩

theorem layRows_local {sz : Nat} : ∀ {ps : List (Nat × AOpnd)} {rows rows' : List (List (Lev × PV))} {S T S' : St}, Agree (partSlots ps) S T → layRows S sz rows ps = some (rows', S') → ∃ T', layRows T sz rows ps = some (rows', T') ∧ Upd (partSlots ps) S S' T T' := by
  intro ps
  induction ps with
  | nil =>
    intro cs cs' S T S' hA h
    simp only [layRows, Option.some.injEq, Prod.mk.injEq] at h ⊢
    obtain ⟨rfl, rfl⟩ := h
    exact ⟨T, ⟨rfl, rfl⟩, .refl hA⟩
  | cons p ps ih =>
    obtain ⟨i, o⟩ := p
    intro cs cs' S T S' hA h
    simp only [partSlots] at hA
    simp only [layRows] at h ⊢
    cases h1 : tPV S o with
    | none => rw [h1] at h; cases h
    | some x =>
      rw [h1] at h
      simp only [Option.bind_some] at h
      split at h
      case isFalse => cases h
      rename_i hn
      obtain ⟨T1, k1, u1⟩ := tPV_local (ag := x.1) (l := x.2.1) (S' := x.2.2) hA.l h1
      obtain ⟨T2, k2, u2⟩ := ih (u1.agree hA.r) h
      refine ⟨T2, ?_, u1.trans u2⟩
      rw [k1]
      simp only [Option.bind_some]
      rw [if_pos hn]
      exact k2

theorem step_local {a : AOp} {R W : List Nat} {d : Option Nat} {S T S' : St} (hf : foot a = some (R, W)) (hA : Agree (R ++ d.toList) S T) (h : step S d a = some S') :
    ∃ T', step T d a = some T' ∧ Upd (W ++ d.toList) S S' T T' := by
  cases a with
  | mv g x =>
    simp only [foot] at hf
    split at hf
    case isTrue => cases hf
    rename_i hg
    simp only [Bool.not_eq_true] at hg
    subst hg
    simp only [Option.some.injEq, Prod.mk.injEq] at hf
    obtain ⟨rfl, rfl⟩ := hf
    refine look hA h ?_
    cases x with
    | c p => exact ⟨_, h, rfl⟩
    | t n rs =>
      have hn := hA.eq n (by simp [AOpnd.slots])
      simp only [step] at h ⊢
      rw [← hn]
      split at h <;> first | exact ⟨_, h, rfl⟩ | cases h
  | take g x =>
    simp only [foot] at hf
    split at hf
    case isTrue => cases hf
    rename_i hg
    simp only [Bool.not_eq_true] at hg
    subst hg
    simp only [Option.some.injEq, Prod.mk.injEq] at hf
    obtain ⟨rfl, rfl⟩ := hf
    simp only [step] at h ⊢
    cases h1 : tAny S x with
    | none => rw [h1] at h; cases h
    | some y =>
      rw [h1] at h
      simp only [Option.bind_some] at h
      cases h2 : TV.ofCells y.1 y.2.1 with
      | none => rw [h2] at h; cases h
      | some v =>
        rw [h2] at h
        simp only [Option.bind_some] at h
        obtain ⟨T1, k1, u1⟩ := tAny_local (ag := y.1) (cs := y.2.1) (S' := y.2.2) hA.l h1
        obtain ⟨T2, k2, u2⟩ := put_local (u1.agree hA.r) h
        exact ⟨T2, by rw [k1]; simp [h2, k2], u1.trans u2⟩
  | pick c a b =>
    simp only [foot, Option.some.injEq, Prod.mk.injEq] at hf
    obtain ⟨rfl, rfl⟩ := hf
    refine look hA h ?_
    simp only [step] at h ⊢
    have hab : ∀ t : Bool, bOne S (if t then a else b) = bOne T (if t then a else b) := fun t => by
      cases t
      · exact bOne_congr hA.l.r.eq
      · exact bOne_congr hA.l.l.r.eq
    rw [← bOne_congr hA.l.l.l.eq]
    split at h
    · rename_i lc t h1
      rw [← hab t]
      split at h
      · rename_i lv v h2
        split at h
        · rename_i hfl
          exact ⟨_, h, by rw [if_pos hfl]⟩
        · cases h
      · cases h
    · cases h
  | alloc g cs ls => cases hf
  | box g x => cases hf
  | boxV x => cases hf
  | build zs ps =>
    simp only [foot, Option.some.injEq, Prod.mk.injEq] at hf
    obtain ⟨rfl, rfl⟩ := hf
    simp only [step] at h ⊢
    cases h1 : layAll S (zeroCells zs) ps with
    | none => rw [h1] at h; cases h
    | some y =>
      rw [h1] at h
      simp only [Option.bind_some] at h
      obtain ⟨T1, k1, u1⟩ := layAll_local (cs' := y.1) (S' := y.2) hA.l h1
      obtain ⟨T2, k2, u2⟩ := put_local (u1.agree hA.r) h
      exact ⟨T2, by rw [k1]; simp [k2], u1.trans u2⟩
  | mkSl lev sz zs n ps =>
    simp only [foot, Option.some.injEq, Prod.mk.injEq] at hf
    obtain ⟨rfl, rfl⟩ := hf
    simp only [step] at h ⊢
    cases h1 : layRows S sz (List.replicate n (zs.map fun z => (Lev.deep, z))) ps with
    | none => rw [h1] at h; cases h
    | some y =>
      rw [h1] at h
      simp only [Option.bind_some] at h
      split at h
      case isFalse => cases h
      rename_i hc
      obtain ⟨T1, k1, u1⟩ := layRows_local (rows' := y.1) (S' := y.2) hA.l h1
      obtain ⟨T2, k2, u2⟩ := put_local (u1.agree hA.r) h
      refine ⟨T2, ?_, u1.trans u2⟩
      rw [k1]
      simp only [Option.bind_some]
      rw [if_pos hc, k2]
  | load n p =>
    simp only [foot, Option.some.injEq, Prod.mk.injEq] at hf
    obtain ⟨rfl, rfl⟩ := hf
    refine look hA h ?_
    cases p with
    | c p => cases h
    | t m rs =>
      have hn := hA.eq m (by simp [AOpnd.slots])
      simp only [step] at h ⊢
      have hpl : asPlace S m = asPlace T m := by unfold asPlace; rw [hn]
      rw [← hpl, ← loadAt_congr (S := S) fun r hr => hA.eq r (by simp [AOpnd.slots, hr])]
      cases h1 : loadAt S rs (n.getD 1) (asPlace S m) with
      | none => rw [h1] at h; cases h
      | some cs =>
        rw [h1] at h
        simp only [Option.bind_some] at h ⊢
        cases h2 : TV.ofCells n.isSome cs with
        | none => rw [h2] at h; cases h
        | some v =>
          rw [h2] at h
          exact ⟨v, h, rfl⟩
  | store n p x => cases hf
  | bin b x y =>
    simp only [foot, Option.some.injEq, Prod.mk.injEq] at hf
    obtain ⟨rfl, rfl⟩ := hf
    refine look hA h ?_
    simp only [step] at h ⊢
    rw [← bOne_congr hA.l.l.eq, ← bOne_congr hA.l.r.eq]
    split at h
    · rename_i l1 p l2 q _ _
      cases hr : binS b p q with
      | none => rw [hr] at h; cases h
      | some r => rw [hr] at h; exact ⟨_, h, by simp⟩
    · cases h
  | eqB neg x y =>
    simp only [foot, Option.some.injEq, Prod.mk.injEq] at hf
    obtain ⟨rfl, rfl⟩ := hf
    refine look hA h ?_
    simp only [step] at h ⊢
    rw [← bOne_congr hA.l.l.eq, ← bOne_congr hA.l.r.eq]
    split at h
    · exact ⟨_, h, rfl⟩
    · cases h
  | eqAgg neg ks x y =>
    simp only [foot, Option.some.injEq, Prod.mk.injEq] at hf
    obtain ⟨rfl, rfl⟩ := hf
    refine look hA h ?_
    simp only [step] at h ⊢
    rw [← bAny_congr hA.l.l.eq, ← bAny_congr hA.l.r.eq]
    split at h
    · rename_i p q _ _
      split at h
      case isFalse => cases h
      rename_i hk
      cases hr : sameCells p q with
      | none => rw [hr] at h; cases h
      | some r => rw [hr] at h; exact ⟨_, h, by simp [hk]⟩
    · cases h
  | un u x =>
    simp only [foot, Option.some.injEq, Prod.mk.injEq] at hf
    obtain ⟨rfl, rfl⟩ := hf
    refine look hA h ?_
    simp only [step] at h ⊢
    rw [← bOne_congr hA.l.eq]
    split at h
    · rename_i l p _
      cases hr : unS u p with
      | none => rw [hr] at h; cases h
      | some r => rw [hr] at h; exact ⟨_, h, by simp⟩
    · cases h
  | convInt k x =>
    simp only [foot, Option.some.injEq, Prod.mk.injEq] at hf
    obtain ⟨rfl, rfl⟩ := hf
    refine look hA h ?_
    simp only [step] at h ⊢
    rw [← bOne_congr hA.l.eq]
    split at h
    · exact ⟨_, h, rfl⟩
    · cases h
  | bytesStr x =>
    simp only [foot, Option.some.injEq, Prod.mk.injEq] at hf
    obtain ⟨rfl, rfl⟩ := hf
    refine look hA h ?_
    simp only [step] at h ⊢
    rw [← bOne_congr hA.l.eq]
    split at h
    · rename_i l p _
      cases hr : bytesOfRows p with
      | none => rw [hr] at h; cases h
      | some r => rw [hr] at h; exact ⟨_, h, by simp⟩
    · cases h
  | make lev sz zs x =>
    simp only [foot, Option.some.injEq, Prod.mk.injEq] at hf
    obtain ⟨rfl, rfl⟩ := hf
    refine look hA h ?_
    simp only [step] at h ⊢
    rw [← natOf_congr hA.l.eq]
    split at h
    · split at h
      · rename_i h1
        split at h
        · rename_i h2
          exact ⟨_, h, by rw [if_pos h1, if_pos h2]⟩
        · cases h
      · cases h
    · cases h
  | sliceS x lo hi =>
    simp only [foot, Option.some.injEq, Prod.mk.injEq] at hf
    obtain ⟨rfl, rfl⟩ := hf
    refine look hA h ?_
    simp only [step] at h ⊢
    rw [← bOne_congr hA.l.l.l.eq]
    split at h
    · rw [← optNat_congr hA.l.l.r.eq, ← optNat_congr hA.l.r.eq]
      try dsimp only
      split at h
      · split at h
        · rename_i h2
          exact ⟨_, h, by rw [if_pos h2]⟩
        · cases h
      · cases h
    · cases h
  | slice sz x lo hi mx =>
    simp only [foot, Option.some.injEq, Prod.mk.injEq] at hf
    obtain ⟨rfl, rfl⟩ := hf
    refine look hA h ?_
    simp only [step] at h ⊢
    rw [← bOne_congr hA.l.l.l.l.eq]
    split at h
    · rw [← optNat_congr hA.l.l.l.r.eq, ← optNat_congr hA.l.l.r.eq, ← optNat_congr hA.l.r.eq]
      try dsimp only
      split at h
      · rename_i h0
        rw [if_pos h0]
        split at h
        · split at h
          · rename_i h2
            exact ⟨_, h, by rw [if_pos h2]⟩
          · cases h
        · cases h
      · cases h
    · cases h
  | faddr off p =>
    simp only [foot, Option.some.injEq, Prod.mk.injEq] at hf
    obtain ⟨rfl, rfl⟩ := hf
    refine look hA h ?_
    cases p with
    | c p => cases h
    | t m rs =>
      have hn := hA.eq m (by simp [AOpnd.slots])
      simp only [step] at h ⊢
      rw [← hn]
      split at h
      · exact ⟨_, h, rfl⟩
      · rename_i r c x path hS
        try dsimp only
        split at h
        case isFalse => cases h
        rename_i hr
        rw [if_pos hr, ← rootCell_congr (S := S) (hA.eq r (by simp [AOpnd.slots, elem_iff.1 hr]))]
        split at h
        · exact ⟨_, h, rfl⟩
        · cases h
      · exact ⟨_, h, rfl⟩
      · exact ⟨_, h, rfl⟩
      · cases h
  | field off n x =>
    simp only [foot, Option.some.injEq, Prod.mk.injEq] at hf
    obtain ⟨rfl, rfl⟩ := hf
    simp only [step] at h ⊢
    split at h
    case h_2 => cases h
    rename_i cs S1 h1
    split at h
    case isFalse => cases h
    rename_i hl
    cases h2 : TV.ofCells n.isSome ((cs.drop off).take (n.getD 1)) with
    | none => rw [h2] at h; cases h
    | some v =>
      rw [h2] at h
      simp only [Option.bind_some] at h
      obtain ⟨T1, k1, u1⟩ := tAny_local hA.l h1
      obtain ⟨T2, k2, u2⟩ := put_local (u1.agree hA.r) h
      refine ⟨T2, ?_, u1.trans u2⟩
      rw [k1]
      try dsimp only
      rw [if_pos hl, h2]
      exact k2
  | iaddr sz x i =>
    simp only [foot, Option.some.injEq, Prod.mk.injEq] at hf
    obtain ⟨rfl, rfl⟩ := hf
    refine look hA h ?_
    cases x with
    | c p => cases h
    | t m rs =>
      have hn := hA.eq m (by simp [AOpnd.slots])
      simp only [step] at h ⊢
      rw [← hn, ← natOf_congr hA.l.r.eq]
      split at h
      · rename_i r c path i' hS hi
        try dsimp only
        rw [← bCell_congr (S := S) fun r hr => hA.eq r (by simp [AOpnd.slots, hr])]
        split at h
        · split at h
          · rename_i h2
            exact ⟨_, h, by rw [if_pos h2]⟩
          · cases h
        · cases h
      · try dsimp only
        split at h
        case isFalse => cases h
        rename_i h1
        rw [if_pos h1]
        split at h
        · rename_i h2
          rw [if_pos h2]
          split at h
          · rename_i h3
            exact ⟨_, h, by rw [if_pos h3]⟩
          · cases h
        · rename_i h2
          rw [if_neg h2]
          split at h
          · exact ⟨_, h, rfl⟩
          · cases h
      · cases h
  | index x i =>
    simp only [foot, Option.some.injEq, Prod.mk.injEq] at hf
    obtain ⟨rfl, rfl⟩ := hf
    refine look hA h ?_
    simp only [step] at h ⊢
    rw [← bOne_congr hA.l.l.eq, ← natOf_congr hA.l.r.eq]
    split at h
    · try dsimp only
      split at h
      · exact ⟨_, h, rfl⟩
      · cases h
    · cases h
  | extract i x =>
    simp only [foot, Option.some.injEq, Prod.mk.injEq] at hf
    obtain ⟨rfl, rfl⟩ := hf
    cases x with
    | c p => cases h
    | t n rs =>
      have hn := hA.eq n (by simp [AOpnd.slots])
      simp only [step] at h ⊢
      rw [← hn]
      split at h
      case h_2 => cases h
      rename_i vs hS
      try dsimp only
      split at h
      case h_2 => cases h
      rename_i x hx
      try dsimp only
      cases h2 : TV.ofCells x.1 x.2 with
      | none => rw [h2] at h; cases h
      | some v =>
        rw [h2] at h
        simp only [Option.bind_some] at h ⊢
        have u1 := Upd.set_ (S := S) (T := T) (n := n) (v := .tup (vs.set i (x.1, x.2.map fun _ => .dead))) hA.len
        obtain ⟨T2, k2, u2⟩ := put_local (u1.agree hA.r) h
        refine ⟨T2, k2, (u1.trans u2).wide (V := (AOpnd.t n rs).slots ++ d.toList) hA (by simp [AOpnd.slots]; rintro t (rfl | ht) <;> simp [*])⟩
  | len x =>
    simp only [foot, Option.some.injEq, Prod.mk.injEq] at hf
    obtain ⟨rfl, rfl⟩ := hf
    refine look hA h ?_
    simp only [step] at h ⊢
    rw [← bOne_congr hA.l.eq]
    split at h
    · exact ⟨_, h, rfl⟩
    · cases h
  | lenS x =>
    simp only [foot, Option.some.injEq, Prod.mk.injEq] at hf
    obtain ⟨rfl, rfl⟩ := hf
    refine look hA h ?_
    simp only [step] at h ⊢
    rw [← bOne_congr hA.l.eq]
    split at h
    · exact ⟨_, h, rfl⟩
    · cases h
  | append lev sz bytes x y =>
    simp only [foot, Option.some.injEq, Prod.mk.injEq] at hf
    obtain ⟨rfl, rfl⟩ := hf
    simp only [step] at h ⊢
    cases h1 : tPV S x with
    | none => rw [h1] at h; cases h
    | some a =>
      rw [h1] at h
      simp only [Option.bind_some] at h
      cases h2 : tPV a.2.2 y with
      | none => rw [h2] at h; cases h
      | some b =>
        rw [h2] at h
        simp only [Option.bind_some] at h
        obtain ⟨T1, k1, u1⟩ := tPV_local (ag := a.1) (l := a.2.1) (S' := a.2.2) hA.l.l h1
        obtain ⟨T2, k2, u2⟩ := tPV_local (ag := b.1) (l := b.2.1) (S' := b.2.2) (u1.agree hA.l.r) h2
        rw [k1]
        simp only [Option.bind_some]
        rw [k2]
        simp only [Option.bind_some]
        split at h
        · split at h
          case isFalse => cases h
          rename_i hc
          obtain ⟨T3, k3, u3⟩ := put_local ((u1.trans u2).agree hA.r) h
          refine ⟨T3, ?_, (u1.trans u2).trans u3⟩
          rw [if_pos hc, k3]
        · cases h
  | appendStr x y => cases hf
  | max x y =>
    simp only [foot, Option.some.injEq, Prod.mk.injEq] at hf
    obtain ⟨rfl, rfl⟩ := hf
    refine look hA h ?_
    simp only [step] at h ⊢
    rw [← bOne_congr hA.l.l.eq, ← bOne_congr hA.l.r.eq]
    split at h
    · split at h
      · rename_i h2
        exact ⟨_, h, by rw [if_pos h2]⟩
      · cases h
    · cases h
  | min x y =>
    simp only [foot, Option.some.injEq, Prod.mk.injEq] at hf
    obtain ⟨rfl, rfl⟩ := hf
    refine look hA h ?_
    simp only [step] at h ⊢
    rw [← bOne_congr hA.l.l.eq, ← bOne_congr hA.l.r.eq]
    split at h
    · split at h
      · rename_i h2
        exact ⟨_, h, by rw [if_pos h2]⟩
      · cases h
    · cases h
  | nilchk x =>
    simp only [foot, Option.some.injEq, Prod.mk.injEq] at hf
    obtain ⟨rfl, rfl⟩ := hf
    refine look hA h ?_
    cases x with
    | c p => cases h
    | t n rs =>
      have hn := hA.eq n (by simp [AOpnd.slots])
      simp only [step] at h ⊢
      rw [← hn]
      split at h <;> first | exact ⟨_, h, rfl⟩ | cases h
  | call k as => cases h

end Go.Proofs.Ytkiliooegoldoaa
