/- What an operation looks at and what it turns. -/
import Derived.Test.YtkiliooegoldoaaSem4
set_option linter.unusedVariables false
set_option linter.unusedSimpArgs false
namespace Go.Proofs.Ytkiliooegoldoaa
open Go

structure Agree (X : List Nat) (S T : St) : Prop where
  len : S.length = T.length
  eq : ∀ t ∈ X, S.g t = T.g t
structure Upd (W : List Nat) (S S' T T' : St) : Prop where
  lenS : S'.length = S.length
  lenT : T'.length = T.length
  on : ∀ t ∈ W, T'.g t = S'.g t
  off : ∀ t, t ∉ W → T'.g t = T.g t ∧ S'.g t = S.g t

theorem Agree.sub {X Y S T} (h : Agree X S T) (hs : ∀ t ∈ Y, t ∈ X) : Agree Y S T := ⟨h.len, fun t ht => h.eq t (hs t ht)⟩
theorem Upd.agree {X W S S' T T'} (h : Upd W S S' T T') (hA : Agree X S T) : Agree X S' T' := by
  refine ⟨by rw [h.lenS, h.lenT, hA.len], fun t ht => ?_⟩
  by_cases hw : t ∈ W
  · exact (h.on t hw).symm
  · rw [(h.off t hw).1, (h.off t hw).2]; exact hA.eq t ht
theorem Upd.trans {W V S S1 S2 T T1 T2} (h : Upd W S S1 T T1) (k : Upd V S1 S2 T1 T2) : Upd (W ++ V) S S2 T T2 := by
  refine ⟨k.lenS.trans h.lenS, k.lenT.trans h.lenT, fun t ht => ?_, fun t ht => ?_⟩
  · by_cases hv : t ∈ V
    · exact k.on t hv
    · rw [(k.off t hv).1, (k.off t hv).2]
      exact h.on t ((List.mem_append.1 ht).resolve_right hv)
  · simp only [List.mem_append, not_or] at ht
    obtain ⟨h1, h2⟩ := h.off t ht.1
    obtain ⟨k1, k2⟩ := k.off t ht.2
    exact ⟨k1.trans h1, k2.trans h2⟩
theorem Upd.wide {W V S S' T T'} (h : Upd W S S' T T') (hA : Agree V S T) (hs : ∀ t ∈ W, t ∈ V) : Upd V S S' T T' := by
  refine ⟨h.lenS, h.lenT, fun t ht => ?_, fun t ht => h.off t fun hw => ht (hs t hw)⟩
  by_cases hw : t ∈ W
  · exact h.on t hw
  · rw [(h.off t hw).1, (h.off t hw).2]; exact (hA.eq t ht).symm
theorem Upd.refl {W S T} (h : Agree W S T) : Upd W S S T T := ⟨rfl, rfl, fun t ht => (h.eq t ht).symm, fun t _ => ⟨rfl, rfl⟩⟩
theorem Upd.set_ {S T : St} {n : Nat} {v : TV} (h : S.length = T.length) : Upd [n] S (S.set n v) T (T.set n v) := by
  refine ⟨by simp, by simp, fun t ht => ?_, fun t ht => ?_⟩
  · simp at ht
    subst ht
    rw [g_set, g_set, h]
    split
    · rfl
    · rename_i hn
      simp at hn
      unfold St.g
      rw [List.getD_eq_getElem?_getD, List.getD_eq_getElem?_getD, List.getElem?_eq_none (by omega), List.getElem?_eq_none (by omega)]
  · simp at ht
    rw [g_set, g_set, if_neg (by omega), if_neg (by omega)]
    exact ⟨rfl, rfl⟩

/-! ### Reading -/
section
variable {S T : St}
theorem rootCell_congr {r c : Nat} (h : S.g r = T.g r) : rootCell S r c = rootCell T r c := by unfold rootCell; rw [h]
theorem bCell_congr {rs : List Nat} {c : Cell} (h : ∀ r ∈ rs, S.g r = T.g r) : bCell S rs c = bCell T rs c := by
  cases c with
  | val l p => rfl
  | dead => rfl
  | view r c path =>
    simp only [bCell]
    by_cases hr : rs.elem r = true
    · rw [if_pos hr, if_pos hr, rootCell_congr (h r (elem_iff.1 hr))]
    · rw [if_neg hr, if_neg hr]
theorem bCells_congr {rs : List Nat} (h : ∀ r ∈ rs, S.g r = T.g r) : ∀ {cs : List Cell}, bCells S rs cs = bCells T rs cs := by
  intro cs
  induction cs with
  | nil => rfl
  | cons c cs ih => simp only [bCells, bCell_congr h, ih]

def AOpnd.slots : AOpnd → List Nat
  | .t n rs => n :: rs
  | .c _ => []
theorem bOne_congr {x : AOpnd} (h : ∀ r ∈ x.slots, S.g r = T.g r) : bOne S x = bOne T x := by
  cases x with
  | c p => rfl
  | t n rs =>
    simp only [bOne, h n (by simp [AOpnd.slots])]
    split
    · exact bCell_congr fun r hr => h r (by simp [AOpnd.slots, hr])
    · rfl
theorem bAny_congr {x : AOpnd} (h : ∀ r ∈ x.slots, S.g r = T.g r) : bAny S x = bAny T x := by
  cases x with
  | c p => rfl
  | t n rs =>
    simp only [bAny, h n (by simp [AOpnd.slots])]
    split
    · rw [bCell_congr fun r hr => h r (by simp [AOpnd.slots, hr])]
    · rw [bCells_congr fun r hr => h r (by simp [AOpnd.slots, hr])]
    · rfl
theorem natOf_congr {x : AOpnd} (h : ∀ r ∈ x.slots, S.g r = T.g r) : natOf S x = natOf T x := by
  unfold natOf; rw [bOne_congr h]
def oslots : Option AOpnd → List Nat
  | none => []
  | some x => x.slots
theorem optNat_congr {x : Option AOpnd} {d : Nat} (h : ∀ r ∈ oslots x, S.g r = T.g r) : optNat S x d = optNat T x d := by
  cases x with
  | none => rfl
  | some x => exact natOf_congr h
theorem loadAt_congr {rs : List Nat} {n : Nat} {tv : TV} (h : ∀ r ∈ rs, S.g r = T.g r) : loadAt S rs n tv = loadAt T rs n tv := by
  cases tv with
  | place r c path =>
    cases path with
    | nil =>
      simp only [loadAt]
      by_cases hr : rs.elem r = true
      · rw [if_pos hr, if_pos hr, h r (elem_iff.1 hr)]
      · rw [if_neg hr, if_neg hr]
    | cons x path =>
      simp only [loadAt]
      by_cases hr : rs.elem r = true
      · rw [if_pos hr, if_pos hr, rootCell_congr (h r (elem_iff.1 hr))]
      · rw [if_neg hr, if_neg hr]
  | _ => rfl
theorem guardOf_congr {gd : Option (Nat × Bool)} (h : ∀ g b, gd = some (g, b) → S.g g = T.g g) : guardOf S gd = guardOf T gd := by
  cases gd with
  | none => rfl
  | some x => obtain ⟨g, b⟩ := x; simp only [guardOf, h g b rfl]
def aslots : List AOpnd → List Nat
  | [] => []
  | x :: xs => x.slots ++ aslots xs
theorem argsOf_congr : ∀ {as : List AOpnd}, (∀ r ∈ aslots as, S.g r = T.g r) → argsOf S as = argsOf T as := by
  intro as
  induction as with
  | nil => intro _; rfl
  | cons a as ih =>
    intro h
    simp only [argsOf]
    rw [bAny_congr fun r hr => h r (by simp [aslots, hr]), ih fun r hr => h r (by simp [aslots, hr])]
theorem tVal_congr {rs : List Nat} {c : Cell} (h : ∀ r ∈ rs, S.g r = T.g r) : tVal S rs c = tVal T rs c := by
  cases c with
  | val l p => rfl
  | view r c path => simp only [tVal]; exact bCell_congr h
  | dead => rfl
theorem tVals_congr {rs : List Nat} (h : ∀ r ∈ rs, S.g r = T.g r) : ∀ {cs : List Cell}, tVals S rs cs = tVals T rs cs := by
  intro cs
  induction cs with
  | nil => rfl
  | cons c cs ih => simp only [tVals, tVal_congr h, ih]
end

/-! ### Taking -/
theorem setRoot_upd {S T : St} {r c : Nat} {x : Cell} (hl : S.length = T.length) (h : S.g r = T.g r) : Upd [r] S (setRoot S r c x) T (setRoot T r c x) := by
  unfold setRoot
  rw [h]
  split
  · exact .set_ hl
  · exact .set_ hl
  · exact .set_ hl
  · exact .refl ⟨hl, fun t ht => by simp at ht; subst ht; exact h⟩

theorem tCell_local {S T S' : St} {rs : List Nat} {c c' : Cell} (hA : Agree rs S T) (h : tCell S rs c = some (c', S')) : ∃ T', tCell T rs c = some (c', T') ∧ Upd rs S S' T T' := by
  cases c with
  | val l p =>
    simp only [tCell, Option.some.injEq, Prod.mk.injEq] at h ⊢
    obtain ⟨rfl, rfl⟩ := h
    exact ⟨T, ⟨rfl, rfl⟩, .refl hA⟩
  | dead => cases h
  | view r c path =>
    cases path with
    | cons x path =>
      simp only [tCell, Option.some.injEq, Prod.mk.injEq] at h ⊢
      obtain ⟨rfl, rfl⟩ := h
      exact ⟨T, ⟨rfl, rfl⟩, .refl hA⟩
    | nil =>
      simp only [tCell] at h ⊢
      split at h
      case isFalse => cases h
      rename_i hr
      rw [if_pos hr]
      have hrg := hA.eq r (elem_iff.1 hr)
      rw [← rootCell_congr hrg]
      split at h
      · rename_i l p hc
        simp only [Option.some.injEq, Prod.mk.injEq] at h ⊢
        obtain ⟨rfl, rfl⟩ := h
        exact ⟨_, ⟨rfl, rfl⟩, (setRoot_upd hA.len hrg).wide hA (by simpa using elem_iff.1 hr)⟩
      · cases h

theorem tCells_local {rs : List Nat} : ∀ {cs cs' : List Cell} {S T S' : St}, Agree rs S T → tCells S rs cs = some (cs', S') → ∃ T', tCells T rs cs = some (cs', T') ∧ Upd rs S S' T T' := by
  intro cs
  induction cs with
  | nil =>
    intro cs' S T S' hA h
    simp only [tCells, Option.some.injEq, Prod.mk.injEq] at h ⊢
    obtain ⟨rfl, rfl⟩ := h
    exact ⟨T, ⟨rfl, rfl⟩, .refl hA⟩
  | cons c cs ih =>
    intro cs' S T S' hA h
    simp only [tCells] at h ⊢
    cases h1 : tCell S rs c with
    | none => rw [h1] at h; cases h
    | some x =>
      rw [h1] at h
      simp only [Option.bind_some] at h
      cases h2 : tCells x.2 rs cs with
      | none => rw [h2] at h; cases h
      | some y =>
        rw [h2] at h
        simp only [Option.map_some, Option.some.injEq, Prod.mk.injEq] at h
        obtain ⟨rfl, rfl⟩ := h
        obtain ⟨T1, k1, u1⟩ := tCell_local (c' := x.1) (S' := x.2) hA h1
        obtain ⟨T2, k2, u2⟩ := ih (cs' := y.1) (S' := y.2) (u1.agree hA) h2
        exact ⟨T2, by rw [k1]; simp [k2], (u1.trans u2).wide hA (by simp)⟩

theorem tAny_local {S T S' : St} {x : AOpnd} {ag cs} (hA : Agree x.slots S T) (h : tAny S x = some (ag, cs, S')) : ∃ T', tAny T x = some (ag, cs, T') ∧ Upd x.slots S S' T T' := by
  cases x with
  | c p =>
    simp only [tAny, Option.some.injEq, Prod.mk.injEq] at h ⊢
    obtain ⟨rfl, rfl, rfl⟩ := h
    exact ⟨T, ⟨rfl, rfl, rfl⟩, .refl hA⟩
  | t n rs =>
    have hn := hA.eq n (by simp [AOpnd.slots])
    have hA' : Agree rs S T := hA.sub (by simp [AOpnd.slots]; intro t ht; exact .inr ht)
    simp only [tAny] at h ⊢
    split at h
    case isTrue => cases h
    rename_i hel
    rw [if_neg hel, ← hn]
    split at h
    · rename_i c hS
      rename_i hS
      cases hc : tCells S rs [c] with
      | none => rw [hc] at h; cases h
      | some y =>
        rw [hc] at h
        simp only [Option.map_some, Option.some.injEq, Prod.mk.injEq] at h
        obtain ⟨rfl, rfl, rfl⟩ := h
        obtain ⟨T1, k1, u1⟩ := tCells_local (cs' := y.1) (S' := y.2) hA' hc
        refine ⟨T1.set n (.one (weakC c)), by simp [k1], ?_⟩
        exact (u1.trans (Upd.set_ (n := n) (by rw [u1.lenS, u1.lenT, hA.len]))).wide hA (by simp [AOpnd.slots]; rintro t (ht | rfl) <;> simp [*])
    · rename_i cs0 hS
      cases hc : tCells S rs cs0 with
      | none => rw [hc] at h; cases h
      | some y =>
        rw [hc] at h
        simp only [Option.map_some, Option.some.injEq, Prod.mk.injEq] at h
        obtain ⟨rfl, rfl, rfl⟩ := h
        obtain ⟨T1, k1, u1⟩ := tCells_local (cs' := y.1) (S' := y.2) hA' hc
        refine ⟨T1.set n (.agg (cs0.map weakC)), by simp [k1], ?_⟩
        exact (u1.trans (Upd.set_ (n := n) (by rw [u1.lenS, u1.lenT, hA.len]))).wide hA (by simp [AOpnd.slots]; rintro t (ht | rfl) <;> simp [*])
    · cases h

theorem AOpnd.rs_slots {x : AOpnd} : ∀ r ∈ x.rs, r ∈ x.slots := by
  cases x with
  | c p => intro r h; cases h
  | t n rs => intro r h; exact List.mem_cons_of_mem _ h

theorem tPV_local {S T S' : St} {x : AOpnd} {ag l} (hA : Agree x.slots S T) (h : tPV S x = some (ag, l, S')) : ∃ T', tPV T x = some (ag, l, T') ∧ Upd x.slots S S' T T' := by
  unfold tPV at h ⊢
  cases h1 : tAny S x with
  | none => rw [h1] at h; cases h
  | some y =>
    rw [h1] at h
    simp only [Option.bind_some] at h
    cases h2 : tVals y.2.2 x.rs y.2.1 with
    | none => rw [h2] at h; cases h
    | some l' =>
      rw [h2] at h
      simp only [Option.map_some, Option.some.injEq, Prod.mk.injEq] at h
      obtain ⟨rfl, rfl, rfl⟩ := h
      obtain ⟨T', k, u⟩ := tAny_local (ag := y.1) (cs := y.2.1) (S' := y.2.2) hA h1
      refine ⟨T', ?_, u⟩
      rw [k]
      simp only [Option.bind_some]
      rw [← tVals_congr (S := y.2.2) fun r hr => (u.agree hA).eq r (AOpnd.rs_slots r hr), h2]
      rfl

theorem put_local {S T S' : St} {d : Option Nat} {v : TV} (hA : Agree d.toList S T) (h : put false S d v = some S') : ∃ T', put false T d v = some T' ∧ Upd d.toList S S' T T' := by
  cases d with
  | none =>
    simp only [put, Option.some.injEq] at h ⊢
    subst h
    exact ⟨T, rfl, .refl hA⟩
  | some d =>
    have hd := hA.eq d (by simp)
    simp only [put, Bool.false_eq_true, if_false, ← hd] at h ⊢
    split at h
    case isTrue => cases h
    rename_i hr
    injection h with h
    subst h
    rw [if_neg hr]
    exact ⟨_, rfl, .set_ hA.len⟩

end Go.Proofs.Ytkiliooegoldoaa
