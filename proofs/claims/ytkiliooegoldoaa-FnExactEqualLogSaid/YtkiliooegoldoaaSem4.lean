/- Code and functions: what the evaluator answers, the program answers. -/
import Derived.Test.YtkiliooegoldoaaSem3
set_option linter.unusedVariables false
set_option linter.unusedSimpArgs false
namespace Go.Proofs.Ytkiliooegoldoaa
open Go

def AExit.toExit : AExit → Exit
  | .normal => .normal
  | .exit id => .exit id
  | .ret => .ret

def CodeSem (P : Program) (rc : Code) (S : St) (e : AExit) (S' : St) : Prop :=
  ∀ E w φ bs a Q, SR E S a.tmps.toList w φ bs [] → a.defers = [] →
    (∀ a' w' φ' bs', SR E S' a'.tmps.toList w' φ' bs' [] → a'.defers = [] → Q e.toExit a' w') → rc.wp P Q a w

def OpsSem (P : Program) (ops : Array Oper) (is : List Nat) (S S' : St) : Prop :=
  ∀ E w φ bs a Q, SR E S a.tmps.toList w φ bs [] → a.defers = [] →
    (∀ a' w' φ' bs', SR E S' a'.tmps.toList w' φ' bs' [] → a'.defers = [] → Q .normal a' w') → wpOps P ops Q is a w

theorem exists_least {p : Nat → Prop} (h : ∃ n, p n) : ∃ m, p m ∧ ∀ k, p k → m ≤ k := by
  obtain ⟨n, hn⟩ := h
  induction n using Nat.strongRecOn with
  | _ n ih =>
    by_cases h : ∃ k, k < n ∧ p k
    · obtain ⟨k, hk, hp⟩ := h
      exact ih k hk hp
    · exact ⟨n, hn, fun k hk => Nat.le_of_not_lt fun hlt => h ⟨k, hlt, hk⟩⟩

open Classical in
theorem wp_loop_fuel {P : Program} {c : Code} {Q : Exit → Act → World → Prop} (G : Nat → Act → World → Prop)
    (round : ∀ n a w, G n a w → c.wp P (Exit.then (fun a' w' => ∃ m, m < n ∧ G m a' w') Q) a w) {n : Nat} {a : Act} {w : World} (h : G n a w) : (Code.loop c).wp P Q a w := by
  refine wp_loop (fun a w => ∃ n, G n a w) (fun a w => if h : ∃ n, G n a w then Classical.choose (exists_least h) else 0) ⟨n, h⟩ ?_
  intro a w hI
  have h1 := round _ a w (Classical.choose_spec (exists_least hI)).1
  refine Code.wp_mono ?_ h1
  intro e a' w' hq
  cases e with
  | normal =>
    obtain ⟨m, hm, hG⟩ := hq
    refine ⟨⟨m, hG⟩, ?_⟩
    simp only [dif_pos hI, dif_pos (⟨m, hG⟩ : ∃ n, G n a' w')]
    exact Nat.lt_of_le_of_lt ((Classical.choose_spec (exists_least (⟨m, hG⟩ : ∃ n, G n a' w'))).2 m hG) hm
  | _ => exact hq

def Rounds (P : Program) (rc : Code) : Nat → St → AExit → St → Prop
  | 0, S, e, S' => e ≠ .normal ∧ CodeSem P rc S e S'
  | n + 1, S, e, S' => ∃ S1, CodeSem P rc S .normal S1 ∧ Rounds P rc n S1 e S'

theorem rounds_sem {P : Program} {rc : Code} {n S e S'} (h : Rounds P rc n S e S') : CodeSem P (.loop rc) S e S' := by
  intro E w φ bs a Q hs hd hQ
  refine wp_loop_fuel (fun n a w => ∃ S φ bs, SR E S a.tmps.toList w φ bs [] ∧ a.defers = [] ∧ Rounds P rc n S e S') ?_ ⟨S, φ, bs, hs, hd, h⟩
  rintro n a w ⟨S, φ, bs, hs, hd, h⟩
  cases n with
  | zero =>
    refine h.2 E w φ bs a _ hs hd fun a' w' φ' bs' hs' hd' => ?_
    have := hQ a' w' φ' bs' hs' hd'
    cases e with
    | normal => exact absurd rfl h.1
    | exit id => exact this
    | ret => exact this
  | succ n =>
    obtain ⟨S1, h1, h2⟩ := h
    exact h1 E w φ bs a _ hs hd fun a' w' φ' bs' hs' hd' => ⟨n, Nat.lt_succ_self n, S1, φ', bs', hs', hd', h2⟩

theorem sem_seqN {P : Program} {x y : Code} {S S1 e S2} (h1 : CodeSem P x S .normal S1) (h2 : CodeSem P y S1 e S2) : CodeSem P (.seq x y) S e S2 := by
  intro E w φ bs a Q hs hd hQ
  exact wp_seq (h1 E w φ bs a _ hs hd fun a' w' φ' bs' hs' hd' => h2 E w' φ' bs' a' Q hs' hd' hQ)
theorem sem_seqE {P : Program} {x y : Code} {S e S1} (h1 : CodeSem P x S e S1) (hne : e ≠ .normal) : CodeSem P (.seq x y) S e S1 := by
  intro E w φ bs a Q hs hd hQ
  refine wp_seq (h1 E w φ bs a _ hs hd fun a' w' φ' bs' hs' hd' => ?_)
  have := hQ a' w' φ' bs' hs' hd'
  cases e with
  | normal => exact absurd rfl hne
  | exit id => exact this
  | ret => exact this
theorem sem_block {P : Program} {id : Nat} {x : Code} {S e S1} (h1 : CodeSem P x S e S1) : CodeSem P (.block id x) S (e.out id) S1 := by
  intro E w φ bs a Q hs hd hQ
  refine wp_block (h1 E w φ bs a _ hs hd fun a' w' φ' bs' hs' hd' => ?_)
  have := hQ a' w' φ' bs' hs' hd'
  cases e with
  | normal => exact this
  | ret => exact this
  | exit i =>
    simp only [AExit.out, AExit.toExit, Exit.inBlock] at this ⊢
    split <;> rename_i hi
    · rw [if_pos hi] at this; exact this
    · rw [if_neg hi] at this; exact this
theorem sem_cond {P : Program} {c' c} {x y : Code} {S l t e S1} (hc : chkO c' c = true) (hb : bOne S c = some (l, .bool t)) (h1 : CodeSem P (if t then x else y) S e S1) : CodeSem P (.cond c' x y) S e S1 := by
  intro E w φ bs a Q hs hd hQ
  have := (bOne_sound hs (eval_rho a _ _ hc) hb).flat rfl
  exact wp_cond (t := t) this (h1 E w φ bs a Q hs hd hQ)

def noRelev : List Pseudo → Bool
  | [] => true
  | .kill _ :: ps => noRelev ps
  | .relev .. :: _ => false
theorem pseudo_sound {E vs w φ hand} : ∀ {ps S S' bs}, noRelev ps = true → SR E S vs w φ bs hand → pseudo S ps = some S' → ∃ bs', SR E S' vs w φ bs' hand := by
  intro ps
  induction ps with
  | nil => intro S S' bs _ hs h; simp [pseudo] at h; subst h; exact ⟨bs, hs⟩
  | cons p ps ih =>
    intro S S' bs hn hs h
    cases p with
    | kill ts =>
      simp only [pseudo] at h
      obtain ⟨b1, k⟩ := killSlots_sound (ts := ts) hs
      exact ih hn k h
    | relev t c l => cases hn


end Go.Proofs.Ytkiliooegoldoaa
