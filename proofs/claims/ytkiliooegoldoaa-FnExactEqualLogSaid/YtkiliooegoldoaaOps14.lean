/- Structs compared. -/
import Derived.Laws.StructEq
import Derived.Test.YtkiliooegoldoaaOps13
set_option linter.unusedVariables false
set_option linter.unusedSimpArgs false
namespace Go.Proofs.Ytkiliooegoldoaa
open Go

def kindD : TypeDesc → Nat
  | .int _ => 0
  | .bool => 1
  | .string => 2
  | _ => 4
def kindsOk (P : Program) : Nat → List Field → List Nat → Bool
  | _, [], [] => true
  | k, f :: fs, n :: ns => f.offset == k && !(f.name == "_") && (match P.underlying f.type with
    | some d => kindD d == n && decide (n < 3)
    | none => false) && kindsOk P (k + 1) fs ns
  | _, _, _ => false

section
variable {P : Program} {ρ : Operand → Value} {o : Oper} {E : Env} {S S' : St} {vs : List Value} {w : World} {φ : Nat → Nat} {bs hand : List Nat} {d : Option Nat}

theorem eqIn_scalar {n : Nat} {t : TypeId} {dt : TypeDesc} {p q : PV} {b : Bool} (hu : P.underlying t = some dt) (hk : kindD dt = p.kind) (h : sameScalar p q = some b) : (Op.equalIn (n + 1) t p.toV q.toV).run P w = .ok b w := by
  unfold sameScalar at h
  split at h
  · split at h
    · rename_i hkk
      subst hkk
      injection h with h
      cases dt <;> simp [kindD, PV.kind] at hk
      rw [← h]
      exact run_equalIn_int w n t _ _ _ _ hu
    · cases h
  · injection h with h
    cases dt <;> simp [kindD, PV.kind] at hk
    rw [← h]
    exact run_equalIn_bool' w n t _ _ hu
  · injection h with h
    cases dt <;> simp [kindD, PV.kind] at hk
    rw [← h]
    exact run_equalIn_string w n t _ _ hu
  · cases h

theorem part_scalar {t : TypeId} {dt : TypeDesc} {xs : Array Value} {k : Nat} {u : Value} (hu : P.underlying t = some dt) (hk : kindD dt < 3) (h : xs.toList[k]? = some u) : (part t xs k).run P w = .ok u w := by
  have ha : aggD dt = false := by cases dt <;> simp [kindD] at hk <;> rfl
  rw [Array.getElem?_toList] at h
  simp [part, r_isAgg hu, ha, h]

theorem eqFields_run {n : Nat} {xs ys : Array Value} : ∀ {a b : List (Lev × PV)} {k : Nat} {fs : List Field} {us ts : List Value} {r : Bool}, kindsOk P k fs (a.map fun z => z.2.kind) = true →
    CellsR E w φ (a.map valCell) us [] → CellsR E w φ (b.map valCell) ts [] → (∀ (i : Nat) u, us[i]? = some u → xs.toList[k + i]? = some u) → (∀ (i : Nat) u, ts[i]? = some u → ys.toList[k + i]? = some u) →
    sameCells a b = some r → (Op.eqFields (n + 1) xs ys fs).run P w = .ok r w := by
  intro a
  induction a with
  | nil =>
    intro b k fs us ts r hk h1 h2 hx hy h
    cases fs with
    | cons _ _ => simp [kindsOk] at hk
    | nil =>
      cases b with
      | cons _ _ => simp [sameCells] at h
      | nil => simp [sameCells] at h; subst h; simp [Op.eqFields]
  | cons x a ih =>
    intro b k fs us ts r hk h1 h2 hx hy h
    cases fs with
    | nil => simp [kindsOk] at hk
    | cons f fs =>
      cases b with
      | nil => simp [sameCells] at h
      | cons y b =>
        simp only [List.map_cons, kindsOk, Bool.and_eq_true, beq_iff_eq, Bool.not_eq_true'] at hk
        obtain ⟨⟨⟨hoff, hname⟩, hkind⟩, hk⟩ := hk
        split at hkind
        case h_2 => cases hkind
        rename_i dt hu
        simp only [Bool.and_eq_true, beq_iff_eq, decide_eq_true_eq] at hkind
        simp only [sameCells] at h
        cases hb : sameScalar x.2 y.2 with
        | none => rw [hb] at h; cases h
        | some b0 =>
          rw [hb] at h
          simp only [Option.bind_some] at h
          cases hr : sameCells a b with
          | none => rw [hr] at h; cases h
          | some r0 =>
            rw [hr] at h
            simp only [Option.map_some, Option.some.injEq] at h
            obtain ⟨u, us', b1, b2, rfl, e1, hc, h1⟩ := h1
            obtain ⟨t, ts', c1, c2, rfl, e2, hd, h2⟩ := h2
            obtain ⟨rfl, rfl⟩ := List.append_eq_nil_iff.1 e1.symm
            obtain ⟨rfl, rfl⟩ := List.append_eq_nil_iff.1 e2.symm
            have fx : x.2.flat = true ∧ y.2.flat = true := by
              unfold sameScalar at hb
              split at hb <;> rename_i e1 e2 <;> first | (rw [e1, e2]; exact ⟨rfl, rfl⟩) | cases hb
            have hu' := CellR.flat hc fx.1
            have ht' := CellR.flat hd fx.2
            subst hu'; subst ht'
            have hkd : kindD dt < 3 := by rw [hkind.1]; exact hkind.2
            have p1 := part_scalar (w := w) hu hkd (hx 0 _ rfl)
            have p2 := part_scalar (w := w) hu hkd (hy 0 _ rfl)
            rw [Nat.add_zero] at p1 p2
            have p3 := eqIn_scalar (w := w) (n := n) hu hkind.1 hb
            have hn : f.name ≠ "_" := by simpa using hname
            simp only [Op.eqFields, hn, ne_eq, not_false_eq_true, if_true, hoff, Sem.run_bind, p1, p2, p3, Result.andThen_ok]
            have hrec := ih hk h1 h2 (fun i u hi => by have := hx (i + 1) u (by simpa using hi); rw [← this]; congr 1; omega) (fun i u hi => by have := hy (i + 1) u (by simpa using hi); rw [← this]; congr 1; omega) hr
            cases b0
            · simp at h; subst h; simp
            · simp at h; subst h; simpa using hrec

theorem eqAgg_goal {neg ks t ty x x' y y' fs} (hs : SR E S vs w φ bs []) (hρ : RhoR ρ vs) (ho : o.op = .binOp (if neg then .neq else .eql) t x y ty) (hc : chkO x x' = true) (hc' : chkO y y' = true) (hu : P.underlying t = some (.struct fs))
    (hst : P.stoodInHeld t = false) (hg : P.eqGuardType P.depth t = false) (hk : kindsOk P 0 fs.toList ks = true)
    (h : step S d (.eqAgg neg ks x' y') = some S') : Goal P ρ o E S' vs d w := by
  simp only [step] at h
  split at h
  · rename_i a b ha hb
    split at h
    case isFalse => cases h
    rename_i hks
    cases hr : sameCells a b with
    | none => rw [hr] at h; cases h
    | some r =>
      rw [hr] at h
      simp only [Option.bind_some] at h
      obtain ⟨us, e1, h1⟩ := bAny_sound hs (hρ x x' hc) ha
      obtain ⟨ts, e2, h2⟩ := bAny_sound hs (hρ y y' hc') hb
      simp only [if_true] at e1 e2
      have hf : P.fieldsOf t = fs := by simp [Program.fieldsOf, hu]
      have hrun : (Op.equalIn 10000 t (.agg us.toArray) (.agg ts.toArray)).run P w = .ok r w := by
        rw [show (10000 : Nat) = 9999 + 1 from rfl, run_equalIn_struct w 9999 t _ _ (by rw [hf]; exact hu) hst, hf]
        exact eqFields_run (n := 9998) (by rw [hks]; exact hk) h1 h2 (fun i u hi => by simpa using hi) (fun i u hi => by simpa using hi) hr
      have hgd := fun op => run_eqGuard_agg (P := P) w op t x y us.toArray ts.toArray hg
      refine scalar_goal (p := .bool (if neg then !r else r)) hs rfl ?_ h
      cases neg
      · simp only [Bool.false_eq_true, if_false] at ho ⊢
        simp [execOp, ho, e1, e2, hgd, run_eql_struct, hrun, PV.toV]
      · simp only [if_true] at ho ⊢
        simp [execOp, ho, e1, e2, hgd, run_neq_struct, hrun, PV.toV]
  · cases h
end
end Go.Proofs.Ytkiliooegoldoaa
