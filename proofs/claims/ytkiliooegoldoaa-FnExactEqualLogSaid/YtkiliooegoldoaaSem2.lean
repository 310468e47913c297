/- What a function hands back. -/
import Derived.Test.YtkiliooegoldoaaSem1
set_option linter.unusedVariables false
set_option linter.unusedSimpArgs false
namespace Go.Proofs.Ytkiliooegoldoaa
open Go

def chkRes (P : Program) : ResultVar → Nat × Option Nat → Bool × Lev → Bool
  | .tmp t, (t', none), _ => t == t'
  | .cell a ty, (t', some n), k => a == t' && widthOk P (if k.1 then some n else none) ty
  | _, _, _ => false

def resOne (tmps : Array Value) : ResultVar → Sem Value
  | .tmp t => pure (tmps.getD t undef)
  | .cell a t => do loadVar t (← asAddr (tmps.getD a undef))

theorem results_eq (fn : Func) (tmps : Array Value) : results fn tmps = (do
    let vs ← fn.results.toList.mapM (resOne tmps)
    pure (if h : vs.length = 1 then vs[0] else .tuple vs.toArray)) := by
  unfold results
  rw [Array.mapM_eq_mapM_toList]
  simp only [map_eq_pure_bind, bind_assoc, pure_bind]
  refine congr (congrArg bind (congrFun (congrArg List.mapM ?_) fn.results.toList)) rfl
  funext x
  cases x <;> rfl

theorem outTV_sound {P : Program} {E S w φ bs hand} {tmps : Array Value} {rv r k ps} (hs : SR E S tmps.toList w φ bs hand) (hc : chkRes P rv r k = true) (h : outTV S r k = some ps) :
    ∃ v0 v us, tmps.toList[r.1]? = some v0 ∧ (resOne tmps rv).run P w = .ok v w ∧ (if k.1 = true then v = .agg us.toArray else us = [v]) ∧ (k.1 = true ∨ ps.length = 1) ∧
      ∀ bt, TVR E w φ (S.g r.1) v0 bt → ∃ b', (∀ E' : Env, CellsR E' w φ (ps.map (resCell k.2)) us b') ∧ ∀ g, b'.count g ≤ bt.count g := by
  obtain ⟨t, n⟩ := r
  obtain ⟨ag, want⟩ := k
  unfold outTV at h
  dsimp only at h ⊢
  have hgetD : ∀ (t : Nat) v0, tmps.toList[t]? = some v0 → tmps.getD t undef = v0 := by
    intro t v0 h0
    rw [Array.getElem?_toList] at h0
    simp [h0]
  split at h
  · -- one
    rename_i c hS
    split at h
    case isTrue => cases h
    rename_i hag
    simp at hag
    subst hag
    obtain ⟨v0, hv0⟩ := hs.lt (t := t) (by rw [hS]; simp)
    cases rv with
    | cell a ty => simp [chkRes] at hc
    | tmp t' =>
      simp [chkRes] at hc
      subst hc
      refine ⟨v0, v0, [v0], hv0, by simp [resOne, hgetD _ _ hv0], rfl, .inr (by simpa using outCells_len h), fun bt hbt => ?_⟩
      rw [hS] at hbt
      exact outCells_sound hs (cs := [c]) ⟨v0, [], bt, [], rfl, by simp, hbt, rfl, rfl⟩ h
  · rename_i cs hS
    split at h
    case isFalse => cases h
    rename_i hag
    subst hag
    obtain ⟨v0, hv0⟩ := hs.lt (t := t) (by rw [hS]; simp)
    cases rv with
    | cell a ty => simp [chkRes] at hc
    | tmp t' =>
      simp [chkRes] at hc
      subst hc
      obtain ⟨bt0, h1, _⟩ := hs.slot hv0
      rw [hS] at h1
      obtain ⟨arr, e, h1⟩ := h1
      refine ⟨v0, v0, arr.toList, hv0, by simp [resOne, hgetD _ _ hv0], by simpa using e, .inl rfl, fun bt hbt => ?_⟩
      rw [hS] at hbt
      obtain ⟨arr', e', hbt⟩ := hbt
      rw [e] at e'
      injection e' with e'
      subst e'
      exact outCells_sound hs hbt h
  · rename_i m cs hS
    split at h
    case isFalse => cases h
    rename_i hcond
    obtain ⟨hlen, hag⟩ := hcond
    obtain ⟨v0, hv0⟩ := hs.lt (t := t) (by rw [hS]; simp)
    cases rv with
    | tmp t' => simp [chkRes] at hc
    | cell a ty =>
      simp only [chkRes, Bool.and_eq_true, beq_iff_eq] at hc
      obtain ⟨rfl, hw⟩ := hc
      obtain ⟨bt0, h1, _⟩ := hs.slot hv0
      rw [hS] at h1
      obtain ⟨g, arr, e, b1, ev, hg, hφ, hcs, _⟩ := h1
      have hl := hcs.length
      simp at hl
      obtain ⟨dt, i, k1, k2, k3⟩ := widthOk_ P hw
      have hcell : ∀ (k : Nat) u, arr.toList[k]? = some u → w.cell? ⟨g, 0 + k, none⟩ = some u := by
        intro k u hk
        rw [Nat.zero_add, cell_of_heap hg]
        simpa using hk
      have fin : ∀ bt, TVR E w φ (S.g a) v0 bt → ∃ b', (∀ E' : Env, CellsR E' w φ (ps.map (resCell want)) arr.toList b') ∧ ∀ g, b'.count g ≤ bt.count g := by
        intro bt hbt
        rw [hS] at hbt
        obtain ⟨g', arr', e', b1', ev', hg', _, hcs', rfl⟩ := hbt
        rw [ev] at ev'
        injection ev' with ev'
        simp at ev'
        subst ev'
        rw [hg] at hg'
        simp at hg'
        obtain ⟨rfl, rfl⟩ := hg'
        obtain ⟨b', m1, m2⟩ := outCells_sound hs hcs' h
        exact ⟨b', m1, fun x => by have := m2 x; simp [List.count_cons]; omega⟩
      cases ag with
      | true =>
        simp only [if_true] at k3
        have hrun := r_loadAgg (P := P) (w := w) (g := g) (o := 0) (us := arr.toList) k1 k3.1 k2 (by simp; omega) hcell
        refine ⟨v0, .agg arr, arr.toList, hv0, ?_, by simp, .inl rfl, fin⟩
        simp only [resOne, hgetD _ _ hv0, ev]
        simpa [Instr.loadAt, Instr.sureAddr, asAddr] using hrun
      | false =>
        simp only [Bool.false_eq_true, if_false, false_or] at k3 hag
        subst hag
        have h1 : cs.length = 1 := hlen
        obtain ⟨u, hu⟩ : ∃ u, arr.toList = [u] := by
          have hl2 : arr.toList.length = 1 := by rw [Array.length_toList]; omega
          match hA : arr.toList with
          | [] => rw [hA] at hl2; cases hl2
          | [u] => exact ⟨u, rfl⟩
          | _ :: _ :: _ => rw [hA] at hl2; simp at hl2
        have hrun := r_loadOne (P := P) (w := w) (g := g) (o := 0) k1 k3 (hcell 0 u (by simp [hu]))
        refine ⟨v0, u, [u], hv0, ?_, rfl, .inr (by rw [outCells_len h]; exact h1), ?_⟩
        · simp only [resOne, hgetD _ _ hv0, ev]
          simpa [Instr.loadAt, Instr.sureAddr, asAddr] using hrun
        · rw [hu] at fin
          exact fin
  · cases h

def chkRess (P : Program) : List ResultVar → List (Nat × Option Nat) → List (Bool × Lev) → Bool
  | [], [], [] => true
  | v :: vs, r :: rs, k :: ks => chkRes P v r k && !(rs.map (·.1)).elem r.1 && chkRess P vs rs ks
  | _, _, _ => false

theorem outTV_congr {S T : St} {r k} (h : T.g r.1 = S.g r.1) : outTV T r k = outTV S r k := by
  unfold outTV; rw [h]

theorem outs_sound {P : Program} {E S w φ bs hand} {tmps : Array Value} (hs : SR E S tmps.toList w φ bs hand) : ∀ {rvs rs ks pss} {T : St} {bT}, TVsR E w φ T tmps.toList bT → (∀ r ∈ rs, T.g r.1 = S.g r.1) →
    chkRess P rvs rs ks = true → outs S rs ks = some pss →
    ∃ vs b', (rvs.mapM (resOne tmps)).run P w = .ok vs w ∧ (∀ g, b'.count g ≤ bT.count g) ∧ ∀ tup, resTup ks pss = some tup → ∀ E' : Env, TupR E' w φ tup vs b' := by
  intro rvs
  induction rvs with
  | nil =>
    intro rs ks pss T bT hT hag hc ho
    cases rs <;> cases ks <;> simp [chkRess] at hc
    simp [outs] at ho
    subst ho
    exact ⟨[], [], by simp, fun g => by simp, fun tup ht E' => by simp [resTup] at ht; subst ht; exact ⟨rfl, rfl⟩⟩
  | cons rv rvs ih =>
    intro rs ks pss T bT hT hag hc ho
    cases rs with
    | nil => simp [chkRess] at hc
    | cons r rs =>
      cases ks with
      | nil => simp [chkRess] at hc
      | cons k ks =>
        simp only [chkRess, Bool.and_eq_true, Bool.not_eq_true'] at hc
        obtain ⟨⟨hc1, hnd⟩, hc2⟩ := hc
        simp only [outs] at ho
        cases hp : outTV S r k with
        | none => rw [hp] at ho; cases ho
        | some ps =>
          rw [hp] at ho
          simp only [Option.bind_some] at ho
          cases hq : outs S rs ks with
          | none => rw [hq] at ho; cases ho
          | some pss' =>
            rw [hq] at ho
            simp only [Option.map_some, Option.some.injEq] at ho
            subst ho
            obtain ⟨v0, v, us, hv0, hrun, hv, hlen, hcells⟩ := outTV_sound hs hc1 hp
            obtain ⟨bt, br, h1, h2, h3⟩ := hT.get hv0
            rw [hag r (by simp)] at h1
            obtain ⟨b1, m1, m2⟩ := hcells bt h1
            obtain ⟨bT', q1, q2⟩ := h3 .dead v0 [] rfl
            rw [set_get_same _ _ hv0] at q1
            have hag' : ∀ r' ∈ rs, St.g (T.set r.1 .dead) r'.1 = S.g r'.1 := by
              intro r' hr'
              rw [g_set, if_neg, hag r' (by simp [hr'])]
              rintro ⟨e, _⟩
              have : (rs.map (·.1)).elem r.1 = true := by
                rw [elem_iff, ← e]
                exact List.mem_map_of_mem hr'
              rw [this] at hnd
              cases hnd
            obtain ⟨vs, b2, n1, n2, n3⟩ := ih q1 hag' hc2 hq
            refine ⟨v :: vs, b1 ++ b2, ?_, fun g => ?_, fun tup ht E' => ?_⟩
            · simp only [List.mapM_cons]
              simp [hrun, n1]
            · have := h2 g; have := m2 g; have := q2 g; have := n2 g
              simp only [List.count_append]
              have e0 : List.count g ([] : List Nat) = 0 := rfl
              omega
            · simp only [resTup] at ht
              split at ht
              case isFalse => cases ht
              cases hr : resTup ks pss' with
              | none => rw [hr] at ht; cases ht
              | some tup' =>
                rw [hr] at ht
                simp only [Option.map_some, Option.some.injEq] at ht
                subst ht
                refine ⟨v, vs, b1, b2, rfl, rfl, ?_, n3 tup' hr E'⟩
                dsimp only
                by_cases hk : k.1 = true
                · rw [if_pos hk] at hv ⊢
                  exact ⟨us.toArray, hv, by simpa using m1 E'⟩
                · rw [if_neg hk] at hv ⊢
                  rw [← hv]
                  exact m1 E'

end Go.Proofs.Ytkiliooegoldoaa
