/- A place inside what is owned: taken apart and put together. -/
import Derived.Test.YtkiliooegoldoaaOps7
set_option linter.unusedVariables false
set_option linter.unusedSimpArgs false
namespace Go.Proofs.Ytkiliooegoldoaa
open Go

/-- The part at a path replaced. -/
def prep : PV → Path → PV → PV
  | _, [], q => q
  | .sl sz xs, (s, i, j) :: t, q =>
    match xs[i]? with
    | some r => match r[j]? with
      | some p => .sl sz (xs.set i (r.set j (prep p t q)))
      | none => .sl sz xs
    | none => .sl sz xs
  | p, _ :: _, _ => p

theorem flatten_set {α : Type} {sz : Nat} {xs : List (List α)} (h : ∀ r ∈ xs, r.length = sz) {i j : Nat} {r : List α} {q : α} (hi : xs[i]? = some r) (hj : j < r.length) :
    (xs.set i (r.set j q)).flatten = xs.flatten.set (i * sz + j) q := by
  have hlt := (List.getElem?_eq_some_iff.1 hi).1
  have hr := h r (List.mem_of_getElem? hi)
  have hle : i * sz + sz ≤ xs.length * sz := by rw [← Nat.succ_mul]; exact Nat.mul_le_mul_right _ hlt
  have hfl := flatten_len h
  rw [rows_flatten_set h hlt]
  have hrow : (xs.flatten.drop (i * sz)).take sz = r := by
    apply List.ext_getElem?
    intro k
    rw [drop_take_get]
    split
    · rename_i hk
      cases hq : r[k]? with
      | none => have := List.getElem?_eq_none_iff.1 hq; omega
      | some q => exact flatten_get h hi hq
    · rw [List.getElem?_eq_none (by omega)]
  apply List.ext_getElem?
  intro k
  rw [List.append_assoc, List.getElem?_append, List.getElem?_append]
  simp only [List.length_take, List.length_set, hfl]
  by_cases h1 : k < i * sz
  · rw [if_pos (by omega), List.getElem?_take, if_pos h1, List.getElem?_set, if_neg (by omega)]
  · rw [if_neg (by omega), Nat.min_eq_left (by omega)]
    by_cases h2 : k < i * sz + sz
    · rw [if_pos (by omega), List.getElem?_set, List.getElem?_set]
      by_cases h3 : k = i * sz + j
      · subst h3
        rw [if_pos (by omega), if_pos (by omega), if_pos rfl, if_pos (by omega)]
      · rw [if_neg (by omega), if_neg (by omega)]
        rw [← hrow, drop_take_get, if_pos (by omega)]
        congr 1; omega
    · rw [if_neg (by omega), List.getElem?_set, if_neg (by omega), List.getElem?_drop]
      congr 1; omega

theorem OwL.at_ {w φ} : ∀ {ps : List PV} {us bs}, OwL w φ ps us bs → ∀ {k : Nat} {p}, ps[k]? = some p → ∃ (u : Value) (bp br : List Nat), us[k]? = some u ∧ OwL w φ [p] [u] bp ∧ (∀ x : Nat, bs.count x = bp.count x + br.count x) ∧
    ∀ (w' : World) (φ' : Nat → Nat) (p' : PV) (bp' : List Nat), (∀ x ∈ br, w'.heap[x]? = w.heap[x]? ∧ φ' x = φ x) → OwL w' φ' [p'] [u] bp' → ∃ bs', OwL w' φ' (ps.set k p') us bs' ∧ ∀ x, bs'.count x = bp'.count x + br.count x := by
  intro ps
  induction ps with
  | nil => intro us bs h k p hk; simp at hk
  | cons q ps ih =>
    intro us bs h k p hk
    cases us with
    | nil => cases h
    | cons u us =>
      obtain ⟨b1, b2, rfl, h1, h2⟩ := OwL.cons_iff.1 h
      cases k with
      | zero =>
        simp at hk
        subst hk
        refine ⟨u, b1, b2, rfl, h1, fun x => by simp, fun w' φ' p' bp' hb hp => ⟨bp' ++ b2, OwL.cons_iff.2 ⟨bp', b2, rfl, hp, h2.mono hb⟩, fun x => by simp⟩⟩
      | succ k =>
        obtain ⟨u', bp, br, e1, e2, e3, e4⟩ := ih h2 (by simpa using hk)
        refine ⟨u', bp, b1 ++ br, by simpa using e1, e2, fun x => by have := e3 x; simp; omega, fun w' φ' p' bp' hb hp => ?_⟩
        obtain ⟨bs', k1, k2⟩ := e4 w' φ' p' bp' (fun x hx => hb x (by simp [hx])) hp
        exact ⟨b1 ++ bs', OwL.cons_iff.2 ⟨b1, bs', rfl, h1.mono fun x hx => hb x (by simp [hx]), k1⟩, fun x => by have := k2 x; simp; omega⟩

theorem OwL.ctx {w φ} : ∀ {path : Path} {p q : PV} {v u : Value} {bs}, OwL w φ [p] [v] bs → pget p path = some q → rvPath w φ v path = some u →
    ∃ (bq br : List Nat), OwL w φ [q] [u] bq ∧ (∀ x : Nat, bs.count x = bq.count x + br.count x) ∧
      ∀ (w' : World) (φ' : Nat → Nat) (q' : PV) (bq' : List Nat), (∀ x ∈ br, w'.heap[x]? = w.heap[x]? ∧ φ' x = φ x) → OwL w' φ' [q'] [u] bq' →
        ∃ bs', OwL w' φ' [prep p path q'] [v] bs' ∧ (∀ x, bs'.count x = bq'.count x + br.count x) ∧ ∀ path', pfx path' path = true → rvPath w' φ' v path' = rvPath w φ v path' := by
  intro path
  induction path with
  | nil =>
    intro p q v u bs h h1 h2
    simp only [pget, rvPath, Option.some.injEq] at h1 h2
    subst h1; subst h2
    refine ⟨bs, [], h, fun x => by simp, fun w' φ' q' bq' _ hq => ⟨bq', hq, fun x => by simp, fun path' hp => ?_⟩⟩
    cases path' with
    | nil => rfl
    | cons _ _ => simp [pfx] at hp
  | cons x t ih =>
    obtain ⟨s, i, j⟩ := x
    intro p q v u bs h h1 h2
    cases h with
    | int _ => simp [pget] at h1
    | bool _ => simp [pget] at h1
    | str _ => simp [pget] at h1
    | snil _ => simp [pget] at h1
    | @sl sz xs g n c cur e _ _ b1 b2 a1 a2 a3 a4 a5 a6 a7 a8 =>
      cases a8
      simp only [pget] at h1
      split at h1 <;> try (cases h1; done)
      rename_i hs
      subst hs
      split at h1 <;> try (cases h1; done)
      rename_i r hr
      split at h1 <;> try (cases h1; done)
      rename_i p0 hp0
      have hj := (List.getElem?_eq_some_iff.1 hp0).1
      obtain ⟨u0, bp, br, e1, e2, e3, e4⟩ := a7.at_ (flatten_get a3 hr hp0)
      have hcur : cur[i * s + j]? = some u0 := by
        rw [List.getElem?_take] at e1
        split at e1
        · simpa using e1
        · cases e1
      have hk : i * s + j < n * s := by
        have := (List.getElem?_eq_some_iff.1 e1).1
        simp at this; omega
      simp only [rvPath] at h2
      split at h2 <;> try (cases h2; done)
      rename_i hok
      rw [Nat.zero_add, cell_of_heap a4, hcur] at h2
      simp only [Option.bind_some] at h2
      obtain ⟨bq, br', k1, k2, k3⟩ := ih e2 h1 h2
      refine ⟨bq, g :: (br' ++ br), k1, fun x => by have := k2 x; have := e3 x; simp [List.count_cons]; omega, fun w' φ' q' bq' hb hq => ?_⟩
      obtain ⟨bs0, m1, m2, m3⟩ := k3 w' φ' q' bq' (fun x hx => hb x (by simp [hx])) hq
      obtain ⟨bs1, n1, n2⟩ := e4 w' φ' _ bs0 (fun x hx => hb x (by simp [hx])) m1
      have hg := hb g (by simp)
      refine ⟨g :: (bs1 ++ []), ?_, fun x => by have := n2 x; have := m2 x; simp [List.count_cons]; omega, fun path' hp => ?_⟩
      · simp only [prep, hr, hp0]
        refine .sl (by simp [a1]) a2 (fun r' hr' => ?_) (hg.1.trans a4) a5 (hg.2.trans a6) ?_ .nil
        · rcases List.mem_or_eq_of_mem_set hr' with hr' | rfl
          · exact a3 r' hr'
          · rw [List.length_set]; exact a3 r (List.mem_of_getElem? hr)
        · rw [flatten_set a3 hr hj]; exact n1
      · cases path' with
        | nil => rfl
        | cons y t' =>
          simp only [pfx, Bool.and_eq_true, beq_iff_eq] at hp
          obtain ⟨rfl, hp⟩ := hp
          simp only [rvPath, Nat.zero_add]
          rw [cell_of_heap a4, cell_of_heap (hg.1.trans a4), hcur, hg.2]
          split
          · exact m3 t' hp
          · rfl

/-- Blocks of no interest to a path. -/
theorem OwL.path_same {w φ w' φ'} : ∀ {path : Path} {p q : PV} {v : Value} {bs}, OwL w φ [p] [v] bs → pget p path = some q → (∀ x ∈ bs, w'.heap[x]? = w.heap[x]? ∧ φ' x = φ x) → rvPath w' φ' v path = rvPath w φ v path := by
  intro path
  induction path with
  | nil => intro p q v bs _ _ _; rfl
  | cons x t ih =>
    obtain ⟨s, i, j⟩ := x
    intro p q v bs h h1 hb
    cases h with
    | int _ => simp [pget] at h1
    | bool _ => simp [pget] at h1
    | str _ => simp [pget] at h1
    | snil _ => simp [pget] at h1
    | @sl sz xs g n c cur e _ _ b1 b2 a1 a2 a3 a4 a5 a6 a7 a8 =>
      cases a8
      simp only [pget] at h1
      split at h1 <;> try (cases h1; done)
      rename_i hs
      subst hs
      split at h1 <;> try (cases h1; done)
      rename_i r hr
      split at h1 <;> try (cases h1; done)
      rename_i p0 hp0
      obtain ⟨u0, bp, br, e1, e2, e3, e4⟩ := a7.at_ (flatten_get a3 hr hp0)
      have hcur : cur[i * s + j]? = some u0 := by
        rw [List.getElem?_take] at e1
        split at e1
        · simpa using e1
        · cases e1
      have hg := hb g (by simp)
      simp only [rvPath, Nat.zero_add]
      rw [cell_of_heap a4, cell_of_heap (hg.1.trans a4), hcur, hg.2]
      split
      · refine ih e2 h1 fun x hx => hb x ?_
        have := e3 x
        have := List.count_pos_iff.2 hx
        exact List.mem_cons_of_mem _ (List.mem_append_left _ (mem_of_count (by omega)))
      · rfl

theorem pget_prep {q' : PV} : ∀ {path : Path} {p q : PV}, pget p path = some q → ∀ {path' : Path}, pfx path' path = true → ∃ z, pget (prep p path q') path' = some z := by
  intro path
  induction path with
  | nil =>
    intro p q _ path' hp
    cases path' with
    | nil => exact ⟨_, rfl⟩
    | cons _ _ => simp [pfx] at hp
  | cons x t ih =>
    obtain ⟨s, i, j⟩ := x
    intro p q h path' hp
    cases path' with
    | nil => exact ⟨_, rfl⟩
    | cons y t' =>
      simp only [pfx, Bool.and_eq_true, beq_iff_eq] at hp
      obtain ⟨rfl, hp⟩ := hp
      cases p with
      | sl sz xs =>
        simp only [pget] at h
        split at h <;> try (cases h; done)
        rename_i hs
        subst hs
        split at h <;> try (cases h; done)
        rename_i r hr
        split at h <;> try (cases h; done)
        rename_i p0 hp0
        have h1 := (List.getElem?_eq_some_iff.1 hr).1
        have h2 := (List.getElem?_eq_some_iff.1 hp0).1
        simp only [prep, hr, hp0, pget, if_true]
        rw [List.getElem?_set, if_pos rfl, if_pos h1]
        dsimp only
        rw [List.getElem?_set, if_pos rfl, if_pos h2]
        exact ih h hp
      | _ => simp [pget] at h

theorem pset_prep {news : List PV} {s i j : Nat} {p' : PV} : ∀ {pre : Path} {p : PV}, pset p (pre ++ [(s, i, j)]) news = some p' →
    ∃ xs row, pget p pre = some (.sl s xs) ∧ xs[i]? = some row ∧ j + news.length ≤ row.length ∧ p' = prep p pre (.sl s (xs.set i (rowSet row j news))) := by
  intro pre
  induction pre generalizing p' with
  | nil =>
    intro p h
    cases p with
    | sl sz xs =>
      simp only [List.nil_append, pset] at h
      split at h <;> try (cases h; done)
      rename_i hs
      subst hs
      split at h <;> try (cases h; done)
      rename_i r hr
      split at h <;> try (cases h; done)
      rename_i hl
      injection h with h
      exact ⟨xs, r, rfl, hr, hl, by rw [← h]; rfl⟩
    | _ => simp [pset] at h
  | cons x t ih =>
    obtain ⟨s0, i0, j0⟩ := x
    intro p h
    cases p with
    | sl sz xs =>
      simp only [List.cons_append, pset] at h
      split at h <;> try (cases h; done)
      rename_i hs
      subst hs
      split at h <;> try (cases h; done)
      rename_i r hr
      have hne : t ++ [(s, i, j)] ≠ [] := by simp
      obtain ⟨y, t', hyt⟩ := List.exists_cons_of_ne_nil hne
      rw [hyt] at h
      simp only at h
      rw [← hyt] at h
      split at h <;> try (cases h; done)
      rename_i q0 hq0
      cases hp : pset q0 (t ++ [(s, i, j)]) news with
      | none => rw [hp] at h; cases h
      | some q' =>
        rw [hp] at h
        simp only [Option.map_some, Option.some.injEq] at h
        obtain ⟨xs', row, e1, e2, e3, e4⟩ := ih hp
        refine ⟨xs', row, ?_, e2, e3, ?_⟩
        · simp only [pget, if_true, hr, hq0, e1]
        · rw [← h, e4]; simp only [prep, hr, hq0]
    | _ => simp [pset] at h

theorem pset_one {q' : PV} {path : Path} {p p' : PV} (hne : path ≠ []) (h : pset p path [q'] = some p') : p' = prep p path q' ∧ ∃ q, pget p path = some q := by
  obtain ⟨pre, x, rfl⟩ : ∃ pre x, path = pre ++ [x] := ⟨path.dropLast, path.getLast hne, (List.dropLast_concat_getLast hne).symm⟩
  obtain ⟨s, i, j⟩ := x
  obtain ⟨xs, row, e1, e2, e3, rfl⟩ := pset_prep h
  simp only [List.length_singleton] at e3
  have hj : j < row.length := by omega
  have hrow : rowSet row j [q'] = row.set j q' := by
    unfold rowSet
    rw [List.set_eq_take_append_cons_drop, if_pos hj]
    simp
  refine ⟨?_, row[j], by rw [pget_append e1]; simp [pget, e2, hj]⟩
  rw [hrow]
  clear h
  induction pre generalizing p with
  | nil =>
    simp only [pget, Option.some.injEq] at e1
    subst e1
    simp [prep, e2, hj]
  | cons y t ih =>
    obtain ⟨s0, i0, j0⟩ := y
    cases p with
    | sl sz ys =>
      simp only [pget] at e1
      split at e1 <;> try (cases e1; done)
      split at e1 <;> try (cases e1; done)
      rename_i r hr
      split at e1 <;> try (cases e1; done)
      rename_i q0 hq0
      simp only [List.cons_append, prep, hr, hq0]
      rw [ih (by simp) e1]
    | _ => simp [pget] at e1

end Go.Proofs.Ytkiliooegoldoaa
