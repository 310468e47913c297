/- A store into a slice of one's own. -/
import Derived.Test.YtkiliooegoldoaaOps10
set_option linter.unusedVariables false
set_option linter.unusedSimpArgs false
namespace Go.Proofs.Ytkiliooegoldoaa
open Go

section
variable {P : Program} {ρ : Operand → Value} {o : Oper} {E : Env} {S S' : St} {vs : List Value} {w : World} {φ : Nat → Nat} {bs hand : List Nat} {d : Option Nat}

theorem rootWrite {l : Lev} {p : PV} {pre : Path} {s i j n cap g off : Nat} {xs : List (List PV)} {row news : List PV} {us : List Value} {v0 : Value} {b bn : List Nat}
    (h : CellR E w φ (.val l p) v0 b) (hp : pget p pre = some (.sl s xs)) (hv : rvPath w φ v0 pre = some (.slice (some ⟨g, off, none⟩) n cap)) (hi : xs[i]? = some row)
    (hl : j + news.length ≤ row.length) (hn : RowsR E w φ l news us bn) (hcnt : ∀ x, b.count x + bn.count x ≤ 1) (hown : ∀ x ∈ b, E.w0.heap.size ≤ x ∨ x ∈ E.lin) (hll : l = .deep ∨ (l = .oldR ∧ pre = [])) :
    off = 0 ∧ g ∈ b ∧ ∃ cur T, w.heap[g]? = some (.cells cur T (0, 0)) ∧ i * s + j + us.length ≤ cur.size ∧
      ∀ w', w' = w.setRow g (cur.toList.take (i * s + j) ++ us ++ cur.toList.drop (i * s + j + us.length)).toArray →
        ∃ b', CellR E w' φ (.val l (prep p pre (.sl s (xs.set i (rowSet row j news))))) v0 b' ∧ (∀ x, b'.count x ≤ b.count x + bn.count x) ∧
          ∀ path', pfx path' pre = true → rvPath w' φ v0 path' = rvPath w φ v0 path' := by
  rcases hll with rfl | ⟨rfl, rfl⟩
  · have h' : OwL w φ [p] [v0] b := h
    obtain ⟨bq, br, k1, k2, k3⟩ := h'.ctx hp hv
    have ho : OwnS E w φ .deep s xs (.slice (some ⟨g, off, none⟩) n cap) bq := (ownS_iff rfl).1 k1
    obtain ⟨e0, hg, cur, T, m1, m2, m3⟩ := ho.write hi hl hn (fun x => by have := k2 x; have := hcnt x; omega) (fun x hx => hown x (mem_of_count (by have := k2 x; have := List.count_pos_iff.2 hx; omega))) (.inl rfl)
    refine ⟨e0, mem_of_count (by have := k2 g; have := List.count_pos_iff.2 hg; omega), cur, T, m1, m2, fun w' hw' => ?_⟩
    obtain ⟨bq', q1, q2⟩ := m3 w' hw'
    have hgbr : g ∉ br := fun hm => by
      have a := k2 g; have b := hcnt g; have c := List.count_pos_iff.2 hm; have d := List.count_pos_iff.2 hg
      omega
    obtain ⟨bs', r1, r2, r3⟩ := k3 w' φ _ bq' (fun x hx => ⟨by rw [hw']; exact setRow_other w g x _ fun e => hgbr (e ▸ hx), rfl⟩) ((ownS_iff (E := E) rfl).2 q1)
    exact ⟨bs', r1, fun x => by have := r2 x; have := q2 x; have := k2 x; omega, r3⟩
  · simp only [pget, Option.some.injEq] at hp
    simp only [rvPath, Option.some.injEq] at hv
    subst hp; subst hv
    obtain ⟨e0, hg, cur, T, m1, m2, m3⟩ := ((ownS_iff rfl).1 h).write hi hl hn hcnt hown (.inr rfl)
    refine ⟨e0, hg, cur, T, m1, m2, fun w' hw' => ?_⟩
    obtain ⟨b', q1, q2⟩ := m3 w' hw'
    refine ⟨b', (ownS_iff (E := E) rfl).2 q1, q2, fun path' hp => ?_⟩
    cases path' with
    | nil => rfl
    | cons _ _ => simp [pfx] at hp

/-! ### What stands once a slice has been written -/
section kill
variable {w' : World} (r c : Nat) (k : Path)

theorem killC_world (hO : ∀ g k u, E.okO g k → w.cell? ⟨g, k, none⟩ = some u → w'.cell? ⟨g, k, none⟩ = some u) {x : Cell} {v : Value} {b : List Nat} (hown : ∀ g ∈ b, w'.heap[g]? = w.heap[g]?) (h : CellR E w φ x v b) :
    ∃ b', CellR E w' φ (killElemC r c k x) v b' ∧ ∀ g, b'.count g ≤ b.count g := by
  cases x with
  | view r' c' path' =>
    simp only [killElemC]
    split
    · exact ⟨[], rfl, fun g => by simp⟩
    · exact ⟨b, h, fun g => Nat.le_refl _⟩
  | dead => exact ⟨b, h, fun g => Nat.le_refl _⟩
  | val l p =>
    simp only [killElemC]
    split
    case isFalse => exact ⟨[], rfl, fun g => by simp⟩
    rename_i hc
    refine ⟨b, ?_, fun g => Nat.le_refl _⟩
    by_cases hf : p.flat = true
    · cases l with
      | old => exact ⟨(RdL.flat_ h.1 hf w' _ φ).1, h.2⟩
      | bor => exact ⟨(RdL.flat_ h.1 hf w' _ φ).1, h.2⟩
      | deep => exact OwL.mono h fun g hg => ⟨hown g hg, rfl⟩
      | oldR => exact absurd h.not_flat (by simp [hf])
      | borR => exact absurd h.not_flat (by simp [hf])
    · have hb : isBorrow l = false := by
        cases hi : isBorrow l with
        | false => rfl
        | true => simp [hi, hf] at hc
      cases l with
      | bor => cases hb
      | borR => cases hb
      | old => exact ⟨h.1.mono fun g k u h1 h2 => ⟨h1, hO g k u h1 h2⟩, h.2⟩
      | deep => exact OwL.mono h fun g hg => ⟨hown g hg, rfl⟩
      | oldR =>
        obtain ⟨sz, xs, rfl, h | ⟨g, n, c, cur, e, rfl, rfl, a, b, hr, d, es, f, hrd⟩⟩ := h
        · exact ⟨sz, xs, rfl, .inl h⟩
        · have hg := hown g (by simp)
          exact ⟨sz, xs, rfl, .inr ⟨g, n, c, cur, e, rfl, rfl, a, b, hr, hg.trans d, es, f, hrd.mono fun g k u h1 h2 => ⟨h1, hO g k u h1 h2⟩⟩⟩

theorem killCs_world (hO : ∀ g k u, E.okO g k → w.cell? ⟨g, k, none⟩ = some u → w'.cell? ⟨g, k, none⟩ = some u) : ∀ {xs : List Cell} {us : List Value} {b : List Nat}, (∀ g ∈ b, w'.heap[g]? = w.heap[g]?) → CellsR E w φ xs us b →
    ∃ b', CellsR E w' φ (xs.map (killElemC r c k)) us b' ∧ ∀ g, b'.count g ≤ b.count g := by
  intro xs
  induction xs with
  | nil => intro us b _ h; exact ⟨[], ⟨h.1, rfl⟩, fun g => by simp⟩
  | cons x xs ih =>
    intro us b hown h
    obtain ⟨u, us', b1, b2, rfl, rfl, hc, h⟩ := h
    obtain ⟨c1, k1, k2⟩ := killC_world r c k hO (fun g hg => hown g (by simp [hg])) hc
    obtain ⟨c2, m1, m2⟩ := ih (fun g hg => hown g (by simp [hg])) h
    exact ⟨c1 ++ c2, ⟨u, us', c1, c2, rfl, rfl, k1, m1⟩, fun g => by have := k2 g; have := m2 g; simp only [List.count_append]; omega⟩

theorem killTup_world (hO : ∀ g k u, E.okO g k → w.cell? ⟨g, k, none⟩ = some u → w'.cell? ⟨g, k, none⟩ = some u) : ∀ {xs : List (Bool × List Cell)} {us : List Value} {b : List Nat}, (∀ g ∈ b, w'.heap[g]? = w.heap[g]?) → TupR E w φ xs us b →
    ∃ b', TupR E w' φ (xs.map fun x => (x.1, x.2.map (killElemC r c k))) us b' ∧ ∀ g, b'.count g ≤ b.count g := by
  intro xs
  induction xs with
  | nil => intro us b _ h; exact ⟨[], ⟨h.1, rfl⟩, fun g => by simp⟩
  | cons x xs ih =>
    intro us b hown h
    obtain ⟨u, us', b1, b2, rfl, rfl, hc, h⟩ := h
    obtain ⟨c2, m1, m2⟩ := ih (fun g hg => hown g (by simp [hg])) h
    split at hc <;> rename_i hx
    · obtain ⟨arr, rfl, hc⟩ := hc
      obtain ⟨c1, k1, k2⟩ := killCs_world r c k hO (fun g hg => hown g (by simp [hg])) hc
      exact ⟨c1 ++ c2, ⟨_, us', c1, c2, rfl, rfl, by rw [if_pos hx]; exact ⟨arr, rfl, k1⟩, m1⟩, fun g => by have := k2 g; have := m2 g; simp only [List.count_append]; omega⟩
    · obtain ⟨c1, k1, k2⟩ := killCs_world r c k hO (fun g hg => hown g (by simp [hg])) hc
      exact ⟨c1 ++ c2, ⟨_, us', c1, c2, rfl, rfl, by rw [if_neg hx]; exact k1, m1⟩, fun g => by have := k2 g; have := m2 g; simp only [List.count_append]; omega⟩

theorem killTV_world (hO : ∀ g k u, E.okO g k → w.cell? ⟨g, k, none⟩ = some u → w'.cell? ⟨g, k, none⟩ = some u) (h : Nat → Nat → Path → Bool) {tv : TV} {v : Value} {b : List Nat} (hown : ∀ g ∈ b, w'.heap[g]? = w.heap[g]?) (hv : TVR E w φ tv v b) :
    ∃ b', TVR E w' φ (mapTV (killElemC r c k) h true tv) v b' ∧ ∀ g, b'.count g ≤ b.count g := by
  cases tv with
  | one x => exact killC_world r c k hO hown hv
  | agg xs =>
    obtain ⟨arr, rfl, hv⟩ := hv
    obtain ⟨b', k1, k2⟩ := killCs_world r c k hO hown hv
    exact ⟨b', ⟨arr, rfl, k1⟩, k2⟩
  | box xs =>
    obtain ⟨g, arr, e, b1, rfl, hg, hf, hv, rfl⟩ := hv
    obtain ⟨b', k1, k2⟩ := killCs_world r c k hO (fun g hg => hown g (by simp [hg])) hv
    exact ⟨g :: b', ⟨g, arr, e, b', rfl, (hown g (by simp)).trans hg, hf, k1, rfl⟩, fun x => by have := k2 x; simp only [List.count_cons]; omega⟩
  | place r' c' path =>
    simp only [mapTV]
    split
    · exact ⟨[], rfl, fun g => by simp⟩
    · exact ⟨b, hv, fun g => Nat.le_refl _⟩
  | ep l row off =>
    simp only [mapTV]
    split
    · exact ⟨[], rfl, fun g => by simp⟩
    · rename_i hl
      have hl : l = .old := by cases l <;> simp at hl ⊢
      subst hl
      obtain ⟨rfl, g, o, cvs, rfl, h1, h2⟩ := hv
      exact ⟨[], ⟨rfl, g, o, cvs, rfl, fun k u hk => ⟨(h1 k u hk).1, hO _ _ _ (h1 k u hk).1 (h1 k u hk).2⟩, h2.mono fun g k u a b => ⟨a, hO g k u a b⟩⟩, fun g => by simp⟩
  | tup ts =>
    obtain ⟨arr, rfl, hv⟩ := hv
    obtain ⟨b', k1, k2⟩ := killTup_world r c k hO hown hv
    exact ⟨b', ⟨arr, rfl, k1⟩, k2⟩
  | undef => exact ⟨b, hv, fun g => Nat.le_refl _⟩
  | dead => exact ⟨b, hv, fun g => Nat.le_refl _⟩

theorem killTVs_world (hO : ∀ g k u, E.okO g k → w.cell? ⟨g, k, none⟩ = some u → w'.cell? ⟨g, k, none⟩ = some u) (h : Nat → Nat → Path → Bool) : ∀ {S : St} {us : List Value} {b : List Nat}, (∀ g ∈ b, w'.heap[g]? = w.heap[g]?) → TVsR E w φ S us b →
    ∃ b', TVsR E w' φ (S.map (mapTV (killElemC r c k) h true)) us b' ∧ ∀ g, b'.count g ≤ b.count g := by
  intro S
  induction S with
  | nil => intro us b _ h; exact ⟨[], ⟨h.1, rfl⟩, fun g => by simp⟩
  | cons x xs ih =>
    intro us b hown hv
    obtain ⟨u, us', b1, b2, rfl, rfl, hc, hv⟩ := hv
    obtain ⟨c1, k1, k2⟩ := killTV_world r c k hO h (fun g hg => hown g (by simp [hg])) hc
    obtain ⟨c2, m1, m2⟩ := ih (fun g hg => hown g (by simp [hg])) hv
    exact ⟨c1 ++ c2, ⟨u, us', c1, c2, rfl, rfl, k1, m1⟩, fun g => by have := k2 g; have := m2 g; simp only [List.count_append]; omega⟩
end kill

/-- A root's cell, and the blocks that are its own. -/
theorem SR.rootOwn (hs : SR E S vs w φ bs hand) {r c : Nat} {l : Lev} {p : PV} {v : Value} (hc : rootCell S r c = .val l p) (hv : rootV S vs w r c = some v) :
    ∃ b, CellR E w φ (.val l p) v b ∧ ∀ g, b.count g ≤ bs.count g := by
  unfold rootCell at hc
  unfold rootV at hv
  cases hS : S.g r <;> rw [hS] at hc hv <;> (try dsimp only at hc hv)
  case one x =>
    obtain ⟨u, hu⟩ := hs.lt (t := r) (by rw [hS]; simp)
    obtain ⟨bt, br, h1, h2, _⟩ := hs.tvs.get hu
    rw [hS] at h1
    rw [hu] at hv
    split at hc
    case isFalse => cases hc
    rename_i h0
    subst h0
    subst hc
    simp at hv
    subst hv
    exact ⟨bt, h1, fun g => by have := h2 g; omega⟩
  case agg cs =>
    obtain ⟨u, hu⟩ := hs.lt (t := r) (by rw [hS]; simp)
    obtain ⟨bt, br, h1, h2, _⟩ := hs.tvs.get hu
    rw [hS] at h1
    rw [hu] at hv
    obtain ⟨arr, rfl, h1⟩ := h1
    dsimp only at hv
    rw [List.getD_eq_getElem?_getD] at hc
    cases hcc : cs[c]? with
    | none => rw [hcc] at hc; cases hc
    | some x =>
      rw [hcc] at hc
      have hc : x = .val l p := hc
      subst hc
      obtain ⟨v', b1, b2, k1, k2, k3, _⟩ := h1.get hcc
      have : v' = v := by
        rw [Array.getElem?_toList, hv] at k1
        injection k1 with k1
        exact k1.symm
      subst this
      exact ⟨b1, k2, fun g => by have := h2 g; have := k3 g; omega⟩
  case box cs =>
    obtain ⟨u, hu⟩ := hs.lt (t := r) (by rw [hS]; simp)
    obtain ⟨bt, br, h1, h2, _⟩ := hs.tvs.get hu
    rw [hS] at h1
    rw [hu] at hv
    obtain ⟨g, arr, e, b0, rfl, hg, hf, h1, rfl⟩ := h1
    dsimp only at hv
    rw [cell_of_heap hg] at hv
    rw [List.getD_eq_getElem?_getD] at hc
    cases hcc : cs[c]? with
    | none => rw [hcc] at hc; cases hc
    | some x =>
      rw [hcc] at hc
      have hc : x = .val l p := hc
      subst hc
      obtain ⟨v', b1, b2, k1, k2, k3, _⟩ := h1.get hcc
      have : v' = v := by
        rw [Array.getElem?_toList, hv] at k1
        injection k1 with k1
        exact k1.symm
      subst this
      exact ⟨b1, k2, fun x => by have := h2 x; have := k3 x; rw [List.count_cons] at *; omega⟩
  all_goals cases hc
end
end Go.Proofs.Ytkiliooegoldoaa
