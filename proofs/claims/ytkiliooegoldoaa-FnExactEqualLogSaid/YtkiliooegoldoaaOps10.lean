/- A store into a slice of one's own: the root. -/
import Derived.Test.YtkiliooegoldoaaOps9
set_option linter.unusedVariables false
set_option linter.unusedSimpArgs false
namespace Go.Proofs.Ytkiliooegoldoaa
open Go

section
variable {P : Program} {ρ : Operand → Value} {o : Oper} {E : Env} {S S' : St} {vs : List Value} {w : World} {φ : Nat → Nat} {bs hand : List Nat} {d : Option Nat}

theorem RowsR.split_ {lev ps qs us b} (h : RowsR E w φ lev (ps ++ qs) us b) : ∃ u1 u2 b1 b2, us = u1 ++ u2 ∧ b = b1 ++ b2 ∧ RowsR E w φ lev ps u1 b1 ∧ RowsR E w φ lev qs u2 b2 := by
  have rd : ∀ {ok : Nat → Nat → Prop}, RdL w ok (ps ++ qs) us → RdL w ok ps (us.take ps.length) ∧ RdL w ok qs (us.drop ps.length) := by
    intro ok h
    have h1 := h.take_ ps.length
    have h2 := h.drop_ ps.length
    simp at h1 h2
    exact ⟨h1, h2⟩
  cases lev with
  | deep => exact OwL.split_ h
  | _ =>
    obtain ⟨h1, h2⟩ := rd h.1
    exact ⟨_, _, [], [], (List.take_append_drop _ us).symm, by rw [h.2]; rfl, ⟨h1, rfl⟩, ⟨h2, rfl⟩⟩

/-- One row's cells turned, among all the rows' cells. -/
theorem rowSet_flatten {sz : Nat} {xs : List (List PV)} (hu : ∀ r ∈ xs, r.length = sz) {i j : Nat} {row news : List PV} (hi : xs[i]? = some row) (hl : j + news.length ≤ row.length) :
    (xs.set i (rowSet row j news)).flatten = xs.flatten.take (i * sz + j) ++ news ++ xs.flatten.drop (i * sz + j + news.length) ∧ i * sz + j + news.length ≤ xs.flatten.length ∧ (rowSet row j news).length = sz := by
  have hlt := (List.getElem?_eq_some_iff.1 hi).1
  have hr := hu row (List.mem_of_getElem? hi)
  have hle : i * sz + sz ≤ xs.length * sz := by rw [← Nat.succ_mul]; exact Nat.mul_le_mul_right _ hlt
  have hfl := flatten_len hu
  have hrow : (xs.flatten.drop (i * sz)).take sz = row := by
    apply List.ext_getElem?
    intro k
    rw [drop_take_get]
    split
    · cases hq : row[k]? with
      | none => have := List.getElem?_eq_none_iff.1 hq; omega
      | some q => exact flatten_get hu hi hq
    · rw [List.getElem?_eq_none (by omega)]
  refine ⟨?_, by omega, by simp [rowSet]; omega⟩
  rw [rows_flatten_set hu hlt]
  unfold rowSet
  have e1 : xs.flatten.take (i * sz + j) = xs.flatten.take (i * sz) ++ row.take j := by
    rw [List.take_add, ← hrow, List.take_take, Nat.min_eq_left (by omega)]
  have e2 : xs.flatten.drop (i * sz + j + news.length) = row.drop (j + news.length) ++ xs.flatten.drop (i * sz + sz) := by
    rw [← hrow, List.drop_take, List.drop_drop]
    have : sz - (j + news.length) + (i * sz + (j + news.length)) = i * sz + sz := by omega
    rw [← Nat.add_assoc]
    have h3 := List.take_append_drop (sz - (j + news.length)) (xs.flatten.drop (i * sz + j + news.length))
    rw [List.drop_drop] at h3
    rw [show i * sz + j + news.length + (sz - (j + news.length)) = i * sz + sz from by omega] at h3
    exact h3.symm
  rw [e1, e2]
  simp [List.append_assoc]

/-- The rows of a slice of one's own, some cells turned. -/
theorem OwnS.write {l : Lev} {s i j n cap g off : Nat} {xs : List (List PV)} {row news : List PV} {us : List Value} {b bn : List Nat} (h : OwnS E w φ l s xs (.slice (some ⟨g, off, none⟩) n cap) b) (hi : xs[i]? = some row)
    (hl : j + news.length ≤ row.length) (hn : RowsR E w φ l news us bn) (hcnt : ∀ x, b.count x + bn.count x ≤ 1) (hown : ∀ x ∈ b, E.w0.heap.size ≤ x ∨ x ∈ E.lin) (hll : l = .deep ∨ l = .oldR) :
    off = 0 ∧ g ∈ b ∧ ∃ cur T, w.heap[g]? = some (.cells cur T (0, 0)) ∧ i * s + j + us.length ≤ cur.size ∧
      ∀ w', w' = w.setRow g (cur.toList.take (i * s + j) ++ us ++ cur.toList.drop (i * s + j + us.length)).toArray →
        ∃ b', OwnS E w' φ l s (xs.set i (rowSet row j news)) (.slice (some ⟨g, off, none⟩) n cap) b' ∧ ∀ x, b'.count x ≤ b.count x + bn.count x := by
  rcases h with ⟨h, _⟩ | ⟨g', n', c', cur, T, b1, hp, rfl, a1, a2, a3, a4, a5, a6, a7⟩
  · cases h
  · injection hp with hp hn' hc'
    simp at hp
    obtain ⟨rfl, rfl⟩ := hp
    subst hn'; subst hc'
    obtain ⟨f1, f2, f3⟩ := rowSet_flatten a3 hi hl
    have hlen := hn.length
    have hfl := flatten_len a3
    rw [a1] at hfl
    have hcap : n * s ≤ cap * s := Nat.mul_le_mul_right _ a2
    refine ⟨rfl, by simp, cur, T, a4, by omega, fun w' hw' => ?_⟩
    have hg1 : g ∉ b1 := fun hm => by
      have a := hcnt g; have c := List.count_pos_iff.2 hm
      rw [List.count_cons] at a; simp at a; omega
    have hgn : g ∉ bn := fun hm => by
      have a := hcnt g; have c := List.count_pos_iff.2 hm
      rw [List.count_cons] at a; simp at a; omega
    have hgO := hown g (by simp)
    have hoth : ∀ x, x ≠ g → w'.heap[x]? = w.heap[x]? := fun x hx => by rw [hw']; exact setRow_other w g x _ hx
    have hO : ∀ y k u, E.okO y k → w.cell? ⟨y, k, none⟩ = some u → w'.cell? ⟨y, k, none⟩ = some u := by
      intro y k u ⟨h1, h2, _⟩ hc
      have hy : y ≠ g := by
        rintro rfl
        rcases hgO with q | q
        · omega
        · exact h2 q
      exact (World.cell?_of_block (w := w) (a := ⟨y, k, none⟩) (hoth y hy)).trans hc
    -- the rows move to the new world; only old ones are read
    have mv : ∀ {ps us b}, g ∉ b → RowsR E w φ l ps us b → RowsR E w' φ l ps us b := by
      intro ps us b hgb hr
      rcases hll with rfl | rfl
      · exact OwL.mono hr fun x hx => ⟨hoth x fun e => hgb (e ▸ hx), rfl⟩
      · exact ⟨hr.1.mono fun y k u q1 q2 => ⟨q1, hO y k u q1 q2⟩, hr.2⟩
    have e0 : xs.flatten = xs.flatten.take (i * s + j) ++ ((xs.flatten.drop (i * s + j)).take news.length ++ xs.flatten.drop (i * s + j + news.length)) := by
      have split3 : ∀ (l : List PV) (a b : Nat), l = l.take a ++ ((l.drop a).take b ++ l.drop (a + b)) := fun l a b => by
        rw [← List.drop_drop, List.take_append_drop, List.take_append_drop]
      exact split3 _ _ _
    rw [e0] at a7
    obtain ⟨u1, u2, c1, c2, hu, rfl, h1, h2⟩ := a7.split_
    obtain ⟨u3, u4, c3, c4, hu', rfl, h3, h4⟩ := h2.split_
    have l1 := h1.length
    have l3 := h3.length
    simp only [List.length_take, List.length_drop] at l1 l3
    obtain ⟨q1, q2⟩ := split_len hu (n := i * s + j) (by omega)
    obtain ⟨q3, q4⟩ := split_len hu' (n := news.length) (by omega)
    simp only [List.mem_append, not_or] at hg1
    have m1 := mv hg1.1 h1
    have m2 := mv hgn hn
    have m3 := mv hg1.2.2 h4
    have hall := (m1.append_ m2).append_ m3
    rw [← f1] at hall
    refine ⟨g :: (c1 ++ bn ++ c4), .inr ⟨g, n, cap, _, T, c1 ++ bn ++ c4, rfl, rfl, by simp [a1], a2, fun r hr => ?_, by rw [hw']; exact setRow_heap w g cur _ T (0, 0) a4, ?_, a6, ?_⟩, fun x => ?_⟩
    · rcases List.mem_or_eq_of_mem_set hr with hr | rfl
      · exact a3 r hr
      · exact f3
    · simp
      omega
    · have e1 : (cur.toList.take (i * s + j) ++ us ++ cur.toList.drop (i * s + j + us.length)).take (n * s) = u1 ++ us ++ u4 := by
        have p1 : u1 = cur.toList.take (i * s + j) := by rw [q1, List.take_take, Nat.min_eq_left (by omega)]
        have p4 : u4 = (cur.toList.drop (i * s + j + us.length)).take (n * s - (i * s + j + us.length)) := by
          rw [q4, q2, List.drop_drop, List.drop_take, hlen]
        rw [p1, p4, List.append_assoc, List.append_assoc, List.take_append, List.take_append]
        have hl1 : (cur.toList.take (i * s + j)).length = i * s + j := by simp; omega
        rw [hl1, List.take_take, Nat.min_eq_right (by omega), List.take_of_length_le (l := us) (by omega)]
        congr 3
        omega
      show RowsR E w' φ l _ ((cur.toList.take (i * s + j) ++ us ++ cur.toList.drop (i * s + j + us.length)).take (n * s)) _
      rw [e1]
      exact hall
    · simp only [List.count_cons, List.count_append]
      omega
end
end Go.Proofs.Ytkiliooegoldoaa
