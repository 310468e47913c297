/- Loads, places, indices. -/
import Derived.Test.YtkiliooegoldoaaOps1
set_option linter.unusedVariables false
set_option linter.unusedSimpArgs false
namespace Go.Proofs.Ytkiliooegoldoaa
open Go

theorem drop_take_get {α : Type} {l : List α} {a n i : Nat} : ((l.drop a).take n)[i]? = if i < n then l[a + i]? else none := by
  rw [List.getElem?_take]
  split
  · rw [List.getElem?_drop]
  · rfl

theorem CellR.ofRead {E w φ l q u} (h : RdL w (okOf E φ l) [q] [u]) : CellR E w φ (.val (borL l q) q) u [] := by
  unfold borL
  split <;> rename_i hf
  · exact (h.flat_ hf w (okB φ) φ).2
  · cases l <;> exact ⟨h, rfl⟩
theorem CellsR.ofRead {E w φ l} : ∀ {qs us}, RdL w (okOf E φ l) qs us → CellsR E w φ (qs.map fun q => .val (borL l q) q) us [] := by
  intro qs
  induction qs with
  | nil => intro us h; cases h; exact ⟨rfl, rfl⟩
  | cons q qs ih =>
    intro us h
    cases us with
    | nil => cases h
    | cons u us =>
      obtain ⟨h1, h2⟩ := RdL.cons_iff.1 h
      exact ⟨u, us, [], [], rfl, rfl, CellR.ofRead h1, ih h2⟩
theorem CellsR.ofGet {E w φ} : ∀ {cs us}, cs.length = us.length → (∀ (i : Nat) c u, cs[i]? = some c → us[i]? = some u → CellR E w φ c u []) → CellsR E w φ cs us [] := by
  intro cs
  induction cs with
  | nil => intro us h _; cases us <;> simp at h; exact ⟨rfl, rfl⟩
  | cons c cs ih =>
    intro us h k
    cases us with
    | nil => simp at h
    | cons u us =>
      exact ⟨u, us, [], [], rfl, rfl, k 0 c u rfl rfl, ih (by simpa using h) fun i c u a b => k (i + 1) c u (by simpa using a) (by simpa using b)⟩

theorem placeSplit_snoc (pre : Path) (x : Nat × Nat × Nat) : placeSplit (pre ++ [x]) = some (pre, x) := by
  induction pre with
  | nil => rfl
  | cons y pre ih =>
    cases pre with
    | nil => rfl
    | cons z pre => simp only [List.cons_append, placeSplit] at ih ⊢; rw [ih]; rfl

theorem pget_append {p q : PV} : ∀ {a b : Path}, pget p a = some q → pget p (a ++ b) = pget q b := by
  intro a
  induction a generalizing p with
  | nil => intro b h; simp only [pget, Option.some.injEq] at h; subst h; rfl
  | cons x a ih =>
    obtain ⟨s, i, j⟩ := x
    intro b h
    cases p with
    | sl sz xs =>
      simp only [pget, List.cons_append] at h ⊢
      split at h
      · rename_i hs
        rw [if_pos hs]
        split at h
        · rename_i r hr
          split at h
          · rename_i q' hq
            exact ih h
          · cases h
        · cases h
      · cases h
    | _ => simp [pget] at h
theorem rvPath_append {w φ} {v u : Value} : ∀ {a b : Path}, rvPath w φ v a = some u → rvPath w φ v (a ++ b) = rvPath w φ u b := by
  intro a
  induction a generalizing v with
  | nil => intro b h; simp only [rvPath, Option.some.injEq] at h; subst h; rfl
  | cons x a ih =>
    obtain ⟨s, i, j⟩ := x
    intro b h
    cases v with
    | slice A n c =>
      cases A with
      | none => simp [rvPath] at h
      | some A =>
        simp only [rvPath, List.cons_append] at h ⊢
        split at h
        · rename_i hok
          rw [if_pos hok]
          cases hc : w.cell? ⟨A.block, A.off + (i * s + j), none⟩ with
          | none => rw [hc] at h; cases h
          | some x => rw [hc] at h; exact ih h
        · cases h
    | _ => simp [rvPath] at h

/-- A slice that is read: its cells. -/
theorem RdL.slice_ {w ok sz xs v} (h : RdL w ok [.sl sz xs] [v]) : ∃ A c cvs, v = .slice A xs.length c ∧ xs.length ≤ c ∧ (∀ r ∈ xs, r.length = sz) ∧ (∀ k u, cvs[k]? = some u → CellOk w ok A k u) ∧ RdL w ok xs.flatten cvs := by
  cases h with
  | sl a b c d e _ => exact ⟨_, _, _, by rw [a], by rw [a]; exact b, c, d, e⟩

theorem RdL.row {w ok sz xs v g o n c i row} (h : RdL w ok [.sl sz xs] [v]) (hv : v = .slice (some ⟨g, o, none⟩) n c) (hi : xs[i]? = some row) :
    ∃ us, us.length = row.length ∧ RdL w ok row us ∧ ∀ k u, us[k]? = some u → ok g (o + (i * sz + k)) ∧ w.cell? ⟨g, o + (i * sz + k), none⟩ = some u := by
  obtain ⟨A, c', cvs, e, _, hr, hcv, hrd⟩ := h.slice_
  rw [hv] at e
  injection e with e1 e2 e3
  subst e1
  have hlen : row.length = sz := hr row (List.mem_of_getElem? hi)
  have hflat : xs.flatten.length = xs.length * sz := rows_length hr
  have hlt := (List.getElem?_eq_some_iff.1 hi).1
  have hle : i * sz + sz ≤ xs.length * sz := by rw [← Nat.succ_mul]; exact Nat.mul_le_mul_right _ hlt
  have hrow : (xs.flatten.drop (i * sz)).take sz = row := by
    apply List.ext_getElem?
    intro k
    rw [drop_take_get]
    split
    · rename_i hk
      cases hq : row[k]? with
      | none => have := List.getElem?_eq_none_iff.1 hq; omega
      | some q => exact flatten_get hr hi hq
    · rw [List.getElem?_eq_none (by omega)]
  refine ⟨(cvs.drop (i * sz)).take sz, ?_, ?_, fun k u hk => ?_⟩
  · have := hrd.length; simp; omega
  · rw [← hrow]; exact (hrd.drop_ _).take_ _
  · rw [drop_take_get] at hk
    split at hk
    · obtain ⟨g', o', e, h1, h2⟩ := hcv _ _ hk
      injection e with e
      cases e
      exact ⟨h1, h2⟩
    · cases hk

theorem cellsAt_get {r c l one pre s i} : ∀ {qs : List PV} {j k : Nat}, (cellsAt r c l one pre s i j qs)[k]? = (qs[k]?).map (cellAt r c l one pre s i (j + k)) := by
  intro qs
  induction qs with
  | nil => intro j k; rfl
  | cons q qs ih =>
    intro j k
    cases k with
    | zero => rfl
    | succ k =>
      simp only [cellsAt, List.getElem?_cons_succ]
      rw [ih, Nat.add_assoc, Nat.add_comm 1 k]
theorem cellsAt_length {r c l one pre s i} : ∀ {qs : List PV} {j : Nat}, (cellsAt r c l one pre s i j qs).length = qs.length := by
  intro qs
  induction qs with
  | nil => intro j; rfl
  | cons q qs ih => intro j; simp [cellsAt, ih]

structure Loaded (E : Env) (S : St) (vs : List Value) (w : World) (φ : Nat → Nat) (n : Nat) (v : Value) (cs : List Cell) (us : List Value) : Prop where
  len : us.length = n
  cells : ∃ g o, v = .pointer (some ⟨g, o, none⟩) ∧ ∀ (k : Nat) u, us[k]? = some u → w.cell? ⟨g, o + k, none⟩ = some u
  rel : CellsR E w φ cs us []
  views : ∀ (i : Nat) c u, cs[i]? = some c → us[i]? = some u → ViewC S vs w φ c u

theorem rootBox {S : St} {r : Nat} {cs : List Cell} {c : Nat} {x : Cell} (hS : S.g r = .box cs) (hx : cs[c]? = some x) : rootCell S r c = x := by
  simp [rootCell, hS, List.getD_eq_getElem?_getD, hx]

theorem RdL.okOf_ {E : Env} {w φ} {ok : Nat → Nat → Prop} {ps vs l} (h : RdL w ok ps vs) (hk : ok = okOf E φ l) : RdL w (okOf E φ l) ps vs := hk ▸ h

theorem loadAt_sound {E S vs w φ bs hand rs n p cs} (hs : SR E S vs w φ bs hand) (hd : S.g p ≠ .dead) (h : loadAt S rs n (asPlace S p) = some cs) :
    ∃ us, Loaded E S vs w φ n (vs.getD p undef) cs us := by
  have hu := slotv hs hd
  obtain ⟨bt, h1, h2⟩ := asPlace_sound hs hd
  cases hS : asPlace S p <;> rw [hS] at h h1 h2 <;> (try simp only [loadAt] at h)
  case ep l row off =>
    split at h
    · rename_i hle
      injection h with h
      subst h
      obtain ⟨_, g, o, cvs, e, k1, k2⟩ := h1
      have hl := k2.length
      refine ⟨(cvs.drop off).take n, ⟨by simp; omega, ⟨g, o + off, e, fun k u hk => ?_⟩, CellsR.ofRead ((k2.drop_ off).take_ n), fun i c u a b => ?_⟩⟩
      · rw [drop_take_get] at hk
        split at hk
        · have := (k1 _ _ hk).2
          rw [← Nat.add_assoc] at this
          exact this
        · cases hk
      · rw [List.getElem?_map] at a
        cases hq : ((row.drop off).take n)[i]? <;> rw [hq] at a
        · cases a
        · injection a with a; subst a; trivial
    · cases h
  case place r c path =>
    cases path with
    | nil =>
      simp only [loadAt] at h
      split at h
      · split at h
        · rename_i cs0 hr
          split at h
          · rename_i hle
            injection h with h
            subst h
            rcases h2 with ⟨_, cs', g, e1, e2, e3⟩ | ⟨pre, s, i, j, e, _⟩
            · obtain ⟨bt', h3, h4⟩ := hs.slot e2
              rw [hr] at h3 h4
              obtain ⟨g', arr, e, b1, ev, hg, hf, h3, _⟩ := h3
              injection ev with ev
              injection ev with ev
              cases ev
              have hlen := h3.length
              have hget : ∀ (k : Nat) u, ((arr.toList.drop c).take n)[k]? = some u → arr.toList[c + k]? = some u := fun k u hk => by
                rw [drop_take_get] at hk
                split at hk
                · exact hk
                · cases hk
              have hcells : ∀ (k : Nat) x u, (boxCells r c ((cs0.drop c).take n))[k]? = some x → ((arr.toList.drop c).take n)[k]? = some u → ∃ y b, x = boxCell r (c + k) y ∧ cs0[c + k]? = some y ∧ CellR E w φ y u b ∧ ViewC S vs w φ y u := by
                intro k x u a b
                rw [boxCells_get, drop_take_get] at a
                split at a
                · cases hy : cs0[c + k]? with
                  | none => rw [hy] at a; cases a
                  | some y =>
                    rw [hy] at a
                    injection a with a
                    obtain ⟨v', b1, br, m1, m2, _⟩ := h3.get hy
                    rw [hget k u b] at m1
                    injection m1 with m1
                    subst m1
                    exact ⟨y, b1, a.symm, rfl, m2, h4 ⟨g, 0, none⟩ arr e (0, 0) rfl hg (c + k) y u hy (by rw [← Array.getElem?_toList]; exact hget k u b)⟩
                · cases a
              refine ⟨(arr.toList.drop c).take n, ⟨by simp at hlen ⊢; omega, ⟨g, c, e3, fun k u hk => by rw [cell_of_heap hg, ← Array.getElem?_toList]; exact hget k u hk⟩, CellsR.ofGet ?_ ?_, ?_⟩⟩
              · have : ∀ (l : List Cell) k, (boxCells r k l).length = l.length := by
                  intro l; induction l with
                  | nil => intro k; rfl
                  | cons c l ih => intro k; simp [boxCells, ih]
                rw [this]; simp at hlen ⊢; omega
              · intro k x u a b
                obtain ⟨y, b1, rfl, hy, m1, m2⟩ := hcells k x u a b
                exact CellR.boxCell hs m1
              · intro k x u a b
                obtain ⟨y, b1, rfl, hy, m1, m2⟩ := hcells k x u a b
                refine view_boxCell (.inl (by rw [hr]; rfl)) (rootBox hr hy) ?_ m2
                simp only [rootV, hr, e2]
                rw [cell_of_heap hg, ← Array.getElem?_toList]
                exact hget k u b
            · simp at e
          · cases h
        · cases h
      · cases h
    | cons x path =>
      simp only [loadAt] at h
      split at h
      · rename_i hrs
        split at h
        · rename_i pre s i j l p0 hsplit hroot
          split at h
          · rename_i sz xs hget
            split at h
            · rename_i hsz
              subst hsz
              split at h
              · rename_i row hrow
                split at h
                · rename_i hle
                  injection h with h
                  subst h
                  rcases h2 with ⟨e, _⟩ | ⟨pre', s', i', j', e, k1, k2⟩
                  · cases e
                  · rw [e, placeSplit_snoc] at hsplit
                    injection hsplit with hsplit
                    cases hsplit
                    obtain ⟨hnf, hin, _, v0, g, o, n', cap, k3, k4, k5⟩ := k2 _ _ hroot
                    obtain ⟨b0, hb0⟩ := hs.root hroot k3
                    have hread := (CellR.reads hs.hO hb0).pget hget k4
                    obtain ⟨us, m1, m2, m3⟩ := hread.row rfl hrow
                    have hulen : ((us.drop j).take n).length = n := by simp; omega
                    refine ⟨(us.drop j).take n, ⟨hulen, ⟨g, o + (i * s + j), k5, fun k u hk => ?_⟩, CellsR.ofGet (by rw [cellsAt_length]; simp; omega) ?_, ?_⟩⟩
                    · rw [drop_take_get] at hk
                      split at hk
                      · have := (m3 _ _ hk).2
                        rw [show o + (i * s + j) + k = o + (i * s + (j + k)) from by omega]
                        exact this
                      · cases hk
                    · intro k x u a b
                      rw [cellsAt_get, drop_take_get] at a
                      rw [drop_take_get] at b
                      split at a <;> rename_i hk
                      · rw [if_pos hk] at b
                        cases hq : row[j + k]? with
                        | none => rw [hq] at a; cases a
                        | some q =>
                          rw [hq] at a
                          injection a with a
                          subst a
                          obtain ⟨u', hu', hrd⟩ := m2.get hq
                          rw [b] at hu'
                          injection hu' with hu'
                          subst hu'
                          unfold cellAt
                          split
                          · rename_i hf; exact (hrd.flat_ hf w (okB φ) φ).2
                          · cases l <;> dsimp only
                            · -- old
                              have hr2 : RdL w E.okO [p0] [v0] := hb0.1
                              obtain ⟨us2, m1', m2', m3'⟩ := (hr2.pget hget k4).row rfl hrow
                              obtain ⟨u2, hu2, hrd2⟩ := m2'.get hq
                              have e1 := (m3 _ _ b).2
                              have e2 := (m3' _ _ hu2).2
                              rw [e1] at e2
                              injection e2 with e2
                              subst e2
                              exact ⟨hrd2, rfl⟩
                            · exact ⟨hrd, rfl⟩
                            · exact ⟨rfl, hrd.oneC⟩
                            · -- oldR
                              cases hpe : pre with
                              | cons _ _ => exact ⟨hrd, rfl⟩
                              | nil =>
                                subst hpe
                                simp only [pget, Option.some.injEq] at hget
                                subst hget
                                simp only [rvPath, Option.some.injEq] at k4
                                subst k4
                                obtain ⟨sz', xs', ep, h0 | ⟨g', n'', c', cur, e', ev, _, q1, q2, q3, q4, q5, q6, q7⟩⟩ := hb0
                                · cases h0.1
                                · cases ep
                                  cases ev
                                  obtain ⟨u3, hu3, hrd3⟩ := q7.get (flatten_get q3 hrow hq)
                                  have e1 := (m3 _ _ b).2
                                  rw [cell_of_heap q4] at e1
                                  rw [List.getElem?_take] at hu3
                                  split at hu3
                                  · rw [Array.getElem?_toList] at hu3
                                    rw [Nat.zero_add] at e1
                                    rw [e1] at hu3
                                    injection hu3 with hu3
                                    subst hu3
                                    exact ⟨hrd3, rfl⟩
                                  · cases hu3
                            · exact ⟨hrd, rfl⟩
                      · cases a
                    · intro k x u a b
                      rw [cellsAt_get, drop_take_get] at a
                      rw [drop_take_get] at b
                      split at a <;> rename_i hk
                      · rw [if_pos hk] at b
                        cases hq : row[j + k]? with
                        | none => rw [hq] at a; cases a
                        | some q =>
                          rw [hq] at a
                          injection a with a
                          subst a
                          unfold cellAt
                          split
                          · trivial
                          · cases l <;> dsimp only <;> (try trivial)
                            · -- deep
                              refine ⟨k1, fun l' p' hr' => ?_⟩
                              rw [hroot] at hr'
                              injection hr' with e1 e2
                              subst e1; subst e2
                              refine ⟨hnf, fun _ => .inl rfl, ⟨q, ?_⟩, v0, k3, ?_⟩
                              · rw [pget_append hget]; simp [pget, hrow, hq]
                              · rw [rvPath_append k4]
                                have e1 := m3 _ _ b
                                simp only [rvPath]
                                rw [if_pos ⟨trivial, e1.1⟩, e1.2]
                                rfl
                            · split <;> trivial
                      · cases a
                · cases h
              · cases h
            · cases h
          · cases h
        · cases h
      · cases h
  all_goals (simp [loadAt] at h)

end Go.Proofs.Ytkiliooegoldoaa
