/- Abstract reading of Go code and its soundness, part 3. -/
import Derived.Test.YtkiliooegoldoaaE2
import Derived.Laws.StructEq
import Derived.Laws.BytesArg
import Derived.Laws.BytesString
import Derived.Lib.AppendStr
/- Parts of aggregates, results of several; stores. -/
set_option linter.unusedVariables false
set_option linter.unusedSimpArgs false
namespace Go.Proofs.Ytkiliooegoldoaa
open Go

theorem TupR.get {E w φ} : ∀ {S : List (Bool × List Cell)} {vs bs}, TupR E w φ S vs bs → ∀ {t : Nat} {c}, S[t]? = some c →
    ∃ (v : Value) (bt br : List Nat), vs[t]? = some v ∧ (if c.1 = true then ∃ arr, v = .agg arr ∧ CellsR E w φ c.2 arr.toList bt else CellsR E w φ c.2 [v] bt) ∧ (∀ g, bs.count g = bt.count g + br.count g) ∧
      ∀ cs' bt', (if c.1 = true then ∃ arr, v = .agg arr ∧ CellsR E w φ cs' arr.toList bt' else CellsR E w φ cs' [v] bt') → ∃ bs', TupR E w φ (S.set t (c.1, cs')) vs bs' ∧ ∀ g, bs'.count g = bt'.count g + br.count g := by
  intro S
  induction S with
  | nil => intro vs bs h t v hv; simp at hv
  | cons c cs ih =>
    intro vs bs h t v hv
    obtain ⟨u, us, b1, b2, rfl, rfl, hc, h⟩ := h
    cases t with
    | zero =>
      simp at hv
      subst hv
      refine ⟨u, b1, b2, rfl, hc, fun g => by simp, fun cs' bt' h' => ⟨bt' ++ b2, ⟨u, us, bt', b2, rfl, rfl, h', h⟩, fun g => by simp⟩⟩
    | succ t =>
      obtain ⟨v', bt, br, h0, h1, h2, h3⟩ := ih h (by simpa using hv)
      refine ⟨v', bt, b1 ++ br, by simpa using h0, h1, fun g => by simp [h2 g]; omega, fun cs' bt' h' => ?_⟩
      obtain ⟨bs', k1, k2⟩ := h3 cs' bt' h'
      exact ⟨b1 ++ bs', ⟨u, us, b1, bs', rfl, rfl, hc, k1⟩, fun g => by simp [k2 g]; omega⟩

section
variable {P : Program} {ρ : Operand → Value} {o : Oper} {E : Env} {S S' : St} {vs : List Value} {w : World} {φ : Nat → Nat} {bs hand : List Nat} {d : Option Nat}

theorem deadCells : ∀ {cs us b}, CellsR E w φ cs us b → CellsR E w φ (cs.map fun _ => Cell.dead) us [] := by
  intro cs
  induction cs with
  | nil => intro us b h; exact ⟨h.1, rfl⟩
  | cons c cs ih =>
    intro us b h
    obtain ⟨u, us', b1, b2, rfl, rfl, hc, h⟩ := h
    exact ⟨u, us', [], [], rfl, rfl, rfl, ih h⟩

/-- A slot's value is turned, where nothing leads into it. -/
theorem SR.reslot {tv v bt br} (hs : SR E S vs w φ bs hand) {n : Nat} (hv : vs[n]? = some v) (htv : TVR E w φ tv v bt) (hview : ViewTV S vs w φ tv v) (hr : rootish (S.g n) = false)
    (hc : ∀ b0, TVR E w φ (S.g n) v b0 → ∀ g, bt.count g + br.count g ≤ b0.count g) : ∃ bs', SR E (S.set n tv) vs w φ bs' (br ++ hand) := by
  obtain ⟨b0, b1, h1, h2, h3⟩ := hs.tvs.get hv
  obtain ⟨bs', q1, q2⟩ := h3 tv v bt htv
  have hc' := hc b0 h1
  rw [set_get_same vs n hv] at q1
  refine ⟨bs', q1, fun g => ?_, fun g hg => ?_, fun t u hu => ?_, hs.size, hs.same, hs.os⟩
  · have := hs.cnt g; have := h2 g; have := q2 g; have := hc' g; simp only [List.count_append]; omega
  · refine hs.own g ?_
    have := h2 g; have := q2 g; have := hc' g
    by_cases hb : g ∈ bs
    · exact .inl hb
    · have h0 := count_zero_of hb
      rcases hg with hg | hg
      · have := List.count_pos_iff.2 hg; omega
      · rcases List.mem_append.1 hg with hg | hg
        · have := List.count_pos_iff.2 hg; omega
        · exact .inr hg
  · have hl := hs.tvs.length
    have hn := (List.getElem?_eq_some_iff.1 hv).1
    by_cases htn : t = n
    · subst htn
      rw [hv] at hu; injection hu with hu; subst hu
      rw [g_set, if_pos ⟨rfl, by omega⟩]
      have := ViewTV.frame tv v hview (.inl hr)
      rwa [set_get_same vs t hv] at this
    · rw [g_set, if_neg (by omega)]
      have := ViewTV.frame tv v (hs.views t u hu) (.inl hr)
      rwa [set_get_same vs n hv] at this

theorem extract_goal {i n rs x} (hs : SR E S vs w φ bs []) (hρ : RhoR ρ vs) (ho : o.op = .extract x i) (hc : chkO x (.t n rs) = true) (h : step S d (.extract i (.t n rs)) = some S') : Goal P ρ o E S' vs d w := by
  have hρx := slotρ hρ hc
  simp only [step] at h
  split at h
  · rename_i ts hS
    have hv := slotv hs (n := n) (by rw [hS]; simp)
    obtain ⟨b0, h1, h2⟩ := hs.slot hv
    rw [hS] at h1 h2
    obtain ⟨arr, ev, h1⟩ := h1
    split at h
    · rename_i y hy
      cases ht : TV.ofCells y.1 y.2 with
      | none => rw [ht] at h; cases h
      | some tv =>
        rw [ht] at h
        simp only [Option.bind_some] at h
        obtain ⟨v, bt, br, k1, k2, k3, k4⟩ := h1.get hy
        have hdead : ∃ bs', TupR E w φ (ts.set i (y.1, y.2.map fun _ => Cell.dead)) arr.toList bs' ∧ ∀ g, bs'.count g = br.count g := by
          obtain ⟨bs', q1, q2⟩ := k4 (y.2.map fun _ => Cell.dead) [] (by
            split at k2
            · rename_i hb; rw [if_pos hb]; obtain ⟨a, e, k⟩ := k2; exact ⟨a, e, deadCells k⟩
            · rename_i hb; rw [if_neg hb]; exact deadCells k2)
          exact ⟨bs', q1, fun g => by have := q2 g; simpa using this⟩
        obtain ⟨bd, d1, d2⟩ := hdead
        obtain ⟨bs1, hs1⟩ := hs.reslot (tv := .tup (ts.set i (y.1, y.2.map fun _ => Cell.dead))) (bt := bd) (br := bt) hv ⟨arr, ev, d1⟩ (fun z hz c hcz => by
          rcases List.mem_or_eq_of_mem_set hz with hz | rfl
          · exact h2 z hz c hcz
          · simp only [List.mem_map] at hcz
            obtain ⟨_, _, rfl⟩ := hcz
            trivial) (by rw [hS]; rfl) (fun b0' hb0' g => by
            have e := TVR.det (tv := .tup ts) ⟨arr, ev, h1⟩ (by rw [← hS]; exact hb0')
            subst e
            have := k3 g; have := d2 g; omega)
        have hnv : ∀ c ∈ y.2, noView c := h2 y (List.mem_of_getElem? hy)
        have hA : ∃ us, AggR E w φ y.1 y.2 v us bt := by
          split at k2
          · rename_i hb; obtain ⟨a, e, k⟩ := k2; exact ⟨a.toList, by rw [if_pos hb, e, toList_toArray'], k⟩
          · rename_i hb; exact ⟨[v], by rw [if_neg hb], k2⟩
        obtain ⟨us, hA⟩ := hA
        refine goal_val (φ := φ) (v := v) ?_ (done_put (bt := bt) hs1 (ofCells_TVR hA ht) (ofCells_view hA.1 (fun j c u a b => ?_) ht) h)
        · rw [ev] at hρx
          rw [Array.getElem?_toList] at k1
          simp [execOp, ho, hρx, Instr.extract, k1]
        · have := hnv c (List.mem_of_getElem? a)
          cases c <;> first | trivial | exact this.elim
    · cases h
  · cases h

theorem mvT_goal {n rs y} (hs : SR E S vs w φ bs []) (hρ : RhoR ρ vs) (ho : o.op = .move y ∨ o.op = .assign y) (hc : chkO y (.t n rs) = true) (h : step S d (.mvT (.t n rs)) = some S') : Goal P ρ o E S' vs d w := by
  have hρx := slotρ hρ hc
  simp only [step] at h
  split at h
  · rename_i ts hS
    have hv := slotv hs (n := n) (by rw [hS]; simp)
    obtain ⟨b0, h1, h2⟩ := hs.slot hv
    rw [hS] at h1 h2
    obtain ⟨bs1, hs1⟩ := hs.reslot (tv := .dead) (bt := []) (br := b0) hv (by simp [TVR]) trivial (by rw [hS]; rfl) (fun b0' hb0' g => by
      have e := TVR.det (tv := .tup ts) h1 (by rw [← hS]; exact hb0')
      subst e
      simp)
    refine goal_val (φ := φ) (v := vs.getD n undef) (by rcases ho with ho | ho <;> simp [execOp, ho, hρx]) (done_put (bt := b0) hs1 h1 h2 h)
  · cases h

theorem field_goal {off n x y t f fs} {fd : Field} {dt : TypeDesc} {i : TypeInfo} (hs : SR E S vs w φ bs []) (hρ : RhoR ρ vs) (ho : o.op = .field t x f) (hc : chkO x y = true) (hu : P.underlying t = some (.struct fs)) (hf : fs[f]? = some fd) (hoff : fd.offset = off)
    (hd : P.underlying fd.type = some dt) (hi : P.info? fd.type = some i) (hn : match n with | none => aggD dt = false | some k => aggD dt = true ∧ i.size = k)
    (h : step S d (.field off n y) = some S') : Goal P ρ o E S' vs d w := by
  subst hoff
  simp only [step] at h
  split at h
  · rename_i cs S1 ht
    split at h
    · rename_i hle
      cases hc' : TV.ofCells n.isSome ((cs.drop fd.offset).take (n.getD 1)) with
      | none => rw [hc'] at h; cases h
      | some tv =>
        rw [hc'] at h
        simp only [Option.bind_some] at h
        obtain ⟨bs1, bc, us, q1, q2, q3, q4⟩ := tAny_sound hs (hρ _ _ hc) ht
        obtain ⟨e1, hcs⟩ := q3
        simp only [if_true] at e1
        have hlen := hcs.length
        have e : cs = cs.take fd.offset ++ ((cs.drop fd.offset).take (n.getD 1) ++ cs.drop (fd.offset + n.getD 1)) := by
          rw [← List.drop_drop, List.take_append_drop, List.take_append_drop]
        rw [e] at hcs
        obtain ⟨u1, u2, b1, b2, hu', rfl, h1, h2⟩ := hcs.split_
        obtain ⟨u3, u4, b3, b4, hu'', rfl, h3, h4⟩ := h2.split_
        have l1 := h1.length
        have l3 := h3.length
        simp at l1 l3
        obtain ⟨e1', e2'⟩ := split_len hu' (n := fd.offset) (by omega)
        obtain ⟨e3', e4'⟩ := split_len hu'' (n := n.getD 1) (by omega)
        have hu3 : u3 = (us.drop fd.offset).take (n.getD 1) := by rw [e3', e2']
        have hviews : ViewsL S1 vs w φ ((cs.drop fd.offset).take (n.getD 1)) u3 := fun j c u a b => by
          rw [drop_take_get] at a
          rw [hu3, drop_take_get] at b
          split at a
          · rename_i hj; rw [if_pos hj] at b; exact q4 _ c u a b
          · cases a
        have hs1 := q1.handLe (hand' := b3 ++ []) (fun g => by simp; omega)
        cases n with
        | none =>
          simp only [Option.getD_none] at *
          obtain ⟨u, rfl⟩ : ∃ u, u3 = [u] := by
            cases u3 with
            | nil => simp at l3; omega
            | cons u us => cases us with
              | nil => exact ⟨u, rfl⟩
              | cons _ _ => simp at l3; omega
          have hget : us[fd.offset]? = some u := by
            have : ([u] : List Value)[0]? = some u := rfl
            rw [hu3, drop_take_get, if_pos (by omega)] at this
            simpa using this
          refine goal_val (φ := φ) (v := u) ?_ (done_put hs1 (ofCells_TVR (agg := false) (us := [u]) ⟨rfl, h3⟩ hc') (ofCells_view (agg := false) (us := [u]) rfl hviews hc') h)
          simp [execOp, ho, e1, Instr.field, run_underlying hu, hf, asAgg, part, r_isAgg hd, hn, hget]
        | some k =>
          simp only [Option.getD_some] at *
          refine goal_val (φ := φ) (v := .agg u3.toArray) ?_ (done_put hs1 (ofCells_TVR (agg := true) (us := u3) ⟨rfl, h3⟩ hc') (ofCells_view (agg := true) (us := u3) rfl hviews hc') h)
          simp [execOp, ho, e1, Instr.field, run_underlying hu, hf, asAgg, part, r_isAgg hd, hn.1, r_size hi, hn.2]
          exact hu3.symm
    · cases h
  · cases h

end
end Go.Proofs.Ytkiliooegoldoaa

/- A place inside what is owned: taken apart and put together. -/
set_option linter.unusedVariables false
set_option linter.unusedSimpArgs false
namespace Go.Proofs.Ytkiliooegoldoaa
open Go

/-- The part at a path replaced. -/
def prep : PV → Path → PV → PV
  | _, [], q => q
  | .sl sz xs, (s, i, j) :: t, q =>
    match xs[i]? with
    | some r => match r[j]? with
      | some p => .sl sz (xs.set i (r.set j (prep p t q)))
      | none => .sl sz xs
    | none => .sl sz xs
  | p, _ :: _, _ => p

theorem flatten_set {α : Type} {sz : Nat} {xs : List (List α)} (h : ∀ r ∈ xs, r.length = sz) {i j : Nat} {r : List α} {q : α} (hi : xs[i]? = some r) (hj : j < r.length) :
    (xs.set i (r.set j q)).flatten = xs.flatten.set (i * sz + j) q := by
  have hlt := (List.getElem?_eq_some_iff.1 hi).1
  have hr := h r (List.mem_of_getElem? hi)
  have hle : i * sz + sz ≤ xs.length * sz := by rw [← Nat.succ_mul]; exact Nat.mul_le_mul_right _ hlt
  have hfl := flatten_len h
  rw [rows_flatten_set h hlt]
  have hrow : (xs.flatten.drop (i * sz)).take sz = r := by
    apply List.ext_getElem?
    intro k
    rw [drop_take_get]
    split
    · rename_i hk
      cases hq : r[k]? with
      | none => have := List.getElem?_eq_none_iff.1 hq; omega
      | some q => exact flatten_get h hi hq
    · rw [List.getElem?_eq_none (by omega)]
  apply List.ext_getElem?
  intro k
  rw [List.append_assoc, List.getElem?_append, List.getElem?_append]
  simp only [List.length_take, List.length_set, hfl]
  by_cases h1 : k < i * sz
  · rw [if_pos (by omega), List.getElem?_take, if_pos h1, List.getElem?_set, if_neg (by omega)]
  · rw [if_neg (by omega), Nat.min_eq_left (by omega)]
    by_cases h2 : k < i * sz + sz
    · rw [if_pos (by omega), List.getElem?_set, List.getElem?_set]
      by_cases h3 : k = i * sz + j
      · subst h3
        rw [if_pos (by omega), if_pos (by omega), if_pos rfl, if_pos (by omega)]
      · rw [if_neg (by omega), if_neg (by omega)]
        rw [← hrow, drop_take_get, if_pos (by omega)]
        congr 1; omega
    · rw [if_neg (by omega), List.getElem?_set, if_neg (by omega), List.getElem?_drop]
      congr 1; omega

theorem OwL.at_ {w φ} : ∀ {ps : List PV} {us bs}, OwL w φ ps us bs → ∀ {k : Nat} {p}, ps[k]? = some p → ∃ (u : Value) (bp br : List Nat), us[k]? = some u ∧ OwL w φ [p] [u] bp ∧ (∀ x : Nat, bs.count x = bp.count x + br.count x) ∧
    ∀ (w' : World) (φ' : Nat → Nat) (p' : PV) (bp' : List Nat), (∀ x ∈ br, w'.heap[x]? = w.heap[x]? ∧ φ' x = φ x) → OwL w' φ' [p'] [u] bp' → ∃ bs', OwL w' φ' (ps.set k p') us bs' ∧ ∀ x, bs'.count x = bp'.count x + br.count x := by
  intro ps
  induction ps with
  | nil => intro us bs h k p hk; simp at hk
  | cons q ps ih =>
    intro us bs h k p hk
    cases us with
    | nil => cases h
    | cons u us =>
      obtain ⟨b1, b2, rfl, h1, h2⟩ := OwL.cons_iff.1 h
      cases k with
      | zero =>
        simp at hk
        subst hk
        refine ⟨u, b1, b2, rfl, h1, fun x => by simp, fun w' φ' p' bp' hb hp => ⟨bp' ++ b2, OwL.cons_iff.2 ⟨bp', b2, rfl, hp, h2.mono hb⟩, fun x => by simp⟩⟩
      | succ k =>
        obtain ⟨u', bp, br, e1, e2, e3, e4⟩ := ih h2 (by simpa using hk)
        refine ⟨u', bp, b1 ++ br, by simpa using e1, e2, fun x => by have := e3 x; simp; omega, fun w' φ' p' bp' hb hp => ?_⟩
        obtain ⟨bs', k1, k2⟩ := e4 w' φ' p' bp' (fun x hx => hb x (by simp [hx])) hp
        exact ⟨b1 ++ bs', OwL.cons_iff.2 ⟨b1, bs', rfl, h1.mono fun x hx => hb x (by simp [hx]), k1⟩, fun x => by have := k2 x; simp; omega⟩

theorem OwL.ctx {w φ} : ∀ {path : Path} {p q : PV} {v u : Value} {bs}, OwL w φ [p] [v] bs → pget p path = some q → rvPath w φ v path = some u →
    ∃ (bq br : List Nat), OwL w φ [q] [u] bq ∧ (∀ x : Nat, bs.count x = bq.count x + br.count x) ∧
      ∀ (w' : World) (φ' : Nat → Nat) (q' : PV) (bq' : List Nat), (∀ x ∈ br, w'.heap[x]? = w.heap[x]? ∧ φ' x = φ x) → OwL w' φ' [q'] [u] bq' →
        ∃ bs', OwL w' φ' [prep p path q'] [v] bs' ∧ (∀ x, bs'.count x = bq'.count x + br.count x) ∧ ∀ path', pfx path' path = true → rvPath w' φ' v path' = rvPath w φ v path' := by
  intro path
  induction path with
  | nil =>
    intro p q v u bs h h1 h2
    simp only [pget, rvPath, Option.some.injEq] at h1 h2
    subst h1; subst h2
    refine ⟨bs, [], h, fun x => by simp, fun w' φ' q' bq' _ hq => ⟨bq', hq, fun x => by simp, fun path' hp => ?_⟩⟩
    cases path' with
    | nil => rfl
    | cons _ _ => simp [pfx] at hp
  | cons x t ih =>
    obtain ⟨s, i, j⟩ := x
    intro p q v u bs h h1 h2
    cases h with
    | int _ => simp [pget] at h1
    | bool _ => simp [pget] at h1
    | str _ => simp [pget] at h1
    | snil _ => simp [pget] at h1
    | @sl sz xs g n c cur e _ _ b1 b2 a1 a2 a3 a4 a5 a6 a7 a8 =>
      cases a8
      simp only [pget] at h1
      split at h1 <;> try (cases h1; done)
      rename_i hs
      subst hs
      split at h1 <;> try (cases h1; done)
      rename_i r hr
      split at h1 <;> try (cases h1; done)
      rename_i p0 hp0
      have hj := (List.getElem?_eq_some_iff.1 hp0).1
      obtain ⟨u0, bp, br, e1, e2, e3, e4⟩ := a7.at_ (flatten_get a3 hr hp0)
      have hcur : cur[i * s + j]? = some u0 := by
        rw [List.getElem?_take] at e1
        split at e1
        · simpa using e1
        · cases e1
      have hk : i * s + j < n * s := by
        have := (List.getElem?_eq_some_iff.1 e1).1
        simp at this; omega
      simp only [rvPath] at h2
      split at h2 <;> try (cases h2; done)
      rename_i hok
      rw [Nat.zero_add, cell_of_heap a4, hcur] at h2
      simp only [Option.bind_some] at h2
      obtain ⟨bq, br', k1, k2, k3⟩ := ih e2 h1 h2
      refine ⟨bq, g :: (br' ++ br), k1, fun x => by have := k2 x; have := e3 x; simp [List.count_cons]; omega, fun w' φ' q' bq' hb hq => ?_⟩
      obtain ⟨bs0, m1, m2, m3⟩ := k3 w' φ' q' bq' (fun x hx => hb x (by simp [hx])) hq
      obtain ⟨bs1, n1, n2⟩ := e4 w' φ' _ bs0 (fun x hx => hb x (by simp [hx])) m1
      have hg := hb g (by simp)
      refine ⟨g :: (bs1 ++ []), ?_, fun x => by have := n2 x; have := m2 x; simp [List.count_cons]; omega, fun path' hp => ?_⟩
      · simp only [prep, hr, hp0]
        refine .sl (by simp [a1]) a2 (fun r' hr' => ?_) (hg.1.trans a4) a5 (hg.2.trans a6) ?_ .nil
        · rcases List.mem_or_eq_of_mem_set hr' with hr' | rfl
          · exact a3 r' hr'
          · rw [List.length_set]; exact a3 r (List.mem_of_getElem? hr)
        · rw [flatten_set a3 hr hj]; exact n1
      · cases path' with
        | nil => rfl
        | cons y t' =>
          simp only [pfx, Bool.and_eq_true, beq_iff_eq] at hp
          obtain ⟨rfl, hp⟩ := hp
          simp only [rvPath, Nat.zero_add]
          rw [cell_of_heap a4, cell_of_heap (hg.1.trans a4), hcur, hg.2]
          split
          · exact m3 t' hp
          · rfl

/-- Blocks of no interest to a path. -/
theorem OwL.path_same {w φ w' φ'} : ∀ {path : Path} {p q : PV} {v : Value} {bs}, OwL w φ [p] [v] bs → pget p path = some q → (∀ x ∈ bs, w'.heap[x]? = w.heap[x]? ∧ φ' x = φ x) → rvPath w' φ' v path = rvPath w φ v path := by
  intro path
  induction path with
  | nil => intro p q v bs _ _ _; rfl
  | cons x t ih =>
    obtain ⟨s, i, j⟩ := x
    intro p q v bs h h1 hb
    cases h with
    | int _ => simp [pget] at h1
    | bool _ => simp [pget] at h1
    | str _ => simp [pget] at h1
    | snil _ => simp [pget] at h1
    | @sl sz xs g n c cur e _ _ b1 b2 a1 a2 a3 a4 a5 a6 a7 a8 =>
      cases a8
      simp only [pget] at h1
      split at h1 <;> try (cases h1; done)
      rename_i hs
      subst hs
      split at h1 <;> try (cases h1; done)
      rename_i r hr
      split at h1 <;> try (cases h1; done)
      rename_i p0 hp0
      obtain ⟨u0, bp, br, e1, e2, e3, e4⟩ := a7.at_ (flatten_get a3 hr hp0)
      have hcur : cur[i * s + j]? = some u0 := by
        rw [List.getElem?_take] at e1
        split at e1
        · simpa using e1
        · cases e1
      have hg := hb g (by simp)
      simp only [rvPath, Nat.zero_add]
      rw [cell_of_heap a4, cell_of_heap (hg.1.trans a4), hcur, hg.2]
      split
      · refine ih e2 h1 fun x hx => hb x ?_
        have := e3 x
        have := List.count_pos_iff.2 hx
        exact List.mem_cons_of_mem _ (List.mem_append_left _ (mem_of_count (by omega)))
      · rfl

theorem pget_prep {q' : PV} : ∀ {path : Path} {p q : PV}, pget p path = some q → ∀ {path' : Path}, pfx path' path = true → ∃ z, pget (prep p path q') path' = some z := by
  intro path
  induction path with
  | nil =>
    intro p q _ path' hp
    cases path' with
    | nil => exact ⟨_, rfl⟩
    | cons _ _ => simp [pfx] at hp
  | cons x t ih =>
    obtain ⟨s, i, j⟩ := x
    intro p q h path' hp
    cases path' with
    | nil => exact ⟨_, rfl⟩
    | cons y t' =>
      simp only [pfx, Bool.and_eq_true, beq_iff_eq] at hp
      obtain ⟨rfl, hp⟩ := hp
      cases p with
      | sl sz xs =>
        simp only [pget] at h
        split at h <;> try (cases h; done)
        rename_i hs
        subst hs
        split at h <;> try (cases h; done)
        rename_i r hr
        split at h <;> try (cases h; done)
        rename_i p0 hp0
        have h1 := (List.getElem?_eq_some_iff.1 hr).1
        have h2 := (List.getElem?_eq_some_iff.1 hp0).1
        simp only [prep, hr, hp0, pget, if_true]
        rw [List.getElem?_set, if_pos rfl, if_pos h1]
        dsimp only
        rw [List.getElem?_set, if_pos rfl, if_pos h2]
        exact ih h hp
      | _ => simp [pget] at h

theorem pset_prep {news : List PV} {s i j : Nat} {p' : PV} : ∀ {pre : Path} {p : PV}, pset p (pre ++ [(s, i, j)]) news = some p' →
    ∃ xs row, pget p pre = some (.sl s xs) ∧ xs[i]? = some row ∧ j + news.length ≤ row.length ∧ p' = prep p pre (.sl s (xs.set i (rowSet row j news))) := by
  intro pre
  induction pre generalizing p' with
  | nil =>
    intro p h
    cases p with
    | sl sz xs =>
      simp only [List.nil_append, pset] at h
      split at h <;> try (cases h; done)
      rename_i hs
      subst hs
      split at h <;> try (cases h; done)
      rename_i r hr
      split at h <;> try (cases h; done)
      rename_i hl
      injection h with h
      exact ⟨xs, r, rfl, hr, hl, by rw [← h]; rfl⟩
    | _ => simp [pset] at h
  | cons x t ih =>
    obtain ⟨s0, i0, j0⟩ := x
    intro p h
    cases p with
    | sl sz xs =>
      simp only [List.cons_append, pset] at h
      split at h <;> try (cases h; done)
      rename_i hs
      subst hs
      split at h <;> try (cases h; done)
      rename_i r hr
      have hne : t ++ [(s, i, j)] ≠ [] := by simp
      obtain ⟨y, t', hyt⟩ := List.exists_cons_of_ne_nil hne
      rw [hyt] at h
      simp only at h
      rw [← hyt] at h
      split at h <;> try (cases h; done)
      rename_i q0 hq0
      cases hp : pset q0 (t ++ [(s, i, j)]) news with
      | none => rw [hp] at h; cases h
      | some q' =>
        rw [hp] at h
        simp only [Option.map_some, Option.some.injEq] at h
        obtain ⟨xs', row, e1, e2, e3, e4⟩ := ih hp
        refine ⟨xs', row, ?_, e2, e3, ?_⟩
        · simp only [pget, if_true, hr, hq0, e1]
        · rw [← h, e4]; simp only [prep, hr, hq0]
    | _ => simp [pset] at h

theorem pset_one {q' : PV} {path : Path} {p p' : PV} (hne : path ≠ []) (h : pset p path [q'] = some p') : p' = prep p path q' ∧ ∃ q, pget p path = some q := by
  obtain ⟨pre, x, rfl⟩ : ∃ pre x, path = pre ++ [x] := ⟨path.dropLast, path.getLast hne, (List.dropLast_concat_getLast hne).symm⟩
  obtain ⟨s, i, j⟩ := x
  obtain ⟨xs, row, e1, e2, e3, rfl⟩ := pset_prep h
  simp only [List.length_singleton] at e3
  have hj : j < row.length := by omega
  have hrow : rowSet row j [q'] = row.set j q' := by
    unfold rowSet
    rw [List.set_eq_take_append_cons_drop, if_pos hj]
    simp
  refine ⟨?_, row[j], by rw [pget_append e1]; simp [pget, e2, hj]⟩
  rw [hrow]
  clear h
  induction pre generalizing p with
  | nil =>
    simp only [pget, Option.some.injEq] at e1
    subst e1
    simp [prep, e2, hj]
  | cons y t ih =>
    obtain ⟨s0, i0, j0⟩ := y
    cases p with
    | sl sz ys =>
      simp only [pget] at e1
      split at e1 <;> try (cases e1; done)
      split at e1 <;> try (cases e1; done)
      rename_i r hr
      split at e1 <;> try (cases e1; done)
      rename_i q0 hq0
      simp only [List.cons_append, prep, hr, hq0]
      rw [ih (by simp) e1]
    | _ => simp [pget] at e1

end Go.Proofs.Ytkiliooegoldoaa

/- A store into a box. -/
set_option linter.unusedVariables false
set_option linter.unusedSimpArgs false
namespace Go.Proofs.Ytkiliooegoldoaa
open Go

section
variable {P : Program} {ρ : Operand → Value} {o : Oper} {E : Env} {S S' : St} {vs : List Value} {w : World} {φ : Nat → Nat} {bs hand : List Nat} {d : Option Nat}

/-- One slot, and all the others. -/
theorem SR.swap (hs : SR E S vs w φ bs hand) {r : Nat} {v : Value} (hv : vs[r]? = some v) :
    ∃ bt br b0 : List Nat, TVR E w φ (S.g r) v bt ∧ (∀ g, bs.count g = bt.count g + br.count g) ∧ TVsR E w φ (S.set r .dead) vs b0 ∧ (∀ g, b0.count g = br.count g) ∧
      ∀ w' φ' tv' bt' hand', TVsR E w' φ' (S.set r .dead) vs b0 → TVR E w' φ' tv' v bt' → (∀ g, bt'.count g + hand'.count g ≤ bt.count g + hand.count g) → ViewsOK (S.set r tv') vs w' φ' →
        w'.heap.size = w.heap.size → (∀ g, g < E.w0.heap.size → g ∉ E.lin → w'.heap[g]? = w.heap[g]? ∧ φ' g = φ g) → (w'.os = w.os ∧ w'.tape = w.tape ∧ outw w' = outw w) →
        ∃ bs', SR E (S.set r tv') vs w' φ' bs' hand' := by
  obtain ⟨bt, br, h1, h2, h3⟩ := hs.tvs.get hv
  obtain ⟨b0, k1, k2⟩ := h3 .dead v [] rfl
  rw [set_get_same vs r hv] at k1
  have k2' : ∀ g, b0.count g = br.count g := fun g => by rw [k2 g]; simp
  refine ⟨bt, br, b0, h1, h2, k1, k2', fun w' φ' tv' bt' hand' hT hV hc hview hsz hold hos => ?_⟩
  obtain ⟨bt0, br0, m1, m2, m3⟩ := hT.get hv
  have hlt := (List.getElem?_eq_some_iff.1 hv).1
  have hl := hs.tvs.length
  have hbt0 : bt0 = [] := by
    rw [g_set, if_pos ⟨rfl, by omega⟩] at m1
    exact m1
  obtain ⟨bs', n1, n2⟩ := m3 tv' v bt' hV
  rw [set_get_same vs r hv, List.set_set] at n1
  have hcount : ∀ g, bs'.count g + hand'.count g ≤ bs.count g + hand.count g := fun g => by
    have := n2 g; have := m2 g; have := h2 g; have := k2' g; have := hc g
    rw [hbt0] at *
    simp at *
    omega
  refine ⟨bs', n1, fun g => ?_, fun g hg => ?_, hview, by rw [hsz]; exact hs.size, fun g a b => ?_, ?_⟩
  · have := hcount g; have := hs.cnt g; omega
  · have hm : g ∈ bs ∨ g ∈ hand := by
      have := hcount g
      have hpos : 0 < bs'.count g + hand'.count g := by
        rcases hg with hg | hg
        · have := List.count_pos_iff.2 hg; omega
        · have := List.count_pos_iff.2 hg; omega
      by_cases hb : g ∈ bs
      · exact .inl hb
      · have := count_zero_of hb
        exact .inr (mem_of_count (by omega))
    have := hs.own g hm
    exact ⟨by rw [hsz]; exact this.1, this.2⟩
  · have q1 := hold g a b
    have q2 := hs.same g a b
    exact ⟨q1.1.trans q2.1, q1.2.trans q2.2⟩
  · exact ⟨hos.1.trans hs.os.1, hos.2.1.trans hs.os.2.1, hos.2.2.trans hs.os.2.2⟩

theorem rootV_world1 {S : St} {vs w w' r c v} (hb : ∀ cs a, S.g r = .box cs → vs[r]? = some (.pointer (some a)) → w'.heap[a.block]? = w.heap[a.block]?) (h : rootV S vs w r c = some v) : rootV S vs w' r c = some v := by
  unfold rootV at h ⊢
  cases hS : S.g r <;> rw [hS] at h <;> (try dsimp only at h ⊢)
  case one x => cases hv : vs[r]? <;> rw [hv] at h <;> exact h
  case agg cs => cases hv : vs[r]? with
    | none => rw [hv] at h; exact h
    | some u => rw [hv] at h; cases u <;> exact h
  case box cs =>
    cases hv : vs[r]? with
    | none => rw [hv] at h; cases h
    | some u =>
      rw [hv] at h
      cases u with
      | pointer a =>
        cases a with
        | none => cases h
        | some a => dsimp only at h ⊢; unfold World.cell? at h ⊢; rw [hb cs a hS hv]; exact h
      | _ => cases h
  all_goals cases h

/-! ### Views that do not lead where something is written -/
def noReg (r c n : Nat) : Cell → Prop
  | .view r' c' _ => ¬ (r' = r ∧ c ≤ c' ∧ c' < c + n)
  | _ => True
theorem noReg_kill (r c n : Nat) (x : Cell) : noReg r c n (killBoxC r c n x) := by
  cases x with
  | val l p => trivial
  | dead => trivial
  | view r' c' path =>
    simp only [killBoxC]
    split
    · trivial
    · assumption

theorem lay_get {cs news cs' : List Cell} {c : Nat} (h : lay cs c news = some cs') {i : Nat} (hi : ¬ (c ≤ i ∧ i < c + news.length)) : cs'[i]? = cs[i]? := by
  unfold lay at h
  split at h
  · rename_i hle
    injection h with h
    subst h
    rw [List.append_assoc, List.getElem?_append]
    split
    · rename_i h1
      simp at h1
      rw [List.getElem?_take, if_pos (by omega)]
    · rename_i h1
      simp at h1
      rw [List.getElem?_append_right (by simp; omega), List.getElem?_drop]
      congr 1
      simp
      omega
  · cases h
theorem lay_mem {cs news cs' : List Cell} {c : Nat} (h : lay cs c news = some cs') {x : Cell} (hx : x ∈ cs') : x ∈ cs ∨ x ∈ news := by
  unfold lay at h
  split at h
  · injection h with h
    subst h
    rcases List.mem_append.1 hx with hx | hx
    · rcases List.mem_append.1 hx with hx | hx
      · exact .inl (List.mem_of_mem_take hx)
      · exact .inr hx
    · exact .inl (List.mem_of_mem_drop hx)
  · cases h

theorem storeBox {r c g : Nat} {cs news cs' : List Cell} {us bn} (hs : SR E S vs w φ bs (bn ++ hand)) (hS : S.g r = .box cs) (hv : vs[r]? = some (.pointer (some ⟨g, 0, none⟩)))
    (hn : CellsR E w φ news us bn) (hview : ViewsL S vs w φ news us) (hl : lay (cs.map (killBoxC r c news.length)) c (news.map (killBoxC r c news.length)) = some cs') :
    ∃ arr T, w.heap[g]? = some (.cells arr T (0, 0)) ∧ c + us.length ≤ arr.size ∧
      ∃ bs', SR E ((killBox r c news.length S).set r (.box cs')) vs (w.setRow g (arr.toList.take c ++ us ++ arr.toList.drop (c + us.length)).toArray) φ bs' hand := by
  have hK := strikes_box r c news.length
  generalize hKd : killBoxC r c news.length = K at hl hK
  have hs2 : SR E (killBox r c news.length S) vs w φ bs (bn ++ hand) := by
    have := hs.strike (h := fun r' c' path => r' == r && decide (c ≤ c') && decide (c' < c + news.length) && !path.isEmpty) (strikes_box r c news.length)
    exact this
  have hg2 : ∀ t, St.g (killBox r c news.length S) t = mapTV (killBoxC r c news.length) (fun r' c' path => r' == r && decide (c ≤ c') && decide (c' < c + news.length) && !path.isEmpty) false (S.g t) := fun t => g_map rfl t
  generalize hS2 : killBox r c news.length S = S2 at hs2 hg2
  have hSr : S2.g r = .box (cs.map K) := by rw [hg2, hS, hKd]; rfl
  have hn2 : CellsR E w φ (news.map K) us bn := hK.cells hn
  obtain ⟨bt, br, b0, h1, h2, h3, h4, h5⟩ := hs2.swap hv
  rw [hSr] at h1
  obtain ⟨g', arr, T, b1, hp, hheap, hφ, hcs, rfl⟩ := h1
  injection hp with hp
  simp at hp
  subst hp
  obtain ⟨hle, b', hcs', hb'⟩ := hcs.lay_ hn2 hl
  have hsize : c + us.length ≤ arr.size := by simpa using hle
  refine ⟨arr, T, hheap, hsize, ?_⟩
  have hgown : g < w.heap.size ∧ (E.w0.heap.size ≤ g ∨ g ∈ E.lin) := hs2.own g (.inl (mem_of_count (by have := h2 g; rw [List.count_cons] at this; simp at this; show 0 < bs.count g; omega)))
  have hcnt := hs2.cnt
  have hI : InPl w (w.setRow g (arr.toList.take c ++ us ++ arr.toList.drop (c + us.length)).toArray) φ φ g :=
    ⟨fun b hb => ⟨setRow_other w g b _ hb, rfl⟩, fun k x hk _ => by omega, Nat.le_refl _, by simp, rfl, rfl, outw_setRow _ _ _⟩
  have hheap' := setRow_heap w g arr (arr.toList.take c ++ us ++ arr.toList.drop (c + us.length)).toArray T (0, 0) hheap
  generalize hw' : w.setRow g (arr.toList.take c ++ us ++ arr.toList.drop (c + us.length)).toArray = w' at hI hheap'
  have hbr : g ∉ br := fun hm => by
    have a := h2 g; have b := hcnt g; have c := List.count_pos_iff.2 hm
    rw [List.count_cons] at a
    simp at a
    omega
  have hb0 : g ∉ b0 := fun hm => hbr (mem_of_count (by rw [← h4 g]; exact List.count_pos_iff.2 hm))
  have hb1 : g ∉ b1 := fun hm => by
    have a := h2 g; have b := hcnt g; have c := List.count_pos_iff.2 hm
    rw [List.count_cons] at a
    simp at a
    omega
  have hbn : g ∉ bn := fun hm => by
    have a := h2 g; have b := hcnt g; have c := List.count_pos_iff.2 hm
    rw [List.count_cons] at a
    rw [List.count_append] at b
    simp at a
    omega
  have hb'g : g ∉ b' := fun hm => by
    have a := hb' g; have c := List.count_pos_iff.2 hm
    have d1 := count_zero_of hb1
    have d2 := count_zero_of hbn
    omega
  have hO := okO_not hI hgown.2
  -- another slot's box is another block
  have hother : ∀ t cs a, t ≠ r → S2.g t = .box cs → vs[t]? = some (.pointer (some a)) → a.block ≠ g := by
    intro t cs a ht hSt hvt e
    obtain ⟨bx, by_, m1, m2, _⟩ := h3.get hvt
    rw [g_set, if_neg (by omega), hSt] at m1
    obtain ⟨g2, arr2, e2, b2, hp2, _, _, _, rfl⟩ := m1
    injection hp2 with hp2
    injection hp2 with hp2
    subst hp2
    have e2 : g2 = g := e
    have := m2 g
    rw [List.count_cons, e2] at this
    simp at this
    exact hb0 (mem_of_count (by omega))
  have hset : ∀ t, t ≠ r → St.g (S2.set r (.box cs')) t = S2.g t := fun t ht => by rw [g_set, if_neg (by omega)]
  have hrlt : r < S2.length := by rw [hs2.tvs.length]; exact (List.getElem?_eq_some_iff.1 hv).1
  have hsetr : St.g (S2.set r (.box cs')) r = .box cs' := by rw [g_set, if_pos ⟨rfl, hrlt⟩]
  -- the roots
  have hroot : ∀ r' c', ¬ (r' = r ∧ c ≤ c' ∧ c' < c + news.length) → rootCell (S2.set r (.box cs')) r' c' = rootCell S2 r' c' := by
    intro r' c' hno
    by_cases hr : r' = r
    · subst hr
      unfold rootCell
      rw [hsetr, hSr]
      dsimp only
      rw [List.getD_eq_getElem?_getD, List.getD_eq_getElem?_getD, lay_get hl (by simpa using fun a b => hno ⟨rfl, a, b⟩)]
    · exact rootCell_ne hr
  have hrootV : ∀ r' c' u, ¬ (r' = r ∧ c ≤ c' ∧ c' < c + news.length) → rootV S2 vs w r' c' = some u → rootV (S2.set r (.box cs')) vs w' r' c' = some u := by
    intro r' c' u hno h
    by_cases hr : r' = r
    · subst hr
      unfold rootV at h ⊢
      rw [hsetr, hv]
      rw [hSr, hv] at h
      dsimp only at h ⊢
      rw [cell_of_heap hheap] at h
      rw [cell_of_heap hheap']
      rw [← h]
      have hlen : us.length = news.length := hn.length.symm
      have hno' : ¬ (c ≤ c' ∧ c' < c + us.length) := by rw [hlen]; exact fun k => hno ⟨rfl, k⟩
      simp only [List.getElem?_toArray]
      rw [List.append_assoc, List.getElem?_append]
      split
      · rename_i q
        simp at q
        rw [List.getElem?_take, if_pos (by omega)]
        simp
      · rename_i q
        simp at q
        rw [List.getElem?_append_right (by simp; omega), List.getElem?_drop]
        rw [← Array.getElem?_toList]
        congr 1
        simp
        omega
    · have : rootV (S2.set r (.box cs')) vs w' r' c' = rootV S2 vs w' r' c' := by
        unfold rootV; rw [hset r' hr]
      rw [this]
      refine rootV_world1 (fun csx a e1 e2 => ?_) h
      exact (hI.heap a.block (hother r' csx a hr e1 e2)).1
  have hVC : ∀ x u, noReg r c news.length x → ViewC S2 vs w φ x u → ViewC (S2.set r (.box cs')) vs w' φ x u := by
    intro x u hno h
    cases x with
    | val l p => trivial
    | dead => trivial
    | view r' c' path =>
      refine ⟨?_, fun l p hr => ?_⟩
      · by_cases hr : r' = r
        · subst hr; rw [hsetr]; rfl
        · rw [hset r' hr]; exact h.1
      · rw [hroot r' c' hno] at hr
        obtain ⟨a, b, d, v0, e, f⟩ := h.2 l p hr
        exact ⟨a, b, d, v0, hrootV r' c' v0 hno e, rvPath_mono hI.cell_ f⟩
  -- the views of the new cells
  have hnewV : ∀ (i : Nat) x u, (news.map K)[i]? = some x → us[i]? = some u → ViewC S2 vs w φ x u := by
    intro i x u hx hu
    rw [List.getElem?_map] at hx
    cases hc : news[i]? with
    | none => rw [hc] at hx; cases hx
    | some y =>
      rw [hc] at hx
      injection hx with hx
      subst hx
      have h1 := hview i y u hc hu
      have h2 := (strikes_box r c news.length).viewC (h := fun r' c' path => r' == r && decide (c ≤ c') && decide (c' < c + news.length) && !path.isEmpty) h1
      have h3 : ViewC S2 vs w φ y u := by rw [← hS2]; exact h2
      exact hK.viewF h3
  have hboxV : ∀ (i : Nat) x u, (cs.map K)[i]? = some x → arr.toList[i]? = some u → ViewC S2 vs w φ x u := by
    intro i x u hx hu
    have := hs2.views r _ hv
    rw [hSr] at this
    exact this ⟨g, 0, none⟩ arr T (0, 0) rfl hheap i x u hx (by simpa using hu)
  have hcsV := ViewsL.lay_ (S := S2) (vs := vs) (w := w) (φ := φ) (by rw [hcs.length]) (by rw [hn2.length]) hboxV hnewV hl
  refine h5 w' φ (.box cs') (g :: b') hand ?_ ⟨g, _, T, b', rfl, hheap', hφ, ?_, rfl⟩ (fun x => ?_) (fun t u hu => ?_) hI.size (fun b k1 k2 => ?_) hI.os
  · exact h3.mono hO (fun b k u k1 k2 => hI.cell_ b k u k1 k2) fun b hb => hI.heap b fun e => hb0 (e ▸ hb)
  · have := CellsR.mono hO (fun b k u k1 k2 => hI.cell_ b k u k1 k2) (fun b hb => hI.heap b fun e => hb'g (e ▸ hb)) hcs'
    simpa using this
  · have := hb' x
    simp only [List.count_cons, List.count_append]
    omega
  · by_cases ht : t = r
    · subst ht
      rw [hv] at hu
      injection hu with hu
      subst hu
      rw [hsetr]
      intro a arr' e fr hp hh i x u hx hu'
      injection hp with hp
      injection hp with hp
      subst hp
      rw [hheap'] at hh
      simp at hh
      obtain ⟨rfl, _⟩ := hh
      have hu2 : (arr.toList.take c ++ us ++ arr.toList.drop (c + us.length))[i]? = some u := by simpa using hu'
      refine hVC x u ?_ (hcsV i x u hx hu2)
      rcases lay_mem hl (List.mem_of_getElem? hx) with hm | hm
      · obtain ⟨y, _, rfl⟩ := List.mem_map.1 hm
        rw [← hKd]; exact noReg_kill _ c _ y
      · obtain ⟨y, _, rfl⟩ := List.mem_map.1 hm
        rw [← hKd]; exact noReg_kill _ c _ y
    · rw [hset t ht]
      have hold := hs2.views t u hu
      have hshape := hg2 t
      cases hSt : S2.g t with
      | one x =>
        rw [hSt] at hold
        refine hVC x u ?_ hold
        rw [hSt] at hshape
        cases hS0 : S.g t <;> rw [hS0] at hshape <;> simp only [mapTV] at hshape
        · injection hshape with hshape; subst hshape; exact noReg_kill r c _ _
        all_goals (first | (split at hshape <;> cases hshape) | cases hshape)
      | agg xs =>
        rw [hSt] at hold hshape
        intro arr' e i x u' hx hu'
        refine hVC x u' ?_ (hold arr' e i x u' hx hu')
        cases hS0 : S.g t <;> rw [hS0] at hshape <;> simp only [mapTV] at hshape
        case agg ys =>
          injection hshape with hshape
          subst hshape
          obtain ⟨y, _, rfl⟩ := List.mem_map.1 (List.mem_of_getElem? hx)
          exact noReg_kill r c _ y
        all_goals (first | (split at hshape <;> cases hshape) | cases hshape)
      | box xs =>
        rw [hSt] at hold hshape
        intro a arr' e fr hp hh i x u' hx hu'
        subst hp
        have hne := hother t xs a ht hSt hu
        rw [(hI.heap a.block hne).1] at hh
        refine hVC x u' ?_ (hold a arr' e fr rfl hh i x u' hx hu')
        cases hS0 : S.g t <;> rw [hS0] at hshape <;> simp only [mapTV] at hshape
        case box ys =>
          injection hshape with hshape
          subst hshape
          obtain ⟨y, _, rfl⟩ := List.mem_map.1 (List.mem_of_getElem? hx)
          exact noReg_kill r c _ y
        all_goals (first | (split at hshape <;> cases hshape) | cases hshape)
      | place r' c' path =>
        rw [hSt] at hold hshape
        rcases hold with ⟨rfl, csx, gx, e1, e2, rfl⟩ | ⟨pre, s, i, j, rfl, k1, k2⟩
        · refine .inl ⟨rfl, ?_⟩
          by_cases hr : r' = r
          · subst hr
            rw [hv] at e2
            injection e2 with e2
            injection e2 with e2
            injection e2 with e2
            simp at e2
            exact ⟨cs', g, hsetr, hv, by rw [e2]⟩
          · exact ⟨csx, gx, by rw [hset r' hr]; exact e1, e2, rfl⟩
        · have hno : ¬ (r' = r ∧ c ≤ c' ∧ c' < c + news.length) := by
            cases hS0 : S.g t <;> rw [hS0] at hshape <;> simp only [mapTV] at hshape
            case place r0 c0 p0 =>
              split at hshape
              · cases hshape
              · rename_i hcond
                injection hshape with e1 e2 e3
                subst e1; subst e2; subst e3
                intro hk
                apply hcond
                simp [hk.1, hk.2.1, hk.2.2]
            all_goals (first | (split at hshape <;> cases hshape) | cases hshape)
          refine .inr ⟨pre, s, i, j, rfl, ?_, fun l p hr => ?_⟩
          · by_cases hr : r' = r
            · subst hr; rw [hsetr]; rfl
            · rw [hset r' hr]; exact k1
          · rw [hroot r' c' hno] at hr
            obtain ⟨a, b, d, v0, gg, oo, n, cap, e, f, f'⟩ := k2 l p hr
            exact ⟨a, b, d, v0, gg, oo, n, cap, hrootV r' c' v0 hno e, rvPath_mono hI.cell_ f, f'⟩
      | ep l row off => trivial
      | tup ts => rw [hSt] at hold; exact hold
      | undef => trivial
      | dead => trivial
  · exact hI.heap b fun e => by
      subst e
      rcases hgown.2 with q | q
      · omega
      · exact k2 q
end
end Go.Proofs.Ytkiliooegoldoaa

/- A store into a slice of one's own: the root. -/
set_option linter.unusedVariables false
set_option linter.unusedSimpArgs false
namespace Go.Proofs.Ytkiliooegoldoaa
open Go

section
variable {P : Program} {ρ : Operand → Value} {o : Oper} {E : Env} {S S' : St} {vs : List Value} {w : World} {φ : Nat → Nat} {bs hand : List Nat} {d : Option Nat}

theorem RowsR.split_ {lev ps qs us b} (h : RowsR E w φ lev (ps ++ qs) us b) : ∃ u1 u2 b1 b2, us = u1 ++ u2 ∧ b = b1 ++ b2 ∧ RowsR E w φ lev ps u1 b1 ∧ RowsR E w φ lev qs u2 b2 := by
  have rd : ∀ {ok : Nat → Nat → Prop}, RdL w ok (ps ++ qs) us → RdL w ok ps (us.take ps.length) ∧ RdL w ok qs (us.drop ps.length) := by
    intro ok h
    have h1 := h.take_ ps.length
    have h2 := h.drop_ ps.length
    simp at h1 h2
    exact ⟨h1, h2⟩
  cases lev with
  | deep => exact OwL.split_ h
  | _ =>
    obtain ⟨h1, h2⟩ := rd h.1
    exact ⟨_, _, [], [], (List.take_append_drop _ us).symm, by rw [h.2]; rfl, ⟨h1, rfl⟩, ⟨h2, rfl⟩⟩

/-- One row's cells turned, among all the rows' cells. -/
theorem rowSet_flatten {sz : Nat} {xs : List (List PV)} (hu : ∀ r ∈ xs, r.length = sz) {i j : Nat} {row news : List PV} (hi : xs[i]? = some row) (hl : j + news.length ≤ row.length) :
    (xs.set i (rowSet row j news)).flatten = xs.flatten.take (i * sz + j) ++ news ++ xs.flatten.drop (i * sz + j + news.length) ∧ i * sz + j + news.length ≤ xs.flatten.length ∧ (rowSet row j news).length = sz := by
  have hlt := (List.getElem?_eq_some_iff.1 hi).1
  have hr := hu row (List.mem_of_getElem? hi)
  have hle : i * sz + sz ≤ xs.length * sz := by rw [← Nat.succ_mul]; exact Nat.mul_le_mul_right _ hlt
  have hfl := flatten_len hu
  have hrow : (xs.flatten.drop (i * sz)).take sz = row := by
    apply List.ext_getElem?
    intro k
    rw [drop_take_get]
    split
    · cases hq : row[k]? with
      | none => have := List.getElem?_eq_none_iff.1 hq; omega
      | some q => exact flatten_get hu hi hq
    · rw [List.getElem?_eq_none (by omega)]
  refine ⟨?_, by omega, by simp [rowSet]; omega⟩
  rw [rows_flatten_set hu hlt]
  unfold rowSet
  have e1 : xs.flatten.take (i * sz + j) = xs.flatten.take (i * sz) ++ row.take j := by
    rw [List.take_add, ← hrow, List.take_take, Nat.min_eq_left (by omega)]
  have e2 : xs.flatten.drop (i * sz + j + news.length) = row.drop (j + news.length) ++ xs.flatten.drop (i * sz + sz) := by
    rw [← hrow, List.drop_take, List.drop_drop]
    have : sz - (j + news.length) + (i * sz + (j + news.length)) = i * sz + sz := by omega
    rw [← Nat.add_assoc]
    have h3 := List.take_append_drop (sz - (j + news.length)) (xs.flatten.drop (i * sz + j + news.length))
    rw [List.drop_drop] at h3
    rw [show i * sz + j + news.length + (sz - (j + news.length)) = i * sz + sz from by omega] at h3
    exact h3.symm
  rw [e1, e2]
  simp [List.append_assoc]

/-- The rows of a slice of one's own, some cells turned. -/
theorem OwnS.write {l : Lev} {s i j n cap g off : Nat} {xs : List (List PV)} {row news : List PV} {us : List Value} {b bn : List Nat} (h : OwnS E w φ l s xs (.slice (some ⟨g, off, none⟩) n cap) b) (hi : xs[i]? = some row)
    (hl : j + news.length ≤ row.length) (hn : RowsR E w φ l news us bn) (hcnt : ∀ x, b.count x + bn.count x ≤ 1) (hown : ∀ x ∈ b, E.w0.heap.size ≤ x ∨ x ∈ E.lin) (hll : l = .deep ∨ l = .oldR) :
    off = 0 ∧ g ∈ b ∧ ∃ cur T, w.heap[g]? = some (.cells cur T (0, 0)) ∧ i * s + j + us.length ≤ cur.size ∧
      ∀ w', w' = w.setRow g (cur.toList.take (i * s + j) ++ us ++ cur.toList.drop (i * s + j + us.length)).toArray →
        ∃ b', OwnS E w' φ l s (xs.set i (rowSet row j news)) (.slice (some ⟨g, off, none⟩) n cap) b' ∧ ∀ x, b'.count x ≤ b.count x + bn.count x := by
  rcases h with ⟨h, _⟩ | ⟨g', n', c', cur, T, b1, hp, rfl, a1, a2, a3, a4, a5, a6, a7⟩
  · cases h
  · injection hp with hp hn' hc'
    simp at hp
    obtain ⟨rfl, rfl⟩ := hp
    subst hn'; subst hc'
    obtain ⟨f1, f2, f3⟩ := rowSet_flatten a3 hi hl
    have hlen := hn.length
    have hfl := flatten_len a3
    rw [a1] at hfl
    have hcap : n * s ≤ cap * s := Nat.mul_le_mul_right _ a2
    refine ⟨rfl, by simp, cur, T, a4, by omega, fun w' hw' => ?_⟩
    have hg1 : g ∉ b1 := fun hm => by
      have a := hcnt g; have c := List.count_pos_iff.2 hm
      rw [List.count_cons] at a; simp at a; omega
    have hgn : g ∉ bn := fun hm => by
      have a := hcnt g; have c := List.count_pos_iff.2 hm
      rw [List.count_cons] at a; simp at a; omega
    have hgO := hown g (by simp)
    have hoth : ∀ x, x ≠ g → w'.heap[x]? = w.heap[x]? := fun x hx => by rw [hw']; exact setRow_other w g x _ hx
    have hO : ∀ y k u, E.okO y k → w.cell? ⟨y, k, none⟩ = some u → w'.cell? ⟨y, k, none⟩ = some u := by
      intro y k u ⟨h1, h2, _⟩ hc
      have hy : y ≠ g := by
        rintro rfl
        rcases hgO with q | q
        · omega
        · exact h2 q
      exact (World.cell?_of_block (w := w) (a := ⟨y, k, none⟩) (hoth y hy)).trans hc
    -- the rows move to the new world; only old ones are read
    have mv : ∀ {ps us b}, g ∉ b → RowsR E w φ l ps us b → RowsR E w' φ l ps us b := by
      intro ps us b hgb hr
      rcases hll with rfl | rfl
      · exact OwL.mono hr fun x hx => ⟨hoth x fun e => hgb (e ▸ hx), rfl⟩
      · exact ⟨hr.1.mono fun y k u q1 q2 => ⟨q1, hO y k u q1 q2⟩, hr.2⟩
    have e0 : xs.flatten = xs.flatten.take (i * s + j) ++ ((xs.flatten.drop (i * s + j)).take news.length ++ xs.flatten.drop (i * s + j + news.length)) := by
      have split3 : ∀ (l : List PV) (a b : Nat), l = l.take a ++ ((l.drop a).take b ++ l.drop (a + b)) := fun l a b => by
        rw [← List.drop_drop, List.take_append_drop, List.take_append_drop]
      exact split3 _ _ _
    rw [e0] at a7
    obtain ⟨u1, u2, c1, c2, hu, rfl, h1, h2⟩ := a7.split_
    obtain ⟨u3, u4, c3, c4, hu', rfl, h3, h4⟩ := h2.split_
    have l1 := h1.length
    have l3 := h3.length
    simp only [List.length_take, List.length_drop] at l1 l3
    obtain ⟨q1, q2⟩ := split_len hu (n := i * s + j) (by omega)
    obtain ⟨q3, q4⟩ := split_len hu' (n := news.length) (by omega)
    simp only [List.mem_append, not_or] at hg1
    have m1 := mv hg1.1 h1
    have m2 := mv hgn hn
    have m3 := mv hg1.2.2 h4
    have hall := (m1.append_ m2).append_ m3
    rw [← f1] at hall
    refine ⟨g :: (c1 ++ bn ++ c4), .inr ⟨g, n, cap, _, T, c1 ++ bn ++ c4, rfl, rfl, by simp [a1], a2, fun r hr => ?_, by rw [hw']; exact setRow_heap w g cur _ T (0, 0) a4, ?_, a6, ?_⟩, fun x => ?_⟩
    · rcases List.mem_or_eq_of_mem_set hr with hr | rfl
      · exact a3 r hr
      · exact f3
    · simp
      omega
    · have e1 : (cur.toList.take (i * s + j) ++ us ++ cur.toList.drop (i * s + j + us.length)).take (n * s) = u1 ++ us ++ u4 := by
        have p1 : u1 = cur.toList.take (i * s + j) := by rw [q1, List.take_take, Nat.min_eq_left (by omega)]
        have p4 : u4 = (cur.toList.drop (i * s + j + us.length)).take (n * s - (i * s + j + us.length)) := by
          rw [q4, q2, List.drop_drop, List.drop_take, hlen]
        rw [p1, p4, List.append_assoc, List.append_assoc, List.take_append, List.take_append]
        have hl1 : (cur.toList.take (i * s + j)).length = i * s + j := by simp; omega
        rw [hl1, List.take_take, Nat.min_eq_right (by omega), List.take_of_length_le (l := us) (by omega)]
        congr 3
        omega
      show RowsR E w' φ l _ ((cur.toList.take (i * s + j) ++ us ++ cur.toList.drop (i * s + j + us.length)).take (n * s)) _
      rw [e1]
      exact hall
    · simp only [List.count_cons, List.count_append]
      omega
end
end Go.Proofs.Ytkiliooegoldoaa

/- A store into a slice of one's own. -/
set_option linter.unusedVariables false
set_option linter.unusedSimpArgs false
namespace Go.Proofs.Ytkiliooegoldoaa
open Go

section
variable {P : Program} {ρ : Operand → Value} {o : Oper} {E : Env} {S S' : St} {vs : List Value} {w : World} {φ : Nat → Nat} {bs hand : List Nat} {d : Option Nat}

theorem rootWrite {l : Lev} {p : PV} {pre : Path} {s i j n cap g off : Nat} {xs : List (List PV)} {row news : List PV} {us : List Value} {v0 : Value} {b bn : List Nat}
    (h : CellR E w φ (.val l p) v0 b) (hp : pget p pre = some (.sl s xs)) (hv : rvPath w φ v0 pre = some (.slice (some ⟨g, off, none⟩) n cap)) (hi : xs[i]? = some row)
    (hl : j + news.length ≤ row.length) (hn : RowsR E w φ l news us bn) (hcnt : ∀ x, b.count x + bn.count x ≤ 1) (hown : ∀ x ∈ b, E.w0.heap.size ≤ x ∨ x ∈ E.lin) (hll : l = .deep ∨ (l = .oldR ∧ pre = [])) :
    off = 0 ∧ g ∈ b ∧ ∃ cur T, w.heap[g]? = some (.cells cur T (0, 0)) ∧ i * s + j + us.length ≤ cur.size ∧
      ∀ w', w' = w.setRow g (cur.toList.take (i * s + j) ++ us ++ cur.toList.drop (i * s + j + us.length)).toArray →
        ∃ b', CellR E w' φ (.val l (prep p pre (.sl s (xs.set i (rowSet row j news))))) v0 b' ∧ (∀ x, b'.count x ≤ b.count x + bn.count x) ∧
          ∀ path', pfx path' pre = true → rvPath w' φ v0 path' = rvPath w φ v0 path' := by
  rcases hll with rfl | ⟨rfl, rfl⟩
  · have h' : OwL w φ [p] [v0] b := h
    obtain ⟨bq, br, k1, k2, k3⟩ := h'.ctx hp hv
    have ho : OwnS E w φ .deep s xs (.slice (some ⟨g, off, none⟩) n cap) bq := (ownS_iff rfl).1 k1
    obtain ⟨e0, hg, cur, T, m1, m2, m3⟩ := ho.write hi hl hn (fun x => by have := k2 x; have := hcnt x; omega) (fun x hx => hown x (mem_of_count (by have := k2 x; have := List.count_pos_iff.2 hx; omega))) (.inl rfl)
    refine ⟨e0, mem_of_count (by have := k2 g; have := List.count_pos_iff.2 hg; omega), cur, T, m1, m2, fun w' hw' => ?_⟩
    obtain ⟨bq', q1, q2⟩ := m3 w' hw'
    have hgbr : g ∉ br := fun hm => by
      have a := k2 g; have b := hcnt g; have c := List.count_pos_iff.2 hm; have d := List.count_pos_iff.2 hg
      omega
    obtain ⟨bs', r1, r2, r3⟩ := k3 w' φ _ bq' (fun x hx => ⟨by rw [hw']; exact setRow_other w g x _ fun e => hgbr (e ▸ hx), rfl⟩) ((ownS_iff (E := E) rfl).2 q1)
    exact ⟨bs', r1, fun x => by have := r2 x; have := q2 x; have := k2 x; omega, r3⟩
  · simp only [pget, Option.some.injEq] at hp
    simp only [rvPath, Option.some.injEq] at hv
    subst hp; subst hv
    obtain ⟨e0, hg, cur, T, m1, m2, m3⟩ := ((ownS_iff rfl).1 h).write hi hl hn hcnt hown (.inr rfl)
    refine ⟨e0, hg, cur, T, m1, m2, fun w' hw' => ?_⟩
    obtain ⟨b', q1, q2⟩ := m3 w' hw'
    refine ⟨b', (ownS_iff (E := E) rfl).2 q1, q2, fun path' hp => ?_⟩
    cases path' with
    | nil => rfl
    | cons _ _ => simp [pfx] at hp

/-! ### What stands once a slice has been written -/
section kill
variable {w' : World} (r c : Nat) (k : Path)

theorem killC_world (hO : ∀ g k u, E.okO g k → w.cell? ⟨g, k, none⟩ = some u → w'.cell? ⟨g, k, none⟩ = some u) {x : Cell} {v : Value} {b : List Nat} (hown : ∀ g ∈ b, w'.heap[g]? = w.heap[g]?) (h : CellR E w φ x v b) :
    ∃ b', CellR E w' φ (killElemC r c k x) v b' ∧ ∀ g, b'.count g ≤ b.count g := by
  cases x with
  | view r' c' path' =>
    simp only [killElemC]
    split
    · exact ⟨[], rfl, fun g => by simp⟩
    · exact ⟨b, h, fun g => Nat.le_refl _⟩
  | dead => exact ⟨b, h, fun g => Nat.le_refl _⟩
  | val l p =>
    simp only [killElemC]
    split
    case isFalse => exact ⟨[], rfl, fun g => by simp⟩
    rename_i hc
    refine ⟨b, ?_, fun g => Nat.le_refl _⟩
    by_cases hf : p.flat = true
    · cases l with
      | old => exact ⟨(RdL.flat_ h.1 hf w' _ φ).1, h.2⟩
      | bor => exact ⟨(RdL.flat_ h.1 hf w' _ φ).1, h.2⟩
      | deep => exact OwL.mono h fun g hg => ⟨hown g hg, rfl⟩
      | oldR => exact absurd h.not_flat (by simp [hf])
      | borR => exact absurd h.not_flat (by simp [hf])
    · have hb : isBorrow l = false := by
        cases hi : isBorrow l with
        | false => rfl
        | true => simp [hi, hf] at hc
      cases l with
      | bor => cases hb
      | borR => cases hb
      | old => exact ⟨h.1.mono fun g k u h1 h2 => ⟨h1, hO g k u h1 h2⟩, h.2⟩
      | deep => exact OwL.mono h fun g hg => ⟨hown g hg, rfl⟩
      | oldR =>
        obtain ⟨sz, xs, rfl, h | ⟨g, n, c, cur, e, rfl, rfl, a, b, hr, d, es, f, hrd⟩⟩ := h
        · exact ⟨sz, xs, rfl, .inl h⟩
        · have hg := hown g (by simp)
          exact ⟨sz, xs, rfl, .inr ⟨g, n, c, cur, e, rfl, rfl, a, b, hr, hg.trans d, es, f, hrd.mono fun g k u h1 h2 => ⟨h1, hO g k u h1 h2⟩⟩⟩

theorem killCs_world (hO : ∀ g k u, E.okO g k → w.cell? ⟨g, k, none⟩ = some u → w'.cell? ⟨g, k, none⟩ = some u) : ∀ {xs : List Cell} {us : List Value} {b : List Nat}, (∀ g ∈ b, w'.heap[g]? = w.heap[g]?) → CellsR E w φ xs us b →
    ∃ b', CellsR E w' φ (xs.map (killElemC r c k)) us b' ∧ ∀ g, b'.count g ≤ b.count g := by
  intro xs
  induction xs with
  | nil => intro us b _ h; exact ⟨[], ⟨h.1, rfl⟩, fun g => by simp⟩
  | cons x xs ih =>
    intro us b hown h
    obtain ⟨u, us', b1, b2, rfl, rfl, hc, h⟩ := h
    obtain ⟨c1, k1, k2⟩ := killC_world r c k hO (fun g hg => hown g (by simp [hg])) hc
    obtain ⟨c2, m1, m2⟩ := ih (fun g hg => hown g (by simp [hg])) h
    exact ⟨c1 ++ c2, ⟨u, us', c1, c2, rfl, rfl, k1, m1⟩, fun g => by have := k2 g; have := m2 g; simp only [List.count_append]; omega⟩

theorem killTup_world (hO : ∀ g k u, E.okO g k → w.cell? ⟨g, k, none⟩ = some u → w'.cell? ⟨g, k, none⟩ = some u) : ∀ {xs : List (Bool × List Cell)} {us : List Value} {b : List Nat}, (∀ g ∈ b, w'.heap[g]? = w.heap[g]?) → TupR E w φ xs us b →
    ∃ b', TupR E w' φ (xs.map fun x => (x.1, x.2.map (killElemC r c k))) us b' ∧ ∀ g, b'.count g ≤ b.count g := by
  intro xs
  induction xs with
  | nil => intro us b _ h; exact ⟨[], ⟨h.1, rfl⟩, fun g => by simp⟩
  | cons x xs ih =>
    intro us b hown h
    obtain ⟨u, us', b1, b2, rfl, rfl, hc, h⟩ := h
    obtain ⟨c2, m1, m2⟩ := ih (fun g hg => hown g (by simp [hg])) h
    split at hc <;> rename_i hx
    · obtain ⟨arr, rfl, hc⟩ := hc
      obtain ⟨c1, k1, k2⟩ := killCs_world r c k hO (fun g hg => hown g (by simp [hg])) hc
      exact ⟨c1 ++ c2, ⟨_, us', c1, c2, rfl, rfl, by rw [if_pos hx]; exact ⟨arr, rfl, k1⟩, m1⟩, fun g => by have := k2 g; have := m2 g; simp only [List.count_append]; omega⟩
    · obtain ⟨c1, k1, k2⟩ := killCs_world r c k hO (fun g hg => hown g (by simp [hg])) hc
      exact ⟨c1 ++ c2, ⟨_, us', c1, c2, rfl, rfl, by rw [if_neg hx]; exact k1, m1⟩, fun g => by have := k2 g; have := m2 g; simp only [List.count_append]; omega⟩

theorem killTV_world (hO : ∀ g k u, E.okO g k → w.cell? ⟨g, k, none⟩ = some u → w'.cell? ⟨g, k, none⟩ = some u) (h : Nat → Nat → Path → Bool) {tv : TV} {v : Value} {b : List Nat} (hown : ∀ g ∈ b, w'.heap[g]? = w.heap[g]?) (hv : TVR E w φ tv v b) :
    ∃ b', TVR E w' φ (mapTV (killElemC r c k) h true tv) v b' ∧ ∀ g, b'.count g ≤ b.count g := by
  cases tv with
  | one x => exact killC_world r c k hO hown hv
  | agg xs =>
    obtain ⟨arr, rfl, hv⟩ := hv
    obtain ⟨b', k1, k2⟩ := killCs_world r c k hO hown hv
    exact ⟨b', ⟨arr, rfl, k1⟩, k2⟩
  | box xs =>
    obtain ⟨g, arr, e, b1, rfl, hg, hf, hv, rfl⟩ := hv
    obtain ⟨b', k1, k2⟩ := killCs_world r c k hO (fun g hg => hown g (by simp [hg])) hv
    exact ⟨g :: b', ⟨g, arr, e, b', rfl, (hown g (by simp)).trans hg, hf, k1, rfl⟩, fun x => by have := k2 x; simp only [List.count_cons]; omega⟩
  | place r' c' path =>
    simp only [mapTV]
    split
    · exact ⟨[], rfl, fun g => by simp⟩
    · exact ⟨b, hv, fun g => Nat.le_refl _⟩
  | ep l row off =>
    simp only [mapTV]
    split
    · exact ⟨[], rfl, fun g => by simp⟩
    · rename_i hl
      have hl : l = .old := by cases l <;> simp at hl ⊢
      subst hl
      obtain ⟨rfl, g, o, cvs, rfl, h1, h2⟩ := hv
      exact ⟨[], ⟨rfl, g, o, cvs, rfl, fun k u hk => ⟨(h1 k u hk).1, hO _ _ _ (h1 k u hk).1 (h1 k u hk).2⟩, h2.mono fun g k u a b => ⟨a, hO g k u a b⟩⟩, fun g => by simp⟩
  | tup ts =>
    obtain ⟨arr, rfl, hv⟩ := hv
    obtain ⟨b', k1, k2⟩ := killTup_world r c k hO hown hv
    exact ⟨b', ⟨arr, rfl, k1⟩, k2⟩
  | undef => exact ⟨b, hv, fun g => Nat.le_refl _⟩
  | dead => exact ⟨b, hv, fun g => Nat.le_refl _⟩

theorem killTVs_world (hO : ∀ g k u, E.okO g k → w.cell? ⟨g, k, none⟩ = some u → w'.cell? ⟨g, k, none⟩ = some u) (h : Nat → Nat → Path → Bool) : ∀ {S : St} {us : List Value} {b : List Nat}, (∀ g ∈ b, w'.heap[g]? = w.heap[g]?) → TVsR E w φ S us b →
    ∃ b', TVsR E w' φ (S.map (mapTV (killElemC r c k) h true)) us b' ∧ ∀ g, b'.count g ≤ b.count g := by
  intro S
  induction S with
  | nil => intro us b _ h; exact ⟨[], ⟨h.1, rfl⟩, fun g => by simp⟩
  | cons x xs ih =>
    intro us b hown hv
    obtain ⟨u, us', b1, b2, rfl, rfl, hc, hv⟩ := hv
    obtain ⟨c1, k1, k2⟩ := killTV_world r c k hO h (fun g hg => hown g (by simp [hg])) hc
    obtain ⟨c2, m1, m2⟩ := ih (fun g hg => hown g (by simp [hg])) hv
    exact ⟨c1 ++ c2, ⟨u, us', c1, c2, rfl, rfl, k1, m1⟩, fun g => by have := k2 g; have := m2 g; simp only [List.count_append]; omega⟩
end kill

/-- A root's cell, and the blocks that are its own. -/
theorem SR.rootOwn (hs : SR E S vs w φ bs hand) {r c : Nat} {l : Lev} {p : PV} {v : Value} (hc : rootCell S r c = .val l p) (hv : rootV S vs w r c = some v) :
    ∃ b, CellR E w φ (.val l p) v b ∧ ∀ g, b.count g ≤ bs.count g := by
  unfold rootCell at hc
  unfold rootV at hv
  cases hS : S.g r <;> rw [hS] at hc hv <;> (try dsimp only at hc hv)
  case one x =>
    obtain ⟨u, hu⟩ := hs.lt (t := r) (by rw [hS]; simp)
    obtain ⟨bt, br, h1, h2, _⟩ := hs.tvs.get hu
    rw [hS] at h1
    rw [hu] at hv
    split at hc
    case isFalse => cases hc
    rename_i h0
    subst h0
    subst hc
    simp at hv
    subst hv
    exact ⟨bt, h1, fun g => by have := h2 g; omega⟩
  case agg cs =>
    obtain ⟨u, hu⟩ := hs.lt (t := r) (by rw [hS]; simp)
    obtain ⟨bt, br, h1, h2, _⟩ := hs.tvs.get hu
    rw [hS] at h1
    rw [hu] at hv
    obtain ⟨arr, rfl, h1⟩ := h1
    dsimp only at hv
    rw [List.getD_eq_getElem?_getD] at hc
    cases hcc : cs[c]? with
    | none => rw [hcc] at hc; cases hc
    | some x =>
      rw [hcc] at hc
      have hc : x = .val l p := hc
      subst hc
      obtain ⟨v', b1, b2, k1, k2, k3, _⟩ := h1.get hcc
      have : v' = v := by
        rw [Array.getElem?_toList, hv] at k1
        injection k1 with k1
        exact k1.symm
      subst this
      exact ⟨b1, k2, fun g => by have := h2 g; have := k3 g; omega⟩
  case box cs =>
    obtain ⟨u, hu⟩ := hs.lt (t := r) (by rw [hS]; simp)
    obtain ⟨bt, br, h1, h2, _⟩ := hs.tvs.get hu
    rw [hS] at h1
    rw [hu] at hv
    obtain ⟨g, arr, e, b0, rfl, hg, hf, h1, rfl⟩ := h1
    dsimp only at hv
    rw [cell_of_heap hg] at hv
    rw [List.getD_eq_getElem?_getD] at hc
    cases hcc : cs[c]? with
    | none => rw [hcc] at hc; cases hc
    | some x =>
      rw [hcc] at hc
      have hc : x = .val l p := hc
      subst hc
      obtain ⟨v', b1, b2, k1, k2, k3, _⟩ := h1.get hcc
      have : v' = v := by
        rw [Array.getElem?_toList, hv] at k1
        injection k1 with k1
        exact k1.symm
      subst this
      exact ⟨b1, k2, fun x => by have := h2 x; have := k3 x; rw [List.count_cons] at *; omega⟩
  all_goals cases hc
end
end Go.Proofs.Ytkiliooegoldoaa

/- A store into a slice of one's own: the whole state. -/
set_option linter.unusedVariables false
set_option linter.unusedSimpArgs false
namespace Go.Proofs.Ytkiliooegoldoaa
open Go

section
variable {P : Program} {ρ : Operand → Value} {o : Oper} {E : Env} {S S' : St} {vs : List Value} {w : World} {φ : Nat → Nat} {bs hand : List Nat} {d : Option Nat}

theorem St.ext1 {S T : St} (hl : S.length = T.length) (h : ∀ t, S.g t = T.g t) : S = T := by
  apply List.ext_getElem?
  intro i
  have := h i
  unfold St.g at this
  rw [List.getD_eq_getElem?_getD, List.getD_eq_getElem?_getD] at this
  by_cases hi : i < S.length
  · rw [List.getElem?_eq_getElem hi, List.getElem?_eq_getElem (by omega)] at this ⊢
    simpa using this
  · rw [List.getElem?_eq_none (by omega), List.getElem?_eq_none (by omega)]

theorem killC_val {r c k x l p} (h : killElemC r c k x = .val l p) : x = .val l p ∧ (p.flat = true ∨ isBorrow l = false) := by
  cases x with
  | val l' p' =>
    simp only [killElemC] at h
    split at h
    · rename_i hc
      injection h with h1 h2
      subst h1; subst h2
      refine ⟨rfl, ?_⟩
      simpa using hc
    · cases h
  | view r' c' path => simp only [killElemC] at h; split at h <;> cases h
  | dead => cases h

theorem killRootCell {r c k h} {r' c' : Nat} {l p} (e : rootCell (S.map (mapTV (killElemC r c k) h true)) r' c' = .val l p) : rootCell S r' c' = .val l p ∧ (p.flat = true ∨ isBorrow l = false) := by
  unfold rootCell at e ⊢
  rw [g_map rfl] at e
  cases hS : S.g r' <;> rw [hS] at e <;> simp only [mapTV] at e ⊢
  case one x =>
    split at e
    · rename_i h0; rw [if_pos h0]; exact killC_val (k := k) e
    · cases e
  case agg cs =>
    rw [List.getD_eq_getElem?_getD, List.getElem?_map] at e
    rw [List.getD_eq_getElem?_getD]
    cases hc : cs[c']? with
    | none => rw [hc] at e; cases e
    | some x => rw [hc] at e; exact killC_val (k := k) e
  case box cs =>
    rw [List.getD_eq_getElem?_getD, List.getElem?_map] at e
    rw [List.getD_eq_getElem?_getD]
    cases hc : cs[c']? with
    | none => rw [hc] at e; cases e
    | some x => rw [hc] at e; exact killC_val (k := k) e
  case place r0 c0 path => by_cases hh : h r0 c0 path = true <;> simp [hh] at e
  case ep l0 row off => by_cases hh : (true && (l0 != Lev.old)) = true <;> simp at hh <;> simp [hh] at e
  all_goals cases e

theorem killRootish {r c k x} (h : rootishC x = true) : rootishC (killElemC r c k x) = true := by
  cases x with
  | val l p =>
    simp only [killElemC]
    split
    · exact h
    · rfl
  | view r' c' path => cases h
  | dead => rfl

theorem killRootishTV {r c k h tv} (e : rootish tv = true) : rootish (mapTV (killElemC r c k) h true tv) = true := by
  cases tv with
  | one x => exact killRootish e
  | agg cs =>
    simp only [mapTV, rootish, List.any_eq_true, List.mem_map] at e ⊢
    obtain ⟨x, hx, e⟩ := e
    exact ⟨_, ⟨x, hx, rfl⟩, killRootish e⟩
  | box cs => rfl
  | _ => simp [rootish] at e

theorem prep_flat {p : PV} {pre : Path} {s : Nat} {xs ys : List (List PV)} (h : pget p pre = some (.sl s xs)) : (prep p pre (.sl s ys)).flat = false := by
  cases pre with
  | nil => rfl
  | cons x t =>
    obtain ⟨s0, i0, j0⟩ := x
    cases p with
    | sl sz zs =>
      simp only [prep]
      split
      · split <;> rfl
      · rfl
    | _ => simp [pget] at h

theorem storeElem {r c : Nat} {l : Lev} {p : PV} {pre : Path} {s i j n cap g off : Nat} {xs : List (List PV)} {row news : List PV} {us : List Value} {v0 : Value} {bn : List Nat}
    (hs : SR E S vs w φ bs (bn ++ hand)) (hc : rootCell S r c = .val l p) (hv0 : rootV S vs w r c = some v0)
    (hp : pget p pre = some (.sl s xs)) (hv : rvPath w φ v0 pre = some (.slice (some ⟨g, off, none⟩) n cap)) (hi : xs[i]? = some row)
    (hl : j + news.length ≤ row.length) (hn : RowsR E w φ l news us bn) (hll : l = .deep ∨ (l = .oldR ∧ pre = [])) :
    off = 0 ∧ ∃ cur T, w.heap[g]? = some (.cells cur T (0, 0)) ∧ i * s + j + us.length ≤ cur.size ∧
      ∃ bs', SR E (setRoot (killElem r c pre S) r c (.val l (prep p pre (.sl s (xs.set i (rowSet row j news)))))) vs (w.setRow g (cur.toList.take (i * s + j) ++ us ++ cur.toList.drop (i * s + j + us.length)).toArray) φ bs' hand := by
  obtain ⟨bs1, b, hs1, hroot, hweak⟩ := hs.takeRoot hc hv0
  obtain ⟨e0, hg, cur, T, m1, m2, m3⟩ := rootWrite hroot hp hv hi hl hn (fun x => by have := hs1.cnt x; simp only [List.count_append] at this; omega)
    (fun x hx => (hs1.own x (.inr (by simp [hx]))).2) hll
  refine ⟨e0, cur, T, m1, m2, ?_⟩
  obtain ⟨b', q1, q2, q3⟩ := m3 _ rfl
  have hgO : E.w0.heap.size ≤ g ∨ g ∈ E.lin := (hs1.own g (.inr (by simp [hg]))).2
  have hsz : (w.setRow g (cur.toList.take (i * s + j) ++ us ++ cur.toList.drop (i * s + j + us.length)).toArray).heap.size = w.heap.size := by simp
  have hoth : ∀ x, x ≠ g → (w.setRow g (cur.toList.take (i * s + j) ++ us ++ cur.toList.drop (i * s + j + us.length)).toArray).heap[x]? = w.heap[x]? := fun x hx => setRow_other w g x _ hx
  have hos : (w.setRow g (cur.toList.take (i * s + j) ++ us ++ cur.toList.drop (i * s + j + us.length)).toArray).os = w.os ∧ (w.setRow g (cur.toList.take (i * s + j) ++ us ++ cur.toList.drop (i * s + j + us.length)).toArray).tape = w.tape ∧ outw (w.setRow g (cur.toList.take (i * s + j) ++ us ++ cur.toList.drop (i * s + j + us.length)).toArray) = outw w := ⟨rfl, rfl, outw_setRow _ _ _⟩
  generalize w.setRow g (cur.toList.take (i * s + j) ++ us ++ cur.toList.drop (i * s + j + us.length)).toArray = w' at q1 q3 hsz hoth hos
  have hpf' : (prep p pre (.sl s (xs.set i (rowSet row j news)))).flat = false := prep_flat hp
  have hpp : ∀ path', pfx path' pre = true → ∃ z, pget (prep p pre (.sl s (xs.set i (rowSet row j news)))) path' = some z := fun path' h => pget_prep hp h
  generalize prep p pre (.sl s (xs.set i (rowSet row j news))) = p' at q1 hpf' hpp
  have hO : ∀ y k u, E.okO y k → w.cell? ⟨y, k, none⟩ = some u → w'.cell? ⟨y, k, none⟩ = some u := by
    intro y k u ⟨h1, h2, _⟩ hcc
    have hy : y ≠ g := by
      rintro rfl
      rcases hgO with q | q
      · omega
      · exact h2 q
    exact (World.cell?_of_block (w := w) (a := ⟨y, k, none⟩) (hoth y hy)).trans hcc
  have hg1 : g ∉ bs1 := fun hm => by
    have a := hs1.cnt g; have c1 := List.count_pos_iff.2 hm; have c2 := List.count_pos_iff.2 hg
    simp only [List.count_append] at a
    omega
  have hown1 : ∀ x ∈ bs1, w'.heap[x]? = w.heap[x]? := fun x hx => hoth x fun e => hg1 (e ▸ hx)
  have hwk : weakC (.val l p) = .val (borL l p) p := rfl
  have hc1 : rootCell (setRoot S r c (weakC (.val l p))) r c = .val (borL l p) p := by
    rcases hweak.rootCell r c with e | e
    · rw [hc] at e
      -- the cell that was set
      unfold rootCell at hc ⊢
      unfold setRoot
      cases hS : S.g r <;> rw [hS] at hc <;> (try dsimp only at hc ⊢)
      case one x =>
        split at hc
        · rename_i h0; rw [g_set, if_pos ⟨rfl, by obtain ⟨u, hu⟩ := hs.lt (t := r) (by rw [hS]; simp); have := (List.getElem?_eq_some_iff.1 hu).1; rw [hs.tvs.length]; exact this⟩]; simp [h0, hwk]
        · cases hc
      case agg cs =>
        rw [g_set, if_pos ⟨rfl, by obtain ⟨u, hu⟩ := hs.lt (t := r) (by rw [hS]; simp); have := (List.getElem?_eq_some_iff.1 hu).1; rw [hs.tvs.length]; exact this⟩]
        rw [List.getD_eq_getElem?_getD] at hc
        dsimp only
        cases hcc : cs[c]? with
        | none => rw [hcc] at hc; cases hc
        | some x =>
          have := (List.getElem?_eq_some_iff.1 hcc).1
          rw [List.getD_eq_getElem?_getD, List.getElem?_set, if_pos rfl, if_pos this]; rfl
      case box cs =>
        rw [g_set, if_pos ⟨rfl, by obtain ⟨u, hu⟩ := hs.lt (t := r) (by rw [hS]; simp); have := (List.getElem?_eq_some_iff.1 hu).1; rw [hs.tvs.length]; exact this⟩]
        rw [List.getD_eq_getElem?_getD] at hc
        dsimp only
        cases hcc : cs[c]? with
        | none => rw [hcc] at hc; cases hc
        | some x =>
          have := (List.getElem?_eq_some_iff.1 hcc).1
          rw [List.getD_eq_getElem?_getD, List.getElem?_set, if_pos rfl, if_pos this]; rfl
      all_goals cases hc
    · rw [hc] at e; exact e
  have hv1 : rootV (setRoot S r c (weakC (.val l p))) vs w r c = some v0 := by rw [hweak.rootV]; exact hv0
  -- the shapes at r
  have hshape : (∃ x, S.g r = .one x ∧ c = 0) ∨ (∃ cs, S.g r = .agg cs ∧ c < cs.length) ∨ (∃ cs, S.g r = .box cs ∧ c < cs.length) := by
    unfold rootCell at hc
    cases hS : S.g r <;> rw [hS] at hc <;> (try dsimp only at hc)
    case one x =>
      split at hc
      · rename_i h0; exact .inl ⟨x, rfl, h0⟩
      · cases hc
    case agg cs =>
      refine .inr (.inl ⟨cs, rfl, ?_⟩)
      rw [List.getD_eq_getElem?_getD] at hc
      cases hcc : cs[c]? with
      | none => rw [hcc] at hc; cases hc
      | some x => exact (List.getElem?_eq_some_iff.1 hcc).1
    case box cs =>
      refine .inr (.inr ⟨cs, rfl, ?_⟩)
      rw [List.getD_eq_getElem?_getD] at hc
      cases hcc : cs[c]? with
      | none => rw [hcc] at hc; cases hc
      | some x => exact (List.getElem?_eq_some_iff.1 hcc).1
    all_goals cases hc
  have hrlt : r < S.length := by
    have hd : S.g r ≠ .dead := by rcases hshape with ⟨x, e, _⟩ | ⟨x, e, _⟩ | ⟨x, e, _⟩ <;> rw [e] <;> simp
    obtain ⟨u, hu⟩ := hs.lt hd
    rw [hs.tvs.length]
    exact (List.getElem?_eq_some_iff.1 hu).1
  -- the state with the root's cell weak
  generalize hS1 : setRoot S r c (weakC (.val l p)) = S1 at hs1 hc1 hv1 hweak
  have hlen1 : S1.length = S.length := hweak.1
  have hne1 : ∀ t, t ≠ r → S1.g t = S.g t := fun t ht => by rw [← hS1]; exact g_setRoot_ne ht
  obtain ⟨bk, hk, hkc⟩ := killTVs_world (w' := w') r c pre hO (fun r' c' path' => r' == r && c' == c && !path'.isEmpty) hown1 hs1.tvs
  have hkg : ∀ t, St.g (S1.map (mapTV (killElemC r c pre) (fun r' c' path' => r' == r && c' == c && !path'.isEmpty) true)) t = mapTV (killElemC r c pre) (fun r' c' path' => r' == r && c' == c && !path'.isEmpty) true (S1.g t) := fun t => g_map rfl t
  have hkg0 : ∀ t, St.g (killElem r c pre S) t = mapTV (killElemC r c pre) (fun r' c' path' => r' == r && c' == c && !path'.isEmpty) true (S.g t) := fun t => g_map rfl t
  have hklen0 : (killElem r c pre S).length = S.length := by simp [killElem]
  have hkrc : ∀ r' c' l2 p2, rootCell (S1.map (mapTV (killElemC r c pre) (fun r' c' path' => r' == r && c' == c && !path'.isEmpty) true)) r' c' = .val l2 p2 → rootCell S1 r' c' = .val l2 p2 ∧ (p2.flat = true ∨ isBorrow l2 = false) := fun r' c' l2 p2 e => killRootCell e
  have hkrv : ∀ w2 r' c', rootV (S1.map (mapTV (killElemC r c pre) (fun r' c' path' => r' == r && c' == c && !path'.isEmpty) true)) vs w2 r' c' = rootV S1 vs w2 r' c' := fun w2 r' c' => rootV_map
  generalize hS1k : S1.map (mapTV (killElemC r c pre) (fun r' c' path' => r' == r && c' == c && !path'.isEmpty) true) = S1k at hk hkg hkrc hkrv
  have hklen : S1k.length = S.length := by rw [← hS1k]; simp [hlen1]
  -- the slot of the root
  obtain ⟨vr, hvr⟩ : ∃ vr, vs[r]? = some vr := ⟨_, List.getElem?_eq_getElem (by rw [← hs.tvs.length]; exact hrlt)⟩
  obtain ⟨bt, br, t1, t2, t3⟩ := hk.get hvr
  have key : ∃ tv3 bt3, setRoot (killElem r c pre S) r c (.val l p') = S1k.set r tv3 ∧ TVR E w' φ tv3 vr bt3 ∧ (∀ x, bt3.count x ≤ bt.count x + b'.count x) ∧ rootish tv3 = true ∧
      (∀ c', c' ≠ c → rootCell (S1k.set r tv3) r c' = rootCell S1k r c') ∧ rootCell (S1k.set r tv3) r c = .val l p' ∧ (∀ w2 c', rootV (S1k.set r tv3) vs w2 r c' = rootV S1k vs w2 r c') ∧
      (∀ cs, St.g S1k r = .box cs → ∃ cs', tv3 = .box cs') ∧
      (∀ x, (tv3 = .one x → x = .val l p') ∧ (∀ ys, tv3 = .agg ys → ∃ zs, St.g S1k r = .agg zs ∧ ys = zs.set c (.val l p')) ∧ (∀ ys, tv3 = .box ys → ∃ zs, St.g S1k r = .box zs ∧ ys = zs.set c (.val l p'))) ∧
      (∀ r' c' path', tv3 ≠ .place r' c' path') ∧ (∀ ts, tv3 ≠ .tup ts) := by
    have hsetg : ∀ tv, St.g (S1k.set r tv) r = tv := fun tv => by rw [g_set, if_pos ⟨rfl, by omega⟩]
    have heq : ∀ tv tv0, St.g (killElem r c pre S) r = tv0 → setRoot (killElem r c pre S) r c (.val l p') = (killElem r c pre S).set r tv → setRoot (killElem r c pre S) r c (.val l p') = S1k.set r tv := by
      intro tv tv0 _ e
      rw [e]
      apply St.ext1
      · simp [hklen, hklen0]
      · intro t
        rw [g_set, g_set, hklen0, hklen]
        by_cases ht : t = r
        · subst ht; rw [if_pos ⟨rfl, hrlt⟩, if_pos ⟨rfl, hrlt⟩]
        · rw [if_neg (by omega), if_neg (by omega), hkg, hkg0, hne1 t ht]
    rcases hshape with ⟨x, hS, rfl⟩ | ⟨cs, hS, hclt⟩ | ⟨cs, hS, hclt⟩
    · -- one
      have hk0 : St.g (killElem r 0 pre S) r = .one (killElemC r 0 pre x) := by rw [hkg0, hS]; rfl
      have hS1r : S1.g r = .one (weakC (.val l p)) := by
        rw [← hS1]; unfold setRoot; rw [hS]; dsimp only; rw [g_set, if_pos ⟨rfl, hrlt⟩]
      have hkr : St.g S1k r = .one (killElemC r 0 pre (weakC (.val l p))) := by rw [hkg, hS1r]; rfl
      have hvv : vr = v0 := by
        unfold rootV at hv0
        rw [hS, hvr] at hv0
        simpa using hv0
      subst hvv
      refine ⟨.one (.val l p'), b', heq _ _ hk0 (by unfold setRoot; rw [hk0]), q1, fun x => by omega, by simp [rootish, rootishC, hpf'], fun c' hc' => ?_, ?_, fun w2 c' => ?_, fun cs e => (by rw [hkr] at e; cases e),
        fun x => ⟨fun e => by injection e with e; exact e.symm, fun ys e => (by cases e), fun ys e => (by cases e)⟩, fun r' c' path' e => (by cases e), fun ts e => (by cases e)⟩
      · unfold rootCell; rw [hsetg, hkr]; dsimp only; rw [if_neg hc', if_neg hc']
      · unfold rootCell; rw [hsetg]; rfl
      · unfold rootV; rw [hsetg, hkr, hvr]
    · -- agg
      have hk0 : St.g (killElem r c pre S) r = .agg (cs.map (killElemC r c pre)) := by rw [hkg0, hS]; rfl
      have hS1r : S1.g r = .agg (cs.set c (weakC (.val l p))) := by
        rw [← hS1]; unfold setRoot; rw [hS]; dsimp only; rw [g_set, if_pos ⟨rfl, hrlt⟩]
      have hkr : St.g S1k r = .agg ((cs.set c (weakC (.val l p))).map (killElemC r c pre)) := by rw [hkg, hS1r]; rfl
      have e3 : (cs.map (killElemC r c pre)).set c (.val l p') = ((cs.set c (weakC (.val l p))).map (killElemC r c pre)).set c (.val l p') := by
        rw [List.map_set, List.set_set]
      rw [hkr] at t1
      obtain ⟨arr, ev, t1⟩ := t1
      have hcl : c < ((cs.set c (weakC (.val l p))).map (killElemC r c pre)).length := by simpa using hclt
      obtain ⟨vc, bc, bcr, n1, n2, n3, n4⟩ := t1.get (List.getElem?_eq_getElem hcl)
      have hvv : vc = v0 := by
        unfold rootV at hv0
        rw [hS, hvr, ev] at hv0
        dsimp only at hv0
        rw [Array.getElem?_toList, hv0] at n1
        injection n1 with n1
        exact n1.symm
      subst hvv
      obtain ⟨b3, o1, o2⟩ := n4 (.val l p') vc b' q1
      rw [set_get_same _ _ n1] at o1
      refine ⟨.agg (((cs.set c (weakC (.val l p))).map (killElemC r c pre)).set c (.val l p')), b3, heq _ _ hk0 (by unfold setRoot; rw [hk0]; dsimp only; rw [e3]), ⟨arr, ev, o1⟩, fun x => by have := o2 x; have := n3 x; omega, ?_, fun c' hc' => ?_, ?_, fun w2 c' => ?_,
        fun cs e => (by rw [hkr] at e; cases e), fun x => ⟨fun e => (by cases e), fun ys e => ⟨_, hkr, by injection e with e; exact e.symm⟩, fun ys e => (by cases e)⟩, fun r' c' path' e => (by cases e), fun ts e => (by cases e)⟩
      · simp only [rootish, List.any_eq_true]
        exact ⟨.val l p', List.mem_of_getElem? (i := c) (by rw [List.getElem?_set, if_pos rfl, if_pos hcl]), by simp [rootishC, hpf']⟩
      · unfold rootCell; rw [hsetg, hkr]; dsimp only
        rw [List.getD_eq_getElem?_getD, List.getD_eq_getElem?_getD, List.getElem?_set, if_neg (by omega)]
      · unfold rootCell; rw [hsetg]; dsimp only
        rw [List.getD_eq_getElem?_getD, List.getElem?_set, if_pos rfl, if_pos hcl]; rfl
      · unfold rootV; rw [hsetg, hkr, hvr, ev]
    · -- box
      have hk0 : St.g (killElem r c pre S) r = .box (cs.map (killElemC r c pre)) := by rw [hkg0, hS]; rfl
      have hS1r : S1.g r = .box (cs.set c (weakC (.val l p))) := by
        rw [← hS1]; unfold setRoot; rw [hS]; dsimp only; rw [g_set, if_pos ⟨rfl, hrlt⟩]
      have hkr : St.g S1k r = .box ((cs.set c (weakC (.val l p))).map (killElemC r c pre)) := by rw [hkg, hS1r]; rfl
      have e3 : (cs.map (killElemC r c pre)).set c (.val l p') = ((cs.set c (weakC (.val l p))).map (killElemC r c pre)).set c (.val l p') := by
        rw [List.map_set, List.set_set]
      rw [hkr] at t1
      obtain ⟨gb, arr, T', b1, ev, hgb, hφb, t1, hbt⟩ := t1
      have hcl : c < ((cs.set c (weakC (.val l p))).map (killElemC r c pre)).length := by simpa using hclt
      obtain ⟨vc, bc, bcr, n1, n2, n3, n4⟩ := t1.get (List.getElem?_eq_getElem hcl)
      have hgbne : gb ≠ g := by
        rintro rfl
        apply hg1
        have a1 := t2 gb
        have a2 := hkc gb
        rw [hbt, List.count_cons] at a1
        simp at a1
        exact mem_of_count (by omega)
      have hvv : vc = v0 := by
        unfold rootV at hv0
        rw [hS, hvr, ev] at hv0
        dsimp only at hv0
        rw [← World.cell?_of_block (w := w) (a := ⟨gb, c, none⟩) (hoth gb hgbne), cell_of_heap hgb] at hv0
        rw [Array.getElem?_toList, hv0] at n1
        injection n1 with n1
        exact n1.symm
      subst hvv
      obtain ⟨b3, o1, o2⟩ := n4 (.val l p') vc b' q1
      rw [set_get_same _ _ n1] at o1
      refine ⟨.box (((cs.set c (weakC (.val l p))).map (killElemC r c pre)).set c (.val l p')), gb :: b3, heq _ _ hk0 (by unfold setRoot; rw [hk0]; dsimp only; rw [e3]), ⟨gb, arr, T', b3, ev, hgb, hφb, o1, rfl⟩, fun x => by have := o2 x; have := n3 x; rw [hbt]; simp only [List.count_cons]; omega, rfl, fun c' hc' => ?_, ?_, fun w2 c' => ?_,
        fun cs e => ⟨_, rfl⟩, fun x => ⟨fun e => (by cases e), fun ys e => (by cases e), fun ys e => ⟨_, hkr, by injection e with e; exact e.symm⟩⟩, fun r' c' path' e => (by cases e), fun ts e => (by cases e)⟩
      · unfold rootCell; rw [hsetg, hkr]; dsimp only
        rw [List.getD_eq_getElem?_getD, List.getD_eq_getElem?_getD, List.getElem?_set, if_neg (by omega)]
      · unfold rootCell; rw [hsetg]; dsimp only
        rw [List.getD_eq_getElem?_getD, List.getElem?_set, if_pos rfl, if_pos hcl]; rfl
      · unfold rootV; rw [hsetg, hkr, hvr, ev]
  obtain ⟨tv3, bt3, eS3, hT3, hbt3, hrt3, hrc3, hrcc, hrv3, hbox3, hcells3, hnp, hnt⟩ := key
  rw [eS3]
  obtain ⟨bs3, r1, r2⟩ := t3 tv3 vr bt3 hT3
  rw [set_get_same vs r hvr] at r1
  have hcount : ∀ x, bs3.count x + hand.count x ≤ bs1.count x + (b ++ (bn ++ hand)).count x := fun x => by
    have a1 := r2 x; have a2 := t2 x; have a3 := hkc x; have a4 := hbt3 x; have a5 := q2 x
    simp only [List.count_append]
    omega
  have hset : ∀ t, t ≠ r → St.g (S1k.set r tv3) t = St.g S1k t := fun t ht => by rw [g_set, if_neg (by omega)]
  have hsetr : St.g (S1k.set r tv3) r = tv3 := by rw [g_set, if_pos ⟨rfl, by omega⟩]
  -- roots elsewhere
  have hrootV : ∀ r' c' u, rootV S1 vs w r' c' = some u → rootV (S1k.set r tv3) vs w' r' c' = some u := by
    intro r' c' u h
    have e1 : rootV (S1k.set r tv3) vs w' r' c' = rootV S1 vs w' r' c' := by
      rw [← hkrv]
      by_cases hr : r' = r
      · subst hr; exact hrv3 w' c'
      · unfold rootV; rw [hset r' hr]
    rw [e1]
    exact rootV_world1 (fun cs a k1 k2 => hown1 _ (hs1.boxOwn r' cs a k1 k2)) h
  have hfact : ∀ r' c' l2 p2, ¬ (r' = r ∧ c' = c) → rootCell (S1k.set r tv3) r' c' = .val l2 p2 → rootCell S1 r' c' = .val l2 p2 ∧ (p2.flat = true ∨ isBorrow l2 = false) := by
    intro r' c' l2 p2 hno h
    refine hkrc r' c' l2 p2 ?_
    by_cases hr : r' = r
    · subst hr
      rw [← hrc3 c' fun e => hno ⟨rfl, e⟩]; exact h
    · rwa [rootCell_ne hr] at h
  -- what is read along a path that leads elsewhere
  have hpath : ∀ r' c' l2 p2 path q v2 u, rootCell S1 r' c' = .val l2 p2 → isBorrow l2 = false → (path ≠ [] → inner l2) → pget p2 path = some q → rootV S1 vs w r' c' = some v2 → rvPath w φ v2 path = some u → rvPath w' φ v2 path = some u := by
    intro r' c' l2 p2 path q v2 u h1 h2 h3 h4 h5 h6
    cases path with
    | nil => exact h6
    | cons x path =>
      have hl2 : l2 = .deep := by
        rcases h3 (by simp) with h | h | h
        · exact h
        · subst h; cases h2
        · subst h; cases h2
      subst hl2
      obtain ⟨bb, k1, k2⟩ := hs1.rootOwn h1 h5
      rw [← h6]
      exact OwL.path_same k1 h4 fun x hx => ⟨hown1 x (mem_of_count (by have := k2 x; have := List.count_pos_iff.2 hx; omega)), rfl⟩
  have hVC : ∀ x u, ViewC S1 vs w φ x u → ViewC (S1k.set r tv3) vs w' φ (killElemC r c pre x) u := by
    intro x u h
    cases x with
    | val l2 p2 =>
      simp only [killElemC]
      split <;> trivial
    | dead => trivial
    | view r' c' path' =>
      simp only [killElemC]
      split
      · trivial
      · rename_i hno
        refine ⟨?_, fun l2 p2 hr => ?_⟩
        · by_cases hr : r' = r
          · subst hr; rw [hsetr]; exact hrt3
          · rw [hset r' hr, hkg]; exact killRootishTV h.1
        · by_cases hrc : r' = r ∧ c' = c
          · obtain ⟨rfl, rfl⟩ := hrc
            rw [hrcc] at hr
            injection hr with k1 k2
            subst k1; subst k2
            obtain ⟨a1, a2, a3, v2, a4, a5⟩ := h.2 _ _ hc1
            have hpx : pfx path' pre = true := by
              have : path' = [] := by simpa using hno
              subst this
              rfl
            rw [hv1] at a4
            injection a4 with a4
            subst a4
            refine ⟨hpf', fun hne => ?_, hpp path' hpx, v0, hrootV _ _ _ hv1, by rw [q3 path' hpx]; exact a5⟩
            rcases hll with rfl | ⟨rfl, rfl⟩
            · exact .inl rfl
            · cases path' with
              | nil => exact absurd rfl hne
              | cons _ _ => simp [pfx] at hpx
          · obtain ⟨k1, k2⟩ := hfact r' c' l2 p2 hrc hr
            obtain ⟨a1, a2, ⟨q, a3⟩, v2, a4, a5⟩ := h.2 l2 p2 k1
            have hb : isBorrow l2 = false := k2.resolve_left (by rw [a1]; simp)
            exact ⟨a1, a2, ⟨q, a3⟩, v2, hrootV r' c' v2 a4, hpath r' c' l2 p2 path' q v2 u k1 hb a2 a3 a4 a5⟩
  refine ⟨bs3, r1, fun x => ?_, fun x hx => ?_, fun t u hu => ?_, by rw [hsz]; exact hs1.size, fun y k1 k2 => ?_, ?_⟩
  · have := hcount x; have := hs1.cnt x; omega
  · have hm : x ∈ bs1 ∨ x ∈ b ++ (bn ++ hand) := by
      have := hcount x
      have hpos : 0 < bs3.count x + hand.count x := by
        rcases hx with hx | hx
        · have := List.count_pos_iff.2 hx; omega
        · have := List.count_pos_iff.2 hx; omega
      by_cases hb : x ∈ bs1
      · exact .inl hb
      · have := count_zero_of hb
        exact .inr (mem_of_count (by omega))
    have := hs1.own x hm
    exact ⟨by rw [hsz]; exact this.1, this.2⟩
  · have hold := hs1.views t u hu
    by_cases ht : t = r
    · subst ht
      rw [hsetr]
      cases htv : tv3 with
      | one x =>
        have := (hcells3 x).1 htv
        subst this
        trivial
      | agg ys =>
        obtain ⟨zs, z1, z2⟩ := (hcells3 .dead).2.1 ys htv
        subst z2
        rw [hkg] at z1
        intro arr ea i' x u' hx hu'
        by_cases hic : i' = c
        · subst hic
          rw [List.getElem?_set, if_pos rfl] at hx
          split at hx
          · injection hx with hx; subst hx; trivial
          · cases hx
        · rw [List.getElem?_set, if_neg (by omega)] at hx
          cases hS0 : S1.g t <;> rw [hS0] at z1 hold <;> simp only [mapTV] at z1
          case agg cs0 =>
            injection z1 with z1
            subst z1
            rw [List.getElem?_map] at hx
            cases hy : cs0[i']? with
            | none => rw [hy] at hx; cases hx
            | some y =>
              rw [hy] at hx
              injection hx with hx
              subst hx
              have hfin := hVC y u' (hold arr ea i' y u' hy hu')
              rwa [htv] at hfin
          all_goals (first | (split at z1 <;> cases z1) | cases z1)
      | box ys =>
        obtain ⟨zs, z1, z2⟩ := (hcells3 .dead).2.2 ys htv
        subst z2
        rw [hkg] at z1
        intro a arr e fr ea hh i' x u' hx hu'
        by_cases hic : i' = c
        · subst hic
          rw [List.getElem?_set, if_pos rfl] at hx
          split at hx
          · injection hx with hx; subst hx; trivial
          · cases hx
        · rw [List.getElem?_set, if_neg (by omega)] at hx
          cases hS0 : S1.g t <;> rw [hS0] at z1 hold <;> simp only [mapTV] at z1
          case box cs0 =>
            injection z1 with z1
            subst z1
            rw [List.getElem?_map] at hx
            cases hy : cs0[i']? with
            | none => rw [hy] at hx; cases hx
            | some y =>
              rw [hy] at hx
              injection hx with hx
              subst hx
              subst ea
              rw [hown1 _ (hs1.boxOwn t cs0 a hS0 hu)] at hh
              have hfin := hVC y u' (hold a arr e fr rfl hh i' y u' hy hu')
              rwa [htv] at hfin
          all_goals (first | (split at z1 <;> cases z1) | cases z1)
      | place r' c' path' => exact absurd htv (hnp r' c' path')
      | tup ts => exact absurd htv (hnt ts)
      | ep l' row' off' => trivial
      | undef => trivial
      | dead => trivial
    · rw [hset t ht, hkg]
      cases hSt : S1.g t with
      | one x => rw [hSt] at hold; exact hVC x u hold
      | agg xs' =>
        rw [hSt] at hold
        intro arr ea i' x u' hx hu'
        rw [List.getElem?_map] at hx
        cases hy : xs'[i']? with
        | none => rw [hy] at hx; cases hx
        | some y =>
          rw [hy] at hx
          injection hx with hx
          subst hx
          exact hVC y u' (hold arr ea i' y u' hy hu')
      | box xs' =>
        rw [hSt] at hold
        intro a arr e fr ea hh i' x u' hx hu'
        rw [List.getElem?_map] at hx
        cases hy : xs'[i']? with
        | none => rw [hy] at hx; cases hx
        | some y =>
          rw [hy] at hx
          injection hx with hx
          subst hx
          subst ea
          rw [hown1 _ (hs1.boxOwn t xs' a hSt hu)] at hh
          exact hVC y u' (hold a arr e fr rfl hh i' y u' hy hu')
      | place r' c' path' =>
        rw [hSt] at hold
        simp only [mapTV]
        split
        · trivial
        · rename_i hcond
          rcases hold with ⟨rfl, csx, gx, e1, e2, rfl⟩ | ⟨pre2, s2, i2, j2, rfl, k1, k2⟩
          · refine .inl ⟨rfl, ?_⟩
            by_cases hr : r' = r
            · subst hr
              obtain ⟨cs', e'⟩ := hbox3 _ (by rw [hkg, e1]; rfl)
              exact ⟨cs', gx, by rw [hsetr, e'], e2, rfl⟩
            · exact ⟨_, gx, by rw [hset r' hr, hkg, e1]; rfl, e2, rfl⟩
          · have hno : ¬ (r' = r ∧ c' = c) := by
              intro hk
              apply hcond
              simp [hk.1, hk.2]
            refine .inr ⟨pre2, s2, i2, j2, rfl, ?_, fun l2 p2 hr => ?_⟩
            · by_cases hr : r' = r
              · subst hr; rw [hsetr]; exact hrt3
              · rw [hset r' hr, hkg]; exact killRootishTV k1
            · obtain ⟨k3, k4⟩ := hfact r' c' l2 p2 hno hr
              obtain ⟨a1, a2, ⟨zs, rw', a3, a3'⟩, v2, gg, oo, nn, cc, a4, a5, a6⟩ := k2 l2 p2 k3
              have hb : isBorrow l2 = false := k4.resolve_left (by rw [a1]; simp)
              exact ⟨a1, a2, ⟨zs, rw', a3, a3'⟩, v2, gg, oo, nn, cc, hrootV r' c' v2 a4, hpath r' c' l2 p2 pre2 _ v2 _ k3 hb a2 a3 a4 a5, a6⟩
      | ep l' row' off' => simp only [mapTV]; split <;> trivial
      | tup ts =>
        rw [hSt] at hold
        intro x hx y hy
        simp only [List.mem_map] at hx
        obtain ⟨x0, hx0, rfl⟩ := hx
        simp only [List.mem_map] at hy
        obtain ⟨y0, hy0, rfl⟩ := hy
        have := hold x0 hx0 y0 hy0
        cases y0 with
        | val l2 p2 => simp only [killElemC]; split <;> trivial
        | view _ _ _ => exact this.elim
        | dead => trivial
      | undef => trivial
      | dead => trivial
  · have hy : y ≠ g := by
      rintro rfl
      rcases hgO with q | q
      · omega
      · exact k2 q
    have := hs1.same y k1 k2
    exact ⟨(hoth y hy).trans this.1, this.2⟩
  · exact ⟨hos.1.trans hs1.os.1, hos.2.1.trans hs1.os.2.1, hos.2.2.trans hs1.os.2.2⟩
end
end Go.Proofs.Ytkiliooegoldoaa

/- The operation 'store'. -/
set_option linter.unusedVariables false
set_option linter.unusedSimpArgs false
namespace Go.Proofs.Ytkiliooegoldoaa
open Go

section
variable {P : Program} {ρ : Operand → Value} {o : Oper} {E : Env} {S S' : St} {vs : List Value} {w : World} {φ : Nat → Nat} {bs hand : List Nat} {d : Option Nat}

theorem store_goal {n p rs t a x y} {i : TypeInfo} (hs : SR E S vs w φ bs []) (hρ : RhoR ρ vs) (ho : o.op = .store t a y) (hc : chkO a (.t p rs) = true) (hc' : chkO y x = true) (hi : P.info? t = some i) (hz : i.size = n)
    (h : step S d (.store n (.t p rs) x) = some S') : Goal P ρ o E S' vs d w := by
  simp only [step] at h
  split at h
  case isTrue => cases h
  rename_i hd
  have hd : d = none := by cases d <;> simp at hd ⊢
  subst hd
  cases h1 : tAny S x with
  | none => rw [h1] at h; cases h
  | some z =>
    rw [h1] at h
    simp only [Option.bind_some] at h
    split at h
    case isFalse => cases h
    rename_i hlen
    obtain ⟨bs1, bc, us, q1, q2, q3, q4⟩ := tAny_sound hs (hρ y x hc') (agg := z.1) (cs := z.2.1) (S' := z.2.2) h1
    have hones := CellsR.ones q1 q3.2 (tAny_nd (S' := z.2.2) (agg := z.1) (cs := z.2.1) h1)
    have hcells := q3.cells_ hones
    have hul : us.length = n := by rw [← q3.2.length]; exact hlen
    have hcs : (ρ y).cells.size = us.length := by rw [← Array.length_toList, hcells]
    have hρa := slotρ hρ hc
    have hnd : z.2.2.g p ≠ .dead := by
      intro e; simp [asPlace, e, storeAt] at h
    obtain ⟨bt, p1, p2⟩ := asPlace_sound q1 hnd
    cases hP : asPlace z.2.2 p with
    | place r c path =>
      rw [hP] at h p2
      cases path with
      | nil =>
        simp only [storeAt] at h
        split at h
        case isFalse => cases h
        split at h
        case h_2 => cases h
        rename_i cs hS
        cases hl : lay (cs.map (killBoxC r c z.2.1.length)) c (z.2.1.map (killBoxC r c z.2.1.length)) with
        | none => rw [hl] at h; cases h
        | some cs' =>
          rw [hl] at h
          simp only [Option.map_some, Option.some.injEq] at h
          rcases p2 with ⟨_, csx, g, e1, e2, e3⟩ | ⟨pre, s, i, j, e, _⟩
          · obtain ⟨arr, T, m1, m2, bs', m3⟩ := storeBox q1 hS e2 q3.2 q4 hl
            rw [e3] at hρa
            have hrun := r_store (P := P) (t := t) (g := g) (o := c) (v := ρ y) hi (by omega) m1 (by omega) (by rw [hcells]; exact hones)
            rw [hcells, hcs] at hrun
            generalize w.setRow g (arr.toList.take c ++ us ++ arr.toList.drop (c + us.length)).toArray = W at hrun m3
            refine ⟨undef, W, .inr ⟨by simp [execOp, ho, hρa, hrun], rfl⟩, φ, bs', ?_⟩
            rw [← h]
            exact m3
          · simp at e
      | cons x0 path =>
        simp only [storeAt] at h
        split at h
        case isFalse => cases h
        split at h
        case h_2 => cases h
        rename_i l p0 lv hroot hvals
        split at h
        case isFalse => cases h
        rename_i hok
        cases hps : pset p0 (x0 :: path) (lv.map (·.2)) with
        | none => rw [hps] at h; cases h
        | some p' =>
          rw [hps] at h
          simp only [Option.map_some, Option.some.injEq] at h
          rcases p2 with ⟨e, _⟩ | ⟨pre, s, i', j, e, k1, k2⟩
          · cases e
          · obtain ⟨a1, a2, a3, v0, g, off, nn, cap, a4, a5, a6⟩ := k2 l p0 hroot
            rw [e] at hps
            obtain ⟨xs, row, b1, b2, b3, rfl⟩ := pset_prep hps
            have hdl : (x0 :: path).dropLast = pre := by rw [e]; simp
            have hemp : path.isEmpty = true → pre = [] := by
              intro hpe
              have : path = [] := by simpa using hpe
              subst this
              rw [← hdl]; rfl
            obtain ⟨bv, c1, c2⟩ := tVals_sound q1 q3.2 q4 hvals
            have hlev : (l = .deep ∧ okCells .deep lv = true) ∨ (l = .oldR ∧ pre = [] ∧ okCells .oldR lv = true) := by
              unfold okStore at hok
              split at hok
              · exact .inl ⟨rfl, hok⟩
              · simp only [Bool.and_eq_true] at hok
                exact .inr ⟨rfl, hemp hok.1, hok.2⟩
              · cases hok
            have hown : isOwn l = true := by rcases hlev with ⟨rfl, _⟩ | ⟨rfl, _⟩ <;> rfl
            have hokl : okCells l lv = true := by rcases hlev with ⟨rfl, k⟩ | ⟨rfl, _, k⟩ <;> exact k
            obtain ⟨bn, r1, r2⟩ := rowsOf q1.hO c1 hokl hown
            have q1' : SR E z.2.2 vs w φ bs1 (bn ++ []) := q1.handLe fun g => by have := c2 g; have := r2 g; simp; omega
            obtain ⟨e0, cur, T, m1, m2, bs', m3⟩ := storeElem q1' hroot a4 b1 a5 b2 b3 r1 (by rcases hlev with ⟨rfl, _⟩ | ⟨rfl, hp, _⟩; exact .inl rfl; exact .inr ⟨rfl, hp⟩)
            subst e0
            rw [a6] at hρa
            simp only [Nat.zero_add] at hρa
            have hrun := r_store (P := P) (t := t) (g := g) (o := i' * s + j) (v := ρ y) hi (by omega) m1 (by omega) (by rw [hcells]; exact hones)
            rw [hcells, hcs] at hrun
            generalize w.setRow g (cur.toList.take (i' * s + j) ++ us ++ cur.toList.drop (i' * s + j + us.length)).toArray = W at hrun m3
            refine ⟨undef, W, .inr ⟨by simp [execOp, ho, hρa, hrun], rfl⟩, φ, bs', ?_⟩
            rw [← h, hdl]
            exact m3
    | _ => rw [hP] at h; cases h
end
end Go.Proofs.Ytkiliooegoldoaa

/- Structs compared. -/
set_option linter.unusedVariables false
set_option linter.unusedSimpArgs false
namespace Go.Proofs.Ytkiliooegoldoaa
open Go

def kindD : TypeDesc → Nat
  | .int _ => 0
  | .bool => 1
  | .string => 2
  | _ => 4
def kindsOk (P : Program) : Nat → List Field → List Nat → Bool
  | _, [], [] => true
  | k, f :: fs, n :: ns => f.offset == k && !(f.name == "_") && (match P.underlying f.type with
    | some d => kindD d == n && decide (n < 3)
    | none => false) && kindsOk P (k + 1) fs ns
  | _, _, _ => false

section
variable {P : Program} {ρ : Operand → Value} {o : Oper} {E : Env} {S S' : St} {vs : List Value} {w : World} {φ : Nat → Nat} {bs hand : List Nat} {d : Option Nat}

theorem eqIn_scalar {n : Nat} {t : TypeId} {dt : TypeDesc} {p q : PV} {b : Bool} (hu : P.underlying t = some dt) (hk : kindD dt = p.kind) (h : sameScalar p q = some b) : (Op.equalIn (n + 1) t p.toV q.toV).run P w = .ok b w := by
  unfold sameScalar at h
  split at h
  · split at h
    · rename_i hkk
      subst hkk
      injection h with h
      cases dt <;> simp [kindD, PV.kind] at hk
      rw [← h]
      exact run_equalIn_int w n t _ _ _ _ hu
    · cases h
  · injection h with h
    cases dt <;> simp [kindD, PV.kind] at hk
    rw [← h]
    exact run_equalIn_bool' w n t _ _ hu
  · injection h with h
    cases dt <;> simp [kindD, PV.kind] at hk
    rw [← h]
    exact run_equalIn_string w n t _ _ hu
  · cases h

theorem part_scalar {t : TypeId} {dt : TypeDesc} {xs : Array Value} {k : Nat} {u : Value} (hu : P.underlying t = some dt) (hk : kindD dt < 3) (h : xs.toList[k]? = some u) : (part t xs k).run P w = .ok u w := by
  have ha : aggD dt = false := by cases dt <;> simp [kindD] at hk <;> rfl
  rw [Array.getElem?_toList] at h
  simp [part, r_isAgg hu, ha, h]

theorem eqFields_run {n : Nat} {xs ys : Array Value} : ∀ {a b : List (Lev × PV)} {k : Nat} {fs : List Field} {us ts : List Value} {r : Bool}, kindsOk P k fs (a.map fun z => z.2.kind) = true →
    CellsR E w φ (a.map valCell) us [] → CellsR E w φ (b.map valCell) ts [] → (∀ (i : Nat) u, us[i]? = some u → xs.toList[k + i]? = some u) → (∀ (i : Nat) u, ts[i]? = some u → ys.toList[k + i]? = some u) →
    sameCells a b = some r → (Op.eqFields (n + 1) xs ys fs).run P w = .ok r w := by
  intro a
  induction a with
  | nil =>
    intro b k fs us ts r hk h1 h2 hx hy h
    cases fs with
    | cons _ _ => simp [kindsOk] at hk
    | nil =>
      cases b with
      | cons _ _ => simp [sameCells] at h
      | nil => simp [sameCells] at h; subst h; simp [Op.eqFields]
  | cons x a ih =>
    intro b k fs us ts r hk h1 h2 hx hy h
    cases fs with
    | nil => simp [kindsOk] at hk
    | cons f fs =>
      cases b with
      | nil => simp [sameCells] at h
      | cons y b =>
        simp only [List.map_cons, kindsOk, Bool.and_eq_true, beq_iff_eq, Bool.not_eq_true'] at hk
        obtain ⟨⟨⟨hoff, hname⟩, hkind⟩, hk⟩ := hk
        split at hkind
        case h_2 => cases hkind
        rename_i dt hu
        simp only [Bool.and_eq_true, beq_iff_eq, decide_eq_true_eq] at hkind
        simp only [sameCells] at h
        cases hb : sameScalar x.2 y.2 with
        | none => rw [hb] at h; cases h
        | some b0 =>
          rw [hb] at h
          simp only [Option.bind_some] at h
          cases hr : sameCells a b with
          | none => rw [hr] at h; cases h
          | some r0 =>
            rw [hr] at h
            simp only [Option.map_some, Option.some.injEq] at h
            obtain ⟨u, us', b1, b2, rfl, e1, hc, h1⟩ := h1
            obtain ⟨t, ts', c1, c2, rfl, e2, hd, h2⟩ := h2
            obtain ⟨rfl, rfl⟩ := List.append_eq_nil_iff.1 e1.symm
            obtain ⟨rfl, rfl⟩ := List.append_eq_nil_iff.1 e2.symm
            have fx : x.2.flat = true ∧ y.2.flat = true := by
              unfold sameScalar at hb
              split at hb <;> rename_i e1 e2 <;> first | (rw [e1, e2]; exact ⟨rfl, rfl⟩) | cases hb
            have hu' := CellR.flat hc fx.1
            have ht' := CellR.flat hd fx.2
            subst hu'; subst ht'
            have hkd : kindD dt < 3 := by rw [hkind.1]; exact hkind.2
            have p1 := part_scalar (w := w) hu hkd (hx 0 _ rfl)
            have p2 := part_scalar (w := w) hu hkd (hy 0 _ rfl)
            rw [Nat.add_zero] at p1 p2
            have p3 := eqIn_scalar (w := w) (n := n) hu hkind.1 hb
            have hn : f.name ≠ "_" := by simpa using hname
            simp only [Op.eqFields, hn, ne_eq, not_false_eq_true, if_true, hoff, Sem.run_bind, p1, p2, p3, Result.andThen_ok]
            have hrec := ih hk h1 h2 (fun i u hi => by have := hx (i + 1) u (by simpa using hi); rw [← this]; congr 1; omega) (fun i u hi => by have := hy (i + 1) u (by simpa using hi); rw [← this]; congr 1; omega) hr
            cases b0
            · simp at h; subst h; simp
            · simp at h; subst h; simpa using hrec

theorem eqAgg_goal {neg ks t ty x x' y y' fs} (hs : SR E S vs w φ bs []) (hρ : RhoR ρ vs) (ho : o.op = .binOp (if neg then .neq else .eql) t x y ty) (hc : chkO x x' = true) (hc' : chkO y y' = true) (hu : P.underlying t = some (.struct fs))
    (hst : P.stoodInHeld t = false) (hg : P.eqGuardType P.depth t = false) (hk : kindsOk P 0 fs.toList ks = true)
    (h : step S d (.eqAgg neg ks x' y') = some S') : Goal P ρ o E S' vs d w := by
  simp only [step] at h
  split at h
  · rename_i a b ha hb
    split at h
    case isFalse => cases h
    rename_i hks
    cases hr : sameCells a b with
    | none => rw [hr] at h; cases h
    | some r =>
      rw [hr] at h
      simp only [Option.bind_some] at h
      obtain ⟨us, e1, h1⟩ := bAny_sound hs (hρ x x' hc) ha
      obtain ⟨ts, e2, h2⟩ := bAny_sound hs (hρ y y' hc') hb
      simp only [if_true] at e1 e2
      have hf : P.fieldsOf t = fs := by simp [Program.fieldsOf, hu]
      have hrun : (Op.equalIn 10000 t (.agg us.toArray) (.agg ts.toArray)).run P w = .ok r w := by
        rw [show (10000 : Nat) = 9999 + 1 from rfl, run_equalIn_struct w 9999 t _ _ (by rw [hf]; exact hu) hst, hf]
        exact eqFields_run (n := 9998) (by rw [hks]; exact hk) h1 h2 (fun i u hi => by simpa using hi) (fun i u hi => by simpa using hi) hr
      have hgd := fun op => run_eqGuard_agg (P := P) w op t x y us.toArray ts.toArray hg
      refine scalar_goal (p := .bool (if neg then !r else r)) hs rfl ?_ h
      cases neg
      · simp only [Bool.false_eq_true, if_false] at ho ⊢
        simp [execOp, ho, e1, e2, hgd, run_eql_struct, hrun, PV.toV]
      · simp only [if_true] at ho ⊢
        simp [execOp, ho, e1, e2, hgd, run_neq_struct, hrun, PV.toV]
  · cases h
end
end Go.Proofs.Ytkiliooegoldoaa

/- Bytes made a string. -/
set_option linter.unusedVariables false
set_option linter.unusedSimpArgs false
namespace Go.Proofs.Ytkiliooegoldoaa
open Go

theorem bytesOfRows_ints : ∀ {xs : List (List PV)} {l : List UInt8}, bytesOfRows xs = some l → ∃ ns : List Int, xs = ns.map (fun n => [PV.int .u8 n]) ∧ l = ns.map fun n => UInt8.ofNat n.toNat := by
  intro xs
  induction xs with
  | nil => intro l h; simp [bytesOfRows] at h; exact ⟨[], rfl, by simp [h]⟩
  | cons r rs ih =>
    intro l h
    simp only [bytesOfRows, Option.bind_eq_some_iff, Option.map_eq_some_iff] at h
    obtain ⟨b, hb, l', hl, rfl⟩ := h
    obtain ⟨ns, rfl, rfl⟩ := ih hl
    unfold byteOf at hb
    split at hb
    · rename_i n
      simp only [Option.some.injEq] at hb
      exact ⟨n :: ns, rfl, by rw [← hb]; rfl⟩
    · cases hb
theorem RdL.bytes {w ok} : ∀ {ns : List Int} {cvs}, RdL w ok (ns.map (PV.int .u8)) cvs → cvs = ns.map (Value.int .u8) := by
  intro ns
  induction ns with
  | nil => intro cvs h; cases h; rfl
  | cons n ns ih => intro cvs h; cases h with | int h => rw [ih h]; rfl

theorem flat_ints (ns : List Int) : (ns.map fun n => [PV.int .u8 n]).flatten = ns.map (PV.int .u8) := by
  induction ns with
  | nil => rfl
  | cons n ns ih => simp only [List.map_cons, List.flatten_cons, ih]; rfl
section
variable {P : Program} {ρ : Operand → Value} {o : Oper} {E : Env} {S S' : St} {vs : List Value} {w : World} {φ : Nat → Nat} {bs : List Nat} {d : Option Nat}
theorem bytesStr_goal {src dst e x x'} (hs : SR E S vs w φ bs []) (hρ : RhoR ρ vs) (ho : o.op = .convert src dst x) (hc : chkO x x' = true) (hsrc : P.underlying src = some (.slice e)) (he : P.underlying e = some (.int .u8)) (hdst : P.underlying dst = some .string)
    (h : step S d (.bytesStr x') = some S') : Goal P ρ o E S' vs d w := by
  simp only [step] at h
  split at h
  · rename_i l xs hb
    have e1 := CellR.reads hs.hO (bOne_sound hs (hρ _ _ hc) hb)
    simp only [Option.bind_eq_some_iff] at h
    obtain ⟨bl, hbl, h⟩ := h
    obtain ⟨ns, rfl, rfl⟩ := bytesOfRows_ints hbl
    refine scalar_goal hs rfl ?_ h
    have hfl := flat_ints ns
    generalize hv : ρ x = v at e1
    cases e1 with
    | sl hl hle hsz hcell hrd htl =>
      rename_i A n c cvs
      rw [hfl] at hrd
      have hcv := RdL.bytes hrd
      subst hcv
      simp only [List.length_map] at hl
      have hconv : (convert src dst (.slice A n c)).run P w = .ok (.string ⟨(ns.map fun n => UInt8.ofNat n.toNat).toArray⟩) w := by
        rw [run_convert_bytes_string w src dst e A n c hsrc he hdst]
        cases A with
        | none =>
          have hns : ns = [] := by
            cases ns with
            | nil => rfl
            | cons m ns =>
              obtain ⟨g, o', hA, _⟩ := hcell 0 _ rfl
              cases hA
          subst hns
          simp [Conv.bytesToString]
          rfl
        | some a =>
          have hload := run_loadCells_list (P := P) (w := w) a (ns.map (Value.int .u8)) (fun j v hj => by
            obtain ⟨g, o', hA, _, hk⟩ := hcell j v hj
            cases hA
            rw [addr_add]; exact hk)
          simp only [List.length_map] at hload
          rw [← hl, run_bytesToString w a ns.length c ns hload, foldl_push_bytes]
          simp [ByteArray.empty, ByteArray.emptyWithCapacity]
          rfl
      simp [execOp, ho, hv, hconv, PV.toV]
  · cases h
end
def isBytes (P : Program) (t : TypeId) : Bool := match P.underlying t with
  | some (.slice e) => (match P.underlying e with
    | some (.int .u8) => true
    | _ => false)
  | _ => false
theorem isBytes_ {P : Program} {t} (h : isBytes P t = true) : ∃ e, P.underlying t = some (.slice e) ∧ P.underlying e = some (.int .u8) := by
  unfold isBytes at h
  split at h
  · rename_i e hu
    split at h
    · rename_i he; exact ⟨e, hu, he⟩
    · cases h
  · cases h
end Go.Proofs.Ytkiliooegoldoaa

/- A string's bytes, appended. -/
set_option linter.unusedVariables false
set_option linter.unusedSimpArgs false
namespace Go.Proofs.Ytkiliooegoldoaa
open Go Go.Lib

theorem str_rows (E : Env) (w : World) (φ : Nat → Nat) (s : ByteArray) : RowsR E w φ .deep (bytesPV s).flatten (strCells s) [] := by
  unfold bytesPV strCells
  show OwL w φ _ _ _
  induction s.data.toList with
  | nil => exact .nil
  | cons b l ih => exact .int ih

section
variable {P : Program} {w : World}
theorem s_append_room {t u ty e T : TypeId} {i : TypeInfo} {g n c m : Nat} {s : ByteArray} {us : List Value} {cur : Array Value} (ht : P.underlying t = some (.slice e)) (hu : P.underlying u = some .string) (hi : P.info? e = some i)
    (hg : w.heap[g]? = some (.cells cur T (0, 0))) (hcur : cur.size = c * i.size) (hl : us.length = m * i.size) (hm : s.size = m) (hus : strCells s = us)
    (h1 : ∀ u ∈ us, u.oneCell' = true) (hroom : n + m ≤ c) :
    (Builtin.append_ #[t, u] ty #[.slice (some ⟨g, 0, none⟩) n c, .string s]).run P w = .ok (.slice (some ⟨g, 0, none⟩) (n + m) c) (w.setRow g (cur.toList.take (n * i.size) ++ us ++ cur.toList.drop (n * i.size + us.length)).toArray) := by
  have hfc := run_firstCells_string (P := P) w i.size s
  rw [hus] at hfc
  subst hm
  have hle : n * i.size + us.length ≤ cur.size := by rw [hl, hcur, ← Nat.add_mul]; exact Nat.mul_le_mul_right _ hroom
  have hst := run_storeCells_at (P := P) g (n * i.size) T us 0 cur w hg (by simpa using hle) h1
  simp only [Nat.add_zero] at hst
  simp [Builtin.append_, run_underlying ht, run_underlying hu, sizeOf, typeInfo, hi, Builtin.lenOf, hroom, hfc, addr_add, hst]
theorem s_append_none {t u ty e : TypeId} {i : TypeInfo} {s : ByteArray} (ht : P.underlying t = some (.slice e)) (hu : P.underlying u = some .string) (hi : P.info? e = some i) (hs : s.size = 0) :
    (Builtin.append_ #[t, u] ty #[.slice none 0 0, .string s]).run P w = .ok (.slice none 0 0) w := by
  have hfc := run_firstCells_string (P := P) w i.size s
  rw [hs] at hfc
  simp [Builtin.append_, run_underlying ht, run_underlying hu, sizeOf, typeInfo, hi, Builtin.lenOf, hs, hfc]
theorem s_append_grow {t u ty e : TypeId} {i : TypeInfo} {z : Value} {B : Option Addr} {n c m : Nat} {s : ByteArray} {os us : List Value} (ht : P.underlying t = some (.slice e)) (hu : P.underlying u = some .string) (hi : P.info? e = some i) (hz : i.zero = some z)
    (hlo : os.length = n * i.size) (ho : ∀ (k : Nat) u, os[k]? = some u → ∃ g o, B = some ⟨g, o, none⟩ ∧ w.cell? ⟨g, o + k, none⟩ = some u)
    (hm : s.size = m) (hus : strCells s = us)
    (hg : c < n + m) (hb0 : 0 < i.bytes) (hb : (n + m) * i.bytes ≤ 140737488355328) :
    ∃ nc, n + m ≤ nc ∧ (Builtin.append_ #[t, u] ty #[.slice B n c, .string s]).run P w = .ok (.slice (some ⟨w.heap.size, 0, none⟩) (n + m) nc)
      (w.drew.alloc (.cells (os.toArray ++ us.toArray ++ Builtin.zeroCells z.cells (nc - (n + m))) e)) := by
  subst hm
  have hfit := growslice_fits (old := c) hg hb
  have hle : n + s.size ≤ (n + s.size) * i.bytes := Nat.le_mul_of_pos_right _ hb0
  have hn : ¬ (n + s.size ≤ c) := by omega
  have h63' : ¬ (9223372036854775807 < ((n : Int) + (s.size : Int))) := by omega
  have h48' : ¬ (281474976710656 < Builtin.nextslicecap (n + s.size) c * i.bytes) := by omega
  have hf := run_firstCells_string (P := P) w.drew i.size s
  rw [hus] at hf
  have hfo := firstCells_of (P := P) (w := w.drew) (c := c) hlo (by simpa using ho)
  refine ⟨grownCap w (n + s.size) c e, grownCap_ge w (n + s.size) c e, ?_⟩
  simp [Builtin.append_, run_underlying ht, run_underlying hu, sizeOf, typeInfo, zeroValue, hi, hz, Builtin.lenOf, hn, h63', h48', Question.forced, hf, hfo, newRow, grownCap]
  congr 2
  apply Array.ext'
  simp [List.append_assoc]
end
section
variable {P : Program} {ρ : Operand → Value} {o : Oper} {E : Env} {S S' : St} {vs : List Value} {w : World} {φ : Nat → Nat} {bs hand : List Nat} {d : Option Nat}
/-- append of a string: the real side, whichever way it goes. -/
theorem append_any_s {t tu e ty : TypeId} {i : TypeInfo} {z : Value} {sz : Nat} {xs : List (List PV)} {str : ByteArray} {vx : Value} {bx : List Nat}
    (hs : SR E S vs w φ bs (bx ++ hand)) (hx : CellR E w φ (.val .deep (.sl sz xs)) vx bx)
    (ht : P.underlying t = some (.slice e)) (hu : P.underlying tu = some .string) (hsz1 : i.size = 1) (hi : P.info? e = some i) (hz : i.zero = some z) (hsz : i.size = sz) (hzs : z.cells.size = sz) (hsz0 : 0 < sz) (hb0 : 0 < i.bytes)
    (hlen : (xs.length + str.size) * i.bytes ≤ 140737488355328) :
    ∃ v w' φ' bt, (Builtin.append_ #[t, tu] ty #[vx, .string str]).run P w = .ok v w' ∧ SR E S vs w' φ' bs (bt ++ hand) ∧ CellR E w' φ' (.val .deep (.sl sz (xs ++ bytesPV str))) v bt := by
  have ho : isOwn .deep = true := rfl
  have hol : isOwn .deep = true := rfl
  obtain ⟨bx', hx', hxc⟩ := ((ownS_iff ho).1 hx).relev (want := .deep) hs.hO rfl
  have hrows := str_rows E w φ str
  have hyr : ∀ r ∈ bytesPV str, r.length = i.size := fun r hr => by
    rw [hsz1]
    unfold bytesPV at hr
    obtain ⟨b, _, rfl⟩ := List.mem_map.1 hr
    rfl
  have hys : (bytesPV str).length = str.size := by unfold bytesPV; rw [List.length_map, Array.length_toList]; rfl
  have hul : (strCells str).length = (bytesPV str).length * i.size := by rw [hsz1, hys, strCells_length, Nat.mul_one]
  rw [← hys] at hlen
  generalize hust : strCells str = us at *
  generalize hyst : bytesPV str = ys at *
  obtain ⟨by', hby'⟩ : ∃ b : List Nat, b = [] := ⟨[], rfl⟩
  rw [← hby'] at hrows
  subst hsz
  have hones := hrows.ones
  -- the hand, cut down
  have hs1 : SR E S vs w φ bs (by' ++ (bx' ++ hand)) := hs.handLe (fun g => by have := hxc g; rw [hby']; simp only [List.nil_append, List.count_append]; omega)
  rcases hx' with ⟨rfl, rfl, rfl⟩ | ⟨g, n, c, cur, T, b1, rfl, rfl, hxl, hle, hxr, hg, hcur, hφ, hxrows⟩
  · -- nil
    by_cases hm : ys.length = 0
    · have : ys = [] := List.length_eq_zero_iff.1 hm
      subst this
      refine ⟨.slice none 0 0, w, φ, [], by simpa using s_append_none (ty := ty) ht hu hi (hys.symm.trans rfl), hs1.handLe (fun g => by simp), (ownS_iff hol).2 (.inl ⟨rfl, rfl, rfl⟩)⟩
    · obtain ⟨nc, hnc, hrun⟩ := s_append_grow (w := w) (ty := ty) (B := none) (n := 0) (c := 0) (m := ys.length) (os := []) (us := us) ht hu hi hz (by simp) (by simp) hys.symm hust (by omega) hb0 (by simpa using hlen)
      have hG : Gr w (w.drew.alloc (.cells ([].toArray ++ us.toArray ++ Builtin.zeroCells z.cells (nc - (0 + ys.length))) e)) φ (setφ φ w.heap.size (ys.length * i.size)) :=
        (Gr.drew w φ).trans (Gr.alloc w.drew φ _ _)
      have hnew := hs1.newHand (w' := w.drew.alloc (.cells ([].toArray ++ us.toArray ++ Builtin.zeroCells z.cells (nc - (0 + ys.length))) e)) (by simp)
      refine ⟨_, _, setφ φ w.heap.size (ys.length * i.size), w.heap.size :: by', hrun, hG.sr (hand' := w.heap.size :: (by' ++ hand)) (hs1.handLe (fun g => Nat.le_refl _)) (by simpa using hnew.1) (by simpa using hnew.2), (ownS_iff hol).2 (.inr ⟨w.heap.size, 0 + ys.length, nc, _, e, by', rfl, rfl, by simp, by omega, by simpa using hyr, heap_alloc_new w.drew _, ?_, ?_, ?_⟩)⟩
      · simp only [Array.size_append, List.size_toArray, List.length_nil, size_zeroCells, hzs, hul]
        rw [Nat.zero_add, ← Nat.add_mul]; congr 1; omega
      · rw [setφ_same, Nat.zero_add]
      · have hr2 := hrows.mono (fun g k u _ h2 => hG.cell' g k u h2) (fun g k u h1 h2 => hG.cell g k u h1 h2) (fun g hg => hG.heap g (hs1.own g (.inr (by simp [hg]))).1)
        have : (([].toArray ++ us.toArray ++ Builtin.zeroCells z.cells (nc - (0 + ys.length))).toList.take ((0 + ys.length) * i.size)) = us := by
          rw [Array.toList_append, Array.toList_append]
          simp only [List.nil_append, Nat.zero_add]
          rw [← hul, List.take_left]
        rw [this]
        simpa using hr2
  · -- a block
    have hgh : g ∈ by' ++ (g :: b1 ++ hand) := by simp
    have hcells : ∀ (k : Nat) u, (cur.toList.take (n * i.size))[k]? = some u → ∃ g' o, some (⟨g, 0, none⟩ : Addr) = some ⟨g', o, none⟩ ∧ w.cell? ⟨g', o + k, none⟩ = some u := fun k u hk => ⟨g, 0, rfl, by
      rw [Nat.zero_add, cell_of_heap hg]
      rw [List.getElem?_take] at hk
      split at hk
      · simpa using hk
      · cases hk⟩
    have hnle : n * i.size ≤ cur.size := by rw [hcur]; exact Nat.mul_le_mul_right _ hle
    have htl : (cur.toList.take (n * i.size)).length = n * i.size := by simp; omega
    by_cases hroom : n + ys.length ≤ c
    · -- there is room
      have hrun := s_append_room (w := w) (ty := ty) ht hu hi hg hcur hul hys.symm hust hones hroom
      have hle2 : n * i.size + us.length ≤ cur.size := by rw [hul, hcur, ← Nat.add_mul]; exact Nat.mul_le_mul_right _ hroom
      have hI : InPl w (w.setRow g (cur.toList.take (n * i.size) ++ us ++ cur.toList.drop (n * i.size + us.length)).toArray) φ (setφ φ g ((n + ys.length) * i.size)) g := by
        refine ⟨fun b hb => ⟨setRow_other w g b _ hb, setφ_ne φ _ hb⟩, fun k x hk hc => ?_, ?_, by simp, rfl, rfl, outw_setRow _ _ _⟩
        · rw [cell_of_heap (setRow_heap w g cur _ T (0, 0) hg)]
          rw [cell_of_heap hg] at hc
          rw [hφ] at hk
          rw [List.getElem?_toArray, List.append_assoc, List.getElem?_append_left (by omega), List.getElem?_take, if_pos hk]
          simpa using hc
        · rw [setφ_same, hφ]; exact Nat.mul_le_mul_right _ (by omega)
      have hgo := (hs1.own g (.inr hgh)).2
      have hsI := hI.sr (hand' := g :: (b1 ++ by') ++ hand) hs1 hgh (fun x => by simp [List.count_cons]; omega)
      have hne : ∀ x ∈ b1 ++ by', x ≠ g := by
        intro x hxm e
        rw [e] at hxm
        have := hs1.cnt g
        have h1 := List.count_pos_iff.2 hxm
        simp [List.count_cons] at this h1
        omega
      have m1 := hxrows.mono (okO_not hI hgo) (fun g k u h1 h2 => hI.cell_ g k u h1 h2) (fun x hx => hI.heap x (hne x (by simp [hx])))
      have m2 := hrows.mono (okO_not hI hgo) (fun g k u h1 h2 => hI.cell_ g k u h1 h2) (fun x hx => hI.heap x (hne x (by simp [hx])))
      refine ⟨_, _, setφ φ g ((n + ys.length) * i.size), g :: (b1 ++ by'), hrun, hsI, (ownS_iff hol).2 (.inr ⟨g, n + ys.length, c, _, T, b1 ++ by', rfl, rfl, by simp [hxl], hroom, ?_, setRow_heap w g cur _ T (0, 0) hg, ?_, setφ_same _ _ _, ?_⟩)⟩
      · intro r hr
        rcases List.mem_append.1 hr with hr | hr
        · exact hxr r hr
        · exact hyr r hr
      · simp; rw [← hcur]; omega
      · have : (((cur.toList.take (n * i.size) ++ us ++ cur.toList.drop (n * i.size + us.length)).toArray).toList.take ((n + ys.length) * i.size)) = cur.toList.take (n * i.size) ++ us := by
          rw [Nat.add_mul, ← hul]
          have hl2 : (cur.toList.take (n * i.size) ++ us).length = n * i.size + us.length := by rw [List.length_append, htl]
          rw [← hl2]
          exact List.take_left
        rw [this, List.flatten_append]
        exact m1.append_ m2
    · -- it grows
      obtain ⟨nc, hnc, hrun⟩ := s_append_grow (w := w) (ty := ty) (B := some ⟨g, 0, none⟩) (n := n) (c := c) (m := ys.length) (os := cur.toList.take (n * i.size)) (us := us) ht hu hi hz htl hcells hys.symm hust (by omega) hb0 (by rw [← hxl]; exact hlen)
      have hG : Gr w (w.drew.alloc (.cells ((cur.toList.take (n * i.size)).toArray ++ us.toArray ++ Builtin.zeroCells z.cells (nc - (n + ys.length))) e)) φ (setφ φ w.heap.size ((n + ys.length) * i.size)) :=
        (Gr.drew w φ).trans (Gr.alloc w.drew φ _ _)
      have hs2 : SR E S vs w φ bs ((b1 ++ by') ++ hand) := hs1.handLe (fun x => by simp [List.count_cons]; omega)
      have hnew := hs2.newHand (w' := w.drew.alloc (.cells ((cur.toList.take (n * i.size)).toArray ++ us.toArray ++ Builtin.zeroCells z.cells (nc - (n + ys.length))) e)) (by simp)
      have lt : ∀ x ∈ b1 ++ by', x < w.heap.size := fun x hx => (hs2.own x (.inr (List.mem_append_left _ hx))).1
      have m1 := hxrows.mono (fun g k u _ h2 => hG.cell' g k u h2) (fun g k u h1 h2 => hG.cell g k u h1 h2) (fun x hx => hG.heap x (lt x (by simp [hx])))
      have m2 := hrows.mono (fun g k u _ h2 => hG.cell' g k u h2) (fun g k u h1 h2 => hG.cell g k u h1 h2) (fun x hx => hG.heap x (lt x (by simp [hx])))
      refine ⟨_, _, setφ φ w.heap.size ((n + ys.length) * i.size), w.heap.size :: (b1 ++ by'), hrun, hG.sr hs2 hnew.1 hnew.2, (ownS_iff hol).2 (.inr ⟨w.heap.size, n + ys.length, nc, _, e, b1 ++ by', rfl, rfl, by simp [hxl], hnc, ?_, heap_alloc_new w.drew _, ?_, setφ_same _ _ _, ?_⟩)⟩
      · intro r hr
        rcases List.mem_append.1 hr with hr | hr
        · exact hxr r hr
        · exact hyr r hr
      · simp only [Array.size_append, List.size_toArray, size_zeroCells, hzs, hul, htl]
        rw [← Nat.add_mul, ← Nat.add_mul]; congr 1; omega
      · have : (((cur.toList.take (n * i.size)).toArray ++ us.toArray ++ Builtin.zeroCells z.cells (nc - (n + ys.length))).toList.take ((n + ys.length) * i.size)) = cur.toList.take (n * i.size) ++ us := by
          rw [Nat.add_mul, ← hul, Array.toList_append, Array.toList_append]
          have hl2 : (cur.toList.take (n * i.size) ++ us).length = n * i.size + us.length := by rw [List.length_append, htl]
          rw [← hl2]
          exact List.take_left
        rw [this, List.flatten_append]
        exact m1.append_ m2

theorem appendStr_goal {x y x' y' t u e} {c : Call} {i : TypeInfo} {z : Value} (hs : SR E S vs w φ bs []) (hρ : RhoR ρ vs) (ho : o.op = .call c) (hcal : c.callee = .builtin .append) (ha : c.args = #[x, y]) (htt : c.argTypes = #[t, u])
    (hc : chkO x x' = true) (hc' : chkO y y' = true) (ht : P.underlying t = some (.slice e)) (hu : P.underlying u = some .string) (hi : P.info? e = some i) (hz : i.zero = some z) (hsz : i.size = 1) (hzs : z.cells.size = 1) (hby : i.bytes = 1)
    (h : step S d (.appendStr x' y') = some S') : Goal P ρ o E S' vs d w := by
  obtain ⟨cal, args, tys⟩ := c
  simp only at hcal ha htt
  subst hcal; subst ha; subst htt
  simp only [step] at h
  cases h1 : tPV S x' with
  | none => rw [h1] at h; cases h
  | some r1 =>
    obtain ⟨ag1, l1, S1⟩ := r1
    rw [h1] at h
    simp only [Option.bind_some] at h
    split at h
    · rename_i l xs l' s hy1
      split at h
      · rename_i hcond
        obtain ⟨rfl, hlen⟩ := hcond
        obtain ⟨bs1, bx, ux, p1, p2, p3⟩ := tPV_sound hs (hρ _ _ hc) h1
        have hyv : ρ y = .string s := (bOne_sound p1 (hρ _ _ hc') hy1).flat rfl
        obtain ⟨v, w', φ', bt, hrun, hsr, hcell⟩ := append_any_s (ty := o.type) (str := s) p1 p3.single ht hu hsz hi hz hsz hzs (by omega) (by omega) (by rw [hby]; omega)
        refine goal_new (v := v) (w' := w') (φ' := φ') (by simp [execOp, ho, resolve, invoke, builtin, hyv, hrun]) ?_
        exact done_put (bt := bt) (tv := .one (.val .deep (.sl 1 (xs ++ bytesPV s)))) hsr hcell trivial h
      · cases h
    · cases h
end
end Go.Proofs.Ytkiliooegoldoaa
