/- Parts of aggregates, results of several; stores. -/
import Derived.Test.YtkiliooegoldoaaOps6
set_option linter.unusedVariables false
set_option linter.unusedSimpArgs false
namespace Go.Proofs.Ytkiliooegoldoaa
open Go

theorem TupR.get {E w φ} : ∀ {S : List (Bool × List Cell)} {vs bs}, TupR E w φ S vs bs → ∀ {t : Nat} {c}, S[t]? = some c →
    ∃ (v : Value) (bt br : List Nat), vs[t]? = some v ∧ (if c.1 = true then ∃ arr, v = .agg arr ∧ CellsR E w φ c.2 arr.toList bt else CellsR E w φ c.2 [v] bt) ∧ (∀ g, bs.count g = bt.count g + br.count g) ∧
      ∀ cs' bt', (if c.1 = true then ∃ arr, v = .agg arr ∧ CellsR E w φ cs' arr.toList bt' else CellsR E w φ cs' [v] bt') → ∃ bs', TupR E w φ (S.set t (c.1, cs')) vs bs' ∧ ∀ g, bs'.count g = bt'.count g + br.count g := by
  intro S
  induction S with
  | nil => intro vs bs h t v hv; simp at hv
  | cons c cs ih =>
    intro vs bs h t v hv
    obtain ⟨u, us, b1, b2, rfl, rfl, hc, h⟩ := h
    cases t with
    | zero =>
      simp at hv
      subst hv
      refine ⟨u, b1, b2, rfl, hc, fun g => by simp, fun cs' bt' h' => ⟨bt' ++ b2, ⟨u, us, bt', b2, rfl, rfl, h', h⟩, fun g => by simp⟩⟩
    | succ t =>
      obtain ⟨v', bt, br, h0, h1, h2, h3⟩ := ih h (by simpa using hv)
      refine ⟨v', bt, b1 ++ br, by simpa using h0, h1, fun g => by simp [h2 g]; omega, fun cs' bt' h' => ?_⟩
      obtain ⟨bs', k1, k2⟩ := h3 cs' bt' h'
      exact ⟨b1 ++ bs', ⟨u, us, b1, bs', rfl, rfl, hc, k1⟩, fun g => by simp [k2 g]; omega⟩

section
variable {P : Program} {ρ : Operand → Value} {o : Oper} {E : Env} {S S' : St} {vs : List Value} {w : World} {φ : Nat → Nat} {bs hand : List Nat} {d : Option Nat}

theorem deadCells : ∀ {cs us b}, CellsR E w φ cs us b → CellsR E w φ (cs.map fun _ => Cell.dead) us [] := by
  intro cs
  induction cs with
  | nil => intro us b h; exact ⟨h.1, rfl⟩
  | cons c cs ih =>
    intro us b h
    obtain ⟨u, us', b1, b2, rfl, rfl, hc, h⟩ := h
    exact ⟨u, us', [], [], rfl, rfl, rfl, ih h⟩

/-- A slot's value is turned, where nothing leads into it. -/
theorem SR.reslot {tv v bt br} (hs : SR E S vs w φ bs hand) {n : Nat} (hv : vs[n]? = some v) (htv : TVR E w φ tv v bt) (hview : ViewTV S vs w φ tv v) (hr : rootish (S.g n) = false)
    (hc : ∀ b0, TVR E w φ (S.g n) v b0 → ∀ g, bt.count g + br.count g ≤ b0.count g) : ∃ bs', SR E (S.set n tv) vs w φ bs' (br ++ hand) := by
  obtain ⟨b0, b1, h1, h2, h3⟩ := hs.tvs.get hv
  obtain ⟨bs', q1, q2⟩ := h3 tv v bt htv
  have hc' := hc b0 h1
  rw [set_get_same vs n hv] at q1
  refine ⟨bs', q1, fun g => ?_, fun g hg => ?_, fun t u hu => ?_, hs.size, hs.same, hs.os⟩
  · have := hs.cnt g; have := h2 g; have := q2 g; have := hc' g; simp only [List.count_append]; omega
  · refine hs.own g ?_
    have := h2 g; have := q2 g; have := hc' g
    by_cases hb : g ∈ bs
    · exact .inl hb
    · have h0 := count_zero_of hb
      rcases hg with hg | hg
      · have := List.count_pos_iff.2 hg; omega
      · rcases List.mem_append.1 hg with hg | hg
        · have := List.count_pos_iff.2 hg; omega
        · exact .inr hg
  · have hl := hs.tvs.length
    have hn := (List.getElem?_eq_some_iff.1 hv).1
    by_cases htn : t = n
    · subst htn
      rw [hv] at hu; injection hu with hu; subst hu
      rw [g_set, if_pos ⟨rfl, by omega⟩]
      have := ViewTV.frame tv v hview (.inl hr)
      rwa [set_get_same vs t hv] at this
    · rw [g_set, if_neg (by omega)]
      have := ViewTV.frame tv v (hs.views t u hu) (.inl hr)
      rwa [set_get_same vs n hv] at this

theorem extract_goal {i n rs x} (hs : SR E S vs w φ bs []) (hρ : RhoR ρ vs) (ho : o.op = .extract x i) (hc : chkO x (.t n rs) = true) (h : step S d (.extract i (.t n rs)) = some S') : Goal P ρ o E S' vs d w := by
  have hρx := slotρ hρ hc
  simp only [step] at h
  split at h
  · rename_i ts hS
    have hv := slotv hs (n := n) (by rw [hS]; simp)
    obtain ⟨b0, h1, h2⟩ := hs.slot hv
    rw [hS] at h1 h2
    obtain ⟨arr, ev, h1⟩ := h1
    split at h
    · rename_i y hy
      cases ht : TV.ofCells y.1 y.2 with
      | none => rw [ht] at h; cases h
      | some tv =>
        rw [ht] at h
        simp only [Option.bind_some] at h
        obtain ⟨v, bt, br, k1, k2, k3, k4⟩ := h1.get hy
        have hdead : ∃ bs', TupR E w φ (ts.set i (y.1, y.2.map fun _ => Cell.dead)) arr.toList bs' ∧ ∀ g, bs'.count g = br.count g := by
          obtain ⟨bs', q1, q2⟩ := k4 (y.2.map fun _ => Cell.dead) [] (by
            split at k2
            · rename_i hb; rw [if_pos hb]; obtain ⟨a, e, k⟩ := k2; exact ⟨a, e, deadCells k⟩
            · rename_i hb; rw [if_neg hb]; exact deadCells k2)
          exact ⟨bs', q1, fun g => by have := q2 g; simpa using this⟩
        obtain ⟨bd, d1, d2⟩ := hdead
        obtain ⟨bs1, hs1⟩ := hs.reslot (tv := .tup (ts.set i (y.1, y.2.map fun _ => Cell.dead))) (bt := bd) (br := bt) hv ⟨arr, ev, d1⟩ (fun z hz c hcz => by
          rcases List.mem_or_eq_of_mem_set hz with hz | rfl
          · exact h2 z hz c hcz
          · simp only [List.mem_map] at hcz
            obtain ⟨_, _, rfl⟩ := hcz
            trivial) (by rw [hS]; rfl) (fun b0' hb0' g => by
            have e := TVR.det (tv := .tup ts) ⟨arr, ev, h1⟩ (by rw [← hS]; exact hb0')
            subst e
            have := k3 g; have := d2 g; omega)
        have hnv : ∀ c ∈ y.2, noView c := h2 y (List.mem_of_getElem? hy)
        have hA : ∃ us, AggR E w φ y.1 y.2 v us bt := by
          split at k2
          · rename_i hb; obtain ⟨a, e, k⟩ := k2; exact ⟨a.toList, by rw [if_pos hb, e, toList_toArray'], k⟩
          · rename_i hb; exact ⟨[v], by rw [if_neg hb], k2⟩
        obtain ⟨us, hA⟩ := hA
        refine goal_val (φ := φ) (v := v) ?_ (done_put (bt := bt) hs1 (ofCells_TVR hA ht) (ofCells_view hA.1 (fun j c u a b => ?_) ht) h)
        · rw [ev] at hρx
          rw [Array.getElem?_toList] at k1
          simp [execOp, ho, hρx, Instr.extract, k1]
        · have := hnv c (List.mem_of_getElem? a)
          cases c <;> first | trivial | exact this.elim
    · cases h
  · cases h

theorem field_goal {off n x y t f fs} {fd : Field} {dt : TypeDesc} {i : TypeInfo} (hs : SR E S vs w φ bs []) (hρ : RhoR ρ vs) (ho : o.op = .field t x f) (hc : chkO x y = true) (hu : P.underlying t = some (.struct fs)) (hf : fs[f]? = some fd) (hoff : fd.offset = off)
    (hd : P.underlying fd.type = some dt) (hi : P.info? fd.type = some i) (hn : match n with | none => aggD dt = false | some k => aggD dt = true ∧ i.size = k)
    (h : step S d (.field off n y) = some S') : Goal P ρ o E S' vs d w := by
  subst hoff
  simp only [step] at h
  split at h
  · rename_i cs S1 ht
    split at h
    · rename_i hle
      cases hc' : TV.ofCells n.isSome ((cs.drop fd.offset).take (n.getD 1)) with
      | none => rw [hc'] at h; cases h
      | some tv =>
        rw [hc'] at h
        simp only [Option.bind_some] at h
        obtain ⟨bs1, bc, us, q1, q2, q3, q4⟩ := tAny_sound hs (hρ _ _ hc) ht
        obtain ⟨e1, hcs⟩ := q3
        simp only [if_true] at e1
        have hlen := hcs.length
        have e : cs = cs.take fd.offset ++ ((cs.drop fd.offset).take (n.getD 1) ++ cs.drop (fd.offset + n.getD 1)) := by
          rw [← List.drop_drop, List.take_append_drop, List.take_append_drop]
        rw [e] at hcs
        obtain ⟨u1, u2, b1, b2, hu', rfl, h1, h2⟩ := hcs.split_
        obtain ⟨u3, u4, b3, b4, hu'', rfl, h3, h4⟩ := h2.split_
        have l1 := h1.length
        have l3 := h3.length
        simp at l1 l3
        obtain ⟨e1', e2'⟩ := split_len hu' (n := fd.offset) (by omega)
        obtain ⟨e3', e4'⟩ := split_len hu'' (n := n.getD 1) (by omega)
        have hu3 : u3 = (us.drop fd.offset).take (n.getD 1) := by rw [e3', e2']
        have hviews : ViewsL S1 vs w φ ((cs.drop fd.offset).take (n.getD 1)) u3 := fun j c u a b => by
          rw [drop_take_get] at a
          rw [hu3, drop_take_get] at b
          split at a
          · rename_i hj; rw [if_pos hj] at b; exact q4 _ c u a b
          · cases a
        have hs1 := q1.handLe (hand' := b3 ++ []) (fun g => by simp; omega)
        cases n with
        | none =>
          simp only [Option.getD_none] at *
          obtain ⟨u, rfl⟩ : ∃ u, u3 = [u] := by
            cases u3 with
            | nil => simp at l3; omega
            | cons u us => cases us with
              | nil => exact ⟨u, rfl⟩
              | cons _ _ => simp at l3; omega
          have hget : us[fd.offset]? = some u := by
            have : ([u] : List Value)[0]? = some u := rfl
            rw [hu3, drop_take_get, if_pos (by omega)] at this
            simpa using this
          refine goal_val (φ := φ) (v := u) ?_ (done_put hs1 (ofCells_TVR (agg := false) (us := [u]) ⟨rfl, h3⟩ hc') (ofCells_view (agg := false) (us := [u]) rfl hviews hc') h)
          simp [execOp, ho, e1, Instr.field, run_underlying hu, hf, asAgg, part, r_isAgg hd, hn, hget]
        | some k =>
          simp only [Option.getD_some] at *
          refine goal_val (φ := φ) (v := .agg u3.toArray) ?_ (done_put hs1 (ofCells_TVR (agg := true) (us := u3) ⟨rfl, h3⟩ hc') (ofCells_view (agg := true) (us := u3) rfl hviews hc') h)
          simp [execOp, ho, e1, Instr.field, run_underlying hu, hf, asAgg, part, r_isAgg hd, hn.1, r_size hi, hn.2]
          exact hu3.symm
    · cases h
  · cases h

end
end Go.Proofs.Ytkiliooegoldoaa
