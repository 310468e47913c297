/- append, slice literals, make. -/
import Derived.Test.YtkiliooegoldoaaOps5
set_option linter.unusedVariables false
set_option linter.unusedSimpArgs false
namespace Go.Proofs.Ytkiliooegoldoaa
open Go

section
variable {P : Program} {ρ : Operand → Value} {o : Oper} {E : Env} {S S' : St} {vs : List Value} {w : World} {φ : Nat → Nat} {bs hand : List Nat} {d : Option Nat}

theorem tVals_sound (hs : SR E S vs w φ bs hand) {rs} : ∀ {cs us b l}, CellsR E w φ cs us b → ViewsL S vs w φ cs us → tVals S rs cs = some l →
    ∃ b', CellsR E w φ (l.map valCell) us b' ∧ ∀ g, b'.count g ≤ b.count g := by
  intro cs
  induction cs with
  | nil => intro us b l h _ hl; simp only [tVals, Option.some.injEq] at hl; subst hl; obtain ⟨rfl, rfl⟩ := h; exact ⟨[], ⟨rfl, rfl⟩, fun g => by simp⟩
  | cons c cs ih =>
    intro us b l h hv hl
    obtain ⟨u, us', b1, b2, rfl, rfl, hc, h⟩ := h
    simp only [tVals] at hl
    cases h1 : tVal S rs c with
    | none => rw [h1] at hl; cases hl
    | some x =>
      rw [h1] at hl
      simp only [Option.bind_some] at hl
      cases h2 : tVals S rs cs with
      | none => rw [h2] at hl; cases hl
      | some l' =>
        rw [h2] at hl
        simp only [Option.map_some, Option.some.injEq] at hl
        subst hl
        obtain ⟨b', k, kc⟩ := ih h (fun i c u a b => hv (i + 1) c u (by simpa using a) (by simpa using b)) h2
        have one : ∃ bo, CellR E w φ (valCell x) u bo ∧ ∀ g, bo.count g ≤ b1.count g := by
          cases c with
          | val l p => simp only [tVal, Option.some.injEq] at h1; subst h1; exact ⟨b1, hc, fun g => Nat.le_refl _⟩
          | view r cc path => exact ⟨[], bCell_sound hs hc (hv 0 _ u rfl rfl) h1, fun g => by simp⟩
          | dead => simp [tVal, bCell] at h1
        obtain ⟨bo, k1, k2⟩ := one
        exact ⟨bo ++ b', ⟨u, us', bo, b', rfl, rfl, k1, k⟩, fun g => by have := kc g; have := k2 g; simp; omega⟩

theorem tPV_sound {y v agg l} (hs : SR E S vs w φ bs hand) (hv : OpndR vs y v) (h : tPV S y = some (agg, l, S')) :
    ∃ bs' bc us, SR E S' vs w φ bs' (bc ++ hand) ∧ WeakSt S S' ∧ AggR E w φ agg (l.map valCell) v us bc := by
  unfold tPV at h
  cases ht : tAny S y with
  | none => rw [ht] at h; cases h
  | some r =>
    obtain ⟨agg', cs, S1⟩ := r
    rw [ht] at h
    simp only [Option.bind_some] at h
    cases hl : tVals S1 y.rs cs with
    | none => rw [hl] at h; cases h
    | some l' =>
      rw [hl] at h
      simp only [Option.map_some, Option.some.injEq, Prod.mk.injEq] at h
      obtain ⟨rfl, rfl, rfl⟩ := h
      obtain ⟨bs1, bc, us, q1, q2, q3, q4⟩ := tAny_sound hs hv ht
      obtain ⟨b', k, kc⟩ := tVals_sound q1 q3.2 q4 hl
      exact ⟨bs1, b', us, q1.handLe (fun g => by have := kc g; simp; omega), q2, q3.1, k⟩

/-- A world in which one block has been turned beyond what was protected of it. -/
structure InPl (w w' : World) (φ φ' : Nat → Nat) (g : Nat) : Prop where
  heap : ∀ b, b ≠ g → w'.heap[b]? = w.heap[b]? ∧ φ' b = φ b
  cell : ∀ k x, k < φ g → w.cell? ⟨g, k, none⟩ = some x → w'.cell? ⟨g, k, none⟩ = some x
  phi : φ g ≤ φ' g
  size : w'.heap.size = w.heap.size
  os : w'.os = w.os ∧ w'.tape = w.tape ∧ outw w' = outw w

theorem InPl.cell_ {w' φ' g} (h : InPl w w' φ φ' g) : ∀ b k x, k < φ b → w.cell? ⟨b, k, none⟩ = some x → k < φ' b ∧ w'.cell? ⟨b, k, none⟩ = some x := by
  intro b k x h1 h2
  by_cases hb : b = g
  · subst hb
    exact ⟨Nat.lt_of_lt_of_le h1 h.phi, h.cell k x h1 h2⟩
  · obtain ⟨e1, e2⟩ := h.heap b hb
    exact ⟨by omega, (World.cell?_of_block (w := w) (a := ⟨b, k, none⟩) e1).trans h2⟩

theorem InPl.sr {w' φ' g hand'} (h : InPl w w' φ φ' g) (hs : SR E S vs w φ bs hand) (hg : g ∈ hand) (hh : ∀ x, hand'.count x ≤ hand.count x) : SR E S vs w' φ' bs hand' := by
  have hnot : g ∉ bs := fun k => by
    have := hs.cnt g
    have h1 := List.count_pos_iff.2 k
    have h2 := List.count_pos_iff.2 hg
    omega
  have hown := hs.own g (.inr hg)
  refine hs.world h.cell_ (fun b hb => h.heap b (fun e => hnot (e ▸ hb))) (Nat.le_of_eq h.size.symm) (fun b h1 h2 => h.heap b (fun e => ?_)) (fun x => by have := hs.cnt x; have := hh x; omega) (fun x hx => ?_) h.os
  · subst e
    rcases hown.2 with k | k
    · omega
    · exact h2 k
  · have : x ∈ hand := mem_of_count (by have := hh x; have := List.count_pos_iff.2 hx; omega)
    have := hs.own x (.inr this)
    exact ⟨by rw [h.size]; exact this.1, this.2⟩

theorem okO_not {w' φ' g} (h : InPl w w' φ φ' g) (hg : E.w0.heap.size ≤ g ∨ g ∈ E.lin) : ∀ b k x, E.okO b k → w.cell? ⟨b, k, none⟩ = some x → w'.cell? ⟨b, k, none⟩ = some x := by
  intro b k x ⟨h1, h2, _⟩ hc
  have hb : b ≠ g := by
    rintro rfl
    rcases hg with hg | hg
    · omega
    · exact h2 hg
  exact (World.cell?_of_block (w := w) (a := ⟨b, k, none⟩) (h.heap b hb).1).trans hc

/-- append: the real side, whichever way it goes. -/
theorem append_any {t e ty : TypeId} {i : TypeInfo} {z : Value} {lev l l' : Lev} {sz : Nat} {xs ys : List (List PV)} {vx vy : Value} {bx b_y : List Nat}
    (hs : SR E S vs w φ bs (b_y ++ (bx ++ hand))) (hx : CellR E w φ (.val l (.sl sz xs)) vx bx) (hy : CellR E w φ (.val l' (.sl sz ys)) vy b_y)
    (ht : P.underlying t = some (.slice e)) (hi : P.info? e = some i) (hz : i.zero = some z) (hsz : i.size = sz) (hzs : z.cells.size = sz) (hsz0 : 0 < sz) (hb0 : 0 < i.bytes)
    (ho : isOwn l = true) (hol : isOwn lev = true) (hbase : okBase lev l xs = true) (hsp : okSpread lev l' ys = true) (hlen : (xs.length + ys.length) * i.bytes ≤ 140737488355328) :
    ∃ v w' φ' bt, (Builtin.append_ #[t, t] ty #[vx, vy]).run P w = .ok v w' ∧ SR E S vs w' φ' bs (bt ++ hand) ∧ CellR E w' φ' (.val lev (.sl sz (xs ++ ys))) v bt := by
  obtain ⟨bx', hx', hxc⟩ := ((ownS_iff ho).1 hx).relev hs.hO hbase
  obtain ⟨A, cc, us, by', hvy, hul, hyr, hyc, hrows, hbyc⟩ := spread hs hy hsp hol
  subst hvy
  subst hsz
  have hones := hrows.ones
  -- the hand, cut down
  have hs1 : SR E S vs w φ bs (by' ++ (bx' ++ hand)) := hs.handLe (fun g => by have := hxc g; have := hbyc g; simp; omega)
  rcases hx' with ⟨rfl, rfl, rfl⟩ | ⟨g, n, c, cur, T, b1, rfl, rfl, hxl, hle, hxr, hg, hcur, hφ, hxrows⟩
  · -- nil
    by_cases hm : ys.length = 0
    · have : ys = [] := List.length_eq_zero_iff.1 hm
      subst this
      refine ⟨.slice none 0 0, w, φ, [], by simpa using r_append_none (A := A) (cc := cc) (ty := ty) ht hi, hs1.handLe (fun g => by simp), (ownS_iff hol).2 (.inl ⟨rfl, rfl, rfl⟩)⟩
    · obtain ⟨nc, hnc, hrun⟩ := r_append_grow (w := w) (ty := ty) (B := none) (n := 0) (c := 0) (m := ys.length) (cc := cc) (A := A) (os := []) (us := us) ht hi hz (by simp) (by simp) hul hyc (by omega) hb0 (by simpa using hlen)
      have hG : Gr w (w.drew.alloc (.cells ([].toArray ++ us.toArray ++ Builtin.zeroCells z.cells (nc - (0 + ys.length))) e)) φ (setφ φ w.heap.size (ys.length * i.size)) :=
        (Gr.drew w φ).trans (Gr.alloc w.drew φ _ _)
      have hnew := hs1.newHand (w' := w.drew.alloc (.cells ([].toArray ++ us.toArray ++ Builtin.zeroCells z.cells (nc - (0 + ys.length))) e)) (by simp)
      refine ⟨_, _, setφ φ w.heap.size (ys.length * i.size), w.heap.size :: by', hrun, hG.sr (hand' := w.heap.size :: (by' ++ hand)) (hs1.handLe (fun g => Nat.le_refl _)) (by simpa using hnew.1) (by simpa using hnew.2), (ownS_iff hol).2 (.inr ⟨w.heap.size, 0 + ys.length, nc, _, e, by', rfl, rfl, by simp, by omega, by simpa using hyr, heap_alloc_new w.drew _, ?_, ?_, ?_⟩)⟩
      · simp only [Array.size_append, List.size_toArray, List.length_nil, size_zeroCells, hzs, hul]
        rw [Nat.zero_add, ← Nat.add_mul]; congr 1; omega
      · rw [setφ_same, Nat.zero_add]
      · have hr2 := hrows.mono (fun g k u _ h2 => hG.cell' g k u h2) (fun g k u h1 h2 => hG.cell g k u h1 h2) (fun g hg => hG.heap g (hs1.own g (.inr (by simp [hg]))).1)
        have : (([].toArray ++ us.toArray ++ Builtin.zeroCells z.cells (nc - (0 + ys.length))).toList.take ((0 + ys.length) * i.size)) = us := by
          rw [Array.toList_append, Array.toList_append]
          simp only [List.nil_append, Nat.zero_add]
          rw [← hul, List.take_left]
        rw [this]
        simpa using hr2
  · -- a block
    have hgh : g ∈ by' ++ (g :: b1 ++ hand) := by simp
    have hcells : ∀ (k : Nat) u, (cur.toList.take (n * i.size))[k]? = some u → ∃ g' o, some (⟨g, 0, none⟩ : Addr) = some ⟨g', o, none⟩ ∧ w.cell? ⟨g', o + k, none⟩ = some u := fun k u hk => ⟨g, 0, rfl, by
      rw [Nat.zero_add, cell_of_heap hg]
      rw [List.getElem?_take] at hk
      split at hk
      · simpa using hk
      · cases hk⟩
    have hnle : n * i.size ≤ cur.size := by rw [hcur]; exact Nat.mul_le_mul_right _ hle
    have htl : (cur.toList.take (n * i.size)).length = n * i.size := by simp; omega
    by_cases hroom : n + ys.length ≤ c
    · -- there is room
      have hrun := r_append_room (w := w) (ty := ty) (cc := cc) (A := A) ht hi hg hcur hul hyc hones hroom
      have hle2 : n * i.size + us.length ≤ cur.size := by rw [hul, hcur, ← Nat.add_mul]; exact Nat.mul_le_mul_right _ hroom
      have hI : InPl w (w.setRow g (cur.toList.take (n * i.size) ++ us ++ cur.toList.drop (n * i.size + us.length)).toArray) φ (setφ φ g ((n + ys.length) * i.size)) g := by
        refine ⟨fun b hb => ⟨setRow_other w g b _ hb, setφ_ne φ _ hb⟩, fun k x hk hc => ?_, ?_, by simp, rfl, rfl, outw_setRow _ _ _⟩
        · rw [cell_of_heap (setRow_heap w g cur _ T (0, 0) hg)]
          rw [cell_of_heap hg] at hc
          rw [hφ] at hk
          rw [List.getElem?_toArray, List.append_assoc, List.getElem?_append_left (by omega), List.getElem?_take, if_pos hk]
          simpa using hc
        · rw [setφ_same, hφ]; exact Nat.mul_le_mul_right _ (by omega)
      have hgo := (hs1.own g (.inr hgh)).2
      have hsI := hI.sr (hand' := g :: (b1 ++ by') ++ hand) hs1 hgh (fun x => by simp [List.count_cons]; omega)
      have hne : ∀ x ∈ b1 ++ by', x ≠ g := by
        intro x hxm e
        rw [e] at hxm
        have := hs1.cnt g
        have h1 := List.count_pos_iff.2 hxm
        simp [List.count_cons] at this h1
        omega
      have m1 := hxrows.mono (okO_not hI hgo) (fun g k u h1 h2 => hI.cell_ g k u h1 h2) (fun x hx => hI.heap x (hne x (by simp [hx])))
      have m2 := hrows.mono (okO_not hI hgo) (fun g k u h1 h2 => hI.cell_ g k u h1 h2) (fun x hx => hI.heap x (hne x (by simp [hx])))
      refine ⟨_, _, setφ φ g ((n + ys.length) * i.size), g :: (b1 ++ by'), hrun, hsI, (ownS_iff hol).2 (.inr ⟨g, n + ys.length, c, _, T, b1 ++ by', rfl, rfl, by simp [hxl], hroom, ?_, setRow_heap w g cur _ T (0, 0) hg, ?_, setφ_same _ _ _, ?_⟩)⟩
      · intro r hr
        rcases List.mem_append.1 hr with hr | hr
        · exact hxr r hr
        · exact hyr r hr
      · simp; rw [← hcur]; omega
      · have : (((cur.toList.take (n * i.size) ++ us ++ cur.toList.drop (n * i.size + us.length)).toArray).toList.take ((n + ys.length) * i.size)) = cur.toList.take (n * i.size) ++ us := by
          rw [Nat.add_mul, ← hul]
          have hl2 : (cur.toList.take (n * i.size) ++ us).length = n * i.size + us.length := by rw [List.length_append, htl]
          rw [← hl2]
          exact List.take_left
        rw [this, List.flatten_append]
        exact m1.append_ m2
    · -- it grows
      obtain ⟨nc, hnc, hrun⟩ := r_append_grow (w := w) (ty := ty) (B := some ⟨g, 0, none⟩) (n := n) (c := c) (m := ys.length) (cc := cc) (A := A) (os := cur.toList.take (n * i.size)) (us := us) ht hi hz htl hcells hul hyc (by omega) hb0 (by rw [← hxl]; exact hlen)
      have hG : Gr w (w.drew.alloc (.cells ((cur.toList.take (n * i.size)).toArray ++ us.toArray ++ Builtin.zeroCells z.cells (nc - (n + ys.length))) e)) φ (setφ φ w.heap.size ((n + ys.length) * i.size)) :=
        (Gr.drew w φ).trans (Gr.alloc w.drew φ _ _)
      have hs2 : SR E S vs w φ bs ((b1 ++ by') ++ hand) := hs1.handLe (fun x => by simp [List.count_cons]; omega)
      have hnew := hs2.newHand (w' := w.drew.alloc (.cells ((cur.toList.take (n * i.size)).toArray ++ us.toArray ++ Builtin.zeroCells z.cells (nc - (n + ys.length))) e)) (by simp)
      have lt : ∀ x ∈ b1 ++ by', x < w.heap.size := fun x hx => (hs2.own x (.inr (List.mem_append_left _ hx))).1
      have m1 := hxrows.mono (fun g k u _ h2 => hG.cell' g k u h2) (fun g k u h1 h2 => hG.cell g k u h1 h2) (fun x hx => hG.heap x (lt x (by simp [hx])))
      have m2 := hrows.mono (fun g k u _ h2 => hG.cell' g k u h2) (fun g k u h1 h2 => hG.cell g k u h1 h2) (fun x hx => hG.heap x (lt x (by simp [hx])))
      refine ⟨_, _, setφ φ w.heap.size ((n + ys.length) * i.size), w.heap.size :: (b1 ++ by'), hrun, hG.sr hs2 hnew.1 hnew.2, (ownS_iff hol).2 (.inr ⟨w.heap.size, n + ys.length, nc, _, e, b1 ++ by', rfl, rfl, by simp [hxl], hnc, ?_, heap_alloc_new w.drew _, ?_, setφ_same _ _ _, ?_⟩)⟩
      · intro r hr
        rcases List.mem_append.1 hr with hr | hr
        · exact hxr r hr
        · exact hyr r hr
      · simp only [Array.size_append, List.size_toArray, size_zeroCells, hzs, hul, htl]
        rw [← Nat.add_mul, ← Nat.add_mul]; congr 1; omega
      · have : (((cur.toList.take (n * i.size)).toArray ++ us.toArray ++ Builtin.zeroCells z.cells (nc - (n + ys.length))).toList.take ((n + ys.length) * i.size)) = cur.toList.take (n * i.size) ++ us := by
          rw [Nat.add_mul, ← hul, Array.toList_append, Array.toList_append]
          have hl2 : (cur.toList.take (n * i.size) ++ us).length = n * i.size + us.length := by rw [List.length_append, htl]
          rw [← hl2]
          exact List.take_left
        rw [this, List.flatten_append]
        exact m1.append_ m2

theorem AggR.single {v us b x} (h : AggR E w φ false [valCell x] v us b) : CellR E w φ (.val x.1 x.2) v b := by
  obtain ⟨h1, u, us', b1, b2, h2, h3, hc, h4, h5⟩ := h
  simp at h1
  subst h1
  simp at h2
  obtain ⟨rfl, rfl⟩ := h2
  subst h3; subst h5
  simpa [valCell] using hc

theorem append_goal {lev sz bytes x y x' y' t e} {c : Call} {i : TypeInfo} {z : Value} (hs : SR E S vs w φ bs []) (hρ : RhoR ρ vs) (ho : o.op = .call c) (hcal : c.callee = .builtin .append) (ha : c.args = #[x, y]) (htt : c.argTypes = #[t, t])
    (hc : chkO x x' = true) (hc' : chkO y y' = true) (ht : P.underlying t = some (.slice e)) (hi : P.info? e = some i) (hz : i.zero = some z) (hsz : i.size = sz) (hzs : z.cells.size = sz) (hsz0 : 0 < sz) (hb0 : 0 < bytes) (hby : i.bytes = bytes)
    (h : step S d (.append lev sz bytes x' y') = some S') : Goal P ρ o E S' vs d w := by
  obtain ⟨cal, args, tys⟩ := c
  simp only at hcal ha htt
  subst hcal; subst ha; subst htt; subst hby
  simp only [step] at h
  cases h1 : tPV S x' with
  | none => rw [h1] at h; cases h
  | some r1 =>
    obtain ⟨ag1, l1, S1⟩ := r1
    rw [h1] at h
    simp only [Option.bind_some] at h
    cases h2 : tPV S1 y' with
    | none => rw [h2] at h; cases h
    | some r2 =>
      obtain ⟨ag2, l2, S2⟩ := r2
      rw [h2] at h
      simp only [Option.bind_some] at h
      split at h
      · rename_i l sz1 xs l' sz2 ys
        split at h
        · rename_i hcond
          obtain ⟨rfl, rfl, hown, hol, hbase, hsp, hlen⟩ := hcond
          obtain ⟨bs1, bx, ux, p1, p2, p3⟩ := tPV_sound hs (hρ _ _ hc) h1
          obtain ⟨bs2, b_y, uy, q1, q2, q3⟩ := tPV_sound p1 (hρ _ _ hc') h2
          obtain ⟨v, w', φ', bt, hrun, hsr, hcell⟩ := append_any (ty := o.type) (lev := lev) q1 p3.single q3.single ht hi hz hsz hzs hsz0 hb0 hown hol hbase hsp hlen
          refine goal_new (v := v) (w' := w') (φ' := φ') (by simp [execOp, ho, resolve, invoke, builtin, hrun]) ?_
          exact done_put (bt := bt) (tv := .one (.val lev (.sl sz2 (xs ++ ys)))) hsr hcell trivial h
        · cases h
      · cases h

/-! ### literals, make -/
theorem rows_flatten_set {α : Type} {sz : Nat} : ∀ {rows : List (List α)} {k : Nat} {r : List α}, (∀ x ∈ rows, x.length = sz) → k < rows.length →
    (rows.set k r).flatten = rows.flatten.take (k * sz) ++ r ++ rows.flatten.drop (k * sz + sz) := by
  intro rows
  induction rows with
  | nil => intro k r _ h; simp at h
  | cons x rows ih =>
    intro k r hl hk
    have hx := hl x (by simp)
    cases k with
    | zero =>
      simp only [List.set_cons_zero, List.flatten_cons, Nat.zero_mul, List.take_zero, List.nil_append, Nat.zero_add]
      rw [← hx, List.drop_left]
    | succ k =>
      simp only [List.set_cons_succ, List.flatten_cons]
      rw [ih (fun y hy => hl y (by simp [hy])) (by simpa using hk)]
      have e1 : (k + 1) * sz = x.length + k * sz := by rw [hx, Nat.succ_mul]; omega
      rw [e1, Nat.add_assoc, List.take_append, List.drop_append]
      rw [List.take_of_length_le (l := x) (by omega), List.drop_of_length_le (l := x) (by omega)]
      simp [Nat.add_sub_cancel_left, List.append_assoc]

theorem flatten_len {α : Type} {sz : Nat} : ∀ {rows : List (List α)}, (∀ x ∈ rows, x.length = sz) → rows.flatten.length = rows.length * sz := by
  intro rows
  induction rows with
  | nil => intro _; simp
  | cons x rows ih => intro h; simp [h x (by simp), ih (fun r hr => h r (by simp [hr])), Nat.succ_mul, Nat.add_comm]
theorem set_uniform {α : Type} {sz : Nat} {rows : List (List α)} {k : Nat} {r : List α} (h : ∀ x ∈ rows, x.length = sz) (hr : r.length = sz) : ∀ x ∈ rows.set k r, x.length = sz := by
  intro x hx
  rcases List.mem_or_eq_of_mem_set hx with hx | rfl
  · exact h x hx
  · exact hr

def chkRows : List (Nat × Operand) → List (Nat × AOpnd) → Bool
  | [], [] => true
  | (i, x) :: ps, (j, y) :: qs => i == j && chkO x y && chkRows ps qs
  | _, _ => false

theorem layRows_sound (hρ : RhoR ρ vs) {sz : Nat} : ∀ {rp : List (Nat × Operand)} {ap : List (Nat × AOpnd)} {S S' : St} {rows rows' : List (List (Lev × PV))} {arr : Array Value} {bs b},
    chkRows rp ap = true → SR E S vs w φ bs b → (∀ r ∈ rows, r.length = sz) → CellsR E w φ (rows.flatten.map valCell) arr.toList b → layRows S sz rows ap = some (rows', S') →
    ∃ arr' bs' b', Instr.fill (fun i => some (i * sz, sz)) arr (rp.map fun (i, x) => (i, ρ x)) = some arr' ∧ SR E S' vs w φ bs' b' ∧ (∀ r ∈ rows', r.length = sz) ∧ rows'.length = rows.length ∧ CellsR E w φ (rows'.flatten.map valCell) arr'.toList b' := by
  intro rp
  induction rp with
  | nil =>
    intro ap S S' rows rows' arr bs b hc hs hu h hl
    cases ap with
    | cons _ _ => simp [chkRows] at hc
    | nil =>
      simp only [layRows, Option.some.injEq, Prod.mk.injEq] at hl
      obtain ⟨rfl, rfl⟩ := hl
      exact ⟨arr, bs, b, rfl, hs, hu, rfl, h⟩
  | cons p rp ih =>
    intro ap S S' rows rows' arr bs b hc hs hu h hl
    obtain ⟨i, x⟩ := p
    cases ap with
    | nil => simp [chkRows] at hc
    | cons q ap =>
      obtain ⟨j, y⟩ := q
      simp only [chkRows, Bool.and_eq_true, beq_iff_eq] at hc
      obtain ⟨⟨rfl, hxy⟩, hc⟩ := hc
      simp only [layRows] at hl
      cases ht : tPV S y with
      | none => rw [ht] at hl; cases hl
      | some r =>
        obtain ⟨agg, l, S1⟩ := r
        rw [ht] at hl
        simp only [Option.bind_some] at hl
        split at hl
        · rename_i hcond
          obtain ⟨hn, hi⟩ := hcond
          obtain ⟨bs1, bc, us, q1, q2, q3⟩ := tPV_sound hs (hρ _ _ hxy) ht
          have hones := CellsR.ones q1 q3.2 (by intro c hc; simp only [List.mem_map] at hc; obtain ⟨x, _, rfl⟩ := hc; simp [valCell])
          have hcl := q3.cells_ hones
          have hul := q3.2.length
          rw [List.length_map] at hul
          have hfl : rows.flatten.length = rows.length * sz := flatten_len hu
          have hle : i * sz + sz ≤ rows.length * sz := by rw [← Nat.succ_mul]; exact Nat.mul_le_mul_right _ hi
          have hal := h.length
          simp only [List.length_map] at hal
          have hlay : lay (rows.flatten.map valCell) (i * sz) (l.map valCell) = some ((rows.set i l).flatten.map valCell) := by
            unfold lay
            rw [if_pos (by rw [List.length_map, List.length_map, hfl, hn]; omega), rows_flatten_set hu hi]
            simp [List.map_take, List.map_drop, hn]
          obtain ⟨m1, b1, m2, m3⟩ := h.lay_ q3.2 hlay
          have hs1 := q1.handLe (hand' := b1) (fun g => by have := m3 g; simp; omega)
          obtain ⟨arr', bs', b', k1, k2, k3, k4, k5⟩ := ih (arr := (arr.toList.take (i * sz) ++ us ++ arr.toList.drop (i * sz + us.length)).toArray) hc hs1 (set_uniform hu hn) (by simpa using m2) hl
          refine ⟨arr', bs', b', ?_, k2, k3, by simpa using k4, k5⟩
          simp only [List.map_cons]
          have hsz : (ρ x).cells.size = us.length := by rw [← hcl, Array.length_toList]
          rw [fill_cons (off := i * sz) (size := sz) rfl (by omega) (by rw [hsz]; simpa using m1), hcl, hsz]
          exact k1
        · cases hl

theorem made_get {z : Array Value} {n k : Nat} (hk : k < n) : (madeCells z n).toList[k]? = some z[k % z.size]! := by
  rw [Array.getElem?_toList]
  unfold madeCells
  simp [hk]

theorem zeroRows {α : Type} {sz n : Nat} {zs : List α} (hl : zs.length = sz) {k : Nat} (hk : k < n * sz) : (List.replicate n zs).flatten[k]? = zs[k % sz]? := by
  have h0 : 0 < sz := by
    rcases Nat.eq_zero_or_pos sz with h | h
    · subst h; simp at hk
    · exact h
  have hq : k / sz < n := Nat.div_lt_of_lt_mul (by rw [Nat.mul_comm]; exact hk)
  have hm := Nat.mod_lt k h0
  have hdm : k / sz * sz + k % sz = k := by rw [Nat.mul_comm]; exact Nat.div_add_mod k sz
  have := flatten_get (sz := sz) (xs := List.replicate n zs) (i := k / sz) (j := k % sz) (r := zs) (q := zs[k % sz]) (fun r hr => by rw [List.eq_of_mem_replicate hr]; exact hl) (by rw [List.getElem?_replicate, if_pos hq]) (List.getElem?_eq_getElem (by omega))
  rw [hdm] at this
  rw [this, List.getElem?_eq_getElem (by omega)]

theorem zero_get {z : Array Value} {zs : List PV} {sz n k : Nat} (hc : chkCells z.toList zs = true) (hz : z.size = sz) (hk : k < n * sz) {p : PV} (hp : zs[k % sz]? = some p) {u : Value} (hu : (madeCells z (n * sz)).toList[k]? = some u) : ConstR p u := by
  rw [made_get hk] at hu
  injection hu with hu
  have hlt : k % sz < z.size := by
    have := (List.getElem?_eq_some_iff.1 hp).1
    have := chkCells_len hc
    simp at this
    omega
  refine chkCells_get hc (i := k % sz) ?_ hp
  rw [Array.getElem?_toList, Array.getElem?_eq_getElem hlt, ← hu, hz, getElem!_pos z (k % sz) hlt]

theorem zerosR {z : Array Value} {zs : List PV} {sz n : Nat} (hc : chkCells z.toList zs = true) (hz : z.size = sz) : CellsR E w φ ((List.replicate n (zs.map fun p => (Lev.deep, p))).flatten.map valCell) (madeCells z (n * sz)).toList [] := by
  have hl : zs.length = sz := by have := chkCells_len hc; simp at this; omega
  refine CellsR.ofGet ?_ fun k c u a b => ?_
  · rw [List.length_map, flatten_len (sz := sz) (fun r hr => by rw [List.eq_of_mem_replicate hr]; simp [hl])]
    simp [size_madeCells]
  · have hk : k < n * sz := by have := (List.getElem?_eq_some_iff.1 b).1; simpa [size_madeCells] using this
    rw [List.getElem?_map, zeroRows (sz := sz) (by simp [hl]) hk, List.getElem?_map] at a
    cases hp : zs[k % sz]? with
    | none => rw [hp] at a; cases a
    | some p =>
      rw [hp] at a
      injection a with a
      subst a
      exact (zero_get hc hz hk hp b).own w φ

theorem map_snd_flatten (rows : List (List (Lev × PV))) : (rows.map fun r => r.map (·.2)).flatten = rows.flatten.map (·.2) := by
  induction rows with
  | nil => rfl
  | cons r rows ih => simp only [List.map_cons, List.flatten_cons, List.map_append, ih]
theorem okCells_flatten {lev} {rows : List (List (Lev × PV))} (h : rows.all (okCells lev) = true) : okCells lev rows.flatten = true := by
  induction rows with
  | nil => rfl
  | cons r rows ih =>
    simp only [List.all_cons, Bool.and_eq_true] at h
    simp only [List.flatten_cons, okCells, List.all_append, Bool.and_eq_true]
    exact ⟨h.1, ih h.2⟩

theorem mkSl_goal {lev sz zs n ps t e rp z} {i : TypeInfo} (hs : SR E S vs w φ bs []) (hρ : RhoR ρ vs) (ho : o.op = .buildSlice t n rp) (hu : P.underlying t = some (.slice e)) (hi : P.info? e = some i) (hz : i.zero = some z) (hsz : i.size = sz) (h0 : 0 < sz)
    (hzs : z.cells.size = sz) (hsmall : n * sz ≤ 16777216) (hzc : chkCells z.cells.toList zs = true) (hc : chkRows rp.toList ps = true) (hlev : isOwn lev = true)
    (h : step S d (.mkSl lev sz zs n ps) = some S') : Goal P ρ o E S' vs d w := by
  subst hsz
  simp only [step] at h
  cases hl : layRows S i.size (List.replicate n (zs.map fun z => (Lev.deep, z))) ps with
  | none => rw [hl] at h; cases h
  | some y =>
    obtain ⟨rows', S1⟩ := y
    rw [hl] at h
    simp only [Option.bind_some] at h
    split at h
    · rename_i hcond
      obtain ⟨hzl, hok⟩ := hcond
      obtain ⟨arr', bs', b', k1, k2, k3, k4, k5⟩ := layRows_sound hρ (arr := madeCells z.cells (n * i.size)) hc hs (fun r hr => by rw [List.eq_of_mem_replicate hr]; simpa using hzl) (zerosR hzc hzs) hl
      simp only [List.length_replicate] at k4
      have hrun : (Instr.buildSlice t n (rp.map fun (i, x) => (i, ρ x))).run P w = .ok (.slice (some ⟨w.heap.size, 0, none⟩) n n) (w.alloc (.cells arr' e)) := by
        by_cases hn : n * i.size = 0
        · have hn0 : n = 0 := by rcases Nat.mul_eq_zero.1 hn with h | h <;> omega
          subst hn0
          rw [Nat.zero_mul] at k1
          have e1 : madeCells z.cells 0 = #[] := by simp [madeCells]
          rw [e1] at k1
          have k1' : Instr.fill (fun j => some (j * i.size, i.size)) #[] (rp.toList.map fun x => (x.1, ρ x.2)) = some arr' := k1
          simp [Instr.buildSlice, run_underlying hu, sizeOf, typeInfo, hi, newRow, Array.range_zero', k1']
        · exact run_buildSlice w t e n _ arr' i z hu hi hz (by omega) hn (by rw [Array.toList_map]; exact k1)
      obtain ⟨b2, q1, q2⟩ := rowsOf k2.hO k5 (okCells_flatten hok) hlev
      have hs1 := k2.handLe (hand' := b2) q2
      obtain ⟨n1, n2⟩ := hs1.newHand (w' := w.alloc (.cells arr' e)) (by simp)
      have hG := Gr.alloc w φ (.cells arr' e) (n * i.size)
      have hs2 := hG.sr hs1 n1 n2
      have q3 := q1.mono (fun g k u _ h2 => hG.cell' g k u h2) (fun g k u h1 h2 => hG.cell g k u h1 h2) (fun x hx => hG.heap x (hs1.own x (.inr hx)).1)
      have hal := k5.length
      rw [List.length_map, flatten_len k3, k4] at hal
      simp at hal
      refine goal_new (v := .slice (some ⟨w.heap.size, 0, none⟩) n n) (w' := w.alloc (.cells arr' e)) (φ' := setφ φ w.heap.size (n * i.size)) (by simp [execOp, ho, hrun]) ?_
      refine done_put (bt := w.heap.size :: b2) (tv := .one (.val lev (.sl i.size (rows'.map fun r => r.map (·.2))))) (by simpa using hs2) ?_ trivial h
      refine (ownS_iff hlev).2 (.inr ⟨w.heap.size, n, n, arr', e, b2, rfl, rfl, by simpa using k4, Nat.le_refl _, fun r hr => ?_, heap_alloc_new w _, hal.symm, setφ_same _ _ _, ?_⟩)
      · simp only [List.mem_map] at hr
        obtain ⟨r', hr', rfl⟩ := hr
        simpa using k3 r' hr'
      · rw [map_snd_flatten, List.take_of_length_le (by simp; omega)]
        exact q3
    · cases h

theorem RowsR.ofGet {lev} (hl : isOwn lev = true) : ∀ {ps us}, ps.length = us.length → (∀ (i : Nat) p u, ps[i]? = some p → us[i]? = some u → zeroPV p = true ∧ ConstR p u) → RowsR E w φ lev ps us [] := by
  intro ps
  induction ps with
  | nil => intro us h _; cases us <;> simp at h; cases lev <;> first | exact .nil | exact ⟨.nil, rfl⟩
  | cons p ps ih =>
    intro us h k
    cases us with
    | nil => simp at h
    | cons u us =>
      obtain ⟨k1, k2⟩ := k 0 p u rfl rfl
      have hO := k2.own w φ
      have one : RowsR E w φ lev [p] [u] [] := by
        rcases k2 with ⟨hf, hv⟩ | ⟨sz, rfl, rfl⟩
        · exact flats (OwL.reads hO) (by simpa using hf) lev
        · cases lev with
          | deep => exact hO
          | oldR => exact ⟨.sl (cvs := []) rfl (Nat.le_refl _) (by simp) (by simp) (by simpa using RdL.nil) .nil, rfl⟩
          | _ => exact ⟨.sl (cvs := []) rfl (Nat.le_refl _) (by simp) (by simp) (by simpa using RdL.nil) .nil, rfl⟩
      exact one.append_ (ih (by simpa using h) fun i p u a b => k (i + 1) p u (by simpa using a) (by simpa using b))

theorem make_goal {lev sz zs x t e y cp z} {i : TypeInfo} (hs : SR E S vs w φ bs []) (hρ : RhoR ρ vs) (ho : o.op = .makeSlice t y cp) (hcp : ρ cp = ρ y) (hu : P.underlying t = some (.slice e)) (hi : P.info? e = some i) (hz : i.zero = some z) (hsz : i.size = sz)
    (hzs : z.cells.size = sz) (hby : i.bytes ≤ 256) (hzc : chkCells z.cells.toList zs = true) (hc : chkO y x = true)
    (h : step S d (.make lev sz zs x) = some S') : Goal P ρ o E S' vs d w := by
  subst hsz
  simp only [step] at h
  split at h
  · rename_i n hn
    split at h
    · rename_i hc1
      split at h
      · rename_i hc2
        obtain ⟨hzl, hle⟩ := hc2
        simp only [Bool.and_eq_true] at hc1
        obtain ⟨hlev, hall⟩ := hc1
        obtain ⟨k, hk⟩ := natOf_sound hs (hρ _ _ hc) hn
        have hb : (i.bytes : Int) * (n : Int) ≤ 281474976710656 := by
          have h1 : i.bytes * n ≤ 256 * 1099511627776 := Nat.mul_le_mul hby hle
          have h2 : ((i.bytes * n : Nat) : Int) ≤ 281474976710656 := by omega
          rwa [Int.natCast_mul] at h2
        have hrun := run_make (P := P) w t e i z hu hi hz k k n n (by omega) (Int.le_refl _) hb (by omega)
        simp only [Int.toNat_natCast] at hrun
        have hG := Gr.alloc w φ (.cells (madeCells z.cells (n * i.size)) e) (n * i.size)
        obtain ⟨n1, n2⟩ := hs.newHand (w' := w.alloc (.cells (madeCells z.cells (n * i.size)) e)) (by simp)
        have hs2 := hG.sr hs n1 n2
        refine goal_new (v := .slice (some ⟨w.heap.size, 0, none⟩) n n) (w' := w.alloc (.cells (madeCells z.cells (n * i.size)) e)) (φ' := setφ φ w.heap.size (n * i.size)) (by simp [execOp, ho, hcp, hk, hrun]) ?_
        refine done_put (bt := [w.heap.size]) (tv := .one (.val lev (.sl i.size (List.replicate n zs)))) hs2 ?_ trivial h
        have hrl : ∀ r ∈ List.replicate n zs, r.length = i.size := fun r hr => by rw [List.eq_of_mem_replicate hr]; exact hzl
        refine (ownS_iff hlev).2 (.inr ⟨w.heap.size, n, n, _, e, [], rfl, rfl, by simp, Nat.le_refl _, hrl, heap_alloc_new w _, by simp [size_madeCells], setφ_same _ _ _, ?_⟩)
        rw [List.take_of_length_le (by simp [size_madeCells])]
        refine RowsR.ofGet hlev (by rw [flatten_len hrl]; simp [size_madeCells]) fun k p u a b => ?_
        have hk : k < n * i.size := by have := (List.getElem?_eq_some_iff.1 b).1; simpa [size_madeCells] using this
        rw [zeroRows (sz := i.size) hzl hk] at a
        exact ⟨List.all_eq_true.1 hall p (List.mem_of_getElem? a), zero_get hzc hzs hk a b⟩
      · cases h
    · cases h
  · cases h

end
end Go.Proofs.Ytkiliooegoldoaa
