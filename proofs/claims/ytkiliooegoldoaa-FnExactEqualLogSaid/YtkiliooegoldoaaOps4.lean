/- Operations that make memory. -/
import Derived.Test.YtkiliooegoldoaaOps3
import Derived.Great.BuildSlice
set_option linter.unusedVariables false
set_option linter.unusedSimpArgs false
namespace Go.Proofs.Ytkiliooegoldoaa
open Go

/-! ### A world that has only grown -/
structure Gr (w w' : World) (φ φ' : Nat → Nat) : Prop where
  heap : ∀ g, g < w.heap.size → w'.heap[g]? = w.heap[g]? ∧ φ' g = φ g
  size : w.heap.size ≤ w'.heap.size
  os : w'.os = w.os ∧ w'.tape = w.tape ∧ outw w' = outw w

theorem Gr.cell {w w' φ φ'} (h : Gr w w' φ φ') : ∀ g k x, k < φ g → w.cell? ⟨g, k, none⟩ = some x → k < φ' g ∧ w'.cell? ⟨g, k, none⟩ = some x := by
  intro g k x h1 h2
  obtain ⟨e1, e2⟩ := h.heap g (World.block_lt_of_cell? w ⟨g, k, none⟩ h2)
  exact ⟨by omega, (World.cell?_of_block (w := w) (a := ⟨g, k, none⟩) e1).trans h2⟩
theorem Gr.cell' {w w' φ φ'} (h : Gr w w' φ φ') : ∀ g k x, w.cell? ⟨g, k, none⟩ = some x → w'.cell? ⟨g, k, none⟩ = some x := by
  intro g k x h2
  obtain ⟨e1, e2⟩ := h.heap g (World.block_lt_of_cell? w ⟨g, k, none⟩ h2)
  exact (World.cell?_of_block (w := w) (a := ⟨g, k, none⟩) e1).trans h2
theorem Gr.cells {E w w' φ φ' cs us b} (h : Gr w w' φ φ') (hb : ∀ g ∈ b, g < w.heap.size) (k : CellsR E w φ cs us b) : CellsR E w' φ' cs us b :=
  k.mono (fun g k u _ h2 => h.cell' g k u h2) (fun g k u h1 h2 => h.cell g k u h1 h2) (fun g hg => h.heap g (hb g hg))
theorem Gr.tv {E w w' φ φ' tv v b} (h : Gr w w' φ φ') (hb : ∀ g ∈ b, g < w.heap.size) (k : TVR E w φ tv v b) : TVR E w' φ' tv v b :=
  k.mono (fun g k u _ h2 => h.cell' g k u h2) (fun g k u h1 h2 => h.cell g k u h1 h2) (fun g hg => h.heap g (hb g hg))
theorem Gr.sr {E S vs w w' φ φ' bs hand hand'} (h : Gr w w' φ φ') (hs : SR E S vs w φ bs hand)
    (hcnt : ∀ g, bs.count g + hand'.count g ≤ 1) (hh : ∀ g ∈ hand', g < w'.heap.size ∧ (E.w0.heap.size ≤ g ∨ g ∈ E.lin)) : SR E S vs w' φ' bs hand' :=
  hs.grow h.heap h.size hcnt hh h.os
theorem Gr.view {E S vs w w' φ φ' bs hand c v} (h : Gr w w' φ φ') (hs : SR E S vs w φ bs hand) (k : ViewC S vs w φ c v) : ViewC S vs w' φ' c v :=
  ViewC.world h.cell (fun t cs a h1 h2 => (h.heap _ (hs.own _ (.inl (hs.boxOwn t cs a h1 h2))).1).1) k
theorem Gr.refl (w : World) (φ : Nat → Nat) : Gr w w φ φ := ⟨fun _ _ => ⟨rfl, rfl⟩, Nat.le_refl _, rfl, rfl, rfl⟩
theorem Gr.trans {a b c : World} {φ φ' φ''} (h : Gr a b φ φ') (k : Gr b c φ' φ'') : Gr a c φ φ'' :=
  ⟨fun g hg => by
    have h1 := h.heap g hg
    have h2 := k.heap g (Nat.lt_of_lt_of_le hg h.size)
    exact ⟨h2.1.trans h1.1, h2.2.trans h1.2⟩, Nat.le_trans h.size k.size, k.os.1.trans h.os.1, k.os.2.1.trans h.os.2.1, k.os.2.2.trans h.os.2.2⟩

/-- One new block, so much of it protected. -/
def setφ (φ : Nat → Nat) (g n : Nat) : Nat → Nat := fun b => if b = g then n else φ b
theorem setφ_same (φ : Nat → Nat) (g n : Nat) : setφ φ g n g = n := by simp [setφ]
theorem setφ_ne (φ : Nat → Nat) {g b : Nat} (n : Nat) (h : b ≠ g) : setφ φ g n b = φ b := by simp [setφ, h]
theorem Gr.alloc (w : World) (φ : Nat → Nat) (o : Obj) (n : Nat) (ho : outw (w.alloc o) = outw w := by exact outw_alloc _ _ _) : Gr w (w.alloc o) φ (setφ φ w.heap.size n) :=
  ⟨fun g hg => ⟨heap_alloc_old w o hg, setφ_ne φ n (by omega)⟩, by simp, rfl, rfl, ho⟩
theorem Gr.drew (w : World) (φ : Nat → Nat) : Gr w w.drew φ φ := ⟨fun g hg => ⟨rfl, rfl⟩, Nat.le_refl _, rfl, rfl, rfl⟩

theorem SR.newHand {E S vs w φ bs hand} (hs : SR E S vs w φ bs hand) {w' : World} (hlt : w.heap.size < w'.heap.size) :
    (∀ g, bs.count g + (w.heap.size :: hand).count g ≤ 1) ∧ ∀ g ∈ w.heap.size :: hand, g < w'.heap.size ∧ (E.w0.heap.size ≤ g ∨ g ∈ E.lin) := by
  constructor
  · intro g
    rw [List.count_cons]
    have := hs.cnt g
    by_cases hg : w.heap.size = g
    · subst hg
      have h1 : w.heap.size ∉ bs := fun h => by have := (hs.own _ (.inl h)).1; omega
      have h2 : w.heap.size ∉ hand := fun h => by have := (hs.own _ (.inr h)).1; omega
      rw [count_zero_of h1, count_zero_of h2]
      simp
    · have : (w.heap.size == g) = false := by simp [hg]
      simp [this]
      omega
  · intro g hg
    rcases List.mem_cons.1 hg with rfl | hg
    · exact ⟨hlt, .inl hs.size⟩
    · have := hs.own g (.inr hg)
      exact ⟨by omega, this.2⟩

theorem SR.handLe {E S vs w φ bs hand hand'} (hs : SR E S vs w φ bs hand) (h : ∀ g, hand'.count g ≤ hand.count g) : SR E S vs w φ bs hand' :=
  ⟨hs.tvs, fun g => by have := hs.cnt g; have := h g; omega, fun g hg => hs.own g (hg.imp id fun k => mem_of_count (by have := h g; have := List.count_pos_iff.2 k; omega)), hs.views, hs.size, hs.same, hs.os⟩

section
variable {P : Program} {ρ : Operand → Value} {o : Oper} {E : Env} {S S' : St} {vs : List Value} {w : World} {φ : Nat → Nat} {bs : List Nat} {d : Option Nat}

theorem goal_new {v w' φ'} (hr : (execOp ρ o).run P w = .ok (.value v) w') (h : Done E S' (upd vs d v) w' φ') : Goal P ρ o E S' vs d w := ⟨v, w', .inl hr, φ', h⟩

/-! ### alloc, box -/
def chkCells : List Value → List PV → Bool
  | [], [] => true
  | v :: vs, p :: ps => chkConst v p && chkCells vs ps
  | _, _ => false
theorem chkCells_len : ∀ {us : List Value} {ps}, chkCells us ps = true → us.length = ps.length := by
  intro us
  induction us with
  | nil => intro ps h; cases ps <;> simp [chkCells] at h ⊢
  | cons u us ih => intro ps h; cases ps <;> simp [chkCells] at h ⊢; exact ih h.2
theorem chkCells_get : ∀ {us : List Value} {ps}, chkCells us ps = true → ∀ {i : Nat} {u p}, us[i]? = some u → ps[i]? = some p → ConstR p u := by
  intro us
  induction us with
  | nil => intro ps h i u p a; simp at a
  | cons u us ih =>
    intro ps h i u' p a b
    cases ps with
    | nil => simp at b
    | cons q ps =>
      simp [chkCells] at h
      cases i with
      | zero => simp at a b; subst a; subst b; exact chkConst_sound h.1
      | succ i => exact ih h.2 (by simpa using a) (by simpa using b)
theorem zeroCells_R {us : List Value} {zs : List PV} (h : chkCells us zs = true) (w : World) (φ : Nat → Nat) : CellsR E w φ (zeroCells zs) us [] := by
  refine CellsR.ofGet (by simp [zeroCells, chkCells_len h]) fun i c u a b => ?_
  simp only [zeroCells, List.getElem?_map] at a
  cases hz : zs[i]? with
  | none => rw [hz] at a; cases a
  | some p => rw [hz] at a; injection a with a; subst a; exact (chkCells_get h b hz).own w φ

theorem alloc_goal {g cs ls t z} {i : TypeInfo} (hs : SR E S vs w φ bs []) (ho : o.op = .alloc t) (hi : P.info? t = some i) (hz : i.zero = some z) (hc : chkCells z.cells.toList cs = true)
    (h : step S d (.alloc g cs ls) = some S') : Goal P ρ o E S' vs d w := by
  simp only [step] at h
  split at h
  · rename_i hcond
    obtain ⟨hl, hall⟩ := hcond
    refine goal_new (v := .pointer (some ⟨w.heap.size, 0, none⟩)) (w' := w.alloc (.cells z.cells t)) (φ' := setφ φ w.heap.size 0) (by simp [execOp, ho, r_alloc hi hz]) ?_
    obtain ⟨n1, n2⟩ := hs.newHand (w' := w.alloc (.cells z.cells t)) (by simp)
    have hs' := (Gr.alloc w φ (.cells z.cells t) 0).sr hs n1 n2
    have hcells : CellsR E (w.alloc (.cells z.cells t)) (setφ φ w.heap.size 0) ((cs.zip ls).map fun x => Cell.val (if x.1.flat then .deep else x.2) x.1) z.cells.toList [] := by
      have hlen := chkCells_len hc
      refine CellsR.ofGet (by simp at hlen ⊢; omega) fun k c u a b => ?_
      rw [List.getElem?_map] at a
      cases hx : (cs.zip ls)[k]? with
      | none => rw [hx] at a; cases a
      | some x =>
        rw [hx] at a
        injection a with a
        subst a
        have hx1 : cs[k]? = some x.1 := (List.getElem?_zip_eq_some.1 hx).1
        have hk := chkCells_get hc b hx1
        have hall' := List.all_eq_true.1 hall x (List.mem_of_getElem? hx)
        cases hf : x.1.flat
        case true => simp only [hf, if_true]; exact hk.own _ _
        case false =>
          simp only [hf, Bool.false_or, Bool.and_eq_true, Bool.false_eq_true, if_false] at hall' ⊢
          obtain ⟨k1, k2⟩ := hall'
          rcases hk with ⟨hk, _⟩ | ⟨sz, e, hv⟩
          · rw [hf] at hk; cases hk
          · rw [e, hv]
            cases hl : x.2 <;> rw [hl] at k1 <;> first | cases k1 | skip
            · exact .snil .nil
            · exact ⟨sz, [], rfl, .inl ⟨rfl, rfl, rfl⟩⟩
            · exact ⟨sz, [], rfl, .inl ⟨rfl, rfl, rfl⟩⟩
    refine done_put (bt := [w.heap.size]) (tv := .box _) hs' ⟨w.heap.size, z.cells, t, [], rfl, heap_alloc_new w _, setφ_same _ _ _, hcells, rfl⟩ ?_ h
    intro a arr e fr _ _ k c u hk _
    rw [List.getElem?_map] at hk
    cases hx : (cs.zip ls)[k]? <;> rw [hx] at hk
    · cases hk
    · injection hk with hk; subst hk; trivial
  · cases h

theorem tCells_nd {S : St} {rs} : ∀ {cs cs' : List Cell} {S S' : St}, tCells S rs cs = some (cs', S') → ∀ c ∈ cs', c ≠ .dead := by
  intro cs
  induction cs with
  | nil => intro cs' S S' h; simp only [tCells, Option.some.injEq, Prod.mk.injEq] at h; obtain ⟨rfl, _⟩ := h; simp
  | cons c cs ih =>
    intro cs' S S' h
    simp only [tCells] at h
    cases h1 : tCell S rs c with
    | none => rw [h1] at h; cases h
    | some x =>
      rw [h1] at h
      simp only [Option.bind_some] at h
      cases h2 : tCells x.2 rs cs with
      | none => rw [h2] at h; cases h
      | some y =>
        rw [h2] at h
        simp only [Option.map_some, Option.some.injEq, Prod.mk.injEq] at h
        obtain ⟨rfl, _⟩ := h
        intro c' hc'
        rcases List.mem_cons.1 hc' with rfl | hc'
        · cases c with
          | dead => simp [tCell] at h1
          | val l p => simp only [tCell, Option.some.injEq] at h1; rw [← h1]; simp
          | view r c path =>
            cases path with
            | cons _ _ => simp only [tCell, Option.some.injEq] at h1; rw [← h1]; simp
            | nil =>
              simp only [tCell] at h1
              split at h1
              · split at h1
                · simp only [Option.some.injEq] at h1; rw [← h1]; simp
                · cases h1
              · cases h1
        · exact ih h2 c' hc'
theorem tAny_nd {o agg cs} (h : tAny S o = some (agg, cs, S')) : ∀ c ∈ cs, c ≠ .dead := by
  cases o with
  | c p => simp only [tAny, Option.some.injEq, Prod.mk.injEq] at h; obtain ⟨_, rfl, _⟩ := h; simp
  | t n rs =>
    simp only [tAny] at h
    split at h
    · cases h
    · split at h
      · cases ht : tCells S rs [_] with
        | none => rw [ht] at h; cases h
        | some x =>
          rw [ht] at h
          simp only [Option.map_some, Option.some.injEq, Prod.mk.injEq] at h
          obtain ⟨_, rfl, _⟩ := h
          exact tCells_nd (S := S) (cs' := x.1) (S' := x.2) ht
      · cases ht : tCells S rs _ with
        | none => rw [ht] at h; cases h
        | some x =>
          rw [ht] at h
          simp only [Option.map_some, Option.some.injEq, Prod.mk.injEq] at h
          obtain ⟨_, rfl, _⟩ := h
          exact tCells_nd (S := S) (cs' := x.1) (S' := x.2) ht
      · cases h
theorem CellsR.ones {bs hand} (hs : SR E S vs w φ bs hand) : ∀ {cs us b}, CellsR E w φ cs us b → (∀ c ∈ cs, c ≠ .dead) → ∀ u ∈ us, u.oneCell' = true := by
  intro cs
  induction cs with
  | nil => intro us b h; obtain ⟨rfl, _⟩ := h; simp
  | cons c cs ih =>
    intro us b h hn u hu
    obtain ⟨v, us', b1, b2, rfl, rfl, hc, h⟩ := h
    rcases List.mem_cons.1 hu with rfl | hu
    · cases c with
      | val l p => exact CellR.oneC hs hc
      | view r c path => exact hc.2
      | dead => exact absurd rfl (hn _ (by simp))
    · exact ih h (fun c hc => hn c (by simp [hc])) u hu

theorem AggR.cells_ {agg cs v us b} (h : AggR E w φ agg cs v us b) (h1 : ∀ u ∈ us, u.oneCell' = true) : v.cells.toList = us := by
  obtain ⟨h, _⟩ := h
  split at h
  · subst h; simp [Value.cells]
  · subst h
    have := h1 v (by simp)
    cases v <;> first | rfl | simp [Value.oneCell'] at this

theorem box_goal {g t x y} (hs : SR E S vs w φ bs []) (hρ : RhoR ρ vs) (ho : o.op = .box t x) (hc : chkO x y = true) (h : step S d (.box g y) = some S') : Goal P ρ o E S' vs d w := by
  simp only [step] at h
  cases ht : tAny S y with
  | none => rw [ht] at h; cases h
  | some r =>
    obtain ⟨agg, cs, S1⟩ := r
    rw [ht] at h
    simp only [Option.bind_some] at h
    obtain ⟨bs1, bc, us, q1, q2, q3, q4⟩ := tAny_sound hs (hρ _ _ hc) ht
    have h1 := CellsR.ones q1 q3.2 (tAny_nd ht)
    have hcl := q3.cells_ h1
    refine goal_new (v := .pointer (some ⟨w.heap.size, 0, none⟩)) (w' := w.alloc (.cells (ρ x).cells t)) (φ' := setφ φ w.heap.size 0) (by simp [execOp, ho, r_box]) ?_
    obtain ⟨n1, n2⟩ := q1.newHand (w' := w.alloc (.cells (ρ x).cells t)) (by simp)
    have hG := Gr.alloc w φ (.cells (ρ x).cells t) 0
    have hs' := hG.sr q1 n1 n2
    have hcells := hG.cells (fun g hg => (q1.own g (.inr (by simp [hg]))).1) q3.2
    refine done_put (bt := w.heap.size :: bc) (tv := .box cs) hs' ⟨w.heap.size, (ρ x).cells, t, bc, rfl, heap_alloc_new w _, setφ_same _ _ _, by rw [hcl]; exact hcells, rfl⟩ ?_ h
    intro a arr e fr ha harr k c u hk hu
    injection ha with ha
    injection ha with ha
    subst ha
    rw [heap_alloc_new] at harr
    injection harr with harr
    injection harr with harr
    subst harr
    exact hG.view q1 (q4 k c u hk (by rw [← hcl, Array.getElem?_toList]; exact hu))

/-! ### Cells laid over cells -/
theorem CellsR.append_ : ∀ {cs us b ds ts b'}, CellsR E w φ cs us b → CellsR E w φ ds ts b' → CellsR E w φ (cs ++ ds) (us ++ ts) (b ++ b') := by
  intro cs
  induction cs with
  | nil => intro us b ds ts b' h k; obtain ⟨rfl, rfl⟩ := h; exact k
  | cons c cs ih =>
    intro us b ds ts b' h k
    obtain ⟨v, us', b1, b2, rfl, rfl, hc, h⟩ := h
    exact ⟨v, us' ++ ts, b1, b2 ++ b', rfl, by simp, hc, ih h k⟩
theorem CellsR.split_ : ∀ {cs ds us b}, CellsR E w φ (cs ++ ds) us b → ∃ u1 u2 b1 b2, us = u1 ++ u2 ∧ b = b1 ++ b2 ∧ CellsR E w φ cs u1 b1 ∧ CellsR E w φ ds u2 b2 := by
  intro cs
  induction cs with
  | nil => intro ds us b h; exact ⟨[], us, [], b, rfl, rfl, ⟨rfl, rfl⟩, h⟩
  | cons c cs ih =>
    intro ds us b h
    obtain ⟨v, us', b1, b2, rfl, rfl, hc, h⟩ := h
    obtain ⟨u1, u2, a1, a2, rfl, rfl, h1, h2⟩ := ih h
    exact ⟨v :: u1, u2, b1 ++ a1, a2, rfl, by simp, ⟨v, u1, b1, a1, rfl, rfl, hc, h1⟩, h2⟩
theorem split_len {α : Type} {u1 u2 us : List α} (h : us = u1 ++ u2) {n : Nat} (hn : u1.length = n) : u1 = us.take n ∧ u2 = us.drop n := by
  subst hn; subst h
  simp
theorem CellsR.lay_ {cs us b news ts bn off cs'} (h : CellsR E w φ cs us b) (k : CellsR E w φ news ts bn) (hl : lay cs off news = some cs') :
    off + ts.length ≤ us.length ∧ ∃ b', CellsR E w φ cs' (us.take off ++ ts ++ us.drop (off + ts.length)) b' ∧ ∀ g, b'.count g ≤ b.count g + bn.count g := by
  unfold lay at hl
  split at hl
  · rename_i hle
    injection hl with hl
    subst hl
    have hlen := h.length
    have klen := k.length
    refine ⟨by omega, ?_⟩
    have e : cs = cs.take off ++ ((cs.drop off).take news.length ++ cs.drop (off + news.length)) := by
      rw [← List.drop_drop, List.take_append_drop, List.take_append_drop]
    rw [e] at h
    obtain ⟨u1, u2, b1, b2, hu, rfl, h1, h2⟩ := h.split_
    obtain ⟨u3, u4, b3, b4, hu', rfl, h3, h4⟩ := h2.split_
    have l1 := h1.length
    have l3 := h3.length
    simp at l1 l3
    obtain ⟨e1, e2⟩ := split_len hu (n := off) (by omega)
    obtain ⟨e3, e4⟩ := split_len hu' (n := news.length) (by omega)
    refine ⟨b1 ++ bn ++ b4, ?_, fun g => by simp; omega⟩
    have eu : us.drop (off + ts.length) = u4 := by rw [e4, e2, List.drop_drop, klen]
    rw [← e1, eu]
    exact (h1.append_ k).append_ h4
  · cases hl

def ViewsL (S : St) (vs : List Value) (w : World) (φ : Nat → Nat) (cs : List Cell) (us : List Value) : Prop := ∀ (i : Nat) c u, cs[i]? = some c → us[i]? = some u → ViewC S vs w φ c u
theorem ViewsL.weak {S S' : St} (h : WeakSt S S') {cs us} (k : ViewsL S vs w φ cs us) : ViewsL S' vs w φ cs us := fun i c u a b => ViewC.weak h (k i c u a b)
theorem ViewsL.append_ {S : St} {cs us ds ts} (hl : cs.length = us.length) (h : ViewsL S vs w φ cs us) (k : ViewsL S vs w φ ds ts) : ViewsL S vs w φ (cs ++ ds) (us ++ ts) := by
  intro i c u a b
  rw [List.getElem?_append] at a b
  split at a <;> rename_i hi
  · rw [if_pos (by omega)] at b; exact h i c u a b
  · rw [if_neg (by omega)] at b; rw [← hl] at b; exact k _ c u a b
theorem ViewsL.lay_ {S : St} {cs us news ts off cs'} (hlen : cs.length = us.length) (klen : news.length = ts.length) (h : ViewsL S vs w φ cs us) (k : ViewsL S vs w φ news ts) (hl : lay cs off news = some cs') :
    ViewsL S vs w φ cs' (us.take off ++ ts ++ us.drop (off + ts.length)) := by
  unfold lay at hl
  split at hl
  · rename_i hle
    injection hl with hl
    subst hl
    refine ViewsL.append_ (by simp; omega) (ViewsL.append_ (by simp; omega) (fun i c u a b => ?_) k) (fun i c u a b => ?_)
    · rw [List.getElem?_take] at a b
      split at a
      · rename_i hi; rw [if_pos hi] at b; exact h i c u a b
      · cases a
    · rw [List.getElem?_drop] at a b
      rw [← klen] at b
      exact h _ c u a b
  · cases hl

def chkParts (place : Nat → Option (Nat × Nat)) : List (Nat × Operand) → List (Nat × Nat × AOpnd) → Bool
  | [], [] => true
  | (i, x) :: ps, (off, n, y) :: qs => place i == some (off, n) && chkO x y && chkParts place ps qs
  | _, _ => false

theorem layAll_sound (hρ : RhoR ρ vs) {place : Nat → Option (Nat × Nat)} : ∀ {rp : List (Nat × Operand)} {ap : List (Nat × Nat × AOpnd)} {S S' : St} {cs cs' : List Cell} {arr : Array Value} {bs b},
    chkParts place rp ap = true → SR E S vs w φ bs b → CellsR E w φ cs arr.toList b → ViewsL S vs w φ cs arr.toList → layAll S cs ap = some (cs', S') →
    ∃ arr' bs' b', Instr.fill place arr (rp.map fun (i, x) => (i, ρ x)) = some arr' ∧ SR E S' vs w φ bs' b' ∧ CellsR E w φ cs' arr'.toList b' ∧ ViewsL S' vs w φ cs' arr'.toList := by
  intro rp
  induction rp with
  | nil =>
    intro ap S S' cs cs' arr bs b hc hs h hv hl
    cases ap with
    | cons _ _ => simp [chkParts] at hc
    | nil =>
      simp only [layAll, Option.some.injEq, Prod.mk.injEq] at hl
      obtain ⟨rfl, rfl⟩ := hl
      exact ⟨arr, bs, b, rfl, hs, h, hv⟩
  | cons p rp ih =>
    intro ap S S' cs cs' arr bs b hc hs h hv hl
    obtain ⟨i, x⟩ := p
    cases ap with
    | nil => simp [chkParts] at hc
    | cons q ap =>
      obtain ⟨off, n, y⟩ := q
      simp only [chkParts, Bool.and_eq_true, beq_iff_eq] at hc
      obtain ⟨⟨hp, hxy⟩, hc⟩ := hc
      simp only [layAll] at hl
      cases ht : tAny S y with
      | none => rw [ht] at hl; cases hl
      | some r =>
        obtain ⟨agg, news, S1⟩ := r
        rw [ht] at hl
        simp only [Option.bind_some] at hl
        split at hl
        · rename_i hn
          cases hla : lay cs off news with
          | none => rw [hla] at hl; cases hl
          | some cs1 =>
            rw [hla] at hl
            simp only [Option.bind_some] at hl
            obtain ⟨bs1, bc, us, q1, q2, q3, q4⟩ := tAny_sound hs (hρ _ _ hxy) ht
            have hones := CellsR.ones q1 q3.2 (tAny_nd ht)
            have hcl := q3.cells_ hones
            have hul := q3.2.length
            obtain ⟨m1, b1, m2, m3⟩ := h.lay_ q3.2 hla
            have hs1 := q1.handLe (hand' := b1) (fun g => by have := m3 g; simp; omega)
            have hv1 := ViewsL.lay_ h.length hul (hv.weak q2) q4 hla
            obtain ⟨arr', bs', b', k1, k2, k3, k4⟩ := ih (arr := (arr.toList.take off ++ us ++ arr.toList.drop (off + us.length)).toArray) hc hs1 (by simpa using m2) (by simpa using hv1) hl
            refine ⟨arr', bs', b', ?_, k2, k3, k4⟩
            simp only [List.map_cons]
            have hsz : (ρ x).cells.size = us.length := by rw [← hcl, Array.length_toList]
            rw [fill_cons hp (by omega) (by rw [hsz]; simpa using m1), hcl, hsz]
            exact k1
        · cases hl

theorem zeroViews {us zs} : ViewsL S vs w φ (zeroCells zs) us := by
  intro i c u a _
  simp only [zeroCells, List.getElem?_map] at a
  cases hz : zs[i]? <;> rw [hz] at a
  · cases a
  · injection a with a; subst a; trivial

theorem build_goal {t zs ps rp fs z} {i : TypeInfo} {places : List (Nat × Nat)} (hs : SR E S vs w φ bs []) (hρ : RhoR ρ vs) (ho : o.op = .build t rp) (hu : P.underlying t = some (.struct fs)) (hi : P.info? t = some i) (hz : i.zero = some z)
    (hpl : fs.toList.mapM (fun f => (P.info? f.type).map fun i => (f.offset, i.size)) = some places) (hzc : chkCells z.cells.toList zs = true) (hc : chkParts (places.toArray[·]?) rp.toList ps = true)
    (h : step S d (.build zs ps) = some S') : Goal P ρ o E S' vs d w := by
  simp only [step] at h
  cases hl : layAll S (zeroCells zs) ps with
  | none => rw [hl] at h; cases h
  | some y =>
    rw [hl] at h
    simp only [Option.bind_some] at h
    obtain ⟨arr', bs', b', k1, k2, k3, k4⟩ := layAll_sound hρ (arr := z.cells) hc hs (zeroCells_R hzc w φ) zeroViews hl
    have hrun : (Instr.build t (rp.map fun (i, x) => (i, ρ x))).run P w = .ok (.agg arr') w := by
      refine run_build w t _ arr' ?_
      simp only [Program.built, hi, hu, hz, hpl]
      rw [Array.toList_map]
      exact k1
    refine goal_new (v := .agg arr') (w' := w) (φ' := φ) (by simp [execOp, ho, hrun]) ?_
    exact done_put (bt := b') (tv := .agg y.1) (by simpa using k2) ⟨arr', rfl, k3⟩ (fun arr'' e i c u a b => by
      injection e with e; subst e
      exact k4 i c u a (by rw [← b, Array.getElem?_toList])) h

end
end Go.Proofs.Ytkiliooegoldoaa
