/- Operations that make no memory, as the model runs them. -/
import Derived.Test.YtkiliooegoldoaaRun
set_option linter.unusedVariables false
set_option linter.unusedSimpArgs false
namespace Go.Proofs.Ytkiliooegoldoaa
open Go

def chkConst : Value → PV → Bool
  | .int k n, .int k' n' => k == k' && n == n'
  | .bool b, .bool b' => b == b'
  | .string s, .str s' => s.data.toList == s'.data.toList
  | .slice none 0 0, .sl _ [] => true
  | _, _ => false
def chkO : Operand → AOpnd → Bool
  | .tmp n, .t m _ => n == m
  | .const v, .c p => chkConst v p
  | _, _ => false

theorem chkConst_sound {v p} (h : chkConst v p = true) : ConstR p v := by
  unfold chkConst at h
  split at h
  · simp at h; obtain ⟨rfl, rfl⟩ := h; exact .inl ⟨rfl, rfl⟩
  · simp at h; subst h; exact .inl ⟨rfl, rfl⟩
  · rename_i s s'
    have : s = s' := by
      cases s; cases s'
      simp at h ⊢
      exact h
    subst this
    exact .inl ⟨rfl, rfl⟩
  · exact .inr ⟨_, rfl, rfl⟩
  · cases h

def RhoR (ρ : Operand → Value) (vs : List Value) : Prop := ∀ x y, chkO x y = true → OpndR vs y (ρ x)

def OpOk (P : Program) (ρ : Operand → Value) (o : Oper) (w : World) (K : Value → World → Prop) : Prop :=
  ∃ v w', ((execOp ρ o).run P w = .ok (.value v) w' ∨ ((execOp ρ o).run P w = .ok .skip w' ∧ v = undef)) ∧ K v w'

abbrev Goal (P : Program) (ρ : Operand → Value) (o : Oper) (E : Env) (S' : St) (vs : List Value) (d : Option Nat) (w : World) : Prop :=
  OpOk P ρ o w fun v w' => ∃ φ', Done E S' (upd vs d v) w' φ'

section
variable {P : Program} {ρ : Operand → Value} {o : Oper} {E : Env} {S S' : St} {vs : List Value} {w : World} {φ : Nat → Nat} {bs : List Nat} {d : Option Nat}

theorem slotρ (hρ : RhoR ρ vs) {a p rs} (h : chkO a (.t p rs) = true) : ρ a = vs.getD p undef := hρ a _ h

theorem goal_val {v} (hr : (execOp ρ o).run P w = .ok (.value v) w) (h : Done E S' (upd vs d v) w φ) : Goal P ρ o E S' vs d w := ⟨v, w, .inl hr, φ, h⟩

/-! ### move, assign -/
theorem mv_goal {g x y} (hs : SR E S vs w φ bs []) (hρ : RhoR ρ vs) (ho : o.op = .move y ∨ o.op = .assign y) (hc : chkO y x = true) (h : step S d (.mv g x) = some S') : Goal P ρ o E S' vs d w :=
  goal_val (v := ρ y) (by rcases ho with ho | ho <;> simp [execOp, ho]) (mv_ok hs (hρ y x hc) h)
theorem take_goal {g x y} (hs : SR E S vs w φ bs []) (hρ : RhoR ρ vs) (ho : o.op = .move y ∨ o.op = .assign y) (hc : chkO y x = true) (h : step S d (.take g x) = some S') : Goal P ρ o E S' vs d w :=
  goal_val (v := ρ y) (by rcases ho with ho | ho <;> simp [execOp, ho]) (take_ok hs (hρ y x hc) h)
theorem pick_goal {c a b x y z} (hs : SR E S vs w φ bs []) (hρ : RhoR ρ vs) (ho : o.op = .pick x y z) (hc : chkO x c = true) (ha : chkO y a = true) (hb : chkO z b = true) (h : step S d (.pick c a b) = some S') : Goal P ρ o E S' vs d w := by
  obtain ⟨t, ht, k⟩ := pick_ok hs (hρ x c hc) (hρ y a ha) (hρ z b hb) h
  exact goal_val (v := if t then ρ y else ρ z) (by simp [execOp, ho, ht, asBool]) (k _ rfl)

/-! ### load -/
theorem load_goal {n p t a rs} {dt : TypeDesc} {i : TypeInfo} (hs : SR E S vs w φ bs []) (hρ : RhoR ρ vs) (ho : o.op = .load t a) (hc : chkO a (.t p rs) = true) (hd : P.underlying t = some dt) (hi : P.info? t = some i)
    (hn : match n with | none => aggD dt = false | some k => aggD dt = true ∧ i.size = k) (h : step S d (.load n (.t p rs)) = some S') : Goal P ρ o E S' vs d w := by
  simp only [step] at h
  cases hl : loadAt S rs (n.getD 1) (asPlace S p) with
  | none => rw [hl] at h; cases h
  | some cs =>
    rw [hl] at h
    simp only [Option.bind_some] at h
    cases hc' : TV.ofCells n.isSome cs with
    | none => rw [hc'] at h; cases h
    | some tv =>
      rw [hc'] at h
      simp only [Option.bind_some] at h
      have hdead : S.g p ≠ .dead := by intro e; simp [asPlace, e, loadAt] at hl
      obtain ⟨us, hL⟩ := loadAt_sound hs hdead hl
      obtain ⟨g, off, hv, hcell⟩ := hL.cells
      have hρa := slotρ hρ hc
      rw [hv] at hρa
      cases n with
      | none =>
        have hlen := hL.len
        simp at hlen
        obtain ⟨u, rfl⟩ : ∃ u, us = [u] := by
          cases us with
          | nil => simp at hlen
          | cons u us => cases us with
            | nil => exact ⟨u, rfl⟩
            | cons _ _ => simp at hlen
        refine goal_val (φ := φ) (v := u) (by have e0 := hcell 0 u rfl; rw [Nat.add_zero] at e0; simp [execOp, ho, hρa, r_loadOne hd hn e0]) ?_
        have hA : AggR E w φ false cs u [u] [] := ⟨rfl, hL.rel⟩
        exact done_put (bt := []) (φ := φ) hs (ofCells_TVR hA hc') (ofCells_view (agg := false) (us := [u]) rfl hL.views hc') h
      | some k =>
        refine goal_val (φ := φ) (v := .agg us.toArray) (by simp [execOp, ho, hρa, r_loadAgg hd hn.1 hi (hn.2.trans hL.len.symm) hcell]) ?_
        have hA : AggR E w φ true cs (.agg us.toArray) us [] := ⟨rfl, hL.rel⟩
        exact done_put (bt := []) hs (ofCells_TVR hA hc') (ofCells_view (agg := true) (us := us) rfl hL.views hc') h

/-! ### places -/
theorem pathOff_snoc (off : Nat) (pre : Path) (s i j : Nat) : pathOff off (pre ++ [(s, i, j)]) = pre ++ [(s, i, j + off)] := by
  induction pre with
  | nil => rfl
  | cons y pre ih =>
    cases pre with
    | nil => rfl
    | cons z pre => simp only [List.cons_append, pathOff] at ih ⊢; rw [ih]

theorem faddr_goal {off p a rs s f fs} {fd : Field} {i : TypeInfo} (hs : SR E S vs w φ bs []) (hρ : RhoR ρ vs) (ho : o.op = .fieldAddr s a f) (hc : chkO a (.t p rs) = true)
    (hu : P.underlying s = some (.struct fs)) (hf : fs[f]? = some fd) (hi : P.info? fd.type = some i) (hz : i.size ≠ 0) (hoff : fd.offset = off) (h : step S d (.faddr off (.t p rs)) = some S') : Goal P ρ o E S' vs d w := by
  subst hoff
  have hρa := slotρ hρ hc
  simp only [step] at h
  cases hS : S.g p <;> rw [hS] at h <;> (try dsimp only at h)
  case box cs =>
    have hu' := slotv hs (n := p) (by rw [hS]; simp)
    obtain ⟨bt, h1, h2⟩ := hs.slot hu'
    rw [hS] at h1
    obtain ⟨g, arr, e, b1, ev, _⟩ := h1
    rw [ev] at hρa
    refine goal_val (φ := φ) (v := .pointer (some ⟨g, fd.offset, none⟩)) (by simp [execOp, ho, hρa, r_field hu hf hi hz]) ?_
    exact done_put (bt := []) (tv := .place p fd.offset []) hs rfl (.inl ⟨rfl, cs, g, hS, by rw [hu', ev], rfl⟩) h
  case place r c path =>
    have hu' := slotv hs (n := p) (by rw [hS]; simp)
    obtain ⟨bt, h1, h2⟩ := hs.slot hu'
    rw [hS] at h2
    rcases h2 with ⟨rfl, cs, g, e1, e2, e3⟩ | ⟨pre, s', i', j, rfl, k1, k2⟩
    · rw [e3] at hρa
      refine goal_val (φ := φ) (v := .pointer (some ⟨g, c + fd.offset, none⟩)) (by simp [execOp, ho, hρa, r_field hu hf hi hz]) ?_
      exact done_put (bt := []) (tv := .place r (c + fd.offset) []) hs rfl (.inl ⟨rfl, cs, g, e1, e2, rfl⟩) h
    · have hne : pre ++ [(s', i', j)] ≠ [] := by simp
      obtain ⟨x, t, hxt⟩ := List.exists_cons_of_ne_nil hne
      rw [hxt] at h
      simp only at h
      rw [← hxt, pathOff_snoc] at h
      by_cases hroot : ∃ l p0, rootCell S r c = .val l p0
      · obtain ⟨l, p0, hroot⟩ := hroot
        obtain ⟨a1, a2, a3, v0, g, o', n, cap, a4, a5, a6⟩ := k2 l p0 hroot
        rw [a6] at hρa
        refine goal_val (φ := φ) (v := .pointer (some ⟨g, o' + (i' * s' + (j + fd.offset)), none⟩)) (by simp [execOp, ho, hρa, r_field hu hf hi hz] <;> omega) ?_
        rw [hroot] at h
        split at h
        case isFalse => cases h
        refine done_put (bt := []) (tv := .place r c (pre ++ [(s', i', j + fd.offset)])) hs rfl (.inr ⟨pre, s', i', j + fd.offset, rfl, k1, fun l' p' hr' => ?_⟩) h
        rw [hroot] at hr'
        injection hr' with e1 e2
        subst e1; subst e2
        exact ⟨a1, a2, a3, v0, g, o', n, cap, a4, a5, rfl⟩
      · exfalso
        split at h
        · split at h
          · rename_i hr; exact hroot ⟨_, _, hr⟩
          · cases h
        · cases h
  case ep l row off =>
    have hu' := slotv hs (n := p) (by rw [hS]; simp)
    obtain ⟨bt, h1, h2⟩ := hs.slot hu'
    rw [hS] at h1
    obtain ⟨_, g, o', cvs, ev, k1, k2⟩ := h1
    rw [ev] at hρa
    refine goal_val (φ := φ) (v := .pointer (some ⟨g, o' + (off + fd.offset), none⟩)) (by simp [execOp, ho, hρa, r_field hu hf hi hz] <;> omega) ?_
    exact done_put (bt := []) (tv := .ep l row (off + fd.offset)) hs ⟨rfl, g, o', cvs, rfl, k1, k2⟩ trivial h
  all_goals cases h

theorem scalar_goal {p : PV} (hs : SR E S vs w φ bs []) (hf : p.flat = true) (hr : (execOp ρ o).run P w = .ok (.value p.toV) w) (h : put false S d (.one (.val .deep p)) = some S') : Goal P ρ o E S' vs d w :=
  goal_val (φ := φ) hr (done_scalar hs hf rfl h)

theorem iaddr_goal {sz n rs i t x ix e} {ti : TypeInfo} (hs : SR E S vs w φ bs []) (hρ : RhoR ρ vs) (ho : o.op = .indexAddr t x ix) (hc : chkO x (.t n rs) = true) (hci : chkO ix i = true)
    (hu : P.underlying t = some (.slice e)) (hi : P.info? e = some ti) (hsz : ti.size = sz) (h0 : 0 < sz) (h : step S d (.iaddr sz (.t n rs) i) = some S') : Goal P ρ o E S' vs d w := by
  have hρx := slotρ hρ hc
  have hsn : S.g n ≠ .dead := by intro e; simp only [step, e] at h; cases h
  have hv := slotv hs hsn
  obtain ⟨bt, h1, h2⟩ := hs.slot hv
  -- the cell that the place is
  have addr : ∀ {xs : List (List PV)} {z : Nat} {A : Option Addr} {cc : Nat} {ok}, RdL w ok [.sl sz xs] [vs.getD n undef] → z < xs.length → vs.getD n undef = .slice A xs.length cc → ∃ g off, A = some ⟨g, off, none⟩ := by
    intro xs z A cc ok hr hz he
    obtain ⟨A', c', cvs, e1, _, hrows, hcv, hrd⟩ := hr.slice_
    rw [he] at e1
    injection e1 with e1 _ _
    subst e1
    have hrow : xs[z]? = some xs[z] := List.getElem?_eq_getElem hz
    have hl : (xs[z]).length = sz := hrows _ (List.getElem_mem hz)
    obtain ⟨u, hu', _⟩ := hrd.get (flatten_get hrows hrow (List.getElem?_eq_getElem (by omega : 0 < (xs[z]).length)))
    obtain ⟨g, off, hA, _⟩ := hcv _ _ hu'
    exact ⟨g, off, hA⟩
  have run : ∀ {z k : _} {g off len cc : Nat}, ρ ix = .int k (z : Nat) → vs.getD n undef = .slice (some ⟨g, off, none⟩) len cc → z < len → (execOp ρ o).run P w = .ok (.value (.pointer (some ⟨g, off + z * sz, none⟩))) w := by
    intro z k g off len cc e1 e2 e3
    rw [e2] at hρx
    simp [execOp, ho, hρx, e1, r_index hu hi e3, hsz]
  simp only [step] at h
  split at h
  · -- a view
    rename_i r c path z hS hz
    rw [hS] at h1 h2
    obtain ⟨k, hix⟩ := natOf_sound hs (hρ _ _ hci) hz
    split at h
    · rename_i l sz' xs hb
      split at h
      · rename_i hcond
        obtain ⟨rfl, hlt⟩ := hcond
        have hread := bCell_sound (c := .view r c path) hs h1 h2 hb
        obtain ⟨A, cc, hval, hle⟩ := CellR.slice_ hs hread
        obtain ⟨g, off, rfl⟩ := addr (CellR.reads hs.hO hread) hlt hval
        refine goal_val (φ := φ) (run hix hval hlt) ?_
        refine done_put (bt := []) (tv := .place r c (path ++ [(sz', z, 0)])) hs rfl (.inr ⟨path, sz', z, 0, rfl, h2.1, fun l' p' hr' => ?_⟩) h
        obtain ⟨a1, a2, ⟨q, a3⟩, v0, a4, a5⟩ := h2.2 l' p' hr'
        simp only [bCell] at hb
        split at hb
        · rw [hr'] at hb
          simp only [a3, Option.map_some, Option.some.injEq, Prod.mk.injEq] at hb
          obtain ⟨_, rfl⟩ := hb
          exact ⟨a1, a2, ⟨xs, xs[z], a3, List.getElem?_eq_getElem hlt⟩, v0, g, off, _, _, a4, by rw [a5, hval], by simp⟩
        · cases hb
      · cases h
    · cases h
  · -- a slice itself
    rename_i l sz' xs z hS hz
    rw [hS] at h1 h2
    obtain ⟨k, hix⟩ := natOf_sound hs (hρ _ _ hci) hz
    split at h
    · rename_i hsz'
      subst hsz'
      obtain ⟨A, cc, hval, hle⟩ := CellR.slice_ hs h1
      split at h
      · rename_i hown
        split at h
        · rename_i hlt
          obtain ⟨g, off, rfl⟩ := addr (CellR.reads hs.hO h1) hlt hval
          refine goal_val (φ := φ) (run hix hval hlt) ?_
          refine done_put (bt := []) (tv := .place n 0 [(sz', z, 0)]) hs rfl (.inr ⟨[], sz', z, 0, rfl, by rw [hS]; rfl, fun l' p' hr' => ?_⟩) h
          simp only [rootCell, hS, if_true, Cell.val.injEq] at hr'
          obtain ⟨rfl, rfl⟩ := hr'
          refine ⟨rfl, fun h => absurd rfl h, ⟨xs, xs[z], rfl, List.getElem?_eq_getElem hlt⟩, vs.getD n undef, g, off, _, _, ?_, by rw [rvPath, hval], by simp⟩
          unfold rootV; rw [hS, hv]; rfl
        · cases h
      · rename_i hown
        split at h
        · rename_i row hrow
          have hlt := (List.getElem?_eq_some_iff.1 hrow).1
          obtain ⟨g, off, rfl⟩ := addr (CellR.reads hs.hO h1) hlt hval
          refine goal_val (φ := φ) (run hix hval hlt) ?_
          have fin : ∀ l', RdL w (okOf E φ l') [.sl sz' xs] [vs.getD n undef] → TVR E w φ (.ep l' row 0) (.pointer (some ⟨g, off + z * sz', none⟩)) [] := by
            intro l' hrd
            obtain ⟨us, m1, m2, m3⟩ := hrd.row hval hrow
            exact ⟨rfl, g, off + z * sz', us, by simp, fun k u hk => by have := m3 k u hk; rw [Nat.add_assoc]; exact this, m2⟩
          by_cases hl : l = .old
          · subst hl
            rw [if_pos rfl] at h
            exact done_put (bt := []) (tv := .ep .old row 0) hs (fin .old h1.1) trivial h
          · rw [if_neg hl] at h
            exact done_put (bt := []) (tv := .ep .bor row 0) hs (fin .bor (CellR.reads hs.hO h1)) trivial h
        · cases h
    · cases h
  · cases h

theorem index_goal {i t x ix s} (hs : SR E S vs w φ bs []) (hρ : RhoR ρ vs) (ho : o.op = .index t x ix) (hc : chkO x s = true) (hci : chkO ix i = true) (hu : P.underlying t = some .string)
    (h : step S d (.index s i) = some S') : Goal P ρ o E S' vs d w := by
  simp only [step] at h
  split at h
  · rename_i l b z hb hz
    obtain ⟨k, hix⟩ := natOf_sound hs (hρ _ _ hci) hz
    have hx := (bOne_sound hs (hρ _ _ hc) hb).flat rfl
    simp only [PV.toV] at hx
    split at h
    · rename_i c hget
      refine scalar_goal hs rfl ?_ h
      simp [execOp, ho, hx, hix, Instr.index, asIntOf, run_underlying hu, hget, PV.toV]
    · cases h
  · cases h

theorem len_goal {t x y e} {c : Call} (hs : SR E S vs w φ bs []) (hρ : RhoR ρ vs) (ho : o.op = .call c) (hcal : c.callee = .builtin .len) (ha : c.args = #[x]) (ht : c.argTypes = #[t]) (hc : chkO x y = true)
    (hu : P.underlying t = some (.slice e)) (h : step S d (.len y) = some S') : Goal P ρ o E S' vs d w := by
  obtain ⟨cal, args, tys⟩ := c
  simp only at hcal ha ht
  subst hcal; subst ha; subst ht
  simp only [step] at h
  split at h
  · rename_i l sz xs hb
    obtain ⟨A, cc, hval, _⟩ := CellR.slice_ hs (bOne_sound hs (hρ _ _ hc) hb)
    refine scalar_goal hs rfl ?_ h
    simp [execOp, ho, resolve, invoke, builtin, Builtin.len_, run_underlying hu, hval, PV.toV, goInt]
  · cases h
theorem lenS_goal {t x y} {c : Call} (hs : SR E S vs w φ bs []) (hρ : RhoR ρ vs) (ho : o.op = .call c) (hcal : c.callee = .builtin .len) (ha : c.args = #[x]) (ht : c.argTypes = #[t]) (hc : chkO x y = true)
    (hu : P.underlying t = some .string) (h : step S d (.lenS y) = some S') : Goal P ρ o E S' vs d w := by
  obtain ⟨cal, args, tys⟩ := c
  simp only at hcal ha ht
  subst hcal; subst ha; subst ht
  simp only [step] at h
  split at h
  · rename_i l s hb
    have hx := (bOne_sound hs (hρ _ _ hc) hb).flat rfl
    simp only [PV.toV] at hx
    refine scalar_goal hs rfl ?_ h
    simp [execOp, ho, resolve, invoke, builtin, Builtin.len_, run_underlying hu, hx, PV.toV, goInt]
  · cases h
theorem max_goal {t x x' y y'} {c : Call} (hs : SR E S vs w φ bs []) (hρ : RhoR ρ vs) (ho : o.op = .call c) (hcal : c.callee = .builtin .max) (ha : c.args = #[x, y]) (ht : c.argTypes = t) (hc : chkO x x' = true) (hc' : chkO y y' = true)
    (h : step S d (.max x' y') = some S') : Goal P ρ o E S' vs d w := by
  obtain ⟨cal, args, tys⟩ := c
  simp only at hcal ha ht
  subst hcal; subst ha; subst ht
  simp only [step] at h
  split at h
  · rename_i l k a l' k' b hb hb'
    split at h
    · rename_i hk
      subst hk
      have h1 := (bOne_sound hs (hρ _ _ hc) hb).flat rfl
      have h2 := (bOne_sound hs (hρ _ _ hc') hb').flat rfl
      simp only [PV.toV] at h1 h2
      refine scalar_goal hs rfl ?_ h
      simp [execOp, ho, resolve, invoke, builtin, Builtin.max_, Builtin.max2, h1, h2, PV.toV, List.foldlM]
    · cases h
  · cases h
theorem min_goal {t x x' y y'} {c : Call} (hs : SR E S vs w φ bs []) (hρ : RhoR ρ vs) (ho : o.op = .call c) (hcal : c.callee = .builtin .min) (ha : c.args = #[x, y]) (ht : c.argTypes = t) (hc : chkO x x' = true) (hc' : chkO y y' = true)
    (h : step S d (.min x' y') = some S') : Goal P ρ o E S' vs d w := by
  obtain ⟨cal, args, tys⟩ := c
  simp only at hcal ha ht
  subst hcal; subst ha; subst ht
  simp only [step] at h
  split at h
  · rename_i l k a l' k' b hb hb'
    split at h
    · rename_i hk
      subst hk
      have h1 := (bOne_sound hs (hρ _ _ hc) hb).flat rfl
      have h2 := (bOne_sound hs (hρ _ _ hc') hb').flat rfl
      simp only [PV.toV] at h1 h2
      refine scalar_goal hs rfl ?_ h
      simp [execOp, ho, resolve, invoke, builtin, Builtin.min_, Builtin.min2, h1, h2, PV.toV, List.foldlM]
    · cases h
  · cases h

/-! ### arithmetic, comparisons -/
theorem eqGuard_scalar {op : BinOp} {t : TypeId} {x y : Operand} {p q : PV} (hp : p.flat = true) : (eqGuard op t x y p.toV q.toV).run P w = .ok () w := by
  unfold eqGuard
  cases p <;> cases q <;> cases op <;> first | rfl | simp [PV.flat] at hp

theorem binOp_any {op : BinOp} {t : TypeId} {p q : PV} {r : PV} (h : binS op p q = some r) : Go.binOp op t p.toV q.toV = .pure r.toV ∧ r.flat = true ∧ p.flat = true ∧ q.flat = true := by
  unfold binS at h
  split at h
  · obtain ⟨h1, h2⟩ := ofSem_eq h
    refine ⟨?_, h2, rfl, rfl⟩
    rw [← h1]
    cases op <;> rfl
  · obtain ⟨h1, h2⟩ := ofSem_eq h
    refine ⟨?_, h2, rfl, rfl⟩
    rw [← h1]
    cases op <;> rfl
  · cases h

theorem bin_goal {op t ty x x' y y'} (hs : SR E S vs w φ bs []) (hρ : RhoR ρ vs) (ho : o.op = .binOp op t x y ty) (hc : chkO x x' = true) (hc' : chkO y y' = true)
    (h : step S d (.bin op x' y') = some S') : Goal P ρ o E S' vs d w := by
  simp only [step] at h
  split at h
  · rename_i l p l' q hb hb'
    cases hr : binS op p q with
    | none => rw [hr] at h; cases h
    | some r =>
      rw [hr] at h
      simp only [Option.bind_some] at h
      obtain ⟨h1, h2, h3, h4⟩ := binOp_any (t := t) hr
      have e1 := (bOne_sound hs (hρ _ _ hc) hb).flat h3
      have e2 := (bOne_sound hs (hρ _ _ hc') hb').flat h4
      refine scalar_goal hs h2 ?_ h
      simp [execOp, ho, e1, e2, eqGuard_scalar h3, h1]
  · cases h

theorem eqB_goal {neg t ty x x' y y'} (hs : SR E S vs w φ bs []) (hρ : RhoR ρ vs) (ho : o.op = .binOp (if neg then .neq else .eql) t x y ty) (hc : chkO x x' = true) (hc' : chkO y y' = true) (hu : P.underlying t = some .bool)
    (h : step S d (.eqB neg x' y') = some S') : Goal P ρ o E S' vs d w := by
  simp only [step] at h
  split at h
  · rename_i l a l' b hb hb'
    have e1 := (bOne_sound hs (hρ _ _ hc) hb).flat rfl
    have e2 := (bOne_sound hs (hρ _ _ hc') hb').flat rfl
    refine scalar_goal hs rfl ?_ h
    have hg := @eqGuard_scalar P w (if neg then .neq else .eql) t x y (.bool a) (.bool b) rfl
    simp only [PV.toV] at e1 e2 hg
    have hq : (Op.equalIn 10000 t (.bool a) (.bool b)).run P w = .ok (a == b) w := run_equalIn_bool w 9999 t a b hu
    cases neg
    · simp only [Bool.false_eq_true, if_false] at ho hg ⊢
      simp [execOp, ho, e1, e2, hg, binOp, Op.equal, Op.maxDepth, hq, PV.toV]
    · simp only [if_true] at ho hg ⊢
      simp [execOp, ho, e1, e2, hg, binOp, Op.equal, Op.maxDepth, hq, PV.toV]
  · cases h

theorem un_goal {op t x x'} (hs : SR E S vs w φ bs []) (hρ : RhoR ρ vs) (ho : o.op = .unOp op t x) (hc : chkO x x' = true)
    (h : step S d (.un op x') = some S') : Goal P ρ o E S' vs d w := by
  simp only [step] at h
  split at h
  · rename_i l p hb
    cases hr : unS op p with
    | none => rw [hr] at h; cases h
    | some r =>
      rw [hr] at h
      simp only [Option.bind_some] at h
      unfold unS at hr
      split at hr
      · obtain ⟨h1, h2⟩ := ofSem_eq hr
        have e1 := (bOne_sound hs (hρ _ _ hc) hb).flat rfl
        refine scalar_goal hs h2 ?_ h
        simp [execOp, ho, e1, h1]
      · obtain ⟨h1, h2⟩ := ofSem_eq hr
        have e1 := (bOne_sound hs (hρ _ _ hc) hb).flat rfl
        refine scalar_goal hs h2 ?_ h
        simp [execOp, ho, e1, h1]
      · cases hr
  · cases h

theorem convInt_goal {k src dst x x' ds} (hs : SR E S vs w φ bs []) (hρ : RhoR ρ vs) (ho : o.op = .convert src dst x) (hc : chkO x x' = true) (hsrc : P.underlying src = some ds) (hdst : P.underlying dst = some (.int k))
    (h : step S d (.convInt k x') = some S') : Goal P ρ o E S' vs d w := by
  simp only [step] at h
  split at h
  · rename_i l k' n hb
    have e1 := (bOne_sound hs (hρ _ _ hc) hb).flat rfl
    simp only [PV.toV] at e1
    refine scalar_goal hs rfl ?_ h
    simp [execOp, ho, e1, convert, run_underlying hsrc, run_underlying hdst, Conv.intToInt, PV.toV]
  · cases h

def chkOO (x : Option Operand) (y : Option AOpnd) : Bool :=
  match x, y with
  | none, none => true
  | some x, some y => chkO x y
  | _, _ => false
theorem optNat_sound {oo : Option AOpnd} {xo : Option Operand} {dflt n} (hs : SR E S vs w φ bs []) (hρ : RhoR ρ vs) (hc : chkOO xo oo = true)
    (h : optNat S oo dflt = some n) : match xo with | none => n = dflt | some x => ∃ k, ρ x = .int k n := by
  cases xo <;> cases oo <;> simp only [chkOO] at hc ⊢
  · simp only [optNat, Option.some.injEq] at h; exact h.symm
  · cases hc
  · cases hc
  · exact natOf_sound hs (hρ _ _ hc) h

theorem sliceS_goal {t x y lo hi lo' hi'} (hs : SR E S vs w φ bs []) (hρ : RhoR ρ vs) (ho : o.op = .slice t x lo hi none) (hc : chkO x y = true) (hlo : chkOO lo lo' = true) (hhi : chkOO hi hi' = true) (hu : P.underlying t = some .string)
    (h : step S d (.sliceS y lo' hi') = some S') : Goal P ρ o E S' vs d w := by
  simp only [step] at h
  split at h
  · rename_i l s hb
    have hx := (bOne_sound hs (hρ _ _ hc) hb).flat rfl
    simp only [PV.toV] at hx
    split at h
    · rename_i a b ha hb'
      split at h
      · rename_i hab
        have ka := optNat_sound hs hρ hlo ha
        have kb := optNat_sound hs hρ hhi hb'
        refine scalar_goal hs rfl ?_ h
        cases lo <;> cases hi <;> dsimp only at ka kb
        · subst ka; subst kb
          simp [execOp, ho, hx, Instr.sliceAt, Instr.slice, run_underlying hu, Instr.sliceBounds, PV.toV]
        · subst ka; obtain ⟨k, kb⟩ := kb
          simp [execOp, ho, hx, kb, Instr.sliceAt, Instr.slice, run_underlying hu, Instr.sliceBounds, Instr.sliceBound, asIntOf, PV.toV, hab]
        · obtain ⟨k, ka⟩ := ka; subst kb
          simp [execOp, ho, hx, ka, Instr.sliceAt, Instr.slice, run_underlying hu, Instr.sliceBounds, Instr.sliceBound, asIntOf, PV.toV, hab]
        · obtain ⟨k, ka⟩ := ka; obtain ⟨k', kb⟩ := kb
          simp [execOp, ho, hx, ka, kb, Instr.sliceAt, Instr.slice, run_underlying hu, Instr.sliceBounds, Instr.sliceBound, asIntOf, PV.toV, hab]
      · cases h
    · cases h
  · cases h

/-- A part of a slice that is read. -/
theorem RdL.part {ok : Nat → Nat → Prop} {sz xs v A c a b m : _} (h : RdL w ok [.sl sz xs] [v]) (hv : v = .slice A xs.length c) (hab : a ≤ b) (hb : b ≤ xs.length) (hbm : b ≤ m) (hm : m ≤ c) :
    RdL w ok [.sl sz ((xs.drop a).take (b - a))] [.slice (if m = a then A else A.map (·.add (a * sz))) (b - a) (m - a)] := by
  obtain ⟨A', c', cvs, e, hle, hr, hcv, hrd⟩ := h.slice_
  rw [hv] at e
  injection e with e1 e2 e3
  subst e1; subst e3
  have hlen := rows_length hr
  have hrows' : ∀ r ∈ (xs.drop a).take (b - a), r.length = sz := fun r hr' => hr r (List.mem_of_mem_drop (List.mem_of_mem_take hr'))
  have hfl : ((xs.drop a).take (b - a)).flatten = (xs.flatten.drop (a * sz)).take ((b - a) * sz) := by
    have e1 : xs.flatten = (xs.take a).flatten ++ ((xs.drop a).take (b - a)).flatten ++ (xs.drop b).flatten := by
      conv => lhs; rw [← List.take_append_drop a xs, List.flatten_append, ← List.take_append_drop (b - a) (xs.drop a), List.flatten_append, List.drop_drop, show a + (b - a) = b from by omega]
      rw [List.append_assoc]
    have l1 : (xs.take a).flatten.length = a * sz := by
      rw [rows_length (fun r h => hr r (List.mem_of_mem_take h)), List.length_take, Nat.min_eq_left (by omega)]
    have l2 : ((xs.drop a).take (b - a)).flatten.length = (b - a) * sz := by
      rw [rows_length hrows', List.length_take, List.length_drop, Nat.min_eq_left (by omega)]
    rw [e1]
    generalize (xs.take a).flatten = x1 at *
    generalize ((xs.drop a).take (b - a)).flatten = x2 at *
    generalize (xs.drop b).flatten = x3 at *
    rw [← l1, ← l2, List.append_assoc, List.drop_left, List.take_left]
  refine .sl (cvs := (cvs.drop (a * sz)).take ((b - a) * sz)) (by simp; omega) (by omega) hrows' (fun k u hk => ?_) (by rw [hfl]; exact (hrd.drop_ _).take_ _) .nil
  rw [drop_take_get] at hk
  split at hk
  · rename_i hlt
    obtain ⟨g, o, hA, h1, h2⟩ := hcv _ _ hk
    subst hA
    have hne : ¬ m = a := by
      intro e
      have : b - a = 0 := by omega
      rw [this] at hlt
      simp at hlt
    rw [if_neg hne]
    refine ⟨g, o + a * sz, by simp [addr_add], ?_, ?_⟩
    · rw [Nat.add_assoc]; exact h1
    · rw [Nat.add_assoc]; exact h2
  · cases hk

theorem slice_goal {sz0 : Nat} {t x y lo hi mx lo' hi' mx' e} {ti : TypeInfo} (hs : SR E S vs w φ bs []) (hρ : RhoR ρ vs) (ho : o.op = .slice t x lo hi mx) (hc : chkO x y = true) (hlo : chkOO lo lo' = true) (hhi : chkOO hi hi' = true) (hmx : chkOO mx mx' = true)
    (hu : P.underlying t = some (.slice e)) (hi2 : P.info? e = some ti) (hsz0 : ti.size = sz0)
    (h : step S d (.slice sz0 y lo' hi' mx') = some S') : Goal P ρ o E S' vs d w := by
  simp only [step] at h
  split at h
  · rename_i l sz xs hb
    have hr0 := bOne_sound hs (hρ _ _ hc) hb
    obtain ⟨A, c, hval, hle⟩ := CellR.slice_ hs hr0
    split at h
    case isFalse => cases h
    rename_i hsz'
    subst hsz0
    subst hsz'
    split at h
    · rename_i a b m ha hb' hm
      split at h
      · rename_i hab
        obtain ⟨h1, h2, h3, h4⟩ := hab
        have ka := optNat_sound hs hρ hlo ha
        have kb := optNat_sound hs hρ hhi hb'
        have km := optNat_sound hs hρ hmx hm
        -- the capacity's end
        have hrun : ∃ m', m' ≤ c ∧ b ≤ m' ∧ (execOp ρ o).run P w = .ok (.value (.slice (if m' = a then A else A.map (·.add (a * ti.size))) (b - a) (m' - a))) w := by
          have hi2' := r_size (w := w) hi2
          cases mx with
          | none =>
            refine ⟨c, Nat.le_refl _, by omega, ?_⟩
            cases lo <;> cases hi <;> dsimp only at ka kb
            · subst ka; subst kb
              simp [execOp, ho, hval, Instr.sliceAt, Instr.slice, run_underlying hu, Instr.sliceBounds, hi2']
            · subst ka; obtain ⟨k, kb⟩ := kb
              simp [execOp, ho, hval, kb, Instr.sliceAt, Instr.slice, run_underlying hu, Instr.sliceBounds, Instr.sliceBound, asIntOf, hi2', show b ≤ c from by omega]
            · obtain ⟨k, ka⟩ := ka; subst kb
              simp [execOp, ho, hval, ka, Instr.sliceAt, Instr.slice, run_underlying hu, Instr.sliceBounds, Instr.sliceBound, asIntOf, hi2', h1]
            · obtain ⟨k, ka⟩ := ka; obtain ⟨k', kb⟩ := kb
              simp [execOp, ho, hval, ka, kb, Instr.sliceAt, Instr.slice, run_underlying hu, Instr.sliceBounds, Instr.sliceBound, asIntOf, hi2', h1, show b ≤ c from by omega]
          | some xm =>
            obtain ⟨km', km⟩ := km
            refine ⟨m, by omega, h2, ?_⟩
            have hih : hi.isSome := by
              have e1 : mx'.isSome = true := by cases mx' <;> simp [chkOO] at hmx ⊢
              have e2 := h4 e1
              cases hi <;> cases hi' <;> simp [chkOO] at hhi e2 ⊢
            cases hi with
            | none => cases hih
            | some xh =>
              obtain ⟨kh, kb⟩ := kb
              cases lo <;> dsimp only at ka
              · subst ka
                simp [execOp, ho, hval, kb, km, Instr.sliceAt, Instr.slice, run_underlying hu, Instr.sliceBounds, Instr.sliceBound, asIntOf, hi2', h2, show m ≤ c from by omega]
              · obtain ⟨k, ka⟩ := ka
                simp [execOp, ho, hval, ka, kb, km, Instr.sliceAt, Instr.slice, run_underlying hu, Instr.sliceBounds, Instr.sliceBound, asIntOf, hi2', h1, h2, show m ≤ c from by omega]
        obtain ⟨m', q1, q2, hrun⟩ := hrun
        refine goal_val (φ := φ) hrun ?_
        by_cases hl : l = .old
        · subst hl
          rw [if_pos rfl] at h
          exact done_put (bt := []) (tv := .one (.val .old _)) hs ⟨RdL.part hr0.1 hval h1 (by omega) q2 q1, rfl⟩ trivial h
        · rw [if_neg hl] at h
          exact done_put (bt := []) (tv := .one (.val .bor _)) hs ⟨RdL.part (CellR.reads hs.hO hr0) hval h1 (by omega) q2 q1, rfl⟩ trivial h
      · cases h
    · cases h
  · cases h

theorem nilchk_goal {n rs x} (hs : SR E S vs w φ bs []) (hρ : RhoR ρ vs) (ho : o.op = .nilCheck x) (hc : chkO x (.t n rs) = true) (h : step S d (.nilchk (.t n rs)) = some S') : Goal P ρ o E S' vs d w := by
  have hρx := slotρ hρ hc
  simp only [step] at h
  split at h
  · rename_i cs hS
    have hv := slotv hs (n := n) (by rw [hS]; simp)
    obtain ⟨bt, h1, h2⟩ := hs.slot hv
    rw [hS] at h1
    obtain ⟨g, arr, e, b1, ev, _⟩ := h1
    rw [ev] at hρx
    exact goal_val (φ := φ) (v := .pointer (some ⟨g, 0, none⟩)) (by simp [execOp, ho, hρx]) (done_put (bt := []) (tv := .place n 0 []) hs rfl (.inl ⟨rfl, cs, g, hS, by rw [hv, ev], rfl⟩) h)
  · rename_i r c hS
    have hv := slotv hs (n := n) (by rw [hS]; simp)
    obtain ⟨bt, h1, h2⟩ := hs.slot hv
    rw [hS] at h2
    rcases h2 with ⟨_, cs, g, e1, e2, e3⟩ | ⟨pre, s', i', j, e, _⟩
    · rw [e3] at hρx
      exact goal_val (φ := φ) (v := .pointer (some ⟨g, c, none⟩)) (by simp [execOp, ho, hρx]) (done_put (bt := []) (tv := .place r c []) hs rfl (.inl ⟨rfl, cs, g, e1, e2, rfl⟩) h)
    · simp at e
  · rename_i l row off hS
    have hv := slotv hs (n := n) (by rw [hS]; simp)
    obtain ⟨bt, h1, h2⟩ := hs.slot hv
    rw [hS] at h1
    obtain ⟨_, g, o', cvs, ev, k1, k2⟩ := h1
    rw [ev] at hρx
    exact goal_val (φ := φ) (by simp [execOp, ho, hρx]) (done_put (bt := []) (tv := .ep l row off) hs ⟨rfl, g, o', cvs, rfl, k1, k2⟩ trivial h)
  · cases h

end
end Go.Proofs.Ytkiliooegoldoaa
