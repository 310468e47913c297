/- Calls; code; functions: what the evaluator answers, the program answers. -/
import Derived.Orders
import Derived.Test.YtkiliooegoldoaaSem2
set_option linter.unusedVariables false
set_option linter.unusedSimpArgs false
namespace Go.Proofs.Ytkiliooegoldoaa
open Go

def RetR (w w' : World) (φ' : Nat → Nat) (rk : List (Bool × Lev)) (rs : List (List PV)) (v : Value) : Prop :=
  ∀ tv, resAll rk rs = some tv → ∃ bs : List Nat, (∀ E : Env, TVR E w' φ' tv v bs) ∧ (∀ g, bs.count g ≤ 1) ∧ (∀ g ∈ bs, w.heap.size ≤ g ∧ g < w'.heap.size) ∧ ∀ S vs, ViewTV S vs w' φ' tv v

theorem noViews : ∀ {ks rs t}, resTup ks rs = some t → ∀ x ∈ t, ∀ c ∈ x.2, noView c := by
  intro ks
  induction ks with
  | nil => intro rs t h; cases rs <;> simp [resTup] at h; subst h; simp
  | cons k ks ih =>
    intro rs t h
    cases rs with
    | nil => cases h
    | cons ps rs =>
      simp only [resTup] at h
      split at h
      case isFalse => cases h
      cases hr : resTup ks rs with
      | none => rw [hr] at h; cases h
      | some t' =>
        rw [hr] at h
        simp only [Option.map_some, Option.some.injEq] at h
        subst h
        intro x hx c hc
        rcases List.mem_cons.1 hx with rfl | hx
        · obtain ⟨p, _, rfl⟩ := List.mem_map.1 hc
          trivial
        · exact ih hr x hx c hc

theorem TupR.length {E w φ} : ∀ {S : List (Bool × List Cell)} {vs bs}, TupR E w φ S vs bs → S.length = vs.length := by
  intro S
  induction S with
  | nil => intro vs bs h; obtain ⟨rfl, _⟩ := h; rfl
  | cons c cs ih => intro vs bs h; obtain ⟨v, vs', b1, b2, rfl, rfl, _, h⟩ := h; simp [ih h]

theorem noView_C {S vs w φ c v} (h : noView c) : ViewC S vs w φ c v := by
  cases c with
  | view r c path => cases h
  | _ => trivial

theorem exit_sound {P : Program} {fn : Func} {S w φ w' φ' bs rs rk rss} {tmps : Array Value} (hs : SR (env0 w φ) S tmps.toList w' φ' bs []) (hc : chkRess P fn.results.toList rs rk = true) (ho : outs S rs rk = some rss) :
    Gr w w' φ φ' ∧ ∃ v, (results fn tmps).run P w' = .ok v w' ∧ RetR w w' φ' rk rss v := by
  refine ⟨⟨fun g hg => hs.same g hg (by simp [env0]), hs.size, hs.os⟩, ?_⟩
  obtain ⟨vs, b, h1, h2, h3⟩ := outs_sound hs hs.tvs (fun r _ => rfl) hc ho
  refine ⟨if h : vs.length = 1 then vs[0] else .tuple vs.toArray, by rw [results_eq]; simp [h1], fun tv htv => ⟨b, ?_⟩⟩
  have hb1 : ∀ g, b.count g ≤ 1 := fun g => by have := h2 g; have := hs.cnt g; omega
  have hb2 : ∀ g ∈ b, w.heap.size ≤ g ∧ g < w'.heap.size := fun g hg => by
    have hm : g ∈ bs := mem_of_count (by have := h2 g; have := List.count_pos_iff.2 hg; omega)
    obtain ⟨k1, k2⟩ := hs.own g (.inl hm)
    exact ⟨k2.elim id (fun k => by simp [env0] at k), k1⟩
  unfold resAll at htv
  cases ht : resTup rk rss with
  | none => rw [ht] at htv; cases htv
  | some t =>
    rw [ht] at htv
    simp only [Option.bind_some] at htv
    have hT := h3 t ht
    have hlen := (hT (env0 w φ)).length
    have hnv := noViews ht
    split at htv
    · rename_i x
      have hl1 : vs.length = 1 := by simpa using hlen.symm
      obtain ⟨v, rfl⟩ : ∃ v, vs = [v] := by
        match vs, hl1 with
        | [v], _ => exact ⟨v, rfl⟩
      simp only [List.length_singleton, dite_true, List.getElem_cons_zero]
      have hone : ∀ E : Env, (if x.1 = true then ∃ arr, v = .agg arr ∧ CellsR E w' φ' x.2 arr.toList b else CellsR E w' φ' x.2 [v] b) := by
        intro E
        obtain ⟨v', vs', b1, b2, e1, e2, h, h', h''⟩ := hT E
        injection e1 with e1 e3
        subst e1
        subst h''
        rw [List.append_nil] at e2
        subst e2
        exact h
      refine ⟨fun E => ?_, hb1, hb2, ?_⟩
      · have h := hone E
        unfold TV.ofCells at htv
        by_cases hx : x.1 = true
        · rw [if_pos hx] at h htv
          injection htv with htv
          subst htv
          exact h
        · rw [if_neg hx] at h htv
          split at htv
          · rename_i c hc
            injection htv with htv
            subst htv
            rw [hc] at h
            obtain ⟨v', vs', b1, b2, e1, e2, h, h'⟩ := h
            injection e1 with e1 e3
            subst e1; subst e3
            obtain ⟨_, rfl⟩ := h'
            rw [List.append_nil] at e2
            subst e2
            exact h
          · cases htv
      · intro S' vs'
        unfold TV.ofCells at htv
        by_cases hx : x.1 = true
        · rw [if_pos hx] at htv
          injection htv with htv
          subst htv
          exact fun arr e i c u a _ => noView_C (hnv x (by simp) c (List.mem_of_getElem? a))
        · rw [if_neg hx] at htv
          split at htv
          · rename_i c hc
            injection htv with htv
            subst htv
            exact noView_C (hnv x (by simp) c (by simp [hc]))
          · cases htv
    · rename_i hne
      injection htv with htv
      subst htv
      have hl1 : vs.length ≠ 1 := by
        intro hl
        rw [hl] at hlen
        match t, hlen with
        | [x], _ => exact hne x rfl
      rw [dif_neg hl1]
      exact ⟨fun E => ⟨vs.toArray, rfl, by simpa using hT E⟩, hb1, hb2, fun S' vs' x hx c hc => hnv x hx c hc⟩

/-! ### Calls -/
def FnSem (P : Program) (f : FuncId) (fd : AFunc) (args rs : List (List PV)) : Prop :=
  ∀ w φ (vals : Array Value), ArgsR w φ fd.params args vals.toList →
    Calls P f vals w fun e w' => ∃ v, e = .returned v ∧ ∃ φ', Gr w w' φ φ' ∧ RetR w w' φ' fd.rk rs v

theorem reads_cells {E S vs w φ bs hand} (hs : SR E S vs w φ bs hand) : ∀ {l : List (Lev × PV)} {us b}, CellsR E w φ (l.map valCell) us b → RdL w (okB φ) (l.map (·.2)) us := by
  intro l
  induction l with
  | nil => intro us b h; obtain ⟨rfl, _⟩ := h; exact .nil
  | cons x l ih =>
    intro us b h
    obtain ⟨u, us', b1, b2, rfl, rfl, hc, h⟩ := h
    exact RdL.cons_iff.2 ⟨CellR.reads hs.hO hc, ih h⟩

def chkArgs : List Operand → List AOpnd → Bool
  | [], [] => true
  | x :: xs, y :: ys => chkO x y && chkArgs xs ys
  | _, _ => false

theorem args_sound {E S vs w φ bs hand} {ρ : Operand → Value} (hs : SR E S vs w φ bs hand) (hρ : RhoR ρ vs) : ∀ {xs : List Operand} {as : List AOpnd} {args}, chkArgs xs as = true → argsOf S as = some args →
    ArgsR w φ (args.map (·.1)) (args.map (·.2)) (xs.map ρ) := by
  intro xs
  induction xs with
  | nil =>
    intro as args hc h
    cases as with
    | nil => simp [argsOf] at h; subst h; trivial
    | cons _ _ => cases hc
  | cons x xs ih =>
    intro as args hc h
    cases as with
    | nil => cases hc
    | cons a as =>
      simp only [chkArgs, Bool.and_eq_true] at hc
      simp only [argsOf] at h
      cases hb : bAny S a with
      | none => rw [hb] at h; cases h
      | some l =>
        rw [hb] at h
        simp only [Option.bind_some] at h
        cases hq : argsOf S as with
        | none => rw [hq] at h; cases h
        | some args' =>
          rw [hq] at h
          simp only [Option.map_some, Option.some.injEq] at h
          subst h
          obtain ⟨us, h1, h2⟩ := bAny_sound hs (hρ x a hc.1) (agg := l.1) (l := l.2) (by rw [hb])
          exact ⟨⟨us, h1, reads_cells hs h2⟩, ih hc.2 hq⟩

def cCall (f : FuncId) (as : List AOpnd) : Op → Bool
  | .call { callee := .value (.func f'), args := xs, argTypes := _ } => f' == f && chkArgs xs.toList as
  | _ => false

theorem eval_rho (a : Act) : RhoR a.eval a.tmps.toList := by
  intro x y h
  unfold chkO at h
  split at h
  · simp at h
    subst h
    show a.tmps.getD _ undef = _
    simp
  · exact chkConst_sound h
  · cases h

def chkGuard (ops : Array Oper) (g : Option (Nat × Bool)) (h : Option (Nat × Bool)) : Bool :=
  match g, h with
  | none, none => true
  | some (j, b), some (t, c) => b == c && (match ops[j]? with
    | some o => match o.dst with
      | some d => d == t
      | none => false
    | none => false)
  | _, _ => false

theorem guard_sound {E S w φ bs hand} {ops : Array Oper} {o : Oper} {tmps : Array Value} {gd b} (hs : SR E S tmps.toList w φ bs hand) (hc : chkGuard ops o.guard gd = true) (h : guardOf S gd = some b) : Region.wanted o (yielded ops tmps) = b := by
  unfold chkGuard at hc
  split at hc
  · rename_i hg
    simp only [guardOf, Option.some.injEq] at h
    subst h
    simp [Region.wanted, hg]
  · rename_i j b' t c hg
    simp only [Bool.and_eq_true, beq_iff_eq] at hc
    obtain ⟨rfl, hc⟩ := hc
    split at hc
    case h_2 => cases hc
    rename_i oj hoj
    split at hc
    case h_2 => cases hc
    rename_i d hd
    simp only [beq_iff_eq] at hc
    subst hc
    simp only [Region.wanted, hg, yielded, hoj, Option.bind_some, hd]
    simp only [guardOf] at h
    split at h
    · rename_i l x hS
      injection h with h
      obtain ⟨v, hv⟩ := hs.lt (t := d) (by rw [hS]; simp)
      obtain ⟨bt, h1, _⟩ := hs.slot hv
      rw [hS] at h1
      have := CellR.flat h1 rfl
      subst this
      rw [Array.getElem?_toList] at hv
      rw [hv]
      simp only [PV.toV]
      rw [← h]
      cases x <;> cases b' <;> rfl
    · rename_i hS
      injection h with h
      obtain ⟨v, hv⟩ := hs.lt (t := d) (by rw [hS]; simp)
      obtain ⟨bt, h1, _⟩ := hs.slot hv
      rw [hS] at h1
      obtain ⟨_, rfl⟩ := h1
      rw [Array.getElem?_toList] at hv
      rw [hv]
      simp only [undef]
      rw [← h]
      rfl
    · cases h
  · cases hc

section
variable {P : Program} (num : Nat → FuncId)

def chkAO (P : Program) (ops : Array Oper) (a : AO) (o : Oper) : Bool :=
  o.dst == a.dst && chkGuard ops o.guard a.guard && (match a.op with
    | .call k as => cCall (num k) as o.op
    | op => chkOp P op o.op)

def OneSem (P : Program) (ops : Array Oper) (o : Oper) (S S' : St) : Prop :=
  ∀ i E w φ bs a (K : Act → World → Prop) Q, ops[i]? = some o → SR E S a.tmps.toList w φ bs [] → a.defers = [] →
    (∀ a' w' φ' bs', SR E S' a'.tmps.toList w' φ' bs' [] → a'.defers = [] → K a' w') → wpOp P ops Q i K a w

theorem put_toList (a : Act) (d : Option Tmp) (v : Value) : (a.put d v).tmps.toList = upd a.tmps.toList d v ∧ (a.put d v).defers = a.defers := by
  cases d <;> simp [Act.put, upd]

theorem one_op {ops : Array Oper} {ao : AO} {o : Oper} {S S' : St} (hd : o.dst = ao.dst) (hg : chkGuard ops o.guard ao.guard = true) (hc : chkOp P ao.op o.op = true)
    (h1 : guardOf S ao.guard = some true) (h2 : step S ao.dst ao.op = some S') : OneSem P ops o S S' := by
  intro i E w φ bs a K Q hi hs hdef hK
  unfold wpOp
  simp only [hi]
  rw [if_pos (guard_sound hs hg h1)]
  refine .inl ?_
  obtain ⟨v, w', hr, φ', bs', hs'⟩ := op_sound hc hs (eval_rho a) h2
  obtain ⟨e1, e2⟩ := put_toList a o.dst v
  have hfin : K (a.put o.dst v) w' := hK _ w' φ' bs' (by rw [e1, hd]; exact hs') (by rw [e2]; exact hdef)
  unfold Oper.wp
  rcases hr with hr | ⟨hr, rfl⟩
  · rw [hr]; exact hfin
  · rw [hr]; exact hfin

theorem one_not {ops : Array Oper} {ao : AO} {o : Oper} {S S' : St} (hd : o.dst = ao.dst) (hg : chkGuard ops o.guard ao.guard = true)
    (h1 : guardOf S ao.guard = some false) (h2 : put false S ao.dst .undef = some S') : OneSem P ops o S S' := by
  intro i E w φ bs a K Q hi hs hdef hK
  unfold wpOp
  simp only [hi]
  rw [if_neg (by rw [guard_sound hs hg h1]; simp)]
  obtain ⟨bs', hs'⟩ := done_put (bt := []) (tv := .undef) (v := undef) hs ⟨rfl, rfl⟩ trivial h2
  obtain ⟨e1, e2⟩ := put_toList a o.dst undef
  exact hK _ w φ bs' (by rw [e1, hd]; exact hs') (by rw [e2]; exact hdef)

theorem one_call {ops : Array Oper} {ao : AO} {o : Oper} {S S' : St} {f : FuncId} {fn : Func} {c : Code} {fd : AFunc} {as args rs tv} (hd : o.dst = ao.dst) (hg : chkGuard ops o.guard ao.guard = true) (hc : cCall f as o.op = true)
    (hf : P.funcs[f]? = some fn) (hname : (fn.name == "runtime.NumGoroutine") = false) (hb : fn.body = some c)
    (h1 : guardOf S ao.guard = some true) (h2 : argsOf S as = some args) (h3 : args.map (·.1) = fd.params) (hsem : FnSem P f fd (args.map (·.2)) rs)
    (h4 : resAll fd.rk rs = some tv) (h5 : put false S ao.dst tv = some S') : OneSem P ops o S S' := by
  intro i E w φ bs a K Q hi hs hdef hK
  unfold wpOp
  simp only [hi]
  rw [if_pos (guard_sound hs hg h1)]
  refine .inl ?_
  unfold cCall at hc
  split at hc
  case h_2 => cases hc
  rename_i f' xs tys ho
  simp only [Bool.and_eq_true, beq_iff_eq] at hc
  obtain ⟨rfl, hc⟩ := hc
  have hrun : (execOp a.eval o).run P w = .ok (.enter f' (xs.map a.eval)) w := by
    have e : execOp a.eval o = callFunc f' (#[] ++ xs.map a.eval ++ #[]) := by
      obtain ⟨dst, op, type, pos, after, guard⟩ := o
      dsimp only at ho
      subst ho
      rfl
    rw [e]
    have h1 : fn.name ≠ "runtime.NumGoroutine" := by simpa using hname
    simp [callFunc, hf, h1, hb]
  unfold Oper.wp
  rw [hrun, Oper.upon_enter]
  have hA := args_sound hs (eval_rho a) hc h2
  rw [h3] at hA
  refine (hsem w φ (xs.map a.eval) (by simpa using hA)).mono ?_
  rintro e w' ⟨v, rfl, φ', hgr, hret⟩
  obtain ⟨bt, k1, k2, k3, k4⟩ := hret tv h4
  have hs' : SR E S a.tmps.toList w' φ' bs (bt ++ []) := hgr.sr hs (fun g => by
      rw [List.append_nil]
      by_cases hb : g ∈ bt
      · have h0 : g ∉ bs := fun hm => by have := (hs.own g (.inl hm)).1; have := (k3 g hb).1; omega
        rw [count_zero_of h0]; have := k2 g; omega
      · rw [count_zero_of hb]; have := hs.cnt g; omega)
    (fun g hg => by
      rw [List.append_nil] at hg
      have := k3 g hg
      exact ⟨this.2, .inl (Nat.le_trans hs.size this.1)⟩)
  obtain ⟨bs', hs''⟩ := done_put hs' (k1 E) (k4 S a.tmps.toList) h5
  obtain ⟨e1, e2⟩ := put_toList a o.dst v
  exact hK _ w' φ' bs' (by rw [e1, hd]; exact hs'') (by rw [e2]; exact hdef)
end

end Go.Proofs.Ytkiliooegoldoaa
