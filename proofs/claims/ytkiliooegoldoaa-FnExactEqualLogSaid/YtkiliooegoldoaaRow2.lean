/- From the evaluator's answer to a row. -/
import Derived.Test.YtkiliooegoldoaaRow1
set_option linter.unusedVariables false
set_option linter.unusedSimpArgs false
namespace Go.Proofs.Ytkiliooegoldoaa
open Go Go.RowKit Go.ChangeShapes Go.WideShapes Go.ChangeAt

section
variable {H : Type} {enc : TypeId × Value → H} {P : Program} {W : World}

theorem Gr.below {W W' : World} {φ φ' : Nat → Nat} (h : Gr W W' φ φ') : Below W.heap.size W W' :=
  ⟨h.os.1, h.os.2.1, congrArg Prod.fst (congrFun h.os.2.2 default), h.size, fun k hk => (h.heap k hk).1⟩
theorem Gr.frozen {W W' : World} {φ φ' : Nat → Nat} (h : Gr W W' φ φ') (a : Addr) : W'.frozen? a = W.frozen? a := congrArg Prod.snd (congrFun h.os.2.2 a)

/-- All of the memory may be read. -/
def φall (w : World) : Nat → Nat := fun g => match w.heap[g]? with
  | some (.cells c _ _) => c.size
  | _ => 0
theorem φall_ok (w : World) : ∀ g k v, w.cell? ⟨g, k, none⟩ = some v → okB (φall w) g k := by
  intro g k v h
  unfold World.cell? at h
  dsimp only at h
  split at h
  · rename_i c t fr hg
    simp at h
    unfold okB φall
    rw [hg]
    exact (Array.getElem?_eq_some_iff.1 h).1
  · cases h

def aggT (P : Program) (t : TypeId) : Bool := match P.underlying t with
  | some d => aggD d
  | none => false

theorem not_agg {t : TypeId} {base : Nat} {cs : Array Value} (ht : aggT P t = false) (h : Value.okWide P W .any base t (.agg cs)) : False := by
  unfold aggT at ht
  unfold Value.okWide at h
  cases hu : P.underlying t with
  | none => simp [hu, Cell.okWide, Cell.ok] at h
  | some d => rw [hu] at ht; cases d <;> simp [hu, Cell.okWide, Cell.ok, aggD] at h ht

def HasTs (P : Program) : List TypeId → List (List PV) → Prop
  | [], [] => True
  | t :: ts, a :: as => HasT P t a ∧ HasTs P ts as
  | _, _ => False

theorem args_of {ts : List TypeId} (hts : plainTs P ts = true) {base : Nat} : ∀ {pts : List TypeId} {vs : List Value} {ds : List (DataW H)} {ps : List MemPlace}, (∀ t ∈ pts, t ∈ ts) →
    (∀ (j : Nat) t v, pts[j]? = some t → vs[j]? = some v → Value.okWide P W .any base t v) → DataW.TrodAll enc P W 0 (fun _ => true) true pts vs ds ps →
    ∃ args, HasTs P pts args ∧ ArgsR W (φall W) (pts.map (aggT P)) args vs := by
  intro pts
  induction pts with
  | nil =>
    intro vs ds ps _ _ h
    cases vs <;> cases ds <;> simp [DataW.TrodAll] at h
    exact ⟨[], trivial, trivial⟩
  | cons t pts ih =>
    intro vs ds ps hin hval h
    cases vs with
    | nil => cases ds <;> simp [DataW.TrodAll] at h
    | cons v vs =>
      cases ds with
      | nil => simp [DataW.TrodAll] at h
      | cons d ds =>
        obtain ⟨p, q, ⟨fuel, h1⟩, h2, _⟩ := h
        obtain ⟨args, k1, k2⟩ := ih (fun t ht => hin t (by simp [ht])) (fun j t' v' a b => hval (j + 1) t' v' (by simpa using a) (by simpa using b)) h2
        obtain ⟨pvs, m1, m2, m3⟩ := trod_pv (ok := okB (φall W)) hts (φall_ok W) rfl fuel t _ _ (hin t (by simp)) h1
        refine ⟨pvs :: args, ⟨m1, k1⟩, ⟨v.cells.toList, ?_, m2⟩, k2⟩
        have hv := hval 0 t v rfl rfl
        by_cases hag : aggT P t = true
        · rw [if_pos hag]
          unfold aggT at hag
          unfold Value.okWide at hv
          cases hu : P.underlying t with
          | none => rw [hu] at hag; cases hag
          | some d =>
            rw [hu] at hag
            cases d <;> simp [aggD] at hag <;> simp only [hu] at hv <;> (obtain ⟨cs, rfl, _⟩ := hv; simp [Value.cells])
        · rw [if_neg hag]
          cases v with
          | agg cs => exact (not_agg (by simpa using hag) hv).elim
          | _ => rfl

theorem stays {P : Program} (hl : laidOutB P = true) {W W' : World} (hb : Below W.heap.size W W') {sp' : Nat → Bool} : ∀ {pts : List TypeId} {vs : List Value} {ds : List (DataW H)} {ps : List MemPlace},
    (∀ t ∈ pts, P.readableRec t = true ∧ t < P.types.size) → (∀ p ∈ ps, p.block < W.heap.size) → (∀ p ∈ ps, sp' p.block = true) →
    DataW.TrodAll enc P W 0 (fun _ => true) true pts vs ds ps → DataW.TrodAll enc P W' 0 sp' true pts vs ds ps := by
  intro pts
  induction pts with
  | nil =>
    intro vs ds ps _ _ _ h
    cases vs <;> cases ds <;> simp [DataW.TrodAll] at h ⊢
    exact h
  | cons t pts ih =>
    intro vs ds ps hr hlt hsp h
    cases vs with
    | nil => cases ds <;> simp [DataW.TrodAll] at h
    | cons v vs =>
      cases ds with
      | nil => simp [DataW.TrodAll] at h
      | cons d ds =>
        obtain ⟨p, q, h1, h2, rfl⟩ := h
        exact ⟨p, q, WideElems.Trod_stays hl (hr t (by simp)).1 (hr t (by simp)).2 h1 (fun x hx => hb.same (hlt x (by simp [hx]))) (fun x hx => hsp x (by simp [hx])),
          ih (fun t ht => hr t (by simp [ht])) (fun x hx => hlt x (by simp [hx])) (fun x hx => hsp x (by simp [hx])) h2, rfl⟩

/-- The law answers true; the input reads as it did. -/
theorem contract_of {num : Nat → FuncId} {F : Nat → Option AFunc} {k : Nat} {fd : AFunc} {fn : Func} {s : ChangeSpec} {apart fresh handsOn again : Bool} (hl : laidOutB P = true)
    (HF : ∀ k fd, F k = some fd → ∃ fn c, FnOk P num k fd fn c) (hk : F k = some fd) {ts : List TypeId} (hts : plainTs P ts = true)
    (hparams : ∀ t ∈ fn.params.toList, t ∈ ts ∧ P.readableRec t = true ∧ t < P.types.size) (hagg : fn.params.toList.map (aggT P) = fd.params) {tb : TypeId} (hres : fn.resultTypes = #[tb]) (hb : P.underlying tb = some .bool)
    (hrk : fd.rk = [(false, .deep)]) (law : ∀ args, HasTs P fn.params.toList args → Big F (.fn k args [[.bool true]]))
    (hvars : s.vars = []) (hs : ∀ ds : List (DataW H), ds.length = fn.params.size → s.fn H ds = { results := [.lit (.bool true)], args := ds })
    {base : Nat} {args : Array Value} {ds gs : List (DataW H)} {before : List MemPlace} (hval : ∀ (j : Nat) t v, fn.params[j]? = some t → args[j]? = some v → Value.okWide P W .any base t v)
    (hW : DataW.Whole enc P fn.params.toList s.vars apart W args.toList ds gs before) :
    Calls P (num k) args W fun e W' => ∃ v, e = .returned v ∧ s.post enc P fn apart fresh handsOn again W args v W' := by
  have hW' := hW
  obtain ⟨p, q, hA, hV, rfl, hfz, hnd⟩ := hW
  rw [hvars] at hV
  obtain ⟨rfl, rfl⟩ : gs = [] ∧ q = [] := by
    cases gs <;> simp [DataW.TrodVars] at hV
    exact ⟨rfl, hV⟩
  obtain ⟨as, k1, k2⟩ := args_of (W := W) (base := base) hts (fun t ht => (hparams t ht).1) (fun j t v a b => hval j t v (by simpa using a) (by simpa using b)) hA
  rw [hagg] at k2
  have hsem := big_sound (P := P) (num := num) HF (law as k1) fd hk
  have hlen : ds.length = fn.params.size := by
    have : ∀ {pts : List TypeId} {vs : List Value} {ds : List (DataW H)} {ps : List MemPlace}, DataW.TrodAll enc P W 0 (fun _ => true) true pts vs ds ps → ds.length = pts.length := by
      intro pts
      induction pts with
      | nil => intro vs ds ps h; cases vs <;> cases ds <;> simp [DataW.TrodAll] at h; rfl
      | cons t pts ih =>
        intro vs ds ps h
        cases vs with
        | nil => cases ds <;> simp [DataW.TrodAll] at h
        | cons v vs =>
          cases ds with
          | nil => simp [DataW.TrodAll] at h
          | cons d ds => obtain ⟨p, q, _, h2, _⟩ := h; simp [ih h2]
    simpa using this hA
  refine (hsem W (φall W) args k2).mono ?_
  rintro e W' ⟨v, rfl, φ', hgr, hret⟩
  refine ⟨v, rfl, ?_⟩
  rw [hrk] at hret
  obtain ⟨bs, r1, _⟩ := hret (.one (.val .deep (.bool true))) rfl
  have hc : CellR ⟨W, φall W, []⟩ W' φ' (.val .deep (.bool true)) v bs := r1 ⟨W, φall W, []⟩
  have hv : v = .bool true := hc.flat rfl
  subst hv
  have hlt := hW'.lt
  have hfn := hs ds hlen
  have e1 : (Value.bool true).resultList fn.resultTypes.size = [.bool true] := by rw [hres]; rfl
  refine post_of_same (pa := p) (pv := []) hW' ?_ ?_ ?_ rfl (hgr.below.frame _) hgr.frozen ?_
  · intro b sp hd
    rw [List.append_nil, hfn, e1, hres]
    exact ChangeShapes.trodAll_mk1 (shut_bool hb true)
  · intro sp hsp
    rw [List.append_nil, hfn]
    exact stays hl hgr.below (fun t ht => (hparams t ht).2) (fun x hx => hlt x (by simp [hx])) (fun x hx => hsp x (by simp [hx])) hA
  · intro sp hsp
    rw [hvars, List.append_nil, hfn]
    exact rfl
  · exact ok_one hres rfl (okWide_bool_mk hb true)
end
end Go.Proofs.Ytkiliooegoldoaa
