/- Readings of inputs as plain data: types, logs. -/
import Derived.Test.YtkiliooegoldoaaVl
set_option linter.unusedVariables false
set_option linter.unusedSimpArgs false
namespace Go.Proofs.Ytkiliooegoldoaa
open Go

inductive Typ where
  | mk (k : Int) (ls : List ByteArray) (us : List Typ)
theorem Typ.ind {M : Typ → Prop} (h : ∀ k ls us, (∀ v ∈ us, M v) → M (.mk k ls us)) (v : Typ) : M v :=
  Typ.rec (motive_1 := M) (motive_2 := fun us => ∀ v ∈ us, M v) (fun k ls us ih => h k ls us ih) (by simp) (fun v vs h1 h2 => by
    intro w hw
    rcases List.mem_cons.1 hw with rfl | hw
    · exact h1
    · exact h2 w hw) v
mutual
def Typ.row : Typ → List PV
  | .mk k ls us => [I k, strs ls, .sl 3 (typRows us)]
def typRows : List Typ → List (List PV)
  | [] => []
  | v :: vs => v.row :: typRows vs
end
theorem typRows_eq : ∀ vs, typRows vs = vs.map Typ.row := by
  intro vs
  induction vs with
  | nil => rfl
  | cons v vs ih => simp only [typRows, ih, List.map_cons]
abbrev typs (vs : List Typ) : PV := .sl 3 (vs.map Typ.row)
theorem Typ.row_mk {k ls us} : (Typ.mk k ls us).row = [I k, strs ls, typs us] := by
  rw [Typ.row, typRows_eq]
theorem Typ.row_flat (v : Typ) : v.row.map PV.flat = [true, false, false] := by
  cases v; rfl
inductive Typ.ok : Typ → Prop
  | mk {k ls us} : inR k → strsOk ls → us.length ≤ maxLen → (∀ v ∈ us, Typ.ok v) → Typ.ok (.mk k ls us)
theorem Typ.row_inj : ∀ {v w : Typ}, v.row = w.row → v = w := by
  intro v
  induction v using Typ.ind with
  | h k ls us ih =>
    intro w h
    obtain ⟨k', ls', us'⟩ := w
    rw [Typ.row_mk, Typ.row_mk] at h
    simp only [List.cons.injEq, PV.int.injEq, PV.str.injEq, true_and, and_true, PV.sl.injEq] at h
    obtain ⟨h1, h4, h5⟩ := h
    have h6 : ls = ls' := (List.map_inj_right (fun _ _ => strRow_inj)).1 h4
    have h7 : us = us' := by
      clear h4
      induction us generalizing us' with
      | nil => cases us' <;> simp at h5; rfl
      | cons x xs ihx =>
        cases us' with
        | nil => simp at h5
        | cons y ys =>
          simp only [List.map_cons, List.cons.injEq] at h5
          rw [ih x (by simp) h5.1, ihx (fun v hv => ih v (by simp [hv])) ys h5.2]
    rw [h1, h6, h7]
theorem typs_inj {x y : List Typ} (h : x.map Typ.row = y.map Typ.row) : x = y := (List.map_inj_right (fun _ _ => Typ.row_inj)).1 h
mutual
/-- What the measure takes for a type. -/
def Typ.wt : Typ → Nat
  | .mk k ls us => (ls.length + strSum ls) + (us.length + typWts us)
def typWts : List Typ → Nat
  | [] => 0
  | v :: vs => v.wt + typWts vs
end
theorem typWts_eq : ∀ vs, typWts vs = (vs.map Typ.wt).sum := by
  intro vs
  induction vs with
  | nil => rfl
  | cons v vs ih => simp only [typWts, ih, List.map_cons, List.sum_cons]
theorem Typ.wt_mk {k ls us} : (Typ.mk k ls us).wt = (ls.length + strSum ls) + (us.length + (us.map Typ.wt).sum) := by
  rw [Typ.wt, typWts_eq]
theorem Typ.wt_len {k ls us} : ls.length ≤ (Typ.mk k ls us).wt ∧ us.length ≤ (Typ.mk k ls us).wt ∧ ∀ v ∈ us, Typ.wt v ≤ (Typ.mk k ls us).wt := by
  rw [Typ.wt_mk]
  refine ⟨by omega, by omega, fun v hv => ?_⟩
  have := mem_sum (f := Typ.wt) hv
  omega

def tyTyp (P : Program) (tV tVS tSS ti ts : Nat) : Bool := isStruct P tV [ti, tSS, tVS] && isSl P tVS tV 3 && isSl P tSS ts 1 && isI P ti && isS P ts
theorem typ_of {P : Program} {tV tVS tSS ti ts : Nat} (h : tyTyp P tV tVS tSS ti ts = true) {t a} (ha : HasT P t a) : (t = tV → ∃ v : Typ, a = v.row ∧ v.ok) ∧ (t = tVS → ∃ vs : List Typ, a = [typs vs] ∧ vs.length ≤ maxLen ∧ ∀ v ∈ vs, v.ok) := by
  simp only [tyTyp, Bool.and_eq_true] at h
  obtain ⟨⟨⟨⟨h1, h2⟩, h3⟩, h4⟩, h5⟩ := h
  obtain ⟨h2, hc⟩ := isSl_ h2
  have hst : ∃ fs, P.underlying tV = some (.struct fs) ∧ fs.toList.map Field.type = [ti, tSS, tVS] := by
    unfold isStruct at h1
    split at h1
    · rename_i fs hu; exact ⟨fs, hu, by simpa using h1⟩
    · cases h1
  obtain ⟨fs0, hu0, hty⟩ := hst
  induction ha with
  | bool h' => exact ⟨fun e => by subst e; rw [hu0] at h'; simp at h', fun e => by subst e; rw [h2] at h'; simp at h'⟩
  | int h' => exact ⟨fun e => by subst e; rw [hu0] at h'; simp at h', fun e => by subst e; rw [h2] at h'; simp at h'⟩
  | str h' => exact ⟨fun e => by subst e; rw [hu0] at h'; simp at h', fun e => by subst e; rw [h2] at h'; simp at h'⟩
  | @sl t e xs h' hl hr ih =>
    refine ⟨fun e => by subst e; rw [hu0] at h'; simp at h', fun et => ?_⟩
    subst et
    rw [h2] at h'
    simp only [Option.some.injEq, TypeDesc.slice.injEq] at h'
    subst h'
    obtain ⟨l, rfl, hok⟩ := rows_of (f := Typ.row) (ok := Typ.ok) (xs := xs) fun r hr' => by
      obtain ⟨i, hi, he⟩ := List.getElem_of_mem hr'
      exact (ih i r (by rw [List.getElem?_eq_getElem hi, he])).1 rfl
    exact ⟨l, by rw [hc], by simpa using hl, hok⟩
  | @struct t fs pss h' hl hr ih =>
    refine ⟨fun et => ?_, fun e => by subst e; rw [h2] at h'; simp at h'⟩
    subst et
    rw [hu0] at h'
    simp only [Option.some.injEq, TypeDesc.struct.injEq] at h'
    subst h'
    have hfl : fs0.size = 3 := by have := congrArg List.length hty; simpa using this
    have hf : ∀ (i : Nat) t, [ti, tSS, tVS][i]? = some t → ∃ f, fs0[i]? = some f ∧ f.type = t := by
      intro i t hi
      rw [← hty, List.getElem?_map, Option.map_eq_some_iff] at hi
      obtain ⟨f, hf, rfl⟩ := hi
      exact ⟨f, by simpa using hf, rfl⟩
    match pss, hl with
    | [p0, p3, p4], _ =>
      obtain ⟨f0, q0, e0⟩ := hf 0 ti rfl
      obtain ⟨f3, q3, e3⟩ := hf 1 tSS rfl
      obtain ⟨f4, q4, e4⟩ := hf 2 tVS rfl
      obtain ⟨k, rfl, hk⟩ := inv_i64 (isI_ h4) (e0 ▸ hr 0 f0 p0 q0 rfl)
      obtain ⟨ls, rfl, hls⟩ := strs_of h3 h5 (e3 ▸ hr 1 f3 p3 q3 rfl)
      obtain ⟨us, rfl, has, has'⟩ := (ih 2 f4 p4 q4 rfl).2 e4
      exact ⟨.mk k ls us, by rw [Typ.row_mk]; rfl, .mk hk hls has has'⟩
    | [], h => simp [hfl] at h
    | [_], h => simp [hfl] at h
    | [_, _], h => simp [hfl] at h
    | _ :: _ :: _ :: _ :: _, h => simp [hfl] at h
theorem of_Type {P : Program} {tType tTypeS tint tstring tstringS : Nat} (tyOk : tyTyp P tType tTypeS tstringS tint tstring = true) {a} (ha : HasT P tType a) : ∃ v : Typ, a = v.row ∧ v.ok := (typ_of tyOk ha).1 rfl

/-! ### Logs -/
structure Lg where
  t : Typ
  v : Val
  p : List Edt
  f : List Edt
def Lg.row (g : Lg) : List PV := g.t.row ++ (g.v.row ++ [edts g.p, edts g.f])
def Lg.ok (g : Lg) : Prop := g.t.ok ∧ g.v.ok ∧ edtsOk g.p ∧ edtsOk g.f
theorem Lg.row_mk {tk tl tu vk vn vs vl vu p f} : Lg.row ⟨.mk tk tl tu, .mk vk vn vs vl vu, p, f⟩ = [I tk, strs tl, typs tu, I vk, I vn, .str vs, strs vl, vals vu, edts p, edts f] := by
  simp only [Lg.row, Typ.row_mk, Val.row_mk]; rfl
def tyLg (P : Program) (tL tT tTS tE tES tV tVS tSS tPS tP ti ts : Nat) : Bool :=
  isStruct P tL [tT, tV, tES, tES] && tyTyp P tT tTS tSS ti ts && tyEdt P tE tES tV tVS tSS tPS tP ti ts
theorem of_Log {P : Program} {tLog tType tTypeS tEdit tEditS tValue tValueS tStep tStepS tint tstring tstringS : Nat} (tyOk : tyLg P tLog tType tTypeS tEdit tEditS tValue tValueS tstringS tStepS tStep tint tstring = true) {a} (ha : HasT P tLog a) : ∃ g : Lg, a = g.row ∧ g.ok := by
  simp only [tyLg, Bool.and_eq_true] at tyOk
  obtain ⟨⟨h1, h2⟩, h3⟩ := tyOk
  have h3' := h3
  simp only [tyEdt, Bool.and_eq_true] at h3'
  obtain ⟨pss, rfl, hp⟩ := inv_struct h1 ha
  match pss, hp with
  | [p0, p1, p2, p3], ⟨q0, q1, q2, q3, _⟩ =>
    obtain ⟨t, rfl, ht⟩ := of_Type h2 q0
    obtain ⟨v, rfl, hv⟩ := of_Value h3'.1.1.2 q1
    obtain ⟨p, rfl, hp⟩ := of_EditS h3 q2
    obtain ⟨f, rfl, hf⟩ := of_EditS h3 q3
    exact ⟨⟨t, v, p, f⟩, by simp [Lg.row], ht, hv, hp, hf⟩
end Go.Proofs.Ytkiliooegoldoaa
