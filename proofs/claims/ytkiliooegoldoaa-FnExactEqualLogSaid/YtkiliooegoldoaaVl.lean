/- Readings of inputs as plain data: lists of strings, values, edits. -/
import Derived.Test.YtkiliooegoldoaaTy
import Derived.Test.YtkiliooegoldoaaGl
set_option linter.unusedVariables false
set_option linter.unusedSimpArgs false
namespace Go.Proofs.Ytkiliooegoldoaa
open Go

section
variable {P : Program}
def isSl (P : Program) (t e n : Nat) : Bool := match P.underlying t with
  | some (.slice e') => e' == e && P.cellsOf e == n
  | _ => false
def isI (P : Program) (t : TypeId) : Bool := match P.underlying t with
  | some (.int .i64) => true
  | _ => false
def isS (P : Program) (t : TypeId) : Bool := match P.underlying t with
  | some .string => true
  | _ => false
theorem isSl_ {t e n} (h : isSl P t e n = true) : P.underlying t = some (.slice e) ∧ P.cellsOf e = n := by
  unfold isSl at h
  split at h
  · rename_i e' hu
    simp only [Bool.and_eq_true, beq_iff_eq] at h
    exact ⟨by rw [hu, h.1], h.2⟩
  · cases h
theorem isI_ {t} (h : isI P t = true) : P.underlying t = some (.int .i64) := by
  unfold isI at h
  split at h
  · assumption
  · cases h
theorem isS_ {t} (h : isS P t = true) : P.underlying t = some .string := by
  unfold isS at h
  split at h
  · assumption
  · cases h
end

/-! ### Lists of strings -/
abbrev strRow (s : ByteArray) : List PV := [.str s]
abbrev strs (ls : List ByteArray) : PV := .sl 1 (ls.map strRow)
def strsOk (ls : List ByteArray) : Prop := ls.length ≤ maxLen ∧ ∀ s ∈ ls, s.size ≤ maxLen
def strSum (ls : List ByteArray) : Nat := (ls.map ByteArray.size).sum
theorem strSum_snoc {ls : List ByteArray} {i : Nat} {s : ByteArray} (h : ls[i]? = some s) : strSum (ls.take (i + 1)) = strSum (ls.take i) + s.size := by
  rw [List.take_add_one, h]; simp [strSum]
theorem strRow_inj {x y : ByteArray} (h : strRow x = strRow y) : x = y := by simpa [strRow] using h
theorem strs_inj {x y : List ByteArray} (h : strs x = strs y) : x = y := by
  simp only [strs, PV.sl.injEq, true_and] at h
  exact (List.map_inj_right (fun _ _ => strRow_inj)).1 h
theorem strs_of {P : Program} {tSS ts a} (h1 : isSl P tSS ts 1 = true) (h2 : isS P ts = true) (ha : HasT P tSS a) : ∃ l, a = [strs l] ∧ strsOk l := by
  obtain ⟨h1, hc⟩ := isSl_ h1
  obtain ⟨xs, rfl, hl, hr⟩ := inv_sl h1 ha
  obtain ⟨l, rfl, hok⟩ := rows_of (f := strRow) (ok := fun s => s.size ≤ maxLen) (xs := xs) fun r hr' => inv_str (isS_ h2) (hr r hr')
  exact ⟨l, by rw [hc], by simpa using hl, hok⟩

/-! ### Values -/
inductive Val where
  | mk (k n : Int) (s : ByteArray) (ls : List ByteArray) (as : List Val)
theorem Val.ind {M : Val → Prop} (h : ∀ k n s ls as, (∀ v ∈ as, M v) → M (.mk k n s ls as)) (v : Val) : M v :=
  Val.rec (motive_1 := M) (motive_2 := fun as => ∀ v ∈ as, M v) (fun k n s ls as ih => h k n s ls as ih) (by simp) (fun v vs h1 h2 => by
    intro w hw
    rcases List.mem_cons.1 hw with rfl | hw
    · exact h1
    · exact h2 w hw) v
mutual
def Val.row : Val → List PV
  | .mk k n s ls as => [I k, I n, .str s, strs ls, .sl 5 (valRows as)]
def valRows : List Val → List (List PV)
  | [] => []
  | v :: vs => v.row :: valRows vs
end
theorem valRows_eq : ∀ vs, valRows vs = vs.map Val.row := by
  intro vs
  induction vs with
  | nil => rfl
  | cons v vs ih => simp only [valRows, ih, List.map_cons]
abbrev vals (vs : List Val) : PV := .sl 5 (vs.map Val.row)
theorem Val.row_mk {k n s ls as} : (Val.mk k n s ls as).row = [I k, I n, .str s, strs ls, vals as] := by
  rw [Val.row, valRows_eq]
theorem Val.row_flat (v : Val) : v.row.map PV.flat = [true, true, true, false, false] := by
  cases v; rfl
inductive Val.ok : Val → Prop
  | mk {k n s ls as} : inR k → inR n → s.size ≤ maxLen → strsOk ls → as.length ≤ maxLen → (∀ v ∈ as, Val.ok v) → Val.ok (.mk k n s ls as)
theorem Val.row_inj : ∀ {v w : Val}, v.row = w.row → v = w := by
  intro v
  induction v using Val.ind with
  | h k n s ls as ih =>
    intro w h
    obtain ⟨k', n', s', ls', as'⟩ := w
    rw [Val.row_mk, Val.row_mk] at h
    simp only [List.cons.injEq, PV.int.injEq, PV.str.injEq, true_and, and_true, PV.sl.injEq] at h
    obtain ⟨h1, h2, h3, h4, h5⟩ := h
    have h6 : ls = ls' := (List.map_inj_right (fun _ _ => strRow_inj)).1 h4
    have h7 : as = as' := by
      clear h4
      induction as generalizing as' with
      | nil => cases as' <;> simp at h5; rfl
      | cons x xs ihx =>
        cases as' with
        | nil => simp at h5
        | cons y ys =>
          simp only [List.map_cons, List.cons.injEq] at h5
          rw [ih x (by simp) h5.1, ihx (fun v hv => ih v (by simp [hv])) ys h5.2]
    rw [h1, h2, h3, h6, h7]
theorem vals_inj {x y : List Val} (h : x.map Val.row = y.map Val.row) : x = y := (List.map_inj_right (fun _ _ => Val.row_inj)).1 h
mutual
/-- What the measure takes for a value. -/
def Val.wt : Val → Nat
  | .mk k n s ls as => s.size + (ls.length + strSum ls) + (as.length + valWts as)
def valWts : List Val → Nat
  | [] => 0
  | v :: vs => v.wt + valWts vs
end
theorem valWts_eq : ∀ vs, valWts vs = (vs.map Val.wt).sum := by
  intro vs
  induction vs with
  | nil => rfl
  | cons v vs ih => simp only [valWts, ih, List.map_cons, List.sum_cons]
theorem Val.wt_mk {k n s ls as} : (Val.mk k n s ls as).wt = s.size + (ls.length + strSum ls) + (as.length + (as.map Val.wt).sum) := by
  rw [Val.wt, valWts_eq]
theorem mem_sum {α : Type} {f : α → Nat} {x : α} : ∀ {l : List α}, x ∈ l → f x ≤ (l.map f).sum := by
  intro l
  induction l with
  | nil => intro h; simp at h
  | cons y l ih =>
    intro h
    simp only [List.map_cons, List.sum_cons]
    rcases List.mem_cons.1 h with rfl | h
    · omega
    · have := ih h; omega

def tyVal (P : Program) (tV tVS tSS ti ts : Nat) : Bool := isStruct P tV [ti, ti, ts, tSS, tVS] && isSl P tVS tV 5 && isSl P tSS ts 1 && isI P ti && isS P ts
theorem val_of {P : Program} {tV tVS tSS ti ts : Nat} (h : tyVal P tV tVS tSS ti ts = true) {t a} (ha : HasT P t a) : (t = tV → ∃ v : Val, a = v.row ∧ v.ok) ∧ (t = tVS → ∃ vs : List Val, a = [vals vs] ∧ vs.length ≤ maxLen ∧ ∀ v ∈ vs, v.ok) := by
  simp only [tyVal, Bool.and_eq_true] at h
  obtain ⟨⟨⟨⟨h1, h2⟩, h3⟩, h4⟩, h5⟩ := h
  obtain ⟨h2, hc⟩ := isSl_ h2
  have hst : ∃ fs, P.underlying tV = some (.struct fs) ∧ fs.toList.map Field.type = [ti, ti, ts, tSS, tVS] := by
    unfold isStruct at h1
    split at h1
    · rename_i fs hu; exact ⟨fs, hu, by simpa using h1⟩
    · cases h1
  obtain ⟨fs0, hu0, hty⟩ := hst
  induction ha with
  | bool h' => exact ⟨fun e => by subst e; rw [hu0] at h'; simp at h', fun e => by subst e; rw [h2] at h'; simp at h'⟩
  | int h' => exact ⟨fun e => by subst e; rw [hu0] at h'; simp at h', fun e => by subst e; rw [h2] at h'; simp at h'⟩
  | str h' => exact ⟨fun e => by subst e; rw [hu0] at h'; simp at h', fun e => by subst e; rw [h2] at h'; simp at h'⟩
  | @sl t e xs h' hl hr ih =>
    refine ⟨fun e => by subst e; rw [hu0] at h'; simp at h', fun et => ?_⟩
    subst et
    rw [h2] at h'
    simp only [Option.some.injEq, TypeDesc.slice.injEq] at h'
    subst h'
    obtain ⟨l, rfl, hok⟩ := rows_of (f := Val.row) (ok := Val.ok) (xs := xs) fun r hr' => by
      obtain ⟨i, hi, he⟩ := List.getElem_of_mem hr'
      exact (ih i r (by rw [List.getElem?_eq_getElem hi, he])).1 rfl
    exact ⟨l, by rw [hc], by simpa using hl, hok⟩
  | @struct t fs pss h' hl hr ih =>
    refine ⟨fun et => ?_, fun e => by subst e; rw [h2] at h'; simp at h'⟩
    subst et
    rw [hu0] at h'
    simp only [Option.some.injEq, TypeDesc.struct.injEq] at h'
    subst h'
    have hfl : fs0.size = 5 := by have := congrArg List.length hty; simpa using this
    have hf : ∀ (i : Nat) t, [ti, ti, ts, tSS, tVS][i]? = some t → ∃ f, fs0[i]? = some f ∧ f.type = t := by
      intro i t hi
      rw [← hty, List.getElem?_map, Option.map_eq_some_iff] at hi
      obtain ⟨f, hf, rfl⟩ := hi
      exact ⟨f, by simpa using hf, rfl⟩
    match pss, hl with
    | [p0, p1, p2, p3, p4], _ =>
      obtain ⟨f0, q0, e0⟩ := hf 0 ti rfl
      obtain ⟨f1, q1, e1⟩ := hf 1 ti rfl
      obtain ⟨f2, q2, e2⟩ := hf 2 ts rfl
      obtain ⟨f3, q3, e3⟩ := hf 3 tSS rfl
      obtain ⟨f4, q4, e4⟩ := hf 4 tVS rfl
      obtain ⟨k, rfl, hk⟩ := inv_i64 (isI_ h4) (e0 ▸ hr 0 f0 p0 q0 rfl)
      obtain ⟨n, rfl, hn⟩ := inv_i64 (isI_ h4) (e1 ▸ hr 1 f1 p1 q1 rfl)
      obtain ⟨s, rfl, hs⟩ := inv_str (isS_ h5) (e2 ▸ hr 2 f2 p2 q2 rfl)
      obtain ⟨ls, rfl, hls⟩ := strs_of h3 h5 (e3 ▸ hr 3 f3 p3 q3 rfl)
      obtain ⟨as, rfl, has, has'⟩ := (ih 4 f4 p4 q4 rfl).2 e4
      exact ⟨.mk k n s ls as, by rw [Val.row_mk]; rfl, .mk hk hn hs hls has has'⟩
    | [], h => simp [hfl] at h
    | [_], h => simp [hfl] at h
    | [_, _], h => simp [hfl] at h
    | [_, _, _], h => simp [hfl] at h
    | [_, _, _, _], h => simp [hfl] at h
    | _ :: _ :: _ :: _ :: _ :: _ :: _, h => simp [hfl] at h
theorem of_Value {P : Program} {tValue tValueS tint tstring tstringS : Nat} (tyOk : tyVal P tValue tValueS tstringS tint tstring = true) {a} (ha : HasT P tValue a) : ∃ v : Val, a = v.row ∧ v.ok := (val_of tyOk ha).1 rfl

/-! ### Edits -/
structure Edt where
  k : Int
  p : List Stp
  v : Val
  n : Int
def Edt.row (e : Edt) : List PV := I e.k :: stps e.p :: (e.v.row ++ [I e.n])
abbrev edts (l : List Edt) : PV := .sl 8 (l.map Edt.row)
def Edt.ok (e : Edt) : Prop := inR e.k ∧ stpsOk e.p ∧ e.v.ok ∧ inR e.n
def edtsOk (l : List Edt) : Prop := l.length ≤ maxLen ∧ ∀ e ∈ l, e.ok
def Edt.wt (e : Edt) : Nat := e.p.length + e.v.wt
theorem Edt.row_mk {k p vk vn vs vl va n} : Edt.row ⟨k, p, .mk vk vn vs vl va, n⟩ = [I k, stps p, I vk, I vn, .str vs, strs vl, vals va, I n] := by
  simp only [Edt.row, Val.row_mk]; rfl
theorem Edt.row_flat (e : Edt) : e.row.map PV.flat = [true, false, true, true, true, false, false, true] := by
  obtain ⟨k, p, v, n⟩ := e
  cases v; rfl
theorem Edt.row_inj {e e' : Edt} (h : e.row = e'.row) : e = e' := by
  obtain ⟨k, p, v, n⟩ := e
  obtain ⟨k', p', v', n'⟩ := e'
  simp only [Edt.row, List.cons.injEq] at h
  obtain ⟨h1, h2, h3⟩ := h
  have hl : v.row.length = v'.row.length := by
    have a := congrArg List.length (Val.row_flat v)
    have b := congrArg List.length (Val.row_flat v')
    simp at a b; omega
  obtain ⟨h4, h5⟩ := List.append_inj h3 hl
  simp at h1 h5
  have h2' : p = p' := (List.map_inj_right (fun _ _ => Stp.row_inj)).1 (by simpa using h2)
  rw [h1, h2', Val.row_inj h4, h5]
def tyEdt (P : Program) (tE tES tV tVS tSS tPS tP ti ts : Nat) : Bool :=
  isSl P tES tE 8 && isStruct P tE [ti, tPS, tV, ti] && tyVal P tV tVS tSS ti ts && isSl P tPS tP 3 && isStruct P tP [ti, ts, ti]
theorem stps_of' {P : Program} {tPS tP ti ts : Nat} (h1 : isSl P tPS tP 3 = true) (h2 : isStruct P tP [ti, ts, ti] = true) (h3 : isI P ti = true) (h4 : isS P ts = true) {a} (ha : HasT P tPS a) : ∃ l, a = [stps l] ∧ stpsOk l :=
  stps_of (isSl_ h1).1 (isSl_ h1).2 h2 (isI_ h3) (isS_ h4) ha
theorem tyVal_i {P : Program} {tV tVS tSS ti ts : Nat} (h : tyVal P tV tVS tSS ti ts = true) : isI P ti = true ∧ isS P ts = true := by
  simp only [tyVal, Bool.and_eq_true] at h; exact ⟨h.1.2, h.2⟩
theorem edt_of {P : Program} {tE tES tV tVS tSS tPS tP ti ts : Nat} (h : tyEdt P tE tES tV tVS tSS tPS tP ti ts = true) {a} (ha : HasT P tE a) : ∃ e : Edt, a = e.row ∧ e.ok := by
  simp only [tyEdt, Bool.and_eq_true] at h
  obtain ⟨⟨⟨⟨h1, h2⟩, h3⟩, h4⟩, h5⟩ := h
  obtain ⟨hi, hs⟩ := tyVal_i h3
  obtain ⟨pss, rfl, hp⟩ := inv_struct h2 ha
  match pss, hp with
  | [p0, p1, p2, p3], ⟨q0, q1, q2, q3, _⟩ =>
    obtain ⟨k, rfl, hk⟩ := inv_i64 (isI_ hi) q0
    obtain ⟨p, rfl, hp⟩ := stps_of' h4 h5 hi hs q1
    obtain ⟨v, rfl, hv⟩ := (val_of h3 q2).1 rfl
    obtain ⟨n, rfl, hn⟩ := inv_i64 (isI_ hi) q3
    exact ⟨⟨k, p, v, n⟩, by simp [Edt.row], hk, hp, hv, hn⟩
theorem of_EditS {P : Program} {tEdit tEditS tValue tValueS tStep tStepS tint tstring tstringS : Nat} (tyOk : tyEdt P tEdit tEditS tValue tValueS tstringS tStepS tStep tint tstring = true) {a} (ha : HasT P tEditS a) : ∃ l, a = [edts l] ∧ edtsOk l := by
  have h := tyOk
  simp only [tyEdt, Bool.and_eq_true] at h
  obtain ⟨h1, hc⟩ := isSl_ h.1.1.1.1
  obtain ⟨xs, rfl, hl, hr⟩ := inv_sl h1 ha
  obtain ⟨l, rfl, hok⟩ := rows_of (f := Edt.row) (ok := Edt.ok) (xs := xs) fun r hr' => edt_of tyOk (hr r hr')
  exact ⟨l, by rw [hc], by simpa using hl, hok⟩
theorem of_Edit {P : Program} {tEdit tEditS tValue tValueS tStep tStepS tint tstring tstringS : Nat} (tyOk : tyEdt P tEdit tEditS tValue tValueS tstringS tStepS tStep tint tstring = true) {a} (ha : HasT P tEdit a) : ∃ e : Edt, a = e.row ∧ e.ok := edt_of tyOk ha
end Go.Proofs.Ytkiliooegoldoaa
