/- Views and places; the relation between an abstract state and a frame. -/
import Derived.Test.YtkiliooegoldoaaRel
set_option linter.unusedVariables false
set_option linter.unusedSimpArgs false
namespace Go.Proofs.Ytkiliooegoldoaa
open Go

theorem flatten_get {α : Type} {sz : Nat} : ∀ {xs : List (List α)}, (∀ r ∈ xs, r.length = sz) → ∀ {i j : Nat} {r : List α} {q : α}, xs[i]? = some r → r[j]? = some q → xs.flatten[i * sz + j]? = some q := by
  intro xs
  induction xs with
  | nil => intro _ i j r q h; simp at h
  | cons x xs ih =>
    intro h i j r q hi hj
    have hx : x.length = sz := h x (by simp)
    cases i with
    | zero =>
      simp only [List.getElem?_cons_zero, Option.some.injEq] at hi
      subst hi
      have := (List.getElem?_eq_some_iff.1 hj).1
      rw [List.flatten_cons, List.getElem?_append_left (by omega)]
      simpa using hj
    | succ i =>
      have hl : (x :: xs).flatten[(i + 1) * sz + j]? = xs.flatten[i * sz + j]? := by
        rw [List.flatten_cons, List.getElem?_append_right (by rw [hx, Nat.succ_mul]; omega)]
        congr 1
        rw [hx, Nat.succ_mul]
        omega
      rw [hl]
      exact ih (fun r hr => h r (by simp [hr])) (by simpa using hi) hj

/-! ### Real values along a path -/
def rvPath (w : World) (φ : Nat → Nat) : Value → Path → Option Value
  | v, [] => some v
  | .slice (some a) _ _, (s, i, j) :: t =>
    if a.spot = none ∧ a.off + (i * s + j) < φ a.block then (w.cell? ⟨a.block, a.off + (i * s + j), none⟩).bind fun v => rvPath w φ v t else none
  | _, _ :: _ => none

def rootV (S : St) (vs : List Value) (w : World) (r c : Nat) : Option Value :=
  match S.g r, vs[r]? with
  | .one _, some v => if c = 0 then some v else none
  | .agg _, some (.agg arr) => arr[c]?
  | .box _, some (.pointer (some a)) => w.cell? ⟨a.block, c, none⟩
  | _, _ => none

def inner (l : Lev) : Prop := l = .deep ∨ l = .bor ∨ l = .borR

def ViewC (S : St) (vs : List Value) (w : World) (φ : Nat → Nat) : Cell → Value → Prop
  | .view r c path, v => rootish (S.g r) = true ∧ ∀ l p, rootCell S r c = .val l p →
      p.flat = false ∧ (path ≠ [] → inner l) ∧ (∃ q, pget p path = some q) ∧ ∃ v0, rootV S vs w r c = some v0 ∧ rvPath w φ v0 path = some v
  | _, _ => True

def PlaceR (S : St) (vs : List Value) (w : World) (φ : Nat → Nat) (r c : Nat) (path : Path) (v : Value) : Prop :=
  (path = [] ∧ ∃ cs g, S.g r = .box cs ∧ vs[r]? = some (.pointer (some ⟨g, 0, none⟩)) ∧ v = .pointer (some ⟨g, c, none⟩)) ∨
  ∃ pre s i j, path = pre ++ [(s, i, j)] ∧ rootish (S.g r) = true ∧ ∀ l p, rootCell S r c = .val l p →
    p.flat = false ∧ (pre ≠ [] → inner l) ∧ (∃ xs row, pget p pre = some (.sl s xs) ∧ xs[i]? = some row) ∧
    ∃ v0 g o n cap, rootV S vs w r c = some v0 ∧ rvPath w φ v0 pre = some (.slice (some ⟨g, o, none⟩) n cap) ∧ v = .pointer (some ⟨g, o + (i * s + j), none⟩)

def noView : Cell → Prop
  | .view .. => False
  | _ => True

def ViewTV (S : St) (vs : List Value) (w : World) (φ : Nat → Nat) : TV → Value → Prop
  | .one c, v => ViewC S vs w φ c v
  | .agg cs, v => ∀ arr, v = .agg arr → ∀ (i : Nat) c u, cs[i]? = some c → arr[i]? = some u → ViewC S vs w φ c u
  | .box cs, v => ∀ a arr e fr, v = .pointer (some a) → w.heap[a.block]? = some (.cells arr e fr) → ∀ (i : Nat) c u, cs[i]? = some c → arr[i]? = some u → ViewC S vs w φ c u
  | .place r c path, v => PlaceR S vs w φ r c path v
  | .tup ts, _ => ∀ x ∈ ts, ∀ c ∈ x.2, noView c
  | _, _ => True

def ViewsOK (S : St) (vs : List Value) (w : World) (φ : Nat → Nat) : Prop := ∀ (t : Nat) v, vs[t]? = some v → ViewTV S vs w φ (S.g t) v

/-- bs: the blocks that the slots own; hand: those that are owned by what is in hand. -/
structure SR (E : Env) (S : St) (vs : List Value) (w : World) (φ : Nat → Nat) (bs hand : List Nat) : Prop where
  tvs : TVsR E w φ S vs bs
  cnt : ∀ g, bs.count g + hand.count g ≤ 1
  own : ∀ g, g ∈ bs ∨ g ∈ hand → g < w.heap.size ∧ (E.w0.heap.size ≤ g ∨ g ∈ E.lin)
  views : ViewsOK S vs w φ
  size : E.w0.heap.size ≤ w.heap.size
  same : ∀ g, g < E.w0.heap.size → g ∉ E.lin → w.heap[g]? = E.w0.heap[g]? ∧ φ g = E.φ0 g
  os : w.os = E.w0.os ∧ w.tape = E.w0.tape ∧ outw w = outw E.w0

/-! ### One slot of many -/
theorem TVsR.length {E w φ} : ∀ {S : St} {vs bs}, TVsR E w φ S vs bs → S.length = vs.length := by
  intro S
  induction S with
  | nil => intro vs bs h; obtain ⟨rfl, _⟩ := h; rfl
  | cons c cs ih => intro vs bs h; obtain ⟨v, vs', b1, b2, rfl, rfl, _, h⟩ := h; simp [ih h]

theorem TVsR.get {E w φ} : ∀ {S : St} {vs bs}, TVsR E w φ S vs bs → ∀ {t : Nat} {v}, vs[t]? = some v →
    ∃ (bt br : List Nat), TVR E w φ (S.g t) v bt ∧ (∀ g, bs.count g = bt.count g + br.count g) ∧
      ∀ tv' v' bt', TVR E w φ tv' v' bt' → ∃ bs', TVsR E w φ (S.set t tv') (vs.set t v') bs' ∧ ∀ g, bs'.count g = bt'.count g + br.count g := by
  intro S
  induction S with
  | nil => intro vs bs h t v hv; obtain ⟨rfl, _⟩ := h; simp at hv
  | cons c cs ih =>
    intro vs bs h t v hv
    obtain ⟨u, us, b1, b2, rfl, rfl, hc, h⟩ := h
    cases t with
    | zero =>
      simp at hv
      subst hv
      refine ⟨b1, b2, by simpa [St.g] using hc, fun g => by simp, fun tv' v' bt' h' => ⟨bt' ++ b2, ⟨v', us, bt', b2, rfl, rfl, h', h⟩, fun g => by simp⟩⟩
    | succ t =>
      obtain ⟨bt, br, h1, h2, h3⟩ := ih h (by simpa using hv)
      refine ⟨bt, b1 ++ br, by simpa [St.g] using h1, fun g => by simp [h2 g]; omega, fun tv' v' bt' h' => ?_⟩
      obtain ⟨bs', k1, k2⟩ := h3 tv' v' bt' h'
      exact ⟨b1 ++ bs', ⟨u, us.set t v', b1, bs', rfl, rfl, hc, k1⟩, fun g => by simp [k2 g]; omega⟩

theorem CellsR.get {E w φ} : ∀ {S : List Cell} {vs bs}, CellsR E w φ S vs bs → ∀ {t : Nat} {c}, S[t]? = some c →
    ∃ (v : Value) (bt br : List Nat), vs[t]? = some v ∧ CellR E w φ c v bt ∧ (∀ g, bs.count g = bt.count g + br.count g) ∧
      ∀ tv' v' bt', CellR E w φ tv' v' bt' → ∃ bs', CellsR E w φ (S.set t tv') (vs.set t v') bs' ∧ ∀ g, bs'.count g = bt'.count g + br.count g := by
  intro S
  induction S with
  | nil => intro vs bs h t v hv; simp at hv
  | cons c cs ih =>
    intro vs bs h t v hv
    obtain ⟨u, us, b1, b2, rfl, rfl, hc, h⟩ := h
    cases t with
    | zero =>
      simp at hv
      subst hv
      refine ⟨u, b1, b2, rfl, hc, fun g => by simp, fun tv' v' bt' h' => ⟨bt' ++ b2, ⟨v', us, bt', b2, rfl, rfl, h', h⟩, fun g => by simp⟩⟩
    | succ t =>
      obtain ⟨v', bt, br, h0, h1, h2, h3⟩ := ih h (by simpa using hv)
      refine ⟨v', bt, b1 ++ br, by simpa using h0, h1, fun g => by simp [h2 g]; omega, fun tv' v' bt' h' => ?_⟩
      obtain ⟨bs', k1, k2⟩ := h3 tv' v' bt' h'
      exact ⟨b1 ++ bs', ⟨u, us.set t v', b1, bs', rfl, rfl, hc, k1⟩, fun g => by simp [k2 g]; omega⟩

theorem CellsR.length {E w φ} : ∀ {S : List Cell} {vs bs}, CellsR E w φ S vs bs → S.length = vs.length := by
  intro S
  induction S with
  | nil => intro vs bs h; obtain ⟨rfl, _⟩ := h; rfl
  | cons c cs ih => intro vs bs h; obtain ⟨v, vs', b1, b2, rfl, rfl, _, h⟩ := h; simp [ih h]

/-! ### Reading -/
theorem CellR.reads {E w φ l p v bs} (hO : ∀ g k u, E.okO g k → w.cell? ⟨g, k, none⟩ = some u → okB φ g k) (h : CellR E w φ (.val l p) v bs) : RdL w (okB φ) [p] [v] := by
  cases l with
  | old => exact h.1.mono fun g k u h1 h2 => ⟨hO g k u h1 h2, h2⟩
  | bor => exact h.1
  | deep => exact OwL.reads h
  | oldR => exact OwR.reads h hO
  | borR => exact OwR.reads h (fun g k v h _ => h)

theorem RdL.flat_ {w ok p v} (h : RdL w ok [p] [v]) (hf : p.flat = true) (w' : World) (ok' : Nat → Nat → Prop) (φ' : Nat → Nat) : RdL w' ok' [p] [v] ∧ OwL w' φ' [p] [v] [] := by
  cases h with
  | int _ => exact ⟨.int .nil, .int .nil⟩
  | bool _ => exact ⟨.bool .nil, .bool .nil⟩
  | str _ => exact ⟨.str .nil, .str .nil⟩
  | sl _ _ _ _ _ _ => simp [PV.flat] at hf

theorem OwR.not_flat {w φ ok p v bs} (h : OwR w φ ok p v bs) : p.flat = false := by
  obtain ⟨sz, xs, rfl, _⟩ := h
  rfl

/-- What is read along a path. -/
theorem RdL.pget {w φ ok} : ∀ {path : Path} {p q : PV} {v u : Value}, RdL w ok [p] [v] → pget p path = some q → rvPath w φ v path = some u → RdL w ok [q] [u] := by
  intro path
  induction path with
  | nil => intro p q v u h h1 h2; simp only [Ytkiliooegoldoaa.pget, rvPath, Option.some.injEq] at h1 h2; subst h1; subst h2; exact h
  | cons x t ih =>
    obtain ⟨s, i, j⟩ := x
    intro p q v u h h1 h2
    cases h with
    | int _ => simp [Ytkiliooegoldoaa.pget] at h1
    | bool _ => simp [Ytkiliooegoldoaa.pget] at h1
    | str _ => simp [Ytkiliooegoldoaa.pget] at h1
    | @sl sz xs A n c cvs _ _ a b hr d e _ =>
      simp only [Ytkiliooegoldoaa.pget] at h1
      split at h1 <;> rename_i hs
      · subst hs
        split at h1 <;> rename_i hi
        · split at h1 <;> rename_i hj
          · rename_i r _ q' hrow
            obtain ⟨u', hu', hread⟩ := e.get (flatten_get hr hi hj)
            obtain ⟨g, o, rfl, hok, hc⟩ := d _ _ hu'
            simp only [rvPath] at h2
            split at h2
            · rw [show (⟨(⟨g, o, none⟩ : Addr).block, (⟨g, o, none⟩ : Addr).off + (i * s + j), none⟩ : Addr) = ⟨g, o + (i * s + j), none⟩ from rfl, hc] at h2
              exact ih hread h1 h2
            · simp at h2
          · simp at h1
        · simp at h1
      · simp at h1

/-! ### Movers -/
theorem CellR.mono {E w w' φ φ' c v bs} (hO : ∀ g k u, E.okO g k → w.cell? ⟨g, k, none⟩ = some u → w'.cell? ⟨g, k, none⟩ = some u)
    (hB : ∀ g k u, okB φ g k → w.cell? ⟨g, k, none⟩ = some u → okB φ' g k ∧ w'.cell? ⟨g, k, none⟩ = some u)
    (hown : ∀ g ∈ bs, w'.heap[g]? = w.heap[g]? ∧ φ' g = φ g) (h : CellR E w φ c v bs) : CellR E w' φ' c v bs := by
  cases c with
  | view r c path => exact h
  | dead => exact h
  | val l p =>
    cases l with
    | old => exact ⟨h.1.mono fun g k u h1 h2 => ⟨h1, hO g k u h1 h2⟩, h.2⟩
    | bor => exact ⟨h.1.mono hB, h.2⟩
    | deep => exact OwL.mono h hown
    | oldR =>
      obtain ⟨sz, xs, rfl, h | ⟨g, n, c, cur, e, rfl, rfl, a, b, hr, d, es, f, hrd⟩⟩ := h
      · exact ⟨sz, xs, rfl, .inl h⟩
      · have hg := hown g (by simp)
        exact ⟨sz, xs, rfl, .inr ⟨g, n, c, cur, e, rfl, rfl, a, b, hr, hg.1.trans d, es, hg.2.trans f, hrd.mono fun g k u h1 h2 => ⟨h1, hO g k u h1 h2⟩⟩⟩
    | borR =>
      obtain ⟨sz, xs, rfl, h | ⟨g, n, c, cur, e, rfl, rfl, a, b, hr, d, es, f, hrd⟩⟩ := h
      · exact ⟨sz, xs, rfl, .inl h⟩
      · have hg := hown g (by simp)
        exact ⟨sz, xs, rfl, .inr ⟨g, n, c, cur, e, rfl, rfl, a, b, hr, hg.1.trans d, es, hg.2.trans f, hrd.mono hB⟩⟩

theorem CellsR.mono {E w w' φ φ'} (hO : ∀ g k u, E.okO g k → w.cell? ⟨g, k, none⟩ = some u → w'.cell? ⟨g, k, none⟩ = some u)
    (hB : ∀ g k u, okB φ g k → w.cell? ⟨g, k, none⟩ = some u → okB φ' g k ∧ w'.cell? ⟨g, k, none⟩ = some u) :
    ∀ {cs vs bs}, (∀ g ∈ bs, w'.heap[g]? = w.heap[g]? ∧ φ' g = φ g) → CellsR E w φ cs vs bs → CellsR E w' φ' cs vs bs := by
  intro cs
  induction cs with
  | nil => intro vs bs _ h; exact h
  | cons c cs ih =>
    intro vs bs hown h
    obtain ⟨u, us, b1, b2, rfl, rfl, hc, h⟩ := h
    exact ⟨u, us, b1, b2, rfl, rfl, hc.mono hO hB fun g hg => hown g (by simp [hg]), ih (fun g hg => hown g (by simp [hg])) h⟩

theorem TupR.mono {E w w' φ φ'} (hO : ∀ g k u, E.okO g k → w.cell? ⟨g, k, none⟩ = some u → w'.cell? ⟨g, k, none⟩ = some u)
    (hB : ∀ g k u, okB φ g k → w.cell? ⟨g, k, none⟩ = some u → okB φ' g k ∧ w'.cell? ⟨g, k, none⟩ = some u) :
    ∀ {cs vs bs}, (∀ g ∈ bs, w'.heap[g]? = w.heap[g]? ∧ φ' g = φ g) → TupR E w φ cs vs bs → TupR E w' φ' cs vs bs := by
  intro cs
  induction cs with
  | nil => intro vs bs _ h; exact h
  | cons c cs ih =>
    intro vs bs hown h
    obtain ⟨u, us, b1, b2, rfl, rfl, hc, h⟩ := h
    refine ⟨u, us, b1, b2, rfl, rfl, ?_, ih (fun g hg => hown g (by simp [hg])) h⟩
    split at hc <;> rename_i hb
    · obtain ⟨arr, rfl, hc⟩ := hc
      rw [if_pos hb]
      exact ⟨arr, rfl, hc.mono hO hB fun g hg => hown g (by simp [hg])⟩
    · rw [if_neg hb]
      exact hc.mono hO hB fun g hg => hown g (by simp [hg])

theorem TVR.mono {E w w' φ φ' c v bs} (hO : ∀ g k u, E.okO g k → w.cell? ⟨g, k, none⟩ = some u → w'.cell? ⟨g, k, none⟩ = some u)
    (hB : ∀ g k u, okB φ g k → w.cell? ⟨g, k, none⟩ = some u → okB φ' g k ∧ w'.cell? ⟨g, k, none⟩ = some u)
    (hown : ∀ g ∈ bs, w'.heap[g]? = w.heap[g]? ∧ φ' g = φ g) (h : TVR E w φ c v bs) : TVR E w' φ' c v bs := by
  cases c with
  | one c => exact CellR.mono hO hB hown h
  | agg cs => obtain ⟨arr, rfl, h⟩ := h; exact ⟨arr, rfl, h.mono hO hB hown⟩
  | box cs =>
    obtain ⟨g, arr, e, b1, rfl, hg, hf, h, rfl⟩ := h
    have k := hown g (by simp)
    exact ⟨g, arr, e, b1, rfl, k.1.trans hg, k.2.trans hf, h.mono hO hB fun g' hg' => hown g' (by simp [hg']), rfl⟩
  | place r c path => exact h
  | ep l row off =>
    obtain ⟨rfl, g, o, cvs, rfl, h1, h2⟩ := h
    have hm : ∀ g k u, okOf E φ l g k → w.cell? ⟨g, k, none⟩ = some u → okOf E φ' l g k ∧ w'.cell? ⟨g, k, none⟩ = some u := by
      intro g k u a b
      cases l with
      | old => exact ⟨a, hO g k u a b⟩
      | _ => exact hB g k u a b
    exact ⟨rfl, g, o, cvs, rfl, fun k u hk => hm _ _ _ (h1 k u hk).1 (h1 k u hk).2, h2.mono hm⟩
  | tup vs => obtain ⟨arr, rfl, h⟩ := h; exact ⟨arr, rfl, h.mono hO hB hown⟩
  | undef => exact h
  | dead => exact h

theorem TVsR.mono {E w w' φ φ'} (hO : ∀ g k u, E.okO g k → w.cell? ⟨g, k, none⟩ = some u → w'.cell? ⟨g, k, none⟩ = some u)
    (hB : ∀ g k u, okB φ g k → w.cell? ⟨g, k, none⟩ = some u → okB φ' g k ∧ w'.cell? ⟨g, k, none⟩ = some u) :
    ∀ {cs : St} {vs bs}, (∀ g ∈ bs, w'.heap[g]? = w.heap[g]? ∧ φ' g = φ g) → TVsR E w φ cs vs bs → TVsR E w' φ' cs vs bs := by
  intro cs
  induction cs with
  | nil => intro vs bs _ h; exact h
  | cons c cs ih =>
    intro vs bs hown h
    obtain ⟨u, us, b1, b2, rfl, rfl, hc, h⟩ := h
    exact ⟨u, us, b1, b2, rfl, rfl, hc.mono hO hB fun g hg => hown g (by simp [hg]), ih (fun g hg => hown g (by simp [hg])) h⟩

end Go.Proofs.Ytkiliooegoldoaa
