/- Slices that are made and appended to. -/
import Derived.Test.YtkiliooegoldoaaOps4
set_option linter.unusedVariables false
set_option linter.unusedSimpArgs false
namespace Go.Proofs.Ytkiliooegoldoaa
open Go

def RowsR (E : Env) (w : World) (φ : Nat → Nat) (lev : Lev) (ps : List PV) (us : List Value) (b : List Nat) : Prop :=
  match lev with
  | .deep => OwL w φ ps us b
  | .oldR => RdL w E.okO ps us ∧ b = []
  | _ => RdL w (okB φ) ps us ∧ b = []

theorem RowsR.mono {E w w' φ φ' lev ps us b} (hO : ∀ g k u, E.okO g k → w.cell? ⟨g, k, none⟩ = some u → w'.cell? ⟨g, k, none⟩ = some u)
    (hB : ∀ g k u, okB φ g k → w.cell? ⟨g, k, none⟩ = some u → okB φ' g k ∧ w'.cell? ⟨g, k, none⟩ = some u)
    (hown : ∀ g ∈ b, w'.heap[g]? = w.heap[g]? ∧ φ' g = φ g) (h : RowsR E w φ lev ps us b) : RowsR E w' φ' lev ps us b := by
  cases lev with
  | deep => exact OwL.mono h hown
  | oldR => exact ⟨h.1.mono fun g k u a b => ⟨a, hO g k u a b⟩, h.2⟩
  | _ => exact ⟨h.1.mono hB, h.2⟩
theorem RowsR.append_ {E w φ lev ps us b qs ts b'} (h : RowsR E w φ lev ps us b) (k : RowsR E w φ lev qs ts b') : RowsR E w φ lev (ps ++ qs) (us ++ ts) (b ++ b') := by
  cases lev with
  | deep => exact OwL.append_ h k
  | oldR => exact ⟨h.1.append_ k.1, by rw [h.2, k.2]; rfl⟩
  | _ => exact ⟨h.1.append_ k.1, by rw [h.2, k.2]; rfl⟩
theorem RowsR.reads {E w φ lev ps us b} (hO : ∀ g k u, E.okO g k → w.cell? ⟨g, k, none⟩ = some u → okB φ g k) (h : RowsR E w φ lev ps us b) : RdL w (okB φ) ps us := by
  cases lev with
  | deep => exact OwL.reads h
  | oldR => exact h.1.mono fun g k u a b => ⟨hO g k u a b, b⟩
  | _ => exact h.1
theorem RowsR.length {E w φ lev ps us b} (h : RowsR E w φ lev ps us b) : ps.length = us.length := by
  cases lev with
  | deep => exact OwL.length h
  | _ => exact h.1.length
theorem RowsR.ones {E w φ lev ps us b} (h : RowsR E w φ lev ps us b) : ∀ u ∈ us, u.oneCell' = true := by
  cases lev with
  | deep => exact OwL.one_ h
  | _ => exact h.1.one_
theorem flats {E w φ} : ∀ {ps us ok}, RdL w ok ps us → (∀ p ∈ ps, p.flat = true) → ∀ lev, RowsR E w φ lev ps us [] := by
  intro ps
  induction ps with
  | nil =>
    intro us ok h _ lev
    cases h
    cases lev <;> first | exact .nil | exact ⟨.nil, rfl⟩
  | cons p ps ih =>
    intro us ok h hf lev
    cases us with
    | nil => cases h
    | cons u us =>
      obtain ⟨h1, h2⟩ := RdL.cons_iff.1 h
      have hp := hf p (by simp)
      have k := ih h2 (fun q hq => hf q (by simp [hq])) lev
      have one : RowsR E w φ lev [p] [u] [] := by
        cases lev with
        | deep => exact (h1.flat_ hp w (okB φ) φ).2
        | oldR => exact ⟨(h1.flat_ hp w E.okO φ).1, rfl⟩
        | _ => exact ⟨(h1.flat_ hp w (okB φ) φ).1, rfl⟩
      exact RowsR.append_ one k
theorem flatRows_iff {xs : List (List PV)} : flatRows xs = true ↔ ∀ p ∈ xs.flatten, p.flat = true := by
  simp [flatRows, flatRow]
  constructor
  · intro h p r hr hp; exact h r hr p hp
  · intro h r hr p hp; exact h p r hr hp

/-- A slice of one's own. -/
def OwnS (E : Env) (w : World) (φ : Nat → Nat) (lev : Lev) (sz : Nat) (xs : List (List PV)) (v : Value) (bs : List Nat) : Prop :=
  (v = .slice none 0 0 ∧ xs = [] ∧ bs = []) ∨
    ∃ g n c cur e b1, v = .slice (some ⟨g, 0, none⟩) n c ∧ bs = g :: b1 ∧ xs.length = n ∧ n ≤ c ∧ (∀ r ∈ xs, r.length = sz) ∧
      w.heap[g]? = some (.cells cur e (0, 0)) ∧ cur.size = c * sz ∧ φ g = n * sz ∧ RowsR E w φ lev xs.flatten (cur.toList.take (n * sz)) b1

theorem ownS_iff {E w φ lev sz xs v bs} (hl : isOwn lev = true) : CellR E w φ (.val lev (.sl sz xs)) v bs ↔ OwnS E w φ lev sz xs v bs := by
  cases lev with
  | old => cases hl
  | bor => cases hl
  | deep =>
    constructor
    · intro h
      cases h with
      | snil h => cases h; exact .inl ⟨rfl, rfl, rfl⟩
      | sl a b c d e f h k => cases k; exact .inr ⟨_, _, _, _, _, _, rfl, by simp, a, b, c, d, e, f, h⟩
    · rintro (⟨rfl, rfl, rfl⟩ | ⟨g, n, c, cur, e, b1, rfl, rfl, a, b, hr, d, es, f, h⟩)
      · exact .snil .nil
      · have := OwL.sl a b hr d es f h (OwL.nil (w := w) (φ := φ))
        rw [List.append_nil] at this
        exact this
  | oldR =>
    constructor
    · rintro ⟨sz', xs', he, h | ⟨g, n, c, cur, e, rfl, rfl, a, b, hr, d, es, f, h⟩⟩
      · cases he; exact .inl h
      · cases he; exact .inr ⟨g, n, c, cur, e, [], rfl, rfl, a, b, hr, d, es, f, h, rfl⟩
    · rintro (h | ⟨g, n, c, cur, e, b1, rfl, rfl, a, b, hr, d, es, f, h, rfl⟩)
      · exact ⟨sz, xs, rfl, .inl h⟩
      · exact ⟨sz, xs, rfl, .inr ⟨g, n, c, cur, e, rfl, rfl, a, b, hr, d, es, f, h⟩⟩
  | borR =>
    constructor
    · rintro ⟨sz', xs', he, h | ⟨g, n, c, cur, e, rfl, rfl, a, b, hr, d, es, f, h⟩⟩
      · cases he; exact .inl h
      · cases he; exact .inr ⟨g, n, c, cur, e, [], rfl, rfl, a, b, hr, d, es, f, h, rfl⟩
    · rintro (h | ⟨g, n, c, cur, e, b1, rfl, rfl, a, b, hr, d, es, f, h, rfl⟩)
      · exact ⟨sz, xs, rfl, .inl h⟩
      · exact ⟨sz, xs, rfl, .inr ⟨g, n, c, cur, e, rfl, rfl, a, b, hr, d, es, f, h⟩⟩

theorem RowsR.relev {E w φ want l xs us b} (hO : ∀ g k u, E.okO g k → w.cell? ⟨g, k, none⟩ = some u → okB φ g k) (hok : okBase want l xs = true) (h : RowsR E w φ l xs.flatten us b) :
    ∃ b', RowsR E w φ want xs.flatten us b' ∧ ∀ g, b'.count g ≤ b.count g := by
  unfold okBase at hok
  split at hok
  · exact ⟨b, h, fun g => Nat.le_refl _⟩
  · exact ⟨b, h, fun g => Nat.le_refl _⟩
  · exact ⟨b, h, fun g => Nat.le_refl _⟩
  · exact ⟨[], ⟨h.reads hO, rfl⟩, fun g => by simp⟩
  · exact ⟨[], ⟨h.reads hO, rfl⟩, fun g => by simp⟩
  · exact ⟨[], flats (h.reads hO) (flatRows_iff.1 hok) .oldR, fun g => by simp⟩
  · cases hok

theorem OwnS.relev {E w φ want l sz xs v b} (hO : ∀ g k u, E.okO g k → w.cell? ⟨g, k, none⟩ = some u → okB φ g k) (hok : okBase want l xs = true) (h : OwnS E w φ l sz xs v b) :
    ∃ b', OwnS E w φ want sz xs v b' ∧ ∀ g, b'.count g ≤ b.count g := by
  rcases h with h | ⟨g, n, c, cur, e, b1, rfl, rfl, a, b, hr, d, es, f, h⟩
  · exact ⟨b, .inl h, fun g => Nat.le_refl _⟩
  · obtain ⟨b', k, kc⟩ := h.relev hO hok
    exact ⟨g :: b', .inr ⟨g, n, c, cur, e, b', rfl, rfl, a, b, hr, d, es, f, k⟩, fun g' => by have := kc g'; simp [List.count_cons]; omega⟩

/-- Cells that are laid into rows. -/
theorem rowsOf {E w φ} (hO : ∀ g k u, E.okO g k → w.cell? ⟨g, k, none⟩ = some u → okB φ g k) {lev} : ∀ {l : List (Lev × PV)} {us b}, CellsR E w φ (l.map valCell) us b → okCells lev l = true → isOwn lev = true →
    ∃ b', RowsR E w φ lev (l.map (·.2)) us b' ∧ ∀ g, b'.count g ≤ b.count g := by
  intro l
  induction l with
  | nil => intro us b h _ hl; obtain ⟨rfl, rfl⟩ := h; exact ⟨[], by cases lev <;> first | exact .nil | exact ⟨.nil, rfl⟩, fun g => by simp⟩
  | cons x l ih =>
    intro us b h hok hl
    obtain ⟨u, us', b1, b2, rfl, rfl, hc, h⟩ := h
    simp only [okCells, List.all_cons, Bool.and_eq_true] at hok
    obtain ⟨b', k, kc⟩ := ih h hok.2 hl
    have one : ∃ bo, RowsR E w φ lev [x.2] [u] bo ∧ ∀ g, bo.count g ≤ b1.count g := by
      have hx := hok.1
      have hc' : CellR E w φ (.val x.1 x.2) u b1 := hc
      cases hf : x.2.flat
      case true =>
        refine ⟨[], flats (CellR.reads hO hc') (by simpa using hf) lev, fun g => by simp⟩
      case false =>
        simp only [okCell, hf, Bool.false_or] at hx
        cases lev with
        | old => cases hl
        | bor => cases hl
        | deep =>
          simp only [beq_iff_eq] at hx
          rw [hx] at hc'
          exact ⟨b1, hc', fun g => Nat.le_refl _⟩
        | oldR =>
          simp only [beq_iff_eq] at hx
          rw [hx] at hc'
          exact ⟨[], ⟨hc'.1, rfl⟩, fun g => by simp⟩
        | borR => exact ⟨[], ⟨CellR.reads hO hc', rfl⟩, fun g => by simp⟩
    obtain ⟨bo, k1, k2⟩ := one
    exact ⟨bo ++ b', RowsR.append_ k1 k, fun g => by have := kc g; have := k2 g; simp; omega⟩

/-- A slice whose elements are taken over into another. -/
theorem spread {E S vs w φ bs hand l sz ys v b want} (hs : SR E S vs w φ bs hand) (h : CellR E w φ (.val l (.sl sz ys)) v b) (hok : okSpread want l ys = true) (hw : isOwn want = true) :
    ∃ A c us b', v = .slice A ys.length c ∧ us.length = ys.length * sz ∧ (∀ r ∈ ys, r.length = sz) ∧ (∀ k u, us[k]? = some u → ∃ g o, A = some ⟨g, o, none⟩ ∧ w.cell? ⟨g, o + k, none⟩ = some u) ∧
      RowsR E w φ want ys.flatten us b' ∧ ∀ g, b'.count g ≤ b.count g := by
  -- as read
  have hread := CellR.reads hs.hO h
  obtain ⟨A, c, cvs, e, hle, hr, hcv, hrd⟩ := hread.slice_
  have hlen : cvs.length = ys.length * sz := by rw [← hrd.length, rows_length hr]
  have hcells : ∀ k u, cvs[k]? = some u → ∃ g o, A = some ⟨g, o, none⟩ ∧ w.cell? ⟨g, o + k, none⟩ = some u := fun k u hk => by
    obtain ⟨g, o, h1, _, h2⟩ := hcv k u hk
    exact ⟨g, o, h1, h2⟩
  by_cases hf : flatRows ys = true
  · exact ⟨A, c, cvs, [], e, hlen, hr, hcells, flats hrd (flatRows_iff.1 hf) want, fun g => by simp⟩
  · simp only [okSpread, hf, Bool.false_or] at hok
    cases want with
    | old => cases hw
    | bor => cases hw
    | borR => exact ⟨A, c, cvs, [], e, hlen, hr, hcells, ⟨hrd, rfl⟩, fun g => by simp⟩
    | deep =>
      cases l <;> simp at hok
      cases h with
      | snil h => simp [flatRows] at hf
      | @sl _ _ g n c' cur e' _ _ b1 b2 a1 a2 a3 a4 a5 a6 k1 k2 =>
        cases k2
        refine ⟨some ⟨g, 0, none⟩, c', cur.toList.take (n * sz), b1, by rw [a1], ?_, hr, fun k u hk => ⟨g, 0, rfl, ?_⟩, k1, fun g' => by simp [List.count_cons]⟩
        · rw [← k1.length, rows_length hr]
        · rw [Nat.zero_add, cell_of_heap a4]
          rw [List.getElem?_take] at hk
          split at hk
          · simpa using hk
          · cases hk
    | oldR =>
      cases l <;> simp at hok
      · obtain ⟨A', c'', cvs', e', hle', hr', hcv', hrd'⟩ := h.1.slice_
        refine ⟨A', c'', cvs', [], e', by rw [← hrd'.length, rows_length hr], hr, fun k u hk => ?_, ⟨hrd', rfl⟩, fun g => by simp⟩
        obtain ⟨g, o, h1, _, h2⟩ := hcv' k u hk
        exact ⟨g, o, h1, h2⟩
      · rcases (ownS_iff rfl).1 h with ⟨_, rfl, _⟩ | ⟨g, n, c', cur, e', b1, rfl, rfl, a1, a2, a3, a4, a5, a6, k1, k2⟩
        · simp [flatRows] at hf
        · refine ⟨some ⟨g, 0, none⟩, c', cur.toList.take (n * sz), [], by rw [a1], ?_, hr, fun k u hk => ⟨g, 0, rfl, ?_⟩, ⟨k1, rfl⟩, fun g' => by simp⟩
          · rw [← k1.length, rows_length hr]
          · rw [Nat.zero_add, cell_of_heap a4]
            rw [List.getElem?_take] at hk
            split at hk
            · simpa using hk
            · cases hk

/-! ### The model's append -/
section
variable {P : Program} {w : World}

theorem firstCells_of {size m c : Nat} {A : Option Addr} {us : List Value} (hl : us.length = m * size) (h : ∀ (k : Nat) u, us[k]? = some u → ∃ g o, A = some ⟨g, o, none⟩ ∧ w.cell? ⟨g, o + k, none⟩ = some u) :
    (Builtin.firstCells size m (.slice A m c)).run P w = .ok us.toArray w := by
  cases A with
  | none =>
    cases us with
    | nil => exact run_firstCells_none (P := P) w size m m c
    | cons u us => obtain ⟨g, o, e, _⟩ := h 0 u rfl; cases e
  | some a =>
    refine run_firstCells_some (P := P) w size m a m c us hl fun j v hj => ?_
    obtain ⟨g, o, e, hc⟩ := h j v hj
    injection e with e
    subst e
    rw [addr_add]; exact hc

theorem r_append_room {t ty e T : TypeId} {i : TypeInfo} {g n c m cc : Nat} {A : Option Addr} {us : List Value} {cur : Array Value} (ht : P.underlying t = some (.slice e)) (hi : P.info? e = some i)
    (hg : w.heap[g]? = some (.cells cur T (0, 0))) (hcur : cur.size = c * i.size) (hl : us.length = m * i.size) (h : ∀ (k : Nat) u, us[k]? = some u → ∃ g o, A = some ⟨g, o, none⟩ ∧ w.cell? ⟨g, o + k, none⟩ = some u)
    (h1 : ∀ u ∈ us, u.oneCell' = true) (hroom : n + m ≤ c) :
    (Builtin.append_ #[t, t] ty #[.slice (some ⟨g, 0, none⟩) n c, .slice A m cc]).run P w = .ok (.slice (some ⟨g, 0, none⟩) (n + m) c) (w.setRow g (cur.toList.take (n * i.size) ++ us ++ cur.toList.drop (n * i.size + us.length)).toArray) := by
  have hfc := firstCells_of (P := P) (c := cc) hl h
  have hle : n * i.size + us.length ≤ cur.size := by rw [hl, hcur, ← Nat.add_mul]; exact Nat.mul_le_mul_right _ hroom
  have hst := run_storeCells_at (P := P) g (n * i.size) T us 0 cur w hg (by simpa using hle) h1
  simp only [Nat.add_zero] at hst
  simp [Builtin.append_, run_underlying ht, sizeOf, typeInfo, hi, Builtin.lenOf, hroom, hfc, addr_add, hst]

theorem r_append_none {t ty e : TypeId} {i : TypeInfo} {cc : Nat} {A : Option Addr} (ht : P.underlying t = some (.slice e)) (hi : P.info? e = some i) :
    (Builtin.append_ #[t, t] ty #[.slice none 0 0, .slice A 0 cc]).run P w = .ok (.slice none 0 0) w := by
  have hfc := firstCells_of (P := P) (w := w) (size := i.size) (m := 0) (c := cc) (A := A) (us := []) (by simp) (by simp)
  simp [Builtin.append_, run_underlying ht, sizeOf, typeInfo, hi, Builtin.lenOf, hfc]

theorem r_append_grow {t ty e : TypeId} {i : TypeInfo} {z : Value} {B : Option Addr} {n c m cc : Nat} {A : Option Addr} {os us : List Value} (ht : P.underlying t = some (.slice e)) (hi : P.info? e = some i) (hz : i.zero = some z)
    (hlo : os.length = n * i.size) (ho : ∀ (k : Nat) u, os[k]? = some u → ∃ g o, B = some ⟨g, o, none⟩ ∧ w.cell? ⟨g, o + k, none⟩ = some u)
    (hl : us.length = m * i.size) (h : ∀ (k : Nat) u, us[k]? = some u → ∃ g o, A = some ⟨g, o, none⟩ ∧ w.cell? ⟨g, o + k, none⟩ = some u)
    (hg : c < n + m) (hb0 : 0 < i.bytes) (hb : (n + m) * i.bytes ≤ 140737488355328) :
    ∃ nc, n + m ≤ nc ∧ (Builtin.append_ #[t, t] ty #[.slice B n c, .slice A m cc]).run P w = .ok (.slice (some ⟨w.heap.size, 0, none⟩) (n + m) nc)
      (w.drew.alloc (.cells (os.toArray ++ us.toArray ++ Builtin.zeroCells z.cells (nc - (n + m))) e)) := by
  have hfit := growslice_fits (old := c) hg hb
  have hle : n + m ≤ (n + m) * i.bytes := Nat.le_mul_of_pos_right _ hb0
  have hn : ¬ (n + m ≤ c) := by omega
  have h63' : ¬ (9223372036854775807 < ((n : Int) + (m : Int))) := by omega
  have h48' : ¬ (281474976710656 < Builtin.nextslicecap (n + m) c * i.bytes) := by omega
  have hf := firstCells_of (P := P) (w := w.drew) (c := cc) hl (by simpa using h)
  have hfo := firstCells_of (P := P) (w := w.drew) (c := c) hlo (by simpa using ho)
  refine ⟨grownCap w (n + m) c e, grownCap_ge w (n + m) c e, ?_⟩
  simp [Builtin.append_, run_underlying ht, sizeOf, typeInfo, zeroValue, hi, hz, Builtin.lenOf, hn, h63', h48', Question.forced, hf, hfo, newRow, grownCap]
  congr 2
  apply Array.ext'
  simp [List.append_assoc]

end
end Go.Proofs.Ytkiliooegoldoaa
