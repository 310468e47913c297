/- How abstract values lie in memory; what keeps them. -/
import Derived.WalkKit
import Derived.Test.YtkiliooegoldoaaPv
set_option linter.unusedVariables false
set_option linter.unusedSimpArgs false
namespace Go.Proofs.Ytkiliooegoldoaa
open Go

/-- What is put out, and what of the memory is frozen. -/
def outw (w : World) := fun a : Addr => (w.output, w.frozen? a)
theorem outw_setRow (w : World) (g : Nat) (cs : Array Value) : outw (w.setRow g cs) = outw w := by
  funext a
  have : (w.setRow g cs).frozen? a = w.frozen? a := by
    simp only [World.setRow, World.frozen?, Array.getElem?_modify]
    by_cases h : g = a.block
    · subst h
      simp only [if_true]
      cases w.heap[a.block]? with
      | none => rfl
      | some o => cases o <;> rfl
    · simp only [h, if_false]
  show ((w.setRow g cs).output, _) = (w.output, _)
  rw [this]; rfl
theorem outw_alloc (w : World) (c : Array Value) (t : TypeId) : outw (w.alloc (.cells c t)) = outw w := by
  funext a
  have : (w.alloc (.cells c t)).frozen? a = w.frozen? a := by
    by_cases h : a.block = w.heap.size
    · have e1 : (w.alloc (.cells c t)).heap[a.block]? = some (.cells c t) := by rw [h]; show (w.heap.push _)[w.heap.size]? = _; simp
      have e2 : w.heap[a.block]? = none := by rw [h]; simp
      simp [World.frozen?, e1, e2]
    · exact World.frozen?_alloc_old _ _ _ h
  show ((w.alloc (.cells c t)).output, _) = (w.output, _)
  rw [this]; rfl

/-! ### Cells -/
def CellOk (w : World) (ok : Nat → Nat → Prop) (A : Option Addr) (k : Nat) (v : Value) : Prop :=
  ∃ g o, A = some ⟨g, o, none⟩ ∧ ok g (o + k) ∧ w.cell? ⟨g, o + k, none⟩ = some v

/-- Values that read as these. -/
inductive RdL (w : World) (ok : Nat → Nat → Prop) : List PV → List Value → Prop
  | nil : RdL w ok [] []
  | int {k n ps vs} : RdL w ok ps vs → RdL w ok (.int k n :: ps) (.int k n :: vs)
  | bool {b ps vs} : RdL w ok ps vs → RdL w ok (.bool b :: ps) (.bool b :: vs)
  | str {s ps vs} : RdL w ok ps vs → RdL w ok (.str s :: ps) (.string s :: vs)
  | sl {sz xs A n c cvs ps vs} : xs.length = n → n ≤ c → (∀ r ∈ xs, r.length = sz) →
      (∀ k v, cvs[k]? = some v → CellOk w ok A k v) → RdL w ok xs.flatten cvs → RdL w ok ps vs →
      RdL w ok (.sl sz xs :: ps) (.slice A n c :: vs)

/-- Values whose blocks are owned, each once. -/
inductive OwL (w : World) (φ : Nat → Nat) : List PV → List Value → List Nat → Prop
  | nil : OwL w φ [] [] []
  | int {k n ps vs bs} : OwL w φ ps vs bs → OwL w φ (.int k n :: ps) (.int k n :: vs) bs
  | bool {b ps vs bs} : OwL w φ ps vs bs → OwL w φ (.bool b :: ps) (.bool b :: vs) bs
  | str {s ps vs bs} : OwL w φ ps vs bs → OwL w φ (.str s :: ps) (.string s :: vs) bs
  | snil {sz ps vs bs} : OwL w φ ps vs bs → OwL w φ (.sl sz [] :: ps) (.slice none 0 0 :: vs) bs
  | sl {sz xs g n c cur e ps vs b1 b2} : xs.length = n → n ≤ c → (∀ r ∈ xs, r.length = sz) →
      w.heap[g]? = some (.cells cur e (0, 0)) → cur.size = c * sz → φ g = n * sz →
      OwL w φ xs.flatten (cur.toList.take (n * sz)) b1 → OwL w φ ps vs b2 →
      OwL w φ (.sl sz xs :: ps) (.slice (some ⟨g, 0, none⟩) n c :: vs) (g :: (b1 ++ b2))

/-- A block that is owned; its rows are only read. -/
def OwR (w : World) (φ : Nat → Nat) (ok : Nat → Nat → Prop) (p : PV) (v : Value) (bs : List Nat) : Prop :=
  ∃ sz xs, p = .sl sz xs ∧ ((v = .slice none 0 0 ∧ xs = [] ∧ bs = []) ∨
    ∃ g n c cur e, v = .slice (some ⟨g, 0, none⟩) n c ∧ bs = [g] ∧ xs.length = n ∧ n ≤ c ∧ (∀ r ∈ xs, r.length = sz) ∧
      w.heap[g]? = some (.cells cur e (0, 0)) ∧ cur.size = c * sz ∧ φ g = n * sz ∧ RdL w ok xs.flatten (cur.toList.take (n * sz)))

def okB (φ : Nat → Nat) (g k : Nat) : Prop := k < φ g

structure Env where
  w0 : World
  φ0 : Nat → Nat
  lin : List Nat

/-- What came in and is only read: no later event of this call turns it. -/
def Env.okO (E : Env) (g k : Nat) : Prop := g < E.w0.heap.size ∧ g ∉ E.lin ∧ k < E.φ0 g

def CellR (E : Env) (w : World) (φ : Nat → Nat) : Cell → Value → List Nat → Prop
  | .val .old p, v, bs => RdL w E.okO [p] [v] ∧ bs = []
  | .val .bor p, v, bs => RdL w (okB φ) [p] [v] ∧ bs = []
  | .val .deep p, v, bs => OwL w φ [p] [v] bs
  | .val .oldR p, v, bs => OwR w φ E.okO p v bs
  | .val .borR p, v, bs => OwR w φ (okB φ) p v bs
  | .view .., v, bs => bs = [] ∧ v.oneCell' = true
  | .dead, _, bs => bs = []

def CellsR (E : Env) (w : World) (φ : Nat → Nat) : List Cell → List Value → List Nat → Prop
  | [], vs, bs => vs = [] ∧ bs = []
  | c :: cs, vs, bs => ∃ v vs' b1 b2, vs = v :: vs' ∧ bs = b1 ++ b2 ∧ CellR E w φ c v b1 ∧ CellsR E w φ cs vs' b2

def TupR (E : Env) (w : World) (φ : Nat → Nat) : List (Bool × List Cell) → List Value → List Nat → Prop
  | [], vs, bs => vs = [] ∧ bs = []
  | c :: cs, vs, bs => ∃ v vs' b1 b2, vs = v :: vs' ∧ bs = b1 ++ b2 ∧
      (if c.1 = true then ∃ arr, v = .agg arr ∧ CellsR E w φ c.2 arr.toList b1 else CellsR E w φ c.2 [v] b1) ∧ TupR E w φ cs vs' b2

def okOf (E : Env) (φ : Nat → Nat) : Lev → Nat → Nat → Prop
  | .old => E.okO
  | _ => okB φ

def TVR (E : Env) (w : World) (φ : Nat → Nat) : TV → Value → List Nat → Prop
  | .one c, v, bs => CellR E w φ c v bs
  | .agg cs, v, bs => ∃ arr, v = .agg arr ∧ CellsR E w φ cs arr.toList bs
  | .box cs, v, bs => ∃ g arr e b1, v = .pointer (some ⟨g, 0, none⟩) ∧ w.heap[g]? = some (.cells arr e (0, 0)) ∧ φ g = 0 ∧
      CellsR E w φ cs arr.toList b1 ∧ bs = g :: b1
  | .place .., _, bs => bs = []
  | .ep l row off, v, bs => bs = [] ∧ ∃ g o cvs, v = .pointer (some ⟨g, o + off, none⟩) ∧
      (∀ k u, cvs[k]? = some u → okOf E φ l g (o + k) ∧ w.cell? ⟨g, o + k, none⟩ = some u) ∧ RdL w (okOf E φ l) row cvs
  | .tup vs, v, bs => ∃ arr, v = .tuple arr ∧ TupR E w φ vs arr.toList bs
  | .undef, v, bs => bs = [] ∧ v = undef
  | .dead, _, bs => bs = []

def TVsR (E : Env) (w : World) (φ : Nat → Nat) : List TV → List Value → List Nat → Prop
  | [], vs, bs => vs = [] ∧ bs = []
  | c :: cs, vs, bs => ∃ v vs' b1 b2, vs = v :: vs' ∧ bs = b1 ++ b2 ∧ TVR E w φ c v b1 ∧ TVsR E w φ cs vs' b2

/-! ### Lengths, parts -/
theorem RdL.length {w ok ps vs} (h : RdL w ok ps vs) : ps.length = vs.length := by
  induction h <;> simp [*]
theorem OwL.length {w φ ps vs bs} (h : OwL w φ ps vs bs) : ps.length = vs.length := by
  induction h <;> simp [*]

theorem RdL.one_ {w ok ps vs} (h : RdL w ok ps vs) : ∀ u ∈ vs, u.oneCell' = true := by
  induction h <;> simp_all [Value.oneCell']
theorem OwL.one_ {w φ ps vs bs} (h : OwL w φ ps vs bs) : ∀ u ∈ vs, u.oneCell' = true := by
  induction h <;> simp_all [Value.oneCell']

theorem RdL.cons_iff {w ok p ps v vs} : RdL w ok (p :: ps) (v :: vs) ↔ RdL w ok [p] [v] ∧ RdL w ok ps vs := by
  constructor
  · intro h
    cases h with
    | int h => exact ⟨.int .nil, h⟩
    | bool h => exact ⟨.bool .nil, h⟩
    | str h => exact ⟨.str .nil, h⟩
    | sl a b c d e f => exact ⟨.sl a b c d e .nil, f⟩
  · rintro ⟨h, k⟩
    cases h with
    | int _ => exact .int k
    | bool _ => exact .bool k
    | str _ => exact .str k
    | sl a b c d e _ => exact .sl a b c d e k

theorem RdL.append_ {w ok ps vs qs us} (h : RdL w ok ps vs) (k : RdL w ok qs us) : RdL w ok (ps ++ qs) (vs ++ us) := by
  induction h with
  | nil => exact k
  | int _ ih => exact .int ih
  | bool _ ih => exact .bool ih
  | str _ ih => exact .str ih
  | sl a b c d e _ _ ih => exact .sl a b c d e ih

theorem RdL.get {w ok} : ∀ {ps vs}, RdL w ok ps vs → ∀ {i : Nat} {p}, ps[i]? = some p → ∃ v, vs[i]? = some v ∧ RdL w ok [p] [v] := by
  intro ps
  induction ps with
  | nil => intro vs _ i p hp; simp at hp
  | cons q ps ih =>
    intro vs h i p hp
    cases vs with
    | nil => cases h
    | cons v vs =>
      obtain ⟨h1, h2⟩ := RdL.cons_iff.1 h
      cases i with
      | zero => simp only [List.getElem?_cons_zero, Option.some.injEq] at hp; subst hp; exact ⟨v, rfl, h1⟩
      | succ i => simpa using ih h2 (by simpa using hp)

theorem RdL.take_ {w ok} : ∀ {ps vs}, RdL w ok ps vs → ∀ n : Nat, RdL w ok (ps.take n) (vs.take n) := by
  intro ps
  induction ps with
  | nil => intro vs h n; cases h; simp; exact .nil
  | cons q ps ih =>
    intro vs h n
    cases vs with
    | nil => cases h
    | cons v vs =>
      obtain ⟨h1, h2⟩ := RdL.cons_iff.1 h
      cases n with
      | zero => exact .nil
      | succ n => exact RdL.cons_iff.2 ⟨h1, ih h2 n⟩
theorem RdL.drop_ {w ok} : ∀ {ps vs}, RdL w ok ps vs → ∀ n : Nat, RdL w ok (ps.drop n) (vs.drop n) := by
  intro ps
  induction ps with
  | nil => intro vs h n; cases h; simp; exact .nil
  | cons q ps ih =>
    intro vs h n
    cases vs with
    | nil => cases h
    | cons v vs =>
      cases n with
      | zero => exact h
      | succ n => exact ih (RdL.cons_iff.1 h).2 n

theorem RdL.mono {w w' : World} {ok ok' : Nat → Nat → Prop} (hm : ∀ g k v, ok g k → w.cell? ⟨g, k, none⟩ = some v → ok' g k ∧ w'.cell? ⟨g, k, none⟩ = some v)
    {ps vs} (h : RdL w ok ps vs) : RdL w' ok' ps vs := by
  induction h with
  | nil => exact .nil
  | int _ ih => exact .int ih
  | bool _ ih => exact .bool ih
  | str _ ih => exact .str ih
  | sl a b c d _ _ ih1 ih2 =>
    refine .sl a b c (fun k v hk => ?_) ih1 ih2
    obtain ⟨g, o, hA, hok, hc⟩ := d k v hk
    obtain ⟨h1, h2⟩ := hm _ _ _ hok hc
    exact ⟨g, o, hA, h1, h2⟩

theorem OwL.cons_iff {w φ p ps v vs bs} : OwL w φ (p :: ps) (v :: vs) bs ↔ ∃ b1 b2, bs = b1 ++ b2 ∧ OwL w φ [p] [v] b1 ∧ OwL w φ ps vs b2 := by
  constructor
  · intro h
    cases h with
    | int h => exact ⟨[], _, rfl, .int .nil, h⟩
    | bool h => exact ⟨[], _, rfl, .bool .nil, h⟩
    | str h => exact ⟨[], _, rfl, .str .nil, h⟩
    | snil h => exact ⟨[], _, rfl, .snil .nil, h⟩
    | @sl _ _ g _ _ _ _ _ _ b1 b2 a b c d e f h k => exact ⟨g :: (b1 ++ []), b2, by simp, .sl a b c d e f h .nil, k⟩
  · rintro ⟨b1, b2, rfl, h, k⟩
    cases h with
    | int h => cases h; exact .int k
    | bool h => cases h; exact .bool k
    | str h => cases h; exact .str k
    | snil h => cases h; exact .snil k
    | @sl _ _ g _ _ _ _ _ _ b1 b2' a b c d e f h h' =>
      cases h'
      have := OwL.sl (w := w) (φ := φ) a b c d e f h k
      simpa using this

theorem OwL.append_ {w φ ps vs qs us b1 b2} (h : OwL w φ ps vs b1) (k : OwL w φ qs us b2) : OwL w φ (ps ++ qs) (vs ++ us) (b1 ++ b2) := by
  induction h with
  | nil => exact k
  | int _ ih => exact .int ih
  | bool _ ih => exact .bool ih
  | str _ ih => exact .str ih
  | snil _ ih => exact .snil ih
  | sl a b c d e f g _ _ ih => simpa [List.append_assoc] using OwL.sl a b c d e f g ih

theorem OwL.split_ {w φ} : ∀ {ps qs : List PV} {vs bs}, OwL w φ (ps ++ qs) vs bs → ∃ v1 v2 b1 b2, vs = v1 ++ v2 ∧ bs = b1 ++ b2 ∧ OwL w φ ps v1 b1 ∧ OwL w φ qs v2 b2 := by
  intro ps
  induction ps with
  | nil => intro qs vs bs h; exact ⟨[], vs, [], bs, rfl, rfl, .nil, h⟩
  | cons p ps ih =>
    intro qs vs bs h
    cases vs with
    | nil => cases h
    | cons v vs =>
      obtain ⟨b1, b2, rfl, h1, h2⟩ := OwL.cons_iff.1 h
      obtain ⟨v1, v2, c1, c2, rfl, rfl, k1, k2⟩ := ih h2
      exact ⟨v :: v1, v2, b1 ++ c1, c2, rfl, by simp, OwL.cons_iff.2 ⟨b1, c1, rfl, h1, k1⟩, k2⟩

theorem OwL.mono {w w' : World} {φ φ' : Nat → Nat} {ps vs bs} (h : OwL w φ ps vs bs) (hm : ∀ g ∈ bs, w'.heap[g]? = w.heap[g]? ∧ φ' g = φ g) : OwL w' φ' ps vs bs := by
  induction h with
  | nil => exact .nil
  | int _ ih => exact .int (ih hm)
  | bool _ ih => exact .bool (ih hm)
  | str _ ih => exact .str (ih hm)
  | snil _ ih => exact .snil (ih hm)
  | @sl _ _ g _ _ _ _ _ _ b1 b2 a b c d e f _ _ ih1 ih2 =>
    have hg := hm g (by simp)
    exact .sl a b c (hg.1.trans d) e (hg.2.trans f) (ih1 fun g' hg' => hm g' (by simp [hg'])) (ih2 fun g' hg' => hm g' (by simp [hg']))

theorem OwL.lt {w φ ps vs bs} (h : OwL w φ ps vs bs) : ∀ g ∈ bs, g < w.heap.size := by
  induction h with
  | nil => simp
  | int _ ih => exact ih
  | bool _ ih => exact ih
  | str _ ih => exact ih
  | snil _ ih => exact ih
  | @sl _ _ g _ _ _ _ _ _ b1 b2 a b c d e f _ _ ih1 ih2 =>
    intro g' hg'
    simp at hg'
    rcases hg' with rfl | hg' | hg'
    · exact (Array.getElem?_eq_some_iff.1 d).1
    · exact ih1 _ hg'
    · exact ih2 _ hg'

theorem cell_of_heap {w : World} {g k : Nat} {cur : Array Value} {e : TypeId} {fr : Nat × Nat} (h : w.heap[g]? = some (.cells cur e fr)) : w.cell? ⟨g, k, none⟩ = cur[k]? := by
  simp [World.cell?, h]

theorem rows_length {xs : List (List PV)} {sz : Nat} (h : ∀ r ∈ xs, r.length = sz) : xs.flatten.length = xs.length * sz := by
  induction xs with
  | nil => simp
  | cons x xs ih =>
    simp [h x (by simp), ih (fun r hr => h r (by simp [hr])), Nat.succ_mul, Nat.add_comm]

/-- What is owned is read, too. -/
theorem OwL.reads {w φ ps vs bs} (h : OwL w φ ps vs bs) : RdL w (okB φ) ps vs := by
  induction h with
  | nil => exact .nil
  | int _ ih => exact .int ih
  | bool _ ih => exact .bool ih
  | str _ ih => exact .str ih
  | @snil sz ps vs bs _ ih => exact .sl (cvs := []) rfl (Nat.le_refl _) (by simp) (by simp) (by simpa using RdL.nil) ih
  | @sl sz xs g n c cur e ps vs b1 b2 a b hr d es f _ _ ih1 ih2 =>
    refine .sl a b hr (fun k v hk => ⟨g, 0, rfl, ?_, ?_⟩) ih1 ih2
    · have := (List.getElem?_eq_some_iff.1 hk).1
      simp at this
      simp [okB, f]
      omega
    · rw [Nat.zero_add, cell_of_heap d]
      rw [List.getElem?_take] at hk
      split at hk
      · simpa using hk
      · simp at hk

theorem OwR.reads {w φ ok p v bs} (h : OwR w φ ok p v bs) (hok : ∀ g k v, ok g k → w.cell? ⟨g, k, none⟩ = some v → okB φ g k) : RdL w (okB φ) [p] [v] := by
  obtain ⟨sz, xs, rfl, h | ⟨g, n, c, cur, e, rfl, rfl, a, b, hr, d, es, f, hrd⟩⟩ := h
  · obtain ⟨rfl, rfl, rfl⟩ := h
    exact .sl (cvs := []) rfl (Nat.le_refl _) (by simp) (by simp) (by simpa using RdL.nil) .nil
  · refine .sl a b hr (fun k v hk => ⟨g, 0, rfl, ?_, ?_⟩) (hrd.mono fun g k v h1 h2 => ⟨hok g k v h1 h2, h2⟩) .nil
    · have := (List.getElem?_eq_some_iff.1 hk).1
      simp at this
      simp [okB, f]
      omega
    · rw [Nat.zero_add, cell_of_heap d]
      rw [List.getElem?_take] at hk
      split at hk
      · simpa using hk
      · simp at hk

end Go.Proofs.Ytkiliooegoldoaa
