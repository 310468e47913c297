/- Rules for the evaluator. -/
import Derived.Test.YtkiliooegoldoaaEv
set_option linter.unusedVariables false
namespace Go.Proofs.Ytkiliooegoldoaa
open Go

section
variable {F : Nat → Option AFunc}
def Wc (F : Nat → Option AFunc) (c : ACode) (S : St) (Q : AExit → St → Prop) : Prop := ∃ e S', Big F (.code c S e S') ∧ Q e S'
def Wo (F : Nat → Option AFunc) (os : List AO) (S : St) (Q : St → Prop) : Prop := ∃ S', Big F (.ops os S S') ∧ Q S'
def AExit.andThen (next : St → Prop) (Q : AExit → St → Prop) : AExit → St → Prop
  | .normal, S => next S
  | e, S => Q e S

theorem Wc.skip {S Q} (h : Q .normal S) : Wc F .skip S Q := ⟨_, _, .skip S, h⟩
theorem Wc.exit {id S Q} (h : Q (.exit id) S) : Wc F (.exit id) S Q := ⟨_, _, .exit id S, h⟩
theorem Wc.ret {S Q} (h : Q .ret S) : Wc F .ret S Q := ⟨_, _, .ret S, h⟩
theorem Wc.seq {a b S Q} (h : Wc F a S (AExit.andThen (fun S' => Wc F b S' Q) Q)) : Wc F (.seq a b) S Q := by
  obtain ⟨e, S', h1, h2⟩ := h
  cases e with
  | normal => obtain ⟨e2, S2, k1, k2⟩ := h2; exact ⟨e2, S2, .seqN h1 k1, k2⟩
  | exit id => exact ⟨_, _, .seqE h1 (by simp), h2⟩
  | ret => exact ⟨_, _, .seqE h1 (by simp), h2⟩
theorem Wc.region {os ks S Q} (h : Wo F os S fun S' => Q .normal (killSlots S' ks)) : Wc F (.region os ks) S Q := by
  obtain ⟨S', h1, h2⟩ := h
  exact ⟨_, _, .region h1, h2⟩
theorem Wc.cond {c a b S Q l t} (hc : bOne S c = some (l, .bool t)) (h : Wc F (if t then a else b) S Q) : Wc F (.cond c a b) S Q := by
  obtain ⟨e, S', h1, h2⟩ := h
  exact ⟨_, _, .cond hc h1, h2⟩
theorem Wc.condP {c a b S Q l} {p : Prop} [Decidable p] (hc : bOne S c = some (l, .bool (decide p))) (h1 : p → Wc F a S Q) (h2 : ¬ p → Wc F b S Q) : Wc F (.cond c a b) S Q := by
  refine Wc.cond hc ?_
  by_cases hp : p
  · simpa [hp] using h1 hp
  · simpa [hp] using h2 hp
theorem Wc.block {id a S Q} (h : Wc F a S fun e S' => Q (e.out id) S') : Wc F (.block id a) S Q := by
  obtain ⟨e, S', h1, h2⟩ := h
  exact ⟨_, _, .block h1, h2⟩
theorem Wc.pre {ps a S S1 Q} (hp : pseudo S ps = some S1) (h : Wc F a S1 Q) : Wc F (.pre ps a) S Q := by
  obtain ⟨e, S', h1, h2⟩ := h
  exact ⟨_, _, .pre hp h1, h2⟩
theorem Wc.once {a S Q} (h : Wc F a S (AExit.andThen (fun S' => Wc F (.loop a) S' Q) Q)) : Wc F (.loop a) S Q := by
  obtain ⟨e, S', h1, h2⟩ := h
  cases e with
  | normal => obtain ⟨e2, S2, k1, k2⟩ := h2; exact ⟨e2, S2, .loopN h1 k1, k2⟩
  | exit id => exact ⟨_, _, .loopE h1 (by simp), h2⟩
  | ret => exact ⟨_, _, .loopE h1 (by simp), h2⟩
theorem Wc.loop {a Q} (Inv : Nat → St → Prop) (h : ∀ n S, Inv n S → Wc F a S (AExit.andThen (fun S' => ∃ m, m < n ∧ Inv m S') Q)) {n S} (h0 : Inv n S) : Wc F (.loop a) S Q := by
  induction n using Nat.strongRecOn generalizing S with
  | _ n ih =>
    obtain ⟨e, S', h1, h2⟩ := h n S h0
    refine Wc.once ⟨e, S', h1, ?_⟩
    cases e with
    | normal => obtain ⟨m, hm, hi⟩ := h2; exact ih m hm hi
    | exit id => exact h2
    | ret => exact h2
theorem Wo.nil {S Q} (h : Q S) : Wo F [] S Q := ⟨_, .nil S, h⟩
theorem Wo.op {o : AO} {os S S1 Q} (hg : guardOf S o.guard = some true) (hs : step S o.dst o.op = some S1) (h : Wo F os S1 Q) : Wo F (o :: os) S Q := by
  obtain ⟨S', h1, h2⟩ := h
  exact ⟨_, .cons (.step hg hs) h1, h2⟩
theorem Wo.not {o : AO} {os S S1 Q} (hg : guardOf S o.guard = some false) (hs : put false S o.dst .undef = some S1) (h : Wo F os S1 Q) : Wo F (o :: os) S Q := by
  obtain ⟨S', h1, h2⟩ := h
  exact ⟨_, .cons (.not hg hs) h1, h2⟩
theorem Wo.call {d g k as os S S1 Q args fd rs tv} (hg : guardOf S g = some true) (ha : argsOf S as = some args) (hF : F k = some fd) (hp : args.map (·.1) = fd.params)
    (hf : Big F (.fn k (args.map (·.2)) rs)) (hr : resAll fd.rk rs = some tv) (hs : put false S d tv = some S1) (h : Wo F os S1 Q) : Wo F (⟨d, g, .call k as⟩ :: os) S Q := by
  obtain ⟨S', h1, h2⟩ := h
  exact ⟨_, .cons (.call hg rfl ha hF hp hf hr hs) h1, h2⟩
theorem fn_of {k fd args S rs} (hF : F k = some fd) (he : entry fd args = some S) (h : Wc F fd.body S fun e S' => e.leaves = true ∧ outs S' fd.results fd.rk = some rs) : Big F (.fn k args rs) := by
  obtain ⟨e, S', h1, h2, h3⟩ := h
  exact .fn hF he h1 h2 h3
theorem Wo.op' {o : AO} {os S S1 Q} (hs : (if guardOf S o.guard = some true then step S o.dst o.op else none) = some S1) (h : Wo F os S1 Q) : Wo F (o :: os) S Q := by
  by_cases hg : guardOf S o.guard = some true
  · rw [if_pos hg] at hs; exact Wo.op hg hs h
  · rw [if_neg hg] at hs; cases hs
end
end Go.Proofs.Ytkiliooegoldoaa
