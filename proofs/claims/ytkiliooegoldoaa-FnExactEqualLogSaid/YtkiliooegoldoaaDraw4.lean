/- Whatever order is drawn. -/
import Derived.Test.YtkiliooegoldoaaDraw3
set_option linter.unusedVariables false
set_option linter.unusedSimpArgs false
namespace Go.Proofs.Ytkiliooegoldoaa
open Go

section
variable (P : Program) (num : Nat → FuncId)
structure FnHere (k : Nat) (fd : AFunc) (fn : Func) (c : Code) : Prop where
  here : P.funcs[num k]? = some fn
  name : (fn.name == "runtime.NumGoroutine") = false
  body : fn.body = some c
end

section
variable {P : Program} {num : Nat → FuncId} {F : Nat → Option AFunc}

theorem one_sem (H : ∀ k fd, F k = some fd → ∃ fn c, FnHere P num k fd fn c) {ops : Array Oper} {a : AO} {o : Oper} {S S' : St} (hc : chkAO num P ops a o = true) (h : One1 P num F a S S') : OneSem P ops o S S' := by
  simp only [chkAO, Bool.and_eq_true, beq_iff_eq] at hc
  obtain ⟨⟨c1, c2⟩, c3⟩ := hc
  rcases h with ⟨h1, h2⟩ | ⟨h1, h2⟩ | ⟨k, as, args, fd, rs, tv, h1, hop, h3, h4, h5, h6, h7, h8⟩
  · exact one_not c1 c2 h1 h2
  · refine one_op c1 c2 ?_ h1 h2
    split at c3
    · rename_i hop
      rw [hop] at h2
      simp [step] at h2
    · exact c3
  · rw [hop] at c3
    obtain ⟨fn, c, ok⟩ := H k fd h4
    exact one_call c1 c2 c3 ok.here ok.name ok.body h1 h3 h5 h6 h7 h8

structure Reg (ops : Array Oper) (os : List AO) (tab : List Nat) : Prop where
  size : ops.size = os.length
  op : ∀ (i : Nat) a, os[i]? = some a → ∃ o, ops[i]? = some o ∧ chkAO num P ops a o = true
  back : ∀ (i : Nat) o, ops[i]? = some o → (∀ p ∈ predsOf o, p < i) ∧ ancMask tab (predsOf o) = tab.getD i 0
  free : ∀ (i : Nat) a, os[i]? = some a → ∀ (j : Nat) b, j < i → os[j]? = some b → (tab.getD i 0).testBit j = true ∨ indep (fpOf b) (fpOf a) = true

structure Left (ops : Array Oper) (R : List Nat) (listed : Array Bool) : Prop where
  sorted : R.Pairwise (· < ·)
  lt : ∀ i ∈ R, i < ops.size
  lsize : listed.size = ops.size
  listed : ∀ i, i < ops.size → (listed.getD i false = true ↔ i ∉ R)
  closed : ∀ (i : Nat) o, ops[i]? = some o → i ∉ R → ∀ p ∈ predsOf o, p ∉ R

theorem anc_out {ops : Array Oper} {os : List AO} {tab : List Nat} {R : List Nat} {listed : Array Bool} (hr : Reg (P := P) (num := num) ops os tab) (hl : Left ops R listed) :
    ∀ (i : Nat) o, ops[i]? = some o → (∀ p ∈ predsOf o, p ∉ R) → ∀ j, (tab.getD i 0).testBit j = true → j ∉ R := by
  intro i
  induction i using Nat.strongRecOn with
  | _ i ih =>
    intro o ho hp j hj
    obtain ⟨h1, h2⟩ := hr.back i o ho
    rw [← h2] at hj
    rcases ancMask_bit hj with hj | ⟨p, hpm, hj⟩
    · exact hp j hj
    · have hpi := h1 p hpm
      have hpn : p < ops.size := Nat.lt_trans hpi (Array.getElem?_eq_some_iff.1 ho).1
      exact ih p hpi ops[p] (Array.getElem?_eq_getElem hpn) (hl.closed p _ (Array.getElem?_eq_getElem hpn) (hp p hpm)) j hj

theorem mem_ready {ops : Array Oper} {listed : Array Bool} {i : Nat} (hs : listed.size = ops.size) : i ∈ Region.ready .any ops listed ↔ ∃ o, ops[i]? = some o ∧ listed.getD i false = false ∧ ∀ p ∈ predsOf o, listed.getD p false = true := by
  unfold Region.ready
  simp only [List.mem_filter, List.mem_range, Bool.and_eq_true, Bool.not_eq_true']
  constructor
  · rintro ⟨h1, h2, h3⟩
    refine ⟨ops[i], Array.getElem?_eq_getElem h1, ?_, ?_⟩
    · rw [Array.getD_eq_getD_getElem?, Array.getElem?_eq_getElem (by omega)] at h2 ⊢
      exact h2
    · rw [Array.getElem?_eq_getElem h1] at h3
      simp only [Option.map_some, Option.getD_some] at h3
      intro p hp
      obtain ⟨e, he, rfl⟩ := List.mem_map.1 hp
      obtain ⟨he1, he2⟩ := List.mem_filter.1 he
      have := Array.all_eq_true'.1 h3 e (by simpa using he1)
      simpa [he2] using this
  · rintro ⟨o, h1, h2, h3⟩
    have hlt := (Array.getElem?_eq_some_iff.1 h1).1
    refine ⟨hlt, ?_, ?_⟩
    · rw [Array.getD_eq_getD_getElem?, Array.getElem?_eq_getElem (by omega)] at h2 ⊢
      exact h2
    · rw [h1]
      simp only [Option.map_some, Option.getD_some]
      refine Array.all_eq_true'.2 fun e he => ?_
      cases hb : Region.binds .any e with
      | false => rfl
      | true => simpa using h3 e.on (List.mem_map.2 ⟨e, List.mem_filter.2 ⟨by simpa using he, hb⟩, rfl⟩)

theorem any_sound (H : ∀ k fd, F k = some fd → ∃ fn c, FnHere P num k fd fn c) {ops : Array Oper} {os : List AO} {tab : List Nat} (hr : Reg (P := P) (num := num) ops os tab) {E : Env} {Q : Exit → Act → World → Prop} {S' : St}
    (hQ : ∀ a' w' φ' bs', SR E S' a'.tmps.toList w' φ' bs' [] → a'.defers = [] → Q .normal a' w') :
    ∀ (fuel : Nat) {R : List Nat} {listed : Array Bool} {S : St} {a : Act} {w : World} {φ bs}, R.length = fuel → Left ops R listed → Ops1 P num F (R.map fun i => os.getD i default) S S' →
      SR E S a.tmps.toList w φ bs [] → a.defers = [] → wpAny P .any ops Q fuel listed a w := by
  intro fuel
  induction fuel with
  | zero =>
    intro R listed S a w φ bs hlen hl ho hs hd
    have : R = [] := List.length_eq_zero_iff.1 hlen
    subst this
    have hS : S' = S := ho
    refine ⟨?_, hQ a w φ bs (by rw [hS]; exact hs) hd⟩
    apply List.eq_nil_iff_forall_not_mem.2
    intro i hi
    obtain ⟨o, h1, h2, _⟩ := (mem_ready hl.lsize).1 hi
    have := (hl.listed i (Array.getElem?_eq_some_iff.1 h1).1).2 (by simp)
    rw [h2] at this; cases this
  | succ fuel ih =>
    intro R listed S a w φ bs hlen hl ho hs hd
    refine ⟨fun he => ?_, fun i hi => ?_⟩
    · -- some operation is ready
      exfalso
      cases R with
      | nil => simp at hlen
      | cons r R =>
        have hrn := hl.lt r (by simp)
        have hmem : r ∈ Region.ready .any ops listed := by
          refine (mem_ready hl.lsize).2 ⟨ops[r], Array.getElem?_eq_getElem hrn, ?_, fun p hp => ?_⟩
          · cases hx : listed.getD r false with
            | false => rfl
            | true => exact absurd (List.mem_cons_self) ((hl.listed r hrn).1 hx)
          · have hpr := (hr.back r _ (Array.getElem?_eq_getElem hrn)).1 p hp
            refine (hl.listed p (by omega)).2 fun hm => ?_
            have hsorted := List.pairwise_cons.1 hl.sorted
            rcases List.mem_cons.1 hm with rfl | hm
            · omega
            · have := hsorted.1 p hm; omega
        rw [he] at hmem
        cases hmem
    · obtain ⟨o, h1, h2, h3⟩ := (mem_ready hl.lsize).1 hi
      have hin := (Array.getElem?_eq_some_iff.1 h1).1
      have hiR : i ∈ R := by
        by_cases hm : i ∈ R
        · exact hm
        · have := (hl.listed i hin).2 hm; rw [h2] at this; cases this
      have hpre : ∀ p ∈ predsOf o, p ∉ R := fun p hp => (hl.listed p (by have := (hr.back i o h1).1 p hp; omega)).1 (h3 p hp)
      obtain ⟨L1, L2, rfl⟩ := List.append_of_mem hiR
      have hanc := anc_out hr hl i o h1 hpre
      have hsorted := List.pairwise_append.1 hl.sorted
      have hai : os[i]? = some (os.getD i default) := by
        rw [List.getD_eq_getElem?_getD, List.getElem?_eq_getElem (by rw [← hr.size]; exact hin)]; rfl
      rw [List.map_append, List.map_cons] at ho
      have ho' := moveFront (P := P) (num := num) (F := F) (fun b hb => by
        obtain ⟨j, hj, rfl⟩ := List.mem_map.1 hb
        have hji : j < i := hsorted.2.2 j hj i (by simp)
        have haj : os[j]? = some (os.getD j default) := by
          rw [List.getD_eq_getElem?_getD, List.getElem?_eq_getElem (by rw [← hr.size]; omega)]; rfl
        rcases hr.free i _ hai j _ hji haj with hb | hb
        · exact absurd (by simp [hj]) (hanc j hb)
        · exact hb) ho
      obtain ⟨S1, m1, m2⟩ := ho'
      obtain ⟨o', k1, k2⟩ := hr.op i _ hai
      rw [h1] at k1
      injection k1 with k1
      subst k1
      have hnot : i ∉ L1 ++ L2 := by
        intro hm
        rcases List.mem_append.1 hm with hm | hm
        · have := hsorted.2.2 i hm i (by simp); omega
        · have := (List.pairwise_cons.1 hsorted.2.1).1 i hm; omega
      refine one_sem H k2 m1 i E w φ bs a _ Q h1 hs hd fun a' w' φ' bs' hs' hd' => ?_
      refine ih (R := L1 ++ L2) (by simp at hlen ⊢; omega) ⟨?_, fun k hk => hl.lt k ?_, by simp [hl.lsize], fun k hk => ?_, fun k o' ho' hk p hp => ?_⟩ (by rw [List.map_append]; exact m2) hs' hd'
      · exact hl.sorted.sublist (List.Sublist.append_left (List.sublist_cons_self _ _) _)
      · rcases List.mem_append.1 hk with hk | hk
        · simp [hk]
        · simp [hk]
      · rw [Array.getD_eq_getD_getElem?, Array.getElem?_setIfInBounds]
        by_cases hki : i = k
        · subst hki
          simp [hl.lsize, hin]
          simpa using hnot
        · rw [if_neg hki, ← Array.getD_eq_getD_getElem?, hl.listed k hk]
          simp only [List.mem_append, List.mem_cons, not_or]
          constructor
          · rintro ⟨q1, q2, q3⟩; exact ⟨q1, q3⟩
          · rintro ⟨q1, q3⟩; exact ⟨q1, fun e => hki e.symm, q3⟩
      · have hsub : ∀ x, x ∈ L1 ++ L2 → x ∈ L1 ++ i :: L2 := by
          intro x hx
          rcases List.mem_append.1 hx with hx | hx <;> simp [hx]
        by_cases hki : k = i
        · subst hki
          rw [h1] at ho'
          injection ho' with ho'
          subst ho'
          exact fun hm => hpre p hp (hsub p hm)
        · have hkR : k ∉ L1 ++ i :: L2 := by
            intro hm
            apply hk
            rcases List.mem_append.1 hm with hm | hm
            · simp [hm]
            · rcases List.mem_cons.1 hm with hm | hm
              · exact absurd hm hki
              · simp [hm]
          exact fun hm => hl.closed k o' ho' hkR p hp (hsub p hm)

theorem draw_sound (H : ∀ k fd, F k = some fd → ∃ fn c, FnHere P num k fd fn c) {ops : Array Oper} {os : List AO} (hal : ∀ (i : Nat) a, os[i]? = some a → ∃ o, ops[i]? = some o ∧ chkAO num P ops a o = true) (hsz : ops.size = os.length)
    (hdr : drawOk os ops.toList = true) (hm : P.follows .mixedOrders = true) {id : Nat} {S S' : St} (h : Ops1 P num F os S S') : CodeSem P (.region id ops true) S .normal S' := by
  intro E w φ bs a Q hs hd hQ
  refine wp_region_any hm ?_
  unfold drawOk at hdr
  simp only [Bool.and_eq_true] at hdr
  have hreg : Reg (P := P) (num := num) ops os (mkTab ops.toList []) := by
    refine ⟨hsz, hal, fun i o ho => ?_, fun i x hx j b hji hb => ?_⟩
    · have := chkTab_ hdr.1 i o (by simpa using ho)
      simpa using this
    · have := chkPairs_ (done := []) (i := 0) rfl hdr.2 i (fpOf x) (by simp [hx]) j (fpOf b) (by omega) (by simp [hb])
      simpa using this
  have hs' : SR E S a.tmps.toList { w with drawn := w.drawn + 1 } φ bs [] := by
    have := (Gr.drew w φ).sr hs hs.cnt (fun g hg => by cases hg)
    exact this
  refine any_sound H hreg hQ ops.size (R := List.range ops.size) (by simp) ⟨List.pairwise_lt_range, by simp, by simp, fun i hi => ?_, fun i o ho hi => ?_⟩ ?_ hs' hd
  · rw [Array.getD_eq_getD_getElem?]
    simp [hi]
  · exact absurd (List.mem_range.2 (Array.getElem?_eq_some_iff.1 ho).1) hi
  · have : (List.range ops.size).map (fun i => os.getD i default) = os := by
      apply List.ext_getElem?
      intro i
      rw [List.getElem?_map]
      by_cases hi : i < ops.size
      · rw [List.getElem?_range hi]
        simp only [Option.map_some]
        rw [List.getD_eq_getElem?_getD, List.getElem?_eq_getElem (by omega)]
        rfl
      · rw [List.getElem?_eq_none (by simp; omega), List.getElem?_eq_none (by omega)]; rfl
    rw [this]
    exact h
end
end Go.Proofs.Ytkiliooegoldoaa
