/- Code and functions: what the evaluator answers, the program answers. -/
import Derived.Test.YtkiliooegoldoaaDraw4
set_option linter.unusedVariables false
set_option linter.unusedSimpArgs false
namespace Go.Proofs.Ytkiliooegoldoaa
open Go

section
variable (P : Program) (num : Nat → FuncId)

def chkAOs (ops : Array Oper) : List AO → List Oper → Bool
  | [], [] => true
  | a :: as, o :: os => chkAO num P ops a o && chkAOs ops as os
  | _, _ => false

def chkCode : ACode → Code → Bool
  | .skip, .skip => true
  | .region os _, .region _ ops draw => chkAOs P num ops os ops.toList && (!draw || (P.follows .mixedOrders && drawOk os ops.toList))
  | .seq a b, .seq x y => chkCode a x && chkCode b y
  | .cond c a b, .cond c' x y => chkO c' c && chkCode a x && chkCode b y
  | .block id a, .block id' x => id == id' && chkCode a x
  | .loop a, .loop x => chkCode a x
  | .exit id, .exit id' => id == id'
  | .ret, .ret => true
  | .pre ps a, x => noRelev ps && chkCode a x
  | _, _ => false

structure FnOk (k : Nat) (fd : AFunc) (fn : Func) (c : Code) : Prop extends FnHere P num k fd fn c where
  ntmps : fn.ntmps = fd.ntmps
  res : chkRess P fn.results.toList fd.results fd.rk = true
  code : chkCode P num fd.body c = true

def chkFn (k : Nat) (fd : AFunc) : Bool :=
  match P.funcs[num k]? with
  | some fn => !(fn.name == "runtime.NumGoroutine") && fn.ntmps == fd.ntmps && chkRess P fn.results.toList fd.results fd.rk && (match fn.body with
    | some c => chkCode P num fd.body c
    | none => false)
  | none => false
theorem chkFn_ {k fd} (h : chkFn P num k fd = true) : ∃ fn c, FnOk P num k fd fn c := by
  unfold chkFn at h
  split at h
  · rename_i fn hfn
    simp only [Bool.and_eq_true, Bool.not_eq_true', beq_iff_eq] at h
    obtain ⟨⟨⟨h1, h2⟩, h3⟩, h4⟩ := h
    split at h4
    · rename_i c hc
      exact ⟨fn, c, ⟨hfn, h1, hc⟩, h2, h3, h4⟩
    · cases h4
  · cases h

def JobSem (F : Nat → Option AFunc) : Job → Prop
  | .code c S e S' => (∀ rc, chkCode P num c rc = true → CodeSem P rc S e S') ∧ ∀ rc' c', c = .loop c' → chkCode P num c' rc' = true → ∃ n, Rounds P rc' n S e S'
  | .ops os S S' => Ops1 P num F os S S'
  | .one a S S' => One1 P num F a S S'
  | .fn k args rs => ∀ fd, F k = some fd → FnSem P (num k) fd args rs
end

theorem chkAOs_len {P : Program} {num : Nat → FuncId} {ops : Array Oper} : ∀ {os : List AO} {l : List Oper}, chkAOs P num ops os l = true → l.length = os.length ∧ ∀ (i : Nat) a, os[i]? = some a → ∃ o, l[i]? = some o ∧ chkAO num P ops a o = true := by
  intro os
  induction os with
  | nil => intro l h; cases l <;> simp [chkAOs] at h; exact ⟨rfl, fun i a h => by simp at h⟩
  | cons a os ih =>
    intro l h
    cases l with
    | nil => simp [chkAOs] at h
    | cons o l =>
      simp only [chkAOs, Bool.and_eq_true] at h
      obtain ⟨h1, h2⟩ := ih h.2
      refine ⟨by simp [h1], fun i a' ha => ?_⟩
      cases i with
      | zero => simp at ha; subst ha; exact ⟨o, rfl, h.1⟩
      | succ i => exact h2 i a' (by simpa using ha)

theorem ops_nil {P : Program} {ops : Array Oper} {S : St} : OpsSem P ops [] S S := fun E w φ bs a Q hs hd hQ => hQ a w φ bs hs hd
theorem ops_cons {P : Program} {ops : Array Oper} {i : Nat} {is : List Nat} {o : Oper} {S S1 S2 : St} (hi : ops[i]? = some o) (h1 : OneSem P ops o S S1) (h2 : OpsSem P ops is S1 S2) : OpsSem P ops (i :: is) S S2 := by
  intro E w φ bs a Q hs hd hQ
  rw [wpOps_cons]
  exact h1 i E w φ bs a _ Q hi hs hd fun a' w' φ' bs' hs' hd' => h2 E w' φ' bs' a' Q hs' hd' hQ

theorem ops_sem {P : Program} {num : Nat → FuncId} {F : Nat → Option AFunc} (H : ∀ k fd, F k = some fd → ∃ fn c, FnHere P num k fd fn c) {ops : Array Oper} :
    ∀ {os : List AO} {n : Nat} {S S'}, (∀ (i : Nat) a, os[i]? = some a → ∃ o, ops[n + i]? = some o ∧ chkAO num P ops a o = true) → Ops1 P num F os S S' → OpsSem P ops (List.range' n os.length) S S' := by
  intro os
  induction os with
  | nil => intro n S S' _ h; rw [show S' = S from h]; exact ops_nil
  | cons a os ih =>
    intro n S S' hal h
    obtain ⟨S1, h1, h2⟩ := h
    obtain ⟨o, k1, k2⟩ := hal 0 a rfl
    exact ops_cons k1 (one_sem H k2 h1) (ih (fun i a ha => by rw [show n + 1 + i = n + (i + 1) from by omega]; exact hal (i + 1) a (by simpa using ha)) h2)

theorem fn_sound {P : Program} {num : Nat → FuncId} {k fd fn c args rs S e S'} (ok : FnOk P num k fd fn c) (h1 : entry fd args = some S) (h2 : CodeSem P c S e S') (he : e.leaves = true) (h3 : outs S' fd.results fd.rk = some rs) :
    FnSem P (num k) fd args rs := by
  intro w φ vals hA
  obtain ⟨hle, hs⟩ := entry_sound h1 hA
  refine calls_of_wp ok.here ok.body ?_
  rw [ok.ntmps]
  refine h2 (env0 w φ) w φ [] _ _ (by simpa using hs) rfl fun a' w' φ' bs' hs' hd' => ?_
  obtain ⟨hgr, v, hv, hret⟩ := exit_sound hs' ok.res h3
  cases e with
  | exit id => cases he
  | normal => exact ⟨hd', v, hv, v, rfl, φ', hgr, hret⟩
  | ret => exact ⟨hd', v, hv, v, rfl, φ', hgr, hret⟩

theorem region_sem {P : Program} {num : Nat → FuncId} {F : Nat → Option AFunc} (H : ∀ k fd, F k = some fd → ∃ fn c, FnHere P num k fd fn c) {os : List AO} {id : Nat} {ops : Array Oper} {draw : Bool} {S S' : St}
    (hc : chkAOs P num ops os ops.toList = true) (hd : draw = false ∨ (P.follows .mixedOrders = true ∧ drawOk os ops.toList = true)) (h : Ops1 P num F os S S') : CodeSem P (.region id ops draw) S .normal S' := by
  obtain ⟨h1, h2⟩ := chkAOs_len hc
  rw [Array.length_toList] at h1
  have hal : ∀ (i : Nat) a, os[i]? = some a → ∃ o, ops[i]? = some o ∧ chkAO num P ops a o = true := fun i a ha => by
    obtain ⟨o, k1, k2⟩ := h2 i a ha
    exact ⟨o, by rw [← Array.getElem?_toList]; exact k1, k2⟩
  cases draw with
  | false =>
    intro E w φ bs a Q hs hdf hQ
    refine wp_region ?_
    have := ops_sem H (n := 0) (fun i a ha => by rw [Nat.zero_add]; exact hal i a ha) h
    rw [List.range_eq_range', h1]
    exact this E w φ bs a Q hs hdf hQ
  | true =>
    obtain ⟨hm, hdr⟩ := hd.resolve_left (by simp)
    exact draw_sound H hal h1 hdr hm h

theorem big_sound {P : Program} {num : Nat → FuncId} {F : Nat → Option AFunc} (H : ∀ k fd, F k = some fd → ∃ fn c, FnOk P num k fd fn c) {j : Job} (h : Big F j) : JobSem P num F j := by
  have H' : ∀ k fd, F k = some fd → ∃ fn c, FnHere P num k fd fn c := fun k fd hF => by
    obtain ⟨fn, c, ok⟩ := H k fd hF
    exact ⟨fn, c, ok.toFnHere⟩
  induction h with
  | skip S =>
    refine ⟨fun rc hc => ?_, fun rc' c' e _ => by cases e⟩
    cases rc <;> simp [chkCode] at hc
    exact fun E w φ bs a Q hs hd hQ => wp_skip (hQ a w φ bs hs hd)
  | exit id S =>
    refine ⟨fun rc hc => ?_, fun rc' c' e _ => by cases e⟩
    cases rc <;> simp [chkCode] at hc
    subst hc
    exact fun E w φ bs a Q hs hd hQ => wp_exit (hQ a w φ bs hs hd)
  | ret S =>
    refine ⟨fun rc hc => ?_, fun rc' c' e _ => by cases e⟩
    cases rc <;> simp [chkCode] at hc
    exact fun E w φ bs a Q hs hd hQ => wp_ret (hQ a w φ bs hs hd)
  | @region os ks S S' _ ih =>
    refine ⟨fun rc hc => ?_, fun rc' c' e _ => by cases e⟩
    cases rc with
    | region id ops draw =>
      simp only [chkCode, Bool.and_eq_true, Bool.or_eq_true, Bool.not_eq_true'] at hc
      have hsem := region_sem (id := id) H' hc.1 hc.2 ih
      intro E w φ bs a Q hs hd hQ
      refine hsem E w φ bs a Q hs hd fun a' w' φ' bs' hs' hd' => ?_
      obtain ⟨b2, k⟩ := killSlots_sound (ts := ks) hs'
      exact hQ a' w' φ' b2 k hd'
    | _ => simp [chkCode] at hc
  | seqN _ _ ih1 ih2 =>
    refine ⟨fun rc hc => ?_, fun rc' c' e _ => by cases e⟩
    cases rc with
    | seq x y =>
      simp only [chkCode, Bool.and_eq_true] at hc
      exact sem_seqN (ih1.1 x hc.1) (ih2.1 y hc.2)
    | _ => simp [chkCode] at hc
  | seqE _ hne ih1 =>
    refine ⟨fun rc hc => ?_, fun rc' c' e _ => by cases e⟩
    cases rc with
    | seq x y =>
      simp only [chkCode, Bool.and_eq_true] at hc
      exact sem_seqE (ih1.1 x hc.1) hne
    | _ => simp [chkCode] at hc
  | @cond c a b S l t e S' hb _ ih =>
    refine ⟨fun rc hc => ?_, fun rc' c' e _ => by cases e⟩
    cases rc with
    | cond c' x y =>
      simp only [chkCode, Bool.and_eq_true] at hc
      exact sem_cond hc.1.1 hb (ih.1 _ (by cases t <;> simp [hc.1.2, hc.2]))
    | _ => simp [chkCode] at hc
  | block _ ih =>
    refine ⟨fun rc hc => ?_, fun rc' c' e _ => by cases e⟩
    cases rc with
    | block id' x =>
      simp only [chkCode, Bool.and_eq_true, beq_iff_eq] at hc
      obtain ⟨rfl, hc⟩ := hc
      exact sem_block (ih.1 x hc)
    | _ => simp [chkCode] at hc
  | @loopN a S S1 e S2 _ _ ih1 ih2 =>
    have key : ∀ rc', chkCode P num a rc' = true → ∃ n, Rounds P rc' n S e S2 := by
      intro rc' hc
      obtain ⟨n, hn⟩ := ih2.2 rc' a rfl hc
      exact ⟨n + 1, S1, ih1.1 rc' hc, hn⟩
    refine ⟨fun rc hc => ?_, fun rc' c' e hc => by injection e with e; subst e; exact key rc' hc⟩
    cases rc with
    | loop x =>
      obtain ⟨n, hn⟩ := key x (by simpa [chkCode] using hc)
      exact rounds_sem hn
    | _ => simp [chkCode] at hc
  | @loopE a S e S1 _ hne ih1 =>
    have key : ∀ rc', chkCode P num a rc' = true → ∃ n, Rounds P rc' n S e S1 := fun rc' hc => ⟨0, hne, ih1.1 rc' hc⟩
    refine ⟨fun rc hc => ?_, fun rc' c' e hc => by injection e with e; subst e; exact key rc' hc⟩
    cases rc with
    | loop x =>
      obtain ⟨n, hn⟩ := key x (by simpa [chkCode] using hc)
      exact rounds_sem hn
    | _ => simp [chkCode] at hc
  | @pre ps a S S1 e S2 hp _ ih =>
    refine ⟨fun rc hc => ?_, fun rc' c' e _ => by cases e⟩
    have hc' : noRelev ps = true ∧ chkCode P num a rc = true := by
      cases rc <;> simpa [chkCode] using hc
    intro E w φ bs x Q hs hd hQ
    obtain ⟨b1, k⟩ := pseudo_sound hc'.1 hs hp
    exact ih.1 rc hc'.2 E w φ b1 x Q k hd hQ
  | nil S => exact rfl
  | cons _ _ ih1 ih2 => exact ⟨_, ih1, ih2⟩
  | not h1 h2 => exact .inl ⟨h1, h2⟩
  | step h1 h2 => exact .inr (.inl ⟨h1, h2⟩)
  | @call ao S S' k as args fd rs tv h1 hop h2 hF h3 _ h4 h5 ih => exact .inr (.inr ⟨k, as, args, fd, rs, tv, h1, hop, h2, hF, h3, ih fd hF, h4, h5⟩)
  | @fn k fd args rs S e S' hF h1 _ he h2 ih =>
    intro fd' hF'
    rw [hF] at hF'
    injection hF' with hF'
    subst hF'
    obtain ⟨fn, c, ok⟩ := H k fd hF
    exact fn_sound ok h1 (ih.1 c ok.code) he h2

end Go.Proofs.Ytkiliooegoldoaa
