/- Code as a decision tree: the tree's meaning is the code's. -/
import Derived.Test.YtkiliooegoldoaaSy4
set_option linter.unusedVariables false
set_option linter.unusedSimpArgs false
namespace Go.Proofs.Ytkiliooegoldoaa
open Go

abbrev Hint := Nat → List (List Bool)
def total : List (List Bool) → Nat
  | [] => 0
  | f :: fs => f.length + total fs

def hof : List (Nat × List (List Bool)) → Hint
  | [], _ => []
  | (k, v) :: l, d => if Nat.beq k d then v else hof l d
/- Short words of the printed trees. -/
abbrev vf (i : Nat) : At := .v i true
abbrev vs (i : Nat) : At := .v i false

section
variable (F : Nat → Option AFunc) (hint : Hint)
def compAct (o : AO) (n : Nat) (S : SSt) (k : Nat → SSt → Option Tr) : Option Tr :=
  match o.op with
  | .call f as => match o.dst with
    | none => none
    | some d => (sargs n S [] as).bind fun x => (F f).bind fun fd =>
      if letsOk n x.2 && x.1.map (·.1) == fd.params then
        (sresAll (n + x.2.length) fd.rk (hint d)).bind fun tv => (sput false S (some d) tv).bind fun S' =>
          let n' := n + x.2.length + total (hint d)
          if S'.lt n' then (k n' S').map fun t => lets x.2 (.call f (x.1.map (·.2)) (hint d) t) else none
      else none
  | op => (sstep n S o.dst ((hint (o.dst.getD 0)).headD []) op).bind fun x =>
      let n' := n + x.2.length
      if letsOk n x.2 && x.1.lt n' then (k n' x.1).map (lets x.2) else none
def compNot (o : AO) (n : Nat) (S : SSt) (k : Nat → SSt → Option Tr) : Option Tr :=
  (sput false S o.dst .undef).bind fun S' => if S'.lt n then k n S' else none
def compOne (o : AO) (n : Nat) (S : SSt) (k : Nat → SSt → Option Tr) : Option Tr :=
  match sguard S o.guard with
  | some .yes => compAct F hint o n S k
  | some .no => compNot o n S k
  | some (.dyn i fl want) =>
    let St := S.subst i fl want
    let Sf := S.subst i fl (!want)
    if St.lt n && Sf.lt n then
      (compAct F hint o n St k).bind fun t => (compNot o n Sf k).map fun e => if want then .ite (.v i fl) t e else .ite (.v i fl) e t
    else none
  | none => none
def compOps : List AO → Nat → SSt → (Nat → SSt → Option Tr) → Option Tr
  | [], n, S, k => k n S
  | o :: os, n, S, k => compOne F hint o n S fun n S => compOps os n S k
def comp : ACode → Nat → Nat → SSt → (AExit → Nat → SSt → Option Tr) → Option Tr
  | .skip, L, n, S, k => k .normal n S
  | .region os ks, L, n, S, k => compOps F hint os n S fun n S =>
      let S' := skillSlots S ks
      if S'.lt n then k .normal n S' else none
  | .seq a b, L, n, S, k => comp a L n S fun e n S => match e with
    | .normal => comp b L n S k
    | .exit id => k (.exit id) n S
    | .ret => k .ret n S
  | .cond c a b, L, n, S, k => (sbOne n S [] c).bind fun x => match x.2, x.1.2 with
    | [], .c (.bool t) => if t then comp a L n S k else comp b L n S k
    | [], .v i fl =>
      let St := S.subst i fl true
      let Sf := S.subst i fl false
      if St.lt n && Sf.lt n then
        (comp a L n St k).bind fun t => (comp b L n Sf k).map fun e => .ite (.v i fl) t e
      else none
    | _, _ => none
  | .block id a, L, n, S, k => comp a L n S fun e n S => k (e.out id) n S
  | .exit id, L, n, S, k => k (.exit id) n S
  | .ret, L, n, S, k => k .ret n S
  | .pre ps a, L, n, S, k => (spseudo S ps).bind fun S' => if S'.lt n then comp a L n S' k else none
  | .loop a, L, n, S, k =>
    let h := genS (dsts a) (stores a) n 0 S
    if SSt.same (SSt.inst n h.2 h.1) S && h.1.lt (n + h.2.length) then
      (comp a (L + 1) (n + h.2.length) h.1 fun e n' S' => match e with
        | .normal =>
          let as := fitS n h.1 S'
          if SSt.same (SSt.inst n as h.1) S' && as.map At.fl == h.2.map At.fl then some (.again L as) else none
        | .exit id => k (.exit id) n' S'
        | .ret => k .ret n' S').map fun t => .loop L h.2 t
    else none
end

section
variable {F : Nat → Option AFunc} {hint : Hint} {Q : List (List PV) → Prop}

def Ext (env env' : List PV) : Prop := ∃ ys, env' = env ++ ys
theorem Ext.refl {env} : Ext env env := ⟨[], by simp⟩
theorem Ext.trans {a b c} (h1 : Ext a b) (h2 : Ext b c) : Ext a c := by
  obtain ⟨x, rfl⟩ := h1
  obtain ⟨y, rfl⟩ := h2
  exact ⟨x ++ y, by simp⟩
theorem Ext.app {a b} : Ext a (a ++ b) := ⟨b, rfl⟩

abbrev QS := Nat → List PV → Prop
def AgreeQ (L : Nat) (Qs Qs' : QS) : Prop := ∀ i, i < L → Qs' i = Qs i
theorem AgreeQ.refl {L Qs} : AgreeQ L Qs Qs := fun _ _ => rfl
theorem AgreeQ.trans {L a b c} (h1 : AgreeQ L a b) (h2 : AgreeQ L b c) : AgreeQ L a c := fun i hi => (h2 i hi).trans (h1 i hi)

/-- What is behind is right for P. -/
def KO (F : Nat → Option AFunc) (Q : List (List PV) → Prop) (k : Nat → SSt → Option Tr) (L : Nat) (env : List PV) (Qs : QS) (P : St → Prop) : Prop :=
  ∀ n S T env' Qs', k n S = some T → env'.length = n → S.lt n = true → Ext env env' → AgreeQ L Qs Qs' → wp F Q T Qs' env' → P (SSt.den env' S)
def KS (F : Nat → Option AFunc) (Q : List (List PV) → Prop) (k : AExit → Nat → SSt → Option Tr) (L : Nat) (env : List PV) (Qs : QS) (P : AExit → St → Prop) : Prop :=
  ∀ e n S T env' Qs', k e n S = some T → env'.length = n → S.lt n = true → Ext env env' → AgreeQ L Qs Qs' → wp F Q T Qs' env' → P e (SSt.den env' S)
theorem KO.ext {k L env Qs P env' Qs'} (h : KO F Q k L env Qs P) (he : Ext env env') (ha : AgreeQ L Qs Qs') : KO F Q k L env' Qs' P :=
  fun n S T e2 q2 hk hn hl h1 h2 hw => h n S T e2 q2 hk hn hl (he.trans h1) (ha.trans h2) hw
theorem KS.ext {k L env Qs P env' Qs'} (h : KS F Q k L env Qs P) (he : Ext env env') (ha : AgreeQ L Qs Qs') : KS F Q k L env' Qs' P :=
  fun e n S T e2 q2 hk hn hl h1 h2 hw => h e n S T e2 q2 hk hn hl (he.trans h1) (ha.trans h2) hw

theorem total_flat : ∀ {rs : List (List PV)} {fls : List (List Bool)}, rs.map (fun r => r.map PV.flat) = fls → rs.flatten.length = total fls := by
  intro rs
  induction rs with
  | nil => intro fls h; subst h; rfl
  | cons r rs ih => intro fls h; subst h; simp [total, ih rfl]

theorem compStep_sound {o : AO} {n S k T env L Qs P} (hg : guardOf (SSt.den env S) o.guard = some true)
    (hc : ((sstep n S o.dst ((hint (o.dst.getD 0)).headD []) o.op).bind fun x => if letsOk n x.2 && x.1.lt (n + x.2.length) then (k (n + x.2.length) x.1).map (lets x.2) else none) = some T)
    (hn : env.length = n) (hl : S.lt n = true) (hk : KO F Q k L env Qs P) (hw : wp F Q T Qs env) :
    ∃ S', Big F (.one o (SSt.den env S) S') ∧ P S' := by
  simp only [Option.bind_eq_some_iff] at hc
  obtain ⟨⟨S1, X⟩, h1, hc⟩ := hc
  split at hc
  · rename_i hok
    simp only [Bool.and_eq_true] at hok
    simp only [Option.map_eq_some_iff] at hc
    obtain ⟨t, h2, rfl⟩ := hc
    subst hn
    obtain ⟨vs, k1, k2, k3⟩ := lets_wp hok.1 hw
    have hst := sstep_den h1 k2
    rw [SSt.ext hl] at hst
    refine ⟨SSt.den (env ++ vs) S1, .step hg hst, ?_⟩
    exact hk _ _ _ _ _ h2 (by simp [k1]) hok.2 Ext.app AgreeQ.refl k3
  · cases hc

theorem compAct_sound {o : AO} {n S k T env L Qs P} (hg : guardOf (SSt.den env S) o.guard = some true) (hc : compAct F hint o n S k = some T)
    (hn : env.length = n) (hl : S.lt n = true) (hk : KO F Q k L env Qs P) (hw : wp F Q T Qs env) :
    ∃ S', Big F (.one o (SSt.den env S) S') ∧ P S' := by
  unfold compAct at hc
  split at hc
  · rename_i f as hop
    split at hc
    · cases hc
    · rename_i d hd
      simp only [Option.bind_eq_some_iff] at hc
      obtain ⟨⟨args, X⟩, h1, fd, h2, hc⟩ := hc
      split at hc
      · rename_i hok
        simp only [Bool.and_eq_true, beq_iff_eq] at hok
        simp only [Option.bind_eq_some_iff] at hc
        obtain ⟨tv, h3, S1, h4, hc⟩ := hc
        split at hc
        · rename_i hlt
          simp only [Option.map_eq_some_iff] at hc
          obtain ⟨t, h5, rfl⟩ := hc
          subst hn
          obtain ⟨vs, k1, k2, k3⟩ := lets_wp hok.1 hw
          obtain ⟨rs, b1, b2, b3⟩ := k3
          obtain ⟨a1, _⟩ := sargs_den h1 k2
          rw [SSt.ext hl] at a1
          have hlen : (env ++ vs).length = env.length + X.length := by simp [k1]
          have hres := sresAll_den (ks := fd.rk) (rs := rs) (env := env ++ vs) (tv := tv) (by rw [b2, hlen]; exact h3)
          have hput := sput_den (env := env ++ vs ++ rs.flatten) h4
          have hS : SSt.den (env ++ vs ++ rs.flatten) S = SSt.den env S := by rw [List.append_assoc, SSt.ext hl]
          rw [hS] at hput
          refine ⟨SSt.den (env ++ vs ++ rs.flatten) S1, ?_, ?_⟩
          · refine Big.call (args := args.map fun x => (x.1, x.2.map (At.den (env ++ vs)))) hg hop a1 h2 ?_ ?_ hres (by rw [hd]; exact hput)
            · rw [← hok.2]; simp [Function.comp_def]
            · simpa [Function.comp_def] using b1
          · refine hk _ _ _ _ _ h5 ?_ hlt ((Ext.app (b := vs)).trans Ext.app) AgreeQ.refl b3
            rw [List.length_append, hlen, total_flat b2]
        · cases hc
      · cases hc
  · exact compStep_sound hg hc hn hl hk hw

theorem compNot_sound {o : AO} {n S k T env L Qs P} (hg : guardOf (SSt.den env S) o.guard = some false) (hc : compNot o n S k = some T)
    (hn : env.length = n) (hl : S.lt n = true) (hk : KO F Q k L env Qs P) (hw : wp F Q T Qs env) :
    ∃ S', Big F (.one o (SSt.den env S) S') ∧ P S' := by
  simp only [compNot, Option.bind_eq_some_iff] at hc
  obtain ⟨S1, h1, hc⟩ := hc
  split at hc
  · rename_i hlt
    exact ⟨SSt.den env S1, .not hg (sput_den (v := .undef) h1), hk _ _ _ _ _ hc hn hlt Ext.refl AgreeQ.refl hw⟩
  · cases hc

theorem compOne_sound {o : AO} {n S k T env L Qs P} (hc : compOne F hint o n S k = some T)
    (hn : env.length = n) (hl : S.lt n = true) (hk : KO F Q k L env Qs P) (hw : wp F Q T Qs env) :
    ∃ S', Big F (.one o (SSt.den env S) S') ∧ P S' := by
  unfold compOne at hc
  split at hc
  · rename_i hg; exact compAct_sound (sguard_den hg) hc hn hl hk hw
  · rename_i hg; exact compNot_sound (sguard_den hg) hc hn hl hk hw
  · rename_i i fl want hg
    have hm := sguard_den (env := env) hg
    simp only at hc
    split at hc
    · rename_i hlt
      simp only [Bool.and_eq_true] at hlt
      simp only [Option.bind_eq_some_iff, Option.map_eq_some_iff] at hc
      obtain ⟨t, h1, e, h2, rfl⟩ := hc
      have hw' : ∃ b, (At.v i fl).den env = .bool b ∧ if b = want then wp F Q t Qs env else wp F Q e Qs env := by
        cases want
        · obtain ⟨b, hb, h⟩ := hw
          refine ⟨b, hb, ?_⟩
          cases b <;> simpa using h
        · exact hw
      obtain ⟨b, hb, hw'⟩ := hw'
      have hgd := hm b hb
      by_cases hbw : b = want
      · subst hbw
        rw [if_pos rfl] at hw'
        have := compAct_sound (o := o) (S := S.subst i fl b) (by rw [SSt.subst_den hb]; simpa using hgd) h1 hn hlt.1 hk hw'
        rwa [SSt.subst_den hb] at this
      · rw [if_neg hbw] at hw'
        have hbn : b = !want := by cases b <;> cases want <;> simp_all
        subst hbn
        have := compNot_sound (o := o) (S := S.subst i fl (!want)) (by rw [SSt.subst_den hb, hgd]; cases want <;> rfl) h2 hn hlt.2 hk hw'
        rwa [SSt.subst_den hb] at this
    · cases hc
  · cases hc

theorem compOps_sound : ∀ {os : List AO} {n S k T env L Qs P}, compOps F hint os n S k = some T → env.length = n → S.lt n = true → KO F Q k L env Qs P → wp F Q T Qs env → Wo F os (SSt.den env S) P := by
  intro os
  induction os with
  | nil => intro n S k T env L Qs P hc hn hl hk hw; exact Wo.nil (hk _ _ _ _ _ hc hn hl Ext.refl AgreeQ.refl hw)
  | cons o os ih =>
    intro n S k T env L Qs P hc hn hl hk hw
    obtain ⟨S1, h1, S2, h2, h3⟩ := compOne_sound (P := fun S => Wo F os S P) (L := L) hc hn hl
      (fun n' S' T' env' Qs' hk' hn' hl' he ha hw' => ih hk' hn' hl' (hk.ext he ha) hw') hw
    exact ⟨S2, .cons h1 h2, h3⟩

theorem comp_sound : ∀ {c : ACode} {L n S k T env Qs P}, comp F hint c L n S k = some T → env.length = n → S.lt n = true → KS F Q k L env Qs P → wp F Q T Qs env → Wc F c (SSt.den env S) P := by
  intro c
  induction c with
  | skip => intro L n S k T env Qs P hc hn hl hk hw; exact Wc.skip (hk _ _ _ _ _ _ hc hn hl Ext.refl AgreeQ.refl hw)
  | region os ks =>
    intro L n S k T env Qs P hc hn hl hk hw
    refine Wc.region (compOps_sound (L := L) hc hn hl ?_ hw)
    intro n' S' T' env' Qs' hc' hn' hl' he ha hw'
    simp only at hc'
    split at hc'
    · rename_i hlt
      rw [← skillSlots_den]
      exact hk _ _ _ _ _ _ hc' hn' hlt he ha hw'
    · cases hc'
  | seq a b iha ihb =>
    intro L n S k T env Qs P hc hn hl hk hw
    refine Wc.seq (iha (L := L) hc hn hl ?_ hw)
    intro e n' S' T' env' Qs' hc' hn' hl' he ha hw'
    cases e with
    | normal => exact ihb hc' hn' hl' (hk.ext he ha) hw'
    | exit id => exact hk _ _ _ _ _ _ hc' hn' hl' he ha hw'
    | ret => exact hk _ _ _ _ _ _ hc' hn' hl' he ha hw'
  | cond c a b iha ihb =>
    intro L n S k T env Qs P hc hn hl hk hw
    simp only [comp, Option.bind_eq_some_iff] at hc
    obtain ⟨⟨⟨l, x⟩, X⟩, h1, hc⟩ := hc
    split at hc
    · rename_i t hX hx
      simp only at hX hx
      subst hX hx
      obtain ⟨h2, _⟩ := sbOne_den (env := env) h1 Sat.nil
      refine Wc.cond h2 ?_
      cases t
      · exact ihb hc hn hl hk hw
      · exact iha hc hn hl hk hw
    · rename_i i fl hX hx
      simp only at hX hx
      subst hX hx
      obtain ⟨h2, _⟩ := sbOne_den (env := env) h1 Sat.nil
      split at hc
      · rename_i hlt
        simp only [Bool.and_eq_true] at hlt
        simp only [Option.bind_eq_some_iff, Option.map_eq_some_iff] at hc
        obtain ⟨t, h3, e, h4, rfl⟩ := hc
        obtain ⟨b, hb, hw⟩ := hw
        simp only [dLA, hb] at h2
        refine Wc.cond h2 ?_
        cases b
        · have := ihb h4 hn hlt.2 hk hw
          rwa [SSt.subst_den hb] at this
        · have := iha h3 hn hlt.1 hk hw
          rwa [SSt.subst_den hb] at this
      · cases hc
    · cases hc
  | block id a iha =>
    intro L n S k T env Qs P hc hn hl hk hw
    refine Wc.block (iha (L := L) hc hn hl ?_ hw)
    intro e n' S' T' env' Qs' hc' hn' hl' he ha hw'
    exact hk _ _ _ _ _ _ hc' hn' hl' he ha hw'
  | loop a iha =>
    intro L n S k T env Qs P hc hn hl hk hw
    simp only [comp] at hc
    split at hc
    · rename_i hok
      simp only [Bool.and_eq_true] at hok
      simp only [Option.map_eq_some_iff] at hc
      obtain ⟨t, h1, rfl⟩ := hc
      obtain ⟨Inv, ⟨m0, hi0⟩, hstep⟩ := hw
      subst hn
      generalize hh : genS (dsts a) (stores a) env.length 0 S = h at *
      have hS : SSt.den env S = SSt.den (env ++ h.2.map (At.den env)) h.1 := by
        have := SSt.inst_den (env := env) (ext := []) (as := h.2) h.1
        rw [List.append_nil] at this
        rw [← this, SSt.same_ hok.1]
      have hfl0 : (h.2.map (At.den env)).map PV.flat = h.2.map At.fl := by simp [Function.comp_def, At.den_flat]
      rw [hS]
      refine Wc.loop (fun m st => ∃ vs, vs.map PV.flat = h.2.map At.fl ∧ Inv m vs ∧ st = SSt.den (env ++ vs) h.1) ?_ (n := m0) ⟨_, hfl0, hi0, rfl⟩
      rintro m st ⟨vs, hfl, hi, rfl⟩
      have hvl : vs.length = h.2.length := by have := congrArg List.length hfl; simpa using this
      refine iha (L := L + 1) h1 (by simp [hvl]) hok.2 ?_ (hstep m vs hfl hi)
      intro e n' S' T' env' Qs' hc' hn' hl' he ha hw'
      have hQ : AgreeQ L Qs Qs' := fun i hi => by
        rw [ha i (by omega)]
        simp only [updQ]
        rw [if_neg (by omega)]
      cases e with
      | normal =>
        simp only at hc'
        split at hc'
        · rename_i hs
          simp only [Bool.and_eq_true, beq_iff_eq] at hs
          simp only [Option.some.injEq] at hc'
          subst hc'
          have hw2 : Qs' L ((fitS env.length h.1 S').map (At.den env')) := hw'
          rw [ha L (by omega)] at hw2
          simp only [updQ, if_true] at hw2
          obtain ⟨m', hm', hi'⟩ := hw2
          refine ⟨m', hm', _, ?_, hi', ?_⟩
          · rw [← hs.2]; simp [Function.comp_def, At.den_flat]
          · obtain ⟨ys, rfl⟩ := he
            have := SSt.inst_den (env := env) (ext := vs ++ ys) (as := fitS env.length h.1 S') h.1
            rw [SSt.same_ hs.1] at this
            simp only [List.append_assoc] at this ⊢
            exact this
        · cases hc'
      | exit id => exact hk _ _ _ _ _ _ hc' hn' hl' (Ext.app.trans he) hQ hw'
      | ret => exact hk _ _ _ _ _ _ hc' hn' hl' (Ext.app.trans he) hQ hw'
    · cases hc
  | exit id => intro L n S k T env Qs P hc hn hl hk hw; exact Wc.exit (hk _ _ _ _ _ _ hc hn hl Ext.refl AgreeQ.refl hw)
  | ret => intro L n S k T env Qs P hc hn hl hk hw; exact Wc.ret (hk _ _ _ _ _ _ hc hn hl Ext.refl AgreeQ.refl hw)
  | pre ps a iha =>
    intro L n S k T env Qs P hc hn hl hk hw
    simp only [comp, Option.bind_eq_some_iff] at hc
    obtain ⟨S1, h1, hc⟩ := hc
    split at hc
    · rename_i hlt
      exact Wc.pre (spseudo_den h1) (iha hc hn hlt hk hw)
    · cases hc

/-! ### Functions -/
def sparTV (n : Nat) (agg : Bool) (fl : List Bool) : Option STV :=
  if agg then some (.agg ((fresh n fl).map fun a => .val (borL' .old a.fl) a)) else match fl with
    | [fl] => some (.one (.val (borL' .old fl) (.v n fl)))
    | _ => none
def sparTVs (n : Nat) : List Bool → List (List Bool) → Option SSt
  | [], [] => some []
  | b :: bs, f :: fs => (sparTV n b f).bind fun t => (sparTVs (n + f.length) bs fs).map fun l => t :: l
  | _, _ => none
def sentry (fd : AFunc) (fs : List (List Bool)) : Option SSt :=
  (sparTVs 0 fd.params fs).bind fun l => if l.length ≤ fd.ntmps then some (l ++ List.replicate (fd.ntmps - l.length) .undef) else none
theorem sparTV_den {b : Bool} {ps env rest : List PV} {t} (h : sparTV env.length b (ps.map PV.flat) = some t) : parTV b ps = some (t.den (env ++ (ps ++ rest))) := by
  unfold sparTV at h
  unfold parTV
  cases b with
  | true =>
    simp only [if_true, Option.some.injEq] at h ⊢
    subst h
    simp only [STV.den, List.map_map, Function.comp_def, SCell.den]
    congr 1
    have h3 := fresh_den (ps := ps) (env := env) (rest := rest)
    have h4 : ps.map (fun p => Cell.val (borL .old p) p) = ((fresh env.length (ps.map PV.flat)).map (At.den (env ++ (ps ++ rest)))).map (fun p => Cell.val (borL .old p) p) := by rw [h3]
    rw [h4, List.map_map]
    refine List.map_congr_left fun a _ => ?_
    simp only [Function.comp_def, borL'_eq, At.den_flat]
  | false =>
    match ps with
    | [p] =>
      simp only [List.map_cons, List.map_nil, Bool.false_eq_true, if_false, Option.some.injEq] at h ⊢
      subst h
      have h3 := fresh_den (ps := [p]) (env := env) (rest := rest)
      simp only [List.map_cons, List.map_nil, fresh, List.cons.injEq, and_true] at h3
      simp only [STV.den, SCell.den, borL'_eq, h3]
    | [] => simp at h
    | _ :: _ :: _ => simp at h
theorem sparTVs_den : ∀ {bs : List Bool} {args : List (List PV)} {env rest : List PV} {l}, sparTVs env.length bs (args.map fun r => r.map PV.flat) = some l →
    parTVs bs args = some (SSt.den (env ++ (args.flatten ++ rest)) l) := by
  intro bs
  induction bs with
  | nil =>
    intro args env rest l h
    cases args <;> simp [sparTVs] at h
    subst h; rfl
  | cons b bs ih =>
    intro args env rest l h
    cases args with
    | nil => simp [sparTVs] at h
    | cons a args =>
      simp only [List.map_cons, sparTVs, Option.bind_eq_some_iff, Option.map_eq_some_iff] at h
      obtain ⟨t, h1, l', h2, rfl⟩ := h
      have h3 := ih (env := env ++ a) (rest := rest) (by simpa using h2)
      have h4 := sparTV_den (rest := args.flatten ++ rest) h1
      simp only [List.append_assoc] at h3
      simp only [parTVs, h4, Option.bind_some, h3, Option.map_some, List.flatten_cons, List.append_assoc, SSt.den, List.map_cons]

def soutCell (want : Lev) : SCell → Option At
  | .val l a => if a.fl || want == .bor || (want == .deep && l == .deep) || (want == .borR && isOwn l) then some a else none
  | _ => none
def soutCells (want : Lev) : List SCell → Option (List At)
  | [] => some []
  | c :: cs => (soutCell want c).bind fun p => (soutCells want cs).map fun l => p :: l
theorem soutCells_den {env want} : ∀ {cs : List SCell} {as}, soutCells want cs = some as → outCells want (cs.map (SCell.den env)) = some (as.map (At.den env)) := by
  intro cs
  induction cs with
  | nil => intro as h; simp [soutCells] at h; subst h; rfl
  | cons c cs ih =>
    intro as h
    simp only [soutCells, Option.bind_eq_some_iff, Option.map_eq_some_iff] at h
    obtain ⟨a, h1, as', h2, rfl⟩ := h
    cases c with
    | val l a' =>
      simp only [soutCell] at h1
      split at h1
      · rename_i hc
        simp only [Option.some.injEq] at h1
        subst h1
        have : outCell want ((SCell.val l a').den env) = some (a'.den env) := by
          simp only [outCell, SCell.den, okRes, At.den_flat]
          rw [if_pos hc]
        simp only [List.map_cons, outCells, this, Option.bind_some, ih h2, Option.map_some]
      · cases h1
    | _ => simp [soutCell] at h1
def soutTV (S : SSt) (r : Nat × Option Nat) (k : Bool × Lev) : Option (List At) :=
  match r.2, S.g r.1 with
  | none, .one c => if k.1 then none else soutCells k.2 [c]
  | none, .agg cs => if k.1 then soutCells k.2 cs else none
  | some n, .box cs => if cs.length = n ∧ (k.1 = true ∨ n = 1) then soutCells k.2 cs else none
  | _, _ => none
theorem soutTV_den {env S r k as} (h : soutTV S r k = some as) : outTV (SSt.den env S) r k = some (as.map (At.den env)) := by
  unfold soutTV at h
  unfold outTV
  rw [SSt.g_den]
  split at h
  · rename_i c h1 h2
    rw [h1, h2]
    simp only [STV.den]
    split at h
    · cases h
    · rename_i hk; rw [if_neg hk]; exact soutCells_den (cs := [c]) h
  · rename_i cs h1 h2
    rw [h1, h2]
    simp only [STV.den]
    split at h
    · rename_i hk; rw [if_pos hk]; exact soutCells_den h
    · cases h
  · rename_i n cs h1 h2
    rw [h1, h2]
    simp only [STV.den, List.length_map]
    split at h
    · rename_i hk; rw [if_pos hk]; exact soutCells_den h
    · cases h
  · cases h
def souts (S : SSt) : List (Nat × Option Nat) → List (Bool × Lev) → Option (List (List At))
  | [], [] => some []
  | r :: rs, k :: ks => (soutTV S r k).bind fun p => (souts S rs ks).map fun l => p :: l
  | _, _ => none
theorem souts_den {env S} : ∀ {rs ks as}, souts S rs ks = some as → outs (SSt.den env S) rs ks = some (as.map fun r => r.map (At.den env)) := by
  intro rs
  induction rs with
  | nil => intro ks as h; cases ks <;> simp [souts] at h; subst h; rfl
  | cons r rs ih =>
    intro ks as h
    cases ks with
    | nil => simp [souts] at h
    | cons k ks =>
      simp only [souts, Option.bind_eq_some_iff, Option.map_eq_some_iff] at h
      obtain ⟨a, h1, as', h2, rfl⟩ := h
      simp only [outs, soutTV_den h1, Option.bind_some, ih h2, Option.map_some, List.map_cons]

def compFn (F : Nat → Option AFunc) (hint : Hint) (fd : AFunc) (fs : List (List Bool)) : Option Tr :=
  (sentry fd fs).bind fun S => if S.lt (total fs) then
    comp F hint fd.body 0 (total fs) S fun e n S => if e.leaves then (souts S fd.results fd.rk).map .ret else none
  else none
theorem tr_sound {k fd fs T} (hF : F k = some fd) (hc : compFn F hint fd fs = some T) {args : List (List PV)} (hfl : args.map (fun r => r.map PV.flat) = fs) {Q : List (List PV) → Prop}
    (hw : wp F Q T (fun _ _ => False) args.flatten) : ∃ rs, Big F (.fn k args rs) ∧ Q rs := by
  simp only [compFn, Option.bind_eq_some_iff] at hc
  obtain ⟨S, h1, hc⟩ := hc
  split at hc
  · rename_i hlt
    have he : entry fd args = some (SSt.den args.flatten S) := by
      simp only [sentry, Option.bind_eq_some_iff] at h1
      obtain ⟨l, h2, h3⟩ := h1
      subst hfl
      have h4 := sparTVs_den (env := []) (rest := []) h2
      simp only [List.nil_append, List.append_nil] at h4
      split at h3
      · rename_i hle
        simp only [Option.some.injEq] at h3
        subst h3
        simp only [entry, h4, Option.bind_some]
        rw [if_pos (by simpa [SSt.den] using hle)]
        simp [SSt.den, STV.den]
      · cases h3
    obtain ⟨e, S', b1, hl, rs, b2, b3⟩ := comp_sound (P := fun e S' => e.leaves = true ∧ ∃ rs, outs S' fd.results fd.rk = some rs ∧ Q rs) hc (total_flat hfl) hlt (by
      intro e n S' T' env' Qs' hc' hn' hl' he' ha hw'
      simp only at hc'
      split at hc'
      · rename_i hle
        simp only [Option.map_eq_some_iff] at hc'
        obtain ⟨as, h5, rfl⟩ := hc'
        exact ⟨hle, _, souts_den h5, hw'⟩
      · cases hc') hw
    exact ⟨rs, .fn hF he b1 hl b2, b3⟩
  · cases hc
end
end Go.Proofs.Ytkiliooegoldoaa
