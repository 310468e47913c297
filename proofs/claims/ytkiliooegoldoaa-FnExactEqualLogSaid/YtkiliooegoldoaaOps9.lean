/- A store into a box. -/
import Derived.Test.YtkiliooegoldoaaOps8
set_option linter.unusedVariables false
set_option linter.unusedSimpArgs false
namespace Go.Proofs.Ytkiliooegoldoaa
open Go

section
variable {P : Program} {ρ : Operand → Value} {o : Oper} {E : Env} {S S' : St} {vs : List Value} {w : World} {φ : Nat → Nat} {bs hand : List Nat} {d : Option Nat}

/-- One slot, and all the others. -/
theorem SR.swap (hs : SR E S vs w φ bs hand) {r : Nat} {v : Value} (hv : vs[r]? = some v) :
    ∃ bt br b0 : List Nat, TVR E w φ (S.g r) v bt ∧ (∀ g, bs.count g = bt.count g + br.count g) ∧ TVsR E w φ (S.set r .dead) vs b0 ∧ (∀ g, b0.count g = br.count g) ∧
      ∀ w' φ' tv' bt' hand', TVsR E w' φ' (S.set r .dead) vs b0 → TVR E w' φ' tv' v bt' → (∀ g, bt'.count g + hand'.count g ≤ bt.count g + hand.count g) → ViewsOK (S.set r tv') vs w' φ' →
        w'.heap.size = w.heap.size → (∀ g, g < E.w0.heap.size → g ∉ E.lin → w'.heap[g]? = w.heap[g]? ∧ φ' g = φ g) → (w'.os = w.os ∧ w'.tape = w.tape ∧ outw w' = outw w) →
        ∃ bs', SR E (S.set r tv') vs w' φ' bs' hand' := by
  obtain ⟨bt, br, h1, h2, h3⟩ := hs.tvs.get hv
  obtain ⟨b0, k1, k2⟩ := h3 .dead v [] rfl
  rw [set_get_same vs r hv] at k1
  have k2' : ∀ g, b0.count g = br.count g := fun g => by rw [k2 g]; simp
  refine ⟨bt, br, b0, h1, h2, k1, k2', fun w' φ' tv' bt' hand' hT hV hc hview hsz hold hos => ?_⟩
  obtain ⟨bt0, br0, m1, m2, m3⟩ := hT.get hv
  have hlt := (List.getElem?_eq_some_iff.1 hv).1
  have hl := hs.tvs.length
  have hbt0 : bt0 = [] := by
    rw [g_set, if_pos ⟨rfl, by omega⟩] at m1
    exact m1
  obtain ⟨bs', n1, n2⟩ := m3 tv' v bt' hV
  rw [set_get_same vs r hv, List.set_set] at n1
  have hcount : ∀ g, bs'.count g + hand'.count g ≤ bs.count g + hand.count g := fun g => by
    have := n2 g; have := m2 g; have := h2 g; have := k2' g; have := hc g
    rw [hbt0] at *
    simp at *
    omega
  refine ⟨bs', n1, fun g => ?_, fun g hg => ?_, hview, by rw [hsz]; exact hs.size, fun g a b => ?_, ?_⟩
  · have := hcount g; have := hs.cnt g; omega
  · have hm : g ∈ bs ∨ g ∈ hand := by
      have := hcount g
      have hpos : 0 < bs'.count g + hand'.count g := by
        rcases hg with hg | hg
        · have := List.count_pos_iff.2 hg; omega
        · have := List.count_pos_iff.2 hg; omega
      by_cases hb : g ∈ bs
      · exact .inl hb
      · have := count_zero_of hb
        exact .inr (mem_of_count (by omega))
    have := hs.own g hm
    exact ⟨by rw [hsz]; exact this.1, this.2⟩
  · have q1 := hold g a b
    have q2 := hs.same g a b
    exact ⟨q1.1.trans q2.1, q1.2.trans q2.2⟩
  · exact ⟨hos.1.trans hs.os.1, hos.2.1.trans hs.os.2.1, hos.2.2.trans hs.os.2.2⟩

theorem rootV_world1 {S : St} {vs w w' r c v} (hb : ∀ cs a, S.g r = .box cs → vs[r]? = some (.pointer (some a)) → w'.heap[a.block]? = w.heap[a.block]?) (h : rootV S vs w r c = some v) : rootV S vs w' r c = some v := by
  unfold rootV at h ⊢
  cases hS : S.g r <;> rw [hS] at h <;> (try dsimp only at h ⊢)
  case one x => cases hv : vs[r]? <;> rw [hv] at h <;> exact h
  case agg cs => cases hv : vs[r]? with
    | none => rw [hv] at h; exact h
    | some u => rw [hv] at h; cases u <;> exact h
  case box cs =>
    cases hv : vs[r]? with
    | none => rw [hv] at h; cases h
    | some u =>
      rw [hv] at h
      cases u with
      | pointer a =>
        cases a with
        | none => cases h
        | some a => dsimp only at h ⊢; unfold World.cell? at h ⊢; rw [hb cs a hS hv]; exact h
      | _ => cases h
  all_goals cases h

/-! ### Views that do not lead where something is written -/
def noReg (r c n : Nat) : Cell → Prop
  | .view r' c' _ => ¬ (r' = r ∧ c ≤ c' ∧ c' < c + n)
  | _ => True
theorem noReg_kill (r c n : Nat) (x : Cell) : noReg r c n (killBoxC r c n x) := by
  cases x with
  | val l p => trivial
  | dead => trivial
  | view r' c' path =>
    simp only [killBoxC]
    split
    · trivial
    · assumption

theorem lay_get {cs news cs' : List Cell} {c : Nat} (h : lay cs c news = some cs') {i : Nat} (hi : ¬ (c ≤ i ∧ i < c + news.length)) : cs'[i]? = cs[i]? := by
  unfold lay at h
  split at h
  · rename_i hle
    injection h with h
    subst h
    rw [List.append_assoc, List.getElem?_append]
    split
    · rename_i h1
      simp at h1
      rw [List.getElem?_take, if_pos (by omega)]
    · rename_i h1
      simp at h1
      rw [List.getElem?_append_right (by simp; omega), List.getElem?_drop]
      congr 1
      simp
      omega
  · cases h
theorem lay_mem {cs news cs' : List Cell} {c : Nat} (h : lay cs c news = some cs') {x : Cell} (hx : x ∈ cs') : x ∈ cs ∨ x ∈ news := by
  unfold lay at h
  split at h
  · injection h with h
    subst h
    rcases List.mem_append.1 hx with hx | hx
    · rcases List.mem_append.1 hx with hx | hx
      · exact .inl (List.mem_of_mem_take hx)
      · exact .inr hx
    · exact .inl (List.mem_of_mem_drop hx)
  · cases h

theorem storeBox {r c g : Nat} {cs news cs' : List Cell} {us bn} (hs : SR E S vs w φ bs (bn ++ hand)) (hS : S.g r = .box cs) (hv : vs[r]? = some (.pointer (some ⟨g, 0, none⟩)))
    (hn : CellsR E w φ news us bn) (hview : ViewsL S vs w φ news us) (hl : lay (cs.map (killBoxC r c news.length)) c (news.map (killBoxC r c news.length)) = some cs') :
    ∃ arr T, w.heap[g]? = some (.cells arr T (0, 0)) ∧ c + us.length ≤ arr.size ∧
      ∃ bs', SR E ((killBox r c news.length S).set r (.box cs')) vs (w.setRow g (arr.toList.take c ++ us ++ arr.toList.drop (c + us.length)).toArray) φ bs' hand := by
  have hK := strikes_box r c news.length
  generalize hKd : killBoxC r c news.length = K at hl hK
  have hs2 : SR E (killBox r c news.length S) vs w φ bs (bn ++ hand) := by
    have := hs.strike (h := fun r' c' path => r' == r && decide (c ≤ c') && decide (c' < c + news.length) && !path.isEmpty) (strikes_box r c news.length)
    exact this
  have hg2 : ∀ t, St.g (killBox r c news.length S) t = mapTV (killBoxC r c news.length) (fun r' c' path => r' == r && decide (c ≤ c') && decide (c' < c + news.length) && !path.isEmpty) false (S.g t) := fun t => g_map rfl t
  generalize hS2 : killBox r c news.length S = S2 at hs2 hg2
  have hSr : S2.g r = .box (cs.map K) := by rw [hg2, hS, hKd]; rfl
  have hn2 : CellsR E w φ (news.map K) us bn := hK.cells hn
  obtain ⟨bt, br, b0, h1, h2, h3, h4, h5⟩ := hs2.swap hv
  rw [hSr] at h1
  obtain ⟨g', arr, T, b1, hp, hheap, hφ, hcs, rfl⟩ := h1
  injection hp with hp
  simp at hp
  subst hp
  obtain ⟨hle, b', hcs', hb'⟩ := hcs.lay_ hn2 hl
  have hsize : c + us.length ≤ arr.size := by simpa using hle
  refine ⟨arr, T, hheap, hsize, ?_⟩
  have hgown : g < w.heap.size ∧ (E.w0.heap.size ≤ g ∨ g ∈ E.lin) := hs2.own g (.inl (mem_of_count (by have := h2 g; rw [List.count_cons] at this; simp at this; show 0 < bs.count g; omega)))
  have hcnt := hs2.cnt
  have hI : InPl w (w.setRow g (arr.toList.take c ++ us ++ arr.toList.drop (c + us.length)).toArray) φ φ g :=
    ⟨fun b hb => ⟨setRow_other w g b _ hb, rfl⟩, fun k x hk _ => by omega, Nat.le_refl _, by simp, rfl, rfl, outw_setRow _ _ _⟩
  have hheap' := setRow_heap w g arr (arr.toList.take c ++ us ++ arr.toList.drop (c + us.length)).toArray T (0, 0) hheap
  generalize hw' : w.setRow g (arr.toList.take c ++ us ++ arr.toList.drop (c + us.length)).toArray = w' at hI hheap'
  have hbr : g ∉ br := fun hm => by
    have a := h2 g; have b := hcnt g; have c := List.count_pos_iff.2 hm
    rw [List.count_cons] at a
    simp at a
    omega
  have hb0 : g ∉ b0 := fun hm => hbr (mem_of_count (by rw [← h4 g]; exact List.count_pos_iff.2 hm))
  have hb1 : g ∉ b1 := fun hm => by
    have a := h2 g; have b := hcnt g; have c := List.count_pos_iff.2 hm
    rw [List.count_cons] at a
    simp at a
    omega
  have hbn : g ∉ bn := fun hm => by
    have a := h2 g; have b := hcnt g; have c := List.count_pos_iff.2 hm
    rw [List.count_cons] at a
    rw [List.count_append] at b
    simp at a
    omega
  have hb'g : g ∉ b' := fun hm => by
    have a := hb' g; have c := List.count_pos_iff.2 hm
    have d1 := count_zero_of hb1
    have d2 := count_zero_of hbn
    omega
  have hO := okO_not hI hgown.2
  -- another slot's box is another block
  have hother : ∀ t cs a, t ≠ r → S2.g t = .box cs → vs[t]? = some (.pointer (some a)) → a.block ≠ g := by
    intro t cs a ht hSt hvt e
    obtain ⟨bx, by_, m1, m2, _⟩ := h3.get hvt
    rw [g_set, if_neg (by omega), hSt] at m1
    obtain ⟨g2, arr2, e2, b2, hp2, _, _, _, rfl⟩ := m1
    injection hp2 with hp2
    injection hp2 with hp2
    subst hp2
    have e2 : g2 = g := e
    have := m2 g
    rw [List.count_cons, e2] at this
    simp at this
    exact hb0 (mem_of_count (by omega))
  have hset : ∀ t, t ≠ r → St.g (S2.set r (.box cs')) t = S2.g t := fun t ht => by rw [g_set, if_neg (by omega)]
  have hrlt : r < S2.length := by rw [hs2.tvs.length]; exact (List.getElem?_eq_some_iff.1 hv).1
  have hsetr : St.g (S2.set r (.box cs')) r = .box cs' := by rw [g_set, if_pos ⟨rfl, hrlt⟩]
  -- the roots
  have hroot : ∀ r' c', ¬ (r' = r ∧ c ≤ c' ∧ c' < c + news.length) → rootCell (S2.set r (.box cs')) r' c' = rootCell S2 r' c' := by
    intro r' c' hno
    by_cases hr : r' = r
    · subst hr
      unfold rootCell
      rw [hsetr, hSr]
      dsimp only
      rw [List.getD_eq_getElem?_getD, List.getD_eq_getElem?_getD, lay_get hl (by simpa using fun a b => hno ⟨rfl, a, b⟩)]
    · exact rootCell_ne hr
  have hrootV : ∀ r' c' u, ¬ (r' = r ∧ c ≤ c' ∧ c' < c + news.length) → rootV S2 vs w r' c' = some u → rootV (S2.set r (.box cs')) vs w' r' c' = some u := by
    intro r' c' u hno h
    by_cases hr : r' = r
    · subst hr
      unfold rootV at h ⊢
      rw [hsetr, hv]
      rw [hSr, hv] at h
      dsimp only at h ⊢
      rw [cell_of_heap hheap] at h
      rw [cell_of_heap hheap']
      rw [← h]
      have hlen : us.length = news.length := hn.length.symm
      have hno' : ¬ (c ≤ c' ∧ c' < c + us.length) := by rw [hlen]; exact fun k => hno ⟨rfl, k⟩
      simp only [List.getElem?_toArray]
      rw [List.append_assoc, List.getElem?_append]
      split
      · rename_i q
        simp at q
        rw [List.getElem?_take, if_pos (by omega)]
        simp
      · rename_i q
        simp at q
        rw [List.getElem?_append_right (by simp; omega), List.getElem?_drop]
        rw [← Array.getElem?_toList]
        congr 1
        simp
        omega
    · have : rootV (S2.set r (.box cs')) vs w' r' c' = rootV S2 vs w' r' c' := by
        unfold rootV; rw [hset r' hr]
      rw [this]
      refine rootV_world1 (fun csx a e1 e2 => ?_) h
      exact (hI.heap a.block (hother r' csx a hr e1 e2)).1
  have hVC : ∀ x u, noReg r c news.length x → ViewC S2 vs w φ x u → ViewC (S2.set r (.box cs')) vs w' φ x u := by
    intro x u hno h
    cases x with
    | val l p => trivial
    | dead => trivial
    | view r' c' path =>
      refine ⟨?_, fun l p hr => ?_⟩
      · by_cases hr : r' = r
        · subst hr; rw [hsetr]; rfl
        · rw [hset r' hr]; exact h.1
      · rw [hroot r' c' hno] at hr
        obtain ⟨a, b, d, v0, e, f⟩ := h.2 l p hr
        exact ⟨a, b, d, v0, hrootV r' c' v0 hno e, rvPath_mono hI.cell_ f⟩
  -- the views of the new cells
  have hnewV : ∀ (i : Nat) x u, (news.map K)[i]? = some x → us[i]? = some u → ViewC S2 vs w φ x u := by
    intro i x u hx hu
    rw [List.getElem?_map] at hx
    cases hc : news[i]? with
    | none => rw [hc] at hx; cases hx
    | some y =>
      rw [hc] at hx
      injection hx with hx
      subst hx
      have h1 := hview i y u hc hu
      have h2 := (strikes_box r c news.length).viewC (h := fun r' c' path => r' == r && decide (c ≤ c') && decide (c' < c + news.length) && !path.isEmpty) h1
      have h3 : ViewC S2 vs w φ y u := by rw [← hS2]; exact h2
      exact hK.viewF h3
  have hboxV : ∀ (i : Nat) x u, (cs.map K)[i]? = some x → arr.toList[i]? = some u → ViewC S2 vs w φ x u := by
    intro i x u hx hu
    have := hs2.views r _ hv
    rw [hSr] at this
    exact this ⟨g, 0, none⟩ arr T (0, 0) rfl hheap i x u hx (by simpa using hu)
  have hcsV := ViewsL.lay_ (S := S2) (vs := vs) (w := w) (φ := φ) (by rw [hcs.length]) (by rw [hn2.length]) hboxV hnewV hl
  refine h5 w' φ (.box cs') (g :: b') hand ?_ ⟨g, _, T, b', rfl, hheap', hφ, ?_, rfl⟩ (fun x => ?_) (fun t u hu => ?_) hI.size (fun b k1 k2 => ?_) hI.os
  · exact h3.mono hO (fun b k u k1 k2 => hI.cell_ b k u k1 k2) fun b hb => hI.heap b fun e => hb0 (e ▸ hb)
  · have := CellsR.mono hO (fun b k u k1 k2 => hI.cell_ b k u k1 k2) (fun b hb => hI.heap b fun e => hb'g (e ▸ hb)) hcs'
    simpa using this
  · have := hb' x
    simp only [List.count_cons, List.count_append]
    omega
  · by_cases ht : t = r
    · subst ht
      rw [hv] at hu
      injection hu with hu
      subst hu
      rw [hsetr]
      intro a arr' e fr hp hh i x u hx hu'
      injection hp with hp
      injection hp with hp
      subst hp
      rw [hheap'] at hh
      simp at hh
      obtain ⟨rfl, _⟩ := hh
      have hu2 : (arr.toList.take c ++ us ++ arr.toList.drop (c + us.length))[i]? = some u := by simpa using hu'
      refine hVC x u ?_ (hcsV i x u hx hu2)
      rcases lay_mem hl (List.mem_of_getElem? hx) with hm | hm
      · obtain ⟨y, _, rfl⟩ := List.mem_map.1 hm
        rw [← hKd]; exact noReg_kill _ c _ y
      · obtain ⟨y, _, rfl⟩ := List.mem_map.1 hm
        rw [← hKd]; exact noReg_kill _ c _ y
    · rw [hset t ht]
      have hold := hs2.views t u hu
      have hshape := hg2 t
      cases hSt : S2.g t with
      | one x =>
        rw [hSt] at hold
        refine hVC x u ?_ hold
        rw [hSt] at hshape
        cases hS0 : S.g t <;> rw [hS0] at hshape <;> simp only [mapTV] at hshape
        · injection hshape with hshape; subst hshape; exact noReg_kill r c _ _
        all_goals (first | (split at hshape <;> cases hshape) | cases hshape)
      | agg xs =>
        rw [hSt] at hold hshape
        intro arr' e i x u' hx hu'
        refine hVC x u' ?_ (hold arr' e i x u' hx hu')
        cases hS0 : S.g t <;> rw [hS0] at hshape <;> simp only [mapTV] at hshape
        case agg ys =>
          injection hshape with hshape
          subst hshape
          obtain ⟨y, _, rfl⟩ := List.mem_map.1 (List.mem_of_getElem? hx)
          exact noReg_kill r c _ y
        all_goals (first | (split at hshape <;> cases hshape) | cases hshape)
      | box xs =>
        rw [hSt] at hold hshape
        intro a arr' e fr hp hh i x u' hx hu'
        subst hp
        have hne := hother t xs a ht hSt hu
        rw [(hI.heap a.block hne).1] at hh
        refine hVC x u' ?_ (hold a arr' e fr rfl hh i x u' hx hu')
        cases hS0 : S.g t <;> rw [hS0] at hshape <;> simp only [mapTV] at hshape
        case box ys =>
          injection hshape with hshape
          subst hshape
          obtain ⟨y, _, rfl⟩ := List.mem_map.1 (List.mem_of_getElem? hx)
          exact noReg_kill r c _ y
        all_goals (first | (split at hshape <;> cases hshape) | cases hshape)
      | place r' c' path =>
        rw [hSt] at hold hshape
        rcases hold with ⟨rfl, csx, gx, e1, e2, rfl⟩ | ⟨pre, s, i, j, rfl, k1, k2⟩
        · refine .inl ⟨rfl, ?_⟩
          by_cases hr : r' = r
          · subst hr
            rw [hv] at e2
            injection e2 with e2
            injection e2 with e2
            injection e2 with e2
            simp at e2
            exact ⟨cs', g, hsetr, hv, by rw [e2]⟩
          · exact ⟨csx, gx, by rw [hset r' hr]; exact e1, e2, rfl⟩
        · have hno : ¬ (r' = r ∧ c ≤ c' ∧ c' < c + news.length) := by
            cases hS0 : S.g t <;> rw [hS0] at hshape <;> simp only [mapTV] at hshape
            case place r0 c0 p0 =>
              split at hshape
              · cases hshape
              · rename_i hcond
                injection hshape with e1 e2 e3
                subst e1; subst e2; subst e3
                intro hk
                apply hcond
                simp [hk.1, hk.2.1, hk.2.2]
            all_goals (first | (split at hshape <;> cases hshape) | cases hshape)
          refine .inr ⟨pre, s, i, j, rfl, ?_, fun l p hr => ?_⟩
          · by_cases hr : r' = r
            · subst hr; rw [hsetr]; rfl
            · rw [hset r' hr]; exact k1
          · rw [hroot r' c' hno] at hr
            obtain ⟨a, b, d, v0, gg, oo, n, cap, e, f, f'⟩ := k2 l p hr
            exact ⟨a, b, d, v0, gg, oo, n, cap, hrootV r' c' v0 hno e, rvPath_mono hI.cell_ f, f'⟩
      | ep l row off => trivial
      | tup ts => rw [hSt] at hold; exact hold
      | undef => trivial
      | dead => trivial
  · exact hI.heap b fun e => by
      subst e
      rcases hgown.2 with q | q
      · omega
      · exact k2 q
end
end Go.Proofs.Ytkiliooegoldoaa
