/- A store into a slice of one's own: the whole state. -/
import Derived.Test.YtkiliooegoldoaaOps11
set_option linter.unusedVariables false
set_option linter.unusedSimpArgs false
namespace Go.Proofs.Ytkiliooegoldoaa
open Go

section
variable {P : Program} {ρ : Operand → Value} {o : Oper} {E : Env} {S S' : St} {vs : List Value} {w : World} {φ : Nat → Nat} {bs hand : List Nat} {d : Option Nat}

theorem St.ext1 {S T : St} (hl : S.length = T.length) (h : ∀ t, S.g t = T.g t) : S = T := by
  apply List.ext_getElem?
  intro i
  have := h i
  unfold St.g at this
  rw [List.getD_eq_getElem?_getD, List.getD_eq_getElem?_getD] at this
  by_cases hi : i < S.length
  · rw [List.getElem?_eq_getElem hi, List.getElem?_eq_getElem (by omega)] at this ⊢
    simpa using this
  · rw [List.getElem?_eq_none (by omega), List.getElem?_eq_none (by omega)]

theorem killC_val {r c k x l p} (h : killElemC r c k x = .val l p) : x = .val l p ∧ (p.flat = true ∨ isBorrow l = false) := by
  cases x with
  | val l' p' =>
    simp only [killElemC] at h
    split at h
    · rename_i hc
      injection h with h1 h2
      subst h1; subst h2
      refine ⟨rfl, ?_⟩
      simpa using hc
    · cases h
  | view r' c' path => simp only [killElemC] at h; split at h <;> cases h
  | dead => cases h

theorem killRootCell {r c k h} {r' c' : Nat} {l p} (e : rootCell (S.map (mapTV (killElemC r c k) h true)) r' c' = .val l p) : rootCell S r' c' = .val l p ∧ (p.flat = true ∨ isBorrow l = false) := by
  unfold rootCell at e ⊢
  rw [g_map rfl] at e
  cases hS : S.g r' <;> rw [hS] at e <;> simp only [mapTV] at e ⊢
  case one x =>
    split at e
    · rename_i h0; rw [if_pos h0]; exact killC_val (k := k) e
    · cases e
  case agg cs =>
    rw [List.getD_eq_getElem?_getD, List.getElem?_map] at e
    rw [List.getD_eq_getElem?_getD]
    cases hc : cs[c']? with
    | none => rw [hc] at e; cases e
    | some x => rw [hc] at e; exact killC_val (k := k) e
  case box cs =>
    rw [List.getD_eq_getElem?_getD, List.getElem?_map] at e
    rw [List.getD_eq_getElem?_getD]
    cases hc : cs[c']? with
    | none => rw [hc] at e; cases e
    | some x => rw [hc] at e; exact killC_val (k := k) e
  case place r0 c0 path => by_cases hh : h r0 c0 path = true <;> simp [hh] at e
  case ep l0 row off => by_cases hh : (true && (l0 != Lev.old)) = true <;> simp at hh <;> simp [hh] at e
  all_goals cases e

theorem killRootish {r c k x} (h : rootishC x = true) : rootishC (killElemC r c k x) = true := by
  cases x with
  | val l p =>
    simp only [killElemC]
    split
    · exact h
    · rfl
  | view r' c' path => cases h
  | dead => rfl

theorem killRootishTV {r c k h tv} (e : rootish tv = true) : rootish (mapTV (killElemC r c k) h true tv) = true := by
  cases tv with
  | one x => exact killRootish e
  | agg cs =>
    simp only [mapTV, rootish, List.any_eq_true, List.mem_map] at e ⊢
    obtain ⟨x, hx, e⟩ := e
    exact ⟨_, ⟨x, hx, rfl⟩, killRootish e⟩
  | box cs => rfl
  | _ => simp [rootish] at e

theorem prep_flat {p : PV} {pre : Path} {s : Nat} {xs ys : List (List PV)} (h : pget p pre = some (.sl s xs)) : (prep p pre (.sl s ys)).flat = false := by
  cases pre with
  | nil => rfl
  | cons x t =>
    obtain ⟨s0, i0, j0⟩ := x
    cases p with
    | sl sz zs =>
      simp only [prep]
      split
      · split <;> rfl
      · rfl
    | _ => simp [pget] at h

theorem storeElem {r c : Nat} {l : Lev} {p : PV} {pre : Path} {s i j n cap g off : Nat} {xs : List (List PV)} {row news : List PV} {us : List Value} {v0 : Value} {bn : List Nat}
    (hs : SR E S vs w φ bs (bn ++ hand)) (hc : rootCell S r c = .val l p) (hv0 : rootV S vs w r c = some v0)
    (hp : pget p pre = some (.sl s xs)) (hv : rvPath w φ v0 pre = some (.slice (some ⟨g, off, none⟩) n cap)) (hi : xs[i]? = some row)
    (hl : j + news.length ≤ row.length) (hn : RowsR E w φ l news us bn) (hll : l = .deep ∨ (l = .oldR ∧ pre = [])) :
    off = 0 ∧ ∃ cur T, w.heap[g]? = some (.cells cur T (0, 0)) ∧ i * s + j + us.length ≤ cur.size ∧
      ∃ bs', SR E (setRoot (killElem r c pre S) r c (.val l (prep p pre (.sl s (xs.set i (rowSet row j news)))))) vs (w.setRow g (cur.toList.take (i * s + j) ++ us ++ cur.toList.drop (i * s + j + us.length)).toArray) φ bs' hand := by
  obtain ⟨bs1, b, hs1, hroot, hweak⟩ := hs.takeRoot hc hv0
  obtain ⟨e0, hg, cur, T, m1, m2, m3⟩ := rootWrite hroot hp hv hi hl hn (fun x => by have := hs1.cnt x; simp only [List.count_append] at this; omega)
    (fun x hx => (hs1.own x (.inr (by simp [hx]))).2) hll
  refine ⟨e0, cur, T, m1, m2, ?_⟩
  obtain ⟨b', q1, q2, q3⟩ := m3 _ rfl
  have hgO : E.w0.heap.size ≤ g ∨ g ∈ E.lin := (hs1.own g (.inr (by simp [hg]))).2
  have hsz : (w.setRow g (cur.toList.take (i * s + j) ++ us ++ cur.toList.drop (i * s + j + us.length)).toArray).heap.size = w.heap.size := by simp
  have hoth : ∀ x, x ≠ g → (w.setRow g (cur.toList.take (i * s + j) ++ us ++ cur.toList.drop (i * s + j + us.length)).toArray).heap[x]? = w.heap[x]? := fun x hx => setRow_other w g x _ hx
  have hos : (w.setRow g (cur.toList.take (i * s + j) ++ us ++ cur.toList.drop (i * s + j + us.length)).toArray).os = w.os ∧ (w.setRow g (cur.toList.take (i * s + j) ++ us ++ cur.toList.drop (i * s + j + us.length)).toArray).tape = w.tape ∧ outw (w.setRow g (cur.toList.take (i * s + j) ++ us ++ cur.toList.drop (i * s + j + us.length)).toArray) = outw w := ⟨rfl, rfl, outw_setRow _ _ _⟩
  generalize w.setRow g (cur.toList.take (i * s + j) ++ us ++ cur.toList.drop (i * s + j + us.length)).toArray = w' at q1 q3 hsz hoth hos
  have hpf' : (prep p pre (.sl s (xs.set i (rowSet row j news)))).flat = false := prep_flat hp
  have hpp : ∀ path', pfx path' pre = true → ∃ z, pget (prep p pre (.sl s (xs.set i (rowSet row j news)))) path' = some z := fun path' h => pget_prep hp h
  generalize prep p pre (.sl s (xs.set i (rowSet row j news))) = p' at q1 hpf' hpp
  have hO : ∀ y k u, E.okO y k → w.cell? ⟨y, k, none⟩ = some u → w'.cell? ⟨y, k, none⟩ = some u := by
    intro y k u ⟨h1, h2, _⟩ hcc
    have hy : y ≠ g := by
      rintro rfl
      rcases hgO with q | q
      · omega
      · exact h2 q
    exact (World.cell?_of_block (w := w) (a := ⟨y, k, none⟩) (hoth y hy)).trans hcc
  have hg1 : g ∉ bs1 := fun hm => by
    have a := hs1.cnt g; have c1 := List.count_pos_iff.2 hm; have c2 := List.count_pos_iff.2 hg
    simp only [List.count_append] at a
    omega
  have hown1 : ∀ x ∈ bs1, w'.heap[x]? = w.heap[x]? := fun x hx => hoth x fun e => hg1 (e ▸ hx)
  have hwk : weakC (.val l p) = .val (borL l p) p := rfl
  have hc1 : rootCell (setRoot S r c (weakC (.val l p))) r c = .val (borL l p) p := by
    rcases hweak.rootCell r c with e | e
    · rw [hc] at e
      -- the cell that was set
      unfold rootCell at hc ⊢
      unfold setRoot
      cases hS : S.g r <;> rw [hS] at hc <;> (try dsimp only at hc ⊢)
      case one x =>
        split at hc
        · rename_i h0; rw [g_set, if_pos ⟨rfl, by obtain ⟨u, hu⟩ := hs.lt (t := r) (by rw [hS]; simp); have := (List.getElem?_eq_some_iff.1 hu).1; rw [hs.tvs.length]; exact this⟩]; simp [h0, hwk]
        · cases hc
      case agg cs =>
        rw [g_set, if_pos ⟨rfl, by obtain ⟨u, hu⟩ := hs.lt (t := r) (by rw [hS]; simp); have := (List.getElem?_eq_some_iff.1 hu).1; rw [hs.tvs.length]; exact this⟩]
        rw [List.getD_eq_getElem?_getD] at hc
        dsimp only
        cases hcc : cs[c]? with
        | none => rw [hcc] at hc; cases hc
        | some x =>
          have := (List.getElem?_eq_some_iff.1 hcc).1
          rw [List.getD_eq_getElem?_getD, List.getElem?_set, if_pos rfl, if_pos this]; rfl
      case box cs =>
        rw [g_set, if_pos ⟨rfl, by obtain ⟨u, hu⟩ := hs.lt (t := r) (by rw [hS]; simp); have := (List.getElem?_eq_some_iff.1 hu).1; rw [hs.tvs.length]; exact this⟩]
        rw [List.getD_eq_getElem?_getD] at hc
        dsimp only
        cases hcc : cs[c]? with
        | none => rw [hcc] at hc; cases hc
        | some x =>
          have := (List.getElem?_eq_some_iff.1 hcc).1
          rw [List.getD_eq_getElem?_getD, List.getElem?_set, if_pos rfl, if_pos this]; rfl
      all_goals cases hc
    · rw [hc] at e; exact e
  have hv1 : rootV (setRoot S r c (weakC (.val l p))) vs w r c = some v0 := by rw [hweak.rootV]; exact hv0
  -- the shapes at r
  have hshape : (∃ x, S.g r = .one x ∧ c = 0) ∨ (∃ cs, S.g r = .agg cs ∧ c < cs.length) ∨ (∃ cs, S.g r = .box cs ∧ c < cs.length) := by
    unfold rootCell at hc
    cases hS : S.g r <;> rw [hS] at hc <;> (try dsimp only at hc)
    case one x =>
      split at hc
      · rename_i h0; exact .inl ⟨x, rfl, h0⟩
      · cases hc
    case agg cs =>
      refine .inr (.inl ⟨cs, rfl, ?_⟩)
      rw [List.getD_eq_getElem?_getD] at hc
      cases hcc : cs[c]? with
      | none => rw [hcc] at hc; cases hc
      | some x => exact (List.getElem?_eq_some_iff.1 hcc).1
    case box cs =>
      refine .inr (.inr ⟨cs, rfl, ?_⟩)
      rw [List.getD_eq_getElem?_getD] at hc
      cases hcc : cs[c]? with
      | none => rw [hcc] at hc; cases hc
      | some x => exact (List.getElem?_eq_some_iff.1 hcc).1
    all_goals cases hc
  have hrlt : r < S.length := by
    have hd : S.g r ≠ .dead := by rcases hshape with ⟨x, e, _⟩ | ⟨x, e, _⟩ | ⟨x, e, _⟩ <;> rw [e] <;> simp
    obtain ⟨u, hu⟩ := hs.lt hd
    rw [hs.tvs.length]
    exact (List.getElem?_eq_some_iff.1 hu).1
  -- the state with the root's cell weak
  generalize hS1 : setRoot S r c (weakC (.val l p)) = S1 at hs1 hc1 hv1 hweak
  have hlen1 : S1.length = S.length := hweak.1
  have hne1 : ∀ t, t ≠ r → S1.g t = S.g t := fun t ht => by rw [← hS1]; exact g_setRoot_ne ht
  obtain ⟨bk, hk, hkc⟩ := killTVs_world (w' := w') r c pre hO (fun r' c' path' => r' == r && c' == c && !path'.isEmpty) hown1 hs1.tvs
  have hkg : ∀ t, St.g (S1.map (mapTV (killElemC r c pre) (fun r' c' path' => r' == r && c' == c && !path'.isEmpty) true)) t = mapTV (killElemC r c pre) (fun r' c' path' => r' == r && c' == c && !path'.isEmpty) true (S1.g t) := fun t => g_map rfl t
  have hkg0 : ∀ t, St.g (killElem r c pre S) t = mapTV (killElemC r c pre) (fun r' c' path' => r' == r && c' == c && !path'.isEmpty) true (S.g t) := fun t => g_map rfl t
  have hklen0 : (killElem r c pre S).length = S.length := by simp [killElem]
  have hkrc : ∀ r' c' l2 p2, rootCell (S1.map (mapTV (killElemC r c pre) (fun r' c' path' => r' == r && c' == c && !path'.isEmpty) true)) r' c' = .val l2 p2 → rootCell S1 r' c' = .val l2 p2 ∧ (p2.flat = true ∨ isBorrow l2 = false) := fun r' c' l2 p2 e => killRootCell e
  have hkrv : ∀ w2 r' c', rootV (S1.map (mapTV (killElemC r c pre) (fun r' c' path' => r' == r && c' == c && !path'.isEmpty) true)) vs w2 r' c' = rootV S1 vs w2 r' c' := fun w2 r' c' => rootV_map
  generalize hS1k : S1.map (mapTV (killElemC r c pre) (fun r' c' path' => r' == r && c' == c && !path'.isEmpty) true) = S1k at hk hkg hkrc hkrv
  have hklen : S1k.length = S.length := by rw [← hS1k]; simp [hlen1]
  -- the slot of the root
  obtain ⟨vr, hvr⟩ : ∃ vr, vs[r]? = some vr := ⟨_, List.getElem?_eq_getElem (by rw [← hs.tvs.length]; exact hrlt)⟩
  obtain ⟨bt, br, t1, t2, t3⟩ := hk.get hvr
  have key : ∃ tv3 bt3, setRoot (killElem r c pre S) r c (.val l p') = S1k.set r tv3 ∧ TVR E w' φ tv3 vr bt3 ∧ (∀ x, bt3.count x ≤ bt.count x + b'.count x) ∧ rootish tv3 = true ∧
      (∀ c', c' ≠ c → rootCell (S1k.set r tv3) r c' = rootCell S1k r c') ∧ rootCell (S1k.set r tv3) r c = .val l p' ∧ (∀ w2 c', rootV (S1k.set r tv3) vs w2 r c' = rootV S1k vs w2 r c') ∧
      (∀ cs, St.g S1k r = .box cs → ∃ cs', tv3 = .box cs') ∧
      (∀ x, (tv3 = .one x → x = .val l p') ∧ (∀ ys, tv3 = .agg ys → ∃ zs, St.g S1k r = .agg zs ∧ ys = zs.set c (.val l p')) ∧ (∀ ys, tv3 = .box ys → ∃ zs, St.g S1k r = .box zs ∧ ys = zs.set c (.val l p'))) ∧
      (∀ r' c' path', tv3 ≠ .place r' c' path') ∧ (∀ ts, tv3 ≠ .tup ts) := by
    have hsetg : ∀ tv, St.g (S1k.set r tv) r = tv := fun tv => by rw [g_set, if_pos ⟨rfl, by omega⟩]
    have heq : ∀ tv tv0, St.g (killElem r c pre S) r = tv0 → setRoot (killElem r c pre S) r c (.val l p') = (killElem r c pre S).set r tv → setRoot (killElem r c pre S) r c (.val l p') = S1k.set r tv := by
      intro tv tv0 _ e
      rw [e]
      apply St.ext1
      · simp [hklen, hklen0]
      · intro t
        rw [g_set, g_set, hklen0, hklen]
        by_cases ht : t = r
        · subst ht; rw [if_pos ⟨rfl, hrlt⟩, if_pos ⟨rfl, hrlt⟩]
        · rw [if_neg (by omega), if_neg (by omega), hkg, hkg0, hne1 t ht]
    rcases hshape with ⟨x, hS, rfl⟩ | ⟨cs, hS, hclt⟩ | ⟨cs, hS, hclt⟩
    · -- one
      have hk0 : St.g (killElem r 0 pre S) r = .one (killElemC r 0 pre x) := by rw [hkg0, hS]; rfl
      have hS1r : S1.g r = .one (weakC (.val l p)) := by
        rw [← hS1]; unfold setRoot; rw [hS]; dsimp only; rw [g_set, if_pos ⟨rfl, hrlt⟩]
      have hkr : St.g S1k r = .one (killElemC r 0 pre (weakC (.val l p))) := by rw [hkg, hS1r]; rfl
      have hvv : vr = v0 := by
        unfold rootV at hv0
        rw [hS, hvr] at hv0
        simpa using hv0
      subst hvv
      refine ⟨.one (.val l p'), b', heq _ _ hk0 (by unfold setRoot; rw [hk0]), q1, fun x => by omega, by simp [rootish, rootishC, hpf'], fun c' hc' => ?_, ?_, fun w2 c' => ?_, fun cs e => (by rw [hkr] at e; cases e),
        fun x => ⟨fun e => by injection e with e; exact e.symm, fun ys e => (by cases e), fun ys e => (by cases e)⟩, fun r' c' path' e => (by cases e), fun ts e => (by cases e)⟩
      · unfold rootCell; rw [hsetg, hkr]; dsimp only; rw [if_neg hc', if_neg hc']
      · unfold rootCell; rw [hsetg]; rfl
      · unfold rootV; rw [hsetg, hkr, hvr]
    · -- agg
      have hk0 : St.g (killElem r c pre S) r = .agg (cs.map (killElemC r c pre)) := by rw [hkg0, hS]; rfl
      have hS1r : S1.g r = .agg (cs.set c (weakC (.val l p))) := by
        rw [← hS1]; unfold setRoot; rw [hS]; dsimp only; rw [g_set, if_pos ⟨rfl, hrlt⟩]
      have hkr : St.g S1k r = .agg ((cs.set c (weakC (.val l p))).map (killElemC r c pre)) := by rw [hkg, hS1r]; rfl
      have e3 : (cs.map (killElemC r c pre)).set c (.val l p') = ((cs.set c (weakC (.val l p))).map (killElemC r c pre)).set c (.val l p') := by
        rw [List.map_set, List.set_set]
      rw [hkr] at t1
      obtain ⟨arr, ev, t1⟩ := t1
      have hcl : c < ((cs.set c (weakC (.val l p))).map (killElemC r c pre)).length := by simpa using hclt
      obtain ⟨vc, bc, bcr, n1, n2, n3, n4⟩ := t1.get (List.getElem?_eq_getElem hcl)
      have hvv : vc = v0 := by
        unfold rootV at hv0
        rw [hS, hvr, ev] at hv0
        dsimp only at hv0
        rw [Array.getElem?_toList, hv0] at n1
        injection n1 with n1
        exact n1.symm
      subst hvv
      obtain ⟨b3, o1, o2⟩ := n4 (.val l p') vc b' q1
      rw [set_get_same _ _ n1] at o1
      refine ⟨.agg (((cs.set c (weakC (.val l p))).map (killElemC r c pre)).set c (.val l p')), b3, heq _ _ hk0 (by unfold setRoot; rw [hk0]; dsimp only; rw [e3]), ⟨arr, ev, o1⟩, fun x => by have := o2 x; have := n3 x; omega, ?_, fun c' hc' => ?_, ?_, fun w2 c' => ?_,
        fun cs e => (by rw [hkr] at e; cases e), fun x => ⟨fun e => (by cases e), fun ys e => ⟨_, hkr, by injection e with e; exact e.symm⟩, fun ys e => (by cases e)⟩, fun r' c' path' e => (by cases e), fun ts e => (by cases e)⟩
      · simp only [rootish, List.any_eq_true]
        exact ⟨.val l p', List.mem_of_getElem? (i := c) (by rw [List.getElem?_set, if_pos rfl, if_pos hcl]), by simp [rootishC, hpf']⟩
      · unfold rootCell; rw [hsetg, hkr]; dsimp only
        rw [List.getD_eq_getElem?_getD, List.getD_eq_getElem?_getD, List.getElem?_set, if_neg (by omega)]
      · unfold rootCell; rw [hsetg]; dsimp only
        rw [List.getD_eq_getElem?_getD, List.getElem?_set, if_pos rfl, if_pos hcl]; rfl
      · unfold rootV; rw [hsetg, hkr, hvr, ev]
    · -- box
      have hk0 : St.g (killElem r c pre S) r = .box (cs.map (killElemC r c pre)) := by rw [hkg0, hS]; rfl
      have hS1r : S1.g r = .box (cs.set c (weakC (.val l p))) := by
        rw [← hS1]; unfold setRoot; rw [hS]; dsimp only; rw [g_set, if_pos ⟨rfl, hrlt⟩]
      have hkr : St.g S1k r = .box ((cs.set c (weakC (.val l p))).map (killElemC r c pre)) := by rw [hkg, hS1r]; rfl
      have e3 : (cs.map (killElemC r c pre)).set c (.val l p') = ((cs.set c (weakC (.val l p))).map (killElemC r c pre)).set c (.val l p') := by
        rw [List.map_set, List.set_set]
      rw [hkr] at t1
      obtain ⟨gb, arr, T', b1, ev, hgb, hφb, t1, hbt⟩ := t1
      have hcl : c < ((cs.set c (weakC (.val l p))).map (killElemC r c pre)).length := by simpa using hclt
      obtain ⟨vc, bc, bcr, n1, n2, n3, n4⟩ := t1.get (List.getElem?_eq_getElem hcl)
      have hgbne : gb ≠ g := by
        rintro rfl
        apply hg1
        have a1 := t2 gb
        have a2 := hkc gb
        rw [hbt, List.count_cons] at a1
        simp at a1
        exact mem_of_count (by omega)
      have hvv : vc = v0 := by
        unfold rootV at hv0
        rw [hS, hvr, ev] at hv0
        dsimp only at hv0
        rw [← World.cell?_of_block (w := w) (a := ⟨gb, c, none⟩) (hoth gb hgbne), cell_of_heap hgb] at hv0
        rw [Array.getElem?_toList, hv0] at n1
        injection n1 with n1
        exact n1.symm
      subst hvv
      obtain ⟨b3, o1, o2⟩ := n4 (.val l p') vc b' q1
      rw [set_get_same _ _ n1] at o1
      refine ⟨.box (((cs.set c (weakC (.val l p))).map (killElemC r c pre)).set c (.val l p')), gb :: b3, heq _ _ hk0 (by unfold setRoot; rw [hk0]; dsimp only; rw [e3]), ⟨gb, arr, T', b3, ev, hgb, hφb, o1, rfl⟩, fun x => by have := o2 x; have := n3 x; rw [hbt]; simp only [List.count_cons]; omega, rfl, fun c' hc' => ?_, ?_, fun w2 c' => ?_,
        fun cs e => ⟨_, rfl⟩, fun x => ⟨fun e => (by cases e), fun ys e => (by cases e), fun ys e => ⟨_, hkr, by injection e with e; exact e.symm⟩⟩, fun r' c' path' e => (by cases e), fun ts e => (by cases e)⟩
      · unfold rootCell; rw [hsetg, hkr]; dsimp only
        rw [List.getD_eq_getElem?_getD, List.getD_eq_getElem?_getD, List.getElem?_set, if_neg (by omega)]
      · unfold rootCell; rw [hsetg]; dsimp only
        rw [List.getD_eq_getElem?_getD, List.getElem?_set, if_pos rfl, if_pos hcl]; rfl
      · unfold rootV; rw [hsetg, hkr, hvr, ev]
  obtain ⟨tv3, bt3, eS3, hT3, hbt3, hrt3, hrc3, hrcc, hrv3, hbox3, hcells3, hnp, hnt⟩ := key
  rw [eS3]
  obtain ⟨bs3, r1, r2⟩ := t3 tv3 vr bt3 hT3
  rw [set_get_same vs r hvr] at r1
  have hcount : ∀ x, bs3.count x + hand.count x ≤ bs1.count x + (b ++ (bn ++ hand)).count x := fun x => by
    have a1 := r2 x; have a2 := t2 x; have a3 := hkc x; have a4 := hbt3 x; have a5 := q2 x
    simp only [List.count_append]
    omega
  have hset : ∀ t, t ≠ r → St.g (S1k.set r tv3) t = St.g S1k t := fun t ht => by rw [g_set, if_neg (by omega)]
  have hsetr : St.g (S1k.set r tv3) r = tv3 := by rw [g_set, if_pos ⟨rfl, by omega⟩]
  -- roots elsewhere
  have hrootV : ∀ r' c' u, rootV S1 vs w r' c' = some u → rootV (S1k.set r tv3) vs w' r' c' = some u := by
    intro r' c' u h
    have e1 : rootV (S1k.set r tv3) vs w' r' c' = rootV S1 vs w' r' c' := by
      rw [← hkrv]
      by_cases hr : r' = r
      · subst hr; exact hrv3 w' c'
      · unfold rootV; rw [hset r' hr]
    rw [e1]
    exact rootV_world1 (fun cs a k1 k2 => hown1 _ (hs1.boxOwn r' cs a k1 k2)) h
  have hfact : ∀ r' c' l2 p2, ¬ (r' = r ∧ c' = c) → rootCell (S1k.set r tv3) r' c' = .val l2 p2 → rootCell S1 r' c' = .val l2 p2 ∧ (p2.flat = true ∨ isBorrow l2 = false) := by
    intro r' c' l2 p2 hno h
    refine hkrc r' c' l2 p2 ?_
    by_cases hr : r' = r
    · subst hr
      rw [← hrc3 c' fun e => hno ⟨rfl, e⟩]; exact h
    · rwa [rootCell_ne hr] at h
  -- what is read along a path that leads elsewhere
  have hpath : ∀ r' c' l2 p2 path q v2 u, rootCell S1 r' c' = .val l2 p2 → isBorrow l2 = false → (path ≠ [] → inner l2) → pget p2 path = some q → rootV S1 vs w r' c' = some v2 → rvPath w φ v2 path = some u → rvPath w' φ v2 path = some u := by
    intro r' c' l2 p2 path q v2 u h1 h2 h3 h4 h5 h6
    cases path with
    | nil => exact h6
    | cons x path =>
      have hl2 : l2 = .deep := by
        rcases h3 (by simp) with h | h | h
        · exact h
        · subst h; cases h2
        · subst h; cases h2
      subst hl2
      obtain ⟨bb, k1, k2⟩ := hs1.rootOwn h1 h5
      rw [← h6]
      exact OwL.path_same k1 h4 fun x hx => ⟨hown1 x (mem_of_count (by have := k2 x; have := List.count_pos_iff.2 hx; omega)), rfl⟩
  have hVC : ∀ x u, ViewC S1 vs w φ x u → ViewC (S1k.set r tv3) vs w' φ (killElemC r c pre x) u := by
    intro x u h
    cases x with
    | val l2 p2 =>
      simp only [killElemC]
      split <;> trivial
    | dead => trivial
    | view r' c' path' =>
      simp only [killElemC]
      split
      · trivial
      · rename_i hno
        refine ⟨?_, fun l2 p2 hr => ?_⟩
        · by_cases hr : r' = r
          · subst hr; rw [hsetr]; exact hrt3
          · rw [hset r' hr, hkg]; exact killRootishTV h.1
        · by_cases hrc : r' = r ∧ c' = c
          · obtain ⟨rfl, rfl⟩ := hrc
            rw [hrcc] at hr
            injection hr with k1 k2
            subst k1; subst k2
            obtain ⟨a1, a2, a3, v2, a4, a5⟩ := h.2 _ _ hc1
            have hpx : pfx path' pre = true := by
              have : path' = [] := by simpa using hno
              subst this
              rfl
            rw [hv1] at a4
            injection a4 with a4
            subst a4
            refine ⟨hpf', fun hne => ?_, hpp path' hpx, v0, hrootV _ _ _ hv1, by rw [q3 path' hpx]; exact a5⟩
            rcases hll with rfl | ⟨rfl, rfl⟩
            · exact .inl rfl
            · cases path' with
              | nil => exact absurd rfl hne
              | cons _ _ => simp [pfx] at hpx
          · obtain ⟨k1, k2⟩ := hfact r' c' l2 p2 hrc hr
            obtain ⟨a1, a2, ⟨q, a3⟩, v2, a4, a5⟩ := h.2 l2 p2 k1
            have hb : isBorrow l2 = false := k2.resolve_left (by rw [a1]; simp)
            exact ⟨a1, a2, ⟨q, a3⟩, v2, hrootV r' c' v2 a4, hpath r' c' l2 p2 path' q v2 u k1 hb a2 a3 a4 a5⟩
  refine ⟨bs3, r1, fun x => ?_, fun x hx => ?_, fun t u hu => ?_, by rw [hsz]; exact hs1.size, fun y k1 k2 => ?_, ?_⟩
  · have := hcount x; have := hs1.cnt x; omega
  · have hm : x ∈ bs1 ∨ x ∈ b ++ (bn ++ hand) := by
      have := hcount x
      have hpos : 0 < bs3.count x + hand.count x := by
        rcases hx with hx | hx
        · have := List.count_pos_iff.2 hx; omega
        · have := List.count_pos_iff.2 hx; omega
      by_cases hb : x ∈ bs1
      · exact .inl hb
      · have := count_zero_of hb
        exact .inr (mem_of_count (by omega))
    have := hs1.own x hm
    exact ⟨by rw [hsz]; exact this.1, this.2⟩
  · have hold := hs1.views t u hu
    by_cases ht : t = r
    · subst ht
      rw [hsetr]
      cases htv : tv3 with
      | one x =>
        have := (hcells3 x).1 htv
        subst this
        trivial
      | agg ys =>
        obtain ⟨zs, z1, z2⟩ := (hcells3 .dead).2.1 ys htv
        subst z2
        rw [hkg] at z1
        intro arr ea i' x u' hx hu'
        by_cases hic : i' = c
        · subst hic
          rw [List.getElem?_set, if_pos rfl] at hx
          split at hx
          · injection hx with hx; subst hx; trivial
          · cases hx
        · rw [List.getElem?_set, if_neg (by omega)] at hx
          cases hS0 : S1.g t <;> rw [hS0] at z1 hold <;> simp only [mapTV] at z1
          case agg cs0 =>
            injection z1 with z1
            subst z1
            rw [List.getElem?_map] at hx
            cases hy : cs0[i']? with
            | none => rw [hy] at hx; cases hx
            | some y =>
              rw [hy] at hx
              injection hx with hx
              subst hx
              have hfin := hVC y u' (hold arr ea i' y u' hy hu')
              rwa [htv] at hfin
          all_goals (first | (split at z1 <;> cases z1) | cases z1)
      | box ys =>
        obtain ⟨zs, z1, z2⟩ := (hcells3 .dead).2.2 ys htv
        subst z2
        rw [hkg] at z1
        intro a arr e fr ea hh i' x u' hx hu'
        by_cases hic : i' = c
        · subst hic
          rw [List.getElem?_set, if_pos rfl] at hx
          split at hx
          · injection hx with hx; subst hx; trivial
          · cases hx
        · rw [List.getElem?_set, if_neg (by omega)] at hx
          cases hS0 : S1.g t <;> rw [hS0] at z1 hold <;> simp only [mapTV] at z1
          case box cs0 =>
            injection z1 with z1
            subst z1
            rw [List.getElem?_map] at hx
            cases hy : cs0[i']? with
            | none => rw [hy] at hx; cases hx
            | some y =>
              rw [hy] at hx
              injection hx with hx
              subst hx
              subst ea
              rw [hown1 _ (hs1.boxOwn t cs0 a hS0 hu)] at hh
              have hfin := hVC y u' (hold a arr e fr rfl hh i' y u' hy hu')
              rwa [htv] at hfin
          all_goals (first | (split at z1 <;> cases z1) | cases z1)
      | place r' c' path' => exact absurd htv (hnp r' c' path')
      | tup ts => exact absurd htv (hnt ts)
      | ep l' row' off' => trivial
      | undef => trivial
      | dead => trivial
    · rw [hset t ht, hkg]
      cases hSt : S1.g t with
      | one x => rw [hSt] at hold; exact hVC x u hold
      | agg xs' =>
        rw [hSt] at hold
        intro arr ea i' x u' hx hu'
        rw [List.getElem?_map] at hx
        cases hy : xs'[i']? with
        | none => rw [hy] at hx; cases hx
        | some y =>
          rw [hy] at hx
          injection hx with hx
          subst hx
          exact hVC y u' (hold arr ea i' y u' hy hu')
      | box xs' =>
        rw [hSt] at hold
        intro a arr e fr ea hh i' x u' hx hu'
        rw [List.getElem?_map] at hx
        cases hy : xs'[i']? with
        | none => rw [hy] at hx; cases hx
        | some y =>
          rw [hy] at hx
          injection hx with hx
          subst hx
          subst ea
          rw [hown1 _ (hs1.boxOwn t xs' a hSt hu)] at hh
          exact hVC y u' (hold a arr e fr rfl hh i' y u' hy hu')
      | place r' c' path' =>
        rw [hSt] at hold
        simp only [mapTV]
        split
        · trivial
        · rename_i hcond
          rcases hold with ⟨rfl, csx, gx, e1, e2, rfl⟩ | ⟨pre2, s2, i2, j2, rfl, k1, k2⟩
          · refine .inl ⟨rfl, ?_⟩
            by_cases hr : r' = r
            · subst hr
              obtain ⟨cs', e'⟩ := hbox3 _ (by rw [hkg, e1]; rfl)
              exact ⟨cs', gx, by rw [hsetr, e'], e2, rfl⟩
            · exact ⟨_, gx, by rw [hset r' hr, hkg, e1]; rfl, e2, rfl⟩
          · have hno : ¬ (r' = r ∧ c' = c) := by
              intro hk
              apply hcond
              simp [hk.1, hk.2]
            refine .inr ⟨pre2, s2, i2, j2, rfl, ?_, fun l2 p2 hr => ?_⟩
            · by_cases hr : r' = r
              · subst hr; rw [hsetr]; exact hrt3
              · rw [hset r' hr, hkg]; exact killRootishTV k1
            · obtain ⟨k3, k4⟩ := hfact r' c' l2 p2 hno hr
              obtain ⟨a1, a2, ⟨zs, rw', a3, a3'⟩, v2, gg, oo, nn, cc, a4, a5, a6⟩ := k2 l2 p2 k3
              have hb : isBorrow l2 = false := k4.resolve_left (by rw [a1]; simp)
              exact ⟨a1, a2, ⟨zs, rw', a3, a3'⟩, v2, gg, oo, nn, cc, hrootV r' c' v2 a4, hpath r' c' l2 p2 pre2 _ v2 _ k3 hb a2 a3 a4 a5, a6⟩
      | ep l' row' off' => simp only [mapTV]; split <;> trivial
      | tup ts =>
        rw [hSt] at hold
        intro x hx y hy
        simp only [List.mem_map] at hx
        obtain ⟨x0, hx0, rfl⟩ := hx
        simp only [List.mem_map] at hy
        obtain ⟨y0, hy0, rfl⟩ := hy
        have := hold x0 hx0 y0 hy0
        cases y0 with
        | val l2 p2 => simp only [killElemC]; split <;> trivial
        | view _ _ _ => exact this.elim
        | dead => trivial
      | undef => trivial
      | dead => trivial
  · have hy : y ≠ g := by
      rintro rfl
      rcases hgO with q | q
      · omega
      · exact k2 q
    have := hs1.same y k1 k2
    exact ⟨(hoth y hy).trans this.1, this.2⟩
  · exact ⟨hos.1.trans hs1.os.1, hos.2.1.trans hs1.os.2.1, hos.2.2.trans hs1.os.2.2⟩
end
end Go.Proofs.Ytkiliooegoldoaa
