/- The operation 'store'. -/
import Derived.Test.YtkiliooegoldoaaOps12
set_option linter.unusedVariables false
set_option linter.unusedSimpArgs false
namespace Go.Proofs.Ytkiliooegoldoaa
open Go

section
variable {P : Program} {ρ : Operand → Value} {o : Oper} {E : Env} {S S' : St} {vs : List Value} {w : World} {φ : Nat → Nat} {bs hand : List Nat} {d : Option Nat}

theorem store_goal {n p rs t a x y} {i : TypeInfo} (hs : SR E S vs w φ bs []) (hρ : RhoR ρ vs) (ho : o.op = .store t a y) (hc : chkO a (.t p rs) = true) (hc' : chkO y x = true) (hi : P.info? t = some i) (hz : i.size = n)
    (h : step S d (.store n (.t p rs) x) = some S') : Goal P ρ o E S' vs d w := by
  simp only [step] at h
  split at h
  case isTrue => cases h
  rename_i hd
  have hd : d = none := by cases d <;> simp at hd ⊢
  subst hd
  cases h1 : tAny S x with
  | none => rw [h1] at h; cases h
  | some z =>
    rw [h1] at h
    simp only [Option.bind_some] at h
    split at h
    case isFalse => cases h
    rename_i hlen
    obtain ⟨bs1, bc, us, q1, q2, q3, q4⟩ := tAny_sound hs (hρ y x hc') (agg := z.1) (cs := z.2.1) (S' := z.2.2) h1
    have hones := CellsR.ones q1 q3.2 (tAny_nd (S' := z.2.2) (agg := z.1) (cs := z.2.1) h1)
    have hcells := q3.cells_ hones
    have hul : us.length = n := by rw [← q3.2.length]; exact hlen
    have hcs : (ρ y).cells.size = us.length := by rw [← Array.length_toList, hcells]
    have hρa := slotρ hρ hc
    have hnd : z.2.2.g p ≠ .dead := by
      intro e; simp [asPlace, e, storeAt] at h
    obtain ⟨bt, p1, p2⟩ := asPlace_sound q1 hnd
    cases hP : asPlace z.2.2 p with
    | place r c path =>
      rw [hP] at h p2
      cases path with
      | nil =>
        simp only [storeAt] at h
        split at h
        case isFalse => cases h
        split at h
        case h_2 => cases h
        rename_i cs hS
        cases hl : lay (cs.map (killBoxC r c z.2.1.length)) c (z.2.1.map (killBoxC r c z.2.1.length)) with
        | none => rw [hl] at h; cases h
        | some cs' =>
          rw [hl] at h
          simp only [Option.map_some, Option.some.injEq] at h
          rcases p2 with ⟨_, csx, g, e1, e2, e3⟩ | ⟨pre, s, i, j, e, _⟩
          · obtain ⟨arr, T, m1, m2, bs', m3⟩ := storeBox q1 hS e2 q3.2 q4 hl
            rw [e3] at hρa
            have hrun := r_store (P := P) (t := t) (g := g) (o := c) (v := ρ y) hi (by omega) m1 (by omega) (by rw [hcells]; exact hones)
            rw [hcells, hcs] at hrun
            generalize w.setRow g (arr.toList.take c ++ us ++ arr.toList.drop (c + us.length)).toArray = W at hrun m3
            refine ⟨undef, W, .inr ⟨by simp [execOp, ho, hρa, hrun], rfl⟩, φ, bs', ?_⟩
            rw [← h]
            exact m3
          · simp at e
      | cons x0 path =>
        simp only [storeAt] at h
        split at h
        case isFalse => cases h
        split at h
        case h_2 => cases h
        rename_i l p0 lv hroot hvals
        split at h
        case isFalse => cases h
        rename_i hok
        cases hps : pset p0 (x0 :: path) (lv.map (·.2)) with
        | none => rw [hps] at h; cases h
        | some p' =>
          rw [hps] at h
          simp only [Option.map_some, Option.some.injEq] at h
          rcases p2 with ⟨e, _⟩ | ⟨pre, s, i', j, e, k1, k2⟩
          · cases e
          · obtain ⟨a1, a2, a3, v0, g, off, nn, cap, a4, a5, a6⟩ := k2 l p0 hroot
            rw [e] at hps
            obtain ⟨xs, row, b1, b2, b3, rfl⟩ := pset_prep hps
            have hdl : (x0 :: path).dropLast = pre := by rw [e]; simp
            have hemp : path.isEmpty = true → pre = [] := by
              intro hpe
              have : path = [] := by simpa using hpe
              subst this
              rw [← hdl]; rfl
            obtain ⟨bv, c1, c2⟩ := tVals_sound q1 q3.2 q4 hvals
            have hlev : (l = .deep ∧ okCells .deep lv = true) ∨ (l = .oldR ∧ pre = [] ∧ okCells .oldR lv = true) := by
              unfold okStore at hok
              split at hok
              · exact .inl ⟨rfl, hok⟩
              · simp only [Bool.and_eq_true] at hok
                exact .inr ⟨rfl, hemp hok.1, hok.2⟩
              · cases hok
            have hown : isOwn l = true := by rcases hlev with ⟨rfl, _⟩ | ⟨rfl, _⟩ <;> rfl
            have hokl : okCells l lv = true := by rcases hlev with ⟨rfl, k⟩ | ⟨rfl, _, k⟩ <;> exact k
            obtain ⟨bn, r1, r2⟩ := rowsOf q1.hO c1 hokl hown
            have q1' : SR E z.2.2 vs w φ bs1 (bn ++ []) := q1.handLe fun g => by have := c2 g; have := r2 g; simp; omega
            obtain ⟨e0, cur, T, m1, m2, bs', m3⟩ := storeElem q1' hroot a4 b1 a5 b2 b3 r1 (by rcases hlev with ⟨rfl, _⟩ | ⟨rfl, hp, _⟩; exact .inl rfl; exact .inr ⟨rfl, hp⟩)
            subst e0
            rw [a6] at hρa
            simp only [Nat.zero_add] at hρa
            have hrun := r_store (P := P) (t := t) (g := g) (o := i' * s + j) (v := ρ y) hi (by omega) m1 (by omega) (by rw [hcells]; exact hones)
            rw [hcells, hcs] at hrun
            generalize w.setRow g (cur.toList.take (i' * s + j) ++ us ++ cur.toList.drop (i' * s + j + us.length)).toArray = W at hrun m3
            refine ⟨undef, W, .inr ⟨by simp [execOp, ho, hρa, hrun], rfl⟩, φ, bs', ?_⟩
            rw [← h, hdl]
            exact m3
    | _ => rw [hP] at h; cases h
end
end Go.Proofs.Ytkiliooegoldoaa
