/- Walks: IsPrefix, and its law. -/
import Derived.Test.YtkiliooegoldoaaSteps
set_option linter.unusedVariables false
set_option linter.unusedSimpArgs false
namespace Go.Proofs.Ytkiliooegoldoaa
open Go

def IsPre (l l' : List Stp) : Prop := l.length ≤ l'.length ∧ ∀ j : Nat, j < l.length → l[j]? = l'[j]?

/-- spec.IsPrefix -/
theorem w12 {l l' : List Stp} (hl : stpsOk l) (hl' : stpsOk l') : ∃ rs, Big tab (.fn 12 [[stps l], [stps l']] rs) ∧ ∃ b, rs = [[.bool b]] ∧ (b = true ↔ IsPre l l') := by
  have hm : maxLen = 9223372036854775807 := rfl
  obtain ⟨hl1, hl2⟩ := hl
  have hlen : (l.map Stp.row).length = l.length := List.length_map ..
  have hlen' : (l'.map Stp.row).length = l'.length := List.length_map ..
  refine tr_sound rfl c12 rfl ?_
  show wp _ _ _ _ [stps l, stps l']
  refine r_len rfl ?_
  simp only [List.cons_append, List.nil_append, List.flatten_cons, List.flatten_nil, List.append_nil]
  refine r_len rfl ?_
  simp only [List.cons_append, List.nil_append, List.flatten_cons, List.flatten_nil, List.append_nil]
  refine r_gtr rfl rfl ?_
  simp only [List.cons_append, List.nil_append, List.flatten_cons, List.flatten_nil, List.append_nil]
  refine r_iteP rfl (fun h => ?_) (fun h => ?_)
  · exact r_ret rfl ⟨_, rfl, by simp; rintro ⟨h1, h2⟩; omega⟩
  refine r_loop (fun m vs => ∃ i : Int, vs = [I i] ∧ 0 ≤ i ∧ i ≤ l.length ∧ (∀ j : Nat, j < i → l[j]? = l'[j]?) ∧ m = (l.length - i).toNat) _ ⟨_, rfl, by omega, by omega, fun j hj => by omega, rfl⟩ ?_
  rintro m _ ⟨i, rfl, hi0, hi1, hj, rfl⟩
  --norm
  simp only [List.cons_append, List.nil_append, List.flatten_cons, List.flatten_nil, List.append_nil]
  refine r_len rfl ?_
  simp only [List.cons_append, List.nil_append, List.flatten_cons, List.flatten_nil, List.append_nil]
  refine r_lss rfl rfl ?_
  simp only [List.cons_append, List.nil_append, List.flatten_cons, List.flatten_nil, List.append_nil]
  refine r_iteP rfl (fun h => ?_) (fun h => ?_)
  · refine r_inbT rfl rfl (by omega) (by omega) (fun e he hr => ?_)
    simp only [List.cons_append, List.nil_append, List.flatten_cons, List.flatten_nil, List.append_nil]
    refine r_get1 rfl rfl hr rfl rfl ?_
    simp only [List.cons_append, List.nil_append, List.flatten_cons, List.flatten_nil, List.append_nil]
    refine r_get1 rfl rfl hr rfl rfl ?_
    simp only [List.cons_append, List.nil_append, List.flatten_cons, List.flatten_nil, List.append_nil]
    refine r_get1 rfl rfl hr rfl rfl ?_
    simp only [List.cons_append, List.nil_append, List.flatten_cons, List.flatten_nil, List.append_nil]
    refine r_inbT rfl rfl (by omega) (by omega) (fun e' he' hr' => ?_)
    simp only [List.cons_append, List.nil_append, List.flatten_cons, List.flatten_nil, List.append_nil]
    refine r_get1 rfl rfl hr' rfl rfl ?_
    simp only [List.cons_append, List.nil_append, List.flatten_cons, List.flatten_nil, List.append_nil]
    refine r_get1 rfl rfl hr' rfl rfl ?_
    simp only [List.cons_append, List.nil_append, List.flatten_cons, List.flatten_nil, List.append_nil]
    refine r_get1 rfl rfl hr' rfl rfl ?_
    simp only [List.cons_append, List.nil_append, List.flatten_cons, List.flatten_nil, List.append_nil]
    refine r_neqAgg e.row e'.row rfl rfl rfl (fun b hb => ?_)
    simp only [List.cons_append, List.nil_append, List.flatten_cons, List.flatten_nil, List.append_nil]
    refine r_iteN rfl (fun h => ?_) (fun h => ?_)
    · refine r_ret rfl ⟨_, rfl, ?_⟩
      subst h
      simp only [Bool.false_eq_true, false_iff] at hb ⊢
      rintro ⟨h1, h2⟩
      have := h2 i.toNat (by omega)
      rw [he, he'] at this
      exact hb (by rw [Option.some.inj this])
    · refine r_add rfl rfl (by simp only [inR] at *; omega) ?_
      simp only [List.cons_append, List.nil_append, List.flatten_cons, List.flatten_nil, List.append_nil]
      refine r_again ⟨_, ?_, _, rfl, by omega, by omega, fun j hji => ?_, rfl⟩
      · omega
      · by_cases hjj : j < i
        · exact hj j hjj
        · have : j = i.toNat := by omega
          subst this
          rw [he, he', Stp.row_inj (hb.1 h)]
  · refine r_ret rfl ⟨_, rfl, ?_⟩
    simp only [true_iff]
    exact ⟨by omega, fun j hjl => hj j (by omega)⟩

/-- impl.IsPrefix -/
theorem w14 {l l' : List Stp} (hl : stpsOk l) (hl' : stpsOk l') : ∃ rs, Big tab (.fn 14 [[stps l], [stps l']] rs) ∧ ∃ b, rs = [[.bool b]] ∧ (b = true ↔ IsPre l l') := by
  have hm : maxLen = 9223372036854775807 := rfl
  obtain ⟨hl1, hl2⟩ := hl
  have hlen : (l.map Stp.row).length = l.length := List.length_map ..
  have hlen' : (l'.map Stp.row).length = l'.length := List.length_map ..
  refine tr_sound rfl c14 rfl ?_
  show wp _ _ _ _ [stps l, stps l']
  refine r_len rfl ?_
  simp only [List.cons_append, List.nil_append, List.flatten_cons, List.flatten_nil, List.append_nil]
  refine r_len rfl ?_
  simp only [List.cons_append, List.nil_append, List.flatten_cons, List.flatten_nil, List.append_nil]
  refine r_gtr rfl rfl ?_
  simp only [List.cons_append, List.nil_append, List.flatten_cons, List.flatten_nil, List.append_nil]
  refine r_iteP rfl (fun h => ?_) (fun h => ?_)
  · exact r_ret rfl ⟨_, rfl, by simp; rintro ⟨h1, h2⟩; omega⟩
  refine r_len rfl ?_
  simp only [List.cons_append, List.nil_append, List.flatten_cons, List.flatten_nil, List.append_nil]
  refine r_loop (fun m vs => ∃ i : Int, vs = [I i] ∧ 0 ≤ i ∧ i ≤ l.length ∧ (∀ j : Nat, j < i → l[j]? = l'[j]?) ∧ m = (l.length - i).toNat) _ ⟨_, rfl, by omega, by omega, fun j hj => by omega, rfl⟩ ?_
  rintro m _ ⟨i, rfl, hi0, hi1, hj, rfl⟩
  --norm
  simp only [List.cons_append, List.nil_append, List.flatten_cons, List.flatten_nil, List.append_nil]
  refine r_lss rfl rfl ?_
  simp only [List.cons_append, List.nil_append, List.flatten_cons, List.flatten_nil, List.append_nil]
  refine r_iteP rfl (fun h => ?_) (fun h => ?_)
  · refine r_inbT rfl rfl (by omega) (by omega) (fun e he hr => ?_)
    simp only [List.cons_append, List.nil_append, List.flatten_cons, List.flatten_nil, List.append_nil]
    refine r_get1 rfl rfl hr rfl rfl ?_
    simp only [List.cons_append, List.nil_append, List.flatten_cons, List.flatten_nil, List.append_nil]
    refine r_get1 rfl rfl hr rfl rfl ?_
    simp only [List.cons_append, List.nil_append, List.flatten_cons, List.flatten_nil, List.append_nil]
    refine r_get1 rfl rfl hr rfl rfl ?_
    simp only [List.cons_append, List.nil_append, List.flatten_cons, List.flatten_nil, List.append_nil]
    refine r_inbT rfl rfl (by omega) (by omega) (fun e' he' hr' => ?_)
    simp only [List.cons_append, List.nil_append, List.flatten_cons, List.flatten_nil, List.append_nil]
    refine r_get1 rfl rfl hr' rfl rfl ?_
    simp only [List.cons_append, List.nil_append, List.flatten_cons, List.flatten_nil, List.append_nil]
    refine r_get1 rfl rfl hr' rfl rfl ?_
    simp only [List.cons_append, List.nil_append, List.flatten_cons, List.flatten_nil, List.append_nil]
    refine r_get1 rfl rfl hr' rfl rfl ?_
    simp only [List.cons_append, List.nil_append, List.flatten_cons, List.flatten_nil, List.append_nil]
    refine r_neqAgg e.row e'.row rfl rfl rfl (fun b hb => ?_)
    simp only [List.cons_append, List.nil_append, List.flatten_cons, List.flatten_nil, List.append_nil]
    refine r_iteN rfl (fun h => ?_) (fun h => ?_)
    · refine r_ret rfl ⟨_, rfl, ?_⟩
      subst h
      simp only [Bool.false_eq_true, false_iff] at hb ⊢
      rintro ⟨h1, h2⟩
      have := h2 i.toNat (by omega)
      rw [he, he'] at this
      exact hb (by rw [Option.some.inj this])
    · refine r_add rfl rfl (by simp only [inR] at *; omega) ?_
      simp only [List.cons_append, List.nil_append, List.flatten_cons, List.flatten_nil, List.append_nil]
      refine r_again ⟨_, ?_, _, rfl, by omega, by omega, fun j hji => ?_, rfl⟩
      · omega
      · by_cases hjj : j < i
        · exact hj j hjj
        · have : j = i.toNat := by omega
          subst this
          rw [he, he', Stp.row_inj (hb.1 h)]
  · refine r_ret rfl ⟨_, rfl, ?_⟩
    simp only [true_iff]
    exact ⟨by omega, fun j hjl => hj j (by omega)⟩

end Go.Proofs.Ytkiliooegoldoaa
