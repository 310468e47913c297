/- Walks: SizeV -/
import Derived.Test.YtkiliooegoldoaaVals
set_option linter.unusedVariables false
set_option linter.unusedSimpArgs false
namespace Go.Proofs.Ytkiliooegoldoaa
open Go

mutual
def Val.nodes : Val → Nat
  | .mk k n s ls us => 1 + valNodes us
def valNodes : List Val → Nat
  | [] => 0
  | v :: vs => v.nodes + valNodes vs
end
theorem valNodes_eq : ∀ vs, valNodes vs = (vs.map Val.nodes).sum := by
  intro vs
  induction vs with
  | nil => rfl
  | cons v vs ih => simp only [valNodes, ih, List.map_cons, List.sum_cons]
theorem Val.nodes_mk {k n s ls us} : (Val.mk k n s ls us).nodes = 1 + (us.map Val.nodes).sum := by
  rw [Val.nodes, valNodes_eq]
theorem sum_le {α : Type} {f g : α → Nat} : ∀ {l : List α}, (∀ x ∈ l, f x ≤ g x + 1) → (l.map f).sum ≤ l.length + (l.map g).sum := by
  intro l
  induction l with
  | nil => intro _; simp
  | cons y l ih =>
    intro h
    have h1 := h y (by simp)
    have h2 := ih fun x hx => h x (by simp [hx])
    simp only [List.map_cons, List.sum_cons, List.length_cons]; omega
theorem Val.nodes_le (v : Val) : v.nodes ≤ v.wt + 1 := by
  induction v using Val.ind with
  | h k n s ls us ih =>
    have := sum_le ih
    rw [Val.nodes_mk, Val.wt_mk]; omega

/-- impl.SizeOfValue -/
theorem w74a {k n : Int} {s : ByteArray} {ls : List ByteArray} {us : List Val} (hb : (Val.mk k n s ls us).nodes ≤ 1099511627777) (ih : ∀ v ∈ us, ∃ rs, Big tab (.fn 74 [v.row] rs) ∧ rs = [[I v.nodes]]) : ∃ rs, Big tab (.fn 74 [[I k, I n, .str s, strs ls, vals us]] rs) ∧ rs = [[I (Val.mk k n s ls us).nodes]] := by
  rw [Val.nodes_mk] at hb ⊢
  have hlen : (us.map Val.row).length = us.length := List.length_map ..
  have hle : us.length ≤ (us.map Val.nodes).sum := by
    clear hb ih hlen
    induction us with
    | nil => simp
    | cons v vs ih => have : 1 ≤ v.nodes := by (cases v; rw [Val.nodes_mk]; omega)
                      simp only [List.map_cons, List.sum_cons, List.length_cons]; omega
  refine tr_sound rfl c74 rfl ?_
  show wp _ _ _ _ [I k, I n, .str s, strs ls, vals us]
  refine r_len rfl ?_
  try simp only [List.cons_append, List.nil_append, List.flatten_cons, List.flatten_nil, List.append_nil]
  refine r_loop (fun m vs => ∃ c i : Int, vs = [I c, I i] ∧ c = (1 + ((us.take i.toNat).map Val.nodes).sum : Nat) ∧ 0 ≤ i ∧ i ≤ us.length ∧ m = (us.length - i).toNat) _ ⟨_, _, rfl, by simp, by omega, by omega, rfl⟩ ?_
  rintro m _ ⟨c, i, rfl, hc, hi0, hi1, rfl⟩
  have htl := take_sum_le (f := Val.nodes) (l := us) (n := i.toNat)
  try simp only [List.cons_append, List.nil_append, List.flatten_cons, List.flatten_nil, List.append_nil]
  first | refine r_lss rfl rfl ?_ | refine r_lssS rfl rfl ?_
  try simp only [List.cons_append, List.nil_append, List.flatten_cons, List.flatten_nil, List.append_nil]
  first | refine r_iteP rfl (fun h3 => ?_) (fun h3 => ?_) | refine r_iteNP rfl (fun h3 => ?_) (fun h3 => ?_) | refine r_iteN rfl (fun h3 => ?_) (fun h3 => ?_) | refine r_ite rfl (fun h3 => ?_) (fun h3 => ?_)
  · refine r_inbT rfl rfl (by omega) (by omega) (fun e4 he4 hr4 => ?_)
    try simp only [List.cons_append, List.nil_append, List.flatten_cons, List.flatten_nil, List.append_nil]
    have hm4 := List.mem_of_getElem? he4
    have es4 := take_sum (f := Val.nodes) hi0 he4
    have htl4 := take_sum_le (f := Val.nodes) (l := us) (n := (i + 1).toNat)
    have ih4 := ih e4 hm4
    generalize e4.nodes = q4 at *
    obtain ⟨k4, n4, s4, l4, a4⟩ := e4
    rw [Val.row_mk] at hr4 ih4
    refine r_get1 rfl rfl hr4 rfl rfl ?_
    try simp only [List.cons_append, List.nil_append, List.flatten_cons, List.flatten_nil, List.append_nil]
    refine r_get1 rfl rfl hr4 rfl rfl ?_
    try simp only [List.cons_append, List.nil_append, List.flatten_cons, List.flatten_nil, List.append_nil]
    refine r_get1 rfl rfl hr4 rfl rfl ?_
    try simp only [List.cons_append, List.nil_append, List.flatten_cons, List.flatten_nil, List.append_nil]
    refine r_get1 rfl rfl hr4 rfl rfl ?_
    try simp only [List.cons_append, List.nil_append, List.flatten_cons, List.flatten_nil, List.append_nil]
    refine r_get1 rfl rfl hr4 rfl rfl ?_
    try simp only [List.cons_append, List.nil_append, List.flatten_cons, List.flatten_nil, List.append_nil]
    refine r_callQ ih4 rfl ?_
    rintro _ rfl
    refine ⟨rfl, ?_⟩
    try simp only [List.cons_append, List.nil_append, List.flatten_cons, List.flatten_nil, List.append_nil]
    first | refine r_add rfl rfl (by simp only [inR] at *; omega) ?_ | refine r_addS rfl rfl (by omega) ?_
    try simp only [List.cons_append, List.nil_append, List.flatten_cons, List.flatten_nil, List.append_nil]
    first | refine r_add rfl rfl (by simp only [inR] at *; omega) ?_ | refine r_addS rfl rfl (by omega) ?_
    try simp only [List.cons_append, List.nil_append, List.flatten_cons, List.flatten_nil, List.append_nil]
    exact r_again ⟨_, by omega, _, _, rfl, by omega, by omega, by omega, rfl⟩
  · have es := take_sum_all (f := Val.nodes) (l := us) (i := i) (by omega)
    rw [es] at hc
    exact r_ret (vs := [[I c]]) rfl (by rw [hc])

theorem Val.nodes_mem {k n s ls us} : ∀ v ∈ us, Val.nodes v ≤ (Val.mk k n s ls us).nodes := by
  intro v hv
  rw [Val.nodes_mk]
  have := mem_sum (f := Val.nodes) hv
  omega
theorem w74 {v : Val} (hb : v.nodes ≤ 1099511627777) : ∃ rs, Big tab (.fn 74 [v.row] rs) ∧ rs = [[I v.nodes]] := by
  induction v using Val.ind with
  | h k n s ls us ih =>
    rw [Val.row_mk]
    exact w74a hb fun v hv => ih v hv (by have := Val.nodes_mem (k := k) (n := n) (s := s) (ls := ls) v hv; omega)
end Go.Proofs.Ytkiliooegoldoaa
