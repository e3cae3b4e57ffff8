/- Nodes: the laws' other comparison. -/
import Derived.Test.YtmddfhjgdhjmkaaDoorEqT
import Derived.Test.YtmddfhjgdhjmkaaDoorPK
set_option linter.unusedVariables false
set_option linter.unusedSimpArgs false
namespace Go.Proofs.YtmddfhjgdhjmkaaDoor.VM
theorem qnS_of (xs ys : List Nod) (hx : xs.length ≤ 140737488351232) (he : ∀ n ∈ xs, ∀ m ∈ ys, (D T).call F_laws_qnNode [encN n, encN m] = bo (eqN n m)) :
    (D T).call F_laws_qnNodes [.sl 6 (encNs xs), .sl 6 (encNs ys)] = bo (eqNs xs ys) := by
  rw [c_laws_qnNodes, t_laws_qnNodes]
  simp only [encNs_length]
  by_cases h : ys.length = xs.length
  case neg => rw [dec_len h, eqNs_ne h]; rfl
  have hL : ∀ i, i ≤ xs.length → L_laws_qnNodes_0 (D T) (encNs xs) (encNs ys) (i : Int) = bo (eqNs (xs.drop i) (ys.drop i)) := by
    refine down ?_ fun i hi ih => ?_
    · rw [L_laws_qnNodes_0_eq, tL_laws_qnNodes_0, encNs_length, nlt_ofNat, eqNs_drop_end h]; rfl
    · rw [L_laws_qnNodes_0_eq, tL_laws_qnNodes_0, encNs_length, lt_ofNat hi, bif_true, ix_at (encNs_get xs i hi), unSt_encN, ix_at (encNs_get ys i (by omega)), unSt_encN, he _ (List.getElem_mem hi) _ (List.getElem_mem (by omega)), Option.bind_some, unB_mk, next_i (by omega), ih, eqNs_drop hi (by omega)]
      cases eqN xs[i] (ys[i]'(by omega)) <;> rfl
  rw [dec_len_eq h, Bool.not_true, bif_false]
  exact hL 0 (Nat.zero_le _)
theorem qnNode_is : ∀ n, okN n → ∀ m, okN m → (D T).call F_laws_qnNode [encN n, encN m] = bo (eqN n m) := by
  refine Nod.ind fun k d p s c i hp hi => ?_
  intro h m h'
  obtain ⟨k', d', p', s', c', i'⟩ := m
  unfold okN at h h'
  have h1 := qnS_of p p' (reach_lt (b := 87) h.2.1) fun n hn m hm => hp n hn (okNs_mem.1 h.2.2.2.1 n hn) m (okNs_mem.1 h'.2.2.2.1 m hm)
  have h2 := qnS_of i i' (reach_lt (b := 87) h.2.2.1) fun n hn m hm => hi n hn (okNs_mem.1 h.2.2.2.2 n hn) m (okNs_mem.1 h'.2.2.2.2 m hm)
  unfold encN
  rw [c_laws_qnNode, t_laws_qnNode, h1, h2]
  simp only [Option.bind_some, unB_mk, eqN]
  cases decide (k = k') <;> cases sEq d d' <;> cases eqNs p p' <;> cases decide (s = s') <;> cases decide (c = c') <;> cases eqNs i i' <;> rfl
end Go.Proofs.YtmddfhjgdhjmkaaDoor.VM
