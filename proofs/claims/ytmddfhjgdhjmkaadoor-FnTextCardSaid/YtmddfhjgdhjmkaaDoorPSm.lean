/- Nodes: that two are the same, told by the program and by the reference. -/
import Derived.Test.YtmddfhjgdhjmkaaDoorEqC
import Derived.Test.YtmddfhjgdhjmkaaDoorPK
set_option linter.unusedVariables false
set_option linter.unusedSimpArgs false
namespace Go.Proofs.YtmddfhjgdhjmkaaDoor.VM

theorem eqFn_of (xs ys : List Nod) (hx : xs.length ≤ 140737488351232) (he : ∀ n ∈ xs, ∀ m ∈ ys, (D T).call F_impl_NodeSame [encN n, encN m] = bo (eqN n m)) :
    (D T).call F_slices_EqualFunc_impl_Node_impl_Node_impl_Node_impl_Node [.sl 6 (encNs xs), .sl 6 (encNs ys), .sc (.func (.func F_impl_NodeSame) (.mk []) (.mk []))] = bo (eqNs xs ys) := by
  rw [c_slices_EqualFunc_impl_Node_impl_Node_impl_Node_impl_Node, t_slices_EqualFunc_impl_Node_impl_Node_impl_Node_impl_Node]
  simp only [encNs_length]
  by_cases h : ys.length = xs.length
  case neg => rw [dec_len h, eqNs_ne h]; rfl
  have hL : ∀ i, i ≤ xs.length → L_slices_EqualFunc_impl_Node_impl_Node_impl_Node_impl_Node_0 (D T) (encNs ys) (encNs xs) (Int.ofNat xs.length) (i : Int) = bo (eqNs (xs.drop i) (ys.drop i)) := by
    refine down ?_ fun i hi ih => ?_
    · rw [L_slices_EqualFunc_impl_Node_impl_Node_impl_Node_impl_Node_0_eq, tL_slices_EqualFunc_impl_Node_impl_Node_impl_Node_impl_Node_0, nlt_ofNat, eqNs_drop_end h]; rfl
    · have hc := he _ (List.getElem_mem hi) _ (List.getElem_mem (l := ys) (n := i) (by omega))
      rw [eqNs_drop hi (by omega)]
      rw [L_slices_EqualFunc_impl_Node_impl_Node_impl_Node_impl_Node_0_eq, tL_slices_EqualFunc_impl_Node_impl_Node_impl_Node_impl_Node_0, lt_ofNat hi, bif_true, ix_at (encNs_get xs i hi), next_i (by omega), ih]
      generalize xs[i] = x at hc ⊢
      obtain ⟨k, d, p, s, c, i'⟩ := x
      rw [un_encN]
      dsimp only
      rw [ix_at (encNs_get ys i (by omega))]
      generalize ys[i] = y at hc ⊢
      obtain ⟨k', d', p', s', c', i''⟩ := y
      rw [encN_mk] at hc
      rw [encN_mk] at hc
      rw [un_encN]
      dsimp only
      simp only [hc, Option.bind_some, unB_mk]
      cases eqN (.mk k d p s c i') (.mk k' d' p' s' c' i'') <;> rfl
  rw [dec_len_eq h, Bool.not_true, bif_false]
  exact hL 0 (Nat.zero_le _)
theorem impl_NodeSame_is : ∀ n, okN n → ∀ m, okN m → (D T).call F_impl_NodeSame [encN n, encN m] = bo (eqN n m) := by
  refine Nod.ind fun k d p s c i hp hi => ?_
  intro h m h'
  obtain ⟨k', d', p', s', c', i'⟩ := m
  unfold okN at h h'
  have h1 := eqFn_of p p' (reach_lt (b := 87) h.2.1) fun n hn m hm => hp n hn (okNs_mem.1 h.2.2.2.1 n hn) m (okNs_mem.1 h'.2.2.2.1 m hm)
  have h2 := eqFn_of i i' (reach_lt (b := 87) h.2.2.1) fun n hn m hm => hi n hn (okNs_mem.1 h.2.2.2.2 n hn) m (okNs_mem.1 h'.2.2.2.2 m hm)
  unfold encN
  rw [c_impl_NodeSame, t_impl_NodeSame, h1, h2]
  simp only [Option.bind_some, unB_mk, eqN]
  cases decide (k = k') <;> cases sEq d d' <;> cases eqNs p p' <;> cases decide (s = s') <;> cases decide (c = c') <;> cases eqNs i i' <;> rfl
theorem l4Same_is : ∀ n, okN n → ∀ m, okN m → (D T).call F_spec_l4Same [encN n, encN m] = bo (eqN n m) := by
  refine Nod.ind fun k d p s c i hp hi => ?_
  intro h m h'
  obtain ⟨k', d', p', s', c', i'⟩ := m
  unfold okN at h h'
  have hpl := reach_lt (b := 87) h.2.1
  have hil := reach_lt (b := 87) h.2.2.1
  unfold encN
  rw [c_spec_l4Same, t_spec_l4Same]
  simp only [eqN, encNs_length]
  by_cases hlp : p'.length = p.length
  case neg => rw [dec_len hlp, eqNs_ne hlp]; cases decide (k = k') <;> cases sEq d d' <;> cases decide (s = s') <;> cases decide (c = c') <;> rfl
  by_cases hli : i'.length = i.length
  case neg => rw [dec_len hli, eqNs_ne hli]; cases decide (k = k') <;> cases sEq d d' <;> cases decide (s = s') <;> cases decide (c = c') <;> cases eqNs p p' <;> cases decide (Int.ofNat p.length = Int.ofNat p'.length) <;> rfl
  rw [dec_len_eq hlp, dec_len_eq hli]
  have hI : ∀ j, j ≤ i.length → L_spec_l4Same_1 (D T) (j : Int) k d (encNs p) s c (encNs i) k' d' (encNs p') s' c' (encNs i') = bo (eqNs (i.drop j) (i'.drop j)) := by
    refine down ?_ fun j hj ih => ?_
    · rw [L_spec_l4Same_1_eq, tL_spec_l4Same_1, encNs_length, nlt_ofNat, eqNs_drop_end hli]; rfl
    · have hc := hi _ (List.getElem_mem hj) (okNs_mem.1 h.2.2.2.2 _ (List.getElem_mem hj)) _ (okNs_mem.1 h'.2.2.2.2 _ (List.getElem_mem (l := i') (n := j) (by omega)))
      rw [L_spec_l4Same_1_eq, tL_spec_l4Same_1, encNs_length, lt_ofNat hj, bif_true, ix_at (encNs_get i j hj), unSt_encN, ix_at (encNs_get i' j (by omega)), unSt_encN, hc, Option.bind_some, unB_mk, next_i (by omega), ih, eqNs_drop hj (by omega)]
      cases eqN i[j] (i'[j]'(by omega)) <;> rfl
  have hP : ∀ j, j ≤ p.length → L_spec_l4Same_0 (D T) (j : Int) k d (encNs p) s c (encNs i) k' d' (encNs p') s' c' (encNs i') = bo (eqNs (p.drop j) (p'.drop j) && eqNs i i') := by
    refine down ?_ fun j hj ih => ?_
    · rw [L_spec_l4Same_0_eq, tL_spec_l4Same_0, encNs_length, nlt_ofNat, eqNs_drop_end hlp, bif_false]
      exact hI 0 (Nat.zero_le _)
    · have hc := hp _ (List.getElem_mem hj) (okNs_mem.1 h.2.2.2.1 _ (List.getElem_mem hj)) _ (okNs_mem.1 h'.2.2.2.1 _ (List.getElem_mem (l := p') (n := j) (by omega)))
      rw [L_spec_l4Same_0_eq, tL_spec_l4Same_0, encNs_length, lt_ofNat hj, bif_true, ix_at (encNs_get p j hj), unSt_encN, ix_at (encNs_get p' j (by omega)), unSt_encN, hc, Option.bind_some, unB_mk, next_i (by omega), ih, eqNs_drop hj (by omega)]
      cases eqN p[j] (p'[j]'(by omega)) <;> rfl
  have := hP 0 (Nat.zero_le _)
  rw [List.drop_zero, List.drop_zero] at this
  rw [show ((0 : Nat) : Int) = 0 from rfl] at this
  rw [this]
  cases decide (k = k') <;> cases sEq d d' <;> cases decide (s = s') <;> cases decide (c = c') <;> cases eqNs p p' <;> cases eqNs i i' <;> rfl
end Go.Proofs.YtmddfhjgdhjmkaaDoor.VM
