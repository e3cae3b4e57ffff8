/- Nodes: ok and words, as the reference tells them. -/
import Derived.Test.YtmddfhjgdhjmkaaDoorPMe
set_option linter.unusedVariables false
set_option linter.unusedSimpArgs false
namespace Go.Proofs.YtmddfhjgdhjmkaaDoor.VM

mutual
def okS : Int → Nod → Bool
  | deep, .mk k d p s c i => bif decide (k = 0) then decide (d.size = 0) && (decide (p.length = 0) && (decide (i.length = 0) && (decide (s = 0) && decide (c = 0))))
    else decide (1 ≤ deep) && ((strB (.mk k d p s c i) || lstB (.mk k d p s c i)) && (okSs (deep - 1) p && okSi (deep - 1) i))
def okSs : Int → List Nod → Bool
  | _, [] => true
  | deep, n :: l => okS deep n && okSs deep l
def okSi : Int → List Nod → Bool
  | _, [] => true
  | deep, .mk _ _ p _ _ _ :: l => okSs deep p && okSi deep l
end
theorem okSs_drop {a : Int} {l : List Nod} {i : Nat} (h : i < l.length) : okSs a (l.drop i) = (okS a l[i] && okSs a (l.drop (i + 1))) := by rw [List.drop_eq_getElem_cons h, okSs]
def prs : Nod → List Nod
  | .mk _ _ p _ _ _ => p
theorem Nod.ind2 {P : Nod → Prop} (h : ∀ k d p s c i, (∀ n ∈ p, P n) → (∀ x ∈ i, P x ∧ ∀ n ∈ prs x, P n) → P (.mk k d p s c i)) : ∀ n, P n := fun n =>
  (Nod.ind (Q := fun n => P n ∧ ∀ m ∈ prs n, P m) (fun k d p s c i hp hi => ⟨h k d p s c i (fun n hn => (hp n hn).1) hi, fun m hm => (hp m hm).1⟩) n).1
theorem okSi_drop {a : Int} {l : List Nod} {i : Nat} (h : i < l.length) : okSi a (l.drop i) = (okSs a (prs l[i]) && okSi a (l.drop (i + 1))) := by
  rw [List.drop_eq_getElem_cons h]
  cases l[i]
  rw [okSi]; rfl
theorem ce2_prs (x : Nod) : ce (encN x) 2 = .sl 6 (encNs (prs x)) := by cases x; exact ce2_encN ..
theorem okN_prs {x : Nod} (h : okN x) : okNs (prs x) ∧ (prs x).length * 88 ≤ reachBytes := by
  cases x
  unfold okN at h
  exact ⟨h.2.2.2.1, h.2.1⟩
theorem l4Ok_is : ∀ n, okN n → ∀ deep : Int, 0 ≤ deep → deep ≤ 1000 → (D T).call F_spec_l4Ok [encN n, .sc (.int .i64 deep)] = bo (okS deep n) := by
  refine Nod.ind2 fun k d p s c i hp hi => ?_
  intro h deep hd0 hd1
  have hok := h
  unfold okN at hok
  have hst := strB_is (.mk k d p s c i)
  have hls := l4List_is _ h
  rw [encN_mk] at hst hls ⊢
  rw [c_spec_l4Ok, t_spec_l4Ok, hst, hls]
  simp only [Option.bind_some, unB_mk, sEq_emp, encNs_length, len0]
  rw [okS]
  cases hk : decide (k = 0) with
  | true =>
    simp only [bif_true]
    cases decide (d.size = 0) <;> cases decide (p.length = 0) <;> cases decide (i.length = 0) <;> cases decide (s = 0) <;> rfl
  | false =>
  simp only [bif_false]
  by_cases hdp : deep < 1
  · rw [decide_eq_true hdp, decide_eq_false (show ¬ 1 ≤ deep by omega)]; rfl
  rw [decide_eq_false hdp, decide_eq_true (show 1 ≤ deep by omega), bif_false, Bool.true_and]
  have w1 : IntKind.wrap .i64 (deep - 1) = deep - 1 := wrap_id (by omega) (by omega)
  -- the pointers of the items
  have hI : ∀ j, j ≤ i.length → L_spec_l4Ok_1 (D T) deep (j : Int) k d (encNs p) s c (encNs i) = bo (okSi (deep - 1) (i.drop j)) := by
    have hil := reach_lt (b := 87) hok.2.2.1
    refine down ?_ fun j hj ih => ?_
    · rw [L_spec_l4Ok_1_eq, tL_spec_l4Ok_1, encNs_length, nlt_ofNat, List.drop_length]; rfl
    · have hg := encNs_get i j hj
      have hm := List.getElem_mem hj
      have hx := okN_prs (okNs_mem.1 hok.2.2.2.2 _ hm)
      have hpx := (hi _ hm).2
      rw [L_spec_l4Ok_1_eq, tL_spec_l4Ok_1, encNs_length, lt_ofNat hj, bif_true, okSi_drop hj]
      have hQ : ∀ q, q ≤ (prs i[j]).length → L_spec_l4Ok_2 (D T) deep (j : Int) (q : Int) k d (encNs p) s c (encNs i) = bo (okSs (deep - 1) ((prs i[j]).drop q) && okSi (deep - 1) (i.drop (j + 1))) := by
        refine down ?_ fun q hq ihq => ?_
        · rw [L_spec_l4Ok_2_eq, tL_spec_l4Ok_2, ix_at hg, ce2_prs, unL_mk, encNs_length, nlt_ofNat, bif_false, next_i (by omega), ih, List.drop_length, okSs, Bool.true_and]
        · have hql := reach_lt (b := 87) hx.2
          have hm2 := List.getElem_mem hq
          rw [L_spec_l4Ok_2_eq, tL_spec_l4Ok_2, ix_at hg, ce2_prs, unL_mk, encNs_length, lt_ofNat hq, bif_true, ix_at hg, ce2_prs, unL_mk, ix_at (encNs_get (prs i[j]) q hq), unSt_encN, w1, hpx _ hm2 (okNs_mem.1 hx.1 _ hm2) (deep - 1) (by omega) (by omega), Option.bind_some, unB_mk, next_i (by omega), ihq, okSs_drop hq]
          cases okS (deep - 1) (prs i[j])[q] <;> rfl
      exact hQ 0 (Nat.zero_le _)
  have hP : ∀ j, j ≤ p.length → L_spec_l4Ok_0 (D T) deep (j : Int) k d (encNs p) s c (encNs i) = bo (okSs (deep - 1) (p.drop j) && okSi (deep - 1) i) := by
    have hpl := reach_lt (b := 87) hok.2.1
    refine down ?_ fun j hj ih => ?_
    · rw [L_spec_l4Ok_0_eq, tL_spec_l4Ok_0, encNs_length, nlt_ofNat, List.drop_length, bif_false, okSs, Bool.true_and]
      exact hI 0 (Nat.zero_le _)
    · have hm := List.getElem_mem hj
      rw [L_spec_l4Ok_0_eq, tL_spec_l4Ok_0, encNs_length, lt_ofNat hj, bif_true, ix_at (encNs_get p j hj), unSt_encN, w1, hp _ hm (okNs_mem.1 hok.2.2.2.1 _ hm) (deep - 1) (by omega) (by omega), Option.bind_some, unB_mk, next_i (by omega), ih, okSs_drop hj]
      cases okS (deep - 1) p[j] <;> rfl
  have hP0 : L_spec_l4Ok_0 (D T) deep 0 k d (encNs p) s c (encNs i) = bo (okSs (deep - 1) p && okSi (deep - 1) i) := hP 0 (Nat.zero_le _)
  cases strB (.mk k d p s c i) with
  | true => simp only [Bool.not_true, bif_false, Bool.true_or, Bool.true_and]; exact hP0
  | false =>
    simp only [Bool.not_false, bif_true, Bool.false_or]
    cases lstB (.mk k d p s c i) with
    | false => rfl
    | true => exact hP0
end Go.Proofs.YtmddfhjgdhjmkaaDoor.VM
