/- Nodes that say the same: the law that the program tells it as the reference does. -/
import Derived.Test.YtmddfhjgdhjmkaaDoorPCn
set_option linter.unusedVariables false
set_option linter.unusedSimpArgs false
namespace Go.Proofs.YtmddfhjgdhjmkaaDoor.VM

theorem okN_sz : ∀ n, szN n ≤ 1048576 → okN n := by
  have hr : reachBytes = 140737488351232 := rfl
  refine Nod.ind fun k d p s c i hp hi => ?_
  intro h
  simp only [szN] at h
  unfold okN
  refine ⟨by omega, by omega, by omega, okNs_mem.2 fun n hn => hp n hn ?_, okNs_mem.2 fun n hn => hi n hn ?_⟩
  · have := szT_mem hn; omega
  · have := szT_mem hn; omega
theorem szT_map {f : Nod → Nod} : ∀ {l : List Nod}, (∀ n ∈ l, szN (f n) ≤ szN n) → szT (l.map f) ≤ szT l
  | [], _ => Nat.le_refl _
  | n :: l, h => by
    rw [List.map_cons, szT, szT]
    have h1 := h n (List.mem_cons_self ..)
    have h2 := szT_map fun m hm => h m (List.mem_cons_of_mem _ hm)
    omega
theorem szT_take : ∀ {l : List Nod} {m : Nat}, szT (l.take m) ≤ szT l
  | [], m => by rw [List.take_nil]; exact Nat.le_refl _
  | n :: l, 0 => by rw [List.take_zero, szT]; exact Nat.zero_le _
  | n :: l, m + 1 => by
    rw [List.take_succ_cons, szT, szT]
    have := szT_take (l := l) (m := m)
    omega
theorem szN_cn : ∀ n, szN (cn n) ≤ szN n := by
  refine Nod.ind2 fun k d p s c i hp hi => ?_
  have h1 : szT (cns p) ≤ szT p := by rw [cns_map]; exact szT_map hp
  have h2 := cns_length p
  have hd : (trimD d).size ≤ d.size := by rw [trim_size]; exact tlen_le _ _
  rw [cn]
  by_cases c1 : k = 1
  · rw [decide_eq_true c1, bif_true]
    have h3 := szT_take (l := cns p) (m := lstN (cns p) (cns p).length)
    have h4 := strp_length (cns p)
    have h5 := lstN_le (cns p) (cns p).length
    simp only [szN]
    unfold strp at h4 ⊢
    show (trimD d).size + ((_ + _) + (0 + 0)) ≤ _
    omega
  rw [decide_eq_false c1, bif_false]
  by_cases c2 : k = 2 ∧ s = 6
  · rw [decide_eq_true c2.1, decide_eq_true c2.2]
    simp only [Bool.and_self, bif_true, szN]
    show 0 + ((_ + _) + (0 + 0)) ≤ _
    omega
  have e2 : (decide (k = 2) && decide (s = 6)) = false := by
    rw [Bool.and_eq_false_iff, decide_eq_false_iff_not, decide_eq_false_iff_not]
    by_cases g : k = 2
    · exact .inr fun g' => c2 ⟨g, g'⟩
    · exact .inl g
  rw [e2, bif_false]
  cases (decide (k = 2) && decide (s = 7)) with
  | false =>
    rw [bif_false]
    simp only [szN]
    show d.size + ((0 + 0) + (0 + 0)) ≤ _
    omega
  | true =>
    rw [bif_true]
    have h3 : szT (cutI (cni i)) ≤ szT i := by
      unfold cutI
      generalize dmx (cni i) = u
      generalize pmx (cni i) = v
      rw [cni_map, List.map_map]
      refine szT_map fun x hx => ?_
      obtain ⟨k', d', p', s', c', i'⟩ := x
      have hq := (hi _ hx).2
      show szN (cutX u v (cx (.mk k' d' p' s' c' i'))) ≤ _
      unfold cutX cx
      have q1 : szT (cns p') ≤ szT p' := by rw [cns_map]; exact szT_map hq
      have q2 := szT_take (l := cns p') (m := v)
      have q3 := cns_length p'
      simp only [dat, prs, szN, ByteArray.size_extract, List.length_take]
      show _ + ((_ + _) + (0 + 0)) ≤ _
      omega
    have h4 : (cutI (cni i)).length = i.length := by unfold cutI; rw [List.length_map, cni_length]
    simp only [szN]
    show 0 + ((0 + 0) + (_ + _)) ≤ _
    omega

def alB (n m : Nod) : Bool := okB n && (okB m && eqN (cn n) (cn m))
theorem impl_Alike_is (n m : Nod) (hn : szN n ≤ 1048576) (hm : szN m ≤ 1048576) : (D T).call F_impl_Alike [encN n, encN m] = bo (alB n m) := by
  have h1 := impl_NodeOk_is n (okN_sz n hn) hn
  have h2 := impl_NodeOk_is m (okN_sz m hm) hm
  have h3 := fun h => impl_canon_is n hn 8 (okB_okS h)
  have h4 := fun h => impl_canon_is m hm 8 (okB_okS h)
  have h5 := impl_NodeSame_is (cn n) (okN_sz _ (Nat.le_trans (szN_cn n) hn)) (cn m) (okN_sz _ (Nat.le_trans (szN_cn m) hm))
  unfold alB
  generalize cn n = n' at h3 h5 ⊢
  generalize cn m = m' at h4 h5 ⊢
  generalize okB n = b1 at h1 h3 ⊢
  generalize okB m = b2 at h2 h4 ⊢
  obtain ⟨k, d, p, s, c, i⟩ := n
  obtain ⟨k', d', p', s', c', i'⟩ := m
  rw [encN_mk] at h1 h2 h3 h4 ⊢
  rw [encN_mk, c_impl_Alike, t_impl_Alike, h1, Option.bind_some]
  cases b1 with
  | false => rfl
  | true =>
    dsimp only
    rw [unB_mk, bif_true, h2, Option.bind_some]
    cases b2 with
    | false => rfl
    | true =>
      dsimp only
      rw [unB_mk, bif_true, h3 rfl, Option.bind_some]
      dsimp only
      rw [unSt_encN, h4 rfl, Option.bind_some]
      dsimp only
      rw [unSt_encN, h5, Option.bind_some]
      rfl
theorem spec_Alike_is (n m : Nod) (hn : szN n ≤ 1048576) (hm : szN m ≤ 1048576) : (D T).call F_spec_Alike [encN n, encN m] = bo (alB n m) := by
  have h1 := spec_NodeOk_is n (okN_sz n hn) hn
  have h2 := spec_NodeOk_is m (okN_sz m hm) hm
  have h3 := fun h => spec_canon_is n hn 8 (okB_okS h)
  have h4 := fun h => spec_canon_is m hm 8 (okB_okS h)
  have h5 := l4Same_is (cn n) (okN_sz _ (Nat.le_trans (szN_cn n) hn)) (cn m) (okN_sz _ (Nat.le_trans (szN_cn m) hm))
  unfold alB
  generalize cn n = n' at h3 h5 ⊢
  generalize cn m = m' at h4 h5 ⊢
  generalize okB n = b1 at h1 h3 ⊢
  generalize okB m = b2 at h2 h4 ⊢
  obtain ⟨k, d, p, s, c, i⟩ := n
  obtain ⟨k', d', p', s', c', i'⟩ := m
  rw [encN_mk] at h1 h2 h3 h4 ⊢
  rw [encN_mk, c_spec_Alike, t_spec_Alike, h1, Option.bind_some]
  cases b1 with
  | false => rfl
  | true =>
    dsimp only
    rw [unB_mk, bif_true, h2, Option.bind_some]
    cases b2 with
    | false => rfl
    | true =>
      dsimp only
      rw [unB_mk, bif_true, h3 rfl, Option.bind_some]
      dsimp only
      rw [unSt_encN, h4 rfl, Option.bind_some]
      dsimp only
      rw [unSt_encN, h5, Option.bind_some]
      rfl
theorem law_Alike (n : Nod) (h : okN n) (m : Nod) (h' : okN m) : (D T).call F_laws_FnExactAlike [encN n, encN m] = some (.sc (.bool true), []) := by
  have h1 := szNode_is n h 1048576 (Nat.le_refl _)
  have h1' := fun left hl => szNode_is m h' left hl
  have h2 := toNode_is n h
  have h2' := toNode_is m h'
  have h3 := eqNode_is n h n h
  have h3' := eqNode_is m h' m h'
  rw [eqN_refl] at h3 h3'
  have h4 := impl_Alike_is n m
  have h5 := spec_Alike_is n m
  generalize hz : szN n = zn at h1 h4 h5
  generalize hz' : szN m = zm at h1' h4 h5
  obtain ⟨k, d, p, s, c, i⟩ := n
  obtain ⟨k', d', p', s', c', i'⟩ := m
  simp only [encN_mk] at h1 h1' h2 h2' h3 h3' h4 h5 ⊢
  have h1 : (D T).call F_laws_szNode [.st [.sc (.int .i64 k), .sc (.string d), .sl 6 (encNs p), .sc (.int .i64 s), .sc (.int .i64 c), .sl 6 (encNs i)], .sc (.int .i64 1048576)] = _ := h1
  rw [c_laws_FnExactAlike, t_laws_FnExactAlike, h1, Option.bind_some, unI_mk]
  unfold leftI
  by_cases hsz : zn ≤ 1048576
  case neg => rw [if_neg hsz]; rfl
  rw [if_pos hsz, decide_eq_false (by omega), bif_false]
  rw [h1' _ (by omega), Option.bind_some, unI_mk]
  unfold leftI
  by_cases hsz' : zm ≤ 1048576 - zn
  case neg => rw [if_neg hsz']; rfl
  rw [if_pos hsz', decide_eq_false (by omega), bif_false, h2, h2']
  have e := un_f (R := Res) (.mk k d p s c i)
  have e' := un_f (R := Res) (.mk k' d' p' s' c' i')
  rw [encN_mk] at e e'
  have h4 := h4 hsz (by omega)
  have h5 := h5 hsz (by omega)
  simp only [Option.bind_some, unSt_mk (R := Res) (n := 6) (cs := [.sc (.int .i64 k), .sc (.string d), .sl 6 (encNs p), .sc (.int .i64 s), .sc (.int .i64 c), .sl 6 (encNs i)]) rfl, unSt_mk (R := Res) (n := 6) (cs := [.sc (.int .i64 k'), .sc (.string d'), .sl 6 (encNs p'), .sc (.int .i64 s'), .sc (.int .i64 c'), .sl 6 (encNs i')]) rfl, h5, unB_mk, e, e', h4, h3, h3']
  simp
end Go.Proofs.YtmddfhjgdhjmkaaDoor.VM
