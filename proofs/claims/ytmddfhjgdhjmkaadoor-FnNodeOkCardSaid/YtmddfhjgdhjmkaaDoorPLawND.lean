/- The laws FnNodeOk and FnReadCost. -/
import Derived.Test.YtmddfhjgdhjmkaaDoorPDn
import Derived.Test.YtmddfhjgdhjmkaaDoorPC
set_option linter.unusedVariables false
set_option linter.unusedSimpArgs false
namespace Go.Proofs.YtmddfhjgdhjmkaaDoor.VM

/-! ### all that is drawn is small -/
theorem okN_of : ∀ n, szN n ≤ 1048576 → okN n := by
  have hr : reachBytes = 140737488351232 := rfl
  refine Nod.ind fun k d p s c i hp hi => ?_
  intro h
  simp only [szN] at h
  unfold okN
  refine ⟨by omega, by omega, by omega, okNs_mem.2 fun n hn => hp n hn ?_, okNs_mem.2 fun n hn => hi n hn ?_⟩
  · have := szT_mem hn; omega
  · have := szT_mem hn; omega
theorem bytes_le {l : List V} (h : l.length * 1 ≤ reachBytes) : l.length ≤ 140737488351232 := by
  have : reachBytes = 140737488351232 := rfl
  omega
theorem dec_len2 (n : Nat) : decide ((1048576 : Int) < Int.ofNat n) = decide (1048576 < n) := by
  rw [Bool.eq_iff_iff, decide_eq_true_eq, decide_eq_true_eq, show Int.ofNat n = (n : Int) from rfl]; omega
theorem draw_tail {b : List V} {q : Nat} {n : Nod} : (unSt 6 (encN n) (unSt 6 (encN n) (unI .i64 (ce (encN n) 0) fun a => unS (ce (encN n) 1) fun t => unL 6 (ce (encN n) 2) fun c => unI .i64 (ce (encN n) 3) fun d => unI .i64 (ce (encN n) 4) fun e => unL 6 (ce (encN n) 5) fun f => (some (.st [.sc (.int .i64 a), .sc (.string t), .sl 6 c, .sc (.int .i64 d), .sc (.int .i64 e), .sl 6 f], []) : Option Res)))) = some (encN n, []) := by
  rw [un_encN]
  obtain ⟨k, dd, p, s, c, i⟩ := n
  rw [encN_mk]
theorem DrawNodeOk_is (l : List V) (h : Byt l) : ∃ n, (D T).call F_spec_DrawNodeOk [.sl 1 l] = some (encN n, []) ∧ szN n ≤ 40000 := by
  obtain ⟨b, hb, ho⟩ := open_is l h
  obtain ⟨n, q, h1, _, _, h2⟩ := any_is hb 0 (by decide)
  refine ⟨n, ?_, h2⟩
  rw [c_spec_DrawNodeOk, t_spec_DrawNodeOk, ho]
  simp only [Option.bind_some, unIo_mk, unI_mk, unL_mk, List.getD_cons_zero, List.getD_cons_succ]
  rw [h1]
  simp only [Option.bind_some, un_rd, l2_rd, al_rd, Bool.and_true, bif_true, unEnd_mk, unI_mk, unL_mk, List.getD_cons_zero, List.getD_cons_succ]
  exact draw_tail (b := b) (q := q)
theorem DrawReadCost_is (l : List V) (h : Byt l) : ∃ n, (D T).call F_spec_DrawReadCost [.sl 1 l] = some (encN n, []) ∧ szN n ≤ 40000 := by
  obtain ⟨b, hb, ho⟩ := open_is l h
  obtain ⟨n, q, h1, _, _, h2⟩ := any_is hb 0 (by decide)
  refine ⟨n, ?_, h2⟩
  rw [c_spec_DrawReadCost, t_spec_DrawReadCost, ho]
  simp only [Option.bind_some, unIo_mk, unI_mk, unL_mk, List.getD_cons_zero, List.getD_cons_succ]
  rw [h1]
  simp only [Option.bind_some, un_rd, l2_rd, al_rd, Bool.and_true, bif_true, unEnd_mk, unI_mk, unL_mk, List.getD_cons_zero, List.getD_cons_succ]
  exact draw_tail (b := b) (q := q)

/-! ### within a node that is ok -/
theorem wdN_parts {k : Int} {d : ByteArray} {p : List Nod} {s c : Int} {i : List Nod} (hk : k ≠ 0) : (∀ n ∈ p, wdN n ≤ wdN (.mk k d p s c i)) ∧ ∀ n ∈ i, wdN n ≤ wdN (.mk k d p s c i) := by
  have hT : ∀ {l : List Nod} {n : Nod}, n ∈ l → wdN n ≤ wdT l := by
    intro l
    induction l with
    | nil => intro n h; cases h
    | cons m l ih =>
      intro n h
      unfold wdT
      rcases List.mem_cons.1 h with rfl | h
      · omega
      · have := ih h; omega
  simp only [wdN, if_neg hk]
  exact ⟨fun n hn => by have := hT hn; omega, fun n hn => by have := hT hn; omega⟩
theorem okB_wf {n : Nod} : okB n = true ↔ wf n = true ∧ dpN n ≤ 8 ∧ wdN n < 200 := by
  unfold okB
  rw [Bool.and_eq_true, okS_iff n 8 (by decide), decide_eq_true_eq, and_assoc]
theorem okB_parts {k : Int} {d : ByteArray} {p : List Nod} {s c : Int} {i : List Nod} (h : okB (.mk k d p s c i) = true) : (∀ n ∈ p, okB n = true) ∧ ∀ n ∈ i, okB n = true := by
  obtain ⟨h1, h2, h3⟩ := okB_wf.1 h
  by_cases hk : k = 0
  · subst hk
    rcases okS_form (okB_okS h) with ⟨_, _, rfl, rfl, _, _⟩ | h1 | h1
    · exact ⟨fun n hn => by (cases hn), fun n hn => by (cases hn)⟩
    · have := (str_c h1).1; cases this
    · have := (lst_c h1).1; cases this
  · obtain ⟨d1, d2, d3⟩ := (dp_iff hk).1 h2
    obtain ⟨w1, w2⟩ := wdN_parts (d := d) (s := s) (c := c) (p := p) (i := i) hk
    rw [wf, Bool.and_eq_true, Bool.or_eq_true, Bool.and_eq_true, wfs_iff, wfs_iff] at h1
    have h1 := h1.2.resolve_left (by simpa using hk)
    exact ⟨fun n hn => okB_wf.2 ⟨h1.1 n hn, by have := d2 n hn; omega, by have := w1 n hn; omega⟩, fun n hn => okB_wf.2 ⟨h1.2 n hn, d3 n hn, by have := w2 n hn; omega⟩⟩
def wrp (n : Nod) : Nod := .mk 1 nul [n] 0 0 []
theorem wrp_wd (n : Nod) : wdN (wrp n) = wdN n + 1 := by
  simp only [wrp, wdN, wdT, List.length_cons, List.length_nil]
  rw [if_neg (by decide), if_neg (by decide)]
  have : nul.size = 0 := rfl
  omega
theorem wrp_sz (n : Nod) : szN (wrp n) = szN n + 1 := by
  simp only [wrp, szN, szT, List.length_cons, List.length_nil]
  have : nul.size = 0 := rfl
  omega
theorem wrp_cost (n : Nod) : costN (wrp n) = costN n + 1 := by
  have h1 : costO (wrp n) = ownW (wrp n) := by
    show (if (1 : Int) = 2 ∧ (0 : Int) = 0 then (0 : Int).toNat else if (1 : Int) = 2 ∧ (0 : Int) = 7 ∧ ownW (wrp n) = 1 then 1 + (0 : Int).toNat else ownW (wrp n)) = ownW (wrp n)
    rw [if_neg (fun h => absurd h.1 (by decide)), if_neg (fun h => absurd h.1 (by decide))]
  have h2 : ownW (wrp n) = 1 := by
    simp only [wrp, ownW, ownIt, List.length_cons, List.length_nil]
    rw [if_neg (by decide), if_neg (by decide)]
    rfl
  have h3 : costN (wrp n) = costO (wrp n) + costT [n] + costI [] := by unfold wrp; rw [costN]
  rw [h3, h1, h2]
  simp only [costT, costI]
  omega
theorem cost_ge : ∀ n, ∀ deep : Int, okS deep n = true → wdN n ≤ costN n := by
  refine Nod.ind2 fun k d p s c i hp hi => ?_
  intro deep hS
  have hwd := wd_ok hS
  obtain ⟨hSp, hSi⟩ := okS_parts hS
  have hT : ∀ l : List Nod, (∀ n ∈ l, wdN n ≤ costN n) → wdT l ≤ costT l := by
    intro l
    induction l with
    | nil => intro _; exact Nat.le_refl _
    | cons n l ih =>
      intro h
      have h1 := h n (List.mem_cons_self ..)
      have h2 := ih fun m hm => h m (List.mem_cons_of_mem _ hm)
      simp only [costT, wdT]
      omega
  have hI : ∀ l : List Nod, (∀ x ∈ l, ∀ n ∈ prs x, wdN n ≤ costN n) → prsT l ≤ costI l := by
    intro l
    induction l with
    | nil => intro _; exact Nat.le_refl _
    | cons x l ih =>
      intro h
      have h1 := hT _ (h x (List.mem_cons_self ..))
      have h2 := ih fun m hm => h m (List.mem_cons_of_mem _ hm)
      obtain ⟨k', d', p', s', c', i'⟩ := x
      simp only [prs] at h1
      simp only [costI, prsT, prs]
      omega
  have h1 := hT p fun n hn => hp n hn _ (okSs_mem hSp n hn)
  have h2 := hI i fun x hx n hn => (hi x hx).2 n hn _ (okSs_mem (okSi_mem hSi x hx) n hn)
  have h3 : ownW (.mk k d p s c i) ≤ costO (.mk k d p s c i) := by
    simp only [costO]
    split
    · rename_i hh
      obtain ⟨rfl, rfl⟩ := hh
      rcases okS_form hS with ⟨h, _⟩ | h1 | h1
      · cases h
      · have := (str_c h1).1; cases this
      · obtain ⟨_, _, _, h2⟩ := lst_c h1
        rcases h2 with ⟨h, _⟩ | ⟨h, _⟩ | ⟨_, rfl, rfl, h4⟩
        · cases h
        · cases h
        · have := plain_size h4
          have e : bytesN (0 : Int).toNat c.toNat = 0 := by unfold bytesN; simp [bitsN]
          rw [e] at this
          simp only [ownW, ownIt, List.length_nil]
          rw [if_neg (by decide), if_neg (by decide)]
          omega
    · split
      · rename_i hh; omega
      · exact Nat.le_refl _
  rw [hwd]
  simp only [costN]
  omega
theorem law_dNodeOk (l : List V) (h : Byt l) : (D T).call F_laws_FnNodeOk [.sl 1 l] = some (.sc (.bool true), []) := by
  rw [c_laws_FnNodeOk, t_laws_FnNodeOk]
  cases decide ((1048576 : Int) < Int.ofNat l.length) with
  | true => rfl
  | false =>
  obtain ⟨n, hd, hsz⟩ := DrawNodeOk_is l h
  have hs : szN n ≤ 1048576 := by omega
  have ok := okN_of n hs
  have hi := impl_NodeOk_is n ok hs
  have hsp := spec_NodeOk_is n ok hs
  have hw := impl_NodeWords_is n ok hs
  have okx := okN_of (wrp n) (by rw [wrp_sz]; omega)
  have hix := impl_NodeOk_is (wrp n) okx (by rw [wrp_sz]; omega)
  have hwx := impl_NodeWords_is (wrp n) okx (by rw [wrp_sz]; omega)
  have hex : encN (wrp n) = .st [.sc (.int .i64 1), .sc (.string nul), .sl 6 [encN n], .sc (.int .i64 0), .sc (.int .i64 0), .sl 6 []] := by unfold wrp; rw [encN_mk]; simp only [encNs]
  rw [hex] at hix hwx
  rw [bif_false, hd, Option.bind_some, un_encN]
  have hparts : okB n = true → (∀ m ∈ prs n, okB m = true) ∧ ∀ m ∈ its n, okB m = true := fun hb => by
    obtain ⟨k, d, p, s, c, i⟩ := n
    exact okB_parts hb
  have hb0 := ok
  obtain ⟨k, d, p, s, c, i⟩ := n
  unfold okN at hb0
  simp only [szN] at hs
  rw [encN_mk] at hi hsp hw hix hwx
  simp only [prs, its] at hparts
  simp only
  rw [hi, Option.bind_some, unB_mk, hsp, Option.bind_some, unB_mk]
  cases hb : okB (.mk k d p s c i) with
  | false => rfl
  | true =>
  obtain ⟨hp, hit⟩ := hparts hb
  simp only [decide_true, Bool.not_true, bif_false]
  have hI : ∀ j, j ≤ i.length → L_laws_FnNodeOk_1 (D T) (j : Int) k d (encNs p) s c (encNs i) = some (.sc (.bool true), []) := by
    refine down ?_ fun j hj ih => ?_
    · rw [L_laws_FnNodeOk_1_eq, tL_laws_FnNodeOk_1, encNs_length, nlt_ofNat, bif_false, hix, Option.bind_some, unB_mk]
      cases hbx : okB (wrp (.mk k d p s c i)) with
      | false => rfl
      | true =>
        rw [Bool.not_true, bif_false, hwx, hw]
        unfold nwN
        rw [hbx, hb, bif_true, bif_true, wrp_wd]
        have hlt : wdN (.mk k d p s c i) < 200 := (okB_wf.1 hb).2.2
        simp only [Option.bind_some, unI_mk]
        rw [wrap_id (by omega) (by omega), decide_eq_true (by omega)]
    · have hm := List.getElem_mem hj
      have hz := szT_mem hm
      rw [L_laws_FnNodeOk_1_eq, tL_laws_FnNodeOk_1, encNs_length, lt_ofNat hj, bif_true, ix_at (encNs_get i j hj), unSt_encN, impl_NodeOk_is _ (okNs_mem.1 hb0.2.2.2.2 _ hm) (by omega), hit _ hm, Option.bind_some, unB_mk, Bool.not_true, bif_false, next_i (by omega), ih]
  have hP : ∀ j, j ≤ p.length → L_laws_FnNodeOk_0 (D T) (j : Int) k d (encNs p) s c (encNs i) = some (.sc (.bool true), []) := by
    refine down ?_ fun j hj ih => ?_
    · rw [L_laws_FnNodeOk_0_eq, tL_laws_FnNodeOk_0, encNs_length, nlt_ofNat, bif_false]
      exact hI 0 (Nat.zero_le _)
    · have hm := List.getElem_mem hj
      have hz := szT_mem hm
      rw [L_laws_FnNodeOk_0_eq, tL_laws_FnNodeOk_0, encNs_length, lt_ofNat hj, bif_true, ix_at (encNs_get p j hj), unSt_encN, impl_NodeOk_is _ (okNs_mem.1 hb0.2.2.2.1 _ hm) (by omega), hp _ hm, Option.bind_some, unB_mk, Bool.not_true, bif_false, next_i (by omega), ih]
  exact hP 0 (Nat.zero_le _)
theorem law_dReadCost (l : List V) (h : Byt l) : (D T).call F_laws_FnReadCost [.sl 1 l] = some (.sc (.bool true), []) := by
  rw [c_laws_FnReadCost, t_laws_FnReadCost]
  cases decide ((1048576 : Int) < Int.ofNat l.length) with
  | true => rfl
  | false =>
  obtain ⟨n, hd, hsz⟩ := DrawReadCost_is l h
  have hs : szN n ≤ 1048576 := by omega
  have ok := okN_of n hs
  have hic := impl_ReadCost_is n ok hs
  have hsc := spec_ReadCost_is n ok hs
  have hsp := spec_NodeOk_is n ok hs
  have hw := impl_NodeWords_is n ok hs
  have okx := okN_of (wrp n) (by rw [wrp_sz]; omega)
  have hix := impl_NodeOk_is (wrp n) okx (by rw [wrp_sz]; omega)
  have hcx := impl_ReadCost_is (wrp n) okx (by rw [wrp_sz]; omega)
  have hex : encN (wrp n) = .st [.sc (.int .i64 1), .sc (.string nul), .sl 6 [encN n], .sc (.int .i64 0), .sc (.int .i64 0), .sl 6 []] := by unfold wrp; rw [encN_mk]; simp only [encNs]
  rw [hex] at hix hcx
  rw [bif_false, hd, Option.bind_some, un_encN]
  have hge : okB n = true → wdN n ≤ costN n ∧ costN n ≤ 12801 + 12803 * szN n := fun hb => ⟨cost_ge n 8 (okB_okS hb), cost_le n 8 (okB_okS hb)⟩
  obtain ⟨k, d, p, s, c, i⟩ := n
  rw [encN_mk] at hic hsc hsp hw hix hcx
  simp only
  rw [hic, Option.bind_some, unI_mk, hsc, Option.bind_some, unI_mk, hsp]
  simp only [decide_true, Bool.not_true, bif_false, Option.bind_some, unB_mk]
  cases hb : okB (.mk k d p s c i) with
  | false => simp [rcN, hb, unI_mk]
  | true =>
  obtain ⟨h1, h2⟩ := hge hb
  simp only [Bool.not_true, bif_false]
  rw [hw, Option.bind_some, unI_mk]
  unfold nwN rcN
  rw [hb, bif_true, bif_true, decide_eq_true (by omega), bif_true, hix, Option.bind_some, unB_mk]
  cases hbx : okB (wrp (.mk k d p s c i)) with
  | false => rfl
  | true =>
    rw [Bool.not_true, bif_false, hcx]
    unfold rcN
    rw [hbx, bif_true, wrp_cost, Option.bind_some, unI_mk, wrap_id (by omega) (by omega), decide_eq_true (by omega)]
end Go.Proofs.YtmddfhjgdhjmkaaDoor.VM
