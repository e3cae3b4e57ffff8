/- Nodes: what it costs to read them, as the program and the reference tell it; the law FnExactReadCost. -/
import Derived.Test.YtmddfhjgdhjmkaaDoorPK
set_option linter.unusedVariables false
set_option linter.unusedSimpArgs false
namespace Go.Proofs.YtmddfhjgdhjmkaaDoor.VM

theorem lst_c {k : Int} {d : ByteArray} {p : List Nod} {s c : Int} {i : List Nod} (h : lstB (.mk k d p s c i) = true) : k = 2 ∧ (0 ≤ s ∧ s ≤ 7) ∧ (0 ≤ c ∧ c ≤ 12800) ∧
      ((s = 6 ∧ d.size = 0 ∧ (p.length : Int) = c ∧ i = []) ∨ (s = 7 ∧ allStr i = true ∧ d.size = 0 ∧ p = [] ∧ (i.length : Int) = c) ∨ (s ≤ 5 ∧ p = [] ∧ i = [] ∧ plainP d s.toNat c.toNat = true)) := by
  simp only [lstB, Bool.and_eq_true, decide_eq_true_eq] at h
  obtain ⟨h1, h2, h3, h4⟩ := h
  refine ⟨h1, h2, h3, ?_⟩
  by_cases h6 : s = 6
  · rw [if_pos_b (decide_eq_true h6)] at h4
    simp only [Bool.and_eq_true, decide_eq_true_eq] at h4
    exact .inl ⟨h6, h4.1, h4.2.1, List.eq_nil_of_length_eq_zero h4.2.2⟩
  rw [if_neg_b (decide_eq_false h6)] at h4
  by_cases h7 : s = 7
  · rw [if_pos_b (decide_eq_true h7)] at h4
    simp only [Bool.and_eq_true, decide_eq_true_eq] at h4
    exact .inr (.inl ⟨h7, h4.1, h4.2.1, List.eq_nil_of_length_eq_zero h4.2.2.1, h4.2.2.2⟩)
  rw [if_neg_b (decide_eq_false h7)] at h4
  simp only [Bool.and_eq_true, decide_eq_true_eq] at h4
  exact .inr (.inr ⟨by omega, List.eq_nil_of_length_eq_zero h4.1, List.eq_nil_of_length_eq_zero h4.2.1, h4.2.2⟩)
theorem str_c {k : Int} {d : ByteArray} {p : List Nod} {s c : Int} {i : List Nod} (h : strB (.mk k d p s c i) = true) : k = 1 ∧ d.size % 8 = 0 ∧ s = 0 ∧ c = 0 ∧ i = [] := by
  simp only [strB, Bool.and_eq_true, decide_eq_true_eq] at h
  exact ⟨h.1, h.2.1, h.2.2.1, h.2.2.2.1, List.eq_nil_of_length_eq_zero h.2.2.2.2⟩
theorem okS_form {k : Int} {d : ByteArray} {p : List Nod} {s c : Int} {i : List Nod} {deep : Int} (h : okS deep (.mk k d p s c i) = true) :
    (k = 0 ∧ d.size = 0 ∧ p = [] ∧ i = [] ∧ s = 0 ∧ c = 0) ∨ strB (.mk k d p s c i) = true ∨ lstB (.mk k d p s c i) = true := by
  rw [okS] at h
  by_cases h0 : k = 0
  · rw [if_pos_b (decide_eq_true h0)] at h
    simp only [Bool.and_eq_true, decide_eq_true_eq] at h
    exact .inl ⟨h0, h.1, List.eq_nil_of_length_eq_zero h.2.1, List.eq_nil_of_length_eq_zero h.2.2.1, h.2.2.2.1, h.2.2.2.2⟩
  · rw [if_neg_b (decide_eq_false h0)] at h
    simp only [Bool.and_eq_true, Bool.or_eq_true] at h
    exact .inr h.2.1
theorem own_str {x : Nod} (h : strB x = true) (hsz : szN x ≤ 1048576) : (D T).call F_impl_Node_own [encN x] = nu ((dat x).size / 8 + (prs x).length : Nat) := by
  obtain ⟨k, d, p, s, c, i⟩ := x
  obtain ⟨rfl, h2, rfl, rfl, rfl⟩ := str_c h
  simp only [szN] at hsz
  rw [encN_mk, c_impl_Node_own, t_impl_Node_own, encNs_length]
  have e1 : IntKind.wrap .i64 (IntKind.wrap .i64 (Int.tdiv (Int.ofNat d.size) 8) + Int.ofNat p.length) = ((d.size / 8 + p.length : Nat) : Int) := by
    rw [show Int.ofNat d.size = (d.size : Int) from rfl, show Int.ofNat p.length = (p.length : Int) from rfl, show (8 : Int) = ((8 : Nat) : Int) from rfl, ← Int.ofNat_tdiv, wrap_id (n := ((d.size / 8 : Nat) : Int)) (by omega) (by omega), wrap_id (by omega) (by omega)]
    omega
  rw [e1]
  rfl
theorem ownIt_like {y : Nod} : ∀ {l : List Nod}, (∀ x ∈ l, likeB y x = true) → ownIt l = l.length * ((dat y).size / 8 + (prs y).length)
  | [], _ => by simp [ownIt]
  | x :: l, h => by
    have h1 := h x (List.mem_cons_self ..)
    rw [ownIt, ownIt_like fun z hz => h z (List.mem_cons_of_mem _ hz)]
    obtain ⟨k, d, p, s, c, i⟩ := x
    obtain ⟨k', d', p', s', c', i'⟩ := y
    simp only [likeB, Bool.and_eq_true, decide_eq_true_eq] at h1
    simp only [dat, prs, List.length_cons, Nat.succ_mul]
    rw [h1.2.1, h1.2.2]
    omega
theorem listWords_is (s c : Nat) (hs : s ≤ 6) (hc : c ≤ 12800) : (D T).call F_impl_listWords [.sc (.int .i64 (s : Nat)), .sc (.int .i64 (c : Nat))] = nu ((bitsN s * c + 63) / 64 : Nat) := by
  have key : ∀ b : Nat, b ≤ 64 → IntKind.wrap .i64 (Int.tdiv (IntKind.wrap .i64 ((IntKind.wrap .i64 ((b : Int) * (c : Int))) + 63)) 64) = (((b * c + 63) / 64 : Nat) : Int) := fun b hb => by
    have h1 : b * c ≤ 819200 := Nat.le_trans (Nat.mul_le_mul hb hc) (by decide)
    have h2 : ((b : Int) * (c : Int)) = ((b * c : Nat) : Int) := by simp
    rw [h2, wrap_id (n := ((b * c : Nat) : Int)) (by omega) (by omega), wrap_id (n := ((b * c : Nat) : Int) + 63) (by omega) (by omega),
      show (((b * c : Nat) : Int) + 63) = ((b * c + 63 : Nat) : Int) by simp, show (64 : Int) = ((64 : Nat) : Int) from rfl, ← Int.ofNat_tdiv, wrap_id (by omega) (by omega)]
  rw [c_impl_listWords, t_impl_listWords]
  have : s = 0 ∨ s = 1 ∨ s = 2 ∨ s = 3 ∨ s = 4 ∨ s = 5 ∨ s = 6 := by omega
  rcases this with rfl | rfl | rfl | rfl | rfl | rfl | rfl
  · exact congrArg nu (key 0 (by decide))
  · exact congrArg nu (key 1 (by decide))
  · exact congrArg nu (key 8 (by decide))
  · exact congrArg nu (key 16 (by decide))
  · exact congrArg nu (key 32 (by decide))
  · exact congrArg nu (key 64 (by decide))
  · exact congrArg nu (key 64 (by decide))
theorem plain_size {d : ByteArray} {s c : Nat} (h : plainP d s c = true) : d.size = bytesN s c := by
  unfold plainP at h
  rw [Bool.and_eq_true, decide_eq_true_eq] at h
  exact h.1
theorem impl_own_is (n : Nod) (hsz : szN n ≤ 1048576) (deep : Int) (hS : okS deep n = true) : (D T).call F_impl_Node_own [encN n] = nu (ownW n) := by
  obtain ⟨k, d, p, s, c, i⟩ := n
  rcases okS_form hS with ⟨rfl, h1, rfl, rfl, rfl, rfl⟩ | h1 | h1
  · rw [encN_mk, c_impl_Node_own, t_impl_Node_own]; rfl
  · rw [own_str h1 hsz]
    obtain ⟨rfl, h2, rfl, rfl, rfl⟩ := str_c h1
    simp only [dat, prs, ownW, ownIt]
    refine congrArg nu ?_
    rw [if_neg (by decide), if_neg (by decide)]
    omega
  · obtain ⟨rfl, hs, hc, h2⟩ := lst_c h1
    rw [encN_mk, c_impl_Node_own, t_impl_Node_own]
    simp only [szN] at hsz
    rcases h2 with ⟨rfl, h3, h4, rfl⟩ | ⟨rfl, h3, h4, rfl, h5⟩ | ⟨h3, rfl, rfl, h4⟩
    · have e := listWords_is 6 p.length (by decide) (by omega)
      rw [h4] at e
      show Option.bind ((D T).call F_impl_listWords [.sc (.int .i64 ((6 : Nat) : Int)), .sc (.int .i64 c)]) _ = _
      rw [e, Option.bind_some, unI_mk]
      simp only [ownW, ownIt, bitsN]
      refine congrArg nu ?_
      rw [if_neg (by decide), if_neg (by decide)]
      omega
    · cases i with
      | nil =>
        have : c = 0 := by simpa using h5.symm
        subst this
        simp only [ownW, ownIt]
        show nu 1 = _
        refine congrArg nu ?_
        rw [if_neg (by decide), if_pos trivial, h4]; rfl
      | cons y l =>
        have hcp : 0 < c := by simp only [List.length_cons] at h5; omega
        have hal := allStr_iff.1 h3
        have hy := hal.2 y (List.mem_cons_self ..)
        have hlk : ∀ x ∈ y :: l, likeB y x = true := fun x hx => List.all_eq_true.1 hal.1 x hx
        have hszy : szN y ≤ 1048576 := by simp only [szT] at hsz; omega
        have ho := own_str hy hszy
        have hown := ownIt_like hlk
        have hle := ownIt_le (y :: l)
        have hg : (encNs (y :: l))[0]? = some (encN y) := by rw [encNs]; rfl
        show (bif decide (0 < c) then exN (encNs (y :: l)) 0 _ else _) = _
        rw [decide_eq_true hcp, bif_true, exN_at hg, unSt_encN, ho, Option.bind_some, unI_mk]
        simp only [ownW]
        refine congrArg nu ?_
        rw [if_neg (by decide), if_pos trivial, h4, List.length_nil, ← h5]
        have e : (((y :: l).length : Int) * (((dat y).size / 8 + (prs y).length : Nat) : Int)) = ((ownIt (y :: l) : Nat) : Int) := by rw [hown]; simp
        rw [e, wrap_id (n := ((ownIt (y :: l) : Nat) : Int)) (by omega) (by omega), wrap_id (by omega) (by omega)]
        omega
    · obtain ⟨s', rfl⟩ := Int.eq_ofNat_of_zero_le hs.1
      obtain ⟨c', rfl⟩ := Int.eq_ofNat_of_zero_le hc.1
      have h4 : plainP d s' c' = true := h4
      have e := listWords_is s' c' (by omega) (by omega)
      have e7 : decide ((s' : Int) = 7) = false := decide_eq_false (by omega)
      have e2 : decide ((2 : Int) = 1) = false := rfl
      have e22 : decide ((2 : Int) = 2) = true := rfl
      rw [e2, e22, e7, e]
      simp only [bif_false, bif_true, Option.bind_some, unI_mk, ownW, ownIt]
      refine congrArg nu ?_
      rw [if_neg (by decide), if_neg (by omega), plain_size h4, List.length_nil]
      unfold bytesN
      omega

/-! ### costs -/
def costO (n : Nod) : Nat := match n with
  | .mk k d p s c i => if k = 2 ∧ s = 0 then c.toNat else if k = 2 ∧ s = 7 ∧ ownW (.mk k d p s c i) = 1 then 1 + c.toNat else ownW (.mk k d p s c i)
mutual
def costN : Nod → Nat
  | .mk k d p s c i => costO (.mk k d p s c i) + costT p + costI i
def costT : List Nod → Nat
  | [] => 0
  | n :: l => costN n + costT l
def costI : List Nod → Nat
  | [] => 0
  | .mk _ _ p _ _ _ :: l => costT p + costI l
end
theorem costT_drop {l : List Nod} {i : Nat} (h : i < l.length) : costT (l.drop i) = costN l[i] + costT (l.drop (i + 1)) := by rw [List.drop_eq_getElem_cons h, costT]
theorem costI_drop {l : List Nod} {i : Nat} (h : i < l.length) : costI (l.drop i) = costT (prs l[i]) + costI (l.drop (i + 1)) := by
  rw [List.drop_eq_getElem_cons h]
  cases l[i]
  rw [costI]; rfl
theorem ownW_le (n : Nod) : ownW n ≤ 1 + (dat n).size + (prs n).length + ownIt (its n) := by
  obtain ⟨k, d, p, s, c, i⟩ := n
  simp only [ownW, dat, prs, its]
  split
  · omega
  · split <;> omega
theorem form_c {k : Int} {d : ByteArray} {p : List Nod} {s c : Int} {i : List Nod} {deep : Int} (h : okS deep (.mk k d p s c i) = true) : 0 ≤ c ∧ c ≤ 12800 := by
  rcases okS_form h with ⟨_, _, _, _, _, rfl⟩ | h1 | h1
  · exact ⟨by decide, by decide⟩
  · obtain ⟨_, _, _, rfl, _⟩ := str_c h1; exact ⟨by decide, by decide⟩
  · exact (lst_c h1).2.2.1
theorem cost_le : ∀ n, ∀ deep : Int, okS deep n = true → costN n ≤ 12801 + 12803 * szN n := by
  refine Nod.ind2 fun k d p s c i hp hi => ?_
  intro deep hS
  obtain ⟨hSp, hSi⟩ := okS_parts hS
  have hT : ∀ l : List Nod, (∀ n ∈ l, costN n ≤ 12801 + 12803 * szN n) → costT l ≤ 12801 * l.length + 12803 * szT l := by
    intro l
    induction l with
    | nil => intro _; simp [costT, szT]
    | cons n l ih =>
      intro h
      have h1 := h n (List.mem_cons_self ..)
      have h2 := ih fun m hm => h m (List.mem_cons_of_mem _ hm)
      simp only [costT, szT, List.length_cons]
      omega
  have hI : ∀ l : List Nod, (∀ x ∈ l, ∀ n ∈ prs x, costN n ≤ 12801 + 12803 * szN n) → ownIt l + costI l ≤ 12803 * szT l := by
    intro l
    induction l with
    | nil => intro _; simp [costI, szT, ownIt]
    | cons x l ih =>
      intro h
      have h1 := hT _ (h x (List.mem_cons_self ..))
      have h2 := ih fun m hm => h m (List.mem_cons_of_mem _ hm)
      obtain ⟨k', d', p', s', c', i'⟩ := x
      simp only [prs] at h1
      simp only [costI, szT, ownIt, szN, dat, prs]
      omega
  have h1 := hT p fun n hn => hp n hn _ (okSs_mem hSp n hn)
  have h2 := hI i fun x hx n hn => (hi x hx).2 n hn _ (okSs_mem (okSi_mem hSi x hx) n hn)
  have h3 := ownW_le (.mk k d p s c i)
  have hc := form_c hS
  simp only [dat, prs, its] at h3
  simp only [costN, costO, szN]
  split
  · omega
  · split <;> omega
theorem costT_le {l : List Nod} {deep : Int} (h : okSs deep l = true) : costT l ≤ 12801 * l.length + 12803 * szT l := by
  induction l with
  | nil => simp [costT, szT]
  | cons n l ih =>
    rw [okSs, Bool.and_eq_true] at h
    have h1 := cost_le n deep h.1
    have h2 := ih h.2
    simp only [costT, szT, List.length_cons]
    omega
theorem costI_le {l : List Nod} {deep : Int} (h : okSi deep l = true) : costI l ≤ 12803 * szT l := by
  induction l with
  | nil => simp [costI, szT]
  | cons x l ih =>
    obtain ⟨k', d', p', s', c', i'⟩ := x
    rw [okSi, Bool.and_eq_true] at h
    have h1 := costT_le h.1
    have h2 := ih h.2
    simp only [costI, szT, szN]
    omega
theorem un_e {R : Type} (n : Nod) (K : Int → ByteArray → List V → Int → Int → List V → Option R) : (unSt 6 (encN n) (unSt 6 (encN n) (unI .i64 (ce (encN n) 0) fun a => unS (ce (encN n) 1) fun b => unL 6 (ce (encN n) 2) fun c => unI .i64 (ce (encN n) 3) fun d => unI .i64 (ce (encN n) 4) fun e => unL 6 (ce (encN n) 5) fun f => K a b c d e f))) =
    match n with | .mk k d p s c i => K k d (encNs p) s c (encNs i) := un_encN n K
theorem spec_cost_is : ∀ n, okN n → szN n ≤ 1048576 → ∀ deep : Int, okS deep n = true → (D T).call F_spec_l4Cost [encN n] = nu (costN n) := by
  refine Nod.ind2 fun k d p s c i hp hi => ?_
  intro h hsz deep hS
  have hok := h
  unfold okN at hok
  have hown := own_is _ h hsz deep hS
  have hle := cost_le _ deep hS
  have hcc := form_c hS
  obtain ⟨hSp, hSi⟩ := okS_parts hS
  have hsz' := hsz
  simp only [szN] at hsz'
  have hpi := costI_le hSi
  have hpt := costT_le hSp
  have hlow := ownW_le (.mk k d p s c i)
  have hoi := ownIt_le i
  simp only [dat, prs, its] at hlow
  rw [encN_mk] at hown ⊢
  have hI : ∀ j, j ≤ i.length → ∀ a : Nat, a + costI (i.drop j) ≤ 1099511627776 → L_spec_l4Cost_1 (D T) (a : Nat) (j : Int) k d (encNs p) s c (encNs i) = nu ((a + costI (i.drop j) : Nat) : Int) := by
    have hil := reach_lt (b := 87) hok.2.2.1
    refine down (fun a ha => ?_) fun j hj ih a ha => ?_
    · rw [L_spec_l4Cost_1_eq, tL_spec_l4Cost_1, encNs_length, nlt_ofNat, List.drop_length]; rfl
    · have hg := encNs_get i j hj
      have hm := List.getElem_mem hj
      have hx := okN_prs (okNs_mem.1 hok.2.2.2.2 _ hm)
      have hpx := (hi _ hm).2
      have hsx := okSi_mem hSi _ hm
      have hsm := szT_mem hm
      have hz : szT (prs i[j]) ≤ szN i[j] := by cases i[j]; simp only [prs, szN]; omega
      rw [costI_drop hj] at ha ⊢
      rw [L_spec_l4Cost_1_eq, tL_spec_l4Cost_1, encNs_length, lt_ofNat hj, bif_true]
      have hQ : ∀ q, q ≤ (prs i[j]).length → ∀ a : Nat, a + (costT ((prs i[j]).drop q) + costI (i.drop (j + 1))) ≤ 1099511627776 → L_spec_l4Cost_2 (D T) (a : Nat) (j : Int) (q : Int) k d (encNs p) s c (encNs i) = nu ((a + (costT ((prs i[j]).drop q) + costI (i.drop (j + 1))) : Nat) : Int) := by
        refine down (fun a ha => ?_) fun q hq ihq a ha => ?_
        · rw [List.drop_length, costT, Nat.zero_add] at ha ⊢
          rw [L_spec_l4Cost_2_eq, tL_spec_l4Cost_2, ix_at hg, ce2_prs, unL_mk, encNs_length, nlt_ofNat, bif_false, next_i (by omega), ih _ ha]
        · have hql := reach_lt (b := 87) hx.2
          have hm2 := List.getElem_mem hq
          have hz2 := szT_mem hm2
          rw [costT_drop hq] at ha ⊢
          have e2 : IntKind.wrap .i64 (((a : Nat) : Int) + ((costN (prs i[j])[q] : Nat) : Int)) = ((a + costN (prs i[j])[q] : Nat) : Int) := by rw [wrap_id (by omega) (by omega)]; omega
          rw [L_spec_l4Cost_2_eq, tL_spec_l4Cost_2, ix_at hg, ce2_prs, unL_mk, encNs_length, lt_ofNat hq, bif_true, ix_at hg, ce2_prs, unL_mk, ix_at (encNs_get (prs i[j]) q hq), unSt_encN, hpx _ hm2 (okNs_mem.1 hx.1 _ hm2) (by omega) _ (okSs_mem hsx _ hm2), Option.bind_some, unI_mk, next_i (by omega), e2, ihq _ (by omega)]
          refine congrArg nu ?_
          omega
      have := hQ 0 (Nat.zero_le _) a (by rw [List.drop_zero]; omega)
      rw [List.drop_zero] at this
      exact this
  have hP : ∀ j, j ≤ p.length → ∀ a : Nat, a + (costT (p.drop j) + costI i) ≤ 1099511627776 → L_spec_l4Cost_0 (D T) (a : Nat) (j : Int) k d (encNs p) s c (encNs i) = nu ((a + (costT (p.drop j) + costI i) : Nat) : Int) := by
    have hpl := reach_lt (b := 87) hok.2.1
    refine down (fun a ha => ?_) fun j hj ih a ha => ?_
    · rw [List.drop_length, costT, Nat.zero_add] at ha ⊢
      rw [L_spec_l4Cost_0_eq, tL_spec_l4Cost_0, encNs_length, nlt_ofNat, bif_false]
      exact hI 0 (Nat.zero_le _) a (by rw [List.drop_zero]; exact ha)
    · have hm := List.getElem_mem hj
      have hz := szT_mem hm
      rw [costT_drop hj] at ha ⊢
      have e2 : IntKind.wrap .i64 (((a : Nat) : Int) + ((costN p[j] : Nat) : Int)) = ((a + costN p[j] : Nat) : Int) := by rw [wrap_id (by omega) (by omega)]; omega
      rw [L_spec_l4Cost_0_eq, tL_spec_l4Cost_0, encNs_length, lt_ofNat hj, bif_true, ix_at (encNs_get p j hj), unSt_encN, hp _ hm (okNs_mem.1 hok.2.2.2.1 _ hm) (by omega) _ (okSs_mem hSp _ hm), Option.bind_some, unI_mk, next_i (by omega), e2, ih _ (by omega)]
      refine congrArg nu ?_
      omega
  have fin : ∀ a : Nat, a ≤ 4294967296 → L_spec_l4Cost_0 (D T) (a : Nat) 0 k d (encNs p) s c (encNs i) = nu ((a + costT p + costI i : Nat) : Int) := fun a ha => by
    have := hP 0 (Nat.zero_le _) a (by rw [List.drop_zero]; omega)
    rw [List.drop_zero, ← Nat.add_assoc] at this
    exact this
  obtain ⟨c', rfl⟩ := Int.eq_ofNat_of_zero_le hcc.1
  rw [c_spec_l4Cost, t_spec_l4Cost, hown, Option.bind_some, unI_mk]
  have w1 : IntKind.wrap .i64 (1 + (c' : Int)) = ((1 + c' : Nat) : Int) := by rw [wrap_id (by omega) (by omega)]; omega
  simp only [costN, costO, Int.toNat_natCast]
  by_cases h2 : k = 2
  case neg =>
    rw [if_neg (fun e => h2 e.1), if_neg (fun e => h2 e.1), decide_eq_false h2]
    exact fin _ (by omega)
  rw [decide_eq_true h2]
  by_cases hs0 : s = 0
  · rw [if_pos ⟨h2, hs0⟩]
    have e0 : decide (s = 0) = true := decide_eq_true hs0
    have e7 : decide (s = 7) = false := decide_eq_false (by omega)
    rw [e0, e7]
    exact fin _ (by omega)
  rw [if_neg (fun e => hs0 e.2), decide_eq_false hs0]
  by_cases hs7 : s = 7
  case neg =>
    rw [if_neg (fun e => hs7 e.2.1), decide_eq_false hs7]
    exact fin _ (by omega)
  rw [decide_eq_true hs7]
  by_cases ho : ownW (.mk k d p s (c' : Int) i) = 1
  · rw [if_pos ⟨h2, hs7, ho⟩, ho]
    show L_spec_l4Cost_0 (D T) (IntKind.wrap .i64 (1 + (c' : Int))) 0 k d (encNs p) s c' (encNs i) = _
    rw [w1]
    exact fin _ (by omega)
  · rw [if_neg (fun e => ho e.2.2)]
    have e1 : decide (((ownW (.mk k d p s (c' : Int) i) : Nat) : Int) = 1) = false := decide_eq_false (by omega)
    rw [e1]
    exact fin _ (by omega)
theorem impl_cost_is : ∀ n, okN n → szN n ≤ 1048576 → ∀ deep : Int, okS deep n = true → (D T).call F_impl_Node_cost [encN n] = nu (costN n) := by
  refine Nod.ind2 fun k d p s c i hp hi => ?_
  intro h hsz deep hS
  have hok := h
  unfold okN at hok
  have hown := impl_own_is _ hsz deep hS
  have hle := cost_le _ deep hS
  have hcc := form_c hS
  obtain ⟨hSp, hSi⟩ := okS_parts hS
  have hsz' := hsz
  simp only [szN] at hsz'
  have hpi := costI_le hSi
  have hpt := costT_le hSp
  have hlow := ownW_le (.mk k d p s c i)
  have hoi := ownIt_le i
  simp only [dat, prs, its] at hlow
  rw [encN_mk] at hown ⊢
  have hI : ∀ j, j ≤ i.length → ∀ a : Nat, a + costI (i.drop j) ≤ 1099511627776 → L_impl_Node_cost_1 (D T) (a : Nat) (encNs i) (Int.ofNat i.length) (j : Int) = nu ((a + costI (i.drop j) : Nat) : Int) := by
    have hil := reach_lt (b := 87) hok.2.2.1
    refine down (fun a ha => ?_) fun j hj ih a ha => ?_
    · rw [L_impl_Node_cost_1_eq, tL_impl_Node_cost_1, nlt_ofNat, List.drop_length]; rfl
    · have hg := encNs_get i j hj
      have hm := List.getElem_mem hj
      have hx := okN_prs (okNs_mem.1 hok.2.2.2.2 _ hm)
      have hpx := (hi _ hm).2
      have hsx := okSi_mem hSi _ hm
      have hsm := szT_mem hm
      have hz : szT (prs i[j]) ≤ szN i[j] := by cases i[j]; simp only [prs, szN]; omega
      rw [costI_drop hj] at ha ⊢
      have hQ : ∀ q, q ≤ (prs i[j]).length → ∀ a : Nat, a + (costT ((prs i[j]).drop q) + costI (i.drop (j + 1))) ≤ 1099511627776 → L_impl_Node_cost_2 (D T) (a : Nat) (encNs i) (Int.ofNat i.length) (j : Int) (encNs (prs i[j])) (Int.ofNat (prs i[j]).length) (q : Int) = nu ((a + (costT ((prs i[j]).drop q) + costI (i.drop (j + 1))) : Nat) : Int) := by
        refine down (fun a ha => ?_) fun q hq ihq a ha => ?_
        · rw [List.drop_length, costT, Nat.zero_add] at ha ⊢
          rw [L_impl_Node_cost_2_eq, tL_impl_Node_cost_2, nlt_ofNat, bif_false, next_i (by omega), ih _ ha]
        · have hql := reach_lt (b := 87) hx.2
          have hm2 := List.getElem_mem hq
          have hz2 := szT_mem hm2
          have hc2 := hpx _ hm2 (okNs_mem.1 hx.1 _ hm2) (by omega) _ (okSs_mem hsx _ hm2)
          rw [costT_drop hq] at ha ⊢
          rw [L_impl_Node_cost_2_eq, tL_impl_Node_cost_2, lt_ofNat hq, bif_true, ix_at (encNs_get (prs i[j]) q hq), un_e]
          generalize (prs i[j])[q] = y at hc2 ha ⊢
          have e2 : IntKind.wrap .i64 (((a : Nat) : Int) + ((costN y : Nat) : Int)) = ((a + costN y : Nat) : Int) := by rw [wrap_id (by omega) (by omega)]; omega
          obtain ⟨k1, d1, p1, s1, c1, i1⟩ := y
          rw [encN_mk] at hc2
          simp only
          rw [hc2, Option.bind_some, unI_mk, next_i (by omega), e2, ihq _ (by omega)]
          refine congrArg nu ?_
          omega
      have hq0 := hQ 0 (Nat.zero_le _) a (by rw [List.drop_zero]; omega)
      rw [List.drop_zero] at hq0
      rw [L_impl_Node_cost_1_eq, tL_impl_Node_cost_1, lt_ofNat hj, bif_true, ix_at hg, un_e]
      generalize i[j] = y at hq0 ⊢
      obtain ⟨k1, d1, p1, s1, c1, i1⟩ := y
      simp only [prs] at hq0
      simp only [encNs_length, prs]
      exact hq0
  have hP : ∀ j, j ≤ p.length → ∀ a : Nat, a + (costT (p.drop j) + costI i) ≤ 1099511627776 → L_impl_Node_cost_0 (D T) (a : Nat) (encNs p) (Int.ofNat p.length) (j : Int) k d (encNs p) s c (encNs i) = nu ((a + (costT (p.drop j) + costI i) : Nat) : Int) := by
    have hpl := reach_lt (b := 87) hok.2.1
    refine down (fun a ha => ?_) fun j hj ih a ha => ?_
    · rw [List.drop_length, costT, Nat.zero_add] at ha ⊢
      rw [L_impl_Node_cost_0_eq, tL_impl_Node_cost_0, nlt_ofNat, bif_false, encNs_length]
      exact hI 0 (Nat.zero_le _) a (by rw [List.drop_zero]; exact ha)
    · have hm := List.getElem_mem hj
      have hz := szT_mem hm
      have hc2 := hp _ hm (okNs_mem.1 hok.2.2.2.1 _ hm) (by omega) _ (okSs_mem hSp _ hm)
      rw [costT_drop hj] at ha ⊢
      rw [L_impl_Node_cost_0_eq, tL_impl_Node_cost_0, lt_ofNat hj, bif_true, ix_at (encNs_get p j hj), un_e]
      generalize p[j] = y at hc2 ha ⊢
      have e2 : IntKind.wrap .i64 (((a : Nat) : Int) + ((costN y : Nat) : Int)) = ((a + costN y : Nat) : Int) := by rw [wrap_id (by omega) (by omega)]; omega
      obtain ⟨k1, d1, p1, s1, c1, i1⟩ := y
      rw [encN_mk] at hc2
      simp only
      rw [hc2, Option.bind_some, unI_mk, next_i (by omega), e2, ih _ (by omega)]
      refine congrArg nu ?_
      omega
  have fin : ∀ a : Nat, a ≤ 4294967296 → L_impl_Node_cost_0 (D T) (a : Nat) (encNs p) (Int.ofNat (encNs p).length) 0 k d (encNs p) s c (encNs i) = nu ((a + costT p + costI i : Nat) : Int) := fun a ha => by
    have := hP 0 (Nat.zero_le _) a (by rw [List.drop_zero]; omega)
    rw [List.drop_zero, ← Nat.add_assoc] at this
    rw [encNs_length]
    exact this
  obtain ⟨c', rfl⟩ := Int.eq_ofNat_of_zero_le hcc.1
  rw [c_impl_Node_cost, t_impl_Node_cost, hown, Option.bind_some, unI_mk]
  have w1 : IntKind.wrap .i64 ((c' : Int) + 1) = ((1 + c' : Nat) : Int) := by rw [wrap_id (by omega) (by omega)]; omega
  simp only [costN, costO, Int.toNat_natCast]
  by_cases h2 : k = 2
  case neg =>
    rw [if_neg (fun e => h2 e.1), if_neg (fun e => h2 e.1), decide_eq_false h2]
    exact fin _ (by omega)
  rw [decide_eq_true h2]
  by_cases hs0 : s = 0
  · rw [if_pos ⟨h2, hs0⟩, decide_eq_true hs0]
    exact fin _ (by omega)
  rw [if_neg (fun e => hs0 e.2), decide_eq_false hs0]
  by_cases hs7 : s = 7
  case neg =>
    rw [if_neg (fun e => hs7 e.2.1), decide_eq_false hs7]
    exact fin _ (by omega)
  rw [decide_eq_true hs7]
  by_cases ho : ownW (.mk k d p s (c' : Int) i) = 1
  · rw [if_pos ⟨h2, hs7, ho⟩, ho]
    show L_impl_Node_cost_0 (D T) (IntKind.wrap .i64 ((c' : Int) + 1)) (encNs p) (Int.ofNat (encNs p).length) 0 k d (encNs p) s c' (encNs i) = _
    rw [w1]
    exact fin _ (by omega)
  · rw [if_neg (fun e => ho e.2.2)]
    have e1 : decide (((ownW (.mk k d p s (c' : Int) i) : Nat) : Int) = 1) = false := decide_eq_false (by omega)
    rw [e1]
    exact fin _ (by omega)
def rcN (n : Nod) : Nat := bif okB n then costN n else 0
theorem okB_okS {n : Nod} (h : okB n = true) : okS 8 n = true := by unfold okB at h; rw [Bool.and_eq_true] at h; exact h.1
theorem impl_ReadCost_is (n : Nod) (h : okN n) (hsz : szN n ≤ 1048576) : (D T).call F_impl_ReadCost [encN n] = nu (rcN n) := by
  have ho := impl_NodeOk_is n h hsz
  have hc := impl_cost_is n h hsz 8
  unfold rcN
  cases hs : okB n with
  | false => rw [hs] at ho; obtain ⟨k, d, p, s, c, i⟩ := n; rw [encN_mk] at ho ⊢; rw [c_impl_ReadCost, t_impl_ReadCost, ho]; rfl
  | true =>
    have hc := hc (okB_okS hs)
    rw [hs] at ho; obtain ⟨k, d, p, s, c, i⟩ := n; rw [encN_mk] at ho hc ⊢; rw [c_impl_ReadCost, t_impl_ReadCost, ho, hc]; rfl
theorem spec_ReadCost_is (n : Nod) (h : okN n) (hsz : szN n ≤ 1048576) : (D T).call F_spec_ReadCost [encN n] = nu (rcN n) := by
  have ho := spec_NodeOk_is n h hsz
  have hc := spec_cost_is n h hsz 8
  unfold rcN
  cases hs : okB n with
  | false => rw [hs] at ho; obtain ⟨k, d, p, s, c, i⟩ := n; rw [encN_mk] at ho ⊢; rw [c_spec_ReadCost, t_spec_ReadCost, ho]; rfl
  | true =>
    have hc := hc (okB_okS hs)
    rw [hs] at ho; obtain ⟨k, d, p, s, c, i⟩ := n; rw [encN_mk] at ho hc ⊢; rw [c_spec_ReadCost, t_spec_ReadCost, ho, hc]; rfl
theorem law_ReadCost (n : Nod) (h : okN n) : (D T).call F_laws_FnExactReadCost [encN n] = some (.sc (.bool true), []) := by
  have h1 := szNode_is n h 1048576 (Nat.le_refl _)
  have h2 := toNode_is n h
  have h3 := eqNode_is n h n h
  rw [eqN_refl] at h3
  have h4 := impl_ReadCost_is n h
  have h5 := spec_ReadCost_is n h
  obtain ⟨k, d, p, s, c, i⟩ := n
  rw [encN_mk] at h1 h2 h3 h4 h5 ⊢
  have h1 : (D T).call F_laws_szNode [.st [.sc (.int .i64 k), .sc (.string d), .sl 6 (encNs p), .sc (.int .i64 s), .sc (.int .i64 c), .sl 6 (encNs i)], .sc (.int .i64 1048576)] = _ := h1
  rw [c_laws_FnExactReadCost, t_laws_FnExactReadCost, h1, Option.bind_some, unI_mk]
  unfold leftI
  by_cases hsz : szN (.mk k d p s c i) ≤ 1048576
  case neg => rw [if_neg hsz]; rfl
  rw [if_pos hsz, decide_eq_false (by omega), bif_false, h2]
  simp only [Option.bind_some]
  have e := un_N (R := Res) (.mk k d p s c i)
  rw [encN_mk] at e
  rw [h5 hsz]
  simp only [Option.bind_some, unB_mk, unI_mk, e, h4 hsz, h3, unSt_mk (R := Res) (n := 6) (cs := [.sc (.int .i64 k), .sc (.string d), .sl 6 (encNs p), .sc (.int .i64 s), .sc (.int .i64 c), .sl 6 (encNs i)]) rfl]
  simp
end Go.Proofs.YtmddfhjgdhjmkaaDoor.VM
