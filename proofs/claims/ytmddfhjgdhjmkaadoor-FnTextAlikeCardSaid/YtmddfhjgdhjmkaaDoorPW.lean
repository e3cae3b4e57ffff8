/- Nodes: the words of the reference are those of the program, where the node is ok. -/
import Derived.Test.YtmddfhjgdhjmkaaDoorPO
set_option linter.unusedVariables false
set_option linter.unusedSimpArgs false
namespace Go.Proofs.YtmddfhjgdhjmkaaDoor.VM

def dat : Nod → ByteArray
  | .mk _ d _ _ _ _ => d
theorem ce1_dat (x : Nod) : ce (encN x) 1 = .sc (.string (dat x)) := by cases x; exact ce1_encN ..
/-- the words of items, without what is within -/
def ownIt : List Nod → Nat
  | [] => 0
  | x :: l => (dat x).size / 8 + (prs x).length + ownIt l
theorem ownIt_drop {l : List Nod} {i : Nat} (h : i < l.length) : ownIt (l.drop i) = (dat l[i]).size / 8 + (prs l[i]).length + ownIt (l.drop (i + 1)) := by rw [List.drop_eq_getElem_cons h, ownIt]
theorem sz_dat (x : Nod) : (dat x).size + (prs x).length ≤ szN x := by cases x; simp only [dat, prs, szN]; omega
theorem ownIt_le : ∀ l, ownIt l ≤ szT l
  | [] => Nat.le_refl _
  | x :: l => by
    have := sz_dat x
    have := ownIt_le l
    simp only [ownIt, szT]
    omega
theorem own_items (k : Int) (d : ByteArray) (p : List Nod) (s c : Int) (i : List Nod) (hl : i.length + szT i ≤ 1048576) :
    ∀ j, j ≤ i.length → ∀ a : Nat, a + ownIt (i.drop j) ≤ 4294967296 → L_spec_l4Own_0 (D T) (a : Nat) (j : Int) k d (encNs p) s c (encNs i) = nu ((a + ownIt (i.drop j) : Nat) : Int) := by
  refine down (fun a ha => ?_) fun j hj ih a ha => ?_
  · rw [L_spec_l4Own_0_eq, tL_spec_l4Own_0, encNs_length, nlt_ofNat, List.drop_length]; rfl
  · have hg := encNs_get i j hj
    rw [ownIt_drop hj] at ha ⊢
    have e1 : IntKind.wrap .i64 (Int.tdiv (Int.ofNat (dat i[j]).size) 8) = (((dat i[j]).size / 8 : Nat) : Int) := by
      rw [show Int.ofNat (dat i[j]).size = ((dat i[j]).size : Int) from rfl, show (8 : Int) = ((8 : Nat) : Int) from rfl, ← Int.ofNat_tdiv, wrap_id (by omega) (by omega)]
    have e2 : IntKind.wrap .i64 (IntKind.wrap .i64 (((a : Nat) : Int) + (((dat i[j]).size / 8 : Nat) : Int)) + Int.ofNat (prs i[j]).length) = ((a + ((dat i[j]).size / 8 + (prs i[j]).length) : Nat) : Int) := by
      rw [show Int.ofNat (prs i[j]).length = ((prs i[j]).length : Int) from rfl, wrap_id (n := ((a : Nat) : Int) + (((dat i[j]).size / 8 : Nat) : Int)) (by omega) (by omega), wrap_id (by omega) (by omega)]
      omega
    rw [L_spec_l4Own_0_eq, tL_spec_l4Own_0, encNs_length, lt_ofNat hj, bif_true, ix_at hg, ce1_dat, unS_mk, ix_at hg, ce2_prs, unL_mk, encNs_length, e1, e2, next_i (by omega), ih _ (by omega), Nat.add_assoc]

def ownW : Nod → Nat
  | .mk k d p s c i => if k = 0 then 0 else (d.size + 7) / 8 + p.length + (if s = 7 then 1 else 0) + ownIt i
theorem own_is (n : Nod) (h : okN n) (hsz : szN n ≤ 1048576) (deep : Int) (hS : okS deep n = true) : (D T).call F_spec_l4Own [encN n] = nu (ownW n) := by
  obtain ⟨k, d, p, s, c, i⟩ := n
  simp only [szN] at hsz
  rw [okS] at hS
  rw [encN_mk, c_spec_l4Own, t_spec_l4Own, encNs_length]
  by_cases h0 : k = 0
  · subst h0
    simp only [ownW, if_pos]
    rfl
  rw [decide_eq_false h0, bif_false, Bool.and_eq_true, Bool.and_eq_true, Bool.or_eq_true] at hS
  simp only [ownW, if_neg h0]
  rcases hS.2.1 with h1 | h1
  · simp only [strB, Bool.and_eq_true, decide_eq_true_eq] at h1
    obtain ⟨rfl, h2, rfl, rfl, h5⟩ := h1
    have hi : i = [] := List.eq_nil_of_length_eq_zero h5
    subst hi
    have e1 : IntKind.wrap .i64 (IntKind.wrap .i64 (Int.tdiv (Int.ofNat d.size) 8) + Int.ofNat p.length) = ((d.size / 8 + p.length : Nat) : Int) := by
      rw [show Int.ofNat d.size = (d.size : Int) from rfl, show Int.ofNat p.length = (p.length : Int) from rfl, show (8 : Int) = ((8 : Nat) : Int) from rfl, ← Int.ofNat_tdiv, wrap_id (n := ((d.size / 8 : Nat) : Int)) (by omega) (by omega), wrap_id (by omega) (by omega)]
      omega
    rw [e1]
    simp only [ownIt]
    show nu _ = nu _
    refine congrArg nu ?_
    rw [if_neg (by decide)]
    omega
  · simp only [lstB, Bool.and_eq_true] at h1
    obtain ⟨h2, h3, h4, h5⟩ := h1
    have hk : k = 2 := of_decide_eq_true h2
    subst hk
    have e7 : IntKind.wrap .i64 (Int.tdiv (IntKind.wrap .i64 ((Int.ofNat d.size) + 7)) 8) = (((d.size + 7) / 8 : Nat) : Int) := by
      rw [show Int.ofNat d.size = (d.size : Int) from rfl, wrap_id (n := (d.size : Int) + 7) (by omega) (by omega), show ((d.size : Int) + 7) = ((d.size + 7 : Nat) : Int) by omega, show (8 : Int) = ((8 : Nat) : Int) from rfl, ← Int.ofNat_tdiv, wrap_id (by omega) (by omega)]
    by_cases h7 : s = 7
    · subst h7
      have h5 : (allStr i && (decide (d.size = 0) && (decide (p.length = 0) && decide ((i.length : Int) = c)))) = true := h5
      simp only [Bool.and_eq_true, decide_eq_true_eq] at h5
      obtain ⟨_, g1, g2, _⟩ := h5
      have hl := own_items 2 d p 7 c i (by omega) 0 (Nat.zero_le _) 1 (by rw [List.drop_zero]; have := ownIt_le i; omega)
      rw [List.drop_zero] at hl
      show L_spec_l4Own_0 (D T) ((1 : Nat) : Int) ((0 : Nat) : Int) 2 d (encNs p) 7 c (encNs i) = _
      rw [hl]
      refine congrArg nu ?_
      rw [if_pos rfl]
      omega
    · by_cases h6 : s = 6
      · subst h6
        have h5 : (decide (d.size = 0) && (decide ((p.length : Int) = c) && decide (i.length = 0))) = true := h5
        simp only [Bool.and_eq_true, decide_eq_true_eq] at h5
        obtain ⟨g1, g2, g3⟩ := h5
        have hi : i = [] := List.eq_nil_of_length_eq_zero g3
        subst hi
        show nu c = _
        refine congrArg nu ?_
        rw [if_neg (by decide), ownIt]
        omega
      · rw [decide_eq_false h6, decide_eq_false h7] at h5
        simp only [bif_false, Bool.and_eq_true, decide_eq_true_eq] at h5
        obtain ⟨g1, g2, _⟩ := h5
        have hi : i = [] := List.eq_nil_of_length_eq_zero g2
        subst hi
        rw [decide_eq_false h7, decide_eq_false h6, e7]
        refine congrArg nu ?_
        rw [if_neg h7, ownIt]
        omega

def prsT : List Nod → Nat
  | [] => 0
  | x :: l => wdT (prs x) + prsT l
theorem prsT_drop {l : List Nod} {i : Nat} (h : i < l.length) : prsT (l.drop i) = wdT (prs l[i]) + prsT (l.drop (i + 1)) := by rw [List.drop_eq_getElem_cons h, prsT]
theorem wd_str {x : Nod} (h : strB x = true) : wdN x = (dat x).size / 8 + (prs x).length + wdT (prs x) := by
  obtain ⟨k, d, p, s, c, i⟩ := x
  simp only [strB, Bool.and_eq_true, decide_eq_true_eq] at h
  obtain ⟨rfl, h2, rfl, rfl, h5⟩ := h
  have hi : i = [] := List.eq_nil_of_length_eq_zero h5
  subst hi
  simp only [wdN, dat, prs, wdT]
  rw [if_neg (by decide), if_neg (by decide)]
  omega
theorem wdT_items : ∀ {l : List Nod}, (∀ x ∈ l, strB x = true) → wdT l = ownIt l + prsT l
  | [], _ => rfl
  | x :: l, h => by
    simp only [wdT, ownIt, prsT]
    rw [wd_str (h x (List.mem_cons_self ..)), wdT_items fun y hy => h y (List.mem_cons_of_mem _ hy)]
    omega
theorem wdT_le (l : List Nod) : wdT l ≤ l.length + 2 * szT l := by
  induction l with
  | nil => simp [wdT, szT]
  | cons n l ih => have := wd_le n; simp only [wdT, szT, List.length_cons]; omega
theorem prsT_le : ∀ l, prsT l ≤ 2 * szT l
  | [] => Nat.le_refl _
  | x :: l => by
    have h1 := wdT_le (prs x)
    have h2 := prsT_le l
    have h3 : (prs x).length + szT (prs x) ≤ szN x := by cases x; simp only [prs, szN]; omega
    simp only [prsT, szT]
    omega
theorem okSs_mem : ∀ {a : Int} {l : List Nod}, okSs a l = true → ∀ n ∈ l, okS a n = true
  | _, [], _, n, h => by cases h
  | a, m :: l, h, n, hn => by
    rw [okSs, Bool.and_eq_true] at h
    rcases List.mem_cons.1 hn with rfl | hn
    · exact h.1
    · exact okSs_mem h.2 n hn
theorem okSi_mem : ∀ {a : Int} {l : List Nod}, okSi a l = true → ∀ x ∈ l, okSs a (prs x) = true
  | _, [], _, n, h => by cases h
  | a, .mk k d p s c i :: l, h, n, hn => by
    rw [okSi, Bool.and_eq_true] at h
    rcases List.mem_cons.1 hn with rfl | hn
    · exact h.1
    · exact okSi_mem h.2 n hn
theorem allStr_mem {l : List Nod} (h : allStr l = true) : ∀ x ∈ l, strB x = true := by
  cases l with
  | nil => exact fun x hx => by cases hx
  | cons y l =>
    intro x hx
    have := List.all_eq_true.1 h x hx
    rw [Bool.and_eq_true] at this
    exact this.1
/-- the words of a node that is ok, by its parts -/
theorem wd_ok {k : Int} {d : ByteArray} {p : List Nod} {s c : Int} {i : List Nod} {deep : Int} (hS : okS deep (.mk k d p s c i) = true) : wdN (.mk k d p s c i) = ownW (.mk k d p s c i) + wdT p + prsT i := by
  rw [okS] at hS
  by_cases h0 : k = 0
  · subst h0
    have hS : (decide (d.size = 0) && (decide (p.length = 0) && (decide (i.length = 0) && (decide (s = 0) && decide (c = 0))))) = true := hS
    simp only [Bool.and_eq_true, decide_eq_true_eq] at hS
    have hp : p = [] := List.eq_nil_of_length_eq_zero hS.2.1
    have hi : i = [] := List.eq_nil_of_length_eq_zero hS.2.2.1
    subst hp; subst hi
    simp [wdN, ownW, wdT, prsT]
  rw [decide_eq_false h0, bif_false, Bool.and_eq_true, Bool.and_eq_true, Bool.or_eq_true] at hS
  have hst : ∀ x ∈ i, strB x = true := by
    rcases hS.2.1 with h1 | h1
    · simp only [strB, Bool.and_eq_true, decide_eq_true_eq] at h1
      have hi : i = [] := List.eq_nil_of_length_eq_zero h1.2.2.2.2
      subst hi
      exact fun x hx => by cases hx
    · simp only [lstB, Bool.and_eq_true] at h1
      obtain ⟨_, _, _, h5⟩ := h1
      by_cases h6 : s = 6
      · subst h6
        have h5 : (decide (d.size = 0) && (decide ((p.length : Int) = c) && decide (i.length = 0))) = true := h5
        simp only [Bool.and_eq_true, decide_eq_true_eq] at h5
        have hi : i = [] := List.eq_nil_of_length_eq_zero h5.2.2
        subst hi
        exact fun x hx => by cases hx
      · rw [decide_eq_false h6, bif_false] at h5
        by_cases h7 : s = 7
        · subst h7
          have h5 : (allStr i && (decide (d.size = 0) && (decide (p.length = 0) && decide ((i.length : Int) = c)))) = true := h5
          rw [Bool.and_eq_true] at h5
          exact allStr_mem h5.1
        · rw [decide_eq_false h7, bif_false, Bool.and_eq_true, Bool.and_eq_true, decide_eq_true_eq, decide_eq_true_eq] at h5
          have hi : i = [] := List.eq_nil_of_length_eq_zero h5.2.1
          subst hi
          exact fun x hx => by cases hx
  have e := wdT_items hst
  simp only [wdN, ownW, if_neg h0]
  rw [e]
  omega

theorem okS_parts {k : Int} {d : ByteArray} {p : List Nod} {s c : Int} {i : List Nod} {deep : Int} (hS : okS deep (.mk k d p s c i) = true) : okSs (deep - 1) p = true ∧ okSi (deep - 1) i = true := by
  rw [okS] at hS
  by_cases h0 : k = 0
  · subst h0
    have hS : (decide (d.size = 0) && (decide (p.length = 0) && (decide (i.length = 0) && (decide (s = 0) && decide (c = 0))))) = true := hS
    simp only [Bool.and_eq_true, decide_eq_true_eq] at hS
    have hp : p = [] := List.eq_nil_of_length_eq_zero hS.2.1
    have hi : i = [] := List.eq_nil_of_length_eq_zero hS.2.2.1
    subst hp; subst hi
    exact ⟨rfl, rfl⟩
  rw [decide_eq_false h0, bif_false, Bool.and_eq_true, Bool.and_eq_true, Bool.and_eq_true] at hS
  exact hS.2.2
theorem l4Words_is : ∀ n, okN n → szN n ≤ 1048576 → ∀ deep : Int, okS deep n = true → (D T).call F_spec_l4Words [encN n] = nu (wdN n) := by
  refine Nod.ind2 fun k d p s c i hp hi => ?_
  intro h hsz deep hS
  have hok := h
  unfold okN at hok
  have hown := own_is _ h hsz deep hS
  have hwd := wd_ok hS
  have hle := wd_le (.mk k d p s c i)
  obtain ⟨hSp, hSi⟩ := okS_parts hS
  have hsz' := hsz
  simp only [szN] at hsz'
  have hpi := prsT_le i
  rw [encN_mk] at hown ⊢
  rw [c_spec_l4Words, t_spec_l4Words, hown, Option.bind_some, unI_mk, hwd]
  have hI : ∀ j, j ≤ i.length → ∀ a : Nat, a + prsT (i.drop j) ≤ 4294967296 → L_spec_l4Words_1 (D T) (a : Nat) (j : Int) k d (encNs p) s c (encNs i) = nu ((a + prsT (i.drop j) : Nat) : Int) := by
    have hil := reach_lt (b := 87) hok.2.2.1
    refine down (fun a ha => ?_) fun j hj ih a ha => ?_
    · rw [L_spec_l4Words_1_eq, tL_spec_l4Words_1, encNs_length, nlt_ofNat, List.drop_length]; rfl
    · have hg := encNs_get i j hj
      have hm := List.getElem_mem hj
      have hx := okN_prs (okNs_mem.1 hok.2.2.2.2 _ hm)
      have hpx := (hi _ hm).2
      have hsx := okSi_mem hSi _ hm
      have hsm := szT_mem hm
      have hz : szT (prs i[j]) ≤ szN i[j] := by cases i[j]; simp only [prs, szN]; omega
      rw [prsT_drop hj] at ha ⊢
      rw [L_spec_l4Words_1_eq, tL_spec_l4Words_1, encNs_length, lt_ofNat hj, bif_true]
      have hQ : ∀ q, q ≤ (prs i[j]).length → ∀ a : Nat, a + (wdT ((prs i[j]).drop q) + prsT (i.drop (j + 1))) ≤ 4294967296 → L_spec_l4Words_2 (D T) (a : Nat) (j : Int) (q : Int) k d (encNs p) s c (encNs i) = nu ((a + (wdT ((prs i[j]).drop q) + prsT (i.drop (j + 1))) : Nat) : Int) := by
        refine down (fun a ha => ?_) fun q hq ihq a ha => ?_
        · rw [List.drop_length, wdT, Nat.zero_add] at ha ⊢
          rw [L_spec_l4Words_2_eq, tL_spec_l4Words_2, ix_at hg, ce2_prs, unL_mk, encNs_length, nlt_ofNat, bif_false, next_i (by omega), ih _ ha]
        · have hql := reach_lt (b := 87) hx.2
          have hm2 := List.getElem_mem hq
          have hz2 := szT_mem hm2
          rw [wdT_drop hq] at ha ⊢
          have e2 : IntKind.wrap .i64 (((a : Nat) : Int) + ((wdN (prs i[j])[q] : Nat) : Int)) = ((a + wdN (prs i[j])[q] : Nat) : Int) := by rw [wrap_id (by omega) (by omega)]; omega
          rw [L_spec_l4Words_2_eq, tL_spec_l4Words_2, ix_at hg, ce2_prs, unL_mk, encNs_length, lt_ofNat hq, bif_true, ix_at hg, ce2_prs, unL_mk, ix_at (encNs_get (prs i[j]) q hq), unSt_encN, hpx _ hm2 (okNs_mem.1 hx.1 _ hm2) (by omega) _ (okSs_mem hsx _ hm2), Option.bind_some, unI_mk, next_i (by omega), e2, ihq _ (by omega)]
          refine congrArg nu ?_
          omega
      have := hQ 0 (Nat.zero_le _) a (by rw [List.drop_zero]; omega)
      rw [List.drop_zero] at this
      exact this
  have hP : ∀ j, j ≤ p.length → ∀ a : Nat, a + (wdT (p.drop j) + prsT i) ≤ 4294967296 → L_spec_l4Words_0 (D T) (a : Nat) (j : Int) k d (encNs p) s c (encNs i) = nu ((a + (wdT (p.drop j) + prsT i) : Nat) : Int) := by
    have hpl := reach_lt (b := 87) hok.2.1
    refine down (fun a ha => ?_) fun j hj ih a ha => ?_
    · rw [List.drop_length, wdT, Nat.zero_add] at ha ⊢
      rw [L_spec_l4Words_0_eq, tL_spec_l4Words_0, encNs_length, nlt_ofNat, bif_false]
      exact hI 0 (Nat.zero_le _) a (by rw [List.drop_zero]; exact ha)
    · have hm := List.getElem_mem hj
      have hz := szT_mem hm
      rw [wdT_drop hj] at ha ⊢
      have e2 : IntKind.wrap .i64 (((a : Nat) : Int) + ((wdN p[j] : Nat) : Int)) = ((a + wdN p[j] : Nat) : Int) := by rw [wrap_id (by omega) (by omega)]; omega
      rw [L_spec_l4Words_0_eq, tL_spec_l4Words_0, encNs_length, lt_ofNat hj, bif_true, ix_at (encNs_get p j hj), unSt_encN, hp _ hm (okNs_mem.1 hok.2.2.2.1 _ hm) (by omega) _ (okSs_mem hSp _ hm), Option.bind_some, unI_mk, next_i (by omega), e2, ih _ (by omega)]
      refine congrArg nu ?_
      omega
  have := hP 0 (Nat.zero_le _) (ownW (.mk k d p s c i)) (by rw [List.drop_zero]; omega)
  rw [List.drop_zero, ← Nat.add_assoc] at this
  exact this
end Go.Proofs.YtmddfhjgdhjmkaaDoor.VM
