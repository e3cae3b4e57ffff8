/- Nodes: how deep they are and how many words they take, as the program measures them. -/
import Derived.Test.YtmddfhjgdhjmkaaDoorPM
set_option linter.unusedVariables false
set_option linter.unusedSimpArgs false
namespace Go.Proofs.YtmddfhjgdhjmkaaDoor.VM

mutual
def wdN : Nod → Nat
  | .mk k d p s c i => if k = 0 then 0 else (d.size + 7) / 8 + p.length + (if s = 7 then 1 else 0) + wdT p + wdT i
def wdT : List Nod → Nat
  | [] => 0
  | n :: l => wdN n + wdT l
end
mutual
def dpN : Nod → Int
  | .mk k d p s c i => if k = 0 then 0 else dpI (dpP 0 p) i + 1
def dpP (a : Int) : List Nod → Int
  | [] => a
  | n :: l => dpP (if a < dpN n then dpN n else a) l
def dpI (a : Int) : List Nod → Int
  | [] => a
  | n :: l => dpI (if a < dpN n - 1 then dpN n - 1 else a) l
end
mutual
def mok : Int → Nod → Bool
  | left, .mk k d p s c i => shpB (.mk k d p s c i) && (decide (0 ≤ left) && (decide (k = 0) || (moks (left - 1) p && moks left i)))
def moks : Int → List Nod → Bool
  | _, [] => true
  | left, n :: l => mok left n && moks left l
end
theorem wd_le : ∀ n, wdN n ≤ 1 + 2 * szN n := by
  refine Nod.ind fun k d p s c i hp hi => ?_
  have hT : ∀ l : List Nod, (∀ n ∈ l, wdN n ≤ 1 + 2 * szN n) → wdT l ≤ l.length + 2 * szT l := by
    intro l
    induction l with
    | nil => intro _; simp [wdT, szT]
    | cons n l ih =>
      intro h
      have h1 := h n (List.mem_cons_self ..)
      have h2 := ih fun m hm => h m (List.mem_cons_of_mem _ hm)
      simp only [wdT, szT, List.length_cons]
      omega
  have h1 := hT p hp
  have h2 := hT i hi
  simp only [wdN, szN]
  split
  · omega
  · split <;> omega
theorem dp_le : ∀ n, 0 ≤ dpN n ∧ dpN n ≤ 1 + (szN n : Int) := by
  refine Nod.ind fun k d p s c i hp hi => ?_
  have hP : ∀ (l : List Nod), (∀ n ∈ l, 0 ≤ dpN n ∧ dpN n ≤ 1 + (szN n : Int)) → ∀ (a B : Int), 0 ≤ a → a ≤ B → 0 ≤ dpP a l ∧ dpP a l ≤ B + (l.length + szT l : Nat) := by
    intro l
    induction l with
    | nil => intro _ a B h0 hB; simp only [dpP, szT, List.length_nil]; omega
    | cons n l ih =>
      intro h a B h0 hB
      have h1 := h n (List.mem_cons_self ..)
      have h2 := ih (fun m hm => h m (List.mem_cons_of_mem _ hm)) (if a < dpN n then dpN n else a) (B + 1 + szN n) (by split <;> omega) (by split <;> omega)
      simp only [dpP, szT, List.length_cons]
      omega
  have hI : ∀ (l : List Nod), (∀ n ∈ l, 0 ≤ dpN n ∧ dpN n ≤ 1 + (szN n : Int)) → ∀ (a B : Int), 0 ≤ a → a ≤ B → 0 ≤ dpI a l ∧ dpI a l ≤ B + (l.length + szT l : Nat) := by
    intro l
    induction l with
    | nil => intro _ a B h0 hB; simp only [dpI, szT, List.length_nil]; omega
    | cons n l ih =>
      intro h a B h0 hB
      have h1 := h n (List.mem_cons_self ..)
      have h2 := ih (fun m hm => h m (List.mem_cons_of_mem _ hm)) (if a < dpN n - 1 then dpN n - 1 else a) (B + 1 + szN n) (by split <;> omega) (by split <;> omega)
      simp only [dpI, szT, List.length_cons]
      omega
  have h1 := hP p hp 0 0 (by omega) (by omega)
  have h2 := hI i hi (dpP 0 p) _ h1.1 h1.2
  simp only [dpN, szN]
  split <;> omega
theorem wdT_drop {l : List Nod} {i : Nat} (h : i < l.length) : wdT (l.drop i) = wdN l[i] + wdT (l.drop (i + 1)) := by rw [List.drop_eq_getElem_cons h, wdT]
theorem szT_mem : ∀ {l : List Nod} {n : Nod}, n ∈ l → szN n ≤ szT l
  | [], n, h => by cases h
  | m :: l, n, h => by
    unfold szT
    rcases List.mem_cons.1 h with rfl | h
    · omega
    · have := szT_mem h; omega
theorem moks_drop {a : Int} {l : List Nod} {i : Nat} (h : i < l.length) : moks a (l.drop i) = (mok a l[i] && moks a (l.drop (i + 1))) := by rw [List.drop_eq_getElem_cons h, moks]
theorem dpP_drop {a : Int} {l : List Nod} {i : Nat} (h : i < l.length) : dpP a (l.drop i) = dpP (if a < dpN l[i] then dpN l[i] else a) (l.drop (i + 1)) := by rw [List.drop_eq_getElem_cons h, dpP]
theorem dpI_drop {a : Int} {l : List Nod} {i : Nat} (h : i < l.length) : dpI a (l.drop i) = dpI (if a < dpN l[i] - 1 then dpN l[i] - 1 else a) (l.drop (i + 1)) := by rw [List.drop_eq_getElem_cons h, dpI]
/-- what measured answers -/
abbrev tri (a b : Int) (c : Bool) : Option Res := some (.tup [.sc (.int .i64 a), .sc (.int .i64 b), .sc (.bool c)], [])
abbrev meaR (left : Int) (n : Nod) : Option Res := bif mok left n then tri (dpN n) (wdN n) true else tri 0 0 false
theorem un_tri {R : Type} {a b : Int} {c : Bool} {o : List V} {K : Int → Int → Bool → Option R} :
    (unTup 3 (Prod.fst ((V.tup [.sc (.int .i64 a), .sc (.int .i64 b), .sc (.bool c)], o) : Res)) fun v => unI .i64 (List.getD (α := V) v 0 .dead) fun x => unI .i64 (List.getD (α := V) v 1 .dead) fun y => unB (List.getD (α := V) v 2 .dead) fun z => K x y z) = K a b c := rfl

theorem mea_items (l : List Nod) (hl : l.length ≤ 1048576) (left : Int)
    (ih : ∀ n ∈ l, (D T).call F_impl_Node_measured [encN n, .sc (.int .i64 left)] = meaR left n) (hd : ∀ n ∈ l, 0 ≤ dpN n ∧ dpN n ≤ 1048577) (hw : ∀ n ∈ l, wdN n ≤ 2097153) :
    ∀ j, j ≤ l.length → ∀ (dp : Int) (w : Nat), 0 ≤ dp → dp ≤ 1048577 → w + wdT (l.drop j) ≤ 4611686018427387904 →
      L_impl_Node_measured_1 (D T) left dp (w : Nat) (encNs l) (Int.ofNat l.length) (j : Int) = bif moks left (l.drop j) then tri (dpI dp (l.drop j) + 1) ((w + wdT (l.drop j) : Nat) : Int) true else tri 0 0 false := by
  refine down (fun dp w h0 h1 hB => ?_) fun j hj ihj dp w h0 h1 hB => ?_
  · rw [L_impl_Node_measured_1_eq, tL_impl_Node_measured_1, nlt_ofNat, List.drop_length, bif_false]
    simp only [moks, dpI, wdT, bif_true, Nat.add_zero]
    rw [wrap_id (by omega) (by omega)]
  · have hm := List.getElem_mem hj
    have h2 := ih _ hm
    have h3 := hd _ hm
    have h4 := hw _ hm
    rw [wdT_drop hj] at hB ⊢
    rw [L_impl_Node_measured_1_eq, tL_impl_Node_measured_1, lt_ofNat hj, bif_true, ix_at (encNs_get l j hj), un_encN, moks_drop hj, dpI_drop hj]
    generalize l[j] = x at h2 h3 h4 hB ⊢
    have hx : encN x = match x with | .mk k d p s c i => .st [.sc (.int .i64 k), .sc (.string d), .sl 6 (encNs p), .sc (.int .i64 s), .sc (.int .i64 c), .sl 6 (encNs i)] := by cases x; exact encN_mk ..
    rw [hx] at h2
    have key : (match x with | .mk k d p s c i => (D T).call F_impl_Node_measured [.st [.sc (.int .i64 k), .sc (.string d), .sl 6 (encNs p), .sc (.int .i64 s), .sc (.int .i64 c), .sl 6 (encNs i)], .sc (.int .i64 left)]) = meaR left x := by cases x; exact h2
    obtain ⟨k, d, p, s, c, i⟩ := x
    simp only at key ⊢
    rw [key]
    unfold meaR
    cases mok left (.mk k d p s c i) with
    | false => rfl
    | true =>
      rw [bif_true, Option.bind_some, un_tri, Bool.not_true, bif_false, next_i (by omega)]
      have e1 : IntKind.wrap .i64 (dpN (.mk k d p s c i) - 1) = dpN (.mk k d p s c i) - 1 := wrap_id (by omega) (by omega)
      have e2 : IntKind.wrap .i64 (((w : Nat) : Int) + ((wdN (.mk k d p s c i) : Nat) : Int)) = ((w + wdN (.mk k d p s c i) : Nat) : Int) := by rw [wrap_id (by omega) (by omega)]; omega
      rw [e1, e2, ihj _ _ (by split <;> omega) (by split <;> omega) (by omega), Bool.true_and, Nat.add_assoc]
theorem mea_ptrs (k0 s0 c0 : Int) (d0 : ByteArray) (p0 i0 : List Nod) (l : List Nod) (hl : l.length ≤ 1048576) (left : Int) (hleft : 0 ≤ left ∧ left ≤ 100)
    (ih : ∀ n ∈ l, (D T).call F_impl_Node_measured [encN n, .sc (.int .i64 (left - 1))] = meaR (left - 1) n) (hd : ∀ n ∈ l, 0 ≤ dpN n ∧ dpN n ≤ 1048577) (hw : ∀ n ∈ l, wdN n ≤ 2097153) :
    ∀ j, j ≤ l.length → ∀ (dp : Int) (w : Nat), 0 ≤ dp → dp ≤ 1048577 → w + wdT (l.drop j) ≤ 4611686018427387904 →
      L_impl_Node_measured_0 (D T) left dp (w : Nat) (encNs l) (Int.ofNat l.length) (j : Int) k0 d0 (encNs p0) s0 c0 (encNs i0) = bif moks (left - 1) (l.drop j) then L_impl_Node_measured_1 (D T) left (dpP dp (l.drop j)) ((w + wdT (l.drop j) : Nat) : Int) (encNs i0) (Int.ofNat i0.length) 0 else tri 0 0 false := by
  refine down (fun dp w h0 h1 hB => ?_) fun j hj ihj dp w h0 h1 hB => ?_
  · rw [L_impl_Node_measured_0_eq, tL_impl_Node_measured_0, nlt_ofNat, List.drop_length, bif_false, encNs_length]
    simp only [moks, dpP, wdT, bif_true, Nat.add_zero]
  · have hm := List.getElem_mem hj
    have h2 := ih _ hm
    have h3 := hd _ hm
    have h4 := hw _ hm
    rw [wdT_drop hj] at hB ⊢
    rw [L_impl_Node_measured_0_eq, tL_impl_Node_measured_0, lt_ofNat hj, bif_true, ix_at (encNs_get l j hj), un_encN, moks_drop hj, dpP_drop hj]
    generalize l[j] = x at h2 h3 h4 hB ⊢
    have hx : encN x = match x with | .mk k d p s c i => .st [.sc (.int .i64 k), .sc (.string d), .sl 6 (encNs p), .sc (.int .i64 s), .sc (.int .i64 c), .sl 6 (encNs i)] := by cases x; exact encN_mk ..
    rw [hx] at h2
    have key : (match x with | .mk k d p s c i => (D T).call F_impl_Node_measured [.st [.sc (.int .i64 k), .sc (.string d), .sl 6 (encNs p), .sc (.int .i64 s), .sc (.int .i64 c), .sl 6 (encNs i)], .sc (.int .i64 (left - 1))]) = meaR (left - 1) x := by cases x; exact h2
    obtain ⟨k, d, p, s, c, i⟩ := x
    simp only at key ⊢
    have e0 : IntKind.wrap .i64 (left - 1) = left - 1 := wrap_id (by omega) (by omega)
    rw [e0, key]
    unfold meaR
    cases mok (left - 1) (.mk k d p s c i) with
    | false => rfl
    | true =>
      rw [bif_true, Option.bind_some, un_tri, Bool.not_true, bif_false, next_i (by omega)]
      have e2 : IntKind.wrap .i64 (((w : Nat) : Int) + ((wdN (.mk k d p s c i) : Nat) : Int)) = ((w + wdN (.mk k d p s c i) : Nat) : Int) := by rw [wrap_id (by omega) (by omega)]; omega
      rw [e2, ihj _ _ (by split <;> omega) (by split <;> omega) (by omega), Bool.true_and, Nat.add_assoc]

theorem measured_is : ∀ n, okN n → szN n ≤ 1048576 → ∀ left : Int, -1 ≤ left → left ≤ 100 → (D T).call F_impl_Node_measured [encN n, .sc (.int .i64 left)] = meaR left n := by
  refine Nod.ind fun k d p s c i hp hi => ?_
  intro h hsz left hl0 hl1
  have hsh := shaped_is _ h
  have hok := h
  unfold okN at hok
  have hsz' := hsz
  simp only [szN] at hsz'
  have hwd := wd_le (.mk k d p s c i)
  have hbp : ∀ n ∈ p, (0 ≤ dpN n ∧ dpN n ≤ 1048577) ∧ wdN n ≤ 2097153 ∧ szN n ≤ 1048576 := fun n hn => by
    have h1 := szT_mem hn; have h2 := dp_le n; have h3 := wd_le n; omega
  have hbi : ∀ n ∈ i, (0 ≤ dpN n ∧ dpN n ≤ 1048577) ∧ wdN n ≤ 2097153 ∧ szN n ≤ 1048576 := fun n hn => by
    have h1 := szT_mem hn; have h2 := dp_le n; have h3 := wd_le n; omega
  have hTb : ∀ l : List Nod, wdT l ≤ l.length + 2 * szT l := by
    intro l
    induction l with
    | nil => simp [wdT, szT]
    | cons n l ih => have := wd_le n; simp only [wdT, szT, List.length_cons]; omega
  rw [encN_mk] at hsh ⊢
  rw [c_impl_Node_measured, t_impl_Node_measured, hsh, Option.bind_some, unB_mk, encNs_length]
  unfold meaR
  rw [mok]
  cases hs : shpB (.mk k d p s c i) with
  | false => rfl
  | true =>
  simp only [Bool.not_true, bif_false, Bool.true_and]
  by_cases hle : left < 0
  · rw [decide_eq_true hle, decide_eq_false (show ¬ 0 ≤ left by omega)]; rfl
  rw [decide_eq_false hle, decide_eq_true (show 0 ≤ left by omega)]
  simp only [bif_false, Bool.true_and]
  by_cases hk : k = 0
  · rw [decide_eq_true hk]
    simp only [Bool.true_or, bif_true, dpN, wdN, if_pos hk]
    rfl
  rw [decide_eq_false hk]
  simp only [bif_false, Bool.false_or, dpN, wdN, if_neg hk]
  have w1 : IntKind.wrap .i64 ((IntKind.wrap .i64 (Int.tdiv (IntKind.wrap .i64 ((IntKind.wrap .i64 ((Int.ofNat d.size) + 8)) - 1)) 8)) + (Int.ofNat p.length)) = (((d.size + 7) / 8 + p.length : Nat) : Int) := by
    rw [show Int.ofNat d.size = (d.size : Int) from rfl, show Int.ofNat p.length = (p.length : Int) from rfl, wrap_id (n := (d.size : Int) + 8) (by omega) (by omega), wrap_id (n := (d.size : Int) + 8 - 1) (by omega) (by omega),
      show ((d.size : Int) + 8 - 1) = ((d.size + 7 : Nat) : Int) by omega, show (8 : Int) = ((8 : Nat) : Int) from rfl, ← Int.ofNat_tdiv, wrap_id (n := (((d.size + 7) / 8 : Nat) : Int)) (by omega) (by omega), wrap_id (by omega) (by omega)]
    omega
  have fin : ∀ w : Nat, w ≤ 4194304 → L_impl_Node_measured_0 (D T) left 0 (w : Nat) (encNs p) (Int.ofNat p.length) 0 k d (encNs p) s c (encNs i) =
      bif (moks (left - 1) p && moks left i) then tri (dpI (dpP 0 p) i + 1) ((w + wdT p + wdT i : Nat) : Int) true else tri 0 0 false := fun w hw => by
    have hTp := hTb p
    have hTi := hTb i
    have h1 := mea_ptrs k s c d p i p (by omega) left ⟨by omega, hl1⟩ (fun n hn => hp n hn (okNs_mem.1 hok.2.2.2.1 n hn) (hbp n hn).2.2 _ (by omega) (by omega)) (fun n hn => (hbp n hn).1) (fun n hn => (hbp n hn).2.1) 0 (Nat.zero_le _) 0 w (by omega) (by omega) (by rw [List.drop_zero]; omega)
    rw [List.drop_zero] at h1
    have h1 : L_impl_Node_measured_0 (D T) left 0 (w : Nat) (encNs p) (Int.ofNat p.length) 0 k d (encNs p) s c (encNs i) = _ := h1
    rw [h1]
    cases moks (left - 1) p with
    | false => rfl
    | true =>
    have hdP : 0 ≤ dpP 0 p ∧ dpP 0 p ≤ 1048577 := by
      have hP : ∀ (l : List Nod), (∀ n ∈ l, 0 ≤ dpN n ∧ dpN n ≤ 1048577) → ∀ a : Int, 0 ≤ a → a ≤ 1048577 → 0 ≤ dpP a l ∧ dpP a l ≤ 1048577 := by
        intro l
        induction l with
        | nil => intro _ a h0 h1; exact ⟨h0, h1⟩
        | cons n l ih =>
          intro hh a h0 h1
          have := hh n (List.mem_cons_self ..)
          exact ih (fun m hm => hh m (List.mem_cons_of_mem _ hm)) _ (by split <;> omega) (by split <;> omega)
      exact hP p (fun n hn => (hbp n hn).1) 0 (by omega) (by omega)
    have h2 := mea_items i (by omega) left (fun n hn => hi n hn (okNs_mem.1 hok.2.2.2.2 n hn) (hbi n hn).2.2 _ hl0 hl1) (fun n hn => (hbi n hn).1) (fun n hn => (hbi n hn).2.1) 0 (Nat.zero_le _) (dpP 0 p) (w + wdT p) hdP.1 hdP.2 (by rw [List.drop_zero]; omega)
    rw [List.drop_zero] at h2
    exact h2
  by_cases h7 : s = 7
  · rw [decide_eq_true h7, if_pos h7, w1]
    have w2 : IntKind.wrap .i64 (((((d.size + 7) / 8 + p.length : Nat) : Int)) + 1) = (((d.size + 7) / 8 + p.length + 1 : Nat) : Int) := by rw [wrap_id (by omega) (by omega)]; omega
    rw [w2]
    exact fin _ (by omega)
  · rw [decide_eq_false h7, if_neg h7, w1, Nat.add_zero]
    exact fin _ (by omega)
end Go.Proofs.YtmddfhjgdhjmkaaDoor.VM
