/- Nodes: their form, as the program and the reference tell it. -/
import Derived.Test.YtmddfhjgdhjmkaaDoorPN
set_option linter.unusedVariables false
set_option linter.unusedSimpArgs false
namespace Go.Proofs.YtmddfhjgdhjmkaaDoor.VM

/-! ### small functions -/
theorem in_is (a b c : Int) : (D T).call F_impl_in [.sc (.int .i64 a), .sc (.int .i64 b), .sc (.int .i64 c)] = bo (decide (b ≤ a) && decide (a ≤ c)) := by
  rw [c_impl_in, t_impl_in]
  cases decide (b ≤ a) <;> rfl
theorem l1In_is (a b c : Int) : (D T).call F_spec_l1In [.sc (.int .i64 a), .sc (.int .i64 b), .sc (.int .i64 c)] = bo (decide (b ≤ a) && decide (a ≤ c)) := by
  rw [c_spec_l1In, t_spec_l1In]
  cases decide (b ≤ a) <;> rfl
def bitsN : Nat → Nat
  | 1 => 1 | 2 => 8 | 3 => 16 | 4 => 32 | 5 => 64 | 6 => 64 | _ => 0
theorem sizes_cases {s : Int} (h0 : 0 ≤ s) (h7 : s ≤ 6) : s = 0 ∨ s = 1 ∨ s = 2 ∨ s = 3 ∨ s = 4 ∨ s = 5 ∨ s = 6 := by omega
/-- how many bytes so many of a size need -/
def bytesN (s c : Nat) : Nat := (bitsN s * c + 7) / 8
theorem bytes_wrap {b c : Nat} (hb : b ≤ 64) (hc : c ≤ 12800) : IntKind.wrap .i64 (Int.tdiv (IntKind.wrap .i64 ((IntKind.wrap .i64 ((b : Int) * (c : Int))) + 7)) 8) = (((b * c + 7) / 8 : Nat) : Int) := by
  have h1 : b * c ≤ 819200 := Nat.le_trans (Nat.mul_le_mul hb hc) (by decide)
  have h2 : ((b : Int) * (c : Int)) = ((b * c : Nat) : Int) := by simp
  have h4 : Int.tdiv (((b * c : Nat) : Int) + 7) 8 = (((b * c + 7) / 8 : Nat) : Int) := by
    rw [show (((b * c : Nat) : Int) + 7) = ((b * c + 7 : Nat) : Int) by simp, show (8 : Int) = ((8 : Nat) : Int) from rfl, Int.ofNat_tdiv]
  rw [h2, wrap_id (n := ((b * c : Nat) : Int)) (by omega) (by omega), wrap_id (n := ((b * c : Nat) : Int) + 7) (by omega) (by omega), h4, wrap_id (by omega) (by omega)]
theorem dataBytes_is (s c : Nat) (hs : s ≤ 6) (hc : c ≤ 12800) : (D T).call F_impl_dataBytes [.sc (.int .i64 (s : Nat)), .sc (.int .i64 (c : Nat))] = nu (bytesN s c) := by
  rw [c_impl_dataBytes, t_impl_dataBytes]
  have : s = 0 ∨ s = 1 ∨ s = 2 ∨ s = 3 ∨ s = 4 ∨ s = 5 ∨ s = 6 := by omega
  rcases this with rfl | rfl | rfl | rfl | rfl | rfl | rfl
  · exact congrArg nu (bytes_wrap (b := 0) (c := c) (by decide) hc)
  · exact congrArg nu (bytes_wrap (b := 1) (c := c) (by decide) hc)
  · exact congrArg nu (bytes_wrap (b := 8) (c := c) (by decide) hc)
  · exact congrArg nu (bytes_wrap (b := 16) (c := c) (by decide) hc)
  · exact congrArg nu (bytes_wrap (b := 32) (c := c) (by decide) hc)
  · exact congrArg nu (bytes_wrap (b := 64) (c := c) (by decide) hc)
  · exact congrArg nu (bytes_wrap (b := 64) (c := c) (by decide) hc)
theorem l4Bytes_is (s c : Nat) (hs : s ≤ 6) (hc : c ≤ 12800) : (D T).call F_spec_l4Bytes [.sc (.int .i64 (s : Nat)), .sc (.int .i64 (c : Nat))] = nu (bytesN s c) := by
  have h2 : (D T).call F_spec_l2Bits [.sc (.int .i64 (s : Nat))] = nu (bitsN s) := by
    rw [c_spec_l2Bits, t_spec_l2Bits]
    have : s = 0 ∨ s = 1 ∨ s = 2 ∨ s = 3 ∨ s = 4 ∨ s = 5 ∨ s = 6 := by omega
    rcases this with rfl | rfl | rfl | rfl | rfl | rfl | rfl <;> rfl
  rw [c_spec_l4Bytes, t_spec_l4Bytes, h2, Option.bind_some, unI_mk]
  refine congrArg nu (bytes_wrap ?_ hc)
  unfold bitsN
  split <;> decide

def lastB (d : ByteArray) : Nat := match d[d.size - 1]? with | some b => b.toNat | none => 0
/-- bits of a list that are not used are 0 -/
def spareP (d : ByteArray) (n : Nat) : Bool := decide (n % 8 = 0) || decide (lastB d / 2 ^ (n % 8) = 0)
theorem ixS_last {R : Type} {d : ByteArray} (h : 0 < d.size) (hd : d.size ≤ reachBytes) {K : Int → Option R} : ixS d (IntKind.wrap .i64 ((Int.ofNat d.size) - 1)) K = K (lastB d) := by
  have hr : reachBytes = 140737488351232 := rfl
  have e : IntKind.wrap .i64 ((Int.ofNat d.size) - 1) = Int.ofNat (d.size - 1) := by
    have : (Int.ofNat d.size) = (d.size : Int) := rfl
    rw [this, wrap_id (by omega) (by omega)]
    show (d.size : Int) - 1 = ((d.size - 1 : Nat) : Int)
    omega
  rw [e]
  have hg : d[d.size - 1]? = some (d[d.size - 1]'(by omega)) := getElem?_pos d _ (by omega)
  unfold ixS lastB
  simp only [hg]
theorem pow_two (r : Nat) : Int.pow 2 r = ((2 ^ r : Nat) : Int) := by
  show (2 : Int) ^ r = _
  simp
theorem tmod8 (n : Nat) : Int.tmod (n : Int) 8 = ((n % 8 : Nat) : Int) := by
  rw [show (8 : Int) = ((8 : Nat) : Int) from rfl, Int.ofNat_tmod]
theorem spare_is (d : ByteArray) (n : Nat) (hd : d.size ≤ reachBytes) (h : n % 8 = 0 ∨ 0 < d.size) : (D T).call F_impl_spare [.sc (.string d), .sc (.int .i64 (n : Nat))] = bo (spareP d n) := by
  rw [c_impl_spare, t_impl_spare, tmod8]
  unfold spareP
  by_cases h0 : n % 8 = 0
  · rw [h0]; rfl
  · have h1 : 0 < d.size := by omega
    have hr : n % 8 < 8 := Nat.mod_lt _ (by decide)
    rw [decide_eq_false (show ¬ ((n % 8 : Nat) : Int) = 0 by omega), bif_false, ixS_last h1 hd, decide_eq_false (show ¬ ((n % 8 : Nat) : Int) < 0 by omega), decide_eq_false h0]
    simp only [Bool.not_false, bif_true, Int.toNat_natCast, Bool.false_or]
    rw [if_pos (by omega), pow_two, ← Int.ofNat_fdiv]
    refine congrArg bo ?_
    rw [Bool.eq_iff_iff, decide_eq_true_eq, decide_eq_true_eq]
    omega
/-- what the data of a list of numbers must be -/
def plainP (d : ByteArray) (s c : Nat) : Bool := decide (d.size = bytesN s c) && spareP d (bitsN s * c)
theorem bitsN_mod {s c : Nat} (h : s ≠ 1) : bitsN s * c % 8 = 0 := by
  have : bitsN s % 8 = 0 := by unfold bitsN; split <;> first | rfl | (exact absurd rfl h)
  rw [Nat.mul_mod, this, Nat.zero_mul, Nat.zero_mod]
theorem bytes_pos {s c : Nat} (h : bitsN s * c % 8 ≠ 0) : 0 < bytesN s c := by unfold bytesN; omega
theorem l4Plain_is (k : Int) (d : ByteArray) (p : List V) (s c : Nat) (i : List V) (hd : d.size ≤ reachBytes) (hs : s ≤ 6) (hc : c ≤ 12800) :
    (D T).call F_spec_l4Plain [.st [.sc (.int .i64 k), .sc (.string d), .sl 6 p, .sc (.int .i64 (s : Nat)), .sc (.int .i64 (c : Nat)), .sl 6 i]] = bo (plainP d s c) := by
  rw [c_spec_l4Plain, t_spec_l4Plain, l4Bytes_is s c hs hc, Option.bind_some, unI_mk]
  unfold plainP
  by_cases h : d.size = bytesN s c
  case neg => rw [decide_eq_false h, decide_eq_false (show ¬ Int.ofNat d.size = ((bytesN s c : Nat) : Int) from fun e => h (Int.ofNat.inj e))]; rfl
  rw [decide_eq_true h, decide_eq_true (show Int.ofNat d.size = ((bytesN s c : Nat) : Int) from congrArg Int.ofNat h), tmod8]
  simp only [Bool.not_true, bif_false, Bool.true_and]
  by_cases h1 : s = 1
  case neg =>
    have : spareP d (bitsN s * c) = true := by unfold spareP; rw [decide_eq_true (bitsN_mod h1)]; rfl
    rw [this, decide_eq_false (show ¬ ((s : Nat) : Int) = 1 by omega)]; rfl
  subst h1
  have hb : bitsN 1 * c = c := by show 1 * c = c; omega
  rw [hb]
  unfold spareP
  by_cases h0 : c % 8 = 0
  · rw [h0]; rfl
  · have h2 : 0 < d.size := by rw [h]; exact bytes_pos (by rw [hb]; exact h0)
    have hr : c % 8 < 8 := Nat.mod_lt _ (by decide)
    have hlb : lastB d < 256 := by unfold lastB; split; exact UInt8.toNat_lt _; decide
    rw [decide_eq_false (show ¬ ((c % 8 : Nat) : Int) = 0 by omega), bif_false, ixS_last h2 hd, decide_eq_false (show ¬ ((c % 8 : Nat) : Int) < 0 by omega), decide_eq_false h0]
    simp only [Bool.not_false, bif_true, Int.toNat_natCast, Bool.false_or]
    have e1 : decide (((1 : Nat) : Int) = 1) = true := rfl
    rw [e1, Bool.not_true, bif_false, if_pos (by omega), pow_two, wrap_id (by omega) (by omega), ← Int.ofNat_fdiv]
    refine congrArg bo ?_
    rw [Bool.eq_iff_iff, decide_eq_true_eq, decide_eq_true_eq]
    omega

/-! ### a node's own form -/
def likeB : Nod → Nod → Bool
  | .mk _ dy py _ _ _, .mk k d p _ _ _ => decide (k = 1) && (decide (d.size = dy.size) && decide (p.length = py.length))
def allLike : List Nod → Bool
  | [] => true
  | y :: l => (y :: l).all (likeB y)
def emp : ByteArray := .mk (.mk [])
theorem sEq_emp (d : ByteArray) : sEq d (.mk (.mk [])) = decide (d.size = 0) := by
  rw [sEq_dec, Bool.eq_iff_iff, decide_eq_true_eq, decide_eq_true_eq]
  constructor
  · rintro rfl; rfl
  · intro h
    obtain ⟨⟨l⟩⟩ := d
    have h : l.length = 0 := h
    rw [List.eq_nil_of_length_eq_zero h]
theorem encN_mk (k : Int) (d : ByteArray) (p : List Nod) (s c : Int) (i : List Nod) : encN (.mk k d p s c i) = .st [.sc (.int .i64 k), .sc (.string d), .sl 6 (encNs p), .sc (.int .i64 s), .sc (.int .i64 c), .sl 6 (encNs i)] := by unfold encN; rfl
theorem unlike_is (xn : V) (x y : Nod) (items : List Nod) (hn : ce xn 5 = .sl 6 (encNs items)) (h0 : (encNs items)[0]? = some (encN y)) :
    (D T).call F_impl_Node_shapedq1 [encN x, .rp xn 0] = bo (!likeB y x) := by
  obtain ⟨k, d, p, s, c, i⟩ := x
  obtain ⟨k', d', p', s', c', i'⟩ := y
  rw [encN_mk] at h0 ⊢
  rw [c_impl_Node_shapedq1, t_impl_Node_shapedq1, hn]
  simp only [unL_mk, exN_at h0]
  unfold likeB
  rw [ce_st, ce_st]
  simp only [List.getD_cons_zero, List.getD_cons_succ, unS_mk, unL_mk, encNs_length]
  cases decide (k = 1)
  · rfl
  · by_cases h1 : d.size = d'.size
    · rw [decide_eq_true h1, decide_eq_true (show Int.ofNat d.size = Int.ofNat d'.size from congrArg Int.ofNat h1)]
      by_cases h2 : p.length = p'.length
      · rw [decide_eq_true h2, decide_eq_true (show Int.ofNat p.length = Int.ofNat p'.length from congrArg Int.ofNat h2)]; rfl
      · rw [decide_eq_false h2, decide_eq_false (show ¬ Int.ofNat p.length = Int.ofNat p'.length from fun e => h2 (Int.ofNat.inj e))]; rfl
    · rw [decide_eq_false h1, decide_eq_false (show ¬ Int.ofNat d.size = Int.ofNat d'.size from fun e => h1 (Int.ofNat.inj e))]; rfl
theorem allLike_contains (xn : V) (items : List Nod) (hl : items.length ≤ 140737488351232) (hn : ce xn 5 = .sl 6 (encNs items)) :
    (D T).call F_slices_ContainsFunc_impl_Node_impl_Node [.sl 6 (encNs items), .clo F_impl_Node_shapedq1 [.rp xn 0]] = bo (!allLike items) := by
  rw [c_slices_ContainsFunc_impl_Node_impl_Node, t_slices_ContainsFunc_impl_Node_impl_Node, c_slices_IndexFunc_impl_Node_impl_Node, t_slices_IndexFunc_impl_Node_impl_Node]
  cases hi : items with
  | nil => rw [L_slices_IndexFunc_impl_Node_impl_Node_0_eq]; rfl
  | cons y l =>
  rw [← hi]
  have h0 : (encNs items)[0]? = some (encN y) := by rw [hi, encNs]; rfl
  have hL : ∀ j, j ≤ items.length → ∃ m, L_slices_IndexFunc_impl_Node_impl_Node_0 (D T) (encNs items) xn (Int.ofNat (encNs items).length) (j : Int) = nu m ∧ decide (0 ≤ m) = !((items.drop j).all (likeB y)) := by
    rw [encNs_length]
    refine down ⟨-1, ?_, ?_⟩ fun j hj ih => ?_
    · rw [L_slices_IndexFunc_impl_Node_impl_Node_0_eq, tL_slices_IndexFunc_impl_Node_impl_Node_0, nlt_ofNat]; rfl
    · rw [List.drop_length]; rfl
    · obtain ⟨m, h1, h2⟩ := ih
      have hd : (items.drop j).all (likeB y) = (likeB y items[j] && (items.drop (j + 1)).all (likeB y)) := by rw [List.drop_eq_getElem_cons hj, List.all_cons]
      rw [L_slices_IndexFunc_impl_Node_impl_Node_0_eq, tL_slices_IndexFunc_impl_Node_impl_Node_0, lt_ofNat hj, bif_true, ix_at (encNs_get items j hj), unSt_encN, unlike_is xn _ y items hn h0, Option.bind_some, unB_mk, hd, next_i (by omega)]
      cases likeB y items[j] with
      | false => exact ⟨(j : Int), rfl, by rw [le_ofNat]; rfl⟩
      | true => exact ⟨m, h1, h2⟩
  obtain ⟨m, h1, h2⟩ := hL 0 (Nat.zero_le _)
  have h1 : L_slices_IndexFunc_impl_Node_impl_Node_0 (D T) (encNs items) xn (Int.ofNat (encNs items).length) 0 = nu m := h1
  rw [h1, Option.bind_some, unI_mk, h2, List.drop_zero, hi]
  rfl

def shpB : Nod → Bool
  | .mk k d p s c i =>
    bif decide (k = 0) then decide (p.length = 0) && (decide (i.length = 0) && (decide (d.size = 0) && (decide (s = 0) && decide (c = 0))))
    else bif decide (k = 1) then decide (d.size % 8 = 0) && (decide (i.length = 0) && (decide (s = 0) && decide (c = 0)))
    else bif decide (k = 2) then (decide (0 ≤ c) && decide (c ≤ 12800)) &&
      (bif decide (0 ≤ s) && decide (s ≤ 5) then (decide (p.length = 0) && decide (i.length = 0)) && plainP d s.toNat c.toNat
       else bif decide (s = 6) then decide (d.size = 0) && (decide (i.length = 0) && decide ((p.length : Int) = c))
       else bif decide (s = 7) then decide (d.size = 0) && (decide (p.length = 0) && (decide ((i.length : Int) = c) && allLike i))
       else false)
    else false
theorem len0 {α : Type} (l : List α) : decide (Int.ofNat l.length = 0) = decide (l.length = 0) := by
  rw [Bool.eq_iff_iff, decide_eq_true_eq, decide_eq_true_eq]
  exact ⟨fun h => Int.ofNat.inj h, fun h => congrArg Int.ofNat h⟩
theorem bare_is (k : Int) (d : ByteArray) (p : List Nod) (s c : Int) (i : List Nod) : (D T).call F_impl_Node_bare [encN (.mk k d p s c i)] = bo (decide (p.length = 0) && decide (i.length = 0)) := by
  rw [encN_mk, c_impl_Node_bare, t_impl_Node_bare, encNs_length, encNs_length, len0, len0]
  cases decide (p.length = 0) <;> rfl
theorem shaped_is (n : Nod) (h : okN n) : (D T).call F_impl_Node_shaped [encN n] = bo (shpB n) := by
  obtain ⟨k, d, p, s, c, i⟩ := n
  unfold okN at h
  have hb := bare_is k d p s c i
  have hcon := allLike_contains (encN (.mk k d p s c i)) i (reach_lt (b := 87) h.2.2.1) (by rw [encN_mk]; rfl)
  rw [encN_mk] at hb hcon ⊢
  rw [c_impl_Node_shaped, t_impl_Node_shaped, hb, hcon]
  simp only [Option.bind_some, unB_mk, sEq_emp, encNs_length, in_is, shpB]
  cases hk0 : decide (k = 0) with
  | true =>
    simp only [bif_true]
    cases decide (p.length = 0) <;> cases decide (i.length = 0) <;> cases decide (d.size = 0) <;> cases decide (s = 0) <;> rfl
  | false =>
  simp only [bif_false]
  cases hk1 : decide (k = 1) with
  | true =>
    simp only [bif_true]
    have e1 : decide (Int.tmod (Int.ofNat d.size) 8 = 0) = decide (d.size % 8 = 0) := by
      rw [show Int.ofNat d.size = (d.size : Int) from rfl, tmod8, Bool.eq_iff_iff, decide_eq_true_eq, decide_eq_true_eq]
      omega
    rw [e1, len0]
    cases decide (d.size % 8 = 0) <;> cases decide (i.length = 0) <;> cases decide (s = 0) <;> rfl
  | false =>
  simp only [bif_false]
  cases hk2 : decide (k = 2) with
  | false => rfl
  | true =>
  simp only [bif_true]
  cases hc : (decide (0 ≤ c) && decide (c ≤ 12800)) with
  | false => rfl
  | true =>
  simp only [Bool.not_true, bif_false, Bool.true_and]
  rw [Bool.and_eq_true, decide_eq_true_eq, decide_eq_true_eq] at hc
  cases hs : (decide (0 ≤ s) && decide (s ≤ 5)) with
  | true =>
    simp only [bif_true]
    cases (decide (p.length = 0) && decide (i.length = 0)) with
    | false => rfl
    | true =>
    simp only [bif_true, Bool.true_and]
    rw [Bool.and_eq_true, decide_eq_true_eq, decide_eq_true_eq] at hs
    obtain ⟨s', rfl⟩ := Int.eq_ofNat_of_zero_le hs.1
    obtain ⟨c', rfl⟩ := Int.eq_ofNat_of_zero_le hc.1
    have hs' : s' ≤ 5 := by omega
    have hc' : c' ≤ 12800 := by omega
    rw [dataBytes_is s' c' (by omega) hc', Option.bind_some, unI_mk]
    show _ = bo (plainP d s' c')
    unfold plainP
    by_cases hd : d.size = bytesN s' c'
    case neg => rw [decide_eq_false hd, decide_eq_false (show ¬ Int.ofNat d.size = ((bytesN s' c' : Nat) : Int) from fun e => hd (Int.ofNat.inj e))]; rfl
    rw [decide_eq_true hd, decide_eq_true (show Int.ofNat d.size = ((bytesN s' c' : Nat) : Int) from congrArg Int.ofNat hd)]
    have hsp := spare_is d (bitsN s' * c') h.1 (by
      by_cases h0 : bitsN s' * c' % 8 = 0
      · exact .inl h0
      · exact .inr (by rw [hd]; exact bytes_pos h0))
    have hmul : ∀ b : Nat, b ≤ 64 → IntKind.wrap .i64 ((b : Int) * (c' : Int)) = ((b * c' : Nat) : Int) := fun b hb => by
      have h1 : b * c' ≤ 819200 := Nat.le_trans (Nat.mul_le_mul hb hc') (by decide)
      have h2 : ((b : Int) * (c' : Int)) = ((b * c' : Nat) : Int) := by simp
      rw [h2, wrap_id (by omega) (by omega)]
    have h5 : s' = 0 ∨ s' = 1 ∨ s' = 2 ∨ s' = 3 ∨ s' = 4 ∨ s' = 5 := by omega
    have fin : ∀ b : Nat, b ≤ 64 → bitsN s' = b → ((D T).call F_impl_spare [.sc (.string d), .sc (.int .i64 (IntKind.wrap .i64 ((b : Int) * (c' : Int))))]).bind (fun r => unB r.1 fun t => (some (.sc (.bool t), []) : Option Res)) = bo (true && spareP d (bitsN s' * c')) := fun b hb e => by
      rw [hmul b hb, ← e, hsp]; rfl
    rcases h5 with rfl | rfl | rfl | rfl | rfl | rfl
    · exact fin 0 (by decide) rfl
    · exact fin 1 (by decide) rfl
    · exact fin 8 (by decide) rfl
    · exact fin 16 (by decide) rfl
    · exact fin 32 (by decide) rfl
    · exact fin 64 (by decide) rfl
  | false =>
  simp only [bif_false]
  cases hs6 : decide (s = 6) with
  | true =>
    simp only [bif_true]
    rw [len0]
    cases decide (d.size = 0) <;> cases decide (i.length = 0) <;> rfl
  | false =>
  simp only [bif_false]
  cases hs7 : decide (s = 7) with
  | false => rfl
  | true =>
    simp only [bif_true]
    rw [len0]
    cases decide (d.size = 0) <;> cases decide (p.length = 0) <;> first | rfl | skip
    show (bif decide (Int.ofNat i.length = c) then _ else _) = bo (true && (true && (decide (Int.ofNat i.length = c) && allLike i)))
    cases decide (Int.ofNat i.length = c) <;> cases allLike i <;> rfl

def strB : Nod → Bool
  | .mk k d p s c i => decide (k = 1) && (decide (d.size % 8 = 0) && (decide (s = 0) && (decide (c = 0) && decide (i.length = 0))))
theorem strB_is (n : Nod) : (D T).call F_spec_l4Struct [encN n] = bo (strB n) := by
  obtain ⟨k, d, p, s, c, i⟩ := n
  have e1 : decide (Int.tmod (Int.ofNat d.size) 8 = 0) = decide (d.size % 8 = 0) := by
    rw [show Int.ofNat d.size = (d.size : Int) from rfl, tmod8, Bool.eq_iff_iff, decide_eq_true_eq, decide_eq_true_eq]
    omega
  rw [encN_mk, c_spec_l4Struct, t_spec_l4Struct, encNs_length, len0, e1]
  simp only [strB]
  cases decide (k = 1) <;> cases decide (d.size % 8 = 0) <;> cases decide (s = 0) <;> cases decide (c = 0) <;> rfl
def allStr : List Nod → Bool
  | [] => true
  | y :: l => (y :: l).all fun x => strB x && likeB y x
def lstB : Nod → Bool
  | .mk k d p s c i =>
    decide (k = 2) && ((decide (0 ≤ s) && decide (s ≤ 7)) && ((decide (0 ≤ c) && decide (c ≤ 12800)) &&
      (bif decide (s = 6) then decide (d.size = 0) && (decide ((p.length : Int) = c) && decide (i.length = 0))
       else bif decide (s = 7) then allStr i && (decide (d.size = 0) && (decide (p.length = 0) && decide ((i.length : Int) = c)))
       else decide (p.length = 0) && (decide (i.length = 0) && plainP d s.toNat c.toNat))))
theorem ce1_encN (k : Int) (d : ByteArray) (p : List Nod) (s c : Int) (i : List Nod) : ce (encN (.mk k d p s c i)) 1 = .sc (.string d) := by rw [encN_mk]; rfl
theorem ce2_encN (k : Int) (d : ByteArray) (p : List Nod) (s c : Int) (i : List Nod) : ce (encN (.mk k d p s c i)) 2 = .sl 6 (encNs p) := by rw [encN_mk]; rfl
theorem dec_ofNat {a b : Nat} : decide (Int.ofNat a = Int.ofNat b) = decide (a = b) := by
  rw [Bool.eq_iff_iff, decide_eq_true_eq, decide_eq_true_eq]
  exact ⟨fun h => Int.ofNat.inj h, fun h => congrArg Int.ofNat h⟩
theorem likeB_of {x y : Nod} (h : strB x = true) : likeB y x = match y, x with | .mk _ dy py _ _ _, .mk k d p _ _ _ => decide (d.size = dy.size) && decide (p.length = py.length) := by
  obtain ⟨k, d, p, s, c, i⟩ := x
  obtain ⟨k', d', p', s', c', i'⟩ := y
  simp only [strB, Bool.and_eq_true] at h
  simp only [likeB, h.1, Bool.true_and]

theorem l4List_is (n : Nod) (h : okN n) : (D T).call F_spec_l4List [encN n] = bo (lstB n) := by
  obtain ⟨k, d, p, s, c, i⟩ := n
  unfold okN at h
  have hi := reach_lt (b := 87) h.2.2.1
  rw [encN_mk, c_spec_l4List, t_spec_l4List]
  simp only [l1In_is, Option.bind_some, unB_mk, sEq_emp, encNs_length, len0, lstB]
  cases hk : decide (k = 2) with
  | false => rfl
  | true =>
  simp only [Bool.not_true, bif_false, Bool.true_and]
  cases hs : (decide (0 ≤ s) && decide (s ≤ 7)) with
  | false => rfl
  | true =>
  simp only [Bool.not_true, bif_false, Bool.true_and]
  cases hc : (decide (0 ≤ c) && decide (c ≤ 12800)) with
  | false => rfl
  | true =>
  simp only [Bool.not_true, bif_false, Bool.true_and]
  cases hs6 : decide (s = 6) with
  | true =>
    simp only [bif_true]
    show (bif decide (d.size = 0) then bif decide (Int.ofNat p.length = c) then _ else _ else _) = bo (decide (d.size = 0) && (decide (Int.ofNat p.length = c) && _))
    cases decide (d.size = 0) <;> cases decide (Int.ofNat p.length = c) <;> rfl
  | false =>
  simp only [bif_false]
  cases hs7 : decide (s = 7) with
  | true =>
    simp only [bif_true]
    let fin : Bool := decide (d.size = 0) && (decide (p.length = 0) && decide (Int.ofNat i.length = c))
    have hend : ∀ j : Nat, j = i.length → L_spec_l4List_0 (D T) (j : Int) k d (encNs p) s c (encNs i) = bo fin := by
      rintro j rfl
      rw [L_spec_l4List_0_eq, tL_spec_l4List_0, encNs_length, nlt_ofNat, sEq_emp, encNs_length, len0]
      show _ = bo (decide (d.size = 0) && (decide (p.length = 0) && decide (Int.ofNat i.length = c)))
      cases decide (d.size = 0) <;> cases decide (p.length = 0) <;> rfl
    show L_spec_l4List_0 (D T) ((0 : Nat) : Int) k d (encNs p) s c (encNs i) = bo (allStr i && fin)
    cases hil : i with
    | nil =>
      have e : allStr i = true := by rw [hil]; rfl
      rw [← hil, e, Bool.true_and]
      exact hend 0 (by rw [hil]; rfl)
    | cons y l =>
    have h0 : (encNs i)[0]? = some (encN y) := by rw [hil, encNs]; rfl
    have hL : ∀ j, j ≤ i.length → L_spec_l4List_0 (D T) (j : Int) k d (encNs p) s c (encNs i) = bo ((i.drop j).all (fun x => strB x && likeB y x) && fin) := by
      refine down ?_ fun j hj ih => ?_
      · rw [hend _ rfl, List.drop_length]; rfl
      · have hd : (i.drop j).all (fun x => strB x && likeB y x) = ((strB i[j] && likeB y i[j]) && (i.drop (j + 1)).all (fun x => strB x && likeB y x)) := by rw [List.drop_eq_getElem_cons hj, List.all_cons]
        have hg := encNs_get i j hj
        rw [L_spec_l4List_0_eq, tL_spec_l4List_0, encNs_length, lt_ofNat hj, bif_true, ix_at hg, unSt_encN, strB_is, Option.bind_some, unB_mk, ix_at hg, next_i (by omega), ih, hd]
        cases hst : strB i[j] with
        | false => rfl
        | true =>
        rw [likeB_of hst]
        generalize i[j] = x at hg hst
        obtain ⟨k1, d1, p1, s1, c1, i1⟩ := x
        obtain ⟨k2, d2, p2, s2, c2, i2⟩ := y
        simp only [Bool.not_true, bif_false, ce1_encN, ce2_encN, unS_mk, unL_mk, exN_at h0, ix_at hg, encNs_length, dec_ofNat]
        cases decide (d1.size = d2.size) <;> cases decide (p1.length = p2.length) <;> rfl
    have := hL 0 (Nat.zero_le _)
    rw [List.drop_zero] at this
    rw [← hil, this, hil]
    rfl
  | false =>
    simp only [bif_false]
    rw [Bool.and_eq_true, decide_eq_true_eq, decide_eq_true_eq] at hc hs
    have g6 : ¬ s = 6 := of_decide_eq_false hs6
    have g7 : ¬ s = 7 := of_decide_eq_false hs7
    obtain ⟨s', rfl⟩ := Int.eq_ofNat_of_zero_le hs.1
    obtain ⟨c', rfl⟩ := Int.eq_ofNat_of_zero_le hc.1
    rw [l4Plain_is k d (encNs p) s' c' (encNs i) h.1 (by omega) (by omega)]
    show _ = bo (decide (p.length = 0) && (decide (i.length = 0) && plainP d s' c'))
    cases decide (p.length = 0) <;> cases decide (i.length = 0) <;> rfl
end Go.Proofs.YtmddfhjgdhjmkaaDoor.VM
