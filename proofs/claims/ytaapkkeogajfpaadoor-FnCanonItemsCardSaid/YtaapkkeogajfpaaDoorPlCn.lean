/- What the program's functions compute, in plain words, and the laws. -/
import Derived.Test.YtaapkkeogajfpaaDoorEqCn
set_option linter.unusedVariables false
set_option linter.unusedSimpArgs false
namespace Go.Proofs.YtaapkkeogajfpaaDoor.VM
def encS (s : ByteArray) : V := .sc (.string s)
abbrev bo (b : Bool) : Option Res := some (.sc (.bool b), [])
abbrev nu (n : Int) : Option Res := some (.sc (.int .i64 n), [])
/-- from the end downwards -/
theorem down {n : Nat} {Q : Nat → Prop} (h0 : Q n) (hs : ∀ i, i < n → Q (i + 1) → Q i) : ∀ i, i ≤ n → Q i := by
  intro i hi
  obtain ⟨k, rfl⟩ : ∃ k, i = n - k := ⟨n - i, by omega⟩
  clear hi
  induction k with
  | zero => exact h0
  | succ k ih =>
    by_cases hk : k < n
    · have := hs (n - (k + 1)) (by omega)
      rw [show n - (k + 1) + 1 = n - k by omega] at this
      exact this ih
    · rw [show n - (k + 1) = n - k by omega]; exact ih
theorem reach_lt {n b : Nat} (h : n * (b + 1) ≤ reachBytes) : n ≤ 140737488351232 := by
  have : reachBytes = 140737488351232 := rfl
  have h2 : n * 1 ≤ n * (b + 1) := Nat.mul_le_mul_left _ (by omega)
  omega
theorem next_i {i : Nat} (h : i ≤ 140737488351232) : IntKind.wrap .i64 ((i : Int) + 1) = ((i + 1 : Nat) : Int) := by rw [wrap_id (by omega) (by omega)]; omega
theorem lt_ofNat {i n : Nat} (h : i < n) : decide ((i : Int) < Int.ofNat n) = true := decide_eq_true (by simpa using h)
theorem nlt_ofNat {n : Nat} : decide ((n : Int) < Int.ofNat n) = false := decide_eq_false (by simp)
theorem le_ofNat {i : Nat} : decide ((0 : Int) ≤ (i : Int)) = true := decide_eq_true (by omega)
theorem lt_ofNat0 {n : Nat} (h : 0 < n) : decide ((0 : Int) < Int.ofNat n) = true := decide_eq_true (by simpa using h)
theorem ix_at0 {R : Type} {xs : List V} {x : V} {K : V → Option R} (h : xs[0]? = some x) : ix xs 0 K = K x := ix_at (n := 0) h
theorem next0 : IntKind.wrap .i64 (0 + 1) = ((1 : Nat) : Int) := by rw [wrap_id (by omega) (by omega)]; rfl
theorem dec_len {a b : Nat} (h : ¬ b = a) : decide (Int.ofNat a = Int.ofNat b) = false := decide_eq_false (by simp; omega)
theorem dec_len_eq {a b : Nat} (h : b = a) : decide (Int.ofNat a = Int.ofNat b) = true := decide_eq_true (by rw [h])
theorem if_pos_b {α : Type} {b : Bool} {x y : α} (h : b = true) : (bif b then x else y) = x := by rw [h]; rfl
theorem if_neg_b {α : Type} {b : Bool} {x y : α} (h : b = false) : (bif b then x else y) = y := by rw [h]; rfl
inductive Nod where
  | mk (k : Int) (d : ByteArray) (p : List Nod) (s c : Int) (i : List Nod)
mutual
def encN : Nod → V
  | .mk k d p s c i => .st [.sc (.int .i64 k), .sc (.string d), .sl 6 (encNs p), .sc (.int .i64 s), .sc (.int .i64 c), .sl 6 (encNs i)]
def encNs : List Nod → List V
  | [] => []
  | n :: l => encN n :: encNs l
end
mutual
def okN : Nod → Prop
  | .mk k d p s c i => d.size ≤ reachBytes ∧ p.length * 88 ≤ reachBytes ∧ i.length * 88 ≤ reachBytes ∧ okNs p ∧ okNs i
def okNs : List Nod → Prop
  | [] => True
  | n :: l => okN n ∧ okNs l
end
mutual
def szN : Nod → Nat
  | .mk k d p s c i => d.size + ((p.length + szT p) + (i.length + szT i))
def szT : List Nod → Nat
  | [] => 0
  | n :: l => szN n + szT l
end
mutual
def eqN : Nod → Nod → Bool
  | .mk k d p s c i, .mk k' d' p' s' c' i' => decide (k = k') && (sEq d d' && (eqNs p p' && (decide (s = s') && (decide (c = c') && eqNs i i'))))
def eqNs : List Nod → List Nod → Bool
  | [], [] => true
  | n :: l, m :: l' => eqN n m && eqNs l l'
  | _, _ => false
end
theorem encNs_map (l : List Nod) : encNs l = l.map encN := by
  induction l with
  | nil => rfl
  | cons d l ih => rw [encNs, ih]; rfl
theorem encNs_length (l : List Nod) : (encNs l).length = l.length := by rw [encNs_map, List.length_map]
theorem encNs_get (l : List Nod) (i : Nat) (h : i < l.length) : (encNs l)[i]? = some (encN l[i]) := by rw [encNs_map, List.getElem?_map, List.getElem?_eq_getElem h]; rfl
theorem okNs_mem : ∀ {l : List Nod}, okNs l ↔ ∀ d ∈ l, okN d
  | [] => ⟨fun _ d h => (by cases h), fun _ => trivial⟩
  | d :: l => by
    unfold okNs
    rw [List.forall_mem_cons, okNs_mem]
mutual
theorem eqN_refl : ∀ d, eqN d d = true
  | .mk k d p s c i => by unfold eqN; simp [sEq_iff.2, eqNs_refl p, eqNs_refl i]
theorem eqNs_refl : ∀ l, eqNs l l = true
  | [] => rfl
  | d :: l => by unfold eqNs; rw [eqN_refl d, eqNs_refl l]; rfl
end
theorem eqNs_len : ∀ {l l' : List Nod}, eqNs l l' = true → l.length = l'.length
  | [], [], _ => rfl
  | [], _ :: _, h => by simp [eqNs] at h
  | _ :: _, [], h => by simp [eqNs] at h
  | d :: l, e :: l', h => by
    unfold eqNs at h
    rw [Bool.and_eq_true] at h
    simp [eqNs_len h.2]
theorem eqNs_ne {xs ys : List Nod} (h : ¬ ys.length = xs.length) : eqNs xs ys = false := by
  cases e : eqNs xs ys
  · rfl
  · exact absurd (eqNs_len e).symm h
theorem unSt_encN {R : Type} (d : Nod) {K : Option R} : unSt 6 (encN d) K = K := by cases d; rfl
theorem wd_encN {R : Type} (d : Nod) {K : Option R} : wd 6 (encN d) K = K := by cases d; rfl
theorem un_encN {R : Type} (n : Nod) (K : Int → ByteArray → List V → Int → Int → List V → Option R) : (unSt 6 (encN n) (unSt 6 (encN n) (unI .i64 (ce (encN n) 0) fun a => unS (ce (encN n) 1) fun b => unL 6 (ce (encN n) 2) fun c => unI .i64 (ce (encN n) 3) fun d => unI .i64 (ce (encN n) 4) fun e => unL 6 (ce (encN n) 5) fun f => K a b c d e f))) =
    match n with | .mk k d p s c i => K k d (encNs p) s c (encNs i) := by cases n; rfl
theorem eqNs_drop {xs ys : List Nod} {i : Nat} (h1 : i < xs.length) (h2 : i < ys.length) : eqNs (xs.drop i) (ys.drop i) = (eqN xs[i] ys[i] && eqNs (xs.drop (i + 1)) (ys.drop (i + 1))) := by
  rw [List.drop_eq_getElem_cons h1, List.drop_eq_getElem_cons h2, eqNs]
theorem eqNs_drop_end {xs ys : List Nod} (h : ys.length = xs.length) : eqNs (xs.drop xs.length) (ys.drop xs.length) = true := by
  rw [List.drop_length, ← h, List.drop_length, eqNs]
/-- by the parts of a node -/
theorem Nod.ind {Q : Nod → Prop} (h : ∀ k d p s c i, (∀ n ∈ p, Q n) → (∀ n ∈ i, Q n) → Q (.mk k d p s c i)) : ∀ n, Q n := by
  intro n
  exact Nod.rec (motive_1 := Q) (motive_2 := fun l => ∀ n ∈ l, Q n) (fun k d p s c i hp hi => h k d p s c i hp hi) (fun n hn => by cases hn) (fun n l hn hl m hm => by
    rcases List.mem_cons.1 hm with rfl | hm
    · exact hn
    · exact hl m hm) n
theorem in_is (a b c : Int) : (D T).call F_impl_in [.sc (.int .i64 a), .sc (.int .i64 b), .sc (.int .i64 c)] = bo (decide (b ≤ a) && decide (a ≤ c)) := by
  rw [c_impl_in, t_impl_in]
  cases decide (b ≤ a) <;> rfl
theorem l1In_is (a b c : Int) : (D T).call F_spec_l1In [.sc (.int .i64 a), .sc (.int .i64 b), .sc (.int .i64 c)] = bo (decide (b ≤ a) && decide (a ≤ c)) := by
  rw [c_spec_l1In, t_spec_l1In]
  cases decide (b ≤ a) <;> rfl
def bitsN : Nat → Nat
  | 1 => 1 | 2 => 8 | 3 => 16 | 4 => 32 | 5 => 64 | 6 => 64 | _ => 0
/-- how many bytes so many of a size need -/
def bytesN (s c : Nat) : Nat := (bitsN s * c + 7) / 8
theorem bytes_wrap {b c : Nat} (hb : b ≤ 64) (hc : c ≤ 12800) : IntKind.wrap .i64 (Int.tdiv (IntKind.wrap .i64 ((IntKind.wrap .i64 ((b : Int) * (c : Int))) + 7)) 8) = (((b * c + 7) / 8 : Nat) : Int) := by
  have h1 : b * c ≤ 819200 := Nat.le_trans (Nat.mul_le_mul hb hc) (by decide)
  have h2 : ((b : Int) * (c : Int)) = ((b * c : Nat) : Int) := by simp
  have h4 : Int.tdiv (((b * c : Nat) : Int) + 7) 8 = (((b * c + 7) / 8 : Nat) : Int) := by
    rw [show (((b * c : Nat) : Int) + 7) = ((b * c + 7 : Nat) : Int) by simp, show (8 : Int) = ((8 : Nat) : Int) from rfl, Int.ofNat_tdiv]
  rw [h2, wrap_id (n := ((b * c : Nat) : Int)) (by omega) (by omega), wrap_id (n := ((b * c : Nat) : Int) + 7) (by omega) (by omega), h4, wrap_id (by omega) (by omega)]
theorem dataBytes_is (s c : Nat) (hs : s ≤ 6) (hc : c ≤ 12800) : (D T).call F_impl_dataBytes [.sc (.int .i64 (s : Nat)), .sc (.int .i64 (c : Nat))] = nu (bytesN s c) := by
  rw [c_impl_dataBytes, t_impl_dataBytes]
  have : s = 0 ∨ s = 1 ∨ s = 2 ∨ s = 3 ∨ s = 4 ∨ s = 5 ∨ s = 6 := by omega
  rcases this with rfl | rfl | rfl | rfl | rfl | rfl | rfl
  · exact congrArg nu (bytes_wrap (b := 0) (c := c) (by decide) hc)
  · exact congrArg nu (bytes_wrap (b := 1) (c := c) (by decide) hc)
  · exact congrArg nu (bytes_wrap (b := 8) (c := c) (by decide) hc)
  · exact congrArg nu (bytes_wrap (b := 16) (c := c) (by decide) hc)
  · exact congrArg nu (bytes_wrap (b := 32) (c := c) (by decide) hc)
  · exact congrArg nu (bytes_wrap (b := 64) (c := c) (by decide) hc)
  · exact congrArg nu (bytes_wrap (b := 64) (c := c) (by decide) hc)
theorem l4Bytes_is (s c : Nat) (hs : s ≤ 6) (hc : c ≤ 12800) : (D T).call F_spec_l4Bytes [.sc (.int .i64 (s : Nat)), .sc (.int .i64 (c : Nat))] = nu (bytesN s c) := by
  have h2 : (D T).call F_spec_l2Bits [.sc (.int .i64 (s : Nat))] = nu (bitsN s) := by
    rw [c_spec_l2Bits, t_spec_l2Bits]
    have : s = 0 ∨ s = 1 ∨ s = 2 ∨ s = 3 ∨ s = 4 ∨ s = 5 ∨ s = 6 := by omega
    rcases this with rfl | rfl | rfl | rfl | rfl | rfl | rfl <;> rfl
  rw [c_spec_l4Bytes, t_spec_l4Bytes, h2, Option.bind_some, unI_mk]
  refine congrArg nu (bytes_wrap ?_ hc)
  unfold bitsN
  split <;> decide
def lastB (d : ByteArray) : Nat := match d[d.size - 1]? with | some b => b.toNat | none => 0
/-- bits of a list that are not used are 0 -/
def spareP (d : ByteArray) (n : Nat) : Bool := decide (n % 8 = 0) || decide (lastB d / 2 ^ (n % 8) = 0)
theorem ixS_last {R : Type} {d : ByteArray} (h : 0 < d.size) (hd : d.size ≤ reachBytes) {K : Int → Option R} : ixS d (IntKind.wrap .i64 ((Int.ofNat d.size) - 1)) K = K (lastB d) := by
  have hr : reachBytes = 140737488351232 := rfl
  have e : IntKind.wrap .i64 ((Int.ofNat d.size) - 1) = Int.ofNat (d.size - 1) := by
    have : (Int.ofNat d.size) = (d.size : Int) := rfl
    rw [this, wrap_id (by omega) (by omega)]
    show (d.size : Int) - 1 = ((d.size - 1 : Nat) : Int)
    omega
  rw [e]
  have hg : d[d.size - 1]? = some (d[d.size - 1]'(by omega)) := getElem?_pos d _ (by omega)
  unfold ixS lastB
  simp only [hg]
theorem pow_two (r : Nat) : Int.pow 2 r = ((2 ^ r : Nat) : Int) := by
  show (2 : Int) ^ r = _
  simp
theorem tmod8 (n : Nat) : Int.tmod (n : Int) 8 = ((n % 8 : Nat) : Int) := by
  rw [show (8 : Int) = ((8 : Nat) : Int) from rfl, Int.ofNat_tmod]
theorem spare_is (d : ByteArray) (n : Nat) (hd : d.size ≤ reachBytes) (h : n % 8 = 0 ∨ 0 < d.size) : (D T).call F_impl_spare [.sc (.string d), .sc (.int .i64 (n : Nat))] = bo (spareP d n) := by
  rw [c_impl_spare, t_impl_spare, tmod8]
  unfold spareP
  by_cases h0 : n % 8 = 0
  · rw [h0]; rfl
  · have h1 : 0 < d.size := by omega
    have hr : n % 8 < 8 := Nat.mod_lt _ (by decide)
    rw [decide_eq_false (show ¬ ((n % 8 : Nat) : Int) = 0 by omega), bif_false, ixS_last h1 hd, decide_eq_false (show ¬ ((n % 8 : Nat) : Int) < 0 by omega), decide_eq_false h0]
    simp only [Bool.not_false, bif_true, Int.toNat_natCast, Bool.false_or]
    rw [if_pos (by omega), pow_two, ← Int.ofNat_fdiv]
    refine congrArg bo ?_
    rw [Bool.eq_iff_iff, decide_eq_true_eq, decide_eq_true_eq]
    omega
/-- what the data of a list of numbers must be -/
def plainP (d : ByteArray) (s c : Nat) : Bool := decide (d.size = bytesN s c) && spareP d (bitsN s * c)
theorem bitsN_mod {s c : Nat} (h : s ≠ 1) : bitsN s * c % 8 = 0 := by
  have : bitsN s % 8 = 0 := by unfold bitsN; split <;> first | rfl | (exact absurd rfl h)
  rw [Nat.mul_mod, this, Nat.zero_mul, Nat.zero_mod]
theorem bytes_pos {s c : Nat} (h : bitsN s * c % 8 ≠ 0) : 0 < bytesN s c := by unfold bytesN; omega
theorem l4Plain_is (k : Int) (d : ByteArray) (p : List V) (s c : Nat) (i : List V) (hd : d.size ≤ reachBytes) (hs : s ≤ 6) (hc : c ≤ 12800) :
    (D T).call F_spec_l4Plain [.st [.sc (.int .i64 k), .sc (.string d), .sl 6 p, .sc (.int .i64 (s : Nat)), .sc (.int .i64 (c : Nat)), .sl 6 i]] = bo (plainP d s c) := by
  rw [c_spec_l4Plain, t_spec_l4Plain, l4Bytes_is s c hs hc, Option.bind_some, unI_mk]
  unfold plainP
  by_cases h : d.size = bytesN s c
  case neg => rw [decide_eq_false h, decide_eq_false (show ¬ Int.ofNat d.size = ((bytesN s c : Nat) : Int) from fun e => h (Int.ofNat.inj e))]; rfl
  rw [decide_eq_true h, decide_eq_true (show Int.ofNat d.size = ((bytesN s c : Nat) : Int) from congrArg Int.ofNat h), tmod8]
  simp only [Bool.not_true, bif_false, Bool.true_and]
  by_cases h1 : s = 1
  case neg =>
    have : spareP d (bitsN s * c) = true := by unfold spareP; rw [decide_eq_true (bitsN_mod h1)]; rfl
    rw [this, decide_eq_false (show ¬ ((s : Nat) : Int) = 1 by omega)]; rfl
  subst h1
  have hb : bitsN 1 * c = c := by show 1 * c = c; omega
  rw [hb]
  unfold spareP
  by_cases h0 : c % 8 = 0
  · rw [h0]; rfl
  · have h2 : 0 < d.size := by rw [h]; exact bytes_pos (by rw [hb]; exact h0)
    have hr : c % 8 < 8 := Nat.mod_lt _ (by decide)
    have hlb : lastB d < 256 := by unfold lastB; split; exact UInt8.toNat_lt _; decide
    rw [decide_eq_false (show ¬ ((c % 8 : Nat) : Int) = 0 by omega), bif_false, ixS_last h2 hd, decide_eq_false (show ¬ ((c % 8 : Nat) : Int) < 0 by omega), decide_eq_false h0]
    simp only [Bool.not_false, bif_true, Int.toNat_natCast, Bool.false_or]
    have e1 : decide (((1 : Nat) : Int) = 1) = true := rfl
    rw [e1, Bool.not_true, bif_false, if_pos (by omega), pow_two, wrap_id (by omega) (by omega), ← Int.ofNat_fdiv]
    refine congrArg bo ?_
    rw [Bool.eq_iff_iff, decide_eq_true_eq, decide_eq_true_eq]
    omega
def likeB : Nod → Nod → Bool
  | .mk _ dy py _ _ _, .mk k d p _ _ _ => decide (k = 1) && (decide (d.size = dy.size) && decide (p.length = py.length))
def allLike : List Nod → Bool
  | [] => true
  | y :: l => (y :: l).all (likeB y)
theorem sEq_emp (d : ByteArray) : sEq d (.mk (.mk [])) = decide (d.size = 0) := by
  rw [sEq_dec, Bool.eq_iff_iff, decide_eq_true_eq, decide_eq_true_eq]
  constructor
  · rintro rfl; rfl
  · intro h
    obtain ⟨⟨l⟩⟩ := d
    have h : l.length = 0 := h
    rw [List.eq_nil_of_length_eq_zero h]
theorem encN_mk (k : Int) (d : ByteArray) (p : List Nod) (s c : Int) (i : List Nod) : encN (.mk k d p s c i) = .st [.sc (.int .i64 k), .sc (.string d), .sl 6 (encNs p), .sc (.int .i64 s), .sc (.int .i64 c), .sl 6 (encNs i)] := by unfold encN; rfl
theorem unlike_is (xn : V) (x y : Nod) (items : List Nod) (hn : ce xn 5 = .sl 6 (encNs items)) (h0 : (encNs items)[0]? = some (encN y)) :
    (D T).call F_impl_Node_shapedq1 [encN x, .rp xn 0] = bo (!likeB y x) := by
  obtain ⟨k, d, p, s, c, i⟩ := x
  obtain ⟨k', d', p', s', c', i'⟩ := y
  rw [encN_mk] at h0 ⊢
  rw [c_impl_Node_shapedq1, t_impl_Node_shapedq1, hn]
  simp only [unL_mk, exN_at h0]
  unfold likeB
  rw [ce_st, ce_st]
  simp only [List.getD_cons_zero, List.getD_cons_succ, unS_mk, unL_mk, encNs_length]
  cases decide (k = 1)
  · rfl
  · by_cases h1 : d.size = d'.size
    · rw [decide_eq_true h1, decide_eq_true (show Int.ofNat d.size = Int.ofNat d'.size from congrArg Int.ofNat h1)]
      by_cases h2 : p.length = p'.length
      · rw [decide_eq_true h2, decide_eq_true (show Int.ofNat p.length = Int.ofNat p'.length from congrArg Int.ofNat h2)]; rfl
      · rw [decide_eq_false h2, decide_eq_false (show ¬ Int.ofNat p.length = Int.ofNat p'.length from fun e => h2 (Int.ofNat.inj e))]; rfl
    · rw [decide_eq_false h1, decide_eq_false (show ¬ Int.ofNat d.size = Int.ofNat d'.size from fun e => h1 (Int.ofNat.inj e))]; rfl
theorem allLike_contains (xn : V) (items : List Nod) (hl : items.length ≤ 140737488351232) (hn : ce xn 5 = .sl 6 (encNs items)) :
    (D T).call F_slices_ContainsFunc_impl_Node_impl_Node [.sl 6 (encNs items), .clo F_impl_Node_shapedq1 [.rp xn 0]] = bo (!allLike items) := by
  rw [c_slices_ContainsFunc_impl_Node_impl_Node, t_slices_ContainsFunc_impl_Node_impl_Node, c_slices_IndexFunc_impl_Node_impl_Node, t_slices_IndexFunc_impl_Node_impl_Node]
  cases hi : items with
  | nil => rw [L_slices_IndexFunc_impl_Node_impl_Node_0_eq]; rfl
  | cons y l =>
  rw [← hi]
  have h0 : (encNs items)[0]? = some (encN y) := by rw [hi, encNs]; rfl
  have hL : ∀ j, j ≤ items.length → ∃ m, L_slices_IndexFunc_impl_Node_impl_Node_0 (D T) (encNs items) xn (Int.ofNat (encNs items).length) (j : Int) = nu m ∧ decide (0 ≤ m) = !((items.drop j).all (likeB y)) := by
    rw [encNs_length]
    refine down ⟨-1, ?_, ?_⟩ fun j hj ih => ?_
    · rw [L_slices_IndexFunc_impl_Node_impl_Node_0_eq, tL_slices_IndexFunc_impl_Node_impl_Node_0, nlt_ofNat]; rfl
    · rw [List.drop_length]; rfl
    · obtain ⟨m, h1, h2⟩ := ih
      have hd : (items.drop j).all (likeB y) = (likeB y items[j] && (items.drop (j + 1)).all (likeB y)) := by rw [List.drop_eq_getElem_cons hj, List.all_cons]
      rw [L_slices_IndexFunc_impl_Node_impl_Node_0_eq, tL_slices_IndexFunc_impl_Node_impl_Node_0, lt_ofNat hj, bif_true, ix_at (encNs_get items j hj), unSt_encN, unlike_is xn _ y items hn h0, Option.bind_some, unB_mk, hd, next_i (by omega)]
      cases likeB y items[j] with
      | false => exact ⟨(j : Int), rfl, by rw [le_ofNat]; rfl⟩
      | true => exact ⟨m, h1, h2⟩
  obtain ⟨m, h1, h2⟩ := hL 0 (Nat.zero_le _)
  have h1 : L_slices_IndexFunc_impl_Node_impl_Node_0 (D T) (encNs items) xn (Int.ofNat (encNs items).length) 0 = nu m := h1
  rw [h1, Option.bind_some, unI_mk, h2, List.drop_zero, hi]
  rfl
def shpB : Nod → Bool
  | .mk k d p s c i =>
    bif decide (k = 0) then decide (p.length = 0) && (decide (i.length = 0) && (decide (d.size = 0) && (decide (s = 0) && decide (c = 0))))
    else bif decide (k = 1) then decide (d.size % 8 = 0) && (decide (i.length = 0) && (decide (s = 0) && decide (c = 0)))
    else bif decide (k = 2) then (decide (0 ≤ c) && decide (c ≤ 12800)) &&
      (bif decide (0 ≤ s) && decide (s ≤ 5) then (decide (p.length = 0) && decide (i.length = 0)) && plainP d s.toNat c.toNat
       else bif decide (s = 6) then decide (d.size = 0) && (decide (i.length = 0) && decide ((p.length : Int) = c))
       else bif decide (s = 7) then decide (d.size = 0) && (decide (p.length = 0) && (decide ((i.length : Int) = c) && allLike i))
       else false)
    else false
theorem len0 {α : Type} (l : List α) : decide (Int.ofNat l.length = 0) = decide (l.length = 0) := by
  rw [Bool.eq_iff_iff, decide_eq_true_eq, decide_eq_true_eq]
  exact ⟨fun h => Int.ofNat.inj h, fun h => congrArg Int.ofNat h⟩
theorem bare_is (k : Int) (d : ByteArray) (p : List Nod) (s c : Int) (i : List Nod) : (D T).call F_impl_Node_bare [encN (.mk k d p s c i)] = bo (decide (p.length = 0) && decide (i.length = 0)) := by
  rw [encN_mk, c_impl_Node_bare, t_impl_Node_bare, encNs_length, encNs_length, len0, len0]
  cases decide (p.length = 0) <;> rfl
theorem shaped_is (n : Nod) (h : okN n) : (D T).call F_impl_Node_shaped [encN n] = bo (shpB n) := by
  obtain ⟨k, d, p, s, c, i⟩ := n
  unfold okN at h
  have hb := bare_is k d p s c i
  have hcon := allLike_contains (encN (.mk k d p s c i)) i (reach_lt (b := 87) h.2.2.1) (by rw [encN_mk]; rfl)
  rw [encN_mk] at hb hcon ⊢
  rw [c_impl_Node_shaped, t_impl_Node_shaped, hb, hcon]
  simp only [Option.bind_some, unB_mk, sEq_emp, encNs_length, in_is, shpB]
  cases hk0 : decide (k = 0) with
  | true =>
    simp only [bif_true]
    cases decide (p.length = 0) <;> cases decide (i.length = 0) <;> cases decide (d.size = 0) <;> cases decide (s = 0) <;> rfl
  | false =>
  simp only [bif_false]
  cases hk1 : decide (k = 1) with
  | true =>
    simp only [bif_true]
    have e1 : decide (Int.tmod (Int.ofNat d.size) 8 = 0) = decide (d.size % 8 = 0) := by
      rw [show Int.ofNat d.size = (d.size : Int) from rfl, tmod8, Bool.eq_iff_iff, decide_eq_true_eq, decide_eq_true_eq]
      omega
    rw [e1, len0]
    cases decide (d.size % 8 = 0) <;> cases decide (i.length = 0) <;> cases decide (s = 0) <;> rfl
  | false =>
  simp only [bif_false]
  cases hk2 : decide (k = 2) with
  | false => rfl
  | true =>
  simp only [bif_true]
  cases hc : (decide (0 ≤ c) && decide (c ≤ 12800)) with
  | false => rfl
  | true =>
  simp only [Bool.not_true, bif_false, Bool.true_and]
  rw [Bool.and_eq_true, decide_eq_true_eq, decide_eq_true_eq] at hc
  cases hs : (decide (0 ≤ s) && decide (s ≤ 5)) with
  | true =>
    simp only [bif_true]
    cases (decide (p.length = 0) && decide (i.length = 0)) with
    | false => rfl
    | true =>
    simp only [bif_true, Bool.true_and]
    rw [Bool.and_eq_true, decide_eq_true_eq, decide_eq_true_eq] at hs
    obtain ⟨s', rfl⟩ := Int.eq_ofNat_of_zero_le hs.1
    obtain ⟨c', rfl⟩ := Int.eq_ofNat_of_zero_le hc.1
    have hs' : s' ≤ 5 := by omega
    have hc' : c' ≤ 12800 := by omega
    rw [dataBytes_is s' c' (by omega) hc', Option.bind_some, unI_mk]
    show _ = bo (plainP d s' c')
    unfold plainP
    by_cases hd : d.size = bytesN s' c'
    case neg => rw [decide_eq_false hd, decide_eq_false (show ¬ Int.ofNat d.size = ((bytesN s' c' : Nat) : Int) from fun e => hd (Int.ofNat.inj e))]; rfl
    rw [decide_eq_true hd, decide_eq_true (show Int.ofNat d.size = ((bytesN s' c' : Nat) : Int) from congrArg Int.ofNat hd)]
    have hsp := spare_is d (bitsN s' * c') h.1 (by
      by_cases h0 : bitsN s' * c' % 8 = 0
      · exact .inl h0
      · exact .inr (by rw [hd]; exact bytes_pos h0))
    have hmul : ∀ b : Nat, b ≤ 64 → IntKind.wrap .i64 ((b : Int) * (c' : Int)) = ((b * c' : Nat) : Int) := fun b hb => by
      have h1 : b * c' ≤ 819200 := Nat.le_trans (Nat.mul_le_mul hb hc') (by decide)
      have h2 : ((b : Int) * (c' : Int)) = ((b * c' : Nat) : Int) := by simp
      rw [h2, wrap_id (by omega) (by omega)]
    have h5 : s' = 0 ∨ s' = 1 ∨ s' = 2 ∨ s' = 3 ∨ s' = 4 ∨ s' = 5 := by omega
    have fin : ∀ b : Nat, b ≤ 64 → bitsN s' = b → ((D T).call F_impl_spare [.sc (.string d), .sc (.int .i64 (IntKind.wrap .i64 ((b : Int) * (c' : Int))))]).bind (fun r => unB r.1 fun t => (some (.sc (.bool t), []) : Option Res)) = bo (true && spareP d (bitsN s' * c')) := fun b hb e => by
      rw [hmul b hb, ← e, hsp]; rfl
    rcases h5 with rfl | rfl | rfl | rfl | rfl | rfl
    · exact fin 0 (by decide) rfl
    · exact fin 1 (by decide) rfl
    · exact fin 8 (by decide) rfl
    · exact fin 16 (by decide) rfl
    · exact fin 32 (by decide) rfl
    · exact fin 64 (by decide) rfl
  | false =>
  simp only [bif_false]
  cases hs6 : decide (s = 6) with
  | true =>
    simp only [bif_true]
    rw [len0]
    cases decide (d.size = 0) <;> cases decide (i.length = 0) <;> rfl
  | false =>
  simp only [bif_false]
  cases hs7 : decide (s = 7) with
  | false => rfl
  | true =>
    simp only [bif_true]
    rw [len0]
    cases decide (d.size = 0) <;> cases decide (p.length = 0) <;> first | rfl | skip
    show (bif decide (Int.ofNat i.length = c) then _ else _) = bo (true && (true && (decide (Int.ofNat i.length = c) && allLike i)))
    cases decide (Int.ofNat i.length = c) <;> cases allLike i <;> rfl
def strB : Nod → Bool
  | .mk k d p s c i => decide (k = 1) && (decide (d.size % 8 = 0) && (decide (s = 0) && (decide (c = 0) && decide (i.length = 0))))
theorem strB_is (n : Nod) : (D T).call F_spec_l4Struct [encN n] = bo (strB n) := by
  obtain ⟨k, d, p, s, c, i⟩ := n
  have e1 : decide (Int.tmod (Int.ofNat d.size) 8 = 0) = decide (d.size % 8 = 0) := by
    rw [show Int.ofNat d.size = (d.size : Int) from rfl, tmod8, Bool.eq_iff_iff, decide_eq_true_eq, decide_eq_true_eq]
    omega
  rw [encN_mk, c_spec_l4Struct, t_spec_l4Struct, encNs_length, len0, e1]
  simp only [strB]
  cases decide (k = 1) <;> cases decide (d.size % 8 = 0) <;> cases decide (s = 0) <;> cases decide (c = 0) <;> rfl
def allStr : List Nod → Bool
  | [] => true
  | y :: l => (y :: l).all fun x => strB x && likeB y x
def lstB : Nod → Bool
  | .mk k d p s c i =>
    decide (k = 2) && ((decide (0 ≤ s) && decide (s ≤ 7)) && ((decide (0 ≤ c) && decide (c ≤ 12800)) &&
      (bif decide (s = 6) then decide (d.size = 0) && (decide ((p.length : Int) = c) && decide (i.length = 0))
       else bif decide (s = 7) then allStr i && (decide (d.size = 0) && (decide (p.length = 0) && decide ((i.length : Int) = c)))
       else decide (p.length = 0) && (decide (i.length = 0) && plainP d s.toNat c.toNat))))
theorem ce1_encN (k : Int) (d : ByteArray) (p : List Nod) (s c : Int) (i : List Nod) : ce (encN (.mk k d p s c i)) 1 = .sc (.string d) := by rw [encN_mk]; rfl
theorem ce2_encN (k : Int) (d : ByteArray) (p : List Nod) (s c : Int) (i : List Nod) : ce (encN (.mk k d p s c i)) 2 = .sl 6 (encNs p) := by rw [encN_mk]; rfl
theorem dec_ofNat {a b : Nat} : decide (Int.ofNat a = Int.ofNat b) = decide (a = b) := by
  rw [Bool.eq_iff_iff, decide_eq_true_eq, decide_eq_true_eq]
  exact ⟨fun h => Int.ofNat.inj h, fun h => congrArg Int.ofNat h⟩
theorem likeB_of {x y : Nod} (h : strB x = true) : likeB y x = match y, x with | .mk _ dy py _ _ _, .mk k d p _ _ _ => decide (d.size = dy.size) && decide (p.length = py.length) := by
  obtain ⟨k, d, p, s, c, i⟩ := x
  obtain ⟨k', d', p', s', c', i'⟩ := y
  simp only [strB, Bool.and_eq_true] at h
  simp only [likeB, h.1, Bool.true_and]
theorem l4List_is (n : Nod) (h : okN n) : (D T).call F_spec_l4List [encN n] = bo (lstB n) := by
  obtain ⟨k, d, p, s, c, i⟩ := n
  unfold okN at h
  have hi := reach_lt (b := 87) h.2.2.1
  rw [encN_mk, c_spec_l4List, t_spec_l4List]
  simp only [l1In_is, Option.bind_some, unB_mk, sEq_emp, encNs_length, len0, lstB]
  cases hk : decide (k = 2) with
  | false => rfl
  | true =>
  simp only [Bool.not_true, bif_false, Bool.true_and]
  cases hs : (decide (0 ≤ s) && decide (s ≤ 7)) with
  | false => rfl
  | true =>
  simp only [Bool.not_true, bif_false, Bool.true_and]
  cases hc : (decide (0 ≤ c) && decide (c ≤ 12800)) with
  | false => rfl
  | true =>
  simp only [Bool.not_true, bif_false, Bool.true_and]
  cases hs6 : decide (s = 6) with
  | true =>
    simp only [bif_true]
    show (bif decide (d.size = 0) then bif decide (Int.ofNat p.length = c) then _ else _ else _) = bo (decide (d.size = 0) && (decide (Int.ofNat p.length = c) && _))
    cases decide (d.size = 0) <;> cases decide (Int.ofNat p.length = c) <;> rfl
  | false =>
  simp only [bif_false]
  cases hs7 : decide (s = 7) with
  | true =>
    simp only [bif_true]
    let fin : Bool := decide (d.size = 0) && (decide (p.length = 0) && decide (Int.ofNat i.length = c))
    have hend : ∀ j : Nat, j = i.length → L_spec_l4List_0 (D T) (j : Int) k d (encNs p) s c (encNs i) = bo fin := by
      rintro j rfl
      rw [L_spec_l4List_0_eq, tL_spec_l4List_0, encNs_length, nlt_ofNat, sEq_emp, encNs_length, len0]
      show _ = bo (decide (d.size = 0) && (decide (p.length = 0) && decide (Int.ofNat i.length = c)))
      cases decide (d.size = 0) <;> cases decide (p.length = 0) <;> rfl
    show L_spec_l4List_0 (D T) ((0 : Nat) : Int) k d (encNs p) s c (encNs i) = bo (allStr i && fin)
    cases hil : i with
    | nil =>
      have e : allStr i = true := by rw [hil]; rfl
      rw [← hil, e, Bool.true_and]
      exact hend 0 (by rw [hil]; rfl)
    | cons y l =>
    have h0 : (encNs i)[0]? = some (encN y) := by rw [hil, encNs]; rfl
    have hL : ∀ j, j ≤ i.length → L_spec_l4List_0 (D T) (j : Int) k d (encNs p) s c (encNs i) = bo ((i.drop j).all (fun x => strB x && likeB y x) && fin) := by
      refine down ?_ fun j hj ih => ?_
      · rw [hend _ rfl, List.drop_length]; rfl
      · have hd : (i.drop j).all (fun x => strB x && likeB y x) = ((strB i[j] && likeB y i[j]) && (i.drop (j + 1)).all (fun x => strB x && likeB y x)) := by rw [List.drop_eq_getElem_cons hj, List.all_cons]
        have hg := encNs_get i j hj
        rw [L_spec_l4List_0_eq, tL_spec_l4List_0, encNs_length, lt_ofNat hj, bif_true, ix_at hg, unSt_encN, strB_is, Option.bind_some, unB_mk, ix_at hg, next_i (by omega), ih, hd]
        cases hst : strB i[j] with
        | false => rfl
        | true =>
        rw [likeB_of hst]
        generalize i[j] = x at hg hst
        obtain ⟨k1, d1, p1, s1, c1, i1⟩ := x
        obtain ⟨k2, d2, p2, s2, c2, i2⟩ := y
        simp only [Bool.not_true, bif_false, ce1_encN, ce2_encN, unS_mk, unL_mk, exN_at h0, ix_at hg, encNs_length, dec_ofNat]
        cases decide (d1.size = d2.size) <;> cases decide (p1.length = p2.length) <;> rfl
    have := hL 0 (Nat.zero_le _)
    rw [List.drop_zero] at this
    rw [← hil, this, hil]
    rfl
  | false =>
    simp only [bif_false]
    rw [Bool.and_eq_true, decide_eq_true_eq, decide_eq_true_eq] at hc hs
    have g6 : ¬ s = 6 := of_decide_eq_false hs6
    have g7 : ¬ s = 7 := of_decide_eq_false hs7
    obtain ⟨s', rfl⟩ := Int.eq_ofNat_of_zero_le hs.1
    obtain ⟨c', rfl⟩ := Int.eq_ofNat_of_zero_le hc.1
    rw [l4Plain_is k d (encNs p) s' c' (encNs i) h.1 (by omega) (by omega)]
    show _ = bo (decide (p.length = 0) && (decide (i.length = 0) && plainP d s' c'))
    cases decide (p.length = 0) <;> cases decide (i.length = 0) <;> rfl
mutual
def wdN : Nod → Nat
  | .mk k d p s c i => if k = 0 then 0 else (d.size + 7) / 8 + p.length + (if s = 7 then 1 else 0) + wdT p + wdT i
def wdT : List Nod → Nat
  | [] => 0
  | n :: l => wdN n + wdT l
end
mutual
def dpN : Nod → Int
  | .mk k d p s c i => if k = 0 then 0 else dpI (dpP 0 p) i + 1
def dpP (a : Int) : List Nod → Int
  | [] => a
  | n :: l => dpP (if a < dpN n then dpN n else a) l
def dpI (a : Int) : List Nod → Int
  | [] => a
  | n :: l => dpI (if a < dpN n - 1 then dpN n - 1 else a) l
end
mutual
def mok : Int → Nod → Bool
  | left, .mk k d p s c i => shpB (.mk k d p s c i) && (decide (0 ≤ left) && (decide (k = 0) || (moks (left - 1) p && moks left i)))
def moks : Int → List Nod → Bool
  | _, [] => true
  | left, n :: l => mok left n && moks left l
end
theorem wd_le : ∀ n, wdN n ≤ 1 + 2 * szN n := by
  refine Nod.ind fun k d p s c i hp hi => ?_
  have hT : ∀ l : List Nod, (∀ n ∈ l, wdN n ≤ 1 + 2 * szN n) → wdT l ≤ l.length + 2 * szT l := by
    intro l
    induction l with
    | nil => intro _; simp [wdT, szT]
    | cons n l ih =>
      intro h
      have h1 := h n (List.mem_cons_self ..)
      have h2 := ih fun m hm => h m (List.mem_cons_of_mem _ hm)
      simp only [wdT, szT, List.length_cons]
      omega
  have h1 := hT p hp
  have h2 := hT i hi
  simp only [wdN, szN]
  split
  · omega
  · split <;> omega
theorem dp_le : ∀ n, 0 ≤ dpN n ∧ dpN n ≤ 1 + (szN n : Int) := by
  refine Nod.ind fun k d p s c i hp hi => ?_
  have hP : ∀ (l : List Nod), (∀ n ∈ l, 0 ≤ dpN n ∧ dpN n ≤ 1 + (szN n : Int)) → ∀ (a B : Int), 0 ≤ a → a ≤ B → 0 ≤ dpP a l ∧ dpP a l ≤ B + (l.length + szT l : Nat) := by
    intro l
    induction l with
    | nil => intro _ a B h0 hB; simp only [dpP, szT, List.length_nil]; omega
    | cons n l ih =>
      intro h a B h0 hB
      have h1 := h n (List.mem_cons_self ..)
      have h2 := ih (fun m hm => h m (List.mem_cons_of_mem _ hm)) (if a < dpN n then dpN n else a) (B + 1 + szN n) (by split <;> omega) (by split <;> omega)
      simp only [dpP, szT, List.length_cons]
      omega
  have hI : ∀ (l : List Nod), (∀ n ∈ l, 0 ≤ dpN n ∧ dpN n ≤ 1 + (szN n : Int)) → ∀ (a B : Int), 0 ≤ a → a ≤ B → 0 ≤ dpI a l ∧ dpI a l ≤ B + (l.length + szT l : Nat) := by
    intro l
    induction l with
    | nil => intro _ a B h0 hB; simp only [dpI, szT, List.length_nil]; omega
    | cons n l ih =>
      intro h a B h0 hB
      have h1 := h n (List.mem_cons_self ..)
      have h2 := ih (fun m hm => h m (List.mem_cons_of_mem _ hm)) (if a < dpN n - 1 then dpN n - 1 else a) (B + 1 + szN n) (by split <;> omega) (by split <;> omega)
      simp only [dpI, szT, List.length_cons]
      omega
  have h1 := hP p hp 0 0 (by omega) (by omega)
  have h2 := hI i hi (dpP 0 p) _ h1.1 h1.2
  simp only [dpN, szN]
  split <;> omega
theorem wdT_drop {l : List Nod} {i : Nat} (h : i < l.length) : wdT (l.drop i) = wdN l[i] + wdT (l.drop (i + 1)) := by rw [List.drop_eq_getElem_cons h, wdT]
theorem szT_mem : ∀ {l : List Nod} {n : Nod}, n ∈ l → szN n ≤ szT l
  | [], n, h => by cases h
  | m :: l, n, h => by
    unfold szT
    rcases List.mem_cons.1 h with rfl | h
    · omega
    · have := szT_mem h; omega
theorem moks_drop {a : Int} {l : List Nod} {i : Nat} (h : i < l.length) : moks a (l.drop i) = (mok a l[i] && moks a (l.drop (i + 1))) := by rw [List.drop_eq_getElem_cons h, moks]
theorem dpP_drop {a : Int} {l : List Nod} {i : Nat} (h : i < l.length) : dpP a (l.drop i) = dpP (if a < dpN l[i] then dpN l[i] else a) (l.drop (i + 1)) := by rw [List.drop_eq_getElem_cons h, dpP]
theorem dpI_drop {a : Int} {l : List Nod} {i : Nat} (h : i < l.length) : dpI a (l.drop i) = dpI (if a < dpN l[i] - 1 then dpN l[i] - 1 else a) (l.drop (i + 1)) := by rw [List.drop_eq_getElem_cons h, dpI]
/-- what measured answers -/
abbrev tri (a b : Int) (c : Bool) : Option Res := some (.tup [.sc (.int .i64 a), .sc (.int .i64 b), .sc (.bool c)], [])
abbrev meaR (left : Int) (n : Nod) : Option Res := bif mok left n then tri (dpN n) (wdN n) true else tri 0 0 false
theorem un_tri {R : Type} {a b : Int} {c : Bool} {o : List V} {K : Int → Int → Bool → Option R} :
    (unTup 3 (Prod.fst ((V.tup [.sc (.int .i64 a), .sc (.int .i64 b), .sc (.bool c)], o) : Res)) fun v => unI .i64 (List.getD (α := V) v 0 .dead) fun x => unI .i64 (List.getD (α := V) v 1 .dead) fun y => unB (List.getD (α := V) v 2 .dead) fun z => K x y z) = K a b c := rfl
theorem mea_items (l : List Nod) (hl : l.length ≤ 1048576) (left : Int)
    (ih : ∀ n ∈ l, (D T).call F_impl_Node_measured [encN n, .sc (.int .i64 left)] = meaR left n) (hd : ∀ n ∈ l, 0 ≤ dpN n ∧ dpN n ≤ 1048577) (hw : ∀ n ∈ l, wdN n ≤ 2097153) :
    ∀ j, j ≤ l.length → ∀ (dp : Int) (w : Nat), 0 ≤ dp → dp ≤ 1048577 → w + wdT (l.drop j) ≤ 4611686018427387904 →
      L_impl_Node_measured_1 (D T) left dp (w : Nat) (encNs l) (Int.ofNat l.length) (j : Int) = bif moks left (l.drop j) then tri (dpI dp (l.drop j) + 1) ((w + wdT (l.drop j) : Nat) : Int) true else tri 0 0 false := by
  refine down (fun dp w h0 h1 hB => ?_) fun j hj ihj dp w h0 h1 hB => ?_
  · rw [L_impl_Node_measured_1_eq, tL_impl_Node_measured_1, nlt_ofNat, List.drop_length, bif_false]
    simp only [moks, dpI, wdT, bif_true, Nat.add_zero]
    rw [wrap_id (by omega) (by omega)]
  · have hm := List.getElem_mem hj
    have h2 := ih _ hm
    have h3 := hd _ hm
    have h4 := hw _ hm
    rw [wdT_drop hj] at hB ⊢
    rw [L_impl_Node_measured_1_eq, tL_impl_Node_measured_1, lt_ofNat hj, bif_true, ix_at (encNs_get l j hj), un_encN, moks_drop hj, dpI_drop hj]
    generalize l[j] = x at h2 h3 h4 hB ⊢
    have hx : encN x = match x with | .mk k d p s c i => .st [.sc (.int .i64 k), .sc (.string d), .sl 6 (encNs p), .sc (.int .i64 s), .sc (.int .i64 c), .sl 6 (encNs i)] := by cases x; exact encN_mk ..
    rw [hx] at h2
    have key : (match x with | .mk k d p s c i => (D T).call F_impl_Node_measured [.st [.sc (.int .i64 k), .sc (.string d), .sl 6 (encNs p), .sc (.int .i64 s), .sc (.int .i64 c), .sl 6 (encNs i)], .sc (.int .i64 left)]) = meaR left x := by cases x; exact h2
    obtain ⟨k, d, p, s, c, i⟩ := x
    simp only at key ⊢
    rw [key]
    unfold meaR
    cases mok left (.mk k d p s c i) with
    | false => rfl
    | true =>
      rw [bif_true, Option.bind_some, un_tri, Bool.not_true, bif_false, next_i (by omega)]
      have e1 : IntKind.wrap .i64 (dpN (.mk k d p s c i) - 1) = dpN (.mk k d p s c i) - 1 := wrap_id (by omega) (by omega)
      have e2 : IntKind.wrap .i64 (((w : Nat) : Int) + ((wdN (.mk k d p s c i) : Nat) : Int)) = ((w + wdN (.mk k d p s c i) : Nat) : Int) := by rw [wrap_id (by omega) (by omega)]; omega
      rw [e1, e2, ihj _ _ (by split <;> omega) (by split <;> omega) (by omega), Bool.true_and, Nat.add_assoc]
theorem mea_ptrs (k0 s0 c0 : Int) (d0 : ByteArray) (p0 i0 : List Nod) (l : List Nod) (hl : l.length ≤ 1048576) (left : Int) (hleft : 0 ≤ left ∧ left ≤ 100)
    (ih : ∀ n ∈ l, (D T).call F_impl_Node_measured [encN n, .sc (.int .i64 (left - 1))] = meaR (left - 1) n) (hd : ∀ n ∈ l, 0 ≤ dpN n ∧ dpN n ≤ 1048577) (hw : ∀ n ∈ l, wdN n ≤ 2097153) :
    ∀ j, j ≤ l.length → ∀ (dp : Int) (w : Nat), 0 ≤ dp → dp ≤ 1048577 → w + wdT (l.drop j) ≤ 4611686018427387904 →
      L_impl_Node_measured_0 (D T) left dp (w : Nat) (encNs l) (Int.ofNat l.length) (j : Int) k0 d0 (encNs p0) s0 c0 (encNs i0) = bif moks (left - 1) (l.drop j) then L_impl_Node_measured_1 (D T) left (dpP dp (l.drop j)) ((w + wdT (l.drop j) : Nat) : Int) (encNs i0) (Int.ofNat i0.length) 0 else tri 0 0 false := by
  refine down (fun dp w h0 h1 hB => ?_) fun j hj ihj dp w h0 h1 hB => ?_
  · rw [L_impl_Node_measured_0_eq, tL_impl_Node_measured_0, nlt_ofNat, List.drop_length, bif_false, encNs_length]
    simp only [moks, dpP, wdT, bif_true, Nat.add_zero]
  · have hm := List.getElem_mem hj
    have h2 := ih _ hm
    have h3 := hd _ hm
    have h4 := hw _ hm
    rw [wdT_drop hj] at hB ⊢
    rw [L_impl_Node_measured_0_eq, tL_impl_Node_measured_0, lt_ofNat hj, bif_true, ix_at (encNs_get l j hj), un_encN, moks_drop hj, dpP_drop hj]
    generalize l[j] = x at h2 h3 h4 hB ⊢
    have hx : encN x = match x with | .mk k d p s c i => .st [.sc (.int .i64 k), .sc (.string d), .sl 6 (encNs p), .sc (.int .i64 s), .sc (.int .i64 c), .sl 6 (encNs i)] := by cases x; exact encN_mk ..
    rw [hx] at h2
    have key : (match x with | .mk k d p s c i => (D T).call F_impl_Node_measured [.st [.sc (.int .i64 k), .sc (.string d), .sl 6 (encNs p), .sc (.int .i64 s), .sc (.int .i64 c), .sl 6 (encNs i)], .sc (.int .i64 (left - 1))]) = meaR (left - 1) x := by cases x; exact h2
    obtain ⟨k, d, p, s, c, i⟩ := x
    simp only at key ⊢
    have e0 : IntKind.wrap .i64 (left - 1) = left - 1 := wrap_id (by omega) (by omega)
    rw [e0, key]
    unfold meaR
    cases mok (left - 1) (.mk k d p s c i) with
    | false => rfl
    | true =>
      rw [bif_true, Option.bind_some, un_tri, Bool.not_true, bif_false, next_i (by omega)]
      have e2 : IntKind.wrap .i64 (((w : Nat) : Int) + ((wdN (.mk k d p s c i) : Nat) : Int)) = ((w + wdN (.mk k d p s c i) : Nat) : Int) := by rw [wrap_id (by omega) (by omega)]; omega
      rw [e2, ihj _ _ (by split <;> omega) (by split <;> omega) (by omega), Bool.true_and, Nat.add_assoc]
theorem measured_is : ∀ n, okN n → szN n ≤ 1048576 → ∀ left : Int, -1 ≤ left → left ≤ 100 → (D T).call F_impl_Node_measured [encN n, .sc (.int .i64 left)] = meaR left n := by
  refine Nod.ind fun k d p s c i hp hi => ?_
  intro h hsz left hl0 hl1
  have hsh := shaped_is _ h
  have hok := h
  unfold okN at hok
  have hsz' := hsz
  simp only [szN] at hsz'
  have hwd := wd_le (.mk k d p s c i)
  have hbp : ∀ n ∈ p, (0 ≤ dpN n ∧ dpN n ≤ 1048577) ∧ wdN n ≤ 2097153 ∧ szN n ≤ 1048576 := fun n hn => by
    have h1 := szT_mem hn; have h2 := dp_le n; have h3 := wd_le n; omega
  have hbi : ∀ n ∈ i, (0 ≤ dpN n ∧ dpN n ≤ 1048577) ∧ wdN n ≤ 2097153 ∧ szN n ≤ 1048576 := fun n hn => by
    have h1 := szT_mem hn; have h2 := dp_le n; have h3 := wd_le n; omega
  have hTb : ∀ l : List Nod, wdT l ≤ l.length + 2 * szT l := by
    intro l
    induction l with
    | nil => simp [wdT, szT]
    | cons n l ih => have := wd_le n; simp only [wdT, szT, List.length_cons]; omega
  rw [encN_mk] at hsh ⊢
  rw [c_impl_Node_measured, t_impl_Node_measured, hsh, Option.bind_some, unB_mk, encNs_length]
  unfold meaR
  rw [mok]
  cases hs : shpB (.mk k d p s c i) with
  | false => rfl
  | true =>
  simp only [Bool.not_true, bif_false, Bool.true_and]
  by_cases hle : left < 0
  · rw [decide_eq_true hle, decide_eq_false (show ¬ 0 ≤ left by omega)]; rfl
  rw [decide_eq_false hle, decide_eq_true (show 0 ≤ left by omega)]
  simp only [bif_false, Bool.true_and]
  by_cases hk : k = 0
  · rw [decide_eq_true hk]
    simp only [Bool.true_or, bif_true, dpN, wdN, if_pos hk]
    rfl
  rw [decide_eq_false hk]
  simp only [bif_false, Bool.false_or, dpN, wdN, if_neg hk]
  have w1 : IntKind.wrap .i64 ((IntKind.wrap .i64 (Int.tdiv (IntKind.wrap .i64 ((IntKind.wrap .i64 ((Int.ofNat d.size) + 8)) - 1)) 8)) + (Int.ofNat p.length)) = (((d.size + 7) / 8 + p.length : Nat) : Int) := by
    rw [show Int.ofNat d.size = (d.size : Int) from rfl, show Int.ofNat p.length = (p.length : Int) from rfl, wrap_id (n := (d.size : Int) + 8) (by omega) (by omega), wrap_id (n := (d.size : Int) + 8 - 1) (by omega) (by omega),
      show ((d.size : Int) + 8 - 1) = ((d.size + 7 : Nat) : Int) by omega, show (8 : Int) = ((8 : Nat) : Int) from rfl, ← Int.ofNat_tdiv, wrap_id (n := (((d.size + 7) / 8 : Nat) : Int)) (by omega) (by omega), wrap_id (by omega) (by omega)]
    omega
  have fin : ∀ w : Nat, w ≤ 4194304 → L_impl_Node_measured_0 (D T) left 0 (w : Nat) (encNs p) (Int.ofNat p.length) 0 k d (encNs p) s c (encNs i) =
      bif (moks (left - 1) p && moks left i) then tri (dpI (dpP 0 p) i + 1) ((w + wdT p + wdT i : Nat) : Int) true else tri 0 0 false := fun w hw => by
    have hTp := hTb p
    have hTi := hTb i
    have h1 := mea_ptrs k s c d p i p (by omega) left ⟨by omega, hl1⟩ (fun n hn => hp n hn (okNs_mem.1 hok.2.2.2.1 n hn) (hbp n hn).2.2 _ (by omega) (by omega)) (fun n hn => (hbp n hn).1) (fun n hn => (hbp n hn).2.1) 0 (Nat.zero_le _) 0 w (by omega) (by omega) (by rw [List.drop_zero]; omega)
    rw [List.drop_zero] at h1
    have h1 : L_impl_Node_measured_0 (D T) left 0 (w : Nat) (encNs p) (Int.ofNat p.length) 0 k d (encNs p) s c (encNs i) = _ := h1
    rw [h1]
    cases moks (left - 1) p with
    | false => rfl
    | true =>
    have hdP : 0 ≤ dpP 0 p ∧ dpP 0 p ≤ 1048577 := by
      have hP : ∀ (l : List Nod), (∀ n ∈ l, 0 ≤ dpN n ∧ dpN n ≤ 1048577) → ∀ a : Int, 0 ≤ a → a ≤ 1048577 → 0 ≤ dpP a l ∧ dpP a l ≤ 1048577 := by
        intro l
        induction l with
        | nil => intro _ a h0 h1; exact ⟨h0, h1⟩
        | cons n l ih =>
          intro hh a h0 h1
          have := hh n (List.mem_cons_self ..)
          exact ih (fun m hm => hh m (List.mem_cons_of_mem _ hm)) _ (by split <;> omega) (by split <;> omega)
      exact hP p (fun n hn => (hbp n hn).1) 0 (by omega) (by omega)
    have h2 := mea_items i (by omega) left (fun n hn => hi n hn (okNs_mem.1 hok.2.2.2.2 n hn) (hbi n hn).2.2 _ hl0 hl1) (fun n hn => (hbi n hn).1) (fun n hn => (hbi n hn).2.1) 0 (Nat.zero_le _) (dpP 0 p) (w + wdT p) hdP.1 hdP.2 (by rw [List.drop_zero]; omega)
    rw [List.drop_zero] at h2
    exact h2
  by_cases h7 : s = 7
  · rw [decide_eq_true h7, if_pos h7, w1]
    have w2 : IntKind.wrap .i64 (((((d.size + 7) / 8 + p.length : Nat) : Int)) + 1) = (((d.size + 7) / 8 + p.length + 1 : Nat) : Int) := by rw [wrap_id (by omega) (by omega)]; omega
    rw [w2]
    exact fin _ (by omega)
  · rw [decide_eq_false h7, if_neg h7, w1, Nat.add_zero]
    exact fin _ (by omega)
mutual
def okS : Int → Nod → Bool
  | deep, .mk k d p s c i => bif decide (k = 0) then decide (d.size = 0) && (decide (p.length = 0) && (decide (i.length = 0) && (decide (s = 0) && decide (c = 0))))
    else decide (1 ≤ deep) && ((strB (.mk k d p s c i) || lstB (.mk k d p s c i)) && (okSs (deep - 1) p && okSi (deep - 1) i))
def okSs : Int → List Nod → Bool
  | _, [] => true
  | deep, n :: l => okS deep n && okSs deep l
def okSi : Int → List Nod → Bool
  | _, [] => true
  | deep, .mk _ _ p _ _ _ :: l => okSs deep p && okSi deep l
end
theorem okSs_drop {a : Int} {l : List Nod} {i : Nat} (h : i < l.length) : okSs a (l.drop i) = (okS a l[i] && okSs a (l.drop (i + 1))) := by rw [List.drop_eq_getElem_cons h, okSs]
def prs : Nod → List Nod
  | .mk _ _ p _ _ _ => p
theorem Nod.ind2 {P : Nod → Prop} (h : ∀ k d p s c i, (∀ n ∈ p, P n) → (∀ x ∈ i, P x ∧ ∀ n ∈ prs x, P n) → P (.mk k d p s c i)) : ∀ n, P n := fun n =>
  (Nod.ind (Q := fun n => P n ∧ ∀ m ∈ prs n, P m) (fun k d p s c i hp hi => ⟨h k d p s c i (fun n hn => (hp n hn).1) hi, fun m hm => (hp m hm).1⟩) n).1
theorem okSi_drop {a : Int} {l : List Nod} {i : Nat} (h : i < l.length) : okSi a (l.drop i) = (okSs a (prs l[i]) && okSi a (l.drop (i + 1))) := by
  rw [List.drop_eq_getElem_cons h]
  cases l[i]
  rw [okSi]; rfl
theorem ce2_prs (x : Nod) : ce (encN x) 2 = .sl 6 (encNs (prs x)) := by cases x; exact ce2_encN ..
theorem okN_prs {x : Nod} (h : okN x) : okNs (prs x) ∧ (prs x).length * 88 ≤ reachBytes := by
  cases x
  unfold okN at h
  exact ⟨h.2.2.2.1, h.2.1⟩
theorem l4Ok_is : ∀ n, okN n → ∀ deep : Int, 0 ≤ deep → deep ≤ 1000 → (D T).call F_spec_l4Ok [encN n, .sc (.int .i64 deep)] = bo (okS deep n) := by
  refine Nod.ind2 fun k d p s c i hp hi => ?_
  intro h deep hd0 hd1
  have hok := h
  unfold okN at hok
  have hst := strB_is (.mk k d p s c i)
  have hls := l4List_is _ h
  rw [encN_mk] at hst hls ⊢
  rw [c_spec_l4Ok, t_spec_l4Ok, hst, hls]
  simp only [Option.bind_some, unB_mk, sEq_emp, encNs_length, len0]
  rw [okS]
  cases hk : decide (k = 0) with
  | true =>
    simp only [bif_true]
    cases decide (d.size = 0) <;> cases decide (p.length = 0) <;> cases decide (i.length = 0) <;> cases decide (s = 0) <;> rfl
  | false =>
  simp only [bif_false]
  by_cases hdp : deep < 1
  · rw [decide_eq_true hdp, decide_eq_false (show ¬ 1 ≤ deep by omega)]; rfl
  rw [decide_eq_false hdp, decide_eq_true (show 1 ≤ deep by omega), bif_false, Bool.true_and]
  have w1 : IntKind.wrap .i64 (deep - 1) = deep - 1 := wrap_id (by omega) (by omega)
  -- the pointers of the items
  have hI : ∀ j, j ≤ i.length → L_spec_l4Ok_1 (D T) deep (j : Int) k d (encNs p) s c (encNs i) = bo (okSi (deep - 1) (i.drop j)) := by
    have hil := reach_lt (b := 87) hok.2.2.1
    refine down ?_ fun j hj ih => ?_
    · rw [L_spec_l4Ok_1_eq, tL_spec_l4Ok_1, encNs_length, nlt_ofNat, List.drop_length]; rfl
    · have hg := encNs_get i j hj
      have hm := List.getElem_mem hj
      have hx := okN_prs (okNs_mem.1 hok.2.2.2.2 _ hm)
      have hpx := (hi _ hm).2
      rw [L_spec_l4Ok_1_eq, tL_spec_l4Ok_1, encNs_length, lt_ofNat hj, bif_true, okSi_drop hj]
      have hQ : ∀ q, q ≤ (prs i[j]).length → L_spec_l4Ok_2 (D T) deep (j : Int) (q : Int) k d (encNs p) s c (encNs i) = bo (okSs (deep - 1) ((prs i[j]).drop q) && okSi (deep - 1) (i.drop (j + 1))) := by
        refine down ?_ fun q hq ihq => ?_
        · rw [L_spec_l4Ok_2_eq, tL_spec_l4Ok_2, ix_at hg, ce2_prs, unL_mk, encNs_length, nlt_ofNat, bif_false, next_i (by omega), ih, List.drop_length, okSs, Bool.true_and]
        · have hql := reach_lt (b := 87) hx.2
          have hm2 := List.getElem_mem hq
          rw [L_spec_l4Ok_2_eq, tL_spec_l4Ok_2, ix_at hg, ce2_prs, unL_mk, encNs_length, lt_ofNat hq, bif_true, ix_at hg, ce2_prs, unL_mk, ix_at (encNs_get (prs i[j]) q hq), unSt_encN, w1, hpx _ hm2 (okNs_mem.1 hx.1 _ hm2) (deep - 1) (by omega) (by omega), Option.bind_some, unB_mk, next_i (by omega), ihq, okSs_drop hq]
          cases okS (deep - 1) (prs i[j])[q] <;> rfl
      exact hQ 0 (Nat.zero_le _)
  have hP : ∀ j, j ≤ p.length → L_spec_l4Ok_0 (D T) deep (j : Int) k d (encNs p) s c (encNs i) = bo (okSs (deep - 1) (p.drop j) && okSi (deep - 1) i) := by
    have hpl := reach_lt (b := 87) hok.2.1
    refine down ?_ fun j hj ih => ?_
    · rw [L_spec_l4Ok_0_eq, tL_spec_l4Ok_0, encNs_length, nlt_ofNat, List.drop_length, bif_false, okSs, Bool.true_and]
      exact hI 0 (Nat.zero_le _)
    · have hm := List.getElem_mem hj
      rw [L_spec_l4Ok_0_eq, tL_spec_l4Ok_0, encNs_length, lt_ofNat hj, bif_true, ix_at (encNs_get p j hj), unSt_encN, w1, hp _ hm (okNs_mem.1 hok.2.2.2.1 _ hm) (deep - 1) (by omega) (by omega), Option.bind_some, unB_mk, next_i (by omega), ih, okSs_drop hj]
      cases okS (deep - 1) p[j] <;> rfl
  have hP0 : L_spec_l4Ok_0 (D T) deep 0 k d (encNs p) s c (encNs i) = bo (okSs (deep - 1) p && okSi (deep - 1) i) := hP 0 (Nat.zero_le _)
  cases strB (.mk k d p s c i) with
  | true => simp only [Bool.not_true, bif_false, Bool.true_or, Bool.true_and]; exact hP0
  | false =>
    simp only [Bool.not_false, bif_true, Bool.false_or]
    cases lstB (.mk k d p s c i) with
    | false => rfl
    | true => exact hP0
def dat : Nod → ByteArray
  | .mk _ d _ _ _ _ => d
theorem ce1_dat (x : Nod) : ce (encN x) 1 = .sc (.string (dat x)) := by cases x; exact ce1_encN ..
/-- the words of items, without what is within -/
def ownIt : List Nod → Nat
  | [] => 0
  | x :: l => (dat x).size / 8 + (prs x).length + ownIt l
theorem ownIt_drop {l : List Nod} {i : Nat} (h : i < l.length) : ownIt (l.drop i) = (dat l[i]).size / 8 + (prs l[i]).length + ownIt (l.drop (i + 1)) := by rw [List.drop_eq_getElem_cons h, ownIt]
theorem sz_dat (x : Nod) : (dat x).size + (prs x).length ≤ szN x := by cases x; simp only [dat, prs, szN]; omega
theorem ownIt_le : ∀ l, ownIt l ≤ szT l
  | [] => Nat.le_refl _
  | x :: l => by
    have := sz_dat x
    have := ownIt_le l
    simp only [ownIt, szT]
    omega
theorem own_items (k : Int) (d : ByteArray) (p : List Nod) (s c : Int) (i : List Nod) (hl : i.length + szT i ≤ 1048576) :
    ∀ j, j ≤ i.length → ∀ a : Nat, a + ownIt (i.drop j) ≤ 4294967296 → L_spec_l4Own_0 (D T) (a : Nat) (j : Int) k d (encNs p) s c (encNs i) = nu ((a + ownIt (i.drop j) : Nat) : Int) := by
  refine down (fun a ha => ?_) fun j hj ih a ha => ?_
  · rw [L_spec_l4Own_0_eq, tL_spec_l4Own_0, encNs_length, nlt_ofNat, List.drop_length]; rfl
  · have hg := encNs_get i j hj
    rw [ownIt_drop hj] at ha ⊢
    have e1 : IntKind.wrap .i64 (Int.tdiv (Int.ofNat (dat i[j]).size) 8) = (((dat i[j]).size / 8 : Nat) : Int) := by
      rw [show Int.ofNat (dat i[j]).size = ((dat i[j]).size : Int) from rfl, show (8 : Int) = ((8 : Nat) : Int) from rfl, ← Int.ofNat_tdiv, wrap_id (by omega) (by omega)]
    have e2 : IntKind.wrap .i64 (IntKind.wrap .i64 (((a : Nat) : Int) + (((dat i[j]).size / 8 : Nat) : Int)) + Int.ofNat (prs i[j]).length) = ((a + ((dat i[j]).size / 8 + (prs i[j]).length) : Nat) : Int) := by
      rw [show Int.ofNat (prs i[j]).length = ((prs i[j]).length : Int) from rfl, wrap_id (n := ((a : Nat) : Int) + (((dat i[j]).size / 8 : Nat) : Int)) (by omega) (by omega), wrap_id (by omega) (by omega)]
      omega
    rw [L_spec_l4Own_0_eq, tL_spec_l4Own_0, encNs_length, lt_ofNat hj, bif_true, ix_at hg, ce1_dat, unS_mk, ix_at hg, ce2_prs, unL_mk, encNs_length, e1, e2, next_i (by omega), ih _ (by omega), Nat.add_assoc]
def ownW : Nod → Nat
  | .mk k d p s c i => if k = 0 then 0 else (d.size + 7) / 8 + p.length + (if s = 7 then 1 else 0) + ownIt i
theorem own_is (n : Nod) (h : okN n) (hsz : szN n ≤ 1048576) (deep : Int) (hS : okS deep n = true) : (D T).call F_spec_l4Own [encN n] = nu (ownW n) := by
  obtain ⟨k, d, p, s, c, i⟩ := n
  simp only [szN] at hsz
  rw [okS] at hS
  rw [encN_mk, c_spec_l4Own, t_spec_l4Own, encNs_length]
  by_cases h0 : k = 0
  · subst h0
    simp only [ownW, if_pos]
    rfl
  rw [decide_eq_false h0, bif_false, Bool.and_eq_true, Bool.and_eq_true, Bool.or_eq_true] at hS
  simp only [ownW, if_neg h0]
  rcases hS.2.1 with h1 | h1
  · simp only [strB, Bool.and_eq_true, decide_eq_true_eq] at h1
    obtain ⟨rfl, h2, rfl, rfl, h5⟩ := h1
    have hi : i = [] := List.eq_nil_of_length_eq_zero h5
    subst hi
    have e1 : IntKind.wrap .i64 (IntKind.wrap .i64 (Int.tdiv (Int.ofNat d.size) 8) + Int.ofNat p.length) = ((d.size / 8 + p.length : Nat) : Int) := by
      rw [show Int.ofNat d.size = (d.size : Int) from rfl, show Int.ofNat p.length = (p.length : Int) from rfl, show (8 : Int) = ((8 : Nat) : Int) from rfl, ← Int.ofNat_tdiv, wrap_id (n := ((d.size / 8 : Nat) : Int)) (by omega) (by omega), wrap_id (by omega) (by omega)]
      omega
    rw [e1]
    simp only [ownIt]
    show nu _ = nu _
    refine congrArg nu ?_
    rw [if_neg (by decide)]
    omega
  · simp only [lstB, Bool.and_eq_true] at h1
    obtain ⟨h2, h3, h4, h5⟩ := h1
    have hk : k = 2 := of_decide_eq_true h2
    subst hk
    have e7 : IntKind.wrap .i64 (Int.tdiv (IntKind.wrap .i64 ((Int.ofNat d.size) + 7)) 8) = (((d.size + 7) / 8 : Nat) : Int) := by
      rw [show Int.ofNat d.size = (d.size : Int) from rfl, wrap_id (n := (d.size : Int) + 7) (by omega) (by omega), show ((d.size : Int) + 7) = ((d.size + 7 : Nat) : Int) by omega, show (8 : Int) = ((8 : Nat) : Int) from rfl, ← Int.ofNat_tdiv, wrap_id (by omega) (by omega)]
    by_cases h7 : s = 7
    · subst h7
      have h5 : (allStr i && (decide (d.size = 0) && (decide (p.length = 0) && decide ((i.length : Int) = c)))) = true := h5
      simp only [Bool.and_eq_true, decide_eq_true_eq] at h5
      obtain ⟨_, g1, g2, _⟩ := h5
      have hl := own_items 2 d p 7 c i (by omega) 0 (Nat.zero_le _) 1 (by rw [List.drop_zero]; have := ownIt_le i; omega)
      rw [List.drop_zero] at hl
      show L_spec_l4Own_0 (D T) ((1 : Nat) : Int) ((0 : Nat) : Int) 2 d (encNs p) 7 c (encNs i) = _
      rw [hl]
      refine congrArg nu ?_
      rw [if_pos rfl]
      omega
    · by_cases h6 : s = 6
      · subst h6
        have h5 : (decide (d.size = 0) && (decide ((p.length : Int) = c) && decide (i.length = 0))) = true := h5
        simp only [Bool.and_eq_true, decide_eq_true_eq] at h5
        obtain ⟨g1, g2, g3⟩ := h5
        have hi : i = [] := List.eq_nil_of_length_eq_zero g3
        subst hi
        show nu c = _
        refine congrArg nu ?_
        rw [if_neg (by decide), ownIt]
        omega
      · rw [decide_eq_false h6, decide_eq_false h7] at h5
        simp only [bif_false, Bool.and_eq_true, decide_eq_true_eq] at h5
        obtain ⟨g1, g2, _⟩ := h5
        have hi : i = [] := List.eq_nil_of_length_eq_zero g2
        subst hi
        rw [decide_eq_false h7, decide_eq_false h6, e7]
        refine congrArg nu ?_
        rw [if_neg h7, ownIt]
        omega
def prsT : List Nod → Nat
  | [] => 0
  | x :: l => wdT (prs x) + prsT l
theorem prsT_drop {l : List Nod} {i : Nat} (h : i < l.length) : prsT (l.drop i) = wdT (prs l[i]) + prsT (l.drop (i + 1)) := by rw [List.drop_eq_getElem_cons h, prsT]
theorem wd_str {x : Nod} (h : strB x = true) : wdN x = (dat x).size / 8 + (prs x).length + wdT (prs x) := by
  obtain ⟨k, d, p, s, c, i⟩ := x
  simp only [strB, Bool.and_eq_true, decide_eq_true_eq] at h
  obtain ⟨rfl, h2, rfl, rfl, h5⟩ := h
  have hi : i = [] := List.eq_nil_of_length_eq_zero h5
  subst hi
  simp only [wdN, dat, prs, wdT]
  rw [if_neg (by decide), if_neg (by decide)]
  omega
theorem wdT_items : ∀ {l : List Nod}, (∀ x ∈ l, strB x = true) → wdT l = ownIt l + prsT l
  | [], _ => rfl
  | x :: l, h => by
    simp only [wdT, ownIt, prsT]
    rw [wd_str (h x (List.mem_cons_self ..)), wdT_items fun y hy => h y (List.mem_cons_of_mem _ hy)]
    omega
theorem wdT_le (l : List Nod) : wdT l ≤ l.length + 2 * szT l := by
  induction l with
  | nil => simp [wdT, szT]
  | cons n l ih => have := wd_le n; simp only [wdT, szT, List.length_cons]; omega
theorem prsT_le : ∀ l, prsT l ≤ 2 * szT l
  | [] => Nat.le_refl _
  | x :: l => by
    have h1 := wdT_le (prs x)
    have h2 := prsT_le l
    have h3 : (prs x).length + szT (prs x) ≤ szN x := by cases x; simp only [prs, szN]; omega
    simp only [prsT, szT]
    omega
theorem okSs_mem : ∀ {a : Int} {l : List Nod}, okSs a l = true → ∀ n ∈ l, okS a n = true
  | _, [], _, n, h => by cases h
  | a, m :: l, h, n, hn => by
    rw [okSs, Bool.and_eq_true] at h
    rcases List.mem_cons.1 hn with rfl | hn
    · exact h.1
    · exact okSs_mem h.2 n hn
theorem okSi_mem : ∀ {a : Int} {l : List Nod}, okSi a l = true → ∀ x ∈ l, okSs a (prs x) = true
  | _, [], _, n, h => by cases h
  | a, .mk k d p s c i :: l, h, n, hn => by
    rw [okSi, Bool.and_eq_true] at h
    rcases List.mem_cons.1 hn with rfl | hn
    · exact h.1
    · exact okSi_mem h.2 n hn
theorem allStr_mem {l : List Nod} (h : allStr l = true) : ∀ x ∈ l, strB x = true := by
  cases l with
  | nil => exact fun x hx => by cases hx
  | cons y l =>
    intro x hx
    have := List.all_eq_true.1 h x hx
    rw [Bool.and_eq_true] at this
    exact this.1
/-- the words of a node that is ok, by its parts -/
theorem wd_ok {k : Int} {d : ByteArray} {p : List Nod} {s c : Int} {i : List Nod} {deep : Int} (hS : okS deep (.mk k d p s c i) = true) : wdN (.mk k d p s c i) = ownW (.mk k d p s c i) + wdT p + prsT i := by
  rw [okS] at hS
  by_cases h0 : k = 0
  · subst h0
    have hS : (decide (d.size = 0) && (decide (p.length = 0) && (decide (i.length = 0) && (decide (s = 0) && decide (c = 0))))) = true := hS
    simp only [Bool.and_eq_true, decide_eq_true_eq] at hS
    have hp : p = [] := List.eq_nil_of_length_eq_zero hS.2.1
    have hi : i = [] := List.eq_nil_of_length_eq_zero hS.2.2.1
    subst hp; subst hi
    simp [wdN, ownW, wdT, prsT]
  rw [decide_eq_false h0, bif_false, Bool.and_eq_true, Bool.and_eq_true, Bool.or_eq_true] at hS
  have hst : ∀ x ∈ i, strB x = true := by
    rcases hS.2.1 with h1 | h1
    · simp only [strB, Bool.and_eq_true, decide_eq_true_eq] at h1
      have hi : i = [] := List.eq_nil_of_length_eq_zero h1.2.2.2.2
      subst hi
      exact fun x hx => by cases hx
    · simp only [lstB, Bool.and_eq_true] at h1
      obtain ⟨_, _, _, h5⟩ := h1
      by_cases h6 : s = 6
      · subst h6
        have h5 : (decide (d.size = 0) && (decide ((p.length : Int) = c) && decide (i.length = 0))) = true := h5
        simp only [Bool.and_eq_true, decide_eq_true_eq] at h5
        have hi : i = [] := List.eq_nil_of_length_eq_zero h5.2.2
        subst hi
        exact fun x hx => by cases hx
      · rw [decide_eq_false h6, bif_false] at h5
        by_cases h7 : s = 7
        · subst h7
          have h5 : (allStr i && (decide (d.size = 0) && (decide (p.length = 0) && decide ((i.length : Int) = c)))) = true := h5
          rw [Bool.and_eq_true] at h5
          exact allStr_mem h5.1
        · rw [decide_eq_false h7, bif_false, Bool.and_eq_true, Bool.and_eq_true, decide_eq_true_eq, decide_eq_true_eq] at h5
          have hi : i = [] := List.eq_nil_of_length_eq_zero h5.2.1
          subst hi
          exact fun x hx => by cases hx
  have e := wdT_items hst
  simp only [wdN, ownW, if_neg h0]
  rw [e]
  omega
theorem okS_parts {k : Int} {d : ByteArray} {p : List Nod} {s c : Int} {i : List Nod} {deep : Int} (hS : okS deep (.mk k d p s c i) = true) : okSs (deep - 1) p = true ∧ okSi (deep - 1) i = true := by
  rw [okS] at hS
  by_cases h0 : k = 0
  · subst h0
    have hS : (decide (d.size = 0) && (decide (p.length = 0) && (decide (i.length = 0) && (decide (s = 0) && decide (c = 0))))) = true := hS
    simp only [Bool.and_eq_true, decide_eq_true_eq] at hS
    have hp : p = [] := List.eq_nil_of_length_eq_zero hS.2.1
    have hi : i = [] := List.eq_nil_of_length_eq_zero hS.2.2.1
    subst hp; subst hi
    exact ⟨rfl, rfl⟩
  rw [decide_eq_false h0, bif_false, Bool.and_eq_true, Bool.and_eq_true, Bool.and_eq_true] at hS
  exact hS.2.2
theorem l4Words_is : ∀ n, okN n → szN n ≤ 1048576 → ∀ deep : Int, okS deep n = true → (D T).call F_spec_l4Words [encN n] = nu (wdN n) := by
  refine Nod.ind2 fun k d p s c i hp hi => ?_
  intro h hsz deep hS
  have hok := h
  unfold okN at hok
  have hown := own_is _ h hsz deep hS
  have hwd := wd_ok hS
  have hle := wd_le (.mk k d p s c i)
  obtain ⟨hSp, hSi⟩ := okS_parts hS
  have hsz' := hsz
  simp only [szN] at hsz'
  have hpi := prsT_le i
  rw [encN_mk] at hown ⊢
  rw [c_spec_l4Words, t_spec_l4Words, hown, Option.bind_some, unI_mk, hwd]
  have hI : ∀ j, j ≤ i.length → ∀ a : Nat, a + prsT (i.drop j) ≤ 4294967296 → L_spec_l4Words_1 (D T) (a : Nat) (j : Int) k d (encNs p) s c (encNs i) = nu ((a + prsT (i.drop j) : Nat) : Int) := by
    have hil := reach_lt (b := 87) hok.2.2.1
    refine down (fun a ha => ?_) fun j hj ih a ha => ?_
    · rw [L_spec_l4Words_1_eq, tL_spec_l4Words_1, encNs_length, nlt_ofNat, List.drop_length]; rfl
    · have hg := encNs_get i j hj
      have hm := List.getElem_mem hj
      have hx := okN_prs (okNs_mem.1 hok.2.2.2.2 _ hm)
      have hpx := (hi _ hm).2
      have hsx := okSi_mem hSi _ hm
      have hsm := szT_mem hm
      have hz : szT (prs i[j]) ≤ szN i[j] := by cases i[j]; simp only [prs, szN]; omega
      rw [prsT_drop hj] at ha ⊢
      rw [L_spec_l4Words_1_eq, tL_spec_l4Words_1, encNs_length, lt_ofNat hj, bif_true]
      have hQ : ∀ q, q ≤ (prs i[j]).length → ∀ a : Nat, a + (wdT ((prs i[j]).drop q) + prsT (i.drop (j + 1))) ≤ 4294967296 → L_spec_l4Words_2 (D T) (a : Nat) (j : Int) (q : Int) k d (encNs p) s c (encNs i) = nu ((a + (wdT ((prs i[j]).drop q) + prsT (i.drop (j + 1))) : Nat) : Int) := by
        refine down (fun a ha => ?_) fun q hq ihq a ha => ?_
        · rw [List.drop_length, wdT, Nat.zero_add] at ha ⊢
          rw [L_spec_l4Words_2_eq, tL_spec_l4Words_2, ix_at hg, ce2_prs, unL_mk, encNs_length, nlt_ofNat, bif_false, next_i (by omega), ih _ ha]
        · have hql := reach_lt (b := 87) hx.2
          have hm2 := List.getElem_mem hq
          have hz2 := szT_mem hm2
          rw [wdT_drop hq] at ha ⊢
          have e2 : IntKind.wrap .i64 (((a : Nat) : Int) + ((wdN (prs i[j])[q] : Nat) : Int)) = ((a + wdN (prs i[j])[q] : Nat) : Int) := by rw [wrap_id (by omega) (by omega)]; omega
          rw [L_spec_l4Words_2_eq, tL_spec_l4Words_2, ix_at hg, ce2_prs, unL_mk, encNs_length, lt_ofNat hq, bif_true, ix_at hg, ce2_prs, unL_mk, ix_at (encNs_get (prs i[j]) q hq), unSt_encN, hpx _ hm2 (okNs_mem.1 hx.1 _ hm2) (by omega) _ (okSs_mem hsx _ hm2), Option.bind_some, unI_mk, next_i (by omega), e2, ihq _ (by omega)]
          refine congrArg nu ?_
          omega
      have := hQ 0 (Nat.zero_le _) a (by rw [List.drop_zero]; omega)
      rw [List.drop_zero] at this
      exact this
  have hP : ∀ j, j ≤ p.length → ∀ a : Nat, a + (wdT (p.drop j) + prsT i) ≤ 4294967296 → L_spec_l4Words_0 (D T) (a : Nat) (j : Int) k d (encNs p) s c (encNs i) = nu ((a + (wdT (p.drop j) + prsT i) : Nat) : Int) := by
    have hpl := reach_lt (b := 87) hok.2.1
    refine down (fun a ha => ?_) fun j hj ih a ha => ?_
    · rw [List.drop_length, wdT, Nat.zero_add] at ha ⊢
      rw [L_spec_l4Words_0_eq, tL_spec_l4Words_0, encNs_length, nlt_ofNat, bif_false]
      exact hI 0 (Nat.zero_le _) a (by rw [List.drop_zero]; exact ha)
    · have hm := List.getElem_mem hj
      have hz := szT_mem hm
      rw [wdT_drop hj] at ha ⊢
      have e2 : IntKind.wrap .i64 (((a : Nat) : Int) + ((wdN p[j] : Nat) : Int)) = ((a + wdN p[j] : Nat) : Int) := by rw [wrap_id (by omega) (by omega)]; omega
      rw [L_spec_l4Words_0_eq, tL_spec_l4Words_0, encNs_length, lt_ofNat hj, bif_true, ix_at (encNs_get p j hj), unSt_encN, hp _ hm (okNs_mem.1 hok.2.2.2.1 _ hm) (by omega) _ (okSs_mem hSp _ hm), Option.bind_some, unI_mk, next_i (by omega), e2, ih _ (by omega)]
      refine congrArg nu ?_
      omega
  have := hP 0 (Nat.zero_le _) (ownW (.mk k d p s c i)) (by rw [List.drop_zero]; omega)
  rw [List.drop_zero, ← Nat.add_assoc] at this
  exact this
mutual
def wf : Nod → Bool
  | .mk k d p s c i => shpB (.mk k d p s c i) && (decide (k = 0) || (wfs p && wfs i))
def wfs : List Nod → Bool
  | [] => true
  | n :: l => wf n && wfs l
end
theorem wfs_iff : ∀ {l : List Nod}, wfs l = true ↔ ∀ n ∈ l, wf n = true
  | [] => ⟨fun _ n h => (by cases h), fun _ => rfl⟩
  | n :: l => by rw [wfs, Bool.and_eq_true, List.forall_mem_cons, wfs_iff]
theorem moks_iff {a : Int} : ∀ {l : List Nod}, moks a l = true ↔ ∀ n ∈ l, mok a n = true
  | [] => ⟨fun _ n h => (by cases h), fun _ => rfl⟩
  | n :: l => by rw [moks, Bool.and_eq_true, List.forall_mem_cons, moks_iff]
theorem okSs_iff {a : Int} : ∀ {l : List Nod}, okSs a l = true ↔ ∀ n ∈ l, okS a n = true
  | [] => ⟨fun _ n h => (by cases h), fun _ => rfl⟩
  | n :: l => by rw [okSs, Bool.and_eq_true, List.forall_mem_cons, okSs_iff]
theorem okSi_iff {a : Int} : ∀ {l : List Nod}, okSi a l = true ↔ ∀ x ∈ l, ∀ n ∈ prs x, okS a n = true
  | [] => ⟨fun _ n h => (by cases h), fun _ => rfl⟩
  | .mk _ _ p _ _ _ :: l => by rw [okSi, Bool.and_eq_true, List.forall_mem_cons, okSi_iff, okSs_iff]; rfl
theorem dpP_le {B : Int} : ∀ {l : List Nod} {a : Int}, dpP a l ≤ B ↔ a ≤ B ∧ ∀ n ∈ l, dpN n ≤ B
  | [], a => by simp [dpP]
  | n :: l, a => by
    rw [dpP, dpP_le, List.forall_mem_cons, ← and_assoc]
    refine and_congr_left fun _ => ?_
    split <;> omega
theorem dpI_le {B : Int} : ∀ {l : List Nod} {a : Int}, dpI a l ≤ B ↔ a ≤ B ∧ ∀ n ∈ l, dpN n - 1 ≤ B
  | [], a => by simp [dpI]
  | n :: l, a => by
    rw [dpI, dpI_le, List.forall_mem_cons, ← and_assoc]
    refine and_congr_left fun _ => ?_
    split <;> omega
theorem dp_iff {k : Int} {d : ByteArray} {p : List Nod} {s c : Int} {i : List Nod} {B : Int} (hk : k ≠ 0) : dpN (.mk k d p s c i) ≤ B ↔ 1 ≤ B ∧ (∀ n ∈ p, dpN n ≤ B - 1) ∧ ∀ n ∈ i, dpN n ≤ B := by
  rw [dpN, if_neg hk]
  have h1 : dpI (dpP 0 p) i + 1 ≤ B ↔ dpI (dpP 0 p) i ≤ B - 1 := by omega
  rw [h1, dpI_le, dpP_le]
  constructor
  · rintro ⟨⟨h1, h2⟩, h3⟩; exact ⟨by omega, h2, fun n hn => by have := h3 n hn; omega⟩
  · rintro ⟨h1, h2, h3⟩; exact ⟨⟨by omega, h2⟩, fun n hn => by have := h3 n hn; omega⟩
theorem wf_of_mok : ∀ n left, mok left n = true → wf n = true := by
  refine Nod.ind fun k d p s c i hp hi => ?_
  intro left h
  rw [mok, Bool.and_eq_true, Bool.and_eq_true, Bool.or_eq_true] at h
  rw [wf, Bool.and_eq_true, Bool.or_eq_true]
  refine ⟨h.1, h.2.2.imp id fun h => ?_⟩
  rw [Bool.and_eq_true, moks_iff, moks_iff] at h
  rw [Bool.and_eq_true, wfs_iff, wfs_iff]
  exact ⟨fun n hn => hp n hn _ (h.1 n hn), fun n hn => hi n hn _ (h.2 n hn)⟩
theorem mok_of_wf : ∀ n left, wf n = true → 0 ≤ left → dpN n ≤ left → mok left n = true := by
  refine Nod.ind fun k d p s c i hp hi => ?_
  intro left h h0 hd
  rw [wf, Bool.and_eq_true, Bool.or_eq_true] at h
  rw [mok, Bool.and_eq_true, Bool.and_eq_true, Bool.or_eq_true]
  refine ⟨h.1, decide_eq_true h0, ?_⟩
  by_cases hk : k = 0
  · exact .inl (decide_eq_true hk)
  have h2 := h.2.resolve_left (by simpa using hk)
  rw [Bool.and_eq_true, wfs_iff, wfs_iff] at h2
  obtain ⟨d1, d2, d3⟩ := (dp_iff hk).1 hd
  refine .inr ?_
  rw [Bool.and_eq_true, moks_iff, moks_iff]
  exact ⟨fun n hn => hp n hn _ (h2.1 n hn) (by omega) (d2 n hn), fun n hn => hi n hn _ (h2.2 n hn) h0 (d3 n hn)⟩
theorem allStr_iff : ∀ {l : List Nod}, allStr l = true ↔ allLike l = true ∧ ∀ x ∈ l, strB x = true
  | [] => ⟨fun _ => ⟨rfl, fun x h => by cases h⟩, fun _ => rfl⟩
  | y :: l => by
    unfold allStr allLike
    rw [List.all_eq_true, List.all_eq_true]
    constructor
    · intro h
      refine ⟨fun x hx => ?_, fun x hx => ?_⟩
      · have := h x hx; rw [Bool.and_eq_true] at this; exact this.2
      · have := h x hx; rw [Bool.and_eq_true] at this; exact this.1
    · rintro ⟨h1, h2⟩ x hx
      rw [Bool.and_eq_true]; exact ⟨h2 x hx, h1 x hx⟩
theorem allLike_k {l : List Nod} (h : allLike l = true) : ∀ x ∈ l, ∃ d p s c i, x = .mk 1 d p s c i := by
  cases l with
  | nil => exact fun x h => by cases h
  | cons y l =>
    intro x hx
    have := List.all_eq_true.1 h x hx
    obtain ⟨k, d, p, s, c, i⟩ := x
    obtain ⟨k', d', p', s', c', i'⟩ := y
    simp only [likeB, Bool.and_eq_true, decide_eq_true_eq] at this
    exact ⟨d, p, s, c, i, by rw [this.1]⟩
theorem shp_str {d : ByteArray} {p : List Nod} {s c : Int} {i : List Nod} : shpB (.mk 1 d p s c i) = strB (.mk 1 d p s c i) := by
  show (decide (d.size % 8 = 0) && (decide (i.length = 0) && (decide (s = 0) && decide (c = 0)))) = (decide (d.size % 8 = 0) && (decide (s = 0) && (decide (c = 0) && decide (i.length = 0))))
  cases decide (d.size % 8 = 0) <;> cases decide (i.length = 0) <;> cases decide (s = 0) <;> cases decide (c = 0) <;> rfl
theorem wf_str {x : Nod} (h : strB x = true) : wf x = true ↔ ∀ n ∈ prs x, wf n = true := by
  obtain ⟨k, d, p, s, c, i⟩ := x
  have h' := h
  simp only [strB, Bool.and_eq_true, decide_eq_true_eq] at h
  obtain ⟨rfl, _, _, _, h5⟩ := h
  obtain rfl : i = [] := List.eq_nil_of_length_eq_zero h5
  have e0 : decide ((1 : Int) = 0) = false := rfl
  rw [wf, shp_str, h', Bool.true_and, e0, Bool.false_or, Bool.and_eq_true, wfs_iff]
  exact ⟨fun h => h.1, fun h => ⟨h, rfl⟩⟩
theorem dp_str {x : Nod} (h : strB x = true) {B : Int} : dpN x ≤ B ↔ 1 ≤ B ∧ ∀ n ∈ prs x, dpN n ≤ B - 1 := by
  obtain ⟨k, d, p, s, c, i⟩ := x
  simp only [strB, Bool.and_eq_true, decide_eq_true_eq] at h
  obtain ⟨rfl, _, _, _, h5⟩ := h
  obtain rfl : i = [] := List.eq_nil_of_length_eq_zero h5
  rw [dp_iff (by decide)]
  exact ⟨fun h => ⟨h.1, h.2.1⟩, fun h => ⟨h.1, h.2, fun n hn => by cases hn⟩⟩
/-- a form that is the reference's: a struct, or a list whose items are structs -/
def frm (n : Nod) : Bool := strB n || lstB n
theorem frm_iff {k : Int} {d : ByteArray} {p : List Nod} {s c : Int} {i : List Nod} (hk : k ≠ 0) : frm (.mk k d p s c i) = true ↔ shpB (.mk k d p s c i) = true ∧ ∀ x ∈ i, strB x = true := by
  unfold frm
  have e0 : decide (k = 0) = false := decide_eq_false hk
  by_cases h1 : k = 1
  · subst h1
    have hl : lstB (.mk 1 d p s c i) = false := rfl
    rw [shp_str, hl, Bool.or_false]
    constructor
    · intro h
      refine ⟨h, ?_⟩
      simp only [strB, Bool.and_eq_true, decide_eq_true_eq] at h
      obtain rfl : i = [] := List.eq_nil_of_length_eq_zero h.2.2.2.2
      exact fun x hx => by cases hx
    · exact fun h => h.1
  have hs : strB (.mk k d p s c i) = false := by simp only [strB, decide_eq_false h1, Bool.false_and]
  rw [hs, Bool.false_or]
  by_cases h2 : k = 2
  case neg =>
    have hl : lstB (.mk k d p s c i) = false := by simp only [lstB, decide_eq_false h2, Bool.false_and]
    have hb : shpB (.mk k d p s c i) = false := by simp only [shpB, e0, decide_eq_false h1, decide_eq_false h2]; rfl
    rw [hl, hb]
    exact ⟨fun h => (by cases h), fun h => (by cases h.1)⟩
  subst h2
  show ((decide (0 ≤ s) && decide (s ≤ 7)) && ((decide (0 ≤ c) && decide (c ≤ 12800)) &&
      (bif decide (s = 6) then decide (d.size = 0) && (decide ((p.length : Int) = c) && decide (i.length = 0))
       else bif decide (s = 7) then allStr i && (decide (d.size = 0) && (decide (p.length = 0) && decide ((i.length : Int) = c)))
       else decide (p.length = 0) && (decide (i.length = 0) && plainP d s.toNat c.toNat)))) = true ↔ ((decide (0 ≤ c) && decide (c ≤ 12800)) &&
      (bif decide (0 ≤ s) && decide (s ≤ 5) then (decide (p.length = 0) && decide (i.length = 0)) && plainP d s.toNat c.toNat
       else bif decide (s = 6) then decide (d.size = 0) && (decide (i.length = 0) && decide ((p.length : Int) = c))
       else bif decide (s = 7) then decide (d.size = 0) && (decide (p.length = 0) && (decide ((i.length : Int) = c) && allLike i))
       else false)) = true ∧ _
  by_cases h7 : s = 7
  · subst h7
    have a1 : (decide ((0 : Int) ≤ 7) && decide ((7 : Int) ≤ 7)) = true := rfl
    have a2 : (decide ((0 : Int) ≤ 7) && decide ((7 : Int) ≤ 5)) = false := rfl
    have a3 : decide ((7 : Int) = 6) = false := rfl
    have a4 : decide ((7 : Int) = 7) = true := rfl
    rw [a1, a2, a3, a4]
    simp only [bif_false, bif_true, Bool.true_and, Bool.and_eq_true, allStr_iff, decide_eq_true_eq]
    constructor
    · rintro ⟨b1, ⟨b2, b3⟩, b4, b5, b6⟩; exact ⟨⟨b1, b4, b5, b6, b2⟩, b3⟩
    · rintro ⟨⟨b1, b4, b5, b6, b2⟩, b3⟩; exact ⟨b1, ⟨b2, b3⟩, b4, b5, b6⟩
  have a7 : decide (s = 7) = false := decide_eq_false h7
  by_cases h6 : s = 6
  · subst h6
    have a1 : (decide ((0 : Int) ≤ 6) && decide ((6 : Int) ≤ 7)) = true := rfl
    have a2 : (decide ((0 : Int) ≤ 6) && decide ((6 : Int) ≤ 5)) = false := rfl
    have a4 : decide ((6 : Int) = 6) = true := rfl
    rw [a1, a2, a4]
    simp only [bif_false, bif_true, Bool.true_and, Bool.and_eq_true, decide_eq_true_eq]
    constructor
    · rintro ⟨b1, b2, b3, b4⟩
      refine ⟨⟨b1, b2, b4, b3⟩, ?_⟩
      obtain rfl : i = [] := List.eq_nil_of_length_eq_zero b4
      exact fun x hx => by cases hx
    · rintro ⟨⟨b1, b2, b4, b3⟩, _⟩; exact ⟨b1, b2, b3, b4⟩
  have a6 : decide (s = 6) = false := decide_eq_false h6
  rw [a6, a7]
  simp only [bif_false]
  by_cases h05 : 0 ≤ s ∧ s ≤ 5
  · have a1 : (decide (0 ≤ s) && decide (s ≤ 7)) = true := by rw [decide_eq_true h05.1, decide_eq_true (show s ≤ 7 by omega)]; rfl
    have a2 : (decide (0 ≤ s) && decide (s ≤ 5)) = true := by rw [decide_eq_true h05.1, decide_eq_true h05.2]; rfl
    rw [a1, a2]
    simp only [bif_true, Bool.true_and, Bool.and_eq_true, decide_eq_true_eq]
    constructor
    · rintro ⟨b1, b2, b3, b4⟩
      refine ⟨⟨b1, ⟨b2, b3⟩, b4⟩, ?_⟩
      obtain rfl : i = [] := List.eq_nil_of_length_eq_zero b3
      exact fun x hx => by cases hx
    · rintro ⟨⟨b1, ⟨b2, b3⟩, b4⟩, _⟩; exact ⟨b1, b2, b3, b4⟩
  · have a1 : (decide (0 ≤ s) && decide (s ≤ 7)) = false := by
      rw [Bool.eq_false_iff]; intro h; rw [Bool.and_eq_true, decide_eq_true_eq, decide_eq_true_eq] at h; omega
    have a2 : (decide (0 ≤ s) && decide (s ≤ 5)) = false := by
      rw [Bool.eq_false_iff]; intro h; rw [Bool.and_eq_true, decide_eq_true_eq, decide_eq_true_eq] at h; omega
    rw [a1, a2]
    simp
theorem shp_items {k : Int} {d : ByteArray} {p : List Nod} {s c : Int} {i : List Nod} (hk : k ≠ 0) (h : shpB (.mk k d p s c i) = true) (hw : ∀ x ∈ i, wf x = true) : ∀ x ∈ i, strB x = true := by
  by_cases hi : i = []
  · subst hi; exact fun x hx => by cases hx
  have hl : ¬ i.length = 0 := fun e => hi (List.eq_nil_of_length_eq_zero e)
  have e0 : decide (k = 0) = false := decide_eq_false hk
  have el : decide (i.length = 0) = false := decide_eq_false hl
  have : allLike i = true := by
    simp only [shpB, e0, el, Bool.false_and, Bool.and_false, bif_false] at h
    cases h1 : decide (k = 1) <;> rw [h1] at h
    case true => exact absurd h (by simp)
    simp only [bif_false] at h
    cases h2 : decide (k = 2) <;> rw [h2] at h
    case false => cases h
    simp only [bif_true, Bool.and_eq_true] at h
    obtain ⟨_, h⟩ := h
    cases h3 : (decide (0 ≤ s) && decide (s ≤ 5)) <;> rw [h3] at h
    case true => cases h
    simp only [bif_false] at h
    cases h4 : decide (s = 6) <;> rw [h4] at h
    case true => simp at h
    simp only [bif_false] at h
    cases h5 : decide (s = 7) <;> rw [h5] at h
    case false => cases h
    simp only [bif_true, Bool.and_eq_true] at h
    exact h.2.2.2
  intro x hx
  obtain ⟨dx, px, sx, cx, ix, rfl⟩ := allLike_k this x hx
  have := hw _ hx
  rw [wf, Bool.and_eq_true, shp_str] at this
  exact this.1
theorem okS_iff : ∀ n, ∀ deep : Int, 0 ≤ deep → (okS deep n = true ↔ wf n = true ∧ dpN n ≤ deep) := by
  refine Nod.ind2 fun k d p s c i hp hi => ?_
  intro deep h0
  rw [okS, wf]
  by_cases hk : k = 0
  · subst hk
    show (decide (d.size = 0) && (decide (p.length = 0) && (decide (i.length = 0) && (decide (s = 0) && decide (c = 0))))) = true ↔ ((decide (p.length = 0) && (decide (i.length = 0) && (decide (d.size = 0) && (decide (s = 0) && decide (c = 0))))) && true) = true ∧ _
    rw [dpN, if_pos rfl]
    simp only [Bool.and_eq_true, decide_eq_true_eq]
    constructor
    · rintro ⟨h1, h2, h3, h4⟩; exact ⟨⟨⟨h2, h3, h1, h4⟩, trivial⟩, h0⟩
    · rintro ⟨⟨⟨h2, h3, h1, h4⟩, _⟩, _⟩; exact ⟨h1, h2, h3, h4⟩
  have e0 : decide (k = 0) = false := decide_eq_false hk
  rw [e0, bif_false, Bool.false_or, Bool.and_eq_true, Bool.and_eq_true, Bool.and_eq_true, Bool.and_eq_true, Bool.and_eq_true, decide_eq_true_eq, okSs_iff, okSi_iff, wfs_iff, wfs_iff, dp_iff hk]
  show 1 ≤ deep ∧ frm (.mk k d p s c i) = true ∧ _ ↔ _
  rw [frm_iff hk]
  constructor
  · rintro ⟨h1, ⟨h2, h3⟩, h4, h5⟩
    have a1 := fun n hn => (hp n hn (deep - 1) (by omega)).1 (h4 n hn)
    have a2 := fun x hx n hn => ((hi x hx).2 n hn (deep - 1) (by omega)).1 (h5 x hx n hn)
    exact ⟨⟨h2, fun n hn => (a1 n hn).1, fun x hx => (wf_str (h3 x hx)).2 fun n hn => (a2 x hx n hn).1⟩, h1, fun n hn => (a1 n hn).2, fun x hx => (dp_str (h3 x hx)).2 ⟨h1, fun n hn => (a2 x hx n hn).2⟩⟩
  · rintro ⟨⟨h2, h4, h5⟩, h1, d1, d2⟩
    have h3 := shp_items hk h2 h5
    exact ⟨h1, ⟨h2, h3⟩, fun n hn => (hp n hn (deep - 1) (by omega)).2 ⟨h4 n hn, d1 n hn⟩, fun x hx n hn => ((hi x hx).2 n hn (deep - 1) (by omega)).2 ⟨(wf_str (h3 x hx)).1 (h5 x hx) n hn, ((dp_str (h3 x hx)).1 (d2 x hx)).2 n hn⟩⟩
def okB (n : Nod) : Bool := okS 8 n && decide (wdN n < 200)
theorem okB_mea (n : Nod) : okB n = (mok 8 n && (decide (dpN n ≤ 8) && decide (wdN n < 200))) := by
  unfold okB
  rw [Bool.eq_iff_iff, Bool.and_eq_true, Bool.and_eq_true, Bool.and_eq_true, okS_iff n 8 (by decide), decide_eq_true_eq, decide_eq_true_eq]
  constructor
  · rintro ⟨⟨h1, h2⟩, h3⟩; exact ⟨mok_of_wf n 8 h1 (by decide) h2, h2, h3⟩
  · rintro ⟨h1, h2, h3⟩; exact ⟨⟨wf_of_mok n 8 h1, h2⟩, h3⟩
theorem dec_nat {a b : Nat} : decide ((a : Int) < (b : Int)) = decide (a < b) := by
  rw [Bool.eq_iff_iff, decide_eq_true_eq, decide_eq_true_eq]; omega
theorem impl_NodeOk_is (n : Nod) (h : okN n) (hsz : szN n ≤ 1048576) : (D T).call F_impl_NodeOk [encN n] = bo (okB n) := by
  have hm := measured_is n h hsz 8 (by decide) (by decide)
  rw [okB_mea]
  obtain ⟨k, d, p, s, c, i⟩ := n
  rw [encN_mk] at hm ⊢
  rw [c_impl_NodeOk, t_impl_NodeOk, hm]
  unfold meaR
  cases mok 8 (.mk k d p s c i) with
  | false => rfl
  | true =>
    rw [bif_true, Option.bind_some, un_tri, bif_true, Bool.true_and]
    have e := dec_nat (a := wdN (.mk k d p s c i)) (b := 200)
    have e : decide ((wdN (.mk k d p s c i) : Int) < 200) = _ := e
    rw [e]
    cases decide (dpN (.mk k d p s c i) ≤ 8) <;> rfl
theorem spec_NodeOk_is (n : Nod) (h : okN n) (hsz : szN n ≤ 1048576) : (D T).call F_spec_NodeOk [encN n] = bo (okB n) := by
  have h1 := l4Ok_is n h 8 (by decide) (by decide)
  have h2 := l4Words_is n h hsz 8
  unfold okB
  obtain ⟨k, d, p, s, c, i⟩ := n
  rw [encN_mk] at h1 h2 ⊢
  rw [c_spec_NodeOk, t_spec_NodeOk, h1, Option.bind_some, unB_mk]
  cases hs : okS 8 (.mk k d p s c i) with
  | false => rfl
  | true =>
    rw [h2 hs, bif_true, Option.bind_some, unI_mk, Bool.true_and]
    have e := dec_nat (a := wdN (.mk k d p s c i)) (b := 200)
    have e : decide ((wdN (.mk k d p s c i) : Int) < 200) = _ := e
    rw [e]
def nwN (n : Nod) : Nat := bif okB n then wdN n else 0
theorem impl_NodeWords_is (n : Nod) (h : okN n) (hsz : szN n ≤ 1048576) : (D T).call F_impl_NodeWords [encN n] = nu (nwN n) := by
  have hm := measured_is n h hsz 8 (by decide) (by decide)
  have ho := impl_NodeOk_is n h hsz
  unfold nwN
  have hb : okB n = true → mok 8 n = true := fun h => by rw [okB_mea, Bool.and_eq_true] at h; exact h.1
  obtain ⟨k, d, p, s, c, i⟩ := n
  rw [encN_mk] at hm ho ⊢
  rw [c_impl_NodeWords, t_impl_NodeWords, ho, Option.bind_some, unB_mk]
  cases hs : okB (.mk k d p s c i) with
  | false => rfl
  | true =>
    rw [hm]
    unfold meaR
    rw [hb hs, bif_true, Bool.not_true, bif_false, Option.bind_some, un_tri, bif_true]
theorem un_N {R : Type} (n : Nod) (K : Int → ByteArray → List V → Int → Int → List V → Option R) : (unSt 6 (encN n) (unI .i64 (ce (encN n) 0) fun a => unS (ce (encN n) 1) fun b => unL 6 (ce (encN n) 2) fun c => unI .i64 (ce (encN n) 3) fun d => unI .i64 (ce (encN n) 4) fun e => unL 6 (ce (encN n) 5) fun f => K a b c d e f)) =
    match n with | .mk k d p s c i => K k d (encNs p) s c (encNs i) := by cases n; rfl
theorem lst_c {k : Int} {d : ByteArray} {p : List Nod} {s c : Int} {i : List Nod} (h : lstB (.mk k d p s c i) = true) : k = 2 ∧ (0 ≤ s ∧ s ≤ 7) ∧ (0 ≤ c ∧ c ≤ 12800) ∧
      ((s = 6 ∧ d.size = 0 ∧ (p.length : Int) = c ∧ i = []) ∨ (s = 7 ∧ allStr i = true ∧ d.size = 0 ∧ p = [] ∧ (i.length : Int) = c) ∨ (s ≤ 5 ∧ p = [] ∧ i = [] ∧ plainP d s.toNat c.toNat = true)) := by
  simp only [lstB, Bool.and_eq_true, decide_eq_true_eq] at h
  obtain ⟨h1, h2, h3, h4⟩ := h
  refine ⟨h1, h2, h3, ?_⟩
  by_cases h6 : s = 6
  · rw [if_pos_b (decide_eq_true h6)] at h4
    simp only [Bool.and_eq_true, decide_eq_true_eq] at h4
    exact .inl ⟨h6, h4.1, h4.2.1, List.eq_nil_of_length_eq_zero h4.2.2⟩
  rw [if_neg_b (decide_eq_false h6)] at h4
  by_cases h7 : s = 7
  · rw [if_pos_b (decide_eq_true h7)] at h4
    simp only [Bool.and_eq_true, decide_eq_true_eq] at h4
    exact .inr (.inl ⟨h7, h4.1, h4.2.1, List.eq_nil_of_length_eq_zero h4.2.2.1, h4.2.2.2⟩)
  rw [if_neg_b (decide_eq_false h7)] at h4
  simp only [Bool.and_eq_true, decide_eq_true_eq] at h4
  exact .inr (.inr ⟨by omega, List.eq_nil_of_length_eq_zero h4.1, List.eq_nil_of_length_eq_zero h4.2.1, h4.2.2⟩)
theorem str_c {k : Int} {d : ByteArray} {p : List Nod} {s c : Int} {i : List Nod} (h : strB (.mk k d p s c i) = true) : k = 1 ∧ d.size % 8 = 0 ∧ s = 0 ∧ c = 0 ∧ i = [] := by
  simp only [strB, Bool.and_eq_true, decide_eq_true_eq] at h
  exact ⟨h.1, h.2.1, h.2.2.1, h.2.2.2.1, List.eq_nil_of_length_eq_zero h.2.2.2.2⟩
theorem okS_form {k : Int} {d : ByteArray} {p : List Nod} {s c : Int} {i : List Nod} {deep : Int} (h : okS deep (.mk k d p s c i) = true) :
    (k = 0 ∧ d.size = 0 ∧ p = [] ∧ i = [] ∧ s = 0 ∧ c = 0) ∨ strB (.mk k d p s c i) = true ∨ lstB (.mk k d p s c i) = true := by
  rw [okS] at h
  by_cases h0 : k = 0
  · rw [if_pos_b (decide_eq_true h0)] at h
    simp only [Bool.and_eq_true, decide_eq_true_eq] at h
    exact .inl ⟨h0, h.1, List.eq_nil_of_length_eq_zero h.2.1, List.eq_nil_of_length_eq_zero h.2.2.1, h.2.2.2.1, h.2.2.2.2⟩
  · rw [if_neg_b (decide_eq_false h0)] at h
    simp only [Bool.and_eq_true, Bool.or_eq_true] at h
    exact .inr h.2.1
theorem okB_okS {n : Nod} (h : okB n = true) : okS 8 n = true := by unfold okB at h; rw [Bool.and_eq_true] at h; exact h.1
theorem eqFn_of (xs ys : List Nod) (hx : xs.length ≤ 140737488351232) (he : ∀ n ∈ xs, ∀ m ∈ ys, (D T).call F_impl_NodeSame [encN n, encN m] = bo (eqN n m)) :
    (D T).call F_slices_EqualFunc_impl_Node_impl_Node_impl_Node_impl_Node [.sl 6 (encNs xs), .sl 6 (encNs ys), .sc (.func (.func F_impl_NodeSame) (.mk []) (.mk []))] = bo (eqNs xs ys) := by
  rw [c_slices_EqualFunc_impl_Node_impl_Node_impl_Node_impl_Node, t_slices_EqualFunc_impl_Node_impl_Node_impl_Node_impl_Node]
  simp only [encNs_length]
  by_cases h : ys.length = xs.length
  case neg => rw [dec_len h, eqNs_ne h]; rfl
  have hL : ∀ i, i ≤ xs.length → L_slices_EqualFunc_impl_Node_impl_Node_impl_Node_impl_Node_0 (D T) (encNs ys) (encNs xs) (Int.ofNat xs.length) (i : Int) = bo (eqNs (xs.drop i) (ys.drop i)) := by
    refine down ?_ fun i hi ih => ?_
    · rw [L_slices_EqualFunc_impl_Node_impl_Node_impl_Node_impl_Node_0_eq, tL_slices_EqualFunc_impl_Node_impl_Node_impl_Node_impl_Node_0, nlt_ofNat, eqNs_drop_end h]; rfl
    · have hc := he _ (List.getElem_mem hi) _ (List.getElem_mem (l := ys) (n := i) (by omega))
      rw [eqNs_drop hi (by omega)]
      rw [L_slices_EqualFunc_impl_Node_impl_Node_impl_Node_impl_Node_0_eq, tL_slices_EqualFunc_impl_Node_impl_Node_impl_Node_impl_Node_0, lt_ofNat hi, bif_true, ix_at (encNs_get xs i hi), next_i (by omega), ih]
      generalize xs[i] = x at hc ⊢
      obtain ⟨k, d, p, s, c, i'⟩ := x
      rw [un_encN]
      dsimp only
      rw [ix_at (encNs_get ys i (by omega))]
      generalize ys[i] = y at hc ⊢
      obtain ⟨k', d', p', s', c', i''⟩ := y
      rw [encN_mk] at hc
      rw [encN_mk] at hc
      rw [un_encN]
      dsimp only
      simp only [hc, Option.bind_some, unB_mk]
      cases eqN (.mk k d p s c i') (.mk k' d' p' s' c' i'') <;> rfl
  rw [dec_len_eq h, Bool.not_true, bif_false]
  exact hL 0 (Nat.zero_le _)
theorem impl_NodeSame_is : ∀ n, okN n → ∀ m, okN m → (D T).call F_impl_NodeSame [encN n, encN m] = bo (eqN n m) := by
  refine Nod.ind fun k d p s c i hp hi => ?_
  intro h m h'
  obtain ⟨k', d', p', s', c', i'⟩ := m
  unfold okN at h h'
  have h1 := eqFn_of p p' (reach_lt (b := 87) h.2.1) fun n hn m hm => hp n hn (okNs_mem.1 h.2.2.2.1 n hn) m (okNs_mem.1 h'.2.2.2.1 m hm)
  have h2 := eqFn_of i i' (reach_lt (b := 87) h.2.2.1) fun n hn m hm => hi n hn (okNs_mem.1 h.2.2.2.2 n hn) m (okNs_mem.1 h'.2.2.2.2 m hm)
  unfold encN
  rw [c_impl_NodeSame, t_impl_NodeSame, h1, h2]
  simp only [Option.bind_some, unB_mk, eqN]
  cases decide (k = k') <;> cases sEq d d' <;> cases eqNs p p' <;> cases decide (s = s') <;> cases decide (c = c') <;> cases eqNs i i' <;> rfl
theorem bsize (d : ByteArray) : d.data.toList.length = d.size := rfl
theorem ixS_at {R : Type} {d : ByteArray} {n : Nat} {b : UInt8} (h : d.data.toList[n]? = some b) {K : Int → Option R} : ixS d (n : Int) K = K b.toNat := by
  have hn : n < d.size := by rw [← bsize]; exact (List.getElem?_eq_some_iff.1 h).1
  have e : d[n]? = some b := by
    rw [getElem?_pos d n hn]
    have := (List.getElem?_eq_some_iff.1 h).2
    rw [← this]
    simp [ByteArray.getElem_eq_getElem_data]
  show (match d[n]? with | some b => K b.toNat | none => none) = _
  rw [e]
theorem nat0 (b : UInt8) : decide (((b.toNat : Nat) : Int) = 0) = (b == 0) := by
  rw [Bool.eq_iff_iff, decide_eq_true_eq, beq_iff_eq]
  constructor
  · intro h; exact UInt8.toNat_inj.1 (show b.toNat = 0 by omega)
  · rintro rfl; rfl
def noN : Nod := .mk 0 (.mk (.mk [])) [] 0 0 []
theorem emp_of {d : ByteArray} (h : d.size = 0) : d = .mk (.mk []) := by
  have := sEq_emp d
  rw [decide_eq_true h] at this
  exact sEq_iff.1 this
theorem un_f {R : Type} (n : Nod) (K : Int → ByteArray → List V → Int → Int → List V → Option R) : (unI .i64 (ce (encN n) 0) fun a => unS (ce (encN n) 1) fun b => unL 6 (ce (encN n) 2) fun c => unI .i64 (ce (encN n) 3) fun d => unI .i64 (ce (encN n) 4) fun e => unL 6 (ce (encN n) 5) fun f => K a b c d e f) =
    match n with | .mk k d p s c i => K k d (encNs p) s c (encNs i) := by cases n; rfl
abbrev bl (d : ByteArray) : List UInt8 := d.data.toList
theorem bl_ext {a b : ByteArray} (h : bl a = bl b) : a = b := by
  cases a; cases b
  congr
  exact Array.toList_inj.1 h
theorem bl_extract (d : ByteArray) (a b : Nat) : bl (d.extract a b) = ((bl d).take b).drop a := by
  show (d.extract a b).data.toList = _
  rw [ByteArray.data_extract, Array.toList_extract, List.extract_eq_take_drop, List.drop_take]
theorem bl_append (a b : ByteArray) : bl (a ++ b) = bl a ++ bl b := by
  show (a ++ b).data.toList = _
  rw [ByteArray.data_append, Array.toList_append]
theorem bl_length (d : ByteArray) : (bl d).length = d.size := rfl
theorem ex_ex (d : ByteArray) {a b m : Nat} (h : b ≤ m) : (d.extract 0 m).extract a b = d.extract a b := bl_ext (by
  rw [bl_extract, bl_extract, bl_extract, List.drop_zero, List.take_take, Nat.min_eq_left h])
theorem ex_size (d : ByteArray) {m : Nat} (h : m ≤ d.size) : (d.extract 0 m).size = m := by rw [ByteArray.size_extract]; omega
theorem ex_all (d : ByteArray) : d.extract 0 d.size = d := bl_ext (by rw [bl_extract, List.drop_zero]; exact List.take_length)
def zr (l : List UInt8) : Bool := l.all (· == 0)
/-- how long bytes are without words of noughts at the end -/
def tlen (l : List UInt8) (n : Nat) : Nat := if h : 8 ≤ n ∧ zr ((l.take n).drop (n - 8)) = true then tlen l (n - 8) else n
termination_by n
decreasing_by omega
def trimD (d : ByteArray) : ByteArray := d.extract 0 (tlen (bl d) d.size)
theorem tlen_le (l : List UInt8) : ∀ n, tlen l n ≤ n := by
  intro n
  induction n using Nat.strongRecOn with
  | ind n ih =>
    rw [tlen]
    split
    · rename_i h
      have := ih (n - 8) (by omega)
      omega
    · exact Nat.le_refl _
theorem tlen_mod (l : List UInt8) : ∀ n, tlen l n % 8 = n % 8 := by
  intro n
  induction n using Nat.strongRecOn with
  | ind n ih =>
    rw [tlen]
    split
    · rename_i h
      have := ih (n - 8) (by omega)
      omega
    · rfl
theorem trim_size (d : ByteArray) : (trimD d).size = tlen (bl d) d.size := ex_size d (tlen_le _ _)
theorem zr_append (a b : List UInt8) : zr (a ++ b) = (zr a && zr b) := by unfold zr; rw [List.all_append]
theorem zr_mem {l : List UInt8} : zr l = true ↔ ∀ x ∈ l, x = 0 := by unfold zr; simp
/-- what is taken away is noughts -/
theorem tlen_zero (l : List UInt8) : ∀ n, n ≤ l.length → zr ((l.take n).drop (tlen l n)) = true := by
  intro n
  induction n using Nat.strongRecOn with
  | ind n ih =>
    intro hn
    rw [tlen]
    split
    · rename_i h
      have h1 := ih (n - 8) (by omega) (by omega)
      have h2 := tlen_le l (n - 8)
      have e : (l.take n).drop (tlen l (n - 8)) = ((l.take (n - 8)).drop (tlen l (n - 8))) ++ ((l.take n).drop (n - 8)) := by
        have e1 : l.take n = l.take (n - 8) ++ (l.take n).drop (n - 8) := by
          conv => lhs; rw [← List.take_append_drop (n - 8) (l.take n)]
          rw [List.take_take, Nat.min_eq_left (by omega)]
        conv => lhs; rw [e1]
        rw [List.drop_append_of_le_length (by rw [List.length_take]; omega)]
      rw [e, zr_append, h1, h.2]; rfl
    · rw [List.drop_eq_nil_of_le (by rw [List.length_take]; omega)]; rfl
/-- up to m nothing but noughts stands behind -/
theorem pad_eq {l : List UInt8} {n m : Nat} (hn : n ≤ l.length) (hm : m ≤ n) (h : tlen l n ≤ m) : (l.take m) = l.take (tlen l n) ++ List.replicate (m - tlen l n) 0 := by
  have h1 := tlen_zero l n hn
  have e1 : l.take m = l.take (tlen l n) ++ (l.take m).drop (tlen l n) := by
    conv => lhs; rw [← List.take_append_drop (tlen l n) (l.take m)]
    rw [List.take_take, Nat.min_eq_left h]
  have e2 : (l.take m).drop (tlen l n) = List.replicate (m - tlen l n) 0 := by
    rw [List.eq_replicate_iff]
    refine ⟨by rw [List.length_drop, List.length_take]; omega, fun x hx => ?_⟩
    refine zr_mem.1 h1 x ?_
    have : (l.take m).drop (tlen l n) = ((l.take n).drop (tlen l n)).take (m - tlen l n) := by
      rw [← List.drop_take, List.take_take, Nat.min_eq_left hm]
    rw [this] at hx
    exact List.mem_of_mem_take hx
  rw [e1, e2]
theorem l1Zero_is (d : ByteArray) (hd : d.size ≤ reachBytes) : (D T).call F_spec_l1Zero [.sc (.string d)] = bo (zr (bl d)) := by
  have hr : reachBytes = 140737488351232 := rfl
  have hL : ∀ j, j ≤ d.size → L_spec_l1Zero_0 (D T) d (j : Int) = bo (zr ((bl d).drop j)) := by
    refine down ?_ fun j hj ih => ?_
    · rw [L_spec_l1Zero_0_eq, tL_spec_l1Zero_0, decide_eq_false (show ¬ ((d.size : Int) < Int.ofNat d.size) by show ¬ ((d.size : Int) < (d.size : Int)); omega), ← bl_length, List.drop_length]; rfl
    · have hl : j < (bl d).length := hj
      rw [L_spec_l1Zero_0_eq, tL_spec_l1Zero_0, decide_eq_true (show ((j : Int) < Int.ofNat d.size) by show (j : Int) < (d.size : Int); omega), bif_true, ixS_at (List.getElem?_eq_getElem hl), next_i (by omega), ih, nat0, List.drop_eq_getElem_cons hl]
      unfold zr
      rw [List.all_cons]
      cases (bl d)[j] == 0 <;> rfl
  rw [c_spec_l1Zero, t_spec_l1Zero]
  exact hL 0 (Nat.zero_le _)
theorem w_sub8 {n : Nat} (h : 8 ≤ n) (hn : n ≤ 140737488351232) : IntKind.wrap .i64 ((Int.ofNat n) - 8) = ((n - 8 : Nat) : Int) := by
  show IntKind.wrap .i64 ((n : Int) - 8) = _
  rw [wrap_id (by omega) (by omega)]; omega
theorem l1Trim_is (d : ByteArray) (hd : d.size ≤ reachBytes) : (D T).call F_spec_l1Trim [.sc (.string d)] = some (.sc (.string (trimD d)), []) := by
  have hr : reachBytes = 140737488351232 := rfl
  have hL : ∀ n, n ≤ d.size → L_spec_l1Trim_0 (D T) (d.extract 0 n) = some (.sc (.string (d.extract 0 (tlen (bl d) n))), []) := by
    intro n
    induction n using Nat.strongRecOn with
    | ind n ih =>
      intro hn
      have e0 := ex_size d hn
      rw [L_spec_l1Trim_0_eq, tL_spec_l1Trim_0, tlen]
      simp only [e0]
      by_cases h8 : 8 ≤ n
      case neg =>
        rw [decide_eq_false (show ¬ ((8 : Int) ≤ Int.ofNat n) by show ¬ ((8 : Int) ≤ (n : Int)); omega), dif_neg (fun h => h8 h.1)]; rfl
      rw [decide_eq_true (show ((8 : Int) ≤ Int.ofNat n) by show (8 : Int) ≤ (n : Int); omega), w_sub8 h8 (by omega), decide_eq_true (show (0 : Int) ≤ ((n - 8 : Nat) : Int) by omega), decide_eq_true (show ((n - 8 : Nat) : Int) ≤ Int.ofNat n by show ((n - 8 : Nat) : Int) ≤ (n : Int); omega)]
      simp only [Int.toNat_natCast, bif_true, Bool.and_true]
      rw [ex_ex d (Nat.le_refl n), ex_ex d (show n - 8 ≤ n by omega), l1Zero_is _ (by rw [ByteArray.size_extract]; omega), Option.bind_some, unB_mk, bl_extract]
      cases hz : zr (((bl d).take n).drop (n - 8)) with
      | false => rw [dif_neg (fun h => by cases h.2)]; rfl
      | true =>
        rw [dif_pos ⟨h8, rfl⟩, bif_true]
        exact ih (n - 8) (by omega) (by omega)
  have := hL d.size (Nat.le_refl _)
  rw [ex_all] at this
  rw [c_spec_l1Trim, t_spec_l1Trim, this]
  rfl
theorem rep1 (n : Nat) : Lib.repeatL [0] n = List.replicate n (0 : UInt8) := by
  induction n with
  | zero => rfl
  | succ n ih => rw [Lib.repeatL, ih]; rfl
def zeros (n : Nat) : ByteArray := ⟨(List.replicate n (0 : UInt8)).toArray⟩
theorem zeros_size (n : Nat) : (zeros n).size = n := by show (List.replicate n (0 : UInt8)).toArray.size = n; simp
theorem repeat_is (n : Nat) (hn : n ≤ 140737488351232) : (D T).call F_strings_Repeat [.sc (.string (.mk (.mk [0]))), .sc (.int .i64 (n : Int))] = some (.sc (.string (zeros n)), []) := by
  rw [c_strings_Repeat, t_strings_Repeat]
  show chk (decide (n ≤ 9223372036854775807) && decide ((ByteArray.mk (Array.mk [0])).size * n ≤ 140737488355328)) (some (V.sc (.string ⟨(Lib.repeatL [0] n).toArray⟩), [])) = _
  rw [decide_eq_true (show n ≤ 9223372036854775807 by omega), decide_eq_true (show (ByteArray.mk (Array.mk [0])).size * n ≤ 140737488355328 by show 1 * n ≤ _; omega), rep1]
  rfl
theorem suffix_is (d p : ByteArray) (hd : d.size ≤ reachBytes) : (D T).call F_strings_HasSuffix [.sc (.string d), .sc (.string p)] = bo (Lib.hasSuffix (bl d) (bl p)) := by
  have hr : reachBytes = 140737488351232 := rfl
  rw [c_strings_HasSuffix, t_strings_HasSuffix]
  show chk (decide (d.size ≤ 9223372036854775807)) (some (V.sc (.bool (Lib.hasSuffix d.data.toList p.data.toList)), [])) = _
  rw [decide_eq_true (show d.size ≤ 9223372036854775807 by omega)]
  rfl
theorem suf8 (l : List UInt8) : Lib.hasSuffix l (List.replicate 8 0) = (decide (8 ≤ l.length) && zr (l.drop (l.length - 8))) := by
  unfold Lib.hasSuffix
  rw [Bool.eq_iff_iff, List.isSuffixOf_iff_suffix, Bool.and_eq_true, decide_eq_true_eq]
  constructor
  · rintro ⟨t, rfl⟩
    have e : (t ++ List.replicate 8 (0 : UInt8)).length - 8 = t.length := by simp
    rw [e, List.drop_left]
    exact ⟨by simp, by unfold zr; decide⟩
  · rintro ⟨h1, h2⟩
    have e : l.drop (l.length - 8) = List.replicate 8 0 := List.eq_replicate_iff.2 ⟨by rw [List.length_drop]; omega, zr_mem.1 h2⟩
    exact ⟨l.take (l.length - 8), by rw [← e, List.take_append_drop]⟩
theorem trimmed_is (d : ByteArray) (hd : d.size ≤ reachBytes) : (D T).call F_impl_trimmed [.sc (.string d)] = some (.sc (.string (trimD d)), []) := by
  have hr : reachBytes = 140737488351232 := rfl
  have hL : ∀ n, n ≤ d.size → L_impl_trimmed_0 (D T) (d.extract 0 n) (zeros 8) = some (.sc (.string (d.extract 0 (tlen (bl d) n))), []) := by
    intro n
    induction n using Nat.strongRecOn with
    | ind n ih =>
      intro hn
      have e0 := ex_size d hn
      have e1 : (bl (d.extract 0 n)) = (bl d).take n := by rw [bl_extract, List.drop_zero]
      have e2 : ((bl d).take n).length = n := by rw [← e1]; exact e0
      rw [L_impl_trimmed_0_eq, tL_impl_trimmed_0, suffix_is _ _ (by omega), Option.bind_some, unB_mk, show bl (zeros 8) = List.replicate 8 0 from rfl, suf8, e1, e2, tlen]
      simp only [e0]
      by_cases h8 : 8 ≤ n
      case neg =>
        rw [decide_eq_false h8, dif_neg (fun h => h8 h.1)]; rfl
      rw [decide_eq_true h8, Bool.true_and]
      cases hz : zr (((bl d).take n).drop (n - 8)) with
      | false => rw [dif_neg (fun h => by cases h.2)]; rfl
      | true =>
        rw [dif_pos ⟨h8, rfl⟩, bif_true, w_sub8 h8 (by omega), decide_eq_true (show (0 : Int) ≤ ((n - 8 : Nat) : Int) by omega), decide_eq_true (show ((n - 8 : Nat) : Int) ≤ Int.ofNat n by show ((n - 8 : Nat) : Int) ≤ (n : Int); omega)]
        simp only [Int.toNat_natCast, bif_true, Bool.and_true]
        rw [ex_ex d (show n - 8 ≤ n by omega)]
        exact ih (n - 8) (by omega) (by omega)
  have := hL d.size (Nat.le_refl _)
  rw [ex_all] at this
  have e : (D T).call F_strings_Repeat [.sc (.string (.mk (.mk [0]))), .sc (.int .i64 8)] = _ := repeat_is 8 (by decide)
  rw [c_impl_trimmed, t_impl_trimmed, e, Option.bind_some]
  exact this
def knd : Nod → Int
  | .mk k _ _ _ _ _ => k
/-- how many there are up to the last that is something -/
def lstN (l : List Nod) : Nat → Nat
  | 0 => 0
  | n + 1 => if knd (l.getD n noN) = 0 then lstN l n else n + 1
def strp (l : List Nod) : List Nod := l.take (lstN l l.length)
def dmx : List Nod → Nat
  | [] => 0
  | x :: l => max (trimD (dat x)).size (dmx l)
def pmx : List Nod → Nat
  | [] => 0
  | x :: l => max (lstN (prs x) (prs x).length) (pmx l)
def cutX (a b : Nat) (x : Nod) : Nod := .mk 1 ((dat x).extract 0 a) ((prs x).take b) 0 0 []
def cutI (l : List Nod) : List Nod := l.map (cutX (dmx l) (pmx l))
mutual
def cn : Nod → Nod
  | .mk k d p s c i =>
    bif decide (k = 1) then .mk 1 (trimD d) (strp (cns p)) 0 0 []
    else bif decide (k = 2) && decide (s = 6) then .mk 2 (.mk (.mk [])) (cns p) s c []
    else bif decide (k = 2) && decide (s = 7) then .mk 2 (.mk (.mk [])) [] s c (cutI (cni i))
    else .mk k d [] s c []
def cns : List Nod → List Nod
  | [] => []
  | n :: l => cn n :: cns l
def cni : List Nod → List Nod
  | [] => []
  | .mk _ d p _ _ _ :: l => .mk 1 d (cns p) 0 0 [] :: cni l
end
theorem cns_map (l : List Nod) : cns l = l.map cn := by
  induction l with
  | nil => rfl
  | cons n l ih => rw [cns, ih]; rfl
theorem cns_length (l : List Nod) : (cns l).length = l.length := by rw [cns_map, List.length_map]
def cx (x : Nod) : Nod := .mk 1 (dat x) (cns (prs x)) 0 0 []
theorem cni_map (l : List Nod) : cni l = l.map cx := by
  induction l with
  | nil => rfl
  | cons n l ih => cases n; rw [cni, ih]; rfl
theorem cni_length (l : List Nod) : (cni l).length = l.length := by rw [cni_map, List.length_map]
theorem encNs_app (a b : List Nod) : encNs (a ++ b) = encNs a ++ encNs b := by rw [encNs_map, encNs_map, encNs_map, List.map_append]
theorem encNs_cons (n : Nod) (l : List Nod) : encNs (n :: l) = encN n :: encNs l := by rw [encNs]
theorem encNs_take (l : List Nod) (n : Nat) : encNs (l.take n) = (encNs l).take n := by rw [encNs_map, encNs_map, List.map_take]
theorem lstN_le (l : List Nod) : ∀ n, lstN l n ≤ n
  | 0 => Nat.le_refl _
  | n + 1 => by
    rw [lstN]
    split
    · exact Nat.le_trans (lstN_le l n) (Nat.le_succ n)
    · exact Nat.le_refl _
theorem chk88 {n : Nat} (h : n ≤ 1048576) : decide ((n + 1) * 88 ≤ 140737488355328) = true := decide_eq_true (by omega)
theorem l6Ptrs_of (p : List Nod) (hl : p.length ≤ 1048576) (h : ∀ n ∈ p, (D T).call F_spec_l6Canon [encN n] = some (encN (cn n), [])) :
    (D T).call F_spec_l6Ptrs [.sl 6 (encNs p)] = some (.sl 6 (encNs (cns p)), []) := by
  have hL : ∀ j, j ≤ p.length → ∀ acc : List V, acc.length = j → L_spec_l6Ptrs_1 (D T) (encNs p) (j : Int) acc = some (.sl 6 (acc ++ encNs (cns (p.drop j))), []) := by
    refine down (fun acc ha => ?_) fun j hj ih acc ha => ?_
    · rw [L_spec_l6Ptrs_1_eq, tL_spec_l6Ptrs_1, encNs_length, nlt_ofNat, List.drop_length, cns, encNs, List.append_nil]; rfl
    · rw [L_spec_l6Ptrs_1_eq, tL_spec_l6Ptrs_1, encNs_length, lt_ofNat hj, bif_true, ix_at (encNs_get p j hj), unSt_encN, h _ (List.getElem_mem hj), Option.bind_some]
      dsimp only
      rw [unSt_encN, wd_encN, ha, chk88 (by omega), bif_true, next_i (by omega), ih _ (by simp [ha]), List.drop_eq_getElem_cons hj, cns, encNs, List.append_assoc]
      rfl
  have e : L_spec_l6Ptrs_0 (D T) (encNs p) 0 [] = L_spec_l6Ptrs_1 (D T) (encNs p) 0 [] := by rw [L_spec_l6Ptrs_0_eq, L_spec_l6Ptrs_1_eq]; rfl
  rw [c_spec_l6Ptrs, t_spec_l6Ptrs, e]
  have := hL 0 (Nat.zero_le _) [] rfl
  rw [List.drop_zero, List.nil_append] at this
  exact this
theorem ce0_knd (x : Nod) : ce (encN x) 0 = .sc (.int .i64 (knd x)) := by cases x; rw [encN_mk]; rfl
theorem w_sub1 {n : Nat} (hn : n + 1 ≤ 140737488351232) : IntKind.wrap .i64 (((n + 1 : Nat) : Int) - 1) = (n : Int) := by
  rw [wrap_id (by omega) (by omega)]; omega
theorem l6Last_is (l : List Nod) (hl : l.length ≤ 1048576) : (D T).call F_spec_l6Last [.sl 6 (encNs l)] = nu (lstN l l.length : Nat) := by
  have hL : ∀ n, n ≤ l.length → L_spec_l6Last_0 (D T) (encNs l) (n : Int) = nu (lstN l n : Nat) := by
    intro n
    induction n with
    | zero => intro _; rw [L_spec_l6Last_0_eq, tL_spec_l6Last_0]; rfl
    | succ n ih =>
      intro hn
      have hg := encNs_get l n (by omega)
      rw [L_spec_l6Last_0_eq, tL_spec_l6Last_0, decide_eq_true (show (0 : Int) < ((n + 1 : Nat) : Int) by omega), bif_true, w_sub1 (by omega), ix_at hg, ce0_knd, unI_mk, lstN]
      have e : l.getD n noN = l[n]'(by omega) := by rw [List.getD_eq_getElem?_getD, List.getElem?_eq_getElem (by omega)]; rfl
      rw [e]
      by_cases h : knd (l[n]'(by omega)) = 0
      · rw [decide_eq_true h, bif_true, if_pos h, ih (by omega)]
      · rw [decide_eq_false h, bif_false, if_neg h]
  rw [c_spec_l6Last, t_spec_l6Last, encNs_length]
  exact hL _ (Nat.le_refl _)
theorem pmx_ge {l : List Nod} : ∀ x ∈ l, lstN (prs x) (prs x).length ≤ pmx l := by
  induction l with
  | nil => exact fun x h => by cases h
  | cons y l ih =>
    intro x h
    rw [pmx]
    rcases List.mem_cons.1 h with rfl | h
    · omega
    · have := ih x h; omega
theorem dmx_ge {l : List Nod} : ∀ x ∈ l, (trimD (dat x)).size ≤ dmx l := by
  induction l with
  | nil => exact fun x h => by cases h
  | cons y l ih =>
    intro x h
    rw [dmx]
    rcases List.mem_cons.1 h with rfl | h
    · omega
    · have := ih x h; omega
theorem dmx_le {l : List Nod} {m : Nat} (h : ∀ x ∈ l, (dat x).size ≤ m) : dmx l ≤ m := by
  induction l with
  | nil => exact Nat.zero_le _
  | cons y l ih =>
    rw [dmx]
    have h1 := h y (List.mem_cons_self ..)
    have h2 := ih fun x hx => h x (List.mem_cons_of_mem _ hx)
    have h3 := tlen_le (bl (dat y)) (dat y).size
    rw [trim_size]
    omega
theorem pmx_le {l : List Nod} {m : Nat} (h : ∀ x ∈ l, (prs x).length ≤ m) : pmx l ≤ m := by
  induction l with
  | nil => exact Nat.zero_le _
  | cons y l ih =>
    rw [pmx]
    have h1 := h y (List.mem_cons_self ..)
    have h2 := ih fun x hx => h x (List.mem_cons_of_mem _ hx)
    have h3 := lstN_le (prs y) (prs y).length
    omega
theorem encN_cx (x : Nod) : encN (cx x) = .st [.sc (.int .i64 1), .sc (.string (dat x)), .sl 6 (encNs (cns (prs x))), .sc (.int .i64 0), .sc (.int .i64 0), .sl 6 []] := by
  unfold cx; rw [encN_mk]; rfl
/-- all of them as long as each other: what the first look gathers, then the cut -/
theorem l6Items_of (i : List Nod) (hl : i.length ≤ 1048576) {a b : Nat} (ha : a ≤ 1048576) (hb : b ≤ 1048576) (hd : ∀ x ∈ i, (dat x).size = a) (hp : ∀ x ∈ i, (prs x).length = b)
    (h : ∀ x ∈ i, (D T).call F_spec_l6Ptrs [.sl 6 (encNs (prs x))] = some (.sl 6 (encNs (cns (prs x))), [])) :
    (D T).call F_spec_l6Items [.sl 6 (encNs i)] = some (.sl 6 (encNs (cutI (cni i))), []) := by
  have hr : reachBytes = 140737488351232 := rfl
  -- the cut
  have hC : ∀ (l : List Nod) (u v : Nat), l.length ≤ 1048576 → (∀ x ∈ l, u ≤ (dat x).size ∧ v ≤ (prs x).length ∧ ∃ d p, x = .mk 1 d p 0 0 []) → ∀ j, j ≤ l.length → ∀ done : List Nod, done.length = j →
      L_spec_l6Items_3 (D T) (u : Int) (v : Int) (j : Int) (encNs (done ++ l.drop j)) = some (.sl 6 (encNs (done ++ (l.drop j).map (cutX u v))), []) := by
    intro l u v hll hx
    refine down (fun done hdn => ?_) fun j hj ih done hdn => ?_
    · rw [L_spec_l6Items_3_eq, tL_spec_l6Items_3, encNs_length, List.drop_length, List.append_nil, hdn, nlt_ofNat, bif_false, List.map_nil, List.append_nil]
    · obtain ⟨h1, h2, d, p, h3⟩ := hx _ (List.getElem_mem hj)
      have hlen : (done ++ l.drop j).length = l.length := by rw [List.length_append, List.length_drop, hdn]; omega
      have hg : (encNs (done ++ l.drop j))[j]? = some (encN l[j]) := by
        rw [encNs_map, List.getElem?_map, List.getElem?_append_right (by omega), hdn, Nat.sub_self, List.getElem?_drop, Nat.add_zero, List.getElem?_eq_getElem hj]; rfl
      rw [L_spec_l6Items_3_eq, tL_spec_l6Items_3]
      simp only [List.length_set, encNs_length, hlen, lt_ofNat hj, le_ofNat, Bool.and_true, Bool.true_and, bif_true, Int.toNat_natCast]
      rw [exN_at hg]
      rw [h3, encN_mk]
      have hd' : (dat l[j]).size = d.size := by rw [h3]; rfl
      have hp' : (prs l[j]).length = p.length := by rw [h3]; rfl
      rw [h3, encN_mk] at hg
      have hjl : j < (encNs (done ++ l.drop j)).length := by rw [encNs_length, hlen]; exact hj
      simp only [ce, List.getD_cons_succ, List.getD_cons_zero, unS_mk, setCe, exN_at hg]
      rw [decide_eq_true (show (u : Int) ≤ Int.ofNat d.size by show (u : Int) ≤ (d.size : Int); omega), bif_true]
      rw [exN_at (List.getElem?_set_self hjl)]
      simp only [List.getD_cons_succ, List.getD_cons_zero, List.set_cons_succ, List.set_cons_zero, unL_mk]
      rw [encNs_length, decide_eq_true (show (v : Int) ≤ Int.ofNat p.length by show (v : Int) ≤ (p.length : Int); omega), bif_true]
      rw [exN_at (List.getElem?_set_self hjl)]
      simp only [List.set_cons_succ, List.set_cons_zero, List.set_set]
      rw [next_i (by omega)]
      have e : (encNs (done ++ l.drop j)).set j (.st [.sc (.int .i64 1), .sc (.string (d.extract 0 u)), .sl 6 (List.take v (encNs p)), .sc (.int .i64 0), .sc (.int .i64 0), .sl 6 (encNs [])]) = encNs ((done ++ [cutX u v l[j]]) ++ l.drop (j + 1)) := by
        rw [List.drop_eq_getElem_cons hj, encNs_app, List.set_append_right _ _ (by rw [encNs_length]; omega), encNs_length, hdn, Nat.sub_self, encNs_cons, List.set_cons_zero, List.append_assoc, encNs_app]
        congr 1
        rw [List.singleton_append, encNs_cons, h3]
        unfold cutX
        rw [encN_mk, encNs_take]; rfl
      rw [e, ih (done ++ [cutX u v l[j]]) (by simp [hdn]), List.drop_eq_getElem_cons hj, List.map_cons, List.append_assoc, List.singleton_append]
  -- the first look
  have hL : ∀ j, j ≤ i.length → ∀ (u v : Nat) (done : List Nod), done.length = j → L_spec_l6Items_1 (D T) (encNs i) (u : Int) (v : Int) (j : Int) (encNs done) =
      L_spec_l6Items_3 (D T) ((max u (dmx (cni (i.drop j))) : Nat) : Int) ((max v (pmx (cni (i.drop j))) : Nat) : Int) 0 (encNs (done ++ cni (i.drop j))) := by
    refine down (fun u v done hdn => ?_) fun j hj ih u v done hdn => ?_
    · rw [L_spec_l6Items_1_eq, tL_spec_l6Items_1, encNs_length, nlt_ofNat, List.drop_length, cni, dmx, pmx, List.append_nil, Nat.max_zero, Nat.max_zero]; rfl
    · have hg := encNs_get i j hj
      have hm := List.getElem_mem hj
      have hsz := hd _ hm
      have hpz := hp _ hm
      have hq := h _ hm
      have e1 : cni (i.drop j) = cx i[j] :: cni (i.drop (j + 1)) := by rw [cni_map, cni_map, List.drop_eq_getElem_cons hj, List.map_cons]
      rw [L_spec_l6Items_1_eq, tL_spec_l6Items_1, encNs_length, lt_ofNat hj, bif_true, ix_at hg, ce1_dat, unS_mk, ix_at hg, ce2_prs, unL_mk, hq, Option.bind_some]
      dsimp only
      rw [unL_mk, encNs_length, hdn, chk88 (by omega), bif_true, l1Trim_is _ (by omega), l6Last_is _ (by rw [cns_length]; omega), next_i (by omega)]
      simp only [Option.bind_some, unS_mk, unI_mk]
      have e2 : encNs done ++ [.st [.sc (.int .i64 1), .sc (.string (dat i[j])), .sl 6 (encNs (cns (prs i[j]))), .sc (.int .i64 0), .sc (.int .i64 0), .sl 6 []]] = encNs (done ++ [cx i[j]]) := by
        rw [encNs_app, encNs, encNs, encN_cx]
      rw [e2, e1, dmx, pmx]
      have e3 : dat (cx i[j]) = dat i[j] := rfl
      have e4 : prs (cx i[j]) = cns (prs i[j]) := rfl
      rw [e3, e4]
      generalize lstN (cns (prs i[j])) (cns (prs i[j])).length = pv
      have e5 : done ++ cx i[j] :: cni (i.drop (j + 1)) = (done ++ [cx i[j]]) ++ cni (i.drop (j + 1)) := by simp
      rw [e5]
      generalize (trimD (dat i[j])).size = dv
      rw [← Nat.max_assoc, ← Nat.max_assoc]
      by_cases c1 : u < dv <;> by_cases c2 : v < pv
      · rw [decide_eq_true (show (u : Int) < Int.ofNat dv by show (u : Int) < (dv : Int); omega), decide_eq_true (show (v : Int) < (pv : Int) by omega), bif_true, bif_true]
        have := ih dv pv (done ++ [cx i[j]]) (by simp [hdn])
        rw [show Int.ofNat dv = (dv : Int) from rfl, this, Nat.max_eq_right (show u ≤ dv by omega), Nat.max_eq_right (show v ≤ pv by omega)]
      · rw [decide_eq_true (show (u : Int) < Int.ofNat dv by show (u : Int) < (dv : Int); omega), decide_eq_false (show ¬ (v : Int) < (pv : Int) by omega), bif_true, bif_false]
        have := ih dv v (done ++ [cx i[j]]) (by simp [hdn])
        rw [show Int.ofNat dv = (dv : Int) from rfl, this, Nat.max_eq_right (show u ≤ dv by omega), Nat.max_eq_left (show pv ≤ v by omega)]
      · rw [decide_eq_false (show ¬ (u : Int) < Int.ofNat dv by show ¬ (u : Int) < (dv : Int); omega), decide_eq_true (show (v : Int) < (pv : Int) by omega), bif_true, bif_false]
        have := ih u pv (done ++ [cx i[j]]) (by simp [hdn])
        rw [this, Nat.max_eq_left (show dv ≤ u by omega), Nat.max_eq_right (show v ≤ pv by omega)]
        rfl
      · rw [decide_eq_false (show ¬ (u : Int) < Int.ofNat dv by show ¬ (u : Int) < (dv : Int); omega), decide_eq_false (show ¬ (v : Int) < (pv : Int) by omega), bif_false, bif_false]
        have := ih u v (done ++ [cx i[j]]) (by simp [hdn])
        rw [this, Nat.max_eq_left (show dv ≤ u by omega), Nat.max_eq_left (show pv ≤ v by omega)]
  rw [c_spec_l6Items, t_spec_l6Items]
  cases i with
  | nil =>
    rw [L_spec_l6Items_0_eq, tL_spec_l6Items_0]
    show L_spec_l6Items_2 (D T) 0 0 0 [] = _
    rw [L_spec_l6Items_2_eq, tL_spec_l6Items_2]
    rfl
  | cons x i =>
    have e : L_spec_l6Items_0 (D T) (encNs (x :: i)) 0 0 0 [] = L_spec_l6Items_1 (D T) (encNs (x :: i)) 0 0 0 [] := by
      rw [L_spec_l6Items_0_eq, L_spec_l6Items_1_eq, tL_spec_l6Items_0, tL_spec_l6Items_1, encNs_length]
      have : decide ((0 : Int) < Int.ofNat (x :: i).length) = true := lt_ofNat0 (by simp)
      rw [this, bif_true, bif_true]
    rw [e]
    have h0 := hL 0 (Nat.zero_le _) 0 0 [] rfl
    rw [List.drop_zero, List.nil_append, Nat.zero_max, Nat.zero_max] at h0
    have h0 : L_spec_l6Items_1 (D T) (encNs (x :: i)) 0 0 0 [] = _ := h0
    rw [h0]
    have hx : ∀ y ∈ cni (x :: i), dat y = dat y ∧ (dat y).size = a ∧ (prs y).length = b ∧ ∃ d p, y = .mk 1 d p 0 0 [] := by
      intro y hy
      rw [cni_map] at hy
      obtain ⟨z, hz, rfl⟩ := List.mem_map.1 hy
      refine ⟨rfl, hd z hz, ?_, dat z, cns (prs z), rfl⟩
      show (cns (prs z)).length = b
      rw [cns_length]; exact hp z hz
    have h1 := hC (cni (x :: i)) (dmx (cni (x :: i))) (pmx (cni (x :: i))) (by rw [cni_length]; exact hl) (fun y hy => by
      obtain ⟨_, g1, g2, g3⟩ := hx y hy
      refine ⟨?_, ?_, g3⟩
      · rw [g1]; exact dmx_le fun z hz => (hx z hz).2.1 ▸ Nat.le_refl _
      · rw [g2]; exact pmx_le fun z hz => (hx z hz).2.2.1 ▸ Nat.le_refl _) 0 (Nat.zero_le _) [] rfl
    rw [List.drop_zero, List.nil_append] at h1
    have h1 : L_spec_l6Items_3 (D T) _ _ 0 _ = _ := h1
    rw [h1, List.nil_append]
    rfl
theorem str_form {x : Nod} (h : strB x = true) : ∃ d p, x = .mk 1 d p 0 0 [] ∧ d.size % 8 = 0 := by
  obtain ⟨k, d, p, s, c, i⟩ := x
  obtain ⟨rfl, h1, rfl, rfl, rfl⟩ := str_c h
  exact ⟨d, p, rfl, h1⟩
/-- items are structs as long as each other -/
theorem items_form {i : List Nod} (h : allStr i = true) : ∃ a b, (∀ x ∈ i, (dat x).size = a) ∧ (∀ x ∈ i, (prs x).length = b) ∧ ∀ x ∈ i, ∃ d p, x = .mk 1 d p 0 0 [] ∧ d.size % 8 = 0 := by
  obtain ⟨h1, h2⟩ := allStr_iff.1 h
  cases i with
  | nil => exact ⟨0, 0, fun x h => (by cases h), fun x h => (by cases h), fun x h => (by cases h)⟩
  | cons y l =>
    have hl : ∀ x ∈ y :: l, likeB y x = true := List.all_eq_true.1 h1
    have hz : ∀ x ∈ y :: l, (dat x).size = (dat y).size ∧ (prs x).length = (prs y).length := fun x hx => by
      have := hl x hx
      obtain ⟨k, d, p, s, c, i⟩ := x
      obtain ⟨k', d', p', s', c', i'⟩ := y
      simp only [likeB, Bool.and_eq_true, decide_eq_true_eq] at this
      exact this.2
    exact ⟨(dat y).size, (prs y).length, fun x hx => (hz x hx).1, fun x hx => (hz x hx).2, fun x hx => str_form (h2 x hx)⟩
theorem sz_parts {k : Int} {d : ByteArray} {p : List Nod} {s c : Int} {i : List Nod} {m : Nat} (h : szN (.mk k d p s c i) ≤ m) : d.size ≤ m ∧ p.length ≤ m ∧ i.length ≤ m ∧ (∀ n ∈ p, szN n ≤ m) ∧ (∀ n ∈ i, szN n ≤ m) := by
  simp only [szN] at h
  refine ⟨by omega, by omega, by omega, fun n hn => ?_, fun n hn => ?_⟩
  · have := szT_mem hn; omega
  · have := szT_mem hn; omega
theorem sz_datx {x : Nod} {m : Nat} (h : szN x ≤ m) : (dat x).size ≤ m ∧ (prs x).length ≤ m ∧ ∀ n ∈ prs x, szN n ≤ m := by
  obtain ⟨k, d, p, s, c, i⟩ := x
  obtain ⟨h1, h2, _, h3, _⟩ := sz_parts h
  exact ⟨h1, h2, h3⟩
theorem spec_canon_is : ∀ n, szN n ≤ 1048576 → ∀ deep : Int, okS deep n = true → (D T).call F_spec_l6Canon [encN n] = some (encN (cn n), []) := by
  have hr : reachBytes = 140737488351232 := rfl
  refine Nod.ind2 fun k d p s c i hp hi => ?_
  intro hsz deep hS
  obtain ⟨z1, z2, z3, z4, z5⟩ := sz_parts hsz
  obtain ⟨hSp, hSi⟩ := okS_parts hS
  have hP := l6Ptrs_of p z2 fun n hn => hp n hn (z4 n hn) _ (okSs_iff.1 hSp n hn)
  rw [encN_mk, c_spec_l6Canon, t_spec_l6Canon]
  rcases okS_form hS with h | h | h
  · obtain ⟨rfl, hd, rfl, rfl, rfl, rfl⟩ := h
    rfl
  · obtain ⟨rfl, h1, rfl, rfl, rfl⟩ := str_c h
    rw [decide_eq_true (show (1 : Int) = 1 from rfl), bif_true, hP, Option.bind_some]
    dsimp only
    rw [unL_mk, l1Trim_is d (by omega), Option.bind_some]
    dsimp only
    rw [unS_mk, l6Last_is _ (by rw [cns_length]; omega), Option.bind_some]
    dsimp only
    have hle := lstN_le (cns p) (cns p).length
    rw [unI_mk, encNs_length, le_ofNat, decide_eq_true (show ((lstN (cns p) (cns p).length : Nat) : Int) ≤ Int.ofNat (cns p).length by show ((lstN (cns p) (cns p).length : Nat) : Int) ≤ ((cns p).length : Int); omega), Int.toNat_natCast, ← encNs_take]
    rfl
  · obtain ⟨rfl, h1, h2, h3⟩ := lst_c h
    rw [decide_eq_false (show ¬ (2 : Int) = 1 by omega), bif_false, decide_eq_true (show (2 : Int) = 2 from rfl), bif_true, bif_true]
    rcases h3 with ⟨rfl, h4, h5, rfl⟩ | ⟨rfl, h4, h5, rfl, h6⟩ | ⟨h4, rfl, rfl, h5⟩
    · rw [decide_eq_true (show (6 : Int) = 6 from rfl), bif_true, hP]; rfl
    · obtain ⟨a, b, g1, g2, g3⟩ := items_form h4
      have hIt : (D T).call F_spec_l6Items [.sl 6 (encNs i)] = some (.sl 6 (encNs (cutI (cni i))), []) := by
        cases i with
        | nil => exact l6Items_of [] z3 (a := 0) (b := 0) (by omega) (by omega) (fun x hx => by cases hx) (fun x hx => by cases hx) fun x hx => by cases hx
        | cons y l =>
          have hy := sz_datx (z5 y (List.mem_cons_self ..))
          refine l6Items_of _ z3 (a := a) (b := b) (by have := g1 y (List.mem_cons_self ..); omega) (by have := g2 y (List.mem_cons_self ..); omega) g1 g2 fun x hx => ?_
          obtain ⟨_, q2, q3⟩ := sz_datx (z5 x hx)
          exact l6Ptrs_of _ q2 fun n hn => (hi x hx).2 n hn (q3 n hn) _ (okSs_iff.1 (okSi_mem hSi x hx) n hn)
      rw [decide_eq_false (show ¬ (7 : Int) = 6 by omega), decide_eq_true (show (7 : Int) = 7 from rfl), bif_false, bif_true, hIt]; rfl
    · rw [decide_eq_false (show ¬ s = 6 by omega), decide_eq_false (show ¬ s = 7 by omega), bif_false, bif_false]
      rw [cn, decide_eq_false (show ¬ (2 : Int) = 1 by omega), decide_eq_false (show ¬ s = 6 by omega), decide_eq_false (show ¬ s = 7 by omega), Bool.and_false, bif_false, bif_false, bif_false, encN_mk]
      simp [encNs]
theorem mx_i (u v : Nat) : (if (u : Int) < Int.ofNat v then Int.ofNat v else (u : Int)) = ((max u v : Nat) : Int) := by
  rw [show Int.ofNat v = (v : Int) from rfl]
  split <;> omega
def padX (a b : Nat) (x : Nod) : Nod := .mk 1 (dat x ++ zeros (a - (dat x).size)) (prs x ++ List.replicate (b - (prs x).length) noN) 0 0 []
theorem encN_no : encN noN = .st [.sc (.int .i64 0), .sc (.string (.mk (.mk []))), .sl 6 [], .sc (.int .i64 0), .sc (.int .i64 0), .sl 6 []] := rfl
theorem widened_is (d : ByteArray) (p : List Nod) (a b : Nat) (ha : a ≤ 1048576) (hb : b ≤ 1048576) (hd : d.size ≤ a) (hp : p.length ≤ b) :
    (D T).call F_impl_Node_widened [encN (.mk 1 d p 0 0 []), .sc (.int .i64 (a : Int)), .sc (.int .i64 (b : Int))] = some (encN (padX a b (.mk 1 d p 0 0 [])), []) := by
  have hL : ∀ m, ∀ acc : List Nod, acc.length + m = b → L_impl_Node_widened_1 (D T) (b : Int) 1 (d ++ zeros (a - d.size)) (encNs p) 0 0 [] 0 (.mk (.mk [])) 0 0 (encNs acc) =
      some (.st [.sc (.int .i64 1), .sc (.string (d ++ zeros (a - d.size))), .sl 6 (encNs (acc ++ List.replicate m noN)), .sc (.int .i64 0), .sc (.int .i64 0), .sl 6 []], []) := by
    intro m
    induction m with
    | zero =>
      intro acc h
      rw [L_impl_Node_widened_1_eq, tL_impl_Node_widened_1, encNs_length, decide_eq_false (show ¬ Int.ofNat acc.length < (b : Int) by show ¬ (acc.length : Int) < (b : Int); omega), bif_false, List.replicate_zero, List.append_nil]
    | succ m ih =>
      intro acc h
      rw [L_impl_Node_widened_1_eq, tL_impl_Node_widened_1, encNs_length, decide_eq_true (show Int.ofNat acc.length < (b : Int) by show (acc.length : Int) < (b : Int); omega), bif_true, chk88 (by omega), bif_true]
      have e : encNs acc ++ [.st [.sc (.int .i64 0), .sc (.string (.mk (.mk []))), .sl 6 [], .sc (.int .i64 0), .sc (.int .i64 0), .sl 6 []]] = encNs (acc ++ [noN]) := by rw [encNs_app, encNs_cons, encN_no]; rfl
      rw [e, ih (acc ++ [noN]) (by rw [List.length_append]; show acc.length + 1 + m = b; omega), List.append_assoc, List.singleton_append, ← List.replicate_succ]
  have e1 : L_impl_Node_widened_0 (D T) (b : Int) 1 (d ++ zeros (a - d.size)) (encNs p) 0 0 [] 0 (.mk (.mk [])) 0 0 (encNs p) = L_impl_Node_widened_1 (D T) (b : Int) 1 (d ++ zeros (a - d.size)) (encNs p) 0 0 [] 0 (.mk (.mk [])) 0 0 (encNs p) := by
    rw [L_impl_Node_widened_0_eq, L_impl_Node_widened_1_eq]; rfl
  have ew : IntKind.wrap .i64 ((a : Int) - Int.ofNat d.size) = ((a - d.size : Nat) : Int) := by
    show IntKind.wrap .i64 ((a : Int) - (d.size : Int)) = _
    rw [wrap_id (by omega) (by omega)]; omega
  have ez := zeros_size (a - d.size)
  rw [encN_mk, c_impl_Node_widened, t_impl_Node_widened, ew, if_neg (by omega), repeat_is _ (by omega), Option.bind_some]
  dsimp only
  rw [unS_mk, ez, decide_eq_true (show d.size + (a - d.size) ≤ 9223372036854775807 by omega), bif_true, encNs_length, decide_eq_true (show (0 + p.length) * 88 ≤ 140737488355328 by omega), bif_true]
  show L_impl_Node_widened_0 (D T) (b : Int) 1 (d ++ zeros (a - d.size)) (encNs p) 0 0 [] 0 (.mk (.mk [])) 0 0 (encNs p) = _
  rw [e1, hL (b - p.length) p (by omega)]
  unfold padX
  rw [encN_mk]
  rfl
theorem knd_cn (n : Nod) : knd (cn n) = knd n := by
  obtain ⟨k, d, p, s, c, i⟩ := n
  rw [cn]
  by_cases h1 : k = 1
  · subst h1; rfl
  rw [decide_eq_false h1, bif_false]
  by_cases h2 : k = 2
  · subst h2
    rw [decide_eq_true (show (2 : Int) = 2 from rfl), Bool.true_and, Bool.true_and]
    cases decide (s = 6) <;> cases decide (s = 7) <;> rfl
  · rw [decide_eq_false h2]; rfl
theorem cn_no {n : Nod} {deep : Int} (h : okS deep n = true) (hk : knd (cn n) = 0) : cn n = noN := by
  rw [knd_cn] at hk
  obtain ⟨k, d, p, s, c, i⟩ := n
  rcases okS_form h with h | h | h
  · obtain ⟨rfl, h1, rfl, rfl, rfl, rfl⟩ := h
    rw [emp_of h1]; rfl
  · have := (str_c h).1; simp only [knd] at hk; omega
  · have := (lst_c h).1; simp only [knd] at hk; omega
theorem pad_strp {l : List Nod} (hz : ∀ x ∈ l, knd x = 0 → x = noN) : ∀ n, n ≤ l.length → ∀ m, m ≤ n → lstN l n ≤ m → l.take m = l.take (lstN l n) ++ List.replicate (m - lstN l n) noN := by
  intro n
  induction n with
  | zero => intro _ m hm _; obtain rfl : m = 0 := by omega
            rfl
  | succ n ih =>
    intro hn m hm hl
    have hlt : n < l.length := by omega
    have e : l.getD n noN = l[n] := by rw [List.getD_eq_getElem?_getD, List.getElem?_eq_getElem hlt]; rfl
    rw [lstN, e] at hl ⊢
    split at hl
    · rename_i h0
      rw [if_pos h0]
      by_cases hmn : m ≤ n
      · exact ih (by omega) m hmn hl
      · obtain rfl : m = n + 1 := by omega
        have h1 := ih (by omega) n (Nat.le_refl _) (lstN_le l n)
        have h2 := hz _ (List.getElem_mem hlt) h0
        have h3 := lstN_le l n
        rw [List.take_add_one, List.getElem?_eq_getElem hlt, h2, h1, Option.toList_some, List.append_assoc, show n + 1 - lstN l n = (n - lstN l n) + 1 by omega, List.replicate_succ']
    · rename_i h0
      rw [if_neg h0]
      obtain rfl : m = n + 1 := by omega
      rw [Nat.sub_self, List.replicate_zero, List.append_nil]
theorem strp_length (l : List Nod) : (strp l).length = lstN l l.length := by
  unfold strp
  rw [List.length_take]
  exact Nat.min_eq_left (lstN_le _ _)
theorem cn_str (d : ByteArray) (p i : List Nod) (s c : Int) : cn (.mk 1 d p s c i) = .mk 1 (trimD d) (strp (cns p)) 0 0 [] := by rw [cn]; rfl
/-- what is widened again is what is cut -/
theorem pad_cut {d : ByteArray} {p : List Nod} {a b : Nat} {deep : Int} (hp : okSs deep p = true) (ha : a ≤ d.size) (hb : b ≤ p.length) (h1 : (trimD d).size ≤ a) (h2 : lstN (cns p) (cns p).length ≤ b) :
    padX a b (cn (.mk 1 d p 0 0 [])) = cutX a b (cx (.mk 1 d p 0 0 [])) := by
  rw [cn_str]
  unfold padX cutX cx
  simp only [dat, prs]
  have e1 : trimD d ++ zeros (a - (trimD d).size) = d.extract 0 a := bl_ext (by
    rw [trim_size] at h1 ⊢
    have := pad_eq (l := bl d) (n := d.size) (m := a) (Nat.le_refl _) ha h1
    have e0 : bl (trimD d) = (bl d).take (tlen (bl d) d.size) := by unfold trimD; rw [bl_extract, List.drop_zero]
    rw [bl_append, e0, bl_extract, List.drop_zero, this]
    rfl)
  have e2 : strp (cns p) ++ List.replicate (b - (strp (cns p)).length) noN = (cns p).take b := by
    rw [strp_length]
    refine (pad_strp (fun x hx h0 => ?_) _ (Nat.le_refl _) b (by rw [cns_length]; exact hb) h2).symm
    rw [cns_map] at hx
    obtain ⟨n, hn, rfl⟩ := List.mem_map.1 hx
    exact cn_no (okSs_iff.1 hp n hn) h0
  rw [e1, e2]
theorem impl_canon_is : ∀ n, szN n ≤ 1048576 → ∀ deep : Int, okS deep n = true → (D T).call F_impl_canon [encN n] = some (encN (cn n), []) := by
  have hr : reachBytes = 140737488351232 := rfl
  refine Nod.ind2 fun k d p s c i hp hi => ?_
  intro hsz deep hS
  obtain ⟨z1, z2, z3, z4, z5⟩ := sz_parts hsz
  obtain ⟨hSp, hSi⟩ := okS_parts hS
  rw [encN_mk, c_impl_canon, t_impl_canon, encNs_length]
  -- the pointers
  have hP1 : ∀ j, j ≤ p.length → ∀ acc : List V, acc.length ≤ j → L_impl_canon_1 (D T) (encNs p) (Int.ofNat p.length) (j : Int) k d (encNs p) s c (encNs i) 0 (.mk (.mk [])) 0 0 acc =
      L_impl_canon_3 (D T) 0 0 (encNs i) (Int.ofNat i.length) 0 k d (encNs p) s c (encNs i) 0 (.mk (.mk [])) 0 0 (acc ++ encNs (cns (p.drop j))) := by
    refine down (fun acc ha => ?_) fun j hj ih acc ha => ?_
    · rw [L_impl_canon_1_eq, tL_impl_canon_1, nlt_ofNat, bif_false, encNs_length, List.drop_length, cns, encNs, List.append_nil]
    · have hm := List.getElem_mem hj
      have hc := hp _ hm (z4 _ hm) _ (okSs_iff.1 hSp _ hm)
      rw [List.drop_eq_getElem_cons hj, cns, encNs_cons]
      rw [L_impl_canon_1_eq, tL_impl_canon_1, lt_ofNat hj, bif_true, ix_at (encNs_get p j hj), next_i (by omega)]
      generalize p[j] = x at hc
      obtain ⟨k', d', p', s', c', i'⟩ := x
      rw [encN_mk] at hc
      rw [un_encN]
      dsimp only
      rw [hc, Option.bind_some]
      dsimp only
      rw [unSt_encN, wd_encN, chk88 (by omega), bif_true, ih _ (by rw [List.length_append]; show acc.length + 1 ≤ j + 1; omega), List.append_assoc, List.singleton_append]
  have hP0 : L_impl_canon_0 (D T) (encNs p) (Int.ofNat p.length) 0 k d (encNs p) s c (encNs i) 0 (.mk (.mk [])) 0 0 =
      bif decide (p.length = 0) then L_impl_canon_2 (D T) 0 0 (encNs i) (Int.ofNat i.length) 0 k d (encNs p) s c (encNs i) 0 (.mk (.mk [])) 0 0
      else L_impl_canon_3 (D T) 0 0 (encNs i) (Int.ofNat i.length) 0 k d (encNs p) s c (encNs i) 0 (.mk (.mk [])) 0 0 (encNs (cns p)) := by
    rw [L_impl_canon_0_eq, tL_impl_canon_0]
    by_cases h0 : p.length = 0
    · rw [decide_eq_true h0, decide_eq_false (show ¬ (0 : Int) < Int.ofNat p.length by show ¬ (0 : Int) < (p.length : Int); omega), bif_false, bif_true, encNs_length]
    · have hj : 0 < p.length := by omega
      have hm := List.getElem_mem hj
      have hc := hp _ hm (z4 _ hm) _ (okSs_iff.1 hSp _ hm)
      have h1 := fun acc h => hP1 1 (by omega) acc h
      have e : encNs (cns p) = encN (cn p[0]) :: encNs (cns (p.drop 1)) := by
        have := List.drop_eq_getElem_cons hj
        rw [List.drop_zero] at this
        conv => lhs; rw [this]
        rw [cns, encNs_cons]
      rw [decide_eq_false h0, bif_false, lt_ofNat0 hj, bif_true, ix_at0 (encNs_get p 0 hj), next0, e]
      generalize p[0] = x at hc
      obtain ⟨k', d', p', s', c', i'⟩ := x
      rw [encN_mk] at hc
      rw [un_encN]
      dsimp only
      rw [hc, Option.bind_some]
      dsimp only
      rw [unSt_encN, wd_encN]
      exact h1 _ (by show 1 ≤ 1; omega)
  rw [hP0]
  -- without items
  have hE2 : i = [] → L_impl_canon_2 (D T) 0 0 (encNs i) (Int.ofNat i.length) 0 k d (encNs p) s c (encNs i) 0 (.mk (.mk [])) 0 0 =
      bif decide (k = 1) then some (.st [.sc (.int .i64 k), .sc (.string (trimD d)), .sl 6 [], .sc (.int .i64 s), .sc (.int .i64 c), .sl 6 []], []) else some (.st [.sc (.int .i64 k), .sc (.string d), .sl 6 [], .sc (.int .i64 s), .sc (.int .i64 c), .sl 6 []], []) := by
    rintro rfl
    rw [L_impl_canon_2_eq, tL_impl_canon_2]
    show L_impl_canon_5 (D T) 0 0 0 0 k d (encNs p) s c [] 0 (.mk (.mk [])) 0 0 = _
    rw [L_impl_canon_5_eq, tL_impl_canon_5, decide_eq_false (show ¬ (0 : Int) < 0 by omega), bif_false, trimmed_is d (by omega), Option.bind_some]
    dsimp only
    rw [unS_mk, L_impl_canon_9_eq]
    rfl
  have hE3 : i = [] → L_impl_canon_3 (D T) 0 0 (encNs i) (Int.ofNat i.length) 0 k d (encNs p) s c (encNs i) 0 (.mk (.mk [])) 0 0 (encNs (cns p)) =
      bif decide (k = 1) then some (.st [.sc (.int .i64 k), .sc (.string (trimD d)), .sl 6 (encNs (strp (cns p))), .sc (.int .i64 s), .sc (.int .i64 c), .sl 6 []], []) else some (.st [.sc (.int .i64 k), .sc (.string d), .sl 6 (encNs (cns p)), .sc (.int .i64 s), .sc (.int .i64 c), .sl 6 []], []) := by
    rintro rfl
    have hl : (cns p).length ≤ 1048576 := by rw [cns_length]; exact z2
    have hS : ∀ n, n ≤ (cns p).length → L_impl_canon_11 (D T) k (trimD d) ((encNs (cns p)).take n) s c 0 (.mk (.mk [])) 0 0 =
        some (.st [.sc (.int .i64 k), .sc (.string (trimD d)), .sl 6 ((encNs (cns p)).take (lstN (cns p) n)), .sc (.int .i64 s), .sc (.int .i64 c), .sl 6 []], []) := by
      generalize cns p = l at hl
      intro n
      induction n with
      | zero => intro _; rw [L_impl_canon_11_eq, tL_impl_canon_11]; rfl
      | succ n ih =>
        intro hn
        have e0 : ((encNs l).take (n + 1)).length = n + 1 := by rw [List.length_take, encNs_length]; omega
        have hg : ((encNs l).take (n + 1))[n]? = some (encN l[n]) := by rw [List.getElem?_take, if_pos (by omega), encNs_get l n (by omega)]
        have e1 : l.getD n noN = l[n]'(by omega) := by rw [List.getD_eq_getElem?_getD, List.getElem?_eq_getElem (by omega)]; rfl
        have ew : IntKind.wrap .i64 (Int.ofNat (n + 1) - 1) = (n : Int) := w_sub1 (by omega)
        rw [L_impl_canon_11_eq, tL_impl_canon_11]
        simp only [e0]
        rw [ew, lt_ofNat0 (show 0 < n + 1 by omega), bif_true, le_ofNat, lt_ofNat (show n < n + 1 by omega), Bool.and_true, bif_true, Int.toNat_natCast, exN_at hg, ce0_knd, unI_mk, lstN, e1, decide_true, decide_eq_true (show (n : Int) ≤ Int.ofNat (n + 1) by show (n : Int) ≤ ((n + 1 : Nat) : Int); omega)]
        by_cases h : knd (l[n]'(by omega)) = 0
        · rw [decide_eq_true h, bif_true, if_pos h, List.take_take, Nat.min_eq_left (by omega), ih (by omega)]; rfl
        · rw [decide_eq_false h, bif_false, if_neg h]
    have hS1 := hS _ (Nat.le_refl _)
    rw [show (encNs (cns p)).take (cns p).length = encNs (cns p) by rw [← encNs_length, List.take_length]] at hS1
    rw [L_impl_canon_3_eq, tL_impl_canon_3]
    show L_impl_canon_7 (D T) 0 0 0 0 k d (encNs p) s c [] 0 (.mk (.mk [])) 0 0 (encNs (cns p)) = _
    rw [L_impl_canon_7_eq, tL_impl_canon_7, decide_eq_false (show ¬ (0 : Int) < 0 by omega), bif_false, trimmed_is d (by omega), Option.bind_some]
    dsimp only
    rw [unS_mk, hS1]
    unfold strp
    rw [encNs_take]
  rcases okS_form hS with h | h | h
  · obtain ⟨rfl, hd, rfl, rfl, rfl, rfl⟩ := h
    rw [show decide (([] : List Nod).length = 0) = true from rfl, bif_true, hE2 rfl]
    rfl
  · obtain ⟨rfl, h1, rfl, rfl, rfl⟩ := str_c h
    rw [cn_str, encN_mk, hE2 rfl, hE3 rfl, decide_eq_true (show (1 : Int) = 1 from rfl), bif_true, bif_true]
    by_cases h0 : p.length = 0
    · obtain rfl := List.eq_nil_of_length_eq_zero h0
      rfl
    · rw [decide_eq_false h0]; rfl
  · obtain ⟨rfl, h1, h2, h3⟩ := lst_c h
    rcases h3 with ⟨rfl, h4, h5, rfl⟩ | ⟨rfl, h4, h5, rfl, h6⟩ | ⟨h4, rfl, rfl, h5⟩
    · rw [hE2 rfl, hE3 rfl, decide_eq_false (show ¬ (2 : Int) = 1 by omega), bif_false, bif_false, cn, decide_eq_false (show ¬ (2 : Int) = 1 by omega), emp_of h4]
      by_cases h0 : p.length = 0
      · obtain rfl := List.eq_nil_of_length_eq_zero h0
        rfl
      · rw [decide_eq_false h0]
        show some _ = some (encN (.mk 2 (.mk (.mk [])) (cns p) 6 c []), [])
        rw [encN_mk]; rfl
    · -- structs side by side
      rw [show decide (([] : List Nod).length = 0) = true from rfl, bif_true]
      cases i with
      | nil =>
        rw [hE2 rfl, decide_eq_false (show ¬ (2 : Int) = 1 by omega), bif_false, emp_of h5]
        rfl
      | cons y l =>
        obtain ⟨a, b, g1, g2, g3⟩ := items_form h4
        have hy := sz_datx (z5 y (List.mem_cons_self ..))
        have ga := g1 y (List.mem_cons_self ..)
        have gb := g2 y (List.mem_cons_self ..)
        have h1d : 1 ≤ deep := by
          rw [okS, decide_eq_false (show ¬ (2 : Int) = 0 by omega), bif_false, Bool.and_eq_true, decide_eq_true_eq] at hS
          exact hS.1
        have hcn : ∀ x ∈ y :: l, ∃ d' p', x = .mk 1 d' p' 0 0 [] ∧ d'.size = a ∧ p'.length = b ∧ okSs (deep - 1) p' = true ∧ (D T).call F_impl_canon [.st [.sc (.int .i64 1), .sc (.string d'), .sl 6 (encNs p'), .sc (.int .i64 0), .sc (.int .i64 0), .sl 6 []]] = some (encN (.mk 1 (trimD d') (strp (cns p')) 0 0 []), []) := by
          intro x hx
          have q1 := okSi_mem hSi x hx
          have q2 := (allStr_iff.1 h4).2 x hx
          have q3 := g1 x hx
          have q4 := g2 x hx
          have q5 := (hi x hx).1 (z5 x hx) deep
          obtain ⟨d', p', rfl, _⟩ := g3 x hx
          refine ⟨d', p', rfl, q3, q4, q1, ?_⟩
          rw [encN_mk, cn_str] at q5
          refine q5 ?_
          rw [okS, decide_eq_false (show ¬ (1 : Int) = 0 by omega), bif_false, decide_eq_true h1d, q2]
          have q1 : okSs (deep - 1) p' = true := q1
          rw [q1]; rfl
        generalize hLL : y :: l = L at hcn z3
        have hLn : 0 < L.length := by rw [← hLL]; simp
        have hle : ∀ (l' : ByteArray), (trimD l').size ≤ l'.size := fun l' => by rw [trim_size]; exact tlen_le _ _
        -- all of them widened
        have hW : ∀ (u v : Nat), u ≤ a → v ≤ b → (∀ x ∈ L, (trimD (dat x)).size ≤ u ∧ (strp (cns (prs x))).length ≤ v) → ∀ j, j ≤ L.length → ∀ done : List Nod, done.length = j →
            L_impl_canon_8 (D T) (u : Int) (v : Int) (Int.ofNat L.length) (j : Int) 2 d (encNs []) 7 c (encNs L) 0 (.mk (.mk [])) 0 0 (encNs (done ++ (L.drop j).map cn)) =
              some (.st [.sc (.int .i64 2), .sc (.string d), .sl 6 [], .sc (.int .i64 7), .sc (.int .i64 c), .sl 6 (encNs (done ++ (L.drop j).map fun x => padX u v (cn x)))], []) := by
          intro u v hu hv hx
          refine down (fun done hdn => ?_) fun j hj ih done hdn => ?_
          · rw [L_impl_canon_8_eq, tL_impl_canon_8, nlt_ofNat, bif_false, decide_eq_false (show ¬ (2 : Int) = 1 by omega), bif_false, List.drop_length]; rfl
          · have hm := List.getElem_mem hj
            obtain ⟨d', p', hx1, hx2, hx3, hx4, _⟩ := hcn _ hm
            obtain ⟨hx5, hx6⟩ := hx _ hm
            rw [hx1] at hx5 hx6
            have hlen : (encNs (done ++ (L.drop j).map cn)).length = L.length := by rw [encNs_length, List.length_append, List.length_map, List.length_drop, hdn]; omega
            have hg : (encNs (done ++ (L.drop j).map cn))[j]? = some (encN (cn L[j])) := by
              rw [encNs_map, List.getElem?_map, List.getElem?_append_right (by omega), hdn, Nat.sub_self, List.getElem?_map, List.getElem?_drop, Nat.add_zero, List.getElem?_eq_getElem hj]; rfl
            have hwd := widened_is (trimD d') (strp (cns p')) u v (by omega) (by omega) hx5 hx6
            rw [encN_mk] at hwd
            rw [L_impl_canon_8_eq, tL_impl_canon_8, lt_ofNat hj, bif_true]
            simp only [hlen, lt_ofNat hj, le_ofNat, Bool.and_true, bif_true, Int.toNat_natCast]
            rw [exN_at hg, hx1, cn_str, un_encN]
            dsimp only
            rw [show encNs [] = [] from rfl] at hwd
            rw [show encNs [] = [] from rfl, hwd, Option.bind_some]
            dsimp only
            rw [unSt_encN, wd_encN, exN_at hg, next_i (by omega)]
            have e : (encNs (done ++ (L.drop j).map cn)).set j (encN (padX u v (.mk 1 (trimD d') (strp (cns p')) 0 0 []))) = encNs ((done ++ [padX u v (cn L[j])]) ++ (L.drop (j + 1)).map cn) := by
              rw [List.drop_eq_getElem_cons hj, List.map_cons, encNs_app, List.set_append_right _ _ (by rw [encNs_length]; omega), encNs_length, hdn, Nat.sub_self, encNs_cons, List.set_cons_zero, List.append_assoc, encNs_app]
              congr 1
              rw [List.singleton_append, encNs_cons, hx1, cn_str]
            rw [e, show ([] : List V) = encNs [] from rfl, ih (done ++ [padX u v (cn L[j])]) (by simp [hdn]), List.drop_eq_getElem_cons hj, List.map_cons, List.append_assoc, List.singleton_append]
            rfl
        -- the first look
        have hV : ∀ j, j ≤ L.length → ∀ (u v : Nat) (done : List Nod), done.length = j → L_impl_canon_4 (D T) (u : Int) (v : Int) (encNs L) (Int.ofNat L.length) (j : Int) 2 d (encNs []) 7 c (encNs L) 0 (.mk (.mk [])) 0 0 (encNs done) =
            L_impl_canon_8 (D T) ((max u (dmx (cni (L.drop j))) : Nat) : Int) ((max v (pmx (cni (L.drop j))) : Nat) : Int) (Int.ofNat L.length) 0 2 d (encNs []) 7 c (encNs L) 0 (.mk (.mk [])) 0 0 (encNs (done ++ (L.drop j).map cn)) := by
          refine down (fun u v done hdn => ?_) fun j hj ih u v done hdn => ?_
          · rw [L_impl_canon_4_eq, tL_impl_canon_4, nlt_ofNat, bif_false, List.drop_length, cni, dmx, pmx, Nat.max_zero, Nat.max_zero, List.map_nil, List.append_nil, encNs_length, hdn]
          · have hm := List.getElem_mem hj
            obtain ⟨d', p', hx1, hx2, hx3, hx4, hx5⟩ := hcn _ hm
            have e1 : cni (L.drop j) = cx L[j] :: cni (L.drop (j + 1)) := by rw [cni_map, cni_map, List.drop_eq_getElem_cons hj, List.map_cons]
            rw [L_impl_canon_4_eq, tL_impl_canon_4, lt_ofNat hj, bif_true, ix_at (encNs_get L j hj)]
            rw [hx1, un_encN]
            dsimp only
            rw [show encNs [] = [] from rfl, hx5, Option.bind_some]
            dsimp only
            rw [un_encN]
            dsimp only
            rw [encNs_length, encNs_length, hdn, chk88 (by omega), bif_true, mx_i, mx_i, next_i (by omega)]
            have e2 : encNs done ++ [.st [.sc (.int .i64 1), .sc (.string (trimD d')), .sl 6 (encNs (strp (cns p'))), .sc (.int .i64 0), .sc (.int .i64 0), .sl 6 (encNs [])]] = encNs (done ++ [cn L[j]]) := by
              rw [encNs_app, encNs_cons, hx1, cn_str, encN_mk]; rfl
            rw [e2, show ([] : List V) = encNs [] from rfl, ih _ _ (done ++ [cn L[j]]) (by simp [hdn]), e1, dmx, pmx, hx1]
            have e3 : dat (cx (.mk 1 d' p' 0 0 [])) = d' := rfl
            have e4 : prs (cx (.mk 1 d' p' 0 0 [])) = cns p' := rfl
            rw [e3, e4, strp_length, Nat.max_assoc, Nat.max_assoc, List.drop_eq_getElem_cons hj, List.map_cons, List.append_assoc, List.singleton_append, hx1]
        have hVV := hV 1 hLn
        have hm0 := List.getElem_mem hLn
        obtain ⟨d', p', hx1, hx2, hx3, hx4, hx5⟩ := hcn _ hm0
        rw [L_impl_canon_2_eq, tL_impl_canon_2, lt_ofNat0 hLn, bif_true, ix_at0 (encNs_get L 0 hLn)]
        rw [hx1, un_encN]
        dsimp only
        rw [show encNs [] = [] from rfl] at hVV ⊢
        rw [hx5, Option.bind_some]
        dsimp only
        rw [un_encN]
        dsimp only
        rw [encNs_length, show (0 : Int) = ((0 : Nat) : Int) from rfl, mx_i, mx_i]
        have e2 : [V.st [.sc (.int .i64 1), .sc (.string (trimD d')), .sl 6 (encNs (strp (cns p'))), .sc (.int .i64 ((0 : Nat) : Int)), .sc (.int .i64 ((0 : Nat) : Int)), .sl 6 (encNs [])]] = encNs [cn L[0]] := by
          rw [encNs_cons, hx1, cn_str, encN_mk]; rfl
        rw [e2, show IntKind.wrap .i64 (((0 : Nat) : Int) + 1) = ((1 : Nat) : Int) from next_i (by omega), Nat.zero_max, Nat.zero_max]
        have e5 : cni L = cx L[0] :: cni (L.drop 1) := by
          have := List.drop_eq_getElem_cons hLn
          rw [List.drop_zero] at this
          conv => lhs; rw [this]
          rw [cni_map, cni_map, List.map_cons]
        have e6 : L.map cn = [cn L[0]] ++ (L.drop 1).map cn := by
          have := List.drop_eq_getElem_cons hLn
          rw [List.drop_zero] at this
          conv => lhs; rw [this]
          rfl
        have h7 := hVV (trimD d').size (strp (cns p')).length [cn L[0]] rfl
        have e7 : max (trimD d').size (dmx (cni (L.drop 1))) = dmx (cni L) := by rw [e5, dmx, hx1]; rfl
        have e8 : max (strp (cns p')).length (pmx (cni (L.drop 1))) = pmx (cni L) := by rw [e5, pmx, hx1, strp_length]; rfl
        rw [e7, e8, ← e6] at h7
        have hxx : ∀ x ∈ L, dat (cx x) = dat x ∧ prs (cx x) = cns (prs x) := fun x _ => ⟨rfl, rfl⟩
        have hu : dmx (cni L) ≤ a := dmx_le fun x hx => by
          rw [cni_map] at hx
          obtain ⟨z, hz, rfl⟩ := List.mem_map.1 hx
          rw [(hxx z hz).1]
          obtain ⟨_, _, rfl, q, _⟩ := hcn z hz
          exact q ▸ Nat.le_refl _
        have hv : pmx (cni L) ≤ b := pmx_le fun x hx => by
          rw [cni_map] at hx
          obtain ⟨z, hz, rfl⟩ := List.mem_map.1 hx
          rw [(hxx z hz).2, cns_length]
          obtain ⟨_, _, rfl, _, q, _⟩ := hcn z hz
          exact q ▸ Nat.le_refl _
        have hge : ∀ x ∈ L, (trimD (dat x)).size ≤ dmx (cni L) ∧ (strp (cns (prs x))).length ≤ pmx (cni L) := fun x hx => by
          have hm : cx x ∈ cni L := by rw [cni_map]; exact List.mem_map_of_mem hx
          rw [strp_length]
          exact ⟨dmx_ge (cx x) hm, pmx_ge (cx x) hm⟩
        have h8 := hW _ _ hu hv hge 0 (Nat.zero_le _) [] rfl
        rw [List.drop_zero, List.nil_append, List.nil_append] at h8
        have h9 : (L.map fun x => padX (dmx (cni L)) (pmx (cni L)) (cn x)) = cutI (cni L) := by
          unfold cutI
          conv => rhs; arg 2; rw [cni_map]
          rw [List.map_map]
          refine List.map_congr_left fun x hx => ?_
          obtain ⟨d2, p2, rfl, q1, q2, q3, _⟩ := hcn x hx
          obtain ⟨q4, q5⟩ := hge _ hx
          exact pad_cut q3 (by omega) (by omega) q4 (by rw [← strp_length]; exact q5)
        rw [h9] at h8
        refine h7.trans (Eq.trans ?_ (h8.trans ?_))
        · rfl
        · rw [cn, decide_eq_false (show ¬ (2 : Int) = 1 by omega), decide_eq_false (show ¬ (7 : Int) = 6 by omega), emp_of h5]
          show some _ = some (encN (.mk 2 (.mk (.mk [])) [] 7 c (cutI (cni L))), [])
          rw [encN_mk]; rfl
    · rw [show decide (([] : List Nod).length = 0) = true from rfl, bif_true, hE2 rfl]
      rw [cn, decide_eq_false (show ¬ (2 : Int) = 1 by omega), decide_eq_false (show ¬ s = 6 by omega), decide_eq_false (show ¬ s = 7 by omega), Bool.and_false, bif_false, bif_false, bif_false, bif_false, encN_mk]
      rfl
theorem okN_sz : ∀ n, szN n ≤ 1048576 → okN n := by
  have hr : reachBytes = 140737488351232 := rfl
  refine Nod.ind fun k d p s c i hp hi => ?_
  intro h
  simp only [szN] at h
  unfold okN
  refine ⟨by omega, by omega, by omega, okNs_mem.2 fun n hn => hp n hn ?_, okNs_mem.2 fun n hn => hi n hn ?_⟩
  · have := szT_mem hn; omega
  · have := szT_mem hn; omega
theorem szT_map {f : Nod → Nod} : ∀ {l : List Nod}, (∀ n ∈ l, szN (f n) ≤ szN n) → szT (l.map f) ≤ szT l
  | [], _ => Nat.le_refl _
  | n :: l, h => by
    rw [List.map_cons, szT, szT]
    have h1 := h n (List.mem_cons_self ..)
    have h2 := szT_map fun m hm => h m (List.mem_cons_of_mem _ hm)
    omega
theorem szT_take : ∀ {l : List Nod} {m : Nat}, szT (l.take m) ≤ szT l
  | [], m => by rw [List.take_nil]; exact Nat.le_refl _
  | n :: l, 0 => by rw [List.take_zero, szT]; exact Nat.zero_le _
  | n :: l, m + 1 => by
    rw [List.take_succ_cons, szT, szT]
    have := szT_take (l := l) (m := m)
    omega
theorem szN_cn : ∀ n, szN (cn n) ≤ szN n := by
  refine Nod.ind2 fun k d p s c i hp hi => ?_
  have h1 : szT (cns p) ≤ szT p := by rw [cns_map]; exact szT_map hp
  have h2 := cns_length p
  have hd : (trimD d).size ≤ d.size := by rw [trim_size]; exact tlen_le _ _
  rw [cn]
  by_cases c1 : k = 1
  · rw [decide_eq_true c1, bif_true]
    have h3 := szT_take (l := cns p) (m := lstN (cns p) (cns p).length)
    have h4 := strp_length (cns p)
    have h5 := lstN_le (cns p) (cns p).length
    simp only [szN]
    unfold strp at h4 ⊢
    show (trimD d).size + ((_ + _) + (0 + 0)) ≤ _
    omega
  rw [decide_eq_false c1, bif_false]
  by_cases c2 : k = 2 ∧ s = 6
  · rw [decide_eq_true c2.1, decide_eq_true c2.2]
    simp only [Bool.and_self, bif_true, szN]
    show 0 + ((_ + _) + (0 + 0)) ≤ _
    omega
  have e2 : (decide (k = 2) && decide (s = 6)) = false := by
    rw [Bool.and_eq_false_iff, decide_eq_false_iff_not, decide_eq_false_iff_not]
    by_cases g : k = 2
    · exact .inr fun g' => c2 ⟨g, g'⟩
    · exact .inl g
  rw [e2, bif_false]
  cases (decide (k = 2) && decide (s = 7)) with
  | false =>
    rw [bif_false]
    simp only [szN]
    show d.size + ((0 + 0) + (0 + 0)) ≤ _
    omega
  | true =>
    rw [bif_true]
    have h3 : szT (cutI (cni i)) ≤ szT i := by
      unfold cutI
      generalize dmx (cni i) = u
      generalize pmx (cni i) = v
      rw [cni_map, List.map_map]
      refine szT_map fun x hx => ?_
      obtain ⟨k', d', p', s', c', i'⟩ := x
      have hq := (hi _ hx).2
      show szN (cutX u v (cx (.mk k' d' p' s' c' i'))) ≤ _
      unfold cutX cx
      have q1 : szT (cns p') ≤ szT p' := by rw [cns_map]; exact szT_map hq
      have q2 := szT_take (l := cns p') (m := v)
      have q3 := cns_length p'
      simp only [dat, prs, szN, ByteArray.size_extract, List.length_take]
      show _ + ((_ + _) + (0 + 0)) ≤ _
      omega
    have h4 : (cutI (cni i)).length = i.length := by unfold cutI; rw [List.length_map, cni_length]
    simp only [szN]
    show 0 + ((0 + 0) + (_ + _)) ≤ _
    omega
def alB (n m : Nod) : Bool := okB n && (okB m && eqN (cn n) (cn m))
theorem impl_Alike_is (n m : Nod) (hn : szN n ≤ 1048576) (hm : szN m ≤ 1048576) : (D T).call F_impl_Alike [encN n, encN m] = bo (alB n m) := by
  have h1 := impl_NodeOk_is n (okN_sz n hn) hn
  have h2 := impl_NodeOk_is m (okN_sz m hm) hm
  have h3 := fun h => impl_canon_is n hn 8 (okB_okS h)
  have h4 := fun h => impl_canon_is m hm 8 (okB_okS h)
  have h5 := impl_NodeSame_is (cn n) (okN_sz _ (Nat.le_trans (szN_cn n) hn)) (cn m) (okN_sz _ (Nat.le_trans (szN_cn m) hm))
  unfold alB
  generalize cn n = n' at h3 h5 ⊢
  generalize cn m = m' at h4 h5 ⊢
  generalize okB n = b1 at h1 h3 ⊢
  generalize okB m = b2 at h2 h4 ⊢
  obtain ⟨k, d, p, s, c, i⟩ := n
  obtain ⟨k', d', p', s', c', i'⟩ := m
  rw [encN_mk] at h1 h2 h3 h4 ⊢
  rw [encN_mk, c_impl_Alike, t_impl_Alike, h1, Option.bind_some]
  cases b1 with
  | false => rfl
  | true =>
    dsimp only
    rw [unB_mk, bif_true, h2, Option.bind_some]
    cases b2 with
    | false => rfl
    | true =>
      dsimp only
      rw [unB_mk, bif_true, h3 rfl, Option.bind_some]
      dsimp only
      rw [unSt_encN, h4 rfl, Option.bind_some]
      dsimp only
      rw [unSt_encN, h5, Option.bind_some]
      rfl
theorem tlen_step {l : List UInt8} {n u : Nat} (hn : n ≤ l.length) : tlen l n ≤ u → u ≤ n → u % 8 = n % 8 → tlen l u = tlen l n := by
  induction n using Nat.strongRecOn with
  | ind n ih =>
    intro h1 h2 h3
    by_cases h : 8 ≤ n ∧ zr ((l.take n).drop (n - 8)) = true
    · have e : tlen l n = tlen l (n - 8) := by rw [tlen, dif_pos h]
      by_cases hu : u = n
      · rw [hu]
      · rw [e] at h1 ⊢
        exact ih (n - 8) (by omega) (by omega) h1 (by omega) (by omega)
    · have e : tlen l n = n := by rw [tlen, dif_neg h]
      rw [e] at h1
      rw [show u = n by omega]
theorem tlen_take (l : List UInt8) (u : Nat) : ∀ n, n ≤ u → tlen (l.take u) n = tlen l n := by
  intro n
  induction n using Nat.strongRecOn with
  | ind n ih =>
    intro hn
    have e : (l.take u).take n = l.take n := by rw [List.take_take, Nat.min_eq_left hn]
    rw [tlen.eq_def (l.take u) n, tlen.eq_def l n, e]
    split
    · exact ih (n - 8) (by omega) (by omega)
    · rfl
theorem trim_ext {d : ByteArray} {u : Nat} (h1 : (trimD d).size ≤ u) (h2 : u ≤ d.size) (h3 : u % 8 = d.size % 8) : trimD (d.extract 0 u) = trimD d := by
  unfold trimD
  rw [ex_size d h2, bl_extract, List.drop_zero, tlen_take _ _ _ (Nat.le_refl _), ex_ex d (tlen_le _ _)]
  rw [trim_size] at h1
  rw [tlen_step (l := bl d) (n := d.size) (Nat.le_refl _) h1 h2 h3]
theorem trim_mod (d : ByteArray) : (trimD d).size % 8 = d.size % 8 := by rw [trim_size]; exact tlen_mod _ _
theorem trim_le (d : ByteArray) : (trimD d).size ≤ d.size := by rw [trim_size]; exact tlen_le _ _
theorem trim_trim (d : ByteArray) : trimD (trimD d) = trimD d := by
  have := trim_ext (d := d) (u := (trimD d).size) (Nat.le_refl _) (trim_le d) (trim_mod d)
  rw [show d.extract 0 (trimD d).size = trimD d by unfold trimD; rw [ex_size d (tlen_le _ _)]] at this
  exact this
theorem lstN_take (l : List Nod) (m : Nat) : ∀ n, n ≤ m → n ≤ l.length → lstN (l.take m) n = lstN l n
  | 0, _, _ => rfl
  | n + 1, h1, h2 => by
    have e : (l.take m).getD n noN = l.getD n noN := by
      rw [List.getD_eq_getElem?_getD, List.getD_eq_getElem?_getD, List.getElem?_take, if_pos (by omega)]
    rw [lstN, lstN, e, lstN_take l m n (by omega) (by omega)]
theorem lstN_fix (l : List Nod) : ∀ n m, lstN l n ≤ m → m ≤ n → lstN l m = lstN l n
  | 0, m, h1, h2 => by rw [show m = 0 by omega]
  | n + 1, m, h1, h2 => by
    by_cases hm : m = n + 1
    · rw [hm]
    rw [lstN] at h1 ⊢
    split at h1
    · rename_i h0
      rw [if_pos h0]
      exact lstN_fix l n m h1 (by omega)
    · omega
theorem lst_take {l : List Nod} {v : Nat} (h1 : lstN l l.length ≤ v) (h2 : v ≤ l.length) : lstN (l.take v) (l.take v).length = lstN l l.length := by
  rw [List.length_take, Nat.min_eq_left h2, lstN_take l v v (Nat.le_refl _) h2]
  exact lstN_fix l _ _ h1 h2
theorem strp_strp (l : List Nod) : strp (strp l) = strp l := by
  have h := lst_take (l := l) (v := lstN l l.length) (Nat.le_refl _) (lstN_le _ _)
  unfold strp
  rw [h, List.take_take, Nat.min_self]
theorem cns_take (l : List Nod) (n : Nat) : cns (l.take n) = (cns l).take n := by rw [cns_map, cns_map, List.map_take]
theorem dmx_mod {l : List Nod} (h : ∀ x ∈ l, (dat x).size % 8 = 0) : dmx l % 8 = 0 := by
  induction l with
  | nil => rfl
  | cons y l ih =>
    rw [dmx]
    have h1 := h y (List.mem_cons_self ..)
    have h2 := ih fun x hx => h x (List.mem_cons_of_mem _ hx)
    have h3 := trim_mod (dat y)
    omega
/-- of items that are formed -/
theorem cut_props {i : List Nod} (h : allStr i = true) : (∀ x ∈ i, dmx (cni i) ≤ (dat x).size ∧ pmx (cni i) ≤ (prs x).length ∧ (trimD (dat x)).size ≤ dmx (cni i) ∧ lstN (cns (prs x)) (cns (prs x)).length ≤ pmx (cni i) ∧ (dat x).size % 8 = 0) ∧ dmx (cni i) % 8 = 0 := by
  obtain ⟨a, b, g1, g2, g3⟩ := items_form h
  have hm : ∀ y ∈ cni i, ∃ x ∈ i, y = cx x := fun y hy => by
    rw [cni_map] at hy
    obtain ⟨z, hz, rfl⟩ := List.mem_map.1 hy
    exact ⟨z, hz, rfl⟩
  have h1 : dmx (cni i) ≤ a := dmx_le fun y hy => by
    obtain ⟨x, hx, rfl⟩ := hm y hy
    exact g1 x hx ▸ Nat.le_refl _
  have h2 : pmx (cni i) ≤ b := pmx_le fun y hy => by
    obtain ⟨x, hx, rfl⟩ := hm y hy
    show (cns (prs x)).length ≤ b
    rw [cns_length, g2 x hx]; exact Nat.le_refl _
  have h8 : ∀ x ∈ i, (dat x).size % 8 = 0 := fun x hx => by
    obtain ⟨d, p, rfl, h⟩ := g3 x hx
    exact h
  refine ⟨fun x hx => ?_, dmx_mod fun y hy => ?_⟩
  · have hc : cx x ∈ cni i := by rw [cni_map]; exact List.mem_map_of_mem hx
    refine ⟨by rw [g1 x hx]; exact h1, by rw [g2 x hx]; exact h2, dmx_ge (cx x) hc, pmx_ge (cx x) hc, h8 x hx⟩
  · obtain ⟨x, hx, rfl⟩ := hm y hy
    exact h8 x hx
theorem cut_mem {i : List Nod} {y : Nod} (h : y ∈ cutI (cni i)) : ∃ x ∈ i, y = .mk 1 ((dat x).extract 0 (dmx (cni i))) ((cns (prs x)).take (pmx (cni i))) 0 0 [] := by
  unfold cutI at h
  obtain ⟨z, hz, rfl⟩ := List.mem_map.1 h
  rw [cni_map] at hz
  obtain ⟨x, hx, rfl⟩ := List.mem_map.1 hz
  exact ⟨x, hx, rfl⟩
theorem cut_str {i : List Nod} (h : allStr i = true) : allStr (cutI (cni i)) = true := by
  obtain ⟨h1, h2⟩ := cut_props h
  have hy : ∀ y ∈ cutI (cni i), strB y = true ∧ (dat y).size = dmx (cni i) ∧ (prs y).length = pmx (cni i) ∧ knd y = 1 := fun y hy => by
    obtain ⟨x, hx, rfl⟩ := cut_mem hy
    obtain ⟨q1, q2, q3, q4, q5⟩ := h1 x hx
    have e : ((dat x).extract 0 (dmx (cni i))).size = dmx (cni i) := ex_size _ q1
    refine ⟨?_, e, ?_, rfl⟩
    · simp only [strB]
      rw [e, h2]; rfl
    · show ((cns (prs x)).take (pmx (cni i))).length = _
      rw [List.length_take, cns_length]; exact Nat.min_eq_left q2
  rw [allStr_iff]
  refine ⟨?_, fun y hy' => (hy y hy').1⟩
  generalize cutI (cni i) = l at hy
  cases l with
  | nil => rfl
  | cons y l =>
    refine List.all_eq_true.2 fun z hz => ?_
    obtain ⟨_, a1, a2, _⟩ := hy y (List.mem_cons_self ..)
    obtain ⟨_, b1, b2, b3⟩ := hy z hz
    obtain ⟨k, d, p, s, c, i⟩ := z
    obtain ⟨k', d', p', s', c', i'⟩ := y
    simp only [likeB, Bool.and_eq_true, decide_eq_true_eq]
    exact ⟨b3, b1.trans a1.symm, b2.trans a2.symm⟩
theorem okSi_of : ∀ {a : Int} {l : List Nod}, (∀ x ∈ l, okSs a (prs x) = true) → okSi a l = true
  | _, [], _ => rfl
  | a, .mk k d p s c i :: l, h => by
    rw [okSi, Bool.and_eq_true]
    exact ⟨h _ (List.mem_cons_self ..), okSi_of fun x hx => h x (List.mem_cons_of_mem _ hx)⟩
theorem okSs_take {a : Int} {l : List Nod} (n : Nat) (h : okSs a l = true) : okSs a (l.take n) = true := okSs_iff.2 fun x hx => okSs_iff.1 h x (List.mem_of_mem_take hx)
theorem okS_cn : ∀ n, ∀ deep : Int, okS deep n = true → okS deep (cn n) = true := by
  refine Nod.ind2 fun k d p s c i hp hi => ?_
  intro deep hS
  obtain ⟨hSp, hSi⟩ := okS_parts hS
  have hP : okSs (deep - 1) (cns p) = true := okSs_iff.2 fun x hx => by
    rw [cns_map] at hx
    obtain ⟨n, hn, rfl⟩ := List.mem_map.1 hx
    exact hp n hn _ (okSs_iff.1 hSp n hn)
  have hd : k ≠ 0 → decide (1 ≤ deep) = true := fun h => by
    rw [okS, decide_eq_false h, bif_false, Bool.and_eq_true] at hS
    exact hS.1
  rcases okS_form hS with h | h | h
  · obtain ⟨rfl, h1, rfl, rfl, rfl, rfl⟩ := h
    exact hS
  · obtain ⟨rfl, h1, rfl, rfl, rfl⟩ := str_c h
    rw [cn_str, okS, decide_eq_false (show ¬ (1 : Int) = 0 by omega), bif_false, hd (by omega)]
    have e1 : strB (.mk 1 (trimD d) (strp (cns p)) 0 0 []) = true := by
      simp only [strB]
      rw [decide_eq_true (show (trimD d).size % 8 = 0 by rw [trim_mod]; exact h1)]; rfl
    have e2 : okSs (deep - 1) (strp (cns p)) = true := okSs_take _ hP
    rw [e1, e2]; rfl
  · obtain ⟨rfl, h1, h2, h3⟩ := lst_c h
    rcases h3 with ⟨rfl, h4, h5, rfl⟩ | ⟨rfl, h4, h5, rfl, h6⟩ | ⟨h4, rfl, rfl, h5⟩
    · have e : cn (.mk 2 d p 6 c []) = .mk 2 (.mk (.mk [])) (cns p) 6 c [] := by rw [cn]; rfl
      rw [e, okS, decide_eq_false (show ¬ (2 : Int) = 0 by omega), bif_false, hd (by omega), hP]
      have e1 : lstB (.mk 2 (.mk (.mk [])) (cns p) 6 c []) = true := by
        rw [emp_of h4] at h
        simp only [lstB] at h ⊢
        rw [cns_length]; exact h
      rw [e1]; simp [okSi]
    · have e : cn (.mk 2 d [] 7 c i) = .mk 2 (.mk (.mk [])) [] 7 c (cutI (cni i)) := by rw [cn]; rfl
      rw [e, okS, decide_eq_false (show ¬ (2 : Int) = 0 by omega), bif_false, hd (by omega)]
      have e1 : lstB (.mk 2 (.mk (.mk [])) [] 7 c (cutI (cni i))) = true := by
        rw [emp_of h5] at h
        simp only [lstB] at h ⊢
        rw [cut_str h4]
        have : (cutI (cni i)).length = i.length := by unfold cutI; rw [List.length_map, cni_length]
        rw [this]
        rw [h4] at h
        exact h
      have e2 : okSi (deep - 1) (cutI (cni i)) = true := okSi_of fun y hy => by
        obtain ⟨x, hx, rfl⟩ := cut_mem hy
        refine okSs_take _ (okSs_iff.2 fun z hz => ?_)
        rw [cns_map] at hz
        obtain ⟨n, hn, rfl⟩ := List.mem_map.1 hz
        exact (hi x hx).2 n hn _ (okSs_iff.1 (okSi_mem hSi x hx) n hn)
      rw [e1, e2]; simp [okSs]
    · have e : cn (.mk 2 d [] s c []) = .mk 2 d [] s c [] := by
        rw [cn, decide_eq_false (show ¬ (2 : Int) = 1 by omega), decide_eq_false (show ¬ s = 6 by omega), decide_eq_false (show ¬ s = 7 by omega), Bool.and_false, bif_false, bif_false, bif_false]
      rw [e]; exact hS
theorem cn_cn : ∀ n, ∀ deep : Int, okS deep n = true → cn (cn n) = cn n := by
  refine Nod.ind2 fun k d p s c i hp hi => ?_
  intro deep hS
  obtain ⟨hSp, hSi⟩ := okS_parts hS
  have hP : cns (cns p) = cns p := by
    rw [cns_map (cns p), cns_map p, List.map_map]
    exact List.map_congr_left fun n hn => hp n hn _ (okSs_iff.1 hSp n hn)
  rcases okS_form hS with h | h | h
  · obtain ⟨rfl, h1, rfl, rfl, rfl, rfl⟩ := h
    rfl
  · obtain ⟨rfl, h1, rfl, rfl, rfl⟩ := str_c h
    rw [cn_str, cn_str, trim_trim]
    have e : cns (strp (cns p)) = strp (cns p) := by unfold strp; rw [cns_take, hP]
    rw [e, strp_strp]
  · obtain ⟨rfl, h1, h2, h3⟩ := lst_c h
    rcases h3 with ⟨rfl, h4, h5, rfl⟩ | ⟨rfl, h4, h5, rfl, h6⟩ | ⟨h4, rfl, rfl, h5⟩
    · have e : ∀ d p, cn (.mk 2 d p 6 c []) = .mk 2 (.mk (.mk [])) (cns p) 6 c [] := fun d p => by rw [cn]; rfl
      rw [e, e, hP]
    · have e : ∀ d i, cn (.mk 2 d [] 7 c i) = .mk 2 (.mk (.mk [])) [] 7 c (cutI (cni i)) := fun d i => by rw [cn]; rfl
      rw [e, e]
      obtain ⟨q1, q2⟩ := cut_props h4
      have hy : ∀ x ∈ i, cns (prs x) = cns (cns (prs x)) := fun x hx => by
        rw [cns_map (cns (prs x)), cns_map (prs x), List.map_map]
        exact (List.map_congr_left fun n hn => (hi x hx).2 n hn _ (okSs_iff.1 (okSi_mem hSi x hx) n hn)).symm
      have e1 : cni (cutI (cni i)) = cutI (cni i) := by
        rw [cni_map (cutI (cni i))]
        conv => rhs; rw [← List.map_id (cutI (cni i))]
        refine List.map_congr_left fun y hym => ?_
        obtain ⟨x, hx, rfl⟩ := cut_mem hym
        show Nod.mk 1 ((dat x).extract 0 (dmx (cni i))) (cns ((cns (prs x)).take (pmx (cni i)))) 0 0 [] = Nod.mk 1 ((dat x).extract 0 (dmx (cni i))) ((cns (prs x)).take (pmx (cni i))) 0 0 []
        rw [cns_take, ← hy x hx]
      rw [e1]
      -- as long as they were
      have e2 : dmx (cutI (cni i)) = dmx (cni i) := by
        have : ∀ l : List Nod, (∀ x ∈ l, x ∈ i) → dmx ((cni l).map (cutX (dmx (cni i)) (pmx (cni i)))) = dmx (cni l) := by
          intro l
          induction l with
          | nil => exact fun _ => rfl
          | cons x l ih =>
            intro hl
            have hx := hl x (List.mem_cons_self ..)
            obtain ⟨a1, a2, a3, a4, a5⟩ := q1 x hx
            have ec : cni (x :: l) = cx x :: cni l := by rw [cni_map, cni_map, List.map_cons]
            rw [ec, List.map_cons, dmx, dmx, ih fun y hy => hl y (List.mem_cons_of_mem _ hy)]
            have : trimD (dat (cutX (dmx (cni i)) (pmx (cni i)) (cx x))) = trimD (dat (cx x)) := trim_ext (d := dat x) a3 a1 (by omega)
            rw [this]
        exact this i fun _ h => h
      have e3 : pmx (cutI (cni i)) = pmx (cni i) := by
        have : ∀ l : List Nod, (∀ x ∈ l, x ∈ i) → pmx ((cni l).map (cutX (dmx (cni i)) (pmx (cni i)))) = pmx (cni l) := by
          intro l
          induction l with
          | nil => exact fun _ => rfl
          | cons x l ih =>
            intro hl
            have hx := hl x (List.mem_cons_self ..)
            obtain ⟨a1, a2, a3, a4, a5⟩ := q1 x hx
            have ec : cni (x :: l) = cx x :: cni l := by rw [cni_map, cni_map, List.map_cons]
            rw [ec, List.map_cons, pmx, pmx, ih fun y hy => hl y (List.mem_cons_of_mem _ hy)]
            have : lstN (prs (cutX (dmx (cni i)) (pmx (cni i)) (cx x))) (prs (cutX (dmx (cni i)) (pmx (cni i)) (cx x))).length = lstN (prs (cx x)) (prs (cx x)).length := lst_take (l := cns (prs x)) a4 (by rw [cns_length]; exact a2)
            rw [this]
        exact this i fun _ h => h
      have e4 : cutI (cutI (cni i)) = cutI (cni i) := by
        show (cutI (cni i)).map (cutX (dmx (cutI (cni i))) (pmx (cutI (cni i)))) = _
        rw [e2, e3]
        conv => rhs; rw [← List.map_id (cutI (cni i))]
        refine List.map_congr_left fun y hym => ?_
        obtain ⟨x, hx, rfl⟩ := cut_mem hym
        show Nod.mk 1 (((dat x).extract 0 (dmx (cni i))).extract 0 (dmx (cni i))) (((cns (prs x)).take (pmx (cni i))).take (pmx (cni i))) 0 0 [] = Nod.mk 1 ((dat x).extract 0 (dmx (cni i))) ((cns (prs x)).take (pmx (cni i))) 0 0 []
        rw [ex_ex _ (Nat.le_refl _), List.take_take, Nat.min_self]
      rw [e4]
    · have e : cn (.mk 2 d [] s c []) = .mk 2 d [] s c [] := by
        rw [cn, decide_eq_false (show ¬ (2 : Int) = 1 by omega), decide_eq_false (show ¬ s = 6 by omega), decide_eq_false (show ¬ s = 7 by omega), Bool.and_false, bif_false, bif_false, bif_false]
      rw [e, e]
theorem wdT_map {f : Nod → Nod} : ∀ {l : List Nod}, (∀ n ∈ l, wdN (f n) ≤ wdN n) → wdT (l.map f) ≤ wdT l
  | [], _ => Nat.le_refl _
  | n :: l, h => by
    rw [List.map_cons, wdT, wdT]
    have h1 := h n (List.mem_cons_self ..)
    have h2 := wdT_map fun m hm => h m (List.mem_cons_of_mem _ hm)
    omega
theorem wdT_take : ∀ {l : List Nod} {m : Nat}, wdT (l.take m) ≤ wdT l
  | [], m => by rw [List.take_nil]; exact Nat.le_refl _
  | n :: l, 0 => by rw [List.take_zero, wdT]; exact Nat.zero_le _
  | n :: l, m + 1 => by
    rw [List.take_succ_cons, wdT, wdT]
    have := wdT_take (l := l) (m := m)
    omega
theorem wd_cn : ∀ n, ∀ deep : Int, okS deep n = true → wdN (cn n) ≤ wdN n := by
  refine Nod.ind2 fun k d p s c i hp hi => ?_
  intro deep hS
  obtain ⟨hSp, hSi⟩ := okS_parts hS
  have hP : wdT (cns p) ≤ wdT p := by rw [cns_map]; exact wdT_map fun n hn => hp n hn _ (okSs_iff.1 hSp n hn)
  have hl := cns_length p
  rcases okS_form hS with h | h | h
  · obtain ⟨rfl, h1, rfl, rfl, rfl, rfl⟩ := h
    exact Nat.le_refl _
  · obtain ⟨rfl, h1, rfl, rfl, rfl⟩ := str_c h
    rw [cn_str]
    have q1 := trim_le d
    have q2 := strp_length (cns p)
    have q3 := lstN_le (cns p) (cns p).length
    have q4 := wdT_take (l := cns p) (m := lstN (cns p) (cns p).length)
    simp only [wdN, wdT, if_neg (show ¬ (1 : Int) = 0 by decide), if_neg (show ¬ (0 : Int) = 7 by decide)]
    unfold strp at q2 ⊢
    omega
  · obtain ⟨rfl, h1, h2, h3⟩ := lst_c h
    rcases h3 with ⟨rfl, h4, h5, rfl⟩ | ⟨rfl, h4, h5, rfl, h6⟩ | ⟨h4, rfl, rfl, h5⟩
    · have e : cn (.mk 2 d p 6 c []) = .mk 2 (.mk (.mk [])) (cns p) 6 c [] := by rw [cn]; rfl
      rw [e]
      simp only [wdN, wdT, if_neg (show ¬ (2 : Int) = 0 by decide), if_neg (show ¬ (6 : Int) = 7 by decide)]
      show (0 + 7) / 8 + _ + _ + _ + _ ≤ _
      omega
    · have e : cn (.mk 2 d [] 7 c i) = .mk 2 (.mk (.mk [])) [] 7 c (cutI (cni i)) := by rw [cn]; rfl
      rw [e]
      have q : wdT (cutI (cni i)) ≤ wdT i := by
        unfold cutI
        generalize dmx (cni i) = u
        generalize pmx (cni i) = v
        rw [cni_map, List.map_map]
        refine wdT_map fun x hx => ?_
        obtain ⟨a, b, g1, g2, g3⟩ := items_form h4
        obtain ⟨d', p', rfl, hd8⟩ := g3 x hx
        have hq := (hi _ hx).2
        show wdN (cutX u v (cx (.mk 1 d' p' 0 0 []))) ≤ _
        unfold cutX cx
        have q1 : wdT (cns p') ≤ wdT p' := by rw [cns_map]; exact wdT_map fun n hn => hq n hn _ (okSs_iff.1 (okSi_mem hSi _ hx) n hn)
        have q2 := wdT_take (l := cns p') (m := v)
        have q3 := cns_length p'
        simp only [dat, prs, wdN, wdT, ByteArray.size_extract, List.length_take, if_neg (show ¬ (1 : Int) = 0 by decide), if_neg (show ¬ (0 : Int) = 7 by decide)]
        omega
      simp only [wdN, wdT, if_neg (show ¬ (2 : Int) = 0 by decide), if_true]
      show (0 + 7) / 8 + _ + _ + _ + _ ≤ _
      simp only [List.length_nil]
      omega
    · have e : cn (.mk 2 d [] s c []) = .mk 2 d [] s c [] := by
        rw [cn, decide_eq_false (show ¬ (2 : Int) = 1 by omega), decide_eq_false (show ¬ s = 6 by omega), decide_eq_false (show ¬ s = 7 by omega), Bool.and_false, bif_false, bif_false, bif_false]
      rw [e]; exact Nat.le_refl _
theorem okB_cn {n : Nod} (h : okB n = true) : okB (cn n) = true := by
  have h1 := okB_okS h
  unfold okB at h ⊢
  rw [Bool.and_eq_true, decide_eq_true_eq] at h ⊢
  exact ⟨okS_cn n 8 h1, Nat.lt_of_le_of_lt (wd_cn n 8 h1) h.2⟩
theorem al_cn {n : Nod} (h : okB n = true) : alB n (cn n) = true := by
  unfold alB
  rw [h, okB_cn h, cn_cn n 8 (okB_okS h), eqN_refl]; rfl
theorem qnS_of (xs ys : List Nod) (hx : xs.length ≤ 140737488351232) (he : ∀ n ∈ xs, ∀ m ∈ ys, (D T).call F_laws_qnNode [encN n, encN m] = bo (eqN n m)) :
    (D T).call F_laws_qnNodes [.sl 6 (encNs xs), .sl 6 (encNs ys)] = bo (eqNs xs ys) := by
  rw [c_laws_qnNodes, t_laws_qnNodes]
  simp only [encNs_length]
  by_cases h : ys.length = xs.length
  case neg => rw [dec_len h, eqNs_ne h]; rfl
  have hL : ∀ i, i ≤ xs.length → L_laws_qnNodes_0 (D T) (encNs xs) (encNs ys) (i : Int) = bo (eqNs (xs.drop i) (ys.drop i)) := by
    refine down ?_ fun i hi ih => ?_
    · rw [L_laws_qnNodes_0_eq, tL_laws_qnNodes_0, encNs_length, nlt_ofNat, eqNs_drop_end h]; rfl
    · rw [L_laws_qnNodes_0_eq, tL_laws_qnNodes_0, encNs_length, lt_ofNat hi, bif_true, ix_at (encNs_get xs i hi), unSt_encN, ix_at (encNs_get ys i (by omega)), unSt_encN, he _ (List.getElem_mem hi) _ (List.getElem_mem (by omega)), Option.bind_some, unB_mk, next_i (by omega), ih, eqNs_drop hi (by omega)]
      cases eqN xs[i] (ys[i]'(by omega)) <;> rfl
  rw [dec_len_eq h, Bool.not_true, bif_false]
  exact hL 0 (Nat.zero_le _)
theorem qnNode_is : ∀ n, okN n → ∀ m, okN m → (D T).call F_laws_qnNode [encN n, encN m] = bo (eqN n m) := by
  refine Nod.ind fun k d p s c i hp hi => ?_
  intro h m h'
  obtain ⟨k', d', p', s', c', i'⟩ := m
  unfold okN at h h'
  have h1 := qnS_of p p' (reach_lt (b := 87) h.2.1) fun n hn m hm => hp n hn (okNs_mem.1 h.2.2.2.1 n hn) m (okNs_mem.1 h'.2.2.2.1 m hm)
  have h2 := qnS_of i i' (reach_lt (b := 87) h.2.2.1) fun n hn m hm => hi n hn (okNs_mem.1 h.2.2.2.2 n hn) m (okNs_mem.1 h'.2.2.2.2 m hm)
  unfold encN
  rw [c_laws_qnNode, t_laws_qnNode, h1, h2]
  simp only [Option.bind_some, unB_mk, eqN]
  cases decide (k = k') <;> cases sEq d d' <;> cases eqNs p p' <;> cases decide (s = s') <;> cases decide (c = c') <;> cases eqNs i i' <;> rfl
theorem ba_append_assoc (a b c : ByteArray) : (a ++ b) ++ c = a ++ (b ++ c) := ByteArray.append_assoc
theorem ba_size (a b : ByteArray) : (a ++ b).size = a.size + b.size := ByteArray.size_append
def repB (s : ByteArray) : Nat → ByteArray
  | 0 => .mk (.mk [])
  | n + 1 => s ++ repB s n
theorem ba_nil_append (a : ByteArray) : (.mk (.mk [])) ++ a = a := ByteArray.empty_append
theorem ba_append_nil (a : ByteArray) : a ++ (.mk (.mk [])) = a := ByteArray.append_empty
theorem repB_size (s : ByteArray) : ∀ n, (repB s n).size = s.size * n
  | 0 => rfl
  | n + 1 => by rw [repB, ba_size, repB_size s n, Nat.mul_succ]; omega
theorem repB_double (s : ByteArray) : ∀ n, repB (s ++ s) n = repB s (2 * n)
  | 0 => rfl
  | n + 1 => by
    rw [show 2 * (n + 1) = (2 * n + 1) + 1 by omega, repB, repB, repB, repB_double s n, ba_append_assoc]
theorem tmod2 {n : Nat} : (Int.tmod (n : Int) 2) = ((n % 2 : Nat) : Int) := by
  rw [show (2 : Int) = ((2 : Nat) : Int) from rfl, Int.ofNat_tmod]
theorem tdiv2 {n : Nat} : (Int.tdiv (n : Int) 2) = ((n / 2 : Nat) : Int) := by
  rw [show (2 : Int) = ((2 : Nat) : Int) from rfl, ← Int.ofNat_tdiv]
theorem many_loop : ∀ (n : Nat) (s out : ByteArray), s.size * n ≤ 1099511627776 → n ≤ 1099511627776 → out.size + s.size * n ≤ 4398046511104 →
    L_spec_l1Many_0 (D T) s (n : Int) out = some (encS (out ++ repB s n), []) := by
  intro n
  induction n using Nat.strongRecOn with
  | ind n ih =>
    intro s out h1 h2 h3
    rw [L_spec_l1Many_0_eq, tL_spec_l1Many_0]
    by_cases hn : n = 0
    · subst hn
      show some (encS out, []) = _
      rw [repB, ba_append_nil]
    have hs : s.size ≤ s.size * n := Nat.le_mul_of_pos_right _ (by omega)
    have hd : 2 * (n / 2) + n % 2 = n := Nat.div_add_mod n 2
    have hm : (s ++ s).size * (n / 2) ≤ s.size * n := by
      rw [ba_size, ← Nat.two_mul, Nat.mul_assoc, Nat.mul_left_comm]
      exact Nat.mul_le_mul_left _ (by omega)
    have w : IntKind.wrap .i64 (Int.tdiv (n : Int) 2) = ((n / 2 : Nat) : Int) := by rw [tdiv2, wrap_id (by omega) (by omega)]
    rw [decide_eq_true (show (0 : Int) < (n : Int) by omega), bif_true, tmod2, decide_eq_true (show s.size + s.size ≤ 9223372036854775807 by omega), decide_eq_true (show out.size + s.size ≤ 9223372036854775807 by omega)]
    simp only [bif_true]
    rw [w]
    by_cases ho : n % 2 = 1
    · have e1 : s.size * n = s.size * (2 * (n / 2)) + s.size := by
        have : s.size * n = s.size * (2 * (n / 2) + 1) := by rw [show 2 * (n / 2) + 1 = n by omega]
        rw [this, Nat.mul_add, Nat.mul_one]
      have e2 : (s ++ s).size * (n / 2) = s.size * (2 * (n / 2)) := by rw [ba_size, ← Nat.two_mul, Nat.mul_assoc, Nat.mul_left_comm]
      rw [decide_eq_true (show ((n % 2 : Nat) : Int) = 1 by omega), bif_true, ih (n / 2) (by omega) (s ++ s) (out ++ s) (by omega) (by omega) (by rw [ba_size out s]; omega), repB_double, ba_append_assoc]
      rw [show n = 2 * (n / 2) + 1 by omega]
      rw [show (2 * (n / 2) + 1) / 2 = n / 2 by omega, repB]
    · rw [decide_eq_false (show ¬ ((n % 2 : Nat) : Int) = 1 by omega), bif_false, ih (n / 2) (by omega) (s ++ s) out (by omega) (by omega) (by omega), repB_double]
      rw [show 2 * (n / 2) = n by omega]
theorem many_is (s : ByteArray) (n : Nat) (h1 : s.size * n ≤ 1099511627776) (h2 : n ≤ 1099511627776) : (D T).call F_spec_l1Many [.sc (.string s), .sc (.int .i64 (n : Nat))] = some (encS (repB s n), []) := by
  rw [c_spec_l1Many, t_spec_l1Many, many_loop n s _ h1 h2 (by show 0 + _ ≤ _; omega), ba_nil_append]
def leL : Int → Nat → List UInt8
  | _, 0 => []
  | n, k + 1 => UInt8.ofNat (IntKind.wrap .u8 n).toNat :: leL (n.fdiv (Int.pow 2 8)) k
theorem leL_length : ∀ (n : Int) (k : Nat), (leL n k).length = k
  | _, 0 => rfl
  | n, k + 1 => by rw [leL, List.length_cons, leL_length]
def encU (m : Int) : V := .sc (.int .u8 m)
theorem unBytes_encU {R : Type} : ∀ (l : List Int) (K : List UInt8 → Option R), unBytes (l.map encU) K = K (l.map fun m => UInt8.ofNat m.toNat)
  | [], K => rfl
  | m :: l, K => by
    rw [List.map_cons, unBytes]
    show unI .u8 (.sc (.int .u8 m)) _ = _
    rw [unI_mk, unBytes_encU l]; rfl
theorem bytes_loop1 (size : Nat) (hs : size ≤ 1000) : ∀ i, i ≤ size → ∀ (n : Int) (l : List Int), l.length = i → L_spec_l1Bytes_1 (D T) n (size : Nat) (i : Nat) (l.map encU) = some (encS (.mk (.mk (l.map (fun m => UInt8.ofNat m.toNat) ++ leL n (size - i)))), []) := by
  refine down (fun n l hl => ?_) fun i hi ih n l hl => ?_
  · rw [L_spec_l1Bytes_1_eq, tL_spec_l1Bytes_1, decide_eq_false (show ¬ (size : Int) < (size : Int) by omega), bif_false, unBytes_encU, Nat.sub_self, leL, List.append_nil]; rfl
  · have e : size - i = (size - (i + 1)) + 1 := by omega
    rw [L_spec_l1Bytes_1_eq, tL_spec_l1Bytes_1, decide_eq_true (show (i : Int) < (size : Int) by omega), bif_true, List.length_map, hl, decide_eq_true (show (i + 1) * 1 ≤ 140737488355328 by omega), bif_true, next_i (by omega)]
    have := ih (n.fdiv (Int.pow 2 8)) (l ++ [IntKind.wrap .u8 n]) (by simp [hl])
    rw [List.map_append, List.map_append] at this
    rw [e, leL]
    simpa [encU] using this
theorem bytes_is (n : Int) (size : Nat) (hs : size ≤ 1000) : (D T).call F_spec_l1Bytes [.sc (.int .i64 n), .sc (.int .i64 (size : Nat))] = some (encS (.mk (.mk (leL n size))), []) := by
  rw [c_spec_l1Bytes, t_spec_l1Bytes, L_spec_l1Bytes_0_eq, tL_spec_l1Bytes_0]
  by_cases h0 : size = 0
  · subst h0; rfl
  rw [decide_eq_true (show (0 : Int) < (size : Int) by omega), bif_true]
  have := bytes_loop1 size hs 1 (by omega) (n.fdiv (Int.pow 2 8)) [IntKind.wrap .u8 n] rfl
  rw [show size = (size - 1) + 1 by omega, leL]
  rw [show (size - 1) + 1 = size by omega]
  exact this
/-- a code's bytes -/
def Byt (l : List V) : Prop := ∀ x ∈ l, ∃ m : Nat, m < 256 ∧ x = .sc (.int .u8 (m : Int))
def Bts (b : List V) : Prop := b.length ≤ 2000 ∧ ∀ x ∈ b, ∃ m : Nat, m < 256 ∧ x = .sc (.int .u8 (m : Int))
abbrev rd (b : List V) (p : Nat) : V := .io [.sl 1 b, .sc (.int .i64 (p : Int))]
theorem bts_get {b : List V} (h : Bts b) (i : Nat) (hi : i < b.length) : ∃ m : Nat, m < 256 ∧ b[i]? = some (.sc (.int .u8 (m : Int))) := by
  obtain ⟨m, h1, h2⟩ := h.2 _ (List.getElem_mem hi)
  exact ⟨m, h1, by rw [List.getElem?_eq_getElem hi, h2]⟩
theorem xor_val {x y : Nat} (hx : x < 2 ^ 62) (hy : y < 2 ^ 62) : BitVec.toNat (BitVec.ofInt 64 (x : Int) ^^^ BitVec.ofInt 64 (y : Int)) = x ^^^ y := by
  rw [BitVec.toNat_xor, BitVec.toNat_ofInt, BitVec.toNat_ofInt]
  have e : ∀ z : Nat, z < 2 ^ 62 → ((z : Int) % ((2 ^ 64 : Nat) : Int)).toNat = z := fun z hz => by
    have : (2 : Nat) ^ 64 = 18446744073709551616 := by decide
    have : (2 : Nat) ^ 62 = 4611686018427387904 := by decide
    omega
  rw [e x hx, e y hy]
theorem pick_is {b : List V} (hb : Bts b) (p : Nat) (hp : p ≤ 1099511627776) (n : Int) : ∃ k : Nat, (D T).call F_spec_l1Rd_pick [rd b p, .sc (.int .i64 n)] = some (.sc (.int .i64 (k : Nat)), [rd b (p + 1)]) ∧ (1 ≤ n → (k : Int) < n) ∧ (n < 1 → k = 0) := by
  have hl := hb.1
  have w1 : IntKind.wrap .i64 ((p : Int) + 1) = ((p + 1 : Nat) : Int) := by rw [wrap_id (by omega) (by omega)]; omega
  have w2 : IntKind.wrap .i64 (((p + 1 : Nat) : Int) - 1) = (p : Int) := by rw [wrap_id (by omega) (by omega)]; omega
  rw [c_spec_l1Rd_pick, t_spec_l1Rd_pick, w1, w2]
  by_cases hn : n < 1
  · rw [decide_eq_true hn, bif_true]
    exact ⟨0, rfl, fun h => by omega, fun _ => rfl⟩
  rw [decide_eq_false hn, bif_false]
  have hz : decide (n = 0) = false := decide_eq_false (by omega)
  by_cases h0 : b.length = 0
  · rw [h0]
    exact ⟨0, rfl, fun h => by omega, fun h => rfl⟩
  have h0' : decide (Int.ofNat b.length = 0) = false := decide_eq_false (by rw [show Int.ofNat b.length = (b.length : Int) from rfl]; omega)
  have fin : ∀ k : Nat, ∃ k' : Nat, (some (.sc (.int .i64 (Int.tmod (k : Int) n)), [rd b (p + 1)]) : Option Res) = some (.sc (.int .i64 (k' : Nat)), [rd b (p + 1)]) ∧ (1 ≤ n → (k' : Int) < n) ∧ (n < 1 → k' = 0) := fun k => by
    obtain ⟨n', rfl⟩ := Int.eq_ofNat_of_zero_le (show 0 ≤ n by omega)
    refine ⟨k % n', by rw [Int.ofNat_tmod], fun _ => ?_, fun h => by omega⟩
    have := Nat.mod_lt k (show n' > 0 by omega)
    omega
  rw [h0', bif_false]
  by_cases hlt : p < b.length
  · obtain ⟨m, hm, hg⟩ := bts_get hb p hlt
    rw [decide_eq_true (show (p : Int) < Int.ofNat b.length by rw [show Int.ofNat b.length = (b.length : Int) from rfl]; omega), bif_true, ix_at hg, ce_sc, unI_mk, hz]
    simp only [Bool.not_false, bif_true]
    rw [wrap_id (n := (m : Int)) (by omega) (by omega)]
    exact fin m
  · rw [decide_eq_false (show ¬ (p : Int) < Int.ofNat b.length by rw [show Int.ofNat b.length = (b.length : Int) from rfl]; omega), bif_false]
    simp only [Bool.not_false, bif_true, hz]
    have i1 : Int.tmod (p : Int) (Int.ofNat b.length) = ((p % b.length : Nat) : Int) := by rw [show Int.ofNat b.length = (b.length : Int) from rfl, Int.ofNat_tmod]
    have w3 : IntKind.wrap .i64 (IntKind.wrap .i64 ((p : Int) * 7) + 3) = ((p * 7 + 3 : Nat) : Int) := by rw [wrap_id (n := (p : Int) * 7) (by omega) (by omega), wrap_id (by omega) (by omega)]; omega
    have i2 : Int.tmod ((p * 7 + 3 : Nat) : Int) (Int.ofNat b.length) = (((p * 7 + 3) % b.length : Nat) : Int) := by rw [show Int.ofNat b.length = (b.length : Int) from rfl, Int.ofNat_tmod]
    obtain ⟨m3, hm3, hg3⟩ := bts_get hb (p % b.length) (Nat.mod_lt _ (by omega))
    obtain ⟨m5, hm5, hg5⟩ := bts_get hb ((p * 7 + 3) % b.length) (Nat.mod_lt _ (by omega))
    rw [i1, ix_at hg3, ce_sc, unI_mk, w3, i2, ix_at hg5, ce_sc, unI_mk]
    have hq : p / b.length ≤ p := Nat.div_le_self _ _
    have d1 : Int.tdiv (p : Int) (Int.ofNat b.length) = ((p / b.length : Nat) : Int) := by rw [show Int.ofNat b.length = (b.length : Int) from rfl, ← Int.ofNat_tdiv]
    generalize p / b.length = q at hq d1
    have wx : IntKind.wrap .i64 (IntKind.wrap .i64 (IntKind.wrap .i64 (IntKind.wrap .i64 (IntKind.wrap .i64 (m3 : Int) * 131) + IntKind.wrap .i64 (IntKind.wrap .i64 (m5 : Int) * 1117)) + IntKind.wrap .i64 ((p : Int) * 29)) + IntKind.wrap .i64 (IntKind.wrap .i64 (Int.tdiv (p : Int) (Int.ofNat b.length)) * 53)) = ((m3 * 131 + m5 * 1117 + p * 29 + q * 53 : Nat) : Int) := by
      rw [d1]
      clear d1
      rw [wrap_id (n := (m3 : Int)) (by omega) (by omega), wrap_id (n := (m5 : Int)) (by omega) (by omega), wrap_id (n := (m3 : Int) * 131) (by omega) (by omega), wrap_id (n := (m5 : Int) * 1117) (by omega) (by omega), wrap_id (n := (m3 : Int) * 131 + (m5 : Int) * 1117) (by omega) (by omega),
        wrap_id (n := (p : Int) * 29) (by omega) (by omega), wrap_id (n := (m3 : Int) * 131 + (m5 : Int) * 1117 + (p : Int) * 29) (by omega) (by omega), wrap_id (n := (q : Int)) (by omega) (by omega), wrap_id (n := (q : Int) * 53) (by omega) (by omega), wrap_id (by omega) (by omega)]
      omega
    rw [wx]
    generalize hX : m3 * 131 + m5 * 1117 + p * 29 + q * 53 = X
    have hXb : X < 2 ^ 60 := by have : (2 : Nat) ^ 60 = 1152921504606846976 := by decide
                                omega
    have d2 : IntKind.wrap .i64 (Int.tdiv (X : Int) 64) = ((X / 64 : Nat) : Int) := by
      have : (2 : Nat) ^ 60 = 1152921504606846976 := by decide
      rw [show (64 : Int) = ((64 : Nat) : Int) from rfl, ← Int.ofNat_tdiv, wrap_id (by omega) (by omega)]
    have h64 : X / 64 ≤ X := Nat.div_le_self _ _
    have p62 : (2 : Nat) ^ 62 = 4611686018427387904 := by decide
    have p60 : (2 : Nat) ^ 60 = 1152921504606846976 := by decide
    have hxor : X ^^^ X / 64 < 2 ^ 60 := Nat.xor_lt_two_pow hXb (by omega)
    rw [d2, xor_val (by omega) (by omega)]
    rw [show Int.ofNat (X ^^^ X / 64) = ((X ^^^ X / 64 : Nat) : Int) from rfl, wrap_id (n := ((X ^^^ X / 64 : Nat) : Int)) (by omega) (by omega)]
    exact fin _
/-- what is drawn with a box comes back with it -/
theorem un_rd {R : Type} {b : List V} {p : Nat} {K : List V → List V → Option R} : unOut [rd b p] K = K [.sl 1 b, .sc (.int .i64 (p : Int))] [] := rfl
theorem ok_rd {b : List V} {p : Nat} : (Nat.beq (List.length [V.sl 1 b, .sc (.int .i64 (p : Int))]) 2 && List.all [V.sl 1 b, .sc (.int .i64 (p : Int))] cellOk) = true := rfl
theorem al_rd {b : List V} {p : Nat} : List.all [V.sl 1 b, .sc (.int .i64 (p : Int))] cellOk = true := rfl
theorem l2_rd {b : List V} {p : Nat} : Nat.beq (List.length [V.sl 1 b, .sc (.int .i64 (p : Int))]) 2 = true := rfl
theorem of_is {b : List V} (hb : Bts b) (p : Nat) (hp : p ≤ 1099511627776) (l : List ByteArray) (h0 : 0 < l.length) (hl : l.length ≤ 1000) : ∃ s ∈ l, (D T).call F_spec_l1Rd_of [rd b p, .sl 1 (l.map encS)] = some (encS s, [rd b (p + 1)]) := by
  obtain ⟨k, hk, h1, _⟩ := pick_is hb p hp (Int.ofNat (l.map encS).length)
  rw [List.length_map] at h1
  have hkl : k < l.length := by have := h1 (by rw [show Int.ofNat l.length = (l.length : Int) from rfl]; omega); rw [show Int.ofNat l.length = (l.length : Int) from rfl] at this; omega
  refine ⟨l[k], List.getElem_mem hkl, ?_⟩
  rw [c_spec_l1Rd_of, t_spec_l1Rd_of, hk, Option.bind_some, un_rd, ok_rd, bif_true, unEnd_mk, unI_mk, l2_rd, bif_true]
  simp only [List.getD_cons_zero, List.getD_cons_succ, unL_mk, unI_mk]
  rw [ix_at (x := encS l[k]) (by rw [List.getElem?_map, List.getElem?_eq_getElem hkl]; rfl)]
  rfl
theorem one_is {b : List V} (hb : Bts b) (p : Nat) (hp : p ≤ 1099511627776) (l : List Int) (h0 : 0 < l.length) (hl : l.length ≤ 1000) : ∃ s ∈ l, (D T).call F_spec_l1Rd_one [rd b p, .sl 1 (l.map fun m => .sc (.int .i64 m))] = some (.sc (.int .i64 s), [rd b (p + 1)]) := by
  obtain ⟨k, hk, h1, _⟩ := pick_is hb p hp (Int.ofNat (l.map fun m => V.sc (.int .i64 m)).length)
  rw [List.length_map] at h1
  have hkl : k < l.length := by have := h1 (by rw [show Int.ofNat l.length = (l.length : Int) from rfl]; omega); rw [show Int.ofNat l.length = (l.length : Int) from rfl] at this; omega
  refine ⟨l[k], List.getElem_mem hkl, ?_⟩
  rw [c_spec_l1Rd_one, t_spec_l1Rd_one, hk, Option.bind_some, un_rd, ok_rd, bif_true, unEnd_mk, unI_mk, l2_rd, bif_true]
  simp only [List.getD_cons_zero, List.getD_cons_succ, unL_mk, unI_mk]
  rw [ix_at (x := .sc (.int .i64 l[k])) (by rw [List.getElem?_map, List.getElem?_eq_getElem hkl]; rfl)]
  rw [ce_sc, unI_mk]
theorem unS_enc {R : Type} {s : ByteArray} {K : ByteArray → Option R} : unS (encS s) K = K s := rfl
abbrev nul : ByteArray := .mk (.mk [])
/-- a drawn word -/
theorem word_is {b : List V} (hb : Bts b) (p : Nat) (hp : p ≤ 1099511000000) : ∃ s, (D T).call F_spec_l13Word [rd b p] = some (encS s, [rd b (p + 3)]) ∧ s.size = 8 := by
  have m0 := many_is (.mk (.mk [0])) 8 (by decide) (by decide)
  have m1 := many_is (.mk (.mk [0])) 7 (by decide) (by decide)
  have m2 := many_is (.mk (.mk [255])) 8 (by decide) (by decide)
  have m0 : (D T).call F_spec_l1Many [.sc (.string (.mk (.mk [0]))), .sc (.int .i64 8)] = _ := m0
  have m1 : (D T).call F_spec_l1Many [.sc (.string (.mk (.mk [0]))), .sc (.int .i64 7)] = _ := m1
  have m2 : (D T).call F_spec_l1Many [.sc (.string (.mk (.mk [255]))), .sc (.int .i64 8)] = _ := m2
  obtain ⟨k1, p1, _⟩ := pick_is hb p (by omega) 256
  obtain ⟨k2, p2, _⟩ := pick_is hb (p + 1) (by omega) 256
  have hby := fun n => bytes_is n 8 (by decide)
  have hby : ∀ n : Int, (D T).call F_spec_l1Bytes [.sc (.int .i64 n), .sc (.int .i64 8)] = _ := hby
  obtain ⟨s, hs, ho⟩ := of_is hb (p + 2) (by omega) [repB (.mk (.mk [0])) 8, repB (.mk (.mk [0])) 8, (.mk (.mk [1])) ++ repB (.mk (.mk [0])) 7, repB (.mk (.mk [255])) 8, .mk (.mk [97, 98, 99, 100, 101, 102, 103, 104]), .mk (.mk [0, 0, 97, 0, 0, 0, 98, 0]), .mk (.mk [97, 98, 99, 0, 101, 102, 103, 104]), .mk (.mk (leL (IntKind.wrap .i64 ((IntKind.wrap .i64 ((k1 : Int) * 256)) + (k2 : Int))) 8))] (by simp) (by simp)
  refine ⟨s, ?_, ?_⟩
  · rw [c_spec_l13Word, t_spec_l13Word, m0, m1, m2, Option.bind_some]
    simp only [unS_enc, Option.bind_some]
    rw [decide_eq_true (show (ByteArray.mk (.mk [1])).size + (repB (.mk (.mk [0])) 7).size ≤ 9223372036854775807 by rw [repB_size]; decide), bif_true, p1]
    simp only [Option.bind_some, un_rd, l2_rd, al_rd, Bool.and_true, bif_true, unEnd_mk, unI_mk, unL_mk, List.getD_cons_zero, List.getD_cons_succ]
    rw [p2]
    simp only [Option.bind_some, un_rd, l2_rd, al_rd, Bool.and_true, bif_true, unEnd_mk, unI_mk, unL_mk, List.getD_cons_zero, List.getD_cons_succ, hby, unS_enc]
    have ho : (D T).call F_spec_l1Rd_of [rd b (p + 2), .sl 1 [.sc (.string (repB (.mk (.mk [0])) 8)), .sc (.string (repB (.mk (.mk [0])) 8)), .sc (.string ((.mk (.mk [1])) ++ repB (.mk (.mk [0])) 7)), .sc (.string (repB (.mk (.mk [255])) 8)), .sc (.string (.mk (.mk [97, 98, 99, 100, 101, 102, 103, 104]))), .sc (.string (.mk (.mk [0, 0, 97, 0, 0, 0, 98, 0]))), .sc (.string (.mk (.mk [97, 98, 99, 0, 101, 102, 103, 104]))), .sc (.string (.mk (.mk (leL (IntKind.wrap .i64 ((IntKind.wrap .i64 ((k1 : Int) * 256)) + (k2 : Int))) 8))))]] = _ := ho
    rw [ho]
    rfl
  · simp only [List.mem_cons, List.not_mem_nil, or_false] at hs
    rcases hs with rfl | rfl | rfl | rfl | rfl | rfl | rfl | rfl
    · rw [repB_size]; rfl
    · rw [repB_size]; rfl
    · rw [ba_size, repB_size]; rfl
    · rw [repB_size]; rfl
    · rfl
    · rfl
    · rfl
    · show (leL _ 8).length = 8
      rw [leL_length]
theorem words_loop {b : List V} (hb : Bts b) : ∀ (n : Nat), n ≤ 100000 → ∀ (s : ByteArray) (p : Nat), p + 3 * n ≤ 1099511000000 → s.size + 8 * n ≤ 1000000000 → ∃ s', L_spec_l13Words_0 (D T) s (n : Int) b (p : Int) = some (encS s', [rd b (p + 3 * n)]) ∧ s'.size = s.size + 8 * n := by
  intro n
  induction n with
  | zero =>
    intro _ s p hp hs
    refine ⟨s, ?_, by omega⟩
    rw [L_spec_l13Words_0_eq, tL_spec_l13Words_0]; rfl
  | succ n ih =>
    intro hn s p hp hs
    obtain ⟨w, hw, hl⟩ := word_is hb p (by omega)
    obtain ⟨s', h1, h2⟩ := ih (by omega) (s ++ w) (p + 3) (by omega) (by rw [ba_size, hl]; omega)
    refine ⟨s', ?_, by rw [h2, ba_size, hl]; omega⟩
    have w1 : IntKind.wrap .i64 (((n + 1 : Nat) : Int) - 1) = (n : Int) := by rw [wrap_id (by omega) (by omega)]; omega
    rw [L_spec_l13Words_0_eq, tL_spec_l13Words_0, decide_eq_true (show (0 : Int) < ((n + 1 : Nat) : Int) by omega), bif_true, hw]
    simp only [Option.bind_some, un_rd, l2_rd, al_rd, Bool.and_true, bif_true, unEnd_mk, unI_mk, unL_mk, List.getD_cons_zero, List.getD_cons_succ, unS_enc]
    rw [decide_eq_true (show s.size + w.size ≤ 9223372036854775807 by omega), bif_true, w1, h1, show p + 3 + 3 * n = p + 3 * (n + 1) by omega]
theorem words_is {b : List V} (hb : Bts b) (p most : Nat) (hm : most ≤ 10000) (hp : p ≤ 1099510000000) : ∃ s q, (D T).call F_spec_l13Words [rd b p, .sc (.int .i64 (most : Nat))] = some (encS s, [rd b q]) ∧ p ≤ q ∧ q ≤ p + 1 + 3 * most ∧ s.size ≤ 8 * most := by
  obtain ⟨k, hk, h1, _⟩ := pick_is hb p (by omega) ((most + 1 : Nat) : Int)
  have hkl := h1 (by omega)
  obtain ⟨s, h2, h3⟩ := words_loop hb k (by omega) nul (p + 1) (by omega) (by show 0 + _ ≤ _; omega)
  have w1 : IntKind.wrap .i64 ((most : Int) + 1) = ((most + 1 : Nat) : Int) := by rw [wrap_id (by omega) (by omega)]; omega
  refine ⟨s, p + 1 + 3 * k, ?_, by omega, by omega, by rw [h3]; show 0 + _ ≤ _; omega⟩
  rw [c_spec_l13Words, t_spec_l13Words, w1, hk]
  simp only [Option.bind_some, un_rd, l2_rd, al_rd, Bool.and_true, bif_true, unEnd_mk, unI_mk, unL_mk, List.getD_cons_zero, List.getD_cons_succ]
  exact h2
theorem ext_size (s : ByteArray) (n : Nat) (h : n ≤ s.size) : (s.extract 0 n).size = n := by rw [ByteArray.size_extract]; omega
/-- bytes of a list cut -/
theorem cut_is (s : ByteArray) (z c : Nat) (hz : z ≤ 6) (hc : c ≤ 12800) (h : bytesN z c ≤ s.size) (hs : s.size ≤ 1000000000) : ∃ t, (D T).call F_spec_l4Cut [.sc (.string s), .sc (.int .i64 (z : Nat)), .sc (.int .i64 (c : Nat))] = some (encS t, []) ∧ t.size = bytesN z c := by
  rw [c_spec_l4Cut, t_spec_l4Cut, l4Bytes_is z c hz hc, Option.bind_some, unI_mk]
  have e1 : (decide ((0 : Int) ≤ ((bytesN z c : Nat) : Int)) && decide (((bytesN z c : Nat) : Int) ≤ Int.ofNat s.size)) = true := by
    rw [decide_eq_true (by omega), decide_eq_true (by rw [show Int.ofNat s.size = (s.size : Int) from rfl]; omega)]; rfl
  rw [e1, bif_true, Int.toNat_natCast]
  have hsz := ext_size s (bytesN z c) h
  by_cases h1 : z = 1
  case neg =>
    rw [decide_eq_false (show ¬ ((z : Nat) : Int) = 1 by omega), bif_false]
    exact ⟨_, rfl, hsz⟩
  rw [decide_eq_true (show ((z : Nat) : Int) = 1 by omega), bif_true, tmod8]
  by_cases h0 : c % 8 = 0
  · rw [decide_eq_true (show ((c % 8 : Nat) : Int) = 0 by omega), Bool.not_true, bif_false]
    exact ⟨_, rfl, hsz⟩
  rw [decide_eq_false (show ¬ ((c % 8 : Nat) : Int) = 0 by omega), Bool.not_false, bif_true]
  have hpos : 0 < bytesN z c := by subst h1; exact bytes_pos (by show 1 * c % 8 ≠ 0; rw [Nat.one_mul]; exact h0)
  have w1 : IntKind.wrap .i64 (((bytesN z c : Nat) : Int) - 1) = ((bytesN z c - 1 : Nat) : Int) := by rw [wrap_id (by omega) (by omega)]; omega
  rw [w1, hsz]
  have e2 : (decide ((0 : Int) ≤ ((bytesN z c - 1 : Nat) : Int)) && decide (((bytesN z c - 1 : Nat) : Int) ≤ Int.ofNat (bytesN z c))) = true := by
    rw [decide_eq_true (by omega), decide_eq_true (by rw [show Int.ofNat (bytesN z c) = (bytesN z c : Int) from rfl]; omega)]; rfl
  rw [e2, bif_true]
  have hg : (s.extract 0 (bytesN z c))[bytesN z c - 1]? = some ((s.extract 0 (bytesN z c))[bytesN z c - 1]'(by omega)) := getElem?_pos _ _ (by omega)
  have hix : ∀ K : Int → Option Res, ixS (s.extract 0 (bytesN z c)) ((bytesN z c - 1 : Nat) : Int) K = K (((s.extract 0 (bytesN z c))[bytesN z c - 1]'(by omega)).toNat : Nat) := fun K => by
    show ixS _ (Int.ofNat (bytesN z c - 1)) K = _
    unfold ixS
    simp only [hg]
  rw [hix, decide_eq_false (show ¬ ((c % 8 : Nat) : Int) < 0 by omega), Bool.not_false, bif_true, Int.toNat_natCast]
  have hsz2 := ext_size (s.extract 0 (bytesN z c)) (bytesN z c - 1) (by omega)
  rw [hsz2]
  have e3 : ∀ x : UInt8, decide (bytesN z c - 1 + (ByteArray.mk (.mk [x])).size ≤ 9223372036854775807) = true := fun x => decide_eq_true (by show bytesN z c - 1 + 1 ≤ _; omega)
  rw [e3, bif_true]
  refine ⟨_, rfl, ?_⟩
  rw [ba_size, hsz2]
  show bytesN z c - 1 + 1 = _
  omega
theorem encNs_append (a c : List Nod) : encNs (a ++ c) = encNs a ++ encNs c := by rw [encNs_map, encNs_map, encNs_map, List.map_append]
/-- a node is drawn with so many picks at most, so large at most -/
def Dn (o : Option Res) (b : List V) (p N S : Nat) : Prop := ∃ n q, o = some (encN n, [rd b q]) ∧ p ≤ q ∧ q ≤ p + N ∧ szN n ≤ S
theorem list_is {b : List V} (hb : Bts b) (p : Nat) (hp : p ≤ 1099500000000) : Dn ((D T).call F_spec_l13List [rd b p]) b p 39 96 := by
  obtain ⟨k1, p1, a1, _⟩ := pick_is hb p (by omega) 6
  obtain ⟨k2, p2, a2, _⟩ := pick_is hb (p + 1) (by omega) 12
  have a1 := a1 (by decide)
  have a2 := a2 (by decide)
  obtain ⟨s, q, hs, q1, q2, hsz⟩ := words_is hb (p + 2) 12 (by decide) (by omega)
  have hs : (D T).call F_spec_l13Words [rd b (p + 2), .sc (.int .i64 12)] = _ := hs
  have m := many_is (.mk (.mk [5])) 96 (by decide) (by decide)
  have m : (D T).call F_spec_l1Many [.sc (.string (.mk (.mk [5]))), .sc (.int .i64 96)] = _ := m
  have hrs : (repB (.mk (.mk [5])) 96).size = 96 := by rw [repB_size]; rfl
  have hbn : bytesN k1 k2 ≤ 88 := by
    have h1 : bitsN k1 ≤ 64 := by unfold bitsN; split <;> decide
    have h2 : bitsN k1 * k2 ≤ 64 * 11 := Nat.mul_le_mul h1 (by omega)
    unfold bytesN; omega
  obtain ⟨t, ht, hts⟩ := cut_is (s ++ repB (.mk (.mk [5])) 96) k1 k2 (by omega) (by omega) (by rw [ba_size, hrs]; omega) (by rw [ba_size, hrs]; omega)
  refine ⟨.mk 2 t [] (k1 : Int) (k2 : Int) [], q, ?_, by omega, by omega, by simp only [szN, szT, List.length_nil]; omega⟩
  rw [c_spec_l13List, t_spec_l13List, p1]
  simp only [Option.bind_some, un_rd, l2_rd, al_rd, Bool.and_true, bif_true, unEnd_mk, unI_mk, unL_mk, List.getD_cons_zero, List.getD_cons_succ]
  rw [p2]
  simp only [Option.bind_some, un_rd, l2_rd, al_rd, Bool.and_true, bif_true, unEnd_mk, unI_mk, unL_mk, List.getD_cons_zero, List.getD_cons_succ]
  rw [hs]
  simp only [Option.bind_some, un_rd, l2_rd, al_rd, Bool.and_true, bif_true, unEnd_mk, unI_mk, unL_mk, List.getD_cons_zero, List.getD_cons_succ, unS_enc, m]
  rw [decide_eq_true (show s.size + (repB (.mk (.mk [5])) 96).size ≤ 9223372036854775807 by omega), bif_true, ht]
  simp only [Option.bind_some, unS_enc, encN_mk, encNs]
theorem struct_data {b : List V} (hb : Bts b) (data : Nat) (hdat : data ≤ 1000) (ptrs deep : Int) : ∀ i, i ≤ data → ∀ (s : ByteArray) (p : Nat), p + 3 * (data - i) ≤ 1099500000000 → s.size + 8 * (data - i) ≤ 1000000 →
    ∃ s', L_spec_l13Struct_0 (D T) (data : Nat) ptrs deep (i : Nat) b (p : Nat) 0 nul 0 0 1 s 0 0 = L_spec_l13Struct_1 (D T) ptrs deep 0 b ((p + 3 * (data - i) : Nat) : Int) 0 nul 0 0 1 s' 0 0 ∧ s'.size = s.size + 8 * (data - i) := by
  refine down (fun s p hp hs => ?_) fun i hi ih s p hp hs => ?_
  · refine ⟨s, ?_, by omega⟩
    rw [L_spec_l13Struct_0_eq, tL_spec_l13Struct_0, decide_eq_false (show ¬ (data : Int) < (data : Int) by omega), bif_false, Nat.sub_self]
    rfl
  · obtain ⟨w, hw, hl⟩ := word_is hb p (by omega)
    obtain ⟨s', h1, h2⟩ := ih (s ++ w) (p + 3) (by omega) (by rw [ba_size, hl]; omega)
    refine ⟨s', ?_, by rw [h2, ba_size, hl]; omega⟩
    rw [L_spec_l13Struct_0_eq, tL_spec_l13Struct_0, decide_eq_true (show (i : Int) < (data : Int) by omega), bif_true, hw]
    simp only [Option.bind_some, un_rd, l2_rd, al_rd, Bool.and_true, bif_true, unEnd_mk, unI_mk, unL_mk, List.getD_cons_zero, List.getD_cons_succ, unS_enc]
    rw [decide_eq_true (show s.size + w.size ≤ 9223372036854775807 by omega), bif_true, next_i (by omega), h1, show p + 3 + 3 * (data - (i + 1)) = p + 3 * (data - i) by omega]
theorem struct_ptrs {b : List V} (hb : Bts b) (ptrs deep N S : Nat) (hptr : ptrs ≤ 100) (hdeep : 1 ≤ deep ∧ deep ≤ 100) (hN : N ≤ 100000000) (B : Nat) (hB : B ≤ 1099000000000) (s : ByteArray)
    (hn : ∀ p, p ≤ B → Dn ((D T).call F_spec_l13Node [rd b p, .sc (.int .i64 ((deep - 1 : Nat) : Int))]) b p N S) : ∀ i, i ≤ ptrs → ∀ (ns : List Nod) (p : Nat), ns.length = i → p + N * (ptrs - i) ≤ B →
    ∃ ns' q, L_spec_l13Struct_2 (D T) (ptrs : Nat) (deep : Nat) (i : Nat) b (p : Nat) 0 nul 0 0 1 s (encNs ns) 0 0 = some (encN (.mk 1 s (ns ++ ns') 0 0 []), [rd b q]) ∧ ns'.length = ptrs - i ∧ p ≤ q ∧ q ≤ p + N * (ptrs - i) ∧ szT ns' ≤ S * (ptrs - i) := by
  have w1 : IntKind.wrap .i64 ((deep : Int) - 1) = ((deep - 1 : Nat) : Int) := by rw [wrap_id (by omega) (by omega)]; omega
  refine down (fun ns p hns hp => ?_) fun i hi ih ns p hns hp => ?_
  · refine ⟨[], p, ?_, by simp, Nat.le_refl _, by omega, by simp [szT]⟩
    rw [L_spec_l13Struct_2_eq, tL_spec_l13Struct_2, decide_eq_false (show ¬ (ptrs : Int) < (ptrs : Int) by omega), bif_false, List.append_nil, encN_mk]
    simp only [encNs]
  · have em : N * (ptrs - i) = N + N * (ptrs - (i + 1)) := by rw [show ptrs - i = (ptrs - (i + 1)) + 1 by omega, Nat.mul_succ]; omega
    have es : S * (ptrs - i) = S + S * (ptrs - (i + 1)) := by rw [show ptrs - i = (ptrs - (i + 1)) + 1 by omega, Nat.mul_succ]; omega
    obtain ⟨n, q, h1, h2, h3, h4⟩ := hn p (by omega)
    obtain ⟨ns', q', g1, g2, g3, g4, g5⟩ := ih (ns ++ [n]) q (by simp [hns]) (by omega)
    refine ⟨n :: ns', q', ?_, by simp [g2]; omega, by omega, by omega, by rw [szT]; omega⟩
    rw [L_spec_l13Struct_2_eq, tL_spec_l13Struct_2, decide_eq_true (show (i : Int) < (ptrs : Int) by omega), bif_true, w1, h1]
    simp only [Option.bind_some, un_rd, l2_rd, al_rd, Bool.and_true, bif_true, unEnd_mk, unI_mk, unL_mk, List.getD_cons_zero, List.getD_cons_succ, unSt_encN, wd_encN]
    rw [encNs_length, hns, decide_eq_true (show (i + 1) * 88 ≤ 140737488355328 by omega), bif_true, next_i (by omega)]
    rw [encNs_append] at g1
    have e : encNs ns ++ encNs [n] = encNs ns ++ [encN n] := by simp only [encNs]
    rw [e] at g1
    rw [g1, List.append_assoc]
    rfl
theorem struct_is {b : List V} (hb : Bts b) (data ptrs deep N S : Nat) (hdat : data ≤ 100) (hptr : ptrs ≤ 100) (hdeep : 1 ≤ deep ∧ deep ≤ 100) (hN : N ≤ 100000000) (B : Nat) (hB : B ≤ 1099000000000)
    (hn : ∀ p, p ≤ B → Dn ((D T).call F_spec_l13Node [rd b p, .sc (.int .i64 ((deep - 1 : Nat) : Int))]) b p N S) (p : Nat) (hp : p + 3 * data + N * ptrs ≤ B) :
    ∃ s ns q, (D T).call F_spec_l13Struct [rd b p, .sc (.int .i64 (data : Nat)), .sc (.int .i64 (ptrs : Nat)), .sc (.int .i64 (deep : Nat))] = some (encN (.mk 1 s ns 0 0 []), [rd b q]) ∧ p ≤ q ∧ q ≤ p + 3 * data + N * ptrs ∧ s.size = 8 * data ∧ ns.length = ptrs ∧ szT ns ≤ S * ptrs := by
  obtain ⟨s, h1, h2⟩ := struct_data hb data (by omega) (ptrs : Int) (deep : Int) 0 (Nat.zero_le _) nul p (by omega) (by show 0 + _ ≤ _; omega)
  have h2 : s.size = 8 * data := by rw [h2]; show 0 + _ = _; omega
  rw [Nat.sub_zero] at h1
  have h1 : L_spec_l13Struct_0 (D T) (data : Nat) (ptrs : Nat) (deep : Nat) 0 b (p : Nat) 0 nul 0 0 1 nul 0 0 = _ := h1
  rw [c_spec_l13Struct, t_spec_l13Struct, h1]
  by_cases h0 : ptrs = 0
  · subst h0
    refine ⟨s, [], p + 3 * data, ?_, by omega, by omega, h2, rfl, by simp [szT]⟩
    rw [L_spec_l13Struct_1_eq, tL_spec_l13Struct_1, encN_mk]
    simp only [encNs]
    rfl
  obtain ⟨n, q, g1, g2, g3, g4⟩ := hn (p + 3 * data) (by omega)
  have em : N * ptrs = N + N * (ptrs - 1) := by rw [show ptrs = (ptrs - 1) + 1 by omega, Nat.mul_succ]; simp; omega
  have es : S * ptrs = S + S * (ptrs - 1) := by rw [show ptrs = (ptrs - 1) + 1 by omega, Nat.mul_succ]; simp; omega
  obtain ⟨ns', q', k1, k2, k3, k4, k5⟩ := struct_ptrs hb ptrs deep N S hptr hdeep hN B hB s hn 1 (by omega) [n] q rfl (by omega)
  refine ⟨s, n :: ns', q', ?_, by omega, by omega, h2, by simp [k2]; omega, by rw [szT]; omega⟩
  have w1 : IntKind.wrap .i64 ((deep : Int) - 1) = ((deep - 1 : Nat) : Int) := by rw [wrap_id (by omega) (by omega)]; omega
  rw [L_spec_l13Struct_1_eq, tL_spec_l13Struct_1, decide_eq_true (show (0 : Int) < (ptrs : Int) by omega), bif_true, w1, g1]
  simp only [Option.bind_some, un_rd, l2_rd, al_rd, Bool.and_true, bif_true, unEnd_mk, unI_mk, unL_mk, List.getD_cons_zero, List.getD_cons_succ, unSt_encN, wd_encN]
  rw [next0]
  exact k1
def NN : Nat → Nat
  | 0 => 0
  | d + 1 => 60 + 6 * NN d
def SS : Nat → Nat
  | 0 => 0
  | d + 1 => 120 + 6 * SS d
theorem ptrs_loop {b : List V} (hb : Bts b) (deep N S : Nat) (hdeep : 1 ≤ deep ∧ deep ≤ 100) (hN : N ≤ 100000000) (B : Nat) (hB : B ≤ 1099000000000)
    (hn : ∀ p, p ≤ B → Dn ((D T).call F_spec_l13Node [rd b p, .sc (.int .i64 ((deep - 1 : Nat) : Int))]) b p N S) : ∀ k, k ≤ 100 → ∀ (ns : List Nod) (p : Nat), ns.length ≤ 1000 - k → p + N * k ≤ B →
    ∃ ns' q, L_spec_l13Node_2 (D T) (deep : Nat) (k : Nat) b (p : Nat) 0 nul 0 0 2 nul (encNs ns) 6 0 = some (encN (.mk 2 nul (ns ++ ns') 6 ((ns ++ ns').length : Nat) []), [rd b q]) ∧ ns'.length = k ∧ p ≤ q ∧ q ≤ p + N * k ∧ szT ns' ≤ S * k := by
  have w1 : IntKind.wrap .i64 ((deep : Int) - 1) = ((deep - 1 : Nat) : Int) := by rw [wrap_id (by omega) (by omega)]; omega
  intro k
  induction k with
  | zero =>
    intro _ ns p hns hp
    refine ⟨[], p, ?_, rfl, Nat.le_refl _, by omega, by simp [szT]⟩
    rw [L_spec_l13Node_2_eq, tL_spec_l13Node_2, encNs_length, List.append_nil, encN_mk]
    simp only [encNs]
    rfl
  | succ k ih =>
    intro hk ns p hns hp
    have em : N * (k + 1) = N + N * k := by rw [Nat.mul_succ]; omega
    have es : S * (k + 1) = S + S * k := by rw [Nat.mul_succ]; omega
    obtain ⟨n, q, h1, h2, h3, h4⟩ := hn p (by omega)
    obtain ⟨ns', q', g1, g2, g3, g4, g5⟩ := ih (by omega) (ns ++ [n]) q (by simp; omega) (by omega)
    have w2 : IntKind.wrap .i64 (((k + 1 : Nat) : Int) - 1) = (k : Int) := by rw [wrap_id (by omega) (by omega)]; omega
    refine ⟨n :: ns', q', ?_, by simp [g2], by omega, by omega, by rw [szT]; omega⟩
    rw [L_spec_l13Node_2_eq, tL_spec_l13Node_2, decide_eq_true (show (0 : Int) < ((k + 1 : Nat) : Int) by omega), bif_true, w1, h1]
    simp only [Option.bind_some, un_rd, l2_rd, al_rd, Bool.and_true, bif_true, unEnd_mk, unI_mk, unL_mk, List.getD_cons_zero, List.getD_cons_succ, unSt_encN, wd_encN]
    rw [encNs_length, decide_eq_true (show (ns.length + 1) * 88 ≤ 140737488355328 by omega), bif_true, w2]
    rw [encNs_append, List.append_assoc] at g1
    have e : encNs ns ++ encNs [n] = encNs ns ++ [encN n] := by simp only [encNs]
    rw [e] at g1
    exact g1
theorem items_loop {b : List V} (hb : Bts b) (data ptrs deep N S : Nat) (hdat : data ≤ 100) (hptr : ptrs ≤ 100) (hdeep : 1 ≤ deep ∧ deep ≤ 100) (hN : N ≤ 100000000) (B : Nat) (hB : B ≤ 1099000000000)
    (hn : ∀ p, p ≤ B → Dn ((D T).call F_spec_l13Node [rd b p, .sc (.int .i64 ((deep - 1 : Nat) : Int))]) b p N S) : ∀ k, k ≤ 100 → ∀ (ns : List Nod) (p : Nat), ns.length ≤ 1000 - k → p + (3 * data + N * ptrs) * k ≤ B →
    ∃ ns' q, L_spec_l13Node_3 (D T) (deep : Nat) (data : Nat) (ptrs : Nat) (k : Nat) b (p : Nat) 0 nul 0 0 2 nul 7 0 (encNs ns) = some (encN (.mk 2 nul [] 7 ((ns ++ ns').length : Nat) (ns ++ ns')), [rd b q]) ∧ ns'.length = k ∧ p ≤ q ∧ q ≤ p + (3 * data + N * ptrs) * k ∧ szT ns' ≤ (8 * data + ptrs + S * ptrs) * k := by
  intro k
  induction k with
  | zero =>
    intro _ ns p hns hp
    refine ⟨[], p, ?_, rfl, Nat.le_refl _, by omega, by simp [szT]⟩
    rw [L_spec_l13Node_3_eq, tL_spec_l13Node_3, encNs_length, List.append_nil, encN_mk]
    simp only [encNs]
    rfl
  | succ k ih =>
    intro hk ns p hns hp
    have em : (3 * data + N * ptrs) * (k + 1) = (3 * data + N * ptrs) + (3 * data + N * ptrs) * k := by rw [Nat.mul_succ]; omega
    have es : (8 * data + ptrs + S * ptrs) * (k + 1) = (8 * data + ptrs + S * ptrs) + (8 * data + ptrs + S * ptrs) * k := by rw [Nat.mul_succ]; omega
    obtain ⟨s, xs, q, h1, h2, h3, h4, h5, h6⟩ := struct_is hb data ptrs deep N S hdat hptr hdeep hN B hB hn p (by omega)
    obtain ⟨ns', q', g1, g2, g3, g4, g5⟩ := ih (by omega) (ns ++ [.mk 1 s xs 0 0 []]) q (by simp; omega) (by omega)
    have w2 : IntKind.wrap .i64 (((k + 1 : Nat) : Int) - 1) = (k : Int) := by rw [wrap_id (by omega) (by omega)]; omega
    refine ⟨.mk 1 s xs 0 0 [] :: ns', q', ?_, by simp [g2], by omega, by omega, by simp only [szT, szN, List.length_nil]; omega⟩
    rw [L_spec_l13Node_3_eq, tL_spec_l13Node_3, decide_eq_true (show (0 : Int) < ((k + 1 : Nat) : Int) by omega), bif_true, h1]
    simp only [Option.bind_some, un_rd, l2_rd, al_rd, Bool.and_true, bif_true, unEnd_mk, unI_mk, unL_mk, List.getD_cons_zero, List.getD_cons_succ, unSt_encN, wd_encN]
    rw [encNs_length, decide_eq_true (show (ns.length + 1) * 88 ≤ 140737488355328 by omega), bif_true, w2]
    rw [encNs_append, List.append_assoc] at g1
    have e : encNs ns ++ encNs [.mk 1 s xs 0 0 []] = encNs ns ++ [encN (.mk 1 s xs 0 0 [])] := by simp only [encNs]
    rw [e] at g1
    exact g1
theorem node_is {b : List V} (hb : Bts b) : ∀ d : Nat, d ≤ 4 → ∀ p, p ≤ 1000000 * (5 - d) → Dn ((D T).call F_spec_l13Node [rd b p, .sc (.int .i64 (d : Nat))]) b p (NN d) (SS d) := by
  intro d
  induction d with
  | zero =>
    intro _ p hp
    refine ⟨.mk 0 nul [] 0 0 [], p, ?_, Nat.le_refl _, by simp [NN], by simp only [szN, szT, SS, List.length_nil]; decide⟩
    rw [c_spec_l13Node, t_spec_l13Node, encN_mk]
    simp only [encNs]
    rfl
  | succ d ih =>
    intro hd p hp
    have hNb : ∀ d, d ≤ 4 → NN d ≤ 15540 ∧ SS d ≤ 31080 := fun d hd => by
      have : d = 0 ∨ d = 1 ∨ d = 2 ∨ d = 3 ∨ d = 4 := by omega
      rcases this with rfl | rfl | rfl | rfl | rfl <;> decide
    obtain ⟨hN1, hS1⟩ := hNb d (by omega)
    have hB : 1000000 * (5 - d) ≤ 1099000000000 := by omega
    have hpB : p + 1000000 ≤ 1000000 * (5 - d) := by omega
    have hn : ∀ p, p ≤ 1000000 * (5 - d) → Dn ((D T).call F_spec_l13Node [rd b p, .sc (.int .i64 ((d + 1 - 1 : Nat) : Int))]) b p (NN d) (SS d) := ih (by omega)
    have eN : NN (d + 1) = 60 + 6 * NN d := rfl
    have eS : SS (d + 1) = 120 + 6 * SS d := rfl
    obtain ⟨k0, h0, a0, _⟩ := pick_is hb p (by omega) 6
    have a0 := a0 (by decide)
    have hc : c_spec_l13Node b (p : Int) ((d + 1 : Nat) : Int) = c_spec_l13Node b (p : Int) ((d + 1 : Nat) : Int) := rfl
    have step : (D T).call F_spec_l13Node [rd b p, .sc (.int .i64 ((d + 1 : Nat) : Int))] = t_spec_l13Node (D T) b (p : Int) ((d + 1 : Nat) : Int) := c_spec_l13Node _ _ _
    rw [step, t_spec_l13Node, decide_eq_false (show ¬ ((d + 1 : Nat) : Int) < 1 by omega), bif_false, h0]
    simp only [Option.bind_some, un_rd, l2_rd, al_rd, Bool.and_true, bif_true, unEnd_mk, unI_mk, unL_mk, List.getD_cons_zero, List.getD_cons_succ]
    by_cases c0 : k0 = 0
    · rw [decide_eq_true (show (k0 : Int) = 0 by omega), bif_true]
      refine ⟨.mk 0 nul [] 0 0 [], p + 1, ?_, by omega, by omega, by simp only [szN, szT, List.length_nil]; show 0 + _ ≤ _; omega⟩
      rw [encN_mk]; simp only [encNs]
    rw [decide_eq_false (show ¬ (k0 : Int) = 0 by omega), bif_false]
    by_cases c1 : k0 = 1
    · rw [decide_eq_true (show (k0 : Int) = 1 by omega), bif_true]
      obtain ⟨n, q, g1, g2, g3, g4⟩ := list_is hb (p + 1) (by omega)
      rw [g1]
      refine ⟨n, q, ?_, by omega, by omega, by omega⟩
      simp only [Option.bind_some, un_rd, l2_rd, al_rd, Bool.and_true, bif_true, unEnd_mk, unI_mk, unL_mk, List.getD_cons_zero, List.getD_cons_succ, un_encN]
      obtain ⟨k, dd, pp, ss, cc, ii⟩ := n
      rw [encN_mk]
    rw [decide_eq_false (show ¬ (k0 : Int) = 1 by omega), bif_false]
    by_cases c2 : k0 = 2
    · rw [decide_eq_true (show (k0 : Int) = 2 by omega), bif_true]
      obtain ⟨k1, h1, a1, _⟩ := pick_is hb (p + 1) (by omega) 4
      have a1 := a1 (by decide)
      rw [h1]
      simp only [Option.bind_some, un_rd, l2_rd, al_rd, Bool.and_true, bif_true, unEnd_mk, unI_mk, unL_mk, List.getD_cons_zero, List.getD_cons_succ]
      have hNk : NN d * k1 ≤ NN d * 3 := Nat.mul_le_mul_left _ (by omega)
      have hSk : SS d * k1 ≤ SS d * 3 := Nat.mul_le_mul_left _ (by omega)
      by_cases hz : k1 = 0
      · subst hz
        refine ⟨.mk 2 nul [] 6 0 [], p + 2, ?_, by omega, by omega, by simp only [szN, szT, List.length_nil]; show 0 + _ ≤ _; omega⟩
        rw [L_spec_l13Node_0_eq, tL_spec_l13Node_0, encN_mk]; simp only [encNs]; rfl
      · obtain ⟨n, q, g1, g2, g3, g4⟩ := hn (p + 2) (by omega)
        obtain ⟨ns', q', e1, e2, e3, e4, e5⟩ := ptrs_loop hb (d + 1) (NN d) (SS d) (by omega) (by omega) _ hB hn (k1 - 1) (by omega) [n] q (by simp; omega) (by
          have : NN d * (k1 - 1) ≤ NN d * 3 := Nat.mul_le_mul_left _ (by omega)
          omega)
        have m1 : NN d * (k1 - 1) ≤ NN d * 2 := Nat.mul_le_mul_left _ (by omega)
        have m2 : SS d * (k1 - 1) ≤ SS d * 2 := Nat.mul_le_mul_left _ (by omega)
        refine ⟨.mk 2 nul ([n] ++ ns') 6 (([n] ++ ns').length : Nat) [], q', ?_, by omega, by omega, by simp only [szN, szT, List.length_nil, List.singleton_append, List.length_cons]; show 0 + _ ≤ _; omega⟩
        have w1 : IntKind.wrap .i64 (((d + 1 : Nat) : Int) - 1) = ((d + 1 - 1 : Nat) : Int) := by rw [wrap_id (by omega) (by omega)]; omega
        have w2 : IntKind.wrap .i64 ((k1 : Int) - 1) = ((k1 - 1 : Nat) : Int) := by rw [wrap_id (by omega) (by omega)]; omega
        rw [L_spec_l13Node_0_eq, tL_spec_l13Node_0, decide_eq_true (show (0 : Int) < (k1 : Int) by omega), bif_true, w1, g1]
        simp only [Option.bind_some, un_rd, l2_rd, al_rd, Bool.and_true, bif_true, unEnd_mk, unI_mk, unL_mk, List.getD_cons_zero, List.getD_cons_succ, unSt_encN, wd_encN]
        rw [w2]
        have e : encNs [n] = [encN n] := by simp only [encNs]
        rw [e] at e1
        exact e1
    rw [decide_eq_false (show ¬ (k0 : Int) = 2 by omega), bif_false]
    by_cases c3 : k0 = 3
    · rw [decide_eq_true (show (k0 : Int) = 3 by omega), bif_true]
      obtain ⟨k1, h1, a1, _⟩ := pick_is hb (p + 1) (by omega) 3
      obtain ⟨k2, h2, a2, _⟩ := pick_is hb (p + 2) (by omega) 3
      obtain ⟨k3, h3, a3, _⟩ := pick_is hb (p + 3) (by omega) 4
      have a1 := a1 (by decide)
      have a2 := a2 (by decide)
      have a3 := a3 (by decide)
      rw [h1]
      simp only [Option.bind_some, un_rd, l2_rd, al_rd, Bool.and_true, bif_true, unEnd_mk, unI_mk, unL_mk, List.getD_cons_zero, List.getD_cons_succ]
      rw [h2]
      simp only [Option.bind_some, un_rd, l2_rd, al_rd, Bool.and_true, bif_true, unEnd_mk, unI_mk, unL_mk, List.getD_cons_zero, List.getD_cons_succ]
      rw [h3]
      simp only [Option.bind_some, un_rd, l2_rd, al_rd, Bool.and_true, bif_true, unEnd_mk, unI_mk, unL_mk, List.getD_cons_zero, List.getD_cons_succ]
      have hNk : NN d * k2 ≤ NN d * 2 := Nat.mul_le_mul_left _ (by omega)
      have hSk : SS d * k2 ≤ SS d * 2 := Nat.mul_le_mul_left _ (by omega)
      by_cases hz : k3 = 0
      · subst hz
        refine ⟨.mk 2 nul [] 7 0 [], p + 4, ?_, by omega, by omega, by simp only [szN, szT, List.length_nil]; show 0 + _ ≤ _; omega⟩
        rw [L_spec_l13Node_1_eq, tL_spec_l13Node_1, encN_mk]; simp only [encNs]; rfl
      · have m0 : (3 * k1 + NN d * k2) * (k3 - 1) ≤ (6 + NN d * 2) * 2 := Nat.mul_le_mul (by omega) (by omega)
        have m1 : (8 * k1 + k2 + SS d * k2) * (k3 - 1) ≤ (18 + SS d * 2) * 2 := Nat.mul_le_mul (by omega) (by omega)
        obtain ⟨s, xs, q, g1, g2, g3, g4, g5, g6⟩ := struct_is hb k1 k2 (d + 1) (NN d) (SS d) (by omega) (by omega) (by omega) (by omega) _ hB hn (p + 4) (by omega)
        obtain ⟨ns', q', e1, e2, e3, e4, e5⟩ := items_loop hb k1 k2 (d + 1) (NN d) (SS d) (by omega) (by omega) (by omega) (by omega) _ hB hn (k3 - 1) (by omega) [.mk 1 s xs 0 0 []] q (by simp; omega) (by omega)
        refine ⟨.mk 2 nul [] 7 (([Nod.mk 1 s xs 0 0 []] ++ ns').length : Nat) ([Nod.mk 1 s xs 0 0 []] ++ ns'), q', ?_, by omega, by omega, by simp only [szN, szT, List.length_nil, List.singleton_append, List.length_cons]; show 0 + _ ≤ _; omega⟩
        have w2 : IntKind.wrap .i64 ((k3 : Int) - 1) = ((k3 - 1 : Nat) : Int) := by rw [wrap_id (by omega) (by omega)]; omega
        rw [L_spec_l13Node_1_eq, tL_spec_l13Node_1, decide_eq_true (show (0 : Int) < (k3 : Int) by omega), bif_true, g1]
        simp only [Option.bind_some, un_rd, l2_rd, al_rd, Bool.and_true, bif_true, unEnd_mk, unI_mk, unL_mk, List.getD_cons_zero, List.getD_cons_succ, unSt_encN, wd_encN]
        rw [w2]
        have e : encNs [.mk 1 s xs 0 0 []] = [encN (.mk 1 s xs 0 0 [])] := by simp only [encNs]
        rw [e] at e1
        exact e1
    rw [decide_eq_false (show ¬ (k0 : Int) = 3 by omega), bif_false]
    obtain ⟨k1, h1, a1, _⟩ := pick_is hb (p + 1) (by omega) 4
    obtain ⟨k2, h2, a2, _⟩ := pick_is hb (p + 2) (by omega) 4
    have a1 := a1 (by decide)
    have a2 := a2 (by decide)
    rw [h1]
    simp only [Option.bind_some, un_rd, l2_rd, al_rd, Bool.and_true, bif_true, unEnd_mk, unI_mk, unL_mk, List.getD_cons_zero, List.getD_cons_succ]
    rw [h2]
    simp only [Option.bind_some, un_rd, l2_rd, al_rd, Bool.and_true, bif_true, unEnd_mk, unI_mk, unL_mk, List.getD_cons_zero, List.getD_cons_succ]
    have hNk : NN d * k2 ≤ NN d * 3 := Nat.mul_le_mul_left _ (by omega)
    have hSk : SS d * k2 ≤ SS d * 3 := Nat.mul_le_mul_left _ (by omega)
    obtain ⟨s, xs, q, g1, g2, g3, g4, g5, g6⟩ := struct_is hb k1 k2 (d + 1) (NN d) (SS d) (by omega) (by omega) (by omega) (by omega) _ hB hn (p + 3) (by omega)
    rw [g1]
    refine ⟨.mk 1 s xs 0 0 [], q, ?_, by omega, by omega, by simp only [szN, szT, List.length_nil]; omega⟩
    simp only [Option.bind_some, un_rd, l2_rd, al_rd, Bool.and_true, bif_true, unEnd_mk, unI_mk, unL_mk, List.getD_cons_zero, List.getD_cons_succ]
    rw [unSt_encN, un_N]
    simp only
    rw [encN_mk]
theorem any_loop {b : List V} (hb : Bts b) : ∀ k, k ≤ 9 → ∀ (n : Nod) (p : Nat), p + (10 - k) ≤ 1000000 → Dn (match n with | .mk kk d ps s c _ => L_spec_l13AnyNode_1 (D T) (k : Nat) b (p : Nat) 0 nul 0 0 kk d (encNs ps) s c) b p (10 - k) (szN (match n with | .mk kk d ps s c _ => .mk kk d ps s c []) + (10 - k)) := by
  refine down (fun n p hp => ?_) fun k hk ih n p hp => ?_
  · obtain ⟨kk, d, ps, s, c, is⟩ := n
    obtain ⟨k1, h1, a1, _⟩ := pick_is hb p (by omega) 4
    have a1 := a1 (by decide)
    have w : IntKind.wrap .i64 (6 + (k1 : Int)) = ((6 + k1 : Nat) : Int) := by rw [wrap_id (by omega) (by omega)]; omega
    refine ⟨.mk kk d ps s c [], p + 1, ?_, by omega, by omega, Nat.le_add_right _ _⟩
    simp only
    rw [L_spec_l13AnyNode_1_eq, tL_spec_l13AnyNode_1, h1]
    simp only [Option.bind_some, un_rd, l2_rd, al_rd, Bool.and_true, bif_true, unEnd_mk, unI_mk, unL_mk, List.getD_cons_zero, List.getD_cons_succ]
    rw [w, decide_eq_false (show ¬ ((9 : Nat) : Int) < ((6 + k1 : Nat) : Int) by omega), bif_false, encN_mk]
    simp only [encNs]
  · obtain ⟨kk, d, ps, s, c, is⟩ := n
    obtain ⟨k1, h1, a1, _⟩ := pick_is hb p (by omega) 4
    have a1 := a1 (by decide)
    have w : IntKind.wrap .i64 (6 + (k1 : Int)) = ((6 + k1 : Nat) : Int) := by rw [wrap_id (by omega) (by omega)]; omega
    simp only
    rw [L_spec_l13AnyNode_1_eq, tL_spec_l13AnyNode_1, h1]
    simp only [Option.bind_some, un_rd, l2_rd, al_rd, Bool.and_true, bif_true, unEnd_mk, unI_mk, unL_mk, List.getD_cons_zero, List.getD_cons_succ]
    rw [w]
    by_cases hlt : k < 6 + k1
    · obtain ⟨n', q, g1, g2, g3, g4⟩ := ih (.mk 1 nul [.mk kk d ps s c []] 0 0 []) (p + 1) (by omega)
      rw [decide_eq_true (show ((k : Nat) : Int) < ((6 + k1 : Nat) : Int) by omega), bif_true, next_i (by omega)]
      simp only [encNs, encN_mk] at g1
      refine ⟨n', q, g1, by omega, by omega, ?_⟩
      simp only [szN, szT, List.length_cons, List.length_nil] at g4 ⊢
      have : nul.size = 0 := rfl
      omega
    · rw [decide_eq_false (show ¬ ((k : Nat) : Int) < ((6 + k1 : Nat) : Int) by omega), bif_false]
      refine ⟨.mk kk d ps s c [], p + 1, ?_, by omega, by omega, Nat.le_add_right _ _⟩
      rw [encN_mk]
      simp only [encNs]
theorem any_is {b : List V} (hb : Bts b) (p : Nat) (hp : p ≤ 1000) : Dn ((D T).call F_spec_l13AnyNode [rd b p]) b p 20000 40000 := by
  have hNb : ∀ d, d ≤ 4 → NN d ≤ 15540 ∧ SS d ≤ 31080 := fun d hd => by
    have : d = 0 ∨ d = 1 ∨ d = 2 ∨ d = 3 ∨ d = 4 := by omega
    rcases this with rfl | rfl | rfl | rfl | rfl <;> decide
  obtain ⟨d, hd, h0⟩ := one_is hb p (by omega) [1, 2, 3, 3, 4] (by decide) (by decide)
  have h0 : (D T).call F_spec_l1Rd_one [rd b p, .sl 1 [.sc (.int .i64 1), .sc (.int .i64 2), .sc (.int .i64 3), .sc (.int .i64 3), .sc (.int .i64 4)]] = _ := h0
  obtain ⟨d, rfl, hd4⟩ : ∃ d' : Nat, d = d' ∧ d' ≤ 4 := by
    simp only [List.mem_cons, List.not_mem_nil, or_false] at hd
    rcases hd with rfl | rfl | rfl | rfl | rfl
    · exact ⟨1, rfl, by decide⟩
    · exact ⟨2, rfl, by decide⟩
    · exact ⟨3, rfl, by decide⟩
    · exact ⟨3, rfl, by decide⟩
    · exact ⟨4, rfl, by decide⟩
  obtain ⟨hN, hS⟩ := hNb d hd4
  obtain ⟨n, q, g1, g2, g3, g4⟩ := node_is hb d hd4 (p + 1) (by omega)
  obtain ⟨k0, p0, a0, _⟩ := pick_is hb q (by omega) 24
  rw [c_spec_l13AnyNode, t_spec_l13AnyNode, h0]
  simp only [Option.bind_some, un_rd, l2_rd, al_rd, Bool.and_true, bif_true, unEnd_mk, unI_mk, unL_mk, List.getD_cons_zero, List.getD_cons_succ]
  rw [g1]
  simp only [Option.bind_some, un_rd, l2_rd, al_rd, Bool.and_true, bif_true, unEnd_mk, unI_mk, unL_mk, List.getD_cons_zero, List.getD_cons_succ, un_encN]
  obtain ⟨kk, dd, ps, s, c, is⟩ := n
  simp only
  rw [p0]
  simp only [Option.bind_some, un_rd, l2_rd, al_rd, Bool.and_true, bif_true, unEnd_mk, unI_mk, unL_mk, List.getD_cons_zero, List.getD_cons_succ]
  simp only [szN] at g4
  by_cases c0 : (k0 : Int) = 0
  · rw [decide_eq_true c0, bif_true]
    obtain ⟨k1, h1, a1, _⟩ := pick_is hb (q + 1) (by omega) 4
    rw [h1]
    simp only [Option.bind_some, un_rd, l2_rd, al_rd, Bool.and_true, bif_true, unEnd_mk, unI_mk, unL_mk, List.getD_cons_zero, List.getD_cons_succ]
    exact ⟨.mk (k1 : Int) dd ps s c is, q + 2, by rw [encN_mk], by omega, by omega, by simp only [szN]; omega⟩
  rw [decide_eq_false c0, bif_false]
  by_cases c1 : (k0 : Int) = 1
  · rw [decide_eq_true c1, bif_true]
    have m := many_is (.mk (.mk [0])) 8 (by decide) (by decide)
    have m : (D T).call F_spec_l1Many [.sc (.string (.mk (.mk [0]))), .sc (.int .i64 8)] = _ := m
    obtain ⟨t, ht, h1⟩ := of_is hb (q + 1) (by omega) [.mk (.mk [120]), repB (.mk (.mk [0])) 8] (by simp) (by simp)
    have h1 : (D T).call F_spec_l1Rd_of [rd b (q + 1), .sl 1 [.sc (.string (.mk (.mk [120]))), .sc (.string (repB (.mk (.mk [0])) 8))]] = _ := h1
    have hts : t.size ≤ 8 := by
      simp only [List.mem_cons, List.not_mem_nil, or_false] at ht
      rcases ht with rfl | rfl
      · decide
      · rw [repB_size]; decide
    rw [m]
    simp only [Option.bind_some, unS_enc]
    rw [h1]
    simp only [Option.bind_some, un_rd, l2_rd, al_rd, Bool.and_true, bif_true, unEnd_mk, unI_mk, unL_mk, List.getD_cons_zero, List.getD_cons_succ, unS_enc]
    rw [decide_eq_true (show dd.size + t.size ≤ 9223372036854775807 by omega), bif_true]
    exact ⟨.mk kk (dd ++ t) ps s c is, q + 2, by rw [encN_mk], by omega, by omega, by simp only [szN]; rw [ba_size]; omega⟩
  rw [decide_eq_false c1, bif_false]
  by_cases c2 : (k0 : Int) = 2
  · rw [decide_eq_true c2, bif_true]
    obtain ⟨t, ht, h1⟩ := one_is hb (q + 1) (by omega) [1, -1] (by simp) (by simp)
    have h1 : (D T).call F_spec_l1Rd_one [rd b (q + 1), .sl 1 [.sc (.int .i64 1), .sc (.int .i64 (-1))]] = _ := h1
    rw [h1]
    simp only [Option.bind_some, un_rd, l2_rd, al_rd, Bool.and_true, bif_true, unEnd_mk, unI_mk, unL_mk, List.getD_cons_zero, List.getD_cons_succ]
    exact ⟨.mk kk dd ps s (IntKind.wrap .i64 (c + t)) is, q + 2, by rw [encN_mk], by omega, by omega, by simp only [szN]; omega⟩
  rw [decide_eq_false c2, bif_false]
  by_cases c3 : (k0 : Int) = 3
  · rw [decide_eq_true c3, bif_true]
    obtain ⟨k1, h1, a1, _⟩ := pick_is hb (q + 1) (by omega) 4
    have a1 := a1 (by decide)
    have w : IntKind.wrap .i64 (6 + (k1 : Int)) = ((6 + k1 : Nat) : Int) := by rw [wrap_id (by omega) (by omega)]; omega
    obtain ⟨n', q', e1, e2, e3, e4⟩ := any_loop hb 1 (by decide) (.mk 1 nul [.mk kk dd ps s c is] 0 0 []) (q + 2) (by omega)
    simp only [encNs, encN_mk] at e1
    refine ⟨n', q', ?_, by omega, by omega, ?_⟩
    · rw [L_spec_l13AnyNode_0_eq, tL_spec_l13AnyNode_0, h1]
      simp only [Option.bind_some, un_rd, l2_rd, al_rd, Bool.and_true, bif_true, unEnd_mk, unI_mk, unL_mk, List.getD_cons_zero, List.getD_cons_succ]
      rw [w, decide_eq_true (show (0 : Int) < ((6 + k1 : Nat) : Int) by omega), bif_true, next0]
      exact e1
    · simp only [szN, szT, List.length_cons, List.length_nil] at e4
      have : nul.size = 0 := rfl
      omega
  rw [decide_eq_false c3, bif_false]
  by_cases c4 : (k0 : Int) = 4
  · rw [decide_eq_true c4, bif_true]
    obtain ⟨k1, h1, a1, _⟩ := pick_is hb (q + 1) (by omega) 4
    have a1 := a1 (by decide)
    have w : IntKind.wrap .i64 (8 * IntKind.wrap .i64 (197 + (k1 : Int))) = ((8 * (197 + k1) : Nat) : Int) := by rw [wrap_id (n := 197 + (k1 : Int)) (by omega) (by omega), wrap_id (by omega) (by omega)]; omega
    have m := many_is (.mk (.mk [1])) (8 * (197 + k1)) (by show 1 * _ ≤ _; omega) (by omega)
    rw [h1]
    simp only [Option.bind_some, un_rd, l2_rd, al_rd, Bool.and_true, bif_true, unEnd_mk, unI_mk, unL_mk, List.getD_cons_zero, List.getD_cons_succ]
    rw [w, m]
    simp only [Option.bind_some, unS_enc]
    refine ⟨.mk 1 (repB (.mk (.mk [1])) (8 * (197 + k1))) [] 0 0 [], q + 2, by rw [encN_mk]; simp only [encNs], by omega, by omega, ?_⟩
    simp only [szN, szT, List.length_nil]
    rw [repB_size]
    show 1 * _ + _ ≤ _
    omega
  rw [decide_eq_false c4, bif_false]
  by_cases c5 : (k0 : Int) = 5
  · rw [decide_eq_true c5, bif_true]
    obtain ⟨t, ht, h1⟩ := one_is hb (q + 1) (by omega) [999, 1000, 1001] (by simp) (by simp)
    have h1 : (D T).call F_spec_l1Rd_one [rd b (q + 1), .sl 1 [.sc (.int .i64 999), .sc (.int .i64 1000), .sc (.int .i64 1001)]] = _ := h1
    rw [h1]
    simp only [Option.bind_some, un_rd, l2_rd, al_rd, Bool.and_true, bif_true, unEnd_mk, unI_mk, unL_mk, List.getD_cons_zero, List.getD_cons_succ]
    exact ⟨.mk 2 nul [] 0 t [], q + 2, by rw [encN_mk]; simp only [encNs], by omega, by omega, by simp only [szN, szT, List.length_nil]; show 0 + _ ≤ _; omega⟩
  rw [decide_eq_false c5, bif_false]
  exact ⟨.mk kk dd ps s c is, q + 1, by rw [encN_mk], by omega, by omega, by simp only [szN]; omega⟩
theorem open_is (l : List V) (h : Byt l) : ∃ b, Bts b ∧ (D T).call F_spec_l1Open [.sl 1 l] = some (rd b 0, []) := by
  rw [c_spec_l1Open, t_spec_l1Open]
  by_cases hl : (2000 : Int) < Int.ofNat l.length
  · have hl' : 2000 < l.length := by rw [show Int.ofNat l.length = (l.length : Int) from rfl] at hl; omega
    rw [decide_eq_true hl, bif_true, decide_eq_true (show (2000 : Int) ≤ Int.ofNat l.length by rw [show Int.ofNat l.length = (l.length : Int) from rfl]; omega), bif_true]
    exact ⟨l.take 2000, ⟨by simp; omega, fun x hx => h x (List.mem_of_mem_take hx)⟩, rfl⟩
  · rw [decide_eq_false hl, bif_false]
    exact ⟨l, ⟨by rw [show Int.ofNat l.length = (l.length : Int) from rfl] at hl; omega, h⟩, rfl⟩
def caN (n : Nod) : Nod := bif okB n then cn n else noN
theorem szN_ca (n : Nod) : szN (caN n) ≤ szN n := by
  unfold caN
  cases okB n with
  | true => exact szN_cn n
  | false => exact Nat.le_trans (show szN noN ≤ 0 by decide) (Nat.zero_le _)
theorem impl_Canon_is (n : Nod) (hn : szN n ≤ 1048576) : (D T).call F_impl_Canon [encN n] = some (encN (caN n), []) := by
  have h1 := impl_NodeOk_is n (okN_sz n hn) hn
  have h3 := fun h => impl_canon_is n hn 8 (okB_okS h)
  unfold caN
  generalize cn n = n' at h3 ⊢
  generalize okB n = b1 at h1 h3 ⊢
  obtain ⟨k, d, p, s, c, i⟩ := n
  rw [encN_mk] at h1 h3 ⊢
  rw [c_impl_Canon, t_impl_Canon, h1, Option.bind_some]
  cases b1 with
  | false => rw [bif_false, encN_no]; rfl
  | true =>
    dsimp only
    rw [unB_mk, Bool.not_true, bif_false, h3 rfl, Option.bind_some]
    dsimp only
    rw [bif_true, un_encN]
    obtain ⟨k, d, p, s, c, i⟩ := n'
    dsimp only
    rw [encN_mk]
theorem spec_Canon_is (n : Nod) (hn : szN n ≤ 1048576) : (D T).call F_spec_Canon [encN n] = some (encN (caN n), []) := by
  have h1 := spec_NodeOk_is n (okN_sz n hn) hn
  have h3 := fun h => spec_canon_is n hn 8 (okB_okS h)
  unfold caN
  generalize cn n = n' at h3 ⊢
  generalize okB n = b1 at h1 h3 ⊢
  obtain ⟨k, d, p, s, c, i⟩ := n
  rw [encN_mk] at h1 h3 ⊢
  rw [c_spec_Canon, t_spec_Canon, h1, Option.bind_some]
  cases b1 with
  | false => rw [bif_false, encN_no]; rfl
  | true =>
    dsimp only
    rw [unB_mk, Bool.not_true, bif_false, h3 rfl, Option.bind_some]
    dsimp only
    rw [bif_true]
    first
      | (rw [unSt_encN]; done)
      | (rw [un_encN]
         obtain ⟨k, d, p, s, c, i⟩ := n'
         dsimp only
         rw [encN_mk])
theorem DrawCanon_is (l : List V) (h : Byt l) : ∃ n, (D T).call F_spec_DrawCanon [.sl 1 l] = some (encN n, []) ∧ szN n ≤ 40000 := by
  obtain ⟨b, hb, ho⟩ := open_is l h
  obtain ⟨n, q, h1, _, _, h2⟩ := any_is hb 0 (by decide)
  refine ⟨n, ?_, h2⟩
  rw [c_spec_DrawCanon, t_spec_DrawCanon, ho]
  simp only [Option.bind_some, unIo_mk, unI_mk, unL_mk, List.getD_cons_zero, List.getD_cons_succ]
  rw [h1]
  simp only [Option.bind_some, un_rd, l2_rd, al_rd, Bool.and_true, bif_true, unEnd_mk, unI_mk, unL_mk, List.getD_cons_zero, List.getD_cons_succ]
  rw [unSt_encN, un_f]
  obtain ⟨k, d, p, s, c, i⟩ := n
  dsimp only
  rw [encN_mk]
  rfl
theorem law_dCanon (l : List V) (h : Byt l) : (D T).call F_laws_FnCanon [.sl 1 l] = some (.sc (.bool true), []) := by
  rw [c_laws_FnCanon, t_laws_FnCanon]
  cases decide ((1048576 : Int) < Int.ofNat l.length) with
  | true => rfl
  | false =>
  obtain ⟨n, hd, hsz⟩ := DrawCanon_is l h
  have hs : szN n ≤ 1048576 := by omega
  have hz := szN_ca n
  have hi := impl_Canon_is n hs
  have hsp := spec_Canon_is n hs
  have hq := qnNode_is (caN n) (okN_sz _ (by omega)) (caN n) (okN_sz _ (by omega))
  rw [eqN_refl] at hq
  have ho := spec_NodeOk_is n (okN_sz n hs) hs
  have ho2 := impl_NodeOk_is (caN n) (okN_sz _ (by omega)) (by omega)
  have hc2 := impl_Canon_is (caN n) (by omega)
  have ha := impl_Alike_is n (caN n) hs (by omega)
  have hw1 := impl_NodeWords_is n (okN_sz n hs) hs
  have hw2 := impl_NodeWords_is (caN n) (okN_sz _ (by omega)) (by omega)
  have key : okB n = true → okB (caN n) = true ∧ caN (caN n) = caN n ∧ alB n (caN n) = true ∧ nwN (caN n) ≤ nwN n := fun hb => by
    have e : caN n = cn n := by unfold caN; rw [hb]; rfl
    have h1 := okB_cn hb
    rw [e]
    refine ⟨h1, ?_, al_cn hb, ?_⟩
    · unfold caN; rw [h1]; exact cn_cn n 8 (okB_okS hb)
    · unfold nwN; rw [h1, hb]; exact wd_cn n 8 (okB_okS hb)
  rw [bif_false, hd, Option.bind_some, un_encN]
  generalize hC : caN n = C at hi hsp hq ho2 hc2 ha hw2 key
  obtain ⟨k, d, p, s, c, i⟩ := n
  have hr : encN C = .st [.sc (.int .i64 (match C with | .mk k _ _ _ _ _ => k)), .sc (.string (match C with | .mk _ d _ _ _ _ => d)), .sl 6 (encNs (match C with | .mk _ _ p _ _ _ => p)), .sc (.int .i64 (match C with | .mk _ _ _ s _ _ => s)), .sc (.int .i64 (match C with | .mk _ _ _ _ c _ => c)), .sl 6 (encNs (match C with | .mk _ _ _ _ _ i => i))] := by
    obtain ⟨k, d, p, s, c, i⟩ := C; rw [encN_mk]
  rw [encN_mk] at hi hsp ho ha hw1
  dsimp only
  rw [hi, Option.bind_some, un_encN]
  cases hb : okB (.mk k d p s c i) with
  | false =>
    obtain ⟨k', d', p', s', c', i'⟩ := C
    rw [encN_mk] at hsp hq
    dsimp only
    rw [hsp, Option.bind_some]
    simp only [unSt, List.length_cons, List.length_nil, hq, Option.bind_some, unB_mk, Bool.not_true, bif_false, ho, hb, Bool.not_false, bif_true, hsp, Nat.beq]
  | true =>
    obtain ⟨q1, q2, q3, q4⟩ := key hb
    rw [q2] at hc2
    rw [q3] at ha
    rw [q1] at ho2
    obtain ⟨k', d', p', s', c', i'⟩ := C
    rw [encN_mk] at hsp hq ho2 hc2 ha hw2
    dsimp only
    have hle : decide ((nwN (.mk k' d' p' s' c' i') : Int) ≤ (nwN (.mk k d p s c i) : Int)) = true := decide_eq_true (by omega)
    simp only [hsp, Option.bind_some, unSt, List.length_cons, List.length_nil, hq, unB_mk, Bool.not_true, bif_false, ho, hb, ho2, bif_true, hc2, ha, hw1, hw2, unI_mk, hle, Nat.beq]
end Go.Proofs.YtaapkkeogajfpaaDoor.VM
