/- Values (Datum): the program's comparisons, copies and sizes of them, in plain words. -/
import Derived.Test.YtmddfhjgdhjmkaaEq
set_option linter.unusedVariables false
set_option linter.unusedSimpArgs false
namespace Go.Proofs.Ytmddfhjgdhjmkaa.VM

inductive Dat where
  | mk (k n : Int) (s : ByteArray) (l : List Dat) (ns : List ByteArray)
def encS (s : ByteArray) : V := .sc (.string s)
def encI (k : IntKind) (n : Int) : V := .sc (.int k n)
mutual
def encD : Dat → V
  | .mk k n s l ns => .st [.sc (.int .i64 k), .sc (.int .i64 n), .sc (.string s), .sl 5 (encDs l), .sl 1 (ns.map encS)]
def encDs : List Dat → List V
  | [] => []
  | d :: ds => encD d :: encDs ds
end
mutual
def eqD : Dat → Dat → Bool
  | .mk k n s l ns, .mk k' n' s' l' ns' => decide (k = k') && (decide (n = n') && (sEq s s' && (decide (ns = ns') && eqDs l l')))
def eqDs : List Dat → List Dat → Bool
  | [], [] => true
  | d :: ds, e :: es => eqD d e && eqDs ds es
  | _, _ => false
end
mutual
def okD : Dat → Prop
  | .mk _ _ _ l ns => l.length * 80 ≤ reachBytes ∧ ns.length * 16 ≤ reachBytes ∧ okDs l
def okDs : List Dat → Prop
  | [] => True
  | d :: ds => okD d ∧ okDs ds
end
theorem encDs_map (l : List Dat) : encDs l = l.map encD := by
  induction l with
  | nil => rfl
  | cons d l ih => rw [encDs, ih]; rfl
theorem encDs_length (l : List Dat) : (encDs l).length = l.length := by rw [encDs_map, List.length_map]
theorem encDs_get (l : List Dat) (i : Nat) (h : i < l.length) : (encDs l)[i]? = some (encD l[i]) := by rw [encDs_map, List.getElem?_map, List.getElem?_eq_getElem h]; rfl
theorem okDs_mem : ∀ {l : List Dat}, okDs l ↔ ∀ d ∈ l, okD d
  | [] => ⟨fun _ d h => (by cases h), fun _ => trivial⟩
  | d :: l => by
    unfold okDs
    rw [List.forall_mem_cons, okDs_mem]
mutual
theorem eqD_refl : ∀ d, eqD d d = true
  | .mk k n s l ns => by unfold eqD; simp [sEq_iff.2, eqDs_refl l]
theorem eqDs_refl : ∀ l, eqDs l l = true
  | [] => rfl
  | d :: l => by unfold eqDs; rw [eqD_refl d, eqDs_refl l]; rfl
end
theorem eqDs_len : ∀ {l l' : List Dat}, eqDs l l' = true → l.length = l'.length
  | [], [], _ => rfl
  | [], _ :: _, h => by simp [eqDs] at h
  | _ :: _, [], h => by simp [eqDs] at h
  | d :: l, e :: l', h => by
    unfold eqDs at h
    rw [Bool.and_eq_true] at h
    simp [eqDs_len h.2]
theorem encD_len (d : Dat) : ∃ cs, encD d = .st cs ∧ cs.length = 5 := by cases d; exact ⟨_, rfl, rfl⟩
theorem unSt_encD {R : Type} (d : Dat) {K : Option R} : unSt 5 (encD d) K = K := by cases d; exact unSt_mk rfl
theorem wd_encD {R : Type} (d : Dat) {K : Option R} : wd 5 (encD d) K = K := by cases d; exact wd_mk rfl

/-- from the end downwards -/
theorem down {n : Nat} {Q : Nat → Prop} (h0 : Q n) (hs : ∀ i, i < n → Q (i + 1) → Q i) : ∀ i, i ≤ n → Q i := by
  intro i hi
  obtain ⟨k, rfl⟩ : ∃ k, i = n - k := ⟨n - i, by omega⟩
  clear hi
  induction k with
  | zero => exact h0
  | succ k ih =>
    by_cases hk : k < n
    · have := hs (n - (k + 1)) (by omega)
      rw [show n - (k + 1) + 1 = n - k by omega] at this
      exact this ih
    · rw [show n - (k + 1) = n - k by omega]; exact ih
theorem reach_lt {n b : Nat} (h : n * (b + 1) ≤ reachBytes) : n ≤ 140737488351232 := by
  have : reachBytes = 140737488351232 := rfl
  have h2 : n * 1 ≤ n * (b + 1) := Nat.mul_le_mul_left _ (by omega)
  omega
theorem next_i {i : Nat} (h : i ≤ 140737488351232) : IntKind.wrap .i64 ((i : Int) + 1) = ((i + 1 : Nat) : Int) := by rw [wrap_id (by omega) (by omega)]; omega

abbrev bo (b : Bool) : Option Res := some (.sc (.bool b), [])

abbrev nu (n : Int) : Option Res := some (.sc (.int .i64 n), [])
theorem encSs_get (ns : List ByteArray) (i : Nat) (h : i < ns.length) : (ns.map encS)[i]? = some (.sc (.string ns[i])) := by rw [List.getElem?_map, List.getElem?_eq_getElem h]; rfl
theorem lt_ofNat {i n : Nat} (h : i < n) : decide ((i : Int) < Int.ofNat n) = true := decide_eq_true (by simpa using h)
theorem nlt_ofNat {n : Nat} : decide ((n : Int) < Int.ofNat n) = false := decide_eq_false (by simp)
theorem le_ofNat {i : Nat} : decide ((0 : Int) ≤ (i : Int)) = true := decide_eq_true (by omega)

/-! ### sizes: some number -/
theorem L13_tot (ns : List ByteArray) (h : ns.length ≤ 140737488351232) : ∀ i, i ≤ ns.length → ∀ i1 i2, ∃ r, L13_0 (D T) (ns.map encS) i1 i2 (i : Int) = nu r := by
  refine down (fun i1 i2 => ?_) fun i hi ih i1 i2 => ?_
  · rw [L13_0_eq, tL13_0, List.length_map, nlt_ofNat]
    exact ⟨i1, rfl⟩
  · rw [L13_0_eq, tL13_0, List.length_map, lt_ofNat hi, bif_true, ix_at (encSs_get ns i hi)]
    simp only [ce_sc, unS_mk]
    rw [next_i (by omega)]
    cases decide (IntKind.wrap .i64 (i1 - Int.ofNat ns[i].size) < 0)
    · exact ih _ _
    · exact ⟨_, rfl⟩
theorem c13_tot (ns : List ByteArray) (h : ns.length ≤ 140737488351232) (i : Int) : ∃ r, (D T).call 13 [.sl 1 (ns.map encS), .sc (.int .i64 i)] = nu r := by
  rw [c13, t13]
  cases decide (IntKind.wrap .i64 (i - Int.ofNat (ns.map encS).length) < 0)
  · exact L13_tot ns h 0 (Nat.zero_le _) _ _
  · exact ⟨_, rfl⟩
mutual
theorem c5_tot : ∀ d, okD d → ∀ i, ∃ r, (D T).call 5 [encD d, .sc (.int .i64 i)] = nu r
  | .mk k n s l ns, h, i => by
    unfold okD at h
    unfold encD
    rw [c5, t5]
    cases decide (IntKind.wrap .i64 (i - Int.ofNat s.size) < 0)
    · obtain ⟨r, hr⟩ := c12_tot l (reach_lt (b := 79) h.1) h.2.2 (IntKind.wrap .i64 (i - Int.ofNat s.size))
      simp only [bif_false, hr, Option.bind_some, unI_mk]
      cases decide (r < 0)
      · obtain ⟨r2, hr2⟩ := c13_tot ns (reach_lt (b := 15) h.2.1) r
        simp only [bif_false, hr2, Option.bind_some, unI_mk]
        cases decide (r2 < 0) <;> exact ⟨_, rfl⟩
      · exact ⟨_, rfl⟩
    · exact ⟨_, rfl⟩
theorem c12_tot : ∀ l, l.length ≤ 140737488351232 → okDs l → ∀ i, ∃ r, (D T).call 12 [.sl 5 (encDs l), .sc (.int .i64 i)] = nu r
  | l, h, hl, i => by
    have hd : ∀ (j : Nat) (hj : j < l.length) i, ∃ r, (D T).call 5 [encD l[j], .sc (.int .i64 i)] = nu r := fun j hj i => c5_all l hl j hj i
    have hL : ∀ j, j ≤ l.length → ∀ i1 i2, ∃ r, L12_0 (D T) (encDs l) i1 i2 (j : Int) = nu r := by
      refine down (fun i1 i2 => ?_) fun j hj ih i1 i2 => ?_
      · rw [L12_0_eq, tL12_0, encDs_length, nlt_ofNat]
        exact ⟨i1, rfl⟩
      · rw [L12_0_eq, tL12_0, encDs_length, lt_ofNat hj, bif_true, ix_at (encDs_get l j hj), unSt_encD]
        obtain ⟨r, hr⟩ := hd j hj i1
        simp only [hr, Option.bind_some, unI_mk]
        rw [next_i (by omega)]
        cases decide (r < 0)
        · exact ih _ _
        · exact ⟨_, rfl⟩
    rw [c12, t12]
    cases decide (IntKind.wrap .i64 (i - Int.ofNat (encDs l).length) < 0)
    · exact hL 0 (Nat.zero_le _) _ _
    · exact ⟨_, rfl⟩
theorem c5_all : ∀ l, okDs l → ∀ (j : Nat) (hj : j < l.length) i, ∃ r, (D T).call 5 [encD l[j], .sc (.int .i64 i)] = nu r
  | [], _, j, hj, i => absurd hj (Nat.not_lt_zero _)
  | d :: l, h, 0, hj, i => c5_tot d h.1 i
  | d :: l, h, j + 1, hj, i => c5_all l h.2 j (Nat.lt_of_succ_lt_succ hj) i
end

/-! ### copies -/
theorem cp_step {l l2 : List V} {i : Nat} {x : V} (hl : l2.length = l.length) (h : l2.take i = l.take i) (hx : l[i]? = some x) : (l2.set i x).take (i + 1) = l.take (i + 1) := by
  have hi : i < l.length := (List.getElem?_eq_some_iff.1 hx).1
  rw [List.take_add_one, List.take_add_one, hx, List.getElem?_set_self (by omega), List.take_set_of_le (Nat.le_refl _), h]
theorem cp_end {l l2 : List V} (hl : l2.length = l.length) (h : l2.take l.length = l.take l.length) : l2 = l := by
  rw [List.take_length, ← hl, List.take_length] at h; exact h
theorem setCe_at {x c : V} (h : ∀ cs, x ≠ .st cs) : setCe x 0 c = c := by unfold setCe; split <;> first | exact absurd rfl (h _) | rfl
theorem L16_cp (ns : List ByteArray) (h : ns.length ≤ 140737488351232) : ∀ i, i ≤ ns.length → ∀ l2, l2.length = ns.length → (∀ y ∈ l2, ∀ cs, y ≠ .st cs) → l2.take i = (ns.map encS).take i → L16_0 (D T) (ns.map encS) (i : Int) l2 = some (.sl 1 (ns.map encS), []) := by
  refine down (fun l2 hl hn ht => ?_) fun i hi ih l2 hl hn ht => ?_
  · have e : l2 = ns.map encS := cp_end (by simpa using hl) (by simpa using ht)
    rw [L16_0_eq, tL16_0, List.length_map, nlt_ofNat, bif_false, e]
  · have hi2 : i < l2.length := by omega
    have hg : l2[i]? = some l2[i] := List.getElem?_eq_getElem _
    rw [L16_0_eq, tL16_0, List.length_map, lt_ofNat hi, bif_true, ix_at (encSs_get ns i hi)]
    simp only [ce_sc, unS_mk]
    rw [hl, lt_ofNat hi, le_ofNat, Bool.and_true, bif_true, Int.toNat_natCast, exN_at hg, next_i (by omega), setCe_at (hn _ (List.getElem_mem _))]
    refine ih _ (by simpa using hl) (fun y hy cs => ?_) (cp_step (by simpa using hl) ht (encSs_get ns i hi))
    rcases List.mem_or_eq_of_mem_set hy with h1 | h1
    · exact hn y h1 cs
    · rw [h1]; intro e; cases e
theorem mk_chk {n b : Nat} (h : n * b ≤ reachBytes) : ((decide (0 ≤ Int.ofNat n) && decide (Int.ofNat n = Int.ofNat n)) && decide ((Int.toNat (Int.ofNat n)) * b ≤ 140737488355328)) = true := by
  have : reachBytes = 140737488351232 := rfl
  have h1 : decide (0 ≤ Int.ofNat n) = true := decide_eq_true (Int.natCast_nonneg n)
  have h2 : decide ((Int.toNat (Int.ofNat n)) * b ≤ 140737488355328) = true := decide_eq_true (by rw [show Int.toNat (Int.ofNat n) = n from rfl]; omega)
  rw [h1, h2]; simp
theorem c16_cp (ns : List ByteArray) (h : ns.length * 16 ≤ reachBytes) : (D T).call 16 [.sl 1 (ns.map encS)] = some (.sl 1 (ns.map encS), []) := by
  rw [c16, t16, List.length_map, mk_chk h, bif_true]
  exact L16_cp ns (reach_lt (b := 15) h) 0 (Nat.zero_le _) _ (by simp) (fun y hy cs e => by rw [List.eq_of_mem_replicate hy] at e; cases e) (by simp)
mutual
theorem c7_cp : ∀ d, okD d → (D T).call 7 [encD d] = some (encD d, [])
  | .mk k n s l ns, h => by
    unfold okD at h
    unfold encD
    rw [c7, t7, c15_cp l h.1 h.2.2, Option.bind_some, unL_mk, c16_cp ns h.2.1, Option.bind_some, unL_mk]
theorem c15_cp : ∀ l, l.length * 80 ≤ reachBytes → okDs l → (D T).call 15 [.sl 5 (encDs l)] = some (.sl 5 (encDs l), [])
  | l, h, hl => by
    have hd : ∀ (j : Nat) (hj : j < l.length), (D T).call 7 [encD l[j]] = some (encD l[j], []) := fun j hj => c7_all l hl j hj
    have hr := reach_lt (b := 79) h
    have hL : ∀ i, i ≤ l.length → ∀ l2, l2.length = l.length → l2.take i = (encDs l).take i → L15_0 (D T) (encDs l) (i : Int) l2 = some (.sl 5 (encDs l), []) := by
      refine down (fun l2 hl ht => ?_) fun i hi ih l2 hl ht => ?_
      · have e : l2 = encDs l := cp_end (by rw [encDs_length]; exact hl) (by rw [encDs_length]; exact ht)
        rw [L15_0_eq, tL15_0, encDs_length, nlt_ofNat, bif_false, e]
      · have hi2 : i < l2.length := by omega
        have hg : l2[i]? = some l2[i] := List.getElem?_eq_getElem _
        rw [L15_0_eq, tL15_0, encDs_length, lt_ofNat hi, bif_true, ix_at (encDs_get l i hi), unSt_encD, hd i hi, Option.bind_some, unSt_encD, hl, lt_ofNat hi, le_ofNat, Bool.and_true, bif_true, wd_encD, Int.toNat_natCast, exN_at hg, next_i (by omega)]
        exact ih _ (by simpa using hl) (cp_step (by rw [encDs_length]; exact hl) ht (encDs_get l i hi))
    rw [c15, t15, encDs_length, mk_chk h, bif_true]
    exact hL 0 (Nat.zero_le _) _ (by simp) (by simp)
theorem c7_all : ∀ l, okDs l → ∀ (j : Nat) (hj : j < l.length), (D T).call 7 [encD l[j]] = some (encD l[j], [])
  | [], _, j, hj => absurd hj (Nat.not_lt_zero _)
  | d :: l, h, 0, hj => c7_cp d h.1
  | d :: l, h, j + 1, hj => c7_all l h.2 j (Nat.lt_of_succ_lt_succ hj)
end

/-! ### comparisons -/
theorem dec_drop {α : Type} [DecidableEq α] {xs ys : List α} {i : Nat} (h1 : i < xs.length) (h2 : i < ys.length) : decide (xs.drop i = ys.drop i) = (decide (xs[i] = ys[i]) && decide (xs.drop (i + 1) = ys.drop (i + 1))) := by
  have e1 := List.drop_eq_getElem_cons h1
  have e2 := List.drop_eq_getElem_cons h2
  rw [e1, e2, Bool.eq_iff_iff]
  simp only [decide_eq_true_eq, Bool.and_eq_true, List.cons.injEq]
theorem dec_drop_end {α : Type} [DecidableEq α] {xs ys : List α} (h : ys.length = xs.length) : decide (xs.drop xs.length = ys.drop xs.length) = true := by
  rw [List.drop_length, ← h, List.drop_length]; simp
theorem eqDs_drop {xs ys : List Dat} {i : Nat} (h1 : i < xs.length) (h2 : i < ys.length) : eqDs (xs.drop i) (ys.drop i) = (eqD xs[i] ys[i] && eqDs (xs.drop (i + 1)) (ys.drop (i + 1))) := by
  rw [List.drop_eq_getElem_cons h1, List.drop_eq_getElem_cons h2, eqDs]
theorem eqDs_drop_end {xs ys : List Dat} (h : ys.length = xs.length) : eqDs (xs.drop xs.length) (ys.drop xs.length) = true := by
  rw [List.drop_length, ← h, List.drop_length, eqDs]
theorem lt_ofNat0 {n : Nat} (h : 0 < n) : decide ((0 : Int) < Int.ofNat n) = true := decide_eq_true (by simpa using h)
theorem ix_at0 {R : Type} {xs : List V} {x : V} {K : V → Option R} (h : xs[0]? = some x) : ix xs 0 K = K x := ix_at (n := 0) h
theorem next0 : IntKind.wrap .i64 (0 + 1) = ((1 : Nat) : Int) := by rw [wrap_id (by omega) (by omega)]; rfl
theorem L20_eqs (xs ys : List ByteArray) (h : ys.length = xs.length) (hx : xs.length ≤ 140737488351232) (b : Bool) : ∀ i, i ≤ xs.length → L20_0 (D T) (xs.map encS) (ys.map encS) b (i : Int) = bo (decide (xs.drop i = ys.drop i)) := by
  refine down ?_ fun i hi ih => ?_
  · rw [L20_0_eq, tL20_0, List.length_map, nlt_ofNat, dec_drop_end h]; rfl
  · rw [L20_0_eq, tL20_0, List.length_map, lt_ofNat hi, bif_true, ix_at (encSs_get xs i hi), ce_sc, unS_mk, ix_at (encSs_get ys i (by omega)), ce_sc, unS_mk, next_i (by omega), ih, dec_drop hi (by omega), sEq_dec]
    cases decide (xs[i] = ys[i]) <;> rfl
theorem c20_eqs (xs ys : List ByteArray) (hx : xs.length ≤ 140737488351232) : (D T).call 20 [.sl 1 (xs.map encS), .sl 1 (ys.map encS)] = bo (decide (xs = ys)) := by
  rw [c20, t20]
  simp only [List.length_map]
  by_cases h : ys.length = xs.length
  · have := L20_eqs xs ys h hx false 0 (Nat.zero_le _)
    simp only [h, decide_true, Bool.not_true, bif_false]
    exact this
  · have h1 : decide (Int.ofNat xs.length = Int.ofNat ys.length) = false := decide_eq_false (by simp; omega)
    have h2 : decide (xs = ys) = false := decide_eq_false (fun e => h (by rw [e]))
    rw [h1, h2]; rfl
theorem L17_1_eqs (xs ys : List ByteArray) (h : ys.length = xs.length) (hx : xs.length ≤ 140737488351232) (b : Bool) : ∀ i, i ≤ xs.length → ∀ k, L17_1 (D T) (xs.map encS) (ys.map encS) b k (Int.ofNat xs.length) (i : Int) = bo (decide (xs.drop i = ys.drop i)) := by
  refine down (fun k => ?_) fun i hi ih k => ?_
  · rw [L17_1_eq, tL17_1, nlt_ofNat, dec_drop_end h]; rfl
  · rw [L17_1_eq, tL17_1, lt_ofNat hi, bif_true, ix_at (encSs_get xs i hi), ce_sc, unS_mk, ix_at (encSs_get ys i (by omega)), ce_sc, unS_mk, next_i (by omega), ih, dec_drop hi (by omega), sEq_dec]
    cases decide (xs[i] = ys[i]) <;> rfl
theorem c17_eqs (xs ys : List ByteArray) (hx : xs.length ≤ 140737488351232) : (D T).call 17 [.sl 1 (xs.map encS), .sl 1 (ys.map encS)] = bo (decide (xs = ys)) := by
  rw [c17, t17]
  simp only [List.length_map]
  by_cases h : ys.length = xs.length
  · simp only [h, decide_true, Bool.not_true, bif_false]
    rw [L17_0_eq, tL17_0]
    by_cases h0 : 0 < xs.length
    · have h1 := L17_1_eqs xs ys h hx false 1 (by omega) 0
      rw [lt_ofNat0 h0, bif_true, ix_at0 (encSs_get xs 0 h0), ce_sc, unS_mk, ix_at0 (encSs_get ys 0 (by omega)), ce_sc, unS_mk, next0, h1, sEq_dec]
      have := dec_drop (xs := xs) (ys := ys) (i := 0) h0 (by omega)
      rw [List.drop_zero, List.drop_zero] at this
      rw [this]
      cases decide (xs[0] = ys[0]) <;> rfl
    · have e1 : xs = [] := List.eq_nil_of_length_eq_zero (by omega)
      have e2 : ys = [] := List.eq_nil_of_length_eq_zero (by omega)
      subst e1; subst e2; rfl
  · have h1 : decide (Int.ofNat xs.length = Int.ofNat ys.length) = false := decide_eq_false (by simp; omega)
    have h2 : decide (xs = ys) = false := decide_eq_false (fun e => h (by rw [e]))
    rw [h1, h2]; rfl

mutual
theorem c9_eqd : ∀ d e, okD d → okD e → (D T).call 9 [encD d, encD e] = bo (eqD d e)
  | .mk k n s l ns, .mk k' n' s' l' ns', h, h' => by
    unfold okD at h h'
    unfold encD
    rw [c9, t9, c19_eqd l l' (reach_lt (b := 79) h.1) h.2.2 h'.2.2, c20_eqs ns ns' (reach_lt (b := 15) h.2.1), sEq_dec]
    simp only [Option.bind_some, unB_mk, eqD, sEq_dec]
    cases decide (k = k') <;> cases decide (n = n') <;> cases decide (s = s') <;> cases eqDs l l' <;> cases decide (ns = ns') <;> rfl
theorem c19_eqd : ∀ xs ys : List Dat, xs.length ≤ 140737488351232 → okDs xs → okDs ys → (D T).call 19 [.sl 5 (encDs xs), .sl 5 (encDs ys)] = bo (eqDs xs ys)
  | xs, ys, hx, h1, h2 => by
    rw [c19, t19]
    simp only [encDs_length]
    by_cases h : ys.length = xs.length
    · have he := c9_all xs ys h1 h2
      have hL : ∀ i, i ≤ xs.length → L19_0 (D T) (encDs xs) (encDs ys) false (i : Int) = bo (eqDs (xs.drop i) (ys.drop i)) := by
        refine down ?_ fun i hi ih => ?_
        · rw [L19_0_eq, tL19_0, encDs_length, nlt_ofNat, eqDs_drop_end h]; rfl
        · rw [L19_0_eq, tL19_0, encDs_length, lt_ofNat hi, bif_true, ix_at (encDs_get xs i hi), unSt_encD, ix_at (encDs_get ys i (by omega)), unSt_encD, he i hi (by omega), Option.bind_some, unB_mk, next_i (by omega), ih, eqDs_drop hi (by omega)]
          cases eqD xs[i] (ys[i]'(by omega)) <;> rfl
      simp only [h, decide_true, Bool.not_true, bif_false]
      exact hL 0 (Nat.zero_le _)
    · have h1 : decide (Int.ofNat xs.length = Int.ofNat ys.length) = false := decide_eq_false (by simp; omega)
      have h2 : eqDs xs ys = false := by
        cases e : eqDs xs ys
        · rfl
        · exact absurd (eqDs_len e).symm h
      rw [h1, h2]; rfl
theorem c9_all : ∀ xs ys : List Dat, okDs xs → okDs ys → ∀ (i : Nat) (h1 : i < xs.length) (h2 : i < ys.length), (D T).call 9 [encD xs[i], encD ys[i]] = bo (eqD xs[i] ys[i])
  | [], _, _, _, i, h1, _ => absurd h1 (Nat.not_lt_zero _)
  | _ :: _, [], _, _, i, _, h2 => absurd h2 (Nat.not_lt_zero _)
  | x :: xs, y :: ys, hx, hy, 0, h1, h2 => c9_eqd x y hx.1 hy.1
  | x :: xs, y :: ys, hx, hy, i + 1, h1, h2 => c9_all xs ys hx.2 hy.2 i (Nat.lt_of_succ_lt_succ h1) (Nat.lt_of_succ_lt_succ h2)
end

theorem L14_1_eqs (xs ys : List ByteArray) (h : ys.length = xs.length) (hx : xs.length ≤ 140737488351232) (x0 x1 : V) (b : Bool) (i3 i5 i6 : Int) (s7 : ByteArray) (l8 : List V) (i10 i11 : Int) (s12 : ByteArray) (l13 : List V) :
    ∀ i, i ≤ xs.length → L14_1 (D T) x0 x1 b i3 (i : Int) i5 i6 s7 l8 (xs.map encS) i10 i11 s12 l13 (ys.map encS) = bo (decide (xs.drop i = ys.drop i)) := by
  refine down ?_ fun i hi ih => ?_
  · rw [L14_1_eq, tL14_1, List.length_map, nlt_ofNat, dec_drop_end h]; rfl
  · rw [L14_1_eq, tL14_1, List.length_map, lt_ofNat hi, bif_true, ix_at (encSs_get xs i hi), ce_sc, unS_mk, ix_at (encSs_get ys i (by omega)), ce_sc, unS_mk, next_i (by omega), ih, dec_drop hi (by omega), sEq_dec]
    cases decide (xs[i] = ys[i]) <;> rfl
theorem len_ne {xs ys : List Dat} (h : ¬ ys.length = xs.length) : eqDs xs ys = false := by
  cases e : eqDs xs ys
  · rfl
  · exact absurd (eqDs_len e).symm h
theorem dec_len {a b : Nat} (h : ¬ b = a) : decide (Int.ofNat a = Int.ofNat b) = false := decide_eq_false (by simp; omega)
theorem dec_len_eq {a b : Nat} (h : b = a) : decide (Int.ofNat a = Int.ofNat b) = true := decide_eq_true (by rw [h])
theorem dec_ne {xs ys : List ByteArray} (h : ¬ ys.length = xs.length) : decide (xs = ys) = false := decide_eq_false (fun e => h (by rw [e]))
mutual
theorem c14_eqd : ∀ d e, okD d → okD e → (D T).call 14 [encD d, encD e] = bo (eqD d e)
  | .mk k n s l ns, .mk k' n' s' l' ns', h, h' => by
    unfold okD at h h'
    have hl := reach_lt (b := 79) h.1
    have hn := reach_lt (b := 15) h.2.1
    have he := c14_all l l' h.2.2 h'.2.2
    unfold encD
    rw [c14, t14, eqD, encDs_length, encDs_length, List.length_map, List.length_map]
    cases decide (k = k')
    · rfl
    cases decide (n = n')
    · rfl
    cases sEq s s'
    · rfl
    by_cases h1 : l'.length = l.length
    case neg => rw [dec_len h1, len_ne h1, Bool.and_false]; rfl
    by_cases h2 : ns'.length = ns.length
    case neg => rw [dec_len_eq h1, dec_len h2, dec_ne h2]; rfl
    rw [dec_len_eq h1, dec_len_eq h2]
    simp only [Bool.not_true, bif_false, Bool.true_and]
    have hL : ∀ i, i ≤ l.length → ∀ x0 x1 i4 i5 s6 i9 i10 s11, L14_0 (D T) x0 x1 false (i : Int) i4 i5 s6 (encDs l) (ns.map encS) i9 i10 s11 (encDs l') (ns'.map encS) = bo (eqDs (l.drop i) (l'.drop i) && decide (ns = ns')) := by
      refine down (fun x0 x1 i4 i5 s6 i9 i10 s11 => ?_) fun i hi ih x0 x1 i4 i5 s6 i9 i10 s11 => ?_
      · rw [L14_0_eq, tL14_0, encDs_length, nlt_ofNat, eqDs_drop_end h1, bif_false]
        exact L14_1_eqs ns ns' h2 hn x0 x1 false _ i4 i5 s6 _ i9 i10 s11 _ 0 (Nat.zero_le _)
      · rw [L14_0_eq, tL14_0, encDs_length, lt_ofNat hi, bif_true, ix_at (encDs_get l i hi), unSt_encD, ix_at (encDs_get l' i (by omega)), unSt_encD, he i hi (by omega), Option.bind_some, unB_mk, next_i (by omega), ih, eqDs_drop hi (by omega)]
        cases eqD l[i] (l'[i]'(by omega)) <;> rfl
    rw [Bool.and_comm]
    exact hL 0 (Nat.zero_le _) _ _ _ _ _ _ _ _
theorem c14_all : ∀ xs ys : List Dat, okDs xs → okDs ys → ∀ (i : Nat) (h1 : i < xs.length) (h2 : i < ys.length), (D T).call 14 [encD xs[i], encD ys[i]] = bo (eqD xs[i] ys[i])
  | [], _, _, _, i, h1, _ => absurd h1 (Nat.not_lt_zero _)
  | _ :: _, [], _, _, i, _, h2 => absurd h2 (Nat.not_lt_zero _)
  | x :: xs, y :: ys, hx, hy, 0, h1, h2 => c14_eqd x y hx.1 hy.1
  | x :: xs, y :: ys, hx, hy, i + 1, h1, h2 => c14_all xs ys hx.2 hy.2 i (Nat.lt_of_succ_lt_succ h1) (Nat.lt_of_succ_lt_succ h2)
end
theorem c6_eqd (d e : Dat) (h : okD d) (h' : okD e) : (D T).call 6 [encD d, encD e] = bo (eqD d e) := by
  have := c14_eqd d e h h'
  obtain ⟨k, n, s, l, ns⟩ := d
  obtain ⟨k', n', s', l', ns'⟩ := e
  unfold encD at this ⊢
  rw [c6, t6, this]
  rfl
/-- the cells of a value, one by one -/
theorem un_encD {R : Type} (d : Dat) (K : Int → Int → ByteArray → List V → List V → Option R) : (unSt 5 (encD d) (unSt 5 (encD d) (unI .i64 (ce (encD d) 0) fun a => unI .i64 (ce (encD d) 1) fun b => unS (ce (encD d) 2) fun c => unL 5 (ce (encD d) 3) fun e => unL 1 (ce (encD d) 4) fun f => K a b c e f))) =
    match d with | .mk k n s l ns => K k n s (encDs l) (ns.map encS) := by
  obtain ⟨k, n, s, l, ns⟩ := d
  unfold encD
  rfl
mutual
theorem c8_eqd : ∀ d e, okD d → okD e → (D T).call 8 [encD d, encD e] = bo (eqD d e)
  | .mk k n s l ns, .mk k' n' s' l' ns', h, h' => by
    unfold okD at h h'
    unfold encD
    rw [c8, t8, c18_eqd l l' (reach_lt (b := 79) h.1) h.2.2 h'.2.2, c17_eqs ns ns' (reach_lt (b := 15) h.2.1)]
    simp only [Option.bind_some, unB_mk, eqD]
    cases decide (k = k') <;> cases decide (n = n') <;> cases sEq s s' <;> cases eqDs l l' <;> cases decide (ns = ns') <;> rfl
theorem c18_eqd : ∀ xs ys : List Dat, xs.length ≤ 140737488351232 → okDs xs → okDs ys → (D T).call 18 [.sl 5 (encDs xs), .sl 5 (encDs ys), .sc (.func (.func 8) (.mk []) (.mk []))] = bo (eqDs xs ys)
  | xs, ys, hx, h1, h2 => by
    rw [c18, t18]
    simp only [encDs_length]
    by_cases h : ys.length = xs.length
    case neg => rw [dec_len h, len_ne h]; rfl
    have he := c8_all xs ys h1 h2
    have hL : ∀ i, i ≤ xs.length → ∀ k i7 i8 s9 l10 l11 i12 i13 s14 l15 l16, L18_1 (D T) (encDs xs) (encDs ys) false k (encDs xs) (Int.ofNat xs.length) (i : Int) i7 i8 s9 l10 l11 i12 i13 s14 l15 l16 = bo (eqDs (xs.drop i) (ys.drop i)) := by
      refine down (fun k i7 i8 s9 l10 l11 i12 i13 s14 l15 l16 => ?_) fun i hi ih k i7 i8 s9 l10 l11 i12 i13 s14 l15 l16 => ?_
      · rw [L18_1_eq, tL18_1, nlt_ofNat, eqDs_drop_end h]; rfl
      · have h3 := he i hi (by omega)
        rw [L18_1_eq, tL18_1, lt_ofNat hi, bif_true, ix_at (encDs_get xs i hi), un_encD, eqDs_drop hi (by omega)]
        generalize xs[i] = x at h3 ⊢
        obtain ⟨a, b, c, d, e⟩ := x
        simp only
        rw [ix_at (encDs_get ys i (by omega)), un_encD]
        generalize (ys[i]'(by omega)) = y at h3 ⊢
        obtain ⟨a', b', c', d', e'⟩ := y
        unfold encD at h3
        simp only [h3, Option.bind_some, unB_mk]
        rw [next_i (by omega), ih]
        cases eqD (.mk a b c d e) (.mk a' b' c' d' e') <;> rfl
    rw [dec_len_eq h, Bool.not_true, bif_false, L18_0_eq, tL18_0]
    by_cases h0 : 0 < xs.length
    · have h3 := he 0 h0 (by omega)
      have h4 := eqDs_drop (xs := xs) (ys := ys) (i := 0) h0 (by omega)
      rw [List.drop_zero, List.drop_zero] at h4
      rw [lt_ofNat0 h0, bif_true, ix_at0 (encDs_get xs 0 h0), un_encD, h4]
      generalize xs[0] = x at h3 ⊢
      obtain ⟨a, b, c, d, e⟩ := x
      simp only
      rw [ix_at0 (encDs_get ys 0 (by omega)), un_encD]
      generalize (ys[0]'(by omega)) = y at h3 ⊢
      obtain ⟨a', b', c', d', e'⟩ := y
      unfold encD at h3
      simp only [h3, Option.bind_some, unB_mk]
      rw [next0, hL 1 (by omega)]
      cases eqD (.mk a b c d e) (.mk a' b' c' d' e') <;> rfl
    · have e1 : xs = [] := List.eq_nil_of_length_eq_zero (by omega)
      have e2 : ys = [] := List.eq_nil_of_length_eq_zero (by omega)
      subst e1; subst e2; rfl
theorem c8_all : ∀ xs ys : List Dat, okDs xs → okDs ys → ∀ (i : Nat) (h1 : i < xs.length) (h2 : i < ys.length), (D T).call 8 [encD xs[i], encD ys[i]] = bo (eqD xs[i] ys[i])
  | [], _, _, _, i, h1, _ => absurd h1 (Nat.not_lt_zero _)
  | _ :: _, [], _, _, i, _, h2 => absurd h2 (Nat.not_lt_zero _)
  | x :: xs, y :: ys, hx, hy, 0, h1, h2 => c8_eqd x y hx.1 hy.1
  | x :: xs, y :: ys, hx, hy, i + 1, h1, h2 => c8_all xs ys hx.2 hy.2 i (Nat.lt_of_succ_lt_succ h1) (Nat.lt_of_succ_lt_succ h2)
end
end Go.Proofs.Ytmddfhjgdhjmkaa.VM
