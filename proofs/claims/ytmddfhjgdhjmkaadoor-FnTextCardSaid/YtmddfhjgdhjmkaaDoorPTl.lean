/- Texts: the drawn laws. -/
import Derived.Test.YtmddfhjgdhjmkaaDoorPQn
import Derived.Test.YtmddfhjgdhjmkaaDoorPAl
import Derived.Test.YtmddfhjgdhjmkaaDoorPDn
set_option linter.unusedVariables false
set_option linter.unusedSimpArgs false
namespace Go.Proofs.YtmddfhjgdhjmkaaDoor.VM

/-! ### the node of a text -/
def z1 : ByteArray := .mk (.mk [0])
def hasZ (l : List UInt8) : Bool := l.any (· == 0)
def tnN (s : ByteArray) : Nod := bif decide (s.size ≤ 100) && !hasZ (bl s) then .mk 2 (s ++ z1) [] 2 ((s.size : Int) + 1) [] else noN
theorem ib_has (l : List UInt8) : decide (0 ≤ Lib.indexByte l 0) = hasZ l := by
  induction l with
  | nil => rfl
  | cons x l ih =>
    unfold hasZ at ih ⊢
    rw [List.any_cons, ← ih]
    by_cases h : x = 0
    · subst h; simp [Lib.indexByte]
    · have h' : (x == 0) = false := by simpa using h
      rw [h', Bool.false_or]
      have e : Lib.indexByte (x :: l) 0 = if Lib.indexByte l 0 == -1 then -1 else Lib.indexByte l 0 + 1 := by rw [Lib.indexByte]; simp [h']
      rw [e]
      have e1 : -1 ≤ Lib.indexByte l 0 := by
        clear ih e h h'
        induction l with
        | nil => simp [Lib.indexByte]
        | cons z m ihm => unfold Lib.indexByte; split <;> (try split) <;> omega
      rw [Bool.eq_iff_iff, decide_eq_true_eq, decide_eq_true_eq]
      by_cases hm : Lib.indexByte l 0 = -1
      · rw [if_pos (by simpa using hm), hm]
      · rw [if_neg (by simpa using hm)]; omega
theorem encN_tn (s : ByteArray) : encN (.mk 2 (s ++ z1) [] 2 ((s.size : Int) + 1) []) = .st [.sc (.int .i64 2), .sc (.string (s ++ .mk (.mk [0]))), .sl 6 [], .sc (.int .i64 2), .sc (.int .i64 ((s.size : Int) + 1)), .sl 6 []] := by
  rw [encN_mk]; rfl
theorem w_inc {n : Nat} (h : n ≤ 1000000) : IntKind.wrap .i64 ((Int.ofNat n) + 1) = (n : Int) + 1 := by
  show IntKind.wrap .i64 ((n : Int) + 1) = _
  rw [wrap_id (by omega) (by omega)]
theorem impl_TextNode_is (s : ByteArray) (hs : s.size ≤ 1048576) : (D T).call F_impl_TextNode [.sc (.string s)] = some (encN (tnN s), []) := by
  rw [c_impl_TextNode, t_impl_TextNode, c_strings_Contains, t_strings_Contains]
  have e1 : xContains [.sc (.string s), .sc (.string (.mk (.mk [0])))] = bo (decide (0 ≤ Lib.indexByte s.data.toList 0)) := rfl
  rw [e1, ib_has]
  unfold tnN
  by_cases h : s.size ≤ 100
  case neg =>
    rw [decide_eq_true (show (100 : Int) < Int.ofNat s.size by show (100 : Int) < (s.size : Int); omega), decide_eq_false h]
    rfl
  rw [decide_eq_false (show ¬ (100 : Int) < Int.ofNat s.size by show ¬ (100 : Int) < (s.size : Int); omega), decide_eq_true h, bif_false, Option.bind_some]
  dsimp only
  rw [unB_mk, w_inc (by omega), Bool.true_and]
  cases hasZ (bl s) with
  | true => rfl
  | false =>
    rw [decide_eq_true (show s.size + (ByteArray.mk (Array.mk [0])).size ≤ 9223372036854775807 by show s.size + 1 ≤ _; omega), Bool.not_false, bif_true]
    show _ = some (encN (.mk 2 (s ++ z1) [] 2 ((s.size : Int) + 1) []), [])
    rw [encN_tn]; rfl
theorem spec_TextNode_is (s : ByteArray) (hs : s.size ≤ 1048576) : (D T).call F_spec_TextNode [.sc (.string s)] = some (encN (tnN s), []) := by
  have hL : ∀ j, j ≤ s.size → L_spec_TextNode_0 (D T) s (j : Int) 0 (.mk (.mk [])) 0 0 = some (encN (bif decide (s.size ≤ 100) && !hasZ ((bl s).drop j) then .mk 2 (s ++ z1) [] 2 ((s.size : Int) + 1) [] else noN), []) := by
    refine down ?_ fun j hj ih => ?_
    · rw [L_spec_TextNode_0_eq, tL_spec_TextNode_0, decide_eq_false (show ¬ ((s.size : Int) < Int.ofNat s.size) by show ¬ ((s.size : Int) < (s.size : Int)); omega), bif_false, ← bl_length, List.drop_length]
      rw [bl_length]
      by_cases h : s.size ≤ 100
      · rw [decide_eq_false (show ¬ (100 : Int) < Int.ofNat s.size by show ¬ (100 : Int) < (s.size : Int); omega), decide_eq_true h, bif_false, w_inc (by omega), decide_eq_true (show s.size + (ByteArray.mk (Array.mk [0])).size ≤ 9223372036854775807 by show s.size + 1 ≤ _; omega)]
        show _ = some (encN (.mk 2 (s ++ z1) [] 2 ((s.size : Int) + 1) []), [])
        rw [encN_tn]; rfl
      · rw [decide_eq_true (show (100 : Int) < Int.ofNat s.size by show (100 : Int) < (s.size : Int); omega), decide_eq_false h]
        rfl
    · have hl : j < (bl s).length := hj
      rw [L_spec_TextNode_0_eq, tL_spec_TextNode_0, decide_eq_true (show ((j : Int) < Int.ofNat s.size) by show (j : Int) < (s.size : Int); omega), bif_true, ixS_at (List.getElem?_eq_getElem hl), next_i (by omega), ih, nat0, List.drop_eq_getElem_cons hl]
      unfold hasZ
      rw [List.any_cons]
      cases (bl s)[j] == 0 <;> cases decide (s.size ≤ 100) <;> rfl
  rw [c_spec_TextNode, t_spec_TextNode]
  exact hL 0 (Nat.zero_le _)
theorem gB_of {l : List UInt8} (h : hasZ l = false) : gB (l ++ [0]) = true := by
  induction l with
  | nil => rfl
  | cons x l ih =>
    unfold hasZ at h ih
    rw [List.any_cons, Bool.or_eq_false_iff] at h
    rw [List.cons_append, gB, h.1, ih h.2]
    cases l <;> rfl
theorem gB_last : ∀ {l : List UInt8}, gB l = true → l ≠ [] → ∃ m, l = m ++ [0] ∧ hasZ m = false
  | [], _, h => absurd rfl h
  | [x], h, _ => by
    simp only [gB, List.isEmpty_nil, Bool.and_true] at h
    have : x = 0 := by simpa using h
    exact ⟨[], by rw [this]; rfl, rfl⟩
  | x :: y :: l, h, _ => by
    rw [gB, Bool.and_eq_true] at h
    obtain ⟨m, h1, h2⟩ := gB_last h.2 (by simp)
    refine ⟨x :: m, by rw [h1]; rfl, ?_⟩
    have hx : (x == 0) = false := by
      have := h.1
      simp only [List.isEmpty_cons] at this
      cases e : x == 0
      · rfl
      · rw [e] at this; cases this
    unfold hasZ at h2 ⊢
    rw [List.any_cons, hx, h2]; rfl
theorem z1_bl : bl z1 = [0] := rfl
theorem sz1 (s : ByteArray) : (s ++ z1).size = s.size + 1 := by rw [ByteArray.size_append]; rfl
theorem tn_ok {s : ByteArray} (h : s.size ≤ 100) : okB (.mk 2 (s ++ z1) [] 2 ((s.size : Int) + 1) []) = true := by
  have e : plainP (s ++ z1) 2 (s.size + 1) = true := by
    unfold plainP
    have e1 : bytesN 2 (s.size + 1) = s.size + 1 := by unfold bytesN; rw [show bitsN 2 = 8 from rfl]; omega
    rw [sz1, e1, decide_eq_true rfl, Bool.true_and]
    have : bitsN 2 * (s.size + 1) % 8 = 0 := bitsN_mod (by decide)
    unfold spareP
    rw [this]; rfl
  have e2 : ((s.size : Int) + 1).toNat = s.size + 1 := by omega
  have e3 : lstB (.mk 2 (s ++ z1) [] 2 ((s.size : Int) + 1) []) = true := by
    simp only [lstB]
    rw [decide_eq_false (show ¬ (2 : Int) = 6 by omega), decide_eq_false (show ¬ (2 : Int) = 7 by omega), e2, show (2 : Int).toNat = 2 from rfl, e, decide_eq_true (show (0 : Int) ≤ (s.size : Int) + 1 by omega), decide_eq_true (show (s.size : Int) + 1 ≤ 12800 by omega)]
    rfl
  unfold okB
  rw [Bool.and_eq_true, decide_eq_true_eq]
  refine ⟨?_, ?_⟩
  · rw [okS, e3]; simp [okSs, okSi]
  · have : wdN (.mk 2 (s ++ z1) [] 2 ((s.size : Int) + 1) []) ≤ 199 := by
      simp only [wdN, wdT, List.length_nil]
      rw [if_neg (by decide), if_neg (by decide), sz1]
      omega
    omega
theorem tx_tn {s : ByteArray} (h : s.size ≤ 100) (hz : hasZ (bl s) = false) : txN (.mk 2 (s ++ z1) [] 2 ((s.size : Int) + 1) []) = (s, true) := by
  have e : gB (s ++ z1).data.toList = true := by
    show gB (bl (s ++ z1)) = true
    rw [bl_append, z1_bl]; exact gB_of hz
  have e2 : cutE (s ++ z1) = s := by
    unfold cutE
    refine bl_ext ?_
    rw [bl_extract, sz1, bl_append, List.drop_zero, show s.size + 1 - 1 = (bl s).length from by rw [bl_length]; omega, List.take_left']
    rfl
  rw [txN, tn_ok h, e, e2, sz1, decide_eq_false (show ¬ (2 : Int) = 0 by omega), decide_eq_true (show s.size + 1 ≠ 0 by omega)]
  rfl
theorem tn_sz (s : ByteArray) : szN (tnN s) ≤ 101 := by
  unfold tnN
  by_cases h : s.size ≤ 100
  · rw [decide_eq_true h, Bool.true_and]
    cases hasZ (bl s) with
    | false => simp only [Bool.not_false, bif_true, szN, szT, List.length_nil]; rw [sz1]; omega
    | true => show szN noN ≤ 101; decide
  · rw [decide_eq_false h]; show szN noN ≤ 101; decide
theorem tn_cases (s : ByteArray) : (tnN s = noN) ∨ (s.size ≤ 100 ∧ hasZ (bl s) = false ∧ tnN s = .mk 2 (s ++ z1) [] 2 ((s.size : Int) + 1) []) := by
  unfold tnN
  by_cases h : s.size ≤ 100
  · rw [decide_eq_true h, Bool.true_and]
    cases h2 : hasZ (bl s) with
    | false => exact .inr ⟨h, rfl, rfl⟩
    | true => exact .inl rfl
  · rw [decide_eq_false h]; exact .inl rfl
/-- a node whose text is there and short is the text's node -/
theorem tn_of_tx {n : Nod} {t : ByteArray} (hk : knd n ≠ 0) (h : txN n = (t, true)) (hl : t.size ≤ 100) : eqN (tnN t) n = true := by
  obtain ⟨k, d, p, s, c, i⟩ := n
  have hk : k ≠ 0 := hk
  rw [txN, decide_eq_false hk, bif_false] at h
  cases hb : okB (.mk k d p s c i) with
  | false => rw [hb] at h; cases h
  | true =>
    rw [hb, bif_true] at h
    cases hc : (decide (k = 2) && decide (s = 2)) && (gB d.data.toList && decide (d.size ≠ 0)) with
    | false => rw [hc] at h; cases h
    | true =>
      rw [hc, bif_true] at h
      simp only [Bool.and_eq_true, decide_eq_true_eq] at hc
      obtain ⟨⟨rfl, rfl⟩, h1, h2⟩ := hc
      rcases okB_form hb with g | g | ⟨_, _, g3, g4⟩
      · omega
      · omega
      have g5 : p = [] ∧ i = [] ∧ plainP d 2 c.toNat = true := by
        rcases g4 with g4 | g4 | g4
        · omega
        · omega
        · exact g4.2
      obtain ⟨rfl, rfl, g6⟩ := g5
      have g7 := size2 g3.1 g6
      obtain ⟨m, e1, e2⟩ := gB_last h1 (fun e => h2 (by rw [← bl_length]; show d.data.toList.length = 0; rw [e]; rfl))
      have e3 : t = cutE d := by injection h with h _; exact h.symm
      have e1 : bl d = m ++ [0] := e1
      have e4 : d.size = m.length + 1 := by rw [← bl_length, e1]; simp
      have e5 : bl t = m := by
        rw [e3]
        unfold cutE
        rw [bl_extract, e4, List.drop_zero, e1, show m.length + 1 - 1 = m.length from rfl, List.take_left']
        rfl
      have e6 : t ++ z1 = d := bl_ext (by rw [bl_append, e5, z1_bl, e1])
      have e7 : t.size + 1 = d.size := by rw [← e6, sz1]
      unfold tnN
      rw [decide_eq_true hl, e5, e2, e6]
      have e8 : (t.size : Int) + 1 = c := by omega
      rw [e8]
      exact eqN_refl _

/-! ### the draws -/
theorem DrawTextNode_is (l : List V) (h : Byt l) : ∃ s : ByteArray, s.size ≤ 101 ∧ (D T).call F_spec_DrawTextNode [.sl 1 l] = some (encS s, []) := by
  obtain ⟨b, hb, h1⟩ := open_is l h
  have m1 := many_is (.mk (.mk [120])) 100 (by decide) (by decide)
  have m2 := many_is (.mk (.mk [120])) 101 (by decide) (by decide)
  have m1 : (D T).call F_spec_l1Many [.sc (.string (.mk (.mk [120]))), .sc (.int .i64 100)] = _ := m1
  have m2 : (D T).call F_spec_l1Many [.sc (.string (.mk (.mk [120]))), .sc (.int .i64 101)] = _ := m2
  have z1 := repB_size (.mk (.mk [120])) 100
  have z2 := repB_size (.mk (.mk [120])) 101
  obtain ⟨s, hs, h2⟩ := of_is hb 0 (by omega) [.mk (.mk []), .mk (.mk [97]), .mk (.mk [104, 101, 108, 108, 111]), .mk (.mk [119, 105, 116, 104, 0, 105, 110]), repB (.mk (.mk [120])) 100, repB (.mk (.mk [120])) 101, .mk (.mk [255])] (by simp) (by simp)
  refine ⟨s, ?_, ?_⟩
  · simp only [List.mem_cons, List.not_mem_nil, or_false] at hs
    rcases hs with rfl | rfl | rfl | rfl | rfl | rfl | rfl
    · decide
    · decide
    · decide
    · decide
    · rw [z1]; decide
    · rw [z2]; decide
    · decide
  · rw [c_spec_DrawTextNode, t_spec_DrawTextNode, h1]
    have h2 : (D T).call F_spec_l1Rd_of [rd b 0, .sl 1 [.sc (.string (.mk (.mk []))), .sc (.string (.mk (.mk [97]))), .sc (.string (.mk (.mk [104, 101, 108, 108, 111]))), .sc (.string (.mk (.mk [119, 105, 116, 104, 0, 105, 110]))), .sc (.string (repB (.mk (.mk [120])) 100)), .sc (.string (repB (.mk (.mk [120])) 101)), .sc (.string (.mk (.mk [255])))]] = _ := h2
    simp only [Option.bind_some, unIo, List.getD_cons_zero, List.getD_cons_succ, unL_mk, unI_mk, m1, m2, unS_enc, h2, un_rd, l2_rd, al_rd, Bool.and_true, bif_true, unEnd_mk]
    rfl
theorem l13Cut_is {b : List V} (hb : Bts b) (p : Nat) (hp : p ≤ 1000000) (s : ByteArray) (hs : s.size ≤ 1000000) : ∃ (t : ByteArray) (q : Nat), (D T).call F_spec_l13Cut [rd b p, .sc (.string s)] = some (encS t, [rd b q]) ∧ p ≤ q ∧ q ≤ p + 3 ∧ t.size ≤ s.size + 1 := by
  have ew : IntKind.wrap .i64 ((Int.ofNat s.size) + 1) = ((s.size + 1 : Nat) : Int) := w_inc hs
  obtain ⟨k, h1, a1, _⟩ := pick_is hb p (by omega) ((s.size + 1 : Nat) : Int)
  have a1 := a1 (by omega)
  obtain ⟨g, h2, a2, _⟩ := pick_is hb (p + 1) (by omega) 6
  have k1 : decide ((0 : Int) ≤ (k : Int)) = true := decide_eq_true (by omega)
  have k2 : decide ((k : Int) ≤ Int.ofNat s.size) = true := decide_eq_true (by show (k : Int) ≤ (s.size : Int); omega)
  rw [c_spec_l13Cut, t_spec_l13Cut, ew, h1]
  simp only [Option.bind_some, un_rd, l2_rd, al_rd, Bool.and_true, bif_true, unEnd_mk, unI_mk, unL_mk, List.getD_cons_zero, List.getD_cons_succ]
  rw [h2]
  simp only [Option.bind_some, un_rd, l2_rd, al_rd, Bool.and_true, bif_true, unEnd_mk, unI_mk, unL_mk, List.getD_cons_zero, List.getD_cons_succ, k1, k2, Int.toNat_natCast]
  by_cases c0 : (g : Int) = 0
  · rw [decide_eq_true c0, bif_true]
    obtain ⟨t, ht, h3⟩ := of_is hb (p + 1 + 1) (by omega) [.mk (.mk [0]), .mk (.mk [1]), .mk (.mk [255]), .mk (.mk [120])] (by simp) (by simp)
    have hts : t.size = 1 := by
      simp only [List.mem_cons, List.not_mem_nil, or_false] at ht
      rcases ht with rfl | rfl | rfl | rfl <;> rfl
    have h3 : (D T).call F_spec_l1Rd_of [rd b (p + 1 + 1), .sl 1 [.sc (.string (.mk (.mk [0]))), .sc (.string (.mk (.mk [1]))), .sc (.string (.mk (.mk [255]))), .sc (.string (.mk (.mk [120])))]] = _ := h3
    rw [h3]
    have z1 : (s.extract 0 k).size ≤ s.size := by rw [ByteArray.size_extract]; omega
    have z2 : (s.extract k s.size).size ≤ s.size := by rw [ByteArray.size_extract]; omega
    have z3 : (s.extract 0 k).size + (s.extract k s.size).size ≤ s.size := by rw [ByteArray.size_extract, ByteArray.size_extract]; omega
    simp only [Option.bind_some, un_rd, l2_rd, al_rd, Bool.and_true, bif_true, unEnd_mk, unS_enc, unI_mk, unL_mk, List.getD_cons_zero, List.getD_cons_succ]
    rw [decide_eq_true (show (s.extract 0 k).size + t.size ≤ 9223372036854775807 by omega), bif_true, decide_eq_true (show (s.extract 0 k ++ t).size + (s.extract k s.size).size ≤ 9223372036854775807 by rw [ByteArray.size_append]; omega), bif_true]
    refine ⟨_, p + 1 + 1 + 1, rfl, by omega, by omega, ?_⟩
    rw [ByteArray.size_append, ByteArray.size_append]; omega
  rw [decide_eq_false c0, bif_false]
  by_cases c1 : (g : Int) = 1
  · rw [decide_eq_true c1, bif_true]
    refine ⟨_, p + 1 + 1, rfl, by omega, by omega, ?_⟩
    rw [ByteArray.size_extract]; omega
  rw [decide_eq_false c1, bif_false]
  by_cases c2 : (g : Int) = 2
  · rw [decide_eq_true c2, bif_true]
    by_cases c3 : k < s.size
    · obtain ⟨g2, h3, a3, _⟩ := pick_is hb (p + 1 + 1) (by omega) 256
      rw [decide_eq_true (show (k : Int) < Int.ofNat s.size by show (k : Int) < (s.size : Int); omega), bif_true, h3]
      have z1 : (s.extract 0 k).size = k := ex_size s (by omega)
      have z2 : (s.extract (k + 1) s.size).size = s.size - (k + 1) := by rw [ByteArray.size_extract]; omega
      have ek : IntKind.wrap .i64 ((k : Int) + 1) = ((k + 1 : Nat) : Int) := next_i (by omega)
      simp only [Option.bind_some, un_rd, l2_rd, al_rd, Bool.and_true, bif_true, unEnd_mk, unI_mk, unL_mk, List.getD_cons_zero, List.getD_cons_succ, ek, Int.toNat_natCast]
      have ho : (ByteArray.mk (Array.mk [UInt8.ofNat (Int.toNat (IntKind.wrap .u8 (g2 : Int)))])).size = 1 := rfl
      generalize hO : ByteArray.mk (Array.mk [UInt8.ofNat (Int.toNat (IntKind.wrap .u8 (g2 : Int)))]) = o
      rw [hO] at ho
      rw [decide_eq_true (show (s.extract 0 k).size + o.size ≤ 9223372036854775807 by omega), decide_eq_true (show (0 : Int) ≤ ((k + 1 : Nat) : Int) by omega), decide_eq_true (show ((k + 1 : Nat) : Int) ≤ Int.ofNat s.size by show ((k + 1 : Nat) : Int) ≤ (s.size : Int); omega), decide_eq_true (show (s.extract 0 k ++ o).size + (s.extract (k + 1) s.size).size ≤ 9223372036854775807 by rw [ByteArray.size_append]; omega)]
      refine ⟨_, p + 1 + 1 + 1, rfl, by omega, by omega, ?_⟩
      rw [ByteArray.size_append, ByteArray.size_append]; omega
    · rw [decide_eq_false (show ¬ (k : Int) < Int.ofNat s.size by show ¬ (k : Int) < (s.size : Int); omega), bif_false]
      exact ⟨s, p + 1 + 1, rfl, by omega, by omega, by omega⟩
  rw [decide_eq_false c2, bif_false]
  exact ⟨s, p + 1 + 1, rfl, by omega, by omega, by omega⟩
theorem DrawTextOf_is (l : List V) (h : Byt l) : ∃ n, (D T).call F_spec_DrawTextOf [.sl 1 l] = some (encN n, []) ∧ szN n ≤ 50000 := by
  obtain ⟨b, hb, h1⟩ := open_is l h
  obtain ⟨k, h2, a2, _⟩ := pick_is hb 0 (by omega) 2
  have h2 : (D T).call F_spec_l1Rd_pick [rd b 0, .sc (.int .i64 2)] = some (.sc (.int .i64 (k : Nat)), [rd b 1]) := h2
  rw [c_spec_DrawTextOf, t_spec_DrawTextOf, h1]
  simp only [Option.bind_some, unIo, List.getD_cons_zero, List.getD_cons_succ, unL_mk, unI_mk, h2, un_rd, l2_rd, al_rd, Bool.and_true, bif_true, unEnd_mk]
  by_cases c0 : (k : Int) = 0
  · rw [decide_eq_true c0, bif_true]
    obtain ⟨s, hs, h3⟩ := of_is hb 1 (by omega) [.mk (.mk []), .mk (.mk [97]), .mk (.mk [104, 101, 108, 108, 111])] (by simp) (by simp)
    have h3 : (D T).call F_spec_l1Rd_of [rd b 1, .sl 1 [.sc (.string (.mk (.mk []))), .sc (.string (.mk (.mk [97]))), .sc (.string (.mk (.mk [104, 101, 108, 108, 111])))]] = some (encS s, [rd b 2]) := h3
    have hss : s.size ≤ 5 := by
      simp only [List.mem_cons, List.not_mem_nil, or_false] at hs
      rcases hs with rfl | rfl | rfl <;> decide
    have h4 := spec_TextNode_is s (by omega)
    obtain ⟨g, h5, a5, _⟩ := pick_is hb 2 (by omega) 4
    have h5 : (D T).call F_spec_l1Rd_pick [rd b 2, .sc (.int .i64 4)] = some (.sc (.int .i64 (g : Nat)), [rd b 3]) := h5
    have hz := tn_sz s
    simp only [h3, Option.bind_some, un_rd, l2_rd, al_rd, Bool.and_true, bif_true, unEnd_mk, unS_enc, List.getD_cons_zero, List.getD_cons_succ, unL_mk, unI_mk, h4, unSt_encN]
    generalize tnN s = n at hz
    obtain ⟨kk, d, pp, ss, cc, ii⟩ := n
    have hzp := sz_parts hz
    rw [un_f]
    dsimp only
    simp only [h5, Option.bind_some, un_rd, l2_rd, al_rd, Bool.and_true, bif_true, unEnd_mk, List.getD_cons_zero, List.getD_cons_succ, unL_mk, unI_mk]
    by_cases c1 : (g : Int) = 0
    · rw [decide_eq_true c1, bif_true]
      obtain ⟨t, q, h6, _, _, h7⟩ := l13Cut_is hb 3 (by omega) d (by omega)
      have h6 : (D T).call F_spec_l13Cut [rd b 3, .sc (.string d)] = _ := h6
      simp only [h6, Option.bind_some, un_rd, l2_rd, al_rd, Bool.and_true, bif_true, unEnd_mk, unS_enc, List.getD_cons_zero, List.getD_cons_succ, unL_mk, unI_mk]
      refine ⟨.mk kk t pp ss (Int.ofNat t.size) ii, by rw [encN_mk], ?_⟩
      simp only [szN] at hz ⊢
      omega
    · rw [decide_eq_false c1, bif_false]
      exact ⟨.mk kk d pp ss cc ii, by rw [encN_mk], by omega⟩
  · rw [decide_eq_false c0, bif_false]
    obtain ⟨n, q, h3, _, _, h4⟩ := any_is hb 1 (by omega)
    have h3 : (D T).call F_spec_l13AnyNode [rd b 1] = _ := h3
    simp only [h3, Option.bind_some, un_rd, l2_rd, al_rd, Bool.and_true, bif_true, unEnd_mk, List.getD_cons_zero, List.getD_cons_succ, unL_mk, unI_mk, unSt_encN]
    obtain ⟨kk, d, pp, ss, cc, ii⟩ := n
    rw [un_f]
    exact ⟨.mk kk d pp ss cc ii, by rw [encN_mk], by omega⟩

/-! ### the laws -/
theorem dec_big {l : List V} (h : ¬ (1048576 : Int) < Int.ofNat l.length) : decide ((1048576 : Int) < Int.ofNat l.length) = false := decide_eq_false h
theorem alB_tn {a b : ByteArray} (ha : a.size ≤ 100) (hb : b.size ≤ 100) : alB (.mk 2 (a ++ z1) [] 2 ((a.size : Int) + 1) []) (.mk 2 (b ++ z1) [] 2 ((b.size : Int) + 1) []) = sEq a b := by
  have e : ∀ s : ByteArray, cn (.mk 2 (s ++ z1) [] 2 ((s.size : Int) + 1) []) = .mk 2 (s ++ z1) [] 2 ((s.size : Int) + 1) [] := fun s => by rw [cn]; rfl
  unfold alB
  rw [tn_ok ha, tn_ok hb, e, e, Bool.true_and, Bool.true_and, eqN, sEq_dec, sEq_dec]
  rw [Bool.eq_iff_iff]
  simp only [Bool.and_eq_true, decide_eq_true_eq, eqNs, and_true, true_and]
  constructor
  · rintro ⟨h1, h2⟩
    have h3 := congrArg bl h1
    rw [bl_append, bl_append, z1_bl] at h3
    exact bl_ext (List.append_cancel_right h3)
  · rintro rfl; exact ⟨rfl, rfl⟩
theorem law_TextAlike (l : List V) (h : Byt l) (l' : List V) (h' : Byt l') : (D T).call F_laws_FnTextAlike [.sl 1 l, .sl 1 l'] = some (.sc (.bool true), []) := by
  rw [c_laws_FnTextAlike, t_laws_FnTextAlike]
  by_cases c1 : (1048576 : Int) < Int.ofNat l.length
  · rw [decide_eq_true c1]; rfl
  by_cases c2 : (1048576 : Int) < Int.ofNat l'.length
  · rw [decide_eq_true c2, dec_big c1]; rfl
  rw [dec_big c1, dec_big c2, bif_false, bif_false]
  obtain ⟨a, ha, h1⟩ := DrawTextNode_is l h
  obtain ⟨b, hb, h2⟩ := DrawTextNode_is l' h'
  have h3 := impl_TextNode_is a (by omega)
  have h4 := impl_TextNode_is b (by omega)
  have h5 := spec_TextNode_is a (by omega)
  have za := tn_sz a
  have zb := tn_sz b
  have h6 := qnNode_is (tnN a) (okN_sz _ (by omega)) (tnN a) (okN_sz _ (by omega))
  rw [eqN_refl] at h6
  have h7 := impl_Alike_is (tnN a) (tnN b) (by omega) (by omega)
  have hk : knd (tnN a) ≠ 0 → knd (tnN b) ≠ 0 → alB (tnN a) (tnN b) = sEq a b := fun ka kb => by
    rcases tn_cases a with e | ⟨e1, e2, e3⟩
    · rw [e] at ka; exact absurd rfl ka
    rcases tn_cases b with f | ⟨f1, f2, f3⟩
    · rw [f] at kb; exact absurd rfl kb
    rw [e3, f3]
    exact alB_tn e1 f1
  simp only [h1, h2, h3, h4, h5, Option.bind_some, unS_enc, unSt_encN]
  generalize tnN a = A at h6 h7 hk
  generalize tnN b = B at h7 hk
  obtain ⟨k, d, p, s, c, i⟩ := A
  obtain ⟨k', d', p', s', c', i'⟩ := B
  rw [un_f]
  dsimp only
  rw [un_f]
  dsimp only
  rw [encN_mk] at h6 h7 ⊢
  rw [encN_mk] at h7
  simp only [h6, h7, Option.bind_some, unB_mk, Bool.not_true, bif_false]
  have hk : k ≠ 0 → k' ≠ 0 → alB (.mk k d p s c i) (.mk k' d' p' s' c' i') = sEq a b := hk
  by_cases k1 : k = 0
  · rw [decide_eq_true k1]; rfl
  by_cases k2 : k' = 0
  · rw [decide_eq_false k1, decide_eq_true k2]; rfl
  rw [decide_eq_false k1, decide_eq_false k2, hk k1 k2]
  simp
theorem law_Text (l : List V) (h : Byt l) (l' : List V) (h' : Byt l') : (D T).call F_laws_FnText [.sl 1 l, .sl 1 l'] = some (.sc (.bool true), []) := by
  rw [c_laws_FnText, t_laws_FnText]
  by_cases c1 : (1048576 : Int) < Int.ofNat l.length
  · rw [decide_eq_true c1]; rfl
  by_cases c2 : (1048576 : Int) < Int.ofNat l'.length
  · rw [decide_eq_true c2, dec_big c1]; rfl
  rw [dec_big c1, dec_big c2, bif_false, bif_false]
  obtain ⟨a, ha, h1⟩ := DrawTextNode_is l h
  obtain ⟨n, h2, zn⟩ := DrawTextOf_is l' h'
  have h3 := impl_TextNode_is a (by omega)
  have h4 := spec_TextNode_is a (by omega)
  have za := tn_sz a
  have h6 := qnNode_is (tnN a) (okN_sz _ (by omega)) (tnN a) (okN_sz _ (by omega))
  rw [eqN_refl] at h6
  have h7 := impl_TextOf_is (tnN a) (okN_sz _ (by omega)) (by omega)
  have h8 := impl_NodeOk_is (tnN a) (okN_sz _ (by omega)) (by omega)
  have hA : knd (tnN a) = 2 → txN (tnN a) = (a, true) ∧ okB (tnN a) = true := fun ka => by
    rcases tn_cases a with e | ⟨e1, e2, e3⟩
    · rw [e] at ka; exact absurd ka (by decide)
    rw [e3]
    exact ⟨tx_tn e1 e2, tn_ok e1⟩
  have h9 := impl_TextOf_is n (okN_sz _ (by omega)) (by omega)
  have h10 := spec_TextOf_is n (okN_sz _ (by omega)) (by omega)
  -- the second half
  have hB : ∀ (t : ByteArray) (b : Bool), txN n = (t, b) → b = true → knd n ≠ 0 → t.size ≤ 100 → ((D T).call F_impl_TextNode [.sc (.string t)] = some (encN (tnN t), []) ∧ (D T).call F_laws_qnNode [encN (tnN t), encN n] = bo true) := fun t b h0 hb hk ht => by
    subst hb
    refine ⟨impl_TextNode_is t (by omega), ?_⟩
    rw [qnNode_is (tnN t) (okN_sz _ (by have := tn_sz t; omega)) n (okN_sz _ (by omega)), tn_of_tx hk h0 ht]
  generalize hT : txN n = T2 at h9 h10 hB
  obtain ⟨t, b⟩ := T2
  have hB := hB t b rfl
  obtain ⟨k', d', p', s', c', i'⟩ := n
  have hB : b = true → k' ≠ 0 → _ := hB
  have fin : (bif !(sEq t t) then (bif sEq t t then (some (.sc (.bool (decide (b = b))), []) : Option Res) else some (.sc (.bool false), [])) else
      bif !(decide (b = b)) then (bif sEq t t then (some (.sc (.bool (decide (b = b))), []) : Option Res) else some (.sc (.bool false), [])) else
      bif !b then (bif sEq t t then (some (.sc (.bool (decide (b = b))), []) : Option Res) else some (.sc (.bool false), [])) else
      bif decide (k' = 0) then (bif sEq t t then (some (.sc (.bool (decide (b = b))), []) : Option Res) else some (.sc (.bool false), [])) else
      bif decide ((100 : Int) < Int.ofNat t.size) then (bif sEq t t then (some (.sc (.bool (decide (b = b))), []) : Option Res) else some (.sc (.bool false), [])) else
      Option.bind ((D T).call F_impl_TextNode [.sc (.string t)]) fun r => unSt 6 r.1 (Option.bind ((D T).call F_laws_qnNode [r.1, .st [.sc (.int .i64 k'), .sc (.string d'), .sl 6 (encNs p'), .sc (.int .i64 s'), .sc (.int .i64 c'), .sl 6 (encNs i')]]) fun r => unB r.1 fun b => some (.sc (.bool b), []))) = some (.sc (.bool true), []) := by
    have e1 : sEq t t = true := sEq_iff.2 rfl
    rw [e1, decide_eq_true (show b = b from rfl)]
    cases b with
    | false => rfl
    | true =>
      by_cases k0 : k' = 0
      · rw [decide_eq_true k0]; rfl
      rw [decide_eq_false k0]
      by_cases ht : (100 : Int) < Int.ofNat t.size
      · rw [decide_eq_true ht]; rfl
      rw [decide_eq_false ht]
      obtain ⟨g1, g2⟩ := hB rfl k0 (by have : ¬ (100 : Int) < (t.size : Int) := ht; omega)
      rw [encN_mk (k := k')] at g2
      show Option.bind _ _ = _
      rw [g1]
      simp only [Option.bind_some, unSt_encN, g2, unB_mk]
  simp only [h1, h2, h3, h4, Option.bind_some, unS_enc, unSt_encN]
  generalize tnN a = A at h6 h7 h8 hA
  obtain ⟨k, d, p, s, c, i⟩ := A
  rw [un_f]
  dsimp only
  simp only [un_f]
  rw [encN_mk] at h6 h7 h8 h9 h10 ⊢
  simp only [h6, h9, h10, Option.bind_some, unB_mk, Bool.not_true, bif_false, un_2t]
  have hA : k = 2 → _ := hA
  by_cases k1 : k = 2
  · obtain ⟨q1, q2⟩ := hA k1
    rw [q1] at h7
    rw [q2] at h8
    rw [decide_eq_true k1, bif_true, h7]
    simp only [Option.bind_some, un_2t, Bool.not_true, bif_false, h8, unB_mk, sEq_iff.2 (show a = a from rfl)]
    simp only [decide_true, eq_self_iff_true] at fin ⊢
    exact fin
  · rw [decide_eq_false k1, bif_false]
    simp only [decide_true, eq_self_iff_true] at fin ⊢
    exact fin
end Go.Proofs.YtmddfhjgdhjmkaaDoor.VM
