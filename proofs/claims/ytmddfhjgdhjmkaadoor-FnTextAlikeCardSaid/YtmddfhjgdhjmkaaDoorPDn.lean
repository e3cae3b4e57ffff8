/- What is drawn: nodes. -/
import Derived.Test.YtmddfhjgdhjmkaaDoorPDr
import Derived.Test.YtmddfhjgdhjmkaaDoorPK
set_option linter.unusedVariables false
set_option linter.unusedSimpArgs false
namespace Go.Proofs.YtmddfhjgdhjmkaaDoor.VM

theorem unS_enc {R : Type} {s : ByteArray} {K : ByteArray → Option R} : unS (encS s) K = K s := rfl
abbrev nul : ByteArray := .mk (.mk [])
/-- a drawn word -/
theorem word_is {b : List V} (hb : Bts b) (p : Nat) (hp : p ≤ 1099511000000) : ∃ s, (D T).call F_spec_l13Word [rd b p] = some (encS s, [rd b (p + 3)]) ∧ s.size = 8 := by
  have m0 := many_is (.mk (.mk [0])) 8 (by decide) (by decide)
  have m1 := many_is (.mk (.mk [0])) 7 (by decide) (by decide)
  have m2 := many_is (.mk (.mk [255])) 8 (by decide) (by decide)
  have m0 : (D T).call F_spec_l1Many [.sc (.string (.mk (.mk [0]))), .sc (.int .i64 8)] = _ := m0
  have m1 : (D T).call F_spec_l1Many [.sc (.string (.mk (.mk [0]))), .sc (.int .i64 7)] = _ := m1
  have m2 : (D T).call F_spec_l1Many [.sc (.string (.mk (.mk [255]))), .sc (.int .i64 8)] = _ := m2
  obtain ⟨k1, p1, _⟩ := pick_is hb p (by omega) 256
  obtain ⟨k2, p2, _⟩ := pick_is hb (p + 1) (by omega) 256
  have hby := fun n => bytes_is n 8 (by decide)
  have hby : ∀ n : Int, (D T).call F_spec_l1Bytes [.sc (.int .i64 n), .sc (.int .i64 8)] = _ := hby
  obtain ⟨s, hs, ho⟩ := of_is hb (p + 2) (by omega) [repB (.mk (.mk [0])) 8, repB (.mk (.mk [0])) 8, (.mk (.mk [1])) ++ repB (.mk (.mk [0])) 7, repB (.mk (.mk [255])) 8, .mk (.mk [97, 98, 99, 100, 101, 102, 103, 104]), .mk (.mk [0, 0, 97, 0, 0, 0, 98, 0]), .mk (.mk [97, 98, 99, 0, 101, 102, 103, 104]), .mk (.mk (leL (IntKind.wrap .i64 ((IntKind.wrap .i64 ((k1 : Int) * 256)) + (k2 : Int))) 8))] (by simp) (by simp)
  refine ⟨s, ?_, ?_⟩
  · rw [c_spec_l13Word, t_spec_l13Word, m0, m1, m2, Option.bind_some]
    simp only [unS_enc, Option.bind_some]
    rw [decide_eq_true (show (ByteArray.mk (.mk [1])).size + (repB (.mk (.mk [0])) 7).size ≤ 9223372036854775807 by rw [repB_size]; decide), bif_true, p1]
    simp only [Option.bind_some, un_rd, l2_rd, al_rd, Bool.and_true, bif_true, unEnd_mk, unI_mk, unL_mk, List.getD_cons_zero, List.getD_cons_succ]
    rw [p2]
    simp only [Option.bind_some, un_rd, l2_rd, al_rd, Bool.and_true, bif_true, unEnd_mk, unI_mk, unL_mk, List.getD_cons_zero, List.getD_cons_succ, hby, unS_enc]
    have ho : (D T).call F_spec_l1Rd_of [rd b (p + 2), .sl 1 [.sc (.string (repB (.mk (.mk [0])) 8)), .sc (.string (repB (.mk (.mk [0])) 8)), .sc (.string ((.mk (.mk [1])) ++ repB (.mk (.mk [0])) 7)), .sc (.string (repB (.mk (.mk [255])) 8)), .sc (.string (.mk (.mk [97, 98, 99, 100, 101, 102, 103, 104]))), .sc (.string (.mk (.mk [0, 0, 97, 0, 0, 0, 98, 0]))), .sc (.string (.mk (.mk [97, 98, 99, 0, 101, 102, 103, 104]))), .sc (.string (.mk (.mk (leL (IntKind.wrap .i64 ((IntKind.wrap .i64 ((k1 : Int) * 256)) + (k2 : Int))) 8))))]] = _ := ho
    rw [ho]
    rfl
  · simp only [List.mem_cons, List.not_mem_nil, or_false] at hs
    rcases hs with rfl | rfl | rfl | rfl | rfl | rfl | rfl | rfl
    · rw [repB_size]; rfl
    · rw [repB_size]; rfl
    · rw [ba_size, repB_size]; rfl
    · rw [repB_size]; rfl
    · rfl
    · rfl
    · rfl
    · show (leL _ 8).length = 8
      rw [leL_length]
theorem words_loop {b : List V} (hb : Bts b) : ∀ (n : Nat), n ≤ 100000 → ∀ (s : ByteArray) (p : Nat), p + 3 * n ≤ 1099511000000 → s.size + 8 * n ≤ 1000000000 → ∃ s', L_spec_l13Words_0 (D T) s (n : Int) b (p : Int) = some (encS s', [rd b (p + 3 * n)]) ∧ s'.size = s.size + 8 * n := by
  intro n
  induction n with
  | zero =>
    intro _ s p hp hs
    refine ⟨s, ?_, by omega⟩
    rw [L_spec_l13Words_0_eq, tL_spec_l13Words_0]; rfl
  | succ n ih =>
    intro hn s p hp hs
    obtain ⟨w, hw, hl⟩ := word_is hb p (by omega)
    obtain ⟨s', h1, h2⟩ := ih (by omega) (s ++ w) (p + 3) (by omega) (by rw [ba_size, hl]; omega)
    refine ⟨s', ?_, by rw [h2, ba_size, hl]; omega⟩
    have w1 : IntKind.wrap .i64 (((n + 1 : Nat) : Int) - 1) = (n : Int) := by rw [wrap_id (by omega) (by omega)]; omega
    rw [L_spec_l13Words_0_eq, tL_spec_l13Words_0, decide_eq_true (show (0 : Int) < ((n + 1 : Nat) : Int) by omega), bif_true, hw]
    simp only [Option.bind_some, un_rd, l2_rd, al_rd, Bool.and_true, bif_true, unEnd_mk, unI_mk, unL_mk, List.getD_cons_zero, List.getD_cons_succ, unS_enc]
    rw [decide_eq_true (show s.size + w.size ≤ 9223372036854775807 by omega), bif_true, w1, h1, show p + 3 + 3 * n = p + 3 * (n + 1) by omega]
theorem words_is {b : List V} (hb : Bts b) (p most : Nat) (hm : most ≤ 10000) (hp : p ≤ 1099510000000) : ∃ s q, (D T).call F_spec_l13Words [rd b p, .sc (.int .i64 (most : Nat))] = some (encS s, [rd b q]) ∧ p ≤ q ∧ q ≤ p + 1 + 3 * most ∧ s.size ≤ 8 * most := by
  obtain ⟨k, hk, h1, _⟩ := pick_is hb p (by omega) ((most + 1 : Nat) : Int)
  have hkl := h1 (by omega)
  obtain ⟨s, h2, h3⟩ := words_loop hb k (by omega) nul (p + 1) (by omega) (by show 0 + _ ≤ _; omega)
  have w1 : IntKind.wrap .i64 ((most : Int) + 1) = ((most + 1 : Nat) : Int) := by rw [wrap_id (by omega) (by omega)]; omega
  refine ⟨s, p + 1 + 3 * k, ?_, by omega, by omega, by rw [h3]; show 0 + _ ≤ _; omega⟩
  rw [c_spec_l13Words, t_spec_l13Words, w1, hk]
  simp only [Option.bind_some, un_rd, l2_rd, al_rd, Bool.and_true, bif_true, unEnd_mk, unI_mk, unL_mk, List.getD_cons_zero, List.getD_cons_succ]
  exact h2
theorem ext_size (s : ByteArray) (n : Nat) (h : n ≤ s.size) : (s.extract 0 n).size = n := by rw [ByteArray.size_extract]; omega
/-- bytes of a list cut -/
theorem cut_is (s : ByteArray) (z c : Nat) (hz : z ≤ 6) (hc : c ≤ 12800) (h : bytesN z c ≤ s.size) (hs : s.size ≤ 1000000000) : ∃ t, (D T).call F_spec_l4Cut [.sc (.string s), .sc (.int .i64 (z : Nat)), .sc (.int .i64 (c : Nat))] = some (encS t, []) ∧ t.size = bytesN z c := by
  rw [c_spec_l4Cut, t_spec_l4Cut, l4Bytes_is z c hz hc, Option.bind_some, unI_mk]
  have e1 : (decide ((0 : Int) ≤ ((bytesN z c : Nat) : Int)) && decide (((bytesN z c : Nat) : Int) ≤ Int.ofNat s.size)) = true := by
    rw [decide_eq_true (by omega), decide_eq_true (by rw [show Int.ofNat s.size = (s.size : Int) from rfl]; omega)]; rfl
  rw [e1, bif_true, Int.toNat_natCast]
  have hsz := ext_size s (bytesN z c) h
  by_cases h1 : z = 1
  case neg =>
    rw [decide_eq_false (show ¬ ((z : Nat) : Int) = 1 by omega), bif_false]
    exact ⟨_, rfl, hsz⟩
  rw [decide_eq_true (show ((z : Nat) : Int) = 1 by omega), bif_true, tmod8]
  by_cases h0 : c % 8 = 0
  · rw [decide_eq_true (show ((c % 8 : Nat) : Int) = 0 by omega), Bool.not_true, bif_false]
    exact ⟨_, rfl, hsz⟩
  rw [decide_eq_false (show ¬ ((c % 8 : Nat) : Int) = 0 by omega), Bool.not_false, bif_true]
  have hpos : 0 < bytesN z c := by subst h1; exact bytes_pos (by show 1 * c % 8 ≠ 0; rw [Nat.one_mul]; exact h0)
  have w1 : IntKind.wrap .i64 (((bytesN z c : Nat) : Int) - 1) = ((bytesN z c - 1 : Nat) : Int) := by rw [wrap_id (by omega) (by omega)]; omega
  rw [w1, hsz]
  have e2 : (decide ((0 : Int) ≤ ((bytesN z c - 1 : Nat) : Int)) && decide (((bytesN z c - 1 : Nat) : Int) ≤ Int.ofNat (bytesN z c))) = true := by
    rw [decide_eq_true (by omega), decide_eq_true (by rw [show Int.ofNat (bytesN z c) = (bytesN z c : Int) from rfl]; omega)]; rfl
  rw [e2, bif_true]
  have hg : (s.extract 0 (bytesN z c))[bytesN z c - 1]? = some ((s.extract 0 (bytesN z c))[bytesN z c - 1]'(by omega)) := getElem?_pos _ _ (by omega)
  have hix : ∀ K : Int → Option Res, ixS (s.extract 0 (bytesN z c)) ((bytesN z c - 1 : Nat) : Int) K = K (((s.extract 0 (bytesN z c))[bytesN z c - 1]'(by omega)).toNat : Nat) := fun K => by
    show ixS _ (Int.ofNat (bytesN z c - 1)) K = _
    unfold ixS
    simp only [hg]
  rw [hix, decide_eq_false (show ¬ ((c % 8 : Nat) : Int) < 0 by omega), Bool.not_false, bif_true, Int.toNat_natCast]
  have hsz2 := ext_size (s.extract 0 (bytesN z c)) (bytesN z c - 1) (by omega)
  rw [hsz2]
  have e3 : ∀ x : UInt8, decide (bytesN z c - 1 + (ByteArray.mk (.mk [x])).size ≤ 9223372036854775807) = true := fun x => decide_eq_true (by show bytesN z c - 1 + 1 ≤ _; omega)
  rw [e3, bif_true]
  refine ⟨_, rfl, ?_⟩
  rw [ba_size, hsz2]
  show bytesN z c - 1 + 1 = _
  omega

/-! ### nodes -/
theorem encNs_append (a c : List Nod) : encNs (a ++ c) = encNs a ++ encNs c := by rw [encNs_map, encNs_map, encNs_map, List.map_append]
theorem szT_append (a c : List Nod) : szT (a ++ c) = szT a + szT c := by
  induction a with
  | nil => simp [szT]
  | cons x a ih => rw [List.cons_append, szT, szT, ih]; omega
/-- a node is drawn with so many picks at most, so large at most -/
def Dn (o : Option Res) (b : List V) (p N S : Nat) : Prop := ∃ n q, o = some (encN n, [rd b q]) ∧ p ≤ q ∧ q ≤ p + N ∧ szN n ≤ S
theorem Dn.mono {o : Option Res} {b : List V} {p N S N' S' : Nat} (h : Dn o b p N S) (h1 : N ≤ N') (h2 : S ≤ S') : Dn o b p N' S' := by
  obtain ⟨n, q, a1, a2, a3, a4⟩ := h
  exact ⟨n, q, a1, a2, by omega, by omega⟩
theorem un_Nd {b : List V} {p : Nat} (n : Nod) (K : Option Res) : unSt 6 (Prod.fst ((encN n, [rd b p]) : Res)) K = K := unSt_encN n
theorem list_is {b : List V} (hb : Bts b) (p : Nat) (hp : p ≤ 1099500000000) : Dn ((D T).call F_spec_l13List [rd b p]) b p 39 96 := by
  obtain ⟨k1, p1, a1, _⟩ := pick_is hb p (by omega) 6
  obtain ⟨k2, p2, a2, _⟩ := pick_is hb (p + 1) (by omega) 12
  have a1 := a1 (by decide)
  have a2 := a2 (by decide)
  obtain ⟨s, q, hs, q1, q2, hsz⟩ := words_is hb (p + 2) 12 (by decide) (by omega)
  have hs : (D T).call F_spec_l13Words [rd b (p + 2), .sc (.int .i64 12)] = _ := hs
  have m := many_is (.mk (.mk [5])) 96 (by decide) (by decide)
  have m : (D T).call F_spec_l1Many [.sc (.string (.mk (.mk [5]))), .sc (.int .i64 96)] = _ := m
  have hrs : (repB (.mk (.mk [5])) 96).size = 96 := by rw [repB_size]; rfl
  have hbn : bytesN k1 k2 ≤ 88 := by
    have h1 : bitsN k1 ≤ 64 := by unfold bitsN; split <;> decide
    have h2 : bitsN k1 * k2 ≤ 64 * 11 := Nat.mul_le_mul h1 (by omega)
    unfold bytesN; omega
  obtain ⟨t, ht, hts⟩ := cut_is (s ++ repB (.mk (.mk [5])) 96) k1 k2 (by omega) (by omega) (by rw [ba_size, hrs]; omega) (by rw [ba_size, hrs]; omega)
  refine ⟨.mk 2 t [] (k1 : Int) (k2 : Int) [], q, ?_, by omega, by omega, by simp only [szN, szT, List.length_nil]; omega⟩
  rw [c_spec_l13List, t_spec_l13List, p1]
  simp only [Option.bind_some, un_rd, l2_rd, al_rd, Bool.and_true, bif_true, unEnd_mk, unI_mk, unL_mk, List.getD_cons_zero, List.getD_cons_succ]
  rw [p2]
  simp only [Option.bind_some, un_rd, l2_rd, al_rd, Bool.and_true, bif_true, unEnd_mk, unI_mk, unL_mk, List.getD_cons_zero, List.getD_cons_succ]
  rw [hs]
  simp only [Option.bind_some, un_rd, l2_rd, al_rd, Bool.and_true, bif_true, unEnd_mk, unI_mk, unL_mk, List.getD_cons_zero, List.getD_cons_succ, unS_enc, m]
  rw [decide_eq_true (show s.size + (repB (.mk (.mk [5])) 96).size ≤ 9223372036854775807 by omega), bif_true, ht]
  simp only [Option.bind_some, unS_enc, encN_mk, encNs]

theorem struct_data {b : List V} (hb : Bts b) (data : Nat) (hdat : data ≤ 1000) (ptrs deep : Int) : ∀ i, i ≤ data → ∀ (s : ByteArray) (p : Nat), p + 3 * (data - i) ≤ 1099500000000 → s.size + 8 * (data - i) ≤ 1000000 →
    ∃ s', L_spec_l13Struct_0 (D T) (data : Nat) ptrs deep (i : Nat) b (p : Nat) 0 nul 0 0 1 s 0 0 = L_spec_l13Struct_1 (D T) ptrs deep 0 b ((p + 3 * (data - i) : Nat) : Int) 0 nul 0 0 1 s' 0 0 ∧ s'.size = s.size + 8 * (data - i) := by
  refine down (fun s p hp hs => ?_) fun i hi ih s p hp hs => ?_
  · refine ⟨s, ?_, by omega⟩
    rw [L_spec_l13Struct_0_eq, tL_spec_l13Struct_0, decide_eq_false (show ¬ (data : Int) < (data : Int) by omega), bif_false, Nat.sub_self]
    rfl
  · obtain ⟨w, hw, hl⟩ := word_is hb p (by omega)
    obtain ⟨s', h1, h2⟩ := ih (s ++ w) (p + 3) (by omega) (by rw [ba_size, hl]; omega)
    refine ⟨s', ?_, by rw [h2, ba_size, hl]; omega⟩
    rw [L_spec_l13Struct_0_eq, tL_spec_l13Struct_0, decide_eq_true (show (i : Int) < (data : Int) by omega), bif_true, hw]
    simp only [Option.bind_some, un_rd, l2_rd, al_rd, Bool.and_true, bif_true, unEnd_mk, unI_mk, unL_mk, List.getD_cons_zero, List.getD_cons_succ, unS_enc]
    rw [decide_eq_true (show s.size + w.size ≤ 9223372036854775807 by omega), bif_true, next_i (by omega), h1, show p + 3 + 3 * (data - (i + 1)) = p + 3 * (data - i) by omega]
theorem struct_ptrs {b : List V} (hb : Bts b) (ptrs deep N S : Nat) (hptr : ptrs ≤ 100) (hdeep : 1 ≤ deep ∧ deep ≤ 100) (hN : N ≤ 100000000) (B : Nat) (hB : B ≤ 1099000000000) (s : ByteArray)
    (hn : ∀ p, p ≤ B → Dn ((D T).call F_spec_l13Node [rd b p, .sc (.int .i64 ((deep - 1 : Nat) : Int))]) b p N S) : ∀ i, i ≤ ptrs → ∀ (ns : List Nod) (p : Nat), ns.length = i → p + N * (ptrs - i) ≤ B →
    ∃ ns' q, L_spec_l13Struct_2 (D T) (ptrs : Nat) (deep : Nat) (i : Nat) b (p : Nat) 0 nul 0 0 1 s (encNs ns) 0 0 = some (encN (.mk 1 s (ns ++ ns') 0 0 []), [rd b q]) ∧ ns'.length = ptrs - i ∧ p ≤ q ∧ q ≤ p + N * (ptrs - i) ∧ szT ns' ≤ S * (ptrs - i) := by
  have w1 : IntKind.wrap .i64 ((deep : Int) - 1) = ((deep - 1 : Nat) : Int) := by rw [wrap_id (by omega) (by omega)]; omega
  refine down (fun ns p hns hp => ?_) fun i hi ih ns p hns hp => ?_
  · refine ⟨[], p, ?_, by simp, Nat.le_refl _, by omega, by simp [szT]⟩
    rw [L_spec_l13Struct_2_eq, tL_spec_l13Struct_2, decide_eq_false (show ¬ (ptrs : Int) < (ptrs : Int) by omega), bif_false, List.append_nil, encN_mk]
    simp only [encNs]
  · have em : N * (ptrs - i) = N + N * (ptrs - (i + 1)) := by rw [show ptrs - i = (ptrs - (i + 1)) + 1 by omega, Nat.mul_succ]; omega
    have es : S * (ptrs - i) = S + S * (ptrs - (i + 1)) := by rw [show ptrs - i = (ptrs - (i + 1)) + 1 by omega, Nat.mul_succ]; omega
    obtain ⟨n, q, h1, h2, h3, h4⟩ := hn p (by omega)
    obtain ⟨ns', q', g1, g2, g3, g4, g5⟩ := ih (ns ++ [n]) q (by simp [hns]) (by omega)
    refine ⟨n :: ns', q', ?_, by simp [g2]; omega, by omega, by omega, by rw [szT]; omega⟩
    rw [L_spec_l13Struct_2_eq, tL_spec_l13Struct_2, decide_eq_true (show (i : Int) < (ptrs : Int) by omega), bif_true, w1, h1]
    simp only [Option.bind_some, un_rd, l2_rd, al_rd, Bool.and_true, bif_true, unEnd_mk, unI_mk, unL_mk, List.getD_cons_zero, List.getD_cons_succ, unSt_encN, wd_encN]
    rw [encNs_length, hns, decide_eq_true (show (i + 1) * 88 ≤ 140737488355328 by omega), bif_true, next_i (by omega)]
    rw [encNs_append] at g1
    have e : encNs ns ++ encNs [n] = encNs ns ++ [encN n] := by simp only [encNs]
    rw [e] at g1
    rw [g1, List.append_assoc]
    rfl
theorem struct_is {b : List V} (hb : Bts b) (data ptrs deep N S : Nat) (hdat : data ≤ 100) (hptr : ptrs ≤ 100) (hdeep : 1 ≤ deep ∧ deep ≤ 100) (hN : N ≤ 100000000) (B : Nat) (hB : B ≤ 1099000000000)
    (hn : ∀ p, p ≤ B → Dn ((D T).call F_spec_l13Node [rd b p, .sc (.int .i64 ((deep - 1 : Nat) : Int))]) b p N S) (p : Nat) (hp : p + 3 * data + N * ptrs ≤ B) :
    ∃ s ns q, (D T).call F_spec_l13Struct [rd b p, .sc (.int .i64 (data : Nat)), .sc (.int .i64 (ptrs : Nat)), .sc (.int .i64 (deep : Nat))] = some (encN (.mk 1 s ns 0 0 []), [rd b q]) ∧ p ≤ q ∧ q ≤ p + 3 * data + N * ptrs ∧ s.size = 8 * data ∧ ns.length = ptrs ∧ szT ns ≤ S * ptrs := by
  obtain ⟨s, h1, h2⟩ := struct_data hb data (by omega) (ptrs : Int) (deep : Int) 0 (Nat.zero_le _) nul p (by omega) (by show 0 + _ ≤ _; omega)
  have h2 : s.size = 8 * data := by rw [h2]; show 0 + _ = _; omega
  rw [Nat.sub_zero] at h1
  have h1 : L_spec_l13Struct_0 (D T) (data : Nat) (ptrs : Nat) (deep : Nat) 0 b (p : Nat) 0 nul 0 0 1 nul 0 0 = _ := h1
  rw [c_spec_l13Struct, t_spec_l13Struct, h1]
  by_cases h0 : ptrs = 0
  · subst h0
    refine ⟨s, [], p + 3 * data, ?_, by omega, by omega, h2, rfl, by simp [szT]⟩
    rw [L_spec_l13Struct_1_eq, tL_spec_l13Struct_1, encN_mk]
    simp only [encNs]
    rfl
  obtain ⟨n, q, g1, g2, g3, g4⟩ := hn (p + 3 * data) (by omega)
  have em : N * ptrs = N + N * (ptrs - 1) := by rw [show ptrs = (ptrs - 1) + 1 by omega, Nat.mul_succ]; simp; omega
  have es : S * ptrs = S + S * (ptrs - 1) := by rw [show ptrs = (ptrs - 1) + 1 by omega, Nat.mul_succ]; simp; omega
  obtain ⟨ns', q', k1, k2, k3, k4, k5⟩ := struct_ptrs hb ptrs deep N S hptr hdeep hN B hB s hn 1 (by omega) [n] q rfl (by omega)
  refine ⟨s, n :: ns', q', ?_, by omega, by omega, h2, by simp [k2]; omega, by rw [szT]; omega⟩
  have w1 : IntKind.wrap .i64 ((deep : Int) - 1) = ((deep - 1 : Nat) : Int) := by rw [wrap_id (by omega) (by omega)]; omega
  rw [L_spec_l13Struct_1_eq, tL_spec_l13Struct_1, decide_eq_true (show (0 : Int) < (ptrs : Int) by omega), bif_true, w1, g1]
  simp only [Option.bind_some, un_rd, l2_rd, al_rd, Bool.and_true, bif_true, unEnd_mk, unI_mk, unL_mk, List.getD_cons_zero, List.getD_cons_succ, unSt_encN, wd_encN]
  rw [next0]
  exact k1

def NN : Nat → Nat
  | 0 => 0
  | d + 1 => 60 + 6 * NN d
def SS : Nat → Nat
  | 0 => 0
  | d + 1 => 120 + 6 * SS d
theorem ptrs_loop {b : List V} (hb : Bts b) (deep N S : Nat) (hdeep : 1 ≤ deep ∧ deep ≤ 100) (hN : N ≤ 100000000) (B : Nat) (hB : B ≤ 1099000000000)
    (hn : ∀ p, p ≤ B → Dn ((D T).call F_spec_l13Node [rd b p, .sc (.int .i64 ((deep - 1 : Nat) : Int))]) b p N S) : ∀ k, k ≤ 100 → ∀ (ns : List Nod) (p : Nat), ns.length ≤ 1000 - k → p + N * k ≤ B →
    ∃ ns' q, L_spec_l13Node_2 (D T) (deep : Nat) (k : Nat) b (p : Nat) 0 nul 0 0 2 nul (encNs ns) 6 0 = some (encN (.mk 2 nul (ns ++ ns') 6 ((ns ++ ns').length : Nat) []), [rd b q]) ∧ ns'.length = k ∧ p ≤ q ∧ q ≤ p + N * k ∧ szT ns' ≤ S * k := by
  have w1 : IntKind.wrap .i64 ((deep : Int) - 1) = ((deep - 1 : Nat) : Int) := by rw [wrap_id (by omega) (by omega)]; omega
  intro k
  induction k with
  | zero =>
    intro _ ns p hns hp
    refine ⟨[], p, ?_, rfl, Nat.le_refl _, by omega, by simp [szT]⟩
    rw [L_spec_l13Node_2_eq, tL_spec_l13Node_2, encNs_length, List.append_nil, encN_mk]
    simp only [encNs]
    rfl
  | succ k ih =>
    intro hk ns p hns hp
    have em : N * (k + 1) = N + N * k := by rw [Nat.mul_succ]; omega
    have es : S * (k + 1) = S + S * k := by rw [Nat.mul_succ]; omega
    obtain ⟨n, q, h1, h2, h3, h4⟩ := hn p (by omega)
    obtain ⟨ns', q', g1, g2, g3, g4, g5⟩ := ih (by omega) (ns ++ [n]) q (by simp; omega) (by omega)
    have w2 : IntKind.wrap .i64 (((k + 1 : Nat) : Int) - 1) = (k : Int) := by rw [wrap_id (by omega) (by omega)]; omega
    refine ⟨n :: ns', q', ?_, by simp [g2], by omega, by omega, by rw [szT]; omega⟩
    rw [L_spec_l13Node_2_eq, tL_spec_l13Node_2, decide_eq_true (show (0 : Int) < ((k + 1 : Nat) : Int) by omega), bif_true, w1, h1]
    simp only [Option.bind_some, un_rd, l2_rd, al_rd, Bool.and_true, bif_true, unEnd_mk, unI_mk, unL_mk, List.getD_cons_zero, List.getD_cons_succ, unSt_encN, wd_encN]
    rw [encNs_length, decide_eq_true (show (ns.length + 1) * 88 ≤ 140737488355328 by omega), bif_true, w2]
    rw [encNs_append, List.append_assoc] at g1
    have e : encNs ns ++ encNs [n] = encNs ns ++ [encN n] := by simp only [encNs]
    rw [e] at g1
    exact g1
theorem items_loop {b : List V} (hb : Bts b) (data ptrs deep N S : Nat) (hdat : data ≤ 100) (hptr : ptrs ≤ 100) (hdeep : 1 ≤ deep ∧ deep ≤ 100) (hN : N ≤ 100000000) (B : Nat) (hB : B ≤ 1099000000000)
    (hn : ∀ p, p ≤ B → Dn ((D T).call F_spec_l13Node [rd b p, .sc (.int .i64 ((deep - 1 : Nat) : Int))]) b p N S) : ∀ k, k ≤ 100 → ∀ (ns : List Nod) (p : Nat), ns.length ≤ 1000 - k → p + (3 * data + N * ptrs) * k ≤ B →
    ∃ ns' q, L_spec_l13Node_3 (D T) (deep : Nat) (data : Nat) (ptrs : Nat) (k : Nat) b (p : Nat) 0 nul 0 0 2 nul 7 0 (encNs ns) = some (encN (.mk 2 nul [] 7 ((ns ++ ns').length : Nat) (ns ++ ns')), [rd b q]) ∧ ns'.length = k ∧ p ≤ q ∧ q ≤ p + (3 * data + N * ptrs) * k ∧ szT ns' ≤ (8 * data + ptrs + S * ptrs) * k := by
  intro k
  induction k with
  | zero =>
    intro _ ns p hns hp
    refine ⟨[], p, ?_, rfl, Nat.le_refl _, by omega, by simp [szT]⟩
    rw [L_spec_l13Node_3_eq, tL_spec_l13Node_3, encNs_length, List.append_nil, encN_mk]
    simp only [encNs]
    rfl
  | succ k ih =>
    intro hk ns p hns hp
    have em : (3 * data + N * ptrs) * (k + 1) = (3 * data + N * ptrs) + (3 * data + N * ptrs) * k := by rw [Nat.mul_succ]; omega
    have es : (8 * data + ptrs + S * ptrs) * (k + 1) = (8 * data + ptrs + S * ptrs) + (8 * data + ptrs + S * ptrs) * k := by rw [Nat.mul_succ]; omega
    obtain ⟨s, xs, q, h1, h2, h3, h4, h5, h6⟩ := struct_is hb data ptrs deep N S hdat hptr hdeep hN B hB hn p (by omega)
    obtain ⟨ns', q', g1, g2, g3, g4, g5⟩ := ih (by omega) (ns ++ [.mk 1 s xs 0 0 []]) q (by simp; omega) (by omega)
    have w2 : IntKind.wrap .i64 (((k + 1 : Nat) : Int) - 1) = (k : Int) := by rw [wrap_id (by omega) (by omega)]; omega
    refine ⟨.mk 1 s xs 0 0 [] :: ns', q', ?_, by simp [g2], by omega, by omega, by simp only [szT, szN, List.length_nil]; omega⟩
    rw [L_spec_l13Node_3_eq, tL_spec_l13Node_3, decide_eq_true (show (0 : Int) < ((k + 1 : Nat) : Int) by omega), bif_true, h1]
    simp only [Option.bind_some, un_rd, l2_rd, al_rd, Bool.and_true, bif_true, unEnd_mk, unI_mk, unL_mk, List.getD_cons_zero, List.getD_cons_succ, unSt_encN, wd_encN]
    rw [encNs_length, decide_eq_true (show (ns.length + 1) * 88 ≤ 140737488355328 by omega), bif_true, w2]
    rw [encNs_append, List.append_assoc] at g1
    have e : encNs ns ++ encNs [.mk 1 s xs 0 0 []] = encNs ns ++ [encN (.mk 1 s xs 0 0 [])] := by simp only [encNs]
    rw [e] at g1
    exact g1
theorem node_is {b : List V} (hb : Bts b) : ∀ d : Nat, d ≤ 4 → ∀ p, p ≤ 1000000 * (5 - d) → Dn ((D T).call F_spec_l13Node [rd b p, .sc (.int .i64 (d : Nat))]) b p (NN d) (SS d) := by
  intro d
  induction d with
  | zero =>
    intro _ p hp
    refine ⟨.mk 0 nul [] 0 0 [], p, ?_, Nat.le_refl _, by simp [NN], by simp only [szN, szT, SS, List.length_nil]; decide⟩
    rw [c_spec_l13Node, t_spec_l13Node, encN_mk]
    simp only [encNs]
    rfl
  | succ d ih =>
    intro hd p hp
    have hNb : ∀ d, d ≤ 4 → NN d ≤ 15540 ∧ SS d ≤ 31080 := fun d hd => by
      have : d = 0 ∨ d = 1 ∨ d = 2 ∨ d = 3 ∨ d = 4 := by omega
      rcases this with rfl | rfl | rfl | rfl | rfl <;> decide
    obtain ⟨hN1, hS1⟩ := hNb d (by omega)
    have hB : 1000000 * (5 - d) ≤ 1099000000000 := by omega
    have hpB : p + 1000000 ≤ 1000000 * (5 - d) := by omega
    have hn : ∀ p, p ≤ 1000000 * (5 - d) → Dn ((D T).call F_spec_l13Node [rd b p, .sc (.int .i64 ((d + 1 - 1 : Nat) : Int))]) b p (NN d) (SS d) := ih (by omega)
    have eN : NN (d + 1) = 60 + 6 * NN d := rfl
    have eS : SS (d + 1) = 120 + 6 * SS d := rfl
    obtain ⟨k0, h0, a0, _⟩ := pick_is hb p (by omega) 6
    have a0 := a0 (by decide)
    have hc : c_spec_l13Node b (p : Int) ((d + 1 : Nat) : Int) = c_spec_l13Node b (p : Int) ((d + 1 : Nat) : Int) := rfl
    have step : (D T).call F_spec_l13Node [rd b p, .sc (.int .i64 ((d + 1 : Nat) : Int))] = t_spec_l13Node (D T) b (p : Int) ((d + 1 : Nat) : Int) := c_spec_l13Node _ _ _
    rw [step, t_spec_l13Node, decide_eq_false (show ¬ ((d + 1 : Nat) : Int) < 1 by omega), bif_false, h0]
    simp only [Option.bind_some, un_rd, l2_rd, al_rd, Bool.and_true, bif_true, unEnd_mk, unI_mk, unL_mk, List.getD_cons_zero, List.getD_cons_succ]
    by_cases c0 : k0 = 0
    · rw [decide_eq_true (show (k0 : Int) = 0 by omega), bif_true]
      refine ⟨.mk 0 nul [] 0 0 [], p + 1, ?_, by omega, by omega, by simp only [szN, szT, List.length_nil]; show 0 + _ ≤ _; omega⟩
      rw [encN_mk]; simp only [encNs]
    rw [decide_eq_false (show ¬ (k0 : Int) = 0 by omega), bif_false]
    by_cases c1 : k0 = 1
    · rw [decide_eq_true (show (k0 : Int) = 1 by omega), bif_true]
      obtain ⟨n, q, g1, g2, g3, g4⟩ := list_is hb (p + 1) (by omega)
      rw [g1]
      refine ⟨n, q, ?_, by omega, by omega, by omega⟩
      simp only [Option.bind_some, un_rd, l2_rd, al_rd, Bool.and_true, bif_true, unEnd_mk, unI_mk, unL_mk, List.getD_cons_zero, List.getD_cons_succ, un_encN]
      obtain ⟨k, dd, pp, ss, cc, ii⟩ := n
      rw [encN_mk]
    rw [decide_eq_false (show ¬ (k0 : Int) = 1 by omega), bif_false]
    by_cases c2 : k0 = 2
    · rw [decide_eq_true (show (k0 : Int) = 2 by omega), bif_true]
      obtain ⟨k1, h1, a1, _⟩ := pick_is hb (p + 1) (by omega) 4
      have a1 := a1 (by decide)
      rw [h1]
      simp only [Option.bind_some, un_rd, l2_rd, al_rd, Bool.and_true, bif_true, unEnd_mk, unI_mk, unL_mk, List.getD_cons_zero, List.getD_cons_succ]
      have hNk : NN d * k1 ≤ NN d * 3 := Nat.mul_le_mul_left _ (by omega)
      have hSk : SS d * k1 ≤ SS d * 3 := Nat.mul_le_mul_left _ (by omega)
      by_cases hz : k1 = 0
      · subst hz
        refine ⟨.mk 2 nul [] 6 0 [], p + 2, ?_, by omega, by omega, by simp only [szN, szT, List.length_nil]; show 0 + _ ≤ _; omega⟩
        rw [L_spec_l13Node_0_eq, tL_spec_l13Node_0, encN_mk]; simp only [encNs]; rfl
      · obtain ⟨n, q, g1, g2, g3, g4⟩ := hn (p + 2) (by omega)
        obtain ⟨ns', q', e1, e2, e3, e4, e5⟩ := ptrs_loop hb (d + 1) (NN d) (SS d) (by omega) (by omega) _ hB hn (k1 - 1) (by omega) [n] q (by simp; omega) (by
          have : NN d * (k1 - 1) ≤ NN d * 3 := Nat.mul_le_mul_left _ (by omega)
          omega)
        have m1 : NN d * (k1 - 1) ≤ NN d * 2 := Nat.mul_le_mul_left _ (by omega)
        have m2 : SS d * (k1 - 1) ≤ SS d * 2 := Nat.mul_le_mul_left _ (by omega)
        refine ⟨.mk 2 nul ([n] ++ ns') 6 (([n] ++ ns').length : Nat) [], q', ?_, by omega, by omega, by simp only [szN, szT, List.length_nil, List.singleton_append, List.length_cons]; show 0 + _ ≤ _; omega⟩
        have w1 : IntKind.wrap .i64 (((d + 1 : Nat) : Int) - 1) = ((d + 1 - 1 : Nat) : Int) := by rw [wrap_id (by omega) (by omega)]; omega
        have w2 : IntKind.wrap .i64 ((k1 : Int) - 1) = ((k1 - 1 : Nat) : Int) := by rw [wrap_id (by omega) (by omega)]; omega
        rw [L_spec_l13Node_0_eq, tL_spec_l13Node_0, decide_eq_true (show (0 : Int) < (k1 : Int) by omega), bif_true, w1, g1]
        simp only [Option.bind_some, un_rd, l2_rd, al_rd, Bool.and_true, bif_true, unEnd_mk, unI_mk, unL_mk, List.getD_cons_zero, List.getD_cons_succ, unSt_encN, wd_encN]
        rw [w2]
        have e : encNs [n] = [encN n] := by simp only [encNs]
        rw [e] at e1
        exact e1
    rw [decide_eq_false (show ¬ (k0 : Int) = 2 by omega), bif_false]
    by_cases c3 : k0 = 3
    · rw [decide_eq_true (show (k0 : Int) = 3 by omega), bif_true]
      obtain ⟨k1, h1, a1, _⟩ := pick_is hb (p + 1) (by omega) 3
      obtain ⟨k2, h2, a2, _⟩ := pick_is hb (p + 2) (by omega) 3
      obtain ⟨k3, h3, a3, _⟩ := pick_is hb (p + 3) (by omega) 4
      have a1 := a1 (by decide)
      have a2 := a2 (by decide)
      have a3 := a3 (by decide)
      rw [h1]
      simp only [Option.bind_some, un_rd, l2_rd, al_rd, Bool.and_true, bif_true, unEnd_mk, unI_mk, unL_mk, List.getD_cons_zero, List.getD_cons_succ]
      rw [h2]
      simp only [Option.bind_some, un_rd, l2_rd, al_rd, Bool.and_true, bif_true, unEnd_mk, unI_mk, unL_mk, List.getD_cons_zero, List.getD_cons_succ]
      rw [h3]
      simp only [Option.bind_some, un_rd, l2_rd, al_rd, Bool.and_true, bif_true, unEnd_mk, unI_mk, unL_mk, List.getD_cons_zero, List.getD_cons_succ]
      have hNk : NN d * k2 ≤ NN d * 2 := Nat.mul_le_mul_left _ (by omega)
      have hSk : SS d * k2 ≤ SS d * 2 := Nat.mul_le_mul_left _ (by omega)
      by_cases hz : k3 = 0
      · subst hz
        refine ⟨.mk 2 nul [] 7 0 [], p + 4, ?_, by omega, by omega, by simp only [szN, szT, List.length_nil]; show 0 + _ ≤ _; omega⟩
        rw [L_spec_l13Node_1_eq, tL_spec_l13Node_1, encN_mk]; simp only [encNs]; rfl
      · have m0 : (3 * k1 + NN d * k2) * (k3 - 1) ≤ (6 + NN d * 2) * 2 := Nat.mul_le_mul (by omega) (by omega)
        have m1 : (8 * k1 + k2 + SS d * k2) * (k3 - 1) ≤ (18 + SS d * 2) * 2 := Nat.mul_le_mul (by omega) (by omega)
        obtain ⟨s, xs, q, g1, g2, g3, g4, g5, g6⟩ := struct_is hb k1 k2 (d + 1) (NN d) (SS d) (by omega) (by omega) (by omega) (by omega) _ hB hn (p + 4) (by omega)
        obtain ⟨ns', q', e1, e2, e3, e4, e5⟩ := items_loop hb k1 k2 (d + 1) (NN d) (SS d) (by omega) (by omega) (by omega) (by omega) _ hB hn (k3 - 1) (by omega) [.mk 1 s xs 0 0 []] q (by simp; omega) (by omega)
        refine ⟨.mk 2 nul [] 7 (([Nod.mk 1 s xs 0 0 []] ++ ns').length : Nat) ([Nod.mk 1 s xs 0 0 []] ++ ns'), q', ?_, by omega, by omega, by simp only [szN, szT, List.length_nil, List.singleton_append, List.length_cons]; show 0 + _ ≤ _; omega⟩
        have w2 : IntKind.wrap .i64 ((k3 : Int) - 1) = ((k3 - 1 : Nat) : Int) := by rw [wrap_id (by omega) (by omega)]; omega
        rw [L_spec_l13Node_1_eq, tL_spec_l13Node_1, decide_eq_true (show (0 : Int) < (k3 : Int) by omega), bif_true, g1]
        simp only [Option.bind_some, un_rd, l2_rd, al_rd, Bool.and_true, bif_true, unEnd_mk, unI_mk, unL_mk, List.getD_cons_zero, List.getD_cons_succ, unSt_encN, wd_encN]
        rw [w2]
        have e : encNs [.mk 1 s xs 0 0 []] = [encN (.mk 1 s xs 0 0 [])] := by simp only [encNs]
        rw [e] at e1
        exact e1
    rw [decide_eq_false (show ¬ (k0 : Int) = 3 by omega), bif_false]
    obtain ⟨k1, h1, a1, _⟩ := pick_is hb (p + 1) (by omega) 4
    obtain ⟨k2, h2, a2, _⟩ := pick_is hb (p + 2) (by omega) 4
    have a1 := a1 (by decide)
    have a2 := a2 (by decide)
    rw [h1]
    simp only [Option.bind_some, un_rd, l2_rd, al_rd, Bool.and_true, bif_true, unEnd_mk, unI_mk, unL_mk, List.getD_cons_zero, List.getD_cons_succ]
    rw [h2]
    simp only [Option.bind_some, un_rd, l2_rd, al_rd, Bool.and_true, bif_true, unEnd_mk, unI_mk, unL_mk, List.getD_cons_zero, List.getD_cons_succ]
    have hNk : NN d * k2 ≤ NN d * 3 := Nat.mul_le_mul_left _ (by omega)
    have hSk : SS d * k2 ≤ SS d * 3 := Nat.mul_le_mul_left _ (by omega)
    obtain ⟨s, xs, q, g1, g2, g3, g4, g5, g6⟩ := struct_is hb k1 k2 (d + 1) (NN d) (SS d) (by omega) (by omega) (by omega) (by omega) _ hB hn (p + 3) (by omega)
    rw [g1]
    refine ⟨.mk 1 s xs 0 0 [], q, ?_, by omega, by omega, by simp only [szN, szT, List.length_nil]; omega⟩
    simp only [Option.bind_some, un_rd, l2_rd, al_rd, Bool.and_true, bif_true, unEnd_mk, unI_mk, unL_mk, List.getD_cons_zero, List.getD_cons_succ]
    rw [unSt_encN, un_N]
    simp only
    rw [encN_mk]

/-! ### any node -/
theorem any_loop {b : List V} (hb : Bts b) : ∀ k, k ≤ 9 → ∀ (n : Nod) (p : Nat), p + (10 - k) ≤ 1000000 → Dn (match n with | .mk kk d ps s c _ => L_spec_l13AnyNode_1 (D T) (k : Nat) b (p : Nat) 0 nul 0 0 kk d (encNs ps) s c) b p (10 - k) (szN (match n with | .mk kk d ps s c _ => .mk kk d ps s c []) + (10 - k)) := by
  refine down (fun n p hp => ?_) fun k hk ih n p hp => ?_
  · obtain ⟨kk, d, ps, s, c, is⟩ := n
    obtain ⟨k1, h1, a1, _⟩ := pick_is hb p (by omega) 4
    have a1 := a1 (by decide)
    have w : IntKind.wrap .i64 (6 + (k1 : Int)) = ((6 + k1 : Nat) : Int) := by rw [wrap_id (by omega) (by omega)]; omega
    refine ⟨.mk kk d ps s c [], p + 1, ?_, by omega, by omega, Nat.le_add_right _ _⟩
    simp only
    rw [L_spec_l13AnyNode_1_eq, tL_spec_l13AnyNode_1, h1]
    simp only [Option.bind_some, un_rd, l2_rd, al_rd, Bool.and_true, bif_true, unEnd_mk, unI_mk, unL_mk, List.getD_cons_zero, List.getD_cons_succ]
    rw [w, decide_eq_false (show ¬ ((9 : Nat) : Int) < ((6 + k1 : Nat) : Int) by omega), bif_false, encN_mk]
    simp only [encNs]
  · obtain ⟨kk, d, ps, s, c, is⟩ := n
    obtain ⟨k1, h1, a1, _⟩ := pick_is hb p (by omega) 4
    have a1 := a1 (by decide)
    have w : IntKind.wrap .i64 (6 + (k1 : Int)) = ((6 + k1 : Nat) : Int) := by rw [wrap_id (by omega) (by omega)]; omega
    simp only
    rw [L_spec_l13AnyNode_1_eq, tL_spec_l13AnyNode_1, h1]
    simp only [Option.bind_some, un_rd, l2_rd, al_rd, Bool.and_true, bif_true, unEnd_mk, unI_mk, unL_mk, List.getD_cons_zero, List.getD_cons_succ]
    rw [w]
    by_cases hlt : k < 6 + k1
    · obtain ⟨n', q, g1, g2, g3, g4⟩ := ih (.mk 1 nul [.mk kk d ps s c []] 0 0 []) (p + 1) (by omega)
      rw [decide_eq_true (show ((k : Nat) : Int) < ((6 + k1 : Nat) : Int) by omega), bif_true, next_i (by omega)]
      simp only [encNs, encN_mk] at g1
      refine ⟨n', q, g1, by omega, by omega, ?_⟩
      simp only [szN, szT, List.length_cons, List.length_nil] at g4 ⊢
      have : nul.size = 0 := rfl
      omega
    · rw [decide_eq_false (show ¬ ((k : Nat) : Int) < ((6 + k1 : Nat) : Int) by omega), bif_false]
      refine ⟨.mk kk d ps s c [], p + 1, ?_, by omega, by omega, Nat.le_add_right _ _⟩
      rw [encN_mk]
      simp only [encNs]
theorem any_is {b : List V} (hb : Bts b) (p : Nat) (hp : p ≤ 1000) : Dn ((D T).call F_spec_l13AnyNode [rd b p]) b p 20000 40000 := by
  have hNb : ∀ d, d ≤ 4 → NN d ≤ 15540 ∧ SS d ≤ 31080 := fun d hd => by
    have : d = 0 ∨ d = 1 ∨ d = 2 ∨ d = 3 ∨ d = 4 := by omega
    rcases this with rfl | rfl | rfl | rfl | rfl <;> decide
  obtain ⟨d, hd, h0⟩ := one_is hb p (by omega) [1, 2, 3, 3, 4] (by decide) (by decide)
  have h0 : (D T).call F_spec_l1Rd_one [rd b p, .sl 1 [.sc (.int .i64 1), .sc (.int .i64 2), .sc (.int .i64 3), .sc (.int .i64 3), .sc (.int .i64 4)]] = _ := h0
  obtain ⟨d, rfl, hd4⟩ : ∃ d' : Nat, d = d' ∧ d' ≤ 4 := by
    simp only [List.mem_cons, List.not_mem_nil, or_false] at hd
    rcases hd with rfl | rfl | rfl | rfl | rfl
    · exact ⟨1, rfl, by decide⟩
    · exact ⟨2, rfl, by decide⟩
    · exact ⟨3, rfl, by decide⟩
    · exact ⟨3, rfl, by decide⟩
    · exact ⟨4, rfl, by decide⟩
  obtain ⟨hN, hS⟩ := hNb d hd4
  obtain ⟨n, q, g1, g2, g3, g4⟩ := node_is hb d hd4 (p + 1) (by omega)
  obtain ⟨k0, p0, a0, _⟩ := pick_is hb q (by omega) 24
  rw [c_spec_l13AnyNode, t_spec_l13AnyNode, h0]
  simp only [Option.bind_some, un_rd, l2_rd, al_rd, Bool.and_true, bif_true, unEnd_mk, unI_mk, unL_mk, List.getD_cons_zero, List.getD_cons_succ]
  rw [g1]
  simp only [Option.bind_some, un_rd, l2_rd, al_rd, Bool.and_true, bif_true, unEnd_mk, unI_mk, unL_mk, List.getD_cons_zero, List.getD_cons_succ, un_encN]
  obtain ⟨kk, dd, ps, s, c, is⟩ := n
  simp only
  rw [p0]
  simp only [Option.bind_some, un_rd, l2_rd, al_rd, Bool.and_true, bif_true, unEnd_mk, unI_mk, unL_mk, List.getD_cons_zero, List.getD_cons_succ]
  simp only [szN] at g4
  by_cases c0 : (k0 : Int) = 0
  · rw [decide_eq_true c0, bif_true]
    obtain ⟨k1, h1, a1, _⟩ := pick_is hb (q + 1) (by omega) 4
    rw [h1]
    simp only [Option.bind_some, un_rd, l2_rd, al_rd, Bool.and_true, bif_true, unEnd_mk, unI_mk, unL_mk, List.getD_cons_zero, List.getD_cons_succ]
    exact ⟨.mk (k1 : Int) dd ps s c is, q + 2, by rw [encN_mk], by omega, by omega, by simp only [szN]; omega⟩
  rw [decide_eq_false c0, bif_false]
  by_cases c1 : (k0 : Int) = 1
  · rw [decide_eq_true c1, bif_true]
    have m := many_is (.mk (.mk [0])) 8 (by decide) (by decide)
    have m : (D T).call F_spec_l1Many [.sc (.string (.mk (.mk [0]))), .sc (.int .i64 8)] = _ := m
    obtain ⟨t, ht, h1⟩ := of_is hb (q + 1) (by omega) [.mk (.mk [120]), repB (.mk (.mk [0])) 8] (by simp) (by simp)
    have h1 : (D T).call F_spec_l1Rd_of [rd b (q + 1), .sl 1 [.sc (.string (.mk (.mk [120]))), .sc (.string (repB (.mk (.mk [0])) 8))]] = _ := h1
    have hts : t.size ≤ 8 := by
      simp only [List.mem_cons, List.not_mem_nil, or_false] at ht
      rcases ht with rfl | rfl
      · decide
      · rw [repB_size]; decide
    rw [m]
    simp only [Option.bind_some, unS_enc]
    rw [h1]
    simp only [Option.bind_some, un_rd, l2_rd, al_rd, Bool.and_true, bif_true, unEnd_mk, unI_mk, unL_mk, List.getD_cons_zero, List.getD_cons_succ, unS_enc]
    rw [decide_eq_true (show dd.size + t.size ≤ 9223372036854775807 by omega), bif_true]
    exact ⟨.mk kk (dd ++ t) ps s c is, q + 2, by rw [encN_mk], by omega, by omega, by simp only [szN]; rw [ba_size]; omega⟩
  rw [decide_eq_false c1, bif_false]
  by_cases c2 : (k0 : Int) = 2
  · rw [decide_eq_true c2, bif_true]
    obtain ⟨t, ht, h1⟩ := one_is hb (q + 1) (by omega) [1, -1] (by simp) (by simp)
    have h1 : (D T).call F_spec_l1Rd_one [rd b (q + 1), .sl 1 [.sc (.int .i64 1), .sc (.int .i64 (-1))]] = _ := h1
    rw [h1]
    simp only [Option.bind_some, un_rd, l2_rd, al_rd, Bool.and_true, bif_true, unEnd_mk, unI_mk, unL_mk, List.getD_cons_zero, List.getD_cons_succ]
    exact ⟨.mk kk dd ps s (IntKind.wrap .i64 (c + t)) is, q + 2, by rw [encN_mk], by omega, by omega, by simp only [szN]; omega⟩
  rw [decide_eq_false c2, bif_false]
  by_cases c3 : (k0 : Int) = 3
  · rw [decide_eq_true c3, bif_true]
    obtain ⟨k1, h1, a1, _⟩ := pick_is hb (q + 1) (by omega) 4
    have a1 := a1 (by decide)
    have w : IntKind.wrap .i64 (6 + (k1 : Int)) = ((6 + k1 : Nat) : Int) := by rw [wrap_id (by omega) (by omega)]; omega
    obtain ⟨n', q', e1, e2, e3, e4⟩ := any_loop hb 1 (by decide) (.mk 1 nul [.mk kk dd ps s c is] 0 0 []) (q + 2) (by omega)
    simp only [encNs, encN_mk] at e1
    refine ⟨n', q', ?_, by omega, by omega, ?_⟩
    · rw [L_spec_l13AnyNode_0_eq, tL_spec_l13AnyNode_0, h1]
      simp only [Option.bind_some, un_rd, l2_rd, al_rd, Bool.and_true, bif_true, unEnd_mk, unI_mk, unL_mk, List.getD_cons_zero, List.getD_cons_succ]
      rw [w, decide_eq_true (show (0 : Int) < ((6 + k1 : Nat) : Int) by omega), bif_true, next0]
      exact e1
    · simp only [szN, szT, List.length_cons, List.length_nil] at e4
      have : nul.size = 0 := rfl
      omega
  rw [decide_eq_false c3, bif_false]
  by_cases c4 : (k0 : Int) = 4
  · rw [decide_eq_true c4, bif_true]
    obtain ⟨k1, h1, a1, _⟩ := pick_is hb (q + 1) (by omega) 4
    have a1 := a1 (by decide)
    have w : IntKind.wrap .i64 (8 * IntKind.wrap .i64 (197 + (k1 : Int))) = ((8 * (197 + k1) : Nat) : Int) := by rw [wrap_id (n := 197 + (k1 : Int)) (by omega) (by omega), wrap_id (by omega) (by omega)]; omega
    have m := many_is (.mk (.mk [1])) (8 * (197 + k1)) (by show 1 * _ ≤ _; omega) (by omega)
    rw [h1]
    simp only [Option.bind_some, un_rd, l2_rd, al_rd, Bool.and_true, bif_true, unEnd_mk, unI_mk, unL_mk, List.getD_cons_zero, List.getD_cons_succ]
    rw [w, m]
    simp only [Option.bind_some, unS_enc]
    refine ⟨.mk 1 (repB (.mk (.mk [1])) (8 * (197 + k1))) [] 0 0 [], q + 2, by rw [encN_mk]; simp only [encNs], by omega, by omega, ?_⟩
    simp only [szN, szT, List.length_nil]
    rw [repB_size]
    show 1 * _ + _ ≤ _
    omega
  rw [decide_eq_false c4, bif_false]
  by_cases c5 : (k0 : Int) = 5
  · rw [decide_eq_true c5, bif_true]
    obtain ⟨t, ht, h1⟩ := one_is hb (q + 1) (by omega) [999, 1000, 1001] (by simp) (by simp)
    have h1 : (D T).call F_spec_l1Rd_one [rd b (q + 1), .sl 1 [.sc (.int .i64 999), .sc (.int .i64 1000), .sc (.int .i64 1001)]] = _ := h1
    rw [h1]
    simp only [Option.bind_some, un_rd, l2_rd, al_rd, Bool.and_true, bif_true, unEnd_mk, unI_mk, unL_mk, List.getD_cons_zero, List.getD_cons_succ]
    exact ⟨.mk 2 nul [] 0 t [], q + 2, by rw [encN_mk]; simp only [encNs], by omega, by omega, by simp only [szN, szT, List.length_nil]; show 0 + _ ≤ _; omega⟩
  rw [decide_eq_false c5, bif_false]
  exact ⟨.mk kk dd ps s c is, q + 1, by rw [encN_mk], by omega, by omega, by simp only [szN]; omega⟩


theorem open_is (l : List V) (h : Byt l) : ∃ b, Bts b ∧ (D T).call F_spec_l1Open [.sl 1 l] = some (rd b 0, []) := by
  rw [c_spec_l1Open, t_spec_l1Open]
  by_cases hl : (2000 : Int) < Int.ofNat l.length
  · have hl' : 2000 < l.length := by rw [show Int.ofNat l.length = (l.length : Int) from rfl] at hl; omega
    rw [decide_eq_true hl, bif_true, decide_eq_true (show (2000 : Int) ≤ Int.ofNat l.length by rw [show Int.ofNat l.length = (l.length : Int) from rfl]; omega), bif_true]
    exact ⟨l.take 2000, ⟨by simp; omega, fun x hx => h x (List.mem_of_mem_take hx)⟩, rfl⟩
  · rw [decide_eq_false hl, bif_false]
    exact ⟨l, ⟨by rw [show Int.ofNat l.length = (l.length : Int) from rfl] at hl; omega, h⟩, rfl⟩
end Go.Proofs.YtmddfhjgdhjmkaaDoor.VM
