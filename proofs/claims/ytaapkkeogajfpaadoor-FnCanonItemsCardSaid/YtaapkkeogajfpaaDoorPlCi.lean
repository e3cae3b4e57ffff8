/- What the program's functions compute, in plain words, and the laws. -/
import Derived.Test.YtaapkkeogajfpaaDoorEqCi
import Derived.Test.YtaapkkeogajfpaaDoorPlCn
set_option linter.unusedVariables false
set_option linter.unusedSimpArgs false
namespace Go.Proofs.YtaapkkeogajfpaaDoor.VM
def its : Nod → List Nod
  | .mk _ _ _ _ _ i => i
/-- nothing more can be taken away -/
theorem tlen_fix (l : List UInt8) : ∀ n, ¬ (8 ≤ tlen l n ∧ zr ((l.take (tlen l n)).drop (tlen l n - 8)) = true) := by
  intro n
  induction n using Nat.strongRecOn with
  | ind n ih =>
    by_cases h : 8 ≤ n ∧ zr ((l.take n).drop (n - 8)) = true
    · have e : tlen l n = tlen l (n - 8) := by rw [tlen, dif_pos h]
      rw [e]
      exact ih (n - 8) (by omega)
    · have e : tlen l n = n := by rw [tlen, dif_neg h]
      rw [e]; exact h
theorem or_zero {a b : Nat} : a ||| b = 0 ↔ a = 0 ∧ b = 0 := by
  constructor
  · intro h
    exact ⟨by have := Nat.left_le_or (n := a) (m := b); omega, by have := Nat.right_le_or (n := a) (m := b); omega⟩
  · rintro ⟨rfl, rfl⟩; rfl
theorem wu64 {m : Nat} (h : m < 18446744073709551616) : IntKind.wrap .u64 (m : Int) = (m : Int) := by
  show (m : Int) % 18446744073709551616 = m
  omega
theorem bv64 {m : Nat} (h : m < 18446744073709551616) : (BitVec.ofInt 64 (m : Int)) = BitVec.ofNat 64 m := by
  rw [BitVec.ofInt_natCast]
theorem fetch_step {acc b : Nat} (h : acc < 72057594037927936) (hb : b < 256) :
    IntKind.wrap .u64 (Int.ofNat (BitVec.toNat ((BitVec.ofInt 64 (IntKind.wrap .u64 ((acc : Int) * (Int.pow 2 8)))) ||| (BitVec.ofInt 64 (IntKind.wrap .u64 (b : Int)))))) = ((acc * 256 ||| b : Nat) : Int) := by
  have e : (acc : Int) * (Int.pow 2 8) = ((acc * 256 : Nat) : Int) := by
    rw [show (Int.pow 2 8) = 256 from rfl]; omega
  rw [e, wu64 (by omega), wu64 (by omega), bv64 (by omega), bv64 (by omega), BitVec.toNat_or, BitVec.toNat_ofNat, BitVec.toNat_ofNat, Nat.mod_eq_of_lt (by omega), Nat.mod_eq_of_lt (by omega)]
  have : acc * 256 ||| b < 2 ^ 64 := Nat.or_lt_two_pow (by omega) (by omega)
  exact wu64 (by omega)
theorem fetch_loop (d : ByteArray) (o : Nat) (ho : o + 8 ≤ d.size) (hd : d.size ≤ 140737488351232) : ∀ t : Nat, t ≤ 8 → ∀ acc : Nat, acc < 2 ^ (8 * (8 - t)) →
    ∃ m : Nat, L_impl_fetch_0 (D T) d (o : Int) (acc : Int) ((t : Int) - 1) = some (.sc (.int .i64 (IntKind.wrap .i64 (m : Int))), []) ∧ m < 18446744073709551616 ∧ (m = 0 ↔ acc = 0 ∧ ∀ r, r < t → (bl d)[o + r]? = some 0) := by
  intro t
  induction t with
  | zero =>
    intro _ acc ha
    have h64 : (2 : Nat) ^ (8 * (8 - 0)) = 18446744073709551616 := by decide
    refine ⟨acc, ?_, by omega, ⟨fun h => ⟨h, fun r hr => by omega⟩, fun h => h.1⟩⟩
    rw [L_impl_fetch_0_eq, tL_impl_fetch_0, decide_eq_false (show ¬ (0 : Int) ≤ ((0 : Nat) : Int) - 1 by omega), bif_false]
  | succ t ih =>
    intro ht acc ha
    have hlt : o + t < (bl d).length := by rw [bl_length]; omega
    have hg : (bl d)[o + t]? = some (bl d)[o + t] := List.getElem?_eq_getElem hlt
    have ha7 : acc < 2 ^ 56 := Nat.lt_of_lt_of_le ha (Nat.pow_le_pow_right (by decide) (by omega))
    have hb : (bl d)[o + t].toNat < 256 := UInt8.toNat_lt _
    have h56 : acc < 72057594037927936 := by
      have : (2 : Nat) ^ 56 = 72057594037927936 := by decide
      omega
    have hn : acc * 256 ||| (bl d)[o + t].toNat < 2 ^ (8 * (8 - t)) := by
      have e : 8 * (8 - t) = 8 * (8 - (t + 1)) + 8 := by omega
      refine Nat.or_lt_two_pow ?_ (Nat.lt_of_lt_of_le hb ?_)
      · rw [e, Nat.pow_add]
        have : (2 : Nat) ^ 8 = 256 := by decide
        rw [this]; omega
      · rw [e, Nat.pow_add]
        have : (2 : Nat) ^ 8 = 256 := by decide
        rw [this]
        have := Nat.two_pow_pos (8 * (8 - (t + 1)))
        omega
    obtain ⟨m, h1, h2, h3⟩ := ih (by omega) _ hn
    refine ⟨m, ?_, h2, ?_⟩
    · have et : ((t + 1 : Nat) : Int) - 1 = (t : Int) := by omega
      rw [L_impl_fetch_0_eq, tL_impl_fetch_0, et, decide_eq_true (show (0 : Int) ≤ (t : Int) by omega), bif_true]
      have e1 : IntKind.wrap .i64 ((o : Int) + (t : Int)) = ((o + t : Nat) : Int) := by rw [wrap_id (by omega) (by omega)]; omega
      rw [e1, decide_eq_true (show (((o + t : Nat) : Int) < Int.ofNat d.size) by show ((o + t : Nat) : Int) < (d.size : Int); omega), bif_true, ixS_at hg, fetch_step h56 hb, wrap_id (by omega) (by omega)]
      exact h1
    · rw [h3, or_zero]
      have hz : (bl d)[o + t].toNat = 0 ↔ (bl d)[o + t]? = some 0 := by
        rw [hg]
        constructor
        · intro h
          rw [show (bl d)[o + t] = 0 from UInt8.toNat_inj.1 h]
        · intro h
          injection h with h
          rw [h]; rfl
      constructor
      · rintro ⟨⟨p1, p2⟩, p3⟩
        refine ⟨by omega, fun r hr => ?_⟩
        by_cases hrt : r = t
        · rw [hrt]; exact hz.1 p2
        · exact p3 r (by omega)
      · rintro ⟨p1, p2⟩
        exact ⟨⟨by omega, hz.2 (p2 t (by omega))⟩, fun r hr => p2 r (by omega)⟩
theorem Get_is (d : ByteArray) (h8 : 8 ≤ d.size) (hm : d.size % 8 = 0) (hd : d.size ≤ 1600) : ∃ m : Int, (D T).call F_impl_Get [.sc (.string d), .sc (.int .i64 ((d.size - 8 : Nat) : Int)), .sc (.int .i64 8)] = some (.sc (.int .i64 m), []) ∧
    (m = 0 ↔ zr (((bl d).take d.size).drop (d.size - 8)) = true) := by
  obtain ⟨m, h1, h2, h3⟩ := fetch_loop d (d.size - 8) (by omega) (by omega) 8 (by omega) 0 (by decide)
  refine ⟨IntKind.wrap .i64 (m : Int), ?_, ?_⟩
  · have c1 : (D T).call F_impl_isWords [.sc (.string d)] = some (.sc (.bool true), []) := by
      rw [c_impl_isWords, t_impl_isWords]
      rw [decide_eq_true (show Int.tmod (Int.ofNat d.size) 8 = 0 by show Int.ofNat (d.size % 8) = 0; rw [hm]; rfl), bif_true, decide_eq_true (show (Int.ofNat d.size ≤ 1600) by show (d.size : Int) ≤ 1600; omega)]
    have c2 : (D T).call F_impl_isSize [.sc (.int .i64 8)] = some (.sc (.bool true), []) := by
      rw [c_impl_isSize, t_impl_isSize]; rfl
    have c3 : (D T).call F_impl_in [.sc (.int .i64 ((d.size - 8 : Nat) : Int)), .sc (.int .i64 0), .sc (.int .i64 1600)] = some (.sc (.bool true), []) := by
      rw [c_impl_in, t_impl_in, decide_eq_true (show (0 : Int) ≤ ((d.size - 8 : Nat) : Int) by omega), bif_true, decide_eq_true (show ((d.size - 8 : Nat) : Int) ≤ 1600 by omega)]
    have c4 : (D T).call F_impl_isPlace [.sc (.int .i64 ((d.size - 8 : Nat) : Int)), .sc (.int .i64 8)] = some (.sc (.bool true), []) := by
      rw [c_impl_isPlace, t_impl_isPlace, c2, Option.bind_some, unB_mk, bif_true, c3, Option.bind_some, unB_mk, bif_true, decide_eq_true (show Int.tmod ((d.size - 8 : Nat) : Int) 8 = 0 by show Int.ofNat ((d.size - 8) % 8) = 0; rw [show (d.size - 8) % 8 = 0 by omega]; rfl)]
      rfl
    have c5 : (D T).call F_impl_fetch [.sc (.string d), .sc (.int .i64 ((d.size - 8 : Nat) : Int)), .sc (.int .i64 8)] = some (.sc (.int .i64 (IntKind.wrap .i64 (m : Int))), []) := by
      rw [c_impl_fetch, t_impl_fetch]
      exact h1
    rw [c_impl_Get, t_impl_Get, c1, Option.bind_some, unB_mk, Bool.not_true, bif_false, c4, Option.bind_some, unB_mk, Bool.not_true, bif_false, c5, Option.bind_some, unI_mk]
  · have e : IntKind.wrap .i64 (m : Int) = 0 ↔ m = 0 := by rw [IntKind.wrap_i64]; omega
    rw [e, h3, zr_mem]
    have hl : (bl d).length = d.size := rfl
    rw [show (bl d).take d.size = bl d from by rw [← hl]; exact List.take_length]
    constructor
    · rintro ⟨_, h⟩ x hx
      obtain ⟨r, hr, rfl⟩ := List.getElem_of_mem hx
      have hr8 : r < 8 := by rw [List.length_drop, hl] at hr; omega
      have := h r hr8
      rw [List.getElem_drop]
      exact (List.getElem?_eq_some_iff.1 this).2
    · intro h
      refine ⟨rfl, fun r hr => ?_⟩
      have hlt : d.size - 8 + r < (bl d).length := by omega
      rw [List.getElem?_eq_getElem hlt]
      refine congrArg some (h _ ?_)
      have e2 : (bl d)[d.size - 8 + r] = ((bl d).drop (d.size - 8))[r]'(by rw [List.length_drop]; omega) := by rw [List.getElem_drop]
      rw [e2]
      exact List.getElem_mem _
def dnB (y : Nod) : Bool := !zr (((bl (dat y)).take (dat y).size).drop ((dat y).size - 8))
def pnB (v : Nat) (y : Nod) : Bool := !decide (knd ((prs y).getD (v - 1) noN) = 0)
theorem dmx_wit {l : List Nod} (h : 0 < dmx l) : ∃ x ∈ l, (trimD (dat x)).size = dmx l := by
  induction l with
  | nil => cases h
  | cons y l ih =>
    rw [dmx] at h ⊢
    by_cases c : dmx l ≤ (trimD (dat y)).size
    · exact ⟨y, List.mem_cons_self .., by omega⟩
    · obtain ⟨x, hx, e⟩ := ih (by omega)
      exact ⟨x, List.mem_cons_of_mem _ hx, by omega⟩
theorem pmx_wit {l : List Nod} (h : 0 < pmx l) : ∃ x ∈ l, lstN (prs x) (prs x).length = pmx l := by
  induction l with
  | nil => cases h
  | cons y l ih =>
    rw [pmx] at h ⊢
    by_cases c : pmx l ≤ lstN (prs y) (prs y).length
    · exact ⟨y, List.mem_cons_self .., by omega⟩
    · obtain ⟨x, hx, e⟩ := ih (by omega)
      exact ⟨x, List.mem_cons_of_mem _ hx, by omega⟩
theorem lstN_nz (l : List Nod) : ∀ n, 0 < lstN l n → knd (l.getD (lstN l n - 1) noN) ≠ 0
  | 0, h => by cases h
  | n + 1, h => by
    rw [lstN] at h ⊢
    split
    · rename_i h0
      rw [if_pos h0] at h
      exact lstN_nz l n h
    · rename_i h0
      exact h0
/-- the last word and the last pointer of the items are needed -/
theorem cut_need {i : List Nod} (h : allStr i = true) : (0 < dmx (cni i) → (cutI (cni i)).any dnB = true) ∧ (0 < pmx (cni i) → (cutI (cni i)).any (pnB (pmx (cni i))) = true) := by
  obtain ⟨hp, hm⟩ := cut_props h
  refine ⟨fun h0 => ?_, fun h0 => ?_⟩
  · obtain ⟨z, hz, e⟩ := dmx_wit h0
    rw [List.any_eq_true]
    refine ⟨cutX (dmx (cni i)) (pmx (cni i)) z, by unfold cutI; exact List.mem_map_of_mem hz, ?_⟩
    rw [cni_map] at hz
    obtain ⟨x, hx, rfl⟩ := List.mem_map.1 hz
    obtain ⟨q1, _, _, _, q5⟩ := hp x hx
    have e : (trimD (dat x)).size = dmx (cni i) := by rw [cni_map]; rw [cni_map] at e; exact e
    have es : ((dat x).extract 0 (dmx (cni i))).size = dmx (cni i) := ex_size _ q1
    show (!zr (((bl ((dat x).extract 0 (dmx (cni i)))).take ((dat x).extract 0 (dmx (cni i))).size).drop (((dat x).extract 0 (dmx (cni i))).size - 8))) = true
    rw [es, bl_extract, List.drop_zero, List.take_take, Nat.min_self]
    have hf := tlen_fix (bl (dat x)) (dat x).size
    rw [← trim_size, e] at hf
    cases hz : zr (((bl (dat x)).take (dmx (cni i))).drop (dmx (cni i) - 8)) with
    | false => rfl
    | true => exact absurd ⟨by omega, hz⟩ hf
  · obtain ⟨z, hz, e⟩ := pmx_wit h0
    rw [List.any_eq_true]
    refine ⟨cutX (dmx (cni i)) (pmx (cni i)) z, by unfold cutI; exact List.mem_map_of_mem hz, ?_⟩
    rw [← e] at h0
    have hk := lstN_nz (prs z) _ h0
    rw [e] at hk
    show (!decide (knd (((prs z).take (pmx (cni i))).getD (pmx (cni i) - 1) noN) = 0)) = true
    have e2 : ((prs z).take (pmx (cni i))).getD (pmx (cni i) - 1) noN = (prs z).getD (pmx (cni i) - 1) noN := by
      rw [List.getD_eq_getElem?_getD, List.getD_eq_getElem?_getD, List.getElem?_take, if_pos (by omega)]
    rw [e2, decide_eq_false hk]
    rfl
theorem ci_loop (I : List Nod) (u v : Nat) (h : ∀ y ∈ I, (dat y).size = u ∧ (prs y).length = v) (hu : u ≤ 1600) (hu8 : u % 8 = 0) (hv : v ≤ 1048576) (hl : I.length ≤ 1048576)
    (i5 : Int) (s6 : ByteArray) (l7 : List V) (i8 i9 : Int) (l10 : List V) (i11 : Int) (s12 : ByteArray) (l13 : List V) (i14 i15 : Int) :
    ∀ j, j ≤ I.length → ∀ b2 b3 : Bool, (b2 = false → 8 ≤ u) → (b3 = false → 1 ≤ v) →
      L_laws_FnCanonItems_0 (D T) (u : Int) (v : Int) b2 b3 (j : Int) i5 s6 l7 i8 i9 l10 i11 s12 l13 i14 i15 (encNs I) =
        bo ((b2 || (I.drop j).any dnB) && ((b3 || (I.drop j).any (pnB v)) && decide (I.length = l10.length))) := by
  refine down ?_ fun j hj ih => ?_
  · intro b2 b3 _ _
    rw [L_laws_FnCanonItems_0_eq, tL_laws_FnCanonItems_0, encNs_length, nlt_ofNat, bif_false, List.drop_length]
    have e : decide (Int.ofNat I.length = Int.ofNat l10.length) = decide (I.length = l10.length) := decide_eq_decide.2 ⟨fun h => Int.ofNat.inj h, fun h => by rw [h]⟩
    rw [e]
    cases b2 <;> cases b3 <;> rfl
  · intro b2 b3 h2 h3
    have hm := List.getElem_mem hj
    obtain ⟨g1, g2⟩ := h _ hm
    have ej : IntKind.wrap .i64 ((j : Int) + 1) = ((j + 1 : Nat) : Int) := by rw [wrap_id (by omega) (by omega)]; omega
    have ev : 1 ≤ v → IntKind.wrap .i64 ((v : Int) - 1) = ((v - 1 : Nat) : Int) := fun h => by rw [wrap_id (by omega) (by omega)]; omega
    have eu : 8 ≤ u → IntKind.wrap .i64 ((u : Int) - 8) = ((u - 8 : Nat) : Int) := fun h => by rw [wrap_id (by omega) (by omega)]; omega
    rw [L_laws_FnCanonItems_0_eq, tL_laws_FnCanonItems_0, encNs_length, lt_ofNat hj, bif_true, ix_at (encNs_get I j hj), List.drop_eq_getElem_cons hj, List.any_cons, List.any_cons]
    generalize I[j] = y at g1 g2 hm
    have hpn : 1 ≤ v → ∃ x, (encNs (prs y))[v - 1]? = some (encN x) ∧ pnB v y = !decide (knd x = 0) := fun h => by
      have hlt : v - 1 < (prs y).length := by omega
      refine ⟨(prs y)[v - 1], encNs_get _ _ hlt, ?_⟩
      unfold pnB
      rw [List.getD_eq_getElem?_getD, List.getElem?_eq_getElem hlt]; rfl
    have hdn : 8 ≤ u → ∃ m : Int, (D T).call F_impl_Get [.sc (.string (dat y)), .sc (.int .i64 ((u - 8 : Nat) : Int)), .sc (.int .i64 8)] = some (.sc (.int .i64 m), []) ∧ dnB y = !decide (m = 0) := fun h => by
      obtain ⟨m, q1, q2⟩ := Get_is (dat y) (by omega) (by omega) (by omega)
      rw [g1] at q1 q2
      refine ⟨m, q1, ?_⟩
      unfold dnB
      rw [g1]
      cases hz : zr (((bl (dat y)).take u).drop (u - 8)) with
      | true => rw [decide_eq_true (q2.2 hz)]
      | false => rw [decide_eq_false fun e => by rw [q2.1 e] at hz; cases hz]
    obtain ⟨k, d, p, s, c, i⟩ := y
    rw [un_encN]
    dsimp only
    simp only [dat, prs] at g1 g2 hpn hdn
    rw [decide_eq_true (show Int.ofNat d.size = (u : Int) by rw [g1]; rfl), encNs_length, decide_eq_true (show Int.ofNat p.length = (v : Int) by rw [g2]; rfl), Bool.not_true, bif_false, bif_false]
    cases b2 with
    | true =>
      rw [bif_true]
      cases b3 with
      | true =>
        rw [bif_true, ej, ih true true (fun h => by cases h) (fun h => by cases h)]
        simp only [Bool.true_or]
      | false =>
        obtain ⟨x, q1, q2⟩ := hpn (h3 rfl)
        rw [bif_false, ev (h3 rfl), ix_at q1, ce0_knd, unI_mk, ej, ih true _ (fun h => by cases h) (fun _ => h3 rfl), q2]
        simp only [Bool.true_or, Bool.false_or]
    | false =>
      obtain ⟨m, r1, r2⟩ := hdn (h2 rfl)
      rw [bif_false, eu (h2 rfl), r1, Option.bind_some]
      dsimp only
      rw [unI_mk]
      cases b3 with
      | true =>
        rw [bif_true, ej, ih _ true (fun _ => h2 rfl) (fun h => by cases h), r2]
        simp only [Bool.true_or, Bool.false_or]
      | false =>
        obtain ⟨x, q1, q2⟩ := hpn (h3 rfl)
        rw [bif_false, ev (h3 rfl), ix_at q1, ce0_knd, unI_mk, ej, ih _ _ (fun _ => h2 rfl) (fun _ => h3 rfl), r2, q2]
        simp only [Bool.false_or]
theorem ownIt_ge : ∀ {l : List Nod} {x : Nod}, x ∈ l → (dat x).size / 8 ≤ ownIt l
  | y :: l, x, h => by
    rw [ownIt]
    rcases List.mem_cons.1 h with rfl | h
    · omega
    · have := ownIt_ge h; omega
theorem cn_items {k : Int} {d : ByteArray} {p : List Nod} {s c : Int} {i : List Nod} (h : okB (.mk k d p s c i) = true) {k' : Int} {d' : ByteArray} {p' : List Nod} {s' c' : Int} {i' : List Nod}
    (e : cn (.mk k d p s c i) = .mk k' d' p' s' c' i') (h2 : k' = 2) (h7 : s' = 7) : allStr i = true ∧ i' = cutI (cni i) ∧ ∀ x ∈ i, (dat x).size / 8 < 200 := by
  have hS := okB_okS h
  have hw : wdN (.mk k d p s c i) < 200 := by unfold okB at h; rw [Bool.and_eq_true, decide_eq_true_eq] at h; exact h.2
  rw [wd_ok hS] at hw
  rw [cn] at e
  by_cases k1 : k = 1
  · rw [decide_eq_true k1, bif_true] at e
    cases e; cases h2
  rw [decide_eq_false k1, bif_false] at e
  by_cases k2 : k = 2
  · rw [decide_eq_true k2, Bool.true_and, Bool.true_and] at e
    by_cases s6 : s = 6
    · rw [decide_eq_true s6, bif_true] at e
      cases e; omega
    rw [decide_eq_false s6, bif_false] at e
    by_cases s7 : s = 7
    · rw [decide_eq_true s7, bif_true] at e
      cases e
      refine ⟨?_, rfl, fun x hx => ?_⟩
      · rcases okS_form hS with h | h1 | h1
        · omega
        · have := (str_c h1).1; omega
        · obtain ⟨_, _, _, h2⟩ := lst_c h1
          rcases h2 with ⟨h, _⟩ | ⟨_, h, _⟩ | ⟨h, _⟩
          · omega
          · exact h
          · omega
      · have := ownIt_ge hx
        simp only [ownW] at hw
        rw [if_neg (by omega)] at hw
        omega
    · rw [decide_eq_false s7, bif_false] at e
      cases e; exact absurd h7 s7
  · rw [decide_eq_false k2, Bool.false_and, bif_false, Bool.false_and, bif_false] at e
    cases e; exact absurd h2 k2
theorem szT_memI {l : List Nod} {x : Nod} (h : x ∈ l) : szN x ≤ szT l := by
  induction l with
  | nil => cases h
  | cons y l ih =>
    rw [szT]
    rcases List.mem_cons.1 h with rfl | h
    · omega
    · have := ih h; omega
theorem law_dCanonItems (l : List V) (h : Byt l) : (D T).call F_laws_FnCanonItems [.sl 1 l] = some (.sc (.bool true), []) := by
  rw [c_laws_FnCanonItems, t_laws_FnCanonItems]
  cases decide ((1048576 : Int) < Int.ofNat l.length) with
  | true => rfl
  | false =>
  obtain ⟨n, hd, hsz⟩ := DrawCanon_is l h
  have hs : szN n ≤ 1048576 := by omega
  have hz := szN_ca n
  have hi := impl_Canon_is n hs
  have hsp := spec_Canon_is n hs
  have hq := qnNode_is (caN n) (okN_sz _ (by omega)) (caN n) (okN_sz _ (by omega))
  rw [eqN_refl] at hq
  rw [bif_false, hd, Option.bind_some, un_encN]
  have key : ∀ k' d' p' s' c' i', caN n = .mk k' d' p' s' c' i' → k' = 2 → s' = 7 → allStr (its n) = true ∧ i' = cutI (cni (its n)) ∧ ∀ x ∈ its n, (dat x).size / 8 < 200 := fun k' d' p' s' c' i' e h2 h7 => by
    cases hb : okB n with
    | false =>
      unfold caN at e; rw [hb, bif_false] at e
      unfold noN at e
      cases e; cases h2
    | true =>
      unfold caN at e; rw [hb, bif_true] at e
      obtain ⟨k, d, p, s, c, i⟩ := n
      exact cn_items hb e h2 h7
  generalize hC : caN n = C at hi hsp hq key hz
  obtain ⟨k, d, p, s, c, i⟩ := n
  rw [encN_mk] at hi hsp
  dsimp only
  rw [hi, Option.bind_some, un_encN]
  obtain ⟨k', d', p', s', c', i'⟩ := C
  have key := key k' d' p' s' c' i' rfl
  simp only [its] at key
  rw [encN_mk] at hsp hq
  dsimp only
  have fin : (Option.bind ((D T).call F_spec_Canon [.st [.sc (.int .i64 k), .sc (.string d), .sl 6 (encNs p), .sc (.int .i64 s), .sc (.int .i64 c), .sl 6 (encNs i)]]) fun r => unSt 6 r.1 (Option.bind ((D T).call F_laws_qnNode [.st [.sc (.int .i64 k'), .sc (.string d'), .sl 6 (encNs p'), .sc (.int .i64 s'), .sc (.int .i64 c'), .sl 6 (encNs i')], r.1]) fun r => unB r.1 fun b => (some (.sc (.bool b), []) : Option Res))) = some (.sc (.bool true), []) := by
    rw [hsp, Option.bind_some]
    simp only [unSt, List.length_cons, List.length_nil, hq, Option.bind_some, unB_mk, Nat.beq, bif_true]
  rw [hsp, Option.bind_some]
  have e6 : ∀ K : Option Res, unSt 6 (.st [.sc (.int .i64 k'), .sc (.string d'), .sl 6 (encNs p'), .sc (.int .i64 s'), .sc (.int .i64 c'), .sl 6 (encNs i')]) K = K := fun K => by
    simp only [unSt, List.length_cons, List.length_nil, Nat.beq, bif_true]
  dsimp only
  rw [e6, hq, Option.bind_some]
  dsimp only
  rw [unB_mk, Bool.not_true, bif_false]
  rw [hsp] at fin
  by_cases c2 : k' = 2
  case neg => rw [decide_eq_false c2, Bool.not_false, bif_true]; exact fin
  rw [decide_eq_true c2, Bool.not_true, bif_false]
  by_cases c7 : s' = 7
  case neg => rw [decide_eq_false c7, Bool.not_false, bif_true]; exact fin
  rw [decide_eq_true c7, Bool.not_true, bif_false, encNs_length]
  by_cases c0 : Int.ofNat i'.length = 0
  · rw [decide_eq_true c0, bif_true]; exact fin
  rw [decide_eq_false c0, bif_false]
  obtain ⟨hal, hI, hw⟩ := key c2 c7
  obtain ⟨hp, hm8⟩ := cut_props hal
  obtain ⟨n1, n2⟩ := cut_need hal
  have hyI : ∀ y ∈ i', (dat y).size = dmx (cni i) ∧ (prs y).length = pmx (cni i) := fun y hy => by
    rw [hI] at hy
    obtain ⟨x, hx, rfl⟩ := cut_mem hy
    obtain ⟨q1, q2, _⟩ := hp x hx
    refine ⟨ex_size _ q1, ?_⟩
    show ((cns (prs x)).take (pmx (cni i))).length = _
    rw [List.length_take, cns_length]; exact Nat.min_eq_left q2
  have hlen : i'.length = i.length := by rw [hI]; unfold cutI; rw [List.length_map, cni_length]
  simp only [szN] at hsz hz
  have h0 : 0 < i'.length := by have : ¬ ((i'.length : Nat) : Int) = 0 := c0; omega
  have hx0 : (encNs i')[0]? = some (encN i'[0]) := encNs_get i' 0 h0
  have hy0 := hyI _ (List.getElem_mem h0)
  have hx1 : 0 < i.length := by omega
  have hu : dmx (cni i) < 1600 := by
    obtain ⟨q1, _, _, _, q5⟩ := hp _ (List.getElem_mem hx1)
    have := hw _ (List.getElem_mem hx1)
    omega
  have hv : pmx (cni i) ≤ 1048576 := by
    obtain ⟨_, q2, _⟩ := hp _ (List.getElem_mem hx1)
    have g1 := sz_dat i[0]
    have g2 := szT_memI (List.getElem_mem hx1)
    omega
  rw [exN_at hx0, ce1_dat, unS_mk, exN_at hx0, ce2_prs, unL_mk, encNs_length, hy0.1, hy0.2]
  have key2 := ci_loop i' (dmx (cni i)) (pmx (cni i)) hyI (by omega) hm8 hv (by omega) k d (encNs p) s c (encNs i) k' d' (encNs p') s' c' 0 (Nat.zero_le _) (decide (Int.ofNat (dmx (cni i)) = 0)) (decide (Int.ofNat (pmx (cni i)) = 0))
    (fun e => by have := of_decide_eq_false e; have : ¬ ((dmx (cni i) : Nat) : Int) = 0 := this; omega)
    (fun e => by have := of_decide_eq_false e; have : ¬ ((pmx (cni i) : Nat) : Int) = 0 := this; omega)
  refine key2.trans ?_
  rw [List.drop_zero, encNs_length, decide_eq_true hlen, Bool.and_true]
  have b1 : (decide (Int.ofNat (dmx (cni i)) = 0) || i'.any dnB) = true := by
    by_cases e : Int.ofNat (dmx (cni i)) = 0
    · rw [decide_eq_true e]; rfl
    · have e' : ¬ ((dmx (cni i) : Nat) : Int) = 0 := e
      rw [hI, n1 (by omega), Bool.or_true]
  have b2 : (decide (Int.ofNat (pmx (cni i)) = 0) || i'.any (pnB (pmx (cni i)))) = true := by
    by_cases e : Int.ofNat (pmx (cni i)) = 0
    · rw [decide_eq_true e]; rfl
    · have e' : ¬ ((pmx (cni i) : Nat) : Int) = 0 := e
      rw [hI, n2 (by omega), Bool.or_true]
  rw [b1, b2]
  rfl
end Go.Proofs.YtaapkkeogajfpaaDoor.VM
