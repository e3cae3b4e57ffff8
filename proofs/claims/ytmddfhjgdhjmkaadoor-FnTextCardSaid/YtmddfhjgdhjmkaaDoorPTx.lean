/- Texts: what a node's text is, told by the program and by the reference. -/
import Derived.Test.YtmddfhjgdhjmkaaDoorEqT
import Derived.Test.YtmddfhjgdhjmkaaDoorPSm
import Derived.Test.YtmddfhjgdhjmkaaDoorPC
set_option linter.unusedVariables false
set_option linter.unusedSimpArgs false
namespace Go.Proofs.YtmddfhjgdhjmkaaDoor.VM

/-! ### bytes that end with their only nought -/
def gB : List UInt8 → Bool
  | [] => true
  | x :: l => ((x == 0) == l.isEmpty) && gB l
theorem ib_end : ∀ l : List UInt8, (Lib.indexByte l 0 = (l.length : Int) - 1 ∧ l ≠ []) ↔ (gB l = true ∧ l ≠ [])
  | [] => by simp
  | [x] => by
    by_cases h : x = 0
    · subst h; simp [Lib.indexByte, gB]
    · have h' : (x == 0) = false := by simpa using h
      simp [Lib.indexByte, gB, h']
  | x :: y :: l => by
    have ih := ib_end (y :: l)
    simp only [ne_eq, reduceCtorEq, not_false_eq_true, and_true] at ih ⊢
    rw [gB]
    have e : ∀ m : List UInt8, -1 ≤ Lib.indexByte m 0 := by
      intro m
      induction m with
      | nil => simp [Lib.indexByte]
      | cons z m ihm => unfold Lib.indexByte; split <;> (try split) <;> omega
    have he := e (y :: l)
    by_cases h : x = 0
    · subst h
      have h1 : Lib.indexByte (0 :: y :: l) 0 = 0 := by simp [Lib.indexByte]
      rw [h1]
      simp only [List.length_cons, List.isEmpty_cons, beq_self_eq_true, beq_false, Bool.not_true, Bool.false_and, Bool.false_eq_true, iff_false]
      omega
    · have h' : (x == 0) = false := by simpa using h
      have h1 : Lib.indexByte (x :: y :: l) 0 = if Lib.indexByte (y :: l) 0 == -1 then -1 else Lib.indexByte (y :: l) 0 + 1 := by
        rw [Lib.indexByte]; simp [h']
      rw [h1, h']
      simp only [List.isEmpty_cons, beq_self_eq_true, Bool.true_and]
      rw [← ih]
      simp only [List.length_cons]
      by_cases hm : Lib.indexByte (y :: l) 0 = -1
      · rw [if_pos (by simpa using hm), hm]; omega
      · rw [if_neg (by simpa using hm)]; omega

/-! ### the reference's look at the bytes -/
theorem bsize (d : ByteArray) : d.data.toList.length = d.size := rfl
theorem ixS_at {R : Type} {d : ByteArray} {n : Nat} {b : UInt8} (h : d.data.toList[n]? = some b) {K : Int → Option R} : ixS d (n : Int) K = K b.toNat := by
  have hn : n < d.size := by rw [← bsize]; exact (List.getElem?_eq_some_iff.1 h).1
  have e : d[n]? = some b := by
    rw [getElem?_pos d n hn]
    have := (List.getElem?_eq_some_iff.1 h).2
    rw [← this]
    simp [ByteArray.getElem_eq_getElem_data]
  show (match d[n]? with | some b => K b.toNat | none => none) = _
  rw [e]
theorem nat0 (b : UInt8) : decide (((b.toNat : Nat) : Int) = 0) = (b == 0) := by
  rw [Bool.eq_iff_iff, decide_eq_true_eq, beq_iff_eq]
  constructor
  · intro h; exact UInt8.toNat_inj.1 (show b.toNat = 0 by omega)
  · rintro rfl; rfl
abbrev tx2 (s : ByteArray) (b : Bool) : Option Res := some (.tup [.sc (.string s), .sc (.bool b)], [])
def cutE (d : ByteArray) : ByteArray := d.extract 0 (d.size - 1)
def txR (d : ByteArray) : Bool → Option Res
  | true => tx2 (cutE d) true
  | false => tx2 (.mk (.mk [])) false
theorem spec_loop {k s c : Int} {d : ByteArray} {p i : List V} (hd : d.size ≤ reachBytes) (h0 : 0 < d.size) (hc : c = d.size) :
    ∀ j, j ≤ d.size → L_spec_TextOf_0 (D T) (j : Int) k d p s c i = txR d (gB (d.data.toList.drop j)) := by
  have hr : reachBytes = 140737488351232 := rfl
  subst hc
  have ew : IntKind.wrap .i64 ((d.size : Int) - 1) = ((d.size - 1 : Nat) : Int) := by rw [wrap_id (by omega) (by omega)]; omega
  refine down ?_ fun j hj ih => ?_
  · rw [L_spec_TextOf_0_eq, tL_spec_TextOf_0, ew]
    rw [decide_eq_false (show ¬ ((d.size : Int) < (d.size : Int)) by omega), bif_false, decide_eq_true (show (0 : Int) ≤ ((d.size - 1 : Nat) : Int) by omega), decide_eq_true (show ((d.size - 1 : Nat) : Int) ≤ Int.ofNat d.size by show ((d.size - 1 : Nat) : Int) ≤ (d.size : Int); omega), ← bsize, List.drop_length]
    rfl
  · have hl : j < d.data.toList.length := by rw [bsize]; exact hj
    rw [L_spec_TextOf_0_eq, tL_spec_TextOf_0, ew]
    rw [decide_eq_true (show ((j : Int) < (d.size : Int)) by omega), bif_true, ixS_at (List.getElem?_eq_getElem hl), next_i (by omega), ih, nat0]
    rw [List.drop_eq_getElem_cons hl, gB]
    generalize d.data.toList[j] = x
    have e1 : decide ((j : Int) = ((d.size - 1 : Nat) : Int)) = (d.data.toList.drop (j + 1)).isEmpty := by
      rw [Bool.eq_iff_iff, decide_eq_true_eq, List.isEmpty_iff, List.drop_eq_nil_iff, bsize]
      omega
    rw [e1]
    cases (x == 0) <;> cases (d.data.toList.drop (j + 1)).isEmpty <;> rfl

/-! ### the text of a node -/
theorem un_2t {R : Type} {s : ByteArray} {b : Bool} {K : ByteArray → Bool → Option R} : (unTup 2 (.tup [.sc (.string s), .sc (.bool b)]) fun v => unS (v.getD 0 .dead) fun s => unB (v.getD 1 .dead) fun b => K s b) = K s b := rfl
def txN : Nod → ByteArray × Bool
  | .mk k d p s c i =>
    bif okB (.mk k d p s c i) then
      bif decide (k = 0) then (.mk (.mk []), true)
      else bif (decide (k = 2) && decide (s = 2)) && (gB d.data.toList && decide (d.size ≠ 0)) then (cutE d, true) else (.mk (.mk []), false)
    else (.mk (.mk []), false)
def noN : Nod := .mk 0 (.mk (.mk [])) [] 0 0 []
theorem okN_no : okN noN := ⟨by decide, by decide, by decide, trivial, trivial⟩
theorem okB_form {k : Int} {d : ByteArray} {p : List Nod} {s c : Int} {i : List Nod} (h : okB (.mk k d p s c i) = true) :
    (k = 0 ∧ d.size = 0 ∧ p = [] ∧ i = [] ∧ s = 0 ∧ c = 0) ∨ (k = 1 ∧ d.size % 8 = 0 ∧ s = 0 ∧ c = 0 ∧ i = []) ∨ (k = 2 ∧ (0 ≤ s ∧ s ≤ 7) ∧ (0 ≤ c ∧ c ≤ 12800) ∧
      ((s = 6 ∧ d.size = 0 ∧ (p.length : Int) = c ∧ i = []) ∨ (s = 7 ∧ allStr i = true ∧ d.size = 0 ∧ p = [] ∧ (i.length : Int) = c) ∨ (s ≤ 5 ∧ p = [] ∧ i = [] ∧ plainP d s.toNat c.toNat = true))) := by
  rcases okS_form (okB_okS h) with h | h | h
  · exact .inl h
  · exact .inr (.inl (str_c h))
  · exact .inr (.inr (lst_c h))
theorem emp_of {d : ByteArray} (h : d.size = 0) : d = .mk (.mk []) := by
  have := sEq_emp d
  rw [decide_eq_true h] at this
  exact sEq_iff.1 this
theorem eqN_no {k : Int} {d : ByteArray} {p : List Nod} {s c : Int} {i : List Nod} (h : eqN (.mk k d p s c i) noN = true) : k = 0 ∧ d.size = 0 ∧ p = [] ∧ s = 0 ∧ c = 0 ∧ i = [] := by
  simp only [noN, eqN, Bool.and_eq_true, decide_eq_true_eq, sEq_emp] at h
  obtain ⟨h1, h2, h3, h4, h5, h6⟩ := h
  exact ⟨h1, h2, List.eq_nil_of_length_eq_zero (eqNs_len h3), h4, h5, List.eq_nil_of_length_eq_zero (eqNs_len h6)⟩
theorem okB_no {d : ByteArray} (h : d.size = 0) : okB (.mk 0 d [] 0 0 []) = true := by
  rw [emp_of h]; rfl
theorem size2 {d : ByteArray} {c : Int} (hc : 0 ≤ c) (h : plainP d 2 c.toNat = true) : c = d.size := by
  have h1 := plain_size h
  have h2 : bytesN 2 c.toNat = c.toNat := by unfold bytesN; rw [show bitsN 2 = 8 from rfl]; omega
  omega
theorem spec_TextOf_is (n : Nod) (h : okN n) (hsz : szN n ≤ 1048576) : (D T).call F_spec_TextOf [encN n] = tx2 (txN n).1 (txN n).2 := by
  have ho := spec_NodeOk_is n h hsz
  obtain ⟨k, d, p, s, c, i⟩ := n
  unfold okN at h
  rw [encN_mk] at ho ⊢
  rw [c_spec_TextOf, t_spec_TextOf]
  simp only [ho, Option.bind_some, unB_mk, txN]
  cases hb : okB (.mk k d p s c i) with
  | false => cases decide (k = 0) <;> rfl
  | true =>
    rcases okB_form hb with h1 | h1 | ⟨h1, h2, h3, h4⟩
    · rw [decide_eq_true h1.1]; rfl
    · rw [decide_eq_false (show ¬ k = 0 by omega), decide_eq_false (show ¬ k = 2 by omega)]; rfl
    · rw [decide_eq_false (show ¬ k = 0 by omega), decide_eq_true h1]
      by_cases h5 : s = 2
      case neg => rw [decide_eq_false h5]; rfl
      rw [decide_eq_true h5]
      have h6 : plainP d s.toNat c.toNat = true := by
        rcases h4 with h4 | h4 | h4
        · omega
        · omega
        · exact h4.2.2.2
      subst h5
      have h7 := size2 h3.1 h6
      by_cases h8 : c = 0
      · rw [decide_eq_true h8, decide_eq_false (show ¬ d.size ≠ 0 by omega)]; simp
      · rw [decide_eq_false h8, decide_eq_true (show d.size ≠ 0 by omega)]
        have hl := spec_loop (k := k) (s := 2) (p := encNs p) (i := encNs i) h.1 (by omega) h7 0 (Nat.zero_le _)
        rw [List.drop_zero] at hl
        have hl : L_spec_TextOf_0 (D T) 0 k d (encNs p) 2 c (encNs i) = _ := hl
        rw [hl]
        cases gB d.data.toList <;> rfl
theorem impl_TextOf_is (n : Nod) (h : okN n) (hsz : szN n ≤ 1048576) : (D T).call F_impl_TextOf [encN n] = tx2 (txN n).1 (txN n).2 := by
  have hr : reachBytes = 140737488351232 := rfl
  have ho := impl_NodeOk_is n h hsz
  have hk : okN noN := okN_no
  have hs1 := impl_NodeSame_is n h noN hk
  obtain ⟨k, d, p, s, c, i⟩ := n
  have h' := h
  unfold okN at h
  have hs2 := impl_NodeSame_is _ h' (.mk 2 d [] 2 (Int.ofNat d.size) []) ⟨h.1, by decide, by decide, trivial, trivial⟩
  have hs1 : (D T).call F_impl_NodeSame [encN (.mk k d p s c i), .st [.sc (.int .i64 0), .sc (.string (.mk (.mk []))), .sl 6 [], .sc (.int .i64 0), .sc (.int .i64 0), .sl 6 []]] = _ := hs1
  rw [encN_mk] at ho hs1 hs2 ⊢
  rw [encN_mk] at hs2
  have hs2 : (D T).call F_impl_NodeSame [_, .st [.sc (.int .i64 2), .sc (.string d), .sl 6 [], .sc (.int .i64 2), .sc (.int .i64 (Int.ofNat d.size)), .sl 6 []]] = _ := hs2
  rw [c_impl_TextOf, t_impl_TextOf]
  simp only [ho, hs1, hs2, Option.bind_some, unB_mk, txN]
  cases h1 : eqN (.mk k d p s c i) noN with
  | true =>
    obtain ⟨rfl, h2, rfl, rfl, rfl, rfl⟩ := eqN_no h1
    rw [okB_no h2]; rfl
  | false =>
    rw [bif_false]
    cases hb : okB (.mk k d p s c i) with
    | false => rfl
    | true =>
      rw [Bool.not_true, bif_false, bif_true]
      have hk0 : ¬ k = 0 := by
        rintro rfl
        rcases okB_form hb with g | g | g
        · obtain ⟨_, g2, rfl, rfl, rfl, rfl⟩ := g
          rw [emp_of g2] at h1
          have := eqN_refl noN
          unfold noN at h1 this
          rw [this] at h1
          cases h1
        · omega
        · omega
      rw [decide_eq_false hk0, bif_false]
      by_cases h2 : k = 2 ∧ s = 2
      case neg =>
        have e1 : eqN (.mk k d p s c i) (.mk 2 d [] 2 (Int.ofNat d.size) []) = false := by
          cases e : eqN (.mk k d p s c i) (.mk 2 d [] 2 (Int.ofNat d.size) []) with
          | false => rfl
          | true =>
            simp only [eqN, Bool.and_eq_true, decide_eq_true_eq] at e
            exact absurd ⟨e.1, e.2.2.2.1⟩ h2
        have e2 : (decide (k = 2) && decide (s = 2)) = false := by
          rw [Bool.and_eq_false_iff, decide_eq_false_iff_not, decide_eq_false_iff_not]
          by_cases g : k = 2
          · exact .inr fun g' => h2 ⟨g, g'⟩
          · exact .inl g
        rw [e1, e2]; rfl
      obtain ⟨rfl, rfl⟩ := h2
      rcases okB_form hb with g | g | ⟨_, _, g3, g4⟩
      · omega
      · omega
      have g5 : p = [] ∧ i = [] ∧ plainP d 2 c.toNat = true := by
        rcases g4 with g4 | g4 | g4
        · omega
        · omega
        · exact g4.2
      obtain ⟨rfl, rfl, g6⟩ := g5
      have g7 := size2 g3.1 g6
      subst g7
      have e1 : eqN (.mk 2 d [] 2 (d.size : Int) []) (.mk 2 d [] 2 (Int.ofNat d.size) []) = true := eqN_refl _
      rw [e1, Bool.not_true, bif_false, c_strings_Index, t_strings_Index]
      have e2 : xIndex [.sc (.string d), .sc (.string (.mk (.mk [0])))] = nu (Lib.indexByte d.data.toList 0) := rfl
      rw [e2, Option.bind_some, unI_mk, sEq_emp]
      have e3 := ib_end d.data.toList
      rw [bsize] at e3
      have e4 : d.data.toList ≠ [] ↔ d.size ≠ 0 := by rw [← bsize, ne_eq, ne_eq, List.length_eq_zero_iff]
      rw [e4] at e3
      have ew : IntKind.wrap .i64 ((Int.ofNat d.size) - 1) = (d.size : Int) - 1 := wrap_id (by show -9223372036854775808 ≤ (d.size : Int) - 1; omega) (by show (d.size : Int) - 1 ≤ 9223372036854775807; omega)
      rw [ew]
      by_cases h0 : d.size = 0
      · rw [decide_eq_true h0, decide_eq_false (show ¬ d.size ≠ 0 by omega), Bool.and_false, Bool.and_false]
        cases decide (Lib.indexByte d.data.toList 0 = (d.size : Int) - 1) <;> rfl
      · rw [decide_eq_false h0, decide_eq_true (show d.size ≠ 0 from h0)]
        have e5 : decide (Lib.indexByte d.data.toList 0 = (d.size : Int) - 1) = gB d.data.toList := by
          rw [Bool.eq_iff_iff, decide_eq_true_eq]
          constructor
          · exact fun g => (e3.1 ⟨g, h0⟩).1
          · exact fun g => (e3.2 ⟨g, h0⟩).1
        rw [e5, decide_eq_true (show (0 : Int) ≤ (d.size : Int) - 1 by omega), decide_eq_true (show (d.size : Int) - 1 ≤ Int.ofNat d.size by show (d.size : Int) - 1 ≤ (d.size : Int); omega)]
        have e6 : Int.toNat ((d.size : Int) - 1) = d.size - 1 := by omega
        rw [e6]
        cases gB d.data.toList <;> rfl

/-! ### the law -/
theorem un_f {R : Type} (n : Nod) (K : Int → ByteArray → List V → Int → Int → List V → Option R) : (unI .i64 (ce (encN n) 0) fun a => unS (ce (encN n) 1) fun b => unL 6 (ce (encN n) 2) fun c => unI .i64 (ce (encN n) 3) fun d => unI .i64 (ce (encN n) 4) fun e => unL 6 (ce (encN n) 5) fun f => K a b c d e f) =
    match n with | .mk k d p s c i => K k d (encNs p) s c (encNs i) := by cases n; rfl
theorem law_TextOf (n : Nod) (h : okN n) : (D T).call F_laws_FnExactTextOf [encN n] = some (.sc (.bool true), []) := by
  have h1 := szNode_is n h 1048576 (Nat.le_refl _)
  have h2 := toNode_is n h
  have h3 := eqNode_is n h n h
  rw [eqN_refl] at h3
  have h4 := impl_TextOf_is n h
  have h5 := spec_TextOf_is n h
  obtain ⟨k, d, p, s, c, i⟩ := n
  rw [encN_mk] at h1 h2 h3 h4 h5 ⊢
  have h1 : (D T).call F_laws_szNode [.st [.sc (.int .i64 k), .sc (.string d), .sl 6 (encNs p), .sc (.int .i64 s), .sc (.int .i64 c), .sl 6 (encNs i)], .sc (.int .i64 1048576)] = _ := h1
  rw [c_laws_FnExactTextOf, t_laws_FnExactTextOf, h1, Option.bind_some, unI_mk]
  unfold leftI
  by_cases hsz : szN (.mk k d p s c i) ≤ 1048576
  case neg => rw [if_neg hsz]; rfl
  rw [if_pos hsz, decide_eq_false (by omega), bif_false, h2]
  simp only [Option.bind_some]
  have e := un_f (R := Res) (.mk k d p s c i)
  rw [encN_mk] at e
  rw [h5 hsz]
  simp only [Option.bind_some, un_2t, e, h4 hsz, h3, unB_mk, unSt_mk (R := Res) (n := 6) (cs := [.sc (.int .i64 k), .sc (.string d), .sl 6 (encNs p), .sc (.int .i64 s), .sc (.int .i64 c), .sl 6 (encNs i)]) rfl]
  simp [sEq_dec]
end Go.Proofs.YtmddfhjgdhjmkaaDoor.VM
