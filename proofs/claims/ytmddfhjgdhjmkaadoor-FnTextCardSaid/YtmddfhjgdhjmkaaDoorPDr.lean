/- What is drawn: numbers, words, bytes. -/
import Derived.Test.YtmddfhjgdhjmkaaDoorEqN
import Derived.Test.YtmddfhjgdhjmkaaDoorPL
set_option linter.unusedVariables false
set_option linter.unusedSimpArgs false
namespace Go.Proofs.YtmddfhjgdhjmkaaDoor.VM

/-! ### texts, many times; numbers as bytes -/
theorem ba_append_assoc (a b c : ByteArray) : (a ++ b) ++ c = a ++ (b ++ c) := ByteArray.append_assoc
theorem ba_size (a b : ByteArray) : (a ++ b).size = a.size + b.size := ByteArray.size_append
def repB (s : ByteArray) : Nat → ByteArray
  | 0 => .mk (.mk [])
  | n + 1 => s ++ repB s n
theorem ba_nil_append (a : ByteArray) : (.mk (.mk [])) ++ a = a := ByteArray.empty_append
theorem ba_append_nil (a : ByteArray) : a ++ (.mk (.mk [])) = a := ByteArray.append_empty
theorem repB_size (s : ByteArray) : ∀ n, (repB s n).size = s.size * n
  | 0 => rfl
  | n + 1 => by rw [repB, ba_size, repB_size s n, Nat.mul_succ]; omega
theorem repB_double (s : ByteArray) : ∀ n, repB (s ++ s) n = repB s (2 * n)
  | 0 => rfl
  | n + 1 => by
    rw [show 2 * (n + 1) = (2 * n + 1) + 1 by omega, repB, repB, repB, repB_double s n, ba_append_assoc]
theorem tmod2 {n : Nat} : (Int.tmod (n : Int) 2) = ((n % 2 : Nat) : Int) := by
  rw [show (2 : Int) = ((2 : Nat) : Int) from rfl, Int.ofNat_tmod]
theorem tdiv2 {n : Nat} : (Int.tdiv (n : Int) 2) = ((n / 2 : Nat) : Int) := by
  rw [show (2 : Int) = ((2 : Nat) : Int) from rfl, ← Int.ofNat_tdiv]
theorem many_loop : ∀ (n : Nat) (s out : ByteArray), s.size * n ≤ 1099511627776 → n ≤ 1099511627776 → out.size + s.size * n ≤ 4398046511104 →
    L_spec_l1Many_0 (D T) s (n : Int) out = some (encS (out ++ repB s n), []) := by
  intro n
  induction n using Nat.strongRecOn with
  | ind n ih =>
    intro s out h1 h2 h3
    rw [L_spec_l1Many_0_eq, tL_spec_l1Many_0]
    by_cases hn : n = 0
    · subst hn
      show some (encS out, []) = _
      rw [repB, ba_append_nil]
    have hs : s.size ≤ s.size * n := Nat.le_mul_of_pos_right _ (by omega)
    have hd : 2 * (n / 2) + n % 2 = n := Nat.div_add_mod n 2
    have hm : (s ++ s).size * (n / 2) ≤ s.size * n := by
      rw [ba_size, ← Nat.two_mul, Nat.mul_assoc, Nat.mul_left_comm]
      exact Nat.mul_le_mul_left _ (by omega)
    have w : IntKind.wrap .i64 (Int.tdiv (n : Int) 2) = ((n / 2 : Nat) : Int) := by rw [tdiv2, wrap_id (by omega) (by omega)]
    rw [decide_eq_true (show (0 : Int) < (n : Int) by omega), bif_true, tmod2, decide_eq_true (show s.size + s.size ≤ 9223372036854775807 by omega), decide_eq_true (show out.size + s.size ≤ 9223372036854775807 by omega)]
    simp only [bif_true]
    rw [w]
    by_cases ho : n % 2 = 1
    · have e1 : s.size * n = s.size * (2 * (n / 2)) + s.size := by
        have : s.size * n = s.size * (2 * (n / 2) + 1) := by rw [show 2 * (n / 2) + 1 = n by omega]
        rw [this, Nat.mul_add, Nat.mul_one]
      have e2 : (s ++ s).size * (n / 2) = s.size * (2 * (n / 2)) := by rw [ba_size, ← Nat.two_mul, Nat.mul_assoc, Nat.mul_left_comm]
      rw [decide_eq_true (show ((n % 2 : Nat) : Int) = 1 by omega), bif_true, ih (n / 2) (by omega) (s ++ s) (out ++ s) (by omega) (by omega) (by rw [ba_size out s]; omega), repB_double, ba_append_assoc]
      rw [show n = 2 * (n / 2) + 1 by omega]
      rw [show (2 * (n / 2) + 1) / 2 = n / 2 by omega, repB]
    · rw [decide_eq_false (show ¬ ((n % 2 : Nat) : Int) = 1 by omega), bif_false, ih (n / 2) (by omega) (s ++ s) out (by omega) (by omega) (by omega), repB_double]
      rw [show 2 * (n / 2) = n by omega]
theorem many_is (s : ByteArray) (n : Nat) (h1 : s.size * n ≤ 1099511627776) (h2 : n ≤ 1099511627776) : (D T).call F_spec_l1Many [.sc (.string s), .sc (.int .i64 (n : Nat))] = some (encS (repB s n), []) := by
  rw [c_spec_l1Many, t_spec_l1Many, many_loop n s _ h1 h2 (by show 0 + _ ≤ _; omega), ba_nil_append]
def leL : Int → Nat → List UInt8
  | _, 0 => []
  | n, k + 1 => UInt8.ofNat (IntKind.wrap .u8 n).toNat :: leL (n.fdiv (Int.pow 2 8)) k
theorem leL_length : ∀ (n : Int) (k : Nat), (leL n k).length = k
  | _, 0 => rfl
  | n, k + 1 => by rw [leL, List.length_cons, leL_length]
def encU (m : Int) : V := .sc (.int .u8 m)
theorem unBytes_encU {R : Type} : ∀ (l : List Int) (K : List UInt8 → Option R), unBytes (l.map encU) K = K (l.map fun m => UInt8.ofNat m.toNat)
  | [], K => rfl
  | m :: l, K => by
    rw [List.map_cons, unBytes]
    show unI .u8 (.sc (.int .u8 m)) _ = _
    rw [unI_mk, unBytes_encU l]; rfl
theorem u8_of (l : List Int) (n : Int) (K : List UInt8 → Option Res) : unBytes (l.map encU) K = K (l.map fun m => UInt8.ofNat m.toNat) := unBytes_encU l K
theorem bytes_loop1 (size : Nat) (hs : size ≤ 1000) : ∀ i, i ≤ size → ∀ (n : Int) (l : List Int), l.length = i → L_spec_l1Bytes_1 (D T) n (size : Nat) (i : Nat) (l.map encU) = some (encS (.mk (.mk (l.map (fun m => UInt8.ofNat m.toNat) ++ leL n (size - i)))), []) := by
  refine down (fun n l hl => ?_) fun i hi ih n l hl => ?_
  · rw [L_spec_l1Bytes_1_eq, tL_spec_l1Bytes_1, decide_eq_false (show ¬ (size : Int) < (size : Int) by omega), bif_false, unBytes_encU, Nat.sub_self, leL, List.append_nil]; rfl
  · have e : size - i = (size - (i + 1)) + 1 := by omega
    rw [L_spec_l1Bytes_1_eq, tL_spec_l1Bytes_1, decide_eq_true (show (i : Int) < (size : Int) by omega), bif_true, List.length_map, hl, decide_eq_true (show (i + 1) * 1 ≤ 140737488355328 by omega), bif_true, next_i (by omega)]
    have := ih (n.fdiv (Int.pow 2 8)) (l ++ [IntKind.wrap .u8 n]) (by simp [hl])
    rw [List.map_append, List.map_append] at this
    rw [e, leL]
    simpa [encU] using this
theorem bytes_is (n : Int) (size : Nat) (hs : size ≤ 1000) : (D T).call F_spec_l1Bytes [.sc (.int .i64 n), .sc (.int .i64 (size : Nat))] = some (encS (.mk (.mk (leL n size))), []) := by
  rw [c_spec_l1Bytes, t_spec_l1Bytes, L_spec_l1Bytes_0_eq, tL_spec_l1Bytes_0]
  by_cases h0 : size = 0
  · subst h0; rfl
  rw [decide_eq_true (show (0 : Int) < (size : Int) by omega), bif_true]
  have := bytes_loop1 size hs 1 (by omega) (n.fdiv (Int.pow 2 8)) [IntKind.wrap .u8 n] rfl
  rw [show size = (size - 1) + 1 by omega, leL]
  rw [show (size - 1) + 1 = size by omega]
  exact this

/-! ### a code, read byte by byte -/
/-- a code's bytes -/
def Byt (l : List V) : Prop := ∀ x ∈ l, ∃ m : Nat, m < 256 ∧ x = .sc (.int .u8 (m : Int))
def Bts (b : List V) : Prop := b.length ≤ 2000 ∧ ∀ x ∈ b, ∃ m : Nat, m < 256 ∧ x = .sc (.int .u8 (m : Int))
abbrev rd (b : List V) (p : Nat) : V := .io [.sl 1 b, .sc (.int .i64 (p : Int))]
theorem bts_get {b : List V} (h : Bts b) (i : Nat) (hi : i < b.length) : ∃ m : Nat, m < 256 ∧ b[i]? = some (.sc (.int .u8 (m : Int))) := by
  obtain ⟨m, h1, h2⟩ := h.2 _ (List.getElem_mem hi)
  exact ⟨m, h1, by rw [List.getElem?_eq_getElem hi, h2]⟩
theorem xor_val {x y : Nat} (hx : x < 2 ^ 62) (hy : y < 2 ^ 62) : BitVec.toNat (BitVec.ofInt 64 (x : Int) ^^^ BitVec.ofInt 64 (y : Int)) = x ^^^ y := by
  rw [BitVec.toNat_xor, BitVec.toNat_ofInt, BitVec.toNat_ofInt]
  have e : ∀ z : Nat, z < 2 ^ 62 → ((z : Int) % ((2 ^ 64 : Nat) : Int)).toNat = z := fun z hz => by
    have : (2 : Nat) ^ 64 = 18446744073709551616 := by decide
    have : (2 : Nat) ^ 62 = 4611686018427387904 := by decide
    omega
  rw [e x hx, e y hy]
theorem pick_is {b : List V} (hb : Bts b) (p : Nat) (hp : p ≤ 1099511627776) (n : Int) : ∃ k : Nat, (D T).call F_spec_l1Rd_pick [rd b p, .sc (.int .i64 n)] = some (.sc (.int .i64 (k : Nat)), [rd b (p + 1)]) ∧ (1 ≤ n → (k : Int) < n) ∧ (n < 1 → k = 0) := by
  have hl := hb.1
  have w1 : IntKind.wrap .i64 ((p : Int) + 1) = ((p + 1 : Nat) : Int) := by rw [wrap_id (by omega) (by omega)]; omega
  have w2 : IntKind.wrap .i64 (((p + 1 : Nat) : Int) - 1) = (p : Int) := by rw [wrap_id (by omega) (by omega)]; omega
  rw [c_spec_l1Rd_pick, t_spec_l1Rd_pick, w1, w2]
  by_cases hn : n < 1
  · rw [decide_eq_true hn, bif_true]
    exact ⟨0, rfl, fun h => by omega, fun _ => rfl⟩
  rw [decide_eq_false hn, bif_false]
  have hz : decide (n = 0) = false := decide_eq_false (by omega)
  by_cases h0 : b.length = 0
  · rw [h0]
    exact ⟨0, rfl, fun h => by omega, fun h => rfl⟩
  have h0' : decide (Int.ofNat b.length = 0) = false := decide_eq_false (by rw [show Int.ofNat b.length = (b.length : Int) from rfl]; omega)
  have fin : ∀ k : Nat, ∃ k' : Nat, (some (.sc (.int .i64 (Int.tmod (k : Int) n)), [rd b (p + 1)]) : Option Res) = some (.sc (.int .i64 (k' : Nat)), [rd b (p + 1)]) ∧ (1 ≤ n → (k' : Int) < n) ∧ (n < 1 → k' = 0) := fun k => by
    obtain ⟨n', rfl⟩ := Int.eq_ofNat_of_zero_le (show 0 ≤ n by omega)
    refine ⟨k % n', by rw [Int.ofNat_tmod], fun _ => ?_, fun h => by omega⟩
    have := Nat.mod_lt k (show n' > 0 by omega)
    omega
  rw [h0', bif_false]
  by_cases hlt : p < b.length
  · obtain ⟨m, hm, hg⟩ := bts_get hb p hlt
    rw [decide_eq_true (show (p : Int) < Int.ofNat b.length by rw [show Int.ofNat b.length = (b.length : Int) from rfl]; omega), bif_true, ix_at hg, ce_sc, unI_mk, hz]
    simp only [Bool.not_false, bif_true]
    rw [wrap_id (n := (m : Int)) (by omega) (by omega)]
    exact fin m
  · rw [decide_eq_false (show ¬ (p : Int) < Int.ofNat b.length by rw [show Int.ofNat b.length = (b.length : Int) from rfl]; omega), bif_false]
    simp only [Bool.not_false, bif_true, hz]
    have i1 : Int.tmod (p : Int) (Int.ofNat b.length) = ((p % b.length : Nat) : Int) := by rw [show Int.ofNat b.length = (b.length : Int) from rfl, Int.ofNat_tmod]
    have w3 : IntKind.wrap .i64 (IntKind.wrap .i64 ((p : Int) * 7) + 3) = ((p * 7 + 3 : Nat) : Int) := by rw [wrap_id (n := (p : Int) * 7) (by omega) (by omega), wrap_id (by omega) (by omega)]; omega
    have i2 : Int.tmod ((p * 7 + 3 : Nat) : Int) (Int.ofNat b.length) = (((p * 7 + 3) % b.length : Nat) : Int) := by rw [show Int.ofNat b.length = (b.length : Int) from rfl, Int.ofNat_tmod]
    obtain ⟨m3, hm3, hg3⟩ := bts_get hb (p % b.length) (Nat.mod_lt _ (by omega))
    obtain ⟨m5, hm5, hg5⟩ := bts_get hb ((p * 7 + 3) % b.length) (Nat.mod_lt _ (by omega))
    rw [i1, ix_at hg3, ce_sc, unI_mk, w3, i2, ix_at hg5, ce_sc, unI_mk]
    have hq : p / b.length ≤ p := Nat.div_le_self _ _
    have d1 : Int.tdiv (p : Int) (Int.ofNat b.length) = ((p / b.length : Nat) : Int) := by rw [show Int.ofNat b.length = (b.length : Int) from rfl, ← Int.ofNat_tdiv]
    generalize p / b.length = q at hq d1
    have wx : IntKind.wrap .i64 (IntKind.wrap .i64 (IntKind.wrap .i64 (IntKind.wrap .i64 (IntKind.wrap .i64 (m3 : Int) * 131) + IntKind.wrap .i64 (IntKind.wrap .i64 (m5 : Int) * 1117)) + IntKind.wrap .i64 ((p : Int) * 29)) + IntKind.wrap .i64 (IntKind.wrap .i64 (Int.tdiv (p : Int) (Int.ofNat b.length)) * 53)) = ((m3 * 131 + m5 * 1117 + p * 29 + q * 53 : Nat) : Int) := by
      rw [d1]
      clear d1
      rw [wrap_id (n := (m3 : Int)) (by omega) (by omega), wrap_id (n := (m5 : Int)) (by omega) (by omega), wrap_id (n := (m3 : Int) * 131) (by omega) (by omega), wrap_id (n := (m5 : Int) * 1117) (by omega) (by omega), wrap_id (n := (m3 : Int) * 131 + (m5 : Int) * 1117) (by omega) (by omega),
        wrap_id (n := (p : Int) * 29) (by omega) (by omega), wrap_id (n := (m3 : Int) * 131 + (m5 : Int) * 1117 + (p : Int) * 29) (by omega) (by omega), wrap_id (n := (q : Int)) (by omega) (by omega), wrap_id (n := (q : Int) * 53) (by omega) (by omega), wrap_id (by omega) (by omega)]
      omega
    rw [wx]
    generalize hX : m3 * 131 + m5 * 1117 + p * 29 + q * 53 = X
    have hXb : X < 2 ^ 60 := by have : (2 : Nat) ^ 60 = 1152921504606846976 := by decide
                                omega
    have d2 : IntKind.wrap .i64 (Int.tdiv (X : Int) 64) = ((X / 64 : Nat) : Int) := by
      have : (2 : Nat) ^ 60 = 1152921504606846976 := by decide
      rw [show (64 : Int) = ((64 : Nat) : Int) from rfl, ← Int.ofNat_tdiv, wrap_id (by omega) (by omega)]
    have h64 : X / 64 ≤ X := Nat.div_le_self _ _
    have p62 : (2 : Nat) ^ 62 = 4611686018427387904 := by decide
    have p60 : (2 : Nat) ^ 60 = 1152921504606846976 := by decide
    have hxor : X ^^^ X / 64 < 2 ^ 60 := Nat.xor_lt_two_pow hXb (by omega)
    rw [d2, xor_val (by omega) (by omega)]
    rw [show Int.ofNat (X ^^^ X / 64) = ((X ^^^ X / 64 : Nat) : Int) from rfl, wrap_id (n := ((X ^^^ X / 64 : Nat) : Int)) (by omega) (by omega)]
    exact fin _
/-- what is drawn with a box comes back with it -/
theorem un_rd {R : Type} {b : List V} {p : Nat} {K : List V → List V → Option R} : unOut [rd b p] K = K [.sl 1 b, .sc (.int .i64 (p : Int))] [] := rfl
theorem ok_rd {b : List V} {p : Nat} : (Nat.beq (List.length [V.sl 1 b, .sc (.int .i64 (p : Int))]) 2 && List.all [V.sl 1 b, .sc (.int .i64 (p : Int))] cellOk) = true := rfl
theorem al_rd {b : List V} {p : Nat} : List.all [V.sl 1 b, .sc (.int .i64 (p : Int))] cellOk = true := rfl
theorem l2_rd {b : List V} {p : Nat} : Nat.beq (List.length [V.sl 1 b, .sc (.int .i64 (p : Int))]) 2 = true := rfl
theorem of_is {b : List V} (hb : Bts b) (p : Nat) (hp : p ≤ 1099511627776) (l : List ByteArray) (h0 : 0 < l.length) (hl : l.length ≤ 1000) : ∃ s ∈ l, (D T).call F_spec_l1Rd_of [rd b p, .sl 1 (l.map encS)] = some (encS s, [rd b (p + 1)]) := by
  obtain ⟨k, hk, h1, _⟩ := pick_is hb p hp (Int.ofNat (l.map encS).length)
  rw [List.length_map] at h1
  have hkl : k < l.length := by have := h1 (by rw [show Int.ofNat l.length = (l.length : Int) from rfl]; omega); rw [show Int.ofNat l.length = (l.length : Int) from rfl] at this; omega
  refine ⟨l[k], List.getElem_mem hkl, ?_⟩
  rw [c_spec_l1Rd_of, t_spec_l1Rd_of, hk, Option.bind_some, un_rd, ok_rd, bif_true, unEnd_mk, unI_mk, l2_rd, bif_true]
  simp only [List.getD_cons_zero, List.getD_cons_succ, unL_mk, unI_mk]
  rw [ix_at (x := encS l[k]) (by rw [List.getElem?_map, List.getElem?_eq_getElem hkl]; rfl)]
  rfl
theorem one_is {b : List V} (hb : Bts b) (p : Nat) (hp : p ≤ 1099511627776) (l : List Int) (h0 : 0 < l.length) (hl : l.length ≤ 1000) : ∃ s ∈ l, (D T).call F_spec_l1Rd_one [rd b p, .sl 1 (l.map fun m => .sc (.int .i64 m))] = some (.sc (.int .i64 s), [rd b (p + 1)]) := by
  obtain ⟨k, hk, h1, _⟩ := pick_is hb p hp (Int.ofNat (l.map fun m => V.sc (.int .i64 m)).length)
  rw [List.length_map] at h1
  have hkl : k < l.length := by have := h1 (by rw [show Int.ofNat l.length = (l.length : Int) from rfl]; omega); rw [show Int.ofNat l.length = (l.length : Int) from rfl] at this; omega
  refine ⟨l[k], List.getElem_mem hkl, ?_⟩
  rw [c_spec_l1Rd_one, t_spec_l1Rd_one, hk, Option.bind_some, un_rd, ok_rd, bif_true, unEnd_mk, unI_mk, l2_rd, bif_true]
  simp only [List.getD_cons_zero, List.getD_cons_succ, unL_mk, unI_mk]
  rw [ix_at (x := .sc (.int .i64 l[k])) (by rw [List.getElem?_map, List.getElem?_eq_getElem hkl]; rfl)]
  rw [ce_sc, unI_mk]
end Go.Proofs.YtmddfhjgdhjmkaaDoor.VM
