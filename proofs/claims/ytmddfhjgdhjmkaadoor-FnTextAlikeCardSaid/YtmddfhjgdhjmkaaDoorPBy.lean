/- Bytes: words of noughts at the end, taken away by the program and by the reference. -/
import Derived.Test.YtmddfhjgdhjmkaaDoorEqC
import Derived.Test.YtmddfhjgdhjmkaaDoorPTx
set_option linter.unusedVariables false
set_option linter.unusedSimpArgs false
namespace Go.Proofs.YtmddfhjgdhjmkaaDoor.VM

abbrev bl (d : ByteArray) : List UInt8 := d.data.toList
theorem bl_ext {a b : ByteArray} (h : bl a = bl b) : a = b := by
  cases a; cases b
  congr
  exact Array.toList_inj.1 h
theorem bl_extract (d : ByteArray) (a b : Nat) : bl (d.extract a b) = ((bl d).take b).drop a := by
  show (d.extract a b).data.toList = _
  rw [ByteArray.data_extract, Array.toList_extract, List.extract_eq_take_drop, List.drop_take]
theorem bl_append (a b : ByteArray) : bl (a ++ b) = bl a ++ bl b := by
  show (a ++ b).data.toList = _
  rw [ByteArray.data_append, Array.toList_append]
theorem bl_length (d : ByteArray) : (bl d).length = d.size := rfl
theorem ex_ex (d : ByteArray) {a b m : Nat} (h : b ≤ m) : (d.extract 0 m).extract a b = d.extract a b := bl_ext (by
  rw [bl_extract, bl_extract, bl_extract, List.drop_zero, List.take_take, Nat.min_eq_left h])
theorem ex_size (d : ByteArray) {m : Nat} (h : m ≤ d.size) : (d.extract 0 m).size = m := by rw [ByteArray.size_extract]; omega
theorem ex_all (d : ByteArray) : d.extract 0 d.size = d := bl_ext (by rw [bl_extract, List.drop_zero]; exact List.take_length)

def zr (l : List UInt8) : Bool := l.all (· == 0)
/-- how long bytes are without words of noughts at the end -/
def tlen (l : List UInt8) (n : Nat) : Nat := if h : 8 ≤ n ∧ zr ((l.take n).drop (n - 8)) = true then tlen l (n - 8) else n
termination_by n
decreasing_by omega
def trimD (d : ByteArray) : ByteArray := d.extract 0 (tlen (bl d) d.size)
theorem tlen_le (l : List UInt8) : ∀ n, tlen l n ≤ n := by
  intro n
  induction n using Nat.strongRecOn with
  | ind n ih =>
    rw [tlen]
    split
    · rename_i h
      have := ih (n - 8) (by omega)
      omega
    · exact Nat.le_refl _
theorem tlen_mod (l : List UInt8) : ∀ n, tlen l n % 8 = n % 8 := by
  intro n
  induction n using Nat.strongRecOn with
  | ind n ih =>
    rw [tlen]
    split
    · rename_i h
      have := ih (n - 8) (by omega)
      omega
    · rfl
theorem trim_size (d : ByteArray) : (trimD d).size = tlen (bl d) d.size := ex_size d (tlen_le _ _)
theorem zr_append (a b : List UInt8) : zr (a ++ b) = (zr a && zr b) := by unfold zr; rw [List.all_append]
theorem zr_mem {l : List UInt8} : zr l = true ↔ ∀ x ∈ l, x = 0 := by unfold zr; simp
/-- what is taken away is noughts -/
theorem tlen_zero (l : List UInt8) : ∀ n, n ≤ l.length → zr ((l.take n).drop (tlen l n)) = true := by
  intro n
  induction n using Nat.strongRecOn with
  | ind n ih =>
    intro hn
    rw [tlen]
    split
    · rename_i h
      have h1 := ih (n - 8) (by omega) (by omega)
      have h2 := tlen_le l (n - 8)
      have e : (l.take n).drop (tlen l (n - 8)) = ((l.take (n - 8)).drop (tlen l (n - 8))) ++ ((l.take n).drop (n - 8)) := by
        have e1 : l.take n = l.take (n - 8) ++ (l.take n).drop (n - 8) := by
          conv => lhs; rw [← List.take_append_drop (n - 8) (l.take n)]
          rw [List.take_take, Nat.min_eq_left (by omega)]
        conv => lhs; rw [e1]
        rw [List.drop_append_of_le_length (by rw [List.length_take]; omega)]
      rw [e, zr_append, h1, h.2]; rfl
    · rw [List.drop_eq_nil_of_le (by rw [List.length_take]; omega)]; rfl
/-- nothing more can be taken away -/
theorem tlen_fix (l : List UInt8) : ∀ n, ¬ (8 ≤ tlen l n ∧ zr ((l.take (tlen l n)).drop (tlen l n - 8)) = true) := by
  intro n
  induction n using Nat.strongRecOn with
  | ind n ih =>
    by_cases h : 8 ≤ n ∧ zr ((l.take n).drop (n - 8)) = true
    · have e : tlen l n = tlen l (n - 8) := by rw [tlen, dif_pos h]
      rw [e]
      exact ih (n - 8) (by omega)
    · have e : tlen l n = n := by rw [tlen, dif_neg h]
      rw [e]; exact h
/-- up to m nothing but noughts stands behind -/
theorem pad_eq {l : List UInt8} {n m : Nat} (hn : n ≤ l.length) (hm : m ≤ n) (h : tlen l n ≤ m) : (l.take m) = l.take (tlen l n) ++ List.replicate (m - tlen l n) 0 := by
  have h1 := tlen_zero l n hn
  have e1 : l.take m = l.take (tlen l n) ++ (l.take m).drop (tlen l n) := by
    conv => lhs; rw [← List.take_append_drop (tlen l n) (l.take m)]
    rw [List.take_take, Nat.min_eq_left h]
  have e2 : (l.take m).drop (tlen l n) = List.replicate (m - tlen l n) 0 := by
    rw [List.eq_replicate_iff]
    refine ⟨by rw [List.length_drop, List.length_take]; omega, fun x hx => ?_⟩
    refine zr_mem.1 h1 x ?_
    have : (l.take m).drop (tlen l n) = ((l.take n).drop (tlen l n)).take (m - tlen l n) := by
      rw [← List.drop_take, List.take_take, Nat.min_eq_left hm]
    rw [this] at hx
    exact List.mem_of_mem_take hx
  rw [e1, e2]

/-! ### the reference -/
theorem l1Zero_is (d : ByteArray) (hd : d.size ≤ reachBytes) : (D T).call F_spec_l1Zero [.sc (.string d)] = bo (zr (bl d)) := by
  have hr : reachBytes = 140737488351232 := rfl
  have hL : ∀ j, j ≤ d.size → L_spec_l1Zero_0 (D T) d (j : Int) = bo (zr ((bl d).drop j)) := by
    refine down ?_ fun j hj ih => ?_
    · rw [L_spec_l1Zero_0_eq, tL_spec_l1Zero_0, decide_eq_false (show ¬ ((d.size : Int) < Int.ofNat d.size) by show ¬ ((d.size : Int) < (d.size : Int)); omega), ← bl_length, List.drop_length]; rfl
    · have hl : j < (bl d).length := hj
      rw [L_spec_l1Zero_0_eq, tL_spec_l1Zero_0, decide_eq_true (show ((j : Int) < Int.ofNat d.size) by show (j : Int) < (d.size : Int); omega), bif_true, ixS_at (List.getElem?_eq_getElem hl), next_i (by omega), ih, nat0, List.drop_eq_getElem_cons hl]
      unfold zr
      rw [List.all_cons]
      cases (bl d)[j] == 0 <;> rfl
  rw [c_spec_l1Zero, t_spec_l1Zero]
  exact hL 0 (Nat.zero_le _)
theorem w_sub8 {n : Nat} (h : 8 ≤ n) (hn : n ≤ 140737488351232) : IntKind.wrap .i64 ((Int.ofNat n) - 8) = ((n - 8 : Nat) : Int) := by
  show IntKind.wrap .i64 ((n : Int) - 8) = _
  rw [wrap_id (by omega) (by omega)]; omega
theorem l1Trim_is (d : ByteArray) (hd : d.size ≤ reachBytes) : (D T).call F_spec_l1Trim [.sc (.string d)] = some (.sc (.string (trimD d)), []) := by
  have hr : reachBytes = 140737488351232 := rfl
  have hL : ∀ n, n ≤ d.size → L_spec_l1Trim_0 (D T) (d.extract 0 n) = some (.sc (.string (d.extract 0 (tlen (bl d) n))), []) := by
    intro n
    induction n using Nat.strongRecOn with
    | ind n ih =>
      intro hn
      have e0 := ex_size d hn
      rw [L_spec_l1Trim_0_eq, tL_spec_l1Trim_0, tlen]
      simp only [e0]
      by_cases h8 : 8 ≤ n
      case neg =>
        rw [decide_eq_false (show ¬ ((8 : Int) ≤ Int.ofNat n) by show ¬ ((8 : Int) ≤ (n : Int)); omega), dif_neg (fun h => h8 h.1)]; rfl
      rw [decide_eq_true (show ((8 : Int) ≤ Int.ofNat n) by show (8 : Int) ≤ (n : Int); omega), w_sub8 h8 (by omega), decide_eq_true (show (0 : Int) ≤ ((n - 8 : Nat) : Int) by omega), decide_eq_true (show ((n - 8 : Nat) : Int) ≤ Int.ofNat n by show ((n - 8 : Nat) : Int) ≤ (n : Int); omega)]
      simp only [Int.toNat_natCast, bif_true, Bool.and_true]
      rw [ex_ex d (Nat.le_refl n), ex_ex d (show n - 8 ≤ n by omega), l1Zero_is _ (by rw [ByteArray.size_extract]; omega), Option.bind_some, unB_mk, bl_extract]
      cases hz : zr (((bl d).take n).drop (n - 8)) with
      | false => rw [dif_neg (fun h => by cases h.2)]; rfl
      | true =>
        rw [dif_pos ⟨h8, rfl⟩, bif_true]
        exact ih (n - 8) (by omega) (by omega)
  have := hL d.size (Nat.le_refl _)
  rw [ex_all] at this
  rw [c_spec_l1Trim, t_spec_l1Trim, this]
  rfl

/-! ### the program -/
theorem rep1 (n : Nat) : Lib.repeatL [0] n = List.replicate n (0 : UInt8) := by
  induction n with
  | zero => rfl
  | succ n ih => rw [Lib.repeatL, ih]; rfl
def zeros (n : Nat) : ByteArray := ⟨(List.replicate n (0 : UInt8)).toArray⟩
theorem zeros_size (n : Nat) : (zeros n).size = n := by show (List.replicate n (0 : UInt8)).toArray.size = n; simp
theorem repeat_is (n : Nat) (hn : n ≤ 140737488351232) : (D T).call F_strings_Repeat [.sc (.string (.mk (.mk [0]))), .sc (.int .i64 (n : Int))] = some (.sc (.string (zeros n)), []) := by
  rw [c_strings_Repeat, t_strings_Repeat]
  show chk (decide (n ≤ 9223372036854775807) && decide ((ByteArray.mk (Array.mk [0])).size * n ≤ 140737488355328)) (some (V.sc (.string ⟨(Lib.repeatL [0] n).toArray⟩), [])) = _
  rw [decide_eq_true (show n ≤ 9223372036854775807 by omega), decide_eq_true (show (ByteArray.mk (Array.mk [0])).size * n ≤ 140737488355328 by show 1 * n ≤ _; omega), rep1]
  rfl
theorem suffix_is (d p : ByteArray) (hd : d.size ≤ reachBytes) : (D T).call F_strings_HasSuffix [.sc (.string d), .sc (.string p)] = bo (Lib.hasSuffix (bl d) (bl p)) := by
  have hr : reachBytes = 140737488351232 := rfl
  rw [c_strings_HasSuffix, t_strings_HasSuffix]
  show chk (decide (d.size ≤ 9223372036854775807)) (some (V.sc (.bool (Lib.hasSuffix d.data.toList p.data.toList)), [])) = _
  rw [decide_eq_true (show d.size ≤ 9223372036854775807 by omega)]
  rfl
theorem suf8 (l : List UInt8) : Lib.hasSuffix l (List.replicate 8 0) = (decide (8 ≤ l.length) && zr (l.drop (l.length - 8))) := by
  unfold Lib.hasSuffix
  rw [Bool.eq_iff_iff, List.isSuffixOf_iff_suffix, Bool.and_eq_true, decide_eq_true_eq]
  constructor
  · rintro ⟨t, rfl⟩
    have e : (t ++ List.replicate 8 (0 : UInt8)).length - 8 = t.length := by simp
    rw [e, List.drop_left]
    exact ⟨by simp, by unfold zr; decide⟩
  · rintro ⟨h1, h2⟩
    have e : l.drop (l.length - 8) = List.replicate 8 0 := List.eq_replicate_iff.2 ⟨by rw [List.length_drop]; omega, zr_mem.1 h2⟩
    exact ⟨l.take (l.length - 8), by rw [← e, List.take_append_drop]⟩
theorem trimmed_is (d : ByteArray) (hd : d.size ≤ reachBytes) : (D T).call F_impl_trimmed [.sc (.string d)] = some (.sc (.string (trimD d)), []) := by
  have hr : reachBytes = 140737488351232 := rfl
  have hL : ∀ n, n ≤ d.size → L_impl_trimmed_0 (D T) (d.extract 0 n) (zeros 8) = some (.sc (.string (d.extract 0 (tlen (bl d) n))), []) := by
    intro n
    induction n using Nat.strongRecOn with
    | ind n ih =>
      intro hn
      have e0 := ex_size d hn
      have e1 : (bl (d.extract 0 n)) = (bl d).take n := by rw [bl_extract, List.drop_zero]
      have e2 : ((bl d).take n).length = n := by rw [← e1]; exact e0
      rw [L_impl_trimmed_0_eq, tL_impl_trimmed_0, suffix_is _ _ (by omega), Option.bind_some, unB_mk, show bl (zeros 8) = List.replicate 8 0 from rfl, suf8, e1, e2, tlen]
      simp only [e0]
      by_cases h8 : 8 ≤ n
      case neg =>
        rw [decide_eq_false h8, dif_neg (fun h => h8 h.1)]; rfl
      rw [decide_eq_true h8, Bool.true_and]
      cases hz : zr (((bl d).take n).drop (n - 8)) with
      | false => rw [dif_neg (fun h => by cases h.2)]; rfl
      | true =>
        rw [dif_pos ⟨h8, rfl⟩, bif_true, w_sub8 h8 (by omega), decide_eq_true (show (0 : Int) ≤ ((n - 8 : Nat) : Int) by omega), decide_eq_true (show ((n - 8 : Nat) : Int) ≤ Int.ofNat n by show ((n - 8 : Nat) : Int) ≤ (n : Int); omega)]
        simp only [Int.toNat_natCast, bif_true, Bool.and_true]
        rw [ex_ex d (show n - 8 ≤ n by omega)]
        exact ih (n - 8) (by omega) (by omega)
  have := hL d.size (Nat.le_refl _)
  rw [ex_all] at this
  have e : (D T).call F_strings_Repeat [.sc (.string (.mk (.mk [0]))), .sc (.int .i64 8)] = _ := repeat_is 8 (by decide)
  rw [c_impl_trimmed, t_impl_trimmed, e, Option.bind_some]
  exact this
end Go.Proofs.YtmddfhjgdhjmkaaDoor.VM
