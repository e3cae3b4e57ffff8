/- Plain lemmas on lists, loops and numbers, for all that is proved over the equations. -/
import Derived.Test.YtmddfhjgdhjmkaaDoorVMP
set_option linter.unusedVariables false
set_option linter.unusedSimpArgs false
namespace Go.Proofs.YtmddfhjgdhjmkaaDoor.VM

def encS (s : ByteArray) : V := .sc (.string s)
abbrev bo (b : Bool) : Option Res := some (.sc (.bool b), [])
abbrev nu (n : Int) : Option Res := some (.sc (.int .i64 n), [])

/-- from the end downwards -/
theorem down {n : Nat} {Q : Nat → Prop} (h0 : Q n) (hs : ∀ i, i < n → Q (i + 1) → Q i) : ∀ i, i ≤ n → Q i := by
  intro i hi
  obtain ⟨k, rfl⟩ : ∃ k, i = n - k := ⟨n - i, by omega⟩
  clear hi
  induction k with
  | zero => exact h0
  | succ k ih =>
    by_cases hk : k < n
    · have := hs (n - (k + 1)) (by omega)
      rw [show n - (k + 1) + 1 = n - k by omega] at this
      exact this ih
    · rw [show n - (k + 1) = n - k by omega]; exact ih
theorem reach_lt {n b : Nat} (h : n * (b + 1) ≤ reachBytes) : n ≤ 140737488351232 := by
  have : reachBytes = 140737488351232 := rfl
  have h2 : n * 1 ≤ n * (b + 1) := Nat.mul_le_mul_left _ (by omega)
  omega
theorem next_i {i : Nat} (h : i ≤ 140737488351232) : IntKind.wrap .i64 ((i : Int) + 1) = ((i + 1 : Nat) : Int) := by rw [wrap_id (by omega) (by omega)]; omega
theorem encSs_get (ns : List ByteArray) (i : Nat) (h : i < ns.length) : (ns.map encS)[i]? = some (.sc (.string ns[i])) := by rw [List.getElem?_map, List.getElem?_eq_getElem h]; rfl
theorem lt_ofNat {i n : Nat} (h : i < n) : decide ((i : Int) < Int.ofNat n) = true := decide_eq_true (by simpa using h)
theorem nlt_ofNat {n : Nat} : decide ((n : Int) < Int.ofNat n) = false := decide_eq_false (by simp)
theorem le_ofNat {i : Nat} : decide ((0 : Int) ≤ (i : Int)) = true := decide_eq_true (by omega)
theorem lt_ofNat0 {n : Nat} (h : 0 < n) : decide ((0 : Int) < Int.ofNat n) = true := decide_eq_true (by simpa using h)
theorem ix_at0 {R : Type} {xs : List V} {x : V} {K : V → Option R} (h : xs[0]? = some x) : ix xs 0 K = K x := ix_at (n := 0) h
theorem next0 : IntKind.wrap .i64 (0 + 1) = ((1 : Nat) : Int) := by rw [wrap_id (by omega) (by omega)]; rfl
theorem dec_len {a b : Nat} (h : ¬ b = a) : decide (Int.ofNat a = Int.ofNat b) = false := decide_eq_false (by simp; omega)
theorem dec_len_eq {a b : Nat} (h : b = a) : decide (Int.ofNat a = Int.ofNat b) = true := decide_eq_true (by rw [h])
theorem mk_chk {n b : Nat} (h : n * b ≤ reachBytes) : ((decide (0 ≤ Int.ofNat n) && decide (Int.ofNat n = Int.ofNat n)) && decide ((Int.toNat (Int.ofNat n)) * b ≤ 140737488355328)) = true := by
  have : reachBytes = 140737488351232 := rfl
  have h1 : decide (0 ≤ Int.ofNat n) = true := decide_eq_true (Int.natCast_nonneg n)
  have h2 : decide ((Int.toNat (Int.ofNat n)) * b ≤ 140737488355328) = true := decide_eq_true (by rw [show Int.toNat (Int.ofNat n) = n from rfl]; omega)
  rw [h1, h2]; simp
theorem cp_step {l l2 : List V} {i : Nat} {x : V} (hl : l2.length = l.length) (h : l2.take i = l.take i) (hx : l[i]? = some x) : (l2.set i x).take (i + 1) = l.take (i + 1) := by
  have hi : i < l.length := (List.getElem?_eq_some_iff.1 hx).1
  rw [List.take_add_one, List.take_add_one, hx, List.getElem?_set_self (by omega), List.take_set_of_le (Nat.le_refl _), h]
theorem cp_end {l l2 : List V} (hl : l2.length = l.length) (h : l2.take l.length = l.take l.length) : l2 = l := by
  rw [List.take_length, ← hl, List.take_length] at h; exact h
theorem if_pos_b {α : Type} {b : Bool} {x y : α} (h : b = true) : (bif b then x else y) = x := by rw [h]; rfl
theorem if_neg_b {α : Type} {b : Bool} {x y : α} (h : b = false) : (bif b then x else y) = y := by rw [h]; rfl
theorem setCe_at {x c : V} (h : ∀ cs, x ≠ .st cs) : setCe x 0 c = c := by unfold setCe; split <;> first | exact absurd rfl (h _) | rfl
end Go.Proofs.YtmddfhjgdhjmkaaDoor.VM
