/- Plain words for the equations: what the machine's readers do with what is known; lists, numbers. -/
import Derived.Test.YtaapkkeogajfpaaDoorMD
import Derived.Laws.BitsLemmas
set_option linter.unusedVariables false
set_option linter.unusedSimpArgs false
namespace Go.Proofs.YtaapkkeogajfpaaDoor.VM

def sEq (a b : ByteArray) : Bool := a.toList == b.toList

section
variable {R : Type}
theorem unI_mk {k : IntKind} {m : Int} {K : Int → Option R} : unI k (.sc (.int k m)) K = K m := by unfold unI; simp
theorem unB_mk {b : Bool} {K : Bool → Option R} : unB (.sc (.bool b)) K = K b := rfl
theorem unS_mk {s : ByteArray} {K : ByteArray → Option R} : unS (.sc (.string s)) K = K s := rfl
theorem unL_mk {z : Nat} {xs : List V} {K : List V → Option R} : unL z (.sl z xs) K = K xs := by unfold unL; simp
theorem unL_nil {z : Nat} {K : List V → Option R} : unL z .nil K = K [] := rfl
theorem unSt_mk {n : Nat} {cs : List V} {K : Option R} (h : cs.length = n) : unSt n (.st cs) K = K := by unfold unSt; simp [h]
theorem wd_mk {n : Nat} {cs : List V} {K : Option R} (h : cs.length = n) : wd n (.st cs) K = K := by unfold wd; simp [h]
theorem wd_sc {u : Value} {K : Option R} : wd 1 (.sc u) K = K := rfl
theorem wd_sl {z : Nat} {xs : List V} {K : Option R} : wd 1 (.sl z xs) K = K := rfl
theorem unTup_mk {n : Nat} {vs : List V} {K : List V → Option R} (h : vs.length = n) : unTup n (.tup vs) K = K vs := by unfold unTup; simp [h]
theorem unIo_mk {cs : List V} {K : List V → Option R} : unIo (.io cs) K = K cs := rfl
theorem unEnd_mk {K : Option R} : unEnd [] K = K := rfl
theorem unOut_mk {cs os : List V} {K : List V → List V → Option R} : unOut (.io cs :: os) K = K cs os := rfl
theorem ce_st {cs : List V} {j : Nat} : ce (.st cs) j = cs.getD j .dead := rfl
theorem ce_sc {u : Value} : ce (.sc u) 0 = .sc u := rfl
theorem ce_sl {z : Nat} {xs : List V} : ce (.sl z xs) 0 = .sl z xs := rfl
theorem ix_at {xs : List V} {n : Nat} {x : V} {K : V → Option R} (h : xs[n]? = some x) : ix xs (n : Int) K = K x := by
  show exN xs n K = K x
  unfold exN; rw [h]
theorem exN_at {xs : List V} {n : Nat} {x : V} {K : V → Option R} (h : xs[n]? = some x) : exN xs n K = K x := by unfold exN; rw [h]
theorem bif_true {α : Type} {a b : α} : (bif true then a else b) = a := rfl
theorem bif_false {α : Type} {a b : α} : (bif false then a else b) = b := rfl
end

theorem wrap_id {n : Int} (h : -9223372036854775808 ≤ n) (h' : n ≤ 9223372036854775807) : IntKind.wrap .i64 n = n := by rw [IntKind.wrap_i64]; omega

theorem toList_data (b : ByteArray) : b.toList = b.data.toList := by
  have loop : ∀ (n i : Nat) (r : List UInt8), b.size - i = n → ByteArray.toList.loop b i r = r.reverse ++ b.data.toList.drop i := by
    intro n
    induction n with
    | zero =>
      intro i r h
      unfold ByteArray.toList.loop
      have hi : ¬ i < b.size := by omega
      rw [if_neg hi, List.drop_eq_nil_of_le (Nat.le_of_not_lt hi : b.data.toList.length ≤ i), List.append_nil]
    | succ n ih =>
      intro i r h
      unfold ByteArray.toList.loop
      have hi : i < b.size := by omega
      rw [if_pos hi, ih (i + 1) _ (by omega)]
      have hi' : i < b.data.toList.length := hi
      have hg : b.get! i = b.data.toList[i] := by
        show b.data[i]! = _
        rw [getElem!_pos b.data i hi]
        rfl
      rw [List.drop_eq_getElem_cons hi']
      rw [List.reverse_cons, List.append_assoc, hg]
      rfl
  have := loop b.size 0 [] (by omega)
  unfold ByteArray.toList
  rw [this]
  rfl
theorem sEq_iff {a b : ByteArray} : sEq a b = true ↔ a = b := by
  unfold sEq
  rw [beq_iff_eq, toList_data, toList_data]
  constructor
  · intro h
    have h2 : a.data = b.data := Array.toList_inj.1 h
    cases a; cases b; simpa using h2
  · intro h; rw [h]
theorem sEq_dec (a b : ByteArray) : sEq a b = decide (a = b) := by
  cases h : sEq a b
  · exact (decide_eq_false fun e => by rw [sEq_iff.2 e] at h; cases h).symm
  · exact (decide_eq_true (sEq_iff.1 h)).symm
end Go.Proofs.YtaapkkeogajfpaaDoor.VM
