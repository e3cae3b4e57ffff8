/- What came in as a code: bytes. -/
import Derived.Test.YtaapkkeogajfpaaDoorPlCn
import Derived.Test.YtaapkkeogajfpaaDoorPTvN
import Derived.WideShapes
set_option linter.unusedVariables false
set_option linter.unusedSimpArgs false
namespace Go.Proofs.YtaapkkeogajfpaaDoor.VM
open Go.Proofs Go.RowKit Go.WideShapes

theorem clsBy : clsB Tryd.prog [5, 22] = true := by kernel_rfl
theorem cellsU8 : Tryd.prog.cellsOf 5 = 1 := by kernel_rfl
theorem bytesU8 : Tryd.prog.bytesOf 5 = 1 := by kernel_rfl
set_option maxRecDepth 10000 in
theorem tv_byt {n : Nat} {x : V} (h : TV Tryd.prog n 22 x) : ∃ l, x = .sl 1 l ∧ Byt l ∧ l.length ≤ reachBytes := by
  cases n with
  | zero => exact h.elim
  | succ n =>
    unfold TV at h
    rw [Tryd.underlying22] at h
    obtain ⟨xs, rfl, hl, hx⟩ := h
    rw [bytesU8] at hl
    rw [cellsU8]
    refine ⟨xs, rfl, fun y hy => ?_, by omega⟩
    have := hx y hy
    cases n with
    | zero => exact this.elim
    | succ n =>
      unfold TV at this
      have e0 : Tryd.prog.underlying 5 = some (.int .u8) := Tryd.underlying5
      rw [e0] at this
      obtain ⟨m, rfl, hm⟩ := this
      have hm : (0 ≤ m ∧ m ≤ 255) := by
        simp only [Lit.wf] at hm
        have hm : IntKind.u8.min ≤ m ∧ m ≤ IntKind.u8.max := by simpa using hm
        exact hm
      exact ⟨m.toNat, by omega, by rw [show ((m.toNat : Nat) : Int) = m by omega]⟩
theorem vr_slice {P : Program} {W W' : World} {r : Reach} {base : Nat} {A : Nat → Prop} {t e : TypeId} {v : Value} {z : Nat} {xs : List V} (ht : P.underlying t = some (.slice e)) (hok : Value.okWide P W r base t v)
    (h : FR W' A v.cells.toList (.sl z xs)) : VR W' A v (.sl z xs) := by
  obtain ⟨a, len, cap, rfl⟩ := okWide_slice ht hok
  exact h
end Go.Proofs.YtaapkkeogajfpaaDoor.VM
