/- The law FnExactDatumSame, in plain words: for all values it tells true. -/
import Derived.Test.YtmddfhjgdhjmkaaPD
set_option linter.unusedVariables false
set_option linter.unusedSimpArgs false
namespace Go.Proofs.Ytmddfhjgdhjmkaa.VM

theorem law3 (d e : Dat) (h : okD d) (h' : okD e) : (D T).call 3 [encD d, encD e] = bo true := by
  have a1 := c5_tot d h
  have a2 := c5_tot e h'
  have a3 := c7_cp d h
  have a4 := c7_cp e h'
  have a5 := c6_eqd d e h h'
  have a6 := c8_eqd d e h h'
  have a7 := c9_eqd d d h h
  have a8 := c9_eqd e e h' h'
  rw [eqD_refl] at a7 a8
  obtain ⟨k, n, s, l, ns⟩ := d
  obtain ⟨k', n', s', l', ns'⟩ := e
  unfold encD at a1 a2 a3 a4 a5 a6 a7 a8 ⊢
  rw [c3, t3]
  obtain ⟨r, hr⟩ := a1 1048576
  rw [hr, Option.bind_some, unI_mk]
  cases decide (r < 0)
  case true => rfl
  obtain ⟨r2, hr2⟩ := a2 r
  rw [bif_false, hr2, Option.bind_some, unI_mk]
  cases decide (r2 < 0)
  case true => rfl
  have u5 : ∀ {R : Type} {x1 x2 x3 x4 x5 : V} {K : Option R}, unSt 5 (.st [x1, x2, x3, x4, x5]) K = K := rfl
  simp only [bif_false, a3, a4, a5, a6, a7, a8, Option.bind_some, u5, unB_mk, ce_st, List.getD_cons_zero, List.getD_cons_succ, unI_mk, unS_mk, unL_mk, decide_true, Bool.not_true]
end Go.Proofs.Ytmddfhjgdhjmkaa.VM
