/- For every two values that can be read, the law FnExactDatumSame returns true and leaves its arguments as they read before. No condition. -/
import Derived.Test.YtmddfhjgdhjmkaaRows
import Derived.Test.YtmddfhjgdhjmkaaPLawDS
import Derived.Test.YtmddfhjgdhjmkaaPTvD
import Derived.WalkKit
import Derived.ProofKit
import Derived.OpenShut
import Derived.ShutString
import Derived.ChangeOld
import Derived.Below
import Derived.SizedLaws
set_option linter.unusedVariables false
set_option linter.unusedSimpArgs false
namespace Go.Proofs.Ytmddfhjgdhjmkaa.FnExactDatumSame
open Go.ChangeShapes Go.WideShapes Go.ChangeAt Go.RowKit Go.Proofs.Ytmddfhjgdhjmkaa.VM
theorem own : ownKnob Try.prog.godebug = none := by kernel_rfl
theorem laidOut : laidOutB Try.prog = true := by kernel_rfl
set_option maxRecDepth 100000 in
theorem lifted (os : Os) (started : os.Started) (H : Type) (enc : TypeId × Value → H) :
    ReturnsInHanded {} Try.checked os 3 .any (Rows.fnExactDatumSameSpec.pre6 enc Try.prog Try.f3 Rows.fnExactDatumSameRow.domain false) (Rows.fnExactDatumSameSpec.post enc Try.prog Try.f3 false true false false) := by
  refine returnsInHanded_of_change_sized (C := Try.checked) own started (by kernel_rfl) Try.func3
    (ChangeSpec.witness6 (enc := enc) (C := Try.checked) false ⟨#[], #[.agg #[.int .i64 0, .int .i64 0, .string ByteArray.empty, .slice none 0 0, .slice none 0 0], .agg #[.int .i64 0, .int .i64 0, .string ByteArray.empty, .slice none 0 0, .slice none 0 0]], []⟩ 8 (by kernel_rfl) (by kernel_rfl) (by kernel_rfl) (by kernel_rfl)) ?_
  intro W base args ds gs before hval0 hW hcnd hsz0 _
  have hsz : (DataW.weightsEach Try.prog (Try.f3.params.toList ++ Rows.fnExactDatumSameSpec.plain.varTypes Try.prog) (ds ++ gs)).all (· ≤ reachBytes) = true := hsz0
  have hW' := hW
  obtain ⟨p, q, hA0, hV, rfl, hfz, hnd⟩ := hW
  have hA : DataW.TrodAll enc Try.prog W 0 (fun _ => true) true Try.f3.params.toList args.toList ds p := hA0
  rw [Try.params3] at hA hsz
  obtain ⟨v0, vs0, d0, ds0, p0, q0, hargs, rfl, rfl, h0, r0⟩ := trodAll_cons hA
  obtain ⟨v1, vs1, d1, ds1, p1, q1, rfl, rfl, rfl, h1, r1⟩ := trodAll_cons r0
  obtain ⟨rfl, rfl, rfl⟩ := trodAll_nil r1
  obtain rfl : args = #[v0, v1] := by cases args; simp_all
  obtain ⟨rfl, rfl⟩ := trodVars_none hV
  have hw : ∀ n, n ∈ d0.weights Try.prog 25 ∨ n ∈ d1.weights Try.prog 25 → n ≤ reachBytes := fun n hn => by
    have := List.all_eq_true.1 hsz n (by
      have e : DataW.weightsEach Try.prog ([25, 25] ++ Rows.fnExactDatumSameSpec.plain.varTypes Try.prog) ([d0, d1] ++ []) = d0.weights Try.prog 25 ++ (d1.weights Try.prog 25 ++ DataW.weightsEach Try.prog (Rows.fnExactDatumSameSpec.plain.varTypes Try.prog) []) := rfl
      rw [show (#[25, 25] : Array TypeId).toList = [25, 25] from rfl, e]
      rcases hn with hn | hn
      · exact List.mem_append_left _ hn
      · exact List.mem_append_right _ (List.mem_append_left _ hn))
    simpa using this
  have lt0 : ∀ x ∈ p0, x.block < W.heap.size := by obtain ⟨m, hm⟩ := h0; exact DataW.trod_lt m _ _ _ hm
  have lt1 : ∀ x ∈ p1, x.block < W.heap.size := by obtain ⟨m, hm⟩ := h1; exact DataW.trod_lt m _ _ _ hm
  have k0 := h0
  have k1 := h1
  obtain ⟨n0, hf0⟩ := h0
  obtain ⟨n1, hf1⟩ := h1
  obtain ⟨x0, fr0, tv0⟩ := trod_tv clsD n0 25 _ _ _ rfl hf0 fun n hn => hw n (.inl hn)
  obtain ⟨x1, fr1, tv1⟩ := trod_tv clsD n1 25 _ _ _ rfl hf1 fun n hn => hw n (.inr hn)
  obtain ⟨a, rfl, ha⟩ := tv_dat n0 tv0
  obtain ⟨b, rfl, hb⟩ := tv_dat n1 tv1
  have vr : ∀ {v : Value} {d : Dat}, FR W (fun b => b < W.heap.size) v.cells.toList (encD d) → VR W (fun b => b < W.heap.size) v (encD d) := fun {v d} h => by
    obtain ⟨cs, e, hl⟩ := encD_st d
    rw [e] at h ⊢
    exact vr_of_fr h hl
  clear hA0 hval0 hsz0 hsz
  refine (den_calls tokT (law3 a b ha hb) (fun x hx cs e => by
      rcases List.mem_cons.1 hx with rfl | hx
      · obtain ⟨cs', e', _⟩ := encD_st a; rw [e'] at e; cases e
      · rcases List.mem_cons.1 hx with rfl | hx
        · obtain ⟨cs', e', _⟩ := encD_st b; rw [e'] at e; cases e
        · cases hx) W #[v0, v1] rfl (fun i c x hc hx => by
      rcases i with _ | _ | i
      · cases hc; cases hx; exact vr fr0
      · cases hc; cases hx; exact vr fr1
      · simp at hx) (fun g x h => by cases h)).mono fun e W' ⟨he, bel⟩ => ?_
  subst he
  exact ⟨_, rfl, _, _, _, [], _, [], hW', trodAll_mk1 (shut_bool Try.underlying4 _), (trodAll_cons_mk (Below.trod laidOut (by kernel_rfl) (of_decide_eq_true (by kernel_rfl)) k0 bel lt0) (trodAll_cons_mk (Below.trod laidOut (by kernel_rfl) (of_decide_eq_true (by kernel_rfl)) k1 bel lt1) trodAll_mk0)), rfl, bel.frame _, fun h => by cases h⟩
theorem over : Rows.fnExactDatumSameRow.holds Try.pinned (OpenSpec.ofChange Rows.fnExactDatumSameSpec) :=
  OpenClaim.holds_of_wide 3 Try.f3 rfl rfl rfl rfl rfl rfl rfl ⟨rfl, rfl, rfl, rfl, rfl⟩ rfl rfl rfl rfl rfl (by kernel_rfl) Try.func3 (by kernel_rfl)
    (of_decide_eq_true (by kernel_rfl)) (by unfold Func.isWrapper; first | (rw [if_pos (by decide +kernel)]; kernel_rfl) | (rw [if_neg (by decide +kernel)]; exact ⟨rfl, rfl⟩))
    (fun os started H enc _ => lifted os started H enc)
theorem proved : Rows.FnExactDatumSameSaid := over
end Go.Proofs.Ytmddfhjgdhjmkaa.FnExactDatumSame
namespace Go.Proofs.Ytmddfhjgdhjmkaa
/-- The row, under a short name, for the claim. -/
theorem fnExactDatumSame_holds : Rows.FnExactDatumSameSaid := FnExactDatumSame.proved
#print axioms fnExactDatumSame_holds
end Go.Proofs.Ytmddfhjgdhjmkaa
