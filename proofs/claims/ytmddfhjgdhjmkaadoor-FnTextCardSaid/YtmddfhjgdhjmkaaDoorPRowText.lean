/- For every input that can be read, the law FnText returns true and leaves its arguments as they read before; the card ties the listed variable (sizeBits) to the program's text. No condition but that variable's. -/
import Derived.Test.YtmddfhjgdhjmkaaDoorRows
import Derived.Test.YtmddfhjgdhjmkaaDoorCards
import Derived.Test.YtmddfhjgdhjmkaaDoorTie
import Derived.Test.YtmddfhjgdhjmkaaDoorPTl
import Derived.Test.YtmddfhjgdhjmkaaDoorPTvN
import Derived.Test.YtmddfhjgdhjmkaaDoorPTvB
import Derived.WalkKit
import Derived.ProofKit
import Derived.OpenShut
import Derived.ShutString
import Derived.ChangeOld
import Derived.Below
import Derived.SizedLaws
import Derived.SevenTiedAt
import Derived.OpenVars
import Derived.LaidMore
set_option linter.unusedVariables false
set_option linter.unusedSimpArgs false
namespace Go.Proofs.YtmddfhjgdhjmkaaDoor.FnText
open Go.ChangeShapes Go.WideShapes Go.ChangeAt Go.RowKit Go.Proofs.YtmddfhjgdhjmkaaDoor.VM
set_option maxRecDepth 100000 in
theorem lifted (os : Os) (started : os.Started) (H : Type) (enc : TypeId × Value → H) :
    ReturnsInHanded {} Tryd.checked os 10 .any (fun w args => (Rows.fnTextSpec.pre enc Tryd.prog Tryd.f10 [] false w args ∧ laidMetH Tryd.prog laid0 w) ∧ sizedMet enc Tryd.prog Tryd.f10 (OpenSpec.ofChange Rows.fnTextSpec) false w args)
      (Rows.fnTextSpec.post enc Tryd.prog Tryd.f10 false true false false) := by
  refine returnsInHanded_of_change_and (C := Tryd.checked) (X := fun w _ => laidMetH Tryd.prog laid0 w) (fun _ _ _ hh h => h.of_heap hh) own started (by kernel_rfl) Tryd.func10
    (ChangeSpec.witness_shaped (enc := enc) (C := Tryd.checked) (os := os) (X := fun w _ => laidMetH Tryd.prog laid0 w) false (World.doorLaid Tryd.prog 400 os) #[.slice none 0 0, .slice none 0 0] 8 rfl (door_shaped os _) (by kernel_rfl) (by kernel_rfl) (by kernel_rfl) (door_met os _)) ?_
  intro W base args ds gs before hval0 hW hcnd hsz0 hL _
  have hsz : (DataW.weightsEach Tryd.prog (Tryd.f10.params.toList ++ Rows.fnTextSpec.plain.varTypes Tryd.prog) (ds ++ gs)).all (· ≤ reachBytes) = true := hsz0
  have hval : ∀ (j : Nat) t v, Tryd.f10.params[j]? = some t → args[j]? = some v → Value.okWide Tryd.prog W .any base t v := hval0
  have hW' := hW
  obtain ⟨p, q, hA0, hV, rfl, hfz, hnd⟩ := hW
  have hA : DataW.TrodAll enc Tryd.prog W 0 (fun _ => true) true Tryd.f10.params.toList args.toList ds p := hA0
  rw [Tryd.params10] at hA hsz hval
  obtain ⟨v0, vs0, d0, ds0, p0, q0, hargs, rfl, rfl, h0, r0⟩ := trodAll_cons hA
  obtain ⟨v1, vs1, d1, ds1, p1, q1, rfl, rfl, rfl, h1, r1⟩ := trodAll_cons r0
  obtain ⟨rfl, rfl, rfl⟩ := trodAll_nil r1
  obtain rfl : args = #[v0, v1] := by cases args; simp_all
  obtain ⟨g, t, cs, fuel, d, p', rfl, hg, ht, hvar, hd, rfl⟩ := trodVars_one hV
  have hb := bits_of_laid hL
  have hw : ∀ n, n ∈ d0.weights Tryd.prog 34 ∨ n ∈ d1.weights Tryd.prog 34 → n ≤ reachBytes := fun n hn => by
    have := List.all_eq_true.1 hsz n (by
      have e : DataW.weightsEach Tryd.prog ([34, 34] ++ Rows.fnTextSpec.plain.varTypes Tryd.prog) ([d0, d1] ++ [d]) = d0.weights Tryd.prog 34 ++ (d1.weights Tryd.prog 34 ++ DataW.weightsEach Tryd.prog (Rows.fnTextSpec.plain.varTypes Tryd.prog) [d]) := rfl
      rw [show (#[34, 34] : Array TypeId).toList = [34, 34] from rfl, e]
      rcases hn with hn | hn
      · exact List.mem_append_left _ hn
      · exact List.mem_append_right _ (List.mem_append_left _ hn))
    simpa using this
  have lt0 : ∀ x ∈ p0, x.block < W.heap.size := by obtain ⟨m, hm⟩ := h0; exact DataW.trod_lt m _ _ _ hm
  have lt1 : ∀ x ∈ p1, x.block < W.heap.size := by obtain ⟨m, hm⟩ := h1; exact DataW.trod_lt m _ _ _ hm
  have k0 := h0
  have k1 := h1
  obtain ⟨n0, hf0⟩ := h0
  obtain ⟨x0, fr0, tv0⟩ := trod_tv clsBy n0 34 _ _ _ rfl hf0 fun n hn => hw n (.inl hn)
  obtain ⟨a0, rfl, ha0, hl0⟩ := tv_byt tv0
  obtain ⟨n1, hf1⟩ := h1
  obtain ⟨x1, fr1, tv1⟩ := trod_tv clsBy n1 34 _ _ _ rfl hf1 fun n hn => hw n (.inr (hn))
  obtain ⟨a1, rfl, ha1, hl1⟩ := tv_byt tv1
  have vs0 := vr_slice Tryd.underlying34 (hval 0 34 v0 rfl rfl) fr0
  have vs1 := vr_slice Tryd.underlying34 (hval 1 34 v1 rfl rfl) fr1
  clear hA0 hval0 hval hsz0 hsz
  refine (den_calls tokT (law_Text a0 ha0 a1 ha1) (fun x hx cs e => by
      rcases List.mem_cons.1 hx with rfl | hx
      · cases e
      rcases List.mem_cons.1 hx with rfl | hx
      · cases e
      cases hx) W #[v0, v1] rfl (fun i c x hc hx => by
      rcases i with _ | _ | i
      · cases hc; cases hx; exact vs0
      · cases hc; cases hx; exact vs1
      · simp at hx) (glb_of_var hb)).mono fun e W' ⟨he, bel⟩ => ?_
  subst he
  exact ⟨_, rfl, _, _, _, [], _, _, hW', trodAll_mk1 (shut_bool Tryd.underlying4 _), (trodAll_cons_mk (Below.trod laidOut (by kernel_rfl) (of_decide_eq_true (by kernel_rfl)) k0 bel lt0) (trodAll_cons_mk (Below.trod laidOut (by kernel_rfl) (of_decide_eq_true (by kernel_rfl)) k1 bel lt1) trodAll_mk0)), Below.trodVars laidOut bel (by kernel_rfl) hV, bel.frame _, fun h => by cases h⟩
theorem over : Rows.fnTextRow.holds Tryd.pinned (OpenSpec.ofChange Rows.fnTextSpec) :=
  OpenClaim.holds_of_wide 10 Tryd.f10 rfl rfl rfl rfl rfl rfl rfl ⟨rfl, rfl, rfl, rfl, rfl⟩ rfl rfl rfl rfl rfl (by kernel_rfl) Tryd.func10 (by kernel_rfl)
    (of_decide_eq_true (by kernel_rfl)) (by unfold Func.isWrapper; first | (rw [if_pos (by decide +kernel)]; kernel_rfl) | (rw [if_neg (by decide +kernel)]; exact ⟨rfl, rfl⟩))
    (fun os started H enc _ => lifted os started H enc)
theorem proved : Rows.FnTextSaid := over
theorem card_holds : Rows.FnTextCardSaid :=
  Claim7.holds_tied_plain_at .later [] [.data] true Rows.fnTextCard.stood.harness false
    proved (fun _ h => by cases h) (by kernel_rfl) (fun _ h => by cases h) fnText_row_tie rfl ⟨rfl, rfl⟩ (by kernel_rfl) rfl
    (fun f fn hf hfn => by
      obtain rfl : f = 10 := Option.some.inj ((show Tryd.prog.funcNamed "loop.example/quoin/laws.FnText" = some 10 by kernel_rfl).symm.trans hf) |>.symm
      obtain rfl : fn = Tryd.f10 := (Option.some.inj (Tryd.func10.symm.trans hfn)).symm
      exact ⟨by kernel_rfl, fun j t ht => by
        rw [Tryd.params10] at ht
        have hm : t ∈ [34, 34] := by simpa using Array.mem_of_getElem? ht
        have hall : ([34, 34].all fun u => !Tryd.prog.wantsStandIn u) = true := by kernel_rfl
        exact (show Tryd.prog.wantsStandIn t = false by simpa using List.all_eq_true.1 hall t hm)⟩)
    (by kernel_rfl)
end Go.Proofs.YtmddfhjgdhjmkaaDoor.FnText
namespace Go.Proofs.YtmddfhjgdhjmkaaDoor
/-- The card, under a short name, for the claim. -/
theorem fnText_holds : Rows.FnTextCardSaid := FnText.card_holds
#print axioms fnText_holds
end Go.Proofs.YtmddfhjgdhjmkaaDoor
