/- For every input that can be read, the law FnCanonItems returns true and leaves its arguments as they read before; the card ties the listed variable (sizeBits) to the program's text. No condition but that variable's. -/
import Derived.Test.YtaapkkeogajfpaaDoorRows
import Derived.Test.YtaapkkeogajfpaaDoorCards
import Derived.Test.YtaapkkeogajfpaaDoorTie
import Derived.Test.YtaapkkeogajfpaaDoorPlCi
import Derived.Test.YtaapkkeogajfpaaDoorPTvN
import Derived.Test.YtaapkkeogajfpaaDoorPTvB
import Derived.WalkKit
import Derived.ProofKit
import Derived.OpenShut
import Derived.ShutString
import Derived.ChangeOld
import Derived.Below
import Derived.SizedLaws
import Derived.SevenTiedAt
import Derived.OpenVars
import Derived.LaidMore
set_option linter.unusedVariables false
set_option linter.unusedSimpArgs false
namespace Go.Proofs.YtaapkkeogajfpaaDoor.FnCanonItems
open Go.ChangeShapes Go.WideShapes Go.ChangeAt Go.RowKit Go.Proofs.YtaapkkeogajfpaaDoor.VM
set_option maxRecDepth 100000 in
theorem lifted (os : Os) (started : os.Started) (H : Type) (enc : TypeId × Value → H) :
    ReturnsInHanded {} Tryd.checked os 4 .any (fun w args => (Rows.fnCanonItemsSpec.pre enc Tryd.prog Tryd.f4 [] false w args ∧ laidMetH Tryd.prog laid0 w) ∧ sizedMet enc Tryd.prog Tryd.f4 (OpenSpec.ofChange Rows.fnCanonItemsSpec) false w args)
      (Rows.fnCanonItemsSpec.post enc Tryd.prog Tryd.f4 false true false false) := by
  refine returnsInHanded_of_change_and (C := Tryd.checked) (X := fun w _ => laidMetH Tryd.prog laid0 w) (fun _ _ _ hh h => h.of_heap hh) own started (by kernel_rfl) Tryd.func4
    (ChangeSpec.witness_shaped (enc := enc) (C := Tryd.checked) (os := os) (X := fun w _ => laidMetH Tryd.prog laid0 w) false (World.doorLaid Tryd.prog 400 os) #[.slice none 0 0] 8 rfl (door_shaped os _) (by kernel_rfl) (by kernel_rfl) (by kernel_rfl) (door_met os _)) ?_
  intro W base args ds gs before hval0 hW hcnd hsz0 hL _
  have hsz : (DataW.weightsEach Tryd.prog (Tryd.f4.params.toList ++ Rows.fnCanonItemsSpec.plain.varTypes Tryd.prog) (ds ++ gs)).all (· ≤ reachBytes) = true := hsz0
  have hval : ∀ (j : Nat) t v, Tryd.f4.params[j]? = some t → args[j]? = some v → Value.okWide Tryd.prog W .any base t v := hval0
  have hW' := hW
  obtain ⟨p, q, hA0, hV, rfl, hfz, hnd⟩ := hW
  have hA : DataW.TrodAll enc Tryd.prog W 0 (fun _ => true) true Tryd.f4.params.toList args.toList ds p := hA0
  rw [Tryd.params4] at hA hsz hval
  obtain ⟨v0, vs0, d0, ds0, p0, q0, hargs, rfl, rfl, h0, r0⟩ := trodAll_cons hA
  obtain ⟨rfl, rfl, rfl⟩ := trodAll_nil r0
  obtain rfl : args = #[v0] := by cases args; simp_all
  obtain ⟨g, t, cs, fuel, d, p', rfl, hg, ht, hvar, hd, rfl⟩ := trodVars_one hV
  have hb := bits_of_laid hL
  have hw : ∀ n, n ∈ d0.weights Tryd.prog 22 → n ≤ reachBytes := fun n hn => by
    have := List.all_eq_true.1 hsz n (by
      have e : DataW.weightsEach Tryd.prog ([22] ++ Rows.fnCanonItemsSpec.plain.varTypes Tryd.prog) ([d0] ++ [d]) = d0.weights Tryd.prog 22 ++ DataW.weightsEach Tryd.prog (Rows.fnCanonItemsSpec.plain.varTypes Tryd.prog) [d] := rfl
      rw [show (#[22] : Array TypeId).toList = [22] from rfl, e]
      exact List.mem_append_left _ hn)
    simpa using this
  have lt0 : ∀ x ∈ p0, x.block < W.heap.size := by obtain ⟨m, hm⟩ := h0; exact DataW.trod_lt m _ _ _ hm
  have k0 := h0
  obtain ⟨n0, hf0⟩ := h0
  obtain ⟨x0, fr0, tv0⟩ := trod_tv clsBy n0 22 _ _ _ rfl hf0 fun n hn => hw n (hn)
  obtain ⟨a0, rfl, ha0, hl0⟩ := tv_byt tv0
  have vs0 := vr_slice Tryd.underlying22 (hval 0 22 v0 rfl rfl) fr0
  clear hA0 hval0 hval hsz0 hsz
  refine (den_calls tokT (law_dCanonItems a0 ha0) (fun x hx cs e => by
      rcases List.mem_cons.1 hx with rfl | hx
      · cases e
      cases hx) W #[v0] rfl (fun i c x hc hx => by
      rcases i with _ | i
      · cases hc; cases hx; exact vs0
      · simp at hx) (glb_of_var hb)).mono fun e W' ⟨he, bel⟩ => ?_
  subst he
  exact ⟨_, rfl, _, _, _, [], _, _, hW', trodAll_mk1 (shut_bool Tryd.underlying4 _), (trodAll_cons_mk (Below.trod laidOut (by kernel_rfl) (of_decide_eq_true (by kernel_rfl)) k0 bel lt0) trodAll_mk0), Below.trodVars laidOut bel (by kernel_rfl) hV, bel.frame _, fun h => by cases h⟩
theorem over : Rows.fnCanonItemsRow.holds Tryd.pinned (OpenSpec.ofChange Rows.fnCanonItemsSpec) :=
  OpenClaim.holds_of_wide 4 Tryd.f4 rfl rfl rfl rfl rfl rfl rfl ⟨rfl, rfl, rfl, rfl, rfl⟩ rfl rfl rfl rfl rfl (by kernel_rfl) Tryd.func4 (by kernel_rfl)
    (of_decide_eq_true (by kernel_rfl)) (by unfold Func.isWrapper; first | (rw [if_pos (by decide +kernel)]; kernel_rfl) | (rw [if_neg (by decide +kernel)]; exact ⟨rfl, rfl⟩))
    (fun os started H enc _ => lifted os started H enc)
theorem proved : Rows.FnCanonItemsSaid := over
theorem card_holds : Rows.FnCanonItemsCardSaid :=
  Claim7.holds_tied_plain_at .later [] [.data] true Rows.fnCanonItemsCard.stood.harness false
    proved (fun _ h => by cases h) (by kernel_rfl) (fun _ h => by cases h) fnCanonItems_row_tie rfl ⟨rfl, rfl⟩ (by kernel_rfl) rfl
    (fun f fn hf hfn => by
      obtain rfl : f = 4 := Option.some.inj ((show Tryd.prog.funcNamed "loop.example/quoin/laws.FnCanonItems" = some 4 by kernel_rfl).symm.trans hf) |>.symm
      obtain rfl : fn = Tryd.f4 := (Option.some.inj (Tryd.func4.symm.trans hfn)).symm
      exact ⟨by kernel_rfl, fun j t ht => by
        rw [Tryd.params4] at ht
        have hm : t ∈ [22] := by simpa using Array.mem_of_getElem? ht
        have hall : ([22].all fun u => !Tryd.prog.wantsStandIn u) = true := by kernel_rfl
        exact (show Tryd.prog.wantsStandIn t = false by simpa using List.all_eq_true.1 hall t hm)⟩)
    (by kernel_rfl)
end Go.Proofs.YtaapkkeogajfpaaDoor.FnCanonItems
namespace Go.Proofs.YtaapkkeogajfpaaDoor
/-- The card, under a short name, for the claim. -/
theorem fnCanonItems_holds : Rows.FnCanonItemsCardSaid := FnCanonItems.card_holds
#print axioms fnCanonItems_holds
end Go.Proofs.YtaapkkeogajfpaaDoor
