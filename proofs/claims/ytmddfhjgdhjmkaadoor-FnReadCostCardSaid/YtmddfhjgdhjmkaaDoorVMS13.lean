/- The abstract machine and the memory: code. -/
import Derived.Test.YtmddfhjgdhjmkaaDoorVMF3
set_option linter.unusedVariables false
set_option linter.unusedSimpArgs false
namespace Go.Proofs.YtmddfhjgdhjmkaaDoor.VM

def exitOf : Ex → Exit
  | .normal => .normal
  | .exit id => .exit id
  | .ret => .ret

/-- what a code's run owes -/
def Post (T : TT) (U : Nat → Prop) (w0 : World) (F0 : Fr) (K : Ex → St → Option Res) (r : Res) (Q : Exit → Act → World → Prop) : Prop :=
  ∀ e σ' a' w' ow', K e σ' = some r → Sim T.globL U w0 F0 σ' a' w' ow' → Q (exitOf e) a' w'
structure EnvOk (P : Program) (T : TT) (E : Env) : Prop where
  call : CallOk P T.globL E.call
  loud : LoudOk P T E.call
  loop : ∀ (kp : Nat → Bool) (b : Code) (σ : St) (K : Ex → St → Option Res) (r : Res), E.loop kp b σ K = some r → ∀ (U : Nat → Prop) (w0 : World) (F0 : Fr) (a : Act) (w : World) (ow : Own) (Q : Exit → Act → World → Prop),
    (∀ o ∈ opsOf b, ∀ d, o.dst = some d → F0.pn d = none) → Sim T.globL U w0 F0 σ a w ow → Post T U w0 F0 K r Q → (Code.loop b).wp P Q a w

section
variable {P : Program} {T : TT} {U : Nat → Prop} {w0 : World} {F0 : Fr} {r : Res} {E : Env}

theorem sim_cleanC {σ : St} {a : Act} {w : World} {ow : Own} (c : Operand) (h : Sim T.globL U w0 F0 σ a w ow) : Sim T.globL U w0 F0 (cleanC c σ) a w ow := by
  cases c <;> first | exact h.drop _ | exact h

theorem exC_ok (hT : TOk P T) (hE : EnvOk P T E) {kp : Nat → Bool} : ∀ (c : Code), (∀ o ∈ opsOf c, ∀ d, o.dst = some d → F0.pn d = none) → ∀ (σ : St) (a : Act) (w : World) (ow : Own) (K : Ex → St → Option Res) (Q : Exit → Act → World → Prop),
    exC T E kp c σ K = some r → Sim T.globL U w0 F0 σ a w ow → Post T U w0 F0 K r Q → c.wp P Q a w := by
  intro c
  induction c with
  | skip => exact fun _ σ a w ow K Q hk h hQ => wp_skip (hQ _ _ _ _ _ hk h)
  | exit id => exact fun _ σ a w ow K Q hk h hQ => wp_exit (hQ _ _ _ _ _ hk h)
  | ret => exact fun _ σ a w ow K Q hk h hQ => wp_ret (hQ _ _ _ _ _ hk h)
  | seq x y ihx ihy =>
    intro hpn σ a w ow K Q hk h hQ
    refine wp_seq (ihx (fun o ho => hpn o (List.mem_append_left _ ho)) σ a w ow _ _ hk h fun e σ' a' w' ow' hk' h' => ?_)
    cases e with
    | normal => exact ihy (fun o ho => hpn o (List.mem_append_right _ ho)) σ' a' w' ow' K Q hk' h' hQ
    | exit id => exact hQ _ _ _ _ _ hk' h'
    | ret => exact hQ _ _ _ _ _ hk' h'
  | cond c x y ihx ihy =>
    intro hpn σ a w ow K Q hk h hQ
    obtain ⟨t, ht, hk2⟩ := unB_some hk
    refine wp_cond (val_sc h ht).1 ?_
    cases t with
    | true => exact ihx (fun o ho => hpn o (List.mem_append_left _ ho)) _ a w ow K Q hk2 (sim_cleanC c h) hQ
    | false => exact ihy (fun o ho => hpn o (List.mem_append_right _ ho)) _ a w ow K Q hk2 (sim_cleanC c h) hQ
  | block id x ih =>
    intro hpn σ a w ow K Q hk h hQ
    refine wp_block (ih hpn σ a w ow _ _ hk h fun e σ' a' w' ow' hk' h' => ?_)
    cases e with
    | normal => exact hQ _ _ _ _ _ hk' h'
    | exit i =>
      show if i = id then Q .normal a' w' else Q (.exit i) a' w'
      by_cases hi : i = id
      · subst hi
        rw [if_pos rfl]
        simp only [Nat.beq_refl, cond_true] at hk'
        exact hQ .normal σ' a' w' ow' hk' h'
      · rw [if_neg hi]
        have hb : Nat.beq i id = false := by
          cases hb : Nat.beq i id
          · rfl
          · exact absurd (beq_nat.1 hb) hi
        simp only [hb, cond_false] at hk'
        exact hQ (.exit i) σ' a' w' ow' hk' h'
    | ret => exact hQ _ _ _ _ _ hk' h'
  | loop b ih => exact fun hpn σ a w ow K Q hk h hQ => hE.loop _ _ _ _ _ hk _ _ _ _ _ _ _ hpn (h.lpClean kp b) hQ
  | region id ops draw =>
    intro hpn σ a w ow K Q hk h hQ
    have hk : (bif draw && !regOk T ops.toList then
      (bif regOk2 T ops.toList then exDr T E.call ops.toList (prep T ops.toList σ) fun σ => K .normal (gcs ops.toList (clean kp ops.toList σ)) else none) else
      exOps T E.call draw ops.toList ops.toList (prep T ops.toList σ) [] fun σ => K .normal (gcs ops.toList (clean kp ops.toList σ))) = some r := hk
    have hfin : ∀ σ' a' w' ow', K .normal (gcs ops.toList (clean kp ops.toList σ')) = some r → Sim T.globL U w0 F0 σ' a' w' ow' → Q .normal a' w' := fun σ' a' w' ow' hk' h' =>
      hQ .normal _ _ _ ow' hk' ((h'.clean kp ops.toList).gcs ops.toList)
    have hp := h.prep T ops.toList
    cases draw with
    | false =>
      refine wp_region_list (exOps_plain (all := ops) (dr := false) hT hE.call hE.loud ops.toList _ [] a w ow hpn hp hk hfin)
    | true =>
      cases hreg : regOk T ops.toList with
      | false =>
        rw [hreg] at hk
        obtain ⟨hr2, hk⟩ := bif_some hk
        have hno : ∀ i, (Array.replicate ops.size false).getD i false = false := fun i => by
          simp only [Array.getD_eq_getD_getElem?, Array.getElem?_replicate]; split <;> rfl
        refine wp_region_any hT.mixed (drawn_float hT hE.call hE.loud (regOk2_ok hr2) hpn hfin ops.size _ a _ ops.toList.zipIdx (dropF T ops.toList (unOf ops.toList) ops.toList.zipIdx (prep T ops.toList σ)) [] [] ow ?_ ?_)
        · unfold unl
          exact Nat.le_trans (List.countP_le_length) (by simp)
        · refine ⟨by simp, fun p => ?_, ?_, fun j hj => (by rw [hno] at hj; cases hj), hk, fun p hp hf => dropF_dead _ _ p hp hf, ?_⟩
          · rw [hno]
            obtain ⟨x, q⟩ := p
            rw [List.mem_zipIdx_iff_getElem?]
            simp
          · rw [List.pairwise_iff_getElem]
            intro i j hi hj hij
            simp only [List.getElem_zipIdx]
            omega
          · exact (Sim.dropF (P := P) _ hp).drew
      | true =>
        rw [hreg] at hk
        obtain ⟨Ef, h1, h2, h3⟩ := seg_split _ _ _ hk
        refine wp_region_any hT.mixed (drawn_any hT hE.call hE.loud (regOk_ok hreg) hpn hfin ops.size _ a _ 0 (prep T ops.toList σ) Ef ow ?_ ?_)
        · unfold unl
          exact Nat.le_trans (List.countP_le_length) (by simp)
        · have hno : ∀ i, (Array.replicate ops.size false).getD i false = false := fun i => by
            simp only [Array.getD_eq_getD_getElem?, Array.getElem?_replicate]; split <;> rfl
          refine ⟨by simp, fun i hi => by omega, by simpa using h1, by simpa using h2, by simpa using h3, fun i _ => hno i, fun j hj => (by rw [hno] at hj; cases hj), ?_⟩
          rw [stM_none Ef (fun i => by rw [hno])]
          have hd := hp.drew
          exact hd.freeze _
  | _ => exact fun _ σ a w ow K Q hk => by cases hk
end
end Go.Proofs.YtmddfhjgdhjmkaaDoor.VM
