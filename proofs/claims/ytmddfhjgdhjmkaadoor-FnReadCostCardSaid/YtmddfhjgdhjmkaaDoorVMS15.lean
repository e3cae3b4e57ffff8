/- The abstract machine and the memory: what a function hands back. -/
import Derived.Test.YtmddfhjgdhjmkaaDoorVMS14
set_option linter.unusedVariables false
set_option linter.unusedSimpArgs false
namespace Go.Proofs.YtmddfhjgdhjmkaaDoor.VM

def resG (tmps : Array Value) : ResultVar → Sem Value
  | .tmp t => pure (tmps.getD t undef)
  | .cell a t => do loadVar t (← asAddr (tmps.getD a undef))
theorem results_eq (fn : Func) (tmps : Array Value) : results fn tmps = (do
    let vs ← fn.results.mapM (resG tmps)
    pure (if h : vs.size = 1 then vs[0] else .tuple vs)) := rfl

section
variable {P : Program} {T : TT} {U : Nat → Prop} {w0 w : World} {F0 : Fr} {σ : St} {a : Act} {ow : Own} {r : Res}

theorem box_cells {GL : List (Nat × V)} (h : Sim GL U w0 F0 σ a w ow) {k : Nat} {b : Bool} {cs : List V} (hb : σ.ob.getD k .none = .box b cs) :
    ∃ ecs : List Value, ecs.length = cs.length ∧ At w (ow k none) 0 ecs ∧ ∀ (q : Nat) u y, ecs[q]? = some u → (view k 0 (cs.map eC))[q]? = some y → SC w (Fz U w ow σ.ob) ow σ.ob u y := by
  classical
  have hex : ∀ q : Nat, ∃ u, q < cs.length → w.cell? ⟨ow k none, q, none⟩ = some u ∧ SC w (Fz U w ow σ.ob) ow σ.ob u (viewC k q ((cs.map eC).getD q .dead)) := fun q => by
    by_cases hq : q < cs.length
    · obtain ⟨u, h1, h2⟩ := box_cell h hb hq
      exact ⟨u, fun _ => ⟨h1, h2⟩⟩
    · exact ⟨undef, fun hh => absurd hh hq⟩
  obtain ⟨f', hf'⟩ := Classical.axiomOfChoice hex
  refine ⟨(List.range cs.length).map f', by simp, fun q u hu => ?_, fun q u y hu hy => ?_⟩
  · simp only [List.getElem?_map] at hu
    by_cases hq : q < cs.length
    · rw [List.getElem?_range hq] at hu
      simp at hu; subst hu
      rw [Nat.zero_add]
      exact (hf' q hq).1
    · rw [List.getElem?_eq_none (by simp; omega)] at hu; simp at hu
  · have hq : q < cs.length := by have := (List.getElem?_eq_some_iff.1 hu).1; simpa using this
    simp only [List.getElem?_map, List.getElem?_range hq, Option.map_some, Option.some.injEq] at hu
    subst hu
    rw [view_get, Nat.zero_add] at hy
    have hsc := (hf' q hq).2
    rw [List.getD_eq_getElem?_getD] at hsc
    cases hc : (cs.map eC)[q]? with
    | none => rw [hc] at hy; simp at hy
    | some c =>
      rw [hc] at hy hsc
      simp only [Option.map_some, Option.some.injEq] at hy
      subst hy
      exact hsc

theorem view_length (k : Nat) : ∀ (cs : List V) (j : Nat), (view k j cs).length = cs.length
  | [], _ => rfl
  | c :: cs, j => by simp [view, view_length k cs]

theorem slot_ptr {k t : Nat} {b : Bool} {cs : List V} (h : Sim T.globL U w0 F0 σ a w ow) (hs : σ.sl.getD t .dead = .ptr k none 0 0) (hb : σ.ob.getD k .none = .box b cs) : a.tmps.getD t undef = .pointer (some ⟨ow k none, 0, none⟩) := by
  have h1 := h.slots t
  rw [hs] at h1
  rcases h1 with ⟨o', cs'', _, _, e⟩ | ⟨o', z, xs, e, _⟩
  · exact e
  · rw [hb] at e; cases e

theorem retV_ok (hT : TOk P T) (h : Sim T.globL U w0 F0 σ a w ow) {rv : ResultVar} {ty : TypeId} {K : V → List (Nat × Option Nat) → Option Res} (hk : retV T σ rv ty K = some r) :
    ∃ x s u, K x s = some r ∧ (resG a.tmps rv).run P w = .ok u w ∧ ∀ s', (∀ q ∈ s, q ∈ s') → VR w (Fz U w ow (freeze σ.ob s')) u x := by
  cases rv with
  | tmp t =>
    obtain ⟨x, s, hK, hs⟩ := sealV_ok h.ho hk
    exact ⟨x, s, a.tmps.getD t undef, hK, rfl, fun s' hs' => hs s' hs' _ (h.slots t).nrm⟩
  | cell c t =>
    unfold retV at hk
    simp only at hk
    split at hk
    · rename_i k hp
      split at hk
      · rename_i b cs ss hl ht
        obtain ⟨hc, hk2⟩ := bif_some hk
        have hlen := beq_nat.1 hc
        obtain ⟨b', cs', hb', rfl⟩ := lkE_box hl
        obtain ⟨xs, s, hK, hl', hs⟩ := sealCs_ok h.ho hk2
        obtain ⟨ecs, e1, e2, e3⟩ := box_cells h hb'
        rw [List.length_map] at hlen
        rw [nrmCs_length, view_length, List.length_map] at hl'
        refine ⟨_, s, .agg ecs.toArray, hK, ?_, fun s' hs' => ⟨ecs.toArray, rfl, .st (by simp; omega) fun i v x hv hx => ?_⟩⟩
        · have := loadA_fr (w := w) (o := 0) hT ht e2 (by omega)
          simp only [resG, slot_ptr h hp hb', asAddr, Sem.run_bind, Sem.run_pure, Result.andThen_ok]
          simpa [Instr.loadAt, Instr.sureAddr] using this
        · have hv' : ecs[i]? = some v := by simpa using hv
          have hi : i < (view k 0 (cs'.map eC)).length := by
            have := (List.getElem?_eq_some_iff.1 hv').1
            rw [view_length, List.length_map]; omega
          have hy : (view k 0 (cs'.map eC))[i]? = some ((view k 0 (cs'.map eC))[i]'hi) := List.getElem?_eq_getElem hi
          have hi2 : i < (nrmCs ss (view k 0 (cs'.map eC))).length := by rw [nrmCs_length]; exact hi
          have hy2 := List.getElem?_eq_getElem hi2
          obtain ⟨c0, hc0, e0⟩ := nrmCs_get _ _ i hy2
          rw [hy] at hc0
          cases hc0
          refine (hs i x _ hx hy2).2 s' hs' v ?_
          rcases e0 with e0 | ⟨s0, e0⟩
          · rw [e0]; exact e3 i v _ hv' hy
          · rw [e0]; exact (e3 i v _ hv' hy).nrm
      · rename_i b c' s0 hl ht
        obtain ⟨b', cs', hb', he⟩ := lkE_box hl
        obtain ⟨x, s, hK, hs⟩ := sealC_ok h.ho hk
        obtain ⟨ecs, e1, e2, e3⟩ := box_cells h hb'
        rw [← he] at e3
        have hlen : ecs.length = 1 := by rw [e1, ← List.length_map (f := eC), ← he]; rfl
        match ecs, hlen with
        | [u], _ =>
          have hcell := e2 0 u rfl
          refine ⟨x, s, u, hK, ?_, fun s' hs' => ?_⟩
          · simp only [resG, slot_ptr h hp hb', asAddr, Sem.run_bind, Sem.run_pure, Result.andThen_ok]
            simp [loadVar, isAgg_false hT ht, hcell]
          · have h1 := hs.2 s' hs' u (e3 0 u _ rfl rfl)
            rw [hs.1.vr]; exact h1
      · cases hk
    · cases hk

theorem retVs_ok (hT : TOk P T) (h : Sim T.globL U w0 F0 σ a w ow) : ∀ {rs : List ResultVar} {ts : List TypeId} {K : List V → List (Nat × Option Nat) → Option Res}, retVs T σ rs ts K = some r →
    ∃ xs s us, K xs s = some r ∧ (rs.mapM (resG a.tmps)).run P w = .ok us w ∧ us.length = xs.length ∧ xs.length = rs.length ∧ ∀ s', (∀ q ∈ s, q ∈ s') → ∀ (i : Nat) u x, us[i]? = some u → xs[i]? = some x → VR w (Fz U w ow (freeze σ.ob s')) u x
  | [], ts, K, hk => ⟨[], [], [], hk, by simp, rfl, rfl, fun s' _ i u x hu => by simp at hu⟩
  | rv :: rs, ts, K, hk => by
    unfold retVs at hk
    obtain ⟨x, s, u, h1, h2, h3⟩ := retV_ok hT h hk
    obtain ⟨xs, s2, us, g1, g2, g3, g4, g5⟩ := retVs_ok hT h h1
    refine ⟨x :: xs, s ++ s2, u :: us, g1, ?_, by simp [g3], by simp [g4], fun s' hs' i u' x' hu hx => ?_⟩
    · rw [List.mapM_cons]
      simp [h2, g2]
    · cases i with
      | zero =>
        simp at hu hx
        subst hu; subst hx
        exact h3 s' fun q hq => hs' q (List.mem_append_left _ hq)
      | succ i => exact g5 s' (fun q hq => hs' q (List.mem_append_right _ hq)) i u' x' (by simpa using hu) (by simpa using hx)
end
end Go.Proofs.YtmddfhjgdhjmkaaDoor.VM
