/- The abstract machine and the memory: a drawn region. -/
import Derived.Test.YtmddfhjgdhjmkaaDoorVMS11
set_option linter.unusedVariables false
set_option linter.unusedSimpArgs false
namespace Go.Proofs.YtmddfhjgdhjmkaaDoor.VM

section
variable {P : Program} {T : TT} {U : Nat → Prop} {w0 w : World} {F0 : Fr} {a : Act} {ow : Own} {r : Res} {call : FuncId → List V → Option Res} {all : Array Oper}

structure RegOk (T : TT) (ops : List Oper) : Prop where
  on : ∀ (j : Nat) y, ops[j]? = some y → ∀ e ∈ y.after, Region.binds .any e = true → e.on < j
  ne : ∀ (i j : Nat) x y, i < j → ops[i]? = some x → ops[j]? = some y → ∀ d, x.dst = some d → y.dst ≠ some d
  ord : ∀ (i j : Nat) x y, i < j → ops[i]? = some x → ops[j]? = some y → i ∈ (befores ops).getD j [] ∨ apartB T ops x y = true

theorem regOk_ok {ops : List Oper} (h : regOk T ops = true) : RegOk T ops := by
  unfold regOk at h
  have hz : ∀ {j : Nat} {y : Oper}, ops[j]? = some y → (y, j) ∈ ops.zipIdx := fun {j y} hj => by
    rw [List.mem_zipIdx_iff_getElem?]; exact hj
  have hy : ∀ {j : Nat} {y : Oper}, ops[j]? = some y → (y.after.toList.all (fun e => !Region.binds .any e || Nat.blt e.on j) && ops.zipIdx.all fun (x, i) => !Nat.blt i j || (dstNe x y && (memN ((befores ops).getD j []) i || apartB T ops x y))) = true := fun {j y} hj => List.all_eq_true.1 h (y, j) (hz hj)
  have hp : ∀ (i j : Nat) x y, i < j → ops[i]? = some x → ops[j]? = some y → (dstNe x y && (memN ((befores ops).getD j []) i || apartB T ops x y)) = true := fun i j x y hij hi hj => by
    have h1 := hy hj
    simp only [Bool.and_eq_true] at h1
    have h2 := List.all_eq_true.1 h1.2 (x, i) (hz hi)
    have h3 : Nat.blt i j = true := by rw [Nat.blt_eq]; exact hij
    simpa [h3] using h2
  refine ⟨fun j y hj e he hb => ?_, fun i j x y hij hi hj d hd hd' => ?_, fun i j x y hij hi hj => ?_⟩
  · have h1 := hy hj
    simp only [Bool.and_eq_true] at h1
    have h2 := List.all_eq_true.1 h1.1 e (by simpa using he)
    rw [hb] at h2
    simp only [Bool.not_true, Bool.false_or] at h2
    rw [Nat.blt_eq] at h2
    exact h2
  · have h1 := hp i j x y hij hi hj
    simp only [Bool.and_eq_true] at h1
    have h2 := h1.1
    unfold dstNe at h2
    rw [hd, hd'] at h2
    simp at h2
  · have h1 := hp i j x y hij hi hj
    simp only [Bool.and_eq_true, Bool.or_eq_true] at h1
    exact h1.2.imp memN_iff.1 id

structure Inv (P : Program) (T : TT) (U : Nat → Prop) (w0 : World) (F0 : Fr) (call : FuncId → List V → Option Res) (all : Array Oper) (K : St → Option Res) (r : Res) (listed : Array Bool) (a : Act) (w : World)
    (b : Nat) (σ : St) (E : List Eff) (ow : Own) : Prop where
  size : listed.size = all.size
  pre : ∀ i, i < b → listed.getD i false = true
  len : b + E.length ≤ all.size
  tr : TrQ T call all.toList (all.toList.drop b) σ E
  rest : Rest T call all.toList ((all.toList.drop b).drop E.length) (stM E (fun _ => true) σ) (E.flatMap Eff.s) K r
  post : ∀ i, b + E.length ≤ i → listed.getD i false = false
  closed : ∀ j, listed.getD j false = true → ∀ i ∈ (befores all.toList).getD j [], listed.getD i false = true
  sim : Sim T.globL U w0 F0 (σF (stM E (fun i => listed.getD (b + i) false) σ) (E.flatMap Eff.s)) a w ow

theorem getD_listed {listed : Array Bool} {i j : Nat} (h : i < listed.size) : (listed.setIfInBounds i true).getD j false = (listed.getD j false || j == i) := by
  simp only [Array.getD_eq_getD_getElem?, Array.getElem?_setIfInBounds]
  by_cases hij : i = j
  · subst hij; simp [h]
  · rw [if_neg hij]
    have : (j == i) = false := by simp; omega
    simp [this]
theorem getD_tf {listed : Array Bool} {i : Nat} (h : i < listed.size) : listed.getD i true = listed.getD i false := by
  simp [Array.getD_eq_getD_getElem?, Array.getElem?_eq_getElem h]

/-- all are listed, or one is ready -/
theorem ready_or (hr : RegOk T all.toList) {listed : Array Bool} (hs : listed.size = all.size) (h : Region.ready .any all listed = []) : ∀ i, i < all.size → listed.getD i false = true := by
  intro i
  induction i using Nat.strongRecOn with
  | ind i ih =>
    intro hi
    cases hl : listed.getD i false with
    | true => rfl
    | false =>
      exfalso
      have : i ∈ Region.ready .any all listed := by
        rw [mem_ready]
        refine ⟨by rw [getD_tf (by omega)]; exact hl, all[i], Array.getElem?_eq_getElem hi, fun e he hb => ?_⟩
        have h1 := hr.on i all[i] (by rw [Array.getElem?_toList]; exact Array.getElem?_eq_getElem hi) e he hb
        exact ih _ h1 (by omega)
      rw [h] at this
      cases this

theorem Inv.done {K : St → Option Res} {Q : Exit → Act → World → Prop} {listed : Array Bool} {b : Nat} {σ : St} {E : List Eff} (h : Inv P T U w0 F0 call all K r listed a w b σ E ow)
    (hl : ∀ i, i < all.size → listed.getD i false = true) (hQ : ∀ σ' a' w' ow', K σ' = some r → Sim T.globL U w0 F0 σ' a' w' ow' → Q .normal a' w') : Q .normal a w := by
  have he : b + E.length = all.size := by
    rcases Nat.lt_or_ge (b + E.length) all.size with h1 | h1
    · have := h.post _ (Nat.le_refl _)
      rw [hl _ h1] at this; cases this
    · have := h.len; omega
  have hd : (all.toList.drop b).drop E.length = [] := by
    rw [List.drop_drop, List.drop_eq_nil_iff]; simp; omega
  have hr := h.rest
  rw [hd] at hr
  have hs := h.sim
  have : stM E (fun i => listed.getD (b + i) false) σ = stM E (fun _ => true) σ := stM_congr E fun i hi => hl _ (by omega)
  rw [this] at hs
  exact hQ _ _ _ _ hr hs

def unl (listed : Array Bool) (n : Nat) : Nat := (List.range n).countP fun i => !listed.getD i false
theorem unl_set {listed : Array Bool} {n i : Nat} (hi : i < n) (hs : i < listed.size) (hl : listed.getD i false = false) : unl (listed.setIfInBounds i true) n + 1 = unl listed n := by
  unfold unl
  induction n with
  | zero => omega
  | succ n ih =>
    rw [List.range_succ, List.countP_append, List.countP_append]
    simp only [List.countP_cons, List.countP_nil, Nat.zero_add]
    by_cases hin : i = n
    · subst hin
      rw [getD_listed hs, hl]
      have : (List.range i).countP (fun q => !(listed.setIfInBounds i true).getD q false) = (List.range i).countP (fun q => !listed.getD q false) := by
        refine List.countP_congr fun q hq => ?_
        have hq : q < i := by simpa using hq
        rw [getD_listed hs]
        have : (q == i) = false := by simp; omega
        rw [this, Bool.or_false]
      rw [this]
      simp
    · have := ih (by omega)
      rw [getD_listed hs]
      have h2 : (n == i) = false := by simp; omega
      rw [h2, Bool.or_false]
      omega

theorem loud_apart {x y : Oper} {ops : List Oper} (h : isQuiet T x = false ∨ isQuiet T y = false) : apartB T ops x y = false := by
  cases hab : apartB T ops x y with
  | false => rfl
  | true =>
    obtain ⟨_, _, _, _, _, _, _, h1, h2⟩ := apartB_spec hab
    rcases h with h | h
    · rw [h1] at h; cases h
    · rw [h2] at h; cases h

/-- A DRAWN REGION -/
theorem drawn_any (hT : TOk P T) (hC : CallOk P T.globL call) (hL : LoudOk P T call) (hr : RegOk T all.toList) (hpn : ∀ o ∈ all.toList, ∀ d, o.dst = some d → F0.pn d = none) {K : St → Option Res} {Q : Exit → Act → World → Prop}
    (hQ : ∀ σ' a' w' ow', K σ' = some r → Sim T.globL U w0 F0 σ' a' w' ow' → Q .normal a' w') :
    ∀ (fuel : Nat) (listed : Array Bool) (a : Act) (w : World) (b : Nat) (σ : St) (E : List Eff) (ow : Own), unl listed all.size ≤ fuel → Inv P T U w0 F0 call all K r listed a w b σ E ow → wpAny P .any all Q fuel listed a w
  | 0, listed, a, w, b, σ, E, ow, hf, h => by
    have hall : ∀ i, i < all.size → listed.getD i false = true := fun i hi => by
      have h0 : unl listed all.size = 0 := by omega
      unfold unl at h0
      have := List.countP_eq_zero.1 h0 i (by simpa using hi)
      simpa using this
    refine ⟨?_, h.done hall hQ⟩
    cases hrd : Region.ready .any all listed with
    | nil => rfl
    | cons i l =>
      have hi : i ∈ Region.ready .any all listed := by rw [hrd]; simp
      obtain ⟨h1, o, ho, _⟩ := mem_ready.1 hi
      have hlt : i < all.size := (Array.getElem?_eq_some_iff.1 ho).1
      rw [getD_tf (by rw [h.size]; exact hlt), hall i hlt] at h1
      cases h1
  | fuel + 1, listed, a, w, b, σ, E, ow, hf, h => by
    refine ⟨fun hrd => h.done (ready_or hr h.size hrd) hQ, fun i hi => ?_⟩
    obtain ⟨h1, o, ho, hafter⟩ := mem_ready.1 hi
    have hlt : i < all.size := (Array.getElem?_eq_some_iff.1 ho).1
    rw [getD_tf (by rw [h.size]; exact hlt)] at h1
    have hoL : all.toList[i]? = some o := by rw [Array.getElem?_toList]; exact ho
    have hls : i < listed.size := by rw [h.size]; exact hlt
    -- what stands before it is listed
    have hbef : ∀ q ∈ (befores all.toList).getD i [], listed.getD q false = true := fun q hq => by
      obtain ⟨e, he, hb, hqe⟩ := befores_spec hoL hq
      have := hafter e he hb
      rcases hqe with rfl | hqe
      · exact this
      · exact h.closed _ this q hqe
    have hcl : ∀ j, (listed.setIfInBounds i true).getD j false = true → ∀ q ∈ (befores all.toList).getD j [], (listed.setIfInBounds i true).getD q false = true := fun j hj q hq => by
      rw [getD_listed hls] at hj ⊢
      rw [Bool.or_eq_true] at hj ⊢
      refine .inl ?_
      rcases hj with hj | hj
      · exact h.closed j hj q hq
      · have : j = i := by simpa using hj
        subst this
        exact hbef q hq
    have hib : b ≤ i := by
      rcases Nat.lt_or_ge i b with hh | hh
      · have := h.pre i hh; rw [h1] at this; cases this
      · exact hh
    have hfuel : unl (listed.setIfInBounds i true) all.size ≤ fuel := by have := unl_set hlt hls h1; omega
    have hE : ∀ (j : Nat) e, E[j]? = some e → ∃ o, all.toList[b + j]? = some o ∧ EfOk T call all.toList (stM E (fun i => decide (i < j)) σ) o e := fun j e hj => by
      obtain ⟨o', h1, h2⟩ := TrQ.at _ _ _ h.tr j e hj
      exact ⟨o', by rw [List.getElem?_drop] at h1; exact h1, h2⟩
    unfold wpOp
    rw [ho]
    simp only
    rcases Nat.lt_or_ge i (b + E.length) with hin | hin
    · -- a quiet one
      obtain ⟨j, rfl⟩ : ∃ j, i = b + j := ⟨i - b, by omega⟩
      have hj : j < E.length := by omega
      have hje : E[j]? = some E[j] := List.getElem?_eq_getElem hj
      have hnd : (E.map Eff.d).Nodup := by
        rw [List.nodup_iff_pairwise_ne, List.pairwise_iff_getElem]
        intro q q' h1 h2 hlt' he
        simp only [List.length_map] at h1 h2
        simp only [List.getElem_map] at he
        obtain ⟨x, hx, hxd, _⟩ := hE q _ (List.getElem?_eq_getElem h1)
        obtain ⟨y, hy, hyd, _⟩ := hE q' _ (List.getElem?_eq_getElem h2)
        exact hr.ne _ _ x y (by omega) hx hy _ hxd (by rw [hyd, he])
      have hstep := quiet_step (P := P) (T := T) (U := U) (w0 := w0) (w := w) (F0 := F0) (a := a) (ow := ow) hT hC hE hnd hje hoL (D := fun q => listed.getD (b + q) false) h1 (fun q e' hq hne hqj => by
        obtain ⟨x, hx, hxd, _⟩ := hE q e' hq
        rcases Nat.lt_or_ge q j with hlt' | hge
        · rcases hr.ord (b + q) (b + j) x o (by omega) hx hoL with hb | hb
          · exfalso
            refine hne ?_
            show listed.getD (b + q) false = _
            rw [hbef _ hb]; simp [hlt']
          · obtain ⟨dx, dy, q1, q2, _, _, q3, _⟩ := apartB_spec hb
            rw [hxd] at q1; cases q1
            exact q3
        · rcases hr.ord (b + j) (b + q) o x (by omega) hoL hx with hb | hb
          · exfalso
            refine hne ?_
            show listed.getD (b + q) false = _
            have hnl : decide (q < j) = false := by simp; omega
            rw [hnl]
            cases hlq : listed.getD (b + q) false with
            | false => rfl
            | true =>
              have := h.closed _ hlq _ hb
              rw [h1] at this; cases this
          · obtain ⟨dx, dy, q1, q2, _, q3, _, _⟩ := apartB_spec hb
            rw [hxd] at q2; cases q2
            exact q3) h.sim (hpn o (List.mem_of_getElem? hoL))
      have hmask : stM E (fun q => listed.getD (b + q) false || q == j) σ = stM E (fun q => (listed.setIfInBounds (b + j) true).getD (b + q) false) σ := stM_congr E fun q _ => by
        rw [getD_listed hls]
        have : (b + q == b + j) = (q == j) := by rw [Bool.eq_iff_iff, beq_iff_eq, beq_iff_eq]; omega
        rw [this]
      rw [hmask] at hstep
      have hinv : ∀ {a' w' ow'}, Sim T.globL U w0 F0 (σF (stM E (fun q => (listed.setIfInBounds (b + j) true).getD (b + q) false) σ) (E.flatMap Eff.s)) a' w' ow' → Inv P T U w0 F0 call all K r (listed.setIfInBounds (b + j) true) a' w' b σ E ow' := fun hs =>
        ⟨by simpa using h.size, fun q hq => by rw [getD_listed hls, h.pre q hq]; rfl, h.len, h.tr, h.rest, fun q hq => by
          rw [getD_listed hls, h.post q hq]
          simp; omega, hcl, hs⟩
      rcases hstep with ⟨hw, hd⟩ | ⟨hw, hs⟩
      · rw [if_pos hw]
        exact .inl (hd _ _ fun a' w' ow' hs => drawn_any hT hC hL hr hpn hQ fuel _ a' w' b σ E ow' hfuel (hinv hs))
      · rw [if_neg (by rw [hw]; simp)]
        exact drawn_any hT hC hL hr hpn hQ fuel _ _ w b σ E ow hfuel (hinv hs)
    · -- a loud one
      have hll : b + E.length < all.size := by omega
      have hhead : all.toList[b + E.length]? = some (all[b + E.length]'hll) := by rw [Array.getElem?_toList]; exact Array.getElem?_eq_getElem hll
      have hdrop : (all.toList.drop b).drop E.length = (all[b + E.length]'hll) :: all.toList.drop (b + E.length + 1) := by
        rw [List.drop_drop, List.drop_eq_getElem_cons (by simpa using hll)]
        simp
      have hrest := h.rest
      rw [hdrop] at hrest
      obtain ⟨hq, hwb, hk⟩ := hrest
      have hil : i = b + E.length := by
        rcases Nat.lt_or_ge (b + E.length) i with hh | hh
        · exfalso
          rcases hr.ord _ _ _ _ hh hhead hoL with hb | hb
          · have := hbef _ hb
            rw [h.post _ (Nat.le_refl _)] at this; cases this
          · rw [loud_apart (.inl hq)] at hb; cases hb
        · omega
      subst hil
      have hoe : o = all[b + E.length]'hll := by rw [hhead] at hoL; cases hoL; rfl
      have hfull : stM E (fun q => listed.getD (b + q) false) σ = stM E (fun _ => true) σ := stM_congr E fun q hq' => by
        obtain ⟨x, hx, _⟩ := hE q _ (List.getElem?_eq_getElem hq')
        rcases hr.ord (b + q) (b + E.length) x _ (by omega) hx hhead with hb | hb
        · exact hbef _ hb
        · rw [loud_apart (.inr hq)] at hb; cases hb
      have hsim := h.sim
      rw [hfull] at hsim
      rw [← hoe] at hq hwb hk
      obtain ⟨σ', hK, hdone⟩ := hL _ _ _ _ _ _ _ _ _ _ hsim (hpn o (List.mem_of_getElem? hoL)) hk
      obtain ⟨E', hlen, htr, hrest'⟩ := seg_split _ _ _ hK
      rw [if_pos (wanted_of hsim hwb)]
      refine .inl (hdone _ _ fun a' w' ow' hs => drawn_any hT hC hL hr hpn hQ fuel _ a' w' (b + E.length + 1) σ' E' ow' hfuel ?_)
      have hlate : ∀ q, b + E.length < q → listed.getD q false = false := fun q hq' => by
        cases hlq : listed.getD q false with
        | false => rfl
        | true =>
          rw [h.post q (by omega)] at hlq; cases hlq
      refine ⟨by simpa using h.size, fun q hq' => ?_, ?_, htr, by simpa using hrest', fun q hq' => ?_, hcl, ?_⟩
      · rw [getD_listed hls]
        rcases Nat.lt_or_ge q b with h2 | h2
        · rw [h.pre q h2]; rfl
        · rcases Nat.lt_or_ge q (b + E.length) with h3 | h3
          · obtain ⟨qq, rfl⟩ : ∃ qq, q = b + qq := ⟨q - b, by omega⟩
            obtain ⟨x, hx, _⟩ := hE qq _ (List.getElem?_eq_getElem (by omega))
            rcases hr.ord (b + qq) (b + E.length) x o (by omega) hx hoL with hb | hb
            · rw [hbef _ hb]; rfl
            · rw [loud_apart (.inr hq)] at hb; cases hb
          · have : q = b + E.length := by omega
            subst this
            simp
      · simp only [List.length_drop, Array.length_toList] at hlen
        omega
      · rw [getD_listed hls, hlate q (by omega)]
        simp; omega
      · rw [stM_none E' (fun q => by rw [getD_listed hls, hlate _ (by omega)]; simp; omega)]
        exact hs.freeze _
end
end Go.Proofs.YtmddfhjgdhjmkaaDoor.VM
