/- The abstract machine and the memory: calls of functions, to any depth. -/
import Derived.Test.YtmddfhjgdhjmkaaDoorVMS15
set_option linter.unusedVariables false
set_option linter.unusedSimpArgs false
namespace Go.Proofs.YtmddfhjgdhjmkaaDoor.VM

section
variable {P : Program} {T : TT} {U : Nat → Prop} {w0 w : World} {F0 : Fr} {σ : St} {a : Act} {ow : Own} {r : Res}

/-- some of the objects: the others are no more -/
theorem HO.part {ob L : List Ob} (h : HO U w ow ob) (hL : ∀ k, L.getD k .none = ob.getD k .none ∨ L.getD k .none = .none) :
    HO U w ow L ∧ (∀ k c, owned L k c → owned ob k c) := by
  have hal : ∀ k c, alive L k c → alive ob k c := fun k c ha => by
    rcases hL k with e | e
    · rw [← alive_congr e c]; exact ha
    · exact absurd ha (alive_none e)
  have how : ∀ k c, owned L k c → owned ob k c := fun k c ha => by
    rcases hL k with e | e
    · rw [← owned_congr e c]; exact ha
    · exact absurd (alive_of_owned ha) (alive_none e)
  refine ⟨⟨fun k => ?_, fun k c k' c' h1 h2 e => h.inj k c k' c' (hal _ _ h1) (hal _ _ h2) e, fun k c h1 => h.lt k c (hal _ _ h1)⟩, how⟩
  rcases hL k with e | e
  · rw [e]
    exact (h.obs k).keep (fun b hb => ⟨⟨hb.1, hb.2.1, fun k c hk => hb.2.2 k c (how k c hk)⟩, rfl⟩) (fun _ => ⟨rfl, rfl⟩) (fun _ _ _ _ _ _ _ _ => ⟨rfl, rfl⟩)
  · rw [e]; trivial

/-- what is handed back -/
structure Back (P : Program) (U : Nat → Prop) (w : World) (ow : Own) (fn : Func) (tmps : Array Value) (vs : List V) (ob : List Ob) (r : Res) : Prop where
  out : ∃ u ow2, (results fn tmps).run P w = .ok u w ∧ HO U w ow2 (resObs vs r) ∧ (∀ (i : Nat) cs, vs[i]? = some (.io cs) → ow2 i none = ow i none ∧ ob.getD i .none ≠ .none) ∧
    (∀ k c, owned (resObs vs r) k c → ∃ k' c', owned ob k' c' ∧ ow k' c' = ow2 k c) ∧ ResR w (Fz U w ow2 (resObs vs r)) ow2 vs.length u r.1

theorem MatchA.le : ∀ {ts : List TypeId} {vs : List V}, MatchA T ts vs → ts.length ≤ vs.length
  | [], _, _ => Nat.zero_le _
  | _ :: _, _ :: _, h => Nat.succ_le_succ (MatchA.le h.2)
  | _ :: _, [], h => h.elim
theorem MatchA.io : ∀ {ts : List TypeId} {vs : List V}, MatchA T ts vs → ∀ (i : Nat) cs, vs[i]? = some (.io cs) → i < ts.length
  | [], vs, h, i, cs, hi => by
    obtain ⟨x, j, e⟩ := h _ (List.mem_of_getElem? hi)
    cases e
  | t :: ts, v :: vs, h, i, cs, hi => by
    cases i with
    | zero => simp
    | succ i => have := MatchA.io h.2 i cs (by simpa using hi); simp only [List.length_cons]; omega
  | _ :: _, [], h, _, _, _ => h.elim

theorem MatchA.ioP : ∀ {ts : List TypeId} {vs : List V}, MatchA T ts vs → ∀ (i : Nat) cs, vs[i]? = some (.io cs) → isP T ts i = true
  | [], vs, h, i, cs, hi => by
    obtain ⟨x, j, e⟩ := h _ (List.mem_of_getElem? hi)
    cases e
  | t :: ts, v :: vs, h, i, cs, hi => by
    cases i with
    | zero =>
      simp at hi
      rcases h.1 with ⟨ss, cs', e1, _⟩ | ⟨_, h2⟩
      · unfold isP; simp [e1]
      · exact absurd hi (h2 cs)
    | succ i =>
      have := MatchA.ioP h.2 i cs (by simpa using hi)
      unfold isP at this ⊢
      simpa using this
  | _ :: _, [], h, _, _, _ => h.elim

theorem outs_alive {ob : List Ob} : ∀ (ts : List TypeId) (args : List V) (i : Nat) {K : List V → Option Res}, MatchA T ts args → outs T ob ts i K = some r → ∀ (j : Nat) cs, args[j]? = some (.io cs) → ob.getD (i + j) .none ≠ .none
  | [], caps, i, K, hm, h, j, cs, hj => by
    obtain ⟨y, q, e⟩ := hm _ (List.mem_of_getElem? hj); cases e
  | t :: ts, a :: args, i, K, hm, h, j, cs, hj => by
    obtain ⟨hm1, hm2⟩ := hm
    unfold outs at h
    rcases hm1 with ⟨ss, cs, hty, rfl⟩ | ⟨hty, hni⟩
    · rw [hty] at h
      simp only at h
      split at h
      · rename_i cs' hb
        cases j with
        | zero => rw [Nat.add_zero, hb]; simp
        | succ j =>
          have := outs_alive ts args (i + 1) hm2 h j _ (by simpa using hj)
          rw [show i + 1 + j = i + (j + 1) by omega] at this
          exact this
      · cases h
    · have h' : outs T ob ts (i + 1) K = some r := by
        split at h
        · rename_i ss e; exact absurd e (hty ss)
        · exact h
      cases j with
      | zero => simp at hj; exact absurd hj (hni cs)
      | succ j =>
        have := outs_alive ts args (i + 1) hm2 h' j cs (by simpa using hj)
        rw [show i + 1 + j = i + (j + 1) by omega] at this
        exact this
  | t :: ts, [], i, K, hm, h, _, _, _ => hm.elim

theorem kret_ok (hT : TOk P T) {fn : Func} {vs : List V} (hm : MatchA T fn.params.toList vs) (h : Sim T.globL U w0 F0 σ a w ow) {e : Ex} (hk : kret T fn e σ = some r) : ∃ s, Back P U w ow fn a.tmps vs (freeze σ.ob s) r := by
  have hlen := hm.le
  have low : ∀ (v : V) (os : List V) (j : Nat), j < vs.length → (resObs vs (v, os)).getD j .none = (backObs vs os).getD j .none := fun v os j hj => by
    unfold resObs
    rw [List.getD_eq_getElem?_getD, List.getD_eq_getElem?_getD, List.getElem?_append_left (by rw [backObs_length]; exact hj)]
  have high : ∀ (v : V) (os : List V) (j : Nat), vs.length < j → (resObs vs (v, os)).getD j .none = .none := fun v os j hj => by
    rw [List.getD_eq_getElem?_getD, List.getElem?_eq_none]
    · rfl
    · unfold resObs; simp only [List.length_append, backObs_length, List.length_cons, List.length_nil]; omega
  -- plain results
  have plain : (retVs T σ fn.results.toList fn.resultTypes.toList fun xs s => outs T (freeze σ.ob s) fn.params.toList 0 fun os => some ((match xs with | [v] => v | xs => .tup xs), os)) = some r → ∃ s, Back P U w ow fn a.tmps vs (freeze σ.ob s) r := fun hp => by
    obtain ⟨xs, s, us, h1, h2, h3, h4, h5⟩ := retVs_ok hT h hp
    have hal := outs_alive _ vs 0 hm h1
    obtain ⟨os, hK, hos⟩ := outs_ok _ vs 0 hm h1
    simp only [Option.some.injEq] at hK
    subst hK
    have hrun : (fn.results.mapM (resG a.tmps)).run P w = .ok us.toArray w := by
      rw [Array.mapM_eq_mapM_toList]; simp [h2]
    have hV := h5 s (fun _ hq => hq)
    have hnio : ∀ cs, (match xs with | [v] => v | xs => V.tup xs) ≠ .io cs := fun cs => by
      match xs, us, h3 with
      | [v], [u], _ =>
        have := hV 0 u v rfl rfl
        exact this.notIo cs
      | [], _, _ => simp
      | _ :: _ :: _, _, _ => simp
    have hob : ∀ k, (resObs vs ((match xs with | [v] => v | xs => V.tup xs), os)).getD k .none = ((freeze σ.ob s).map unOb).getD k .none ∨ (resObs vs ((match xs with | [v] => v | xs => V.tup xs), os)).getD k .none = .none := fun k => by
      rcases Nat.lt_trichotomy k vs.length with hk | hk | hk
      · rw [low _ _ _ hk, hos k]
        split
        · rw [Nat.zero_add, getD_un]; exact .inl rfl
        · exact .inr rfl
      · subst hk
        rw [getD_res]
        exact .inr (obArg_none hnio)
      · exact .inr (high _ _ _ hk)
    obtain ⟨hho, how'⟩ := (h.freeze s).ho.un.part hob
    have how : ∀ k c, owned (resObs vs ((match xs with | [v] => v | xs => V.tup xs), os)) k c → owned (freeze σ.ob s) k c := fun k c hk => (owned_un _ k c).1 (how' k c hk)
    refine ⟨s, ⟨if hs : us.toArray.size = 1 then us.toArray[0] else .tuple us.toArray, ow, ?_, hho, fun i cs hi => ⟨rfl, by have := hal i cs hi; rwa [Nat.zero_add] at this⟩, fun k c hk => ⟨k, c, how k c hk, rfl⟩, ?_⟩⟩
    · rw [results_eq]
      simp [hrun]
    · have hA : ∀ b, Fz U w ow (freeze σ.ob s) b → Fz U w ow (resObs vs ((match xs with | [v] => v | xs => V.tup xs), os)) b := fun b hb => ⟨hb.1, hb.2.1, fun k c hk => hb.2.2 k c (how k c hk)⟩
      match xs, us, h3, hV, hnio, hA with
      | [v], [u], _, hV, hnio, hA =>
        have h6 := (hV 0 u v rfl rfl).mono (w' := w) (fun _ _ => rfl) hA
        by_cases ht : ∃ ts, v = .tup ts
        · obtain ⟨ts, rfl⟩ := ht
          have h7 : FR w (Fz U w ow (freeze σ.ob s)) [u] (.tup ts) := hV 0 u _ rfl rfl
          cases h7
        · show ResR w _ ow vs.length u v
          rw [resR_vr hnio (fun ts e => ht ⟨ts, e⟩)]
          exact h6
      | [], [], _, _, _, _ => exact ⟨#[], rfl, rfl, fun j q y hq => by simp at hq⟩
      | x1 :: x2 :: xs, u1 :: u2 :: us, h3, hV, _, hA =>
        refine ⟨(u1 :: u2 :: us).toArray, ?_, by simpa using h3, fun j q y hq hy => (hV j q y (by simpa using hq) hy).mono (fun _ _ => rfl) hA⟩
        rw [dif_neg (by simp)]
  have boxed : ∀ t k, fn.results.toList = [.tmp t] → σ.sl.getD t .dead = .ptr k none 0 0 → (bif Nat.ble fn.params.size k then match σ.ob.getD k .none with
        | .box true cs => sealCs (lkE σ) (view k 0 (cs.map eC)) fun cs s => match (freeze σ.ob s).getD k .none with
          | .box true _ => outs T (freeze σ.ob s) fn.params.toList 0 fun os => some (.io cs, os)
          | _ => none
        | _ => none else none) = some r → ∃ s, Back P U w ow fn a.tmps vs (freeze σ.ob s) r := fun t k hres hsl hk => by
    obtain ⟨hle, hk1⟩ := bif_some hk
    have hle := Nat.le_of_ble_eq_true hle
    split at hk1
    · rename_i cs hb
      obtain ⟨xs, s, hk2, hl, hs⟩ := sealCs_ok h.ho hk1
      split at hk2
      · rename_i cs2 hfz
        have hal := outs_alive _ vs 0 hm hk2
        obtain ⟨os, hK, hos⟩ := outs_ok _ vs 0 hm hk2
        simp only [Option.some.injEq] at hK
        subst hK
        obtain ⟨ecs, e1, e2, e3⟩ := box_cells h hb
        rw [view_length, List.length_map] at hl
        have hallC : ∀ c ∈ xs, isC c := fun c hc => by
          obtain ⟨j, hj, rfl⟩ := List.getElem_of_mem hc
          have hi : j < (view k 0 (cs.map eC)).length := by rw [view_length, List.length_map]; omega
          exact (hs j _ _ (List.getElem?_eq_getElem hj) (List.getElem?_eq_getElem hi)).1
        have h2ho := (h.freeze s).ho.un
        have hfz' : ((freeze σ.ob s).map unOb).getD k .none = .box true (cs2.map unO) := by rw [getD_un, hfz]; rfl
        have hlow : ∀ j, j < vs.length → (resObs vs (.io xs, os)).getD j .none = ((freeze σ.ob s).map unOb).getD j .none ∧ j < fn.params.size ∨ (resObs vs (.io xs, os)).getD j .none = .none := fun j hj => by
          rw [low _ _ _ hj, hos j]
          split
          · rename_i cs' hj'
            rw [Nat.zero_add, getD_un]
            exact .inl ⟨rfl, by simpa using hm.io j cs' hj'⟩
          · exact .inr rfl
        have hn : (resObs vs (.io xs, os)).getD vs.length .none = .box true xs := getD_res
        let ow2 : Own := upd ow vs.length fun _ => ow k none
        -- where an object of the result was
        have hwas : ∀ j c, alive (resObs vs (.io xs, os)) j c → (j < vs.length ∧ j < fn.params.size ∧ (resObs vs (.io xs, os)).getD j .none = ((freeze σ.ob s).map unOb).getD j .none ∧ ow2 j c = ow j c) ∨ (j = vs.length ∧ c = none ∧ ow2 j c = ow k none) := fun j c ha => by
          rcases Nat.lt_trichotomy j vs.length with hj | hj | hj
          · rcases hlow j hj with ⟨e, hp⟩ | e
            · exact .inl ⟨hj, hp, e, upd_other _ _ _ (by omega)⟩
            · exact absurd ha (alive_none e)
          · subst hj
            exact .inr ⟨rfl, alive_box hn hallC ha, upd_same _ _ _ _⟩
          · exact absurd ha (alive_none (high _ _ _ hj))
        have hkal : alive ((freeze σ.ob s).map unOb) k none := by unfold alive; rw [hfz']; trivial
        have hkow : owned (freeze σ.ob s) k none := by unfold owned; rw [hfz]
        have howned : ∀ j c, owned (resObs vs (.io xs, os)) j c → ∃ k' c', owned (freeze σ.ob s) k' c' ∧ ow k' c' = ow2 j c := fun j c ho => by
          rcases hwas j c (alive_of_owned ho) with ⟨_, _, e, e2⟩ | ⟨_, rfl, e2⟩
          · exact ⟨j, c, (owned_un _ j c).1 (by rw [← owned_congr e c]; exact ho), e2.symm⟩
          · exact ⟨k, none, hkow, e2.symm⟩
        have hA : ∀ b, Fz U w ow (freeze σ.ob s) b → Fz U w ow2 (resObs vs (.io xs, os)) b := fun b hb => ⟨hb.1, hb.2.1, fun j c ho => by
          obtain ⟨k', c', g1, g2⟩ := howned j c ho
          rw [← g2]; exact hb.2.2 k' c' g1⟩
        refine ⟨s, ⟨a.tmps.getD t undef, ow2, ?_, ⟨fun j => ?_, fun j c j' c' h1 h3 he => ?_, fun j c h1 => ?_⟩, fun i cs' hi => ⟨upd_other _ _ _ (by have := (List.getElem?_eq_some_iff.1 hi).1; omega), by have := hal i cs' hi; rwa [Nat.zero_add] at this⟩, howned, ?_⟩⟩
        · have : fn.results = #[.tmp t] := by
            have := congrArg List.toArray hres
            simpa using this
          exact results_tmp this a.tmps P w
        · rcases Nat.lt_trichotomy j vs.length with hj | hj | hj
          · rcases hlow j hj with ⟨e, _⟩ | e
            · rw [e]
              have := h2ho.obs j
              exact this.keep (fun b hb => ⟨hA b ((Fz.un _ b).1 hb), rfl⟩) (fun _ => ⟨upd_other _ _ _ (by omega), rfl⟩) (fun _ _ _ _ _ _ _ _ => ⟨upd_other _ _ _ (by omega), rfl⟩)
            · rw [e]; trivial
          · subst hj
            rw [hn]
            have hor := h.ho.obs k
            rw [hb] at hor
            refine ⟨by rw [show ow2 vs.length none = ow k none from upd_same _ _ _ _, hl]; exact hor.1, fun q v x hv hx => ?_⟩
            rw [show ow2 vs.length none = ow k none from upd_same _ _ _ _] at hv
            have hq : q < xs.length := (List.getElem?_eq_some_iff.1 hx).1
            have hqe : q < ecs.length := by omega
            have hec := e2 q _ (List.getElem?_eq_getElem hqe)
            rw [Nat.zero_add] at hec
            rw [hec] at hv
            cases hv
            have hi : q < (view k 0 (cs.map eC)).length := by rw [view_length, List.length_map]; omega
            obtain ⟨g1, g2⟩ := hs q x _ hx (List.getElem?_eq_getElem hi)
            rw [g1.bc]
            exact (g2 s (fun _ hq => hq) _ (e3 q _ _ (List.getElem?_eq_getElem hqe) (List.getElem?_eq_getElem hi))).mono (fun _ _ => rfl) hA
          · rw [high _ _ _ hj]; trivial
        · rcases hwas j c h1 with ⟨a1, a2, a3, a4⟩ | ⟨a1, a2, a4⟩ <;> rcases hwas j' c' h3 with ⟨b1, b2, b3, b4⟩ | ⟨b1, b2, b4⟩
          · rw [a4, b4] at he
            exact h2ho.inj j c j' c' (by rw [← alive_congr a3 c]; exact h1) (by rw [← alive_congr b3 c']; exact h3) he
          · rw [a4, b4] at he
            have := (h2ho.inj j c k none (by rw [← alive_congr a3 c]; exact h1) hkal he).1
            omega
          · rw [a4, b4] at he
            have := (h2ho.inj k none j' c' hkal (by rw [← alive_congr b3 c']; exact h3) he).1
            omega
          · exact ⟨by omega, by rw [a2, b2]⟩
        · rcases hwas j c h1 with ⟨a1, a2, a3, a4⟩ | ⟨a1, a2, a4⟩
          · rw [a4]; exact h2ho.lt j c (by rw [← alive_congr a3 c]; exact h1)
          · rw [a4]; exact h2ho.lt k none hkal
        · show a.tmps.getD t undef = .pointer (some ⟨ow2 vs.length none, 0, none⟩)
          rw [show ow2 vs.length none = ow k none from upd_same _ _ _ _]
          exact slot_ptr h hsl hb
      · cases hk2
    · cases hk1
  have main : (let fin (v : V) (s : List (Nat × Option Nat)) : Option Res := outs T (freeze σ.ob s) fn.params.toList 0 fun os => some (v, os)
    let plain : Option Res := retVs T σ fn.results.toList fn.resultTypes.toList fun vs s => fin (match vs with | [v] => v | vs => .tup vs) s
    match fn.results.toList with
    | [.tmp t] => match σ.sl.getD t .dead with
      | .ptr k none 0 0 => bif Nat.ble fn.params.size k then match σ.ob.getD k .none with
        | .box true cs => sealCs (lkE σ) (view k 0 (cs.map eC)) fun cs s => match (freeze σ.ob s).getD k .none with
          | .box true _ => fin (.io cs) s
          | _ => none
        | _ => none else none
      | _ => plain
    | _ => plain) = some r := by cases e <;> first | exact hk | cases hk
  simp only at main
  split at main
  · rename_i t hres
    split at main
    · rename_i k hsl
      exact boxed t k hres hsl main
    · exact plain main
  · exact plain main

theorem HO.congr {ob L : List Ob} (h : HO U w ow ob) (hL : ∀ k, L.getD k .none = ob.getD k .none) : HO U w ow L := (h.part fun k => .inl (hL k)).1
theorem Fz.congr {ob L : List Ob} (hL : ∀ k, L.getD k .none = ob.getD k .none) (b : Nat) : Fz U w ow L b ↔ Fz U w ow ob b :=
  ⟨fun hb => ⟨hb.1, hb.2.1, fun k c hk => hb.2.2 k c (by rw [owned_congr (hL k) c]; exact hk)⟩, fun hb => ⟨hb.1, hb.2.1, fun k c hk => hb.2.2 k c (by rw [← owned_congr (hL k) c]; exact hk)⟩⟩

/-- A FUNCTION -/
theorem runF_ok (hT : TOk P T) {E : Env} (hE : EnvOk P T E) : CallOk P T.globL (runF T E) where
  fn := fun f vs r h => by
    unfold runF at h
    split at h
    · rename_i fn hf
      split at h
      · rename_i c hb
        exact ⟨fn, c, (hT.fn f fn hf).1, (hT.fn f fn hf).2, hb⟩
      · cases h
    · cases h
  ok := fun f vs r h U w ow cargs hsz hho harg hgl hun => by
    unfold runF at h
    split at h
    · rename_i fn hf
      split at h
      · rename_i c hb
        obtain ⟨hdst, h1⟩ := bif_some h
        obtain ⟨sl, ob, hk, hl1, hl2, hle, hm, hslot, hdead, hob⟩ := init_ok _ vs 0 h1
        refine calls_of_wp (hT.fn f fn hf).1 hb ?_
        have hobF := Fz.congr (U := U) (w := w) (ow := ow) hob
        let F0 : Fr := ⟨ownB (vs.map obArg) ow, fun i => if isP T fn.params.toList i = true then some (ow i none) else none⟩
        have hsim : Sim T.globL U w F0 ⟨sl, ob⟩ { tmps := cargs ++ Array.replicate (fn.ntmps - cargs.size) undef, defers := [] } w ow := by
          refine ⟨by simp only [Array.size_append, Array.size_replicate]; omega, by show ob.length = sl.length; omega, fun i => ?_, hho.congr hob, .refl _ _, fun k c hk => ?_, hun, fun b ⟨k, c, hk, hb⟩ => by rw [← hb]; exact (hho.lt k c (alive_of_owned hk)).2, rfl, hgl.mono fun b hb => ⟨(hobF b).2 hb, rfl⟩, fun k b hk => .inr ?_, fun _ _ ht => ht⟩
          · by_cases hi : i < vs.length
            · have hc : cargs[i]? = some (cargs[i]'(by omega)) := Array.getElem?_eq_getElem (by omega)
              have hv : vs[i]? = some vs[i] := List.getElem?_eq_getElem hi
              have hx : sl[i]? = some (sl[i]'(by omega)) := List.getElem?_eq_getElem (by omega)
              have ha := harg i _ _ hc hv
              have hs := hslot i _ _ hv hx
              rw [Nat.zero_add] at hs
              have e1 : (cargs ++ Array.replicate (fn.ntmps - cargs.size) undef).getD i undef = cargs[i]'(by omega) := by
                rw [Array.getD_eq_getD_getElem?, Array.getElem?_append_left (by omega), hc]; rfl
              have e2 : sl.getD i .dead = sl[i]'(by omega) := by rw [List.getD_eq_getElem?_getD, hx]; rfl
              show SR w (Fz U w ow ob) ow ob ((cargs ++ Array.replicate (fn.ntmps - cargs.size) undef).getD i undef) (sl.getD i .dead)
              rw [e1, e2]
              rcases hs with ⟨hni, hs⟩ | ⟨cs, he, hx'⟩
              · have ha' : VR w (Fz U w ow (vs.map obArg)) (cargs[i]'(by omega)) vs[i] := by
                  revert ha hni
                  generalize vs[i] = y
                  intro ha hni
                  cases y <;> first | exact ha | exact absurd rfl (hni _)
                exact hs _ _ _ _ _ (ha'.mono (fun _ _ => rfl) fun b hb => (hobF b).2 hb)
              · rw [hx']
                rw [he] at ha
                refine .inl ⟨true, cs, ?_, rfl, ha⟩
                rw [hob i, List.getD_eq_getElem?_getD, List.getElem?_map, hv, he]
                rfl
            · show SR w (Fz U w ow ob) ow ob _ (sl.getD i .dead)
              rw [hdead i (by omega)]
              trivial
          · exact .inl ⟨k, c, by rw [← owned_congr (hob k) c]; exact hk, rfl⟩
          · show ow k none = b
            have hk : (if isP T fn.params.toList k = true then some (ow k none) else none) = some b := hk
            split at hk
            · cases hk; rfl
            · cases hk
        refine exC_ok (F0 := F0) hT hE c (fun o ho d hd => ?_) ⟨sl, ob⟩ _ w ow (kret T fn) _ hk hsim fun e σ' a' w' ow' hk' h' => ?_
        · have := List.all_eq_true.1 hdst o ho
          unfold dstGe at this
          rw [hd] at this
          exact if_neg (by simpa using this)
        · obtain ⟨s, ⟨u, ow2, g1, g2, g3, g4, g5⟩⟩ := kret_ok (P := P) hT hm h' hk'
          have hR : a'.defers = [] ∧ ∃ v, (results fn a'.tmps).run P w' = .ok v w' ∧ ∃ u ow', Ending.returned v = .returned u ∧ (Ext w w' (ownB (vs.map obArg) ow) ∧ ∀ b n, Th w b n → Th w' b n) ∧ HO U w' ow' (resObs vs r) ∧
              (∀ (i : Nat) cs, vs[i]? = some (.io cs) → ow' i none = ow i none) ∧
              (∀ k c, owned (resObs vs r) k c → ownB (vs.map obArg) ow (ow' k c) ∨ w.heap.size ≤ ow' k c) ∧
              ResR w' (Fz U w' ow' (resObs vs r)) ow' vs.length u r.1 := by
            refine ⟨h'.defers, u, g1, u, ow2, rfl, ⟨h'.ext, h'.thk⟩, g2, fun i cs hi => ?_, fun k c hk => ?_, g5⟩
            · obtain ⟨e1, e2⟩ := g3 i cs hi
              have hip : isP T fn.params.toList i = true := hm.ioP i cs hi
              have := h'.pin i (ow i none) (by show (if isP T fn.params.toList i = true then some (ow i none) else none) = _; rw [if_pos hip])
              rw [e1]
              refine this.resolve_left fun hn => e2 ?_
              rw [getD_freeze, hn, frzK_none]
            · obtain ⟨k', c', q1, q2⟩ := g4 k c hk
              rw [← q2]
              exact h'.own0 k' c' (owned_freeze s q1).1
          cases e with
          | normal => exact hR
          | ret => exact hR
          | exit id => cases hk'
      · cases h
    · cases h

/-! ### to any depth -/
theorem least {p : Nat → Prop} (h : ∃ n, p n) : ∃ n, p n ∧ ∀ m, m < n → ¬ p m := by
  classical
  obtain ⟨n, hn⟩ := h
  induction n using Nat.strongRecOn with
  | ind n ih =>
    by_cases hm : ∃ m, m < n ∧ p m
    · obtain ⟨m, h1, h2⟩ := hm
      exact ih m h1 h2
    · exact ⟨n, hn, fun m hlt hp => hm ⟨m, hlt, hp⟩⟩
noncomputable def lst (p : Nat → Prop) : Nat := by
  classical
  exact if h : ∃ n, p n then Classical.choose (least h) else 0
theorem lst_spec {p : Nat → Prop} (h : ∃ n, p n) : p (lst p) ∧ ∀ m, p m → lst p ≤ m := by
  unfold lst
  rw [dif_pos h]
  obtain ⟨h1, h2⟩ := Classical.choose_spec (least h)
  exact ⟨h1, fun m hm => Nat.not_lt.1 fun hlt => h2 m hlt hm⟩
theorem exE_ok (hT : TOk P T) (hL : ∀ call, CallOk P T.globL call → LoudOk P T call) : ∀ n, EnvOk P T (exE T n)
  | 0 => by
    have hc : CallOk P T.globL (exE T 0).call := ⟨fun f vs r h => (by cases h), fun f vs r h => (by cases h)⟩
    exact ⟨hc, hL _ hc, fun kp b σ K r h => (by cases h)⟩
  | n + 1 => by
    have ih := exE_ok hT hL n
    have hc : CallOk P T.globL (exE T (n + 1)).call := runF_ok hT ih
    refine ⟨hc, hL _ hc, fun kp b σ K r hk U w0 F0 a w ow Q hpn h hQ => ?_⟩
    -- rounds: so many as are left
    let Left : Act → World → Nat → Prop := fun a w m => m ≤ n + 1 ∧ ∃ σ ow, (exE T m).loop kp b σ K = some r ∧ Sim T.globL U w0 F0 σ a w ow
    refine wp_loop (fun a w => ∃ m, Left a w m) (fun a w => lst (Left a w)) ⟨n + 1, Nat.le_refl _, σ, ow, hk, h⟩ fun a w hI => ?_
    obtain ⟨⟨hle, σ1, ow1, hk1, h1⟩, _⟩ := lst_spec hI
    generalize hm : lst (Left a w) = m at hle hk1
    cases m with
    | zero => cases hk1
    | succ m =>
      have hk2 : exC T (exE T m) kp b σ1 (fun e σ => match e with
        | .normal => (exE T m).loop kp b (lpClean kp b σ) K
        | e => K e σ) = some r := hk1
      have hEm : EnvOk P T (exE T m) := exE_ok hT hL m
      refine exC_ok hT hEm b hpn σ1 a w ow1 _ _ hk2 h1 fun e σ' a' w' ow' hk' h' => ?_
      cases e with
      | normal =>
        have hI' : Left a' w' m := ⟨by omega, _, ow', hk', h'.lpClean kp b⟩
        refine ⟨⟨m, hI'⟩, ?_⟩
        exact Nat.lt_succ_of_le ((lst_spec ⟨m, hI'⟩).2 m hI')
      | exit id => exact hQ (.exit id) σ' a' w' ow' hk' h'
      | ret => exact hQ .ret σ' a' w' ow' hk' h'
termination_by n => n
decreasing_by all_goals omega
end
end Go.Proofs.YtmddfhjgdhjmkaaDoor.VM
