/- The abstract machine and the memory: every loud operation; the whole. -/
import Derived.Test.YtmddfhjgdhjmkaaDoorVMS23
set_option linter.unusedVariables false
set_option linter.unusedSimpArgs false
namespace Go.Proofs.YtmddfhjgdhjmkaaDoor.VM

section
variable {P : Program} {T : TT} {U : Nat → Prop} {w0 w w' : World} {F0 : Fr} {σ σ' : St} {a : Act} {ow ow' : Own} {o : Oper} {r : Res} {call : FuncId → List V → Option Res}

theorem res_ni {A : Nat → Prop} {n : Nat} {u : Value} {v c : V} (hc : isC v) (h : ResR w A ow n u v) (hv : v = c) : FR w A [u] c := by
  subst hv
  cases v <;> first | exact h | exact hc.elim

theorem io_call {ats : List TypeId} (hT : TOk P T) (hC : CallOk P T.globL call) (h : Sim T.globL U w0 F0 σ a w ow) {d : Nat} (hd : o.dst = some d) {f : FuncId} {args : Array Operand}
    (hrun : (execOp a.eval o).run P w = (callFunc f (args.map a.eval)).run P w) {K : St → Option Res}
    (hk : (ioSeal (lkE σ) (nrmA T ats (args.toList.map (val T σ))) fun as s => ioFill (freeze σ.ob s) as fun vs q => bif nodup q then
        (call f vs).bind fun r => ioBack ⟨σ.sl, freeze σ.ob s⟩ q r.2 fun σ => match T.ty o.type with
          | .c sh => unC sh r.1 fun x => K ⟨σ.sl.set d x, σ.ob⟩
          | .agg ss => unSt ss.length r.1 (K ⟨σ.sl.set d (.dt r.1), σ.ob⟩)
          | .tup ts => unTup ts.length r.1 fun vs => unVs vs 0 ts fun vs => K ⟨σ.sl.set d (.tup vs), σ.ob⟩
          | .p _ => none
        else none) = some r) : ∃ σ', K σ' = some r ∧ DoneO P T.globL U w0 F0 a w o σ' := by
  obtain ⟨as, s, hk1, hl1, hs1⟩ := ioSeal_ok h.ho hk
  obtain ⟨vs, hk2, hl2, hs2⟩ := ioFill_ok hk1
  obtain ⟨hnd0, hk3⟩ := bif_some hk2
  have hnd := nodup_iff hnd0
  cases hcall : call f vs with
  | none => rw [hcall] at hk3; simp at hk3
  | some rr =>
  rw [hcall] at hk3
  simp only [Option.bind_some] at hk3
  obtain ⟨σ2, hk4, b1, b2, b3, b4, b5, b6⟩ := ioBack_ok (σ := ⟨σ.sl, freeze σ.ob s⟩) hnd hk3
  have h1 := h.freeze s
  have hl1 : as.length = args.size := by rw [nrmA_length] at hl1; simpa using hl1
  -- each argument
  have harg : ∀ i (hi : i < args.size), (∃ k cs, as[i]? = some (.ptr k none 0 0) ∧ (freeze σ.ob s).getD k .none = .box true cs ∧ vs[i]? = some (.io (cs.map unO)) ∧ a.eval args[i] = .pointer (some ⟨ow k none, 0, none⟩)) ∨
      ∃ x, as[i]? = some x ∧ ptrKey x = none ∧ vs[i]? = some x ∧ VR w (Fz U w ow (freeze σ.ob s)) (a.eval args[i]) x := fun i hi => by
    have ha : as[i]? = some (as[i]'(by omega)) := List.getElem?_eq_getElem (by omega)
    have hv0 : (args.toList.map (val T σ))[i]? = some (val T σ args[i]) := by simp [List.getElem?_map, Array.getElem?_toList, Array.getElem?_eq_getElem hi]
    have hni : i < (nrmA T ats (args.toList.map (val T σ))).length := by rw [nrmA_length]; simpa using hi
    have hv := List.getElem?_eq_getElem hni
    obtain ⟨v0, hv1, e0⟩ := nrmA_get _ _ i hv
    rw [hv0] at hv1
    cases hv1
    have hsr0 : SR w (Fz U w ow (freeze σ.ob s)) ow (freeze σ.ob s) (a.eval args[i]) (nrmA T ats (args.toList.map (val T σ)))[i] := nrmA_sr (v := val T σ args[i]) (val_sr h1 args[i]) e0
    have hsr1 : SR w (Fz U w ow σ.ob) ow σ.ob (a.eval args[i]) (nrmA T ats (args.toList.map (val T σ)))[i] := nrmA_sr (val_sr h args[i]) e0
    rcases hs2 i _ ha with ⟨k, cs, e, hb, hvs⟩ | ⟨hp, hvs⟩
    · rw [e] at ha
      rcases hs1 i _ _ ha hv with ⟨k', e1, e2⟩ | hs
      · cases e1
        refine .inl ⟨k, cs, ha, hb, hvs, ?_⟩
        have hsr := hsr0
        rw [e2] at hsr
        exact ptr_box hsr hb
      · have hbad : FR w (Fz U w ow (freeze σ.ob s)) [a.eval args[i]] (.ptr k none 0 0) := hs s (fun _ h => h) _ hsr1
        have hno : ∀ (A : Nat → Prop) u, FR w A [u] (.ptr k none 0 0) → False := fun A u h => by cases h
        exact (hno _ _ hbad).elim
    · rcases hs1 i _ _ ha hv with ⟨k', e1, e2⟩ | hs
      · rw [e1] at hp; cases hp
      · exact .inr ⟨_, ha, hp, hvs, hs s (fun _ h => h) _ hsr1⟩
  have hvl : vs.length = args.size := by omega
  have hback := fun os => back_fnd (as := as) (vs := vs) (os := os) hnd hl2 (fun i x hx => by
    have hi : i < args.size := by have := (List.getElem?_eq_some_iff.1 hx).1; omega
    rcases harg i hi with ⟨k, cs, e1, _, e3, _⟩ | ⟨y, e1, e2, e3, e4⟩
    · rw [hx] at e1; cases e1; exact .inl ⟨k, _, rfl, e3⟩
    · rw [hx] at e1; cases e1; exact .inr ⟨e2, e3, e4.notIo⟩)
  have hkey : ∀ (i : Nat) k, (as[i]?).bind ptrKey = some k → ∃ (hi : i < args.size) (cs : List V), (freeze σ.ob s).getD k .none = .box true cs ∧ vs[i]? = some (.io (cs.map unO)) ∧ a.eval args[i] = .pointer (some ⟨ow k none, 0, none⟩) := fun i k hik => by
    obtain ⟨x, hx, hxk⟩ := Option.bind_eq_some_iff.1 hik
    have hi : i < args.size := by have := (List.getElem?_eq_some_iff.1 hx).1; omega
    rcases harg i hi with ⟨k', cs, e1, e2, e3, e4⟩ | ⟨y, e1, e2, e3, e4⟩
    · rw [hx] at e1; cases e1; cases hxk
      exact ⟨hi, cs, e2, e3, e4⟩
    · rw [hx] at e1; cases e1; rw [e2] at hxk; cases hxk
  have hobA : ∀ i, (vs.map obArg).getD i .none = match (as[i]?).bind ptrKey with | some k => unOb ((freeze σ.ob s).getD k .none) | none => .none := fun i => by
    rw [List.getD_eq_getElem?_getD, List.getElem?_map]
    cases hik : (as[i]?).bind ptrKey with
    | some k =>
      obtain ⟨hi, cs, e2, e3, _⟩ := hkey i k hik
      rw [e3]
      show obArg (.io (cs.map unO)) = unOb ((freeze σ.ob s).getD k .none)
      rw [e2]; rfl
    | none =>
      by_cases hi : i < args.size
      · rcases harg i hi with ⟨k', cs, e1, _⟩ | ⟨y, e1, e2, e3, e4⟩
        · rw [e1] at hik; cases hik
        · rw [e3]; exact obArg_none e4.notIo
      · rw [List.getElem?_eq_none (by omega)]; rfl
  have hU := h1.ho.un
  let owA : Own := fun i c => ow (((as[i]?).bind ptrKey).getD 0) c
  let U1 : Nat → Prop := fun b => Fz U w ow (freeze σ.ob s) b ∨ ownB (vs.map obArg) owA b ∨ w.heap.size ≤ b
  have hal : ∀ i c, alive (vs.map obArg) i c → ∃ k, (as[i]?).bind ptrKey = some k ∧ alive ((freeze σ.ob s).map unOb) k c ∧ owA i c = ow k c := fun i c ha => by
    have e := hobA i
    cases hik : (as[i]?).bind ptrKey with
    | none => rw [hik] at e; exact absurd ha (alive_none e)
    | some k =>
      have e : (vs.map obArg).getD i .none = unOb ((freeze σ.ob s).getD k .none) := by rw [hik] at e; exact e
      refine ⟨k, rfl, by rw [alive_one, getD_un, ← e, ← alive_one]; exact ha, ?_⟩
      show ow (((as[i]?).bind ptrKey).getD 0) c = _
      rw [hik]; rfl
  have how : ∀ i c, owned (vs.map obArg) i c → ∃ k, owned (freeze σ.ob s) k c ∧ owA i c = ow k c := fun i c ho => by
    obtain ⟨k, hik, _, e2⟩ := hal i c (alive_of_owned ho)
    have e := hobA i
    have e : (vs.map obArg).getD i .none = unOb ((freeze σ.ob s).getD k .none) := by rw [hik] at e; exact e
    exact ⟨k, by rw [← owned_un, owned_one, getD_un, ← e, ← owned_one]; exact ho, e2⟩
  have hFA : ∀ b, Fz U w ow (freeze σ.ob s) b → Fz U1 w owA (vs.map obArg) b := fun b hb => ⟨.inl hb, hb.2.1, fun i c ho e => by
    obtain ⟨k, h2, h3⟩ := how i c ho
    exact hb.2.2 k c h2 (h3.symm.trans e)⟩
  have hHO : HO U1 w owA (vs.map obArg) := by
    refine ⟨fun i => ?_, fun i c i' c' g1 g2 e => ?_, fun i c g1 => ?_⟩
    · have e := hobA i
      cases hik : (as[i]?).bind ptrKey with
      | none => rw [hik] at e; rw [e]; trivial
      | some k =>
        rw [hik] at e
        rw [e]
        have hob := hU.obs k
        rw [getD_un] at hob
        exact (hob.grow (fun b hb => hFA b ((Fz.un _ b).1 hb))).rename (fun c => by show ow (((as[i]?).bind ptrKey).getD 0) c = _; rw [hik]; rfl)
    · obtain ⟨k, k1, k2, k3⟩ := hal i c g1
      obtain ⟨k', k1', k2', k3'⟩ := hal i' c' g2
      obtain ⟨e1, e2⟩ := hU.inj k c k' c' k2 k2' (by rw [← k3, ← k3']; exact e)
      subst e1
      exact ⟨key_inj hnd k1 k1', e2⟩
    · obtain ⟨k, k1, k2, k3⟩ := hal i c g1
      rw [k3]
      refine ⟨(hU.lt k c k2).1, ?_⟩
      -- all that goes in may be written
      have ho : owned (vs.map obArg) i c := by
        obtain ⟨hi, cs, e2, e3, _⟩ := hkey i k k1
        have eo : (vs.map obArg).getD i .none = .box true (cs.map unO) := by rw [List.getD_eq_getElem?_getD, List.getElem?_map, e3]; rfl
        unfold alive at g1
        unfold owned
        rw [eo] at g1 ⊢
        cases c with
        | none => rfl
        | some c =>
          obtain ⟨o0, z, xs, hc⟩ := g1
          rw [List.getElem?_map] at hc
          obtain ⟨y, hy, hu⟩ := Option.map_eq_some_iff.1 hc
          obtain ⟨_, rfl⟩ := unO_own hu
          exact ⟨z, xs, by rw [List.getElem?_map, hy, ← hu]; rfl⟩
      exact .inr (.inl ⟨i, c, ho, k3⟩)
  have hcalls := hC.ok f vs rr hcall U1 w owA (args.map a.eval) (by simp [hvl]) hHO (fun i c x hc hx => by
      have hi : i < args.size := by have := (List.getElem?_eq_some_iff.1 hx).1; omega
      simp only [Array.getElem?_map, Array.getElem?_eq_getElem hi, Option.map_some, Option.some.injEq] at hc
      subst hc
      rcases harg i hi with ⟨k', cs, e1, e2, e3, e4⟩ | ⟨y, e1, e2, e3, e4⟩
      · rw [hx] at e3; cases e3
        show _ = _
        rw [e4]
        show _ = Value.pointer (some ⟨ow (((as[i]?).bind ptrKey).getD 0) none, 0, none⟩)
        rw [e1]; rfl
      · rw [hx] at e3; cases e3
        have e5 := e4.mono (w' := w) (fun _ _ => rfl) hFA
        have e6 := e4.notIo
        cases x <;> first | exact e5 | exact absurd rfl (e6 _))
    (h1.gl.mono fun b hb => ⟨hFA b hb, rfl⟩) (fun b hb => .inr (.inr hb))
  obtain ⟨fn, c, q1, q2, q3⟩ := hC.fn f _ rr hcall
  -- what the operation leaves
  have fin : ∀ x, (∀ w' u (A' : Nat → Prop) ow', (∀ ow'' n, ResR w' A' ow'' n u rr.1) → SR w' A' ow' σ2.ob u x) → (∀ cs, rr.1 ≠ .io cs) → DoneO P T.globL U w0 F0 a w o ⟨σ2.sl.set d x, σ2.ob⟩ := fun x hx hni Kq Q hq => by
    unfold Oper.wp
    rw [hrun, run_enter q1 q2 q3, Oper.upon_enter]
    refine hcalls.mono ?_
    rintro e w' ⟨u, ow', rfl, ⟨hx1, hTh⟩, hho, hpin, hown, hres⟩
    have hLi : ∀ (i : Nat) k, (as[i]?).bind ptrKey = some k → (resObs vs rr).getD i .none = σ2.ob.getD k .none ∧ ∃ b old cs, (freeze σ.ob s).getD k .none = .box b old ∧ σ2.ob.getD k .none = .box true cs ∧ cs.length = old.length ∧ ∀ c ∈ cs, ∀ z xs, c ≠ .own false z xs := fun i k hik => by
      obtain ⟨x, hx, hxk⟩ := Option.bind_eq_some_iff.1 hik
      have hm : k ∈ as.filterMap ptrKey := List.mem_filterMap.2 ⟨x, List.mem_of_getElem? hx, hxk⟩
      have hi : i < vs.length := by have := (List.getElem?_eq_some_iff.1 hx).1; omega
      obtain ⟨b, old, cs, g1, g2, g3, g4⟩ := b6 k hm
      have g5 := b5 k
      rw [g2] at g5
      have g5 : σ2.ob.getD k .none = .box true cs := g5
      refine ⟨?_, b, old, cs, g1, g5, g3, g4⟩
      have := hback rr.2 i
      rw [hik] at this
      have this : (backObs vs rr.2).getD i .none = (match fnd ((as.filterMap ptrKey).zip rr.2) k with | some x => obArg x | none => .none) := this
      rw [g2] at this
      unfold resObs
      rw [List.getD_eq_getElem?_getD, List.getElem?_append_left (by rw [backObs_length]; exact hi), ← List.getD_eq_getElem?_getD, this, g5]
      rfl
    obtain ⟨ow2, hsim, hF⟩ := io_sim (σ2 := σ2) (u := u) h1 hnd hobA (fun i k hik => by obtain ⟨_, cs, _, e3, _⟩ := hkey i k hik; exact ⟨_, e3⟩) hx1 hTh hho hpin hown hLi b1 b2 b3
      (fun i q hq k c b old hk hb hc => (b4 i q hq).2 k c b old hk hb hc) (fun k hk => by rw [b5 k, fnd_zip_none hk])
    rw [hd]
    refine hq _ _ ow2 (hsim.put d fun _ => hx w' u _ ow2 fun ow'' n => ?_)
    by_cases ht : ∃ ts, rr.1 = .tup ts
    · obtain ⟨ts, hv⟩ := ht
      rw [hv] at hres ⊢
      obtain ⟨arr, p1, p2, p3⟩ := hres
      exact ⟨arr, p1, p2, fun j q y hq hy => (p3 j q y hq hy).mono (fun _ _ => rfl) hF⟩
    · rw [resR_vr hni (fun ts e => ht ⟨ts, e⟩)] at hres ⊢
      exact hres.mono (fun _ _ => rfl) hF
  split at hk4
  · rename_i sh hty
    obtain ⟨x, hK, hx1, hx2, hx3⟩ := unC_some hk4
    refine ⟨_, hK, fin x (fun w' u A' ow' hr => ?_) (fun cs e => by rw [e] at hx2; exact hx2)⟩
    rw [hx1.sr]
    exact hx3 _ _ _ (res_ni hx2 (hr ow' 0) rfl)
  · rename_i ss hty
    obtain ⟨cs, hr1, hl, hK⟩ := unSt_some hk4
    refine ⟨_, hK, fin _ (fun w' u A' ow' hr => ?_) (fun cs' e => by rw [e] at hr1; cases hr1)⟩
    have := hr ow' 0
    rw [hr1] at this ⊢
    exact this
  · rename_i ts hty
    obtain ⟨ts0, hr1, hl, hk5⟩ := unTup_some hk4
    obtain ⟨cs, hK, hlc, hcs⟩ := unVs_some hk5
    refine ⟨_, hK, fin _ (fun w' u A' ow' hr => ?_) (fun cs' e => by rw [e] at hr1; cases hr1)⟩
    have h1 := hr ow' 0
    rw [hr1] at h1
    obtain ⟨arr, p1, p2, p3⟩ := h1
    refine ⟨arr, p1, by omega, fun j q y hq hy => ?_⟩
    obtain ⟨g1, g2⟩ := hcs j y hy
    rw [Nat.zero_add] at g1 g2
    have hj : j < ts0.length := by have := (List.getElem?_eq_some_iff.1 hy).1; omega
    have hx0 : ts0[j]? = some (ts0[j]'hj) := List.getElem?_eq_getElem hj
    have hg : ts0.getD j .dead = ts0[j]'hj := by simp [List.getD_eq_getElem?_getD, hx0]
    rw [hg] at g2
    exact g2 _ _ _ _ _ (p3 j q _ hq hx0)
  · cases hk4

def LoudOk0 (P : Program) (T : TT) (call : FuncId → List V → Option Res) : Prop :=
  ∀ (U : Nat → Prop) (w0 : World) (F0 : Fr) (σ : St) (a : Act) (w : World) (ow : Own) (o : Oper) (K : St → Option Res) (r : Res), Sim T.globL U w0 F0 σ a w ow → (∀ d, o.dst = some d → F0.pn d = none) → exLoud0 T call σ o K = some r →
    ∃ σ', K σ' = some r ∧ DoneO P T.globL U w0 F0 a w o σ'
/-- EVERY LOUD OPERATION -/
theorem loud_ok0 (hT : TOk P T) (hC : CallOk P T.globL call) : LoudOk0 P T call := fun U w0 F0 σ a w ow o K r h hpn hk => by
  obtain ⟨dst, op, type, pos, after, guard⟩ := o
  cases op <;> first
    | (cases dst <;> cases hk; done)
    | skip
  case store t p q =>
    cases dst with
    | none => exact sto_ok hT h rfl rfl hk
    | some d => cases hk
  case call c =>
    cases dst with
    | none => obtain ⟨callee, args, ts⟩ := c; cases callee <;> first | cases hk; done | (rename_i b; cases b <;> cases hk)
    | some d =>
      obtain ⟨callee, args, ts⟩ := c
      cases callee with
      | invoke rc m => cases hk
      | builtin b =>
        cases b <;> first | cases hk; done | skip
        simp only [exLoud0] at hk
        split at hk
        · rename_i s x t t' ha ht
          have ha' : args = #[s, x] := by cases args; simpa using ha
          have ht' : ts = #[t, t'] := by cases ts; simpa using ht
          subst ha'; subst ht'
          split at hk
          · rename_i e z hel
            obtain ⟨hb, hk2⟩ := bif_some hk
            cases beq_nat.1 hb
            split at hk2
            · rename_i by_ zs hes hze
              exact app_ok hT h rfl (hpn d rfl) hel hes hze rfl hk2
            · cases hk2
          · cases hk
        · cases hk
      | value f =>
        simp only [exLoud0] at hk
        split at hk
        · rename_i g fs cv hf
          obtain ⟨hc, hk2⟩ := bif_some hk
          simp only [Bool.and_eq_true] at hc
          have e1 : fs = #[] := Array.eq_empty_of_size_eq_zero (beq_nat.1 hc.1)
          have e2 : cv = #[] := Array.eq_empty_of_size_eq_zero (beq_nat.1 hc.2)
          subst e1; subst e2
          exact io_call hT hC h rfl (by have := exec_call (P := P) (w := w) (a := a) (o := ⟨some d, .call { callee := .value f, args, argTypes := ts }, type, pos, after, guard⟩) rfl (val_sc h hf).1; simpa using this) hk2
        · cases hk

end
end Go.Proofs.YtmddfhjgdhjmkaaDoor.VM
