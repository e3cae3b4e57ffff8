/- The abstract machine and the memory: calls; every quiet operation. -/
import Derived.Test.YtmddfhjgdhjmkaaDoorVMS6
set_option linter.unusedVariables false
set_option linter.unusedSimpArgs false
namespace Go.Proofs.YtmddfhjgdhjmkaaDoor.VM
open Go.RowKit

def obArg : V → Ob
  | .io cs => .box true cs
  | _ => .none
def backObs : List V → List V → List Ob
  | [], _ => []
  | .io _ :: vs, o :: os => obArg o :: backObs vs os
  | .io _ :: vs, [] => .none :: backObs vs []
  | _ :: vs, os => .none :: backObs vs os
def resObs (vs : List V) (r : Res) : List Ob := backObs vs r.2 ++ [obArg r.1]
def ownB (ob : List Ob) (ow : Own) (b : Nat) : Prop := ∃ k c, owned ob k c ∧ ow k c = b
def ArgR (w : World) (A : Nat → Prop) (ow : Own) (i : Nat) (c : Value) (x : V) : Prop :=
  match x with
  | .io _ => c = .pointer (some ⟨ow i none, 0, none⟩)
  | x => VR w A c x
def ResR (w : World) (A : Nat → Prop) (ow : Own) (n : Nat) (u : Value) (v : V) : Prop :=
  match v with
  | .io _ => u = .pointer (some ⟨ow n none, 0, none⟩)
  | .tup vs => ∃ arr, u = .tuple arr ∧ arr.size = vs.length ∧ ∀ (j : Nat) q y, arr[j]? = some q → vs[j]? = some y → VR w A q y
  | v => VR w A u v

/-- what a call of the machine says of a call of the model -/
structure CallOk (P : Program) (GL : List (Nat × V)) (call : FuncId → List V → Option Res) : Prop where
  fn : ∀ f vs r, call f vs = some r → ∃ fn c, P.funcs[f]? = some fn ∧ (fn.name == "runtime.NumGoroutine") = false ∧ fn.body = some c
  ok : ∀ f vs r, call f vs = some r → ∀ (U : Nat → Prop) (w : World) (ow : Own) (cargs : Array Value), cargs.size = vs.length →
    HO U w ow (vs.map obArg) → (∀ (i : Nat) c x, cargs[i]? = some c → vs[i]? = some x → ArgR w (Fz U w ow (vs.map obArg)) ow i c x) →
    Glb GL w (Fz U w ow (vs.map obArg)) → (∀ b, w.heap.size ≤ b → U b) →
    Calls P f cargs w fun e w' => ∃ u ow', e = .returned u ∧ (Ext w w' (ownB (vs.map obArg) ow) ∧ ∀ b n, Th w b n → Th w' b n) ∧ HO U w' ow' (resObs vs r) ∧
      (∀ (i : Nat) cs, vs[i]? = some (.io cs) → ow' i none = ow i none) ∧
      (∀ k c, owned (resObs vs r) k c → ownB (vs.map obArg) ow (ow' k c) ∨ w.heap.size ≤ ow' k c) ∧
      ResR w' (Fz U w' ow' (resObs vs r)) ow' vs.length u r.1

section
variable {P : Program} {T : TT} {U : Nat → Prop} {w0 w : World} {F0 : Fr} {σ : St} {a : Act} {ow : Own} {R : Type} {r : R}
variable {o : Oper} {d : Nat} {K : V → Ob → List (Nat × Option Nat) → Option R} {call : FuncId → List V → Option Res}

def DoneW (P : Program) (GL : List (Nat × V)) (U : Nat → Prop) (w0 : World) (F0 : Fr) (a : Act) (w : World) (o : Oper) (d : Nat) (σ' : St) : Prop :=
  ∀ (K : Act → World → Prop) (Q : Exit → Act → World → Prop), (∀ u w' ow', Sim GL U w0 F0 σ' (a.put (some d) u) w' ow' → K (a.put (some d) u) w') → o.wp P a w K Q
def GoodW (P : Program) (T : TT) (U : Nat → Prop) (w0 : World) (F0 : Fr) (σ : St) (a : Act) (w : World) (o : Oper) (d : Nat) (K : V → Ob → List (Nat × Option Nat) → Option R) (r : R) : Prop :=
  ∃ x ob s, K x ob s = some r ∧ ((ob = .none ∨ (σ.ob.getD d .none = .none ∧ F0.pn d = none)) → DoneW P T.globL U w0 F0 a w o d (putQ σ d x ob s))

theorem Good.toW (hd : o.dst = some d) (h : Good P T U w0 F0 σ a w o d K r) : GoodW P T U w0 F0 σ a w o d K r := by
  obtain ⟨x, ob, s, hK, hh⟩ := h
  refine ⟨x, ob, s, hK, fun hob K Q hk => ?_⟩
  obtain ⟨u, w', ow', hr, hs⟩ := hh hob
  unfold Oper.wp
  rw [hr, Oper.upon_value, hd]
  exact hk u w' ow' hs

theorem obArg_none {x : V} (h : ∀ cs, x ≠ .io cs) : obArg x = .none := by
  cases x <;> first | rfl | exact absurd rfl (h _)
theorem getD_none {l : List Ob} (h : ∀ o ∈ l, o = .none) (k : Nat) : l.getD k .none = .none := by
  rw [List.getD_eq_getElem?_getD]
  cases hk : l[k]? with
  | none => rfl
  | some o => simpa using h o (List.mem_of_getElem? hk)
theorem alive_none {l : List Ob} {k : Nat} {c : Option Nat} (h : l.getD k .none = .none) : ¬ alive l k c := fun ha => by
  unfold alive at ha; rw [h] at ha; cases c <;> exact ha
theorem HO.none {l : List Ob} (h : ∀ o ∈ l, o = .none) : HO U w ow l :=
  ⟨fun k => by rw [getD_none h]; trivial, fun k c k' c' ha => absurd ha (alive_none (getD_none h k)), fun k c ha => absurd ha (alive_none (getD_none h k))⟩
theorem Fz.none {l : List Ob} (h : ∀ o ∈ l, o = .none) (b : Nat) : Fz U w ow l b ↔ U b ∧ b < w.heap.size :=
  ⟨fun hb => ⟨hb.1, hb.2.1⟩, fun hb => ⟨hb.1, hb.2, fun k c ho => absurd (alive_of_owned ho) (alive_none (getD_none h k))⟩⟩

theorem VR.notIo {A : Nat → Prop} {u : Value} {x : V} (h : VR w A u x) (cs : List V) : x ≠ .io cs := by
  rintro rfl
  have h' : FR w A [u] (.io cs) := h
  cases h'

theorem backObs_none : ∀ {vs : List V} {os : List V}, (∀ x ∈ vs, ∀ cs, x ≠ .io cs) → ∀ o ∈ backObs vs os, o = .none
  | [], _, _, o, ho => by simp [backObs] at ho
  | v :: vs, os, h, o, ho => by
    have hv := h v (by simp)
    have hb : backObs (v :: vs) os = .none :: backObs vs os := by
      cases v <;> first | rfl | exact absurd rfl (hv _)
    rw [hb] at ho
    rcases List.mem_cons.1 ho with rfl | ho
    · rfl
    · exact backObs_none (fun x hx => h x (List.mem_cons_of_mem _ hx)) o ho
theorem backObs_length : ∀ (vs os : List V), (backObs vs os).length = vs.length
  | [], _ => rfl
  | v :: vs, os => by
    cases v <;> first
      | (show (Ob.none :: backObs vs os).length = _; simp [backObs_length vs os])
      | (cases os with
        | nil => show (Ob.none :: backObs vs []).length = _; simp [backObs_length vs]
        | cons q os => show (obArg q :: backObs vs os).length = _; simp [backObs_length vs os])

theorem getD_res {vs : List V} {r : Res} : (resObs vs r).getD vs.length .none = obArg r.1 := by
  unfold resObs
  rw [List.getD_eq_getElem?_getD, List.getElem?_append_right (by rw [backObs_length]; exact Nat.le_refl _), backObs_length]
  simp

theorem resR_vr {A : Nat → Prop} {n : Nat} {u : Value} {v : V} (h1 : ∀ cs, v ≠ .io cs) (h2 : ∀ ts, v ≠ .tup ts) : ResR w A ow n u v = VR w A u v := by
  cases v <;> first | rfl | exact absurd rfl (h1 _) | exact absurd rfl (h2 _)

theorem run_enter {f : FuncId} {fn : Func} {c : Code} (hf : P.funcs[f]? = some fn) (hname : (fn.name == "runtime.NumGoroutine") = false) (hb : fn.body = some c) (args : Array Value) (w : World) :
    (callFunc f args).run P w = .ok (.enter f args) w := by
  have h1 : fn.name ≠ "runtime.NumGoroutine" := by simpa using hname
  simp [callFunc, hf, h1, hb]

/-- a quiet call -/
theorem q_go (hC : CallOk P T.globL call) (h : Sim T.globL U w0 F0 σ a w ow) (hd : o.dst = some d) {f : FuncId} {args : Array Operand} {cv : Array Value} {more : List V} {ats : List TypeId}
    (hrun : (execOp a.eval o).run P w = (callFunc f (args.map a.eval ++ cv)).run P w)
    (hcl : cv.size = more.length) (hcv : ∀ (i : Nat) v x, cv[i]? = some v → more[i]? = some x → VR w (Fz U w ow σ.ob) v x)
    (hk : (bif T.loud f then none else
        sealVs (lkE σ) (nrmA T ats (args.toList.map (val T σ))) fun vs s => (call f (vs ++ more)).bind fun r =>
          match T.ty o.type with
          | .c sh => unC sh r.1 fun x => K x .none s
          | .agg ss => unSt ss.length r.1 (K (.dt r.1) .none s)
          | .p ss => unIo r.1 fun cs => unCs (.st cs) 0 ss fun cs => K (.ptr d none 0 0) (.box true cs) s
          | .tup ts => unTup ts.length r.1 fun vs => unVs vs 0 ts fun vs => K (.tup vs) .none s) = some r) : GoodW P T U w0 F0 σ a w o d K r := by
  have hk2 : sealVs (lkE σ) (nrmA T ats (args.toList.map (val T σ))) (fun vs s => (call f (vs ++ more)).bind fun r =>
          match T.ty o.type with
          | .c sh => unC sh r.1 fun x => K x .none s
          | .agg ss => unSt ss.length r.1 (K (.dt r.1) .none s)
          | .p ss => unIo r.1 fun cs => unCs (.st cs) 0 ss fun cs => K (.ptr d none 0 0) (.box true cs) s
          | .tup ts => unTup ts.length r.1 fun vs => unVs vs 0 ts fun vs => K (.tup vs) .none s) = some r := by
    cases hl : T.loud f
    · rw [hl] at hk; exact hk
    · rw [hl] at hk; cases hk
  obtain ⟨vs, s, hk3, hlen, hseal⟩ := sealVs_ok h.ho hk2
  have hlen : vs.length = args.size := by rw [nrmA_length] at hlen; simpa using hlen
  cases hcall : call f (vs ++ more) with
  | none => rw [hcall] at hk3; simp at hk3
  | some rr =>
  rw [hcall] at hk3
  simp only [Option.bind_some] at hk3
  -- the arguments
  let A := Fz U w ow (freeze σ.ob s)
  have hargs : ∀ (i : Nat) c x, (args.map a.eval ++ cv)[i]? = some c → (vs ++ more)[i]? = some x → VR w A c x := fun i c x hc hx => by
    by_cases hi : i < args.size
    · rw [Array.getElem?_append_left (by simpa using hi)] at hc
      rw [List.getElem?_append_left (by omega)] at hx
      simp only [Array.getElem?_map, Array.getElem?_eq_getElem hi, Option.map_some, Option.some.injEq] at hc
      subst hc
      have hv : (args.toList.map (val T σ))[i]? = some (val T σ args[i]) := by simp [List.getElem?_map, Array.getElem?_toList, Array.getElem?_eq_getElem hi]
      have hni : i < (nrmA T ats (args.toList.map (val T σ))).length := by rw [nrmA_length]; simpa using hi
      have hny := List.getElem?_eq_getElem hni
      obtain ⟨v0, hv0, e0⟩ := nrmA_get _ _ i hny
      rw [hv] at hv0
      cases hv0
      exact hseal i x _ hx hny s (fun _ hh => hh) _ (nrmA_sr (val_sr h _) e0)
    · rw [Array.getElem?_append_right (by simp; omega)] at hc
      rw [List.getElem?_append_right (by omega)] at hx
      simp only [Array.size_map] at hc
      rw [hlen] at hx
      exact (hcv _ c x hc hx).mono (fun _ _ => rfl) (fun _ hb => Fz.freeze hb)
  have hsz : (args.map a.eval ++ cv).size = (vs ++ more).length := by simp [hlen, hcl]
  have hnio : ∀ x ∈ vs ++ more, ∀ cs, x ≠ .io cs := fun x hx => by
    obtain ⟨i, hi, rfl⟩ := List.getElem_of_mem hx
    have := hargs i _ _ (Array.getElem?_eq_getElem (by omega)) (List.getElem?_eq_getElem hi)
    exact this.notIo
  have hnone : ∀ o ∈ (vs ++ more).map obArg, o = .none := fun o ho => by
    obtain ⟨x, hx, rfl⟩ := List.mem_map.1 ho
    exact obArg_none (hnio x hx)
  let U1 : Nat → Prop := fun b => A b ∨ w.heap.size ≤ b
  have hF1 : ∀ b, Fz U1 w ow ((vs ++ more).map obArg) b ↔ A b := fun b => by
    rw [Fz.none hnone]
    constructor
    · rintro ⟨h1 | h1, h2⟩
      · exact h1
      · omega
    · exact fun h1 => ⟨.inl h1, h1.2.1⟩
  have hcalls := hC.ok f _ rr hcall U1 w ow (args.map a.eval ++ cv) hsz (HO.none hnone)
    (fun i c x hc hx => by
      have h1 := (hargs i c x hc hx).mono (w' := w) (A' := Fz U1 w ow ((vs ++ more).map obArg)) (fun _ _ => rfl) (fun b hb => (hF1 b).2 hb)
      have h2 := hnio x (List.mem_of_getElem? hx)
      cases x <;> first | exact h1 | exact absurd rfl (h2 _))
    (h.gl.mono fun b hb => ⟨(hF1 b).2 (Fz.freeze hb), rfl⟩) (fun b hb => .inr hb)
  obtain ⟨fn, c, e1, e2, e3⟩ := hC.fn f _ rr hcall
  -- what comes back
  have fin : ∀ x ob, (∀ w' u ow', Ext w w' (fun _ => False) → HO U1 w' ow' (resObs (vs ++ more) rr) → (∀ k c, owned (resObs (vs ++ more) rr) k c → w.heap.size ≤ ow' k c) →
      ResR w' (Fz U1 w' ow' (resObs (vs ++ more) rr)) ow' (vs ++ more).length u rr.1 → ∃ ow2, Sim T.globL U w0 F0 (putQ σ d x ob s) (a.put (some d) u) w' ow2) →
      DoneW P T.globL U w0 F0 a w o d (putQ σ d x ob s) := fun x ob hh Kq Q hq => by
    unfold Oper.wp
    rw [hrun, run_enter e1 e2 e3, Oper.upon_enter]
    refine hcalls.mono ?_
    rintro e w' ⟨u, ow', rfl, ⟨hx, _⟩, hho, _, hown, hres⟩
    have hno : ∀ b, ¬ ownB ((vs ++ more).map obArg) ow b := fun b ⟨k, c, hk, _⟩ => alive_none (getD_none hnone k) (alive_of_owned hk)
    obtain ⟨ow2, hs⟩ := hh w' u ow' ⟨hx.os, hx.tape, hx.output, hx.size, fun b hb _ => hx.block b hb (hno b)⟩ hho (fun k c hkc => (hown k c hkc).resolve_left (hno _)) hres
    rw [hd]
    exact hq u w' ow2 hs
  have hA : ∀ {w' : World} {ow' : Own}, Ext w w' (fun _ => False) → ∀ b, Fz U1 w' ow' (resObs (vs ++ more) rr) b → Fz U w' ow (freeze σ.ob s) b := fun {w' ow'} hx b hb => by
    rcases hb.1 with h1 | h1
    · exact Fz.grow hx.size b h1
    · refine ⟨h.un b (Nat.le_trans h.ext.size h1), hb.2.1, fun k c hk => ?_⟩
      have := (h.ho.lt k c (alive_of_owned (owned_freeze s hk).1)).1
      omega
  have val : ∀ x, (∀ w' u (A' : Nat → Prop), (∀ ow' n, ResR w' A' ow' n u rr.1) → SR w' A' ow (freeze σ.ob s) u x) → (∀ cs, rr.1 ≠ .io cs) → DoneW P T.globL U w0 F0 a w o d (putQ σ d x .none s) := fun x hx hni =>
    fin x .none fun w' u ow' he _ _ hres => ⟨ow, ((h.freeze s).world he).put d fun _ => hx w' u _ fun ow'' n => by
      have key : ∀ {ow1 ow2 : Own} {n1 n2 : Nat} {A1 A2 : Nat → Prop}, (∀ b, A1 b → A2 b) → ResR w' A1 ow1 n1 u rr.1 → ResR w' A2 ow2 n2 u rr.1 := fun {ow1 ow2 n1 n2 A1 A2} hA h1 => by
        by_cases ht : ∃ ts, rr.1 = .tup ts
        · obtain ⟨ts, hv⟩ := ht
          rw [hv] at h1 ⊢
          obtain ⟨arr, q1, q2, q3⟩ := h1
          exact ⟨arr, q1, q2, fun j q y hq hy => (q3 j q y hq hy).mono (fun _ _ => rfl) hA⟩
        · rw [resR_vr hni (fun ts e => ht ⟨ts, e⟩)] at h1 ⊢
          exact h1.mono (fun _ _ => rfl) hA
      exact key (hA he) hres⟩
  split at hk3
  · rename_i sh hty
    obtain ⟨x, hK, hx1, hx2, hx3⟩ := unC_some hk3
    refine ⟨x, .none, s, hK, fun _ => val x (fun w' u A' hr => ?_) (fun cs e => by rw [e] at hx2; exact hx2)⟩
    rw [hx1.sr]
    refine hx3 _ _ _ ?_
    have := hr ow 0
    revert this hx2
    cases rr.1 <;> intro hx2 h1 <;> first | exact h1 | exact hx2.elim
  · rename_i ss hty
    obtain ⟨cs, hr1, hl, hK⟩ := unSt_some hk3
    refine ⟨_, .none, s, hK, fun _ => val _ (fun w' u A' hr => ?_) (fun cs' e => by rw [e] at hr1; cases hr1)⟩
    have := hr ow 0
    rw [hr1] at this ⊢
    exact this
  · rename_i ss hty
    obtain ⟨cs0, hr1, hk4⟩ := unIo_some hk3
    obtain ⟨cs, hK, hl, hcs⟩ := unCs_some hk4
    refine ⟨_, .box true cs, s, hK, fun hob => fin _ _ fun w' u ow' he hho hown hres => ?_⟩
    have hd2 : σ.ob.getD d .none = .none ∧ F0.pn d = none := by rcases hob with hd | hd; cases hd; exact hd
    have hd' := hd2.1
    rw [hr1] at hres
    have hu : u = .pointer (some ⟨ow' (vs ++ more).length none, 0, none⟩) := hres
    have hob2 : (resObs (vs ++ more) rr).getD (vs ++ more).length .none = .box true cs0 := by rw [getD_res, hr1]; rfl
    have hor := hho.obs (vs ++ more).length
    rw [hob2] at hor
    obtain ⟨hth, hcell⟩ := hor
    have hown0 : owned (resObs (vs ++ more) rr) (vs ++ more).length none := by unfold owned; rw [hob2]
    have hlen0 : cs.length ≤ cs0.length := by
      rcases Nat.eq_zero_or_pos cs.length with h0 | h0
      · omega
      · have := (hcs (cs.length - 1) _ (List.getElem?_eq_getElem (by omega))).2.1
        rw [Nat.zero_add] at this
        unfold VM.ce at this
        by_cases hq : cs.length - 1 < cs0.length
        · omega
        · simp only [List.getD_eq_getElem?_getD, List.getElem?_eq_none (by omega : cs0.length ≤ cs.length - 1), Option.getD_none] at this
          exact this.elim
    have hall : ∀ c ∈ cs, isC c := fun c hm => by
      obtain ⟨j, hj, rfl⟩ := List.getElem_of_mem hm
      exact (hcs j _ (List.getElem?_eq_getElem hj)).1
    have h1 := (h.freeze s).create (w' := w') he d (.box true cs) (fun _ => ow' (vs ++ more).length none) (freeze_none s hd') hd2.2
      (fun c hc => ⟨hown _ _ hown0, (hho.lt _ _ (alive_of_owned hown0)).1⟩)
      (fun c c' hc hc' _ => by
        have hal : ∀ q, alive ((freeze σ.ob s).set d (.box true cs)) d q → q = none := fun q hq => by
          by_cases hdl : d < (freeze σ.ob s).length
          · exact alive_box (getD_set_ob_same _ _ hdl) hall hq
          · rw [List.set_eq_of_length_le (by omega)] at hq
            exact absurd hq (alive_none (freeze_none s hd'))
        rw [hal c hc, hal c' hc'])
      (fun hA0 => ⟨by rw [upd_same]; exact fun j hj => hth j (by omega), fun j v x hv hx => by
        rw [upd_same] at hv
        obtain ⟨g1, g2, g3⟩ := hcs j x hx
        rw [Nat.zero_add] at g2 g3
        have hj : j < cs.length := (List.getElem?_eq_some_iff.1 hx).1
        have hx0 : cs0[j]? = some (cs0[j]'(by omega)) := List.getElem?_eq_getElem (by omega)
        have hb := hcell j v _ hv hx0
        have hce : VM.ce (.st cs0) j = cs0[j]'(by omega) := by unfold VM.ce; simp [List.getD_eq_getElem?_getD, hx0]
        rw [hce] at g2 g3
        rw [g2.bc] at hb
        rw [g1.bc]
        exact (g3 _ _ _ hb).mono (fun _ _ => rfl) fun b hb => by
          have hb2 := hA he b hb
          refine ⟨hb2.1, hb2.2.1, fun k c hk => ?_⟩
          by_cases hkd : k = d
          · subst hkd
            rw [upd_same]
            exact hb.2.2 _ _ hown0
          · rw [upd_other _ _ _ hkd]
            exact hb2.2.2 k c (by rw [← owned_congr (getD_set_ob_other _ _ hkd) c]; exact hk)⟩)
    refine ⟨_, h1.put d fun hlt => ?_⟩
    have hdl : d < (freeze σ.ob s).length := by rw [freeze_length, h.olen]; exact hlt
    exact .inl ⟨true, cs, getD_set_ob_same _ _ hdl, rfl, by rw [upd_same]; exact hu⟩
  · rename_i ts hty
    obtain ⟨ts0, hr1, hl, hk4⟩ := unTup_some hk3
    obtain ⟨cs, hK, hlc, hcs⟩ := unVs_some hk4
    refine ⟨_, .none, s, hK, fun _ => val _ (fun w' u A' hr => ?_) (fun cs' e => by rw [e] at hr1; cases hr1)⟩
    have h1 := hr ow 0
    rw [hr1] at h1
    obtain ⟨arr, q1, q2, q3⟩ := h1
    refine ⟨arr, q1, by omega, fun j q y hq hy => ?_⟩
    obtain ⟨g1, g2⟩ := hcs j y hy
    rw [Nat.zero_add] at g1 g2
    have hj : j < ts0.length := by have := (List.getElem?_eq_some_iff.1 hy).1; omega
    have hx0 : ts0[j]? = some (ts0[j]'hj) := List.getElem?_eq_getElem hj
    have hg : ts0.getD j .dead = ts0[j]'hj := by simp [List.getD_eq_getElem?_getD, hx0]
    rw [hg] at g2
    exact g2 _ _ _ _ _ (q3 j q _ hq hx0)

theorem exec_call {f : Operand} {args : Array Operand} {ts : Array TypeId} {g : FuncId} {cv : Array Value} (ho : o.op = .call { callee := .value f, args, argTypes := ts })
    (hf : a.eval f = .func (.func g) #[] cv) : (execOp a.eval o).run P w = (callFunc g (args.map a.eval ++ cv)).run P w := by
  simp [execOp, ho, resolve, hf, Deferred.ofValue, invoke]

theorem q_call (hC : CallOk P T.globL call) (h : Sim T.globL U w0 F0 σ a w ow) (hd : o.dst = some d) {f : Operand} {args : Array Operand} {ts : Array TypeId} (ho : o.op = .call { callee := .value f, args, argTypes := ts })
    (hk : (let go (f : FuncId) (more : List V) : Option R := bif T.loud f then none else
        sealVs (lkE σ) (nrmA T ts.toList (args.toList.map (val T σ))) fun vs s => (call f (vs ++ more)).bind fun r =>
          match T.ty o.type with
          | .c sh => unC sh r.1 fun x => K x .none s
          | .agg ss => unSt ss.length r.1 (K (.dt r.1) .none s)
          | .p ss => unIo r.1 fun cs => unCs (.st cs) 0 ss fun cs => K (.ptr d none 0 0) (.box true cs) s
          | .tup ts => unTup ts.length r.1 fun vs => unVs vs 0 ts fun vs => K (.tup vs) .none s
      match val T σ f with
      | .sc (.func (.func f) fs cv) => bif Nat.beq fs.size 0 && Nat.beq cv.size 0 then go f [] else none
      | .clo f caps => bif caps.all isRp then go f caps else none
      | _ => none) = some r) : GoodW P T U w0 F0 σ a w o d K r := by
  have hv := val_sr h f
  simp only at hk
  split at hk
  · rename_i g fs cv hf
    obtain ⟨hc, hk2⟩ := bif_some hk
    simp only [Bool.and_eq_true] at hc
    have h1 : fs = #[] := Array.eq_empty_of_size_eq_zero (beq_nat.1 hc.1)
    have h2 : cv = #[] := Array.eq_empty_of_size_eq_zero (beq_nat.1 hc.2)
    subst h1; subst h2
    exact q_go hC h hd (exec_call ho (val_sc h hf).1) rfl (fun i v x hv => by simp at hv) hk2
  · rename_i g caps hf
    obtain ⟨hc, hk2⟩ := bif_some hk
    rw [hf] at hv
    have hv' : FR w (Fz U w ow σ.ob) [a.eval f] (.clo g caps) := hv
    generalize hu : a.eval f = u at hv'
    cases hv' with
    | clo hl hh =>
      refine q_go hC h hd (exec_call ho hu) hl (fun i v x hi hx => ?_) hk2
      have h1 := hh i v x hi hx
      have h2 := List.all_eq_true.1 hc x (List.mem_of_getElem? hx)
      cases x <;> first | exact h1 | cases h2
  · cases hk

/-- EVERY QUIET OPERATION -/
theorem qv_sound (hT : TOk P T) (hC : CallOk P T.globL call) (h : Sim T.globL U w0 F0 σ a w ow) (hd : o.dst = some d)
    (hk : qv T call (val T σ) (lkE σ) d o K = some r) : GoodW P T U w0 F0 σ a w o d K r := by
  obtain ⟨dst, op, type, pos, after, guard⟩ := o
  cases op <;> first
    | (cases hk; done)
    | skip
  case move x => exact (q_move h rfl hk).toW hd
  case pick c x y => exact (q_pick h rfl hk).toW hd
  case alloc t => exact (q_alloc hT h rfl hk).toW hd
  case box t x => exact (q_box h rfl hk).toW hd
  case build t ps => exact (q_build hT h rfl hk).toW hd
  case buildSlice t n ps => exact (q_buildSlice hT h rfl hk).toW hd
  case load t p => exact (q_load hT h rfl hk).toW hd
  case nilCheck x => exact (q_nilCheck h rfl hk).toW hd
  case binOp op t x y t' => exact (aBin_ok hT h rfl hk).toW hd
  case unOp op t x => exact (aUn_ok h rfl hk).toW hd
  case convert s t x => exact (q_convert hT h rfl hk).toW hd
  case makeSlice t l c => exact (q_makeSlice hT h rfl hk).toW hd
  case slice t x lo hi mx => exact (q_slice hT h rfl hk).toW hd
  case fieldAddr t x f => exact (q_fieldAddr hT h rfl hk).toW hd
  case indexAddr t x i => exact (q_indexAddr hT h rfl hk).toW hd
  case index t x i => exact (q_index hT h rfl hk).toW hd
  case extract x i => exact (q_extract h rfl hk).toW hd
  case makeFunc f first caps =>
    cases f with
    | func f => exact (q_makeFunc h rfl hk).toW hd
    | _ => cases hk
  case call c =>
    obtain ⟨callee, args, ts⟩ := c
    cases callee with
    | value f => exact q_call hC h hd rfl hk
    | invoke r m => cases hk
    | builtin b =>
      cases b <;> first
        | (cases hk; done)
        | exact (q_len hT h rfl hk).toW hd
        | exact (q_max h rfl hk).toW hd
        | exact (q_min h rfl hk).toW hd
  case assign x =>
    have hv := val_sr h x
    have hk : (match val T σ x with | .dead => none | x => K x .none []) = some r := hk
    generalize val T σ x = y at hv hk
    have : K y .none [] = some r := by cases y <;> first | exact hk | cases hk
    exact Good.toW hd ⟨y, .none, [], this, fun _ => done_plain h (by simp [execOp]) hv⟩
end
end Go.Proofs.YtmddfhjgdhjmkaaDoor.VM
