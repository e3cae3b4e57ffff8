/- The abstract machine, part MB. -/
import Derived.Test.YtmddfhjgdhjmkaaDoorMA
/- The abstract machine and the memory: calls; every quiet operation. -/
set_option linter.unusedVariables false
set_option linter.unusedSimpArgs false
namespace Go.Proofs.YtmddfhjgdhjmkaaDoor.VM
open Go.RowKit

def obArg : V → Ob
  | .io cs => .box true cs
  | _ => .none
def backObs : List V → List V → List Ob
  | [], _ => []
  | .io _ :: vs, o :: os => obArg o :: backObs vs os
  | .io _ :: vs, [] => .none :: backObs vs []
  | _ :: vs, os => .none :: backObs vs os
def resObs (vs : List V) (r : Res) : List Ob := backObs vs r.2 ++ [obArg r.1]
def ownB (ob : List Ob) (ow : Own) (b : Nat) : Prop := ∃ k c, owned ob k c ∧ ow k c = b
def ArgR (w : World) (A : Nat → Prop) (ow : Own) (i : Nat) (c : Value) (x : V) : Prop :=
  match x with
  | .io _ => c = .pointer (some ⟨ow i none, 0, none⟩)
  | x => VR w A c x
def ResR (w : World) (A : Nat → Prop) (ow : Own) (n : Nat) (u : Value) (v : V) : Prop :=
  match v with
  | .io _ => u = .pointer (some ⟨ow n none, 0, none⟩)
  | .tup vs => ∃ arr, u = .tuple arr ∧ arr.size = vs.length ∧ ∀ (j : Nat) q y, arr[j]? = some q → vs[j]? = some y → VR w A q y
  | v => VR w A u v

/-- what a call of the machine says of a call of the model -/
structure CallOk (P : Program) (GL : List (Nat × V)) (call : FuncId → List V → Option Res) : Prop where
  fn : ∀ f vs r, call f vs = some r → ∃ fn c, P.funcs[f]? = some fn ∧ (fn.name == "runtime.NumGoroutine") = false ∧ fn.body = some c
  ok : ∀ f vs r, call f vs = some r → ∀ (U : Nat → Prop) (w : World) (ow : Own) (cargs : Array Value), cargs.size = vs.length →
    HO U w ow (vs.map obArg) → (∀ (i : Nat) c x, cargs[i]? = some c → vs[i]? = some x → ArgR w (Fz U w ow (vs.map obArg)) ow i c x) →
    Glb GL w (Fz U w ow (vs.map obArg)) → (∀ b, w.heap.size ≤ b → U b) →
    Calls P f cargs w fun e w' => ∃ u ow', e = .returned u ∧ (Ext w w' (ownB (vs.map obArg) ow) ∧ ∀ b n, Th w b n → Th w' b n) ∧ HO U w' ow' (resObs vs r) ∧
      (∀ (i : Nat) cs, vs[i]? = some (.io cs) → ow' i none = ow i none) ∧
      (∀ k c, owned (resObs vs r) k c → ownB (vs.map obArg) ow (ow' k c) ∨ w.heap.size ≤ ow' k c) ∧
      ResR w' (Fz U w' ow' (resObs vs r)) ow' vs.length u r.1

section
variable {P : Program} {T : TT} {U : Nat → Prop} {w0 w : World} {F0 : Fr} {σ : St} {a : Act} {ow : Own} {R : Type} {r : R}
variable {o : Oper} {d : Nat} {K : V → Ob → List (Nat × Option Nat) → Option R} {call : FuncId → List V → Option Res}

def DoneW (P : Program) (GL : List (Nat × V)) (U : Nat → Prop) (w0 : World) (F0 : Fr) (a : Act) (w : World) (o : Oper) (d : Nat) (σ' : St) : Prop :=
  ∀ (K : Act → World → Prop) (Q : Exit → Act → World → Prop), (∀ u w' ow', Sim GL U w0 F0 σ' (a.put (some d) u) w' ow' → K (a.put (some d) u) w') → o.wp P a w K Q
def GoodW (P : Program) (T : TT) (U : Nat → Prop) (w0 : World) (F0 : Fr) (σ : St) (a : Act) (w : World) (o : Oper) (d : Nat) (K : V → Ob → List (Nat × Option Nat) → Option R) (r : R) : Prop :=
  ∃ x ob s, K x ob s = some r ∧ ((ob = .none ∨ (σ.ob.getD d .none = .none ∧ F0.pn d = none)) → DoneW P T.globL U w0 F0 a w o d (putQ σ d x ob s))

theorem Good.toW (hd : o.dst = some d) (h : Good P T U w0 F0 σ a w o d K r) : GoodW P T U w0 F0 σ a w o d K r := by
  obtain ⟨x, ob, s, hK, hh⟩ := h
  refine ⟨x, ob, s, hK, fun hob K Q hk => ?_⟩
  obtain ⟨u, w', ow', hr, hs⟩ := hh hob
  unfold Oper.wp
  rw [hr, Oper.upon_value, hd]
  exact hk u w' ow' hs

theorem obArg_none {x : V} (h : ∀ cs, x ≠ .io cs) : obArg x = .none := by
  cases x <;> first | rfl | exact absurd rfl (h _)
theorem getD_none {l : List Ob} (h : ∀ o ∈ l, o = .none) (k : Nat) : l.getD k .none = .none := by
  rw [List.getD_eq_getElem?_getD]
  cases hk : l[k]? with
  | none => rfl
  | some o => simpa using h o (List.mem_of_getElem? hk)
theorem alive_none {l : List Ob} {k : Nat} {c : Option Nat} (h : l.getD k .none = .none) : ¬ alive l k c := fun ha => by
  unfold alive at ha; rw [h] at ha; cases c <;> exact ha
theorem HO.none {l : List Ob} (h : ∀ o ∈ l, o = .none) : HO U w ow l :=
  ⟨fun k => by rw [getD_none h]; trivial, fun k c k' c' ha => absurd ha (alive_none (getD_none h k)), fun k c ha => absurd ha (alive_none (getD_none h k))⟩
theorem Fz.none {l : List Ob} (h : ∀ o ∈ l, o = .none) (b : Nat) : Fz U w ow l b ↔ U b ∧ b < w.heap.size :=
  ⟨fun hb => ⟨hb.1, hb.2.1⟩, fun hb => ⟨hb.1, hb.2, fun k c ho => absurd (alive_of_owned ho) (alive_none (getD_none h k))⟩⟩

theorem VR.notIo {A : Nat → Prop} {u : Value} {x : V} (h : VR w A u x) (cs : List V) : x ≠ .io cs := by
  rintro rfl
  have h' : FR w A [u] (.io cs) := h
  cases h'

theorem backObs_none : ∀ {vs : List V} {os : List V}, (∀ x ∈ vs, ∀ cs, x ≠ .io cs) → ∀ o ∈ backObs vs os, o = .none
  | [], _, _, o, ho => by simp [backObs] at ho
  | v :: vs, os, h, o, ho => by
    have hv := h v (by simp)
    have hb : backObs (v :: vs) os = .none :: backObs vs os := by
      cases v <;> first | rfl | exact absurd rfl (hv _)
    rw [hb] at ho
    rcases List.mem_cons.1 ho with rfl | ho
    · rfl
    · exact backObs_none (fun x hx => h x (List.mem_cons_of_mem _ hx)) o ho
theorem backObs_length : ∀ (vs os : List V), (backObs vs os).length = vs.length
  | [], _ => rfl
  | v :: vs, os => by
    cases v <;> first
      | (show (Ob.none :: backObs vs os).length = _; simp [backObs_length vs os])
      | (cases os with
        | nil => show (Ob.none :: backObs vs []).length = _; simp [backObs_length vs]
        | cons q os => show (obArg q :: backObs vs os).length = _; simp [backObs_length vs os])

theorem getD_res {vs : List V} {r : Res} : (resObs vs r).getD vs.length .none = obArg r.1 := by
  unfold resObs
  rw [List.getD_eq_getElem?_getD, List.getElem?_append_right (by rw [backObs_length]; exact Nat.le_refl _), backObs_length]
  simp

theorem resR_vr {A : Nat → Prop} {n : Nat} {u : Value} {v : V} (h1 : ∀ cs, v ≠ .io cs) (h2 : ∀ ts, v ≠ .tup ts) : ResR w A ow n u v = VR w A u v := by
  cases v <;> first | rfl | exact absurd rfl (h1 _) | exact absurd rfl (h2 _)

theorem run_enter {f : FuncId} {fn : Func} {c : Code} (hf : P.funcs[f]? = some fn) (hname : (fn.name == "runtime.NumGoroutine") = false) (hb : fn.body = some c) (args : Array Value) (w : World) :
    (callFunc f args).run P w = .ok (.enter f args) w := by
  have h1 : fn.name ≠ "runtime.NumGoroutine" := by simpa using hname
  simp [callFunc, hf, h1, hb]

/-- a quiet call -/
theorem q_go (hC : CallOk P T.globL call) (h : Sim T.globL U w0 F0 σ a w ow) (hd : o.dst = some d) {f : FuncId} {args : Array Operand} {cv : Array Value} {more : List V} {ats : List TypeId}
    (hrun : (execOp a.eval o).run P w = (callFunc f (args.map a.eval ++ cv)).run P w)
    (hcl : cv.size = more.length) (hcv : ∀ (i : Nat) v x, cv[i]? = some v → more[i]? = some x → VR w (Fz U w ow σ.ob) v x)
    (hk : (bif T.loud f then none else
        sealVs (lkE σ) (nrmA T ats (args.toList.map (val T σ))) fun vs s => (call f (vs ++ more)).bind fun r =>
          match T.ty o.type with
          | .c sh => unC sh r.1 fun x => K x .none s
          | .agg ss => unSt ss.length r.1 (K (.dt r.1) .none s)
          | .p ss => unIo r.1 fun cs => unCs (.st cs) 0 ss fun cs => K (.ptr d none 0 0) (.box true cs) s
          | .tup ts => unTup ts.length r.1 fun vs => unVs vs 0 ts fun vs => K (.tup vs) .none s) = some r) : GoodW P T U w0 F0 σ a w o d K r := by
  have hk2 : sealVs (lkE σ) (nrmA T ats (args.toList.map (val T σ))) (fun vs s => (call f (vs ++ more)).bind fun r =>
          match T.ty o.type with
          | .c sh => unC sh r.1 fun x => K x .none s
          | .agg ss => unSt ss.length r.1 (K (.dt r.1) .none s)
          | .p ss => unIo r.1 fun cs => unCs (.st cs) 0 ss fun cs => K (.ptr d none 0 0) (.box true cs) s
          | .tup ts => unTup ts.length r.1 fun vs => unVs vs 0 ts fun vs => K (.tup vs) .none s) = some r := by
    cases hl : T.loud f
    · rw [hl] at hk; exact hk
    · rw [hl] at hk; cases hk
  obtain ⟨vs, s, hk3, hlen, hseal⟩ := sealVs_ok h.ho hk2
  have hlen : vs.length = args.size := by rw [nrmA_length] at hlen; simpa using hlen
  cases hcall : call f (vs ++ more) with
  | none => rw [hcall] at hk3; simp at hk3
  | some rr =>
  rw [hcall] at hk3
  simp only [Option.bind_some] at hk3
  -- the arguments
  let A := Fz U w ow (freeze σ.ob s)
  have hargs : ∀ (i : Nat) c x, (args.map a.eval ++ cv)[i]? = some c → (vs ++ more)[i]? = some x → VR w A c x := fun i c x hc hx => by
    by_cases hi : i < args.size
    · rw [Array.getElem?_append_left (by simpa using hi)] at hc
      rw [List.getElem?_append_left (by omega)] at hx
      simp only [Array.getElem?_map, Array.getElem?_eq_getElem hi, Option.map_some, Option.some.injEq] at hc
      subst hc
      have hv : (args.toList.map (val T σ))[i]? = some (val T σ args[i]) := by simp [List.getElem?_map, Array.getElem?_toList, Array.getElem?_eq_getElem hi]
      have hni : i < (nrmA T ats (args.toList.map (val T σ))).length := by rw [nrmA_length]; simpa using hi
      have hny := List.getElem?_eq_getElem hni
      obtain ⟨v0, hv0, e0⟩ := nrmA_get _ _ i hny
      rw [hv] at hv0
      cases hv0
      exact hseal i x _ hx hny s (fun _ hh => hh) _ (nrmA_sr (val_sr h _) e0)
    · rw [Array.getElem?_append_right (by simp; omega)] at hc
      rw [List.getElem?_append_right (by omega)] at hx
      simp only [Array.size_map] at hc
      rw [hlen] at hx
      exact (hcv _ c x hc hx).mono (fun _ _ => rfl) (fun _ hb => Fz.freeze hb)
  have hsz : (args.map a.eval ++ cv).size = (vs ++ more).length := by simp [hlen, hcl]
  have hnio : ∀ x ∈ vs ++ more, ∀ cs, x ≠ .io cs := fun x hx => by
    obtain ⟨i, hi, rfl⟩ := List.getElem_of_mem hx
    have := hargs i _ _ (Array.getElem?_eq_getElem (by omega)) (List.getElem?_eq_getElem hi)
    exact this.notIo
  have hnone : ∀ o ∈ (vs ++ more).map obArg, o = .none := fun o ho => by
    obtain ⟨x, hx, rfl⟩ := List.mem_map.1 ho
    exact obArg_none (hnio x hx)
  let U1 : Nat → Prop := fun b => A b ∨ w.heap.size ≤ b
  have hF1 : ∀ b, Fz U1 w ow ((vs ++ more).map obArg) b ↔ A b := fun b => by
    rw [Fz.none hnone]
    constructor
    · rintro ⟨h1 | h1, h2⟩
      · exact h1
      · omega
    · exact fun h1 => ⟨.inl h1, h1.2.1⟩
  have hcalls := hC.ok f _ rr hcall U1 w ow (args.map a.eval ++ cv) hsz (HO.none hnone)
    (fun i c x hc hx => by
      have h1 := (hargs i c x hc hx).mono (w' := w) (A' := Fz U1 w ow ((vs ++ more).map obArg)) (fun _ _ => rfl) (fun b hb => (hF1 b).2 hb)
      have h2 := hnio x (List.mem_of_getElem? hx)
      cases x <;> first | exact h1 | exact absurd rfl (h2 _))
    (h.gl.mono fun b hb => ⟨(hF1 b).2 (Fz.freeze hb), rfl⟩) (fun b hb => .inr hb)
  obtain ⟨fn, c, e1, e2, e3⟩ := hC.fn f _ rr hcall
  -- what comes back
  have fin : ∀ x ob, (∀ w' u ow', Ext w w' (fun _ => False) → HO U1 w' ow' (resObs (vs ++ more) rr) → (∀ k c, owned (resObs (vs ++ more) rr) k c → w.heap.size ≤ ow' k c) →
      ResR w' (Fz U1 w' ow' (resObs (vs ++ more) rr)) ow' (vs ++ more).length u rr.1 → ∃ ow2, Sim T.globL U w0 F0 (putQ σ d x ob s) (a.put (some d) u) w' ow2) →
      DoneW P T.globL U w0 F0 a w o d (putQ σ d x ob s) := fun x ob hh Kq Q hq => by
    unfold Oper.wp
    rw [hrun, run_enter e1 e2 e3, Oper.upon_enter]
    refine hcalls.mono ?_
    rintro e w' ⟨u, ow', rfl, ⟨hx, _⟩, hho, _, hown, hres⟩
    have hno : ∀ b, ¬ ownB ((vs ++ more).map obArg) ow b := fun b ⟨k, c, hk, _⟩ => alive_none (getD_none hnone k) (alive_of_owned hk)
    obtain ⟨ow2, hs⟩ := hh w' u ow' ⟨hx.os, hx.tape, hx.output, hx.size, fun b hb _ => hx.block b hb (hno b)⟩ hho (fun k c hkc => (hown k c hkc).resolve_left (hno _)) hres
    rw [hd]
    exact hq u w' ow2 hs
  have hA : ∀ {w' : World} {ow' : Own}, Ext w w' (fun _ => False) → ∀ b, Fz U1 w' ow' (resObs (vs ++ more) rr) b → Fz U w' ow (freeze σ.ob s) b := fun {w' ow'} hx b hb => by
    rcases hb.1 with h1 | h1
    · exact Fz.grow hx.size b h1
    · refine ⟨h.un b (Nat.le_trans h.ext.size h1), hb.2.1, fun k c hk => ?_⟩
      have := (h.ho.lt k c (alive_of_owned (owned_freeze s hk).1)).1
      omega
  have val : ∀ x, (∀ w' u (A' : Nat → Prop), (∀ ow' n, ResR w' A' ow' n u rr.1) → SR w' A' ow (freeze σ.ob s) u x) → (∀ cs, rr.1 ≠ .io cs) → DoneW P T.globL U w0 F0 a w o d (putQ σ d x .none s) := fun x hx hni =>
    fin x .none fun w' u ow' he _ _ hres => ⟨ow, ((h.freeze s).world he).put d fun _ => hx w' u _ fun ow'' n => by
      have key : ∀ {ow1 ow2 : Own} {n1 n2 : Nat} {A1 A2 : Nat → Prop}, (∀ b, A1 b → A2 b) → ResR w' A1 ow1 n1 u rr.1 → ResR w' A2 ow2 n2 u rr.1 := fun {ow1 ow2 n1 n2 A1 A2} hA h1 => by
        by_cases ht : ∃ ts, rr.1 = .tup ts
        · obtain ⟨ts, hv⟩ := ht
          rw [hv] at h1 ⊢
          obtain ⟨arr, q1, q2, q3⟩ := h1
          exact ⟨arr, q1, q2, fun j q y hq hy => (q3 j q y hq hy).mono (fun _ _ => rfl) hA⟩
        · rw [resR_vr hni (fun ts e => ht ⟨ts, e⟩)] at h1 ⊢
          exact h1.mono (fun _ _ => rfl) hA
      exact key (hA he) hres⟩
  split at hk3
  · rename_i sh hty
    obtain ⟨x, hK, hx1, hx2, hx3⟩ := unC_some hk3
    refine ⟨x, .none, s, hK, fun _ => val x (fun w' u A' hr => ?_) (fun cs e => by rw [e] at hx2; exact hx2)⟩
    rw [hx1.sr]
    refine hx3 _ _ _ ?_
    have := hr ow 0
    revert this hx2
    cases rr.1 <;> intro hx2 h1 <;> first | exact h1 | exact hx2.elim
  · rename_i ss hty
    obtain ⟨cs, hr1, hl, hK⟩ := unSt_some hk3
    refine ⟨_, .none, s, hK, fun _ => val _ (fun w' u A' hr => ?_) (fun cs' e => by rw [e] at hr1; cases hr1)⟩
    have := hr ow 0
    rw [hr1] at this ⊢
    exact this
  · rename_i ss hty
    obtain ⟨cs0, hr1, hk4⟩ := unIo_some hk3
    obtain ⟨cs, hK, hl, hcs⟩ := unCs_some hk4
    refine ⟨_, .box true cs, s, hK, fun hob => fin _ _ fun w' u ow' he hho hown hres => ?_⟩
    have hd2 : σ.ob.getD d .none = .none ∧ F0.pn d = none := by rcases hob with hd | hd; cases hd; exact hd
    have hd' := hd2.1
    rw [hr1] at hres
    have hu : u = .pointer (some ⟨ow' (vs ++ more).length none, 0, none⟩) := hres
    have hob2 : (resObs (vs ++ more) rr).getD (vs ++ more).length .none = .box true cs0 := by rw [getD_res, hr1]; rfl
    have hor := hho.obs (vs ++ more).length
    rw [hob2] at hor
    obtain ⟨hth, hcell⟩ := hor
    have hown0 : owned (resObs (vs ++ more) rr) (vs ++ more).length none := by unfold owned; rw [hob2]
    have hlen0 : cs.length ≤ cs0.length := by
      rcases Nat.eq_zero_or_pos cs.length with h0 | h0
      · omega
      · have := (hcs (cs.length - 1) _ (List.getElem?_eq_getElem (by omega))).2.1
        rw [Nat.zero_add] at this
        unfold VM.ce at this
        by_cases hq : cs.length - 1 < cs0.length
        · omega
        · simp only [List.getD_eq_getElem?_getD, List.getElem?_eq_none (by omega : cs0.length ≤ cs.length - 1), Option.getD_none] at this
          exact this.elim
    have hall : ∀ c ∈ cs, isC c := fun c hm => by
      obtain ⟨j, hj, rfl⟩ := List.getElem_of_mem hm
      exact (hcs j _ (List.getElem?_eq_getElem hj)).1
    have h1 := (h.freeze s).create (w' := w') he d (.box true cs) (fun _ => ow' (vs ++ more).length none) (freeze_none s hd') hd2.2
      (fun c hc => ⟨hown _ _ hown0, (hho.lt _ _ (alive_of_owned hown0)).1⟩)
      (fun c c' hc hc' _ => by
        have hal : ∀ q, alive ((freeze σ.ob s).set d (.box true cs)) d q → q = none := fun q hq => by
          by_cases hdl : d < (freeze σ.ob s).length
          · exact alive_box (getD_set_ob_same _ _ hdl) hall hq
          · rw [List.set_eq_of_length_le (by omega)] at hq
            exact absurd hq (alive_none (freeze_none s hd'))
        rw [hal c hc, hal c' hc'])
      (fun hA0 => ⟨by rw [upd_same]; exact fun j hj => hth j (by omega), fun j v x hv hx => by
        rw [upd_same] at hv
        obtain ⟨g1, g2, g3⟩ := hcs j x hx
        rw [Nat.zero_add] at g2 g3
        have hj : j < cs.length := (List.getElem?_eq_some_iff.1 hx).1
        have hx0 : cs0[j]? = some (cs0[j]'(by omega)) := List.getElem?_eq_getElem (by omega)
        have hb := hcell j v _ hv hx0
        have hce : VM.ce (.st cs0) j = cs0[j]'(by omega) := by unfold VM.ce; simp [List.getD_eq_getElem?_getD, hx0]
        rw [hce] at g2 g3
        rw [g2.bc] at hb
        rw [g1.bc]
        exact (g3 _ _ _ hb).mono (fun _ _ => rfl) fun b hb => by
          have hb2 := hA he b hb
          refine ⟨hb2.1, hb2.2.1, fun k c hk => ?_⟩
          by_cases hkd : k = d
          · subst hkd
            rw [upd_same]
            exact hb.2.2 _ _ hown0
          · rw [upd_other _ _ _ hkd]
            exact hb2.2.2 k c (by rw [← owned_congr (getD_set_ob_other _ _ hkd) c]; exact hk)⟩)
    refine ⟨_, h1.put d fun hlt => ?_⟩
    have hdl : d < (freeze σ.ob s).length := by rw [freeze_length, h.olen]; exact hlt
    exact .inl ⟨true, cs, getD_set_ob_same _ _ hdl, rfl, by rw [upd_same]; exact hu⟩
  · rename_i ts hty
    obtain ⟨ts0, hr1, hl, hk4⟩ := unTup_some hk3
    obtain ⟨cs, hK, hlc, hcs⟩ := unVs_some hk4
    refine ⟨_, .none, s, hK, fun _ => val _ (fun w' u A' hr => ?_) (fun cs' e => by rw [e] at hr1; cases hr1)⟩
    have h1 := hr ow 0
    rw [hr1] at h1
    obtain ⟨arr, q1, q2, q3⟩ := h1
    refine ⟨arr, q1, by omega, fun j q y hq hy => ?_⟩
    obtain ⟨g1, g2⟩ := hcs j y hy
    rw [Nat.zero_add] at g1 g2
    have hj : j < ts0.length := by have := (List.getElem?_eq_some_iff.1 hy).1; omega
    have hx0 : ts0[j]? = some (ts0[j]'hj) := List.getElem?_eq_getElem hj
    have hg : ts0.getD j .dead = ts0[j]'hj := by simp [List.getD_eq_getElem?_getD, hx0]
    rw [hg] at g2
    exact g2 _ _ _ _ _ (q3 j q _ hq hx0)

theorem exec_call {f : Operand} {args : Array Operand} {ts : Array TypeId} {g : FuncId} {cv : Array Value} (ho : o.op = .call { callee := .value f, args, argTypes := ts })
    (hf : a.eval f = .func (.func g) #[] cv) : (execOp a.eval o).run P w = (callFunc g (args.map a.eval ++ cv)).run P w := by
  simp [execOp, ho, resolve, hf, Deferred.ofValue, invoke]

theorem q_call (hC : CallOk P T.globL call) (h : Sim T.globL U w0 F0 σ a w ow) (hd : o.dst = some d) {f : Operand} {args : Array Operand} {ts : Array TypeId} (ho : o.op = .call { callee := .value f, args, argTypes := ts })
    (hk : (let go (f : FuncId) (more : List V) : Option R := bif T.loud f then none else
        sealVs (lkE σ) (nrmA T ts.toList (args.toList.map (val T σ))) fun vs s => (call f (vs ++ more)).bind fun r =>
          match T.ty o.type with
          | .c sh => unC sh r.1 fun x => K x .none s
          | .agg ss => unSt ss.length r.1 (K (.dt r.1) .none s)
          | .p ss => unIo r.1 fun cs => unCs (.st cs) 0 ss fun cs => K (.ptr d none 0 0) (.box true cs) s
          | .tup ts => unTup ts.length r.1 fun vs => unVs vs 0 ts fun vs => K (.tup vs) .none s
      match val T σ f with
      | .sc (.func (.func f) fs cv) => bif Nat.beq fs.size 0 && Nat.beq cv.size 0 then go f [] else none
      | .clo f caps => bif caps.all isRp then go f caps else none
      | _ => none) = some r) : GoodW P T U w0 F0 σ a w o d K r := by
  have hv := val_sr h f
  simp only at hk
  split at hk
  · rename_i g fs cv hf
    obtain ⟨hc, hk2⟩ := bif_some hk
    simp only [Bool.and_eq_true] at hc
    have h1 : fs = #[] := Array.eq_empty_of_size_eq_zero (beq_nat.1 hc.1)
    have h2 : cv = #[] := Array.eq_empty_of_size_eq_zero (beq_nat.1 hc.2)
    subst h1; subst h2
    exact q_go hC h hd (exec_call ho (val_sc h hf).1) rfl (fun i v x hv => by simp at hv) hk2
  · rename_i g caps hf
    obtain ⟨hc, hk2⟩ := bif_some hk
    rw [hf] at hv
    have hv' : FR w (Fz U w ow σ.ob) [a.eval f] (.clo g caps) := hv
    generalize hu : a.eval f = u at hv'
    cases hv' with
    | clo hl hh =>
      refine q_go hC h hd (exec_call ho hu) hl (fun i v x hi hx => ?_) hk2
      have h1 := hh i v x hi hx
      have h2 := List.all_eq_true.1 hc x (List.mem_of_getElem? hx)
      cases x <;> first | exact h1 | cases h2
  · cases hk

/-- EVERY QUIET OPERATION -/
theorem qv_sound (hT : TOk P T) (hC : CallOk P T.globL call) (h : Sim T.globL U w0 F0 σ a w ow) (hd : o.dst = some d)
    (hk : qv T call (val T σ) (lkE σ) d o K = some r) : GoodW P T U w0 F0 σ a w o d K r := by
  obtain ⟨dst, op, type, pos, after, guard⟩ := o
  cases op <;> first
    | (cases hk; done)
    | skip
  case move x => exact (q_move h rfl hk).toW hd
  case pick c x y => exact (q_pick h rfl hk).toW hd
  case alloc t => exact (q_alloc hT h rfl hk).toW hd
  case box t x => exact (q_box h rfl hk).toW hd
  case build t ps => exact (q_build hT h rfl hk).toW hd
  case buildSlice t n ps => exact (q_buildSlice hT h rfl hk).toW hd
  case load t p => exact (q_load hT h rfl hk).toW hd
  case nilCheck x => exact (q_nilCheck h rfl hk).toW hd
  case binOp op t x y t' => exact (aBin_ok hT h rfl hk).toW hd
  case unOp op t x => exact (aUn_ok h rfl hk).toW hd
  case convert s t x => exact (q_convert hT h rfl hk).toW hd
  case makeSlice t l c => exact (q_makeSlice hT h rfl hk).toW hd
  case slice t x lo hi mx => exact (q_slice hT h rfl hk).toW hd
  case fieldAddr t x f => exact (q_fieldAddr hT h rfl hk).toW hd
  case indexAddr t x i => exact (q_indexAddr hT h rfl hk).toW hd
  case index t x i => exact (q_index hT h rfl hk).toW hd
  case extract x i => exact (q_extract h rfl hk).toW hd
  case makeFunc f first caps =>
    cases f with
    | func f => exact (q_makeFunc h rfl hk).toW hd
    | _ => cases hk
  case call c =>
    obtain ⟨callee, args, ts⟩ := c
    cases callee with
    | value f => exact q_call hC h hd rfl hk
    | invoke r m => cases hk
    | builtin b =>
      cases b <;> first
        | (cases hk; done)
        | exact (q_len hT h rfl hk).toW hd
        | exact (q_max h rfl hk).toW hd
        | exact (q_min h rfl hk).toW hd
  case assign x =>
    have hv := val_sr h x
    have hk : (match val T σ x with | .dead => none | x => K x .none []) = some r := hk
    generalize val T σ x = y at hv hk
    have : K y .none [] = some r := by cases y <;> first | exact hk | cases hk
    exact Good.toW hd ⟨y, .none, [], this, fun _ => done_plain h (by simp [execOp]) hv⟩
end
end Go.Proofs.YtmddfhjgdhjmkaaDoor.VM

/- The abstract machine and the memory: regions in the order of the text; code. -/
set_option linter.unusedVariables false
set_option linter.unusedSimpArgs false
namespace Go.Proofs.YtmddfhjgdhjmkaaDoor.VM
open Go.RowKit

/-! ### what is frozen, key by key -/
def frzK (s : List (Nat × Option Nat)) (k : Nat) (o : Ob) : Ob :=
  match s with
  | [] => o
  | (k', c) :: s => frzK s k (if k' = k then frzO c o else o)

theorem frzO_idem (c : Option Nat) (o : Ob) : frzO c (frzO c o) = frzO c o := by
  cases c with
  | none => cases o <;> rfl
  | some c =>
    cases o with
    | box b cs =>
      simp only [frzO]
      cases hc : cs.getD c .dead with
      | own o z xs =>
        simp only []
        have hl : c < cs.length := by
          by_cases h : c < cs.length
          · exact h
          · simp [List.getD_eq_getElem?_getD, List.getElem?_eq_none (by omega : cs.length ≤ c)] at hc
        have : (cs.set c (.own false z xs)).getD c .dead = .own false z xs := by simp [List.getD_eq_getElem?_getD, hl]
        rw [this]
        simp
      | _ => simp only [hc]
    | _ => rfl
theorem frzO_comm (c c' : Option Nat) (o : Ob) : frzO c (frzO c' o) = frzO c' (frzO c o) := by
  by_cases hcc : c = c'
  · rw [hcc]
  cases c with
  | none =>
    cases c' with
    | none => rfl
    | some c' =>
      cases o with
      | box b cs => simp only [frzO]; cases cs.getD c' .dead <;> simp only [frzO]
      | _ => rfl
  | some c =>
    cases c' with
    | none =>
      cases o with
      | box b cs => simp only [frzO]; cases cs.getD c .dead <;> simp only [frzO]
      | _ => rfl
    | some c' =>
      have hne : c ≠ c' := fun e => hcc (by rw [e])
      cases o with
      | box b cs =>
        have g1 : ∀ x, (cs.set c' x).getD c .dead = cs.getD c .dead := fun x => by simp [List.getD_eq_getElem?_getD, List.getElem?_set_ne (Ne.symm hne)]
        have g2 : ∀ x, (cs.set c x).getD c' .dead = cs.getD c' .dead := fun x => by simp [List.getD_eq_getElem?_getD, List.getElem?_set_ne hne]
        cases h1 : cs.getD c .dead <;> cases h2 : cs.getD c' .dead <;> simp only [frzO, h1, h2, g1, g2]
        rw [List.set_comm _ _ hne]
      | _ => rfl

theorem frzK_push (s : List (Nat × Option Nat)) (k : Nat) (c : Option Nat) : ∀ o, frzK s k (frzO c o) = frzO c (frzK s k o) := by
  induction s with
  | nil => exact fun o => rfl
  | cons q s ih =>
    intro o
    obtain ⟨k', c'⟩ := q
    simp only [frzK]
    split
    · rw [frzO_comm, ih]
    · exact ih o
theorem frzK_mem {s : List (Nat × Option Nat)} {k : Nat} {c : Option Nat} (h : (k, c) ∈ s) : ∀ o, frzK s k (frzO c o) = frzK s k o := by
  induction s with
  | nil => simp at h
  | cons q s ih =>
    intro o
    obtain ⟨k', c'⟩ := q
    simp only [frzK]
    rcases List.mem_cons.1 h with h | h
    · cases h
      rw [if_pos rfl, if_pos rfl, frzO_idem]
    · split
      · rw [frzO_comm, ih h]
      · exact ih h o
theorem frzK_sub {s : List (Nat × Option Nat)} {k : Nat} : ∀ {s' : List (Nat × Option Nat)}, (∀ q ∈ s', q ∈ s) → ∀ o, frzK s k (frzK s' k o) = frzK s k o
  | [], _, o => rfl
  | (k', c) :: s', h, o => by
    simp only [frzK]
    rw [frzK_sub (fun q hq => h q (List.mem_cons_of_mem _ hq))]
    split
    · rename_i hk
      subst hk
      exact frzK_mem (h _ (by simp)) o
    · rfl
theorem frzO_none (c : Option Nat) : frzO c .none = .none := by cases c <;> rfl
theorem frzK_none (s : List (Nat × Option Nat)) (k : Nat) : frzK s k .none = .none := by
  induction s with
  | nil => rfl
  | cons q s ih => obtain ⟨k', c⟩ := q; simp only [frzK, frzO_none, ite_self]; exact ih
theorem getD_freeze (k : Nat) : ∀ (s : List (Nat × Option Nat)) (ob : List Ob), (freeze ob s).getD k .none = frzK s k (ob.getD k .none)
  | [], _ => rfl
  | (k', c) :: s, ob => by
    show (freeze (frz1 ob k' c) s).getD k .none = frzK s k _
    rw [getD_freeze k s]
    congr 1
    unfold frz1
    rw [getD_set_ob]
    by_cases hk : k = k'
    · subst hk
      by_cases hl : k < ob.length
      · rw [if_pos ⟨rfl, hl⟩, if_pos rfl]
      · rw [if_neg (fun hh => hl hh.2), if_pos rfl]
        have : ob.getD k .none = .none := by simp [List.getD_eq_getElem?_getD, List.getElem?_eq_none (by omega : ob.length ≤ k)]
        rw [this, frzO_none]
    · rw [if_neg (fun hh => hk hh.1), if_neg (fun hh => hk hh.symm)]
theorem ext_getD {l l' : List Ob} (hl : l.length = l'.length) (h : ∀ k, l.getD k .none = l'.getD k .none) : l = l' := by
  refine List.ext_getElem hl fun k h1 h2 => ?_
  have := h k
  simpa [List.getD_eq_getElem?_getD, List.getElem?_eq_getElem h1, List.getElem?_eq_getElem h2] using this
theorem setN_length (l : List Ob) (d : Nat) (o : Ob) : (setN l d o).length = l.length := by cases o <;> simp [setN]
theorem getD_setN (l : List Ob) (d k : Nat) (o : Ob) : (setN l d o).getD k .none = if k = d ∧ d < l.length ∧ isNone o = false then o else l.getD k .none := by
  cases o with
  | none => simp [setN, isNone]
  | box b cs => show (l.set d _).getD k .none = _; rw [getD_set_ob]; simp [isNone]
  | row b z xs => show (l.set d _).getD k .none = _; rw [getD_set_ob]; simp [isNone]

/-- to freeze again what is frozen changes nothing -/
theorem freeze_again {fs s : List (Nat × Option Nat)} {ob : List Ob} {d : Nat} {o : Ob} (hs : ∀ q ∈ s, q ∈ fs) : freeze (setN (freeze (freeze ob fs) s) d o) fs = freeze (setN ob d o) fs := by
  refine ext_getD (by simp only [freeze_length, setN_length]) fun k => ?_
  rw [getD_freeze, getD_freeze, getD_setN, getD_setN]
  simp only [freeze_length]
  split
  · rfl
  · rw [getD_freeze, getD_freeze, frzK_sub hs, frzK_sub (fun _ h => h)]
theorem freeze_more {fs s : List (Nat × Option Nat)} {ob : List Ob} : freeze (freeze ob fs) (fs ++ s) = freeze ob (fs ++ s) := by
  refine ext_getD (by simp only [freeze_length]) fun k => ?_
  rw [getD_freeze, getD_freeze, getD_freeze, frzK_sub (fun q hq => List.mem_append_left _ hq)]

theorem eO_frzO (c : Option Nat) (o : Ob) : eO (frzO c o) = eO o := by
  cases c with
  | none => cases o <;> rfl
  | some c =>
    cases o with
    | box b cs =>
      simp only [frzO]
      cases hc : cs.getD c .dead with
      | own o z xs =>
        simp only [eO, Ob.box.injEq, true_and]
        refine List.ext_getElem (by simp) fun j h1 h2 => ?_
        simp only [List.length_map] at h2
        simp only [List.getElem_map, List.getElem_set]
        split
        · rename_i hj
          subst hj
          have : cs[c] = .own o z xs := by simpa [List.getD_eq_getElem?_getD, List.getElem?_eq_getElem h2] using hc
          rw [this]; rfl
        · rfl
      | _ => rfl
    | _ => rfl
theorem eO_frzK (k : Nat) : ∀ (s : List (Nat × Option Nat)) (o : Ob), eO (frzK s k o) = eO o
  | [], _ => rfl
  | (k', c) :: s, o => by
    simp only [frzK]
    rw [eO_frzK k s]
    split
    · exact eO_frzO c o
    · rfl
theorem lkE_freeze (sl : List V) (ob : List Ob) (s : List (Nat × Option Nat)) : lkE ⟨sl, freeze ob s⟩ = lkE ⟨sl, ob⟩ := by
  funext k
  show eO ((freeze ob s).getD k .none) = eO (ob.getD k .none)
  rw [getD_freeze, eO_frzK]

def σF (σ : St) (fs : List (Nat × Option Nat)) : St := ⟨σ.sl, freeze σ.ob fs⟩

section
variable {P : Program} {T : TT} {U : Nat → Prop} {w0 w : World} {F0 : Fr} {σ : St} {a : Act} {ow : Own} {r : Res}
variable {o : Oper} {d : Nat} {call : FuncId → List V → Option Res} {fs : List (Nat × Option Nat)}

theorem isNone_iff {o : Ob} : isNone o = true ↔ o = .none := by cases o <;> simp [isNone]

/-- the step's state, with what is to be frozen frozen -/
theorem sim_putN {s : List (Nat × Option Nat)} {x : V} {ob : Ob} {a' : Act} (h : Sim T.globL U w0 F0 (putQ (σF σ fs) d x ob s) a' w ow) : Sim T.globL U w0 F0 (σF (putN σ d x ob) (fs ++ s)) a' w ow := by
  have h1 := h.freeze (fs ++ s)
  have : freeze (setN (freeze (freeze σ.ob fs) s) d ob) (fs ++ s) = freeze (setN σ.ob d ob) (fs ++ s) := by
    have e := freeze_again (fs := fs ++ s) (s := s) (ob := freeze σ.ob fs) (d := d) (o := ob) (fun q hq => List.mem_append_right _ hq)
    have e2 := freeze_again (fs := fs ++ s) (s := fs) (ob := σ.ob) (d := d) (o := ob) (fun q hq => List.mem_append_left _ hq)
    refine ext_getD (by simp only [freeze_length, setN_length]) fun k => ?_
    rw [getD_freeze, getD_freeze, getD_setN, getD_setN]
    simp only [freeze_length]
    split
    · rfl
    · rw [getD_freeze, getD_freeze, frzK_sub (fun q hq => List.mem_append_right _ hq), frzK_sub (fun q hq => List.mem_append_left _ hq)]
  show Sim T.globL U w0 F0 ⟨σ.sl.set d x, freeze (setN σ.ob d ob) (fs ++ s)⟩ a' w ow
  rw [← this]
  exact h1

def DoneO (P : Program) (GL : List (Nat × V)) (U : Nat → Prop) (w0 : World) (F0 : Fr) (a : Act) (w : World) (o : Oper) (σ' : St) : Prop :=
  ∀ (K : Act → World → Prop) (Q : Exit → Act → World → Prop), (∀ a' w' ow', Sim GL U w0 F0 σ' a' w' ow' → K a' w') → o.wp P a w K Q

/-- what the loud operations owe -/
def LoudOk (P : Program) (T : TT) (call : FuncId → List V → Option Res) : Prop :=
  ∀ (U : Nat → Prop) (w0 : World) (F0 : Fr) (σ : St) (a : Act) (w : World) (ow : Own) (o : Oper) (K : St → Option Res) (r : Res), Sim T.globL U w0 F0 σ a w ow → (∀ d, o.dst = some d → F0.pn d = none) → exLoud T call σ o K = some r →
    ∃ σ', K σ' = some r ∧ DoneO P T.globL U w0 F0 a w o σ'

theorem exOp_ok (hT : TOk P T) (hC : CallOk P T.globL call) (hL : LoudOk P T call) (h : Sim T.globL U w0 F0 (σF σ fs) a w ow) (hpn : ∀ d, o.dst = some d → F0.pn d = none) {K : St → List (Nat × Option Nat) → Option Res} {dr : Bool} (hk : exOp T call dr σ fs o K = some r) :
    ∃ σ' fs', K σ' fs' = some r ∧ DoneO P T.globL U w0 F0 a w o (σF σ' fs') := by
  unfold exOp at hk
  cases hq : isQuiet T o with
  | false =>
    rw [hq] at hk
    obtain ⟨σ', h1, h2⟩ := hL _ _ _ _ _ _ _ _ _ _ h hpn hk
    exact ⟨σ', [], h1, h2⟩
  | true =>
    rw [hq] at hk
    simp only [cond_true] at hk
    have hk : (match o.dst with
      | some d => qv T call (val T σ) (lkE σ) d o fun x ob s => bif isNone ob || isNone (σ.ob.getD d .none) then K (putN σ d x ob) (fs ++ s) else none
      | none => none) = some r := by
      cases hb : (dr && !keysOk T σ o)
      · rw [hb] at hk; exact hk
      · rw [hb] at hk; cases hk
    split at hk
    · rename_i d hd
      have e : qv T call (val T σ) (lkE σ) d o = qv T call (val T (σF σ fs)) (lkE (σF σ fs)) d o (R := Res) := by
        have : lkE (σF σ fs) = lkE σ := lkE_freeze _ _ _
        rw [this]; rfl
      rw [e] at hk
      obtain ⟨x, ob, s, hK, hdone⟩ := qv_sound hT hC h hd hk
      obtain ⟨h0, hK2⟩ := bif_some hK
      refine ⟨_, _, hK2, fun Kq Q hq => hdone ?_ Kq Q fun u w' ow' hs => hq _ _ ow' (sim_putN hs)⟩
      simp only [Bool.or_eq_true, isNone_iff] at h0
      rcases h0 with h0 | h0
      · exact .inl h0
      · refine .inr ⟨?_, hpn d hd⟩
        show (freeze σ.ob fs).getD d .none = .none
        rw [getD_freeze, h0, frzK_none]
    · cases hk

theorem slot_bool (h : Sim T.globL U w0 F0 σ a w ow) {g : Nat} {t : Bool} (hg : σ.sl.getD g .dead = .sc (.bool t)) : a.tmps[g]? = some (.bool t) := by
  have h1 := h.slots g
  rw [hg] at h1
  have h2 : FR w (Fz U w ow σ.ob) [a.tmps.getD g undef] (.sc (.bool t)) := h1
  have h3 := h2.sc_inv
  simp only [List.cons.injEq, and_true] at h3
  rw [Array.getD_eq_getD_getElem?] at h3
  cases hv : a.tmps[g]? with
  | none => rw [hv] at h3; simp [undef] at h3
  | some v => rw [hv] at h3; simpa using h3

theorem set_same {l : List V} {g : Nat} {x : V} (h : l.getD g .dead = x) : l.set g x = l := by
  by_cases hl : g < l.length
  · refine List.ext_getElem (by simp) fun j h1 h2 => ?_
    rw [List.getElem_set]
    split
    · rename_i hj; subst hj
      simpa [List.getD_eq_getElem?_getD, List.getElem?_eq_getElem hl] using h.symm
    · rfl
  · exact List.set_eq_of_length_le (by omega)

theorem sim_skip (h : Sim T.globL U w0 F0 σ a w ow) (d : Nat) : Sim T.globL U w0 F0 ⟨σ.sl.set d (.tup []), σ.ob⟩ (a.put (some d) undef) w ow := h.put d fun _ => ⟨#[], rfl, rfl, fun j u y hu => by simp at hu⟩
/-- a step was skipped: what hangs on it is, too -/
theorem undef_yield (h : Sim T.globL U w0 F0 σ a w ow) {all : Array Oper} {j g : Nat} (hgd : (all.toList[j]?).bind (·.dst) = some g) (hu : isUndef (σ.sl.getD g .dead) = true) : yielded all a.tmps j = none := by
  have hs := h.slots g
  have hx : σ.sl.getD g .dead = .tup [] := by
    cases hv : σ.sl.getD g .dead <;> rw [hv] at hu <;> first | (cases hu; done) | skip
    rename_i vs
    cases vs <;> first | rfl | cases hu
  rw [hx] at hs
  obtain ⟨arr, h1, _⟩ := hs
  rw [Array.getElem?_toList] at hgd
  unfold yielded
  rw [hgd, Option.bind_some]
  rw [Array.getD_eq_getD_getElem?] at h1
  cases ht : a.tmps[g]? with
  | none => rfl
  | some v => rw [ht] at h1; simp at h1; rw [h1]

/-- REGIONS, IN THE ORDER OF THE TEXT -/
theorem exOps_plain (hT : TOk P T) (hC : CallOk P T.globL call) (hL : LoudOk P T call) {dr : Bool} {all : Array Oper} {Q : Exit → Act → World → Prop} {K : St → Option Res} :
    ∀ (ops : List Oper) (σ : St) (fs : List (Nat × Option Nat)) (a : Act) (w : World) (ow : Own), (∀ o ∈ ops, ∀ d, o.dst = some d → F0.pn d = none) → Sim T.globL U w0 F0 (σF σ fs) a w ow → exOps T call dr all.toList ops σ fs K = some r →
      (∀ σ' a' w' ow', K σ' = some r → Sim T.globL U w0 F0 σ' a' w' ow' → Q .normal a' w') → wpList P all Q ops a w
  | [], σ, fs, a, w, ow, _, h, hk, hQ => hQ _ a w ow hk h
  | o :: ops, σ, fs, a, w, ow, hpn, h, hk, hQ => by
    have go : ∀ (σ : St), Sim T.globL U w0 F0 (σF σ fs) a w ow → exOp T call dr σ fs o (fun σ fs => exOps T call dr all.toList ops σ fs K) = some r → o.wp P a w (wpList P all Q ops) Q := fun σ h he => by
      obtain ⟨σ', fs', h1, h2⟩ := exOp_ok hT hC hL h (hpn o (by simp)) he
      exact h2 _ _ fun a' w' ow' hs => exOps_plain hT hC hL ops σ' fs' a' w' ow' (fun o ho => hpn o (List.mem_cons_of_mem _ ho)) hs h1 hQ
    unfold exOps at hk
    unfold wpList
    split at hk
    · rename_i hg
      rw [if_pos (by simp [Region.wanted, hg])]
      exact .inl (go σ h hk)
    · rename_i j want hg
      split at hk
      · cases hk
      · rename_i g hgd
        cases hun : isUndef (σ.sl.getD g .dead) with
        | true =>
          rw [hun] at hk
          have hy : yielded all a.tmps j = none := undef_yield (σ := σF σ fs) h hgd hun
          rw [if_neg (by simp [Region.wanted, hg, hy])]
          simp only [cond_true] at hk
          split at hk
          · rename_i d hd
            rw [hd]
            exact exOps_plain hT hC hL ops ⟨σ.sl.set d (.tup []), σ.ob⟩ fs _ w ow (fun o ho => hpn o (List.mem_cons_of_mem _ ho)) (sim_skip h d) hk hQ
          · cases hk
        | false =>
        rw [hun] at hk
        obtain ⟨t, ht, hk2⟩ := unB_some hk
        have hk3 : (bif t == want then exOp T call dr ⟨σ.sl.set g (.sc (.bool t)), σ.ob⟩ fs o (fun σ fs => exOps T call dr all.toList ops σ fs K) else match o.dst with
            | some d => exOps T call dr all.toList ops ⟨(σ.sl.set g (.sc (.bool t))).set d (.tup []), σ.ob⟩ fs K
            | none => none) = some r := by cases t <;> exact hk2
        rw [set_same ht] at hk3
        have hb := slot_bool h (g := g) (t := t) ht
        have hy : yielded all a.tmps j = some t := by
          unfold yielded
          rw [Array.getElem?_toList] at hgd
          rw [hgd]
          simp [hb]
        cases htw : (t == want) with
        | true =>
          rw [htw] at hk3
          rw [if_pos (by simp [Region.wanted, hg, hy]; simpa using htw)]
          exact .inl (go σ h hk3)
        | false =>
          rw [htw] at hk3
          simp only [cond_false] at hk3
          rw [if_neg (by simp [Region.wanted, hg, hy]; simpa using htw)]
          split at hk3
          · rename_i d hd
            rw [hd]
            exact exOps_plain hT hC hL ops ⟨σ.sl.set d (.tup []), σ.ob⟩ fs _ w ow (fun o ho => hpn o (List.mem_cons_of_mem _ ho)) (sim_skip h d) hk3 hQ
          · cases hk3
end
end Go.Proofs.YtmddfhjgdhjmkaaDoor.VM

/- The abstract machine: a quiet operation yields the same wherever what it looks at is the same. -/
set_option linter.unusedVariables false
set_option linter.unusedSimpArgs false
namespace Go.Proofs.YtmddfhjgdhjmkaaDoor.VM

section
variable {R S : Type} {g : R → Option S}

theorem none_bind' : (none : Option R).bind g = none := rfl
theorem unI_bind {k : IntKind} {v : V} {K : Int → Option R} : (unI k v K).bind g = unI k v fun m => (K m).bind g := by
  unfold unI; split
  · rename_i k' m; cases decide (k' = k) <;> rfl
  · rfl
theorem unB_bind {v : V} {K : Bool → Option R} : (unB v K).bind g = unB v fun m => (K m).bind g := by unfold unB; split <;> rfl
theorem unS_bind {v : V} {K : ByteArray → Option R} : (unS v K).bind g = unS v fun m => (K m).bind g := by unfold unS; split <;> rfl
theorem unL_bind {z : Nat} {v : V} {K : List V → Option R} : (unL z v K).bind g = unL z v fun m => (K m).bind g := by
  unfold unL; split
  · rename_i z' m; cases Nat.beq z' z <;> rfl
  · rfl
  · rfl
theorem unIo_bind {v : V} {K : List V → Option R} : (unIo v K).bind g = unIo v fun m => (K m).bind g := by unfold unIo; split <;> rfl
theorem unTup_bind {n : Nat} {v : V} {K : List V → Option R} : (unTup n v K).bind g = unTup n v fun m => (K m).bind g := by
  unfold unTup; split
  · rename_i m; cases Nat.beq m.length n <;> rfl
  · rfl
theorem unSt_bind {n : Nat} {v : V} {K : Option R} : (unSt n v K).bind g = unSt n v (K.bind g) := by
  unfold unSt; split
  · rename_i m; cases Nat.beq m.length n <;> rfl
  · rfl
theorem wd_bind {n : Nat} {v : V} {K : Option R} : (wd n v K).bind g = wd n v (K.bind g) := by
  unfold wd; split
  · rename_i m; cases Nat.beq m.length n <;> rfl
  · cases Nat.beq n 1 <;> rfl
theorem wds_bind {n : Nat} : ∀ {xs : List V} {K : Option R}, (wds n xs K).bind g = wds n xs (K.bind g)
  | [], _ => rfl
  | x :: xs, K => by unfold wds; rw [wd_bind, wds_bind]
theorem unC_bind {s : Sh} {v : V} {K : V → Option R} : (unC s v K).bind g = unC s v fun m => (K m).bind g := by
  unfold unC
  cases s with
  | i k => exact unI_bind
  | b => exact unB_bind
  | tx => exact unS_bind
  | l z => exact unL_bind
  | any => cases v <;> rfl
theorem unCs_bind {x : V} : ∀ {ss : List Sh} {j : Nat} {K : List V → Option R}, (unCs x j ss K).bind g = unCs x j ss fun m => (K m).bind g
  | [], _, _ => rfl
  | s :: ss, j, K => by unfold unCs; rw [unC_bind]; congr 1; funext c; exact unCs_bind
theorem unVs_bind {vs : List V} : ∀ {ts : List Ty} {j : Nat} {K : List V → Option R}, (unVs vs j ts K).bind g = unVs vs j ts fun m => (K m).bind g
  | [], _, _ => rfl
  | .c s :: ss, j, K => by unfold unVs; rw [unC_bind]; congr 1; funext c; exact unVs_bind
  | .agg s :: ss, j, K => by unfold unVs; rw [unSt_bind]; congr 1; exact unVs_bind
  | .p s :: ss, j, K => rfl
  | .tup s :: ss, j, K => rfl
theorem exN_bind {xs : List V} {n : Nat} {K : V → Option R} : (exN xs n K).bind g = exN xs n fun m => (K m).bind g := by unfold exN; cases xs[n]? <;> rfl
theorem ix_bind {xs : List V} {n : Int} {K : V → Option R} : (ix xs n K).bind g = ix xs n fun m => (K m).bind g := by
  cases n with
  | ofNat n => exact exN_bind
  | negSucc n => rfl
theorem ixS_bind {s : ByteArray} {n : Int} {K : Int → Option R} : (ixS s n K).bind g = ixS s n fun m => (K m).bind g := by
  cases n with
  | ofNat n => simp only [ixS]; cases s[n]? <;> rfl
  | negSucc n => rfl
theorem chk_bind {b : Bool} {K : Option R} : (chk b K).bind g = chk b (K.bind g) := by cases b <;> rfl
theorem bif_bind {b : Bool} {K K' : Option R} : (bif b then K else K').bind g = bif b then K.bind g else K'.bind g := by cases b <;> rfl
theorem asI_bind {v : V} {K : Int → Option R} : (asI v K).bind g = asI v fun m => (K m).bind g := by unfold asI; split <;> rfl
theorem unBytes_bind : ∀ {xs : List V} {K : List UInt8 → Option R}, (unBytes xs K).bind g = unBytes xs fun m => (K m).bind g
  | [], _ => rfl
  | x :: xs, K => by unfold unBytes; rw [unI_bind]; congr 1; funext c; exact unBytes_bind
theorem datC_bind {v : V} {K : V → Option R} : (datC v K).bind g = datC v fun m => (K m).bind g := by cases v <;> rfl
theorem datCs_bind : ∀ {vs : List V} {K : List V → Option R}, (datCs vs K).bind g = datCs vs fun m => (K m).bind g
  | [], _ => rfl
  | v :: vs, K => by unfold datCs; rw [datC_bind]; congr 1; funext c; exact datCs_bind
theorem aInt_bind {op : BinOp} {k : IntKind} {x y : Int} {K : Value → Option R} : (aInt op k x y K).bind g = aInt op k x y fun m => (K m).bind g := by
  cases op <;> simp only [aInt] <;> first | rfl | exact chk_bind
theorem aStr_bind {op : BinOp} {x y : ByteArray} {K : Value → Option R} : (aStr op x y K).bind g = aStr op x y fun m => (K m).bind g := by
  cases op <;> simp only [aStr] <;> first | rfl | exact chk_bind
theorem aBin_bind {t : Ty} {op : BinOp} {x y : V} {K : Value → Option R} : (aBin t op x y K).bind g = aBin t op x y fun m => (K m).bind g := by
  unfold aBin
  split
  · split
    · exact chk_bind
    · exact chk_bind
    · rw [bif_bind]; congr 1; exact aInt_bind
  · exact aStr_bind
  · rw [bif_bind]; congr 1; split <;> rfl
  · rfl
theorem aUn_bind {op : UnOp} {x : V} {K : Value → Option R} : (aUn op x K).bind g = aUn op x fun m => (K m).bind g := by
  unfold aUn; split <;> rfl
theorem pickB_bind {c x y : V} {K : V → Option R} : (pickB c x y K).bind g = pickB c x y fun m => (K m).bind g := by
  unfold pickB; split
  · split
    · rfl
    · rw [bif_bind]
  · rfl
theorem partCs_bind {v : V} {K : List V → Option R} : (partCs v K).bind g = partCs v fun m => (K m).bind g := by cases v <;> rfl
theorem fillP_bind {place : Nat → Option (Nat × Nat)} : ∀ {ps : List (Nat × V)} {cs : List V} {K : List V → Option R}, (fillP place cs ps K).bind g = fillP place cs ps fun m => (K m).bind g
  | [], _, _ => rfl
  | (i, v) :: ps, cs, K => by
    unfold fillP
    cases place i with
    | none => rfl
    | some q => simp only [partCs_bind, bif_bind, fillP_bind]; rfl

section
variable {lk : Nat → Ob}
theorem sealC_bind {v : V} {K : V → List (Nat × Option Nat) → Option R} : (sealC lk v K).bind g = sealC lk v fun m s => (K m s).bind g := by
  unfold sealC
  split <;> first | rfl | skip
  rename_i k c m
  cases obRow lk k c <;> rfl
theorem sealCs_bind : ∀ {vs : List V} {K : List V → List (Nat × Option Nat) → Option R}, (sealCs lk vs K).bind g = sealCs lk vs fun m s => (K m s).bind g
  | [], _ => rfl
  | v :: vs, K => by unfold sealCs; rw [sealC_bind]; congr 1; funext c s; exact sealCs_bind
theorem sealV_bind {v : V} {K : V → List (Nat × Option Nat) → Option R} : (sealV lk v K).bind g = sealV lk v fun m s => (K m s).bind g := by
  cases v <;> simp only [sealV] <;> first | exact sealC_bind | exact sealCs_bind | rfl
theorem sealVs_bind : ∀ {vs : List V} {K : List V → List (Nat × Option Nat) → Option R}, (sealVs lk vs K).bind g = sealVs lk vs fun m s => (K m s).bind g
  | [], _ => rfl
  | v :: vs, K => by unfold sealVs; rw [sealV_bind]; congr 1; funext c s; exact sealVs_bind
theorem boxed_bind {ss : List Sh} {v : V} {K : List V → List (Nat × Option Nat) → Option R} : (boxed lk ss v K).bind g = boxed lk ss v fun m s => (K m s).bind g := by
  cases v <;> simp only [boxed] <;> first
    | (rw [bif_bind]; congr 1; exact sealCs_bind)
    | (rw [unSt_bind]; congr 1; exact unCs_bind)
    | (split; exact sealC_bind; rfl)
theorem asLen_bind {v : V} {K : Nat → Option R} : (asLen lk v K).bind g = asLen lk v fun m => (K m).bind g := by
  unfold asLen
  split <;> first | rfl | skip
  rename_i k c m
  cases obRow lk k c <;> rfl
theorem asList_bind {z : Nat} {v : V} {K : List V → Option R} : (asList lk z v K).bind g = asList lk z v fun m => (K m).bind g := by
  unfold asList
  split
  · exact bif_bind
  · rfl
  · rename_i k c m
    cases obRow lk k c with
    | none => rfl
    | some q => exact bif_bind
  · rfl
end

theorem k0_bind {x : V} {K : V → Ob → List (Nat × Option Nat) → Option R} : Option.bind (match x with | .dead => none | x => K x .none []) g = (match x with | .dead => none | x => (K x .none []).bind g) := by
  cases x <;> rfl

/-- what comes behind is not looked at -/
theorem qv_bind {T : TT} {call : FuncId → List V → Option Res} {v : Operand → V} {lk : Nat → Ob} {d : Nat} {o : Oper} {K : V → Ob → List (Nat × Option Nat) → Option R} :
    (qv T call v lk d o K).bind g = qv T call v lk d o fun x ob s => (K x ob s).bind g := by
  obtain ⟨dst, op, type, pos, after, guard⟩ := o
  cases op <;> first
    | rfl
    | skip
  case move x => exact k0_bind
  case assign x => exact k0_bind
  case pick c x y => simp only [qv]; exact pickB_bind
  case alloc t => simp only [qv]; cases T.zero t <;> rfl
  case box t x => simp only [qv]; cases T.ty t <;> first | exact boxed_bind | rfl
  case build t ps => simp only [qv]; cases T.ty t <;> cases T.zero t <;> cases fnd T.offL t <;> first | exact fillP_bind | rfl
  case buildSlice t n ps =>
    simp only [qv]
    cases T.el t with
    | none => rfl
    | some q =>
      simp only
      cases T.zero q.1 with
      | none => rfl
      | some zs => simp only [bif_bind, sealVs_bind, wds_bind]; rfl
  case load t p =>
    simp only [qv]
    generalize v p = y
    generalize T.ty t = tt
    generalize ldRow lk y = ld
    cases ld with
    | some q =>
      obtain ⟨xs, i, j⟩ := q
      cases tt <;> first | rfl | skip
      · simp only [exN_bind, unC_bind]
      · cases j <;> simp only [exN_bind, unSt_bind, unCs_bind]
    | none =>
    simp only
    cases y <;> cases tt <;> first | rfl | skip
    case ptr.c k c i j s =>
      cases c <;> cases i <;> simp only
      · cases lk k with
        | none => rfl
        | box b cs => exact k0_bind
        | row b z xs => simp only [exN_bind, unC_bind]
      · cases obRow lk k none with
        | none => rfl
        | some q => simp only [exN_bind, unC_bind]
      · cases obRow lk k _ with
        | none => rfl
        | some q => simp only [exN_bind, unC_bind]
      · cases obRow lk k _ with
        | none => rfl
        | some q => simp only [exN_bind, unC_bind]
    case ptr.agg k c i j ss =>
      cases c <;> cases i <;> cases j <;> simp only
      · cases lk k with
        | none => rfl
        | box b cs => exact bif_bind
        | row b z xs => simp only [exN_bind, unSt_bind]
      · cases lk k with
        | none => rfl
        | box b cs => exact bif_bind
        | row b z xs => simp only [exN_bind, unCs_bind]
      all_goals
        cases obRow lk k _ with
        | none => rfl
        | some q => simp only [exN_bind, unSt_bind, unCs_bind]
    case ptr.p k c i j s => cases c <;> cases i <;> rfl
    case ptr.tup k c i j s => cases c <;> cases i <;> rfl
    case rp.c x j s => exact unC_bind
    case rp.agg x j ss => cases j <;> simp only [unSt_bind, unCs_bind]
  case nilCheck x => simp only [qv]; cases v x <;> rfl
  case binOp op t x y t' => simp only [qv]; exact aBin_bind
  case unOp op t x => simp only [qv]; exact aUn_bind
  case convert s t x =>
    simp only [qv]
    cases intTy (T.ty s) <;> cases intTy (T.ty t) <;> simp only [asI_bind, bif_bind, asList_bind, unBytes_bind] <;> rfl
  case makeSlice t l c =>
    simp only [qv]
    cases T.el t with
    | none => rfl
    | some q =>
      simp only
      cases T.zero q.1 <;> cases T.esz q.1 <;> simp only [asI_bind, chk_bind] <;> rfl
  case slice t x lo hi mx =>
    simp only [qv]
    generalize sliceOk T t (v x) = y
    generalize lo.map v = l
    generalize hi.map v = hh
    cases y <;> first | rfl | skip
    case sc u => cases u <;> first | rfl | (cases l <;> cases hh <;> simp only [asI_bind, chk_bind] <;> rfl)
    case sl z xs => cases l <;> cases hh <;> simp only [asI_bind, chk_bind] <;> rfl
    case nil => cases l <;> cases hh <;> simp only [asI_bind, chk_bind] <;> rfl
    case ref k c m =>
      cases hr : obRow lk k c with
      | none => cases l <;> cases hh <;> simp only [hr] <;> rfl
      | some q =>
        cases l <;> cases hh <;> simp only [hr, asI_bind, bif_bind, chk_bind]
        · rfl
        · congr 1
          funext h
          cases mx.map v <;> simp only [asI_bind, chk_bind]
        · rfl
        · rfl
  case fieldAddr t x f => simp only [qv]; cases T.off t f <;> cases v x <;> rfl
  case indexAddr t x i =>
    simp only [qv]
    generalize v x = y
    cases T.el t <;> cases T.arr t <;> cases y <;> simp only [bif_bind, asI_bind, ix_bind, chk_bind] <;> first | rfl | skip
    all_goals
      rename_i k c m
      cases obRow lk k c <;> simp only [bif_bind, asI_bind, ix_bind, chk_bind] <;> rfl
  case index t x i =>
    simp only [qv]
    generalize v x = y
    cases y <;> first | rfl | skip
    rename_i u
    cases u <;> simp only [bif_bind, asI_bind, ixS_bind] <;> rfl
  case extract x i => simp only [qv]; cases v x <;> first | rfl | exact k0_bind
  case makeFunc f first caps =>
    cases f <;> first | rfl | skip
    simp only [qv]
    generalize first.size = n
    generalize caps.toList = l
    match n, l with
    | 0, [] => rfl
    | 0, [c] =>
      simp only
      generalize v c = y
      cases y <;> first | rfl | skip
      rename_i k c i j
      cases c <;> cases i <;> cases j <;> first | rfl | skip
      simp only
      cases obBox lk k with
      | none => rfl
      | some cs => exact datCs_bind
    | 0, _ :: _ :: _ => rfl
    | _ + 1, _ => rfl
  case call c =>
    obtain ⟨callee, args, ts⟩ := c
    cases callee with
    | invoke r m => rfl
    | value f =>
      have go : ∀ f more, Option.bind (bif T.loud f then none else
        sealVs lk (nrmA T ts.toList (args.toList.map v)) fun vs s => (call f (vs ++ more)).bind fun r =>
          match T.ty type with
          | .c sh => unC sh r.1 fun x => K x .none s
          | .agg ss => unSt ss.length r.1 (K (.dt r.1) .none s)
          | .p ss => unIo r.1 fun cs => unCs (.st cs) 0 ss fun cs => K (.ptr d none 0 0) (.box true cs) s
          | .tup ts => unTup ts.length r.1 fun vs => unVs vs 0 ts fun vs => K (.tup vs) .none s) g = (bif T.loud f then none else
        sealVs lk (nrmA T ts.toList (args.toList.map v)) fun vs s => (call f (vs ++ more)).bind fun r =>
          match T.ty type with
          | .c sh => unC sh r.1 fun x => (K x .none s).bind g
          | .agg ss => unSt ss.length r.1 ((K (.dt r.1) .none s).bind g)
          | .p ss => unIo r.1 fun cs => unCs (.st cs) 0 ss fun cs => (K (.ptr d none 0 0) (.box true cs) s).bind g
          | .tup ts => unTup ts.length r.1 fun vs => unVs vs 0 ts fun vs => (K (.tup vs) .none s).bind g) := fun f more => by
        rw [bif_bind, sealVs_bind]
        congr 1
        congr 1
        funext vs s
        cases call f (vs ++ more) with
        | none => rfl
        | some r =>
          simp only [Option.bind_some]
          cases T.ty type <;> simp only [unC_bind, unSt_bind, unIo_bind, unCs_bind, unTup_bind, unVs_bind]
      simp only [qv]
      generalize v f = y
      cases y <;> first | rfl | skip
      · rename_i u
        cases u <;> first | rfl | skip
        rename_i fn fs cv
        cases fn <;> first | rfl | skip
        exact bif_bind.trans (congrArg (fun z => bif (Nat.beq fs.size 0 && Nat.beq cv.size 0) then z else none) (go _ []))
      · rename_i f' caps
        exact bif_bind.trans (congrArg (fun z => bif caps.all isRp then z else none) (go f' caps))
    | builtin b =>
      cases b <;> first | rfl | skip
      · simp only [qv]
        generalize args.toList = l
        generalize ts.toList = l'
        match l, l' with
        | [x], [t] => exact asLen_bind
        | [], _ => rfl
        | [_], [] => rfl
        | [_], _ :: _ :: _ => rfl
        | _ :: _ :: _, _ => rfl
      · simp only [qv]
        split <;> rfl
      · simp only [qv]
        split <;> rfl

theorem qv_nat {T : TT} {call : FuncId → List V → Option Res} {v : Operand → V} {lk : Nat → Ob} {d : Nat} {o : Oper} {K : V → Ob → List (Nat × Option Nat) → Option R} {r : R} (h : qv T call v lk d o K = some r) :
    ∃ x ob s, K x ob s = some r ∧ qv T call v lk d o (fun x ob s => some (x, ob, s)) = some (x, ob, s) := by
  have e : qv T call v lk d o K = (qv T call v lk d o fun x ob s => some (x, ob, s)).bind fun p => K p.1 p.2.1 p.2.2 := by rw [qv_bind]; rfl
  rw [e] at h
  cases hq : qv T call v lk d o (fun x ob s => some (x, ob, s)) with
  | none => rw [hq] at h; cases h
  | some p => rw [hq] at h; exact ⟨p.1, p.2.1, p.2.2, h, rfl⟩
theorem qv_at {T : TT} {call : FuncId → List V → Option Res} {v : Operand → V} {lk : Nat → Ob} {d : Nat} {o : Oper} {x : V} {ob : Ob} {s : List (Nat × Option Nat)}
    (h : qv T call v lk d o (fun x ob s => some (x, ob, s)) = some (x, ob, s)) (K : V → Ob → List (Nat × Option Nat) → Option R) : qv T call v lk d o K = K x ob s := by
  have e : qv T call v lk d o K = (qv T call v lk d o fun x ob s => some (x, ob, s)).bind fun p => K p.1 p.2.1 p.2.2 := by rw [qv_bind]; rfl
  rw [e, h]; rfl
end

/-! ### what an operation looks at -/
section
variable {R : Type} {lk1 lk2 : Nat → Ob}
/-- what v refers to is in both alike -/
def KV (lk1 lk2 : Nat → Ob) (v : V) : Prop := ∀ k c, (k, c) ∈ keysV v → lk1 k = lk2 k
theorem KV.key {v : V} (h : KV lk1 lk2 v) {k : Nat} {c : Option Nat} (hk : (k, c) ∈ keysV v) : lk1 k = lk2 k := h k c hk
theorem obRow_eq {k : Nat} (h : lk1 k = lk2 k) (c : Option Nat) : obRow lk1 k c = obRow lk2 k c := by unfold obRow; rw [h]
theorem obBox_eq {k : Nat} (h : lk1 k = lk2 k) : obBox lk1 k = obBox lk2 k := by unfold obBox; rw [h]
theorem sealC_eq {v : V} (h : ∀ k c, keyC v = some (k, c) → lk1 k = lk2 k) {K : V → List (Nat × Option Nat) → Option R} : sealC lk1 v K = sealC lk2 v K := by
  cases v <;> first | rfl | skip
  rename_i k c m
  simp only [sealC]
  rw [obRow_eq (h k c rfl)]
theorem sealCs_eq : ∀ {vs : List V}, (∀ v ∈ vs, ∀ k c, keyC v = some (k, c) → lk1 k = lk2 k) → ∀ {K : List V → List (Nat × Option Nat) → Option R}, sealCs lk1 vs K = sealCs lk2 vs K
  | [], _, _ => rfl
  | v :: vs, h, K => by
    unfold sealCs
    rw [sealC_eq (h v (by simp))]
    congr 1
    funext c s
    exact sealCs_eq fun u hu => h u (List.mem_cons_of_mem _ hu)
theorem KV.one {v : V} (h : KV lk1 lk2 v) (hs : ∀ cs, v ≠ .st cs) (ht : ∀ cs, v ≠ .tup cs) : ∀ k c, keyC v = some (k, c) → lk1 k = lk2 k := fun k c hk => h k c (by
  cases v <;> first | exact absurd rfl (hs _) | exact absurd rfl (ht _) | (simp only [keysV, hk]; simp))
theorem KV.many {cs : List V} (h : KV lk1 lk2 (.st cs)) : ∀ c ∈ cs, ∀ k q, keyC c = some (k, q) → lk1 k = lk2 k := fun c hc k q hk => h k q (List.mem_filterMap.2 ⟨c, hc, hk⟩)
theorem sealV_eq {v : V} (h : KV lk1 lk2 v) {K : V → List (Nat × Option Nat) → Option R} : sealV lk1 v K = sealV lk2 v K := by
  cases v <;> simp only [sealV] <;> first
    | exact sealCs_eq h.many
    | rfl
    | exact sealC_eq (h.one (by simp) (by simp))
theorem sealVs_eq : ∀ {vs : List V}, (∀ v ∈ vs, KV lk1 lk2 v) → ∀ {K : List V → List (Nat × Option Nat) → Option R}, sealVs lk1 vs K = sealVs lk2 vs K
  | [], _, _ => rfl
  | v :: vs, h, K => by
    unfold sealVs
    rw [sealV_eq (h v (by simp))]
    congr 1
    funext c s
    exact sealVs_eq fun u hu => h u (List.mem_cons_of_mem _ hu)
theorem boxed_eq {ss : List Sh} {v : V} (h : KV lk1 lk2 v) {K : List V → List (Nat × Option Nat) → Option R} : boxed lk1 ss v K = boxed lk2 ss v K := by
  cases v <;> simp only [boxed] <;> first
    | rfl
    | (congr 1; exact sealCs_eq h.many)
    | (split; exact sealC_eq (h.one (by simp) (by simp)); rfl)
theorem asLen_eq {v : V} (h : KV lk1 lk2 v) {K : Nat → Option R} : asLen lk1 v K = asLen lk2 v K := by
  cases v <;> first | rfl | skip
  case sc u => cases u <;> rfl
  simp only [asLen]
  rename_i k c m
  rw [obRow_eq (h.key (k := k) (c := c) (by simp [keysV, keyC]))]
theorem asList_eq {z : Nat} {v : V} (h : KV lk1 lk2 v) {K : List V → Option R} : asList lk1 z v K = asList lk2 z v K := by
  cases v <;> first | rfl | skip
  simp only [asList]
  rename_i k c m
  rw [obRow_eq (h.key (k := k) (c := c) (by simp [keysV, keyC]))]

theorem qv_lk {T : TT} {call : FuncId → List V → Option Res} {v : Operand → V} {d : Nat} {o : Oper} (hv : ∀ x ∈ o.op.operands, KV lk1 lk2 (v x)) (K : V → Ob → List (Nat × Option Nat) → Option R) :
    qv T call v lk1 d o K = qv T call v lk2 d o K := by
  obtain ⟨dst, op, type, pos, after, guard⟩ := o
  cases op <;> first
    | rfl
    | skip
  case box t x =>
    have h := hv x (by simp [Op.operands])
    simp only [qv]
    cases T.ty t <;> first | exact boxed_eq h | rfl
  case buildSlice t n ps =>
    simp only [qv]
    have h : ∀ e, ∀ u ∈ ps.toList.map (fun p => nrmV T e (v p.2)), KV lk1 lk2 u := fun e u hu => by
      obtain ⟨p, hp, rfl⟩ := List.mem_map.1 hu
      have := hv p.2 (by simp only [Op.operands, List.mem_toArray, List.mem_map]; exact ⟨p, hp, rfl⟩)
      intro k c hk
      rw [keysV_nrm] at hk
      exact this k c hk
    cases T.el t with
    | none => rfl
    | some q =>
      simp only
      cases T.zero q.1 with
      | none => rfl
      | some zs => simp only; congr 1; congr 1; exact sealVs_eq (h _)
  case load t p =>
    have h := hv p (by simp [Op.operands])
    simp only [qv]
    revert h
    generalize v p = y
    generalize T.ty t = tt
    intro h
    cases y <;> first | rfl | skip
    case rp x j => cases tt <;> cases j <;> rfl
    rename_i k c i j
    have hk := h.key (k := k) (c := c) (by simp [keysV, keyC])
    have hld : ldRow lk1 (.ptr k c i j) = ldRow lk2 (.ptr k c i j) := by
      have e : ∀ lk, ldRow lk (.ptr k c i j) = match obRow lk k c with | some (_, _, xs) => some (xs, i, j) | none => none := fun _ => rfl
      rw [e, e, obRow_eq hk c]
    rw [hld]
    cases ldRow lk2 (.ptr k c i j) with
    | some q => rfl
    | none => cases tt <;> cases c <;> cases i <;> first | rfl | simp only [hk, obRow_eq hk]
  case convert s t x =>
    have h := hv x (by simp [Op.operands])
    simp only [qv]
    cases intTy (T.ty s) <;> cases intTy (T.ty t) <;> simp only [asList_eq h]
  case slice t x lo hi mx =>
    have h := hv x (by simp [Op.operands])
    simp only [qv]
    generalize hs : sliceOk T t (v x) = y
    cases y
    case sc u => cases u <;> first | rfl | (cases lo <;> cases hi <;> rfl)
    case sl => cases lo <;> cases hi <;> rfl
    case nil => cases lo <;> cases hi <;> rfl
    case ref k c m =>
      have hx : v x = .ref k c m := by
        rcases @sliceOk_some T t (v x) with ⟨s, e1, e2, e3⟩ | ⟨z, xs, e, e1, e2, e3⟩ | ⟨k', c', m', e, z, e1, e2, e3⟩ | ⟨e, z, e1, e2, e3⟩ | e1 <;> rw [hs] at e1 <;> cases e1
        exact e2
      have hk := h.key (k := k) (c := c) (by rw [hx]; simp [keysV, keyC])
      cases lo <;> cases hi <;> first | rfl | simp only [Option.map_some, Option.map_none, obRow_eq hk]
    all_goals rfl
  case indexAddr t x i =>
    have h := hv x (by simp [Op.operands])
    simp only [qv]
    revert h
    generalize v x = y
    intro h
    by_cases hy : ∃ k c m, y = .ref k c m
    · obtain ⟨k, c, m, rfl⟩ := hy
      have hk := h.key (k := k) (c := c) (by simp [keysV, keyC])
      cases T.el t <;> cases T.arr t <;> simp only [obRow_eq hk]
    · cases y <;> first
        | exact absurd ⟨_, _, _, rfl⟩ hy
        | (cases T.el t <;> cases T.arr t <;> rfl)
  case makeFunc f first caps =>
    cases f <;> first | rfl | skip
    simp only [qv]
    have hc : ∀ c ∈ caps.toList, KV lk1 lk2 (v c) := fun c hc => hv c (by simp only [Op.operands, Array.mem_append]; exact .inr (Array.mem_toList_iff.1 hc))
    revert hc
    generalize first.size = n
    generalize caps.toList = l
    intro hc
    match n, l with
    | 0, [] => rfl
    | 0, [c] =>
      have h := hc c (by simp)
      simp only
      revert h
      generalize v c = y
      intro h
      cases y <;> first | rfl | skip
      rename_i k c i j
      have hk := h.key (k := k) (c := c) (by simp [keysV, keyC])
      cases c <;> cases i <;> cases j <;> simp only [obBox_eq hk]
    | 0, _ :: _ :: _ => rfl
    | _ + 1, _ => rfl
  case call c =>
    obtain ⟨callee, args, ts⟩ := c
    have ha : ∀ u ∈ args.toList.map v, KV lk1 lk2 u := fun u hu => by
      obtain ⟨p, hp, rfl⟩ := List.mem_map.1 hu
      exact hv p (by simp only [Op.operands, Call.operands]; cases callee <;> simp [Array.mem_toList_iff.1 hp])
    have han : ∀ u ∈ nrmA T ts.toList (args.toList.map v), KV lk1 lk2 u := fun u hu => by
      obtain ⟨i, hi, rfl⟩ := List.getElem_of_mem hu
      obtain ⟨v0, hv0, e0⟩ := nrmA_get _ _ i (List.getElem?_eq_getElem hi)
      have h0 := ha v0 (List.mem_of_getElem? hv0)
      rcases e0 with e0 | ⟨t, e0⟩
      · rw [e0]; exact h0
      · rw [e0]; intro k c hk; rw [keysV_nrm] at hk; exact h0 k c hk
    cases callee with
    | invoke r m => rfl
    | value f =>
      simp only [qv]
      cases v f <;> first | rfl | skip
      · rename_i u
        cases u <;> first | rfl | skip
        rename_i fn fs cv
        cases fn <;> first | rfl | skip
        simp only [sealVs_eq han]
      · simp only [sealVs_eq han]
    | builtin b =>
      cases b <;> first | rfl | skip
      simp only [qv]
      revert ha
      generalize args.toList = l
      intro ha
      cases l with
      | nil => rfl
      | cons x l =>
        cases l with
        | cons y l => rfl
        | nil =>
          generalize ts.toList = l'
          cases l' with
          | nil => rfl
          | cons t l' =>
            cases l' with
            | cons t' l' => rfl
            | nil =>
              simp only
              refine asLen_eq ?_
              have h := ha (v x) (by simp)
              rcases @sliceOk_some T t (v x) with ⟨s, e1, e2, e3⟩ | ⟨z, xs, e, e1, e2, e3⟩ | ⟨k', c', m', e, z, e1, e2, e3⟩ | ⟨e, z, e1, e2, e3⟩ | e1
              · rw [e1, ← e2]; exact h
              · rw [e1, ← e2]; exact h
              · rw [e1, ← e2]; exact h
              · rw [e1, ← e2]; exact h
              · rw [e1]; exact fun k c hk => by simp [keysV, keyC] at hk

theorem qv_v {T : TT} {call : FuncId → List V → Option Res} {v v' : Operand → V} {lk : Nat → Ob} {d : Nat} {o : Oper} (hv : ∀ x ∈ o.op.operands, v x = v' x) (K : V → Ob → List (Nat × Option Nat) → Option R) :
    qv T call v lk d o K = qv T call v' lk d o K := by
  obtain ⟨dst, op, type, pos, after, guard⟩ := o
  cases op <;> simp only [Op.operands] at hv <;> simp only [qv]
  case build t ps =>
    have : (ps.toList.map fun p => (p.1, v p.2)) = ps.toList.map fun p => (p.1, v' p.2) := List.map_congr_left fun p hp => by
      rw [hv p.2 (by simp only [List.mem_toArray, List.mem_map]; exact ⟨p, hp, rfl⟩)]
    simp only [this]
  case buildSlice t n ps =>
    have : ∀ e, (ps.toList.map fun p => nrmV T e (v p.2)) = ps.toList.map fun p => nrmV T e (v' p.2) := fun e => List.map_congr_left fun p hp => by
      rw [hv p.2 (by simp only [List.mem_toArray, List.mem_map]; exact ⟨p, hp, rfl⟩)]
    simp only [this]
  case slice t x lo hi mx =>
    have h1 := hv x (by simp)
    have h2 : lo.map v = lo.map v' := by cases lo <;> simp_all
    have h3 : hi.map v = hi.map v' := by cases hi <;> simp_all
    have h4 : mx.map v = mx.map v' := by cases mx <;> simp_all
    simp only [h1, h2, h3, h4]
  case makeFunc f first caps =>
    cases f <;> first | rfl | skip
    simp only
    have hc : ∀ c ∈ caps.toList, v c = v' c := fun c hc => hv c (by simp only [Array.mem_append]; exact .inr (Array.mem_toList_iff.1 hc))
    revert hc
    generalize first.size = n
    generalize caps.toList = l
    intro hc
    match n, l with
    | 0, [] => rfl
    | 0, [c] => simp only [hc c (by simp)]
    | 0, _ :: _ :: _ => rfl
    | _ + 1, _ => rfl
  case call c =>
    obtain ⟨callee, args, ts⟩ := c
    have ha : args.toList.map v = args.toList.map v' := List.map_congr_left fun p hp => hv p (by simp only [Call.operands]; cases callee <;> simp [Array.mem_toList_iff.1 hp])
    cases callee with
    | invoke r m => rfl
    | value f =>
      have hf : v f = v' f := hv f (by simp [Call.operands])
      simp only [hf, ha]
    | builtin b =>
      cases b <;> first | rfl | skip
      · simp only
        have hx : ∀ x ∈ args.toList, v x = v' x := fun p hp => hv p (by simp only [Call.operands]; simp [Array.mem_toList_iff.1 hp])
        revert hx
        generalize args.toList = l
        intro hx
        cases l with
        | nil => rfl
        | cons x l => cases l with
          | nil =>
            generalize ts.toList = l'
            match l' with
            | [] => rfl
            | [t] => simp only [hx x (by simp)]
            | _ :: _ :: _ => rfl
          | cons y l => rfl
      · simp only [ha]
      · simp only [ha]
  all_goals first
    | rfl
    | (simp_all; done)
end
end Go.Proofs.YtmddfhjgdhjmkaaDoor.VM

/- The abstract machine and the memory: regions in any order. -/
set_option linter.unusedVariables false
set_option linter.unusedSimpArgs false
namespace Go.Proofs.YtmddfhjgdhjmkaaDoor.VM

structure Eff where
  d : Nat
  x : V
  ob : Ob
  s : List (Nat × Option Nat)
def Eff.ap (e : Eff) (σ : St) : St := putN σ e.d e.x e.ob
def stM : List Eff → (Nat → Bool) → St → St
  | [], _, σ => σ
  | e :: E, D, σ => stM E (fun i => D (i + 1)) (if D 0 then e.ap σ else σ)

theorem stM_none : ∀ (E : List Eff) {D : Nat → Bool} {σ : St}, (∀ i, D i = false) → stM E D σ = σ
  | [], _, _, _ => rfl
  | e :: E, D, σ, h => by unfold stM; rw [h 0]; exact stM_none E fun i => h (i + 1)
theorem stM_congr : ∀ (E : List Eff) {D D' : Nat → Bool} {σ : St}, (∀ i, i < E.length → D i = D' i) → stM E D σ = stM E D' σ
  | [], _, _, _, _ => rfl
  | e :: E, D, D', σ, h => by
    unfold stM
    rw [h 0 (by simp)]
    exact stM_congr E fun i hi => h (i + 1) (by simp only [List.length_cons]; omega)
theorem putN_comm {σ : St} {d d' : Nat} {x x' : V} {ob ob' : Ob} (h : d ≠ d') : putN (putN σ d x ob) d' x' ob' = putN (putN σ d' x' ob') d x ob := by
  unfold putN
  congr 1
  · exact List.set_comm _ _ h
  · cases ob <;> cases ob' <;> first | rfl | exact List.set_comm _ _ h
theorem stM_ap : ∀ (E : List Eff) {D : Nat → Bool} {σ : St} {e : Eff}, e.d ∉ E.map Eff.d → stM E D (e.ap σ) = e.ap (stM E D σ)
  | [], _, _, _, _ => rfl
  | e' :: E, D, σ, e, h => by
    simp only [List.map_cons, List.mem_cons, not_or] at h
    unfold stM
    split
    · have : e'.ap (e.ap σ) = e.ap (e'.ap σ) := putN_comm h.1
      rw [this, stM_ap E h.2]
    · exact stM_ap E h.2
theorem stM_insert : ∀ (E : List Eff) {D : Nat → Bool} {σ : St} {j : Nat} {e : Eff}, (E.map Eff.d).Nodup → E[j]? = some e → D j = false → stM E (fun i => D i || i == j) σ = e.ap (stM E D σ)
  | [], _, _, _, _, _, h, _ => by simp at h
  | e' :: E, D, σ, j, e, hnd, hj, hD => by
    simp only [List.map_cons, List.nodup_cons] at hnd
    unfold stM
    cases j with
    | zero =>
      simp at hj
      subst hj
      rw [hD]
      simp only [beq_self_eq_true, Bool.or_true, if_true, Bool.false_eq_true, if_false]
      rw [← stM_ap E hnd.1]
      exact stM_congr E fun i _ => by simp
    | succ j =>
      have ih := fun σ' => stM_insert E (D := fun i => D (i + 1)) (σ := σ') hnd.2 (by simpa using hj) hD
      have h0 : (D 0 || (0 : Nat) == j + 1) = D 0 := by simp
      show stM E (fun i => D (i + 1) || (i + 1 : Nat) == j + 1) (if (D 0 || (0 : Nat) == j + 1) = true then e'.ap σ else σ) = _
      rw [h0]
      have : (fun i => D (i + 1) || (i + 1 : Nat) == j + 1) = fun i => D (i + 1) || i == j := by funext i; simp
      rw [this]
      exact ih _

theorem putN_sl {σ : St} {d t : Nat} {x : V} {ob : Ob} (h : d ≠ t) : (putN σ d x ob).sl.getD t .dead = σ.sl.getD t .dead := by
  show (σ.sl.set d x).getD t .dead = _
  rw [getD_set_slots, if_neg (fun hh => h hh.1.symm)]
theorem putN_ob {σ : St} {d k : Nat} {x : V} {ob : Ob} (h : d = k → isNone ob = true) : (putN σ d x ob).ob.getD k .none = σ.ob.getD k .none := by
  show (setN σ.ob d ob).getD k .none = _
  rw [getD_setN, if_neg]
  rintro ⟨h1, _, h2⟩
  rw [h h1.symm] at h2
  cases h2
theorem sl_agree {t : Nat} : ∀ (E : List Eff) {D D' : Nat → Bool} {σ σ' : St}, σ.sl.getD t .dead = σ'.sl.getD t .dead → σ.sl.length = σ'.sl.length → (∀ (i : Nat) e, E[i]? = some e → e.d = t → D i = D' i) →
    (stM E D σ).sl.getD t .dead = (stM E D' σ').sl.getD t .dead
  | [], _, _, _, _, h, _, _ => h
  | e :: E, D, D', σ, σ', h, hl, hD => by
    unfold stM
    have key : (if D 0 then e.ap σ else σ).sl.getD t .dead = (if D' 0 then e.ap σ' else σ').sl.getD t .dead := by
      by_cases he : e.d = t
      · rw [hD 0 e rfl he]
        split
        · show (σ.sl.set e.d e.x).getD t .dead = (σ'.sl.set e.d e.x).getD t .dead
          rw [getD_set_slots, getD_set_slots, hl, h]
        · exact h
      · have h1 : (e.ap σ).sl.getD t .dead = σ.sl.getD t .dead := putN_sl he
        have h2 : (e.ap σ').sl.getD t .dead = σ'.sl.getD t .dead := putN_sl he
        split <;> split <;> first | rw [h1, h2, h] | rw [h1, h] | rw [h2, h] | exact h
    refine sl_agree E key ?_ fun i e' hi => hD (i + 1) e' (by simpa using hi)
    have h1 : (e.ap σ).sl.length = σ.sl.length := by simp [Eff.ap, putN]
    have h2 : (e.ap σ').sl.length = σ'.sl.length := by simp [Eff.ap, putN]
    split <;> split <;> omega
theorem ob_agree {k : Nat} : ∀ (E : List Eff) {D D' : Nat → Bool} {σ σ' : St}, σ.ob.getD k .none = σ'.ob.getD k .none → σ.ob.length = σ'.ob.length → (∀ (i : Nat) e, E[i]? = some e → e.d = k → isNone e.ob = false → D i = D' i) →
    (stM E D σ).ob.getD k .none = (stM E D' σ').ob.getD k .none
  | [], _, _, _, _, h, _, _ => h
  | e :: E, D, D', σ, σ', h, hl, hD => by
    unfold stM
    have key : (if D 0 then e.ap σ else σ).ob.getD k .none = (if D' 0 then e.ap σ' else σ').ob.getD k .none := by
      by_cases he : e.d = k ∧ isNone e.ob = false
      · rw [hD 0 e rfl he.1 he.2]
        split
        · show (setN σ.ob e.d e.ob).getD k .none = (setN σ'.ob e.d e.ob).getD k .none
          rw [getD_setN, getD_setN, hl, h]
        · exact h
      · have hh : e.d = k → isNone e.ob = true := fun h1 => by
          cases hn : isNone e.ob
          · exact absurd ⟨h1, hn⟩ he
          · rfl
        have h1 : (e.ap σ).ob.getD k .none = σ.ob.getD k .none := putN_ob hh
        have h2 : (e.ap σ').ob.getD k .none = σ'.ob.getD k .none := putN_ob hh
        split <;> split <;> first | rw [h1, h2, h] | rw [h1, h] | rw [h2, h] | exact h
    refine ob_agree E key ?_ fun i e' hi => hD (i + 1) e' (by simpa using hi)
    have h1 : (e.ap σ).ob.length = σ.ob.length := by simp [Eff.ap, putN, setN_length]
    have h2 : (e.ap σ').ob.length = σ'.ob.length := by simp [Eff.ap, putN, setN_length]
    split <;> split <;> omega

/-- whether a guarded operation is to run -/
def wantB (all : List Oper) (σ : St) (o : Oper) : Option Bool :=
  match o.guard with
  | none => some true
  | some (j, want) => match (all[j]?).bind (·.dst) with
    | none => none
    | some g => match σ.sl.getD g .dead with
      | .sc (.bool t) => some (t == want)
      | .tup [] => some false
      | _ => none

abbrev K3 : V → Ob → List (Nat × Option Nat) → Option (V × Ob × List (Nat × Option Nat)) := fun x ob s => some (x, ob, s)
def EfOk (T : TT) (call : FuncId → List V → Option Res) (all : List Oper) (σ : St) (o : Oper) (e : Eff) : Prop :=
  o.dst = some e.d ∧ ((wantB all σ o = some true ∧ isQuiet T o = true ∧ keysOk T σ o = true ∧ qv T call (val T σ) (lkE σ) e.d o K3 = some (e.x, e.ob, e.s) ∧ (isNone e.ob = true ∨ isNone (σ.ob.getD e.d .none) = true)) ∨
    (wantB all σ o = some false ∧ e.x = .tup [] ∧ e.ob = .none ∧ e.s = []))
def TrQ (T : TT) (call : FuncId → List V → Option Res) (all : List Oper) : List Oper → St → List Eff → Prop
  | _, _, [] => True
  | o :: ops, σ, e :: E => EfOk T call all σ o e ∧ TrQ T call all ops (e.ap σ) E
  | [], _, _ :: _ => False
def Rest (T : TT) (call : FuncId → List V → Option Res) (all : List Oper) (ops : List Oper) (σ : St) (fs : List (Nat × Option Nat)) (K : St → Option Res) (r : Res) : Prop :=
  match ops with
  | [] => K (σF σ fs) = some r
  | o :: ops => isQuiet T o = false ∧ wantB all σ o = some true ∧ exLoud T call (σF σ fs) o (fun σ' => exOps T call true all ops σ' [] K) = some r

section
variable {P : Program} {T : TT} {U : Nat → Prop} {w0 w : World} {F0 : Fr} {a : Act} {ow : Own} {r : Res} {call : FuncId → List V → Option Res} {all : List Oper}

theorem seg_split {K : St → Option Res} : ∀ (ops : List Oper) (σ : St) (fs : List (Nat × Option Nat)), exOps T call true all ops σ fs K = some r →
    ∃ E, E.length ≤ ops.length ∧ TrQ T call all ops σ E ∧ Rest T call all (ops.drop E.length) (stM E (fun _ => true) σ) (fs ++ E.flatMap Eff.s) K r
  | [], σ, fs, h => ⟨[], Nat.le_refl _, trivial, by simpa [Rest, stM, exOps, σF] using h⟩
  | o :: ops, σ, fs, h => by
    -- the operation is to run
    have run : wantB all σ o = some true → exOp T call true σ fs o (fun σ fs => exOps T call true all ops σ fs K) = some r →
        ∃ E, E.length ≤ (o :: ops).length ∧ TrQ T call all (o :: ops) σ E ∧ Rest T call all ((o :: ops).drop E.length) (stM E (fun _ => true) σ) (fs ++ E.flatMap Eff.s) K r := fun hw he => by
      unfold exOp at he
      cases hq : isQuiet T o with
      | false =>
        rw [hq] at he
        exact ⟨[], by simp, trivial, hq, hw, by
          simp only [List.length_nil, List.drop_zero, List.flatMap_nil, List.append_nil, stM]; exact he⟩
      | true =>
        rw [hq] at he
        simp only [cond_true, Bool.true_and] at he
        cases hk : keysOk T σ o with
        | false => rw [hk] at he; simp at he
        | true =>
          rw [hk] at he
          simp only [Bool.not_true, cond_false] at he
          split at he
          · rename_i d hd
            obtain ⟨x, ob, s, hK, hqv⟩ := qv_nat he
            obtain ⟨h0, hK2⟩ := bif_some hK
            obtain ⟨E, h1, h2, h3⟩ := seg_split ops _ _ hK2
            refine ⟨⟨d, x, ob, s⟩ :: E, by simp only [List.length_cons]; omega, ⟨⟨hd, .inl ⟨hw, hq, hk, hqv, by simpa using h0⟩⟩, h2⟩, ?_⟩
            simp only [List.length_cons, List.drop_succ_cons, List.flatMap_cons, stM, if_true]
            rw [← List.append_assoc]
            exact h3
          · cases he
    unfold exOps at h
    split at h
    · rename_i hg
      exact run (by unfold wantB; rw [hg]) h
    · rename_i j want hg
      split at h
      · cases h
      · rename_i g hgd
        cases hun : isUndef (σ.sl.getD g .dead) with
        | true =>
          rw [hun] at h
          simp only [cond_true] at h
          have hx : σ.sl.getD g .dead = .tup [] := by
            cases hv : σ.sl.getD g .dead <;> rw [hv] at hun <;> first | (cases hun; done) | skip
            rename_i vs
            cases vs <;> first | rfl | cases hun
          have hwb : wantB all σ o = some false := by unfold wantB; rw [hg]; simp only; rw [hgd]; simp only; rw [hx]
          split at h
          · rename_i d hd
            obtain ⟨E, h1, h2, h3⟩ := seg_split ops ⟨σ.sl.set d (.tup []), σ.ob⟩ fs h
            refine ⟨⟨d, .tup [], .none, []⟩ :: E, by simp only [List.length_cons]; omega, ⟨⟨hd, .inr ⟨hwb, rfl, rfl, rfl⟩⟩, h2⟩, ?_⟩
            simp only [List.length_cons, List.drop_succ_cons, List.flatMap_cons, stM, if_true, List.nil_append]
            exact h3
          · cases h
        | false =>
        rw [hun] at h
        obtain ⟨t, ht, hk2⟩ := unB_some h
        have hk3 : (bif t == want then exOp T call true ⟨σ.sl.set g (.sc (.bool t)), σ.ob⟩ fs o (fun σ fs => exOps T call true all ops σ fs K) else match o.dst with
            | some d => exOps T call true all ops ⟨(σ.sl.set g (.sc (.bool t))).set d (.tup []), σ.ob⟩ fs K
            | none => none) = some r := by cases t <;> exact hk2
        rw [set_same ht] at hk3
        have hwb : wantB all σ o = some (t == want) := by unfold wantB; rw [hg]; simp only; rw [hgd]; simp only; rw [ht]
        cases htw : (t == want) with
        | true =>
          rw [htw] at hk3 hwb
          exact run hwb hk3
        | false =>
          rw [htw] at hk3 hwb
          simp only [cond_false] at hk3
          split at hk3
          · rename_i d hd
            obtain ⟨E, h1, h2, h3⟩ := seg_split ops ⟨σ.sl.set d (.tup []), σ.ob⟩ fs hk3
            refine ⟨⟨d, .tup [], .none, []⟩ :: E, by simp only [List.length_cons]; omega, ⟨⟨hd, .inr ⟨hwb, rfl, rfl, rfl⟩⟩, h2⟩, ?_⟩
            simp only [List.length_cons, List.drop_succ_cons, List.flatMap_cons, stM, if_true, List.nil_append]
            exact h3
          · cases hk3

theorem TrQ.at : ∀ (ops : List Oper) (σ : St) (E : List Eff), TrQ T call all ops σ E → ∀ (j : Nat) e, E[j]? = some e → ∃ o, ops[j]? = some o ∧ EfOk T call all (stM E (fun i => decide (i < j)) σ) o e
  | _, _, [], _, j, e, hj => by simp at hj
  | [], _, _ :: _, h, _, _, _ => h.elim
  | o :: ops, σ, e' :: E, h, j, e, hj => by
    cases j with
    | zero =>
      simp at hj
      subst hj
      refine ⟨o, rfl, ?_⟩
      rw [stM_none _ (by intro i; simp)]
      exact h.1
    | succ j =>
      obtain ⟨o', h1, h2⟩ := TrQ.at ops _ E h.2 j e (by simpa using hj)
      refine ⟨o', by simpa using h1, ?_⟩
      have : stM (e' :: E) (fun i => decide (i < j + 1)) σ = stM E (fun i => decide (i < j)) (e'.ap σ) := by
        show stM E (fun i => decide (i + 1 < j + 1)) (if decide (0 < j + 1) = true then e'.ap σ else σ) = _
        simp
      rw [this]
      exact h2

theorem keysN_of {v : V} {k : Nat} {c : Option Nat} (h : (k, c) ∈ keysV v) : k ∈ keysN v := by
  have one : ∀ {u : V} {k : Nat} {c : Option Nat}, keyC u = some (k, c) → k ∈ keysC u := fun {u k c} hk => by
    cases u <;> simp only [keyC] at hk <;> first | cases hk; done | (cases hk; simp [keysC])
  have many : ∀ {cs : List V} {k : Nat} {c : Option Nat}, (k, c) ∈ cs.filterMap keyC → k ∈ cs.flatMap keysC := fun {cs k c} hk => by
    obtain ⟨u, hu, hk⟩ := List.mem_filterMap.1 hk
    exact List.mem_flatMap.2 ⟨u, hu, one hk⟩
  cases v with
  | st cs => exact many h
  | tup vs =>
    obtain ⟨u, hu, hk⟩ := List.mem_flatMap.1 h
    refine List.mem_flatMap.2 ⟨u, hu, ?_⟩
    cases u with
    | st cs => exact many hk
    | _ => first | (exfalso; simp [keyC] at hk; done) | (exact one (Option.mem_toList.1 hk))
  | _ => first | (exfalso; simp [keysV, keyC] at h; done) | (simp only [keysV, keyC, Option.toList_some, List.mem_singleton, Prod.mk.injEq] at h; simp [keysN, keysC, h.1])

theorem wanted_of {σ : St} (h : Sim T.globL U w0 F0 σ a w ow) {all : Array Oper} {o : Oper} {b : Bool} (hb : wantB all.toList σ o = some b) : Region.wanted o (yielded all a.tmps) = b := by
  unfold wantB at hb
  split at hb
  · rename_i hg
    simp only [Option.some.injEq] at hb
    simp [Region.wanted, hg, hb]
  · rename_i j want hg
    split at hb
    · cases hb
    · rename_i g hgd
      split at hb
      · rename_i t ht
        have hv := slot_bool h (g := g) (t := t) ht
        rw [Array.getElem?_toList] at hgd
        have hy : yielded all a.tmps j = some t := by
          unfold yielded
          rw [hgd]
          simp [hv]
        simp only [Option.some.injEq] at hb
        rw [← hb]
        simp only [Region.wanted, hg, hy]
        cases t <;> cases want <;> rfl
      · rename_i hx
        simp only [Option.some.injEq] at hb
        subst hb
        have hy : yielded all a.tmps j = none := undef_yield h hgd (by rw [hx]; rfl)
        simp [Region.wanted, hg, hy]
      · cases hb
end
end Go.Proofs.YtmddfhjgdhjmkaaDoor.VM

/- The abstract machine and the memory: a drawn region, step by step. -/
set_option linter.unusedVariables false
set_option linter.unusedSimpArgs false
namespace Go.Proofs.YtmddfhjgdhjmkaaDoor.VM

section
variable {P : Program} {T : TT} {U : Nat → Prop} {w0 w : World} {F0 : Fr} {a : Act} {ow : Own} {r : Res} {call : FuncId → List V → Option Res} {all : Array Oper}

theorem memN_iff {l : List Nat} {a : Nat} : memN l a = true ↔ a ∈ l := by
  induction l with
  | nil => simp [memN]
  | cons b l ih =>
    unfold memN
    cases hb : Nat.beq b a with
    | true => have := beq_nat.1 hb; subst this; simp
    | false =>
      have : b ≠ a := fun e => by rw [beq_nat.2 e] at hb; cases hb
      simp only [cond_false, ih, List.mem_cons]
      constructor
      · exact .inr
      · rintro (e | h)
        · exact absurd e.symm this
        · exact h

theorem apartB_spec {ops : List Oper} {x y : Oper} (h : apartB T ops x y = true) : ∃ dx dy, x.dst = some dx ∧ y.dst = some dy ∧ dx ≠ dy ∧ dy ∉ readsOf ops x ∧ dx ∉ readsOf ops y ∧ isQuiet T x = true ∧ isQuiet T y = true := by
  unfold apartB at h
  simp only [Bool.and_eq_true] at h
  obtain ⟨⟨h1, h2⟩, h3⟩ := h
  split at h3
  · rename_i dx dy hx hy
    simp only [Bool.and_eq_true, Bool.not_eq_true'] at h3
    obtain ⟨⟨h4, h5⟩, h6⟩ := h3
    refine ⟨dx, dy, hx, hy, fun e => ?_, fun hm => ?_, fun hm => ?_, h1, h2⟩
    · rw [beq_nat.2 e] at h4; cases h4
    · rw [memN_iff.2 hm] at h5; cases h5
    · rw [memN_iff.2 hm] at h6; cases h6
  · cases h3

theorem val_eq {σ σ' : St} {x : Operand} (h : ∀ t, x = .tmp t → σ.sl.getD t .dead = σ'.sl.getD t .dead) : val T σ x = val T σ' x := by
  cases x with
  | tmp t => exact h t rfl
  | _ => rfl

theorem nodup_inj {l : List Nat} (h : l.Nodup) {i j x : Nat} (hi : l[i]? = some x) (hj : l[j]? = some x) : i = j := by
  induction l generalizing i j with
  | nil => simp at hi
  | cons a l ih =>
    simp only [List.nodup_cons] at h
    cases i <;> cases j
    · rfl
    · simp at hi hj
      subst hi
      exact absurd (List.mem_of_getElem? hj) h.1
    · simp at hi hj
      subst hj
      exact absurd (List.mem_of_getElem? hi) h.1
    · simp at hi hj
      rw [ih h.2 hi hj]
theorem out_agree {E : List Eff} (hnd : (E.map Eff.d).Nodup) {i : Nat} {e : Eff} (hi : E[i]? = some e) {D : Nat → Bool} {σ : St} (hD : D i = true → False) : (stM E D σ).ob.getD e.d .none = σ.ob.getD e.d .none := by
  have h0 : stM E (fun _ => false) σ = σ := stM_none E fun _ => rfl
  have h1 : (stM E D σ).ob.getD e.d .none = (stM E (fun _ => false) σ).ob.getD e.d .none := ob_agree E rfl rfl fun i' e'' hi' hd' _ => by
    have : i' = i := by
      have q1 : (E.map Eff.d)[i']? = some e.d := by rw [List.getElem?_map, hi']; simp [hd']
      have q2 : (E.map Eff.d)[i]? = some e.d := by rw [List.getElem?_map, hi]; simp
      exact nodup_inj hnd q1 q2
    subst this
    cases h : D i'
    · rfl
    · exact (hD h).elim
  rw [h1, h0]

/-- one quiet operation, out of turn -/
theorem quiet_step (hT : TOk P T) (hC : CallOk P T.globL call) {E : List Eff} {b : Nat} {σ : St}
    (hE : ∀ (j : Nat) e, E[j]? = some e → ∃ o, all.toList[b + j]? = some o ∧ EfOk T call all.toList (stM E (fun i => decide (i < j)) σ) o e)
    (hnd : (E.map Eff.d).Nodup) {D : Nat → Bool} {j : Nat} {e : Eff} {o : Oper} (hj : E[j]? = some e) (ho : all.toList[b + j]? = some o) (hDj : D j = false)
    (hord : ∀ (i : Nat) e', E[i]? = some e' → D i ≠ decide (i < j) → i ≠ j → e'.d ∉ readsOf all.toList o)
    (h : Sim T.globL U w0 F0 (σF (stM E D σ) (E.flatMap Eff.s)) a w ow) (hpn : ∀ d, o.dst = some d → F0.pn d = none) :
    (Region.wanted o (yielded all a.tmps) = true ∧ DoneO P T.globL U w0 F0 a w o (σF (stM E (fun i => D i || i == j) σ) (E.flatMap Eff.s))) ∨
    (Region.wanted o (yielded all a.tmps) = false ∧ Sim T.globL U w0 F0 (σF (stM E (fun i => D i || i == j) σ) (E.flatMap Eff.s)) (a.put o.dst undef) w ow) := by
  obtain ⟨o', ho', hd, hef⟩ := hE j e hj
  rw [ho] at ho'
  cases ho'
  rw [stM_insert E hnd hj hDj]
  -- what is read is as it was
  have hsl : ∀ t, t ∈ readsOf all.toList o → (stM E (fun i => decide (i < j)) σ).sl.getD t .dead = (stM E D σ).sl.getD t .dead := fun t ht =>
    sl_agree E rfl rfl fun i e' hi hdt => by
      by_cases hij : i = j
      · subst hij; simp [hDj]
      · cases hDi : D i <;> cases hlt : decide (i < j) <;> first
          | rfl
          | (exfalso
             refine hord i e' hi (by rw [hDi, hlt]; simp) hij ?_
             rw [hdt]; exact ht)
  have hval : ∀ x ∈ o.op.operands, val T (stM E (fun i => decide (i < j)) σ) x = val T (stM E D σ) x := fun x hx => val_eq fun t ht => hsl t (by
    subst ht
    exact List.mem_append_left _ (List.mem_filterMap.2 ⟨.tmp t, by simpa using hx, rfl⟩))
  have hwant : wantB all.toList (stM E (fun i => decide (i < j)) σ) o = wantB all.toList (stM E D σ) o := by
    unfold wantB
    cases hg : o.guard with
    | none => rfl
    | some q =>
      obtain ⟨q, want⟩ := q
      simp only
      cases hgd : (all.toList[q]?).bind (·.dst) with
      | none => rfl
      | some g =>
        simp only
        rw [hsl g (List.mem_append_right _ (by rw [hg]; simp only; rw [hgd]; simp))]
  have hsub : ∀ q ∈ e.s, q ∈ E.flatMap Eff.s := fun q hq => List.mem_flatMap.2 ⟨e, List.mem_of_getElem? hj, hq⟩
  rcases hef with ⟨hw, hq, hk, hqv, h0⟩ | ⟨hw, h1, h2, h3⟩
  · refine .inl ⟨wanted_of h (by rw [show wantB all.toList (σF (stM E D σ) (E.flatMap Eff.s)) o = wantB all.toList (stM E D σ) o from rfl, ← hwant]; exact hw), ?_⟩
    -- the objects that are looked at are there alike
    have hob : ∀ k, isNone ((stM E (fun i => decide (i < j)) σ).ob.getD k .none) = false → (stM E D σ).ob.getD k .none ≠ .none → (stM E (fun i => decide (i < j)) σ).ob.getD k .none = (stM E D σ).ob.getD k .none := fun k h1 h2 => by
      -- no new object is made under a key that differs
      by_cases hdiff : ∃ (i : Nat) (e' : Eff), E[i]? = some e' ∧ e'.d = k ∧ isNone e'.ob = false ∧ D i ≠ decide (i < j)
      · exfalso
        obtain ⟨i, e', hi, hdk, hnn, hne⟩ := hdiff
        obtain ⟨oi, _, _, hef'⟩ := hE i e' hi
        have hbase : σ.ob.getD k .none = .none := by
          rcases hef' with ⟨_, _, _, _, h5⟩ | ⟨_, _, h5, _⟩
          · rcases h5 with h5 | h5
            · rw [h5] at hnn; cases hnn
            · have h6 := isNone_iff.1 h5
              rw [← hdk]
              exact (out_agree (D := fun q => decide (q < i)) hnd hi (fun h => by simp at h)).symm.trans h6
          · rw [h5] at hnn; cases hnn
        have hout : ∀ D' : Nat → Bool, D' i = false → (stM E D' σ).ob.getD k .none = .none := fun D' hD' => by
          rw [← hdk]
          exact (out_agree (D := D') hnd hi (fun h => by rw [hD'] at h; cases h)).trans (by rw [hdk]; exact hbase)
        cases hDi : D i with
        | false => exact h2 (hout D hDi)
        | true =>
          have hlt : decide (i < j) = false := by
            cases hl : decide (i < j)
            · rfl
            · rw [hDi, hl] at hne; exact absurd rfl hne
          rw [hout _ hlt] at h1
          cases h1
      · refine ob_agree E rfl rfl fun i e' hi hdk hnn => ?_
        cases hDi : D i <;> cases hlt : decide (i < j) <;> first
          | rfl
          | exact absurd ⟨i, e', hi, hdk, hnn, by rw [hDi, hlt]; simp⟩ hdiff
    have hqv2 : qv T call (val T (stM E D σ)) (lkE (stM E D σ)) e.d o K3 = some (e.x, e.ob, e.s) := by
      rw [← hqv, ← qv_v (v := val T (stM E (fun i => decide (i < j)) σ)) hval]
      symm
      refine qv_lk (fun x hx k c hkc => ?_) K3
      unfold lkE
      have hk1 : isNone ((stM E (fun i => decide (i < j)) σ).ob.getD k .none) = false := by
        have := List.all_eq_true.1 (List.all_eq_true.1 hk x (by simpa using hx)) k (keysN_of hkc)
        simpa using this
      have hk2 : (stM E D σ).ob.getD k .none ≠ .none := by
        have hsr := val_sr h x
        have hv : val T (σF (stM E D σ) (E.flatMap Eff.s)) x = val T (stM E (fun i => decide (i < j)) σ) x := (hval x hx).symm
        rw [hv] at hsr
        have hal := hsr.alive hkc
        intro e0
        apply hal
        show (freeze (stM E D σ).ob (E.flatMap Eff.s)).getD k .none = .none
        rw [getD_freeze, e0, frzK_none]
      rw [hob k hk1 hk2]
    have hqv3 : qv T call (val T (σF (stM E D σ) (E.flatMap Eff.s))) (lkE (σF (stM E D σ) (E.flatMap Eff.s))) e.d o K3 = some (e.x, e.ob, e.s) := by
      have e1 : lkE (σF (stM E D σ) (E.flatMap Eff.s)) = lkE (stM E D σ) := lkE_freeze _ _ _
      rw [e1]
      exact hqv2
    obtain ⟨x, ob, s, hK, hdone⟩ := qv_sound hT hC h hd hqv3
    simp only [K3, Option.some.injEq, Prod.mk.injEq] at hK
    obtain ⟨rfl, rfl, rfl⟩ := hK
    have hfree : e.ob = .none ∨ (stM E D σ).ob.getD e.d .none = .none := by
      rcases h0 with h0 | h0
      · exact .inl (isNone_iff.1 h0)
      · by_cases hn : isNone e.ob = true
        · exact .inl (isNone_iff.1 hn)
        · refine .inr ?_
          refine (ob_agree E rfl rfl fun i' e'' hi' hd' _ => ?_).trans (isNone_iff.1 h0)
          have : i' = j := by
            have q1 : (E.map Eff.d)[i']? = some e.d := by rw [List.getElem?_map, hi']; simp [hd']
            have q2 : (E.map Eff.d)[j]? = some e.d := by rw [List.getElem?_map, hj]; simp
            exact nodup_inj hnd q1 q2
          subst this
          simp [hDj]
    refine fun Kq Q hq => hdone (hfree.imp id fun e0 => ⟨?_, hpn _ hd⟩) Kq Q fun u w' ow' hs => hq _ _ ow' ?_
    · show (freeze (stM E D σ).ob (E.flatMap Eff.s)).getD e.d .none = .none
      rw [getD_freeze, e0, frzK_none]
    · have h1 := hs.freeze (E.flatMap Eff.s)
      have e1 := freeze_again (fs := E.flatMap Eff.s) (s := e.s) (ob := (stM E D σ).ob) (d := e.d) (o := e.ob) hsub
      show Sim T.globL U w0 F0 ⟨(stM E D σ).sl.set e.d e.x, freeze (setN (stM E D σ).ob e.d e.ob) (E.flatMap Eff.s)⟩ _ w' ow'
      rw [← e1]
      exact h1
  · refine .inr ⟨wanted_of h (by rw [show wantB all.toList (σF (stM E D σ) (E.flatMap Eff.s)) o = wantB all.toList (stM E D σ) o from rfl, ← hwant]; exact hw), ?_⟩
    rw [hd]
    have := sim_skip h e.d
    show Sim T.globL U w0 F0 ⟨(stM E D σ).sl.set e.d e.x, freeze (setN (stM E D σ).ob e.d e.ob) (E.flatMap Eff.s)⟩ _ w ow
    rw [h1, h2]
    exact this

/-! ### the order -/
theorem befores_go : ∀ (ops : List Oper) (acc : List (List Nat)),
    let bs := ops.foldl (fun acc o => acc ++ [o.after.toList.foldl (fun l e => bif Region.binds .any e then e.on :: acc.getD e.on [] ++ l else l) []]) acc
    (∀ j, j < acc.length → bs.getD j [] = acc.getD j []) ∧
    ∀ j o, ops[j]? = some o → ∀ i ∈ bs.getD (acc.length + j) [], ∃ e ∈ o.after, Region.binds .any e = true ∧ (i = e.on ∨ i ∈ bs.getD e.on [])
  | [], acc => ⟨fun j _ => rfl, fun j o h => by simp at h⟩
  | o :: ops, acc => by
    intro bs
    have key := befores_go ops (acc ++ [o.after.toList.foldl (fun l e => bif Region.binds .any e then e.on :: acc.getD e.on [] ++ l else l) []])
    obtain ⟨h1, h2⟩ := key
    have hbs : bs = ops.foldl (fun acc o => acc ++ [o.after.toList.foldl (fun l e => bif Region.binds .any e then e.on :: acc.getD e.on [] ++ l else l) []]) (acc ++ [o.after.toList.foldl (fun l e => bif Region.binds .any e then e.on :: acc.getD e.on [] ++ l else l) []]) := rfl
    rw [← hbs] at h1 h2
    have hpre : ∀ j, j < acc.length → bs.getD j [] = acc.getD j [] := fun j hj => by
      rw [h1 j (by simp; omega)]
      simp [List.getD_eq_getElem?_getD, List.getElem?_append_left hj]
    refine ⟨hpre, fun j o' hj i hi => ?_⟩
    cases j with
    | zero =>
      simp at hj
      subst hj
      rw [Nat.add_zero, h1 acc.length (by simp)] at hi
      have hg : (acc ++ [o.after.toList.foldl (fun l e => bif Region.binds .any e then e.on :: acc.getD e.on [] ++ l else l) []]).getD acc.length [] = o.after.toList.foldl (fun l e => bif Region.binds .any e then e.on :: acc.getD e.on [] ++ l else l) [] := by
        simp [List.getD_eq_getElem?_getD]
      rw [hg] at hi
      have hfold : ∀ (es : List Edge) (l0 : List Nat), i ∈ es.foldl (fun l e => bif Region.binds .any e then e.on :: acc.getD e.on [] ++ l else l) l0 → i ∈ l0 ∨ ∃ e ∈ es, Region.binds .any e = true ∧ (i = e.on ∨ i ∈ acc.getD e.on []) := by
        intro es
        induction es with
        | nil => exact fun l0 h => .inl h
        | cons e es ih =>
          intro l0 h
          simp only [List.foldl_cons] at h
          rcases ih _ h with h | ⟨e', he', hb⟩
          · cases hb : Region.binds .any e with
            | false => rw [hb] at h; exact .inl h
            | true =>
              rw [hb] at h
              simp only [cond_true, List.cons_append, List.mem_cons, List.mem_append] at h
              rcases h with h | h | h
              · exact .inr ⟨e, by simp, hb, .inl h⟩
              · exact .inr ⟨e, by simp, hb, .inr h⟩
              · exact .inl h
          · exact .inr ⟨e', by simp [he'], hb⟩
      rcases hfold _ _ hi with h | ⟨e, he, hb, h⟩
      · simp at h
      · refine ⟨e, by simpa using he, hb, h.imp id fun h => ?_⟩
        by_cases hl : e.on < acc.length
        · rw [hpre _ hl]; exact h
        · simp [List.getD_eq_getElem?_getD, List.getElem?_eq_none (by omega : acc.length ≤ e.on)] at h
    | succ j =>
      have := h2 j o' (by simpa using hj) i (by
        rw [show (acc ++ [o.after.toList.foldl (fun l e => bif Region.binds .any e then e.on :: acc.getD e.on [] ++ l else l) []]).length + j = acc.length + (j + 1) by simp; omega]
        exact hi)
      exact this
theorem befores_spec {ops : List Oper} {j : Nat} {o : Oper} (hj : ops[j]? = some o) {i : Nat} (hi : i ∈ (befores ops).getD j []) : ∃ e ∈ o.after, Region.binds .any e = true ∧ (i = e.on ∨ i ∈ (befores ops).getD e.on []) := by
  have := (befores_go ops []).2 j o hj i (by simpa [befores] using hi)
  exact this
end
end Go.Proofs.YtmddfhjgdhjmkaaDoor.VM

/- The abstract machine and the memory: a drawn region. -/
set_option linter.unusedVariables false
set_option linter.unusedSimpArgs false
namespace Go.Proofs.YtmddfhjgdhjmkaaDoor.VM

section
variable {P : Program} {T : TT} {U : Nat → Prop} {w0 w : World} {F0 : Fr} {a : Act} {ow : Own} {r : Res} {call : FuncId → List V → Option Res} {all : Array Oper}

structure RegOk (T : TT) (ops : List Oper) : Prop where
  on : ∀ (j : Nat) y, ops[j]? = some y → ∀ e ∈ y.after, Region.binds .any e = true → e.on < j
  ne : ∀ (i j : Nat) x y, i < j → ops[i]? = some x → ops[j]? = some y → ∀ d, x.dst = some d → y.dst ≠ some d
  ord : ∀ (i j : Nat) x y, i < j → ops[i]? = some x → ops[j]? = some y → i ∈ (befores ops).getD j [] ∨ apartB T ops x y = true

theorem regOk_ok {ops : List Oper} (h : regOk T ops = true) : RegOk T ops := by
  unfold regOk at h
  have hz : ∀ {j : Nat} {y : Oper}, ops[j]? = some y → (y, j) ∈ ops.zipIdx := fun {j y} hj => by
    rw [List.mem_zipIdx_iff_getElem?]; exact hj
  have hy : ∀ {j : Nat} {y : Oper}, ops[j]? = some y → (y.after.toList.all (fun e => !Region.binds .any e || Nat.blt e.on j) && ops.zipIdx.all fun (x, i) => !Nat.blt i j || (dstNe x y && (memN ((befores ops).getD j []) i || apartB T ops x y))) = true := fun {j y} hj => List.all_eq_true.1 h (y, j) (hz hj)
  have hp : ∀ (i j : Nat) x y, i < j → ops[i]? = some x → ops[j]? = some y → (dstNe x y && (memN ((befores ops).getD j []) i || apartB T ops x y)) = true := fun i j x y hij hi hj => by
    have h1 := hy hj
    simp only [Bool.and_eq_true] at h1
    have h2 := List.all_eq_true.1 h1.2 (x, i) (hz hi)
    have h3 : Nat.blt i j = true := by rw [Nat.blt_eq]; exact hij
    simpa [h3] using h2
  refine ⟨fun j y hj e he hb => ?_, fun i j x y hij hi hj d hd hd' => ?_, fun i j x y hij hi hj => ?_⟩
  · have h1 := hy hj
    simp only [Bool.and_eq_true] at h1
    have h2 := List.all_eq_true.1 h1.1 e (by simpa using he)
    rw [hb] at h2
    simp only [Bool.not_true, Bool.false_or] at h2
    rw [Nat.blt_eq] at h2
    exact h2
  · have h1 := hp i j x y hij hi hj
    simp only [Bool.and_eq_true] at h1
    have h2 := h1.1
    unfold dstNe at h2
    rw [hd, hd'] at h2
    simp at h2
  · have h1 := hp i j x y hij hi hj
    simp only [Bool.and_eq_true, Bool.or_eq_true] at h1
    exact h1.2.imp memN_iff.1 id

structure Inv (P : Program) (T : TT) (U : Nat → Prop) (w0 : World) (F0 : Fr) (call : FuncId → List V → Option Res) (all : Array Oper) (K : St → Option Res) (r : Res) (listed : Array Bool) (a : Act) (w : World)
    (b : Nat) (σ : St) (E : List Eff) (ow : Own) : Prop where
  size : listed.size = all.size
  pre : ∀ i, i < b → listed.getD i false = true
  len : b + E.length ≤ all.size
  tr : TrQ T call all.toList (all.toList.drop b) σ E
  rest : Rest T call all.toList ((all.toList.drop b).drop E.length) (stM E (fun _ => true) σ) (E.flatMap Eff.s) K r
  post : ∀ i, b + E.length ≤ i → listed.getD i false = false
  closed : ∀ j, listed.getD j false = true → ∀ i ∈ (befores all.toList).getD j [], listed.getD i false = true
  sim : Sim T.globL U w0 F0 (σF (stM E (fun i => listed.getD (b + i) false) σ) (E.flatMap Eff.s)) a w ow

theorem getD_listed {listed : Array Bool} {i j : Nat} (h : i < listed.size) : (listed.setIfInBounds i true).getD j false = (listed.getD j false || j == i) := by
  simp only [Array.getD_eq_getD_getElem?, Array.getElem?_setIfInBounds]
  by_cases hij : i = j
  · subst hij; simp [h]
  · rw [if_neg hij]
    have : (j == i) = false := by simp; omega
    simp [this]
theorem getD_tf {listed : Array Bool} {i : Nat} (h : i < listed.size) : listed.getD i true = listed.getD i false := by
  simp [Array.getD_eq_getD_getElem?, Array.getElem?_eq_getElem h]

/-- all are listed, or one is ready -/
theorem ready_or (hr : RegOk T all.toList) {listed : Array Bool} (hs : listed.size = all.size) (h : Region.ready .any all listed = []) : ∀ i, i < all.size → listed.getD i false = true := by
  intro i
  induction i using Nat.strongRecOn with
  | ind i ih =>
    intro hi
    cases hl : listed.getD i false with
    | true => rfl
    | false =>
      exfalso
      have : i ∈ Region.ready .any all listed := by
        rw [mem_ready]
        refine ⟨by rw [getD_tf (by omega)]; exact hl, all[i], Array.getElem?_eq_getElem hi, fun e he hb => ?_⟩
        have h1 := hr.on i all[i] (by rw [Array.getElem?_toList]; exact Array.getElem?_eq_getElem hi) e he hb
        exact ih _ h1 (by omega)
      rw [h] at this
      cases this

theorem Inv.done {K : St → Option Res} {Q : Exit → Act → World → Prop} {listed : Array Bool} {b : Nat} {σ : St} {E : List Eff} (h : Inv P T U w0 F0 call all K r listed a w b σ E ow)
    (hl : ∀ i, i < all.size → listed.getD i false = true) (hQ : ∀ σ' a' w' ow', K σ' = some r → Sim T.globL U w0 F0 σ' a' w' ow' → Q .normal a' w') : Q .normal a w := by
  have he : b + E.length = all.size := by
    rcases Nat.lt_or_ge (b + E.length) all.size with h1 | h1
    · have := h.post _ (Nat.le_refl _)
      rw [hl _ h1] at this; cases this
    · have := h.len; omega
  have hd : (all.toList.drop b).drop E.length = [] := by
    rw [List.drop_drop, List.drop_eq_nil_iff]; simp; omega
  have hr := h.rest
  rw [hd] at hr
  have hs := h.sim
  have : stM E (fun i => listed.getD (b + i) false) σ = stM E (fun _ => true) σ := stM_congr E fun i hi => hl _ (by omega)
  rw [this] at hs
  exact hQ _ _ _ _ hr hs

def unl (listed : Array Bool) (n : Nat) : Nat := (List.range n).countP fun i => !listed.getD i false
theorem unl_set {listed : Array Bool} {n i : Nat} (hi : i < n) (hs : i < listed.size) (hl : listed.getD i false = false) : unl (listed.setIfInBounds i true) n + 1 = unl listed n := by
  unfold unl
  induction n with
  | zero => omega
  | succ n ih =>
    rw [List.range_succ, List.countP_append, List.countP_append]
    simp only [List.countP_cons, List.countP_nil, Nat.zero_add]
    by_cases hin : i = n
    · subst hin
      rw [getD_listed hs, hl]
      have : (List.range i).countP (fun q => !(listed.setIfInBounds i true).getD q false) = (List.range i).countP (fun q => !listed.getD q false) := by
        refine List.countP_congr fun q hq => ?_
        have hq : q < i := by simpa using hq
        rw [getD_listed hs]
        have : (q == i) = false := by simp; omega
        rw [this, Bool.or_false]
      rw [this]
      simp
    · have := ih (by omega)
      rw [getD_listed hs]
      have h2 : (n == i) = false := by simp; omega
      rw [h2, Bool.or_false]
      omega

theorem loud_apart {x y : Oper} {ops : List Oper} (h : isQuiet T x = false ∨ isQuiet T y = false) : apartB T ops x y = false := by
  cases hab : apartB T ops x y with
  | false => rfl
  | true =>
    obtain ⟨_, _, _, _, _, _, _, h1, h2⟩ := apartB_spec hab
    rcases h with h | h
    · rw [h1] at h; cases h
    · rw [h2] at h; cases h

/-- A DRAWN REGION -/
theorem drawn_any (hT : TOk P T) (hC : CallOk P T.globL call) (hL : LoudOk P T call) (hr : RegOk T all.toList) (hpn : ∀ o ∈ all.toList, ∀ d, o.dst = some d → F0.pn d = none) {K : St → Option Res} {Q : Exit → Act → World → Prop}
    (hQ : ∀ σ' a' w' ow', K σ' = some r → Sim T.globL U w0 F0 σ' a' w' ow' → Q .normal a' w') :
    ∀ (fuel : Nat) (listed : Array Bool) (a : Act) (w : World) (b : Nat) (σ : St) (E : List Eff) (ow : Own), unl listed all.size ≤ fuel → Inv P T U w0 F0 call all K r listed a w b σ E ow → wpAny P .any all Q fuel listed a w
  | 0, listed, a, w, b, σ, E, ow, hf, h => by
    have hall : ∀ i, i < all.size → listed.getD i false = true := fun i hi => by
      have h0 : unl listed all.size = 0 := by omega
      unfold unl at h0
      have := List.countP_eq_zero.1 h0 i (by simpa using hi)
      simpa using this
    refine ⟨?_, h.done hall hQ⟩
    cases hrd : Region.ready .any all listed with
    | nil => rfl
    | cons i l =>
      have hi : i ∈ Region.ready .any all listed := by rw [hrd]; simp
      obtain ⟨h1, o, ho, _⟩ := mem_ready.1 hi
      have hlt : i < all.size := (Array.getElem?_eq_some_iff.1 ho).1
      rw [getD_tf (by rw [h.size]; exact hlt), hall i hlt] at h1
      cases h1
  | fuel + 1, listed, a, w, b, σ, E, ow, hf, h => by
    refine ⟨fun hrd => h.done (ready_or hr h.size hrd) hQ, fun i hi => ?_⟩
    obtain ⟨h1, o, ho, hafter⟩ := mem_ready.1 hi
    have hlt : i < all.size := (Array.getElem?_eq_some_iff.1 ho).1
    rw [getD_tf (by rw [h.size]; exact hlt)] at h1
    have hoL : all.toList[i]? = some o := by rw [Array.getElem?_toList]; exact ho
    have hls : i < listed.size := by rw [h.size]; exact hlt
    -- what stands before it is listed
    have hbef : ∀ q ∈ (befores all.toList).getD i [], listed.getD q false = true := fun q hq => by
      obtain ⟨e, he, hb, hqe⟩ := befores_spec hoL hq
      have := hafter e he hb
      rcases hqe with rfl | hqe
      · exact this
      · exact h.closed _ this q hqe
    have hcl : ∀ j, (listed.setIfInBounds i true).getD j false = true → ∀ q ∈ (befores all.toList).getD j [], (listed.setIfInBounds i true).getD q false = true := fun j hj q hq => by
      rw [getD_listed hls] at hj ⊢
      rw [Bool.or_eq_true] at hj ⊢
      refine .inl ?_
      rcases hj with hj | hj
      · exact h.closed j hj q hq
      · have : j = i := by simpa using hj
        subst this
        exact hbef q hq
    have hib : b ≤ i := by
      rcases Nat.lt_or_ge i b with hh | hh
      · have := h.pre i hh; rw [h1] at this; cases this
      · exact hh
    have hfuel : unl (listed.setIfInBounds i true) all.size ≤ fuel := by have := unl_set hlt hls h1; omega
    have hE : ∀ (j : Nat) e, E[j]? = some e → ∃ o, all.toList[b + j]? = some o ∧ EfOk T call all.toList (stM E (fun i => decide (i < j)) σ) o e := fun j e hj => by
      obtain ⟨o', h1, h2⟩ := TrQ.at _ _ _ h.tr j e hj
      exact ⟨o', by rw [List.getElem?_drop] at h1; exact h1, h2⟩
    unfold wpOp
    rw [ho]
    simp only
    rcases Nat.lt_or_ge i (b + E.length) with hin | hin
    · -- a quiet one
      obtain ⟨j, rfl⟩ : ∃ j, i = b + j := ⟨i - b, by omega⟩
      have hj : j < E.length := by omega
      have hje : E[j]? = some E[j] := List.getElem?_eq_getElem hj
      have hnd : (E.map Eff.d).Nodup := by
        rw [List.nodup_iff_pairwise_ne, List.pairwise_iff_getElem]
        intro q q' h1 h2 hlt' he
        simp only [List.length_map] at h1 h2
        simp only [List.getElem_map] at he
        obtain ⟨x, hx, hxd, _⟩ := hE q _ (List.getElem?_eq_getElem h1)
        obtain ⟨y, hy, hyd, _⟩ := hE q' _ (List.getElem?_eq_getElem h2)
        exact hr.ne _ _ x y (by omega) hx hy _ hxd (by rw [hyd, he])
      have hstep := quiet_step (P := P) (T := T) (U := U) (w0 := w0) (w := w) (F0 := F0) (a := a) (ow := ow) hT hC hE hnd hje hoL (D := fun q => listed.getD (b + q) false) h1 (fun q e' hq hne hqj => by
        obtain ⟨x, hx, hxd, _⟩ := hE q e' hq
        rcases Nat.lt_or_ge q j with hlt' | hge
        · rcases hr.ord (b + q) (b + j) x o (by omega) hx hoL with hb | hb
          · exfalso
            refine hne ?_
            show listed.getD (b + q) false = _
            rw [hbef _ hb]; simp [hlt']
          · obtain ⟨dx, dy, q1, q2, _, _, q3, _⟩ := apartB_spec hb
            rw [hxd] at q1; cases q1
            exact q3
        · rcases hr.ord (b + j) (b + q) o x (by omega) hoL hx with hb | hb
          · exfalso
            refine hne ?_
            show listed.getD (b + q) false = _
            have hnl : decide (q < j) = false := by simp; omega
            rw [hnl]
            cases hlq : listed.getD (b + q) false with
            | false => rfl
            | true =>
              have := h.closed _ hlq _ hb
              rw [h1] at this; cases this
          · obtain ⟨dx, dy, q1, q2, _, q3, _, _⟩ := apartB_spec hb
            rw [hxd] at q2; cases q2
            exact q3) h.sim (hpn o (List.mem_of_getElem? hoL))
      have hmask : stM E (fun q => listed.getD (b + q) false || q == j) σ = stM E (fun q => (listed.setIfInBounds (b + j) true).getD (b + q) false) σ := stM_congr E fun q _ => by
        rw [getD_listed hls]
        have : (b + q == b + j) = (q == j) := by rw [Bool.eq_iff_iff, beq_iff_eq, beq_iff_eq]; omega
        rw [this]
      rw [hmask] at hstep
      have hinv : ∀ {a' w' ow'}, Sim T.globL U w0 F0 (σF (stM E (fun q => (listed.setIfInBounds (b + j) true).getD (b + q) false) σ) (E.flatMap Eff.s)) a' w' ow' → Inv P T U w0 F0 call all K r (listed.setIfInBounds (b + j) true) a' w' b σ E ow' := fun hs =>
        ⟨by simpa using h.size, fun q hq => by rw [getD_listed hls, h.pre q hq]; rfl, h.len, h.tr, h.rest, fun q hq => by
          rw [getD_listed hls, h.post q hq]
          simp; omega, hcl, hs⟩
      rcases hstep with ⟨hw, hd⟩ | ⟨hw, hs⟩
      · rw [if_pos hw]
        exact .inl (hd _ _ fun a' w' ow' hs => drawn_any hT hC hL hr hpn hQ fuel _ a' w' b σ E ow' hfuel (hinv hs))
      · rw [if_neg (by rw [hw]; simp)]
        exact drawn_any hT hC hL hr hpn hQ fuel _ _ w b σ E ow hfuel (hinv hs)
    · -- a loud one
      have hll : b + E.length < all.size := by omega
      have hhead : all.toList[b + E.length]? = some (all[b + E.length]'hll) := by rw [Array.getElem?_toList]; exact Array.getElem?_eq_getElem hll
      have hdrop : (all.toList.drop b).drop E.length = (all[b + E.length]'hll) :: all.toList.drop (b + E.length + 1) := by
        rw [List.drop_drop, List.drop_eq_getElem_cons (by simpa using hll)]
        simp
      have hrest := h.rest
      rw [hdrop] at hrest
      obtain ⟨hq, hwb, hk⟩ := hrest
      have hil : i = b + E.length := by
        rcases Nat.lt_or_ge (b + E.length) i with hh | hh
        · exfalso
          rcases hr.ord _ _ _ _ hh hhead hoL with hb | hb
          · have := hbef _ hb
            rw [h.post _ (Nat.le_refl _)] at this; cases this
          · rw [loud_apart (.inl hq)] at hb; cases hb
        · omega
      subst hil
      have hoe : o = all[b + E.length]'hll := by rw [hhead] at hoL; cases hoL; rfl
      have hfull : stM E (fun q => listed.getD (b + q) false) σ = stM E (fun _ => true) σ := stM_congr E fun q hq' => by
        obtain ⟨x, hx, _⟩ := hE q _ (List.getElem?_eq_getElem hq')
        rcases hr.ord (b + q) (b + E.length) x _ (by omega) hx hhead with hb | hb
        · exact hbef _ hb
        · rw [loud_apart (.inr hq)] at hb; cases hb
      have hsim := h.sim
      rw [hfull] at hsim
      rw [← hoe] at hq hwb hk
      obtain ⟨σ', hK, hdone⟩ := hL _ _ _ _ _ _ _ _ _ _ hsim (hpn o (List.mem_of_getElem? hoL)) hk
      obtain ⟨E', hlen, htr, hrest'⟩ := seg_split _ _ _ hK
      rw [if_pos (wanted_of hsim hwb)]
      refine .inl (hdone _ _ fun a' w' ow' hs => drawn_any hT hC hL hr hpn hQ fuel _ a' w' (b + E.length + 1) σ' E' ow' hfuel ?_)
      have hlate : ∀ q, b + E.length < q → listed.getD q false = false := fun q hq' => by
        cases hlq : listed.getD q false with
        | false => rfl
        | true =>
          rw [h.post q (by omega)] at hlq; cases hlq
      refine ⟨by simpa using h.size, fun q hq' => ?_, ?_, htr, by simpa using hrest', fun q hq' => ?_, hcl, ?_⟩
      · rw [getD_listed hls]
        rcases Nat.lt_or_ge q b with h2 | h2
        · rw [h.pre q h2]; rfl
        · rcases Nat.lt_or_ge q (b + E.length) with h3 | h3
          · obtain ⟨qq, rfl⟩ : ∃ qq, q = b + qq := ⟨q - b, by omega⟩
            obtain ⟨x, hx, _⟩ := hE qq _ (List.getElem?_eq_getElem (by omega))
            rcases hr.ord (b + qq) (b + E.length) x o (by omega) hx hoL with hb | hb
            · rw [hbef _ hb]; rfl
            · rw [loud_apart (.inr hq)] at hb; cases hb
          · have : q = b + E.length := by omega
            subst this
            simp
      · simp only [List.length_drop, Array.length_toList] at hlen
        omega
      · rw [getD_listed hls, hlate q (by omega)]
        simp; omega
      · rw [stM_none E' (fun q => by rw [getD_listed hls, hlate _ (by omega)]; simp; omega)]
        exact hs.freeze _
end
end Go.Proofs.YtmddfhjgdhjmkaaDoor.VM

/- The abstract machine: what comes behind is not looked at, for the operations that write; what a call that is handed boxes does to the slots. -/
set_option linter.unusedVariables false
set_option linter.unusedSimpArgs false
namespace Go.Proofs.YtmddfhjgdhjmkaaDoor.VM

section
variable {R S : Type} {g : R → Option S}
theorem wr1_bind {σ : St} {k : Nat} {c : Option Nat} {i j : Nat} {x : V} {K : St → Option R} : (wr1 σ k c i j x K).bind g = wr1 σ k c i j x fun m => (K m).bind g := by
  unfold wr1
  cases obRow (lk σ) k c with
  | some q => simp only [bif_bind, exN_bind]; rfl
  | none =>
    simp only
    rcases σ.ob.getD k .none with _ | ⟨_ | _, cs⟩ | _ <;> cases c <;> cases i <;> simp only [bif_bind] <;> rfl
theorem wrN_bind {σ : St} {k : Nat} {c : Option Nat} {i j : Nat} {ss : List Sh} {ns : List V} {x : V} {K : St → Option R} : (wrN σ k c i j ss ns x K).bind g = wrN σ k c i j ss ns x fun m => (K m).bind g := by
  unfold wrN
  cases obRow (lk σ) k c with
  | some q => simp only [bif_bind, exN_bind, wd_bind]; rfl
  | none =>
    simp only
    rcases σ.ob.getD k .none with _ | ⟨_ | _, cs⟩ | _ <;> cases c <;> cases i <;> simp only [bif_bind, unSt_bind, unCs_bind] <;> rfl
theorem mvR_bind {σ : St} {k j k' : Nat} {c m : Option Nat} {K : St → Option R} : (mvR σ k j k' c m K).bind g = mvR σ k j k' c m fun m => (K m).bind g := by
  unfold mvR
  rcases obRow (lk σ) k' c with _ | ⟨_ | _, z, xs⟩
  · rfl
  · rfl
  · simp only
    rcases (kil (kil σ k' c) k (some j)).ob.getD k .none with _ | ⟨_ | _, cs⟩ | _ <;> simp only [bif_bind] <;> rfl
theorem sto_bind {T : TT} {σ : St} {t : TypeId} {a x : V} {K : St → Option R} : (sto T σ t a x K).bind g = sto T σ t a x fun m => (K m).bind g := by
  unfold sto
  generalize T.ty t = ty
  cases a <;> cases ty <;> first | rfl | skip
  · cases x <;> simp only [bif_bind, sealC_bind, wr1_bind, mvR_bind] <;> rfl
  · simp only [sealV_bind, wrN_bind]
theorem app_bind {σ : St} {d z b : Nat} {s x : V} {K : St → Option R} : (app σ d z b s x K).bind g = app σ d z b s x fun m => (K m).bind g := by
  unfold app
  rw [bif_bind]
  congr 1
  cases s <;> first | rfl | skip
  · simp only [asList_bind, chk_bind]
  · rename_i k c m
    simp only
    rcases obRow (lk σ) k c with _ | ⟨o, z', xs⟩
    · rfl
    · simp only [bif_bind, asList_bind, chk_bind]; rfl
theorem ioSeal_bind {lk : Nat → Ob} : ∀ {vs : List V} {K : List V → List (Nat × Option Nat) → Option R}, (ioSeal lk vs K).bind g = ioSeal lk vs fun m s => (K m s).bind g := by
  intro vs
  induction vs with
  | nil => intro K; rfl
  | cons v vs ih =>
    intro K
    cases v <;> first
      | (simp only [ioSeal, sealV_bind, ih]; done)
      | skip
    rename_i k c i j
    cases c <;> cases i <;> cases j <;> simp only [ioSeal, sealV_bind, ih]
theorem ioFill_bind {ob : List Ob} : ∀ {vs : List V} {K : List V → List Nat → Option R}, (ioFill ob vs K).bind g = ioFill ob vs fun m s => (K m s).bind g := by
  intro vs
  induction vs with
  | nil => intro K; rfl
  | cons v vs ih =>
    intro K
    cases v <;> first
      | (simp only [ioFill, ih]; done)
      | skip
    rename_i k c i j
    cases c <;> cases i <;> cases j <;> simp only [ioFill, ih]
    rcases ob.getD k .none with _ | ⟨_ | _, cs⟩ | _ <;> simp only [ih] <;> rfl
theorem unOut_bind {os : List V} {K : List V → List V → Option R} : (unOut os K).bind g = unOut os fun c s => (K c s).bind g := by unfold unOut; split <;> rfl
theorem ioBack_bind : ∀ {ks : List Nat} {σ : St} {outs : List V} {K : St → Option R}, (ioBack σ ks outs K).bind g = ioBack σ ks outs fun m => (K m).bind g := by
  intro ks
  induction ks with
  | nil => intro σ outs K; cases outs <;> rfl
  | cons k ks ih =>
    intro σ outs K
    simp only [ioBack, unOut_bind]
    congr 1
    funext cs os
    rcases σ.ob.getD k .none with _ | ⟨b, cs⟩ | _ <;> simp only [bif_bind, ih] <;> rfl
end

section
variable {R S : Type} {g : R → Option S}
theorem rsC_bind {s : Sh} {old v : V} {K : V → Option R} : (rsC s old v K).bind g = rsC s old v fun m => (K m).bind g := by
  unfold rsC
  split
  · unfold unO1; split <;> first | rfl | exact bif_bind
  · unfold unNO; split <;> first | rfl | exact bif_bind
  · exact unC_bind
theorem rsCs_bind {olds cs : List V} : ∀ {ss : List Sh} {j : Nat} {K : List V → Option R}, (rsCs olds cs j ss K).bind g = rsCs olds cs j ss fun m => (K m).bind g
  | [], j, K => rfl
  | s :: ss, j, K => by unfold rsCs; rw [rsC_bind]; simp only [rsCs_bind]
theorem rsB_bind {σ0 σ : St} {k : Nat} {ss : List Sh} {K : St → Option R} : (rsB σ0 σ k ss K).bind g = rsB σ0 σ k ss fun m => (K m).bind g := by
  unfold rsB
  split
  · rw [bif_bind, rsCs_bind]; rfl
  · rfl
theorem rsA_bind {T : TT} {σ0 : St} : ∀ {as : List (V × TypeId)} {σ : St} {K : St → Option R}, (rsA T σ0 σ as K).bind g = rsA T σ0 σ as fun m => (K m).bind g := by
  intro as
  induction as with
  | nil => intro σ K; rfl
  | cons p as ih =>
    intro σ K
    unfold rsA
    split
    · rename_i e; cases e
    · rename_i k t as' e
      cases e
      split
      · rw [rsB_bind]; simp only [ih]
      · exact ih
    · rename_i e
      cases e
      exact ih
end


section
variable {R S : Type} {g : R → Option S} {T : TT} {call : FuncId → List V → Option Res}
theorem bind_bind' {α : Type} {o : Option α} {K : α → Option R} : (o.bind K).bind g = o.bind fun x => (K x).bind g := by cases o <;> rfl
theorem loud0_bind {σ : St} {o : Oper} {K : St → Option R} : (exLoud0 T call σ o K).bind g = exLoud0 T call σ o fun m => (K m).bind g := by
  obtain ⟨dst, op, type, pos, after, guard⟩ := o
  cases op <;> first
    | (cases dst <;> rfl; done)
    | skip
  case store t p q =>
    cases dst with
    | none => simp only [exLoud0]; exact sto_bind
    | some d => rfl
  case call c =>
    obtain ⟨callee, args, ts⟩ := c
    cases dst with
    | none => cases callee <;> first | rfl | (rename_i b; cases b <;> rfl)
    | some d =>
      cases callee with
      | invoke rc m => rfl
      | builtin b =>
        cases b <;> first | rfl | skip
        simp only [exLoud0]
        generalize args.toList = as
        generalize ts.toList = tl
        rcases as with _ | ⟨s, _ | ⟨x, _ | ⟨y, as⟩⟩⟩ <;> rcases tl with _ | ⟨t, _ | ⟨t', _ | ⟨y', tl⟩⟩⟩ <;> first | rfl | skip
        dsimp only
        cases T.el t with
        | none => rfl
        | some p =>
          rw [bif_bind]
          congr 1
          cases T.esz p.1 <;> cases T.zero p.1 <;> first | rfl | exact app_bind
      | value f =>
        simp only [exLoud0]
        generalize val T σ f = x
        cases x <;> first | rfl | skip
        rename_i u
        cases u <;> first | rfl | skip
        rename_i q fs cv
        cases q <;> first | rfl | skip
        rename_i q
        rw [bif_bind]
        congr 1
        rw [ioSeal_bind]
        congr 1
        funext az s
        rw [ioFill_bind]
        congr 1
        funext vs l
        rw [bif_bind]
        congr 1
        rw [bind_bind']
        congr 1
        funext r
        rw [ioBack_bind]
        congr 1
        funext σ'
        cases T.ty type with
        | c sh => exact unC_bind
        | agg ss => exact unSt_bind
        | p ss => rfl
        | tup ts => simp only [unTup_bind, unVs_bind]
theorem loud_bind {σ : St} {o : Oper} {K : St → Option R} : (exLoud T call σ o K).bind g = exLoud T call σ o fun m => (K m).bind g := by
  unfold exLoud
  rw [loud0_bind]
  congr 1
  funext σ'
  exact rsA_bind
theorem loud_at {σ σ' : St} {o : Oper} (h : exLoud T call σ o some = some σ') {K : St → Option R} : exLoud T call σ o K = K σ' := by
  have := loud_bind (T := T) (call := call) (σ := σ) (o := o) (K := some) (g := K)
  rw [h] at this
  exact this.symm
theorem loud_some {σ : St} {o : Oper} {K : St → Option R} {r : R} (h : exLoud T call σ o K = some r) : ∃ σ', exLoud T call σ o some = some σ' ∧ K σ' = some r := by
  have := loud_bind (T := T) (call := call) (σ := σ) (o := o) (K := some) (g := K)
  simp only [Option.bind_some] at this
  rw [h] at this
  exact Option.bind_eq_some_iff.1 this
end

/-! ### what a call that is handed boxes does to the slots -/
theorem memN_false {l : List Nat} {a : Nat} : memN l a = false ↔ a ∉ l := by
  rw [← memN_iff]; cases memN l a <;> simp
theorem trC_sub {ks ks' : List Nat} (hs : ∀ k ∈ ks', k ∈ ks) {v : V} (h : trC ks v = true) : trC ks' v = true := by
  cases v <;> first | rfl | skip
  · rename_i k c i j
    cases c <;> first | rfl | skip
    simp only [trC, Bool.not_eq_true', memN_false] at h ⊢
    exact fun hk => h (hs k hk)
  · rename_i k c m
    cases c <;> first | rfl | skip
    simp only [trC, Bool.not_eq_true', memN_false] at h ⊢
    exact fun hk => h (hs k hk)
theorem triv_c {ks : List Nat} {v : V} (hs : ∀ cs, v ≠ .st cs) (ht : ∀ cs, v ≠ .tup cs) : triv ks v = trC ks v := by
  cases v <;> first | rfl | exact absurd rfl (hs _) | exact absurd rfl (ht _)
theorem trT_c {ks : List Nat} {v : V} (hs : ∀ cs, v ≠ .st cs) : trT ks v = trC ks v := by
  cases v <;> first | rfl | exact absurd rfl (hs _)
theorem v_cases (v : V) : (∃ cs, v = .st cs) ∨ (∃ cs, v = .tup cs) ∨ ((∀ cs, v ≠ .st cs) ∧ ∀ cs, v ≠ .tup cs) := by
  cases v <;> first | exact .inl ⟨_, rfl⟩ | exact .inr (.inl ⟨_, rfl⟩) | exact .inr (.inr ⟨fun _ h => (by cases h), fun _ h => (by cases h)⟩)
theorem triv_sub {ks ks' : List Nat} (hs : ∀ k ∈ ks', k ∈ ks) {v : V} (h : triv ks v = true) : triv ks' v = true := by
  rcases v_cases v with ⟨cs, rfl⟩ | ⟨cs, rfl⟩ | ⟨h1, h2⟩
  · simp only [triv, List.all_eq_true] at h ⊢
    exact fun c hc => trC_sub hs (h c hc)
  · simp only [triv, List.all_eq_true] at h ⊢
    intro c hc
    have := h c hc
    rcases v_cases c with ⟨cs, rfl⟩ | ⟨cs, rfl⟩ | ⟨h1, h2⟩
    · cases this
    · rfl
    · rw [trT_c h1] at this ⊢; exact trC_sub hs this
  · rw [triv_c h1 h2] at h ⊢; exact trC_sub hs h
theorem kilC_tr {ks : List Nat} {k j : Nat} (hk : k ∈ ks) {v : V} (h : trC ks v = true) : kilC k (some j) v = v := by
  have hne : ∀ k' : Nat, (!memN ks k') = true → Nat.beq k' k = false := fun k' h => by
    cases hb : Nat.beq k' k
    · rfl
    · rw [beq_nat.1 hb] at h
      rw [memN_iff.2 hk] at h
      cases h
  cases v <;> first | rfl | skip
  · rename_i k' c i j'
    cases c with
    | none => show (bif Nat.beq k' k && false then V.dead else _) = _; rw [Bool.and_false]; rfl
    | some c => show (bif Nat.beq k' k && _ then V.dead else _) = _; rw [hne k' h]; rfl
  · rename_i k' c m
    cases c with
    | none => show (bif Nat.beq k' k && false then V.dead else _) = _; rw [Bool.and_false]; rfl
    | some c => show (bif Nat.beq k' k && _ then V.dead else _) = _; rw [hne k' h]; rfl
theorem map_id_of {α : Type} {f : α → α} : ∀ {l : List α}, (∀ x ∈ l, f x = x) → l.map f = l
  | [], _ => rfl
  | x :: l, h => by rw [List.map_cons, h x (List.mem_cons_self ..), map_id_of fun y hy => h y (List.mem_cons_of_mem _ hy)]
theorem kilV_c {k : Nat} {c : Option Nat} {v : V} (hs : ∀ cs, v ≠ .st cs) (ht : ∀ cs, v ≠ .tup cs) : kilV k c v = kilC k c v := by
  cases v <;> first | rfl | exact absurd rfl (hs _) | exact absurd rfl (ht _)
theorem kilT_c {k : Nat} {c : Option Nat} {v : V} (hs : ∀ cs, v ≠ .st cs) : kilT k c v = kilC k c v := by
  cases v <;> first | rfl | exact absurd rfl (hs _)
theorem kilV_tr {ks : List Nat} {k j : Nat} (hk : k ∈ ks) {v : V} (h : triv ks v = true) : kilV k (some j) v = v := by
  rcases v_cases v with ⟨cs, rfl⟩ | ⟨cs, rfl⟩ | ⟨h1, h2⟩
  · simp only [triv, List.all_eq_true] at h
    show V.st _ = V.st _
    rw [map_id_of fun c hc => kilC_tr hk (h c hc)]
  · simp only [triv, List.all_eq_true] at h
    show V.tup _ = V.tup _
    rw [map_id_of fun c hc => ?_]
    have := h c hc
    rcases v_cases c with ⟨cs, rfl⟩ | ⟨cs, rfl⟩ | ⟨h1, h2⟩
    · cases this
    · rfl
    · rw [trT_c h1] at this; rw [kilT_c h1]; exact kilC_tr hk this
  · rw [triv_c h1 h2] at h; rw [kilV_c h1 h2]; exact kilC_tr hk h
/-- the slots, where cells of a box are forgotten -/
def gP (k : Nat) : Nat → Nat → V → V
  | _, 0, v => v
  | j, n + 1, v => gP k (j + 1) n (kilV k (some j) v)
theorem kilP_map {k : Nat} : ∀ (n j : Nat) (σ : St), (kilP σ k j n).sl = σ.sl.map (gP k j n)
  | 0, j, σ => by
    show σ.sl = _
    exact (map_id_of (f := gP k j 0) fun _ _ => rfl).symm
  | n + 1, j, σ => by
    show (kilP (kil σ k (some j)) k (j + 1) n).sl = _
    rw [kilP_map n (j + 1)]
    show (σ.sl.map (kilV k (some j))).map _ = _
    rw [List.map_map]
    rfl
theorem gP_tr {ks : List Nat} {k : Nat} (hk : k ∈ ks) {v : V} (h : triv ks v = true) : ∀ n j, gP k j n v = v
  | 0, j => rfl
  | n + 1, j => by
    show gP k (j + 1) n (kilV k (some j) v) = v
    rw [kilV_tr hk h]
    exact gP_tr hk h n (j + 1)
theorem gP_dead {k : Nat} : ∀ n j, gP k j n .dead = .dead
  | 0, j => rfl
  | n + 1, j => gP_dead n (j + 1)

section
variable {T : TT} {call : FuncId → List V → Option Res}
theorem unOut_ex {R : Type} {rr : R} {os : List V} {K : List V → List V → Option R} (h : unOut os K = some rr) : ∃ cs os', os = .io cs :: os' ∧ K cs os' = some rr := by
  unfold unOut at h
  split at h
  · exact ⟨_, _, rfl, h⟩
  · cases h
theorem ioBack_shape : ∀ {ks : List Nat} {os sl : List V} {ob : List Ob} {σ2 : St}, ioBack ⟨sl, ob⟩ ks os some = some σ2 →
    ∃ (g : V → V) (ob' : List Ob), (∀ v, triv ks v = true → g v = v) ∧ g .dead = .dead ∧ (∀ k, k ∉ ks → ob'.getD k .none = ob.getD k .none) ∧
      ∀ (sl' : List V) (R : Type) (K : St → Option R), ioBack ⟨sl', ob⟩ ks os K = K ⟨sl'.map g, ob'⟩
  | [], [], sl, ob, σ2, h => ⟨id, ob, fun _ _ => rfl, rfl, fun _ _ => rfl, fun sl' R K => by show K _ = _; rw [List.map_id]⟩
  | [], _ :: _, sl, ob, σ2, h => by cases h
  | _ :: _, [], sl, ob, σ2, h => by cases h
  | k :: ks, x :: os, sl, ob, σ2, h => by
    unfold ioBack at h
    obtain ⟨cs, os', e0, h⟩ := unOut_ex h
    cases e0
    split at h
    · rename_i b old hb
      obtain ⟨hl0, h⟩ := bif_some h
      have hb : ob.getD k .none = .box b old := hb
      rw [kilP_map] at h
      obtain ⟨g, ob', h1, h2, h3, h4⟩ := ioBack_shape h
      refine ⟨fun v => g (gP k 0 old.length v), ob', fun v hv => ?_, ?_, fun kk hkk => ?_, fun sl' R K => ?_⟩
      · show g (gP k 0 old.length v) = v
        rw [gP_tr (List.mem_cons_self ..) hv]
        exact h1 v (triv_sub (fun k hk => List.mem_cons_of_mem _ hk) hv)
      · show g (gP k 0 old.length .dead) = _
        rw [gP_dead, h2]
      · simp only [List.mem_cons, not_or] at hkk
        rw [h3 kk hkk.2]
        exact getD_set_ob_other _ _ hkk.1
      · unfold ioBack
        show unOut (.io cs :: os) _ = _
        unfold unOut
        simp only
        rw [hb]
        simp only
        rw [hl0]
        simp only [cond_true]
        rw [kilP_map, h4]
        show K ⟨(sl'.map _).map g, ob'⟩ = _
        rw [List.map_map]
        rfl
    · cases h
theorem rsCs_ex {olds cs : List V} {R : Type} {ss : List Sh} {j : Nat} {K : List V → Option R} {r : R} (h : rsCs olds cs j ss K = some r) : ∃ c, rsCs olds cs j ss some = some c ∧ K c = some r := by
  have := rsCs_bind (olds := olds) (cs := cs) (ss := ss) (j := j) (K := some) (g := K)
  simp only [Option.bind_some] at this
  rw [h] at this
  exact Option.bind_eq_some_iff.1 this
theorem rsCs_at {olds cs : List V} {R : Type} {ss : List Sh} {j : Nat} {c : List V} (h : rsCs olds cs j ss some = some c) {K : List V → Option R} : rsCs olds cs j ss K = K c := by
  have := rsCs_bind (olds := olds) (cs := cs) (ss := ss) (j := j) (K := some) (g := K)
  rw [h] at this
  exact this.symm
theorem rsA_shape : ∀ {az : List (V × TypeId)} {sl0 sl : List V} {ob0 ob : List Ob} {σ2 : St}, rsA T ⟨sl0, ob0⟩ ⟨sl, ob⟩ az some = some σ2 →
    ∃ ob' : List Ob, (∀ k, (∀ p ∈ az, k ∉ keysN p.1) → ob'.getD k .none = ob.getD k .none) ∧ ∀ (sl0' sl' : List V) (R : Type) (K : St → Option R), rsA T ⟨sl0', ob0⟩ ⟨sl', ob⟩ az K = K ⟨sl', ob'⟩ := by
  intro az
  induction az with
  | nil => exact fun {sl0 sl ob0 ob σ2} h => ⟨ob, fun _ _ => rfl, fun _ _ _ _ => rfl⟩
  | cons p az ih =>
    intro sl0 sl ob0 ob σ2 h
    have tail : ∀ {sl : List V} {ob : List Ob} {ob1 : List Ob}, (∀ k, (∀ q ∈ az, k ∉ keysN q.1) → ob1.getD k .none = ob.getD k .none) → ∀ k, (∀ q ∈ p :: az, k ∉ keysN q.1) → ob1.getD k .none = ob.getD k .none := fun h k hk => h k fun q hq => hk q (List.mem_cons_of_mem _ hq)
    unfold rsA at h
    split at h
    · rename_i e; cases e
    · rename_i k t az' e
      cases e
      split at h
      · rename_i ss hty
        unfold rsB at h
        split at h
        · rename_i o cs hb
          have hb : ob.getD k .none = .box o cs := hb
          obtain ⟨hl, h⟩ := bif_some h
          obtain ⟨c, hc, h⟩ := rsCs_ex h
          obtain ⟨ob', h1, h2⟩ := ih h
          refine ⟨ob', fun kk hkk => ?_, fun sl0' sl' R K => ?_⟩
          · have hne : kk ≠ k := fun e => hkk _ (List.mem_cons_self ..) (by subst e; simp [keysN, keysC])
            rw [h1 kk fun q hq => hkk q (List.mem_cons_of_mem _ hq)]
            exact getD_set_ob_other _ _ hne
          · unfold rsA
            simp only
            rw [hty]
            simp only
            unfold rsB
            simp only
            rw [hb]
            simp only
            rw [hl]
            simp only [cond_true]
            rw [rsCs_at hc]
            exact h2 _ _ _ _
        · cases h
      · rename_i hty
        obtain ⟨ob', h1, h2⟩ := ih h
        refine ⟨ob', fun kk hkk => h1 kk fun q hq => hkk q (List.mem_cons_of_mem _ hq), fun sl0' sl' R K => ?_⟩
        have key : rsA T ⟨sl0', ob0⟩ ⟨sl', ob⟩ ((.ptr k none 0 0, t) :: az) K = (match T.ty t with | .p ss => rsB ⟨sl0', ob0⟩ ⟨sl', ob⟩ k ss fun σ => rsA T ⟨sl0', ob0⟩ σ az K | _ => rsA T ⟨sl0', ob0⟩ ⟨sl', ob⟩ az K) := rfl
        rw [key]
        split
        · rename_i ss e; exact absurd e (hty ss)
        · exact h2 _ _ _ _
    · rename_i q az' hn e
      cases e
      obtain ⟨ob', h1, h2⟩ := ih h
      refine ⟨ob', fun kk hkk => h1 kk fun q hq => hkk q (List.mem_cons_of_mem _ hq), fun sl0' sl' R K => ?_⟩
      unfold rsA
      split
      · rename_i e; cases e
      · rename_i k t az'' e
        cases e
        exact (hn _ _ rfl).elim
      · rename_i e; cases e; exact h2 _ _ _ _

theorem frzK_notin {s : List (Nat × Option Nat)} {k : Nat} (h : ∀ q ∈ s, q.1 ≠ k) : ∀ o, frzK s k o = o := by
  induction s with
  | nil => exact fun o => rfl
  | cons q s ih =>
    intro o
    obtain ⟨k', c⟩ := q
    have h1 := h (k', c) (List.mem_cons_self ..)
    unfold frzK
    rw [if_neg h1]
    exact ih (fun q hq => h q (List.mem_cons_of_mem _ hq)) o
theorem sealC_keys {lk : Nat → Ob} {v x : V} {s : List (Nat × Option Nat)} (h : sealC lk v (fun x s => some (x, s)) = some (x, s)) : ∀ q ∈ s, q.1 ∈ keysC v := by
  unfold sealC at h
  split at h
  · split at h
    · simp only [Option.some.injEq, Prod.mk.injEq] at h
      rw [← h.2]
      intro q hq
      simp only [List.mem_singleton] at hq
      subst hq
      simp [keysC]
    · cases h
  all_goals first
    | (simp only [Option.some.injEq, Prod.mk.injEq] at h; rw [← h.2]; intro q hq; cases hq; done)
    | (cases h; done)
theorem sealCs_keys {lk : Nat → Ob} : ∀ {vs xs : List V} {s : List (Nat × Option Nat)}, sealCs lk vs (fun x s => some (x, s)) = some (xs, s) → ∀ q ∈ s, q.1 ∈ vs.flatMap keysC
  | [], xs, s, h => by
    simp only [sealCs, Option.some.injEq, Prod.mk.injEq] at h
    rw [← h.2]; intro q hq; cases hq
  | v :: vs, xs, s, h => by
    unfold sealCs at h
    have e := sealC_bind (lk := lk) (v := v) (K := fun x s => some (x, s)) (g := fun p : V × List (Nat × Option Nat) => sealCs lk vs fun vs' s' => some (p.1 :: vs', p.2 ++ s'))
    simp only [Option.bind_some] at e
    rw [h] at e
    obtain ⟨⟨x1, s1⟩, h1, h2⟩ := Option.bind_eq_some_iff.1 e
    have e2 := sealCs_bind (lk := lk) (vs := vs) (K := fun x s => some (x, s)) (g := fun p : List V × List (Nat × Option Nat) => some (x1 :: p.1, s1 ++ p.2))
    simp only [Option.bind_some] at e2
    rw [h2] at e2
    obtain ⟨⟨x2, s2⟩, h3, h4⟩ := Option.bind_eq_some_iff.1 e2
    simp only [Option.some.injEq, Prod.mk.injEq] at h4
    rw [← h4.2]
    intro q hq
    rw [List.flatMap_cons]
    rcases List.mem_append.1 hq with hq | hq
    · exact List.mem_append_left _ (sealC_keys h1 q hq)
    · exact List.mem_append_right _ (sealCs_keys h3 q hq)
theorem keysN_c {v : V} (hs : ∀ cs, v ≠ .st cs) (ht : ∀ cs, v ≠ .tup cs) : keysN v = keysC v := by
  cases v <;> first | rfl | exact absurd rfl (hs _) | exact absurd rfl (ht _)
theorem sealV_keys {lk : Nat → Ob} {v x : V} {s : List (Nat × Option Nat)} (h : sealV lk v (fun x s => some (x, s)) = some (x, s)) : ∀ q ∈ s, q.1 ∈ keysN v := by
  rcases v_cases v with ⟨cs, rfl⟩ | ⟨cs, rfl⟩ | ⟨h1, h2⟩
  · unfold sealV at h
    simp only at h
    have e := sealCs_bind (lk := lk) (vs := cs) (K := fun x s => some (x, s)) (g := fun p : List V × List (Nat × Option Nat) => some (V.st p.1, p.2))
    simp only [Option.bind_some] at e
    rw [h] at e
    obtain ⟨⟨x1, s1⟩, h1, h2⟩ := Option.bind_eq_some_iff.1 e
    simp only [Option.some.injEq, Prod.mk.injEq] at h2
    rw [← h2.2]
    exact sealCs_keys h1
  · cases h
  · rw [keysN_c h1 h2]
    by_cases hd : ∃ y, v = .dt y
    · obtain ⟨y, rfl⟩ := hd
      simp only [sealV, Option.some.injEq, Prod.mk.injEq] at h
      rw [← h.2]; intro q hq; cases hq
    · have : sealV lk v (fun x s => some (x, s)) = sealC lk v (fun x s => some (x, s)) := by
        cases v <;> first | rfl | exact absurd rfl (h1 _) | exact absurd ⟨_, rfl⟩ hd
      rw [this] at h
      exact sealC_keys h
theorem ioSeal_keys {lk : Nat → Ob} : ∀ {vs az : List V} {s : List (Nat × Option Nat)}, ioSeal lk vs (fun x s => some (x, s)) = some (az, s) → ∀ q ∈ s, q.1 ∈ vs.flatMap keysN
  | [], az, s, h => by
    simp only [ioSeal, Option.some.injEq, Prod.mk.injEq] at h
    rw [← h.2]; intro q hq; cases hq
  | v :: vs, az, s, h => by
    by_cases hp : ∃ k, v = .ptr k none 0 0
    · obtain ⟨k, rfl⟩ := hp
      have h : ioSeal lk vs (fun vs s => some (V.ptr k none 0 0 :: vs, s)) = some (az, s) := h
      have e := ioSeal_bind (lk := lk) (vs := vs) (K := fun x s => some (x, s)) (g := fun p : List V × List (Nat × Option Nat) => some (V.ptr k none 0 0 :: p.1, p.2))
      simp only [Option.bind_some] at e
      rw [h] at e
      obtain ⟨⟨x1, s1⟩, h1, h2⟩ := Option.bind_eq_some_iff.1 e
      simp only [Option.some.injEq, Prod.mk.injEq] at h2
      rw [← h2.2]
      intro q hq
      rw [List.flatMap_cons]
      exact List.mem_append_right _ (ioSeal_keys h1 q hq)
    · have hu : ioSeal lk (v :: vs) (fun x s => some (x, s)) = sealV lk v fun v s => ioSeal lk vs fun vs s' => some (v :: vs, s ++ s') := by
        conv => lhs; unfold ioSeal
        split
        · rename_i e; cases e
        · rename_i k vs' e; cases e; exact absurd ⟨k, rfl⟩ hp
        · rename_i e; cases e; rfl
      rw [hu] at h
      have e := sealV_bind (lk := lk) (v := v) (K := fun x s => some (x, s)) (g := fun p : V × List (Nat × Option Nat) => ioSeal lk vs fun vs' s' => some (p.1 :: vs', p.2 ++ s'))
      simp only [Option.bind_some] at e
      rw [h] at e
      obtain ⟨⟨x1, s1⟩, h1, h2⟩ := Option.bind_eq_some_iff.1 e
      have e2 := ioSeal_bind (lk := lk) (vs := vs) (K := fun x s => some (x, s)) (g := fun p : List V × List (Nat × Option Nat) => some (x1 :: p.1, s1 ++ p.2))
      simp only [Option.bind_some] at e2
      rw [h2] at e2
      obtain ⟨⟨x2, s2⟩, h3, h4⟩ := Option.bind_eq_some_iff.1 e2
      simp only [Option.some.injEq, Prod.mk.injEq] at h4
      rw [← h4.2]
      intro q hq
      rw [List.flatMap_cons]
      rcases List.mem_append.1 hq with hq | hq
      · exact List.mem_append_left _ (sealV_keys h1 q hq)
      · exact List.mem_append_right _ (ioSeal_keys h3 q hq)
theorem ioFill_keys {ob : List Ob} {as : List V} {vs : List V} {l : List Nat} (h : ioFill ob as (fun vs q => some (vs, q)) = some (vs, l)) : ∀ k ∈ l, ∃ x ∈ as, x = .ptr k none 0 0 := by
  induction as generalizing vs l with
  | nil =>
    simp only [ioFill, Option.some.injEq, Prod.mk.injEq] at h
    rw [← h.2]; intro k hk; cases hk
  | cons v as ih =>
    by_cases hp : ∃ k, v = .ptr k none 0 0
    · obtain ⟨k, rfl⟩ := hp
      have h : (match ob.getD k .none with | .box true cs => ioFill ob as fun vs q => some (V.io (cs.map unO) :: vs, k :: q) | _ => none) = some (vs, l) := h
      split at h
      · rename_i cs hb
        have e := ioFill_bind (ob := ob) (vs := as) (K := fun x s => some (x, s)) (g := fun p : List V × List Nat => some (V.io (cs.map unO) :: p.1, k :: p.2))
        simp only [Option.bind_some] at e
        rw [h] at e
        obtain ⟨⟨x1, s1⟩, h1, h2⟩ := Option.bind_eq_some_iff.1 e
        simp only [Option.some.injEq, Prod.mk.injEq] at h2
        rw [← h2.2]
        intro q hq
        rcases List.mem_cons.1 hq with rfl | hq
        · exact ⟨_, List.mem_cons_self .., rfl⟩
        · obtain ⟨x, hx, e⟩ := ih h1 q hq
          exact ⟨x, List.mem_cons_of_mem _ hx, e⟩
      · cases h
    · have hu : ioFill ob (v :: as) (fun x s => some (x, s)) = ioFill ob as fun vs q => some (v :: vs, q) := by
        conv => lhs; unfold ioFill
        split
        · rename_i e; cases e
        · rename_i k vs' e; cases e; exact absurd ⟨k, rfl⟩ hp
        · rename_i e; cases e; rfl
      rw [hu] at h
      have e := ioFill_bind (ob := ob) (vs := as) (K := fun x s => some (x, s)) (g := fun p : List V × List Nat => some (v :: p.1, p.2))
      simp only [Option.bind_some] at e
      rw [h] at e
      obtain ⟨⟨x1, s1⟩, h1, h2⟩ := Option.bind_eq_some_iff.1 e
      simp only [Option.some.injEq, Prod.mk.injEq] at h2
      rw [← h2.2]
      intro q hq
      obtain ⟨x, hx, e⟩ := ih h1 q hq
      exact ⟨x, List.mem_cons_of_mem _ hx, e⟩
/-- a pointer that stays is one of those that were handed over -/
theorem ioSeal_ptr {lk : Nat → Ob} : ∀ {vs az : List V} {s : List (Nat × Option Nat)}, (∀ v ∈ vs, noDt v = true) → ioSeal lk vs (fun x s => some (x, s)) = some (az, s) → ∀ k, (V.ptr k none 0 0) ∈ az → k ∈ vs.flatMap keysN
  | [], az, s, _, h, k, hk => by
    simp only [ioSeal, Option.some.injEq, Prod.mk.injEq] at h
    rw [← h.1] at hk; cases hk
  | v :: vs, az, s, hnd, h, k, hk => by
    have hnd' : ∀ v ∈ vs, noDt v = true := fun u hu => hnd u (List.mem_cons_of_mem _ hu)
    rw [List.flatMap_cons]
    by_cases hp : ∃ k, v = .ptr k none 0 0
    · obtain ⟨k0, rfl⟩ := hp
      have h : ioSeal lk vs (fun vs s => some (V.ptr k0 none 0 0 :: vs, s)) = some (az, s) := h
      have e := ioSeal_bind (lk := lk) (vs := vs) (K := fun x s => some (x, s)) (g := fun p : List V × List (Nat × Option Nat) => some (V.ptr k0 none 0 0 :: p.1, p.2))
      simp only [Option.bind_some] at e
      rw [h] at e
      obtain ⟨⟨x1, s1⟩, h1, h2⟩ := Option.bind_eq_some_iff.1 e
      simp only [Option.some.injEq, Prod.mk.injEq] at h2
      rw [← h2.1] at hk
      rcases List.mem_cons.1 hk with e | hk
      · cases e; exact List.mem_append_left _ (by simp [keysN, keysC])
      · exact List.mem_append_right _ (ioSeal_ptr hnd' h1 k hk)
    · have hu : ioSeal lk (v :: vs) (fun x s => some (x, s)) = sealV lk v fun v s => ioSeal lk vs fun vs s' => some (v :: vs, s ++ s') := by
        conv => lhs; unfold ioSeal
        split
        · rename_i e; cases e
        · rename_i k vs' e; cases e; exact absurd ⟨k, rfl⟩ hp
        · rename_i e; cases e; rfl
      rw [hu] at h
      have e := sealV_bind (lk := lk) (v := v) (K := fun x s => some (x, s)) (g := fun p : V × List (Nat × Option Nat) => ioSeal lk vs fun vs' s' => some (p.1 :: vs', p.2 ++ s'))
      simp only [Option.bind_some] at e
      rw [h] at e
      obtain ⟨⟨x1, s1⟩, h1, h2⟩ := Option.bind_eq_some_iff.1 e
      have e2 := ioSeal_bind (lk := lk) (vs := vs) (K := fun x s => some (x, s)) (g := fun p : List V × List (Nat × Option Nat) => some (x1 :: p.1, s1 ++ p.2))
      simp only [Option.bind_some] at e2
      rw [h2] at e2
      obtain ⟨⟨x2, s2⟩, h3, h4⟩ := Option.bind_eq_some_iff.1 e2
      simp only [Option.some.injEq, Prod.mk.injEq] at h4
      rw [← h4.1] at hk
      rcases List.mem_cons.1 hk with e | hk
      · exfalso
        rw [← e] at h1
        -- what is made fit is no pointer
        have nop : ∀ {u : V} {s : List (Nat × Option Nat)}, sealC lk u (fun x s => some (x, s)) = some (V.ptr k none 0 0, s) → False := fun {u s} hh => by
          unfold sealC at hh
          split at hh <;> first | cases hh; done | (split at hh <;> cases hh)
        rcases v_cases v with ⟨cs, rfl⟩ | ⟨cs, rfl⟩ | ⟨g1, g2⟩
        · unfold sealV at h1
          simp only at h1
          have e := sealCs_bind (lk := lk) (vs := cs) (K := fun x s => some (x, s)) (g := fun p : List V × List (Nat × Option Nat) => some (V.st p.1, p.2))
          simp only [Option.bind_some] at e
          rw [h1] at e
          obtain ⟨⟨y1, t1⟩, _, h6⟩ := Option.bind_eq_some_iff.1 e
          cases h6
        · cases h1
        · by_cases hd : ∃ y, v = .dt y
          · obtain ⟨y, rfl⟩ := hd
            have := hnd _ (List.mem_cons_self ..)
            cases this
          · have : sealV lk v (fun x s => some (x, s)) = sealC lk v (fun x s => some (x, s)) := by
              cases v <;> first | rfl | exact absurd rfl (g1 _) | exact absurd ⟨_, rfl⟩ hd
            rw [this] at h1
            exact nop h1
      · exact List.mem_append_right _ (ioSeal_ptr hnd' h3 k hk)
end

section
variable {R : Type}
theorem ioSeal_some {lk : Nat → Ob} {vs : List V} {K : List V → List (Nat × Option Nat) → Option R} {r : R} (h : ioSeal lk vs K = some r) : ∃ az s, ioSeal lk vs (fun x s => some (x, s)) = some (az, s) ∧ K az s = some r := by
  have e := ioSeal_bind (lk := lk) (vs := vs) (K := fun x s => some (x, s)) (g := fun p : List V × List (Nat × Option Nat) => K p.1 p.2)
  simp only [Option.bind_some] at e
  rw [h] at e
  obtain ⟨⟨x1, s1⟩, h1, h2⟩ := Option.bind_eq_some_iff.1 e
  exact ⟨x1, s1, h1, h2⟩
theorem ioSeal_at {lk : Nat → Ob} {vs az : List V} {s : List (Nat × Option Nat)} (h : ioSeal lk vs (fun x s => some (x, s)) = some (az, s)) {K : List V → List (Nat × Option Nat) → Option R} : ioSeal lk vs K = K az s := by
  have e := ioSeal_bind (lk := lk) (vs := vs) (K := fun x s => some (x, s)) (g := fun p : List V × List (Nat × Option Nat) => K p.1 p.2)
  rw [h] at e
  exact e.symm
theorem ioFill_some {ob : List Ob} {vs : List V} {K : List V → List Nat → Option R} {r : R} (h : ioFill ob vs K = some r) : ∃ az s, ioFill ob vs (fun x s => some (x, s)) = some (az, s) ∧ K az s = some r := by
  have e := ioFill_bind (ob := ob) (vs := vs) (K := fun x s => some (x, s)) (g := fun p : List V × List Nat => K p.1 p.2)
  simp only [Option.bind_some] at e
  rw [h] at e
  obtain ⟨⟨x1, s1⟩, h1, h2⟩ := Option.bind_eq_some_iff.1 e
  exact ⟨x1, s1, h1, h2⟩
theorem ioFill_at {ob : List Ob} {vs az : List V} {s : List Nat} (h : ioFill ob vs (fun x s => some (x, s)) = some (az, s)) {K : List V → List Nat → Option R} : ioFill ob vs K = K az s := by
  have e := ioFill_bind (ob := ob) (vs := vs) (K := fun x s => some (x, s)) (g := fun p : List V × List Nat => K p.1 p.2)
  rw [h] at e
  exact e.symm
theorem ioBack_some {ks : List Nat} {σ : St} {os : List V} {K : St → Option R} {r : R} (h : ioBack σ ks os K = some r) : ∃ σ', ioBack σ ks os some = some σ' ∧ K σ' = some r := by
  have e := ioBack_bind (ks := ks) (σ := σ) (outs := os) (K := some) (g := K)
  simp only [Option.bind_some] at e
  rw [h] at e
  exact Option.bind_eq_some_iff.1 e
theorem unC_at {s : Sh} {v c : V} (h : unC s v some = some c) {K : V → Option R} : unC s v K = K c := by
  have e := unC_bind (s := s) (v := v) (K := some) (g := K)
  rw [h] at e
  exact e.symm
theorem unC_ex {s : Sh} {v : V} {K : V → Option R} {r : R} (h : unC s v K = some r) : ∃ c, unC s v some = some c ∧ K c = some r := by
  have e := unC_bind (s := s) (v := v) (K := some) (g := K)
  simp only [Option.bind_some] at e
  rw [h] at e
  exact Option.bind_eq_some_iff.1 e
theorem unVs_at {ts : List Ty} {j : Nat} {vs c : List V} (h : unVs vs j ts some = some c) {K : List V → Option R} : unVs vs j ts K = K c := by
  have e := unVs_bind (ts := ts) (j := j) (vs := vs) (K := some) (g := K)
  rw [h] at e
  exact e.symm
theorem unVs_ex {ts : List Ty} {j : Nat} {vs : List V} {K : List V → Option R} {r : R} (h : unVs vs j ts K = some r) : ∃ c, unVs vs j ts some = some c ∧ K c = some r := by
  have e := unVs_bind (ts := ts) (j := j) (vs := vs) (K := some) (g := K)
  simp only [Option.bind_some] at e
  rw [h] at e
  exact Option.bind_eq_some_iff.1 e
end
/-- what is put where the call was -/
def finK {R : Type} (y : Ty) (v : V) (d : Nat) (K : St → Option R) (σ : St) : Option R :=
  match y with
  | .c sh => unC sh v fun x => K ⟨σ.sl.set d x, σ.ob⟩
  | .agg ss => unSt ss.length v (K ⟨σ.sl.set d (.dt v), σ.ob⟩)
  | .tup ts => unTup ts.length v fun vs => unVs vs 0 ts fun vs => K ⟨σ.sl.set d (.tup vs), σ.ob⟩
  | .p _ => none
theorem finK_shape {R : Type} {y : Ty} {v : V} {d : Nat} {K : St → Option R} {σ : St} {r : R} (h : finK y v d K σ = some r) : ∃ x, K ⟨σ.sl.set d x, σ.ob⟩ = some r ∧ ∀ (R' : Type) (K' : St → Option R') (σ' : St), finK y v d K' σ' = K' ⟨σ'.sl.set d x, σ'.ob⟩ := by
  cases y with
  | c sh =>
    have h : (unC sh v fun x => K ⟨σ.sl.set d x, σ.ob⟩) = some r := h
    obtain ⟨c, h1, h2⟩ := unC_ex h
    refine ⟨c, h2, fun R' K' σ' => ?_⟩
    show (unC sh v fun x => K' ⟨σ'.sl.set d x, σ'.ob⟩) = _
    exact unC_at h1
  | agg ss =>
    replace h : unSt ss.length v (K ⟨σ.sl.set d (.dt v), σ.ob⟩) = some r := h
    unfold unSt at h
    split at h
    · rename_i cs
      obtain ⟨h1, h2⟩ := bif_some h
      refine ⟨_, h2, fun R' K' σ' => ?_⟩
      show unSt ss.length (.st cs) (K' ⟨σ'.sl.set d (.dt (.st cs)), σ'.ob⟩) = _
      unfold unSt
      simp only
      rw [h1]; rfl
    · cases h
  | p ss => cases h
  | tup ts =>
    replace h : (unTup ts.length v fun vs => unVs vs 0 ts fun vs => K ⟨σ.sl.set d (.tup vs), σ.ob⟩) = some r := h
    unfold unTup at h
    split at h
    · rename_i vs
      obtain ⟨h1, h2⟩ := bif_some h
      obtain ⟨c, h3, h4⟩ := unVs_ex h2
      refine ⟨_, h4, fun R' K' σ' => ?_⟩
      show (unTup ts.length (.tup vs) fun vs => unVs vs 0 ts fun vs => K' ⟨σ'.sl.set d (.tup vs), σ'.ob⟩) = _
      unfold unTup
      simp only
      rw [h1]
      exact unVs_at h3
    · cases h
theorem exLoud_call {T : TT} {call : FuncId → List V → Option Res} {σ : St} {d : Nat} {f : Operand} {args : Array Operand} {ts : Array TypeId} {ty : TypeId} {pos : String} {after : Array Edge} {guard : Option (Nat × Bool)} {R : Type} {K : St → Option R} :
    exLoud T call σ ⟨some d, .call ⟨.value f, args, ts⟩, ty, pos, after, guard⟩ K = match val T σ f with
    | .sc (.func (.func f) fs cv) => bif Nat.beq fs.size 0 && Nat.beq cv.size 0 then ioSeal (lkE σ) (nrmA T ts.toList (args.toList.map (val T σ))) fun az s => ioFill (freeze σ.ob s) az fun vs q => bif nodup q then
        (call f vs).bind fun r => ioBack ⟨σ.sl, freeze σ.ob s⟩ q r.2 (finK (T.ty ty) r.1 d fun σ' => rsA T σ σ' ((args.toList.map (val T σ)).zip ts.toList) K)
        else none
      else none
    | _ => none := rfl
theorem call_operands {f : Operand} {args : Array Operand} {ts : Array TypeId} : f ∈ (Op.call ⟨.value f, args, ts⟩).operands.toList ∧ ∀ x ∈ args.toList, x ∈ (Op.call ⟨.value f, args, ts⟩).operands.toList := by
  constructor
  · simp [Op.operands, Call.operands]
  · intro x hx
    simp only [Op.operands, Call.operands]
    simp [Array.mem_toList_iff.1 hx]
theorem keysC_nrm {s : Sh} {c : V} : keysC (nrmC s c) = keysC c := by
  unfold nrmC
  split <;> rfl
theorem keysN_nrm {T : TT} {t : TypeId} {v : V} : keysN (nrmV T t v) = keysN v := by
  by_cases hs : ∃ cs, v = .st cs
  · obtain ⟨cs, rfl⟩ := hs
    rcases nrmV_st (T := T) (t := t) (cs := cs) with e | ⟨ss, e⟩
    · rw [e]
    · rw [e]
      show (nrmCs ss cs).flatMap keysC = cs.flatMap keysC
      clear e
      induction ss generalizing cs with
      | nil => rfl
      | cons s ss ih =>
        cases cs with
        | nil => rfl
        | cons c cs => unfold nrmCs; rw [List.flatMap_cons, List.flatMap_cons, keysC_nrm, ih]
  · rw [nrmV_el fun cs e => hs ⟨cs, e⟩]
theorem nrmA_keys {T : TT} : ∀ (ts : List TypeId) (vs : List V), (nrmA T ts vs).flatMap keysN = vs.flatMap keysN
  | [], _ => rfl
  | _ :: _, [] => rfl
  | t :: ts, v :: vs => by unfold nrmA; rw [List.flatMap_cons, List.flatMap_cons, keysN_nrm, nrmA_keys ts vs]
theorem nrmV_dt {T : TT} {t : TypeId} {v : V} : noDt (nrmV T t v) = noDt v := by
  by_cases hs : ∃ cs, v = .st cs
  · obtain ⟨cs, rfl⟩ := hs
    rcases nrmV_st (T := T) (t := t) (cs := cs) with e | ⟨ss, e⟩ <;> rw [e] <;> rfl
  · rw [nrmV_el fun cs e => hs ⟨cs, e⟩]
theorem nrmA_dt {T : TT} {ts : List TypeId} {vs : List V} (h : ∀ v ∈ vs, noDt v = true) : ∀ v ∈ nrmA T ts vs, noDt v = true := fun v hv => by
  obtain ⟨i, hi, rfl⟩ := List.getElem_of_mem hv
  obtain ⟨v0, hv0, e0⟩ := nrmA_get _ _ i (List.getElem?_eq_getElem hi)
  have h0 := h v0 (List.mem_of_getElem? hv0)
  rcases e0 with e0 | ⟨t, e0⟩
  · rw [e0]; exact h0
  · rw [e0, nrmV_dt]; exact h0
theorem io_shape {T : TT} {call : FuncId → List V → Option Res} {σ σ2 : St} {o : Oper} (hio : isIo o = true) (hnd : ∀ x ∈ o.op.operands.toList, noDt (val T σ x) = true) (h : exLoud T call σ o some = some σ2) :
    ∃ (d : Nat) (g : V → V) (x : V) (ob' : List Ob), o.dst = some d ∧ (∀ v, triv (opKeys T σ o) v = true → g v = v) ∧ g .dead = .dead ∧ (∀ k, k ∉ opKeys T σ o → ob'.getD k .none = σ.ob.getD k .none) ∧
      ∀ (sl' : List V), (∀ y ∈ o.op.operands.toList, val T ⟨sl', σ.ob⟩ y = val T σ y) → ∀ (R : Type) (K : St → Option R), exLoud T call ⟨sl', σ.ob⟩ o K = K ⟨(sl'.map g).set d x, ob'⟩ := by
  obtain ⟨dst, op, ty, pos, after, guard⟩ := o
  cases op <;> first | (cases hio; done) | skip
  rename_i c
  obtain ⟨callee, args, ts⟩ := c
  cases callee <;> first | (cases hio; done) | skip
  rename_i f
  cases dst with
  | none => cases hio
  | some d =>
  rw [exLoud_call] at h
  obtain ⟨mf, ma⟩ := call_operands (f := f) (args := args) (ts := ts)
  split at h
  · rename_i q fs cv hf
    obtain ⟨h0, h⟩ := bif_some h
    obtain ⟨az, s, h1, h⟩ := ioSeal_some h
    obtain ⟨vs, l, h2, h⟩ := ioFill_some h
    obtain ⟨h3, h⟩ := bif_some h
    obtain ⟨r, h4, h⟩ := Option.bind_eq_some_iff.1 h
    obtain ⟨σ3, h5, h⟩ := ioBack_some h
    obtain ⟨g, ob3, g1, g2, g3, g4⟩ := ioBack_shape h5
    obtain ⟨x, h, h6⟩ := finK_shape h
    have e3 := g4 σ.sl _ some
    rw [h5] at e3
    cases e3
    obtain ⟨ob', h7, h8⟩ := rsA_shape (sl0 := σ.sl) (ob0 := σ.ob) h
    have hkeys : ∀ k, k ∈ (args.toList.map (val T σ)).flatMap keysN → k ∈ opKeys T σ ⟨some d, .call ⟨.value f, args, ts⟩, ty, pos, after, guard⟩ := fun k hk => by
      obtain ⟨v, hv, hk⟩ := List.mem_flatMap.1 hk
      obtain ⟨y, hy, rfl⟩ := List.mem_map.1 hv
      exact List.mem_flatMap.2 ⟨y, ma y hy, hk⟩
    have hl : ∀ k ∈ l, k ∈ opKeys T σ ⟨some d, .call ⟨.value f, args, ts⟩, ty, pos, after, guard⟩ := fun k hk => by
      obtain ⟨y, hy, e⟩ := ioFill_keys h2 k hk
      subst e
      exact hkeys k (by rw [← nrmA_keys ts.toList]; exact ioSeal_ptr (nrmA_dt fun v hv => by obtain ⟨y, hy, rfl⟩ := List.mem_map.1 hv; exact hnd y (ma y hy)) h1 k hy)
    refine ⟨d, g, x, ob', rfl, fun v hv => g1 v (triv_sub hl hv), g2, fun k hk => ?_, fun sl' hsl R K => ?_⟩
    · rw [h7 k (fun p hp hkp => hk (hkeys k (List.mem_flatMap.2 ⟨p.1, (List.of_mem_zip hp).1, hkp⟩)))]
      show ob3.getD k .none = _
      rw [g3 k (fun hkl => hk (hl k hkl)), getD_freeze, frzK_notin fun q hq e => hk (hkeys k (by rw [← e, ← nrmA_keys ts.toList]; exact ioSeal_keys h1 q hq))]
    · rw [exLoud_call, hsl f mf, hf]
      simp only
      rw [h0]
      simp only [cond_true]
      have ea : args.toList.map (val T ⟨sl', σ.ob⟩) = args.toList.map (val T σ) := List.map_congr_left fun y hy => hsl y (ma y hy)
      rw [ea, show lkE ⟨sl', σ.ob⟩ = lkE σ from rfl, ioSeal_at h1, ioFill_at h2, h3]
      simp only [cond_true]
      rw [h4, Option.bind_some, g4, h6]
      exact h8 _ _ _ _
  · cases h
end Go.Proofs.YtmddfhjgdhjmkaaDoor.VM

/- The abstract machine and the memory: drawn regions in which a call floats among quiet operations: steps, and two steps in the other order. -/
set_option linter.unusedVariables false
set_option linter.unusedSimpArgs false
namespace Go.Proofs.YtmddfhjgdhjmkaaDoor.VM

abbrev Fs := List (Nat × Option Nat)
def entQ (T : TT) (i : Nat) (o : Oper) (σ : St) (x : V) (ob : Ob) (s : Fs) : Ent := ⟨i, opKeys T σ o, [], x, isNone ob && s.isEmpty, false⟩
def entL (T : TT) (i : Nat) (o : Oper) (σ : St) : Ent := ⟨i, [], opKeys T σ o, .dead, true, true⟩
def entS (i : Nat) : Ent := ⟨i, [], [], .tup [], true, false⟩
/-- an operation that is not loud: what it puts -/
structure QE (T : TT) (call : FuncId → List V → Option Res) (ops : List Oper) (un : List (List Nat)) (i : Nat) (o : Oper) (σ : St) (lg : List Ent) (d : Nat) (x : V) (ob : Ob) (s : Fs) (e : Ent) : Prop where
  dst : o.dst = some d
  run : (wantB ops σ o = some true ∧ isQuiet T o = true ∧ keysOk T σ o = true ∧ disj (opKeys T σ o) (ndOf ops un i) = true ∧ qv T call (val T σ) (lkE σ) d o K3 = some (x, ob, s) ∧
      (isNone ob = true ∨ isNone (σ.ob.getD d .none) = true) ∧ e = entQ T i o σ x ob s ∧ okLog un e lg = true) ∨
    (wantB ops σ o = some false ∧ x = .tup [] ∧ ob = .none ∧ s = [] ∧ e = entS i)
structure LE (T : TT) (call : FuncId → List V → Option Res) (ops : List Oper) (un : List (List Nat)) (i : Nat) (o : Oper) (σ : St) (fs : Fs) (lg : List Ent) (σ' : St) (e : Ent) : Prop where
  want : wantB ops σ o = some true
  loud : isQuiet T o = false
  ent : e = entL T i o σ
  log : okLog un e lg = true
  tr : (un.getD i []).isEmpty = true ∨ (σ.sl.all (triv (opKeys T σ o)) = true ∧ (o.op.operands.toList.all fun x => noDt (val T σ x)) = true)
  out : exLoud T call ⟨σ.sl, freeze σ.ob fs⟩ o some = some σ'
inductive Step (T : TT) (call : FuncId → List V → Option Res) (ops : List Oper) (un : List (List Nat)) (i : Nat) (o : Oper) (σ : St) (fs : Fs) (lg : List Ent) : St → Fs → Ent → Prop
  | quiet {d : Nat} {x : V} {ob : Ob} {s : Fs} {e : Ent} (h : QE T call ops un i o σ lg d x ob s e) : Step T call ops un i o σ fs lg (putN σ d x ob) (fs ++ s) e
  | loud {σ' : St} {e : Ent} (h : LE T call ops un i o σ fs lg σ' e) : Step T call ops un i o σ fs lg σ' [] e

section
variable {T : TT} {call : FuncId → List V → Option Res} {ops : List Oper} {un : List (List Nat)} {R : Type} {r : R}

theorem exG_iff {σ : St} {o : Oper} {run skip : St → Option R} : exG ops σ o run skip = some r ↔ (wantB ops σ o = some true ∧ run σ = some r) ∨ (wantB ops σ o = some false ∧ skip σ = some r) := by
  unfold exG wantB
  cases hg : o.guard with
  | none => simp
  | some q =>
    obtain ⟨j, want⟩ := q
    simp only
    cases hgd : (ops[j]?).bind (·.dst) with
    | none => simp
    | some g =>
      simp only
      cases hun : isUndef (σ.sl.getD g .dead) with
      | true =>
        have hx : σ.sl.getD g .dead = .tup [] := by
          cases hv : σ.sl.getD g .dead <;> rw [hv] at hun <;> first | (cases hun; done) | skip
          rename_i vs
          cases vs <;> first | rfl | cases hun
        rw [hx]
        simp
      | false =>
        simp only [cond_false]
        cases hv : σ.sl.getD g .dead with
        | sc u =>
          cases u with
          | bool t =>
            have e : (⟨σ.sl.set g (.sc (.bool t)), σ.ob⟩ : St) = σ := by rw [set_same hv]
            cases t
            · show (bif (false == want) then run ⟨σ.sl.set g (.sc (.bool false)), σ.ob⟩ else skip ⟨σ.sl.set g (.sc (.bool false)), σ.ob⟩) = some r ↔ _
              rw [e]
              cases want <;> simp
            · show (bif (true == want) then run ⟨σ.sl.set g (.sc (.bool true)), σ.ob⟩ else skip ⟨σ.sl.set g (.sc (.bool true)), σ.ob⟩) = some r ↔ _
              rw [e]
              cases want <;> simp
          | _ => simp [unB]
        | tup vs =>
          cases vs with
          | nil => rw [hv] at hun; cases hun
          | cons => simp [unB]
        | _ => simp [unB]

theorem exD1_iff {i : Nat} {o : Oper} {σ : St} {fs : Fs} {lg : List Ent} {K : St → Fs → List Ent → Option R} (hw : wantB ops σ o = some true) :
    exD1 T call ops un i o σ fs lg K = some r ↔ ∃ σ' fs' e, Step T call ops un i o σ fs lg σ' fs' e ∧ K σ' fs' (e :: lg) = some r := by
  unfold exD1
  cases hq : isQuiet T o with
  | true =>
    simp only [cond_true]
    constructor
    · intro h
      obtain ⟨hk, h⟩ := bif_some h
      rw [Bool.and_eq_true] at hk
      split at h
      · rename_i d hd
        obtain ⟨x, ob, s, h, hqv⟩ := qv_nat h
        obtain ⟨h0, h⟩ := bif_some h
        rw [Bool.and_eq_true, Bool.or_eq_true] at h0
        exact ⟨_, _, _, .quiet ⟨hd, .inl ⟨hw, hq, hk.1, hk.2, hqv, h0.1, rfl, h0.2⟩⟩, h⟩
      · cases h
    · rintro ⟨σ', fs', e, hs, h⟩
      cases hs with
      | quiet hqe =>
        rename_i d x ob s
        obtain ⟨hd, ⟨_, _, hk, hn, hv, h0, rfl, hl⟩ | ⟨hw', _⟩⟩ := hqe
        · rw [hk, hn, hd]
          simp only [Bool.and_self, cond_true]
          rw [qv_at hv]
          have : ((isNone ob || isNone (σ.ob.getD d .none)) && okLog un ⟨i, opKeys T σ o, [], x, isNone ob && s.isEmpty, false⟩ lg) = true := by
            rw [Bool.and_eq_true, Bool.or_eq_true]; exact ⟨h0, hl⟩
          rw [this]
          exact h
        · rw [hw] at hw'; cases hw'
      | loud hle => have := hle.loud; rw [hq] at this; cases this
  | false =>
    simp only [cond_false]
    constructor
    · intro h
      obtain ⟨h0, h⟩ := bif_some h
      obtain ⟨σ', h1, h2⟩ := loud_some h
      rw [Bool.and_eq_true, Bool.or_eq_true, Bool.and_eq_true] at h0
      exact ⟨_, _, _, .loud ⟨hw, hq, rfl, h0.1, h0.2, h1⟩, h2⟩
    · rintro ⟨σ', fs', e, hs, h⟩
      cases hs with
      | quiet hqe =>
        obtain ⟨hd, ⟨_, hq', _⟩ | ⟨hw', _⟩⟩ := hqe
        · rw [hq] at hq'; cases hq'
        · rw [hw] at hw'; cases hw'
      | loud hle =>
        obtain ⟨_, _, rfl, hl, ht, ho⟩ := hle
        have : (okLog un ⟨i, [], opKeys T σ o, .dead, true, true⟩ lg && ((un.getD i []).isEmpty || (σ.sl.all (triv (opKeys T σ o)) && o.op.operands.toList.all fun x => noDt (val T σ x)))) = true := by
          rw [Bool.and_eq_true, Bool.or_eq_true, Bool.and_eq_true]; exact ⟨hl, ht⟩
        rw [this]
        simp only [cond_true]
        rw [loud_at ho]
        exact h

theorem exD_cons {i : Nat} {o : Oper} {l : List (Oper × Nat)} {σ : St} {fs : Fs} {lg : List Ent} {K : St → Option R} :
    exD T call ops un ((o, i) :: l) σ fs lg K = some r ↔ ∃ σ' fs' e, Step T call ops un i o σ fs lg σ' fs' e ∧ exD T call ops un l σ' fs' (e :: lg) K = some r := by
  show exG ops σ o (fun σ => exD1 T call ops un i o σ fs lg fun σ fs lg => exD T call ops un l σ fs lg K)
      (fun σ => match o.dst with | some d => exD T call ops un l ⟨σ.sl.set d (.tup []), σ.ob⟩ fs (⟨i, [], [], .tup [], true, false⟩ :: lg) K | none => none) = some r ↔ _
  rw [exG_iff]
  constructor
  · rintro (⟨hw, h⟩ | ⟨hw, h⟩)
    · exact (exD1_iff hw).1 h
    · split at h
      · rename_i d hd
        refine ⟨putN σ d (.tup []) .none, fs ++ [], _, .quiet ⟨hd, .inr ⟨hw, rfl, rfl, rfl, rfl⟩⟩, ?_⟩
        rw [List.append_nil]
        exact h
      · cases h
  · rintro ⟨σ', fs', e, hs, h⟩
    by_cases hw : wantB ops σ o = some true
    · exact .inl ⟨hw, (exD1_iff hw).2 ⟨σ', fs', e, hs, h⟩⟩
    · cases hs with
      | quiet hqe =>
        obtain ⟨hd, ⟨hw', _⟩ | ⟨hw', rfl, rfl, rfl, rfl⟩⟩ := hqe
        · exact absurd hw' hw
        · refine .inr ⟨hw', ?_⟩
          rw [hd]
          rw [List.append_nil] at h
          exact h
      | loud hle => exact absurd hle.want hw

/-! ### the order of what is frozen and of the log does not matter -/
theorem frzK_comm (a : Fs) (k : Nat) : ∀ (b : Fs) (o : Ob), frzK a k (frzK b k o) = frzK b k (frzK a k o)
  | [], o => rfl
  | (k', c) :: b, o => by
    show frzK a k (frzK b k (if k' = k then frzO c o else o)) = frzK b k (if k' = k then frzO c (frzK a k o) else frzK a k o)
    rw [frzK_comm a k b]
    split
    · rw [frzK_push]
    · rfl
theorem freeze_same {fs fs' : Fs} (h : ∀ q, q ∈ fs ↔ q ∈ fs') (ob : List Ob) : freeze ob fs = freeze ob fs' := by
  have hl : (freeze ob fs).length = (freeze ob fs').length := by rw [freeze_length, freeze_length]
  have hk : ∀ k, (freeze ob fs).getD k .none = (freeze ob fs').getD k .none := fun k => by
    rw [getD_freeze, getD_freeze]
    have h1 := frzK_sub (s := fs) (k := k) (s' := fs') (fun q hq => (h q).2 hq) (ob.getD k .none)
    have h2 := frzK_sub (s := fs') (k := k) (s' := fs) (fun q hq => (h q).1 hq) (ob.getD k .none)
    rw [← h1, frzK_comm, h2]
  refine List.ext_getElem hl fun k h1 h2 => ?_
  have := hk k
  rw [List.getD_eq_getElem?_getD, List.getD_eq_getElem?_getD, List.getElem?_eq_getElem h1, List.getElem?_eq_getElem h2] at this
  exact this
theorem okLog_sub {e : Ent} {lg lg' : List Ent} (h : ∀ q ∈ lg', q ∈ lg) (ho : okLog un e lg = true) : okLog un e lg' = true := by
  unfold okLog at *
  rw [List.all_eq_true] at *
  exact fun q hq => ho q (h q hq)
theorem Step.same {i : Nat} {o : Oper} {σ σ' : St} {fs fs' f : Fs} {lg lg' : List Ent} {e : Ent} (hf : ∀ q, q ∈ fs ↔ q ∈ fs') (hl : ∀ q, q ∈ lg ↔ q ∈ lg') (h : Step T call ops un i o σ fs lg σ' f e) :
    ∃ f', Step T call ops un i o σ fs' lg' σ' f' e ∧ ∀ q, q ∈ f ↔ q ∈ f' := by
  cases h with
  | quiet h =>
    rename_i d x ob s
    refine ⟨fs' ++ s, .quiet ⟨h.dst, h.run.imp (fun ⟨h1, h2, h3, h4, h5, h6, h7, h8⟩ => ⟨h1, h2, h3, h4, h5, h6, h7, okLog_sub (fun q hq => (hl q).2 hq) h8⟩) id⟩, fun q => ?_⟩
    rw [List.mem_append, List.mem_append, hf]
  | loud h =>
    obtain ⟨h1, h2, h3, h4, h5, h6⟩ := h
    refine ⟨[], .loud ⟨h1, h2, h3, okLog_sub (fun q hq => (hl q).2 hq) h4, h5, ?_⟩, fun q => Iff.rfl⟩
    rw [← freeze_same hf]; exact h6
theorem exD_same {K : St → Option R} : ∀ (l : List (Oper × Nat)) (σ : St) (fs fs' : Fs) (lg lg' : List Ent), (∀ q, q ∈ fs ↔ q ∈ fs') → (∀ q, q ∈ lg ↔ q ∈ lg') → exD T call ops un l σ fs lg K = some r → exD T call ops un l σ fs' lg' K = some r
  | [], σ, fs, fs', lg, lg', hf, _, h => by
    have h : K ⟨σ.sl, freeze σ.ob fs⟩ = some r := h
    show K ⟨σ.sl, freeze σ.ob fs'⟩ = some r
    rw [← freeze_same hf]; exact h
  | (o, i) :: l, σ, fs, fs', lg, lg', hf, hl, h => by
    obtain ⟨σ', f, e, h1, h2⟩ := exD_cons.1 h
    obtain ⟨f', h3, h4⟩ := h1.same hf hl
    exact exD_cons.2 ⟨σ', f', e, h3, exD_same l σ' f f' _ _ h4 (fun q => by rw [List.mem_cons, List.mem_cons, hl]) h2⟩

/-! ### two steps in the other order -/
theorem disj_iff {a b : List Nat} : disj a b = true ↔ ∀ k ∈ a, k ∉ b := by
  unfold disj
  rw [List.all_eq_true]
  refine ⟨fun h k hk => ?_, fun h k hk => ?_⟩
  · have := h k hk
    rw [Bool.not_eq_true', memN_false] at this
    exact this
  · rw [Bool.not_eq_true', memN_false]; exact h k hk
theorem mem_reads {o : Oper} {y : Operand} {t : Nat} (hy : y ∈ o.op.operands.toList) (e : y = .tmp t) : t ∈ readsOf ops o :=
  List.mem_append_left _ (List.mem_filterMap.2 ⟨y, hy, by rw [e]⟩)
theorem val_reads {o : Oper} {σ σ' : St} (h : ∀ t ∈ readsOf ops o, σ.sl.getD t .dead = σ'.sl.getD t .dead) : ∀ y ∈ o.op.operands.toList, val T σ y = val T σ' y := fun y hy => val_eq fun t e => h t (mem_reads hy e)
theorem opKeys_reads {o : Oper} {σ σ' : St} (h : ∀ t ∈ readsOf ops o, σ.sl.getD t .dead = σ'.sl.getD t .dead) : opKeys T σ o = opKeys T σ' o := by
  unfold opKeys
  have hv := val_reads (T := T) h
  have : ∀ l : List Operand, (∀ y ∈ l, val T σ y = val T σ' y) → (l.flatMap fun x => keysN (val T σ x)) = l.flatMap fun x => keysN (val T σ' x) := by
    intro l
    induction l with
    | nil => exact fun _ => rfl
    | cons y l ih =>
      intro h
      rw [List.flatMap_cons, List.flatMap_cons, h y (List.mem_cons_self ..), ih fun z hz => h z (List.mem_cons_of_mem _ hz)]
  exact this _ hv
theorem want_reads {o : Oper} {σ σ' : St} (h : ∀ t ∈ readsOf ops o, σ.sl.getD t .dead = σ'.sl.getD t .dead) : wantB ops σ o = wantB ops σ' o := by
  unfold wantB
  cases hg : o.guard with
  | none => rfl
  | some q =>
    obtain ⟨j, want⟩ := q
    simp only
    cases hgd : (ops[j]?).bind (·.dst) with
    | none => rfl
    | some g =>
      simp only
      rw [h g (List.mem_append_right _ (by rw [hg]; simp only; rw [hgd]; simp))]
theorem isNone_eO {o : Ob} : isNone (eO o) = isNone o := by cases o <;> rfl
/-- what is not loud puts the same where what it looks at is the same -/
theorem QE.move {i : Nat} {o : Oper} {σ σ' : St} {lg lg' : List Ent} {d : Nat} {x : V} {ob : Ob} {s : Fs} {e : Ent} (h : QE T call ops un i o σ lg d x ob s e)
    (hv : ∀ t ∈ readsOf ops o, σ.sl.getD t .dead = σ'.sl.getD t .dead)
    (hr : disj (opKeys T σ o) (ndOf ops un i) = true → e = entQ T i o σ x ob s → okLog un e lg = true → (∀ k ∈ opKeys T σ o, eO (σ.ob.getD k .none) = eO (σ'.ob.getD k .none)) ∧ okLog un e lg' = true)
    (h0 : isNone ob = true ∨ isNone (σ'.ob.getD d .none) = isNone (σ.ob.getD d .none)) : QE T call ops un i o σ' lg' d x ob s e := by
  refine ⟨h.dst, ?_⟩
  rcases h.run with ⟨h1, h2, h3, h4, h5, h6, h7, h8⟩ | ⟨h1, h2⟩
  · obtain ⟨hob, hl⟩ := hr h4 h7 h8
    refine .inl ⟨by rw [← want_reads hv]; exact h1, h2, ?_, by rw [← opKeys_reads hv]; exact h4, ?_, ?_, ?_, hl⟩
    · unfold keysOk at h3 ⊢
      rw [List.all_eq_true] at h3 ⊢
      intro y hy
      have := h3 y hy
      rw [List.all_eq_true] at this ⊢
      rw [← val_reads hv y hy]
      intro k hk
      rw [← isNone_eO, ← hob k (List.mem_flatMap.2 ⟨y, hy, hk⟩), isNone_eO]
      exact this k hk
    · rw [← h5, ← qv_v (v := val T σ) (v' := val T σ') (fun y hy => val_reads hv y (by simpa using hy))]
      refine qv_lk (fun y hy k c hkc => ?_) K3
      exact (hob k (List.mem_flatMap.2 ⟨y, by simpa using hy, keysN_of hkc⟩)).symm
    · rcases h6 with h6 | h6
      · exact .inl h6
      · rcases h0 with h0 | h0
        · exact .inl h0
        · exact .inr (by rw [h0]; exact h6)
    · rw [h7]; unfold entQ; rw [opKeys_reads hv]
  · exact .inr ⟨by rw [← want_reads hv]; exact h1, h2⟩

/-- two operations that stand in no order: what the text says of them -/
structure Ap (T : TT) (ops : List Oper) (un : List (List Nat)) (i j : Nat) (x y : Oper) (d1 d2 : Nat) : Prop where
  dx : x.dst = some d1
  dy : y.dst = some d2
  ne : d1 ≠ d2
  rx : d2 ∉ readsOf ops x
  ry : d1 ∉ readsOf ops y
  ij : j ∈ un.getD i []
  ji : i ∈ un.getD j []
  ni : d2 ∈ ndOf ops un i
  nj : d1 ∈ ndOf ops un j
  q : (isQuiet T x = true ∧ isQuiet T y = true) ∨ (isQuiet T x = true ∧ isQuiet T y = false ∧ isIo y = true) ∨ (isQuiet T x = false ∧ isIo x = true ∧ isQuiet T y = true)
theorem okEnt_ld {e e' : Ent} (hm : e'.i ∈ un.getD e.i []) (h : okEnt un e e' = true) (hl : (e.ld || e'.ld) = true) :
    e.pl = true ∧ e'.pl = true ∧ (∀ k ∈ e.us, k ∉ e'.ts) ∧ (∀ k ∈ e'.us, k ∉ e.ts) ∧ triv e'.ts e.x = true ∧ triv e.ts e'.x = true := by
  unfold okEnt at h
  rw [memN_iff.2 hm, hl] at h
  simp only [Bool.not_true, Bool.false_or, Bool.and_eq_true, disj_iff] at h
  exact ⟨h.1.1.1.1.1, h.1.1.1.1.2, h.1.1.1.2, h.1.1.2, h.1.2, h.2⟩
theorem okEnt_mk {e e' : Ent} (h : (e.ld || e'.ld) = true → e.pl = true ∧ e'.pl = true ∧ (∀ k ∈ e.us, k ∉ e'.ts) ∧ (∀ k ∈ e'.us, k ∉ e.ts) ∧ triv e'.ts e.x = true ∧ triv e.ts e'.x = true) : okEnt un e e' = true := by
  unfold okEnt
  cases hl : (e.ld || e'.ld) with
  | false => simp
  | true =>
    obtain ⟨h1, h2, h3, h4, h5, h6⟩ := h hl
    rw [h1, h2, disj_iff.2 h3, disj_iff.2 h4, h5, h6]
    simp
theorem okEnt_swap {e e' : Ent} (hm : e'.i ∈ un.getD e.i []) (h : okEnt un e e' = true) : okEnt un e' e = true := okEnt_mk fun hl => by
  rw [Bool.or_comm] at hl
  obtain ⟨h1, h2, h3, h4, h5, h6⟩ := okEnt_ld hm h hl
  exact ⟨h2, h1, h4, h3, h6, h5⟩
theorem okLog_cons {e e' : Ent} {lg : List Ent} : okLog un e (e' :: lg) = true ↔ okEnt un e e' = true ∧ okLog un e lg = true := by
  unfold okLog; rw [List.all_cons, Bool.and_eq_true]
theorem QE.log {i : Nat} {o : Oper} {σ : St} {lg : List Ent} {d : Nat} {x : V} {ob : Ob} {s : Fs} {e e' : Ent} (h : QE T call ops un i o σ (e' :: lg) d x ob s e) : okEnt un e e' = true ∨ e = entS i := by
  rcases h.run with ⟨_, _, _, _, _, _, _, h8⟩ | ⟨_, _, _, _, h⟩
  · exact .inl (okLog_cons.1 h8).1
  · exact .inr h
theorem QE.ei {i : Nat} {o : Oper} {σ : St} {lg : List Ent} {d : Nat} {x : V} {ob : Ob} {s : Fs} {e : Ent} (h : QE T call ops un i o σ lg d x ob s e) : e.i = i ∧ e.ld = false ∧ e.ts = [] ∧ e.x = x ∧ (e.pl = true → ob = .none ∧ s = []) ∧ (isQuiet T o = true → e.us = opKeys T σ o ∨ e = entS i) := by
  rcases h.run with ⟨_, _, _, _, _, _, rfl, _⟩ | ⟨_, rfl, rfl, rfl, rfl⟩
  · refine ⟨rfl, rfl, rfl, rfl, fun hp => ?_, fun _ => .inl rfl⟩
    have hp : (isNone ob && s.isEmpty) = true := hp
    rw [Bool.and_eq_true, isNone_iff, List.isEmpty_iff] at hp
    exact hp
  · exact ⟨rfl, rfl, rfl, rfl, fun _ => ⟨rfl, rfl⟩, fun _ => .inr rfl⟩
theorem ex_two {a b c : Fs} : ∀ q, q ∈ a ++ b ++ c ↔ q ∈ a ++ c ++ b := fun q => by
  simp only [List.mem_append]
  constructor
  · rintro ((h | h) | h)
    · exact .inl (.inl h)
    · exact .inr h
    · exact .inl (.inr h)
  · rintro ((h | h) | h)
    · exact .inl (.inl h)
    · exact .inr h
    · exact .inl (.inr h)
theorem map_triv {g : V → V} {K : List Nat} (hg : ∀ v, triv K v = true → g v = v) (hd : g .dead = .dead) {l : List V} (h : ∀ t, triv K (l.getD t .dead) = true) : l.map g = l := by
  refine map_id_of fun v hv => hg v ?_
  obtain ⟨t, ht, rfl⟩ := List.getElem_of_mem hv
  have := h t
  rw [List.getD_eq_getElem?_getD, List.getElem?_eq_getElem ht] at this
  exact this
theorem all_getD {K : List Nat} {l : List V} : l.all (triv K) = true ↔ ∀ t, triv K (l.getD t .dead) = true := by
  rw [List.all_eq_true]
  constructor
  · intro h t
    rw [List.getD_eq_getElem?_getD]
    cases ht : l[t]? with
    | none => rfl
    | some v => exact h v (List.mem_of_getElem? ht)
  · intro h v hv
    obtain ⟨t, ht, rfl⟩ := List.getElem_of_mem hv
    have := h t
    rw [List.getD_eq_getElem?_getD, List.getElem?_eq_getElem ht] at this
    exact this
theorem putN_none {σ : St} {d : Nat} {x : V} : putN σ d x .none = ⟨σ.sl.set d x, σ.ob⟩ := rfl
theorem getD_set_ne {l : List V} {d t : Nat} {x : V} (h : t ≠ d) : (l.set d x).getD t .dead = l.getD t .dead := by rw [getD_set_slots, if_neg fun e => h e.1]
theorem setN_ne {l : List Ob} {d k : Nat} {ob : Ob} (h : k ≠ d) : (setN l d ob).getD k .none = l.getD k .none := by
  unfold setN
  split
  · rfl
  · exact getD_set_ob_other _ _ h
theorem not_empty {l : List Nat} {a : Nat} (h : a ∈ l) : l.isEmpty = false := by
  cases l with
  | nil => cases h
  | cons => rfl

theorem QE.move_lg {i : Nat} {o : Oper} {σ : St} {lg lg' : List Ent} {d : Nat} {x : V} {ob : Ob} {s : Fs} {e : Ent} (h : QE T call ops un i o σ lg d x ob s e) (hl : okLog un e lg = true → okLog un e lg' = true) : QE T call ops un i o σ lg' d x ob s e :=
  h.move (fun _ _ => rfl) (fun _ _ h => ⟨fun _ _ => rfl, hl h⟩) (.inr rfl)

theorem swap {i j : Nat} {x y : Oper} {d1 d2 : Nat} {σ σ1 σ2 : St} {fs fs1 fs2 : Fs} {lg : List Ent} {e1 e2 : Ent} (hap : Ap T ops un i j x y d1 d2)
    (hdead : isQuiet T y = false → σ.sl.getD d1 .dead = .dead) (h1 : Step T call ops un i x σ fs lg σ1 fs1 e1) (h2 : Step T call ops un j y σ1 fs1 (e1 :: lg) σ2 fs2 e2) :
    ∃ σ1' fs1' fs2', Step T call ops un j y σ fs lg σ1' fs1' e2 ∧ Step T call ops un i x σ1' fs1' (e2 :: lg) σ2 fs2' e1 ∧ ∀ q, q ∈ fs2 ↔ q ∈ fs2' := by
  cases h1 with
  | quiet q1 =>
    rename_i d x1 ob1 s1
    have ed : d = d1 := by have := q1.dst; rw [hap.dx] at this; cases this; rfl
    subst ed
    obtain ⟨i1, l1, t1, v1, p1, u1⟩ := q1.ei
    cases h2 with
    | quiet q2 =>
      rename_i d' x2 ob2 s2
      have ed : d' = d2 := by have := q2.dst; rw [hap.dy] at this; cases this; rfl
      subst ed
      obtain ⟨i2, l2, t2, v2, p2, u2⟩ := q2.ei
      have hent : okEnt un e1 e2 = true := okEnt_mk fun hl => by rw [l1, l2] at hl; cases hl
      have q2' : QE T call ops un j y σ lg d' x2 ob2 s2 e2 := by
        refine q2.move (fun t ht => getD_set_ne fun e => hap.ry (e ▸ ht)) (fun hd _ hl => ⟨fun k hk => ?_, (okLog_cons.1 hl).2⟩) (.inr ?_)
        · have hkd : k ≠ d := fun e => disj_iff.1 hd k hk (e ▸ hap.nj)
          show eO ((setN σ.ob d ob1).getD k .none) = _
          rw [setN_ne hkd]
        · show isNone (σ.ob.getD d' .none) = isNone ((setN σ.ob d ob1).getD d' .none)
          rw [setN_ne (fun e => hap.ne e.symm)]
      have q1' : QE T call ops un i x (putN σ d' x2 ob2) (e2 :: lg) d x1 ob1 s1 e1 := by
        refine q1.move (fun t ht => (getD_set_ne fun (e : t = d') => hap.rx (e ▸ ht)).symm) (fun hd _ hl => ⟨fun k hk => ?_, okLog_cons.2 ⟨hent, hl⟩⟩) (.inr ?_)
        · have hkd : k ≠ d' := fun e => disj_iff.1 hd k hk (e ▸ hap.ni)
          show _ = eO ((setN σ.ob d' ob2).getD k .none)
          rw [setN_ne hkd]
        · show isNone ((setN σ.ob d' ob2).getD d .none) = isNone (σ.ob.getD d .none)
          rw [setN_ne hap.ne]
      have := Step.quiet (T := T) (call := call) (fs := fs ++ s2) q1'
      rw [putN_comm hap.ne] 
      exact ⟨_, _, _, .quiet q2', this, ex_two⟩
    | loud g2 =>
      have hyq := g2.loud
      have hio : isIo y = true := by
        rcases hap.q with ⟨_, h⟩ | ⟨_, _, h⟩ | ⟨_, _, h⟩
        · rw [hyq] at h; cases h
        · exact h
        · rw [hyq] at h; cases h
      have ei2 : e2.i = j := by rw [g2.ent]; rfl
      have el2 : e2.ld = true := by rw [g2.ent]; rfl
      have hlog := okLog_cons.1 g2.log
      have hij : e1.i ∈ un.getD e2.i [] := by rw [i1, ei2]; exact hap.ji
      obtain ⟨_, hpl, _, hus, _, htr⟩ := okEnt_ld hij hlog.1 (by rw [el2]; rfl)
      obtain ⟨rfl, rfl⟩ := p1 hpl
      have hvy : ∀ t ∈ readsOf ops y, (putN σ d x1 .none).sl.getD t .dead = σ.sl.getD t .dead := fun t ht => getD_set_ne fun e => hap.ry (e ▸ ht)
      have hK : opKeys T (putN σ d x1 .none) y = opKeys T σ y := opKeys_reads hvy
      have ets : e2.ts = opKeys T σ y := by rw [g2.ent]; exact hK
      have ev2 : e2 = entL T j y σ := by rw [g2.ent]; unfold entL; rw [hK]
      rw [ets] at hus htr
      rw [v1] at htr
      obtain ⟨hall, hnd⟩ := g2.tr.resolve_left (by rw [not_empty hap.ji]; simp)
      rw [hK, all_getD] at hall
      have hnd' : ∀ z ∈ y.op.operands.toList, noDt (val T (putN σ d x1 .none) z) = true := List.all_eq_true.1 hnd
      have hout := g2.out
      have hfs : fs ++ [] = fs := List.append_nil _
      rw [hfs] at hout
      obtain ⟨dd, g, xd, ob', s1, s2, s3, s4, s5⟩ := io_shape (σ := ⟨(putN σ d x1 .none).sl, freeze (putN σ d x1 .none).ob fs⟩) hio hnd' hout
      have edd : dd = d2 := by rw [hap.dy] at s1; cases s1; rfl
      subst edd
      have s2 : ∀ v, triv (opKeys T σ y) v = true → g v = v := fun v hv => s2 v (by rw [show opKeys T ⟨(putN σ d x1 .none).sl, freeze (putN σ d x1 .none).ob fs⟩ y = opKeys T σ y from hK]; exact hv)
      have s4 : ∀ k, k ∉ opKeys T σ y → ob'.getD k .none = (freeze σ.ob fs).getD k .none := fun k hk => s4 k (by rw [show opKeys T ⟨(putN σ d x1 .none).sl, freeze (putN σ d x1 .none).ob fs⟩ y = opKeys T σ y from hK]; exact hk)
      have hsl : ∀ t, triv (opKeys T σ y) (σ.sl.getD t .dead) = true := fun t => by
        by_cases ht : t = d
        · subst ht; rw [hdead hyq]; rfl
        · have := hall t
          rw [show (putN σ d x1 .none).sl = σ.sl.set d x1 from rfl, getD_set_ne ht] at this
          exact this
      have o1 := s5 (putN σ d x1 .none).sl (fun _ _ => rfl) St some
      rw [hout, map_triv s2 s3 hall] at o1
      have o2 := s5 σ.sl (fun z hz => (val_reads (T := T) (σ := putN σ d x1 .none) (σ' := σ) hvy z hz).symm) St some
      rw [map_triv s2 s3 hsl] at o2
      simp only [Option.some.injEq] at o1
      subst o1
      have q1' : QE T call ops un i x ⟨σ.sl.set dd xd, ob'⟩ (e2 :: lg) d x1 .none [] e1 := by
        refine q1.move (fun t ht => (getD_set_ne fun (e : t = dd) => hap.rx (e ▸ ht)).symm) (fun _ he hl => ⟨fun k hk => ?_, okLog_cons.2 ⟨okEnt_swap hij hlog.1, hl⟩⟩) (.inl rfl)
        have hku : k ∈ e1.us := by rw [he]; exact hk
        show _ = eO (ob'.getD k .none)
        rw [s4 k (hus k hku), getD_freeze, eO_frzK]
      refine ⟨⟨σ.sl.set dd xd, ob'⟩, [], [] ++ [], .loud ⟨by rw [← want_reads hvy]; exact g2.want, hyq, ev2, hlog.2, .inr ⟨all_getD.2 hsl, ?_⟩, o2⟩, ?_, fun q => Iff.rfl⟩
      · rw [List.all_eq_true] at hnd ⊢
        intro z hz
        rw [← val_reads (T := T) (σ := putN σ d x1 .none) (σ' := σ) hvy z hz]
        exact hnd z hz
      · have := Step.quiet (T := T) (call := call) (fs := []) q1'
        have e : putN ⟨σ.sl.set dd xd, ob'⟩ d x1 .none = ⟨(putN σ d x1 .none).sl.set dd xd, ob'⟩ := by
          show (⟨(σ.sl.set dd xd).set d x1, ob'⟩ : St) = ⟨(σ.sl.set d x1).set dd xd, ob'⟩
          rw [List.set_comm _ _ hap.ne]
        rw [e] at this
        exact this
  | loud g1 =>
    have hxq := g1.loud
    have hio : isIo x = true := by
      rcases hap.q with ⟨h, _⟩ | ⟨h, _⟩ | ⟨_, h, _⟩
      · rw [hxq] at h; cases h
      · rw [hxq] at h; cases h
      · exact h
    have hyq : isQuiet T y = true := by
      rcases hap.q with ⟨h, _⟩ | ⟨h, _⟩ | ⟨_, _, h⟩
      · rw [hxq] at h; cases h
      · rw [hxq] at h; cases h
      · exact h
    obtain ⟨hall, hnd⟩ := g1.tr.resolve_left (by rw [not_empty hap.ij]; simp)
    have hout := g1.out
    obtain ⟨dd, g, xd, ob', s1, s2, s3, s4, s5⟩ := io_shape (σ := ⟨σ.sl, freeze σ.ob fs⟩) hio (List.all_eq_true.1 hnd) hout
    have edd : dd = d1 := by rw [hap.dx] at s1; cases s1; rfl
    subst edd
    have s2 : ∀ v, triv (opKeys T σ x) v = true → g v = v := s2
    have s4 : ∀ k, k ∉ opKeys T σ x → ob'.getD k .none = (freeze σ.ob fs).getD k .none := s4
    have o1 := s5 σ.sl (fun _ _ => rfl) St some
    rw [hout, map_triv s2 s3 (all_getD.1 hall)] at o1
    simp only [Option.some.injEq] at o1
    subst o1
    have ei1 : e1.i = i := by rw [g1.ent]; rfl
    have el1 : e1.ld = true := by rw [g1.ent]; rfl
    have ets : e1.ts = opKeys T σ x := by rw [g1.ent]; rfl
    cases h2 with
    | loud g2 => have := g2.loud; rw [hyq] at this; cases this
    | quiet q2 =>
      rename_i d' x2 ob2 s2'
      have ed : d' = d2 := by have := q2.dst; rw [hap.dy] at this; cases this; rfl
      subst ed
      obtain ⟨i2, l2, t2, v2, p2, u2⟩ := q2.ei
      have hji : e1.i ∈ un.getD e2.i [] := by rw [i2, ei1]; exact hap.ji
      have hent : okEnt un e2 e1 = true := by
        rcases q2.log with h | h
        · exact h
        · refine okEnt_mk fun _ => ?_
          rw [h, g1.ent]
          exact ⟨rfl, rfl, fun k hk => by (cases hk), fun k hk => by (cases hk), rfl, rfl⟩
      obtain ⟨hpl, _, hus, _, htr, _⟩ := okEnt_ld hji hent (by rw [el1]; simp)
      obtain ⟨rfl, rfl⟩ := p2 hpl
      rw [ets] at hus htr
      rw [v2] at htr
      have q2' : QE T call ops un j y σ lg d' x2 .none [] e2 := by
        refine q2.move (fun t ht => getD_set_ne fun e => hap.ry (e ▸ ht)) (fun _ he hl => ⟨fun k hk => ?_, (okLog_cons.1 hl).2⟩) (.inl rfl)
        have hku : k ∈ e2.us := by rw [he]; exact hk
        show eO (ob'.getD k .none) = _
        rw [s4 k (hus k hku), getD_freeze, eO_frzK]
      have hvx : ∀ t ∈ readsOf ops x, σ.sl.getD t .dead = (σ.sl.set d' x2).getD t .dead := fun t ht => (getD_set_ne fun (e : t = d') => hap.rx (e ▸ ht)).symm
      have hK : opKeys T σ x = opKeys T ⟨σ.sl.set d' x2, σ.ob⟩ x := opKeys_reads (σ' := ⟨σ.sl.set d' x2, σ.ob⟩) hvx
      have hall' : ∀ t, triv (opKeys T σ x) ((σ.sl.set d' x2).getD t .dead) = true := fun t => by
        rw [getD_set_slots]
        split
        · exact htr
        · exact all_getD.1 hall t
      have o2 := s5 (σ.sl.set d' x2) (fun z hz => (val_reads (T := T) (σ := σ) (σ' := ⟨σ.sl.set d' x2, σ.ob⟩) hvx z hz).symm) St some
      rw [map_triv s2 s3 hall', List.set_comm _ _ (fun e => hap.ne e.symm)] at o2
      refine ⟨⟨σ.sl.set d' x2, σ.ob⟩, fs ++ [], [], .quiet q2', ?_, fun q => Iff.rfl⟩
      refine .loud ⟨?_, hxq, ?_, okLog_cons.2 ⟨okEnt_swap hji hent, g1.log⟩, .inr ⟨?_, ?_⟩, ?_⟩
      · rw [← want_reads (σ := σ) (σ' := ⟨σ.sl.set d' x2, σ.ob⟩) hvx]; exact g1.want
      · rw [g1.ent]; unfold entL; rw [hK]
      · rw [← hK]; exact all_getD.2 hall'
      · rw [List.all_eq_true] at hnd ⊢
        intro z hz
        rw [← val_reads (T := T) (σ := σ) (σ' := ⟨σ.sl.set d' x2, σ.ob⟩) hvx z hz]
        exact hnd z hz
      · rw [List.append_nil]
        exact o2
end
end Go.Proofs.YtmddfhjgdhjmkaaDoor.VM

/- The abstract machine and the memory: drawn regions in which a call floats among quiet operations. -/
set_option linter.unusedVariables false
set_option linter.unusedSimpArgs false
namespace Go.Proofs.YtmddfhjgdhjmkaaDoor.VM

section
variable {T : TT} {call : FuncId → List V → Option Res} {ops : List Oper} {un : List (List Nat)} {t : Nat}

/-! ### a slot that is dead stays so -/
theorem slDead_kil {σ : St} {k : Nat} {c : Option Nat} (h : σ.sl.getD t .dead = .dead) : (kil σ k c).sl.getD t .dead = .dead := by
  show (σ.sl.map (kilV k c)).getD t .dead = .dead
  rw [getD_map _ _ (kil_forget k c).dead, h]; rfl
theorem slDead_kill {σ : St} {k : Nat} (h : σ.sl.getD t .dead = .dead) : (kill σ k).sl.getD t .dead = .dead := by
  show (σ.sl.map (killV k)).getD t .dead = .dead
  rw [getD_map _ _ rfl, h]; rfl
theorem slDead_kilP {σ : St} {k j n : Nat} (h : σ.sl.getD t .dead = .dead) : (kilP σ k j n).sl.getD t .dead = .dead := by
  rw [kilP_map, getD_map _ _ (gP_dead n j), h, gP_dead]
theorem slDead_wr1 {σ σ' : St} {k : Nat} {c : Option Nat} {i j : Nat} {x : V} (h : wr1 σ k c i j x some = some σ') (ht : σ.sl.getD t .dead = .dead) : σ'.sl.getD t .dead = .dead := by
  unfold wr1 at h
  split at h
  · obtain ⟨_, h⟩ := bif_some h
    unfold exN at h
    split at h
    · cases h; exact ht
    · cases h
  · split at h
    · obtain ⟨_, h⟩ := bif_some h
      cases h; exact slDead_kil ht
    · cases h
theorem wd_some' {R : Type} {n : Nat} {x : V} {K : Option R} {r : R} (h : wd n x K = some r) : K = some r := by
  unfold wd at h
  split at h <;> exact (bif_some h).2
theorem unSt_some' {R : Type} {n : Nat} {x : V} {K : Option R} {r : R} (h : unSt n x K = some r) : K = some r := by
  unfold unSt at h
  split at h
  · exact (bif_some h).2
  · cases h
theorem slDead_wrN {σ σ' : St} {k : Nat} {c : Option Nat} {i j : Nat} {ss : List Sh} {ns : List V} {x : V} (h : wrN σ k c i j ss ns x some = some σ') (ht : σ.sl.getD t .dead = .dead) : σ'.sl.getD t .dead = .dead := by
  unfold wrN at h
  split at h
  · obtain ⟨_, h⟩ := bif_some h
    have h := wd_some' h
    unfold exN at h
    split at h
    · cases h; exact ht
    · cases h
  · split at h
    · rename_i cs _ _
      obtain ⟨_, h⟩ := bif_some h
      have h := unSt_some' h
      have e := unCs_bind (x := x) (ss := ss) (j := 0) (K := some) (g := fun ps => some (⟨(kilP σ k j ss.length).sl, σ.ob.set k (.box true (setPart cs j (nilBack ns ps)))⟩ : St))
      simp only [Option.bind_some] at e
      rw [h] at e
      obtain ⟨_, _, e⟩ := Option.bind_eq_some_iff.1 e
      cases e; exact slDead_kilP ht
    · cases h
theorem slDead_mvR {σ σ' : St} {k j k' : Nat} {c m : Option Nat} (h : mvR σ k j k' c m some = some σ') (ht : σ.sl.getD t .dead = .dead) : σ'.sl.getD t .dead = .dead := by
  unfold mvR at h
  split at h
  · simp only at h
    split at h
    · obtain ⟨_, h⟩ := bif_some h
      cases h; exact slDead_kil (slDead_kil ht)
    · cases h
  · cases h
theorem slDead_sto {σ σ' : St} {ty : TypeId} {a x : V} (h : sto T σ ty a x some = some σ') (ht : σ.sl.getD t .dead = .dead) : σ'.sl.getD t .dead = .dead := by
  have pl : ∀ {k : Nat} {c : Option Nat} {i j : Nat}, (sealC (lkE σ) x fun x s => wr1 ⟨σ.sl, freeze σ.ob s⟩ k c i j x some) = some σ' → σ'.sl.getD t .dead = .dead := fun {k c i j} h => by
    have e := sealC_bind (lk := lkE σ) (v := x) (K := fun x s => some (x, s)) (g := fun p : V × Fs => wr1 ⟨σ.sl, freeze σ.ob p.2⟩ k c i j p.1 some)
    simp only [Option.bind_some] at e
    rw [h] at e
    obtain ⟨_, _, e⟩ := Option.bind_eq_some_iff.1 e
    exact slDead_wr1 e ht
  unfold sto at h
  split at h
  · rename_i k c i j s _
    simp only at h
    split at h
    · rename_i k' c' m
      cases hb : (sto.isBox (σ.ob.getD k .none) && sto.isN c && ownedB σ k' c') with
      | true =>
        rw [hb] at h
        obtain ⟨_, h⟩ := bif_some h
        exact slDead_mvR h ht
      | false => rw [hb] at h; exact pl h
    · exact pl h
  · rename_i k c i j ss _
    have e := sealV_bind (lk := lkE σ) (v := nrmV T ty x) (K := fun x s => some (x, s)) (g := fun p : V × Fs => wrN ⟨σ.sl, freeze σ.ob p.2⟩ k c i j ss (srcC x) p.1 some)
    simp only [Option.bind_some] at e
    rw [h] at e
    obtain ⟨_, _, e⟩ := Option.bind_eq_some_iff.1 e
    exact slDead_wrN e ht
  · cases h
theorem slDead_app {σ σ' : St} {d z b : Nat} {s x : V} (h : app σ d z b s x some = some σ') (hd : t ≠ d) (ht : σ.sl.getD t .dead = .dead) : σ'.sl.getD t .dead = .dead := by
  have li : ∀ {z : Nat} {x : V} {B : List V → Bool} {G : List V → St}, (∀ ys, (G ys).sl.getD t .dead = .dead) → (asList (lkE σ) z x fun ys => chk (B ys) (some (G ys))) = some σ' → σ'.sl.getD t .dead = .dead := fun {z x B G} hG h => by
    have e := asList_bind (lk := lkE σ) (z := z) (v := x) (K := some) (g := fun ys => chk (B ys) (some (G ys)))
    simp only [Option.bind_some] at e
    rw [h] at e
    obtain ⟨ys, _, e⟩ := Option.bind_eq_some_iff.1 e
    have := (bif_some e).2
    cases this
    exact hG ys
  unfold app at h
  obtain ⟨_, h⟩ := bif_some h
  split at h
  · exact li (fun ys => by show ((kill σ d).sl.set d _).getD t .dead = .dead; rw [getD_set_ne hd]; exact slDead_kill ht) h
  · split at h
    · obtain ⟨_, h⟩ := bif_some h
      exact li (fun ys => by show ((kill (kil σ _ _) d).sl.set d _).getD t .dead = .dead; rw [getD_set_ne hd]; exact slDead_kill (slDead_kil ht)) h
    · cases h
  · cases h
theorem loud_dead {σ σ' : St} {o : Oper} (h : exLoud T call σ o some = some σ') (hd : o.dst ≠ some t) (ht : σ.sl.getD t .dead = .dead) : σ'.sl.getD t .dead = .dead := by
  obtain ⟨dst, op, type, pos, after, guard⟩ := o
  have rs : ∀ {σ1 : St}, loudArgs T σ ⟨dst, op, type, pos, after, guard⟩ = [] → ∀ {K : St → Option St}, rsA T σ σ1 (loudArgs T σ ⟨dst, op, type, pos, after, guard⟩) K = K σ1 := fun {σ1} e {K} => by rw [e]; rfl
  cases op <;> first
    | (exfalso; cases dst <;> cases h; done)
    | skip
  case store ty p q =>
    cases dst with
    | none =>
      have h : sto T σ ty (val T σ p) (val T σ q) some = some σ' := h
      exact slDead_sto h ht
    | some d => cases h
  case call c =>
    obtain ⟨callee, args, ts⟩ := c
    cases dst with
    | none => exfalso; cases callee <;> first | (cases h; done) | (rename_i b; cases b <;> cases h)
    | some d =>
      have hne : t ≠ d := fun e => hd (by rw [e])
      cases callee with
      | invoke rc m => cases h
      | builtin b =>
        cases b <;> first | (cases h; done) | skip
        unfold exLoud at h
        simp only [exLoud0] at h
        split at h
        · split at h
          · obtain ⟨_, h⟩ := bif_some h
            split at h
            · exact slDead_app h hne ht
            · cases h
          · cases h
        · cases h
      | value f =>
        rw [exLoud_call] at h
        split at h
        · obtain ⟨_, h⟩ := bif_some h
          obtain ⟨az, s, h1, h⟩ := ioSeal_some h
          obtain ⟨vs, l, h2, h⟩ := ioFill_some h
          obtain ⟨_, h⟩ := bif_some h
          obtain ⟨r, h4, h⟩ := Option.bind_eq_some_iff.1 h
          obtain ⟨σ3, h5, h⟩ := ioBack_some h
          obtain ⟨g, ob3, g1, g2, g3, g4⟩ := ioBack_shape h5
          obtain ⟨x, h, h6⟩ := finK_shape h
          have e3 := g4 σ.sl _ some
          rw [h5] at e3
          cases e3
          obtain ⟨ob', h7, h8⟩ := rsA_shape (sl0 := σ.sl) (ob0 := σ.ob) h
          have e4 := h8 σ.sl ((σ.sl.map g).set d x) _ some
          rw [show rsA T ⟨σ.sl, σ.ob⟩ ⟨(σ.sl.map g).set d x, ob3⟩ _ some = some σ' from h] at e4
          cases e4
          show ((σ.sl.map g).set d x).getD t .dead = .dead
          rw [getD_set_ne hne, getD_map _ _ g2, ht, g2]
        · cases h
theorem Step.dead {i : Nat} {o : Oper} {σ σ' : St} {fs fs' : Fs} {lg : List Ent} {e : Ent} (h : Step T call ops un i o σ fs lg σ' fs' e) (hd : o.dst ≠ some t) (ht : σ.sl.getD t .dead = .dead) : σ'.sl.getD t .dead = .dead := by
  cases h with
  | quiet h =>
    rename_i d x ob s
    show (σ.sl.set d x).getD t .dead = .dead
    rw [getD_set_ne (fun e => hd (by rw [h.dst, e])), ht]
  | loud h => exact loud_dead h.out hd ht

/-! ### an operation that is ready comes first -/
/-- what the quiet ones that float make is not there yet -/
def Dead (T : TT) (ops : List Oper) (un : List (List Nat)) (l : List (Oper × Nat)) (σ : St) : Prop := ∀ p ∈ l, floats T ops un p.2 p.1 = true → σ.sl.getD (dstOf p.1) .dead = .dead
/-- the rest of a region's operations stand there as the text has them -/
structure Lst (ops : List Oper) (l : List (Oper × Nat)) : Prop where
  at_ : ∀ p ∈ l, ops[p.2]? = some p.1
  srt : l.Pairwise fun p q => p.2 < q.2
structure RegOk2 (T : TT) (ops : List Oper) : Prop where
  on : ∀ (j : Nat) y, ops[j]? = some y → ∀ e ∈ y.after, Region.binds .any e = true → e.on < j
  ne : ∀ (i j : Nat) x y, i < j → ops[i]? = some x → ops[j]? = some y → ∀ d, x.dst = some d → y.dst ≠ some d
  ord : ∀ (i j : Nat) x y, i < j → ops[i]? = some x → ops[j]? = some y → i ∈ (befores ops).getD j [] ∨ apartB T ops x y = true ∨ apartL T ops x y = true
theorem regOk2_ok {ops : List Oper} (h : regOk2 T ops = true) : RegOk2 T ops := by
  unfold regOk2 at h
  have hz : ∀ {j : Nat} {y : Oper}, ops[j]? = some y → (y, j) ∈ ops.zipIdx := fun {j y} hj => by
    rw [List.mem_zipIdx_iff_getElem?]; exact hj
  have hy : ∀ {j : Nat} {y : Oper}, ops[j]? = some y → (y.after.toList.all (fun e => !Region.binds .any e || Nat.blt e.on j) && ops.zipIdx.all fun (x, i) => !Nat.blt i j || (dstNe x y && (memN ((befores ops).getD j []) i || apartB T ops x y || apartL T ops x y))) = true := fun {j y} hj => List.all_eq_true.1 h (y, j) (hz hj)
  have hp : ∀ (i j : Nat) x y, i < j → ops[i]? = some x → ops[j]? = some y → (dstNe x y && (memN ((befores ops).getD j []) i || apartB T ops x y || apartL T ops x y)) = true := fun i j x y hij hi hj => by
    have h1 := hy hj
    simp only [Bool.and_eq_true] at h1
    have h2 := List.all_eq_true.1 h1.2 (x, i) (hz hi)
    have h3 : Nat.blt i j = true := by rw [Nat.blt_eq]; exact hij
    simpa [h3] using h2
  refine ⟨fun j y hj e he hb => ?_, fun i j x y hij hi hj d hd hd' => ?_, fun i j x y hij hi hj => ?_⟩
  · have h1 := hy hj
    simp only [Bool.and_eq_true] at h1
    have h2 := List.all_eq_true.1 h1.1 e (by simpa using he)
    rw [hb] at h2
    simp only [Bool.not_true, Bool.false_or] at h2
    rw [Nat.blt_eq] at h2
    exact h2
  · have h1 := hp i j x y hij hi hj
    simp only [Bool.and_eq_true] at h1
    have h2 := h1.1
    unfold dstNe at h2
    rw [hd, hd'] at h2
    simp at h2
  · have h1 := hp i j x y hij hi hj
    simp only [Bool.and_eq_true, Bool.or_eq_true] at h1
    rcases h1.2 with (h | h) | h
    · exact .inl (memN_iff.1 h)
    · exact .inr (.inl h)
    · exact .inr (.inr h)
theorem befores_lt (hr : RegOk2 T ops) : ∀ (j : Nat) {y : Oper}, ops[j]? = some y → ∀ i ∈ (befores ops).getD j [], i < j := by
  intro j
  induction j using Nat.strongRecOn with
  | ind j ih =>
    intro y hj i hi
    obtain ⟨e, he, hb, h⟩ := befores_spec hj hi
    have h1 := hr.on j y hj e he hb
    rcases h with rfl | h
    · exact h1
    · have h2 : ops[e.on]? = some (ops[e.on]'(by have := (List.getElem?_eq_some_iff.1 hj).1; omega)) := List.getElem?_eq_getElem _
      have := ih e.on h1 h2 i h
      omega
theorem mem_unOf {i j : Nat} {x y : Oper} (hi : ops[i]? = some x) (hj : ops[j]? = some y) (hne : i ≠ j) (h1 : i ∉ (befores ops).getD j []) (h2 : j ∉ (befores ops).getD i []) : i ∈ (unOf ops).getD j [] := by
  unfold unOf
  simp only [List.getD_eq_getElem?_getD, List.getElem?_map]
  have hz : ops.zipIdx[j]? = some (y, j) := by rw [List.getElem?_zipIdx, hj]; simp
  rw [hz]
  simp only [Option.map_some, Option.getD_some, List.mem_map]
  refine ⟨(x, i), List.mem_filter.2 ⟨by rw [List.mem_zipIdx_iff_getElem?]; exact hi, ?_⟩, rfl⟩
  have e1 : Nat.beq i j = false := by
    cases hb : Nat.beq i j
    · rfl
    · exact absurd (beq_nat.1 hb) hne
  simp only [List.getD_eq_getElem?_getD] at h1 h2
  rw [e1, memN_false.2 h1, memN_false.2 h2]
  rfl
theorem mem_nd {i j : Nat} {x : Oper} {d : Nat} (hi : ops[i]? = some x) (hd : x.dst = some d) (h : i ∈ un.getD j []) : d ∈ ndOf ops un j := by
  unfold ndOf
  refine List.mem_map.2 ⟨i, h, ?_⟩
  rw [hi]
  show dstOf x = d
  unfold dstOf; rw [hd]; rfl
theorem ap_of (hr : RegOk2 T ops) {i j : Nat} {x y : Oper} (hij : i < j) (hi : ops[i]? = some x) (hj : ops[j]? = some y) (h1 : i ∉ (befores ops).getD j []) : ∃ d1 d2, Ap T ops (unOf ops) i j x y d1 d2 := by
  have h2 : j ∉ (befores ops).getD i [] := fun h => by have := befores_lt hr i hi j h; omega
  have m1 := mem_unOf hi hj (by omega) h1 h2
  have m2 := mem_unOf hj hi (by omega) h2 h1
  have key : ∃ d1 d2, x.dst = some d1 ∧ y.dst = some d2 ∧ d1 ≠ d2 ∧ d2 ∉ readsOf ops x ∧ d1 ∉ readsOf ops y ∧ ((isQuiet T x = true ∧ isQuiet T y = true) ∨ (isQuiet T x = true ∧ isQuiet T y = false ∧ isIo y = true) ∨ (isQuiet T x = false ∧ isIo x = true ∧ isQuiet T y = true)) := by
    rcases hr.ord i j x y hij hi hj with h | h | h
    · exact absurd h h1
    · obtain ⟨d1, d2, a1, a2, a3, a4, a5, a6, a7⟩ := apartB_spec h
      exact ⟨d1, d2, a1, a2, a3, a4, a5, .inl ⟨a6, a7⟩⟩
    · unfold apartL at h
      rw [Bool.and_eq_true] at h
      obtain ⟨hq, h3⟩ := h
      split at h3
      · rename_i dx dy hx hy
        simp only [Bool.and_eq_true, Bool.not_eq_true', memN_false] at h3
        refine ⟨dx, dy, hx, hy, fun e => by rw [beq_nat.2 e] at h3; simp at h3, h3.1.2, h3.2, ?_⟩
        simp only [Bool.or_eq_true, Bool.and_eq_true, Bool.not_eq_true'] at hq
        rcases hq with ⟨⟨a, b⟩, c⟩ | ⟨⟨a, b⟩, c⟩
        · exact .inr (.inl ⟨a, b, c⟩)
        · exact .inr (.inr ⟨a, c, b⟩)
      · cases h3
  obtain ⟨d1, d2, a1, a2, a3, a4, a5, a6⟩ := key
  exact ⟨d1, d2, a1, a2, a3, a4, a5, m2, m1, mem_nd hj a2 m2, mem_nd hi a1 m1, a6⟩
theorem floats_of {i j : Nat} {x y : Oper} {d1 d2 : Nat} (h : Ap T ops un i j x y d1 d2) (hj : ops[j]? = some y) (hy : isQuiet T y = false) : floats T ops un i x = true := by
  unfold floats
  have hx : isQuiet T x = true := by
    rcases h.q with ⟨a, _⟩ | ⟨a, _⟩ | ⟨_, _, a⟩
    · exact a
    · exact a
    · rw [hy] at a; cases a
  rw [hx, Bool.true_and, List.any_eq_true]
  refine ⟨(y, j), by rw [List.mem_zipIdx_iff_getElem?]; exact hj, ?_⟩
  show (memN (un.getD i []) j && !isQuiet T y) = true
  rw [memN_iff.2 h.ij, hy]; rfl
theorem bubble {R : Type} {r : R} {K : St → Option R} {o : Oper} {i : Nat} {post : List (Oper × Nat)} (hi : ops[i]? = some o) : ∀ (pre : List (Oper × Nat)) (σ : St) (fs : Fs) (lg : List Ent),
    (∀ p ∈ pre, ops[p.2]? = some p.1 ∧ ∃ d1 d2, Ap T ops un p.2 i p.1 o d1 d2) → (pre.Pairwise fun p q => ∀ d, p.1.dst = some d → q.1.dst ≠ some d) → Dead T ops un pre σ →
    exD T call ops un (pre ++ (o, i) :: post) σ fs lg K = some r → exD T call ops un ((o, i) :: (pre ++ post)) σ fs lg K = some r
  | [], σ, fs, lg, _, _, _, h => h
  | (x, q) :: pre, σ, fs, lg, hap, hpw, hdd, h => by
    obtain ⟨σ1, fs1, e1, h1, h2⟩ := exD_cons.1 h
    obtain ⟨hpw1, hpw2⟩ := List.pairwise_cons.1 hpw
    obtain ⟨hq, d1, d2, ap⟩ := hap (x, q) (List.mem_cons_self ..)
    have hdd1 : Dead T ops un pre σ1 := fun p hp hf => by
      obtain ⟨hpq, d1', d2', ap'⟩ := hap p (List.mem_cons_of_mem _ hp)
      have e : dstOf p.1 = d1' := by unfold dstOf; rw [ap'.dx]; rfl
      refine h1.dead (fun e' => ?_) (hdd p (List.mem_cons_of_mem _ hp) hf)
      exact hpw1 p hp _ e' (by rw [e, ap'.dx])
    have h3 := bubble hi pre σ1 fs1 (e1 :: lg) (fun p hp => hap p (List.mem_cons_of_mem _ hp)) hpw2 hdd1 h2
    obtain ⟨σ2, fs2, e2, h4, h5⟩ := exD_cons.1 h3
    obtain ⟨σ1', fs1', fs2', s1, s2, s3⟩ := swap ap (fun hy => by
      have := hdd (x, q) (List.mem_cons_self ..) (floats_of ap hi hy)
      rw [show dstOf x = d1 by unfold dstOf; rw [ap.dx]; rfl] at this
      exact this) h1 h4
    refine exD_cons.2 ⟨σ1', fs1', e2, s1, exD_cons.2 ⟨σ2, fs2', e1, s2, exD_same _ _ _ _ _ _ s3 (fun z => ?_) h5⟩⟩
    simp only [List.mem_cons]
    constructor
    · rintro (h | h | h)
      · exact .inr (.inl h)
      · exact .inl h
      · exact .inr (.inr h)
    · rintro (h | h | h)
      · exact .inr (.inl h)
      · exact .inl h
      · exact .inr (.inr h)
theorem getD_drop {σ : St} {d t : Nat} : (drop σ d).sl.getD t .dead = if t = d ∧ d < σ.sl.length then .dead else σ.sl.getD t .dead := getD_set_slots _ _ _ _
theorem dropF_keep : ∀ (l : List (Oper × Nat)) (σ : St) (t : Nat), σ.sl.getD t .dead = .dead → (dropF T ops un l σ).sl.getD t .dead = .dead
  | [], σ, t, h => h
  | (o, j) :: l, σ, t, h => by
    unfold dropF
    refine dropF_keep l _ t ?_
    cases floats T ops un j o with
    | false => exact h
    | true =>
      show (drop σ (dstOf o)).sl.getD t .dead = .dead
      rw [getD_drop]; split
      · rfl
      · exact h
theorem dropF_dead : ∀ (l : List (Oper × Nat)) (σ : St), ∀ p ∈ l, floats T ops un p.2 p.1 = true → (dropF T ops un l σ).sl.getD (dstOf p.1) .dead = .dead
  | [], σ, p, hp, _ => by cases hp
  | (o, j) :: l, σ, p, hp, hf => by
    unfold dropF
    rcases List.mem_cons.1 hp with rfl | hp
    · refine dropF_keep l _ _ ?_
      rw [hf]
      show (drop σ (dstOf o)).sl.getD (dstOf o) .dead = .dead
      rw [getD_drop]; split
      · rfl
      · rename_i hh
        rw [List.getD_eq_getElem?_getD, List.getElem?_eq_none (by
          rcases Nat.lt_or_ge (dstOf o) σ.sl.length with h | h
          · exact absurd ⟨rfl, h⟩ hh
          · exact h)]
        rfl
    · exact dropF_dead l _ p hp hf
theorem Sim.dropF {P : Program} {GL : List (Nat × V)} {U : Nat → Prop} {w0 w : World} {F0 : Fr} {a : Act} {ow : Own} : ∀ (l : List (Oper × Nat)) {σ : St}, Sim GL U w0 F0 σ a w ow → Sim GL U w0 F0 (VM.dropF T ops un l σ) a w ow
  | [], σ, h => h
  | (o, j) :: l, σ, h => by
    unfold VM.dropF
    refine Sim.dropF (P := P) l ?_
    cases floats T ops un j o with
    | false => exact h
    | true => exact h.drop _
end

section
variable {P : Program} {T : TT} {U : Nat → Prop} {w0 w : World} {F0 : Fr} {a : Act} {ow : Own} {r : Res} {call : FuncId → List V → Option Res} {all : Array Oper} {un : List (List Nat)}

/-- a step of the machine is one of the model -/
theorem Step.sim (hT : TOk P T) (hC : CallOk P T.globL call) (hL : LoudOk P T call) {i : Nat} {o : Oper} {σ σ' : St} {fs fs' : Fs} {lg : List Ent} {e : Ent} (h : Step T call all.toList un i o σ fs lg σ' fs' e)
    (hs : Sim T.globL U w0 F0 (σF σ fs) a w ow) (hpn : ∀ d, o.dst = some d → F0.pn d = none) (r : Res) :
    (Region.wanted o (yielded all a.tmps) = true ∧ DoneO P T.globL U w0 F0 a w o (σF σ' fs')) ∨ (Region.wanted o (yielded all a.tmps) = false ∧ Sim T.globL U w0 F0 (σF σ' fs') (a.put o.dst undef) w ow) := by
  classical
  have fin : wantB all.toList σ o = some true → exOp T call false σ fs o (fun σ1 fs1 => if σ1 = σ' ∧ fs1 = fs' then some r else none) = some r → Region.wanted o (yielded all a.tmps) = true ∧ DoneO P T.globL U w0 F0 a w o (σF σ' fs') := fun hw hx => by
    obtain ⟨σ1, fs1, h1, h2⟩ := exOp_ok hT hC hL hs hpn hx
    split at h1
    · rename_i e
      obtain ⟨rfl, rfl⟩ := e
      exact ⟨wanted_of hs (by rw [show wantB all.toList (σF σ fs) o = wantB all.toList σ o from rfl]; exact hw), h2⟩
    · cases h1
  cases h with
  | quiet h =>
    rename_i d x ob s
    rcases h.run with ⟨hw, hq, hk, hn, hv, h0, _, _⟩ | ⟨hw, rfl, rfl, rfl, _⟩
    · refine .inl (fin hw ?_)
      unfold exOp
      rw [hq, h.dst]
      simp only [cond_true, Bool.false_and, cond_false]
      rw [qv_at hv]
      have : (isNone ob || isNone (σ.ob.getD d .none)) = true := by rw [Bool.or_eq_true]; exact h0
      rw [this]
      simp
    · refine .inr ⟨wanted_of hs (by rw [show wantB all.toList (σF σ fs) o = wantB all.toList σ o from rfl]; exact hw), ?_⟩
      rw [h.dst, List.append_nil]
      exact sim_skip hs d
  | loud h =>
    refine .inl (fin h.want ?_)
    unfold exOp
    rw [h.loud]
    simp only [cond_false]
    rw [loud_at h.out]
    simp

structure InvF (P : Program) (T : TT) (U : Nat → Prop) (w0 : World) (F0 : Fr) (call : FuncId → List V → Option Res) (all : Array Oper) (K : St → Option Res) (r : Res) (listed : Array Bool) (a : Act) (w : World)
    (l : List (Oper × Nat)) (σ : St) (fs : Fs) (lg : List Ent) (ow : Own) : Prop where
  size : listed.size = all.size
  mem : ∀ p, p ∈ l ↔ (all.toList[p.2]? = some p.1 ∧ listed.getD p.2 false = false)
  srt : l.Pairwise fun p q => p.2 < q.2
  closed : ∀ j, listed.getD j false = true → ∀ i ∈ (befores all.toList).getD j [], listed.getD i false = true
  run : exD T call all.toList (unOf all.toList) l σ fs lg K = some r
  dead : Dead T all.toList (unOf all.toList) l σ
  sim : Sim T.globL U w0 F0 (σF σ fs) a w ow

theorem InvF.done {K : St → Option Res} {Q : Exit → Act → World → Prop} {listed : Array Bool} {l : List (Oper × Nat)} {σ : St} {fs : Fs} {lg : List Ent} (h : InvF P T U w0 F0 call all K r listed a w l σ fs lg ow)
    (hl : ∀ i, i < all.size → listed.getD i false = true) (hQ : ∀ σ' a' w' ow', K σ' = some r → Sim T.globL U w0 F0 σ' a' w' ow' → Q .normal a' w') : Q .normal a w := by
  have he : l = [] := by
    cases l with
    | nil => rfl
    | cons p l =>
      obtain ⟨h1, h2⟩ := (h.mem p).1 (List.mem_cons_self ..)
      have : p.2 < all.size := by have := (List.getElem?_eq_some_iff.1 h1).1; simpa using this
      rw [hl _ this] at h2; cases h2
  subst he
  exact hQ _ _ _ _ h.run h.sim
theorem ready_or2 (hr : RegOk2 T all.toList) {listed : Array Bool} (hs : listed.size = all.size) (h : Region.ready .any all listed = []) : ∀ i, i < all.size → listed.getD i false = true := by
  intro i
  induction i using Nat.strongRecOn with
  | ind i ih =>
    intro hi
    cases hl : listed.getD i false with
    | true => rfl
    | false =>
      exfalso
      have : i ∈ Region.ready .any all listed := by
        rw [mem_ready]
        refine ⟨by rw [getD_tf (by omega)]; exact hl, all[i], Array.getElem?_eq_getElem hi, fun e he hb => ?_⟩
        have h1 := hr.on i all[i] (by rw [Array.getElem?_toList]; exact Array.getElem?_eq_getElem hi) e he hb
        exact ih _ h1 (by omega)
      rw [h] at this
      cases this

/-- A DRAWN REGION IN WHICH A CALL FLOATS -/
theorem drawn_float (hT : TOk P T) (hC : CallOk P T.globL call) (hL : LoudOk P T call) (hr : RegOk2 T all.toList) (hpn : ∀ o ∈ all.toList, ∀ d, o.dst = some d → F0.pn d = none) {K : St → Option Res} {Q : Exit → Act → World → Prop}
    (hQ : ∀ σ' a' w' ow', K σ' = some r → Sim T.globL U w0 F0 σ' a' w' ow' → Q .normal a' w') :
    ∀ (fuel : Nat) (listed : Array Bool) (a : Act) (w : World) (l : List (Oper × Nat)) (σ : St) (fs : Fs) (lg : List Ent) (ow : Own), unl listed all.size ≤ fuel → InvF P T U w0 F0 call all K r listed a w l σ fs lg ow → wpAny P .any all Q fuel listed a w
  | 0, listed, a, w, l, σ, fs, lg, ow, hf, h => by
    have hall : ∀ i, i < all.size → listed.getD i false = true := fun i hi => by
      have h0 : unl listed all.size = 0 := by omega
      unfold unl at h0
      have := List.countP_eq_zero.1 h0 i (by simpa using hi)
      simpa using this
    refine ⟨?_, h.done hall hQ⟩
    cases hrd : Region.ready .any all listed with
    | nil => rfl
    | cons i l =>
      have hi : i ∈ Region.ready .any all listed := by rw [hrd]; simp
      obtain ⟨h1, o, ho, _⟩ := mem_ready.1 hi
      have hlt : i < all.size := (Array.getElem?_eq_some_iff.1 ho).1
      rw [getD_tf (by rw [h.size]; exact hlt), hall i hlt] at h1
      cases h1
  | fuel + 1, listed, a, w, l, σ, fs, lg, ow, hf, h => by
    refine ⟨fun hrd => h.done (ready_or2 hr h.size hrd) hQ, fun i hi => ?_⟩
    obtain ⟨h1, o, ho, hafter⟩ := mem_ready.1 hi
    have hlt : i < all.size := (Array.getElem?_eq_some_iff.1 ho).1
    rw [getD_tf (by rw [h.size]; exact hlt)] at h1
    have hoL : all.toList[i]? = some o := by rw [Array.getElem?_toList]; exact ho
    have hls : i < listed.size := by rw [h.size]; exact hlt
    -- what stands before it is listed
    have hbef : ∀ q ∈ (befores all.toList).getD i [], listed.getD q false = true := fun q hq => by
      obtain ⟨e, he, hb, hqe⟩ := befores_spec hoL hq
      have := hafter e he hb
      rcases hqe with rfl | hqe
      · exact this
      · exact h.closed _ this q hqe
    have hcl : ∀ j, (listed.setIfInBounds i true).getD j false = true → ∀ q ∈ (befores all.toList).getD j [], (listed.setIfInBounds i true).getD q false = true := fun j hj q hq => by
      rw [getD_listed hls] at hj ⊢
      rw [Bool.or_eq_true] at hj ⊢
      refine .inl ?_
      rcases hj with hj | hj
      · exact h.closed j hj q hq
      · have : j = i := by simpa using hj
        subst this
        exact hbef q hq
    have hfuel : unl (listed.setIfInBounds i true) all.size ≤ fuel := by have := unl_set hlt hls h1; omega
    have hm : (o, i) ∈ l := (h.mem (o, i)).2 ⟨hoL, h1⟩
    obtain ⟨pre, post, hsplit⟩ := List.append_of_mem hm
    have hrun := h.run
    have hdead := h.dead
    have hsrt := h.srt
    rw [hsplit] at hrun hdead hsrt
    have hlo : ∀ p ∈ pre, p.2 < i := fun p hp => (List.pairwise_append.1 hsrt).2.2 p hp (o, i) (List.mem_cons_self ..)
    have hpre : ∀ p ∈ pre, all.toList[p.2]? = some p.1 ∧ listed.getD p.2 false = false := fun p hp => (h.mem p).1 (by rw [hsplit]; exact List.mem_append_left _ hp)
    have hap : ∀ p ∈ pre, all.toList[p.2]? = some p.1 ∧ ∃ d1 d2, Ap T all.toList (unOf all.toList) p.2 i p.1 o d1 d2 := fun p hp => by
      obtain ⟨g1, g2⟩ := hpre p hp
      refine ⟨g1, ap_of hr (hlo p hp) g1 hoL fun hb => ?_⟩
      rw [hbef _ hb] at g2; cases g2
    have hpw : pre.Pairwise fun p q => ∀ d, p.1.dst = some d → q.1.dst ≠ some d := by
      have := (List.pairwise_append.1 hsrt).1
      refine List.Pairwise.imp_of_mem (fun {p q} hp hq hlt d hd => ?_) this
      exact hr.ne p.2 q.2 p.1 q.1 hlt (hpre p hp).1 (hpre q hq).1 d hd
    have hb := bubble hoL pre σ fs lg hap hpw (fun p hp => hdead p (List.mem_append_left _ hp)) hrun
    obtain ⟨σ', fs', e, hstep, hrest⟩ := exD_cons.1 hb
    have hstepSim := hstep.sim hT hC hL h.sim (hpn o (List.mem_of_getElem? hoL)) r
    have hmem' : ∀ p, p ∈ pre ++ post ↔ (all.toList[p.2]? = some p.1 ∧ (listed.setIfInBounds i true).getD p.2 false = false) := fun p => by
      have hnd : ∀ p ∈ pre ++ post, p.2 ≠ i := fun p hp => by
        rcases List.mem_append.1 hp with hp | hp
        · have := hlo p hp; omega
        · have := List.rel_of_pairwise_cons (List.pairwise_append.1 hsrt).2.1 hp
          have : i < p.2 := this
          omega
      rw [getD_listed hls]
      constructor
      · intro hp
        have hpl : p ∈ l := by
          rw [hsplit]
          rcases List.mem_append.1 hp with hp | hp
          · exact List.mem_append_left _ hp
          · exact List.mem_append_right _ (List.mem_cons_of_mem _ hp)
        obtain ⟨g1, g2⟩ := (h.mem p).1 hpl
        refine ⟨g1, ?_⟩
        rw [g2, Bool.false_or]
        have := hnd p hp
        simpa using this
      · rintro ⟨g1, g2⟩
        rw [Bool.or_eq_false_iff] at g2
        have hpl := (h.mem p).2 ⟨g1, g2.1⟩
        rw [hsplit] at hpl
        rcases List.mem_append.1 hpl with hp | hp
        · exact List.mem_append_left _ hp
        · rcases List.mem_cons.1 hp with rfl | hp
          · simp at g2
          · exact List.mem_append_right _ hp
    have hsrt' : (pre ++ post).Pairwise fun p q => p.2 < q.2 := by
      refine List.Pairwise.sublist ?_ hsrt
      exact List.Sublist.append (List.Sublist.refl _) (List.sublist_cons_self _ _)
    have hdead' : Dead T all.toList (unOf all.toList) (pre ++ post) σ' := fun p hp hfl => by
      obtain ⟨g1, g2⟩ := (hmem' p).1 hp
      have hpl : p ∈ pre ++ (o, i) :: post := by
        rcases List.mem_append.1 hp with hp | hp
        · exact List.mem_append_left _ hp
        · exact List.mem_append_right _ (List.mem_cons_of_mem _ hp)
      have hne : p.2 ≠ i := fun e => by rw [getD_listed hls, e] at g2; simp at g2
      by_cases hds : p.1.dst = none
      · -- no slot of its own: it is quiet and floats, but such a one has a slot
        refine hstep.dead (fun e' => ?_) (hdead p hpl hfl)
        exfalso
        unfold floats at hfl
        rw [Bool.and_eq_true, List.any_eq_true] at hfl
        obtain ⟨hq, ⟨x, q⟩, hx, hxx⟩ := hfl
        have hxx : (memN ((unOf all.toList).getD p.2 []) q && !isQuiet T x) = true := hxx
        rw [Bool.and_eq_true, memN_iff] at hxx
        have hxq : all.toList[q]? = some x := by rw [List.mem_zipIdx_iff_getElem?] at hx; exact hx
        have hun : q ≠ p.2 ∧ q ∉ (befores all.toList).getD p.2 [] ∧ p.2 ∉ (befores all.toList).getD q [] := by
          have := hxx.1
          unfold unOf at this
          simp only [List.getD_eq_getElem?_getD, List.getElem?_map] at this
          have hz : all.toList.zipIdx[p.2]? = some (p.1, p.2) := by rw [List.getElem?_zipIdx, g1]; simp
          rw [hz] at this
          simp only [Option.map_some, Option.getD_some, List.mem_map] at this
          obtain ⟨z, hz1, hz2⟩ := this
          obtain ⟨_, hz3⟩ := List.mem_filter.1 hz1
          subst hz2
          have hz3 : (!Nat.beq z.2 p.2 && !memN (((befores all.toList)[p.2]?).getD []) z.2 && !memN (((befores all.toList)[z.2]?).getD []) p.2) = true := hz3
          simp only [Bool.and_eq_true, Bool.not_eq_true', memN_false] at hz3
          refine ⟨fun e => by rw [beq_nat.2 e] at hz3; simp at hz3, ?_, ?_⟩
          · rw [List.getD_eq_getElem?_getD]; exact hz3.1.2
          · rw [List.getD_eq_getElem?_getD]; exact hz3.2
        rcases Nat.lt_or_ge q p.2 with hl | hl
        · obtain ⟨d1, d2, ap⟩ := ap_of hr hl hxq g1 hun.2.1
          rw [ap.dy] at hds; cases hds
        · obtain ⟨d1, d2, ap⟩ := ap_of hr (by omega : p.2 < q) g1 hxq hun.2.2
          rw [ap.dx] at hds; cases hds
      · obtain ⟨d, hd⟩ : ∃ d, p.1.dst = some d := Option.ne_none_iff_exists'.1 hds
        have e : dstOf p.1 = d := by unfold dstOf; rw [hd]; rfl
        refine hstep.dead (fun e' => ?_) (hdead p hpl hfl)
        rw [e] at e'
        rcases Nat.lt_or_ge p.2 i with hl | hl
        · exact hr.ne p.2 i p.1 o hl g1 hoL d hd e'
        · exact hr.ne i p.2 o p.1 (by omega) hoL g1 d e' hd
    have hinv : ∀ {a' w' ow'}, Sim T.globL U w0 F0 (σF σ' fs') a' w' ow' → InvF P T U w0 F0 call all K r (listed.setIfInBounds i true) a' w' (pre ++ post) σ' fs' (e :: lg) ow' := fun hs =>
      ⟨by simpa using h.size, hmem', hsrt', hcl, hrest, hdead', hs⟩
    unfold wpOp
    rw [ho]
    simp only
    rcases hstepSim with ⟨hw, hd⟩ | ⟨hw, hs⟩
    · rw [if_pos hw]
      exact .inl (hd _ _ fun a' w' ow' hs => drawn_float hT hC hL hr hpn hQ fuel _ a' w' _ _ _ _ ow' hfuel (hinv hs))
    · rw [if_neg (by rw [hw]; simp)]
      exact drawn_float hT hC hL hr hpn hQ fuel _ _ w _ _ _ _ ow hfuel (hinv hs)
end
end Go.Proofs.YtmddfhjgdhjmkaaDoor.VM

/- The abstract machine and the memory: code. -/
set_option linter.unusedVariables false
set_option linter.unusedSimpArgs false
namespace Go.Proofs.YtmddfhjgdhjmkaaDoor.VM

def exitOf : Ex → Exit
  | .normal => .normal
  | .exit id => .exit id
  | .ret => .ret

/-- what a code's run owes -/
def Post (T : TT) (U : Nat → Prop) (w0 : World) (F0 : Fr) (K : Ex → St → Option Res) (r : Res) (Q : Exit → Act → World → Prop) : Prop :=
  ∀ e σ' a' w' ow', K e σ' = some r → Sim T.globL U w0 F0 σ' a' w' ow' → Q (exitOf e) a' w'
structure EnvOk (P : Program) (T : TT) (E : Env) : Prop where
  call : CallOk P T.globL E.call
  loud : LoudOk P T E.call
  loop : ∀ (kp : Nat → Bool) (b : Code) (σ : St) (K : Ex → St → Option Res) (r : Res), E.loop kp b σ K = some r → ∀ (U : Nat → Prop) (w0 : World) (F0 : Fr) (a : Act) (w : World) (ow : Own) (Q : Exit → Act → World → Prop),
    (∀ o ∈ opsOf b, ∀ d, o.dst = some d → F0.pn d = none) → Sim T.globL U w0 F0 σ a w ow → Post T U w0 F0 K r Q → (Code.loop b).wp P Q a w

section
variable {P : Program} {T : TT} {U : Nat → Prop} {w0 : World} {F0 : Fr} {r : Res} {E : Env}

theorem sim_cleanC {σ : St} {a : Act} {w : World} {ow : Own} (c : Operand) (h : Sim T.globL U w0 F0 σ a w ow) : Sim T.globL U w0 F0 (cleanC c σ) a w ow := by
  cases c <;> first | exact h.drop _ | exact h

theorem exC_ok (hT : TOk P T) (hE : EnvOk P T E) {kp : Nat → Bool} : ∀ (c : Code), (∀ o ∈ opsOf c, ∀ d, o.dst = some d → F0.pn d = none) → ∀ (σ : St) (a : Act) (w : World) (ow : Own) (K : Ex → St → Option Res) (Q : Exit → Act → World → Prop),
    exC T E kp c σ K = some r → Sim T.globL U w0 F0 σ a w ow → Post T U w0 F0 K r Q → c.wp P Q a w := by
  intro c
  induction c with
  | skip => exact fun _ σ a w ow K Q hk h hQ => wp_skip (hQ _ _ _ _ _ hk h)
  | exit id => exact fun _ σ a w ow K Q hk h hQ => wp_exit (hQ _ _ _ _ _ hk h)
  | ret => exact fun _ σ a w ow K Q hk h hQ => wp_ret (hQ _ _ _ _ _ hk h)
  | seq x y ihx ihy =>
    intro hpn σ a w ow K Q hk h hQ
    refine wp_seq (ihx (fun o ho => hpn o (List.mem_append_left _ ho)) σ a w ow _ _ hk h fun e σ' a' w' ow' hk' h' => ?_)
    cases e with
    | normal => exact ihy (fun o ho => hpn o (List.mem_append_right _ ho)) σ' a' w' ow' K Q hk' h' hQ
    | exit id => exact hQ _ _ _ _ _ hk' h'
    | ret => exact hQ _ _ _ _ _ hk' h'
  | cond c x y ihx ihy =>
    intro hpn σ a w ow K Q hk h hQ
    obtain ⟨t, ht, hk2⟩ := unB_some hk
    refine wp_cond (val_sc h ht).1 ?_
    cases t with
    | true => exact ihx (fun o ho => hpn o (List.mem_append_left _ ho)) _ a w ow K Q hk2 (sim_cleanC c h) hQ
    | false => exact ihy (fun o ho => hpn o (List.mem_append_right _ ho)) _ a w ow K Q hk2 (sim_cleanC c h) hQ
  | block id x ih =>
    intro hpn σ a w ow K Q hk h hQ
    refine wp_block (ih hpn σ a w ow _ _ hk h fun e σ' a' w' ow' hk' h' => ?_)
    cases e with
    | normal => exact hQ _ _ _ _ _ hk' h'
    | exit i =>
      show if i = id then Q .normal a' w' else Q (.exit i) a' w'
      by_cases hi : i = id
      · subst hi
        rw [if_pos rfl]
        simp only [Nat.beq_refl, cond_true] at hk'
        exact hQ .normal σ' a' w' ow' hk' h'
      · rw [if_neg hi]
        have hb : Nat.beq i id = false := by
          cases hb : Nat.beq i id
          · rfl
          · exact absurd (beq_nat.1 hb) hi
        simp only [hb, cond_false] at hk'
        exact hQ (.exit i) σ' a' w' ow' hk' h'
    | ret => exact hQ _ _ _ _ _ hk' h'
  | loop b ih => exact fun hpn σ a w ow K Q hk h hQ => hE.loop _ _ _ _ _ hk _ _ _ _ _ _ _ hpn (h.lpClean kp b) hQ
  | region id ops draw =>
    intro hpn σ a w ow K Q hk h hQ
    have hk : (bif draw && !regOk T ops.toList then
      (bif regOk2 T ops.toList then exDr T E.call ops.toList (prep T ops.toList σ) fun σ => K .normal (gcs ops.toList (clean kp ops.toList σ)) else none) else
      exOps T E.call draw ops.toList ops.toList (prep T ops.toList σ) [] fun σ => K .normal (gcs ops.toList (clean kp ops.toList σ))) = some r := hk
    have hfin : ∀ σ' a' w' ow', K .normal (gcs ops.toList (clean kp ops.toList σ')) = some r → Sim T.globL U w0 F0 σ' a' w' ow' → Q .normal a' w' := fun σ' a' w' ow' hk' h' =>
      hQ .normal _ _ _ ow' hk' ((h'.clean kp ops.toList).gcs ops.toList)
    have hp := h.prep T ops.toList
    cases draw with
    | false =>
      refine wp_region_list (exOps_plain (all := ops) (dr := false) hT hE.call hE.loud ops.toList _ [] a w ow hpn hp hk hfin)
    | true =>
      cases hreg : regOk T ops.toList with
      | false =>
        rw [hreg] at hk
        obtain ⟨hr2, hk⟩ := bif_some hk
        have hno : ∀ i, (Array.replicate ops.size false).getD i false = false := fun i => by
          simp only [Array.getD_eq_getD_getElem?, Array.getElem?_replicate]; split <;> rfl
        refine wp_region_any hT.mixed (drawn_float hT hE.call hE.loud (regOk2_ok hr2) hpn hfin ops.size _ a _ ops.toList.zipIdx (dropF T ops.toList (unOf ops.toList) ops.toList.zipIdx (prep T ops.toList σ)) [] [] ow ?_ ?_)
        · unfold unl
          exact Nat.le_trans (List.countP_le_length) (by simp)
        · refine ⟨by simp, fun p => ?_, ?_, fun j hj => (by rw [hno] at hj; cases hj), hk, fun p hp hf => dropF_dead _ _ p hp hf, ?_⟩
          · rw [hno]
            obtain ⟨x, q⟩ := p
            rw [List.mem_zipIdx_iff_getElem?]
            simp
          · rw [List.pairwise_iff_getElem]
            intro i j hi hj hij
            simp only [List.getElem_zipIdx]
            omega
          · exact (Sim.dropF (P := P) _ hp).drew
      | true =>
        rw [hreg] at hk
        obtain ⟨Ef, h1, h2, h3⟩ := seg_split _ _ _ hk
        refine wp_region_any hT.mixed (drawn_any hT hE.call hE.loud (regOk_ok hreg) hpn hfin ops.size _ a _ 0 (prep T ops.toList σ) Ef ow ?_ ?_)
        · unfold unl
          exact Nat.le_trans (List.countP_le_length) (by simp)
        · have hno : ∀ i, (Array.replicate ops.size false).getD i false = false := fun i => by
            simp only [Array.getD_eq_getD_getElem?, Array.getElem?_replicate]; split <;> rfl
          refine ⟨by simp, fun i hi => by omega, by simpa using h1, by simpa using h2, by simpa using h3, fun i _ => hno i, fun j hj => (by rw [hno] at hj; cases hj), ?_⟩
          rw [stM_none Ef (fun i => by rw [hno])]
          have hd := hp.drew
          exact hd.freeze _
  | _ => exact fun _ σ a w ow K Q hk => by cases hk
end
end Go.Proofs.YtmddfhjgdhjmkaaDoor.VM

/- The abstract machine and the memory: functions. -/
set_option linter.unusedVariables false
set_option linter.unusedSimpArgs false
namespace Go.Proofs.YtmddfhjgdhjmkaaDoor.VM

section
variable {T : TT} {r : Res}

/-- a parameter's slot -/
def SlotOk (k : Nat) (a x : V) : Prop :=
  ((∀ cs, a ≠ .io cs) ∧ ∀ w A ow ob u, VR w A u a → SR w A ow ob u x) ∨ ∃ cs, a = .io cs ∧ x = .ptr k none 0 0
/-- boxes come in where the types say so -/
def MatchA (T : TT) : List TypeId → List V → Prop
  | [], caps => ∀ c ∈ caps, ∃ x j, c = .rp x j
  | t :: ts, a :: args => ((∃ ss cs, T.ty t = .p ss ∧ a = .io cs) ∨ ((∀ ss, T.ty t ≠ .p ss) ∧ ∀ cs, a ≠ .io cs)) ∧ MatchA T ts args
  | _ :: _, [] => False

theorem init_ok {n : Nat} : ∀ (ts : List TypeId) (args : List V) (i : Nat) {K : List V → List Ob → Option Res}, init T n args ts i K = some r →
    ∃ sl ob, K sl ob = some r ∧ sl.length = n - i ∧ ob.length = n - i ∧ i + args.length ≤ n ∧ MatchA T ts args ∧
      (∀ (j : Nat) a x, args[j]? = some a → sl[j]? = some x → SlotOk (i + j) a x) ∧ (∀ j, args.length ≤ j → sl.getD j .dead = .dead) ∧
      ∀ j, ob.getD j .none = (args.map obArg).getD j .none
  | [], caps, i, K, h => by
    unfold init at h
    obtain ⟨hc, hK⟩ := bif_some h
    simp only [Bool.and_eq_true] at hc
    have hle := Nat.le_of_ble_eq_true hc.2
    have hrp : ∀ c ∈ caps, ∃ x j, c = .rp x j := fun c hm => by
      have := List.all_eq_true.1 hc.1 c hm
      cases c <;> first | exact ⟨_, _, rfl⟩ | cases this
    refine ⟨_, _, hK, by simp only [List.length_append, List.length_replicate]; omega, by simp, hle, hrp, fun j a x ha hx => ?_, fun j hj => ?_, fun j => ?_⟩
    · have hj : j < caps.length := (List.getElem?_eq_some_iff.1 ha).1
      rw [List.getElem?_append_left hj, ha] at hx
      cases hx
      obtain ⟨y, q, rfl⟩ := hrp a (List.mem_of_getElem? ha)
      exact .inl ⟨by simp, fun w A ow ob u hu => hu⟩
    · rw [List.getD_eq_getElem?_getD, List.getElem?_append_right hj, List.getElem?_replicate]
      split <;> rfl
    · have h1 : (List.replicate (n - i) Ob.none).getD j .none = .none := getD_none (fun o ho => (List.mem_replicate.1 ho).2) j
      have h2 : (caps.map obArg).getD j .none = .none := getD_none (fun o ho => by
        obtain ⟨c, hc, rfl⟩ := List.mem_map.1 ho
        obtain ⟨y, q, rfl⟩ := hrp c hc
        rfl) j
      rw [h1, h2]
  | t :: ts, [], i, K, h => by cases h
  | t :: ts, a :: args, i, K, h => by
    have step : ∀ (x : V) (o : Ob), o = obArg a → SlotOk i a x → ((∃ ss cs, T.ty t = .p ss ∧ a = .io cs) ∨ ((∀ ss, T.ty t ≠ .p ss) ∧ ∀ cs, a ≠ .io cs)) →
        init T n args ts (i + 1) (fun sl ob => K (x :: sl) (o :: ob)) = some r →
        ∃ sl ob, K sl ob = some r ∧ sl.length = n - i ∧ ob.length = n - i ∧ i + (a :: args).length ≤ n ∧ MatchA T (t :: ts) (a :: args) ∧
          (∀ (j : Nat) a' x, (a :: args)[j]? = some a' → sl[j]? = some x → SlotOk (i + j) a' x) ∧ (∀ j, (a :: args).length ≤ j → sl.getD j .dead = .dead) ∧
          ∀ j, ob.getD j .none = ((a :: args).map obArg).getD j .none := fun x o ho hx hm he => by
      obtain ⟨sl, ob, hK, h1, h2, h3, h4, h5, h6, h7⟩ := init_ok ts args (i + 1) he
      refine ⟨_, _, hK, by simp only [List.length_cons]; omega, by simp only [List.length_cons]; omega, by simp only [List.length_cons]; omega, ⟨hm, h4⟩, fun j a' y ha hy => ?_, fun j hj => ?_, fun j => ?_⟩
      · cases j with
        | zero => simp at ha hy; subst ha; subst hy; exact hx
        | succ j =>
          have := h5 j a' y (by simpa using ha) (by simpa using hy)
          rw [show i + 1 + j = i + (j + 1) by omega] at this
          exact this
      · cases j with
        | zero => simp at hj
        | succ j =>
          have := h6 j (by simpa using hj)
          simpa [List.getD_eq_getElem?_getD] using this
      · cases j with
        | zero => simp [ho]
        | succ j =>
          have := h7 j
          simpa [List.getD_eq_getElem?_getD] using this
    unfold init at h
    split at h
    · rename_i s hty
      obtain ⟨c, he, hc1, hc2, hc3⟩ := unC_some h
      have hni : ∀ cs, a ≠ .io cs := fun cs e => by rw [e] at hc2; exact hc2
      refine step c .none (obArg_none hni).symm (.inl ⟨hni, fun w A ow ob u hu => ?_⟩) (.inr ⟨fun ss e => (by rw [hty] at e; cases e), hni⟩) he
      rw [hc1.sr]
      rw [hc2.vr] at hu
      exact hc3 _ _ _ hu
    · rename_i ss hty
      obtain ⟨cs, rfl, hl, he⟩ := unSt_some h
      exact step (.dt (.st cs)) .none rfl (.inl ⟨by simp, fun w A ow ob u hu => hu⟩) (.inr ⟨fun ss e => (by rw [hty] at e; cases e), by simp⟩) he
    · rename_i ss hty
      obtain ⟨cs, rfl, he⟩ := unIo_some h
      obtain ⟨_, he⟩ := bif_some he
      exact step _ (.box true cs) rfl (.inr ⟨cs, rfl, rfl⟩) (.inl ⟨ss, cs, hty, rfl⟩) he
    · cases h

def unOb : Ob → Ob
  | .box b cs => .box b (cs.map unO)
  | o => o
theorem outs_ok {ob : List Ob} : ∀ (ts : List TypeId) (args : List V) (i : Nat) {K : List V → Option Res}, MatchA T ts args → outs T ob ts i K = some r →
    ∃ os, K os = some r ∧ ∀ j, (backObs args os).getD j .none = match args[j]? with
      | some (.io _) => unOb (ob.getD (i + j) .none)
      | _ => .none
  | [], caps, i, K, hm, h => by
    refine ⟨[], h, fun j => ?_⟩
    have hni : ∀ x ∈ caps, ∀ cs, x ≠ .io cs := fun x hx cs => by
      obtain ⟨y, q, rfl⟩ := hm x hx; simp
    rw [getD_none (backObs_none hni)]
    split
    · rename_i cs hj
      exact absurd rfl (hni _ (List.mem_of_getElem? hj) cs)
    · rfl
  | t :: ts, a :: args, i, K, hm, h => by
    obtain ⟨hm1, hm2⟩ := hm
    unfold outs at h
    rcases hm1 with ⟨ss, cs, hty, rfl⟩ | ⟨hty, hni⟩
    · rw [hty] at h
      simp only at h
      split at h
      · rename_i cs' hb
        obtain ⟨os, hK, hos⟩ := outs_ok ts args (i + 1) hm2 h
        refine ⟨_, hK, fun j => ?_⟩
        show (obArg (.io (cs'.map unO)) :: backObs args os).getD j .none = _
        cases j with
        | zero => simp [obArg]; rw [← List.getD_eq_getElem?_getD, hb]; rfl
        | succ j =>
          have := hos j
          simp only [List.getD_eq_getElem?_getD, List.getElem?_cons_succ] at this ⊢
          rw [this, show i + 1 + j = i + (j + 1) by omega]
      · cases h
    · have h' : outs T ob ts (i + 1) K = some r := by
        split at h
        · rename_i ss e; exact absurd e (hty ss)
        · exact h
      obtain ⟨os, hK, hos⟩ := outs_ok ts args (i + 1) hm2 h'
      refine ⟨os, hK, fun j => ?_⟩
      have hb : backObs (a :: args) os = .none :: backObs args os := by
        cases a <;> first | rfl | exact absurd rfl (hni _)
      rw [hb]
      cases j with
      | zero =>
        simp only [List.getD_eq_getElem?_getD, List.getElem?_cons_zero, Option.getD_some]
        split
        · rename_i cs e; simp at e; exact absurd e (hni cs)
        · rfl
      | succ j =>
        have := hos j
        simp only [List.getD_eq_getElem?_getD, List.getElem?_cons_succ] at this ⊢
        rw [this, show i + 1 + j = i + (j + 1) by omega]
  | t :: ts, [], i, K, hm, h => hm.elim
end

section
variable {U : Nat → Prop} {w : World} {ow : Own}
theorem getD_un (ob : List Ob) (k : Nat) : (ob.map unOb).getD k .none = unOb (ob.getD k .none) := by
  simp only [List.getD_eq_getElem?_getD, List.getElem?_map]
  cases ob[k]? <;> rfl
theorem unO_own {v : V} {o : Bool} {z : Nat} {xs : List V} (h : unO v = .own o z xs) : v = .own o z xs ∧ o = true := by
  cases v with
  | own o' z' xs' => cases o' <;> simp [unO] at h; exact ⟨by simp [h], h.1⟩
  | _ => simp [unO] at h
theorem owned_un (ob : List Ob) (k : Nat) (c : Option Nat) : owned (ob.map unOb) k c ↔ owned ob k c := by
  unfold owned
  rw [getD_un]
  cases ob.getD k .none with
  | none => cases c <;> rfl
  | row => cases c <;> rfl
  | box b cs =>
    cases c with
    | none => rfl
    | some j =>
      simp only [unOb, List.getElem?_map]
      constructor
      · rintro ⟨z, xs, h⟩
        obtain ⟨v, hv, hu⟩ := Option.map_eq_some_iff.1 h
        exact ⟨z, xs, by rw [hv, (unO_own hu).1]⟩
      · rintro ⟨z, xs, h⟩
        exact ⟨z, xs, by rw [h]; rfl⟩
theorem alive_un {ob : List Ob} {k : Nat} {c : Option Nat} (h : alive (ob.map unOb) k c) : alive ob k c := by
  unfold alive at *
  rw [getD_un] at h
  cases ho : ob.getD k .none with
  | none => rw [ho] at h; cases c <;> exact h
  | row => rw [ho] at h; cases c <;> exact h
  | box b cs =>
    rw [ho] at h
    cases c with
    | none => trivial
    | some j =>
      simp only [unOb, List.getElem?_map] at h
      obtain ⟨o, z, xs, h⟩ := h
      obtain ⟨v, hv, hu⟩ := Option.map_eq_some_iff.1 h
      exact ⟨o, z, xs, by rw [hv, (unO_own hu).1]⟩
theorem Fz.un (ob : List Ob) (b : Nat) : Fz U w ow (ob.map unOb) b ↔ Fz U w ow ob b :=
  ⟨fun h => ⟨h.1, h.2.1, fun k c hk => h.2.2 k c ((owned_un ob k c).2 hk)⟩, fun h => ⟨h.1, h.2.1, fun k c hk => h.2.2 k c ((owned_un ob k c).1 hk)⟩⟩
/-- what is frozen in boxes is data -/
theorem HO.un {ob : List Ob} (h : HO U w ow ob) : HO U w ow (ob.map unOb) := by
  refine ⟨fun k => ?_, fun k c k' c' h1 h2 e => h.inj k c k' c' (alive_un h1) (alive_un h2) e, fun k c h1 => h.lt k c (alive_un h1)⟩
  rw [getD_un]
  have hk := h.obs k
  have hA : ∀ b, Fz U w ow ob b → Fz U w ow (ob.map unOb) b ∧ w.heap[b]? = w.heap[b]? := fun b hb => ⟨(Fz.un ob b).2 hb, rfl⟩
  cases ho : ob.getD k .none with
  | none => trivial
  | row b z xs => rw [ho] at hk; exact hk.keep hA (fun _ => ⟨rfl, rfl⟩) (fun _ _ _ _ _ _ _ _ => ⟨rfl, rfl⟩)
  | box b cs =>
    rw [ho] at hk
    obtain ⟨h1, h2⟩ := hk
    refine ⟨by rw [List.length_map]; exact h1, fun j v x hv hx => ?_⟩
    rw [List.getElem?_map] at hx
    obtain ⟨y, hy, hx⟩ := Option.map_eq_some_iff.1 hx
    have hb := h2 j v y hv hy
    by_cases hfr : ∃ z xs, y = .own false z xs
    · obtain ⟨z, xs, rfl⟩ := hfr
      have hx : V.sl z xs = x := hx
      subst hx
      obtain ⟨c, rfl, hr⟩ := hb
      have hal : alive ob k (some j) := by unfold alive; rw [ho]; exact ⟨false, z, xs, hy⟩
      have hF : Fz U w ow (ob.map unOb) (ow k (some j)) := (Fz.un ob _).2 ⟨(h.lt _ _ hal).2, (h.lt _ _ hal).1, fun k' c' hk' e => by
        obtain ⟨e1, e2⟩ := h.inj _ _ _ _ (alive_of_owned hk') hal e
        subst e1; subst e2
        unfold owned at hk'
        rw [ho] at hk'
        obtain ⟨z', xs', hk'⟩ := hk'
        rw [hy] at hk'; cases hk'⟩
      have hr' := hr.keep (w' := w) (A' := Fz U w ow (ob.map unOb)) hA rfl
      exact FR.ofRow hr' hF (fun i y hy => hy) rfl hr.le
    · have hyx : unO y = y := by
        cases y with
        | own o z xs => cases o <;> first | rfl | exact absurd ⟨z, xs, rfl⟩ hfr
        | _ => rfl
      rw [hyx] at hx
      subst hx
      exact hb.keep hA (fun _ _ _ _ => ⟨rfl, rfl⟩)
end
end Go.Proofs.YtmddfhjgdhjmkaaDoor.VM

/- The abstract machine and the memory: what a function hands back. -/
set_option linter.unusedVariables false
set_option linter.unusedSimpArgs false
namespace Go.Proofs.YtmddfhjgdhjmkaaDoor.VM

def resG (tmps : Array Value) : ResultVar → Sem Value
  | .tmp t => pure (tmps.getD t undef)
  | .cell a t => do loadVar t (← asAddr (tmps.getD a undef))
theorem results_eq (fn : Func) (tmps : Array Value) : results fn tmps = (do
    let vs ← fn.results.mapM (resG tmps)
    pure (if h : vs.size = 1 then vs[0] else .tuple vs)) := rfl

section
variable {P : Program} {T : TT} {U : Nat → Prop} {w0 w : World} {F0 : Fr} {σ : St} {a : Act} {ow : Own} {r : Res}

theorem box_cells {GL : List (Nat × V)} (h : Sim GL U w0 F0 σ a w ow) {k : Nat} {b : Bool} {cs : List V} (hb : σ.ob.getD k .none = .box b cs) :
    ∃ ecs : List Value, ecs.length = cs.length ∧ At w (ow k none) 0 ecs ∧ ∀ (q : Nat) u y, ecs[q]? = some u → (view k 0 (cs.map eC))[q]? = some y → SC w (Fz U w ow σ.ob) ow σ.ob u y := by
  classical
  have hex : ∀ q : Nat, ∃ u, q < cs.length → w.cell? ⟨ow k none, q, none⟩ = some u ∧ SC w (Fz U w ow σ.ob) ow σ.ob u (viewC k q ((cs.map eC).getD q .dead)) := fun q => by
    by_cases hq : q < cs.length
    · obtain ⟨u, h1, h2⟩ := box_cell h hb hq
      exact ⟨u, fun _ => ⟨h1, h2⟩⟩
    · exact ⟨undef, fun hh => absurd hh hq⟩
  obtain ⟨f', hf'⟩ := Classical.axiomOfChoice hex
  refine ⟨(List.range cs.length).map f', by simp, fun q u hu => ?_, fun q u y hu hy => ?_⟩
  · simp only [List.getElem?_map] at hu
    by_cases hq : q < cs.length
    · rw [List.getElem?_range hq] at hu
      simp at hu; subst hu
      rw [Nat.zero_add]
      exact (hf' q hq).1
    · rw [List.getElem?_eq_none (by simp; omega)] at hu; simp at hu
  · have hq : q < cs.length := by have := (List.getElem?_eq_some_iff.1 hu).1; simpa using this
    simp only [List.getElem?_map, List.getElem?_range hq, Option.map_some, Option.some.injEq] at hu
    subst hu
    rw [view_get, Nat.zero_add] at hy
    have hsc := (hf' q hq).2
    rw [List.getD_eq_getElem?_getD] at hsc
    cases hc : (cs.map eC)[q]? with
    | none => rw [hc] at hy; simp at hy
    | some c =>
      rw [hc] at hy hsc
      simp only [Option.map_some, Option.some.injEq] at hy
      subst hy
      exact hsc

theorem view_length (k : Nat) : ∀ (cs : List V) (j : Nat), (view k j cs).length = cs.length
  | [], _ => rfl
  | c :: cs, j => by simp [view, view_length k cs]

theorem slot_ptr {k t : Nat} {b : Bool} {cs : List V} (h : Sim T.globL U w0 F0 σ a w ow) (hs : σ.sl.getD t .dead = .ptr k none 0 0) (hb : σ.ob.getD k .none = .box b cs) : a.tmps.getD t undef = .pointer (some ⟨ow k none, 0, none⟩) := by
  have h1 := h.slots t
  rw [hs] at h1
  rcases h1 with ⟨o', cs'', _, _, e⟩ | ⟨o', z, xs, e, _⟩
  · exact e
  · rw [hb] at e; cases e

theorem retV_ok (hT : TOk P T) (h : Sim T.globL U w0 F0 σ a w ow) {rv : ResultVar} {ty : TypeId} {K : V → List (Nat × Option Nat) → Option Res} (hk : retV T σ rv ty K = some r) :
    ∃ x s u, K x s = some r ∧ (resG a.tmps rv).run P w = .ok u w ∧ ∀ s', (∀ q ∈ s, q ∈ s') → VR w (Fz U w ow (freeze σ.ob s')) u x := by
  cases rv with
  | tmp t =>
    obtain ⟨x, s, hK, hs⟩ := sealV_ok h.ho hk
    exact ⟨x, s, a.tmps.getD t undef, hK, rfl, fun s' hs' => hs s' hs' _ (h.slots t).nrm⟩
  | cell c t =>
    unfold retV at hk
    simp only at hk
    split at hk
    · rename_i k hp
      split at hk
      · rename_i b cs ss hl ht
        obtain ⟨hc, hk2⟩ := bif_some hk
        have hlen := beq_nat.1 hc
        obtain ⟨b', cs', hb', rfl⟩ := lkE_box hl
        obtain ⟨xs, s, hK, hl', hs⟩ := sealCs_ok h.ho hk2
        obtain ⟨ecs, e1, e2, e3⟩ := box_cells h hb'
        rw [List.length_map] at hlen
        rw [nrmCs_length, view_length, List.length_map] at hl'
        refine ⟨_, s, .agg ecs.toArray, hK, ?_, fun s' hs' => ⟨ecs.toArray, rfl, .st (by simp; omega) fun i v x hv hx => ?_⟩⟩
        · have := loadA_fr (w := w) (o := 0) hT ht e2 (by omega)
          simp only [resG, slot_ptr h hp hb', asAddr, Sem.run_bind, Sem.run_pure, Result.andThen_ok]
          simpa [Instr.loadAt, Instr.sureAddr] using this
        · have hv' : ecs[i]? = some v := by simpa using hv
          have hi : i < (view k 0 (cs'.map eC)).length := by
            have := (List.getElem?_eq_some_iff.1 hv').1
            rw [view_length, List.length_map]; omega
          have hy : (view k 0 (cs'.map eC))[i]? = some ((view k 0 (cs'.map eC))[i]'hi) := List.getElem?_eq_getElem hi
          have hi2 : i < (nrmCs ss (view k 0 (cs'.map eC))).length := by rw [nrmCs_length]; exact hi
          have hy2 := List.getElem?_eq_getElem hi2
          obtain ⟨c0, hc0, e0⟩ := nrmCs_get _ _ i hy2
          rw [hy] at hc0
          cases hc0
          refine (hs i x _ hx hy2).2 s' hs' v ?_
          rcases e0 with e0 | ⟨s0, e0⟩
          · rw [e0]; exact e3 i v _ hv' hy
          · rw [e0]; exact (e3 i v _ hv' hy).nrm
      · rename_i b c' s0 hl ht
        obtain ⟨b', cs', hb', he⟩ := lkE_box hl
        obtain ⟨x, s, hK, hs⟩ := sealC_ok h.ho hk
        obtain ⟨ecs, e1, e2, e3⟩ := box_cells h hb'
        rw [← he] at e3
        have hlen : ecs.length = 1 := by rw [e1, ← List.length_map (f := eC), ← he]; rfl
        match ecs, hlen with
        | [u], _ =>
          have hcell := e2 0 u rfl
          refine ⟨x, s, u, hK, ?_, fun s' hs' => ?_⟩
          · simp only [resG, slot_ptr h hp hb', asAddr, Sem.run_bind, Sem.run_pure, Result.andThen_ok]
            simp [loadVar, isAgg_false hT ht, hcell]
          · have h1 := hs.2 s' hs' u (e3 0 u _ rfl rfl)
            rw [hs.1.vr]; exact h1
      · cases hk
    · cases hk

theorem retVs_ok (hT : TOk P T) (h : Sim T.globL U w0 F0 σ a w ow) : ∀ {rs : List ResultVar} {ts : List TypeId} {K : List V → List (Nat × Option Nat) → Option Res}, retVs T σ rs ts K = some r →
    ∃ xs s us, K xs s = some r ∧ (rs.mapM (resG a.tmps)).run P w = .ok us w ∧ us.length = xs.length ∧ xs.length = rs.length ∧ ∀ s', (∀ q ∈ s, q ∈ s') → ∀ (i : Nat) u x, us[i]? = some u → xs[i]? = some x → VR w (Fz U w ow (freeze σ.ob s')) u x
  | [], ts, K, hk => ⟨[], [], [], hk, by simp, rfl, rfl, fun s' _ i u x hu => by simp at hu⟩
  | rv :: rs, ts, K, hk => by
    unfold retVs at hk
    obtain ⟨x, s, u, h1, h2, h3⟩ := retV_ok hT h hk
    obtain ⟨xs, s2, us, g1, g2, g3, g4, g5⟩ := retVs_ok hT h h1
    refine ⟨x :: xs, s ++ s2, u :: us, g1, ?_, by simp [g3], by simp [g4], fun s' hs' i u' x' hu hx => ?_⟩
    · rw [List.mapM_cons]
      simp [h2, g2]
    · cases i with
      | zero =>
        simp at hu hx
        subst hu; subst hx
        exact h3 s' fun q hq => hs' q (List.mem_append_left _ hq)
      | succ i => exact g5 s' (fun q hq => hs' q (List.mem_append_right _ hq)) i u' x' (by simpa using hu) (by simpa using hx)
end
end Go.Proofs.YtmddfhjgdhjmkaaDoor.VM

/- The abstract machine and the memory: calls of functions, to any depth. -/
set_option linter.unusedVariables false
set_option linter.unusedSimpArgs false
namespace Go.Proofs.YtmddfhjgdhjmkaaDoor.VM

section
variable {P : Program} {T : TT} {U : Nat → Prop} {w0 w : World} {F0 : Fr} {σ : St} {a : Act} {ow : Own} {r : Res}

/-- some of the objects: the others are no more -/
theorem HO.part {ob L : List Ob} (h : HO U w ow ob) (hL : ∀ k, L.getD k .none = ob.getD k .none ∨ L.getD k .none = .none) :
    HO U w ow L ∧ (∀ k c, owned L k c → owned ob k c) := by
  have hal : ∀ k c, alive L k c → alive ob k c := fun k c ha => by
    rcases hL k with e | e
    · rw [← alive_congr e c]; exact ha
    · exact absurd ha (alive_none e)
  have how : ∀ k c, owned L k c → owned ob k c := fun k c ha => by
    rcases hL k with e | e
    · rw [← owned_congr e c]; exact ha
    · exact absurd (alive_of_owned ha) (alive_none e)
  refine ⟨⟨fun k => ?_, fun k c k' c' h1 h2 e => h.inj k c k' c' (hal _ _ h1) (hal _ _ h2) e, fun k c h1 => h.lt k c (hal _ _ h1)⟩, how⟩
  rcases hL k with e | e
  · rw [e]
    exact (h.obs k).keep (fun b hb => ⟨⟨hb.1, hb.2.1, fun k c hk => hb.2.2 k c (how k c hk)⟩, rfl⟩) (fun _ => ⟨rfl, rfl⟩) (fun _ _ _ _ _ _ _ _ => ⟨rfl, rfl⟩)
  · rw [e]; trivial

/-- what is handed back -/
structure Back (P : Program) (U : Nat → Prop) (w : World) (ow : Own) (fn : Func) (tmps : Array Value) (vs : List V) (ob : List Ob) (r : Res) : Prop where
  out : ∃ u ow2, (results fn tmps).run P w = .ok u w ∧ HO U w ow2 (resObs vs r) ∧ (∀ (i : Nat) cs, vs[i]? = some (.io cs) → ow2 i none = ow i none ∧ ob.getD i .none ≠ .none) ∧
    (∀ k c, owned (resObs vs r) k c → ∃ k' c', owned ob k' c' ∧ ow k' c' = ow2 k c) ∧ ResR w (Fz U w ow2 (resObs vs r)) ow2 vs.length u r.1

theorem MatchA.le : ∀ {ts : List TypeId} {vs : List V}, MatchA T ts vs → ts.length ≤ vs.length
  | [], _, _ => Nat.zero_le _
  | _ :: _, _ :: _, h => Nat.succ_le_succ (MatchA.le h.2)
  | _ :: _, [], h => h.elim
theorem MatchA.io : ∀ {ts : List TypeId} {vs : List V}, MatchA T ts vs → ∀ (i : Nat) cs, vs[i]? = some (.io cs) → i < ts.length
  | [], vs, h, i, cs, hi => by
    obtain ⟨x, j, e⟩ := h _ (List.mem_of_getElem? hi)
    cases e
  | t :: ts, v :: vs, h, i, cs, hi => by
    cases i with
    | zero => simp
    | succ i => have := MatchA.io h.2 i cs (by simpa using hi); simp only [List.length_cons]; omega
  | _ :: _, [], h, _, _, _ => h.elim

theorem MatchA.ioP : ∀ {ts : List TypeId} {vs : List V}, MatchA T ts vs → ∀ (i : Nat) cs, vs[i]? = some (.io cs) → isP T ts i = true
  | [], vs, h, i, cs, hi => by
    obtain ⟨x, j, e⟩ := h _ (List.mem_of_getElem? hi)
    cases e
  | t :: ts, v :: vs, h, i, cs, hi => by
    cases i with
    | zero =>
      simp at hi
      rcases h.1 with ⟨ss, cs', e1, _⟩ | ⟨_, h2⟩
      · unfold isP; simp [e1]
      · exact absurd hi (h2 cs)
    | succ i =>
      have := MatchA.ioP h.2 i cs (by simpa using hi)
      unfold isP at this ⊢
      simpa using this
  | _ :: _, [], h, _, _, _ => h.elim

theorem outs_alive {ob : List Ob} : ∀ (ts : List TypeId) (args : List V) (i : Nat) {K : List V → Option Res}, MatchA T ts args → outs T ob ts i K = some r → ∀ (j : Nat) cs, args[j]? = some (.io cs) → ob.getD (i + j) .none ≠ .none
  | [], caps, i, K, hm, h, j, cs, hj => by
    obtain ⟨y, q, e⟩ := hm _ (List.mem_of_getElem? hj); cases e
  | t :: ts, a :: args, i, K, hm, h, j, cs, hj => by
    obtain ⟨hm1, hm2⟩ := hm
    unfold outs at h
    rcases hm1 with ⟨ss, cs, hty, rfl⟩ | ⟨hty, hni⟩
    · rw [hty] at h
      simp only at h
      split at h
      · rename_i cs' hb
        cases j with
        | zero => rw [Nat.add_zero, hb]; simp
        | succ j =>
          have := outs_alive ts args (i + 1) hm2 h j _ (by simpa using hj)
          rw [show i + 1 + j = i + (j + 1) by omega] at this
          exact this
      · cases h
    · have h' : outs T ob ts (i + 1) K = some r := by
        split at h
        · rename_i ss e; exact absurd e (hty ss)
        · exact h
      cases j with
      | zero => simp at hj; exact absurd hj (hni cs)
      | succ j =>
        have := outs_alive ts args (i + 1) hm2 h' j cs (by simpa using hj)
        rw [show i + 1 + j = i + (j + 1) by omega] at this
        exact this
  | t :: ts, [], i, K, hm, h, _, _, _ => hm.elim

theorem kret_ok (hT : TOk P T) {fn : Func} {vs : List V} (hm : MatchA T fn.params.toList vs) (h : Sim T.globL U w0 F0 σ a w ow) {e : Ex} (hk : kret T fn e σ = some r) : ∃ s, Back P U w ow fn a.tmps vs (freeze σ.ob s) r := by
  have hlen := hm.le
  have low : ∀ (v : V) (os : List V) (j : Nat), j < vs.length → (resObs vs (v, os)).getD j .none = (backObs vs os).getD j .none := fun v os j hj => by
    unfold resObs
    rw [List.getD_eq_getElem?_getD, List.getD_eq_getElem?_getD, List.getElem?_append_left (by rw [backObs_length]; exact hj)]
  have high : ∀ (v : V) (os : List V) (j : Nat), vs.length < j → (resObs vs (v, os)).getD j .none = .none := fun v os j hj => by
    rw [List.getD_eq_getElem?_getD, List.getElem?_eq_none]
    · rfl
    · unfold resObs; simp only [List.length_append, backObs_length, List.length_cons, List.length_nil]; omega
  -- plain results
  have plain : (retVs T σ fn.results.toList fn.resultTypes.toList fun xs s => outs T (freeze σ.ob s) fn.params.toList 0 fun os => some ((match xs with | [v] => v | xs => .tup xs), os)) = some r → ∃ s, Back P U w ow fn a.tmps vs (freeze σ.ob s) r := fun hp => by
    obtain ⟨xs, s, us, h1, h2, h3, h4, h5⟩ := retVs_ok hT h hp
    have hal := outs_alive _ vs 0 hm h1
    obtain ⟨os, hK, hos⟩ := outs_ok _ vs 0 hm h1
    simp only [Option.some.injEq] at hK
    subst hK
    have hrun : (fn.results.mapM (resG a.tmps)).run P w = .ok us.toArray w := by
      rw [Array.mapM_eq_mapM_toList]; simp [h2]
    have hV := h5 s (fun _ hq => hq)
    have hnio : ∀ cs, (match xs with | [v] => v | xs => V.tup xs) ≠ .io cs := fun cs => by
      match xs, us, h3 with
      | [v], [u], _ =>
        have := hV 0 u v rfl rfl
        exact this.notIo cs
      | [], _, _ => simp
      | _ :: _ :: _, _, _ => simp
    have hob : ∀ k, (resObs vs ((match xs with | [v] => v | xs => V.tup xs), os)).getD k .none = ((freeze σ.ob s).map unOb).getD k .none ∨ (resObs vs ((match xs with | [v] => v | xs => V.tup xs), os)).getD k .none = .none := fun k => by
      rcases Nat.lt_trichotomy k vs.length with hk | hk | hk
      · rw [low _ _ _ hk, hos k]
        split
        · rw [Nat.zero_add, getD_un]; exact .inl rfl
        · exact .inr rfl
      · subst hk
        rw [getD_res]
        exact .inr (obArg_none hnio)
      · exact .inr (high _ _ _ hk)
    obtain ⟨hho, how'⟩ := (h.freeze s).ho.un.part hob
    have how : ∀ k c, owned (resObs vs ((match xs with | [v] => v | xs => V.tup xs), os)) k c → owned (freeze σ.ob s) k c := fun k c hk => (owned_un _ k c).1 (how' k c hk)
    refine ⟨s, ⟨if hs : us.toArray.size = 1 then us.toArray[0] else .tuple us.toArray, ow, ?_, hho, fun i cs hi => ⟨rfl, by have := hal i cs hi; rwa [Nat.zero_add] at this⟩, fun k c hk => ⟨k, c, how k c hk, rfl⟩, ?_⟩⟩
    · rw [results_eq]
      simp [hrun]
    · have hA : ∀ b, Fz U w ow (freeze σ.ob s) b → Fz U w ow (resObs vs ((match xs with | [v] => v | xs => V.tup xs), os)) b := fun b hb => ⟨hb.1, hb.2.1, fun k c hk => hb.2.2 k c (how k c hk)⟩
      match xs, us, h3, hV, hnio, hA with
      | [v], [u], _, hV, hnio, hA =>
        have h6 := (hV 0 u v rfl rfl).mono (w' := w) (fun _ _ => rfl) hA
        by_cases ht : ∃ ts, v = .tup ts
        · obtain ⟨ts, rfl⟩ := ht
          have h7 : FR w (Fz U w ow (freeze σ.ob s)) [u] (.tup ts) := hV 0 u _ rfl rfl
          cases h7
        · show ResR w _ ow vs.length u v
          rw [resR_vr hnio (fun ts e => ht ⟨ts, e⟩)]
          exact h6
      | [], [], _, _, _, _ => exact ⟨#[], rfl, rfl, fun j q y hq => by simp at hq⟩
      | x1 :: x2 :: xs, u1 :: u2 :: us, h3, hV, _, hA =>
        refine ⟨(u1 :: u2 :: us).toArray, ?_, by simpa using h3, fun j q y hq hy => (hV j q y (by simpa using hq) hy).mono (fun _ _ => rfl) hA⟩
        rw [dif_neg (by simp)]
  have boxed : ∀ t k, fn.results.toList = [.tmp t] → σ.sl.getD t .dead = .ptr k none 0 0 → (bif Nat.ble fn.params.size k then match σ.ob.getD k .none with
        | .box true cs => sealCs (lkE σ) (view k 0 (cs.map eC)) fun cs s => match (freeze σ.ob s).getD k .none with
          | .box true _ => outs T (freeze σ.ob s) fn.params.toList 0 fun os => some (.io cs, os)
          | _ => none
        | _ => none else none) = some r → ∃ s, Back P U w ow fn a.tmps vs (freeze σ.ob s) r := fun t k hres hsl hk => by
    obtain ⟨hle, hk1⟩ := bif_some hk
    have hle := Nat.le_of_ble_eq_true hle
    split at hk1
    · rename_i cs hb
      obtain ⟨xs, s, hk2, hl, hs⟩ := sealCs_ok h.ho hk1
      split at hk2
      · rename_i cs2 hfz
        have hal := outs_alive _ vs 0 hm hk2
        obtain ⟨os, hK, hos⟩ := outs_ok _ vs 0 hm hk2
        simp only [Option.some.injEq] at hK
        subst hK
        obtain ⟨ecs, e1, e2, e3⟩ := box_cells h hb
        rw [view_length, List.length_map] at hl
        have hallC : ∀ c ∈ xs, isC c := fun c hc => by
          obtain ⟨j, hj, rfl⟩ := List.getElem_of_mem hc
          have hi : j < (view k 0 (cs.map eC)).length := by rw [view_length, List.length_map]; omega
          exact (hs j _ _ (List.getElem?_eq_getElem hj) (List.getElem?_eq_getElem hi)).1
        have h2ho := (h.freeze s).ho.un
        have hfz' : ((freeze σ.ob s).map unOb).getD k .none = .box true (cs2.map unO) := by rw [getD_un, hfz]; rfl
        have hlow : ∀ j, j < vs.length → (resObs vs (.io xs, os)).getD j .none = ((freeze σ.ob s).map unOb).getD j .none ∧ j < fn.params.size ∨ (resObs vs (.io xs, os)).getD j .none = .none := fun j hj => by
          rw [low _ _ _ hj, hos j]
          split
          · rename_i cs' hj'
            rw [Nat.zero_add, getD_un]
            exact .inl ⟨rfl, by simpa using hm.io j cs' hj'⟩
          · exact .inr rfl
        have hn : (resObs vs (.io xs, os)).getD vs.length .none = .box true xs := getD_res
        let ow2 : Own := upd ow vs.length fun _ => ow k none
        -- where an object of the result was
        have hwas : ∀ j c, alive (resObs vs (.io xs, os)) j c → (j < vs.length ∧ j < fn.params.size ∧ (resObs vs (.io xs, os)).getD j .none = ((freeze σ.ob s).map unOb).getD j .none ∧ ow2 j c = ow j c) ∨ (j = vs.length ∧ c = none ∧ ow2 j c = ow k none) := fun j c ha => by
          rcases Nat.lt_trichotomy j vs.length with hj | hj | hj
          · rcases hlow j hj with ⟨e, hp⟩ | e
            · exact .inl ⟨hj, hp, e, upd_other _ _ _ (by omega)⟩
            · exact absurd ha (alive_none e)
          · subst hj
            exact .inr ⟨rfl, alive_box hn hallC ha, upd_same _ _ _ _⟩
          · exact absurd ha (alive_none (high _ _ _ hj))
        have hkal : alive ((freeze σ.ob s).map unOb) k none := by unfold alive; rw [hfz']; trivial
        have hkow : owned (freeze σ.ob s) k none := by unfold owned; rw [hfz]
        have howned : ∀ j c, owned (resObs vs (.io xs, os)) j c → ∃ k' c', owned (freeze σ.ob s) k' c' ∧ ow k' c' = ow2 j c := fun j c ho => by
          rcases hwas j c (alive_of_owned ho) with ⟨_, _, e, e2⟩ | ⟨_, rfl, e2⟩
          · exact ⟨j, c, (owned_un _ j c).1 (by rw [← owned_congr e c]; exact ho), e2.symm⟩
          · exact ⟨k, none, hkow, e2.symm⟩
        have hA : ∀ b, Fz U w ow (freeze σ.ob s) b → Fz U w ow2 (resObs vs (.io xs, os)) b := fun b hb => ⟨hb.1, hb.2.1, fun j c ho => by
          obtain ⟨k', c', g1, g2⟩ := howned j c ho
          rw [← g2]; exact hb.2.2 k' c' g1⟩
        refine ⟨s, ⟨a.tmps.getD t undef, ow2, ?_, ⟨fun j => ?_, fun j c j' c' h1 h3 he => ?_, fun j c h1 => ?_⟩, fun i cs' hi => ⟨upd_other _ _ _ (by have := (List.getElem?_eq_some_iff.1 hi).1; omega), by have := hal i cs' hi; rwa [Nat.zero_add] at this⟩, howned, ?_⟩⟩
        · have : fn.results = #[.tmp t] := by
            have := congrArg List.toArray hres
            simpa using this
          exact results_tmp this a.tmps P w
        · rcases Nat.lt_trichotomy j vs.length with hj | hj | hj
          · rcases hlow j hj with ⟨e, _⟩ | e
            · rw [e]
              have := h2ho.obs j
              exact this.keep (fun b hb => ⟨hA b ((Fz.un _ b).1 hb), rfl⟩) (fun _ => ⟨upd_other _ _ _ (by omega), rfl⟩) (fun _ _ _ _ _ _ _ _ => ⟨upd_other _ _ _ (by omega), rfl⟩)
            · rw [e]; trivial
          · subst hj
            rw [hn]
            have hor := h.ho.obs k
            rw [hb] at hor
            refine ⟨by rw [show ow2 vs.length none = ow k none from upd_same _ _ _ _, hl]; exact hor.1, fun q v x hv hx => ?_⟩
            rw [show ow2 vs.length none = ow k none from upd_same _ _ _ _] at hv
            have hq : q < xs.length := (List.getElem?_eq_some_iff.1 hx).1
            have hqe : q < ecs.length := by omega
            have hec := e2 q _ (List.getElem?_eq_getElem hqe)
            rw [Nat.zero_add] at hec
            rw [hec] at hv
            cases hv
            have hi : q < (view k 0 (cs.map eC)).length := by rw [view_length, List.length_map]; omega
            obtain ⟨g1, g2⟩ := hs q x _ hx (List.getElem?_eq_getElem hi)
            rw [g1.bc]
            exact (g2 s (fun _ hq => hq) _ (e3 q _ _ (List.getElem?_eq_getElem hqe) (List.getElem?_eq_getElem hi))).mono (fun _ _ => rfl) hA
          · rw [high _ _ _ hj]; trivial
        · rcases hwas j c h1 with ⟨a1, a2, a3, a4⟩ | ⟨a1, a2, a4⟩ <;> rcases hwas j' c' h3 with ⟨b1, b2, b3, b4⟩ | ⟨b1, b2, b4⟩
          · rw [a4, b4] at he
            exact h2ho.inj j c j' c' (by rw [← alive_congr a3 c]; exact h1) (by rw [← alive_congr b3 c']; exact h3) he
          · rw [a4, b4] at he
            have := (h2ho.inj j c k none (by rw [← alive_congr a3 c]; exact h1) hkal he).1
            omega
          · rw [a4, b4] at he
            have := (h2ho.inj k none j' c' hkal (by rw [← alive_congr b3 c']; exact h3) he).1
            omega
          · exact ⟨by omega, by rw [a2, b2]⟩
        · rcases hwas j c h1 with ⟨a1, a2, a3, a4⟩ | ⟨a1, a2, a4⟩
          · rw [a4]; exact h2ho.lt j c (by rw [← alive_congr a3 c]; exact h1)
          · rw [a4]; exact h2ho.lt k none hkal
        · show a.tmps.getD t undef = .pointer (some ⟨ow2 vs.length none, 0, none⟩)
          rw [show ow2 vs.length none = ow k none from upd_same _ _ _ _]
          exact slot_ptr h hsl hb
      · cases hk2
    · cases hk1
  have main : (let fin (v : V) (s : List (Nat × Option Nat)) : Option Res := outs T (freeze σ.ob s) fn.params.toList 0 fun os => some (v, os)
    let plain : Option Res := retVs T σ fn.results.toList fn.resultTypes.toList fun vs s => fin (match vs with | [v] => v | vs => .tup vs) s
    match fn.results.toList with
    | [.tmp t] => match σ.sl.getD t .dead with
      | .ptr k none 0 0 => bif Nat.ble fn.params.size k then match σ.ob.getD k .none with
        | .box true cs => sealCs (lkE σ) (view k 0 (cs.map eC)) fun cs s => match (freeze σ.ob s).getD k .none with
          | .box true _ => fin (.io cs) s
          | _ => none
        | _ => none else none
      | _ => plain
    | _ => plain) = some r := by cases e <;> first | exact hk | cases hk
  simp only at main
  split at main
  · rename_i t hres
    split at main
    · rename_i k hsl
      exact boxed t k hres hsl main
    · exact plain main
  · exact plain main

theorem HO.congr {ob L : List Ob} (h : HO U w ow ob) (hL : ∀ k, L.getD k .none = ob.getD k .none) : HO U w ow L := (h.part fun k => .inl (hL k)).1
theorem Fz.congr {ob L : List Ob} (hL : ∀ k, L.getD k .none = ob.getD k .none) (b : Nat) : Fz U w ow L b ↔ Fz U w ow ob b :=
  ⟨fun hb => ⟨hb.1, hb.2.1, fun k c hk => hb.2.2 k c (by rw [owned_congr (hL k) c]; exact hk)⟩, fun hb => ⟨hb.1, hb.2.1, fun k c hk => hb.2.2 k c (by rw [← owned_congr (hL k) c]; exact hk)⟩⟩

/-- A FUNCTION -/
theorem runB_ok (hT : TOk P T) {E : Env} (hE : EnvOk P T E) : CallOk P T.globL (runB T E) where
  fn := fun f vs r h => by
    unfold runB at h
    split at h
    · rename_i fn hf
      split at h
      · rename_i c hb
        exact ⟨fn, c, (hT.fn f fn hf).1, (hT.fn f fn hf).2, hb⟩
      · cases h
    · cases h
  ok := fun f vs r h U w ow cargs hsz hho harg hgl hun => by
    unfold runB at h
    split at h
    · rename_i fn hf
      split at h
      · rename_i c hb
        obtain ⟨hdst, h1⟩ := bif_some h
        obtain ⟨sl, ob, hk, hl1, hl2, hle, hm, hslot, hdead, hob⟩ := init_ok _ vs 0 h1
        refine calls_of_wp (hT.fn f fn hf).1 hb ?_
        have hobF := Fz.congr (U := U) (w := w) (ow := ow) hob
        let F0 : Fr := ⟨ownB (vs.map obArg) ow, fun i => if isP T fn.params.toList i = true then some (ow i none) else none⟩
        have hsim : Sim T.globL U w F0 ⟨sl, ob⟩ { tmps := cargs ++ Array.replicate (fn.ntmps - cargs.size) undef, defers := [] } w ow := by
          refine ⟨by simp only [Array.size_append, Array.size_replicate]; omega, by show ob.length = sl.length; omega, fun i => ?_, hho.congr hob, .refl _ _, fun k c hk => ?_, hun, fun b ⟨k, c, hk, hb⟩ => by rw [← hb]; exact (hho.lt k c (alive_of_owned hk)).2, rfl, hgl.mono fun b hb => ⟨(hobF b).2 hb, rfl⟩, fun k b hk => .inr ?_, fun _ _ ht => ht⟩
          · by_cases hi : i < vs.length
            · have hc : cargs[i]? = some (cargs[i]'(by omega)) := Array.getElem?_eq_getElem (by omega)
              have hv : vs[i]? = some vs[i] := List.getElem?_eq_getElem hi
              have hx : sl[i]? = some (sl[i]'(by omega)) := List.getElem?_eq_getElem (by omega)
              have ha := harg i _ _ hc hv
              have hs := hslot i _ _ hv hx
              rw [Nat.zero_add] at hs
              have e1 : (cargs ++ Array.replicate (fn.ntmps - cargs.size) undef).getD i undef = cargs[i]'(by omega) := by
                rw [Array.getD_eq_getD_getElem?, Array.getElem?_append_left (by omega), hc]; rfl
              have e2 : sl.getD i .dead = sl[i]'(by omega) := by rw [List.getD_eq_getElem?_getD, hx]; rfl
              show SR w (Fz U w ow ob) ow ob ((cargs ++ Array.replicate (fn.ntmps - cargs.size) undef).getD i undef) (sl.getD i .dead)
              rw [e1, e2]
              rcases hs with ⟨hni, hs⟩ | ⟨cs, he, hx'⟩
              · have ha' : VR w (Fz U w ow (vs.map obArg)) (cargs[i]'(by omega)) vs[i] := by
                  revert ha hni
                  generalize vs[i] = y
                  intro ha hni
                  cases y <;> first | exact ha | exact absurd rfl (hni _)
                exact hs _ _ _ _ _ (ha'.mono (fun _ _ => rfl) fun b hb => (hobF b).2 hb)
              · rw [hx']
                rw [he] at ha
                refine .inl ⟨true, cs, ?_, rfl, ha⟩
                rw [hob i, List.getD_eq_getElem?_getD, List.getElem?_map, hv, he]
                rfl
            · show SR w (Fz U w ow ob) ow ob _ (sl.getD i .dead)
              rw [hdead i (by omega)]
              trivial
          · exact .inl ⟨k, c, by rw [← owned_congr (hob k) c]; exact hk, rfl⟩
          · show ow k none = b
            have hk : (if isP T fn.params.toList k = true then some (ow k none) else none) = some b := hk
            split at hk
            · cases hk; rfl
            · cases hk
        refine exC_ok (F0 := F0) hT hE c (fun o ho d hd => ?_) ⟨sl, ob⟩ _ w ow (kret T fn) _ hk hsim fun e σ' a' w' ow' hk' h' => ?_
        · have := List.all_eq_true.1 hdst o ho
          unfold dstGe at this
          rw [hd] at this
          exact if_neg (by simpa using this)
        · obtain ⟨s, ⟨u, ow2, g1, g2, g3, g4, g5⟩⟩ := kret_ok (P := P) hT hm h' hk'
          have hR : a'.defers = [] ∧ ∃ v, (results fn a'.tmps).run P w' = .ok v w' ∧ ∃ u ow', Ending.returned v = .returned u ∧ (Ext w w' (ownB (vs.map obArg) ow) ∧ ∀ b n, Th w b n → Th w' b n) ∧ HO U w' ow' (resObs vs r) ∧
              (∀ (i : Nat) cs, vs[i]? = some (.io cs) → ow' i none = ow i none) ∧
              (∀ k c, owned (resObs vs r) k c → ownB (vs.map obArg) ow (ow' k c) ∨ w.heap.size ≤ ow' k c) ∧
              ResR w' (Fz U w' ow' (resObs vs r)) ow' vs.length u r.1 := by
            refine ⟨h'.defers, u, g1, u, ow2, rfl, ⟨h'.ext, h'.thk⟩, g2, fun i cs hi => ?_, fun k c hk => ?_, g5⟩
            · obtain ⟨e1, e2⟩ := g3 i cs hi
              have hip : isP T fn.params.toList i = true := hm.ioP i cs hi
              have := h'.pin i (ow i none) (by show (if isP T fn.params.toList i = true then some (ow i none) else none) = _; rw [if_pos hip])
              rw [e1]
              refine this.resolve_left fun hn => e2 ?_
              rw [getD_freeze, hn, frzK_none]
            · obtain ⟨k', c', q1, q2⟩ := g4 k c hk
              rw [← q2]
              exact h'.own0 k' c' (owned_freeze s q1).1
          cases e with
          | normal => exact hR
          | ret => exact hR
          | exit id => cases hk'
      · cases h
    · cases h

/-- what is known by contracts -/
def XOk (P : Program) (T : TT) : Prop := ∀ f g, fnd T.extL f = some g → CallOk P T.globL fun f' vs => bif Nat.beq f' f then g vs else none
structure TOk2 (P : Program) (T : TT) : Prop extends TOk P T where
  ext : XOk P T
theorem runF_ok (hT : TOk2 P T) {E : Env} (hE : EnvOk P T E) : CallOk P T.globL (runF T E) where
  fn := fun f vs r h => by
    unfold runF at h
    split at h
    · rename_i g hg
      exact (hT.ext f g hg).fn f vs r (by rw [Nat.beq_refl]; exact h)
    · exact (runB_ok hT.toTOk hE).fn f vs r h
  ok := fun f vs r h => by
    unfold runF at h
    split at h
    · rename_i g hg
      exact (hT.ext f g hg).ok f vs r (by rw [Nat.beq_refl]; exact h)
    · exact (runB_ok hT.toTOk hE).ok f vs r h

/-! ### to any depth -/
theorem least {p : Nat → Prop} (h : ∃ n, p n) : ∃ n, p n ∧ ∀ m, m < n → ¬ p m := by
  classical
  obtain ⟨n, hn⟩ := h
  induction n using Nat.strongRecOn with
  | ind n ih =>
    by_cases hm : ∃ m, m < n ∧ p m
    · obtain ⟨m, h1, h2⟩ := hm
      exact ih m h1 h2
    · exact ⟨n, hn, fun m hlt hp => hm ⟨m, hlt, hp⟩⟩
noncomputable def lst (p : Nat → Prop) : Nat := by
  classical
  exact if h : ∃ n, p n then Classical.choose (least h) else 0
theorem lst_spec {p : Nat → Prop} (h : ∃ n, p n) : p (lst p) ∧ ∀ m, p m → lst p ≤ m := by
  unfold lst
  rw [dif_pos h]
  obtain ⟨h1, h2⟩ := Classical.choose_spec (least h)
  exact ⟨h1, fun m hm => Nat.not_lt.1 fun hlt => h2 m hlt hm⟩
theorem exE_ok (hT : TOk2 P T) (hL : ∀ call, CallOk P T.globL call → LoudOk P T call) : ∀ n, EnvOk P T (exE T n)
  | 0 => by
    have hc : CallOk P T.globL (exE T 0).call := ⟨fun f vs r h => (by cases h), fun f vs r h => (by cases h)⟩
    exact ⟨hc, hL _ hc, fun kp b σ K r h => (by cases h)⟩
  | n + 1 => by
    have ih := exE_ok hT hL n
    have hc : CallOk P T.globL (exE T (n + 1)).call := runF_ok hT ih
    refine ⟨hc, hL _ hc, fun kp b σ K r hk U w0 F0 a w ow Q hpn h hQ => ?_⟩
    -- rounds: so many as are left
    let Left : Act → World → Nat → Prop := fun a w m => m ≤ n + 1 ∧ ∃ σ ow, (exE T m).loop kp b σ K = some r ∧ Sim T.globL U w0 F0 σ a w ow
    refine wp_loop (fun a w => ∃ m, Left a w m) (fun a w => lst (Left a w)) ⟨n + 1, Nat.le_refl _, σ, ow, hk, h⟩ fun a w hI => ?_
    obtain ⟨⟨hle, σ1, ow1, hk1, h1⟩, _⟩ := lst_spec hI
    generalize hm : lst (Left a w) = m at hle hk1
    cases m with
    | zero => cases hk1
    | succ m =>
      have hk2 : exC T (exE T m) kp b σ1 (fun e σ => match e with
        | .normal => (exE T m).loop kp b (lpClean kp b σ) K
        | e => K e σ) = some r := hk1
      have hEm : EnvOk P T (exE T m) := exE_ok hT hL m
      refine exC_ok hT.toTOk hEm b hpn σ1 a w ow1 _ _ hk2 h1 fun e σ' a' w' ow' hk' h' => ?_
      cases e with
      | normal =>
        have hI' : Left a' w' m := ⟨by omega, _, ow', hk', h'.lpClean kp b⟩
        refine ⟨⟨m, hI'⟩, ?_⟩
        exact Nat.lt_succ_of_le ((lst_spec ⟨m, hI'⟩).2 m hI')
      | exit id => exact hQ (.exit id) σ' a' w' ow' hk' h'
      | ret => exact hQ .ret σ' a' w' ow' hk' h'
termination_by n => n
decreasing_by all_goals omega
end
end Go.Proofs.YtmddfhjgdhjmkaaDoor.VM
