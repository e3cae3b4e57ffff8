/- The abstract machine and the memory: a row goes into a box; the store. -/
import Derived.Test.YtmddfhjgdhjmkaaDoorVMS19
set_option linter.unusedVariables false
set_option linter.unusedSimpArgs false
namespace Go.Proofs.YtmddfhjgdhjmkaaDoor.VM

section
variable {P : Program} {T : TT} {U : Nat → Prop} {w0 w w' : World} {F0 : Fr} {σ σ' : St} {a : Act} {ow ow' : Own} {o : Oper} {r : Res}

theorem kil_r2 (w : World) (ow : Own) (σ : St) (k k' : Nat) (c c' : Option Nat) : KilR w ow σ (kil (kil σ k' c') k c) (fun q => q = (k', c') ∨ q = (k, c)) :=
  (kil_r w ow σ k' c').comp (kil_r w ow (kil σ k' c') k c) fun i q h => kil_keeps k c i q h

theorem mvR_ok (hT : TOk P T) (h : Sim T.globL U w0 F0 σ a w ow) {t : TypeId} {sh : Sh} (ht : T.ty t = .c sh) {u v : Value} {k j k' : Nat} {c' m : Option Nat} {b0 : Bool} {cs0 : List V} (hb0 : σ.ob.getD k .none = .box b0 cs0)
    (hu : SR w (Fz U w ow σ.ob) ow σ.ob u (.ptr k none 0 j)) (hv : SR w (Fz U w ow σ.ob) ow σ.ob v (.ref k' c' m)) {K : St → Option Res} (hk : mvR σ k j k' c' m K = some r) :
    ∃ σ' w' ow', K σ' = some r ∧ (Instr.storeAt t u v).run P w = .ok () w' ∧ Sim T.globL U w0 F0 σ' a w' ow' := by
  unfold mvR at hk
  split at hk
  · rename_i z xs hr
    simp only at hk
    split at hk
    · rename_i cs hb
      obtain ⟨hjl, hK⟩ := bif_some hk
      rw [Nat.blt_eq] at hjl
      have hkr := kil_r2 w ow σ k k' (some j) c'
      generalize hσ : kil (kil σ k' c') k (some j) = σ1 at hb hK hkr
      obtain ⟨o3, z3, xs3, cp, f1, f2, f3, f4, f5⟩ := hv
      have hr' : obRow (fun k => σ.ob.getD k .none) k' c' = some (true, z, xs) := hr
      rw [hr'] at f1
      cases f1
      have howd' := owned_row hr
      have hal' := alive_of_owned howd'
      have hkn1 : owned σ1.ob k none := by unfold owned; rw [hb]
      have hkn := hkr.owd k none hkn1
      have hkal := alive_of_owned hkn
      have hp := ptr_box hu hb0
      have hne : (k', c') ≠ (k, none) := fun e => by
        cases e
        rw [show σ.ob.getD k .none = .row true z xs from obRow_none.1 hr] at hb0; cases hb0
      have hgne : ow k' c' ≠ ow k none := fun e => hne (by obtain ⟨e1, e2⟩ := h.ho.inj _ _ _ _ hal' hkal e; rw [e1, e2])
      have hor1 := fun A hA => hkr.or k A hA
      obtain ⟨hth0, hcells⟩ : OR w (Fz U w ow σ.ob) ow k (.box true cs) := by have := hkr.or k _ (h.ho.obs k); rwa [hb] at this
      have hth : ∀ q, q < [v].length → (w.cell? ⟨ow k none, j + q, none⟩).isSome = true ∧ w.frozen? ⟨ow k none, j + q, none⟩ = false := fun q hq => by
        have := hth0 (j + q) (by simp at hq; omega)
        rwa [Nat.zero_add] at this
      obtain ⟨hx, hTh⟩ := ext_setCells (w := w) (g := ow k none) (o := j) (vs := [v]) (F := ownB σ.ob ow) ⟨k, none, hkn, rfl⟩ (fun q hq => (hth q hq).1)
      have hblk : ∀ kk c, alive σ.ob kk c → (kk, c) ≠ (k, none) → (w.setCells (ow k none) j [v]).heap[ow kk c]? = w.heap[ow kk c]? := fun kk c ha hne =>
        World.heap_setCells_other w _ _ _ (h.ho.lt kk c ha).1 fun e => hne (by
          obtain ⟨e1, e2⟩ := h.ho.inj kk c k none ha hkal e
          rw [e1, e2])
      have hkl := lt_of_ob (σ := σ) (k := k) (by rw [hb0]; simp)
      have hsame : (σ1.ob.set k (.box true (cs.set j (.own true z (cut xs m))))).getD k .none = .box true (cs.set j (.own true z (cut xs m))) := getD_set_ob_same _ _ (by rw [hkr.obl]; exact hkl)
      have hnal : ¬ alive σ1.ob k' c' := fun ha => by
        rw [← hσ] at ha
        exact kil_dead k' c' hr ((kil_r w ow (kil σ k' c') k (some j)).al _ _ ha)
      obtain ⟨dd, ii, hd, hrow, hi, hs, _⟩ := hT.tyc t sh ht
      refine ⟨_, w.setCells (ow k none) j [v], _, hK, ?_, h.rekey hx hTh hkr k (some j) _ (ow k' c') hkl (.inr rfl) (fun c hc => ?_) (fun c hc => ?_) (fun c hc => ?_) ⟨Nat.lt_of_lt_of_le (h.ho.lt _ _ hal').1 hx.size, (h.ho.lt _ _ hal').2, .inl ⟨k', c', howd', rfl⟩⟩
        (fun kk c ha hne' e => ?_) (fun kk c hkk ha => hblk kk c (hkr.al _ _ ha) (fun e => hkk (by cases e; rfl))) (fun A' hA => ?_) (fun b hb' => ⟨by simp, by rw [hb]; simp⟩)⟩
      · rw [hp]
        have hcs : v.cells = #[v] := by rw [f2]; rfl
        have := run_store_gen (P := P) (w := w) (g := ow k none) (o := j) (v := v) hi (by rw [hcs, hs]; rfl) (by rw [hcs]; intro u hu; simp at hu; subst hu; rw [f2]; rfl) (fun q hq => hth q (by rw [hcs] at hq; simpa using hq))
        rw [hcs] at this
        exact this
      · cases c with
        | none => exact .inr (alive_of_owned hkn1)
        | some i =>
          obtain ⟨o', z', xs', hi'⟩ := hc
          by_cases hij : i = j
          · exact .inl (by rw [hij])
          · refine .inr ?_
            rw [List.getElem?_set_ne (Ne.symm hij)] at hi'
            unfold alive; rw [hb]; exact ⟨o', z', xs', hi'⟩
      · cases c with
        | none => exact .inr hkn1
        | some i =>
          obtain ⟨z', xs', hi'⟩ := hc
          by_cases hij : i = j
          · exact .inl (by rw [hij])
          · refine .inr ?_
            rw [List.getElem?_set_ne (Ne.symm hij)] at hi'
            unfold owned; rw [hb]; exact ⟨z', xs', hi'⟩
      · cases c with
        | none => unfold sameK same1; rw [hb]; exact ⟨true, _, hsame, by simp, rfl⟩
        | some i =>
          intro o0 z0 x0 h0
          obtain ⟨b', cs', e1, e2⟩ := obRow_some.1 h0
          have e1 : σ1.ob.getD k .none = .box b' cs' := e1
          rw [hb] at e1
          cases e1
          refine ⟨o0, x0, obRow_some.2 ⟨true, _, hsame, ?_⟩, rfl, rfl⟩
          rw [List.getElem?_set_ne (fun e => hc (by rw [e]))]
          exact e2
      · obtain ⟨e1, e2⟩ := h.ho.inj _ _ _ _ (hkr.al _ _ ha) hal' e
        exact hnal (by rw [← e1, ← e2]; exact ha)
      · have e0 : rek ow k (some j) (ow k' c') k none = ow k none := rek_other (by simp)
        refine ⟨by rw [e0, List.length_set]; exact hTh _ _ hth0, fun q y x hy hx' => ?_⟩
        rw [e0] at hy
        rw [getElem?_set_V] at hx'
        by_cases hqj : q = j
        · subst hqj
          rw [if_pos ⟨rfl, hjl⟩] at hx'
          cases hx'
          have hc := cell_in (w := w) (g := ow k none) (o := q) (vs := [v]) (fun q hq => (hth q hq).1) (j := 0) rfl
          rw [Nat.add_zero] at hc
          rw [hc] at hy
          cases hy
          have e1 : rek ow k (some q) (ow k' c') k (some q) = ow k' c' := rek_same ⟨rfl, rfl⟩
          refine ⟨cp, by rw [e1, f2, length_cut f3], by rw [length_cut f3]; exact f4, by rw [e1]; exact hTh _ _ f5, fun i x hi' => ?_⟩
          obtain ⟨cc, hrow'⟩ := h.ho.row hr'
          obtain ⟨ecs, g1, g2, g3⟩ := hrow'.at_ i x (getElem?_cut hi')
          rw [e1]
          exact ⟨ecs, g1, g2.mono (hblk k' c' hal' hne), g3.mono (fun b hb => (hA b hb).2) (fun b hb => (hA b hb).1)⟩
        · rw [if_neg (fun hh => hqj hh.1)] at hx'
          rw [cell_out (by simp only [List.length_cons, List.length_nil]; omega)] at hy
          refine (hcells q y x hy hx').keep hA fun o0 z0 x0 hxe => ⟨rek_other (by simp; omega), hblk k (some q) (hkr.al _ _ (aliveBox hb (hxe ▸ hx'))) (by simp)⟩
    · cases hk
  · cases hk

/-- what was nothing is so when it was made fit -/
theorem sealV_nil {R : Type} {rr : R} (h : HO U w ow σ.ob) {v : V} {K : V → List (Nat × Option Nat) → Option R} {ty : TypeId} (hk : sealV (lkE σ) (nrmV T ty v) K = some rr) :
    ∃ x s, K x s = some rr ∧ SealOk U w ow σ.ob v x s ∧ ∀ s', (∀ q ∈ s, q ∈ s') → ∀ u, SR w (Fz U w ow σ.ob) ow σ.ob u v → ∀ (q : Nat), (srcC v)[q]? = some V.nil → ∀ a, u.cells.toList[q]? = some a → FR w (Fz U w ow (freeze σ.ob s')) [a] .nil := by
  obtain ⟨x, s, h1, h2⟩ := sealV_ok h hk
  refine ⟨x, s, h1, fun s' hs' u hu => h2 s' hs' u hu.nrm, fun s' hs' u hu q hq a ha => ?_⟩
  cases v <;> first | (simp [srcC] at hq; done) | skip
  rename_i cs
  have hq : cs[q]? = some .nil := hq
  obtain ⟨arr, rfl, e2, e3⟩ := hu
  have ha : arr[q]? = some a := by simpa [Value.cells] using ha
  have hf : FR w (Fz U w ow σ.ob) [a] .nil := e3 q a _ ha hq
  exact hf.mono (fun _ _ => rfl) (fun _ hb => Fz.freeze hb)
theorem sto_ok (hT : TOk P T) (h : Sim T.globL U w0 F0 σ a w ow) {t : TypeId} {p q : Operand} (ho : o.op = .store t p q) (hd : o.dst = none) {K : St → Option Res} (hk : sto T σ t (val T σ p) (val T σ q) K = some r) :
    ∃ σ', K σ' = some r ∧ DoneO P T.globL U w0 F0 a w o σ' := by
  have hu := val_sr h p
  have hv := val_sr h q
  unfold sto at hk
  split at hk
  · rename_i k c i j sh hp ht
    have plain : sealC (lkE σ) (val T σ q) (fun x s => wr1 ⟨σ.sl, freeze σ.ob s⟩ k c i j x K) = some r → ∃ σ', K σ' = some r ∧ DoneO P T.globL U w0 F0 a w o σ' := fun he => by
      obtain ⟨x, s, hK, hx, hs⟩ := sealC_ok h.ho he
      have h2 := h.freeze s
      have hu2 : SR w (Fz U w ow (freeze σ.ob s)) ow (freeze σ.ob s) (a.eval p) (.ptr k c i j) := by
        have := val_sr h2 p
        rw [show val T ⟨σ.sl, freeze σ.ob s⟩ p = val T σ p from rfl, hp] at this
        exact this
      have hsc : SC w (Fz U w ow σ.ob) ow σ.ob (a.eval q) (val T σ q) := by
        have hv' := hv
        revert he hv'
        generalize val T σ q = y
        intro he hv'
        cases y <;> first | exact hv' | cases he
      obtain ⟨σ', w', g1, g2, g3⟩ := wr1_ok hT h2 ht hu2 hx (hs s (fun _ hh => hh) _ hsc) hK
      exact ⟨σ', g1, done_store ho hd g2 g3⟩
    simp only at hk
    split at hk
    · rename_i k' c' m hq
      cases hcond : (sto.isBox (σ.ob.getD k .none) && sto.isN c && ownedB σ k' c') with
      | false =>
        rw [hcond] at hk
        exact plain hk
      | true =>
        rw [hcond] at hk
        obtain ⟨hi, hk2⟩ := bif_some hk
        have hi := beq_nat.1 hi
        subst hi
        simp only [Bool.and_eq_true] at hcond
        obtain ⟨⟨hb, hn⟩, _⟩ := hcond
        have hc : c = none := by cases c <;> first | rfl | cases hn
        subst hc
        have : ∃ b0 cs0, σ.ob.getD k .none = .box b0 cs0 := by
          cases hob : σ.ob.getD k .none with
          | box b0 cs0 => exact ⟨b0, cs0, rfl⟩
          | _ => rw [hob] at hb; cases hb
        obtain ⟨b0, cs0, hb0⟩ := this
        rw [hp] at hu
        rw [hq] at hv
        obtain ⟨σ', w', ow', g1, g2, g3⟩ := mvR_ok hT h ht hb0 hu hv hk2
        exact ⟨σ', g1, done_store ho hd g2 g3⟩
    · exact plain hk
  · rename_i k c i j ss hp ht
    simp only at hk
    obtain ⟨x, s, hK, hs, hns⟩ := sealV_nil h.ho hk
    have h2 := h.freeze s
    have hu2 : SR w (Fz U w ow (freeze σ.ob s)) ow (freeze σ.ob s) (a.eval p) (.ptr k c i j) := by
      have := val_sr h2 p
      rw [show val T ⟨σ.sl, freeze σ.ob s⟩ p = val T σ p from rfl, hp] at this
      exact this
    obtain ⟨σ', w', g1, g2, g3⟩ := wrN_ok hT h2 ht hu2 (hs s (fun _ hh => hh) _ hv) (fun q hq u hu => hns s (fun _ hh => hh) _ hv q hq u hu) hK
    exact ⟨σ', g1, done_store ho hd g2 g3⟩
  · cases hk
end
end Go.Proofs.YtmddfhjgdhjmkaaDoor.VM
