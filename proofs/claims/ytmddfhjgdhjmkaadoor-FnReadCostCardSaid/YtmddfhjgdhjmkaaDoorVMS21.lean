/- The abstract machine and the memory: append. -/
import Derived.Test.YtmddfhjgdhjmkaaDoorVMS20
import Derived.Deep.AppendSrc
import Derived.ArgAppend
set_option linter.unusedVariables false
set_option linter.unusedSimpArgs false
namespace Go.Proofs.YtmddfhjgdhjmkaaDoor.VM
open Go.RowKit

section
variable {P : Program} {T : TT} {U : Nat → Prop} {w0 w w' : World} {F0 : Fr} {σ σ' : St} {a : Act} {ow ow' : Own} {o : Oper} {r : Res}

/-- the cells of elements that lie one behind the other -/
theorem rows_cells {A : Nat → Prop} {b off z : Nat} {ys : List V} (hz : 0 < z) (h : ∀ (i : Nat) y, ys[i]? = some y → ∃ ecs, ecs.length = z ∧ At w b (off + i * z) ecs ∧ FR w A ecs y) :
    ∃ news : List Value, news.length = ys.length * z ∧ (∀ (q : Nat) u, news[q]? = some u → w.cell? ⟨b, off + q, none⟩ = some u) ∧ (∀ u ∈ news, u.oneCell' = true) ∧
      ∀ (i : Nat) y, ys[i]? = some y → ∃ ecs, ecs.length = z ∧ FR w A ecs y ∧ ∀ (j : Nat) v, ecs[j]? = some v → news[i * z + j]? = some v := by
  classical
  have key : ∀ i : Nat, ∃ ecs : List Value, ∀ y, ys[i]? = some y → ecs.length = z ∧ At w b (off + i * z) ecs ∧ FR w A ecs y := fun i => by
    cases hi : ys[i]? with
    | none => exact ⟨[], fun y hy => by cases hy⟩
    | some y => obtain ⟨ecs, h1⟩ := h i y hi; exact ⟨ecs, fun y' hy => by cases hy; exact h1⟩
  obtain ⟨ec, hec⟩ := Classical.axiomOfChoice key
  have at_ : ∀ i j, i < ys.length → j < z → ((List.range (ys.length * z)).map fun q => (ec (q / z)).getD (q % z) undef)[i * z + j]? = some ((ec i).getD j undef) := fun i j hi hj => by
    have hlt := mul_add_lt (z := z) hi hj
    have h1 : (i * z + j) / z = i := by rw [Nat.mul_comm, Nat.mul_add_div hz]; simp [Nat.div_eq_of_lt hj]
    have h2 : (i * z + j) % z = j := by rw [Nat.mul_comm, Nat.mul_add_mod]; exact Nat.mod_eq_of_lt hj
    rw [List.getElem?_map, List.getElem?_range hlt]
    simp only [Option.map_some, h1, h2]
  have cellAt : ∀ (q : Nat) u, ((List.range (ys.length * z)).map fun q => (ec (q / z)).getD (q % z) undef)[q]? = some u → ∃ i j y, q = i * z + j ∧ j < z ∧ ys[i]? = some y ∧ (ec i)[j]? = some u := fun q u hu => by
    have hq : q < ys.length * z := by have := (List.getElem?_eq_some_iff.1 hu).1; simpa using this
    have hi : q / z < ys.length := (Nat.div_lt_iff_lt_mul hz).2 hq
    have hj : q % z < z := Nat.mod_lt _ hz
    have hqe : q = (q / z) * z + q % z := by rw [Nat.mul_comm]; exact (Nat.div_add_mod q z).symm
    have hy : ys[q / z]? = some ys[q / z] := List.getElem?_eq_getElem hi
    have hl := (hec _ _ hy).1
    have hu2 := at_ (q / z) (q % z) hi hj
    rw [← hqe, hu] at hu2
    refine ⟨q / z, q % z, _, hqe, hj, hy, ?_⟩
    simp only [Option.some.injEq] at hu2
    rw [hu2, List.getD_eq_getElem?_getD, List.getElem?_eq_getElem (by omega)]
    rfl
  refine ⟨(List.range (ys.length * z)).map fun q => (ec (q / z)).getD (q % z) undef, by simp, fun q u hu => ?_, fun u hu => ?_, fun i y hy => ?_⟩
  · obtain ⟨i, j, y, rfl, hj, hy, hu⟩ := cellAt q u hu
    have := (hec i y hy).2.1 j u hu
    rw [← Nat.add_assoc]; exact this
  · obtain ⟨q, hq, hqe⟩ := List.getElem_of_mem hu
    obtain ⟨i, j, y, _, _, hy, hu'⟩ := cellAt q u (by rw [List.getElem?_eq_getElem hq, hqe])
    exact (hec i y hy).2.2.one u (List.mem_of_getElem? hu')
  · obtain ⟨h1, h2, h3⟩ := hec i y hy
    refine ⟨ec i, h1, h3, fun j v hv => ?_⟩
    have hj : j < z := by have := (List.getElem?_eq_some_iff.1 hv).1; omega
    have hi : i < ys.length := (List.getElem?_eq_some_iff.1 hy).1
    rw [at_ i j hi hj, List.getD_eq_getElem?_getD, hv]
    rfl

theorem asList_src (h : Sim T.globL U w0 F0 σ a w ow) {z : Nat} (hz : 0 < z) {tx e : TypeId} (htx : P.underlying tx = some (.slice e)) {q : Operand} {K : List V → Option Res} (hk : asList (lkE σ) z (val T σ q) K = some r) :
    ∃ ys news, K ys = some r ∧ Src P z tx (a.eval q) ys.length news w ∧ ∀ (i : Nat) y, ys[i]? = some y → ∃ ecs, ecs.length = z ∧ FR w (Fz U w ow σ.ob) ecs y ∧ ∀ (j : Nat) v, ecs[j]? = some v → news[i * z + j]? = some v := by
  have hv := val_sr h q
  unfold asList at hk
  split at hk
  · rename_i z' xs hq
    obtain ⟨hz', hK⟩ := bif_some hk
    cases beq_nat.1 hz'
    rw [hq] at hv
    have hv' : FR w (Fz U w ow σ.ob) [a.eval q] (.sl z xs) := hv
    generalize a.eval q = u at hv'
    cases hv' with
    | sl b off ec hn hc ha hl hx =>
      rename_i ad n c
      subst hn
      rcases Nat.eq_zero_or_pos xs.length with h0 | h0
      · have hx0 : xs = [] := List.eq_nil_of_length_eq_zero h0
        subst hx0
        refine ⟨[], [], hK, ?_, fun i y hy => by simp at hy⟩
        cases ad with
        | none => exact Src.ofNil w htx c
        | some ad => exact Src.ofSlice w htx ad 0 c [] (by simp) (fun j u hu => by simp at hu) (fun u hu => by simp at hu)
      · obtain ⟨rfl, _⟩ := ha h0
        obtain ⟨news, n1, n2, n3, n4⟩ := rows_cells (w := w) (A := Fz U w ow σ.ob) (b := b) (off := off) (ys := xs) hz (fun i y hy => ⟨ec i, (hl i (List.getElem?_eq_some_iff.1 hy).1).1, (hl i (List.getElem?_eq_some_iff.1 hy).1).2, hx i y hy⟩)
        exact ⟨xs, news, hK, Src.ofSlice w htx ⟨b, off, none⟩ _ c news n1 (fun j u hu => by rw [add_addr]; exact n2 j u hu) n3, n4⟩
  · rename_i hq
    rw [hq] at hv
    have hv' : FR w (Fz U w ow σ.ob) [a.eval q] .nil := hv
    generalize a.eval q = u at hv'
    cases hv'
    exact ⟨[], [], hk, Src.ofNil w htx 0, fun i y hy => by simp at hy⟩
  · rename_i k c m hq
    split at hk
    · rename_i oo z' xs hr
      obtain ⟨hz', hK⟩ := bif_some hk
      cases beq_nat.1 hz'
      obtain ⟨o', hr'⟩ := obRow_eO hr
      have hr'' : obRow (fun k => σ.ob.getD k .none) k c = some (o', z, xs) := hr'
      rw [hq] at hv
      obtain ⟨o3, z3, xs3, cp, f1, f2, f3, f4, f5⟩ := hv
      rw [hr''] at f1
      cases f1
      obtain ⟨cc, hrow⟩ := h.ho.row hr''
      obtain ⟨news, n1, n2, n3, n4⟩ := rows_cells (w := w) (A := Fz U w ow σ.ob) (b := ow k c) (off := 0) (ys := cut xs m) hz (fun i y hy => by
        obtain ⟨ecs, g1, g2, g3⟩ := hrow.at_ i y (getElem?_cut hy)
        exact ⟨ecs, g1, by rw [Nat.zero_add]; exact g2, g3⟩)
      refine ⟨cut xs m, news, hK, ?_, n4⟩
      rw [f2, ← length_cut f3]
      exact Src.ofSlice w htx ⟨ow k c, 0, none⟩ _ cp news n1 (fun j u hu => by rw [add_addr]; exact n2 j u hu) n3
    · cases hk
  · cases hk

/-- a new row, or the old one longer, comes under the key d -/
theorem app_end {p : Nat × Option Nat → Prop} (h : Sim T.globL U w0 F0 σ a w ow) (hx : Ext w w' (ownB σ.ob ow)) (hTh : ∀ b n, Th w b n → Th w' b n) (hkr : KilR w ow σ σ' p) {d g z cap : Nat} {zs : List V}
    (hdl : d < σ.ob.length) (hp : ∀ c, p (d, c)) (hd : σ'.ob.getD d .none = .none) (hpn : F0.pn d = none) (hg : g < w'.heap.size ∧ U g ∧ (ownB σ.ob ow g ∨ w.heap.size ≤ g))
    (hgn : ∀ kk c, alive σ'.ob kk c → ow kk c ≠ g) (hblk : ∀ kk c, alive σ'.ob kk c → w'.heap[ow kk c]? = w.heap[ow kk c]?)
    (hrow : ∀ A', (∀ b, Fz U w ow σ.ob b → A' b ∧ w'.heap[b]? = w.heap[b]?) → RowOk w' A' g z zs cap) :
    Sim T.globL U w0 F0 ⟨σ'.sl.set d (.ref d none none), σ'.ob.set d (.row true z zs)⟩ (a.put (some d) (.slice (some ⟨g, 0, none⟩) zs.length cap)) w' (rek ow d none g) := by
  have e0 : rek ow d none g d none = g := rek_same ⟨rfl, rfl⟩
  have hdl' : d < σ'.ob.length := by rw [hkr.obl]; exact hdl
  have h1 := h.rekey hx hTh hkr d none (.row true z zs) g hdl (hp none)
    (fun c hc => by cases c with
      | none => exact .inl rfl
      | some c => exact hc.elim)
    (fun c hc => by cases c with
      | none => exact .inl rfl
      | some c => exact hc.elim)
    (fun c hc => by cases c with
      | none => exact absurd rfl hc
      | some c =>
        intro o z0 x0 h0
        obtain ⟨b, cs, e1, _⟩ := obRow_some.1 h0
        rw [show σ'.ob.getD d .none = .box b cs from e1] at hd; cases hd)
    hg (fun kk c ha _ => hgn kk c ha) (fun kk c _ ha => hblk kk c ha) (fun A' hA => ⟨cap, by rw [e0]; exact hrow A' hA⟩) (fun b hb => by rw [hpn] at hb; cases hb)
  refine h1.put d fun _ => ?_
  have hr := hrow (fun b => True) (fun b hb => ⟨trivial, hx.block b hb.2.1 fun ⟨k, c, hk, e⟩ => hb.2.2 k c hk e⟩)
  refine ⟨true, z, zs, cap, obRow_none.2 (getD_set_ob_same _ _ hdl'), by rw [e0]; rfl, Nat.le_refl _, hr.le, by rw [e0]; exact hr.th⟩

theorem ext_drew_alloc (w : World) (ob : Obj) (F : Nat → Prop) : Ext w (w.drew.alloc ob) F :=
  ⟨rfl, rfl, rfl, by simp, fun b hb _ => Below.heap_alloc w.drew ob b hb⟩

theorem app_ok (hT : TOk P T) (h : Sim T.globL U w0 F0 σ a w ow) {d : Nat} (hd : o.dst = some d) (hpn : F0.pn d = none) {s x : Operand} {t e : TypeId} {z by_ : Nat} (hel : T.el t = some (e, z)) (hes : T.esz e = some by_) {zs0 : List V} (hze : T.zero e = some zs0)
    (ho : o.op = .call { callee := .builtin .append, args := #[s, x], argTypes := #[t, t] }) {K : St → Option Res} (hk : app σ d z by_ (val T σ s) (val T σ x) K = some r) :
    ∃ σ', K σ' = some r ∧ DoneO P T.globL U w0 F0 a w o σ' := by
  obtain ⟨ii, hu, hi, hsz, hz⟩ := hT.el t e z hel
  obtain ⟨ii', hi', hby, hby0⟩ := hT.esz e by_ hes
  rw [hi] at hi'
  cases hi'
  obtain ⟨i2, zv, k1, k2, k3, k4, _⟩ := zero_fr (w := w) (A := fun _ => True) hT hze
  rw [hi] at k1
  cases k1
  have fin : ∀ {σ' : St} {u : Value} {w' : World} {ow' : Own}, (Builtin.append_ #[t, t] o.type #[a.eval s, a.eval x]).run P w = .ok u w' → Sim T.globL U w0 F0 σ' (a.put (some d) u) w' ow' → DoneO P T.globL U w0 F0 a w o σ' := fun {σ' u w' ow'} hr hs Kq Q hq => by
    have hrun : (execOp a.eval o).run P w = .ok (.value u) w' := exec_builtin ho (by simp [builtin, hr])
    unfold Oper.wp
    rw [hrun, Oper.upon_value, hd]
    exact hq _ _ _ hs
  -- a new row
  have grow : ∀ {p : Nat × Option Nat → Prop} {σ' : St} (base : Option Addr) (sLen sCap : Nat) (olds : List Value) (zs ys : List V) (news : List Value), KilR w ow σ σ' p → (∀ c, p (d, c)) → σ'.ob.getD d .none = .none → d < σ.ob.length →
      (Builtin.firstCells ii.size sLen (.slice base sLen sCap)).run P w.drew = .ok olds.toArray w.drew → olds.length = sLen * z → Src P ii.size t (a.eval x) ys.length news w → sCap < sLen + ys.length → (sLen + ys.length) * by_ ≤ 140737488355328 →
      zs.length = sLen + ys.length → (∀ (i : Nat) y, zs[i]? = some y → ∃ ecs, ecs.length = z ∧ FR w (Fz U w ow σ.ob) ecs y ∧ ∀ (j : Nat) v, ecs[j]? = some v → (olds ++ news)[i * z + j]? = some v) → a.eval s = .slice base sLen sCap →
      DoneO P T.globL U w0 F0 a w o ⟨σ'.sl.set d (.ref d none none), σ'.ob.set d (.row true z zs)⟩ := fun {p σ'} base sLen sCap olds zs ys news hkr hp hd' hdl hold hol hsrc hg hbytes hzl hrows hus => by
    have hle : sLen + ys.length ≤ 140737488355328 := Nat.le_trans (Nat.le_mul_of_pos_right _ hby0) hbytes
    have hr := run_append_grow_src (P := P) w t t o.type e ii zv hu hi k2 base sLen sCap olds hold (a.eval x) ys.length news hsrc hg (by omega) (growslice_fits hg (by rw [hby]; exact hbytes))
    rw [← hus] at hr
    have hge := grownCap_ge w (sLen + ys.length) sCap e
    have hnl := hsrc.newsLen
    rw [hsz] at hnl
    have hsize : ((olds ++ news).toArray ++ Builtin.zeroCells zv.cells (grownCap w (sLen + ys.length) sCap e - (sLen + ys.length))).size = grownCap w (sLen + ys.length) sCap e * z := by
      simp only [Array.size_append, List.size_toArray, size_zeroCells, k3, hsz, List.length_append, hol, hnl, ← Nat.add_mul]
      congr 1
      omega
    rw [← hzl] at hr hge hsize
    refine fin hr (app_end h (w' := w.drew.alloc _) (ext_drew_alloc _ _ _) ((ext_drew_alloc w _ (fun _ => False)).th (fun _ _ hf => hf.elim)) hkr (g := w.heap.size) hdl hp hd' hpn ⟨by simp, h.un _ h.ext.size, .inr (Nat.le_refl _)⟩ (fun kk c ha e => ?_) (fun kk c ha => ?_) (fun A' hA => ?_))
    · have := (h.ho.lt _ _ (hkr.al _ _ ha)).1; omega
    · exact Below.heap_alloc w.drew _ _ (h.ho.lt _ _ (hkr.al _ _ ha)).1
    · refine ⟨hge, th_alloc w.drew _ e (by rw [hsize]; exact Nat.le_refl _), fun i y hy => ?_⟩
      obtain ⟨ecs, e1, e2, e3⟩ := hrows i y hy
      refine ⟨ecs, e1, at_alloc w.drew _ e (fun j v hv => ?_), e2.mono (fun b hb => (hA b hb).2) (fun b hb => (hA b hb).1)⟩
      have := e3 j v hv
      have hl := (List.getElem?_eq_some_iff.1 this).1
      rw [Array.getElem?_append_left (by simpa using hl)]
      simpa using this
  unfold app at hk
  obtain ⟨hdl, hk1⟩ := bif_some hk
  rw [Nat.blt_eq] at hdl
  have hsv := val_sr h s
  split at hk1
  · rename_i hs
    obtain ⟨ys, news, hk2, hsrc, hrows⟩ := asList_src h hz hu hk1
    obtain ⟨hc, hK⟩ := chk_some hk2
    simp only [Bool.and_eq_true, decide_eq_true_eq, Bool.not_eq_true', decide_eq_false_iff_not] at hc
    rw [hs] at hsv
    have hsv' : FR w (Fz U w ow σ.ob) [a.eval s] .nil := hsv
    refine ⟨_, hK, ?_⟩
    generalize hus : a.eval s = us at hsv' grow
    cases hsv'
    rw [← hsz] at hsrc
    exact grow (p := fun q => q.1 = d) none 0 0 [] ys ys news (kill_r w ow σ d) (fun _ => rfl) (getD_set_ob_same _ _ hdl) hdl (run_firstCells_none w.drew _ _ _ _) (by simp) hsrc (by omega) (by simpa using hc.1) (by omega) (fun i y hy => by
      obtain ⟨ecs, g1, g2, g3⟩ := hrows i y hy
      exact ⟨ecs, g1, g2, fun j v hv => by simpa using g3 j v hv⟩) rfl
  · rename_i k c m hs
    split at hk1
    · rename_i oo z' xs hr
      obtain ⟨hc0, hk2⟩ := bif_some hk1
      simp only [Bool.and_eq_true] at hc0
      obtain ⟨rfl, hz'⟩ := hc0
      cases beq_nat.1 hz'
      obtain ⟨ys, news, hk3, hsrc, hrows⟩ := asList_src h hz hu hk2
      obtain ⟨hc, hK⟩ := chk_some hk3
      simp only [decide_eq_true_eq] at hc
      rw [hs] at hsv
      obtain ⟨o3, z3, xs3, cp, f1, f2, f3, f4, f5⟩ := hsv
      have hr' : obRow (fun k => σ.ob.getD k .none) k c = some (true, z, xs) := hr
      rw [hr'] at f1
      cases f1
      refine ⟨_, hK, ?_⟩
      have howd := owned_row hr
      have hal := alive_of_owned howd
      obtain ⟨cc, hrow⟩ := h.ho.row hr'
      have hkr : KilR w ow σ (kill (kil σ k c) d) (fun q => q = (k, c) ∨ q.1 = d) := (kil_r w ow σ k c).comp (kill_r w ow (kil σ k c) d) fun i q hq => kill_keeps d i q hq
      have hd' : (kill (kil σ k c) d).ob.getD d .none = .none := getD_set_ob_same _ _ (by rw [(kil_r w ow σ k c).obl]; exact hdl)
      have hnal : ¬ alive (kill (kil σ k c) d).ob k c := fun ha => kil_dead k c hr ((kill_r w ow (kil σ k c) d).al _ _ ha)
      have hcut := length_cut f3
      -- what was there
      have hold : ∀ (i : Nat) y, (cut xs m)[i]? = some y → ∃ ecs, ecs.length = z ∧ At w (ow k c) (i * z) ecs ∧ FR w (Fz U w ow σ.ob) ecs y := fun i y hy => hrow.at_ i y (getElem?_cut hy)
      by_cases hroom : cutLen xs m + ys.length ≤ cp
      · -- there is room
        have hnl := hsrc.newsLen
        have hin : ∀ q, q < news.length → (w.cell? ⟨ow k c, cutLen xs m * z + q, none⟩).isSome = true ∧ w.frozen? ⟨ow k c, cutLen xs m * z + q, none⟩ = false := fun q hq => by
          have h1 : (cutLen xs m + ys.length) * z ≤ cp * z := Nat.mul_le_mul_right _ hroom
          rw [Nat.add_mul] at h1
          have := f5 (cutLen xs m * z + q) (by omega)
          rwa [Nat.zero_add] at this
        have hrun := run_append_room_src (P := P) w t t o.type e ii hu hi (ow k c) 0 (cutLen xs m) cp (a.eval x) ys.length news (by rw [hsz]; exact hsrc) hroom (fun q hq => by rw [hsz, Nat.zero_add]; exact (hin q hq).1) (fun q hq => by rw [hsz, Nat.zero_add]; exact (hin q hq).2)
        rw [hsz, Nat.zero_add, ← f2] at hrun
        obtain ⟨hx, hTh⟩ := ext_setCells (w := w) (g := ow k c) (o := cutLen xs m * z) (vs := news) (F := ownB σ.ob ow) ⟨k, c, howd, rfl⟩ (fun q hq => (hin q hq).1)
        have hlen : (cut xs m ++ ys).length = cutLen xs m + ys.length := by rw [List.length_append, hcut]
        rw [← hlen] at hrun
        refine fin hrun (app_end h hx hTh hkr (g := ow k c) hdl (fun c => .inr rfl) hd' hpn ⟨Nat.lt_of_lt_of_le (h.ho.lt _ _ hal).1 hx.size, (h.ho.lt _ _ hal).2, .inl ⟨k, c, howd, rfl⟩⟩ (fun kk q ha e => ?_) (fun kk q ha => World.heap_setCells_other w _ _ _ (h.ho.lt _ _ (hkr.al _ _ ha)).1 fun e => ?_) (fun A' hA => ?_))
        · obtain ⟨e1, e2⟩ := h.ho.inj _ _ _ _ (hkr.al _ _ ha) hal e
          subst e1; subst e2
          exact hnal ha
        · obtain ⟨e1, e2⟩ := h.ho.inj _ _ _ _ (hkr.al _ _ ha) hal e
          subst e1; subst e2
          exact hnal ha
        · refine ⟨by omega, hTh _ _ f5, fun i y hy => ?_⟩
          by_cases hi' : i < (cut xs m).length
          · rw [List.getElem?_append_left hi'] at hy
            obtain ⟨ecs, g1, g2, g3⟩ := hold i y hy
            refine ⟨ecs, g1, fun j v hv => ?_, g3.mono (fun b hb => (hA b hb).2) (fun b hb => (hA b hb).1)⟩
            have hj : j < z := by have := (List.getElem?_eq_some_iff.1 hv).1; omega
            have := mul_add_lt (z := z) (by omega : i < cutLen xs m) hj
            show (w.setCells (ow k c) (cutLen xs m * z) news).cell? ⟨ow k c, i * z + j, none⟩ = some v
            rw [cell_out (by omega)]
            exact g2 j v hv
          · rw [List.getElem?_append_right (by omega), hcut] at hy
            obtain ⟨ecs, g1, g2, g3⟩ := hrows _ y hy
            refine ⟨ecs, g1, fun j v hv => ?_, g2.mono (fun b hb => (hA b hb).2) (fun b hb => (hA b hb).1)⟩
            have := cell_in (w := w) (g := ow k c) (o := cutLen xs m * z) (fun q hq => (hin q hq).1) (g3 j v hv)
            rw [← Nat.add_assoc, ← Nat.add_mul, show cutLen xs m + (i - cutLen xs m) = i by omega] at this
            exact this
      · -- there is none
        obtain ⟨olds, o1, o2, o3, o4⟩ := rows_cells (w := w) (A := Fz U w ow σ.ob) (b := ow k c) (off := 0) (ys := cut xs m) hz (fun i y hy => by rw [Nat.zero_add]; exact hold i y hy)
        rw [hcut] at o1
        refine grow (some ⟨ow k c, 0, none⟩) (cutLen xs m) cp olds (cut xs m ++ ys) ys news hkr (fun c => .inr rfl) hd' hdl (run_firstCells_some w.drew ii.size _ _ _ _ olds (by rw [hsz]; exact o1) (fun j v hj => by rw [add_addr]; simpa using o2 j v hj)) o1 (by rw [hsz]; exact hsrc) (by omega) (by rw [← hcut]; exact hc) (by rw [List.length_append, hcut]) (fun i y hy => ?_) f2
        by_cases hi' : i < (cut xs m).length
        · rw [List.getElem?_append_left hi'] at hy
          obtain ⟨ecs, g1, g2, g3⟩ := o4 i y hy
          refine ⟨ecs, g1, g2, fun j v hv => ?_⟩
          have := g3 j v hv
          rw [List.getElem?_append_left (List.getElem?_eq_some_iff.1 this).1]
          exact this
        · rw [List.getElem?_append_right (by omega), hcut] at hy
          obtain ⟨ecs, g1, g2, g3⟩ := hrows _ y hy
          refine ⟨ecs, g1, g2, fun j v hv => ?_⟩
          have hle : olds.length ≤ i * z + j := by
            rw [o1]
            have : cutLen xs m * z ≤ i * z := Nat.mul_le_mul_right _ (by omega)
            omega
          rw [List.getElem?_append_right hle, o1]
          have := g3 j v hv
          have e1 : i * z + j - cutLen xs m * z = (i - cutLen xs m) * z + j := by
            rw [Nat.sub_mul]
            have : cutLen xs m * z ≤ i * z := Nat.mul_le_mul_right _ (by omega)
            omega
          rw [e1]; exact this
    · cases hk1
  · cases hk1
end
end Go.Proofs.YtmddfhjgdhjmkaaDoor.VM
