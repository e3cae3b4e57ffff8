/- The abstract machine and the memory: the store. -/
import Derived.Test.YtmddfhjgdhjmkaaDoorVMS18
set_option linter.unusedVariables false
set_option linter.unusedSimpArgs false
namespace Go.Proofs.YtmddfhjgdhjmkaaDoor.VM

section
variable {P : Program} {T : TT} {U : Nat → Prop} {w0 w w' : World} {F0 : Fr} {σ σ' : St} {a : Act} {ow ow' : Own} {o : Oper} {r : Res}

theorem done_store {t : TypeId} {p q : Operand} (ho : o.op = .store t p q) (hd : o.dst = none) (hr : (Instr.storeAt t (a.eval p) (a.eval q)).run P w = .ok () w') (hs : Sim T.globL U w0 F0 σ' a w' ow') : DoneO P T.globL U w0 F0 a w o σ' := fun K Q hK => by
  unfold Oper.wp execOp
  simp only [ho, Sem.run_bind, hr, Result.andThen_ok, Sem.run_pure, Oper.upon_skip, hd]
  exact hK _ _ _ hs

theorem kilP_sl {k : Nat} : ∀ (n : Nat) (σ : St) (j : Nat), (kilP σ k j n).sl.length = σ.sl.length ∧ (∀ i w A ow ob v, SR w A ow ob v (σ.sl.getD i .dead) → SR w A ow ob v ((kilP σ k j n).sl.getD i .dead)) ∧
    ∀ i q, q ∈ keysV ((kilP σ k j n).sl.getD i .dead) → q ∈ keysV (σ.sl.getD i .dead) ∧ ¬ (q.1 = k ∧ ∃ c, q.2 = some c ∧ j ≤ c ∧ c < j + n)
  | 0, σ, j => ⟨rfl, fun _ _ _ _ _ _ h => h, fun i q h => ⟨h, fun ⟨_, c, _, h1, h2⟩ => by omega⟩⟩
  | n + 1, σ, j => by
    obtain ⟨h1, h2, h3⟩ := kilP_sl n (kil σ k (some j)) (j + 1)
    have hr := fun w ow => kil_r w ow σ k (some j)
    refine ⟨h1.trans (by simp [kil]), fun i w A ow ob v h => h2 i w A ow ob v ((hr w ow).sl i A ob v h), fun i q h => ?_⟩
    obtain ⟨g1, g2⟩ := h3 i q h
    refine ⟨kil_keeps k (some j) i q g1, fun ⟨e1, c, e2, e3, e4⟩ => ?_⟩
    by_cases hc : c = j
    · subst hc
      have hne : q = (k, some c) := Prod.ext e1 e2
      have g1' : q ∈ keysV ((σ.sl.map (kilV k (some c))).getD i .dead) := g1
      rw [getD_map _ _ (kil_forget k (some c)).dead] at g1'
      exact (kil_forget k (some c)).keys g1' hne
    · exact g2 ⟨e1, c, e2, by omega, by omega⟩

theorem setPart_len : ∀ (ps cs : List V) (off : Nat), off + ps.length ≤ cs.length → (setPart cs off ps).length = cs.length := fun ps cs off h => (setPart_get ps cs off 0 h).1

theorem box_write {GL : List (Nat × V)} (h : Sim GL U w0 F0 σ a w ow) {k j : Nat} {cs ps : List V} {vs : List Value} (hb : σ.ob.getD k .none = .box true cs) (hle : j + ps.length ≤ cs.length) (hvs : vs.length = ps.length)
    (hps : ∀ (q : Nat) v c, vs[q]? = some v → ps[q]? = some c → isC c ∧ FR w (Fz U w ow σ.ob) [v] c) :
    (∀ q, q < vs.length → (w.cell? ⟨ow k none, j + q, none⟩).isSome = true ∧ w.frozen? ⟨ow k none, j + q, none⟩ = false) ∧
    Sim GL U w0 F0 ⟨(kilP σ k j ps.length).sl, σ.ob.set k (.box true (setPart cs j ps))⟩ a (w.setCells (ow k none) j vs) ow := by
  have hor := h.ho.obs k
  rw [hb] at hor
  obtain ⟨hth0, hcells⟩ := hor
  have hth : ∀ q, q < vs.length → (w.cell? ⟨ow k none, j + q, none⟩).isSome = true ∧ w.frozen? ⟨ow k none, j + q, none⟩ = false := fun q hq => by
    have := hth0 (j + q) (by omega)
    rwa [Nat.zero_add] at this
  refine ⟨hth, ?_⟩
  have hkl := lt_of_ob (σ := σ) (k := k) (by rw [hb]; simp)
  have howd : owned σ.ob k none := by unfold owned; rw [hb]
  have hal := alive_of_owned howd
  obtain ⟨hx, hT⟩ := ext_setCells (w := w) (g := ow k none) (o := j) (vs := vs) (F := ownB σ.ob ow) ⟨k, none, howd, rfl⟩ (fun q hq => (hth q hq).1)
  obtain ⟨g1, g2, g3⟩ := kilP_sl (k := k) ps.length σ j
  have hother : ∀ kk, kk ≠ k → (σ.ob.set k (.box true (setPart cs j ps))).getD kk .none = σ.ob.getD kk .none := fun kk e => getD_set_ob_other _ _ e
  have hsame : (σ.ob.set k (.box true (setPart cs j ps))).getD k .none = .box true (setPart cs j ps) := getD_set_ob_same _ _ hkl
  have hget := fun q => (setPart_get ps cs j q hle).2
  have hpsC : ∀ (q : Nat) c, ps[q]? = some c → isC c := fun q c hc => by
    have hq : q < ps.length := (List.getElem?_eq_some_iff.1 hc).1
    exact (hps q _ c (List.getElem?_eq_getElem (by omega)) hc).1
  have hblk : ∀ kk cc, alive σ.ob kk cc → (kk, cc) ≠ (k, none) → (w.setCells (ow k none) j vs).heap[ow kk cc]? = w.heap[ow kk cc]? := fun kk cc ha hne =>
    World.heap_setCells_other w _ _ _ (h.ho.lt kk cc ha).1 fun e => hne (by
      obtain ⟨e1, e2⟩ := h.ho.inj kk cc k none ha hal e
      rw [e1, e2])
  -- an own row of the box, then and now
  have hrow : ∀ (q : Nat) (o : Bool) (z : Nat) (xs : List V), (setPart cs j ps)[q]? = some (V.own o z xs) → cs[q]? = some (V.own o z xs) := fun q o z xs hq => by
    rw [hget q] at hq
    split at hq
    · exact (hpsC _ _ hq).elim
    · exact hq
  have hals : ∀ kk c, alive (σ.ob.set k (.box true (setPart cs j ps))) kk c → alive σ.ob kk c := fun kk c ha => by
    by_cases hkk : kk = k
    · subst hkk
      unfold alive at ha ⊢
      rw [hsame] at ha; rw [hb]
      cases c with
      | none => trivial
      | some q => obtain ⟨o, z, xs, hq⟩ := ha; exact ⟨o, z, xs, hrow q o z xs hq⟩
    · rw [← alive_congr (hother kk hkk) c]; exact ha
  refine h.turn hx hT _ _ g1 (by simp) (fun i A v hv => g2 i w A ow σ.ob v hv) (fun i kk cc hkc => ?_) (fun kk cc ho => .inl ⟨kk, cc, ?_, rfl⟩) (fun kk cc kk' cc' h1 h2 e => h.ho.inj _ _ _ _ (hals _ _ h1) (hals _ _ h2) e)
    (fun kk cc h1 => ⟨Nat.lt_of_lt_of_le (h.ho.lt _ _ (hals _ _ h1)).1 hx.size, (h.ho.lt _ _ (hals _ _ h1)).2⟩) (fun hA kk => ?_) (fun kk b hp => ?_)
  · by_cases hkk : kk = k
    · subst hkk
      obtain ⟨_, hnr⟩ := g3 i _ hkc
      cases cc with
      | none => unfold sameK same1; rw [hb]; exact ⟨true, _, hsame, setPart_len _ _ _ hle, rfl⟩
      | some q =>
        intro o z xs hr
        obtain ⟨b', cs', e1, e2⟩ := obRow_some.1 hr
        have e1 : σ.ob.getD kk .none = .box b' cs' := e1
        rw [hb] at e1
        cases e1
        refine ⟨o, xs, obRow_some.2 ⟨true, _, hsame, ?_⟩, rfl, rfl⟩
        rw [hget q, if_neg (fun hh => hnr ⟨rfl, q, rfl, hh.1, hh.2⟩)]
        exact e2
    · exact sameK_congr (hother kk hkk) (fun _ => rfl) cc
  · by_cases hkk : kk = k
    · subst hkk
      unfold owned at ho ⊢
      rw [hsame] at ho; rw [hb]
      cases cc with
      | none => rfl
      | some q => obtain ⟨z, xs, hq⟩ := ho; exact ⟨z, xs, hrow q true z xs hq⟩
    · rw [← owned_congr (hother kk hkk) cc]; exact ho
  · by_cases hkk : kk = k
    · subst hkk
      rw [hsame]
      refine ⟨by rw [setPart_len _ _ _ hle]; exact hT _ _ hth0, fun q v x hv hx' => ?_⟩
      rw [hget q] at hx'
      split at hx'
      · rename_i hin
        have hq : q - j < ps.length := (List.getElem?_eq_some_iff.1 hx').1
        have hvq : vs[q - j]? = some (vs[q - j]'(by omega)) := List.getElem?_eq_getElem (by omega)
        have hc := cell_in (w := w) (g := ow kk none) (o := j) (fun q hq => (hth q hq).1) hvq
        rw [show j + (q - j) = q by omega] at hc
        rw [hc] at hv
        cases hv
        obtain ⟨c1, c2⟩ := hps _ _ _ hvq hx'
        rw [c1.bc]
        exact c2.mono (fun b hb => (hA b hb).2) (fun b hb => (hA b hb).1)
      · rename_i hin
        rw [cell_out (by omega)] at hv
        refine (hcells q v x hv hx').keep hA fun o z0 x0 hxe => ⟨rfl, hblk kk (some q) (aliveBox hb (hxe ▸ hx')) (by simp)⟩
    · rw [hother kk hkk]
      exact (h.ho.obs kk).keep hA (fun hn => ⟨rfl, hblk kk none (aliveOb hn) (fun e => hkk (by cases e; rfl))⟩) (fun b cs q o z0 x0 hb hc => ⟨rfl, hblk kk (some q) (aliveBox hb hc) (fun e => hkk (by cases e))⟩)
  · by_cases hkk : kk = k
    · subst hkk
      rcases h.pin kk b hp with hn | hn
      · rw [hb] at hn; cases hn
      · exact .inr hn
    · show (σ.ob.set k (.box true (setPart cs j ps))).getD kk .none = .none ∨ _
      rw [hother kk hkk]; exact h.pin kk b hp

theorem ptr_box {A : Nat → Prop} {u : Value} {k j : Nat} {ob : List Ob} {b : Bool} {cs : List V} (h : SR w A ow ob u (.ptr k none 0 j)) (hb : ob.getD k .none = .box b cs) : u = .pointer (some ⟨ow k none, j, none⟩) := by
  rcases h with ⟨o', cs', _, _, e⟩ | ⟨o', z, xs, e, _⟩
  · exact e
  · rw [hb] at e; cases e

theorem wr1_ok (hT : TOk P T) (h : Sim T.globL U w0 F0 σ a w ow) {t : TypeId} {sh : Sh} (ht : T.ty t = .c sh) {u v : Value} {k : Nat} {c : Option Nat} {i j : Nat} {x : V} (hu : SR w (Fz U w ow σ.ob) ow σ.ob u (.ptr k c i j))
    (hx : isC x) (hv : FR w (Fz U w ow σ.ob) [v] x) {K : St → Option Res} (hk : wr1 σ k c i j x K = some r) :
    ∃ σ' w', K σ' = some r ∧ (Instr.storeAt t u v).run P w = .ok () w' ∧ Sim T.globL U w0 F0 σ' a w' ow := by
  have hone : v.oneCell' = true := hv.one v (by simp)
  have hcs := cells_of_one hone
  obtain ⟨dd, ii, hd, hrow, hi, hs, _⟩ := hT.tyc t sh ht
  unfold wr1 at hk
  split at hk
  · rename_i oo z xs hr
    obtain ⟨hc, hk2⟩ := bif_some hk
    simp only [Bool.and_eq_true] at hc
    obtain ⟨rfl, hjz⟩ := hc
    rw [Nat.blt_eq] at hjz
    obtain ⟨y, hy, hK⟩ := exN_some hk2
    have hp := SC.ptrRow hu hr
    obtain ⟨hth, hsim⟩ := row_write h (j := j) (y' := setCe y j x) (vs := [v]) hr hy (by simp only [List.length_cons, List.length_nil]; omega) (fun ecs hl hfr => by
      cases y with
      | st ds =>
        cases hfr with
        | st hl' hh =>
          refine ⟨ecs.set j v, by simpa using hl, .st (by simp [hl']) fun q a b ha hb => ?_, fun q a ha => ?_⟩
          · by_cases hq : q = j
            · subst hq
              rw [List.getElem?_set_self (by omega)] at ha
              rw [List.getElem?_set_self (by omega)] at hb
              cases ha; cases hb
              exact hv
            · rw [List.getElem?_set_ne (Ne.symm hq)] at ha hb
              exact hh q a b ha hb
          · by_cases hq : q = j
            · subst hq
              rw [List.getElem?_set_self (by omega)] at ha
              rw [if_pos (by simp)]
              simpa using ha
            · rw [List.getElem?_set_ne (Ne.symm hq)] at ha
              rw [if_neg (by simp only [List.length_cons, List.length_nil]; omega)]
              exact ha
      | _ =>
        have hw : ecs.length = 1 := hfr.width
        have hj0 : j = 0 := by omega
        subst hj0
        refine ⟨[v], by simp only [List.length_cons, List.length_nil]; omega, hv, fun q a ha => ?_⟩
        have hq : q = 0 := by have := (List.getElem?_eq_some_iff.1 ha).1; simp at this; omega
        subst hq
        rw [if_pos (by simp)]
        exact ha)
    refine ⟨_, _, hK, ?_, hsim⟩
    rw [hp]
    have := run_store_gen (P := P) (w := w) (g := ow k c) (o := i * z + j) (v := v) hi (by rw [hcs, hs]; rfl) (by rw [hcs]; intro u hu; simp at hu; subst hu; exact hone) (fun q hq => hth q (by rw [hcs] at hq; simpa using hq))
    rw [hcs] at this
    exact this
  · rename_i hr
    split at hk
    · rename_i cs hb
      obtain ⟨hjl, hK⟩ := bif_some hk
      rw [Nat.blt_eq] at hjl
      have hp := ptr_box hu hb
      obtain ⟨hth, hsim⟩ := box_write h (j := j) (ps := [x]) (vs := [v]) hb (by simp only [List.length_cons, List.length_nil]; omega) rfl (fun q a c ha hc => by
        cases q with
        | zero => simp at ha hc; subst ha; subst hc; exact ⟨hx, hv⟩
        | succ q => simp at hc)
      refine ⟨_, _, hK, ?_, hsim⟩
      rw [hp]
      have := run_store_gen (P := P) (w := w) (g := ow k none) (o := j) (v := v) hi (by rw [hcs, hs]; rfl) (by rw [hcs]; intro u hu; simp at hu; subst hu; exact hone) (fun q hq => hth q (by rw [hcs] at hq; simpa using hq))
      rw [hcs] at this
      exact this
    · cases hk

theorem nilBack_length : ∀ (ns ps : List V), (nilBack ns ps).length = ps.length
  | [], _ => rfl
  | _ :: _, [] => rfl
  | _ :: ns, _ :: ps => by unfold nilBack; simp [nilBack_length ns ps]
theorem isNil_iff {v : V} : isNil v = true ↔ v = .nil := by cases v <;> simp [isNil]
theorem nilBack_get : ∀ (ns ps : List V) (q : Nat) {c : V}, (nilBack ns ps)[q]? = some c → (ns[q]? = some V.nil ∧ c = .nil) ∨ ps[q]? = some c
  | [], ps, q, c, h => .inr h
  | _ :: _, [], q, c, h => by simp [nilBack] at h
  | n :: ns, p :: ps, q, c, h => by
    unfold nilBack at h
    cases q with
    | zero =>
      simp at h
      cases hn : isNil n with
      | true => rw [hn] at h; exact .inl ⟨by simp [isNil_iff.1 hn], h.symm⟩
      | false => rw [hn] at h; exact .inr (by simpa using h)
    | succ q => simpa using nilBack_get ns ps q (by simpa using h)
theorem wrN_ok (hT : TOk P T) (h : Sim T.globL U w0 F0 σ a w ow) {t : TypeId} {ss : List Sh} (ht : T.ty t = .agg ss) {u v : Value} {k : Nat} {c : Option Nat} {i j : Nat} {x : V} (hu : SR w (Fz U w ow σ.ob) ow σ.ob u (.ptr k c i j))
    (hv : VR w (Fz U w ow σ.ob) v x) {ns : List V} (hns : ∀ (q : Nat), ns[q]? = some V.nil → ∀ u, v.cells.toList[q]? = some u → FR w (Fz U w ow σ.ob) [u] .nil) {K : St → Option Res} (hk : wrN σ k c i j ss ns x K = some r) :
    ∃ σ' w', K σ' = some r ∧ (Instr.storeAt t u v).run P w = .ok () w' ∧ Sim T.globL U w0 F0 σ' a w' ow := by
  obtain ⟨dd, ii, hd, hrow, hi, hs⟩ := hT.tya t ss ht
  have hfr := hv.fr
  unfold wrN at hk
  split at hk
  · rename_i oo z xs hr
    obtain ⟨hc, hk2⟩ := bif_some hk
    simp only [Bool.and_eq_true] at hc
    obtain ⟨⟨rfl, hj0⟩, hz⟩ := hc
    have hj0 := beq_nat.1 hj0
    have hz := beq_nat.1 hz
    subst hj0
    obtain ⟨hw, hk3⟩ := wd_some hk2
    obtain ⟨y, hy, hK⟩ := exN_some hk3
    have hp := SC.ptrRow hu hr
    have hlen : v.cells.size = z := by have := hfr.width; rw [Array.length_toList] at this; omega
    obtain ⟨hth, hsim⟩ := row_write h (y' := x) (vs := v.cells.toList) (j := 0) hr hy (by simp; omega) (fun ecs hl hfy => ⟨v.cells.toList, by simpa using hlen, hfr, fun q a ha => by
      have hq : q < v.cells.toList.length := (List.getElem?_eq_some_iff.1 ha).1
      rw [if_pos (by omega)]
      simpa using ha⟩)
    refine ⟨_, _, hK, ?_, hsim⟩
    rw [hp]
    exact run_store_gen (P := P) (w := w) (g := ow k c) (o := i * z + 0) (v := v) hi (by rw [hs]; omega) (fun u hu => hfr.one u hu) (fun q hq => hth q (by simpa using hq))
  · rename_i hr
    split at hk
    · rename_i cs hb
      obtain ⟨hjl, hk2⟩ := bif_some hk
      have hjl := Nat.le_of_ble_eq_true hjl
      obtain ⟨ds, rfl, hdl, hk3⟩ := unSt_some hk2
      obtain ⟨ps, hK, hpl, hps⟩ := unCs_some hk3
      have hp := ptr_box hu hb
      have hlen : v.cells.size = ss.length := by have := hfr.width; rw [Array.length_toList] at this; simp only [width] at this; omega
      have hnl : (nilBack ns ps).length = ps.length := nilBack_length ns ps
      obtain ⟨hth, hsim⟩ := box_write h (j := j) (ps := nilBack ns ps) (vs := v.cells.toList) hb (by omega) (by simp; omega) (fun q a c ha hc => by
        rcases nilBack_get ns ps q hc with ⟨hq, rfl⟩ | hc
        · exact ⟨trivial, hns q hq a ha⟩
        obtain ⟨c1, c2, c3⟩ := hps q c hc
        rw [Nat.zero_add] at c2 c3
        obtain ⟨a', ha', hfa⟩ := hfr.ce c2.ne
        rw [ha] at ha'
        cases ha'
        exact ⟨c1, c3 _ _ _ hfa⟩)
      rw [hnl, hpl] at hsim
      refine ⟨_, _, hK, ?_, hsim⟩
      rw [hp]
      exact run_store_gen (P := P) (w := w) (g := ow k none) (o := j) (v := v) hi (by rw [hs]; omega) (fun u hu => hfr.one u hu) (fun q hq => hth q (by simpa using hq))
    · cases hk
end
end Go.Proofs.YtmddfhjgdhjmkaaDoor.VM
