/- The abstract machine and the memory: a drawn region, step by step. -/
import Derived.Test.YtmddfhjgdhjmkaaDoorVMS10
set_option linter.unusedVariables false
set_option linter.unusedSimpArgs false
namespace Go.Proofs.YtmddfhjgdhjmkaaDoor.VM

section
variable {P : Program} {T : TT} {U : Nat → Prop} {w0 w : World} {F0 : Fr} {a : Act} {ow : Own} {r : Res} {call : FuncId → List V → Option Res} {all : Array Oper}

theorem memN_iff {l : List Nat} {a : Nat} : memN l a = true ↔ a ∈ l := by
  induction l with
  | nil => simp [memN]
  | cons b l ih =>
    unfold memN
    cases hb : Nat.beq b a with
    | true => have := beq_nat.1 hb; subst this; simp
    | false =>
      have : b ≠ a := fun e => by rw [beq_nat.2 e] at hb; cases hb
      simp only [cond_false, ih, List.mem_cons]
      constructor
      · exact .inr
      · rintro (e | h)
        · exact absurd e.symm this
        · exact h

theorem apartB_spec {ops : List Oper} {x y : Oper} (h : apartB T ops x y = true) : ∃ dx dy, x.dst = some dx ∧ y.dst = some dy ∧ dx ≠ dy ∧ dy ∉ readsOf ops x ∧ dx ∉ readsOf ops y ∧ isQuiet T x = true ∧ isQuiet T y = true := by
  unfold apartB at h
  simp only [Bool.and_eq_true] at h
  obtain ⟨⟨h1, h2⟩, h3⟩ := h
  split at h3
  · rename_i dx dy hx hy
    simp only [Bool.and_eq_true, Bool.not_eq_true'] at h3
    obtain ⟨⟨h4, h5⟩, h6⟩ := h3
    refine ⟨dx, dy, hx, hy, fun e => ?_, fun hm => ?_, fun hm => ?_, h1, h2⟩
    · rw [beq_nat.2 e] at h4; cases h4
    · rw [memN_iff.2 hm] at h5; cases h5
    · rw [memN_iff.2 hm] at h6; cases h6
  · cases h3

theorem val_eq {σ σ' : St} {x : Operand} (h : ∀ t, x = .tmp t → σ.sl.getD t .dead = σ'.sl.getD t .dead) : val T σ x = val T σ' x := by
  cases x with
  | tmp t => exact h t rfl
  | _ => rfl

theorem nodup_inj {l : List Nat} (h : l.Nodup) {i j x : Nat} (hi : l[i]? = some x) (hj : l[j]? = some x) : i = j := by
  induction l generalizing i j with
  | nil => simp at hi
  | cons a l ih =>
    simp only [List.nodup_cons] at h
    cases i <;> cases j
    · rfl
    · simp at hi hj
      subst hi
      exact absurd (List.mem_of_getElem? hj) h.1
    · simp at hi hj
      subst hj
      exact absurd (List.mem_of_getElem? hi) h.1
    · simp at hi hj
      rw [ih h.2 hi hj]
theorem out_agree {E : List Eff} (hnd : (E.map Eff.d).Nodup) {i : Nat} {e : Eff} (hi : E[i]? = some e) {D : Nat → Bool} {σ : St} (hD : D i = true → False) : (stM E D σ).ob.getD e.d .none = σ.ob.getD e.d .none := by
  have h0 : stM E (fun _ => false) σ = σ := stM_none E fun _ => rfl
  have h1 : (stM E D σ).ob.getD e.d .none = (stM E (fun _ => false) σ).ob.getD e.d .none := ob_agree E rfl rfl fun i' e'' hi' hd' _ => by
    have : i' = i := by
      have q1 : (E.map Eff.d)[i']? = some e.d := by rw [List.getElem?_map, hi']; simp [hd']
      have q2 : (E.map Eff.d)[i]? = some e.d := by rw [List.getElem?_map, hi]; simp
      exact nodup_inj hnd q1 q2
    subst this
    cases h : D i'
    · rfl
    · exact (hD h).elim
  rw [h1, h0]

/-- one quiet operation, out of turn -/
theorem quiet_step (hT : TOk P T) (hC : CallOk P T.globL call) {E : List Eff} {b : Nat} {σ : St}
    (hE : ∀ (j : Nat) e, E[j]? = some e → ∃ o, all.toList[b + j]? = some o ∧ EfOk T call all.toList (stM E (fun i => decide (i < j)) σ) o e)
    (hnd : (E.map Eff.d).Nodup) {D : Nat → Bool} {j : Nat} {e : Eff} {o : Oper} (hj : E[j]? = some e) (ho : all.toList[b + j]? = some o) (hDj : D j = false)
    (hord : ∀ (i : Nat) e', E[i]? = some e' → D i ≠ decide (i < j) → i ≠ j → e'.d ∉ readsOf all.toList o)
    (h : Sim T.globL U w0 F0 (σF (stM E D σ) (E.flatMap Eff.s)) a w ow) (hpn : ∀ d, o.dst = some d → F0.pn d = none) :
    (Region.wanted o (yielded all a.tmps) = true ∧ DoneO P T.globL U w0 F0 a w o (σF (stM E (fun i => D i || i == j) σ) (E.flatMap Eff.s))) ∨
    (Region.wanted o (yielded all a.tmps) = false ∧ Sim T.globL U w0 F0 (σF (stM E (fun i => D i || i == j) σ) (E.flatMap Eff.s)) (a.put o.dst undef) w ow) := by
  obtain ⟨o', ho', hd, hef⟩ := hE j e hj
  rw [ho] at ho'
  cases ho'
  rw [stM_insert E hnd hj hDj]
  -- what is read is as it was
  have hsl : ∀ t, t ∈ readsOf all.toList o → (stM E (fun i => decide (i < j)) σ).sl.getD t .dead = (stM E D σ).sl.getD t .dead := fun t ht =>
    sl_agree E rfl rfl fun i e' hi hdt => by
      by_cases hij : i = j
      · subst hij; simp [hDj]
      · cases hDi : D i <;> cases hlt : decide (i < j) <;> first
          | rfl
          | (exfalso
             refine hord i e' hi (by rw [hDi, hlt]; simp) hij ?_
             rw [hdt]; exact ht)
  have hval : ∀ x ∈ o.op.operands, val T (stM E (fun i => decide (i < j)) σ) x = val T (stM E D σ) x := fun x hx => val_eq fun t ht => hsl t (by
    subst ht
    exact List.mem_append_left _ (List.mem_filterMap.2 ⟨.tmp t, by simpa using hx, rfl⟩))
  have hwant : wantB all.toList (stM E (fun i => decide (i < j)) σ) o = wantB all.toList (stM E D σ) o := by
    unfold wantB
    cases hg : o.guard with
    | none => rfl
    | some q =>
      obtain ⟨q, want⟩ := q
      simp only
      cases hgd : (all.toList[q]?).bind (·.dst) with
      | none => rfl
      | some g =>
        simp only
        rw [hsl g (List.mem_append_right _ (by rw [hg]; simp only; rw [hgd]; simp))]
  have hsub : ∀ q ∈ e.s, q ∈ E.flatMap Eff.s := fun q hq => List.mem_flatMap.2 ⟨e, List.mem_of_getElem? hj, hq⟩
  rcases hef with ⟨hw, hq, hk, hqv, h0⟩ | ⟨hw, h1, h2, h3⟩
  · refine .inl ⟨wanted_of h (by rw [show wantB all.toList (σF (stM E D σ) (E.flatMap Eff.s)) o = wantB all.toList (stM E D σ) o from rfl, ← hwant]; exact hw), ?_⟩
    -- the objects that are looked at are there alike
    have hob : ∀ k, isNone ((stM E (fun i => decide (i < j)) σ).ob.getD k .none) = false → (stM E D σ).ob.getD k .none ≠ .none → (stM E (fun i => decide (i < j)) σ).ob.getD k .none = (stM E D σ).ob.getD k .none := fun k h1 h2 => by
      -- no new object is made under a key that differs
      by_cases hdiff : ∃ (i : Nat) (e' : Eff), E[i]? = some e' ∧ e'.d = k ∧ isNone e'.ob = false ∧ D i ≠ decide (i < j)
      · exfalso
        obtain ⟨i, e', hi, hdk, hnn, hne⟩ := hdiff
        obtain ⟨oi, _, _, hef'⟩ := hE i e' hi
        have hbase : σ.ob.getD k .none = .none := by
          rcases hef' with ⟨_, _, _, _, h5⟩ | ⟨_, _, h5, _⟩
          · rcases h5 with h5 | h5
            · rw [h5] at hnn; cases hnn
            · have h6 := isNone_iff.1 h5
              rw [← hdk]
              exact (out_agree (D := fun q => decide (q < i)) hnd hi (fun h => by simp at h)).symm.trans h6
          · rw [h5] at hnn; cases hnn
        have hout : ∀ D' : Nat → Bool, D' i = false → (stM E D' σ).ob.getD k .none = .none := fun D' hD' => by
          rw [← hdk]
          exact (out_agree (D := D') hnd hi (fun h => by rw [hD'] at h; cases h)).trans (by rw [hdk]; exact hbase)
        cases hDi : D i with
        | false => exact h2 (hout D hDi)
        | true =>
          have hlt : decide (i < j) = false := by
            cases hl : decide (i < j)
            · rfl
            · rw [hDi, hl] at hne; exact absurd rfl hne
          rw [hout _ hlt] at h1
          cases h1
      · refine ob_agree E rfl rfl fun i e' hi hdk hnn => ?_
        cases hDi : D i <;> cases hlt : decide (i < j) <;> first
          | rfl
          | exact absurd ⟨i, e', hi, hdk, hnn, by rw [hDi, hlt]; simp⟩ hdiff
    have hqv2 : qv T call (val T (stM E D σ)) (lkE (stM E D σ)) e.d o K3 = some (e.x, e.ob, e.s) := by
      rw [← hqv, ← qv_v (v := val T (stM E (fun i => decide (i < j)) σ)) hval]
      symm
      refine qv_lk (fun x hx k c hkc => ?_) K3
      unfold lkE
      have hk1 : isNone ((stM E (fun i => decide (i < j)) σ).ob.getD k .none) = false := by
        have := List.all_eq_true.1 (List.all_eq_true.1 hk x (by simpa using hx)) k (keysN_of hkc)
        simpa using this
      have hk2 : (stM E D σ).ob.getD k .none ≠ .none := by
        have hsr := val_sr h x
        have hv : val T (σF (stM E D σ) (E.flatMap Eff.s)) x = val T (stM E (fun i => decide (i < j)) σ) x := (hval x hx).symm
        rw [hv] at hsr
        have hal := hsr.alive hkc
        intro e0
        apply hal
        show (freeze (stM E D σ).ob (E.flatMap Eff.s)).getD k .none = .none
        rw [getD_freeze, e0, frzK_none]
      rw [hob k hk1 hk2]
    have hqv3 : qv T call (val T (σF (stM E D σ) (E.flatMap Eff.s))) (lkE (σF (stM E D σ) (E.flatMap Eff.s))) e.d o K3 = some (e.x, e.ob, e.s) := by
      have e1 : lkE (σF (stM E D σ) (E.flatMap Eff.s)) = lkE (stM E D σ) := lkE_freeze _ _ _
      rw [e1]
      exact hqv2
    obtain ⟨x, ob, s, hK, hdone⟩ := qv_sound hT hC h hd hqv3
    simp only [K3, Option.some.injEq, Prod.mk.injEq] at hK
    obtain ⟨rfl, rfl, rfl⟩ := hK
    have hfree : e.ob = .none ∨ (stM E D σ).ob.getD e.d .none = .none := by
      rcases h0 with h0 | h0
      · exact .inl (isNone_iff.1 h0)
      · by_cases hn : isNone e.ob = true
        · exact .inl (isNone_iff.1 hn)
        · refine .inr ?_
          refine (ob_agree E rfl rfl fun i' e'' hi' hd' _ => ?_).trans (isNone_iff.1 h0)
          have : i' = j := by
            have q1 : (E.map Eff.d)[i']? = some e.d := by rw [List.getElem?_map, hi']; simp [hd']
            have q2 : (E.map Eff.d)[j]? = some e.d := by rw [List.getElem?_map, hj]; simp
            exact nodup_inj hnd q1 q2
          subst this
          simp [hDj]
    refine fun Kq Q hq => hdone (hfree.imp id fun e0 => ⟨?_, hpn _ hd⟩) Kq Q fun u w' ow' hs => hq _ _ ow' ?_
    · show (freeze (stM E D σ).ob (E.flatMap Eff.s)).getD e.d .none = .none
      rw [getD_freeze, e0, frzK_none]
    · have h1 := hs.freeze (E.flatMap Eff.s)
      have e1 := freeze_again (fs := E.flatMap Eff.s) (s := e.s) (ob := (stM E D σ).ob) (d := e.d) (o := e.ob) hsub
      show Sim T.globL U w0 F0 ⟨(stM E D σ).sl.set e.d e.x, freeze (setN (stM E D σ).ob e.d e.ob) (E.flatMap Eff.s)⟩ _ w' ow'
      rw [← e1]
      exact h1
  · refine .inr ⟨wanted_of h (by rw [show wantB all.toList (σF (stM E D σ) (E.flatMap Eff.s)) o = wantB all.toList (stM E D σ) o from rfl, ← hwant]; exact hw), ?_⟩
    rw [hd]
    have := sim_skip h e.d
    show Sim T.globL U w0 F0 ⟨(stM E D σ).sl.set e.d e.x, freeze (setN (stM E D σ).ob e.d e.ob) (E.flatMap Eff.s)⟩ _ w ow
    rw [h1, h2]
    exact this

/-! ### the order -/
theorem befores_go : ∀ (ops : List Oper) (acc : List (List Nat)),
    let bs := ops.foldl (fun acc o => acc ++ [o.after.toList.foldl (fun l e => bif Region.binds .any e then e.on :: acc.getD e.on [] ++ l else l) []]) acc
    (∀ j, j < acc.length → bs.getD j [] = acc.getD j []) ∧
    ∀ j o, ops[j]? = some o → ∀ i ∈ bs.getD (acc.length + j) [], ∃ e ∈ o.after, Region.binds .any e = true ∧ (i = e.on ∨ i ∈ bs.getD e.on [])
  | [], acc => ⟨fun j _ => rfl, fun j o h => by simp at h⟩
  | o :: ops, acc => by
    intro bs
    have key := befores_go ops (acc ++ [o.after.toList.foldl (fun l e => bif Region.binds .any e then e.on :: acc.getD e.on [] ++ l else l) []])
    obtain ⟨h1, h2⟩ := key
    have hbs : bs = ops.foldl (fun acc o => acc ++ [o.after.toList.foldl (fun l e => bif Region.binds .any e then e.on :: acc.getD e.on [] ++ l else l) []]) (acc ++ [o.after.toList.foldl (fun l e => bif Region.binds .any e then e.on :: acc.getD e.on [] ++ l else l) []]) := rfl
    rw [← hbs] at h1 h2
    have hpre : ∀ j, j < acc.length → bs.getD j [] = acc.getD j [] := fun j hj => by
      rw [h1 j (by simp; omega)]
      simp [List.getD_eq_getElem?_getD, List.getElem?_append_left hj]
    refine ⟨hpre, fun j o' hj i hi => ?_⟩
    cases j with
    | zero =>
      simp at hj
      subst hj
      rw [Nat.add_zero, h1 acc.length (by simp)] at hi
      have hg : (acc ++ [o.after.toList.foldl (fun l e => bif Region.binds .any e then e.on :: acc.getD e.on [] ++ l else l) []]).getD acc.length [] = o.after.toList.foldl (fun l e => bif Region.binds .any e then e.on :: acc.getD e.on [] ++ l else l) [] := by
        simp [List.getD_eq_getElem?_getD]
      rw [hg] at hi
      have hfold : ∀ (es : List Edge) (l0 : List Nat), i ∈ es.foldl (fun l e => bif Region.binds .any e then e.on :: acc.getD e.on [] ++ l else l) l0 → i ∈ l0 ∨ ∃ e ∈ es, Region.binds .any e = true ∧ (i = e.on ∨ i ∈ acc.getD e.on []) := by
        intro es
        induction es with
        | nil => exact fun l0 h => .inl h
        | cons e es ih =>
          intro l0 h
          simp only [List.foldl_cons] at h
          rcases ih _ h with h | ⟨e', he', hb⟩
          · cases hb : Region.binds .any e with
            | false => rw [hb] at h; exact .inl h
            | true =>
              rw [hb] at h
              simp only [cond_true, List.cons_append, List.mem_cons, List.mem_append] at h
              rcases h with h | h | h
              · exact .inr ⟨e, by simp, hb, .inl h⟩
              · exact .inr ⟨e, by simp, hb, .inr h⟩
              · exact .inl h
          · exact .inr ⟨e', by simp [he'], hb⟩
      rcases hfold _ _ hi with h | ⟨e, he, hb, h⟩
      · simp at h
      · refine ⟨e, by simpa using he, hb, h.imp id fun h => ?_⟩
        by_cases hl : e.on < acc.length
        · rw [hpre _ hl]; exact h
        · simp [List.getD_eq_getElem?_getD, List.getElem?_eq_none (by omega : acc.length ≤ e.on)] at h
    | succ j =>
      have := h2 j o' (by simpa using hj) i (by
        rw [show (acc ++ [o.after.toList.foldl (fun l e => bif Region.binds .any e then e.on :: acc.getD e.on [] ++ l else l) []]).length + j = acc.length + (j + 1) by simp; omega]
        exact hi)
      exact this
theorem befores_spec {ops : List Oper} {j : Nat} {o : Oper} (hj : ops[j]? = some o) {i : Nat} (hi : i ∈ (befores ops).getD j []) : ∃ e ∈ o.after, Region.binds .any e = true ∧ (i = e.on ∨ i ∈ (befores ops).getD e.on []) := by
  have := (befores_go ops []).2 j o hj i (by simpa [befores] using hi)
  exact this
end
end Go.Proofs.YtmddfhjgdhjmkaaDoor.VM
