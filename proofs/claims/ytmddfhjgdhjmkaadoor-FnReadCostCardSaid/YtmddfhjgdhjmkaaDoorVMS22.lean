/- The abstract machine and the memory: calls that are handed boxes. -/
import Derived.Test.YtmddfhjgdhjmkaaDoorVMS21
set_option linter.unusedVariables false
set_option linter.unusedSimpArgs false
namespace Go.Proofs.YtmddfhjgdhjmkaaDoor.VM

section
variable {P : Program} {T : TT} {U : Nat → Prop} {w0 w w' : World} {F0 : Fr} {σ σ' : St} {a : Act} {ow ow' : Own} {o : Oper} {r : Res} {R : Type} {rr : R}

def ptrKey : V → Option Nat
  | .ptr k none 0 0 => some k
  | _ => none
theorem ptrKey_some {x : V} {k : Nat} (h : ptrKey x = some k) : x = .ptr k none 0 0 := by
  unfold ptrKey at h
  split at h
  · cases h; rfl
  · cases h

theorem ioSeal_ok (h : HO U w ow σ.ob) : ∀ {vs : List V} {K : List V → List (Nat × Option Nat) → Option R}, ioSeal (lkE σ) vs K = some rr →
    ∃ as s, K as s = some rr ∧ as.length = vs.length ∧ ∀ (i : Nat) x v, as[i]? = some x → vs[i]? = some v → (∃ k, x = .ptr k none 0 0 ∧ v = .ptr k none 0 0) ∨ SealOk U w ow σ.ob v x s
  | [], K, he => ⟨[], [], he, rfl, fun i x v hx => by simp at hx⟩
  | v :: vs, K, he => by
    unfold ioSeal at he
    split at he
    · cases ‹_ :: _ = []›
    · rename_i k vs' e
      cases e
      obtain ⟨as, s, h1, h2, h3⟩ := ioSeal_ok h he
      refine ⟨_, s, h1, by simp [h2], fun i x v hx hv => ?_⟩
      cases i with
      | zero => simp at hx hv; exact .inl ⟨k, hx.symm, hv.symm⟩
      | succ i => exact h3 i x v (by simpa using hx) (by simpa using hv)
    · rename_i v' vs' hn e
      cases e
      obtain ⟨y, s, h1, h2⟩ := sealV_ok h he
      obtain ⟨as, s', g1, g2, g3⟩ := ioSeal_ok h h1
      refine ⟨_, s ++ s', g1, by simp [g2], fun i x u hx hu => ?_⟩
      cases i with
      | zero =>
        simp at hx hu
        subst hx; subst hu
        exact .inr fun s'' hs => h2 s'' fun q hq => hs q (List.mem_append_left _ hq)
      | succ i =>
        rcases g3 i x u (by simpa using hx) (by simpa using hu) with hh | hh
        · exact .inl hh
        · exact .inr fun s'' hs => hh s'' fun q hq => hs q (List.mem_append_right _ hq)

theorem ioFill_ok {ob : List Ob} : ∀ {as : List V} {K : List V → List Nat → Option R}, ioFill ob as K = some rr →
    ∃ vs, K vs (as.filterMap ptrKey) = some rr ∧ vs.length = as.length ∧ ∀ (i : Nat) x, as[i]? = some x → (∃ k cs, x = .ptr k none 0 0 ∧ ob.getD k .none = .box true cs ∧ vs[i]? = some (.io (cs.map unO))) ∨ (ptrKey x = none ∧ vs[i]? = some x)
  | [], K, he => ⟨[], he, rfl, fun i x hx => by simp at hx⟩
  | v :: as, K, he => by
    unfold ioFill at he
    split at he
    · cases ‹_ :: _ = []›
    · rename_i k as' e
      cases e
      split at he
      · rename_i cs hb
        obtain ⟨vs, h1, h2, h3⟩ := ioFill_ok he
        refine ⟨_, h1, by simp [h2], fun i x hx => ?_⟩
        cases i with
        | zero => simp at hx; exact .inl ⟨k, cs, hx.symm, hb, rfl⟩
        | succ i => exact h3 i x (by simpa using hx)
      · cases he
    · rename_i v' as' hn e
      cases e
      obtain ⟨vs, h1, h2, h3⟩ := ioFill_ok he
      have hk : ptrKey v = none := by
        cases hp : ptrKey v with
        | none => rfl
        | some k => exact (hn k (ptrKey_some hp)).elim
      refine ⟨v :: vs, ?_, by simp [h2], fun i x hx => ?_⟩
      · rw [List.filterMap_cons_none hk]; exact h1
      · cases i with
        | zero => simp at hx; subst hx; exact .inr ⟨hk, rfl⟩
        | succ i => exact h3 i x (by simpa using hx)

theorem nodup_iff : ∀ {l : List Nat}, nodup l = true → l.Nodup
  | [], _ => .nil
  | b :: l, h => by
    unfold nodup at h
    simp only [Bool.and_eq_true, Bool.not_eq_true'] at h
    refine List.nodup_cons.2 ⟨fun hm => ?_, nodup_iff h.2⟩
    rw [memN_iff.2 hm] at h; cases h.1

/-- the boxes behind the call -/
def fndV (l : List (Nat × V)) (k : Nat) : Option V := fnd l k
theorem fnd_zip_none {ks : List Nat} {os : List V} {k : Nat} (h : k ∉ ks) : fnd (ks.zip os) k = none := by
  induction ks generalizing os with
  | nil => rfl
  | cons b ks ih =>
    cases os with
    | nil => rfl
    | cons q os =>
      simp only [List.mem_cons, not_or] at h
      simp only [List.zip_cons_cons, fnd]
      have : Nat.beq b k = false := by
        cases hb : Nat.beq b k
        · rfl
        · exact absurd (beq_nat.1 hb).symm h.1
      rw [this]
      exact ih h.2

theorem unOut_some {os : List V} {K : List V → List V → Option R} (h : unOut os K = some rr) : ∃ cs os', os = .io cs :: os' ∧ K cs os' = some rr := by
  unfold unOut at h
  split at h
  · exact ⟨_, _, rfl, h⟩
  · cases h
theorem ioBack_ok : ∀ {ks : List Nat} {os : List V} {σ : St} {K : St → Option R}, ks.Nodup → ioBack σ ks os K = some rr →
    ∃ σ', K σ' = some rr ∧ σ'.sl.length = σ.sl.length ∧ σ'.ob.length = σ.ob.length ∧ (∀ i w A ow ob v, SR w A ow ob v (σ.sl.getD i .dead) → SR w A ow ob v (σ'.sl.getD i .dead)) ∧
      (∀ i q, q ∈ keysV (σ'.sl.getD i .dead) → q ∈ keysV (σ.sl.getD i .dead) ∧ ∀ k c b old, k ∈ ks → σ.ob.getD k .none = .box b old → c < old.length → q ≠ (k, some c)) ∧
      (∀ k, σ'.ob.getD k .none = match fnd (ks.zip os) k with | some x => obArg x | none => σ.ob.getD k .none) ∧
      ∀ k, k ∈ ks → ∃ b old cs, σ.ob.getD k .none = .box b old ∧ fnd (ks.zip os) k = some (.io cs) ∧ cs.length = old.length ∧ ∀ c ∈ cs, ∀ z xs, c ≠ .own false z xs
  | [], [], σ, K, _, he => ⟨σ, he, rfl, rfl, fun _ _ _ _ _ _ h => h, fun i q h => ⟨h, fun k c b old hk => by simp at hk⟩, fun k => rfl, fun k hk => by simp at hk⟩
  | [], _ :: _, σ, K, _, he => by cases he
  | _ :: _, [], σ, K, _, he => by cases he
  | k :: ks, x :: os, σ, K, hnd, he => by
    unfold ioBack at he
    obtain ⟨cs, os', e0, he⟩ := unOut_some he
    cases e0
    split at he
    · rename_i b old hb
      obtain ⟨hl0, he⟩ := bif_some he
      simp only [Bool.and_eq_true] at hl0
      have hl := beq_nat.1 hl0.1
      have hok : ∀ c ∈ cs, ∀ z xs, c ≠ .own false z xs := fun c hc z xs e => by
        have := List.all_eq_true.1 hl0.2 c hc
        rw [e] at this; cases this
      obtain ⟨hk0, hnd'⟩ := List.nodup_cons.1 hnd
      obtain ⟨σ', h1, h2, h3, h4, h5, h6, h7⟩ := ioBack_ok hnd' he
      obtain ⟨p1, p2, p3⟩ := kilP_sl (k := k) old.length σ 0
      have hkl := lt_of_ob (σ := σ) (k := k) (by rw [hb]; simp)
      have hob : ∀ kk, kk ≠ k → (σ.ob.set k (.box true cs)).getD kk .none = σ.ob.getD kk .none := fun kk e => getD_set_ob_other _ _ e
      refine ⟨σ', h1, h2.trans p1, h3.trans (by simp), fun i w A ow ob v h => h4 i w A ow ob v (p2 i w A ow ob v h), fun i q hq => ?_, fun kk => ?_, fun kk hkk => ?_⟩
      · obtain ⟨g1, g2⟩ := h5 i q hq
        obtain ⟨g3, g4⟩ := p3 i q g1
        refine ⟨g3, fun kk c b' old' hkk hb' hc e => ?_⟩
        rcases List.mem_cons.1 hkk with rfl | hkk
        · rw [hb] at hb'
          cases hb'
          exact g4 ⟨by rw [e], c, by rw [e], Nat.zero_le _, by rw [Nat.zero_add]; exact hc⟩
        · have hne : kk ≠ k := fun e => hk0 (e ▸ hkk)
          exact g2 kk c b' old' hkk (by show (σ.ob.set k (.box true cs)).getD kk .none = _; rw [hob kk hne]; exact hb') hc e
      · rw [h6 kk]
        simp only [List.zip_cons_cons, fnd]
        by_cases hkk : kk = k
        · subst hkk
          rw [fnd_zip_none hk0, Nat.beq_refl]
          exact getD_set_ob_same _ _ hkl
        · have : Nat.beq k kk = false := by
            cases hb : Nat.beq k kk
            · rfl
            · exact absurd (beq_nat.1 hb).symm hkk
          rw [this]
          simp only [cond_false]
          split
          · rfl
          · exact hob kk hkk
      · rcases List.mem_cons.1 hkk with rfl | hkk'
        · refine ⟨b, old, cs, hb, ?_, hl, hok⟩
          simp only [List.zip_cons_cons, fnd, Nat.beq_refl, cond_true]
        · have hne : kk ≠ k := fun e => hk0 (e ▸ hkk')
          obtain ⟨b', old', cs', g1, g2, g3⟩ := h7 kk hkk'
          refine ⟨b', old', cs', by rw [← hob kk hne]; exact g1, ?_, g3⟩
          have : Nat.beq k kk = false := by
            cases hb : Nat.beq k kk
            · rfl
            · exact absurd (beq_nat.1 hb).symm hne
          simp only [List.zip_cons_cons, fnd, this, cond_false]
          exact g2
    · cases he

/-- which object of the result is which box -/
theorem back_fnd : ∀ {as vs os : List V}, (as.filterMap ptrKey).Nodup → vs.length = as.length →
    (∀ (i : Nat) x, as[i]? = some x → (∃ k cs, x = .ptr k none 0 0 ∧ vs[i]? = some (.io cs)) ∨ (ptrKey x = none ∧ vs[i]? = some x ∧ ∀ cs, x ≠ .io cs)) →
    ∀ (i : Nat), (backObs vs os).getD i .none = match (as[i]?).bind ptrKey with
      | some k => match fnd ((as.filterMap ptrKey).zip os) k with | some x => obArg x | none => .none
      | none => .none
  | [], [], os, _, _, _, i => by simp [backObs]
  | [], _ :: _, os, _, hl, _, i => by simp at hl
  | _ :: _, [], os, _, hl, _, i => by simp at hl
  | x :: as, v :: vs, os, hnd, hl, h, i => by
    have hrest : ∀ (i : Nat) x, as[i]? = some x → (∃ k cs, x = .ptr k none 0 0 ∧ vs[i]? = some (.io cs)) ∨ (ptrKey x = none ∧ vs[i]? = some x ∧ ∀ cs, x ≠ .io cs) := fun i x hx => by
      have := h (i + 1) x (by simpa using hx)
      simpa using this
    rcases h 0 x rfl with ⟨k, cs, rfl, hv⟩ | ⟨hk, hv, hni⟩
    · simp at hv
      subst hv
      have hf : (V.ptr k none 0 0 :: as).filterMap ptrKey = k :: as.filterMap ptrKey := List.filterMap_cons_some (f := ptrKey) (b := k) rfl
      rw [hf] at hnd ⊢
      obtain ⟨hk0, hnd'⟩ := List.nodup_cons.1 hnd
      cases os with
      | nil =>
        have hb : backObs (.io cs :: vs) [] = .none :: backObs vs [] := rfl
        rw [hb]
        cases i with
        | zero => simp [ptrKey, fnd]
        | succ i =>
          have := back_fnd (os := []) hnd' (by simpa using hl) hrest i
          simp only [List.zip_nil_right] at this
          simp only [List.getElem?_cons_succ, List.zip_nil_right]
          rw [← this]
          simp [List.getD_eq_getElem?_getD]
      | cons q os =>
        have hb : backObs (.io cs :: vs) (q :: os) = obArg q :: backObs vs os := rfl
        rw [hb]
        cases i with
        | zero => simp [ptrKey, fnd]
        | succ i =>
          have := back_fnd (os := os) hnd' (by simpa using hl) hrest i
          simp only [List.getElem?_cons_succ]
          have e : (obArg q :: backObs vs os).getD (i + 1) .none = (backObs vs os).getD i .none := by simp [List.getD_eq_getElem?_getD]
          rw [e, this]
          cases hp : (as[i]?).bind ptrKey with
          | none => rfl
          | some k' =>
            simp only [List.zip_cons_cons, fnd]
            have hne : k' ≠ k := fun e => hk0 (by
              obtain ⟨y, hy, hyk⟩ := Option.bind_eq_some_iff.1 hp
              subst e
              exact List.mem_filterMap.2 ⟨y, List.mem_of_getElem? hy, hyk⟩)
            have : Nat.beq k k' = false := by
              cases hb : Nat.beq k k'
              · rfl
              · exact absurd (beq_nat.1 hb).symm hne
            rw [this]
            rfl
    · simp at hv
      subst hv
      rw [List.filterMap_cons_none hk] at hnd ⊢
      have hb : backObs (v :: vs) os = .none :: backObs vs os := by
        cases v <;> first | rfl | exact absurd rfl (hni _)
      rw [hb]
      cases i with
      | zero => simp [hk]
      | succ i =>
        have := back_fnd (os := os) hnd (by simpa using hl) hrest i
        simp only [List.getElem?_cons_succ]
        rw [← this]
        simp [List.getD_eq_getElem?_getD]
end
end Go.Proofs.YtmddfhjgdhjmkaaDoor.VM
