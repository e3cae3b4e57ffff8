/- The abstract machine and the memory: functions. -/
import Derived.Test.YtmddfhjgdhjmkaaDoorVMS13
set_option linter.unusedVariables false
set_option linter.unusedSimpArgs false
namespace Go.Proofs.YtmddfhjgdhjmkaaDoor.VM

section
variable {T : TT} {r : Res}

/-- a parameter's slot -/
def SlotOk (k : Nat) (a x : V) : Prop :=
  ((∀ cs, a ≠ .io cs) ∧ ∀ w A ow ob u, VR w A u a → SR w A ow ob u x) ∨ ∃ cs, a = .io cs ∧ x = .ptr k none 0 0
/-- boxes come in where the types say so -/
def MatchA (T : TT) : List TypeId → List V → Prop
  | [], caps => ∀ c ∈ caps, ∃ x j, c = .rp x j
  | t :: ts, a :: args => ((∃ ss cs, T.ty t = .p ss ∧ a = .io cs) ∨ ((∀ ss, T.ty t ≠ .p ss) ∧ ∀ cs, a ≠ .io cs)) ∧ MatchA T ts args
  | _ :: _, [] => False

theorem init_ok {n : Nat} : ∀ (ts : List TypeId) (args : List V) (i : Nat) {K : List V → List Ob → Option Res}, init T n args ts i K = some r →
    ∃ sl ob, K sl ob = some r ∧ sl.length = n - i ∧ ob.length = n - i ∧ i + args.length ≤ n ∧ MatchA T ts args ∧
      (∀ (j : Nat) a x, args[j]? = some a → sl[j]? = some x → SlotOk (i + j) a x) ∧ (∀ j, args.length ≤ j → sl.getD j .dead = .dead) ∧
      ∀ j, ob.getD j .none = (args.map obArg).getD j .none
  | [], caps, i, K, h => by
    unfold init at h
    obtain ⟨hc, hK⟩ := bif_some h
    simp only [Bool.and_eq_true] at hc
    have hle := Nat.le_of_ble_eq_true hc.2
    have hrp : ∀ c ∈ caps, ∃ x j, c = .rp x j := fun c hm => by
      have := List.all_eq_true.1 hc.1 c hm
      cases c <;> first | exact ⟨_, _, rfl⟩ | cases this
    refine ⟨_, _, hK, by simp only [List.length_append, List.length_replicate]; omega, by simp, hle, hrp, fun j a x ha hx => ?_, fun j hj => ?_, fun j => ?_⟩
    · have hj : j < caps.length := (List.getElem?_eq_some_iff.1 ha).1
      rw [List.getElem?_append_left hj, ha] at hx
      cases hx
      obtain ⟨y, q, rfl⟩ := hrp a (List.mem_of_getElem? ha)
      exact .inl ⟨by simp, fun w A ow ob u hu => hu⟩
    · rw [List.getD_eq_getElem?_getD, List.getElem?_append_right hj, List.getElem?_replicate]
      split <;> rfl
    · have h1 : (List.replicate (n - i) Ob.none).getD j .none = .none := getD_none (fun o ho => (List.mem_replicate.1 ho).2) j
      have h2 : (caps.map obArg).getD j .none = .none := getD_none (fun o ho => by
        obtain ⟨c, hc, rfl⟩ := List.mem_map.1 ho
        obtain ⟨y, q, rfl⟩ := hrp c hc
        rfl) j
      rw [h1, h2]
  | t :: ts, [], i, K, h => by cases h
  | t :: ts, a :: args, i, K, h => by
    have step : ∀ (x : V) (o : Ob), o = obArg a → SlotOk i a x → ((∃ ss cs, T.ty t = .p ss ∧ a = .io cs) ∨ ((∀ ss, T.ty t ≠ .p ss) ∧ ∀ cs, a ≠ .io cs)) →
        init T n args ts (i + 1) (fun sl ob => K (x :: sl) (o :: ob)) = some r →
        ∃ sl ob, K sl ob = some r ∧ sl.length = n - i ∧ ob.length = n - i ∧ i + (a :: args).length ≤ n ∧ MatchA T (t :: ts) (a :: args) ∧
          (∀ (j : Nat) a' x, (a :: args)[j]? = some a' → sl[j]? = some x → SlotOk (i + j) a' x) ∧ (∀ j, (a :: args).length ≤ j → sl.getD j .dead = .dead) ∧
          ∀ j, ob.getD j .none = ((a :: args).map obArg).getD j .none := fun x o ho hx hm he => by
      obtain ⟨sl, ob, hK, h1, h2, h3, h4, h5, h6, h7⟩ := init_ok ts args (i + 1) he
      refine ⟨_, _, hK, by simp only [List.length_cons]; omega, by simp only [List.length_cons]; omega, by simp only [List.length_cons]; omega, ⟨hm, h4⟩, fun j a' y ha hy => ?_, fun j hj => ?_, fun j => ?_⟩
      · cases j with
        | zero => simp at ha hy; subst ha; subst hy; exact hx
        | succ j =>
          have := h5 j a' y (by simpa using ha) (by simpa using hy)
          rw [show i + 1 + j = i + (j + 1) by omega] at this
          exact this
      · cases j with
        | zero => simp at hj
        | succ j =>
          have := h6 j (by simpa using hj)
          simpa [List.getD_eq_getElem?_getD] using this
      · cases j with
        | zero => simp [ho]
        | succ j =>
          have := h7 j
          simpa [List.getD_eq_getElem?_getD] using this
    unfold init at h
    split at h
    · rename_i s hty
      obtain ⟨c, he, hc1, hc2, hc3⟩ := unC_some h
      have hni : ∀ cs, a ≠ .io cs := fun cs e => by rw [e] at hc2; exact hc2
      refine step c .none (obArg_none hni).symm (.inl ⟨hni, fun w A ow ob u hu => ?_⟩) (.inr ⟨fun ss e => (by rw [hty] at e; cases e), hni⟩) he
      rw [hc1.sr]
      rw [hc2.vr] at hu
      exact hc3 _ _ _ hu
    · rename_i ss hty
      obtain ⟨cs, rfl, hl, he⟩ := unSt_some h
      exact step (.dt (.st cs)) .none rfl (.inl ⟨by simp, fun w A ow ob u hu => hu⟩) (.inr ⟨fun ss e => (by rw [hty] at e; cases e), by simp⟩) he
    · rename_i ss hty
      obtain ⟨cs, rfl, he⟩ := unIo_some h
      obtain ⟨_, he⟩ := bif_some he
      exact step _ (.box true cs) rfl (.inr ⟨cs, rfl, rfl⟩) (.inl ⟨ss, cs, hty, rfl⟩) he
    · cases h

def unOb : Ob → Ob
  | .box b cs => .box b (cs.map unO)
  | o => o
theorem outs_ok {ob : List Ob} : ∀ (ts : List TypeId) (args : List V) (i : Nat) {K : List V → Option Res}, MatchA T ts args → outs T ob ts i K = some r →
    ∃ os, K os = some r ∧ ∀ j, (backObs args os).getD j .none = match args[j]? with
      | some (.io _) => unOb (ob.getD (i + j) .none)
      | _ => .none
  | [], caps, i, K, hm, h => by
    refine ⟨[], h, fun j => ?_⟩
    have hni : ∀ x ∈ caps, ∀ cs, x ≠ .io cs := fun x hx cs => by
      obtain ⟨y, q, rfl⟩ := hm x hx; simp
    rw [getD_none (backObs_none hni)]
    split
    · rename_i cs hj
      exact absurd rfl (hni _ (List.mem_of_getElem? hj) cs)
    · rfl
  | t :: ts, a :: args, i, K, hm, h => by
    obtain ⟨hm1, hm2⟩ := hm
    unfold outs at h
    rcases hm1 with ⟨ss, cs, hty, rfl⟩ | ⟨hty, hni⟩
    · rw [hty] at h
      simp only at h
      split at h
      · rename_i cs' hb
        obtain ⟨os, hK, hos⟩ := outs_ok ts args (i + 1) hm2 h
        refine ⟨_, hK, fun j => ?_⟩
        show (obArg (.io (cs'.map unO)) :: backObs args os).getD j .none = _
        cases j with
        | zero => simp [obArg]; rw [← List.getD_eq_getElem?_getD, hb]; rfl
        | succ j =>
          have := hos j
          simp only [List.getD_eq_getElem?_getD, List.getElem?_cons_succ] at this ⊢
          rw [this, show i + 1 + j = i + (j + 1) by omega]
      · cases h
    · have h' : outs T ob ts (i + 1) K = some r := by
        split at h
        · rename_i ss e; exact absurd e (hty ss)
        · exact h
      obtain ⟨os, hK, hos⟩ := outs_ok ts args (i + 1) hm2 h'
      refine ⟨os, hK, fun j => ?_⟩
      have hb : backObs (a :: args) os = .none :: backObs args os := by
        cases a <;> first | rfl | exact absurd rfl (hni _)
      rw [hb]
      cases j with
      | zero =>
        simp only [List.getD_eq_getElem?_getD, List.getElem?_cons_zero, Option.getD_some]
        split
        · rename_i cs e; simp at e; exact absurd e (hni cs)
        · rfl
      | succ j =>
        have := hos j
        simp only [List.getD_eq_getElem?_getD, List.getElem?_cons_succ] at this ⊢
        rw [this, show i + 1 + j = i + (j + 1) by omega]
  | t :: ts, [], i, K, hm, h => hm.elim
end

section
variable {U : Nat → Prop} {w : World} {ow : Own}
theorem getD_un (ob : List Ob) (k : Nat) : (ob.map unOb).getD k .none = unOb (ob.getD k .none) := by
  simp only [List.getD_eq_getElem?_getD, List.getElem?_map]
  cases ob[k]? <;> rfl
theorem unO_own {v : V} {o : Bool} {z : Nat} {xs : List V} (h : unO v = .own o z xs) : v = .own o z xs ∧ o = true := by
  cases v with
  | own o' z' xs' => cases o' <;> simp [unO] at h; exact ⟨by simp [h], h.1⟩
  | _ => simp [unO] at h
theorem owned_un (ob : List Ob) (k : Nat) (c : Option Nat) : owned (ob.map unOb) k c ↔ owned ob k c := by
  unfold owned
  rw [getD_un]
  cases ob.getD k .none with
  | none => cases c <;> rfl
  | row => cases c <;> rfl
  | box b cs =>
    cases c with
    | none => rfl
    | some j =>
      simp only [unOb, List.getElem?_map]
      constructor
      · rintro ⟨z, xs, h⟩
        obtain ⟨v, hv, hu⟩ := Option.map_eq_some_iff.1 h
        exact ⟨z, xs, by rw [hv, (unO_own hu).1]⟩
      · rintro ⟨z, xs, h⟩
        exact ⟨z, xs, by rw [h]; rfl⟩
theorem alive_un {ob : List Ob} {k : Nat} {c : Option Nat} (h : alive (ob.map unOb) k c) : alive ob k c := by
  unfold alive at *
  rw [getD_un] at h
  cases ho : ob.getD k .none with
  | none => rw [ho] at h; cases c <;> exact h
  | row => rw [ho] at h; cases c <;> exact h
  | box b cs =>
    rw [ho] at h
    cases c with
    | none => trivial
    | some j =>
      simp only [unOb, List.getElem?_map] at h
      obtain ⟨o, z, xs, h⟩ := h
      obtain ⟨v, hv, hu⟩ := Option.map_eq_some_iff.1 h
      exact ⟨o, z, xs, by rw [hv, (unO_own hu).1]⟩
theorem Fz.un (ob : List Ob) (b : Nat) : Fz U w ow (ob.map unOb) b ↔ Fz U w ow ob b :=
  ⟨fun h => ⟨h.1, h.2.1, fun k c hk => h.2.2 k c ((owned_un ob k c).2 hk)⟩, fun h => ⟨h.1, h.2.1, fun k c hk => h.2.2 k c ((owned_un ob k c).1 hk)⟩⟩
/-- what is frozen in boxes is data -/
theorem HO.un {ob : List Ob} (h : HO U w ow ob) : HO U w ow (ob.map unOb) := by
  refine ⟨fun k => ?_, fun k c k' c' h1 h2 e => h.inj k c k' c' (alive_un h1) (alive_un h2) e, fun k c h1 => h.lt k c (alive_un h1)⟩
  rw [getD_un]
  have hk := h.obs k
  have hA : ∀ b, Fz U w ow ob b → Fz U w ow (ob.map unOb) b ∧ w.heap[b]? = w.heap[b]? := fun b hb => ⟨(Fz.un ob b).2 hb, rfl⟩
  cases ho : ob.getD k .none with
  | none => trivial
  | row b z xs => rw [ho] at hk; exact hk.keep hA (fun _ => ⟨rfl, rfl⟩) (fun _ _ _ _ _ _ _ _ => ⟨rfl, rfl⟩)
  | box b cs =>
    rw [ho] at hk
    obtain ⟨h1, h2⟩ := hk
    refine ⟨by rw [List.length_map]; exact h1, fun j v x hv hx => ?_⟩
    rw [List.getElem?_map] at hx
    obtain ⟨y, hy, hx⟩ := Option.map_eq_some_iff.1 hx
    have hb := h2 j v y hv hy
    by_cases hfr : ∃ z xs, y = .own false z xs
    · obtain ⟨z, xs, rfl⟩ := hfr
      have hx : V.sl z xs = x := hx
      subst hx
      obtain ⟨c, rfl, hr⟩ := hb
      have hal : alive ob k (some j) := by unfold alive; rw [ho]; exact ⟨false, z, xs, hy⟩
      have hF : Fz U w ow (ob.map unOb) (ow k (some j)) := (Fz.un ob _).2 ⟨(h.lt _ _ hal).2, (h.lt _ _ hal).1, fun k' c' hk' e => by
        obtain ⟨e1, e2⟩ := h.inj _ _ _ _ (alive_of_owned hk') hal e
        subst e1; subst e2
        unfold owned at hk'
        rw [ho] at hk'
        obtain ⟨z', xs', hk'⟩ := hk'
        rw [hy] at hk'; cases hk'⟩
      have hr' := hr.keep (w' := w) (A' := Fz U w ow (ob.map unOb)) hA rfl
      exact FR.ofRow hr' hF (fun i y hy => hy) rfl hr.le
    · have hyx : unO y = y := by
        cases y with
        | own o z xs => cases o <;> first | rfl | exact absurd ⟨z, xs, rfl⟩ hfr
        | _ => rfl
      rw [hyx] at hx
      subst hx
      exact hb.keep hA (fun _ _ _ _ => ⟨rfl, rfl⟩)
end
end Go.Proofs.YtmddfhjgdhjmkaaDoor.VM
