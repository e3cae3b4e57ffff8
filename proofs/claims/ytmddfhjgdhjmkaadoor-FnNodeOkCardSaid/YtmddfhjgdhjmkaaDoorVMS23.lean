/- The abstract machine and the memory: calls that are handed boxes, done. -/
import Derived.Test.YtmddfhjgdhjmkaaDoorVMS22
set_option linter.unusedVariables false
set_option linter.unusedSimpArgs false
namespace Go.Proofs.YtmddfhjgdhjmkaaDoor.VM

section
variable {P : Program} {T : TT} {U : Nat → Prop} {w0 w w' : World} {F0 : Fr} {σ σ' : St} {a : Act} {ow ow' : Own} {o : Oper} {r : Res}

theorem OR.rename {A : Nat → Prop} {k i : Nat} {ob : Ob} (h : OR w A ow k ob) (he : ∀ c, ow' i c = ow k c) : OR w A ow' i ob := by
  cases ob with
  | none => trivial
  | row b z xs => obtain ⟨c, hr⟩ := h; exact ⟨c, by rw [he]; exact hr⟩
  | box b cs =>
    obtain ⟨h1, h2⟩ := h
    refine ⟨by rw [he]; exact h1, fun j v x hv hx => ?_⟩
    rw [he] at hv
    have hb := h2 j v x hv hx
    cases x with
    | own o z xs => obtain ⟨c, e1, e2⟩ := hb; exact ⟨c, by rw [he]; exact e1, by rw [he]; exact e2⟩
    | _ => exact hb
theorem OR.grow {A A' : Nat → Prop} {k : Nat} {ob : Ob} (h : OR w A ow k ob) (hA : ∀ b, A b → A' b) : OR w A' ow k ob :=
  h.keep (fun b hb => ⟨hA b hb, rfl⟩) (fun _ => ⟨rfl, rfl⟩) (fun _ _ _ _ _ _ _ _ => ⟨rfl, rfl⟩)

theorem key_inj : ∀ {as : List V}, (as.filterMap ptrKey).Nodup → ∀ {i j k : Nat}, (as[i]?).bind ptrKey = some k → (as[j]?).bind ptrKey = some k → i = j
  | [], _, i, j, k, hi, _ => by simp at hi
  | x :: as, hnd, i, j, k, hi, hj => by
    have mem : ∀ {i : Nat}, (as[i]?).bind ptrKey = some k → k ∈ as.filterMap ptrKey := fun {i} h => by
      obtain ⟨y, hy, hk⟩ := Option.bind_eq_some_iff.1 h
      exact List.mem_filterMap.2 ⟨y, List.mem_of_getElem? hy, hk⟩
    cases hx : ptrKey x with
    | none =>
      rw [List.filterMap_cons_none hx] at hnd
      cases i with
      | zero => simp [hx] at hi
      | succ i => cases j with
        | zero => simp [hx] at hj
        | succ j => exact congrArg (· + 1) (key_inj hnd (k := k) (by simpa using hi) (by simpa using hj))
    | some kx =>
      rw [List.filterMap_cons_some hx] at hnd
      obtain ⟨h1, h2⟩ := List.nodup_cons.1 hnd
      cases i with
      | zero => cases j with
        | zero => rfl
        | succ j =>
          simp [hx] at hi
          subst hi
          exact absurd (mem (by simpa using hj)) h1
      | succ i => cases j with
        | zero =>
          simp [hx] at hj
          subst hj
          exact absurd (mem (by simpa using hi)) h1
        | succ j => exact congrArg (· + 1) (key_inj h2 (k := k) (by simpa using hi) (by simpa using hj))

/-- the world behind the call: the boxes hold what came back -/
theorem io_sim {as vs : List V} {rr : Res} {σ2 : St} (h : Sim T.globL U w0 F0 σ a w ow) (hnd : (as.filterMap ptrKey).Nodup)
    (hobA : ∀ i, (vs.map obArg).getD i .none = match (as[i]?).bind ptrKey with | some k => unOb (σ.ob.getD k .none) | none => .none)
    (hio : ∀ (i : Nat) k, (as[i]?).bind ptrKey = some k → ∃ cs, vs[i]? = some (.io cs))
    {u : Value} (hx : Ext w w' (ownB (vs.map obArg) fun i c => ow (((as[i]?).bind ptrKey).getD 0) c)) (hTh : ∀ b n, Th w b n → Th w' b n)
    (hho : HO (fun b => Fz U w ow σ.ob b ∨ ownB (vs.map obArg) (fun i c => ow (((as[i]?).bind ptrKey).getD 0) c) b ∨ w.heap.size ≤ b) w' ow' (resObs vs rr))
    (hpin : ∀ (i : Nat) cs, vs[i]? = some (.io cs) → ow' i none = ow (((as[i]?).bind ptrKey).getD 0) none)
    (hown : ∀ k c, owned (resObs vs rr) k c → ownB (vs.map obArg) (fun i c => ow (((as[i]?).bind ptrKey).getD 0) c) (ow' k c) ∨ w.heap.size ≤ ow' k c)
    (hres : ∀ (i : Nat) k, (as[i]?).bind ptrKey = some k → (resObs vs rr).getD i .none = σ2.ob.getD k .none ∧ ∃ b old cs, σ.ob.getD k .none = .box b old ∧ σ2.ob.getD k .none = .box true cs ∧ cs.length = old.length ∧ ∀ c ∈ cs, ∀ z xs, c ≠ .own false z xs)
    (hsll : σ2.sl.length = σ.sl.length) (hobl : σ2.ob.length = σ.ob.length) (hsl : ∀ i w A ow ob v, SR w A ow ob v (σ.sl.getD i .dead) → SR w A ow ob v (σ2.sl.getD i .dead))
    (hky : ∀ i q, q ∈ keysV (σ2.sl.getD i .dead) → ∀ k c b old, k ∈ as.filterMap ptrKey → σ.ob.getD k .none = .box b old → c < old.length → q ≠ (k, some c))
    (hsame : ∀ k, k ∉ as.filterMap ptrKey → σ2.ob.getD k .none = σ.ob.getD k .none) :
    ∃ ow2, Sim T.globL U w0 F0 σ2 a w' ow2 ∧ ∀ b, Fz (fun b => Fz U w ow σ.ob b ∨ ownB (vs.map obArg) (fun i c => ow (((as[i]?).bind ptrKey).getD 0) c) b ∨ w.heap.size ≤ b) w' ow' (resObs vs rr) b → Fz U w' ow2 σ2.ob b := by
  classical
  let ow2 : Own := fun kk c => if hh : ∃ i, (as[i]?).bind ptrKey = some kk then ow' (Classical.choose hh) c else ow kk c
  have o_in : ∀ {i k : Nat}, (as[i]?).bind ptrKey = some k → ∀ c, ow2 k c = ow' i c := fun {i k} hi c => by
    have hh : ∃ i, (as[i]?).bind ptrKey = some k := ⟨i, hi⟩
    have e : Classical.choose hh = i := key_inj hnd (Classical.choose_spec hh) hi
    show (if hh : ∃ i, (as[i]?).bind ptrKey = some k then ow' (Classical.choose hh) c else ow k c) = _
    rw [dif_pos hh, e]
  have mem_iff : ∀ k, k ∈ as.filterMap ptrKey ↔ ∃ i, (as[i]?).bind ptrKey = some k := fun k => by
    rw [List.mem_filterMap]
    constructor
    · rintro ⟨x, hx, hk⟩
      obtain ⟨i, hi, rfl⟩ := List.getElem_of_mem hx
      exact ⟨i, by rw [List.getElem?_eq_getElem hi]; exact hk⟩
    · rintro ⟨i, hi⟩
      obtain ⟨x, hx, hk⟩ := Option.bind_eq_some_iff.1 hi
      exact ⟨x, List.mem_of_getElem? hx, hk⟩
  have o_out : ∀ {k : Nat}, k ∉ as.filterMap ptrKey → ∀ c, ow2 k c = ow k c := fun {k} hk c => dif_neg fun hh => hk ((mem_iff k).2 hh)
  -- what went in
  have wentIn : ∀ b, ownB (vs.map obArg) (fun i c => ow (((as[i]?).bind ptrKey).getD 0) c) b → ∃ k c, k ∈ as.filterMap ptrKey ∧ owned σ.ob k c ∧ ow k c = b := fun b ⟨i, c, ho, hb⟩ => by
    cases hi : (as[i]?).bind ptrKey with
    | none =>
      have := hobA i
      rw [hi] at this
      exact absurd (alive_of_owned ho) (alive_none this)
    | some k =>
      have this : (vs.map obArg).getD i .none = unOb (σ.ob.getD k .none) := by have := hobA i; rw [hi] at this; exact this
      have hb : ow (((as[i]?).bind ptrKey).getD 0) c = b := hb
      rw [hi] at hb
      refine ⟨k, c, (mem_iff k).2 ⟨i, hi⟩, ?_, hb⟩
      rw [← owned_un, owned_one, getD_un, ← this, ← owned_one]
      exact ho
  have wentB : ∀ b, ownB (vs.map obArg) (fun i c => ow (((as[i]?).bind ptrKey).getD 0) c) b → ownB σ.ob ow b := fun b hb => by
    obtain ⟨k, c, _, h1, h2⟩ := wentIn b hb; exact ⟨k, c, h1, h2⟩
  -- an object that came back
  have cameAl : ∀ {i k c}, (as[i]?).bind ptrKey = some k → alive σ2.ob k c → owned (resObs vs rr) i c := fun {i k c} hi ha => by
    obtain ⟨e, b, old, cs, h1, h2, h3, h4⟩ := hres i k hi
    unfold alive at ha
    rw [h2] at ha
    rw [owned_one, e, h2, ]
    cases c with
    | none => rfl
    | some c =>
      obtain ⟨o0, z, xs, hc⟩ := ha
      cases o0 with
      | true => exact ⟨z, xs, hc⟩
      | false => exact absurd rfl (h4 _ (List.mem_of_getElem? hc) z xs)
  -- where it lies: no other object lies there
  have apart : ∀ {i k c kk cc}, (as[i]?).bind ptrKey = some k → alive σ2.ob k c → kk ∉ as.filterMap ptrKey → alive σ.ob kk cc → ow' i c ≠ ow kk cc := fun {i k c kk cc} hi ha hkk hal e => by
    rcases hown i c (cameAl hi ha) with hb | hb
    · obtain ⟨k0, c0, h1, h2, h3⟩ := wentIn _ hb
      have := (h.ho.inj _ _ _ _ (alive_of_owned h2) hal (h3.trans e)).1
      exact hkk (this ▸ h1)
    · have := (h.ho.lt _ _ hal).1; omega
  have hxB : Ext w w' (ownB σ.ob ow) := ⟨hx.os, hx.tape, hx.output, hx.size, fun b hb hn => hx.block b hb fun hh => hn (wentB b hh)⟩
  have hF2 : ∀ b, Fz (fun b => Fz U w ow σ.ob b ∨ ownB (vs.map obArg) (fun i c => ow (((as[i]?).bind ptrKey).getD 0) c) b ∨ w.heap.size ≤ b) w' ow' (resObs vs rr) b → Fz U w' ow2 σ2.ob b := fun b hb => by
    refine ⟨?_, hb.2.1, fun kk c hk e => ?_⟩
    · rcases hb.1 with h1 | h1 | h1
      · exact h1.1
      · obtain ⟨k, c, _, h2, h3⟩ := wentIn b h1
        rw [← h3]; exact (h.ho.lt _ _ (alive_of_owned h2)).2
      · exact h.un b (Nat.le_trans h.ext.size h1)
    · by_cases hkk : kk ∈ as.filterMap ptrKey
      · obtain ⟨i, hi⟩ := (mem_iff kk).1 hkk
        rw [o_in hi] at e
        exact hb.2.2 i c (cameAl hi (alive_of_owned hk)) e
      · rw [o_out hkk] at e
        have hk' : owned σ.ob kk c := by rw [← owned_congr (hsame kk hkk) c]; exact hk
        rcases hb.1 with h1 | h1 | h1
        · exact h1.2.2 kk c hk' e
        · obtain ⟨k, c', h0, h2, h3⟩ := wentIn b h1
          have := (h.ho.inj _ _ _ _ (alive_of_owned h2) (alive_of_owned hk') (h3.trans e.symm)).1
          exact hkk (this ▸ h0)
        · have := (h.ho.lt _ _ (alive_of_owned hk')).1; omega
  refine ⟨ow2, h.turn hxB hTh σ2.sl σ2.ob hsll hobl (fun i A v hv => hsl i w A ow σ.ob v hv) (fun i kk cc hkc => ?_) (fun kk c ho => ?_) (fun kk c kk' c' h1 h2 e => ?_) (fun kk c h1 => ?_) (fun hA kk => ?_) (fun kk b hb => ?_), hF2⟩
  · by_cases hkk : kk ∈ as.filterMap ptrKey
    · obtain ⟨j, hj⟩ := (mem_iff kk).1 hkk
      obtain ⟨e, b, old, cs, h1, h2, h3, h4⟩ := hres j kk hj
      cases cc with
      | none =>
        unfold sameK same1
        rw [h1]
        refine ⟨true, cs, h2, h3, ?_⟩
        obtain ⟨cs', hv⟩ := hio j kk hj
        rw [o_in hj, hpin j cs' hv, hj]
        rfl
      | some c =>
        intro o0 z xs h0
        obtain ⟨b', cs', e1, e2⟩ := obRow_some.1 h0
        have e1 : σ.ob.getD kk .none = .box b' cs' := e1
        exact absurd rfl (hky i _ hkc kk c b' cs' hkk e1 (List.getElem?_eq_some_iff.1 e2).1)
    · exact sameK_congr (hsame kk hkk) (o_out hkk) cc
  · by_cases hkk : kk ∈ as.filterMap ptrKey
    · obtain ⟨i, hi⟩ := (mem_iff kk).1 hkk
      rw [o_in hi]
      exact (hown i c (cameAl hi (alive_of_owned ho))).imp (wentB _) id
    · rw [o_out hkk]
      exact .inl ⟨kk, c, by rw [← owned_congr (hsame kk hkk) c]; exact ho, rfl⟩
  · by_cases hkk : kk ∈ as.filterMap ptrKey <;> by_cases hkk' : kk' ∈ as.filterMap ptrKey
    · obtain ⟨i, hi⟩ := (mem_iff kk).1 hkk
      obtain ⟨i', hi'⟩ := (mem_iff kk').1 hkk'
      rw [o_in hi, o_in hi'] at e
      obtain ⟨e1, e2⟩ := hho.inj _ _ _ _ (alive_of_owned (cameAl hi h1)) (alive_of_owned (cameAl hi' h2)) e
      subst e1
      rw [hi] at hi'
      cases hi'
      exact ⟨rfl, e2⟩
    · obtain ⟨i, hi⟩ := (mem_iff kk).1 hkk
      rw [o_in hi, o_out hkk'] at e
      exact absurd e (apart hi h1 hkk' (by rw [← alive_congr (hsame kk' hkk') c']; exact h2))
    · obtain ⟨i, hi⟩ := (mem_iff kk').1 hkk'
      rw [o_in hi, o_out hkk] at e
      exact absurd e.symm (apart hi h2 hkk (by rw [← alive_congr (hsame kk hkk) c]; exact h1))
    · rw [o_out hkk, o_out hkk'] at e
      exact h.ho.inj _ _ _ _ (by rw [← alive_congr (hsame kk hkk) c]; exact h1) (by rw [← alive_congr (hsame kk' hkk') c']; exact h2) e
  · by_cases hkk : kk ∈ as.filterMap ptrKey
    · obtain ⟨i, hi⟩ := (mem_iff kk).1 hkk
      rw [o_in hi]
      have ho := cameAl hi h1
      refine ⟨(hho.lt _ _ (alive_of_owned ho)).1, ?_⟩
      rcases hown i c ho with hb | hb
      · obtain ⟨k0, c0, _, h2, h3⟩ := wentIn _ hb
        rw [← h3]; exact (h.ho.lt _ _ (alive_of_owned h2)).2
      · exact h.un _ (Nat.le_trans h.ext.size hb)
    · rw [o_out hkk]
      have := h.ho.lt kk c (by rw [← alive_congr (hsame kk hkk) c]; exact h1)
      exact ⟨Nat.lt_of_lt_of_le this.1 hx.size, this.2⟩
  · by_cases hkk : kk ∈ as.filterMap ptrKey
    · obtain ⟨i, hi⟩ := (mem_iff kk).1 hkk
      obtain ⟨e, _⟩ := hres i kk hi
      have := (hho.obs i).grow hF2
      rw [e] at this
      exact this.rename (o_in hi)
    · rw [hsame kk hkk]
      have hb : ∀ c, alive σ.ob kk c → w'.heap[ow kk c]? = w.heap[ow kk c]? := fun c ha => hx.block _ (h.ho.lt _ _ ha).1 fun hh => by
        obtain ⟨k0, c0, h1, h2, h3⟩ := wentIn _ hh
        have := (h.ho.inj _ _ _ _ (alive_of_owned h2) ha h3).1
        exact hkk (this ▸ h1)
      exact (h.ho.obs kk).keep hA (fun hn => ⟨o_out hkk _, hb none (aliveOb hn)⟩) (fun b cs j o0 z xs hb' hc => ⟨o_out hkk _, hb (some j) (aliveBox hb' hc)⟩)
  · by_cases hkk : kk ∈ as.filterMap ptrKey
    · obtain ⟨i, hi⟩ := (mem_iff kk).1 hkk
      obtain ⟨cs', hv⟩ := hio i kk hi
      obtain ⟨_, b', old, cs, h1, _⟩ := hres i kk hi
      refine .inr ?_
      rw [o_in hi, hpin i cs' hv, hi]
      exact (h.pin kk b hb).resolve_left (by rw [h1]; simp)
    · rw [o_out hkk, hsame kk hkk]
      exact h.pin kk b hb
end
end Go.Proofs.YtmddfhjgdhjmkaaDoor.VM
