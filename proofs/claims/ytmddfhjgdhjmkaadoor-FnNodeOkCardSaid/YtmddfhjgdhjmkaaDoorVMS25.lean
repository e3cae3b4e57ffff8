/- The abstract machine and the memory: cells of boxes as their types have them; the end. -/
import Derived.Test.YtmddfhjgdhjmkaaDoorVMS24
set_option linter.unusedVariables false
set_option linter.unusedSimpArgs false
namespace Go.Proofs.YtmddfhjgdhjmkaaDoor.VM

section
variable {R : Type} {r : R}
/-- c stands for what v stands for -/
structure CellOk (v c : V) : Prop where
  bc : ∀ w A ow k j u, BC w A ow k j u v → BC w A ow k j u c
  own : ∀ o z xs, v = .own o z xs ↔ c = .own o z xs

theorem CellOk.same (v : V) : CellOk v v := ⟨fun _ _ _ _ _ _ h => h, fun _ _ _ => Iff.rfl⟩
theorem unC_cell {s : Sh} {v : V} {K : V → Option R} (h : unC s v K = some r) : ∃ c, K c = some r ∧ CellOk v c := by
  obtain ⟨c, h1, h2, h3, h4⟩ := unC_some h
  refine ⟨c, h1, fun w A ow k j u hb => ?_, fun o z xs => ⟨fun e => ?_, fun e => ?_⟩⟩
  · rw [h3.bc] at hb; rw [h2.bc]; exact h4 _ _ _ hb
  · subst e; exact h3.elim
  · subst e; exact h2.elim
theorem unO1_cell {z : Nat} {v : V} {K : List V → Option R} (h : unO1 z v K = some r) : ∃ xs, K xs = some r ∧ v = .own true z xs := by
  unfold unO1 at h
  split at h
  · obtain ⟨hb, h2⟩ := bif_some h
    cases beq_nat.1 hb
    exact ⟨_, h2, rfl⟩
  · cases h
theorem rsC_some {s : Sh} {old v : V} {K : V → Option R} (h : rsC s old v K = some r) : ∃ c, K c = some r ∧ CellOk v c := by
  unfold rsC at h
  split at h
  · obtain ⟨xs, h2, rfl⟩ := unO1_cell h
    exact ⟨_, h2, .same _⟩
  · unfold unNO at h
    split at h
    · exact ⟨_, h, .same _⟩
    · obtain ⟨hb, h2⟩ := bif_some h
      cases beq_nat.1 hb
      exact ⟨_, h2, .same _⟩
    · obtain ⟨hb, h2⟩ := bif_some h
      cases beq_nat.1 hb
      exact ⟨_, h2, .same _⟩
    · cases h
  · exact unC_cell h
theorem rsCs_some {olds cs : List V} : ∀ {ss : List Sh} {j : Nat} {K : List V → Option R}, rsCs olds cs j ss K = some r →
    ∃ cs', K cs' = some r ∧ cs'.length = ss.length ∧ ∀ (q : Nat) c, cs'[q]? = some c → CellOk (cs.getD (j + q) .dead) c
  | [], j, K, h => ⟨[], h, rfl, fun q c hq => by simp at hq⟩
  | s :: ss, j, K, h => by
    unfold rsCs at h
    obtain ⟨c, h2, hc⟩ := rsC_some h
    obtain ⟨cs', h3, hl, hcs⟩ := rsCs_some h2
    refine ⟨c :: cs', h3, by simp [hl], fun q c' hq => ?_⟩
    cases q with
    | zero => simp at hq; subst hq; exact hc
    | succ q =>
      have := hcs q c' (by simpa using hq)
      rw [show j + 1 + q = j + (q + 1) by omega] at this
      exact this
end

section
variable {GL : List (Nat × V)} {U : Nat → Prop} {w0 w : World} {F0 : Fr} {σ : St} {a : Act} {ow : Own}
theorem Sim.cells (h : Sim GL U w0 F0 σ a w ow) {k : Nat} {o : Bool} {cs cs' : List V} (hk : σ.ob.getD k .none = .box o cs) (hl : cs'.length = cs.length)
    (hc : ∀ (q : Nat) c, cs'[q]? = some c → CellOk (cs.getD q .dead) c) : Sim GL U w0 F0 ⟨σ.sl, σ.ob.set k (.box o cs')⟩ a w ow := by
  have hkl : k < σ.ob.length := by
    rcases Nat.lt_or_ge k σ.ob.length with h1 | h1
    · exact h1
    · rw [List.getD_eq_getElem?_getD, List.getElem?_eq_none (by omega)] at hk; cases hk
  have hc2 : ∀ (q : Nat) c, cs'[q]? = some c → ∃ v, cs[q]? = some v ∧ CellOk v c := fun q c hq => by
    have h1 := hc q c hq
    have h2 : q < cs.length := by have := (List.getElem?_eq_some_iff.1 hq).1; omega
    rw [List.getD_eq_getElem?_getD, List.getElem?_eq_getElem h2] at h1
    exact ⟨_, List.getElem?_eq_getElem h2, h1⟩
  have hc3 : ∀ (q : Nat) v, cs[q]? = some v → ∃ c, cs'[q]? = some c ∧ CellOk v c := fun q v hq => by
    have h2 : q < cs'.length := by have := (List.getElem?_eq_some_iff.1 hq).1; omega
    obtain ⟨v', h3, h4⟩ := hc2 q _ (List.getElem?_eq_getElem h2)
    rw [hq] at h3; cases h3
    exact ⟨_, List.getElem?_eq_getElem h2, h4⟩
  refine h.obSet σ.sl k (.box o cs') rfl ?_ (fun _ _ _ h => h) fun i c _ => ?_
  · rw [hk]
    refine ⟨fun A hA => ?_, fun c hcc => ?_, fun c hcc => ?_⟩
    · obtain ⟨h1, h2⟩ := hA
      refine ⟨by rw [hl]; exact h1, fun j v x hv hx => ?_⟩
      obtain ⟨y, hy, hcy⟩ := hc2 j x hx
      exact hcy.bc _ _ _ _ _ _ (h2 j v y hv hy)
    · cases c with
      | none => exact hcc
      | some j =>
        obtain ⟨o', z, xs, hx⟩ := hcc
        obtain ⟨y, hy, hcy⟩ := hc2 j _ hx
        exact ⟨o', z, xs, by rw [hy, (hcy.own o' z xs).2 rfl]⟩
    · cases c with
      | none => exact hcc
      | some j =>
        obtain ⟨z, xs, hx⟩ := hcc
        obtain ⟨y, hy, hcy⟩ := hc2 j _ hx
        exact ⟨z, xs, by rw [hy, (hcy.own true z xs).2 rfl]⟩
  · have hset : (σ.ob.set k (.box o cs')).getD k .none = .box o cs' := getD_set_ob_same _ _ hkl
    cases c with
    | none =>
      unfold sameK same1
      rw [hk, hset]
      exact ⟨o, cs', rfl, hl, rfl⟩
    | some j =>
      intro o' z xs hr
      obtain ⟨b, cs0, e1, e2⟩ := obRow_some.1 hr
      have e1 : σ.ob.getD k .none = .box b cs0 := e1
      rw [hk] at e1; cases e1
      obtain ⟨c, e3, e4⟩ := hc3 j _ e2
      rw [(e4.own o' z xs).1 rfl] at e3
      exact ⟨o', xs, obRow_some.2 ⟨o, cs', hset, e3⟩, rfl, rfl⟩
end

section
variable {R : Type} {r : R} {T : TT}
theorem rsB_some {σ0 σ : St} {k : Nat} {ss : List Sh} {K : St → Option R} (h : rsB σ0 σ k ss K = some r) :
    ∃ σ', K σ' = some r ∧ ∀ GL U w0 F0 a w ow, Sim GL U w0 F0 σ a w ow → Sim GL U w0 F0 σ' a w ow := by
  unfold rsB at h
  split at h
  · rename_i o cs hk
    obtain ⟨hb, h2⟩ := bif_some h
    have hb := beq_nat.1 hb
    obtain ⟨cs', h3, hl, hc⟩ := rsCs_some h2
    exact ⟨_, h3, fun GL U w0 F0 a w ow hs => hs.cells hk (by omega) fun q c hq => by have := hc q c hq; rwa [Nat.zero_add] at this⟩
  · cases h
theorem rsA_some {σ0 : St} : ∀ {as : List (V × TypeId)} {σ : St} {K : St → Option R}, rsA T σ0 σ as K = some r →
    ∃ σ', K σ' = some r ∧ ∀ GL U w0 F0 a w ow, Sim GL U w0 F0 σ a w ow → Sim GL U w0 F0 σ' a w ow := by
  intro as
  induction as with
  | nil => exact fun h => ⟨_, h, fun _ _ _ _ _ _ _ h => h⟩
  | cons p as ih =>
    intro σ K h
    unfold rsA at h
    split at h
    · rename_i e; cases e
    · rename_i k t as' e
      cases e
      split at h
      · obtain ⟨σ1, h1, h2⟩ := rsB_some h
        obtain ⟨σ2, h3, h4⟩ := ih h1
        exact ⟨σ2, h3, fun GL U w0 F0 a w ow hs => h4 _ _ _ _ _ _ _ (h2 _ _ _ _ _ _ _ hs)⟩
      · exact ih h
    · rename_i e
      cases e
      exact ih h
end

section
variable {P : Program} {T : TT} {call : FuncId → List V → Option Res}
theorem loud_ok (hT : TOk P T) (hC : CallOk P T.globL call) : LoudOk P T call := fun U w0 F0 σ a w ow o K r h hpn hk => by
  obtain ⟨σ1, h1, h2⟩ := loud_ok0 hT hC U w0 F0 σ a w ow o _ r h hpn hk
  obtain ⟨σ2, h3, h4⟩ := rsA_some h1
  exact ⟨σ2, h3, fun Kq Q hq => h2 Kq Q fun a' w' ow' hs => hq a' w' ow' (h4 _ _ _ _ _ _ _ hs)⟩

/-- THE MACHINE TELLS THE TRUTH -/
theorem ev_ok (hT : TOk P T) (n : Nat) : CallOk P T.globL (ev T n) := (exE_ok hT (fun _ hC => loud_ok hT hC) n).call
end
end Go.Proofs.YtmddfhjgdhjmkaaDoor.VM
