/- The abstract machine and the memory: regions in any order. -/
import Derived.Test.YtmddfhjgdhjmkaaDoorVMS9
set_option linter.unusedVariables false
set_option linter.unusedSimpArgs false
namespace Go.Proofs.YtmddfhjgdhjmkaaDoor.VM

structure Eff where
  d : Nat
  x : V
  ob : Ob
  s : List (Nat × Option Nat)
def Eff.ap (e : Eff) (σ : St) : St := putN σ e.d e.x e.ob
def stM : List Eff → (Nat → Bool) → St → St
  | [], _, σ => σ
  | e :: E, D, σ => stM E (fun i => D (i + 1)) (if D 0 then e.ap σ else σ)

theorem stM_none : ∀ (E : List Eff) {D : Nat → Bool} {σ : St}, (∀ i, D i = false) → stM E D σ = σ
  | [], _, _, _ => rfl
  | e :: E, D, σ, h => by unfold stM; rw [h 0]; exact stM_none E fun i => h (i + 1)
theorem stM_congr : ∀ (E : List Eff) {D D' : Nat → Bool} {σ : St}, (∀ i, i < E.length → D i = D' i) → stM E D σ = stM E D' σ
  | [], _, _, _, _ => rfl
  | e :: E, D, D', σ, h => by
    unfold stM
    rw [h 0 (by simp)]
    exact stM_congr E fun i hi => h (i + 1) (by simp only [List.length_cons]; omega)
theorem putN_comm {σ : St} {d d' : Nat} {x x' : V} {ob ob' : Ob} (h : d ≠ d') : putN (putN σ d x ob) d' x' ob' = putN (putN σ d' x' ob') d x ob := by
  unfold putN
  congr 1
  · exact List.set_comm _ _ h
  · cases ob <;> cases ob' <;> first | rfl | exact List.set_comm _ _ h
theorem stM_ap : ∀ (E : List Eff) {D : Nat → Bool} {σ : St} {e : Eff}, e.d ∉ E.map Eff.d → stM E D (e.ap σ) = e.ap (stM E D σ)
  | [], _, _, _, _ => rfl
  | e' :: E, D, σ, e, h => by
    simp only [List.map_cons, List.mem_cons, not_or] at h
    unfold stM
    split
    · have : e'.ap (e.ap σ) = e.ap (e'.ap σ) := putN_comm h.1
      rw [this, stM_ap E h.2]
    · exact stM_ap E h.2
theorem stM_insert : ∀ (E : List Eff) {D : Nat → Bool} {σ : St} {j : Nat} {e : Eff}, (E.map Eff.d).Nodup → E[j]? = some e → D j = false → stM E (fun i => D i || i == j) σ = e.ap (stM E D σ)
  | [], _, _, _, _, _, h, _ => by simp at h
  | e' :: E, D, σ, j, e, hnd, hj, hD => by
    simp only [List.map_cons, List.nodup_cons] at hnd
    unfold stM
    cases j with
    | zero =>
      simp at hj
      subst hj
      rw [hD]
      simp only [beq_self_eq_true, Bool.or_true, if_true, Bool.false_eq_true, if_false]
      rw [← stM_ap E hnd.1]
      exact stM_congr E fun i _ => by simp
    | succ j =>
      have ih := fun σ' => stM_insert E (D := fun i => D (i + 1)) (σ := σ') hnd.2 (by simpa using hj) hD
      have h0 : (D 0 || (0 : Nat) == j + 1) = D 0 := by simp
      show stM E (fun i => D (i + 1) || (i + 1 : Nat) == j + 1) (if (D 0 || (0 : Nat) == j + 1) = true then e'.ap σ else σ) = _
      rw [h0]
      have : (fun i => D (i + 1) || (i + 1 : Nat) == j + 1) = fun i => D (i + 1) || i == j := by funext i; simp
      rw [this]
      exact ih _

theorem putN_sl {σ : St} {d t : Nat} {x : V} {ob : Ob} (h : d ≠ t) : (putN σ d x ob).sl.getD t .dead = σ.sl.getD t .dead := by
  show (σ.sl.set d x).getD t .dead = _
  rw [getD_set_slots, if_neg (fun hh => h hh.1.symm)]
theorem putN_ob {σ : St} {d k : Nat} {x : V} {ob : Ob} (h : d = k → isNone ob = true) : (putN σ d x ob).ob.getD k .none = σ.ob.getD k .none := by
  show (setN σ.ob d ob).getD k .none = _
  rw [getD_setN, if_neg]
  rintro ⟨h1, _, h2⟩
  rw [h h1.symm] at h2
  cases h2
theorem sl_agree {t : Nat} : ∀ (E : List Eff) {D D' : Nat → Bool} {σ σ' : St}, σ.sl.getD t .dead = σ'.sl.getD t .dead → σ.sl.length = σ'.sl.length → (∀ (i : Nat) e, E[i]? = some e → e.d = t → D i = D' i) →
    (stM E D σ).sl.getD t .dead = (stM E D' σ').sl.getD t .dead
  | [], _, _, _, _, h, _, _ => h
  | e :: E, D, D', σ, σ', h, hl, hD => by
    unfold stM
    have key : (if D 0 then e.ap σ else σ).sl.getD t .dead = (if D' 0 then e.ap σ' else σ').sl.getD t .dead := by
      by_cases he : e.d = t
      · rw [hD 0 e rfl he]
        split
        · show (σ.sl.set e.d e.x).getD t .dead = (σ'.sl.set e.d e.x).getD t .dead
          rw [getD_set_slots, getD_set_slots, hl, h]
        · exact h
      · have h1 : (e.ap σ).sl.getD t .dead = σ.sl.getD t .dead := putN_sl he
        have h2 : (e.ap σ').sl.getD t .dead = σ'.sl.getD t .dead := putN_sl he
        split <;> split <;> first | rw [h1, h2, h] | rw [h1, h] | rw [h2, h] | exact h
    refine sl_agree E key ?_ fun i e' hi => hD (i + 1) e' (by simpa using hi)
    have h1 : (e.ap σ).sl.length = σ.sl.length := by simp [Eff.ap, putN]
    have h2 : (e.ap σ').sl.length = σ'.sl.length := by simp [Eff.ap, putN]
    split <;> split <;> omega
theorem ob_agree {k : Nat} : ∀ (E : List Eff) {D D' : Nat → Bool} {σ σ' : St}, σ.ob.getD k .none = σ'.ob.getD k .none → σ.ob.length = σ'.ob.length → (∀ (i : Nat) e, E[i]? = some e → e.d = k → isNone e.ob = false → D i = D' i) →
    (stM E D σ).ob.getD k .none = (stM E D' σ').ob.getD k .none
  | [], _, _, _, _, h, _, _ => h
  | e :: E, D, D', σ, σ', h, hl, hD => by
    unfold stM
    have key : (if D 0 then e.ap σ else σ).ob.getD k .none = (if D' 0 then e.ap σ' else σ').ob.getD k .none := by
      by_cases he : e.d = k ∧ isNone e.ob = false
      · rw [hD 0 e rfl he.1 he.2]
        split
        · show (setN σ.ob e.d e.ob).getD k .none = (setN σ'.ob e.d e.ob).getD k .none
          rw [getD_setN, getD_setN, hl, h]
        · exact h
      · have hh : e.d = k → isNone e.ob = true := fun h1 => by
          cases hn : isNone e.ob
          · exact absurd ⟨h1, hn⟩ he
          · rfl
        have h1 : (e.ap σ).ob.getD k .none = σ.ob.getD k .none := putN_ob hh
        have h2 : (e.ap σ').ob.getD k .none = σ'.ob.getD k .none := putN_ob hh
        split <;> split <;> first | rw [h1, h2, h] | rw [h1, h] | rw [h2, h] | exact h
    refine ob_agree E key ?_ fun i e' hi => hD (i + 1) e' (by simpa using hi)
    have h1 : (e.ap σ).ob.length = σ.ob.length := by simp [Eff.ap, putN, setN_length]
    have h2 : (e.ap σ').ob.length = σ'.ob.length := by simp [Eff.ap, putN, setN_length]
    split <;> split <;> omega

/-- whether a guarded operation is to run -/
def wantB (all : List Oper) (σ : St) (o : Oper) : Option Bool :=
  match o.guard with
  | none => some true
  | some (j, want) => match (all[j]?).bind (·.dst) with
    | none => none
    | some g => match σ.sl.getD g .dead with
      | .sc (.bool t) => some (t == want)
      | .tup [] => some false
      | _ => none

abbrev K3 : V → Ob → List (Nat × Option Nat) → Option (V × Ob × List (Nat × Option Nat)) := fun x ob s => some (x, ob, s)
def EfOk (T : TT) (call : FuncId → List V → Option Res) (all : List Oper) (σ : St) (o : Oper) (e : Eff) : Prop :=
  o.dst = some e.d ∧ ((wantB all σ o = some true ∧ isQuiet T o = true ∧ keysOk T σ o = true ∧ qv T call (val T σ) (lkE σ) e.d o K3 = some (e.x, e.ob, e.s) ∧ (isNone e.ob = true ∨ isNone (σ.ob.getD e.d .none) = true)) ∨
    (wantB all σ o = some false ∧ e.x = .tup [] ∧ e.ob = .none ∧ e.s = []))
def TrQ (T : TT) (call : FuncId → List V → Option Res) (all : List Oper) : List Oper → St → List Eff → Prop
  | _, _, [] => True
  | o :: ops, σ, e :: E => EfOk T call all σ o e ∧ TrQ T call all ops (e.ap σ) E
  | [], _, _ :: _ => False
def Rest (T : TT) (call : FuncId → List V → Option Res) (all : List Oper) (ops : List Oper) (σ : St) (fs : List (Nat × Option Nat)) (K : St → Option Res) (r : Res) : Prop :=
  match ops with
  | [] => K (σF σ fs) = some r
  | o :: ops => isQuiet T o = false ∧ wantB all σ o = some true ∧ exLoud T call (σF σ fs) o (fun σ' => exOps T call true all ops σ' [] K) = some r

section
variable {P : Program} {T : TT} {U : Nat → Prop} {w0 w : World} {F0 : Fr} {a : Act} {ow : Own} {r : Res} {call : FuncId → List V → Option Res} {all : List Oper}

theorem seg_split {K : St → Option Res} : ∀ (ops : List Oper) (σ : St) (fs : List (Nat × Option Nat)), exOps T call true all ops σ fs K = some r →
    ∃ E, E.length ≤ ops.length ∧ TrQ T call all ops σ E ∧ Rest T call all (ops.drop E.length) (stM E (fun _ => true) σ) (fs ++ E.flatMap Eff.s) K r
  | [], σ, fs, h => ⟨[], Nat.le_refl _, trivial, by simpa [Rest, stM, exOps, σF] using h⟩
  | o :: ops, σ, fs, h => by
    -- the operation is to run
    have run : wantB all σ o = some true → exOp T call true σ fs o (fun σ fs => exOps T call true all ops σ fs K) = some r →
        ∃ E, E.length ≤ (o :: ops).length ∧ TrQ T call all (o :: ops) σ E ∧ Rest T call all ((o :: ops).drop E.length) (stM E (fun _ => true) σ) (fs ++ E.flatMap Eff.s) K r := fun hw he => by
      unfold exOp at he
      cases hq : isQuiet T o with
      | false =>
        rw [hq] at he
        exact ⟨[], by simp, trivial, hq, hw, by
          simp only [List.length_nil, List.drop_zero, List.flatMap_nil, List.append_nil, stM]; exact he⟩
      | true =>
        rw [hq] at he
        simp only [cond_true, Bool.true_and] at he
        cases hk : keysOk T σ o with
        | false => rw [hk] at he; simp at he
        | true =>
          rw [hk] at he
          simp only [Bool.not_true, cond_false] at he
          split at he
          · rename_i d hd
            obtain ⟨x, ob, s, hK, hqv⟩ := qv_nat he
            obtain ⟨h0, hK2⟩ := bif_some hK
            obtain ⟨E, h1, h2, h3⟩ := seg_split ops _ _ hK2
            refine ⟨⟨d, x, ob, s⟩ :: E, by simp only [List.length_cons]; omega, ⟨⟨hd, .inl ⟨hw, hq, hk, hqv, by simpa using h0⟩⟩, h2⟩, ?_⟩
            simp only [List.length_cons, List.drop_succ_cons, List.flatMap_cons, stM, if_true]
            rw [← List.append_assoc]
            exact h3
          · cases he
    unfold exOps at h
    split at h
    · rename_i hg
      exact run (by unfold wantB; rw [hg]) h
    · rename_i j want hg
      split at h
      · cases h
      · rename_i g hgd
        cases hun : isUndef (σ.sl.getD g .dead) with
        | true =>
          rw [hun] at h
          simp only [cond_true] at h
          have hx : σ.sl.getD g .dead = .tup [] := by
            cases hv : σ.sl.getD g .dead <;> rw [hv] at hun <;> first | (cases hun; done) | skip
            rename_i vs
            cases vs <;> first | rfl | cases hun
          have hwb : wantB all σ o = some false := by unfold wantB; rw [hg]; simp only; rw [hgd]; simp only; rw [hx]
          split at h
          · rename_i d hd
            obtain ⟨E, h1, h2, h3⟩ := seg_split ops ⟨σ.sl.set d (.tup []), σ.ob⟩ fs h
            refine ⟨⟨d, .tup [], .none, []⟩ :: E, by simp only [List.length_cons]; omega, ⟨⟨hd, .inr ⟨hwb, rfl, rfl, rfl⟩⟩, h2⟩, ?_⟩
            simp only [List.length_cons, List.drop_succ_cons, List.flatMap_cons, stM, if_true, List.nil_append]
            exact h3
          · cases h
        | false =>
        rw [hun] at h
        obtain ⟨t, ht, hk2⟩ := unB_some h
        have hk3 : (bif t == want then exOp T call true ⟨σ.sl.set g (.sc (.bool t)), σ.ob⟩ fs o (fun σ fs => exOps T call true all ops σ fs K) else match o.dst with
            | some d => exOps T call true all ops ⟨(σ.sl.set g (.sc (.bool t))).set d (.tup []), σ.ob⟩ fs K
            | none => none) = some r := by cases t <;> exact hk2
        rw [set_same ht] at hk3
        have hwb : wantB all σ o = some (t == want) := by unfold wantB; rw [hg]; simp only; rw [hgd]; simp only; rw [ht]
        cases htw : (t == want) with
        | true =>
          rw [htw] at hk3 hwb
          exact run hwb hk3
        | false =>
          rw [htw] at hk3 hwb
          simp only [cond_false] at hk3
          split at hk3
          · rename_i d hd
            obtain ⟨E, h1, h2, h3⟩ := seg_split ops ⟨σ.sl.set d (.tup []), σ.ob⟩ fs hk3
            refine ⟨⟨d, .tup [], .none, []⟩ :: E, by simp only [List.length_cons]; omega, ⟨⟨hd, .inr ⟨hwb, rfl, rfl, rfl⟩⟩, h2⟩, ?_⟩
            simp only [List.length_cons, List.drop_succ_cons, List.flatMap_cons, stM, if_true, List.nil_append]
            exact h3
          · cases hk3

theorem TrQ.at : ∀ (ops : List Oper) (σ : St) (E : List Eff), TrQ T call all ops σ E → ∀ (j : Nat) e, E[j]? = some e → ∃ o, ops[j]? = some o ∧ EfOk T call all (stM E (fun i => decide (i < j)) σ) o e
  | _, _, [], _, j, e, hj => by simp at hj
  | [], _, _ :: _, h, _, _, _ => h.elim
  | o :: ops, σ, e' :: E, h, j, e, hj => by
    cases j with
    | zero =>
      simp at hj
      subst hj
      refine ⟨o, rfl, ?_⟩
      rw [stM_none _ (by intro i; simp)]
      exact h.1
    | succ j =>
      obtain ⟨o', h1, h2⟩ := TrQ.at ops _ E h.2 j e (by simpa using hj)
      refine ⟨o', by simpa using h1, ?_⟩
      have : stM (e' :: E) (fun i => decide (i < j + 1)) σ = stM E (fun i => decide (i < j)) (e'.ap σ) := by
        show stM E (fun i => decide (i + 1 < j + 1)) (if decide (0 < j + 1) = true then e'.ap σ else σ) = _
        simp
      rw [this]
      exact h2

theorem keysN_of {v : V} {k : Nat} {c : Option Nat} (h : (k, c) ∈ keysV v) : k ∈ keysN v := by
  have one : ∀ {u : V} {k : Nat} {c : Option Nat}, keyC u = some (k, c) → k ∈ keysC u := fun {u k c} hk => by
    cases u <;> simp only [keyC] at hk <;> first | cases hk; done | (cases hk; simp [keysC])
  have many : ∀ {cs : List V} {k : Nat} {c : Option Nat}, (k, c) ∈ cs.filterMap keyC → k ∈ cs.flatMap keysC := fun {cs k c} hk => by
    obtain ⟨u, hu, hk⟩ := List.mem_filterMap.1 hk
    exact List.mem_flatMap.2 ⟨u, hu, one hk⟩
  cases v with
  | st cs => exact many h
  | tup vs =>
    obtain ⟨u, hu, hk⟩ := List.mem_flatMap.1 h
    refine List.mem_flatMap.2 ⟨u, hu, ?_⟩
    cases u with
    | st cs => exact many hk
    | _ => first | (exfalso; simp [keyC] at hk; done) | (exact one (Option.mem_toList.1 hk))
  | _ => first | (exfalso; simp [keysV, keyC] at h; done) | (simp only [keysV, keyC, Option.toList_some, List.mem_singleton, Prod.mk.injEq] at h; simp [keysN, keysC, h.1])

theorem wanted_of {σ : St} (h : Sim T.globL U w0 F0 σ a w ow) {all : Array Oper} {o : Oper} {b : Bool} (hb : wantB all.toList σ o = some b) : Region.wanted o (yielded all a.tmps) = b := by
  unfold wantB at hb
  split at hb
  · rename_i hg
    simp only [Option.some.injEq] at hb
    simp [Region.wanted, hg, hb]
  · rename_i j want hg
    split at hb
    · cases hb
    · rename_i g hgd
      split at hb
      · rename_i t ht
        have hv := slot_bool h (g := g) (t := t) ht
        rw [Array.getElem?_toList] at hgd
        have hy : yielded all a.tmps j = some t := by
          unfold yielded
          rw [hgd]
          simp [hv]
        simp only [Option.some.injEq] at hb
        rw [← hb]
        simp only [Region.wanted, hg, hy]
        cases t <;> cases want <;> rfl
      · rename_i hx
        simp only [Option.some.injEq] at hb
        subst hb
        have hy : yielded all a.tmps j = none := undef_yield h hgd (by rw [hx]; rfl)
        simp [Region.wanted, hg, hy]
      · cases hb
end
end Go.Proofs.YtmddfhjgdhjmkaaDoor.VM
