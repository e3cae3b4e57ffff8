/- The abstract machine and the memory: regions in the order of the text; code. -/
import Derived.Test.YtmddfhjgdhjmkaaDoorVMS7
set_option linter.unusedVariables false
set_option linter.unusedSimpArgs false
namespace Go.Proofs.YtmddfhjgdhjmkaaDoor.VM
open Go.RowKit

/-! ### what is frozen, key by key -/
def frzK (s : List (Nat × Option Nat)) (k : Nat) (o : Ob) : Ob :=
  match s with
  | [] => o
  | (k', c) :: s => frzK s k (if k' = k then frzO c o else o)

theorem frzO_idem (c : Option Nat) (o : Ob) : frzO c (frzO c o) = frzO c o := by
  cases c with
  | none => cases o <;> rfl
  | some c =>
    cases o with
    | box b cs =>
      simp only [frzO]
      cases hc : cs.getD c .dead with
      | own o z xs =>
        simp only []
        have hl : c < cs.length := by
          by_cases h : c < cs.length
          · exact h
          · simp [List.getD_eq_getElem?_getD, List.getElem?_eq_none (by omega : cs.length ≤ c)] at hc
        have : (cs.set c (.own false z xs)).getD c .dead = .own false z xs := by simp [List.getD_eq_getElem?_getD, hl]
        rw [this]
        simp
      | _ => simp only [hc]
    | _ => rfl
theorem frzO_comm (c c' : Option Nat) (o : Ob) : frzO c (frzO c' o) = frzO c' (frzO c o) := by
  by_cases hcc : c = c'
  · rw [hcc]
  cases c with
  | none =>
    cases c' with
    | none => rfl
    | some c' =>
      cases o with
      | box b cs => simp only [frzO]; cases cs.getD c' .dead <;> simp only [frzO]
      | _ => rfl
  | some c =>
    cases c' with
    | none =>
      cases o with
      | box b cs => simp only [frzO]; cases cs.getD c .dead <;> simp only [frzO]
      | _ => rfl
    | some c' =>
      have hne : c ≠ c' := fun e => hcc (by rw [e])
      cases o with
      | box b cs =>
        have g1 : ∀ x, (cs.set c' x).getD c .dead = cs.getD c .dead := fun x => by simp [List.getD_eq_getElem?_getD, List.getElem?_set_ne (Ne.symm hne)]
        have g2 : ∀ x, (cs.set c x).getD c' .dead = cs.getD c' .dead := fun x => by simp [List.getD_eq_getElem?_getD, List.getElem?_set_ne hne]
        cases h1 : cs.getD c .dead <;> cases h2 : cs.getD c' .dead <;> simp only [frzO, h1, h2, g1, g2]
        rw [List.set_comm _ _ hne]
      | _ => rfl

theorem frzK_push (s : List (Nat × Option Nat)) (k : Nat) (c : Option Nat) : ∀ o, frzK s k (frzO c o) = frzO c (frzK s k o) := by
  induction s with
  | nil => exact fun o => rfl
  | cons q s ih =>
    intro o
    obtain ⟨k', c'⟩ := q
    simp only [frzK]
    split
    · rw [frzO_comm, ih]
    · exact ih o
theorem frzK_mem {s : List (Nat × Option Nat)} {k : Nat} {c : Option Nat} (h : (k, c) ∈ s) : ∀ o, frzK s k (frzO c o) = frzK s k o := by
  induction s with
  | nil => simp at h
  | cons q s ih =>
    intro o
    obtain ⟨k', c'⟩ := q
    simp only [frzK]
    rcases List.mem_cons.1 h with h | h
    · cases h
      rw [if_pos rfl, if_pos rfl, frzO_idem]
    · split
      · rw [frzO_comm, ih h]
      · exact ih h o
theorem frzK_sub {s : List (Nat × Option Nat)} {k : Nat} : ∀ {s' : List (Nat × Option Nat)}, (∀ q ∈ s', q ∈ s) → ∀ o, frzK s k (frzK s' k o) = frzK s k o
  | [], _, o => rfl
  | (k', c) :: s', h, o => by
    simp only [frzK]
    rw [frzK_sub (fun q hq => h q (List.mem_cons_of_mem _ hq))]
    split
    · rename_i hk
      subst hk
      exact frzK_mem (h _ (by simp)) o
    · rfl
theorem frzO_none (c : Option Nat) : frzO c .none = .none := by cases c <;> rfl
theorem frzK_none (s : List (Nat × Option Nat)) (k : Nat) : frzK s k .none = .none := by
  induction s with
  | nil => rfl
  | cons q s ih => obtain ⟨k', c⟩ := q; simp only [frzK, frzO_none, ite_self]; exact ih
theorem getD_freeze (k : Nat) : ∀ (s : List (Nat × Option Nat)) (ob : List Ob), (freeze ob s).getD k .none = frzK s k (ob.getD k .none)
  | [], _ => rfl
  | (k', c) :: s, ob => by
    show (freeze (frz1 ob k' c) s).getD k .none = frzK s k _
    rw [getD_freeze k s]
    congr 1
    unfold frz1
    rw [getD_set_ob]
    by_cases hk : k = k'
    · subst hk
      by_cases hl : k < ob.length
      · rw [if_pos ⟨rfl, hl⟩, if_pos rfl]
      · rw [if_neg (fun hh => hl hh.2), if_pos rfl]
        have : ob.getD k .none = .none := by simp [List.getD_eq_getElem?_getD, List.getElem?_eq_none (by omega : ob.length ≤ k)]
        rw [this, frzO_none]
    · rw [if_neg (fun hh => hk hh.1), if_neg (fun hh => hk hh.symm)]
theorem ext_getD {l l' : List Ob} (hl : l.length = l'.length) (h : ∀ k, l.getD k .none = l'.getD k .none) : l = l' := by
  refine List.ext_getElem hl fun k h1 h2 => ?_
  have := h k
  simpa [List.getD_eq_getElem?_getD, List.getElem?_eq_getElem h1, List.getElem?_eq_getElem h2] using this
theorem setN_length (l : List Ob) (d : Nat) (o : Ob) : (setN l d o).length = l.length := by cases o <;> simp [setN]
theorem getD_setN (l : List Ob) (d k : Nat) (o : Ob) : (setN l d o).getD k .none = if k = d ∧ d < l.length ∧ isNone o = false then o else l.getD k .none := by
  cases o with
  | none => simp [setN, isNone]
  | box b cs => show (l.set d _).getD k .none = _; rw [getD_set_ob]; simp [isNone]
  | row b z xs => show (l.set d _).getD k .none = _; rw [getD_set_ob]; simp [isNone]

/-- to freeze again what is frozen changes nothing -/
theorem freeze_again {fs s : List (Nat × Option Nat)} {ob : List Ob} {d : Nat} {o : Ob} (hs : ∀ q ∈ s, q ∈ fs) : freeze (setN (freeze (freeze ob fs) s) d o) fs = freeze (setN ob d o) fs := by
  refine ext_getD (by simp only [freeze_length, setN_length]) fun k => ?_
  rw [getD_freeze, getD_freeze, getD_setN, getD_setN]
  simp only [freeze_length]
  split
  · rfl
  · rw [getD_freeze, getD_freeze, frzK_sub hs, frzK_sub (fun _ h => h)]
theorem freeze_more {fs s : List (Nat × Option Nat)} {ob : List Ob} : freeze (freeze ob fs) (fs ++ s) = freeze ob (fs ++ s) := by
  refine ext_getD (by simp only [freeze_length]) fun k => ?_
  rw [getD_freeze, getD_freeze, getD_freeze, frzK_sub (fun q hq => List.mem_append_left _ hq)]

theorem eO_frzO (c : Option Nat) (o : Ob) : eO (frzO c o) = eO o := by
  cases c with
  | none => cases o <;> rfl
  | some c =>
    cases o with
    | box b cs =>
      simp only [frzO]
      cases hc : cs.getD c .dead with
      | own o z xs =>
        simp only [eO, Ob.box.injEq, true_and]
        refine List.ext_getElem (by simp) fun j h1 h2 => ?_
        simp only [List.length_map] at h2
        simp only [List.getElem_map, List.getElem_set]
        split
        · rename_i hj
          subst hj
          have : cs[c] = .own o z xs := by simpa [List.getD_eq_getElem?_getD, List.getElem?_eq_getElem h2] using hc
          rw [this]; rfl
        · rfl
      | _ => rfl
    | _ => rfl
theorem eO_frzK (k : Nat) : ∀ (s : List (Nat × Option Nat)) (o : Ob), eO (frzK s k o) = eO o
  | [], _ => rfl
  | (k', c) :: s, o => by
    simp only [frzK]
    rw [eO_frzK k s]
    split
    · exact eO_frzO c o
    · rfl
theorem lkE_freeze (sl : List V) (ob : List Ob) (s : List (Nat × Option Nat)) : lkE ⟨sl, freeze ob s⟩ = lkE ⟨sl, ob⟩ := by
  funext k
  show eO ((freeze ob s).getD k .none) = eO (ob.getD k .none)
  rw [getD_freeze, eO_frzK]

def σF (σ : St) (fs : List (Nat × Option Nat)) : St := ⟨σ.sl, freeze σ.ob fs⟩

section
variable {P : Program} {T : TT} {U : Nat → Prop} {w0 w : World} {F0 : Fr} {σ : St} {a : Act} {ow : Own} {r : Res}
variable {o : Oper} {d : Nat} {call : FuncId → List V → Option Res} {fs : List (Nat × Option Nat)}

theorem isNone_iff {o : Ob} : isNone o = true ↔ o = .none := by cases o <;> simp [isNone]

/-- the step's state, with what is to be frozen frozen -/
theorem sim_putN {s : List (Nat × Option Nat)} {x : V} {ob : Ob} {a' : Act} (h : Sim T.globL U w0 F0 (putQ (σF σ fs) d x ob s) a' w ow) : Sim T.globL U w0 F0 (σF (putN σ d x ob) (fs ++ s)) a' w ow := by
  have h1 := h.freeze (fs ++ s)
  have : freeze (setN (freeze (freeze σ.ob fs) s) d ob) (fs ++ s) = freeze (setN σ.ob d ob) (fs ++ s) := by
    have e := freeze_again (fs := fs ++ s) (s := s) (ob := freeze σ.ob fs) (d := d) (o := ob) (fun q hq => List.mem_append_right _ hq)
    have e2 := freeze_again (fs := fs ++ s) (s := fs) (ob := σ.ob) (d := d) (o := ob) (fun q hq => List.mem_append_left _ hq)
    refine ext_getD (by simp only [freeze_length, setN_length]) fun k => ?_
    rw [getD_freeze, getD_freeze, getD_setN, getD_setN]
    simp only [freeze_length]
    split
    · rfl
    · rw [getD_freeze, getD_freeze, frzK_sub (fun q hq => List.mem_append_right _ hq), frzK_sub (fun q hq => List.mem_append_left _ hq)]
  show Sim T.globL U w0 F0 ⟨σ.sl.set d x, freeze (setN σ.ob d ob) (fs ++ s)⟩ a' w ow
  rw [← this]
  exact h1

def DoneO (P : Program) (GL : List (Nat × V)) (U : Nat → Prop) (w0 : World) (F0 : Fr) (a : Act) (w : World) (o : Oper) (σ' : St) : Prop :=
  ∀ (K : Act → World → Prop) (Q : Exit → Act → World → Prop), (∀ a' w' ow', Sim GL U w0 F0 σ' a' w' ow' → K a' w') → o.wp P a w K Q

/-- what the loud operations owe -/
def LoudOk (P : Program) (T : TT) (call : FuncId → List V → Option Res) : Prop :=
  ∀ (U : Nat → Prop) (w0 : World) (F0 : Fr) (σ : St) (a : Act) (w : World) (ow : Own) (o : Oper) (K : St → Option Res) (r : Res), Sim T.globL U w0 F0 σ a w ow → (∀ d, o.dst = some d → F0.pn d = none) → exLoud T call σ o K = some r →
    ∃ σ', K σ' = some r ∧ DoneO P T.globL U w0 F0 a w o σ'

theorem exOp_ok (hT : TOk P T) (hC : CallOk P T.globL call) (hL : LoudOk P T call) (h : Sim T.globL U w0 F0 (σF σ fs) a w ow) (hpn : ∀ d, o.dst = some d → F0.pn d = none) {K : St → List (Nat × Option Nat) → Option Res} {dr : Bool} (hk : exOp T call dr σ fs o K = some r) :
    ∃ σ' fs', K σ' fs' = some r ∧ DoneO P T.globL U w0 F0 a w o (σF σ' fs') := by
  unfold exOp at hk
  cases hq : isQuiet T o with
  | false =>
    rw [hq] at hk
    obtain ⟨σ', h1, h2⟩ := hL _ _ _ _ _ _ _ _ _ _ h hpn hk
    exact ⟨σ', [], h1, h2⟩
  | true =>
    rw [hq] at hk
    simp only [cond_true] at hk
    have hk : (match o.dst with
      | some d => qv T call (val T σ) (lkE σ) d o fun x ob s => bif isNone ob || isNone (σ.ob.getD d .none) then K (putN σ d x ob) (fs ++ s) else none
      | none => none) = some r := by
      cases hb : (dr && !keysOk T σ o)
      · rw [hb] at hk; exact hk
      · rw [hb] at hk; cases hk
    split at hk
    · rename_i d hd
      have e : qv T call (val T σ) (lkE σ) d o = qv T call (val T (σF σ fs)) (lkE (σF σ fs)) d o (R := Res) := by
        have : lkE (σF σ fs) = lkE σ := lkE_freeze _ _ _
        rw [this]; rfl
      rw [e] at hk
      obtain ⟨x, ob, s, hK, hdone⟩ := qv_sound hT hC h hd hk
      obtain ⟨h0, hK2⟩ := bif_some hK
      refine ⟨_, _, hK2, fun Kq Q hq => hdone ?_ Kq Q fun u w' ow' hs => hq _ _ ow' (sim_putN hs)⟩
      simp only [Bool.or_eq_true, isNone_iff] at h0
      rcases h0 with h0 | h0
      · exact .inl h0
      · refine .inr ⟨?_, hpn d hd⟩
        show (freeze σ.ob fs).getD d .none = .none
        rw [getD_freeze, h0, frzK_none]
    · cases hk

theorem slot_bool (h : Sim T.globL U w0 F0 σ a w ow) {g : Nat} {t : Bool} (hg : σ.sl.getD g .dead = .sc (.bool t)) : a.tmps[g]? = some (.bool t) := by
  have h1 := h.slots g
  rw [hg] at h1
  have h2 : FR w (Fz U w ow σ.ob) [a.tmps.getD g undef] (.sc (.bool t)) := h1
  have h3 := h2.sc_inv
  simp only [List.cons.injEq, and_true] at h3
  rw [Array.getD_eq_getD_getElem?] at h3
  cases hv : a.tmps[g]? with
  | none => rw [hv] at h3; simp [undef] at h3
  | some v => rw [hv] at h3; simpa using h3

theorem set_same {l : List V} {g : Nat} {x : V} (h : l.getD g .dead = x) : l.set g x = l := by
  by_cases hl : g < l.length
  · refine List.ext_getElem (by simp) fun j h1 h2 => ?_
    rw [List.getElem_set]
    split
    · rename_i hj; subst hj
      simpa [List.getD_eq_getElem?_getD, List.getElem?_eq_getElem hl] using h.symm
    · rfl
  · exact List.set_eq_of_length_le (by omega)

theorem sim_skip (h : Sim T.globL U w0 F0 σ a w ow) (d : Nat) : Sim T.globL U w0 F0 ⟨σ.sl.set d (.tup []), σ.ob⟩ (a.put (some d) undef) w ow := h.put d fun _ => ⟨#[], rfl, rfl, fun j u y hu => by simp at hu⟩
/-- a step was skipped: what hangs on it is, too -/
theorem undef_yield (h : Sim T.globL U w0 F0 σ a w ow) {all : Array Oper} {j g : Nat} (hgd : (all.toList[j]?).bind (·.dst) = some g) (hu : isUndef (σ.sl.getD g .dead) = true) : yielded all a.tmps j = none := by
  have hs := h.slots g
  have hx : σ.sl.getD g .dead = .tup [] := by
    cases hv : σ.sl.getD g .dead <;> rw [hv] at hu <;> first | (cases hu; done) | skip
    rename_i vs
    cases vs <;> first | rfl | cases hu
  rw [hx] at hs
  obtain ⟨arr, h1, _⟩ := hs
  rw [Array.getElem?_toList] at hgd
  unfold yielded
  rw [hgd, Option.bind_some]
  rw [Array.getD_eq_getD_getElem?] at h1
  cases ht : a.tmps[g]? with
  | none => rfl
  | some v => rw [ht] at h1; simp at h1; rw [h1]

/-- REGIONS, IN THE ORDER OF THE TEXT -/
theorem exOps_plain (hT : TOk P T) (hC : CallOk P T.globL call) (hL : LoudOk P T call) {dr : Bool} {all : Array Oper} {Q : Exit → Act → World → Prop} {K : St → Option Res} :
    ∀ (ops : List Oper) (σ : St) (fs : List (Nat × Option Nat)) (a : Act) (w : World) (ow : Own), (∀ o ∈ ops, ∀ d, o.dst = some d → F0.pn d = none) → Sim T.globL U w0 F0 (σF σ fs) a w ow → exOps T call dr all.toList ops σ fs K = some r →
      (∀ σ' a' w' ow', K σ' = some r → Sim T.globL U w0 F0 σ' a' w' ow' → Q .normal a' w') → wpList P all Q ops a w
  | [], σ, fs, a, w, ow, _, h, hk, hQ => hQ _ a w ow hk h
  | o :: ops, σ, fs, a, w, ow, hpn, h, hk, hQ => by
    have go : ∀ (σ : St), Sim T.globL U w0 F0 (σF σ fs) a w ow → exOp T call dr σ fs o (fun σ fs => exOps T call dr all.toList ops σ fs K) = some r → o.wp P a w (wpList P all Q ops) Q := fun σ h he => by
      obtain ⟨σ', fs', h1, h2⟩ := exOp_ok hT hC hL h (hpn o (by simp)) he
      exact h2 _ _ fun a' w' ow' hs => exOps_plain hT hC hL ops σ' fs' a' w' ow' (fun o ho => hpn o (List.mem_cons_of_mem _ ho)) hs h1 hQ
    unfold exOps at hk
    unfold wpList
    split at hk
    · rename_i hg
      rw [if_pos (by simp [Region.wanted, hg])]
      exact .inl (go σ h hk)
    · rename_i j want hg
      split at hk
      · cases hk
      · rename_i g hgd
        cases hun : isUndef (σ.sl.getD g .dead) with
        | true =>
          rw [hun] at hk
          have hy : yielded all a.tmps j = none := undef_yield (σ := σF σ fs) h hgd hun
          rw [if_neg (by simp [Region.wanted, hg, hy])]
          simp only [cond_true] at hk
          split at hk
          · rename_i d hd
            rw [hd]
            exact exOps_plain hT hC hL ops ⟨σ.sl.set d (.tup []), σ.ob⟩ fs _ w ow (fun o ho => hpn o (List.mem_cons_of_mem _ ho)) (sim_skip h d) hk hQ
          · cases hk
        | false =>
        rw [hun] at hk
        obtain ⟨t, ht, hk2⟩ := unB_some hk
        have hk3 : (bif t == want then exOp T call dr ⟨σ.sl.set g (.sc (.bool t)), σ.ob⟩ fs o (fun σ fs => exOps T call dr all.toList ops σ fs K) else match o.dst with
            | some d => exOps T call dr all.toList ops ⟨(σ.sl.set g (.sc (.bool t))).set d (.tup []), σ.ob⟩ fs K
            | none => none) = some r := by cases t <;> exact hk2
        rw [set_same ht] at hk3
        have hb := slot_bool h (g := g) (t := t) ht
        have hy : yielded all a.tmps j = some t := by
          unfold yielded
          rw [Array.getElem?_toList] at hgd
          rw [hgd]
          simp [hb]
        cases htw : (t == want) with
        | true =>
          rw [htw] at hk3
          rw [if_pos (by simp [Region.wanted, hg, hy]; simpa using htw)]
          exact .inl (go σ h hk3)
        | false =>
          rw [htw] at hk3
          simp only [cond_false] at hk3
          rw [if_neg (by simp [Region.wanted, hg, hy]; simpa using htw)]
          split at hk3
          · rename_i d hd
            rw [hd]
            exact exOps_plain hT hC hL ops ⟨σ.sl.set d (.tup []), σ.ob⟩ fs _ w ow (fun o ho => hpn o (List.mem_cons_of_mem _ ho)) (sim_skip h d) hk3 hQ
          · cases hk3
end
end Go.Proofs.YtmddfhjgdhjmkaaDoor.VM
