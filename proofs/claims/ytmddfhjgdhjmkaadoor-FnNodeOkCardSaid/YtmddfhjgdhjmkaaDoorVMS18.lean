/- The abstract machine and the memory: stores, done. -/
import Derived.Test.YtmddfhjgdhjmkaaDoorVMS17
set_option linter.unusedVariables false
set_option linter.unusedSimpArgs false
namespace Go.Proofs.YtmddfhjgdhjmkaaDoor.VM

section
variable {P : Program} {T : TT} {U : Nat → Prop} {w0 w w' : World} {F0 : Fr} {σ σ' σ'' : St} {a : Act} {ow ow' : Own}

theorem sameK_trans {ob ob' ob'' : List Ob} {k : Nat} {q : Option Nat} (h : sameK ob ow ob' ow k q) (h' : sameK ob' ow ob'' ow k q) : sameK ob ow ob'' ow k q := by
  cases q with
  | none =>
    unfold sameK same1 at *
    cases ho : ob.getD k .none with
    | none => trivial
    | box b cs =>
      rw [ho] at h
      obtain ⟨o1, cs1, e1, l1, _⟩ := h
      rw [e1] at h'
      obtain ⟨o2, cs2, e2, l2, _⟩ := h'
      exact ⟨o2, cs2, e2, l2.trans l1, rfl⟩
    | row b z xs =>
      rw [ho] at h
      obtain ⟨o1, xs1, e1, l1, _⟩ := h
      rw [e1] at h'
      obtain ⟨o2, xs2, e2, l2, _⟩ := h'
      exact ⟨o2, xs2, e2, l2.trans l1, rfl⟩
  | some c =>
    intro o z xs hr
    obtain ⟨o1, xs1, e1, l1, _⟩ := h o z xs hr
    obtain ⟨o2, xs2, e2, l2, _⟩ := h' o1 z xs1 e1
    exact ⟨o2, xs2, e2, l2.trans l1, rfl⟩

/-- objects and what refers to them are forgotten -/
structure KilR (w : World) (ow : Own) (σ σ' : St) (p : Nat × Option Nat → Prop) : Prop where
  sll : σ'.sl.length = σ.sl.length
  obl : σ'.ob.length = σ.ob.length
  sl : ∀ i A ob v, SR w A ow ob v (σ.sl.getD i .dead) → SR w A ow ob v (σ'.sl.getD i .dead)
  ky : ∀ i q, q ∈ keysV (σ'.sl.getD i .dead) → ¬ p q
  sm : ∀ k q, ¬ p (k, q) → sameK σ.ob ow σ'.ob ow k q
  or : ∀ k A, OR w A ow k (σ.ob.getD k .none) → OR w A ow k (σ'.ob.getD k .none)
  al : ∀ k c, alive σ'.ob k c → alive σ.ob k c
  owd : ∀ k c, owned σ'.ob k c → owned σ.ob k c

theorem Forget.keeps {f g t : V → V} {p : Nat × Option Nat → Prop} (F : Forget f p g t) {x : V} {q : Nat × Option Nat} (hq : q ∈ keysV (f x)) : q ∈ keysV x := by
  have one : ∀ y, keyC (g y) = some q → keyC y = some q := fun y h => by
    rcases F.c y with e | e
    · rwa [e] at h
    · rw [e] at h; cases h
  by_cases hs : ∃ cs, x = .st cs
  · obtain ⟨cs, rfl⟩ := hs
    rw [F.st] at hq
    obtain ⟨y, hy, hk⟩ := List.mem_filterMap.1 hq
    obtain ⟨u, hu, rfl⟩ := List.mem_map.1 hy
    exact List.mem_filterMap.2 ⟨u, hu, one u hk⟩
  · by_cases ht : ∃ cs, x = .tup cs
    · obtain ⟨cs, rfl⟩ := ht
      rw [F.tup] at hq
      obtain ⟨y, hy, hk⟩ := List.mem_flatMap.1 hq
      obtain ⟨u, hu, rfl⟩ := List.mem_map.1 hy
      refine List.mem_flatMap.2 ⟨u, hu, ?_⟩
      by_cases hus : ∃ ds, u = .st ds
      · obtain ⟨ds, rfl⟩ := hus
        rw [F.t1] at hk
        simp [keyC] at hk
      · have hne : ∀ ds, u ≠ .st ds := fun ds e => hus ⟨ds, e⟩
        rw [F.t2 u hne] at hk
        have hk' : q ∈ (keyC (g u)).toList := by
          rcases F.c u with e | e
          · rw [e] at hk ⊢
            cases u <;> first | exact absurd rfl (hne _) | exact hk
          · rw [e] at hk; simp [keyC] at hk
        have := one u (Option.mem_toList.1 hk')
        cases u <;> first | exact absurd rfl (hne _) | exact Option.mem_toList.2 this
    · have hs' : ∀ cs, x ≠ .st cs := fun cs e => hs ⟨cs, e⟩
      have ht' : ∀ cs, x ≠ .tup cs := fun cs e => ht ⟨cs, e⟩
      rw [F.el x hs' ht'] at hq
      have hq' : q ∈ (keyC (g x)).toList := by
        rcases F.c x with e | e
        · rw [e] at hq ⊢
          cases x <;> first | exact absurd rfl (hs' _) | exact absurd rfl (ht' _) | exact hq
        · rw [e] at hq; simp [keysV, keyC] at hq
      have := one x (Option.mem_toList.1 hq')
      cases x <;> first | exact absurd rfl (hs' _) | exact absurd rfl (ht' _) | exact Option.mem_toList.2 this

theorem KilR.comp {p p' : Nat × Option Nat → Prop} (h : KilR w ow σ σ' p) (h' : KilR w ow σ' σ'' p') (hk : ∀ i q, q ∈ keysV (σ''.sl.getD i .dead) → q ∈ keysV (σ'.sl.getD i .dead)) : KilR w ow σ σ'' (fun q => p q ∨ p' q) where
  sll := h'.sll.trans h.sll
  obl := h'.obl.trans h.obl
  sl := fun i A ob v hv => h'.sl i A ob v (h.sl i A ob v hv)
  ky := fun i q hq => fun hh => hh.elim (h.ky i q (hk i q hq)) (h'.ky i q hq)
  sm := fun k q hn => sameK_trans (h.sm k q fun e => hn (.inl e)) (h'.sm k q fun e => hn (.inr e))
  or := fun k A ho => h'.or k A (h.or k A ho)
  al := fun k c ha => h.al k c (h'.al k c ha)
  owd := fun k c ha => h.owd k c (h'.owd k c ha)

theorem kil_r (w : World) (ow : Own) (σ : St) (k : Nat) (c : Option Nat) : KilR w ow σ (kil σ k c) (fun q => q = (k, c)) := by
  have hget : ∀ kk, (kil σ k c).ob.getD kk .none = if kk = k then kilB c (σ.ob.getD k .none) else σ.ob.getD kk .none := fun kk => by
    show (σ.ob.set k (kilB c (σ.ob.getD k .none))).getD kk .none = _
    rw [getD_set_ob]
    by_cases hkk : kk = k
    · subst hkk
      rw [if_pos rfl]
      split
      · rfl
      · rename_i hh
        have hl : ¬ kk < σ.ob.length := fun e => hh ⟨rfl, e⟩
        have : σ.ob.getD kk .none = .none := by simp [List.getD_eq_getElem?_getD, List.getElem?_eq_none (by omega : σ.ob.length ≤ kk)]
        rw [this]
        cases c <;> rfl
    · rw [if_neg hkk, if_neg (fun hh => hkk hh.1)]
  have hs := kilB_sub w ow k c (σ.ob.getD k .none)
  refine ⟨by simp [kil], by simp [kil, kilO], fun i A ob v hv => ?_, fun i q hq => ?_, fun kk q hn => ?_, fun kk A ho => ?_, fun kk q ha => ?_, fun kk q ha => ?_⟩
  · show SR w A ow ob v ((σ.sl.map (kilV k c)).getD i .dead)
    rw [getD_map _ _ (kil_forget k c).dead]; exact (kil_forget k c).sr hv
  · have hq : q ∈ keysV ((σ.sl.map (kilV k c)).getD i .dead) := hq
    rw [getD_map _ _ (kil_forget k c).dead] at hq
    exact (kil_forget k c).keys hq
  · by_cases hkk : kk = k
    · subst hkk
      have hne : q ≠ c := fun e => hn (by rw [e])
      cases q with
      | none =>
        unfold sameK same1
        rw [hget kk, if_pos rfl]
        cases ho : σ.ob.getD kk .none with
        | none => trivial
        | box b cs =>
          cases c with
          | none => exact absurd rfl hne
          | some c => exact ⟨b, cs.set c .dead, rfl, by simp, rfl⟩
        | row b z xs =>
          cases c with
          | none => exact absurd rfl hne
          | some c => exact ⟨b, xs, rfl, rfl, rfl⟩
      | some j =>
        intro o z xs h1
        refine ⟨o, xs, ?_, rfl, rfl⟩
        rw [obRow_some] at h1 ⊢
        obtain ⟨b, cs, h1, h2⟩ := h1
        rw [hget kk, if_pos rfl, h1]
        cases c with
        | none => exact ⟨b, cs, rfl, h2⟩
        | some c =>
          refine ⟨b, cs.set c .dead, rfl, ?_⟩
          rw [getElem?_set_V, if_neg (fun hh => hne (by rw [hh.1]))]
          exact h2
    · exact sameK_congr (by rw [hget kk, if_neg hkk]) (fun _ => rfl) q
  · rw [hget kk]
    split
    · rename_i e; subst e; exact hs.or A ho
    · exact ho
  · rw [alive_one, hget kk] at ha
    rw [alive_one]
    split at ha
    · rename_i e; subst e; exact hs.al q ha
    · exact ha
  · rw [owned_one, hget kk] at ha
    rw [owned_one]
    split at ha
    · rename_i e; subst e; exact hs.ow q ha
    · exact ha
theorem kil_keeps (k : Nat) (c : Option Nat) (i : Nat) (q : Nat × Option Nat) (h : q ∈ keysV ((kil σ k c).sl.getD i .dead)) : q ∈ keysV (σ.sl.getD i .dead) := by
  have h : q ∈ keysV ((σ.sl.map (kilV k c)).getD i .dead) := h
  rw [getD_map _ _ (kil_forget k c).dead] at h
  exact (kil_forget k c).keeps h
theorem kil_dead (k : Nat) (c : Option Nat) {o : Bool} {z : Nat} {xs : List V} (h : obRow (lk σ) k c = some (o, z, xs)) : ¬ alive (kil σ k c).ob k c := fun ha => by
  have hkl := lt_of_ob (σ := σ) (k := k) (by
    cases c with
    | none => rw [show σ.ob.getD k .none = _ from obRow_none.1 h]; simp
    | some q => obtain ⟨b, cs, e, _⟩ := obRow_some.1 h; rw [show σ.ob.getD k .none = .box b cs from e]; simp)
  unfold alive at ha
  rw [show (kil σ k c).ob.getD k .none = kilB c (σ.ob.getD k .none) from getD_set_ob_same _ _ hkl] at ha
  cases c with
  | none =>
    rw [show σ.ob.getD k .none = _ from obRow_none.1 h] at ha
    exact ha
  | some q =>
    obtain ⟨b, cs, e, hq⟩ := obRow_some.1 h
    rw [show σ.ob.getD k .none = .box b cs from e] at ha
    obtain ⟨o', z', xs', ha⟩ := ha
    rw [getElem?_set_V, if_pos ⟨rfl, (List.getElem?_eq_some_iff.1 hq).1⟩] at ha
    cases ha
theorem kill_r (w : World) (ow : Own) (σ : St) (k : Nat) : KilR w ow σ (kill σ k) (fun q => q.1 = k) := by
  have hget : ∀ kk, (kill σ k).ob.getD kk .none = if kk = k then .none else σ.ob.getD kk .none := fun kk => by
    show (σ.ob.set k .none).getD kk .none = _
    rw [getD_set_ob]
    by_cases hkk : kk = k
    · subst hkk
      rw [if_pos rfl]
      split
      · rfl
      · rename_i hh
        have hl : ¬ kk < σ.ob.length := fun e => hh ⟨rfl, e⟩
        simp [List.getD_eq_getElem?_getD, List.getElem?_eq_none (by omega : σ.ob.length ≤ kk)]
    · rw [if_neg hkk, if_neg (fun hh => hkk hh.1)]
  refine ⟨by simp [kill], by simp [kill], fun i A ob v hv => ?_, fun i q hq => ?_, fun kk q hn => ?_, fun kk A ho => ?_, fun kk q ha => ?_, fun kk q ha => ?_⟩
  · show SR w A ow ob v ((σ.sl.map (killV k)).getD i .dead)
    rw [getD_map _ _ (kill_forget k).dead]; exact (kill_forget k).sr hv
  · have hq : q ∈ keysV ((σ.sl.map (killV k)).getD i .dead) := hq
    rw [getD_map _ _ (kill_forget k).dead] at hq
    exact (kill_forget k).keys hq
  · exact sameK_congr (by rw [hget kk, if_neg (fun e => hn e)]) (fun _ => rfl) q
  · rw [hget kk]
    split
    · trivial
    · exact ho
  · by_cases hkk : kk = k
    · exact absurd ha (alive_none (by rw [hget kk, if_pos hkk]))
    · rw [← alive_congr (by rw [hget kk, if_neg hkk]) q]; exact ha
  · by_cases hkk : kk = k
    · exact absurd (alive_of_owned ha) (alive_none (by rw [hget kk, if_pos hkk]))
    · rw [← owned_congr (by rw [hget kk, if_neg hkk]) q]; exact ha
theorem kill_keeps (k : Nat) (i : Nat) (q : Nat × Option Nat) (h : q ∈ keysV ((kill σ k).sl.getD i .dead)) : q ∈ keysV (σ.sl.getD i .dead) := by
  have h : q ∈ keysV ((σ.sl.map (killV k)).getD i .dead) := h
  rw [getD_map _ _ (kill_forget k).dead] at h
  exact (kill_forget k).keeps h

def rek (ow : Own) (k : Nat) (q : Option Nat) (g : Nat) : Own := fun kk c => if kk = k ∧ c = q then g else ow kk c
theorem rek_same {k kk : Nat} {q c : Option Nat} {g : Nat} (h : kk = k ∧ c = q) : rek ow k q g kk c = g := if_pos h
theorem rek_other {k kk : Nat} {q c : Option Nat} {g : Nat} (h : ¬ (kk = k ∧ c = q)) : rek ow k q g kk c = ow kk c := if_neg h

/-- a row that is no more comes again under another key, perhaps elsewhere, perhaps changed -/
theorem Sim.rekey {GL : List (Nat × V)} {p : Nat × Option Nat → Prop} (h : Sim GL U w0 F0 σ a w ow) (hx : Ext w w' (ownB σ.ob ow)) (hT : ∀ b n, Th w b n → Th w' b n) (hr : KilR w ow σ σ' p)
    (k : Nat) (q : Option Nat) (o' : Ob) (g : Nat) (hkl : k < σ.ob.length) (hp : p (k, q))
    -- the new object differs from the old one at the key q alone
    (hal : ∀ c, alive [o'] 0 c → c = q ∨ alive σ'.ob k c) (how : ∀ c, owned [o'] 0 c → c = q ∨ owned σ'.ob k c) (hsm : ∀ c, c ≠ q → sameK σ'.ob ow (σ'.ob.set k o') ow k c)
    (hg : g < w'.heap.size ∧ U g ∧ (ownB σ.ob ow g ∨ w.heap.size ≤ g)) (hgn : ∀ kk c, alive σ'.ob kk c → (kk, c) ≠ (k, q) → ow kk c ≠ g)
    (hblk : ∀ kk c, kk ≠ k → alive σ'.ob kk c → w'.heap[ow kk c]? = w.heap[ow kk c]?)
    (hOR : ∀ A', (∀ b, Fz U w ow σ.ob b → A' b ∧ w'.heap[b]? = w.heap[b]?) → OR w' A' (rek ow k q g) k o')
    (hpin : ∀ b, F0.pn k = some b → q ≠ none ∧ σ'.ob.getD k .none ≠ .none) :
    Sim GL U w0 F0 ⟨σ'.sl, σ'.ob.set k o'⟩ a w' (rek ow k q g) := by
  have hkl' : k < σ'.ob.length := by rw [hr.obl]; exact hkl
  have hother : ∀ kk, kk ≠ k → (σ'.ob.set k o').getD kk .none = σ'.ob.getD kk .none := fun kk e => getD_set_ob_other _ _ e
  have hsame : (σ'.ob.set k o').getD k .none = o' := getD_set_ob_same _ _ hkl'
  have hal2 : ∀ kk c, alive (σ'.ob.set k o') kk c → (kk = k ∧ c = q) ∨ (alive σ'.ob kk c ∧ ¬ (kk = k ∧ c = q)) := fun kk c ha => by
    by_cases he : kk = k ∧ c = q
    · exact .inl he
    · refine .inr ⟨?_, he⟩
      by_cases hkk : kk = k
      · subst hkk
        rw [alive_one, hsame] at ha
        exact (hal c ha).resolve_left fun e => he ⟨rfl, e⟩
      · rw [← alive_congr (hother kk hkk) c]; exact ha
  refine h.turn hx hT σ'.sl _ hr.sll (by simp [hr.obl]) (fun i A v hv => hr.sl i A σ.ob v hv) (fun i kk c hkc => ?_) (fun kk c ho => ?_) (fun kk c kk' c' h1 h2 e => ?_) (fun kk c h1 => ?_) (fun hA kk => ?_) (fun kk b hb => ?_)
  · have hnp := hr.ky i (kk, c) hkc
    have hne : ¬ (kk = k ∧ c = q) := fun e => hnp (by rw [e.1, e.2]; exact hp)
    have h1 := hr.sm kk c hnp
    have h2 : sameK σ'.ob ow (σ'.ob.set k o') ow kk c := by
      by_cases hkk : kk = k
      · subst hkk; exact hsm c fun e => hne ⟨rfl, e⟩
      · exact sameK_congr (hother kk hkk) (fun _ => rfl) c
    have h3 := sameK_trans h1 h2
    -- only the key that is new lies elsewhere
    cases c with
    | none =>
      unfold sameK same1 at h3 ⊢
      cases ho : σ.ob.getD kk .none with
      | none => trivial
      | box b cs =>
        rw [ho] at h3
        obtain ⟨o1, cs1, e1, l1, _⟩ := h3
        exact ⟨o1, cs1, e1, l1, rek_other hne⟩
      | row b z xs =>
        rw [ho] at h3
        obtain ⟨o1, cs1, e1, l1, _⟩ := h3
        exact ⟨o1, cs1, e1, l1, rek_other hne⟩
    | some c =>
      intro o z xs h0
      obtain ⟨o1, xs1, e1, l1, _⟩ := h3 o z xs h0
      exact ⟨o1, xs1, e1, l1, rek_other hne⟩
  · by_cases he : kk = k ∧ c = q
    · rw [rek_same he]; exact hg.2.2
    · rw [rek_other he]
      refine .inl ⟨kk, c, hr.owd kk c ?_, rfl⟩
      by_cases hkk : kk = k
      · subst hkk
        rw [owned_one, hsame] at ho
        exact (how c ho).resolve_left fun e => he ⟨rfl, e⟩
      · rw [← owned_congr (hother kk hkk) c]; exact ho
  · rcases hal2 kk c h1 with he | ⟨ha, he⟩ <;> rcases hal2 kk' c' h2 with he' | ⟨ha', he'⟩
    · exact ⟨he.1.trans he'.1.symm, he.2.trans he'.2.symm⟩
    · rw [rek_same he, rek_other he'] at e
      exact absurd e.symm (hgn kk' c' ha' fun e0 => he' (by cases e0; exact ⟨rfl, rfl⟩))
    · rw [rek_other he, rek_same he'] at e
      exact absurd e (hgn kk c ha fun e0 => he (by cases e0; exact ⟨rfl, rfl⟩))
    · rw [rek_other he, rek_other he'] at e
      exact h.ho.inj kk c kk' c' (hr.al _ _ ha) (hr.al _ _ ha') e
  · rcases hal2 kk c h1 with he | ⟨ha, he⟩
    · rw [rek_same he]; exact ⟨hg.1, hg.2.1⟩
    · rw [rek_other he]
      have := h.ho.lt kk c (hr.al _ _ ha)
      exact ⟨Nat.lt_of_lt_of_le this.1 hx.size, this.2⟩
  · by_cases hkk : kk = k
    · subst hkk
      rw [hsame]
      exact hOR _ hA
    · rw [hother kk hkk]
      have hn : ∀ c, ¬ (kk = k ∧ c = q) := fun c e => hkk e.1
      have hn' : ∀ c, (kk, c) ≠ (k, q) := fun c e => hkk (by cases e; rfl)
      exact (hr.or kk _ (h.ho.obs kk)).keep hA (fun hne => ⟨rek_other (hn _), hblk kk none hkk (aliveOb hne)⟩) (fun b cs j o z xs hb hc => ⟨rek_other (hn _), hblk kk (some j) hkk (aliveBox hb hc)⟩)
  · by_cases hkk : kk = k
    · subst hkk
      obtain ⟨hq, hne⟩ := hpin b hb
      rw [rek_other (fun e => hq e.2.symm)]
      refine .inr ((h.pin kk b hb).resolve_left fun e => ?_)
      exact aliveOb_iff.1 (hr.al kk none (aliveOb_iff.2 hne)) e
    · rw [rek_other (fun e => hkk e.1), hother kk hkk]
      rcases h.pin kk b hb with e | e
      · refine .inl ?_
        by_cases hn : σ'.ob.getD kk .none = .none
        · exact hn
        · exact absurd e (aliveOb_iff.1 (hr.al kk none (aliveOb_iff.2 hn)))
      · exact .inr e
end
end Go.Proofs.YtmddfhjgdhjmkaaDoor.VM
