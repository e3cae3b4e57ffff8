/- The abstract machine and the memory: how the relation is kept. -/
import Derived.Test.YtmddfhjgdhjmkaaDoorVMS1
set_option linter.unusedVariables false
set_option linter.unusedSimpArgs false
namespace Go.Proofs.YtmddfhjgdhjmkaaDoor.VM

/-- w' goes on from w: but for blocks of F nothing has turned -/
structure Ext (w w' : World) (F : Nat → Prop) : Prop where
  os : w'.os = w.os
  tape : w'.tape = w.tape
  output : w'.output = w.output
  size : w.heap.size ≤ w'.heap.size
  block : ∀ b, b < w.heap.size → ¬ F b → w'.heap[b]? = w.heap[b]?

theorem Ext.refl (w : World) (F : Nat → Prop) : Ext w w F := ⟨rfl, rfl, rfl, Nat.le_refl _, fun _ _ _ => rfl⟩
theorem Ext.trans {w w1 w2 : World} {F F1 : Nat → Prop} (h : Ext w w1 F) (h1 : Ext w1 w2 F1) (hF : ∀ b, F1 b → F b ∨ w.heap.size ≤ b) : Ext w w2 F :=
  ⟨h1.os.trans h.os, h1.tape.trans h.tape, h1.output.trans h.output, Nat.le_trans h.size h1.size, fun b hb hn =>
    (h1.block b (Nat.lt_of_lt_of_le hb h.size) (fun h' => by rcases hF b h' with h' | h'; exact hn h'; omega)).trans (h.block b hb hn)⟩

theorem Th.lt {w : World} {g n : Nat} (h : Th w g n) (hn : 0 < n) : g < w.heap.size := by
  obtain ⟨v, hv⟩ := Option.isSome_iff_exists.1 (h 0 hn).1
  exact World.block_lt_of_cell? w _ hv
theorem Th.of_block {w w' : World} {g n : Nat} (h : Th w g n) (hb : w'.heap[g]? = w.heap[g]?) : Th w' g n := fun j hj => by
  have h1 := World.cell?_of_block (w := w) (w' := w') (a := ⟨g, 0 + j, none⟩) hb
  have h2 := World.frozen?_of_block (w := w) (w' := w') (a := ⟨g, 0 + j, none⟩) hb
  rw [h1, h2]; exact h j hj
theorem Ext.th {w w' : World} {F : Nat → Prop} (h : Ext w w' F) (hF : ∀ b n, F b → Th w b n → Th w' b n) (b n : Nat) (ht : Th w b n) : Th w' b n := by
  by_cases hb : F b
  · exact hF b n hb ht
  · rcases Nat.eq_zero_or_pos n with h0 | h0
    · subst h0; exact fun j hj => absurd hj (Nat.not_lt_zero _)
    · exact ht.of_block (h.block b (ht.lt h0) hb)

/-- key k is as it was, but for marks and elements -/
def same1 (ob : List Ob) (ow : Own) (ob' : List Ob) (ow' : Own) (k : Nat) : Prop :=
  match ob.getD k .none with
  | .none => True
  | .box _ cs => ∃ o' cs', ob'.getD k .none = .box o' cs' ∧ cs'.length = cs.length ∧ ow' k none = ow k none
  | .row _ z xs => ∃ o' xs', ob'.getD k .none = .row o' z xs' ∧ xs'.length = xs.length ∧ ow' k none = ow k none
def same2 (ob : List Ob) (ow : Own) (ob' : List Ob) (ow' : Own) (k c : Nat) : Prop :=
  ∀ o z xs, obRow (fun k => ob.getD k .none) k (some c) = some (o, z, xs) →
    ∃ o' xs', obRow (fun k => ob'.getD k .none) k (some c) = some (o', z, xs') ∧ xs'.length = xs.length ∧ ow' k (some c) = ow k (some c)
def sameK (ob : List Ob) (ow : Own) (ob' : List Ob) (ow' : Own) (k : Nat) : Option Nat → Prop
  | none => same1 ob ow ob' ow' k
  | some c => same2 ob ow ob' ow' k c
/-- the key that a cell of a slot refers to -/
def keyC : V → Option (Nat × Option Nat)
  | .ref k c _ => some (k, c)
  | .ptr k c _ _ => some (k, c)
  | _ => none
def keysV : V → List (Nat × Option Nat)
  | .st cs => cs.filterMap keyC
  | .tup vs => vs.flatMap fun | .st cs => cs.filterMap keyC | v => (keyC v).toList
  | v => (keyC v).toList

theorem cutLen_same {xs xs' : List V} (h : xs'.length = xs.length) (m : Option Nat) : cutLen xs' m = cutLen xs m := by
  cases m <;> simp [cutLen, h]

section
variable {w w' : World} {A A' : Nat → Prop} {ow ow' : Own} {ob ob' : List Ob}

theorem SC.keep {v : Value} {x : V} (h : SC w A ow ob v x) (hA : ∀ b, A b → A' b ∧ w'.heap[b]? = w.heap[b]?) (hT : ∀ b n, Th w b n → Th w' b n)
    (hk : ∀ k c, keyC x = some (k, c) → sameK ob ow ob' ow' k c) : SC w' A' ow' ob' v x := by
  cases x with
  | dead => trivial
  | ref k c m =>
    obtain ⟨o, z, xs, cp, h1, h2, h3, h4, h5⟩ := h
    have hs := hk k c rfl
    cases c with
    | none =>
      simp only [sameK, same1] at hs
      rw [obRow_none.1 h1] at hs
      obtain ⟨o', xs', e1, e2, e3⟩ := hs
      exact ⟨o', z, xs', cp, obRow_none.2 e1, by rw [cutLen_same e2, e3]; exact h2, by rw [cutLen_same e2, e2]; exact h3, by rw [cutLen_same e2]; exact h4, by rw [e3]; exact hT _ _ h5⟩
    | some c =>
      obtain ⟨o', xs', e1, e2, e3⟩ := hs _ _ _ h1
      exact ⟨o', z, xs', cp, e1, by rw [cutLen_same e2, e3]; exact h2, by rw [cutLen_same e2, e2]; exact h3, by rw [cutLen_same e2]; exact h4, by rw [e3]; exact hT _ _ h5⟩
  | ptr k c i j =>
    have hs := hk k c rfl
    cases c with
    | none =>
      simp only [sameK, same1] at hs
      rcases h with ⟨o, cs, h1, h2, h3⟩ | ⟨o, z, xs, h1, h2⟩
      · rw [h1] at hs
        obtain ⟨o', cs', e1, _, e2⟩ := hs
        exact .inl ⟨o', cs', e1, h2, by rw [e2]; exact h3⟩
      · rw [h1] at hs
        obtain ⟨o', xs', e1, _, e2⟩ := hs
        exact .inr ⟨o', z, xs', e1, by rw [e2]; exact h2⟩
    | some c =>
      obtain ⟨o, z, xs, h1, h2⟩ := h
      obtain ⟨o', xs', e1, e2, e3⟩ := hs _ _ _ h1
      exact ⟨o', z, xs', e1, by rw [e3]; exact h2⟩
  | sc => exact FR.mono h (fun b hb => (hA b hb).2) (fun b hb => (hA b hb).1)
  | sl => exact FR.mono h (fun b hb => (hA b hb).2) (fun b hb => (hA b hb).1)
  | nil => exact FR.mono h (fun b hb => (hA b hb).2) (fun b hb => (hA b hb).1)
  | rp => exact FR.mono h (fun b hb => (hA b hb).2) (fun b hb => (hA b hb).1)
  | clo => exact FR.mono h (fun b hb => (hA b hb).2) (fun b hb => (hA b hb).1)
  | st => exact h
  | dt => exact h
  | own => exact h
  | io => exact h
  | tup => exact h

theorem mem_filterMap_keyC {cs : List V} {j : Nat} {y : V} {k : Nat} {c : Option Nat} (hj : cs[j]? = some y) (hk : keyC y = some (k, c)) : (k, c) ∈ cs.filterMap keyC :=
  List.mem_filterMap.2 ⟨y, List.mem_of_getElem? hj, hk⟩

theorem SV.keep {v : Value} {x : V} (h : SV w A ow ob v x) (hA : ∀ b, A b → A' b ∧ w'.heap[b]? = w.heap[b]?) (hT : ∀ b n, Th w b n → Th w' b n)
    (hk : ∀ k c, (k, c) ∈ keysV x → sameK ob ow ob' ow' k c) : SV w' A' ow' ob' v x := by
  cases x with
  | dt x => exact VR.mono h (fun b hb => (hA b hb).2) (fun b hb => (hA b hb).1)
  | st cs =>
    obtain ⟨arr, h1, h2, h3⟩ := h
    exact ⟨arr, h1, h2, fun j u y hu hy => (h3 j u y hu hy).keep hA hT fun k c hkc => hk k c (mem_filterMap_keyC hy hkc)⟩
  | tup vs => exact h
  | _ =>
    simp only [SV] at h ⊢
    exact h.keep hA hT fun k c hkc => hk k c (by simp only [keysV, hkc, Option.toList_some, List.mem_singleton])

theorem SR.keep {v : Value} {x : V} (h : SR w A ow ob v x) (hA : ∀ b, A b → A' b ∧ w'.heap[b]? = w.heap[b]?) (hT : ∀ b n, Th w b n → Th w' b n)
    (hk : ∀ k c, (k, c) ∈ keysV x → sameK ob ow ob' ow' k c) : SR w' A' ow' ob' v x := by
  cases x with
  | tup vs =>
    obtain ⟨arr, h1, h2, h3⟩ := h
    refine ⟨arr, h1, h2, fun j u y hu hy => (h3 j u y hu hy).keep hA hT fun k c hkc => hk k c ?_⟩
    have hm := List.mem_of_getElem? hy
    simp only [keysV, List.mem_flatMap]
    refine ⟨y, hm, ?_⟩
    cases y <;> first
      | exact hkc
      | (simp [keysV, keyC] at hkc; done)
      | (exfalso; have := h3 j u _ hu hy; exact this)
  | _ =>
    simp only [SR] at h ⊢
    exact h.keep hA hT hk

theorem BC.keep {k j : Nat} {v : Value} {x : V} (h : BC w A ow k j v x) (hA : ∀ b, A b → A' b ∧ w'.heap[b]? = w.heap[b]?)
    (ho : ∀ o z xs, x = .own o z xs → ow' k (some j) = ow k (some j) ∧ w'.heap[ow k (some j)]? = w.heap[ow k (some j)]?) : BC w' A' ow' k j v x := by
  cases x with
  | own o z xs =>
    obtain ⟨c, h1, h2⟩ := h
    obtain ⟨e1, e2⟩ := ho o z xs rfl
    refine ⟨c, by rw [e1]; exact h1, ?_⟩
    rw [e1]
    refine ⟨h2.le, h2.th.of_block e2, fun i x hx => ?_⟩
    obtain ⟨ecs, hl, hc, hr⟩ := h2.at_ i x hx
    exact ⟨ecs, hl, hc.mono e2, hr.mono (fun b hb => (hA b hb).2) (fun b hb => (hA b hb).1)⟩
  | dead => trivial
  | st => exact h
  | _ =>
    simp only [BC] at h ⊢
    exact h.mono (fun b hb => (hA b hb).2) (fun b hb => (hA b hb).1)

theorem RowOk.keep {g z c : Nat} {xs : List V} (h : RowOk w A g z xs c) (hA : ∀ b, A b → A' b ∧ w'.heap[b]? = w.heap[b]?)
    (hg : w'.heap[g]? = w.heap[g]?) : RowOk w' A' g z xs c :=
  ⟨h.le, h.th.of_block hg, fun i x hx => by
    obtain ⟨ecs, hl, hc, hr⟩ := h.at_ i x hx
    exact ⟨ecs, hl, hc.mono hg, hr.mono (fun b hb => (hA b hb).2) (fun b hb => (hA b hb).1)⟩⟩

/-- an object none of whose blocks has turned -/
theorem OR.keep {k : Nat} {o : Ob} (h : OR w A ow k o) (hA : ∀ b, A b → A' b ∧ w'.heap[b]? = w.heap[b]?)
    (h1 : o ≠ .none → ow' k none = ow k none ∧ w'.heap[ow k none]? = w.heap[ow k none]?)
    (h2 : ∀ b cs j o' z xs, o = .box b cs → cs[j]? = some (.own o' z xs) → ow' k (some j) = ow k (some j) ∧ w'.heap[ow k (some j)]? = w.heap[ow k (some j)]?) : OR w' A' ow' k o := by
  cases o with
  | none => trivial
  | box b cs =>
    obtain ⟨ht, hc⟩ := h
    obtain ⟨e1, e2⟩ := h1 (by simp)
    refine ⟨by rw [e1]; exact ht.of_block e2, fun j v x hv hx => ?_⟩
    rw [e1] at hv
    have hv' : w.cell? ⟨ow k none, j, none⟩ = some v := by
      rw [← World.cell?_of_block (w := w) (w' := w') (a := ⟨ow k none, j, none⟩) e2]; exact hv
    exact (hc j v x hv' hx).keep hA fun o z xs hx' => by subst hx'; exact h2 b cs j o z xs rfl hx
  | row b z xs =>
    obtain ⟨c, hr⟩ := h
    obtain ⟨e1, e2⟩ := h1 (by simp)
    exact ⟨c, by rw [e1]; exact hr.keep hA e2⟩
end

/-- the listed package-level variables lie there, frozen -/
def Glb (GL : List (Nat × V)) (w : World) (A : Nat → Prop) : Prop := ∀ g x, fnd GL g = some x → A g ∧ ∃ ecs, At w g 0 ecs ∧ FR w A ecs x
theorem Glb.mono {GL : List (Nat × V)} {w w' : World} {A A' : Nat → Prop} (h : Glb GL w A) (hA : ∀ b, A b → A' b ∧ w'.heap[b]? = w.heap[b]?) : Glb GL w' A' := fun g x hg => by
  obtain ⟨h1, ecs, h2, h3⟩ := h g x hg
  exact ⟨(hA g h1).1, ecs, h2.mono (hA g h1).2, h3.mono (fun b hb => (hA b hb).2) (fun b hb => (hA b hb).1)⟩

/-- blocks that may turn; blocks of objects that came in -/
structure Fr where
  f : Nat → Prop
  pn : Nat → Option Nat
instance : CoeFun Fr fun _ => Nat → Prop := ⟨Fr.f⟩
theorem aliveOb_iff {ob : List Ob} {k : Nat} : alive ob k none ↔ ob.getD k .none ≠ .none := by
  unfold alive
  cases ob.getD k .none <;> simp

/-- the machine's state and the model's -/
structure Sim (GL : List (Nat × V)) (U : Nat → Prop) (w0 : World) (F0 : Fr) (σ : St) (a : Act) (w : World) (ow : Own) : Prop where
  len : a.tmps.size = σ.sl.length
  olen : σ.ob.length = σ.sl.length
  slots : ∀ i, SR w (Fz U w ow σ.ob) ow σ.ob (a.tmps.getD i undef) (σ.sl.getD i .dead)
  ho : HO U w ow σ.ob
  ext : Ext w0 w F0
  own0 : ∀ k c, owned σ.ob k c → F0 (ow k c) ∨ w0.heap.size ≤ ow k c
  un : ∀ b, w0.heap.size ≤ b → U b
  uF : ∀ b, F0 b → U b
  defers : a.defers = []
  gl : Glb GL w (Fz U w ow σ.ob)
  pin : ∀ k b, F0.pn k = some b → σ.ob.getD k .none = .none ∨ ow k none = b
  thk : ∀ b n, Th w0 b n → Th w b n

theorem getD_set_slots (l : List V) (d i : Nat) (x : V) : (l.set d x).getD i .dead = if i = d ∧ d < l.length then x else l.getD i .dead := by
  simp only [List.getD_eq_getElem?_getD, List.getElem?_set]
  by_cases h : d = i
  · subst h
    by_cases hl : d < l.length
    · simp [hl]
    · simp [hl]
  · rw [if_neg h, if_neg (fun hh => h hh.1.symm)]
theorem getD_put (a : Act) (d i : Nat) (v : Value) : (a.put (some d) v).tmps.getD i undef = if i = d ∧ d < a.tmps.size then v else a.tmps.getD i undef := by
  simp only [Act.put, Array.getD_eq_getD_getElem?, Array.getElem?_setIfInBounds]
  by_cases h : d = i
  · subst h
    by_cases hl : d < a.tmps.size
    · simp [hl]
    · simp [hl]
  · rw [if_neg h, if_neg (fun hh => h hh.1.symm)]

section
variable {GL : List (Nat × V)} {U : Nat → Prop} {w0 w : World} {F0 : Fr} {σ : St} {a : Act} {ow : Own}

/-- a slot is given a value -/
theorem Sim.put (h : Sim GL U w0 F0 σ a w ow) (d : Nat) {v : Value} {x : V} (hv : d < σ.sl.length → SR w (Fz U w ow σ.ob) ow σ.ob v x) : Sim GL U w0 F0 ⟨σ.sl.set d x, σ.ob⟩ (a.put (some d) v) w ow where
  len := by simp [Act.put, h.len]
  olen := by simp [h.olen]
  slots := fun i => by
    show SR w _ ow σ.ob _ ((σ.sl.set d x).getD i .dead)
    rw [getD_put, getD_set_slots, h.len]
    split
    · rename_i hh; exact hv hh.2
    · exact h.slots i
  ho := h.ho
  ext := h.ext
  own0 := h.own0
  un := h.un
  uF := h.uF
  defers := h.defers
  gl := h.gl
  pin := h.pin
  thk := h.thk

theorem SR.dead {w : World} {A : Nat → Prop} {ow : Own} {ob : List Ob} (v : Value) : SR w A ow ob v .dead := trivial

/-- a slot is forgotten -/
theorem Sim.drop (h : Sim GL U w0 F0 σ a w ow) (d : Nat) : Sim GL U w0 F0 (drop σ d) a w ow where
  len := by simp [VM.drop, h.len]
  olen := by simp [VM.drop, h.olen]
  slots := fun i => by
    show SR w _ ow σ.ob _ ((σ.sl.set d .dead).getD i .dead)
    rw [getD_set_slots]
    split
    · exact SR.dead _
    · exact h.slots i
  ho := h.ho
  ext := h.ext
  own0 := h.own0
  un := h.un
  uF := h.uF
  defers := h.defers
  gl := h.gl
  pin := h.pin
  thk := h.thk
end


/-! ### the world goes on -/
section
variable {GL : List (Nat × V)} {U : Nat → Prop} {w0 w w' : World} {F0 : Fr} {σ : St} {a : Act} {ow : Own}

theorem sameK_refl (ob : List Ob) (ow : Own) (k : Nat) (c : Option Nat) : sameK ob ow ob ow k c := by
  cases c with
  | none =>
    show same1 ob ow ob ow k
    unfold same1
    cases h : ob.getD k .none with
    | none => trivial
    | box o cs => exact ⟨o, cs, rfl, rfl, rfl⟩
    | row o z xs => exact ⟨o, xs, rfl, rfl, rfl⟩
  | some c => exact fun o z xs h => ⟨o, xs, h, rfl, rfl⟩

theorem Fz.grow {ob : List Ob} (hs : w.heap.size ≤ w'.heap.size) : ∀ b, Fz U w ow ob b → Fz U w' ow ob b :=
  fun _ hb => ⟨hb.1, Nat.lt_of_lt_of_le hb.2.1 hs, hb.2.2⟩

theorem aliveBox {ob : List Ob} {k j : Nat} {b o : Bool} {cs xs : List V} {z : Nat} (h : ob.getD k .none = .box b cs) (hc : cs[j]? = some (.own o z xs)) : alive ob k (some j) := by
  unfold alive; rw [h]; exact ⟨o, z, xs, hc⟩
theorem aliveOb {ob : List Ob} {k : Nat} (h : ob.getD k .none ≠ .none) : alive ob k none := by
  unfold alive
  cases hk : ob.getD k .none with
  | none => exact absurd hk h
  | _ => trivial

/-- nothing that was there has turned -/
theorem Sim.world (h : Sim GL U w0 F0 σ a w ow) (hx : Ext w w' (fun _ => False)) : Sim GL U w0 F0 σ a w' ow := by
  have hA : ∀ b, Fz U w ow σ.ob b → Fz U w' ow σ.ob b ∧ w'.heap[b]? = w.heap[b]? := fun b hb => ⟨Fz.grow hx.size b hb, hx.block b hb.2.1 (fun hf => hf)⟩
  have hT : ∀ b n, Th w b n → Th w' b n := hx.th (fun _ _ hf => hf.elim)
  refine ⟨h.len, h.olen, fun i => (h.slots i).keep hA hT fun k c _ => sameK_refl _ _ _ _, ⟨fun k => ?_, h.ho.inj, fun k c hkc => ⟨Nat.lt_of_lt_of_le (h.ho.lt k c hkc).1 hx.size, (h.ho.lt k c hkc).2⟩⟩,
    h.ext.trans hx (fun _ hf => hf.elim), h.own0, h.un, h.uF, h.defers, h.gl.mono hA, h.pin, fun b n ht => hT b n (h.thk b n ht)⟩
  refine (h.ho.obs k).keep hA (fun hn => ⟨rfl, hx.block _ (h.ho.lt k none (aliveOb hn)).1 (fun hf => hf)⟩) (fun b cs j o z xs hb hc => ⟨rfl, hx.block _ (h.ho.lt k (some j) (aliveBox hb hc)).1 (fun hf => hf)⟩)

theorem Sim.drew (h : Sim GL U w0 F0 σ a w ow) : Sim GL U w0 F0 σ a w.drew ow := h.world ⟨rfl, rfl, rfl, Nat.le_refl _, fun _ _ _ => rfl⟩

/-- new keys of an object -/
def upd (ow : Own) (d : Nat) (f : Option Nat → Nat) : Own := fun k c => if k = d then f c else ow k c
theorem upd_same (ow : Own) (d : Nat) (f : Option Nat → Nat) (c : Option Nat) : upd ow d f d c = f c := by simp [upd]
theorem upd_other (ow : Own) {d k : Nat} (f : Option Nat → Nat) (c : Option Nat) (h : k ≠ d) : upd ow d f k c = ow k c := by simp [upd, h]

theorem getD_set_ob (l : List Ob) (d i : Nat) (x : Ob) : (l.set d x).getD i .none = if i = d ∧ d < l.length then x else l.getD i .none := by
  simp only [List.getD_eq_getElem?_getD, List.getElem?_set]
  by_cases h : d = i
  · subst h
    by_cases hl : d < l.length
    · simp [hl]
    · simp [hl]
  · rw [if_neg h, if_neg (fun hh => h hh.1.symm)]
theorem getD_set_ob_same (l : List Ob) {d : Nat} (x : Ob) (h : d < l.length) : (l.set d x).getD d .none = x := by rw [getD_set_ob, if_pos ⟨rfl, h⟩]
theorem getD_set_ob_other (l : List Ob) {d k : Nat} (x : Ob) (h : k ≠ d) : (l.set d x).getD k .none = l.getD k .none := by rw [getD_set_ob, if_neg (fun hh => h hh.1)]

theorem alive_congr {ob ob' : List Ob} {k : Nat} (h : ob'.getD k .none = ob.getD k .none) (c : Option Nat) : alive ob' k c = alive ob k c := by
  unfold alive; rw [h]
theorem owned_congr {ob ob' : List Ob} {k : Nat} (h : ob'.getD k .none = ob.getD k .none) (c : Option Nat) : owned ob' k c = owned ob k c := by
  unfold owned; rw [h]
theorem sameK_congr {ob ob' : List Ob} {ow ow' : Own} {k : Nat} (h : ob'.getD k .none = ob.getD k .none) (hw : ∀ c, ow' k c = ow k c) (c : Option Nat) : sameK ob ow ob' ow' k c := by
  cases c with
  | none =>
    show same1 ob ow ob' ow' k
    unfold same1
    rw [h]
    cases hk : ob.getD k .none with
    | none => trivial
    | box o cs => exact ⟨o, cs, rfl, rfl, hw _⟩
    | row o z xs => exact ⟨o, xs, rfl, rfl, hw _⟩
  | some c =>
    intro o z xs h1
    refine ⟨o, xs, ?_, rfl, hw _⟩
    rw [obRow_some] at h1 ⊢
    rw [h]; exact h1

/-- a slot refers to what is there -/
theorem SC.alive {A : Nat → Prop} {ob : List Ob} {v : Value} {x : V} (h : SC w A ow ob v x) {k : Nat} {c : Option Nat} (hk : keyC x = some (k, c)) : ob.getD k .none ≠ .none := by
  cases x <;> simp only [keyC, Option.some.injEq, Prod.mk.injEq, reduceCtorEq] at hk
  case ref k' c' m =>
    obtain ⟨rfl, rfl⟩ := hk
    obtain ⟨o, z, xs, cp, h1, _⟩ := h
    cases c' with
    | none => rw [obRow_none] at h1; rw [h1]; simp
    | some c => rw [obRow_some] at h1; obtain ⟨b, cs, h1, _⟩ := h1; rw [h1]; simp
  case ptr k' c' i j =>
    obtain ⟨rfl, rfl⟩ := hk
    cases c' with
    | none =>
      rcases h with ⟨o, cs, h1, _⟩ | ⟨o, z, xs, h1, _⟩ <;> (rw [h1]; simp)
    | some c =>
      obtain ⟨o, z, xs, h1, _⟩ := h
      rw [obRow_some] at h1; obtain ⟨b, cs, h1, _⟩ := h1; rw [h1]; simp

theorem SV.alive {A : Nat → Prop} {ob : List Ob} {v : Value} {x : V} (h : SV w A ow ob v x) {k : Nat} {c : Option Nat} (hk : (k, c) ∈ keysV x) : ob.getD k .none ≠ .none := by
  cases x with
  | dt x => simp [keysV, keyC] at hk
  | st cs =>
    obtain ⟨arr, _, h2, h3⟩ := h
    simp only [keysV, List.mem_filterMap] at hk
    obtain ⟨y, hy, hk⟩ := hk
    obtain ⟨j, hj, rfl⟩ := List.getElem_of_mem hy
    exact (h3 j (arr[j]'(by omega)) _ (Array.getElem?_eq_getElem (by omega)) (List.getElem?_eq_getElem hj)).alive hk
  | tup vs => exact (h : False).elim
  | _ =>
    simp only [SV] at h
    simp only [keysV, Option.mem_toList] at hk
    exact h.alive hk

theorem SR.alive {A : Nat → Prop} {ob : List Ob} {v : Value} {x : V} (h : SR w A ow ob v x) {k : Nat} {c : Option Nat} (hk : (k, c) ∈ keysV x) : ob.getD k .none ≠ .none := by
  cases x with
  | tup vs =>
    obtain ⟨arr, _, h2, h3⟩ := h
    simp only [keysV, List.mem_flatMap] at hk
    obtain ⟨y, hy, hk⟩ := hk
    obtain ⟨j, hj, rfl⟩ := List.getElem_of_mem hy
    have hv := h3 j (arr[j]'(by omega)) _ (Array.getElem?_eq_getElem (by omega)) (List.getElem?_eq_getElem hj)
    refine hv.alive (c := c) ?_
    generalize vs[j] = y at hk hv ⊢
    cases y <;> first
      | exact hk
      | (exfalso; exact hv)
  | _ =>
    simp only [SR] at h
    exact h.alive hk

/-- a new object: at d there was none; its blocks are new -/
theorem Sim.create (h : Sim GL U w0 F0 σ a w ow) (hx : Ext w w' (fun _ => False)) (d : Nat) (o : Ob) (f : Option Nat → Nat) (hd : σ.ob.getD d .none = .none) (hpn : F0.pn d = none)
    (hf : ∀ c, alive (σ.ob.set d o) d c → w.heap.size ≤ f c ∧ f c < w'.heap.size)
    (hinj : ∀ c c', alive (σ.ob.set d o) d c → alive (σ.ob.set d o) d c' → f c = f c' → c = c')
    (hOR : (∀ b, Fz U w ow σ.ob b → Fz U w' (upd ow d f) (σ.ob.set d o) b) → OR w' (Fz U w' (upd ow d f) (σ.ob.set d o)) (upd ow d f) d o) :
    Sim GL U w0 F0 ⟨σ.sl, σ.ob.set d o⟩ a w' (upd ow d f) := by
  by_cases hdl : d < σ.ob.length
  case neg =>
    have hset : σ.ob.set d o = σ.ob := List.set_eq_of_length_le (by omega)
    rw [hset]
    have h' := h.world hx
    have hal : ∀ c, ¬ alive σ.ob d c := fun c hc => by
      unfold VM.alive at hc; rw [hd] at hc; cases c <;> exact hc
    have how : ∀ k c, VM.alive σ.ob k c → upd ow d f k c = ow k c := fun k c hc => upd_other _ _ _ (fun e => hal c (e ▸ hc))
    have hA : ∀ b, Fz U w' ow σ.ob b → Fz U w' (upd ow d f) σ.ob b ∧ w'.heap[b]? = w'.heap[b]? := fun b hb => ⟨⟨hb.1, hb.2.1, fun k c hkc => by rw [how k c (alive_of_owned hkc)]; exact hb.2.2 k c hkc⟩, rfl⟩
    refine ⟨h'.len, h'.olen, fun i => (h'.slots i).keep hA (fun _ _ ht => ht) (fun k c hk => sameK_congr rfl (fun c => upd_other _ _ _ (fun e => (h'.slots i).alive hk (by rw [e]; exact hd))) c), ⟨fun k => ?_, ?_, ?_⟩, h'.ext, ?_, h'.un, h'.uF, h'.defers, h'.gl.mono hA, fun k b hk => by
      by_cases hkd : k = d
      · subst hkd; exact .inl hd
      · rw [upd_other _ _ _ hkd]; exact h'.pin k b hk, h'.thk⟩
    · refine (h'.ho.obs k).keep hA (fun hn => ⟨how k none (aliveOb hn), rfl⟩) (fun b cs j o z xs hb hc => ⟨how k _ (aliveBox hb hc), rfl⟩)
    · intro k c k' c' h1 h2 he
      rw [how k c h1, how k' c' h2] at he
      exact h'.ho.inj k c k' c' h1 h2 he
    · intro k c h1; rw [how k c h1]; exact h'.ho.lt k c h1
    · intro k c h1; rw [how k c (alive_of_owned h1)]; exact h'.own0 k c h1
  case pos =>
  have hother : ∀ k, k ≠ d → (σ.ob.set d o).getD k .none = σ.ob.getD k .none := fun k hk => getD_set_ob_other _ _ hk
  have hsame : (σ.ob.set d o).getD d .none = o := getD_set_ob_same _ _ hdl
  have hA0 : ∀ b, Fz U w ow σ.ob b → Fz U w' (upd ow d f) (σ.ob.set d o) b := fun b hb => by
    refine ⟨hb.1, Nat.lt_of_lt_of_le hb.2.1 hx.size, fun k c hkc => ?_⟩
    by_cases hk : k = d
    · subst hk
      rw [upd_same]
      have := (hf c (alive_of_owned hkc)).1
      have := hb.2.1
      omega
    · rw [upd_other _ _ _ hk]
      exact hb.2.2 k c (by rw [← owned_congr (hother k hk) c]; exact hkc)
  have hA : ∀ b, Fz U w ow σ.ob b → Fz U w' (upd ow d f) (σ.ob.set d o) b ∧ w'.heap[b]? = w.heap[b]? := fun b hb => ⟨hA0 b hb, hx.block b hb.2.1 (fun hf => hf)⟩
  have hT : ∀ b n, Th w b n → Th w' b n := hx.th (fun _ _ hf => hf.elim)
  refine ⟨h.len, by simpa using h.olen, fun i => (h.slots i).keep hA hT fun k c hk => ?_, ⟨fun k => ?_, ?_, ?_⟩, h.ext.trans hx (fun _ hf => hf.elim), ?_, h.un, h.uF, h.defers, h.gl.mono hA, fun k b hk => by
    by_cases hkd : k = d
    · subst hkd; rw [hpn] at hk; cases hk
    · rw [upd_other _ _ _ hkd]
      show (σ.ob.set d o).getD k .none = .none ∨ _
      rw [hother k hkd]; exact h.pin k b hk, fun b n ht => hT b n (h.thk b n ht)⟩
  · have hne : k ≠ d := fun e => (h.slots i).alive hk (by rw [e]; exact hd)
    exact sameK_congr (hother k hne) (fun c => upd_other _ _ _ hne) c
  · by_cases hk : k = d
    · subst hk
      show OR _ _ _ k ((σ.ob.set k o).getD k .none)
      rw [hsame]; exact hOR hA0
    · show OR _ _ _ k ((σ.ob.set d o).getD k .none)
      rw [hother k hk]
      refine (h.ho.obs k).keep hA (fun hn => ⟨upd_other _ _ _ hk, hx.block _ (h.ho.lt k none (aliveOb hn)).1 (fun hf => hf)⟩) (fun b cs j o z xs hb hc => ⟨upd_other _ _ _ hk, hx.block _ (h.ho.lt k (some j) (aliveBox hb hc)).1 (fun hf => hf)⟩)
  · intro k c k' c' h1 h2 he
    by_cases hk : k = d <;> by_cases hk' : k' = d
    · subst hk; subst hk'
      rw [upd_same, upd_same] at he
      exact ⟨rfl, hinj c c' h1 h2 he⟩
    · subst hk
      rw [upd_same, upd_other _ _ _ hk'] at he
      have := (hf c h1).1
      have := (h.ho.lt k' c' (by rw [← alive_congr (hother k' hk') c']; exact h2)).1
      omega
    · subst hk'
      rw [upd_same, upd_other _ _ _ hk] at he
      have := (hf c' h2).1
      have := (h.ho.lt k c (by rw [← alive_congr (hother k hk) c]; exact h1)).1
      omega
    · rw [upd_other _ _ _ hk, upd_other _ _ _ hk'] at he
      exact h.ho.inj k c k' c' (by rw [← alive_congr (hother k hk) c]; exact h1) (by rw [← alive_congr (hother k' hk') c']; exact h2) he
  · intro k c h1
    by_cases hk : k = d
    · subst hk
      rw [upd_same]
      exact ⟨(hf c h1).2, h.un _ (Nat.le_trans h.ext.size (hf c h1).1)⟩
    · rw [upd_other _ _ _ hk]
      have := h.ho.lt k c (by rw [← alive_congr (hother k hk) c]; exact h1)
      exact ⟨Nat.lt_of_lt_of_le this.1 hx.size, this.2⟩
  · intro k c h1
    by_cases hk : k = d
    · subst hk
      rw [upd_same]
      exact .inr (Nat.le_trans h.ext.size (hf c (alive_of_owned h1)).1)
    · rw [upd_other _ _ _ hk]
      exact h.own0 k c (by rw [← owned_congr (hother k hk) c]; exact h1)
end


/-! ### objects change, the world stands -/
section
variable {GL : List (Nat × V)} {U : Nat → Prop} {w0 w : World} {F0 : Fr} {σ : St} {a : Act} {ow : Own}

theorem Sim.obs (h : Sim GL U w0 F0 σ a w ow) (sl' : List V) (ob' : List Ob) (hl : sl'.length = σ.sl.length) (hol : ob'.length = σ.ob.length)
    (ho : ∀ k c, owned ob' k c → owned σ.ob k c) (ha : ∀ k c, VM.alive ob' k c → VM.alive σ.ob k c)
    (hO : ∀ k A, OR w A ow k (σ.ob.getD k .none) → OR w A ow k (ob'.getD k .none))
    (hs : ∀ i A v, SR w A ow σ.ob v (σ.sl.getD i .dead) → SR w A ow σ.ob v (sl'.getD i .dead))
    (hk : ∀ i k c, (k, c) ∈ keysV (sl'.getD i .dead) → sameK σ.ob ow ob' ow k c) : Sim GL U w0 F0 ⟨sl', ob'⟩ a w ow := by
  have hA : ∀ b, Fz U w ow σ.ob b → Fz U w ow ob' b ∧ w.heap[b]? = w.heap[b]? := fun b hb => ⟨⟨hb.1, hb.2.1, fun k c hkc => hb.2.2 k c (ho k c hkc)⟩, rfl⟩
  refine ⟨h.len.trans hl.symm, by show ob'.length = sl'.length; rw [hol, hl]; exact h.olen, fun i => (hs i _ _ (h.slots i)).keep hA (fun _ _ ht => ht) (hk i), ⟨fun k => ?_, ?_, ?_⟩, h.ext, fun k c hkc => h.own0 k c (ho k c hkc), h.un, h.uF, h.defers, h.gl.mono hA, fun k b hk => by
    by_cases hn : ob'.getD k .none = .none
    · exact .inl hn
    · exact .inr ((h.pin k b hk).resolve_left (aliveOb_iff.1 (ha k none (aliveOb_iff.2 hn)))), h.thk⟩
  · exact (hO k _ (h.ho.obs k)).keep hA (fun _ => ⟨rfl, rfl⟩) (fun _ _ _ _ _ _ _ _ => ⟨rfl, rfl⟩)
  · exact fun k c k' c' h1 h2 he => h.ho.inj k c k' c' (ha k c h1) (ha k' c' h2) he
  · exact fun k c h1 => h.ho.lt k c (ha k c h1)

theorem getD_of_set {ob : List Ob} {k k' : Nat} {o : Ob} (h : (ob.set k o).getD k' .none ≠ ob.getD k' .none) : k' = k ∧ (ob.set k o).getD k' .none = o := by
  rw [getD_set_ob] at h ⊢
  by_cases hc : k' = k ∧ k < ob.length
  · rw [if_pos hc]; exact ⟨hc.1, rfl⟩
  · rw [if_neg hc] at h; exact absurd rfl h

/-- what a step does to one object, for the lemma above -/
structure Sub (w : World) (ow : Own) (k : Nat) (o o' : Ob) : Prop where
  or : ∀ A, OR w A ow k o → OR w A ow k o'
  al : ∀ c, VM.alive [o'] 0 c → VM.alive [o] 0 c
  ow : ∀ c, owned [o'] 0 c → owned [o] 0 c

theorem owned_one (ob : List Ob) (k : Nat) (c : Option Nat) : owned ob k c = owned [ob.getD k .none] 0 c := by unfold owned; simp
theorem alive_one (ob : List Ob) (k : Nat) (c : Option Nat) : alive ob k c = alive [ob.getD k .none] 0 c := by unfold VM.alive; simp

theorem Sim.obSet (h : Sim GL U w0 F0 σ a w ow) (sl' : List V) (k0 : Nat) (o : Ob) (hl : sl'.length = σ.sl.length) (hsub : Sub w ow k0 (σ.ob.getD k0 .none) o)
    (hs : ∀ i A v, SR w A ow σ.ob v (σ.sl.getD i .dead) → SR w A ow σ.ob v (sl'.getD i .dead))
    (hk : ∀ i c, (k0, c) ∈ keysV (sl'.getD i .dead) → sameK σ.ob ow (σ.ob.set k0 o) ow k0 c) : Sim GL U w0 F0 ⟨sl', σ.ob.set k0 o⟩ a w ow := by
  have hd : ∀ k, (σ.ob.set k0 o).getD k .none = σ.ob.getD k .none ∨ (k = k0 ∧ (σ.ob.set k0 o).getD k .none = o) := fun k => by
    rw [getD_set_ob]
    split
    · rename_i hc; exact .inr ⟨hc.1, rfl⟩
    · exact .inl rfl
  refine h.obs sl' _ hl (by simp) (fun k c hkc => ?_) (fun k c hkc => ?_) (fun k A hA => ?_) hs (fun i k c hkc => ?_)
  · rcases hd k with he | ⟨rfl, he⟩
    · rw [owned_congr he] at hkc; exact hkc
    · rw [owned_one, he] at hkc; rw [owned_one]; exact hsub.ow c hkc
  · rcases hd k with he | ⟨rfl, he⟩
    · rw [alive_congr he] at hkc; exact hkc
    · rw [alive_one, he] at hkc; rw [alive_one]; exact hsub.al c hkc
  · rcases hd k with he | ⟨rfl, he⟩
    · rw [he]; exact hA
    · rw [he]; exact hsub.or A hA
  · by_cases hkk : k = k0
    · subst hkk; exact hk i c hkc
    · exact sameK_congr (getD_set_ob_other _ _ hkk) (fun _ => rfl) c

theorem getElem?_set_V (cs : List V) (c j : Nat) (x : V) : (cs.set c x)[j]? = if j = c ∧ c < cs.length then some x else cs[j]? := by
  rw [List.getElem?_set]
  by_cases h : c = j
  · subst h
    by_cases hl : c < cs.length
    · simp [hl]
    · simp [hl]
  · rw [if_neg h, if_neg (fun hh => h hh.1.symm)]

theorem frzO_sub (w : World) (ow : Own) (k : Nat) (c : Option Nat) (o : Ob) : Sub w ow k o (frzO c o) := by
  cases c with
  | none =>
    cases o with
    | none => exact ⟨fun _ h => h, fun _ h => h, fun _ h => h⟩
    | box b cs =>
      refine ⟨fun _ h => h, fun c h => ?_, fun c h => ?_⟩
      · cases c <;> exact h
      · cases c with
        | none => simp [owned, frzO] at h
        | some j => exact h
    | row b z xs =>
      refine ⟨fun _ h => h, fun c h => ?_, fun c h => ?_⟩
      · cases c <;> exact h
      · cases c <;> simp [owned, frzO] at h
  | some c =>
    cases o with
    | none => exact ⟨fun _ h => h, fun _ h => h, fun _ h => h⟩
    | row b z xs => exact ⟨fun _ h => h, fun _ h => h, fun _ h => h⟩
    | box b cs =>
      simp only [frzO]
      cases hc : cs.getD c .dead with
      | own o z xs =>
        have hc' : cs[c]? = some (.own o z xs) := by
          rw [List.getD_eq_getElem?_getD] at hc
          cases h : cs[c]? with
          | none => rw [h] at hc; simp at hc
          | some x => rw [h] at hc; simp at hc; rw [hc]
        have hlt : c < cs.length := (List.getElem?_eq_some_iff.1 hc').1
        refine ⟨fun A h => ?_, fun q h => ?_, fun q h => ?_⟩
        rotate_left
        · cases q with
          | none => exact h
          | some j =>
            obtain ⟨o', z', xs', h⟩ := h
            rw [getElem?_set_V] at h
            split at h
            · rename_i hj; obtain ⟨rfl, _⟩ := hj; exact ⟨o, z, xs, hc'⟩
            · exact ⟨o', z', xs', h⟩
        · cases q with
          | none => exact h
          | some j =>
            obtain ⟨z', xs', h⟩ := h
            rw [getElem?_set_V] at h
            split at h
            · simp at h
            · exact ⟨z', xs', h⟩
        · obtain ⟨h1, h2⟩ := h
          refine ⟨by simpa using h1, fun j v x hv hx => ?_⟩
          rw [getElem?_set_V] at hx
          split at hx
          · rename_i hj; obtain ⟨rfl, _⟩ := hj
            simp only [Option.some.injEq] at hx
            subst hx
            exact (h2 j v _ hv hc' : BC w A ow k j v (.own o z xs))
          · exact h2 j v x hv hx
      | _ => exact ⟨fun _ h => h, fun _ h => h, fun _ h => h⟩

theorem frzO_box (c : Nat) (b : Bool) (cs : List V) : ∃ cs', frzO (some c) (.box b cs) = .box b cs' ∧ cs'.length = cs.length ∧ ∀ j, j ≠ c → cs'[j]? = cs[j]? := by
  cases h : cs.getD c .dead with
  | own o z xs => exact ⟨cs.set c (.own false z xs), by simp only [frzO, h], by simp, fun j hj => by rw [getElem?_set_V, if_neg (fun hh => hj hh.1)]⟩
  | _ => exact ⟨cs, by simp only [frzO, h], rfl, fun _ _ => rfl⟩

theorem frz1_same (ob : List Ob) (ow : Own) (k : Nat) (c : Option Nat) (q : Option Nat) : sameK ob ow (ob.set k (frzO c (ob.getD k .none))) ow k q := by
  by_cases hl : k < ob.length
  case neg => rw [List.set_eq_of_length_le (by omega)]; exact sameK_refl _ _ _ _
  cases q with
  | none =>
    show same1 _ _ _ _ _
    unfold same1
    rw [getD_set_ob_same _ _ hl]
    cases ho : ob.getD k .none with
    | none => trivial
    | box b cs =>
      cases c with
      | none => exact ⟨false, cs, rfl, rfl, rfl⟩
      | some c =>
        obtain ⟨cs', e1, e2, _⟩ := frzO_box c b cs
        exact ⟨b, cs', e1, e2, rfl⟩
    | row b z xs =>
      cases c with
      | none => exact ⟨false, xs, rfl, rfl, rfl⟩
      | some c => exact ⟨b, xs, rfl, rfl, rfl⟩
  | some j =>
    intro o z xs h1
    rw [obRow_some] at h1
    obtain ⟨b, cs, h1, h2⟩ := h1
    have hset := getD_set_ob_same ob (frzO c (ob.getD k .none)) hl
    cases c with
    | none =>
      refine ⟨o, xs, ?_, rfl, rfl⟩
      rw [obRow_some]
      exact ⟨false, cs, by rw [hset, h1]; rfl, h2⟩
    | some c =>
      by_cases hjc : j = c
      · subst hjc
        refine ⟨false, xs, ?_, rfl, rfl⟩
        rw [obRow_some]
        refine ⟨b, cs.set j (.own false z xs), ?_, ?_⟩
        · rw [hset, h1]
          simp only [frzO, List.getD_eq_getElem?_getD, h2, Option.getD_some]
        · rw [getElem?_set_V, if_pos ⟨rfl, (List.getElem?_eq_some_iff.1 h2).1⟩]
      · obtain ⟨cs', e1, _, e2⟩ := frzO_box c b cs
        refine ⟨o, xs, ?_, rfl, rfl⟩
        rw [obRow_some]
        exact ⟨b, cs', by rw [hset, h1]; exact e1, by rw [e2 j hjc]; exact h2⟩

theorem Sim.frz1 (h : Sim GL U w0 F0 σ a w ow) (k : Nat) (c : Option Nat) : Sim GL U w0 F0 ⟨σ.sl, VM.frz1 σ.ob k c⟩ a w ow :=
  h.obSet σ.sl k _ rfl (frzO_sub _ _ _ _ _) (fun _ _ _ h => h) (fun _ _ _ => frz1_same _ _ _ _ _)

theorem Sim.freeze (ks : List (Nat × Option Nat)) : ∀ {σ : St}, Sim GL U w0 F0 σ a w ow → Sim GL U w0 F0 ⟨σ.sl, VM.freeze σ.ob ks⟩ a w ow := by
  induction ks with
  | nil => intro σ h; exact h
  | cons k ks ih =>
    intro σ h
    obtain ⟨k, c⟩ := k
    exact ih (h.frz1 k c)
end


/-! ### what is dropped -/
section
variable {GL : List (Nat × V)} {U : Nat → Prop} {w0 w : World} {F0 : Fr} {σ : St} {a : Act} {ow : Own}

theorem getD_map (l : List V) (f : V → V) (hf : f .dead = .dead) (i : Nat) : (l.map f).getD i .dead = f (l.getD i .dead) := by
  simp only [List.getD_eq_getElem?_getD, List.getElem?_map]
  cases l[i]? <;> simp [hf]

/-- a map of slots' values that forgets -/
structure Forget (f : V → V) (p : Nat × Option Nat → Prop) (g : V → V) (t : V → V) : Prop where
  dead : f .dead = .dead
  c : ∀ x, g x = x ∨ g x = .dead
  ck : ∀ x q, keyC (g x) = some q → ¬ p q
  t1 : ∀ cs, t (.st cs) = .dead
  t2 : ∀ x, (∀ cs, x ≠ .st cs) → t x = g x
  st : ∀ cs, f (.st cs) = .st (cs.map g)
  tup : ∀ cs, f (.tup cs) = .tup (cs.map t)
  el : ∀ x, (∀ cs, x ≠ .st cs) → (∀ cs, x ≠ .tup cs) → f x = g x

theorem SC.forget {A : Nat → Prop} {ob : List Ob} {v : Value} {x y : V} (h : SC w A ow ob v x) (hy : y = x ∨ y = .dead) : SC w A ow ob v y := by
  rcases hy with rfl | rfl
  · exact h
  · trivial
theorem SV.forget {A : Nat → Prop} {ob : List Ob} {v : Value} {x y : V} (h : SV w A ow ob v x) (hy : y = x ∨ y = .dead) : SV w A ow ob v y := by
  rcases hy with rfl | rfl
  · exact h
  · trivial
theorem SR.forget {A : Nat → Prop} {ob : List Ob} {v : Value} {x y : V} (h : SR w A ow ob v x) (hy : y = x ∨ y = .dead) : SR w A ow ob v y := by
  rcases hy with rfl | rfl
  · exact h
  · trivial

theorem Forget.sr {f g t : V → V} {p : Nat × Option Nat → Prop} (F : Forget f p g t) {A : Nat → Prop} {ob : List Ob} {v : Value} {x : V} (h : SR w A ow ob v x) : SR w A ow ob v (f x) := by
  by_cases h1 : ∃ cs, x = .st cs
  · obtain ⟨cs, rfl⟩ := h1
    obtain ⟨arr, e1, e2, e3⟩ := h
    rw [F.st]
    refine ⟨arr, e1, by simpa using e2, fun j u y hu hy => ?_⟩
    rw [List.getElem?_map] at hy
    cases hc : cs[j]? with
    | none => rw [hc] at hy; simp at hy
    | some y' =>
      rw [hc] at hy
      simp only [Option.map_some, Option.some.injEq] at hy
      subst hy
      exact (e3 j u y' hu hc).forget (F.c y')
  · by_cases h2 : ∃ cs, x = .tup cs
    · obtain ⟨cs, rfl⟩ := h2
      obtain ⟨arr, e1, e2, e3⟩ := h
      rw [F.tup]
      refine ⟨arr, e1, by simpa using e2, fun j u y hu hy => ?_⟩
      rw [List.getElem?_map] at hy
      cases hc : cs[j]? with
      | none => rw [hc] at hy; simp at hy
      | some y' =>
        rw [hc] at hy
        simp only [Option.map_some, Option.some.injEq] at hy
        subst hy
        refine (e3 j u y' hu hc).forget ?_
        by_cases hst : ∃ cs, y' = .st cs
        · obtain ⟨cs, rfl⟩ := hst; exact .inr (F.t1 cs)
        · rw [F.t2 y' (fun cs e => hst ⟨cs, e⟩)]; exact F.c y'
    · rw [F.el x (fun cs e => h1 ⟨cs, e⟩) (fun cs e => h2 ⟨cs, e⟩)]
      exact h.forget (F.c x)

theorem Forget.keys {f g t : V → V} {p : Nat × Option Nat → Prop} (F : Forget f p g t) {x : V} {q : Nat × Option Nat} (hq : q ∈ keysV (f x)) : ¬ p q := by
  by_cases h1 : ∃ cs, x = .st cs
  · obtain ⟨cs, rfl⟩ := h1
    rw [F.st] at hq
    simp only [keysV, List.mem_filterMap, List.mem_map] at hq
    obtain ⟨y, ⟨y', _, rfl⟩, hk⟩ := hq
    exact F.ck y' q hk
  · by_cases h2 : ∃ cs, x = .tup cs
    · obtain ⟨cs, rfl⟩ := h2
      rw [F.tup] at hq
      simp only [keysV, List.mem_flatMap, List.mem_map] at hq
      obtain ⟨y, ⟨y', _, rfl⟩, hk⟩ := hq
      by_cases hst : ∃ cs, y' = .st cs
      · obtain ⟨cs, rfl⟩ := hst
        rw [F.t1] at hk
        simp [keyC] at hk
      · have e := F.t2 y' (fun cs e => hst ⟨cs, e⟩)
        rw [e] at hk
        have hn : ∀ cs, g y' ≠ .st cs := fun cs e' => by
          rcases F.c y' with h | h
          · rw [h] at e'; exact hst ⟨cs, e'⟩
          · rw [h] at e'; cases e'
        revert hk
        generalize hg : g y' = z at hn
        intro hk
        cases z <;> first
          | (exact absurd rfl (hn _))
          | (simp only [Option.mem_toList] at hk; exact F.ck y' q (by rw [hg]; exact hk))
    · rw [F.el x (fun cs e => h1 ⟨cs, e⟩) (fun cs e => h2 ⟨cs, e⟩)] at hq
      have hn : ∀ cs, g x ≠ .st cs := fun cs e' => by
        rcases F.c x with h | h
        · rw [h] at e'; exact h1 ⟨cs, e'⟩
        · rw [h] at e'; cases e'
      have hn2 : ∀ cs, g x ≠ .tup cs := fun cs e' => by
        rcases F.c x with h | h
        · rw [h] at e'; exact h2 ⟨cs, e'⟩
        · rw [h] at e'; cases e'
      revert hq
      generalize hg : g x = z at hn hn2
      intro hq
      cases z <;> first
        | (exact absurd rfl (hn _))
        | (exact absurd rfl (hn2 _))
        | (simp only [keysV, Option.mem_toList] at hq; exact F.ck x q (by rw [hg]; exact hq))

theorem kill_forget (k : Nat) : Forget (killV k) (fun q => q.1 = k) (killC k) (killT k) where
  dead := rfl
  c := fun x => by
    cases x <;> first | exact .inl rfl | (simp only [killC]; cases Nat.beq _ k <;> simp)
  ck := fun x q h e => by
    have key : ∀ (k' : Nat) (y : V), keyC y = some q → q.1 = k' → keyC (bif Nat.beq k' k then .dead else y) = some q → False := fun k' y hy hq hh => by
      have : Nat.beq k' k = true := by rw [← hq, e]; exact Nat.beq_refl k
      rw [this] at hh
      cases hh
    have hx : keyC x = some q := by
      rcases (show killC k x = x ∨ killC k x = .dead by cases x <;> first | exact .inl rfl | (simp only [killC]; cases Nat.beq _ k <;> simp)) with h' | h'
      · rw [h'] at h; exact h
      · rw [h'] at h; cases h
    cases x <;> first
      | (cases hx; done)
      | (refine key _ _ hx ?_ h; simp only [keyC, Option.some.injEq] at hx; rw [← hx])
  t1 := fun _ => rfl
  t2 := fun x h => by cases x <;> first | rfl | exact absurd rfl (h _)
  st := fun _ => rfl
  tup := fun _ => rfl
  el := fun x h1 h2 => by cases x <;> first | rfl | exact absurd rfl (h1 _) | exact absurd rfl (h2 _)

theorem eqO_iff (a b : Option Nat) : eqO a b = true ↔ a = b := by
  cases a <;> cases b <;> simp [eqO]
theorem kil_forget (k : Nat) (c : Option Nat) : Forget (kilV k c) (fun q => q = (k, c)) (kilC k c) (kilT k c) where
  dead := rfl
  c := fun x => by
    cases x <;> first | exact .inl rfl | (simp only [kilC]; cases (Nat.beq _ k && eqO _ c) <;> simp)
  ck := fun x q h e => by
    have key : ∀ (k' : Nat) (c' : Option Nat) (y : V), q = (k', c') → keyC (bif Nat.beq k' k && eqO c' c then .dead else y) = some q → False := fun k' c' y hq hh => by
      rw [e, Prod.mk.injEq] at hq
      have : (Nat.beq k' k && eqO c' c) = true := by rw [Bool.and_eq_true]; exact ⟨by rw [← hq.1]; exact Nat.beq_refl k, (eqO_iff _ _).2 hq.2.symm⟩
      rw [this] at hh
      cases hh
    have hx : keyC x = some q := by
      rcases (show kilC k c x = x ∨ kilC k c x = .dead by cases x <;> first | exact .inl rfl | (simp only [kilC]; cases (Nat.beq _ k && eqO _ c) <;> simp)) with h' | h'
      · rw [h'] at h; exact h
      · rw [h'] at h; cases h
    cases x <;> first
      | (cases hx; done)
      | (refine key _ _ _ ?_ h; simp only [keyC, Option.some.injEq] at hx; rw [← hx])
  t1 := fun _ => rfl
  t2 := fun x h => by cases x <;> first | rfl | exact absurd rfl (h _)
  st := fun _ => rfl
  tup := fun _ => rfl
  el := fun x h1 h2 => by cases x <;> first | rfl | exact absurd rfl (h1 _) | exact absurd rfl (h2 _)

theorem none_sub (w : World) (ow : Own) (k : Nat) (o : Ob) : Sub w ow k o .none :=
  ⟨fun _ _ => trivial, fun c h => by cases c <;> exact h.elim, fun c h => by cases c <;> exact h.elim⟩

theorem Sim.kill (h : Sim GL U w0 F0 σ a w ow) (k : Nat) : Sim GL U w0 F0 (VM.kill σ k) a w ow :=
  h.obSet (σ.sl.map (killV k)) k .none (by simp) (none_sub _ _ _ _) (fun i A v hv => by rw [getD_map _ _ (kill_forget k).dead]; exact (kill_forget k).sr hv)
    (fun i c hc => by rw [getD_map _ _ (kill_forget k).dead] at hc; exact absurd rfl ((kill_forget k).keys hc))

theorem kilB_sub (w : World) (ow : Own) (k : Nat) (c : Option Nat) (o : Ob) : Sub w ow k o (kilB c o) := by
  cases c with
  | none => cases o <;> first | exact none_sub _ _ _ _ | exact ⟨fun _ h => h, fun _ h => h, fun _ h => h⟩
  | some c =>
    cases o with
    | none => exact ⟨fun _ h => h, fun _ h => h, fun _ h => h⟩
    | row b z xs => exact ⟨fun _ h => h, fun _ h => h, fun _ h => h⟩
    | box b cs =>
      have hset : ∀ (j : Nat) x, (cs.set c .dead)[j]? = some x → x ≠ .dead → cs[j]? = some x := fun j x hx hn => by
        rw [getElem?_set_V] at hx
        split at hx
        · simp at hx; exact absurd hx.symm hn
        · exact hx
      refine ⟨fun A h => ?_, fun q h => ?_, fun q h => ?_⟩
      · obtain ⟨h1, h2⟩ := h
        refine ⟨by simpa using h1, fun j v x hv hx => ?_⟩
        by_cases hd : x = .dead
        · subst hd; trivial
        · exact h2 j v x hv (hset j x hx hd)
      · cases q with
        | none => exact h
        | some j => obtain ⟨o, z, xs, h⟩ := h; exact ⟨o, z, xs, hset j _ h (by simp)⟩
      · cases q with
        | none => exact h
        | some j => obtain ⟨z, xs, h⟩ := h; exact ⟨z, xs, hset j _ h (by simp)⟩

theorem Sim.kil (h : Sim GL U w0 F0 σ a w ow) (k : Nat) (c : Option Nat) : Sim GL U w0 F0 (VM.kil σ k c) a w ow := by
  refine h.obSet (σ.sl.map (kilV k c)) k _ (by simp) (kilB_sub _ _ _ c _) (fun i A v hv => by rw [getD_map _ _ (kil_forget k c).dead]; exact (kil_forget k c).sr hv) (fun i q hq => ?_)
  rw [getD_map _ _ (kil_forget k c).dead] at hq
  have hne : q ≠ c := fun e => (kil_forget k c).keys hq (by rw [e])
  by_cases hl : k < σ.ob.length
  case neg => rw [List.set_eq_of_length_le (by omega)]; exact sameK_refl _ _ _ _
  have hset := getD_set_ob_same σ.ob (kilB c (σ.ob.getD k .none)) hl
  cases q with
  | none =>
    show same1 _ _ _ _ _
    unfold same1
    rw [hset]
    cases ho : σ.ob.getD k .none with
    | none => trivial
    | box b cs =>
      cases c with
      | none => exact absurd rfl hne
      | some c => exact ⟨b, cs.set c .dead, rfl, by simp, rfl⟩
    | row b z xs =>
      cases c with
      | none => exact absurd rfl hne
      | some c => exact ⟨b, xs, rfl, rfl, rfl⟩
  | some j =>
    intro o z xs h1
    refine ⟨o, xs, ?_, rfl, rfl⟩
    rw [obRow_some] at h1 ⊢
    obtain ⟨b, cs, h1, h2⟩ := h1
    rw [hset, h1]
    cases c with
    | none => exact ⟨b, cs, rfl, h2⟩
    | some c =>
      refine ⟨b, cs.set c .dead, rfl, ?_⟩
      rw [getElem?_set_V, if_neg (fun hh => hne (by rw [hh.1]))]
      exact h2

theorem hasC_keys {k : Nat} {x : V} {c : Option Nat} (h : keyC x = some (k, c)) : hasC k x = true := by
  cases x <;> simp only [keyC, Option.some.injEq, Prod.mk.injEq, reduceCtorEq] at h
  all_goals (obtain ⟨rfl, _⟩ := h; exact Nat.beq_refl _)
theorem hasV_keys {k : Nat} {x : V} {c : Option Nat} (h : (k, c) ∈ keysV x) : hasV k x = true := by
  cases x with
  | st cs =>
    simp only [keysV, List.mem_filterMap] at h
    obtain ⟨y, hy, hk⟩ := h
    exact List.any_eq_true.2 ⟨y, hy, hasC_keys hk⟩
  | tup cs =>
    simp only [keysV, List.mem_flatMap] at h
    obtain ⟨y, hy, hk⟩ := h
    refine List.any_eq_true.2 ⟨y, hy, ?_⟩
    cases y <;> first
      | rfl
      | (simp only [Option.mem_toList] at hk; exact hasC_keys hk)
  | _ =>
    simp only [keysV, Option.mem_toList] at h
    exact hasC_keys h

theorem Sim.gc (h : Sim GL U w0 F0 σ a w ow) (k : Nat) : Sim GL U w0 F0 (VM.gc σ k) a w ow := by
  unfold VM.gc
  cases VM.isNone (σ.ob.getD k .none) with
  | true => exact h
  | false =>
    cases hh : σ.sl.any (hasV k) with
    | true => exact h
    | false =>
      refine h.obSet σ.sl k .none rfl (none_sub _ _ _ _) (fun _ _ _ h => h) (fun i c hc => ?_)
      exfalso
      have hkey := hasV_keys hc
      have hall := (List.any_eq_false.1 hh)
      rw [List.getD_eq_getElem?_getD] at hkey
      cases hi : σ.sl[i]? with
      | none => rw [hi] at hkey; simp [hasV, hasC] at hkey
      | some x => rw [hi] at hkey; exact hall x (List.mem_of_getElem? hi) hkey

theorem Sim.prep (T : TT) (ops : List Oper) : ∀ {σ : St}, Sim GL U w0 F0 σ a w ow → Sim GL U w0 F0 (VM.prep T ops σ) a w ow := by
  induction ops with
  | nil => exact fun h => h
  | cons o ops ih =>
    intro σ h
    unfold VM.prep
    cases isQuiet T o with
    | false => exact ih h
    | true =>
      cases VM.isNone (σ.ob.getD (dstOf o) .none) with
      | true => exact ih h
      | false => exact ih (h.kill _)

theorem Sim.clean (kp : Nat → Bool) (ops : List Oper) : ∀ {σ : St}, Sim GL U w0 F0 σ a w ow → Sim GL U w0 F0 (VM.clean kp ops σ) a w ow := by
  induction ops with
  | nil => exact fun h => h
  | cons o ops ih =>
    intro σ h
    unfold VM.clean
    cases o.dst with
    | none => exact ih h
    | some d =>
      show Sim GL U w0 F0 (bif kp d then VM.clean kp ops σ else VM.clean kp ops (VM.drop σ d)) a w ow
      cases kp d with
      | true => exact ih h
      | false => exact ih (h.drop d)

theorem Sim.gcs (ops : List Oper) : ∀ {σ : St}, Sim GL U w0 F0 σ a w ow → Sim GL U w0 F0 (VM.gcs ops σ) a w ow := by
  induction ops with
  | nil => exact fun h => h
  | cons o ops ih =>
    intro σ h
    unfold VM.gcs
    cases o.dst with
    | none => exact ih h
    | some d => exact ih (h.gc d)

theorem Sim.lpDrop (ops : List Oper) : ∀ {σ : St}, Sim GL U w0 F0 σ a w ow → Sim GL U w0 F0 (VM.lpDrop ops σ) a w ow := by
  induction ops with
  | nil => exact fun h => h
  | cons o ops ih =>
    intro σ h
    unfold VM.lpDrop
    cases o.dst with
    | none => exact ih h
    | some d =>
      show Sim GL U w0 F0 (bif isVar o then VM.lpDrop ops σ else VM.lpDrop ops (VM.drop σ d)) a w ow
      cases isVar o with
      | true => exact ih h
      | false => exact ih (h.drop d)

theorem Sim.lpDead (kp : Nat → Bool) (key : Nat) : ∀ (n : Nat) {σ : St}, Sim GL U w0 F0 σ a w ow → Sim GL U w0 F0 (VM.lpDead kp key n σ) a w ow := by
  intro n
  induction n with
  | zero => exact fun h => h
  | succ n ih =>
    intro σ h
    unfold VM.lpDead
    refine ih ?_
    cases kp (key + n) with
    | true => exact h
    | false => exact h.drop n
theorem Sim.lpGc (kp : Nat → Bool) (key : Nat) : ∀ (n : Nat) {σ : St}, Sim GL U w0 F0 σ a w ow → Sim GL U w0 F0 (VM.lpGc kp key n σ) a w ow := by
  intro n
  induction n with
  | zero => exact fun h => h
  | succ n ih =>
    intro σ h
    unfold VM.lpGc
    refine ih ?_
    cases kp (key + n) with
    | true => exact h
    | false => exact h.gc n
theorem Sim.lpClean (kp : Nat → Bool) (b : Code) (h : Sim GL U w0 F0 σ a w ow) : Sim GL U w0 F0 (VM.lpClean kp b σ) a w ow := by
  have h1 := (h.lpDrop (opsOf b)).gcs (opsOf b)
  unfold VM.lpClean VM.lpMore
  cases kp (loopKey b + 4095) with
  | true => exact (h1.lpDead kp _ _).lpGc kp _ _
  | false => exact h1
end

end Go.Proofs.YtmddfhjgdhjmkaaDoor.VM
