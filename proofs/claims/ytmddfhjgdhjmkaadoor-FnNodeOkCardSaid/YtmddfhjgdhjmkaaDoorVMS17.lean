/- The abstract machine and the memory: stores. -/
import Derived.Test.YtmddfhjgdhjmkaaDoorVMS16
import Derived.Deep.Upon
set_option linter.unusedVariables false
set_option linter.unusedSimpArgs false
namespace Go.Proofs.YtmddfhjgdhjmkaaDoor.VM

section
variable {P : Program} {T : TT} {U : Nat → Prop} {w0 w w' : World} {F0 : Fr} {σ : St} {a : Act} {ow ow' : Own}

/-- own memory turns -/
theorem Sim.turn {GL : List (Nat × V)} (h : Sim GL U w0 F0 σ a w ow) (hx : Ext w w' (ownB σ.ob ow)) (hT : ∀ b n, Th w b n → Th w' b n) (sl' : List V) (ob' : List Ob)
    (hl : sl'.length = σ.sl.length) (hol : ob'.length = σ.ob.length)
    (hsl : ∀ i A v, SR w A ow σ.ob v (σ.sl.getD i .dead) → SR w A ow σ.ob v (sl'.getD i .dead))
    (hk : ∀ i k c, (k, c) ∈ keysV (sl'.getD i .dead) → sameK σ.ob ow ob' ow' k c)
    (hown : ∀ k c, owned ob' k c → ownB σ.ob ow (ow' k c) ∨ w.heap.size ≤ ow' k c)
    (hinj : ∀ k c k' c', alive ob' k c → alive ob' k' c' → ow' k c = ow' k' c' → k = k' ∧ c = c')
    (hlt : ∀ k c, alive ob' k c → ow' k c < w'.heap.size ∧ U (ow' k c))
    (hOR : (∀ b, Fz U w ow σ.ob b → Fz U w' ow' ob' b ∧ w'.heap[b]? = w.heap[b]?) → ∀ k, OR w' (Fz U w' ow' ob') ow' k (ob'.getD k .none))
    (hpin : ∀ k b, F0.pn k = some b → ob'.getD k .none = .none ∨ ow' k none = b) : Sim GL U w0 F0 ⟨sl', ob'⟩ a w' ow' := by
  have hA : ∀ b, Fz U w ow σ.ob b → Fz U w' ow' ob' b ∧ w'.heap[b]? = w.heap[b]? := fun b hb => by
    refine ⟨⟨hb.1, Nat.lt_of_lt_of_le hb.2.1 hx.size, fun k c hkc e => ?_⟩, hx.block b hb.2.1 fun ⟨k, c, hkc, e⟩ => hb.2.2 k c hkc e⟩
    rcases hown k c hkc with ⟨k', c', h1, h2⟩ | h1
    · exact hb.2.2 k' c' h1 (h2.trans e)
    · have := hb.2.1; omega
  refine ⟨h.len.trans hl.symm, by show ob'.length = sl'.length; rw [hol, hl]; exact h.olen, fun i => (hsl i _ _ (h.slots i)).keep hA hT (hk i), ⟨hOR hA, hinj, hlt⟩,
    h.ext.trans hx (fun b ⟨k, c, hkc, e⟩ => by rw [← e]; exact h.own0 k c hkc), fun k c hkc => ?_, h.un, h.uF, h.defers, h.gl.mono hA, hpin, fun b n ht => hT b n (h.thk b n ht)⟩
  rcases hown k c hkc with ⟨k', c', h1, h2⟩ | h1
  · rw [← h2]; exact h.own0 k' c' h1
  · exact .inr (Nat.le_trans h.ext.size h1)

/-- cells of one own block turn -/
theorem ext_setCells {g o : Nat} {vs : List Value} {F : Nat → Prop} (hF : F g) (hth : ∀ j, j < vs.length → (w.cell? ⟨g, o + j, none⟩).isSome = true) : Ext w (w.setCells g o vs) F ∧ ∀ b n, Th w b n → Th (w.setCells g o vs) b n := by
  have hk := World.keptBut_setCells g (may := fun _ => True) vs o w (fun _ _ => trivial)
  have hsz : (w.setCells g o vs).heap.size = w.heap.size := by
    clear hth hk
    induction vs generalizing o w with
    | nil => rfl
    | cons v r ih => rw [World.setCells, ih]; simp
  refine ⟨⟨World.os_setCells _ _ _ _, ?_, World.output_setCells _ _ _ _, by rw [hsz]; exact Nat.le_refl _, fun b hb hn => World.heap_setCells_other w g o vs hb (fun e => hn (e ▸ hF))⟩, fun b n ht j hj => ?_⟩
  · clear hth hk hsz
    induction vs generalizing o w with
    | nil => rfl
    | cons v r ih => rw [World.setCells, ih]; rfl
  · rw [World.frozen?_setCells]
    refine ⟨?_, (ht j hj).2⟩
    by_cases hin : b = g ∧ o ≤ 0 + j ∧ 0 + j < o + vs.length
    · obtain ⟨rfl, h1, h2⟩ := hin
      obtain ⟨q, hq⟩ : ∃ q, 0 + j = o + q := ⟨0 + j - o, by omega⟩
      rw [hq, World.cell?_setCells_in b vs o w hth q (by omega)]
      rfl
    · rw [World.cell?_setCells_out g vs o w _ (fun e _ => by
        have e : b = g := e
        show 0 + j < o ∨ o + vs.length ≤ 0 + j
        by_cases h1 : o ≤ 0 + j
        · right
          exact Nat.not_lt.1 fun h2 => hin ⟨e, h1, h2⟩
        · left; omega)]
      exact (ht j hj).1
theorem cell_in {g o : Nat} {vs : List Value} (hth : ∀ j, j < vs.length → (w.cell? ⟨g, o + j, none⟩).isSome = true) {j : Nat} {v : Value} (hj : vs[j]? = some v) : (w.setCells g o vs).cell? ⟨g, o + j, none⟩ = some v := by
  have hl := (List.getElem?_eq_some_iff.1 hj)
  obtain ⟨hl, e⟩ := hl
  rw [World.cell?_setCells_in g vs o w hth j hl, e]
theorem cell_out {g o : Nat} {vs : List Value} {q : Nat} (hq : q < o ∨ o + vs.length ≤ q) : (w.setCells g o vs).cell? ⟨g, q, none⟩ = w.cell? ⟨g, q, none⟩ :=
  World.cell?_setCells_out g vs o w _ fun _ _ => hq

theorem run_store_gen {ty : TypeId} {g o : Nat} {v : Value} {i : TypeInfo} (hi : P.info? ty = some i) (hs : v.cells.size = i.size) (h1 : ∀ u ∈ v.cells.toList, u.oneCell' = true)
    (ht : ∀ j, j < v.cells.size → (w.cell? ⟨g, o + j, none⟩).isSome = true ∧ w.frozen? ⟨g, o + j, none⟩ = false) :
    (Instr.storeAt ty (.pointer (some ⟨g, o, none⟩)) v).run P w = .ok () (w.setCells g o v.cells.toList) := by
  have := run_storeCells_cells (P := P) g o v.cells.toList 0 w (fun j hj => by simpa using (ht j (by simpa using hj)).1) (fun j hj => by simpa using (ht j (by simpa using hj)).2) h1
  simp only [Nat.add_zero] at this
  simp [Instr.storeAt, Instr.sureAddr, storeVar, sizeOf, typeInfo, hi, hs, this]

/-! ### into a row -/
theorem mul_add_lt {i n z q : Nat} (h : i < n) (hq : q < z) : i * z + q < n * z := by
  have : i * z + z ≤ n * z := by rw [← Nat.succ_mul]; exact Nat.mul_le_mul_right _ h
  omega
theorem RowOk.upd {A A' : Nat → Prop} {g z cap i j : Nat} {xs : List V} {y y' : V} {vs : List Value} (h : RowOk w A g z xs cap) (hi : xs[i]? = some y) (hj : j + vs.length ≤ z)
    (hnew : ∀ ecs : List Value, ecs.length = z → FR w A ecs y → ∃ ecs' : List Value, ecs'.length = z ∧ FR w A ecs' y' ∧ ∀ (q : Nat) v, ecs'[q]? = some v → (if j ≤ q ∧ q < j + vs.length then vs[q - j]? else ecs[q]?) = some v)
    (hA : ∀ b, A b → A' b ∧ (w.setCells g (i * z + j) vs).heap[b]? = w.heap[b]?) (hT : ∀ b n, Th w b n → Th (w.setCells g (i * z + j) vs) b n) (hth : ∀ q, q < vs.length → (w.cell? ⟨g, i * z + j + q, none⟩).isSome = true) :
    RowOk (w.setCells g (i * z + j) vs) A' g z (xs.set i y') cap := by
  refine ⟨by simpa using h.le, hT _ _ h.th, fun i' x hx => ?_⟩
  have hil : i < xs.length := (List.getElem?_eq_some_iff.1 hi).1
  rw [getElem?_set_V] at hx
  by_cases hii : i' = i
  · subst hii
    rw [if_pos ⟨rfl, hil⟩] at hx
    cases hx
    obtain ⟨ecs, e1, e2, e3⟩ := h.at_ i' y hi
    obtain ⟨ecs', f1, f2, f3⟩ := hnew ecs e1 e3
    refine ⟨ecs', f1, fun q v hv => ?_, f2.mono (fun b hb => (hA b hb).2) (fun b hb => (hA b hb).1)⟩
    have := f3 q v hv
    by_cases hin : j ≤ q ∧ q < j + vs.length
    · rw [if_pos hin] at this
      have hc := cell_in (w := w) (g := g) (o := i' * z + j) hth this
      rw [show i' * z + j + (q - j) = i' * z + q by omega] at hc
      exact hc
    · rw [if_neg hin] at this
      show (w.setCells g (i' * z + j) vs).cell? ⟨g, i' * z + q, none⟩ = some v
      rw [cell_out (by omega)]
      exact e2 q v this
  · rw [if_neg (fun hh => hii hh.1)] at hx
    obtain ⟨ecs, e1, e2, e3⟩ := h.at_ i' x hx
    refine ⟨ecs, e1, fun q v hv => ?_, e3.mono (fun b hb => (hA b hb).2) (fun b hb => (hA b hb).1)⟩
    have hq : q < z := by have := (List.getElem?_eq_some_iff.1 hv).1; omega
    show (w.setCells g (i * z + j) vs).cell? ⟨g, i' * z + q, none⟩ = some v
    rw [cell_out ?_]
    · exact e2 q v hv
    · rcases Nat.lt_or_gt_of_ne hii with hlt | hgt
      · left
        have := mul_add_lt (z := z) hlt hq
        omega
      · right
        have h1 : i * z + z ≤ i' * z := by rw [← Nat.succ_mul]; exact Nat.mul_le_mul_right _ hgt
        omega

theorem owned_row {k : Nat} {c : Option Nat} {z : Nat} {xs : List V} (hr : obRow (lk σ) k c = some (true, z, xs)) : owned σ.ob k c := by
  cases c with
  | none =>
    have := obRow_none.1 hr
    unfold owned
    have e : σ.ob.getD k .none = .row true z xs := this
    rw [e]
  | some q =>
    obtain ⟨b, cs, h1, h2⟩ := obRow_some.1 hr
    unfold owned
    have e : σ.ob.getD k .none = .box b cs := h1
    rw [e]
    exact ⟨z, xs, h2⟩
theorem lt_of_ob {k : Nat} (h : σ.ob.getD k .none ≠ .none) : k < σ.ob.length := by
  rcases Nat.lt_or_ge k σ.ob.length with hh | hh
  · exact hh
  · exact absurd (by simp [List.getD_eq_getElem?_getD, List.getElem?_eq_none hh]) h
theorem setRow_spec {k : Nat} {c : Option Nat} {z : Nat} {xs xs' : List V} (hr : obRow (lk σ) k c = some (true, z, xs)) (hl : xs'.length = xs.length) :
    (∀ kk, kk ≠ k → (setRow σ k c true z xs').getD kk .none = σ.ob.getD kk .none) ∧ (∀ q, sameK σ.ob ow (setRow σ k c true z xs') ow k q) ∧
    (∀ kk q, owned (setRow σ k c true z xs') kk q → owned σ.ob kk q) ∧ (∀ kk q, alive (setRow σ k c true z xs') kk q → alive σ.ob kk q) ∧
    ((c = none ∧ σ.ob.getD k .none = .row true z xs ∧ (setRow σ k c true z xs').getD k .none = .row true z xs') ∨
      ∃ q b cs, c = some q ∧ σ.ob.getD k .none = .box b cs ∧ cs[q]? = some (.own true z xs) ∧ (setRow σ k c true z xs').getD k .none = .box b (cs.set q (.own true z xs'))) := by
  have hother : ∀ kk, kk ≠ k → (setRow σ k c true z xs').getD kk .none = σ.ob.getD kk .none := fun kk h => getD_set_ob_other _ _ h
  cases c with
  | none =>
    have e : σ.ob.getD k .none = .row true z xs := obRow_none.1 hr
    have hkl := lt_of_ob (σ := σ) (k := k) (by rw [e]; simp)
    have hk : (setRow σ k none true z xs').getD k .none = .row true z xs' := getD_set_ob_same _ _ hkl
    refine ⟨hother, fun q => ?_, fun kk q ho => ?_, fun kk q ho => ?_, .inl ⟨rfl, e, hk⟩⟩
    · cases q with
      | none => unfold sameK same1; rw [e]; exact ⟨true, xs', hk, hl, rfl⟩
      | some q => intro o z0 x0 h0; obtain ⟨b, cs, h1, _⟩ := obRow_some.1 h0; rw [show σ.ob.getD k .none = .box b cs from h1] at e; cases e
    · by_cases hkk : kk = k
      · subst hkk
        unfold owned at ho ⊢
        rw [hk] at ho; rw [e]
        cases q <;> exact ho
      · rw [← owned_congr (hother kk hkk) q]; exact ho
    · by_cases hkk : kk = k
      · subst hkk
        unfold alive at ho ⊢
        rw [hk] at ho; rw [e]
        cases q <;> exact ho
      · rw [← alive_congr (hother kk hkk) q]; exact ho
  | some p =>
    obtain ⟨b, cs, e, hp⟩ := obRow_some.1 hr
    have e : σ.ob.getD k .none = .box b cs := e
    have hkl := lt_of_ob (σ := σ) (k := k) (by rw [e]; simp)
    have hpl : p < cs.length := (List.getElem?_eq_some_iff.1 hp).1
    have hk : (setRow σ k (some p) true z xs').getD k .none = .box b (cs.set p (.own true z xs')) := by
      unfold setRow
      rw [getD_set_ob_same _ _ hkl, e]
      rfl
    refine ⟨hother, fun q => ?_, fun kk q ho => ?_, fun kk q ho => ?_, .inr ⟨p, b, cs, rfl, e, hp, hk⟩⟩
    · cases q with
      | none => unfold sameK same1; rw [e]; exact ⟨b, _, hk, by simp, rfl⟩
      | some q =>
        intro o z0 x0 h0
        obtain ⟨b', cs', h1, h2⟩ := obRow_some.1 h0
        rw [show σ.ob.getD k .none = .box b' cs' from h1] at e
        cases e
        by_cases hqp : q = p
        · subst hqp
          rw [hp] at h2
          cases h2
          exact ⟨true, xs', obRow_some.2 ⟨b, _, hk, by simp [hpl]⟩, hl, rfl⟩
        · exact ⟨o, x0, obRow_some.2 ⟨b, _, hk, by rw [List.getElem?_set_ne (Ne.symm hqp)]; exact h2⟩, rfl, rfl⟩
    · by_cases hkk : kk = k
      · subst hkk
        unfold owned at ho ⊢
        rw [hk] at ho; rw [e]
        cases q with
        | none => exact ho
        | some q =>
          obtain ⟨z0, x0, h0⟩ := ho
          by_cases hqp : q = p
          · subst hqp; exact ⟨z, xs, hp⟩
          · rw [List.getElem?_set_ne (Ne.symm hqp)] at h0; exact ⟨z0, x0, h0⟩
      · rw [← owned_congr (hother kk hkk) q]; exact ho
    · by_cases hkk : kk = k
      · subst hkk
        unfold alive at ho ⊢
        rw [hk] at ho; rw [e]
        cases q with
        | none => trivial
        | some q =>
          obtain ⟨o0, z0, x0, h0⟩ := ho
          by_cases hqp : q = p
          · subst hqp; exact ⟨true, z, xs, hp⟩
          · rw [List.getElem?_set_ne (Ne.symm hqp)] at h0; exact ⟨o0, z0, x0, h0⟩
      · rw [← alive_congr (hother kk hkk) q]; exact ho

theorem row_write {GL : List (Nat × V)} (h : Sim GL U w0 F0 σ a w ow) {k : Nat} {c : Option Nat} {z i j : Nat} {xs : List V} {y y' : V} {vs : List Value} (hr : obRow (lk σ) k c = some (true, z, xs)) (hi : xs[i]? = some y) (hj : j + vs.length ≤ z)
    (hnew : ∀ ecs : List Value, ecs.length = z → FR w (Fz U w ow σ.ob) ecs y → ∃ ecs' : List Value, ecs'.length = z ∧ FR w (Fz U w ow σ.ob) ecs' y' ∧ ∀ (q : Nat) v, ecs'[q]? = some v → (if j ≤ q ∧ q < j + vs.length then vs[q - j]? else ecs[q]?) = some v) :
    (∀ q, q < vs.length → (w.cell? ⟨ow k c, i * z + j + q, none⟩).isSome = true ∧ w.frozen? ⟨ow k c, i * z + j + q, none⟩ = false) ∧
    Sim GL U w0 F0 ⟨σ.sl, setRow σ k c true z (xs.set i y')⟩ a (w.setCells (ow k c) (i * z + j) vs) ow := by
  have hil : i < xs.length := (List.getElem?_eq_some_iff.1 hi).1
  obtain ⟨cap, hrow⟩ := h.ho.row hr
  have hth : ∀ q, q < vs.length → (w.cell? ⟨ow k c, i * z + j + q, none⟩).isSome = true ∧ w.frozen? ⟨ow k c, i * z + j + q, none⟩ = false := fun q hq => by
    have h1 := mul_add_lt (z := z) (q := j + q) (Nat.lt_of_lt_of_le hil hrow.le) (by omega)
    have := hrow.th (i * z + j + q) (by omega)
    rwa [Nat.zero_add] at this
  refine ⟨hth, ?_⟩
  have howd := owned_row hr
  have hal := alive_of_owned howd
  obtain ⟨hx, hT⟩ := ext_setCells (w := w) (g := ow k c) (o := i * z + j) (vs := vs) (F := ownB σ.ob ow) ⟨k, c, howd, rfl⟩ (fun q hq => (hth q hq).1)
  obtain ⟨s1, s2, s3, s4, s5⟩ := setRow_spec (ow := ow) hr (xs' := xs.set i y') (by simp)
  have hblk : ∀ kk cc, alive σ.ob kk cc → (kk, cc) ≠ (k, c) → (w.setCells (ow k c) (i * z + j) vs).heap[ow kk cc]? = w.heap[ow kk cc]? := fun kk cc ha hne =>
    World.heap_setCells_other w _ _ _ (h.ho.lt kk cc ha).1 fun e => hne (by
      obtain ⟨e1, e2⟩ := h.ho.inj kk cc k c ha hal e
      rw [e1, e2])
  refine h.turn hx hT σ.sl _ rfl (by simp [setRow]) (fun _ _ _ hh => hh) (fun i' kk cc hkk => ?_) (fun kk cc ho => .inl ⟨kk, cc, s3 kk cc ho, rfl⟩) (fun kk cc kk' cc' h1 h2 e => h.ho.inj _ _ _ _ (s4 _ _ h1) (s4 _ _ h2) e)
    (fun kk cc h1 => ⟨Nat.lt_of_lt_of_le (h.ho.lt _ _ (s4 _ _ h1)).1 hx.size, (h.ho.lt _ _ (s4 _ _ h1)).2⟩) (fun hA kk => ?_) (fun kk b hp => ?_)
  · by_cases he : kk = k
    · subst he; exact s2 cc
    · exact sameK_congr (s1 kk he) (fun _ => rfl) cc
  · by_cases he : kk = k
    · subst he
      rcases s5 with ⟨rfl, e1, e2⟩ | ⟨p, b, cs, rfl, e1, hp, e2⟩
      · rw [e2]
        exact ⟨cap, hrow.upd hi hj hnew hA hT (fun q hq => (hth q hq).1)⟩
      · rw [e2]
        have hor := h.ho.obs kk
        rw [e1] at hor
        obtain ⟨g1, g2⟩ := hor
        have hbx : alive σ.ob kk none := aliveOb (by rw [e1]; simp)
        have hb := hblk kk none hbx (by simp)
        refine ⟨by rw [List.length_set]; exact hT _ _ g1, fun q v x hv hx' => ?_⟩
        rw [World.cell?_of_block (w := w) (a := ⟨ow kk none, q, none⟩) hb] at hv
        rw [getElem?_set_V] at hx'
        by_cases hqp : q = p
        · subst hqp
          rw [if_pos ⟨rfl, (List.getElem?_eq_some_iff.1 hp).1⟩] at hx'
          cases hx'
          obtain ⟨cp, hv1, hv2⟩ := g2 q v _ hv hp
          refine ⟨cp, by rw [hv1]; simp, ?_⟩
          exact hv2.upd hi hj hnew hA hT (fun q hq => (hth q hq).1)
        · rw [if_neg (fun hh => hqp hh.1)] at hx'
          refine (g2 q v x hv hx').keep hA ?_
          intro o z0 x0 hxe
          exact ⟨rfl, hblk kk (some q) (aliveBox e1 (hxe ▸ hx')) (by simpa using hqp)⟩
    · rw [s1 kk he]
      exact (h.ho.obs kk).keep hA (fun hn => ⟨rfl, hblk kk none (aliveOb hn) (fun e => he (by cases e; rfl))⟩) (fun b cs q o z0 x0 hb hc => ⟨rfl, hblk kk (some q) (aliveBox hb hc) (fun e => he (by cases e; rfl))⟩)
  · by_cases he : kk = k
    · subst he
      rcases h.pin kk b hp with hn | hn
      · exfalso
        rcases s5 with ⟨_, e1, _⟩ | ⟨p, b', cs, _, e1, _⟩ <;> rw [hn] at e1 <;> cases e1
      · exact .inr hn
    · show (setRow σ k c true z (xs.set i y')).getD kk .none = .none ∨ _
      rw [s1 kk he]; exact h.pin kk b hp
end
end Go.Proofs.YtmddfhjgdhjmkaaDoor.VM
