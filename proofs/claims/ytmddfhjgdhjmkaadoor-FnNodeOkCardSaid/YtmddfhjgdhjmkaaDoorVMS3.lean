/- The abstract machine and the memory: what the helpers say; the types' table. -/
import Derived.Test.YtmddfhjgdhjmkaaDoorVMS2
set_option linter.unusedVariables false
set_option linter.unusedSimpArgs false
namespace Go.Proofs.YtmddfhjgdhjmkaaDoor.VM

section
variable {R : Type} {r : R}

theorem unI_some {k : IntKind} {v : V} {K : Int → Option R} (h : unI k v K = some r) : ∃ m, v = .sc (.int k m) ∧ K m = some r := by
  unfold unI at h
  split at h
  · rename_i k' m
    by_cases hk : k' = k
    · subst hk; simp at h; exact ⟨m, rfl, h⟩
    · simp [hk] at h
  · cases h
theorem unB_some {v : V} {K : Bool → Option R} (h : unB v K = some r) : ∃ b, v = .sc (.bool b) ∧ K b = some r := by
  unfold unB at h
  split at h
  · exact ⟨_, rfl, h⟩
  · cases h
theorem unS_some {v : V} {K : ByteArray → Option R} (h : unS v K = some r) : ∃ s, v = .sc (.string s) ∧ K s = some r := by
  unfold unS at h
  split at h
  · exact ⟨_, rfl, h⟩
  · cases h
theorem beq_nat {a b : Nat} : Nat.beq a b = true ↔ a = b := ⟨Nat.eq_of_beq_eq_true, fun h => by subst h; exact Nat.beq_refl a⟩
theorem unL_some {z : Nat} {v : V} {K : List V → Option R} (h : unL z v K = some r) : ∃ xs, (v = .sl z xs ∨ (v = .nil ∧ xs = [])) ∧ K xs = some r := by
  unfold unL at h
  split at h
  · rename_i z' xs
    cases hb : Nat.beq z' z with
    | true => rw [hb] at h; exact ⟨xs, .inl (by rw [beq_nat.1 hb]), h⟩
    | false => rw [hb] at h; cases h
  · exact ⟨[], .inr ⟨rfl, rfl⟩, h⟩
  · cases h
theorem unIo_some {v : V} {K : List V → Option R} (h : unIo v K = some r) : ∃ cs, v = .io cs ∧ K cs = some r := by
  unfold unIo at h
  split at h
  · exact ⟨_, rfl, h⟩
  · cases h
theorem unTup_some {n : Nat} {v : V} {K : List V → Option R} (h : unTup n v K = some r) : ∃ vs, v = .tup vs ∧ vs.length = n ∧ K vs = some r := by
  unfold unTup at h
  split at h
  · rename_i vs
    cases hb : Nat.beq vs.length n with
    | true => rw [hb] at h; exact ⟨vs, rfl, beq_nat.1 hb, h⟩
    | false => rw [hb] at h; cases h
  · cases h
theorem unSt_some {n : Nat} {x : V} {K : Option R} (h : unSt n x K = some r) : ∃ cs, x = .st cs ∧ cs.length = n ∧ K = some r := by
  unfold unSt at h
  split at h
  · rename_i cs
    cases hb : Nat.beq cs.length n with
    | true => rw [hb] at h; exact ⟨cs, rfl, beq_nat.1 hb, h⟩
    | false => rw [hb] at h; cases h
  · cases h
/-- of so many cells -/
def width (x : V) : Nat := match x with | .st cs => cs.length | _ => 1
theorem wd_some {n : Nat} {x : V} {K : Option R} (h : wd n x K = some r) : width x = n ∧ K = some r := by
  unfold wd at h
  split at h
  · rename_i cs
    cases hb : Nat.beq cs.length n with
    | true => rw [hb] at h; exact ⟨beq_nat.1 hb, h⟩
    | false => rw [hb] at h; cases h
  · rename_i hx
    cases hb : Nat.beq n 1 with
    | true => rw [hb] at h; refine ⟨?_, h⟩; rw [beq_nat.1 hb]; unfold width; split <;> first | rfl | exact absurd rfl (hx _)
    | false => rw [hb] at h; cases h
theorem wds_some {n : Nat} : ∀ {xs : List V} {K : Option R}, wds n xs K = some r → (∀ x ∈ xs, width x = n) ∧ K = some r
  | [], K, h => ⟨by simp, h⟩
  | x :: xs, K, h => by
    unfold wds at h
    obtain ⟨h1, h2⟩ := wd_some h
    obtain ⟨h3, h4⟩ := wds_some h2
    exact ⟨fun y hy => by rcases List.mem_cons.1 hy with rfl | hy; exact h1; exact h3 y hy, h4⟩
theorem FR.width {w : World} {A : Nat → Prop} {cs : List Value} {x : V} (h : FR w A cs x) : cs.length = VM.width x := by
  cases h <;> first | rfl | assumption

/-- data of one cell -/
def isC (c : V) : Prop := match c with | .sc _ | .sl .. | .nil | .clo .. | .rp .. => True | _ => False

theorem isC.sc {w : World} {A : Nat → Prop} {ow : Own} {ob : List Ob} {u : Value} {c : V} (hc : isC c) : SC w A ow ob u c = FR w A [u] c := by
  cases c <;> first | rfl | exact hc.elim
theorem isC.sv {w : World} {A : Nat → Prop} {ow : Own} {ob : List Ob} {u : Value} {c : V} (hc : isC c) : SV w A ow ob u c = FR w A [u] c := by
  cases c <;> first | rfl | exact hc.elim
theorem isC.sr {w : World} {A : Nat → Prop} {ow : Own} {ob : List Ob} {u : Value} {c : V} (hc : isC c) : SR w A ow ob u c = FR w A [u] c := by
  cases c <;> first | rfl | exact hc.elim
theorem isC.vr {w : World} {A : Nat → Prop} {u : Value} {c : V} (hc : isC c) : VR w A u c = FR w A [u] c := by
  cases c <;> first | rfl | exact hc.elim
theorem isC.bc {w : World} {A : Nat → Prop} {ow : Own} {k j : Nat} {u : Value} {c : V} (hc : isC c) : BC w A ow k j u c = FR w A [u] c := by
  cases c <;> first | rfl | exact hc.elim

theorem isC.ne {c : V} (h : isC c) : c ≠ .dead := by rintro rfl; exact h
theorem FR.nilsl {w : World} {A : Nat → Prop} {u : Value} (z : Nat) (h : FR w A [u] .nil) : FR w A [u] (.sl z []) := by
  cases h
  exact .sl 0 0 (fun _ => []) rfl (Nat.le_refl _) (fun h => absurd h (Nat.lt_irrefl 0)) (fun i hi => absurd hi (Nat.not_lt_zero _)) (fun i x hx => by simp at hx)
theorem unC_some {s : Sh} {v : V} {K : V → Option R} (h : unC s v K = some r) : ∃ c, K c = some r ∧ isC c ∧ isC v ∧ ∀ w A u, FR w A [u] v → FR w A [u] c := by
  cases s with
  | i k =>
    obtain ⟨m, rfl, h2⟩ := unI_some h
    exact ⟨_, h2, trivial, trivial, fun _ _ _ h => h⟩
  | b =>
    obtain ⟨m, rfl, h2⟩ := unB_some h
    exact ⟨_, h2, trivial, trivial, fun _ _ _ h => h⟩
  | tx =>
    obtain ⟨m, rfl, h2⟩ := unS_some h
    exact ⟨_, h2, trivial, trivial, fun _ _ _ h => h⟩
  | l z =>
    obtain ⟨xs, hv, h2⟩ := unL_some h
    rcases hv with rfl | ⟨rfl, rfl⟩
    · exact ⟨_, h2, trivial, trivial, fun _ _ _ h => h⟩
    · exact ⟨_, h2, trivial, trivial, fun w A u hu => hu.nilsl z⟩
  | any =>
    simp only [unC] at h
    cases v <;> first
      | (simp at h; done)
      | exact ⟨_, h, trivial, trivial, fun _ _ _ h => h⟩

theorem FR.ce {w : World} {A : Nat → Prop} {ecs : List Value} {x : V} (h : FR w A ecs x) {j : Nat} (hj : VM.ce x j ≠ .dead) : ∃ u, ecs[j]? = some u ∧ FR w A [u] (VM.ce x j) := by
  have one : ∀ {v : Value} {y : V}, FR w A [v] y → (∀ cs, y ≠ .st cs) → VM.ce y j ≠ .dead → ∃ u, [v][j]? = some u ∧ FR w A [u] (VM.ce y j) := by
    intro v y hy hn hd
    cases j with
    | zero =>
      have hce : VM.ce y 0 = y := by cases y <;> first | rfl | exact absurd rfl (hn _)
      rw [hce]; exact ⟨v, rfl, hy⟩
    | succ j =>
      have hce : VM.ce y (j + 1) = .dead := by cases y <;> first | rfl | exact absurd rfl (hn _)
      exact absurd hce hd
  cases h with
  | st hl h =>
    rename_i vs
    simp only [VM.ce, List.getD_eq_getElem?_getD] at hj ⊢
    cases hv : vs[j]? with
    | none => rw [hv] at hj; simp at hj
    | some y =>
      have hlt : j < vs.length := (List.getElem?_eq_some_iff.1 hv).1
      have hcs : ecs[j]? = some (ecs[j]'(by omega)) := List.getElem?_eq_getElem (by omega)
      refine ⟨_, hcs, ?_⟩
      simp only [Option.getD_some]
      exact h j _ _ hcs hv
  | sc h' => exact one (.sc h') (by simp) hj
  | nil => exact one .nil (by simp) hj
  | sl b o ec hn hc ha hl hx => exact one (.sl b o ec hn hc ha hl hx) (by simp) hj
  | rp hA hc hx => exact one (.rp hA hc hx) (by simp) hj
  | clo hl h' => exact one (.clo hl h') (by simp) hj

theorem unCs_some {x : V} : ∀ {ss : List Sh} {j : Nat} {K : List V → Option R}, unCs x j ss K = some r →
    ∃ cs, K cs = some r ∧ cs.length = ss.length ∧ ∀ (q : Nat) c, cs[q]? = some c → isC c ∧ isC (ce x (j + q)) ∧ ∀ w A u, FR w A [u] (ce x (j + q)) → FR w A [u] c
  | [], j, K, h => ⟨[], h, rfl, fun q c hq => by simp at hq⟩
  | s :: ss, j, K, h => by
    unfold unCs at h
    obtain ⟨c, h2, hc, hd, hr⟩ := unC_some h
    obtain ⟨cs, h3, hl, hcs⟩ := unCs_some h2
    refine ⟨c :: cs, h3, by simp [hl], fun q c' hq => ?_⟩
    cases q with
    | zero => simp at hq; subst hq; exact ⟨hc, hd, hr⟩
    | succ q =>
      have := hcs q c' (by simpa using hq)
      rw [show j + 1 + q = j + (q + 1) by omega] at this
      exact this

/-- the parts of a result -/
theorem unVs_some {vs : List V} : ∀ {ts : List Ty} {j : Nat} {K : List V → Option R}, unVs vs j ts K = some r →
    ∃ cs, K cs = some r ∧ cs.length = ts.length ∧ ∀ (q : Nat) c, cs[q]? = some c → vs.getD (j + q) .dead ≠ .dead ∧ ∀ w A ow ob u, VR w A u (vs.getD (j + q) .dead) → SV w A ow ob u c
  | [], j, K, h => ⟨[], h, rfl, fun q c hq => by simp at hq⟩
  | .c s :: ts, j, K, h => by
    unfold unVs at h
    obtain ⟨c, h2, hc, hd, hr⟩ := unC_some h
    obtain ⟨cs, h3, hl, hcs⟩ := unVs_some h2
    refine ⟨c :: cs, h3, by simp [hl], fun q c' hq => ?_⟩
    cases q with
    | zero =>
      simp at hq; subst hq
      refine ⟨hd.ne, fun w A ow ob u hu => ?_⟩
      rw [hc.sv]
      refine hr w A u ?_
      rw [Nat.add_zero, hd.vr] at hu
      exact hu
    | succ q =>
      have := hcs q c' (by simpa using hq)
      rw [show j + 1 + q = j + (q + 1) by omega] at this
      exact this
  | .agg ss :: ts, j, K, h => by
    unfold unVs at h
    obtain ⟨ds, he, _, h2⟩ := unSt_some h
    obtain ⟨cs, h3, hl, hcs⟩ := unVs_some h2
    refine ⟨_ :: cs, h3, by simp [hl], fun q c' hq => ?_⟩
    cases q with
    | zero =>
      simp at hq; subst hq
      rw [Nat.add_zero]
      refine ⟨by rw [he]; simp, fun w A ow ob u hu => ?_⟩
      simp only [List.getD_eq_getElem?_getD] at hu
      exact hu
    | succ q =>
      have := hcs q c' (by simpa using hq)
      rw [show j + 1 + q = j + (q + 1) by omega] at this
      exact this
  | .p ss :: ts, j, K, h => by simp [unVs] at h
  | .tup ss :: ts, j, K, h => by simp [unVs] at h

theorem exN_some {xs : List V} {n : Nat} {K : V → Option R} (h : exN xs n K = some r) : ∃ x, xs[n]? = some x ∧ K x = some r := by
  unfold exN at h
  split at h
  · exact ⟨_, by assumption, h⟩
  · cases h
theorem ix_some {xs : List V} {i : Int} {K : V → Option R} (h : ix xs i K = some r) : ∃ n : Nat, i = n ∧ ∃ x, xs[n]? = some x ∧ K x = some r := by
  unfold ix at h
  split at h
  · exact ⟨_, rfl, exN_some h⟩
  · cases h
theorem ixS_some {s : ByteArray} {i : Int} {K : Int → Option R} (h : ixS s i K = some r) : ∃ n : Nat, i = n ∧ ∃ b, s[n]? = some b ∧ K b.toNat = some r := by
  unfold ixS at h
  split at h
  · split at h
    · exact ⟨_, rfl, _, by assumption, h⟩
    · cases h
  · cases h
theorem chk_some {b : Bool} {K : Option R} (h : chk b K = some r) : b = true ∧ K = some r := by
  unfold chk at h
  cases b with
  | true => exact ⟨rfl, h⟩
  | false => cases h
theorem bif_some {b : Bool} {K : Option R} (h : (bif b then K else none) = some r) : b = true ∧ K = some r := by
  cases b with
  | true => exact ⟨rfl, h⟩
  | false => cases h
theorem asI_some {v : V} {K : Int → Option R} (h : asI v K = some r) : ∃ k n, v = .sc (.int k n) ∧ K n = some r := by
  unfold asI at h
  split at h
  · exact ⟨_, _, rfl, h⟩
  · cases h

/-! ### frozen values out of a state's -/
theorem sealC_some {lk : Nat → Ob} {v : V} {K : V → List (Nat × Option Nat) → Option R} (h : sealC lk v K = some r) : ∃ c s, K c s = some r ∧
    ((isC c ∧ c = v ∧ s = []) ∨ ∃ k q m o z xs, v = .ref k q m ∧ obRow lk k q = some (o, z, xs) ∧ c = .sl z (cut xs m) ∧ s = [(k, q)]) := by
  unfold sealC at h
  split at h
  · rename_i k q m
    split at h
    · rename_i o z xs he
      exact ⟨_, _, h, .inr ⟨k, q, m, o, z, xs, rfl, he, rfl, rfl⟩⟩
    · cases h
  · exact ⟨_, _, h, .inl ⟨trivial, rfl, rfl⟩⟩
  · exact ⟨_, _, h, .inl ⟨trivial, rfl, rfl⟩⟩
  · exact ⟨_, _, h, .inl ⟨trivial, rfl, rfl⟩⟩
  · exact ⟨_, _, h, .inl ⟨trivial, rfl, rfl⟩⟩
  · cases h

end


/-! ### sealing -/
theorem owned_frz1 {ob : List Ob} {k0 : Nat} {c0 : Option Nat} {k : Nat} {c : Option Nat} (h : owned (frz1 ob k0 c0) k c) : owned ob k c ∧ (k, c) ≠ (k0, c0) := by
  unfold frz1 at h
  by_cases hk : k = k0
  case neg =>
    rw [owned_congr (getD_set_ob_other _ _ hk)] at h
    exact ⟨h, fun e => hk (by rw [Prod.mk.injEq] at e; exact e.1)⟩
  subst hk
  by_cases hl : k < ob.length
  case neg =>
    rw [List.set_eq_of_length_le (by omega)] at h
    have hn : ob.getD k .none = .none := by simp [List.getD_eq_getElem?_getD, List.getElem?_eq_none (by omega : ob.length ≤ k)]
    unfold owned at h; rw [hn] at h; cases c <;> exact h.elim
  rw [owned_one, getD_set_ob_same _ _ hl] at h
  refine ⟨by rw [owned_one]; exact (frzO_sub default (fun _ _ => 0) k c0 _).ow c h, fun e => ?_⟩
  rw [Prod.mk.injEq] at e
  obtain ⟨_, rfl⟩ := e
  generalize ob.getD k .none = o at h
  cases c with
  | none => cases o <;> simp [owned, frzO] at h
  | some c =>
    cases o with
    | none => simp [owned, frzO] at h
    | row => simp [owned, frzO] at h
    | box b cs =>
      cases hc : cs.getD c .dead with
      | own o z xs =>
        simp only [frzO, hc] at h
        obtain ⟨z', xs', h⟩ := h
        rw [getElem?_set_V] at h
        split at h
        · simp at h
        · rename_i hh
          have hlt : c < cs.length := (List.getElem?_eq_some_iff.1 h).1
          exact hh ⟨rfl, hlt⟩
      | _ =>
        simp only [frzO, hc] at h
        obtain ⟨z', xs', h⟩ := h
        simp [List.getD_eq_getElem?_getD, h] at hc

theorem owned_freeze : ∀ (s : List (Nat × Option Nat)) {ob : List Ob} {k : Nat} {c : Option Nat}, owned (freeze ob s) k c → owned ob k c ∧ (k, c) ∉ s
  | [], ob, k, c, h => ⟨h, by simp⟩
  | (k0, c0) :: s, ob, k, c, h => by
    obtain ⟨h1, h2⟩ := owned_freeze s h
    obtain ⟨h3, h4⟩ := owned_frz1 h1
    exact ⟨h3, by simp only [List.mem_cons, not_or]; exact ⟨h4, h2⟩⟩

theorem obRow_eO {σ : St} {k : Nat} {q : Option Nat} {o : Bool} {z : Nat} {xs : List V} (h : obRow (lkE σ) k q = some (o, z, xs)) : ∃ o', obRow (lk σ) k q = some (o', z, xs) := by
  cases q with
  | none =>
    rw [obRow_none] at h
    unfold lkE at h
    cases ho : σ.ob.getD k .none with
    | row o' z' xs' =>
      rw [ho] at h
      simp only [eO, Ob.row.injEq] at h
      obtain ⟨_, rfl, rfl⟩ := h
      exact ⟨o', obRow_none.2 ho⟩
    | _ => rw [ho] at h; simp [eO] at h
  | some c =>
    rw [obRow_some] at h
    obtain ⟨b, cs, h1, h2⟩ := h
    unfold lkE at h1
    cases ho : σ.ob.getD k .none with
    | box b' cs' =>
      rw [ho] at h1
      simp only [eO, Ob.box.injEq] at h1
      obtain ⟨_, rfl⟩ := h1
      rw [List.getElem?_map] at h2
      cases hc : cs'[c]? with
      | none => rw [hc] at h2; simp at h2
      | some y =>
        rw [hc] at h2
        simp only [Option.map_some, Option.some.injEq] at h2
        cases y <;> simp only [eC, V.own.injEq, reduceCtorEq] at h2
        obtain ⟨_, rfl, rfl⟩ := h2
        exact ⟨_, obRow_some.2 ⟨b', cs', ho, hc⟩⟩
    | _ => rw [ho] at h1; simp [eO] at h1

section
variable {U : Nat → Prop} {w : World} {ow : Own} {ob : List Ob}

theorem HO.row (h : HO U w ow ob) {k : Nat} {q : Option Nat} {o : Bool} {z : Nat} {xs : List V} (hr : obRow (fun k => ob.getD k .none) k q = some (o, z, xs)) :
    ∃ c, RowOk w (Fz U w ow ob) (ow k q) z xs c := by
  cases q with
  | none =>
    rw [obRow_none] at hr
    have := h.obs k
    rw [hr] at this
    exact this
  | some j =>
    rw [obRow_some] at hr
    obtain ⟨b, cs, h1, h2⟩ := hr
    have hk := h.obs k
    rw [h1] at hk
    obtain ⟨ht, hc⟩ := hk
    have hj : j < cs.length := (List.getElem?_eq_some_iff.1 h2).1
    obtain ⟨v, hv⟩ := Option.isSome_iff_exists.1 (ht j hj).1
    rw [Nat.zero_add] at hv
    obtain ⟨c, _, hr⟩ := hc j v _ hv h2
    exact ⟨c, hr⟩

theorem alive_row {k : Nat} {q : Option Nat} {o : Bool} {z : Nat} {xs : List V} (hr : obRow (fun k => ob.getD k .none) k q = some (o, z, xs)) : alive ob k q := by
  cases q with
  | none => rw [obRow_none] at hr; exact aliveOb (by rw [hr]; simp)
  | some j => rw [obRow_some] at hr; obtain ⟨b, cs, h1, h2⟩ := hr; exact aliveBox h1 h2

theorem HO.frozen (h : HO U w ow ob) {k : Nat} {q : Option Nat} (ha : alive ob k q) {s : List (Nat × Option Nat)} (hs : (k, q) ∈ s) : Fz U w ow (freeze ob s) (ow k q) :=
  ⟨(h.lt k q ha).2, (h.lt k q ha).1, fun k' c' ho he => by
    obtain ⟨h1, h2⟩ := owned_freeze s ho
    obtain ⟨rfl, rfl⟩ := h.inj k' c' k q (alive_of_owned h1) ha he
    exact h2 hs⟩

theorem Fz.freeze {s : List (Nat × Option Nat)} {b : Nat} (h : Fz U w ow ob b) : Fz U w ow (freeze ob s) b :=
  ⟨h.1, h.2.1, fun k c ho => h.2.2 k c (owned_freeze s ho).1⟩

theorem length_cut {xs : List V} {m : Option Nat} (h : cutLen xs m ≤ xs.length) : (cut xs m).length = cutLen xs m := by
  cases m with
  | none => rfl
  | some n => simp only [cut, cutLen, List.length_take] at *; omega
theorem getElem?_cut {xs : List V} {m : Option Nat} {i : Nat} {x : V} (h : (cut xs m)[i]? = some x) : xs[i]? = some x := by
  cases m with
  | none => exact h
  | some n =>
    simp only [cut, List.getElem?_take] at h
    split at h
    · exact h
    · cases h

/-- a row in frozen memory reads as a slice -/
theorem FR.ofRow {A : Nat → Prop} {g z c n cp : Nat} {xs ys : List V} (h : RowOk w A g z xs c) (hA : A g) (hy : ∀ (i : Nat) y, ys[i]? = some y → xs[i]? = some y) (hn : ys.length = n) (hc : n ≤ cp) :
    FR w A [.slice (some ⟨g, 0, none⟩) n cp] (.sl z ys) := by
  classical
  have key : ∀ i : Nat, ∃ ecs, ∀ x, ys[i]? = some x → ecs.length = z ∧ At w g (i * z) ecs ∧ FR w A ecs x := fun i => by
    cases hi : ys[i]? with
    | none => exact ⟨[], fun x hx => by simp at hx⟩
    | some x =>
      obtain ⟨ecs, h1⟩ := h.at_ i x (hy i x hi)
      exact ⟨ecs, fun y hy => by simp at hy; subst hy; exact h1⟩
  obtain ⟨ec, hec⟩ := Classical.axiomOfChoice key
  refine .sl g 0 ec hn hc (fun _ => ⟨rfl, hA⟩) (fun i hi => ?_) (fun i x hx => (hec i x hx).2.2)
  have hx : ys[i]? = some (ys[i]'(by omega)) := List.getElem?_eq_getElem (by omega)
  have := hec i _ hx
  refine ⟨this.1, ?_⟩
  rw [Nat.zero_add]
  exact this.2.1

theorem SC.sealed (h : HO U w ow ob) {v : Value} {k : Nat} {q m : Option Nat} {o : Bool} {z : Nat} {xs : List V} (hv : SC w (Fz U w ow ob) ow ob v (.ref k q m))
    (hr : obRow (fun k => ob.getD k .none) k q = some (o, z, xs)) {s : List (Nat × Option Nat)} (hs : (k, q) ∈ s) : FR w (Fz U w ow (freeze ob s)) [v] (.sl z (cut xs m)) := by
  obtain ⟨o', z', xs', cp, h1, rfl, h3, h4, h5⟩ := hv
  rw [hr] at h1
  simp only [Option.some.injEq, Prod.mk.injEq] at h1
  obtain ⟨_, rfl, rfl⟩ := h1
  obtain ⟨c, hrow⟩ := h.row hr
  have hrow' := hrow.keep (w' := w) (A' := Fz U w ow (freeze ob s)) (fun b hb => ⟨Fz.freeze hb, rfl⟩) rfl
  exact FR.ofRow hrow' (h.frozen (alive_row hr) hs) (fun i y hy => getElem?_cut hy) (length_cut h3) h4
end

section
variable {R : Type} {r : R}
/-- v was made fit: x; s: what is frozen for it -/
def SealOk (U : Nat → Prop) (w : World) (ow : Own) (ob : List Ob) (v x : V) (s : List (Nat × Option Nat)) : Prop :=
  ∀ s', (∀ q ∈ s, q ∈ s') → ∀ u, SR w (Fz U w ow ob) ow ob u v → VR w (Fz U w ow (freeze ob s')) u x
def SealOkC (U : Nat → Prop) (w : World) (ow : Own) (ob : List Ob) (v x : V) (s : List (Nat × Option Nat)) : Prop :=
  isC x ∧ ∀ s', (∀ q ∈ s, q ∈ s') → ∀ u, SC w (Fz U w ow ob) ow ob u v → FR w (Fz U w ow (freeze ob s')) [u] x

variable {U : Nat → Prop} {w : World} {ow : Own} {σ : St}

theorem isC.freeze {c : V} {ob : List Ob} {u : Value} {s : List (Nat × Option Nat)} (h : FR w (Fz U w ow ob) [u] c) : FR w (Fz U w ow (freeze ob s)) [u] c :=
  h.mono (fun _ _ => rfl) (fun _ hb => Fz.freeze hb)

theorem sealC_ok (h : HO U w ow σ.ob) {v : V} {K : V → List (Nat × Option Nat) → Option R} (he : sealC (lkE σ) v K = some r) :
    ∃ c s, K c s = some r ∧ SealOkC U w ow σ.ob v c s := by
  obtain ⟨c, s, hK, hc⟩ := sealC_some he
  refine ⟨c, s, hK, ?_⟩
  rcases hc with ⟨hc, rfl, rfl⟩ | ⟨k, q, m, o, z, xs, rfl, hr, rfl, rfl⟩
  · exact ⟨hc, fun s' _ u hu => isC.freeze (by rw [hc.sc] at hu; exact hu)⟩
  · obtain ⟨o', hr'⟩ := obRow_eO hr
    exact ⟨trivial, fun s' hs' u hu => hu.sealed h hr' (hs' _ (by simp))⟩

theorem sealCs_ok (h : HO U w ow σ.ob) : ∀ {vs : List V} {K : List V → List (Nat × Option Nat) → Option R}, sealCs (lkE σ) vs K = some r →
    ∃ cs s, K cs s = some r ∧ cs.length = vs.length ∧ ∀ (i : Nat) c v, cs[i]? = some c → vs[i]? = some v → SealOkC U w ow σ.ob v c s
  | [], K, he => ⟨[], [], he, rfl, fun i c v hc => by simp at hc⟩
  | v :: vs, K, he => by
    unfold sealCs at he
    obtain ⟨c, s, h1, hc⟩ := sealC_ok h he
    obtain ⟨cs, s', h2, hl, hcs⟩ := sealCs_ok h h1
    refine ⟨c :: cs, s ++ s', h2, by simp [hl], fun i c' v' h3 h4 => ?_⟩
    cases i with
    | zero =>
      simp at h3 h4; subst h3; subst h4
      exact ⟨hc.1, fun s'' hs u hu => hc.2 s'' (fun q hq => hs q (List.mem_append_left _ hq)) u hu⟩
    | succ i =>
      have := hcs i c' v' (by simpa using h3) (by simpa using h4)
      exact ⟨this.1, fun s'' hs u hu => this.2 s'' (fun q hq => hs q (List.mem_append_right _ hq)) u hu⟩

theorem sealV_ok (h : HO U w ow σ.ob) {v : V} {K : V → List (Nat × Option Nat) → Option R} (he : sealV (lkE σ) v K = some r) :
    ∃ x s, K x s = some r ∧ SealOk U w ow σ.ob v x s := by
  by_cases h1 : ∃ cs, v = .st cs
  · obtain ⟨cs, rfl⟩ := h1
    obtain ⟨cs', s, h2, hl, hcs⟩ := sealCs_ok h he
    refine ⟨_, s, h2, fun s' hs u hu => ?_⟩
    obtain ⟨arr, rfl, e2, e3⟩ := hu
    refine ⟨arr, rfl, .st (by simp [e2, hl]) fun i v x hv hx => ?_⟩
    have hi : i < cs.length := by have := (List.getElem?_eq_some_iff.1 hx).1; omega
    have hc := hcs i x _ hx (List.getElem?_eq_getElem hi)
    exact hc.2 s' hs v (e3 i v _ (by simpa using hv) (List.getElem?_eq_getElem hi))
  · by_cases h2 : ∃ y, v = .dt y
    · obtain ⟨y, rfl⟩ := h2
      exact ⟨y, [], he, fun s' _ u hu => VR.mono hu (fun _ _ => rfl) (fun _ hb => Fz.freeze hb)⟩
    · have he' : sealC (lkE σ) v K = some r := by
        cases v <;> first | exact he | exact absurd ⟨_, rfl⟩ h1 | exact absurd ⟨_, rfl⟩ h2
      obtain ⟨c, s, h3, hc⟩ := sealC_ok h he'
      refine ⟨c, s, h3, fun s' hs u hu => ?_⟩
      rw [hc.1.vr]
      refine hc.2 s' hs u ?_
      have hnt : ∀ vs, v ≠ .tup vs := by
        rintro vs rfl
        simp [sealC] at he'
      cases v <;> first
        | exact hu
        | exact absurd ⟨_, rfl⟩ h1
        | exact absurd ⟨_, rfl⟩ h2
        | exact absurd rfl (hnt _)

theorem sealVs_ok (h : HO U w ow σ.ob) : ∀ {vs : List V} {K : List V → List (Nat × Option Nat) → Option R}, sealVs (lkE σ) vs K = some r →
    ∃ xs s, K xs s = some r ∧ xs.length = vs.length ∧ ∀ (i : Nat) x v, xs[i]? = some x → vs[i]? = some v → SealOk U w ow σ.ob v x s
  | [], K, he => ⟨[], [], he, rfl, fun i c v hc => by simp at hc⟩
  | v :: vs, K, he => by
    unfold sealVs at he
    obtain ⟨c, s, h1, hc⟩ := sealV_ok h he
    obtain ⟨cs, s', h2, hl, hcs⟩ := sealVs_ok h h1
    refine ⟨c :: cs, s ++ s', h2, by simp [hl], fun i c' v' h3 h4 => ?_⟩
    cases i with
    | zero =>
      simp at h3 h4; subst h3; subst h4
      exact fun s'' hs u hu => hc s'' (fun q hq => hs q (List.mem_append_left _ hq)) u hu
    | succ i =>
      have := hcs i c' v' (by simpa using h3) (by simpa using h4)
      exact fun s'' hs u hu => this s'' (fun q hq => hs q (List.mem_append_right _ hq)) u hu
end


/-! ### the empty list for nothing -/
theorem FR.nil_sl {w : World} {A : Nat → Prop} {v : Value} {z : Nat} (h : FR w A [v] .nil) : FR w A [v] (.sl z []) := by
  cases h
  exact .sl 0 0 (fun _ => []) rfl (Nat.le_refl _) (fun h => by omega) (fun i hi => by omega) (fun i x hx => by simp at hx)
theorem SC.nrm {w : World} {A : Nat → Prop} {ow : Own} {ob : List Ob} {u : Value} {c : V} {s : Sh} (h : SC w A ow ob u c) : SC w A ow ob u (nrmC s c) := by
  unfold nrmC
  split
  · exact FR.nil_sl h
  · exact h
theorem nrmCs_length : ∀ (ss : List Sh) (cs : List V), (nrmCs ss cs).length = cs.length
  | [], _ => rfl
  | _ :: _, [] => rfl
  | _ :: ss, _ :: cs => by unfold nrmCs; simp [nrmCs_length ss cs]
theorem nrmCs_get : ∀ (ss : List Sh) (cs : List V) (i : Nat) {x : V}, (nrmCs ss cs)[i]? = some x → ∃ c, cs[i]? = some c ∧ (x = c ∨ ∃ s, x = nrmC s c)
  | [], _, i, x, h => ⟨x, h, .inl rfl⟩
  | _ :: _, [], i, x, h => by simp [nrmCs] at h
  | s :: ss, c :: cs, i, x, h => by
    unfold nrmCs at h
    cases i with
    | zero => simp at h; exact ⟨c, rfl, .inr ⟨s, h.symm⟩⟩
    | succ i => simpa using nrmCs_get ss cs i (by simpa using h)
theorem nrmV_el {T : TT} {t : TypeId} {v : V} (h : ∀ cs, v ≠ .st cs) : nrmV T t v = v := by cases v <;> first | rfl | exact absurd rfl (h _)
theorem nrmV_st {T : TT} {t : TypeId} {cs : List V} : nrmV T t (.st cs) = .st cs ∨ ∃ ss, nrmV T t (.st cs) = .st (nrmCs ss cs) := by
  unfold nrmV
  simp only
  split
  · exact .inr ⟨_, rfl⟩
  · exact .inl rfl
theorem SR.nrm {w : World} {A : Nat → Prop} {ow : Own} {ob : List Ob} {u : Value} {v : V} {T : TT} {t : TypeId} (h : SR w A ow ob u v) : SR w A ow ob u (nrmV T t v) := by
  by_cases hs : ∃ cs, v = .st cs
  · obtain ⟨cs, rfl⟩ := hs
    rcases nrmV_st (T := T) (t := t) (cs := cs) with e | ⟨ss, e⟩
    · rw [e]; exact h
    · rw [e]
      obtain ⟨arr, h1, h2, h3⟩ := h
      refine ⟨arr, h1, by rw [nrmCs_length]; exact h2, fun j q y hq hy => ?_⟩
      obtain ⟨c, hc, e⟩ := nrmCs_get ss cs j hy
      have := h3 j q c hq hc
      rcases e with rfl | ⟨s, rfl⟩
      · exact this
      · exact this.nrm
  · rw [nrmV_el fun cs e => hs ⟨cs, e⟩]; exact h
theorem nrmA_length {T : TT} : ∀ (ts : List TypeId) (vs : List V), (nrmA T ts vs).length = vs.length
  | [], _ => rfl
  | _ :: _, [] => rfl
  | _ :: ts, _ :: vs => by unfold nrmA; simp [nrmA_length ts vs]
theorem nrmA_get {T : TT} : ∀ (ts : List TypeId) (vs : List V) (i : Nat) {x : V}, (nrmA T ts vs)[i]? = some x → ∃ v, vs[i]? = some v ∧ (x = v ∨ ∃ t, x = nrmV T t v)
  | [], _, i, x, h => ⟨x, h, .inl rfl⟩
  | _ :: _, [], i, x, h => by simp [nrmA] at h
  | t :: ts, v :: vs, i, x, h => by
    unfold nrmA at h
    cases i with
    | zero => simp at h; exact ⟨v, rfl, .inr ⟨t, h.symm⟩⟩
    | succ i => simpa using nrmA_get ts vs i (by simpa using h)
theorem nrmA_sr {w : World} {A : Nat → Prop} {ow : Own} {ob : List Ob} {u : Value} {v x : V} {T : TT} (h : SR w A ow ob u v) (e : x = v ∨ ∃ t, x = nrmV T t v) : SR w A ow ob u x := by
  rcases e with rfl | ⟨t, rfl⟩
  · exact h
  · exact h.nrm
/-- what it refers to stays -/
theorem keyC_nrm {s : Sh} {c : V} : keyC (nrmC s c) = keyC c := by
  unfold nrmC
  split <;> rfl
theorem keysV_nrm {T : TT} {t : TypeId} {v : V} : keysV (nrmV T t v) = keysV v := by
  by_cases hs : ∃ cs, v = .st cs
  · obtain ⟨cs, rfl⟩ := hs
    rcases nrmV_st (T := T) (t := t) (cs := cs) with e | ⟨ss, e⟩
    · rw [e]
    · rw [e]
      show (nrmCs ss cs).filterMap keyC = cs.filterMap keyC
      clear e
      induction ss generalizing cs with
      | nil => rfl
      | cons s ss ih =>
        cases cs with
        | nil => rfl
        | cons c cs => unfold nrmCs; rw [List.filterMap_cons, List.filterMap_cons, keyC_nrm, ih]
  · rw [nrmV_el fun cs e => hs ⟨cs, e⟩]
end Go.Proofs.YtmddfhjgdhjmkaaDoor.VM
