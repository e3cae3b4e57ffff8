/- The abstract machine and the memory: drawn regions in which a call floats among quiet operations. -/
import Derived.Test.YtmddfhjgdhjmkaaDoorVMF2
set_option linter.unusedVariables false
set_option linter.unusedSimpArgs false
namespace Go.Proofs.YtmddfhjgdhjmkaaDoor.VM

section
variable {T : TT} {call : FuncId → List V → Option Res} {ops : List Oper} {un : List (List Nat)} {t : Nat}

/-! ### a slot that is dead stays so -/
theorem slDead_kil {σ : St} {k : Nat} {c : Option Nat} (h : σ.sl.getD t .dead = .dead) : (kil σ k c).sl.getD t .dead = .dead := by
  show (σ.sl.map (kilV k c)).getD t .dead = .dead
  rw [getD_map _ _ (kil_forget k c).dead, h]; rfl
theorem slDead_kill {σ : St} {k : Nat} (h : σ.sl.getD t .dead = .dead) : (kill σ k).sl.getD t .dead = .dead := by
  show (σ.sl.map (killV k)).getD t .dead = .dead
  rw [getD_map _ _ rfl, h]; rfl
theorem slDead_kilP {σ : St} {k j n : Nat} (h : σ.sl.getD t .dead = .dead) : (kilP σ k j n).sl.getD t .dead = .dead := by
  rw [kilP_map, getD_map _ _ (gP_dead n j), h, gP_dead]
theorem slDead_wr1 {σ σ' : St} {k : Nat} {c : Option Nat} {i j : Nat} {x : V} (h : wr1 σ k c i j x some = some σ') (ht : σ.sl.getD t .dead = .dead) : σ'.sl.getD t .dead = .dead := by
  unfold wr1 at h
  split at h
  · obtain ⟨_, h⟩ := bif_some h
    unfold exN at h
    split at h
    · cases h; exact ht
    · cases h
  · split at h
    · obtain ⟨_, h⟩ := bif_some h
      cases h; exact slDead_kil ht
    · cases h
theorem wd_some' {R : Type} {n : Nat} {x : V} {K : Option R} {r : R} (h : wd n x K = some r) : K = some r := by
  unfold wd at h
  split at h <;> exact (bif_some h).2
theorem unSt_some' {R : Type} {n : Nat} {x : V} {K : Option R} {r : R} (h : unSt n x K = some r) : K = some r := by
  unfold unSt at h
  split at h
  · exact (bif_some h).2
  · cases h
theorem slDead_wrN {σ σ' : St} {k : Nat} {c : Option Nat} {i j : Nat} {ss : List Sh} {ns : List V} {x : V} (h : wrN σ k c i j ss ns x some = some σ') (ht : σ.sl.getD t .dead = .dead) : σ'.sl.getD t .dead = .dead := by
  unfold wrN at h
  split at h
  · obtain ⟨_, h⟩ := bif_some h
    have h := wd_some' h
    unfold exN at h
    split at h
    · cases h; exact ht
    · cases h
  · split at h
    · rename_i cs _ _
      obtain ⟨_, h⟩ := bif_some h
      have h := unSt_some' h
      have e := unCs_bind (x := x) (ss := ss) (j := 0) (K := some) (g := fun ps => some (⟨(kilP σ k j ss.length).sl, σ.ob.set k (.box true (setPart cs j (nilBack ns ps)))⟩ : St))
      simp only [Option.bind_some] at e
      rw [h] at e
      obtain ⟨_, _, e⟩ := Option.bind_eq_some_iff.1 e
      cases e; exact slDead_kilP ht
    · cases h
theorem slDead_mvR {σ σ' : St} {k j k' : Nat} {c m : Option Nat} (h : mvR σ k j k' c m some = some σ') (ht : σ.sl.getD t .dead = .dead) : σ'.sl.getD t .dead = .dead := by
  unfold mvR at h
  split at h
  · simp only at h
    split at h
    · obtain ⟨_, h⟩ := bif_some h
      cases h; exact slDead_kil (slDead_kil ht)
    · cases h
  · cases h
theorem slDead_sto {σ σ' : St} {ty : TypeId} {a x : V} (h : sto T σ ty a x some = some σ') (ht : σ.sl.getD t .dead = .dead) : σ'.sl.getD t .dead = .dead := by
  have pl : ∀ {k : Nat} {c : Option Nat} {i j : Nat}, (sealC (lkE σ) x fun x s => wr1 ⟨σ.sl, freeze σ.ob s⟩ k c i j x some) = some σ' → σ'.sl.getD t .dead = .dead := fun {k c i j} h => by
    have e := sealC_bind (lk := lkE σ) (v := x) (K := fun x s => some (x, s)) (g := fun p : V × Fs => wr1 ⟨σ.sl, freeze σ.ob p.2⟩ k c i j p.1 some)
    simp only [Option.bind_some] at e
    rw [h] at e
    obtain ⟨_, _, e⟩ := Option.bind_eq_some_iff.1 e
    exact slDead_wr1 e ht
  unfold sto at h
  split at h
  · rename_i k c i j s _
    simp only at h
    split at h
    · rename_i k' c' m
      cases hb : (sto.isBox (σ.ob.getD k .none) && sto.isN c && ownedB σ k' c') with
      | true =>
        rw [hb] at h
        obtain ⟨_, h⟩ := bif_some h
        exact slDead_mvR h ht
      | false => rw [hb] at h; exact pl h
    · exact pl h
  · rename_i k c i j ss _
    have e := sealV_bind (lk := lkE σ) (v := nrmV T ty x) (K := fun x s => some (x, s)) (g := fun p : V × Fs => wrN ⟨σ.sl, freeze σ.ob p.2⟩ k c i j ss (srcC x) p.1 some)
    simp only [Option.bind_some] at e
    rw [h] at e
    obtain ⟨_, _, e⟩ := Option.bind_eq_some_iff.1 e
    exact slDead_wrN e ht
  · cases h
theorem slDead_app {σ σ' : St} {d z b : Nat} {s x : V} (h : app σ d z b s x some = some σ') (hd : t ≠ d) (ht : σ.sl.getD t .dead = .dead) : σ'.sl.getD t .dead = .dead := by
  have li : ∀ {z : Nat} {x : V} {B : List V → Bool} {G : List V → St}, (∀ ys, (G ys).sl.getD t .dead = .dead) → (asList (lkE σ) z x fun ys => chk (B ys) (some (G ys))) = some σ' → σ'.sl.getD t .dead = .dead := fun {z x B G} hG h => by
    have e := asList_bind (lk := lkE σ) (z := z) (v := x) (K := some) (g := fun ys => chk (B ys) (some (G ys)))
    simp only [Option.bind_some] at e
    rw [h] at e
    obtain ⟨ys, _, e⟩ := Option.bind_eq_some_iff.1 e
    have := (bif_some e).2
    cases this
    exact hG ys
  unfold app at h
  obtain ⟨_, h⟩ := bif_some h
  split at h
  · exact li (fun ys => by show ((kill σ d).sl.set d _).getD t .dead = .dead; rw [getD_set_ne hd]; exact slDead_kill ht) h
  · split at h
    · obtain ⟨_, h⟩ := bif_some h
      exact li (fun ys => by show ((kill (kil σ _ _) d).sl.set d _).getD t .dead = .dead; rw [getD_set_ne hd]; exact slDead_kill (slDead_kil ht)) h
    · cases h
  · cases h
theorem loud_dead {σ σ' : St} {o : Oper} (h : exLoud T call σ o some = some σ') (hd : o.dst ≠ some t) (ht : σ.sl.getD t .dead = .dead) : σ'.sl.getD t .dead = .dead := by
  obtain ⟨dst, op, type, pos, after, guard⟩ := o
  have rs : ∀ {σ1 : St}, loudArgs T σ ⟨dst, op, type, pos, after, guard⟩ = [] → ∀ {K : St → Option St}, rsA T σ σ1 (loudArgs T σ ⟨dst, op, type, pos, after, guard⟩) K = K σ1 := fun {σ1} e {K} => by rw [e]; rfl
  cases op <;> first
    | (exfalso; cases dst <;> cases h; done)
    | skip
  case store ty p q =>
    cases dst with
    | none =>
      have h : sto T σ ty (val T σ p) (val T σ q) some = some σ' := h
      exact slDead_sto h ht
    | some d => cases h
  case call c =>
    obtain ⟨callee, args, ts⟩ := c
    cases dst with
    | none => exfalso; cases callee <;> first | (cases h; done) | (rename_i b; cases b <;> cases h)
    | some d =>
      have hne : t ≠ d := fun e => hd (by rw [e])
      cases callee with
      | invoke rc m => cases h
      | builtin b =>
        cases b <;> first | (cases h; done) | skip
        unfold exLoud at h
        simp only [exLoud0] at h
        split at h
        · split at h
          · obtain ⟨_, h⟩ := bif_some h
            split at h
            · exact slDead_app h hne ht
            · cases h
          · cases h
        · cases h
      | value f =>
        rw [exLoud_call] at h
        split at h
        · obtain ⟨_, h⟩ := bif_some h
          obtain ⟨az, s, h1, h⟩ := ioSeal_some h
          obtain ⟨vs, l, h2, h⟩ := ioFill_some h
          obtain ⟨_, h⟩ := bif_some h
          obtain ⟨r, h4, h⟩ := Option.bind_eq_some_iff.1 h
          obtain ⟨σ3, h5, h⟩ := ioBack_some h
          obtain ⟨g, ob3, g1, g2, g3, g4⟩ := ioBack_shape h5
          obtain ⟨x, h, h6⟩ := finK_shape h
          have e3 := g4 σ.sl _ some
          rw [h5] at e3
          cases e3
          obtain ⟨ob', h7, h8⟩ := rsA_shape (sl0 := σ.sl) (ob0 := σ.ob) h
          have e4 := h8 σ.sl ((σ.sl.map g).set d x) _ some
          rw [show rsA T ⟨σ.sl, σ.ob⟩ ⟨(σ.sl.map g).set d x, ob3⟩ _ some = some σ' from h] at e4
          cases e4
          show ((σ.sl.map g).set d x).getD t .dead = .dead
          rw [getD_set_ne hne, getD_map _ _ g2, ht, g2]
        · cases h
theorem Step.dead {i : Nat} {o : Oper} {σ σ' : St} {fs fs' : Fs} {lg : List Ent} {e : Ent} (h : Step T call ops un i o σ fs lg σ' fs' e) (hd : o.dst ≠ some t) (ht : σ.sl.getD t .dead = .dead) : σ'.sl.getD t .dead = .dead := by
  cases h with
  | quiet h =>
    rename_i d x ob s
    show (σ.sl.set d x).getD t .dead = .dead
    rw [getD_set_ne (fun e => hd (by rw [h.dst, e])), ht]
  | loud h => exact loud_dead h.out hd ht

/-! ### an operation that is ready comes first -/
/-- what the quiet ones that float make is not there yet -/
def Dead (T : TT) (ops : List Oper) (un : List (List Nat)) (l : List (Oper × Nat)) (σ : St) : Prop := ∀ p ∈ l, floats T ops un p.2 p.1 = true → σ.sl.getD (dstOf p.1) .dead = .dead
/-- the rest of a region's operations stand there as the text has them -/
structure Lst (ops : List Oper) (l : List (Oper × Nat)) : Prop where
  at_ : ∀ p ∈ l, ops[p.2]? = some p.1
  srt : l.Pairwise fun p q => p.2 < q.2
structure RegOk2 (T : TT) (ops : List Oper) : Prop where
  on : ∀ (j : Nat) y, ops[j]? = some y → ∀ e ∈ y.after, Region.binds .any e = true → e.on < j
  ne : ∀ (i j : Nat) x y, i < j → ops[i]? = some x → ops[j]? = some y → ∀ d, x.dst = some d → y.dst ≠ some d
  ord : ∀ (i j : Nat) x y, i < j → ops[i]? = some x → ops[j]? = some y → i ∈ (befores ops).getD j [] ∨ apartB T ops x y = true ∨ apartL T ops x y = true
theorem regOk2_ok {ops : List Oper} (h : regOk2 T ops = true) : RegOk2 T ops := by
  unfold regOk2 at h
  have hz : ∀ {j : Nat} {y : Oper}, ops[j]? = some y → (y, j) ∈ ops.zipIdx := fun {j y} hj => by
    rw [List.mem_zipIdx_iff_getElem?]; exact hj
  have hy : ∀ {j : Nat} {y : Oper}, ops[j]? = some y → (y.after.toList.all (fun e => !Region.binds .any e || Nat.blt e.on j) && ops.zipIdx.all fun (x, i) => !Nat.blt i j || (dstNe x y && (memN ((befores ops).getD j []) i || apartB T ops x y || apartL T ops x y))) = true := fun {j y} hj => List.all_eq_true.1 h (y, j) (hz hj)
  have hp : ∀ (i j : Nat) x y, i < j → ops[i]? = some x → ops[j]? = some y → (dstNe x y && (memN ((befores ops).getD j []) i || apartB T ops x y || apartL T ops x y)) = true := fun i j x y hij hi hj => by
    have h1 := hy hj
    simp only [Bool.and_eq_true] at h1
    have h2 := List.all_eq_true.1 h1.2 (x, i) (hz hi)
    have h3 : Nat.blt i j = true := by rw [Nat.blt_eq]; exact hij
    simpa [h3] using h2
  refine ⟨fun j y hj e he hb => ?_, fun i j x y hij hi hj d hd hd' => ?_, fun i j x y hij hi hj => ?_⟩
  · have h1 := hy hj
    simp only [Bool.and_eq_true] at h1
    have h2 := List.all_eq_true.1 h1.1 e (by simpa using he)
    rw [hb] at h2
    simp only [Bool.not_true, Bool.false_or] at h2
    rw [Nat.blt_eq] at h2
    exact h2
  · have h1 := hp i j x y hij hi hj
    simp only [Bool.and_eq_true] at h1
    have h2 := h1.1
    unfold dstNe at h2
    rw [hd, hd'] at h2
    simp at h2
  · have h1 := hp i j x y hij hi hj
    simp only [Bool.and_eq_true, Bool.or_eq_true] at h1
    rcases h1.2 with (h | h) | h
    · exact .inl (memN_iff.1 h)
    · exact .inr (.inl h)
    · exact .inr (.inr h)
theorem befores_lt (hr : RegOk2 T ops) : ∀ (j : Nat) {y : Oper}, ops[j]? = some y → ∀ i ∈ (befores ops).getD j [], i < j := by
  intro j
  induction j using Nat.strongRecOn with
  | ind j ih =>
    intro y hj i hi
    obtain ⟨e, he, hb, h⟩ := befores_spec hj hi
    have h1 := hr.on j y hj e he hb
    rcases h with rfl | h
    · exact h1
    · have h2 : ops[e.on]? = some (ops[e.on]'(by have := (List.getElem?_eq_some_iff.1 hj).1; omega)) := List.getElem?_eq_getElem _
      have := ih e.on h1 h2 i h
      omega
theorem mem_unOf {i j : Nat} {x y : Oper} (hi : ops[i]? = some x) (hj : ops[j]? = some y) (hne : i ≠ j) (h1 : i ∉ (befores ops).getD j []) (h2 : j ∉ (befores ops).getD i []) : i ∈ (unOf ops).getD j [] := by
  unfold unOf
  simp only [List.getD_eq_getElem?_getD, List.getElem?_map]
  have hz : ops.zipIdx[j]? = some (y, j) := by rw [List.getElem?_zipIdx, hj]; simp
  rw [hz]
  simp only [Option.map_some, Option.getD_some, List.mem_map]
  refine ⟨(x, i), List.mem_filter.2 ⟨by rw [List.mem_zipIdx_iff_getElem?]; exact hi, ?_⟩, rfl⟩
  have e1 : Nat.beq i j = false := by
    cases hb : Nat.beq i j
    · rfl
    · exact absurd (beq_nat.1 hb) hne
  simp only [List.getD_eq_getElem?_getD] at h1 h2
  rw [e1, memN_false.2 h1, memN_false.2 h2]
  rfl
theorem mem_nd {i j : Nat} {x : Oper} {d : Nat} (hi : ops[i]? = some x) (hd : x.dst = some d) (h : i ∈ un.getD j []) : d ∈ ndOf ops un j := by
  unfold ndOf
  refine List.mem_map.2 ⟨i, h, ?_⟩
  rw [hi]
  show dstOf x = d
  unfold dstOf; rw [hd]; rfl
theorem ap_of (hr : RegOk2 T ops) {i j : Nat} {x y : Oper} (hij : i < j) (hi : ops[i]? = some x) (hj : ops[j]? = some y) (h1 : i ∉ (befores ops).getD j []) : ∃ d1 d2, Ap T ops (unOf ops) i j x y d1 d2 := by
  have h2 : j ∉ (befores ops).getD i [] := fun h => by have := befores_lt hr i hi j h; omega
  have m1 := mem_unOf hi hj (by omega) h1 h2
  have m2 := mem_unOf hj hi (by omega) h2 h1
  have key : ∃ d1 d2, x.dst = some d1 ∧ y.dst = some d2 ∧ d1 ≠ d2 ∧ d2 ∉ readsOf ops x ∧ d1 ∉ readsOf ops y ∧ ((isQuiet T x = true ∧ isQuiet T y = true) ∨ (isQuiet T x = true ∧ isQuiet T y = false ∧ isIo y = true) ∨ (isQuiet T x = false ∧ isIo x = true ∧ isQuiet T y = true)) := by
    rcases hr.ord i j x y hij hi hj with h | h | h
    · exact absurd h h1
    · obtain ⟨d1, d2, a1, a2, a3, a4, a5, a6, a7⟩ := apartB_spec h
      exact ⟨d1, d2, a1, a2, a3, a4, a5, .inl ⟨a6, a7⟩⟩
    · unfold apartL at h
      rw [Bool.and_eq_true] at h
      obtain ⟨hq, h3⟩ := h
      split at h3
      · rename_i dx dy hx hy
        simp only [Bool.and_eq_true, Bool.not_eq_true', memN_false] at h3
        refine ⟨dx, dy, hx, hy, fun e => by rw [beq_nat.2 e] at h3; simp at h3, h3.1.2, h3.2, ?_⟩
        simp only [Bool.or_eq_true, Bool.and_eq_true, Bool.not_eq_true'] at hq
        rcases hq with ⟨⟨a, b⟩, c⟩ | ⟨⟨a, b⟩, c⟩
        · exact .inr (.inl ⟨a, b, c⟩)
        · exact .inr (.inr ⟨a, c, b⟩)
      · cases h3
  obtain ⟨d1, d2, a1, a2, a3, a4, a5, a6⟩ := key
  exact ⟨d1, d2, a1, a2, a3, a4, a5, m2, m1, mem_nd hj a2 m2, mem_nd hi a1 m1, a6⟩
theorem floats_of {i j : Nat} {x y : Oper} {d1 d2 : Nat} (h : Ap T ops un i j x y d1 d2) (hj : ops[j]? = some y) (hy : isQuiet T y = false) : floats T ops un i x = true := by
  unfold floats
  have hx : isQuiet T x = true := by
    rcases h.q with ⟨a, _⟩ | ⟨a, _⟩ | ⟨_, _, a⟩
    · exact a
    · exact a
    · rw [hy] at a; cases a
  rw [hx, Bool.true_and, List.any_eq_true]
  refine ⟨(y, j), by rw [List.mem_zipIdx_iff_getElem?]; exact hj, ?_⟩
  show (memN (un.getD i []) j && !isQuiet T y) = true
  rw [memN_iff.2 h.ij, hy]; rfl
theorem bubble {R : Type} {r : R} {K : St → Option R} {o : Oper} {i : Nat} {post : List (Oper × Nat)} (hi : ops[i]? = some o) : ∀ (pre : List (Oper × Nat)) (σ : St) (fs : Fs) (lg : List Ent),
    (∀ p ∈ pre, ops[p.2]? = some p.1 ∧ ∃ d1 d2, Ap T ops un p.2 i p.1 o d1 d2) → (pre.Pairwise fun p q => ∀ d, p.1.dst = some d → q.1.dst ≠ some d) → Dead T ops un pre σ →
    exD T call ops un (pre ++ (o, i) :: post) σ fs lg K = some r → exD T call ops un ((o, i) :: (pre ++ post)) σ fs lg K = some r
  | [], σ, fs, lg, _, _, _, h => h
  | (x, q) :: pre, σ, fs, lg, hap, hpw, hdd, h => by
    obtain ⟨σ1, fs1, e1, h1, h2⟩ := exD_cons.1 h
    obtain ⟨hpw1, hpw2⟩ := List.pairwise_cons.1 hpw
    obtain ⟨hq, d1, d2, ap⟩ := hap (x, q) (List.mem_cons_self ..)
    have hdd1 : Dead T ops un pre σ1 := fun p hp hf => by
      obtain ⟨hpq, d1', d2', ap'⟩ := hap p (List.mem_cons_of_mem _ hp)
      have e : dstOf p.1 = d1' := by unfold dstOf; rw [ap'.dx]; rfl
      refine h1.dead (fun e' => ?_) (hdd p (List.mem_cons_of_mem _ hp) hf)
      exact hpw1 p hp _ e' (by rw [e, ap'.dx])
    have h3 := bubble hi pre σ1 fs1 (e1 :: lg) (fun p hp => hap p (List.mem_cons_of_mem _ hp)) hpw2 hdd1 h2
    obtain ⟨σ2, fs2, e2, h4, h5⟩ := exD_cons.1 h3
    obtain ⟨σ1', fs1', fs2', s1, s2, s3⟩ := swap ap (fun hy => by
      have := hdd (x, q) (List.mem_cons_self ..) (floats_of ap hi hy)
      rw [show dstOf x = d1 by unfold dstOf; rw [ap.dx]; rfl] at this
      exact this) h1 h4
    refine exD_cons.2 ⟨σ1', fs1', e2, s1, exD_cons.2 ⟨σ2, fs2', e1, s2, exD_same _ _ _ _ _ _ s3 (fun z => ?_) h5⟩⟩
    simp only [List.mem_cons]
    constructor
    · rintro (h | h | h)
      · exact .inr (.inl h)
      · exact .inl h
      · exact .inr (.inr h)
    · rintro (h | h | h)
      · exact .inr (.inl h)
      · exact .inl h
      · exact .inr (.inr h)
theorem getD_drop {σ : St} {d t : Nat} : (drop σ d).sl.getD t .dead = if t = d ∧ d < σ.sl.length then .dead else σ.sl.getD t .dead := getD_set_slots _ _ _ _
theorem dropF_keep : ∀ (l : List (Oper × Nat)) (σ : St) (t : Nat), σ.sl.getD t .dead = .dead → (dropF T ops un l σ).sl.getD t .dead = .dead
  | [], σ, t, h => h
  | (o, j) :: l, σ, t, h => by
    unfold dropF
    refine dropF_keep l _ t ?_
    cases floats T ops un j o with
    | false => exact h
    | true =>
      show (drop σ (dstOf o)).sl.getD t .dead = .dead
      rw [getD_drop]; split
      · rfl
      · exact h
theorem dropF_dead : ∀ (l : List (Oper × Nat)) (σ : St), ∀ p ∈ l, floats T ops un p.2 p.1 = true → (dropF T ops un l σ).sl.getD (dstOf p.1) .dead = .dead
  | [], σ, p, hp, _ => by cases hp
  | (o, j) :: l, σ, p, hp, hf => by
    unfold dropF
    rcases List.mem_cons.1 hp with rfl | hp
    · refine dropF_keep l _ _ ?_
      rw [hf]
      show (drop σ (dstOf o)).sl.getD (dstOf o) .dead = .dead
      rw [getD_drop]; split
      · rfl
      · rename_i hh
        rw [List.getD_eq_getElem?_getD, List.getElem?_eq_none (by
          rcases Nat.lt_or_ge (dstOf o) σ.sl.length with h | h
          · exact absurd ⟨rfl, h⟩ hh
          · exact h)]
        rfl
    · exact dropF_dead l _ p hp hf
theorem Sim.dropF {P : Program} {GL : List (Nat × V)} {U : Nat → Prop} {w0 w : World} {F0 : Fr} {a : Act} {ow : Own} : ∀ (l : List (Oper × Nat)) {σ : St}, Sim GL U w0 F0 σ a w ow → Sim GL U w0 F0 (VM.dropF T ops un l σ) a w ow
  | [], σ, h => h
  | (o, j) :: l, σ, h => by
    unfold VM.dropF
    refine Sim.dropF (P := P) l ?_
    cases floats T ops un j o with
    | false => exact h
    | true => exact h.drop _
end

section
variable {P : Program} {T : TT} {U : Nat → Prop} {w0 w : World} {F0 : Fr} {a : Act} {ow : Own} {r : Res} {call : FuncId → List V → Option Res} {all : Array Oper} {un : List (List Nat)}

/-- a step of the machine is one of the model -/
theorem Step.sim (hT : TOk P T) (hC : CallOk P T.globL call) (hL : LoudOk P T call) {i : Nat} {o : Oper} {σ σ' : St} {fs fs' : Fs} {lg : List Ent} {e : Ent} (h : Step T call all.toList un i o σ fs lg σ' fs' e)
    (hs : Sim T.globL U w0 F0 (σF σ fs) a w ow) (hpn : ∀ d, o.dst = some d → F0.pn d = none) (r : Res) :
    (Region.wanted o (yielded all a.tmps) = true ∧ DoneO P T.globL U w0 F0 a w o (σF σ' fs')) ∨ (Region.wanted o (yielded all a.tmps) = false ∧ Sim T.globL U w0 F0 (σF σ' fs') (a.put o.dst undef) w ow) := by
  classical
  have fin : wantB all.toList σ o = some true → exOp T call false σ fs o (fun σ1 fs1 => if σ1 = σ' ∧ fs1 = fs' then some r else none) = some r → Region.wanted o (yielded all a.tmps) = true ∧ DoneO P T.globL U w0 F0 a w o (σF σ' fs') := fun hw hx => by
    obtain ⟨σ1, fs1, h1, h2⟩ := exOp_ok hT hC hL hs hpn hx
    split at h1
    · rename_i e
      obtain ⟨rfl, rfl⟩ := e
      exact ⟨wanted_of hs (by rw [show wantB all.toList (σF σ fs) o = wantB all.toList σ o from rfl]; exact hw), h2⟩
    · cases h1
  cases h with
  | quiet h =>
    rename_i d x ob s
    rcases h.run with ⟨hw, hq, hk, hn, hv, h0, _, _⟩ | ⟨hw, rfl, rfl, rfl, _⟩
    · refine .inl (fin hw ?_)
      unfold exOp
      rw [hq, h.dst]
      simp only [cond_true, Bool.false_and, cond_false]
      rw [qv_at hv]
      have : (isNone ob || isNone (σ.ob.getD d .none)) = true := by rw [Bool.or_eq_true]; exact h0
      rw [this]
      simp
    · refine .inr ⟨wanted_of hs (by rw [show wantB all.toList (σF σ fs) o = wantB all.toList σ o from rfl]; exact hw), ?_⟩
      rw [h.dst, List.append_nil]
      exact sim_skip hs d
  | loud h =>
    refine .inl (fin h.want ?_)
    unfold exOp
    rw [h.loud]
    simp only [cond_false]
    rw [loud_at h.out]
    simp

structure InvF (P : Program) (T : TT) (U : Nat → Prop) (w0 : World) (F0 : Fr) (call : FuncId → List V → Option Res) (all : Array Oper) (K : St → Option Res) (r : Res) (listed : Array Bool) (a : Act) (w : World)
    (l : List (Oper × Nat)) (σ : St) (fs : Fs) (lg : List Ent) (ow : Own) : Prop where
  size : listed.size = all.size
  mem : ∀ p, p ∈ l ↔ (all.toList[p.2]? = some p.1 ∧ listed.getD p.2 false = false)
  srt : l.Pairwise fun p q => p.2 < q.2
  closed : ∀ j, listed.getD j false = true → ∀ i ∈ (befores all.toList).getD j [], listed.getD i false = true
  run : exD T call all.toList (unOf all.toList) l σ fs lg K = some r
  dead : Dead T all.toList (unOf all.toList) l σ
  sim : Sim T.globL U w0 F0 (σF σ fs) a w ow

theorem InvF.done {K : St → Option Res} {Q : Exit → Act → World → Prop} {listed : Array Bool} {l : List (Oper × Nat)} {σ : St} {fs : Fs} {lg : List Ent} (h : InvF P T U w0 F0 call all K r listed a w l σ fs lg ow)
    (hl : ∀ i, i < all.size → listed.getD i false = true) (hQ : ∀ σ' a' w' ow', K σ' = some r → Sim T.globL U w0 F0 σ' a' w' ow' → Q .normal a' w') : Q .normal a w := by
  have he : l = [] := by
    cases l with
    | nil => rfl
    | cons p l =>
      obtain ⟨h1, h2⟩ := (h.mem p).1 (List.mem_cons_self ..)
      have : p.2 < all.size := by have := (List.getElem?_eq_some_iff.1 h1).1; simpa using this
      rw [hl _ this] at h2; cases h2
  subst he
  exact hQ _ _ _ _ h.run h.sim
theorem ready_or2 (hr : RegOk2 T all.toList) {listed : Array Bool} (hs : listed.size = all.size) (h : Region.ready .any all listed = []) : ∀ i, i < all.size → listed.getD i false = true := by
  intro i
  induction i using Nat.strongRecOn with
  | ind i ih =>
    intro hi
    cases hl : listed.getD i false with
    | true => rfl
    | false =>
      exfalso
      have : i ∈ Region.ready .any all listed := by
        rw [mem_ready]
        refine ⟨by rw [getD_tf (by omega)]; exact hl, all[i], Array.getElem?_eq_getElem hi, fun e he hb => ?_⟩
        have h1 := hr.on i all[i] (by rw [Array.getElem?_toList]; exact Array.getElem?_eq_getElem hi) e he hb
        exact ih _ h1 (by omega)
      rw [h] at this
      cases this

/-- A DRAWN REGION IN WHICH A CALL FLOATS -/
theorem drawn_float (hT : TOk P T) (hC : CallOk P T.globL call) (hL : LoudOk P T call) (hr : RegOk2 T all.toList) (hpn : ∀ o ∈ all.toList, ∀ d, o.dst = some d → F0.pn d = none) {K : St → Option Res} {Q : Exit → Act → World → Prop}
    (hQ : ∀ σ' a' w' ow', K σ' = some r → Sim T.globL U w0 F0 σ' a' w' ow' → Q .normal a' w') :
    ∀ (fuel : Nat) (listed : Array Bool) (a : Act) (w : World) (l : List (Oper × Nat)) (σ : St) (fs : Fs) (lg : List Ent) (ow : Own), unl listed all.size ≤ fuel → InvF P T U w0 F0 call all K r listed a w l σ fs lg ow → wpAny P .any all Q fuel listed a w
  | 0, listed, a, w, l, σ, fs, lg, ow, hf, h => by
    have hall : ∀ i, i < all.size → listed.getD i false = true := fun i hi => by
      have h0 : unl listed all.size = 0 := by omega
      unfold unl at h0
      have := List.countP_eq_zero.1 h0 i (by simpa using hi)
      simpa using this
    refine ⟨?_, h.done hall hQ⟩
    cases hrd : Region.ready .any all listed with
    | nil => rfl
    | cons i l =>
      have hi : i ∈ Region.ready .any all listed := by rw [hrd]; simp
      obtain ⟨h1, o, ho, _⟩ := mem_ready.1 hi
      have hlt : i < all.size := (Array.getElem?_eq_some_iff.1 ho).1
      rw [getD_tf (by rw [h.size]; exact hlt), hall i hlt] at h1
      cases h1
  | fuel + 1, listed, a, w, l, σ, fs, lg, ow, hf, h => by
    refine ⟨fun hrd => h.done (ready_or2 hr h.size hrd) hQ, fun i hi => ?_⟩
    obtain ⟨h1, o, ho, hafter⟩ := mem_ready.1 hi
    have hlt : i < all.size := (Array.getElem?_eq_some_iff.1 ho).1
    rw [getD_tf (by rw [h.size]; exact hlt)] at h1
    have hoL : all.toList[i]? = some o := by rw [Array.getElem?_toList]; exact ho
    have hls : i < listed.size := by rw [h.size]; exact hlt
    -- what stands before it is listed
    have hbef : ∀ q ∈ (befores all.toList).getD i [], listed.getD q false = true := fun q hq => by
      obtain ⟨e, he, hb, hqe⟩ := befores_spec hoL hq
      have := hafter e he hb
      rcases hqe with rfl | hqe
      · exact this
      · exact h.closed _ this q hqe
    have hcl : ∀ j, (listed.setIfInBounds i true).getD j false = true → ∀ q ∈ (befores all.toList).getD j [], (listed.setIfInBounds i true).getD q false = true := fun j hj q hq => by
      rw [getD_listed hls] at hj ⊢
      rw [Bool.or_eq_true] at hj ⊢
      refine .inl ?_
      rcases hj with hj | hj
      · exact h.closed j hj q hq
      · have : j = i := by simpa using hj
        subst this
        exact hbef q hq
    have hfuel : unl (listed.setIfInBounds i true) all.size ≤ fuel := by have := unl_set hlt hls h1; omega
    have hm : (o, i) ∈ l := (h.mem (o, i)).2 ⟨hoL, h1⟩
    obtain ⟨pre, post, hsplit⟩ := List.append_of_mem hm
    have hrun := h.run
    have hdead := h.dead
    have hsrt := h.srt
    rw [hsplit] at hrun hdead hsrt
    have hlo : ∀ p ∈ pre, p.2 < i := fun p hp => (List.pairwise_append.1 hsrt).2.2 p hp (o, i) (List.mem_cons_self ..)
    have hpre : ∀ p ∈ pre, all.toList[p.2]? = some p.1 ∧ listed.getD p.2 false = false := fun p hp => (h.mem p).1 (by rw [hsplit]; exact List.mem_append_left _ hp)
    have hap : ∀ p ∈ pre, all.toList[p.2]? = some p.1 ∧ ∃ d1 d2, Ap T all.toList (unOf all.toList) p.2 i p.1 o d1 d2 := fun p hp => by
      obtain ⟨g1, g2⟩ := hpre p hp
      refine ⟨g1, ap_of hr (hlo p hp) g1 hoL fun hb => ?_⟩
      rw [hbef _ hb] at g2; cases g2
    have hpw : pre.Pairwise fun p q => ∀ d, p.1.dst = some d → q.1.dst ≠ some d := by
      have := (List.pairwise_append.1 hsrt).1
      refine List.Pairwise.imp_of_mem (fun {p q} hp hq hlt d hd => ?_) this
      exact hr.ne p.2 q.2 p.1 q.1 hlt (hpre p hp).1 (hpre q hq).1 d hd
    have hb := bubble hoL pre σ fs lg hap hpw (fun p hp => hdead p (List.mem_append_left _ hp)) hrun
    obtain ⟨σ', fs', e, hstep, hrest⟩ := exD_cons.1 hb
    have hstepSim := hstep.sim hT hC hL h.sim (hpn o (List.mem_of_getElem? hoL)) r
    have hmem' : ∀ p, p ∈ pre ++ post ↔ (all.toList[p.2]? = some p.1 ∧ (listed.setIfInBounds i true).getD p.2 false = false) := fun p => by
      have hnd : ∀ p ∈ pre ++ post, p.2 ≠ i := fun p hp => by
        rcases List.mem_append.1 hp with hp | hp
        · have := hlo p hp; omega
        · have := List.rel_of_pairwise_cons (List.pairwise_append.1 hsrt).2.1 hp
          have : i < p.2 := this
          omega
      rw [getD_listed hls]
      constructor
      · intro hp
        have hpl : p ∈ l := by
          rw [hsplit]
          rcases List.mem_append.1 hp with hp | hp
          · exact List.mem_append_left _ hp
          · exact List.mem_append_right _ (List.mem_cons_of_mem _ hp)
        obtain ⟨g1, g2⟩ := (h.mem p).1 hpl
        refine ⟨g1, ?_⟩
        rw [g2, Bool.false_or]
        have := hnd p hp
        simpa using this
      · rintro ⟨g1, g2⟩
        rw [Bool.or_eq_false_iff] at g2
        have hpl := (h.mem p).2 ⟨g1, g2.1⟩
        rw [hsplit] at hpl
        rcases List.mem_append.1 hpl with hp | hp
        · exact List.mem_append_left _ hp
        · rcases List.mem_cons.1 hp with rfl | hp
          · simp at g2
          · exact List.mem_append_right _ hp
    have hsrt' : (pre ++ post).Pairwise fun p q => p.2 < q.2 := by
      refine List.Pairwise.sublist ?_ hsrt
      exact List.Sublist.append (List.Sublist.refl _) (List.sublist_cons_self _ _)
    have hdead' : Dead T all.toList (unOf all.toList) (pre ++ post) σ' := fun p hp hfl => by
      obtain ⟨g1, g2⟩ := (hmem' p).1 hp
      have hpl : p ∈ pre ++ (o, i) :: post := by
        rcases List.mem_append.1 hp with hp | hp
        · exact List.mem_append_left _ hp
        · exact List.mem_append_right _ (List.mem_cons_of_mem _ hp)
      have hne : p.2 ≠ i := fun e => by rw [getD_listed hls, e] at g2; simp at g2
      by_cases hds : p.1.dst = none
      · -- no slot of its own: it is quiet and floats, but such a one has a slot
        refine hstep.dead (fun e' => ?_) (hdead p hpl hfl)
        exfalso
        unfold floats at hfl
        rw [Bool.and_eq_true, List.any_eq_true] at hfl
        obtain ⟨hq, ⟨x, q⟩, hx, hxx⟩ := hfl
        have hxx : (memN ((unOf all.toList).getD p.2 []) q && !isQuiet T x) = true := hxx
        rw [Bool.and_eq_true, memN_iff] at hxx
        have hxq : all.toList[q]? = some x := by rw [List.mem_zipIdx_iff_getElem?] at hx; exact hx
        have hun : q ≠ p.2 ∧ q ∉ (befores all.toList).getD p.2 [] ∧ p.2 ∉ (befores all.toList).getD q [] := by
          have := hxx.1
          unfold unOf at this
          simp only [List.getD_eq_getElem?_getD, List.getElem?_map] at this
          have hz : all.toList.zipIdx[p.2]? = some (p.1, p.2) := by rw [List.getElem?_zipIdx, g1]; simp
          rw [hz] at this
          simp only [Option.map_some, Option.getD_some, List.mem_map] at this
          obtain ⟨z, hz1, hz2⟩ := this
          obtain ⟨_, hz3⟩ := List.mem_filter.1 hz1
          subst hz2
          have hz3 : (!Nat.beq z.2 p.2 && !memN (((befores all.toList)[p.2]?).getD []) z.2 && !memN (((befores all.toList)[z.2]?).getD []) p.2) = true := hz3
          simp only [Bool.and_eq_true, Bool.not_eq_true', memN_false] at hz3
          refine ⟨fun e => by rw [beq_nat.2 e] at hz3; simp at hz3, ?_, ?_⟩
          · rw [List.getD_eq_getElem?_getD]; exact hz3.1.2
          · rw [List.getD_eq_getElem?_getD]; exact hz3.2
        rcases Nat.lt_or_ge q p.2 with hl | hl
        · obtain ⟨d1, d2, ap⟩ := ap_of hr hl hxq g1 hun.2.1
          rw [ap.dy] at hds; cases hds
        · obtain ⟨d1, d2, ap⟩ := ap_of hr (by omega : p.2 < q) g1 hxq hun.2.2
          rw [ap.dx] at hds; cases hds
      · obtain ⟨d, hd⟩ : ∃ d, p.1.dst = some d := Option.ne_none_iff_exists'.1 hds
        have e : dstOf p.1 = d := by unfold dstOf; rw [hd]; rfl
        refine hstep.dead (fun e' => ?_) (hdead p hpl hfl)
        rw [e] at e'
        rcases Nat.lt_or_ge p.2 i with hl | hl
        · exact hr.ne p.2 i p.1 o hl g1 hoL d hd e'
        · exact hr.ne i p.2 o p.1 (by omega) hoL g1 d e' hd
    have hinv : ∀ {a' w' ow'}, Sim T.globL U w0 F0 (σF σ' fs') a' w' ow' → InvF P T U w0 F0 call all K r (listed.setIfInBounds i true) a' w' (pre ++ post) σ' fs' (e :: lg) ow' := fun hs =>
      ⟨by simpa using h.size, hmem', hsrt', hcl, hrest, hdead', hs⟩
    unfold wpOp
    rw [ho]
    simp only
    rcases hstepSim with ⟨hw, hd⟩ | ⟨hw, hs⟩
    · rw [if_pos hw]
      exact .inl (hd _ _ fun a' w' ow' hs => drawn_float hT hC hL hr hpn hQ fuel _ a' w' _ _ _ _ ow' hfuel (hinv hs))
    · rw [if_neg (by rw [hw]; simp)]
      exact drawn_float hT hC hL hr hpn hQ fuel _ _ w _ _ _ _ ow hfuel (hinv hs)
end
end Go.Proofs.YtmddfhjgdhjmkaaDoor.VM
