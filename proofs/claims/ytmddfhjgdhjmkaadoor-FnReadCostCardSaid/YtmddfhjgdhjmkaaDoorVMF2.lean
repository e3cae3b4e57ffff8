/- The abstract machine and the memory: drawn regions in which a call floats among quiet operations: steps, and two steps in the other order. -/
import Derived.Test.YtmddfhjgdhjmkaaDoorVMF1
set_option linter.unusedVariables false
set_option linter.unusedSimpArgs false
namespace Go.Proofs.YtmddfhjgdhjmkaaDoor.VM

abbrev Fs := List (Nat × Option Nat)
def entQ (T : TT) (i : Nat) (o : Oper) (σ : St) (x : V) (ob : Ob) (s : Fs) : Ent := ⟨i, opKeys T σ o, [], x, isNone ob && s.isEmpty, false⟩
def entL (T : TT) (i : Nat) (o : Oper) (σ : St) : Ent := ⟨i, [], opKeys T σ o, .dead, true, true⟩
def entS (i : Nat) : Ent := ⟨i, [], [], .tup [], true, false⟩
/-- an operation that is not loud: what it puts -/
structure QE (T : TT) (call : FuncId → List V → Option Res) (ops : List Oper) (un : List (List Nat)) (i : Nat) (o : Oper) (σ : St) (lg : List Ent) (d : Nat) (x : V) (ob : Ob) (s : Fs) (e : Ent) : Prop where
  dst : o.dst = some d
  run : (wantB ops σ o = some true ∧ isQuiet T o = true ∧ keysOk T σ o = true ∧ disj (opKeys T σ o) (ndOf ops un i) = true ∧ qv T call (val T σ) (lkE σ) d o K3 = some (x, ob, s) ∧
      (isNone ob = true ∨ isNone (σ.ob.getD d .none) = true) ∧ e = entQ T i o σ x ob s ∧ okLog un e lg = true) ∨
    (wantB ops σ o = some false ∧ x = .tup [] ∧ ob = .none ∧ s = [] ∧ e = entS i)
structure LE (T : TT) (call : FuncId → List V → Option Res) (ops : List Oper) (un : List (List Nat)) (i : Nat) (o : Oper) (σ : St) (fs : Fs) (lg : List Ent) (σ' : St) (e : Ent) : Prop where
  want : wantB ops σ o = some true
  loud : isQuiet T o = false
  ent : e = entL T i o σ
  log : okLog un e lg = true
  tr : (un.getD i []).isEmpty = true ∨ (σ.sl.all (triv (opKeys T σ o)) = true ∧ (o.op.operands.toList.all fun x => noDt (val T σ x)) = true)
  out : exLoud T call ⟨σ.sl, freeze σ.ob fs⟩ o some = some σ'
inductive Step (T : TT) (call : FuncId → List V → Option Res) (ops : List Oper) (un : List (List Nat)) (i : Nat) (o : Oper) (σ : St) (fs : Fs) (lg : List Ent) : St → Fs → Ent → Prop
  | quiet {d : Nat} {x : V} {ob : Ob} {s : Fs} {e : Ent} (h : QE T call ops un i o σ lg d x ob s e) : Step T call ops un i o σ fs lg (putN σ d x ob) (fs ++ s) e
  | loud {σ' : St} {e : Ent} (h : LE T call ops un i o σ fs lg σ' e) : Step T call ops un i o σ fs lg σ' [] e

section
variable {T : TT} {call : FuncId → List V → Option Res} {ops : List Oper} {un : List (List Nat)} {R : Type} {r : R}

theorem exG_iff {σ : St} {o : Oper} {run skip : St → Option R} : exG ops σ o run skip = some r ↔ (wantB ops σ o = some true ∧ run σ = some r) ∨ (wantB ops σ o = some false ∧ skip σ = some r) := by
  unfold exG wantB
  cases hg : o.guard with
  | none => simp
  | some q =>
    obtain ⟨j, want⟩ := q
    simp only
    cases hgd : (ops[j]?).bind (·.dst) with
    | none => simp
    | some g =>
      simp only
      cases hun : isUndef (σ.sl.getD g .dead) with
      | true =>
        have hx : σ.sl.getD g .dead = .tup [] := by
          cases hv : σ.sl.getD g .dead <;> rw [hv] at hun <;> first | (cases hun; done) | skip
          rename_i vs
          cases vs <;> first | rfl | cases hun
        rw [hx]
        simp
      | false =>
        simp only [cond_false]
        cases hv : σ.sl.getD g .dead with
        | sc u =>
          cases u with
          | bool t =>
            have e : (⟨σ.sl.set g (.sc (.bool t)), σ.ob⟩ : St) = σ := by rw [set_same hv]
            cases t
            · show (bif (false == want) then run ⟨σ.sl.set g (.sc (.bool false)), σ.ob⟩ else skip ⟨σ.sl.set g (.sc (.bool false)), σ.ob⟩) = some r ↔ _
              rw [e]
              cases want <;> simp
            · show (bif (true == want) then run ⟨σ.sl.set g (.sc (.bool true)), σ.ob⟩ else skip ⟨σ.sl.set g (.sc (.bool true)), σ.ob⟩) = some r ↔ _
              rw [e]
              cases want <;> simp
          | _ => simp [unB]
        | tup vs =>
          cases vs with
          | nil => rw [hv] at hun; cases hun
          | cons => simp [unB]
        | _ => simp [unB]

theorem exD1_iff {i : Nat} {o : Oper} {σ : St} {fs : Fs} {lg : List Ent} {K : St → Fs → List Ent → Option R} (hw : wantB ops σ o = some true) :
    exD1 T call ops un i o σ fs lg K = some r ↔ ∃ σ' fs' e, Step T call ops un i o σ fs lg σ' fs' e ∧ K σ' fs' (e :: lg) = some r := by
  unfold exD1
  cases hq : isQuiet T o with
  | true =>
    simp only [cond_true]
    constructor
    · intro h
      obtain ⟨hk, h⟩ := bif_some h
      rw [Bool.and_eq_true] at hk
      split at h
      · rename_i d hd
        obtain ⟨x, ob, s, h, hqv⟩ := qv_nat h
        obtain ⟨h0, h⟩ := bif_some h
        rw [Bool.and_eq_true, Bool.or_eq_true] at h0
        exact ⟨_, _, _, .quiet ⟨hd, .inl ⟨hw, hq, hk.1, hk.2, hqv, h0.1, rfl, h0.2⟩⟩, h⟩
      · cases h
    · rintro ⟨σ', fs', e, hs, h⟩
      cases hs with
      | quiet hqe =>
        rename_i d x ob s
        obtain ⟨hd, ⟨_, _, hk, hn, hv, h0, rfl, hl⟩ | ⟨hw', _⟩⟩ := hqe
        · rw [hk, hn, hd]
          simp only [Bool.and_self, cond_true]
          rw [qv_at hv]
          have : ((isNone ob || isNone (σ.ob.getD d .none)) && okLog un ⟨i, opKeys T σ o, [], x, isNone ob && s.isEmpty, false⟩ lg) = true := by
            rw [Bool.and_eq_true, Bool.or_eq_true]; exact ⟨h0, hl⟩
          rw [this]
          exact h
        · rw [hw] at hw'; cases hw'
      | loud hle => have := hle.loud; rw [hq] at this; cases this
  | false =>
    simp only [cond_false]
    constructor
    · intro h
      obtain ⟨h0, h⟩ := bif_some h
      obtain ⟨σ', h1, h2⟩ := loud_some h
      rw [Bool.and_eq_true, Bool.or_eq_true, Bool.and_eq_true] at h0
      exact ⟨_, _, _, .loud ⟨hw, hq, rfl, h0.1, h0.2, h1⟩, h2⟩
    · rintro ⟨σ', fs', e, hs, h⟩
      cases hs with
      | quiet hqe =>
        obtain ⟨hd, ⟨_, hq', _⟩ | ⟨hw', _⟩⟩ := hqe
        · rw [hq] at hq'; cases hq'
        · rw [hw] at hw'; cases hw'
      | loud hle =>
        obtain ⟨_, _, rfl, hl, ht, ho⟩ := hle
        have : (okLog un ⟨i, [], opKeys T σ o, .dead, true, true⟩ lg && ((un.getD i []).isEmpty || (σ.sl.all (triv (opKeys T σ o)) && o.op.operands.toList.all fun x => noDt (val T σ x)))) = true := by
          rw [Bool.and_eq_true, Bool.or_eq_true, Bool.and_eq_true]; exact ⟨hl, ht⟩
        rw [this]
        simp only [cond_true]
        rw [loud_at ho]
        exact h

theorem exD_cons {i : Nat} {o : Oper} {l : List (Oper × Nat)} {σ : St} {fs : Fs} {lg : List Ent} {K : St → Option R} :
    exD T call ops un ((o, i) :: l) σ fs lg K = some r ↔ ∃ σ' fs' e, Step T call ops un i o σ fs lg σ' fs' e ∧ exD T call ops un l σ' fs' (e :: lg) K = some r := by
  show exG ops σ o (fun σ => exD1 T call ops un i o σ fs lg fun σ fs lg => exD T call ops un l σ fs lg K)
      (fun σ => match o.dst with | some d => exD T call ops un l ⟨σ.sl.set d (.tup []), σ.ob⟩ fs (⟨i, [], [], .tup [], true, false⟩ :: lg) K | none => none) = some r ↔ _
  rw [exG_iff]
  constructor
  · rintro (⟨hw, h⟩ | ⟨hw, h⟩)
    · exact (exD1_iff hw).1 h
    · split at h
      · rename_i d hd
        refine ⟨putN σ d (.tup []) .none, fs ++ [], _, .quiet ⟨hd, .inr ⟨hw, rfl, rfl, rfl, rfl⟩⟩, ?_⟩
        rw [List.append_nil]
        exact h
      · cases h
  · rintro ⟨σ', fs', e, hs, h⟩
    by_cases hw : wantB ops σ o = some true
    · exact .inl ⟨hw, (exD1_iff hw).2 ⟨σ', fs', e, hs, h⟩⟩
    · cases hs with
      | quiet hqe =>
        obtain ⟨hd, ⟨hw', _⟩ | ⟨hw', rfl, rfl, rfl, rfl⟩⟩ := hqe
        · exact absurd hw' hw
        · refine .inr ⟨hw', ?_⟩
          rw [hd]
          rw [List.append_nil] at h
          exact h
      | loud hle => exact absurd hle.want hw

/-! ### the order of what is frozen and of the log does not matter -/
theorem frzK_comm (a : Fs) (k : Nat) : ∀ (b : Fs) (o : Ob), frzK a k (frzK b k o) = frzK b k (frzK a k o)
  | [], o => rfl
  | (k', c) :: b, o => by
    show frzK a k (frzK b k (if k' = k then frzO c o else o)) = frzK b k (if k' = k then frzO c (frzK a k o) else frzK a k o)
    rw [frzK_comm a k b]
    split
    · rw [frzK_push]
    · rfl
theorem freeze_same {fs fs' : Fs} (h : ∀ q, q ∈ fs ↔ q ∈ fs') (ob : List Ob) : freeze ob fs = freeze ob fs' := by
  have hl : (freeze ob fs).length = (freeze ob fs').length := by rw [freeze_length, freeze_length]
  have hk : ∀ k, (freeze ob fs).getD k .none = (freeze ob fs').getD k .none := fun k => by
    rw [getD_freeze, getD_freeze]
    have h1 := frzK_sub (s := fs) (k := k) (s' := fs') (fun q hq => (h q).2 hq) (ob.getD k .none)
    have h2 := frzK_sub (s := fs') (k := k) (s' := fs) (fun q hq => (h q).1 hq) (ob.getD k .none)
    rw [← h1, frzK_comm, h2]
  refine List.ext_getElem hl fun k h1 h2 => ?_
  have := hk k
  rw [List.getD_eq_getElem?_getD, List.getD_eq_getElem?_getD, List.getElem?_eq_getElem h1, List.getElem?_eq_getElem h2] at this
  exact this
theorem okLog_sub {e : Ent} {lg lg' : List Ent} (h : ∀ q ∈ lg', q ∈ lg) (ho : okLog un e lg = true) : okLog un e lg' = true := by
  unfold okLog at *
  rw [List.all_eq_true] at *
  exact fun q hq => ho q (h q hq)
theorem Step.same {i : Nat} {o : Oper} {σ σ' : St} {fs fs' f : Fs} {lg lg' : List Ent} {e : Ent} (hf : ∀ q, q ∈ fs ↔ q ∈ fs') (hl : ∀ q, q ∈ lg ↔ q ∈ lg') (h : Step T call ops un i o σ fs lg σ' f e) :
    ∃ f', Step T call ops un i o σ fs' lg' σ' f' e ∧ ∀ q, q ∈ f ↔ q ∈ f' := by
  cases h with
  | quiet h =>
    rename_i d x ob s
    refine ⟨fs' ++ s, .quiet ⟨h.dst, h.run.imp (fun ⟨h1, h2, h3, h4, h5, h6, h7, h8⟩ => ⟨h1, h2, h3, h4, h5, h6, h7, okLog_sub (fun q hq => (hl q).2 hq) h8⟩) id⟩, fun q => ?_⟩
    rw [List.mem_append, List.mem_append, hf]
  | loud h =>
    obtain ⟨h1, h2, h3, h4, h5, h6⟩ := h
    refine ⟨[], .loud ⟨h1, h2, h3, okLog_sub (fun q hq => (hl q).2 hq) h4, h5, ?_⟩, fun q => Iff.rfl⟩
    rw [← freeze_same hf]; exact h6
theorem exD_same {K : St → Option R} : ∀ (l : List (Oper × Nat)) (σ : St) (fs fs' : Fs) (lg lg' : List Ent), (∀ q, q ∈ fs ↔ q ∈ fs') → (∀ q, q ∈ lg ↔ q ∈ lg') → exD T call ops un l σ fs lg K = some r → exD T call ops un l σ fs' lg' K = some r
  | [], σ, fs, fs', lg, lg', hf, _, h => by
    have h : K ⟨σ.sl, freeze σ.ob fs⟩ = some r := h
    show K ⟨σ.sl, freeze σ.ob fs'⟩ = some r
    rw [← freeze_same hf]; exact h
  | (o, i) :: l, σ, fs, fs', lg, lg', hf, hl, h => by
    obtain ⟨σ', f, e, h1, h2⟩ := exD_cons.1 h
    obtain ⟨f', h3, h4⟩ := h1.same hf hl
    exact exD_cons.2 ⟨σ', f', e, h3, exD_same l σ' f f' _ _ h4 (fun q => by rw [List.mem_cons, List.mem_cons, hl]) h2⟩

/-! ### two steps in the other order -/
theorem disj_iff {a b : List Nat} : disj a b = true ↔ ∀ k ∈ a, k ∉ b := by
  unfold disj
  rw [List.all_eq_true]
  refine ⟨fun h k hk => ?_, fun h k hk => ?_⟩
  · have := h k hk
    rw [Bool.not_eq_true', memN_false] at this
    exact this
  · rw [Bool.not_eq_true', memN_false]; exact h k hk
theorem mem_reads {o : Oper} {y : Operand} {t : Nat} (hy : y ∈ o.op.operands.toList) (e : y = .tmp t) : t ∈ readsOf ops o :=
  List.mem_append_left _ (List.mem_filterMap.2 ⟨y, hy, by rw [e]⟩)
theorem val_reads {o : Oper} {σ σ' : St} (h : ∀ t ∈ readsOf ops o, σ.sl.getD t .dead = σ'.sl.getD t .dead) : ∀ y ∈ o.op.operands.toList, val T σ y = val T σ' y := fun y hy => val_eq fun t e => h t (mem_reads hy e)
theorem opKeys_reads {o : Oper} {σ σ' : St} (h : ∀ t ∈ readsOf ops o, σ.sl.getD t .dead = σ'.sl.getD t .dead) : opKeys T σ o = opKeys T σ' o := by
  unfold opKeys
  have hv := val_reads (T := T) h
  have : ∀ l : List Operand, (∀ y ∈ l, val T σ y = val T σ' y) → (l.flatMap fun x => keysN (val T σ x)) = l.flatMap fun x => keysN (val T σ' x) := by
    intro l
    induction l with
    | nil => exact fun _ => rfl
    | cons y l ih =>
      intro h
      rw [List.flatMap_cons, List.flatMap_cons, h y (List.mem_cons_self ..), ih fun z hz => h z (List.mem_cons_of_mem _ hz)]
  exact this _ hv
theorem want_reads {o : Oper} {σ σ' : St} (h : ∀ t ∈ readsOf ops o, σ.sl.getD t .dead = σ'.sl.getD t .dead) : wantB ops σ o = wantB ops σ' o := by
  unfold wantB
  cases hg : o.guard with
  | none => rfl
  | some q =>
    obtain ⟨j, want⟩ := q
    simp only
    cases hgd : (ops[j]?).bind (·.dst) with
    | none => rfl
    | some g =>
      simp only
      rw [h g (List.mem_append_right _ (by rw [hg]; simp only; rw [hgd]; simp))]
theorem isNone_eO {o : Ob} : isNone (eO o) = isNone o := by cases o <;> rfl
/-- what is not loud puts the same where what it looks at is the same -/
theorem QE.move {i : Nat} {o : Oper} {σ σ' : St} {lg lg' : List Ent} {d : Nat} {x : V} {ob : Ob} {s : Fs} {e : Ent} (h : QE T call ops un i o σ lg d x ob s e)
    (hv : ∀ t ∈ readsOf ops o, σ.sl.getD t .dead = σ'.sl.getD t .dead)
    (hr : disj (opKeys T σ o) (ndOf ops un i) = true → e = entQ T i o σ x ob s → okLog un e lg = true → (∀ k ∈ opKeys T σ o, eO (σ.ob.getD k .none) = eO (σ'.ob.getD k .none)) ∧ okLog un e lg' = true)
    (h0 : isNone ob = true ∨ isNone (σ'.ob.getD d .none) = isNone (σ.ob.getD d .none)) : QE T call ops un i o σ' lg' d x ob s e := by
  refine ⟨h.dst, ?_⟩
  rcases h.run with ⟨h1, h2, h3, h4, h5, h6, h7, h8⟩ | ⟨h1, h2⟩
  · obtain ⟨hob, hl⟩ := hr h4 h7 h8
    refine .inl ⟨by rw [← want_reads hv]; exact h1, h2, ?_, by rw [← opKeys_reads hv]; exact h4, ?_, ?_, ?_, hl⟩
    · unfold keysOk at h3 ⊢
      rw [List.all_eq_true] at h3 ⊢
      intro y hy
      have := h3 y hy
      rw [List.all_eq_true] at this ⊢
      rw [← val_reads hv y hy]
      intro k hk
      rw [← isNone_eO, ← hob k (List.mem_flatMap.2 ⟨y, hy, hk⟩), isNone_eO]
      exact this k hk
    · rw [← h5, ← qv_v (v := val T σ) (v' := val T σ') (fun y hy => val_reads hv y (by simpa using hy))]
      refine qv_lk (fun y hy k c hkc => ?_) K3
      exact (hob k (List.mem_flatMap.2 ⟨y, by simpa using hy, keysN_of hkc⟩)).symm
    · rcases h6 with h6 | h6
      · exact .inl h6
      · rcases h0 with h0 | h0
        · exact .inl h0
        · exact .inr (by rw [h0]; exact h6)
    · rw [h7]; unfold entQ; rw [opKeys_reads hv]
  · exact .inr ⟨by rw [← want_reads hv]; exact h1, h2⟩

/-- two operations that stand in no order: what the text says of them -/
structure Ap (T : TT) (ops : List Oper) (un : List (List Nat)) (i j : Nat) (x y : Oper) (d1 d2 : Nat) : Prop where
  dx : x.dst = some d1
  dy : y.dst = some d2
  ne : d1 ≠ d2
  rx : d2 ∉ readsOf ops x
  ry : d1 ∉ readsOf ops y
  ij : j ∈ un.getD i []
  ji : i ∈ un.getD j []
  ni : d2 ∈ ndOf ops un i
  nj : d1 ∈ ndOf ops un j
  q : (isQuiet T x = true ∧ isQuiet T y = true) ∨ (isQuiet T x = true ∧ isQuiet T y = false ∧ isIo y = true) ∨ (isQuiet T x = false ∧ isIo x = true ∧ isQuiet T y = true)
theorem okEnt_ld {e e' : Ent} (hm : e'.i ∈ un.getD e.i []) (h : okEnt un e e' = true) (hl : (e.ld || e'.ld) = true) :
    e.pl = true ∧ e'.pl = true ∧ (∀ k ∈ e.us, k ∉ e'.ts) ∧ (∀ k ∈ e'.us, k ∉ e.ts) ∧ triv e'.ts e.x = true ∧ triv e.ts e'.x = true := by
  unfold okEnt at h
  rw [memN_iff.2 hm, hl] at h
  simp only [Bool.not_true, Bool.false_or, Bool.and_eq_true, disj_iff] at h
  exact ⟨h.1.1.1.1.1, h.1.1.1.1.2, h.1.1.1.2, h.1.1.2, h.1.2, h.2⟩
theorem okEnt_mk {e e' : Ent} (h : (e.ld || e'.ld) = true → e.pl = true ∧ e'.pl = true ∧ (∀ k ∈ e.us, k ∉ e'.ts) ∧ (∀ k ∈ e'.us, k ∉ e.ts) ∧ triv e'.ts e.x = true ∧ triv e.ts e'.x = true) : okEnt un e e' = true := by
  unfold okEnt
  cases hl : (e.ld || e'.ld) with
  | false => simp
  | true =>
    obtain ⟨h1, h2, h3, h4, h5, h6⟩ := h hl
    rw [h1, h2, disj_iff.2 h3, disj_iff.2 h4, h5, h6]
    simp
theorem okEnt_swap {e e' : Ent} (hm : e'.i ∈ un.getD e.i []) (h : okEnt un e e' = true) : okEnt un e' e = true := okEnt_mk fun hl => by
  rw [Bool.or_comm] at hl
  obtain ⟨h1, h2, h3, h4, h5, h6⟩ := okEnt_ld hm h hl
  exact ⟨h2, h1, h4, h3, h6, h5⟩
theorem okLog_cons {e e' : Ent} {lg : List Ent} : okLog un e (e' :: lg) = true ↔ okEnt un e e' = true ∧ okLog un e lg = true := by
  unfold okLog; rw [List.all_cons, Bool.and_eq_true]
theorem QE.log {i : Nat} {o : Oper} {σ : St} {lg : List Ent} {d : Nat} {x : V} {ob : Ob} {s : Fs} {e e' : Ent} (h : QE T call ops un i o σ (e' :: lg) d x ob s e) : okEnt un e e' = true ∨ e = entS i := by
  rcases h.run with ⟨_, _, _, _, _, _, _, h8⟩ | ⟨_, _, _, _, h⟩
  · exact .inl (okLog_cons.1 h8).1
  · exact .inr h
theorem QE.ei {i : Nat} {o : Oper} {σ : St} {lg : List Ent} {d : Nat} {x : V} {ob : Ob} {s : Fs} {e : Ent} (h : QE T call ops un i o σ lg d x ob s e) : e.i = i ∧ e.ld = false ∧ e.ts = [] ∧ e.x = x ∧ (e.pl = true → ob = .none ∧ s = []) ∧ (isQuiet T o = true → e.us = opKeys T σ o ∨ e = entS i) := by
  rcases h.run with ⟨_, _, _, _, _, _, rfl, _⟩ | ⟨_, rfl, rfl, rfl, rfl⟩
  · refine ⟨rfl, rfl, rfl, rfl, fun hp => ?_, fun _ => .inl rfl⟩
    have hp : (isNone ob && s.isEmpty) = true := hp
    rw [Bool.and_eq_true, isNone_iff, List.isEmpty_iff] at hp
    exact hp
  · exact ⟨rfl, rfl, rfl, rfl, fun _ => ⟨rfl, rfl⟩, fun _ => .inr rfl⟩
theorem ex_two {a b c : Fs} : ∀ q, q ∈ a ++ b ++ c ↔ q ∈ a ++ c ++ b := fun q => by
  simp only [List.mem_append]
  constructor
  · rintro ((h | h) | h)
    · exact .inl (.inl h)
    · exact .inr h
    · exact .inl (.inr h)
  · rintro ((h | h) | h)
    · exact .inl (.inl h)
    · exact .inr h
    · exact .inl (.inr h)
theorem map_triv {g : V → V} {K : List Nat} (hg : ∀ v, triv K v = true → g v = v) (hd : g .dead = .dead) {l : List V} (h : ∀ t, triv K (l.getD t .dead) = true) : l.map g = l := by
  refine map_id_of fun v hv => hg v ?_
  obtain ⟨t, ht, rfl⟩ := List.getElem_of_mem hv
  have := h t
  rw [List.getD_eq_getElem?_getD, List.getElem?_eq_getElem ht] at this
  exact this
theorem all_getD {K : List Nat} {l : List V} : l.all (triv K) = true ↔ ∀ t, triv K (l.getD t .dead) = true := by
  rw [List.all_eq_true]
  constructor
  · intro h t
    rw [List.getD_eq_getElem?_getD]
    cases ht : l[t]? with
    | none => rfl
    | some v => exact h v (List.mem_of_getElem? ht)
  · intro h v hv
    obtain ⟨t, ht, rfl⟩ := List.getElem_of_mem hv
    have := h t
    rw [List.getD_eq_getElem?_getD, List.getElem?_eq_getElem ht] at this
    exact this
theorem putN_none {σ : St} {d : Nat} {x : V} : putN σ d x .none = ⟨σ.sl.set d x, σ.ob⟩ := rfl
theorem getD_set_ne {l : List V} {d t : Nat} {x : V} (h : t ≠ d) : (l.set d x).getD t .dead = l.getD t .dead := by rw [getD_set_slots, if_neg fun e => h e.1]
theorem setN_ne {l : List Ob} {d k : Nat} {ob : Ob} (h : k ≠ d) : (setN l d ob).getD k .none = l.getD k .none := by
  unfold setN
  split
  · rfl
  · exact getD_set_ob_other _ _ h
theorem not_empty {l : List Nat} {a : Nat} (h : a ∈ l) : l.isEmpty = false := by
  cases l with
  | nil => cases h
  | cons => rfl

theorem QE.move_lg {i : Nat} {o : Oper} {σ : St} {lg lg' : List Ent} {d : Nat} {x : V} {ob : Ob} {s : Fs} {e : Ent} (h : QE T call ops un i o σ lg d x ob s e) (hl : okLog un e lg = true → okLog un e lg' = true) : QE T call ops un i o σ lg' d x ob s e :=
  h.move (fun _ _ => rfl) (fun _ _ h => ⟨fun _ _ => rfl, hl h⟩) (.inr rfl)

theorem swap {i j : Nat} {x y : Oper} {d1 d2 : Nat} {σ σ1 σ2 : St} {fs fs1 fs2 : Fs} {lg : List Ent} {e1 e2 : Ent} (hap : Ap T ops un i j x y d1 d2)
    (hdead : isQuiet T y = false → σ.sl.getD d1 .dead = .dead) (h1 : Step T call ops un i x σ fs lg σ1 fs1 e1) (h2 : Step T call ops un j y σ1 fs1 (e1 :: lg) σ2 fs2 e2) :
    ∃ σ1' fs1' fs2', Step T call ops un j y σ fs lg σ1' fs1' e2 ∧ Step T call ops un i x σ1' fs1' (e2 :: lg) σ2 fs2' e1 ∧ ∀ q, q ∈ fs2 ↔ q ∈ fs2' := by
  cases h1 with
  | quiet q1 =>
    rename_i d x1 ob1 s1
    have ed : d = d1 := by have := q1.dst; rw [hap.dx] at this; cases this; rfl
    subst ed
    obtain ⟨i1, l1, t1, v1, p1, u1⟩ := q1.ei
    cases h2 with
    | quiet q2 =>
      rename_i d' x2 ob2 s2
      have ed : d' = d2 := by have := q2.dst; rw [hap.dy] at this; cases this; rfl
      subst ed
      obtain ⟨i2, l2, t2, v2, p2, u2⟩ := q2.ei
      have hent : okEnt un e1 e2 = true := okEnt_mk fun hl => by rw [l1, l2] at hl; cases hl
      have q2' : QE T call ops un j y σ lg d' x2 ob2 s2 e2 := by
        refine q2.move (fun t ht => getD_set_ne fun e => hap.ry (e ▸ ht)) (fun hd _ hl => ⟨fun k hk => ?_, (okLog_cons.1 hl).2⟩) (.inr ?_)
        · have hkd : k ≠ d := fun e => disj_iff.1 hd k hk (e ▸ hap.nj)
          show eO ((setN σ.ob d ob1).getD k .none) = _
          rw [setN_ne hkd]
        · show isNone (σ.ob.getD d' .none) = isNone ((setN σ.ob d ob1).getD d' .none)
          rw [setN_ne (fun e => hap.ne e.symm)]
      have q1' : QE T call ops un i x (putN σ d' x2 ob2) (e2 :: lg) d x1 ob1 s1 e1 := by
        refine q1.move (fun t ht => (getD_set_ne fun (e : t = d') => hap.rx (e ▸ ht)).symm) (fun hd _ hl => ⟨fun k hk => ?_, okLog_cons.2 ⟨hent, hl⟩⟩) (.inr ?_)
        · have hkd : k ≠ d' := fun e => disj_iff.1 hd k hk (e ▸ hap.ni)
          show _ = eO ((setN σ.ob d' ob2).getD k .none)
          rw [setN_ne hkd]
        · show isNone ((setN σ.ob d' ob2).getD d .none) = isNone (σ.ob.getD d .none)
          rw [setN_ne hap.ne]
      have := Step.quiet (T := T) (call := call) (fs := fs ++ s2) q1'
      rw [putN_comm hap.ne] 
      exact ⟨_, _, _, .quiet q2', this, ex_two⟩
    | loud g2 =>
      have hyq := g2.loud
      have hio : isIo y = true := by
        rcases hap.q with ⟨_, h⟩ | ⟨_, _, h⟩ | ⟨_, _, h⟩
        · rw [hyq] at h; cases h
        · exact h
        · rw [hyq] at h; cases h
      have ei2 : e2.i = j := by rw [g2.ent]; rfl
      have el2 : e2.ld = true := by rw [g2.ent]; rfl
      have hlog := okLog_cons.1 g2.log
      have hij : e1.i ∈ un.getD e2.i [] := by rw [i1, ei2]; exact hap.ji
      obtain ⟨_, hpl, _, hus, _, htr⟩ := okEnt_ld hij hlog.1 (by rw [el2]; rfl)
      obtain ⟨rfl, rfl⟩ := p1 hpl
      have hvy : ∀ t ∈ readsOf ops y, (putN σ d x1 .none).sl.getD t .dead = σ.sl.getD t .dead := fun t ht => getD_set_ne fun e => hap.ry (e ▸ ht)
      have hK : opKeys T (putN σ d x1 .none) y = opKeys T σ y := opKeys_reads hvy
      have ets : e2.ts = opKeys T σ y := by rw [g2.ent]; exact hK
      have ev2 : e2 = entL T j y σ := by rw [g2.ent]; unfold entL; rw [hK]
      rw [ets] at hus htr
      rw [v1] at htr
      obtain ⟨hall, hnd⟩ := g2.tr.resolve_left (by rw [not_empty hap.ji]; simp)
      rw [hK, all_getD] at hall
      have hnd' : ∀ z ∈ y.op.operands.toList, noDt (val T (putN σ d x1 .none) z) = true := List.all_eq_true.1 hnd
      have hout := g2.out
      have hfs : fs ++ [] = fs := List.append_nil _
      rw [hfs] at hout
      obtain ⟨dd, g, xd, ob', s1, s2, s3, s4, s5⟩ := io_shape (σ := ⟨(putN σ d x1 .none).sl, freeze (putN σ d x1 .none).ob fs⟩) hio hnd' hout
      have edd : dd = d2 := by rw [hap.dy] at s1; cases s1; rfl
      subst edd
      have s2 : ∀ v, triv (opKeys T σ y) v = true → g v = v := fun v hv => s2 v (by rw [show opKeys T ⟨(putN σ d x1 .none).sl, freeze (putN σ d x1 .none).ob fs⟩ y = opKeys T σ y from hK]; exact hv)
      have s4 : ∀ k, k ∉ opKeys T σ y → ob'.getD k .none = (freeze σ.ob fs).getD k .none := fun k hk => s4 k (by rw [show opKeys T ⟨(putN σ d x1 .none).sl, freeze (putN σ d x1 .none).ob fs⟩ y = opKeys T σ y from hK]; exact hk)
      have hsl : ∀ t, triv (opKeys T σ y) (σ.sl.getD t .dead) = true := fun t => by
        by_cases ht : t = d
        · subst ht; rw [hdead hyq]; rfl
        · have := hall t
          rw [show (putN σ d x1 .none).sl = σ.sl.set d x1 from rfl, getD_set_ne ht] at this
          exact this
      have o1 := s5 (putN σ d x1 .none).sl (fun _ _ => rfl) St some
      rw [hout, map_triv s2 s3 hall] at o1
      have o2 := s5 σ.sl (fun z hz => (val_reads (T := T) (σ := putN σ d x1 .none) (σ' := σ) hvy z hz).symm) St some
      rw [map_triv s2 s3 hsl] at o2
      simp only [Option.some.injEq] at o1
      subst o1
      have q1' : QE T call ops un i x ⟨σ.sl.set dd xd, ob'⟩ (e2 :: lg) d x1 .none [] e1 := by
        refine q1.move (fun t ht => (getD_set_ne fun (e : t = dd) => hap.rx (e ▸ ht)).symm) (fun _ he hl => ⟨fun k hk => ?_, okLog_cons.2 ⟨okEnt_swap hij hlog.1, hl⟩⟩) (.inl rfl)
        have hku : k ∈ e1.us := by rw [he]; exact hk
        show _ = eO (ob'.getD k .none)
        rw [s4 k (hus k hku), getD_freeze, eO_frzK]
      refine ⟨⟨σ.sl.set dd xd, ob'⟩, [], [] ++ [], .loud ⟨by rw [← want_reads hvy]; exact g2.want, hyq, ev2, hlog.2, .inr ⟨all_getD.2 hsl, ?_⟩, o2⟩, ?_, fun q => Iff.rfl⟩
      · rw [List.all_eq_true] at hnd ⊢
        intro z hz
        rw [← val_reads (T := T) (σ := putN σ d x1 .none) (σ' := σ) hvy z hz]
        exact hnd z hz
      · have := Step.quiet (T := T) (call := call) (fs := []) q1'
        have e : putN ⟨σ.sl.set dd xd, ob'⟩ d x1 .none = ⟨(putN σ d x1 .none).sl.set dd xd, ob'⟩ := by
          show (⟨(σ.sl.set dd xd).set d x1, ob'⟩ : St) = ⟨(σ.sl.set d x1).set dd xd, ob'⟩
          rw [List.set_comm _ _ hap.ne]
        rw [e] at this
        exact this
  | loud g1 =>
    have hxq := g1.loud
    have hio : isIo x = true := by
      rcases hap.q with ⟨h, _⟩ | ⟨h, _⟩ | ⟨_, h, _⟩
      · rw [hxq] at h; cases h
      · rw [hxq] at h; cases h
      · exact h
    have hyq : isQuiet T y = true := by
      rcases hap.q with ⟨h, _⟩ | ⟨h, _⟩ | ⟨_, _, h⟩
      · rw [hxq] at h; cases h
      · rw [hxq] at h; cases h
      · exact h
    obtain ⟨hall, hnd⟩ := g1.tr.resolve_left (by rw [not_empty hap.ij]; simp)
    have hout := g1.out
    obtain ⟨dd, g, xd, ob', s1, s2, s3, s4, s5⟩ := io_shape (σ := ⟨σ.sl, freeze σ.ob fs⟩) hio (List.all_eq_true.1 hnd) hout
    have edd : dd = d1 := by rw [hap.dx] at s1; cases s1; rfl
    subst edd
    have s2 : ∀ v, triv (opKeys T σ x) v = true → g v = v := s2
    have s4 : ∀ k, k ∉ opKeys T σ x → ob'.getD k .none = (freeze σ.ob fs).getD k .none := s4
    have o1 := s5 σ.sl (fun _ _ => rfl) St some
    rw [hout, map_triv s2 s3 (all_getD.1 hall)] at o1
    simp only [Option.some.injEq] at o1
    subst o1
    have ei1 : e1.i = i := by rw [g1.ent]; rfl
    have el1 : e1.ld = true := by rw [g1.ent]; rfl
    have ets : e1.ts = opKeys T σ x := by rw [g1.ent]; rfl
    cases h2 with
    | loud g2 => have := g2.loud; rw [hyq] at this; cases this
    | quiet q2 =>
      rename_i d' x2 ob2 s2'
      have ed : d' = d2 := by have := q2.dst; rw [hap.dy] at this; cases this; rfl
      subst ed
      obtain ⟨i2, l2, t2, v2, p2, u2⟩ := q2.ei
      have hji : e1.i ∈ un.getD e2.i [] := by rw [i2, ei1]; exact hap.ji
      have hent : okEnt un e2 e1 = true := by
        rcases q2.log with h | h
        · exact h
        · refine okEnt_mk fun _ => ?_
          rw [h, g1.ent]
          exact ⟨rfl, rfl, fun k hk => by (cases hk), fun k hk => by (cases hk), rfl, rfl⟩
      obtain ⟨hpl, _, hus, _, htr, _⟩ := okEnt_ld hji hent (by rw [el1]; simp)
      obtain ⟨rfl, rfl⟩ := p2 hpl
      rw [ets] at hus htr
      rw [v2] at htr
      have q2' : QE T call ops un j y σ lg d' x2 .none [] e2 := by
        refine q2.move (fun t ht => getD_set_ne fun e => hap.ry (e ▸ ht)) (fun _ he hl => ⟨fun k hk => ?_, (okLog_cons.1 hl).2⟩) (.inl rfl)
        have hku : k ∈ e2.us := by rw [he]; exact hk
        show eO (ob'.getD k .none) = _
        rw [s4 k (hus k hku), getD_freeze, eO_frzK]
      have hvx : ∀ t ∈ readsOf ops x, σ.sl.getD t .dead = (σ.sl.set d' x2).getD t .dead := fun t ht => (getD_set_ne fun (e : t = d') => hap.rx (e ▸ ht)).symm
      have hK : opKeys T σ x = opKeys T ⟨σ.sl.set d' x2, σ.ob⟩ x := opKeys_reads (σ' := ⟨σ.sl.set d' x2, σ.ob⟩) hvx
      have hall' : ∀ t, triv (opKeys T σ x) ((σ.sl.set d' x2).getD t .dead) = true := fun t => by
        rw [getD_set_slots]
        split
        · exact htr
        · exact all_getD.1 hall t
      have o2 := s5 (σ.sl.set d' x2) (fun z hz => (val_reads (T := T) (σ := σ) (σ' := ⟨σ.sl.set d' x2, σ.ob⟩) hvx z hz).symm) St some
      rw [map_triv s2 s3 hall', List.set_comm _ _ (fun e => hap.ne e.symm)] at o2
      refine ⟨⟨σ.sl.set d' x2, σ.ob⟩, fs ++ [], [], .quiet q2', ?_, fun q => Iff.rfl⟩
      refine .loud ⟨?_, hxq, ?_, okLog_cons.2 ⟨okEnt_swap hji hent, g1.log⟩, .inr ⟨?_, ?_⟩, ?_⟩
      · rw [← want_reads (σ := σ) (σ' := ⟨σ.sl.set d' x2, σ.ob⟩) hvx]; exact g1.want
      · rw [g1.ent]; unfold entL; rw [hK]
      · rw [← hK]; exact all_getD.2 hall'
      · rw [List.all_eq_true] at hnd ⊢
        intro z hz
        rw [← val_reads (T := T) (σ := σ) (σ' := ⟨σ.sl.set d' x2, σ.ob⟩) hvx z hz]
        exact hnd z hz
      · rw [List.append_nil]
        exact o2
end
end Go.Proofs.YtmddfhjgdhjmkaaDoor.VM
