/- The abstract machine, part MC. -/
import Derived.Test.YtaapkkeogajfpaaDoorMB
import Derived.Deep.Upon
import Derived.Deep.AppendSrc
import Derived.ArgAppend
import Derived.Lib.AppendZerosOnto
/- The abstract machine and the memory: drawn regions in which a call floats among quiet operations: steps, and two steps in the other order. -/
set_option linter.unusedVariables false
set_option linter.unusedSimpArgs false
namespace Go.Proofs.YtaapkkeogajfpaaDoor.VM

abbrev Fs := List (Nat × Option Nat)
def entQ (T : TT) (i : Nat) (o : Oper) (σ : St) (x : V) (ob : Ob) (s : Fs) : Ent := ⟨i, opKeys T σ o, [], x, isNone ob && s.isEmpty, false⟩
def entL (T : TT) (i : Nat) (o : Oper) (σ : St) : Ent := ⟨i, [], opKeys T σ o, .dead, true, true⟩
def entS (i : Nat) : Ent := ⟨i, [], [], .tup [], true, false⟩
/-- an operation that is not loud: what it puts -/
structure QE (T : TT) (call : FuncId → List V → Option Res) (ops : List Oper) (un : List (List Nat)) (i : Nat) (o : Oper) (σ : St) (lg : List Ent) (d : Nat) (x : V) (ob : Ob) (s : Fs) (e : Ent) : Prop where
  dst : o.dst = some d
  run : (wantB ops σ o = some true ∧ isQuiet T o = true ∧ keysOk T σ o = true ∧ disj (opKeys T σ o) (ndOf ops un i) = true ∧ qv T call (val T σ) (lkE σ) d o K3 = some (x, ob, s) ∧
      (isNone ob = true ∨ isNone (σ.ob.getD d .none) = true) ∧ e = entQ T i o σ x ob s ∧ okLog un e lg = true) ∨
    (wantB ops σ o = some false ∧ x = .tup [] ∧ ob = .none ∧ s = [] ∧ e = entS i)
structure LE (T : TT) (call : FuncId → List V → Option Res) (ops : List Oper) (un : List (List Nat)) (i : Nat) (o : Oper) (σ : St) (fs : Fs) (lg : List Ent) (σ' : St) (e : Ent) : Prop where
  want : wantB ops σ o = some true
  loud : isQuiet T o = false
  ent : e = entL T i o σ
  log : okLog un e lg = true
  tr : (un.getD i []).isEmpty = true ∨ (σ.sl.all (triv (opKeys T σ o)) = true ∧ (o.op.operands.toList.all fun x => noDt (val T σ x)) = true)
  out : exLoud T call ⟨σ.sl, freeze σ.ob fs⟩ o some = some σ'
inductive Step (T : TT) (call : FuncId → List V → Option Res) (ops : List Oper) (un : List (List Nat)) (i : Nat) (o : Oper) (σ : St) (fs : Fs) (lg : List Ent) : St → Fs → Ent → Prop
  | quiet {d : Nat} {x : V} {ob : Ob} {s : Fs} {e : Ent} (h : QE T call ops un i o σ lg d x ob s e) : Step T call ops un i o σ fs lg (putN σ d x ob) (fs ++ s) e
  | loud {σ' : St} {e : Ent} (h : LE T call ops un i o σ fs lg σ' e) : Step T call ops un i o σ fs lg σ' [] e

section
variable {T : TT} {call : FuncId → List V → Option Res} {ops : List Oper} {un : List (List Nat)} {R : Type} {r : R}

theorem exG_iff {σ : St} {o : Oper} {run skip : St → Option R} : exG ops σ o run skip = some r ↔ (wantB ops σ o = some true ∧ run σ = some r) ∨ (wantB ops σ o = some false ∧ skip σ = some r) := by
  unfold exG wantB
  cases hg : o.guard with
  | none => simp
  | some q =>
    obtain ⟨j, want⟩ := q
    simp only
    cases hgd : (ops[j]?).bind (·.dst) with
    | none => simp
    | some g =>
      simp only
      cases hun : isUndef (σ.sl.getD g .dead) with
      | true =>
        have hx : σ.sl.getD g .dead = .tup [] := by
          cases hv : σ.sl.getD g .dead <;> rw [hv] at hun <;> first | (cases hun; done) | skip
          rename_i vs
          cases vs <;> first | rfl | cases hun
        rw [hx]
        simp
      | false =>
        simp only [cond_false]
        cases hv : σ.sl.getD g .dead with
        | sc u =>
          cases u with
          | bool t =>
            have e : (⟨σ.sl.set g (.sc (.bool t)), σ.ob⟩ : St) = σ := by rw [set_same hv]
            cases t
            · show (bif (false == want) then run ⟨σ.sl.set g (.sc (.bool false)), σ.ob⟩ else skip ⟨σ.sl.set g (.sc (.bool false)), σ.ob⟩) = some r ↔ _
              rw [e]
              cases want <;> simp
            · show (bif (true == want) then run ⟨σ.sl.set g (.sc (.bool true)), σ.ob⟩ else skip ⟨σ.sl.set g (.sc (.bool true)), σ.ob⟩) = some r ↔ _
              rw [e]
              cases want <;> simp
          | _ => simp [unB]
        | tup vs =>
          cases vs with
          | nil => rw [hv] at hun; cases hun
          | cons => simp [unB]
        | _ => simp [unB]

theorem exD1_iff {i : Nat} {o : Oper} {σ : St} {fs : Fs} {lg : List Ent} {K : St → Fs → List Ent → Option R} (hw : wantB ops σ o = some true) :
    exD1 T call ops un i o σ fs lg K = some r ↔ ∃ σ' fs' e, Step T call ops un i o σ fs lg σ' fs' e ∧ K σ' fs' (e :: lg) = some r := by
  unfold exD1
  cases hq : isQuiet T o with
  | true =>
    simp only [cond_true]
    constructor
    · intro h
      obtain ⟨hk, h⟩ := bif_some h
      rw [Bool.and_eq_true] at hk
      split at h
      · rename_i d hd
        obtain ⟨x, ob, s, h, hqv⟩ := qv_nat h
        obtain ⟨h0, h⟩ := bif_some h
        rw [Bool.and_eq_true, Bool.or_eq_true] at h0
        exact ⟨_, _, _, .quiet ⟨hd, .inl ⟨hw, hq, hk.1, hk.2, hqv, h0.1, rfl, h0.2⟩⟩, h⟩
      · cases h
    · rintro ⟨σ', fs', e, hs, h⟩
      cases hs with
      | quiet hqe =>
        rename_i d x ob s
        obtain ⟨hd, ⟨_, _, hk, hn, hv, h0, rfl, hl⟩ | ⟨hw', _⟩⟩ := hqe
        · rw [hk, hn, hd]
          simp only [Bool.and_self, cond_true]
          rw [qv_at hv]
          have : ((isNone ob || isNone (σ.ob.getD d .none)) && okLog un ⟨i, opKeys T σ o, [], x, isNone ob && s.isEmpty, false⟩ lg) = true := by
            rw [Bool.and_eq_true, Bool.or_eq_true]; exact ⟨h0, hl⟩
          rw [this]
          exact h
        · rw [hw] at hw'; cases hw'
      | loud hle => have := hle.loud; rw [hq] at this; cases this
  | false =>
    simp only [cond_false]
    constructor
    · intro h
      obtain ⟨h0, h⟩ := bif_some h
      obtain ⟨σ', h1, h2⟩ := loud_some h
      rw [Bool.and_eq_true, Bool.or_eq_true, Bool.and_eq_true] at h0
      exact ⟨_, _, _, .loud ⟨hw, hq, rfl, h0.1, h0.2, h1⟩, h2⟩
    · rintro ⟨σ', fs', e, hs, h⟩
      cases hs with
      | quiet hqe =>
        obtain ⟨hd, ⟨_, hq', _⟩ | ⟨hw', _⟩⟩ := hqe
        · rw [hq] at hq'; cases hq'
        · rw [hw] at hw'; cases hw'
      | loud hle =>
        obtain ⟨_, _, rfl, hl, ht, ho⟩ := hle
        have : (okLog un ⟨i, [], opKeys T σ o, .dead, true, true⟩ lg && ((un.getD i []).isEmpty || (σ.sl.all (triv (opKeys T σ o)) && o.op.operands.toList.all fun x => noDt (val T σ x)))) = true := by
          rw [Bool.and_eq_true, Bool.or_eq_true, Bool.and_eq_true]; exact ⟨hl, ht⟩
        rw [this]
        simp only [cond_true]
        rw [loud_at ho]
        exact h

theorem exD_cons {i : Nat} {o : Oper} {l : List (Oper × Nat)} {σ : St} {fs : Fs} {lg : List Ent} {K : St → Option R} :
    exD T call ops un ((o, i) :: l) σ fs lg K = some r ↔ ∃ σ' fs' e, Step T call ops un i o σ fs lg σ' fs' e ∧ exD T call ops un l σ' fs' (e :: lg) K = some r := by
  show exG ops σ o (fun σ => exD1 T call ops un i o σ fs lg fun σ fs lg => exD T call ops un l σ fs lg K)
      (fun σ => match o.dst with | some d => exD T call ops un l ⟨σ.sl.set d (.tup []), σ.ob⟩ fs (⟨i, [], [], .tup [], true, false⟩ :: lg) K | none => none) = some r ↔ _
  rw [exG_iff]
  constructor
  · rintro (⟨hw, h⟩ | ⟨hw, h⟩)
    · exact (exD1_iff hw).1 h
    · split at h
      · rename_i d hd
        refine ⟨putN σ d (.tup []) .none, fs ++ [], _, .quiet ⟨hd, .inr ⟨hw, rfl, rfl, rfl, rfl⟩⟩, ?_⟩
        rw [List.append_nil]
        exact h
      · cases h
  · rintro ⟨σ', fs', e, hs, h⟩
    by_cases hw : wantB ops σ o = some true
    · exact .inl ⟨hw, (exD1_iff hw).2 ⟨σ', fs', e, hs, h⟩⟩
    · cases hs with
      | quiet hqe =>
        obtain ⟨hd, ⟨hw', _⟩ | ⟨hw', rfl, rfl, rfl, rfl⟩⟩ := hqe
        · exact absurd hw' hw
        · refine .inr ⟨hw', ?_⟩
          rw [hd]
          rw [List.append_nil] at h
          exact h
      | loud hle => exact absurd hle.want hw

/-! ### the order of what is frozen and of the log does not matter -/
theorem frzK_comm (a : Fs) (k : Nat) : ∀ (b : Fs) (o : Ob), frzK a k (frzK b k o) = frzK b k (frzK a k o)
  | [], o => rfl
  | (k', c) :: b, o => by
    show frzK a k (frzK b k (if k' = k then frzO c o else o)) = frzK b k (if k' = k then frzO c (frzK a k o) else frzK a k o)
    rw [frzK_comm a k b]
    split
    · rw [frzK_push]
    · rfl
theorem freeze_same {fs fs' : Fs} (h : ∀ q, q ∈ fs ↔ q ∈ fs') (ob : List Ob) : freeze ob fs = freeze ob fs' := by
  have hl : (freeze ob fs).length = (freeze ob fs').length := by rw [freeze_length, freeze_length]
  have hk : ∀ k, (freeze ob fs).getD k .none = (freeze ob fs').getD k .none := fun k => by
    rw [getD_freeze, getD_freeze]
    have h1 := frzK_sub (s := fs) (k := k) (s' := fs') (fun q hq => (h q).2 hq) (ob.getD k .none)
    have h2 := frzK_sub (s := fs') (k := k) (s' := fs) (fun q hq => (h q).1 hq) (ob.getD k .none)
    rw [← h1, frzK_comm, h2]
  refine List.ext_getElem hl fun k h1 h2 => ?_
  have := hk k
  rw [List.getD_eq_getElem?_getD, List.getD_eq_getElem?_getD, List.getElem?_eq_getElem h1, List.getElem?_eq_getElem h2] at this
  exact this
theorem okLog_sub {e : Ent} {lg lg' : List Ent} (h : ∀ q ∈ lg', q ∈ lg) (ho : okLog un e lg = true) : okLog un e lg' = true := by
  unfold okLog at *
  rw [List.all_eq_true] at *
  exact fun q hq => ho q (h q hq)
theorem Step.same {i : Nat} {o : Oper} {σ σ' : St} {fs fs' f : Fs} {lg lg' : List Ent} {e : Ent} (hf : ∀ q, q ∈ fs ↔ q ∈ fs') (hl : ∀ q, q ∈ lg ↔ q ∈ lg') (h : Step T call ops un i o σ fs lg σ' f e) :
    ∃ f', Step T call ops un i o σ fs' lg' σ' f' e ∧ ∀ q, q ∈ f ↔ q ∈ f' := by
  cases h with
  | quiet h =>
    rename_i d x ob s
    refine ⟨fs' ++ s, .quiet ⟨h.dst, h.run.imp (fun ⟨h1, h2, h3, h4, h5, h6, h7, h8⟩ => ⟨h1, h2, h3, h4, h5, h6, h7, okLog_sub (fun q hq => (hl q).2 hq) h8⟩) id⟩, fun q => ?_⟩
    rw [List.mem_append, List.mem_append, hf]
  | loud h =>
    obtain ⟨h1, h2, h3, h4, h5, h6⟩ := h
    refine ⟨[], .loud ⟨h1, h2, h3, okLog_sub (fun q hq => (hl q).2 hq) h4, h5, ?_⟩, fun q => Iff.rfl⟩
    rw [← freeze_same hf]; exact h6
theorem exD_same {K : St → Option R} : ∀ (l : List (Oper × Nat)) (σ : St) (fs fs' : Fs) (lg lg' : List Ent), (∀ q, q ∈ fs ↔ q ∈ fs') → (∀ q, q ∈ lg ↔ q ∈ lg') → exD T call ops un l σ fs lg K = some r → exD T call ops un l σ fs' lg' K = some r
  | [], σ, fs, fs', lg, lg', hf, _, h => by
    have h : K ⟨σ.sl, freeze σ.ob fs⟩ = some r := h
    show K ⟨σ.sl, freeze σ.ob fs'⟩ = some r
    rw [← freeze_same hf]; exact h
  | (o, i) :: l, σ, fs, fs', lg, lg', hf, hl, h => by
    obtain ⟨σ', f, e, h1, h2⟩ := exD_cons.1 h
    obtain ⟨f', h3, h4⟩ := h1.same hf hl
    exact exD_cons.2 ⟨σ', f', e, h3, exD_same l σ' f f' _ _ h4 (fun q => by rw [List.mem_cons, List.mem_cons, hl]) h2⟩

/-! ### two steps in the other order -/
theorem disj_iff {a b : List Nat} : disj a b = true ↔ ∀ k ∈ a, k ∉ b := by
  unfold disj
  rw [List.all_eq_true]
  refine ⟨fun h k hk => ?_, fun h k hk => ?_⟩
  · have := h k hk
    rw [Bool.not_eq_true', memN_false] at this
    exact this
  · rw [Bool.not_eq_true', memN_false]; exact h k hk
theorem mem_reads {o : Oper} {y : Operand} {t : Nat} (hy : y ∈ o.op.operands.toList) (e : y = .tmp t) : t ∈ readsOf ops o :=
  List.mem_append_left _ (List.mem_filterMap.2 ⟨y, hy, by rw [e]⟩)
theorem val_reads {o : Oper} {σ σ' : St} (h : ∀ t ∈ readsOf ops o, σ.sl.getD t .dead = σ'.sl.getD t .dead) : ∀ y ∈ o.op.operands.toList, val T σ y = val T σ' y := fun y hy => val_eq fun t e => h t (mem_reads hy e)
theorem opKeys_reads {o : Oper} {σ σ' : St} (h : ∀ t ∈ readsOf ops o, σ.sl.getD t .dead = σ'.sl.getD t .dead) : opKeys T σ o = opKeys T σ' o := by
  unfold opKeys
  have hv := val_reads (T := T) h
  have : ∀ l : List Operand, (∀ y ∈ l, val T σ y = val T σ' y) → (l.flatMap fun x => keysN (val T σ x)) = l.flatMap fun x => keysN (val T σ' x) := by
    intro l
    induction l with
    | nil => exact fun _ => rfl
    | cons y l ih =>
      intro h
      rw [List.flatMap_cons, List.flatMap_cons, h y (List.mem_cons_self ..), ih fun z hz => h z (List.mem_cons_of_mem _ hz)]
  exact this _ hv
theorem want_reads {o : Oper} {σ σ' : St} (h : ∀ t ∈ readsOf ops o, σ.sl.getD t .dead = σ'.sl.getD t .dead) : wantB ops σ o = wantB ops σ' o := by
  unfold wantB
  cases hg : o.guard with
  | none => rfl
  | some q =>
    obtain ⟨j, want⟩ := q
    simp only
    cases hgd : (ops[j]?).bind (·.dst) with
    | none => rfl
    | some g =>
      simp only
      rw [h g (List.mem_append_right _ (by rw [hg]; simp only; rw [hgd]; simp))]
theorem isNone_eO {o : Ob} : isNone (eO o) = isNone o := by cases o <;> rfl
/-- what is not loud puts the same where what it looks at is the same -/
theorem QE.move {i : Nat} {o : Oper} {σ σ' : St} {lg lg' : List Ent} {d : Nat} {x : V} {ob : Ob} {s : Fs} {e : Ent} (h : QE T call ops un i o σ lg d x ob s e)
    (hv : ∀ t ∈ readsOf ops o, σ.sl.getD t .dead = σ'.sl.getD t .dead)
    (hr : disj (opKeys T σ o) (ndOf ops un i) = true → e = entQ T i o σ x ob s → okLog un e lg = true → (∀ k ∈ opKeys T σ o, eO (σ.ob.getD k .none) = eO (σ'.ob.getD k .none)) ∧ okLog un e lg' = true)
    (h0 : isNone ob = true ∨ isNone (σ'.ob.getD d .none) = isNone (σ.ob.getD d .none)) : QE T call ops un i o σ' lg' d x ob s e := by
  refine ⟨h.dst, ?_⟩
  rcases h.run with ⟨h1, h2, h3, h4, h5, h6, h7, h8⟩ | ⟨h1, h2⟩
  · obtain ⟨hob, hl⟩ := hr h4 h7 h8
    refine .inl ⟨by rw [← want_reads hv]; exact h1, h2, ?_, by rw [← opKeys_reads hv]; exact h4, ?_, ?_, ?_, hl⟩
    · unfold keysOk at h3 ⊢
      rw [List.all_eq_true] at h3 ⊢
      intro y hy
      have := h3 y hy
      rw [List.all_eq_true] at this ⊢
      rw [← val_reads hv y hy]
      intro k hk
      rw [← isNone_eO, ← hob k (List.mem_flatMap.2 ⟨y, hy, hk⟩), isNone_eO]
      exact this k hk
    · rw [← h5, ← qv_v (v := val T σ) (v' := val T σ') (fun y hy => val_reads hv y (by simpa using hy))]
      refine qv_lk (fun y hy k c hkc => ?_) K3
      exact (hob k (List.mem_flatMap.2 ⟨y, by simpa using hy, keysN_of hkc⟩)).symm
    · rcases h6 with h6 | h6
      · exact .inl h6
      · rcases h0 with h0 | h0
        · exact .inl h0
        · exact .inr (by rw [h0]; exact h6)
    · rw [h7]; unfold entQ; rw [opKeys_reads hv]
  · exact .inr ⟨by rw [← want_reads hv]; exact h1, h2⟩

/-- two operations that stand in no order: what the text says of them -/
structure Ap (T : TT) (ops : List Oper) (un : List (List Nat)) (i j : Nat) (x y : Oper) (d1 d2 : Nat) : Prop where
  dx : x.dst = some d1
  dy : y.dst = some d2
  ne : d1 ≠ d2
  rx : d2 ∉ readsOf ops x
  ry : d1 ∉ readsOf ops y
  ij : j ∈ un.getD i []
  ji : i ∈ un.getD j []
  ni : d2 ∈ ndOf ops un i
  nj : d1 ∈ ndOf ops un j
  q : (isQuiet T x = true ∧ isQuiet T y = true) ∨ (isQuiet T x = true ∧ isQuiet T y = false ∧ isIo y = true) ∨ (isQuiet T x = false ∧ isIo x = true ∧ isQuiet T y = true)
theorem okEnt_ld {e e' : Ent} (hm : e'.i ∈ un.getD e.i []) (h : okEnt un e e' = true) (hl : (e.ld || e'.ld) = true) :
    e.pl = true ∧ e'.pl = true ∧ (∀ k ∈ e.us, k ∉ e'.ts) ∧ (∀ k ∈ e'.us, k ∉ e.ts) ∧ triv e'.ts e.x = true ∧ triv e.ts e'.x = true := by
  unfold okEnt at h
  rw [memN_iff.2 hm, hl] at h
  simp only [Bool.not_true, Bool.false_or, Bool.and_eq_true, disj_iff] at h
  exact ⟨h.1.1.1.1.1, h.1.1.1.1.2, h.1.1.1.2, h.1.1.2, h.1.2, h.2⟩
theorem okEnt_mk {e e' : Ent} (h : (e.ld || e'.ld) = true → e.pl = true ∧ e'.pl = true ∧ (∀ k ∈ e.us, k ∉ e'.ts) ∧ (∀ k ∈ e'.us, k ∉ e.ts) ∧ triv e'.ts e.x = true ∧ triv e.ts e'.x = true) : okEnt un e e' = true := by
  unfold okEnt
  cases hl : (e.ld || e'.ld) with
  | false => simp
  | true =>
    obtain ⟨h1, h2, h3, h4, h5, h6⟩ := h hl
    rw [h1, h2, disj_iff.2 h3, disj_iff.2 h4, h5, h6]
    simp
theorem okEnt_swap {e e' : Ent} (hm : e'.i ∈ un.getD e.i []) (h : okEnt un e e' = true) : okEnt un e' e = true := okEnt_mk fun hl => by
  rw [Bool.or_comm] at hl
  obtain ⟨h1, h2, h3, h4, h5, h6⟩ := okEnt_ld hm h hl
  exact ⟨h2, h1, h4, h3, h6, h5⟩
theorem okLog_cons {e e' : Ent} {lg : List Ent} : okLog un e (e' :: lg) = true ↔ okEnt un e e' = true ∧ okLog un e lg = true := by
  unfold okLog; rw [List.all_cons, Bool.and_eq_true]
theorem QE.log {i : Nat} {o : Oper} {σ : St} {lg : List Ent} {d : Nat} {x : V} {ob : Ob} {s : Fs} {e e' : Ent} (h : QE T call ops un i o σ (e' :: lg) d x ob s e) : okEnt un e e' = true ∨ e = entS i := by
  rcases h.run with ⟨_, _, _, _, _, _, _, h8⟩ | ⟨_, _, _, _, h⟩
  · exact .inl (okLog_cons.1 h8).1
  · exact .inr h
theorem QE.ei {i : Nat} {o : Oper} {σ : St} {lg : List Ent} {d : Nat} {x : V} {ob : Ob} {s : Fs} {e : Ent} (h : QE T call ops un i o σ lg d x ob s e) : e.i = i ∧ e.ld = false ∧ e.ts = [] ∧ e.x = x ∧ (e.pl = true → ob = .none ∧ s = []) ∧ (isQuiet T o = true → e.us = opKeys T σ o ∨ e = entS i) := by
  rcases h.run with ⟨_, _, _, _, _, _, rfl, _⟩ | ⟨_, rfl, rfl, rfl, rfl⟩
  · refine ⟨rfl, rfl, rfl, rfl, fun hp => ?_, fun _ => .inl rfl⟩
    have hp : (isNone ob && s.isEmpty) = true := hp
    rw [Bool.and_eq_true, isNone_iff, List.isEmpty_iff] at hp
    exact hp
  · exact ⟨rfl, rfl, rfl, rfl, fun _ => ⟨rfl, rfl⟩, fun _ => .inr rfl⟩
theorem ex_two {a b c : Fs} : ∀ q, q ∈ a ++ b ++ c ↔ q ∈ a ++ c ++ b := fun q => by
  simp only [List.mem_append]
  constructor
  · rintro ((h | h) | h)
    · exact .inl (.inl h)
    · exact .inr h
    · exact .inl (.inr h)
  · rintro ((h | h) | h)
    · exact .inl (.inl h)
    · exact .inr h
    · exact .inl (.inr h)
theorem map_triv {g : V → V} {K : List Nat} (hg : ∀ v, triv K v = true → g v = v) (hd : g .dead = .dead) {l : List V} (h : ∀ t, triv K (l.getD t .dead) = true) : l.map g = l := by
  refine map_id_of fun v hv => hg v ?_
  obtain ⟨t, ht, rfl⟩ := List.getElem_of_mem hv
  have := h t
  rw [List.getD_eq_getElem?_getD, List.getElem?_eq_getElem ht] at this
  exact this
theorem all_getD {K : List Nat} {l : List V} : l.all (triv K) = true ↔ ∀ t, triv K (l.getD t .dead) = true := by
  rw [List.all_eq_true]
  constructor
  · intro h t
    rw [List.getD_eq_getElem?_getD]
    cases ht : l[t]? with
    | none => rfl
    | some v => exact h v (List.mem_of_getElem? ht)
  · intro h v hv
    obtain ⟨t, ht, rfl⟩ := List.getElem_of_mem hv
    have := h t
    rw [List.getD_eq_getElem?_getD, List.getElem?_eq_getElem ht] at this
    exact this
theorem putN_none {σ : St} {d : Nat} {x : V} : putN σ d x .none = ⟨σ.sl.set d x, σ.ob⟩ := rfl
theorem getD_set_ne {l : List V} {d t : Nat} {x : V} (h : t ≠ d) : (l.set d x).getD t .dead = l.getD t .dead := by rw [getD_set_slots, if_neg fun e => h e.1]
theorem setN_ne {l : List Ob} {d k : Nat} {ob : Ob} (h : k ≠ d) : (setN l d ob).getD k .none = l.getD k .none := by
  unfold setN
  split
  · rfl
  · exact getD_set_ob_other _ _ h
theorem not_empty {l : List Nat} {a : Nat} (h : a ∈ l) : l.isEmpty = false := by
  cases l with
  | nil => cases h
  | cons => rfl

theorem QE.move_lg {i : Nat} {o : Oper} {σ : St} {lg lg' : List Ent} {d : Nat} {x : V} {ob : Ob} {s : Fs} {e : Ent} (h : QE T call ops un i o σ lg d x ob s e) (hl : okLog un e lg = true → okLog un e lg' = true) : QE T call ops un i o σ lg' d x ob s e :=
  h.move (fun _ _ => rfl) (fun _ _ h => ⟨fun _ _ => rfl, hl h⟩) (.inr rfl)

theorem swap {i j : Nat} {x y : Oper} {d1 d2 : Nat} {σ σ1 σ2 : St} {fs fs1 fs2 : Fs} {lg : List Ent} {e1 e2 : Ent} (hap : Ap T ops un i j x y d1 d2)
    (hdead : isQuiet T y = false → σ.sl.getD d1 .dead = .dead) (h1 : Step T call ops un i x σ fs lg σ1 fs1 e1) (h2 : Step T call ops un j y σ1 fs1 (e1 :: lg) σ2 fs2 e2) :
    ∃ σ1' fs1' fs2', Step T call ops un j y σ fs lg σ1' fs1' e2 ∧ Step T call ops un i x σ1' fs1' (e2 :: lg) σ2 fs2' e1 ∧ ∀ q, q ∈ fs2 ↔ q ∈ fs2' := by
  cases h1 with
  | quiet q1 =>
    rename_i d x1 ob1 s1
    have ed : d = d1 := by have := q1.dst; rw [hap.dx] at this; cases this; rfl
    subst ed
    obtain ⟨i1, l1, t1, v1, p1, u1⟩ := q1.ei
    cases h2 with
    | quiet q2 =>
      rename_i d' x2 ob2 s2
      have ed : d' = d2 := by have := q2.dst; rw [hap.dy] at this; cases this; rfl
      subst ed
      obtain ⟨i2, l2, t2, v2, p2, u2⟩ := q2.ei
      have hent : okEnt un e1 e2 = true := okEnt_mk fun hl => by rw [l1, l2] at hl; cases hl
      have q2' : QE T call ops un j y σ lg d' x2 ob2 s2 e2 := by
        refine q2.move (fun t ht => getD_set_ne fun e => hap.ry (e ▸ ht)) (fun hd _ hl => ⟨fun k hk => ?_, (okLog_cons.1 hl).2⟩) (.inr ?_)
        · have hkd : k ≠ d := fun e => disj_iff.1 hd k hk (e ▸ hap.nj)
          show eO ((setN σ.ob d ob1).getD k .none) = _
          rw [setN_ne hkd]
        · show isNone (σ.ob.getD d' .none) = isNone ((setN σ.ob d ob1).getD d' .none)
          rw [setN_ne (fun e => hap.ne e.symm)]
      have q1' : QE T call ops un i x (putN σ d' x2 ob2) (e2 :: lg) d x1 ob1 s1 e1 := by
        refine q1.move (fun t ht => (getD_set_ne fun (e : t = d') => hap.rx (e ▸ ht)).symm) (fun hd _ hl => ⟨fun k hk => ?_, okLog_cons.2 ⟨hent, hl⟩⟩) (.inr ?_)
        · have hkd : k ≠ d' := fun e => disj_iff.1 hd k hk (e ▸ hap.ni)
          show _ = eO ((setN σ.ob d' ob2).getD k .none)
          rw [setN_ne hkd]
        · show isNone ((setN σ.ob d' ob2).getD d .none) = isNone (σ.ob.getD d .none)
          rw [setN_ne hap.ne]
      have := Step.quiet (T := T) (call := call) (fs := fs ++ s2) q1'
      rw [putN_comm hap.ne] 
      exact ⟨_, _, _, .quiet q2', this, ex_two⟩
    | loud g2 =>
      have hyq := g2.loud
      have hio : isIo y = true := by
        rcases hap.q with ⟨_, h⟩ | ⟨_, _, h⟩ | ⟨_, _, h⟩
        · rw [hyq] at h; cases h
        · exact h
        · rw [hyq] at h; cases h
      have ei2 : e2.i = j := by rw [g2.ent]; rfl
      have el2 : e2.ld = true := by rw [g2.ent]; rfl
      have hlog := okLog_cons.1 g2.log
      have hij : e1.i ∈ un.getD e2.i [] := by rw [i1, ei2]; exact hap.ji
      obtain ⟨_, hpl, _, hus, _, htr⟩ := okEnt_ld hij hlog.1 (by rw [el2]; rfl)
      obtain ⟨rfl, rfl⟩ := p1 hpl
      have hvy : ∀ t ∈ readsOf ops y, (putN σ d x1 .none).sl.getD t .dead = σ.sl.getD t .dead := fun t ht => getD_set_ne fun e => hap.ry (e ▸ ht)
      have hK : opKeys T (putN σ d x1 .none) y = opKeys T σ y := opKeys_reads hvy
      have ets : e2.ts = opKeys T σ y := by rw [g2.ent]; exact hK
      have ev2 : e2 = entL T j y σ := by rw [g2.ent]; unfold entL; rw [hK]
      rw [ets] at hus htr
      rw [v1] at htr
      obtain ⟨hall, hnd⟩ := g2.tr.resolve_left (by rw [not_empty hap.ji]; simp)
      rw [hK, all_getD] at hall
      have hnd' : ∀ z ∈ y.op.operands.toList, noDt (val T (putN σ d x1 .none) z) = true := List.all_eq_true.1 hnd
      have hout := g2.out
      have hfs : fs ++ [] = fs := List.append_nil _
      rw [hfs] at hout
      obtain ⟨dd, g, xd, ob', s1, s2, s3, s4, s5⟩ := io_shape (σ := ⟨(putN σ d x1 .none).sl, freeze (putN σ d x1 .none).ob fs⟩) hio hnd' hout
      have edd : dd = d2 := by rw [hap.dy] at s1; cases s1; rfl
      subst edd
      have s2 : ∀ v, triv (opKeys T σ y) v = true → g v = v := fun v hv => s2 v (by rw [show opKeys T ⟨(putN σ d x1 .none).sl, freeze (putN σ d x1 .none).ob fs⟩ y = opKeys T σ y from hK]; exact hv)
      have s4 : ∀ k, k ∉ opKeys T σ y → ob'.getD k .none = (freeze σ.ob fs).getD k .none := fun k hk => s4 k (by rw [show opKeys T ⟨(putN σ d x1 .none).sl, freeze (putN σ d x1 .none).ob fs⟩ y = opKeys T σ y from hK]; exact hk)
      have hsl : ∀ t, triv (opKeys T σ y) (σ.sl.getD t .dead) = true := fun t => by
        by_cases ht : t = d
        · subst ht; rw [hdead hyq]; rfl
        · have := hall t
          rw [show (putN σ d x1 .none).sl = σ.sl.set d x1 from rfl, getD_set_ne ht] at this
          exact this
      have o1 := s5 (putN σ d x1 .none).sl (fun _ _ => rfl) St some
      rw [hout, map_triv s2 s3 hall] at o1
      have o2 := s5 σ.sl (fun z hz => (val_reads (T := T) (σ := putN σ d x1 .none) (σ' := σ) hvy z hz).symm) St some
      rw [map_triv s2 s3 hsl] at o2
      simp only [Option.some.injEq] at o1
      subst o1
      have q1' : QE T call ops un i x ⟨σ.sl.set dd xd, ob'⟩ (e2 :: lg) d x1 .none [] e1 := by
        refine q1.move (fun t ht => (getD_set_ne fun (e : t = dd) => hap.rx (e ▸ ht)).symm) (fun _ he hl => ⟨fun k hk => ?_, okLog_cons.2 ⟨okEnt_swap hij hlog.1, hl⟩⟩) (.inl rfl)
        have hku : k ∈ e1.us := by rw [he]; exact hk
        show _ = eO (ob'.getD k .none)
        rw [s4 k (hus k hku), getD_freeze, eO_frzK]
      refine ⟨⟨σ.sl.set dd xd, ob'⟩, [], [] ++ [], .loud ⟨by rw [← want_reads hvy]; exact g2.want, hyq, ev2, hlog.2, .inr ⟨all_getD.2 hsl, ?_⟩, o2⟩, ?_, fun q => Iff.rfl⟩
      · rw [List.all_eq_true] at hnd ⊢
        intro z hz
        rw [← val_reads (T := T) (σ := putN σ d x1 .none) (σ' := σ) hvy z hz]
        exact hnd z hz
      · have := Step.quiet (T := T) (call := call) (fs := []) q1'
        have e : putN ⟨σ.sl.set dd xd, ob'⟩ d x1 .none = ⟨(putN σ d x1 .none).sl.set dd xd, ob'⟩ := by
          show (⟨(σ.sl.set dd xd).set d x1, ob'⟩ : St) = ⟨(σ.sl.set d x1).set dd xd, ob'⟩
          rw [List.set_comm _ _ hap.ne]
        rw [e] at this
        exact this
  | loud g1 =>
    have hxq := g1.loud
    have hio : isIo x = true := by
      rcases hap.q with ⟨h, _⟩ | ⟨h, _⟩ | ⟨_, h, _⟩
      · rw [hxq] at h; cases h
      · rw [hxq] at h; cases h
      · exact h
    have hyq : isQuiet T y = true := by
      rcases hap.q with ⟨h, _⟩ | ⟨h, _⟩ | ⟨_, _, h⟩
      · rw [hxq] at h; cases h
      · rw [hxq] at h; cases h
      · exact h
    obtain ⟨hall, hnd⟩ := g1.tr.resolve_left (by rw [not_empty hap.ij]; simp)
    have hout := g1.out
    obtain ⟨dd, g, xd, ob', s1, s2, s3, s4, s5⟩ := io_shape (σ := ⟨σ.sl, freeze σ.ob fs⟩) hio (List.all_eq_true.1 hnd) hout
    have edd : dd = d1 := by rw [hap.dx] at s1; cases s1; rfl
    subst edd
    have s2 : ∀ v, triv (opKeys T σ x) v = true → g v = v := s2
    have s4 : ∀ k, k ∉ opKeys T σ x → ob'.getD k .none = (freeze σ.ob fs).getD k .none := s4
    have o1 := s5 σ.sl (fun _ _ => rfl) St some
    rw [hout, map_triv s2 s3 (all_getD.1 hall)] at o1
    simp only [Option.some.injEq] at o1
    subst o1
    have ei1 : e1.i = i := by rw [g1.ent]; rfl
    have el1 : e1.ld = true := by rw [g1.ent]; rfl
    have ets : e1.ts = opKeys T σ x := by rw [g1.ent]; rfl
    cases h2 with
    | loud g2 => have := g2.loud; rw [hyq] at this; cases this
    | quiet q2 =>
      rename_i d' x2 ob2 s2'
      have ed : d' = d2 := by have := q2.dst; rw [hap.dy] at this; cases this; rfl
      subst ed
      obtain ⟨i2, l2, t2, v2, p2, u2⟩ := q2.ei
      have hji : e1.i ∈ un.getD e2.i [] := by rw [i2, ei1]; exact hap.ji
      have hent : okEnt un e2 e1 = true := by
        rcases q2.log with h | h
        · exact h
        · refine okEnt_mk fun _ => ?_
          rw [h, g1.ent]
          exact ⟨rfl, rfl, fun k hk => by (cases hk), fun k hk => by (cases hk), rfl, rfl⟩
      obtain ⟨hpl, _, hus, _, htr, _⟩ := okEnt_ld hji hent (by rw [el1]; simp)
      obtain ⟨rfl, rfl⟩ := p2 hpl
      rw [ets] at hus htr
      rw [v2] at htr
      have q2' : QE T call ops un j y σ lg d' x2 .none [] e2 := by
        refine q2.move (fun t ht => getD_set_ne fun e => hap.ry (e ▸ ht)) (fun _ he hl => ⟨fun k hk => ?_, (okLog_cons.1 hl).2⟩) (.inl rfl)
        have hku : k ∈ e2.us := by rw [he]; exact hk
        show eO (ob'.getD k .none) = _
        rw [s4 k (hus k hku), getD_freeze, eO_frzK]
      have hvx : ∀ t ∈ readsOf ops x, σ.sl.getD t .dead = (σ.sl.set d' x2).getD t .dead := fun t ht => (getD_set_ne fun (e : t = d') => hap.rx (e ▸ ht)).symm
      have hK : opKeys T σ x = opKeys T ⟨σ.sl.set d' x2, σ.ob⟩ x := opKeys_reads (σ' := ⟨σ.sl.set d' x2, σ.ob⟩) hvx
      have hall' : ∀ t, triv (opKeys T σ x) ((σ.sl.set d' x2).getD t .dead) = true := fun t => by
        rw [getD_set_slots]
        split
        · exact htr
        · exact all_getD.1 hall t
      have o2 := s5 (σ.sl.set d' x2) (fun z hz => (val_reads (T := T) (σ := σ) (σ' := ⟨σ.sl.set d' x2, σ.ob⟩) hvx z hz).symm) St some
      rw [map_triv s2 s3 hall', List.set_comm _ _ (fun e => hap.ne e.symm)] at o2
      refine ⟨⟨σ.sl.set d' x2, σ.ob⟩, fs ++ [], [], .quiet q2', ?_, fun q => Iff.rfl⟩
      refine .loud ⟨?_, hxq, ?_, okLog_cons.2 ⟨okEnt_swap hji hent, g1.log⟩, .inr ⟨?_, ?_⟩, ?_⟩
      · rw [← want_reads (σ := σ) (σ' := ⟨σ.sl.set d' x2, σ.ob⟩) hvx]; exact g1.want
      · rw [g1.ent]; unfold entL; rw [hK]
      · rw [← hK]; exact all_getD.2 hall'
      · rw [List.all_eq_true] at hnd ⊢
        intro z hz
        rw [← val_reads (T := T) (σ := σ) (σ' := ⟨σ.sl.set d' x2, σ.ob⟩) hvx z hz]
        exact hnd z hz
      · rw [List.append_nil]
        exact o2
end
end Go.Proofs.YtaapkkeogajfpaaDoor.VM

/- The abstract machine and the memory: drawn regions in which a call floats among quiet operations. -/
set_option linter.unusedVariables false
set_option linter.unusedSimpArgs false
namespace Go.Proofs.YtaapkkeogajfpaaDoor.VM

section
variable {T : TT} {call : FuncId → List V → Option Res} {ops : List Oper} {un : List (List Nat)} {t : Nat}

/-! ### a slot that is dead stays so -/
theorem slDead_kil {σ : St} {k : Nat} {c : Option Nat} (h : σ.sl.getD t .dead = .dead) : (kil σ k c).sl.getD t .dead = .dead := by
  show (σ.sl.map (kilV k c)).getD t .dead = .dead
  rw [getD_map _ _ (kil_forget k c).dead, h]; rfl
theorem slDead_kill {σ : St} {k : Nat} (h : σ.sl.getD t .dead = .dead) : (kill σ k).sl.getD t .dead = .dead := by
  show (σ.sl.map (killV k)).getD t .dead = .dead
  rw [getD_map _ _ rfl, h]; rfl
theorem slDead_kilP {σ : St} {k j n : Nat} (h : σ.sl.getD t .dead = .dead) : (kilP σ k j n).sl.getD t .dead = .dead := by
  rw [kilP_map, getD_map _ _ (gP_dead n j), h, gP_dead]
theorem slDead_wr1 {σ σ' : St} {k : Nat} {c : Option Nat} {i j : Nat} {x : V} (h : wr1 σ k c i j x some = some σ') (ht : σ.sl.getD t .dead = .dead) : σ'.sl.getD t .dead = .dead := by
  unfold wr1 at h
  split at h
  · obtain ⟨_, h⟩ := bif_some h
    unfold exN at h
    split at h
    · cases h; exact ht
    · cases h
  · split at h
    · obtain ⟨_, h⟩ := bif_some h
      cases h; exact slDead_kil ht
    · cases h
theorem wd_some' {R : Type} {n : Nat} {x : V} {K : Option R} {r : R} (h : wd n x K = some r) : K = some r := by
  unfold wd at h
  split at h <;> exact (bif_some h).2
theorem unSt_some' {R : Type} {n : Nat} {x : V} {K : Option R} {r : R} (h : unSt n x K = some r) : K = some r := by
  unfold unSt at h
  split at h
  · exact (bif_some h).2
  · cases h
theorem slDead_wrN {σ σ' : St} {k : Nat} {c : Option Nat} {i j : Nat} {ss : List Sh} {ns : List V} {x : V} (h : wrN σ k c i j ss ns x some = some σ') (ht : σ.sl.getD t .dead = .dead) : σ'.sl.getD t .dead = .dead := by
  unfold wrN at h
  split at h
  · obtain ⟨_, h⟩ := bif_some h
    have h := wd_some' h
    unfold exN at h
    split at h
    · cases h; exact ht
    · cases h
  · split at h
    · rename_i cs _ _
      obtain ⟨_, h⟩ := bif_some h
      have h := unSt_some' h
      have e := unCs_bind (x := x) (ss := ss) (j := 0) (K := some) (g := fun ps => some (⟨(kilP σ k j ss.length).sl, σ.ob.set k (.box true (setPart cs j (nilBack ns ps)))⟩ : St))
      simp only [Option.bind_some] at e
      rw [h] at e
      obtain ⟨_, _, e⟩ := Option.bind_eq_some_iff.1 e
      cases e; exact slDead_kilP ht
    · cases h
theorem slDead_mvR {σ σ' : St} {k j k' : Nat} {c m : Option Nat} (h : mvR σ k j k' c m some = some σ') (ht : σ.sl.getD t .dead = .dead) : σ'.sl.getD t .dead = .dead := by
  unfold mvR at h
  split at h
  · simp only at h
    split at h
    · obtain ⟨_, h⟩ := bif_some h
      cases h; exact slDead_kil (slDead_kil ht)
    · cases h
  · cases h
theorem slDead_sto {σ σ' : St} {ty : TypeId} {a x : V} (h : sto T σ ty a x some = some σ') (ht : σ.sl.getD t .dead = .dead) : σ'.sl.getD t .dead = .dead := by
  have pl : ∀ {k : Nat} {c : Option Nat} {i j : Nat}, (sealC (lkE σ) x fun x s => wr1 ⟨σ.sl, freeze σ.ob s⟩ k c i j x some) = some σ' → σ'.sl.getD t .dead = .dead := fun {k c i j} h => by
    have e := sealC_bind (lk := lkE σ) (v := x) (K := fun x s => some (x, s)) (g := fun p : V × Fs => wr1 ⟨σ.sl, freeze σ.ob p.2⟩ k c i j p.1 some)
    simp only [Option.bind_some] at e
    rw [h] at e
    obtain ⟨_, _, e⟩ := Option.bind_eq_some_iff.1 e
    exact slDead_wr1 e ht
  unfold sto at h
  split at h
  · rename_i k c i j s _
    simp only at h
    split at h
    · rename_i k' c' m
      cases hb : (sto.isBox (σ.ob.getD k .none) && sto.isN c && ownedB σ k' c') with
      | true =>
        rw [hb] at h
        obtain ⟨_, h⟩ := bif_some h
        exact slDead_mvR h ht
      | false => rw [hb] at h; exact pl h
    · obtain ⟨_, h⟩ := bif_some h
      unfold stoHd at h
      split at h
      · obtain ⟨_, h⟩ := bif_some h
        cases h; exact ht
      · cases h
    · exact pl h
  · split at h
    · unfold stoEl at h
      split at h
      · obtain ⟨_, h⟩ := bif_some h
        cases h; exact ht
      · cases h
    · cases h
  · rename_i k c i j ss _
    have e := sealV_bind (lk := lkE σ) (v := nrmV T ty x) (K := fun x s => some (x, s)) (g := fun p : V × Fs => wrN ⟨σ.sl, freeze σ.ob p.2⟩ k c i j ss (srcC x) p.1 some)
    simp only [Option.bind_some] at e
    rw [h] at e
    obtain ⟨_, _, e⟩ := Option.bind_eq_some_iff.1 e
    exact slDead_wrN e ht
  · cases h
theorem slDead_app {σ σ' : St} {d z b : Nat} {s x : V} (h : app σ d z b s x some = some σ') (hd : t ≠ d) (ht : σ.sl.getD t .dead = .dead) : σ'.sl.getD t .dead = .dead := by
  have li : ∀ {z : Nat} {x : V} {B : List V → Bool} {G : List V → St}, (∀ ys, (G ys).sl.getD t .dead = .dead) → (asList (lkE σ) z x fun ys => chk (B ys) (some (G ys))) = some σ' → σ'.sl.getD t .dead = .dead := fun {z x B G} hG h => by
    have e := asList_bind (lk := lkE σ) (z := z) (v := x) (K := some) (g := fun ys => chk (B ys) (some (G ys)))
    simp only [Option.bind_some] at e
    rw [h] at e
    obtain ⟨ys, _, e⟩ := Option.bind_eq_some_iff.1 e
    have := (bif_some e).2
    cases this
    exact hG ys
  unfold app at h
  obtain ⟨_, h⟩ := bif_some h
  split at h
  · exact li (fun ys => by show ((kill σ d).sl.set d _).getD t .dead = .dead; rw [getD_set_ne hd]; exact slDead_kill ht) h
  · split at h
    · obtain ⟨_, h⟩ := bif_some h
      exact li (fun ys => by show ((kill (kil σ _ _) d).sl.set d _).getD t .dead = .dead; rw [getD_set_ne hd]; exact slDead_kill (slDead_kil ht)) h
    · cases h
  · unfold appE at h
    split at h
    · obtain ⟨_, h⟩ := bif_some h
      obtain ⟨x, _, h⟩ := exN_some h
      rcases elL_some h with ⟨_, h⟩ | ⟨ys, _, h⟩ <;>
        exact li (fun ys => by
          show (((kill σ d).sl.map (kleV _ _)).set d _).getD t .dead = .dead
          rw [getD_set_ne hd, getD_map _ _ rfl, slDead_kill ht]; rfl) h
    · cases h
  · unfold appH at h
    split at h
    · obtain ⟨_, h⟩ := bif_some h
      exact li (fun ys => by
          show (((kill σ d).sl.map (kilV _ _)).set d _).getD t .dead = .dead
          rw [getD_set_ne hd, getD_map _ _ (kil_forget _ _).dead, slDead_kill ht]; rfl) h
    · cases h
  · cases h
theorem sealCs_ex {R : Type} {rr : R} {lk : Nat → Ob} {vs : List V} {K : List V → Fs → Option R} (h : sealCs lk vs K = some rr) : ∃ cs s, K cs s = some rr ∧ True := by
  have e := sealCs_bind (lk := lk) (vs := vs) (K := fun x s => some (x, s)) (g := fun p : List V × Fs => K p.1 p.2)
  simp only [Option.bind_some] at e
  rw [h] at e
  obtain ⟨⟨cs, s⟩, _, e⟩ := Option.bind_eq_some_iff.1 e
  exact ⟨cs, s, e, trivial⟩
theorem slDead_nest {σ σ' : St} {d : Nat} {x : V} (h : nest σ d x some = some σ') (hd : t ≠ d) (ht : σ.sl.getD t .dead = .dead) : σ'.sl.getD t .dead = .dead := by
  unfold nest at h
  obtain ⟨_, h⟩ := bif_some h
  split at h
  · split at h
    · cases h
      show ((kill (kil σ _ _) d).sl.set d _).getD t .dead = .dead
      rw [getD_set_ne hd]; exact slDead_kill (slDead_kil ht)
    · cases h
  · cases h
theorem slDead_boxM {σ σ' : St} {d : Nat} {ss : List Sh} {x : V} (h : boxM σ d ss x some = some σ') (hd : t ≠ d) (ht : σ.sl.getD t .dead = .dead) : σ'.sl.getD t .dead = .dead := by
  unfold boxM at h
  obtain ⟨_, h⟩ := bif_some h
  split at h
  · obtain ⟨_, h⟩ := bif_some h
    rename_i v vs _
    obtain ⟨cs, s, h, _⟩ := sealCs_ex h
    dsimp only at h
    split at h
    · split at h
      · cases h
        show ((kill (kil ⟨σ.sl, _⟩ _ _) d).sl.set d _).getD t .dead = .dead
        rw [getD_set_ne hd]; exact slDead_kill (slDead_kil ht)
      · cases h
    · split at h
      · obtain ⟨_, h⟩ := bif_some h
        cases h
        show ((kill (kill ⟨σ.sl, _⟩ _) d).sl.set d _).getD t .dead = .dead
        rw [getD_set_ne hd]; exact slDead_kill (slDead_kill ht)
      · cases h
    · cases h
  · cases h
theorem slDead_cpy {σ σ' : St} {d : Nat} {x : V} {b : ByteArray} (h : cpy σ d x b some = some σ') (hd : t ≠ d) (ht : σ.sl.getD t .dead = .dead) : σ'.sl.getD t .dead = .dead := by
  unfold cpy at h
  obtain ⟨_, h⟩ := bif_some h
  split at h
  · split at h
    · obtain ⟨_, h⟩ := bif_some h
      obtain ⟨x, _, h⟩ := exN_some h
      obtain ⟨ys, _, h⟩ := elO_some h
      obtain ⟨_, h⟩ := chk_some h
      cases h
      show (σ.sl.set d _).getD t .dead = .dead
      rw [getD_set_ne hd, ht]
    · cases h
  · cases h
theorem loud_dead {σ σ' : St} {o : Oper} (h : exLoud T call σ o some = some σ') (hd : o.dst ≠ some t) (ht : σ.sl.getD t .dead = .dead) : σ'.sl.getD t .dead = .dead := by
  obtain ⟨dst, op, type, pos, after, guard⟩ := o
  have rs : ∀ {σ1 : St}, loudArgs T σ ⟨dst, op, type, pos, after, guard⟩ = [] → ∀ {K : St → Option St}, rsA T σ σ1 (loudArgs T σ ⟨dst, op, type, pos, after, guard⟩) K = K σ1 := fun {σ1} e {K} => by rw [e]; rfl
  cases op <;> first
    | (exfalso; cases dst <;> cases h; done)
    | skip
  case store ty p q =>
    cases dst with
    | none =>
      have h : sto T σ ty (val T σ p) (val T σ q) some = some σ' := h
      exact slDead_sto h ht
    | some d => cases h
  case box ty x =>
    cases dst with
    | none => cases h
    | some d =>
      have hne : t ≠ d := fun e => hd (by rw [e])
      unfold exLoud at h
      simp only [exLoud0] at h
      split at h
      · exact slDead_boxM h hne ht
      · cases h
  case buildSlice ty n ps =>
    cases dst with
    | none => cases h
    | some d =>
      have hne : t ≠ d := fun e => hd (by rw [e])
      unfold exLoud at h
      simp only [exLoud0] at h
      split at h
      · split at h
        · split at h
          · exact slDead_nest h hne ht
          · cases h
        · cases h
      · cases h
  case call c =>
    obtain ⟨callee, args, ts⟩ := c
    cases dst with
    | none => exfalso; cases callee <;> first | (cases h; done) | (rename_i b; cases b <;> cases h)
    | some d =>
      have hne : t ≠ d := fun e => hd (by rw [e])
      cases callee with
      | invoke rc m => cases h
      | builtin b =>
        cases b <;> first | (cases h; done) | skip
        rotate_left
        · unfold exLoud at h
          simp only [exLoud0] at h
          split at h
          · split at h
            · obtain ⟨_, h⟩ := bif_some h
              obtain ⟨_, _, h⟩ := unS_some h
              exact slDead_cpy h hne ht
            · cases h
          · cases h
        unfold exLoud at h
        simp only [exLoud0] at h
        split at h
        · split at h
          · rename_i t0 t1 _ _ _ e0 z0 _
            cases hb : Nat.beq t0 t1 with
            | true =>
              rw [hb] at h
              dsimp only [cond_true] at h
              split at h
              · exact slDead_app h hne ht
              · cases h
            | false =>
              rw [hb] at h
              dsimp only [cond_false] at h
              cases hb2 : (memN T.u8L t0 && isStrTy (T.ty t1) && Nat.beq z0 1) with
              | true =>
                rw [hb2] at h
                dsimp only [cond_true] at h
                split at h
                · obtain ⟨_, _, h⟩ := unS_some h
                  exact slDead_app h hne ht
                · cases h
              | false =>
                rw [hb2] at h
                dsimp only [cond_false] at h
                split at h
                · obtain ⟨_, _, _, h⟩ := asI_some h
                  obtain ⟨_, h⟩ := chk_some h
                  exact slDead_app h hne ht
                · cases h
          · cases h
        · cases h
      | value f =>
        rw [exLoud_call] at h
        split at h
        · obtain ⟨_, h⟩ := bif_some h
          obtain ⟨az, s, h1, h⟩ := ioSeal_some h
          obtain ⟨vs, l, h2, h⟩ := ioFill_some h
          obtain ⟨_, h⟩ := bif_some h
          obtain ⟨r, h4, h⟩ := Option.bind_eq_some_iff.1 h
          obtain ⟨σ3, h5, h⟩ := ioBack_some h
          obtain ⟨g, ob3, g1, g2, g3, g4⟩ := ioBack_shape h5
          obtain ⟨x, h, h6⟩ := finK_shape h
          have e3 := g4 σ.sl _ some
          rw [h5] at e3
          cases e3
          obtain ⟨ob', h7, h8⟩ := rsA_shape (sl0 := σ.sl) (ob0 := σ.ob) h
          have e4 := h8 σ.sl ((σ.sl.map g).set d x) _ some
          rw [show rsA T ⟨σ.sl, σ.ob⟩ ⟨(σ.sl.map g).set d x, ob3⟩ _ some = some σ' from h] at e4
          cases e4
          show ((σ.sl.map g).set d x).getD t .dead = .dead
          rw [getD_set_ne hne, getD_map _ _ g2, ht, g2]
        · cases h
theorem Step.dead {i : Nat} {o : Oper} {σ σ' : St} {fs fs' : Fs} {lg : List Ent} {e : Ent} (h : Step T call ops un i o σ fs lg σ' fs' e) (hd : o.dst ≠ some t) (ht : σ.sl.getD t .dead = .dead) : σ'.sl.getD t .dead = .dead := by
  cases h with
  | quiet h =>
    rename_i d x ob s
    show (σ.sl.set d x).getD t .dead = .dead
    rw [getD_set_ne (fun e => hd (by rw [h.dst, e])), ht]
  | loud h => exact loud_dead h.out hd ht

/-! ### an operation that is ready comes first -/
/-- what the quiet ones that float make is not there yet -/
def Dead (T : TT) (ops : List Oper) (un : List (List Nat)) (l : List (Oper × Nat)) (σ : St) : Prop := ∀ p ∈ l, floats T ops un p.2 p.1 = true → σ.sl.getD (dstOf p.1) .dead = .dead
/-- the rest of a region's operations stand there as the text has them -/
structure Lst (ops : List Oper) (l : List (Oper × Nat)) : Prop where
  at_ : ∀ p ∈ l, ops[p.2]? = some p.1
  srt : l.Pairwise fun p q => p.2 < q.2
structure RegOk2 (T : TT) (ops : List Oper) : Prop where
  on : ∀ (j : Nat) y, ops[j]? = some y → ∀ e ∈ y.after, Region.binds .any e = true → e.on < j
  ne : ∀ (i j : Nat) x y, i < j → ops[i]? = some x → ops[j]? = some y → ∀ d, x.dst = some d → y.dst ≠ some d
  ord : ∀ (i j : Nat) x y, i < j → ops[i]? = some x → ops[j]? = some y → i ∈ (befores ops).getD j [] ∨ apartB T ops x y = true ∨ apartL T ops x y = true
theorem regOk2_ok {ops : List Oper} (h : regOk2 T ops = true) : RegOk2 T ops := by
  unfold regOk2 at h
  have hz : ∀ {j : Nat} {y : Oper}, ops[j]? = some y → (y, j) ∈ ops.zipIdx := fun {j y} hj => by
    rw [List.mem_zipIdx_iff_getElem?]; exact hj
  have hy : ∀ {j : Nat} {y : Oper}, ops[j]? = some y → (y.after.toList.all (fun e => !Region.binds .any e || Nat.blt e.on j) && ops.zipIdx.all fun (x, i) => !Nat.blt i j || (dstNe x y && (memN ((befores ops).getD j []) i || apartB T ops x y || apartL T ops x y))) = true := fun {j y} hj => List.all_eq_true.1 h (y, j) (hz hj)
  have hp : ∀ (i j : Nat) x y, i < j → ops[i]? = some x → ops[j]? = some y → (dstNe x y && (memN ((befores ops).getD j []) i || apartB T ops x y || apartL T ops x y)) = true := fun i j x y hij hi hj => by
    have h1 := hy hj
    simp only [Bool.and_eq_true] at h1
    have h2 := List.all_eq_true.1 h1.2 (x, i) (hz hi)
    have h3 : Nat.blt i j = true := by rw [Nat.blt_eq]; exact hij
    simpa [h3] using h2
  refine ⟨fun j y hj e he hb => ?_, fun i j x y hij hi hj d hd hd' => ?_, fun i j x y hij hi hj => ?_⟩
  · have h1 := hy hj
    simp only [Bool.and_eq_true] at h1
    have h2 := List.all_eq_true.1 h1.1 e (by simpa using he)
    rw [hb] at h2
    simp only [Bool.not_true, Bool.false_or] at h2
    rw [Nat.blt_eq] at h2
    exact h2
  · have h1 := hp i j x y hij hi hj
    simp only [Bool.and_eq_true] at h1
    have h2 := h1.1
    unfold dstNe at h2
    rw [hd, hd'] at h2
    simp at h2
  · have h1 := hp i j x y hij hi hj
    simp only [Bool.and_eq_true, Bool.or_eq_true] at h1
    rcases h1.2 with (h | h) | h
    · exact .inl (memN_iff.1 h)
    · exact .inr (.inl h)
    · exact .inr (.inr h)
theorem befores_lt (hr : RegOk2 T ops) : ∀ (j : Nat) {y : Oper}, ops[j]? = some y → ∀ i ∈ (befores ops).getD j [], i < j := by
  intro j
  induction j using Nat.strongRecOn with
  | ind j ih =>
    intro y hj i hi
    obtain ⟨e, he, hb, h⟩ := befores_spec hj hi
    have h1 := hr.on j y hj e he hb
    rcases h with rfl | h
    · exact h1
    · have h2 : ops[e.on]? = some (ops[e.on]'(by have := (List.getElem?_eq_some_iff.1 hj).1; omega)) := List.getElem?_eq_getElem _
      have := ih e.on h1 h2 i h
      omega
theorem mem_unOf {i j : Nat} {x y : Oper} (hi : ops[i]? = some x) (hj : ops[j]? = some y) (hne : i ≠ j) (h1 : i ∉ (befores ops).getD j []) (h2 : j ∉ (befores ops).getD i []) : i ∈ (unOf ops).getD j [] := by
  unfold unOf
  simp only [List.getD_eq_getElem?_getD, List.getElem?_map]
  have hz : ops.zipIdx[j]? = some (y, j) := by rw [List.getElem?_zipIdx, hj]; simp
  rw [hz]
  simp only [Option.map_some, Option.getD_some, List.mem_map]
  refine ⟨(x, i), List.mem_filter.2 ⟨by rw [List.mem_zipIdx_iff_getElem?]; exact hi, ?_⟩, rfl⟩
  have e1 : Nat.beq i j = false := by
    cases hb : Nat.beq i j
    · rfl
    · exact absurd (beq_nat.1 hb) hne
  simp only [List.getD_eq_getElem?_getD] at h1 h2
  rw [e1, memN_false.2 h1, memN_false.2 h2]
  rfl
theorem mem_nd {i j : Nat} {x : Oper} {d : Nat} (hi : ops[i]? = some x) (hd : x.dst = some d) (h : i ∈ un.getD j []) : d ∈ ndOf ops un j := by
  unfold ndOf
  refine List.mem_map.2 ⟨i, h, ?_⟩
  rw [hi]
  show dstOf x = d
  unfold dstOf; rw [hd]; rfl
theorem ap_of (hr : RegOk2 T ops) {i j : Nat} {x y : Oper} (hij : i < j) (hi : ops[i]? = some x) (hj : ops[j]? = some y) (h1 : i ∉ (befores ops).getD j []) : ∃ d1 d2, Ap T ops (unOf ops) i j x y d1 d2 := by
  have h2 : j ∉ (befores ops).getD i [] := fun h => by have := befores_lt hr i hi j h; omega
  have m1 := mem_unOf hi hj (by omega) h1 h2
  have m2 := mem_unOf hj hi (by omega) h2 h1
  have key : ∃ d1 d2, x.dst = some d1 ∧ y.dst = some d2 ∧ d1 ≠ d2 ∧ d2 ∉ readsOf ops x ∧ d1 ∉ readsOf ops y ∧ ((isQuiet T x = true ∧ isQuiet T y = true) ∨ (isQuiet T x = true ∧ isQuiet T y = false ∧ isIo y = true) ∨ (isQuiet T x = false ∧ isIo x = true ∧ isQuiet T y = true)) := by
    rcases hr.ord i j x y hij hi hj with h | h | h
    · exact absurd h h1
    · obtain ⟨d1, d2, a1, a2, a3, a4, a5, a6, a7⟩ := apartB_spec h
      exact ⟨d1, d2, a1, a2, a3, a4, a5, .inl ⟨a6, a7⟩⟩
    · unfold apartL at h
      rw [Bool.and_eq_true] at h
      obtain ⟨hq, h3⟩ := h
      split at h3
      · rename_i dx dy hx hy
        simp only [Bool.and_eq_true, Bool.not_eq_true', memN_false] at h3
        refine ⟨dx, dy, hx, hy, fun e => by rw [beq_nat.2 e] at h3; simp at h3, h3.1.2, h3.2, ?_⟩
        simp only [Bool.or_eq_true, Bool.and_eq_true, Bool.not_eq_true'] at hq
        rcases hq with ⟨⟨a, b⟩, c⟩ | ⟨⟨a, b⟩, c⟩
        · exact .inr (.inl ⟨a, b, c⟩)
        · exact .inr (.inr ⟨a, c, b⟩)
      · cases h3
  obtain ⟨d1, d2, a1, a2, a3, a4, a5, a6⟩ := key
  exact ⟨d1, d2, a1, a2, a3, a4, a5, m2, m1, mem_nd hj a2 m2, mem_nd hi a1 m1, a6⟩
theorem floats_of {i j : Nat} {x y : Oper} {d1 d2 : Nat} (h : Ap T ops un i j x y d1 d2) (hj : ops[j]? = some y) (hy : isQuiet T y = false) : floats T ops un i x = true := by
  unfold floats
  have hx : isQuiet T x = true := by
    rcases h.q with ⟨a, _⟩ | ⟨a, _⟩ | ⟨_, _, a⟩
    · exact a
    · exact a
    · rw [hy] at a; cases a
  rw [hx, Bool.true_and, List.any_eq_true]
  refine ⟨(y, j), by rw [List.mem_zipIdx_iff_getElem?]; exact hj, ?_⟩
  show (memN (un.getD i []) j && !isQuiet T y) = true
  rw [memN_iff.2 h.ij, hy]; rfl
theorem bubble {R : Type} {r : R} {K : St → Option R} {o : Oper} {i : Nat} {post : List (Oper × Nat)} (hi : ops[i]? = some o) : ∀ (pre : List (Oper × Nat)) (σ : St) (fs : Fs) (lg : List Ent),
    (∀ p ∈ pre, ops[p.2]? = some p.1 ∧ ∃ d1 d2, Ap T ops un p.2 i p.1 o d1 d2) → (pre.Pairwise fun p q => ∀ d, p.1.dst = some d → q.1.dst ≠ some d) → Dead T ops un pre σ →
    exD T call ops un (pre ++ (o, i) :: post) σ fs lg K = some r → exD T call ops un ((o, i) :: (pre ++ post)) σ fs lg K = some r
  | [], σ, fs, lg, _, _, _, h => h
  | (x, q) :: pre, σ, fs, lg, hap, hpw, hdd, h => by
    obtain ⟨σ1, fs1, e1, h1, h2⟩ := exD_cons.1 h
    obtain ⟨hpw1, hpw2⟩ := List.pairwise_cons.1 hpw
    obtain ⟨hq, d1, d2, ap⟩ := hap (x, q) (List.mem_cons_self ..)
    have hdd1 : Dead T ops un pre σ1 := fun p hp hf => by
      obtain ⟨hpq, d1', d2', ap'⟩ := hap p (List.mem_cons_of_mem _ hp)
      have e : dstOf p.1 = d1' := by unfold dstOf; rw [ap'.dx]; rfl
      refine h1.dead (fun e' => ?_) (hdd p (List.mem_cons_of_mem _ hp) hf)
      exact hpw1 p hp _ e' (by rw [e, ap'.dx])
    have h3 := bubble hi pre σ1 fs1 (e1 :: lg) (fun p hp => hap p (List.mem_cons_of_mem _ hp)) hpw2 hdd1 h2
    obtain ⟨σ2, fs2, e2, h4, h5⟩ := exD_cons.1 h3
    obtain ⟨σ1', fs1', fs2', s1, s2, s3⟩ := swap ap (fun hy => by
      have := hdd (x, q) (List.mem_cons_self ..) (floats_of ap hi hy)
      rw [show dstOf x = d1 by unfold dstOf; rw [ap.dx]; rfl] at this
      exact this) h1 h4
    refine exD_cons.2 ⟨σ1', fs1', e2, s1, exD_cons.2 ⟨σ2, fs2', e1, s2, exD_same _ _ _ _ _ _ s3 (fun z => ?_) h5⟩⟩
    simp only [List.mem_cons]
    constructor
    · rintro (h | h | h)
      · exact .inr (.inl h)
      · exact .inl h
      · exact .inr (.inr h)
    · rintro (h | h | h)
      · exact .inr (.inl h)
      · exact .inl h
      · exact .inr (.inr h)
theorem getD_drop {σ : St} {d t : Nat} : (drop σ d).sl.getD t .dead = if t = d ∧ d < σ.sl.length then .dead else σ.sl.getD t .dead := getD_set_slots _ _ _ _
theorem dropF_keep : ∀ (l : List (Oper × Nat)) (σ : St) (t : Nat), σ.sl.getD t .dead = .dead → (dropF T ops un l σ).sl.getD t .dead = .dead
  | [], σ, t, h => h
  | (o, j) :: l, σ, t, h => by
    unfold dropF
    refine dropF_keep l _ t ?_
    cases floats T ops un j o with
    | false => exact h
    | true =>
      show (drop σ (dstOf o)).sl.getD t .dead = .dead
      rw [getD_drop]; split
      · rfl
      · exact h
theorem dropF_dead : ∀ (l : List (Oper × Nat)) (σ : St), ∀ p ∈ l, floats T ops un p.2 p.1 = true → (dropF T ops un l σ).sl.getD (dstOf p.1) .dead = .dead
  | [], σ, p, hp, _ => by cases hp
  | (o, j) :: l, σ, p, hp, hf => by
    unfold dropF
    rcases List.mem_cons.1 hp with rfl | hp
    · refine dropF_keep l _ _ ?_
      rw [hf]
      show (drop σ (dstOf o)).sl.getD (dstOf o) .dead = .dead
      rw [getD_drop]; split
      · rfl
      · rename_i hh
        rw [List.getD_eq_getElem?_getD, List.getElem?_eq_none (by
          rcases Nat.lt_or_ge (dstOf o) σ.sl.length with h | h
          · exact absurd ⟨rfl, h⟩ hh
          · exact h)]
        rfl
    · exact dropF_dead l _ p hp hf
theorem Sim.dropF {P : Program} {GL : List (Nat × V)} {U : Nat → Prop} {w0 w : World} {F0 : Fr} {a : Act} {ow : Own} : ∀ (l : List (Oper × Nat)) {σ : St}, Sim GL U w0 F0 σ a w ow → Sim GL U w0 F0 (VM.dropF T ops un l σ) a w ow
  | [], σ, h => h
  | (o, j) :: l, σ, h => by
    unfold VM.dropF
    refine Sim.dropF (P := P) l ?_
    cases floats T ops un j o with
    | false => exact h
    | true => exact h.drop _
end

section
variable {P : Program} {T : TT} {U : Nat → Prop} {w0 w : World} {F0 : Fr} {a : Act} {ow : Own} {r : Res} {call : FuncId → List V → Option Res} {all : Array Oper} {un : List (List Nat)}

/-- a step of the machine is one of the model -/
theorem Step.sim (hT : TOk P T) (hC : CallOk P T.globL call) (hL : LoudOk P T call) {i : Nat} {o : Oper} {σ σ' : St} {fs fs' : Fs} {lg : List Ent} {e : Ent} (h : Step T call all.toList un i o σ fs lg σ' fs' e)
    (hs : Sim T.globL U w0 F0 (σF σ fs) a w ow) (hpn : ∀ d, o.dst = some d → F0.pn d = none) (r : Res) :
    (Region.wanted o (yielded all a.tmps) = true ∧ DoneO P T.globL U w0 F0 a w o (σF σ' fs')) ∨ (Region.wanted o (yielded all a.tmps) = false ∧ Sim T.globL U w0 F0 (σF σ' fs') (a.put o.dst undef) w ow) := by
  classical
  have fin : wantB all.toList σ o = some true → exOp T call false σ fs o (fun σ1 fs1 => if σ1 = σ' ∧ fs1 = fs' then some r else none) = some r → Region.wanted o (yielded all a.tmps) = true ∧ DoneO P T.globL U w0 F0 a w o (σF σ' fs') := fun hw hx => by
    obtain ⟨σ1, fs1, h1, h2⟩ := exOp_ok hT hC hL hs hpn hx
    split at h1
    · rename_i e
      obtain ⟨rfl, rfl⟩ := e
      exact ⟨wanted_of hs (by rw [show wantB all.toList (σF σ fs) o = wantB all.toList σ o from rfl]; exact hw), h2⟩
    · cases h1
  cases h with
  | quiet h =>
    rename_i d x ob s
    rcases h.run with ⟨hw, hq, hk, hn, hv, h0, _, _⟩ | ⟨hw, rfl, rfl, rfl, _⟩
    · refine .inl (fin hw ?_)
      unfold exOp
      rw [hq, h.dst]
      simp only [cond_true, Bool.false_and, cond_false]
      rw [qv_at hv]
      have : (isNone ob || isNone (σ.ob.getD d .none)) = true := by rw [Bool.or_eq_true]; exact h0
      rw [this]
      simp
    · refine .inr ⟨wanted_of hs (by rw [show wantB all.toList (σF σ fs) o = wantB all.toList σ o from rfl]; exact hw), ?_⟩
      rw [h.dst, List.append_nil]
      exact sim_skip hs d
  | loud h =>
    refine .inl (fin h.want ?_)
    unfold exOp
    rw [h.loud]
    simp only [cond_false]
    rw [loud_at h.out]
    simp

structure InvF (P : Program) (T : TT) (U : Nat → Prop) (w0 : World) (F0 : Fr) (call : FuncId → List V → Option Res) (all : Array Oper) (K : St → Option Res) (r : Res) (listed : Array Bool) (a : Act) (w : World)
    (l : List (Oper × Nat)) (σ : St) (fs : Fs) (lg : List Ent) (ow : Own) : Prop where
  size : listed.size = all.size
  mem : ∀ p, p ∈ l ↔ (all.toList[p.2]? = some p.1 ∧ listed.getD p.2 false = false)
  srt : l.Pairwise fun p q => p.2 < q.2
  closed : ∀ j, listed.getD j false = true → ∀ i ∈ (befores all.toList).getD j [], listed.getD i false = true
  run : exD T call all.toList (unOf all.toList) l σ fs lg K = some r
  dead : Dead T all.toList (unOf all.toList) l σ
  sim : Sim T.globL U w0 F0 (σF σ fs) a w ow

theorem InvF.done {K : St → Option Res} {Q : Exit → Act → World → Prop} {listed : Array Bool} {l : List (Oper × Nat)} {σ : St} {fs : Fs} {lg : List Ent} (h : InvF P T U w0 F0 call all K r listed a w l σ fs lg ow)
    (hl : ∀ i, i < all.size → listed.getD i false = true) (hQ : ∀ σ' a' w' ow', K σ' = some r → Sim T.globL U w0 F0 σ' a' w' ow' → Q .normal a' w') : Q .normal a w := by
  have he : l = [] := by
    cases l with
    | nil => rfl
    | cons p l =>
      obtain ⟨h1, h2⟩ := (h.mem p).1 (List.mem_cons_self ..)
      have : p.2 < all.size := by have := (List.getElem?_eq_some_iff.1 h1).1; simpa using this
      rw [hl _ this] at h2; cases h2
  subst he
  exact hQ _ _ _ _ h.run h.sim
theorem ready_or2 (hr : RegOk2 T all.toList) {listed : Array Bool} (hs : listed.size = all.size) (h : Region.ready .any all listed = []) : ∀ i, i < all.size → listed.getD i false = true := by
  intro i
  induction i using Nat.strongRecOn with
  | ind i ih =>
    intro hi
    cases hl : listed.getD i false with
    | true => rfl
    | false =>
      exfalso
      have : i ∈ Region.ready .any all listed := by
        rw [mem_ready]
        refine ⟨by rw [getD_tf (by omega)]; exact hl, all[i], Array.getElem?_eq_getElem hi, fun e he hb => ?_⟩
        have h1 := hr.on i all[i] (by rw [Array.getElem?_toList]; exact Array.getElem?_eq_getElem hi) e he hb
        exact ih _ h1 (by omega)
      rw [h] at this
      cases this

/-- A DRAWN REGION IN WHICH A CALL FLOATS -/
theorem drawn_float (hT : TOk P T) (hC : CallOk P T.globL call) (hL : LoudOk P T call) (hr : RegOk2 T all.toList) (hpn : ∀ o ∈ all.toList, ∀ d, o.dst = some d → F0.pn d = none) {K : St → Option Res} {Q : Exit → Act → World → Prop}
    (hQ : ∀ σ' a' w' ow', K σ' = some r → Sim T.globL U w0 F0 σ' a' w' ow' → Q .normal a' w') :
    ∀ (fuel : Nat) (listed : Array Bool) (a : Act) (w : World) (l : List (Oper × Nat)) (σ : St) (fs : Fs) (lg : List Ent) (ow : Own), unl listed all.size ≤ fuel → InvF P T U w0 F0 call all K r listed a w l σ fs lg ow → wpAny P .any all Q fuel listed a w
  | 0, listed, a, w, l, σ, fs, lg, ow, hf, h => by
    have hall : ∀ i, i < all.size → listed.getD i false = true := fun i hi => by
      have h0 : unl listed all.size = 0 := by omega
      unfold unl at h0
      have := List.countP_eq_zero.1 h0 i (by simpa using hi)
      simpa using this
    refine ⟨?_, h.done hall hQ⟩
    cases hrd : Region.ready .any all listed with
    | nil => rfl
    | cons i l =>
      have hi : i ∈ Region.ready .any all listed := by rw [hrd]; simp
      obtain ⟨h1, o, ho, _⟩ := mem_ready.1 hi
      have hlt : i < all.size := (Array.getElem?_eq_some_iff.1 ho).1
      rw [getD_tf (by rw [h.size]; exact hlt), hall i hlt] at h1
      cases h1
  | fuel + 1, listed, a, w, l, σ, fs, lg, ow, hf, h => by
    refine ⟨fun hrd => h.done (ready_or2 hr h.size hrd) hQ, fun i hi => ?_⟩
    obtain ⟨h1, o, ho, hafter⟩ := mem_ready.1 hi
    have hlt : i < all.size := (Array.getElem?_eq_some_iff.1 ho).1
    rw [getD_tf (by rw [h.size]; exact hlt)] at h1
    have hoL : all.toList[i]? = some o := by rw [Array.getElem?_toList]; exact ho
    have hls : i < listed.size := by rw [h.size]; exact hlt
    -- what stands before it is listed
    have hbef : ∀ q ∈ (befores all.toList).getD i [], listed.getD q false = true := fun q hq => by
      obtain ⟨e, he, hb, hqe⟩ := befores_spec hoL hq
      have := hafter e he hb
      rcases hqe with rfl | hqe
      · exact this
      · exact h.closed _ this q hqe
    have hcl : ∀ j, (listed.setIfInBounds i true).getD j false = true → ∀ q ∈ (befores all.toList).getD j [], (listed.setIfInBounds i true).getD q false = true := fun j hj q hq => by
      rw [getD_listed hls] at hj ⊢
      rw [Bool.or_eq_true] at hj ⊢
      refine .inl ?_
      rcases hj with hj | hj
      · exact h.closed j hj q hq
      · have : j = i := by simpa using hj
        subst this
        exact hbef q hq
    have hfuel : unl (listed.setIfInBounds i true) all.size ≤ fuel := by have := unl_set hlt hls h1; omega
    have hm : (o, i) ∈ l := (h.mem (o, i)).2 ⟨hoL, h1⟩
    obtain ⟨pre, post, hsplit⟩ := List.append_of_mem hm
    have hrun := h.run
    have hdead := h.dead
    have hsrt := h.srt
    rw [hsplit] at hrun hdead hsrt
    have hlo : ∀ p ∈ pre, p.2 < i := fun p hp => (List.pairwise_append.1 hsrt).2.2 p hp (o, i) (List.mem_cons_self ..)
    have hpre : ∀ p ∈ pre, all.toList[p.2]? = some p.1 ∧ listed.getD p.2 false = false := fun p hp => (h.mem p).1 (by rw [hsplit]; exact List.mem_append_left _ hp)
    have hap : ∀ p ∈ pre, all.toList[p.2]? = some p.1 ∧ ∃ d1 d2, Ap T all.toList (unOf all.toList) p.2 i p.1 o d1 d2 := fun p hp => by
      obtain ⟨g1, g2⟩ := hpre p hp
      refine ⟨g1, ap_of hr (hlo p hp) g1 hoL fun hb => ?_⟩
      rw [hbef _ hb] at g2; cases g2
    have hpw : pre.Pairwise fun p q => ∀ d, p.1.dst = some d → q.1.dst ≠ some d := by
      have := (List.pairwise_append.1 hsrt).1
      refine List.Pairwise.imp_of_mem (fun {p q} hp hq hlt d hd => ?_) this
      exact hr.ne p.2 q.2 p.1 q.1 hlt (hpre p hp).1 (hpre q hq).1 d hd
    have hb := bubble hoL pre σ fs lg hap hpw (fun p hp => hdead p (List.mem_append_left _ hp)) hrun
    obtain ⟨σ', fs', e, hstep, hrest⟩ := exD_cons.1 hb
    have hstepSim := hstep.sim hT hC hL h.sim (hpn o (List.mem_of_getElem? hoL)) r
    have hmem' : ∀ p, p ∈ pre ++ post ↔ (all.toList[p.2]? = some p.1 ∧ (listed.setIfInBounds i true).getD p.2 false = false) := fun p => by
      have hnd : ∀ p ∈ pre ++ post, p.2 ≠ i := fun p hp => by
        rcases List.mem_append.1 hp with hp | hp
        · have := hlo p hp; omega
        · have := List.rel_of_pairwise_cons (List.pairwise_append.1 hsrt).2.1 hp
          have : i < p.2 := this
          omega
      rw [getD_listed hls]
      constructor
      · intro hp
        have hpl : p ∈ l := by
          rw [hsplit]
          rcases List.mem_append.1 hp with hp | hp
          · exact List.mem_append_left _ hp
          · exact List.mem_append_right _ (List.mem_cons_of_mem _ hp)
        obtain ⟨g1, g2⟩ := (h.mem p).1 hpl
        refine ⟨g1, ?_⟩
        rw [g2, Bool.false_or]
        have := hnd p hp
        simpa using this
      · rintro ⟨g1, g2⟩
        rw [Bool.or_eq_false_iff] at g2
        have hpl := (h.mem p).2 ⟨g1, g2.1⟩
        rw [hsplit] at hpl
        rcases List.mem_append.1 hpl with hp | hp
        · exact List.mem_append_left _ hp
        · rcases List.mem_cons.1 hp with rfl | hp
          · simp at g2
          · exact List.mem_append_right _ hp
    have hsrt' : (pre ++ post).Pairwise fun p q => p.2 < q.2 := by
      refine List.Pairwise.sublist ?_ hsrt
      exact List.Sublist.append (List.Sublist.refl _) (List.sublist_cons_self _ _)
    have hdead' : Dead T all.toList (unOf all.toList) (pre ++ post) σ' := fun p hp hfl => by
      obtain ⟨g1, g2⟩ := (hmem' p).1 hp
      have hpl : p ∈ pre ++ (o, i) :: post := by
        rcases List.mem_append.1 hp with hp | hp
        · exact List.mem_append_left _ hp
        · exact List.mem_append_right _ (List.mem_cons_of_mem _ hp)
      have hne : p.2 ≠ i := fun e => by rw [getD_listed hls, e] at g2; simp at g2
      by_cases hds : p.1.dst = none
      · -- no slot of its own: it is quiet and floats, but such a one has a slot
        refine hstep.dead (fun e' => ?_) (hdead p hpl hfl)
        exfalso
        unfold floats at hfl
        rw [Bool.and_eq_true, List.any_eq_true] at hfl
        obtain ⟨hq, ⟨x, q⟩, hx, hxx⟩ := hfl
        have hxx : (memN ((unOf all.toList).getD p.2 []) q && !isQuiet T x) = true := hxx
        rw [Bool.and_eq_true, memN_iff] at hxx
        have hxq : all.toList[q]? = some x := by rw [List.mem_zipIdx_iff_getElem?] at hx; exact hx
        have hun : q ≠ p.2 ∧ q ∉ (befores all.toList).getD p.2 [] ∧ p.2 ∉ (befores all.toList).getD q [] := by
          have := hxx.1
          unfold unOf at this
          simp only [List.getD_eq_getElem?_getD, List.getElem?_map] at this
          have hz : all.toList.zipIdx[p.2]? = some (p.1, p.2) := by rw [List.getElem?_zipIdx, g1]; simp
          rw [hz] at this
          simp only [Option.map_some, Option.getD_some, List.mem_map] at this
          obtain ⟨z, hz1, hz2⟩ := this
          obtain ⟨_, hz3⟩ := List.mem_filter.1 hz1
          subst hz2
          have hz3 : (!Nat.beq z.2 p.2 && !memN (((befores all.toList)[p.2]?).getD []) z.2 && !memN (((befores all.toList)[z.2]?).getD []) p.2) = true := hz3
          simp only [Bool.and_eq_true, Bool.not_eq_true', memN_false] at hz3
          refine ⟨fun e => by rw [beq_nat.2 e] at hz3; simp at hz3, ?_, ?_⟩
          · rw [List.getD_eq_getElem?_getD]; exact hz3.1.2
          · rw [List.getD_eq_getElem?_getD]; exact hz3.2
        rcases Nat.lt_or_ge q p.2 with hl | hl
        · obtain ⟨d1, d2, ap⟩ := ap_of hr hl hxq g1 hun.2.1
          rw [ap.dy] at hds; cases hds
        · obtain ⟨d1, d2, ap⟩ := ap_of hr (by omega : p.2 < q) g1 hxq hun.2.2
          rw [ap.dx] at hds; cases hds
      · obtain ⟨d, hd⟩ : ∃ d, p.1.dst = some d := Option.ne_none_iff_exists'.1 hds
        have e : dstOf p.1 = d := by unfold dstOf; rw [hd]; rfl
        refine hstep.dead (fun e' => ?_) (hdead p hpl hfl)
        rw [e] at e'
        rcases Nat.lt_or_ge p.2 i with hl | hl
        · exact hr.ne p.2 i p.1 o hl g1 hoL d hd e'
        · exact hr.ne i p.2 o p.1 (by omega) hoL g1 d e' hd
    have hinv : ∀ {a' w' ow'}, Sim T.globL U w0 F0 (σF σ' fs') a' w' ow' → InvF P T U w0 F0 call all K r (listed.setIfInBounds i true) a' w' (pre ++ post) σ' fs' (e :: lg) ow' := fun hs =>
      ⟨by simpa using h.size, hmem', hsrt', hcl, hrest, hdead', hs⟩
    unfold wpOp
    rw [ho]
    simp only
    rcases hstepSim with ⟨hw, hd⟩ | ⟨hw, hs⟩
    · rw [if_pos hw]
      exact .inl (hd _ _ fun a' w' ow' hs => drawn_float hT hC hL hr hpn hQ fuel _ a' w' _ _ _ _ ow' hfuel (hinv hs))
    · rw [if_neg (by rw [hw]; simp)]
      exact drawn_float hT hC hL hr hpn hQ fuel _ _ w _ _ _ _ ow hfuel (hinv hs)
end
end Go.Proofs.YtaapkkeogajfpaaDoor.VM

/- The abstract machine and the memory: code. -/
set_option linter.unusedVariables false
set_option linter.unusedSimpArgs false
namespace Go.Proofs.YtaapkkeogajfpaaDoor.VM

def exitOf : Ex → Exit
  | .normal => .normal
  | .exit id => .exit id
  | .ret => .ret

/-- what a code's run owes -/
def Post (T : TT) (U : Nat → Prop) (w0 : World) (F0 : Fr) (K : Ex → St → Option Res) (r : Res) (Q : Exit → Act → World → Prop) : Prop :=
  ∀ e σ' a' w' ow', K e σ' = some r → Sim T.globL U w0 F0 σ' a' w' ow' → Q (exitOf e) a' w'
structure EnvOk (P : Program) (T : TT) (E : Env) : Prop where
  call : CallOk P T.globL E.call
  loud : LoudOk P T E.call
  loop : ∀ (kp : Nat → Bool) (b : Code) (σ : St) (K : Ex → St → Option Res) (r : Res), E.loop kp b σ K = some r → ∀ (U : Nat → Prop) (w0 : World) (F0 : Fr) (a : Act) (w : World) (ow : Own) (Q : Exit → Act → World → Prop),
    (∀ o ∈ opsOf b, ∀ d, o.dst = some d → F0.pn d = none) → Sim T.globL U w0 F0 σ a w ow → Post T U w0 F0 K r Q → (Code.loop b).wp P Q a w

section
variable {P : Program} {T : TT} {U : Nat → Prop} {w0 : World} {F0 : Fr} {r : Res} {E : Env}

theorem sim_cleanC {σ : St} {a : Act} {w : World} {ow : Own} (c : Operand) (h : Sim T.globL U w0 F0 σ a w ow) : Sim T.globL U w0 F0 (cleanC c σ) a w ow := by
  cases c <;> first | exact h.drop _ | exact h

theorem exC_ok (hT : TOk P T) (hE : EnvOk P T E) {kp : Nat → Bool} : ∀ (c : Code), (∀ o ∈ opsOf c, ∀ d, o.dst = some d → F0.pn d = none) → ∀ (σ : St) (a : Act) (w : World) (ow : Own) (K : Ex → St → Option Res) (Q : Exit → Act → World → Prop),
    exC T E kp c σ K = some r → Sim T.globL U w0 F0 σ a w ow → Post T U w0 F0 K r Q → c.wp P Q a w := by
  intro c
  induction c with
  | skip => exact fun _ σ a w ow K Q hk h hQ => wp_skip (hQ _ _ _ _ _ hk h)
  | exit id => exact fun _ σ a w ow K Q hk h hQ => wp_exit (hQ _ _ _ _ _ hk h)
  | ret => exact fun _ σ a w ow K Q hk h hQ => wp_ret (hQ _ _ _ _ _ hk h)
  | seq x y ihx ihy =>
    intro hpn σ a w ow K Q hk h hQ
    refine wp_seq (ihx (fun o ho => hpn o (List.mem_append_left _ ho)) σ a w ow _ _ hk h fun e σ' a' w' ow' hk' h' => ?_)
    cases e with
    | normal => exact ihy (fun o ho => hpn o (List.mem_append_right _ ho)) σ' a' w' ow' K Q hk' h' hQ
    | exit id => exact hQ _ _ _ _ _ hk' h'
    | ret => exact hQ _ _ _ _ _ hk' h'
  | cond c x y ihx ihy =>
    intro hpn σ a w ow K Q hk h hQ
    obtain ⟨t, ht, hk2⟩ := unB_some hk
    refine wp_cond (val_sc h ht).1 ?_
    cases t with
    | true => exact ihx (fun o ho => hpn o (List.mem_append_left _ ho)) _ a w ow K Q hk2 (sim_cleanC c h) hQ
    | false => exact ihy (fun o ho => hpn o (List.mem_append_right _ ho)) _ a w ow K Q hk2 (sim_cleanC c h) hQ
  | block id x ih =>
    intro hpn σ a w ow K Q hk h hQ
    refine wp_block (ih hpn σ a w ow _ _ hk h fun e σ' a' w' ow' hk' h' => ?_)
    cases e with
    | normal => exact hQ _ _ _ _ _ hk' h'
    | exit i =>
      show if i = id then Q .normal a' w' else Q (.exit i) a' w'
      by_cases hi : i = id
      · subst hi
        rw [if_pos rfl]
        simp only [Nat.beq_refl, cond_true] at hk'
        exact hQ .normal σ' a' w' ow' hk' h'
      · rw [if_neg hi]
        have hb : Nat.beq i id = false := by
          cases hb : Nat.beq i id
          · rfl
          · exact absurd (beq_nat.1 hb) hi
        simp only [hb, cond_false] at hk'
        exact hQ (.exit i) σ' a' w' ow' hk' h'
    | ret => exact hQ _ _ _ _ _ hk' h'
  | loop b ih => exact fun hpn σ a w ow K Q hk h hQ => hE.loop _ _ _ _ _ hk _ _ _ _ _ _ _ hpn (h.lpClean kp b) hQ
  | region id ops draw =>
    intro hpn σ a w ow K Q hk h hQ
    have hk : (bif draw && !regOk T ops.toList then
      (bif regOk2 T ops.toList then exDr T E.call ops.toList (prep T ops.toList σ) fun σ => K .normal (gcs ops.toList (clean kp ops.toList σ)) else none) else
      exOps T E.call draw ops.toList ops.toList (prep T ops.toList σ) [] fun σ => K .normal (gcs ops.toList (clean kp ops.toList σ))) = some r := hk
    have hfin : ∀ σ' a' w' ow', K .normal (gcs ops.toList (clean kp ops.toList σ')) = some r → Sim T.globL U w0 F0 σ' a' w' ow' → Q .normal a' w' := fun σ' a' w' ow' hk' h' =>
      hQ .normal _ _ _ ow' hk' ((h'.clean kp ops.toList).gcs ops.toList)
    have hp := h.prep T ops.toList
    cases draw with
    | false =>
      refine wp_region_list (exOps_plain (all := ops) (dr := false) hT hE.call hE.loud ops.toList _ [] a w ow hpn hp hk hfin)
    | true =>
      cases hreg : regOk T ops.toList with
      | false =>
        rw [hreg] at hk
        obtain ⟨hr2, hk⟩ := bif_some hk
        have hno : ∀ i, (Array.replicate ops.size false).getD i false = false := fun i => by
          simp only [Array.getD_eq_getD_getElem?, Array.getElem?_replicate]; split <;> rfl
        refine wp_region_any hT.mixed (drawn_float hT hE.call hE.loud (regOk2_ok hr2) hpn hfin ops.size _ a _ ops.toList.zipIdx (dropF T ops.toList (unOf ops.toList) ops.toList.zipIdx (prep T ops.toList σ)) [] [] ow ?_ ?_)
        · unfold unl
          exact Nat.le_trans (List.countP_le_length) (by simp)
        · refine ⟨by simp, fun p => ?_, ?_, fun j hj => (by rw [hno] at hj; cases hj), hk, fun p hp hf => dropF_dead _ _ p hp hf, ?_⟩
          · rw [hno]
            obtain ⟨x, q⟩ := p
            rw [List.mem_zipIdx_iff_getElem?]
            simp
          · rw [List.pairwise_iff_getElem]
            intro i j hi hj hij
            simp only [List.getElem_zipIdx]
            omega
          · exact (Sim.dropF (P := P) _ hp).drew
      | true =>
        rw [hreg] at hk
        obtain ⟨Ef, h1, h2, h3⟩ := seg_split _ _ _ hk
        refine wp_region_any hT.mixed (drawn_any hT hE.call hE.loud (regOk_ok hreg) hpn hfin ops.size _ a _ 0 (prep T ops.toList σ) Ef ow ?_ ?_)
        · unfold unl
          exact Nat.le_trans (List.countP_le_length) (by simp)
        · have hno : ∀ i, (Array.replicate ops.size false).getD i false = false := fun i => by
            simp only [Array.getD_eq_getD_getElem?, Array.getElem?_replicate]; split <;> rfl
          refine ⟨by simp, fun i hi => by omega, by simpa using h1, by simpa using h2, by simpa using h3, fun i _ => hno i, fun j hj => (by rw [hno] at hj; cases hj), ?_⟩
          rw [stM_none Ef (fun i => by rw [hno])]
          have hd := hp.drew
          exact hd.freeze _
  | _ => exact fun _ σ a w ow K Q hk => by cases hk
end
end Go.Proofs.YtaapkkeogajfpaaDoor.VM

/- The abstract machine and the memory: functions. -/
set_option linter.unusedVariables false
set_option linter.unusedSimpArgs false
namespace Go.Proofs.YtaapkkeogajfpaaDoor.VM

section
variable {T : TT} {r : Res}

/-- a parameter's slot -/
def SlotOk (k : Nat) (a x : V) : Prop :=
  ((∀ cs, a ≠ .io cs) ∧ ∀ w A ow ob u, VR w A u a → SR w A ow ob u x) ∨ ∃ cs, a = .io cs ∧ x = .ptr k none 0 0
/-- boxes come in where the types say so -/
def MatchA (T : TT) : List TypeId → List V → Prop
  | [], caps => ∀ c ∈ caps, ∃ x j, c = .rp x j
  | t :: ts, a :: args => ((∃ ss cs, T.ty t = .p ss ∧ a = .io cs) ∨ ((∀ ss, T.ty t ≠ .p ss) ∧ ∀ cs, a ≠ .io cs)) ∧ MatchA T ts args
  | _ :: _, [] => False

theorem init_ok {n : Nat} : ∀ (ts : List TypeId) (args : List V) (i : Nat) {K : List V → List Ob → Option Res}, init T n args ts i K = some r →
    ∃ sl ob, K sl ob = some r ∧ sl.length = n - i ∧ ob.length = n - i ∧ i + args.length ≤ n ∧ MatchA T ts args ∧
      (∀ (j : Nat) a x, args[j]? = some a → sl[j]? = some x → SlotOk (i + j) a x) ∧ (∀ j, args.length ≤ j → sl.getD j .dead = .dead) ∧
      ∀ j, ob.getD j .none = (args.map obArg).getD j .none
  | [], caps, i, K, h => by
    unfold init at h
    obtain ⟨hc, hK⟩ := bif_some h
    simp only [Bool.and_eq_true] at hc
    have hle := Nat.le_of_ble_eq_true hc.2
    have hrp : ∀ c ∈ caps, ∃ x j, c = .rp x j := fun c hm => by
      have := List.all_eq_true.1 hc.1 c hm
      cases c <;> first | exact ⟨_, _, rfl⟩ | cases this
    refine ⟨_, _, hK, by simp only [List.length_append, List.length_replicate]; omega, by simp, hle, hrp, fun j a x ha hx => ?_, fun j hj => ?_, fun j => ?_⟩
    · have hj : j < caps.length := (List.getElem?_eq_some_iff.1 ha).1
      rw [List.getElem?_append_left hj, ha] at hx
      cases hx
      obtain ⟨y, q, rfl⟩ := hrp a (List.mem_of_getElem? ha)
      exact .inl ⟨by simp, fun w A ow ob u hu => hu⟩
    · rw [List.getD_eq_getElem?_getD, List.getElem?_append_right hj, List.getElem?_replicate]
      split <;> rfl
    · have h1 : (List.replicate (n - i) Ob.none).getD j .none = .none := getD_none (fun o ho => (List.mem_replicate.1 ho).2) j
      have h2 : (caps.map obArg).getD j .none = .none := getD_none (fun o ho => by
        obtain ⟨c, hc, rfl⟩ := List.mem_map.1 ho
        obtain ⟨y, q, rfl⟩ := hrp c hc
        rfl) j
      rw [h1, h2]
  | t :: ts, [], i, K, h => by cases h
  | t :: ts, a :: args, i, K, h => by
    have step : ∀ (x : V) (o : Ob), o = obArg a → SlotOk i a x → ((∃ ss cs, T.ty t = .p ss ∧ a = .io cs) ∨ ((∀ ss, T.ty t ≠ .p ss) ∧ ∀ cs, a ≠ .io cs)) →
        init T n args ts (i + 1) (fun sl ob => K (x :: sl) (o :: ob)) = some r →
        ∃ sl ob, K sl ob = some r ∧ sl.length = n - i ∧ ob.length = n - i ∧ i + (a :: args).length ≤ n ∧ MatchA T (t :: ts) (a :: args) ∧
          (∀ (j : Nat) a' x, (a :: args)[j]? = some a' → sl[j]? = some x → SlotOk (i + j) a' x) ∧ (∀ j, (a :: args).length ≤ j → sl.getD j .dead = .dead) ∧
          ∀ j, ob.getD j .none = ((a :: args).map obArg).getD j .none := fun x o ho hx hm he => by
      obtain ⟨sl, ob, hK, h1, h2, h3, h4, h5, h6, h7⟩ := init_ok ts args (i + 1) he
      refine ⟨_, _, hK, by simp only [List.length_cons]; omega, by simp only [List.length_cons]; omega, by simp only [List.length_cons]; omega, ⟨hm, h4⟩, fun j a' y ha hy => ?_, fun j hj => ?_, fun j => ?_⟩
      · cases j with
        | zero => simp at ha hy; subst ha; subst hy; exact hx
        | succ j =>
          have := h5 j a' y (by simpa using ha) (by simpa using hy)
          rw [show i + 1 + j = i + (j + 1) by omega] at this
          exact this
      · cases j with
        | zero => simp at hj
        | succ j =>
          have := h6 j (by simpa using hj)
          simpa [List.getD_eq_getElem?_getD] using this
      · cases j with
        | zero => simp [ho]
        | succ j =>
          have := h7 j
          simpa [List.getD_eq_getElem?_getD] using this
    unfold init at h
    split at h
    · rename_i s hty
      obtain ⟨c, he, hc1, hc2, hc3⟩ := unC_some h
      have hni : ∀ cs, a ≠ .io cs := fun cs e => by rw [e] at hc2; exact hc2
      refine step c .none (obArg_none hni).symm (.inl ⟨hni, fun w A ow ob u hu => ?_⟩) (.inr ⟨fun ss e => (by rw [hty] at e; cases e), hni⟩) he
      rw [hc1.sr]
      rw [hc2.vr] at hu
      exact hc3 _ _ _ hu
    · rename_i ss hty
      obtain ⟨cs, rfl, hl, he⟩ := unSt_some h
      exact step (.dt (.st cs)) .none rfl (.inl ⟨by simp, fun w A ow ob u hu => hu⟩) (.inr ⟨fun ss e => (by rw [hty] at e; cases e), by simp⟩) he
    · rename_i ss hty
      obtain ⟨cs, rfl, he⟩ := unIo_some h
      obtain ⟨_, he⟩ := bif_some he
      exact step _ (.box true cs) rfl (.inr ⟨cs, rfl, rfl⟩) (.inl ⟨ss, cs, hty, rfl⟩) he
    · cases h

def unOb : Ob → Ob
  | .box b cs => .box b (cs.map unO)
  | o => o
theorem outs_ok {ob : List Ob} : ∀ (ts : List TypeId) (args : List V) (i : Nat) {K : List V → Option Res}, MatchA T ts args → outs T ob ts i K = some r →
    ∃ os, K os = some r ∧ ∀ j, (backObs args os).getD j .none = match args[j]? with
      | some (.io _) => unOb (ob.getD (i + j) .none)
      | _ => .none
  | [], caps, i, K, hm, h => by
    refine ⟨[], h, fun j => ?_⟩
    have hni : ∀ x ∈ caps, ∀ cs, x ≠ .io cs := fun x hx cs => by
      obtain ⟨y, q, rfl⟩ := hm x hx; simp
    rw [getD_none (backObs_none hni)]
    split
    · rename_i cs hj
      exact absurd rfl (hni _ (List.mem_of_getElem? hj) cs)
    · rfl
  | t :: ts, a :: args, i, K, hm, h => by
    obtain ⟨hm1, hm2⟩ := hm
    unfold outs at h
    rcases hm1 with ⟨ss, cs, hty, rfl⟩ | ⟨hty, hni⟩
    · rw [hty] at h
      simp only at h
      split at h
      · rename_i cs' hb
        obtain ⟨os, hK, hos⟩ := outs_ok ts args (i + 1) hm2 h
        refine ⟨_, hK, fun j => ?_⟩
        show (obArg (.io (cs'.map unO)) :: backObs args os).getD j .none = _
        cases j with
        | zero => simp [obArg]; rw [← List.getD_eq_getElem?_getD, hb]; rfl
        | succ j =>
          have := hos j
          simp only [List.getD_eq_getElem?_getD, List.getElem?_cons_succ] at this ⊢
          rw [this, show i + 1 + j = i + (j + 1) by omega]
      · cases h
    · have h' : outs T ob ts (i + 1) K = some r := by
        split at h
        · rename_i ss e; exact absurd e (hty ss)
        · exact h
      obtain ⟨os, hK, hos⟩ := outs_ok ts args (i + 1) hm2 h'
      refine ⟨os, hK, fun j => ?_⟩
      have hb : backObs (a :: args) os = .none :: backObs args os := by
        cases a <;> first | rfl | exact absurd rfl (hni _)
      rw [hb]
      cases j with
      | zero =>
        simp only [List.getD_eq_getElem?_getD, List.getElem?_cons_zero, Option.getD_some]
        split
        · rename_i cs e; simp at e; exact absurd e (hni cs)
        · rfl
      | succ j =>
        have := hos j
        simp only [List.getD_eq_getElem?_getD, List.getElem?_cons_succ] at this ⊢
        rw [this, show i + 1 + j = i + (j + 1) by omega]
  | t :: ts, [], i, K, hm, h => hm.elim
end

section
variable {U : Nat → Prop} {w : World} {ow : Own}
theorem getD_un (ob : List Ob) (k : Nat) : (ob.map unOb).getD k .none = unOb (ob.getD k .none) := by
  simp only [List.getD_eq_getElem?_getD, List.getElem?_map]
  cases ob[k]? <;> rfl
theorem unO_own {v : V} {o : Bool} {z : Nat} {xs : List V} (h : unO v = .own o z xs) : v = .own o z xs ∧ o = true := by
  cases v with
  | own o' z' xs' => cases o' <;> simp [unO] at h; exact ⟨by simp [h], h.1⟩
  | _ => simp [unO] at h
theorem segK_un {cs : List V} {n : Nat} : segK (cs.map unO) n ↔ segK cs n := by
  constructor
  · refine segK_sub fun j l xs hj => ?_
    rw [List.getElem?_map] at hj
    obtain ⟨v, hv, hu⟩ := Option.map_eq_some_iff.1 hj
    rw [hv]
    cases v with
    | own o z ys => cases o <;> cases hu
    | _ => first | (cases hu; done) | (cases hu; rfl)
  · refine segK_sub fun j l xs hj => ?_
    rw [List.getElem?_map, hj]; rfl
theorem owned_un (ob : List Ob) (k : Nat) (c : Option Nat) : owned (ob.map unOb) k c ↔ owned ob k c := by
  unfold owned
  rw [getD_un]
  cases ob.getD k .none with
  | none => cases c <;> rfl
  | row => cases c <;> rfl
  | box b cs =>
    cases c with
    | none => rfl
    | some j =>
      simp only [unOb, List.getElem?_map]
      constructor
      · rintro (⟨z, xs, h⟩ | h)
        · obtain ⟨v, hv, hu⟩ := Option.map_eq_some_iff.1 h
          exact .inl ⟨z, xs, by rw [hv, (unO_own hu).1]⟩
        · exact .inr (segK_un.1 h)
      · rintro (⟨z, xs, h⟩ | h)
        · exact .inl ⟨z, xs, by rw [h]; rfl⟩
        · exact .inr (segK_un.2 h)
theorem alive_un {ob : List Ob} {k : Nat} {c : Option Nat} (h : alive (ob.map unOb) k c) : alive ob k c := by
  unfold alive at *
  rw [getD_un] at h
  cases ho : ob.getD k .none with
  | none => rw [ho] at h; cases c <;> exact h
  | row => rw [ho] at h; cases c <;> exact h
  | box b cs =>
    rw [ho] at h
    cases c with
    | none => trivial
    | some j =>
      simp only [unOb, List.getElem?_map] at h
      rcases h with ⟨o, z, xs, h⟩ | h
      · obtain ⟨v, hv, hu⟩ := Option.map_eq_some_iff.1 h
        exact .inl ⟨o, z, xs, by rw [hv, (unO_own hu).1]⟩
      · exact .inr (segK_un.1 h)
theorem Fz.un (ob : List Ob) (b : Nat) : Fz U w ow (ob.map unOb) b ↔ Fz U w ow ob b :=
  ⟨fun h => ⟨h.1, h.2.1, fun k c hk => h.2.2 k c ((owned_un ob k c).2 hk)⟩, fun h => ⟨h.1, h.2.1, fun k c hk => h.2.2 k c ((owned_un ob k c).1 hk)⟩⟩
/-- what is frozen in boxes is data -/
theorem HO.un {ob : List Ob} (h : HO U w ow ob) : HO U w ow (ob.map unOb) := by
  refine ⟨fun k => ?_, fun k c k' c' h1 h2 e => h.inj k c k' c' (alive_un h1) (alive_un h2) e, fun k c h1 => h.lt k c (alive_un h1)⟩
  rw [getD_un]
  have hk := h.obs k
  have hA : ∀ b, Fz U w ow ob b → Fz U w ow (ob.map unOb) b ∧ w.heap[b]? = w.heap[b]? := fun b hb => ⟨(Fz.un ob b).2 hb, rfl⟩
  cases ho : ob.getD k .none with
  | none => trivial
  | row b z xs => rw [ho] at hk; exact hk.keep hA (fun _ => ⟨rfl, rfl⟩) (fun _ _ => ⟨rfl, rfl⟩)
  | box b cs =>
    rw [ho] at hk
    obtain ⟨h1, h2⟩ := hk
    refine ⟨by rw [List.length_map]; exact h1, fun j v x hv hx => ?_⟩
    rw [List.getElem?_map] at hx
    obtain ⟨y, hy, hx⟩ := Option.map_eq_some_iff.1 hx
    have hb := h2 j v y hv hy
    by_cases hfr : ∃ z xs, y = .own false z xs
    · obtain ⟨z, xs, rfl⟩ := hfr
      have hx : V.sl z xs = x := hx
      subst hx
      obtain ⟨c, ⟨rfl, h64⟩, hr⟩ := hb
      have hal : alive ob k (some j) := by unfold alive; rw [ho]; exact .inl ⟨false, z, xs, hy⟩
      have hF : Fz U w ow (ob.map unOb) (ow k (some j)) := (Fz.un ob _).2 ⟨(h.lt _ _ hal).2, (h.lt _ _ hal).1, fun k' c' hk' e => by
        obtain ⟨e1, e2⟩ := h.inj _ _ _ _ (alive_of_owned hk') hal e
        subst e1; subst e2
        unfold owned at hk'
        rw [ho] at hk'
        rcases hk' with ⟨z', xs', hk'⟩ | ⟨l', xs', hk', _⟩
        · rw [hy] at hk'; cases hk'
        · rw [Nat.mod_eq_of_lt h64, hy] at hk'; cases hk'⟩
      have hr' := hr.keep (w' := w) (A' := Fz U w ow (ob.map unOb)) hA rfl
      exact FR.ofRow hr' hF (fun i y hy => hy) rfl hr.le
    · have hyx : unO y = y := by
        cases y with
        | own o z xs => cases o <;> first | rfl | exact absurd ⟨z, xs, rfl⟩ hfr
        | _ => rfl
      rw [hyx] at hx
      subst hx
      exact hb.keep hA (fun _ _ => ⟨rfl, rfl⟩) fun _ => rfl
end
end Go.Proofs.YtaapkkeogajfpaaDoor.VM

/- The abstract machine and the memory: what a function hands back. -/
set_option linter.unusedVariables false
set_option linter.unusedSimpArgs false
namespace Go.Proofs.YtaapkkeogajfpaaDoor.VM

def resG (tmps : Array Value) : ResultVar → Sem Value
  | .tmp t => pure (tmps.getD t undef)
  | .cell a t => do loadVar t (← asAddr (tmps.getD a undef))
theorem results_eq (fn : Func) (tmps : Array Value) : results fn tmps = (do
    let vs ← fn.results.mapM (resG tmps)
    pure (if h : vs.size = 1 then vs[0] else .tuple vs)) := rfl

section
variable {P : Program} {T : TT} {U : Nat → Prop} {w0 w : World} {F0 : Fr} {σ : St} {a : Act} {ow : Own} {r : Res}

theorem box_cells {GL : List (Nat × V)} (h : Sim GL U w0 F0 σ a w ow) {k : Nat} {b : Bool} {cs : List V} (hb : σ.ob.getD k .none = .box b cs) :
    ∃ ecs : List Value, ecs.length = cs.length ∧ At w (ow k none) 0 ecs ∧ ∀ (q : Nat) u y, ecs[q]? = some u → (view k 0 (cs.map eC))[q]? = some y → SC w (Fz U w ow σ.ob) ow σ.ob u y := by
  classical
  have hex : ∀ q : Nat, ∃ u, q < cs.length → w.cell? ⟨ow k none, q, none⟩ = some u ∧ SC w (Fz U w ow σ.ob) ow σ.ob u (viewC k q ((cs.map eC).getD q .dead)) := fun q => by
    by_cases hq : q < cs.length
    · obtain ⟨u, h1, h2⟩ := box_cell h hb hq
      exact ⟨u, fun _ => ⟨h1, h2⟩⟩
    · exact ⟨undef, fun hh => absurd hh hq⟩
  obtain ⟨f', hf'⟩ := Classical.axiomOfChoice hex
  refine ⟨(List.range cs.length).map f', by simp, fun q u hu => ?_, fun q u y hu hy => ?_⟩
  · simp only [List.getElem?_map] at hu
    by_cases hq : q < cs.length
    · rw [List.getElem?_range hq] at hu
      simp at hu; subst hu
      rw [Nat.zero_add]
      exact (hf' q hq).1
    · rw [List.getElem?_eq_none (by simp; omega)] at hu; simp at hu
  · have hq : q < cs.length := by have := (List.getElem?_eq_some_iff.1 hu).1; simpa using this
    simp only [List.getElem?_map, List.getElem?_range hq, Option.map_some, Option.some.injEq] at hu
    subst hu
    rw [view_get, Nat.zero_add] at hy
    have hsc := (hf' q hq).2
    rw [List.getD_eq_getElem?_getD] at hsc
    cases hc : (cs.map eC)[q]? with
    | none => rw [hc] at hy; simp at hy
    | some c =>
      rw [hc] at hy hsc
      simp only [Option.map_some, Option.some.injEq] at hy
      subst hy
      exact hsc

theorem view_length (k : Nat) : ∀ (cs : List V) (j : Nat), (view k j cs).length = cs.length
  | [], _ => rfl
  | c :: cs, j => by simp [view, view_length k cs]

theorem slot_ptr {k t : Nat} {b : Bool} {cs : List V} (h : Sim T.globL U w0 F0 σ a w ow) (hs : σ.sl.getD t .dead = .ptr k none 0 0) (hb : σ.ob.getD k .none = .box b cs) : a.tmps.getD t undef = .pointer (some ⟨ow k none, 0, none⟩) := by
  have h1 := h.slots t
  rw [hs] at h1
  rcases h1 with ⟨o', cs'', _, _, e⟩ | ⟨o', z, xs, e, _⟩
  · exact e
  · rw [hb] at e; cases e

theorem retV_ok (hT : TOk P T) (h : Sim T.globL U w0 F0 σ a w ow) {rv : ResultVar} {ty : TypeId} {K : V → List (Nat × Option Nat) → Option Res} (hk : retV T σ rv ty K = some r) :
    ∃ x s u, K x s = some r ∧ (resG a.tmps rv).run P w = .ok u w ∧ ∀ s', (∀ q ∈ s, q ∈ s') → VR w (Fz U w ow (freeze σ.ob s')) u x := by
  cases rv with
  | tmp t =>
    obtain ⟨x, s, hK, hs⟩ := sealV_ok h.ho hk
    exact ⟨x, s, a.tmps.getD t undef, hK, rfl, fun s' hs' => hs s' hs' _ (h.slots t).nrm⟩
  | cell c t =>
    unfold retV at hk
    simp only at hk
    split at hk
    · rename_i k hp
      split at hk
      · rename_i b cs ss hl ht
        obtain ⟨hc, hk2⟩ := bif_some hk
        have hlen := beq_nat.1 hc
        obtain ⟨b', cs', hb', rfl⟩ := lkE_box hl
        obtain ⟨xs, s, hK, hl', hs⟩ := sealCs_ok h.ho hk2
        obtain ⟨ecs, e1, e2, e3⟩ := box_cells h hb'
        rw [List.length_map] at hlen
        rw [nrmCs_length, view_length, List.length_map] at hl'
        refine ⟨_, s, .agg ecs.toArray, hK, ?_, fun s' hs' => ⟨ecs.toArray, rfl, .st (by simp; omega) fun i v x hv hx => ?_⟩⟩
        · have := loadA_fr (w := w) (o := 0) hT ht e2 (by omega)
          simp only [resG, slot_ptr h hp hb', asAddr, Sem.run_bind, Sem.run_pure, Result.andThen_ok]
          simpa [Instr.loadAt, Instr.sureAddr] using this
        · have hv' : ecs[i]? = some v := by simpa using hv
          have hi : i < (view k 0 (cs'.map eC)).length := by
            have := (List.getElem?_eq_some_iff.1 hv').1
            rw [view_length, List.length_map]; omega
          have hy : (view k 0 (cs'.map eC))[i]? = some ((view k 0 (cs'.map eC))[i]'hi) := List.getElem?_eq_getElem hi
          have hi2 : i < (nrmCs ss (view k 0 (cs'.map eC))).length := by rw [nrmCs_length]; exact hi
          have hy2 := List.getElem?_eq_getElem hi2
          obtain ⟨c0, hc0, e0⟩ := nrmCs_get _ _ i hy2
          rw [hy] at hc0
          cases hc0
          refine (hs i x _ hx hy2).2 s' hs' v ?_
          rcases e0 with e0 | ⟨s0, e0⟩
          · rw [e0]; exact e3 i v _ hv' hy
          · rw [e0]; exact (e3 i v _ hv' hy).nrm
      · rename_i b c' s0 hl ht
        obtain ⟨b', cs', hb', he⟩ := lkE_box hl
        obtain ⟨x, s, hK, hs⟩ := sealC_ok h.ho hk
        obtain ⟨ecs, e1, e2, e3⟩ := box_cells h hb'
        rw [← he] at e3
        have hlen : ecs.length = 1 := by rw [e1, ← List.length_map (f := eC), ← he]; rfl
        match ecs, hlen with
        | [u], _ =>
          have hcell := e2 0 u rfl
          refine ⟨x, s, u, hK, ?_, fun s' hs' => ?_⟩
          · simp only [resG, slot_ptr h hp hb', asAddr, Sem.run_bind, Sem.run_pure, Result.andThen_ok]
            simp [loadVar, isAgg_false hT ht, hcell]
          · have h1 := hs.2 s' hs' u (e3 0 u _ rfl rfl)
            rw [hs.1.vr]; exact h1
      · cases hk
    · cases hk

theorem retVs_ok (hT : TOk P T) (h : Sim T.globL U w0 F0 σ a w ow) : ∀ {rs : List ResultVar} {ts : List TypeId} {K : List V → List (Nat × Option Nat) → Option Res}, retVs T σ rs ts K = some r →
    ∃ xs s us, K xs s = some r ∧ (rs.mapM (resG a.tmps)).run P w = .ok us w ∧ us.length = xs.length ∧ xs.length = rs.length ∧ ∀ s', (∀ q ∈ s, q ∈ s') → ∀ (i : Nat) u x, us[i]? = some u → xs[i]? = some x → VR w (Fz U w ow (freeze σ.ob s')) u x
  | [], ts, K, hk => ⟨[], [], [], hk, by simp, rfl, rfl, fun s' _ i u x hu => by simp at hu⟩
  | rv :: rs, ts, K, hk => by
    unfold retVs at hk
    obtain ⟨x, s, u, h1, h2, h3⟩ := retV_ok hT h hk
    obtain ⟨xs, s2, us, g1, g2, g3, g4, g5⟩ := retVs_ok hT h h1
    refine ⟨x :: xs, s ++ s2, u :: us, g1, ?_, by simp [g3], by simp [g4], fun s' hs' i u' x' hu hx => ?_⟩
    · rw [List.mapM_cons]
      simp [h2, g2]
    · cases i with
      | zero =>
        simp at hu hx
        subst hu; subst hx
        exact h3 s' fun q hq => hs' q (List.mem_append_left _ hq)
      | succ i => exact g5 s' (fun q hq => hs' q (List.mem_append_right _ hq)) i u' x' (by simpa using hu) (by simpa using hx)
end
end Go.Proofs.YtaapkkeogajfpaaDoor.VM

/- The abstract machine and the memory: calls of functions, to any depth. -/
set_option linter.unusedVariables false
set_option linter.unusedSimpArgs false
namespace Go.Proofs.YtaapkkeogajfpaaDoor.VM

section
variable {P : Program} {T : TT} {U : Nat → Prop} {w0 w : World} {F0 : Fr} {σ : St} {a : Act} {ow : Own} {r : Res}

/-- some of the objects: the others are no more -/
theorem HO.part {ob L : List Ob} (h : HO U w ow ob) (hL : ∀ k, L.getD k .none = ob.getD k .none ∨ L.getD k .none = .none) :
    HO U w ow L ∧ (∀ k c, owned L k c → owned ob k c) := by
  have hal : ∀ k c, alive L k c → alive ob k c := fun k c ha => by
    rcases hL k with e | e
    · rw [← alive_congr e c]; exact ha
    · exact absurd ha (alive_none e)
  have how : ∀ k c, owned L k c → owned ob k c := fun k c ha => by
    rcases hL k with e | e
    · rw [← owned_congr e c]; exact ha
    · exact absurd (alive_of_owned ha) (alive_none e)
  refine ⟨⟨fun k => ?_, fun k c k' c' h1 h2 e => h.inj k c k' c' (hal _ _ h1) (hal _ _ h2) e, fun k c h1 => h.lt k c (hal _ _ h1)⟩, how⟩
  rcases hL k with e | e
  · rw [e]
    exact (h.obs k).keep (fun b hb => ⟨⟨hb.1, hb.2.1, fun k c hk => hb.2.2 k c (how k c hk)⟩, rfl⟩) (fun _ => ⟨rfl, rfl⟩) (fun _ _ => ⟨rfl, rfl⟩)
  · rw [e]; trivial

/-- what is handed back -/
structure Back (P : Program) (U : Nat → Prop) (w : World) (ow : Own) (fn : Func) (tmps : Array Value) (vs : List V) (ob : List Ob) (r : Res) : Prop where
  out : ∃ u ow2, (results fn tmps).run P w = .ok u w ∧ HO U w ow2 (resObs vs r) ∧ (∀ (i : Nat) cs, vs[i]? = some (.io cs) → ow2 i none = ow i none ∧ ob.getD i .none ≠ .none) ∧
    (∀ k c, owned (resObs vs r) k c → ∃ k' c', owned ob k' c' ∧ ow k' c' = ow2 k c) ∧ ResR w (Fz U w ow2 (resObs vs r)) ow2 vs.length u r.1

theorem MatchA.le : ∀ {ts : List TypeId} {vs : List V}, MatchA T ts vs → ts.length ≤ vs.length
  | [], _, _ => Nat.zero_le _
  | _ :: _, _ :: _, h => Nat.succ_le_succ (MatchA.le h.2)
  | _ :: _, [], h => h.elim
theorem MatchA.io : ∀ {ts : List TypeId} {vs : List V}, MatchA T ts vs → ∀ (i : Nat) cs, vs[i]? = some (.io cs) → i < ts.length
  | [], vs, h, i, cs, hi => by
    obtain ⟨x, j, e⟩ := h _ (List.mem_of_getElem? hi)
    cases e
  | t :: ts, v :: vs, h, i, cs, hi => by
    cases i with
    | zero => simp
    | succ i => have := MatchA.io h.2 i cs (by simpa using hi); simp only [List.length_cons]; omega
  | _ :: _, [], h, _, _, _ => h.elim

theorem MatchA.ioP : ∀ {ts : List TypeId} {vs : List V}, MatchA T ts vs → ∀ (i : Nat) cs, vs[i]? = some (.io cs) → isP T ts i = true
  | [], vs, h, i, cs, hi => by
    obtain ⟨x, j, e⟩ := h _ (List.mem_of_getElem? hi)
    cases e
  | t :: ts, v :: vs, h, i, cs, hi => by
    cases i with
    | zero =>
      simp at hi
      rcases h.1 with ⟨ss, cs', e1, _⟩ | ⟨_, h2⟩
      · unfold isP; simp [e1]
      · exact absurd hi (h2 cs)
    | succ i =>
      have := MatchA.ioP h.2 i cs (by simpa using hi)
      unfold isP at this ⊢
      simpa using this
  | _ :: _, [], h, _, _, _ => h.elim

theorem outs_alive {ob : List Ob} : ∀ (ts : List TypeId) (args : List V) (i : Nat) {K : List V → Option Res}, MatchA T ts args → outs T ob ts i K = some r → ∀ (j : Nat) cs, args[j]? = some (.io cs) → ob.getD (i + j) .none ≠ .none
  | [], caps, i, K, hm, h, j, cs, hj => by
    obtain ⟨y, q, e⟩ := hm _ (List.mem_of_getElem? hj); cases e
  | t :: ts, a :: args, i, K, hm, h, j, cs, hj => by
    obtain ⟨hm1, hm2⟩ := hm
    unfold outs at h
    rcases hm1 with ⟨ss, cs, hty, rfl⟩ | ⟨hty, hni⟩
    · rw [hty] at h
      simp only at h
      split at h
      · rename_i cs' hb
        cases j with
        | zero => rw [Nat.add_zero, hb]; simp
        | succ j =>
          have := outs_alive ts args (i + 1) hm2 h j _ (by simpa using hj)
          rw [show i + 1 + j = i + (j + 1) by omega] at this
          exact this
      · cases h
    · have h' : outs T ob ts (i + 1) K = some r := by
        split at h
        · rename_i ss e; exact absurd e (hty ss)
        · exact h
      cases j with
      | zero => simp at hj; exact absurd hj (hni cs)
      | succ j =>
        have := outs_alive ts args (i + 1) hm2 h' j cs (by simpa using hj)
        rw [show i + 1 + j = i + (j + 1) by omega] at this
        exact this
  | t :: ts, [], i, K, hm, h, _, _, _ => hm.elim

theorem kret_ok (hT : TOk P T) {fn : Func} {vs : List V} (hm : MatchA T fn.params.toList vs) (h : Sim T.globL U w0 F0 σ a w ow) {e : Ex} (hk : kret T fn e σ = some r) : ∃ s, Back P U w ow fn a.tmps vs (freeze σ.ob s) r := by
  have hlen := hm.le
  have low : ∀ (v : V) (os : List V) (j : Nat), j < vs.length → (resObs vs (v, os)).getD j .none = (backObs vs os).getD j .none := fun v os j hj => by
    unfold resObs
    rw [List.getD_eq_getElem?_getD, List.getD_eq_getElem?_getD, List.getElem?_append_left (by rw [backObs_length]; exact hj)]
  have high : ∀ (v : V) (os : List V) (j : Nat), vs.length < j → (resObs vs (v, os)).getD j .none = .none := fun v os j hj => by
    rw [List.getD_eq_getElem?_getD, List.getElem?_eq_none]
    · rfl
    · unfold resObs; simp only [List.length_append, backObs_length, List.length_cons, List.length_nil]; omega
  -- plain results
  have plain : (retVs T σ fn.results.toList fn.resultTypes.toList fun xs s => outs T (freeze σ.ob s) fn.params.toList 0 fun os => some ((match xs with | [v] => v | xs => .tup xs), os)) = some r → ∃ s, Back P U w ow fn a.tmps vs (freeze σ.ob s) r := fun hp => by
    obtain ⟨xs, s, us, h1, h2, h3, h4, h5⟩ := retVs_ok hT h hp
    have hal := outs_alive _ vs 0 hm h1
    obtain ⟨os, hK, hos⟩ := outs_ok _ vs 0 hm h1
    simp only [Option.some.injEq] at hK
    subst hK
    have hrun : (fn.results.mapM (resG a.tmps)).run P w = .ok us.toArray w := by
      rw [Array.mapM_eq_mapM_toList]; simp [h2]
    have hV := h5 s (fun _ hq => hq)
    have hnio : ∀ cs, (match xs with | [v] => v | xs => V.tup xs) ≠ .io cs := fun cs => by
      match xs, us, h3 with
      | [v], [u], _ =>
        have := hV 0 u v rfl rfl
        exact this.notIo cs
      | [], _, _ => simp
      | _ :: _ :: _, _, _ => simp
    have hob : ∀ k, (resObs vs ((match xs with | [v] => v | xs => V.tup xs), os)).getD k .none = ((freeze σ.ob s).map unOb).getD k .none ∨ (resObs vs ((match xs with | [v] => v | xs => V.tup xs), os)).getD k .none = .none := fun k => by
      rcases Nat.lt_trichotomy k vs.length with hk | hk | hk
      · rw [low _ _ _ hk, hos k]
        split
        · rw [Nat.zero_add, getD_un]; exact .inl rfl
        · exact .inr rfl
      · subst hk
        rw [getD_res]
        exact .inr (obArg_none hnio)
      · exact .inr (high _ _ _ hk)
    obtain ⟨hho, how'⟩ := (h.freeze s).ho.un.part hob
    have how : ∀ k c, owned (resObs vs ((match xs with | [v] => v | xs => V.tup xs), os)) k c → owned (freeze σ.ob s) k c := fun k c hk => (owned_un _ k c).1 (how' k c hk)
    refine ⟨s, ⟨if hs : us.toArray.size = 1 then us.toArray[0] else .tuple us.toArray, ow, ?_, hho, fun i cs hi => ⟨rfl, by have := hal i cs hi; rwa [Nat.zero_add] at this⟩, fun k c hk => ⟨k, c, how k c hk, rfl⟩, ?_⟩⟩
    · rw [results_eq]
      simp [hrun]
    · have hA : ∀ b, Fz U w ow (freeze σ.ob s) b → Fz U w ow (resObs vs ((match xs with | [v] => v | xs => V.tup xs), os)) b := fun b hb => ⟨hb.1, hb.2.1, fun k c hk => hb.2.2 k c (how k c hk)⟩
      match xs, us, h3, hV, hnio, hA with
      | [v], [u], _, hV, hnio, hA =>
        have h6 := (hV 0 u v rfl rfl).mono (w' := w) (fun _ _ => rfl) hA
        by_cases ht : ∃ ts, v = .tup ts
        · obtain ⟨ts, rfl⟩ := ht
          have h7 : FR w (Fz U w ow (freeze σ.ob s)) [u] (.tup ts) := hV 0 u _ rfl rfl
          cases h7
        · show ResR w _ ow vs.length u v
          rw [resR_vr hnio (fun ts e => ht ⟨ts, e⟩)]
          exact h6
      | [], [], _, _, _, _ => exact ⟨#[], rfl, rfl, fun j q y hq => by simp at hq⟩
      | x1 :: x2 :: xs, u1 :: u2 :: us, h3, hV, _, hA =>
        refine ⟨(u1 :: u2 :: us).toArray, ?_, by simpa using h3, fun j q y hq hy => (hV j q y (by simpa using hq) hy).mono (fun _ _ => rfl) hA⟩
        rw [dif_neg (by simp)]
  have boxed : ∀ t k, fn.results.toList = [.tmp t] → σ.sl.getD t .dead = .ptr k none 0 0 → (bif Nat.ble fn.params.size k then match σ.ob.getD k .none with
        | .box true cs => sealCs (lkE σ) (view k 0 (cs.map eC)) fun cs s => match (freeze σ.ob s).getD k .none with
          | .box true _ => outs T (freeze σ.ob s) fn.params.toList 0 fun os => some (.io cs, os)
          | _ => none
        | _ => none else none) = some r → ∃ s, Back P U w ow fn a.tmps vs (freeze σ.ob s) r := fun t k hres hsl hk => by
    obtain ⟨hle, hk1⟩ := bif_some hk
    have hle := Nat.le_of_ble_eq_true hle
    split at hk1
    · rename_i cs hb
      obtain ⟨xs, s, hk2, hl, hs⟩ := sealCs_ok h.ho hk1
      split at hk2
      · rename_i cs2 hfz
        have hal := outs_alive _ vs 0 hm hk2
        obtain ⟨os, hK, hos⟩ := outs_ok _ vs 0 hm hk2
        simp only [Option.some.injEq] at hK
        subst hK
        obtain ⟨ecs, e1, e2, e3⟩ := box_cells h hb
        rw [view_length, List.length_map] at hl
        have hallC : ∀ c ∈ xs, isC c := fun c hc => by
          obtain ⟨j, hj, rfl⟩ := List.getElem_of_mem hc
          have hi : j < (view k 0 (cs.map eC)).length := by rw [view_length, List.length_map]; omega
          exact (hs j _ _ (List.getElem?_eq_getElem hj) (List.getElem?_eq_getElem hi)).1
        have h2ho := (h.freeze s).ho.un
        have hfz' : ((freeze σ.ob s).map unOb).getD k .none = .box true (cs2.map unO) := by rw [getD_un, hfz]; rfl
        have hlow : ∀ j, j < vs.length → (resObs vs (.io xs, os)).getD j .none = ((freeze σ.ob s).map unOb).getD j .none ∧ j < fn.params.size ∨ (resObs vs (.io xs, os)).getD j .none = .none := fun j hj => by
          rw [low _ _ _ hj, hos j]
          split
          · rename_i cs' hj'
            rw [Nat.zero_add, getD_un]
            exact .inl ⟨rfl, by simpa using hm.io j cs' hj'⟩
          · exact .inr rfl
        have hn : (resObs vs (.io xs, os)).getD vs.length .none = .box true xs := getD_res
        let ow2 : Own := upd ow vs.length fun _ => ow k none
        -- where an object of the result was
        have hwas : ∀ j c, alive (resObs vs (.io xs, os)) j c → (j < vs.length ∧ j < fn.params.size ∧ (resObs vs (.io xs, os)).getD j .none = ((freeze σ.ob s).map unOb).getD j .none ∧ ow2 j c = ow j c) ∨ (j = vs.length ∧ c = none ∧ ow2 j c = ow k none) := fun j c ha => by
          rcases Nat.lt_trichotomy j vs.length with hj | hj | hj
          · rcases hlow j hj with ⟨e, hp⟩ | e
            · exact .inl ⟨hj, hp, e, upd_other _ _ _ (by omega)⟩
            · exact absurd ha (alive_none e)
          · subst hj
            exact .inr ⟨rfl, alive_box hn hallC ha, upd_same _ _ _ _⟩
          · exact absurd ha (alive_none (high _ _ _ hj))
        have hkal : alive ((freeze σ.ob s).map unOb) k none := by unfold alive; rw [hfz']; trivial
        have hkow : owned (freeze σ.ob s) k none := by unfold owned; rw [hfz]
        have howned : ∀ j c, owned (resObs vs (.io xs, os)) j c → ∃ k' c', owned (freeze σ.ob s) k' c' ∧ ow k' c' = ow2 j c := fun j c ho => by
          rcases hwas j c (alive_of_owned ho) with ⟨_, _, e, e2⟩ | ⟨_, rfl, e2⟩
          · exact ⟨j, c, (owned_un _ j c).1 (by rw [← owned_congr e c]; exact ho), e2.symm⟩
          · exact ⟨k, none, hkow, e2.symm⟩
        have hA : ∀ b, Fz U w ow (freeze σ.ob s) b → Fz U w ow2 (resObs vs (.io xs, os)) b := fun b hb => ⟨hb.1, hb.2.1, fun j c ho => by
          obtain ⟨k', c', g1, g2⟩ := howned j c ho
          rw [← g2]; exact hb.2.2 k' c' g1⟩
        refine ⟨s, ⟨a.tmps.getD t undef, ow2, ?_, ⟨fun j => ?_, fun j c j' c' h1 h3 he => ?_, fun j c h1 => ?_⟩, fun i cs' hi => ⟨upd_other _ _ _ (by have := (List.getElem?_eq_some_iff.1 hi).1; omega), by have := hal i cs' hi; rwa [Nat.zero_add] at this⟩, howned, ?_⟩⟩
        · have : fn.results = #[.tmp t] := by
            have := congrArg List.toArray hres
            simpa using this
          exact results_tmp this a.tmps P w
        · rcases Nat.lt_trichotomy j vs.length with hj | hj | hj
          · rcases hlow j hj with ⟨e, _⟩ | e
            · rw [e]
              have := h2ho.obs j
              exact this.keep (fun b hb => ⟨hA b ((Fz.un _ b).1 hb), rfl⟩) (fun _ => ⟨upd_other _ _ _ (by omega), rfl⟩) (fun _ _ => ⟨upd_other _ _ _ (by omega), rfl⟩)
            · rw [e]; trivial
          · subst hj
            rw [hn]
            have hor := h.ho.obs k
            rw [hb] at hor
            refine ⟨by rw [show ow2 vs.length none = ow k none from upd_same _ _ _ _, hl]; exact hor.1, fun q v x hv hx => ?_⟩
            rw [show ow2 vs.length none = ow k none from upd_same _ _ _ _] at hv
            have hq : q < xs.length := (List.getElem?_eq_some_iff.1 hx).1
            have hqe : q < ecs.length := by omega
            have hec := e2 q _ (List.getElem?_eq_getElem hqe)
            rw [Nat.zero_add] at hec
            rw [hec] at hv
            cases hv
            have hi : q < (view k 0 (cs.map eC)).length := by rw [view_length, List.length_map]; omega
            obtain ⟨g1, g2⟩ := hs q x _ hx (List.getElem?_eq_getElem hi)
            rw [g1.bc]
            exact (g2 s (fun _ hq => hq) _ (e3 q _ _ (List.getElem?_eq_getElem hqe) (List.getElem?_eq_getElem hi))).mono (fun _ _ => rfl) hA
          · rw [high _ _ _ hj]; trivial
        · rcases hwas j c h1 with ⟨a1, a2, a3, a4⟩ | ⟨a1, a2, a4⟩ <;> rcases hwas j' c' h3 with ⟨b1, b2, b3, b4⟩ | ⟨b1, b2, b4⟩
          · rw [a4, b4] at he
            exact h2ho.inj j c j' c' (by rw [← alive_congr a3 c]; exact h1) (by rw [← alive_congr b3 c']; exact h3) he
          · rw [a4, b4] at he
            have := (h2ho.inj j c k none (by rw [← alive_congr a3 c]; exact h1) hkal he).1
            omega
          · rw [a4, b4] at he
            have := (h2ho.inj k none j' c' hkal (by rw [← alive_congr b3 c']; exact h3) he).1
            omega
          · exact ⟨by omega, by rw [a2, b2]⟩
        · rcases hwas j c h1 with ⟨a1, a2, a3, a4⟩ | ⟨a1, a2, a4⟩
          · rw [a4]; exact h2ho.lt j c (by rw [← alive_congr a3 c]; exact h1)
          · rw [a4]; exact h2ho.lt k none hkal
        · show a.tmps.getD t undef = .pointer (some ⟨ow2 vs.length none, 0, none⟩)
          rw [show ow2 vs.length none = ow k none from upd_same _ _ _ _]
          exact slot_ptr h hsl hb
      · cases hk2
    · cases hk1
  have main : (let fin (v : V) (s : List (Nat × Option Nat)) : Option Res := outs T (freeze σ.ob s) fn.params.toList 0 fun os => some (v, os)
    let plain : Option Res := retVs T σ fn.results.toList fn.resultTypes.toList fun vs s => fin (match vs with | [v] => v | vs => .tup vs) s
    match fn.results.toList with
    | [.tmp t] => match σ.sl.getD t .dead with
      | .ptr k none 0 0 => bif Nat.ble fn.params.size k then match σ.ob.getD k .none with
        | .box true cs => sealCs (lkE σ) (view k 0 (cs.map eC)) fun cs s => match (freeze σ.ob s).getD k .none with
          | .box true _ => fin (.io cs) s
          | _ => none
        | _ => none else none
      | _ => plain
    | _ => plain) = some r := by cases e <;> first | exact hk | cases hk
  simp only at main
  split at main
  · rename_i t hres
    split at main
    · rename_i k hsl
      exact boxed t k hres hsl main
    · exact plain main
  · exact plain main

theorem HO.congr {ob L : List Ob} (h : HO U w ow ob) (hL : ∀ k, L.getD k .none = ob.getD k .none) : HO U w ow L := (h.part fun k => .inl (hL k)).1
theorem Fz.congr {ob L : List Ob} (hL : ∀ k, L.getD k .none = ob.getD k .none) (b : Nat) : Fz U w ow L b ↔ Fz U w ow ob b :=
  ⟨fun hb => ⟨hb.1, hb.2.1, fun k c hk => hb.2.2 k c (by rw [owned_congr (hL k) c]; exact hk)⟩, fun hb => ⟨hb.1, hb.2.1, fun k c hk => hb.2.2 k c (by rw [← owned_congr (hL k) c]; exact hk)⟩⟩

/-- A FUNCTION -/
theorem runB_ok (hT : TOk P T) {E : Env} (hE : EnvOk P T E) : CallOk P T.globL (runB T E) where
  fn := fun f vs r h => by
    unfold runB at h
    split at h
    · rename_i fn hf
      split at h
      · rename_i c hb
        exact ⟨fn, c, (hT.fn f fn hf).1, (hT.fn f fn hf).2, hb⟩
      · cases h
    · cases h
  ok := fun f vs r h U w ow cargs hsz hho harg hgl hun => by
    unfold runB at h
    split at h
    · rename_i fn hf
      split at h
      · rename_i c hb
        obtain ⟨hdst, h1⟩ := bif_some h
        obtain ⟨sl, ob, hk, hl1, hl2, hle, hm, hslot, hdead, hob⟩ := init_ok _ vs 0 h1
        refine calls_of_wp (hT.fn f fn hf).1 hb ?_
        have hobF := Fz.congr (U := U) (w := w) (ow := ow) hob
        let F0 : Fr := ⟨ownB (vs.map obArg) ow, fun i => if isP T fn.params.toList i = true then some (ow i none) else none⟩
        have hsim : Sim T.globL U w F0 ⟨sl, ob⟩ { tmps := cargs ++ Array.replicate (fn.ntmps - cargs.size) undef, defers := [] } w ow := by
          refine ⟨by simp only [Array.size_append, Array.size_replicate]; omega, by show ob.length = sl.length; omega, fun i => ?_, hho.congr hob, .refl _ _, fun k c hk => ?_, hun, fun b ⟨k, c, hk, hb⟩ => by rw [← hb]; exact (hho.lt k c (alive_of_owned hk)).2, rfl, hgl.mono fun b hb => ⟨(hobF b).2 hb, rfl⟩, fun k b hk => .inr ?_, fun _ _ ht => ht⟩
          · by_cases hi : i < vs.length
            · have hc : cargs[i]? = some (cargs[i]'(by omega)) := Array.getElem?_eq_getElem (by omega)
              have hv : vs[i]? = some vs[i] := List.getElem?_eq_getElem hi
              have hx : sl[i]? = some (sl[i]'(by omega)) := List.getElem?_eq_getElem (by omega)
              have ha := harg i _ _ hc hv
              have hs := hslot i _ _ hv hx
              rw [Nat.zero_add] at hs
              have e1 : (cargs ++ Array.replicate (fn.ntmps - cargs.size) undef).getD i undef = cargs[i]'(by omega) := by
                rw [Array.getD_eq_getD_getElem?, Array.getElem?_append_left (by omega), hc]; rfl
              have e2 : sl.getD i .dead = sl[i]'(by omega) := by rw [List.getD_eq_getElem?_getD, hx]; rfl
              show SR w (Fz U w ow ob) ow ob ((cargs ++ Array.replicate (fn.ntmps - cargs.size) undef).getD i undef) (sl.getD i .dead)
              rw [e1, e2]
              rcases hs with ⟨hni, hs⟩ | ⟨cs, he, hx'⟩
              · have ha' : VR w (Fz U w ow (vs.map obArg)) (cargs[i]'(by omega)) vs[i] := by
                  revert ha hni
                  generalize vs[i] = y
                  intro ha hni
                  cases y <;> first | exact ha | exact absurd rfl (hni _)
                exact hs _ _ _ _ _ (ha'.mono (fun _ _ => rfl) fun b hb => (hobF b).2 hb)
              · rw [hx']
                rw [he] at ha
                refine .inl ⟨true, cs, ?_, rfl, ha⟩
                rw [hob i, List.getD_eq_getElem?_getD, List.getElem?_map, hv, he]
                rfl
            · show SR w (Fz U w ow ob) ow ob _ (sl.getD i .dead)
              rw [hdead i (by omega)]
              trivial
          · exact .inl ⟨k, c, by rw [← owned_congr (hob k) c]; exact hk, rfl⟩
          · show ow k none = b
            have hk : (if isP T fn.params.toList k = true then some (ow k none) else none) = some b := hk
            split at hk
            · cases hk; rfl
            · cases hk
        refine exC_ok (F0 := F0) hT hE c (fun o ho d hd => ?_) ⟨sl, ob⟩ _ w ow (kret T fn) _ hk hsim fun e σ' a' w' ow' hk' h' => ?_
        · have := List.all_eq_true.1 hdst o ho
          unfold dstGe at this
          rw [hd] at this
          exact if_neg (by simpa using this)
        · obtain ⟨s, ⟨u, ow2, g1, g2, g3, g4, g5⟩⟩ := kret_ok (P := P) hT hm h' hk'
          have hR : a'.defers = [] ∧ ∃ v, (results fn a'.tmps).run P w' = .ok v w' ∧ ∃ u ow', Ending.returned v = .returned u ∧ (Ext w w' (ownB (vs.map obArg) ow) ∧ ∀ b n, Th w b n → Th w' b n) ∧ HO U w' ow' (resObs vs r) ∧
              (∀ (i : Nat) cs, vs[i]? = some (.io cs) → ow' i none = ow i none) ∧
              (∀ k c, owned (resObs vs r) k c → ownB (vs.map obArg) ow (ow' k c) ∨ w.heap.size ≤ ow' k c) ∧
              ResR w' (Fz U w' ow' (resObs vs r)) ow' vs.length u r.1 := by
            refine ⟨h'.defers, u, g1, u, ow2, rfl, ⟨h'.ext, h'.thk⟩, g2, fun i cs hi => ?_, fun k c hk => ?_, g5⟩
            · obtain ⟨e1, e2⟩ := g3 i cs hi
              have hip : isP T fn.params.toList i = true := hm.ioP i cs hi
              have := h'.pin i (ow i none) (by show (if isP T fn.params.toList i = true then some (ow i none) else none) = _; rw [if_pos hip])
              rw [e1]
              refine this.resolve_left fun hn => e2 ?_
              rw [getD_freeze, hn, frzK_none]
            · obtain ⟨k', c', q1, q2⟩ := g4 k c hk
              rw [← q2]
              exact h'.own0 k' c' (owned_freeze s q1).1
          cases e with
          | normal => exact hR
          | ret => exact hR
          | exit id => cases hk'
      · cases h
    · cases h

/-- what is known by contracts -/
def XOk (P : Program) (T : TT) : Prop := ∀ f g, fnd T.extL f = some g → CallOk P T.globL fun f' vs => bif Nat.beq f' f then g vs else none
structure TOk2 (P : Program) (T : TT) : Prop extends TOk P T where
  ext : XOk P T
theorem runF_ok (hT : TOk2 P T) {E : Env} (hE : EnvOk P T E) : CallOk P T.globL (runF T E) where
  fn := fun f vs r h => by
    unfold runF at h
    split at h
    · rename_i g hg
      exact (hT.ext f g hg).fn f vs r (by rw [Nat.beq_refl]; exact h)
    · exact (runB_ok hT.toTOk hE).fn f vs r h
  ok := fun f vs r h => by
    unfold runF at h
    split at h
    · rename_i g hg
      exact (hT.ext f g hg).ok f vs r (by rw [Nat.beq_refl]; exact h)
    · exact (runB_ok hT.toTOk hE).ok f vs r h

/-! ### to any depth -/
theorem least {p : Nat → Prop} (h : ∃ n, p n) : ∃ n, p n ∧ ∀ m, m < n → ¬ p m := by
  classical
  obtain ⟨n, hn⟩ := h
  induction n using Nat.strongRecOn with
  | ind n ih =>
    by_cases hm : ∃ m, m < n ∧ p m
    · obtain ⟨m, h1, h2⟩ := hm
      exact ih m h1 h2
    · exact ⟨n, hn, fun m hlt hp => hm ⟨m, hlt, hp⟩⟩
noncomputable def lst (p : Nat → Prop) : Nat := by
  classical
  exact if h : ∃ n, p n then Classical.choose (least h) else 0
theorem lst_spec {p : Nat → Prop} (h : ∃ n, p n) : p (lst p) ∧ ∀ m, p m → lst p ≤ m := by
  unfold lst
  rw [dif_pos h]
  obtain ⟨h1, h2⟩ := Classical.choose_spec (least h)
  exact ⟨h1, fun m hm => Nat.not_lt.1 fun hlt => h2 m hlt hm⟩
theorem exE_ok (hT : TOk2 P T) (hL : ∀ call, CallOk P T.globL call → LoudOk P T call) : ∀ n, EnvOk P T (exE T n)
  | 0 => by
    have hc : CallOk P T.globL (exE T 0).call := ⟨fun f vs r h => (by cases h), fun f vs r h => (by cases h)⟩
    exact ⟨hc, hL _ hc, fun kp b σ K r h => (by cases h)⟩
  | n + 1 => by
    have ih := exE_ok hT hL n
    have hc : CallOk P T.globL (exE T (n + 1)).call := runF_ok hT ih
    refine ⟨hc, hL _ hc, fun kp b σ K r hk U w0 F0 a w ow Q hpn h hQ => ?_⟩
    -- rounds: so many as are left
    let Left : Act → World → Nat → Prop := fun a w m => m ≤ n + 1 ∧ ∃ σ ow, (exE T m).loop kp b σ K = some r ∧ Sim T.globL U w0 F0 σ a w ow
    refine wp_loop (fun a w => ∃ m, Left a w m) (fun a w => lst (Left a w)) ⟨n + 1, Nat.le_refl _, σ, ow, hk, h⟩ fun a w hI => ?_
    obtain ⟨⟨hle, σ1, ow1, hk1, h1⟩, _⟩ := lst_spec hI
    generalize hm : lst (Left a w) = m at hle hk1
    cases m with
    | zero => cases hk1
    | succ m =>
      have hk2 : exC T (exE T m) kp b σ1 (fun e σ => match e with
        | .normal => (exE T m).loop kp b (lpClean kp b σ) K
        | e => K e σ) = some r := hk1
      have hEm : EnvOk P T (exE T m) := exE_ok hT hL m
      refine exC_ok hT.toTOk hEm b hpn σ1 a w ow1 _ _ hk2 h1 fun e σ' a' w' ow' hk' h' => ?_
      cases e with
      | normal =>
        have hI' : Left a' w' m := ⟨by omega, _, ow', hk', h'.lpClean kp b⟩
        refine ⟨⟨m, hI'⟩, ?_⟩
        exact Nat.lt_succ_of_le ((lst_spec ⟨m, hI'⟩).2 m hI')
      | exit id => exact hQ (.exit id) σ' a' w' ow' hk' h'
      | ret => exact hQ .ret σ' a' w' ow' hk' h'
termination_by n => n
decreasing_by all_goals omega
end
end Go.Proofs.YtaapkkeogajfpaaDoor.VM

/- The abstract machine and the memory: stores. -/
set_option linter.unusedVariables false
set_option linter.unusedSimpArgs false
namespace Go.Proofs.YtaapkkeogajfpaaDoor.VM

section
variable {P : Program} {T : TT} {U : Nat → Prop} {w0 w w' : World} {F0 : Fr} {σ : St} {a : Act} {ow ow' : Own}

/-- own memory turns -/
theorem Sim.turn {GL : List (Nat × V)} (h : Sim GL U w0 F0 σ a w ow) (hx : Ext w w' (ownB σ.ob ow)) (hT : ∀ b n, Th w b n → Th w' b n) (sl' : List V) (ob' : List Ob)
    (hl : sl'.length = σ.sl.length) (hol : ob'.length = σ.ob.length)
    (hsl : ∀ i A v, SR w A ow σ.ob v (σ.sl.getD i .dead) → SR w A ow σ.ob v (sl'.getD i .dead))
    (hk : ∀ i k c, (k, c) ∈ keysV (sl'.getD i .dead) → sameK σ.ob ow ob' ow' k c)
    (hown : ∀ k c, owned ob' k c → ownB σ.ob ow (ow' k c) ∨ w.heap.size ≤ ow' k c)
    (hinj : ∀ k c k' c', alive ob' k c → alive ob' k' c' → ow' k c = ow' k' c' → k = k' ∧ c = c')
    (hlt : ∀ k c, alive ob' k c → ow' k c < w'.heap.size ∧ U (ow' k c))
    (hOR : (∀ b, Fz U w ow σ.ob b → Fz U w' ow' ob' b ∧ w'.heap[b]? = w.heap[b]?) → ∀ k, OR w' (Fz U w' ow' ob') ow' k (ob'.getD k .none))
    (hpin : ∀ k b, F0.pn k = some b → ob'.getD k .none = .none ∨ ow' k none = b) : Sim GL U w0 F0 ⟨sl', ob'⟩ a w' ow' := by
  have hA : ∀ b, Fz U w ow σ.ob b → Fz U w' ow' ob' b ∧ w'.heap[b]? = w.heap[b]? := fun b hb => by
    refine ⟨⟨hb.1, Nat.lt_of_lt_of_le hb.2.1 hx.size, fun k c hkc e => ?_⟩, hx.block b hb.2.1 fun ⟨k, c, hkc, e⟩ => hb.2.2 k c hkc e⟩
    rcases hown k c hkc with ⟨k', c', h1, h2⟩ | h1
    · exact hb.2.2 k' c' h1 (h2.trans e)
    · have := hb.2.1; omega
  refine ⟨h.len.trans hl.symm, by show ob'.length = sl'.length; rw [hol, hl]; exact h.olen, fun i => (hsl i _ _ (h.slots i)).keep hA hT (hk i), ⟨hOR hA, hinj, hlt⟩,
    h.ext.trans hx (fun b ⟨k, c, hkc, e⟩ => by rw [← e]; exact h.own0 k c hkc), fun k c hkc => ?_, h.un, h.uF, h.defers, h.gl.mono hA, hpin, fun b n ht => hT b n (h.thk b n ht)⟩
  rcases hown k c hkc with ⟨k', c', h1, h2⟩ | h1
  · rw [← h2]; exact h.own0 k' c' h1
  · exact .inr (Nat.le_trans h.ext.size h1)

/-- cells of one own block turn -/
theorem ext_setCells {g o : Nat} {vs : List Value} {F : Nat → Prop} (hF : F g) (hth : ∀ j, j < vs.length → (w.cell? ⟨g, o + j, none⟩).isSome = true) : Ext w (w.setCells g o vs) F ∧ ∀ b n, Th w b n → Th (w.setCells g o vs) b n := by
  have hk := World.keptBut_setCells g (may := fun _ => True) vs o w (fun _ _ => trivial)
  have hsz : (w.setCells g o vs).heap.size = w.heap.size := by
    clear hth hk
    induction vs generalizing o w with
    | nil => rfl
    | cons v r ih => rw [World.setCells, ih]; simp
  refine ⟨⟨World.os_setCells _ _ _ _, ?_, World.output_setCells _ _ _ _, by rw [hsz]; exact Nat.le_refl _, fun b hb hn => World.heap_setCells_other w g o vs hb (fun e => hn (e ▸ hF))⟩, fun b n ht j hj => ?_⟩
  · clear hth hk hsz
    induction vs generalizing o w with
    | nil => rfl
    | cons v r ih => rw [World.setCells, ih]; rfl
  · rw [World.frozen?_setCells]
    refine ⟨?_, (ht j hj).2⟩
    by_cases hin : b = g ∧ o ≤ 0 + j ∧ 0 + j < o + vs.length
    · obtain ⟨rfl, h1, h2⟩ := hin
      obtain ⟨q, hq⟩ : ∃ q, 0 + j = o + q := ⟨0 + j - o, by omega⟩
      rw [hq, World.cell?_setCells_in b vs o w hth q (by omega)]
      rfl
    · rw [World.cell?_setCells_out g vs o w _ (fun e _ => by
        have e : b = g := e
        show 0 + j < o ∨ o + vs.length ≤ 0 + j
        by_cases h1 : o ≤ 0 + j
        · right
          exact Nat.not_lt.1 fun h2 => hin ⟨e, h1, h2⟩
        · left; omega)]
      exact (ht j hj).1
theorem cell_in {g o : Nat} {vs : List Value} (hth : ∀ j, j < vs.length → (w.cell? ⟨g, o + j, none⟩).isSome = true) {j : Nat} {v : Value} (hj : vs[j]? = some v) : (w.setCells g o vs).cell? ⟨g, o + j, none⟩ = some v := by
  have hl := (List.getElem?_eq_some_iff.1 hj)
  obtain ⟨hl, e⟩ := hl
  rw [World.cell?_setCells_in g vs o w hth j hl, e]
theorem cell_out {g o : Nat} {vs : List Value} {q : Nat} (hq : q < o ∨ o + vs.length ≤ q) : (w.setCells g o vs).cell? ⟨g, q, none⟩ = w.cell? ⟨g, q, none⟩ :=
  World.cell?_setCells_out g vs o w _ fun _ _ => hq

theorem run_store_gen {ty : TypeId} {g o : Nat} {v : Value} {i : TypeInfo} (hi : P.info? ty = some i) (hs : v.cells.size = i.size) (h1 : ∀ u ∈ v.cells.toList, u.oneCell' = true)
    (ht : ∀ j, j < v.cells.size → (w.cell? ⟨g, o + j, none⟩).isSome = true ∧ w.frozen? ⟨g, o + j, none⟩ = false) :
    (Instr.storeAt ty (.pointer (some ⟨g, o, none⟩)) v).run P w = .ok () (w.setCells g o v.cells.toList) := by
  have := run_storeCells_cells (P := P) g o v.cells.toList 0 w (fun j hj => by simpa using (ht j (by simpa using hj)).1) (fun j hj => by simpa using (ht j (by simpa using hj)).2) h1
  simp only [Nat.add_zero] at this
  simp [Instr.storeAt, Instr.sureAddr, storeVar, sizeOf, typeInfo, hi, hs, this]

/-! ### into a row -/
theorem mul_add_lt {i n z q : Nat} (h : i < n) (hq : q < z) : i * z + q < n * z := by
  have : i * z + z ≤ n * z := by rw [← Nat.succ_mul]; exact Nat.mul_le_mul_right _ h
  omega
theorem RowOk.upd {A A' : Nat → Prop} {g z cap i j : Nat} {xs : List V} {y y' : V} {vs : List Value} (h : RowOk w A g z xs cap) (hi : xs[i]? = some y) (hj : j + vs.length ≤ z)
    (hnew : ∀ ecs : List Value, ecs.length = z → FR w A ecs y → ∃ ecs' : List Value, ecs'.length = z ∧ FR w A ecs' y' ∧ ∀ (q : Nat) v, ecs'[q]? = some v → (if j ≤ q ∧ q < j + vs.length then vs[q - j]? else ecs[q]?) = some v)
    (hA : ∀ b, A b → A' b ∧ (w.setCells g (i * z + j) vs).heap[b]? = w.heap[b]?) (hT : ∀ b n, Th w b n → Th (w.setCells g (i * z + j) vs) b n) (hth : ∀ q, q < vs.length → (w.cell? ⟨g, i * z + j + q, none⟩).isSome = true) :
    RowOk (w.setCells g (i * z + j) vs) A' g z (xs.set i y') cap := by
  refine ⟨by simpa using h.le, hT _ _ h.th, fun i' x hx => ?_⟩
  have hil : i < xs.length := (List.getElem?_eq_some_iff.1 hi).1
  rw [getElem?_set_V] at hx
  by_cases hii : i' = i
  · subst hii
    rw [if_pos ⟨rfl, hil⟩] at hx
    cases hx
    obtain ⟨ecs, e1, e2, e3⟩ := h.at_ i' y hi
    obtain ⟨ecs', f1, f2, f3⟩ := hnew ecs e1 e3
    refine ⟨ecs', f1, fun q v hv => ?_, f2.mono (fun b hb => (hA b hb).2) (fun b hb => (hA b hb).1)⟩
    have := f3 q v hv
    by_cases hin : j ≤ q ∧ q < j + vs.length
    · rw [if_pos hin] at this
      have hc := cell_in (w := w) (g := g) (o := i' * z + j) hth this
      rw [show i' * z + j + (q - j) = i' * z + q by omega] at hc
      exact hc
    · rw [if_neg hin] at this
      show (w.setCells g (i' * z + j) vs).cell? ⟨g, i' * z + q, none⟩ = some v
      rw [cell_out (by omega)]
      exact e2 q v this
  · rw [if_neg (fun hh => hii hh.1)] at hx
    obtain ⟨ecs, e1, e2, e3⟩ := h.at_ i' x hx
    refine ⟨ecs, e1, fun q v hv => ?_, e3.mono (fun b hb => (hA b hb).2) (fun b hb => (hA b hb).1)⟩
    have hq : q < z := by have := (List.getElem?_eq_some_iff.1 hv).1; omega
    show (w.setCells g (i * z + j) vs).cell? ⟨g, i' * z + q, none⟩ = some v
    rw [cell_out ?_]
    · exact e2 q v hv
    · rcases Nat.lt_or_gt_of_ne hii with hlt | hgt
      · left
        have := mul_add_lt (z := z) hlt hq
        omega
      · right
        have h1 : i * z + z ≤ i' * z := by rw [← Nat.succ_mul]; exact Nat.mul_le_mul_right _ hgt
        omega

theorem owned_row {k : Nat} {c : Option Nat} {z : Nat} {xs : List V} (hr : obRow (lk σ) k c = some (true, z, xs)) : owned σ.ob k c := by
  cases c with
  | none =>
    have := obRow_none.1 hr
    unfold owned
    have e : σ.ob.getD k .none = .row true z xs := this
    rw [e]
  | some q =>
    obtain ⟨b, cs, h1, h2⟩ := obRow_some.1 hr
    unfold owned
    have e : σ.ob.getD k .none = .box b cs := h1
    rw [e]
    exact .inl ⟨z, xs, h2⟩
theorem lt_of_ob {k : Nat} (h : σ.ob.getD k .none ≠ .none) : k < σ.ob.length := by
  rcases Nat.lt_or_ge k σ.ob.length with hh | hh
  · exact hh
  · exact absurd (by simp [List.getD_eq_getElem?_getD, List.getElem?_eq_none hh]) h
theorem setRow_spec {k : Nat} {c : Option Nat} {z : Nat} {xs xs' : List V} (hr : obRow (lk σ) k c = some (true, z, xs)) (hl : xs'.length = xs.length) :
    (∀ kk, kk ≠ k → (setRow σ k c true z xs').getD kk .none = σ.ob.getD kk .none) ∧ (∀ q, sameK σ.ob ow (setRow σ k c true z xs') ow k q) ∧
    (∀ kk q, owned (setRow σ k c true z xs') kk q → owned σ.ob kk q) ∧ (∀ kk q, alive (setRow σ k c true z xs') kk q → alive σ.ob kk q) ∧
    ((c = none ∧ σ.ob.getD k .none = .row true z xs ∧ (setRow σ k c true z xs').getD k .none = .row true z xs') ∨
      ∃ q b cs, c = some q ∧ σ.ob.getD k .none = .box b cs ∧ cs[q]? = some (.own true z xs) ∧ (setRow σ k c true z xs').getD k .none = .box b (cs.set q (.own true z xs'))) := by
  have hother : ∀ kk, kk ≠ k → (setRow σ k c true z xs').getD kk .none = σ.ob.getD kk .none := fun kk h => getD_set_ob_other _ _ h
  cases c with
  | none =>
    have e : σ.ob.getD k .none = .row true z xs := obRow_none.1 hr
    have hkl := lt_of_ob (σ := σ) (k := k) (by rw [e]; simp)
    have hk : (setRow σ k none true z xs').getD k .none = .row true z xs' := getD_set_ob_same _ _ hkl
    refine ⟨hother, fun q => ?_, fun kk q ho => ?_, fun kk q ho => ?_, .inl ⟨rfl, e, hk⟩⟩
    · cases q with
      | none => unfold sameK same1; rw [e]; exact ⟨true, xs', hk, hl, rfl⟩
      | some q => exact same2.of (fun b cs h1 => by rw [h1] at e; cases e) rfl
    · by_cases hkk : kk = k
      · subst hkk
        unfold owned at ho ⊢
        rw [hk] at ho; rw [e]
        cases q <;> exact ho
      · rw [← owned_congr (hother kk hkk) q]; exact ho
    · by_cases hkk : kk = k
      · subst hkk
        unfold alive at ho ⊢
        rw [hk] at ho; rw [e]
        cases q <;> exact ho
      · rw [← alive_congr (hother kk hkk) q]; exact ho
  | some p =>
    obtain ⟨b, cs, e, hp⟩ := obRow_some.1 hr
    have e : σ.ob.getD k .none = .box b cs := e
    have hkl := lt_of_ob (σ := σ) (k := k) (by rw [e]; simp)
    have hpl : p < cs.length := (List.getElem?_eq_some_iff.1 hp).1
    have hk : (setRow σ k (some p) true z xs').getD k .none = .box b (cs.set p (.own true z xs')) := by
      unfold setRow
      rw [getD_set_ob_same _ _ hkl, e]
      rfl
    refine ⟨hother, fun q => ?_, fun kk q ho => ?_, fun kk q ho => ?_, .inr ⟨p, b, cs, rfl, e, hp, hk⟩⟩
    · cases q with
      | none => unfold sameK same1; rw [e]; exact ⟨b, _, hk, by simp, rfl⟩
      | some q =>
        refine same2.of (fun b' cs' h1 => ?_) rfl
        rw [h1] at e
        cases e
        refine ⟨b, _, hk, fun o z0 x0 h2 => ?_, fun l x0 h2 => ⟨l, x0, seg_set hp (by simp) h2, rfl⟩, fun j i hj hc l x0 x h2 hx => ⟨l, x0, x, seg_set hp (by simp) h2, hx, .inl rfl⟩⟩
        by_cases hqp : q = p
        · subst hqp
          rw [hp] at h2
          cases h2
          exact ⟨true, xs', by simp [hpl], hl⟩
        · exact ⟨o, x0, by rw [List.getElem?_set_ne (Ne.symm hqp)]; exact h2, rfl⟩
    · by_cases hkk : kk = k
      · subst hkk
        unfold owned at ho ⊢
        rw [hk] at ho; rw [e]
        cases q with
        | none => exact ho
        | some q =>
          rcases ho with ⟨z0, x0, h0⟩ | h0
          · by_cases hqp : q = p
            · subst hqp; exact .inl ⟨z, xs, hp⟩
            · rw [List.getElem?_set_ne (Ne.symm hqp)] at h0; exact .inl ⟨z0, x0, h0⟩
          · exact .inr (segK_unset (by simp) h0)
      · rw [← owned_congr (hother kk hkk) q]; exact ho
    · by_cases hkk : kk = k
      · subst hkk
        unfold alive at ho ⊢
        rw [hk] at ho; rw [e]
        cases q with
        | none => trivial
        | some q =>
          rcases ho with ⟨o0, z0, x0, h0⟩ | h0
          · by_cases hqp : q = p
            · subst hqp; exact .inl ⟨true, z, xs, hp⟩
            · rw [List.getElem?_set_ne (Ne.symm hqp)] at h0; exact .inl ⟨o0, z0, x0, h0⟩
          · exact .inr (segK_unset (by simp) h0)
      · rw [← alive_congr (hother kk hkk) q]; exact ho

theorem row_write {GL : List (Nat × V)} (h : Sim GL U w0 F0 σ a w ow) {k : Nat} {c : Option Nat} {z i j : Nat} {xs : List V} {y y' : V} {vs : List Value} (hr : obRow (lk σ) k c = some (true, z, xs)) (hi : xs[i]? = some y) (hj : j + vs.length ≤ z)
    (hnew : ∀ ecs : List Value, ecs.length = z → FR w (Fz U w ow σ.ob) ecs y → ∃ ecs' : List Value, ecs'.length = z ∧ FR w (Fz U w ow σ.ob) ecs' y' ∧ ∀ (q : Nat) v, ecs'[q]? = some v → (if j ≤ q ∧ q < j + vs.length then vs[q - j]? else ecs[q]?) = some v) :
    (∀ q, q < vs.length → (w.cell? ⟨ow k c, i * z + j + q, none⟩).isSome = true ∧ w.frozen? ⟨ow k c, i * z + j + q, none⟩ = false) ∧
    Sim GL U w0 F0 ⟨σ.sl, setRow σ k c true z (xs.set i y')⟩ a (w.setCells (ow k c) (i * z + j) vs) ow := by
  have hil : i < xs.length := (List.getElem?_eq_some_iff.1 hi).1
  obtain ⟨cap, hrow⟩ := h.ho.row hr
  have hth : ∀ q, q < vs.length → (w.cell? ⟨ow k c, i * z + j + q, none⟩).isSome = true ∧ w.frozen? ⟨ow k c, i * z + j + q, none⟩ = false := fun q hq => by
    have h1 := mul_add_lt (z := z) (q := j + q) (Nat.lt_of_lt_of_le hil hrow.le) (by omega)
    have := hrow.th (i * z + j + q) (by omega)
    rwa [Nat.zero_add] at this
  refine ⟨hth, ?_⟩
  have howd := owned_row hr
  have hal := alive_of_owned howd
  obtain ⟨hx, hT⟩ := ext_setCells (w := w) (g := ow k c) (o := i * z + j) (vs := vs) (F := ownB σ.ob ow) ⟨k, c, howd, rfl⟩ (fun q hq => (hth q hq).1)
  obtain ⟨s1, s2, s3, s4, s5⟩ := setRow_spec (ow := ow) hr (xs' := xs.set i y') (by simp)
  have hblk : ∀ kk cc, alive σ.ob kk cc → (kk, cc) ≠ (k, c) → (w.setCells (ow k c) (i * z + j) vs).heap[ow kk cc]? = w.heap[ow kk cc]? := fun kk cc ha hne =>
    World.heap_setCells_other w _ _ _ (h.ho.lt kk cc ha).1 fun e => hne (by
      obtain ⟨e1, e2⟩ := h.ho.inj kk cc k c ha hal e
      rw [e1, e2])
  refine h.turn hx hT σ.sl _ rfl (by simp [setRow]) (fun _ _ _ hh => hh) (fun i' kk cc hkk => ?_) (fun kk cc ho => .inl ⟨kk, cc, s3 kk cc ho, rfl⟩) (fun kk cc kk' cc' h1 h2 e => h.ho.inj _ _ _ _ (s4 _ _ h1) (s4 _ _ h2) e)
    (fun kk cc h1 => ⟨Nat.lt_of_lt_of_le (h.ho.lt _ _ (s4 _ _ h1)).1 hx.size, (h.ho.lt _ _ (s4 _ _ h1)).2⟩) (fun hA kk => ?_) (fun kk b hp => ?_)
  · by_cases he : kk = k
    · subst he; exact s2 cc
    · exact sameK_congr (s1 kk he) (fun _ => rfl) cc
  · by_cases he : kk = k
    · subst he
      rcases s5 with ⟨rfl, e1, e2⟩ | ⟨p, b, cs, rfl, e1, hp, e2⟩
      · rw [e2]
        exact ⟨cap, hrow.upd hi hj hnew hA hT (fun q hq => (hth q hq).1)⟩
      · rw [e2]
        have hor := h.ho.obs kk
        rw [e1] at hor
        obtain ⟨g1, g2⟩ := hor
        have hbx : alive σ.ob kk none := aliveOb (by rw [e1]; simp)
        have hb := hblk kk none hbx (by simp)
        refine ⟨by rw [List.length_set]; exact hT _ _ g1, fun q v x hv hx' => ?_⟩
        rw [World.cell?_of_block (w := w) (a := ⟨ow kk none, q, none⟩) hb] at hv
        rw [getElem?_set_V] at hx'
        by_cases hqp : q = p
        · subst hqp
          rw [if_pos ⟨rfl, (List.getElem?_eq_some_iff.1 hp).1⟩] at hx'
          cases hx'
          obtain ⟨cp, ⟨hv1, h64⟩, hv2⟩ := g2 q v _ hv hp
          refine ⟨cp, ⟨by rw [hv1]; simp, h64⟩, ?_⟩
          exact hv2.upd hi hj hnew hA hT (fun q hq => (hth q hq).1)
        · rw [if_neg (fun hh => hqp hh.1)] at hx'
          refine (g2 q v x hv hx').keep hA ?_ fun _ => rfl
          intro n hn
          exact ⟨rfl, hblk kk (some n) (alive_of e1 (alive_cell hx' (g2 q v x hv hx') hn)) (by simpa using cellK_ne hn hqp (h.ho.own64 e1 hp))⟩
    · rw [s1 kk he]
      exact (h.ho.obs kk).keep hA (fun hn => ⟨rfl, hblk kk none (aliveOb hn) (fun e => he (by cases e; rfl))⟩) (fun n ha => ⟨rfl, hblk kk (some n) (alive_at ha) (fun e => he (by cases e; rfl))⟩)
  · by_cases he : kk = k
    · subst he
      rcases h.pin kk b hp with hn | hn
      · exfalso
        rcases s5 with ⟨_, e1, _⟩ | ⟨p, b', cs, _, e1, _⟩ <;> rw [hn] at e1 <;> cases e1
      · exact .inr hn
    · show (setRow σ k c true z (xs.set i y')).getD kk .none = .none ∨ _
      rw [s1 kk he]; exact h.pin kk b hp
end
end Go.Proofs.YtaapkkeogajfpaaDoor.VM

/- The abstract machine and the memory: stores, done. -/
set_option linter.unusedVariables false
set_option linter.unusedSimpArgs false
namespace Go.Proofs.YtaapkkeogajfpaaDoor.VM

section
variable {P : Program} {T : TT} {U : Nat → Prop} {w0 w w' : World} {F0 : Fr} {σ σ' σ'' : St} {a : Act} {ow ow' : Own}

theorem same2.trans0 {ob ob' ob'' : List Ob} {ow' : Own} {k c : Nat} (h : same2 ob ow ob' ow k c) (h' : same2 ob' ow ob'' ow' k c) : same2 ob ow ob'' ow' k c := by
  refine ⟨fun o z xs hr => ?_, fun l xs hs => ?_, fun j i hj hc l xs x hs hx => ?_⟩
  · obtain ⟨o1, xs1, e1, l1, _⟩ := h.row o z xs hr
    obtain ⟨o2, xs2, e2, l2, g⟩ := h'.row o1 z xs1 e1
    exact ⟨o2, xs2, e2, l2.trans l1, g⟩
  · obtain ⟨l1, xs1, e1, n1, _⟩ := h.hd l xs hs
    obtain ⟨l2, xs2, e2, n2, g⟩ := h'.hd l1 xs1 e1
    exact ⟨l2, xs2, e2, n2.trans n1, g⟩
  · obtain ⟨l1, xs1, x1, e1, f1, g1, _⟩ := h.el j i hj hc l xs x hs hx
    obtain ⟨l2, xs2, x2, e2, f2, g2, g⟩ := h'.el j i hj hc l1 xs1 x1 e1 f1
    exact ⟨l2, xs2, x2, e2, f2, g1.trans g2, g⟩
theorem same2.names {ob ob' : List Ob} {ow' : Own} {k c : Nat} (h : same2 ob ow ob' ow k c) (hw : ow' k (some c) = ow k (some c)) : same2 ob ow ob' ow' k c :=
  h.trans0 (same2.refl rfl hw)
/-- own rows have small keys -/
theorem HO.row64 {ob : List Ob} (h : HO U w ow ob) {k : Nat} {c : Option Nat} {o : Bool} {z : Nat} {xs : List V} (hr : obRow (fun k => ob.getD k .none) k c = some (o, z, xs)) : ∀ j, c = some j → j < 64 := fun j e => by
  subst e
  obtain ⟨b, cs, h1, h2⟩ := obRow_some.1 hr
  exact h.own64 h1 h2
theorem sameK_trans {ob ob' ob'' : List Ob} {k : Nat} {q : Option Nat} (h : sameK ob ow ob' ow k q) (h' : sameK ob' ow ob'' ow k q) : sameK ob ow ob'' ow k q := by
  cases q with
  | none =>
    unfold sameK same1 at *
    cases ho : ob.getD k .none with
    | none => trivial
    | box b cs =>
      rw [ho] at h
      obtain ⟨o1, cs1, e1, l1, _⟩ := h
      rw [e1] at h'
      obtain ⟨o2, cs2, e2, l2, _⟩ := h'
      exact ⟨o2, cs2, e2, l2.trans l1, rfl⟩
    | row b z xs =>
      rw [ho] at h
      obtain ⟨o1, xs1, e1, l1, _⟩ := h
      rw [e1] at h'
      obtain ⟨o2, xs2, e2, l2, _⟩ := h'
      exact ⟨o2, xs2, e2, l2.trans l1, rfl⟩
  | some c => exact same2.trans0 h h'

/-- objects and what refers to them are forgotten -/
structure KilR (w : World) (ow : Own) (σ σ' : St) (p : Nat × Option Nat → Prop) : Prop where
  sll : σ'.sl.length = σ.sl.length
  obl : σ'.ob.length = σ.ob.length
  sl : ∀ i A ob v, SR w A ow ob v (σ.sl.getD i .dead) → SR w A ow ob v (σ'.sl.getD i .dead)
  ky : ∀ i q, q ∈ keysV (σ'.sl.getD i .dead) → ¬ p q
  sm : ∀ k q, ¬ p (k, q) → sameK σ.ob ow σ'.ob ow k q
  or : ∀ k A, OR w A ow k (σ.ob.getD k .none) → OR w A ow k (σ'.ob.getD k .none)
  al : ∀ k c, alive σ'.ob k c → alive σ.ob k c
  owd : ∀ k c, owned σ'.ob k c → owned σ.ob k c

theorem Forget.keeps {f g t : V → V} {p : Nat × Option Nat → Prop} (F : Forget f p g t) {x : V} {q : Nat × Option Nat} (hq : q ∈ keysV (f x)) : q ∈ keysV x := by
  have one : ∀ y, keyC (g y) = some q → keyC y = some q := fun y h => by
    rcases F.c y with e | e
    · rwa [e] at h
    · rw [e] at h; cases h
  by_cases hs : ∃ cs, x = .st cs
  · obtain ⟨cs, rfl⟩ := hs
    rw [F.st] at hq
    obtain ⟨y, hy, hk⟩ := List.mem_filterMap.1 hq
    obtain ⟨u, hu, rfl⟩ := List.mem_map.1 hy
    exact List.mem_filterMap.2 ⟨u, hu, one u hk⟩
  · by_cases ht : ∃ cs, x = .tup cs
    · obtain ⟨cs, rfl⟩ := ht
      rw [F.tup] at hq
      obtain ⟨y, hy, hk⟩ := List.mem_flatMap.1 hq
      obtain ⟨u, hu, rfl⟩ := List.mem_map.1 hy
      refine List.mem_flatMap.2 ⟨u, hu, ?_⟩
      by_cases hus : ∃ ds, u = .st ds
      · obtain ⟨ds, rfl⟩ := hus
        rw [F.t1] at hk
        simp [keyC] at hk
      · have hne : ∀ ds, u ≠ .st ds := fun ds e => hus ⟨ds, e⟩
        rw [F.t2 u hne] at hk
        have hk' : q ∈ (keyC (g u)).toList := by
          rcases F.c u with e | e
          · rw [e] at hk ⊢
            cases u <;> first | exact absurd rfl (hne _) | exact hk
          · rw [e] at hk; simp [keyC] at hk
        have := one u (Option.mem_toList.1 hk')
        cases u <;> first | exact absurd rfl (hne _) | exact Option.mem_toList.2 this
    · have hs' : ∀ cs, x ≠ .st cs := fun cs e => hs ⟨cs, e⟩
      have ht' : ∀ cs, x ≠ .tup cs := fun cs e => ht ⟨cs, e⟩
      rw [F.el x hs' ht'] at hq
      have hq' : q ∈ (keyC (g x)).toList := by
        rcases F.c x with e | e
        · rw [e] at hq ⊢
          cases x <;> first | exact absurd rfl (hs' _) | exact absurd rfl (ht' _) | exact hq
        · rw [e] at hq; simp [keysV, keyC] at hq
      have := one x (Option.mem_toList.1 hq')
      cases x <;> first | exact absurd rfl (hs' _) | exact absurd rfl (ht' _) | exact Option.mem_toList.2 this

theorem KilR.comp {p p' : Nat × Option Nat → Prop} (h : KilR w ow σ σ' p) (h' : KilR w ow σ' σ'' p') (hk : ∀ i q, q ∈ keysV (σ''.sl.getD i .dead) → q ∈ keysV (σ'.sl.getD i .dead)) : KilR w ow σ σ'' (fun q => p q ∨ p' q) where
  sll := h'.sll.trans h.sll
  obl := h'.obl.trans h.obl
  sl := fun i A ob v hv => h'.sl i A ob v (h.sl i A ob v hv)
  ky := fun i q hq => fun hh => hh.elim (h.ky i q (hk i q hq)) (h'.ky i q hq)
  sm := fun k q hn => sameK_trans (h.sm k q fun e => hn (.inl e)) (h'.sm k q fun e => hn (.inr e))
  or := fun k A ho => h'.or k A (h.or k A ho)
  al := fun k c ha => h.al k c (h'.al k c ha)
  owd := fun k c ha => h.owd k c (h'.owd k c ha)

theorem kil_r (w : World) (ow : Own) (σ : St) (k : Nat) (c : Option Nat) : KilR w ow σ (kil σ k c) (kp k c) := by
  have hget : ∀ kk, (kil σ k c).ob.getD kk .none = if kk = k then kilB c (σ.ob.getD k .none) else σ.ob.getD kk .none := fun kk => by
    show (σ.ob.set k (kilB c (σ.ob.getD k .none))).getD kk .none = _
    rw [getD_set_ob]
    by_cases hkk : kk = k
    · subst hkk
      rw [if_pos rfl]
      split
      · rfl
      · rename_i hh
        have hl : ¬ kk < σ.ob.length := fun e => hh ⟨rfl, e⟩
        have : σ.ob.getD kk .none = .none := by simp [List.getD_eq_getElem?_getD, List.getElem?_eq_none (by omega : σ.ob.length ≤ kk)]
        rw [this]
        cases c <;> rfl
    · rw [if_neg hkk, if_neg (fun hh => hkk hh.1)]
  have hs := kilB_sub w ow k c (σ.ob.getD k .none)
  refine ⟨by simp [kil], by simp [kil, kilO], fun i A ob v hv => ?_, fun i q hq => ?_, fun kk q hn => ?_, fun kk A ho => ?_, fun kk q ha => ?_, fun kk q ha => ?_⟩
  · show SR w A ow ob v ((σ.sl.map (kilV k c)).getD i .dead)
    rw [getD_map _ _ (kil_forget k c).dead]; exact (kil_forget k c).sr hv
  · have hq : q ∈ keysV ((σ.sl.map (kilV k c)).getD i .dead) := hq
    rw [getD_map _ _ (kil_forget k c).dead] at hq
    exact (kil_forget k c).keys hq
  · by_cases hkk : kk = k
    · subst hkk
      have hne : q ≠ c := fun e => hn (.inl (by rw [e]))
      cases q with
      | none =>
        unfold sameK same1
        rw [hget kk, if_pos rfl]
        cases ho : σ.ob.getD kk .none with
        | none => trivial
        | box b cs =>
          cases c with
          | none => exact absurd rfl hne
          | some c => exact ⟨b, cs.set c .dead, rfl, by simp, rfl⟩
        | row b z xs =>
          cases c with
          | none => exact absurd rfl hne
          | some c => exact ⟨b, xs, rfl, rfl, rfl⟩
      | some j =>
        cases c with
        | none => exact same2.cells (fun b cs e => ⟨b, cs, by rw [hget kk, if_pos rfl, e]; rfl, rfl, fun _ => rfl⟩) rfl
        | some c => exact same2_dead (fun b cs e => by rw [hget kk, if_pos rfl, e]; rfl) hn
    · exact sameK_congr (by rw [hget kk, if_neg hkk]) (fun _ => rfl) q
  · rw [hget kk]
    split
    · rename_i e; subst e; exact hs.or A ho
    · exact ho
  · rw [alive_one, hget kk] at ha
    rw [alive_one]
    split at ha
    · rename_i e; subst e; exact hs.al q ha
    · exact ha
  · rw [owned_one, hget kk] at ha
    rw [owned_one]
    split at ha
    · rename_i e; subst e; exact hs.ow q ha
    · exact ha
theorem kil_keeps (k : Nat) (c : Option Nat) (i : Nat) (q : Nat × Option Nat) (h : q ∈ keysV ((kil σ k c).sl.getD i .dead)) : q ∈ keysV (σ.sl.getD i .dead) := by
  have h : q ∈ keysV ((σ.sl.map (kilV k c)).getD i .dead) := h
  rw [getD_map _ _ (kil_forget k c).dead] at h
  exact (kil_forget k c).keeps h
theorem kil_dead (k : Nat) (c : Option Nat) (h64 : ∀ j, c = some j → j < 64) {o : Bool} {z : Nat} {xs : List V} (h : obRow (lk σ) k c = some (o, z, xs)) : ¬ alive (kil σ k c).ob k c := fun ha => by
  have hkl := lt_of_ob (σ := σ) (k := k) (by
    cases c with
    | none => rw [show σ.ob.getD k .none = _ from obRow_none.1 h]; simp
    | some q => obtain ⟨b, cs, e, _⟩ := obRow_some.1 h; rw [show σ.ob.getD k .none = .box b cs from e]; simp)
  unfold alive at ha
  rw [show (kil σ k c).ob.getD k .none = kilB c (σ.ob.getD k .none) from getD_set_ob_same _ _ hkl] at ha
  cases c with
  | none =>
    rw [show σ.ob.getD k .none = _ from obRow_none.1 h] at ha
    exact ha
  | some q =>
    obtain ⟨b, cs, e, hq⟩ := obRow_some.1 h
    rw [show σ.ob.getD k .none = .box b cs from e] at ha
    rcases ha with ⟨o', z', xs', ha⟩ | ⟨l', xs', ha, _⟩
    · rw [getElem?_set_V, if_pos ⟨rfl, (List.getElem?_eq_some_iff.1 hq).1⟩] at ha
      cases ha
    · rw [Nat.mod_eq_of_lt (h64 q rfl)] at ha
      rw [getElem?_set_V, if_pos ⟨rfl, (List.getElem?_eq_some_iff.1 hq).1⟩] at ha
      cases ha
theorem kill_r (w : World) (ow : Own) (σ : St) (k : Nat) : KilR w ow σ (kill σ k) (fun q => q.1 = k) := by
  have hget : ∀ kk, (kill σ k).ob.getD kk .none = if kk = k then .none else σ.ob.getD kk .none := fun kk => by
    show (σ.ob.set k .none).getD kk .none = _
    rw [getD_set_ob]
    by_cases hkk : kk = k
    · subst hkk
      rw [if_pos rfl]
      split
      · rfl
      · rename_i hh
        have hl : ¬ kk < σ.ob.length := fun e => hh ⟨rfl, e⟩
        simp [List.getD_eq_getElem?_getD, List.getElem?_eq_none (by omega : σ.ob.length ≤ kk)]
    · rw [if_neg hkk, if_neg (fun hh => hkk hh.1)]
  refine ⟨by simp [kill], by simp [kill], fun i A ob v hv => ?_, fun i q hq => ?_, fun kk q hn => ?_, fun kk A ho => ?_, fun kk q ha => ?_, fun kk q ha => ?_⟩
  · show SR w A ow ob v ((σ.sl.map (killV k)).getD i .dead)
    rw [getD_map _ _ (kill_forget k).dead]; exact (kill_forget k).sr hv
  · have hq : q ∈ keysV ((σ.sl.map (killV k)).getD i .dead) := hq
    rw [getD_map _ _ (kill_forget k).dead] at hq
    exact (kill_forget k).keys hq
  · exact sameK_congr (by rw [hget kk, if_neg (fun e => hn e)]) (fun _ => rfl) q
  · rw [hget kk]
    split
    · trivial
    · exact ho
  · by_cases hkk : kk = k
    · exact absurd ha (alive_none (by rw [hget kk, if_pos hkk]))
    · rw [← alive_congr (by rw [hget kk, if_neg hkk]) q]; exact ha
  · by_cases hkk : kk = k
    · exact absurd (alive_of_owned ha) (alive_none (by rw [hget kk, if_pos hkk]))
    · rw [← owned_congr (by rw [hget kk, if_neg hkk]) q]; exact ha
theorem kill_keeps (k : Nat) (i : Nat) (q : Nat × Option Nat) (h : q ∈ keysV ((kill σ k).sl.getD i .dead)) : q ∈ keysV (σ.sl.getD i .dead) := by
  have h : q ∈ keysV ((σ.sl.map (killV k)).getD i .dead) := h
  rw [getD_map _ _ (kill_forget k).dead] at h
  exact (kill_forget k).keeps h

def rek (ow : Own) (k : Nat) (q : Option Nat) (g : Nat) : Own := fun kk c => if kk = k ∧ c = q then g else ow kk c
theorem rek_same {k kk : Nat} {q c : Option Nat} {g : Nat} (h : kk = k ∧ c = q) : rek ow k q g kk c = g := if_pos h
theorem rek_other {k kk : Nat} {q c : Option Nat} {g : Nat} (h : ¬ (kk = k ∧ c = q)) : rek ow k q g kk c = ow kk c := if_neg h

/-- a row that is no more comes again under another key, perhaps elsewhere, perhaps changed -/
theorem Sim.rekey {GL : List (Nat × V)} {p : Nat × Option Nat → Prop} (h : Sim GL U w0 F0 σ a w ow) (hx : Ext w w' (ownB σ.ob ow)) (hT : ∀ b n, Th w b n → Th w' b n) (hr : KilR w ow σ σ' p)
    (k : Nat) (q : Option Nat) (o' : Ob) (g : Nat) (hkl : k < σ.ob.length) (hp : p (k, q))
    -- the new object differs from the old one at the key q alone
    (hal : ∀ c, alive [o'] 0 c → c = q ∨ alive σ'.ob k c) (how : ∀ c, owned [o'] 0 c → c = q ∨ owned σ'.ob k c) (hsm : ∀ c, c ≠ q → sameK σ'.ob ow (σ'.ob.set k o') ow k c)
    (hg : g < w'.heap.size ∧ U g ∧ (ownB σ.ob ow g ∨ w.heap.size ≤ g)) (hgn : ∀ kk c, alive σ'.ob kk c → (kk, c) ≠ (k, q) → ow kk c ≠ g)
    (hblk : ∀ kk c, kk ≠ k → alive σ'.ob kk c → w'.heap[ow kk c]? = w.heap[ow kk c]?)
    (hOR : ∀ A', (∀ b, Fz U w ow σ.ob b → A' b ∧ w'.heap[b]? = w.heap[b]?) → OR w' A' (rek ow k q g) k o')
    (hpin : ∀ b, F0.pn k = some b → q ≠ none ∧ σ'.ob.getD k .none ≠ .none) :
    Sim GL U w0 F0 ⟨σ'.sl, σ'.ob.set k o'⟩ a w' (rek ow k q g) := by
  have hkl' : k < σ'.ob.length := by rw [hr.obl]; exact hkl
  have hother : ∀ kk, kk ≠ k → (σ'.ob.set k o').getD kk .none = σ'.ob.getD kk .none := fun kk e => getD_set_ob_other _ _ e
  have hsame : (σ'.ob.set k o').getD k .none = o' := getD_set_ob_same _ _ hkl'
  have hal2 : ∀ kk c, alive (σ'.ob.set k o') kk c → (kk = k ∧ c = q) ∨ (alive σ'.ob kk c ∧ ¬ (kk = k ∧ c = q)) := fun kk c ha => by
    by_cases he : kk = k ∧ c = q
    · exact .inl he
    · refine .inr ⟨?_, he⟩
      by_cases hkk : kk = k
      · subst hkk
        rw [alive_one, hsame] at ha
        exact (hal c ha).resolve_left fun e => he ⟨rfl, e⟩
      · rw [← alive_congr (hother kk hkk) c]; exact ha
  refine h.turn hx hT σ'.sl _ hr.sll (by simp [hr.obl]) (fun i A v hv => hr.sl i A σ.ob v hv) (fun i kk c hkc => ?_) (fun kk c ho => ?_) (fun kk c kk' c' h1 h2 e => ?_) (fun kk c h1 => ?_) (fun hA kk => ?_) (fun kk b hb => ?_)
  · have hnp := hr.ky i (kk, c) hkc
    have hne : ¬ (kk = k ∧ c = q) := fun e => hnp (by rw [e.1, e.2]; exact hp)
    have h1 := hr.sm kk c hnp
    have h2 : sameK σ'.ob ow (σ'.ob.set k o') ow kk c := by
      by_cases hkk : kk = k
      · subst hkk; exact hsm c fun e => hne ⟨rfl, e⟩
      · exact sameK_congr (hother kk hkk) (fun _ => rfl) c
    have h3 := sameK_trans h1 h2
    -- only the key that is new lies elsewhere
    cases c with
    | none =>
      unfold sameK same1 at h3 ⊢
      cases ho : σ.ob.getD kk .none with
      | none => trivial
      | box b cs =>
        rw [ho] at h3
        obtain ⟨o1, cs1, e1, l1, _⟩ := h3
        exact ⟨o1, cs1, e1, l1, rek_other hne⟩
      | row b z xs =>
        rw [ho] at h3
        obtain ⟨o1, cs1, e1, l1, _⟩ := h3
        exact ⟨o1, cs1, e1, l1, rek_other hne⟩
    | some c => exact same2.names h3 (rek_other hne)
  · by_cases he : kk = k ∧ c = q
    · rw [rek_same he]; exact hg.2.2
    · rw [rek_other he]
      refine .inl ⟨kk, c, hr.owd kk c ?_, rfl⟩
      by_cases hkk : kk = k
      · subst hkk
        rw [owned_one, hsame] at ho
        exact (how c ho).resolve_left fun e => he ⟨rfl, e⟩
      · rw [← owned_congr (hother kk hkk) c]; exact ho
  · rcases hal2 kk c h1 with he | ⟨ha, he⟩ <;> rcases hal2 kk' c' h2 with he' | ⟨ha', he'⟩
    · exact ⟨he.1.trans he'.1.symm, he.2.trans he'.2.symm⟩
    · rw [rek_same he, rek_other he'] at e
      exact absurd e.symm (hgn kk' c' ha' fun e0 => he' (by cases e0; exact ⟨rfl, rfl⟩))
    · rw [rek_other he, rek_same he'] at e
      exact absurd e (hgn kk c ha fun e0 => he (by cases e0; exact ⟨rfl, rfl⟩))
    · rw [rek_other he, rek_other he'] at e
      exact h.ho.inj kk c kk' c' (hr.al _ _ ha) (hr.al _ _ ha') e
  · rcases hal2 kk c h1 with he | ⟨ha, he⟩
    · rw [rek_same he]; exact ⟨hg.1, hg.2.1⟩
    · rw [rek_other he]
      have := h.ho.lt kk c (hr.al _ _ ha)
      exact ⟨Nat.lt_of_lt_of_le this.1 hx.size, this.2⟩
  · by_cases hkk : kk = k
    · subst hkk
      rw [hsame]
      exact hOR _ hA
    · rw [hother kk hkk]
      have hn : ∀ c, ¬ (kk = k ∧ c = q) := fun c e => hkk e.1
      have hn' : ∀ c, (kk, c) ≠ (k, q) := fun c e => hkk (by cases e; rfl)
      exact (hr.or kk _ (h.ho.obs kk)).keep hA (fun hne => ⟨rek_other (hn _), hblk kk none hkk (aliveOb hne)⟩) (fun n ha => ⟨rek_other (hn _), hblk kk (some n) hkk (alive_at ha)⟩)
  · by_cases hkk : kk = k
    · subst hkk
      obtain ⟨hq, hne⟩ := hpin b hb
      rw [rek_other (fun e => hq e.2.symm)]
      refine .inr ((h.pin kk b hb).resolve_left fun e => ?_)
      exact aliveOb_iff.1 (hr.al kk none (aliveOb_iff.2 hne)) e
    · rw [rek_other (fun e => hkk e.1), hother kk hkk]
      rcases h.pin kk b hb with e | e
      · refine .inl ?_
        by_cases hn : σ'.ob.getD kk .none = .none
        · exact hn
        · exact absurd e (aliveOb_iff.1 (hr.al kk none (aliveOb_iff.2 hn)))
      · exact .inr e
end
end Go.Proofs.YtaapkkeogajfpaaDoor.VM

/- The abstract machine and the memory: the store. -/
set_option linter.unusedVariables false
set_option linter.unusedSimpArgs false
namespace Go.Proofs.YtaapkkeogajfpaaDoor.VM

section
variable {P : Program} {T : TT} {U : Nat → Prop} {w0 w w' : World} {F0 : Fr} {σ σ' : St} {a : Act} {ow ow' : Own} {o : Oper} {r : Res}

theorem done_store {t : TypeId} {p q : Operand} (ho : o.op = .store t p q) (hd : o.dst = none) (hr : (Instr.storeAt t (a.eval p) (a.eval q)).run P w = .ok () w') (hs : Sim T.globL U w0 F0 σ' a w' ow') : DoneO P T.globL U w0 F0 a w o σ' := fun K Q hK => by
  unfold Oper.wp execOp
  simp only [ho, Sem.run_bind, hr, Result.andThen_ok, Sem.run_pure, Oper.upon_skip, hd]
  exact hK _ _ _ hs

theorem kilP_sl {k : Nat} : ∀ (n : Nat) (σ : St) (j : Nat), (kilP σ k j n).sl.length = σ.sl.length ∧ (∀ i w A ow ob v, SR w A ow ob v (σ.sl.getD i .dead) → SR w A ow ob v ((kilP σ k j n).sl.getD i .dead)) ∧
    ∀ i q, q ∈ keysV ((kilP σ k j n).sl.getD i .dead) → q ∈ keysV (σ.sl.getD i .dead) ∧ ∀ c, j ≤ c → c < j + n → ¬ kp k (some c) q
  | 0, σ, j => ⟨rfl, fun _ _ _ _ _ _ h => h, fun i q h => ⟨h, fun c h1 h2 => by omega⟩⟩
  | n + 1, σ, j => by
    obtain ⟨h1, h2, h3⟩ := kilP_sl n (kil σ k (some j)) (j + 1)
    have hr := fun w ow => kil_r w ow σ k (some j)
    refine ⟨h1.trans (by simp [kil]), fun i w A ow ob v h => h2 i w A ow ob v ((hr w ow).sl i A ob v h), fun i q h => ?_⟩
    obtain ⟨g1, g2⟩ := h3 i q h
    refine ⟨kil_keeps k (some j) i q g1, fun c e3 e4 => ?_⟩
    by_cases hc : c = j
    · subst hc
      have g1' : q ∈ keysV ((σ.sl.map (kilV k (some c))).getD i .dead) := g1
      rw [getD_map _ _ (kil_forget k (some c)).dead] at g1'
      exact (kil_forget k (some c)).keys g1'
    · exact g2 c (by omega) (by omega)

theorem setPart_len : ∀ (ps cs : List V) (off : Nat), off + ps.length ≤ cs.length → (setPart cs off ps).length = cs.length := fun ps cs off h => (setPart_get ps cs off 0 h).1

theorem box_write {GL : List (Nat × V)} (h : Sim GL U w0 F0 σ a w ow) {k j : Nat} {cs ps : List V} {vs : List Value} (hb : σ.ob.getD k .none = .box true cs) (hle : j + ps.length ≤ cs.length) (hvs : vs.length = ps.length)
    (hps : ∀ (q : Nat) v c, vs[q]? = some v → ps[q]? = some c → isC c ∧ FR w (Fz U w ow σ.ob) [v] c) :
    (∀ q, q < vs.length → (w.cell? ⟨ow k none, j + q, none⟩).isSome = true ∧ w.frozen? ⟨ow k none, j + q, none⟩ = false) ∧
    Sim GL U w0 F0 ⟨(kilP σ k j ps.length).sl, σ.ob.set k (.box true (setPart cs j ps))⟩ a (w.setCells (ow k none) j vs) ow := by
  have hor := h.ho.obs k
  rw [hb] at hor
  obtain ⟨hth0, hcells⟩ := hor
  have hth : ∀ q, q < vs.length → (w.cell? ⟨ow k none, j + q, none⟩).isSome = true ∧ w.frozen? ⟨ow k none, j + q, none⟩ = false := fun q hq => by
    have := hth0 (j + q) (by omega)
    rwa [Nat.zero_add] at this
  refine ⟨hth, ?_⟩
  have hkl := lt_of_ob (σ := σ) (k := k) (by rw [hb]; simp)
  have howd : owned σ.ob k none := by unfold owned; rw [hb]
  have hal := alive_of_owned howd
  obtain ⟨hx, hT⟩ := ext_setCells (w := w) (g := ow k none) (o := j) (vs := vs) (F := ownB σ.ob ow) ⟨k, none, howd, rfl⟩ (fun q hq => (hth q hq).1)
  obtain ⟨g1, g2, g3⟩ := kilP_sl (k := k) ps.length σ j
  have hother : ∀ kk, kk ≠ k → (σ.ob.set k (.box true (setPart cs j ps))).getD kk .none = σ.ob.getD kk .none := fun kk e => getD_set_ob_other _ _ e
  have hsame : (σ.ob.set k (.box true (setPart cs j ps))).getD k .none = .box true (setPart cs j ps) := getD_set_ob_same _ _ hkl
  have hget := fun q => (setPart_get ps cs j q hle).2
  have hpsC : ∀ (q : Nat) c, ps[q]? = some c → isC c := fun q c hc => by
    have hq : q < ps.length := (List.getElem?_eq_some_iff.1 hc).1
    exact (hps q _ c (List.getElem?_eq_getElem (by omega)) hc).1
  have hblk : ∀ kk cc, alive σ.ob kk cc → (kk, cc) ≠ (k, none) → (w.setCells (ow k none) j vs).heap[ow kk cc]? = w.heap[ow kk cc]? := fun kk cc ha hne =>
    World.heap_setCells_other w _ _ _ (h.ho.lt kk cc ha).1 fun e => hne (by
      obtain ⟨e1, e2⟩ := h.ho.inj kk cc k none ha hal e
      rw [e1, e2])
  -- an own row of the box, then and now
  have hrow : ∀ (q : Nat) (o : Bool) (z : Nat) (xs : List V), (setPart cs j ps)[q]? = some (V.own o z xs) → cs[q]? = some (V.own o z xs) := fun q o z xs hq => by
    rw [hget q] at hq
    split at hq
    · exact (hpsC _ _ hq).elim
    · exact hq
  have hseg : ∀ (q : Nat) l xs, (setPart cs j ps)[q]? = some (V.seg l xs) → cs[q]? = some (V.seg l xs) := fun q l xs hq => by
    rw [hget q] at hq
    split at hq
    · exact (hpsC _ _ hq).elim
    · exact hq
  have hals : ∀ kk c, alive (σ.ob.set k (.box true (setPart cs j ps))) kk c → alive σ.ob kk c := fun kk c ha => by
    by_cases hkk : kk = k
    · subst hkk
      unfold alive at ha ⊢
      rw [hsame] at ha; rw [hb]
      cases c with
      | none => trivial
      | some q =>
        rcases ha with ⟨o, z, xs, hq⟩ | hq
        · exact .inl ⟨o, z, xs, hrow q o z xs hq⟩
        · exact .inr (segK_sub hseg hq)
    · rw [← alive_congr (hother kk hkk) c]; exact ha
  refine h.turn hx hT _ _ g1 (by simp) (fun i A v hv => g2 i w A ow σ.ob v hv) (fun i kk cc hkc => ?_) (fun kk cc ho => .inl ⟨kk, cc, ?_, rfl⟩) (fun kk cc kk' cc' h1 h2 e => h.ho.inj _ _ _ _ (hals _ _ h1) (hals _ _ h2) e)
    (fun kk cc h1 => ⟨Nat.lt_of_lt_of_le (h.ho.lt _ _ (hals _ _ h1)).1 hx.size, (h.ho.lt _ _ (hals _ _ h1)).2⟩) (fun hA kk => ?_) (fun kk b hp => ?_)
  · by_cases hkk : kk = k
    · subst hkk
      obtain ⟨_, hnr⟩ := g3 i _ hkc
      cases cc with
      | none => unfold sameK same1; rw [hb]; exact ⟨true, _, hsame, setPart_len _ _ _ hle, rfl⟩
      | some q =>
        refine same2.cells (fun b' cs' e1 => ?_) rfl
        rw [hb] at e1
        cases e1
        refine ⟨true, _, hsame, ?_, fun h64 => ?_⟩
        · rw [hget q, if_neg (fun hh => hnr q hh.1 hh.2 (.inl rfl))]
        · rw [hget (q % 64), if_neg (fun hh => hnr (q % 64) hh.1 hh.2 (.inr ⟨rfl, q % 64, q / 64 - 1, rfl, Nat.mod_lt _ (by omega), ?_⟩))]
          show some q = some (enc (q % 64) (q / 64 - 1))
          rw [Option.some.injEq]; unfold enc; omega
    · exact sameK_congr (hother kk hkk) (fun _ => rfl) cc
  · by_cases hkk : kk = k
    · subst hkk
      unfold owned at ho ⊢
      rw [hsame] at ho; rw [hb]
      cases cc with
      | none => rfl
      | some q =>
        rcases ho with ⟨z, xs, hq⟩ | hq
        · exact .inl ⟨z, xs, hrow q true z xs hq⟩
        · exact .inr (segK_sub hseg hq)
    · rw [← owned_congr (hother kk hkk) cc]; exact ho
  · by_cases hkk : kk = k
    · subst hkk
      rw [hsame]
      refine ⟨by rw [setPart_len _ _ _ hle]; exact hT _ _ hth0, fun q v x hv hx' => ?_⟩
      rw [hget q] at hx'
      split at hx'
      · rename_i hin
        have hq : q - j < ps.length := (List.getElem?_eq_some_iff.1 hx').1
        have hvq : vs[q - j]? = some (vs[q - j]'(by omega)) := List.getElem?_eq_getElem (by omega)
        have hc := cell_in (w := w) (g := ow kk none) (o := j) (fun q hq => (hth q hq).1) hvq
        rw [show j + (q - j) = q by omega] at hc
        rw [hc] at hv
        cases hv
        obtain ⟨c1, c2⟩ := hps _ _ _ hvq hx'
        rw [c1.bc]
        exact c2.mono (fun b hb => (hA b hb).2) (fun b hb => (hA b hb).1)
      · rename_i hin
        rw [cell_out (by omega)] at hv
        refine (hcells q v x hv hx').keep hA (fun n hn => ⟨rfl, hblk kk (some n) (alive_of hb (alive_cell hx' (hcells q v x hv hx') hn)) (by simp)⟩) fun _ => rfl
    · rw [hother kk hkk]
      exact (h.ho.obs kk).keep hA (fun hn => ⟨rfl, hblk kk none (aliveOb hn) (fun e => hkk (by cases e; rfl))⟩) (fun n ha => ⟨rfl, hblk kk (some n) (alive_at ha) (fun e => hkk (by cases e))⟩)
  · by_cases hkk : kk = k
    · subst hkk
      rcases h.pin kk b hp with hn | hn
      · rw [hb] at hn; cases hn
      · exact .inr hn
    · show (σ.ob.set k (.box true (setPart cs j ps))).getD kk .none = .none ∨ _
      rw [hother kk hkk]; exact h.pin kk b hp

theorem ptr_box {A : Nat → Prop} {u : Value} {k j : Nat} {ob : List Ob} {b : Bool} {cs : List V} (h : SR w A ow ob u (.ptr k none 0 j)) (hb : ob.getD k .none = .box b cs) : u = .pointer (some ⟨ow k none, j, none⟩) := by
  rcases h with ⟨o', cs', _, _, e⟩ | ⟨o', z, xs, e, _⟩
  · exact e
  · rw [hb] at e; cases e

theorem wr1_ok (hT : TOk P T) (h : Sim T.globL U w0 F0 σ a w ow) {t : TypeId} {sh : Sh} (ht : T.ty t = .c sh) {u v : Value} {k : Nat} {c : Option Nat} {i j : Nat} {x : V} (hu : SR w (Fz U w ow σ.ob) ow σ.ob u (.ptr k c i j))
    (hx : isC x) (hv : FR w (Fz U w ow σ.ob) [v] x) {K : St → Option Res} (hk : wr1 σ k c i j x K = some r) :
    ∃ σ' w', K σ' = some r ∧ (Instr.storeAt t u v).run P w = .ok () w' ∧ Sim T.globL U w0 F0 σ' a w' ow := by
  have hone : v.oneCell' = true := hv.one v (by simp)
  have hcs := cells_of_one hone
  obtain ⟨dd, ii, hd, hrow, hi, hs, _⟩ := hT.tyc t sh ht
  unfold wr1 at hk
  split at hk
  · rename_i oo z xs hr
    obtain ⟨hc, hk2⟩ := bif_some hk
    simp only [Bool.and_eq_true] at hc
    obtain ⟨rfl, hjz⟩ := hc
    rw [Nat.blt_eq] at hjz
    obtain ⟨y, hy, hK⟩ := exN_some hk2
    have hp := SC.ptrRow hu hr
    obtain ⟨hth, hsim⟩ := row_write h (j := j) (y' := setCe y j x) (vs := [v]) hr hy (by simp only [List.length_cons, List.length_nil]; omega) (fun ecs hl hfr => by
      cases y with
      | st ds =>
        cases hfr with
        | st hl' hh =>
          refine ⟨ecs.set j v, by simpa using hl, .st (by simp [hl']) fun q a b ha hb => ?_, fun q a ha => ?_⟩
          · by_cases hq : q = j
            · subst hq
              rw [List.getElem?_set_self (by omega)] at ha
              rw [List.getElem?_set_self (by omega)] at hb
              cases ha; cases hb
              exact hv
            · rw [List.getElem?_set_ne (Ne.symm hq)] at ha hb
              exact hh q a b ha hb
          · by_cases hq : q = j
            · subst hq
              rw [List.getElem?_set_self (by omega)] at ha
              rw [if_pos (by simp)]
              simpa using ha
            · rw [List.getElem?_set_ne (Ne.symm hq)] at ha
              rw [if_neg (by simp only [List.length_cons, List.length_nil]; omega)]
              exact ha
      | _ =>
        have hw : ecs.length = 1 := hfr.width
        have hj0 : j = 0 := by omega
        subst hj0
        refine ⟨[v], by simp only [List.length_cons, List.length_nil]; omega, hv, fun q a ha => ?_⟩
        have hq : q = 0 := by have := (List.getElem?_eq_some_iff.1 ha).1; simp at this; omega
        subst hq
        rw [if_pos (by simp)]
        exact ha)
    refine ⟨_, _, hK, ?_, hsim⟩
    rw [hp]
    have := run_store_gen (P := P) (w := w) (g := ow k c) (o := i * z + j) (v := v) hi (by rw [hcs, hs]; rfl) (by rw [hcs]; intro u hu; simp at hu; subst hu; exact hone) (fun q hq => hth q (by rw [hcs] at hq; simpa using hq))
    rw [hcs] at this
    exact this
  · rename_i hr
    split at hk
    · rename_i cs hb
      obtain ⟨hjl, hK⟩ := bif_some hk
      rw [Nat.blt_eq] at hjl
      have hp := ptr_box hu hb
      obtain ⟨hth, hsim⟩ := box_write h (j := j) (ps := [x]) (vs := [v]) hb (by simp only [List.length_cons, List.length_nil]; omega) rfl (fun q a c ha hc => by
        cases q with
        | zero => simp at ha hc; subst ha; subst hc; exact ⟨hx, hv⟩
        | succ q => simp at hc)
      refine ⟨_, _, hK, ?_, hsim⟩
      rw [hp]
      have := run_store_gen (P := P) (w := w) (g := ow k none) (o := j) (v := v) hi (by rw [hcs, hs]; rfl) (by rw [hcs]; intro u hu; simp at hu; subst hu; exact hone) (fun q hq => hth q (by rw [hcs] at hq; simpa using hq))
      rw [hcs] at this
      exact this
    · cases hk

theorem nilBack_length : ∀ (ns ps : List V), (nilBack ns ps).length = ps.length
  | [], _ => rfl
  | _ :: _, [] => rfl
  | _ :: ns, _ :: ps => by unfold nilBack; simp [nilBack_length ns ps]
theorem isNil_iff {v : V} : isNil v = true ↔ v = .nil := by cases v <;> simp [isNil]
theorem nilBack_get : ∀ (ns ps : List V) (q : Nat) {c : V}, (nilBack ns ps)[q]? = some c → (ns[q]? = some V.nil ∧ c = .nil) ∨ ps[q]? = some c
  | [], ps, q, c, h => .inr h
  | _ :: _, [], q, c, h => by simp [nilBack] at h
  | n :: ns, p :: ps, q, c, h => by
    unfold nilBack at h
    cases q with
    | zero =>
      simp at h
      cases hn : isNil n with
      | true => rw [hn] at h; exact .inl ⟨by simp [isNil_iff.1 hn], h.symm⟩
      | false => rw [hn] at h; exact .inr (by simpa using h)
    | succ q => simpa using nilBack_get ns ps q (by simpa using h)
theorem wrN_ok (hT : TOk P T) (h : Sim T.globL U w0 F0 σ a w ow) {t : TypeId} {ss : List Sh} (ht : T.ty t = .agg ss) {u v : Value} {k : Nat} {c : Option Nat} {i j : Nat} {x : V} (hu : SR w (Fz U w ow σ.ob) ow σ.ob u (.ptr k c i j))
    (hv : VR w (Fz U w ow σ.ob) v x) {ns : List V} (hns : ∀ (q : Nat), ns[q]? = some V.nil → ∀ u, v.cells.toList[q]? = some u → FR w (Fz U w ow σ.ob) [u] .nil) {K : St → Option Res} (hk : wrN σ k c i j ss ns x K = some r) :
    ∃ σ' w', K σ' = some r ∧ (Instr.storeAt t u v).run P w = .ok () w' ∧ Sim T.globL U w0 F0 σ' a w' ow := by
  obtain ⟨dd, ii, hd, hrow, hi, hs⟩ := hT.tya t ss ht
  have hfr := hv.fr
  unfold wrN at hk
  split at hk
  · rename_i oo z xs hr
    obtain ⟨hc, hk2⟩ := bif_some hk
    simp only [Bool.and_eq_true] at hc
    obtain ⟨⟨rfl, hj0⟩, hz⟩ := hc
    have hj0 := beq_nat.1 hj0
    have hz := beq_nat.1 hz
    subst hj0
    obtain ⟨hw, hk3⟩ := wd_some hk2
    obtain ⟨y, hy, hK⟩ := exN_some hk3
    have hp := SC.ptrRow hu hr
    have hlen : v.cells.size = z := by have := hfr.width; rw [Array.length_toList] at this; omega
    obtain ⟨hth, hsim⟩ := row_write h (y' := x) (vs := v.cells.toList) (j := 0) hr hy (by simp; omega) (fun ecs hl hfy => ⟨v.cells.toList, by simpa using hlen, hfr, fun q a ha => by
      have hq : q < v.cells.toList.length := (List.getElem?_eq_some_iff.1 ha).1
      rw [if_pos (by omega)]
      simpa using ha⟩)
    refine ⟨_, _, hK, ?_, hsim⟩
    rw [hp]
    exact run_store_gen (P := P) (w := w) (g := ow k c) (o := i * z + 0) (v := v) hi (by rw [hs]; omega) (fun u hu => hfr.one u hu) (fun q hq => hth q (by simpa using hq))
  · rename_i hr
    split at hk
    · rename_i cs hb
      obtain ⟨hjl, hk2⟩ := bif_some hk
      have hjl := Nat.le_of_ble_eq_true hjl
      obtain ⟨ds, rfl, hdl, hk3⟩ := unSt_some hk2
      obtain ⟨ps, hK, hpl, hps⟩ := unCs_some hk3
      have hp := ptr_box hu hb
      have hlen : v.cells.size = ss.length := by have := hfr.width; rw [Array.length_toList] at this; simp only [width] at this; omega
      have hnl : (nilBack ns ps).length = ps.length := nilBack_length ns ps
      obtain ⟨hth, hsim⟩ := box_write h (j := j) (ps := nilBack ns ps) (vs := v.cells.toList) hb (by omega) (by simp; omega) (fun q a c ha hc => by
        rcases nilBack_get ns ps q hc with ⟨hq, rfl⟩ | hc
        · exact ⟨trivial, hns q hq a ha⟩
        obtain ⟨c1, c2, c3⟩ := hps q c hc
        rw [Nat.zero_add] at c2 c3
        obtain ⟨a', ha', hfa⟩ := hfr.ce c2.ne
        rw [ha] at ha'
        cases ha'
        exact ⟨c1, c3 _ _ _ hfa⟩)
      rw [hnl, hpl] at hsim
      refine ⟨_, _, hK, ?_, hsim⟩
      rw [hp]
      exact run_store_gen (P := P) (w := w) (g := ow k none) (o := j) (v := v) hi (by rw [hs]; omega) (fun u hu => hfr.one u hu) (fun q hq => hth q (by simpa using hq))
    · cases hk
end
end Go.Proofs.YtaapkkeogajfpaaDoor.VM

/- The abstract machine and the memory: a row of rows in a cell of a box turns. -/
set_option linter.unusedVariables false
set_option linter.unusedSimpArgs false
namespace Go.Proofs.YtaapkkeogajfpaaDoor.VM

section
variable {P : Program} {T : TT} {U : Nat → Prop} {w0 w w' : World} {F0 : Fr} {σ σ' : St} {a : Act} {ow ow' : Own} {o : Oper} {r : Res}

theorem kp_some {k c : Nat} {kk : Nat} {q : Option Nat} (h : kp k (some c) (kk, q)) : kk = k ∧ ∃ n, q = some n ∧ (n = c ∨ (c < 64 ∧ ∃ i, n = enc c i)) := by
  rcases h with e | ⟨e, c0, i, h1, h2, h3⟩
  · cases e; exact ⟨rfl, c, rfl, .inl rfl⟩
  · cases h1; exact ⟨e, _, h3, .inr ⟨h2, i, rfl⟩⟩
theorem kp_none {k c kk : Nat} : ¬ kp k (some c) (kk, none) := fun h => by
  obtain ⟨_, n, h, _⟩ := kp_some h; cases h
/-- a key of a row of rows -/
def sgK (c : Nat) (xs : List V) (n : Nat) : Prop := n = c ∨ ∃ i o z ys, n = enc c i ∧ xs[i]? = some (.own o z ys)
theorem sgK_kp {k c n : Nat} {xs : List V} (hc : c < 64) (h : sgK c xs n) : kp k (some c) (k, some n) := by
  rcases h with rfl | ⟨i, _, _, _, rfl, _⟩
  · exact .inl rfl
  · exact .inr ⟨rfl, c, i, rfl, hc, rfl⟩
theorem segAt_box {ob : List Ob} {k c : Nat} {b : Bool} {cs : List V} {l : Lo} {xs : List V} (hb : ob.getD k .none = .box b cs) : segAt (fun k => ob.getD k .none) k c = some (l, xs) ↔ cs[c]? = some (.seg l xs) := by
  rw [segAt_iff]
  constructor
  · rintro ⟨b', cs', h1, h2⟩
    have h1 : ob.getD k .none = .box b' cs' := h1
    rw [hb] at h1; cases h1; exact h2
  · exact fun h => ⟨b, cs, hb, h⟩
theorem sgK_alive {cs : List V} {b : Bool} {c n : Nat} (hc : c < 64) {l : Lo} {xs : List V} (hs : cs[c]? = some (.seg l xs)) (h : sgK c xs n) : owned [Ob.box b cs] 0 (some n) := by
  rcases h with rfl | ⟨i, o, z, ys, rfl, hi⟩
  · exact .inr (segK_hd hs hc)
  · exact .inr (segK_el hs hc hi)

/-- the keys of a box one of whose rows of rows turns -/
theorem alive_segSet {cs : List V} {b : Bool} {c : Nat} (hc : c < 64) {l l' : Lo} {xs xs' : List V} (hs : cs[c]? = some (.seg l xs)) (h64 : ∀ (n : Nat) o z ys, cs[n]? = some (.own o z ys) → n < 64)
    {q : Option Nat} (h : alive [Ob.box b (cs.set c (.seg l' xs'))] 0 q) :
    (∃ n, q = some n ∧ sgK c xs' n) ∨ (alive [Ob.box b cs] 0 q ∧ (owned [Ob.box b (cs.set c (.seg l' xs'))] 0 q → owned [Ob.box b cs] 0 q) ∧ ∀ k, ¬ kp k (some c) (k, q)) := by
  have hcl := (List.getElem?_eq_some_iff.1 hs).1
  have hself : (cs.set c (V.seg l' xs'))[c]? = some (.seg l' xs') := List.getElem?_set_self hcl
  cases q with
  | none => exact .inr ⟨trivial, id, fun k => kp_none⟩
  | some n =>
    by_cases hk : kp 0 (some c) (0, some n)
    · left
      refine ⟨n, rfl, ?_⟩
      obtain ⟨_, m, e, hm⟩ := kp_some hk
      cases e
      rcases hm with hm | ⟨_, i, rfl⟩
      · exact .inl hm
      · rcases h with ⟨o, z, ys, h⟩ | ⟨l1, ys, h1, h2⟩
        · have hge := enc_ge c i
          rw [List.getElem?_set_ne (by omega)] at h
          have := h64 _ _ _ _ h
          omega
        · rw [enc_mod hc, hself] at h1
          cases h1
          rw [enc_div hc] at h2
          rcases h2 with h2 | ⟨o, z, zs, h2⟩
          · have hge := enc_ge c i; omega
          · exact .inr ⟨i, o, z, zs, rfl, h2⟩
    · right
      have hnc : n ≠ c := fun e => hk (.inl (by rw [e]))
      have hmod : n % 64 ≠ c := fun e => hk (by
        by_cases hn : n < 64
        · rw [Nat.mod_eq_of_lt hn] at e; exact absurd e hnc
        · refine .inr ⟨rfl, c, n / 64 - 1, rfl, hc, ?_⟩
          show some n = some (enc c (n / 64 - 1))
          rw [Option.some.injEq]; unfold enc; omega)
      refine ⟨?_, fun ho => ?_, fun k hkk => hk ?_⟩
      · rcases h with ⟨o, z, ys, h⟩ | ⟨l1, ys, h1, h2⟩
        · rw [List.getElem?_set_ne (Ne.symm hnc)] at h; exact .inl ⟨o, z, ys, h⟩
        · rw [List.getElem?_set_ne (Ne.symm hmod)] at h1; exact .inr ⟨l1, ys, h1, h2⟩
      · rcases ho with ⟨z, ys, h⟩ | ⟨l1, ys, h1, h2⟩
        · rw [List.getElem?_set_ne (Ne.symm hnc)] at h; exact .inl ⟨z, ys, h⟩
        · rw [List.getElem?_set_ne (Ne.symm hmod)] at h1; exact .inr ⟨l1, ys, h1, h2⟩
      · obtain ⟨_, m, e, hm⟩ := kp_some hkk
        cases e
        rcases hm with hm | ⟨_, i, hm⟩
        · exact .inl (by rw [hm])
        · exact .inr ⟨rfl, c, i, rfl, hc, by rw [hm]⟩

/-- a row of rows turns -/
theorem Sim.segTurn {GL : List (Nat × V)} (h : Sim GL U w0 F0 σ a w ow) (hx : Ext w w' (ownB σ.ob ow)) (hT : ∀ b n, Th w b n → Th w' b n)
    {k c : Nat} {cs : List V} {l l' : Lo} {xs xs' : List V} (hb : σ.ob.getD k .none = .box true cs) (hs : cs[c]? = some (.seg l xs))
    (how : ∀ kk q, ¬ kp k (some c) (kk, q) → ow' kk q = ow kk q) (hblk : ∀ kk q, alive σ.ob kk q → ¬ kp k (some c) (kk, q) → (kk, q) ≠ (k, none) → w'.heap[ow kk q]? = w.heap[ow kk q]?)
    (hbox : ∀ j, j ≠ c → w'.cell? ⟨ow k none, j, none⟩ = w.cell? ⟨ow k none, j, none⟩) (n0 : Nat)
    (hkeys : ∀ n, sgK c xs' n → (ow' k (some n) = ow k (some n) ∧ alive σ.ob k (some n)) ∨ (n = n0 ∧ ow' k (some n) = w.heap.size ∧ w.heap.size < w'.heap.size))
    (hseg : ∀ A', (∀ b, Fz U w ow σ.ob b → A' b ∧ w'.heap[b]? = w.heap[b]?) → ∀ v, w'.cell? ⟨ow k none, c, none⟩ = some v → SegOk w' A' ow' k c v l' xs')
    (sl' : List V) (hl : sl'.length = σ.sl.length) (hsl : ∀ i A v, SR w A ow σ.ob v (σ.sl.getD i .dead) → SR w A ow σ.ob v (sl'.getD i .dead))
    (hky : ∀ i q, (k, q) ∈ keysV (sl'.getD i .dead) → kp k (some c) (k, q) → sameK σ.ob ow (setSeg σ.ob k c l' xs') ow' k q) :
    Sim GL U w0 F0 ⟨sl', setSeg σ.ob k c l' xs'⟩ a w' ow' := by
  have hkl := lt_of_ob (σ := σ) (k := k) (by rw [hb]; simp)
  have hor := h.ho.obs k
  rw [hb] at hor
  obtain ⟨hth0, hcells⟩ := hor
  have hcl := (List.getElem?_eq_some_iff.1 hs).1
  obtain ⟨v0, hv0⟩ := Option.isSome_iff_exists.1 (hth0 c hcl).1
  rw [Nat.zero_add] at hv0
  have hc : c < 64 := (hcells c v0 _ hv0 hs : SegOk ..).lt
  have h64 : ∀ (n : Nat) o z ys, cs[n]? = some (.own o z ys) → n < 64 := fun n o z ys hn => h.ho.own64 hb hn
  have hset : (setSeg σ.ob k c l' xs').getD k .none = .box true (cs.set c (.seg l' xs')) := by
    unfold setSeg
    rw [getD_set_ob_same _ _ hkl, hb]; rfl
  have hother : ∀ kk, kk ≠ k → (setSeg σ.ob k c l' xs').getD kk .none = σ.ob.getD kk .none := fun kk e => getD_set_ob_other _ _ e
  have hal : ∀ kk q, alive (setSeg σ.ob k c l' xs') kk q → (∃ n, kk = k ∧ q = some n ∧ sgK c xs' n) ∨ (alive σ.ob kk q ∧ ¬ kp k (some c) (kk, q)) := fun kk q ha => by
    by_cases hkk : kk = k
    · subst hkk
      rw [alive_one, hset] at ha
      rcases alive_segSet hc hs h64 ha with ⟨n, e, hn⟩ | ⟨h1, _, h2⟩
      · exact .inl ⟨n, rfl, e, hn⟩
      · exact .inr ⟨alive_of hb h1, h2 kk⟩
    · refine .inr ⟨by rw [← alive_congr (hother kk hkk) q]; exact ha, fun hk => hkk (kp_some hk).1⟩
  have howd : ∀ kk q, owned (setSeg σ.ob k c l' xs') kk q → (∃ n, kk = k ∧ q = some n ∧ sgK c xs' n) ∨ (owned σ.ob kk q ∧ ¬ kp k (some c) (kk, q)) := fun kk q ha => by
    by_cases hkk : kk = k
    · subst hkk
      have ha' := alive_of_owned ha
      rw [alive_one, hset] at ha'
      rcases alive_segSet hc hs h64 ha' with ⟨n, e, hn⟩ | ⟨h1, h3, h2⟩
      · exact .inl ⟨n, rfl, e, hn⟩
      · refine .inr ⟨?_, h2 kk⟩
        rw [owned_one, hset] at ha
        rw [owned_one, hb]
        exact h3 ha
    · refine .inr ⟨by rw [← owned_congr (hother kk hkk) q]; exact ha, fun hk => hkk (kp_some hk).1⟩
  have hsegown : ∀ n, sgK c xs' n → alive σ.ob k (some n) → owned σ.ob k (some n) := fun n hn ha => by
    rw [owned_one, hb]
    rw [alive_one, hb] at ha
    rcases ha with ⟨o, z, ys, ha⟩ | ha
    · exfalso
      have hlt := h64 _ _ _ _ ha
      rcases hn with rfl | ⟨i, _, _, _, rfl, _⟩
      · rw [hs] at ha; cases ha
      · have := enc_ge c i; omega
    · exact .inr ha
  -- where a key's block lies
  have old : ∀ kk q, alive (setSeg σ.ob k c l' xs') kk q → (ow' kk q = ow kk q ∧ alive σ.ob kk q) ∨ (kk = k ∧ q = some n0 ∧ ow' kk q = w.heap.size ∧ w.heap.size < w'.heap.size) := fun kk q ha => by
    rcases hal kk q ha with ⟨n, rfl, rfl, hn⟩ | ⟨h1, h2⟩
    · rcases hkeys n hn with ⟨e1, e2⟩ | ⟨rfl, e1, e2⟩
      · exact .inl ⟨e1, e2⟩
      · exact .inr ⟨rfl, rfl, e1, e2⟩
    · exact .inl ⟨how kk q h2, h1⟩
  refine h.turn hx hT sl' _ hl (by simp [setSeg]) hsl (fun i kk q hkq => ?_) (fun kk q ho => ?_) (fun kk q kk' q' h1 h2 e => ?_) (fun kk q h1 => ?_) (fun hA kk => ?_) (fun kk b hp => ?_)
  · by_cases hkp : kp k (some c) (kk, q)
    · obtain ⟨rfl, _⟩ := kp_some hkp
      exact hky i q hkq hkp
    · by_cases hkk : kk = k
      · subst hkk
        cases q with
        | none => unfold sameK same1; rw [hb]; exact ⟨true, _, hset, by simp, how _ _ hkp⟩
        | some n =>
          refine same2.names (same2.cells (ow' := ow) (fun b' cs' e1 => ?_) rfl) (how _ _ hkp)
          rw [hb] at e1
          cases e1
          refine ⟨true, _, hset, ?_, fun h64 => ?_⟩
          · rw [List.getElem?_set_ne (fun e => hkp (.inl (by rw [e])))]
          · rw [List.getElem?_set_ne (fun e => hkp (.inr ⟨rfl, c, n / 64 - 1, rfl, hc, ?_⟩))]
            show some n = some (enc c (n / 64 - 1))
            rw [Option.some.injEq]; unfold enc; omega
      · exact sameK_congr (hother kk hkk) (fun q => how kk q fun hk => hkk (kp_some hk).1) q
  · rcases howd kk q ho with ⟨n, rfl, rfl, hn⟩ | ⟨h1, h2⟩
    · rcases hkeys n hn with ⟨e1, e2⟩ | ⟨rfl, e1, e2⟩
      · exact .inl ⟨kk, some n, hsegown n hn e2, e1.symm⟩
      · exact .inr (by rw [e1]; exact Nat.le_refl _)
    · exact .inl ⟨kk, q, h1, (how kk q h2).symm⟩
  · rcases old kk q h1 with ⟨e1, g1⟩ | ⟨e1, e2, e3, _⟩ <;> rcases old kk' q' h2 with ⟨f1, g2⟩ | ⟨f1, f2, f3, _⟩
    · rw [e1, f1] at e; exact h.ho.inj _ _ _ _ g1 g2 e
    · rw [e1, f3] at e
      have := (h.ho.lt _ _ g1).1; omega
    · rw [e3, f1] at e
      have := (h.ho.lt _ _ g2).1; omega
    · exact ⟨e1.trans f1.symm, e2.trans f2.symm⟩
  · rcases old kk q h1 with ⟨e1, g1⟩ | ⟨e1, e2, e3, e4⟩
    · rw [e1]; exact ⟨Nat.lt_of_lt_of_le (h.ho.lt _ _ g1).1 hx.size, (h.ho.lt _ _ g1).2⟩
    · rw [e3]; exact ⟨e4, h.un _ h.ext.size⟩
  · by_cases hkk : kk = k
    · subst hkk
      rw [hset]
      have en : ow' kk none = ow kk none := how kk none kp_none
      refine ⟨by rw [en, List.length_set]; exact hT _ _ hth0, fun j v x hv hx' => ?_⟩
      rw [en] at hv
      by_cases hj : j = c
      · subst hj
        rw [List.getElem?_set_self hcl] at hx'
        cases hx'
        exact hseg _ hA v hv
      · rw [List.getElem?_set_ne (Ne.symm hj)] at hx'
        rw [hbox j hj] at hv
        have hbc := hcells j v x hv hx'
        have hn : ∀ n, cellK j x n → ¬ kp kk (some c) (kk, some n) := fun n hn hk => by
          obtain ⟨_, m, e, hm⟩ := kp_some hk
          cases e
          rcases hn with ⟨o', z', ys', rfl, rfl⟩ | ⟨l1, ys1, rfl, rfl | ⟨i1, _, _, _, rfl, _⟩⟩
          · have := h64 _ _ _ _ hx'
            rcases hm with hm | ⟨_, i, hm⟩
            · exact hj hm
            · have := enc_ge c i; omega
          · have := hbc.lt
            rcases hm with hm | ⟨_, i, hm⟩
            · exact hj hm
            · have := enc_ge c i; omega
          · rcases hm with hm | ⟨_, i, hm⟩
            · have := enc_ge j i1; omega
            · exact hj (enc_inj hbc.lt hc hm).1
        exact hbc.keep hA (fun n hn' => ⟨how _ _ (hn n hn'), hblk kk (some n) (alive_of hb (alive_cell hx' hbc hn')) (hn n hn') (by simp)⟩) fun _ => en
    · rw [hother kk hkk]
      have hnk : ∀ q, ¬ kp k (some c) (kk, q) := fun q hk => hkk (kp_some hk).1
      exact (h.ho.obs kk).keep hA (fun hn => ⟨how _ _ (hnk _), hblk kk none (aliveOb hn) (hnk _) (fun e => hkk (by cases e; rfl))⟩) (fun n ha => ⟨how _ _ (hnk _), hblk kk (some n) (alive_at ha) (hnk _) (fun e => hkk (by cases e))⟩)
  · by_cases hkk : kk = k
    · subst hkk
      rw [how kk none kp_none]
      rcases h.pin kk b hp with hn | hn
      · rw [hb] at hn; cases hn
      · exact .inr hn
    · rw [hother kk hkk, how kk none kp_none]; exact h.pin kk b hp

/-- references to a row of rows that turns, but keeps its elements' lengths -/
theorem sameSeg {k c : Nat} {b : Bool} {cs : List V} {l l' : Lo} {xs xs' : List V} (hb : σ.ob.getD k .none = .box b cs) (hs : cs[c]? = some (.seg l xs)) (hn : xs'.length = xs.length)
    (hel : ∀ (i : Nat) x, xs[i]? = some x → ∃ x', xs'[i]? = some x' ∧ elSh x' x) {n : Nat} (hw : ow' k (some n) = ow k (some n)) : sameK σ.ob ow (setSeg σ.ob k c l' xs') ow' k (some n) := by
  have hkl := lt_of_ob (σ := σ) (k := k) (by rw [hb]; simp)
  have hcl := (List.getElem?_eq_some_iff.1 hs).1
  have hself : (cs.set c (V.seg l' xs'))[c]? = some (.seg l' xs') := List.getElem?_set_self hcl
  have hset : (setSeg σ.ob k c l' xs').getD k .none = .box b (cs.set c (.seg l' xs')) := by
    unfold setSeg
    rw [getD_set_ob_same _ _ hkl, hb]; rfl
  refine same2.of (fun b' cs' e => ?_) hw
  rw [hb] at e
  cases e
  refine ⟨b, _, hset, fun o z ys h1 => ⟨o, ys, ?_, rfl⟩, fun l1 ys h1 => ?_, fun j i hj hc l1 ys x h1 hx => ?_⟩
  · rw [List.getElem?_set_ne (fun e => by subst e; rw [hs] at h1; cases h1)]; exact h1
  · by_cases hcn : c = n
    · subst hcn
      rw [hs] at h1
      cases h1
      exact ⟨l', xs', hself, hn⟩
    · exact ⟨l1, ys, by rw [List.getElem?_set_ne hcn]; exact h1, rfl⟩
  · by_cases hcj : c = j
    · subst hcj
      rw [hs] at h1
      cases h1
      obtain ⟨x', h2, h3⟩ := hel i x hx
      exact ⟨l', xs', x', hself, h2, h3⟩
    · exact ⟨l1, ys, x, by rw [List.getElem?_set_ne hcj]; exact h1, hx, .inl rfl⟩
theorem sameSeg0 {k c : Nat} {b : Bool} {cs : List V} {l l' : Lo} {xs : List V} (hb : σ.ob.getD k .none = .box b cs) (hs : cs[c]? = some (.seg l xs)) {q : Option Nat} (hq : kp k (some c) (k, q)) : sameK σ.ob ow (setSeg σ.ob k c l' xs) ow k q := by
  obtain ⟨_, n, rfl, _⟩ := kp_some hq
  exact sameSeg hb hs rfl (fun i x hx => ⟨x, hx, .inl rfl⟩) rfl

theorem Sim.segBox {GL : List (Nat × V)} (h : Sim GL U w0 F0 σ a w ow) {k c : Nat} {l : Lo} {xs : List V} (hs : segAt (fun k => σ.ob.getD k .none) k c = some (l, xs)) (ho : own1 σ k = true) :
    ∃ cs, σ.ob.getD k .none = .box true cs ∧ cs[c]? = some (.seg l xs) := by
  obtain ⟨b, cs, h1, h2⟩ := segAt_iff.1 hs
  have h1 : σ.ob.getD k .none = .box b cs := h1
  unfold own1 at ho
  rw [h1] at ho
  cases b with
  | false => cases ho
  | true => exact ⟨cs, h1, h2⟩
/-- the header of a row of rows whose elements turn -/
theorem sameHd {k c : Nat} {b : Bool} {cs : List V} {l l' : Lo} {xs xs' : List V} (hc : c < 64) (hb : σ.ob.getD k .none = .box b cs) (hs : cs[c]? = some (.seg l xs)) (hn : xs'.length = xs.length)
    (hw : ow' k (some c) = ow k (some c)) : sameK σ.ob ow (setSeg σ.ob k c l' xs') ow' k (some c) := by
  have hkl := lt_of_ob (σ := σ) (k := k) (by rw [hb]; simp)
  have hcl := (List.getElem?_eq_some_iff.1 hs).1
  have hset : (setSeg σ.ob k c l' xs').getD k .none = .box b (cs.set c (.seg l' xs')) := by
    unfold setSeg
    rw [getD_set_ob_same _ _ hkl, hb]; rfl
  refine same2.of (fun b' cs' e => ?_) hw
  rw [hb] at e
  cases e
  refine ⟨b, _, hset, fun o z ys h1 => (by rw [hs] at h1; cases h1), fun l1 ys h1 => ?_, fun j i hj hcc => by have := enc_ge j i; omega⟩
  rw [hs] at h1
  cases h1
  exact ⟨l', xs', List.getElem?_set_self hcl, hn⟩
theorem segAt_set {k c : Nat} {b : Bool} {cs : List V} {l l' : Lo} {xs xs' : List V} (hb : σ.ob.getD k .none = .box b cs) (hs : cs[c]? = some (.seg l xs)) :
    segAt (fun kk => (setSeg σ.ob k c l' xs').getD kk .none) k c = some (l', xs') := by
  have hkl := lt_of_ob (σ := σ) (k := k) (by rw [hb]; simp)
  have hcl := (List.getElem?_eq_some_iff.1 hs).1
  refine segAt_iff.2 ⟨b, cs.set c (.seg l' xs'), ?_, List.getElem?_set_self hcl⟩
  unfold setSeg
  show (σ.ob.set k _).getD k .none = _
  rw [getD_set_ob_same _ _ hkl, hb]; rfl
/-- what refers to elements is forgotten -/
theorem kleC_or (k c : Nat) (x : V) : kleC k c x = x ∨ kleC k c x = .dead := by
  have key : ∀ (b : Bool) (y : V), (bif b then V.dead else y) = y ∨ (bif b then V.dead else y) = .dead := fun b y => by cases b <;> simp
  cases x <;> first | exact .inl rfl | exact key _ _ | skip
  rename_i m
  cases m <;> exact key _ _
theorem kleC_kp {k c : Nat} (hc : c < 64) {x : V} {q : Nat × Option Nat} (hx : keyC x = some q) (hp : q.1 = k ∧ ∃ i, q.2 = some (enc c i)) : kleC k c x = .dead := by
  obtain ⟨hk, i, hq⟩ := hp
  have fin : ∀ {b : Bool} {y : V}, b = true → (bif b then V.dead else y) = .dead := fun h => by rw [h]; rfl
  have hge : geO q.2 = true := by rw [hq]; exact Nat.ble_eq_true_of_le (enc_ge _ _)
  have h64 := enc_ge c i
  cases x <;> first | (cases hx; done) | skip
  case ptr k' c' i j =>
    simp only [keyC, Option.some.injEq] at hx
    subst hx
    exact fin (by rw [Bool.and_eq_true]; exact ⟨by rw [show k' = k from hk]; exact Nat.beq_refl _, hge⟩)
  case ref k' c' m =>
    simp only [keyC, Option.some.injEq] at hx
    subst hx
    exact fin (by rw [Bool.and_eq_true]; exact ⟨by rw [show k' = k from hk]; exact Nat.beq_refl _, hge⟩)
  case bref k' =>
    simp only [keyC, Option.some.injEq] at hx
    subst hx
    cases hq
  case sg k' c' m =>
    simp only [keyC, Option.some.injEq] at hx
    subst hx
    have hk : k' = k := hk
    subst hk
    simp only [Option.some.injEq] at hq
    cases m with
    | hd => exact fin (by rw [Bool.and_eq_true]; exact ⟨Nat.beq_refl _, Nat.ble_eq_true_of_le (by simp only at hq; omega)⟩)
    | pl _ => exact fin (by rw [Bool.and_eq_true]; exact ⟨Nat.beq_refl _, Nat.ble_eq_true_of_le (by simp only at hq; omega)⟩)
    | el j =>
      refine fin (by
        rw [Bool.and_eq_true, Bool.or_eq_true]
        refine ⟨Nat.beq_refl _, ?_⟩
        by_cases h : c' < 64
        · left; rw [(enc_inj h hc hq).1]; exact Nat.beq_refl _
        · right; exact Nat.ble_eq_true_of_le (by omega))
    | sub j l =>
      refine fin (by
        rw [Bool.and_eq_true, Bool.or_eq_true]
        refine ⟨Nat.beq_refl _, ?_⟩
        by_cases h : c' < 64
        · left; rw [(enc_inj h hc hq).1]; exact Nat.beq_refl _
        · right; exact Nat.ble_eq_true_of_le (by omega))
theorem kle_forget (k c : Nat) (hc : c < 64) : Forget (kleV k c) (fun q => q.1 = k ∧ ∃ i, q.2 = some (enc c i)) (kleC k c) (kleT k c) where
  dead := rfl
  c := fun x => kleC_or k c x
  ck := fun x q h e => by
    have hx : keyC x = some q := by
      rcases kleC_or k c x with h' | h'
      · rw [h'] at h; exact h
      · rw [h'] at h; cases h
    rw [kleC_kp hc hx e] at h
    cases h
  t1 := fun _ => rfl
  t2 := fun x h => by cases x <;> first | rfl | exact absurd rfl (h _)
  st := fun _ => rfl
  tup := fun _ => rfl
  el := fun x h1 h2 => by cases x <;> first | rfl | exact absurd rfl (h1 _) | exact absurd rfl (h2 _)
/-- blocks of different keys -/
theorem HO.apart {ob : List Ob} (h : HO U w ow ob) {k k' : Nat} {q q' : Option Nat} (h1 : alive ob k q) (h2 : alive ob k' q') (hne : (k, q) ≠ (k', q')) : ow k q ≠ ow k' q' := fun e => hne (by
  obtain ⟨e1, e2⟩ := h.inj _ _ _ _ h1 h2 e
  rw [e1, e2])

theorem stoEl_ok (hT : TOk P T) (h : Sim T.globL U w0 F0 σ a w ow) {t : TypeId} {sh : Sh} (ht : T.ty t = .c sh) {u v : Value} {k c i k' c' i' : Nat}
    (hu : SR w (Fz U w ow σ.ob) ow σ.ob u (.sg k c (.pl i))) (hv : SR w (Fz U w ow σ.ob) ow σ.ob v (.sg k' c' (.el i'))) {K : St → Option Res} (hk : stoEl σ k c i k' c' i' K = some r) :
    ∃ σ' w' ow', K σ' = some r ∧ (Instr.storeAt t u v).run P w = .ok () w' ∧ Sim T.globL U w0 F0 σ' a w' ow' := by
  unfold stoEl at hk
  split at hk
  · rename_i l xs hs
    obtain ⟨hc, hK⟩ := bif_some hk
    simp only [Bool.and_eq_true] at hc
    obtain ⟨⟨⟨⟨e1, e2⟩, e3⟩, e4⟩, e5⟩ := hc
    cases beq_nat.1 e1; cases beq_nat.1 e2; cases beq_nat.1 e3
    have hl : l = .el i := by
      cases l <;> first | (cases e4; done) | (simp only [isEl] at e4; rw [beq_nat.1 e4])
    subst hl
    have hs : segAt (fun k => σ.ob.getD k .none) k c = some (.el i, xs) := hs
    obtain ⟨l1, xs1, f1, f2, f3⟩ := hu
    rw [hs] at f1; cases f1
    obtain ⟨h64, l2, xs2, x, g1, g2, g3⟩ := hv
    rw [hs] at g1; cases g1
    obtain ⟨cs, hb, hcs⟩ := h.segBox hs e5
    obtain ⟨v0, hv0, hseg⟩ := h.seg hs
    have hou : owned σ.ob k (some c) := by rw [owned_one, hb]; exact sgK_alive h64 hcs (.inl rfl)
    have hal := alive_of_owned hou
    have hob : owned σ.ob k none := by rw [owned_one, hb]; rfl
    have halb := alive_of_owned hob
    have hone : v.oneCell' = true := by rcases g3 with ⟨_, rfl⟩ | ⟨_, _, _, rfl, _⟩ <;> rfl
    have hvc := cells_of_one hone
    have hth : ∀ q, q < [v].length → (w.cell? ⟨ow k (some c), i + q, none⟩).isSome = true ∧ w.frozen? ⟨ow k (some c), i + q, none⟩ = false := fun q hq => by
      have := hseg.th (i + q) (by simp at hq; omega)
      rwa [Nat.zero_add] at this
    obtain ⟨hx, hTh⟩ := ext_setCells (w := w) (g := ow k (some c)) (o := i) (vs := [v]) (F := ownB σ.ob ow) ⟨k, some c, hou, rfl⟩ (fun q hq => (hth q hq).1)
    have hblk : ∀ kk q, alive σ.ob kk q → (kk, q) ≠ (k, some c) → (w.setCells (ow k (some c)) i [v]).heap[ow kk q]? = w.heap[ow kk q]? := fun kk q ha hne =>
      World.heap_setCells_other w _ _ _ (h.ho.lt _ _ ha).1 (h.ho.apart ha hal hne)
    have hbb : (w.setCells (ow k (some c)) i [v]).heap[ow k none]? = w.heap[ow k none]? := hblk k none halb (by simp)
    have hcell : ∀ j, (w.setCells (ow k (some c)) i [v]).cell? ⟨ow k none, j, none⟩ = w.cell? ⟨ow k none, j, none⟩ := fun j => World.cell?_of_block (w := w) (a := ⟨ow k none, j, none⟩) hbb
    obtain ⟨dd, ii, hd, hrow, hi, hsz, _⟩ := hT.tyc t sh ht
    refine ⟨_, w.setCells (ow k (some c)) i [v], ow, hK, ?_, h.segTurn hx hTh hb hcs (fun _ _ _ => rfl) (fun kk q ha hn _ => hblk kk q ha (fun e => hn (by cases e; exact .inl rfl))) (fun j _ => hcell j) 0 (fun n hn => .inl ⟨rfl, alive_of_owned (by rw [owned_one, hb]; exact sgK_alive h64 hcs hn)⟩)
      (fun A' hA v1 hv1 => ?_) σ.sl rfl (fun _ _ _ hh => hh) (fun _ q _ hq => sameSeg0 hb hcs hq)⟩
    · rw [f3]
      have := run_store_gen (P := P) (w := w) (g := ow k (some c)) (o := i) (v := v) hi (by rw [hvc, hsz]; rfl) (by rw [hvc]; intro u hu; simp at hu; subst hu; exact hone) (fun q hq => hth q (by rw [hvc] at hq; simpa using hq))
      rw [hvc] at this
      exact this
    · rw [hcell] at hv1
      rw [hv0] at hv1
      cases hv1
      have hin : ∀ (j : Nat) ys, xs[j]? = some (.own true 1 ys) → alive σ.ob k (some (enc c j)) ∧ (k, some (enc c j)) ≠ (k, some c) := fun j ys hj => ⟨alive_of_owned (by rw [owned_one, hb]; exact sgK_alive h64 hcs (.inr ⟨j, _, _, _, rfl, hj⟩)), fun e => by
        have := enc_ge c j
        simp only [Prod.mk.injEq, Option.some.injEq, true_and] at e; omega⟩
      refine ⟨h64, hTh _ _ hseg.th, fun _ => ?_, fun j y hj => ?_, fun j y hj _ => ?_⟩
      · obtain ⟨cp, q1, q2, q3⟩ := hseg.hd (by simp)
        exact ⟨cp, q1, q2, hTh _ _ q3⟩
      · rcases hseg.el j y hj with rfl | ⟨ys, cp, rfl, q1⟩
        · exact .inl rfl
        · exact .inr ⟨ys, cp, rfl, q1.keep hA (hblk _ _ (hin j ys hj).1 (hin j ys hj).2)⟩
      · have elh : ∀ {u : Value}, ElH w (ow k (some (enc c j))) u y → ElH (w.setCells (ow k (some c)) i [v]) (ow k (some (enc c j))) u y := fun {u} hh => by
          rcases hh with hh | ⟨ys, cp, q1, q2, q3, q4⟩
          · exact .inl hh
          · exact .inr ⟨ys, cp, q1, q2, q3, hTh _ _ q4⟩
        by_cases hji : j = i
        · subst hji
          rw [g2] at hj
          cases hj
          have := cell_in (w := w) (g := ow k (some c)) (o := j) (vs := [v]) (fun q hq => (hth q hq).1) (j := 0) rfl
          rw [Nat.add_zero] at this
          exact ⟨v, this, elh g3⟩
        · obtain ⟨u, q1, q2⟩ := hseg.hl j y hj (by simpa using Ne.symm hji)
          exact ⟨u, by rw [cell_out (by simp only [List.length_cons, List.length_nil]; omega)]; exact q1, elh q2⟩
  · cases hk

theorem stoHd_ok (hT : TOk P T) (h : Sim T.globL U w0 F0 σ a w ow) {t : TypeId} {sh : Sh} (ht : T.ty t = .c sh) {u v : Value} {k j k' c' : Nat}
    (hu : SR w (Fz U w ow σ.ob) ow σ.ob u (.ptr k none 0 j)) (hv : SR w (Fz U w ow σ.ob) ow σ.ob v (.sg k' c' .hd)) {K : St → Option Res} (hk : stoHd σ k j k' c' K = some r) :
    ∃ σ' w' ow', K σ' = some r ∧ (Instr.storeAt t u v).run P w = .ok () w' ∧ Sim T.globL U w0 F0 σ' a w' ow' := by
  unfold stoHd at hk
  split at hk
  · rename_i l xs hs
    obtain ⟨hc, hK⟩ := bif_some hk
    simp only [Bool.and_eq_true] at hc
    obtain ⟨⟨⟨e1, e2⟩, e4⟩, e5⟩ := hc
    cases beq_nat.1 e1; cases beq_nat.1 e2
    have hl : l = .hd := by
      cases l <;> first | rfl | cases e4
    subst hl
    have hs : segAt (fun k => σ.ob.getD k .none) k j = some (.hd, xs) := hs
    obtain ⟨l2, xs2, cp, g1, g2, g3, g4⟩ := hv
    rw [hs] at g1; cases g1
    obtain ⟨cs, hb, hcs⟩ := h.segBox hs e5
    obtain ⟨v0, hv0, hseg⟩ := h.seg hs
    have h64 := hseg.lt
    have hp := ptr_box hu hb
    have hob : owned σ.ob k none := by rw [owned_one, hb]; rfl
    have halb := alive_of_owned hob
    have hor := h.ho.obs k
    rw [hb] at hor
    obtain ⟨hth0, _⟩ := hor
    have hjl := (List.getElem?_eq_some_iff.1 hcs).1
    have hth : ∀ q, q < [v].length → (w.cell? ⟨ow k none, j + q, none⟩).isSome = true ∧ w.frozen? ⟨ow k none, j + q, none⟩ = false := fun q hq => by
      have := hth0 (j + q) (by simp at hq; omega)
      rwa [Nat.zero_add] at this
    obtain ⟨hx, hTh⟩ := ext_setCells (w := w) (g := ow k none) (o := j) (vs := [v]) (F := ownB σ.ob ow) ⟨k, none, hob, rfl⟩ (fun q hq => (hth q hq).1)
    have hblk : ∀ kk q, alive σ.ob kk q → (kk, q) ≠ (k, none) → (w.setCells (ow k none) j [v]).heap[ow kk q]? = w.heap[ow kk q]? := fun kk q ha hne =>
      World.heap_setCells_other w _ _ _ (h.ho.lt _ _ ha).1 (h.ho.apart ha halb hne)
    have hkal : ∀ n, sgK j xs n → alive σ.ob k (some n) := fun n hn => alive_of_owned (by rw [owned_one, hb]; exact sgK_alive h64 hcs hn)
    obtain ⟨dd, ii, hd, hrow, hi, hsz, _⟩ := hT.tyc t sh ht
    have hvc : v.cells = #[v] := by rw [g2]; rfl
    refine ⟨_, w.setCells (ow k none) j [v], ow, hK, ?_, h.segTurn hx hTh hb hcs (fun _ _ _ => rfl) (fun kk q ha _ hn => hblk kk q ha hn) (fun q hq => cell_out (by simp only [List.length_cons, List.length_nil]; omega)) 0 (fun n hn => .inl ⟨rfl, hkal n hn⟩)
      (fun A' hA v1 hv1 => ?_) σ.sl rfl (fun _ _ _ hh => hh) (fun _ q _ hq => sameSeg0 hb hcs hq)⟩
    · rw [hp]
      have := run_store_gen (P := P) (w := w) (g := ow k none) (o := j) (v := v) hi (by rw [hvc, hsz]; rfl) (by rw [hvc]; intro u hu; simp at hu; subst hu; rw [g2]; rfl) (fun q hq => hth q (by rw [hvc] at hq; simpa using hq))
      rw [hvc] at this
      exact this
    · have := cell_in (w := w) (g := ow k none) (o := j) (vs := [v]) (fun q hq => (hth q hq).1) (j := 0) rfl
      rw [Nat.add_zero] at this
      rw [this] at hv1
      cases hv1
      refine ⟨h64, hTh _ _ hseg.th, fun _ => ⟨cp, g2, g3, hTh _ _ g4⟩, fun q y hq => ?_, fun q y hq _ => ?_⟩
      · rcases hseg.el q y hq with rfl | ⟨ys, cp, rfl, q1⟩
        · exact .inl rfl
        · exact .inr ⟨ys, cp, rfl, q1.keep hA (hblk _ _ (hkal _ (.inr ⟨q, _, _, _, rfl, hq⟩)) (by simp))⟩
      · obtain ⟨u, q1, q2⟩ := hseg.hl q y hq (by simp)
        refine ⟨u, by rw [World.cell?_of_block (w := w) (a := ⟨ow k (some j), q, none⟩) (hblk k (some j) (hkal _ (.inl rfl)) (by simp))]; exact q1, ?_⟩
        rcases q2 with q2 | ⟨ys, cp, q2, q3, q4, q5⟩
        · exact .inl q2
        · exact .inr ⟨ys, cp, q2, q3, q4, hTh _ _ q5⟩
  · cases hk
end
end Go.Proofs.YtaapkkeogajfpaaDoor.VM

/- The abstract machine and the memory: a row goes into a box; the store. -/
set_option linter.unusedVariables false
set_option linter.unusedSimpArgs false
namespace Go.Proofs.YtaapkkeogajfpaaDoor.VM

section
variable {P : Program} {T : TT} {U : Nat → Prop} {w0 w w' : World} {F0 : Fr} {σ σ' : St} {a : Act} {ow ow' : Own} {o : Oper} {r : Res}

theorem kil_r2 (w : World) (ow : Own) (σ : St) (k k' : Nat) (c c' : Option Nat) : KilR w ow σ (kil (kil σ k' c') k c) (fun q => kp k' c' q ∨ kp k c q) :=
  (kil_r w ow σ k' c').comp (kil_r w ow (kil σ k' c') k c) fun i q h => kil_keeps k c i q h

theorem kil_cell {σ : St} {k j : Nat} {b : Bool} {cs : List V} (h : (kil σ k (some j)).ob.getD k .none = .box b cs) (hj : j < cs.length) : cs[j]? = some .dead := by
  have hkl : k < σ.ob.length := by
    have := lt_of_ob (σ := kil σ k (some j)) (k := k) (by rw [h]; simp)
    simpa [kil, kilO] using this
  rw [show (kil σ k (some j)).ob.getD k .none = kilB (some j) (σ.ob.getD k .none) from getD_set_ob_same _ _ hkl] at h
  cases ho : σ.ob.getD k .none with
  | none => rw [ho] at h; cases h
  | row => rw [ho] at h; cases h
  | box b' cs' =>
    rw [ho] at h
    injection h with _ h
    subst h
    rw [getElem?_set_V, if_pos ⟨rfl, by simpa using hj⟩]
theorem mvR_ok (hT : TOk P T) (h : Sim T.globL U w0 F0 σ a w ow) {t : TypeId} {sh : Sh} (ht : T.ty t = .c sh) {u v : Value} {k j k' : Nat} {c' m : Option Nat} {b0 : Bool} {cs0 : List V} (hb0 : σ.ob.getD k .none = .box b0 cs0)
    (hu : SR w (Fz U w ow σ.ob) ow σ.ob u (.ptr k none 0 j)) (hv : SR w (Fz U w ow σ.ob) ow σ.ob v (.ref k' c' m)) {K : St → Option Res} (hk : mvR σ k j k' c' m K = some r) :
    ∃ σ' w' ow', K σ' = some r ∧ (Instr.storeAt t u v).run P w = .ok () w' ∧ Sim T.globL U w0 F0 σ' a w' ow' := by
  unfold mvR at hk
  split at hk
  · rename_i z xs hr
    simp only at hk
    split at hk
    · rename_i cs hb
      obtain ⟨hjl, hK⟩ := bif_some hk
      rw [Bool.and_eq_true, Nat.blt_eq, Nat.blt_eq] at hjl
      obtain ⟨hjl, hj64⟩ := hjl
      have hdead := kil_cell hb hjl
      have hkr := kil_r2 w ow σ k k' (some j) c'
      generalize hσ : kil (kil σ k' c') k (some j) = σ1 at hb hK hkr
      obtain ⟨o3, z3, xs3, cp, f1, f2, f3, f4, f5⟩ := hv
      have hr' : obRow (fun k => σ.ob.getD k .none) k' c' = some (true, z, xs) := hr
      rw [hr'] at f1
      cases f1
      have howd' := owned_row hr
      have hal' := alive_of_owned howd'
      have hkn1 : owned σ1.ob k none := by unfold owned; rw [hb]
      have hkn := hkr.owd k none hkn1
      have hkal := alive_of_owned hkn
      have hp := ptr_box hu hb0
      have hne : (k', c') ≠ (k, none) := fun e => by
        cases e
        rw [show σ.ob.getD k .none = .row true z xs from obRow_none.1 hr] at hb0; cases hb0
      have hgne : ow k' c' ≠ ow k none := fun e => hne (by obtain ⟨e1, e2⟩ := h.ho.inj _ _ _ _ hal' hkal e; rw [e1, e2])
      have hor1 := fun A hA => hkr.or k A hA
      obtain ⟨hth0, hcells⟩ : OR w (Fz U w ow σ.ob) ow k (.box true cs) := by have := hkr.or k _ (h.ho.obs k); rwa [hb] at this
      have hth : ∀ q, q < [v].length → (w.cell? ⟨ow k none, j + q, none⟩).isSome = true ∧ w.frozen? ⟨ow k none, j + q, none⟩ = false := fun q hq => by
        have := hth0 (j + q) (by simp at hq; omega)
        rwa [Nat.zero_add] at this
      obtain ⟨hx, hTh⟩ := ext_setCells (w := w) (g := ow k none) (o := j) (vs := [v]) (F := ownB σ.ob ow) ⟨k, none, hkn, rfl⟩ (fun q hq => (hth q hq).1)
      have hblk : ∀ kk c, alive σ.ob kk c → (kk, c) ≠ (k, none) → (w.setCells (ow k none) j [v]).heap[ow kk c]? = w.heap[ow kk c]? := fun kk c ha hne =>
        World.heap_setCells_other w _ _ _ (h.ho.lt kk c ha).1 fun e => hne (by
          obtain ⟨e1, e2⟩ := h.ho.inj kk c k none ha hkal e
          rw [e1, e2])
      have hkl := lt_of_ob (σ := σ) (k := k) (by rw [hb0]; simp)
      have hsame : (σ1.ob.set k (.box true (cs.set j (.own true z (cut xs m))))).getD k .none = .box true (cs.set j (.own true z (cut xs m))) := getD_set_ob_same _ _ (by rw [hkr.obl]; exact hkl)
      have hnal : ¬ alive σ1.ob k' c' := fun ha => by
        rw [← hσ] at ha
        exact kil_dead k' c' (h.ho.row64 hr) hr ((kil_r w ow (kil σ k' c') k (some j)).al _ _ ha)
      obtain ⟨dd, ii, hd, hrow, hi, hs, _⟩ := hT.tyc t sh ht
      refine ⟨_, w.setCells (ow k none) j [v], _, hK, ?_, h.rekey hx hTh hkr k (some j) _ (ow k' c') hkl (.inr (.inl rfl)) (fun c hc => ?_) (fun c hc => ?_) (fun c hc => ?_) ⟨Nat.lt_of_lt_of_le (h.ho.lt _ _ hal').1 hx.size, (h.ho.lt _ _ hal').2, .inl ⟨k', c', howd', rfl⟩⟩
        (fun kk c ha hne' e => ?_) (fun kk c hkk ha => hblk kk c (hkr.al _ _ ha) (fun e => hkk (by cases e; rfl))) (fun A' hA => ?_) (fun b hb' => ⟨by simp, by rw [hb]; simp⟩)⟩
      · rw [hp]
        have hcs : v.cells = #[v] := by rw [f2]; rfl
        have := run_store_gen (P := P) (w := w) (g := ow k none) (o := j) (v := v) hi (by rw [hcs, hs]; rfl) (by rw [hcs]; intro u hu; simp at hu; subst hu; rw [f2]; rfl) (fun q hq => hth q (by rw [hcs] at hq; simpa using hq))
        rw [hcs] at this
        exact this
      · cases c with
        | none => exact .inr (alive_of_owned hkn1)
        | some i =>
          rcases hc with ⟨o', z', xs', hi'⟩ | hi'
          · by_cases hij : i = j
            · exact .inl (by rw [hij])
            · refine .inr ?_
              rw [List.getElem?_set_ne (Ne.symm hij)] at hi'
              unfold alive; rw [hb]; exact .inl ⟨o', z', xs', hi'⟩
          · refine .inr ?_
            unfold alive; rw [hb]; exact .inr (segK_unset (by simp) hi')
      · cases c with
        | none => exact .inr hkn1
        | some i =>
          rcases hc with ⟨z', xs', hi'⟩ | hi'
          · by_cases hij : i = j
            · exact .inl (by rw [hij])
            · refine .inr ?_
              rw [List.getElem?_set_ne (Ne.symm hij)] at hi'
              unfold owned; rw [hb]; exact .inl ⟨z', xs', hi'⟩
          · refine .inr ?_
            unfold owned; rw [hb]; exact .inr (segK_unset (by simp) hi')
      · cases c with
        | none => unfold sameK same1; rw [hb]; exact ⟨true, _, hsame, by simp, rfl⟩
        | some i =>
          refine same2.of (fun b' cs' e1 => ?_) rfl
          rw [hb] at e1
          cases e1
          refine ⟨true, _, hsame, fun o0 z0 x0 h0 => ⟨o0, x0, ?_, rfl⟩, fun l x0 h0 => ⟨l, x0, seg_set hdead (by simp) h0, rfl⟩, fun j' i' _ _ l x0 x h0 hx => ⟨l, x0, x, seg_set hdead (by simp) h0, hx, .inl rfl⟩⟩
          rw [List.getElem?_set_ne (fun e => hc (by rw [e]))]
          exact h0
      · obtain ⟨e1, e2⟩ := h.ho.inj _ _ _ _ (hkr.al _ _ ha) hal' e
        exact hnal (by rw [← e1, ← e2]; exact ha)
      · have e0 : rek ow k (some j) (ow k' c') k none = ow k none := rek_other (by simp)
        refine ⟨by rw [e0, List.length_set]; exact hTh _ _ hth0, fun q y x hy hx' => ?_⟩
        rw [e0] at hy
        rw [getElem?_set_V] at hx'
        by_cases hqj : q = j
        · subst hqj
          rw [if_pos ⟨rfl, hjl⟩] at hx'
          cases hx'
          have hc := cell_in (w := w) (g := ow k none) (o := q) (vs := [v]) (fun q hq => (hth q hq).1) (j := 0) rfl
          rw [Nat.add_zero] at hc
          rw [hc] at hy
          cases hy
          have e1 : rek ow k (some q) (ow k' c') k (some q) = ow k' c' := rek_same ⟨rfl, rfl⟩
          refine ⟨cp, ⟨by rw [e1, f2, length_cut f3], hj64⟩, by rw [length_cut f3]; exact f4, by rw [e1]; exact hTh _ _ f5, fun i x hi' => ?_⟩
          obtain ⟨cc, hrow'⟩ := h.ho.row hr'
          obtain ⟨ecs, g1, g2, g3⟩ := hrow'.at_ i x (getElem?_cut hi')
          rw [e1]
          exact ⟨ecs, g1, g2.mono (hblk k' c' hal' hne), g3.mono (fun b hb => (hA b hb).2) (fun b hb => (hA b hb).1)⟩
        · rw [if_neg (fun hh => hqj hh.1)] at hx'
          rw [cell_out (by simp only [List.length_cons, List.length_nil]; omega)] at hy
          refine (hcells q y x hy hx').keep hA (fun n hn => ⟨rek_other (by simpa using cellK_ne hn hqj hj64), hblk k (some n) (hkr.al _ _ (alive_of hb (alive_cell hx' (hcells q y x hy hx') hn))) (by simp)⟩) fun _ => rek_other (by simp)
    · cases hk
  · cases hk

/-- what was nothing is so when it was made fit -/
theorem sealV_nil {R : Type} {rr : R} (h : HO U w ow σ.ob) {v : V} {K : V → List (Nat × Option Nat) → Option R} {ty : TypeId} (hk : sealV (lkE σ) (nrmV T ty v) K = some rr) :
    ∃ x s, K x s = some rr ∧ SealOk U w ow σ.ob v x s ∧ ∀ s', (∀ q ∈ s, q ∈ s') → ∀ u, SR w (Fz U w ow σ.ob) ow σ.ob u v → ∀ (q : Nat), (srcC v)[q]? = some V.nil → ∀ a, u.cells.toList[q]? = some a → FR w (Fz U w ow (freeze σ.ob s')) [a] .nil := by
  obtain ⟨x, s, h1, h2⟩ := sealV_ok h hk
  refine ⟨x, s, h1, fun s' hs' u hu => h2 s' hs' u hu.nrm, fun s' hs' u hu q hq a ha => ?_⟩
  cases v <;> first | (simp [srcC] at hq; done) | skip
  rename_i cs
  have hq : cs[q]? = some .nil := hq
  obtain ⟨arr, rfl, e2, e3⟩ := hu
  have ha : arr[q]? = some a := by simpa [Value.cells] using ha
  have hf : FR w (Fz U w ow σ.ob) [a] .nil := e3 q a _ ha hq
  exact hf.mono (fun _ _ => rfl) (fun _ hb => Fz.freeze hb)
theorem sto_ok (hT : TOk P T) (h : Sim T.globL U w0 F0 σ a w ow) {t : TypeId} {p q : Operand} (ho : o.op = .store t p q) (hd : o.dst = none) {K : St → Option Res} (hk : sto T σ t (val T σ p) (val T σ q) K = some r) :
    ∃ σ', K σ' = some r ∧ DoneO P T.globL U w0 F0 a w o σ' := by
  have hu := val_sr h p
  have hv := val_sr h q
  unfold sto at hk
  split at hk
  · rename_i k c i j sh hp ht
    have plain : sealC (lkE σ) (val T σ q) (fun x s => wr1 ⟨σ.sl, freeze σ.ob s⟩ k c i j x K) = some r → ∃ σ', K σ' = some r ∧ DoneO P T.globL U w0 F0 a w o σ' := fun he => by
      obtain ⟨x, s, hK, hx, hs⟩ := sealC_ok h.ho he
      have h2 := h.freeze s
      have hu2 : SR w (Fz U w ow (freeze σ.ob s)) ow (freeze σ.ob s) (a.eval p) (.ptr k c i j) := by
        have := val_sr h2 p
        rw [show val T ⟨σ.sl, freeze σ.ob s⟩ p = val T σ p from rfl, hp] at this
        exact this
      have hsc : SC w (Fz U w ow σ.ob) ow σ.ob (a.eval q) (val T σ q) := by
        have hv' := hv
        revert he hv'
        generalize val T σ q = y
        intro he hv'
        cases y <;> first | exact hv' | cases he
      obtain ⟨σ', w', g1, g2, g3⟩ := wr1_ok hT h2 ht hu2 hx (hs s (fun _ hh => hh) _ hsc) hK
      exact ⟨σ', g1, done_store ho hd g2 g3⟩
    simp only at hk
    split at hk
    · rename_i k' c' m hq
      cases hcond : (sto.isBox (σ.ob.getD k .none) && sto.isN c && ownedB σ k' c') with
      | false =>
        rw [hcond] at hk
        exact plain hk
      | true =>
        rw [hcond] at hk
        obtain ⟨hi, hk2⟩ := bif_some hk
        have hi := beq_nat.1 hi
        subst hi
        simp only [Bool.and_eq_true] at hcond
        obtain ⟨⟨hb, hn⟩, _⟩ := hcond
        have hc : c = none := by cases c <;> first | rfl | cases hn
        subst hc
        have : ∃ b0 cs0, σ.ob.getD k .none = .box b0 cs0 := by
          cases hob : σ.ob.getD k .none with
          | box b0 cs0 => exact ⟨b0, cs0, rfl⟩
          | _ => rw [hob] at hb; cases hb
        obtain ⟨b0, cs0, hb0⟩ := this
        rw [hp] at hu
        rw [hq] at hv
        obtain ⟨σ', w', ow', g1, g2, g3⟩ := mvR_ok hT h ht hb0 hu hv hk2
        exact ⟨σ', g1, done_store ho hd g2 g3⟩
    · rename_i k' c' hq
      obtain ⟨hcond, hk2⟩ := bif_some hk
      simp only [Bool.and_eq_true] at hcond
      have hi := beq_nat.1 hcond.2
      subst hi
      have hc : c = none := by cases c <;> first | rfl | cases hcond.1
      subst hc
      rw [hp] at hu
      rw [hq] at hv
      obtain ⟨σ', w', ow', g1, g2, g3⟩ := stoHd_ok hT h ht hu hv hk2
      exact ⟨σ', g1, done_store ho hd g2 g3⟩
    · exact plain hk
  · rename_i k c i sh hp ht
    split at hk
    · rename_i k' c' i' hq
      rw [hp] at hu
      rw [hq] at hv
      obtain ⟨σ', w', ow', g1, g2, g3⟩ := stoEl_ok hT h ht hu hv hk
      exact ⟨σ', g1, done_store ho hd g2 g3⟩
    · cases hk
  · rename_i k c i j ss hp ht
    simp only at hk
    obtain ⟨x, s, hK, hs, hns⟩ := sealV_nil h.ho hk
    have h2 := h.freeze s
    have hu2 : SR w (Fz U w ow (freeze σ.ob s)) ow (freeze σ.ob s) (a.eval p) (.ptr k c i j) := by
      have := val_sr h2 p
      rw [show val T ⟨σ.sl, freeze σ.ob s⟩ p = val T σ p from rfl, hp] at this
      exact this
    obtain ⟨σ', w', g1, g2, g3⟩ := wrN_ok hT h2 ht hu2 (hs s (fun _ hh => hh) _ hv) (fun q hq u hu => hns s (fun _ hh => hh) _ hv q hq u hu) hK
    exact ⟨σ', g1, done_store ho hd g2 g3⟩
  · cases hk
end
end Go.Proofs.YtaapkkeogajfpaaDoor.VM

/- The abstract machine and the memory: append. -/
set_option linter.unusedVariables false
set_option linter.unusedSimpArgs false
namespace Go.Proofs.YtaapkkeogajfpaaDoor.VM
open Go.RowKit

section
variable {P : Program} {T : TT} {U : Nat → Prop} {w0 w w' : World} {F0 : Fr} {σ σ' : St} {a : Act} {ow ow' : Own} {o : Oper} {r : Res}

/-- what is appended: the cells of a slice, a text's bytes, or so many elements that are nothing yet -/
def ASrc (P : Program) (i : TypeInfo) (z : Value) (tx : TypeId) (x : Value) (n : Nat) (news : List Value) (w : World) : Prop :=
  Src P i.size tx x n news w ∨ ((∃ k, P.underlying tx = some (.int k)) ∧ (∃ kx, x = .int kx n) ∧ 0 < n ∧ (n : Int) ≤ 9223372036854775807 ∧ n * i.bytes ≤ 281474976710656 ∧ news = (Builtin.zeroCells z.cells n).toList ∧ z.cells.size = i.size ∧ 0 < i.size ∧ i.zero = some z ∧ ∀ u ∈ news, u.oneCell' = true)
theorem ASrc.newsLen {i : TypeInfo} {z : Value} {tx : TypeId} {x : Value} {n : Nat} {news : List Value} (h : ASrc P i z tx x n news w) : news.length = n * i.size := by
  rcases h with h | ⟨_, _, _, _, _, rfl, h, _⟩
  · exact h.newsLen
  · rw [Array.length_toList, size_zeroCells, h]
theorem run_append_room_a (t tx ty e : TypeId) (i : TypeInfo) (z : Value) (ht : P.underlying t = some (.slice e)) (hi : P.info? e = some i) (b off sLen sCap : Nat) (x : Value) (n : Nat) (news : List Value) (hs : ASrc P i z tx x n news w)
    (hroom : sLen + n ≤ sCap) (hc : ∀ j, j < news.length → (w.cell? ⟨b, off + sLen * i.size + j, none⟩).isSome = true) (hf : ∀ j, j < news.length → w.frozen? ⟨b, off + sLen * i.size + j, none⟩ = false) :
    (Builtin.append_ #[t, tx] ty #[.slice (some ⟨b, off, none⟩) sLen sCap, x]).run P w = .ok (.slice (some ⟨b, off, none⟩) (sLen + n) sCap) (w.setCells b (off + sLen * i.size) news) := by
  rcases hs with hs | ⟨⟨k, hk⟩, ⟨kx, rfl⟩, h0, h63, h48, hnews, hzs, hsz, hz, h1⟩
  · exact run_append_room_src w t tx ty e i ht hi b off sLen sCap x n news hs hroom hc hf
  · have hst := run_storeCells_cells (P := P) b (off + sLen * i.size) news 0 w (by simpa using hc) (by simpa using hf) h1
    simp only [Nat.add_zero] at hst
    have hw : IntKind.i64.wrap (n : Int) = n := by rw [IntKind.wrap_i64]; omega
    have h48' : ¬ (281474976710656 < (n : Int) * (i.bytes : Int)) := by
      rw [← Int.natCast_mul]
      omega
    have hneg : ¬ ((n : Int) < 0) := by omega
    have hns : ¬ (n * i.size = 0) := Nat.mul_ne_zero (by omega) (by omega)
    simp [Builtin.append_, run_underlying ht, run_underlying hk, sizeOf, typeInfo, zeroValue, hi, hz, asInt, asIntOf, hw, h48', hneg, hroom, hns, Addr.add_lit, ← hnews, hst]
theorem run_append_grow_a (t tx ty e : TypeId) (i : TypeInfo) (z : Value) (ht : P.underlying t = some (.slice e)) (hi : P.info? e = some i) (hz : i.zero = some z) (base : Option Addr) (sLen sCap : Nat) (olds : List Value)
    (hold : (Builtin.firstCells i.size sLen (.slice base sLen sCap)).run P w.drew = .ok olds.toArray w.drew) (x : Value) (n : Nat) (news : List Value) (hs : ASrc P i z tx x n news w)
    (hg : sCap < sLen + n) (h63 : ((sLen + n : Nat) : Int) ≤ 9223372036854775807) (hfit : Builtin.nextslicecap (sLen + n) sCap * i.bytes ≤ 281474976710656) :
    (Builtin.append_ #[t, tx] ty #[.slice base sLen sCap, x]).run P w =
      .ok (.slice (some ⟨w.heap.size, 0, none⟩) (sLen + n) (grownCap w (sLen + n) sCap e))
        (w.drew.alloc (.cells ((olds ++ news).toArray ++ Builtin.zeroCells z.cells (grownCap w (sLen + n) sCap e - (sLen + n))) e)) := by
  rcases hs with hs | ⟨⟨k, hk⟩, ⟨kx, rfl⟩, h0, h63', h48, hnews, hzs, hsz, _, h1⟩
  · exact run_append_grow_src w t tx ty e i z ht hi hz base sLen sCap olds hold x n news hs hg h63 hfit
  · rw [Lib.run_append_grow_zeros w t tx ty e i z kx k ht hk hi hz base sLen sCap olds hold n h0 hsz hg h63 h48 hfit, hnews]
    congr 4
    apply Array.ext'
    simp

/-- the cells of elements that lie one behind the other -/
theorem rows_cells {A : Nat → Prop} {b off z : Nat} {ys : List V} (hz : 0 < z) (h : ∀ (i : Nat) y, ys[i]? = some y → ∃ ecs, ecs.length = z ∧ At w b (off + i * z) ecs ∧ FR w A ecs y) :
    ∃ news : List Value, news.length = ys.length * z ∧ (∀ (q : Nat) u, news[q]? = some u → w.cell? ⟨b, off + q, none⟩ = some u) ∧ (∀ u ∈ news, u.oneCell' = true) ∧
      ∀ (i : Nat) y, ys[i]? = some y → ∃ ecs, ecs.length = z ∧ FR w A ecs y ∧ ∀ (j : Nat) v, ecs[j]? = some v → news[i * z + j]? = some v := by
  classical
  have key : ∀ i : Nat, ∃ ecs : List Value, ∀ y, ys[i]? = some y → ecs.length = z ∧ At w b (off + i * z) ecs ∧ FR w A ecs y := fun i => by
    cases hi : ys[i]? with
    | none => exact ⟨[], fun y hy => by cases hy⟩
    | some y => obtain ⟨ecs, h1⟩ := h i y hi; exact ⟨ecs, fun y' hy => by cases hy; exact h1⟩
  obtain ⟨ec, hec⟩ := Classical.axiomOfChoice key
  have at_ : ∀ i j, i < ys.length → j < z → ((List.range (ys.length * z)).map fun q => (ec (q / z)).getD (q % z) undef)[i * z + j]? = some ((ec i).getD j undef) := fun i j hi hj => by
    have hlt := mul_add_lt (z := z) hi hj
    have h1 : (i * z + j) / z = i := by rw [Nat.mul_comm, Nat.mul_add_div hz]; simp [Nat.div_eq_of_lt hj]
    have h2 : (i * z + j) % z = j := by rw [Nat.mul_comm, Nat.mul_add_mod]; exact Nat.mod_eq_of_lt hj
    rw [List.getElem?_map, List.getElem?_range hlt]
    simp only [Option.map_some, h1, h2]
  have cellAt : ∀ (q : Nat) u, ((List.range (ys.length * z)).map fun q => (ec (q / z)).getD (q % z) undef)[q]? = some u → ∃ i j y, q = i * z + j ∧ j < z ∧ ys[i]? = some y ∧ (ec i)[j]? = some u := fun q u hu => by
    have hq : q < ys.length * z := by have := (List.getElem?_eq_some_iff.1 hu).1; simpa using this
    have hi : q / z < ys.length := (Nat.div_lt_iff_lt_mul hz).2 hq
    have hj : q % z < z := Nat.mod_lt _ hz
    have hqe : q = (q / z) * z + q % z := by rw [Nat.mul_comm]; exact (Nat.div_add_mod q z).symm
    have hy : ys[q / z]? = some ys[q / z] := List.getElem?_eq_getElem hi
    have hl := (hec _ _ hy).1
    have hu2 := at_ (q / z) (q % z) hi hj
    rw [← hqe, hu] at hu2
    refine ⟨q / z, q % z, _, hqe, hj, hy, ?_⟩
    simp only [Option.some.injEq] at hu2
    rw [hu2, List.getD_eq_getElem?_getD, List.getElem?_eq_getElem (by omega)]
    rfl
  refine ⟨(List.range (ys.length * z)).map fun q => (ec (q / z)).getD (q % z) undef, by simp, fun q u hu => ?_, fun u hu => ?_, fun i y hy => ?_⟩
  · obtain ⟨i, j, y, rfl, hj, hy, hu⟩ := cellAt q u hu
    have := (hec i y hy).2.1 j u hu
    rw [← Nat.add_assoc]; exact this
  · obtain ⟨q, hq, hqe⟩ := List.getElem_of_mem hu
    obtain ⟨i, j, y, _, _, hy, hu'⟩ := cellAt q u (by rw [List.getElem?_eq_getElem hq, hqe])
    exact (hec i y hy).2.2.one u (List.mem_of_getElem? hu')
  · obtain ⟨h1, h2, h3⟩ := hec i y hy
    refine ⟨ec i, h1, h3, fun j v hv => ?_⟩
    have hj : j < z := by have := (List.getElem?_eq_some_iff.1 hv).1; omega
    have hi : i < ys.length := (List.getElem?_eq_some_iff.1 hy).1
    rw [at_ i j hi hj, List.getD_eq_getElem?_getD, hv]
    rfl

theorem asList_src (h : Sim T.globL U w0 F0 σ a w ow) {z : Nat} (hz : 0 < z) {tx e : TypeId} (htx : P.underlying tx = some (.slice e)) {q : Operand} {K : List V → Option Res} (hk : asList (lkE σ) z (val T σ q) K = some r) :
    ∃ ys news, K ys = some r ∧ Src P z tx (a.eval q) ys.length news w ∧ ∀ (i : Nat) y, ys[i]? = some y → ∃ ecs, ecs.length = z ∧ FR w (Fz U w ow σ.ob) ecs y ∧ ∀ (j : Nat) v, ecs[j]? = some v → news[i * z + j]? = some v := by
  have hv := val_sr h q
  unfold asList at hk
  split at hk
  · rename_i z' xs hq
    obtain ⟨hz', hK⟩ := bif_some hk
    cases beq_nat.1 hz'
    rw [hq] at hv
    have hv' : FR w (Fz U w ow σ.ob) [a.eval q] (.sl z xs) := hv
    generalize a.eval q = u at hv'
    cases hv' with
    | sl b off ec hn hc ha hl hx =>
      rename_i ad n c
      subst hn
      rcases Nat.eq_zero_or_pos xs.length with h0 | h0
      · have hx0 : xs = [] := List.eq_nil_of_length_eq_zero h0
        subst hx0
        refine ⟨[], [], hK, ?_, fun i y hy => by simp at hy⟩
        cases ad with
        | none => exact Src.ofNil w htx c
        | some ad => exact Src.ofSlice w htx ad 0 c [] (by simp) (fun j u hu => by simp at hu) (fun u hu => by simp at hu)
      · obtain ⟨rfl, _⟩ := ha h0
        obtain ⟨news, n1, n2, n3, n4⟩ := rows_cells (w := w) (A := Fz U w ow σ.ob) (b := b) (off := off) (ys := xs) hz (fun i y hy => ⟨ec i, (hl i (List.getElem?_eq_some_iff.1 hy).1).1, (hl i (List.getElem?_eq_some_iff.1 hy).1).2, hx i y hy⟩)
        exact ⟨xs, news, hK, Src.ofSlice w htx ⟨b, off, none⟩ _ c news n1 (fun j u hu => by rw [add_addr]; exact n2 j u hu) n3, n4⟩
  · rename_i hq
    rw [hq] at hv
    have hv' : FR w (Fz U w ow σ.ob) [a.eval q] .nil := hv
    generalize a.eval q = u at hv'
    cases hv'
    exact ⟨[], [], hk, Src.ofNil w htx 0, fun i y hy => by simp at hy⟩
  · rename_i k c m hq
    split at hk
    · rename_i oo z' xs hr
      obtain ⟨hz', hK⟩ := bif_some hk
      cases beq_nat.1 hz'
      obtain ⟨o', hr'⟩ := obRow_eO hr
      have hr'' : obRow (fun k => σ.ob.getD k .none) k c = some (o', z, xs) := hr'
      rw [hq] at hv
      obtain ⟨o3, z3, xs3, cp, f1, f2, f3, f4, f5⟩ := hv
      rw [hr''] at f1
      cases f1
      obtain ⟨cc, hrow⟩ := h.ho.row hr''
      obtain ⟨news, n1, n2, n3, n4⟩ := rows_cells (w := w) (A := Fz U w ow σ.ob) (b := ow k c) (off := 0) (ys := cut xs m) hz (fun i y hy => by
        obtain ⟨ecs, g1, g2, g3⟩ := hrow.at_ i y (getElem?_cut hy)
        exact ⟨ecs, g1, by rw [Nat.zero_add]; exact g2, g3⟩)
      refine ⟨cut xs m, news, hK, ?_, n4⟩
      rw [f2, ← length_cut f3]
      exact Src.ofSlice w htx ⟨ow k c, 0, none⟩ _ cp news n1 (fun j u hu => by rw [add_addr]; exact n2 j u hu) n3
    · cases hk
  · cases hk

/-- a new row, or the old one longer, comes under the key d -/
theorem app_end {p : Nat × Option Nat → Prop} (h : Sim T.globL U w0 F0 σ a w ow) (hx : Ext w w' (ownB σ.ob ow)) (hTh : ∀ b n, Th w b n → Th w' b n) (hkr : KilR w ow σ σ' p) {d g z cap : Nat} {zs : List V}
    (hdl : d < σ.ob.length) (hp : ∀ c, p (d, c)) (hd : σ'.ob.getD d .none = .none) (hpn : F0.pn d = none) (hg : g < w'.heap.size ∧ U g ∧ (ownB σ.ob ow g ∨ w.heap.size ≤ g))
    (hgn : ∀ kk c, alive σ'.ob kk c → ow kk c ≠ g) (hblk : ∀ kk c, alive σ'.ob kk c → w'.heap[ow kk c]? = w.heap[ow kk c]?)
    (hrow : ∀ A', (∀ b, Fz U w ow σ.ob b → A' b ∧ w'.heap[b]? = w.heap[b]?) → RowOk w' A' g z zs cap) :
    Sim T.globL U w0 F0 ⟨σ'.sl.set d (.ref d none none), σ'.ob.set d (.row true z zs)⟩ (a.put (some d) (.slice (some ⟨g, 0, none⟩) zs.length cap)) w' (rek ow d none g) := by
  have e0 : rek ow d none g d none = g := rek_same ⟨rfl, rfl⟩
  have hdl' : d < σ'.ob.length := by rw [hkr.obl]; exact hdl
  have h1 := h.rekey hx hTh hkr d none (.row true z zs) g hdl (hp none)
    (fun c hc => by cases c with
      | none => exact .inl rfl
      | some c => exact hc.elim)
    (fun c hc => by cases c with
      | none => exact .inl rfl
      | some c => exact hc.elim)
    (fun c hc => by cases c with
      | none => exact absurd rfl hc
      | some c => exact same2.of (fun b cs e1 => by rw [e1] at hd; cases hd) rfl)
    hg (fun kk c ha _ => hgn kk c ha) (fun kk c _ ha => hblk kk c ha) (fun A' hA => ⟨cap, by rw [e0]; exact hrow A' hA⟩) (fun b hb => by rw [hpn] at hb; cases hb)
  refine h1.put d fun _ => ?_
  have hr := hrow (fun b => True) (fun b hb => ⟨trivial, hx.block b hb.2.1 fun ⟨k, c, hk, e⟩ => hb.2.2 k c hk e⟩)
  refine ⟨true, z, zs, cap, obRow_none.2 (getD_set_ob_same _ _ hdl'), by rw [e0]; rfl, Nat.le_refl _, hr.le, by rw [e0]; exact hr.th⟩

theorem ext_drew_alloc (w : World) (ob : Obj) (F : Nat → Prop) : Ext w (w.drew.alloc ob) F :=
  ⟨rfl, rfl, rfl, by simp, fun b hb _ => Below.heap_alloc w.drew ob b hb⟩

/-- elements laid behind those that are there -/
theorem append_room {A A' : Nat → Prop} {g z cp : Nat} {xs ys : List V} {news : List Value} (hold : ∀ (i : Nat) y, xs[i]? = some y → ∃ ecs, ecs.length = z ∧ At w g (i * z) ecs ∧ FR w A ecs y) (hth : Th w g (cp * z))
    (hroom : xs.length + ys.length ≤ cp) (hnl : news.length = ys.length * z) (hrows : ∀ (i : Nat) y, ys[i]? = some y → ∃ ecs, ecs.length = z ∧ FR w A ecs y ∧ ∀ (j : Nat) v, ecs[j]? = some v → news[i * z + j]? = some v)
    (hA : ∀ b, A b → A' b ∧ (w.setCells g (xs.length * z) news).heap[b]? = w.heap[b]?) :
    (∀ q, q < news.length → (w.cell? ⟨g, xs.length * z + q, none⟩).isSome = true ∧ w.frozen? ⟨g, xs.length * z + q, none⟩ = false) ∧ RowOk (w.setCells g (xs.length * z) news) A' g z (xs ++ ys) cp := by
  have hin : ∀ q, q < news.length → (w.cell? ⟨g, xs.length * z + q, none⟩).isSome = true ∧ w.frozen? ⟨g, xs.length * z + q, none⟩ = false := fun q hq => by
    have h1 : (xs.length + ys.length) * z ≤ cp * z := Nat.mul_le_mul_right _ hroom
    rw [Nat.add_mul] at h1
    have := hth (xs.length * z + q) (by omega)
    rwa [Nat.zero_add] at this
  refine ⟨hin, ?_⟩
  have hTh := (ext_setCells (w := w) (g := g) (o := xs.length * z) (vs := news) (F := fun _ => True) trivial (fun q hq => (hin q hq).1)).2
  refine ⟨by rw [List.length_append]; exact hroom, hTh _ _ hth, fun i y hy => ?_⟩
  by_cases hi' : i < xs.length
  · rw [List.getElem?_append_left hi'] at hy
    obtain ⟨ecs, g1, g2, g3⟩ := hold i y hy
    refine ⟨ecs, g1, fun j v hv => ?_, g3.mono (fun b hb => (hA b hb).2) (fun b hb => (hA b hb).1)⟩
    have hj : j < z := by have := (List.getElem?_eq_some_iff.1 hv).1; omega
    have := mul_add_lt (z := z) hi' hj
    show (w.setCells g (xs.length * z) news).cell? ⟨g, i * z + j, none⟩ = some v
    rw [cell_out (by omega)]
    exact g2 j v hv
  · rw [List.getElem?_append_right (by omega)] at hy
    obtain ⟨ecs, g1, g2, g3⟩ := hrows _ y hy
    refine ⟨ecs, g1, fun j v hv => ?_, g2.mono (fun b hb => (hA b hb).2) (fun b hb => (hA b hb).1)⟩
    have := cell_in (w := w) (g := g) (o := xs.length * z) (fun q hq => (hin q hq).1) (g3 j v hv)
    rw [← Nat.add_assoc, ← Nat.add_mul, show xs.length + (i - xs.length) = i by omega] at this
    exact this
/-- a new row -/
theorem append_new {A A' : Nat → Prop} {z cap : Nat} {zs : List V} {olds more : List Value} (arr : Array Value) (e : TypeId) (harr : ∀ (q : Nat) v, olds[q]? = some v → arr[q]? = some v) (hsize : arr.size = cap * z) (hge : zs.length ≤ cap)
    (hrows : ∀ (i : Nat) y, zs[i]? = some y → ∃ ecs, ecs.length = z ∧ FR w A ecs y ∧ ∀ (j : Nat) v, ecs[j]? = some v → olds[i * z + j]? = some v)
    (hA : ∀ b, A b → A' b ∧ (w.drew.alloc (.cells arr e)).heap[b]? = w.heap[b]?) : RowOk (w.drew.alloc (.cells arr e)) A' w.heap.size z zs cap := by
  refine ⟨hge, th_alloc w.drew _ e (by rw [hsize]; exact Nat.le_refl _), fun i y hy => ?_⟩
  obtain ⟨ecs, e1, e2, e3⟩ := hrows i y hy
  exact ⟨ecs, e1, at_alloc w.drew _ e (fun j v hv => harr _ _ (e3 j v hv)), e2.mono (fun b hb => (hA b hb).2) (fun b hb => (hA b hb).1)⟩

theorem kill_at {σ : St} {d k : Nat} (h : d ≠ k) : (kill σ d).ob.getD k .none = σ.ob.getD k .none := getD_set_ob_other _ _ (Ne.symm h)
theorem Fz.kill {σ : St} {d b : Nat} (h : Fz U w ow σ.ob b) : Fz U w ow (VM.kill σ d).ob b := ⟨h.1, h.2.1, fun k c hk => h.2.2 k c ((kill_r w ow σ d).owd k c hk)⟩

theorem appE_ok (hT : TOk P T) (h : Sim T.globL U w0 F0 σ a w ow) {d : Nat} (hd : o.dst = some d) {s x : Operand} {t t' e : TypeId} {z by_ : Nat} (hel : T.el t = some (e, z)) (hes : T.esz e = some by_) {zs0 : List V} (hze : T.zero e = some zs0)
    (ho : o.op = .call { callee := .builtin .append, args := #[s, x], argTypes := #[t, t'] }) {y : V}
    (hy : ∀ {K : List V → Option Res}, asList (lkE σ) z y K = some r → ∃ ys news, K ys = some r ∧ (∀ ii zv, P.info? e = some ii → ii.zero = some zv → ii.size = z → zv.cells.size = ii.size → ASrc P ii zv t' (a.eval x) ys.length news w) ∧ ∀ (i : Nat) y, ys[i]? = some y → ∃ ecs, ecs.length = z ∧ FR w (Fz U w ow σ.ob) ecs y ∧ ∀ (j : Nat) v, ecs[j]? = some v → news[i * z + j]? = some v)
    {k c i : Nat} (hsv : val T σ s = .sg k c (.el i)) {K : St → Option Res} (hk : appE σ d z by_ k c i y K = some r) :
    ∃ σ', K σ' = some r ∧ DoneO P T.globL U w0 F0 a w o σ' := by
  obtain ⟨ii, hu, hi, hsz, hz⟩ := hT.el t e z hel
  obtain ⟨ii', hi', hby, hby0⟩ := hT.esz e by_ hes
  rw [hi] at hi'
  cases hi'
  obtain ⟨i2, zv, k1, k2, k3, k4, _⟩ := zero_fr (w := w) (A := fun _ => True) hT hze
  rw [hi] at k1
  cases k1
  have fin : ∀ {σ' : St} {u : Value} {w' : World} {ow' : Own}, (Builtin.append_ #[t, t'] o.type #[a.eval s, a.eval x]).run P w = .ok u w' → Sim T.globL U w0 F0 σ' (a.put (some d) u) w' ow' → DoneO P T.globL U w0 F0 a w o σ' := fun {σ' u w' ow'} hr hs Kq Q hq => by
    have hrun : (execOp a.eval o).run P w = .ok (.value u) w' := exec_builtin ho (by simp [builtin, hr])
    unfold Oper.wp
    rw [hrun, Oper.upon_value, hd]
    exact hq _ _ _ hs
  unfold appE at hk
  split at hk
  · rename_i xs hs
    obtain ⟨hc, hk2⟩ := bif_some hk
    simp only [Bool.and_eq_true, Bool.not_eq_true'] at hc
    obtain ⟨⟨hz1, hown⟩, hdk⟩ := hc
    have hz1 := beq_nat.1 hz1
    subst hz1
    have hdk : d ≠ k := fun e => by rw [e, Nat.beq_refl] at hdk; cases hdk
    have hs : segAt (fun k => σ.ob.getD k .none) k c = some (.no, xs) := hs
    obtain ⟨x0, hx0, hk3⟩ := exN_some hk2
    obtain ⟨cs, hb, hcs⟩ := h.segBox hs hown
    obtain ⟨v0, hv0, hseg⟩ := h.seg hs
    have h64 := hseg.lt
    have hv := val_sr h s
    rw [hsv] at hv
    obtain ⟨_, l', xs', x1, f1, f2, f3⟩ := hv
    rw [hs] at f1; cases f1
    rw [hx0] at f2; cases f2
    have hil := (List.getElem?_eq_some_iff.1 hx0).1
    -- the state ahead of it
    have h1 := h.kill d
    have hb1 : (kill σ d).ob.getD k .none = .box true cs := by rw [kill_at hdk]; exact hb
    have hF := kle_forget k c h64
    have hkey : ∀ n, sgK c xs n → alive (kill σ d).ob k (some n) := fun n hn => alive_of_owned (by rw [owned_one, hb1]; exact sgK_alive h64 hcs hn)
    have hne : ∀ j, (k, some (enc c j)) ≠ ((k, none) : Nat × Option Nat) := fun j => by simp
    have hsl1 : ((kill σ d).sl.map (kleV k c)).length = (kill σ d).sl.length := by simp
    have hsl2 : ∀ i A v, SR w A ow (kill σ d).ob v ((kill σ d).sl.getD i .dead) → SR w A ow (kill σ d).ob v (((kill σ d).sl.map (kleV k c)).getD i .dead) := fun i A v hv => by
      rw [getD_map _ _ hF.dead]; exact hF.sr hv
    have hky : ∀ (ow' : Own) (nx : V), ow' k (some c) = ow k (some c) → ∀ j q, (k, q) ∈ keysV (((kill σ d).sl.map (kleV k c)).getD j .dead) → kp k (some c) (k, q) → sameK (kill σ d).ob ow (setSeg (kill σ d).ob k c (.el i) (xs.set i nx)) ow' k q := fun ow' nx hw j q hq hkp => by
      rw [getD_map _ _ hF.dead] at hq
      have hnk := hF.keys hq
      obtain ⟨_, n, rfl, hn⟩ := kp_some hkp
      rcases hn with rfl | ⟨_, j, rfl⟩
      · exact sameHd h64 hb1 hcs (by simp) hw
      · exact absurd ⟨rfl, j, rfl⟩ hnk
    have hself : ∀ nx : V, (xs.set i nx)[i]? = some nx := fun nx => List.getElem?_set_self hil
    -- what is got of the new element's row is all that is needed
    have main : ∀ (w' : World) (ow' : Own) (u : Value) (zs : List V) (cap g : Nat), (Builtin.append_ #[t, t'] o.type #[a.eval s, a.eval x]).run P w = .ok u w' → Ext w w' (ownB (kill σ d).ob ow) → (∀ b n, Th w b n → Th w' b n) →
        (∀ kk q, (kk, q) ≠ (k, some (enc c i)) → ow' kk q = ow kk q) → ow' k (some (enc c i)) = g → (∀ kk q, alive (kill σ d).ob kk q → (kk, q) ≠ (k, some (enc c i)) → w'.heap[ow kk q]? = w.heap[ow kk q]?) →
        ((g = ow k (some (enc c i)) ∧ ∃ o z ys, xs[i]? = some (.own o z ys)) ∨ (g = w.heap.size ∧ w.heap.size < w'.heap.size)) → u = .slice (some ⟨g, 0, none⟩) zs.length cap →
        (∀ A', (∀ b, Fz U w ow (kill σ d).ob b → A' b ∧ w'.heap[b]? = w.heap[b]?) → RowOk w' A' g 1 zs cap) → K ⟨((kill σ d).sl.map (kleV k c)).set d (.sg k c (.el i)), setSeg (kill σ d).ob k c (.el i) (xs.set i (.own true 1 zs))⟩ = some r →
        ∃ σ', K σ' = some r ∧ DoneO P T.globL U w0 F0 a w o σ' := fun w' ow' u zs cap g hrun hx hTh how hg hblk hgk hu' hrow hK => by
      refine ⟨_, hK, fin hrun (Sim.put (h1.segTurn hx hTh (ow' := ow') (l' := .el i) (xs' := xs.set i (.own true 1 zs)) hb1 hcs (fun kk q hkp => how kk q fun e => hkp (by cases e; exact .inr ⟨rfl, c, i, rfl, h64, rfl⟩)) (fun kk q ha hkp _ => hblk kk q ha fun e => hkp (by cases e; exact .inr ⟨rfl, c, i, rfl, h64, rfl⟩))
        (fun j _ => World.cell?_of_block (w := w) (a := ⟨ow k none, j, none⟩) (hblk k none (aliveOb (by rw [hb1]; simp)) (by simp))) (enc c i) (fun n hn => ?_) (fun A' hA v hv => ?_) _ hsl1 hsl2 (hky ow' _ (how _ _ (by simp [enc])))) d fun _ => ?_)⟩
      · by_cases hni : n = enc c i
        · subst hni
          rcases hgk with ⟨e1, o', z', ys', e2⟩ | ⟨e1, e2⟩
          · exact .inl ⟨hg.trans e1, hkey _ (.inr ⟨i, o', z', ys', rfl, e2⟩)⟩
          · exact .inr ⟨rfl, hg.trans e1, e2⟩
        · refine .inl ⟨how _ _ (by simpa using hni), hkey n ?_⟩
          rcases hn with hn | ⟨j, o', z', ys', rfl, hj⟩
          · exact .inl hn
          · have hji : j ≠ i := fun e => hni (by rw [e])
            rw [List.getElem?_set_ne (Ne.symm hji)] at hj
            exact .inr ⟨j, o', z', ys', rfl, hj⟩
      · have hbb := hblk k none (aliveOb (by rw [hb1]; simp)) (by simp)
        rw [World.cell?_of_block (w := w) (a := ⟨ow k none, c, none⟩) hbb, hv0] at hv
        cases hv
        have eo : ow' k (some c) = ow k (some c) := how _ _ (by simp only [ne_eq, Prod.mk.injEq, Option.some.injEq, true_and]; have := enc_ge c i; omega)
        have hbo := hblk k (some c) (hkey c (.inl rfl)) (by simp only [ne_eq, Prod.mk.injEq, Option.some.injEq, true_and]; have := enc_ge c i; omega)
        have hein : ∀ (j : Nat) ys, j ≠ i → xs[j]? = some (.own true 1 ys) → ow' k (some (enc c j)) = ow k (some (enc c j)) ∧ w'.heap[ow k (some (enc c j))]? = w.heap[ow k (some (enc c j))]? := fun j ys hji hj => by
          have hne : (k, some (enc c j)) ≠ (k, some (enc c i)) := fun e => hji (by
            simp only [Prod.mk.injEq, Option.some.injEq, true_and] at e
            exact (enc_inj h64 h64 e).2)
          exact ⟨how _ _ hne, hblk _ _ (hkey _ (.inr ⟨j, _, _, _, rfl, hj⟩)) hne⟩
        refine ⟨h64, by rw [eo, List.length_set]; exact hTh _ _ hseg.th, fun _ => ?_, fun j y hj => ?_, fun j y hj hjl => ?_⟩
        · obtain ⟨cp, q1, q2, q3⟩ := hseg.hd (by simp)
          exact ⟨cp, by rw [eo, List.length_set]; exact q1, by rw [List.length_set]; exact q2, by rw [eo]; exact hTh _ _ q3⟩
        · by_cases hji : j = i
          · subst hji
            rw [hself] at hj
            cases hj
            exact .inr ⟨zs, cap, rfl, by rw [hg]; exact hrow A' hA⟩
          · rw [List.getElem?_set_ne (Ne.symm hji)] at hj
            rcases hseg.el j y hj with rfl | ⟨ys, cp, rfl, q1⟩
            · exact .inl rfl
            · obtain ⟨e1, e2⟩ := hein j ys hji hj
              exact .inr ⟨ys, cp, rfl, by rw [e1]; exact q1.keep (fun b hb => hA b (Fz.kill hb)) e2⟩
        · have hji : j ≠ i := fun e => hjl (by rw [e])
          rw [List.getElem?_set_ne (Ne.symm hji)] at hj
          obtain ⟨u1, q1, q2⟩ := hseg.hl j y hj (by simp)
          refine ⟨u1, by rw [eo, World.cell?_of_block (w := w) (a := ⟨ow k (some c), j, none⟩) hbo]; exact q1, ?_⟩
          rcases q2 with q2 | ⟨ys, cp, rfl, q3, q4, q5⟩
          · exact .inl q2
          · obtain ⟨e1, e2⟩ := hein j ys hji hj
            exact .inr ⟨ys, cp, rfl, by rw [e1]; exact q3, q4, by rw [e1]; exact hTh _ _ q5⟩
      · have hr := hrow (fun b => True) (fun b hb => ⟨trivial, hx.block b hb.2.1 fun ⟨k, c, hk, e⟩ => hb.2.2 k c hk e⟩)
        exact ⟨h64, .el i, _, _, segAt_set hb1 hcs, hself _, .inr ⟨zs, cap, rfl, by rw [hg]; exact hu', hr.le, by rw [hg]; exact hr.th⟩⟩
    -- a new row
    have grow : ∀ (base : Option Addr) (sCap : Nat) (olds : List Value) (ol ys : List V) (news : List Value), K ⟨((kill σ d).sl.map (kleV k c)).set d (.sg k c (.el i)), setSeg (kill σ d).ob k c (.el i) (xs.set i (.own true 1 (ol ++ ys)))⟩ = some r →
        (Builtin.firstCells ii.size ol.length (.slice base ol.length sCap)).run P w.drew = .ok olds.toArray w.drew → olds.length = ol.length * 1 → ASrc P ii zv t' (a.eval x) ys.length news w → sCap < ol.length + ys.length → (ol.length + ys.length) * by_ ≤ 140737488355328 →
        (∀ (i : Nat) y, (ol ++ ys)[i]? = some y → ∃ ecs, ecs.length = 1 ∧ FR w (Fz U w ow σ.ob) ecs y ∧ ∀ (j : Nat) v, ecs[j]? = some v → (olds ++ news)[i * 1 + j]? = some v) → a.eval s = .slice base ol.length sCap →
        ∃ σ', K σ' = some r ∧ DoneO P T.globL U w0 F0 a w o σ' := fun base sCap olds ol ys news hK hold hol hsrc hg hbytes hrows hus => by
      have hle : ol.length + ys.length ≤ 140737488355328 := Nat.le_trans (Nat.le_mul_of_pos_right _ hby0) hbytes
      have hr := run_append_grow_a (P := P) (w := w) t t' o.type e ii zv hu hi k2 base ol.length sCap olds hold (a.eval x) ys.length news hsrc hg (by omega) (growslice_fits hg (by rw [hby]; exact hbytes))
      rw [← hus] at hr
      have hge := grownCap_ge w (ol.length + ys.length) sCap e
      have hnl := hsrc.newsLen
      rw [hsz] at hnl
      have hsize : ((olds ++ news).toArray ++ Builtin.zeroCells zv.cells (grownCap w (ol.length + ys.length) sCap e - (ol.length + ys.length))).size = grownCap w (ol.length + ys.length) sCap e * 1 := by
        simp only [Array.size_append, List.size_toArray, size_zeroCells, k3, hsz, List.length_append, hol, hnl]
        omega
      rw [← List.length_append] at hr hge hsize
      refine main _ (rek ow k (some (enc c i)) w.heap.size) _ (ol ++ ys) _ w.heap.size hr (ext_drew_alloc _ _ _) ((ext_drew_alloc w _ (fun _ => False)).th (fun _ _ hf => hf.elim)) (fun kk q hne => rek_other (fun e => hne (by rw [e.1, e.2]))) (rek_same ⟨rfl, rfl⟩)
        (fun kk q ha _ => Below.heap_alloc w.drew _ _ (h1.ho.lt _ _ ha).1) (.inr ⟨rfl, by simp⟩) rfl (fun A' hA => append_new (olds := olds ++ news) (more := []) _ e (fun q v hv => ?_) hsize hge (A := Fz U w ow (kill σ d).ob) (fun i y hy => ?_) hA) hK
      · have hl := (List.getElem?_eq_some_iff.1 hv).1
        rw [Array.getElem?_append_left (by simpa using hl)]
        simpa using hv
      · obtain ⟨ecs, q1, q2, q3⟩ := hrows i y hy
        exact ⟨ecs, q1, q2.mono (fun _ _ => rfl) (fun _ hb => Fz.kill hb), q3⟩
    rcases elL_some hk3 with ⟨rfl, hk4⟩ | ⟨olds, rfl, hk4⟩
    · -- ahead there was nothing
      obtain ⟨ys, news, hk5, hsrc, hrows⟩ := hy hk4
      have hsrc := hsrc ii zv hi k2 hsz k3
      obtain ⟨hc2, hK⟩ := chk_some hk5
      simp only [Bool.and_eq_true, decide_eq_true_eq, Bool.not_eq_true', decide_eq_false_iff_not, List.length_nil, Nat.zero_add] at hc2
      rcases f3 with ⟨_, f3⟩ | ⟨_, _, f3, _⟩
      · exact grow none 0 [] [] ys news hK (run_firstCells_none w.drew _ _ _ _) (by simp) hsrc (by simp; omega) (by simpa using hc2.1) (fun i y hy => by
          obtain ⟨ecs, g1, g2, g3⟩ := hrows i y (by simpa using hy)
          exact ⟨ecs, g1, g2, fun j v hv => by simpa using g3 j v hv⟩) f3
      · cases f3
    · obtain ⟨ys, news, hk5, hsrc, hrows⟩ := hy hk4
      have hsrc := hsrc ii zv hi k2 hsz k3
      obtain ⟨hc2, hK⟩ := chk_some hk5
      simp only [Bool.and_eq_true, decide_eq_true_eq, Bool.not_eq_true', decide_eq_false_iff_not] at hc2
      rcases f3 with ⟨f3, _⟩ | ⟨ys0, cp, f3, f4, f5, f6⟩
      · cases f3
      cases f3
      rcases hseg.el i _ hx0 with hn | ⟨ys0, cc, hn, hrow⟩
      · cases hn
      cases hn
      by_cases hroom : olds.length + ys.length ≤ cp
      · have hnl := hsrc.newsLen
        rw [hsz] at hnl
        have hold : ∀ (j : Nat) y, olds[j]? = some y → ∃ ecs, ecs.length = 1 ∧ At w (ow k (some (enc c i))) (j * 1) ecs ∧ FR w (Fz U w ow (kill σ d).ob) ecs y := fun j y hj => by
          obtain ⟨ecs, q1, q2, q3⟩ := hrow.at_ j y hj
          exact ⟨ecs, q1, q2, q3.mono (fun _ _ => rfl) (fun _ hb => Fz.kill hb)⟩
        have hrows' : ∀ (i : Nat) y, ys[i]? = some y → ∃ ecs, ecs.length = 1 ∧ FR w (Fz U w ow (kill σ d).ob) ecs y ∧ ∀ (j : Nat) v, ecs[j]? = some v → news[i * 1 + j]? = some v := fun i y hy => by
          obtain ⟨ecs, q1, q2, q3⟩ := hrows i y hy
          exact ⟨ecs, q1, q2.mono (fun _ _ => rfl) (fun _ hb => Fz.kill hb), q3⟩
        have hin : ∀ q, q < news.length → (w.cell? ⟨ow k (some (enc c i)), olds.length * 1 + q, none⟩).isSome = true ∧ w.frozen? ⟨ow k (some (enc c i)), olds.length * 1 + q, none⟩ = false := fun q hq => by
          have := f6 (olds.length * 1 + q) (by omega)
          rwa [Nat.zero_add] at this
        have hrun := run_append_room_a (P := P) (w := w) t t' o.type e ii zv hu hi (ow k (some (enc c i))) 0 olds.length cp (a.eval x) ys.length news hsrc hroom (fun q hq => by rw [hsz, Nat.zero_add]; exact (hin q hq).1) (fun q hq => by rw [hsz, Nat.zero_add]; exact (hin q hq).2)
        rw [hsz, Nat.zero_add, ← f4] at hrun
        have hal := hkey _ (.inr ⟨i, _, _, _, rfl, hx0⟩)
        have how1 : owned (kill σ d).ob k (some (enc c i)) := by rw [owned_one, hb1]; exact sgK_alive h64 hcs (.inr ⟨i, _, _, _, rfl, hx0⟩)
        obtain ⟨hx, hTh⟩ := ext_setCells (w := w) (g := ow k (some (enc c i))) (o := olds.length * 1) (vs := news) (F := ownB (kill σ d).ob ow) ⟨k, _, how1, rfl⟩ (fun q hq => (hin q hq).1)
        exact main _ ow _ (olds ++ ys) cp _ hrun hx hTh (fun _ _ _ => rfl) rfl (fun kk q ha hne => World.heap_setCells_other w _ _ _ (h1.ho.lt _ _ ha).1 (h1.ho.apart ha hal hne)) (.inl ⟨rfl, _, _, _, hx0⟩) (by rw [List.length_append]) (fun A' hA => (append_room hold f6 hroom hnl hrows' hA).2) hK
      · obtain ⟨oldv, o1, o2, o3, o4⟩ := rows_cells (w := w) (A := Fz U w ow σ.ob) (b := ow k (some (enc c i))) (off := 0) (ys := olds) (z := 1) (by omega) (fun j y hj => by rw [Nat.zero_add]; exact hrow.at_ j y hj)
        refine grow (some ⟨ow k (some (enc c i)), 0, none⟩) cp oldv olds ys news hK (run_firstCells_some w.drew ii.size _ _ _ _ oldv (by rw [hsz]; exact o1) (fun j v hj => by rw [add_addr]; simpa using o2 j v hj)) o1 hsrc (by omega) hc2.1 (fun j y hj => ?_) f4
        by_cases hi' : j < olds.length
        · rw [List.getElem?_append_left hi'] at hj
          obtain ⟨ecs, g1, g2, g3⟩ := o4 j y hj
          refine ⟨ecs, g1, g2, fun q v hv => ?_⟩
          have := g3 q v hv
          rw [List.getElem?_append_left (List.getElem?_eq_some_iff.1 this).1]
          exact this
        · rw [List.getElem?_append_right (by omega)] at hj
          obtain ⟨ecs, g1, g2, g3⟩ := hrows _ y hj
          refine ⟨ecs, g1, g2, fun q v hv => ?_⟩
          rw [List.getElem?_append_right (by omega), o1]
          have := g3 q v hv
          rw [show j * 1 + q - olds.length * 1 = (j - olds.length) * 1 + q by omega]
          exact this
  · cases hk

theorem allNil_get : ∀ {ys : List V} {i : Nat} {y : V}, allNil ys = true → ys[i]? = some y → y = .nil
  | [], i, y, _, h => by simp at h
  | x :: ys, i, y, h, hi => by
    cases x <;> first | (cases h; done) | skip
    cases i with
    | zero => simp at hi; exact hi.symm
    | succ i => exact allNil_get (ys := ys) h (by simpa using hi)
theorem appH_ok (hT : TOk P T) (h : Sim T.globL U w0 F0 σ a w ow) {d : Nat} (hd : o.dst = some d) {s x : Operand} {t t' e : TypeId} {z by_ : Nat} (hel : T.el t = some (e, z)) (hes : T.esz e = some by_) {zs0 : List V} (hze : T.zero e = some zs0)
    (ho : o.op = .call { callee := .builtin .append, args := #[s, x], argTypes := #[t, t'] }) {y : V}
    (hy : ∀ {K : List V → Option Res}, asList (lkE σ) z y K = some r → ∃ ys news, K ys = some r ∧ (∀ ii zv, P.info? e = some ii → ii.zero = some zv → ii.size = z → zv.cells.size = ii.size → ASrc P ii zv t' (a.eval x) ys.length news w) ∧ ∀ (i : Nat) y, ys[i]? = some y → ∃ ecs, ecs.length = z ∧ FR w (Fz U w ow σ.ob) ecs y ∧ ∀ (j : Nat) v, ecs[j]? = some v → news[i * z + j]? = some v)
    {k c : Nat} (hsv : val T σ s = .sg k c .hd) {K : St → Option Res} (hk : appH σ d z by_ k c y K = some r) :
    ∃ σ', K σ' = some r ∧ DoneO P T.globL U w0 F0 a w o σ' := by
  obtain ⟨ii, hu, hi, hsz, hz⟩ := hT.el t e z hel
  obtain ⟨ii', hi', hby, hby0⟩ := hT.esz e by_ hes
  rw [hi] at hi'
  cases hi'
  obtain ⟨i2, zv, k1, k2, k3, k4, _⟩ := zero_fr (w := w) (A := fun _ => True) hT hze
  rw [hi] at k1
  cases k1
  have fin : ∀ {σ' : St} {u : Value} {w' : World} {ow' : Own}, (Builtin.append_ #[t, t'] o.type #[a.eval s, a.eval x]).run P w = .ok u w' → Sim T.globL U w0 F0 σ' (a.put (some d) u) w' ow' → DoneO P T.globL U w0 F0 a w o σ' := fun {σ' u w' ow'} hr hs Kq Q hq => by
    have hrun : (execOp a.eval o).run P w = .ok (.value u) w' := exec_builtin ho (by simp [builtin, hr])
    unfold Oper.wp
    rw [hrun, Oper.upon_value, hd]
    exact hq _ _ _ hs
  unfold appH at hk
  split at hk
  · rename_i xs hs
    obtain ⟨hc, hk2⟩ := bif_some hk
    simp only [Bool.and_eq_true, Bool.not_eq_true'] at hc
    obtain ⟨⟨hz1, hown⟩, hdk⟩ := hc
    have hz1 := beq_nat.1 hz1
    subst hz1
    have hdk : d ≠ k := fun e => by rw [e, Nat.beq_refl] at hdk; cases hdk
    have hs : segAt (fun k => σ.ob.getD k .none) k c = some (.no, xs) := hs
    obtain ⟨ys, news, hk3, hsrc, hrows⟩ := hy hk2
    have hsrc := hsrc ii zv hi k2 hsz k3
    obtain ⟨hc2, hK⟩ := chk_some hk3
    simp only [Bool.and_eq_true, decide_eq_true_eq] at hc2
    obtain ⟨hnil, hbytes⟩ := hc2
    obtain ⟨cs, hb, hcs⟩ := h.segBox hs hown
    obtain ⟨v0, hv0, hseg⟩ := h.seg hs
    have h64 := hseg.lt
    have hv := val_sr h s
    rw [hsv] at hv
    obtain ⟨l', xs', cp, f1, f2, f3, f4⟩ := hv
    rw [hs] at f1; cases f1
    have h1 := h.kill d
    have hb1 : (kill σ d).ob.getD k .none = .box true cs := by rw [kill_at hdk]; exact hb
    have hF := kil_forget k (some c)
    have hkey : ∀ n, sgK c xs n → alive (kill σ d).ob k (some n) := fun n hn => alive_of_owned (by rw [owned_one, hb1]; exact sgK_alive h64 hcs hn)
    have hne : ∀ j, (k, some (enc c j)) ≠ (k, some c) := fun j e => by
      have := enc_ge c j
      simp only [Prod.mk.injEq, Option.some.injEq, true_and] at e; omega
    have hnews : ∀ (j : Nat), j < ys.length → news[j]? = some (.slice none 0 0) := fun j hj => by
      obtain ⟨ecs, q1, q2, q3⟩ := hrows j _ (List.getElem?_eq_getElem hj)
      rw [allNil_get hnil (List.getElem?_eq_getElem hj)] at q2
      cases q2
      have := q3 0 _ rfl
      simpa using this
    have hnl := hsrc.newsLen
    rw [hsz] at hnl
    have main : ∀ (w' : World) (ow' : Own) (u : Value) (cap g : Nat), (Builtin.append_ #[t, t'] o.type #[a.eval s, a.eval x]).run P w = .ok u w' → Ext w w' (ownB (kill σ d).ob ow) → (∀ b n, Th w b n → Th w' b n) →
        (∀ kk q, (kk, q) ≠ (k, some c) → ow' kk q = ow kk q) → ow' k (some c) = g → (∀ kk q, alive (kill σ d).ob kk q → (kk, q) ≠ (k, some c) → w'.heap[ow kk q]? = w.heap[ow kk q]?) →
        (g = ow k (some c) ∨ (g = w.heap.size ∧ w.heap.size < w'.heap.size)) → u = .slice (some ⟨g, 0, none⟩) (xs ++ ys).length cap → (xs ++ ys).length ≤ cap → Th w' g cap →
        (∀ j, j < xs.length → w'.cell? ⟨g, j, none⟩ = w.cell? ⟨ow k (some c), j, none⟩) → (∀ j, j < ys.length → w'.cell? ⟨g, xs.length + j, none⟩ = some (.slice none 0 0)) →
        ∃ σ', K σ' = some r ∧ DoneO P T.globL U w0 F0 a w o σ' := fun w' ow' u cap g hrun hx hTh how hg hblk hgk hu' hle hthg hold hnew => by
      have hset : ∀ (nx : List V), segAt (fun kk => (setSeg (kill σ d).ob k c .hd nx).getD kk .none) k c = some (.hd, nx) := fun nx => segAt_set hb1 hcs
      have hin : ∀ (j : Nat) zs, (xs ++ ys)[j]? = some (.own true 1 zs) → xs[j]? = some (.own true 1 zs) := fun j zs hj => by
        by_cases hjl : j < xs.length
        · rwa [List.getElem?_append_left hjl] at hj
        · rw [List.getElem?_append_right (by omega)] at hj
          cases allNil_get hnil hj
      refine ⟨_, hK, fin hrun (Sim.put (h1.segTurn hx hTh (ow' := ow') (l' := .hd) (xs' := xs ++ ys) hb1 hcs (fun kk q hkp => how kk q fun e => hkp (by cases e; exact .inl rfl)) (fun kk q ha hkp _ => hblk kk q ha fun e => hkp (by cases e; exact .inl rfl))
        (fun j _ => World.cell?_of_block (w := w) (a := ⟨ow k none, j, none⟩) (hblk k none (aliveOb (by rw [hb1]; simp)) (by simp))) c (fun n hn => ?_) (fun A' hA v hv => ?_) ((kill σ d).sl.map (kilV k (some c))) (by simp)
        (fun i A v hv => by rw [getD_map _ _ hF.dead]; exact hF.sr hv) (fun i q hq hkp => by rw [getD_map _ _ hF.dead] at hq; exact absurd hkp (hF.keys hq))) d fun _ => ?_)⟩
      · rcases hn with rfl | ⟨j, o', z', zs, rfl, hj⟩
        · rcases hgk with e1 | ⟨e1, e2⟩
          · exact .inl ⟨hg.trans e1, hkey _ (.inl rfl)⟩
          · exact .inr ⟨rfl, hg.trans e1, e2⟩
        · have hj' : xs[j]? = some (.own o' z' zs) := by
            by_cases hjl : j < xs.length
            · rwa [List.getElem?_append_left hjl] at hj
            · rw [List.getElem?_append_right (by omega)] at hj
              cases allNil_get hnil hj
          exact .inl ⟨how _ _ (hne j), hkey _ (.inr ⟨j, o', z', zs, rfl, hj'⟩)⟩
      · refine ⟨h64, by rw [hg]; exact fun j hj => hthg j (by omega), fun hh => absurd rfl hh, fun j y hj => ?_, fun j y hj hjl => ?_⟩
        · by_cases hjl : j < xs.length
          · rw [List.getElem?_append_left hjl] at hj
            rcases hseg.el j y hj with rfl | ⟨zs, cp', rfl, q1⟩
            · exact .inl rfl
            · exact .inr ⟨zs, cp', rfl, by rw [how _ _ (hne j)]; exact q1.keep (fun b hb => hA b (Fz.kill hb)) (hblk _ _ (hkey _ (.inr ⟨j, _, _, _, rfl, hj⟩)) (hne j))⟩
          · rw [List.getElem?_append_right (by omega)] at hj
            exact .inl (allNil_get hnil hj)
        · rw [hg]
          by_cases hjl : j < xs.length
          · rw [List.getElem?_append_left hjl] at hj
            obtain ⟨u1, q1, q2⟩ := hseg.hl j y hj (by simp)
            refine ⟨u1, by rw [hold j hjl]; exact q1, ?_⟩
            rcases q2 with q2 | ⟨zs, cp', rfl, q3, q4, q5⟩
            · exact .inl q2
            · exact .inr ⟨zs, cp', rfl, by rw [how _ _ (hne j)]; exact q3, q4, by rw [how _ _ (hne j)]; exact hTh _ _ q5⟩
          · rw [List.getElem?_append_right (by omega)] at hj
            have hj2 := (List.getElem?_eq_some_iff.1 hj).1
            have := hnew (j - xs.length) hj2
            rw [show xs.length + (j - xs.length) = j by omega] at this
            exact ⟨_, this, .inl ⟨allNil_get hnil hj, rfl⟩⟩
      · exact ⟨.hd, _, cap, hset _, by rw [hg]; exact hu', hle, by rw [hg]; exact hthg⟩
    by_cases hroom : xs.length + ys.length ≤ cp
    · have hin : ∀ q, q < news.length → (w.cell? ⟨ow k (some c), xs.length * 1 + q, none⟩).isSome = true ∧ w.frozen? ⟨ow k (some c), xs.length * 1 + q, none⟩ = false := fun q hq => by
        have := f4 (xs.length * 1 + q) (by omega)
        rwa [Nat.zero_add] at this
      have hrun := run_append_room_a (P := P) (w := w) t t' o.type e ii zv hu hi (ow k (some c)) 0 xs.length cp (a.eval x) ys.length news hsrc hroom (fun q hq => by rw [hsz, Nat.zero_add]; exact (hin q hq).1) (fun q hq => by rw [hsz, Nat.zero_add]; exact (hin q hq).2)
      rw [hsz, Nat.zero_add, ← f2] at hrun
      have hal := hkey _ (.inl rfl)
      have how1 : owned (kill σ d).ob k (some c) := by rw [owned_one, hb1]; exact sgK_alive h64 hcs (.inl rfl)
      obtain ⟨hx, hTh⟩ := ext_setCells (w := w) (g := ow k (some c)) (o := xs.length * 1) (vs := news) (F := ownB (kill σ d).ob ow) ⟨k, _, how1, rfl⟩ (fun q hq => (hin q hq).1)
      refine main _ ow _ cp _ hrun hx hTh (fun _ _ _ => rfl) rfl (fun kk q ha hne => World.heap_setCells_other w _ _ _ (h1.ho.lt _ _ ha).1 (h1.ho.apart ha hal hne)) (.inl rfl) (by rw [List.length_append]) (by rw [List.length_append]; exact hroom) (hTh _ _ f4) (fun j hj => cell_out (by omega)) (fun j hj => ?_)
      have := cell_in (w := w) (g := ow k (some c)) (o := xs.length * 1) (fun q hq => (hin q hq).1) (hnews j hj)
      rw [Nat.mul_one] at this ⊢
      exact this
    · -- a new row
      have hle : xs.length + ys.length ≤ 140737488355328 := Nat.le_trans (Nat.le_mul_of_pos_right _ hby0) hbytes
      have hcell : ∀ j, j < xs.length → ∃ u, w.cell? ⟨ow k (some c), j, none⟩ = some u := fun j hj => by
        obtain ⟨u, q1, _⟩ := hseg.hl j _ (List.getElem?_eq_getElem hj) (by simp)
        exact ⟨u, q1⟩
      have hold : (Builtin.firstCells ii.size xs.length (.slice (some ⟨ow k (some c), 0, none⟩) xs.length cp)).run P w.drew = .ok ((List.range xs.length).map fun j => (w.cell? ⟨ow k (some c), j, none⟩).getD undef).toArray w.drew :=
        run_firstCells_some w.drew ii.size _ _ _ _ _ (by simp [hsz]) (fun j v hj => by
          have hjl : j < xs.length := by have := (List.getElem?_eq_some_iff.1 hj).1; simpa using this
          rw [List.getElem?_map, List.getElem?_range hjl] at hj
          obtain ⟨u, hu⟩ := hcell j hjl
          simp only [Option.map_some, hu, Option.getD_some, Option.some.injEq] at hj
          subst hj
          rw [add_addr, Nat.zero_add]
          exact hu)
      have hr := run_append_grow_a (P := P) (w := w) t t' o.type e ii zv hu hi k2 _ xs.length cp _ hold (a.eval x) ys.length news hsrc (by omega) (by omega) (growslice_fits (by omega) (by rw [hby]; exact hbytes))
      rw [← f2] at hr
      have hge := grownCap_ge w (xs.length + ys.length) cp e
      have hsize : ((((List.range xs.length).map fun j => (w.cell? ⟨ow k (some c), j, none⟩).getD undef) ++ news).toArray ++ Builtin.zeroCells zv.cells (grownCap w (xs.length + ys.length) cp e - (xs.length + ys.length))).size = grownCap w (xs.length + ys.length) cp e := by
        simp only [Array.size_append, List.size_toArray, size_zeroCells, k3, hsz, List.length_append, hnl, List.length_map, List.length_range]
        omega
      refine main _ (rek ow k (some c) w.heap.size) _ _ w.heap.size hr (ext_drew_alloc _ _ _) ((ext_drew_alloc w _ (fun _ => False)).th (fun _ _ hf => hf.elim)) (fun kk q hne => rek_other (fun e => hne (by rw [e.1, e.2]))) (rek_same ⟨rfl, rfl⟩)
        (fun kk q ha _ => Below.heap_alloc w.drew _ _ (h1.ho.lt _ _ ha).1) (.inr ⟨rfl, by simp⟩) (by rw [List.length_append]) (by rw [List.length_append]; exact hge) (th_alloc w.drew _ e (by rw [hsize]; exact Nat.le_refl _)) (fun j hj => ?_) (fun j hj => ?_)
      · rw [show (⟨w.heap.size, j, none⟩ : Addr) = ⟨w.drew.heap.size, j, none⟩ from rfl, World.cell?_alloc_at _ e _ _ rfl]
        obtain ⟨u, hu⟩ := hcell j hj
        rw [Array.getElem?_append_left (by simp; omega), hu]
        simp [List.getElem?_append_left, hj, hu]
      · rw [show (⟨w.heap.size, xs.length + j, none⟩ : Addr) = ⟨w.drew.heap.size, xs.length + j, none⟩ from rfl, World.cell?_alloc_at _ e _ _ rfl]
        rw [Array.getElem?_append_left (by simp [hnl]; omega)]
        have := hnews j hj
        simp [List.getElem?_append_right, this]
  · cases hk

theorem app_ok (hT : TOk P T) (h : Sim T.globL U w0 F0 σ a w ow) {d : Nat} (hd : o.dst = some d) (hpn : F0.pn d = none) {s x : Operand} {t t' e : TypeId} {z by_ : Nat} (hel : T.el t = some (e, z)) (hes : T.esz e = some by_) {zs0 : List V} (hze : T.zero e = some zs0)
    (ho : o.op = .call { callee := .builtin .append, args := #[s, x], argTypes := #[t, t'] }) {y : V}
    (hy : ∀ {K : List V → Option Res}, asList (lkE σ) z y K = some r → ∃ ys news, K ys = some r ∧ (∀ ii zv, P.info? e = some ii → ii.zero = some zv → ii.size = z → zv.cells.size = ii.size → ASrc P ii zv t' (a.eval x) ys.length news w) ∧ ∀ (i : Nat) y, ys[i]? = some y → ∃ ecs, ecs.length = z ∧ FR w (Fz U w ow σ.ob) ecs y ∧ ∀ (j : Nat) v, ecs[j]? = some v → news[i * z + j]? = some v)
    {K : St → Option Res} (hk : app σ d z by_ (val T σ s) y K = some r) :
    ∃ σ', K σ' = some r ∧ DoneO P T.globL U w0 F0 a w o σ' := by
  obtain ⟨ii, hu, hi, hsz, hz⟩ := hT.el t e z hel
  obtain ⟨ii', hi', hby, hby0⟩ := hT.esz e by_ hes
  rw [hi] at hi'
  cases hi'
  obtain ⟨i2, zv, k1, k2, k3, k4, _⟩ := zero_fr (w := w) (A := fun _ => True) hT hze
  rw [hi] at k1
  cases k1
  have fin : ∀ {σ' : St} {u : Value} {w' : World} {ow' : Own}, (Builtin.append_ #[t, t'] o.type #[a.eval s, a.eval x]).run P w = .ok u w' → Sim T.globL U w0 F0 σ' (a.put (some d) u) w' ow' → DoneO P T.globL U w0 F0 a w o σ' := fun {σ' u w' ow'} hr hs Kq Q hq => by
    have hrun : (execOp a.eval o).run P w = .ok (.value u) w' := exec_builtin ho (by simp [builtin, hr])
    unfold Oper.wp
    rw [hrun, Oper.upon_value, hd]
    exact hq _ _ _ hs
  -- a new row
  have grow : ∀ {p : Nat × Option Nat → Prop} {σ' : St} (base : Option Addr) (sLen sCap : Nat) (olds : List Value) (zs ys : List V) (news : List Value), KilR w ow σ σ' p → (∀ c, p (d, c)) → σ'.ob.getD d .none = .none → d < σ.ob.length →
      (Builtin.firstCells ii.size sLen (.slice base sLen sCap)).run P w.drew = .ok olds.toArray w.drew → olds.length = sLen * z → ASrc P ii zv t' (a.eval x) ys.length news w → sCap < sLen + ys.length → (sLen + ys.length) * by_ ≤ 140737488355328 →
      zs.length = sLen + ys.length → (∀ (i : Nat) y, zs[i]? = some y → ∃ ecs, ecs.length = z ∧ FR w (Fz U w ow σ.ob) ecs y ∧ ∀ (j : Nat) v, ecs[j]? = some v → (olds ++ news)[i * z + j]? = some v) → a.eval s = .slice base sLen sCap →
      DoneO P T.globL U w0 F0 a w o ⟨σ'.sl.set d (.ref d none none), σ'.ob.set d (.row true z zs)⟩ := fun {p σ'} base sLen sCap olds zs ys news hkr hp hd' hdl hold hol hsrc hg hbytes hzl hrows hus => by
    have hle : sLen + ys.length ≤ 140737488355328 := Nat.le_trans (Nat.le_mul_of_pos_right _ hby0) hbytes
    have hr := run_append_grow_a (P := P) (w := w) t t' o.type e ii zv hu hi k2 base sLen sCap olds hold (a.eval x) ys.length news hsrc hg (by omega) (growslice_fits hg (by rw [hby]; exact hbytes))
    rw [← hus] at hr
    have hge := grownCap_ge w (sLen + ys.length) sCap e
    have hnl := hsrc.newsLen
    rw [hsz] at hnl
    have hsize : ((olds ++ news).toArray ++ Builtin.zeroCells zv.cells (grownCap w (sLen + ys.length) sCap e - (sLen + ys.length))).size = grownCap w (sLen + ys.length) sCap e * z := by
      simp only [Array.size_append, List.size_toArray, size_zeroCells, k3, hsz, List.length_append, hol, hnl, ← Nat.add_mul]
      congr 1
      omega
    rw [← hzl] at hr hge hsize
    refine fin hr (app_end h (w' := w.drew.alloc _) (ext_drew_alloc _ _ _) ((ext_drew_alloc w _ (fun _ => False)).th (fun _ _ hf => hf.elim)) hkr (g := w.heap.size) hdl hp hd' hpn ⟨by simp, h.un _ h.ext.size, .inr (Nat.le_refl _)⟩ (fun kk c ha e => ?_) (fun kk c ha => ?_) (fun A' hA => ?_))
    · have := (h.ho.lt _ _ (hkr.al _ _ ha)).1; omega
    · exact Below.heap_alloc w.drew _ _ (h.ho.lt _ _ (hkr.al _ _ ha)).1
    · refine ⟨hge, th_alloc w.drew _ e (by rw [hsize]; exact Nat.le_refl _), fun i y hy => ?_⟩
      obtain ⟨ecs, e1, e2, e3⟩ := hrows i y hy
      refine ⟨ecs, e1, at_alloc w.drew _ e (fun j v hv => ?_), e2.mono (fun b hb => (hA b hb).2) (fun b hb => (hA b hb).1)⟩
      have := e3 j v hv
      have hl := (List.getElem?_eq_some_iff.1 this).1
      rw [Array.getElem?_append_left (by simpa using hl)]
      simpa using this
  unfold app at hk
  obtain ⟨hdl, hk1⟩ := bif_some hk
  rw [Nat.blt_eq] at hdl
  have hsv := val_sr h s
  split at hk1
  · rename_i hs
    obtain ⟨ys, news, hk2, hsrc, hrows⟩ := hy hk1
    have hsrc := hsrc ii zv hi k2 hsz k3
    obtain ⟨hc, hK⟩ := chk_some hk2
    simp only [Bool.and_eq_true, decide_eq_true_eq, Bool.not_eq_true', decide_eq_false_iff_not] at hc
    rw [hs] at hsv
    have hsv' : FR w (Fz U w ow σ.ob) [a.eval s] .nil := hsv
    refine ⟨_, hK, ?_⟩
    generalize hus : a.eval s = us at hsv' grow
    cases hsv'
    exact grow (p := fun q => q.1 = d) none 0 0 [] ys ys news (kill_r w ow σ d) (fun _ => rfl) (getD_set_ob_same _ _ hdl) hdl (run_firstCells_none w.drew _ _ _ _) (by simp) hsrc (by omega) (by simpa using hc.1) (by omega) (fun i y hy => by
      obtain ⟨ecs, g1, g2, g3⟩ := hrows i y hy
      exact ⟨ecs, g1, g2, fun j v hv => by simpa using g3 j v hv⟩) rfl
  · rename_i k c m hs
    split at hk1
    · rename_i oo z' xs hr
      obtain ⟨hc0, hk2⟩ := bif_some hk1
      simp only [Bool.and_eq_true] at hc0
      obtain ⟨rfl, hz'⟩ := hc0
      cases beq_nat.1 hz'
      obtain ⟨ys, news, hk3, hsrc, hrows⟩ := hy hk2
      have hsrc := hsrc ii zv hi k2 hsz k3
      obtain ⟨hc, hK⟩ := chk_some hk3
      simp only [decide_eq_true_eq] at hc
      rw [hs] at hsv
      obtain ⟨o3, z3, xs3, cp, f1, f2, f3, f4, f5⟩ := hsv
      have hr' : obRow (fun k => σ.ob.getD k .none) k c = some (true, z, xs) := hr
      rw [hr'] at f1
      cases f1
      refine ⟨_, hK, ?_⟩
      have howd := owned_row hr
      have hal := alive_of_owned howd
      obtain ⟨cc, hrow⟩ := h.ho.row hr'
      have hkr : KilR w ow σ (kill (kil σ k c) d) (fun q => kp k c q ∨ q.1 = d) := (kil_r w ow σ k c).comp (kill_r w ow (kil σ k c) d) fun i q hq => kill_keeps d i q hq
      have hd' : (kill (kil σ k c) d).ob.getD d .none = .none := getD_set_ob_same _ _ (by rw [(kil_r w ow σ k c).obl]; exact hdl)
      have hnal : ¬ alive (kill (kil σ k c) d).ob k c := fun ha => kil_dead k c (h.ho.row64 hr') hr ((kill_r w ow (kil σ k c) d).al _ _ ha)
      have hcut := length_cut f3
      -- what was there
      have hold : ∀ (i : Nat) y, (cut xs m)[i]? = some y → ∃ ecs, ecs.length = z ∧ At w (ow k c) (i * z) ecs ∧ FR w (Fz U w ow σ.ob) ecs y := fun i y hy => hrow.at_ i y (getElem?_cut hy)
      by_cases hroom : cutLen xs m + ys.length ≤ cp
      · -- there is room
        have hnl := hsrc.newsLen
        rw [hsz] at hnl
        have hin : ∀ q, q < news.length → (w.cell? ⟨ow k c, cutLen xs m * z + q, none⟩).isSome = true ∧ w.frozen? ⟨ow k c, cutLen xs m * z + q, none⟩ = false := fun q hq => by
          have h1 : (cutLen xs m + ys.length) * z ≤ cp * z := Nat.mul_le_mul_right _ hroom
          rw [Nat.add_mul] at h1
          have := f5 (cutLen xs m * z + q) (by omega)
          rwa [Nat.zero_add] at this
        have hrun := run_append_room_a (P := P) (w := w) t t' o.type e ii zv hu hi (ow k c) 0 (cutLen xs m) cp (a.eval x) ys.length news hsrc hroom (fun q hq => by rw [hsz, Nat.zero_add]; exact (hin q hq).1) (fun q hq => by rw [hsz, Nat.zero_add]; exact (hin q hq).2)
        rw [hsz, Nat.zero_add, ← f2] at hrun
        obtain ⟨hx, hTh⟩ := ext_setCells (w := w) (g := ow k c) (o := cutLen xs m * z) (vs := news) (F := ownB σ.ob ow) ⟨k, c, howd, rfl⟩ (fun q hq => (hin q hq).1)
        have hlen : (cut xs m ++ ys).length = cutLen xs m + ys.length := by rw [List.length_append, hcut]
        rw [← hlen] at hrun
        refine fin hrun (app_end h hx hTh hkr (g := ow k c) hdl (fun c => .inr rfl) hd' hpn ⟨Nat.lt_of_lt_of_le (h.ho.lt _ _ hal).1 hx.size, (h.ho.lt _ _ hal).2, .inl ⟨k, c, howd, rfl⟩⟩ (fun kk q ha e => ?_) (fun kk q ha => World.heap_setCells_other w _ _ _ (h.ho.lt _ _ (hkr.al _ _ ha)).1 fun e => ?_) (fun A' hA => ?_))
        · obtain ⟨e1, e2⟩ := h.ho.inj _ _ _ _ (hkr.al _ _ ha) hal e
          subst e1; subst e2
          exact hnal ha
        · obtain ⟨e1, e2⟩ := h.ho.inj _ _ _ _ (hkr.al _ _ ha) hal e
          subst e1; subst e2
          exact hnal ha
        · refine ⟨by omega, hTh _ _ f5, fun i y hy => ?_⟩
          by_cases hi' : i < (cut xs m).length
          · rw [List.getElem?_append_left hi'] at hy
            obtain ⟨ecs, g1, g2, g3⟩ := hold i y hy
            refine ⟨ecs, g1, fun j v hv => ?_, g3.mono (fun b hb => (hA b hb).2) (fun b hb => (hA b hb).1)⟩
            have hj : j < z := by have := (List.getElem?_eq_some_iff.1 hv).1; omega
            have := mul_add_lt (z := z) (by omega : i < cutLen xs m) hj
            show (w.setCells (ow k c) (cutLen xs m * z) news).cell? ⟨ow k c, i * z + j, none⟩ = some v
            rw [cell_out (by omega)]
            exact g2 j v hv
          · rw [List.getElem?_append_right (by omega), hcut] at hy
            obtain ⟨ecs, g1, g2, g3⟩ := hrows _ y hy
            refine ⟨ecs, g1, fun j v hv => ?_, g2.mono (fun b hb => (hA b hb).2) (fun b hb => (hA b hb).1)⟩
            have := cell_in (w := w) (g := ow k c) (o := cutLen xs m * z) (fun q hq => (hin q hq).1) (g3 j v hv)
            rw [← Nat.add_assoc, ← Nat.add_mul, show cutLen xs m + (i - cutLen xs m) = i by omega] at this
            exact this
      · -- there is none
        obtain ⟨olds, o1, o2, o3, o4⟩ := rows_cells (w := w) (A := Fz U w ow σ.ob) (b := ow k c) (off := 0) (ys := cut xs m) hz (fun i y hy => by rw [Nat.zero_add]; exact hold i y hy)
        rw [hcut] at o1
        refine grow (some ⟨ow k c, 0, none⟩) (cutLen xs m) cp olds (cut xs m ++ ys) ys news hkr (fun c => .inr rfl) hd' hdl (run_firstCells_some w.drew ii.size _ _ _ _ olds (by rw [hsz]; exact o1) (fun j v hj => by rw [add_addr]; simpa using o2 j v hj)) o1 hsrc (by omega) (by rw [← hcut]; exact hc) (by rw [List.length_append, hcut]) (fun i y hy => ?_) f2
        by_cases hi' : i < (cut xs m).length
        · rw [List.getElem?_append_left hi'] at hy
          obtain ⟨ecs, g1, g2, g3⟩ := o4 i y hy
          refine ⟨ecs, g1, g2, fun j v hv => ?_⟩
          have := g3 j v hv
          rw [List.getElem?_append_left (List.getElem?_eq_some_iff.1 this).1]
          exact this
        · rw [List.getElem?_append_right (by omega), hcut] at hy
          obtain ⟨ecs, g1, g2, g3⟩ := hrows _ y hy
          refine ⟨ecs, g1, g2, fun j v hv => ?_⟩
          have hle : olds.length ≤ i * z + j := by
            rw [o1]
            have : cutLen xs m * z ≤ i * z := Nat.mul_le_mul_right _ (by omega)
            omega
          rw [List.getElem?_append_right hle, o1]
          have := g3 j v hv
          have e1 : i * z + j - cutLen xs m * z = (i - cutLen xs m) * z + j := by
            rw [Nat.sub_mul]
            have : cutLen xs m * z ≤ i * z := Nat.mul_le_mul_right _ (by omega)
            omega
          rw [e1]; exact this
    · cases hk1
  · rename_i k c i hs
    exact appE_ok hT h hd hel hes hze ho hy hs hk1
  · rename_i k c hs
    exact appH_ok hT h hd hel hes hze ho hy hs hk1
  · cases hk1
end
end Go.Proofs.YtaapkkeogajfpaaDoor.VM
