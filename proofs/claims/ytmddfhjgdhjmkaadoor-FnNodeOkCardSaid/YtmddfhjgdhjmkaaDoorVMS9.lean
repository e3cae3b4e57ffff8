/- The abstract machine: a quiet operation yields the same wherever what it looks at is the same. -/
import Derived.Test.YtmddfhjgdhjmkaaDoorVMS8
set_option linter.unusedVariables false
set_option linter.unusedSimpArgs false
namespace Go.Proofs.YtmddfhjgdhjmkaaDoor.VM

section
variable {R S : Type} {g : R → Option S}

theorem none_bind' : (none : Option R).bind g = none := rfl
theorem unI_bind {k : IntKind} {v : V} {K : Int → Option R} : (unI k v K).bind g = unI k v fun m => (K m).bind g := by
  unfold unI; split
  · rename_i k' m; cases decide (k' = k) <;> rfl
  · rfl
theorem unB_bind {v : V} {K : Bool → Option R} : (unB v K).bind g = unB v fun m => (K m).bind g := by unfold unB; split <;> rfl
theorem unS_bind {v : V} {K : ByteArray → Option R} : (unS v K).bind g = unS v fun m => (K m).bind g := by unfold unS; split <;> rfl
theorem unL_bind {z : Nat} {v : V} {K : List V → Option R} : (unL z v K).bind g = unL z v fun m => (K m).bind g := by
  unfold unL; split
  · rename_i z' m; cases Nat.beq z' z <;> rfl
  · rfl
  · rfl
theorem unIo_bind {v : V} {K : List V → Option R} : (unIo v K).bind g = unIo v fun m => (K m).bind g := by unfold unIo; split <;> rfl
theorem unTup_bind {n : Nat} {v : V} {K : List V → Option R} : (unTup n v K).bind g = unTup n v fun m => (K m).bind g := by
  unfold unTup; split
  · rename_i m; cases Nat.beq m.length n <;> rfl
  · rfl
theorem unSt_bind {n : Nat} {v : V} {K : Option R} : (unSt n v K).bind g = unSt n v (K.bind g) := by
  unfold unSt; split
  · rename_i m; cases Nat.beq m.length n <;> rfl
  · rfl
theorem wd_bind {n : Nat} {v : V} {K : Option R} : (wd n v K).bind g = wd n v (K.bind g) := by
  unfold wd; split
  · rename_i m; cases Nat.beq m.length n <;> rfl
  · cases Nat.beq n 1 <;> rfl
theorem wds_bind {n : Nat} : ∀ {xs : List V} {K : Option R}, (wds n xs K).bind g = wds n xs (K.bind g)
  | [], _ => rfl
  | x :: xs, K => by unfold wds; rw [wd_bind, wds_bind]
theorem unC_bind {s : Sh} {v : V} {K : V → Option R} : (unC s v K).bind g = unC s v fun m => (K m).bind g := by
  unfold unC
  cases s with
  | i k => exact unI_bind
  | b => exact unB_bind
  | tx => exact unS_bind
  | l z => exact unL_bind
  | any => cases v <;> rfl
theorem unCs_bind {x : V} : ∀ {ss : List Sh} {j : Nat} {K : List V → Option R}, (unCs x j ss K).bind g = unCs x j ss fun m => (K m).bind g
  | [], _, _ => rfl
  | s :: ss, j, K => by unfold unCs; rw [unC_bind]; congr 1; funext c; exact unCs_bind
theorem unVs_bind {vs : List V} : ∀ {ts : List Ty} {j : Nat} {K : List V → Option R}, (unVs vs j ts K).bind g = unVs vs j ts fun m => (K m).bind g
  | [], _, _ => rfl
  | .c s :: ss, j, K => by unfold unVs; rw [unC_bind]; congr 1; funext c; exact unVs_bind
  | .agg s :: ss, j, K => by unfold unVs; rw [unSt_bind]; congr 1; exact unVs_bind
  | .p s :: ss, j, K => rfl
  | .tup s :: ss, j, K => rfl
theorem exN_bind {xs : List V} {n : Nat} {K : V → Option R} : (exN xs n K).bind g = exN xs n fun m => (K m).bind g := by unfold exN; cases xs[n]? <;> rfl
theorem ix_bind {xs : List V} {n : Int} {K : V → Option R} : (ix xs n K).bind g = ix xs n fun m => (K m).bind g := by
  cases n with
  | ofNat n => exact exN_bind
  | negSucc n => rfl
theorem ixS_bind {s : ByteArray} {n : Int} {K : Int → Option R} : (ixS s n K).bind g = ixS s n fun m => (K m).bind g := by
  cases n with
  | ofNat n => simp only [ixS]; cases s[n]? <;> rfl
  | negSucc n => rfl
theorem chk_bind {b : Bool} {K : Option R} : (chk b K).bind g = chk b (K.bind g) := by cases b <;> rfl
theorem bif_bind {b : Bool} {K K' : Option R} : (bif b then K else K').bind g = bif b then K.bind g else K'.bind g := by cases b <;> rfl
theorem asI_bind {v : V} {K : Int → Option R} : (asI v K).bind g = asI v fun m => (K m).bind g := by unfold asI; split <;> rfl
theorem unBytes_bind : ∀ {xs : List V} {K : List UInt8 → Option R}, (unBytes xs K).bind g = unBytes xs fun m => (K m).bind g
  | [], _ => rfl
  | x :: xs, K => by unfold unBytes; rw [unI_bind]; congr 1; funext c; exact unBytes_bind
theorem datC_bind {v : V} {K : V → Option R} : (datC v K).bind g = datC v fun m => (K m).bind g := by cases v <;> rfl
theorem datCs_bind : ∀ {vs : List V} {K : List V → Option R}, (datCs vs K).bind g = datCs vs fun m => (K m).bind g
  | [], _ => rfl
  | v :: vs, K => by unfold datCs; rw [datC_bind]; congr 1; funext c; exact datCs_bind
theorem aInt_bind {op : BinOp} {k : IntKind} {x y : Int} {K : Value → Option R} : (aInt op k x y K).bind g = aInt op k x y fun m => (K m).bind g := by
  cases op <;> simp only [aInt] <;> first | rfl | exact chk_bind
theorem aStr_bind {op : BinOp} {x y : ByteArray} {K : Value → Option R} : (aStr op x y K).bind g = aStr op x y fun m => (K m).bind g := by
  cases op <;> simp only [aStr] <;> first | rfl | exact chk_bind
theorem aBin_bind {t : Ty} {op : BinOp} {x y : V} {K : Value → Option R} : (aBin t op x y K).bind g = aBin t op x y fun m => (K m).bind g := by
  unfold aBin
  split
  · split
    · exact chk_bind
    · exact chk_bind
    · rw [bif_bind]; congr 1; exact aInt_bind
  · exact aStr_bind
  · rw [bif_bind]; congr 1; split <;> rfl
  · rfl
theorem aUn_bind {op : UnOp} {x : V} {K : Value → Option R} : (aUn op x K).bind g = aUn op x fun m => (K m).bind g := by
  unfold aUn; split <;> rfl
theorem pickB_bind {c x y : V} {K : V → Option R} : (pickB c x y K).bind g = pickB c x y fun m => (K m).bind g := by
  unfold pickB; split
  · split
    · rfl
    · rw [bif_bind]
  · rfl
theorem partCs_bind {v : V} {K : List V → Option R} : (partCs v K).bind g = partCs v fun m => (K m).bind g := by cases v <;> rfl
theorem fillP_bind {place : Nat → Option (Nat × Nat)} : ∀ {ps : List (Nat × V)} {cs : List V} {K : List V → Option R}, (fillP place cs ps K).bind g = fillP place cs ps fun m => (K m).bind g
  | [], _, _ => rfl
  | (i, v) :: ps, cs, K => by
    unfold fillP
    cases place i with
    | none => rfl
    | some q => simp only [partCs_bind, bif_bind, fillP_bind]; rfl

section
variable {lk : Nat → Ob}
theorem sealC_bind {v : V} {K : V → List (Nat × Option Nat) → Option R} : (sealC lk v K).bind g = sealC lk v fun m s => (K m s).bind g := by
  unfold sealC
  split <;> first | rfl | skip
  rename_i k c m
  cases obRow lk k c <;> rfl
theorem sealCs_bind : ∀ {vs : List V} {K : List V → List (Nat × Option Nat) → Option R}, (sealCs lk vs K).bind g = sealCs lk vs fun m s => (K m s).bind g
  | [], _ => rfl
  | v :: vs, K => by unfold sealCs; rw [sealC_bind]; congr 1; funext c s; exact sealCs_bind
theorem sealV_bind {v : V} {K : V → List (Nat × Option Nat) → Option R} : (sealV lk v K).bind g = sealV lk v fun m s => (K m s).bind g := by
  cases v <;> simp only [sealV] <;> first | exact sealC_bind | exact sealCs_bind | rfl
theorem sealVs_bind : ∀ {vs : List V} {K : List V → List (Nat × Option Nat) → Option R}, (sealVs lk vs K).bind g = sealVs lk vs fun m s => (K m s).bind g
  | [], _ => rfl
  | v :: vs, K => by unfold sealVs; rw [sealV_bind]; congr 1; funext c s; exact sealVs_bind
theorem boxed_bind {ss : List Sh} {v : V} {K : List V → List (Nat × Option Nat) → Option R} : (boxed lk ss v K).bind g = boxed lk ss v fun m s => (K m s).bind g := by
  cases v <;> simp only [boxed] <;> first
    | (rw [bif_bind]; congr 1; exact sealCs_bind)
    | (rw [unSt_bind]; congr 1; exact unCs_bind)
    | (split; exact sealC_bind; rfl)
theorem asLen_bind {v : V} {K : Nat → Option R} : (asLen lk v K).bind g = asLen lk v fun m => (K m).bind g := by
  unfold asLen
  split <;> first | rfl | skip
  rename_i k c m
  cases obRow lk k c <;> rfl
theorem asList_bind {z : Nat} {v : V} {K : List V → Option R} : (asList lk z v K).bind g = asList lk z v fun m => (K m).bind g := by
  unfold asList
  split
  · exact bif_bind
  · rfl
  · rename_i k c m
    cases obRow lk k c with
    | none => rfl
    | some q => exact bif_bind
  · rfl
end

theorem k0_bind {x : V} {K : V → Ob → List (Nat × Option Nat) → Option R} : Option.bind (match x with | .dead => none | x => K x .none []) g = (match x with | .dead => none | x => (K x .none []).bind g) := by
  cases x <;> rfl

/-- what comes behind is not looked at -/
theorem qv_bind {T : TT} {call : FuncId → List V → Option Res} {v : Operand → V} {lk : Nat → Ob} {d : Nat} {o : Oper} {K : V → Ob → List (Nat × Option Nat) → Option R} :
    (qv T call v lk d o K).bind g = qv T call v lk d o fun x ob s => (K x ob s).bind g := by
  obtain ⟨dst, op, type, pos, after, guard⟩ := o
  cases op <;> first
    | rfl
    | skip
  case move x => exact k0_bind
  case assign x => exact k0_bind
  case pick c x y => simp only [qv]; exact pickB_bind
  case alloc t => simp only [qv]; cases T.zero t <;> rfl
  case box t x => simp only [qv]; cases T.ty t <;> first | exact boxed_bind | rfl
  case build t ps => simp only [qv]; cases T.ty t <;> cases T.zero t <;> cases fnd T.offL t <;> first | exact fillP_bind | rfl
  case buildSlice t n ps =>
    simp only [qv]
    cases T.el t with
    | none => rfl
    | some q =>
      simp only
      cases T.zero q.1 with
      | none => rfl
      | some zs => simp only [bif_bind, sealVs_bind, wds_bind]; rfl
  case load t p =>
    simp only [qv]
    generalize v p = y
    generalize T.ty t = tt
    generalize ldRow lk y = ld
    cases ld with
    | some q =>
      obtain ⟨xs, i, j⟩ := q
      cases tt <;> first | rfl | skip
      · simp only [exN_bind, unC_bind]
      · cases j <;> simp only [exN_bind, unSt_bind, unCs_bind]
    | none =>
    simp only
    cases y <;> cases tt <;> first | rfl | skip
    case ptr.c k c i j s =>
      cases c <;> cases i <;> simp only
      · cases lk k with
        | none => rfl
        | box b cs => exact k0_bind
        | row b z xs => simp only [exN_bind, unC_bind]
      · cases obRow lk k none with
        | none => rfl
        | some q => simp only [exN_bind, unC_bind]
      · cases obRow lk k _ with
        | none => rfl
        | some q => simp only [exN_bind, unC_bind]
      · cases obRow lk k _ with
        | none => rfl
        | some q => simp only [exN_bind, unC_bind]
    case ptr.agg k c i j ss =>
      cases c <;> cases i <;> cases j <;> simp only
      · cases lk k with
        | none => rfl
        | box b cs => exact bif_bind
        | row b z xs => simp only [exN_bind, unSt_bind]
      · cases lk k with
        | none => rfl
        | box b cs => exact bif_bind
        | row b z xs => simp only [exN_bind, unCs_bind]
      all_goals
        cases obRow lk k _ with
        | none => rfl
        | some q => simp only [exN_bind, unSt_bind, unCs_bind]
    case ptr.p k c i j s => cases c <;> cases i <;> rfl
    case ptr.tup k c i j s => cases c <;> cases i <;> rfl
    case rp.c x j s => exact unC_bind
    case rp.agg x j ss => cases j <;> simp only [unSt_bind, unCs_bind]
  case nilCheck x => simp only [qv]; cases v x <;> rfl
  case binOp op t x y t' => simp only [qv]; exact aBin_bind
  case unOp op t x => simp only [qv]; exact aUn_bind
  case convert s t x =>
    simp only [qv]
    cases intTy (T.ty s) <;> cases intTy (T.ty t) <;> simp only [asI_bind, bif_bind, asList_bind, unBytes_bind] <;> rfl
  case makeSlice t l c =>
    simp only [qv]
    cases T.el t with
    | none => rfl
    | some q =>
      simp only
      cases T.zero q.1 <;> cases T.esz q.1 <;> simp only [asI_bind, chk_bind] <;> rfl
  case slice t x lo hi mx =>
    simp only [qv]
    generalize sliceOk T t (v x) = y
    generalize lo.map v = l
    generalize hi.map v = hh
    cases y <;> first | rfl | skip
    case sc u => cases u <;> first | rfl | (cases l <;> cases hh <;> simp only [asI_bind, chk_bind] <;> rfl)
    case sl z xs => cases l <;> cases hh <;> simp only [asI_bind, chk_bind] <;> rfl
    case nil => cases l <;> cases hh <;> simp only [asI_bind, chk_bind] <;> rfl
    case ref k c m =>
      cases hr : obRow lk k c with
      | none => cases l <;> cases hh <;> simp only [hr] <;> rfl
      | some q =>
        cases l <;> cases hh <;> simp only [hr, asI_bind, bif_bind, chk_bind]
        · rfl
        · congr 1
          funext h
          cases mx.map v <;> simp only [asI_bind, chk_bind]
        · rfl
        · rfl
  case fieldAddr t x f => simp only [qv]; cases T.off t f <;> cases v x <;> rfl
  case indexAddr t x i =>
    simp only [qv]
    generalize v x = y
    cases T.el t <;> cases T.arr t <;> cases y <;> simp only [bif_bind, asI_bind, ix_bind, chk_bind] <;> first | rfl | skip
    all_goals
      rename_i k c m
      cases obRow lk k c <;> simp only [bif_bind, asI_bind, ix_bind, chk_bind] <;> rfl
  case index t x i =>
    simp only [qv]
    generalize v x = y
    cases y <;> first | rfl | skip
    rename_i u
    cases u <;> simp only [bif_bind, asI_bind, ixS_bind] <;> rfl
  case extract x i => simp only [qv]; cases v x <;> first | rfl | exact k0_bind
  case makeFunc f first caps =>
    cases f <;> first | rfl | skip
    simp only [qv]
    generalize first.size = n
    generalize caps.toList = l
    match n, l with
    | 0, [] => rfl
    | 0, [c] =>
      simp only
      generalize v c = y
      cases y <;> first | rfl | skip
      rename_i k c i j
      cases c <;> cases i <;> cases j <;> first | rfl | skip
      simp only
      cases obBox lk k with
      | none => rfl
      | some cs => exact datCs_bind
    | 0, _ :: _ :: _ => rfl
    | _ + 1, _ => rfl
  case call c =>
    obtain ⟨callee, args, ts⟩ := c
    cases callee with
    | invoke r m => rfl
    | value f =>
      have go : ∀ f more, Option.bind (bif T.loud f then none else
        sealVs lk (nrmA T ts.toList (args.toList.map v)) fun vs s => (call f (vs ++ more)).bind fun r =>
          match T.ty type with
          | .c sh => unC sh r.1 fun x => K x .none s
          | .agg ss => unSt ss.length r.1 (K (.dt r.1) .none s)
          | .p ss => unIo r.1 fun cs => unCs (.st cs) 0 ss fun cs => K (.ptr d none 0 0) (.box true cs) s
          | .tup ts => unTup ts.length r.1 fun vs => unVs vs 0 ts fun vs => K (.tup vs) .none s) g = (bif T.loud f then none else
        sealVs lk (nrmA T ts.toList (args.toList.map v)) fun vs s => (call f (vs ++ more)).bind fun r =>
          match T.ty type with
          | .c sh => unC sh r.1 fun x => (K x .none s).bind g
          | .agg ss => unSt ss.length r.1 ((K (.dt r.1) .none s).bind g)
          | .p ss => unIo r.1 fun cs => unCs (.st cs) 0 ss fun cs => (K (.ptr d none 0 0) (.box true cs) s).bind g
          | .tup ts => unTup ts.length r.1 fun vs => unVs vs 0 ts fun vs => (K (.tup vs) .none s).bind g) := fun f more => by
        rw [bif_bind, sealVs_bind]
        congr 1
        congr 1
        funext vs s
        cases call f (vs ++ more) with
        | none => rfl
        | some r =>
          simp only [Option.bind_some]
          cases T.ty type <;> simp only [unC_bind, unSt_bind, unIo_bind, unCs_bind, unTup_bind, unVs_bind]
      simp only [qv]
      generalize v f = y
      cases y <;> first | rfl | skip
      · rename_i u
        cases u <;> first | rfl | skip
        rename_i fn fs cv
        cases fn <;> first | rfl | skip
        exact bif_bind.trans (congrArg (fun z => bif (Nat.beq fs.size 0 && Nat.beq cv.size 0) then z else none) (go _ []))
      · rename_i f' caps
        exact bif_bind.trans (congrArg (fun z => bif caps.all isRp then z else none) (go f' caps))
    | builtin b =>
      cases b <;> first | rfl | skip
      · simp only [qv]
        generalize args.toList = l
        generalize ts.toList = l'
        match l, l' with
        | [x], [t] => exact asLen_bind
        | [], _ => rfl
        | [_], [] => rfl
        | [_], _ :: _ :: _ => rfl
        | _ :: _ :: _, _ => rfl
      · simp only [qv]
        split <;> rfl
      · simp only [qv]
        split <;> rfl

theorem qv_nat {T : TT} {call : FuncId → List V → Option Res} {v : Operand → V} {lk : Nat → Ob} {d : Nat} {o : Oper} {K : V → Ob → List (Nat × Option Nat) → Option R} {r : R} (h : qv T call v lk d o K = some r) :
    ∃ x ob s, K x ob s = some r ∧ qv T call v lk d o (fun x ob s => some (x, ob, s)) = some (x, ob, s) := by
  have e : qv T call v lk d o K = (qv T call v lk d o fun x ob s => some (x, ob, s)).bind fun p => K p.1 p.2.1 p.2.2 := by rw [qv_bind]; rfl
  rw [e] at h
  cases hq : qv T call v lk d o (fun x ob s => some (x, ob, s)) with
  | none => rw [hq] at h; cases h
  | some p => rw [hq] at h; exact ⟨p.1, p.2.1, p.2.2, h, rfl⟩
theorem qv_at {T : TT} {call : FuncId → List V → Option Res} {v : Operand → V} {lk : Nat → Ob} {d : Nat} {o : Oper} {x : V} {ob : Ob} {s : List (Nat × Option Nat)}
    (h : qv T call v lk d o (fun x ob s => some (x, ob, s)) = some (x, ob, s)) (K : V → Ob → List (Nat × Option Nat) → Option R) : qv T call v lk d o K = K x ob s := by
  have e : qv T call v lk d o K = (qv T call v lk d o fun x ob s => some (x, ob, s)).bind fun p => K p.1 p.2.1 p.2.2 := by rw [qv_bind]; rfl
  rw [e, h]; rfl
end

/-! ### what an operation looks at -/
section
variable {R : Type} {lk1 lk2 : Nat → Ob}
/-- what v refers to is in both alike -/
def KV (lk1 lk2 : Nat → Ob) (v : V) : Prop := ∀ k c, (k, c) ∈ keysV v → lk1 k = lk2 k
theorem KV.key {v : V} (h : KV lk1 lk2 v) {k : Nat} {c : Option Nat} (hk : (k, c) ∈ keysV v) : lk1 k = lk2 k := h k c hk
theorem obRow_eq {k : Nat} (h : lk1 k = lk2 k) (c : Option Nat) : obRow lk1 k c = obRow lk2 k c := by unfold obRow; rw [h]
theorem obBox_eq {k : Nat} (h : lk1 k = lk2 k) : obBox lk1 k = obBox lk2 k := by unfold obBox; rw [h]
theorem sealC_eq {v : V} (h : ∀ k c, keyC v = some (k, c) → lk1 k = lk2 k) {K : V → List (Nat × Option Nat) → Option R} : sealC lk1 v K = sealC lk2 v K := by
  cases v <;> first | rfl | skip
  rename_i k c m
  simp only [sealC]
  rw [obRow_eq (h k c rfl)]
theorem sealCs_eq : ∀ {vs : List V}, (∀ v ∈ vs, ∀ k c, keyC v = some (k, c) → lk1 k = lk2 k) → ∀ {K : List V → List (Nat × Option Nat) → Option R}, sealCs lk1 vs K = sealCs lk2 vs K
  | [], _, _ => rfl
  | v :: vs, h, K => by
    unfold sealCs
    rw [sealC_eq (h v (by simp))]
    congr 1
    funext c s
    exact sealCs_eq fun u hu => h u (List.mem_cons_of_mem _ hu)
theorem KV.one {v : V} (h : KV lk1 lk2 v) (hs : ∀ cs, v ≠ .st cs) (ht : ∀ cs, v ≠ .tup cs) : ∀ k c, keyC v = some (k, c) → lk1 k = lk2 k := fun k c hk => h k c (by
  cases v <;> first | exact absurd rfl (hs _) | exact absurd rfl (ht _) | (simp only [keysV, hk]; simp))
theorem KV.many {cs : List V} (h : KV lk1 lk2 (.st cs)) : ∀ c ∈ cs, ∀ k q, keyC c = some (k, q) → lk1 k = lk2 k := fun c hc k q hk => h k q (List.mem_filterMap.2 ⟨c, hc, hk⟩)
theorem sealV_eq {v : V} (h : KV lk1 lk2 v) {K : V → List (Nat × Option Nat) → Option R} : sealV lk1 v K = sealV lk2 v K := by
  cases v <;> simp only [sealV] <;> first
    | exact sealCs_eq h.many
    | rfl
    | exact sealC_eq (h.one (by simp) (by simp))
theorem sealVs_eq : ∀ {vs : List V}, (∀ v ∈ vs, KV lk1 lk2 v) → ∀ {K : List V → List (Nat × Option Nat) → Option R}, sealVs lk1 vs K = sealVs lk2 vs K
  | [], _, _ => rfl
  | v :: vs, h, K => by
    unfold sealVs
    rw [sealV_eq (h v (by simp))]
    congr 1
    funext c s
    exact sealVs_eq fun u hu => h u (List.mem_cons_of_mem _ hu)
theorem boxed_eq {ss : List Sh} {v : V} (h : KV lk1 lk2 v) {K : List V → List (Nat × Option Nat) → Option R} : boxed lk1 ss v K = boxed lk2 ss v K := by
  cases v <;> simp only [boxed] <;> first
    | rfl
    | (congr 1; exact sealCs_eq h.many)
    | (split; exact sealC_eq (h.one (by simp) (by simp)); rfl)
theorem asLen_eq {v : V} (h : KV lk1 lk2 v) {K : Nat → Option R} : asLen lk1 v K = asLen lk2 v K := by
  cases v <;> first | rfl | skip
  case sc u => cases u <;> rfl
  simp only [asLen]
  rename_i k c m
  rw [obRow_eq (h.key (k := k) (c := c) (by simp [keysV, keyC]))]
theorem asList_eq {z : Nat} {v : V} (h : KV lk1 lk2 v) {K : List V → Option R} : asList lk1 z v K = asList lk2 z v K := by
  cases v <;> first | rfl | skip
  simp only [asList]
  rename_i k c m
  rw [obRow_eq (h.key (k := k) (c := c) (by simp [keysV, keyC]))]

theorem qv_lk {T : TT} {call : FuncId → List V → Option Res} {v : Operand → V} {d : Nat} {o : Oper} (hv : ∀ x ∈ o.op.operands, KV lk1 lk2 (v x)) (K : V → Ob → List (Nat × Option Nat) → Option R) :
    qv T call v lk1 d o K = qv T call v lk2 d o K := by
  obtain ⟨dst, op, type, pos, after, guard⟩ := o
  cases op <;> first
    | rfl
    | skip
  case box t x =>
    have h := hv x (by simp [Op.operands])
    simp only [qv]
    cases T.ty t <;> first | exact boxed_eq h | rfl
  case buildSlice t n ps =>
    simp only [qv]
    have h : ∀ e, ∀ u ∈ ps.toList.map (fun p => nrmV T e (v p.2)), KV lk1 lk2 u := fun e u hu => by
      obtain ⟨p, hp, rfl⟩ := List.mem_map.1 hu
      have := hv p.2 (by simp only [Op.operands, List.mem_toArray, List.mem_map]; exact ⟨p, hp, rfl⟩)
      intro k c hk
      rw [keysV_nrm] at hk
      exact this k c hk
    cases T.el t with
    | none => rfl
    | some q =>
      simp only
      cases T.zero q.1 with
      | none => rfl
      | some zs => simp only; congr 1; congr 1; exact sealVs_eq (h _)
  case load t p =>
    have h := hv p (by simp [Op.operands])
    simp only [qv]
    revert h
    generalize v p = y
    generalize T.ty t = tt
    intro h
    cases y <;> first | rfl | skip
    case rp x j => cases tt <;> cases j <;> rfl
    rename_i k c i j
    have hk := h.key (k := k) (c := c) (by simp [keysV, keyC])
    have hld : ldRow lk1 (.ptr k c i j) = ldRow lk2 (.ptr k c i j) := by
      have e : ∀ lk, ldRow lk (.ptr k c i j) = match obRow lk k c with | some (_, _, xs) => some (xs, i, j) | none => none := fun _ => rfl
      rw [e, e, obRow_eq hk c]
    rw [hld]
    cases ldRow lk2 (.ptr k c i j) with
    | some q => rfl
    | none => cases tt <;> cases c <;> cases i <;> first | rfl | simp only [hk, obRow_eq hk]
  case convert s t x =>
    have h := hv x (by simp [Op.operands])
    simp only [qv]
    cases intTy (T.ty s) <;> cases intTy (T.ty t) <;> simp only [asList_eq h]
  case slice t x lo hi mx =>
    have h := hv x (by simp [Op.operands])
    simp only [qv]
    generalize hs : sliceOk T t (v x) = y
    cases y
    case sc u => cases u <;> first | rfl | (cases lo <;> cases hi <;> rfl)
    case sl => cases lo <;> cases hi <;> rfl
    case nil => cases lo <;> cases hi <;> rfl
    case ref k c m =>
      have hx : v x = .ref k c m := by
        rcases @sliceOk_some T t (v x) with ⟨s, e1, e2, e3⟩ | ⟨z, xs, e, e1, e2, e3⟩ | ⟨k', c', m', e, z, e1, e2, e3⟩ | ⟨e, z, e1, e2, e3⟩ | e1 <;> rw [hs] at e1 <;> cases e1
        exact e2
      have hk := h.key (k := k) (c := c) (by rw [hx]; simp [keysV, keyC])
      cases lo <;> cases hi <;> first | rfl | simp only [Option.map_some, Option.map_none, obRow_eq hk]
    all_goals rfl
  case indexAddr t x i =>
    have h := hv x (by simp [Op.operands])
    simp only [qv]
    revert h
    generalize v x = y
    intro h
    by_cases hy : ∃ k c m, y = .ref k c m
    · obtain ⟨k, c, m, rfl⟩ := hy
      have hk := h.key (k := k) (c := c) (by simp [keysV, keyC])
      cases T.el t <;> cases T.arr t <;> simp only [obRow_eq hk]
    · cases y <;> first
        | exact absurd ⟨_, _, _, rfl⟩ hy
        | (cases T.el t <;> cases T.arr t <;> rfl)
  case makeFunc f first caps =>
    cases f <;> first | rfl | skip
    simp only [qv]
    have hc : ∀ c ∈ caps.toList, KV lk1 lk2 (v c) := fun c hc => hv c (by simp only [Op.operands, Array.mem_append]; exact .inr (Array.mem_toList_iff.1 hc))
    revert hc
    generalize first.size = n
    generalize caps.toList = l
    intro hc
    match n, l with
    | 0, [] => rfl
    | 0, [c] =>
      have h := hc c (by simp)
      simp only
      revert h
      generalize v c = y
      intro h
      cases y <;> first | rfl | skip
      rename_i k c i j
      have hk := h.key (k := k) (c := c) (by simp [keysV, keyC])
      cases c <;> cases i <;> cases j <;> simp only [obBox_eq hk]
    | 0, _ :: _ :: _ => rfl
    | _ + 1, _ => rfl
  case call c =>
    obtain ⟨callee, args, ts⟩ := c
    have ha : ∀ u ∈ args.toList.map v, KV lk1 lk2 u := fun u hu => by
      obtain ⟨p, hp, rfl⟩ := List.mem_map.1 hu
      exact hv p (by simp only [Op.operands, Call.operands]; cases callee <;> simp [Array.mem_toList_iff.1 hp])
    have han : ∀ u ∈ nrmA T ts.toList (args.toList.map v), KV lk1 lk2 u := fun u hu => by
      obtain ⟨i, hi, rfl⟩ := List.getElem_of_mem hu
      obtain ⟨v0, hv0, e0⟩ := nrmA_get _ _ i (List.getElem?_eq_getElem hi)
      have h0 := ha v0 (List.mem_of_getElem? hv0)
      rcases e0 with e0 | ⟨t, e0⟩
      · rw [e0]; exact h0
      · rw [e0]; intro k c hk; rw [keysV_nrm] at hk; exact h0 k c hk
    cases callee with
    | invoke r m => rfl
    | value f =>
      simp only [qv]
      cases v f <;> first | rfl | skip
      · rename_i u
        cases u <;> first | rfl | skip
        rename_i fn fs cv
        cases fn <;> first | rfl | skip
        simp only [sealVs_eq han]
      · simp only [sealVs_eq han]
    | builtin b =>
      cases b <;> first | rfl | skip
      simp only [qv]
      revert ha
      generalize args.toList = l
      intro ha
      cases l with
      | nil => rfl
      | cons x l =>
        cases l with
        | cons y l => rfl
        | nil =>
          generalize ts.toList = l'
          cases l' with
          | nil => rfl
          | cons t l' =>
            cases l' with
            | cons t' l' => rfl
            | nil =>
              simp only
              refine asLen_eq ?_
              have h := ha (v x) (by simp)
              rcases @sliceOk_some T t (v x) with ⟨s, e1, e2, e3⟩ | ⟨z, xs, e, e1, e2, e3⟩ | ⟨k', c', m', e, z, e1, e2, e3⟩ | ⟨e, z, e1, e2, e3⟩ | e1
              · rw [e1, ← e2]; exact h
              · rw [e1, ← e2]; exact h
              · rw [e1, ← e2]; exact h
              · rw [e1, ← e2]; exact h
              · rw [e1]; exact fun k c hk => by simp [keysV, keyC] at hk

theorem qv_v {T : TT} {call : FuncId → List V → Option Res} {v v' : Operand → V} {lk : Nat → Ob} {d : Nat} {o : Oper} (hv : ∀ x ∈ o.op.operands, v x = v' x) (K : V → Ob → List (Nat × Option Nat) → Option R) :
    qv T call v lk d o K = qv T call v' lk d o K := by
  obtain ⟨dst, op, type, pos, after, guard⟩ := o
  cases op <;> simp only [Op.operands] at hv <;> simp only [qv]
  case build t ps =>
    have : (ps.toList.map fun p => (p.1, v p.2)) = ps.toList.map fun p => (p.1, v' p.2) := List.map_congr_left fun p hp => by
      rw [hv p.2 (by simp only [List.mem_toArray, List.mem_map]; exact ⟨p, hp, rfl⟩)]
    simp only [this]
  case buildSlice t n ps =>
    have : ∀ e, (ps.toList.map fun p => nrmV T e (v p.2)) = ps.toList.map fun p => nrmV T e (v' p.2) := fun e => List.map_congr_left fun p hp => by
      rw [hv p.2 (by simp only [List.mem_toArray, List.mem_map]; exact ⟨p, hp, rfl⟩)]
    simp only [this]
  case slice t x lo hi mx =>
    have h1 := hv x (by simp)
    have h2 : lo.map v = lo.map v' := by cases lo <;> simp_all
    have h3 : hi.map v = hi.map v' := by cases hi <;> simp_all
    have h4 : mx.map v = mx.map v' := by cases mx <;> simp_all
    simp only [h1, h2, h3, h4]
  case makeFunc f first caps =>
    cases f <;> first | rfl | skip
    simp only
    have hc : ∀ c ∈ caps.toList, v c = v' c := fun c hc => hv c (by simp only [Array.mem_append]; exact .inr (Array.mem_toList_iff.1 hc))
    revert hc
    generalize first.size = n
    generalize caps.toList = l
    intro hc
    match n, l with
    | 0, [] => rfl
    | 0, [c] => simp only [hc c (by simp)]
    | 0, _ :: _ :: _ => rfl
    | _ + 1, _ => rfl
  case call c =>
    obtain ⟨callee, args, ts⟩ := c
    have ha : args.toList.map v = args.toList.map v' := List.map_congr_left fun p hp => hv p (by simp only [Call.operands]; cases callee <;> simp [Array.mem_toList_iff.1 hp])
    cases callee with
    | invoke r m => rfl
    | value f =>
      have hf : v f = v' f := hv f (by simp [Call.operands])
      simp only [hf, ha]
    | builtin b =>
      cases b <;> first | rfl | skip
      · simp only
        have hx : ∀ x ∈ args.toList, v x = v' x := fun p hp => hv p (by simp only [Call.operands]; simp [Array.mem_toList_iff.1 hp])
        revert hx
        generalize args.toList = l
        intro hx
        cases l with
        | nil => rfl
        | cons x l => cases l with
          | nil =>
            generalize ts.toList = l'
            match l' with
            | [] => rfl
            | [t] => simp only [hx x (by simp)]
            | _ :: _ :: _ => rfl
          | cons y l => rfl
      · simp only [ha]
      · simp only [ha]
  all_goals first
    | rfl
    | (simp_all; done)
end
end Go.Proofs.YtmddfhjgdhjmkaaDoor.VM
