/- The abstract machine: families of outcomes. -/
import Derived.Test.YtmddfhjgdhjmkaaDoorVMS25
set_option linter.unusedVariables false
set_option linter.unusedSimpArgs false
namespace Go.Proofs.YtmddfhjgdhjmkaaDoor.VM

/-! ### a kind of statement about families of outcomes that goes through the machine -/
section
variable {ι : Type} {𝒫 : (ι → Option Res) → Prop}

theorem adm_bind {α : Type} (hc : ∀ o, 𝒫 fun _ => o) (o : Option α) {K : ι → α → Option Res} (hK : ∀ x, 𝒫 fun i => K i x) : 𝒫 fun i => o.bind (K i) := by
  cases o with
  | none => exact hc none
  | some x => exact hK x
theorem adm_of {α : Type} (hc : ∀ o, 𝒫 fun _ => o) (o : Option α) {G : ι → Option Res} {K : ι → α → Option Res} (h : ∀ i, o.bind (K i) = G i) (hK : ∀ x, 𝒫 fun i => K i x) : 𝒫 G := by
  have : G = fun i => o.bind (K i) := funext fun i => (h i).symm
  rw [this]
  exact adm_bind hc o hK
theorem adm_unI (hc : ∀ o, 𝒫 fun _ => o) {k : IntKind} {v : V} {K : ι → Int → Option Res} (hK : ∀ x, 𝒫 fun i => K i x) : 𝒫 fun i => unI k v (K i) := adm_of hc (unI k v some) (fun _ => unI_bind) hK
theorem adm_unB (hc : ∀ o, 𝒫 fun _ => o) {v : V} {K : ι → Bool → Option Res} (hK : ∀ x, 𝒫 fun i => K i x) : 𝒫 fun i => unB v (K i) := adm_of hc (unB v some) (fun _ => unB_bind) hK
theorem adm_unC (hc : ∀ o, 𝒫 fun _ => o) {s : Sh} {v : V} {K : ι → V → Option Res} (hK : ∀ x, 𝒫 fun i => K i x) : 𝒫 fun i => unC s v (K i) := adm_of hc (unC s v some) (fun _ => unC_bind) hK
theorem adm_unIo (hc : ∀ o, 𝒫 fun _ => o) {v : V} {K : ι → List V → Option Res} (hK : ∀ x, 𝒫 fun i => K i x) : 𝒫 fun i => unIo v (K i) := adm_of hc (unIo v some) (fun _ => unIo_bind) hK
theorem adm_unTup (hc : ∀ o, 𝒫 fun _ => o) {n : Nat} {v : V} {K : ι → List V → Option Res} (hK : ∀ x, 𝒫 fun i => K i x) : 𝒫 fun i => unTup n v (K i) := adm_of hc (unTup n v some) (fun _ => unTup_bind) hK
theorem adm_unCs (hc : ∀ o, 𝒫 fun _ => o) {x : V} {ss : List Sh} {j : Nat} {K : ι → List V → Option Res} (hK : ∀ x, 𝒫 fun i => K i x) : 𝒫 fun i => unCs x j ss (K i) := adm_of hc (unCs x j ss some) (fun _ => unCs_bind) hK
theorem adm_unVs (hc : ∀ o, 𝒫 fun _ => o) {vs : List V} {ts : List Ty} {j : Nat} {K : ι → List V → Option Res} (hK : ∀ x, 𝒫 fun i => K i x) : 𝒫 fun i => unVs vs j ts (K i) := adm_of hc (unVs vs j ts some) (fun _ => unVs_bind) hK
theorem adm_unSt (hc : ∀ o, 𝒫 fun _ => o) {n : Nat} {x : V} {K : ι → Option Res} (hK : 𝒫 K) : 𝒫 fun i => unSt n x (K i) := adm_of hc (unSt n x (some ())) (K := fun i _ => K i) (fun _ => unSt_bind) fun _ => hK
theorem adm_bif (hc : ∀ o, 𝒫 fun _ => o) {b : Bool} {K K' : ι → Option Res} (hK : 𝒫 K) (hK' : 𝒫 K') : 𝒫 fun i => bif b then K i else K' i := by
  cases b
  · exact hK'
  · exact hK
theorem adm_sealVs (hc : ∀ o, 𝒫 fun _ => o) {lk : Nat → Ob} {vs : List V} {K : ι → List V → List (Nat × Option Nat) → Option Res} (hK : ∀ x s, 𝒫 fun i => K i x s) : 𝒫 fun i => sealVs lk vs (K i) :=
  adm_of hc (sealVs lk vs fun x s => some (x, s)) (K := fun i p => K i p.1 p.2) (fun _ => sealVs_bind) fun p => hK p.1 p.2

variable (hc : ∀ o, 𝒫 fun _ => o) {C : ι → FuncId → List V → Option Res} (hcall : ∀ f vs (K : ι → Res → Option Res), (∀ r, 𝒫 fun i => K i r) → 𝒫 fun i => (C i f vs).bind (K i))
include hc hcall

theorem adm_go {T : TT} {t : TypeId} {d : Nat} {f : FuncId} {lk : Nat → Ob} {vs more : List V} {K : ι → V → Ob → List (Nat × Option Nat) → Option Res} (hK : ∀ x ob s, 𝒫 fun i => K i x ob s) :
    𝒫 fun i => bif T.loud f then none else
        sealVs lk vs fun vs s => (C i f (vs ++ more)).bind fun r =>
          match T.ty t with
          | .c sh => unC sh r.1 fun x => K i x .none s
          | .agg ss => unSt ss.length r.1 (K i (.dt r.1) .none s)
          | .p ss => unIo r.1 fun cs => unCs (.st cs) 0 ss fun cs => K i (.ptr d none 0 0) (.box true cs) s
          | .tup ts => unTup ts.length r.1 fun vs => unVs vs 0 ts fun vs => K i (.tup vs) .none s := by
  refine adm_bif hc (hc none) (adm_sealVs hc fun vs s => hcall _ _ _ fun r => ?_)
  cases T.ty t with
  | c sh => exact adm_unC hc fun x => hK _ _ _
  | agg ss => exact adm_unSt hc (hK _ _ _)
  | p ss => exact adm_unIo hc fun cs => adm_unCs hc fun cs => hK _ _ _
  | tup ts => exact adm_unTup hc fun vs => adm_unVs hc fun vs => hK _ _ _

theorem adm_qv {T : TT} {v : Operand → V} {lk : Nat → Ob} {d : Nat} {o : Oper} {K : ι → V → Ob → List (Nat × Option Nat) → Option Res} (hK : ∀ x ob s, 𝒫 fun i => K i x ob s) :
    𝒫 fun i => qv T (C i) v lk d o (K i) := by
  obtain ⟨dst, op, type, pos, after, guard⟩ := o
  have gen : (∀ i, qv T (C i) v lk d ⟨dst, op, type, pos, after, guard⟩ (K i) = qv T (fun _ _ => none) v lk d ⟨dst, op, type, pos, after, guard⟩ (K i)) → 𝒫 fun i => qv T (C i) v lk d ⟨dst, op, type, pos, after, guard⟩ (K i) := fun h =>
    adm_of hc (qv T (fun _ _ => none) v lk d ⟨dst, op, type, pos, after, guard⟩ fun x ob s => some (x, ob, s)) (K := fun i p => K i p.1 p.2.1 p.2.2) (fun i => by rw [h i, qv_bind]; rfl) fun p => hK _ _ _
  cases op <;> first
    | exact gen fun i => rfl
    | skip
  case makeFunc f q r => cases f <;> exact gen fun i => rfl
  case call c =>
    obtain ⟨callee, args, ts⟩ := c
    cases callee with
    | invoke rc m => exact gen fun i => rfl
    | builtin b => cases b <;> exact gen fun i => rfl
    | value f =>
      simp only [qv]
      generalize v f = x
      cases x <;> first | exact hc none | skip
      · rename_i u
        cases u <;> first | exact hc none | skip
        rename_i q fs cv
        cases q <;> first | exact hc none | skip
        exact adm_bif hc (adm_go hc hcall hK) (hc none)
      · exact adm_bif hc (adm_go hc hcall hK) (hc none)

theorem adm_loud0 {T : TT} {σ : St} {o : Oper} {K : ι → St → Option Res} (hK : ∀ x, 𝒫 fun i => K i x) : 𝒫 fun i => exLoud0 T (C i) σ o (K i) := by
  obtain ⟨dst, op, type, pos, after, guard⟩ := o
  cases op <;> first
    | (cases dst <;> exact hc none)
    | skip
  case store t a x =>
    cases dst with
    | none => exact adm_of hc (sto T σ t (val T σ a) (val T σ x) some) (fun _ => sto_bind) hK
    | some d => exact hc none
  case call c =>
    obtain ⟨callee, args, ts⟩ := c
    cases dst with
    | none => cases callee <;> first | exact hc none | (rename_i b; cases b <;> exact hc none)
    | some d =>
      cases callee with
      | invoke rc m => exact hc none
      | builtin b =>
        cases b <;> first | exact hc none | skip
        simp only [exLoud0]
        generalize args.toList = as
        generalize ts.toList = tl
        rcases as with _ | ⟨s, _ | ⟨x, _ | ⟨y, as⟩⟩⟩ <;> rcases tl with _ | ⟨t, _ | ⟨t', _ | ⟨y', tl⟩⟩⟩ <;> first | exact hc none | skip
        dsimp only
        cases T.el t with
        | none => exact hc none
        | some p =>
          refine adm_bif hc ?_ (hc none)
          cases T.esz p.1 <;> cases T.zero p.1 <;> first | exact hc none | skip
          rename_i by_ zs
          exact adm_of hc (app σ d p.2 by_ (val T σ s) (val T σ x) some) (fun _ => app_bind) hK
      | value f =>
        simp only [exLoud0]
        generalize val T σ f = x
        cases x <;> first | exact hc none | skip
        rename_i u
        cases u <;> first | exact hc none | skip
        rename_i q fs cv
        cases q <;> first | exact hc none | skip
        rename_i q
        refine adm_bif hc ?_ (hc none)
        let fin : ι → Res → St → Option Res := fun i r σ => match T.ty type with
          | .c sh => unC sh r.1 fun x => K i ⟨σ.sl.set d x, σ.ob⟩
          | .agg ss => unSt ss.length r.1 (K i ⟨σ.sl.set d (.dt r.1), σ.ob⟩)
          | .tup ts => unTup ts.length r.1 fun vs => unVs vs 0 ts fun vs => K i ⟨σ.sl.set d (.tup vs), σ.ob⟩
          | .p _ => none
        let aft : ι → List (Nat × Option Nat) → List V → List Nat → Option Res := fun i s vs l => bif nodup l then (C i q vs).bind fun r => ioBack ⟨σ.sl, freeze σ.ob s⟩ l r.2 (fin i r) else none
        show 𝒫 fun i => ioSeal (lkE σ) (nrmA T ts.toList (args.toList.map (val T σ))) fun as s => ioFill (freeze σ.ob s) as (aft i s)
        refine adm_of hc (ioSeal (lkE σ) (nrmA T ts.toList (args.toList.map (val T σ))) fun x s => some (x, s)) (K := fun i p => ioFill (freeze σ.ob p.2) p.1 (aft i p.2)) (fun _ => ioSeal_bind) fun p => ?_
        refine adm_of hc (ioFill (freeze σ.ob p.2) p.1 fun x s => some (x, s)) (K := fun i p' => aft i p.2 p'.1 p'.2) (fun _ => ioFill_bind) fun p' => ?_
        refine adm_bif hc (hcall _ _ _ fun r => ?_) (hc none)
        refine adm_of hc (ioBack ⟨σ.sl, freeze σ.ob p.2⟩ p'.2 r.2 some) (K := fun i => fin i r) (fun _ => ioBack_bind) fun σ' => ?_
        dsimp only [fin]
        cases T.ty type with
        | c sh => exact adm_unC hc fun x => hK _
        | agg ss => exact adm_unSt hc (hK _)
        | p ss => exact hc none
        | tup ts => exact adm_unTup hc fun vs => adm_unVs hc fun vs => hK _

theorem adm_loud {T : TT} {σ : St} {o : Oper} {K : ι → St → Option Res} (hK : ∀ x, 𝒫 fun i => K i x) : 𝒫 fun i => exLoud T (C i) σ o (K i) :=
  adm_loud0 hc hcall fun σ' => adm_of hc (rsA T σ σ' (loudArgs T σ o) some) (K := fun i => K i) (fun _ => rsA_bind) hK

theorem adm_exOp {T : TT} {dr : Bool} {σ : St} {fs : List (Nat × Option Nat)} {o : Oper} {K : ι → St → List (Nat × Option Nat) → Option Res} (hK : ∀ x s, 𝒫 fun i => K i x s) : 𝒫 fun i => exOp T (C i) dr σ fs o (K i) := by
  unfold exOp
  refine adm_bif hc (adm_bif hc (hc none) ?_) (adm_loud hc hcall fun σ => hK _ _)
  cases o.dst with
  | none => exact hc none
  | some d => exact adm_qv hc hcall fun x ob s => adm_bif hc (hK _ _) (hc none)

theorem adm_exD {T : TT} {ops : List Oper} {un : List (List Nat)} : ∀ {l : List (Oper × Nat)} {σ : St} {fs : Fs} {lg : List Ent} {K : ι → St → Option Res}, (∀ x, 𝒫 fun i => K i x) → 𝒫 fun i => exD T (C i) ops un l σ fs lg (K i) := by
  intro l
  induction l with
  | nil => exact fun hK => hK _
  | cons p l ih =>
    obtain ⟨o, q⟩ := p
    intro σ fs lg K hK
    have run : ∀ σ, 𝒫 fun i => exD1 T (C i) ops un q o σ fs lg fun σ fs lg => exD T (C i) ops un l σ fs lg (K i) := fun σ => by
      unfold exD1
      refine adm_bif hc (adm_bif hc ?_ (hc none)) (adm_bif hc (adm_loud hc hcall fun σ => ih hK) (hc none))
      cases o.dst with
      | none => exact hc none
      | some d => exact adm_qv hc hcall fun x ob s => adm_bif hc (ih hK) (hc none)
    have skip : ∀ σ : St, 𝒫 fun i => match o.dst with | some d => exD T (C i) ops un l ⟨σ.sl.set d (.tup []), σ.ob⟩ fs (⟨q, [], [], .tup [], true, false⟩ :: lg) (K i) | none => none := fun σ => by
      cases o.dst with
      | none => exact hc none
      | some d => exact ih hK
    show 𝒫 fun i => exG ops σ o (fun σ => exD1 T (C i) ops un q o σ fs lg fun σ fs lg => exD T (C i) ops un l σ fs lg (K i))
      (fun σ => match o.dst with | some d => exD T (C i) ops un l ⟨σ.sl.set d (.tup []), σ.ob⟩ fs (⟨q, [], [], .tup [], true, false⟩ :: lg) (K i) | none => none)
    unfold exG
    rcases o.guard with _ | ⟨j, want⟩
    · exact run σ
    · simp only
      cases (ops[j]?).bind (·.dst) with
      | none => exact hc none
      | some g => exact adm_bif hc (skip σ) (adm_unB hc fun t => adm_bif hc (adm_bif hc (run _) (skip ⟨σ.sl.set g (.sc (.bool true)), σ.ob⟩)) (adm_bif hc (run _) (skip ⟨σ.sl.set g (.sc (.bool false)), σ.ob⟩)))

theorem adm_exOps {T : TT} {dr : Bool} {all : List Oper} : ∀ {ops : List Oper} {σ : St} {fs : List (Nat × Option Nat)} {K : ι → St → Option Res}, (∀ x, 𝒫 fun i => K i x) → 𝒫 fun i => exOps T (C i) dr all ops σ fs (K i) := by
  intro ops
  induction ops with
  | nil => exact fun hK => hK _
  | cons o ops ih =>
    intro σ fs K hK
    unfold exOps
    rcases o.guard with _ | ⟨j, want⟩
    · exact adm_exOp hc hcall fun σ fs => ih hK
    · simp only
      cases (all[j]?).bind (·.dst) with
      | none => exact hc none
      | some g =>
        have go : ∀ t : Bool, 𝒫 fun i => bif t == want then exOp T (C i) dr ⟨σ.sl.set g (.sc (.bool t)), σ.ob⟩ fs o (fun σ fs => exOps T (C i) dr all ops σ fs (K i)) else match o.dst with
            | some d => exOps T (C i) dr all ops ⟨(σ.sl.set g (.sc (.bool t))).set d (.tup []), σ.ob⟩ fs (K i)
            | none => none := fun t => by
          refine adm_bif hc (adm_exOp hc hcall fun σ fs => ih hK) ?_
          cases o.dst with
          | none => exact hc none
          | some d => exact ih hK
        refine adm_bif hc ?_ (adm_unB hc fun t => adm_bif hc (go true) (go false))
        cases o.dst with
        | none => exact hc none
        | some d => exact ih hK
end

section
variable {ι : Type} {𝒫 : (ι → Option Res) → Prop}
variable (hc : ∀ o, 𝒫 fun _ => o) {E : ι → Env} (hcall : ∀ f vs (K : ι → Res → Option Res), (∀ r, 𝒫 fun i => K i r) → 𝒫 fun i => ((E i).call f vs).bind (K i))
variable (hloop : ∀ kp b σ (K : ι → Ex → St → Option Res), (∀ e σ, 𝒫 fun i => K i e σ) → 𝒫 fun i => (E i).loop kp b σ (K i))
include hc hcall hloop

theorem adm_exC {T : TT} {kp : Nat → Bool} : ∀ (c : Code) {σ : St} {K : ι → Ex → St → Option Res}, (∀ e σ, 𝒫 fun i => K i e σ) → 𝒫 fun i => exC T (E i) kp c σ (K i) := by
  intro c
  induction c with
  | skip => exact fun hK => hK _ _
  | exit id => exact fun hK => hK _ _
  | ret => exact fun hK => hK _ _
  | seq x y ihx ihy =>
    intro σ K hK
    refine ihx fun e σ => ?_
    cases e with
    | normal => exact ihy hK
    | exit id => exact hK _ _
    | ret => exact hK _ _
  | cond c x y ihx ihy => exact fun hK => adm_unB hc fun t => adm_bif hc (ihx hK) (ihy hK)
  | block id x ih =>
    intro σ K hK
    refine ih fun e σ => ?_
    cases e with
    | normal => exact hK _ _
    | exit i => exact adm_bif hc (hK _ _) (hK _ _)
    | ret => exact hK _ _
  | loop b ih => exact fun hK => hloop _ _ _ _ hK
  | region id ops draw => exact fun hK => adm_bif hc (adm_bif hc (adm_exD hc hcall fun σ => hK _ _) (hc none)) (adm_exOps hc hcall fun σ => hK _ _)
  | _ => exact fun _ => hc none

omit hcall hloop in
theorem adm_init {T : TT} {n : Nat} : ∀ {ts : List TypeId} {args : List V} {i : Nat} {K : ι → List V → List Ob → Option Res}, (∀ sl ob, 𝒫 fun i => K i sl ob) → 𝒫 fun j => init T n args ts i (K j) := by
  intro ts
  induction ts with
  | nil =>
    intro args i K hK
    unfold init
    exact adm_bif hc (hK _ _) (hc none)
  | cons t ts ih =>
    intro args i K hK
    cases args with
    | nil => exact hc none
    | cons a args =>
      unfold init
      cases T.ty t with
      | c s => exact adm_unC hc fun a => ih fun sl ob => hK _ _
      | agg ss => exact adm_unSt hc (ih fun sl ob => hK _ _)
      | p ss => exact adm_unIo hc fun cs => adm_bif hc (ih fun sl ob => hK _ _) (hc none)
      | tup ts => exact hc none

theorem adm_runF {T : TT} {f : FuncId} {args : List V} : 𝒫 fun i => runF T (E i) f args := by
  unfold runF
  cases T.fn f with
  | none => exact hc none
  | some fn =>
    simp only
    cases fn.body with
    | none => exact hc none
    | some c => exact adm_bif hc (adm_init hc fun sl ob => adm_exC hc hcall hloop c fun e σ => hc _) (hc none)
end
end Go.Proofs.YtmddfhjgdhjmkaaDoor.VM
