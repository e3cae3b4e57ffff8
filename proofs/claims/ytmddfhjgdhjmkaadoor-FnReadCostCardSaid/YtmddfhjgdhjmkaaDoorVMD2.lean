/- The abstract machine without fuel: the limit of the machine with fuel; its equations. -/
import Derived.Test.YtmddfhjgdhjmkaaDoorVMD1
set_option linter.unusedVariables false
set_option linter.unusedSimpArgs false
namespace Go.Proofs.YtmddfhjgdhjmkaaDoor.VM

section
variable {α β : Type}
noncomputable def lim (F : Nat → Option α) : Option α :=
  open Classical in if h : ∃ r, ∃ n, F n = some r then some (Classical.choose h) else none
theorem lim_some {F : Nat → Option α} (hm : ∀ n r, F n = some r → F (n + 1) = some r) (r : α) : lim F = some r ↔ ∃ n, F n = some r := by
  have hle : ∀ n m r, n ≤ m → F n = some r → F m = some r := by
    intro n m r h
    induction h with
    | refl => exact id
    | step _ ih => exact fun e => hm _ _ (ih e)
  have huniq : ∀ n m r r', F n = some r → F m = some r' → r = r' := by
    intro n m r r' h h'
    have h1 := hle n (max n m) r (Nat.le_max_left ..) h
    have h2 := hle m (max n m) r' (Nat.le_max_right ..) h'
    rw [h1] at h2
    exact Option.some.inj h2
  unfold lim
  by_cases h : ∃ r, ∃ n, F n = some r
  · rw [dif_pos h]
    obtain ⟨n, hn⟩ := Classical.choose_spec h
    constructor
    · intro e
      rw [← Option.some.inj e]
      exact ⟨n, hn⟩
    · rintro ⟨m, hm⟩
      rw [huniq n m _ _ hn hm]
  · rw [dif_neg h]
    constructor
    · intro e; cases e
    · rintro ⟨n, hn⟩; exact absurd ⟨_, n, hn⟩ h

/-- grows, and none is its limit -/
def LL (F : Option Nat → Option α) : Prop := (∀ n r, F (some n) = some r → F (some (n + 1)) = some r) ∧ ∀ r, F none = some r ↔ ∃ n, F (some n) = some r
theorem LL.le {F : Option Nat → Option α} (h : LL F) {n m : Nat} {r : α} (hnm : n ≤ m) : F (some n) = some r → F (some m) = some r := by
  induction hnm with
  | refl => exact id
  | step _ ih => exact fun e => h.1 _ _ (ih e)
theorem LL_const (o : Option α) : LL fun _ => o := ⟨fun _ _ h => h, fun _ => ⟨fun h => ⟨0, h⟩, fun ⟨_, h⟩ => h⟩⟩
theorem LL_bind {C : Option Nat → Option α} {K : Option Nat → α → Option β} (hC : LL C) (hK : ∀ r, LL fun i => K i r) : LL fun i => (C i).bind (K i) := by
  refine ⟨fun n r h => ?_, fun r => ⟨fun h => ?_, fun ⟨n, h⟩ => ?_⟩⟩
  · obtain ⟨x, hx, hk⟩ := Option.bind_eq_some_iff.1 h
    exact Option.bind_eq_some_iff.2 ⟨x, hC.1 _ _ hx, (hK x).1 _ _ hk⟩
  · obtain ⟨x, hx, hk⟩ := Option.bind_eq_some_iff.1 h
    obtain ⟨n, hn⟩ := (hC.2 x).1 hx
    obtain ⟨m, hm⟩ := ((hK x).2 r).1 hk
    exact ⟨max n m, Option.bind_eq_some_iff.2 ⟨x, hC.le (Nat.le_max_left ..) hn, (hK x).le (Nat.le_max_right ..) hm⟩⟩
  · obtain ⟨x, hx, hk⟩ := Option.bind_eq_some_iff.1 h
    exact Option.bind_eq_some_iff.2 ⟨x, (hC.2 x).2 ⟨n, hx⟩, ((hK x).2 r).2 ⟨n, hk⟩⟩
end

section
variable {T : TT}
theorem exE_mono : ∀ n, (∀ f vs r, (exE T n).call f vs = some r → (exE T (n + 1)).call f vs = some r) ∧
    (∀ kp b σ (K K' : Ex → St → Option Res), (∀ e σ r, K e σ = some r → K' e σ = some r) → ∀ r, (exE T n).loop kp b σ K = some r → (exE T (n + 1)).loop kp b σ K' = some r) := by
  intro n
  induction n with
  | zero => exact ⟨fun f vs r h => (nomatch h), fun kp b σ K K' hK r h => (nomatch h)⟩
  | succ n ih =>
    let 𝒫 : (Bool → Option Res) → Prop := fun F => ∀ r, F false = some r → F true = some r
    let E : Bool → Env := fun b => bif b then exE T (n + 1) else exE T n
    have hc : ∀ o, 𝒫 fun _ => o := fun o r h => h
    have hcall : ∀ f vs (K : Bool → Res → Option Res), (∀ r, 𝒫 fun i => K i r) → 𝒫 fun i => ((E i).call f vs).bind (K i) := fun f vs K hK r h => by
      obtain ⟨x, hx, hk⟩ := Option.bind_eq_some_iff.1 h
      exact Option.bind_eq_some_iff.2 ⟨x, ih.1 _ _ _ hx, hK x _ hk⟩
    have hloop : ∀ kp b σ (K : Bool → Ex → St → Option Res), (∀ e σ, 𝒫 fun i => K i e σ) → 𝒫 fun i => (E i).loop kp b σ (K i) := fun kp b σ K hK r h => ih.2 _ _ _ _ _ (fun e σ => hK e σ) r h
    refine ⟨fun f vs r h => adm_runF (𝒫 := 𝒫) (E := E) hc hcall hloop r h, fun kp b σ K K' hK r h => ?_⟩
    refine adm_exC (𝒫 := 𝒫) (E := E) (K := fun i e σ => match e with | .normal => (E i).loop kp b (lpClean kp b σ) (bif i then K' else K) | e => (bif i then K' else K) e σ) hc hcall hloop b (fun e σ => ?_) r h
    cases e with
    | normal => exact hloop _ _ _ (fun i => bif i then K' else K) fun e σ => hK e σ
    | exit id => exact hK _ _
    | ret => exact hK _ _

/-- the machine without fuel -/
noncomputable def D (T : TT) : Env := ⟨fun f vs => lim fun n => (exE T n).call f vs, fun kp b σ K => lim fun n => (exE T n).loop kp b σ K⟩
noncomputable def EE (T : TT) : Option Nat → Env
  | none => D T
  | some n => exE T n

theorem call_LL (f : FuncId) (vs : List V) : LL fun i => (EE T i).call f vs := ⟨fun n => (exE_mono n).1 f vs, lim_some fun n => (exE_mono n).1 f vs⟩
theorem loopK {ι : Type} {𝒫 : (ι → Option Res) → Prop} (hc : ∀ o, 𝒫 fun _ => o) {kp : Nat → Bool} {b : Code} : ∀ n {σ : St} {K : ι → Ex → St → Option Res}, (∀ e σ, 𝒫 fun i => K i e σ) → 𝒫 fun i => (exE T n).loop kp b σ (K i) := by
  intro n
  have key : ∀ n (kp : Nat → Bool) (b : Code) (σ : St) (K : ι → Ex → St → Option Res), (∀ e σ, 𝒫 fun i => K i e σ) → 𝒫 fun i => (exE T n).loop kp b σ (K i) := by
    intro n
    induction n with
    | zero => exact fun _ _ _ _ _ => hc none
    | succ n ih =>
      intro kp b σ K hK
      refine adm_exC (E := fun _ => exE T n) (K := fun i e σ => match e with | .normal => (exE T n).loop kp b (lpClean kp b σ) (K i) | e => K i e σ) hc (fun f vs K hK => adm_bind hc _ hK) ih b fun e σ => ?_
      cases e with
      | normal => exact ih _ _ _ _ hK
      | exit id => exact hK _ _
      | ret => exact hK _ _
  exact fun {σ K} hK => key n kp b σ K hK
theorem loop_up {kp : Nat → Bool} {b : Code} {σ : St} {K : Ex → St → Option Res} {r : Res} {n m : Nat} (h : n ≤ m) : (exE T n).loop kp b σ K = some r → (exE T m).loop kp b σ K = some r := by
  induction h with
  | refl => exact id
  | step _ ih => exact fun e => (exE_mono _).2 _ _ _ _ _ (fun _ _ _ h => h) _ (ih e)
theorem loop_lim {kp : Nat → Bool} {b : Code} {σ : St} {K : Ex → St → Option Res} {r : Res} : (D T).loop kp b σ K = some r ↔ ∃ n, (exE T n).loop kp b σ K = some r :=
  lim_some (fun n r h => loop_up (Nat.le_succ n) h) r
theorem loop_LL (kp : Nat → Bool) (b : Code) (σ : St) (K : Option Nat → Ex → St → Option Res) (hK : ∀ e σ, LL fun i => K i e σ) : LL fun i => (EE T i).loop kp b σ (K i) := by
  refine ⟨fun n r h => (exE_mono n).2 _ _ _ _ _ (fun e σ => (hK e σ).1 n) r h, fun r => ⟨fun h => ?_, fun ⟨n, h⟩ => ?_⟩⟩
  · obtain ⟨n, hn⟩ := loop_lim.1 h
    have h1 := loopK (T := T) (𝒫 := LL) LL_const (kp := kp) (b := b) n (σ := σ) hK
    obtain ⟨m, hm⟩ := (h1.2 r).1 hn
    exact ⟨max n m, loop_up (Nat.le_max_left ..) (h1.le (Nat.le_max_right ..) hm)⟩
  · have h1 := loopK (T := T) (𝒫 := LL) LL_const (kp := kp) (b := b) n (σ := σ) hK
    exact loop_lim.2 ⟨n, (h1.2 r).2 ⟨n, h⟩⟩
theorem callB_LL (f : FuncId) (vs : List V) (K : Option Nat → Res → Option Res) (hK : ∀ r, LL fun i => K i r) : LL fun i => ((EE T i).call f vs).bind (K i) := LL_bind (call_LL f vs) hK

theorem den_eq (f : FuncId) (args : List V) : (D T).call f args = runF T (D T) f args := by
  have h : LL fun i => runF T (EE T i) f args := adm_runF LL_const callB_LL loop_LL
  apply Option.ext
  intro r
  show (D T).call f args = some r ↔ runF T (D T) f args = some r
  rw [show (D T).call f args = some r ↔ _ from (call_LL (T := T) f args).2 r, show runF T (D T) f args = some r ↔ _ from h.2 r]
  constructor
  · rintro ⟨n, hn⟩
    cases n with
    | zero => cases hn
    | succ n => exact ⟨n, hn⟩
  · rintro ⟨n, hn⟩
    exact ⟨n + 1, hn⟩
theorem loop_eq (kp : Nat → Bool) (b : Code) (σ : St) (K : Ex → St → Option Res) :
    (D T).loop kp b σ K = exC T (D T) kp b σ fun e σ => match e with | .normal => (D T).loop kp b (lpClean kp b σ) K | e => K e σ := by
  have h : LL fun i => exC T (EE T i) kp b σ fun e σ => match e with | .normal => (EE T i).loop kp b (lpClean kp b σ) K | e => K e σ := by
    refine adm_exC (K := fun i e σ => match e with | .normal => (EE T i).loop kp b (lpClean kp b σ) K | e => K e σ) LL_const callB_LL loop_LL b fun e σ => ?_
    cases e with
    | normal => exact loop_LL _ _ _ (fun _ => K) fun e σ => LL_const _
    | exit id => exact LL_const _
    | ret => exact LL_const _
  apply Option.ext
  intro r
  refine loop_lim.trans (Iff.trans ?_ (h.2 r).symm)
  constructor
  · rintro ⟨n, hn⟩
    cases n with
    | zero => cases hn
    | succ n => exact ⟨n, hn⟩
  · rintro ⟨n, hn⟩
    exact ⟨n + 1, hn⟩
theorem den_ok {P : Program} (hT : TOk P T) : CallOk P T.globL (D T).call where
  fn := fun f vs r h => by
    obtain ⟨n, hn⟩ := ((call_LL (T := T) f vs).2 r).1 h
    exact (ev_ok hT n).fn f vs r hn
  ok := fun f vs r h => by
    obtain ⟨n, hn⟩ := ((call_LL (T := T) f vs).2 r).1 h
    exact (ev_ok hT n).ok f vs r hn
end

/-! ### places in a function's code, with what follows -/
inductive Dr where
  | l | r | t | f | b | o
def plc (T : TT) (E : Env) (kp : Nat → Bool) : List Dr → Code → (Ex → St → Option Res) → Option (Code × (Ex → St → Option Res))
  | [], c, K => some (c, K)
  | .l :: p, .seq a b, K => plc T E kp p a fun e σ => match e with
    | .normal => exC T E kp b σ K
    | e => K e σ
  | .r :: p, .seq _ b, K => plc T E kp p b K
  | .t :: p, .cond _ a _, K => plc T E kp p a K
  | .f :: p, .cond _ _ b, K => plc T E kp p b K
  | .b :: p, .block id b, K => plc T E kp p b fun e σ => match e with
    | .exit i => bif Nat.beq i id then K .normal σ else K (.exit i) σ
    | e => K e σ
  | .o :: p, .loop b, K => plc T E kp p b fun e σ => match e with
    | .normal => E.loop kp b (lpClean kp b σ) K
    | e => K e σ
  | _, _, _ => none
/-- a place of f's body -/
def plF (T : TT) (E : Env) (f : FuncId) (p : List Dr) : Option (Code × (Ex → St → Option Res)) :=
  match T.fn f with
  | some fn => match fn.body with
    | some c => plc T E (T.keep f) p c (kret T fn)
    | none => none
  | none => none
/-- the loop at a place of f's body, from a round's head on -/
def lpF (T : TT) (E : Env) (f : FuncId) (p : List Dr) (σ : St) : Option Res :=
  match plF T E f p with
  | some (.loop b, K) => E.loop (T.keep f) b σ K
  | _ => none
/-- the same, its first round begun -/
def lpG (T : TT) (E : Env) (f : FuncId) (p : List Dr) (σ : St) : Option Res :=
  match plF T E f p with
  | some (.loop b, K) => exC T E (T.keep f) b σ fun e σ => match e with
    | .normal => E.loop (T.keep f) b (lpClean (T.keep f) b σ) K
    | e => K e σ
  | _ => none
theorem lpF_eq {T : TT} (f : FuncId) (p : List Dr) (σ : St) : lpF T (D T) f p σ = lpG T (D T) f p σ := by
  unfold lpF lpG
  split
  · exact loop_eq _ _ _ _
  · rfl
end Go.Proofs.YtmddfhjgdhjmkaaDoor.VM
