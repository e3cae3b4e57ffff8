/- The abstract machine's table: checked by computing. -/
import Derived.Test.YtmddfhjgdhjmkaaDoorVMS25
set_option linter.unusedVariables false
set_option linter.unusedSimpArgs false
namespace Go.Proofs.YtmddfhjgdhjmkaaDoor.VM

theorem fnd_mem {α : Type} {l : List (Nat × α)} {a : Nat} {x : α} (h : fnd l a = some x) : (a, x) ∈ l := by
  induction l with
  | nil => cases h
  | cons p l ih =>
    obtain ⟨b, y⟩ := p
    unfold fnd at h
    cases hb : Nat.beq b a with
    | true => rw [hb] at h; cases beq_nat.1 hb; cases h; exact List.mem_cons_self ..
    | false => rw [hb] at h; exact List.mem_cons_of_mem _ (ih h)

def shB (s : Sh) (d : TypeDesc) : Bool :=
  match s, d with
  | .i k, .int k' => decide (k = k')
  | .i _, _ => false
  | .b, .bool => true
  | .b, _ => false
  | .tx, .string => true
  | .tx, _ => false
  | _, _ => true
def rowB : TypeDesc → Bool
  | .struct _ | .array .. => true
  | _ => false
def tyB (P : Program) (t : Nat) (y : Ty) : Bool :=
  match P.underlying t, P.info? t, y with
  | some d, some i, .c s => !rowB d && Nat.beq i.size 1 && shB s d
  | some d, some i, .agg ss => rowB d && Nat.beq i.size ss.length
  | _, _, .p _ => true
  | _, _, .tup _ => true
  | _, _, _ => false
def pairs : List (Nat × Nat) → List (Nat × Nat) → Bool
  | [], [] => true
  | (a, b) :: l, (c, d) :: l' => Nat.beq a c && Nat.beq b d && pairs l l'
  | _, _ => false
def offB (P : Program) (t : Nat) (l : List (Nat × Nat)) : Bool :=
  match P.underlying t with
  | some (.struct fs) => (match fs.toList.mapM (fun f => (P.info? f.type).map fun i => (f.offset, i.size)) with | some l' => pairs l' l | none => false) && l.all fun p => Nat.blt 0 p.2
  | _ => false
def elB (P : Program) (t : Nat) (p : Nat × Nat) : Bool :=
  match P.underlying t, P.info? p.1 with
  | some (.slice e), some i => Nat.beq e p.1 && Nat.beq i.size p.2 && Nat.blt 0 p.2
  | _, _ => false
def arrB (P : Program) (t : Nat) (p : Nat × Nat) : Bool :=
  match P.underlying t with
  | some (.array n e) => match P.info? e with | some i => Nat.beq n p.1 && Nat.beq i.size p.2 | none => false
  | _ => false
def eszB (P : Program) (e : Nat) (b : Nat) : Bool :=
  match P.info? e with
  | some i => Nat.beq i.bytes b && Nat.blt 0 b
  | none => false
def u8B (P : Program) (s : Nat) : Bool :=
  match P.underlying s with
  | some (.slice e) => match P.underlying e with | some (.int .u8) => true | _ => false
  | _ => false
def notDead : V → Bool
  | .dead => false
  | _ => true
def isU : V → Bool
  | .sc (.int ..) | .sc (.bool _) | .sc (.string _) | .nil => true
  | _ => false
/-- what cannot be computed alone: the functions, the zero values -/
def FnOk (P : Program) : List (Nat × Func) → Prop
  | [] => True
  | (f, fn) :: l => (P.funcs[f]? = some fn ∧ (fn.name == "runtime.NumGoroutine") = false) ∧ FnOk P l
def ZeroOk (P : Program) : List (Nat × List V) → Prop
  | [] => True
  | (t, cs) :: l => ((P.info? t).bind (·.zero)).map (fun v => v.cells.toList.map constC) = some cs ∧ (P.info? t).map (·.size) = some cs.length ∧ cs.all notDead = true ∧ ZeroOk P l

theorem pairs_eq : ∀ {l l' : List (Nat × Nat)}, pairs l l' = true → l = l'
  | [], [], _ => rfl
  | (a, b) :: l, (c, d) :: l', h => by
    unfold pairs at h
    simp only [Bool.and_eq_true] at h
    rw [beq_nat.1 h.1.1, beq_nat.1 h.1.2, pairs_eq h.2]
  | [], _ :: _, h => by cases h
  | _ :: _, [], h => by cases h

theorem rowB_eq (d : TypeDesc) : rowB d = d.isRow := by cases d <;> rfl

theorem tok {P : Program} {T : TT} (hm : P.follows .mixedOrders = true) (hf : FnOk P T.fnL) (hty : T.tyL.all (fun p => tyB P p.1 p.2) = true) (hoff : T.offL.all (fun p => offB P p.1 p.2) = true)
    (hel : T.elL.all (fun p => elB P p.1 p.2) = true) (harr : T.arrL.all (fun p => arrB P p.1 p.2) = true) (hz : ZeroOk P T.zeroL) (hes : T.eszL.all (fun p => eszB P p.1 p.2) = true) (hu : T.u8L.all (u8B P) = true) : TOk P T where
  mixed := hm
  fn := fun f fn h => by
    have hmem := fnd_mem h
    revert hmem
    generalize T.fnL = l at hf
    intro hmem
    induction l with
    | nil => cases hmem
    | cons p l ih =>
      obtain ⟨g, gn⟩ := p
      rcases List.mem_cons.1 hmem with e | hmem
      · cases e; exact hf.1
      · exact ih hf.2 hmem
  tyc := fun t s h => by
    unfold TT.ty at h
    split at h
    · rename_i y hy
      subst h
      have h1 := List.all_eq_true.1 hty _ (fnd_mem hy)
      unfold tyB at h1
      split at h1 <;> first
        | (rename_i d i s' e1 e2 e3; cases e3
           simp only [Bool.and_eq_true, Bool.not_eq_true'] at h1
           refine ⟨d, i, e1, by rw [← rowB_eq]; exact h1.1.1, e2, beq_nat.1 h1.1.2, ?_⟩
           have h2 := h1.2
           cases s <;> cases d <;> simp_all [shB, ShOk])
        | (rename_i e; cases e; done)
        | (rename_i a b c e1 e2 e3; cases e3; done)
        | (cases h1; done)
        | (simp_all; done)
    · cases h
  tya := fun t ss h => by
    unfold TT.ty at h
    split at h
    · rename_i y hy
      subst h
      have h1 := List.all_eq_true.1 hty _ (fnd_mem hy)
      unfold tyB at h1
      cases e1 : P.underlying t with
      | none => simp [e1] at h1
      | some d =>
        cases e2 : P.info? t with
        | none => simp [e1, e2] at h1
        | some i =>
          simp only [e1, e2, Bool.and_eq_true] at h1
          exact ⟨d, i, rfl, by rw [← rowB_eq]; exact h1.1, rfl, beq_nat.1 h1.2⟩
    · cases h
  off := fun t l h => by
    have h1 := List.all_eq_true.1 hoff _ (fnd_mem h)
    unfold offB at h1
    split at h1
    · rename_i fs e
      simp only [Bool.and_eq_true] at h1
      refine ⟨fs, e, ?_⟩
      have h2 := h1.1
      split at h2
      · rename_i l' e2; rw [e2, pairs_eq h2]
      · cases h2
    · cases h1
  offz := fun t f o z h => by
    unfold TT.off at h
    split at h
    · rename_i l hl
      have h1 := List.all_eq_true.1 hoff _ (fnd_mem hl)
      unfold offB at h1
      split at h1
      · rename_i fs e
        simp only [Bool.and_eq_true] at h1
        have h2 := h1.1
        split at h2
        · rename_i l' e2
          have e3 := pairs_eq h2
          subst e3
          have hz0 : 0 < z := by
            have := List.all_eq_true.1 h1.2 _ (List.mem_of_getElem? h)
            simpa [Nat.blt_eq] using this
          have key : ∀ (fl : List Field) (l' : List (Nat × Nat)) (f : Nat), fl.mapM (fun f => (P.info? f.type).map fun i => (f.offset, i.size)) = some l' → l'[f]? = some (o, z) → ∃ fd i, fl[f]? = some fd ∧ fd.offset = o ∧ P.info? fd.type = some i ∧ i.size = z := by
            intro fl
            induction fl with
            | nil => intro l' f e h; simp at e; subst e; simp at h
            | cons x fl ih =>
              intro l' f e h
              simp only [List.mapM_cons, Option.bind_eq_bind, Option.pure_def] at e
              cases hi : P.info? x.type with
              | none => simp [hi] at e
              | some i =>
                cases hr : fl.mapM (fun f => (P.info? f.type).map fun i => (f.offset, i.size)) with
                | none => simp [hi, hr] at e
                | some rest =>
                  simp [hi, hr] at e
                  subst e
                  cases f with
                  | zero => simp at h; exact ⟨x, i, rfl, h.1, hi, h.2⟩
                  | succ f =>
                    obtain ⟨fd, i', g1, g2⟩ := ih rest f hr (by simpa using h)
                    exact ⟨fd, i', by simpa using g1, g2⟩
          obtain ⟨fd, i, g1, g2, g3, g4⟩ := key _ _ f e2 h
          exact ⟨fs, fd, i, e, by rw [← Array.getElem?_toList]; exact g1, g2, g3, g4, hz0⟩
        · cases h2
      · cases h1
    · cases h
  el := fun t e z h => by
    have h1 := List.all_eq_true.1 hel _ (fnd_mem h)
    unfold elB at h1
    split at h1
    · rename_i e' i e1 e2
      simp only [Bool.and_eq_true] at h1
      have := beq_nat.1 h1.1.1
      simp only at this e2 h1
      subst this
      exact ⟨i, e1, e2, beq_nat.1 h1.1.2, by have := h1.2; rw [Nat.blt_eq] at this; exact this⟩
    · cases h1
  arr := fun t n z h => by
    have h1 := List.all_eq_true.1 harr _ (fnd_mem h)
    unfold arrB at h1
    split at h1
    · rename_i n' e e1
      split at h1
      · rename_i i e2
        simp only [Bool.and_eq_true] at h1
        have h3 : n' = n := beq_nat.1 h1.1
        subst h3
        exact ⟨e, i, e1, e2, beq_nat.1 h1.2⟩
      · cases h1
    · cases h1
  zero := fun t cs h => by
    have hmem := fnd_mem h
    revert hmem
    generalize T.zeroL = l at hz
    intro hmem
    induction l with
    | nil => cases hmem
    | cons p l ih =>
      obtain ⟨g, gs⟩ := p
      obtain ⟨h1, h2, h3, h4⟩ := hz
      rcases List.mem_cons.1 hmem with e | hmem
      · cases e
        cases hi : P.info? t with
        | none => rw [hi] at h1; cases h1
        | some i =>
          rw [hi] at h1 h2
          cases hv : i.zero with
          | none => simp [hv] at h1
          | some v =>
            simp [hv] at h1 h2
            exact ⟨i, v, rfl, hv, by simpa using h1, fun c hc e => (by have := List.all_eq_true.1 h3 c hc; rw [e] at this; cases this), h2⟩
      · exact ih h4 hmem
  esz := fun e b h => by
    have h1 := List.all_eq_true.1 hes _ (fnd_mem h)
    unfold eszB at h1
    split at h1
    · rename_i i e1
      simp only [Bool.and_eq_true] at h1
      exact ⟨i, e1, beq_nat.1 h1.1, by have := h1.2; rw [Nat.blt_eq] at this; exact this⟩
    · cases h1
  u8 := fun s h => by
    have h1 := List.all_eq_true.1 hu s (memN_iff.1 h)
    unfold u8B at h1
    split at h1
    · rename_i e e1
      split at h1
      · rename_i e2; exact ⟨e, e1, e2⟩
      · cases h1
    · cases h1
end Go.Proofs.YtmddfhjgdhjmkaaDoor.VM
