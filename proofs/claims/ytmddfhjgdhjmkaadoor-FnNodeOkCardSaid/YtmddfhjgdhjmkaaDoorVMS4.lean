/- The abstract machine and the memory: the quiet operations. -/
import Derived.Test.YtmddfhjgdhjmkaaDoorVMS3
set_option linter.unusedVariables false
set_option linter.unusedSimpArgs false
namespace Go.Proofs.YtmddfhjgdhjmkaaDoor.VM
open Go.RowKit

/-- what a shape says of a type -/
def ShOk (sh : Sh) (d : TypeDesc) : Prop :=
  match sh with
  | .i k => d = .int k
  | .b => d = .bool
  | .tx => d = .string
  | _ => True
def zc (v : Value) : V := constC v

/-- the table tells the truth -/
structure TOk (P : Program) (T : TT) : Prop where
  mixed : P.follows .mixedOrders = true
  fn : ∀ f fn, T.fn f = some fn → P.funcs[f]? = some fn ∧ (fn.name == "runtime.NumGoroutine") = false
  tyc : ∀ t s, T.ty t = .c s → ∃ d i, P.underlying t = some d ∧ d.isRow = false ∧ P.info? t = some i ∧ i.size = 1 ∧ ShOk s d
  tya : ∀ t ss, T.ty t = .agg ss → ∃ d i, P.underlying t = some d ∧ d.isRow = true ∧ P.info? t = some i ∧ i.size = ss.length
  off : ∀ t l, fnd T.offL t = some l → ∃ fs, P.underlying t = some (.struct fs) ∧ fs.toList.mapM (fun f => (P.info? f.type).map fun i => (f.offset, i.size)) = some l
  offz : ∀ t f o z, T.off t f = some (o, z) → ∃ fs fd i, P.underlying t = some (.struct fs) ∧ fs[f]? = some fd ∧ fd.offset = o ∧ P.info? fd.type = some i ∧ i.size = z ∧ 0 < z
  el : ∀ t e z, T.el t = some (e, z) → ∃ i, P.underlying t = some (.slice e) ∧ P.info? e = some i ∧ i.size = z ∧ 0 < z
  arr : ∀ t n z, T.arr t = some (n, z) → ∃ e i, P.underlying t = some (.array n e) ∧ P.info? e = some i ∧ i.size = z
  zero : ∀ t cs, T.zero t = some cs → ∃ i v, P.info? t = some i ∧ i.zero = some v ∧ v.cells.toList.map constC = cs ∧ (∀ c ∈ cs, c ≠ .dead) ∧ i.size = cs.length
  esz : ∀ e b, T.esz e = some b → ∃ i, P.info? e = some i ∧ i.bytes = b ∧ 0 < b
  u8 : ∀ s, memN T.u8L s = true → ∃ e, P.underlying s = some (.slice e) ∧ P.underlying e = some (.int .u8)

section
variable {P : Program} {T : TT} {U : Nat → Prop} {w0 w : World} {F0 : Fr} {σ : St} {a : Act} {ow : Own} {R : Type} {r : R}

theorem constC_fr {A : Nat → Prop} (v : Value) (h : constC v ≠ .dead) : isC (constC v) ∧ FR w A [v] (constC v) := by
  unfold constC at *
  split at h
  · exact ⟨trivial, .nil⟩
  · exact absurd rfl h
  · exact absurd rfl h
  · rename_i h1 h2 h3
    exact ⟨trivial, .sc (by cases v <;> first | rfl | exact absurd rfl (h2 _) | exact absurd rfl (h3 _))⟩
theorem constC_sc {A : Nat → Prop} {ob : List Ob} (v : Value) : SC w A ow ob v (constC v) := by
  by_cases h : constC v = .dead
  · rw [h]; trivial
  · obtain ⟨h1, h2⟩ := constC_fr (w := w) (A := A) v h
    rw [h1.sc]; exact h2

theorem constC_sr {A : Nat → Prop} {ob : List Ob} (v : Value) : SR w A ow ob v (constC v) := by
  by_cases h : constC v = .dead
  · rw [h]; trivial
  · obtain ⟨h1, h2⟩ := constC_fr (w := w) (A := A) v h
    rw [h1.sr]; exact h2

theorem val_sr (h : Sim T.globL U w0 F0 σ a w ow) (x : Operand) : SR w (Fz U w ow σ.ob) ow σ.ob (a.eval x) (val T σ x) := by
  cases x with
  | tmp t => exact h.slots t
  | const v =>
    show SR _ _ _ _ v (constV v)
    cases v with
    | agg cs =>
      refine ⟨cs, rfl, by simp [constV], fun j u y hu hy => ?_⟩
      simp only [List.getElem?_map, Array.getElem?_toList, hu, Option.map_some, Option.some.injEq] at hy
      subst hy
      exact constC_sc u
    | _ => exact constC_sr _
  | global g =>
    show SR _ _ _ _ (.pointer (some ⟨g, 0, none⟩)) (match T.glob g with | some x => .rp x 0 | none => .dead)
    cases hg : T.glob g with
    | none => trivial
    | some x =>
      obtain ⟨h1, ecs, h2, h3⟩ := h.gl g x hg
      exact .rp (b := g) (o := 0) (j := 0) h1 h2 h3
  | func f => exact .sc rfl

/-- the operation yields, and the state goes on so -/
def Done (P : Program) (GL : List (Nat × V)) (U : Nat → Prop) (w0 : World) (F0 : Fr) (a : Act) (w : World) (o : Oper) (d : Nat) (σ' : St) : Prop :=
  ∃ u w' ow', (execOp a.eval o).run P w = .ok (.value u) w' ∧ Sim GL U w0 F0 σ' (a.put (some d) u) w' ow'

/-- no object is made, nothing frozen -/
theorem done_plain {o : Oper} {d : Nat} {x : V} {u : Value} (h : Sim T.globL U w0 F0 σ a w ow) (hr : (execOp a.eval o).run P w = .ok (.value u) w)
    (hv : SR w (Fz U w ow σ.ob) ow σ.ob u x) : Done P T.globL U w0 F0 a w o d (putQ σ d x .none []) :=
  ⟨u, w, ow, hr, h.put d fun _ => hv⟩

theorem exec_move {o : Oper} {x : Operand} (ho : o.op = .move x) : (execOp a.eval o).run P w = .ok (.value (a.eval x)) w := by simp [execOp, ho]
theorem exec_load {o : Oper} {t : TypeId} {x : Operand} {u : Value} {w' : World} (ho : o.op = .load t x) (hr : (Instr.loadAt t (a.eval x)).run P w = .ok u w') : (execOp a.eval o).run P w = .ok (.value u) w' := by simp [execOp, ho, hr]
theorem exec_alloc {o : Oper} {t : TypeId} {u : Value} {w' : World} (ho : o.op = .alloc t) (hr : (Instr.alloc t true (.tuple #[])).run P w = .ok u w') : (execOp a.eval o).run P w = .ok (.value u) w' := by simp [execOp, ho, hr]
theorem exec_box {o : Oper} {t : TypeId} {x : Operand} {u : Value} {w' : World} (ho : o.op = .box t x) (hr : (Instr.box t (a.eval x)).run P w = .ok u w') : (execOp a.eval o).run P w = .ok (.value u) w' := by simp [execOp, ho, hr]
theorem exec_fieldAddr {o : Oper} {t : TypeId} {x : Operand} {f : Nat} {u : Value} {w' : World} (ho : o.op = .fieldAddr t x f) (hr : (Instr.fieldAt t (a.eval x) f).run P w = .ok u w') : (execOp a.eval o).run P w = .ok (.value u) w' := by simp [execOp, ho, hr]
theorem exec_indexAddr {o : Oper} {t : TypeId} {x i : Operand} {u : Value} {w' : World} (ho : o.op = .indexAddr t x i) (hr : (Instr.indexAt t (a.eval x) (a.eval i)).run P w = .ok u w') : (execOp a.eval o).run P w = .ok (.value u) w' := by simp [execOp, ho, hr]
theorem exec_index {o : Oper} {t : TypeId} {x i : Operand} {u : Value} {w' : World} (ho : o.op = .index t x i) (hr : (Instr.index t (a.eval x) (a.eval i)).run P w = .ok u w') : (execOp a.eval o).run P w = .ok (.value u) w' := by simp [execOp, ho, hr]
theorem exec_binOp {o : Oper} {op : BinOp} {t t' : TypeId} {x y : Operand} {u : Value} {w' : World} (ho : o.op = .binOp op t x y t')
    (hr : ((eqGuard op t x y (a.eval x) (a.eval y)).run P w = .ok () w) ∧ (binOp op t (a.eval x) (a.eval y)).run P w = .ok u w') : (execOp a.eval o).run P w = .ok (.value u) w' := by simp [execOp, ho, hr.1, hr.2]
theorem exec_unOp {o : Oper} {op : UnOp} {t : TypeId} {x : Operand} {u : Value} {w' : World} (ho : o.op = .unOp op t x) (hr : (Op.unary op (a.eval x)).run P w = .ok u w') : (execOp a.eval o).run P w = .ok (.value u) w' := by simp [execOp, ho, hr]
theorem exec_convert {o : Oper} {s t : TypeId} {x : Operand} {u : Value} {w' : World} (ho : o.op = .convert s t x) (hr : (convert s t (a.eval x)).run P w = .ok u w') : (execOp a.eval o).run P w = .ok (.value u) w' := by simp [execOp, ho, hr]
theorem exec_extract {o : Oper} {x : Operand} {i : Nat} {u : Value} {w' : World} (ho : o.op = .extract x i) (hr : (Instr.extract (a.eval x) i).run P w = .ok u w') : (execOp a.eval o).run P w = .ok (.value u) w' := by simp [execOp, ho, hr]
theorem exec_makeSlice {o : Oper} {t : TypeId} {l c : Operand} {u : Value} {w' : World} (ho : o.op = .makeSlice t l c) (hr : (Instr.makeSlice t (a.eval l) (a.eval c)).run P w = .ok u w') : (execOp a.eval o).run P w = .ok (.value u) w' := by simp [execOp, ho, hr]
theorem exec_makeFunc {o : Oper} {f : Fn} {fs cs : Array Operand} (ho : o.op = .makeFunc f fs cs) : (execOp a.eval o).run P w = .ok (.value (.func f (fs.map a.eval) (cs.map a.eval))) w := by simp [execOp, ho, Instr.makeFunc]
theorem exec_slice {o : Oper} {t : TypeId} {x : Operand} {lo hi mx : Option Operand} {u : Value} {w' : World} (ho : o.op = .slice t x lo hi mx)
    (hr : (Instr.sliceAt t (a.eval x) (lo.map a.eval) (hi.map a.eval) (mx.map a.eval)).run P w = .ok u w') : (execOp a.eval o).run P w = .ok (.value u) w' := by simp [execOp, ho, hr]
theorem exec_build {o : Oper} {t : TypeId} {ps : Array (Nat × Operand)} {u : Value} {w' : World} (ho : o.op = .build t ps) (hr : (Instr.build t (ps.map fun (i, x) => (i, a.eval x))).run P w = .ok u w') : (execOp a.eval o).run P w = .ok (.value u) w' := by simp [execOp, ho, hr]
theorem exec_buildSlice {o : Oper} {t : TypeId} {n : Nat} {ps : Array (Nat × Operand)} {u : Value} {w' : World} (ho : o.op = .buildSlice t n ps) (hr : (Instr.buildSlice t n (ps.map fun (i, x) => (i, a.eval x))).run P w = .ok u w') : (execOp a.eval o).run P w = .ok (.value u) w' := by simp [execOp, ho, hr]
theorem exec_pick {o : Oper} {c x y : Operand} {b : Bool} (ho : o.op = .pick c x y) (hb : a.eval c = .bool b) : (execOp a.eval o).run P w = .ok (.value (if b then a.eval x else a.eval y)) w := by simp [execOp, ho, hb, asBool]
theorem exec_builtin {o : Oper} {b : Builtin} {args : Array Operand} {ts : Array TypeId} {u : Value} {w' : World} (ho : o.op = .call { callee := .builtin b, args, argTypes := ts })
    (hr : (builtin b ts o.type (args.map fun | .const _ => true | _ => false) (args.map a.eval)).run P w = .ok (.value u) w') : (execOp a.eval o).run P w = .ok (.value u) w' := by
  simp only [execOp, ho, resolve, Sem.run_bind, Sem.run_pure, Result.andThen_ok]
  exact hr

/-! ### new objects -/
theorem freeze_none : ∀ (s : List (Nat × Option Nat)) {ob : List Ob} {d : Nat}, ob.getD d .none = .none → (freeze ob s).getD d .none = .none
  | [], ob, d, h => h
  | (k, c) :: s, ob, d, h => by
    refine freeze_none s ?_
    unfold frz1
    rw [getD_set_ob]
    split
    · rename_i hh
      obtain ⟨rfl, _⟩ := hh
      rw [h]
      cases c <;> rfl
    · exact h
theorem freeze_length : ∀ (s : List (Nat × Option Nat)) (ob : List Ob), (freeze ob s).length = ob.length
  | [], _ => rfl
  | (k, c) :: s, ob => by
    show (freeze (frz1 ob k c) s).length = _
    rw [freeze_length s]
    simp [frz1]

theorem ext_alloc (w : World) (o : Obj) : Ext w (w.alloc o) (fun _ => False) :=
  ⟨rfl, rfl, rfl, by simp, fun b hb _ => Below.heap_alloc w o b hb⟩
theorem th_alloc (w : World) (arr : Array Value) (e : TypeId) {n : Nat} (hn : n ≤ arr.size) : Th (w.alloc (.cells arr e)) w.heap.size n := fun j hj => by
  rw [Nat.zero_add, World.cell?_alloc_at arr e _ _ rfl, World.frozen?_alloc_at arr e _ _ rfl]
  exact ⟨by rw [Array.getElem?_eq_getElem (by omega)]; rfl, rfl⟩
theorem at_alloc (w : World) (arr : Array Value) (e : TypeId) {o : Nat} {cs : List Value} (h : ∀ (j : Nat) v, cs[j]? = some v → arr[o + j]? = some v) : At (w.alloc (.cells arr e)) w.heap.size o cs := fun j v hv => by
  rw [World.cell?_alloc_at arr e _ _ rfl]
  exact h j v hv

theorem alive_box {ob : List Ob} {d : Nat} {b : Bool} {cs : List V} (hb : ob.getD d .none = .box b cs) (hc : ∀ c ∈ cs, isC c) {q : Option Nat} (h : alive ob d q) : q = none := by
  cases q with
  | none => rfl
  | some j =>
    unfold alive at h
    rw [hb] at h
    obtain ⟨o, z, xs, h⟩ := h
    exact (hc _ (List.mem_of_getElem? h)).elim
theorem alive_row1 {ob : List Ob} {d : Nat} {b : Bool} {z : Nat} {xs : List V} (hb : ob.getD d .none = .row b z xs) {q : Option Nat} (h : alive ob d q) : q = none := by
  cases q with
  | none => rfl
  | some j => unfold alive at h; rw [hb] at h; exact h.elim

theorem Sim.newBox {GL : List (Nat × V)} (h : Sim GL U w0 F0 σ a w ow) (d : Nat) (hd : σ.ob.getD d .none = .none) (hpn : F0.pn d = none) (arr : Array Value) (e : TypeId) (cs : List V) (hl : arr.size = cs.length)
    (hc : ∀ (j : Nat) v c, arr[j]? = some v → cs[j]? = some c → isC c ∧ FR w (Fz U w ow σ.ob) [v] c) :
    Sim GL U w0 F0 ⟨σ.sl.set d (.ptr d none 0 0), σ.ob.set d (.box true cs)⟩ (a.put (some d) (.pointer (some ⟨w.heap.size, 0, none⟩))) (w.alloc (.cells arr e)) (upd ow d fun _ => w.heap.size) := by
  have hcs : ∀ c ∈ cs, isC c := fun c hm => by
    obtain ⟨j, hj, rfl⟩ := List.getElem_of_mem hm
    exact (hc j (arr[j]'(by omega)) _ (Array.getElem?_eq_getElem (by omega)) (List.getElem?_eq_getElem hj)).1
  have hal : ∀ q, alive (σ.ob.set d (.box true cs)) d q → q = none := fun q hq => by
    by_cases hdl : d < σ.ob.length
    · exact alive_box (getD_set_ob_same _ _ hdl) hcs hq
    · rw [List.set_eq_of_length_le (by omega)] at hq
      unfold alive at hq; rw [hd] at hq; cases q <;> exact hq.elim
  have h1 := h.create (w' := w.alloc (.cells arr e)) (ext_alloc _ _) d (.box true cs) (fun _ => w.heap.size) hd hpn
    (fun q _ => ⟨Nat.le_refl _, by simp⟩) (fun q q' hq hq' _ => by rw [hal q hq, hal q' hq'])
    (fun hA => ⟨by rw [upd_same]; exact th_alloc _ _ _ (by omega), fun j v x hv hx => by
      rw [upd_same, World.cell?_alloc_at arr e _ _ rfl] at hv
      obtain ⟨h1, h2⟩ := hc j v x hv hx
      rw [h1.bc]
      exact h2.mono (fun b hb => Below.heap_alloc w _ b hb.2.1) hA⟩)
  refine h1.put d fun hlt => ?_
  have hdl : d < σ.ob.length := by rw [h.olen]; exact hlt
  exact .inl ⟨true, cs, getD_set_ob_same _ _ hdl, rfl, by rw [upd_same]⟩

theorem Sim.newRow {GL : List (Nat × V)} (h : Sim GL U w0 F0 σ a w ow) (d : Nat) (hd : σ.ob.getD d .none = .none) (hpn : F0.pn d = none) (arr : Array Value) (e : TypeId) (z cp : Nat) (xs : List V) (hcp : xs.length ≤ cp) (hl : cp * z ≤ arr.size)
    (hx : ∀ (i : Nat) x, xs[i]? = some x → ∃ ecs, ecs.length = z ∧ (∀ (j : Nat) v, ecs[j]? = some v → arr[i * z + j]? = some v) ∧ FR w (Fz U w ow σ.ob) ecs x) :
    Sim GL U w0 F0 ⟨σ.sl.set d (.ref d none none), σ.ob.set d (.row true z xs)⟩ (a.put (some d) (.slice (some ⟨w.heap.size, 0, none⟩) xs.length cp)) (w.alloc (.cells arr e)) (upd ow d fun _ => w.heap.size) := by
  have hal : ∀ q, alive (σ.ob.set d (.row true z xs)) d q → q = none := fun q hq => by
    by_cases hdl : d < σ.ob.length
    · exact alive_row1 (getD_set_ob_same _ _ hdl) hq
    · rw [List.set_eq_of_length_le (by omega)] at hq
      unfold alive at hq; rw [hd] at hq; cases q <;> exact hq.elim
  have hth : Th (w.alloc (.cells arr e)) w.heap.size (cp * z) := th_alloc _ _ _ hl
  have h1 := h.create (w' := w.alloc (.cells arr e)) (ext_alloc _ _) d (.row true z xs) (fun _ => w.heap.size) hd hpn
    (fun q _ => ⟨Nat.le_refl _, by simp⟩) (fun q q' hq hq' _ => by rw [hal q hq, hal q' hq'])
    (fun hA => ⟨cp, by
      rw [upd_same]
      refine ⟨hcp, hth, fun i x hi => ?_⟩
      obtain ⟨ecs, e1, e2, e3⟩ := hx i x hi
      exact ⟨ecs, e1, at_alloc _ _ _ e2, e3.mono (fun b hb => Below.heap_alloc w _ b hb.2.1) hA⟩⟩)
  refine h1.put d fun hlt => ?_
  have hdl : d < σ.ob.length := by rw [h.olen]; exact hlt
  refine ⟨true, z, xs, cp, obRow_none.2 (getD_set_ob_same _ _ hdl), by rw [upd_same]; rfl, Nat.le_refl _, hcp, ?_⟩
  rw [upd_same]; exact hth

theorem val_sc (h : Sim T.globL U w0 F0 σ a w ow) {x : Operand} {u : Value} (hx : val T σ x = .sc u) : a.eval x = u ∧ u.oneCell' = true := by
  have h2 := val_sr h x
  rw [hx] at h2
  have h3 : FR w (Fz U w ow σ.ob) [a.eval x] (.sc u) := h2
  generalize a.eval x = y at h3
  cases h3 with
  | sc h => exact ⟨rfl, h⟩

/-- what a quiet operation owes -/
def Good (P : Program) (T : TT) (U : Nat → Prop) (w0 : World) (F0 : Fr) (σ : St) (a : Act) (w : World) (o : Oper) (d : Nat) (K : V → Ob → List (Nat × Option Nat) → Option R) (r : R) : Prop :=
  ∃ x ob s, K x ob s = some r ∧ ((ob = .none ∨ (σ.ob.getD d .none = .none ∧ F0.pn d = none)) → Done P T.globL U w0 F0 a w o d (putQ σ d x ob s))

variable {o : Oper} {d : Nat} {K : V → Ob → List (Nat × Option Nat) → Option R}

theorem q_move (h : Sim T.globL U w0 F0 σ a w ow) {x : Operand} (ho : o.op = .move x) (hk : (match val T σ x with | .dead => none | x => K x .none []) = some r) : Good P T U w0 F0 σ a w o d K r := by
  have hv := val_sr h x
  generalize val T σ x = y at hv hk
  have : K y .none [] = some r := by cases y <;> first | exact hk | cases hk
  exact ⟨y, .none, [], this, fun _ => done_plain h (exec_move ho) hv⟩

theorem q_pick (h : Sim T.globL U w0 F0 σ a w ow) {c x y : Operand} (ho : o.op = .pick c x y) (hk : pickB (val T σ c) (val T σ x) (val T σ y) (fun x => K x .none []) = some r) : Good P T U w0 F0 σ a w o d K r := by
  unfold pickB at hk
  split at hk
  · rename_i t hc
    obtain ⟨hc', _⟩ := val_sc h hc
    have hx := val_sr h x
    have hy := val_sr h y
    have hrun := exec_pick (P := P) (w := w) ho hc'
    split at hk
    · rename_i p q hp hq
      refine ⟨_, _, _, hk, fun _ => done_plain h hrun ?_⟩
      rw [hp] at hx; rw [hq] at hy
      cases t
      · exact hy
      · exact hx
    · cases t
      · exact ⟨_, _, _, hk, fun _ => done_plain h hrun hy⟩
      · exact ⟨_, _, _, hk, fun _ => done_plain h hrun hx⟩
  · cases hk

theorem q_nilCheck (h : Sim T.globL U w0 F0 σ a w ow) {x : Operand} (ho : o.op = .nilCheck x)
    (hk : (match val T σ x with | .ptr k c i j => K (.ptr k c i j) .none [] | .rp x j => K (.rp x j) .none [] | _ => none) = some r) : Good P T U w0 F0 σ a w o d K r := by
  have hv := val_sr h x
  have hrun : ∀ ad, a.eval x = .pointer (some ad) → (execOp a.eval o).run P w = .ok (.value (a.eval x)) w := fun ad e => by simp [execOp, ho, e]
  split at hk
  · rename_i k c i j hx
    rw [hx] at hv
    have : ∃ ad, a.eval x = .pointer (some ad) := by
      cases c with
      | none => rcases hv with ⟨_, _, _, _, e⟩ | ⟨_, _, _, _, e⟩ <;> exact ⟨_, e⟩
      | some c => obtain ⟨_, _, _, _, e⟩ := hv; exact ⟨_, e⟩
    obtain ⟨ad, e⟩ := this
    exact ⟨_, _, _, hk, fun _ => done_plain h (hrun ad e) hv⟩
  · rename_i y j hx
    rw [hx] at hv
    have : ∃ ad, a.eval x = .pointer (some ad) := by
      have hv' : FR w (Fz U w ow σ.ob) [a.eval x] (.rp y j) := hv
      generalize a.eval x = u at hv'
      cases hv' with
      | rp => exact ⟨_, rfl⟩
    obtain ⟨ad, e⟩ := this
    exact ⟨_, _, _, hk, fun _ => done_plain h (hrun ad e) hv⟩
  · cases hk

theorem q_alloc (hT : TOk P T) (h : Sim T.globL U w0 F0 σ a w ow) {t : TypeId} (ho : o.op = .alloc t)
    (hk : (match T.zero t with | some cs => K (.ptr d none 0 0) (.box true cs) [] | none => none) = some r) : Good P T U w0 F0 σ a w o d K r := by
  split at hk
  · rename_i cs hz
    obtain ⟨i, v, hi, hv, hcs, hnd, hsz⟩ := hT.zero t cs hz
    refine ⟨_, _, _, hk, fun hd => ?_⟩
    have hd2 : σ.ob.getD d .none = .none ∧ F0.pn d = none := by rcases hd with hd | hd; cases hd; exact hd
    have hd' := hd2.1
    have hrun : (Instr.alloc t true (.tuple #[])).run P w = .ok (.pointer (some ⟨w.heap.size, 0, none⟩)) (w.alloc (.cells v.cells t)) := by
      simp [Instr.alloc, zeroValue, typeInfo, hi, hv, newVar, newRow]
    refine ⟨_, _, upd ow d (fun _ => w.heap.size), exec_alloc ho hrun, ?_⟩
    refine h.newBox d hd' hd2.2 v.cells t cs (by rw [← hcs]; simp) fun j u c hu hc => ?_
    have hc' : c = constC u := by
      rw [← hcs, List.getElem?_map, Array.getElem?_toList, hu] at hc
      simpa using hc.symm
    subst hc'
    exact constC_fr u (hnd _ (List.mem_of_getElem? hc))
  · cases hk


theorem SR.sv {A : Nat → Prop} {ob : List Ob} {v : Value} {x : V} (h : SR w A ow ob v x) (hx : ∀ vs, x ≠ .tup vs) : SV w A ow ob v x := by
  cases x <;> first | exact h | exact absurd rfl (hx _)
theorem SR.sc {A : Nat → Prop} {ob : List Ob} {v : Value} {x : V} (h : SR w A ow ob v x) (h1 : ∀ vs, x ≠ .tup vs) (h2 : ∀ vs, x ≠ .st vs) (h3 : ∀ y, x ≠ .dt y) : SC w A ow ob v x := by
  cases x <;> first | exact h | exact absurd rfl (h1 _) | exact absurd rfl (h2 _) | exact absurd rfl (h3 _)
theorem SC.one {A : Nat → Prop} {ob : List Ob} {v : Value} {x : V} (h : SC w A ow ob v x) (hx : x ≠ .dead) : v.oneCell' = true := by
  cases x with
  | dead => exact absurd rfl hx
  | ref k c m => obtain ⟨_, _, _, _, _, rfl, _⟩ := h; rfl
  | ptr k c i j =>
    cases c with
    | none => rcases h with ⟨_, _, _, _, rfl⟩ | ⟨_, _, _, _, rfl⟩ <;> rfl
    | some c => obtain ⟨_, _, _, _, rfl⟩ := h; rfl
  | io => exact h.elim
  | own => exact h.elim
  | tup => exact h.elim
  | dt => exact h.elim
  | st => exact h.elim
  | _ => exact FR.one h v (by simp)

/-- the cells of a value that goes into a box -/
theorem boxed_ok {GL : List (Nat × V)} (h : Sim GL U w0 F0 σ a w ow) {ss : List Sh} {u : Value} {v : V} (hu : SR w (Fz U w ow σ.ob) ow σ.ob u v) {K : List V → List (Nat × Option Nat) → Option R} (hk : boxed (lkE σ) ss v K = some r) :
    ∃ cs s, K cs s = some r ∧ cs.length = ss.length ∧ u.cells.size = cs.length ∧
      ∀ (j : Nat) q c, u.cells[j]? = some q → cs[j]? = some c → isC c ∧ FR w (Fz U w ow (freeze σ.ob s)) [q] c := by
  have single : ∀ (s1 : Sh), ss = [s1] → sealC (lkE σ) v (fun c s => K [c] s) = some r → (∀ cs, v ≠ .st cs) → (∀ y, v ≠ .dt y) →
      ∃ cs s, K cs s = some r ∧ cs.length = ss.length ∧ u.cells.size = cs.length ∧ ∀ (j : Nat) q c, u.cells[j]? = some q → cs[j]? = some c → isC c ∧ FR w (Fz U w ow (freeze σ.ob s)) [q] c := by
    intro s1 hs he h1 h2
    have h0 : ∀ vs, v ≠ .tup vs := by rintro vs rfl; simp [sealC] at he
    have hd : v ≠ .dead := by rintro rfl; simp [sealC] at he
    have hc := hu.sc h0 h1 h2
    obtain ⟨c, s, hK, hok⟩ := sealC_ok h.ho he
    have hone := cells_of_one (hc.one hd)
    refine ⟨[c], s, hK, by rw [hs]; rfl, by rw [hone]; rfl, fun j q c' hq hc' => ?_⟩
    rw [hone] at hq
    cases j with
    | succ j => simp at hc'
    | zero =>
      simp at hq hc'
      subst hq; subst hc'
      exact ⟨hok.1, hok.2 s (fun _ h => h) _ hc⟩
  cases v with
  | st cs =>
    simp only [boxed] at hk
    obtain ⟨hl, he⟩ := bif_some hk
    obtain ⟨cs', s, hK, hl', hok⟩ := sealCs_ok h.ho he
    obtain ⟨arr, rfl, e2, e3⟩ := hu
    have hl := beq_nat.1 hl
    refine ⟨cs', s, hK, by omega, by show arr.size = _; omega, fun j q c hq hc => ?_⟩
    have hi : j < cs.length := by have := (List.getElem?_eq_some_iff.1 hc).1; omega
    have := hok j c _ hc (List.getElem?_eq_getElem hi)
    exact ⟨this.1, this.2 s (fun _ h => h) _ (e3 j q _ hq (List.getElem?_eq_getElem hi))⟩
  | dt y =>
    simp only [boxed] at hk
    obtain ⟨ds, rfl, hl, he⟩ := unSt_some hk
    obtain ⟨cs, hK, hl', hok⟩ := unCs_some he
    have hu' : VR w (Fz U w ow σ.ob) u (.st ds) := hu
    obtain ⟨arr, rfl, hfr⟩ := hu'
    have hw := hfr.width
    simp only [width, Array.length_toList] at hw
    refine ⟨cs, [], hK, hl', by show arr.size = _; omega, fun j q c hq hc => ?_⟩
    obtain ⟨hc1, hc2, hc3⟩ := hok j c hc
    rw [Nat.zero_add] at hc2 hc3
    refine ⟨hc1, hc3 w _ q ?_⟩
    obtain ⟨q', hq', hfr'⟩ := hfr.ce hc2.ne
    rw [Array.getElem?_toList] at hq'
    have : (Value.agg arr).cells = arr := rfl
    rw [this] at hq
    rw [hq] at hq'
    cases hq'
    exact hfr'
  | _ =>
    simp only [boxed] at hk
    split at hk
    · exact single _ rfl hk (by simp) (by simp)
    · cases hk

theorem q_box (h : Sim T.globL U w0 F0 σ a w ow) {t : TypeId} {x : Operand} (ho : o.op = .box t x)
    (hk : (match T.ty t with
      | .c s => boxed (lkE σ) [s] (val T σ x) fun cs s => K (.ptr d none 0 0) (.box true cs) s
      | .agg ss => boxed (lkE σ) ss (val T σ x) fun cs s => K (.ptr d none 0 0) (.box true cs) s
      | _ => none) = some r) : Good P T U w0 F0 σ a w o d K r := by
  have hv := val_sr h x
  have key : ∀ ss, boxed (lkE σ) ss (val T σ x) (fun cs s => K (.ptr d none 0 0) (.box true cs) s) = some r → Good P T U w0 F0 σ a w o d K r := fun ss he => by
    obtain ⟨cs, s, hK, _, hsz, hok⟩ := boxed_ok h hv he
    refine ⟨_, _, _, hK, fun hd => ?_⟩
    have hd2 : σ.ob.getD d .none = .none ∧ F0.pn d = none := by rcases hd with hd | hd; cases hd; exact hd
    have hd' := hd2.1
    have hrun : (Instr.box t (a.eval x)).run P w = .ok (.pointer (some ⟨w.heap.size, 0, none⟩)) (w.alloc (.cells (a.eval x).cells t)) := by
      simp [Instr.box, newVar, newRow]
    exact ⟨_, _, upd ow d (fun _ => w.heap.size), exec_box ho hrun, (h.freeze s).newBox d (freeze_none s hd') hd2.2 (a.eval x).cells t cs hsz hok⟩
  split at hk
  · exact key _ hk
  · exact key _ hk
  · cases hk

/-- a load out of frozen memory -/
theorem load_fr {A : Nat → Prop} (hT : TOk P T) {t : TypeId} {s : Sh} (ht : T.ty t = .c s) {b o j : Nat} {ecs : List Value} {x : V} (hA : At w b o ecs) (hx : FR w A ecs x) (hn : isC (ce x j)) :
    ∃ u, (Instr.loadAt t (.pointer (some ⟨b, o + j, none⟩))).run P w = .ok u w ∧ FR w A [u] (ce x j) := by
  obtain ⟨u, hu, hfr⟩ := hx.ce hn.ne
  obtain ⟨dd, i, hd, hrow, _⟩ := hT.tyc t s ht
  have hc := hA j u hu
  refine ⟨u, ?_, hfr⟩
  have hagg : (isAgg t).run P w = .ok false w := by
    unfold isAgg
    rw [Sem.run_bind, run_underlying hd w]
    cases dd <;> first | rfl | (simp [TypeDesc.isRow] at hrow)
  simp [Instr.loadAt, Instr.sureAddr, loadVar, hagg, hc]
theorem loadA_fr (hT : TOk P T) {t : TypeId} {ss : List Sh} (ht : T.ty t = .agg ss) {b o : Nat} {ecs : List Value} (hA : At w b o ecs) (hl : ecs.length = ss.length) :
    (Instr.loadAt t (.pointer (some ⟨b, o, none⟩))).run P w = .ok (.agg ecs.toArray) w := by
  obtain ⟨dd, i, hd, hrow, hi, hs⟩ := hT.tya t ss ht
  exact run_loadAt_mid w b o t ecs dd hA hd hrow (by rw [hi]; simp [hs, hl])

theorem fr_agg {A : Nat → Prop} {ecs : List Value} {x : V} (h : FR w A ecs x) {cs : List V} (hx : x = .st cs) : VR w A (.agg ecs.toArray) x := by
  subst hx
  exact ⟨ecs.toArray, rfl, by simpa using h⟩

/-- whole elements and parts of elements, out of memory -/
theorem load_elem (hT : TOk P T) (h : Sim T.globL U w0 F0 σ a w ow) {t : TypeId} {p : Operand} (ho : o.op = .load t p) {b off : Nat} {ecs : List Value} {x : V}
    (hA : At w b off ecs) (hx : FR w (Fz U w ow σ.ob) ecs x) {j : Nat} (hp : a.eval p = .pointer (some ⟨b, off + j, none⟩)) {s : Sh} (ht : T.ty t = .c s)
    (hk : unC s (ce x j) (fun c => K c .none []) = some r) : Good P T U w0 F0 σ a w o d K r := by
  obtain ⟨c, hK, hc, hd, hr⟩ := unC_some hk
  obtain ⟨u, hrun, hfr⟩ := load_fr hT ht hA hx hd
  refine ⟨c, .none, [], hK, fun _ => done_plain h (exec_load ho (by rw [hp]; exact hrun)) ?_⟩
  rw [hc.sr]
  exact hr _ _ _ hfr
theorem load_whole (hT : TOk P T) (h : Sim T.globL U w0 F0 σ a w ow) {t : TypeId} {p : Operand} (ho : o.op = .load t p) {b off : Nat} {ecs : List Value} {x : V}
    (hA : At w b off ecs) (hx : FR w (Fz U w ow σ.ob) ecs x) (hp : a.eval p = .pointer (some ⟨b, off, none⟩)) {ss : List Sh} (ht : T.ty t = .agg ss)
    (hk : unSt ss.length x (K (.dt x) .none []) = some r) : Good P T U w0 F0 σ a w o d K r := by
  obtain ⟨cs, hxs, hl, hK⟩ := unSt_some hk
  have hw := hx.width
  rw [hxs] at hw
  simp only [width] at hw
  refine ⟨_, .none, [], hK, fun _ => done_plain h (exec_load ho (by rw [hp]; exact loadA_fr hT ht hA (by omega))) ?_⟩
  exact fr_agg hx hxs
theorem load_part (hT : TOk P T) (h : Sim T.globL U w0 F0 σ a w ow) {t : TypeId} {p : Operand} (ho : o.op = .load t p) {b off : Nat} {ecs : List Value} {x : V}
    (hA : At w b off ecs) (hx : FR w (Fz U w ow σ.ob) ecs x) {j : Nat} (hp : a.eval p = .pointer (some ⟨b, off + j, none⟩)) {ss : List Sh} (ht : T.ty t = .agg ss)
    (hk : unCs x j ss (fun cs => K (.st cs) .none []) = some r) : Good P T U w0 F0 σ a w o d K r := by
  obtain ⟨cs, hK, hl, hcs⟩ := unCs_some hk
  have hin : ∀ q, q < ss.length → ∃ u, ecs[j + q]? = some u ∧ FR w (Fz U w ow σ.ob) [u] (ce x (j + q)) := fun q hq => by
    have hcq : cs[q]? = some (cs[q]'(by omega)) := List.getElem?_eq_getElem (by omega)
    exact hx.ce (hcs q _ hcq).2.1.ne
  have hlen : ((ecs.drop j).take ss.length).length = ss.length := by
    rw [List.length_take, List.length_drop]
    rcases Nat.eq_zero_or_pos ss.length with h0 | h0
    · omega
    · obtain ⟨u, hu, _⟩ := hin (ss.length - 1) (by omega)
      have := (List.getElem?_eq_some_iff.1 hu).1
      omega
  have hA' : At w b (off + j) ((ecs.drop j).take ss.length) := fun q u hu => by
    rw [List.getElem?_take] at hu
    split at hu
    · rw [List.getElem?_drop] at hu
      rw [Nat.add_assoc]; exact hA (j + q) u hu
    · cases hu
  refine ⟨.st cs, .none, [], hK, fun _ => done_plain h (exec_load ho (by rw [hp]; exact loadA_fr hT ht hA' hlen)) ?_⟩
  refine ⟨_, rfl, by simp only [List.size_toArray]; omega, fun q u y hu hy => ?_⟩
  have hq : q < ss.length := by have := (List.getElem?_eq_some_iff.1 hy).1; omega
  obtain ⟨u', hu', hfr⟩ := hin q hq
  have : u = u' := by
    simp only [List.getElem?_toArray] at hu
    rw [List.getElem?_take, if_pos hq, List.getElem?_drop, hu'] at hu
    cases hu; rfl
  subst this
  obtain ⟨h1, h2, h3⟩ := hcs q y hy
  rw [h1.sc]
  exact h3 _ _ _ hfr

theorem SC.ptrRow {A : Nat → Prop} {ob : List Ob} {v : Value} {k : Nat} {c : Option Nat} {i j : Nat} {oo : Bool} {z : Nat} {xs : List V} (h : SC w A ow ob v (.ptr k c i j))
    (hr : obRow (fun k => ob.getD k .none) k c = some (oo, z, xs)) : v = .pointer (some ⟨ow k c, i * z + j, none⟩) := by
  cases c with
  | none =>
    rw [obRow_none] at hr
    rcases h with ⟨o', cs, h1, _⟩ | ⟨o', z', xs', h1, h2⟩
    · rw [hr] at h1; cases h1
    · rw [hr] at h1; cases h1; exact h2
  | some c =>
    obtain ⟨o', z', xs', h1, h2⟩ := h
    rw [hr] at h1
    cases h1
    exact h2

theorem lkE_box {σ : St} {k : Nat} {o : Bool} {cs : List V} (h : lkE σ k = .box o cs) : ∃ o' cs', σ.ob.getD k .none = .box o' cs' ∧ cs = cs'.map eC := by
  unfold lkE at h
  cases ho : σ.ob.getD k .none with
  | box o' cs' => rw [ho] at h; simp only [eO, Ob.box.injEq] at h; exact ⟨o', cs', rfl, h.2.symm⟩
  | _ => rw [ho] at h; simp [eO] at h
theorem lkE_row {σ : St} {k : Nat} {o : Bool} {z : Nat} {xs : List V} (h : lkE σ k = .row o z xs) : ∃ o', σ.ob.getD k .none = .row o' z xs := by
  obtain ⟨o', h'⟩ := obRow_eO (obRow_none.2 h)
  exact ⟨o', obRow_none.1 h'⟩

/-- a cell of a box as a slot's value -/
theorem box_cell {GL : List (Nat × V)} (h : Sim GL U w0 F0 σ a w ow) {k j : Nat} {b : Bool} {cs : List V} (hb : σ.ob.getD k .none = .box b cs) (hj : j < cs.length) :
    ∃ u, w.cell? ⟨ow k none, j, none⟩ = some u ∧ SC w (Fz U w ow σ.ob) ow σ.ob u (viewC k j ((cs.map eC).getD j .dead)) := by
  have hk := h.ho.obs k
  rw [hb] at hk
  obtain ⟨ht, hc⟩ := hk
  obtain ⟨u, hu⟩ := Option.isSome_iff_exists.1 (ht j hj).1
  rw [Nat.zero_add] at hu
  refine ⟨u, hu, ?_⟩
  have hx : cs[j]? = some cs[j] := List.getElem?_eq_getElem hj
  have hg : (cs.map eC).getD j .dead = eC cs[j] := by simp [List.getD_eq_getElem?_getD, hx]
  rw [hg]
  have hbc := hc j u _ hu hx
  generalize hy : cs[j] = y at hbc hx
  cases y with
  | own o z xs =>
    obtain ⟨cp, rfl, hr⟩ := hbc
    exact ⟨o, z, xs, cp, obRow_some.2 ⟨b, cs, hb, hx⟩, rfl, Nat.le_refl _, hr.le, hr.th⟩
  | dead => trivial
  | sc => exact hbc
  | sl => exact hbc
  | nil => exact hbc
  | clo => exact hbc
  | rp => exact hbc
  | st cs => exact hbc.elim
  | dt x => exact absurd hbc (by intro hh; cases hh)
  | ptr => exact absurd hbc (by intro hh; cases hh)
  | ref => exact absurd hbc (by intro hh; cases hh)
  | io => exact absurd hbc (by intro hh; cases hh)
  | tup => exact absurd hbc (by intro hh; cases hh)

theorem view_get (k : Nat) : ∀ (cs : List V) (j q : Nat), (view k j cs)[q]? = (cs[q]?).map (viewC k (j + q))
  | [], j, q => by simp [view]
  | c :: cs, j, q => by
    unfold view
    cases q with
    | zero => simp
    | succ q =>
      simp only [List.getElem?_cons_succ]
      rw [view_get k cs (j + 1) q, show j + 1 + q = j + (q + 1) by omega]

theorem isAgg_false (hT : TOk P T) {t : TypeId} {s : Sh} (ht : T.ty t = .c s) : (isAgg t).run P w = .ok false w := by
  obtain ⟨dd, i, hd, hrow, _⟩ := hT.tyc t s ht
  unfold isAgg
  rw [Sem.run_bind, run_underlying hd w]
  cases dd <;> first | rfl | (simp [TypeDesc.isRow] at hrow)

theorem q_load0 (hT : TOk P T) (h : Sim T.globL U w0 F0 σ a w ow) {t : TypeId} {p : Operand} (ho : o.op = .load t p)
    (hk : (match val T σ p, T.ty t with
    | .ptr k none 0 j, .c s => match lkE σ k with
      | .box _ cs => (match viewC k j (cs.getD j .dead) with | .dead => none | x => K x .none [])
      | .row _ _ xs => exN xs 0 fun x => unC s (ce x j) fun c => K c .none []
      | .none => none
    | .ptr k none 0 j, .agg ss => match lkE σ k with
      | .box _ cs => bif Nat.ble (j + ss.length) cs.length then K (.st (((view k 0 cs).drop j).take ss.length)) .none [] else none
      | .row _ _ xs => match j with
        | 0 => exN xs 0 fun x => unSt ss.length x (K (.dt x) .none [])
        | j => exN xs 0 fun x => unCs x j ss fun cs => K (.st cs) .none []
      | .none => none
    | .ptr k c i j, .c s => match obRow (lkE σ) k c with
      | some (_, _, xs) => exN xs i fun x => unC s (ce x j) fun c => K c .none []
      | none => none
    | .ptr k c i j, .agg ss => match obRow (lkE σ) k c with
      | some (_, _, xs) => match j with
        | 0 => exN xs i fun x => unSt ss.length x (K (.dt x) .none [])
        | j => exN xs i fun x => unCs x j ss fun cs => K (.st cs) .none []
      | none => none
    | .rp x j, .c s => unC s (ce x j) fun c => K c .none []
    | .rp x 0, .agg ss => unSt ss.length x (K (.dt x) .none [])
    | .rp x j, .agg ss => unCs x j ss fun cs => K (.st cs) .none []
    | _, _ => none) = some r) : Good P T U w0 F0 σ a w o d K r := by
  have hv := val_sr h p
  -- an element of a row
  have elem : ∀ (k : Nat) (c : Option Nat) (i j : Nat) (oo : Bool) (z : Nat) (xs : List V) (x : V), val T σ p = .ptr k c i j → obRow (fun k => σ.ob.getD k .none) k c = some (oo, z, xs) → xs[i]? = some x →
      ∃ ecs, At w (ow k c) (i * z) ecs ∧ FR w (Fz U w ow σ.ob) ecs x ∧ a.eval p = .pointer (some ⟨ow k c, i * z + j, none⟩) := fun k c i j oo z xs x hp hr hx => by
    rw [hp] at hv
    obtain ⟨cp, hrow⟩ := h.ho.row hr
    obtain ⟨ecs, _, h2, h3⟩ := hrow.at_ i x hx
    exact ⟨ecs, h2, h3, SC.ptrRow hv hr⟩
  have row1 : ∀ (k : Nat) (c : Option Nat) (i j : Nat) (oo : Bool) (z : Nat) (xs : List V) (s : Sh), val T σ p = .ptr k c i j → T.ty t = .c s → obRow (fun k => σ.ob.getD k .none) k c = some (oo, z, xs) →
      exN xs i (fun x => unC s (ce x j) fun c => K c .none []) = some r → Good P T U w0 F0 σ a w o d K r := fun k c i j oo z xs s hp ht hr he => by
    obtain ⟨x, hx, he⟩ := exN_some he
    obtain ⟨ecs, h1, h2, h3⟩ := elem k c i j oo z xs x hp hr hx
    exact load_elem hT h ho h1 h2 h3 ht he
  have rowA : ∀ (k : Nat) (c : Option Nat) (i j : Nat) (oo : Bool) (z : Nat) (xs : List V) (ss : List Sh), val T σ p = .ptr k c i j → T.ty t = .agg ss → obRow (fun k => σ.ob.getD k .none) k c = some (oo, z, xs) →
      (match j with
        | 0 => exN xs i fun x => unSt ss.length x (K (.dt x) .none [])
        | j => exN xs i fun x => unCs x j ss fun cs => K (.st cs) .none []) = some r → Good P T U w0 F0 σ a w o d K r := fun k c i j oo z xs ss hp ht hr he => by
    split at he
    · obtain ⟨x, hx, he⟩ := exN_some he
      obtain ⟨ecs, h1, h2, h3⟩ := elem k c i 0 oo z xs x hp hr hx
      exact load_whole hT h ho h1 h2 h3 ht he
    · obtain ⟨x, hx, he⟩ := exN_some he
      obtain ⟨ecs, h1, h2, h3⟩ := elem k c i _ oo z xs x hp hr hx
      exact load_part hT h ho h1 h2 h3 ht he
  have frz : ∀ (x : V) (j : Nat), val T σ p = .rp x j → ∃ b off ecs, At w b off ecs ∧ FR w (Fz U w ow σ.ob) ecs x ∧ a.eval p = .pointer (some ⟨b, off + j, none⟩) := fun x j hp => by
    rw [hp] at hv
    have hv' : FR w (Fz U w ow σ.ob) [a.eval p] (.rp x j) := hv
    generalize a.eval p = u at hv'
    cases hv' with
    | rp hA hc hx => exact ⟨_, _, _, hc, hx, rfl⟩
  split at hk
  · -- one cell of a box, or of the first element of a row
    rename_i k j s hp ht
    split at hk
    · rename_i b cs hb
      obtain ⟨b', cs', hb', rfl⟩ := lkE_box hb
      have hjl : j < cs'.length := by
        by_cases hj : j < cs'.length
        · exact hj
        · exfalso
          have : (cs'.map eC).getD j .dead = .dead := by simp [List.getD_eq_getElem?_getD, List.getElem?_eq_none (by omega : cs'.length ≤ j)]
          rw [this] at hk
          simp [viewC] at hk
      obtain ⟨u, hu, hsc⟩ := box_cell h hb' hjl
      rw [hp] at hv
      have hptr : a.eval p = .pointer (some ⟨ow k none, j, none⟩) := by
        rcases hv with ⟨o', cs'', _, _, e⟩ | ⟨o', z, xs, e, _⟩
        · exact e
        · rw [hb'] at e; cases e
      have hrun : (Instr.loadAt t (a.eval p)).run P w = .ok u w := by
        rw [hptr]
        simp [Instr.loadAt, Instr.sureAddr, loadVar, isAgg_false hT ht, hu]
      generalize viewC k j ((cs'.map eC).getD j .dead) = y at hk hsc
      have hsr : SR w (Fz U w ow σ.ob) ow σ.ob u y := by
        cases y <;> first | exact hsc | exact hsc.elim
      have : K y .none [] = some r := by cases y <;> first | exact hk | cases hk
      exact ⟨y, .none, [], this, fun _ => done_plain h (exec_load ho hrun) hsr⟩
    · rename_i b z xs hb
      obtain ⟨b', hb'⟩ := lkE_row hb
      exact row1 k none 0 j b' z xs s hp ht (obRow_none.2 hb') hk
    · cases hk
  · rename_i k j ss hp ht
    split at hk
    · rename_i b cs hb
      obtain ⟨b', cs', hb', rfl⟩ := lkE_box hb
      obtain ⟨hle, hK⟩ := bif_some hk
      have hle := Nat.le_of_ble_eq_true hle
      rw [List.length_map] at hle
      rw [hp] at hv
      have hptr : a.eval p = .pointer (some ⟨ow k none, j, none⟩) := by
        rcases hv with ⟨o', cs'', _, _, e⟩ | ⟨o', z, xs, e, _⟩
        · exact e
        · rw [hb'] at e; cases e
      classical
      have hex : ∀ q : Nat, ∃ u, q < ss.length → w.cell? ⟨ow k none, j + q, none⟩ = some u ∧ SC w (Fz U w ow σ.ob) ow σ.ob u (viewC k (j + q) ((cs'.map eC).getD (j + q) .dead)) := fun q => by
        by_cases hq : q < ss.length
        · obtain ⟨u, h1, h2⟩ := box_cell h hb' (j := j + q) (by omega)
          exact ⟨u, fun _ => ⟨h1, h2⟩⟩
        · exact ⟨undef, fun hh => absurd hh hq⟩
      obtain ⟨f, hf⟩ := Classical.axiomOfChoice hex
      let ecs := (List.range ss.length).map f
      have hl : ecs.length = ss.length := by simp [ecs]
      have hA : At w (ow k none) j ecs := fun q u hu => by
        simp only [ecs, List.getElem?_map] at hu
        by_cases hq : q < ss.length
        · rw [List.getElem?_range hq] at hu
          simp at hu; subst hu
          exact (hf q hq).1
        · rw [List.getElem?_eq_none (by simp; omega)] at hu; simp at hu
      refine ⟨_, .none, [], hK, fun _ => done_plain h (exec_load ho (by rw [hptr]; exact loadA_fr hT ht hA hl)) ?_⟩
      have hvl : ∀ (cs : List V) (j : Nat), (view k j cs).length = cs.length := fun cs => by
        induction cs with
        | nil => intro j; rfl
        | cons c cs ih => intro j; simp [view, ih]
      refine ⟨ecs.toArray, rfl, by simp only [List.size_toArray, List.length_take, List.length_drop, hvl, List.length_map]; omega, fun q u y hu hy => ?_⟩
      have hq : q < ss.length := by
        have := (List.getElem?_eq_some_iff.1 hy).1
        simp only [List.length_take, List.length_drop] at this
        omega
      have hu' : u = f q := by
        simp only [List.getElem?_toArray, ecs, List.getElem?_map, List.getElem?_range hq, Option.map_some, Option.some.injEq] at hu
        exact hu.symm
      subst hu'
      rw [List.getElem?_take, if_pos hq, List.getElem?_drop, view_get, Nat.zero_add] at hy
      have hsc := (hf q hq).2
      rw [List.getD_eq_getElem?_getD] at hsc
      cases hc : (cs'.map eC)[j + q]? with
      | none => rw [hc] at hy; simp at hy
      | some c =>
        rw [hc] at hy hsc
        simp only [Option.map_some, Option.some.injEq] at hy
        subst hy
        exact hsc
    · rename_i b z xs hb
      obtain ⟨b', hb'⟩ := lkE_row hb
      exact rowA k none 0 j b' z xs ss hp ht (obRow_none.2 hb') hk
    · cases hk
  · rename_i k c i j s hnot hp ht
    split at hk
    · rename_i o' z xs hr
      obtain ⟨o'', hr'⟩ := obRow_eO hr
      exact row1 k c i j o'' z xs s hp ht hr' hk
    · cases hk
  · rename_i k c i j ss hnot hp ht
    split at hk
    · rename_i o' z xs hr
      obtain ⟨o'', hr'⟩ := obRow_eO hr
      exact rowA k c i j o'' z xs ss hp ht hr' hk
    · cases hk
  · rename_i x j s hp ht
    obtain ⟨b, off, ecs, h1, h2, h3⟩ := frz x j hp
    exact load_elem hT h ho h1 h2 h3 ht hk
  · rename_i x ss hp ht
    obtain ⟨b, off, ecs, h1, h2, h3⟩ := frz x 0 hp
    exact load_whole hT h ho h1 h2 h3 ht hk
  · rename_i x j ss hj hp ht
    obtain ⟨b, off, ecs, h1, h2, h3⟩ := frz x _ hp
    exact load_part hT h ho h1 h2 h3 ht hk
  · cases hk

theorem q_load (hT : TOk P T) (h : Sim T.globL U w0 F0 σ a w ow) {t : TypeId} {p : Operand} (ho : o.op = .load t p)
    (hk : (match ldRow (lkE σ) (val T σ p) with
   | some (xs, i, j) => (match T.ty t with
    | .c s => exN xs i fun x => unC s (ce x j) fun c => K c .none []
    | .agg ss => (match j with
      | 0 => exN xs i fun x => unSt ss.length x (K (.dt x) .none [])
      | j => exN xs i fun x => unCs x j ss fun cs => K (.st cs) .none [])
    | _ => none)
   | none => match val T σ p, T.ty t with
    | .ptr k none 0 j, .c s => match lkE σ k with
      | .box _ cs => (match viewC k j (cs.getD j .dead) with | .dead => none | x => K x .none [])
      | .row _ _ xs => exN xs 0 fun x => unC s (ce x j) fun c => K c .none []
      | .none => none
    | .ptr k none 0 j, .agg ss => match lkE σ k with
      | .box _ cs => bif Nat.ble (j + ss.length) cs.length then K (.st (((view k 0 cs).drop j).take ss.length)) .none [] else none
      | .row _ _ xs => match j with
        | 0 => exN xs 0 fun x => unSt ss.length x (K (.dt x) .none [])
        | j => exN xs 0 fun x => unCs x j ss fun cs => K (.st cs) .none []
      | .none => none
    | .ptr k c i j, .c s => match obRow (lkE σ) k c with
      | some (_, _, xs) => exN xs i fun x => unC s (ce x j) fun c => K c .none []
      | none => none
    | .ptr k c i j, .agg ss => match obRow (lkE σ) k c with
      | some (_, _, xs) => match j with
        | 0 => exN xs i fun x => unSt ss.length x (K (.dt x) .none [])
        | j => exN xs i fun x => unCs x j ss fun cs => K (.st cs) .none []
      | none => none
    | .rp x j, .c s => unC s (ce x j) fun c => K c .none []
    | .rp x 0, .agg ss => unSt ss.length x (K (.dt x) .none [])
    | .rp x j, .agg ss => unCs x j ss fun cs => K (.st cs) .none []
    | _, _ => none) = some r) : Good P T U w0 F0 σ a w o d K r := by
  have hv := val_sr h p
  -- an element of a row
  have elem : ∀ (k : Nat) (c : Option Nat) (i j : Nat) (oo : Bool) (z : Nat) (xs : List V) (x : V), val T σ p = .ptr k c i j → obRow (fun k => σ.ob.getD k .none) k c = some (oo, z, xs) → xs[i]? = some x →
      ∃ ecs, At w (ow k c) (i * z) ecs ∧ FR w (Fz U w ow σ.ob) ecs x ∧ a.eval p = .pointer (some ⟨ow k c, i * z + j, none⟩) := fun k c i j oo z xs x hp hr hx => by
    rw [hp] at hv
    obtain ⟨cp, hrow⟩ := h.ho.row hr
    obtain ⟨ecs, _, h2, h3⟩ := hrow.at_ i x hx
    exact ⟨ecs, h2, h3, SC.ptrRow hv hr⟩
  have row1 : ∀ (k : Nat) (c : Option Nat) (i j : Nat) (oo : Bool) (z : Nat) (xs : List V) (s : Sh), val T σ p = .ptr k c i j → T.ty t = .c s → obRow (fun k => σ.ob.getD k .none) k c = some (oo, z, xs) →
      exN xs i (fun x => unC s (ce x j) fun c => K c .none []) = some r → Good P T U w0 F0 σ a w o d K r := fun k c i j oo z xs s hp ht hr he => by
    obtain ⟨x, hx, he⟩ := exN_some he
    obtain ⟨ecs, h1, h2, h3⟩ := elem k c i j oo z xs x hp hr hx
    exact load_elem hT h ho h1 h2 h3 ht he
  have rowA : ∀ (k : Nat) (c : Option Nat) (i j : Nat) (oo : Bool) (z : Nat) (xs : List V) (ss : List Sh), val T σ p = .ptr k c i j → T.ty t = .agg ss → obRow (fun k => σ.ob.getD k .none) k c = some (oo, z, xs) →
      (match j with
        | 0 => exN xs i fun x => unSt ss.length x (K (.dt x) .none [])
        | j => exN xs i fun x => unCs x j ss fun cs => K (.st cs) .none []) = some r → Good P T U w0 F0 σ a w o d K r := fun k c i j oo z xs ss hp ht hr he => by
    split at he
    · obtain ⟨x, hx, he⟩ := exN_some he
      obtain ⟨ecs, h1, h2, h3⟩ := elem k c i 0 oo z xs x hp hr hx
      exact load_whole hT h ho h1 h2 h3 ht he
    · obtain ⟨x, hx, he⟩ := exN_some he
      obtain ⟨ecs, h1, h2, h3⟩ := elem k c i _ oo z xs x hp hr hx
      exact load_part hT h ho h1 h2 h3 ht he
  split at hk
  · rename_i xs i j hld
    have : ∃ k c oo z, val T σ p = .ptr k c i j ∧ obRow (lkE σ) k c = some (oo, z, xs) := by
      unfold ldRow at hld
      split at hld
      · rename_i k c i' j' hp
        split at hld
        · rename_i oo z xs' hr
          cases hld
          exact ⟨k, c, oo, z, hp, hr⟩
        · cases hld
      · cases hld
    obtain ⟨k, c, oo, z, hp, hr⟩ := this
    obtain ⟨o'', hr'⟩ := obRow_eO hr
    split at hk
    · rename_i s ht; exact row1 k c i j o'' z xs s hp ht hr' hk
    · rename_i ss ht; exact rowA k c i j o'' z xs ss hp ht hr' hk
    · cases hk
  · exact q_load0 hT h ho hk

theorem add_addr (b o j : Nat) : (⟨b, o, none⟩ : Addr).add j = ⟨b, o + j, none⟩ := Addr.add_mid b o j

theorem q_fieldAddr (hT : TOk P T) (h : Sim T.globL U w0 F0 σ a w ow) {t : TypeId} {p : Operand} {f : Nat} (ho : o.op = .fieldAddr t p f)
    (hk : (match T.off t f, val T σ p with
    | some (off, _), .ptr k c i j => K (.ptr k c i (j + off)) .none []
    | some (off, _), .rp x j => K (.rp x (j + off)) .none []
    | _, _ => none) = some r) : Good P T U w0 F0 σ a w o d K r := by
  have hv := val_sr h p
  have run : ∀ (off b q : Nat), (∃ z, T.off t f = some (off, z)) → a.eval p = .pointer (some ⟨b, q, none⟩) → (Instr.fieldAt t (a.eval p) f).run P w = .ok (.pointer (some ⟨b, q + off, none⟩)) w := fun off b q ⟨z, hoff⟩ he => by
    obtain ⟨fs, fd, i, h1, h2, h3, h4, h5, h6⟩ := hT.offz t f off z hoff
    rw [he]
    have h7 : i.size ≠ 0 := by omega
    simp [Instr.fieldAt, run_underlying h1, h2, Instr.sureAddr, fieldPlace, sizeOf, typeInfo, h4, h7, h3, add_addr]
  split at hk
  · rename_i off z0 k c i j hoff hp
    rw [hp] at hv
    refine ⟨_, .none, [], hk, fun _ => ?_⟩
    cases c with
    | none =>
      rcases hv with ⟨o', cs, h1, rfl, e⟩ | ⟨o', z, xs, h1, e⟩
      · exact done_plain h (exec_fieldAddr ho (run off _ _ ⟨_, hoff⟩ e)) (.inl ⟨o', cs, h1, rfl, rfl⟩)
      · exact done_plain h (exec_fieldAddr ho (run off _ _ ⟨_, hoff⟩ e)) (.inr ⟨o', z, xs, h1, by rw [Nat.add_assoc]⟩)
    | some c =>
      obtain ⟨o', z, xs, h1, e⟩ := hv
      exact done_plain h (exec_fieldAddr ho (run off _ _ ⟨_, hoff⟩ e)) ⟨o', z, xs, h1, by rw [Nat.add_assoc]⟩
  · rename_i off z0 x j hoff hp
    rw [hp] at hv
    have hv' : FR w (Fz U w ow σ.ob) [a.eval p] (.rp x j) := hv
    refine ⟨_, .none, [], hk, fun _ => ?_⟩
    generalize hu : a.eval p = u at hv'
    cases hv' with
    | rp hA hc hx =>
      refine done_plain h (exec_fieldAddr ho (run off _ _ ⟨_, hoff⟩ hu)) ?_
      show FR _ _ _ _
      rw [Nat.add_assoc]
      exact .rp hA hc hx
  · cases hk

theorem at_shift {b off i z : Nat} {ecs : List Value} (h : At w b (off + i * z) ecs) : At w b (off + i * z) ecs := h

theorem q_indexAddr (hT : TOk P T) (h : Sim T.globL U w0 F0 σ a w ow) {t : TypeId} {p q : Operand} (ho : o.op = .indexAddr t p q)
    (hk : (match T.el t, T.arr t, val T σ p with
    | some (_, z), _, .sl z' xs => bif Nat.beq z z' then asI (val T σ q) fun i => ix xs i fun x => K (.rp x 0) .none [] else none
    | some (_, z), _, .ref k c m => match obRow (lkE σ) k c with
      | some (_, z', xs) => bif Nat.beq z z' then asI (val T σ q) fun i => chk (decide (0 ≤ i) && decide (i < cutLen xs m)) (K (.ptr k c i.toNat 0) .none []) else none
      | none => none
    | none, some (n, z), .rp x j => asI (val T σ q) fun i => chk (decide (0 ≤ i) && decide (i < n)) (K (.rp x (j + i.toNat * z)) .none [])
    | _, _, _ => none) = some r) : Good P T U w0 F0 σ a w o d K r := by
  have hv := val_sr h p
  split at hk
  · rename_i e z z' xs hel hp
    obtain ⟨hz, hk2⟩ := bif_some hk
    cases beq_nat.1 hz
    obtain ⟨ik, i, hq, hk3⟩ := asI_some hk2
    obtain ⟨n, rfl, x, hx, hk4⟩ := ix_some hk3
    obtain ⟨hq', _⟩ := val_sc h hq
    obtain ⟨ii, h1, h2, h3, _⟩ := hT.el t e z hel
    rw [hp] at hv
    have hv' : FR w (Fz U w ow σ.ob) [a.eval p] (.sl z xs) := hv
    refine ⟨_, .none, [], hk4, fun _ => ?_⟩
    generalize hu : a.eval p = u at hv'
    cases hv' with
    | sl b off ec hn hc ha hl hfr =>
      have hlt : n < xs.length := (List.getElem?_eq_some_iff.1 hx).1
      rw [hn] at hlt
      obtain ⟨rfl, hA⟩ := ha (by omega)
      refine done_plain h (exec_indexAddr ho (u := .pointer (some ⟨b, off + n * z, none⟩)) ?_) ?_
      · rw [hu, hq']
        simp [Instr.indexAt, asIntOf, run_underlying h1, sizeOf, typeInfo, h2, h3, add_addr]
        omega
      · have hr := FR.rp (j := 0) hA (hl n hlt).2 (hfr n x hx)
        exact hr
  · rename_i e z k c m hel hp
    split at hk
    · rename_i o' z' xs hr
      obtain ⟨o'', hr'⟩ := obRow_eO hr
      obtain ⟨hz, hk2⟩ := bif_some hk
      cases beq_nat.1 hz
      obtain ⟨ik, i, hq, hk3⟩ := asI_some hk2
      obtain ⟨hi, hk4⟩ := chk_some hk3
      simp only [Bool.and_eq_true, decide_eq_true_eq] at hi
      obtain ⟨hq', _⟩ := val_sc h hq
      obtain ⟨ii, h1, h2, h3, _⟩ := hT.el t e z hel
      rw [hp] at hv
      obtain ⟨o3, z3, xs3, cp, e1, e2, e3, e4, e5⟩ := hv
      have hr'' : obRow (fun k => σ.ob.getD k .none) k c = some (o'', z, xs) := hr'
      rw [hr''] at e1
      cases e1
      refine ⟨_, .none, [], hk4, fun _ => ?_⟩
      refine done_plain h (exec_indexAddr ho (u := .pointer (some ⟨ow k c, i.toNat * z, none⟩)) ?_) ?_
      · rw [e2, hq']
        simp [Instr.indexAt, asIntOf, run_underlying h1, sizeOf, typeInfo, h2, h3, add_addr]
        omega
      · cases c with
        | none => exact .inr ⟨o'', z, xs, obRow_none.1 hr'', rfl⟩
        | some c => exact ⟨o'', z, xs, hr'', rfl⟩
    · cases hk
  · rename_i n z x j hel harr hp
    obtain ⟨ik, i, hq, hk⟩ := asI_some hk
    obtain ⟨hi, hk⟩ := chk_some hk
    simp only [Bool.and_eq_true, decide_eq_true_eq] at hi
    obtain ⟨hq', _⟩ := val_sc h hq
    obtain ⟨e, ii, h1, h2, h3⟩ := hT.arr t n z harr
    rw [hp] at hv
    have hv' : FR w (Fz U w ow σ.ob) [a.eval p] (.rp x j) := hv
    refine ⟨_, .none, [], hk, fun _ => ?_⟩
    generalize hu : a.eval p = u at hv'
    cases hv' with
    | rp hA hc hx =>
      rename_i b off ecs
      refine done_plain h (exec_indexAddr ho (u := .pointer (some ⟨b, off + (j + i.toNat * z), none⟩)) ?_) (.rp hA hc hx)
      rw [hu, hq']
      have hi2 : ¬ (i < 0) := by omega
      simp [Instr.indexAt, asIntOf, run_underlying h1, sizeOf, typeInfo, h2, h3, add_addr, Instr.sureAddr, hi.1, hi.2, Nat.add_assoc]
  · cases hk

theorem q_index (hT : TOk P T) (h : Sim T.globL U w0 F0 σ a w ow) {t : TypeId} {p q : Operand} (ho : o.op = .index t p q)
    (hk : (match val T σ p with
    | .sc (.string s) => bif isStrTy (T.ty t) then asI (val T σ q) fun i => ixS s i fun b => K (.sc (.int .u8 b)) .none [] else none
    | _ => none) = some r) : Good P T U w0 F0 σ a w o d K r := by
  split at hk
  · rename_i s hp
    obtain ⟨hty, hk⟩ := bif_some hk
    obtain ⟨ik, i, hq, hk⟩ := asI_some hk
    obtain ⟨n, rfl, b, hb, hk⟩ := ixS_some hk
    obtain ⟨hp', _⟩ := val_sc h hp
    obtain ⟨hq', _⟩ := val_sc h hq
    have hty' : T.ty t = .c .tx := by
      unfold isStrTy at hty
      split at hty
      · assumption
      · cases hty
    obtain ⟨dd, ii, h1, _, _, _, h2⟩ := hT.tyc t _ hty'
    have h2 : dd = .string := h2
    subst h2
    refine ⟨_, .none, [], hk, fun _ => done_plain h (exec_index ho ?_) (FR.sc rfl : FR w (Fz U w ow σ.ob) [.int .u8 b.toNat] (.sc (.int .u8 b.toNat)))⟩
    rw [hp', hq']
    simp [Instr.index, asIntOf, run_underlying h1, hb]
  · cases hk

theorem q_extract (h : Sim T.globL U w0 F0 σ a w ow) {p : Operand} {i : Nat} (ho : o.op = .extract p i)
    (hk : (match val T σ p with
    | .tup vs => (match vs.getD i .dead with | .dead => none | x => K x .none [])
    | _ => none) = some r) : Good P T U w0 F0 σ a w o d K r := by
  have hv := val_sr h p
  split at hk
  · rename_i vs hp
    rw [hp] at hv
    obtain ⟨arr, e1, e2, e3⟩ := hv
    rw [List.getD_eq_getElem?_getD] at hk
    cases hi : vs[i]? with
    | none => rw [hi] at hk; simp at hk
    | some y =>
      rw [hi] at hk
      simp only [Option.getD_some] at hk
      have hlt := (List.getElem?_eq_some_iff.1 hi).1
      have hu : arr[i]? = some (arr[i]'(by omega)) := Array.getElem?_eq_getElem (by omega)
      have hsv := e3 i _ y hu hi
      have hK : K y .none [] = some r := by cases y <;> first | exact hk | cases hk
      refine ⟨y, .none, [], hK, fun _ => done_plain h (exec_extract ho (u := arr[i]'(by omega)) ?_) ?_⟩
      · rw [e1]; simp [Instr.extract, hu]
      · cases y <;> first | exact hsv | exact (hsv : False).elim
  · cases hk
end

end Go.Proofs.YtmddfhjgdhjmkaaDoor.VM
