/- The abstract machine and the memory: relations and their first laws. -/
import Derived.Test.YtmddfhjgdhjmkaaDoorVM
import Derived.Below
import Derived.Deep.MidRow
import Derived.ArgAppend
set_option linter.unusedVariables false
set_option linter.unusedSimpArgs false
namespace Go.Proofs.YtmddfhjgdhjmkaaDoor.VM

/-- the cells cs lie from ⟨b, o⟩ on -/
abbrev At (w : World) (b o : Nat) (cs : List Value) : Prop := w.rangeAt b o cs

/-- frozen data: the cells cs read as x, all memory behind them in blocks of A -/
inductive FR (w : World) (A : Nat → Prop) : List Value → V → Prop where
  | sc {v : Value} (h : v.oneCell' = true) : FR w A [v] (.sc v)
  | nil : FR w A [.slice none 0 0] .nil
  | sl {a : Option Addr} {n c z : Nat} {xs : List V} (b o : Nat) (ec : Nat → List Value) (hn : xs.length = n) (hc : n ≤ c)
      (ha : 0 < n → a = some ⟨b, o, none⟩ ∧ A b) (hl : ∀ i, i < n → (ec i).length = z ∧ At w b (o + i * z) (ec i))
      (hx : ∀ i x, xs[i]? = some x → FR w A (ec i) x) : FR w A [.slice a n c] (.sl z xs)
  | st {cs : List Value} {vs : List V} (hl : cs.length = vs.length) (h : ∀ (i : Nat) v x, cs[i]? = some v → vs[i]? = some x → FR w A [v] x) : FR w A cs (.st vs)
  | rp {b o j : Nat} {ecs : List Value} {x : V} (hA : A b) (hc : At w b o ecs) (hx : FR w A ecs x) : FR w A [.pointer (some ⟨b, o + j, none⟩)] (.rp x j)
  | clo {f : FuncId} {cv : Array Value} {caps : List V} (hl : cv.size = caps.length) (h : ∀ (i : Nat) v x, cv[i]? = some v → caps[i]? = some x → FR w A [v] x) : FR w A [.func (.func f) #[] cv] (.clo f caps)

theorem At.mono {w w' : World} {b o : Nat} {cs : List Value} (h : At w b o cs) (hb : w'.heap[b]? = w.heap[b]?) : At w' b o cs :=
  fun j v hv => (World.cell?_of_block (w := w) (w' := w') (a := ⟨b, o + j, none⟩) hb).trans (h j v hv)

theorem FR.mono {w w' : World} {A A' : Nat → Prop} {cs : List Value} {x : V} (h : FR w A cs x)
    (hb : ∀ b, A b → w'.heap[b]? = w.heap[b]?) (hA : ∀ b, A b → A' b) : FR w' A' cs x := by
  induction h with
  | sc h => exact .sc h
  | nil => exact .nil
  | sl b o ec hn hc ha hl _ ih =>
    refine .sl b o ec hn hc (fun h0 => ⟨(ha h0).1, hA _ (ha h0).2⟩) (fun i hi => ⟨(hl i hi).1, (hl i hi).2.mono (hb _ (ha (by omega)).2)⟩) ih
  | st hl _ ih => exact .st hl ih
  | rp hA' hc _ ih => exact .rp (hA _ hA') (hc.mono (hb _ hA')) ih
  | clo hl _ ih => exact .clo hl ih

/-- a value of a slot or of an argument reads as x -/
def VR (w : World) (A : Nat → Prop) (v : Value) (x : V) : Prop :=
  match x with
  | .st vs => ∃ arr, v = .agg arr ∧ FR w A arr.toList (.st vs)
  | x => FR w A [v] x

theorem VR.mono {w w' : World} {A A' : Nat → Prop} {v : Value} {x : V} (h : VR w A v x)
    (hb : ∀ b, A b → w'.heap[b]? = w.heap[b]?) (hA : ∀ b, A b → A' b) : VR w' A' v x := by
  unfold VR at *
  split
  · obtain ⟨arr, h1, h2⟩ := h
    exact ⟨arr, h1, h2.mono hb hA⟩
  · rename_i hx
    cases x <;> first
      | exact absurd rfl (hx _)
      | exact FR.mono h hb hA

theorem FR.one {w : World} {A : Nat → Prop} {cs : List Value} {x : V} (h : FR w A cs x) : ∀ v ∈ cs, v.oneCell' = true := by
  induction h with
  | sc h => intro v hv; simp at hv; subst hv; exact h
  | nil => intro v hv; simp at hv; subst hv; rfl
  | sl => intro v hv; simp at hv; subst hv; rfl
  | rp => intro v hv; simp at hv; subst hv; rfl
  | clo => intro v hv; simp at hv; subst hv; rfl
  | @st cs vs hl _ ih =>
    intro v hv
    obtain ⟨i, hi, rfl⟩ := List.getElem_of_mem hv
    have hv' : cs[i]? = some cs[i] := List.getElem?_eq_getElem hi
    have hx' : vs[i]? = some (vs[i]'(by omega)) := List.getElem?_eq_getElem (by omega)
    exact ih i _ _ hv' hx' _ (by simp)

theorem cells_of_one {v : Value} (h : v.oneCell' = true) : v.cells = #[v] := by
  cases v <;> first | rfl | simp [Value.oneCell'] at h

theorem VR.fr {w : World} {A : Nat → Prop} {v : Value} {x : V} (h : VR w A v x) : FR w A v.cells.toList x := by
  by_cases hx : ∃ vs, x = .st vs
  · obtain ⟨vs, rfl⟩ := hx
    obtain ⟨arr, rfl, h⟩ := h
    exact h
  · have h' : FR w A [v] x := by
      cases x <;> first | exact h | exact absurd ⟨_, rfl⟩ hx
    rw [cells_of_one (h'.one v (by simp))]
    exact h'

theorem obRow_none {lk : Nat → Ob} {k : Nat} {o : Bool} {z : Nat} {xs : List V} : obRow lk k none = some (o, z, xs) ↔ lk k = .row o z xs := by
  unfold obRow
  cases lk k <;> simp
theorem obRow_some {lk : Nat → Ob} {k c : Nat} {o : Bool} {z : Nat} {xs : List V} : obRow lk k (some c) = some (o, z, xs) ↔ ∃ b cs, lk k = .box b cs ∧ cs[c]? = some (.own o z xs) := by
  unfold obRow
  cases lk k with
  | none => simp
  | row => simp
  | box b cs =>
    simp only [List.getD_eq_getElem?_getD]
    constructor
    · intro h
      refine ⟨b, cs, rfl, ?_⟩
      cases hc : cs[c]? with
      | none => rw [hc] at h; simp at h
      | some x => rw [hc] at h; cases x <;> simp_all
    · rintro ⟨b', cs', h1, h2⟩
      injection h1 with _ h1
      subst h1
      rw [h2]
      rfl

/-! ### own memory -/
abbrev Own := Nat → Option Nat → Nat

/-- so many cells are there and may be written -/
abbrev Th (w : World) (g n : Nat) : Prop := w.there g 0 n

/-- the elements xs lie in block g, z cells each -/
def RowAt (w : World) (A : Nat → Prop) (g z : Nat) (xs : List V) : Prop :=
  ∀ (i : Nat) x, xs[i]? = some x → ∃ ecs, ecs.length = z ∧ At w g (i * z) ecs ∧ FR w A ecs x

/-- the row of a key: block g, of capacity c at least -/
structure RowOk (w : World) (A : Nat → Prop) (g z : Nat) (xs : List V) (c : Nat) : Prop where
  le : xs.length ≤ c
  th : Th w g (c * z)
  at_ : RowAt w A g z xs

/-- one cell of a box -/
def BC (w : World) (A : Nat → Prop) (ow : Own) (k j : Nat) (v : Value) (x : V) : Prop :=
  match x with
  | .own _ z xs => ∃ c, v = .slice (some ⟨ow k (some j), 0, none⟩) xs.length c ∧ RowOk w A (ow k (some j)) z xs c
  | .dead => True
  | .st _ => False
  | x => FR w A [v] x

/-- an object -/
def OR (w : World) (A : Nat → Prop) (ow : Own) (k : Nat) (o : Ob) : Prop :=
  match o with
  | .none => True
  | .box _ cs => Th w (ow k none) cs.length ∧ ∀ (j : Nat) v x, w.cell? ⟨ow k none, j, none⟩ = some v → cs[j]? = some x → BC w A ow k j v x
  | .row _ z xs => ∃ c, RowOk w A (ow k none) z xs c

/-- the keys that are there; those that may be written -/
def alive (ob : List Ob) (k : Nat) (c : Option Nat) : Prop :=
  match c, ob.getD k .none with
  | none, .none => False
  | none, _ => True
  | some j, .box _ cs => ∃ o z xs, cs[j]? = some (.own o z xs)
  | some _, _ => False
def owned (ob : List Ob) (k : Nat) (c : Option Nat) : Prop :=
  match c, ob.getD k .none with
  | none, .none => False
  | none, .box o _ => o = true
  | none, .row o _ _ => o = true
  | some j, .box _ cs => ∃ z xs, cs[j]? = some (.own true z xs)
  | some _, _ => False

theorem alive_of_owned {ob : List Ob} {k : Nat} {c : Option Nat} (h : owned ob k c) : alive ob k c := by
  unfold owned at h; unfold alive
  cases c <;> cases hk : ob.getD k .none <;> simp only [hk] at h ⊢
  obtain ⟨z, xs, h⟩ := h
  exact ⟨true, z, xs, h⟩

/-- where frozen data may lie -/
def Fz (U : Nat → Prop) (w : World) (ow : Own) (ob : List Ob) (b : Nat) : Prop :=
  U b ∧ b < w.heap.size ∧ ∀ k c, owned ob k c → ow k c ≠ b

structure HO (U : Nat → Prop) (w : World) (ow : Own) (ob : List Ob) : Prop where
  obs : ∀ k, OR w (Fz U w ow ob) ow k (ob.getD k .none)
  inj : ∀ k c k' c', alive ob k c → alive ob k' c' → ow k c = ow k' c' → k = k' ∧ c = c'
  lt : ∀ k c, alive ob k c → ow k c < w.heap.size ∧ U (ow k c)

/-- one cell of a slot's value -/
def SC (w : World) (A : Nat → Prop) (ow : Own) (ob : List Ob) (v : Value) (x : V) : Prop :=
  match x with
  | .dead => True
  | .ref k c m => ∃ o z xs cp, obRow (fun k => ob.getD k .none) k c = some (o, z, xs) ∧ v = .slice (some ⟨ow k c, 0, none⟩) (cutLen xs m) cp ∧ cutLen xs m ≤ xs.length ∧
      cutLen xs m ≤ cp ∧ Th w (ow k c) (cp * z)
  | .ptr k none i j => (∃ o cs, ob.getD k .none = .box o cs ∧ i = 0 ∧ v = .pointer (some ⟨ow k none, j, none⟩)) ∨
      ∃ o z xs, ob.getD k .none = .row o z xs ∧ v = .pointer (some ⟨ow k none, i * z + j, none⟩)
  | .ptr k (some c) i j => ∃ o z xs, obRow (fun k => ob.getD k .none) k (some c) = some (o, z, xs) ∧ v = .pointer (some ⟨ow k (some c), i * z + j, none⟩)
  | .io _ => False
  | .own .. => False
  | .tup _ => False
  | .dt _ => False
  | .st _ => False
  | x => FR w A [v] x

def SV (w : World) (A : Nat → Prop) (ow : Own) (ob : List Ob) (v : Value) (x : V) : Prop :=
  match x with
  | .dt x => VR w A v x
  | .st vs => ∃ arr, v = .agg arr ∧ arr.size = vs.length ∧ ∀ (j : Nat) u y, arr[j]? = some u → vs[j]? = some y → SC w A ow ob u y
  | x => SC w A ow ob v x

def SR (w : World) (A : Nat → Prop) (ow : Own) (ob : List Ob) (v : Value) (x : V) : Prop :=
  match x with
  | .tup vs => ∃ arr, v = .tuple arr ∧ arr.size = vs.length ∧ ∀ (j : Nat) u y, arr[j]? = some u → vs[j]? = some y → SV w A ow ob u y
  | x => SV w A ow ob v x

end Go.Proofs.YtmddfhjgdhjmkaaDoor.VM
