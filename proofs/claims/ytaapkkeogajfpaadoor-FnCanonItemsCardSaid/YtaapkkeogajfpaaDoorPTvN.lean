/- What came in as a node is one of the plain ones; the listed variable reads as the machine has it. -/
import Derived.Test.YtaapkkeogajfpaaDoorPlCn
import Derived.Test.YtaapkkeogajfpaaDoorRows
import Derived.LaidMore
import Derived.ProofKit
import Derived.ChangeVars
set_option linter.unusedVariables false
set_option linter.unusedSimpArgs false
namespace Go.Proofs.YtaapkkeogajfpaaDoor.VM
open Go.Proofs Go.RowKit

theorem clsN : clsB Tryd.prog [3, 9, 41, 43] = true := by kernel_rfl
theorem cellsNode : Tryd.prog.cellsOf 43 = 6 := by kernel_rfl
theorem bytesNode : Tryd.prog.bytesOf 43 = 88 := by kernel_rfl
set_option maxRecDepth 10000 in
theorem tv_nod : ∀ (n : Nat) {x : V}, TV Tryd.prog n 43 x → ∃ d, x = encN d ∧ okN d := by
  intro n
  induction n using Nat.strongRecOn with
  | ind n ih =>
    intro x h
    cases n with
    | zero => exact h.elim
    | succ n =>
      unfold TV at h
      rw [Tryd.underlying43] at h
      obtain ⟨xs, rfl, h⟩ := h
      rcases xs with _ | ⟨x0, _ | ⟨x1, _ | ⟨x2, _ | ⟨x3, _ | ⟨x4, _ | ⟨x5, _ | ⟨x6, xs⟩⟩⟩⟩⟩⟩⟩ <;> try (simp [TVs] at h; done)
      obtain ⟨h0, h1, h2, h3, h4, h5, _⟩ := h
      cases n with
      | zero => exact h0.elim
      | succ n =>
        unfold TV at h0 h1 h2 h3 h4 h5
        have e0 : Tryd.prog.underlying 3 = some (.int .i64) := Tryd.underlying3
        simp only [e0, Tryd.underlying9, Tryd.underlying41] at h0 h1 h2 h3 h4 h5
        obtain ⟨k, rfl, _⟩ := h0
        obtain ⟨s, rfl, hs⟩ := h1
        obtain ⟨l, rfl, hl, hx⟩ := h2
        obtain ⟨m, rfl, _⟩ := h3
        obtain ⟨c, rfl, _⟩ := h4
        obtain ⟨l', rfl, hl', hx'⟩ := h5
        rw [bytesNode] at hl hl'
        have key : ∀ ys : List V, (∀ y ∈ ys, TV Tryd.prog n 43 y) → ∃ ds, ys = encNs ds ∧ okNs ds := by
          intro ys
          induction ys with
          | nil => exact fun _ => ⟨[], by rw [encNs], by rw [okNs]; trivial⟩
          | cons y ys ihy =>
            intro hy
            obtain ⟨ds, rfl, hd⟩ := ihy fun z hz => hy z (List.mem_cons_of_mem _ hz)
            obtain ⟨d, rfl, hd0⟩ := ih n (by omega) (hy y (List.mem_cons_self ..))
            exact ⟨d :: ds, by rw [encNs], by rw [okNs]; exact ⟨hd0, hd⟩⟩
        obtain ⟨ds, rfl, hd⟩ := key l hx
        obtain ⟨ds', rfl, hd'⟩ := key l' hx'
        rw [encNs_length] at hl hl'
        exact ⟨.mk k s ds m c ds', by rw [cellsNode, encN]; rfl, by rw [okN]; exact ⟨hs, hl, hl', hd, hd'⟩⟩
theorem encN_st (d : Nod) : ∃ cs, encN d = .st cs ∧ 2 ≤ cs.length := by cases d; rw [encN]; exact ⟨_, rfl, by simp⟩

/-! ### the listed variable -/
theorem gBits : Tryd.prog.globalNamed "loop.example/quoin/impl.sizeBits" = some 0 := by kernel_rfl
theorem gBitsType : (Tryd.prog.globals[0]?).map (·.type) = some 128 := by kernel_rfl
def bitsCells : Array Value := #[.int .i64 0, .int .i64 1, .int .i64 8, .int .i64 16, .int .i64 32, .int .i64 64, .int .i64 64]
theorem int_of_trod {H : Type} {enc : TypeId × Value → H} {P : Program} {w : World} {base : Nat} {sp : Nat → Bool} {held : Bool} {fuel : Nat} {t : TypeId} {k : IntKind} {c : Value} {y : DataW H × List MemPlace}
    (ht : P.underlying t = some (.int k)) (h : DataW.trod enc P w base sp held fuel t [c] = some y) : ∃ n, c = .int k n ∧ y = (.lit (.int k n), []) := by
  cases fuel with
  | zero => simp [DataW.trod] at h
  | succ fuel =>
    cases c <;> simp [DataW.trod, ht] at h
    rename_i k' n
    obtain ⟨⟨rfl, _⟩, rfl⟩ := h
    exact ⟨n, rfl, rfl⟩
theorem cellsBits : Tryd.prog.cellsOf 128 = 7 := by kernel_rfl
theorem cellsInt : Tryd.prog.cellsOf 3 = 1 := by kernel_rfl
theorem bits_of_laid {W : World} (h : laidMetH Tryd.prog [("loop.example/quoin/impl.sizeBits", Rows.laid_loop_example_quoin_impl_sizeBits)] W) : W.var? Tryd.prog "loop.example/quoin/impl.sizeBits" = some bitsCells := by
  rw [MakeChecks.laidMetH_plain _ _ _ (by kernel_rfl)] at h
  obtain ⟨ps, ⟨g, t, cs, fuel, p, q, hg, ht, hvar, hd, _, _⟩, _⟩ := h
  obtain rfl := Option.some.inj (gBits.symm.trans hg)
  obtain rfl := Option.some.inj (gBitsType.symm.trans ht)
  rw [hvar]
  congr 1
  obtain ⟨l⟩ := cs
  cases fuel with
  | zero => simp [DataW.trod] at hd
  | succ fuel =>
    simp only [DataW.trod, Tryd.underlying128, cellsBits, cellsInt] at hd
    split at hd
    · rename_i hl
      obtain ⟨c0, c1, c2, c3, c4, c5, c6, rfl⟩ : ∃ c0 c1 c2 c3 c4 c5 c6, l = [c0, c1, c2, c3, c4, c5, c6] := by
        match l, hl with
        | [a, b, c, d, e, f, g], _ => exact ⟨a, b, c, d, e, f, g, rfl⟩
      have e : List.range 7 = [0, 1, 2, 3, 4, 5, 6] := rfl
      rw [e] at hd
      simp only [Option.map_eq_some_iff, List.mapM_cons, List.mapM_nil, Option.bind_eq_bind, Option.bind_eq_some_iff, Option.pure_def, Option.some.injEq] at hd
      obtain ⟨xs, ⟨y0, h0, _, ⟨y1, h1, _, ⟨y2, h2, _, ⟨y3, h3, _, ⟨y4, h4, _, ⟨y5, h5, _, ⟨y6, h6, _, rfl, rfl⟩, rfl⟩, rfl⟩, rfl⟩, rfl⟩, rfl⟩, rfl⟩, hx⟩ := hd
      obtain ⟨n0, rfl, rfl⟩ := int_of_trod Tryd.underlying3 h0
      obtain ⟨n1, rfl, rfl⟩ := int_of_trod Tryd.underlying3 h1
      obtain ⟨n2, rfl, rfl⟩ := int_of_trod Tryd.underlying3 h2
      obtain ⟨n3, rfl, rfl⟩ := int_of_trod Tryd.underlying3 h3
      obtain ⟨n4, rfl, rfl⟩ := int_of_trod Tryd.underlying3 h4
      obtain ⟨n5, rfl, rfl⟩ := int_of_trod Tryd.underlying3 h5
      obtain ⟨n6, rfl, rfl⟩ := int_of_trod Tryd.underlying3 h6
      simp [Rows.laid_loop_example_quoin_impl_sizeBits] at hx
      obtain ⟨⟨rfl, rfl, rfl, rfl, rfl, rfl, rfl⟩, _⟩ := hx
      rfl
    · cases hd
/-- cells of words alone -/
theorem fr_words {w : World} {A : Nat → Prop} {cs : List Value} (h : ∀ v ∈ cs, v.oneCell' = true) : FR w A cs (.st (cs.map .sc)) :=
  .st (by simp) fun i v x hv hx => by
    rw [List.getElem?_map, hv] at hx
    cases hx
    exact .sc (h v (List.mem_of_getElem? hv))
theorem glb_of_var {W : World} (hv : W.var? Tryd.prog "loop.example/quoin/impl.sizeBits" = some bitsCells) : Glb T.globL W fun b => b < W.heap.size := by
  intro g x hx
  have hg : g = 0 ∧ x = .st (bitsCells.toList.map .sc) := by
    unfold T at hx
    simp only [fnd] at hx
    cases hb : Nat.beq 0 g with
    | true => rw [hb] at hx; cases hx; exact ⟨(Nat.eq_of_beq_eq_true hb).symm, rfl⟩
    | false => rw [hb] at hx; cases hx
  obtain ⟨rfl, rfl⟩ := hg
  have hc : ∀ j v, bitsCells.toList[j]? = some v → W.cell? ⟨0, j, none⟩ = some v := fun j v h => by
    have := World.var?_cell gBits hv j
    rw [this]
    simpa using h
  refine ⟨?_, bitsCells.toList, fun j v h => by rw [Nat.zero_add]; exact hc j v h, fr_words ?_⟩
  · have h0 := hc 0 _ rfl
    unfold World.cell? at h0
    by_cases hlt : 0 < W.heap.size
    · exact hlt
    · simp [Array.getElem?_eq_none (Nat.le_of_not_lt hlt)] at h0
  · decide
/-! ### the row's condition -/
abbrev laid0 {H : Type} : List (String × DataW H) := [("loop.example/quoin/impl.sizeBits", Rows.laid_loop_example_quoin_impl_sizeBits)]
theorem own : ownKnob Tryd.prog.godebug = none := by kernel_rfl
theorem laidOut : laidOutB Tryd.prog = true := by kernel_rfl
theorem door_met (os : Os) (args : Array Value) : laidMetH Tryd.prog laid0 ((World.doorLaid Tryd.prog 400 os).forCall (fun _ _ => 0) ⟨#[], args, []⟩).memory :=
  laidMetH_of_parts3 (fuel := 8) (laidMet_of_run' 8 (by kernel_rfl) (by kernel_rfl)) (by kernel_rfl) (by kernel_rfl)
theorem door_shaped (os : Os) (args : Array Value) : ((World.doorLaid Tryd.prog 400 os).forCall (fun _ _ => 0) ⟨#[], args, []⟩).Shaped Tryd.prog := World.shaped_of_RefB (by kernel_rfl) (by kernel_rfl)
end Go.Proofs.YtaapkkeogajfpaaDoor.VM
