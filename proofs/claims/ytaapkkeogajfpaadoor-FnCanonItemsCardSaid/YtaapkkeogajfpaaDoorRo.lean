/- Functions that only look at the boxes that they are handed: the walks. -/
import Derived.Test.YtaapkkeogajfpaaDoorMD
import Derived.Test.YtaapkkeogajfpaaDoorProg
import Derived.Tactics2
import Derived.IntWalk
import Derived.KernelRfl
set_option linter.unusedVariables false
set_option linter.unusedSimpArgs false
namespace Go.Proofs.YtaapkkeogajfpaaDoor.VM
open Go.Proofs

/-- the length of an element of a row of rows -/
def elLen (x : V) : Option Nat :=
  match x with
  | .nil => some 0
  | .own _ 1 ys => some ys.length
  | _ => none
def xFull (vs : List V) : Option Int :=
  match vs with
  | [.io (.seg .no xs :: _), .sc (.int .i64 (.ofNat i))] => match xs[i]? with
    | some x => match elLen x with
      | some n => some (IntKind.wrap .i64 ((n : Int) / 8))
      | none => none
    | none => none
  | _ => none
theorem full_calls {b G i n cap l : Nat} {c : Nat} {base : Option Addr} {w : World} (h1 : w.cell? ⟨b, 0, none⟩ = some (.slice (some ⟨G, 0, none⟩) n cap)) (hi : i < n) (h2 : w.cell? ⟨G, i, none⟩ = some (.slice base l c)) :
    Calls Tryd.prog 160 #[.pointer (some ⟨b, 0, none⟩), .int .i64 i] w fun e w' => e = .returned (.int .i64 (IntKind.wrap .i64 ((l : Int) / 8))) ∧ w' = w := by
  go_enter Tryd.func160, Tryd.ntmps160
  go_wp2
  go_ret
  refine ⟨?_, rfl⟩
  rw [IntWalk.i64_left]
  rfl

theorem elLen_h {w : World} {g n : Nat} {u : Value} {x : V} (h : ElH w g u x) (hn : elLen x = some n) : ∃ base c, u = .slice base n c := by
  rcases h with ⟨rfl, rfl⟩ | ⟨ys, cp, rfl, rfl, _⟩
  · cases hn; exact ⟨_, _, rfl⟩
  · cases hn; exact ⟨_, _, rfl⟩
theorem eC_seg {x : V} {l : Lo} {xs : List V} (h : eC x = .seg l xs) : x = .seg l xs := by cases x <;> first | exact h | cases h
theorem full_ok : RoFn Tryd.prog 160 xFull where
  fn := ⟨Tryd.f160, _, by kernel_rfl, by kernel_rfl, rfl⟩
  ok := fun U w ow ob vs cargs u ho hsz harg hg => by
    unfold xFull at hg
    split at hg
    · rename_i xs rest i
      split at hg
      · rename_i x hx
        split at hg
        · rename_i n hn
          cases hg
          have hs2 : cargs.size = 2 := hsz
          obtain ⟨k, b, cs0, hk, he, h0⟩ : RoArg ow ob cargs[0] (.io (.seg .no xs :: rest)) := harg 0 _ _ (Array.getElem?_eq_getElem (by omega)) rfl
          have h1 : cargs[1] = .int .i64 (.ofNat i) := harg 1 _ (.sc (.int .i64 (.ofNat i))) (Array.getElem?_eq_getElem (by omega)) rfl
          have hca : cargs = #[.pointer (some ⟨ow k none, 0, none⟩), .int .i64 (.ofNat i)] := by
            refine Array.ext (by simpa using hs2) fun j h1' h2' => ?_
            match j, h2' with
            | 0, _ => exact h0
            | 1, _ => exact h1
          cases cs0 with
          | nil => cases he
          | cons y cs1 =>
            rw [List.map_cons] at he
            injection he with he _
            have hy := eC_seg he.symm
            subst hy
            have ho1 : OR w _ ow k _ := ho.obs k
            rw [hk] at ho1
            obtain ⟨hth, hbc⟩ := ho1
            obtain ⟨v0, hv0⟩ : ∃ v, w.cell? ⟨ow k none, 0, none⟩ = some v := Option.isSome_iff_exists.1 (hth 0 (by simp)).1
            have hb0 : SegOk w _ ow k 0 v0 .no xs := hbc 0 v0 _ hv0 rfl
            obtain ⟨cp, rfl, _, _⟩ := hb0.hd (by simp)
            obtain ⟨v1, hv1, hel⟩ := hb0.hl i x hx (by simp)
            obtain ⟨base, c, rfl⟩ := elLen_h hel hn
            have hi : i < xs.length := (List.getElem?_eq_some_iff.1 hx).1
            rw [hca]
            exact (full_calls hv0 hi hv1).mono fun e w' ⟨e1, e2⟩ => ⟨e1, e2 ▸ Ext.refl _ _⟩
        · cases hg
      · cases hg
    · cases hg
end Go.Proofs.YtaapkkeogajfpaaDoor.VM
