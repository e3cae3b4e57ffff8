/- What came in as a value (Datum) is one of the plain ones. -/
import Derived.Test.YtmddfhjgdhjmkaaPD
set_option linter.unusedVariables false
set_option linter.unusedSimpArgs false
namespace Go.Proofs.Ytmddfhjgdhjmkaa.VM
open Go.Proofs

theorem clsD : clsB Try.prog [3, 9, 22, 23, 25] = true := by kernel_rfl
theorem cells9 : Try.prog.cellsOf 9 = 1 := by kernel_rfl
theorem cells25 : Try.prog.cellsOf 25 = 5 := by kernel_rfl
theorem bytes9 : Try.prog.bytesOf 9 = 16 := by kernel_rfl
theorem bytes25 : Try.prog.bytesOf 25 = 80 := by kernel_rfl

theorem tv_strs {n : Nat} {x : V} (h : TV Try.prog n 23 x) : ∃ ns : List ByteArray, x = .sl 1 (ns.map encS) ∧ ns.length * 16 ≤ reachBytes := by
  cases n with
  | zero => exact h.elim
  | succ n =>
    unfold TV at h
    rw [Try.underlying23] at h
    obtain ⟨xs, rfl, hl, hx⟩ := h
    rw [bytes9] at hl
    rw [cells9]
    have : ∀ ys : List V, (∀ y ∈ ys, TV Try.prog n 9 y) → ∃ ns : List ByteArray, ys = ns.map encS := by
      intro ys
      induction ys with
      | nil => exact fun _ => ⟨[], rfl⟩
      | cons y ys ih =>
        intro hy
        obtain ⟨ns, rfl⟩ := ih fun z hz => hy z (List.mem_cons_of_mem _ hz)
        have h1 := hy y (List.mem_cons_self ..)
        cases n with
        | zero => exact h1.elim
        | succ n =>
          unfold TV at h1
          rw [Try.underlying9] at h1
          obtain ⟨s, rfl, _⟩ := h1
          exact ⟨s :: ns, rfl⟩
    obtain ⟨ns, rfl⟩ := this xs hx
    rw [List.length_map] at hl
    exact ⟨ns, rfl, hl⟩
theorem tv_dat : ∀ (n : Nat) {x : V}, TV Try.prog n 25 x → ∃ d, x = encD d ∧ okD d := by
  intro n
  induction n using Nat.strongRecOn with
  | ind n ih =>
    intro x h
    cases n with
    | zero => exact h.elim
    | succ n =>
      unfold TV at h
      rw [Try.underlying25] at h
      obtain ⟨xs, rfl, h⟩ := h
      rcases xs with _ | ⟨x0, _ | ⟨x1, _ | ⟨x2, _ | ⟨x3, _ | ⟨x4, _ | ⟨x5, xs⟩⟩⟩⟩⟩⟩ <;> try (simp [TVs] at h; done)
      obtain ⟨h0, h1, h2, h3, h4, _⟩ := h
      cases n with
      | zero => exact h0.elim
      | succ n =>
        unfold TV at h0 h1 h2 h3
        have e0 : Try.prog.underlying 3 = some (.int .i64) := Try.underlying3
        simp only [e0, Try.underlying9, Try.underlying22] at h0 h1 h2 h3
        obtain ⟨k, rfl, _⟩ := h0
        obtain ⟨m, rfl, _⟩ := h1
        obtain ⟨s, rfl, _⟩ := h2
        obtain ⟨l, rfl, hl, hx⟩ := h3
        obtain ⟨ns, rfl, hn⟩ := tv_strs h4
        rw [bytes25] at hl
        have : ∀ ys : List V, (∀ y ∈ ys, TV Try.prog n 25 y) → ∃ ds, ys = encDs ds ∧ okDs ds := by
          intro ys
          induction ys with
          | nil => exact fun _ => ⟨[], rfl, trivial⟩
          | cons y ys ihy =>
            intro hy
            obtain ⟨ds, rfl, hd⟩ := ihy fun z hz => hy z (List.mem_cons_of_mem _ hz)
            obtain ⟨d, rfl, hd0⟩ := ih n (by omega) (hy y (List.mem_cons_self ..))
            exact ⟨d :: ds, rfl, hd0, hd⟩
        obtain ⟨ds, rfl, hd⟩ := this l hx
        rw [encDs_length] at hl
        exact ⟨.mk k m s ds ns, by rw [cells25]; rfl, hl, hn, hd⟩
theorem encD_st (d : Dat) : ∃ cs, encD d = .st cs ∧ 2 ≤ cs.length := by cases d; exact ⟨_, rfl, by simp⟩
end Go.Proofs.Ytmddfhjgdhjmkaa.VM
