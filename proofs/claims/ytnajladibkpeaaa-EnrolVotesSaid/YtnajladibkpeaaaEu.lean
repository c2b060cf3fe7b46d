/-
  The reference: linked.
-/
import Derived.Test.YtnajladibkpeaaaEt
set_option linter.unusedVariables false
set_option linter.unusedSimpArgs false
set_option maxRecDepth 20000
set_option maxHeartbeats 4000000
namespace Go.Gx
open Go.RowKit Go.Proofs Go.Proofs.Ytnajladibkpeaaa

/-- A link says that a and b are one person. -/
def EG.lkB (g : EG) (a b : Int) (j : Nat) : Bool := (g.l j).s && (decide ((g.l j).a = a) && decide ((g.l j).b = b) || decide ((g.l j).a = b) && decide ((g.l j).b = a))
theorem linked58 (g : EG) (h : g.OK) (a b : Int) : Pure Try.prog 58 [g.sv, .i a, .i b] (· = .b ((List.range g.nl).any (g.lkB a b))) := by
  refine pure_of_GC T_ok Try.func58 rfl (by kernel_rfl) (Nat.le_of_ble_eq_true rfl) rfl rfl ?_
  have := h.nl
  simp [go_sem]
  refine GLoop_of T_ok (α := Nat) (fun k => [(1, .i a), (2, .i b), (3, .ptr 0 0 3 0), (7, .i k)]) (fun _ => [g.bx]) 1 (fun k => k ≤ g.nl ∧ ∀ j, j < k → g.lkB a b j = false) (fun k => g.nl - k) 0 (fun _ => rfl) (by simp) (by simp [go_sem]) (by simp [go_sem]) ?_
  intro k J hi
  by_cases hlt : k < g.nl
  rotate_left
  · simp [go_sem, hlt]
    intro j hj
    have := hi.2 j (by omega)
    simpa using this
  have step : g.lkB a b k = false → (k + 1 ≤ g.nl ∧ ∀ j, j < k + 1 → g.lkB a b j = false) := fun hf => ⟨by omega, fun j hj => by
    by_cases hjk : j = k
    · subst hjk; exact hf
    · exact hi.2 j (by omega)⟩
  have yes : g.lkB a b k = true → (List.range g.nl).any (g.lkB a b) = true := fun ht => List.any_eq_true.2 ⟨k, List.mem_range.2 hlt, ht⟩
  by_cases hs : (g.l k).s = true
  rotate_left
  · have hs' : (g.l k).s = false := by simpa using hs
    simp [go_sem, hlt, hs']
    exact ⟨by omega, k + 1, step (by simp [EG.lkB, hs']), by omega, by omega⟩
  generalize hx : (g.l k).a = x at *
  generalize hy : (g.l k).b = y at *
  have hB : g.lkB a b k = (decide (x = a) && decide (y = b) || decide (x = b) && decide (y = a)) := by simp [EG.lkB, hs, hx, hy]
  by_cases c1 : x = a
  · subst c1
    by_cases c2 : y = b
    · subst c2
      have ht : g.lkB x y k = true := by rw [hB]; simp
      rw [yes ht]
      simp [go_sem, hlt, hs, hx, hy]
    · by_cases c3 : x = b
      · subst c3
        have hf : g.lkB x x k = false := by rw [hB]; simp [c2]
        simp [go_sem, hlt, hs, hx, hy, c2]
        exact ⟨by omega, k + 1, step hf, by omega, by omega⟩
      · have hf : g.lkB x b k = false := by rw [hB]; simp [c2, c3]
        simp [go_sem, hlt, hs, hx, hy, c2, c3]
        exact ⟨by omega, k + 1, step hf, by omega, by omega⟩
  · by_cases c3 : x = b
    · subst c3
      by_cases c4 : y = a
      · subst c4
        have ht : g.lkB y x k = true := by rw [hB]; simp
        rw [yes ht]
        simp [go_sem, hlt, hs, hx, hy, c1]
      · have hf : g.lkB a x k = false := by rw [hB]; simp [c1, c4]
        simp [go_sem, hlt, hs, hx, hy, c1, c4]
        exact ⟨by omega, k + 1, step hf, by omega, by omega⟩
    · have hf : g.lkB a b k = false := by rw [hB]; simp [c1, c3]
      simp [go_sem, hlt, hs, hx, hy, c1, c3]
      exact ⟨by omega, k + 1, step hf, by omega, by omega⟩
end Go.Gx
