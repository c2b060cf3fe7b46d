/-
  The reference: far, linked.
-/
import Derived.Test.YtnajladibkpeaaaEs
set_option linter.unusedVariables false
set_option linter.unusedSimpArgs false
set_option maxRecDepth 20000
set_option maxHeartbeats 4000000
namespace Go.Gx
open Go.RowKit Go.Proofs Go.Proofs.Ytnajladibkpeaaa

/-- How many links a shortest way has. -/
def EG.far (g : EG) (a b : Int) : Int := ixB (fun n => g.rc a n b.toNat) g.nr
theorem far57 (g : EG) (h : g.OK) (hl : g.inl) (a b : Int) (h0 : 0 ≤ a) (h1 : a < g.nr) (h2 : 0 ≤ b) (h3 : b < g.nr) : Pure Try.prog 57 [g.sv, .i a, .i b] (· = .i (g.far a b)) := by
  refine pure_of_GC T_ok Try.func57 rfl (by kernel_rfl) (Nat.le_of_ble_eq_true rfl) rfl rfl ?_
  have := h.nr
  simp [go_sem]
  refine GLoop_of T_ok (α := Nat) (fun k => [(1, .i a), (2, .i b), (3, .ptr 0 0 3 0), (7, .i k)]) (fun _ => [g.bx]) 1 (fun k => k ≤ g.nr ∧ ∀ j, j < k → g.rc a j b.toNat = false) (fun k => g.nr - k) 0 (fun _ => rfl) (by simp) (by simp [go_sem]) (by simp [go_sem]) ?_
  intro k J hi
  by_cases hlt : k < g.nr
  · simp [go_sem, hlt]
    refine call_val (reached107 g h hl a k h0 h1 (by omega)) rfl rfl ?_
    by_cases hc : g.rc a k b.toNat = true
    · simp [go_sem, h2, h3, hc]
      exact (ixB_at (p := fun n => g.rc a n b.toNat) hlt hc hi.2).symm
    · have hc' : g.rc a k b.toNat = false := by simpa using hc
      simp [go_sem, h2, h3, hc']
      refine ⟨by omega, k + 1, ⟨by omega, fun j hj => ?_⟩, by omega, by omega⟩
      by_cases hjk : j = k
      · subst hjk; exact hc'
      · exact hi.2 j (by omega)
  · simp [go_sem, hlt]
    exact (ixB_no (p := fun n => g.rc a n b.toNat) fun j hj => hi.2 j (by omega)).symm
end Go.Gx
