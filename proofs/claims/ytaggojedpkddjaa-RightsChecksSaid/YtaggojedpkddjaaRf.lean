/-
  Contracts of the reference: Check; level and rule.
-/
import Derived.Test.YtaggojedpkddjaaRe
set_option linter.unusedVariables false
set_option linter.unusedSimpArgs false
set_option maxRecDepth 20000
set_option maxHeartbeats 1000000
namespace Go.Gx
open Go.RowKit Go.Proofs Go.Proofs.Ytaggojedpkddjaa

theorem check39 (g : RG) (h : g.OK) : Pure Try.prog 39 [g.sv] (· = .i (if g.valid then 0 else 8)) := by
  refine pure_of_GC T_ok Try.func39 rfl (by kernel_rfl) (Nat.le_of_ble_eq_true rfl) rfl rfl ?_
  simp [go_sem]
  refine call_val (valid58 g h) rfl rfl ?_
  simp [go_sem]
end Go.Gx
