/-
  IndexComplete.
-/
import Derived.Test.YtdnblflhlklfnaaGreatJc
set_option linter.unusedVariables false
set_option linter.unusedSimpArgs false
set_option maxRecDepth 20000
set_option maxHeartbeats 4000000
namespace Go.Gx.Ix
open Go.RowKit Go.Proofs Go.Proofs.YtdnblflhlklfnaaGreat

theorem mE_vals (x y : IrG) (turns num den : Int) : mE x y turns num den = 0 ∨ mE x y turns num den = 2 ∨ mE x y turns num den = 30 := by
  unfold mE
  split
  · split
    · exact .inl rfl
    · exact .inr (.inl rfl)
  · exact .inr (.inr rfl)
theorem mE_iff (b : IrG) (turns num den : Int) : mE b b turns num den = 0 ↔ b.ok = true ∧ 0 ≤ turns ∧ turns ≤ 7 ∧ vL num den = true := by
  unfold mE btw
  cases b.ok <;> simp
end Go.Gx.Ix
