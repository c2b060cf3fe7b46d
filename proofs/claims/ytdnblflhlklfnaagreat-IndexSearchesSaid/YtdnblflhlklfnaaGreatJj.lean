/-
  IndexOrder.
-/
import Derived.Test.YtdnblflhlklfnaaGreatJi
set_option linter.unusedVariables false
set_option linter.unusedSimpArgs false
set_option maxRecDepth 20000
set_option maxHeartbeats 4000000
namespace Go.Gx.Ix
open Go.RowKit Go.Proofs Go.Proofs.YtdnblflhlklfnaaGreat

theorem check_of {l : List MbG} (h : VL l) : Pure Tryz.prog 15 [(ofG l).sv] (· = .i 0) := by
  have hc := check19 (ofG l) (ofG_sm (by have := h.len; omega))
  have : checkE (ofG l) = 0 := by unfold checkE; rw [ofG_valid h]; rfl
  rwa [this] at hc
end Go.Gx.Ix
