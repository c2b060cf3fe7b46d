/-
  IndexTrace.
-/
import Derived.Test.YtdnblflhlklfnaaGreatJe
set_option linter.unusedVariables false
set_option linter.unusedSimpArgs false
set_option maxRecDepth 20000
set_option maxHeartbeats 4000000
namespace Go.Gx.Ix
open Go.RowKit Go.Proofs Go.Proofs.YtdnblflhlklfnaaGreat

abbrev ixC (x : IxG) : List SV := [mrs x.ms, pls (x.ch 0), pls (x.ch 1), pls (x.ch 2), pls (x.ch 3), pls (x.ch 4), pls (x.ch 5), pls (x.ch 6), pls (x.ch 7)]
theorem sv_ixC (x : IxG) : x.sv = .agg (ixC x) := rfl
theorem same_of {l : List MbG} (h : VL l) : Pure Tryz.prog 14 [(ofG l).sv, (ofG l).sv] (· = .b true) := by
  have := same18 (ofG l) (ofG l) (ofG_sm (by have := h.len; omega))
  rwa [eqB_self] at this
end Go.Gx.Ix
