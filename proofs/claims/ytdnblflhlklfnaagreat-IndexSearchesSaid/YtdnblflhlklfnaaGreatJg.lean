/-
  IndexGone.
-/
import Derived.Test.YtdnblflhlklfnaaGreatJf
set_option linter.unusedVariables false
set_option linter.unusedSimpArgs false
set_option maxRecDepth 20000
set_option maxHeartbeats 4000000
namespace Go.Gx.Ix
open Go.RowKit Go.Proofs Go.Proofs.YtdnblflhlklfnaaGreat

end Go.Gx.Ix
