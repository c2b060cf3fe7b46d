/-
  The law of matches.
-/
import Derived.Test.YtnajladibkpeaaaGx
import Derived.Test.YtnajladibkpeaaaGl
set_option linter.unusedVariables false
set_option linter.unusedSimpArgs false
namespace Go.Gx
open Go.RowKit Go.Proofs Go.Proofs.Ytnajladibkpeaaa
theorem law7 (g : EG) (m : MG) : Pure Try.prog 7 [g.sv, m.sv] (· = .b true) := law7' sortOK morOK g m
end Go.Gx
