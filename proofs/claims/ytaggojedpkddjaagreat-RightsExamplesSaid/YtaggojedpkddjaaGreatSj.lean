/-
  Rights in new memory; memory that is written over; the reference's Same.
-/
import Derived.Test.YtaggojedpkddjaaGreatSg
set_option linter.unusedVariables false
set_option linter.unusedSimpArgs false
set_option maxRecDepth 20000
set_option maxHeartbeats 2000000
namespace Go.Gx.Rg
open Go.RowKit Go.Proofs Go.Proofs.YtaggojedpkddjaaGreat

abbrev RG.osv (g : RG) : SV := .agg [.sl 0 8 0 g.nr none, .sl 1 3 0 g.nc none, .sl 2 4 0 g.nw none, .sl 3 5 0 g.nm none]
abbrev RG.ors (g : RG) : List Reg := [.vec 45 8 g.nr fun i j => .r ((g.r i).c j), .vec 49 3 g.nc fun i j => .r ((g.c i).c j), .vec 65 4 g.nw fun i j => .r ((g.w i).c j), .vec 54 5 g.nm fun i j => .r ((g.m i).c j)]
abbrev nilS : SV := .r (.v (.slice none 0 0))
theorem RG.ors_own (g : RG) : Reg.ownL g.ors := by
  refine ⟨fun i j _ hj => ?_, fun i j _ hj => ?_, fun i j _ hj => ?_, fun i j _ hj => ?_, trivial⟩
  · rcases lt8 hj with rfl | rfl | rfl | rfl | rfl | rfl | rfl | rfl <;> rfl
  · have : j = 0 ∨ j = 1 ∨ j = 2 := by omega
    rcases this with rfl | rfl | rfl <;> rfl
  · have : j = 0 ∨ j = 1 ∨ j = 2 ∨ j = 3 := by omega
    rcases this with rfl | rfl | rfl | rfl <;> rfl
  · have : j = 0 ∨ j = 1 ∨ j = 2 ∨ j = 3 ∨ j = 4 := by omega
    rcases this with rfl | rfl | rfl | rfl | rfl <;> rfl

end Go.Gx.Rg
