/-
  Rights in new memory; memory that is written over; the reference's Same.
-/
import Derived.Test.YtaggojedpkddjaaSg
set_option linter.unusedVariables false
set_option linter.unusedSimpArgs false
set_option maxRecDepth 20000
set_option maxHeartbeats 2000000
namespace Go.Gx.Rg
open Go.RowKit Go.Proofs Go.Proofs.Ytaggojedpkddjaa

abbrev RG.osv (g : RG) : SV := .agg [.sl 0 8 0 g.nr none, .sl 1 3 0 g.nc none, .sl 2 4 0 g.nw none, .sl 3 5 0 g.nm none]
abbrev RG.ors (g : RG) : List Reg := [.vec 48 8 g.nr fun i j => .r ((g.r i).c j), .vec 65 3 g.nc fun i j => .r ((g.c i).c j), .vec 67 4 g.nw fun i j => .r ((g.w i).c j), .vec 69 5 g.nm fun i j => .r ((g.m i).c j)]
abbrev nilS : SV := .r (.v (.slice none 0 0))
theorem RG.ors_own (g : RG) : Reg.ownL g.ors := by
  refine ⟨fun i j _ hj => ?_, fun i j _ hj => ?_, fun i j _ hj => ?_, fun i j _ hj => ?_, trivial⟩
  · rcases lt8 hj with rfl | rfl | rfl | rfl | rfl | rfl | rfl | rfl <;> rfl
  · have : j = 0 ∨ j = 1 ∨ j = 2 := by omega
    rcases this with rfl | rfl | rfl <;> rfl
  · have : j = 0 ∨ j = 1 ∨ j = 2 ∨ j = 3 := by omega
    rcases this with rfl | rfl | rfl | rfl <;> rfl
  · have : j = 0 ∨ j = 1 ∨ j = 2 ∨ j = 3 ∨ j = 4 := by omega
    rcases this with rfl | rfl | rfl | rfl | rfl <;> rfl

theorem twin17 (g : RG) (hr : g.nr ≤ 1000000) (hc : g.nc ≤ 1000000) (hw : g.nw ≤ 1000000) (hm : g.nm ≤ 1000000) : Own Try.prog 17 [] [g.sv] g.osv g.ors := by
  refine own_of_GC T_ok Try.func17 rfl (by kernel_rfl) (Nat.le_of_ble_eq_true rfl) rfl rfl ?_
  simp [go_sem]
  refine ⟨⟨by omega, by omega⟩, ⟨by omega, by omega⟩, ⟨by omega, by omega⟩, ⟨by omega, by omega⟩, [2, 3, 4, 5], by decide, fun N => ⟨?_, ?_⟩⟩
  · simp [go_sem]
  · simp [go_sem, joined]
    repeat' apply And.intro
    all_goals (intro i j hi hj; rw [if_pos hi]; rfl)
end Go.Gx.Rg
