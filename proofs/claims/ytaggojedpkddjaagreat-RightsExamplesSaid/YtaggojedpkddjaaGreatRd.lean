/-
  Contracts of the reference: Valid.
-/
import Derived.Test.YtaggojedpkddjaaGreatRc
set_option linter.unusedVariables false
set_option linter.unusedSimpArgs false
set_option maxRecDepth 20000
set_option maxHeartbeats 1000000
namespace Go.Gx.Rg
open Go.RowKit Go.Proofs Go.Proofs.YtaggojedpkddjaaGreat

def RG.great (g : RG) : Bool := decide (30 < (g.nr : Int)) || decide (50 < (g.nc : Int)) || decide (30 < (g.nw : Int)) || decide (50 < (g.nm : Int))
section
variable {g : RG}
theorem RG.no1 (h : g.c1 = false) : g.valid = false := by simp [RG.valid, h]
theorem RG.no2 (h : g.c2 = false) : g.valid = false := by simp [RG.valid, h]
theorem RG.no3 (h : g.c3 = false) : g.valid = false := by simp [RG.valid, h]
theorem RG.no4 (h : g.c4 = false) : g.valid = false := by simp [RG.valid, h]
theorem RG.no5 (h : g.c5 = false) : g.valid = false := by simp [RG.valid, h]
theorem RG.no6 (h : g.c6 = false) : g.valid = false := by simp [RG.valid, h]
theorem all_no {n : Nat} {p : Nat → Bool} {i : Nat} (hi : i < n) (h : ¬ p i = true) : (List.range n).all p = false := by
  rw [List.all_eq_false]; exact ⟨i, List.mem_range.2 hi, h⟩
theorem all_yes {n : Nat} {p : Nat → Bool} (h : ∀ i, i < n → p i = true) : (List.range n).all p = true := by
  rw [List.all_eq_true]; exact fun i hi => h i (List.mem_range.1 hi)
theorem RG.n1 {i : Nat} (hi : i < g.nr) (h : ¬ (g.r i).good = true) : g.valid = false := RG.no1 (by unfold RG.c1; rw [all_no hi h, Bool.and_false])
theorem RG.n2 {i : Nat} (hi : i < g.nc) (h : ¬ (g.c i).good = true) : g.valid = false := RG.no2 (by unfold RG.c2; rw [all_no hi h, Bool.and_false])
theorem RG.n3 {i : Nat} (hi : i < g.nw) (h : ¬ (g.w i).good = true) : g.valid = false := RG.no3 (by unfold RG.c3; rw [all_no hi h, Bool.and_false])
theorem RG.n4 {i : Nat} (hi : i < g.nm) (h : ¬ (g.m i).good = true) : g.valid = false := RG.no4 (by unfold RG.c4; rw [all_no hi h, Bool.and_false])
theorem RG.n5 {i : Nat} (hi : i + 1 < g.nc) (h : ¬ (g.c i).lt (g.c (i + 1)) = true) : g.valid = false := RG.no5 (by unfold RG.c5; exact all_no (i := i) (by omega) h)
theorem RG.n6 {i : Nat} (hi : i + 1 < g.nm) (h : ¬ (g.m i).lt (g.m (i + 1)) = true) : g.valid = false := RG.no6 (by unfold RG.c6; exact all_no (i := i) (by omega) h)
end
theorem step_all {p : Nat → Prop} {k : Nat} (h : ∀ j, j < k → p j) (hk : p k) : ∀ j, j < k + 1 → p j := fun j hj => by
  by_cases e : j = k
  · subst e; exact hk
  · exact h j (by omega)
abbrev RG.box (g : RG) : List (Option Reg) := [some (.box [RuleG.rs g.nr g.r, ConG.rs g.nc g.c, WarG.rs g.nw g.w, MarkG.rs g.nm g.m])]
end Go.Gx.Rg
