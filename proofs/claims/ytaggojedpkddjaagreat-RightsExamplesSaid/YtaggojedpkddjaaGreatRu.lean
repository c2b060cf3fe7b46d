/-
  slices.Clone and copied.
-/
import Derived.Test.YtaggojedpkddjaaGreatK5
import Derived.Test.YtaggojedpkddjaaGreatRd
set_option linter.unusedVariables false
set_option linter.unusedSimpArgs false
set_option maxRecDepth 20000
set_option maxHeartbeats 1000000
namespace Go.Gx.Rg
open Go.RowKit Go.Proofs Go.Proofs.YtaggojedpkddjaaGreat

theorem clone105 (n : Nat) (hn : n ≤ 1000000) (get : Nat → Nat → RV) : Own Tryz.prog 71 [] [.r (.rs 8 n get)] (.sl 0 8 0 n none) [.vec 45 8 n fun i j => .r (get i j)] := by
  refine own_of_GC0 T_ok Tryz.func71 rfl (by kernel_rfl) (Nat.le_of_ble_eq_true rfl) rfl rfl ?_
  simp [go_sem]
  refine ⟨fun h => .inr (by subst h; simp), ⟨by omega, by omega⟩, ⟨[0], by simp, fun N => ⟨?_, ?_⟩⟩⟩
  · simp [go_sem]
  · simp [go_sem, joined]
    intros i j hi hj
    rw [if_pos (by omega)]; rfl
theorem clone106 (n : Nat) (hn : n ≤ 1000000) (get : Nat → Nat → RV) : Own Tryz.prog 72 [] [.r (.rs 3 n get)] (.sl 0 3 0 n none) [.vec 49 3 n fun i j => .r (get i j)] := by
  refine own_of_GC0 T_ok Tryz.func72 rfl (by kernel_rfl) (Nat.le_of_ble_eq_true rfl) rfl rfl ?_
  simp [go_sem]
  refine ⟨fun h => .inr (by subst h; simp), ⟨by omega, by omega⟩, ⟨[0], by simp, fun N => ⟨?_, ?_⟩⟩⟩
  · simp [go_sem]
  · simp [go_sem, joined]
    intros i j hi hj
    rw [if_pos (by omega)]; rfl
theorem clone107 (n : Nat) (hn : n ≤ 1000000) (get : Nat → Nat → RV) : Own Tryz.prog 73 [] [.r (.rs 4 n get)] (.sl 0 4 0 n none) [.vec 65 4 n fun i j => .r (get i j)] := by
  refine own_of_GC0 T_ok Tryz.func73 rfl (by kernel_rfl) (Nat.le_of_ble_eq_true rfl) rfl rfl ?_
  simp [go_sem]
  refine ⟨fun h => .inr (by subst h; simp), ⟨by omega, by omega⟩, ⟨[0], by simp, fun N => ⟨?_, ?_⟩⟩⟩
  · simp [go_sem]
  · simp [go_sem, joined]
    intros i j hi hj
    rw [if_pos (by omega)]; rfl
theorem clone108 (n : Nat) (hn : n ≤ 1000000) (get : Nat → Nat → RV) : Own Tryz.prog 74 [] [.r (.rs 5 n get)] (.sl 0 5 0 n none) [.vec 54 5 n fun i j => .r (get i j)] := by
  refine own_of_GC0 T_ok Tryz.func74 rfl (by kernel_rfl) (Nat.le_of_ble_eq_true rfl) rfl rfl ?_
  simp [go_sem]
  refine ⟨fun h => .inr (by subst h; simp), ⟨by omega, by omega⟩, ⟨[0], by simp, fun N => ⟨?_, ?_⟩⟩⟩
  · simp [go_sem]
  · simp [go_sem, joined]
    intros i j hi hj
    rw [if_pos (by omega)]; rfl
theorem clone93 (n : Nat) (hn : n ≤ 1000000) (get : Nat → Nat → RV) : Own Tryz.prog 25 [] [.r (.rs 1 n get)] (.sl 0 1 0 n none) [.vec 3 1 n fun i j => .r (get i j)] := by
  refine own_of_GC0 T_ok Tryz.func25 rfl (by kernel_rfl) (Nat.le_of_ble_eq_true rfl) rfl rfl ?_
  simp [go_sem]
  refine ⟨fun h => .inr (by subst h; simp), ⟨by omega, by omega⟩, ⟨[0], by simp, fun N => ⟨?_, ?_⟩⟩⟩
  · simp [go_sem]
  · simp [go_sem, joined]
    intros i hi
    rw [if_pos (by omega)]; rfl

theorem copied49 (g : RG) (hr : g.nr ≤ 1000000) (hc : g.nc ≤ 1000000) (hw : g.nw ≤ 1000000) (hm : g.nm ≤ 1000000) : Own Tryz.prog 28 [] [g.sv] (.agg [.sl 0 8 0 g.nr none, .sl 1 3 0 g.nc none, .sl 2 4 0 g.nw none, .sl 3 5 0 g.nm none])
    [.vec 45 8 g.nr fun i j => .r ((g.r i).c j), .vec 49 3 g.nc fun i j => .r ((g.c i).c j), .vec 65 4 g.nw fun i j => .r ((g.w i).c j), .vec 54 5 g.nm fun i j => .r ((g.m i).c j)] := by
  refine own_of_GC T_ok Tryz.func28 rfl (by kernel_rfl) (Nat.le_of_ble_eq_true rfl) rfl rfl ?_
  simp [go_sem]
  refine GDraw_new (fun f => f == 71 || f == 72 || f == 73 || f == 74) T_ok (by kernel_rfl) 12 (by kernel_rfl) rfl rfl ?_
  simp [go_sem]
  refine ⟨_, _, dnew_own (clone105 _ hr _) rfl, _, _, dnew_own (clone106 _ hc _) rfl, _, _, dnew_own (clone107 _ hw _) rfl, _, _, dnew_own (clone108 _ hm _) rfl, ?_⟩
  simp [go_sem]
  refine ⟨[2, 3, 4, 5], by decide, fun N => ⟨?_, ?_⟩⟩
  · simp [go_sem]
  · simp [go_sem]
end Go.Gx.Rg
