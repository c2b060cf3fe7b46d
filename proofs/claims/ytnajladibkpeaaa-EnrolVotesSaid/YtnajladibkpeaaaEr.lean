/-
  Best, of the program.
-/
import Derived.Test.YtnajladibkpeaaaEq
set_option linter.unusedVariables false
set_option linter.unusedSimpArgs false
set_option maxRecDepth 20000
set_option maxHeartbeats 4000000
namespace Go.Gx
open Go.RowKit Go.Proofs Go.Proofs.Ytnajladibkpeaaa

/-- The best record below k. -/
def EG.bp (g : EG) (a : Int) : Nat → Int
  | 0 => g.q a
  | k + 1 => if (!(g.r k).g && decide (g.q k = g.q a)) && decide ((g.r (g.bp a k).toNat).q < (g.r k).q) then (k : Int) else g.bp a k
theorem EG.bp_bd {g : EG} (hl : g.lth) {a : Int} (h0 : 0 ≤ a) (h1 : a < g.nr) : ∀ k, k ≤ g.nr → 0 ≤ g.bp a k ∧ g.bp a k < g.nr
  | 0, _ => EG.pm_bd hl g.nl a (Nat.le_refl _) h0 h1
  | k + 1, hk => by
    have ih := EG.bp_bd hl h0 h1 k (by omega)
    simp only [EG.bp]
    split
    · omega
    · exact ih
theorem best15 (g : EG) (h : g.OK) (a : Int) : Pure Try.prog 15 [g.sv, .i a] (· = .tup [.i (if g.pE a = 0 then g.bp a g.nr else 0), .i (g.pE a)]) := by
  refine pure_of_GC T_ok Try.func15 rfl (by kernel_rfl) (Nat.le_of_ble_eq_true rfl) rfl rfl ?_
  have := h.nr
  simp [go_sem]
  have hk := fun get hg => known48 g h 1 (by decide) (fun _ => a) get hg
  rw [EG.kE1] at hk
  rcases g.pE_cases a with ⟨hv, ht, he⟩ | he
  rotate_left
  · simp only [EG.kS, EG.kR, if_neg he] at hk
    refine callK_own [1] (hk (fun i j => [SV.i a][i + j]?.getD (.r .any)) fun i hi => ?_) (by simp) rfl (by simp [go_sem]) ?_
    · have : i = 0 := by omega
      subst this; rfl
    simp [go_sem, he]
  simp only [EG.kS, EG.kR, if_pos he] at hk
  refine callK_own [1] (hk (fun i j => [SV.i a][i + j]?.getD (.r .any)) fun i hi => ?_) (by simp) rfl (by simp [go_sem]) ?_
  · have : i = 0 := by omega
    subst this; rfl
  have ha := EG.th_iff.1 ht
  have hth := EG.valid_lth hv
  simp [go_sem, he, ht]
  refine GLoop_s T_ok (α := Nat) (fun k => [(1, .i a), (6, .ptr 2 0 4 0), (8, .i (g.bp a k)), (31, g.rr), (32, .i g.nr), (33, .i k)]) (fun _ => [g.bx, none, some (g.dbox (.mp 3)), some g.dmap]) 4 (fun k => k ≤ g.nr) (fun k => g.nr - k) 0 (fun _ => rfl) (by simp) (by simp [go_sem, EG.bp]) (by simp [go_sem]) ?_
  intro k J hi
  by_cases hlt : k < g.nr
  rotate_left
  · have hk : k = g.nr := by omega
    subst hk
    simp [go_sem]
  obtain ⟨b0, b1⟩ := EG.bp_bd hth ha.1 ha.2.1 k hi
  simp [go_sem, hlt]
  refine GDraw_all T_ok (by kernel_rfl) (by kernel_rfl) ?_
  by_cases hg : (g.r k).g = true
  · simp [go_sem, hg]
    exact ⟨by omega, k + 1, by omega, by omega, by simp [EG.bp, hg], by omega⟩
  have hg' : (g.r k).g = false := by simpa using hg
  have hk : g.th k = true := EG.th_iff.2 ⟨by omega, by omega, by simpa using hg'⟩
  by_cases hp : g.q k = g.q a
  rotate_left
  · simp [go_sem, hg', hk, ht, hp]
    exact ⟨by omega, k + 1, by omega, by omega, by simp [EG.bp, hp], by omega⟩
  by_cases hc : (g.r (g.bp a k).toNat).q < (g.r k).q
  · simp [go_sem, hg', hk, ht, hp, b0, b1, hc]
    exact ⟨by omega, k + 1, by omega, by omega, by simp [EG.bp, hg', hp, hc], by omega⟩
  · simp [go_sem, hg', hk, ht, hp, b0, b1, hc]
    exact ⟨by omega, k + 1, by omega, by omega, by simp [EG.bp, hg', hp, hc], by omega⟩
end Go.Gx
