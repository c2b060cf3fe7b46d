/-
  The reference's Add.
-/
import Derived.Test.YtnajladibkpeaaaFm
set_option linter.unusedVariables false
set_option linter.unusedSimpArgs false
set_option maxRecDepth 20000
set_option maxHeartbeats 4000000
namespace Go.Gx
open Go.RowKit Go.Proofs Go.Proofs.Ytnajladibkpeaaa

theorem refAdd27 {g : EG} (h : g.Sm) (hv : g.valid = true) {q : Int} (h0 : 0 ≤ q) (h1 : q ≤ 100) (hn : g.nr < 24) : Own Try.prog 27 [] [g.sv, .i q] (.tup [(g.addG q).oS, .i g.nr, .i 0]) (g.addG q).oR := by
  refine own_of_GC T_ok Try.func27 rfl (by kernel_rfl) (Nat.le_of_ble_eq_true rfl) rfl rfl ?_
  have hr := h.nr
  have hl := h.nl
  have hc := h.nc
  simp [go_sem]
  refine call_val (valid49 g h.ok) rfl rfl ?_
  simp [go_sem, hv]
  refine call_val (within62 q 0 100) rfl rfl ?_
  have q0 : btw 0 100 q = true := by simp [btw, h0, h1]
  have q2 : ¬ (g.nr : Int) = 24 := by omega
  simp [go_sem, q0, q2]
  refine callK_own [] (twin25 g (by omega) (by omega) (by omega) fun i hi => by have := h.nv i hi; omega) (by simp) rfl trivial ?_
  have q4 : ∀ n, n < 5 → ¬ (n = 2 + (g.nc + 1 + 1 + 1)) := fun n _ => by omega
  have q6 : ∀ n, n < 5 → ¬ (2 + (g.nc + 1 + 1 + 1) = n) := fun n _ => by omega
  have q5 : g.nr + (g.nr + 1 - g.nr) = g.nr + 1 := by omega
  have q7 : (g.nr : Int) ≤ 9223372036854775807 := by omega
  have q8 : ∀ i, i < g.nc → ¬ (i + 5 = 2 + (g.nc + 1 + 1 + 1)) := fun i _ => by omega
  simp [go_sem, q4, q5, q6, q7]
  refine ⟨by omega, ?_⟩
  refine GDraw_x (t := (.take 1 (.alt 0 (.alt 2 (.alt 3 (.alt 4 (.alt 5 (.take 6 (.take 7 .done)) .nil) (.alt 5 (.alt 4 (.take 6 (.take 7 .done)) .nil) .nil)) (.alt 5 (.alt 3 (.alt 4 (.take 6 (.take 7 .done)) .nil) .nil) .nil)) (.alt 5 (.alt 2 (.alt 3 (.alt 4 (.take 6 (.take 7 .done)) .nil) .nil) .nil) .nil)) (.alt 2 (.alt 0 (.alt 3 (.alt 4 (.alt 5 (.take 6 (.take 7 .done)) .nil) (.alt 5 (.alt 4 (.take 6 (.take 7 .done)) .nil) .nil)) (.alt 5 (.alt 3 (.alt 4 (.take 6 (.take 7 .done)) .nil) .nil) .nil)) (.alt 3 (.alt 0 (.alt 4 (.alt 5 (.take 6 (.take 7 .done)) .nil) (.alt 5 (.alt 4 (.take 6 (.take 7 .done)) .nil) .nil)) (.alt 4 (.alt 0 (.alt 5 (.take 6 (.take 7 .done)) .nil) .nil) .nil)) .nil)) .nil)))) T_ok (by kernel_rfl) (by kernel_rfl) (by kernel_rfl) (fun _ _ _ _ h => h) ?_
  simp [go_sem, q4, q5, q6, q7]
  refine ⟨famR [2, 3, 4] g.nc 5, famR_nodup (by simp) (by simp), fun N => ⟨by simp [go_sem, famR_lo, EG.addG], ?_⟩⟩
  refine gexpR_famN (l := [2, 3, 4]) (Rs := [.vec 85 2 (g.addG q).nr fun i j => .r (((g.addG q).r i).c j), .vec 46 3 (g.addG q).nl fun i j => .r (((g.addG q).l i).c j), .vec 93 3 (g.addG q).nc ((g.addG q).oc 3)]) ?_ fun i hi => ?_
  · simp [go_sem, famR_lo, q4, q6, EG.addG]
    refine ⟨fun i j hi hj => ?_, fun i j hi hj => ?_⟩
    · by_cases e : i < g.nr
      · simp [joined, e, SV.kill]
      · have e2 : i = g.nr := by omega
        subst e2
        rcases (by omega : j = 0 ∨ j = 1) with rfl | rfl <;> simp [joined, SV.kill, go_sem]
    · rw [g.oc_kill (by omega)]
      exact (g.oc_famR rfl hi).symm
  · simp [go_sem, hi, q8 i hi, EG.addG]
theorem refAdd_bad {g : EG} (h : g.OK) (hv : g.valid = false) (q : Int) : Pure Try.prog 27 [g.sv, .i q] (· = .tup [nilR, .i 0, .i 8]) := by
  refine pure_of_GC T_ok Try.func27 rfl (by kernel_rfl) (Nat.le_of_ble_eq_true rfl) rfl rfl ?_
  simp [go_sem]
  refine call_val (valid49 g h) rfl rfl ?_
  simp [go_sem, hv]
theorem refAdd_range {g : EG} (h : g.OK) (hv : g.valid = true) {q : Int} (h0 : ¬ (0 ≤ q ∧ q ≤ 100)) : Pure Try.prog 27 [g.sv, .i q] (· = .tup [nilR, .i 0, .i 2]) := by
  refine pure_of_GC T_ok Try.func27 rfl (by kernel_rfl) (Nat.le_of_ble_eq_true rfl) rfl rfl ?_
  simp [go_sem]
  refine call_val (valid49 g h) rfl rfl ?_
  simp [go_sem, hv]
  refine call_val (within62 q 0 100) rfl rfl ?_
  have q0 : btw 0 100 q = false := by
    rw [btw, ← Bool.decide_and]; exact decide_eq_false h0
  simp [go_sem, q0]
theorem refAdd_full {g : EG} (h : g.OK) (hv : g.valid = true) {q : Int} (h0 : 0 ≤ q ∧ q ≤ 100) (hn : g.nr = 24) : Pure Try.prog 27 [g.sv, .i q] (· = .tup [nilR, .i 0, .i 9]) := by
  refine pure_of_GC T_ok Try.func27 rfl (by kernel_rfl) (Nat.le_of_ble_eq_true rfl) rfl rfl ?_
  simp [go_sem]
  refine call_val (valid49 g h) rfl rfl ?_
  simp [go_sem, hv]
  refine call_val (within62 q 0 100) rfl rfl ?_
  have q0 : btw 0 100 q = true := by simp [btw, h0.1, h0.2]
  have q2 : (g.nr : Int) = 24 := by omega
  simp [go_sem, q0, q2]
/-- A register that comes back in memory of its own, read alone. -/
theorem refAdd27p {g : EG} (h : g.Sm) (hv : g.valid = true) {q : Int} (h0 : 0 ≤ q) (h1 : q ≤ 100) (hn : g.nr < 24) : Pure Try.prog 27 [g.sv, .i q] (· = .tup [(g.addG q).sv, .i g.nr, .i 0]) := by
  refine Pure.ofSub ((refAdd27 h hv h0 h1 hn).pure ?_)
  unfold EG.oR
  rw [memR_famN]
  simp [go_sem]
  intro i j hi hj
  exact (g.addG q).view_oc (by simp [go_sem, hi]) hj
end Go.Gx
