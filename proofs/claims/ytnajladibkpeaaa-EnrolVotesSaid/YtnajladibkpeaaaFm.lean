/-
  Add: the program's and the reference's.
-/
import Derived.Test.YtnajladibkpeaaaFl
set_option linter.unusedVariables false
set_option linter.unusedSimpArgs false
set_option maxRecDepth 20000
set_option maxHeartbeats 4000000
namespace Go.Gx
open Go.RowKit Go.Proofs Go.Proofs.Ytnajladibkpeaaa

theorem EG.oc_famR (g : EG) {l : List Nat} {n b D i j k : Nat} (hk : k = l.length) (h : i < n) : (g.oc k i j).ren (fun r => ((famR l n b)[r]?).getD D) = g.oc b i j := by
  unfold EG.oc
  split
  · simp only [SV.ren]
    have := famR_hi (l := l) (b := b) (D := D) h
    rw [← hk] at this
    rw [this]
  · rfl
/-- The register with one record more. -/
def EG.addG (g : EG) (q : Int) : EG := { g with nr := g.nr + 1, r := fun i => if i < g.nr then g.r i else ⟨q, false⟩ }
abbrev nilR : SV := .agg [nilS, nilS, nilS]
theorem add26 {g : EG} (h : g.Sm) (hv : g.valid = true) {q : Int} (h0 : 0 ≤ q) (h1 : q ≤ 100) (hn : g.nr < 24) : Own Try.prog 26 [] [g.sv, .i q] (.tup [(g.addG q).oS, .i g.nr, .i 0]) (g.addG q).oR := by
  refine own_of_GC T_ok Try.func26 rfl (by kernel_rfl) (Nat.le_of_ble_eq_true rfl) rfl rfl ?_
  have hr := h.nr
  have hl := h.nl
  have hc := h.nc
  simp [go_sem]
  refine callK_own [] (open61 h hv) (by simp) rfl trivial ?_
  have q0 : ¬ q < 0 := by omega
  have q1 : ¬ 100 < q := by omega
  have q2 : ¬ (g.nr : Int) = 24 := by omega
  have q4 : ∀ n, n < 7 → ¬ (n = 2 + (g.nc + 1 + 1 + 1 + 1 + 1)) := fun n _ => by omega
  have q6 : ∀ n, n < 7 → ¬ (2 + (g.nc + 1 + 1 + 1 + 1 + 1) = n) := fun n _ => by omega
  have q7 : (g.nr : Int) ≤ 9223372036854775807 := by omega
  have q5 : g.nr + (g.nr + 1 - g.nr) = g.nr + 1 := by omega
  simp [go_sem, q0, q1, q2, q4, q5, q6, q7]
  refine ⟨by omega, ?_⟩
  refine GDraw_x (t := (.take 0 (.take 1 (.take 2 (.take 4 (.take 5 (.take 6 (.take 7 (.alt 3 (.alt 8 (.alt 9 (.alt 10 (.alt 11 (.take 12 (.take 13 .done)) .nil) (.alt 11 (.alt 10 (.take 12 (.take 13 .done)) .nil) .nil)) (.alt 11 (.alt 9 (.alt 10 (.take 12 (.take 13 .done)) .nil) .nil) .nil)) (.alt 11 (.alt 8 (.alt 9 (.alt 10 (.take 12 (.take 13 .done)) .nil) .nil) .nil) .nil)) (.alt 8 (.alt 3 (.alt 9 (.alt 10 (.alt 11 (.take 12 (.take 13 .done)) .nil) (.alt 11 (.alt 10 (.take 12 (.take 13 .done)) .nil) .nil)) (.alt 11 (.alt 9 (.alt 10 (.take 12 (.take 13 .done)) .nil) .nil) .nil)) (.alt 9 (.alt 3 (.alt 10 (.alt 11 (.take 12 (.take 13 .done)) .nil) (.alt 11 (.alt 10 (.take 12 (.take 13 .done)) .nil) .nil)) (.alt 10 (.alt 3 (.alt 11 (.take 12 (.take 13 .done)) .nil) .nil) .nil)) .nil)) .nil)))))))))) T_ok (by kernel_rfl) (by kernel_rfl) (by kernel_rfl) (fun _ _ _ _ h => h) ?_
  simp [go_sem, q0, q1, q2, q4, q5, q6, q7]
  have q8 : ∀ i, i < g.nc → ¬ (i + 7 = 2 + (g.nc + 1 + 1 + 1 + 1 + 1)) := fun i _ => by omega
  refine ⟨famR [4, 5, 6] g.nc 7, famR_nodup (by simp) (by simp), fun N => ⟨by simp [go_sem, famR_lo, EG.addG], ?_⟩⟩
  refine gexpR_famN (l := [4, 5, 6]) (Rs := [.vec 85 2 (g.addG q).nr fun i j => .r (((g.addG q).r i).c j), .vec 46 3 (g.addG q).nl fun i j => .r (((g.addG q).l i).c j), .vec 93 3 (g.addG q).nc ((g.addG q).oc 3)]) ?_ fun i hi => ?_
  · simp [go_sem, famR_lo, q4, q6, EG.addG]
    refine ⟨fun i j hi hj => ?_, fun i j hi hj => ?_⟩
    · by_cases e : i < g.nr
      · simp [joined, e, SV.kill]
      · have e2 : i = g.nr := by omega
        subst e2
        rcases (by omega : j = 0 ∨ j = 1) with rfl | rfl <;> simp [joined, SV.kill, go_sem]
    · rw [g.oc_kill (by omega)]
      exact (g.oc_famR rfl hi).symm
  · simp [go_sem, hi, q8 i hi, EG.addG]
theorem add_bad {g : EG} (h : g.OK) (hv : g.valid = false) (q : Int) : Own Try.prog 26 [] [g.sv, .i q] (.tup [nilR, .i 0, .i 8]) [] := by
  refine own_of_GC T_ok Try.func26 rfl (by kernel_rfl) (Nat.le_of_ble_eq_true rfl) rfl rfl ?_
  simp [go_sem]
  refine callK_own [] (open_bad h hv) (by simp) rfl trivial ?_
  simp [go_sem]
  exact ⟨[], by simp, fun N => ⟨by simp [go_sem], trivial⟩⟩
theorem add_range {g : EG} (h : g.Sm) (hv : g.valid = true) {q : Int} (h0 : ¬ (0 ≤ q ∧ q ≤ 100)) : Own Try.prog 26 [] [g.sv, .i q] (.tup [nilR, .i 0, .i 2]) [] := by
  refine own_of_GC T_ok Try.func26 rfl (by kernel_rfl) (Nat.le_of_ble_eq_true rfl) rfl rfl ?_
  simp [go_sem]
  refine callK_own [] (open61 h hv) (by simp) rfl trivial ?_
  have q4 : ∀ n, n < 7 → ¬ (n = 2 + (g.nc + 1 + 1 + 1 + 1 + 1)) := fun n _ => by omega
  by_cases q0 : q < 0
  · simp [go_sem, q0, q4]
    exact ⟨[], by simp, fun N => ⟨by simp [go_sem], trivial⟩⟩
  · have q1 : 100 < q := by omega
    simp [go_sem, q0, q1, q4]
    exact ⟨[], by simp, fun N => ⟨by simp [go_sem], trivial⟩⟩
theorem add_full {g : EG} (h : g.Sm) (hv : g.valid = true) {q : Int} (h0 : 0 ≤ q ∧ q ≤ 100) (hn : g.nr = 24) : Own Try.prog 26 [] [g.sv, .i q] (.tup [nilR, .i 0, .i 9]) [] := by
  refine own_of_GC T_ok Try.func26 rfl (by kernel_rfl) (Nat.le_of_ble_eq_true rfl) rfl rfl ?_
  simp [go_sem]
  refine callK_own [] (open61 h hv) (by simp) rfl trivial ?_
  have q0 : ¬ q < 0 := by omega
  have q1 : ¬ 100 < q := by omega
  have q2 : (g.nr : Int) = 24 := by omega
  simp [go_sem, q0, q1, q2]
  exact ⟨[], by simp, fun N => ⟨by simp [go_sem], trivial⟩⟩
end Go.Gx
