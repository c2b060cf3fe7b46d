/-
  find; the number of votes.
-/
import Derived.Test.YtnajladibkpeaaaGreatHo
set_option linter.unusedVariables false
set_option linter.unusedSimpArgs false
set_option maxRecDepth 20000
set_option maxHeartbeats 4000000
namespace Go.Gx
open Go.RowKit Go.Proofs Go.Proofs.YtnajladibkpeaaaGreat

theorem find17 (g : EG) (h : g.OK) (a b : Int) : Pure Tryz.prog 17 [g.sv, .i a, .i b] (· = .i (g.fnl a b)) := by
  refine pure_of_GC T_ok Tryz.func17 rfl (by kernel_rfl) (Nat.le_of_ble_eq_true rfl) rfl rfl ?_
  have hnl := h.nl
  simp [go_sem]
  refine GLoop_s T_ok (α := Nat) (fun j => [(1, .i a), (2, .i b), (10, g.ll), (11, .i g.nl), (12, .i j)]) (fun _ => [g.bx]) 1
    (fun j => j ≤ g.nl ∧ ∀ i, i < j → (decide ((g.l i).a = min a b) && decide ((g.l i).b = max a b)) = false) (fun j => g.nl - j) 0 (fun _ => rfl) (by simp) (by simp [go_sem]) (by simp [go_sem]) ?_
  rintro j J ⟨hj, hno⟩
  by_cases hlt : j < g.nl
  rotate_left
  · have e : j = g.nl := by omega
    subst e
    simp [go_sem]
    exact (ixB_no hno).symm
  simp [go_sem, hlt]
  by_cases e1 : (g.l j).a = min a b
  · by_cases e2 : (g.l j).b = max a b
    · simp [go_sem, e1, e2]
      exact (ixB_at hlt (by simp [e1, e2]) hno).symm
    · simp [go_sem, e1, e2]
      refine ⟨by omega, j + 1, ⟨by omega, fun i hi => ?_⟩, by omega, by omega⟩
      by_cases e : i = j
      · subst e; exact fun _ => e2
      · have := hno i (by omega); simpa using this
  · simp [go_sem, e1]
    refine ⟨by omega, j + 1, ⟨by omega, fun i hi => ?_⟩, by omega, by omega⟩
    by_cases e : i = j
    · subst e; exact fun h => absurd h e1
    · have := hno i (by omega); simpa using this
theorem EG.vts_le {g : EG} {k : Nat} (h : g.Bd k) : ∀ n, n ≤ g.nc → sumR (fun i => (g.c i).nv) n ≤ n * k
  | 0, _ => by simp [sumR]
  | n + 1, hn => by
    have := EG.vts_le h n (by omega)
    have := h.nv n (by omega)
    rw [Nat.succ_mul]
    simp only [sumR]
    omega
theorem votes16 (g : EG) (h : g.Bd 1000) : Pure Tryz.prog 16 [g.sv] (· = .i g.vts) := by
  refine pure_of_GC T_ok Tryz.func16 rfl (by kernel_rfl) (Nat.le_of_ble_eq_true rfl) rfl rfl ?_
  have hnc := h.nc
  simp [go_sem]
  refine GLoop_s T_ok (α := Nat) (fun j => [(1, .ptr 0 0 3 0), (3, .i (sumR (fun i => (g.c i).nv) j)), (7, .i g.nc), (8, .i j)]) (fun _ => [g.bx]) 1
    (fun j => j ≤ g.nc) (fun j => g.nc - j) 0 (fun _ => rfl) (by simp) (by simp [go_sem, sumR]) (by simp [go_sem]) ?_
  intro j J hj
  by_cases hlt : j < g.nc
  rotate_left
  · have e : j = g.nc := by omega
    subst e
    simp [go_sem, EG.vts]
  have hs := EG.vts_le h j (by omega)
  have hv := h.nv j hlt
  have hm : j * 1000 ≤ 1000 * 1000 := Nat.mul_le_mul (by omega) (Nat.le_refl _)
  have hsr : sumR (fun i => (g.c i).nv) (j + 1) = sumR (fun i => (g.c i).nv) j + (g.c j).nv := rfl
  simp [go_sem, hlt]
  exact ⟨by omega, by omega, j + 1, by omega, by omega, by omega, by omega⟩
end Go.Gx
