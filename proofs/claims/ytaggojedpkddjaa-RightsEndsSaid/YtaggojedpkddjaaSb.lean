/-
  Law: RightsPruned.
-/
import Derived.Test.YtaggojedpkddjaaRq
import Derived.Test.YtaggojedpkddjaaSa
set_option linter.unusedVariables false
set_option linter.unusedSimpArgs false
set_option maxRecDepth 20000
set_option maxHeartbeats 2000000
namespace Go.Gx
open Go.RowKit Go.Proofs Go.Proofs.Ytaggojedpkddjaa

theorem RG.prune_OK {g : RG} {t : Int} (h : g.OK) : (g.prune t).OK := by
  have := h.nr; have := h.nc; have := h.nw; have := h.nm
  have := kept_le (fun i => decide ((g.r i).t ≤ t)) g.nr
  have := kept_le (fun i => decide ((g.c i).u ≤ t)) g.nc
  have := kept_le (fun i => decide ((g.w i).t ≤ t)) g.nw
  have := kept_le (fun i => decide ((g.m i).u ≤ t)) g.nm
  refine ⟨by simp only [RG.prune, RG.sel]; omega, by simp only [RG.prune, RG.sel]; omega, by simp only [RG.prune, RG.sel]; omega, by simp only [RG.prune, RG.sel]; omega, fun i hi => ?_⟩
  obtain ⟨j, hj, he⟩ := (RG.prune_R.1 ⟨i, hi, rfl⟩).1
  rw [← he]; exact h.by' j hj
theorem law9 (g : RG) (q : QG) (t : Int) (hb : g.By) (ha : -9223372036854775808 ≤ t) (hz : t ≤ 9223372036854775807) : Pure Try.prog 9 [g.sv, q.sv, .i t] (· = .b true) := by
  refine pure_of_GC T_ok Try.func9 rfl (by kernel_rfl) (Nat.le_of_ble_eq_true rfl) rfl rfl ?_
  simp [go_sem]
  refine call_val alive24 rfl rfl ?_
  simp [go_sem]
  refine call_val (great16 g) rfl rfl ?_
  generalize hg : g.great = a
  cases a
  rotate_left
  · simp [go_sem]
  have h := OK_of hb hg
  simp [go_sem]
  refine call_val (long25 q) rfl rfl ?_
  by_cases hl : 20 < (q.nk : Int)
  · simp [go_sem, hl]
  have hq : q.OK := by unfold QG.OK; omega
  simp [go_sem, hl]
  refine call_val (prune18 g t h) rfl rfl ?_
  by_cases he : g.prE t = 0
  rotate_left
  · simp [go_sem, he]
  have hv : g.valid = true := by
    unfold RG.prE at he
    split at he
    · assumption
    · omega
  have ht : timeB t = true := by
    unfold RG.prE at he
    rw [if_pos hv] at he
    split at he
    · assumption
    · omega
  have hy := RG.prune_valid (t := t) hv
  have hyo := RG.prune_OK (t := t) h
  have he' : (g.prune t).prE t = 0 := by unfold RG.prE; rw [if_pos hy, if_pos ht]
  simp [go_sem, he]
  refine call_val (prune18 (g.prune t) t hyo) rfl rfl ?_
  simp [go_sem, he']
  refine call_val ((same35 _ _ hyo (RG.prune_OK hyo)).val (v' := .b true) (by rw [RG.prune_same])) rfl rfl ?_
  simp [go_sem]
  refine call_val (check28 _ hyo) rfl rfl ?_
  simp [go_sem, hy]
  refine call_val (answer26 g q h hq) rfl rfl ?_
  simp [go_sem]
  refine call_val (answer26 (g.prune t) q hyo hq) rfl rfl ?_
  by_cases htq : q.t < t
  · simp [go_sem, htq]
  have ha := RG.prune_ans hv (t := t) (q := q) (by omega)
  have hr := ha.2
  simp [RG.rep] at hr
  simp [go_sem, htq, ha.1, hr]
end Go.Gx
