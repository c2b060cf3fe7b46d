/-
  Law: RightsForgotten.
-/
import Derived.Test.YtaggojedpkddjaaRq
import Derived.Test.YtaggojedpkddjaaSa
set_option linter.unusedVariables false
set_option linter.unusedSimpArgs false
set_option maxRecDepth 20000
set_option maxHeartbeats 2000000
namespace Go.Gx
open Go.RowKit Go.Proofs Go.Proofs.Ytaggojedpkddjaa

section
variable {g : RG} {t : Int}
theorem RG.forget_R {a : RuleG} : (g.forget t).InR a ↔ g.InR a := Iff.rfl
theorem RG.forget_C {a : ConG} : (g.forget t).InC a ↔ g.InC a ∧ a.p ≠ t := by
  have := kept_in (x := g.c) (f := fun a => decide (a.p = t)) (n := g.nc) (a := a)
  simpa [RG.InC, RG.forget, RG.sel] using this
theorem RG.forget_W {a : WarG} : (g.forget t).InW a ↔ g.InW a ∧ a.p ≠ t := by
  have := kept_in (x := g.w) (f := fun a => decide (a.p = t)) (n := g.nw) (a := a)
  simpa [RG.InW, RG.forget, RG.sel] using this
theorem RG.forget_M {a : MarkG} : (g.forget t).InM a ↔ g.InM a ∧ a.p ≠ t := by
  have := kept_in (x := g.m) (f := fun a => decide (a.p = t)) (n := g.nm) (a := a)
  simpa [RG.InM, RG.forget, RG.sel] using this
theorem RG.forget_valid (h : g.valid = true) : (g.forget t).valid = true :=
  RG.sel_valid h (Nat.le_refl _) (fun a ha => ha) (kept_inc _ _) (kept_inc _ _) (kept_inc _ _) rfl (fun _ => rfl) rfl (fun _ => rfl) rfl (fun _ => rfl)
theorem RG.forget_OK (h : g.OK) : (g.forget t).OK := by
  have := h.nr; have := h.nc; have := h.nw; have := h.nm
  have := kept_le (fun i => decide ((g.c i).p = t)) g.nc
  have := kept_le (fun i => decide ((g.w i).p = t)) g.nw
  have := kept_le (fun i => decide ((g.m i).p = t)) g.nm
  exact ⟨h.nr, by simp only [RG.forget, RG.sel]; omega, by simp only [RG.forget, RG.sel]; omega, by simp only [RG.forget, RG.sel]; omega, h.by'⟩
theorem RG.forget_C1 {q : QG} (h : (g.forget t).hasC q = true) : g.hasC q = true := by
  obtain ⟨a, h1, h2⟩ := RG.hasC_iff.1 h
  exact RG.hasC_iff.2 ⟨a, (RG.forget_C.1 h1).1, h2⟩
theorem RG.forget_W1 {q : QG} (h : (g.forget t).hasW q = true) : g.hasW q = true := by
  obtain ⟨a, h1, h2⟩ := RG.hasW_iff.1 h
  exact RG.hasW_iff.2 ⟨a, (RG.forget_W.1 h1).1, h2⟩
theorem RG.forget_lev {q : QG} : (g.forget t).lev q (g.forget t).nr ≤ g.lev q g.nr :=
  RG.lev_le fun a h1 h2 => ⟨h1, ruleB_le RG.forget_C1 RG.forget_W1 h2⟩
theorem RG.forget_ans (h : g.valid = true) {q : QG} (ht : q.w ≠ t) : g.aerr q = (g.forget t).aerr q ∧ g.rep q = (g.forget t).rep q := by
  have hv := RG.forget_valid (t := t) h
  refine RG.ans_eq (by simp [ask, h, hv]) (Int.le_antisymm (RG.lev_le fun a h1 h2 => ⟨h1, ruleB_le (fun hc => ?_) (fun hc => ?_) h2⟩) RG.forget_lev) fun _ => RG.onM_eq (RG.v6 h) (RG.v6 hv) fun a hb => ?_
  · obtain ⟨a, h1, h2⟩ := RG.hasC_iff.1 hc
    exact RG.hasC_iff.2 ⟨a, RG.forget_C.2 ⟨h1, by simp [ConG.cov] at h2; omega⟩, h2⟩
  · obtain ⟨a, h1, h2⟩ := RG.hasW_iff.1 hc
    exact RG.hasW_iff.2 ⟨a, RG.forget_W.2 ⟨h1, by rw [WarG.cov_eq] at h2; simp [WarG.cov'] at h2; omega⟩, h2⟩
  · rw [RG.forget_M]
    simp [onB] at hb
    exact ⟨fun h => ⟨h, by omega⟩, fun h => h.1⟩
end

theorem law8 (g : RG) (q : QG) (t : Int) (hb : g.By) (ha : -9223372036854775808 ≤ t) (hz : t ≤ 9223372036854775807) : Pure Try.prog 8 [g.sv, q.sv, .i t] (· = .b true) := by
  refine pure_of_GC T_ok Try.func8 rfl (by kernel_rfl) (Nat.le_of_ble_eq_true rfl) rfl rfl ?_
  simp [go_sem]
  refine call_val alive24 rfl rfl ?_
  simp [go_sem]
  refine call_val (great16 g) rfl rfl ?_
  generalize hg : g.great = a
  cases a
  rotate_left
  · simp [go_sem]
  have h := OK_of hb hg
  simp [go_sem]
  refine call_val (long25 q) rfl rfl ?_
  by_cases hl : 20 < (q.nk : Int)
  · simp [go_sem, hl]
  have hq : q.OK := by unfold QG.OK; omega
  simp [go_sem, hl]
  refine call_val (forget20 g t h) rfl rfl ?_
  by_cases he : g.foE t = 0
  rotate_left
  · simp [go_sem, he]
  have hv : g.valid = true := by
    unfold RG.foE at he
    split at he
    · assumption
    · omega
  have hy := RG.forget_valid (t := t) hv
  have hyo := RG.forget_OK (t := t) h
  have hlim := RG.lim hy
  have pc : ∀ i, i < (g.forget t).nc → ((g.forget t).c i).p ≠ t := fun i hi => (RG.forget_C.1 ⟨i, hi, rfl⟩).2
  have pw : ∀ i, i < (g.forget t).nw → ((g.forget t).w i).p ≠ t := fun i hi => (RG.forget_W.1 ⟨i, hi, rfl⟩).2
  have pm : ∀ i, i < (g.forget t).nm → ((g.forget t).m i).p ≠ t := fun i hi => (RG.forget_M.1 ⟨i, hi, rfl⟩).2
  have hfr : (g.forget t).nr = g.nr := rfl
  have hans : q.w ≠ t → g.aerr q = (g.forget t).aerr q ∧ g.rep q = (g.forget t).rep q := fun hw => RG.forget_ans hv hw
  simp [go_sem, he]
  generalize hyy : g.forget t = y at *
  refine GLoop_of T_ok (α := Nat) (fun k => [(2, .i t), (3, .ptr 0 0 4 0), (4, .ptr 1 0 6 0), (7, .b true), (8, .ptr 2 0 4 0), (42, ConG.rs y.nc y.c), (43, .i y.nc), (44, .i k)])
    (fun _ => g.box ++ [q.bx, some (.box [RuleG.rs y.nr y.r, ConG.rs y.nc y.c, WarG.rs y.nw y.w, MarkG.rs y.nm y.m])]) 3 (fun k => k ≤ y.nc) (fun k => y.nc - k) 0 (fun _ => rfl) (by simp) (by simp [go_sem]) (by simp [go_sem]) ?_
  intro k J hi
  by_cases hlt : k < y.nc
  · have := pc k hlt
    simp [go_sem, hlt, this]
    exact ⟨by omega, k + 1, by omega, by omega, by simp⟩
  simp [go_sem, hlt]
  refine GLoop_of T_ok (α := Nat) (fun k => [(2, .i t), (3, .ptr 0 0 4 0), (4, .ptr 1 0 6 0), (7, .b true), (8, .ptr 2 0 4 0), (54, WarG.rs y.nw y.w), (55, .i y.nw), (56, .i k)])
    (fun _ => g.box ++ [q.bx, some (.box [RuleG.rs y.nr y.r, ConG.rs y.nc y.c, WarG.rs y.nw y.w, MarkG.rs y.nm y.m])]) 3 (fun k => k ≤ y.nw) (fun k => y.nw - k) 0 (fun _ => rfl) (by simp) (by simp [go_sem]) (by simp [go_sem]) ?_
  intro k J hi
  by_cases hlt : k < y.nw
  · have := pw k hlt
    simp [go_sem, hlt, this]
    exact ⟨by omega, k + 1, by omega, by omega, by simp⟩
  simp [go_sem, hlt]
  refine GLoop_of T_ok (α := Nat) (fun k => [(2, .i t), (3, .ptr 0 0 4 0), (4, .ptr 1 0 6 0), (7, .b true), (8, .ptr 2 0 4 0), (66, MarkG.rs y.nm y.m), (67, .i y.nm), (68, .i k)])
    (fun _ => g.box ++ [q.bx, some (.box [RuleG.rs y.nr y.r, ConG.rs y.nc y.c, WarG.rs y.nw y.w, MarkG.rs y.nm y.m])]) 3 (fun k => k ≤ y.nm) (fun k => y.nm - k) 0 (fun _ => rfl) (by simp) (by simp [go_sem]) (by simp [go_sem]) ?_
  intro k J hi
  by_cases hlt : k < y.nm
  · have := pm k hlt
    simp [go_sem, hlt, this]
    exact ⟨by omega, k + 1, by omega, by omega, by simp⟩
  simp [go_sem, hlt]
  refine call_val (answer26 g q h hq) rfl rfl ?_
  simp [go_sem]
  refine call_val (answer26 y q hyo hq) rfl rfl ?_
  simp [go_sem, hfr]
  by_cases hw : q.w = t
  · simp [go_sem, hw]
  obtain ⟨h1, h2⟩ := hans hw
  simp [RG.rep] at h2
  simp [go_sem, hw, h1, h2]
end Go.Gx
