/-
  Contracts of the reference: Valid.
-/
import Derived.Test.YtaggojedpkddjaaRd
set_option linter.unusedVariables false
set_option linter.unusedSimpArgs false
set_option maxRecDepth 20000
set_option maxHeartbeats 1000000
namespace Go.Gx
open Go.RowKit Go.Proofs Go.Proofs.Ytaggojedpkddjaa

theorem valid58 (g : RG) (h : g.OK) : Pure Try.prog 58 [g.sv] (· = .b g.valid) := by
  refine pure_of_GC T_ok Try.func58 rfl (by kernel_rfl) (Nat.le_of_ble_eq_true rfl) rfl rfl ?_
  have h1 := h.nr
  have h2 := h.nc
  have h3 := h.nw
  have h4 := h.nm
  simp [go_sem]
  split; rotate_left
  · rename_i a; exact RG.no1 (by unfold RG.c1; rw [decide_eq_false a]; rfl)
  rename_i a1
  split; rotate_left
  · rename_i a; exact RG.no2 (by unfold RG.c2; rw [decide_eq_false a]; rfl)
  rename_i a2
  split; rotate_left
  · rename_i a; exact RG.no3 (by unfold RG.c3; rw [decide_eq_false a]; rfl)
  rename_i a3
  split
  · rename_i a; exact RG.no4 (by unfold RG.c4; rw [decide_eq_false (by omega)]; rfl)
  rename_i a4
  refine GLoop_of T_ok (α := Nat) (fun k => [(1, .ptr 0 0 4 0), (3, .i k)]) (fun _ => g.box) 1 (fun k => k ≤ g.nr ∧ ∀ j, j < k → (g.r j).good = true) (fun k => g.nr - k) 0 (fun _ => rfl) (by simp) (by simp [go_sem]) (by simp [go_sem]) ?_
  intro k J hi
  simp [go_sem]
  split
  · rename_i hlt
    refine ⟨hlt, ?_⟩
    refine call_val (validRule113 (g.r k)) rfl rfl ?_
    simp [go_sem]
    split
    · rename_i hg
      exact ⟨by omega, k + 1, ⟨by omega, step_all hi.2 hg⟩, by omega, by simp⟩
    · rename_i hg
      exact RG.n1 hlt hg
  rename_i hge
  have r1 : ∀ j, j < g.nr → (g.r j).good = true := fun j hj => hi.2 j (by omega)
  clear hi
  refine GLoop_of T_ok (α := Nat) (fun k => [(1, .ptr 0 0 4 0), (4, .i k)]) (fun _ => g.box) 1 (fun k => k ≤ g.nc ∧ (∀ j, j < k → (g.c j).good = true) ∧ ∀ j, j + 1 < k → (g.c j).lt (g.c (j + 1)) = true) (fun k => g.nc - k) 0 (fun _ => rfl) (by simp) (by simp [go_sem]) (by simp [go_sem]) ?_
  intro k J hi
  simp [go_sem]
  split
  · rename_i hlt
    refine ⟨hlt, ?_⟩
    refine GDraw_all T_ok (by kernel_rfl) (by kernel_rfl) ?_
    by_cases hg : (g.c k).good = true
    · have hv := (validConsent101 (g.c k)).val (v' := .b true) (by rw [hg])
      rcases k with _ | k
      · simp [go_sem]
        refine ⟨_, dcall_val hv rfl rfl, ?_⟩
        simp [go_sem]
        exact ⟨1, ⟨by omega, fun j hj => by rw [lt1 hj]; exact hg, fun j hj => by omega⟩, by omega, rfl⟩
      · simp [go_sem]
        refine ⟨_, dcall_val hv rfl rfl, ?_⟩
        simp [go_sem]
        refine ⟨by omega, by omega, by omega, by omega, ?_⟩
        by_cases hl : (g.c k).lt (g.c (k + 1)) = true
        · refine ⟨_, dcall_val ((before102 (g.c k).p (g.c k).q (g.c (k + 1)).p (g.c (k + 1)).q).val (v' := .b true) (by rw [← hl]; rfl)) rfl rfl, ?_⟩
          simp [go_sem]
          refine ⟨by omega, k + 2, ⟨by omega, step_all hi.2.1 hg, fun j hj => ?_⟩, by omega, by omega⟩
          by_cases hjk : j = k
          · subst hjk; exact hl
          · exact hi.2.2 j (by omega)
        · refine ⟨_, dcall_val ((before102 (g.c k).p (g.c k).q (g.c (k + 1)).p (g.c (k + 1)).q).val (v' := .b false) (by simp at hl; rw [← hl]; rfl)) rfl rfl, ?_⟩
          simp [go_sem]
          exact RG.n5 hlt hl
    · have hv := (validConsent101 (g.c k)).val (v' := .b false) (by simp at hg; rw [hg])
      simp [go_sem]
      refine ⟨_, dcall_val hv rfl rfl, ?_⟩
      simp [go_sem]
      exact RG.n2 hlt hg
  rename_i hge2
  have r2 : ∀ j, j < g.nc → (g.c j).good = true := fun j hj => hi.2.1 j (by omega)
  have r5 : ∀ j, j + 1 < g.nc → (g.c j).lt (g.c (j + 1)) = true := fun j hj => hi.2.2 j (by omega)
  clear hi
  refine GLoop_of T_ok (α := Nat) (fun k => [(1, .ptr 0 0 4 0), (6, .i k)]) (fun _ => g.box) 1 (fun k => k ≤ g.nw ∧ ∀ j, j < k → (g.w j).good = true) (fun k => g.nw - k) 0 (fun _ => rfl) (by simp) (by simp [go_sem]) (by simp [go_sem]) ?_
  intro k J hi
  simp [go_sem]
  split
  · rename_i hlt
    refine ⟨hlt, ?_⟩
    refine call_val (validWarrant114 (g.w k)) rfl rfl ?_
    simp [go_sem]
    split
    · rename_i hg
      exact ⟨by omega, k + 1, ⟨by omega, step_all hi.2 hg⟩, by omega, by simp⟩
    · rename_i hg
      exact RG.n3 hlt hg
  rename_i hge3
  have r3 : ∀ j, j < g.nw → (g.w j).good = true := fun j hj => hi.2 j (by omega)
  clear hi
  refine GLoop_of T_ok (α := Nat) (fun k => [(1, .ptr 0 0 4 0), (7, .i k)]) (fun _ => g.box) 1 (fun k => k ≤ g.nm ∧ (∀ j, j < k → (g.m j).good = true) ∧ ∀ j, j + 1 < k → (g.m j).lt (g.m (j + 1)) = true) (fun k => g.nm - k) 0 (fun _ => rfl) (by simp) (by simp [go_sem]) (by simp [go_sem]) ?_
  intro k J hi
  simp [go_sem]
  split
  · rename_i hlt
    refine ⟨hlt, ?_⟩
    refine GDraw_all T_ok (by kernel_rfl) (by kernel_rfl) ?_
    by_cases hg : (g.m k).good = true
    · have hv := (validMark104 (g.m k)).val (v' := .b true) (by rw [hg])
      rcases k with _ | k
      · simp [go_sem]
        refine ⟨_, dcall_val hv rfl rfl, ?_⟩
        simp [go_sem]
        exact ⟨1, ⟨by omega, fun j hj => by rw [lt1 hj]; exact hg, fun j hj => by omega⟩, by omega, rfl⟩
      · simp [go_sem]
        refine ⟨_, dcall_val hv rfl rfl, ?_⟩
        simp [go_sem]
        refine ⟨by omega, by omega, by omega, by omega, ?_⟩
        by_cases hl : (g.m k).lt (g.m (k + 1)) = true
        · refine ⟨_, dcall_val ((before102 (g.m k).l (g.m k).p (g.m (k + 1)).l (g.m (k + 1)).p).val (v' := .b true) (by rw [← hl]; rfl)) rfl rfl, ?_⟩
          simp [go_sem]
          refine ⟨by omega, k + 2, ⟨by omega, step_all hi.2.1 hg, fun j hj => ?_⟩, by omega, by omega⟩
          by_cases hjk : j = k
          · subst hjk; exact hl
          · exact hi.2.2 j (by omega)
        · refine ⟨_, dcall_val ((before102 (g.m k).l (g.m k).p (g.m (k + 1)).l (g.m (k + 1)).p).val (v' := .b false) (by simp at hl; rw [← hl]; rfl)) rfl rfl, ?_⟩
          simp [go_sem]
          exact RG.n6 hlt hl
    · have hv := (validMark104 (g.m k)).val (v' := .b false) (by simp at hg; rw [hg])
      simp [go_sem]
      refine ⟨_, dcall_val hv rfl rfl, ?_⟩
      simp [go_sem]
      exact RG.n4 hlt hg
  rename_i hge4
  have r4 : ∀ j, j < g.nm → (g.m j).good = true := fun j hj => hi.2.1 j (by omega)
  have r6 : ∀ j, j + 1 < g.nm → (g.m j).lt (g.m (j + 1)) = true := fun j hj => hi.2.2 j (by omega)
  have e1 : g.c1 = true := by unfold RG.c1; rw [decide_eq_true a1, all_yes r1]; rfl
  have e2 : g.c2 = true := by unfold RG.c2; rw [decide_eq_true a2, all_yes r2]; rfl
  have e3 : g.c3 = true := by unfold RG.c3; rw [decide_eq_true a3, all_yes r3]; rfl
  have e4 : g.c4 = true := by unfold RG.c4; rw [decide_eq_true (by omega), all_yes r4]; rfl
  have e5 : g.c5 = true := by unfold RG.c5; exact all_yes fun j hj => r5 j (by omega)
  have e6 : g.c6 = true := by unfold RG.c6; exact all_yes fun j hj => r6 j (by omega)
  simp [RG.valid, e1, e2, e3, e4, e5, e6]
end Go.Gx
