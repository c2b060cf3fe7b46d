/-
  The program's open: a desk in memory of its own.
-/
import Derived.Test.YtnajladibkpeaaaFk
set_option linter.unusedVariables false
set_option linter.unusedSimpArgs false
set_option maxRecDepth 20000
set_option maxHeartbeats 4000000
namespace Go.Gx
open Go.RowKit Go.Proofs Go.Proofs.Ytnajladibkpeaaa

theorem EG.oc_mv (g : EG) {a p q i j : Nat} (h1 : ¬ i + a = p) (h2 : ¬ i + a = q) : (g.oc a i j).mv p q = g.oc a i j := by
  unfold EG.oc
  split
  · simp [SV.mv, h1, h2]
  · rfl
/-- Small enough for everything. -/
structure EG.Sm (g : EG) : Prop where
  nr : g.nr ≤ 1000
  nl : g.nl ≤ 1000
  nc : g.nc ≤ 1000
  nv : ∀ i, i < g.nc → (g.c i).nv ≤ 1000
theorem EG.Sm.ok {g : EG} (h : g.Sm) : g.OK := ⟨by have := h.nr; omega, by have := h.nl; omega, by have := h.nc; omega, fun i hi => by have := h.nv i hi; omega⟩
abbrev EG.kbox (g : EG) (r l c m : Nat) : Reg := .box [.sl r 2 0 g.nr none, .sl l 3 0 g.nl none, .sl c 3 0 g.nc none, .mp m]
abbrev EG.vr (g : EG) : Reg := .vec 85 2 g.nr fun i j => .r ((g.r i).c j)
abbrev EG.vl (g : EG) : Reg := .vec 46 3 g.nl fun i j => .r ((g.l i).c j)
abbrev EG.kR6 (g : EG) : List Reg := [g.kbox 2 3 4 1, g.dmap, g.vr, g.vl, .vec 93 3 g.nc (g.oc 5)] ++ (List.range g.nc).map g.ov
theorem open_bad {g : EG} (h : g.OK) (hv : g.valid = false) : Own Try.prog 61 [] [g.sv] (.tup [nilP, .i 8]) [] := by
  refine own_of_GC T_ok Try.func61 rfl (by kernel_rfl) (Nat.le_of_ble_eq_true rfl) rfl rfl ?_
  simp [go_sem]
  refine callK_own [] (look_bad h hv) (by simp) rfl trivial ?_
  simp [go_sem]
  exact ⟨[], by simp, fun N => ⟨by simp [go_sem], trivial⟩⟩
theorem open61 {g : EG} (h : g.Sm) (hv : g.valid = true) : Own Try.prog 61 [] [g.sv] (.tup [.ptr 0 0 4 0, .i 0]) g.kR6 := by
  refine own_of_GC T_ok Try.func61 rfl (by kernel_rfl) (Nat.le_of_ble_eq_true rfl) rfl rfl ?_
  have hr := h.nr
  have hl := h.nl
  have hc := h.nc
  simp [go_sem]
  refine callK_own [] (look_yes h.ok hv) (by simp) rfl trivial ?_
  simp [go_sem]
  refine GDraw_mix (fun f => f == 114 || f == 115 || f == 116) T_ok (by kernel_rfl) [1, 2] 12 (by kernel_rfl) (by kernel_rfl) (by kernel_rfl) (fun _ _ _ _ h => h) rfl rfl ?_
  simp [go_sem]
  refine ⟨_, _, dnew_own (clone114 g.nr (by omega) fun i j => (g.r i).c j) rfl, _, _, dnew_own (clone115 g.nl (by omega) fun i j => (g.l i).c j) rfl, _, _, dnew_own (clone116 g.nc (by omega) fun i j => (g.c i).c j) rfl, ?_⟩
  simp [go_sem]
  refine GLoop_v T_ok (α := Nat) (fun k => [(4, .ptr 1 0 4 0), (41, .sl 5 3 0 g.nc none), (42, .i g.nc), (43, .i k)])
    (fun k => famN (memL [g.bx, some (g.kbox 3 4 5 2), some g.dmap, some g.vr, some g.vl, some (.vec 93 3 g.nc fun i j => if i < k then g.oc 6 i j else .r ((g.c i).c j))]) 6 k fun i => some (g.ov i))
    (fun k => k + 6) (fun k => k ≤ g.nc) (fun k => g.nc - k) 0 (by simp) ?_ ?_
  · refine Fit.of_famN (by decide) ?_ rfl ?_ (fun i hi => by omega)
    · simp [go_sem]
    · simp [go_sem]
  intro k J hi
  by_cases hlt : k < g.nc
  rotate_left
  · have e : k = g.nc := by omega
    subst e
    simp [go_sem]
    refine ⟨famR [1, 2, 3, 4, 5] g.nc 6, famR_nodup (by simp) (by simp), fun N => ⟨by simp [go_sem, famR_lo], ?_⟩⟩
    refine gexpR_famN (l := [1, 2, 3, 4, 5]) (Rs := [g.kbox 2 3 4 1, g.dmap, g.vr, g.vl, .vec 93 3 g.nc (g.oc 5)]) ?_ fun i hi => ?_
    · simp [go_sem, famR_lo]
      intro i j hi hj
      rw [if_pos hi]
      unfold EG.oc
      split
      · simp only [SV.ren]
        have := famR_hi (l := [1, 2, 3, 4, 5]) (b := 6) (D := N) hi
        simp only [List.length_cons, List.length_nil] at this
        rw [this]
      · rfl
    · simp [go_sem, hi]
  have hvk := h.nv k hlt
  simp [go_sem, hlt]
  refine GDraw_new (fun f => f == 117) T_ok (by kernel_rfl) 9 (by kernel_rfl) rfl rfl ?_
  simp [go_sem, hlt]
  refine ⟨_, _, dnew_own (clone117 (g.c k).nv (by omega) fun i j => ((g.c k).v i).c j) rfl, ?_⟩
  simp [go_sem, hlt]
  have e7 : ∀ i, i ≤ k → ¬ i + 6 = k + 7 := fun i _ => by omega
  refine ⟨by omega, k + 1, by omega, by omega, Fit.vw (GSt.move (k + 7) (k + 6) (by omega) (Nat.zero_le _) (Nat.zero_le _) (by omega)) (Fit.of_famN (by simp) ?_ rfl ?_ fun i hi2 => ?_)⟩
  · simp [go_sem]
  · simp [go_sem]
    intro i j hi1 hj
    by_cases e : i = k
    · subst e
      rcases (by omega : j = 0 ∨ j = 1 ∨ j = 2) with e | e | e <;> subst e <;> simp [go_sem]
    · by_cases e2 : i < k
      · have e3 : i < k + 1 := by omega
        rw [if_neg (by omega), if_pos e2, if_pos e3, g.oc_mv (e7 i (by omega)) (by omega)]
        unfold EG.oc
        split
        · simp [SV.trim, show i + 6 < k + 1 + 6 by omega]
        · rfl
      · have e3 : ¬ i < k + 1 := by omega
        rw [if_neg (by omega), if_neg e2, if_neg e3]
  · by_cases e : i = k
    · subst e
      simp [go_sem]
    · have e2 : i < k := by omega
      have e4 : ¬ i = k + 1 := by omega
      simp [go_sem, e, e2, e4, e7 i (by omega), EG.ov]
end Go.Gx
