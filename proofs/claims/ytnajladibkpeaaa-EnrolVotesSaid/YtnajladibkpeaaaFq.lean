/-
  The law of Add and Remove.
-/
import Derived.Test.YtnajladibkpeaaaFr
set_option linter.unusedVariables false
set_option linter.unusedSimpArgs false
set_option maxRecDepth 20000
set_option maxHeartbeats 8000000
namespace Go.Gx
open Go.RowKit Go.Proofs Go.Proofs.Ytnajladibkpeaaa

theorem le_sub {s s' : SV} (h : s.sub s') : s.le s' := fun _ _ _ hr => SV.sub_rel _ _ _ h hr
def EG.nil : EG := ⟨0, fun _ => ⟨0, false⟩, 0, fun _ => ⟨0, 0, false⟩, 0, fun _ => ⟨0, 0, 0, fun _ => ⟨0, false⟩⟩⟩
theorem EG.nil_OK : EG.nil.OK := ⟨Nat.zero_le _, Nat.zero_le _, Nat.zero_le _, fun i hi => absurd hi (Nat.not_lt_zero _)⟩
theorem same33nil : Pure Try.prog 33 [nilR, nilR] (· = .b true) := by
  have h := (same33 EG.nil EG.nil EG.nil_OK EG.nil_OK).args (args := [nilR, nilR]) ⟨le_sub (by simp [go_sem, EG.nil]), le_sub (by simp [go_sem, EG.nil]), trivial⟩
  rw [EG.smB_rfl] at h
  exact h
theorem same33rfl (g : EG) (h : g.OK) : Pure Try.prog 33 [g.sv, g.sv] (· = .b true) := by
  have := same33 g g h h
  rwa [EG.smB_rfl] at this
theorem same32rfl (g : EG) (h : g.OK) : Pure Try.prog 32 [g.sv, g.sv] (· = .b true) := by
  have := same32 g g h h
  rwa [EG.smB_rfl] at this
theorem same33view (x : EG) (h : x.OK) {get : Nat → Nat → RV} (hget : ∀ i j, i < x.nc → j < 3 → get i j = (x.c i).c j) : Pure Try.prog 33 [.agg [x.rr, x.ll, .r (.rs 3 x.nc get)], x.sv] (· = .b true) :=
  (same33rfl x h).args ⟨le_sub (by simp [go_sem]; exact hget), SV.le.rfl, trivial⟩
theorem spoilNil : Pure Try.prog 34 [nilR] (· = .tup []) := by
  refine pure_of_GC T_ok Try.func34 rfl (by kernel_rfl) (Nat.le_of_ble_eq_true rfl) rfl rfl ?_
  simp [go_sem]
  refine GLoop_of T_ok (α := Nat) (fun k => [(1, .ptr 0 0 3 0), (8, .i 0), (9, .i k)]) (fun _ => [some (.box [nilS, nilS, nilS])]) 1 (fun k => k ≤ 0) (fun k => 0 - k) 0 (fun _ => rfl) (by simp) (by simp [go_sem]) (by simp [go_sem]) ?_
  intro k J hi
  have hk : k = 0 := by omega
  subst hk
  simp [go_sem]
  refine GLoop_of T_ok (α := Nat) (fun k => [(1, .ptr 0 0 3 0), (20, .i 0), (21, .i k)]) (fun _ => [some (.box [nilS, nilS, nilS])]) 1 (fun k => k ≤ 0) (fun k => 0 - k) 0 (fun _ => rfl) (by simp) (by simp [go_sem]) (by simp [go_sem]) ?_
  intro k J hi
  have hk : k = 0 := by omega
  subst hk
  simp [go_sem]
  refine GLoop_of T_ok (α := Nat) (fun k => [(1, .ptr 0 0 3 0), (32, .i 0), (33, .i k)]) (fun _ => [some (.box [nilS, nilS, nilS])]) 1 (fun k => k ≤ 0) (fun k => 0 - k) 0 (fun _ => rfl) (by simp) (by simp [go_sem]) (by simp [go_sem]) ?_
  intro k J hi
  have hk : k = 0 := by omega
  subst hk
  simp [go_sem]
theorem law5nn (g s : EG) (q a e1 e2 : Int) (hg : g.great = false) (hs : s.great = false)
    (A1 : Own Try.prog 26 [] [g.sv, .i q] (.tup [nilR, .i 0, .i e1]) []) (A2 : Pure Try.prog 27 [g.sv, .i q] (· = .tup [nilR, .i 0, .i e1]))
    (R1 : Own Try.prog 28 [] [g.sv, .i a] (.tup [nilR, .i e2]) []) (R2 : Pure Try.prog 29 [g.sv, .i a] (· = .tup [nilR, .i e2])) : Pure Try.prog 5 [g.sv, s.sv, .i q, .i a] (· = .b true) := by
  refine pure_of_GC T_ok Try.func5 rfl (by kernel_rfl) (Nat.le_of_ble_eq_true rfl) rfl rfl ?_
  obtain ⟨h, hr, hl, hc, hv⟩ := EG.OK_of hg
  obtain ⟨h', -⟩ := EG.OK_of hs
  simp [go_sem]
  refine call_val (great12' g) rfl rfl ?_
  simp [go_sem, hg]
  refine call_val (great12' s) rfl rfl ?_
  simp [go_sem, hs]
  refine call_val (twin25p g (by omega) (by omega) (by omega) fun i hi => by have := hv i hi; omega) rfl rfl ?_
  simp [go_sem]
  refine callK_own [] A1 (by simp) rfl trivial ?_
  simp [go_sem]
  refine call_val A2 rfl rfl ?_
  simp [go_sem]
  refine callK_own [] R1 (by simp) rfl trivial ?_
  simp [go_sem]
  refine call_val R2 rfl rfl ?_
  simp [go_sem]
  have c1 := check30 g h
  have c2 := refCheck31 g h
  have s1 := same32 g s h h'
  have s2 := same33 g s h h'
  generalize (if g.valid then (0 : Int) else 8) = cv at c1 c2
  generalize g.smB s = sb at s1 s2
  refine GDraw_all T_ok (by kernel_rfl) (by kernel_rfl) ?_
  simp [go_sem]
  refine ⟨_, dcall_val c1 rfl rfl, ?_⟩
  simp [go_sem]
  refine ⟨_, dcall_val c2 rfl rfl, ?_⟩
  simp [go_sem]
  refine ⟨_, dcall_val s1 rfl rfl, ?_⟩
  simp [go_sem]
  refine ⟨_, dcall_val s2 rfl rfl, ?_⟩
  cases sb
  all_goals
    simp [go_sem]
    refine ⟨_, dcall_val (same32rfl g h) rfl rfl, ?_⟩
    simp [go_sem]
    refine ⟨_, dcall_val same33nil rfl rfl, ?_⟩
    simp [go_sem]
    refine ⟨_, dcall_val same33nil rfl rfl, ?_⟩
    simp [go_sem]
    refine call_val spoilNil rfl rfl ?_
    simp [go_sem]
    refine call_val spoilNil rfl rfl ?_
    simp [go_sem]
    refine call_val (same33rfl g h) rfl rfl ?_
    simp [go_sem]
theorem law5oo (g s x y : EG) (q a e0 e1 e2 : Int) (hg : g.great = false) (hs : s.great = false) (hx : x.Sm) (hy : y.Sm)
    (A1 : Own Try.prog 26 [] [g.sv, .i q] (.tup [x.oS, .i e0, .i e1]) x.oR) (A2 : Pure Try.prog 27 [g.sv, .i q] (· = .tup [x.sv, .i e0, .i e1]))
    (R1 : Own Try.prog 28 [] [g.sv, .i a] (.tup [y.oS, .i e2]) y.oR) (R2 : Pure Try.prog 29 [g.sv, .i a] (· = .tup [y.sv, .i e2])) : Pure Try.prog 5 [g.sv, s.sv, .i q, .i a] (· = .b true) := by
  refine pure_of_GC T_ok Try.func5 rfl (by kernel_rfl) (Nat.le_of_ble_eq_true rfl) rfl rfl ?_
  obtain ⟨h, hr, hl, hc, hv⟩ := EG.OK_of hg
  obtain ⟨h', -⟩ := EG.OK_of hs
  simp [go_sem]
  refine call_val (great12' g) rfl rfl ?_
  simp [go_sem, hg]
  refine call_val (great12' s) rfl rfl ?_
  simp [go_sem, hs]
  refine call_val (twin25p g (by omega) (by omega) (by omega) fun i hi => by have := hv i hi; omega) rfl rfl ?_
  simp [go_sem]
  refine callK_own [] A1 (by simp) rfl trivial ?_
  simp [go_sem]
  obtain ⟨B, hB⟩ : ∃ B, B = 3 + (x.nc + 1 + 1 + 1) := ⟨_, rfl⟩
  rw [← hB]
  have b0 : ∀ n, n < 6 → ¬ n = B := fun n _ => by omega
  have b1 : ∀ n, n < 6 → ¬ B = n := fun n _ => by omega
  have b2 : ∀ n, n < 6 → n < B := fun n _ => by omega
  have b3 : ¬ B < x.nc + 6 := by omega
  have b4 : ¬ B < x.nc + 5 := by omega
  refine call_val A2 rfl rfl ?_
  simp [go_sem, b0, b1, b2, b3, b4]
  obtain ⟨C, hC⟩ : ∃ C, C = B + 1 + 1 := ⟨_, rfl⟩
  rw [← hC]
  have c0 : ¬ B = C := by omega
  have c1 : ¬ B = C + 1 := by omega
  have c2 : ¬ B = C + 2 := by omega
  have c3 : ¬ B + 1 = C := by omega
  have c4 : ¬ C = B := by omega
  have c5 : ¬ C = B + 1 := by omega
  have c6 : ¬ C + 1 = B := by omega
  have c7 : ¬ C + 2 = B := by omega
  have c8 : ∀ n, n < 6 → ¬ n = C := fun n _ => by omega
  have c9 : ∀ n, n < 6 → ¬ C = n := fun n _ => by omega
  have c10 : ∀ n, n < 6 → n < C := fun n _ => by omega
  have c11 : ¬ C < x.nc + 6 := by omega
  have c12 : ¬ C < x.nc + 5 := by omega
  have c13 : ¬ C < x.nc + 4 := by omega
  have c14 : ∀ n, n < 6 → ¬ C ≤ n := fun n _ => by omega
  have c15 : ¬ C + 3 ≤ B := by omega
  have c16 : ¬ C + 3 ≤ C := by omega
  have c17 : ¬ C + 2 ≤ C := by omega
  have c18 : ¬ C + 1 ≤ C := by omega
  have c19 : ¬ C + 2 ≤ B := by omega
  have c20 : B < C := by omega
  have c21 : B + 1 < C := by omega
  refine callK_own [] R1 (by simp) rfl trivial ?_
  simp [go_sem, b0, b1, b2, b3, b4, c0, c1, c2, c3, c4, c5, c6, c7, c8, c9, c10, c11, c12, c13, c14, c15, c16, c17, c18, c19, c20, c21]
  obtain ⟨D, hD⟩ : ∃ D, D = C + (y.nc + 1 + 1 + 1) := ⟨_, rfl⟩
  rw [← hD]
  have d0 : ¬ B = D := by omega
  have d1 : ¬ B = D + 1 := by omega
  have d2 : ¬ B + 1 = D := by omega
  have d3 : ¬ C = D := by omega
  have d4 : ¬ C = D + 1 := by omega
  have d5 : ¬ C + 1 = D := by omega
  have d6 : ¬ C + 2 = D := by omega
  have d7 : ¬ D = B := by omega
  have d8 : ¬ D = B + 1 := by omega
  have d9 : ¬ D = C := by omega
  have d10 : ¬ D = C + 1 := by omega
  have d11 : ¬ D = C + 2 := by omega
  have d12 : ¬ D + 1 = B := by omega
  have d13 : ¬ D + 1 = C := by omega
  have d14 : ∀ n, n < 6 → ¬ n = D := fun n _ => by omega
  have d15 : ∀ n, n < 6 → ¬ D = n := fun n _ => by omega
  have d16 : ∀ n, n < 6 → n < D := fun n _ => by omega
  have d17 : ¬ D < x.nc + 6 := by omega
  have d18 : ¬ D < x.nc + 5 := by omega
  have d19 : ¬ D < y.nc + (C + 3) := by omega
  have d20 : ¬ D < y.nc + C + 3 := by omega
  have d21 : ¬ D + 1 < y.nc + (C + 3) := by omega
  have d22 : ¬ D < y.nc + (C + 2) := by omega
  have d23 : B < D := by omega
  have d24 : B + 1 < D := by omega
  have d25 : C < D := by omega
  have d26 : C + 1 < D := by omega
  have d27 : C + 2 < D := by omega
  refine call_val R2 rfl rfl ?_
  simp [go_sem, b0, b1, b2, b3, b4, c0, c1, c2, c3, c4, c5, c6, c7, c8, c9, c10, c11, c12, c13, c14, c15, c16, c17, c18, c19, c20, c21, d0, d1, d2, d3, d4, d5, d6, d7, d8, d9, d10, d11, d12, d13, d14, d15, d16, d17, d18, d19, d20, d21, d22, d23, d24, d25, d26, d27]
  have k1 := check30 g h
  have k2 := refCheck31 g h
  have s1 := same32 g s h h'
  have s2 := same33 g s h h'
  generalize (if g.valid then (0 : Int) else 8) = cv at k1 k2
  generalize g.smB s = sb at s1 s2
  refine GDraw_all T_ok (by kernel_rfl) (by kernel_rfl) ?_
  simp [go_sem, b0, b1, b2, b3, b4, c0, c1, c2, c3, c4, c5, c6, c7, c8, c9, c10, c11, c12, c13, c14, c15, c16, c17, c18, c19, c20, c21, d0, d1, d2, d3, d4, d5, d6, d7, d8, d9, d10, d11, d12, d13, d14, d15, d16, d17, d18, d19, d20, d21, d22, d23, d24, d25, d26, d27]
  refine ⟨_, dcall_val k1 rfl rfl, ?_⟩
  simp [go_sem, b0, b1, b2, b3, b4, c0, c1, c2, c3, c4, c5, c6, c7, c8, c9, c10, c11, c12, c13, c14, c15, c16, c17, c18, c19, c20, c21, d0, d1, d2, d3, d4, d5, d6, d7, d8, d9, d10, d11, d12, d13, d14, d15, d16, d17, d18, d19, d20, d21, d22, d23, d24, d25, d26, d27]
  refine ⟨_, dcall_val k2 rfl rfl, ?_⟩
  simp [go_sem, b0, b1, b2, b3, b4, c0, c1, c2, c3, c4, c5, c6, c7, c8, c9, c10, c11, c12, c13, c14, c15, c16, c17, c18, c19, c20, c21, d0, d1, d2, d3, d4, d5, d6, d7, d8, d9, d10, d11, d12, d13, d14, d15, d16, d17, d18, d19, d20, d21, d22, d23, d24, d25, d26, d27]
  refine ⟨_, dcall_val s1 rfl rfl, ?_⟩
  simp [go_sem, b0, b1, b2, b3, b4, c0, c1, c2, c3, c4, c5, c6, c7, c8, c9, c10, c11, c12, c13, c14, c15, c16, c17, c18, c19, c20, c21, d0, d1, d2, d3, d4, d5, d6, d7, d8, d9, d10, d11, d12, d13, d14, d15, d16, d17, d18, d19, d20, d21, d22, d23, d24, d25, d26, d27]
  refine ⟨_, dcall_val s2 rfl rfl, ?_⟩
  cases sb
  all_goals
    simp [go_sem, b0, b1, b2, b3, b4, c0, c1, c2, c3, c4, c5, c6, c7, c8, c9, c10, c11, c12, c13, c14, c15, c16, c17, c18, c19, c20, c21, d0, d1, d2, d3, d4, d5, d6, d7, d8, d9, d10, d11, d12, d13, d14, d15, d16, d17, d18, d19, d20, d21, d22, d23, d24, d25, d26, d27]
    refine ⟨_, dcall_val (same32rfl g h) rfl rfl, ?_⟩
    simp [go_sem, b0, b1, b2, b3, b4, c0, c1, c2, c3, c4, c5, c6, c7, c8, c9, c10, c11, c12, c13, c14, c15, c16, c17, c18, c19, c20, c21, d0, d1, d2, d3, d4, d5, d6, d7, d8, d9, d10, d11, d12, d13, d14, d15, d16, d17, d18, d19, d20, d21, d22, d23, d24, d25, d26, d27]
    refine ⟨⟨by omega, by omega, by omega⟩, _, dcall_deep (v := .b true) ?_ rfl, ?_⟩
    · simp [go_sem, b0, b1, b2, b3, b4, c0, c1, c2, c3, c4, c5, c6, c7, c8, c9, c10, c11, c12, c13, c14, c15, c16, c17, c18, c19, c20, c21, d0, d1, d2, d3, d4, d5, d6, d7, d8, d9, d10, d11, d12, d13, d14, d15, d16, d17, d18, d19, d20, d21, d22, d23, d24, d25, d26, d27]
      refine same33view x hx.ok fun i j hi hj => x.view_oc ?_ hj
      simp only [upd_app, famN_app]
      repeat rw [if_neg (by omega)]
      rw [if_pos (by omega)]
      simp
    simp [go_sem, b0, b1, b2, b3, b4, c0, c1, c2, c3, c4, c5, c6, c7, c8, c9, c10, c11, c12, c13, c14, c15, c16, c17, c18, c19, c20, c21, d0, d1, d2, d3, d4, d5, d6, d7, d8, d9, d10, d11, d12, d13, d14, d15, d16, d17, d18, d19, d20, d21, d22, d23, d24, d25, d26, d27]
    refine ⟨_, dcall_deep (v := .b true) ?_ rfl, ?_⟩
    · simp [go_sem, b0, b1, b2, b3, b4, c0, c1, c2, c3, c4, c5, c6, c7, c8, c9, c10, c11, c12, c13, c14, c15, c16, c17, c18, c19, c20, c21, d0, d1, d2, d3, d4, d5, d6, d7, d8, d9, d10, d11, d12, d13, d14, d15, d16, d17, d18, d19, d20, d21, d22, d23, d24, d25, d26, d27]
      refine same33view y hy.ok fun i j hi hj => y.view_oc ?_ hj
      simp only [upd_app, famN_app]
      repeat rw [if_neg (by omega)]
      rw [if_pos (by omega)]
      simp
    simp [go_sem, b0, b1, b2, b3, b4, c0, c1, c2, c3, c4, c5, c6, c7, c8, c9, c10, c11, c12, c13, c14, c15, c16, c17, c18, c19, c20, c21, d0, d1, d2, d3, d4, d5, d6, d7, d8, d9, d10, d11, d12, d13, d14, d15, d16, d17, d18, d19, d20, d21, d22, d23, d24, d25, d26, d27]
    refine spoilK x hx (p := 3) (by simp [go_sem, b0, b1, b2, b3, b4, c0, c1, c2, c3, c4, c5, c6, c7, c8, c9, c10, c11, c12, c13, c14, c15, c16, c17, c18, c19, c20, c21, d0, d1, d2, d3, d4, d5, d6, d7, d8, d9, d10, d11, d12, d13, d14, d15, d16, d17, d18, d19, d20, d21, d22, d23, d24, d25, d26, d27]) (by simp [go_sem, b0, b1, b2, b3, b4, c0, c1, c2, c3, c4, c5, c6, c7, c8, c9, c10, c11, c12, c13, c14, c15, c16, c17, c18, c19, c20, c21, d0, d1, d2, d3, d4, d5, d6, d7, d8, d9, d10, d11, d12, d13, d14, d15, d16, d17, d18, d19, d20, d21, d22, d23, d24, d25, d26, d27]) (by simp [go_sem, b0, b1, b2, b3, b4, c0, c1, c2, c3, c4, c5, c6, c7, c8, c9, c10, c11, c12, c13, c14, c15, c16, c17, c18, c19, c20, c21, d0, d1, d2, d3, d4, d5, d6, d7, d8, d9, d10, d11, d12, d13, d14, d15, d16, d17, d18, d19, d20, d21, d22, d23, d24, d25, d26, d27]) (fun i hi => ?_) fun M2 hM2 => ?_
    · simp only [upd_app, famN_app]
      repeat rw [if_neg (by omega)]
      rw [if_pos (by omega)]
      simp
    have m0 := hM2 0 (by omega)
    have m1 := hM2 2 (by omega)
    have m2 := hM2 C (by omega)
    have m3 := hM2 (C + 1) (by omega)
    have m4 := hM2 (C + 2) (by omega)
    have m5 := hM2 D (by omega)
    have m6 : ∀ i, i < y.nc → M2 (i + (C + 3)) = some (y.ov i) := fun i hi => by
      rw [hM2 _ (by omega)]
      simp only [upd_app, famN_app]
      repeat rw [if_neg (by omega)]
      rw [if_pos (by omega)]
      simp
    clear hM2
    simp [go_sem, b0, b1, b2, b3, b4, c0, c1, c2, c3, c4, c5, c6, c7, c8, c9, c10, c11, c12, c13, c14, c15, c16, c17, c18, c19, c20, c21, d0, d1, d2, d3, d4, d5, d6, d7, d8, d9, d10, d11, d12, d13, d14, d15, d16, d17, d18, d19, d20, d21, d22, d23, d24, d25, d26, d27] at m0 m1 m2 m3 m4 m5
    simp [go_sem, b0, b1, b2, b3, b4, c0, c1, c2, c3, c4, c5, c6, c7, c8, c9, c10, c11, c12, c13, c14, c15, c16, c17, c18, c19, c20, c21, d0, d1, d2, d3, d4, d5, d6, d7, d8, d9, d10, d11, d12, d13, d14, d15, d16, d17, d18, d19, d20, d21, d22, d23, d24, d25, d26, d27, m0, m1, m5]
    refine spoilK y hy (p := C) m2 m3 m4 m6 fun M3 hM3 => ?_
    have l0 := (hM3 0 (by omega)).trans m0
    have l1 := (hM3 2 (by omega)).trans m1
    clear hM3
    simp [go_sem, b0, b1, b2, b3, b4, c0, c1, c2, c3, c4, c5, c6, c7, c8, c9, c10, c11, c12, c13, c14, c15, c16, c17, c18, c19, c20, c21, d0, d1, d2, d3, d4, d5, d6, d7, d8, d9, d10, d11, d12, d13, d14, d15, d16, d17, d18, d19, d20, d21, d22, d23, d24, d25, d26, d27, l0, l1]
    refine call_val (same33rfl g h) rfl rfl ?_
    simp [go_sem]
theorem law5on (g s x : EG) (q a e0 e1 e2 : Int) (hg : g.great = false) (hs : s.great = false) (hx : x.Sm)
    (A1 : Own Try.prog 26 [] [g.sv, .i q] (.tup [x.oS, .i e0, .i e1]) x.oR) (A2 : Pure Try.prog 27 [g.sv, .i q] (· = .tup [x.sv, .i e0, .i e1]))
    (R1 : Own Try.prog 28 [] [g.sv, .i a] (.tup [nilR, .i e2]) []) (R2 : Pure Try.prog 29 [g.sv, .i a] (· = .tup [nilR, .i e2])) : Pure Try.prog 5 [g.sv, s.sv, .i q, .i a] (· = .b true) := by
  refine pure_of_GC T_ok Try.func5 rfl (by kernel_rfl) (Nat.le_of_ble_eq_true rfl) rfl rfl ?_
  obtain ⟨h, hr, hl, hc, hv⟩ := EG.OK_of hg
  obtain ⟨h', -⟩ := EG.OK_of hs
  simp [go_sem]
  refine call_val (great12' g) rfl rfl ?_
  simp [go_sem, hg]
  refine call_val (great12' s) rfl rfl ?_
  simp [go_sem, hs]
  refine call_val (twin25p g (by omega) (by omega) (by omega) fun i hi => by have := hv i hi; omega) rfl rfl ?_
  simp [go_sem]
  refine callK_own [] A1 (by simp) rfl trivial ?_
  simp [go_sem]
  obtain ⟨B, hB⟩ : ∃ B, B = 3 + (x.nc + 1 + 1 + 1) := ⟨_, rfl⟩
  rw [← hB]
  have b0 : ∀ n, n < 6 → ¬ n = B := fun n _ => by omega
  have b1 : ∀ n, n < 6 → ¬ B = n := fun n _ => by omega
  have b2 : ∀ n, n < 6 → n < B := fun n _ => by omega
  have b3 : ¬ B < x.nc + 6 := by omega
  have b4 : ¬ B < x.nc + 5 := by omega
  have b5 : ¬ B < x.nc + 4 := by omega
  have b6 : ¬ B < x.nc + 3 := by omega
  have b7 : ¬ B = B + 2 + 1 := by omega
  have b8 : ¬ B + 1 = B + 2 + 1 := by omega
  have b9 : ¬ B + 2 = B + 2 + 1 := by omega
  have b10 : ¬ B + 2 + 1 = B := by omega
  have b11 : ¬ B + 2 + 1 = B + 1 := by omega
  have b12 : ¬ B + 2 + 1 = B + 2 := by omega
  have b13 : ∀ n, n < 6 → ¬ n = B + 2 + 1 := fun n _ => by omega
  have b14 : ∀ n, n < 6 → ¬ B + 2 + 1 = n := fun n _ => by omega
  refine call_val A2 rfl rfl ?_
  simp [go_sem, b0, b1, b2, b3, b4, b5, b6, b7, b8, b9, b10, b11, b12, b13, b14]
  refine callK_own [] R1 (by simp) rfl trivial ?_
  simp [go_sem, b0, b1, b2, b3, b4, b5, b6, b7, b8, b9, b10, b11, b12, b13, b14]
  refine call_val R2 rfl rfl ?_
  simp [go_sem, b0, b1, b2, b3, b4, b5, b6, b7, b8, b9, b10, b11, b12, b13, b14]
  have k1 := check30 g h
  have k2 := refCheck31 g h
  have s1 := same32 g s h h'
  have s2 := same33 g s h h'
  generalize (if g.valid then (0 : Int) else 8) = cv at k1 k2
  generalize g.smB s = sb at s1 s2
  refine GDraw_all T_ok (by kernel_rfl) (by kernel_rfl) ?_
  simp [go_sem, b0, b1, b2, b3, b4, b5, b6, b7, b8, b9, b10, b11, b12, b13, b14]
  refine ⟨_, dcall_val k1 rfl rfl, ?_⟩
  simp [go_sem, b0, b1, b2, b3, b4, b5, b6, b7, b8, b9, b10, b11, b12, b13, b14]
  refine ⟨_, dcall_val k2 rfl rfl, ?_⟩
  simp [go_sem, b0, b1, b2, b3, b4, b5, b6, b7, b8, b9, b10, b11, b12, b13, b14]
  refine ⟨_, dcall_val s1 rfl rfl, ?_⟩
  simp [go_sem, b0, b1, b2, b3, b4, b5, b6, b7, b8, b9, b10, b11, b12, b13, b14]
  refine ⟨_, dcall_val s2 rfl rfl, ?_⟩
  cases sb
  all_goals
    simp [go_sem, b0, b1, b2, b3, b4, b5, b6, b7, b8, b9, b10, b11, b12, b13, b14]
    refine ⟨_, dcall_val (same32rfl g h) rfl rfl, ?_⟩
    simp [go_sem, b0, b1, b2, b3, b4, b5, b6, b7, b8, b9, b10, b11, b12, b13, b14]
    first | refine ⟨_, dcall_deep (v := .b true) ?_ rfl, ?_⟩ | refine ⟨by omega, _, dcall_deep (v := .b true) ?_ rfl, ?_⟩ | refine ⟨⟨by omega, by omega⟩, _, dcall_deep (v := .b true) ?_ rfl, ?_⟩ | refine ⟨⟨by omega, by omega, by omega⟩, _, dcall_deep (v := .b true) ?_ rfl, ?_⟩
    · simp [go_sem, b0, b1, b2, b3, b4, b5, b6, b7, b8, b9, b10, b11, b12, b13, b14]
      refine same33view x hx.ok fun i j hi hj => x.view_oc ?_ hj
      simp only [upd_app, famN_app]
      repeat rw [if_neg (by omega)]
      rw [if_pos (by omega)]
      simp
    simp [go_sem, b0, b1, b2, b3, b4, b5, b6, b7, b8, b9, b10, b11, b12, b13, b14]
    first | refine ⟨_, dcall_val same33nil rfl rfl, ?_⟩ | refine ⟨by omega, _, dcall_val same33nil rfl rfl, ?_⟩
    simp [go_sem, b0, b1, b2, b3, b4, b5, b6, b7, b8, b9, b10, b11, b12, b13, b14]
    refine spoilK x hx (p := 3) (by simp [go_sem, b0, b1, b2, b3, b4, b5, b6, b7, b8, b9, b10, b11, b12, b13, b14]) (by simp [go_sem, b0, b1, b2, b3, b4, b5, b6, b7, b8, b9, b10, b11, b12, b13, b14]) (by simp [go_sem, b0, b1, b2, b3, b4, b5, b6, b7, b8, b9, b10, b11, b12, b13, b14]) (fun i hi => ?_) fun M2 hM2 => ?_
    · simp only [upd_app, famN_app]
      repeat rw [if_neg (by omega)]
      rw [if_pos (by omega)]
      simp
    have m0 := hM2 0 (by omega)
    have m1 := hM2 2 (by omega)
    have m5 := hM2 (B + 1 + 1) (by omega)
    clear hM2
    simp [go_sem, b0, b1, b2, b3, b4, b5, b6, b7, b8, b9, b10, b11, b12, b13, b14] at m0 m1 m5
    simp [go_sem, b0, b1, b2, b3, b4, b5, b6, b7, b8, b9, b10, b11, b12, b13, b14, m0, m1, m5]
    refine call_val spoilNil rfl rfl ?_
    simp [go_sem, b0, b1, b2, b3, b4, b5, b6, b7, b8, b9, b10, b11, b12, b13, b14, m0, m1]
    refine call_val (same33rfl g h) rfl rfl ?_
    simp [go_sem]
theorem law5no (g s y : EG) (q a e1 e2 : Int) (hg : g.great = false) (hs : s.great = false) (hy : y.Sm)
    (A1 : Own Try.prog 26 [] [g.sv, .i q] (.tup [nilR, .i 0, .i e1]) []) (A2 : Pure Try.prog 27 [g.sv, .i q] (· = .tup [nilR, .i 0, .i e1]))
    (R1 : Own Try.prog 28 [] [g.sv, .i a] (.tup [y.oS, .i e2]) y.oR) (R2 : Pure Try.prog 29 [g.sv, .i a] (· = .tup [y.sv, .i e2])) : Pure Try.prog 5 [g.sv, s.sv, .i q, .i a] (· = .b true) := by
  refine pure_of_GC T_ok Try.func5 rfl (by kernel_rfl) (Nat.le_of_ble_eq_true rfl) rfl rfl ?_
  obtain ⟨h, hr, hl, hc, hv⟩ := EG.OK_of hg
  obtain ⟨h', -⟩ := EG.OK_of hs
  simp [go_sem]
  refine call_val (great12' g) rfl rfl ?_
  simp [go_sem, hg]
  refine call_val (great12' s) rfl rfl ?_
  simp [go_sem, hs]
  refine call_val (twin25p g (by omega) (by omega) (by omega) fun i hi => by have := hv i hi; omega) rfl rfl ?_
  simp [go_sem]
  refine callK_own [] A1 (by simp) rfl trivial ?_
  simp [go_sem]
  refine call_val A2 rfl rfl ?_
  simp [go_sem]
  refine callK_own [] R1 (by simp) rfl trivial ?_
  simp [go_sem]
  obtain ⟨D, hD⟩ : ∃ D, D = 5 + (y.nc + 1 + 1 + 1) := ⟨_, rfl⟩
  rw [← hD]
  have d0 : ∀ n, n < 8 → ¬ n = D := fun n _ => by omega
  have d1 : ∀ n, n < 8 → ¬ D = n := fun n _ => by omega
  have d2 : ∀ n, n < 8 → n < D := fun n _ => by omega
  have d3 : ∀ n, n < 8 → n < D + 1 + 1 := fun n _ => by omega
  have d4 : ∀ n, n < 8 → n < D + 1 := fun n _ => by omega
  have d5 : ¬ D < y.nc + 8 := by omega
  have d6 : ¬ D < y.nc + 7 := by omega
  refine call_val R2 rfl rfl ?_
  simp [go_sem, d0, d1, d2, d3, d4, d5, d6]
  have k1 := check30 g h
  have k2 := refCheck31 g h
  have s1 := same32 g s h h'
  have s2 := same33 g s h h'
  generalize (if g.valid then (0 : Int) else 8) = cv at k1 k2
  generalize g.smB s = sb at s1 s2
  refine GDraw_all T_ok (by kernel_rfl) (by kernel_rfl) ?_
  simp [go_sem, d0, d1, d2, d3, d4, d5, d6]
  refine ⟨_, dcall_val k1 rfl rfl, ?_⟩
  simp [go_sem, d0, d1, d2, d3, d4, d5, d6]
  refine ⟨_, dcall_val k2 rfl rfl, ?_⟩
  simp [go_sem, d0, d1, d2, d3, d4, d5, d6]
  refine ⟨_, dcall_val s1 rfl rfl, ?_⟩
  simp [go_sem, d0, d1, d2, d3, d4, d5, d6]
  refine ⟨_, dcall_val s2 rfl rfl, ?_⟩
  cases sb
  all_goals
    simp [go_sem, d0, d1, d2, d3, d4, d5, d6]
    refine ⟨_, dcall_val (same32rfl g h) rfl rfl, ?_⟩
    simp [go_sem, d0, d1, d2, d3, d4, d5, d6]
    first | refine ⟨_, dcall_val same33nil rfl rfl, ?_⟩ | refine ⟨by omega, _, dcall_val same33nil rfl rfl, ?_⟩
    simp [go_sem, d0, d1, d2, d3, d4, d5, d6]
    first | refine ⟨_, dcall_deep (v := .b true) ?_ rfl, ?_⟩ | refine ⟨by omega, _, dcall_deep (v := .b true) ?_ rfl, ?_⟩ | refine ⟨⟨by omega, by omega⟩, _, dcall_deep (v := .b true) ?_ rfl, ?_⟩ | refine ⟨⟨by omega, by omega, by omega⟩, _, dcall_deep (v := .b true) ?_ rfl, ?_⟩
    · simp [go_sem, d0, d1, d2, d3, d4, d5, d6]
      refine same33view y hy.ok fun i j hi hj => y.view_oc ?_ hj
      simp only [upd_app, famN_app]
      repeat rw [if_neg (by omega)]
      rw [if_pos (by omega)]
      simp
    simp [go_sem, d0, d1, d2, d3, d4, d5, d6]
    refine call_val spoilNil rfl rfl ?_
    simp [go_sem, d0, d1, d2, d3, d4, d5, d6]
    refine spoilK y hy (p := 5) (by simp [go_sem, d0, d1, d2, d3, d4, d5, d6]) (by simp [go_sem, d0, d1, d2, d3, d4, d5, d6]) (by simp [go_sem, d0, d1, d2, d3, d4, d5, d6]) (fun i hi => ?_) fun M2 hM2 => ?_
    · simp only [upd_app, famN_app]
      repeat rw [if_neg (by omega)]
      rw [if_pos (by omega)]
      simp
    have m0 := hM2 0 (by omega)
    have m1 := hM2 2 (by omega)
    clear hM2
    simp [go_sem, d0, d1, d2, d3, d4, d5, d6] at m0 m1
    simp [go_sem, d0, d1, d2, d3, d4, d5, d6, m0, m1]
    refine call_val (same33rfl g h) rfl rfl ?_
    simp [go_sem]
theorem EG.Sm_of {g : EG} (h : g.great = false) : g.Sm := by
  obtain ⟨-, h1, h2, h3, h4⟩ := EG.OK_of h
  exact ⟨by omega, by omega, by omega, fun i hi => by have := h4 i hi; omega⟩
theorem EG.addG_Sm {g : EG} (h : g.Sm) (hn : g.nr ≤ 24) (q : Int) : (g.addG q).Sm := ⟨by show g.nr + 1 ≤ _; omega, h.nl, h.nc, h.nv⟩
theorem EG.remG_Sm {g : EG} (h : g.Sm) (a : Nat) : (g.remG a).Sm :=
  ⟨h.nr, Nat.le_trans (kept_le _ _) h.nl, Nat.le_trans (kept_le _ _) h.nc, fun i hi => h.nv _ (kept_mem hi)⟩
theorem law5 (g s : EG) (q a : Int) (_ : -9223372036854775808 ≤ q) (_ : q ≤ 9223372036854775807) (_ : -9223372036854775808 ≤ a) (_ : a ≤ 9223372036854775807) : Pure Try.prog 5 [g.sv, s.sv, .i q, .i a] (· = .b true) := by
  by_cases hg : g.great = true
  · refine pure_of_GC T_ok Try.func5 rfl (by kernel_rfl) (Nat.le_of_ble_eq_true rfl) rfl rfl ?_
    simp [go_sem]
    refine call_val (great12' g) rfl rfl ?_
    simp [go_sem, hg]
  have hg : g.great = false := by simpa using hg
  by_cases hs : s.great = true
  · refine pure_of_GC T_ok Try.func5 rfl (by kernel_rfl) (Nat.le_of_ble_eq_true rfl) rfl rfl ?_
    simp [go_sem]
    refine call_val (great12' g) rfl rfl ?_
    simp [go_sem, hg]
    refine call_val (great12' s) rfl rfl ?_
    simp [go_sem, hs]
  have hs : s.great = false := by simpa using hs
  have hm := EG.Sm_of hg
  have h := hm.ok
  by_cases hv : g.valid = true
  rotate_left
  · have hv : g.valid = false := by simpa using hv
    exact law5nn g s q a 8 8 hg hs (add_bad h hv q) (refAdd_bad h hv q) (remove_bad h hv a) (refRem_bad h hv a)
  have hn : g.nr ≤ 24 := by simp [EG.valid] at hv; omega
  by_cases ha : g.th a = true
  · obtain ⟨n, rfl⟩ : ∃ n : Nat, a = n := ⟨a.toNat, by simp [EG.th, btw] at ha; omega⟩
    have r1 := remove28 hm hv ha
    have r2 := refRem29 hm hv ha
    have r3 := EG.remG_Sm hm n
    by_cases hq : 0 ≤ q ∧ q ≤ 100
    · by_cases h24 : g.nr = 24
      · exact law5no g s _ q n 9 0 hg hs r3 (add_full hm hv hq h24) (refAdd_full h hv hq h24) r1 r2
      · exact law5oo g s _ _ q n g.nr 0 0 hg hs (EG.addG_Sm hm hn q) r3 (add26 hm hv hq.1 hq.2 (by omega)) (refAdd27p hm hv hq.1 hq.2 (by omega)) r1 r2
    · exact law5no g s _ q n 2 0 hg hs r3 (add_range hm hv hq) (refAdd_range h hv hq) r1 r2
  · have ha : g.th a = false := by simpa using ha
    have r1 := remove_no hm hv ha
    have r2 := refRem_no h hv ha
    by_cases hq : 0 ≤ q ∧ q ≤ 100
    · by_cases h24 : g.nr = 24
      · exact law5nn g s q a 9 6 hg hs (add_full hm hv hq h24) (refAdd_full h hv hq h24) r1 r2
      · exact law5on g s _ q a g.nr 0 6 hg hs (EG.addG_Sm hm hn q) (add26 hm hv hq.1 hq.2 (by omega)) (refAdd27p hm hv hq.1 hq.2 (by omega)) r1 r2
    · exact law5nn g s q a 2 6 hg hs (add_range hm hv hq) (refAdd_range h hv hq) r1 r2
end Go.Gx
