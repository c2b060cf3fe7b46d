/-
  The law of keeping.
-/
import Derived.Test.YtnajladibkpeaaaGreatZc
set_option linter.unusedVariables false
set_option linter.unusedSimpArgs false
set_option maxRecDepth 20000
set_option maxHeartbeats 4000000
namespace Go.Gx
open Go.RowKit Go.Proofs Go.Proofs.YtnajladibkpeaaaGreat

theorem same_zero : Pure Tryz.prog 15 [EG.zero.sv, nilR] (· = .b true) := by
  have h := same33 EG.zero EG.zero (EG.Bd.zero.sm (by decide)).ok (EG.Bd.zero.sm (by decide)).ok
  rw [EG.smB_rfl] at h
  refine h.args ⟨SV.le.rfl, le_of_sub ?_, trivial⟩
  simp [go_sem, EG.zero]
theorem lawKeeps (g : EG) (o a b : Int) (s : Bool) (_ : -9223372036854775808 ≤ o) (_ : o ≤ 9223372036854775807) (_ : -9223372036854775808 ≤ a) (_ : a ≤ 9223372036854775807) (_ : -9223372036854775808 ≤ b) (_ : b ≤ 9223372036854775807) :
    Pure Tryz.prog 4 [g.sv, .i o, .i a, .i b, .b s] (· = .b true) := by
  refine pure_of_GC T_ok Tryz.func4 rfl (by kernel_rfl) (Nat.le_of_ble_eq_true rfl) rfl rfl ?_
  simp [go_sem]
  refine call_val alive46 rfl rfl ?_
  simp [go_sem]
  refine call_val (great12' g) rfl rfl ?_
  cases hg : g.great
  rotate_left
  · simp [go_sem]
  have hb := EG.Bd.of_great hg
  have hbx := hb.vote o a b s
  have hbw := hbx.wd b a
  have hsm := hb.sm (by decide)
  have hv := vote35p hsm o a b s
  simp [go_sem]
  by_cases hE : g.voteE o a b s = 0
  rotate_left
  · have e1 : g.voteX o a b s = EG.zero := if_neg hE
    have e2 : g.voteB o a b s = false := if_neg hE
    rw [e1, e2] at hv
    refine call_val hv rfl rfl ?_
    simp [go_sem, hE]
    refine call_val same_zero rfl rfl ?_
    simp [go_sem]
  have e1 : g.voteX o a b s = g.voteG o a b s := if_pos hE
  have e2 : g.voteB o a b s = g.voteD a b s := if_pos hE
  rw [e1] at hbx hbw
  rw [e1, e2, hE] at hv
  obtain ⟨k1, k2, k3, k4⟩ := EG.keeps hE
  generalize g.voteG o a b s = x at *
  have hvg := votes16 g (hb.mono (by decide))
  have hvx := votes16 x (hbx.mono (by decide))
  have hcx := check30 x (hbx.sm (by decide)).ok
  rw [if_pos k1] at hcx
  refine call_val hv rfl rfl ?_
  simp [go_sem]
  refine call_val hcx rfl rfl ?_
  have hnr := hb.nr
  have hnl := hb.nl
  have hnc := hb.nc
  have hvl : g.vts ≤ 60 * 60 := Nat.le_trans (EG.vts_le hb g.nc (Nat.le_refl _)) (Nat.mul_le_mul hb.nc (Nat.le_refl _))
  cases hD : g.voteD a b s
  · obtain ⟨m1, m2⟩ := k3 hD
    simp [go_sem, k2]
    refine GDraw_all T_ok (by kernel_rfl) (by kernel_rfl) ?_
    simp [go_sem]
    refine ⟨_, dcall_val hvx rfl rfl, _, dcall_val hvg rfl rfl, ?_⟩
    simp [go_sem, SV.refs, m1, m2]
    omega
  · obtain ⟨⟨i, m1, m2, m3⟩, m4, m5, m6, m7, m8, m9, m10⟩ := k4 hD
    have hf := find17 x (hbx.sm (by decide)).ok a b
    rw [m1] at hf
    have hw := wd37p (hbx.sm (by decide)) b a
    rw [m7] at hw
    have hcw := check30 (x.wdX b a) (hbw.sm (by decide)).ok
    rw [if_pos m9] at hcw
    have hfw := find17 (x.wdX b a) (hbw.sm (by decide)).ok a b
    rw [m10] at hfw
    generalize x.wdX b a = w at *
    have q1 : (x.nl : Int) = (g.nl : Int) + 1 := by omega
    have q2 : (x.nc : Int) = (g.nc : Int) - 1 := by omega
    have q3 : ¬ (g.vts : Int) ≤ x.vts := by omega
    simp [go_sem, k2]
    refine call_val hf rfl rfl ?_
    simp [go_sem]
    refine GDraw_cut [(1, .i o), (2, .i a), (3, .i b), (5, .ptr 0 0 3 0), (11, .b true), (12, .ptr 1 0 3 0), (127, .b false)] (fun M nx => (M 0 = g.bx ∧ M 1 = x.bx) ∧ nx = 2) ?_ ?_
    · refine GDraw_all T_ok (by kernel_rfl) (by kernel_rfl) ?_
      simp [go_sem, m2, m3, q1, q2]
      refine ⟨by omega, by omega, by omega, _, dcall_val hvx rfl rfl, _, dcall_val hvg rfl rfl, ⟨fun r hr => ?_, fun r hr => ?_⟩, ?_⟩
      · simp [SV.refs] at hr
      · simp [SV.refs] at hr
      simp [go_sem, q3]
    rintro J M nx ⟨⟨h0, h1⟩, rfl⟩
    simp [go_sem, h0, h1]
    refine call_val hw rfl rfl ?_
    simp [go_sem, h0, h1, m8]
    refine call_val hcw rfl rfl ?_
    simp [go_sem]
    refine call_val hfw rfl rfl ?_
    simp [go_sem]
end Go.Gx
