/-
  The law of less.
-/
import Derived.Test.YtnajladibkpeaaaGreatHo
set_option linter.unusedVariables false
set_option linter.unusedSimpArgs false
set_option maxRecDepth 20000
set_option maxHeartbeats 4000000
namespace Go.Gx
open Go.RowKit Go.Proofs Go.Proofs.YtnajladibkpeaaaGreat

theorem lawLess (g : EG) (a b c d : Int) (_ : -9223372036854775808 ≤ a) (_ : a ≤ 9223372036854775807) (_ : -9223372036854775808 ≤ b) (_ : b ≤ 9223372036854775807) (_ : -9223372036854775808 ≤ c) (_ : c ≤ 9223372036854775807) (_ : -9223372036854775808 ≤ d) (_ : d ≤ 9223372036854775807) :
    Pure Tryz.prog 6 [g.sv, .i a, .i b, .i c, .i d] (· = .b true) := by
  refine pure_of_GC T_ok Tryz.func6 rfl (by kernel_rfl) (Nat.le_of_ble_eq_true rfl) rfl rfl ?_
  simp [go_sem]
  refine call_val alive46 rfl rfl ?_
  simp [go_sem]
  refine call_val (great12' g) rfl rfl ?_
  cases hg : g.great
  rotate_left
  · simp [go_sem]
  have hb := EG.Bd.of_great hg
  have hsm := hb.sm (by decide)
  have hsx := (hb.wd a b).sm (by decide)
  have hsy := (hb.rem a).sm (by decide)
  have h1 := fun h => EG.less_wd (g := g) (a := a) (b := b) (c := c) (d := d) h
  have h2 := fun h => EG.less_rem (g := g) (a := a) (c := c) (d := d) h
  simp [go_sem]
  refine call_val (joined47 hsm c d) rfl rfl ?_
  simp [go_sem]
  refine call_val (wd37p hsm a b) rfl rfl ?_
  simp [go_sem]
  refine call_val (rem28p hsm a) rfl rfl ?_
  generalize g.wdX a b = x at *
  generalize g.remX a = y at *
  generalize g.wdE a b = e at *
  generalize g.remE a = f at *
  generalize g.joB c d = w at *
  by_cases he : e = 0
  · have h1 := h1 he
    simp [go_sem, he]
    refine call_val (joined47 hsx c d) rfl rfl ?_
    have hx : (x.joB c d = true ∧ w = false) → False := fun ⟨k1, k2⟩ => by rw [h1 k1] at k2; cases k2
    by_cases hf : f = 0
    · obtain ⟨h3, h4⟩ := h2 hf
      have hy : (y.joB c d = true ∧ w = false) → False := fun ⟨k1, k2⟩ => by rw [h3 k1] at k2; cases k2
      generalize hxx : x.joB c d = u at *
      generalize hyy : y.joB c d = v at *
      cases u <;> cases w <;> simp [go_sem, hf] at hx ⊢
      all_goals
        refine call_val (joined47 hsy c d) rfl rfl ?_
        rw [hyy]
        simp [go_sem]
        refine call_val (joined47 hsy a a) rfl rfl ?_
        rw [h4]
        cases v <;> simp [go_sem] at hy ⊢
    · generalize hxx : x.joB c d = u at *
      cases u <;> cases w <;> simp [go_sem, hf] at hx ⊢
  · simp [go_sem, he]
    by_cases hf : f = 0
    · obtain ⟨h3, h4⟩ := h2 hf
      have hy : (y.joB c d = true ∧ w = false) → False := fun ⟨k1, k2⟩ => by rw [h3 k1] at k2; cases k2
      generalize hyy : y.joB c d = v at *
      simp [go_sem, hf]
      refine call_val (joined47 hsy c d) rfl rfl ?_
      rw [hyy]
      simp [go_sem]
      refine call_val (joined47 hsy a a) rfl rfl ?_
      rw [h4]
      cases v <;> cases w <;> simp [go_sem] at hy ⊢
    · simp [go_sem, hf]
end Go.Gx
