/-
  The law of shortest reasons.
-/
import Derived.Test.YtnajladibkpeaaaGreatW7
set_option linter.unusedVariables false
set_option linter.unusedSimpArgs false
set_option maxRecDepth 20000
set_option maxHeartbeats 4000000
namespace Go.Gx
open Go.RowKit Go.Proofs Go.Proofs.YtnajladibkpeaaaGreat

theorem EG.near {g : EG} (hl : g.inl) {a b n y : Nat} (ha : a < g.nr) (hy : y < g.nr) (h : g.far a b = (n + 1 : Nat)) (hadj : g.adj g.nl a y) : ∃ m : Nat, g.far y b = m ∧ n ≤ m ∧ (m = n → g.nx b a ≤ y) := by
  obtain ⟨h1, h2⟩ := EG.far_rc h
  have h3 : g.rc y (n + 1 + 1) b = true := (EG.rc_left hl).2 (.inr ⟨a, EG.adj_symm hadj, h1⟩)
  obtain ⟨m, _, _, h5, h6, _⟩ := EG.far_ex hl hy h3
  refine ⟨m, h5, ?_, fun e => ?_⟩
  · have h7 : g.rc a (m + 1) b = true := (EG.rc_left hl).2 (.inr ⟨y, hadj, h6⟩)
    apply Classical.byContradiction
    intro h8
    have := h2 (m + 1) (by omega)
    rw [h7] at this
    cases this
  · apply Classical.byContradiction
    intro h8
    have := (EG.nx_ok hl ha h).2.2.2.2 y (by omega)
    rw [EG.lk_iff.2 hadj, h5, h, e] at this
    simp at this
theorem EG.cu_tail (g : EG) (a b : Nat) : ∀ k, g.cu b (g.cu b a 1) k = g.cu b a (k + 1)
  | 0 => rfl
  | k + 1 => by
    show g.nx b (g.cu b (g.cu b a 1) k) = g.nx b (g.cu b a (k + 1))
    rw [EG.cu_tail g a b k]
theorem EG.way_nth (g : EG) {a b k i : Nat} (hi : i < k + 1) : nth (g.way a b k) i = g.cu b a i := by
  unfold nth EG.way
  simp [List.getD, hi]
theorem EG.wE_zero {g : EG} {a b : Int} (h : g.wE a b = 0) : g.valid = true ∧ g.th a = true ∧ g.th b = true ∧ 0 ≤ g.far a b := by
  unfold EG.wE at h
  cases hv : g.valid
  · simp [hv] at h
  · cases ha : g.th a <;> cases hb : g.th b <;> simp [hv, ha, hb] at h ⊢
    exact h
theorem EG.wE_of {g : EG} {a b : Int} (hv : g.valid = true) (ha : g.th a = true) (hb : g.th b = true) (h : 0 ≤ g.far a b) : g.wE a b = 0 := by
  unfold EG.wE
  simp [hv, ha, hb, h]
end Go.Gx
