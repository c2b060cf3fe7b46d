/-
  Law: RightsForgotten.
-/
import Derived.Test.YtaggojedpkddjaaGreatRq
import Derived.Test.YtaggojedpkddjaaGreatSa
set_option linter.unusedVariables false
set_option linter.unusedSimpArgs false
set_option maxRecDepth 20000
set_option maxHeartbeats 2000000
namespace Go.Gx.Rg
open Go.RowKit Go.Proofs Go.Proofs.YtaggojedpkddjaaGreat

section
variable {g : RG} {t : Int}
theorem RG.forget_R {a : RuleG} : (g.forget t).InR a ↔ g.InR a := Iff.rfl
theorem RG.forget_C {a : ConG} : (g.forget t).InC a ↔ g.InC a ∧ a.p ≠ t := by
  have := kept_in (x := g.c) (f := fun a => decide (a.p = t)) (n := g.nc) (a := a)
  simpa [RG.InC, RG.forget, RG.sel] using this
theorem RG.forget_W {a : WarG} : (g.forget t).InW a ↔ g.InW a ∧ a.p ≠ t := by
  have := kept_in (x := g.w) (f := fun a => decide (a.p = t)) (n := g.nw) (a := a)
  simpa [RG.InW, RG.forget, RG.sel] using this
theorem RG.forget_M {a : MarkG} : (g.forget t).InM a ↔ g.InM a ∧ a.p ≠ t := by
  have := kept_in (x := g.m) (f := fun a => decide (a.p = t)) (n := g.nm) (a := a)
  simpa [RG.InM, RG.forget, RG.sel] using this
theorem RG.forget_valid (h : g.valid = true) : (g.forget t).valid = true :=
  RG.sel_valid h (Nat.le_refl _) (fun a ha => ha) (kept_inc _ _) (kept_inc _ _) (kept_inc _ _) rfl (fun _ => rfl) rfl (fun _ => rfl) rfl (fun _ => rfl)
theorem RG.forget_OK (h : g.OK) : (g.forget t).OK := by
  have := h.nr; have := h.nc; have := h.nw; have := h.nm
  have := kept_le (fun i => decide ((g.c i).p = t)) g.nc
  have := kept_le (fun i => decide ((g.w i).p = t)) g.nw
  have := kept_le (fun i => decide ((g.m i).p = t)) g.nm
  exact ⟨h.nr, by simp only [RG.forget, RG.sel]; omega, by simp only [RG.forget, RG.sel]; omega, by simp only [RG.forget, RG.sel]; omega, h.by'⟩
theorem RG.forget_C1 {q : QG} (h : (g.forget t).hasC q = true) : g.hasC q = true := by
  obtain ⟨a, h1, h2⟩ := RG.hasC_iff.1 h
  exact RG.hasC_iff.2 ⟨a, (RG.forget_C.1 h1).1, h2⟩
theorem RG.forget_W1 {q : QG} (h : (g.forget t).hasW q = true) : g.hasW q = true := by
  obtain ⟨a, h1, h2⟩ := RG.hasW_iff.1 h
  exact RG.hasW_iff.2 ⟨a, (RG.forget_W.1 h1).1, h2⟩
theorem RG.forget_lev {q : QG} : (g.forget t).lev q (g.forget t).nr ≤ g.lev q g.nr :=
  RG.lev_le fun a h1 h2 => ⟨h1, ruleB_le RG.forget_C1 RG.forget_W1 h2⟩
theorem RG.forget_ans (h : g.valid = true) {q : QG} (ht : q.w ≠ t) : g.aerr q = (g.forget t).aerr q ∧ g.rep q = (g.forget t).rep q := by
  have hv := RG.forget_valid (t := t) h
  refine RG.ans_eq (by simp [ask, h, hv]) (Int.le_antisymm (RG.lev_le fun a h1 h2 => ⟨h1, ruleB_le (fun hc => ?_) (fun hc => ?_) h2⟩) RG.forget_lev) fun _ => RG.onM_eq (RG.v6 h) (RG.v6 hv) fun a hb => ?_
  · obtain ⟨a, h1, h2⟩ := RG.hasC_iff.1 hc
    exact RG.hasC_iff.2 ⟨a, RG.forget_C.2 ⟨h1, by simp [ConG.cov] at h2; omega⟩, h2⟩
  · obtain ⟨a, h1, h2⟩ := RG.hasW_iff.1 hc
    exact RG.hasW_iff.2 ⟨a, RG.forget_W.2 ⟨h1, by rw [WarG.cov_eq] at h2; simp [WarG.cov'] at h2; omega⟩, h2⟩
  · rw [RG.forget_M]
    simp [onB] at hb
    exact ⟨fun h => ⟨h, by omega⟩, fun h => h.1⟩
end

end Go.Gx.Rg
