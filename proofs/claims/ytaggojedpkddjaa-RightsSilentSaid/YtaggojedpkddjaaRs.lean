/-
  Law: RightsSilent.
-/
import Derived.Test.YtaggojedpkddjaaRq
set_option linter.unusedVariables false
set_option linter.unusedSimpArgs false
set_option maxRecDepth 20000
set_option maxHeartbeats 2000000
namespace Go.Gx
open Go.RowKit Go.Proofs Go.Proofs.Ytaggojedpkddjaa

theorem law5 (g : RG) (n : Nat) (m : Nat → MarkG) (q : QG) (hb : g.By) : Pure Try.prog 5 [g.sv, MarkG.rs n m, q.sv] (· = .b true) := by
  refine pure_of_GC T_ok Try.func5 rfl (by kernel_rfl) (Nat.le_of_ble_eq_true rfl) rfl rfl ?_
  simp [go_sem]
  refine call_val alive24 rfl rfl ?_
  simp [go_sem]
  refine call_val (great16 g) rfl rfl ?_
  generalize hg : g.great = a
  cases a
  rotate_left
  · simp [go_sem]
  have h := OK_of hb hg
  simp [go_sem]
  refine call_val (great16 ⟨g.nr, g.r, g.nc, g.c, g.nw, g.w, n, m⟩) rfl rfl ?_
  generalize hg' : RG.great ⟨g.nr, g.r, g.nc, g.c, g.nw, g.w, n, m⟩ = a'
  cases a'
  rotate_left
  · simp [go_sem]
  have h' : RG.OK ⟨g.nr, g.r, g.nc, g.c, g.nw, g.w, n, m⟩ := OK_of hb hg'
  simp [go_sem]
  refine call_val (long25 q) rfl rfl ?_
  by_cases hl : 20 < (q.nk : Int)
  · simp [go_sem, hl]
  have hq : q.OK := by unfold QG.OK; omega
  simp [go_sem, hl]
  refine call_val (answer26 g q h hq) rfl rfl ?_
  simp [go_sem]
  refine call_val (answer26 ⟨g.nr, g.r, g.nc, g.c, g.nw, g.w, n, m⟩ q h' hq) rfl rfl ?_
  have hlev : ∀ k, RG.lev ⟨g.nr, g.r, g.nc, g.c, g.nw, g.w, n, m⟩ q k = g.lev q k := by
    intro k
    induction k with
    | zero => rfl
    | succ k ih => simp only [RG.lev, ih]; rfl
  generalize hg2 : (⟨g.nr, g.r, g.nc, g.c, g.nw, g.w, n, m⟩ : RG) = g2 at *
  have hnr : g2.nr = g.nr := by rw [← hg2]
  have hsv : SV.agg [RuleG.rs g.nr g.r, ConG.rs g.nc g.c, WarG.rs g.nw g.w, MarkG.rs n m] = g2.sv := by rw [← hg2]
  by_cases he : g.aerr q = 90
  rotate_left
  · simp [go_sem, he]
  simp [go_sem, he]
  refine call_val (v := .i (if g2.valid then 0 else 8)) ?_ rfl rfl ?_
  · have := check28 g2 h'
    rw [← hsv] at this
    exact this
  by_cases hv : g2.valid = true
  rotate_left
  · simp [go_sem, hv]
  have ha : ask g q = 0 ∧ g.lev q g.nr = 0 := by
    unfold RG.aerr at he
    split at he
    · exfalso
      unfold ask QG.err at he
      repeat' split at he
      all_goals omega
    · rename_i h
      split at he
      · exact ⟨by simpa using h, by assumption⟩
      · omega
  have he2 : g2.aerr q = 90 := by
    have : ask g2 q = 0 := by unfold ask; rw [if_pos hv]; exact (ask_valid ha.1).2
    simp [RG.aerr, this, hnr, hlev, ha.2]
  have hr := RG.ans_no (g := g2) (q := q) (by rw [he2]; decide)
  simp [RG.rep] at hr
  simp [go_sem, hv, he2, hr]

end Go.Gx
