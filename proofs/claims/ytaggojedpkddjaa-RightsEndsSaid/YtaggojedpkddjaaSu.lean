/-
  Law: RightsEnds.
-/
import Derived.Test.YtaggojedpkddjaaSt
import Derived.Test.YtaggojedpkddjaaSm
import Derived.Test.YtaggojedpkddjaaSb
import Derived.Test.YtaggojedpkddjaaSc
set_option linter.unusedVariables false
set_option linter.unusedSimpArgs false
set_option maxRecDepth 20000
set_option maxHeartbeats 4000000
namespace Go.Gx
open Go.RowKit Go.Proofs Go.Proofs.Ytaggojedpkddjaa

theorem law3 (g : RG) (t p : Int) (hb : g.By) (_ : -9223372036854775808 ≤ t) (_ : t ≤ 9223372036854775807) (_ : -9223372036854775808 ≤ p) (_ : p ≤ 9223372036854775807) : Pure Try.prog 3 [g.sv, .i t, .i p] (· = .b true) := by
  refine pure_of_GC T_ok Try.func3 rfl (by kernel_rfl) (Nat.le_of_ble_eq_true rfl) rfl rfl ?_
  simp [go_sem]
  refine call_val (great16 g) rfl rfl ?_
  generalize hg : g.great = a
  cases a
  rotate_left
  · simp [go_sem]
  have h := OK_of hb hg
  have hsz : g.nr ≤ 30 ∧ g.nc ≤ 50 ∧ g.nw ≤ 30 ∧ g.nm ≤ 50 := by
    simp [RG.great] at hg
    omega
  have o1 := own18 g t h
  have r1 := ref19 g t h
  have z1 : (if g.prE t = 0 then g.prune t else RG.nil).Sz ∧ (if g.prE t = 0 then g.prune t else RG.nil).OK := by
    by_cases e : g.prE t = 0
    · rw [if_pos e]
      have hv : g.valid = true := by
        unfold RG.prE at e
        split at e
        · assumption
        · omega
      exact ⟨Sz_valid (RG.prune_valid hv), RG.prune_OK h⟩
    · rw [if_neg e]; exact ⟨Sz_nil, OK_nil⟩
  generalize (if g.prE t = 0 then g.prune t else RG.nil) = y1 at *
  generalize g.prE t = e1 at *
  have o2 := own20 g p h
  have r2 := ref21 g p h
  have z2 : (if g.foE p = 0 then g.forget p else RG.nil).Sz ∧ (if g.foE p = 0 then g.forget p else RG.nil).OK := by
    by_cases e : g.foE p = 0
    · rw [if_pos e]
      have hv : g.valid = true := by
        unfold RG.foE at e
        split at e
        · assumption
        · omega
      exact ⟨Sz_valid (RG.forget_valid hv), RG.forget_OK h⟩
    · rw [if_neg e]; exact ⟨Sz_nil, OK_nil⟩
  generalize (if g.foE p = 0 then g.forget p else RG.nil) = y2 at *
  generalize g.foE p = e2 at *
  have s1 := (same22 y1 y1 z1.2 z1.2).val (v' := .b true) (by rw [RG.same_rfl])
  have s2 := (same22 y2 y2 z2.2 z2.2).val (v' := .b true) (by rw [RG.same_rfl])
  have s0 := (same22 g g h h).val (v' := .b true) (by rw [RG.same_rfl])
  simp [go_sem]
  refine callK_own [] (twin17 g (by omega) (by omega) (by omega) (by omega)) (by simp) rfl trivial ?_
  simp [go_sem]
  refine callK_lentOwn (by simp [go_sem]; exact o1) own_tup y1.ors_own ?_
  simp [go_sem]
  refine call_val r1 rfl rfl ?_
  simp [go_sem]
  refine callK_lentOwn (by simp [go_sem]; exact o2) own_tup y2.ors_own ?_
  simp [go_sem]
  refine call_val r2 rfl rfl ?_
  simp [go_sem]
  refine call_lent (by simp [go_sem]; exact s1) rfl ?_
  simp [go_sem]
  refine call_lent (by simp [go_sem]; exact s2) rfl ?_
  simp [go_sem]
  refine callK_own [6, 7, 8, 9] (spoil23 y1 z1.1.nr z1.1.nc z1.1.nw z1.1.nm) (by decide) rfl ⟨rfl, rfl, rfl, rfl, trivial⟩ ?_
  simp [go_sem]
  refine callK_own [12, 13, 14, 15] (spoil23 y2 z2.1.nr z2.1.nc z2.1.nw z2.1.nm) (by decide) rfl ⟨rfl, rfl, rfl, rfl, trivial⟩ ?_
  simp [go_sem]
  refine call_lent (by simp [go_sem]; exact s0) rfl ?_
  simp [go_sem]
end Go.Gx
