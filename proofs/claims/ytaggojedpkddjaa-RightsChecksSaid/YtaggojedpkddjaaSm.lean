/-
  Law: RightsChanges.
-/
import Derived.Test.YtaggojedpkddjaaSk
import Derived.Test.YtaggojedpkddjaaSl
set_option linter.unusedVariables false
set_option linter.unusedSimpArgs false
set_option maxRecDepth 20000
set_option maxHeartbeats 4000000
namespace Go.Gx
open Go.RowKit Go.Proofs Go.Proofs.Ytaggojedpkddjaa

structure RG.Sz (g : RG) : Prop where
  nr : g.nr ≤ 1000000
  nc : g.nc ≤ 1000000
  nw : g.nw ≤ 1000000
  nm : g.nm ≤ 1000000
theorem RG.same_rfl (g : RG) : g.same g = true := by
  unfold RG.same RG.s1 RG.s2 RG.s3 RG.s4
  simp [RuleG.eqB_rfl, ConG.eqB_rfl, WarG.eqB_rfl, MarkG.eqB_rfl]
theorem Sz_nil : RG.nil.Sz := ⟨by decide, by decide, by decide, by decide⟩
theorem OK_nil : RG.nil.OK := ⟨by decide, by decide, by decide, by decide, fun i hi => absurd hi (by simp [RG.nil])⟩
theorem Sz_valid {g : RG} (h : g.valid = true) : g.Sz := by
  have := RG.lim h
  exact ⟨by omega, by omega, by omega, by omega⟩
theorem own_tup {g : RG} {e : Int} : (SV.tup [g.osv, .i e]).own := ⟨⟨trivial, trivial, trivial, trivial, trivial⟩, rfl, trivial⟩
theorem law12 (g : RG) (c : ConG) (m : MarkG) (hb : g.By) : Pure Try.prog 12 [g.sv, c.sv, m.sv] (· = .b true) := by
  refine pure_of_GC T_ok Try.func12 rfl (by kernel_rfl) (Nat.le_of_ble_eq_true rfl) rfl rfl ?_
  simp [go_sem]
  refine call_val (great16 g) rfl rfl ?_
  generalize hg : g.great = a
  cases a
  rotate_left
  · simp [go_sem]
  have h := OK_of hb hg
  have hsz : g.nr ≤ 30 ∧ g.nc ≤ 50 ∧ g.nw ≤ 30 ∧ g.nm ≤ 50 := by
    simp [RG.great] at hg
    omega
  have o1 := own43 g c h
  have r1 := ref44 g c h
  have z1 : (if g.cnE c = 0 then g.putC c else RG.nil).Sz ∧ (if g.cnE c = 0 then g.putC c else RG.nil).OK := by
    by_cases e : g.cnE c = 0
    · rw [if_pos e]; exact ⟨Sz_valid (RG.putC_valid e), RG.putC_OK h e⟩
    · rw [if_neg e]; exact ⟨Sz_nil, OK_nil⟩
  generalize (if g.cnE c = 0 then g.putC c else RG.nil) = y1 at *
  generalize g.cnE c = e1 at *
  have o2 := own36 g c.p c.q h
  have r2 := ref45 g c.p c.q h
  have z2 : (if g.rvE c.p c.q = 0 then g.revoke c.p c.q else RG.nil).Sz ∧ (if g.rvE c.p c.q = 0 then g.revoke c.p c.q else RG.nil).OK := by
    by_cases e : g.rvE c.p c.q = 0
    · rw [if_pos e]
      have hv : g.valid = true := by
        unfold RG.rvE at e
        split at e
        · assumption
        · omega
      have hf : fnd (g.cmC c.p c.q) g.nc = true := by
        unfold RG.rvE at e
        rw [if_pos hv] at e
        split at e
        · assumption
        · omega
      exact ⟨Sz_valid (RG.revoke_valid hv hf), RG.revoke_OK h⟩
    · rw [if_neg e]; exact ⟨Sz_nil, OK_nil⟩
  generalize (if g.rvE c.p c.q = 0 then g.revoke c.p c.q else RG.nil) = y2 at *
  generalize g.rvE c.p c.q = e2 at *
  have o3 := own46 g m h
  have r3 := ref47 g m h
  have z3 : (if g.mkE m = 0 then g.putM m else RG.nil).Sz ∧ (if g.mkE m = 0 then g.putM m else RG.nil).OK := by
    by_cases e : g.mkE m = 0
    · rw [if_pos e]; exact ⟨Sz_valid (RG.putM_valid e), RG.putM_OK h e⟩
    · rw [if_neg e]; exact ⟨Sz_nil, OK_nil⟩
  generalize (if g.mkE m = 0 then g.putM m else RG.nil) = y3 at *
  generalize g.mkE m = e3 at *
  have s1 := (same22 y1 y1 z1.2 z1.2).val (v' := .b true) (by rw [RG.same_rfl])
  have s2 := (same22 y2 y2 z2.2 z2.2).val (v' := .b true) (by rw [RG.same_rfl])
  have s3 := (same22 y3 y3 z3.2 z3.2).val (v' := .b true) (by rw [RG.same_rfl])
  have s0 := (same22 g g h h).val (v' := .b true) (by rw [RG.same_rfl])
  simp [go_sem]
  refine callK_own [] (twin17 g (by omega) (by omega) (by omega) (by omega)) (by simp) rfl trivial ?_
  simp [go_sem]
  refine callK_lentOwn (by simp [go_sem]; exact o1) own_tup y1.ors_own ?_
  simp [go_sem]
  refine call_val r1 rfl rfl ?_
  simp [go_sem]
  refine callK_lentOwn (by simp [go_sem]; exact o2) own_tup y2.ors_own ?_
  simp [go_sem]
  refine call_val r2 rfl rfl ?_
  simp [go_sem]
  refine callK_lentOwn (by simp [go_sem]; exact o3) own_tup y3.ors_own ?_
  simp [go_sem]
  refine call_val r3 rfl rfl ?_
  simp [go_sem]
  refine call_lent (by simp [go_sem]; exact s1) rfl ?_
  simp [go_sem]
  refine call_lent (by simp [go_sem]; exact s2) rfl ?_
  simp [go_sem]
  refine call_lent (by simp [go_sem]; exact s3) rfl ?_
  simp [go_sem]
  refine callK_own [8, 9, 10, 11] (spoil23 y1 z1.1.nr z1.1.nc z1.1.nw z1.1.nm) (by decide) rfl ⟨rfl, rfl, rfl, rfl, trivial⟩ ?_
  simp [go_sem]
  refine callK_own [14, 15, 16, 17] (spoil23 y2 z2.1.nr z2.1.nc z2.1.nw z2.1.nm) (by decide) rfl ⟨rfl, rfl, rfl, rfl, trivial⟩ ?_
  simp [go_sem]
  refine callK_own [20, 21, 22, 23] (spoil23 y3 z3.1.nr z3.1.nc z3.1.nw z3.1.nm) (by decide) rfl ⟨rfl, rfl, rfl, rfl, trivial⟩ ?_
  simp [go_sem]
  refine call_lent (by simp [go_sem]; exact s0) rfl ?_
  simp [go_sem]
end Go.Gx
