/-
  The reference's Sign.
-/
import Derived.Test.YtaggojedpkddjaaSv
set_option linter.unusedVariables false
set_option linter.unusedSimpArgs false
set_option maxRecDepth 20000
set_option maxHeartbeats 2000000
namespace Go.Gx
open Go.RowKit Go.Proofs Go.Proofs.Ytaggojedpkddjaa

theorem bnd1 {c : Nat → Int} : bnd c 1 = if c 0 < 0 then 1 else 0 := by
  split
  · refine bnd_eq (Nat.le_refl 1) (fun j hj => ?_) (fun j a b => by omega)
    have : j = 0 := by omega
    rw [this]; assumption
  · refine bnd_eq (by omega) (fun j hj => by omega) (fun j a b => ?_)
    have : j = 0 := by omega
    rw [this]; omega
theorem ref38 (q : QG) (o : Int) (h : q.OK) : Pure Try.prog 38 [q.sv, .i o] (· = .tup [(if q.sgE o = 0 then q.sg o else QG.nil).sv, .i (q.sgE o)]) := by
  refine Pure.ofSub ?_
  refine pure_of_GC T_ok Try.func38 rfl (by kernel_rfl) (Nat.le_of_ble_eq_true rfl) rfl rfl ?_
  simp [go_sem]
  refine call_val (checkQuery41 q h) rfl rfl ?_
  by_cases he : q.err = 0
  rotate_left
  · have ha : q.sgE o = q.err := by unfold QG.sgE; rw [if_neg he]
    simp [go_sem, he, ha, QG.nil]
  simp [go_sem, he]
  refine call_val (v := .b (btw 0 7 o)) (within94 o 0 7) rfl rfl ?_
  by_cases ho : btw 0 7 o = true
  rotate_left
  · have ha : q.sgE o = 2 := by unfold QG.sgE; rw [if_pos he, if_neg ho]
    simp [go_sem, ho, ha, QG.nil]
  obtain ⟨hk, hm⟩ := q.keys he
  have hE : q.sgE o = if fnd (fun i => q.k i - o) q.nk || decide (q.nk = 2) then 91 else 0 := by unfold QG.sgE; rw [if_pos he, if_pos ho]
  simp [go_sem, ho]
  by_cases h2 : q.nk = 2
  · have ha : q.sgE o = 91 := by rw [hE, h2]; simp
    have h2' : (q.nk : Int) = 2 := by omega
    simp [go_sem, h2', ha, QG.nil]
  have h2' : ¬ (q.nk : Int) = 2 := by omega
  simp [go_sem, h2']
  by_cases h0 : q.nk = 0
  · have ha : q.sgE o = 0 := by rw [hE]; simp [h0, fnd]
    have h0' : (q.nk : Int) = 0 := by omega
    simp [go_sem, h0', h0, ha]
    simp [QG.sg, QG.at', h0, bnd]
  have h1 : q.nk = 1 := by omega
  simp [go_sem, h1]
  by_cases hq : q.k 0 = o
  · have ha : q.sgE o = 91 := by rw [hE]; simp [h1, fnd, bnd, hq]
    simp [go_sem, hq, ha, QG.nil]
  have ha : q.sgE o = 0 := by
    rw [hE, h1]
    simp only [fnd, bnd1]
    split <;> simp <;> omega
  simp [go_sem, hq, ha]
  refine ⟨rfl, rfl, rfl, rfl, rfl, by simp [QG.sg, h1], fun i hi => ?_⟩
  simp only [QG.sg, QG.at', h1, bnd1]
  rcases (show i = 0 ∨ i = 1 by omega) with rfl | rfl <;> simp
  · show RV.i _ = RV.i _
    congr 2
    split <;> omega
  · show RV.i _ = RV.i _
    congr 2
    split <;> omega
end Go.Gx
