/-
  The law EnrolPersons.
-/
import Derived.Test.YtnajladibkpeaaaFf
set_option linter.unusedVariables false
set_option linter.unusedSimpArgs false
set_option maxRecDepth 20000
set_option maxHeartbeats 4000000
namespace Go.Gx
open Go.RowKit Go.Proofs Go.Proofs.Ytnajladibkpeaaa

theorem law3 (g : EG) (a : Int) (_ : -9223372036854775808 ≤ a) (_ : a ≤ 9223372036854775807) : Pure Try.prog 3 [g.sv, .i a] (· = .b true) := by
  refine pure_of_GC T_ok Try.func3 rfl (by kernel_rfl) (Nat.le_of_ble_eq_true rfl) rfl rfl ?_
  simp [go_sem]
  refine call_val (great12' g) rfl rfl ?_
  by_cases hg : g.great = true
  · simp [go_sem, hg]
  obtain ⟨h, hr, hl, -, -⟩ := EG.OK_of (by simpa using hg)
  have p1 := person13 g h a
  have p2 := refPerson14 g h a
  have b1 := best15 g h a
  have b2 := refBest16 g h a
  have eP : (if g.pE a = 0 then g.pm g.nl a else 0) = (if g.pE a = 0 then g.num a else 0) := by
    rcases g.pE_cases a with ⟨hv, ht, he⟩ | he
    · have := EG.th_iff.1 ht
      rw [if_pos he, if_pos he, EG.num_eq (EG.valid_inl hv) this.1 this.2.1]
    · rw [if_neg he, if_neg he]
  have eB : (if g.pE a = 0 then g.bp a g.nr else 0) = (if g.pE a = 0 then ((g.bst (g.mem a g.nr) : Nat) : Int) else (0 : Int)) := by
    rcases g.pE_cases a with ⟨hv, ht, he⟩ | he
    · rw [if_pos he, if_pos he, EG.bp_eq (EG.valid_lth hv) (EG.valid_inl hv) ht]
    · rw [if_neg he, if_neg he]
  rw [← eP] at p2
  rw [← eB] at b2
  have q1 := people17 g h
  have q2 := refPeople18 g h
  have hcl : (SV.tup [g.ppS, .i g.ppE]).closed = true := by
    unfold EG.ppS
    split <;> rfl
  have hsame : Pure Try.prog 19 [g.ppS, g.ppS] (· = .b true) := by
    unfold EG.ppS
    split
    · refine sameLists19 _ (by have := g.ppl_len g.nr; omega) fun l hl => ?_
      unfold EG.ppl at hl
      obtain ⟨x, -, rfl⟩ := List.mem_map.1 hl
      have := g.mem_len x g.nr
      omega
    · exact sameNil19
  have hwc : SV.closedL [g.ppS, g.ppS] = true := by
    unfold EG.ppS
    split <;> rfl
  generalize g.ppS = w at *
  generalize g.ppE = e1 at *
  generalize (if g.pE a = 0 then g.pm g.nl a else 0) = x1 at *
  generalize (if g.pE a = 0 then g.bp a g.nr else 0) = x2 at *
  generalize g.pE a = e2 at *
  simp [go_sem, hg]
  refine call_val p1 rfl rfl ?_
  simp [go_sem]
  refine call_val p2 rfl rfl ?_
  simp [go_sem]
  refine call_val b1 rfl rfl ?_
  simp [go_sem]
  refine call_val b2 rfl rfl ?_
  simp [go_sem]
  refine call_val q1 rfl hcl ?_
  simp [go_sem]
  refine call_val q2 rfl hcl ?_
  simp [go_sem]
  refine call_val hsame hwc rfl ?_
  simp [go_sem]
end Go.Gx
