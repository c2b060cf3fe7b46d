/-
  The law of order.
-/
import Derived.Test.YtnajladibkpeaaaGreatHo
set_option linter.unusedVariables false
set_option linter.unusedSimpArgs false
set_option maxRecDepth 20000
set_option maxHeartbeats 4000000
namespace Go.Gx
open Go.RowKit Go.Proofs Go.Proofs.YtnajladibkpeaaaGreat

/-- Two officers say the same. -/
def EG.twX (g : EG) (a b : Int) (s : Bool) : EG := (g.voteX 0 a b s).voteX 1 a b s
def EG.twB (g : EG) (a b : Int) (s : Bool) : Bool := decide (g.voteE 0 a b s = 0) && decide ((g.voteX 0 a b s).voteE 1 a b s = 0) && (g.voteX 0 a b s).voteB 1 a b s
theorem two23 {g : EG} (h : g.Bd 900) (a b : Int) (s : Bool) : Pure Tryz.prog 23 [g.sv, .i a, .i b, .b s] (· = .tup [(g.twX a b s).sv, .b (g.twB a b s)]) := by
  refine pure_of_GC T_ok Tryz.func23 rfl (by kernel_rfl) (Nat.le_of_ble_eq_true rfl) rfl rfl ?_
  simp [go_sem]
  refine call_val (vote35p (h.sm (by decide)) 0 a b s) rfl rfl ?_
  simp [go_sem]
  refine call_val (vote35p ((h.vote 0 a b s).sm (by decide)) 1 a b s) rfl rfl ?_
  unfold EG.twX EG.twB
  generalize g.voteX 0 a b s = x
  generalize x.voteX 1 a b s = y
  generalize g.voteE 0 a b s = e1
  generalize x.voteE 1 a b s = e2
  generalize x.voteB 1 a b s = b2
  by_cases h1 : e1 = 0 <;> by_cases h2 : e2 = 0 <;> cases b2 <;> simp [go_sem, h1, h2]
theorem EG.twB_true {g : EG} {a b : Int} {s : Bool} (h0 : g.nc = 0) (h : g.twB a b s = true) :
    (g.twX a b s).nr = g.nr ∧ (g.twX a b s).r = g.r ∧ (g.twX a b s).nc = 0 ∧ (g.twX a b s).Val ∧ (g.twX a b s).nl = g.nl + 1 ∧ (g.twX a b s).links.Perm (⟨min a b, max a b, s⟩ :: g.links) := by
  unfold EG.twB at h
  simp only [Bool.and_eq_true, decide_eq_true_eq] at h
  obtain ⟨⟨h1, h2⟩, h3⟩ := h
  have e1 : g.voteX 0 a b s = g.voteG 0 a b s := if_pos h1
  rw [e1] at h2 h3
  have e2 : (g.voteG 0 a b s).voteX 1 a b s = (g.voteG 0 a b s).voteG 1 a b s := if_pos h2
  have e3 : (g.voteG 0 a b s).voteB 1 a b s = (g.voteG 0 a b s).voteD a b s := if_pos h2
  rw [e3] at h3
  have := EG.two_ok h0 h1 h2 h3
  unfold EG.twX
  rw [e1, e2]
  exact this
theorem lawOrder (g : EG) (a b c d : Int) (s o : Bool) (_ : -9223372036854775808 ≤ a) (_ : a ≤ 9223372036854775807) (_ : -9223372036854775808 ≤ b) (_ : b ≤ 9223372036854775807) (_ : -9223372036854775808 ≤ c) (_ : c ≤ 9223372036854775807) (_ : -9223372036854775808 ≤ d) (_ : d ≤ 9223372036854775807) :
    Pure Tryz.prog 7 [g.sv, .i a, .i b, .i c, .i d, .b s, .b o] (· = .b true) := by
  refine pure_of_GC T_ok Tryz.func7 rfl (by kernel_rfl) (Nat.le_of_ble_eq_true rfl) rfl rfl ?_
  simp [go_sem]
  refine call_val alive46 rfl rfl ?_
  simp [go_sem]
  refine call_val (great12' g) rfl rfl ?_
  cases hg : g.great
  rotate_left
  · simp [go_sem]
  have hb := EG.Bd.of_great hg
  by_cases hc : g.nc = 0
  rotate_left
  · have hc' : 0 < g.nc := by omega
    simp [go_sem, hc']
  have hbx := hb.vote 0 a b s
  have hby := hbx.vote 1 a b s
  have hbu := hb.vote 0 c d o
  have hbv := hbu.vote 1 c d o
  have hx : (g.twX a b s).Bd 62 := hby
  have hu : (g.twX c d o).Bd 62 := hbv
  have hy : ((g.twX a b s).twX c d o).Bd 64 := (hx.vote 0 c d o).vote 1 c d o
  have hv : ((g.twX c d o).twX a b s).Bd 64 := (hu.vote 0 a b s).vote 1 a b s
  simp [go_sem, hc]
  refine call_val (two23 (hb.mono (by decide)) a b s) rfl rfl ?_
  simp [go_sem]
  refine call_val (two23 (hx.mono (by decide)) c d o) rfl rfl ?_
  simp [go_sem]
  refine call_val (two23 (hb.mono (by decide)) c d o) rfl rfl ?_
  simp [go_sem]
  refine call_val (two23 (hu.mono (by decide)) a b s) rfl rfl ?_
  cases k1 : g.twB a b s
  · simp [go_sem]
  cases k2 : (g.twX a b s).twB c d o
  · simp [go_sem]
  cases k3 : g.twB c d o
  · simp [go_sem]
  cases k4 : (g.twX c d o).twB a b s
  · simp [go_sem]
  simp [go_sem]
  have q1 := EG.twB_true hc k1
  have q2 := EG.twB_true q1.2.2.1 k2
  have q3 := EG.twB_true hc k3
  have q4 := EG.twB_true q3.2.2.1 k4
  have hs := same32 _ _ (hy.sm (by decide)).ok (hv.sm (by decide)).ok
  rw [EG.order q2.2.2.2.1 q4.2.2.2.1 q2.2.2.2.2.2 q1.2.2.2.2.2 q4.2.2.2.2.2 q3.2.2.2.2.2 (by rw [q2.1, q1.1, q4.1, q3.1]) (by rw [q2.2.1, q1.2.1, q4.2.1, q3.2.1]) q2.2.2.1 q4.2.2.1] at hs
  refine call_val hs rfl rfl ?_
  simp [go_sem]
end Go.Gx
