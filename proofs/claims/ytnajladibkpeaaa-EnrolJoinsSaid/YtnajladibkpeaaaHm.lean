/-
  The law of joins.
-/
import Derived.Test.YtnajladibkpeaaaW8
import Derived.Test.YtnajladibkpeaaaW7
set_option linter.unusedVariables false
set_option linter.unusedSimpArgs false
set_option maxRecDepth 20000
set_option maxHeartbeats 4000000
namespace Go.Gx
open Go.RowKit Go.Proofs Go.Proofs.Ytnajladibkpeaaa

/-- What the law of joins asks. -/
theorem EG.joins {g : EG} {o a b : Int} {s : Bool} (h : g.voteE o a b s = 0) (c d : Int) :
    let x := g.voteG o a b s
    ((g.voteD a b s = true ∧ s = true) → x.joB a b = true ∧ (g.joB a b = true → x.ppN = g.ppN) ∧ (g.joB a b = false → g.ppN = x.ppN + 1) ∧ x.joB c d = (g.joB c d || g.joB a c && g.joB b d || g.joB b c && g.joB a d)) ∧
    (¬ (g.voteD a b s = true ∧ s = true) → x.ppN = g.ppN ∧ x.joB a b = g.joB a b ∧ x.joB c d = g.joB c d) := by
  intro x
  obtain ⟨hv, _, hab, ta, tb, _⟩ := EG.voteE_zero h
  have hx : x.valid = true := EG.val_iff.2 (EG.Val.vote h)
  obtain ⟨n1, n2⟩ := g.vote_nr o a b s
  have th : ∀ y, x.th y = g.th y := EG.th_of n1 n2
  have hc : ∀ y z, x.Con x.nl y z ↔ g.Con g.nl y z ∨ (g.voteD a b s = true ∧ s = true) ∧ (g.Con g.nl y a ∧ g.Con g.nl b z ∨ g.Con g.nl y b ∧ g.Con g.nl a z) := fun y z => EG.vote_con
  constructor
  · intro hd
    have hc' : ∀ y z, x.Con x.nl y z ↔ g.Con g.nl y z ∨ (g.Con g.nl y a ∧ g.Con g.nl b z ∨ g.Con g.nl y b ∧ g.Con g.nl a z) := fun y z => by
      rw [hc]; exact or_congr Iff.rfl ⟨fun k => k.2, fun k => ⟨hd, k⟩⟩
    refine ⟨?_, fun hj => ?_, fun hj => ?_, ?_⟩
    · rw [EG.joB_iff hx, th, th]
      exact ⟨ta, tb, (hc' _ _).2 (.inr (.inl ⟨.refl _, .refl _⟩))⟩
    · have hab := ((EG.joB_iff hv).1 hj).2.2
      refine EG.ppN_same hv hx n1 n2 fun y z => ?_
      rw [hc']
      refine ⟨fun k => ?_, fun k => .inl k⟩
      rcases k with k | ⟨k1, k2⟩ | ⟨k1, k2⟩
      · exact k
      · exact k1.trans (hab.trans k2)
      · exact k1.trans (hab.symm.trans k2)
    · refine EG.ppN_join hv hx n1 n2 ta tb (fun k => ?_) hc'
      have := (EG.joB_iff hv).2 ⟨ta, tb, k⟩
      rw [hj] at this; cases this
    · rw [Bool.eq_iff_iff]
      simp only [Bool.or_eq_true, Bool.and_eq_true, EG.joB_iff hx, EG.joB_iff hv, th, hc']
      constructor
      · rintro ⟨k1, k2, k3 | ⟨k3, k4⟩ | ⟨k3, k4⟩⟩
        · exact .inl (.inl ⟨k1, k2, k3⟩)
        · exact .inl (.inr ⟨⟨ta, k1, k3.symm⟩, tb, k2, k4⟩)
        · exact .inr ⟨⟨tb, k1, k3.symm⟩, ta, k2, k4⟩
      · rintro ((⟨k1, k2, k3⟩ | ⟨⟨_, k1, k3⟩, _, k2, k4⟩) | ⟨⟨_, k1, k3⟩, _, k2, k4⟩)
        · exact ⟨k1, k2, .inl k3⟩
        · exact ⟨k1, k2, .inr (.inl ⟨k3.symm, k4⟩)⟩
        · exact ⟨k1, k2, .inr (.inr ⟨k3.symm, k4⟩)⟩
  · intro hd
    have hc' : ∀ y z, x.Con x.nl y z ↔ g.Con g.nl y z := fun y z => by
      rw [hc]; exact ⟨fun k => k.elim id fun k => absurd k.1 hd, .inl⟩
    have hj : ∀ y z, x.joB y z = g.joB y z := fun y z => by
      rw [Bool.eq_iff_iff, EG.joB_iff hx, EG.joB_iff hv, th, th, hc']
    exact ⟨EG.ppN_same hv hx n1 n2 hc', hj _ _, hj _ _⟩
theorem law10 (g : EG) (o a b : Int) (s : Bool) (c d : Int) (_ : -9223372036854775808 ≤ o) (_ : o ≤ 9223372036854775807) (_ : -9223372036854775808 ≤ a) (_ : a ≤ 9223372036854775807) (_ : -9223372036854775808 ≤ b) (_ : b ≤ 9223372036854775807)
    (_ : -9223372036854775808 ≤ c) (_ : c ≤ 9223372036854775807) (_ : -9223372036854775808 ≤ d) (_ : d ≤ 9223372036854775807) : Pure Try.prog 10 [g.sv, .i o, .i a, .i b, .b s, .i c, .i d] (· = .b true) := by
  refine pure_of_GC T_ok Try.func10 rfl (by kernel_rfl) (Nat.le_of_ble_eq_true rfl) rfl rfl ?_
  simp [go_sem]
  refine call_val alive46 rfl rfl ?_
  simp [go_sem]
  refine call_val (great12' g) rfl rfl ?_
  cases hg : g.great
  rotate_left
  · simp [go_sem]
  have hb := EG.Bd.of_great hg
  have hbx := hb.vote o a b s
  have hsm := hb.sm (by decide)
  have hsx := hbx.sm (by decide)
  simp [go_sem]
  refine call_val (vote35p hsm o a b s) rfl rfl ?_
  by_cases hE : g.voteE o a b s = 0
  rotate_left
  · simp [go_sem, hE]
  have hj := EG.joins hE c d
  have e1 : g.voteX o a b s = g.voteG o a b s := if_pos hE
  have e2 : g.voteB o a b s = g.voteD a b s := if_pos hE
  rw [e1] at hsx
  rw [e1, e2, hE]
  have n1 : g.ppN ≤ 1000 := by
    unfold EG.ppN
    split
    · exact Nat.le_trans (g.ppl_len _) hsm.nr
    · exact Nat.zero_le _
  generalize g.voteG o a b s = x at *
  generalize hD : g.voteD a b s = dn at *
  simp [go_sem]
  refine call_val (joined47 hsm a b) rfl rfl ?_
  simp [go_sem]
  refine call_val (joined47 hsx a b) rfl rfl ?_
  simp [go_sem]
  refine call_val (joined47 hsm c d) rfl rfl ?_
  simp [go_sem]
  refine call_val (joined47 hsx c d) rfl rfl ?_
  by_cases hds : dn = true ∧ s = true
  rotate_left
  · obtain ⟨j1, j2, j3⟩ := hj.2 hds
    rw [j1, j2, j3]
    cases dn <;> cases s <;> simp [go_sem] at hds ⊢
  obtain ⟨j1, j2, j3, j4⟩ := hj.1 hds
  obtain ⟨rfl, rfl⟩ := hds
  rw [j1, j4]
  clear hj j1 j4 hE hbx e1 e2
  cases hab : g.joB a b
  · have k := j3 hab
    have k2 : (x.ppN : Int) = (g.ppN : Int) - 1 := by omega
    simp [go_sem, k2]
    refine ⟨by omega, ?_⟩
    refine call_val (joined47 hsm a c) rfl rfl ?_
    simp [go_sem]
    refine call_val (joined47 hsm b c) rfl rfl ?_
    simp [go_sem]
    refine call_val (joined47 hsm a d) rfl rfl ?_
    simp [go_sem]
    refine call_val (joined47 hsm b d) rfl rfl ?_
    clear j2 j3 hab
    generalize g.joB c d = b1
    generalize g.joB a c = b2
    generalize g.joB b c = b3
    generalize g.joB a d = b4
    generalize g.joB b d = b5
    cases b1 <;> cases b2 <;> cases b3 <;> cases b4 <;> cases b5 <;> simp [go_sem]
  · have k := j2 hab
    simp [go_sem, k]
    refine call_val (joined47 hsm a c) rfl rfl ?_
    simp [go_sem]
    refine call_val (joined47 hsm b c) rfl rfl ?_
    simp [go_sem]
    refine call_val (joined47 hsm a d) rfl rfl ?_
    simp [go_sem]
    refine call_val (joined47 hsm b d) rfl rfl ?_
    clear j2 j3 hab
    generalize g.joB c d = b1
    generalize g.joB a c = b2
    generalize g.joB b c = b3
    generalize g.joB a d = b4
    generalize g.joB b d = b5
    cases b1 <;> cases b2 <;> cases b3 <;> cases b4 <;> cases b5 <;> simp [go_sem]
end Go.Gx
