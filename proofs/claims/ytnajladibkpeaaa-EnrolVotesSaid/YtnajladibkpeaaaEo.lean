/-
  The reference's Apart; the two are one.
-/
import Derived.Test.YtnajladibkpeaaaEn
set_option linter.unusedVariables false
set_option linter.unusedSimpArgs false
set_option maxRecDepth 20000
set_option maxHeartbeats 4000000
namespace Go.Gx
open Go.RowKit Go.Proofs Go.Proofs.Ytnajladibkpeaaa

theorem ixB_congr {p q : Nat → Bool} {n : Nat} (h : ∀ i, i < n → p i = q i) : ixB p n = ixB q n := by
  by_cases e : ∃ k, k < n ∧ p k = true
  · have : ∃ k, (k < n ∧ p k = true) ∧ ∀ j, j < k → ¬ (j < n ∧ p j = true) := by
      obtain ⟨k, hk⟩ := e
      induction k using Nat.strongRecOn with
      | ind k ih =>
        by_cases e2 : ∃ j, j < k ∧ j < n ∧ p j = true
        · obtain ⟨j, h1, h2⟩ := e2; exact ih j h1 h2
        · exact ⟨k, hk, fun j hj hc => e2 ⟨j, hj, hc⟩⟩
    obtain ⟨k, ⟨hk, hp⟩, hj⟩ := this
    have hj' : ∀ j, j < k → p j = false := fun j hjk => by
      cases hh : p j with
      | false => rfl
      | true => exact absurd ⟨by omega, hh⟩ (hj j hjk)
    rw [ixB_at hk hp hj', ixB_at hk (by rw [← h k hk]; exact hp) fun j hjk => by rw [← h j (by omega)]; exact hj' j hjk]
  · have hj : ∀ j, j < n → p j = false := fun j hjn => by
      cases hh : p j with
      | false => rfl
      | true => exact absurd ⟨j, hjn, hh⟩ e
    rw [ixB_no hj, ixB_no fun j hjn => by rw [← h j hjn]; exact hj j hjn]
theorem EG.df_eq {g : EG} (hl : g.inl) {a b : Int} (h0 : 0 ≤ a) (h1 : a < g.nr) (h2 : 0 ≤ b) (h3 : b < g.nr) : ixB (g.dfB a b) g.nl = g.ap a b := by
  refine ixB_congr fun j hj => ?_
  obtain ⟨q1, q2, q3, q4⟩ := hl j hj
  have ra := fun (x : Int) (hx : 0 ≤ x) => EG.rc_iff hl h0 h1 (x := x.toNat)
  have rb := fun (x : Int) (hx : 0 ≤ x) => EG.rc_iff hl h2 h3 (x := x.toNat)
  have e : ∀ x : Int, 0 ≤ x → ((x.toNat : Nat) : Int) = x := fun x hx => by omega
  have a1 := ra _ q1; have a2 := ra _ q3; have b1 := rb _ q1; have b2 := rb _ q3
  rw [e _ q1] at a1 b1
  rw [e _ q3] at a2 b2
  unfold EG.dfB EG.apB
  congr 1
  rw [Bool.eq_iff_iff]
  simp only [Bool.or_eq_true, Bool.and_eq_true, decide_eq_true_eq, a1, a2, b1, b2]
  show _ ↔ min (g.pm g.nl (g.l j).a) (g.pm g.nl (g.l j).b) = min (g.pm g.nl a) (g.pm g.nl b) ∧ max (g.pm g.nl (g.l j).a) (g.pm g.nl (g.l j).b) = max (g.pm g.nl a) (g.pm g.nl b)
  omega
theorem refApart23 (g : EG) (h : g.OK) (a b : Int) : Pure Try.prog 23 [g.sv, .i a, .i b] (· = .tup [g.lv (g.apI a b), .i (g.apE a b)]) := by
  refine pure_of_GC T_ok Try.func23 rfl (by kernel_rfl) (Nat.le_of_ble_eq_true rfl) rfl rfl ?_
  have := h.nl
  have bad : g.pE2 a b ≠ 0 → g.lv (g.apI a b) = .agg [.i 0, .i 0, .b false] ∧ g.apE a b = g.pE2 a b := fun he => by
    have ei : g.apI a b = -1 := if_neg he
    exact ⟨by rw [ei]; exact EG.lv_neg (by decide), by unfold EG.apE; rw [if_neg he]⟩
  simp [go_sem]
  refine call_val (valid49 g h) rfl rfl ?_
  by_cases hv : g.valid = true
  rotate_left
  · have hv' : g.valid = false := by simpa using hv
    have e : g.pE2 a b = 8 := by simp [EG.pE2, hv']
    obtain ⟨e1, e2⟩ := bad (by rw [e]; decide)
    rw [e1, e2, e]
    simp [go_sem, hv']
  simp [go_sem, hv]
  refine call_val (there50 g h a) rfl rfl ?_
  by_cases ht : g.th a = true
  rotate_left
  · have ht' : g.th a = false := by simpa using ht
    have e : g.pE2 a b = 6 := by simp [EG.pE2, hv, ht']
    obtain ⟨e1, e2⟩ := bad (by rw [e]; decide)
    rw [e1, e2, e]
    simp [go_sem, ht']
  simp [go_sem, ht]
  refine call_val (there50 g h b) rfl rfl ?_
  by_cases hu : g.th b = true
  rotate_left
  · have hu' : g.th b = false := by simpa using hu
    have e : g.pE2 a b = 6 := by simp [EG.pE2, hv, hu']
    obtain ⟨e1, e2⟩ := bad (by rw [e]; decide)
    rw [e1, e2, e]
    simp [go_sem, hu']
  have e : g.pE2 a b = 0 := by simp [EG.pE2, hv, ht, hu]
  have ei : g.apI a b = g.ap a b := if_pos e
  have ea := EG.th_iff.1 ht
  have eb := EG.th_iff.1 hu
  have hin := EG.valid_inl hv
  have hd := differ60 g h hin a b ea.1 ea.2.1 eb.1 eb.2.1
  rw [EG.df_eq hin ea.1 ea.2.1 eb.1 eb.2.1] at hd
  simp [go_sem, hu]
  refine call_val hd rfl rfl ?_
  rw [ei]
  by_cases hp : 0 ≤ g.ap a b
  · have ee : g.apE a b = 0 := by unfold EG.apE; rw [if_pos e, if_pos hp]
    have hlt : g.ap a b < g.nl := by
      have hp' := hp
      unfold EG.ap ixB at hp' ⊢
      split
      · rename_i i hi
        have := List.mem_range.1 (List.find?_range_eq_some.1 hi).2.1
        omega
      · rename_i hi
        rw [hi] at hp'
        exact absurd hp' (by decide)
    rw [EG.lv_pos hp]
    have hn : ¬ g.ap a b < 0 := by omega
    simp [go_sem, hn, ee, hp, hlt]
  · have ee : g.apE a b = 6 := by unfold EG.apE; rw [if_pos e, if_neg hp]
    have hn : g.ap a b < 0 := by omega
    rw [EG.lv_neg hn]
    simp [go_sem, hn, ee]
end Go.Gx
