/-
  Law: RightsCovered.
-/
import Derived.Test.YtaggojedpkddjaaRq
set_option linter.unusedVariables false
set_option linter.unusedSimpArgs false
set_option maxRecDepth 20000
set_option maxHeartbeats 2000000
namespace Go.Gx
open Go.RowKit Go.Proofs Go.Proofs.Ytaggojedpkddjaa

theorem lev_ex {g : RG} {q : QG} : ∀ n, g.lev q n ≠ 0 → ∃ i, i < n ∧ ruleB g q (g.r i) = true ∧ (g.r i).s = g.lev q n
  | 0, h => absurd rfl h
  | n + 1, h => by
    simp only [RG.lev] at h ⊢
    by_cases hr : ruleB g q (g.r n) = true
    · rw [if_pos hr] at h ⊢
      by_cases hs : g.lev q n ≤ (g.r n).s
      · exact ⟨n, by omega, hr, by omega⟩
      · by_cases h0 : g.lev q n = 0
        · exact absurd (by omega : max (g.lev q n) (g.r n).s = 0) h
        · obtain ⟨i, h1, h2, h3⟩ := lev_ex n h0
          exact ⟨i, by omega, h2, by omega⟩
    · rw [if_neg hr] at h ⊢
      obtain ⟨i, h1, h2, h3⟩ := lev_ex n h
      exact ⟨i, by omega, h2, h3⟩

theorem law4 (g : RG) (q : QG) (hb : g.By) : Pure Try.prog 4 [g.sv, q.sv] (· = .b true) := by
  refine pure_of_GC T_ok Try.func4 rfl (by kernel_rfl) (Nat.le_of_ble_eq_true rfl) rfl rfl ?_
  simp [go_sem]
  refine call_val alive24 rfl rfl ?_
  simp [go_sem]
  refine call_val (great16 g) rfl rfl ?_
  generalize hg : g.great = a
  cases a
  rotate_left
  · simp [go_sem]
  have h := OK_of hb hg
  simp [go_sem]
  refine call_val (long25 q) rfl rfl ?_
  by_cases hl : 20 < (q.nk : Int)
  · simp [go_sem, hl]
  have hq : q.OK := by unfold QG.OK; omega
  simp [go_sem, hl]
  refine call_val (answer26 g q h hq) rfl rfl ?_
  by_cases he : g.aerr q = 0
  rotate_left
  · have hr := RG.ans_no he
    simp [RG.rep] at hr
    simp [go_sem, he, hr]
  have ha : ask g q = 0 := by
    unfold RG.aerr at he
    split at he
    · omega
    · rename_i h; simpa using h
  have h0 : g.lev q g.nr ≠ 0 := by
    intro h0
    simp [RG.aerr, ha, h0] at he
  have hL : g.aL q = g.lev q g.nr := by simp [RG.aL, he]
  have hm := RG.mid (ask_valid ha).1
  obtain ⟨x, x1, x2, x3⟩ := lev_ex g.nr h0
  have hr := h.nr
  rw [← hL] at x3
  simp [go_sem, he]
  refine GLoop_of T_ok (α := Nat) (fun k => [(2, .ptr 0 0 4 0), (3, .ptr 1 0 6 0), (5, .b true), (6, .ptr 2 0 4 0), (37, RuleG.rs g.nr g.r), (38, .i g.nr), (39, .i k)])
    (fun _ => g.box ++ [q.bx, some (.box [.i (g.aL q), .b (g.aO q), .i (g.aS q), .i (g.aN q)])]) 3 (fun k => k ≤ x) (fun k => g.nr - k) 0 (fun _ => rfl) (by simp) (by simp [go_sem]) (by simp [go_sem]) ?_
  intro k J hi
  have hlt : k < g.nr := by omega
  have hmk := hm.rt k hlt
  have hne : ¬ (ruleB g q (g.r k) = true ∧ (g.r k).s = g.aL q) → k + 1 ≤ x := fun hn => by
    rcases Nat.lt_or_ge k x with h | h
    · omega
    · have : k = x := by omega
      subst this
      exact absurd ⟨x2, x3⟩ hn
  by_cases e1 : (g.r k).p = q.p
  rotate_left
  · simp [go_sem, hlt, e1]
    exact ⟨by omega, k + 1, hne (by simp [ruleB, e1]), by omega, by simp⟩
  by_cases e2 : (g.r k).r = q.r
  rotate_left
  · simp [go_sem, hlt, e1, e2]
    exact ⟨by omega, k + 1, hne (by simp [ruleB, e2]), by omega, by simp⟩
  by_cases e3 : (g.r k).l = q.l
  rotate_left
  · simp [go_sem, hlt, e1, e2, e3]
    exact ⟨by omega, k + 1, hne (by simp [ruleB, e3]), by omega, by simp⟩
  by_cases e4 : (g.r k).f ≤ q.t
  rotate_left
  · simp [go_sem, hlt, e1, e2, e3, e4]
    exact ⟨by omega, k + 1, hne (by simp [ruleB, e4]), by omega, by simp⟩
  by_cases e5 : q.t < (g.r k).t
  rotate_left
  · simp [go_sem, hlt, e1, e2, e3, e4, e5]
    exact ⟨by omega, k + 1, hne (by simp [ruleB, e5]), by omega, by simp⟩
  by_cases e6 : (g.r k).k ≤ q.nk
  rotate_left
  · simp [go_sem, hlt, e1, e2, e3, e4, e5, e6]
    exact ⟨by omega, k + 1, hne (by simp [ruleB, e6]), by omega, by simp⟩
  by_cases e7 : (g.r k).s = g.aL q
  rotate_left
  · simp [go_sem, hlt, e1, e2, e3, e4, e5, e6, e7]
    exact ⟨by omega, k + 1, hne (by simp [e7]), by omega, by simp⟩
  simp [go_sem, hlt, e1, e2, e3, e4, e5, e6, e7]
  refine call_val (covers27 g q (g.r k).b h) rfl rfl ?_
  rw [cov_based ⟨hmk.2.2.1, hmk.2.2.2⟩]
  generalize hbs : based g q (g.r k).b = bs
  cases bs
  · simp [go_sem]
    exact ⟨by omega, k + 1, hne (by simp [ruleB, hbs]), by omega, by simp⟩
  · simp [go_sem]

end Go.Gx
