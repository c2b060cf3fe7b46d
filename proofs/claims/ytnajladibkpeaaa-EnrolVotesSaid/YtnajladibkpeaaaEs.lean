/-
  Plain law: the two bests are one.
-/
import Derived.Test.YtnajladibkpeaaaEr
set_option linter.unusedVariables false
set_option linter.unusedSimpArgs false
set_option maxRecDepth 20000
set_option maxHeartbeats 2000000
namespace Go.Gx
open Go.RowKit Go.Proofs Go.Proofs.Ytnajladibkpeaaa

theorem EG.con_gone {g : EG} (hl : g.lth) {a b : Int} (hb : g.th b = false) (h : g.Con g.nl a b) : a = b := by
  cases h with
  | refl => rfl
  | step _ hz =>
    obtain ⟨j, h1, _, h3⟩ := hz
    obtain ⟨t1, t2⟩ := hl j h1
    rcases h3 with ⟨_, e⟩ | ⟨_, e⟩
    · rw [e] at t2; rw [t2] at hb; cases hb
    · rw [e] at t1; rw [t1] at hb; cases hb
theorem EG.rc_th {g : EG} (hl : g.lth) (hi : g.inl) {a : Int} (ha : g.th a = true) {k : Nat} (hk : k < g.nr) : g.rc a g.nr k = (!(g.r k).g && decide (g.q k = g.q a)) := by
  have e := EG.th_iff.1 ha
  have hr := EG.rc_iff hi e.1 e.2.1 (x := k)
  rw [Bool.eq_iff_iff, hr]
  simp only [Bool.and_eq_true, Bool.not_eq_true', decide_eq_true_eq]
  constructor
  · intro h
    refine ⟨?_, h.symm⟩
    cases hg : (g.r k).g with
    | false => rfl
    | true =>
      have hf : g.th k = false := by
        cases ht : g.th k with
        | false => rfl
        | true => have := (EG.th_iff.1 ht).2.2; simp [hg] at this
      have := EG.con_gone hl hf (EG.con_iff.2 h)
      rw [this] at ha; rw [ha] at hf; cases hf
  · exact fun h => h.2.symm
theorem EG.bp_eq {g : EG} (hl : g.lth) (hi : g.inl) {a : Int} (ha : g.th a = true) : g.bp a g.nr = (g.bst (g.mem a g.nr) : Nat) := by
  have e := EG.th_iff.1 ha
  have key : ∀ k, k ≤ g.nr → g.bp a k = ((g.mem a k).foldl g.bt (g.q a).toNat : Nat) := by
    intro k
    induction k with
    | zero =>
      intro _
      have := EG.pm_bd hl g.nl a (Nat.le_refl _) e.1 e.2.1
      show g.pm g.nl a = (((g.pm g.nl a).toNat : Nat) : Int)
      omega
    | succ k ih =>
      intro hk
      have ih := ih (by omega)
      rw [EG.mem_succ, EG.rc_th hl hi ha (by omega)]
      simp only [EG.bp]
      by_cases hc : (!(g.r k).g && decide (g.q k = g.q a)) = true
      · rw [if_pos hc, List.foldl_append, ih]
        simp only [hc, Bool.true_and, decide_eq_true_eq, Int.toNat_natCast, List.foldl_cons, List.foldl_nil, EG.bt]
        split <;> rfl
      · rw [if_neg hc, ih, if_neg (by simp only [Bool.and_eq_true] at hc ⊢; exact fun h => hc h.1)]
  rw [key g.nr (Nat.le_refl _)]
  have hc := EG.con_pm g g.nl a
  have hr := EG.con_rc hi e.1 e.2.1 hc
  have hf : (List.range g.nr).find? (g.rc a g.nr) = some (g.pm g.nl a).toNat := by
    rw [List.find?_range_eq_some]
    refine ⟨hr.2.2, List.mem_range.2 (by omega), fun j hj => ?_⟩
    cases h : g.rc a g.nr j with
    | false => rfl
    | true =>
      have := EG.pm_min (EG.rc_con hi h)
      omega
  have hn : nth (g.mem a g.nr) 0 = (g.q a).toNat := by
    unfold nth EG.mem
    rw [List.getD_eq_getElem?_getD, ← List.head?_eq_getElem?, List.head?_filter, hf]
    rfl
  unfold EG.bst
  rw [hn]
end Go.Gx
