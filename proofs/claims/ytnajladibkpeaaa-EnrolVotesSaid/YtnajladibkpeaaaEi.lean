/-
  Plain law: who is one person; the two ways to be valid are one.
-/
import Derived.Test.YtnajladibkpeaaaEh
set_option linter.unusedVariables false
set_option linter.unusedSimpArgs false
set_option maxRecDepth 20000
set_option maxHeartbeats 2000000
namespace Go.Gx
open Go.RowKit Go.Proofs Go.Proofs.Ytnajladibkpeaaa

/-- One of the first k links says that x and y are one person. -/
def EG.adj (g : EG) (k : Nat) (x y : Int) : Prop := ∃ j, j < k ∧ (g.l j).s = true ∧ ((g.l j).a = x ∧ (g.l j).b = y ∨ (g.l j).b = x ∧ (g.l j).a = y)
inductive EG.Con (g : EG) (k : Nat) : Int → Int → Prop
  | refl (x : Int) : EG.Con g k x x
  | step {x y z : Int} : EG.Con g k x y → g.adj k y z → EG.Con g k x z
theorem EG.adj_symm {g : EG} {k : Nat} {x y : Int} (h : g.adj k x y) : g.adj k y x := by
  obtain ⟨j, h1, h2, h3⟩ := h
  exact ⟨j, h1, h2, h3.symm.imp (fun h => ⟨h.2, h.1⟩) (fun h => ⟨h.2, h.1⟩) |>.symm.symm⟩
theorem EG.Con.trans {g : EG} {k : Nat} {x y z : Int} (h1 : g.Con k x y) (h2 : g.Con k y z) : g.Con k x z := by
  induction h2 with
  | refl => exact h1
  | step _ a ih => exact .step ih a
theorem EG.Con.symm {g : EG} {k : Nat} {x y : Int} (h : g.Con k x y) : g.Con k y x := by
  induction h with
  | refl => exact .refl _
  | step _ a ih => exact (EG.Con.step (.refl _) (EG.adj_symm a)).trans ih
theorem EG.Con.mono {g : EG} {k m : Nat} (hk : k ≤ m) {x y : Int} (h : g.Con k x y) : g.Con m x y := by
  induction h with
  | refl => exact .refl _
  | step _ a ih =>
    obtain ⟨j, h1, h2⟩ := a
    exact .step ih ⟨j, by omega, h2⟩

theorem EG.pm_eq {g : EG} {k : Nat} {x y : Int} (h : g.pm k x = g.pm k y) : g.pm (k + 1) x = g.pm (k + 1) y := by
  simp only [EG.pm, h]
theorem EG.pm_up {g : EG} {x y : Int} {k m : Nat} (hk : k ≤ m) (h : g.pm k x = g.pm k y) : g.pm m x = g.pm m y := by
  induction m with
  | zero => have : k = 0 := by omega
            subst this; exact h
  | succ m ih =>
    by_cases e : k = m + 1
    · subst e; exact h
    · exact EG.pm_eq (ih (by omega))
theorem EG.pm_adj {g : EG} {k : Nat} {x y : Int} (h : g.adj k x y) : g.pm k x = g.pm k y := by
  obtain ⟨j, h1, h2, h3⟩ := h
  refine EG.pm_up (k := j + 1) (by omega) ?_
  have key : g.pm (j + 1) (g.l j).a = g.pm (j + 1) (g.l j).b := by
    simp only [EG.pm, h2]
    by_cases e : g.pm j (g.l j).a = g.pm j (g.l j).b
    · simp [e]
    · simp [e]
      split <;> split <;> omega
  rcases h3 with ⟨rfl, rfl⟩ | ⟨rfl, rfl⟩
  · exact key
  · exact key.symm
theorem EG.pm_con {g : EG} {k : Nat} {x y : Int} (h : g.Con k x y) : g.pm k x = g.pm k y := by
  induction h with
  | refl => rfl
  | step _ a ih => exact ih.trans (EG.pm_adj a)
theorem EG.con_pm (g : EG) : ∀ (k : Nat) (x : Int), g.Con k x (g.pm k x)
  | 0, x => .refl x
  | k + 1, x => by
    have ih := (EG.con_pm g k x).mono (Nat.le_succ k)
    simp only [EG.pm]
    split
    · rename_i hc
      simp only [Bool.and_eq_true, Bool.not_eq_true', decide_eq_false_iff_not] at hc
      split
      · rename_i hm
        have ia := (EG.con_pm g k (g.l k).a).mono (Nat.le_succ k)
        have ib := (EG.con_pm g k (g.l k).b).mono (Nat.le_succ k)
        have hab : g.Con (k + 1) (g.l k).a (g.l k).b := .step (.refl _) ⟨k, by omega, hc.1, .inl ⟨rfl, rfl⟩⟩
        rw [hm] at ih
        rcases Int.le_total (g.pm k (g.l k).a) (g.pm k (g.l k).b) with h | h
        · rw [Int.max_eq_right h] at ih
          rw [Int.min_eq_left h]
          exact ih.trans (ib.symm.trans (hab.symm.trans ia))
        · rw [Int.max_eq_left h] at ih
          rw [Int.min_eq_right h]
          exact ih.trans (ia.symm.trans (hab.trans ib))
      · exact ih
    · exact ih
theorem EG.pm_le (g : EG) : ∀ (k : Nat) (x : Int), g.pm k x ≤ x
  | 0, x => Int.le_refl x
  | k + 1, x => by
    have ih := EG.pm_le g k x
    simp only [EG.pm]
    split
    · split
      · rename_i hm
        omega
      · exact ih
    · exact ih
theorem EG.con_iff {g : EG} {k : Nat} {x y : Int} : g.Con k x y ↔ g.pm k x = g.pm k y :=
  ⟨EG.pm_con, fun h => (EG.con_pm g k x).trans (by rw [h]; exact (EG.con_pm g k y).symm)⟩
/-- The person is the least record of the class. -/
theorem EG.pm_min {g : EG} {k : Nat} {x y : Int} (h : g.Con k x y) : g.pm k x ≤ y := by
  rw [EG.pm_con h]; exact EG.pm_le g k y

/-! ### what is reached -/
theorem EG.rc_mono {g : EG} {a : Int} {n x : Nat} (h : g.rc a n x = true) : g.rc a (n + 1) x = true := by
  simp only [EG.rc, EG.rpart, h, Bool.true_or]
theorem EG.rc_le {g : EG} {a : Int} {n m x : Nat} (hn : n ≤ m) (h : g.rc a n x = true) : g.rc a m x = true := by
  induction m with
  | zero => have : n = 0 := by omega
            subst this; exact h
  | succ m ih =>
    by_cases e : n = m + 1
    · subst e; exact h
    · exact EG.rc_mono (ih (by omega))
theorem EG.rc_step {g : EG} (hl : g.inl) {a : Int} {n x : Nat} : g.rc a (n + 1) x = true ↔ g.rc a n x = true ∨ ∃ y : Nat, g.rc a n y = true ∧ g.adj g.nl y x := by
  simp only [EG.rc, EG.rpart, Bool.or_eq_true, List.any_eq_true, List.mem_range, EG.hit, Bool.and_eq_true, decide_eq_true_eq]
  constructor
  · rintro (h | ⟨j, hj, ⟨hs, h1⟩, h2⟩)
    · exact .inl h
    · obtain ⟨q1, q2, q3, q4⟩ := hl j hj
      rcases h2 with h2 | h2
      · rcases h1 with h1 | h1
        · have : (g.l j).a.toNat = x := by omega
          rw [this] at h1; exact .inl h1
        · exact .inr ⟨_, h1, j, hj, hs, .inr ⟨by omega, h2⟩⟩
      · rcases h1 with h1 | h1
        · exact .inr ⟨_, h1, j, hj, hs, .inl ⟨by omega, h2⟩⟩
        · have : (g.l j).b.toNat = x := by omega
          rw [this] at h1; exact .inl h1
  · rintro (h | ⟨y, hy, j, hj, hs, h⟩)
    · exact .inl h
    · rcases h with ⟨e1, e2⟩ | ⟨e1, e2⟩
      · exact .inr ⟨j, hj, ⟨hs, .inl (by rw [e1]; exact hy)⟩, .inr e2⟩
      · exact .inr ⟨j, hj, ⟨hs, .inr (by rw [e1]; exact hy)⟩, .inl e2⟩
theorem EG.rc_con {g : EG} (hl : g.inl) {a : Int} : ∀ {n x : Nat}, g.rc a n x = true → g.Con g.nl a x
  | 0, x, h => by
    simp only [EG.rc, decide_eq_true_eq] at h
    subst h; exact .refl _
  | n + 1, x, h => by
    rcases (EG.rc_step hl).1 h with h | ⟨y, h1, h2⟩
    · exact EG.rc_con hl h
    · exact .step (EG.rc_con hl h1) h2
theorem adj_in {g : EG} (hl : g.inl) {x y : Int} (h : g.adj g.nl x y) : 0 ≤ x ∧ x < g.nr ∧ 0 ≤ y ∧ y < g.nr := by
  obtain ⟨j, h1, h2, h3⟩ := h
  obtain ⟨q1, q2, q3, q4⟩ := hl j h1
  rcases h3 with ⟨rfl, rfl⟩ | ⟨rfl, rfl⟩
  · exact ⟨q1, q2, q3, q4⟩
  · exact ⟨q3, q4, q1, q2⟩
/-- How many are reached. -/
def EG.rn (g : EG) (a : Int) (n : Nat) : Nat := ((List.range g.nr).filter (g.rc a n)).length
theorem EG.rn_le (g : EG) (a : Int) (n : Nat) : g.rn a n ≤ g.nr := by
  have := List.length_filter_le (g.rc a n) (List.range g.nr)
  simpa [EG.rn] using this
theorem EG.rc_bd {g : EG} (hl : g.inl) {a : Int} (ha : a < g.nr) : ∀ {n x : Nat}, g.rc a n x = true → x < g.nr
  | 0, x, h => by
    simp only [EG.rc, decide_eq_true_eq] at h
    omega
  | n + 1, x, h => by
    rcases (EG.rc_step hl).1 h with h | ⟨y, h1, h2⟩
    · exact EG.rc_bd hl ha h
    · have := adj_in hl h2; omega
/-- Round n adds none. -/
def EG.still (g : EG) (a : Int) (n : Nat) : Prop := ∀ x, g.rc a (n + 1) x = true → g.rc a n x = true
theorem EG.grows {g : EG} (hl : g.inl) {a : Int} (ha : a < g.nr) {n : Nat} (h : ¬ g.still a n) : g.rn a n < g.rn a (n + 1) := by
  simp only [EG.still, Classical.not_forall] at h
  obtain ⟨x, h1, h2⟩ := h
  exact left_lt (EG.rc_bd hl ha h1) h1 (by simpa using h2) fun i hi => EG.rc_mono hi
theorem EG.still_up {g : EG} (hl : g.inl) {a : Int} {n m : Nat} (hn : n ≤ m) (h : g.still a n) : g.still a m := by
  induction m with
  | zero => have : n = 0 := by omega
            subst this; exact h
  | succ m ih =>
    by_cases e : n = m + 1
    · subst e; exact h
    · have ih := ih (by omega)
      intro x hx
      rcases (EG.rc_step hl).1 hx with h | ⟨y, h1, h2⟩
      · exact h
      · exact (EG.rc_step hl).2 (.inr ⟨y, ih y h1, h2⟩)
theorem EG.still_nr {g : EG} (hl : g.inl) {a : Int} (h0 : 0 ≤ a) (ha : a < g.nr) : g.still a g.nr := by
  apply Classical.byContradiction
  intro hc
  have hall : ∀ n, n ≤ g.nr → ¬ g.still a n := fun n hn h => hc (EG.still_up hl hn h)
  have hgr : ∀ n, n ≤ g.nr + 1 → n ≤ g.rn a n := by
    intro n
    induction n with
    | zero => intro _; exact Nat.zero_le _
    | succ n ih =>
      intro hn
      have := EG.grows hl ha (hall n (by omega))
      have := ih (by omega)
      omega
  have := hgr (g.nr + 1) (Nat.le_refl _)
  have := g.rn_le a (g.nr + 1)
  omega
theorem EG.con_rc {g : EG} (hl : g.inl) {a : Int} (h0 : 0 ≤ a) (ha : a < g.nr) {x : Int} (h : g.Con g.nl a x) : 0 ≤ x ∧ x < g.nr ∧ g.rc a g.nr x.toNat = true := by
  induction h with
  | refl =>
    refine ⟨h0, ha, EG.rc_le (Nat.zero_le _) ?_⟩
    simp only [EG.rc, decide_eq_true_eq]
    omega
  | @step y z _ hz ih =>
    obtain ⟨i0, i1, i2⟩ := ih
    have hb := adj_in hl hz
    refine ⟨hb.2.2.1, hb.2.2.2, EG.still_nr hl h0 ha _ ((EG.rc_step hl).2 (.inr ⟨_, i2, ?_⟩))⟩
    have e1 : ((y.toNat : Nat) : Int) = y := by omega
    have e2 : ((z.toNat : Nat) : Int) = z := by omega
    rw [e1, e2]; exact hz
theorem EG.rc_iff {g : EG} (hl : g.inl) {a : Int} (h0 : 0 ≤ a) (ha : a < g.nr) {x : Nat} : g.rc a g.nr x = true ↔ g.pm g.nl a = g.pm g.nl x :=
  ⟨fun h => EG.con_iff.1 (EG.rc_con hl h), fun h => by have := (EG.con_rc hl h0 ha (EG.con_iff.2 h)).2.2; simpa using this⟩
theorem EG.one_eq {g : EG} (hl : g.inl) {a b : Int} (h0 : 0 ≤ a) (ha : a < g.nr) (h1 : 0 ≤ b) : g.one a b = decide (g.pm g.nl a = g.pm g.nl b) := by
  unfold EG.one
  have := EG.rc_iff hl h0 ha (x := b.toNat)
  have e : ((b.toNat : Nat) : Int) = b := by omega
  rw [e] at this
  by_cases h : g.pm g.nl a = g.pm g.nl b
  · rw [this.2 h, decide_eq_true h]
  · have h2 : ¬ g.rc a g.nr b.toNat = true := fun h3 => h (this.1 h3)
    rw [decide_eq_false h]; simpa using h2
end Go.Gx
