/-
  The reference: far, linked.
-/
import Derived.Test.YtnajladibkpeaaaGreatU4
import Derived.Test.YtnajladibkpeaaaGreatK5
set_option linter.unusedVariables false
set_option linter.unusedSimpArgs false
set_option maxRecDepth 20000
set_option maxHeartbeats 4000000
namespace Go.Gx
open Go.RowKit Go.Proofs Go.Proofs.YtnajladibkpeaaaGreat

/-- How many links a shortest way has. -/
def EG.far (g : EG) (a b : Int) : Int := ixB (fun n => g.rc a n b.toNat) g.nr
end Go.Gx
/-
  The reference: linked.
-/
set_option linter.unusedVariables false
set_option linter.unusedSimpArgs false
set_option maxRecDepth 20000
set_option maxHeartbeats 4000000
namespace Go.Gx
open Go.RowKit Go.Proofs Go.Proofs.YtnajladibkpeaaaGreat

/-- A link says that a and b are one person. -/
def EG.lkB (g : EG) (a b : Int) (j : Nat) : Bool := (g.l j).s && (decide ((g.l j).a = a) && decide ((g.l j).b = b) || decide ((g.l j).a = b) && decide ((g.l j).b = a))
end Go.Gx
/-
  Plain law: how far two records are; the way from one to the other.
-/
set_option linter.unusedVariables false
set_option linter.unusedSimpArgs false
set_option maxRecDepth 20000
set_option maxHeartbeats 4000000
namespace Go.Gx
open Go.RowKit Go.Proofs Go.Proofs.YtnajladibkpeaaaGreat

theorem EG.rc_left {g : EG} (hl : g.inl) {n : Nat} : ∀ {a x : Nat}, g.rc a (n + 1) x = true ↔ g.rc a n x = true ∨ ∃ y : Nat, g.adj g.nl a y ∧ g.rc y n x = true := by
  induction n with
  | zero =>
    intro a x
    rw [EG.rc_step hl]
    simp only [EG.rc, decide_eq_true_eq]
    constructor
    · rintro (h | ⟨y, h1, h2⟩)
      · exact .inl h
      · rw [← h1] at h2; exact .inr ⟨x, h2, rfl⟩
    · rintro (h | ⟨y, h1, h2⟩)
      · exact .inl h
      · rw [h2] at h1; exact .inr ⟨a, rfl, h1⟩
  | succ n ih =>
    intro a x
    rw [EG.rc_step hl]
    constructor
    · rintro (h | ⟨z, h1, h2⟩)
      · exact .inl h
      · rcases ih.1 h1 with h | ⟨y, h3, h4⟩
        · exact .inl ((EG.rc_step hl).2 (.inr ⟨z, h, h2⟩))
        · exact .inr ⟨y, h3, (EG.rc_step hl).2 (.inr ⟨z, h4, h2⟩)⟩
    · rintro (h | ⟨y, h1, h2⟩)
      · exact .inl h
      · rcases (EG.rc_step hl).1 h2 with h | ⟨z, h3, h4⟩
        · exact .inl (ih.2 (.inr ⟨y, h1, h⟩))
        · exact .inr ⟨z, ih.2 (.inr ⟨y, h1, h3⟩), h4⟩
theorem EG.rc_symm {g : EG} (hl : g.inl) {n : Nat} : ∀ {a x : Nat}, g.rc a n x = true → g.rc x n a = true := by
  induction n with
  | zero =>
    intro a x h
    simp only [EG.rc, decide_eq_true_eq] at h ⊢
    exact h.symm
  | succ n ih =>
    intro a x h
    rcases (EG.rc_step hl).1 h with h | ⟨y, h1, h2⟩
    · exact EG.rc_mono (ih h)
    · exact (EG.rc_left hl).2 (.inr ⟨y, EG.adj_symm h2, ih h1⟩)
theorem EG.still_pred {g : EG} (hl : g.inl) {a : Nat} (ha : a < g.nr) : g.still a (g.nr - 1) := by
  apply Classical.byContradiction
  intro hc
  have ha' : (a : Int) < g.nr := by omega
  have hall : ∀ n, n ≤ g.nr - 1 → ¬ g.still a n := fun n hn h => hc (EG.still_up hl hn h)
  have hgr : ∀ n, n ≤ g.nr → n + 1 ≤ g.rn a n := by
    intro n
    induction n with
    | zero =>
      intro _
      have : a ∈ (List.range g.nr).filter (g.rc a 0) := List.mem_filter.2 ⟨List.mem_range.2 ha, by simp [EG.rc]⟩
      exact List.length_pos_of_mem this
    | succ n ih =>
      intro hn
      have := EG.grows hl ha' (hall n (by omega))
      have := ih (by omega)
      omega
  have := hgr g.nr (Nat.le_refl _)
  have := g.rn_le a g.nr
  omega
theorem EG.rc_small {g : EG} (hl : g.inl) {a : Nat} (ha : a < g.nr) {n x : Nat} (h : g.rc a n x = true) : g.rc a (g.nr - 1) x = true := by
  by_cases hn : n ≤ g.nr - 1
  · exact EG.rc_le hn h
  · have : ∀ m, g.rc a (g.nr - 1 + m) x = true → g.rc a (g.nr - 1) x = true := by
      intro m
      induction m with
      | zero => exact id
      | succ m ih => exact fun h => ih (EG.still_up hl (Nat.le_add_right _ m) (EG.still_pred hl ha) x h)
    exact this (n - (g.nr - 1)) (by rw [show g.nr - 1 + (n - (g.nr - 1)) = n from by omega]; exact h)
theorem EG.far_at {g : EG} {a b n : Nat} (hn : n < g.nr) (h : g.rc a n b = true) (h' : ∀ m, m < n → g.rc a m b = false) : g.far a b = n := ixB_at hn (by simpa using h) fun j hj => by simpa using h' j hj
/-- Connected: there is a least number of links. -/
theorem EG.far_ex {g : EG} (hl : g.inl) {a : Nat} (ha : a < g.nr) {k b : Nat} (h : g.rc a k b = true) : ∃ n, n < g.nr ∧ n ≤ k ∧ g.far a b = n ∧ g.rc a n b = true ∧ ∀ m, m < n → g.rc a m b = false := by
  have key : ∀ k, g.rc a k b = true → ∃ n, n ≤ k ∧ g.rc a n b = true ∧ ∀ m, m < n → g.rc a m b = false := by
    intro k
    induction k using Nat.strongRecOn with
    | ind k ih =>
      intro hk
      by_cases e : ∃ m, m < k ∧ g.rc a m b = true
      · obtain ⟨m, h1, h2⟩ := e
        obtain ⟨n, h3, h4⟩ := ih m h1 h2
        exact ⟨n, by omega, h4⟩
      · exact ⟨k, Nat.le_refl _, hk, fun m hm => by
          cases hh : g.rc a m b with
          | false => rfl
          | true => exact absurd ⟨m, hm, hh⟩ e⟩
  obtain ⟨n, h1, h2, h3⟩ := key k h
  have hlt : n < g.nr := by
    have h5 := EG.rc_small hl ha h
    rcases Nat.lt_or_ge n g.nr with h6 | h6
    · exact h6
    · have := h3 (g.nr - 1) (by omega)
      rw [h5] at this; cases this
  exact ⟨n, hlt, h1, EG.far_at hlt h2 h3, h2, h3⟩
theorem EG.far_rc {g : EG} {a b n : Nat} (h : g.far a b = n) : g.rc a n b = true ∧ ∀ m, m < n → g.rc a m b = false := by
  unfold EG.far ixB at h
  cases e : (List.range g.nr).find? fun n => g.rc a n ((b : Int).toNat) with
  | none => rw [e] at h; dsimp only at h; omega
  | some i =>
    rw [e] at h
    have : i = n := by dsimp only at h; omega
    subst this
    obtain ⟨h1, _, h2⟩ := List.find?_range_eq_some.1 e
    refine ⟨by simpa using h1, fun m hm => ?_⟩
    have := h2 m hm
    simpa using this
theorem EG.far_neg {g : EG} {a b : Nat} (h : g.far a b < 0) : ∀ m, m < g.nr → g.rc a m b = false := by
  unfold EG.far ixB at h
  cases e : (List.range g.nr).find? fun n => g.rc a n ((b : Int).toNat) with
  | none =>
    intro m hm
    have := List.find?_eq_none.1 e m (List.mem_range.2 hm)
    simpa using this
  | some i => rw [e] at h; dsimp only at h; omega
theorem EG.far_symm {g : EG} (hl : g.inl) {a b : Nat} (ha : a < g.nr) (hb : b < g.nr) : g.far a b = g.far b a := by
  by_cases h : 0 ≤ g.far a b
  · have h1 : g.far a b = ((g.far a b).toNat : Int) := by omega
    obtain ⟨h2, h3⟩ := EG.far_rc h1
    obtain ⟨n, n1, n2, n3, n4, n5⟩ := EG.far_ex hl hb (EG.rc_symm hl h2)
    have h4 : ¬ n < (g.far a b).toNat := fun h5 => by
      have := h3 n h5
      rw [EG.rc_symm hl n4] at this; cases this
    omega
  · have h1 := EG.far_neg (show g.far a b < 0 by omega)
    by_cases h2 : 0 ≤ g.far b a
    · have h3 : g.far b a = ((g.far b a).toNat : Int) := by omega
      obtain ⟨h4, _⟩ := EG.far_rc h3
      have h5 := EG.rc_small hl ha (EG.rc_symm hl h4)
      rw [h1 _ (by omega)] at h5; cases h5
    · unfold EG.far at *
      unfold ixB at *
      split at h <;> split at h2 <;> simp_all
/-- A link says that x and y are one person. -/
def EG.lk (g : EG) (x y : Int) : Bool := (List.range g.nl).any (g.lkB x y)
theorem EG.lk_iff {g : EG} {x y : Int} : g.lk x y = true ↔ g.adj g.nl x y := by
  simp only [EG.lk, List.any_eq_true, List.mem_range, EG.lkB, Bool.and_eq_true, Bool.or_eq_true, decide_eq_true_eq, EG.adj]
  constructor
  · rintro ⟨j, h1, h2, h3⟩
    exact ⟨j, h1, h2, h3.imp id fun h => ⟨h.2, h.1⟩⟩
  · rintro ⟨j, h1, h2, h3⟩
    exact ⟨j, h1, h2, h3.imp id fun h => ⟨h.2, h.1⟩⟩
/-- The next record on the way from x to b. -/
def EG.nxI (g : EG) (b x : Nat) : Int := ixB (fun y => g.lk x y && decide (g.far y b = g.far x b - 1)) g.nr
def EG.nx (g : EG) (b x : Nat) : Nat := (g.nxI b x).toNat
theorem EG.nx_ok {g : EG} (hl : g.inl) {b x n : Nat} (hx : x < g.nr) (h : g.far x b = (n + 1 : Nat)) :
    g.nxI b x = (g.nx b x : Int) ∧ g.nx b x < g.nr ∧ g.lk x (g.nx b x) = true ∧ g.far (g.nx b x) b = n ∧ ∀ y, y < g.nx b x → (g.lk x y && decide (g.far y b = g.far x b - 1)) = false := by
  obtain ⟨h1, h2⟩ := EG.far_rc h
  rcases (EG.rc_left hl).1 h1 with h3 | ⟨y, h3, h4⟩
  · rw [h2 n (by omega)] at h3; cases h3
  have hy := adj_in hl h3
  obtain ⟨m, m1, m2, m3, m4, m5⟩ := EG.far_ex hl (show y < g.nr by omega) h4
  have hm : m = n := by
    rcases Nat.lt_or_ge m n with h5 | h5
    · have := h2 (m + 1) (by omega)
      rw [(EG.rc_left hl).2 (.inr ⟨y, h3, m4⟩)] at this; cases this
    · omega
  subst hm
  have hp : (g.lk x y && decide (g.far y b = g.far x b - 1)) = true := by
    rw [EG.lk_iff.2 h3, h, m3]; simp
  have hex : ∃ k, k < g.nr ∧ (g.lk x k && decide (g.far k b = g.far x b - 1)) = true ∧ ∀ j, j < k → (g.lk x j && decide (g.far j b = g.far x b - 1)) = false := by
    have : ∀ k, k < g.nr → (g.lk x k && decide (g.far k b = g.far x b - 1)) = true → ∃ k, k < g.nr ∧ (g.lk x k && decide (g.far k b = g.far x b - 1)) = true ∧ ∀ j, j < k → (g.lk x j && decide (g.far j b = g.far x b - 1)) = false := by
      intro k
      induction k using Nat.strongRecOn with
      | ind k ih =>
        intro hk hpk
        by_cases e : ∃ j, j < k ∧ (g.lk x j && decide (g.far j b = g.far x b - 1)) = true
        · obtain ⟨j, j1, j2⟩ := e
          exact ih j j1 (by omega) j2
        · exact ⟨k, hk, hpk, fun j hj => by
            cases hh : (g.lk x j && decide (g.far j b = g.far x b - 1)) with
            | false => rfl
            | true => exact absurd ⟨j, hj, hh⟩ e⟩
    exact this y (by omega) hp
  obtain ⟨k, k1, k2, k3⟩ := hex
  have hk : g.nxI b x = k := ixB_at (p := fun y => g.lk x y && decide (g.far y b = g.far x b - 1)) k1 k2 k3
  have hk' : g.nx b x = k := by unfold EG.nx; rw [hk]; omega
  rw [hk']
  simp only [Bool.and_eq_true, decide_eq_true_eq] at k2
  exact ⟨hk, k1, k2.1, by rw [k2.2, h]; omega, k3⟩
/-- The k-th record on the way from a to b. -/
def EG.cu (g : EG) (b a : Nat) : Nat → Nat
  | 0 => a
  | k + 1 => g.nx b (g.cu b a k)
theorem EG.cu_ok {g : EG} (hl : g.inl) {b a n : Nat} (ha : a < g.nr) (h : g.far a b = n) : ∀ k, k ≤ n → g.cu b a k < g.nr ∧ g.far (g.cu b a k) b = (n - k : Nat)
  | 0, _ => ⟨ha, h⟩
  | k + 1, hk => by
    obtain ⟨h1, h2⟩ := EG.cu_ok hl ha h k (by omega)
    have h3 : g.far (g.cu b a k) b = ((n - (k + 1)) + 1 : Nat) := by rw [h2]; congr 1; omega
    obtain ⟨e1, e2, e3, e4, e5⟩ := EG.nx_ok hl h1 h3
    exact ⟨e2, e4⟩
theorem EG.far_self {g : EG} {a : Nat} (ha : a < g.nr) : g.far a a = 0 := EG.far_at (n := 0) (by omega) (by simp [EG.rc]) fun m hm => by omega
theorem EG.far_zero {g : EG} {a b : Nat} (h : g.far a b = 0) : a = b := by
  have := (EG.far_rc (n := 0) h).1
  simp only [EG.rc, decide_eq_true_eq] at this
  omega
theorem EG.cu_eq {g : EG} (hl : g.inl) {b a n : Nat} (ha : a < g.nr) (h : g.far a b = n) {k : Nat} (hk : k ≤ n) : g.cu b a k = b ↔ k = n := by
  obtain ⟨h1, h2⟩ := EG.cu_ok hl ha h k hk
  constructor
  · intro e
    rw [e] at h1 h2
    rw [EG.far_self h1] at h2
    omega
  · intro e
    subst e
    exact EG.far_zero (by rw [h2]; simp)
/-- The way from a to b, its first k + 1 records. -/
def EG.way (g : EG) (a b k : Nat) : List Nat := (List.range (k + 1)).map (g.cu b a)
theorem EG.way_succ (g : EG) (a b k : Nat) : g.way a b (k + 1) = g.way a b k ++ [g.cu b a (k + 1)] := by
  unfold EG.way
  rw [List.range_succ, List.map_append]; rfl
theorem EG.way_len (g : EG) (a b k : Nat) : (g.way a b k).length = k + 1 := by simp [EG.way]
end Go.Gx
/-
  The reference: Why.
-/
set_option linter.unusedVariables false
set_option linter.unusedSimpArgs false
set_option maxRecDepth 20000
set_option maxHeartbeats 4000000
namespace Go.Gx
open Go.RowKit Go.Proofs Go.Proofs.YtnajladibkpeaaaGreat

theorem ixB_lt (p : Nat → Bool) (n : Nat) : -1 ≤ ixB p n ∧ ixB p n < n := by
  unfold ixB
  split
  · rename_i i h
    have := (List.find?_range_eq_some.1 h).2.1
    have := List.mem_range.1 this
    omega
  · omega
theorem EG.far_lt (g : EG) (a b : Int) : -1 ≤ g.far a b ∧ g.far a b < g.nr := ixB_lt _ _
/-- The error of a register and two records. -/
def EG.wE (g : EG) (a b : Int) : Int := if g.valid then (if g.th a && g.th b && decide (0 ≤ g.far a b) then 0 else 6) else 8
abbrev nilS : SV := .r (.v (.slice none 0 0))
def EG.wS (g : EG) (a b : Int) : SV := if g.wE a b = 0 then .r (.rs 1 ((g.far a b).toNat + 1) (intsR (g.way a.toNat b.toNat (g.far a b).toNat))) else nilS
theorem EG.wS_no {g : EG} {a b : Int} (h : g.wE a b ≠ 0) : g.wS a b = nilS := if_neg h
theorem EG.wS_yes {g : EG} {a b : Nat} {n : Nat} (h : g.wE a b = 0) (hn : g.far a b = n) : g.wS a b = .r (.rs 1 (n + 1) (intsR (g.way a b n))) := by
  unfold EG.wS
  rw [if_pos h, hn]
  simp
theorem way_row (g : EG) {a b k i : Nat} (hi : i < k + 1 + 1) : (if i < k + 1 then SV.i (nth (g.way a b k) i : Nat) else SV.i (g.cu b a (k + 1) : Nat)) = SV.i (nth (g.way a b (k + 1)) i : Nat) := by
  rw [EG.way_succ]
  have := ints_add (l := g.way a b k) (k := g.cu b a (k + 1)) (i := i) (by rw [EG.way_len]; exact hi)
  rw [EG.way_len] at this
  exact this
end Go.Gx
