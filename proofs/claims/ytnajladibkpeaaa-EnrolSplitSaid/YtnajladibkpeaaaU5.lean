/-
  The reference: far, linked.
-/
import Derived.Test.YtnajladibkpeaaaU4
import Derived.Test.YtnajladibkpeaaaK5
set_option linter.unusedVariables false
set_option linter.unusedSimpArgs false
set_option maxRecDepth 20000
set_option maxHeartbeats 4000000
namespace Go.Gx
open Go.RowKit Go.Proofs Go.Proofs.Ytnajladibkpeaaa

/-- How many links a shortest way has. -/
def EG.far (g : EG) (a b : Int) : Int := ixB (fun n => g.rc a n b.toNat) g.nr
theorem far57 (g : EG) (h : g.OK) (hl : g.inl) (a b : Int) (h0 : 0 ≤ a) (h1 : a < g.nr) (h2 : 0 ≤ b) (h3 : b < g.nr) : Pure Try.prog 57 [g.sv, .i a, .i b] (· = .i (g.far a b)) := by
  refine pure_of_GC T_ok Try.func57 rfl (by kernel_rfl) (Nat.le_of_ble_eq_true rfl) rfl rfl ?_
  have := h.nr
  simp [go_sem]
  refine GLoop_of T_ok (α := Nat) (fun k => [(1, .i a), (2, .i b), (3, .ptr 0 0 3 0), (7, .i k)]) (fun _ => [g.bx]) 1 (fun k => k ≤ g.nr ∧ ∀ j, j < k → g.rc a j b.toNat = false) (fun k => g.nr - k) 0 (fun _ => rfl) (by simp) (by simp [go_sem]) (by simp [go_sem]) ?_
  intro k J hi
  by_cases hlt : k < g.nr
  · simp [go_sem, hlt]
    refine call_val (reached107 g h hl a k h0 h1 (by omega)) rfl rfl ?_
    by_cases hc : g.rc a k b.toNat = true
    · simp [go_sem, h2, h3, hc]
      exact (ixB_at (p := fun n => g.rc a n b.toNat) hlt hc hi.2).symm
    · have hc' : g.rc a k b.toNat = false := by simpa using hc
      simp [go_sem, h2, h3, hc']
      refine ⟨by omega, k + 1, ⟨by omega, fun j hj => ?_⟩, by omega, by omega⟩
      by_cases hjk : j = k
      · subst hjk; exact hc'
      · exact hi.2 j (by omega)
  · simp [go_sem, hlt]
    exact (ixB_no (p := fun n => g.rc a n b.toNat) fun j hj => hi.2 j (by omega)).symm
end Go.Gx
/-
  The reference: linked.
-/
set_option linter.unusedVariables false
set_option linter.unusedSimpArgs false
set_option maxRecDepth 20000
set_option maxHeartbeats 4000000
namespace Go.Gx
open Go.RowKit Go.Proofs Go.Proofs.Ytnajladibkpeaaa

/-- A link says that a and b are one person. -/
def EG.lkB (g : EG) (a b : Int) (j : Nat) : Bool := (g.l j).s && (decide ((g.l j).a = a) && decide ((g.l j).b = b) || decide ((g.l j).a = b) && decide ((g.l j).b = a))
theorem linked58 (g : EG) (h : g.OK) (a b : Int) : Pure Try.prog 58 [g.sv, .i a, .i b] (· = .b ((List.range g.nl).any (g.lkB a b))) := by
  refine pure_of_GC T_ok Try.func58 rfl (by kernel_rfl) (Nat.le_of_ble_eq_true rfl) rfl rfl ?_
  have := h.nl
  simp [go_sem]
  refine GLoop_of T_ok (α := Nat) (fun k => [(1, .i a), (2, .i b), (3, .ptr 0 0 3 0), (7, .i k)]) (fun _ => [g.bx]) 1 (fun k => k ≤ g.nl ∧ ∀ j, j < k → g.lkB a b j = false) (fun k => g.nl - k) 0 (fun _ => rfl) (by simp) (by simp [go_sem]) (by simp [go_sem]) ?_
  intro k J hi
  by_cases hlt : k < g.nl
  rotate_left
  · simp [go_sem, hlt]
    intro j hj
    have := hi.2 j (by omega)
    simpa using this
  have step : g.lkB a b k = false → (k + 1 ≤ g.nl ∧ ∀ j, j < k + 1 → g.lkB a b j = false) := fun hf => ⟨by omega, fun j hj => by
    by_cases hjk : j = k
    · subst hjk; exact hf
    · exact hi.2 j (by omega)⟩
  have yes : g.lkB a b k = true → (List.range g.nl).any (g.lkB a b) = true := fun ht => List.any_eq_true.2 ⟨k, List.mem_range.2 hlt, ht⟩
  by_cases hs : (g.l k).s = true
  rotate_left
  · have hs' : (g.l k).s = false := by simpa using hs
    simp [go_sem, hlt, hs']
    exact ⟨by omega, k + 1, step (by simp [EG.lkB, hs']), by omega, by omega⟩
  generalize hx : (g.l k).a = x at *
  generalize hy : (g.l k).b = y at *
  have hB : g.lkB a b k = (decide (x = a) && decide (y = b) || decide (x = b) && decide (y = a)) := by simp [EG.lkB, hs, hx, hy]
  by_cases c1 : x = a
  · subst c1
    by_cases c2 : y = b
    · subst c2
      have ht : g.lkB x y k = true := by rw [hB]; simp
      rw [yes ht]
      simp [go_sem, hlt, hs, hx, hy]
    · by_cases c3 : x = b
      · subst c3
        have hf : g.lkB x x k = false := by rw [hB]; simp [c2]
        simp [go_sem, hlt, hs, hx, hy, c2]
        exact ⟨by omega, k + 1, step hf, by omega, by omega⟩
      · have hf : g.lkB x b k = false := by rw [hB]; simp [c2, c3]
        simp [go_sem, hlt, hs, hx, hy, c2, c3]
        exact ⟨by omega, k + 1, step hf, by omega, by omega⟩
  · by_cases c3 : x = b
    · subst c3
      by_cases c4 : y = a
      · subst c4
        have ht : g.lkB y x k = true := by rw [hB]; simp
        rw [yes ht]
        simp [go_sem, hlt, hs, hx, hy, c1]
      · have hf : g.lkB a x k = false := by rw [hB]; simp [c1, c4]
        simp [go_sem, hlt, hs, hx, hy, c1, c4]
        exact ⟨by omega, k + 1, step hf, by omega, by omega⟩
    · have hf : g.lkB a b k = false := by rw [hB]; simp [c1, c3]
      simp [go_sem, hlt, hs, hx, hy, c1, c3]
      exact ⟨by omega, k + 1, step hf, by omega, by omega⟩
end Go.Gx
/-
  Plain law: how far two records are; the way from one to the other.
-/
set_option linter.unusedVariables false
set_option linter.unusedSimpArgs false
set_option maxRecDepth 20000
set_option maxHeartbeats 4000000
namespace Go.Gx
open Go.RowKit Go.Proofs Go.Proofs.Ytnajladibkpeaaa

theorem EG.rc_left {g : EG} (hl : g.inl) {n : Nat} : ∀ {a x : Nat}, g.rc a (n + 1) x = true ↔ g.rc a n x = true ∨ ∃ y : Nat, g.adj g.nl a y ∧ g.rc y n x = true := by
  induction n with
  | zero =>
    intro a x
    rw [EG.rc_step hl]
    simp only [EG.rc, decide_eq_true_eq]
    constructor
    · rintro (h | ⟨y, h1, h2⟩)
      · exact .inl h
      · rw [← h1] at h2; exact .inr ⟨x, h2, rfl⟩
    · rintro (h | ⟨y, h1, h2⟩)
      · exact .inl h
      · rw [h2] at h1; exact .inr ⟨a, rfl, h1⟩
  | succ n ih =>
    intro a x
    rw [EG.rc_step hl]
    constructor
    · rintro (h | ⟨z, h1, h2⟩)
      · exact .inl h
      · rcases ih.1 h1 with h | ⟨y, h3, h4⟩
        · exact .inl ((EG.rc_step hl).2 (.inr ⟨z, h, h2⟩))
        · exact .inr ⟨y, h3, (EG.rc_step hl).2 (.inr ⟨z, h4, h2⟩)⟩
    · rintro (h | ⟨y, h1, h2⟩)
      · exact .inl h
      · rcases (EG.rc_step hl).1 h2 with h | ⟨z, h3, h4⟩
        · exact .inl (ih.2 (.inr ⟨y, h1, h⟩))
        · exact .inr ⟨z, ih.2 (.inr ⟨y, h1, h3⟩), h4⟩
theorem EG.rc_symm {g : EG} (hl : g.inl) {n : Nat} : ∀ {a x : Nat}, g.rc a n x = true → g.rc x n a = true := by
  induction n with
  | zero =>
    intro a x h
    simp only [EG.rc, decide_eq_true_eq] at h ⊢
    exact h.symm
  | succ n ih =>
    intro a x h
    rcases (EG.rc_step hl).1 h with h | ⟨y, h1, h2⟩
    · exact EG.rc_mono (ih h)
    · exact (EG.rc_left hl).2 (.inr ⟨y, EG.adj_symm h2, ih h1⟩)
theorem EG.still_pred {g : EG} (hl : g.inl) {a : Nat} (ha : a < g.nr) : g.still a (g.nr - 1) := by
  apply Classical.byContradiction
  intro hc
  have ha' : (a : Int) < g.nr := by omega
  have hall : ∀ n, n ≤ g.nr - 1 → ¬ g.still a n := fun n hn h => hc (EG.still_up hl hn h)
  have hgr : ∀ n, n ≤ g.nr → n + 1 ≤ g.rn a n := by
    intro n
    induction n with
    | zero =>
      intro _
      have : a ∈ (List.range g.nr).filter (g.rc a 0) := List.mem_filter.2 ⟨List.mem_range.2 ha, by simp [EG.rc]⟩
      exact List.length_pos_of_mem this
    | succ n ih =>
      intro hn
      have := EG.grows hl ha' (hall n (by omega))
      have := ih (by omega)
      omega
  have := hgr g.nr (Nat.le_refl _)
  have := g.rn_le a g.nr
  omega
theorem EG.rc_small {g : EG} (hl : g.inl) {a : Nat} (ha : a < g.nr) {n x : Nat} (h : g.rc a n x = true) : g.rc a (g.nr - 1) x = true := by
  by_cases hn : n ≤ g.nr - 1
  · exact EG.rc_le hn h
  · have : ∀ m, g.rc a (g.nr - 1 + m) x = true → g.rc a (g.nr - 1) x = true := by
      intro m
      induction m with
      | zero => exact id
      | succ m ih => exact fun h => ih (EG.still_up hl (Nat.le_add_right _ m) (EG.still_pred hl ha) x h)
    exact this (n - (g.nr - 1)) (by rw [show g.nr - 1 + (n - (g.nr - 1)) = n from by omega]; exact h)
theorem EG.far_at {g : EG} {a b n : Nat} (hn : n < g.nr) (h : g.rc a n b = true) (h' : ∀ m, m < n → g.rc a m b = false) : g.far a b = n := ixB_at hn (by simpa using h) fun j hj => by simpa using h' j hj
/-- Connected: there is a least number of links. -/
theorem EG.far_ex {g : EG} (hl : g.inl) {a : Nat} (ha : a < g.nr) {k b : Nat} (h : g.rc a k b = true) : ∃ n, n < g.nr ∧ n ≤ k ∧ g.far a b = n ∧ g.rc a n b = true ∧ ∀ m, m < n → g.rc a m b = false := by
  have key : ∀ k, g.rc a k b = true → ∃ n, n ≤ k ∧ g.rc a n b = true ∧ ∀ m, m < n → g.rc a m b = false := by
    intro k
    induction k using Nat.strongRecOn with
    | ind k ih =>
      intro hk
      by_cases e : ∃ m, m < k ∧ g.rc a m b = true
      · obtain ⟨m, h1, h2⟩ := e
        obtain ⟨n, h3, h4⟩ := ih m h1 h2
        exact ⟨n, by omega, h4⟩
      · exact ⟨k, Nat.le_refl _, hk, fun m hm => by
          cases hh : g.rc a m b with
          | false => rfl
          | true => exact absurd ⟨m, hm, hh⟩ e⟩
  obtain ⟨n, h1, h2, h3⟩ := key k h
  have hlt : n < g.nr := by
    have h5 := EG.rc_small hl ha h
    rcases Nat.lt_or_ge n g.nr with h6 | h6
    · exact h6
    · have := h3 (g.nr - 1) (by omega)
      rw [h5] at this; cases this
  exact ⟨n, hlt, h1, EG.far_at hlt h2 h3, h2, h3⟩
theorem EG.far_rc {g : EG} {a b n : Nat} (h : g.far a b = n) : g.rc a n b = true ∧ ∀ m, m < n → g.rc a m b = false := by
  unfold EG.far ixB at h
  cases e : (List.range g.nr).find? fun n => g.rc a n ((b : Int).toNat) with
  | none => rw [e] at h; dsimp only at h; omega
  | some i =>
    rw [e] at h
    have : i = n := by dsimp only at h; omega
    subst this
    obtain ⟨h1, _, h2⟩ := List.find?_range_eq_some.1 e
    refine ⟨by simpa using h1, fun m hm => ?_⟩
    have := h2 m hm
    simpa using this
theorem EG.far_neg {g : EG} {a b : Nat} (h : g.far a b < 0) : ∀ m, m < g.nr → g.rc a m b = false := by
  unfold EG.far ixB at h
  cases e : (List.range g.nr).find? fun n => g.rc a n ((b : Int).toNat) with
  | none =>
    intro m hm
    have := List.find?_eq_none.1 e m (List.mem_range.2 hm)
    simpa using this
  | some i => rw [e] at h; dsimp only at h; omega
theorem EG.far_symm {g : EG} (hl : g.inl) {a b : Nat} (ha : a < g.nr) (hb : b < g.nr) : g.far a b = g.far b a := by
  by_cases h : 0 ≤ g.far a b
  · have h1 : g.far a b = ((g.far a b).toNat : Int) := by omega
    obtain ⟨h2, h3⟩ := EG.far_rc h1
    obtain ⟨n, n1, n2, n3, n4, n5⟩ := EG.far_ex hl hb (EG.rc_symm hl h2)
    have h4 : ¬ n < (g.far a b).toNat := fun h5 => by
      have := h3 n h5
      rw [EG.rc_symm hl n4] at this; cases this
    omega
  · have h1 := EG.far_neg (show g.far a b < 0 by omega)
    by_cases h2 : 0 ≤ g.far b a
    · have h3 : g.far b a = ((g.far b a).toNat : Int) := by omega
      obtain ⟨h4, _⟩ := EG.far_rc h3
      have h5 := EG.rc_small hl ha (EG.rc_symm hl h4)
      rw [h1 _ (by omega)] at h5; cases h5
    · unfold EG.far at *
      unfold ixB at *
      split at h <;> split at h2 <;> simp_all
/-- A link says that x and y are one person. -/
def EG.lk (g : EG) (x y : Int) : Bool := (List.range g.nl).any (g.lkB x y)
theorem EG.lk_iff {g : EG} {x y : Int} : g.lk x y = true ↔ g.adj g.nl x y := by
  simp only [EG.lk, List.any_eq_true, List.mem_range, EG.lkB, Bool.and_eq_true, Bool.or_eq_true, decide_eq_true_eq, EG.adj]
  constructor
  · rintro ⟨j, h1, h2, h3⟩
    exact ⟨j, h1, h2, h3.imp id fun h => ⟨h.2, h.1⟩⟩
  · rintro ⟨j, h1, h2, h3⟩
    exact ⟨j, h1, h2, h3.imp id fun h => ⟨h.2, h.1⟩⟩
/-- The next record on the way from x to b. -/
def EG.nxI (g : EG) (b x : Nat) : Int := ixB (fun y => g.lk x y && decide (g.far y b = g.far x b - 1)) g.nr
def EG.nx (g : EG) (b x : Nat) : Nat := (g.nxI b x).toNat
theorem EG.nx_ok {g : EG} (hl : g.inl) {b x n : Nat} (hx : x < g.nr) (h : g.far x b = (n + 1 : Nat)) :
    g.nxI b x = (g.nx b x : Int) ∧ g.nx b x < g.nr ∧ g.lk x (g.nx b x) = true ∧ g.far (g.nx b x) b = n ∧ ∀ y, y < g.nx b x → (g.lk x y && decide (g.far y b = g.far x b - 1)) = false := by
  obtain ⟨h1, h2⟩ := EG.far_rc h
  rcases (EG.rc_left hl).1 h1 with h3 | ⟨y, h3, h4⟩
  · rw [h2 n (by omega)] at h3; cases h3
  have hy := adj_in hl h3
  obtain ⟨m, m1, m2, m3, m4, m5⟩ := EG.far_ex hl (show y < g.nr by omega) h4
  have hm : m = n := by
    rcases Nat.lt_or_ge m n with h5 | h5
    · have := h2 (m + 1) (by omega)
      rw [(EG.rc_left hl).2 (.inr ⟨y, h3, m4⟩)] at this; cases this
    · omega
  subst hm
  have hp : (g.lk x y && decide (g.far y b = g.far x b - 1)) = true := by
    rw [EG.lk_iff.2 h3, h, m3]; simp
  have hex : ∃ k, k < g.nr ∧ (g.lk x k && decide (g.far k b = g.far x b - 1)) = true ∧ ∀ j, j < k → (g.lk x j && decide (g.far j b = g.far x b - 1)) = false := by
    have : ∀ k, k < g.nr → (g.lk x k && decide (g.far k b = g.far x b - 1)) = true → ∃ k, k < g.nr ∧ (g.lk x k && decide (g.far k b = g.far x b - 1)) = true ∧ ∀ j, j < k → (g.lk x j && decide (g.far j b = g.far x b - 1)) = false := by
      intro k
      induction k using Nat.strongRecOn with
      | ind k ih =>
        intro hk hpk
        by_cases e : ∃ j, j < k ∧ (g.lk x j && decide (g.far j b = g.far x b - 1)) = true
        · obtain ⟨j, j1, j2⟩ := e
          exact ih j j1 (by omega) j2
        · exact ⟨k, hk, hpk, fun j hj => by
            cases hh : (g.lk x j && decide (g.far j b = g.far x b - 1)) with
            | false => rfl
            | true => exact absurd ⟨j, hj, hh⟩ e⟩
    exact this y (by omega) hp
  obtain ⟨k, k1, k2, k3⟩ := hex
  have hk : g.nxI b x = k := ixB_at (p := fun y => g.lk x y && decide (g.far y b = g.far x b - 1)) k1 k2 k3
  have hk' : g.nx b x = k := by unfold EG.nx; rw [hk]; omega
  rw [hk']
  simp only [Bool.and_eq_true, decide_eq_true_eq] at k2
  exact ⟨hk, k1, k2.1, by rw [k2.2, h]; omega, k3⟩
/-- The k-th record on the way from a to b. -/
def EG.cu (g : EG) (b a : Nat) : Nat → Nat
  | 0 => a
  | k + 1 => g.nx b (g.cu b a k)
theorem EG.cu_ok {g : EG} (hl : g.inl) {b a n : Nat} (ha : a < g.nr) (h : g.far a b = n) : ∀ k, k ≤ n → g.cu b a k < g.nr ∧ g.far (g.cu b a k) b = (n - k : Nat)
  | 0, _ => ⟨ha, h⟩
  | k + 1, hk => by
    obtain ⟨h1, h2⟩ := EG.cu_ok hl ha h k (by omega)
    have h3 : g.far (g.cu b a k) b = ((n - (k + 1)) + 1 : Nat) := by rw [h2]; congr 1; omega
    obtain ⟨e1, e2, e3, e4, e5⟩ := EG.nx_ok hl h1 h3
    exact ⟨e2, e4⟩
theorem EG.far_self {g : EG} {a : Nat} (ha : a < g.nr) : g.far a a = 0 := EG.far_at (n := 0) (by omega) (by simp [EG.rc]) fun m hm => by omega
theorem EG.far_zero {g : EG} {a b : Nat} (h : g.far a b = 0) : a = b := by
  have := (EG.far_rc (n := 0) h).1
  simp only [EG.rc, decide_eq_true_eq] at this
  omega
theorem EG.cu_eq {g : EG} (hl : g.inl) {b a n : Nat} (ha : a < g.nr) (h : g.far a b = n) {k : Nat} (hk : k ≤ n) : g.cu b a k = b ↔ k = n := by
  obtain ⟨h1, h2⟩ := EG.cu_ok hl ha h k hk
  constructor
  · intro e
    rw [e] at h1 h2
    rw [EG.far_self h1] at h2
    omega
  · intro e
    subst e
    exact EG.far_zero (by rw [h2]; simp)
/-- The way from a to b, its first k + 1 records. -/
def EG.way (g : EG) (a b k : Nat) : List Nat := (List.range (k + 1)).map (g.cu b a)
theorem EG.way_succ (g : EG) (a b k : Nat) : g.way a b (k + 1) = g.way a b k ++ [g.cu b a (k + 1)] := by
  unfold EG.way
  rw [List.range_succ, List.map_append]; rfl
theorem EG.way_len (g : EG) (a b k : Nat) : (g.way a b k).length = k + 1 := by simp [EG.way]
end Go.Gx
/-
  The reference: Why.
-/
set_option linter.unusedVariables false
set_option linter.unusedSimpArgs false
set_option maxRecDepth 20000
set_option maxHeartbeats 4000000
namespace Go.Gx
open Go.RowKit Go.Proofs Go.Proofs.Ytnajladibkpeaaa

theorem ixB_lt (p : Nat → Bool) (n : Nat) : -1 ≤ ixB p n ∧ ixB p n < n := by
  unfold ixB
  split
  · rename_i i h
    have := (List.find?_range_eq_some.1 h).2.1
    have := List.mem_range.1 this
    omega
  · omega
theorem EG.far_lt (g : EG) (a b : Int) : -1 ≤ g.far a b ∧ g.far a b < g.nr := ixB_lt _ _
/-- The error of a register and two records. -/
def EG.wE (g : EG) (a b : Int) : Int := if g.valid then (if g.th a && g.th b && decide (0 ≤ g.far a b) then 0 else 6) else 8
abbrev nilS : SV := .r (.v (.slice none 0 0))
def EG.wS (g : EG) (a b : Int) : SV := if g.wE a b = 0 then .r (.rs 1 ((g.far a b).toNat + 1) (intsR (g.way a.toNat b.toNat (g.far a b).toNat))) else nilS
theorem EG.wS_no {g : EG} {a b : Int} (h : g.wE a b ≠ 0) : g.wS a b = nilS := if_neg h
theorem EG.wS_yes {g : EG} {a b : Nat} {n : Nat} (h : g.wE a b = 0) (hn : g.far a b = n) : g.wS a b = .r (.rs 1 (n + 1) (intsR (g.way a b n))) := by
  unfold EG.wS
  rw [if_pos h, hn]
  simp
theorem way_row (g : EG) {a b k i : Nat} (hi : i < k + 1 + 1) : (if i < k + 1 then SV.i (nth (g.way a b k) i : Nat) else SV.i (g.cu b a (k + 1) : Nat)) = SV.i (nth (g.way a b (k + 1)) i : Nat) := by
  rw [EG.way_succ]
  have := ints_add (l := g.way a b k) (k := g.cu b a (k + 1)) (i := i) (by rw [EG.way_len]; exact hi)
  rw [EG.way_len] at this
  exact this
theorem refWhy21 (g : EG) (h : g.OK) (a b : Int) : Pure Try.prog 21 [g.sv, .i a, .i b] (· = .tup [g.wS a b, .i (g.wE a b)]) := by
  refine Pure.ofSub ?_
  refine pure_of_GC T_ok Try.func21 rfl (by kernel_rfl) (Nat.le_of_ble_eq_true rfl) rfl rfl ?_
  have := h.nr
  simp [go_sem]
  refine call_val (valid49 g h) rfl rfl ?_
  by_cases hv : g.valid = true
  rotate_left
  · have hv' : g.valid = false := by simpa using hv
    have e : g.wE a b = 8 := by simp [EG.wE, hv']
    rw [EG.wS_no (by rw [e]; decide), e]
    simp [go_sem, hv']
  have hl := EG.valid_inl hv
  simp [go_sem, hv]
  refine call_val (there50 g h a) rfl rfl ?_
  by_cases ha : g.th a = true
  rotate_left
  · have ha' : g.th a = false := by simpa using ha
    have e : g.wE a b = 6 := by simp [EG.wE, hv, ha']
    rw [EG.wS_no (by rw [e]; decide), e]
    simp [go_sem, ha']
  simp [go_sem, ha]
  refine call_val (there50 g h b) rfl rfl ?_
  by_cases hb : g.th b = true
  rotate_left
  · have hb' : g.th b = false := by simpa using hb
    have e : g.wE a b = 6 := by simp [EG.wE, hv, hb']
    rw [EG.wS_no (by rw [e]; decide), e]
    simp [go_sem, hb']
  have ia := EG.th_iff.1 ha
  have ib := EG.th_iff.1 hb
  obtain ⟨a, rfl⟩ : ∃ n : Nat, a = n := ⟨a.toNat, by omega⟩
  obtain ⟨b, rfl⟩ : ∃ n : Nat, b = n := ⟨b.toNat, by omega⟩
  have ha1 : a < g.nr := by omega
  have hb1 : b < g.nr := by omega
  simp [go_sem, hb]
  refine call_val (far57 g h hl a b ia.1 ia.2.1 ib.1 ib.2.1) rfl rfl ?_
  by_cases hf : g.far a b < 0
  · have e : g.wE a b = 6 := by
      have : ¬ 0 ≤ g.far a b := by omega
      simp [EG.wE, hv, ha, hb, this]
    rw [EG.wS_no (by rw [e]; decide), e]
    simp [go_sem, hf]
  have e : g.wE a b = 0 := by
    have : 0 ≤ g.far a b := by omega
    simp [EG.wE, hv, ha, hb, this]
  obtain ⟨n, hn⟩ : ∃ n : Nat, g.far a b = n := ⟨(g.far a b).toNat, by omega⟩
  rw [EG.wS_yes e hn, e]
  simp [go_sem, hf]
  have hnr := (g.far_lt a b).2
  rw [hn] at hnr
  refine GLoop_s T_ok (α := Nat) (fun k => [(1, .i (g.cu b a k : Nat)), (2, .i b), (3, .ptr 0 0 3 0), (8, .sl 1 1 0 (k + 1) none)]) (fun k => [g.bx, some (.vec 3 1 (k + 1) (ints (g.way a b k)))]) 2 (fun k => k ≤ n) (fun k => n - k) 0 (fun _ => rfl) (by simp) (by simp [go_sem, EG.cu]) (by
    simp [go_sem]
    simp [nth, EG.way, EG.cu]) ?_
  intro k J hi
  obtain ⟨c1, c2⟩ := EG.cu_ok hl ha1 hn k hi
  have ceq := EG.cu_eq hl ha1 hn hi
  generalize hx : g.cu b a k = x at *
  by_cases hk : k = n
  · have hxb : x = b := ceq.2 hk
    subst hk
    simp [go_sem, hxb]
  have hne : ¬ (x : Int) = (b : Int) := fun e => hk (ceq.1 (by omega))
  have hfx : g.far x b = ((n - (k + 1)) + 1 : Nat) := by rw [c2]; congr 1; omega
  obtain ⟨y1, y2, y3, y4, y5⟩ := EG.nx_ok hl c1 hfx
  have hcu : g.cu b a (k + 1) = g.nx b x := by simp only [EG.cu]; rw [hx]
  generalize hy : g.nx b x = T at *
  simp [go_sem, hne]
  refine call_val (far57 g h hl x b (by omega) (by omega) ib.1 ib.2.1) rfl rfl ?_
  simp [go_sem]
  refine GLoop_s T_ok (α := Nat) (fun y => [(1, .i x), (2, .i b), (3, .ptr 0 0 3 0), (8, .sl 1 1 0 (k + 1) none), (9, .i (g.far x b)), (10, .i y)]) (fun _ => [g.bx, some (.vec 3 1 (k + 1) (ints (g.way a b k)))]) 2 (fun y => y ≤ T) (fun y => T - y) 0 (fun _ => rfl) (by simp) (by simp [go_sem]) (by simp [go_sem]) ?_
  intro y J2 hy2
  simp [go_sem]
  have hlk := linked58 g h x y
  have hfar := far57 g h hl y b (by omega) (by omega) ib.1 ib.2.1
  have hfd : g.far x b = (n - (k + 1) : Nat) + 1 := by rw [hfx]; omega
  by_cases hyT : y = T
  · subst hyT
    refine call_val (hlk.val (v' := .b true) (by rw [← EG.lk, y3])) rfl rfl ?_
    simp [go_sem]
    refine call_val hfar rfl rfl ?_
    simp [go_sem, y4, hfd]
    refine ⟨by omega, by omega, k + 1, by omega, by omega, ⟨by rw [hcu], rfl⟩, by omega, fun i hi => ?_⟩
    unfold ints
    rw [← way_row g hi, hcu]
    unfold joined
    by_cases h5 : i < k + 1
    · rw [if_pos h5, if_pos h5]; rfl
    · have h6 : i - (k + 1) = 0 := by omega
      rw [if_neg h5, if_neg h5, if_pos (by omega), h6]; rfl
  have hyl : y < T := by omega
  have hno := y5 y hyl
  by_cases hc : g.lk x y = true
  · refine call_val (hlk.val (v' := .b true) (by rw [← EG.lk, hc])) rfl rfl ?_
    simp [go_sem]
    refine call_val hfar rfl rfl ?_
    have hd : ¬ g.far y b = g.far x b - 1 := by
      rw [hc] at hno
      simpa using hno
    have hfl := g.far_lt y b
    simp [go_sem, hd]
    exact ⟨by omega, by omega, y + 1, by omega, by omega, by omega⟩
  · have hc' : g.lk x y = false := by simpa using hc
    refine call_val (hlk.val (v' := .b false) (by rw [← EG.lk, hc'])) rfl rfl ?_
    simp [go_sem]
    exact ⟨by omega, y + 1, by omega, by omega, by omega⟩
end Go.Gx
