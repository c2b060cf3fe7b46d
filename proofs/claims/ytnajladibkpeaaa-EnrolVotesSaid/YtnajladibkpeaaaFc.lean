/-
  Lists of numbers compared; what is not great is small; the law EnrolReasons.
-/
import Derived.Test.YtnajladibkpeaaaFb
set_option linter.unusedVariables false
set_option linter.unusedSimpArgs false
set_option maxRecDepth 20000
set_option maxHeartbeats 4000000
namespace Go.Gx
open Go.RowKit Go.Proofs Go.Proofs.Ytnajladibkpeaaa

theorem sameInts24 (n m : Nat) (hn : (n : Int) < 2 ^ 61) (hm : (m : Int) < 2 ^ 61) (x y : Nat → Nat → RV) (u v : Nat → Int) (hx : ∀ i, i < n → x i 0 = .i (u i)) (hy : ∀ i, i < m → y i 0 = .i (v i)) :
    Pure Try.prog 24 [.r (.rs 1 n x), .r (.rs 1 m y)] (· = .b (decide (n = m) && (List.range n).all fun i => decide (u i = v i))) := by
  refine pure_of_GC T_ok Try.func24 rfl (by kernel_rfl) (Nat.le_of_ble_eq_true rfl) rfl rfl ?_
  by_cases h : (n : Int) = m
  rotate_left
  · have : ¬ n = m := by omega
    simp [go_sem, h]; simp [this]
  have h' : n = m := by omega
  subst h'
  simp [go_sem]
  refine GLoop_of T_ok (α := Nat) (fun k => [(0, .r (.rs 1 n x)), (1, .r (.rs 1 n y)), (5, .i k)]) (fun _ => []) 0 (fun k => k ≤ n ∧ ∀ j, j < k → u j = v j) (fun k => n - k) 0 (fun _ => rfl) (by simp) (by simp [go_sem]) (by simp [go_sem]) ?_
  intro k J hi
  by_cases hlt : k < n
  · simp [go_sem, hlt]
    refine GDraw_all T_ok (by kernel_rfl) (by kernel_rfl) ?_
    by_cases he : u k = v k
    · simp [go_sem, hx k hlt, hy k hlt, he]
      refine ⟨hlt, by omega, k + 1, ⟨by omega, fun j hj => ?_⟩, by omega, by omega⟩
      by_cases e : j = k
      · subst e; exact he
      · exact hi.2 j (by omega)
    · simp [go_sem, hx k hlt, hy k hlt, he]
      exact ⟨hlt, k, hlt, he⟩
  · simp [go_sem, hlt]
    exact fun j hj => hi.2 j (by omega)
theorem sameNil24 : Pure Try.prog 24 [nilS, nilS] (· = .b true) := by
  refine pure_of_GC T_ok Try.func24 rfl (by kernel_rfl) (Nat.le_of_ble_eq_true rfl) rfl rfl ?_
  simp [go_sem]
  refine GLoop_of T_ok (α := Unit) (fun k => [(0, nilS), (1, nilS), (5, .i 0)]) (fun _ => []) 0 (fun k => True) (fun k => 0) () (fun _ => rfl) trivial (by simp [go_sem]) (by simp [go_sem]) ?_
  intro k J hi
  simp [go_sem]
theorem great12' (g : EG) : Pure Try.prog 12 [g.sv] (· = .b g.great) := by
  refine pure_of_GC T_ok Try.func12 rfl (by kernel_rfl) (Nat.le_of_ble_eq_true rfl) rfl rfl ?_
  by_cases h1 : 30 < g.nr
  · have h1' : 30 < (g.nr : Int) := by omega
    simp [go_sem, h1', EG.great, h1]
  have h1' : ¬ 30 < (g.nr : Int) := by omega
  by_cases h2 : 60 < g.nl
  · have h2' : 60 < (g.nl : Int) := by omega
    simp [go_sem, h1', h2', EG.great, h2]
  have h2' : ¬ 60 < (g.nl : Int) := by omega
  by_cases h3 : 45 < g.nc
  · have h3' : 45 < (g.nc : Int) := by omega
    simp [go_sem, h1', h2', h3', EG.great, h3]
  have h3' : ¬ 45 < (g.nc : Int) := by omega
  simp [go_sem, h1', h2', h3']
  refine GLoop_of T_ok (α := Nat) (fun k => [(1, .ptr 0 0 3 0), (3, .i k)]) (fun _ => [g.bx]) 1 (fun k => k ≤ g.nc ∧ ∀ j, j < k → ¬ 5 < (g.c j).nv) (fun k => g.nc - k) 0 (fun _ => rfl) (by simp) (by simp [go_sem]) (by simp [go_sem]) ?_
  intro k J hi
  by_cases hlt : k < g.nc
  · by_cases h5 : 5 < (g.c k).nv
    · have h5' : 5 < ((g.c k).nv : Int) := by omega
      simp [go_sem, hlt, h5']
      simp [EG.great]
      exact .inr ⟨k, hlt, h5⟩
    · have h5' : ¬ 5 < ((g.c k).nv : Int) := by omega
      simp [go_sem, hlt, h5']
      refine ⟨by omega, k + 1, ⟨by omega, fun j hj => ?_⟩, by omega, by simp⟩
      by_cases hjk : j = k
      · subst hjk; omega
      · have := hi.2 j (by omega)
        omega
  · simp [go_sem, hlt]
    simp only [EG.great, h1, h2, h3]
    simp
    intro x hx
    have := hi.2 x (by omega)
    omega
theorem EG.OK_of {g : EG} (h : g.great = false) : g.OK ∧ g.nr ≤ 30 ∧ g.nl ≤ 60 ∧ g.nc ≤ 45 ∧ ∀ i, i < g.nc → (g.c i).nv ≤ 5 := by
  simp [EG.great] at h
  obtain ⟨⟨⟨h1, h2⟩, h3⟩, h4⟩ := h
  exact ⟨⟨by omega, by omega, by omega, fun i hi => by have := h4 i hi; omega⟩, h1, h2, h3, h4⟩
theorem law4 (g : EG) (a b : Int) (_ : -9223372036854775808 ≤ a) (_ : a ≤ 9223372036854775807) (_ : -9223372036854775808 ≤ b) (_ : b ≤ 9223372036854775807) : Pure Try.prog 4 [g.sv, .i a, .i b] (· = .b true) := by
  refine pure_of_GC T_ok Try.func4 rfl (by kernel_rfl) (Nat.le_of_ble_eq_true rfl) rfl rfl ?_
  simp [go_sem]
  refine call_val (great12' g) rfl rfl ?_
  by_cases hg : g.great = true
  · simp [go_sem, hg]
  obtain ⟨h, hr, hl, -, -⟩ := EG.OK_of (by simpa using hg)
  have w1 := why20 g h (by omega) a b
  have w2 := refWhy21 g h a b
  have hcl : (SV.tup [g.wS a b, .i (g.wE a b)]).closed = true := by
    unfold EG.wS
    split <;> rfl
  have hsame : Pure Try.prog 24 [g.wS a b, g.wS a b] (· = .b true) := by
    unfold EG.wS
    split
    · have hf := (g.far_lt a b).2
      exact (sameInts24 _ _ (by omega) (by omega) _ _ (fun i => nth (g.way a.toNat b.toNat (g.far a b).toNat) i) (fun i => nth (g.way a.toNat b.toNat (g.far a b).toNat) i) (fun i hi => rfl) (fun i hi => rfl)).val (by simp)
    · exact sameNil24
  have hwc : SV.closedL [g.wS a b, g.wS a b] = true := by
    unfold EG.wS
    split <;> rfl
  have a1 := Apart22 g h a b
  have a2 := refApart23 g h a b
  obtain ⟨x, y, z, hx⟩ : ∃ x y z, g.lv (g.apI a b) = .agg [.i x, .i y, .b z] := by
    unfold EG.lv
    split
    · exact ⟨_, _, _, rfl⟩
    · exact ⟨_, _, _, rfl⟩
  rw [hx] at a1 a2
  generalize g.wS a b = w at *
  generalize g.wE a b = e1 at *
  generalize g.apE a b = e2 at *
  simp [go_sem, hg]
  refine call_val w1 rfl hcl ?_
  simp [go_sem]
  refine call_val w2 rfl hcl ?_
  simp [go_sem]
  refine call_val a1 rfl rfl ?_
  simp [go_sem]
  refine call_val a2 rfl rfl ?_
  simp [go_sem]
  refine call_val hsame hwc rfl ?_
  simp [go_sem]
end Go.Gx
