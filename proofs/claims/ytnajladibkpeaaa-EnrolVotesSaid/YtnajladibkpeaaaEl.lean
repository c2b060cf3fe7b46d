/-
  Person and Apart, of the program and of the reference.
-/
import Derived.Test.YtnajladibkpeaaaEk
set_option linter.unusedVariables false
set_option linter.unusedSimpArgs false
set_option maxRecDepth 20000
set_option maxHeartbeats 4000000
namespace Go.Gx
open Go.RowKit Go.Proofs Go.Proofs.Ytnajladibkpeaaa

def EG.pE (g : EG) (a : Int) : Int := if g.valid then (if g.th a then 0 else 6) else 8
def EG.pE2 (g : EG) (a b : Int) : Int := if g.valid then (if g.th a && g.th b then 0 else 6) else 8
theorem EG.kE1 {g : EG} {a : Int} : g.kE 1 (fun _ => a) = g.pE a := by simp [EG.kE, EG.pE]
theorem EG.kE2 {g : EG} {a b : Int} : g.kE 2 (fun i => if i = 0 then a else b) = g.pE2 a b := by
  unfold EG.kE EG.pE2
  have : (List.range 2).all (fun i => g.th (if i = 0 then a else b)) = (g.th a && g.th b) := by
    simp [List.range_succ]
  rw [this]
theorem EG.pE_cases (g : EG) (a : Int) : (g.valid = true ∧ g.th a = true ∧ g.pE a = 0) ∨ (g.pE a ≠ 0) := by
  unfold EG.pE
  split
  · split
    · exact .inl ⟨by assumption, by assumption, rfl⟩
    · exact .inr (by decide)
  · exact .inr (by decide)
theorem EG.pE2_cases (g : EG) (a b : Int) : (g.valid = true ∧ g.th a = true ∧ g.th b = true ∧ g.pE2 a b = 0) ∨ (g.pE2 a b ≠ 0) := by
  unfold EG.pE2
  split
  · split
    · rename_i h1 h2
      simp only [Bool.and_eq_true] at h2
      exact .inl ⟨h1, h2.1, h2.2, rfl⟩
    · exact .inr (by decide)
  · exact .inr (by decide)
theorem person13 (g : EG) (h : g.OK) (a : Int) : Pure Try.prog 13 [g.sv, .i a] (· = .tup [.i (if g.pE a = 0 then g.pm g.nl a else 0), .i (g.pE a)]) := by
  refine pure_of_GC T_ok Try.func13 rfl (by kernel_rfl) (Nat.le_of_ble_eq_true rfl) rfl rfl ?_
  simp [go_sem]
  have hk := fun get hg => known48 g h 1 (by decide) (fun _ => a) get hg
  rw [EG.kE1] at hk
  rcases g.pE_cases a with ⟨hv, ht, he⟩ | he
  · simp only [EG.kS, EG.kR, if_pos he] at hk
    refine callK_own [1] (hk (fun i j => [SV.i a][i + j]?.getD (.r .any)) fun i hi => ?_) (by simp) rfl (by simp [go_sem]) ?_
    · have : i = 0 := by omega
      subst this; rfl
    simp [go_sem, he, ht]
  · simp only [EG.kS, EG.kR, if_neg he] at hk
    refine callK_own [1] (hk (fun i j => [SV.i a][i + j]?.getD (.r .any)) fun i hi => ?_) (by simp) rfl (by simp [go_sem]) ?_
    · have : i = 0 := by omega
      subst this; rfl
    simp [go_sem, he]
theorem number51 (g : EG) (h : g.OK) (hl : g.inl) (a : Int) (h0 : 0 ≤ a) (h1 : a < g.nr) : Pure Try.prog 51 [g.sv, .i a] (· = .i (g.num a)) := by
  refine pure_of_GC T_ok Try.func51 rfl (by kernel_rfl) (Nat.le_of_ble_eq_true rfl) rfl rfl ?_
  have := h.nr
  simp [go_sem]
  refine call_val (reached107 g h hl a g.nr h0 h1 (by omega)) rfl rfl ?_
  simp [go_sem]
  refine GLoop_of T_ok (α := Nat) (fun k => [(1, .i a), (5, g.rcs a g.nr), (6, .i k)]) (fun _ => [g.bx]) 1 (fun k => k ≤ g.nr ∧ ∀ j, j < k → g.rc a g.nr j = false) (fun k => g.nr - k) 0 (fun _ => rfl) (by simp) (by simp [go_sem]) (by simp [go_sem]) ?_
  intro k J hi
  by_cases hlt : k < g.nr
  · by_cases hc : g.rc a g.nr k = true
    · simp [go_sem, hlt, hc]
      have : (List.range g.nr).find? (g.rc a g.nr) = some k := by
        rw [List.find?_range_eq_some]
        exact ⟨hc, List.mem_range.2 hlt, fun j hj => by rw [hi.2 j hj]; rfl⟩
      rw [EG.num, this]
    · have hc' : g.rc a g.nr k = false := by simpa using hc
      simp [go_sem, hlt, hc']
      refine ⟨by omega, k + 1, ⟨by omega, fun j hj => ?_⟩, by omega, by omega⟩
      by_cases hjk : j = k
      · subst hjk; exact hc'
      · exact hi.2 j (by omega)
  · simp [go_sem, hlt]
    have : (List.range g.nr).find? (g.rc a g.nr) = none := by
      rw [List.find?_eq_none]
      intro j hj
      rw [hi.2 j (by have := List.mem_range.1 hj; omega)]; simp
    rw [EG.num, this]
theorem refPerson14 (g : EG) (h : g.OK) (a : Int) : Pure Try.prog 14 [g.sv, .i a] (· = .tup [.i (if g.pE a = 0 then g.num a else 0), .i (g.pE a)]) := by
  refine pure_of_GC T_ok Try.func14 rfl (by kernel_rfl) (Nat.le_of_ble_eq_true rfl) rfl rfl ?_
  simp [go_sem]
  refine call_val (valid49 g h) rfl rfl ?_
  by_cases hv : g.valid = true
  rotate_left
  · have hv' : g.valid = false := by simpa using hv
    have e : g.pE a = 8 := by simp [EG.pE, hv']
    simp [go_sem, hv', e]
  simp [go_sem, hv]
  refine call_val (there50 g h a) rfl rfl ?_
  by_cases ht : g.th a = true
  rotate_left
  · have ht' : g.th a = false := by simpa using ht
    have e : g.pE a = 6 := by simp [EG.pE, hv, ht']
    simp [go_sem, ht', e]
  have e : g.pE a = 0 := by simp [EG.pE, hv, ht]
  have h1 := EG.th_iff.1 ht
  simp [go_sem, ht, e]
  refine call_val (number51 g h (EG.valid_inl hv) a h1.1 h1.2.1) rfl rfl ?_
  simp [go_sem]
end Go.Gx
