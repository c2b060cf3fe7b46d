/-
  slices.Insert.
-/
import Derived.Test.YtaggojedpkddjaaGreatK5
import Derived.Test.YtaggojedpkddjaaGreatRc
set_option linter.unusedVariables false
set_option linter.unusedSimpArgs false
set_option maxRecDepth 20000
set_option maxHeartbeats 2000000
namespace Go.Gx.Rg
open Go.RowKit Go.Proofs Go.Proofs.YtaggojedpkddjaaGreat

def insR (get one : Nat → Nat → RV) (i : Nat) : Nat → Nat → RV := fun r c => if r < i then get r c else if r = i then one 0 c else get (r - 1) c
theorem insert133 (n i : Nat) (hn : n ≤ 1000000) (hi : i ≤ n) (get one : Nat → Nat → RV) :
    Own Tryz.prog 75 [.vec 49 3 n fun r c => .r (get r c), .vec 49 3 1 fun r c => .r (one r c)] [.sl 0 3 0 n none, .i i, .sl 1 3 0 1 none] (.sl 0 3 0 (n + 1) none) [.vec 49 3 (n + 1) fun r c => .r (insR get one i r c)] := by
  refine own_of_GC T_ok Tryz.func75 rfl (by kernel_rfl) (Nat.le_of_ble_eq_true rfl) rfl rfl ?_
  simp [go_sem]
  refine ⟨hi, ?_⟩
  by_cases hin : i = n
  · subst hin
    rw [if_pos rfl]
    refine ⟨by omega, [0], by simp, fun N => ⟨?_, ?_⟩⟩
    · simp [go_sem]
    · simp [go_sem]
      intro r c hr hc
      unfold joined insR
      by_cases h : r < i
      · rw [if_pos h, if_pos h]; rfl
      · rw [if_neg h, if_pos hr, if_neg h, if_pos (by omega), show r - i = 0 from by omega]; rfl
  rw [if_neg (by omega)]
  refine ⟨by omega, ?_⟩
  refine GOp_cap T_ok (ref := 0) (kk := 3) (n := n) (by simp [go_sem]) (M := memR _) rfl rfl (by simp [dOK]) ?_
  intro C hC _ hC2
  simp only [maxLen] at hC2
  by_cases hc : C < n + 1
  · have hc' : (C : Int) < (n : Int) + 1 := by omega
    left
    simp [go_sem, hc', hi]
    refine ⟨by omega, by omega, ⟨by omega, by omega, by omega⟩, by omega, ?_⟩
    refine GDraw_of T_ok (by kernel_rfl) 8 (by kernel_rfl) rfl rfl ?_
    simp [go_sem, hi]
    have e1 : i + (n + 1 - i) = n + 1 := by omega
    refine ⟨by omega, ⟨by omega, by omega⟩, by omega, [2], by simp, fun N => ⟨?_, ?_⟩⟩
    · simp [go_sem, e1]
    · simp [go_sem]
      refine ⟨by omega, fun r c hr hc => ?_⟩
      unfold insR joined
      repeat' split
      all_goals first | (exfalso; omega) | rfl | exact congrArg SV.r (congrFun (congrArg get (by omega)) _) | exact congrArg SV.r (congrFun (congrArg one (by omega)) _)
  · have hc' : ¬ (C : Int) < (n : Int) + 1 := by omega
    have hn1 : ¬ (n : Int) + 1 ≤ (n : Int) := by omega
    right
    simp [go_sem, hc', hi, hn1]
    refine ⟨by omega, ⟨by omega, by omega⟩, by omega, by omega, ?_⟩
    refine callK_apart T_ok Tryz.func97 (by kernel_rfl) (by kernel_rfl) (by kernel_rfl) (tS := 28) (tR := 4) (by kernel_rfl) (el := 49) rfl rfl (q := 1) (r := 0) (hq := rfl) (hr := rfl) (by decide) (by omega) (by omega) (by omega) ?_
    simp [go_sem, hi, hc']
    refine GDraw_of T_ok (by kernel_rfl) 8 (by kernel_rfl) rfl rfl ?_
    simp [go_sem, hi]
    refine ⟨by omega, by omega, by omega, ⟨by omega, by omega⟩, by omega, by omega, [0], by simp, fun N => ⟨?_, ?_⟩⟩
    · simp [go_sem]
    · simp [go_sem]
      refine ⟨by omega, fun r c hr hc => ?_⟩
      unfold insR
      repeat' split
      all_goals first | (exfalso; omega) | rfl | exact congrArg SV.r (congrFun (congrArg get (by omega)) _) | exact congrArg SV.r (congrFun (congrArg one (by omega)) _)

theorem insert134 (n i : Nat) (hn : n ≤ 1000000) (hi : i ≤ n) (get one : Nat → Nat → RV) :
    Own Tryz.prog 80 [.vec 54 5 n fun r c => .r (get r c), .vec 54 5 1 fun r c => .r (one r c)] [.sl 0 5 0 n none, .i i, .sl 1 5 0 1 none] (.sl 0 5 0 (n + 1) none) [.vec 54 5 (n + 1) fun r c => .r (insR get one i r c)] := by
  refine own_of_GC T_ok Tryz.func80 rfl (by kernel_rfl) (Nat.le_of_ble_eq_true rfl) rfl rfl ?_
  simp [go_sem]
  refine ⟨hi, ?_⟩
  by_cases hin : i = n
  · subst hin
    rw [if_pos rfl]
    refine ⟨by omega, [0], by simp, fun N => ⟨?_, ?_⟩⟩
    · simp [go_sem]
    · simp [go_sem]
      intro r c hr hc
      unfold joined insR
      by_cases h : r < i
      · rw [if_pos h, if_pos h]; rfl
      · rw [if_neg h, if_pos hr, if_neg h, if_pos (by omega), show r - i = 0 from by omega]; rfl
  rw [if_neg (by omega)]
  refine ⟨by omega, ?_⟩
  refine GOp_cap T_ok (ref := 0) (kk := 5) (n := n) (by simp [go_sem]) (M := memR _) rfl rfl (by simp [dOK]) ?_
  intro C hC _ hC2
  simp only [maxLen] at hC2
  by_cases hc : C < n + 1
  · have hc' : (C : Int) < (n : Int) + 1 := by omega
    left
    simp [go_sem, hc', hi]
    refine ⟨by omega, by omega, ⟨by omega, by omega, by omega⟩, by omega, ?_⟩
    refine GDraw_of T_ok (by kernel_rfl) 8 (by kernel_rfl) rfl rfl ?_
    simp [go_sem, hi]
    have e1 : i + (n + 1 - i) = n + 1 := by omega
    refine ⟨by omega, ⟨by omega, by omega⟩, by omega, [2], by simp, fun N => ⟨?_, ?_⟩⟩
    · simp [go_sem, e1]
    · simp [go_sem]
      refine ⟨by omega, fun r c hr hc => ?_⟩
      unfold insR joined
      repeat' split
      all_goals first | (exfalso; omega) | rfl | exact congrArg SV.r (congrFun (congrArg get (by omega)) _) | exact congrArg SV.r (congrFun (congrArg one (by omega)) _)
  · have hc' : ¬ (C : Int) < (n : Int) + 1 := by omega
    have hn1 : ¬ (n : Int) + 1 ≤ (n : Int) := by omega
    right
    simp [go_sem, hc', hi, hn1]
    refine ⟨by omega, ⟨by omega, by omega⟩, by omega, by omega, ?_⟩
    refine callK_apart T_ok Tryz.func99 (by kernel_rfl) (by kernel_rfl) (by kernel_rfl) (tS := 30) (tR := 4) (by kernel_rfl) (el := 54) rfl rfl (q := 1) (r := 0) (hq := rfl) (hr := rfl) (by decide) (by omega) (by omega) (by omega) ?_
    simp [go_sem, hi, hc']
    refine GDraw_of T_ok (by kernel_rfl) 8 (by kernel_rfl) rfl rfl ?_
    simp [go_sem, hi]
    refine ⟨by omega, by omega, by omega, ⟨by omega, by omega⟩, by omega, by omega, [0], by simp, fun N => ⟨?_, ?_⟩⟩
    · simp [go_sem]
    · simp [go_sem]
      refine ⟨by omega, fun r c hr hc => ?_⟩
      unfold insR
      repeat' split
      all_goals first | (exfalso; omega) | rfl | exact congrArg SV.r (congrFun (congrArg get (by omega)) _) | exact congrArg SV.r (congrFun (congrArg one (by omega)) _)

theorem insert92 (n i : Nat) (hn : n ≤ 1000000) (hi : i ≤ n) (get one : Nat → Nat → RV) :
    Own Tryz.prog 24 [.vec 3 1 n fun r c => .r (get r c), .vec 3 1 1 fun r c => .r (one r c)] [.sl 0 1 0 n none, .i i, .sl 1 1 0 1 none] (.sl 0 1 0 (n + 1) none) [.vec 3 1 (n + 1) fun r c => .r (insR get one i r c)] := by
  refine own_of_GC T_ok Tryz.func24 rfl (by kernel_rfl) (Nat.le_of_ble_eq_true rfl) rfl rfl ?_
  simp [go_sem]
  refine ⟨hi, ?_⟩
  by_cases hin : i = n
  · subst hin
    rw [if_pos rfl]
    refine ⟨by omega, [0], by simp, fun N => ⟨?_, ?_⟩⟩
    · simp [go_sem]
    · simp [go_sem]
      intro r hr
      unfold joined insR
      by_cases h : r < i
      · rw [if_pos h, if_pos h]; rfl
      · rw [if_neg h, if_pos hr, if_neg h, if_pos (by omega), show r - i = 0 from by omega]; rfl
  rw [if_neg (by omega)]
  refine ⟨by omega, ?_⟩
  refine GOp_cap T_ok (ref := 0) (kk := 1) (n := n) (by simp [go_sem]) (M := memR _) rfl rfl (by simp [dOK]) ?_
  intro C hC _ hC2
  simp only [maxLen] at hC2
  by_cases hc : C < n + 1
  · have hc' : (C : Int) < (n : Int) + 1 := by omega
    left
    simp [go_sem, hc', hi]
    refine ⟨by omega, by omega, ⟨by omega, by omega, by omega⟩, by omega, ?_⟩
    refine GDraw_of T_ok (by kernel_rfl) 8 (by kernel_rfl) rfl rfl ?_
    simp [go_sem, hi]
    have e1 : i + (n + 1 - i) = n + 1 := by omega
    refine ⟨by omega, ⟨by omega, by omega⟩, by omega, [2], by simp, fun N => ⟨?_, ?_⟩⟩
    · simp [go_sem, e1]
    · simp [go_sem]
      refine ⟨by omega, fun r hr => ?_⟩
      unfold insR joined
      repeat' split
      all_goals first | (exfalso; omega) | rfl | exact congrArg SV.r (congrFun (congrArg get (by omega)) _) | exact congrArg SV.r (congrFun (congrArg one (by omega)) _)
  · have hc' : ¬ (C : Int) < (n : Int) + 1 := by omega
    have hn1 : ¬ (n : Int) + 1 ≤ (n : Int) := by omega
    right
    simp [go_sem, hc', hi, hn1]
    refine ⟨by omega, ⟨by omega, by omega⟩, by omega, by omega, ?_⟩
    refine callK_apart T_ok Tryz.func68 (by kernel_rfl) (by kernel_rfl) (by kernel_rfl) (tS := 34) (tR := 4) (by kernel_rfl) (el := 3) rfl rfl (q := 1) (r := 0) (hq := rfl) (hr := rfl) (by decide) (by omega) (by omega) (by omega) ?_
    simp [go_sem, hi, hc']
    refine GDraw_of T_ok (by kernel_rfl) 8 (by kernel_rfl) rfl rfl ?_
    simp [go_sem, hi]
    refine ⟨by omega, by omega, by omega, ⟨by omega, by omega⟩, by omega, by omega, [0], by simp, fun N => ⟨?_, ?_⟩⟩
    · simp [go_sem]
    · simp [go_sem]
      refine ⟨by omega, fun r hr => ?_⟩
      unfold insR
      repeat' split
      all_goals first | (exfalso; omega) | rfl | exact congrArg SV.r (congrFun (congrArg get (by omega)) _) | exact congrArg SV.r (congrFun (congrArg one (by omega)) _)

end Go.Gx.Rg
