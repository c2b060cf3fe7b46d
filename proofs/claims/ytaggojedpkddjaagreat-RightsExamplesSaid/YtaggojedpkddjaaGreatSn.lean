/-
  slices.BinarySearch.
-/
import Derived.Test.YtaggojedpkddjaaGreatSj
set_option linter.unusedVariables false
set_option linter.unusedSimpArgs false
set_option maxRecDepth 20000
set_option maxHeartbeats 2000000
namespace Go.Gx.Rg
open Go.RowKit Go.Proofs Go.Proofs.YtaggojedpkddjaaGreat

theorem isNaN129 (x : Int) : Pure Tryz.prog 67 [.i x] (· = .b false) := by
  refine pure_of_GC T_ok Tryz.func67 rfl (by kernel_rfl) (Nat.le_of_ble_eq_true rfl) rfl rfl ?_
  simp [go_sem]
theorem less128 (x y : Int) : Pure Tryz.prog 66 [.i x, .i y] (· = .b (decide (x < y))) := by
  refine pure_of_GC T_ok Tryz.func66 rfl (by kernel_rfl) (Nat.le_of_ble_eq_true rfl) rfl rfl ?_
  simp [go_sem]
  refine call_val (isNaN132 x) rfl rfl ?_
  simp [go_sem]
theorem search91 (n : Nat) (hn : (n : Int) < 2 ^ 61) (y : Nat → Int) (t : Int) (hm : ∀ a b, a < b → b < n → y a < y b) :
    Pure Tryz.prog 23 [.r (.rs 1 n fun i _ => .i (y i)), .i t] (· = .tup [.i (bnd (fun i => y i - t) n : Nat), .b (fnd (fun i => y i - t) n)]) := by
  refine pure_of_GC T_ok Tryz.func23 rfl (by kernel_rfl) (Nat.le_of_ble_eq_true rfl) rfl rfl ?_
  simp [go_sem]
  refine GLoop_of T_ok (α := Nat × Nat) (fun x => [(0, .r (.rs 1 n fun i _ => .i (y i))), (1, .i t), (6, .i n), (7, .i x.1), (8, .i x.2)]) (fun _ => []) 0
    (fun x => x.1 ≤ x.2 ∧ x.2 ≤ n ∧ (∀ j, j < x.1 → y j - t < 0) ∧ ∀ j, x.2 ≤ j → j < n → 0 ≤ y j - t) (fun x => x.2 - x.1) (0, n) (fun _ => rfl) (by simp; omega) (by simp [go_sem]) (by simp [go_sem]) ?_
  rintro ⟨i, j⟩ J ⟨h1, h2, h3, h4⟩
  dsimp only at h1 h2 h3 h4
  simp [go_sem]
  split
  · rename_i hlt
    refine ⟨by omega, ?_⟩
    rw [mid_eq (by omega)]
    generalize hh : (i + j) / 2 = h
    have hb : i ≤ h ∧ h < j := by omega
    refine ⟨by omega, by simp; omega, ?_⟩
    refine call_val (less128 (y h) t) rfl rfl ?_
    simp [go_sem]
    split
    · rename_i hc
      refine ⟨by omega, h + 1, j, ⟨by omega, h2, fun k hk => ?_, fun k a b => by have := h4 k a b; omega⟩, by omega, by simp⟩
      by_cases hkh : k = h
      · subst hkh; omega
      · have := hm k h (by omega) (by omega); omega
    · rename_i hc
      refine ⟨i, h, ⟨by omega, by omega, h3, fun k hk hkn => ?_⟩, by omega, by simp⟩
      by_cases hkh : k = h
      · subst hkh; omega
      · have := hm h k (by omega) hkn; omega
  · rename_i hge
    have hij : i = j := by omega
    subst hij
    have hbd := bnd_eq (c := fun i => y i - t) h2 h3 h4
    by_cases hin : i < n
    · by_cases he : y i = t
      · simp [go_sem, hin, he]
        simp [fnd, hbd, hin, he]
      · simp [go_sem, hin, he]
        refine call_val (isNaN129 (y i)) rfl rfl ?_
        simp [go_sem]
        simp [fnd, hbd, hin]
        omega
    · simp [go_sem, hin]
      simp [fnd, hbd, hin]
end Go.Gx.Rg
