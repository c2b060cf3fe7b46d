/-
  Contracts: binary search; lists of ints.
-/
import Derived.Test.YtaggojedpkddjaaGreatRj
set_option linter.unusedVariables false
set_option linter.unusedSimpArgs false
set_option maxRecDepth 20000
set_option maxHeartbeats 2000000
namespace Go.Gx.Rg
open Go.RowKit Go.Proofs Go.Proofs.YtaggojedpkddjaaGreat

/-- The first place that is not less. -/
def bnd (c : Nat → Int) (n : Nat) : Nat := ((List.range n).find? fun i => decide (0 ≤ c i)).getD n
theorem bnd_eq {c : Nat → Int} {n i : Nat} (hi : i ≤ n) (h1 : ∀ j, j < i → c j < 0) (h2 : ∀ j, i ≤ j → j < n → 0 ≤ c j) : bnd c n = i := by
  unfold bnd
  rcases Nat.lt_or_ge i n with h | h
  · rw [List.find?_range_eq_some.2 ⟨by simpa using h2 i (Nat.le_refl i) h, List.mem_range.2 h, fun j hj => by have := h1 j hj; simp; omega⟩]; rfl
  · have : i = n := by omega
    subst this
    rw [List.find?_eq_none.2 fun j hj => by have := h1 j (List.mem_range.1 hj); simp; omega]; rfl
theorem bnd_le {c : Nat → Int} {n : Nat} : bnd c n ≤ n := by
  unfold bnd
  cases h : (List.range n).find? fun i => decide (0 ≤ c i) with
  | none => exact Nat.le_refl n
  | some i => have := List.find?_range_eq_some.1 h; have := List.mem_range.1 this.2.1; simp; omega
def fnd (c : Nat → Int) (n : Nat) : Bool := decide (bnd c n < n) && decide (c (bnd c n) = 0)
theorem mid_eq {i j : Nat} (h : i + j < 9223372036854775808) : IntKind.i64.wrap (Int.fdiv (IntKind.u64.wrap ((i : Int) + (j : Int))) 2) = (((i + j) / 2 : Nat) : Int) := by
  rw [wrap_inr (k := .u64) (by simp only [inr]; omega), Int.fdiv_eq_ediv_of_nonneg _ (by omega), wrap_inr (k := .i64) (by simp only [inr]; omega)]
  omega

theorem search67 (n : Nat) (hn : (n : Int) < 2 ^ 61) (get : Nat → Nat → RV) (t0 t1 t2 t3 t4 : Int) (g : FuncId) (c : Nat → Int) (hm : ∀ a b, a < b → b < n → c b < 0 → c a < 0)
    (hp : ∀ i, i < n → Pure Tryz.prog g [.agg [.r (get i 0), .r (get i 1), .r (get i 2), .r (get i 3), .r (get i 4)], .agg [.i t0, .i t1, .i t2, .i t3, .i t4]] (· = .i (c i))) :
    Pure Tryz.prog 20 [.r (.rs 5 n get), .agg [.i t0, .i t1, .i t2, .i t3, .i t4], .fn (.func g) [] []] (· = .tup [.i (bnd c n : Nat), .b (fnd c n)]) := by
  refine pure_of_GC T_ok Tryz.func20 rfl (by kernel_rfl) (Nat.le_of_ble_eq_true rfl) rfl rfl ?_
  simp [go_sem]
  refine GLoop_of T_ok (α := Nat × Nat) (fun x => [(0, .r (.rs 5 n get)), (2, .fn (.func g) [] []), (4, .ptr 0 0 5 0), (8, .i n), (9, .i x.1), (10, .i x.2)]) (fun _ => [some (.box [.i t0, .i t1, .i t2, .i t3, .i t4])]) 1
    (fun x => x.1 ≤ x.2 ∧ x.2 ≤ n ∧ (∀ j, j < x.1 → c j < 0) ∧ ∀ j, x.2 ≤ j → j < n → 0 ≤ c j) (fun x => x.2 - x.1) (0, n) (fun _ => rfl) (by simp; omega) (by simp [go_sem]) (by simp [go_sem]) ?_
  rintro ⟨i, j⟩ J ⟨h1, h2, h3, h4⟩
  dsimp only at h1 h2 h3 h4
  simp [go_sem]
  split
  · rename_i hlt
    refine ⟨by omega, ?_⟩
    rw [mid_eq (by omega)]
    generalize hh : (i + j) / 2 = h
    have hb : i ≤ h ∧ h < j := by omega
    refine GDraw_all T_ok (by kernel_rfl) (by kernel_rfl) ?_
    simp [go_sem]
    refine ⟨by omega, _, dcall_val (hp h (by omega)) rfl rfl, ?_⟩
    simp [go_sem]
    split
    · rename_i hc
      refine ⟨by omega, h + 1, j, ⟨by omega, h2, fun k hk => ?_, h4⟩, by omega, by simp⟩
      by_cases hkh : k = h
      · subst hkh; exact hc
      · exact hm k h (by omega) (by omega) hc
    · rename_i hc
      refine ⟨i, h, ⟨by omega, by omega, h3, fun k hk hkn => ?_⟩, by omega, by simp⟩
      rcases Int.lt_or_le (c k) 0 with hneg | hpos
      · exfalso
        by_cases hkh : k = h
        · subst hkh; omega
        · have := hm h k (by omega) hkn hneg; omega
      · exact hpos
  · rename_i hge
    have hij : i = j := by omega
    subst hij
    have hbd := bnd_eq h2 h3 h4
    refine GDraw_all T_ok (by kernel_rfl) (by kernel_rfl) ?_
    by_cases hin : i < n
    · simp [go_sem, hin]
      refine ⟨_, dcall_val (hp i hin) rfl rfl, ?_⟩
      simp [go_sem]
      simp [fnd, hbd, hin]
    · simp [go_sem, hin]
      simp [fnd, hbd, hin]

theorem search89 (n : Nat) (hn : (n : Int) < 2 ^ 61) (get : Nat → Nat → RV) (t0 t1 t2 : Int) (g : FuncId) (c : Nat → Int) (hm : ∀ a b, a < b → b < n → c b < 0 → c a < 0)
    (hp : ∀ i, i < n → Pure Tryz.prog g [.agg [.r (get i 0), .r (get i 1), .r (get i 2)], .agg [.i t0, .i t1, .i t2]] (· = .i (c i))) :
    Pure Tryz.prog 31 [.r (.rs 3 n get), .agg [.i t0, .i t1, .i t2], .fn (.func g) [] []] (· = .tup [.i (bnd c n : Nat), .b (fnd c n)]) := by
  refine pure_of_GC T_ok Tryz.func31 rfl (by kernel_rfl) (Nat.le_of_ble_eq_true rfl) rfl rfl ?_
  simp [go_sem]
  refine GLoop_of T_ok (α := Nat × Nat) (fun x => [(0, .r (.rs 3 n get)), (2, .fn (.func g) [] []), (4, .ptr 0 0 3 0), (8, .i n), (9, .i x.1), (10, .i x.2)]) (fun _ => [some (.box [.i t0, .i t1, .i t2])]) 1
    (fun x => x.1 ≤ x.2 ∧ x.2 ≤ n ∧ (∀ j, j < x.1 → c j < 0) ∧ ∀ j, x.2 ≤ j → j < n → 0 ≤ c j) (fun x => x.2 - x.1) (0, n) (fun _ => rfl) (by simp; omega) (by simp [go_sem]) (by simp [go_sem]) ?_
  rintro ⟨i, j⟩ J ⟨h1, h2, h3, h4⟩
  dsimp only at h1 h2 h3 h4
  simp [go_sem]
  split
  · rename_i hlt
    refine ⟨by omega, ?_⟩
    rw [mid_eq (by omega)]
    generalize hh : (i + j) / 2 = h
    have hb : i ≤ h ∧ h < j := by omega
    refine GDraw_all T_ok (by kernel_rfl) (by kernel_rfl) ?_
    simp [go_sem]
    refine ⟨by omega, _, dcall_val (hp h (by omega)) rfl rfl, ?_⟩
    simp [go_sem]
    split
    · rename_i hc
      refine ⟨by omega, h + 1, j, ⟨by omega, h2, fun k hk => ?_, h4⟩, by omega, by simp⟩
      by_cases hkh : k = h
      · subst hkh; exact hc
      · exact hm k h (by omega) (by omega) hc
    · rename_i hc
      refine ⟨i, h, ⟨by omega, by omega, h3, fun k hk hkn => ?_⟩, by omega, by simp⟩
      rcases Int.lt_or_le (c k) 0 with hneg | hpos
      · exfalso
        by_cases hkh : k = h
        · subst hkh; omega
        · have := hm h k (by omega) hkn hneg; omega
      · exact hpos
  · rename_i hge
    have hij : i = j := by omega
    subst hij
    have hbd := bnd_eq h2 h3 h4
    refine GDraw_all T_ok (by kernel_rfl) (by kernel_rfl) ?_
    by_cases hin : i < n
    · simp [go_sem, hin]
      refine ⟨_, dcall_val (hp i hin) rfl rfl, ?_⟩
      simp [go_sem]
      simp [fnd, hbd, hin]
    · simp [go_sem, hin]
      simp [fnd, hbd, hin]

theorem sameInts34 (n m : Nat) (hn : (n : Int) < 2 ^ 61) (hm : (m : Int) < 2 ^ 61) (x y : Nat → Nat → RV) (u v : Nat → Int) (hx : ∀ i, i < n → x i 0 = .i (u i)) (hy : ∀ i, i < m → y i 0 = .i (v i)) :
    Pure Tryz.prog 10 [.r (.rs 1 n x), .r (.rs 1 m y)] (· = .b (decide (n = m) && (List.range n).all fun i => decide (u i = v i))) := by
  refine pure_of_GC T_ok Tryz.func10 rfl (by kernel_rfl) (Nat.le_of_ble_eq_true rfl) rfl rfl ?_
  by_cases h : (n : Int) = m
  rotate_left
  · have : ¬ n = m := by omega
    simp [go_sem, h]; simp [this]
  have h' : n = m := by omega
  subst h'
  simp [go_sem]
  refine GLoop_of T_ok (α := Nat) (fun k => [(0, .r (.rs 1 n x)), (1, .r (.rs 1 n y)), (5, .i k)]) (fun _ => []) 0 (fun k => k ≤ n ∧ ∀ j, j < k → u j = v j) (fun k => n - k) 0 (fun _ => rfl) (by simp) (by simp [go_sem]) (by simp [go_sem]) ?_
  intro k J hi
  simp [go_sem]
  split
  · rename_i hlt
    refine GDraw_all T_ok (by kernel_rfl) (by kernel_rfl) ?_
    simp [go_sem, hx k hlt, hy k hlt]
    refine ⟨hlt, ?_⟩
    split
    · rename_i he
      exact ⟨by omega, k + 1, ⟨by omega, step_all hi.2 he⟩, by omega, by simp⟩
    · rename_i he
      exact ⟨k, hlt, he⟩
  · rename_i hge
    exact fun j hj => hi.2 j (by omega)
end Go.Gx.Rg
