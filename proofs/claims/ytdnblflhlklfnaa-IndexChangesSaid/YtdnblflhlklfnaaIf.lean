/-
  Comparing, searching in order.
-/
import Derived.Test.YtdnblflhlklfnaaIe
set_option linter.unusedVariables false
set_option linter.unusedSimpArgs false
set_option maxRecDepth 20000
set_option maxHeartbeats 4000000
namespace Go.Gx.Ix
open Go.RowKit Go.Proofs Go.Proofs.Ytdnblflhlklfnaa

attribute [go_sem] gvo gvoL gbox
mutual
theorem refs_closed : ∀ s : SV, s.closed = true → s.refs = []
  | .r x, _ => by simp [SV.refs]
  | .ptr .., h => by simp [SV.closed] at h
  | .sl .., h => by simp [SV.closed] at h
  | .mp .., h => by simp [SV.closed] at h
  | .fn f fi ca, h => by
    simp only [SV.closed, Bool.and_eq_true] at h
    simp [SV.refs, refsL_closed fi h.1, refsL_closed ca h.2]
  | .agg l, h => by simp [SV.refs, refsL_closed l h]
  | .tup l, h => by simp [SV.refs, refsL_closed l h]
theorem refsL_closed : ∀ l : List SV, SV.closedL l = true → SV.refsL l = []
  | [], _ => by simp [SV.refsL]
  | s :: l, h => by
    simp only [SV.closedL, Bool.and_eq_true] at h
    simp [SV.refsL, refs_closed s h.1, refsL_closed l h.2]
end
theorem mem_closed {l : List SV} (h : SV.closedL l = true) : ∀ a ∈ l, a.refs = [] := by
  induction l with
  | nil => intro a ha; cases ha
  | cons s l ih =>
    simp only [SV.closedL, Bool.and_eq_true] at h
    intro a ha
    rcases List.mem_cons.1 ha with rfl | ha
    · exact refs_closed _ h.1
    · exact ih h.2 a ha
theorem isNaN94 (x : Int) : Pure Try.prog 94 [.i x] (· = .b false) := by
  refine pure_of_GC T_ok Try.func94 rfl (by kernel_rfl) (Nat.le_of_ble_eq_true rfl) rfl rfl ?_
  simp [go_sem]
def cmpI (a b : Int) : Int := if a < b then -1 else if b < a then 1 else 0
theorem compare79 (a b : Int) : Pure Try.prog 79 [.i a, .i b] (· = .i (cmpI a b)) := by
  refine pure_of_GC T_ok Try.func79 rfl (by kernel_rfl) (Nat.le_of_ble_eq_true rfl) rfl rfl ?_
  simp [go_sem]
  refine call_val (isNaN94 a) rfl rfl ?_
  simp [go_sem]
  refine call_val (isNaN94 b) rfl rfl ?_
  by_cases h : a < b
  · simp [go_sem, cmpI, h]
  · by_cases h2 : b < a <;> simp [go_sem, cmpI, h, h2]
theorem or113 (get : Nat → Nat → RV) (x y : Int) (h0 : get 0 0 = .i x) (h1 : get 1 0 = .i y) : Pure Try.prog 113 [.r (.rs 1 2 get)] (· = .i (if x = 0 then y else x)) := by
  refine pure_of_GC T_ok Try.func113 rfl (by kernel_rfl) (Nat.le_of_ble_eq_true rfl) rfl rfl ?_
  simp [go_sem]
  refine GLoop_of T_ok (α := Nat) (fun k => [(3, .i 0), (6, .r (.rs 1 2 get)), (7, .i 2), (8, .i k)]) (fun _ => []) 0 (fun k => k ≤ 2 ∧ (1 ≤ k → x = 0) ∧ (2 ≤ k → y = 0)) (fun k => 2 - k) 0 (fun _ => rfl) (by simp) (by simp [go_sem]) (by simp [go_sem]) ?_
  rintro k J ⟨hk, a1, a2⟩
  rcases (show k = 0 ∨ k = 1 ∨ k = 2 by omega) with rfl | rfl | rfl
  · by_cases hx : x = 0
    · simp [go_sem, h0, hx]
      exact ⟨1, ⟨by omega, fun h => absurd h (by omega)⟩, by omega, by omega⟩
    · simp [go_sem, h0, hx]
  · have hx := a1 (by omega)
    by_cases hy : y = 0
    · simp [go_sem, h1, hx, hy]
      exact ⟨2, by omega, by omega, by omega⟩
    · simp [go_sem, h1, hx, hy]
  · have hx := a1 (by omega)
    have hy := a2 (by omega)
    simp [go_sem, hx, hy]
theorem isNaN125 (x : BitVec 8) : Pure Try.prog 125 [.y x] (· = .b false) := by
  refine pure_of_GC T_ok Try.func125 rfl (by kernel_rfl) (Nat.le_of_ble_eq_true rfl) rfl rfl ?_
  simp [go_sem]
theorem compare114 (a b : BitVec 8) : Pure Try.prog 114 [.y a, .y b] (· = .i (cmpI a.toNat b.toNat)) := by
  refine pure_of_GC T_ok Try.func114 rfl (by kernel_rfl) (Nat.le_of_ble_eq_true rfl) rfl rfl ?_
  simp [go_sem]
  refine call_val (isNaN125 a) rfl rfl ?_
  simp [go_sem]
  refine call_val (isNaN125 b) rfl rfl ?_
  by_cases h : a.toNat < b.toNat
  · simp [go_sem, cmpI, h]
  · by_cases h2 : b.toNat < a.toNat <;> simp [go_sem, cmpI, h, h2]
def befB (a b c d : Int) : Bool := decide (a < c) || decide (a = c) && decide (b < d)
/-- How two pairs compare. -/
def ordI (a b c d : Int) : Int := if cmpI a c = 0 then cmpI b d else cmpI a c
theorem ordI_neg {a b c d : Int} : ordI a b c d < 0 ↔ befB a b c d = true := by
  unfold ordI cmpI befB
  simp only [Bool.or_eq_true, Bool.and_eq_true, decide_eq_true_eq]
  repeat' split
  all_goals omega
theorem ordI_zero {a b c d : Int} : ordI a b c d = 0 ↔ a = c ∧ b = d := by
  unfold ordI cmpI
  repeat' split
  all_goals omega
/-- How a posting and a cell compare. -/
theorem compare96 (c m : BitVec 8) (n : Nat) (get : Nat → Nat → RV) (m2 c2 : BitVec 8) : Pure Try.prog 96 [.agg [.y c, .y m, .r (.rs 1 n get)], .agg [.y m2, .y c2]] (· = .i (ordI m.toNat c.toNat m2.toNat c2.toNat)) := by
  refine pure_of_GC T_ok Try.func96 rfl (by kernel_rfl) (Nat.le_of_ble_eq_true rfl) rfl rfl ?_
  simp [go_sem]
  refine GDraw_all T_ok (by kernel_rfl) (by kernel_rfl) ?_
  simp [go_sem]
  refine ⟨_, dcall_val (compare114 m m2) rfl rfl, ?_⟩
  simp [go_sem]
  refine ⟨_, dcall_val (compare114 c c2) rfl rfl, ?_⟩
  simp [go_sem]
  refine ⟨_, dcall_lent (v := .i (ordI m.toNat c.toNat m2.toNat c2.toNat)) (by simp [go_sem]; exact or113 _ (cmpI m.toNat m2.toNat) (cmpI c.toNat c2.toNat) rfl rfl) rfl, ?_⟩
  simp [go_sem]
/-- The first place that is not less. -/
def bnd (c : Nat → Int) (n : Nat) : Nat := ((List.range n).find? fun i => decide (0 ≤ c i)).getD n
theorem bnd_eq {c : Nat → Int} {n i : Nat} (hi : i ≤ n) (h1 : ∀ j, j < i → c j < 0) (h2 : ∀ j, i ≤ j → j < n → 0 ≤ c j) : bnd c n = i := by
  unfold bnd
  rcases Nat.lt_or_ge i n with h | h
  · rw [List.find?_range_eq_some.2 ⟨by simpa using h2 i (Nat.le_refl i) h, List.mem_range.2 h, fun j hj => by have := h1 j hj; simp; omega⟩]; rfl
  · have : i = n := by omega
    subst this
    rw [List.find?_eq_none.2 fun j hj => by have := h1 j (List.mem_range.1 hj); simp; omega]; rfl
theorem bnd_le {c : Nat → Int} {n : Nat} : bnd c n ≤ n := by
  unfold bnd
  cases h : (List.range n).find? fun i => decide (0 ≤ c i) with
  | none => exact Nat.le_refl n
  | some i => have := List.find?_range_eq_some.1 h; have := List.mem_range.1 this.2.1; simp; omega
def fnd (c : Nat → Int) (n : Nat) : Bool := decide (bnd c n < n) && decide (c (bnd c n) = 0)
theorem mid_eq {i j : Nat} (h : i + j < 9223372036854775808) : IntKind.i64.wrap (Int.fdiv (IntKind.u64.wrap ((i : Int) + (j : Int))) 2) = (((i + j) / 2 : Nat) : Int) := by
  rw [wrap_inr (k := .u64) (by simp only [inr]; omega), Int.fdiv_eq_ediv_of_nonneg _ (by omega), wrap_inr (k := .i64) (by simp only [inr]; omega)]
  omega

theorem search95 (n : Nat) (hn : (n : Int) < 2 ^ 61) (get : Nat → Nat → RV) (t0 t1 : BitVec 8) (g : FuncId) (ca : List SV) (hca : SV.closedL ca = true) (c : Nat → Int) (hm : ∀ a b, a < b → b < n → c b < 0 → c a < 0)
    (hp : ∀ i, i < n → Pure Try.prog g (.agg [.r (get i 0), .r (get i 1), .r (get i 2)] :: .agg [.y t0, .y t1] :: ca) (· = .i (c i))) :
    Pure Try.prog 95 [.r (.rs 3 n get), .agg [.y t0, .y t1], .fn (.func g) [] ca] (· = .tup [.i (bnd c n : Nat), .b (fnd c n)]) := by
  refine pure_of_GC T_ok Try.func95 rfl (by kernel_rfl) (Nat.le_of_ble_eq_true rfl) rfl rfl ?_
  simp [go_sem]
  refine GLoop_of T_ok (α := Nat × Nat) (fun x => [(0, .r (.rs 3 n get)), (2, .fn (.func g) [] ca), (4, .ptr 0 0 2 0), (8, .i n), (9, .i x.1), (10, .i x.2)]) (fun _ => [some (.box [.y t0, .y t1])]) 1
    (fun x => x.1 ≤ x.2 ∧ x.2 ≤ n ∧ (∀ j, j < x.1 → c j < 0) ∧ ∀ j, x.2 ≤ j → j < n → 0 ≤ c j) (fun x => x.2 - x.1) (0, n) (fun _ => rfl) (by simp; omega) (by simp [go_sem, SV.trimL_closed _ _ hca]) (by simp [go_sem]) ?_
  have hr : ∀ r, r ∈ SV.refsL ca → r = 0 := fun r h => by rw [refsL_closed _ hca] at h; cases h
  have hr2 : ∀ a : SV, a ∈ ca → ∀ r : Nat, r ∈ a.refs → r = 0 := fun a ha r h => by rw [mem_closed hca a ha] at h; cases h
  rintro ⟨i, j⟩ J ⟨h1, h2, h3, h4⟩
  dsimp only at h1 h2 h3 h4
  simp [go_sem]
  split
  · rename_i hlt
    refine ⟨by omega, ?_⟩
    rw [mid_eq (by omega)]
    generalize hh : (i + j) / 2 = h
    have hb : i ≤ h ∧ h < j := by omega
    refine GDraw_all T_ok (by kernel_rfl) (by kernel_rfl) ?_
    simp [go_sem]
    refine ⟨hr, by omega, hr, hr2, _, dcall_val (hp h (by omega)) (by simp [go_sem, hca]) rfl, ?_⟩
    simp [go_sem]
    split
    · rename_i hc
      refine ⟨by omega, h + 1, j, ⟨by omega, h2, fun k hk => ?_, h4⟩, by omega, by simp [SV.trimL_closed _ _ hca]⟩
      by_cases hkh : k = h
      · subst hkh; exact hc
      · exact hm k h (by omega) (by omega) hc
    · rename_i hc
      refine ⟨i, h, ⟨by omega, by omega, h3, fun k hk hkn => ?_⟩, by omega, by simp [SV.trimL_closed _ _ hca]⟩
      by_cases hkh : k = h
      · subst hkh; omega
      · have h5 : ¬ c k < 0 := fun h6 => hc (hm h k (by omega) hkn h6)
        omega
  · rename_i hge
    have hij : i = j := by omega
    subst hij
    have hbd := bnd_eq (c := c) h2 h3 h4
    refine GDraw_all T_ok (by kernel_rfl) (by kernel_rfl) ?_
    by_cases hin : i < n
    · simp [go_sem, hin]
      refine ⟨hr, hr2, _, dcall_val (hp i hin) (by simp [go_sem, hca]) rfl, ?_⟩
      simp [go_sem, fnd, hbd, hin]
    · simp [go_sem, hin, fnd, hbd]


theorem isNaN118 (x : Int) : Pure Try.prog 118 [.i x] (· = .b false) := by
  refine pure_of_GC T_ok Try.func118 rfl (by kernel_rfl) (Nat.le_of_ble_eq_true rfl) rfl rfl ?_
  simp [go_sem]
theorem less117 (a b : Int) : Pure Try.prog 117 [.i a, .i b] (· = .b (decide (a < b))) := by
  refine pure_of_GC T_ok Try.func117 rfl (by kernel_rfl) (Nat.le_of_ble_eq_true rfl) rfl rfl ?_
  simp [go_sem]
  refine call_val (isNaN94 a) rfl rfl ?_
  simp [go_sem]
/-- slices.BinarySearch of numbers. -/
theorem search98 (n : Nat) (hn : (n : Int) < 2 ^ 61) (get : Nat → Nat → RV) (v : Nat → Int) (hv : ∀ i, i < n → get i 0 = .i (v i)) (t : Int) (hm : ∀ a b, a < b → b < n → v b < t → v a < t) :
    Pure Try.prog 98 [.r (.rs 1 n get), .i t] (· = .tup [.i (bnd (fun i => v i - t) n : Nat), .b (fnd (fun i => v i - t) n)]) := by
  refine pure_of_GC T_ok Try.func98 rfl (by kernel_rfl) (Nat.le_of_ble_eq_true rfl) rfl rfl ?_
  simp [go_sem]
  refine GLoop_of T_ok (α := Nat × Nat) (fun x => [(0, .r (.rs 1 n get)), (1, .i t), (6, .i n), (7, .i x.1), (8, .i x.2)]) (fun _ => []) 0
    (fun x => x.1 ≤ x.2 ∧ x.2 ≤ n ∧ (∀ j, j < x.1 → v j < t) ∧ ∀ j, x.2 ≤ j → j < n → t ≤ v j) (fun x => x.2 - x.1) (0, n) (fun _ => rfl) (by simp; omega) (by simp [go_sem]) (by simp [go_sem]) ?_
  rintro ⟨i, j⟩ J ⟨h1, h2, h3, h4⟩
  dsimp only at h1 h2 h3 h4
  simp [go_sem]
  split
  · rename_i hlt
    refine ⟨by omega, ?_⟩
    rw [mid_eq (by omega)]
    generalize hh : (i + j) / 2 = h
    have hb : i ≤ h ∧ h < j := by omega
    have hvh := hv h (by omega)
    simp [go_sem, hvh]
    refine ⟨by omega, call_val (less117 (v h) t) rfl rfl ?_⟩
    by_cases hc : v h < t
    · simp [go_sem, hc]
      refine ⟨by omega, h + 1, j, ⟨by omega, h2, fun k hk => ?_, h4⟩, by omega, by simp⟩
      by_cases hkh : k = h
      · subst hkh; exact hc
      · exact hm k h (by omega) (by omega) hc
    · simp [go_sem, hc]
      refine ⟨i, h, ⟨by omega, by omega, h3, fun k hk hkn => ?_⟩, by omega, by simp⟩
      by_cases hkh : k = h
      · subst hkh; omega
      · have h5 : ¬ v k < t := fun h6 => hc (hm h k (by omega) hkn h6)
        omega
  · rename_i hge
    have hij : i = j := by omega
    subst hij
    have hbd := bnd_eq (c := fun i => v i - t) h2 (fun j hj => by have := h3 j hj; omega) (fun j hj hn => by have := h4 j hj hn; omega)
    by_cases hin : i < n
    · have hvi := hv i hin
      by_cases he : v i = t
      · simp [go_sem, hin, hvi, he, fnd, hbd]
      · simp [go_sem, hin, hvi, he]
        refine call_val (isNaN118 (v i)) rfl rfl ?_
        have he2 : ¬ v i - t = 0 := by omega
        simp [go_sem, hin, he2, fnd, hbd]
    · simp [go_sem, hin, fnd, hbd]
/-- slices.BinarySearchFunc of members, by number. -/
theorem place85 (a b : Int) (x y : BitVec 64) : Pure Try.prog 85 [.agg [.i a, .w x, .w y], .i b] (· = .i (cmpI a b)) := by
  refine pure_of_GC T_ok Try.func85 rfl (by kernel_rfl) (Nat.le_of_ble_eq_true rfl) rfl rfl ?_
  simp [go_sem]
  refine call_val (compare79 a b) rfl rfl ?_
  simp [go_sem]
end Go.Gx.Ix
