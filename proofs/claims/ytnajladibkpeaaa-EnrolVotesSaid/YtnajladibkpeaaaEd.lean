/-
  The program: pairs, order, ContainsFunc, what is there, votes, binary search, ordered lists.
-/
import Derived.Test.YtnajladibkpeaaaEc
set_option linter.unusedVariables false
set_option linter.unusedSimpArgs false
set_option maxRecDepth 20000
set_option maxHeartbeats 4000000
namespace Go.Gx
open Go.RowKit Go.Proofs Go.Proofs.Ytnajladibkpeaaa

attribute [go_sem] gvo gvoL gbox
theorem isNaN145 (x : Int) : Pure Try.prog 145 [.i x] (· = .b false) := by
  refine pure_of_GC T_ok Try.func145 rfl (by kernel_rfl) (Nat.le_of_ble_eq_true rfl) rfl rfl ?_
  simp [go_sem]
def cmpI (a b : Int) : Int := if a < b then -1 else if b < a then 1 else 0
theorem compare140 (a b : Int) : Pure Try.prog 140 [.i a, .i b] (· = .i (cmpI a b)) := by
  refine pure_of_GC T_ok Try.func140 rfl (by kernel_rfl) (Nat.le_of_ble_eq_true rfl) rfl rfl ?_
  simp [go_sem]
  refine call_val (isNaN145 a) rfl rfl ?_
  simp [go_sem]
  refine call_val (isNaN145 b) rfl rfl ?_
  by_cases h : a < b
  · simp [go_sem, cmpI, h]
  · by_cases h2 : b < a <;> simp [go_sem, cmpI, h, h2]
theorem or139 (get : Nat → Nat → RV) (x y : Int) (h0 : get 0 0 = .i x) (h1 : get 1 0 = .i y) : Pure Try.prog 139 [.r (.rs 1 2 get)] (· = .i (if x = 0 then y else x)) := by
  refine pure_of_GC T_ok Try.func139 rfl (by kernel_rfl) (Nat.le_of_ble_eq_true rfl) rfl rfl ?_
  simp [go_sem]
  refine GLoop_of T_ok (α := Nat) (fun k => [(3, .i 0), (6, .r (.rs 1 2 get)), (7, .i 2), (8, .i k)]) (fun _ => []) 0 (fun k => k ≤ 2 ∧ (1 ≤ k → x = 0) ∧ (2 ≤ k → y = 0)) (fun k => 2 - k) 0 (fun _ => rfl) (by simp) (by simp [go_sem]) (by simp [go_sem]) ?_
  rintro k J ⟨hk, a1, a2⟩
  rcases (show k = 0 ∨ k = 1 ∨ k = 2 by omega) with rfl | rfl | rfl
  · by_cases hx : x = 0
    · simp [go_sem, h0, hx]
      exact ⟨1, ⟨by omega, fun h => absurd h (by omega)⟩, by omega, by omega⟩
    · simp [go_sem, h0, hx]
  · have hx := a1 (by omega)
    by_cases hy : y = 0
    · simp [go_sem, h1, hx, hy]
      exact ⟨2, by omega, by omega, by omega⟩
    · simp [go_sem, h1, hx, hy]
  · have hx := a1 (by omega)
    have hy := a2 (by omega)
    simp [go_sem, hx, hy]
/-- How two pairs compare. -/
def ordI (a b c d : Int) : Int := if cmpI a c = 0 then cmpI b d else cmpI a c
theorem ordI_neg {a b c d : Int} : ordI a b c d < 0 ↔ befB a b c d = true := by
  unfold ordI cmpI befB
  simp only [Bool.or_eq_true, Bool.and_eq_true, decide_eq_true_eq]
  repeat' split
  all_goals omega
theorem ordI_zero {a b c d : Int} : ordI a b c d = 0 ↔ a = c ∧ b = d := by
  unfold ordI cmpI
  repeat' split
  all_goals omega
theorem order122 (a b c d : Int) : Pure Try.prog 122 [.agg [.i a, .i b], .agg [.i c, .i d]] (· = .i (ordI a b c d)) := by
  refine pure_of_GC T_ok Try.func122 rfl (by kernel_rfl) (Nat.le_of_ble_eq_true rfl) rfl rfl ?_
  simp [go_sem]
  refine GDraw_all T_ok (by kernel_rfl) (by kernel_rfl) ?_
  simp [go_sem]
  refine ⟨_, dcall_val (compare140 a c) rfl rfl, ?_⟩
  simp [go_sem]
  refine ⟨_, dcall_val (compare140 b d) rfl rfl, ?_⟩
  simp [go_sem]
  refine ⟨_, dcall_lent (v := .i (ordI a b c d)) (by simp [go_sem]; exact or139 _ (cmpI a c) (cmpI b d) rfl rfl) rfl, ?_⟩
  simp [go_sem]
theorem ofLink77 (x : LkG) : Pure Try.prog 77 [.agg [.i x.a, .i x.b, .b x.s]] (· = .agg [.i x.a, .i x.b]) := by
  refine pure_of_GC T_ok Try.func77 rfl (by kernel_rfl) (Nat.le_of_ble_eq_true rfl) rfl rfl ?_
  simp [go_sem]
theorem ofCase69 (x : CsG) : Pure Try.prog 69 [.agg [.i x.a, .i x.b, .r (x.c 2)]] (· = .agg [.i x.a, .i x.b]) := by
  refine pure_of_GC T_ok Try.func69 rfl (by kernel_rfl) (Nat.le_of_ble_eq_true rfl) rfl rfl ?_
  simp [go_sem]
theorem pairOf75 (a b : Int) : Pure Try.prog 75 [.i a, .i b] (· = .agg [.i (min a b), .i (max a b)]) := by
  refine pure_of_GC T_ok Try.func75 rfl (by kernel_rfl) (Nat.le_of_ble_eq_true rfl) rfl rfl ?_
  simp [go_sem]

/-- Where the first is, or -1. -/
def ixB (p : Nat → Bool) (n : Nat) : Int := match (List.range n).find? p with | some i => (i : Int) | none => -1
theorem ixB_at {p : Nat → Bool} {n k : Nat} (hk : k < n) (h : p k = true) (hj : ∀ j, j < k → p j = false) : ixB p n = k := by
  have : (List.range n).find? p = some k := by
    rw [List.find?_range_eq_some]
    exact ⟨h, List.mem_range.2 hk, fun j a => by rw [hj j a]; rfl⟩
  rw [ixB, this]
theorem ixB_no {p : Nat → Bool} {n : Nat} (h : ∀ j, j < n → p j = false) : ixB p n = -1 := by
  have : (List.range n).find? p = none := by
    rw [List.find?_eq_none]
    intro j hj
    rw [h j (List.mem_range.1 hj)]; simp
  rw [ixB, this]
theorem ixB_any {p : Nat → Bool} {n : Nat} : decide (0 ≤ ixB p n) = (List.range n).any p := by
  unfold ixB
  cases h : (List.range n).find? p with
  | none =>
    have h' := List.find?_eq_none.1 h
    have : (List.range n).any p = false := by
      rw [List.any_eq_false]; exact h'
    rw [this]; rfl
  | some i =>
    have h1 := List.find?_range_eq_some.1 h
    have : (List.range n).any p = true := List.any_eq_true.2 ⟨i, h1.2.1, h1.1⟩
    rw [this]; simp

theorem index134 (n : Nat) (hn : n ≤ 1000000000) (get : Nat → Nat → RV) (g : FuncId) (ca : List SV) (hca : SV.closedL ca = true) (p : Nat → Bool)
    (hp : ∀ i, i < n → Pure Try.prog g (.r (get i 0) :: ca) (· = .b (p i))) : Pure Try.prog 134 [.r (.rs 1 n get), .fn (.func g) [] ca] (· = .i (ixB p n)) := by
  refine pure_of_GC T_ok Try.func134 rfl (by kernel_rfl) (Nat.le_of_ble_eq_true rfl) rfl rfl ?_
  simp [go_sem]
  refine GLoop_of T_ok (α := Nat) (fun x => [(0, .r (.rs 1 n get)), (1, .fn (.func g) [] ca), (7, .i n), (8, .i x)]) (fun _ => []) 0 (fun x => x ≤ n ∧ ∀ j, j < x → p j = false) (fun x => n - x) 0 (fun _ => rfl) (by simp) (by simp [go_sem, SV.trimL_closed _ _ hca]) (by simp [go_sem]) ?_
  intro x J hi
  by_cases hlt : x < n
  · simp [go_sem, hlt]
    refine call_val (hp x hlt) (by simp [go_sem, hca]) rfl ?_
    by_cases hb : p x = true
    · simp [go_sem, hb]
      exact (ixB_at hlt hb hi.2).symm
    · have hb' : p x = false := by simpa using hb
      simp [go_sem, hb', SV.trimL_closed _ _ hca]
      refine ⟨by omega, x + 1, ⟨by omega, fun j hj => ?_⟩, by omega, by omega⟩
      by_cases hjx : j = x
      · subst hjx; exact hb'
      · exact hi.2 j (by omega)
  · simp [go_sem, hlt]
    exact (ixB_no fun j hj => hi.2 j (by omega)).symm
theorem contains102 (n : Nat) (hn : n ≤ 1000000000) (get : Nat → Nat → RV) (g : FuncId) (ca : List SV) (hca : SV.closedL ca = true) (p : Nat → Bool)
    (hp : ∀ i, i < n → Pure Try.prog g (.r (get i 0) :: ca) (· = .b (p i))) : Pure Try.prog 102 [.r (.rs 1 n get), .fn (.func g) [] ca] (· = .b ((List.range n).any p)) := by
  refine pure_of_GC T_ok Try.func102 rfl (by kernel_rfl) (Nat.le_of_ble_eq_true rfl) rfl rfl ?_
  simp [go_sem]
  refine call_val (index134 n hn get g ca hca p hp) (by simp [go_sem, hca]) rfl ?_
  simp [go_sem, ixB_any]

theorem index137 (n : Nat) (hn : n ≤ 1000000000) (get : Nat → Nat → RV) (g : FuncId) (ca : List SV) (hca : SV.closedL ca = true) (p : Nat → Bool)
    (hp : ∀ i, i < n → Pure Try.prog g (.agg [.r (get i 0), .r (get i 1)] :: ca) (· = .b (p i))) : Pure Try.prog 137 [.r (.rs 2 n get), .fn (.func g) [] ca] (· = .i (ixB p n)) := by
  refine pure_of_GC T_ok Try.func137 rfl (by kernel_rfl) (Nat.le_of_ble_eq_true rfl) rfl rfl ?_
  simp [go_sem]
  refine GLoop_of T_ok (α := Nat) (fun x => [(0, .r (.rs 2 n get)), (1, .fn (.func g) [] ca), (7, .i n), (8, .i x)]) (fun _ => []) 0 (fun x => x ≤ n ∧ ∀ j, j < x → p j = false) (fun x => n - x) 0 (fun _ => rfl) (by simp) (by simp [go_sem, SV.trimL_closed _ _ hca]) (by simp [go_sem]) ?_
  intro x J hi
  by_cases hlt : x < n
  · simp [go_sem, hlt]
    refine call_val (hp x hlt) (by simp [go_sem, hca]) rfl ?_
    by_cases hb : p x = true
    · simp [go_sem, hb]
      exact (ixB_at hlt hb hi.2).symm
    · have hb' : p x = false := by simpa using hb
      simp [go_sem, hb', SV.trimL_closed _ _ hca]
      refine ⟨by omega, x + 1, ⟨by omega, fun j hj => ?_⟩, by omega, by omega⟩
      by_cases hjx : j = x
      · subst hjx; exact hb'
      · exact hi.2 j (by omega)
  · simp [go_sem, hlt]
    exact (ixB_no fun j hj => hi.2 j (by omega)).symm
theorem contains109 (n : Nat) (hn : n ≤ 1000000000) (get : Nat → Nat → RV) (g : FuncId) (ca : List SV) (hca : SV.closedL ca = true) (p : Nat → Bool)
    (hp : ∀ i, i < n → Pure Try.prog g (.agg [.r (get i 0), .r (get i 1)] :: ca) (· = .b (p i))) : Pure Try.prog 109 [.r (.rs 2 n get), .fn (.func g) [] ca] (· = .b ((List.range n).any p)) := by
  refine pure_of_GC T_ok Try.func109 rfl (by kernel_rfl) (Nat.le_of_ble_eq_true rfl) rfl rfl ?_
  simp [go_sem]
  refine call_val (index137 n hn get g ca hca p hp) (by simp [go_sem, hca]) rfl ?_
  simp [go_sem, ixB_any]

theorem index127 (n : Nat) (hn : n ≤ 1000000000) (get : Nat → Nat → RV) (g : FuncId) (ca : List SV) (hca : SV.closedL ca = true) (p : Nat → Bool)
    (hp : ∀ i, i < n → Pure Try.prog g (.agg [.r (get i 0), .r (get i 1)] :: ca) (· = .b (p i))) : Pure Try.prog 127 [.r (.rs 2 n get), .fn (.func g) [] ca] (· = .i (ixB p n)) := by
  refine pure_of_GC T_ok Try.func127 rfl (by kernel_rfl) (Nat.le_of_ble_eq_true rfl) rfl rfl ?_
  simp [go_sem]
  refine GLoop_of T_ok (α := Nat) (fun x => [(0, .r (.rs 2 n get)), (1, .fn (.func g) [] ca), (7, .i n), (8, .i x)]) (fun _ => []) 0 (fun x => x ≤ n ∧ ∀ j, j < x → p j = false) (fun x => n - x) 0 (fun _ => rfl) (by simp) (by simp [go_sem, SV.trimL_closed _ _ hca]) (by simp [go_sem]) ?_
  intro x J hi
  by_cases hlt : x < n
  · simp [go_sem, hlt]
    refine call_val (hp x hlt) (by simp [go_sem, hca]) rfl ?_
    by_cases hb : p x = true
    · simp [go_sem, hb]
      exact (ixB_at hlt hb hi.2).symm
    · have hb' : p x = false := by simpa using hb
      simp [go_sem, hb', SV.trimL_closed _ _ hca]
      refine ⟨by omega, x + 1, ⟨by omega, fun j hj => ?_⟩, by omega, by omega⟩
      by_cases hjx : j = x
      · subst hjx; exact hb'
      · exact hi.2 j (by omega)
  · simp [go_sem, hlt]
    exact (ixB_no fun j hj => hi.2 j (by omega)).symm
theorem contains80 (n : Nat) (hn : n ≤ 1000000000) (get : Nat → Nat → RV) (g : FuncId) (ca : List SV) (hca : SV.closedL ca = true) (p : Nat → Bool)
    (hp : ∀ i, i < n → Pure Try.prog g (.agg [.r (get i 0), .r (get i 1)] :: ca) (· = .b (p i))) : Pure Try.prog 80 [.r (.rs 2 n get), .fn (.func g) [] ca] (· = .b ((List.range n).any p)) := by
  refine pure_of_GC T_ok Try.func80 rfl (by kernel_rfl) (Nat.le_of_ble_eq_true rfl) rfl rfl ?_
  simp [go_sem]
  refine call_val (index127 n hn get g ca hca p hp) (by simp [go_sem, hca]) rfl ?_
  simp [go_sem, ixB_any]

theorem poor108 (x : RcG) : Pure Try.prog 108 [.agg [.i x.q, .b x.g]] (· = .b (!btw 0 100 x.q)) := by
  refine pure_of_GC T_ok Try.func108 rfl (by kernel_rfl) (Nat.le_of_ble_eq_true rfl) rfl rfl ?_
  by_cases h : x.q < 0
  · simp [go_sem, h, btw]
  · by_cases h2 : 100 < x.q <;> simp [go_sem, h, h2, btw] <;> omega
theorem strange138 (x : VtG) : Pure Try.prog 138 [.agg [.i x.o, .b x.s]] (· = .b (!btw 0 7 x.o)) := by
  refine pure_of_GC T_ok Try.func138 rfl (by kernel_rfl) (Nat.le_of_ble_eq_true rfl) rfl rfl ?_
  by_cases h : x.o < 0
  · simp [go_sem, h, btw]
  · by_cases h2 : 8 ≤ x.o <;> simp [go_sem, h, h2, btw] <;> omega
end Go.Gx
