/-
  iris.Turn, Compare; the order of turns; distance.
-/
import Derived.Test.YtdnblflhlklfnaaIc
set_option linter.unusedVariables false
set_option linter.unusedSimpArgs false
set_option maxRecDepth 20000
set_option maxHeartbeats 2000000
namespace Go.Gx.Ix
open Go.RowKit Go.Proofs Go.Proofs.Ytdnblflhlklfnaa

theorem valid1 (x : IrG) (get : Nat → Nat → RV) (h : ∀ j, j < 2 → get 0 j = x.f j) : Pure Try.prog 69 [.r (.rs 2 1 get)] (· = .b x.ok) := by
  have h1 := (valid69 1 (by omega) fun _ => x).args (args := [.r (.rs 2 1 get)]) (⟨le_rs fun i j hi hj => by
    have : i = 0 := by omega
    subst this; exact h j hj, trivial⟩)
  simpa [allI] using h1
theorem valid2 (x y : IrG) (get : Nat → Nat → RV) (h : ∀ j, j < 2 → get 0 j = x.f j) (h2 : ∀ j, j < 2 → get 1 j = y.f j) : Pure Try.prog 69 [.r (.rs 2 2 get)] (· = .b (x.ok && y.ok)) := by
  have h1 := (valid69 2 (by omega) fun i => if i = 0 then x else y).args (args := [.r (.rs 2 2 get)]) (⟨le_rs fun i j hi hj => by
    rcases (show i = 0 ∨ i = 1 by omega) with rfl | rfl
    · exact h j hj
    · exact h2 j hj, trivial⟩)
  have e : allI 2 (fun i => if i = 0 then x else y) = (x.ok && y.ok) := by simp [allI, List.range, List.range.loop]
  rw [e] at h1
  exact h1
def IrG.tn (x : IrG) (t : Int) : IrG := ⟨turnW x.c t, turnW x.m t⟩
def turnE (x : IrG) (t : Int) : Int := if x.ok then if btw (-7) 7 t then 0 else 2 else 30
theorem turn65 (x : IrG) (t : Int) : Pure Try.prog 65 [x.sv, .i t] (· = .tup [if turnE x t = 0 then (x.tn t).sv else (IrG.mk 0 0).sv, .i (turnE x t)]) := by
  refine pure_of_GC T_ok Try.func65 rfl (by kernel_rfl) (Nat.le_of_ble_eq_true rfl) rfl rfl ?_
  simp [go_sem]
  refine call_lent (v := .b x.ok) (by simp [go_sem]; refine valid1 x _ fun j hj => ?_; rcases (show j = 0 ∨ j = 1 by omega) with rfl | rfl <;> rfl) rfl ?_
  cases hx : x.ok
  · simp [go_sem, turnE, hx]
  simp [go_sem]
  refine call_val (within70 t (-7) 7) rfl rfl ?_
  cases hb : btw (-7) 7 t
  · simp [go_sem, turnE, hx, hb]
  simp [go_sem]
  refine call_val (turn87 x.c x.m t) rfl rfl ?_
  simp [go_sem, turnE, hx, hb, IrG.tn]
def IrG.n (x y : IrG) (t : Int) : Nat := cmpN (turnW x.c t) (turnW x.m t) y.c y.m
def IrG.d (x y : IrG) (t : Int) : Nat := cmpD (turnW x.m t) y.m
def cmpE (x y : IrG) (t : Int) : Int := if x.ok && y.ok then if btw (-7) 7 t then 0 else 2 else 30
theorem compare67 (x y : IrG) (t : Int) : Pure Try.prog 67 [x.sv, y.sv, .i t] (· = .tup [.i (if cmpE x y t = 0 then x.n y t else 0 : Nat), .i (if cmpE x y t = 0 then x.d y t else 0 : Nat), .i (cmpE x y t)]) := by
  refine pure_of_GC T_ok Try.func67 rfl (by kernel_rfl) (Nat.le_of_ble_eq_true rfl) rfl rfl ?_
  simp [go_sem]
  refine call_lent (v := .b (x.ok && y.ok)) (by simp [go_sem]; refine valid2 x y _ (fun j hj => ?_) (fun j hj => ?_) <;> rcases (show j = 0 ∨ j = 1 by omega) with rfl | rfl <;> rfl) rfl ?_
  cases hx : x.ok && y.ok
  · simp [go_sem, cmpE, hx]
  simp [go_sem]
  refine call_val (within70 t (-7) 7) rfl rfl ?_
  cases hb : btw (-7) 7 t
  · simp [go_sem, cmpE, hx, hb]
  simp [go_sem]
  refine GDraw_all T_ok (by kernel_rfl) (by kernel_rfl) ?_
  simp [go_sem]
  refine ⟨_, dcall_val (turn87 x.c x.m t) rfl rfl, ?_⟩
  simp [go_sem]
  refine ⟨_, dcall_val (compare88 (turnW x.c t) (turnW x.m t) y.c y.m) rfl rfl, ?_⟩
  simp [go_sem, cmpE, hx, hb, IrG.n, IrG.d]

attribute [go_sem] trimE SV.trim SV.trimL
/-- The turns in their order, up to k. -/
def ordP : Nat → List Int
  | 0 => []
  | k + 1 => ordP k ++ if k = 0 then [0] else [(k : Int), -(k : Int)]
theorem ordP_pre (k : Nat) : ∀ n, k ≤ n → ordP k <+: ordP n
  | 0, h => by
    have : k = 0 := by omega
    subst this; exact List.prefix_refl _
  | n + 1, h => by
    rcases Nat.lt_or_ge n k with h1 | h1
    · have : k = n + 1 := by omega
      subst this; exact List.prefix_refl _
    · exact (ordP_pre k n h1).trans (List.prefix_append _ _)
theorem orders89 (n : Int) : Own Try.prog 89 [] [.i n] (.fn (.func 102) [] [.ptr 0 0 1 0]) [.box [.i n]] := by
  refine own_of_GC T_ok Try.func89 rfl (by kernel_rfl) (Nat.le_of_ble_eq_true rfl) rfl rfl ?_
  simp [go_sem]
  refine ⟨[0], by simp, fun N => ⟨by simp [go_sem], by simp [go_sem]⟩⟩
theorem orders102 (n : Nat) (hn : n ≤ 7) (get : Nat → Nat → RV) (hget : get 0 0 = .i n) : IterC Try.prog T 102 [.r (.rp 1 1 get 0 0)] (fun t : Int => [SV.i t]) (ordP (n + 1)) := by
  refine ⟨_, _, Try.func102, rfl, by kernel_rfl, Nat.le_of_ble_eq_true rfl, ?_⟩
  intro np good l I M nx hnx h0 hst hy
  simp [go_sem, hget]
  refine ⟨by omega, ?_⟩
  refine GLoop_p T_ok (α := Nat) (fun k => [(0, .fn (.yield l) [] []), (5, .i (n + 1)), (6, .i k)]) (fun k M nx => k ≤ n + 1 ∧ np ≤ nx ∧ I (ordP k) M nx) (fun k => n + 1 - k) 0 ⟨by omega, hnx, h0⟩ (by simp [go_sem]) ?_
  intro k J M nx _ hi
  obtain ⟨h1, h2, h3⟩ := hi
  by_cases hk : k < n + 1
  · have hk' : (k : Int) < n + 1 := by omega
    simp [go_sem, hk']
    have hp := ordP_pre (k + 1) (n + 1) (by omega)
    by_cases k0 : k = 0
    · subst k0
      refine hy [] 0 (by simpa [ordP] using hp) _ _ _ _ _ _ _ _ _ _ _ (by simp [go_sem]) (by simp [go_sem]) (by simp [dOK]) h3 fun M' nx' hn' hI => ?_
      simp only [List.nil_append] at hI
      simp [go_sem]
      exact ⟨1, by omega, rfl, by omega, hn', hI⟩
    · have e : ordP (k + 1) = ordP k ++ [(k : Int), -(k : Int)] := by show ordP k ++ (if k = 0 then _ else _) = _; rw [if_neg k0]
      have e2 : ordP (k + 1) = (ordP k ++ [(k : Int)]) ++ [-(k : Int)] := by rw [e]; simp
      have hp1 : ordP k ++ [(k : Int)] <+: ordP (n + 1) := List.IsPrefix.trans (e2 ▸ List.prefix_append _ _) hp
      have k1 : 0 < k := by omega
      refine hy (ordP k) k hp1 _ _ _ _ _ _ _ _ _ _ _ (by simp [go_sem]) (by simp [go_sem]) (by simp [dOK]) h3 fun M' nx' hn' hI => ?_
      simp [go_sem, k1]
      refine ⟨by omega, ?_⟩
      refine hy (ordP k ++ [(k : Int)]) (-(k : Int)) (by rw [← e2]; exact hp) _ _ _ _ _ _ _ _ _ _ _ (by simp [go_sem]) (by simp [go_sem]) (by simp [dOK]) hI fun M' nx' hn' hI => ?_
      rw [← e2] at hI
      simp [go_sem]
      exact ⟨by omega, k + 1, by omega, by simp, by omega, hn', hI⟩
  · have hk' : ¬ (k : Int) < n + 1 := by omega
    have : k = n + 1 := by omega
    subst this
    simp [go_sem]
    exact h3
end Go.Gx.Ix
