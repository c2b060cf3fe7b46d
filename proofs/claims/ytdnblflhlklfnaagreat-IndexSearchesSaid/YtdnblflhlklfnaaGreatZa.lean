/-
  Seat Z of Index: the reference's turned codes and comparisons.
-/
import Derived.Test.YtdnblflhlklfnaaGreatKd
set_option linter.unusedVariables false
set_option linter.unusedSimpArgs false
set_option maxRecDepth 20000
set_option maxHeartbeats 4000000
namespace Go.Gx.Ix
open Go.RowKit Go.Proofs Go.Proofs.YtdnblflhlklfnaaGreat

theorem bit70 (w : BitVec 64) (i : Nat) (hi : i < 64) : Pure Tryz.prog 70 [.w w, .i i] (· = .b (w.getLsbD i)) := by
  refine pure_of_GC T_ok Tryz.func70 rfl (by kernel_rfl) (Nat.le_of_ble_eq_true rfl) rfl rfl ?_
  simp [go_sem]
  have h1 : (and64 (shr64 w i) 1#64).toNat = w.toNat / 2 ^ i % 2 := by
    rw [t_and, t_shr]
    exact Nat.and_one_is_mod _
  have h2 : w.getLsbD i = decide (w.toNat / 2 ^ i % 2 = 1) := by rw [BitVec.getLsbD, Nat.testBit_eq_decide_div_mod_eq]
  rw [h2, h1, decide_eq_decide]
  omega
/-- Where a bit goes. -/
def dstN (t : Int) (i : Nat) : Nat := 16 * (i / 16) + ((i % 16 : Nat) + t + 16).toNat % 16
def mvW (w : BitVec 64) (t : Int) : Nat → BitVec 64
  | 0 => 0#64
  | k + 1 => if w.getLsbD k = true then or64 (mvW w t k) (shl64 1#64 (dstN t k)) else mvW w t k
theorem dst_r {t : Int} (h1 : -16 ≤ t) (i : Nat) : dstN t i = 16 * (i / 16) + (i % 16 + (t % 16).toNat) % 16 := by unfold dstN; omega
theorem dst_lt {t : Int} {i : Nat} (hi : i < 64) : dstN t i < 64 := by unfold dstN; omega
theorem shl1_bit (n j : Nat) (hj : j < 64) : (shl64 1#64 n).getLsbD j = decide (j = n) := by
  unfold shl64
  rw [BitVec.getLsbD_shiftLeft]
  by_cases h : j = n
  · subst h; simp [hj]
  · by_cases h2 : j < n
    · simp [h, h2]
    · have h3 : (1#64).getLsbD (j - n) = false := by
        rw [BitVec.getLsbD_one]
        simp; omega
      simp [h, h2, h3]
theorem mv_bit (w : BitVec 64) (t : Int) (j : Nat) (hj : j < 64) : ∀ k, (mvW w t k).getLsbD j = (List.range k).any fun i => w.getLsbD i && decide (dstN t i = j)
  | 0 => by simp [mvW]
  | k + 1 => by
    have ih := mv_bit w t j hj k
    rw [List.range_succ, List.any_append, ← ih]
    have e : mvW w t (k + 1) = if w.getLsbD k = true then or64 (mvW w t k) (shl64 1#64 (dstN t k)) else mvW w t k := rfl
    rw [e]
    cases hb : w.getLsbD k
    · simp [hb]
    · rw [if_pos rfl, show or64 (mvW w t k) (shl64 1#64 (dstN t k)) = mvW w t k ||| shl64 1#64 (dstN t k) from rfl, BitVec.getLsbD_or, shl1_bit _ _ hj]
      have : decide (j = dstN t k) = decide (dstN t k = j) := by rw [decide_eq_decide]; exact eq_comm
      simp [hb, this]
theorem mv_turn (w : BitVec 64) {t : Int} (h1 : -16 ≤ t) : mvW w t 64 = turnW w t := by
  refine bits_ext fun j hj => ?_
  rw [mv_bit w t j hj, turn_bit w t j hj, Bool.eq_iff_iff, List.any_eq_true]
  have hr : (t % 16).toNat < 16 := by omega
  have hd := dst_r h1
  generalize (t % 16).toNat = r at hr hd ⊢
  constructor
  · rintro ⟨i, hi, h⟩
    rw [Bool.and_eq_true, decide_eq_true_eq, hd] at h
    have : tIx r j = i := by unfold tIx; have := List.mem_range.1 hi; omega
    rw [this]; exact h.1
  · intro h
    refine ⟨tIx r j, List.mem_range.2 (tIx_lt hj), ?_⟩
    rw [h, Bool.true_and, decide_eq_true_eq, hd]
    unfold tIx; omega
/-- The ones of the lowest bits. -/
theorem ds_bit (X : Nat) : ∀ k, ds 1 (k + 1) X = ds 1 k X + X / 2 ^ k % 2
  | 0 => by simp [ds]
  | k + 1 => by
    have h := ds_bit (X / 2) k
    have e1 : ds 1 (k + 1 + 1) X = X % 2 ^ 1 + ds 1 (k + 1) (X / 2 ^ 1) := rfl
    have e2 : ds 1 (k + 1) X = X % 2 ^ 1 + ds 1 k (X / 2 ^ 1) := rfl
    have e3 : X / 2 / 2 ^ k = X / 2 ^ (k + 1) := by rw [Nat.div_div_eq_div_mul, Nat.pow_succ, Nat.mul_comm]
    rw [e1, e2, Nat.pow_one, h, e3]
    omega
def cntK (x : BitVec 64) (k : Nat) : Nat := ds 1 k x.toNat
theorem cntK_succ (x : BitVec 64) (k : Nat) : cntK x (k + 1) = cntK x k + if x.getLsbD k = true then 1 else 0 := by
  unfold cntK
  rw [ds_bit]
  congr 1
  have : x.getLsbD k = decide (x.toNat / 2 ^ k % 2 = 1) := by
    rw [BitVec.getLsbD, Nat.testBit_eq_decide_div_mod_eq]
  rw [this]
  by_cases h : x.toNat / 2 ^ k % 2 = 1 <;> simp [h]
  omega
theorem cntK_all (x : BitVec 64) : cntK x 64 = cnt x := rfl
theorem cntK_le (x : BitVec 64) (k : Nat) : cntK x k ≤ k := ds1_le k _
theorem moved79' (w : BitVec 64) (t : Int) (h1 : -16 ≤ t) (h2 : t ≤ 16) : Pure Tryz.prog 79 [.w w, .i t] (· = .w (mvW w t 64)) := by
  refine pure_of_GC T_ok Tryz.func79 rfl (by kernel_rfl) (Nat.le_of_ble_eq_true rfl) rfl rfl ?_
  simp [go_sem]
  refine GLoop_s T_ok (α := Nat) (fun k => [(0, .w w), (1, .i t), (5, .w (mvW w t k)), (6, .i k)]) (fun _ => []) 0 (fun k => k ≤ 64) (fun k => 64 - k) 0 (fun _ => rfl) (by simp) (by simp [go_sem, mvW]) (by simp [go_sem]) ?_
  intro k J hk
  by_cases hkl : k < 64
  · have hkl' : (k : Int) < 64 := by omega
    simp [go_sem, hkl']
    refine call_val (bit70 w k hkl) rfl rfl ?_
    have hsu : mvW w t (k + 1) = if w.getLsbD k = true then or64 (mvW w t k) (shl64 1#64 (dstN t k)) else mvW w t k := rfl
    cases hb : w.getLsbD k
    · rw [hb, if_neg (by simp)] at hsu
      simp [go_sem]
      refine ⟨by omega, k + 1, by omega, by omega, ?_, by omega⟩
      rw [hsu]
    · rw [hb, if_pos rfl] at hsu
      have hdl := dst_lt (t := t) hkl
      have hkt : (k : Int).tmod 16 = k % 16 := Int.tmod_eq_emod_of_nonneg (by omega)
      have hde : (k : Int) / 16 * 16 + ((k : Int).tmod 16 + t + 16).tmod 16 = (dstN t k : Nat) := by
        rw [hkt, Int.tmod_eq_emod_of_nonneg (by omega)]
        unfold dstN
        omega
      generalize dstN t k = n at *
      have hsh : BitVec.ofInt 64 (IntKind.u64.wrap ((2 : Int) ^ min n 64)) = shl64 1#64 n := by
        rw [Nat.min_eq_left (by omega)]
        have h4 : 2 ^ n < 18446744073709551616 := Nat.pow_lt_pow_right (a := 2) (by omega) hdl
        have h5 : ((2 : Int) ^ n) = ((2 ^ n : Nat) : Int) := by simp
        have h6 : (shl64 1#64 n).toNat = 2 ^ n := by
          unfold shl64
          rw [BitVec.toNat_shiftLeft, Nat.shiftLeft_eq]
          simp only [BitVec.toNat_ofNat, Nat.reducePow, Nat.reduceMod, Nat.one_mul]
          exact Nat.mod_eq_of_lt h4
        rw [h5]
        generalize 2 ^ n = q at *
        rw [wrap_inr (by simp only [inr]; omega)]
        apply BitVec.eq_of_toNat_eq
        rw [h6, BitVec.ofInt_natCast, BitVec.toNat_ofNat]
        exact Nat.mod_eq_of_lt h4
      simp [go_sem, hde]
      rw [hsh, hkt]
      refine ⟨by omega, by omega, by omega, by omega, by omega, by omega, k + 1, by omega, by omega, ?_, by omega⟩
      rw [hsu]
  · have hke : k = 64 := by omega
    subst hke
    simp [go_sem]
end Go.Gx.Ix
