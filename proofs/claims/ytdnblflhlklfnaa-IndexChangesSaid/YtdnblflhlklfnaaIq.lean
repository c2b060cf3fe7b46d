/-
  Plainly: words turned keep their ones; the best turn; what matches is near in one chunk.
-/
import Derived.Test.YtdnblflhlklfnaaIp
set_option linter.unusedVariables false
set_option linter.unusedSimpArgs false
set_option maxRecDepth 20000
set_option maxHeartbeats 4000000
namespace Go.Gx.Ix
open Go.RowKit Go.Proofs Go.Proofs.Ytdnblflhlklfnaa

/-- Which bit comes to place i when rows are turned by r. -/
def tIx (r i : Nat) : Nat := 16 * (i / 16) + (i % 16 + 16 - r) % 16
theorem rol_bit (y : BitVec 16) (r k : Nat) (hr : r < 16) (hk : k < 16) : (rol16 y r).getLsbD k = y.getLsbD ((k + 16 - r) % 16) := by
  unfold rol16 or16 shl16 shr16
  rw [BitVec.getLsbD_or, BitVec.getLsbD_shiftLeft, BitVec.getLsbD_ushiftRight]
  by_cases h : k < r
  · have e : (k + 16 - r) % 16 = 16 - r + k := by omega
    rw [e]; simp [h]
  · have e : (k + 16 - r) % 16 = k - r := by omega
    rw [e, BitVec.getLsbD_of_ge y (16 - r + k) (by omega)]; simp [h, hk]
theorem row_bit (w : BitVec 64) (k : Nat) (hk : k < 4) (t : Int) (i : Nat) (hi : i < 64) : (rowT w (16 * k) t).getLsbD i = (decide (i / 16 = k) && w.getLsbD (tIx (t % 16).toNat i)) := by
  have hr : (t % 16).toNat < 16 := by omega
  unfold rowT shl64 up64 tIx
  generalize (t % 16).toNat = r at hr
  rw [BitVec.getLsbD_shiftLeft, BitVec.getLsbD_setWidth]
  rcases Nat.lt_trichotomy (i / 16) k with h | h | h
  · have h1 : i < 16 * k := by omega
    have h2 : ¬ i / 16 = k := by omega
    simp [h1, h2]
  · have h1 : ¬ i < 16 * k := by omega
    rw [rol_bit _ r (i - 16 * k) hr (by omega)]
    unfold to16 shr64
    rw [BitVec.getLsbD_setWidth, BitVec.getLsbD_ushiftRight]
    have h3 : 16 * k + (i - 16 * k + 16 - r) % 16 = 16 * (i / 16) + (i % 16 + 16 - r) % 16 := by omega
    have h4 : (i - 16 * k + 16 - r) % 16 < 16 := by omega
    have h5 : i - 16 * k < 64 := by omega
    rw [h3]
    simp [h, hi, h1, h4, h5]
  · have h1 : ¬ i < 16 * k := by omega
    have h2 : ¬ i / 16 = k := by omega
    rw [BitVec.getLsbD_of_ge _ _ (by omega : 16 ≤ i - 16 * k)]
    simp [h2]
theorem turn_bit (w : BitVec 64) (t : Int) (i : Nat) (hi : i < 64) : (turnW w t).getLsbD i = w.getLsbD (tIx (t % 16).toNat i) := by
  unfold turnW turnU turnU turnU turnU turnU or64
  simp only [BitVec.getLsbD_or]
  rw [row_bit w 0 (by omega) t i hi, row_bit w 1 (by omega) t i hi, row_bit w 2 (by omega) t i hi, row_bit w 3 (by omega) t i hi]
  rcases (show i / 16 = 0 ∨ i / 16 = 1 ∨ i / 16 = 2 ∨ i / 16 = 3 by omega) with h | h | h | h <;> simp [h]
theorem bits_ext {x y : BitVec 64} (h : ∀ i, i < 64 → x.getLsbD i = y.getLsbD i) : x = y := BitVec.eq_of_getLsbD_eq fun i hi => h i hi
theorem turn_and (x y : BitVec 64) (t : Int) : turnW (and64 x y) t = and64 (turnW x t) (turnW y t) := by
  refine bits_ext fun i hi => ?_
  rw [turn_bit _ _ _ hi]
  unfold and64
  rw [BitVec.getLsbD_and, BitVec.getLsbD_and, turn_bit _ _ _ hi, turn_bit _ _ _ hi]
theorem turn_xor (x y : BitVec 64) (t : Int) : turnW (xor64 x y) t = xor64 (turnW x t) (turnW y t) := by
  refine bits_ext fun i hi => ?_
  rw [turn_bit _ _ _ hi]
  unfold xor64
  rw [BitVec.getLsbD_xor, BitVec.getLsbD_xor, turn_bit _ _ _ hi, turn_bit _ _ _ hi]
theorem tIx_lt {r i : Nat} (hi : i < 64) : tIx r i < 64 := by unfold tIx; omega
theorem turn_andn (x y : BitVec 64) (t : Int) : turnW (andn64 x y) t = andn64 (turnW x t) (turnW y t) := by
  refine bits_ext fun i hi => ?_
  rw [turn_bit _ _ _ hi]
  unfold andn64
  rw [BitVec.getLsbD_and, BitVec.getLsbD_and, turn_bit _ _ _ hi, BitVec.getLsbD_not, BitVec.getLsbD_not, turn_bit _ _ _ hi]
  simp [tIx_lt hi, hi]
theorem turn_turn (x : BitVec 64) (s t : Int) : turnW (turnW x s) t = turnW x (s + t) := by
  refine bits_ext fun i hi => ?_
  rw [turn_bit _ _ _ hi, turn_bit _ _ _ (tIx_lt hi), turn_bit _ _ _ hi]
  congr 1
  unfold tIx
  omega
theorem turn_zero (x : BitVec 64) : turnW x 0 = x := by
  refine bits_ext fun i hi => ?_
  rw [turn_bit _ _ _ hi]
  congr 1
  unfold tIx
  simp; omega
theorem turn_back (x : BitVec 64) (t : Int) : turnW (turnW x (-t)) t = x := by
  rw [turn_turn, show -t + t = 0 by omega, turn_zero]
/-- The ones of a number, parted at n bits. -/
theorem ds_split : ∀ n k X, ds 1 (n + k) X = ds 1 n (X % 2 ^ n) + ds 1 k (X / 2 ^ n)
  | 0, k, X => by simp [ds]
  | n + 1, k, X => by
    rw [show n + 1 + k = (n + k) + 1 by omega]
    show X % 2 ^ 1 + ds 1 (n + k) (X / 2 ^ 1) = X % 2 ^ (n + 1) % 2 ^ 1 + ds 1 n (X % 2 ^ (n + 1) / 2 ^ 1) + _
    rw [ds_split n k (X / 2 ^ 1)]
    have h1 : X % 2 ^ (n + 1) % 2 ^ 1 = X % 2 ^ 1 := Nat.mod_mod_of_dvd _ (Nat.pow_dvd_pow 2 (by omega))
    have h2 : X % 2 ^ (n + 1) / 2 ^ 1 = X / 2 ^ 1 % 2 ^ n := by
      rw [show n + 1 = 1 + n by omega, Nat.pow_add, Nat.mod_mul_right_div_self]
    have h3 : X / 2 ^ 1 / 2 ^ n = X / 2 ^ (n + 1) := by rw [Nat.div_div_eq_div_mul, ← Nat.pow_add, Nat.add_comm 1 n]
    rw [h1, h2, h3]; omega
theorem rol_cnt (y : BitVec 16) (r : Nat) (hr : r < 16) : ds 1 16 (rol16 y r).toNat = ds 1 16 y.toNat := by
  have hy := y.isLt
  have e : (rol16 y r).toNat = 2 ^ r * (y.toNat % 2 ^ (16 - r)) + y.toNat / 2 ^ (16 - r) := by
    have h1 : y.toNat / 2 ^ (16 - r) < 2 ^ r := by
      rw [Nat.div_lt_iff_lt_mul (Nat.pow_pos (by decide)), ← Nat.pow_add, show r + (16 - r) = 16 by omega]; exact hy
    rw [Nat.two_pow_add_eq_or_of_lt h1]
    unfold rol16 or16 shl16 shr16
    rw [BitVec.toNat_or, BitVec.toNat_shiftLeft, BitVec.toNat_ushiftRight, Nat.shiftLeft_eq, Nat.shiftRight_eq_div_pow]
    congr 1
    have h2 : (2 : Nat) ^ 16 = 2 ^ (16 - r) * 2 ^ r := by rw [← Nat.pow_add]; congr 1; omega
    rw [h2, Nat.mul_mod_mul_right, Nat.mul_comm]
  have h1 : y.toNat / 2 ^ (16 - r) < 2 ^ r := by
    rw [Nat.div_lt_iff_lt_mul (Nat.pow_pos (by decide)), ← Nat.pow_add, show r + (16 - r) = 16 by omega]; exact hy
  have s1 := ds_split r (16 - r) (rol16 y r).toNat
  have s2 := ds_split (16 - r) r y.toNat
  rw [show r + (16 - r) = 16 by omega] at s1
  rw [show 16 - r + r = 16 by omega] at s2
  rw [e, Nat.mul_add_mod, Nat.mod_eq_of_lt h1, Nat.mul_add_div (Nat.pow_pos (by decide)), Nat.div_eq_of_lt h1, Nat.add_zero] at s1
  rw [e, s1, s2]; omega
theorem row_of (x : BitVec 64) (t : Int) (k : Nat) (hk : k < 4) : to16 (shr64 (turnW x t) (16 * k)) = rol16 (to16 (shr64 x (16 * k))) (t % 16).toNat := by
  refine BitVec.eq_of_getLsbD_eq fun m hm => ?_
  have hr : (t % 16).toNat < 16 := by omega
  rw [rol_bit _ _ m hr hm]
  unfold to16 shr64
  rw [BitVec.getLsbD_setWidth, BitVec.getLsbD_setWidth, BitVec.getLsbD_ushiftRight, BitVec.getLsbD_ushiftRight, turn_bit _ _ _ (by omega)]
  generalize (t % 16).toNat = r at hr
  have e : tIx r (16 * k + m) = 16 * k + (m + 16 - r) % 16 := by unfold tIx; omega
  have h4 : (m + 16 - r) % 16 < 16 := by omega
  rw [e]; simp [hm, h4]
theorem row_nat (x : BitVec 64) (a : Nat) : (to16 (shr64 x a)).toNat = x.toNat / 2 ^ a % 2 ^ 16 := by
  unfold to16 shr64
  rw [BitVec.toNat_setWidth, BitVec.toNat_ushiftRight, Nat.shiftRight_eq_div_pow]
theorem cnt_rows (x : BitVec 64) : cnt x = ds 1 16 (to16 (shr64 x (16 * 0))).toNat + ds 1 16 (to16 (shr64 x (16 * 1))).toNat + ds 1 16 (to16 (shr64 x (16 * 2))).toNat + ds 1 16 (to16 (shr64 x (16 * 3))).toNat := by
  have hx := x.isLt
  unfold cnt
  rw [row_nat, row_nat, row_nat, row_nat]
  have s1 := ds_split 16 48 x.toNat
  have s2 := ds_split 16 32 (x.toNat / 2 ^ 16)
  have s3 := ds_split 16 16 (x.toNat / 2 ^ 16 / 2 ^ 16)
  rw [Nat.div_div_eq_div_mul] at s2 s3
  have e : x.toNat / (2 ^ 16 * 2 ^ 16) / 2 ^ 16 = x.toNat / 2 ^ (16 * 3) % 2 ^ 16 := by
    rw [Nat.div_div_eq_div_mul, Nat.mod_eq_of_lt]
    rw [Nat.div_lt_iff_lt_mul (Nat.pow_pos (by decide))]; exact hx
  rw [e] at s3
  have e0 : x.toNat / 2 ^ (16 * 0) = x.toNat := by simp
  rw [e0]
  have q1 : (16 + 48) = 64 := rfl
  have q2 : (16 + 32) = 48 := rfl
  have q3 : (16 + 16) = 32 := rfl
  rw [q1] at s1
  rw [q2] at s2
  rw [q3] at s3
  have p1 : (2 : Nat) ^ (16 * 1) = 2 ^ 16 := rfl
  have p2 : (2 : Nat) ^ (16 * 2) = 2 ^ 16 * 2 ^ 16 := rfl
  rw [s1, s2, s3, p1, p2]; omega
theorem cnt_turn (x : BitVec 64) (t : Int) : cnt (turnW x t) = cnt x := by
  have hr : (t % 16).toNat < 16 := by omega
  rw [cnt_rows, cnt_rows x, row_of _ _ 0 (by omega), row_of _ _ 1 (by omega), row_of _ _ 2 (by omega), row_of _ _ 3 (by omega), rol_cnt _ _ hr, rol_cnt _ _ hr, rol_cnt _ _ hr, rol_cnt _ _ hr]
theorem chk_nat (x : BitVec 64) (j : Nat) : (chk x j).toNat = x.toNat / 2 ^ (8 * j) % 2 ^ 8 := by
  unfold chk to8 shr64
  rw [BitVec.toNat_setWidth, BitVec.toNat_ushiftRight, Nat.shiftRight_eq_div_pow]
theorem cnt_part (X : Nat) : ∀ k n, (k + 8 * n = 64) → ds 1 (8 * n) (X / 2 ^ k) = ((List.range n).map fun j => ds 1 8 (X / 2 ^ (k + 8 * j) % 2 ^ 8)).sum
  | k, 0, h => by simp [ds]
  | k, n + 1, h => by
    have s := ds_split 8 (8 * n) (X / 2 ^ k)
    rw [show 8 * (n + 1) = 8 + 8 * n by omega, s, Nat.div_div_eq_div_mul, ← Nat.pow_add, cnt_part X (k + 8) n (by omega), List.range_succ_eq_map, List.map_cons, List.sum_cons, List.map_map]
    congr 2
    refine List.map_congr_left fun j _ => ?_
    show _ = ds 1 8 (X / 2 ^ (k + 8 * (j + 1)) % 2 ^ 8)
    rw [show k + 8 * (j + 1) = k + 8 + 8 * j by omega]
theorem cnt_chk (x : BitVec 64) : cnt x = ((List.range 8).map fun j => cnt8 (chk x j)).sum := by
  have h := cnt_part x.toNat 0 8 rfl
  simp only [Nat.pow_zero, Nat.div_one, Nat.zero_add] at h
  unfold cnt cnt8
  refine Eq.trans h (congrArg List.sum (List.map_congr_left fun j _ => ?_))
  rw [chk_nat]
theorem chk_and (x y : BitVec 64) (j : Nat) : chk (and64 x y) j = and8 (chk x j) (chk y j) := by
  unfold chk and64 and8 to8 shr64
  rw [BitVec.ushiftRight_and_distrib, BitVec.setWidth_and]
theorem chk_xor (x y : BitVec 64) (j : Nat) : chk (xor64 x y) j = xor8 (chk x j) (chk y j) := by
  unfold chk xor64 xor8 to8 shr64
  rw [BitVec.ushiftRight_xor_distrib, BitVec.setWidth_xor]
theorem and8_assoc (x y z : BitVec 8) : and8 (and8 x y) z = and8 x (and8 y z) := BitVec.and_assoc ..
/-- Of eight numbers one is at most an eighth of their sum. -/
theorem pigeon (f : Nat → Nat) (N : Nat) (h : ((List.range 8).map f).sum ≤ N) : ∃ j, j < 8 ∧ f j ≤ N / 8 := by
  refine Classical.byContradiction fun hc => ?_
  have h1 : ∀ j, j < 8 → N / 8 < f j := fun j hj => by
    refine Nat.lt_of_not_le fun h2 => hc ⟨j, hj, h2⟩
  have := h1 0 (by omega)
  have := h1 1 (by omega)
  have := h1 2 (by omega)
  have := h1 3 (by omega)
  have := h1 4 (by omega)
  have := h1 5 (by omega)
  have := h1 6 (by omega)
  have := h1 7 (by omega)
  simp [List.range, List.range.loop] at h
  omega
theorem and_cnt_le (x y : BitVec 64) : cnt (and64 x y) ≤ cnt y := by
  have key : ∀ n (a b : Nat), ds 1 n (a &&& b) ≤ ds 1 n b := by
    intro n
    induction n with
    | zero => intro a b; exact Nat.le_refl _
    | succ n ih =>
      intro a b
      show (a &&& b) % 2 ^ 1 + ds 1 n ((a &&& b) / 2 ^ 1) ≤ b % 2 ^ 1 + ds 1 n (b / 2 ^ 1)
      have h1 := ih (a / 2 ^ 1) (b / 2 ^ 1)
      have h2 : (a &&& b) / 2 ^ 1 = a / 2 ^ 1 &&& b / 2 ^ 1 := Nat.and_div_two_pow ..
      have h3 : (a &&& b) % 2 ^ 1 ≤ b % 2 ^ 1 := by
        rw [Nat.and_mod_two_pow]; exact Nat.and_le_right
      rw [h2]; omega
  have h := key 64 x.toNat y.toNat
  unfold cnt and64
  rw [BitVec.toNat_and]; exact h
/-- Turning one code on is turning the other one back. -/
theorem n_back (a b : IrG) (t : Int) : a.n (b.tn (-t)) 0 = a.n b t := by
  unfold IrG.n IrG.tn cmpN
  rw [← cnt_turn _ t, turn_and, turn_xor, turn_and, turn_back, turn_back, turn_zero, turn_zero]
theorem d_back (a b : IrG) (t : Int) : a.d (b.tn (-t)) 0 = a.d b t := by
  unfold IrG.d IrG.tn cmpD
  rw [← cnt_turn _ t, turn_and, turn_back, turn_zero]
theorem tn_ok {b : IrG} (t : Int) (h : b.ok = true) : (b.tn t).ok = true := by
  unfold IrG.ok vI IrG.tn at *
  rw [decide_eq_true_eq] at *
  show andn64 (turnW b.c t) (turnW b.m t) = 0#64
  rw [← turn_andn, h]
  refine bits_ext fun i hi => ?_
  rw [turn_bit _ _ _ hi]; simp
theorem mem_ordP (t : Int) : ∀ k : Nat, t ∈ ordP (k + 1) ↔ -(k : Int) ≤ t ∧ t ≤ k
  | 0 => by simp [ordP]; omega
  | k + 1 => by
    show t ∈ ordP (k + 1) ++ (if k + 1 = 0 then [0] else [((k + 1 : Nat) : Int), -((k + 1 : Nat) : Int)]) ↔ _
    rw [if_neg (by omega), List.mem_append, mem_ordP t k]
    simp; omega
/-- What the best part is. -/
structure Best (x y : IrG) (l : List Int) (p : Pt) : Prop where
  at_ : 0 < p.d → ∃ t ∈ l, 16 ≤ x.d y t ∧ p.n = x.n y t ∧ p.d = x.d y t
  le : ∀ t ∈ l, 16 ≤ x.d y t → 0 < p.d ∧ p.n * x.d y t ≤ x.n y t * p.d
theorem mul3 {a b c d e f : Nat} (hd : 0 < d) (h1 : a * d ≤ c * b) (h2 : c * f ≤ e * d) : a * f ≤ e * b := by
  -- a/b ≤ c/d ≤ e/f
  refine Nat.le_of_mul_le_mul_right (c := d) ?_ hd
  calc a * f * d = a * d * f := by rw [Nat.mul_assoc, Nat.mul_comm f d, ← Nat.mul_assoc]
    _ ≤ c * b * f := Nat.mul_le_mul_right _ h1
    _ = c * f * b := by rw [Nat.mul_assoc, Nat.mul_comm b f, ← Nat.mul_assoc]
    _ ≤ e * d * b := Nat.mul_le_mul_right _ h2
    _ = e * b * d := by rw [Nat.mul_assoc, Nat.mul_comm d b, ← Nat.mul_assoc]
theorem best_step {x y : IrG} {l : List Int} {p : Pt} (h : Best x y l p) (t : Int) : Best x y (l ++ [t]) (pstep x y p t) := by
  unfold pstep
  by_cases hc : 16 ≤ x.d y t ∧ (Pt.mk (x.n y t) (x.d y t) t).less p = true
  · rw [if_pos hc]
    obtain ⟨h16, hl⟩ := hc
    simp only [Pt.less, Bool.and_eq_true, Bool.or_eq_true, decide_eq_true_eq] at hl
    refine ⟨fun _ => ⟨t, by simp, h16, rfl, rfl⟩, fun s hs h2 => ⟨by simp only; omega, ?_⟩⟩
    rcases List.mem_append.1 hs with hs | hs
    · obtain ⟨h3, h4⟩ := h.le s hs h2
      rcases hl.2 with h5 | h5
      · omega
      · exact mul3 h3 (Nat.le_of_lt h5) h4
    · simp at hs; subst hs; exact Nat.le_refl _
  · rw [if_neg hc]
    refine ⟨fun h0 => ?_, fun s hs h2 => ?_⟩
    · obtain ⟨s, h1, h2⟩ := h.at_ h0
      exact ⟨s, by simp [h1], h2⟩
    · rcases List.mem_append.1 hs with hs | hs
      · exact h.le s hs h2
      · simp at hs; subst hs
        have h3 : ¬ (Pt.mk (x.n y s) (x.d y s) s).less p = true := fun h => hc ⟨h2, h⟩
        simp only [Pt.less, Bool.and_eq_true, Bool.or_eq_true, decide_eq_true_eq, not_and, not_or] at h3
        have h4 := h3 (by omega)
        exact ⟨by omega, Nat.le_of_not_lt h4.2⟩
theorem best_dist (x y : IrG) (l : List Int) : Best x y l (distL x y l) := by
  have key : ∀ r : List Int, Best x y r.reverse (distL x y r.reverse) := by
    intro r
    induction r with
    | nil => exact ⟨fun h => absurd h (Nat.lt_irrefl 0), fun t ht => by simp at ht⟩
    | cons t r ih =>
      rw [List.reverse_cons, distL_snoc]
      exact best_step ih t
  have := key l.reverse
  rwa [List.reverse_reverse] at this
/-- A comparison in one turn matches. -/
def mt1 (a bk : IrG) (num den : Nat) : Bool := decide (16 ≤ a.d bk 0) && decide (a.n bk 0 * den ≤ num * a.d bk 0)
theorem mat_iff (a b : IrG) (n num den : Nat) : matB a b n num den = true ↔ ∃ t : Int, (-(n : Int) ≤ t ∧ t ≤ n) ∧ 16 ≤ a.d b t ∧ a.n b t * den ≤ num * a.d b t := by
  have hb := best_dist a b (ordP (n + 1))
  have hd : dist a b n = distL a b (ordP (n + 1)) := rfl
  unfold matB
  rw [hd]
  generalize distL a b (ordP (n + 1)) = p at hb
  have hc : ((p.n : Int) * den ≤ num * p.d) ↔ p.n * den ≤ num * p.d := by
    rw [← Int.natCast_mul, ← Int.natCast_mul, Int.ofNat_le]
  rw [Bool.and_eq_true, decide_eq_true_eq, decide_eq_true_eq, hc]
  constructor
  · rintro ⟨h1, h2⟩
    obtain ⟨t, h3, h4, h5, h6⟩ := hb.at_ h1
    exact ⟨t, (mem_ordP t n).1 h3, h4, by rw [← h5, ← h6]; exact h2⟩
  · rintro ⟨t, h1, h2, h3⟩
    obtain ⟨h4, h5⟩ := hb.le t ((mem_ordP t n).2 h1) h2
    exact ⟨h4, mul3 (by omega) h5 h3⟩
theorem mat_any (a b : IrG) (n num den : Nat) : matB a b n num den = (List.range (2 * n + 1)).any fun i => mt1 a (bkS b n i) num den := by
  rw [Bool.eq_iff_iff, mat_iff, List.any_eq_true]
  have e : ∀ i : Nat, mt1 a (bkS b n i) num den = (decide (16 ≤ a.d b ((i : Int) - n)) && decide (a.n b ((i : Int) - n) * den ≤ num * a.d b ((i : Int) - n))) := fun i => by
    unfold mt1 bkS
    rw [show (n : Int) - i = -((i : Int) - n) by omega, n_back, d_back]
  constructor
  · rintro ⟨t, h1, h2, h3⟩
    refine ⟨(t + n).toNat, List.mem_range.2 (by omega), ?_⟩
    rw [e, show (((t + n).toNat : Nat) : Int) - n = t by omega]
    simp [h2, h3]
  · rintro ⟨i, h1, h2⟩
    rw [e, Bool.and_eq_true, decide_eq_true_eq, decide_eq_true_eq] at h2
    have := List.mem_range.1 h1
    exact ⟨(i : Int) - n, by omega, h2⟩
/-- Some chunk is near. -/
def nearB (rad : Nat) (a bk : IrG) : Bool := (List.range 8).any fun j => !decide (rad / 8 < cnt8 (and8 (and8 (xor8 (chk a.c j) (chk bk.c j)) (chk a.m j)) (chk bk.m j)))
/-- What matches is near in one chunk. -/
theorem near_of (a b : IrG) (num den : Nat) (hden : 0 < den) (t : Int) (h : mt1 a (b.tn t) num den = true) : nearB (radS b num den) a (b.tn t) = true := by
  unfold mt1 at h
  rw [Bool.and_eq_true, decide_eq_true_eq, decide_eq_true_eq] at h
  have hd : a.d (b.tn t) 0 ≤ cnt b.m := by
    unfold IrG.d cmpD
    refine Nat.le_trans (and_cnt_le _ _) ?_
    show cnt (turnW b.m t) ≤ _
    rw [cnt_turn]; exact Nat.le_refl _
  have hn : a.n (b.tn t) 0 ≤ radS b num den := by
    unfold radS
    rw [Int.toNat_natCast, Int.toNat_natCast, Nat.le_div_iff_mul_le hden]
    refine Nat.le_trans h.2 ?_
    rw [Nat.mul_comm]; exact Nat.mul_le_mul_right _ hd
  generalize b.tn t = bk at *
  have hs : a.n bk 0 = ((List.range 8).map fun j => cnt8 (and8 (and8 (xor8 (chk a.c j) (chk bk.c j)) (chk a.m j)) (chk bk.m j))).sum := by
    unfold IrG.n cmpN
    rw [cnt_chk, turn_zero, turn_zero]
    congr 1
    refine List.map_congr_left fun j _ => ?_
    rw [chk_and, chk_and, chk_xor, and8_assoc]
  rw [hs] at hn
  obtain ⟨j, h1, h2⟩ := pigeon _ _ hn
  unfold nearB
  rw [List.any_eq_true]
  refine ⟨j, List.mem_range.2 h1, ?_⟩
  simp; exact h2
theorem near_mono {r r' : Nat} (h : r ≤ r') {a bk : IrG} (hn : nearB r a bk = true) : nearB r' a bk = true := by
  unfold nearB at *
  rw [List.any_eq_true] at *
  obtain ⟨j, h1, h2⟩ := hn
  refine ⟨j, h1, ?_⟩
  simp at h2 ⊢
  have : r / 8 ≤ r' / 8 := Nat.div_le_div_right h
  omega
end Go.Gx.Ix
