/-
  The ones of a word: what the library's steps give (plain).
-/
import Derived.Test.YtdnblflhlklfnaaKr
set_option linter.unusedVariables false
set_option linter.unusedSimpArgs false
set_option maxRecDepth 20000
namespace Go.Gx.Ix

theorem and_split {k q m Y M : Nat} (hq : q < 2 ^ k) (hm : m < 2 ^ k) : (2 ^ k * Y + q) &&& (2 ^ k * M + m) = 2 ^ k * (Y &&& M) + (q &&& m) := by
  apply Nat.eq_of_testBit_eq
  intro j
  have h3 : q &&& m < 2 ^ k := Nat.lt_of_le_of_lt Nat.and_le_left hq
  rw [Nat.testBit_and, Nat.testBit_two_pow_mul_add _ hq, Nat.testBit_two_pow_mul_add _ hm, Nat.testBit_two_pow_mul_add _ h3]
  by_cases h : j < k
  · simp [h, Nat.testBit_and]
  · simp [h, Nat.testBit_and]
/-- A mask: the lower half of each of n fields of 2 w bits. -/
def mk (w : Nat) : Nat → Nat
  | 0 => 0
  | n + 1 => 2 ^ (2 * w) * mk w n + (2 ^ w - 1)
theorem mu_lt (w : Nat) : 2 ^ w - 1 < 2 ^ (2 * w) := by
  have h1 : 2 ^ w ≤ 2 ^ (2 * w) := Nat.pow_le_pow_right (by decide) (by omega)
  have h2 : 0 < 2 ^ w := Nat.pow_pos (by decide)
  omega
theorem lo_succ (w n X : Nat) : X &&& mk w (n + 1) = 2 ^ (2 * w) * ((X / 2 ^ (2 * w)) &&& mk w n) + X % 2 ^ w := by
  have h := and_split (k := 2 * w) (q := X % 2 ^ (2 * w)) (m := 2 ^ w - 1) (Y := X / 2 ^ (2 * w)) (M := mk w n) (Nat.mod_lt _ (Nat.pow_pos (by decide))) (mu_lt w)
  rw [Nat.div_add_mod] at h
  show X &&& (2 ^ (2 * w) * mk w n + (2 ^ w - 1)) = _
  rw [h, Nat.and_two_pow_sub_one_eq_mod]
  congr 1
  exact Nat.mod_mod_of_dvd _ (Nat.pow_dvd_pow 2 (by omega))
/-- The sum of n fields of w bits. -/
def ds (w : Nat) : Nat → Nat → Nat
  | 0, _ => 0
  | n + 1, X => X % 2 ^ w + ds w n (X / 2 ^ w)
/-- All of n fields of w bits are at most c. -/
def sml (w c : Nat) : Nat → Nat → Prop
  | 0, X => X = 0
  | n + 1, X => X % 2 ^ w ≤ c ∧ sml w c n (X / 2 ^ w)
def sumP (w n X : Nat) : Nat := ((X / 2 ^ w) &&& mk w n) + (X &&& mk w n)
theorem sumP_succ (w n X : Nat) : sumP w (n + 1) X = 2 ^ (2 * w) * sumP w n (X / 2 ^ (2 * w)) + (X / 2 ^ w % 2 ^ w + X % 2 ^ w) := by
  unfold sumP
  rw [lo_succ, lo_succ, Nat.div_div_eq_div_mul, Nat.div_div_eq_div_mul, Nat.mul_comm (2 ^ w) (2 ^ (2 * w)), Nat.mul_add]
  omega
theorem dd (w X : Nat) : X / 2 ^ w / 2 ^ w = X / 2 ^ (2 * w) := by
  rw [Nat.div_div_eq_div_mul, ← Nat.pow_add]; congr 2; omega
theorem sumP_ok {w c : Nat} (hc : 2 * c < 2 ^ (2 * w)) : ∀ n X, sml w c (2 * n) X → ds (2 * w) n (sumP w n X) = ds w (2 * n) X ∧ sml (2 * w) (2 * c) n (sumP w n X)
  | 0, X, h => by
    have h : X = 0 := h
    subst h
    simp [sumP, ds, sml]
  | n + 1, X, h => by
    have e : 2 * (n + 1) = (2 * n + 1) + 1 := by omega
    rw [e] at h
    obtain ⟨h1, h2, h3⟩ := h
    rw [dd] at h3
    obtain ⟨i1, i2⟩ := sumP_ok hc n _ h3
    have hlt : X / 2 ^ w % 2 ^ w + X % 2 ^ w < 2 ^ (2 * w) := by omega
    rw [sumP_succ]
    have hm : (2 ^ (2 * w) * sumP w n (X / 2 ^ (2 * w)) + (X / 2 ^ w % 2 ^ w + X % 2 ^ w)) % 2 ^ (2 * w) = X / 2 ^ w % 2 ^ w + X % 2 ^ w := by
      rw [Nat.mul_add_mod, Nat.mod_eq_of_lt hlt]
    have hd : (2 ^ (2 * w) * sumP w n (X / 2 ^ (2 * w)) + (X / 2 ^ w % 2 ^ w + X % 2 ^ w)) / 2 ^ (2 * w) = sumP w n (X / 2 ^ (2 * w)) := by
      rw [Nat.mul_add_div (Nat.pow_pos (by decide)), Nat.div_eq_of_lt hlt]; omega
    refine ⟨?_, ?_⟩
    · show _ % 2 ^ (2 * w) + ds (2 * w) n (_ / 2 ^ (2 * w)) = _
      rw [hm, hd, i1, e]
      show _ = X % 2 ^ w + (X / 2 ^ w % 2 ^ w + ds w (2 * n) (X / 2 ^ w / 2 ^ w))
      rw [dd]; omega
    · refine ⟨?_, ?_⟩
      · rw [hm]; omega
      · rw [hd]; exact i2
theorem sml_lt {w c : Nat} (hc : c < 2 ^ w) : ∀ n X, sml w c n X → X < 2 ^ (w * n)
  | 0, X, h => by
    have h : X = 0 := h
    subst h; simp
  | n + 1, X, h => by
    have := sml_lt hc n _ h.2
    rw [Nat.div_lt_iff_lt_mul (Nat.pow_pos (by decide)), ← Nat.pow_add] at this
    rw [Nat.mul_add, Nat.mul_one]; exact this
/-- The step of four bits: added first, masked then. -/
def sumT (n X : Nat) : Nat := (X / 16 + X) &&& mk 4 n
theorem cons8 (n Y : Nat) {r : Nat} (hr : r ≤ 8) : ds 8 (n + 1) (256 * Y + r) = r + ds 8 n Y ∧ (sml 8 8 n Y → sml 8 8 (n + 1) (256 * Y + r)) := by
  have h1 : (256 * Y + r) % 256 = r := by omega
  have h2 : (256 * Y + r) / 256 = Y := by omega
  refine ⟨?_, fun h => ⟨?_, ?_⟩⟩
  · show (256 * Y + r) % 256 + ds 8 n ((256 * Y + r) / 256) = _
    rw [h1, h2]
  · show (256 * Y + r) % 256 ≤ 8
    rw [h1]; exact hr
  · show sml 8 8 n ((256 * Y + r) / 256)
    rw [h2]; exact h
theorem sumT_ok : ∀ n X, sml 4 4 (2 * n) X → ds 8 n (sumT n X) = ds 4 (2 * n) X ∧ sml 8 8 n (sumT n X)
  | 0, X, h => by
    have h : X = 0 := h
    subst h
    simp [sumT, ds, sml]
  | n + 1, X, h => by
    have e : 2 * (n + 1) = (2 * n + 1) + 1 := by omega
    rw [e] at h
    obtain ⟨h1, h2, h3⟩ := h
    have h1 : X % 16 ≤ 4 := h1
    have h2 : X / 16 % 16 ≤ 4 := h2
    have h3 : sml 4 4 (2 * n) (X / 16 / 16) := h3
    have d1 : X / 16 / 16 = X / 256 := by omega
    rw [d1] at h3
    obtain ⟨i1, i2⟩ := sumT_ok n _ h3
    have h4 : X / 256 % 16 ≤ 4 := by
      cases n with
      | zero => have h3 : X / 256 = 0 := h3; omega
      | succ n => rw [show 2 * (n + 1) = (2 * n + 1) + 1 from by omega] at h3; exact h3.1
    have hs : sumT (n + 1) X = 256 * sumT n (X / 256) + (X / 16 % 16 + X % 16) := by
      unfold sumT
      rw [lo_succ]
      have e1 : (X / 16 + X) / 2 ^ (2 * 4) = X / 256 / 16 + X / 256 := by
        show (X / 16 + X) / 256 = _
        omega
      have e2 : (X / 16 + X) % 2 ^ 4 = X / 16 % 16 + X % 16 := by
        show (X / 16 + X) % 16 = _
        omega
      rw [e1, e2]
    rw [hs]
    have hr : X / 16 % 16 + X % 16 ≤ 8 := by clear hs i1 i2 h3; omega
    have e3 : ds 4 (2 * n + 1 + 1) X = X % 16 + (X / 16 % 16 + ds 4 (2 * n) (X / 256)) := by
      show _ = _
      rw [← d1]; rfl
    obtain ⟨c1, c2⟩ := cons8 n (sumT n (X / 256)) hr
    rw [c1, e, e3, i1]
    exact ⟨by clear hs i1 i2 h3 c1 c2 e3; omega, c2 i2⟩
theorem divr {a m q r : Nat} (h : a = m * q + r) (hr : r < m) : a / m = q := by
  subst h
  rw [Nat.mul_add_div (by omega), Nat.div_eq_of_lt hr, Nat.add_zero]
theorem uncons8 {n X : Nat} (h : sml 8 8 (n + 1) X) : ∃ t Y, X = t + 256 * Y ∧ t ≤ 8 ∧ sml 8 8 n Y ∧ ds 8 (n + 1) X = t + ds 8 n Y :=
  ⟨X % 256, X / 256, by omega, h.1, h.2, rfl⟩
/-- The last three steps. -/
theorem st1 {t0 t1 t2 t3 t4 t5 t6 t7 : Nat} (b0 : t0 ≤ 8) : (t0 + 256 * t1 + 65536 * t2 + 16777216 * t3 + 4294967296 * t4 + 1099511627776 * t5 + 281474976710656 * t6 + 72057594037927936 * t7) / 256 = t1 + 256 * t2 + 65536 * t3 + 16777216 * t4 + 4294967296 * t5 + 1099511627776 * t6 + 281474976710656 * t7 := divr (r := t0) (by omega) (by omega)
theorem st1' {t0 t1 t2 t3 t4 t5 t6 t7 : Nat}  : (t0 + 256 * t1 + 65536 * t2 + 16777216 * t3 + 4294967296 * t4 + 1099511627776 * t5 + 281474976710656 * t6 + 72057594037927936 * t7) + (t1 + 256 * t2 + 65536 * t3 + 16777216 * t4 + 4294967296 * t5 + 1099511627776 * t6 + 281474976710656 * t7) = (t0 + t1) + 256 * (t1 + t2) + 65536 * (t2 + t3) + 16777216 * (t3 + t4) + 4294967296 * (t4 + t5) + 1099511627776 * (t5 + t6) + 281474976710656 * (t6 + t7) + 72057594037927936 * (t7) := by omega
theorem st2 {t0 t1 t2 t3 t4 t5 t6 t7 : Nat} (b0 : t0 ≤ 8) (b1 : t1 ≤ 8) (b2 : t2 ≤ 8) : ((t0 + t1) + 256 * (t1 + t2) + 65536 * (t2 + t3) + 16777216 * (t3 + t4) + 4294967296 * (t4 + t5) + 1099511627776 * (t5 + t6) + 281474976710656 * (t6 + t7) + 72057594037927936 * (t7)) / 65536 = (t2 + t3) + 256 * (t3 + t4) + 65536 * (t4 + t5) + 16777216 * (t5 + t6) + 4294967296 * (t6 + t7) + 1099511627776 * (t7) := divr (r := (t0 + t1) + 256 * (t1 + t2)) (by omega) (by omega)
theorem st2' {t0 t1 t2 t3 t4 t5 t6 t7 : Nat}  : ((t0 + t1) + 256 * (t1 + t2) + 65536 * (t2 + t3) + 16777216 * (t3 + t4) + 4294967296 * (t4 + t5) + 1099511627776 * (t5 + t6) + 281474976710656 * (t6 + t7) + 72057594037927936 * (t7)) + ((t2 + t3) + 256 * (t3 + t4) + 65536 * (t4 + t5) + 16777216 * (t5 + t6) + 4294967296 * (t6 + t7) + 1099511627776 * (t7)) = (t0 + t1 + t2 + t3) + 256 * (t1 + t2 + t3 + t4) + 65536 * (t2 + t3 + t4 + t5) + 16777216 * (t3 + t4 + t5 + t6) + 4294967296 * (t4 + t5 + t6 + t7) + 1099511627776 * (t5 + t6 + t7) + 281474976710656 * (t6 + t7) + 72057594037927936 * (t7) := by omega
theorem st3 {t0 t1 t2 t3 t4 t5 t6 t7 : Nat} (b0 : t0 ≤ 8) (b1 : t1 ≤ 8) (b2 : t2 ≤ 8) (b3 : t3 ≤ 8) (b4 : t4 ≤ 8) (b5 : t5 ≤ 8) (b6 : t6 ≤ 8) (b7 : t7 ≤ 8) : ((t0 + t1 + t2 + t3) + 256 * (t1 + t2 + t3 + t4) + 65536 * (t2 + t3 + t4 + t5) + 16777216 * (t3 + t4 + t5 + t6) + 4294967296 * (t4 + t5 + t6 + t7) + 1099511627776 * (t5 + t6 + t7) + 281474976710656 * (t6 + t7) + 72057594037927936 * (t7)) / 4294967296 = (t4 + t5 + t6 + t7) + 256 * (t5 + t6 + t7) + 65536 * (t6 + t7) + 16777216 * (t7) := divr (r := (t0 + t1 + t2 + t3) + 256 * (t1 + t2 + t3 + t4) + 65536 * (t2 + t3 + t4 + t5) + 16777216 * (t3 + t4 + t5 + t6)) (by omega) (by omega)
theorem st3' {t0 t1 t2 t3 t4 t5 t6 t7 : Nat}  : ((t0 + t1 + t2 + t3) + 256 * (t1 + t2 + t3 + t4) + 65536 * (t2 + t3 + t4 + t5) + 16777216 * (t3 + t4 + t5 + t6) + 4294967296 * (t4 + t5 + t6 + t7) + 1099511627776 * (t5 + t6 + t7) + 281474976710656 * (t6 + t7) + 72057594037927936 * (t7)) + ((t4 + t5 + t6 + t7) + 256 * (t5 + t6 + t7) + 65536 * (t6 + t7) + 16777216 * (t7)) = (t0 + t1 + t2 + t3 + t4 + t5 + t6 + t7) + 256 * (t1 + t2 + t3 + t4 + t5 + t6 + t7) + 65536 * (t2 + t3 + t4 + t5 + t6 + t7) + 16777216 * (t3 + t4 + t5 + t6 + t7) + 4294967296 * (t4 + t5 + t6 + t7) + 1099511627776 * (t5 + t6 + t7) + 281474976710656 * (t6 + t7) + 72057594037927936 * (t7) := by omega
theorem stm {t0 t1 t2 t3 t4 t5 t6 t7 : Nat}  : ((t0 + t1 + t2 + t3 + t4 + t5 + t6 + t7) + 256 * (t1 + t2 + t3 + t4 + t5 + t6 + t7) + 65536 * (t2 + t3 + t4 + t5 + t6 + t7) + 16777216 * (t3 + t4 + t5 + t6 + t7) + 4294967296 * (t4 + t5 + t6 + t7) + 1099511627776 * (t5 + t6 + t7) + 281474976710656 * (t6 + t7) + 72057594037927936 * (t7)) = 128 * (2 * (t1 + t2 + t3 + t4 + t5 + t6 + t7) + 512 * (t2 + t3 + t4 + t5 + t6 + t7) + 131072 * (t3 + t4 + t5 + t6 + t7) + 33554432 * (t4 + t5 + t6 + t7) + 8589934592 * (t5 + t6 + t7) + 2199023255552 * (t6 + t7) + 562949953421312 * (t7)) + (t0 + t1 + t2 + t3 + t4 + t5 + t6 + t7) := by omega
theorem stl {t0 t1 t2 t3 t4 t5 t6 t7 : Nat} (b0 : t0 ≤ 64) (b1 : t1 ≤ 64) (b2 : t2 ≤ 64) (b3 : t3 ≤ 64) (b4 : t4 ≤ 64) (b5 : t5 ≤ 64) (b6 : t6 ≤ 64) (b7 : t7 ≤ 64) : t0 + 256 * t1 + 65536 * t2 + 16777216 * t3 + 4294967296 * t4 + 1099511627776 * t5 + 281474976710656 * t6 + 72057594037927936 * t7 < 18446744073709551616 := by omega
theorem sumL {X : Nat} (h : sml 8 8 8 X) : let a := X + X / 256; let b := a + a / 65536; let c := b + b / 4294967296
    a < 18446744073709551616 ∧ b < 18446744073709551616 ∧ c < 18446744073709551616 ∧ c % 128 = ds 8 8 X := by
  obtain ⟨t0, X1, e0, b0, h, d0⟩ := uncons8 h
  obtain ⟨t1, X2, e1, b1, h, d1⟩ := uncons8 h
  obtain ⟨t2, X3, e2, b2, h, d2⟩ := uncons8 h
  obtain ⟨t3, X4, e3, b3, h, d3⟩ := uncons8 h
  obtain ⟨t4, X5, e4, b4, h, d4⟩ := uncons8 h
  obtain ⟨t5, X6, e5, b5, h, d5⟩ := uncons8 h
  obtain ⟨t6, X7, e6, b6, h, d6⟩ := uncons8 h
  obtain ⟨t7, X8, e7, b7, h, d7⟩ := uncons8 h
  have h : X8 = 0 := h
  have d8 : ds 8 0 X8 = 0 := rfl
  rw [d0, d1, d2, d3, d4, d5, d6, d7, d8]
  clear d0 d1 d2 d3 d4 d5 d6 d7 d8
  have hx : X = t0 + 256 * t1 + 65536 * t2 + 16777216 * t3 + 4294967296 * t4 + 1099511627776 * t5 + 281474976710656 * t6 + 72057594037927936 * t7 := by
    rw [e0, e1, e2, e3, e4, e5, e6, e7, h]
    try simp only [Nat.mul_add, ← Nat.mul_assoc, Nat.reduceMul, ← Nat.add_assoc, Nat.mul_zero, Nat.add_zero]
  clear e0 e1 e2 e3 e4 e5 e6 e7 h
  subst hx
  simp only [st1 b0, st1', st2 b0 b1 b2, st2', st3 b0 b1 b2 b3 b4 b5 b6 b7, st3']
  refine ⟨stl ?_ ?_ ?_ ?_ ?_ ?_ ?_ ?_, stl ?_ ?_ ?_ ?_ ?_ ?_ ?_ ?_, stl ?_ ?_ ?_ ?_ ?_ ?_ ?_ ?_, ?_⟩
  all_goals omega
theorem bits_sml : ∀ n X, X < 2 ^ n → sml 1 1 n X
  | 0, X, h => by
    show X = 0
    simp at h; exact h
  | n + 1, X, h => ⟨by omega, bits_sml n _ (by rw [Nat.pow_succ] at h; omega)⟩
end Go.Gx.Ix
