/-
  bits.OnesCount64 and OnesCount8 count the ones; words turned; what a comparison counts.
-/
import Derived.Test.YtdnblflhlklfnaaIa
import Derived.Test.YtdnblflhlklfnaaIb
set_option linter.unusedVariables false
set_option linter.unusedSimpArgs false
set_option maxRecDepth 20000
set_option maxHeartbeats 2000000
namespace Go.Gx.Ix
open Go.RowKit Go.Proofs Go.Proofs.Ytdnblflhlklfnaa

/-- The ones of a word. -/
def cnt (x : BitVec 64) : Nat := ds 1 64 x.toNat
theorem t_and (x y : BitVec 64) : (and64 x y).toNat = x.toNat &&& y.toNat := BitVec.toNat_and ..
theorem t_shr (x : BitVec 64) (n : Nat) : (shr64 x n).toNat = x.toNat / 2 ^ n := by rw [shr64, BitVec.toNat_ushiftRight, Nat.shiftRight_eq_div_pow]
theorem t_add {x y : BitVec 64} (h : fits64 x y) : (add64 x y).toNat = x.toNat + y.toNat := by unfold fits64 at h; unfold add64; rw [BitVec.toNat_add]; omega
theorem sml_top : ∀ n X, sml 4 4 (n + 1) X → X < 5 * 16 ^ n
  | 0, X, h => by
    have h1 : X % 16 ≤ 4 := h.1
    have h2 : X / 16 = 0 := h.2
    omega
  | n + 1, X, h => by
    have h1 : X % 16 ≤ 4 := h.1
    have h2 := sml_top n _ h.2
    have h2 : X / 16 < 5 * 16 ^ n := h2
    rw [Nat.pow_succ]; omega
theorem ones62 (x : BitVec 64) : Pure Try.prog 62 [.w x] (· = .i (cnt x)) := by
  have m0 : (6148914691236517205#64).toNat = mk 1 32 := by decide
  have m1 : (3689348814741910323#64).toNat = mk 2 16 := by decide
  have m2 : (1085102592571150095#64).toNat = mk 4 8 := by decide
  have hb := bits_sml 64 x.toNat x.isLt
  obtain ⟨d1, s1⟩ := sumP_ok (w := 1) (c := 1) (by decide) 32 x.toNat hb
  have l1 := sml_lt (w := 2) (c := 2) (by decide) 32 _ s1
  have f1 : fits64 (and64 (shr64 x 1) 6148914691236517205#64) (and64 x 6148914691236517205#64) := by
    unfold fits64; rw [t_and, t_and, t_shr, m0]; exact l1
  have e1 : (sw1 x).toNat = sumP 1 32 x.toNat := by unfold sw1; rw [t_add f1, t_and, t_and, t_shr, m0]; rfl
  rw [← e1] at d1 s1
  generalize hx1 : sw1 x = x1 at *
  obtain ⟨d2, s2⟩ := sumP_ok (w := 2) (c := 2) (by decide) 16 x1.toNat s1
  have l2 := sml_lt (w := 4) (c := 4) (by decide) 16 _ s2
  have f2 : fits64 (and64 (shr64 x1 2) 3689348814741910323#64) (and64 x1 3689348814741910323#64) := by
    unfold fits64; rw [t_and, t_and, t_shr, m1]; exact l2
  have e2 : (sw2 x1).toNat = sumP 2 16 x1.toNat := by unfold sw2; rw [t_add f2, t_and, t_and, t_shr, m1]; rfl
  rw [← e2] at d2 s2
  generalize hx2 : sw2 x1 = x2 at *
  obtain ⟨d3, s3⟩ := sumT_ok 8 x2.toNat s2
  have l3 := sml_top 15 _ s2
  have f3 : fits64 (shr64 x2 4) x2 := by unfold fits64; rw [t_shr]; simp only [Nat.reducePow, Nat.reduceMul] at l3 ⊢; omega
  have e3 : (sw3 x2).toNat = sumT 8 x2.toNat := by unfold sw3; rw [t_and, t_add f3, t_shr, m2]; rfl
  rw [← e3] at d3 s3
  generalize hx3 : sw3 x2 = x3 at *
  obtain ⟨q1, q2, q3, q4⟩ := sumL s3
  have f4 : fits64 x3 (shr64 x3 8) := by unfold fits64; rw [t_shr]; exact q1
  have e4 : (sw4 x3 8).toNat = x3.toNat + x3.toNat / 256 := by unfold sw4; rw [t_add f4, t_shr]
  rw [← e4] at q2 q3 q4
  generalize hx4 : sw4 x3 8 = x4 at *
  have f5 : fits64 x4 (shr64 x4 16) := by unfold fits64; rw [t_shr]; exact q2
  have e5 : (sw4 x4 16).toNat = x4.toNat + x4.toNat / 65536 := by unfold sw4; rw [t_add f5, t_shr]
  rw [← e5] at q3 q4
  generalize hx5 : sw4 x4 16 = x5 at *
  have f6 : fits64 x5 (shr64 x5 32) := by unfold fits64; rw [t_shr]; exact q3
  have e6 : (sw4 x5 32).toNat = x5.toNat + x5.toNat / 4294967296 := by unfold sw4; rw [t_add f6, t_shr]
  have h := ones62' x hx1 hx2 hx3 hx4 hx5 rfl f1 f2 f3 f4 f5 f6
  rw [e6, q4, d3, d2, d1] at h
  exact h
def cnt8 (x : BitVec 8) : Nat := ds 1 8 x.toNat
theorem ones64' (x : BitVec 8) : Pure Try.prog 64 [.y x] (· = .i (cnt8 x)) := by
  have h : ∀ n : Fin 256, Lib.onesCount n.val = ds 1 8 n.val := by decide +kernel
  have h1 := ones64 x
  rw [h ⟨x.toNat, x.isLt⟩] at h1
  exact h1

/-- A word with its rows turned: row by row. -/
def rowT (w : BitVec 64) (at_ : Nat) (t : Int) : BitVec 64 := shl64 (up64 (rol16 (to16 (shr64 w at_)) (t % 16).toNat)) at_
def turnU (w : BitVec 64) (t : Int) : Nat → BitVec 64
  | 0 => 0#64
  | k + 1 => or64 (turnU w t k) (rowT w (16 * k) t)
def turnW (w : BitVec 64) (t : Int) : BitVec 64 := turnU w t 4
theorem turn101 (w : BitVec 64) (t : Int) : Pure Try.prog 101 [.w w, .i t] (· = .w (turnW w t)) := by
  refine pure_of_GC T_ok Try.func101 rfl (by kernel_rfl) (Nat.le_of_ble_eq_true rfl) rfl rfl ?_
  simp [go_sem]
  refine GLoop_of T_ok (α := Nat) (fun k => [(0, .w w), (1, .i t), (5, .w (turnU w t k)), (6, .i (16 * k : Nat))]) (fun _ => []) 0
    (fun k => k ≤ 4) (fun k => 4 - k) 0 (fun _ => rfl) (by simp) (by simp [go_sem, turnU]) (by simp [go_sem]) ?_
  intro k J hi
  by_cases hk : k < 4
  · have h1 : (16 : Int) * k < 64 := by omega
    have h2 : ((16 : Int) * k).toNat = 16 * k := by omega
    simp [go_sem, h1, h2]
    refine ⟨by omega, call_val (rot119 _ t) rfl rfl ?_⟩
    simp [go_sem, h2]
    refine ⟨by omega, by omega, k + 1, by omega, by omega, ?_, by omega⟩
    rfl
  · have h1 : ¬ (16 : Int) * k < 64 := by omega
    have h2 : k = 4 := by omega
    subst h2
    simp [go_sem, turnW]
theorem turn87 (c m : BitVec 64) (t : Int) : Pure Try.prog 87 [.agg [.w c, .w m], .i t] (· = .agg [.w (turnW c t), .w (turnW m t)]) := by
  refine pure_of_GC T_ok Try.func87 rfl (by kernel_rfl) (Nat.le_of_ble_eq_true rfl) rfl rfl ?_
  simp [go_sem]
  refine GDraw_all T_ok (by kernel_rfl) (by kernel_rfl) ?_
  simp [go_sem]
  refine call_val (turn101 c t) rfl rfl ?_
  simp [go_sem]
  refine call_val (turn101 m t) rfl rfl ?_
  simp [go_sem]
def cmpN (c m c2 m2 : BitVec 64) : Nat := cnt (and64 (xor64 c c2) (and64 m m2))
def cmpD (m m2 : BitVec 64) : Nat := cnt (and64 m m2)
theorem compare88 (c m c2 m2 : BitVec 64) : Pure Try.prog 88 [.agg [.w c, .w m], .agg [.w c2, .w m2]] (· = .tup [.i (cmpN c m c2 m2), .i (cmpD m m2)]) := by
  refine pure_of_GC T_ok Try.func88 rfl (by kernel_rfl) (Nat.le_of_ble_eq_true rfl) rfl rfl ?_
  simp [go_sem]
  refine call_val (ones62 _) rfl rfl ?_
  simp [go_sem]
  refine call_val (ones62 _) rfl rfl ?_
  simp [go_sem, cmpN, cmpD]
theorem less90 (n d t n2 d2 t2 : Int) (h1 : inr .i64 (n * d2)) (h2 : inr .i64 (n2 * d)) : Pure Try.prog 90 [.agg [.i n, .i d, .i t], .agg [.i n2, .i d2, .i t2]] (· = .b (decide (0 < d) && (decide (d2 = 0) || decide (n * d2 < n2 * d)))) := by
  refine pure_of_GC T_ok Try.func90 rfl (by kernel_rfl) (Nat.le_of_ble_eq_true rfl) rfl rfl ?_
  by_cases h3 : 0 < d <;> by_cases h4 : d2 = 0 <;> simp [go_sem, h1, h2, h3, h4]
  exact ⟨h1, h2⟩

/-- Codes in a row, all valid. -/
structure IrG where
  c : BitVec 64
  m : BitVec 64
def IrG.f (x : IrG) : Nat → RV
  | 0 => .w x.c
  | _ => .w x.m
@[go_sem] theorem IrG.f0 (x : IrG) : x.f 0 = .w x.c := rfl
@[go_sem] theorem IrG.f1 (x : IrG) : x.f 1 = .w x.m := rfl
abbrev IrG.sv (x : IrG) : SV := .agg [.w x.c, .w x.m]
def IrG.ok (x : IrG) : Bool := vI x.c x.m
def allI (n : Nat) (g : Nat → IrG) : Bool := (List.range n).all fun i => (g i).ok
theorem allI_iff {n : Nat} {g : Nat → IrG} : allI n g = true ↔ ∀ i, i < n → (g i).ok = true := by simp [allI]
theorem valid69 (n : Nat) (hn : n ≤ 1000000000) (g : Nat → IrG) : Pure Try.prog 69 [.r (.rs 2 n fun i j => (g i).f j)] (· = .b (allI n g)) := by
  refine pure_of_GC T_ok Try.func69 rfl (by kernel_rfl) (Nat.le_of_ble_eq_true rfl) rfl rfl ?_
  simp [go_sem]
  refine GLoop_of T_ok (α := Nat) (fun k => [(5, .r (.rs 2 n fun i j => (g i).f j)), (6, .i n), (7, .i k)]) (fun _ => []) 0 (fun k => k ≤ n ∧ ∀ j, j < k → (g j).ok = true) (fun k => n - k) 0 (fun _ => rfl) (by simp) (by simp [go_sem]) (by simp [go_sem]) ?_
  intro k J hi
  by_cases hlt : k < n
  · simp [go_sem, hlt]
    refine call_val (check51 _ _) rfl rfl ?_
    by_cases hv : vI (g k).c (g k).m = true
    · simp [go_sem, hv]
      refine ⟨by omega, k + 1, ⟨by omega, fun j hj => ?_⟩, by omega, by simp⟩
      rcases Nat.lt_succ_iff_lt_or_eq.1 hj with h | rfl
      · exact hi.2 j h
      · exact hv
    · simp [go_sem, hv]
      have : allI n g = false := by
        cases h : allI n g with
        | false => rfl
        | true => exact absurd (allI_iff.1 h k hlt) hv
      exact this
  · simp [go_sem, hlt]
    exact allI_iff.2 fun j hj => hi.2 j (by omega)
end Go.Gx.Ix
