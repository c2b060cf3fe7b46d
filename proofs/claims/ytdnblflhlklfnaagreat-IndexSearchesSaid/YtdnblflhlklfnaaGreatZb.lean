/-
  Seat Z of Index: Turned, Compared, Far, Matched, count, Sees.
-/
import Derived.Test.YtdnblflhlklfnaaGreatZa
set_option linter.unusedVariables false
set_option linter.unusedSimpArgs false
set_option maxRecDepth 20000
set_option maxHeartbeats 4000000
namespace Go.Gx.Ix
open Go.RowKit Go.Proofs Go.Proofs.YtdnblflhlklfnaaGreat

theorem moved79 (w : BitVec 64) (t : Int) (h1 : -16 ≤ t) (h2 : t ≤ 16) : Pure Tryz.prog 79 [.w w, .i t] (· = .w (turnW w t)) := by
  have := moved79' w t h1 h2
  rwa [mv_turn w h1] at this
theorem turned68 (x : IrG) (t : Int) (h1 : -16 ≤ t) (h2 : t ≤ 16) : Pure Tryz.prog 68 [x.sv, .i t] (· = (x.tn t).sv) := by
  refine pure_of_GC T_ok Tryz.func68 rfl (by kernel_rfl) (Nat.le_of_ble_eq_true rfl) rfl rfl ?_
  simp [go_sem]
  refine GDraw_l (t := (.take 0 (.take 1 (.take 2 (.take 4 (.take 5 (.take 6 (.alt 3 [6, 5, 4, 2, 1, 0] (.alt 7 [6, 5, 4, 0] (.take 8 (.alt 9 [8, 4, 0] (.done []) .nil)) .nil) .nil)))))))) T_ok (by kernel_rfl) (by kernel_rfl) (by kernel_rfl) (fun _ _ _ _ h => h) ?_
  simp [go_sem]
  refine call_val (moved79 x.c t h1 h2) rfl rfl ?_
  simp [go_sem]
  refine call_val (moved79 x.m t h1 h2) rfl rfl ?_
  simp [go_sem, IrG.tn]
theorem count50 (w : BitVec 64) : Pure Tryz.prog 50 [.w w] (· = .i (cnt w)) := by
  refine pure_of_GC T_ok Tryz.func50 rfl (by kernel_rfl) (Nat.le_of_ble_eq_true rfl) rfl rfl ?_
  simp [go_sem]
  refine GLoop_s T_ok (α := Nat) (fun k => [(0, .w w), (3, .i (cntK w k)), (4, .i k)]) (fun _ => []) 0 (fun k => k ≤ 64) (fun k => 64 - k) 0 (fun _ => rfl) (by simp) (by simp [go_sem, cntK, ds]) (by simp [go_sem]) ?_
  intro k J hk
  by_cases hkl : k < 64
  · have hkl' : (k : Int) < 64 := by omega
    have hs := cntK_succ w k
    have hle := cntK_le w k
    have h1 : (and64 (shr64 w k) 1#64).toNat = w.toNat / 2 ^ k % 2 := by
      rw [t_and, t_shr]
      exact Nat.and_one_is_mod _
    have h2 : w.getLsbD k = decide (w.toNat / 2 ^ k % 2 = 1) := by rw [BitVec.getLsbD, Nat.testBit_eq_decide_div_mod_eq]
    simp [go_sem, hkl']
    rw [h1, wrap_inr (by simp only [inr]; omega)]
    refine ⟨by omega, by omega, k + 1, by omega, by omega, ?_, by omega⟩
    rw [hs, h2]
    by_cases hb : w.toNat / 2 ^ k % 2 = 1
    · simp [hb]
    · have : w.toNat / 2 ^ k % 2 = 0 := by omega
      simp [hb, this]
  · have hke : k = 64 := by omega
    subst hke
    simp [go_sem, cntK_all]
theorem compared52 (x y : IrG) (t : Int) (h1 : -16 ≤ t) (h2 : t ≤ 16) : Pure Tryz.prog 52 [x.sv, y.sv, .i t] (· = .tup [.i (x.n y t), .i (x.d y t)]) := by
  refine pure_of_GC T_ok Tryz.func52 rfl (by kernel_rfl) (Nat.le_of_ble_eq_true rfl) rfl rfl ?_
  simp [go_sem]
  refine call_val (turned68 x t h1 h2) rfl rfl ?_
  obtain ⟨z, hz⟩ : ∃ z, x.tn t = z := ⟨_, rfl⟩
  have hn : x.n y t = cnt (and64 (xor64 z.c y.c) (and64 z.m y.m)) := by rw [← hz]; rfl
  have hd : x.d y t = cnt (and64 z.m y.m) := by rw [← hz]; rfl
  rw [hn, hd, hz]
  simp [go_sem]
  refine GLoop_s T_ok (α := Nat) (fun k => [(3, .ptr 0 0 2 0), (4, .ptr 1 0 2 0), (8, .i (cntK (and64 (xor64 z.c y.c) (and64 z.m y.m)) k)), (9, .i (cntK (and64 z.m y.m) k)), (10, .i k)]) (fun _ => [some (.box [.w z.c, .w z.m]), some (.box [.w y.c, .w y.m])]) 2 (fun k => k ≤ 64) (fun k => 64 - k) 0 (fun _ => rfl) (by simp) (by simp [go_sem, cntK, ds]) (by simp [go_sem]) ?_
  intro k J hk
  by_cases hkl : k < 64
  · have hkl' : (k : Int) < 64 := by omega
    have hs1 := cntK_succ (and64 (xor64 z.c y.c) (and64 z.m y.m)) k
    have hs2 := cntK_succ (and64 z.m y.m) k
    have hl1 := cntK_le (and64 (xor64 z.c y.c) (and64 z.m y.m)) k
    have hl2 := cntK_le (and64 z.m y.m) k
    have b1 : (and64 (xor64 z.c y.c) (and64 z.m y.m)).getLsbD k = ((z.c.getLsbD k ^^ y.c.getLsbD k) && (z.m.getLsbD k && y.m.getLsbD k)) := by
      unfold and64 xor64
      rw [BitVec.getLsbD_and, BitVec.getLsbD_xor, BitVec.getLsbD_and]
    have b2 : (and64 z.m y.m).getLsbD k = (z.m.getLsbD k && y.m.getLsbD k) := by unfold and64; rw [BitVec.getLsbD_and]
    rw [b1] at hs1
    rw [b2] at hs2
    generalize cntK (and64 (xor64 z.c y.c) (and64 z.m y.m)) k = n1 at *
    generalize cntK (and64 z.m y.m) k = n2 at *
    simp [go_sem, hkl']
    refine call_val (bit70 z.m k hkl) rfl rfl ?_
    cases e1 : z.m.getLsbD k
    · rw [e1] at hs1 hs2
      simp at hs1 hs2
      simp [go_sem]
      refine ⟨by omega, k + 1, by omega, by omega, ?_⟩
      rw [hs1, hs2]
      exact ⟨rfl, rfl, by omega⟩
    simp [go_sem]
    refine call_val (bit70 y.m k hkl) rfl rfl ?_
    cases e2 : y.m.getLsbD k
    · rw [e1, e2] at hs1 hs2
      simp at hs1 hs2
      simp [go_sem]
      refine ⟨by omega, k + 1, by omega, by omega, ?_⟩
      rw [hs1, hs2]
      exact ⟨rfl, rfl, by omega⟩
    rw [e1, e2] at hs1 hs2
    simp at hs1 hs2
    simp [go_sem]
    refine ⟨by omega, ?_⟩
    refine GDraw_l (t := (.take 0 (.take 1 (.take 2 (.take 4 (.take 5 (.take 6 (.alt 3 [6, 5, 4, 2, 1, 0] (.alt 7 [6, 5, 4, 0] (.take 8 (.done [8, 4, 0])) .nil) .nil)))))))) T_ok (by kernel_rfl) (by kernel_rfl) (by kernel_rfl) (fun _ _ _ _ h => h) ?_
    simp [go_sem]
    refine call_val (bit70 z.c k hkl) rfl rfl ?_
    simp [go_sem]
    refine call_val (bit70 y.c k hkl) rfl rfl ?_
    simp [go_sem]
    cases e3 : z.c.getLsbD k <;> cases e4 : y.c.getLsbD k <;> rw [e3, e4] at hs1 <;> simp at hs1 <;> simp [go_sem]
    all_goals
      first
      | refine ⟨by omega, k + 1, by omega, by omega, ?_⟩
        rw [hs1, hs2]
        exact ⟨rfl, by omega, by omega⟩
      | refine ⟨by omega, by omega, k + 1, by omega, by omega, ?_⟩
        rw [hs1, hs2]
        exact ⟨by omega, by omega, by omega⟩
  · have hke : k = 64 := by omega
    subst hke
    simp [go_sem, cntK_all]
/-- The i-th turn. -/
def trn (i : Nat) : Int := if i % 2 = 1 then ((i + 1) / 2 : Nat) else -((i / 2 : Nat) : Int)
theorem turn55 (i : Nat) (hi : i ≤ 100) : Pure Tryz.prog 55 [.i i] (· = .i (trn i)) := by
  refine pure_of_GC T_ok Tryz.func55 rfl (by kernel_rfl) (Nat.le_of_ble_eq_true rfl) rfl rfl ?_
  simp [go_sem]
  have h1 : (i : Int).tmod 2 = ((i % 2 : Nat) : Int) := by rw [Int.tmod_eq_emod_of_nonneg (by omega)]; simp
  unfold trn
  by_cases h : i % 2 = 1
  · rw [if_pos h, h1, if_pos (by omega)]
    have h2 : ((i : Int) + 1).tdiv 2 = ((i + 1) / 2 : Nat) := by rw [Int.tdiv_eq_ediv_of_nonneg (by omega)]; simp
    rw [h2]; omega
  · rw [if_neg h, h1, if_neg (by omega)]
    have h2 : (-(i : Int)).tdiv 2 = -((i / 2 : Nat) : Int) := by rw [Int.neg_tdiv, Int.tdiv_eq_ediv_of_nonneg (by omega)]; simp
    omega
theorem ord_trn : ∀ n : Nat, ordP (n + 1) = (List.range (2 * n + 1)).map trn
  | 0 => rfl
  | n + 1 => by
    have h := ord_trn n
    have e : ordP (n + 1 + 1) = ordP (n + 1) ++ if n + 1 = 0 then [0] else [((n + 1 : Nat) : Int), -((n + 1 : Nat) : Int)] := rfl
    have er : List.range (2 * (n + 1) + 1) = List.range (2 * n + 1) ++ [2 * n + 1, 2 * n + 1 + 1] := by
      rw [show 2 * (n + 1) + 1 = (2 * n + 1) + 1 + 1 by omega, List.range_succ (n := 2 * n + 1 + 1), List.range_succ (n := 2 * n + 1), List.append_assoc]
      rfl
    rw [e, if_neg (by omega), h, er, List.map_append]
    congr 1
    have t1 : trn (2 * n + 1) = ((n + 1 : Nat) : Int) := by unfold trn; rw [if_pos (by omega)]; omega
    have t2 : trn (2 * n + 1 + 1) = -((n + 1 : Nat) : Int) := by unfold trn; rw [if_neg (by omega)]; omega
    simp [t1, t2]
theorem foldl_z (x y : IrG) (l : List Int) : ∀ b : Pt, (b.d = 0 → b = ⟨0, 0, 0⟩) → (l.foldl (pstep x y) b).d = 0 → l.foldl (pstep x y) b = ⟨0, 0, 0⟩ := by
  induction l with
  | nil => intro b h; exact h
  | cons t l ih =>
    intro b h
    rw [List.foldl_cons]
    refine ih _ fun h2 => ?_
    unfold pstep at h2 ⊢
    split at h2
    · rename_i h3; have := h3.1; simp only at h2; omega
    · rename_i h3; rw [if_neg h3]; exact h h2
theorem distL_z (x y : IrG) (l : List Int) : (distL x y l).d = 0 → distL x y l = ⟨0, 0, 0⟩ := foldl_z x y l _ fun _ => rfl
def farS (b : Pt) : SV := .tup [.i b.n, .i (if b.d = 0 then 1 else b.d : Nat), .i b.t, .b (decide (0 < b.d))]
theorem trn_le {n k : Nat} (h : k ≤ 2 * n) (hn : n ≤ 7) : -16 ≤ trn k ∧ trn k ≤ 16 := by
  unfold trn
  split <;> omega
/-- The best part of the first turns. -/
def dK (x y : IrG) (k : Nat) : Pt := distL x y ((List.range k).map trn)
theorem dK_succ (x y : IrG) (k : Nat) : dK x y (k + 1) = pstep x y (dK x y k) (trn k) := by
  unfold dK
  rw [List.range_succ, List.map_append]
  exact distL_snoc x y _ _
theorem dK_zero (x y : IrG) : dK x y 0 = ⟨0, 0, 0⟩ := rfl
theorem far32 (x y : IrG) (n : Nat) (hn : n ≤ 7) : Pure Tryz.prog 32 [x.sv, y.sv, .i n] (· = farS (dist x y n)) := by
  refine pure_of_GC T_ok Tryz.func32 rfl (by kernel_rfl) (Nat.le_of_ble_eq_true rfl) rfl rfl ?_
  have hdi : dist x y n = dK x y (2 * n + 1) := by unfold dist dK; rw [ord_trn]
  rw [hdi]
  simp [go_sem]
  refine GLoop_s T_ok (α := Nat) (fun k => [(2, .i n), (3, .ptr 0 0 2 0), (4, .ptr 1 0 2 0), (10, .i (dK x y k).n), (11, .i (if (dK x y k).d = 0 then 1 else (dK x y k).d : Nat)), (12, .i (dK x y k).t), (13, .b (decide (0 < (dK x y k).d))), (14, .i k)])
    (fun _ => [some (.box [.w x.c, .w x.m]), some (.box [.w y.c, .w y.m])]) 2 (fun k => k ≤ 2 * n + 1) (fun k => 2 * n + 1 - k) 0 (fun _ => rfl) (by simp) (by simp [go_sem, dK_zero]) (by simp [go_sem]) ?_
  intro k J hk
  by_cases hkl : k < 2 * n + 1
  · have hkl' : (k : Int) ≤ 2 * n := by omega
    obtain ⟨t1, t2⟩ := trn_le (n := n) (k := k) (by omega) hn
    have hc := compared52 x y (trn k) t1 t2
    have hsn := dK_succ x y k
    have hle : (dK x y k).Sm := distL_le x y _
    have hz : (dK x y k).d = 0 → dK x y k = ⟨0, 0, 0⟩ := distL_z x y _
    have l1 := x.n_le y (trn k)
    have l2 := x.d_le y (trn k)
    have htu := turn55 k (by omega)
    obtain ⟨b, hb⟩ : ∃ b, dK x y k = b := ⟨_, rfl⟩
    rw [hb] at hsn hle hz ⊢
    unfold pstep at hsn
    generalize x.n y (trn k) = a at *
    generalize x.d y (trn k) = dd at *
    generalize trn k = tt at *
    have m1 := hle.n
    have m2 := hle.d
    simp [go_sem, hkl']
    refine ⟨by omega, ?_⟩
    refine GDraw_l (t := (.take 0 (.take 1 (.take 2 (.alt 3 [2, 1, 0] (.alt 4 [1, 0] (.take 5 (.take 6 (.take 7 (.take 8 (.take 9 (.done [9, 8, 7, 6, 5])))))) .nil) .nil))))) T_ok (by kernel_rfl) (by kernel_rfl) (by kernel_rfl) (fun _ _ _ _ h => h) ?_
    simp [go_sem]
    refine call_val htu rfl rfl ?_
    simp [go_sem]
    refine call_val hc rfl rfl ?_
    by_cases h16 : 16 ≤ dd
    rotate_left
    · have h16' : ¬ (16 : Int) ≤ dd := by omega
      rw [if_neg (fun h => h16 h.1)] at hsn
      simp [go_sem, h16, h16']
      refine ⟨by omega, k + 1, by omega, by omega, ?_⟩
      rw [hsn]
      exact ⟨rfl, rfl, rfl, Iff.rfl, by omega⟩
    have h16' : (16 : Int) ≤ dd := by omega
    by_cases hb0 : b.d = 0
    · have hbz := hz hb0
      subst hbz
      have hl : Pt.less ⟨a, dd, tt⟩ ⟨0, 0, 0⟩ = true := by unfold Pt.less; simp; omega
      rw [if_pos ⟨h16, hl⟩] at hsn
      simp [go_sem, h16']
      refine call_val htu rfl rfl ?_
      have hd0 : ¬ dd = 0 := by omega
      have hd1 : 0 < dd := by omega
      simp [go_sem]
      refine ⟨by omega, k + 1, by omega, by omega, ?_⟩
      rw [hsn]
      simp [hd0, hd1]
    · have hb0' : 0 < b.d := by omega
      have m3 : a * b.d ≤ 64 * 64 := Nat.mul_le_mul l1 m2
      have m4 : b.n * dd ≤ 64 * 64 := Nat.mul_le_mul m1 l2
      have c1 : (a : Int) * b.d = ((a * b.d : Nat) : Int) := by simp
      have c2 : (b.n : Int) * dd = ((b.n * dd : Nat) : Int) := by simp
      have hl : Pt.less ⟨a, dd, tt⟩ b = decide (a * b.d < b.n * dd) := by unfold Pt.less; simp [hb0]; omega
      simp [go_sem, h16', hb0, hb0']
      rw [c1, c2]
      refine ⟨by omega, by omega, ?_⟩
      by_cases hlt : a * b.d < b.n * dd
      · rw [if_pos (by omega)]
        rw [if_pos ⟨h16, by rw [hl]; simpa using hlt⟩] at hsn
        refine call_val htu rfl rfl ?_
        have hd0 : ¬ dd = 0 := by omega
        have hd1 : 0 < dd := by omega
        simp [go_sem]
        refine ⟨by omega, k + 1, by omega, by omega, ?_⟩
        rw [hsn]
        simp [hd0, hd1]
      · rw [if_neg (by omega)]
        rw [if_neg (fun h => by rw [hl] at h; simp at h; omega)] at hsn
        refine ⟨by omega, k + 1, by omega, by omega, ?_⟩
        rw [hsn]
        simp [hb0, hb0']
  · have hke : 2 * n + 1 = k := by omega
    rw [hke]
    have hkl' : ¬ (k : Int) ≤ 2 * n := by omega
    simp [go_sem, hkl', farS]
    omega
end Go.Gx.Ix
