/-
  IndexExamples.
-/
import Derived.Test.YtdnblflhlklfnaaJm
set_option linter.unusedVariables false
set_option linter.unusedSimpArgs false
set_option maxRecDepth 20000
set_option maxHeartbeats 4000000
namespace Go.Gx.Ix
open Go.RowKit Go.Proofs Go.Proofs.Ytdnblflhlklfnaa

def revL : List MbG := [⟨9, half 61455#64⟩, ⟨5, half 255#64⟩, ⟨3, half 0#64⟩]
theorem rev_perm : revL.Perm thrL := List.reverse_perm thrL
theorem vl_rev : VL revL := vl_thr.perm rev_perm.symm
theorem ofG_rev : ofG revL = ofG thrL := ofG_eq vl_rev.nd vl_thr.nd fun a => rev_perm.mem_iff
theorem build_rev : Pure Try.prog 16 [mrs revL] (· = .tup [thrS, .i 0]) := by
  have h := build16 revL (by decide)
  unfold buildX at h
  rw [(buildE_iff _).2 vl_rev, if_pos rfl, ofG_rev, sv_thr] at h
  exact h
theorem mrs_le {n : Nat} {l : List MbG} {get : Nat → Nat → RV} (hn : n = l.length) (h : ∀ i j, (hi : i < l.length) → j < 3 → get i j = l[i].f j) : (SV.r (.rs 3 n get)).le (mrs l) := by
  subst hn
  exact le_rs fun i j hi hj => by rw [h i j hi hj, mrow hi]
theorem build_e (l : List MbG) (n : Nat) (get : Nat → Nat → RV) (hn : n = l.length) (h : ∀ i j, (hi : i < l.length) → j < 3 → get i j = l[i].f j) (hl : l.length ≤ 1000) (e : Int) (he : buildE l = e) (h0 : e ≠ 0) : Pure Try.prog 16 [.r (.rs 3 n get)] (· = .tup [IxG.zero.sv, .i e]) := by
  have hb := (build16 l hl).args (args := [.r (.rs 3 n get)]) (⟨mrs_le hn h, trivial⟩)
  have e0 : buildX l = IxG.zero := by unfold buildX; rw [he, if_neg h0]
  rw [e0, he] at hb
  exact hb
def zM : MbG := ⟨0, ⟨0, 0⟩⟩
theorem be257 : buildE (List.replicate 257 zM) = 4 := by
  unfold buildE
  rw [if_pos (by simp)]
theorem be2 : buildE [zM, zM] = 41 := by
  have h0 : buildE [zM, zM] ≠ 0 := fun h => by
    have := ((buildE_iff _).1 h).nd
    revert this
    decide
  unfold buildE at h0 ⊢
  rw [if_neg (by decide), if_neg (by decide +kernel), if_neg (by decide +kernel)] at h0 ⊢
  split
  · rfl
  · rename_i h; rw [if_neg h] at h0; exact absurd rfl h0
theorem beN : buildE [⟨-1, ⟨0, 0⟩⟩] = 2 := by
  unfold buildE
  rw [if_neg (by decide), if_pos (by decide +kernel)]
theorem beI : buildE [⟨0, ⟨1, 0⟩⟩] = 30 := by
  unfold buildE
  rw [if_neg (by decide), if_neg (by decide +kernel), if_pos (by decide +kernel)]
/-- The index of three, two of its members left. -/
def cutX : IxG := ⟨thrL.take 2, (ofG thrL).ch⟩
theorem cut_sm : cutX.Sm := ⟨by decide, sm_thr.ch⟩
theorem cut_e : checkE cutX = 40 := by
  unfold checkE
  rw [if_neg]
  intro h
  obtain ⟨_, _, h3⟩ := valid_eq h
  have h4 := (ofG_post cutX.ms 0).sum
  rw [← h3 0 (by omega), srt_len] at h4
  have h5 : cutX.ch 0 = pL0 := (ch_thr 0).trans cK_thr0
  rw [h5] at h4
  revert h4
  decide
theorem thr_part0 : ptA thrL 2 0 = [] := by decide +kernel
theorem thr_part1 : ptA thrL 2 1 = thrL := by decide +kernel
theorem pairs46' (l' l : List (Int × Int)) (hl : l'.length ≤ 1000000000) (n : Nat) (hn : l.length = n) (get : Nat → Nat → RV) (h : ∀ i j, (hi : i < l.length) → j < 2 → get i j = qf l[i] j) : Pure Try.prog 46 [qls l', .r (.rs 2 n get)] (· = .b (decide (l' = l))) := by
  subst hn
  exact (pairs46 l' l hl).args (⟨SV.le.rfl, le_rs fun i j hi hj => by rw [h i j hi hj, qrow hi], trivial⟩)
theorem law13 : Pure Try.prog 13 [] (· = .b true) := by
  refine pure_of_GC T_ok Try.func13 rfl (by kernel_rfl) (Nat.le_of_ble_eq_true rfl) rfl rfl ?_
  have hS := search_thr ⟨1#64, 18446744073709551615#64⟩ 0 0 1 (by decide +kernel) [] 3 (by decide +kernel) (by decide +kernel)
  have hN := nrE_thr (half 4080#64) 0 (by decide +kernel) 0 3 (by decide +kernel) (by decide +kernel)
  have hP := pairs_thr 0 1 2 (by decide +kernel) [(3, 5), (3, 9), (5, 9)] (by decide +kernel)
  have hp46 := pairs46 [(3, 5), (3, 9), (5, 9)] [(3, 5), (3, 9), (5, 9)] (by decide)
  have hsp := split_of vl_thr 2
  have hspE : spE (ofG thrL) 2 = 0 := by unfold spE; rw [if_neg (by rw [va_thr]; simp), if_neg (by omega)]
  have hsame := same_of vl_thr
  rw [hspE, srt_id sl_thr] at hsp
  rw [sv_thr] at hsp hsame
  have l0 : thrL.length = 3 := rfl
  have l1 : pL0.length = 3 := rfl
  have l2 : pL1.length = 2 := rfl
  have l3 : pL2.length = 1 := rfl
  have lr : revL.length = 3 := rfl
  have m00 : mrows thrL 0 0 = .i 3 := rfl
  have m01 : mrows thrL 0 1 = .w 0#64 := rfl
  have m02 : mrows thrL 0 2 = .w 65535#64 := rfl
  have m20 : mrows thrL 2 0 = .i 9 := rfl
  have m21 : mrows thrL 2 1 = .w 61455#64 := rfl
  have m22 : mrows thrL 2 2 = .w 65535#64 := rfl
  have a0 : prows pL2 0 0 = .y 0#8 := rfl
  have a1 : prows pL2 0 1 = .y 0#8 := rfl
  have a2 : prows pL2 0 2 = .rs 1 3 (irows [3, 5, 9]) := rfl
  have b0 : prows pL0 0 0 = .y 0#8 := rfl
  have b1 : prows pL0 0 1 = .y 255#8 := rfl
  have b2 : prows pL0 0 2 = .rs 1 1 (irows [3]) := rfl
  have c0 : prows pL0 2 0 = .y 255#8 := rfl
  have c1 : prows pL0 2 1 = .y 255#8 := rfl
  have c2 : prows pL0 2 2 = .rs 1 1 (irows [5]) := rfl
  have d0 : prows pL1 1 0 = .y 240#8 := rfl
  have d1 : prows pL1 1 1 = .y 255#8 := rfl
  have d2 : prows pL1 1 2 = .rs 1 1 (irows [9]) := rfl
  simp [go_sem]
  refine callK_own [] three43 (by simp) rfl trivial ?_
  simp [go_sem]
  refine GDraw_ls (S := [(0, .b false), (1, .sl 0 3 0 3 none)]) (l := [some (mreg revL)]) (n := 1)
    (t := (.take 0 (.take 1 (.take 2 (.take 3 (.take 4 (.take 5 (.take 6 (.take 7 (.take 8 (.alt 9 [8, 7, 6, 5, 4, 3, 2, 1, 0] (.take 10 (.alt 11 [10, 6, 5, 1] (.done []) .nil)) .nil))))))))))) T_ok (by kernel_rfl) (by kernel_rfl) (by kernel_rfl) (fun _ _ _ _ h => h) rfl ?_ ?_
  · simp [go_sem]
    simp [go_sem, l0, lr, m00, m01, m02, m20, m21, m22]
    intro i j hi hj
    rcases (show i = 0 ∨ i = 1 ∨ i = 2 by omega) with rfl | rfl | rfl <;> rcases (show j = 0 ∨ j = 1 ∨ j = 2 by omega) with rfl | rfl | rfl <;> rfl
  intro J
  simp [go_sem]
  refine callK_freeze 0 (by rfl) ?_
  simp [go_sem]
  refine call_val build_rev rfl rfl ?_
  simp [go_sem]
  refine call_val alive32 rfl rfl ?_
  simp [go_sem]
  simp [go_sem, l0, l1, l2, l3, a0, a1, a2]
  refine call_lent (v := .b true) (by
    simp [go_sem]
    exact posting44' ⟨0#8, 0#8, [3, 5, 9]⟩ (by decide) 0#8 0#8 [3, 5, 9] 3 rfl _ fun i hi => by rcases (show i = 0 ∨ i = 1 ∨ i = 2 by simp at hi; omega) with rfl | rfl | rfl <;> rfl) rfl ?_
  simp [go_sem, l0, l1, l2, l3, b0, b1, b2]
  refine call_lent (v := .b true) (by
    simp [go_sem]
    exact posting44' ⟨0#8, 255#8, [3]⟩ (by decide) 0#8 255#8 [3] 1 rfl _ fun i hi => by
      obtain rfl : i = 0 := by simpa using hi
      rfl) rfl ?_
  simp [go_sem, l0, l1, l2, l3, c0, c1, c2]
  refine call_lent (v := .b true) (by
    simp [go_sem]
    exact posting44' ⟨255#8, 255#8, [5]⟩ (by decide) 255#8 255#8 [5] 1 rfl _ fun i hi => by
      obtain rfl : i = 0 := by simpa using hi
      rfl) rfl ?_
  simp [go_sem, l0, l1, l2, l3, d0, d1, d2]
  refine call_lent (v := .b true) (by
    simp [go_sem]
    exact posting44' ⟨240#8, 255#8, [9]⟩ (by decide) 240#8 255#8 [9] 1 rfl _ fun i hi => by
      obtain rfl : i = 0 := by simpa using hi
      rfl) rfl ?_
  simp [go_sem]
  refine call_val hS rfl rfl ?_
  simp [go_sem]
  refine GDraw_l (t := (.take 0 (.alt 1 [0] (.alt 2 [0] (.take 3 (.take 4 (.take 5 (.take 6 (.take 7 (.done [7, 6, 5, 4, 3])))))) .nil) .nil))) T_ok (by kernel_rfl) (by kernel_rfl) (by kernel_rfl) (fun _ _ _ _ h => h) ?_
  simp [go_sem]
  refine call_val (half45 4080#64) rfl rfl ?_
  simp [go_sem]
  refine call_val hN rfl rfl ?_
  simp [go_sem]
  refine call_val hP rfl rfl ?_
  simp [go_sem]
  refine call_val hsp rfl rfl ?_
  simp [go_sem]
  refine GDraw_pre (GSt.freeze 7 (by rfl)) ?_
  have z0 : (ofG []).ms = [] := by rw [ofG_nil]; rfl
  have k0 : (ofG thrL).ch 0 = pL0 := (ch_thr 0).trans cK_thr0
  have k1 : (ofG thrL).ch 1 = pL1 := (ch_thr 1).trans cK_thr1
  have k2 : (ofG thrL).ch 2 = pL2 := (ch_thr 2).trans (cK_thr2 2 (by decide) (by decide))
  have k3 : (ofG thrL).ch 3 = pL2 := (ch_thr 3).trans (cK_thr2 3 (by decide) (by decide))
  have k4 : (ofG thrL).ch 4 = pL2 := (ch_thr 4).trans (cK_thr2 4 (by decide) (by decide))
  have k5 : (ofG thrL).ch 5 = pL2 := (ch_thr 5).trans (cK_thr2 5 (by decide) (by decide))
  have k6 : (ofG thrL).ch 6 = pL2 := (ch_thr 6).trans (cK_thr2 6 (by decide) (by decide))
  have k7 : (ofG thrL).ch 7 = pL2 := (ch_thr 7).trans (cK_thr2 7 (by decide) (by decide))
  refine GDraw_all T_ok (by kernel_rfl) (by kernel_rfl) ?_
  simp [go_sem, thr_part0, thr_part1, z0, k0, k1, k2, k3, k4, k5, k6, k7, ms_thr]
  have hq := pairs46' [(3, 5), (3, 9), (5, 9)] [(3, 5), (3, 9), (5, 9)] (by decide) 3 rfl (fun i j => (([SV.i 3, SV.i 5, SV.i 3, SV.i 9, SV.i 5, SV.i 9] : List SV)[i * 2 + j]?.getD (SV.r RV.any)).toRV) fun i j hi hj => by
    rcases (show i = 0 ∨ i = 1 ∨ i = 2 by simp at hi; omega) with rfl | rfl | rfl <;> rcases (show j = 0 ∨ j = 1 by omega) with rfl | rfl <;> rfl
  refine ⟨_, dcall_val hq rfl rfl, ?_⟩
  simp [go_sem, thr_part0, thr_part1, z0, k0, k1, k2, k3, k4, k5, k6, k7, ms_thr]
  refine ⟨_, dcall_val hsame rfl rfl, ?_⟩
  simp [go_sem]
  refine callK_freeze 8 (by rfl) ?_
  simp [go_sem]
  refine call_val (build_e (List.replicate 257 zM) 257 _ (by simp) ?_ (by simp) 4 be257 (by decide)) rfl rfl ?_
  · intro i j hi hj
    rw [List.getElem_replicate]
    rcases (show j = 0 ∨ j = 1 ∨ j = 2 by omega) with rfl | rfl | rfl <;> rfl
  simp [go_sem, IxG.sv]
  refine callK_freeze 9 (by rfl) ?_
  simp [go_sem]
  refine call_val (build_e [zM, zM] 2 _ (by simp) ?_ (by simp) 41 be2 (by decide)) rfl rfl ?_
  · intro i j hi hj
    rcases (show i = 0 ∨ i = 1 by simp at hi; omega) with rfl | rfl <;> rcases (show j = 0 ∨ j = 1 ∨ j = 2 by omega) with rfl | rfl | rfl <;> rfl
  simp [go_sem, IxG.sv]
  refine callK_freeze 10 (by rfl) ?_
  simp [go_sem]
  refine call_val (build_e [⟨-1, ⟨0, 0⟩⟩] 1 _ (by simp) ?_ (by simp) 2 beN (by decide)) rfl rfl ?_
  · intro i j hi hj
    obtain rfl : i = 0 := by simpa using hi
    rcases (show j = 0 ∨ j = 1 ∨ j = 2 by omega) with rfl | rfl | rfl <;> rfl
  simp [go_sem, IxG.sv]
  refine callK_freeze 11 (by rfl) ?_
  simp [go_sem]
  refine call_val (build_e [⟨0, ⟨1, 0⟩⟩] 1 _ (by simp) ?_ (by simp) 30 beI (by decide)) rfl rfl ?_
  · intro i j hi hj
    obtain rfl : i = 0 := by simpa using hi
    rcases (show j = 0 ∨ j = 1 ∨ j = 2 by omega) with rfl | rfl | rfl <;> rfl
  simp [go_sem, IxG.sv]
  have hcc := check19 cutX cut_sm
  rw [cut_e] at hcc
  have hcs : cutX.sv = .agg [mrs (thrL.take 2), pls pL0, pls pL1, pls pL2, pls pL2, pls pL2, pls pL2, pls pL2, pls pL2] := by
    show SV.agg (mrs cutX.ms :: [pls ((ofG thrL).ch 0), pls ((ofG thrL).ch 1), pls ((ofG thrL).ch 2), pls ((ofG thrL).ch 3), pls ((ofG thrL).ch 4), pls ((ofG thrL).ch 5), pls ((ofG thrL).ch 6), pls ((ofG thrL).ch 7)]) = _
    rw [k0, k1, k2, k3, k4, k5, k6, k7]; rfl
  rw [hcs] at hcc
  refine ⟨by rw [l0]; decide, ?_⟩
  refine call_val (hcc.args (⟨le_agg ⟨mrs_le rfl fun i j hi hj => ?_, SV.le.rfl, SV.le.rfl, SV.le.rfl, SV.le.rfl, SV.le.rfl, SV.le.rfl, SV.le.rfl, SV.le.rfl, trivial⟩, trivial⟩)) rfl rfl ?_
  · have hi' : i < 2 := hi
    rw [mrow (by rw [l0]; omega), List.getElem_take]
  simp [go_sem]
end Go.Gx.Ix
