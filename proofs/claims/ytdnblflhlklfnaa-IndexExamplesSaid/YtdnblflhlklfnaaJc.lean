/-
  The chapter's examples: alive.
-/
import Derived.Test.YtdnblflhlklfnaaJb
set_option linter.unusedVariables false
set_option linter.unusedSimpArgs false
set_option maxRecDepth 20000
set_option maxHeartbeats 4000000
namespace Go.Gx.Ix
open Go.RowKit Go.Proofs Go.Proofs.Ytdnblflhlklfnaa

def pL0 : List PsG := [⟨0, 255, [3]⟩, ⟨15, 255, [9]⟩, ⟨255, 255, [5]⟩]
def pL1 : List PsG := [⟨0, 255, [3, 5]⟩, ⟨240, 255, [9]⟩]
def pL2 : List PsG := [⟨0, 0, [3, 5, 9]⟩]
theorem vl_thr : VL thrL := ⟨by decide, by decide, by decide +kernel, by decide⟩
theorem sl_thr : SL thrL := by unfold SL; decide
theorem ms_thr : (ofG thrL).ms = thrL := ofG_ms sl_thr
theorem ch_thr (j : Nat) : (ofG thrL).ch j = cK thrL 3 j := by
  show cK (srtM thrL) thrL.length j = _
  rw [srt_id sl_thr]; rfl
theorem cK_thr0 : cK thrL 3 0 = pL0 := by decide +kernel
theorem cK_thr1 : cK thrL 3 1 = pL1 := by decide +kernel
theorem cK_thr2' : ∀ j : Fin 8, 2 ≤ j.val → cK thrL 3 j.val = pL2 := by decide +kernel
theorem cK_thr2 (j : Nat) (h : 2 ≤ j) (h8 : j < 8) : cK thrL 3 j = pL2 := cK_thr2' ⟨j, h8⟩ h
abbrev thrS : SV := .agg [mrs thrL, pls pL0, pls pL1, pls pL2, pls pL2, pls pL2, pls pL2, pls pL2, pls pL2]
theorem sv_thr : (ofG thrL).sv = thrS := by
  show SV.agg (mrs (ofG thrL).ms :: [pls ((ofG thrL).ch 0), pls ((ofG thrL).ch 1), pls ((ofG thrL).ch 2), pls ((ofG thrL).ch 3), pls ((ofG thrL).ch 4), pls ((ofG thrL).ch 5), pls ((ofG thrL).ch 6), pls ((ofG thrL).ch 7)]) = _
  rw [ms_thr]
  simp only [ch_thr, cK_thr0, cK_thr1, cK_thr2 2 (by decide) (by decide), cK_thr2 3 (by decide) (by decide), cK_thr2 4 (by decide) (by decide), cK_thr2 5 (by decide) (by decide), cK_thr2 6 (by decide) (by decide), cK_thr2 7 (by decide) (by decide)]
theorem va_thr : validX (ofG thrL) = true := ofG_valid vl_thr
theorem sm_thr : (ofG thrL).Sm := ofG_sm (by decide)
theorem be_thr : buildE thrL = 0 := (buildE_iff _).2 vl_thr
theorem build_thr : Pure Try.prog 16 [mrs thrL] (· = .tup [thrS, .i 0]) := by
  have h := build16 thrL (by decide)
  unfold buildX at h
  rw [be_thr, if_pos rfl, sv_thr] at h
  exact h
theorem srE_thr (b : IrG) (t n d : Int) (h : mE b b t n d = 0) : srE (ofG thrL) b t n d = 0 := by unfold srE; rw [va_thr]; simpa using h
theorem search_thr (b : IrG) (t n d : Int) (h : mE b b t n d = 0) (l : List Int) (k : Nat) (hl : fndM thrL b t.toNat n.toNat d.toNat = l) (hk : snM thrL b t.toNat n.toNat d.toNat = k) : Pure Try.prog 33 [thrS, b.sv, .i t, .agg [.i n, .i d]] (· = .tup [.agg [ils l, .i k], .i 0]) := by
  have hs := search33f (ofG thrL) sm_thr b t n d
  have h0 := srE_thr b t n d h
  have e1 : srIds (ofG thrL) b t n d = l := by unfold srIds; rw [if_pos h0, ms_thr]; exact hl
  have e2 : srSn (ofG thrL) b t n d = k := by unfold srSn; rw [if_pos h0, ms_thr]; exact hk
  rw [e1, e2, h0, sv_thr] at hs
  exact hs
theorem nrE_thr (b : IrG) (t : Int) (h : mE b b t 0 1 = 0) (e i : Int) (he : (if nrAt thrL b t.toNat < 0 then 6 else 0) = e) (hi : (if e = 0 then (thrL[(nrL thrL b t.toNat 1)[(nrAt thrL b t.toNat).toNat]!]!).id else 0) = i) : Pure Try.prog 40 [thrS, b.sv, .i t] (· = .tup [.i i, .i e]) := by
  have hs := nearest40 (ofG thrL) sm_thr (fun _ a ha => vl_thr.ok a (ms_thr ▸ ha)) b t
  have h0 : nrE (ofG thrL) b t = e := by
    unfold nrE
    rw [va_thr, if_neg (by simp), if_pos h, ms_thr]
    exact he
  have h1 : nrI (ofG thrL) b t = i := by
    unfold nrI
    rw [h0, ms_thr]
    exact hi
  rw [h0, h1, sv_thr] at hs
  exact hs
theorem pairs_thr (t n d : Int) (h : mE ⟨0, 0⟩ ⟨0, 0⟩ t n d = 0) (l : List (Int × Int)) (hl : prK thrL t.toNat n.toNat d.toNat 3 = l) : Pure Try.prog 38 [thrS, .i t, .agg [.i n, .i d]] (· = .tup [qls l, .i 0]) := by
  have hs := pairs38 (ofG thrL) sm_thr t n d
  have h0 : prE (ofG thrL) t n d = 0 := by unfold prE; rw [va_thr]; simpa using h
  have h1 : prL (ofG thrL) t n d = l := by unfold prL; rw [if_pos h0, ms_thr]; exact hl
  rw [h0, h1, sv_thr] at hs
  exact hs
theorem posting44' (p : PsG) (hp : p.ids.length ≤ 1000000000) (c m : BitVec 8) (l : List Int) (n : Nat) (hn : l.length = n) (get : Nat → Nat → RV) (h : ∀ i, (hi : i < l.length) → get i 0 = .i l[i]) : Pure Try.prog 44 [p.sv, .y c, .y m, .r (.rs 1 n get)] (· = .b (decide (p = ⟨c, m, l⟩))) := by
  subst hn
  exact (posting44 p hp c m l).args (⟨SV.le.rfl, SV.le.rfl, SV.le.rfl, le_rs fun i j hi hj => by
    obtain rfl : j = 0 := by omega
    rw [h i hi, irow hi 0], trivial⟩)
theorem ints37' (l' l : List Int) (hl : l'.length ≤ 1000000000) (n : Nat) (hn : l.length = n) (get : Nat → Nat → RV) (h : ∀ i, (hi : i < l.length) → get i 0 = .i l[i]) : Pure Try.prog 37 [ils l', .r (.rs 1 n get)] (· = .b (decide (l' = l))) := by
  subst hn
  exact (ints37 l' l hl).args (⟨SV.le.rfl, le_rs fun i j hi hj => by
    obtain rfl : j = 0 := by omega
    rw [h i hi, irow hi 0], trivial⟩)
theorem alive32 : Pure Try.prog 32 [] (· = .b true) := by
  refine pure_of_GC T_ok Try.func32 rfl (by kernel_rfl) (Nat.le_of_ble_eq_true rfl) rfl rfl ?_
  have hS1 := search_thr (half 1#64) 0 1 8 (by decide +kernel) [3] 3 (by decide +kernel) (by decide +kernel)
  have hS2 := search_thr (half 15#64) 4 4 16 (by decide +kernel) [3, 5, 9] 27 (by decide +kernel) (by decide +kernel)
  have hN := nrE_thr (half 4080#64) 4 (by decide +kernel) 0 5 (by decide +kernel) (by decide +kernel)
  have hP := pairs_thr 0 1 2 (by decide +kernel) [(3, 5), (3, 9), (5, 9)] (by decide +kernel)
  have hA := add24 (ofG thrL) sm_thr ⟨5, ⟨0, 0⟩⟩
  have hR := remove26 (ofG thrL) sm_thr 4
  have eA : addE (ofG thrL) ⟨5, ⟨0, 0⟩⟩ = 41 := by rw [addE_eq vl_thr]; decide +kernel
  have eR : remE (ofG thrL) 4 = 6 := remE_ne vl_thr (by decide)
  have eA2 : addX (ofG thrL) ⟨5, ⟨0, 0⟩⟩ = IxG.zero := by unfold addX; rw [eA, if_neg (by decide)]
  have eR2 : remX (ofG thrL) 4 = IxG.zero := by unfold remX; rw [eR, if_neg (by decide)]
  rw [eA, eA2, sv_thr] at hA
  rw [eR, eR2, sv_thr] at hR
  simp [go_sem]
  refine callK_own [] three43 (by simp) rfl trivial ?_
  simp [go_sem]
  refine callK_freeze 0 (by rfl) ?_
  simp [go_sem]
  refine call_val build_thr rfl rfl ?_
  have l0 : thrL.length = 3 := rfl
  have l1 : pL0.length = 3 := rfl
  have l2 : pL1.length = 2 := rfl
  have a0 : prows pL0 1 0 = .y 15#8 := rfl
  have a1 : prows pL0 1 1 = .y 255#8 := rfl
  have a2 : prows pL0 1 2 = .rs 1 1 (irows [9]) := rfl
  have b0 : prows pL1 0 0 = .y 0#8 := rfl
  have b1 : prows pL1 0 1 = .y 255#8 := rfl
  have b2 : prows pL1 0 2 = .rs 1 2 (irows [3, 5]) := rfl
  simp [go_sem, l0, l1, l2, a0, a1, a2, b0, b1, b2]
  refine call_lent (v := .b true) (by
    simp [go_sem]
    exact posting44' ⟨15#8, 255#8, [9]⟩ (by decide) 15#8 255#8 [9] 1 rfl _ fun i hi => by obtain rfl : i = 0 := by simpa using hi
                                                                                          rfl) rfl ?_
  simp [go_sem, l0, l1, l2, a0, a1, a2, b0, b1, b2]
  refine call_lent (v := .b true) (by
    simp [go_sem]
    exact posting44' ⟨0#8, 255#8, [3, 5]⟩ (by decide) 0#8 255#8 [3, 5] 2 rfl _ fun i hi => by rcases (show i = 0 ∨ i = 1 by simp at hi; omega) with rfl | rfl <;> rfl) rfl ?_
  simp [go_sem]
  refine GDraw_ls (S := [(1, .ptr 1 0 9 0), (2, .i 0), (3, .ptr 4 0 2 0)]) (l := [none, some (.box [mrs thrL, pls pL0, pls pL1, pls pL2, pls pL2, pls pL2, pls pL2, pls pL2, pls pL2]), none, none, some (.box [ils [3], .i 3])]) (n := 5)
    (t := (.take 0 (.take 2 (.alt 1 [2, 0] (.alt 3 [2, 0] (.take 4 (.take 5 (.take 6 (.alt 7 [6, 5, 4] (.alt 8 [6, 5, 4] (.take 9 (.done [9, 6])) .nil) .nil)))) (.alt 7 [2, 0] (.alt 3 [2, 0] (.take 4 (.take 5 (.take 6 (.alt 8 [6, 5, 4] (.take 9 (.done [9, 6])) .nil)))) .nil) .nil)) (.alt 7 [2, 0] (.alt 1 [2, 0] (.alt 3 [2, 0] (.take 4 (.take 5 (.take 6 (.alt 8 [6, 5, 4] (.take 9 (.done [9, 6])) .nil)))) .nil) .nil) .nil))))) T_ok (by kernel_rfl) (by kernel_rfl) (by kernel_rfl) (fun _ _ _ _ h => h) rfl ?_ ?_
  · simp [go_sem]
    refine ⟨call_val (half45 1#64) rfl rfl ?_, call_val (half45 1#64) rfl rfl ?_⟩
    · simp [go_sem]
      refine ⟨call_val hS1 rfl rfl ?_, call_val hS1 rfl rfl ?_⟩ <;> simp [go_sem]
    · simp [go_sem]
      refine call_val hS1 rfl rfl ?_
      simp [go_sem]
  intro J
  simp [go_sem]
  refine GDraw_ls (S := [(1, .ptr 1 0 9 0), (2, .i 0), (3, .ptr 4 0 2 0), (4, .ptr 5 0 2 0), (5, .i 0)]) (l := [none, some (.box [mrs thrL, pls pL0, pls pL1, pls pL2, pls pL2, pls pL2, pls pL2, pls pL2, pls pL2]), none, none, some (.box [ils [3], .i 3]), some (.box [ils [3, 5, 9], .i 27])]) (n := 6)
    (t := (.take 0 (.take 2 (.alt 1 [2, 0] (.alt 3 [2, 0] (.take 4 (.take 5 (.take 6 (.alt 7 [6, 5, 4] (.alt 8 [6, 5, 4] (.take 9 (.done [9, 6])) .nil) .nil)))) (.alt 7 [2, 0] (.alt 3 [2, 0] (.take 4 (.take 5 (.take 6 (.alt 8 [6, 5, 4] (.take 9 (.done [9, 6])) .nil)))) .nil) .nil)) (.alt 7 [2, 0] (.alt 1 [2, 0] (.alt 3 [2, 0] (.take 4 (.take 5 (.take 6 (.alt 8 [6, 5, 4] (.take 9 (.done [9, 6])) .nil)))) .nil) .nil) .nil))))) T_ok (by kernel_rfl) (by kernel_rfl) (by kernel_rfl) (fun _ _ _ _ h => h) rfl ?_ ?_
  · simp [go_sem]
    refine ⟨call_val (half45 15#64) rfl rfl ?_, call_val (half45 15#64) rfl rfl ?_⟩
    · simp [go_sem]
      refine ⟨call_val hS2 rfl rfl ?_, call_val hS2 rfl rfl ?_⟩ <;> simp [go_sem]
    · simp [go_sem]
      refine call_val hS2 rfl rfl ?_
      simp [go_sem]
  intro J
  simp [go_sem]
  refine GDraw_l (t := (.take 0 (.alt 1 [0] (.alt 2 [0] (.take 3 (.take 4 (.take 5 (.take 6 (.take 7 (.done [7, 6, 5, 4, 3])))))) .nil) .nil))) T_ok (by kernel_rfl) (by kernel_rfl) (by kernel_rfl) (fun _ _ _ _ h => h) ?_
  simp [go_sem]
  refine call_val (half45 4080#64) rfl rfl ?_
  simp [go_sem]
  refine call_val hN rfl rfl ?_
  simp [go_sem]
  refine call_val hP rfl rfl ?_
  simp [go_sem]
  refine call_val hA rfl rfl ?_
  simp [go_sem, IxG.sv]
  refine call_val hR rfl rfl ?_
  simp [go_sem, IxG.sv]
  refine call_lent (v := .b true) (by
    simp [go_sem]
    exact ints37' [3] [3] (by decide) 1 rfl _ fun i hi => by
      obtain rfl : i = 0 := by simpa using hi
      rfl) rfl ?_
  simp [go_sem, IxG.sv]
  refine call_lent (v := .b true) (by
    simp [go_sem]
    exact ints37' [3, 5, 9] [3, 5, 9] (by decide) 3 rfl _ fun i hi => by rcases (show i = 0 ∨ i = 1 ∨ i = 2 by simp at hi; omega) with rfl | rfl | rfl <;> rfl) rfl ?_
  simp [go_sem, IxG.sv]
end Go.Gx.Ix
