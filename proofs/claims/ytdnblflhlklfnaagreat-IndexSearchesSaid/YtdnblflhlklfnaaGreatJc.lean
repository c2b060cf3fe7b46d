/-
  The chapter's examples: alive.
-/
import Derived.Test.YtdnblflhlklfnaaGreatJb
set_option linter.unusedVariables false
set_option linter.unusedSimpArgs false
set_option maxRecDepth 20000
set_option maxHeartbeats 4000000
namespace Go.Gx.Ix
open Go.RowKit Go.Proofs Go.Proofs.YtdnblflhlklfnaaGreat

def pL0 : List PsG := [⟨0, 255, [3]⟩, ⟨15, 255, [9]⟩, ⟨255, 255, [5]⟩]
def pL1 : List PsG := [⟨0, 255, [3, 5]⟩, ⟨240, 255, [9]⟩]
def pL2 : List PsG := [⟨0, 0, [3, 5, 9]⟩]
theorem vl_thr : VL thrL := ⟨by decide, by decide, by decide +kernel, by decide⟩
theorem sl_thr : SL thrL := by unfold SL; decide
theorem ms_thr : (ofG thrL).ms = thrL := ofG_ms sl_thr
theorem ch_thr (j : Nat) : (ofG thrL).ch j = cK thrL 3 j := by
  show cK (srtM thrL) thrL.length j = _
  rw [srt_id sl_thr]; rfl
theorem cK_thr0 : cK thrL 3 0 = pL0 := by decide +kernel
theorem cK_thr1 : cK thrL 3 1 = pL1 := by decide +kernel
theorem cK_thr2' : ∀ j : Fin 8, 2 ≤ j.val → cK thrL 3 j.val = pL2 := by decide +kernel
theorem cK_thr2 (j : Nat) (h : 2 ≤ j) (h8 : j < 8) : cK thrL 3 j = pL2 := cK_thr2' ⟨j, h8⟩ h
abbrev thrS : SV := .agg [mrs thrL, pls pL0, pls pL1, pls pL2, pls pL2, pls pL2, pls pL2, pls pL2, pls pL2]
theorem sv_thr : (ofG thrL).sv = thrS := by
  show SV.agg (mrs (ofG thrL).ms :: [pls ((ofG thrL).ch 0), pls ((ofG thrL).ch 1), pls ((ofG thrL).ch 2), pls ((ofG thrL).ch 3), pls ((ofG thrL).ch 4), pls ((ofG thrL).ch 5), pls ((ofG thrL).ch 6), pls ((ofG thrL).ch 7)]) = _
  rw [ms_thr]
  simp only [ch_thr, cK_thr0, cK_thr1, cK_thr2 2 (by decide) (by decide), cK_thr2 3 (by decide) (by decide), cK_thr2 4 (by decide) (by decide), cK_thr2 5 (by decide) (by decide), cK_thr2 6 (by decide) (by decide), cK_thr2 7 (by decide) (by decide)]
theorem va_thr : validX (ofG thrL) = true := ofG_valid vl_thr
theorem sm_thr : (ofG thrL).Sm := ofG_sm (by decide)
theorem be_thr : buildE thrL = 0 := (buildE_iff _).2 vl_thr
theorem build_thr : Pure Tryz.prog 36 [mrs thrL] (· = .tup [thrS, .i 0]) := by
  have h := build16 thrL (by decide)
  unfold buildX at h
  rw [be_thr, if_pos rfl, sv_thr] at h
  exact h
theorem srE_thr (b : IrG) (t n d : Int) (h : mE b b t n d = 0) : srE (ofG thrL) b t n d = 0 := by unfold srE; rw [va_thr]; simpa using h
theorem search_thr (b : IrG) (t n d : Int) (h : mE b b t n d = 0) (l : List Int) (k : Nat) (hl : fndM thrL b t.toNat n.toNat d.toNat = l) (hk : snM thrL b t.toNat n.toNat d.toNat = k) : Pure Tryz.prog 6 [thrS, b.sv, .i t, .agg [.i n, .i d]] (· = .tup [.agg [ils l, .i k], .i 0]) := by
  have hs := search33f (ofG thrL) sm_thr b t n d
  have h0 := srE_thr b t n d h
  have e1 : srIds (ofG thrL) b t n d = l := by unfold srIds; rw [if_pos h0, ms_thr]; exact hl
  have e2 : srSn (ofG thrL) b t n d = k := by unfold srSn; rw [if_pos h0, ms_thr]; exact hk
  rw [e1, e2, h0, sv_thr] at hs
  exact hs
theorem nrE_thr (b : IrG) (t : Int) (h : mE b b t 0 1 = 0) (e i : Int) (he : (if nrAt thrL b t.toNat < 0 then 6 else 0) = e) (hi : (if e = 0 then (thrL[(nrL thrL b t.toNat 1)[(nrAt thrL b t.toNat).toNat]!]!).id else 0) = i) : Pure Tryz.prog 9 [thrS, b.sv, .i t] (· = .tup [.i i, .i e]) := by
  have hs := nearest40 (ofG thrL) sm_thr (fun _ a ha => vl_thr.ok a (ms_thr ▸ ha)) b t
  have h0 : nrE (ofG thrL) b t = e := by
    unfold nrE
    rw [va_thr, if_neg (by simp), if_pos h, ms_thr]
    exact he
  have h1 : nrI (ofG thrL) b t = i := by
    unfold nrI
    rw [h0, ms_thr]
    exact hi
  rw [h0, h1, sv_thr] at hs
  exact hs
theorem pairs_thr (t n d : Int) (h : mE ⟨0, 0⟩ ⟨0, 0⟩ t n d = 0) (l : List (Int × Int)) (hl : prK thrL t.toNat n.toNat d.toNat 3 = l) : Pure Tryz.prog 11 [thrS, .i t, .agg [.i n, .i d]] (· = .tup [qls l, .i 0]) := by
  have hs := pairs38 (ofG thrL) sm_thr t n d
  have h0 : prE (ofG thrL) t n d = 0 := by unfold prE; rw [va_thr]; simpa using h
  have h1 : prL (ofG thrL) t n d = l := by unfold prL; rw [if_pos h0, ms_thr]; exact hl
  rw [h0, h1, sv_thr] at hs
  exact hs
theorem ints37' (l' l : List Int) (hl : l'.length ≤ 1000000000) (n : Nat) (hn : l.length = n) (get : Nat → Nat → RV) (h : ∀ i, (hi : i < l.length) → get i 0 = .i l[i]) : Pure Tryz.prog 8 [ils l', .r (.rs 1 n get)] (· = .b (decide (l' = l))) := by
  subst hn
  exact (ints37 l' l hl).args (⟨SV.le.rfl, le_rs fun i j hi hj => by
    obtain rfl : j = 0 := by omega
    rw [h i hi, irow hi 0], trivial⟩)
end Go.Gx.Ix
