/-
  The law of examples.
-/
import Derived.Test.YtnajladibkpeaaaGreatW7
set_option linter.unusedVariables false
set_option linter.unusedSimpArgs false
set_option maxRecDepth 20000
set_option maxHeartbeats 4000000
namespace Go.Gx
open Go.RowKit Go.Proofs Go.Proofs.YtnajladibkpeaaaGreat

def exX : EG := five.voteX 1 1 2 true
def exY : EG := exX.voteX 2 2 1 false
def exZ : EG := exY.voteX 3 1 2 false
theorem exX_bd : exX.Bd 6 := five_bd.vote _ _ _ _
theorem exY_bd : exY.Bd 7 := exX_bd.vote _ _ _ _
theorem exZ_bd : exZ.Bd 8 := exY_bd.vote _ _ _ _
theorem vt {g x : EG} {k : Nat} (h : g.Bd k) (hk : k ≤ 1000) (o a b : Int) (s d : Bool) (e : Int) (hx : g.voteX o a b s = x) (hd : g.voteB o a b s = d) (he : g.voteE o a b s = e) :
    Pure Tryz.prog 14 [g.sv, .i o, .i a, .i b, .b s] (· = .tup [x.sv, .b d, .i e]) := by
  have := vote35p (h.sm hk) o a b s
  rw [hx, hd, he] at this
  exact this
theorem v1 : Pure Tryz.prog 14 [five.sv, .i 8, .i 0, .i 1, .b true] (· = .tup [(five.voteX 8 0 1 true).sv, .b false, .i 2]) := vt five_bd (by decide) 8 0 1 true false 2 rfl (by kernel_rfl) (by kernel_rfl)
theorem v2 : Pure Tryz.prog 14 [five.sv, .i 1, .i 0, .i 0, .b true] (· = .tup [(five.voteX 1 0 0 true).sv, .b false, .i 6]) := vt five_bd (by decide) 1 0 0 true false 6 rfl (by kernel_rfl) (by kernel_rfl)
theorem v3 : Pure Tryz.prog 14 [five.sv, .i 1, .i 3, .i 0, .b true] (· = .tup [(five.voteX 1 3 0 true).sv, .b false, .i 82]) := vt five_bd (by decide) 1 3 0 true false 82 rfl (by kernel_rfl) (by kernel_rfl)
theorem v4 : Pure Tryz.prog 14 [five.sv, .i 1, .i 1, .i 2, .b true] (· = .tup [exX.sv, .b false, .i 0]) := vt five_bd (by decide) 1 1 2 true false 0 rfl (by kernel_rfl) (by kernel_rfl)
theorem v5 : Pure Tryz.prog 14 [exX.sv, .i 1, .i 2, .i 1, .b false] (· = .tup [(exX.voteX 1 2 1 false).sv, .b false, .i 80]) := vt exX_bd (by decide) 1 2 1 false false 80 rfl (by kernel_rfl) (by kernel_rfl)
theorem v6 : Pure Tryz.prog 14 [exX.sv, .i 2, .i 2, .i 1, .b true] (· = .tup [(exX.voteX 2 2 1 true).sv, .b false, .i 81]) := vt exX_bd (by decide) 2 2 1 true false 81 rfl (by kernel_rfl) (by kernel_rfl)
theorem v7 : Pure Tryz.prog 14 [exX.sv, .i 2, .i 2, .i 1, .b false] (· = .tup [exY.sv, .b false, .i 0]) := vt exX_bd (by decide) 2 2 1 false false 0 rfl (by kernel_rfl) (by kernel_rfl)
theorem v8 : Pure Tryz.prog 14 [exY.sv, .i 3, .i 1, .i 2, .b true] (· = .tup [(exY.voteX 3 1 2 true).sv, .b false, .i 81]) := vt exY_bd (by decide) 3 1 2 true false 81 rfl (by kernel_rfl) (by kernel_rfl)
theorem v9 : Pure Tryz.prog 14 [exY.sv, .i 3, .i 1, .i 2, .b false] (· = .tup [exZ.sv, .b true, .i 0]) := vt exY_bd (by decide) 3 1 2 false true 0 rfl (by kernel_rfl) (by kernel_rfl)
theorem exZ_nc : exZ.nc = 0 := by kernel_rfl
theorem a1 : Pure Tryz.prog 20 [five.sv, .i 0, .i 2] (· = .tup [.agg [.i 2, .i 3, .b false], .i 0]) := by
  have h := Apart22 five five_ok 0 2
  have e1 : five.apI 0 2 = 2 := by kernel_rfl
  have e2 : five.apE 0 2 = 0 := by kernel_rfl
  rw [e1, e2] at h
  exact h
theorem a2 : Pure Tryz.prog 20 [five.sv, .i 0, .i 4] (· = .tup [.agg [.i 0, .i 0, .b false], .i 6]) := by
  have h := Apart22 five five_ok 0 4
  have e1 : five.apI 0 4 = -1 := by kernel_rfl
  have e2 : five.apE 0 4 = 6 := by kernel_rfl
  rw [e1, e2] at h
  exact h
theorem w1 : Pure Tryz.prog 18 [exZ.sv, .i 2, .i 1] (· = .tup [(exZ.wdX 2 1).sv, .i 0]) := by
  have h := wd37p (exZ_bd.sm (by decide)) 2 1
  have e : exZ.wdE 2 1 = 0 := by kernel_rfl
  rw [e] at h
  exact h
theorem w2 : Pure Tryz.prog 18 [five.sv, .i 0, .i 1] (· = .tup [(five.wdX 0 1).sv, .i 6]) := by
  have h := wd37p (five_bd.sm (by decide)) 0 1
  have e : five.wdE 0 1 = 6 := by kernel_rfl
  rw [e] at h
  exact h
theorem ad1 : Pure Tryz.prog 26 [five.sv, .i 101] (· = .tup [(five.addX 101).sv, .i 0, .i 2]) := by
  have h := add26p (five_bd.sm (by decide)) 101
  have e : five.addE 101 = 2 := by kernel_rfl
  have e2 : five.addN 101 = 0 := by kernel_rfl
  rw [e, e2] at h
  exact h
theorem p1 : Pure Tryz.prog 19 [five.sv, .i 5] (· = .tup [.i 0, .i 6]) := by
  have h := person13 five five_ok 5
  have e : five.pE 5 = 6 := by kernel_rfl
  rw [e] at h
  exact h
theorem y1 : Pure Tryz.prog 12 [five.sv, .i 4, .i 4] (· = .tup [.r (.rs 1 1 (intsR [4])), .i 0]) := by
  have h := why20 five five_ok (by decide) 4 4
  have e : five.wE 4 4 = 0 := by kernel_rfl
  have e2 : five.far 4 4 = 0 := by kernel_rfl
  unfold EG.wS at h
  rw [e, if_pos rfl, e2] at h
  have e3 : five.way (4 : Int).toNat (4 : Int).toNat (0 : Int).toNat = [4] := by kernel_rfl
  rw [e3] at h
  exact h
theorem y2 : Pure Tryz.prog 12 [five.sv, .i 4, .i 0] (· = .tup [nilS, .i 6]) := by
  have h := why20 five five_ok (by decide) 4 0
  have e : five.wE 4 0 = 6 := by kernel_rfl
  rw [EG.wS_no (by rw [e]; decide), e] at h
  exact h
def oneM : MG := ⟨1, fun _ => ⟨1, 1⟩⟩
theorem s1 : Pure Tryz.prog 27 [five.sv, oneM.sv] (· = .tup [nilS, .i 2]) := by
  have h := suspects39 sortOK five five_ok oneM (by decide)
  have e : five.askE oneM = 2 := by kernel_rfl
  unfold EG.somS at h
  rw [if_neg (by rw [e]; decide), e] at h
  exact h
theorem sm1 : Pure Tryz.prog 24 [(exZ.wdX 2 1).sv, five.sv] (· = .b true) := by
  have h := same32 (exZ.wdX 2 1) five ((exZ_bd.wd 2 1).sm (by decide)).ok five_ok
  have e : (exZ.wdX 2 1).smB five = true := by kernel_rfl
  rw [e] at h
  exact h
theorem lawExamples : Pure Tryz.prog 8 [] (· = .b true) := by
  refine pure_of_GC T_ok Tryz.func8 rfl (by kernel_rfl) (Nat.le_of_ble_eq_true rfl) rfl rfl ?_
  simp [go_sem]
  refine call_val five100 rfl rfl ?_
  simp [go_sem]
  refine call_val alive46 rfl rfl ?_
  simp [go_sem]
  refine call_val v1 rfl rfl ?_
  simp [go_sem]
  refine call_val v2 rfl rfl ?_
  simp [go_sem]
  refine call_val v3 rfl rfl ?_
  simp [go_sem]
  refine call_val v4 rfl rfl ?_
  simp [go_sem]
  refine call_val v5 rfl rfl ?_
  simp [go_sem]
  refine call_val v6 rfl rfl ?_
  simp [go_sem]
  refine call_val v7 rfl rfl ?_
  simp [go_sem]
  refine call_val v8 rfl rfl ?_
  simp [go_sem]
  refine call_val v9 rfl rfl ?_
  simp [go_sem, exZ_nc]
  refine call_val a1 rfl rfl ?_
  simp [go_sem]
  refine call_val a2 rfl rfl ?_
  simp [go_sem]
  refine call_val w1 rfl rfl ?_
  simp [go_sem]
  refine call_val w2 rfl rfl ?_
  simp [go_sem]
  refine call_val ad1 rfl rfl ?_
  simp [go_sem]
  refine call_val p1 rfl rfl ?_
  simp [go_sem]
  refine call_val y1 rfl rfl ?_
  simp [go_sem]
  refine call_val y2 rfl rfl ?_
  simp [go_sem]
  refine call_lent (v := .tup [nilS, .i 2]) ?_ rfl ?_
  · simp [go_sem]
    refine s1.args ⟨SV.le.rfl, le_r (rle_rs fun i j hi hj => RV.le_eq ?_), trivial⟩
    have hi0 : i = 0 := by have : i < 1 := hi; omega
    subst hi0
    rcases (by omega : j = 0 ∨ j = 1) with rfl | rfl <;> rfl
  simp [go_sem]
  refine call_val sm1 rfl rfl ?_
  simp [go_sem]
  refine call_lent (v := .b true) ?_ rfl ?_
  · simp [go_sem]
    refine (ints_rfl [4] (by decide)).args ⟨SV.le.rfl, le_r (rle_ints (l := [4]) rfl fun i hi => ?_), trivial⟩
    rcases (by simp at hi; omega : i = 0) with rfl
    rfl
  simp [go_sem]
end Go.Gx
