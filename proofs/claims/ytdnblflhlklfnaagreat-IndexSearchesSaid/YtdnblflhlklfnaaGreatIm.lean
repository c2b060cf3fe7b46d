/-
  place; slices.Grow and Concat of members; Add, Remove, Merge: frozen.
-/
import Derived.Test.YtdnblflhlklfnaaGreatIl
set_option linter.unusedVariables false
set_option linter.unusedSimpArgs false
set_option maxRecDepth 20000
set_option maxHeartbeats 4000000
namespace Go.Gx.Ix
open Go.RowKit Go.Proofs Go.Proofs.YtdnblflhlklfnaaGreat

def plc (l : List MbG) (t : Int) : Nat := bnd (fun i => cmpI (l[i]!).id t) l.length
def isM (l : List MbG) (t : Int) : Bool := fnd (fun i => cmpI (l[i]!).id t) l.length
theorem place60 (l : List MbG) (hn : l.length ≤ 1000000) (hs : l.Pairwise fun a b => a.id ≤ b.id) (t : Int) : Pure Tryz.prog 22 [mrs l, .i t] (· = .tup [.i (plc l t : Nat), .b (isM l t)]) := by
  refine pure_of_GC T_ok Tryz.func22 rfl (by kernel_rfl) (Nat.le_of_ble_eq_true rfl) rfl rfl ?_
  simp [go_sem]
  refine call_val (search84 l (by omega) t (fun a b hab hb h ha => ?_) (fun i => cmpI (l[i]!).id t) fun i hi => by rw [getElem!_pos l i hi]) rfl rfl ?_
  · have := List.pairwise_iff_getElem.1 hs a b ha hb hab
    omega
  simp [go_sem, plc, isM]
theorem mflat {l : List MbG} {i j : Nat} (hi : i < l.length) (hj : j < 3) : (mrows l i j).flat = true := by
  rw [mrow hi, celV_eq _ hj]; unfold celV
  repeat' split
  all_goals rfl
theorem joined_rows (l l' : List MbG) (r' : Nat → Nat → RV) (hr : ∀ i j, i < l'.length → j < 3 → r' i j = mrows l' i j) (i j : Nat) (h : i < l.length + l'.length) (hj : j < 3) : joined l.length l'.length (fun i j => SV.r (mrows l i j)) (fun i j => SV.r (r' i j)) i j = .r (mrows (l ++ l') i j) := by
  unfold joined
  by_cases h1 : i < l.length
  · rw [if_pos h1]; unfold mrows rowsL; rw [List.getElem?_append_left h1]
  · rw [if_neg h1, if_pos (by omega)]
    simp only [hr (i - l.length) j (by omega) hj]
    unfold mrows rowsL; rw [List.getElem?_append_right (by omega)]
theorem validX_sorted {x : IxG} (h : validX x = true) : x.ms.Pairwise fun a b => a.id ≤ b.id := by
  simp only [validX, Bool.and_eq_true, decide_eq_true_eq] at h
  rw [h.1.2]
  rw [List.pairwise_iff_getElem]
  intro i j hi hj hij
  exact (srtM_spec x.ms).2.2 i j hij hj hi
theorem buildE_len {l : List MbG} (h : buildE l = 0) : l.length ≤ 256 := by
  unfold buildE at h
  by_cases h1 : 256 < l.length
  · rw [if_pos h1] at h; cases h
  · omega
theorem validX_len {x : IxG} (h : validX x = true) : x.ms.length ≤ 256 := by
  simp only [validX, Bool.and_eq_true, decide_eq_true_eq] at h
  exact buildE_len h.1.1
def addE (x : IxG) (m : MbG) : Int := if validX x = false then 40 else if okN m.id = false then 2 else if m.x.ok = false then 30 else if isM x.ms m.id then 41 else if x.ms.length = 256 then 9 else 0
def addX (x : IxG) (m : MbG) : IxG := if addE x m = 0 then ofG (x.ms ++ [m]) else IxG.zero
end Go.Gx.Ix
