/-
  Remove, Merge: frozen.
-/
import Derived.Test.YtdnblflhlklfnaaGreatIm
set_option linter.unusedVariables false
set_option linter.unusedSimpArgs false
set_option maxRecDepth 20000
set_option maxHeartbeats 4000000
namespace Go.Gx.Ix
open Go.RowKit Go.Proofs Go.Proofs.YtdnblflhlklfnaaGreat

theorem isM_lt {l : List MbG} {t : Int} (h : isM l t = true) : plc l t < l.length := by
  unfold isM fnd at h
  simp only [Bool.and_eq_true, decide_eq_true_eq] at h
  exact h.1
def remL (l : List MbG) (t : Int) : List MbG := l.take (plc l t) ++ l.drop (plc l t + 1)
def remE (x : IxG) (t : Int) : Int := if validX x = false then 40 else if isM x.ms t = false then 6 else 0
def remX (x : IxG) (t : Int) : IxG := if remE x t = 0 then ofG (remL x.ms t) else IxG.zero
def mrgE (x y : IxG) : Int := if (validX x && validX y) = false then 40 else if x.ms.any (fun a => isM y.ms a.id) then 41 else if 256 < x.ms.length + y.ms.length then 9 else 0
def mrgX (x y : IxG) : IxG := if mrgE x y = 0 then ofG (x.ms ++ y.ms) else IxG.zero
end Go.Gx.Ix
