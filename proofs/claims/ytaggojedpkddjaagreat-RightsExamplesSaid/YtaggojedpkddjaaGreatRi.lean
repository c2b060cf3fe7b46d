/-
  Contracts: the rules that apply.
-/
import Derived.Test.YtaggojedpkddjaaGreatRh
import Derived.Test.YtaggojedpkddjaaGreatK5
set_option linter.unusedVariables false
set_option linter.unusedSimpArgs false
set_option maxRecDepth 20000
set_option maxHeartbeats 1000000
namespace Go.Gx.Rg
open Go.RowKit Go.Proofs Go.Proofs.YtaggojedpkddjaaGreat

def ruleB (g : RG) (q : QG) (r : RuleG) : Bool := decide (r.p = q.p) && decide (r.r = q.r) && decide (r.l = q.l) && decide (r.f ≤ q.t) && decide (q.t < r.t) && decide (r.k ≤ q.nk) && based g q r.b
def RG.apl (g : RG) (q : QG) (n : Nat) : List Nat := (List.range n).filter fun i => ruleB g q (g.r i)
theorem RG.apl_yes {g : RG} {q : QG} {n : Nat} (h : ruleB g q (g.r n) = true) : g.apl q (n + 1) = g.apl q n ++ [n] := by simp [RG.apl, List.range_succ, h]
theorem RG.apl_no {g : RG} {q : QG} {n : Nat} (h : ruleB g q (g.r n) = false) : g.apl q (n + 1) = g.apl q n := by simp [RG.apl, List.range_succ, h]
theorem RG.apl_len (g : RG) (q : QG) (n : Nat) : (g.apl q n).length ≤ n := by
  have := List.length_filter_le (fun i => ruleB g q (g.r i)) (List.range n)
  simpa [RG.apl] using this
def RG.lev (g : RG) (q : QG) : Nat → Int
  | 0 => 0
  | n + 1 => if ruleB g q (g.r n) then max (g.lev q n) (g.r n).s else g.lev q n
end Go.Gx.Rg
