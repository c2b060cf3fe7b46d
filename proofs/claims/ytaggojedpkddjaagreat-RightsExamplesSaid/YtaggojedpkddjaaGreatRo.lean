/-
  Laws: RightsAnswers; the chapter's example.
-/
import Derived.Test.YtaggojedpkddjaaGreatRm
set_option linter.unusedVariables false
set_option linter.unusedSimpArgs false
set_option maxRecDepth 20000
set_option maxHeartbeats 2000000
namespace Go.Gx.Rg
open Go.RowKit Go.Proofs Go.Proofs.YtaggojedpkddjaaGreat

theorem natS_self (n : Nat) (u : Nat → Int) : (decide (n = n) && (List.range n).all fun i => decide (u i = u i)) = true := by simp
theorem same_nats (l : List Nat) (h : (l.length : Int) < 2 ^ 61) : Pure Tryz.prog 10 [natS l, natS l] (· = .b true) :=
  (sameInts34 l.length l.length h h _ _ (fun i => ((l[i]?).getD 0 : Nat)) (fun i => ((l[i]?).getD 0 : Nat)) (fun i hi => by simp [rowsL, hi]) (fun i hi => by simp [rowsL, hi])).val (by simp)
theorem RG.apq_sm (g : RG) (q : QG) : (g.apq q).length ≤ 20 := by
  by_cases ha : ask g q = 0
  · have := (RG.small (ask_valid ha).1).1
    have := RG.apq_len g q
    omega
  · simp [RG.apq, ha]

def RG.By (g : RG) : Prop := ∀ i, i < g.nr → (g.r i).byte
theorem OK_of {g : RG} (hb : g.By) (h : g.great = false) : g.OK := by
  simp [RG.great] at h
  exact ⟨by omega, by omega, by omega, by omega, hb⟩
end Go.Gx.Rg
