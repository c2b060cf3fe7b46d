/-
  IndexGrows.
-/
import Derived.Test.YtdnblflhlklfnaaGreatJd
set_option linter.unusedVariables false
set_option linter.unusedSimpArgs false
set_option maxRecDepth 20000
set_option maxHeartbeats 4000000
namespace Go.Gx.Ix
open Go.RowKit Go.Proofs Go.Proofs.YtdnblflhlklfnaaGreat

def fdI (l : List MbG) (b : IrG) (turns num den : Int) : List Int := if mE b b turns num den = 0 then fndM (srtM l) b turns.toNat num.toNat den.toNat else []
def fdS (l : List MbG) (b : IrG) (turns num den : Int) : Nat := if mE b b turns num den = 0 then snM (srtM l) b turns.toNat num.toNat den.toNat else 0
theorem search_of {l : List MbG} (h : VL l) (b : IrG) (turns num den : Int) : Pure Tryz.prog 6 [(ofG l).sv, b.sv, .i turns, .agg [.i num, .i den]] (· = .tup [.agg [ils (fdI l b turns num den), .i (fdS l b turns num den)], .i (mE b b turns num den)]) := by
  have hs := search33f (ofG l) (ofG_sm (by have := h.len; omega)) b turns num den
  have hsE : srE (ofG l) b turns num den = mE b b turns num den := by unfold srE; rw [if_neg (by rw [ofG_valid h]; simp)]
  have e1 : srIds (ofG l) b turns num den = fdI l b turns num den := by unfold srIds fdI; rw [hsE]; rfl
  have e2 : srSn (ofG l) b turns num den = fdS l b turns num den := by unfold srSn fdS; rw [hsE]; rfl
  rw [hsE, e1, e2] at hs
  exact hs
theorem fdI_le (l : List MbG) (b : IrG) (turns num den : Int) : (fdI l b turns num den).length ≤ l.length := by
  unfold fdI
  split
  · have := fndM_le (srtM l) b turns.toNat num.toNat den.toNat
    rw [srt_len] at this
    exact this
  · exact Nat.zero_le _
end Go.Gx.Ix
