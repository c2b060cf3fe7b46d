/-
  Texts of the walk, merged: Xm.
-/
import Derived.Test.YtncccnmmjfapnaaGreatZxd
set_option linter.unusedVariables false
set_option linter.unusedSimpArgs false
set_option maxRecDepth 100000
set_option maxHeartbeats 4000000
namespace Go.Gx.Sr
open Go.RowKit Go.Proofs Go.Proofs.YtncccnmmjfapnaaGreat Go.Gx.Ix
theorem run_bad {x:SvG} {l:List OrG} (hn:l.length<1000000) (ho:∀o∈l,o.Sm) (h:¬runE x l=0):Pure Tryz.prog 37 [x.ss,ords l] (· =.tup [SvG.zero.sv,ans [],.i (runE x l)]):=by
 have hs:=run37 x l hn ho
 rw[if_neg h,if_neg h] at hs
 exact hs
end Go.Gx.Sr
