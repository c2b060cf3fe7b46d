/-
 Texts of the walk, merged: Xe.
-/
import Derived.Test.YtncccnmmjfapnaaGreatZxc
import Derived.Test.YtncccnmmjfapnaaGreatZxd
set_option linter.unusedVariables false
set_option linter.unusedSimpArgs false
set_option maxRecDepth 100000
set_option maxHeartbeats 4000000
namespace Go.Gx.Sr
open Go.RowKit Go.Proofs Go.Proofs.YtncccnmmjfapnaaGreat Go.Gx.Ix
variable {x:SvG}
theorem aQ6 {x:SvG} {l:List OrG} (h:jV x l=0):x.setB=true/\(∀o∈l,cQ o=0)/\l.length<=300:=by
 unfold jV at h;obtain⟨h1,h2⟩:=uT h
 cases hs:x.setB with
 | false=>rw[hs] at h1;simp at h1
 | true=>
   rw[hs,if_pos rfl] at h1;refine⟨rfl,h2,?_⟩;split at h1
   ·cases h1
   ·omega
end Go.Gx.Sr
