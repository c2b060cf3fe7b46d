/-
  Texts of the walk, merged: Xh.
-/
import Derived.Test.YtncccnmmjfapnaaGreatZxd
set_option linter.unusedVariables false
set_option linter.unusedSimpArgs false
set_option maxRecDepth 100000
set_option maxHeartbeats 4000000
namespace Go.Gx.Sr
open Go.RowKit Go.Proofs Go.Proofs.YtncccnmmjfapnaaGreat Go.Gx.Ix
variable {x:SvG}
theorem rem_ok {a:Int} (he:(stA x (ordR a)).e=0):x.g.th a=true∧stX x (ordR a)=x.rem a∧(stA x (ordR a)).n=erN x.lg a:=by
 obtain⟨h0,h1,h2⟩:=st_ok he
 rw[h1,h2]
 have e:doM x (ordR a)=remM x (ordR a):=rfl
 rw[e] at h0 ⊢
 unfold remM at h0 ⊢
 by_cases ht:x.g.th a=true
 ·have ht':x.g.th (ordR a).a=true:=ht
  rw[if_pos ht'] at h0 ⊢
  exact⟨ht,rfl,rfl⟩
 ·have ht':¬x.g.th (ordR a).a=true:=ht
  rw[if_neg ht'] at h0
  exact absurd h0 (by show ¬(6:Int)=0;decide)
end Go.Gx.Sr
