/-
  Texts of the walk, merged: Xf.
-/
import Derived.Test.YtncccnmmjfapnaaGreatZxc
import Derived.Test.YtncccnmmjfapnaaGreatZxd
set_option linter.unusedVariables false
set_option linter.unusedSimpArgs false
set_option maxRecDepth 100000
set_option maxHeartbeats 4000000
namespace Go.Gx.Sr
open Go.RowKit Go.Proofs Go.Proofs.YtncccnmmjfapnaaGreat Go.Gx.Ix
variable {x:SvG}
theorem ver_ok (h:x.Va) {a:Int} {p:IrG} {s:W64} (he:(stA x (ordV a p s)).e=0) :
 x.g.th a=true∧p.ok=true∧stX x (ordV a p s)=x.put 1 a (cmpR x (x.eye (x.g.bp a x.g.nr)) p) s∧(stA x (ordV a p s)).n=(cmpR x (x.eye (x.g.bp a x.g.nr)) p).d:=by
 obtain⟨h0,h1,h2⟩:=st_ok he
 rw[h1,h2]
 have e:doM x (ordV a p s)=verM x (ordV a p s):=rfl
 rw[e] at h0 ⊢
 unfold verM at h0 ⊢
 by_cases ht:x.g.th a=true
 ·have ht':x.g.th (ordV a p s).a=true:=ht
  rw[if_pos ht'] at h0 ⊢
  by_cases hp:p.ok=true
  ·have hp':(ordV a p s).x.ok=true:=hp
   rw[if_pos hp'] at h0 ⊢
   have:=dec_ok h0
   exact⟨ht,hp,this⟩
  ·have hp':¬(ordV a p s).x.ok=true:=hp
   rw[if_neg hp'] at h0;cases h0
 ·have ht':¬x.g.th (ordV a p s).a=true:=ht
  rw[if_neg ht'] at h0;cases h0
theorem ver_best (h:x.Va) {a:Int} (ht:x.g.th a=true):x.g.pE a=0∧x.g.th (x.g.bp a x.g.nr)=true:=by
 refine⟨(SvG.best_ok (SvG.va_iff.2 h) ht).1,EG.bp_th (EG.valid_lth h.g) ht _ (Nat.le_refl _)⟩
end Go.Gx.Sr
