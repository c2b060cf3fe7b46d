/-
  Texts of the walk, merged: Xff.
-/
import Derived.Test.YtncccnmmjfapnaaGreatZxe
set_option linter.unusedVariables false
set_option linter.unusedSimpArgs false
set_option maxRecDepth 100000
set_option maxHeartbeats 4000000
namespace Go.Gx.Sr
open Go.RowKit Go.Proofs Go.Proofs.YtncccnmmjfapnaaGreat Go.Gx.Ix
variable {x:SvG}
theorem gat_ok (h:x.Va) {n a:Int} {p:IrG} {s:W64} (he:(stA x (ordG n a p s)).e=0) (hn:(stA x (ordG n a p s)).n=1) :
 (0≤n∧n<x.ks.length)∧x.g.th a=true∧p.ok=true∧(cmpR x (x.eye a) p).d=1∧decD ((x.ks[n.toNat]?).getD KsG.zero) a x.now=1:=by
 obtain⟨h0,h1,h2⟩:=st_ok he
 rw[h1] at hn
 have e:doM x (ordG n a p s)=gatM x (ordG n a p s):=rfl
 rw[e] at h0 hn
 unfold gatM at h0 hn
 by_cases hb:Ix.btw 0 ((x.ks.length:Int) - 1) n=true
 ·have hb':Ix.btw 0 ((x.ks.length:Int) - 1) (ordG n a p s).n=true:=hb
  rw[if_pos hb'] at h0 hn
  have hbi:0≤n∧n≤(x.ks.length:Int) - 1:=by simpa [Ix.btw] using hb
  by_cases ht:x.g.th a=true
  ·have ht':x.g.th (ordG n a p s).a=true:=ht
   rw[if_pos ht'] at h0 hn
   by_cases hp:p.ok=true
   ·have hp':(ordG n a p s).x.ok=true:=hp
    rw[if_pos hp'] at h0 hn
    simp only at h0 hn
    refine⟨⟨hbi.1,by omega⟩,ht,hp,?_⟩
    have e1:decD ((x.ks[(ordG n a p s).n.toNat]?).getD KsG.zero) (ordG n a p s).a x.now=decD ((x.ks[n.toNat]?).getD KsG.zero) a x.now:=rfl
    have e2:cmpR x (x.eye (ordG n a p s).a) (ordG n a p s).x=cmpR x (x.eye a) p:=rfl
    rw[e1,e2] at h0 hn
    obtain⟨d,hd⟩:∃d,decD ((x.ks[n.toNat]?).getD KsG.zero) a x.now=d:=⟨_,rfl⟩
    have hd3:d=3∨d=1∨d=2:=by rw[← hd];unfold decD saidB;split;exact .inl rfl;split;exact .inr (.inl rfl);exact .inr (.inr rfl)
    rw[hd] at h0 hn ⊢
    rcases hd3 with rfl | rfl | rfl
    ·rw[if_pos rfl] at h0 hn
     have:=(dec_ok h0).2
     rw[this] at hn;cases hn
    ·rw[if_neg (by decide),if_neg (by decide)] at h0 hn
     have:=(dec_ok h0).2
     rw[this] at hn
     exact⟨hn,rfl⟩
    ·rw[if_neg (by decide),if_pos rfl] at h0 hn
     have:=(dec_ok h0).2
     rw[this] at hn;cases hn
   ·have hp':¬(ordG n a p s).x.ok=true:=hp
    rw[if_neg hp'] at h0;cases h0
  ·have ht':¬x.g.th (ordG n a p s).a=true:=ht
   rw[if_neg ht'] at h0;cases h0
 ·have hb':¬Ix.btw 0 ((x.ks.length:Int) - 1) (ordG n a p s).n=true:=hb
  rw[if_neg hb'] at h0;cases h0
theorem gat_list (h:x.Va) (i:InvG x) {k:KsG} (hk:k∈x.ks) {a:Int} (ht:x.g.th a=true) (hd:decD k a x.now=1) :
 onlE x.ch a k.a=0∧onlW x.ch a k.a=1∧x.now - k.a≤x.mage∧onlE x.ch a x.now=0∧lateE x.ch k a x.now=0∧(onlW x.ch a x.now=1∨lateL x.ch k a x.now≠[]):=by
 have hth:=SvG.th_in (SvG.va_iff.2 h) ht
 obtain⟨k1,k2,k3,_⟩:=h.ks k hk
 have hka:tmB k.a=true∧tmB k.m=true:=by
  simp only [KsG.ok,Bool.and_eq_true] at k1
  exact k1.1
 have hp:psB a=true:=psB_iff.2 (by omega)
 have hn:tmB x.now=true:=tmB_iff.2 h.now
 have e1:lstE x.ch k.a=0:=by unfold lstE;rw[if_pos h.ch,if_pos hka.1]
 have e2:lstE x.ch x.now=0:=by unfold lstE;rw[if_pos h.ch,if_pos hn]
 unfold decD at hd
 split at hd
 ·cases hd
 rename_i hm
 have hs:saidB (lstW x.ch k.a) a=1:=by rw[← i k hk];exact hd
 refine⟨by unfold onlE;rw[if_pos e1,if_pos hp],hs,by omega,by unfold onlE;rw[if_pos e2,if_pos hp],?_,?_⟩
 ·unfold lateE askE
  rw[if_pos h.ch,hp,hn,hka.1]
  simp;omega
 ·by_cases hl:lateL x.ch k a x.now=[]
  ·refine .inl ?_
   have:=lst_same h.ch (k:=k) (n:=x.now) (p:=a) (by omega) (by omega) hl
   show saidB (lstW x.ch x.now) a=1
   rw[← this];exact hs
  ·exact .inr hl
end Go.Gx.Sr
