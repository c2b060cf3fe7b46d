/-
  Texts of the walk, merged: Xo.
-/
import Derived.Test.YtncccnmmjfapnaaGreatZxm
import Derived.Test.YtncccnmmjfapnaaGreatZxe
set_option linter.unusedVariables false
set_option linter.unusedSimpArgs false
set_option maxRecDepth 100000
set_option maxHeartbeats 4000000
namespace Go.Gx.Sr
open Go.RowKit Go.Proofs Go.Proofs.YtncccnmmjfapnaaGreat Go.Gx.Ix
theorem law10 (x:SvG) (l:List OrG) (hb:∀o∈l,o.rl.byte):Pure Tryz.prog 10 [x.ss,ords l] (· =.b true):=by
 refine pure_of_GC T_ok Tryz.func10 rfl (by kernel_rfl) (nb rfl) rfl rfl ?_
 simp[go_sem]
 refine call_val alive16 rfl rfl ?_
 simp[go_sem]
 refine call_val (long36 l) rfl rfl ?_
 cases hlo:longB l
 rotate_left
 ·simp[go_sem]
 by_cases h150:(150:Int)<l.length
 ·simp[go_sem,h150]
 have hsm:=long_sm hb hlo h150
 have hn:l.length<1000000:=by omega
 simp[go_sem,h150]
 by_cases hE:runE x l=0
 rotate_left
 ·refine call_val (run_bad hn hsm hE) rfl rfl ?_
  simp[go_sem,hE]
 refine call_val (run_good hn hsm hE) rfl rfl ?_
 obtain⟨hv,hse,_,hR⟩:=run_end hE
 rw[run_eq] at hv hse hR
 obtain⟨A,hA⟩:∃A,outs x.new l=A:=⟨_,rfl⟩
 obtain⟨X,hX⟩:∃X,l.foldl stX x.new=X:=⟨_,rfl⟩
 rw[hA,hX]
 have hv:X.Va:=by rw[← hX];exact hv
 have hse:SetE x X:=by rw[← hX];exact hse
 have hR:InvR X:=by rw[← hX];exact hR
 have s1:=hse.num
 have s2:=hse.den
 have hlm:=hv.ok.lg
 simp[go_sem]
 refine GLoop_p T_ok (α:=Nat) (λi=>[(2,.ptr 0 0 5 0),(5,.b true),(6,.ptr 1 0 17 0),(39,lgs X.lg),(40,.i X.lg.length),(41,.i i)])
  (λi M nx=>i≤X.lg.length∧2≤nx∧M 0=some (.box [.i x.num,.i x.den,.i x.turns,.i x.mage,.w x.key])∧M 1=some (.box X.cells)) (λi=>X.lg.length - i) 0 ?_ ?_ ?_
 ·exact⟨Nat.zero_le _,by simp[go_sem]⟩
 ·simp[go_sem]
 rintro i J M nx _ ⟨hi,hnx,m0,m1⟩
 have b0:¬nx=0:=by omega
 have b1:¬nx=1:=by omega
 have b0':¬0=nx:=by omega
 have b1':¬1=nx:=by omega
 by_cases hlt:i<X.lg.length
 ·have hrow:=rowOf_get (f:=EnG.f) hlt
  have hinv:=hR _ (List.getElem_mem hlt)
  obtain⟨e,he⟩:∃e,X.lg[i]=e:=⟨_,rfl⟩
  rw[he] at hrow hinv
  simp[go_sem,hlt,hrow,m0,m1,b0,b1,b0',b1']
  by_cases hp:e.p=-1
  ·simp[go_sem,hp,m0,m1,b0,b1,b0',b1']
   repeat' first | omega | assumption | apply And.intro | refine⟨i+1,?_⟩
  have h:=hinv hp
  have hgood:=h.good
  have hu:=unpack22 e.d
  rw[h.un,if_pos rfl,if_pos rfl] at hu
  have hf:=follows23 (unG e.d)
  rw[hgood,h.fol] at hf
  obtain⟨r,hr⟩:∃r,unG e.d=r:=⟨_,rfl⟩
  have a1:=h.n;have a2:=h.m;have a3:=h.p;have a4:=h.q;have a5:=h.k;have a6:=h.d3;have a7:=h.r0
  rw[hr] at hu hf a1 a2 a3 a4 a6 a7
  rw[s1] at a3
  rw[s2] at a4
  simp[go_sem,hp]
  refine call_val hu rfl rfl ?_
  simp[go_sem,m0,m1,b0,b1,b0',b1']
  refine call_val hf rfl rfl ?_
  have n1:¬64<r.n:=by omega
  have n2:¬64<r.m:=by omega
  have n3:¬e.k<1:=by omega
  have n4:¬5<e.k:=by omega
  by_cases k5:e.k=5
  ·have d3:r.d=3:=a6.2 k5
   have k2:¬e.k=2:=by omega
   have r0:¬0≤r.r:=λh=>k2 (a7.1 h)
   simp[go_sem,n1,n2,a3,a4,k5,d3,r0,m0,m1,b0,b1,b0',b1']
   repeat' first | omega | assumption | apply And.intro | refine⟨i+1,?_⟩
  ·have d3:¬r.d=3:=λh=>k5 (a6.1 h)
   by_cases k2:e.k=2
   ·have r0:0≤r.r:=a7.2 k2
    simp[go_sem,n1,n2,a3,a4,k2,d3,r0,m0,m1,b0,b1,b0',b1']
    repeat' first | omega | assumption | apply And.intro | refine⟨i+1,?_⟩
   ·have r0:¬0≤r.r:=λh=>k2 (a7.1 h)
    simp[go_sem,n1,n2,n3,n4,a3,a4,k5,k2,d3,r0,m0,m1,b0,b1,b0',b1']
    repeat' first | omega | assumption | apply And.intro | refine⟨i+1,?_⟩
 obtain rfl:i=X.lg.length:=by omega
 have hlE:lgE X.lg=0:=by unfold lgE;rw[if_pos hv.lg]
 simp[go_sem,m1]
 refine call_val (check53 X.lg hlm) rfl rfl ?_
 rw[hlE]
 simp[go_sem,m1]
 refine call_val (check30s X hv.ok) rfl rfl ?_
 rw[chkE_iff.2 (SvG.va_iff.2 hv)]
 simp[go_sem]
end Go.Gx.Sr
