/-
 Texts of the walk, merged: Yx Yh So Yi Yj Yy Yz.
-/
import Derived.Test.YtncccnmmjfapnaaGreatZar
import Derived.Test.YtncccnmmjfapnaaGreatZas
import Derived.Test.YtncccnmmjfapnaaGreatZxg
import Derived.Test.YtncccnmmjfapnaaGreatZxc
import Derived.Test.YtncccnmmjfapnaaGreatZam
set_option linter.unusedVariables false
set_option linter.unusedSimpArgs false
set_option maxRecDepth 100000
set_option maxHeartbeats 4000000
namespace Go.Gx.Sr
open Go.RowKit Go.Proofs Go.Proofs.YtncccnmmjfapnaaGreat Go.Gx.Ix
def aVs (x:SvG) (o:OrG):SvG × AnG:=if (nR x o).2.e=0 then nR x o else (x,bad (nR x o).2.e)
theorem aO3 (x:SvG) (p:IrG) {k n:Nat} (h:k<n):(x.alK p n).drop (x.alK p k).length=(if (x.g.th k&&rP (x.eye k) p x.turns.toNat x.num x.den)=true then [(k:Int)] else [])++(x.alK p n).drop (x.alK p (k+1)).length:=by
 obtain⟨r,hr⟩:=x.alK_pre p (show k+1<=n from h);have hs:=x.alK_succ p k;have e1:x.alK p n=x.alK p k++((if (x.g.th k&&rP (x.eye k) p x.turns.toNat x.num x.den)=true then [(k:Int)] else [])++r):=by rw[hr,hs,List.append_assoc]
 have d1:(x.alK p n).drop (x.alK p k).length=(if (x.g.th k&&rP (x.eye k) p x.turns.toNat x.num x.den)=true then [(k:Int)] else [])++r:=by rw[e1];exact List.drop_left
 have d2:(x.alK p n).drop (x.alK p (k+1)).length=r:=by rw[hr];exact List.drop_left
 rw[d1,d2]
theorem aQu (x:SvG) (o:OrG) (hx:x.OK) (hv:x.valid=true) (hq:(o.q.nk:Int)<2 ^ 61):Pure Tryz.prog 209 [x.sv,o.sv] (· =rT (aVs x o)):=by
 refine Pure.ofSub ?_;refine π Tryz.func209 ?_;have n1:=hx.ir;have hqO0:o.q.OK:=by unfold Rg.QG.OK;omega
 unfold aVs nR;simp[go_sem];refine aA (tL o.x.c o.x.m) rfl rfl ?_;have e0:o.x.ok=vI o.x.c o.x.m:=rfl;rw[e0]
 cases hvi:vI o.x.c o.x.m
 ·simp[go_sem];refine aA (bO x 30) rfl rfl ?_;simp[go_sem,bad]
 simp[go_sem];refine aA (Rg.checkQuery41 o.q hqO0) rfl rfl ?_;by_cases hqe:o.q.err=0;rotate_left
 ·simp[go_sem,hqe];refine aA (bO x o.q.err) rfl rfl ?_;simp[go_sem,bad,hqe]
 simp[go_sem,hqe];rw[bFf (SvG.va_iff.1 hv) hvi];obtain⟨R,hR⟩:∃R,nZ x o (x.alK o.x x.ir.length) []=R:=⟨_,rfl⟩;rw[hR];have hl0:=SvG.log_ok hv;have hset:=(SvG.valid_iff.1 hv).1;refine bK (GSt.adopt 8 132 5 (λ_ _=>.r .any) ζ) ?_;refine dW aD (α:=Nat × List EnG × List HtG) (λs=>[(2,.ptr 0 0 17 0),(3,.ptr 1 0 34 0),(4,.ptr 2 0 17 0),(5,.ptr 3 0 3 0),(7,.ptr 4 0 17 0),(8,.sl 5 5 0 s.2.2.length none),(9,.i s.1)])
  (λs M nx=>s.1<=x.ir.length/\6<=nx/\M 0=some (.box x.cells)/\M 1=some (.box o.cells)/\M 2=some (.box [.i 0,.i 0,.i 0,.i 0,.r (.v (.int .u64 0)),.i 0,aP,aP,aP,aP,aP,aP,aP,aP,aP,aP,aP])/\M 3=some (.box [.i 0,.i 0,aP])/\
    M 4=some (.box ({x with lg:=s.2.1}:SvG).cells)/\(∃G,M 5=some (.vec 132 5 s.2.2.length G)/\∀i j,i<s.2.2.length->j<5->G i j=.r (aY HtG.f s.2.2 i j))/\
    wZ s.2.1 x.now/\s.2.1.length<=60/\s.2.2.length<=s.1/\R=nZ {x with lg:=s.2.1} o ((x.alK o.x x.ir.length).drop (x.alK o.x s.1).length) s.2.2) (λs=>x.ir.length - s.1) (0,x.lg,[]) ?_ ?_ ?_
 ·refine⟨Nat.zero_le _,τ,ζ,ζ,ζ,ζ,ζ,⟨_,ξ,λi j hi=>absurd hi (Nat.not_lt_zero i)⟩,hl0,?_,Nat.le_refl _,hR.symm⟩;have:=hl0.ok;unfold hJ at this;simp only [Bool.and_eq_true,decide_eq_true_eq] at this;exact this.1
 ·simp[go_sem]
 rintro⟨k,lg,h⟩ J M nx _ ⟨hk,hnx,m0,m1,m2,m3,m4,⟨G,m5,hG⟩,hlg,hl60,hhk,hM⟩;dsimp only at *;by_cases hlt:k<x.ir.length
 ·have hrow:=aI (f:=IrG.f) hlt;have hey:x.eye k=x.ir[k]:=SvG.eye_get hlt;rw[<- hey] at hrow;have heok:=SvG.eye_ok hv (a:=(k:Int)) ω ω;have hmt:=(aPz hset heok hvi).2;rw[aO3 x o.x hlt,hmt] at hM;have hcm:=oI x hset (x.eye k) o.x;have hgood:=jN hset (x.eye k) o.x;have hcd:=(aVa x (x.eye k) o.x).2.2.2.2.2;obtain⟨c,hc⟩:∃c,x.eye k=c:=⟨_,rfl⟩;rw[hc] at hrow hcm hgood hM hcd;obtain⟨r,hr⟩:∃r,gR x c o.x=r:=⟨_,rfl⟩;rw[hr] at hcm hgood hM hcd;have hg2:=RsG.good_in hgood;have d0:∀a,a<=5->∀i,¬a=nx+i:=λa h i=>ω;have d0':∀a,a<=5->∀i,¬nx+i=a:=λa h i=>ω;have b0:∀a,a<=5->¬a=nx:=λa h=>ω;have b0':∀a,a<=5->¬nx=a:=λa h=>ω;simp[go_sem,hlt,m0,m1,m2,m3,m4,m5,b0,b0',d0,d0'];refine jJ (S:=[(2,.ptr 0 0 17 0),(3,.ptr 1 0 34 0),(4,.ptr 2 0 17 0),(5,.ptr 3 0 3 0),(7,.ptr 4 0 17 0),(8,.sl 5 5 0 h.length none),(9,.i k),(10,.ptr nx 0 6 0)])
   (φ:=λM nx'=>nx+1<=nx'/\M 0=some (.box x.cells)/\M 1=some (.box o.cells)/\M 2=some (.box [.i 0,.i 0,.i 0,.i 0,.r (.v (.int .u64 0)),.i 0,aP,aP,aP,aP,aP,aP,aP,aP,aP,aP,aP])/\M 3=some (.box [.i 0,.i 0,aP])/\
   M 4=some (.box ({x with lg:=lg}:SvG).cells)/\M 5=some (.vec 132 5 h.length G)/\M nx=some (.box [.r (.v (.int .u8 r.d)),.i r.n,.i r.m,.i r.p,.i r.q,.i r.r])) ?_ ?_
  ·refine aM (t:=(.take 0 (.take 1 (.take 2 (.take 3 (.take 4 (.take 5 (.take 6 (.take 7 (.take 8 (.alt 9 [8,7,6,5,4,3,2,1,0] (.alt 10 [7,5,4,3,2,0] (.alt 11 [7,5,4,3,2,0] (.done []) .nil) .nil) (.alt 10 [8,7,6,5,4,3,2,1,0] (.alt 9 [8,7,6,5,4,3,2,1,0] (.alt 11 [7,5,4,3,2,0] (.done []) .nil) .nil) .nil)))))))))))) aD κ κ κ (λ_ _ _ _ h=>h) ?_;simp[go_sem,hlt,hrow,m0,m1,m2,m3,m4,m5,b0,b0',d0,d0'];refine⟨aA hcm rfl rfl ?_,aA hcm rfl rfl ?_⟩
   ·simp[go_sem,hlt,hrow,m0,m1,m2,m3,m4,m5,b0,b0',d0,d0']
   ·simp[go_sem,hlt,hrow,m0,m1,m2,m3,m4,m5,b0,b0',d0,d0']
  clear m0 m1 m2 m3 m4 m5;intro J M nx1 ⟨hn1,m0,m1,m2,m3,m4,m5,mr⟩;simp[go_sem,m0,m1,m2,m3,m4,m5,mr];refine aA (eT x hx.g.ok k) rfl rfl ?_;have c0:∀a,a<=5->¬a=nx1:=λa h=>ω;have c0':∀a,a<=5->¬nx1=a:=λa h=>ω;have c1:∀a,a<=5->∀i,¬a=nx1+i:=λa h i=>ω;have c1':∀a,a<=5->∀i,¬nx1+i=a:=λa h i=>ω;have c2:¬nx=nx1:=ω;have c2':¬nx1=nx:=ω;have c3:∀i,¬nx=nx1+i:=λi=>ω;have c3':∀i,¬nx1+i=nx:=λi=>ω
  cases hth:x.g.th (k:Int)
  ·rw[hth] at hM;have hM2:R=nZ {x with lg:=lg} o ((x.alK o.x x.ir.length).drop (x.alK o.x (k+1)).length) h:=by simpa using hM
   simp[go_sem,m0,m1,m2,m3,m4,m5,mr];exact⟨⟨ω,ω⟩,k+1,ω,lg,h,⟨rfl,ω⟩,ω,ω,⟨rfl,rfl⟩,⟨G,⟨rfl,rfl⟩,hG⟩,hlg,hl60,ω,hM2⟩
  by_cases hd1:r.d=1;rotate_left
  ·have hd2:r.d=2:=ω;rw[hth,hd2] at hM;have hM2:R=nZ {x with lg:=lg} o ((x.alK o.x x.ir.length).drop (x.alK o.x (k+1)).length) h:=by simpa using hM
   simp[go_sem,m0,m1,m2,m3,m4,m5,mr,hd2];exact⟨⟨ω,ω⟩,k+1,ω,lg,h,⟨rfl,ω⟩,ω,ω,⟨rfl,rfl⟩,⟨G,⟨rfl,rfl⟩,hG⟩,hlg,hl60,ω,hM2⟩
  rw[hth,hd1] at hM;have hM:R=nZ {x with lg:=lg} o ((k:Int)::(x.alK o.x x.ir.length).drop (x.alK o.x (k+1)).length) h:=by simpa using hM
  obtain⟨rest,hrest⟩:∃l,(x.alK o.x x.ir.length).drop (x.alK o.x (k+1)).length=l:=⟨_,rfl⟩;rw[hrest] at hM;simp[go_sem,m0,m1,m2,m3,m4,m5,mr,hd1];refine aM (t:=(.take 0 (.take 1 (.take 2 (.take 3 (.alt 4 [3,2,1,0] (.take 5 (.alt 6 [5,2,1] (.done []) .nil)) .nil)))))) aD κ κ κ (λ_ _ _ _ h=>h) ?_;simp[go_sem,m0,m1,m2,m3,m4,m5,mr,c0,c0',c1,c1',c2,c2',c3,c3'];obtain⟨q,hqq⟩:∃q,qAt o.q k x.now=q:=⟨_,rfl⟩;have hqk:(q.nk:Int)<2 ^ 61:=by rw[<- hqq];exact hq
  have hqO:q.OK:=by unfold Rg.QG.OK;omega
  have hqs:SV.agg [.i o.q.p,.i o.q.r,.i o.q.l,.i k,.i x.now,o.q.ks]=q.sv:=by rw[<- hqq];rfl
  have han:=Rg.answer33 x.r q hx.r hqO;have hap:=Rg.applies32 x.r q hx.r hqO;obtain⟨ae,hae⟩:∃e,x.r.aerr q=e:=⟨_,rfl⟩;rw[hae] at han;rw[<- hqs] at han hap;unfold nZ at hM;simp only [hqq,hae] at hM;refine aA han rfl rfl ?_;have u0:∀a,a<=5->¬a=nx1+1+1:=λa h=>ω;have u0':∀a,a<=5->¬nx1+1+1=a:=λa h=>ω;have u1:¬nx=nx1+1+1:=ω;have u1':¬nx1+1+1=nx:=ω;by_cases he0:ae=0;rotate_left
  ·rw[if_neg he0] at hM;have hM2:R=nZ {x with lg:=lg} o ((x.alK o.x x.ir.length).drop (x.alK o.x (k+1)).length) h:=by rw[hrest];exact hM
   simp[go_sem,m0,m1,m2,m3,m4,m5,mr,c0,c0',c1,c1',c2,c2',c3,c3',he0,b0,b0',d0,d0'];exact⟨⟨ω,ω⟩,k+1,ω,lg,h,⟨rfl,ω⟩,ω,ω,⟨rfl,rfl⟩,⟨G,⟨rfl,rfl⟩,hG⟩,hlg,hl60,ω,hM2⟩
  have hask:=aEu (hae.trans he0);obtain⟨r0,rl,hr0,hr1⟩:=aJz (hae.trans he0);rw[if_pos he0] at hM;rw[hask,hr0] at hap;have hnr:=(Rg.RG.small (SvG.reg_val hv).2.1).1;have hcr:gR ({x with lg:=lg}:SvG) (SvG.eye {x with lg:=lg} k) o.x=r:=by rw[<- hr,<- hc];rfl
  rw[hcr] at hM;obtain⟨r',hr'⟩:∃r':RsG,{r with r:=(r0:Int)}=r':=⟨_,rfl⟩;have hgr:r'.good=true:=by
   rw[<- hr'];simp only [RsG.good,RsG.okd,jE,Ix.btw,Bool.and_eq_true,decide_eq_true_eq];omega
  obtain⟨y,hy⟩:∃y:HtG,HtG.mk k (x.r.aL q) (x.r.aO q) (x.r.aS q) (x.r.aN q)=y:=⟨_,rfl⟩;have hM2:R=if lg.length=60 then (({x with lg:=lg}:SvG),bad 9) else nZ (SvG.put {x with lg:=lg} 2 k r' o.s) o rest (h++[y]):=by
   rw[hM,<- hr',<- hy,hr0];rfl
  have hki:=SvG.th_in hv hth;have hlo:=aBw ({x with lg:=lg}:SvG) hlg 2 k r' o.s δ ω hgr;have hrs:SV.agg [.r (.v (.int .u8 r.d)),.i r.n,.i r.m,.i r.p,.i r.q,.i r0]=r'.sv:=by rw[<- hr']
  simp[go_sem,m0,m1,m2,m3,m4,m5,mr,c0,c0',c1,c1',c2,c2',c3,c3',he0,b0,b0',d0,d0'];refine aA hap rfl rfl ?_;have hz:cQ lI (r0::rl) 0 0=.i (r0:Int):=rfl;simp[go_sem,m0,m1,m2,m3,m4,m5,mr,c0,c0',c1,c1',c2,c2',c3,c3',u0,u0',u1,u1',hz,b0,b0',d0,d0'];rw[hrs];refine⟨⟨ω,ω⟩,?_⟩;refine aA hlo rfl rfl ?_;by_cases h60:lg.length=60
  ·rw[if_pos h60] at hM2;simp[go_sem,m0,m1,m2,m3,m4,m5,mr,c0,c0',c1,c1',c2,c2',c3,c3',u0,u0',u1,u1',hz,b0,b0',d0,d0',h60];refine aA (bO x 9) rfl rfl ?_;simp[go_sem,hM2,bad,m0,m1,m2,m3,m4,m5,mr,c0,c0',c1,c1',c2,c2',c3,c3',u0,u0',u1,u1',hz,b0,b0',d0,d0']
  ·rw[if_neg h60] at hM2;simp[go_sem,m0,m1,m2,m3,m4,m5,mr,c0,c0',c1,c1',c2,c2',c3,c3',u0,u0',u1,u1',hz,b0,b0',d0,d0',h60,SvG.put];have hyr:∀j,j<5->([.i k,.i (x.r.aL q),.b (x.r.aO q),.i (x.r.aS q),.i (x.r.aN q)]:List SV)[0*5+j]?.getD (SV.r .any)=.r (y.f j):=by
    intro j hj;subst hy;rcases(ω:j=0\/j=1\/j=2\/j=3\/j=4) with rfl | rfl | rfl | rfl | rfl <;> rfl
   refine⟨⟨ω,ω⟩,k+1,ω,lg++[wrX lg x.now 2 k r'.pack o.s],h++[y],⟨τ,ω⟩,ω,ω,⟨τ,rfl⟩,⟨_,⟨τ,rfl⟩,kO hG λj hj=>hyr j hj⟩,aG2 hlg h60 δ ω r'.pack o.s,ι,ι,?_⟩;rw[hrest];exact hM2
 have hk':k=x.ir.length:=ω;subst hk';rw[List.drop_length] at hM;have hM:R=(({x with lg:=lg}:SvG),⟨0,h.length,h⟩):=hM;rw[hM];simp[go_sem,m0,m1,m2,m3,m4,m5];intro i j hi hj;rw[hG i j hi hj];rfl
def rlZ:Rg.RuleG:=⟨0,0,0,0,0,0,0,0⟩
def waZ:Rg.WarG:=⟨0,0,0,0⟩
def coZ:Rg.ConG:=⟨0,0,0⟩
def maZ:Rg.MarkG:=⟨0,0,0,0,0⟩
def quZ:Rg.QG:=⟨0,0,0,0,0,0,λ_=>0⟩
def cJ (k:Int):OrG:=⟨k,0,0,0,false,IrG.z,0#64,rlZ,waZ,coZ,maZ,quZ⟩
def pl (o:OrG):OrG:=
 if o.k=1 then {cJ 1 with n:=o.n} else
 if o.k=2 then {cJ 2 with n:=o.n,x:=o.x} else
 if o.k=3 then {cJ 3 with n:=o.n,a:=o.a,b:=o.b,f:=o.f} else
 if o.k=4 then {cJ 4 with a:=o.a,b:=o.b} else
 if o.k=5 then {cJ 5 with a:=o.a} else
 if o.k=6 then {cJ 6 with rl:=o.rl} else
 if o.k=7 then {cJ 7 with w:=o.w} else
 if o.k=8 then {cJ 8 with c:=o.c} else
 if o.k=9 then {cJ 9 with m:=o.m} else
 if o.k=10 then {cJ 10 with a:=o.a,f:=o.f} else
 if o.k=11 then {cJ 11 with n:=o.n} else
 if o.k=12 then {cJ 12 with a:=o.a,x:=o.x,s:=o.s} else
 if o.k=13 then {cJ 13 with x:=o.x,s:=o.s,q:={o.q with w:=0,t:=0}} else
 if o.k=14 then {cJ 14 with n:=o.n,a:=o.a,x:=o.x,s:=o.s} else
 cJ o.k
theorem aSr (o:OrG):Pure Tryz.prog 192 [o.sv] (· =(pl o).sv):=by
 refine Pure.ofSub ?_;refine π Tryz.func192 ?_;simp[go_sem];unfold pl;by_cases k1:o.k=1
 ·simp[go_sem,k1,cJ,rlZ,waZ,coZ,maZ,quZ,IrG.z]
 by_cases k2:o.k=2
 ·simp[go_sem,k2,cJ,rlZ,waZ,coZ,maZ,quZ,IrG.z];refine aM (t:=(.take 0 (.take 1 (.take 2 (.take 3 (.take 4 (.alt 5 [4,3,2,1,0] (.take 6 (.alt 7 [6,3,2] (.done []) .nil)) .nil))))))) aD κ κ κ (λ_ _ _ _ h=>h) ?_;simp[go_sem]
 by_cases k3:o.k=3
 ·simp[go_sem,k3,cJ,rlZ,waZ,coZ,maZ,quZ,IrG.z];refine aM (t:=(.take 0 (.take 1 (.take 2 (.take 3 (.take 4 (.take 5 (.take 6 (.take 7 (.take 8 (.alt 9 [8,7,6,5,4,3,2,1,0] (.take 10 (.alt 11 [10,7,6,5,4,3,2] (.take 12 (.alt 13 [12,7,6,5,4] (.take 14 (.alt 15 [14,7,6] (.done []) .nil)) .nil)) .nil)) .nil))))))))))) aD κ κ κ (λ_ _ _ _ h=>h) ?_;simp[go_sem]
 by_cases k4:o.k=4
 ·simp[go_sem,k4,cJ,rlZ,waZ,coZ,maZ,quZ,IrG.z];refine aM (t:=(.take 0 (.take 1 (.take 2 (.take 3 (.take 4 (.alt 5 [4,3,2,1,0] (.take 6 (.alt 7 [6,3,2] (.done []) .nil)) .nil))))))) aD κ κ κ (λ_ _ _ _ h=>h) ?_;simp[go_sem]
 by_cases k5:o.k=5
 ·simp[go_sem,k5,cJ,rlZ,waZ,coZ,maZ,quZ,IrG.z]
 by_cases k6:o.k=6
 ·simp[go_sem,k6,cJ,rlZ,waZ,coZ,maZ,quZ,IrG.z]
 by_cases k7:o.k=7
 ·simp[go_sem,k7,cJ,rlZ,waZ,coZ,maZ,quZ,IrG.z]
 by_cases k8:o.k=8
 ·simp[go_sem,k8,cJ,rlZ,waZ,coZ,maZ,quZ,IrG.z]
 by_cases k9:o.k=9
 ·simp[go_sem,k9,cJ,rlZ,waZ,coZ,maZ,quZ,IrG.z]
 by_cases k10:o.k=10
 ·simp[go_sem,k10,cJ,rlZ,waZ,coZ,maZ,quZ,IrG.z];refine aM (t:=(.take 0 (.take 1 (.take 2 (.take 3 (.take 4 (.alt 5 [4,3,2,1,0] (.take 6 (.alt 7 [6,3,2] (.done []) .nil)) .nil))))))) aD κ κ κ (λ_ _ _ _ h=>h) ?_;simp[go_sem]
 by_cases k11:o.k=11
 ·simp[go_sem,k11,cJ,rlZ,waZ,coZ,maZ,quZ,IrG.z]
 by_cases k12:o.k=12
 ·simp[go_sem,k12,cJ,rlZ,waZ,coZ,maZ,quZ,IrG.z];refine aM (t:=(.take 0 (.take 1 (.take 2 (.take 3 (.take 4 (.take 5 (.take 6 (.alt 7 [6,5,4,3,2,1,0] (.take 8 (.alt 9 [8,5,4,3,2] (.take 10 (.alt 11 [10,5,4] (.done []) .nil)) .nil)) .nil))))))))) aD κ κ κ (λ_ _ _ _ h=>h) ?_;simp[go_sem]
 by_cases k13:o.k=13
 ·simp[go_sem,k13,cJ,rlZ,waZ,coZ,maZ,quZ,IrG.z];refine aM (t:=(.take 0 (.take 1 (.take 2 (.take 3 (.take 4 (.alt 5 [4,3,2,1,0] (.take 6 (.alt 7 [6,3,2] (.done []) .nil)) .nil))))))) aD κ κ κ (λ_ _ _ _ h=>h) ?_;simp[go_sem]
 by_cases k14:o.k=14
 ·simp[go_sem,k14,cJ,rlZ,waZ,coZ,maZ,quZ,IrG.z];refine aM (t:=(.take 0 (.take 1 (.take 2 (.take 3 (.take 4 (.take 5 (.take 6 (.take 7 (.take 8 (.alt 9 [8,7,6,5,4,3,2,1,0] (.take 10 (.alt 11 [10,7,6,5,4,3,2] (.take 12 (.alt 13 [12,7,6,5,4] (.take 14 (.alt 15 [14,7,6] (.done []) .nil)) .nil)) .nil)) .nil))))))))))) aD κ κ κ (λ_ _ _ _ h=>h) ?_;simp[go_sem]
 simp[go_sem,k1,k2,k3,k4,k5,k6,k7,k8,k9,k10,k11,k12,k13,k14,cJ,rlZ,waZ,coZ,maZ,quZ,IrG.z]
end Go.Gx.Sr
namespace Go.Gx.Rg
open Go.RowKit Go.Proofs Go.Proofs.YtncccnmmjfapnaaGreat
def QG.sk (a b:QG):Bool:=decide (a.nk=b.nk)&&(List.range a.nk).all λi=>decide (a.k i=b.k i)
def QG.same (a b:QG):Bool:=decide (a.p=b.p)&&decide (a.r=b.r)&&decide (a.l=b.l)&&decide (a.w=b.w)&&decide (a.t=b.t)&&a.sk b
theorem sameQuery42 (a b:QG) (ha:(a.nk:Int)<2 ^ 61) (hb:(b.nk:Int)<2 ^ 61):Pure Tryz.prog 100 [a.sv,b.sv] (· =.b (a.same b)):=by
 refine π Tryz.func100 ?_;have hk:=(aI1 a.nk b.nk ha hb (λi _=>.i (a.k i)) (λi _=>.i (b.k i)) a.k b.k (λi _=>rfl) (λi _=>rfl)).val (v':=.b (a.sk b)) rfl;unfold QG.same;by_cases h1:a.p=b.p;rotate_left
 ·simp[go_sem,h1]
 by_cases h2:a.r=b.r;rotate_left
 ·simp[go_sem,h1,h2]
 by_cases h3:a.l=b.l;rotate_left
 ·simp[go_sem,h1,h2,h3]
 by_cases h4:a.w=b.w;rotate_left
 ·simp[go_sem,h1,h2,h3,h4]
 by_cases h5:a.t=b.t;rotate_left
 ·simp[go_sem,h1,h2,h3,h4,h5]
 simp[go_sem,h1,h2,h3,h4,h5];refine aA hk rfl rfl ?_
 cases a.sk b <;> simp[go_sem]
end Go.Gx.Rg
namespace Go.Gx.Sr
open Go.RowKit Go.Proofs Go.Proofs.YtncccnmmjfapnaaGreat Go.Gx.Ix
def soR (a b:OrG):Prop:=a.k=b.k/\a.n=b.n/\a.a=b.a/\a.b=b.b/\a.f=b.f/\a.x=b.x/\a.s=b.s/\a.rl=b.rl/\a.w=b.w/\a.c=b.c/\a.m=b.m/\a.q.same b.q=true
theorem vK (a b:OrG) (ha:(a.q.nk:Int)<2 ^ 61) (hb:(b.q.nk:Int)<2 ^ 61) (c:Bool) (hc:c=true↔soR a b):Pure Tryz.prog 44 [a.sv,b.sv] (· =.b c):=by
 have hno:¬soR a b->c=false:=λh=>by
  cases c
  ·rfl
  ·exact absurd (hc.1 rfl) h
 refine π Tryz.func44 ?_;simp[go_sem];by_cases c0:a.k=b.k;rotate_left
 ·rw[if_neg c0];exact hno λh=>c0 h.1
 rw[if_pos c0];by_cases c1:a.n=b.n;rotate_left
 ·rw[if_neg c1];exact hno λh=>c1 h.2.1
 rw[if_pos c1];by_cases c2:a.a=b.a;rotate_left
 ·rw[if_neg c2];exact hno λh=>c2 h.2.2.1
 rw[if_pos c2];by_cases c3:a.b=b.b;rotate_left
 ·rw[if_neg c3];exact hno λh=>c3 h.2.2.2.1
 rw[if_pos c3];by_cases c4:a.f=b.f;rotate_left
 ·rw[if_neg c4];exact hno λh=>c4 h.2.2.2.2.1
 rw[if_pos c4];by_cases c5:(a.x.c.toNat:Int)=(b.x.c.toNat:Int)/\(a.x.m.toNat:Int)=(b.x.m.toNat:Int);rotate_left
 ·rw[if_neg c5];exact hno λh=>c5 ⟨by have:=h.2.2.2.2.2.1;rw[this],by have:=h.2.2.2.2.2.1;rw[this]⟩
 rw[if_pos c5];by_cases c6:(a.s.toNat:Int)=(b.s.toNat:Int);rotate_left
 ·rw[if_neg c6];exact hno λh=>c6 (by rw[h.2.2.2.2.2.2.1])
 rw[if_pos c6];by_cases c7:a.rl.p=b.rl.p/\a.rl.r=b.rl.r/\a.rl.l=b.rl.l/\a.rl.f=b.rl.f/\a.rl.t=b.rl.t/\a.rl.k=b.rl.k/\a.rl.s=b.rl.s/\a.rl.b=b.rl.b;rotate_left
 ·rw[if_neg c7];exact hno λh=>c7 ⟨by have:=h.2.2.2.2.2.2.2.1;rw[this],by have:=h.2.2.2.2.2.2.2.1;rw[this],by have:=h.2.2.2.2.2.2.2.1;rw[this],by have:=h.2.2.2.2.2.2.2.1;rw[this],by have:=h.2.2.2.2.2.2.2.1;rw[this],by have:=h.2.2.2.2.2.2.2.1;rw[this],by have:=h.2.2.2.2.2.2.2.1;rw[this],by have:=h.2.2.2.2.2.2.2.1;rw[this]⟩
 rw[if_pos c7];by_cases c8:a.w.l=b.w.l/\a.w.p=b.w.p/\a.w.f=b.w.f/\a.w.t=b.w.t;rotate_left
 ·rw[if_neg c8];exact hno λh=>c8 ⟨by have:=h.2.2.2.2.2.2.2.2.1;rw[this],by have:=h.2.2.2.2.2.2.2.2.1;rw[this],by have:=h.2.2.2.2.2.2.2.2.1;rw[this],by have:=h.2.2.2.2.2.2.2.2.1;rw[this]⟩
 rw[if_pos c8];by_cases c9:a.c.p=b.c.p/\a.c.q=b.c.q/\a.c.u=b.c.u;rotate_left
 ·rw[if_neg c9];exact hno λh=>c9 ⟨by have:=h.2.2.2.2.2.2.2.2.2.1;rw[this],by have:=h.2.2.2.2.2.2.2.2.2.1;rw[this],by have:=h.2.2.2.2.2.2.2.2.2.1;rw[this]⟩
 rw[if_pos c9];by_cases c10:a.m.l=b.m.l/\a.m.p=b.m.p/\a.m.s=b.m.s/\a.m.u=b.m.u/\a.m.n=b.m.n;rotate_left
 ·rw[if_neg c10];exact hno λh=>c10 ⟨by have:=h.2.2.2.2.2.2.2.2.2.2.1;rw[this],by have:=h.2.2.2.2.2.2.2.2.2.2.1;rw[this],by have:=h.2.2.2.2.2.2.2.2.2.2.1;rw[this],by have:=h.2.2.2.2.2.2.2.2.2.2.1;rw[this],by have:=h.2.2.2.2.2.2.2.2.2.2.1;rw[this]⟩
 rw[if_pos c10];refine aA (Rg.sameQuery42 a.q b.q ha hb) rfl rfl ?_;have e5:a.x=b.x:=(IrG.iff _ _).2 ⟨Int.ofNat_inj.1 c5.1,Int.ofNat_inj.1 c5.2⟩;have e6:a.s=b.s:=BitVec.eq_of_toNat_eq (Int.ofNat_inj.1 c6);have e7:a.rl=b.rl:=by
  obtain⟨x0,x1,x2,x3,x4,x5,x6,x7⟩:=c7
  cases h1:a.rl;cases h2:b.rl;simp_all
 have e8:a.w=b.w:=by
  obtain⟨x0,x1,x2,x3⟩:=c8
  cases h1:a.w;cases h2:b.w;simp_all
 have e9:a.c=b.c:=by
  obtain⟨x0,x1,x2⟩:=c9
  cases h1:a.c;cases h2:b.c;simp_all
 have e10:a.m=b.m:=by
  obtain⟨x0,x1,x2,x3,x4⟩:=c10
  cases h1:a.m;cases h2:b.m;simp_all
 cases h11:a.q.same b.q
 ·have:=hno λh=>by have:=h.2.2.2.2.2.2.2.2.2.2.2;rw[h11] at this;cases this
  subst this;simp[go_sem]
 have:c=true:=hc.2 ⟨c0,c1,c2,c3,c4,e5,e6,e7,e8,e9,e10,h11⟩;subst this;simp[go_sem]
theorem z64 (w:W64):w.toNat=0↔w=0#64:=by rw[<- BitVec.toNat_inj];rfl
theorem aZq (o:OrG):o.bS=false↔o.s=0#64:=by
 simp[OrG.bS,z64]
theorem aZm (o:OrG):o.bI=false↔o.x=IrG.z:=by
 have:=IrG.iff o.x IrG.z;rw[this];simp[OrG.bI,IrG.z]
theorem aZo (o:OrG):(o.bQ=false/\o.q.w=0/\o.q.t=0)↔o.q.same quZ=true:=by
 have e:o.q.same quZ=(decide (o.q.p=0)&&decide (o.q.r=0)&&decide (o.q.l=0)&&decide (o.q.w=0)&&decide (o.q.t=0)&&(decide (o.q.nk=0)&&(List.range o.q.nk).all λi=>decide (o.q.k i=0))):=rfl;rw[e];unfold OrG.bQ;simp only [Bool.or_eq_false_iff,Bool.not_eq_false',decide_eq_true_eq,decide_eq_false_iff_not,Bool.and_eq_true,List.all_eq_true,List.mem_range];constructor
 ·rintro⟨⟨⟨⟨a,b⟩,c⟩,d⟩,e,f⟩;have:o.q.nk=0:=ω;exact⟨⟨⟨⟨⟨a,b⟩,c⟩,e⟩,f⟩,this,λi hi=>ω⟩
 ·rintro⟨⟨⟨⟨⟨a,b⟩,c⟩,e⟩,f⟩,g,_⟩;exact⟨⟨⟨⟨a,b⟩,c⟩,ω⟩,e,f⟩
theorem bEu (o:OrG):(o.q.w=0/\o.q.t=0)↔o.q.same {o.q with w:=0,t:=0}=true:=by
 simp[Rg.QG.same,Rg.QG.sk]
theorem aZp (o:OrG):o.bR=false↔o.rl=rlZ:=by
 simp[OrG.bR,rlZ]
 cases o.rl;simp
theorem aZr (o:OrG):o.bW=false↔o.w=waZ:=by
 simp[OrG.bW,waZ]
 cases o.w;simp
theorem aZl (o:OrG):o.bC=false↔o.c=coZ:=by
 simp[OrG.bC,coZ]
 cases o.c;simp
theorem aZn (o:OrG):o.bM=false↔o.m=maZ:=by
 simp[OrG.bM,maZ]
 cases o.m;simp
theorem aSk (o:OrG):cN o=true↔(1<=o.k/\o.k<=14)/\soR o (pl o):=by
 have hS:=aZq o;have hI:=aZm o;have hQ:=aZo o;have hR:=aZp o;have hW:=aZr o;have hC:=aZl o;have hM:=aZn o;have h13:=bEu o;by_cases k1:o.k=1
 ·have e1:cN o=cH o 0 o.a o.b o.f o.bS o.bI o.bQ o.bR o.bW o.bC o.bM:=by simp[cN,k1]
  have e2:pl o={cJ 1 with n:=o.n}:=by simp[pl,k1]
  rw[e1,e2];unfold cH soR cJ;rw[decide_eq_true_eq];simp only [hS,hI,hR,hW,hC,hM,k1]
  grind
 by_cases k2:o.k=2
 ·have e1:cN o=cH o 0 o.a o.b o.f o.bS false o.bQ o.bR o.bW o.bC o.bM:=by simp[cN,k2]
  have e2:pl o={cJ 2 with n:=o.n,x:=o.x}:=by simp[pl,k2]
  rw[e1,e2];unfold cH soR cJ;rw[decide_eq_true_eq];simp only [hS,hI,hR,hW,hC,hM,k2]
  grind
 by_cases k3:o.k=3
 ·have e1:cN o=cH o 0 0 0 false o.bS o.bI o.bQ o.bR o.bW o.bC o.bM:=by simp[cN,k3]
  have e2:pl o={cJ 3 with n:=o.n,a:=o.a,b:=o.b,f:=o.f}:=by simp[pl,k3]
  rw[e1,e2];unfold cH soR cJ;rw[decide_eq_true_eq];simp only [hS,hI,hR,hW,hC,hM,k3]
  grind
 by_cases k4:o.k=4
 ·have e1:cN o=cH o o.n 0 0 o.f o.bS o.bI o.bQ o.bR o.bW o.bC o.bM:=by simp[cN,k4]
  have e2:pl o={cJ 4 with a:=o.a,b:=o.b}:=by simp[pl,k4]
  rw[e1,e2];unfold cH soR cJ;rw[decide_eq_true_eq];simp only [hS,hI,hR,hW,hC,hM,k4]
  grind
 by_cases k5:o.k=5
 ·have e1:cN o=cH o o.n 0 o.b o.f o.bS o.bI o.bQ o.bR o.bW o.bC o.bM:=by simp[cN,k5]
  have e2:pl o={cJ 5 with a:=o.a}:=by simp[pl,k5]
  rw[e1,e2];unfold cH soR cJ;rw[decide_eq_true_eq];simp only [hS,hI,hR,hW,hC,hM,k5]
  grind
 by_cases k6:o.k=6
 ·have e1:cN o=cH o o.n o.a o.b o.f o.bS o.bI o.bQ false o.bW o.bC o.bM:=by simp[cN,k6]
  have e2:pl o={cJ 6 with rl:=o.rl}:=by simp[pl,k6]
  rw[e1,e2];unfold cH soR cJ;rw[decide_eq_true_eq];simp only [hS,hI,hR,hW,hC,hM,k6]
  grind
 by_cases k7:o.k=7
 ·have e1:cN o=cH o o.n o.a o.b o.f o.bS o.bI o.bQ o.bR false o.bC o.bM:=by simp[cN,k7]
  have e2:pl o={cJ 7 with w:=o.w}:=by simp[pl,k7]
  rw[e1,e2];unfold cH soR cJ;rw[decide_eq_true_eq];simp only [hS,hI,hR,hW,hC,hM,k7]
  grind
 by_cases k8:o.k=8
 ·have e1:cN o=cH o o.n o.a o.b o.f o.bS o.bI o.bQ o.bR o.bW false o.bM:=by simp[cN,k8]
  have e2:pl o={cJ 8 with c:=o.c}:=by simp[pl,k8]
  rw[e1,e2];unfold cH soR cJ;rw[decide_eq_true_eq];simp only [hS,hI,hR,hW,hC,hM,k8]
  grind
 by_cases k9:o.k=9
 ·have e1:cN o=cH o o.n o.a o.b o.f o.bS o.bI o.bQ o.bR o.bW o.bC false:=by simp[cN,k9]
  have e2:pl o={cJ 9 with m:=o.m}:=by simp[pl,k9]
  rw[e1,e2];unfold cH soR cJ;rw[decide_eq_true_eq];simp only [hS,hI,hR,hW,hC,hM,k9]
  grind
 by_cases k10:o.k=10
 ·have e1:cN o=cH o o.n 0 o.b false o.bS o.bI o.bQ o.bR o.bW o.bC o.bM:=by simp[cN,k10]
  have e2:pl o={cJ 10 with a:=o.a,f:=o.f}:=by simp[pl,k10]
  rw[e1,e2];unfold cH soR cJ;rw[decide_eq_true_eq];simp only [hS,hI,hR,hW,hC,hM,k10]
  grind
 by_cases k11:o.k=11
 ·have e1:cN o=cH o 0 o.a o.b o.f o.bS o.bI o.bQ o.bR o.bW o.bC o.bM:=by simp[cN,k11]
  have e2:pl o={cJ 11 with n:=o.n}:=by simp[pl,k11]
  rw[e1,e2];unfold cH soR cJ;rw[decide_eq_true_eq];simp only [hS,hI,hR,hW,hC,hM,k11]
  grind
 by_cases k12:o.k=12
 ·have e1:cN o=cH o o.n 0 o.b o.f false false o.bQ o.bR o.bW o.bC o.bM:=by simp[cN,k12]
  have e2:pl o={cJ 12 with a:=o.a,x:=o.x,s:=o.s}:=by simp[pl,k12]
  rw[e1,e2];unfold cH soR cJ;rw[decide_eq_true_eq];simp only [hS,hI,hR,hW,hC,hM,k12]
  grind
 by_cases k13:o.k=13
 ·have e1:cN o=cH o o.n o.a o.b o.f false false false o.bR o.bW o.bC o.bM:=by simp[cN,k13]
  have e2:pl o={cJ 13 with x:=o.x,s:=o.s,q:={o.q with w:=0,t:=0}}:=by simp[pl,k13]
  rw[e1,e2];unfold cH soR cJ;rw[decide_eq_true_eq];simp only [hS,hI,hR,hW,hC,hM,k13]
  grind
 by_cases k14:o.k=14
 ·have e1:cN o=cH o 0 0 o.b o.f false false o.bQ o.bR o.bW o.bC o.bM:=by simp[cN,k14]
  have e2:pl o={cJ 14 with n:=o.n,a:=o.a,x:=o.x,s:=o.s}:=by simp[pl,k14]
  rw[e1,e2];unfold cH soR cJ;rw[decide_eq_true_eq];simp only [hS,hI,hR,hW,hC,hM,k14]
  grind
 have:cN o=false:=by simp only [cN,k1,k2,k3,k4,k5,k6,k7,k8,k9,k10,k11,k12,k13,k14,if_false]
 rw[this];constructor
 ·intro h;cases h
 ·intro h;omega
theorem bF7 (o:OrG) (h:(o.q.nk:Int)<2 ^ 61):((pl o).q.nk:Int)<2 ^ 61:=by
 have e:(pl o).q.nk=0\/(pl o).q.nk=o.q.nk:=by
  by_cases k13:o.k=13
  ·exact .inr (by simp[pl,k13])
  ·have:(pl o).q=quZ:=by simp[pl,k13,apply_ite OrG.q,cJ]
   exact .inl (by rw[this];rfl)
 rcases e with e | e
 ·rw[e];omega
 ·rw[e];exact h
theorem aEb (o:OrG) (h:(o.q.nk:Int)<2 ^ 61):Pure Tryz.prog 92 [o.sv] (· =.b (cN o)):=by
 obtain⟨c,hcv⟩:∃c,cN o=c:=⟨_,rfl⟩;rw[hcv];have hc:c=true↔(1<=o.k/\o.k<=14)/\soR o (pl o):=by rw[<- hcv];exact aSk o
 refine π Tryz.func92 ?_;simp[go_sem];refine aE aD κ κ ?_;have hno:¬((1<=o.k/\o.k<=14)/\soR o (pl o))->c=false:=λh=>by
  cases c
  ·rfl
  ·exact absurd (hc.1 rfl) h
 by_cases h1:1<=o.k;rotate_left
 ·have:=hno λh=>h1 h.1.1;subst this;simp[go_sem,h1]
 by_cases h2:o.k<=14;rotate_left
 ·have:=hno λh=>h2 h.1.2;subst this;simp[go_sem,h1,h2]
 have hc':c=true↔soR o (pl o):=by rw[hc];exact⟨λh=>h.2,λh=>⟨⟨h1,h2⟩,h⟩⟩
 have hp:=aSr o;have hs:=vK o (pl o) h (bF7 o h) c hc';clear hc hc' hno hcv;obtain⟨P,hP⟩:∃P,pl o=P:=⟨_,rfl⟩;rw[hP] at hp hs;simp[go_sem,h1,h2];refine⟨_,aB hp rfl rfl,?_⟩;simp[go_sem];refine⟨_,aB hs rfl rfl,?_⟩;simp[go_sem]
abbrev SvG.dS (x:SvG):SV:=.agg (x.cW (.sl 0 2 0 x.ir.length none) (.sl 1 8 0 x.r.nr none) (.sl 2 4 0 x.r.nw none) (.sl 3 3 0 x.ch.length none) (.sl 4 4 0 x.ks.length none))
abbrev SvG.dR (x:SvG):List Reg:=[irv x.ir,rlv x.r,wav x.r,chv x.ch,ksv x.ks]
theorem aXu (x:SvG) (hx:x.OK):Own Tryz.prog 33 [] [x.sv] x.dS x.dR:=by
 refine cM aD Tryz.func33 rfl κ ν rfl rfl ?_;have c1:=hx.g.nr;have c2:=hx.g.nl;have c3:=hx.g.nc;have c4:=hx.g.nv;have d1:=hx.ir;have d2:=hx.rn;have d3:=hx.rc;have d4:=hx.rw';have d5:=hx.rm;have d6:=hx.ch;have d7:=hx.ks;have d8:=hx.lg;simp[go_sem];refine aA (tK x.g ω ω ω λi hi=>by have:=c4 i hi;omega) rfl rfl ?_;simp[go_sem];refine⟨ω,?_⟩;refine aF [] (Rg.twin17f x.r ω ω ω ω) τ rfl trivial ?_;simp[go_sem];refine⟨⟨ω,ω⟩,⟨ω,ω⟩,⟨ω,ω⟩,?_⟩;refine aV (GSt.freeze 4 ξ) ?_;refine aV (GSt.freeze 6 ξ) ?_;refine aV (GSt.freeze 9 ξ) (aT ?_);simp[go_sem];refine⟨[2,3,5,7,8],τ,λN=>⟨?_,?_⟩⟩
 ·simp[go_sem,aJ];intro i j hi hj;rw[if_pos hi];rfl
 ·simp[go_sem,aJ];refine⟨λi j hi hj=>?_,λi j hi hj=>?_,λi j hi hj=>?_⟩
  all_goals
   rw[if_pos hi];rfl
def Fine (x:SvG) (r:SvG × AnG):Prop:=r.2.e=0\/r=(x,bad r.2.e)
theorem Fine.st {x:SvG} {o:OrG} {r:SvG × AnG} (h:Fine x r) (hd:fH x o=r):r=(stX x o,stA x o):=by
 unfold stX stA;rw[hd];by_cases e:r.2.e=0
 ·rw[if_pos e,if_pos e]
 ·rw[if_neg e,if_neg e];exact h.resolve_left e
theorem aFk (x:SvG) (e:Int):Fine x (x,bad e):=.inr rfl
theorem aKj (x y:SvG) (n:Int):Fine x (y,nW n):=.inl rfl
theorem sL (x:SvG) (k a:Int) (r:RsG) (s:W64):Fine x (sJ x k a r s):=by
 unfold sJ;split
 ·exact aFk _ _
 ·exact aKj _ _ _
theorem aH2 (x:SvG) (o:OrG):Fine x (qW x o)/\Fine x (jZ x o)/\Fine x (pL x o)/\Fine x (wdM x o)/\Fine x (aAw x o)/\Fine x (pG x o)/\Fine x (aAa x o)/\Fine x (xJ x o)/\Fine x (putM x o)/\Fine x (aAh x o)/\Fine x (zU x o)/\Fine x (aA1 x o)/\Fine x (yB x o):=by
 unfold qW jZ pL wdM aAw pG aAa xJ putM aAh zU aA1 yB;refine⟨?_,?_,?_,?_,?_,?_,?_,?_,?_,?_,?_,?_,?_⟩
 all_goals
  repeat' split
  all_goals first
   | exact aFk _ _
   | exact aKj _ _ _
   | exact sL _ _ _ _ _
   | (dsimp only;split;exact sL _ _ _ _ _;split;exact sL _ _ _ _ _;exact sL _ _ _ _ _)
theorem bAf {x:SvG} {o:OrG} (h:fH x o=nR x o):aVs x o=(stX x o,stA x o):=by
 unfold aVs stX stA;rw[h];split <;> rfl
theorem aZ6 (x:SvG) (o:OrG) (hx:x.OK) (hv:x.valid=true) (ho:o.Sm) (hk:1<=o.k/\o.k<=14):Own Tryz.prog 99 x.dR [x.dS,o.sv] (rT (stX x o,stA x o)) []:=by
 obtain⟨f1,f2,f3,f4,f5,f6,f7,f8,f9,f10,f11,f12,f14⟩:=aH2 x o;have hth:=eT x hx.g.ok o.a;refine cM aD Tryz.func99 rfl κ ν rfl rfl ?_;have hw:=SvG.now_in hv;simp only [maxT] at hw;rcases(ω:o.k=1\/o.k=2\/o.k=3\/o.k=4\/o.k=5\/o.k=6\/o.k=7\/o.k=8\/o.k=9\/o.k=10\/o.k=11\/o.k=12\/o.k=13\/o.k=14) with hk | hk | hk | hk | hk | hk | hk | hk | hk | hk | hk | hk | hk | hk
 ·rw[<- f1.st (show fH x o=qW x o by simp[fH,hk])];unfold qW;simp[go_sem,hk];refine aA (jT o.n 1 1000) rfl rfl ?_;obtain⟨b,hb⟩:∃b,Ix.btw 1 1000 o.n=b:=⟨_,rfl⟩;rw[hb]
  cases b
  ·simp[go_sem];refine aC 0 ξ ?_;refine aC 1 ξ ?_;refine aC 2 ξ ?_;refine aC 3 ξ ?_;refine aC 4 ξ ?_;simp[go_sem];refine aA (bO x 2) rfl rfl ?_;simp[go_sem];refine aT ?_;simp[go_sem];exact⟨[],τ,λN=>⟨ζ,ζ⟩⟩
  have hb':1<=o.n/\o.n<=1000:=by simpa [Ix.btw] using hb
  by_cases hc:1099511627776 - o.n<x.now
  ·have hc':(1099511627776:Int)<x.now+o.n:=ω;simp[go_sem,hc,hc'];refine⟨⟨ω,ω⟩,?_⟩;refine aC 0 ξ ?_;refine aC 1 ξ ?_;refine aC 2 ξ ?_;refine aC 3 ξ ?_;refine aC 4 ξ ?_;simp[go_sem];refine aA (bO x 9) rfl rfl ?_;simp[go_sem];refine aT ?_;simp[go_sem];exact⟨[],τ,λN=>⟨ζ,ζ⟩⟩
  have hc':¬(1099511627776:Int)<x.now+o.n:=ω;simp[go_sem,hc,hc',nW];refine⟨⟨ω,ω⟩,?_⟩;refine aM (t:=(.take 0 (.take 1 (.take 2 (.take 3 (.alt 4 [3,2,1,0] (.alt 5 [3,2,1] (.done []) .nil) .nil)))))) aD κ κ κ (λ_ _ _ _ h=>h.elim λ_ h=>h.elim λ_ h=>h.elim λ_ h=>h.2) ?_;simp[go_sem];refine aV (GSt.freeze 0 ξ) ?_;refine aV (GSt.freeze 1 ξ) ?_;refine aV (GSt.freeze 2 ξ) ?_;refine aV (GSt.freeze 3 ξ) ?_;refine aV (GSt.freeze 4 ξ) ?_;refine aT ?_;simp[go_sem];exact⟨[],τ,λN=>⟨ζ,ζ⟩⟩
 ·rw[<- f2.st (show fH x o=jZ x o by simp[fH,hk])];have hd:=aHy x o hx hk;unfold OrG.sv OrG.cells at hd;rw[hk] at hd;simp[go_sem,hk];refine aC 1 ξ ?_;refine aC 2 ξ ?_;refine aC 3 ξ ?_;refine aC 4 ξ ?_;simp[go_sem];refine aF [0] hd τ rfl ⟨rfl,trivial⟩ ?_;simp[go_sem];refine aT ?_;simp[go_sem];exact⟨[],τ,λN=>⟨ζ,ζ⟩⟩
 ·rw[<- f3.st (show fH x o=pL x o by simp[fH,hk])];have hd:=aHz x o hx hk;unfold OrG.sv OrG.cells at hd;rw[hk] at hd;simp[go_sem,hk];refine aC 1 ξ ?_;refine aC 2 ξ ?_;refine aC 3 ξ ?_;refine aC 4 ξ ?_;simp[go_sem];refine aF [0] hd τ rfl ⟨rfl,trivial⟩ ?_;simp[go_sem];refine aT ?_;simp[go_sem];exact⟨[],τ,λN=>⟨ζ,ζ⟩⟩
 ·rw[<- f4.st (show fH x o=wdM x o by simp[fH,hk])];have hd:=aH0 x o hx hk;unfold OrG.sv OrG.cells at hd;rw[hk] at hd;simp[go_sem,hk];refine aC 1 ξ ?_;refine aC 2 ξ ?_;refine aC 3 ξ ?_;refine aC 4 ξ ?_;simp[go_sem];refine aF [0] hd τ rfl ⟨rfl,trivial⟩ ?_;simp[go_sem];refine aT ?_;simp[go_sem];exact⟨[],τ,λN=>⟨ζ,ζ⟩⟩
 ·rw[<- f5.st (show fH x o=aAw x o by simp[fH,hk])];unfold aAw;simp[go_sem,hk];refine aG (v:=.b (x.g.th o.a)) (by simp[go_sem];exact hth) rfl ?_;by_cases ht:x.g.th o.a=true;rotate_left
  ·simp[go_sem,ht];refine aC 0 ξ ?_;refine aC 1 ξ ?_;refine aC 2 ξ ?_;refine aC 3 ξ ?_;refine aC 4 ξ ?_;simp[go_sem];refine aA (bO x 6) rfl rfl ?_;simp[go_sem];refine aT ?_;simp[go_sem];exact⟨[],τ,λN=>⟨ζ,ζ⟩⟩
  have hin:=SvG.th_in hv ht;obtain⟨n,hn⟩:∃n:Nat,o.a=n:=⟨o.a.toNat,ω⟩;have hd:=aIy x n hx hv (by rw[<- hn];exact ht);rw[<- hn] at hd;simp[go_sem,ht,nW];refine aC 1 ξ ?_;refine aC 2 ξ ?_;refine aC 3 ξ ?_;simp[go_sem];refine aF [0,4] hd τ rfl ⟨rfl,rfl,trivial⟩ ?_;simp[go_sem];refine aT ?_;simp[go_sem];exact⟨[],τ,λN=>⟨ζ,ζ⟩⟩
 ·rw[<- f6.st (show fH x o=pG x o by simp[fH,hk])];have hd:=aXa x o hx hk;unfold OrG.sv OrG.cells at hd;rw[hk] at hd;simp[go_sem,hk];refine aC 0 ξ ?_;refine aC 2 ξ ?_;refine aC 3 ξ ?_;refine aC 4 ξ ?_;simp[go_sem];refine aF [1] hd τ rfl ⟨rfl,trivial⟩ ?_;simp[go_sem];refine aT ?_;simp[go_sem];exact⟨[],τ,λN=>⟨ζ,ζ⟩⟩
 ·rw[<- f7.st (show fH x o=aAa x o by simp[fH,hk])];have hd:=aXb x o hx hk;unfold OrG.sv OrG.cells at hd;rw[hk] at hd;simp[go_sem,hk];refine aC 0 ξ ?_;refine aC 1 ξ ?_;refine aC 3 ξ ?_;refine aC 4 ξ ?_;simp[go_sem];refine aF [2] hd τ rfl ⟨rfl,trivial⟩ ?_;simp[go_sem];refine aT ?_;simp[go_sem];exact⟨[],τ,λN=>⟨ζ,ζ⟩⟩
 ·rw[<- f8.st (show fH x o=xJ x o by simp[fH,hk])];have hd:=aXc x o hx hk;unfold OrG.sv OrG.cells at hd;rw[hk] at hd;simp[go_sem,hk];refine aC 0 ξ ?_;refine aC 1 ξ ?_;refine aC 2 ξ ?_;refine aC 3 ξ ?_;refine aC 4 ξ ?_;simp[go_sem];refine aA hd rfl rfl ?_;simp[go_sem];refine aT ?_;simp[go_sem];exact⟨[],τ,λN=>⟨ζ,ζ⟩⟩
 ·rw[<- f9.st (show fH x o=putM x o by simp[fH,hk])];have hd:=aXd x o hx hk;unfold OrG.sv OrG.cells at hd;rw[hk] at hd;simp[go_sem,hk];refine aC 0 ξ ?_;refine aC 1 ξ ?_;refine aC 2 ξ ?_;refine aC 3 ξ ?_;refine aC 4 ξ ?_;simp[go_sem];refine aA hd rfl rfl ?_;simp[go_sem];refine aT ?_;simp[go_sem];exact⟨[],τ,λN=>⟨ζ,ζ⟩⟩
 ·rw[<- f10.st (show fH x o=aAh x o by simp[fH,hk])];unfold aAh;have hnc:=hx.ch;simp[go_sem,hk];refine aG (v:=.b (x.g.th o.a)) (by simp[go_sem];exact hth) rfl ?_;by_cases ht:x.g.th o.a=true;rotate_left
  ·simp[go_sem,ht];refine aC 0 ξ ?_;refine aC 1 ξ ?_;refine aC 2 ξ ?_;refine aC 3 ξ ?_;refine aC 4 ξ ?_;simp[go_sem];refine aA (bO x 6) rfl rfl ?_;simp[go_sem];refine aT ?_;simp[go_sem];exact⟨[],τ,λN=>⟨ζ,ζ⟩⟩
  rw[if_pos ht];by_cases h60:x.ch.length=60
  ·have h60':(x.ch.length:Int)=60:=ω;rw[if_pos h60];simp[go_sem,ht,h60'];refine aC 0 ξ ?_;refine aC 1 ξ ?_;refine aC 2 ξ ?_;refine aC 3 ξ ?_;refine aC 4 ξ ?_;simp[go_sem];refine aA (bO x 9) rfl rfl ?_;simp[go_sem];refine aT ?_;simp[go_sem];exact⟨[],τ,λN=>⟨ζ,ζ⟩⟩
  have h60':¬(x.ch.length:Int)=60:=ω;rw[if_neg h60];obtain⟨y,hy⟩:∃y:ChG,ChG.mk x.now o.a o.f=y:=⟨_,rfl⟩;have hrow:∀j,j<3->([.i x.now,.i o.a,.b o.f]:List SV)[0*3+j]?.getD (SV.r .any)=.r (y.f j):=by
   intro j hj;subst hy;rcases(ω:j=0\/j=1\/j=2) with rfl | rfl | rfl <;> rfl
  rw[hy];simp[go_sem,ht,h60',nW];refine⟨⟨ω,ω⟩,?_⟩;refine aV (GSt.freeze 3 ξ) ?_;refine aV (GSt.freeze 0 ξ) ?_;refine aV (GSt.freeze 1 ξ) ?_;refine aV (GSt.freeze 2 ξ) ?_;refine aV (GSt.freeze 4 ξ) ?_;refine aT ?_;simp[go_sem];refine⟨[],τ,λN=>⟨?_,ζ⟩⟩;simp[go_sem];exact fR λj hj=>hrow j hj
 ·rw[<- f11.st (show fH x o=zU x o by simp[fH,hk])];simp[go_sem,hk];refine aC 0 ξ ?_;refine aC 1 ξ ?_;refine aC 2 ξ ?_;refine aC 3 ξ ?_;simp[go_sem];refine aF [4] (aOe x o hx hv) τ rfl ⟨rfl,trivial⟩ ?_;simp[go_sem];refine aT ?_;simp[go_sem];exact⟨[],τ,λN=>⟨ζ,ζ⟩⟩
 ·rw[<- f12.st (show fH x o=aA1 x o by simp[fH,hk])];unfold aA1;simp[go_sem,hk];refine aG (v:=.b (x.g.th o.a)) (by simp[go_sem];exact hth) rfl ?_;by_cases ht:x.g.th o.a=true;rotate_left
  ·simp[go_sem,ht];refine aC 0 ξ ?_;refine aC 1 ξ ?_;refine aC 2 ξ ?_;refine aC 3 ξ ?_;refine aC 4 ξ ?_;simp[go_sem];refine aA (bO x 6) rfl rfl ?_;simp[go_sem];refine aT ?_;simp[go_sem];exact⟨[],τ,λN=>⟨ζ,ζ⟩⟩
  have hin:=SvG.th_in hv ht;simp[go_sem,ht];refine aA (tL o.x.c o.x.m) rfl rfl ?_;have e0:o.x.ok=vI o.x.c o.x.m:=rfl;rw[e0]
  cases hvi:vI o.x.c o.x.m
  ·simp[go_sem];refine aC 0 ξ ?_;refine aC 1 ξ ?_;refine aC 2 ξ ?_;refine aC 3 ξ ?_;refine aC 4 ξ ?_;simp[go_sem];refine aA (bO x 30) rfl rfl ?_;simp[go_sem];refine aT ?_;simp[go_sem];exact⟨[],τ,λN=>⟨ζ,ζ⟩⟩
  obtain⟨b1,b2,b3⟩:=SvG.best_ok hv ht;have hgv:=(SvG.reg_val hv).1;have hbe:=EG.bp_eq (EG.valid_lth hgv) (EG.valid_inl hgv) ht;have hb:=aNu x.g hx.g.ok o.a;rw[b1,if_pos rfl] at hb;rw[hbe] at b2 b3 ⊢;obtain⟨b,hbb⟩:∃b:Nat,x.g.bst (x.g.mem o.a x.g.nr)=b:=⟨_,rfl⟩;rw[hbb] at hb b2 b3 ⊢;have hlt:b<x.ir.length:=ω;have hset:=(SvG.valid_iff.1 hv).1;have hey:x.eye b=x.ir[b]:=SvG.eye_get hlt;have hrow:=aI (f:=IrG.f) hlt;rw[<- hey] at hrow;have hcm:=oI x hset (x.eye b) o.x;have hgood:=jN hset (x.eye b) o.x;obtain⟨c,hc⟩:∃c,x.eye b=c:=⟨_,rfl⟩;rw[hc] at hcm hgood hrow ⊢;obtain⟨r,hr⟩:∃r,gR x c o.x=r:=⟨_,rfl⟩;rw[hr] at hcm hgood ⊢;simp[go_sem];refine aA hb rfl rfl ?_;simp[go_sem];refine aM (t:=(.take 0 (.take 1 (.take 2 (.take 3 (.take 4 (.take 5 (.take 6 (.take 7 (.take 8 (.take 9 (.take 10 (.take 11 (.take 13 (.take 14 (.alt 12 [14,13,11,10,9,8,7,6,5,4,3,2,1,0] (.alt 15 [14,13,10,8,7,6,5,3,2,1,0] (.take 16 (.take 17 (.alt 18 [17,16,13,10,8,7,6,5,3,1] (.alt 19 [] (.done []) .nil) .nil))) .nil) .nil)))))))))))))))) aD κ κ κ (λ_ _ _ _ h=>h.elim λ_ h=>h.elim λ_ h=>h.elim λ_ h=>h.2) ?_;simp[go_sem,hlt,hrow];refine aA hcm rfl rfl ?_;simp[go_sem];refine⟨hlt,?_⟩;refine aC 0 ξ ?_;refine aC 1 ξ ?_;refine aC 2 ξ ?_;refine aC 3 ξ ?_;refine aC 4 ξ ?_;simp[go_sem];refine aA (mK x (SvG.log_ok hv) 1 o.a r o.s δ ω hgood) rfl rfl ?_;simp[go_sem];refine⟨hlt,aT ?_⟩;simp[go_sem];exact⟨[],τ,λN=>⟨ζ,ζ⟩⟩
 ·rw[<- bAf (show fH x o=nR x o by simp[fH,hk])];have hd:=aQu x o hx hv ho.q;unfold OrG.sv OrG.cells at hd;rw[hk] at hd;simp[go_sem,hk];refine aC 0 ξ ?_;refine aC 1 ξ ?_;refine aC 2 ξ ?_;refine aC 3 ξ ?_;refine aC 4 ξ ?_;simp[go_sem];refine aA hd rfl rfl ?_;simp[go_sem];refine aT ?_;simp[go_sem];exact⟨[],τ,λN=>⟨ζ,ζ⟩⟩
 ·rw[<- f14.st (show fH x o=yB x o by simp[fH,hk])];have hd:=aQ0 x o hx hv;unfold OrG.sv OrG.cells at hd;rw[hk] at hd;simp[go_sem,hk];refine aC 0 ξ ?_;refine aC 1 ξ ?_;refine aC 2 ξ ?_;refine aC 3 ξ ?_;refine aC 4 ξ ?_;simp[go_sem];refine aA hd rfl rfl ?_;simp[go_sem];refine aT ?_;simp[go_sem];exact⟨[],τ,λN=>⟨ζ,ζ⟩⟩
def JX {α:Type} (S:α->List (Nat × SV)) (φ:α->Mem->Nat->Prop):GQ:=λe E M nx=>match e with
 | .normal=>∃z,eqS E (S z)/\φ z M nx
 | _=>False
@[go_sem]theorem bC2 {α:Type} (S:α->List (Nat × SV)) (φ:α->Mem->Nat->Prop) {E:Env} {M:Mem} {nx:Nat}:JX S φ .normal E M nx=∃z,eqS E (S z)/\φ z M nx:=(rfl)
theorem wY {P:Program} {T:Tab} {N:cZ} {k:List It} {Q:GQ} {E:Env} {M:Mem} {nx:Nat} {α:Type} (S:α->List (Nat × SV)) (φ:α->Mem->Nat->Prop) {id:Nat} {all:Array Oper} (h:iF P T N id all [] (JX S φ) E M nx) (hk:∀z J M nx,φ z M nx->GK P T N k Q .normal (iP J (S z)) M nx):iF P T N id all k Q E M nx:=by
 refine GW.mono h λe E M nx hq=>?_
 match e,hq with
 | .normal,hq=>
   obtain⟨z,h1,h2⟩:∃z,eqS E (S z)/\φ z M nx:=hq;have:=hk z E M nx h2
   rwa [aDb h1] at this
def B2 (y:SvG) (z:AnG) (p:Nat × Nat) (M:Mem) (nx:Nat):Prop:=p.1≠p.2/\3<p.1/\3<p.2/\p.1<nx/\p.2<nx/\M 2=some (.box [.i 0,.i 0,.i 0,.i 0,.r (.v (.int .u64 0)),.i 0,aP,aP,aP,aP,aP,aP,aP,aP,aP,aP,aP])/\M 3=some (.box [.i 0,.i 0,aP])/\M p.1=some (.box y.cells)/\M p.2=some (.box [.i z.e,.i z.n,hts z.h])
theorem bBw (x:SvG) (o:OrG) (hx:x.OK) (ho:o.Sm):Pure Tryz.prog 42 [x.sv,o.sv] (· =.tup [(if pK x o=0 then stX x o else SvG.zero).sv,(if pK x o=0 then stA x o else AnG.zero).sv,.i (pK x o)]):=by
 refine Pure.ofSub ?_;refine π Tryz.func42 ?_;unfold pK;simp[go_sem];refine aA (aU2 x hx) rfl rfl ?_;by_cases hc:x.chkE=0;rotate_left
 ·simp[go_sem,hc,SvG.zero,AnG.zero,EG.zero,Rg.RG.nil]
 simp[go_sem,hc];refine aA (aEb o ho.q) rfl rfl ?_;by_cases hoE:dX o=0;rotate_left
 ·have hb:cN o=false:=by
   unfold dX at hoE
   cases h:cN o
   ·rfl
   ·rw[h] at hoE;simp at hoE
  have hE:dX o=2:=by unfold dX;rw[hb];rfl
  rw[hb];simp[go_sem,hE,SvG.zero,AnG.zero,EG.zero,Rg.RG.nil]
 have hb:cN o=true:=by
  unfold dX at hoE
  cases h:cN o
  ·rw[h] at hoE;simp at hoE
  ·rfl
 have hk:=aKz hoE;have hs:=aZ6 x o hx (aE4.1 hc) ho hk;have ht:=aXu x hx;obtain⟨y,hy⟩:∃y,stX x o=y:=⟨_,rfl⟩;obtain⟨z,hz⟩:∃z,stA x o=z:=⟨_,rfl⟩;rw[hy,hz] at hs ⊢;rw[hb];simp[go_sem,hoE];refine wY (α:=Nat × Nat) (λp=>[(4,.ptr 2 0 17 0),(5,.ptr 3 0 3 0),(6,.i 0),(8,.ptr p.1 0 17 0),(9,.ptr p.2 0 3 0)]) (B2 y z) ?_ ?_
 ·refine aM (t:=(.take 0 (.take 2 (.alt 1 [2,0] (.alt 3 [2] (.take 4 (.take 5 (.take 6 (.alt 7 [6,5,4] (.alt 8 [6,5,4] (.alt 9 [6,5,4] (.alt 10 [6] (.done []) .nil) .nil) .nil) (.alt 8 [6,5,4] (.alt 7 [6,5,4] (.alt 9 [6,5,4] (.alt 10 [6] (.done []) .nil) .nil) .nil) .nil))))) (.alt 7 [2] (.alt 3 [2] (.take 4 (.take 5 (.take 6 (.alt 8 [6,5,4] (.alt 9 [6,5,4] (.alt 10 [6] (.done []) .nil) .nil) .nil)))) (.alt 8 [2] (.alt 3 [2] (.take 4 (.take 5 (.take 6 (.alt 9 [6,5,4] (.alt 10 [6] (.done []) .nil) .nil)))) .nil) .nil)) (.alt 8 [2] (.alt 3 [2] (.take 4 (.take 5 (.take 6 (.alt 7 [6,5,4] (.alt 9 [6,5,4] (.alt 10 [6] (.done []) .nil) .nil) .nil)))) (.alt 7 [2] (.alt 3 [2] (.take 4 (.take 5 (.take 6 (.alt 9 [6,5,4] (.alt 10 [6] (.done []) .nil) .nil)))) .nil) .nil)) .nil))) (.alt 7 [2,0] (.alt 1 [2,0] (.alt 3 [2] (.take 4 (.take 5 (.take 6 (.alt 8 [6,5,4] (.alt 9 [6,5,4] (.alt 10 [6] (.done []) .nil) .nil) .nil)))) (.alt 8 [2] (.alt 3 [2] (.take 4 (.take 5 (.take 6 (.alt 9 [6,5,4] (.alt 10 [6] (.done []) .nil) .nil)))) .nil) .nil)) (.alt 8 [2,0] (.alt 1 [2,0] (.alt 3 [2] (.take 4 (.take 5 (.take 6 (.alt 9 [6,5,4] (.alt 10 [6] (.done []) .nil) .nil)))) .nil) .nil) .nil)) (.alt 8 [2,0] (.alt 1 [2,0] (.alt 3 [2] (.take 4 (.take 5 (.take 6 (.alt 7 [6,5,4] (.alt 9 [6,5,4] (.alt 10 [6] (.done []) .nil) .nil) .nil)))) (.alt 7 [2] (.alt 3 [2] (.take 4 (.take 5 (.take 6 (.alt 9 [6,5,4] (.alt 10 [6] (.done []) .nil) .nil)))) .nil) .nil)) (.alt 7 [2,0] (.alt 1 [2,0] (.alt 3 [2] (.take 4 (.take 5 (.take 6 (.alt 9 [6,5,4] (.alt 10 [6] (.done []) .nil) .nil)))) .nil) .nil) .nil)) .nil)))))) aD κ κ κ (λ_ _ _ _ h=>h) ?_;simp[go_sem]
  repeat' (first | refine And.intro ?_ ?_ | (refine aF [] ht τ rfl trivial ?_;simp[go_sem]) | (refine aF [4,5,6,7,8] hs τ rfl ⟨rfl,rfl,rfl,rfl,rfl,trivial⟩ ?_;simp[go_sem]) | (refine aF [5,6,7,8,9] hs τ rfl ⟨rfl,rfl,rfl,rfl,rfl,trivial⟩ ?_;simp[go_sem]) | (refine aF [6,7,8,9,10] hs τ rfl ⟨rfl,rfl,rfl,rfl,rfl,trivial⟩ ?_;simp[go_sem]))
  all_goals
   refine⟨_,_,⟨rfl,rfl⟩,δ,δ,δ,δ,δ,?_,?_,?_,?_⟩
   all_goals simp[go_sem]
 rintro⟨p,q⟩ J M nx ⟨h1,h2,h3,h4,h5,m2,m3,m4,m5⟩;dsimp only at *;have p2:¬p=2:=ω;have p3:¬p=3:=ω;have q2:¬q=2:=ω;have q3:¬q=3:=ω;have p2':¬2=p:=ω;have p3':¬3=p:=ω;have q2':¬2=q:=ω;have q3':¬3=q:=ω;simp[go_sem];refine aM (t:=(.take 0 (.take 1 (.alt 2 [1,0] (.alt 3 [1] (.take 4 (.done [4])) .nil) .nil)))) aD κ κ κ (λ_ _ _ _ h=>h) ?_;simp[go_sem,m2,m3,m4,m5,p2,p3,q2,q3,p2',p3',q2',q3']
end Go.Gx.Sr
