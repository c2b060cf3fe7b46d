/-
 Texts of the walk, merged: Se Rg Rh Ri Rj Rk Rl Rm Rv Rw Rx Sa Sc Sd Sf Ip.
-/
import Derived.Test.YtncccnmmjfapnaaGreatZae
import Derived.Test.YtncccnmmjfapnaaGreatZak
set_option linter.unusedVariables false
set_option linter.unusedSimpArgs false
set_option maxRecDepth 100000
set_option maxHeartbeats 4000000
namespace Go.Gx.Rg
open Go.RowKit Go.Proofs Go.Proofs.YtncccnmmjfapnaaGreat
def gE (get one:Nat->Nat->RV) (i:Nat):Nat->Nat->RV:=λr c=>if r<i then get r c else if r=i then one 0 c else get (r - 1) c
theorem aMf (n i:Nat) (hn:n<=1000000) (hi:i<=n) (get one:Nat->Nat->RV) :
 Own Tryz.prog 448 [.vec 59 3 n λr c=>.r (get r c),.vec 59 3 1 λr c=>.r (one r c)] [.sl 0 3 0 n none,.i i,.sl 1 3 0 1 none] (.sl 0 3 0 (n+1) none) [.vec 59 3 (n+1) λr c=>.r (gE get one i r c)]:=by
 refine γ Tryz.func448 ?_;simp[go_sem];refine⟨hi,?_⟩;by_cases hin:i=n
 ·subst hin;rw[if_pos rfl];refine⟨ω,[0],τ,λN=>⟨?_,?_⟩⟩
  ·simp[go_sem]
  ·simp[go_sem];intro r c hr hc;unfold aI gE;by_cases h:r<i
   ·rw[if_pos h,if_pos h];rfl
   ·rw[if_neg h,if_pos hr,if_neg h,if_pos ω,show r - i=0 from ω];rfl
 rw[if_neg ω];refine⟨ω,?_⟩;refine tG aD (ref:=0) (kk:=3) (n:=n) ζ (M:=bU _) rfl rfl (by simp[dH]) ?_;intro C hC _ hC2;simp only [maxLen] at hC2;by_cases hc:C<n+1
 ·have hc':(C:Int)<(n:Int)+1:=ω;left;simp[go_sem,hc',hi];refine⟨ω,ω,⟨ω,ω,ω⟩,ω,?_⟩;refine bD aD κ 8 κ rfl rfl ?_;simp[go_sem,hi];have e1:i+(n+1 - i)=n+1:=ω;refine⟨ω,⟨ω,ω⟩,ω,[2],τ,λN=>⟨?_,?_⟩⟩
  ·simp[go_sem,e1]
  ·simp[go_sem];refine⟨ω,λr c hr hc=>?_⟩;unfold gE aI
   repeat' split
   all_goals first | (exfalso;omega) | rfl | exact congrArg SV.r (congrFun (congrArg get ω) _) | exact congrArg SV.r (congrFun (congrArg one ω) _)
 ·have hc':¬(C:Int)<(n:Int)+1:=ω;have hn1:¬(n:Int)+1<=(n:Int):=ω;right;simp[go_sem,hc',hi,hn1];refine⟨ω,⟨ω,ω⟩,ω,ω,?_⟩;refine iF aD Tryz.func455 κ κ κ (tS:=34) (tR:=4) κ (el:=59) rfl rfl (q:=1) (r:=0) (hq:=rfl) (hr:=rfl) δ ω ω ω ?_;simp[go_sem,hi,hc'];refine bD aD κ 8 κ rfl rfl ?_;simp[go_sem,hi];refine⟨ω,ω,ω,⟨ω,ω⟩,ω,ω,[0],τ,λN=>⟨?_,?_⟩⟩
  ·simp[go_sem]
  ·simp[go_sem];refine⟨ω,λr c hr hc=>?_⟩;unfold gE
   repeat' split
   all_goals first | (exfalso;omega) | rfl | exact congrArg SV.r (congrFun (congrArg get ω) _) | exact congrArg SV.r (congrFun (congrArg one ω) _)
theorem aNn (n i:Nat) (hn:n<=1000000) (hi:i<=n) (get one:Nat->Nat->RV) :
 Own Tryz.prog 449 [.vec 61 5 n λr c=>.r (get r c),.vec 61 5 1 λr c=>.r (one r c)] [.sl 0 5 0 n none,.i i,.sl 1 5 0 1 none] (.sl 0 5 0 (n+1) none) [.vec 61 5 (n+1) λr c=>.r (gE get one i r c)]:=by
 refine γ Tryz.func449 ?_;simp[go_sem];refine⟨hi,?_⟩;by_cases hin:i=n
 ·subst hin;rw[if_pos rfl];refine⟨ω,[0],τ,λN=>⟨?_,?_⟩⟩
  ·simp[go_sem]
  ·simp[go_sem];intro r c hr hc;unfold aI gE;by_cases h:r<i
   ·rw[if_pos h,if_pos h];rfl
   ·rw[if_neg h,if_pos hr,if_neg h,if_pos ω,show r - i=0 from ω];rfl
 rw[if_neg ω];refine⟨ω,?_⟩;refine tG aD (ref:=0) (kk:=5) (n:=n) ζ (M:=bU _) rfl rfl (by simp[dH]) ?_;intro C hC _ hC2;simp only [maxLen] at hC2;by_cases hc:C<n+1
 ·have hc':(C:Int)<(n:Int)+1:=ω;left;simp[go_sem,hc',hi];refine⟨ω,ω,⟨ω,ω,ω⟩,ω,?_⟩;refine bD aD κ 8 κ rfl rfl ?_;simp[go_sem,hi];have e1:i+(n+1 - i)=n+1:=ω;refine⟨ω,⟨ω,ω⟩,ω,[2],τ,λN=>⟨?_,?_⟩⟩
  ·simp[go_sem,e1]
  ·simp[go_sem];refine⟨ω,λr c hr hc=>?_⟩;unfold gE aI
   repeat' split
   all_goals first | (exfalso;omega) | rfl | exact congrArg SV.r (congrFun (congrArg get ω) _) | exact congrArg SV.r (congrFun (congrArg one ω) _)
 ·have hc':¬(C:Int)<(n:Int)+1:=ω;have hn1:¬(n:Int)+1<=(n:Int):=ω;right;simp[go_sem,hc',hi,hn1];refine⟨ω,⟨ω,ω⟩,ω,ω,?_⟩;refine iF aD Tryz.func457 κ κ κ (tS:=36) (tR:=4) κ (el:=61) rfl rfl (q:=1) (r:=0) (hq:=rfl) (hr:=rfl) δ ω ω ω ?_;simp[go_sem,hi,hc'];refine bD aD κ 8 κ rfl rfl ?_;simp[go_sem,hi];refine⟨ω,ω,ω,⟨ω,ω⟩,ω,ω,[0],τ,λN=>⟨?_,?_⟩⟩
  ·simp[go_sem]
  ·simp[go_sem];refine⟨ω,λr c hr hc=>?_⟩;unfold gE
   repeat' split
   all_goals first | (exfalso;omega) | rfl | exact congrArg SV.r (congrFun (congrArg get ω) _) | exact congrArg SV.r (congrFun (congrArg one ω) _)
structure QG where
 (p r l w t:Int) (nk:Nat) (k:Nat->Int)
abbrev QG.ks (q:QG):SV:=.r (.rs 1 q.nk λi _=>.i (q.k i))
abbrev QG.sv (q:QG):SV:=.agg [.i q.p,.i q.r,.i q.l,.i q.w,.i q.t,q.ks]
def QG.OK (q:QG):Prop:=(q.nk:Int)<2 ^ 62
def QG.c1 (q:QG):Bool:=kindB q.p&&kindB q.r&&kindB q.l&&persB q.w&&timeB q.t
def QG.c2 (q:QG):Bool:=(List.range q.nk).all λi=>decide (0<=q.k i)&&decide (q.k i<=7)
def QG.c3 (q:QG):Bool:=(List.range (q.nk - 1)).all λi=>decide (q.k i<q.k (i+1))
def QG.cks (q:QG):Bool:=decide ((q.nk:Int)<=2)&&q.c2&&q.c3
def QG.err (q:QG):Int:=if q.c1 then (if q.cks then 0 else 91) else 2
theorem aLd {x y:Int}:bT x y<0↔x<y:=by unfold bT;repeat' split <;> omega
theorem aQs (n:Nat) (hn:(n:Int)<2 ^ 62) (x:Nat->Int) :
 Pure Tryz.prog 381 [.r (.rs 1 n λi _=>.i (x i)),.fn (.func 213) [] []] (· =.b ((List.range (n - 1)).all λi=>decide (x i<x (i+1)))):=by
 refine π Tryz.func381 ?_;simp[go_sem];refine aH aD (α:=Nat) (λk=>[(0,.r (.rs 1 n λi _=>.i (x i))),(1,.fn (.func 213) [] []),(5,.i ((k:Int)+1))]) (λ_=>[]) 0 (λk=>(k=0\/k+1<=n)/\∀j,j<k->x j<x (j+1)) (λk=>n - k) 0 (λ_=>rfl) τ ζ ζ ?_;intro k J hi;simp[go_sem];split
 ·rename_i hlt;refine bD aD κ 10 κ rfl rfl ?_;simp[go_sem];refine⟨ω,ω,⟨ω,ω⟩,ω,?_⟩;refine aA (lW (x k) (x (k+1))) rfl rfl ?_;simp[go_sem];split
  ·rename_i h0;refine⟨k,ω,?_⟩;have:=aLd (x:=x k) (y:=x (k+1));omega
  ·rename_i h0;refine⟨ω,k+1,⟨ω,λj hj=>?_⟩,ω,τ⟩;by_cases hjk:j=k
   ·subst hjk;exact aLd.1 ω
   ·exact hi.2 j ω
 ·rename_i hlt;intro j hj;exact hi.2 j ω
theorem checkQuery40 (q:QG) (h:q.OK):Pure Tryz.prog 308 [q.sv] (· =.i q.err):=by
 have hk:(q.nk:Int)<2 ^ 62:=h;refine π Tryz.func308 ?_;simp[go_sem];refine aG (v:=.b (kindB q.p&&kindB q.r&&kindB q.l)) ?_ rfl ?_
 ·simp[go_sem];exact aPb rfl rfl rfl
 have fin:∀c:Bool,q.c1=c->q.err=if c then (if q.cks then 0 else 91) else 2:=λc hc=>by rw[QG.err,hc]
 generalize ha:(kindB q.p&&kindB q.r&&kindB q.l)=a
 cases a
 ·simp[go_sem];simp[fin false (by simp[QG.c1,ha])]
 simp[go_sem];refine aG (v:=.b (persB q.w)) ?_ rfl ?_
 ·simp[go_sem];exact sN rfl
 generalize hb:persB q.w=b
 cases b
 ·simp[go_sem];simp[fin false (by simp[QG.c1,ha,hb])]
 simp[go_sem];refine aG (v:=.b (timeB q.t)) ?_ rfl ?_
 ·simp[go_sem];exact aR4 rfl
 generalize hc:timeB q.t=c
 cases c
 ·simp[go_sem];simp[fin false (by simp[QG.c1,ha,hb,hc])]
 have fin:=fin true (by simp[QG.c1,ha,hb,hc]);by_cases h2:(q.nk:Int)<=2;rotate_left
 ·have h2':2<(q.nk:Int):=ω;simp[go_sem,h2'];simp[fin,QG.cks,h2]
 have h2':¬2<(q.nk:Int):=ω;simp[go_sem,h2'];refine aA ((uM 0 7 q.nk ω q.k).val (v':=.b q.c2) rfl) rfl rfl ?_;generalize hd:q.c2=d
 cases d
 ·simp[go_sem];simp[fin,QG.cks,hd]
 simp[go_sem];refine aA ((aQs q.nk hk q.k).val (v':=.b q.c3) rfl) rfl rfl ?_;generalize he:q.c3=e
 cases e
 ·simp[go_sem];simp[fin,QG.cks,he]
 ·simp[go_sem];simp[fin,QG.cks,h2,hd,he]
theorem aXn (n:Nat) (hn:(n:Int)<2 ^ 62) (x:Nat->Int):Pure Tryz.prog 376 [.r (.rs 1 n λi _=>.i (x i))]
 (· =.b (decide ((n:Int)<=2)&&((List.range n).all λi=>decide (0<=x i)&&decide (x i<=7))&&(List.range (n - 1)).all λi=>decide (x i<x (i+1)))):=by
 refine π Tryz.func376 ?_;by_cases h2:(n:Int)<=2;rotate_left
 ·have h2':2<(n:Int):=ω;simp[go_sem,h2',h2]
 have h2':¬2<(n:Int):=ω;simp only [h2,decide_true,Bool.true_and];simp[go_sem,h2'];refine aH aD (α:=Nat) (λk=>[(0,.r (.rs 1 n λi _=>.i (x i))),(3,.i k)]) (λ_=>[]) 0 (λk=>k<=n/\(∀j,j<k->0<=x j/\x j<=7)/\∀j,j+1<k->x j<x (j+1)) (λk=>n - k) 0 (λ_=>rfl) τ ζ ζ ?_;intro k J hi;simp[go_sem];split
 ·rename_i hlt;refine aE aD κ κ ?_;by_cases hb:0<=x k/\x k<=7
  ·have hv:=(iI (x k) 0 7).val (v':=.b true) (by simp[btw,hb]);rcases k with _ | k
   ·simp[go_sem];refine⟨ω,_,aB hv rfl rfl,?_⟩;simp[go_sem];exact⟨1,⟨ω,λj hj=>by rw[lt1 hj];exact hb,λj hj=>ω⟩,ω,rfl⟩
   ·simp[go_sem];refine⟨ω,ω,_,aB hv rfl rfl,?_⟩;simp[go_sem];refine⟨ω,ω,ω,ω,?_⟩;split
    ·rename_i hle;exact λ_=>⟨k,ω,ω⟩
    ·rename_i hle;refine⟨ω,k+2,⟨ω,dO hi.2.1 hb,λj hj=>?_⟩,ω,ω⟩;by_cases hjk:j=k
     ·subst hjk;omega
     ·exact hi.2.2 j ω
  ·have hv:=(iI (x k) 0 7).val (v':=.b false) (by simp[btw];omega);simp[go_sem];refine⟨ω,_,aB hv rfl rfl,?_⟩;simp[go_sem];exact λh=>absurd (h k hlt) hb
 ·rename_i hge;exact⟨λj hj=>hi.2.1 j ω,λj hj=>hi.2.2 j ω⟩
def ask (g:RG) (q:QG):Int:=if g.valid then q.err else 8
def ConG.cov (q:QG) (c:ConG):Bool:=decide (c.p=q.w)&&decide (c.q=q.p)&&decide (q.t<c.u)
def WarG.cov (q:QG) (w:WarG):Bool:=decide (w.l=q.l)&&decide (w.p=q.w)&&btw w.f (w.t - 1) q.t
def WarG.cov' (q:QG) (w:WarG):Bool:=decide (w.l=q.l)&&decide (w.p=q.w)&&decide (w.f<=q.t)&&decide (q.t<w.t)
theorem WarG.cov_eq (q:QG) (w:WarG):w.cov q=w.cov' q:=by
 unfold WarG.cov WarG.cov' btw;rw[show decide (q.t<=w.t - 1)=decide (q.t<w.t) from by congr 1;exact propext ω];simp[Bool.and_assoc]
def RG.hasC (g:RG) (q:QG):Bool:=(List.range g.nc).any λi=>(g.c i).cov q
def RG.hasW (g:RG) (q:QG):Bool:=(List.range g.nw).any λi=>(g.w i).cov q
def QG.at6 (q:QG) (gt:Nat->Nat->RV):Prop:=gt 0 0=.i q.p/\gt 0 1=.i q.r/\gt 0 2=.i q.l/\gt 0 3=.i q.w/\gt 0 4=.i q.t
theorem aRj (q:QG) (c:ConG) (gt:Nat->Nat->RV) (hgt:q.at6 gt):Pure Tryz.prog 383 [c.sv,.r (.rp 6 1 gt 0 0)] (· =.b (c.cov q)):=by
 refine π Tryz.func383 ?_;obtain⟨g0,g1,g2,g3,g4⟩:=hgt;by_cases h1:c.p=q.w
 ·by_cases h2:c.q=q.p
  ·simp[go_sem,g0,g1,g2,g3,g4,h1,h2];simp[ConG.cov,h1,h2]
  ·simp[go_sem,g0,g1,g2,g3,g4,h1,h2];simp[ConG.cov,h1,h2]
 ·simp[go_sem,g0,g1,g2,g3,g4,h1];simp[ConG.cov,h1]
theorem aOz (g:RG) (q:QG) (h:g.OK):Pure Tryz.prog 382 [g.sv,q.sv] (· =.b (g.hasC q)):=by
 refine π Tryz.func382 ?_;simp[go_sem];refine aG (v:=.b (g.hasC q)) ?_ rfl ?_
 ·simp[go_sem];exact aSs g.nc (by have:=h.nc;omega) _ (383:FuncId) _ (λi=>(g.c i).cov q) rfl λi hi=>aRj q (g.c i) _ ⟨rfl,rfl,rfl,rfl,rfl⟩
 ·simp[go_sem]
theorem bBw {lo hi t:Int} {get:Nat->Nat->RV} (h0:get 0 0=.i t):Pure Tryz.prog 105 [.i lo,.i hi,.r (.rs 1 1 get)] (· =.b (btw lo hi t)):=aTc h0
theorem aPt (q:QG) (w:WarG) (gt:Nat->Nat->RV) (hgt:q.at6 gt) (hw:-(2:Int) ^ 62<w.t) (hw':w.t<2 ^ 62):Pure Tryz.prog 385 [w.sv,.r (.rp 6 1 gt 0 0)] (· =.b (w.cov q)):=by
 refine π Tryz.func385 ?_;obtain⟨g0,g1,g2,g3,g4⟩:=hgt;by_cases h1:w.l=q.l
 ·by_cases h2:w.p=q.w
  ·simp[go_sem,g0,g1,g2,g3,g4,h1,h2];refine⟨ω,?_⟩;refine aG (v:=.b (btw w.f (w.t - 1) q.t)) ?_ rfl ?_
   ·simp[go_sem];exact bBw rfl
   ·simp[go_sem];simp[WarG.cov,h1,h2]
  ·simp[go_sem,g0,g1,g2,g3,g4,h1,h2];simp[WarG.cov,h1,h2]
 ·simp[go_sem,g0,g1,g2,g3,g4,h1];simp[WarG.cov,h1]
structure RG.Mid (g:RG):Prop where
 wt:∀i,i<g.nw->-(2:Int) ^ 62<(g.w i).t/\(g.w i).t<2 ^ 62
 rt:∀i,i<g.nr->-(2:Int) ^ 62<(g.r i).t/\(g.r i).t<2 ^ 62/\1<=(g.r i).b/\(g.r i).b<=3
theorem wI {lo hi n:Int}:btw lo hi n=true↔lo<=n/\n<=hi:=by simp[btw]
theorem RG.mid {g:RG} (h:g.valid=true):g.Mid:=by
 simp only [RG.valid,Bool.and_eq_true] at h;obtain⟨⟨⟨⟨⟨h1,_⟩,h3⟩,_⟩,_⟩,_⟩:=h;simp only [RG.c1,RG.c3,Bool.and_eq_true,List.all_eq_true,List.mem_range] at h1 h3;refine⟨λi hi=>?_,λi hi=>?_⟩
 ·have:=h3.2 i hi;simp only [WarG.good,Bool.and_eq_true,timeB,wI] at this;omega
 ·have:=h1.2 i hi;simp only [RuleG.good,Bool.and_eq_true,timeB,wI] at this;omega
theorem aQt (g:RG) (q:QG) (h:g.OK) (hm:g.Mid):Pure Tryz.prog 384 [g.sv,q.sv] (· =.b (g.hasW q)):=by
 refine π Tryz.func384 ?_;simp[go_sem];refine aG (v:=.b (g.hasW q)) ?_ rfl ?_
 ·simp[go_sem];exact aRx g.nw (by have:=h.nw;omega) _ (385:FuncId) _ (λi=>(g.w i).cov q) rfl λi hi=>aPt q (g.w i) _ ⟨rfl,rfl,rfl,rfl,rfl⟩ (hm.wt i hi).1 (hm.wt i hi).2
 ·simp[go_sem]
theorem aOy (g:RG) (q:QG):Pure Tryz.prog 386 [g.sv,q.sv] (· =.b true):=by
 refine π Tryz.func386 ?_;simp[go_sem]
theorem aO3:Pure Tryz.prog 309 [] (· =.agg [.r (.v .nilFunc),.fn (.func 382) [] [],.fn (.func 384) [] [],.fn (.func 386) [] []]):=by
 refine π Tryz.func309 ?_;simp[go_sem]
def lU (g:RG) (q:QG) (b:Int):Bool:=if b=3 then true else if b=1 then g.hasC q else g.hasW q
theorem tK {n:Nat} {p:Nat->Bool} {i:Nat} (hi:i<n) (h:p i=true):(List.range n).any p=true:=by
 rw[List.any_eq_true];exact⟨i,List.mem_range.2 hi,h⟩
theorem yA {n:Nat} {p:Nat->Bool} (h:∀i,i<n->p i=false):(List.range n).any p=false:=by
 rw[List.any_eq_false];exact λi hi=>by simp[h i (List.mem_range.1 hi)]
def ruleB (g:RG) (q:QG) (r:RuleG):Bool:=decide (r.p=q.p)&&decide (r.r=q.r)&&decide (r.l=q.l)&&decide (r.f<=q.t)&&decide (q.t<r.t)&&decide (r.k<=q.nk)&&lU g q r.b
def RG.apl (g:RG) (q:QG) (n:Nat):List Nat:=(List.range n).filter λi=>ruleB g q (g.r i)
theorem RG.apl_yes {g:RG} {q:QG} {n:Nat} (h:ruleB g q (g.r n)=true):g.apl q (n+1)=g.apl q n++[n]:=by simp[RG.apl,List.range_succ,h]
theorem RG.apl_no {g:RG} {q:QG} {n:Nat} (h:ruleB g q (g.r n)=false):g.apl q (n+1)=g.apl q n:=by simp[RG.apl,List.range_succ,h]
theorem RG.apl_len (g:RG) (q:QG) (n:Nat):(g.apl q n).length<=n:=by
 have:=List.length_filter_le (λi=>ruleB g q (g.r i)) (List.range n);simpa [RG.apl] using this
def RG.lev (g:RG) (q:QG):Nat->Int
 | 0=>0
 | n+1=>if ruleB g q (g.r n) then max (g.lev q n) (g.r n).s else g.lev q n
abbrev QG.bx (q:QG):Option Reg:=some (.box [.i q.p,.i q.r,.i q.l,.i q.w,.i q.t,q.ks])
abbrev aPn:Option Reg:=some (.box [.r (.v .nilFunc),.fn (.func 382) [] [],.fn (.func 384) [] [],.fn (.func 386) [] []])
def RG.apq (g:RG) (q:QG):List Nat:=if ask g q=0 then g.apl q g.nr else []
theorem uK {g:RG} {q:QG} (h:ask g q=0):g.valid=true/\q.err=0:=by
 unfold ask at h;split at h
 ·exact⟨by assumption,h⟩
 ·omega
theorem aKy {f t x:Int}:btw f (t - 1) x=(decide (f<=x)&&decide (x<t)):=by
 unfold btw;congr 2;exact propext ω
theorem RG.small {g:RG} (h:g.valid=true):g.nr<=20/\g.nc<=40/\g.nw<=20/\g.nm<=40:=by
 simp only [RG.valid,RG.c1,RG.c2,RG.c3,RG.c4,Bool.and_eq_true,decide_eq_true_eq] at h;omega
theorem nR {l:List Nat} {k i:Nat} {h:Nat->Nat->SV} (hh:h 0 0=.i (k:Int)) (hi:i<l.length+1):aI l.length 1 (λi j=>.r (cG lJ l i j)) h i 0=.r (cG lJ (l++[k]) i 0):=
 nQ (k:=1) rfl ω (λj hj=>by obtain rfl:j=0:=ω
                            exact hh) hi
theorem aBl (g:RG) (q:QG) (h:g.OK) (hq:q.OK):Pure Tryz.prog 211 [g.sv,q.sv] (· =.tup [aXd (g.apq q),.i (ask g q)]):=by
 refine Pure.ofSub ?_;refine π Tryz.func211 ?_;have hr:=h.nr;simp[go_sem];refine aA (check28 g h) rfl rfl ?_;by_cases hv:g.valid=true;rotate_left
 ·have ha:ask g q=8:=by unfold ask;rw[if_neg hv]
  simp[go_sem,hv];simp[RG.apq,ha]
 have ha:ask g q=q.err:=by unfold ask;rw[if_pos hv]
 have hm:=RG.mid hv;have hsm:=(RG.small hv).1;simp[go_sem,hv];refine aA (checkQuery40 q hq) rfl rfl ?_;by_cases he:q.err=0;rotate_left
 ·simp[go_sem,he];simp[RG.apq,ha,he]
 simp[go_sem,he];refine aA aO3 rfl rfl ?_;simp[go_sem];refine bH (GSt.adopt 8 3 1 (λi j=>.r (cG lJ [] i j)) ζ) ?_;refine bF aD (α:=Nat) (λk=>[(2,.ptr 0 0 4 0),(3,.ptr 1 0 6 0),(7,.ptr 2 0 4 0),(8,.sl 3 1 0 (g.apl q k).length none),(23,RuleG.rs g.nr g.r),(24,.i g.nr),(25,.i k)])
  (λk=>g.box++[q.bx,aPn,some (.vec 3 1 (g.apl q k).length λi j=>.r ((cG lJ (g.apl q k)) i j))]) 4 (λk=>k<=g.nr) (λk=>g.nr - k) 0 (λ_=>rfl) τ (by simp[go_sem,show g.apl q 0=[] from rfl]) (by simp[go_sem,show g.apl q 0=[] from rfl]) ?_
 intro k J hi;simp[go_sem];split;rotate_left
 ·rename_i hge;have hk:k=g.nr:=ω;subst hk;simp[RG.apq,ha,he]
 rename_i hlt;refine⟨hlt,?_⟩;have hmk:=hm.rt k hlt;have hal:=RG.apl_len g q k;have no:ruleB g q (g.r k)=false->k+1<=g.nr/\g.nr - (k+1)<g.nr - k/\g.apl q (k+1)=g.apl q k:=λh=>⟨ω,ω,RG.apl_no h⟩;have yes:ruleB g q (g.r k)=true->k+1<=g.nr/\g.nr - (k+1)<g.nr - k/\g.apl q (k+1)=g.apl q k++[k]:=λh=>⟨ω,ω,RG.apl_yes h⟩;by_cases e1:(g.r k).p=q.p;rotate_left
 ·have hn:=no (by simp[ruleB,e1]);simp[go_sem,e1];refine aE aD κ κ ?_;simp[go_sem];exact⟨ω,k+1,hn.1,hn.2.1,by simp[hn.2.2],by simp[hn.2.2]⟩
 by_cases e2:(g.r k).r=q.r;rotate_left
 ·have hn:=no (by simp[ruleB,e1,e2]);simp[go_sem,e1,e2];refine aE aD κ κ ?_;simp[go_sem];exact⟨ω,k+1,hn.1,hn.2.1,by simp[hn.2.2],by simp[hn.2.2]⟩
 by_cases e3:(g.r k).l=q.l;rotate_left
 ·have hn:=no (by simp[ruleB,e1,e2,e3]);simp[go_sem,e1,e2,e3];refine aE aD κ κ ?_;simp[go_sem];exact⟨ω,k+1,hn.1,hn.2.1,by simp[hn.2.2],by simp[hn.2.2]⟩
 simp[go_sem,e1,e2,e3];refine aE aD κ κ ?_;simp[go_sem];refine⟨ω,_,kM (v:=.b (btw (g.r k).f ((g.r k).t - 1) q.t)) (by simp[go_sem];exact bBw rfl) rfl,?_⟩;generalize hb:btw (g.r k).f ((g.r k).t - 1) q.t=b;rw[aKy] at hb
 cases b
 ·have hn:=no (by
   simp only [ruleB];rw[show(decide ((g.r k).p=q.p)&&decide ((g.r k).r=q.r)&&decide ((g.r k).l=q.l)&&decide ((g.r k).f<=q.t)&&decide (q.t<(g.r k).t))=(decide ((g.r k).p=q.p)&&decide ((g.r k).r=q.r)&&decide ((g.r k).l=q.l)&&(decide ((g.r k).f<=q.t)&&decide (q.t<(g.r k).t))) from by simp[Bool.and_assoc],hb];simp)
  simp[go_sem];exact⟨ω,k+1,hn.1,hn.2.1,by simp[hn.2.2],by simp[hn.2.2]⟩
 simp only [Bool.and_eq_true,decide_eq_true_eq] at hb;obtain⟨e4,e5⟩:=hb;by_cases e6:(g.r k).k<=q.nk;rotate_left
 ·have hn:=no (by simp[ruleB,e1,e2,e3,e4,e5,e6]);simp[go_sem,e6];exact⟨ω,k+1,hn.1,hn.2.1,by simp[hn.2.2],by simp[hn.2.2]⟩
 have hrb:ruleB g q (g.r k)=lU g q (g.r k).b:=by simp[ruleB,e1,e2,e3,e4,e5,e6]
 rcases(ω:(g.r k).b=1\/(g.r k).b=2\/(g.r k).b=3) with e7 | e7 | e7
 ·simp[go_sem,e6,e7];refine⟨_,aB (aOz g q h) rfl rfl,?_⟩;generalize hb:g.hasC q=b;have hbs:lU g q (g.r k).b=b:=by simp[lU,e7,hb]
  cases b
  ·have hn:=no (hrb.trans hbs);simp[go_sem];exact⟨ω,k+1,hn.1,hn.2.1,by simp[hn.2.2],by simp[hn.2.2]⟩
  ·have hn:=yes (hrb.trans hbs);simp[go_sem];refine⟨⟨ω,ω⟩,ω,k+1,hn.1,hn.2.1,by simp[hn.2.2],by simp[hn.2.2],λi hi=>?_⟩;rw[hn.2.2] at hi ⊢;rw[nR (k:=k) rfl (by simp at hi;omega)];rfl
 ·simp[go_sem,e6,e7];refine⟨_,aB (aQt g q h hm) rfl rfl,?_⟩;generalize hb:g.hasW q=b;have hbs:lU g q (g.r k).b=b:=by simp[lU,e7,hb]
  cases b
  ·have hn:=no (hrb.trans hbs);simp[go_sem];exact⟨ω,k+1,hn.1,hn.2.1,by simp[hn.2.2],by simp[hn.2.2]⟩
  ·have hn:=yes (hrb.trans hbs);simp[go_sem];refine⟨⟨ω,ω⟩,ω,k+1,hn.1,hn.2.1,by simp[hn.2.2],by simp[hn.2.2],λi hi=>?_⟩;rw[hn.2.2] at hi ⊢;rw[nR (k:=k) rfl (by simp at hi;omega)];rfl
 ·simp[go_sem,e6,e7];refine⟨_,aB (aOy g q) rfl rfl,?_⟩;have hn:=yes (hrb.trans (by simp[lU,e7]));simp[go_sem];refine⟨⟨ω,ω⟩,ω,k+1,hn.1,hn.2.1,by simp[hn.2.2],by simp[hn.2.2],λi hi=>?_⟩;rw[hn.2.2] at hi ⊢;rw[nR (k:=k) rfl (by simp at hi;omega)];rfl
def cA (c:Nat->Int) (n:Nat):Nat:=((List.range n).find? λi=>decide (0<=c i)).getD n
theorem gQ {c:Nat->Int} {n i:Nat} (hi:i<=n) (h1:∀j,j<i->c j<0) (h2:∀j,i<=j->j<n->0<=c j):cA c n=i:=by
 unfold cA;rcases Nat.lt_or_ge i n with h | h
 ·rw[List.find?_range_eq_some.2 ⟨by simpa using h2 i (Nat.le_refl i) h,List.mem_range.2 h,λj hj=>by have:=h1 j hj;simp;omega⟩];rfl
 ·have:i=n:=ω;subst this;rw[List.find?_eq_none.2 λj hj=>by have:=h1 j (List.mem_range.1 hj);simp;omega];rfl
theorem iK {c:Nat->Int} {n:Nat}:cA c n<=n:=by
 unfold cA
 cases h:(List.range n).find? λi=>decide (0<=c i) with
 | none=>exact Nat.le_refl n
 | some i=>have:=List.find?_range_eq_some.1 h;have:=List.mem_range.1 this.2.1;simp;omega
def cM (c:Nat->Int) (n:Nat):Bool:=decide (cA c n<n)&&decide (c (cA c n)=0)
theorem mZ {i j:Nat} (h:i+j<9223372036854775808):IntKind.i64.wrap (Int.fdiv (IntKind.u64.wrap ((i:Int)+(j:Int))) 2)=(((i+j) / 2:Nat):Int):=by
 rw[bX (k:=.u64) (by simp only [inr];omega),Int.fdiv_eq_ediv_of_nonneg _ ω,bX (k:=.i64) (by simp only [inr];omega)];omega
theorem aFe (n:Nat) (hn:(n:Int)<2 ^ 61) (get:Nat->Nat->RV) (t0 t1 t2 t3 t4:Int) (g:FuncId) (c:Nat->Int) (hm:∀a b,a<b->b<n->c b<0->c a<0)
 (hp:∀i,i<n->Pure Tryz.prog g [.agg [.r (get i 0),.r (get i 1),.r (get i 2),.r (get i 3),.r (get i 4)],.agg [.i t0,.i t1,.i t2,.i t3,.i t4]] (· =.i (c i))) :
 Pure Tryz.prog 103 [.r (.rs 5 n get),.agg [.i t0,.i t1,.i t2,.i t3,.i t4],.fn (.func g) [] []] (· =.tup [.i (cA c n:Nat),.b (cM c n)]):=by
 refine π Tryz.func103 ?_;simp[go_sem];refine aH aD (α:=Nat × Nat) (λx=>[(0,.r (.rs 5 n get)),(2,.fn (.func g) [] []),(4,.ptr 0 0 5 0),(8,.i n),(9,.i x.1),(10,.i x.2)]) (λ_=>[some (.box [.i t0,.i t1,.i t2,.i t3,.i t4])]) 1
  (λx=>x.1<=x.2/\x.2<=n/\(∀j,j<x.1->c j<0)/\∀j,x.2<=j->j<n->0<=c j) (λx=>x.2 - x.1) (0,n) (λ_=>rfl) ι ζ ζ ?_
 rintro⟨i,j⟩ J ⟨h1,h2,h3,h4⟩;dsimp only at h1 h2 h3 h4;simp[go_sem];split
 ·rename_i hlt;refine⟨ω,?_⟩;rw[mZ ω];generalize hh:(i+j) / 2=h;have hb:i<=h/\h<j:=ω;refine aE aD κ κ ?_;simp[go_sem];refine⟨ω,_,aB (hp h ω) rfl rfl,?_⟩;simp[go_sem];split
  ·rename_i hc;refine⟨ω,h+1,j,⟨ω,h2,λk hk=>?_,h4⟩,ω,τ⟩;by_cases hkh:k=h
   ·subst hkh;exact hc
   ·exact hm k h ω ω hc
  ·rename_i hc;refine⟨i,h,⟨ω,ω,h3,λk hk hkn=>?_⟩,ω,τ⟩;rcases Int.lt_or_le (c k) 0 with hneg | hpos
   ·exfalso;by_cases hkh:k=h
    ·subst hkh;omega
    ·have:=hm h k ω hkn hneg;omega
   ·exact hpos
 ·rename_i hge;have hij:i=j:=ω;subst hij;have hbd:=gQ h2 h3 h4;refine aE aD κ κ ?_;by_cases hin:i<n
  ·simp[go_sem,hin];refine⟨_,aB (hp i hin) rfl rfl,?_⟩;simp[go_sem];simp[cM,hbd,hin]
  ·simp[go_sem,hin];simp[cM,hbd,hin]
theorem aPu (n:Nat) (hn:(n:Int)<2 ^ 61) (get:Nat->Nat->RV) (t0 t1 t2:Int) (g:FuncId) (c:Nat->Int) (hm:∀a b,a<b->b<n->c b<0->c a<0)
 (hp:∀i,i<n->Pure Tryz.prog g [.agg [.r (get i 0),.r (get i 1),.r (get i 2)],.agg [.i t0,.i t1,.i t2]] (· =.i (c i))) :
 Pure Tryz.prog 447 [.r (.rs 3 n get),.agg [.i t0,.i t1,.i t2],.fn (.func g) [] []] (· =.tup [.i (cA c n:Nat),.b (cM c n)]):=by
 refine π Tryz.func447 ?_;simp[go_sem];refine aH aD (α:=Nat × Nat) (λx=>[(0,.r (.rs 3 n get)),(2,.fn (.func g) [] []),(4,.ptr 0 0 3 0),(8,.i n),(9,.i x.1),(10,.i x.2)]) (λ_=>[some (.box [.i t0,.i t1,.i t2])]) 1
  (λx=>x.1<=x.2/\x.2<=n/\(∀j,j<x.1->c j<0)/\∀j,x.2<=j->j<n->0<=c j) (λx=>x.2 - x.1) (0,n) (λ_=>rfl) ι ζ ζ ?_
 rintro⟨i,j⟩ J ⟨h1,h2,h3,h4⟩;dsimp only at h1 h2 h3 h4;simp[go_sem];split
 ·rename_i hlt;refine⟨ω,?_⟩;rw[mZ ω];generalize hh:(i+j) / 2=h;have hb:i<=h/\h<j:=ω;refine aE aD κ κ ?_;simp[go_sem];refine⟨ω,_,aB (hp h ω) rfl rfl,?_⟩;simp[go_sem];split
  ·rename_i hc;refine⟨ω,h+1,j,⟨ω,h2,λk hk=>?_,h4⟩,ω,τ⟩;by_cases hkh:k=h
   ·subst hkh;exact hc
   ·exact hm k h ω ω hc
  ·rename_i hc;refine⟨i,h,⟨ω,ω,h3,λk hk hkn=>?_⟩,ω,τ⟩;rcases Int.lt_or_le (c k) 0 with hneg | hpos
   ·exfalso;by_cases hkh:k=h
    ·subst hkh;omega
    ·have:=hm h k ω hkn hneg;omega
   ·exact hpos
 ·rename_i hge;have hij:i=j:=ω;subst hij;have hbd:=gQ h2 h3 h4;refine aE aD κ κ ?_;by_cases hin:i<n
  ·simp[go_sem,hin];refine⟨_,aB (hp i hin) rfl rfl,?_⟩;simp[go_sem];simp[cM,hbd,hin]
  ·simp[go_sem,hin];simp[cM,hbd,hin]
theorem aJc (n m:Nat) (hn:(n:Int)<2 ^ 61) (hm:(m:Int)<2 ^ 61) (x y:Nat->Nat->RV) (u v:Nat->Int) (hx:∀i,i<n->x i 0=.i (u i)) (hy:∀i,i<m->y i 0=.i (v i)) :
 Pure Tryz.prog 52 [.r (.rs 1 n x),.r (.rs 1 m y)] (· =.b (decide (n=m)&&(List.range n).all λi=>decide (u i=v i))):=by
 refine π Tryz.func52 ?_;by_cases h:(n:Int)=m;rotate_left
 ·have:¬n=m:=ω;simp[go_sem,h];simp[this]
 have h':n=m:=ω;subst h';simp[go_sem];refine aH aD (α:=Nat) (λk=>[(0,.r (.rs 1 n x)),(1,.r (.rs 1 n y)),(5,.i k)]) (λ_=>[]) 0 (λk=>k<=n/\∀j,j<k->u j=v j) (λk=>n - k) 0 (λ_=>rfl) τ ζ ζ ?_;intro k J hi;simp[go_sem];split
 ·rename_i hlt;refine aE aD κ κ ?_;simp[go_sem,hx k hlt,hy k hlt];refine⟨hlt,?_⟩;split
  ·rename_i he;exact⟨ω,k+1,⟨ω,dO hi.2 he⟩,ω,τ⟩
  ·rename_i he;exact⟨k,hlt,he⟩
 ·rename_i hge;exact λj hj=>hi.2 j ω
def RG.lvl (g:RG) (l:List Nat):Int:=l.foldl (λa i=>max a (g.r i).s) 0
theorem RG.lvl_apl (g:RG) (q:QG):∀n,g.lvl (g.apl q n)=g.lev q n
 | 0=>rfl
 | n+1=>by
   simp only [RG.lev];by_cases h:ruleB g q (g.r n)=true
   ·rw[if_pos h,RG.apl_yes h,RG.lvl,List.foldl_append];show max (g.lvl (g.apl q n)) _=_;rw[RG.lvl_apl g q n]
   ·rw[if_neg h,RG.apl_no (by simpa using h),RG.lvl_apl g q n]
def RG.levq (g:RG) (q:QG):Int:=if ask g q=0 then g.lev q g.nr else 0
theorem RG.lvl_apq (g:RG) (q:QG):g.lvl (g.apq q)=g.levq q:=by
 unfold RG.apq RG.levq;split
 ·exact RG.lvl_apl g q _
 ·rfl
theorem RG.apq_lt {g:RG} {q:QG} {i:Nat} (h:i∈g.apq q):i<g.nr:=by
 unfold RG.apq at h;split at h
 ·simp[RG.apl] at h;exact h.1
 ·simp at h
theorem RG.apq_len (g:RG) (q:QG):(g.apq q).length<=g.nr:=by
 unfold RG.apq;split
 ·exact RG.apl_len g q _
 ·simp
theorem aXi (g:RG) (q:QG) (h:g.OK) (hq:q.OK):Pure Tryz.prog 102 [g.sv,q.sv] (· =.tup [.i (g.levq q),.i (ask g q)]):=by
 refine π Tryz.func102 ?_;have hr:=h.nr;have hlen:=RG.apq_len g q;simp[go_sem];refine aA (aBl g q h hq) rfl rfl ?_;rw[<- RG.lvl_apq];have hlt:=λi=>@RG.apq_lt g q i;generalize hL:g.apq q=L at *;simp[go_sem];refine aH aD (α:=Nat) (λk=>[(2,.ptr 0 0 4 0),(7,.i (ask g q)),(8,.i (g.lvl (L.take k))),(17,aXd L),(18,.i L.length),(19,.i k)]) (λ_=>g.box) 1 (λk=>k<=L.length) (λk=>L.length - k) 0 (λ_=>rfl) τ ξ ζ ?_;intro k J hi;simp[go_sem];split
 ·rename_i hk;have hm:=hlt _ (List.getElem_mem hk);have hg:cG lJ L k 0=.i (L[k]:Nat):=bL (List.getElem?_eq_getElem hk) 0;simp[go_sem,hg];refine⟨hk,hm,ω,k+1,ω,ω,?_,τ⟩;rw[List.take_succ_eq_append_getElem hk,RG.lvl,RG.lvl,List.foldl_append];rfl
 ·rename_i hk;rw[List.take_of_length_le ω]
theorem applies31 (g:RG) (q:QG) (h:g.OK) (hq:q.OK):Pure Tryz.prog 344 [g.sv,q.sv] (· =.tup [aXd (g.apq q),.i (ask g q)]):=by
 refine π Tryz.func344 ?_;simp[go_sem];refine aA (aBl g q h hq) rfl rfl ?_;simp[go_sem]
theorem gV {a b c d:Int}:lex (bT a c) (bT b d)<0↔a<c\/a=c/\b<d:=by unfold lex bT;repeat' split <;> omega
theorem kP {a b c d:Int}:lex (bT a c) (bT b d)=0↔a=c/\b=d:=by unfold lex bT;repeat' split <;> omega
theorem aXq {n:Nat} {R:Nat->Nat->Prop} (tr:∀a b c,R a b->R b c->R a c) (h:∀i,i+1<n->R i (i+1)):∀d i,i+d+1<n->R i (i+d+1)
 | 0,i,hi=>h i hi
 | d+1,i,hi=>tr _ _ _ (aXq tr h d i ω) (h (i+d+1) ω)
theorem aPa {n:Nat} {R:Nat->Nat->Prop} (tr:∀a b c,R a b->R b c->R a c) (h:∀i,i+1<n->R i (i+1)) {i j:Nat} (hij:i<j) (hj:j<n):R i j:=by
 have:=aXq tr h (j - i - 1) i ω
 rwa [show i+(j - i - 1)+1=j from ω] at this
def ConG.ltP (x y:ConG):Prop:=x.p<y.p\/x.p=y.p/\x.q<y.q
def MarkG.ltP (x y:MarkG):Prop:=x.l<y.l\/x.l=y.l/\x.p<y.p
theorem RG.sortM {g:RG} (h:g.c6=true) {i j:Nat} (hij:i<j) (hj:j<g.nm):(g.m i).ltP (g.m j):=by
 simp only [RG.c6,List.all_eq_true,List.mem_range,MarkG.lt,decide_eq_true_eq,gV] at h;refine aPa (n:=g.nm) (R:=λi j=>(g.m i).ltP (g.m j)) (λa b c h1 h2=>?_) (λi hi=>h i ω) hij hj;unfold MarkG.ltP at *;omega
theorem RG.sortC {g:RG} (h:g.c5=true) {i j:Nat} (hij:i<j) (hj:j<g.nc):(g.c i).ltP (g.c j):=by
 simp only [RG.c5,List.all_eq_true,List.mem_range,ConG.lt,decide_eq_true_eq,gV] at h;refine aPa (n:=g.nc) (R:=λi j=>(g.c i).ltP (g.c j)) (λa b c h1 h2=>?_) (λi hi=>h i ω) hij hj;unfold ConG.ltP at *;omega
theorem RG.v5 {g:RG} (h:g.valid=true):g.c5=true:=by simp only [RG.valid,Bool.and_eq_true] at h;exact h.1.2
theorem RG.v6 {g:RG} (h:g.valid=true):g.c6=true:=by simp only [RG.valid,Bool.and_eq_true] at h;exact h.2
def RG.cm (g:RG) (l p:Int) (i:Nat):Int:=lex (bT (g.m i).l l) (bT (g.m i).p p)
theorem RG.cm_mono {g:RG} (h:g.c6=true) (l p:Int):∀a b,a<b->b<g.nm->g.cm l p b<0->g.cm l p a<0:=by
 intro a b hab hb hc;have:=RG.sortM h hab hb;simp only [RG.cm,gV,MarkG.ltP] at *;omega
theorem RG.cm_at {g:RG} (h:g.c6=true) {l p:Int} {i:Nat} (hi:i<g.nm) (h1:(g.m i).l=l) (h2:(g.m i).p=p):cA (g.cm l p) g.nm=i:=by
 refine gQ ω (λj hj=>?_) (λj hj hn=>?_)
 ·have:=RG.sortM h hj hi;simp only [RG.cm,gV,MarkG.ltP] at *;omega
 ·rcases Nat.lt_or_ge i j with hij | hij
  ·have:=RG.sortM h hij hn;rcases Int.lt_or_le (g.cm l p j) 0 with hc | hc
   ·simp only [RG.cm,gV,MarkG.ltP] at *;omega
   ·exact hc
  ·have:j=i:=ω;subst this;have:g.cm l p j=0:=kP.2 ⟨h1,h2⟩;omega
theorem RG.cm_fnd {g:RG} {l p:Int} (h:cM (g.cm l p) g.nm=true):cA (g.cm l p) g.nm<g.nm/\(g.m (cA (g.cm l p) g.nm)).l=l/\(g.m (cA (g.cm l p) g.nm)).p=p:=by
 simp only [cM,Bool.and_eq_true,decide_eq_true_eq] at h;exact⟨h.1,kP.1 h.2⟩
def onB (q:QG) (m:MarkG):Bool:=decide (m.l=q.l)&&decide (m.p=q.w)&&decide (m.s<=q.t)&&decide (q.t<m.u)
def RG.onM (g:RG) (q:QG):Option MarkG:=((List.range g.nm).find? λi=>onB q (g.m i)).map g.m
theorem RG.onM_some {g:RG} {q:QG} (h:g.c6=true) {i:Nat} (hi:i<g.nm) (hb:onB q (g.m i)=true):g.onM q=some (g.m i):=by
 unfold RG.onM;rw[List.find?_range_eq_some.2 ⟨hb,List.mem_range.2 hi,λj hj=>?_⟩]
 ·rfl
 ·have:=RG.sortM h hj hi;simp[onB] at hb ⊢;unfold MarkG.ltP at this;omega
theorem RG.onM_none {g:RG} {q:QG} (h:∀i,i<g.nm->onB q (g.m i)=false):g.onM q=none:=by
 unfold RG.onM;rw[List.find?_eq_none.2 λi hi=>by simp[h i (List.mem_range.1 hi)]];rfl
def RG.aerr (g:RG) (q:QG):Int:=if ask g q≠0 then ask g q else if g.lev q g.nr=0 then 90 else 0
def RG.aL (g:RG) (q:QG):Int:=if g.aerr q=0 then g.lev q g.nr else 0
def RG.aO (g:RG) (q:QG):Bool:=decide (g.aerr q=0)&&(g.onM q).isSome
def RG.aS (g:RG) (q:QG):Int:=if g.aerr q=0/\2<=g.lev q g.nr then (g.onM q).elim 0 (·.s) else 0
def RG.aN (g:RG) (q:QG):Int:=if g.aerr q=0/\g.lev q g.nr=3 then (g.onM q).elim 0 (·.n) else 0
abbrev RG.rep (g:RG) (q:QG):SV:=.agg [.i (g.aL q),.b (g.aO q),.i (g.aS q),.i (g.aN q)]
theorem RG.lev_bd {g:RG} (h:g.valid=true) (q:QG):∀n,n<=g.nr->0<=g.lev q n/\g.lev q n<=3
 | 0,_=>by simp[RG.lev]
 | n+1,hn=>by
   have ih:=RG.lev_bd h q n ω;have hs:1<=(g.r n).s/\(g.r n).s<=3:=by
    simp only [RG.valid,RG.c1,Bool.and_eq_true,List.all_eq_true,List.mem_range] at h;have:=h.1.1.1.1.1.2 n ω;simp only [RuleG.good,Bool.and_eq_true,wI] at this;omega
   simp only [RG.lev];split <;> omega
theorem RG.ans_no {g:RG} {q:QG} (h:g.aerr q≠0):g.rep q=.agg [.i 0,.b false,.i 0,.i 0]:=by simp[RG.rep,RG.aL,RG.aO,RG.aS,RG.aN,h]
theorem RG.ans_base {g:RG} {q:QG} (h:g.aerr q=0) (hm:g.onM q=none):g.rep q=.agg [.i (g.lev q g.nr),.b false,.i 0,.i 0]:=by simp[RG.rep,RG.aL,RG.aO,RG.aS,RG.aN,h,hm]
theorem RG.ans_full {g:RG} {q:QG} {m:MarkG} (h:g.aerr q=0) (hm:g.onM q=some m):g.rep q=.agg [.i (g.lev q g.nr),.b true,.i (if 2<=g.lev q g.nr then m.s else 0),.i (if g.lev q g.nr=3 then m.n else 0)]:=by
 simp[RG.rep,RG.aL,RG.aO,RG.aS,RG.aN,h,hm]
theorem answer26 (g:RG) (q:QG) (h:g.OK) (hq:q.OK):Pure Tryz.prog 49 [g.sv,q.sv] (· =.tup [g.rep q,.i (g.aerr q)]):=by
 refine π Tryz.func49 ?_;simp[go_sem];refine aA (aXi g q h hq) rfl rfl ?_;by_cases ha:ask g q=0;rotate_left
 ·have he:g.aerr q=ask g q:=by simp[RG.aerr,ha]
  have hr:g.rep q=_:=RG.ans_no (by rw[he];exact ha);have hl:g.levq q=0:=by simp[RG.levq,ha]
  simp[go_sem,ha,hl];rw[<- he];simp[RG.rep] at hr;simp[hr]
 have hl:g.levq q=g.lev q g.nr:=by simp[RG.levq,ha]
 have hv:=(uK ha).1;have hbd:=RG.lev_bd hv q g.nr ω;rw[hl];by_cases h0:g.lev q g.nr=0
 ·have he:g.aerr q=90:=by simp[RG.aerr,ha,h0]
  have hr:g.rep q=_:=RG.ans_no (by rw[he];decide);simp[go_sem,ha,h0];simp[RG.rep] at hr;simp[he,hr]
 have he:g.aerr q=0:=by simp[RG.aerr,ha,h0]
 have h6:=RG.v6 hv;have hsm:=(RG.small hv).2.2.2;have hgood:∀i,i<g.nm->-(2:Int) ^ 62<(g.m i).u/\(g.m i).u<2 ^ 62:=by
  intro i hi;simp only [RG.valid,RG.c4,Bool.and_eq_true,List.all_eq_true,List.mem_range] at hv;have:=hv.1.1.2.2 i hi;simp only [MarkG.good,Bool.and_eq_true,timeB,wI] at this;omega
 simp[go_sem,ha,h0];refine aA (aFe g.nm ω _ q.l q.w 0 0 0 (104:FuncId) (g.cm q.l q.w) (RG.cm_mono h6 _ _) (λi hi=>aJl (g.m i) ⟨q.l,q.w,0,0,0⟩)) rfl rfl ?_;generalize hf:cM (g.cm q.l q.w) g.nm=f;generalize hp:cA (g.cm q.l q.w) g.nm=p;have base:g.onM q=none->g.rep q=_:=RG.ans_base he
 cases f
 ·have hn:g.onM q=none:=RG.onM_none λi hi=>by
   cases hb:onB q (g.m i) with
   | false=>rfl
   | true=>
     exfalso;simp[onB] at hb;have:=RG.cm_at h6 hi hb.1.1.1 hb.1.1.2;have h2:g.cm q.l q.w i=0:=kP.2 ⟨hb.1.1.1,hb.1.1.2⟩;simp[cM,this,hi,h2] at hf
  have hr:=base hn;simp[RG.rep] at hr;simp[go_sem];refine aE aD κ κ ?_;simp[go_sem];simp[he,hr]
 obtain⟨f1,f2,f3⟩:=RG.cm_fnd hf;rw[hp] at f1 f2 f3;have hg:=hgood p f1;simp[go_sem];refine aE aD κ κ ?_;simp[go_sem];refine⟨f1,ω,_,kM (v:=.b (btw (g.m p).s ((g.m p).u - 1) q.t)) (by simp[go_sem];exact bBw rfl) rfl,?_⟩;generalize hb:btw (g.m p).s ((g.m p).u - 1) q.t=b;rw[aKy] at hb
 cases b
 ·have hn:g.onM q=none:=RG.onM_none λi hi=>by
   cases hb':onB q (g.m i) with
   | false=>rfl
   | true=>
     exfalso;simp[onB] at hb';have:=RG.cm_at h6 hi hb'.1.1.1 hb'.1.1.2;rw[hp] at this;subst this;simp at hb;omega
  have hr:=base hn;simp[RG.rep] at hr;simp[go_sem];simp[he,hr]
 have hs:g.onM q=some (g.m p):=RG.onM_some h6 f1 (by simp at hb;simp[onB,f2,f3,hb]);have hr:=RG.ans_full he hs;simp[RG.rep] at hr;simp[go_sem,f1];rcases(ω:g.lev q g.nr=1\/g.lev q g.nr=2\/g.lev q g.nr=3) with hl | hl | hl
 ·simp[go_sem,hl,f1];simp[he,hr,hl]
 ·simp[go_sem,hl,f1];simp[he,hr,hl]
 ·simp[go_sem,hl,f1];simp[he,hr,hl]
theorem pX (p:Nat->Bool) (n:Nat):(idx p n=-1/\∀j,j<n->p j=false)\/∃i,i<n/\p i=true/\(∀j,j<i->p j=false)/\idx p n=i:=by
 unfold idx
 cases h:(List.range n).find? p with
 | none=>
   have:=List.find?_eq_none.1 h;exact .inl ⟨rfl,λj hj=>by simpa using this j (List.mem_range.2 hj)⟩
 | some i=>
   obtain⟨h1,h2,h3⟩:=List.find?_range_eq_some.1 h;exact .inr ⟨i,List.mem_range.1 h2,h1,λj hj=>by simpa using h3 j hj,rfl⟩
def kept (p:Nat->Bool) (n:Nat):List Nat:=(List.range n).filter λi=>!p i
theorem bB (p:Nat->Bool) (n:Nat):kept p (n+1)=kept p n++if p n then [] else [n]:=by
 unfold kept;rw[List.range_succ,List.filter_append]
 cases h:p n <;> simp[h]
theorem eZ (p:Nat->Bool) (n:Nat):(kept p n).length<=n:=by
 unfold kept;exact Nat.le_trans (List.length_filter_le _ _) τ
theorem cL {p:Nat->Bool} {n:Nat} (h:∀j,j<n->p j=false):kept p n=List.range n:=by
 unfold kept;exact List.filter_eq_self.2 λa ha=>by simp[h a (List.mem_range.1 ha)]
def cZ (get:Nat->Nat->RV) (p:Nat->Bool) (j:Nat):Nat->Nat->RV:=λi c=>if i<(kept p j).length then cG get (kept p j) i c else get i c
theorem kJ {get:Nat->Nat->RV} {p:Nat->Bool} {j i c:Nat} (h:(kept p j).length<=i):cZ get p j i c=get i c:=if_neg ω
theorem gS {get:Nat->Nat->RV} {p:Nat->Bool} {j i c:Nat} (h:p j=false):cZ get p (j+1) i c=if i=(kept p j).length then get j c else cZ get p j i c:=by
 have hs:kept p (j+1)=kept p j++[j]:=by rw[bB,h];simp
 unfold cZ cG;rw[hs];by_cases h1:i=(kept p j).length
 ·subst h1;simp
 ·rw[if_neg h1];by_cases h2:i<(kept p j).length
  ·rw[if_pos h2,if_pos ι,List.getElem?_append_left h2]
  ·rw[if_neg h2,if_neg ι]
theorem bAg (n:Nat) (hn:n<=1000000) (get:Nat->Nat->RV) (g:FuncId) (c:RV) (p:Nat->Bool) (ho:∀i j,i<n->j<3->(SV.r (get i j)).one=true) (hp:∀i,i<n->Pure Tryz.prog g [.agg [.r (get i 0),.r (get i 1),.r (get i 2)],.r c] (· =.b (p i))) :
 Own Tryz.prog 124 [.vec 59 3 n λi j=>.r (get i j)] [.sl 0 3 0 n none,.fn (.func g) [] [.r c]] (.sl 0 3 0 (kept p n).length none) [.vec 59 3 (kept p n).length λi j=>.r ((cG get (kept p n)) i j)]:=by
 refine γ Tryz.func124 ?_;simp[go_sem];refine aG (v:=.i (idx p n)) ?_ rfl ?_
 ·simp[go_sem];exact aTq n ω get g [.r c] p rfl hp
 rcases pX p n with ⟨h1,h2⟩ | ⟨i0,h1,h2,h3,h4⟩
 ·rw[h1];simp[go_sem];refine⟨[0],τ,λN=>⟨?_,?_⟩⟩
  ·simp[go_sem,cL h2]
  ·simp[go_sem,cL h2];intro i j hi hj;exact(bL (by simp[hi]) j).symm
 rw[h4];simp[go_sem];have hk0:kept p i0=List.range i0:=cL h3;have hk1:kept p (i0+1)=List.range i0:=by rw[bB,hk0,h2];simp
 refine⟨ω,?_⟩;refine bF aD (α:=Nat) (λj=>[(0,.sl 0 3 0 n none),(1,.fn (.func g) [] [.r c]),(5,.i (kept p j).length),(6,.i j)]) (λj=>[some (.vec 59 3 n λi' j'=>.r ((cZ get p j) i' j'))]) 1 (λj=>j<=n/\(kept p j).length<j) (λj=>n - j) (i0+1) (λ_=>rfl) ⟨ω,by rw[hk1];simp⟩ (by simp[go_sem,hk1]) (by
  simp[go_sem];intro i j hi hj;unfold cZ;rw[hk1];split
  ·rename_i h;exact(bL (by simp at h;simp[h]) j).symm
  ·rfl) ?_
 intro j J hi;have hkn:=eZ p j;have hq:∀c,cZ get p j j c=get j c:=λc=>kJ hkn;simp[go_sem,hq];split
 ·rename_i hlt;refine⟨ω,⟨by simpa [SV.one] using ho j 0 hlt δ,by simpa [SV.one] using ho j 1 hlt δ,by simpa [SV.one] using ho j 2 hlt δ⟩,?_⟩;refine aA (hp j hlt) rfl rfl ?_;simp[go_sem]
  cases hpj:p j
  ·simp[go_sem];have hs:kept p (j+1)=kept p j++[j]:=by rw[bB,hpj];simp
   refine⟨ω,⟨⟨by simpa [SV.one] using ho j 0 hlt δ,by simpa [SV.one] using ho j 1 hlt δ,by simpa [SV.one] using ho j 2 hlt δ⟩,ω⟩,ω,ω,j+1,⟨ω,by rw[hs];simp;omega⟩,ω,⟨by rw[hs];simp,ω⟩,λi c hi hc=>?_⟩;rw[gS hpj];by_cases hil:i=(kept p j).length
   ·rw[if_pos ⟨hil,hc⟩,if_pos hil];have hcc:c=0\/c=1\/c=2:=ω;rcases hcc with rfl | rfl | rfl <;> simp[aEf,SV.trim]
   ·rw[if_neg (λh=>hil h.1),if_neg hil];all_goals rfl
  ·simp[go_sem];have hs:kept p (j+1)=kept p j:=by rw[bB,hpj];simp
   refine⟨ω,j+1,⟨ω,by rw[hs];omega⟩,ω,⟨by rw[hs],ω⟩,λi c hi hc=>?_⟩;unfold cZ;rw[hs]
 ·rename_i hlt;have hjn:j=n:=ω;subst hjn;refine⟨ω,ω,ω,[0],τ,λN=>⟨?_,?_⟩⟩
  ·simp[go_sem]
  ·simp[go_sem];refine⟨ω,λi c hi hc=>?_⟩;rw[if_neg ω];exact congrArg SV.r (if_pos hi)
theorem bBa (n:Nat) (hn:n<=1000000) (get:Nat->Nat->RV) (g:FuncId) (c:RV) (p:Nat->Bool) (ho:∀i j,i<n->j<4->(SV.r (get i j)).one=true) (hp:∀i,i<n->Pure Tryz.prog g [.agg [.r (get i 0),.r (get i 1),.r (get i 2),.r (get i 3)],.r c] (· =.b (p i))) :
 Own Tryz.prog 126 [.vec 57 4 n λi j=>.r (get i j)] [.sl 0 4 0 n none,.fn (.func g) [] [.r c]] (.sl 0 4 0 (kept p n).length none) [.vec 57 4 (kept p n).length λi j=>.r ((cG get (kept p n)) i j)]:=by
 refine γ Tryz.func126 ?_;simp[go_sem];refine aG (v:=.i (idx p n)) ?_ rfl ?_
 ·simp[go_sem];exact aRw n ω get g [.r c] p rfl hp
 rcases pX p n with ⟨h1,h2⟩ | ⟨i0,h1,h2,h3,h4⟩
 ·rw[h1];simp[go_sem];refine⟨[0],τ,λN=>⟨?_,?_⟩⟩
  ·simp[go_sem,cL h2]
  ·simp[go_sem,cL h2];intro i j hi hj;exact(bL (by simp[hi]) j).symm
 rw[h4];simp[go_sem];have hk0:kept p i0=List.range i0:=cL h3;have hk1:kept p (i0+1)=List.range i0:=by rw[bB,hk0,h2];simp
 refine⟨ω,?_⟩;refine bF aD (α:=Nat) (λj=>[(0,.sl 0 4 0 n none),(1,.fn (.func g) [] [.r c]),(5,.i (kept p j).length),(6,.i j)]) (λj=>[some (.vec 57 4 n λi' j'=>.r ((cZ get p j) i' j'))]) 1 (λj=>j<=n/\(kept p j).length<j) (λj=>n - j) (i0+1) (λ_=>rfl) ⟨ω,by rw[hk1];simp⟩ (by simp[go_sem,hk1]) (by
  simp[go_sem];intro i j hi hj;unfold cZ;rw[hk1];split
  ·rename_i h;exact(bL (by simp at h;simp[h]) j).symm
  ·rfl) ?_
 intro j J hi;have hkn:=eZ p j;have hq:∀c,cZ get p j j c=get j c:=λc=>kJ hkn;simp[go_sem,hq];split
 ·rename_i hlt;refine⟨ω,⟨by simpa [SV.one] using ho j 0 hlt δ,by simpa [SV.one] using ho j 1 hlt δ,by simpa [SV.one] using ho j 2 hlt δ,by simpa [SV.one] using ho j 3 hlt δ⟩,?_⟩;refine aA (hp j hlt) rfl rfl ?_;simp[go_sem]
  cases hpj:p j
  ·simp[go_sem];have hs:kept p (j+1)=kept p j++[j]:=by rw[bB,hpj];simp
   refine⟨ω,⟨⟨by simpa [SV.one] using ho j 0 hlt δ,by simpa [SV.one] using ho j 1 hlt δ,by simpa [SV.one] using ho j 2 hlt δ,by simpa [SV.one] using ho j 3 hlt δ⟩,ω⟩,ω,ω,j+1,⟨ω,by rw[hs];simp;omega⟩,ω,⟨by rw[hs];simp,ω⟩,λi c hi hc=>?_⟩;rw[gS hpj];by_cases hil:i=(kept p j).length
   ·rw[if_pos ⟨hil,hc⟩,if_pos hil];have hcc:c=0\/c=1\/c=2\/c=3:=ω;rcases hcc with rfl | rfl | rfl | rfl <;> simp[aEf,SV.trim]
   ·rw[if_neg (λh=>hil h.1),if_neg hil];all_goals rfl
  ·simp[go_sem];have hs:kept p (j+1)=kept p j:=by rw[bB,hpj];simp
   refine⟨ω,j+1,⟨ω,by rw[hs];omega⟩,ω,⟨by rw[hs],ω⟩,λi c hi hc=>?_⟩;unfold cZ;rw[hs]
 ·rename_i hlt;have hjn:j=n:=ω;subst hjn;refine⟨ω,ω,ω,[0],τ,λN=>⟨?_,?_⟩⟩
  ·simp[go_sem]
  ·simp[go_sem];refine⟨ω,λi c hi hc=>?_⟩;rw[if_neg ω];exact congrArg SV.r (if_pos hi)
theorem bBz (n:Nat) (hn:n<=1000000) (get:Nat->Nat->RV) (g:FuncId) (c:RV) (p:Nat->Bool) (ho:∀i j,i<n->j<5->(SV.r (get i j)).one=true) (hp:∀i,i<n->Pure Tryz.prog g [.agg [.r (get i 0),.r (get i 1),.r (get i 2),.r (get i 3),.r (get i 4)],.r c] (· =.b (p i))) :
 Own Tryz.prog 128 [.vec 61 5 n λi j=>.r (get i j)] [.sl 0 5 0 n none,.fn (.func g) [] [.r c]] (.sl 0 5 0 (kept p n).length none) [.vec 61 5 (kept p n).length λi j=>.r ((cG get (kept p n)) i j)]:=by
 refine γ Tryz.func128 ?_;simp[go_sem];refine aG (v:=.i (idx p n)) ?_ rfl ?_
 ·simp[go_sem];exact aTo n ω get g [.r c] p rfl hp
 rcases pX p n with ⟨h1,h2⟩ | ⟨i0,h1,h2,h3,h4⟩
 ·rw[h1];simp[go_sem];refine⟨[0],τ,λN=>⟨?_,?_⟩⟩
  ·simp[go_sem,cL h2]
  ·simp[go_sem,cL h2];intro i j hi hj;exact(bL (by simp[hi]) j).symm
 rw[h4];simp[go_sem];have hk0:kept p i0=List.range i0:=cL h3;have hk1:kept p (i0+1)=List.range i0:=by rw[bB,hk0,h2];simp
 refine⟨ω,?_⟩;refine bF aD (α:=Nat) (λj=>[(0,.sl 0 5 0 n none),(1,.fn (.func g) [] [.r c]),(5,.i (kept p j).length),(6,.i j)]) (λj=>[some (.vec 61 5 n λi' j'=>.r ((cZ get p j) i' j'))]) 1 (λj=>j<=n/\(kept p j).length<j) (λj=>n - j) (i0+1) (λ_=>rfl) ⟨ω,by rw[hk1];simp⟩ (by simp[go_sem,hk1]) (by
  simp[go_sem];intro i j hi hj;unfold cZ;rw[hk1];split
  ·rename_i h;exact(bL (by simp at h;simp[h]) j).symm
  ·rfl) ?_
 intro j J hi;have hkn:=eZ p j;have hq:∀c,cZ get p j j c=get j c:=λc=>kJ hkn;simp[go_sem,hq];split
 ·rename_i hlt;refine⟨ω,⟨by simpa [SV.one] using ho j 0 hlt δ,by simpa [SV.one] using ho j 1 hlt δ,by simpa [SV.one] using ho j 2 hlt δ,by simpa [SV.one] using ho j 3 hlt δ,by simpa [SV.one] using ho j 4 hlt δ⟩,?_⟩;refine aA (hp j hlt) rfl rfl ?_;simp[go_sem]
  cases hpj:p j
  ·simp[go_sem];have hs:kept p (j+1)=kept p j++[j]:=by rw[bB,hpj];simp
   refine⟨ω,⟨⟨by simpa [SV.one] using ho j 0 hlt δ,by simpa [SV.one] using ho j 1 hlt δ,by simpa [SV.one] using ho j 2 hlt δ,by simpa [SV.one] using ho j 3 hlt δ,by simpa [SV.one] using ho j 4 hlt δ⟩,ω⟩,ω,ω,j+1,⟨ω,by rw[hs];simp;omega⟩,ω,⟨by rw[hs];simp,ω⟩,λi c hi hc=>?_⟩;rw[gS hpj];by_cases hil:i=(kept p j).length
   ·rw[if_pos ⟨hil,hc⟩,if_pos hil];have hcc:c=0\/c=1\/c=2\/c=3\/c=4:=ω;rcases hcc with rfl | rfl | rfl | rfl | rfl <;> simp[aEf,SV.trim]
   ·rw[if_neg (λh=>hil h.1),if_neg hil];all_goals rfl
  ·simp[go_sem];have hs:kept p (j+1)=kept p j:=by rw[bB,hpj];simp
   refine⟨ω,j+1,⟨ω,by rw[hs];omega⟩,ω,⟨by rw[hs],ω⟩,λi c hi hc=>?_⟩;unfold cZ;rw[hs]
 ·rename_i hlt;have hjn:j=n:=ω;subst hjn;refine⟨ω,ω,ω,[0],τ,λN=>⟨?_,?_⟩⟩
  ·simp[go_sem]
  ·simp[go_sem];refine⟨ω,λi c hi hc=>?_⟩;rw[if_neg ω];exact congrArg SV.r (if_pos hi)
def tF (n:Int):RV:=.rp 1 1 (nB [.i n]) 0 0
theorem bI5 (x:ConG) (t:Int):Pure Tryz.prog 125 [x.sv,.r (tF t)] (· =.b (decide (x.p=t))):=by
 refine π Tryz.func125 ?_;simp[go_sem,tF,nB]
theorem bIw (x:WarG) (t:Int):Pure Tryz.prog 127 [x.sv,.r (tF t)] (· =.b (decide (x.p=t))):=by
 refine π Tryz.func127 ?_;simp[go_sem,tF,nB]
theorem bJy (x:MarkG) (t:Int):Pure Tryz.prog 129 [x.sv,.r (tF t)] (· =.b (decide (x.p=t))):=by
 refine π Tryz.func129 ?_;simp[go_sem,tF,nB]
def RG.sel (g:RG) (a b c d:List Nat):RG:=⟨a.length,λi=>g.r (a.getD i 0),b.length,λi=>g.c (b.getD i 0),c.length,λi=>g.w (c.getD i 0),d.length,λi=>g.m (d.getD i 0)⟩
def RG.nil:RG:=⟨0,λ_=>⟨0,0,0,0,0,0,0,0⟩,0,λ_=>⟨0,0,0⟩,0,λ_=>⟨0,0,0,0⟩,0,λ_=>⟨0,0,0,0,0⟩⟩
def RG.forget (g:RG) (t:Int):RG:={g.sel [] (kept (λi=>decide ((g.c i).p=t)) g.nc) (kept (λi=>decide ((g.w i).p=t)) g.nw) (kept (λi=>decide ((g.m i).p=t)) g.nm) with nr:=g.nr,r:=g.r}
def RG.foE (g:RG) (t:Int):Int:=if g.valid then (if persB t then 0 else 2) else 8
theorem RG.lim {g:RG} (h:g.valid=true):g.nr<=20/\g.nc<=40/\g.nw<=20/\g.nm<=40:=by
 simp only [RG.valid,RG.c1,RG.c2,RG.c3,RG.c4,Bool.and_eq_true,decide_eq_true_eq] at h;omega
theorem aDt {α:Type} {f:α->Nat->RV} {x:Nat->α} {l:List Nat} {i j:Nat} (hi:i<l.length):cG (λi j=>f (x i) j) l i j=f (x (l.getD i 0)) j:=by
 rw[bL (List.getElem?_eq_getElem hi),List.getD_eq_getElem?_getD,List.getElem?_eq_getElem hi];rfl
theorem bFp {n:Nat} (x:Nat->ConG):∀i j,i<n->j<3->(SV.r ((x i).c j)).one=true:=λi j _ hj=>by
 have:j=0\/j=1\/j=2:=ω;rcases this with rfl | rfl | rfl <;> rfl
theorem bGa {n:Nat} (x:Nat->WarG):∀i j,i<n->j<4->(SV.r ((x i).c j)).one=true:=λi j _ hj=>by
 have:j=0\/j=1\/j=2\/j=3:=ω;rcases this with rfl | rfl | rfl | rfl <;> rfl
theorem bGy {n:Nat} (x:Nat->MarkG):∀i j,i<n->j<5->(SV.r ((x i).c j)).one=true:=λi j _ hj=>by
 have:j=0\/j=1\/j=2\/j=3\/j=4:=ω;rcases this with rfl | rfl | rfl | rfl | rfl <;> rfl
theorem forget20 (g:RG) (t:Int) (h:g.OK):Pure Tryz.prog 54 [g.sv,.i t] (· =.tup [(if g.foE t=0 then g.forget t else RG.nil).sv,.i (g.foE t)]):=by
 refine Pure.ofSub ?_;refine π Tryz.func54 ?_;simp[go_sem];refine aA (check28 g h) rfl rfl ?_;by_cases hv:g.valid=true;rotate_left
 ·have ha:g.foE t=8:=by unfold RG.foE;rw[if_neg hv]
  simp[go_sem,hv,ha,RG.nil]
 have hl:=RG.lim hv;simp[go_sem,hv];refine aG (v:=.b (persB t)) (by simp[go_sem];exact sN rfl) rfl ?_;by_cases ht:persB t=true;rotate_left
 ·have ha:g.foE t=2:=by unfold RG.foE;rw[if_pos hv,if_neg ht]
  simp[go_sem,ht,ha,RG.nil]
 have ha:g.foE t=0:=by unfold RG.foE;rw[if_pos hv,if_pos ht]
 simp[go_sem,ht,ha];refine aF [] (xZ g ω ω ω ω) τ rfl trivial ?_;simp[go_sem];refine aC 1 (R:=.box [.i t]) rfl ?_;simp[go_sem];refine aF [5] (bAg g.nc ω (λi j=>(g.c i).c j) (125:FuncId) (tF t) (λi=>decide ((g.c i).p=t)) (bFp g.c) (λi _=>bI5 (g.c i) t)) τ rfl ⟨rfl,trivial⟩ ?_;simp[go_sem];refine aF [6] (bBa g.nw ω (λi j=>(g.w i).c j) (127:FuncId) (tF t) (λi=>decide ((g.w i).p=t)) (bGa g.w) (λi _=>bIw (g.w i) t)) τ rfl ⟨rfl,trivial⟩ ?_;simp[go_sem];refine aF [7] (bBz g.nm ω (λi j=>(g.m i).c j) (129:FuncId) (tF t) (λi=>decide ((g.m i).p=t)) (bGy g.m) (λi _=>bJy (g.m i) t)) τ rfl ⟨rfl,trivial⟩ ?_;simp[go_sem];exact⟨⟨rfl,λi j hi _=>rfl⟩,⟨rfl,λi j hi _=>aDt (f:=ConG.c) hi⟩,⟨rfl,λi j hi _=>aDt (f:=WarG.c) hi⟩,rfl,λi j hi _=>aDt (f:=MarkG.c) hi⟩
def RuleG.eqB (x y:RuleG):Bool:=decide (x.p=y.p)&&decide (x.r=y.r)&&decide (x.l=y.l)&&decide (x.f=y.f)&&decide (x.t=y.t)&&decide (x.k=y.k)&&decide (x.s=y.s)&&decide (x.b=y.b)
def ConG.eqB (x y:ConG):Bool:=decide (x.p=y.p)&&decide (x.q=y.q)&&decide (x.u=y.u)
def WarG.eqB (x y:WarG):Bool:=decide (x.l=y.l)&&decide (x.p=y.p)&&decide (x.f=y.f)&&decide (x.t=y.t)
def MarkG.eqB (x y:MarkG):Bool:=decide (x.l=y.l)&&decide (x.p=y.p)&&decide (x.s=y.s)&&decide (x.u=y.u)&&decide (x.n=y.n)
def RG.s1 (g h:RG):Bool:=decide (g.nr=h.nr)&&(List.range g.nr).all λi=>(g.r i).eqB (h.r i)
def RG.s2 (g h:RG):Bool:=decide (g.nc=h.nc)&&(List.range g.nc).all λi=>(g.c i).eqB (h.c i)
def RG.s3 (g h:RG):Bool:=decide (g.nw=h.nw)&&(List.range g.nw).all λi=>(g.w i).eqB (h.w i)
def RG.s4 (g h:RG):Bool:=decide (g.nm=h.nm)&&(List.range g.nm).all λi=>(g.m i).eqB (h.m i)
def RG.same (g h:RG):Bool:=g.s1 h&&g.s2 h&&g.s3 h&&g.s4 h
def RG.InR (g:RG) (a:RuleG):Prop:=∃i,i<g.nr/\g.r i=a
def RG.InC (g:RG) (a:ConG):Prop:=∃i,i<g.nc/\g.c i=a
def RG.InW (g:RG) (a:WarG):Prop:=∃i,i<g.nw/\g.w i=a
def RG.InM (g:RG) (a:MarkG):Prop:=∃i,i<g.nm/\g.m i=a
theorem RG.goodR {g:RG} (h:g.valid=true) {a:RuleG} (ha:g.InR a):a.good=true:=by
 obtain⟨i,hi,rfl⟩:=ha;simp only [RG.valid,RG.c1,Bool.and_eq_true,List.all_eq_true,List.mem_range] at h;exact h.1.1.1.1.1.2 i hi
theorem RG.goodC {g:RG} (h:g.valid=true) {a:ConG} (ha:g.InC a):a.good=true:=by
 obtain⟨i,hi,rfl⟩:=ha;simp only [RG.valid,RG.c2,Bool.and_eq_true,List.all_eq_true,List.mem_range] at h;exact h.1.1.1.1.2.2 i hi
theorem RG.goodW {g:RG} (h:g.valid=true) {a:WarG} (ha:g.InW a):a.good=true:=by
 obtain⟨i,hi,rfl⟩:=ha;simp only [RG.valid,RG.c3,Bool.and_eq_true,List.all_eq_true,List.mem_range] at h;exact h.1.1.1.2.2 i hi
theorem RG.goodM {g:RG} (h:g.valid=true) {a:MarkG} (ha:g.InM a):a.good=true:=by
 obtain⟨i,hi,rfl⟩:=ha;simp only [RG.valid,RG.c4,Bool.and_eq_true,List.all_eq_true,List.mem_range] at h;exact h.1.1.2.2 i hi
theorem RG.valid_of {g:RG} (h1:g.nr<=20) (h2:g.nc<=40) (h3:g.nw<=20) (h4:g.nm<=40) (hr:∀a,g.InR a->a.good=true) (hc:∀a,g.InC a->a.good=true) (hw:∀a,g.InW a->a.good=true) (hm:∀a,g.InM a->a.good=true)
 (sc:∀i,i+1<g.nc->(g.c i).ltP (g.c (i+1))) (sm:∀i,i+1<g.nm->(g.m i).ltP (g.m (i+1))):g.valid=true:=by
 simp only [RG.valid,RG.c1,RG.c2,RG.c3,RG.c4,RG.c5,RG.c6,Bool.and_eq_true,decide_eq_true_eq,List.all_eq_true,List.mem_range,ConG.lt,MarkG.lt,gV];exact⟨⟨⟨⟨⟨⟨ω,λi hi=>hr _ ⟨i,hi,rfl⟩⟩,ω,λi hi=>hc _ ⟨i,hi,rfl⟩⟩,ω,λi hi=>hw _ ⟨i,hi,rfl⟩⟩,ω,λi hi=>hm _ ⟨i,hi,rfl⟩⟩,λi hi=>sc i ω⟩,λi hi=>sm i ω⟩
theorem iG {p:Nat->Bool} {n i:Nat}:i∈kept p n↔i<n/\p i=false:=by simp[kept]
structure Inc (l:List Nat) (n:Nat):Prop where
 lt:∀i j,i<j->j<l.length->l.getD i 0<l.getD j 0
 mem:∀i,i<l.length->l.getD i 0<n
 len:l.length<=n
theorem xP (p:Nat->Bool) (n:Nat):Inc (kept p n) n:=by
 refine⟨λi j hij hj=>?_,λi hi=>?_,eZ p n⟩
 ·have hp:(kept p n).Pairwise (·<·):=List.Pairwise.filter _ List.pairwise_lt_range;have:=List.pairwise_iff_getElem.1 hp i j ω hj hij;simpa [List.getD_eq_getElem?_getD,List.getElem?_eq_getElem hj,List.getElem?_eq_getElem (show i<(kept p n).length by omega)] using this
 ·have h1:(kept p n)[i]∈kept p n:=List.getElem_mem hi;have:=(iG.1 h1).1;simpa [List.getD_eq_getElem?_getD,List.getElem?_eq_getElem hi] using this
theorem bBu {α:Type} {x:Nat->α} {l:List Nat} {a:α}:(∃i,i<l.length/\x (l.getD i 0)=a)↔∃j,j∈l/\x j=a:=by
 constructor
 ·rintro⟨i,h1,h2⟩;refine⟨l[i],List.getElem_mem h1,?_⟩;rw[<- h2,List.getD_eq_getElem?_getD,List.getElem?_eq_getElem h1];rfl
 ·rintro⟨j,h1,h2⟩;obtain⟨i,hi,rfl⟩:=List.getElem_of_mem h1;refine⟨i,hi,?_⟩;rw[<- h2,List.getD_eq_getElem?_getD,List.getElem?_eq_getElem hi];rfl
theorem aD7 {α:Type} {x:Nat->α} {f:α->Bool} {n:Nat} {a:α}:(∃i,i<(kept (λi=>f (x i)) n).length/\x ((kept (λi=>f (x i)) n).getD i 0)=a)↔(∃i,i<n/\x i=a)/\f a=false:=by
 rw[bBu];constructor
 ·rintro⟨j,h1,rfl⟩;exact⟨⟨j,(iG.1 h1).1,rfl⟩,(iG.1 h1).2⟩
 ·rintro⟨⟨j,h1,rfl⟩,h2⟩;exact⟨j,iG.2 ⟨h1,h2⟩,rfl⟩
theorem RG.sel_valid {g y:RG} (h:g.valid=true) (hr:y.nr<=g.nr) (hR:∀a,y.InR a->g.InR a) {b c d:List Nat} (hb:Inc b g.nc) (hc:Inc c g.nw) (hd:Inc d g.nm)
 (e1:y.nc=b.length) (e2:∀i,y.c i=g.c (b.getD i 0)) (e3:y.nw=c.length) (e4:∀i,y.w i=g.w (c.getD i 0)) (e5:y.nm=d.length) (e6:∀i,y.m i=g.m (d.getD i 0)):y.valid=true:=by
 have hl:=RG.lim h;have:=hb.len;have:=hc.len;have:=hd.len;refine RG.valid_of ω ω ω ω (λa ha=>RG.goodR h (hR a ha)) (λa ha=>?_) (λa ha=>?_) (λa ha=>?_) (λi hi=>?_) (λi hi=>?_)
 ·obtain⟨i,h1,rfl⟩:=ha;rw[e2];exact RG.goodC h ⟨_,hb.mem i ω,rfl⟩
 ·obtain⟨i,h1,rfl⟩:=ha;rw[e4];exact RG.goodW h ⟨_,hc.mem i ω,rfl⟩
 ·obtain⟨i,h1,rfl⟩:=ha;rw[e6];exact RG.goodM h ⟨_,hd.mem i ω,rfl⟩
 ·rw[e2,e2];exact RG.sortC (RG.v5 h) (hb.lt i (i+1) ω ω) (hb.mem _ ω)
 ·rw[e6,e6];exact RG.sortM (RG.v6 h) (hd.lt i (i+1) ω ω) (hd.mem _ ω)
end Go.Gx.Rg
namespace Go.Gx.Rg
open Go.RowKit Go.Proofs Go.Proofs.YtncccnmmjfapnaaGreat
section
variable {g:RG} {t:Int}
theorem RG.forget_R {a:RuleG}:(g.forget t).InR a↔g.InR a:=Iff.rfl
theorem RG.forget_C {a:ConG}:(g.forget t).InC a↔g.InC a/\a.p≠t:=by
 have:=aD7 (x:=g.c) (f:=λa=>decide (a.p=t)) (n:=g.nc) (a:=a);simpa [RG.InC,RG.forget,RG.sel] using this
theorem RG.forget_W {a:WarG}:(g.forget t).InW a↔g.InW a/\a.p≠t:=by
 have:=aD7 (x:=g.w) (f:=λa=>decide (a.p=t)) (n:=g.nw) (a:=a);simpa [RG.InW,RG.forget,RG.sel] using this
theorem RG.forget_M {a:MarkG}:(g.forget t).InM a↔g.InM a/\a.p≠t:=by
 have:=aD7 (x:=g.m) (f:=λa=>decide (a.p=t)) (n:=g.nm) (a:=a);simpa [RG.InM,RG.forget,RG.sel] using this
theorem RG.forget_valid (h:g.valid=true):(g.forget t).valid=true:=
 RG.sel_valid h (Nat.le_refl _) (λa ha=>ha) (xP _ _) (xP _ _) (xP _ _) rfl (λ_=>rfl) rfl (λ_=>rfl) rfl (λ_=>rfl)
end
end Go.Gx.Rg
namespace Go.Gx.Rg
open Go.RowKit Go.Proofs Go.Proofs.YtncccnmmjfapnaaGreat
def RG.cmC (g:RG) (p q:Int) (i:Nat):Int:=lex (bT (g.c i).p p) (bT (g.c i).q q)
theorem RG.cmC_mono {g:RG} (h:g.c5=true) (l p:Int):∀a b,a<b->b<g.nc->g.cmC l p b<0->g.cmC l p a<0:=by
 intro a b hab hb hc;have:=RG.sortC h hab hb;simp only [RG.cmC,gV,ConG.ltP] at *;omega
theorem bJu (a b c:RV) (k:Nat):[SV.r a,SV.r b,SV.r c][k]?.getD (SV.r .any)=SV.r ([a,b,c][k]?.getD .any):=by
 rcases k with _ | _ | _ | k <;> rfl
theorem bI0 (a b c d e:RV) (k:Nat):[SV.r a,SV.r b,SV.r c,SV.r d,SV.r e][k]?.getD (SV.r .any)=SV.r ([a,b,c,d,e][k]?.getD .any):=by
 rcases k with _ | _ | _ | _ | _ | k <;> rfl
def qW (f:Bool) (n:Nat):Nat:=if f then n else n+1
def jQ {α:Type} (f:Bool) (i:Nat) (y:Nat->α) (x:α):Nat->α:=λr=>if r<i then y r else if r=i then x else y (if f then r else r - 1)
theorem aNq (n:Nat) (hn:n<=1000000) (y:Nat->ConG) (x:ConG) (most:Int) (cm:Nat->Int) (hc:cm=λi=>lex (bT (y i).p x.p) (bT (y i).q x.q)) (hm:∀a b,a<b->b<n->cm b<0->cm a<0) :
 Own Tryz.prog 418 [.vec 59 3 n λi j=>.r ((y i).c j)] [.sl 0 3 0 n none,x.sv,.i most,.fn (.func 235) [] []] (.tup [.sl 0 3 0 (qW (cM cm n) n) none,.b (cM cm n||decide ((n:Int)<most))])
  [.vec 59 3 (qW (cM cm n) n) λi j=>.r ((jQ (cM cm n) (cA cm n) y x i).c j)]:=by
 refine γ Tryz.func418 ?_;simp[go_sem];refine aG (v:=.tup [.i (cA cm n:Nat),.b (cM cm n)]) (by
  simp[go_sem];exact aPu n ω _ x.p x.q x.u (235:FuncId) cm hm (λi hi=>by rw[hc];exact aQ0 (y i).p (y i).q (y i).u x.p x.q x.u)) rfl ?_
 have hle:cA cm n<=n:=iK;by_cases hf:cM cm n=true
 ·have hb:cA cm n<n:=by simp[cM] at hf;exact hf.1
  generalize cA cm n=i at *;generalize cM cm n=f at *;subst hf;simp[go_sem];refine⟨hb,[0],τ,λN=>⟨by simp[go_sem,qW],?_⟩⟩;simp[go_sem,qW];intro r c hr hc;by_cases hri:r=i
  ·subst hri;rw[if_pos ⟨rfl,hc⟩];have hcc:c=0\/c=1\/c=2:=ω;simp only [jQ,if_neg (Nat.lt_irrefl _),if_pos];rcases hcc with rfl | rfl | rfl <;> rfl
  ·rw[if_neg (λh=>hri h.1)];simp only [jQ,if_neg hri,if_true];split <;> rfl
 ·have hf:cM cm n=false:=by simpa using hf
  generalize cA cm n=i at *;generalize cM cm n=f at *;subst hf;simp[go_sem];simp only [bJu];refine aF [0,2] (aMf n i hn hle _ _) τ rfl ⟨rfl,rfl,trivial⟩ ?_;simp[go_sem];refine⟨[3],τ,λN=>⟨by simp[go_sem,qW],?_⟩⟩;simp[go_sem,qW];intro r c hr hc;unfold gE;by_cases hri:r=i
  ·subst hri;have hcc:c=0\/c=1\/c=2:=ω;simp only [jQ,if_neg (Nat.lt_irrefl _),if_pos];rcases hcc with rfl | rfl | rfl <;> rfl
  ·simp only [jQ,if_neg hri];split <;> rfl
theorem aNo (n:Nat) (hn:n<=1000000) (y:Nat->MarkG) (x:MarkG) (most:Int) (cm:Nat->Int) (hc:cm=λi=>lex (bT (y i).l x.l) (bT (y i).p x.p)) (hm:∀a b,a<b->b<n->cm b<0->cm a<0) :
 Own Tryz.prog 419 [.vec 61 5 n λi j=>.r ((y i).c j)] [.sl 0 5 0 n none,x.sv,.i most,.fn (.func 104) [] []] (.tup [.sl 0 5 0 (qW (cM cm n) n) none,.b (cM cm n||decide ((n:Int)<most))])
  [.vec 61 5 (qW (cM cm n) n) λi j=>.r ((jQ (cM cm n) (cA cm n) y x i).c j)]:=by
 refine γ Tryz.func419 ?_;simp[go_sem];refine aG (v:=.tup [.i (cA cm n:Nat),.b (cM cm n)]) (by
  simp[go_sem];exact aFe n ω _ x.l x.p x.s x.u x.n (104:FuncId) cm hm (λi hi=>by rw[hc];exact aJl (y i) x)) rfl ?_
 have hle:cA cm n<=n:=iK;by_cases hf:cM cm n=true
 ·have hb:cA cm n<n:=by simp[cM] at hf;exact hf.1
  generalize cA cm n=i at *;generalize cM cm n=f at *;subst hf;simp[go_sem];refine⟨hb,[0],τ,λN=>⟨by simp[go_sem,qW],?_⟩⟩;simp[go_sem,qW];intro r c hr hc;by_cases hri:r=i
  ·subst hri;rw[if_pos ⟨rfl,hc⟩];have hcc:c=0\/c=1\/c=2\/c=3\/c=4:=ω;simp only [jQ,if_neg (Nat.lt_irrefl _),if_pos];rcases hcc with rfl | rfl | rfl | rfl | rfl <;> rfl
  ·rw[if_neg (λh=>hri h.1)];simp only [jQ,if_neg hri,if_true];split <;> rfl
 ·have hf:cM cm n=false:=by simpa using hf
  generalize cA cm n=i at *;generalize cM cm n=f at *;subst hf;simp[go_sem];simp only [bI0];refine aF [0,2] (aNn n i hn hle _ _) τ rfl ⟨rfl,rfl,trivial⟩ ?_;simp[go_sem];refine⟨[3],τ,λN=>⟨by simp[go_sem,qW],?_⟩⟩;simp[go_sem,qW];intro r c hr hc;unfold gE;by_cases hri:r=i
  ·subst hri;have hcc:c=0\/c=1\/c=2\/c=3\/c=4:=ω;simp only [jQ,if_neg (Nat.lt_irrefl _),if_pos];rcases hcc with rfl | rfl | rfl | rfl | rfl <;> rfl
  ·simp only [jQ,if_neg hri];split <;> rfl
def RG.cnE (g:RG) (x:ConG):Int:=if g.valid then (if x.good then (if cM (g.cmC x.p x.q) g.nc||decide ((g.nc:Int)<40) then 0 else 9) else 2) else 8
def RG.putC (g:RG) (x:ConG):RG:={g with nc:=qW (cM (g.cmC x.p x.q) g.nc) g.nc,c:=jQ (cM (g.cmC x.p x.q) g.nc) (cA (g.cmC x.p x.q) g.nc) g.c x}
def RG.mkE (g:RG) (x:MarkG):Int:=if g.valid then (if x.good then (if cM (g.cm x.l x.p) g.nm||decide ((g.nm:Int)<40) then 0 else 9) else 2) else 8
def RG.putM (g:RG) (x:MarkG):RG:={g with nm:=qW (cM (g.cm x.l x.p) g.nm) g.nm,m:=jQ (cM (g.cm x.l x.p) g.nm) (cA (g.cm x.l x.p) g.nm) g.m x}
theorem put43 (g:RG) (x:ConG) (h:g.OK):Pure Tryz.prog 339 [g.sv,x.sv] (· =.tup [(if g.cnE x=0 then g.putC x else RG.nil).sv,.i (g.cnE x)]):=by
 refine Pure.ofSub ?_;refine π Tryz.func339 ?_;simp[go_sem];refine aA (check28 g h) rfl rfl ?_;by_cases hv:g.valid=true;rotate_left
 ·have ha:g.cnE x=8:=by unfold RG.cnE;rw[if_neg hv]
  simp[go_sem,hv,ha,RG.nil]
 have hl:=RG.lim hv;simp[go_sem,hv];refine aA (qV x) rfl rfl ?_;by_cases hx:x.good=true;rotate_left
 ·have ha:g.cnE x=2:=by unfold RG.cnE;rw[if_pos hv,if_neg hx]
  simp[go_sem,hx,ha,RG.nil]
 simp[go_sem,hx];refine aF [] (xZ g ω ω ω ω) τ rfl trivial ?_;simp[go_sem];refine aF [4] (aNq g.nc ω g.c x 40 (g.cmC x.p x.q) rfl (RG.cmC_mono (RG.v5 hv) _ _)) τ rfl ⟨rfl,trivial⟩ ?_;have hE:g.cnE x=if cM (g.cmC x.p x.q) g.nc||decide ((g.nc:Int)<40) then 0 else 9:=by unfold RG.cnE;rw[if_pos hv,if_pos hx]
 generalize hf:(cM (g.cmC x.p x.q) g.nc||decide ((g.nc:Int)<40))=f at *
 cases f
 ·have ha:g.cnE x=9:=hE;simp[go_sem,ha,RG.nil]
 ·have ha:g.cnE x=0:=hE;simp[go_sem,ha];exact⟨⟨rfl,λ_ _ _ _=>rfl⟩,⟨rfl,λ_ _ _ _=>rfl⟩,⟨rfl,λ_ _ _ _=>rfl⟩,rfl,λ_ _ _ _=>rfl⟩
theorem put46 (g:RG) (x:MarkG) (h:g.OK):Pure Tryz.prog 340 [g.sv,x.sv] (· =.tup [(if g.mkE x=0 then g.putM x else RG.nil).sv,.i (g.mkE x)]):=by
 refine Pure.ofSub ?_;refine π Tryz.func340 ?_;simp[go_sem];refine aA (check28 g h) rfl rfl ?_;by_cases hv:g.valid=true;rotate_left
 ·have ha:g.mkE x=8:=by unfold RG.mkE;rw[if_neg hv]
  simp[go_sem,hv,ha,RG.nil]
 have hl:=RG.lim hv;simp[go_sem,hv];refine aA (xY x) rfl rfl ?_;by_cases hx:x.good=true;rotate_left
 ·have ha:g.mkE x=2:=by unfold RG.mkE;rw[if_pos hv,if_neg hx]
  simp[go_sem,hx,ha,RG.nil]
 simp[go_sem,hx];refine aF [] (xZ g ω ω ω ω) τ rfl trivial ?_;simp[go_sem];refine aF [6] (aNo g.nm ω g.m x 40 (g.cm x.l x.p) rfl (RG.cm_mono (RG.v6 hv) _ _)) τ rfl ⟨rfl,trivial⟩ ?_;have hE:g.mkE x=if cM (g.cm x.l x.p) g.nm||decide ((g.nm:Int)<40) then 0 else 9:=by unfold RG.mkE;rw[if_pos hv,if_pos hx]
 generalize hf:(cM (g.cm x.l x.p) g.nm||decide ((g.nm:Int)<40))=f at *
 cases f
 ·have ha:g.mkE x=9:=hE;simp[go_sem,ha,RG.nil]
 ·have ha:g.mkE x=0:=hE;simp[go_sem,ha];exact⟨⟨rfl,λ_ _ _ _=>rfl⟩,⟨rfl,λ_ _ _ _=>rfl⟩,⟨rfl,λ_ _ _ _=>rfl⟩,rfl,λ_ _ _ _=>rfl⟩
end Go.Gx.Rg
namespace Go.Gx.Ix
open Go.RowKit Go.Proofs Go.Proofs.YtncccnmmjfapnaaGreat
def aM3 (p:PsG) (c m:BitVec 8):Nat:=aIs (qJ (qJ (aHz p.c c) p.m) m)
theorem bGd (p:PsG) (c m:BitVec 8) (rad:Nat) (hr:rad<=1000000):OwnS Tryz.prog 1 113 [.box [.i rad]] [p.sv,.agg [.y m,.y c],.ptr 0 0 1 0] (.b (decide (rad / 8<aM3 p c m))) [.box [.i rad]]:=by
 refine bE (np:=1) (hnp:=?_) aD Tryz.func113 rfl κ ν rfl rfl ?_
 ·simp
 simp[go_sem];refine aP (t:=(.take 0 (.take 1 (.take 2 (.take 3 (.take 4 (.take 5 (.take 6 (.take 7 (.take 8 (.take 9 (.take 10 (.take 12 (.take 13 (.alt 11 [13,12,10,9,8,7,6,5,4,3,2,1,0] (.take 14 (.take 15 (.done [15,14,13,12,9,8,7,6,5,4,3,2,1,0]))) .nil))))))))))))))) aD κ κ κ (λ_ _ _ _ h=>h) ?_;simp[go_sem];refine⟨ω,aA (aW6 (qJ (qJ (aHz p.c c) p.m) m)) rfl rfl ?_⟩;have e:(decide ((rad:Int) / 8<(aIs (qJ (qJ (aHz p.c c) p.m) m):Nat)))=decide (rad / 8<aM3 p c m):=by unfold aM3;rw[decide_eq_decide];omega
 simp[go_sem];refine⟨ω,[0],by simp[uJ],τ,λN=>⟨?_,?_⟩⟩
 ·simp[go_sem];rw[decide_eq_decide] at e;exact e
 ·simp[go_sem]
section
variable (x:IxG) (b:IrG) (n:Nat) (num den:Int)
def wF:Nat:=(cnt b.m*num.toNat) / den.toNat
def bkS (i:Nat):IrG:=b.tn ((n:Int) - i)
def aG1 (rad:Nat) (bk:IrG) (j:Nat) (p:PsG):Bool:=decide (rad / 8<aM3 p (eB bk.c j) (eB bk.m j))
def tB (rad:Nat) (bk:IrG) (a:Int):Bool:=(List.range 8).any λj=>(x.ch j).any λp=>! aG1 rad bk j p&&p.ids.contains a
def mtI (bk:IrG) (a:Int):Bool:=decide (16<=(x.ms[plc x.ms a]!).x.d bk 0)&&decide (((x.ms[plc x.ms a]!).x.n bk 0:Int)*den<=num*(x.ms[plc x.ms a]!).x.d bk 0)
def kL (rad:Nat) (bk:IrG):List Int:=(x.ms.map (·.id)).filter (tB x rad bk)
def aHi (rad k:Nat) (a:Int):Bool:=(List.range k).any λi=>tB x rad (bkS b n i) a&&mtI x num den (bkS b n i) a
def aAp:List Int:=(x.ms.map (·.id)).filter (aHi x b n num den (wF b num den) (2*n+1))
def fN (k:Nat):Nat:=((List.range k).map λi=>(kL x (wF b num den) (bkS b n i)).length).sum
end
def fL (ms:List MbG) (has:Int->Bool) (k:Nat):List Int:=((ms.take k).map (·.id)).filter has
theorem aVa (ms:List MbG) (has:Int->Bool):fL ms has 0=[]:=rfl
theorem aWu {ms:List MbG} {has:Int->Bool} {k:Nat} (h:k<ms.length):fL ms has (k+1)=fL ms has k++if has ms[k].id then [ms[k].id] else []:=by
 unfold fL;rw[List.take_succ_eq_append_getElem h,List.map_append,List.filter_append];simp[List.filter_cons]
theorem bA2 (ms:List MbG) (has:Int->Bool):fL ms has ms.length=(ms.map (·.id)).filter has:=by unfold fL;rw[List.take_length]
theorem aZ3 (ms:List MbG) (has:Int->Bool) (k:Nat):(fL ms has k).length<=ms.length:=by
 unfold fL;refine Nat.le_trans (List.length_filter_le _ _) ?_;rw[List.length_map,List.length_take];omega
theorem aCe (x:IxG) (rad:Nat) (bk:IrG):(kL x rad bk).length<=x.ms.length:=by
 unfold kL;refine Nat.le_trans (List.length_filter_le _ _) ?_;rw[List.length_map];omega
theorem aG2 (x:IxG) (b:IrG) (n:Nat) (num den:Int):∀k,fN x b n num den k<=k*x.ms.length
 | 0=>by simp[fN]
 | k+1=>by
   have h:=aG2 x b n num den k;have h2:=aCe x (wF b num den) (bkS b n k);unfold fN at h ⊢;rw[List.range_succ,List.map_append,List.sum_append,Nat.succ_mul];simp only [List.map_cons,List.map_nil,List.sum_cons,List.sum_nil,Nat.add_zero];omega
theorem wZ {l:List Int} {left:Int->Bool} {a:Int} (ha:a∈l) (h:left a=true):(l.filter λy=>left y&&!decide (y=a)).length<(l.filter left).length:=by
 have e:l.filter (λy=>left y&&!decide (y=a))=(l.filter left).filter λy=>!decide (y=a):=by
  rw[List.filter_filter];exact List.filter_congr λy _=>Bool.and_comm ..
 rw[e];exact List.length_filter_lt_length_iff_exists.2 ⟨a,List.mem_filter.2 ⟨ha,h⟩,τ⟩
structure bEs (x:IxG):Prop where
 v:eH x=true
 nd:(x.ms.map (·.id)).Nodup
 mem:∀j,j<8->∀p∈x.ch j,∀a∈p.ids,∃i,∃h:i<x.ms.length,x.ms[i].id=a/\plc x.ms a=i
 ok:∀a∈x.ms,a.x.ok=true
 sm:x.Sm
theorem aR7 (x:IxG) (hx:bEs x) (b:IrG) (n:Nat) (num den:Nat) (hm:mE b b n num den=0) (hbo:∀i,(bkS b n i).ok=true):Pure Tryz.prog 51 [x.sv,b.sv,.i n,.agg [.i num,.i den]] (· =.tup [.agg [ils (aAp x b n num den),.i (fN x b n num den (2*n+1))],.i 0]):=by
 obtain⟨F,hF⟩:∃F,aAp x b n num den=F:=⟨_,rfl⟩;obtain⟨G,hG⟩:∃G,fN x b n num den (2*n+1)=G:=⟨_,rfl⟩;rw[hF,hG];refine π Tryz.func51 ?_;have hc:=aLf x hx.sm;have hv:=hx.v;simp[go_sem,IxG.sv] at hc ⊢;refine aA hc rfl rfl ?_;simp[go_sem,oQ,hv];refine aA (aKm b b n num den) rfl rfl ?_;rw[hm];have hlen:=aIj hv;obtain⟨hb,h7,hd1,hd2,hn2⟩:b.ok=true/\n<=7/\1<=den/\den<=1000/\num<=den:=by
  unfold mE at hm;split at hm
  ·rename_i h1;split at hm
   ·rename_i h2;simp only [Bool.and_eq_true,Bool.and_self,vL,btw,decide_eq_true_eq] at h1 h2;exact⟨h1,ω,ω,ω,ω⟩
   ·cases hm
  ·cases hm
 have hcl:=yV b.m;have hmul:cnt b.m*num<=64000:=Nat.le_trans (Nat.mul_le_mul hcl (ω:num<=1000)) ω;have hrad:wF b num den=cnt b.m*num / den:=by simp[wF]
 have hr:cnt b.m*num / den<=64000:=Nat.le_trans (Nat.div_le_self _ _) hmul;have hden:¬(den:Int)=0:=ω;have fin:(-9223372036854775808<=(cnt b.m:Int)*num/\(cnt b.m:Int)*num<=9223372036854775807)/\(¬den=0/\-9223372036854775808<=((cnt b.m:Int)*num).tdiv den/\((cnt b.m:Int)*num).tdiv den<=9223372036854775807)/\
  ((¬den=0/\-9223372036854775808<=((cnt b.m:Int)*num).tdiv den/\((cnt b.m:Int)*num).tdiv den<=9223372036854775807)/\-9223372036854775808<=(cnt b.m:Int)*num/\(cnt b.m:Int)*num<=9223372036854775807)/\((cnt b.m:Int)*num).tdiv den=(cnt b.m:Int)*num / den:=by
  have hm1:(cnt b.m:Int)*num=((cnt b.m*num:Nat):Int):=τ;rw[hm1];generalize cnt b.m*num=q at hmul hr;have h1:(q:Int).tdiv den=(q:Int) / den:=Int.tdiv_eq_ediv_of_nonneg ω;have h2:(q:Int) / den=((q / den:Nat):Int):=τ;rw[h1,h2];generalize q / den=r at hr;omega
 simp[go_sem];refine fD (S:=[(2,.i n),(4,.ptr 0 0 9 0),(5,.ptr 1 0 2 0),(7,.ptr 2 0 2 0),(8,.ptr 3 0 2 0),(9,.i 0),(13,.ptr 4 0 1 0)])
  (l:=[some (.box [xA x.ms,cN (x.ch 0),cN (x.ch 1),cN (x.ch 2),cN (x.ch 3),cN (x.ch 4),cN (x.ch 5),cN (x.ch 6),cN (x.ch 7)]),some (.box [.w b.c,.w b.m]),some (.box [.i num,.i den]),some (.box [aM,.i 0]),some (.box [.i ((cnt b.m*num / den:Nat):Int)])]) (n:=5)
  (t:=(.take 0 (.take 1 (.take 3 (.take 4 (.take 6 (.take 7 (.alt 2 [7,6,4,3,1,0] (.take 5 (.take 8 (.alt 9 [8,5,7,6,4,3,0] (.alt 10 [8,5,7,6,4,3,0] (.done []) .nil) .nil))) (.alt 9 [7,6,4,3,1,0] (.alt 2 [7,6,4,3,1,0] (.take 5 (.take 8 (.alt 10 [8,5,7,6,4,3,0] (.done []) .nil))) .nil) .nil))))))))) aD κ κ κ (λ_ _ _ _ h=>h) rfl ?_ ?_
 ·simp[go_sem];refine⟨aA (aEc b.m) rfl rfl ?_,aA (aEc b.m) rfl rfl ?_⟩
  ·simp[go_sem,hden];exact fin
  ·simp[go_sem,hden];exact fin
 intro J;rw[<- hrad] at hr;rw[<- hrad];obtain⟨rad,hrd⟩:∃rad,wF b num den=rad:=⟨_,rfl⟩;rw[hrd] at hr ⊢;simp[go_sem];refine⟨ω,?_⟩;have hout:∀k,fN x b n num den (k+1)=fN x b n num den k+(kL x rad (bkS b n k)).length:=λk=>by
  unfold fN;rw[List.range_succ,List.map_append,List.sum_append,hrd];simp
 refine bF aD (α:=Nat × (Int->Bool)) (λs=>[(2,.i n),(4,.ptr 0 0 9 0),(5,.ptr 1 0 2 0),(7,.ptr 2 0 2 0),(8,.ptr 3 0 2 0),(9,.i 0),(14,.fn (.func 113) [] [.ptr 4 0 1 0]),(15,.ptr 5 0 2 0),(16,.mp 6),(17,.i ((s.1:Int) - n))])
  (λs=>[some (.box [xA x.ms,cN (x.ch 0),cN (x.ch 1),cN (x.ch 2),cN (x.ch 3),cN (x.ch 4),cN (x.ch 5),cN (x.ch 6),cN (x.ch 7)]),some (.box [.w b.c,.w b.m]),some (.box [.i num,.i den]),some (.box [aM,.i 0]),some (.box [.i rad]),some (.box [aM,.i (fN x b n num den s.1:Nat)]),some (.map s.2 (λ_=>.b true) none)]) 7
  (λs=>s.1<=2*n+1/\∀a,s.2 a=aHi x b n num den rad s.1 a) (λs=>2*n+1 - s.1) (0,λ_=>false) (λ_=>rfl) ⟨ω,λa=>by simp[aHi]⟩ ζ (by simp[go_sem,fN]) ?_
 rintro⟨k,has⟩ J ⟨hk,hhas⟩;dsimp only at hk hhas;by_cases hlt:k<2*n+1
 ·have hlt':(k:Int) - n<=n:=ω;simp[go_sem,hlt'];have ht:zQ b (-((k:Int) - n))=0:=by unfold zQ;rw[if_pos hb,if_pos];unfold btw;simp;omega
  have hbk:b.tn (-((k:Int) - n))=bkS b n k:=by unfold bkS;congr 1;omega
  obtain⟨bk,hbke⟩:∃bk,bkS b n k=bk:=⟨_,rfl⟩;have hcall:Pure Tryz.prog 115 [b.sv,.i (-((k:Int) - n))] (· =.tup [bk.sv,.i 0]):=by
   have h:=bAu b (-((k:Int) - n));rw[ht,if_pos rfl,hbk,hbke] at h;exact h
  refine⟨ω,aA hcall rfl rfl ?_⟩;simp[go_sem];refine bF aD (α:=Nat × (Int->Bool)) (λs=>[(2,.i n),(4,.ptr 0 0 9 0),(5,.ptr 1 0 2 0),(7,.ptr 2 0 2 0),(8,.ptr 3 0 2 0),(9,.i 0),(14,.fn (.func 113) [] [.ptr 4 0 1 0]),(15,.ptr 5 0 2 0),(16,.mp 6),(17,.i ((k:Int) - n)),(18,.ptr 7 0 2 0),(20,.mp 8),(81,.agg [cN (x.ch 0),cN (x.ch 1),cN (x.ch 2),cN (x.ch 3),cN (x.ch 4),cN (x.ch 5),cN (x.ch 6),cN (x.ch 7)]),(82,.i s.1)])
   (λs=>[some (.box [xA x.ms,cN (x.ch 0),cN (x.ch 1),cN (x.ch 2),cN (x.ch 3),cN (x.ch 4),cN (x.ch 5),cN (x.ch 6),cN (x.ch 7)]),some (.box [.w b.c,.w b.m]),some (.box [.i num,.i den]),some (.box [aM,.i 0]),some (.box [.i rad]),some (.box [aM,.i (fN x b n num den k:Nat)]),some (.map has (λ_=>.b true) none),some (.box [.w bk.c,.w bk.m]),some (.map s.2 (λ_=>.b true) none)]) 9
   (λs=>s.1<=8/\∀a,s.2 a=(List.range s.1).any λj=>(x.ch j).any λp=>! aG1 rad bk j p&&p.ids.contains a) (λs=>8 - s.1) (0,λ_=>false) (λ_=>rfl) ⟨ω,λa=>τ⟩ ζ ζ ?_
  rintro⟨j,sn⟩ J ⟨hj,hsn⟩;dsimp only at hj hsn;by_cases hjlt:j<8
  ·have hjlt':(j:Int)<8:=ω;simp[go_sem,hjlt,hjlt'];refine aA (fY bk j hjlt) rfl rfl ?_;have hidx:[cN (x.ch 0),cN (x.ch 1),cN (x.ch 2),cN (x.ch 3),cN (x.ch 4),cN (x.ch 5),cN (x.ch 6),cN (x.ch 7)][j]'(by simpa using hjlt)=cN (x.ch j):=by
    rcases(show j=0\/j=1\/j=2\/j=3\/j=4\/j=5\/j=6\/j=7 by omega) with rfl | rfl | rfl | rfl | rfl | rfl | rfl | rfl <;> rfl
   obtain⟨hpl,hpi⟩:=hx.sm.ch j hjlt;have hpm:=hx.mem j hjlt;obtain⟨L,hL⟩:∃L,x.ch j=L:=⟨_,rfl⟩;rw[hL] at hpl hpi hpm hidx;simp[go_sem,hidx];refine bF aD (α:=Nat × (Int->Bool)) (λs=>[(2,.i n),(4,.ptr 0 0 9 0),(5,.ptr 1 0 2 0),(7,.ptr 2 0 2 0),(8,.ptr 3 0 2 0),(9,.i 0),(14,.fn (.func 113) [] [.ptr 4 0 1 0]),(15,.ptr 5 0 2 0),(16,.mp 6),(17,.i ((k:Int) - n)),(18,.ptr 7 0 2 0),(20,.mp 8),(81,.agg [cN (x.ch 0),cN (x.ch 1),cN (x.ch 2),cN (x.ch 3),cN (x.ch 4),cN (x.ch 5),cN (x.ch 6),cN (x.ch 7)]),(82,.i j),(23,.ptr 9 0 2 0),(89,cN L),(90,.i L.length),(91,.i s.1)])
    (λs=>[some (.box [xA x.ms,cN (x.ch 0),cN (x.ch 1),cN (x.ch 2),cN (x.ch 3),cN (x.ch 4),cN (x.ch 5),cN (x.ch 6),cN (x.ch 7)]),some (.box [.w b.c,.w b.m]),some (.box [.i num,.i den]),some (.box [aM,.i 0]),some (.box [.i rad]),some (.box [aM,.i (fN x b n num den k:Nat)]),some (.map has (λ_=>.b true) none),some (.box [.w bk.c,.w bk.m]),some (.map s.2 (λ_=>.b true) none),some (.box [.y (eB bk.m j),.y (eB bk.c j)])]) 10
    (λs=>s.1<=L.length/\∀a,s.2 a=(sn a||(L.take s.1).any λp=>! aG1 rad bk j p&&p.ids.contains a)) (λs=>L.length - s.1) (0,sn) (λ_=>rfl) ⟨ω,λa=>τ⟩ ζ ζ ?_
   rintro⟨i,s2⟩ J ⟨hi,hs2⟩;dsimp only at hi hs2;by_cases hilt:i<L.length
   ·obtain⟨p,hp⟩:∃p,L[i]=p:=⟨_,rfl⟩;have r0:cP L i 0=p.f 0:=by rw[sQ hilt,hp]
    have r1:cP L i 1=p.f 1:=by rw[sQ hilt,hp]
    have r2:cP L i 2=p.f 2:=by rw[sQ hilt,hp]
    have hpil:=hpi p (hp▸List.getElem_mem hilt);simp[go_sem,hilt,r0,r1,r2];refine aR [4] (bGd p (eB bk.c j) (eB bk.m j) rad ω) τ τ rfl ?_ ?_
    ·simp[go_sem]
    simp[go_sem];by_cases hfar:rad / 8<aM3 p (eB bk.c j) (eB bk.m j)
    ·rw[if_pos hfar];have hfb:aG1 rad bk j p=true:=by simpa [aG1] using hfar
     refine⟨ω,i+1,s2,⟨ω,λa=>?_⟩,ω,ω,λ_=>rfl⟩;rw[hs2 a,List.take_succ_eq_append_getElem hilt,hp];simp[hfb]
    rw[if_neg hfar];have hfb:aG1 rad bk j p=false:=by simpa [aG1] using hfar
    refine bF aD (α:=Nat × (Int->Bool)) (λs=>[(2,.i n),(4,.ptr 0 0 9 0),(5,.ptr 1 0 2 0),(7,.ptr 2 0 2 0),(8,.ptr 3 0 2 0),(9,.i 0),(14,.fn (.func 113) [] [.ptr 4 0 1 0]),(15,.ptr 5 0 2 0),(16,.mp 6),(17,.i ((k:Int) - n)),(18,.ptr 7 0 2 0),(20,.mp 8),(81,.agg [cN (x.ch 0),cN (x.ch 1),cN (x.ch 2),cN (x.ch 3),cN (x.ch 4),cN (x.ch 5),cN (x.ch 6),cN (x.ch 7)]),(82,.i j),(23,.ptr 9 0 2 0),(89,cN L),(90,.i L.length),(91,.i i),(100,ils p.ids),(101,.i p.ids.length),(102,.i s.1)])
     (λs=>[some (.box [xA x.ms,cN (x.ch 0),cN (x.ch 1),cN (x.ch 2),cN (x.ch 3),cN (x.ch 4),cN (x.ch 5),cN (x.ch 6),cN (x.ch 7)]),some (.box [.w b.c,.w b.m]),some (.box [.i num,.i den]),some (.box [aM,.i 0]),some (.box [.i rad]),some (.box [aM,.i (fN x b n num den k:Nat)]),some (.map has (λ_=>.b true) none),some (.box [.w bk.c,.w bk.m]),some (.map s.2 (λ_=>.b true) none),some (.box [.y (eB bk.m j),.y (eB bk.c j)])]) 10
     (λs=>s.1<=p.ids.length/\∀a,s.2 a=(s2 a||(p.ids.take s.1).contains a)) (λs=>p.ids.length - s.1) (0,s2) (λ_=>rfl) ⟨ω,λa=>τ⟩ ζ ζ ?_
    rintro⟨q,s3⟩ J ⟨hq,hs3⟩;dsimp only at hq hs3;by_cases hqlt:q<p.ids.length
    ·have e0:=aUv hqlt 0;simp[go_sem,hqlt,e0];refine⟨ω,q+1,λa=>decide (a=p.ids[q])||s3 a,⟨ω,λa=>?_⟩,ω,ω,λ_=>rfl⟩;show(decide (a=p.ids[q])||s3 a)=_;have hmem:a∈p.ids.take (q+1)↔(a∈p.ids.take q\/a=p.ids[q]):=by rw[List.take_succ_eq_append_getElem hqlt,List.mem_append,List.mem_singleton]
     rw[hs3 a,Bool.eq_iff_iff];simp only [Bool.or_eq_true,decide_eq_true_eq,List.contains_eq_mem,hmem];constructor
     ·rintro(h | h | h)
      ·exact .inr (.inr h)
      ·exact .inl h
      ·exact .inr (.inl h)
     ·rintro(h | h | h)
      ·exact .inr (.inl h)
      ·exact .inr (.inr h)
      ·exact .inl h
    ·have hql:q=p.ids.length:=ω;rw[hql,List.take_length] at hs3;simp[go_sem,hqlt];refine⟨ω,i+1,s3,⟨ω,λa=>?_⟩,ω,ω,λ_=>rfl⟩;rw[hs3 a,hs2 a,List.take_succ_eq_append_getElem hilt,hp];simp[hfb,Bool.or_assoc]
   ·have hil:i=L.length:=ω;subst hil;rw[List.take_length] at hs2;simp[go_sem];refine⟨ω,j+1,s2,⟨ω,λa=>?_⟩,ω,ω,λ_=>rfl⟩;rw[hs2 a,hsn a,List.range_succ,List.any_append];simp[hL]
  ·have hjlt':¬(j:Int)<8:=ω;have hj8:j=8:=ω;subst hj8;simp[go_sem];have hsn':∀a,sn a=tB x rad bk a:=hsn;refine aI0 aD (q:=8) (has:=sn) (val:=λ_=>.b true) (st:=none) ζ ζ κ ζ (kL x rad bk) (hx.nd.filter _) (λa=>?_) ?_
   ·rw[hsn' a];unfold kL;rw[List.mem_filter];refine⟨λh=>⟨?_,h⟩,λh=>h.2⟩;unfold tB at h;obtain⟨j,hj,h⟩:=List.any_eq_true.1 h;obtain⟨p,hp,h⟩:=List.any_eq_true.1 h;simp only [Bool.and_eq_true,List.contains_eq_mem,decide_eq_true_eq] at h;obtain⟨i,hi,h1,_⟩:=hx.mem j (List.mem_range.1 hj) p hp a h.2;exact List.mem_map.2 ⟨_,List.getElem_mem hi,h1⟩
   simp[go_sem];have hsl:=aCe x rad bk;have hsN:fN x b n num den k<=15*256:=Nat.le_trans (aG2 x b n num den k) (Nat.mul_le_mul ω hlen);refine⟨⟨ω,ω⟩,?_⟩;refine aCq aD (q:=8) (has:=sn) (val:=λ_=>.b true) (st:=none) ζ ζ κ ζ λf c=>?_;simp[go_sem];have hsk:fN x b n num den (k+1)=fN x b n num den k+(kL x rad bk).length:=by rw[hout k,hbke]
   refine bF aD (α:=(Int->Bool) × (Int->Bool) × Option Int) (λs=>[(2,.i n),(4,.ptr 0 0 9 0),(5,.ptr 1 0 2 0),(7,.ptr 2 0 2 0),(8,.ptr 3 0 2 0),(9,.i 0),(14,.fn (.func 113) [] [.ptr 4 0 1 0]),(15,.ptr 5 0 2 0),(16,.mp 6),(17,.i ((k:Int) - n)),(18,.ptr 7 0 2 0),(118,.ptr 9 0 1 0)])
    (λs=>[some (.box [xA x.ms,cN (x.ch 0),cN (x.ch 1),cN (x.ch 2),cN (x.ch 3),cN (x.ch 4),cN (x.ch 5),cN (x.ch 6),cN (x.ch 7)]),some (.box [.w b.c,.w b.m]),some (.box [.i num,.i den]),some (.box [aM,.i 0]),some (.box [.i rad]),some (.box [aM,.i (fN x b n num den (k+1):Nat)]),some (.map s.1 (λ_=>.b true) none),some (.box [.w bk.c,.w bk.m]),some (.map sn (λ_=>.b true) (some (f,c))),some (.iter (.mp 8) f c sn s.2.1 s.2.2)]) 10
    (λs=>∀a,s.1 a=(has a||(sn a&&!s.2.1 a&&mtI x num den bk a))) (λs=>((kL x rad bk).filter s.2.1).length) (has,sn,none) (λ_=>rfl) (λa=>by dsimp only;cases sn a <;> simp) ζ (by simp[go_sem,hsk]) ?_
   rintro⟨h2,left,la⟩ J hh2;dsimp only at hh2;simp[go_sem];refine aGy (q:=8) (ref:=9) (kk:=1) (f:=f) (c:=c) (all:=sn) (left:=left) (has:=sn) (la:=la) (val:=λ_=>.b true) ζ ζ ζ (λ_=>rfl) ζ (λa h1 h3=>?_) (λh0=>?_);rotate_left
   ·simp[go_sem];refine⟨⟨ω,ω⟩,k+1,h2,⟨ω,λa=>?_⟩,ω,ω,rfl,λ_=>rfl⟩;have hk1:aHi x b n num den rad (k+1) a=(aHi x b n num den rad k a||(tB x rad bk a&&mtI x num den bk a)):=by
     unfold aHi;rw[List.range_succ,List.any_append];simp[hbke]
    rw[hk1,hh2 a,hhas a,<- hsn' a]
    cases hq:sn a
    ·simp
    ·simp[h0 a hq]
   simp[go_sem];refine aB5 (q:=8) (ref:=9) (kk:=1) (f:=f) (c:=c) (all:=sn) (left:=λy=>left y&&!decide (y=a)) (has:=sn) (k:=a) (val:=λ_=>.b true) ζ ζ ζ h1 ζ ?_;obtain⟨i,hi,hid,hpl⟩:∃i,∃h:i<x.ms.length,x.ms[i].id=a/\plc x.ms a=i:=by
    have h:=h1;rw[hsn' a] at h;unfold tB at h;obtain⟨j,hj,h⟩:=List.any_eq_true.1 h;obtain⟨p,hp,h⟩:=List.any_eq_true.1 h;simp only [Bool.and_eq_true,List.contains_eq_mem,decide_eq_true_eq] at h;exact hx.mem j (List.mem_range.1 hj) p hp a h.2
   simp[go_sem];refine aA (aWn x.ms ω (aBd hv) a) rfl rfl ?_;rw[hpl];obtain⟨m,hmi⟩:∃m,x.ms[i]=m:=⟨_,rfl⟩;have r0:gG x.ms i 0=m.f 0:=by rw[mrow hi,hmi]
   have r1:gG x.ms i 1=m.f 1:=by rw[mrow hi,hmi]
   have r2:gG x.ms i 2=m.f 2:=by rw[mrow hi,hmi]
   have hcmp:Pure Tryz.prog 118 [m.x.sv,bk.sv,.i 0] (· =.tup [.i (m.x.n bk 0),.i (m.x.d bk 0),.i 0]):=by
    have h:=aMc m.x bk 0;have he:aE2 m.x bk 0=0:=by
     unfold aE2;rw[hx.ok m (hmi▸List.getElem_mem hi),<- hbke,hbo k];rfl
    rw[he] at h;simpa using h
   have hmt:mtI x num den bk a=(decide (16<=m.x.d bk 0)&&decide ((m.x.n bk 0:Int)*den<=num*m.x.d bk 0)):=by
    unfold mtI;rw[hpl,getElem!_pos x.ms i hi,hmi]
   have hn64:m.x.n bk 0<=64:=yV _;have hd64:m.x.d bk 0<=64:=yV _;generalize m.x.n bk 0=nn at *;generalize m.x.d bk 0=dd at *;have hp1:nn*den<=64*1000:=Nat.mul_le_mul hn64 hd2;have hp2:num*dd<=1000*64:=Nat.mul_le_mul ω hd64;simp[go_sem];refine aP (t:=(.take 0 (.take 1 (.take 2 (.take 3 (.take 4 (.take 5 (.take 6 (.alt 7 [6,5,4,3,2,1,0] (.take 8 (.take 9 (.take 10 (.take 11 (.take 12 (.take 13 (.take 14 (.done [14,13,12,11,10,9,8,4,3,2,1,0])))))))) .nil))))))))) aD κ κ κ (λ_ _ _ _ h=>h) ?_;simp[go_sem,hi,r0,r1,r2];refine aA hcmp rfl rfl ?_;simp[go_sem];have hq1:(nn:Int)*den=((nn*den:Nat):Int):=τ;have hq2:(num:Int)*dd=((num*dd:Nat):Int):=τ;rw[hq1,hq2] at hmt ⊢;have hasn:a∈kL x rad bk:=by
    unfold kL;rw[List.mem_filter];exact⟨List.mem_map.2 ⟨_,List.getElem_mem hi,hid⟩,by rw[<- hsn' a];exact h1⟩
   have hll:=wZ hasn h3;have yes:mtI x num den bk a=true->∃a_1 a_2:Int->Bool,(∀z:Int,a_1 z=(has z||sn z&&!a_2 z&&mtI x num den bk z))/\(List.filter a_2 (kL x rad bk)).length<(List.filter left (kL x rad bk)).length/\
    (∀z:Int,(decide (z=a)||h2 z)=a_1 z)/\∀z:Int,sn z=true->(left z&&!decide (z=a))=a_2 z:=λhm=>by
    refine⟨λz=>decide (z=a)||h2 z,λz=>left z&&!decide (z=a),λz=>?_,hll,λ_=>rfl,λ_ _=>rfl⟩;by_cases hz:z=a
    ·subst hz;simp[h1,hm]
    ·simp[hz,hh2 z]
   have no:mtI x num den bk a=false->∃a_1 a_2:Int->Bool,(∀z:Int,a_1 z=(has z||sn z&&!a_2 z&&mtI x num den bk z))/\(List.filter a_2 (kL x rad bk)).length<(List.filter left (kL x rad bk)).length/\
    (∀z:Int,h2 z=a_1 z)/\∀z:Int,sn z=true->(left z&&!decide (z=a))=a_2 z:=λhm=>by
    refine⟨h2,λz=>left z&&!decide (z=a),λz=>?_,hll,λ_=>rfl,λ_ _=>rfl⟩;by_cases hz:z=a
    ·subst hz;rw[hh2 z];simp[hm]
    ·simp[hz,hh2 z]
   generalize nn*den=u1 at *;generalize num*dd=u2 at *;refine⟨hi,?_⟩;by_cases hd16:16<=dd
   ·have hd16':(16:Int)<=dd:=ω;rw[if_pos hd16'];refine⟨ω,ω,?_⟩;by_cases hu:(u1:Int)<=u2
    ·rw[if_pos hu];exact yes (by rw[hmt];simp[hd16];omega)
    ·rw[if_neg hu];exact no (by rw[hmt];simp[hd16];omega)
   ·have hd16':¬(16:Int)<=dd:=ω;rw[if_neg hd16'];exact no (by rw[hmt];simp[hd16])
 ·have hlt':¬(k:Int) - n<=n:=ω;have hk2:k=2*n+1:=ω;simp[go_sem,hlt'];have hG':fN x b n num den k=G:=by rw[hk2];exact hG
  rw[hG'];have hF':F=(x.ms.map (·.id)).filter has:=by rw[<- hF,aAp,hrd,<- hk2];exact List.filter_congr λa _=>(hhas a).symm
  refine bH (GSt.adoptBox 5 0 3 1 (λi j=>.r (iZ [] i j)) (by rfl) (by rfl) δ) ?_;refine bF aD (α:=Nat) (λk=>[(4,.ptr 0 0 9 0),(8,.ptr 3 0 2 0),(9,.i 0),(15,.ptr 5 0 2 0),(16,.mp 6),(158,xA x.ms),(159,.i x.ms.length),(160,.i k)])
   (λk=>[some (.box [xA x.ms,cN (x.ch 0),cN (x.ch 1),cN (x.ch 2),cN (x.ch 3),cN (x.ch 4),cN (x.ch 5),cN (x.ch 6),cN (x.ch 7)]),none,none,some (.box [aM,.i 0]),none,some (.box [.sl 7 1 0 (fL x.ms has k).length none,.i G]),some (.map has (λ_=>.b true) none),some (.vec 3 1 (fL x.ms has k).length λi j=>.r (iZ (fL x.ms has k) i j))]) 8
   (λk=>k<=x.ms.length) (λk=>x.ms.length - k) 0 (λ_=>rfl) τ ζ (by simp[go_sem,aVa]) ?_
  clear hk hlt hlt' hk2 hG' hhas;intro k J hk;by_cases hlt:k<x.ms.length
  ·obtain⟨a,ha⟩:∃a,x.ms[k]=a:=⟨_,rfl⟩;have r0:gG x.ms k 0=a.f 0:=by rw[mrow hlt,ha]
   have r1:gG x.ms k 1=a.f 1:=by rw[mrow hlt,ha]
   have r2:gG x.ms k 2=a.f 2:=by rw[mrow hlt,ha]
   have hs:=aWu (has:=has) hlt;rw[ha] at hs;have hLl:=aZ3 x.ms has k;simp[go_sem,hlt,r0,r1,r2]
   cases hq:has a.id
   ·rw[hq] at hs;simp[go_sem,TI.zeroV];refine⟨ω,k+1,ω,ω,ω,?_⟩;rw[hs];simp
   ·rw[hq] at hs;simp[go_sem];refine⟨⟨ω,ω⟩,ω,k+1,ω,ω,ω,?_⟩;rw[hs];simp;intro i hi;unfold aI iZ cG;by_cases h1:i<(fL x.ms has k).length
    ·rw[if_pos h1,List.getElem?_append_left h1];rfl
    ·have h2:i - (fL x.ms has k).length=0:=ω;rw[if_neg h1,if_pos ω,List.getElem?_append_right ω,h2];rfl
  ·have hk3:k=x.ms.length:=ω;subst hk3;have hF2:fL x.ms has x.ms.length=F:=by rw[bA2];exact hF'.symm
   simp[go_sem,hF2]
end Go.Gx.Ix
