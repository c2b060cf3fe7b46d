/-
 Texts of the walk, merged: Qs Qh.
-/
import Derived.Test.YtncccnmmjfapnaaGreatZap
import Derived.Test.YtncccnmmjfapnaaGreatZav
import Derived.Test.YtncccnmmjfapnaaGreatZxm
import Derived.Test.YtncccnmmjfapnaaGreatZax
set_option linter.unusedVariables false
set_option linter.unusedSimpArgs false
set_option maxRecDepth 100000
set_option maxHeartbeats 4000000
namespace Go.Gx.Sr
open Go.RowKit Go.Proofs Go.Proofs.YtncccnmmjfapnaaGreat Go.Gx.Ix
def SzG (g:EG) (n:Nat):Prop:=g.nr<=n/\g.nl<=n/\g.nc<=n/\∀i,i<g.nc->(g.c i).nv<=n
def SzR (r:Rg.RG) (n:Nat):Prop:=r.nr<=n/\r.nc<=n/\r.nw<=n/\r.nm<=n/\∀i,i<r.nr->(r.r i).byte
def Sz (x:SvG) (n:Nat):Prop:=SzG x.g n/\SzR x.r n/\x.ir.length<=n/\x.ch.length<=n/\x.ks.length<=n/\x.lg.length<=n
theorem Sz.ok {x:SvG} (h:Sz x 1000):x.OK:=by
 obtain⟨⟨a1,a2,a3,a4⟩,⟨b1,b2,b3,b4,b5⟩,c1,c2,c3,c4⟩:=h;exact⟨⟨a1,a2,a3,a4⟩,⟨ω,ω,ω,ω,b5⟩,ω,ω,ω,ω,ω,ω,ω,ω⟩
theorem SzG.up {g:EG} (h:SzG g 400):SzG g 1000:=by
 obtain⟨a1,a2,a3,a4⟩:=h;exact⟨ω,ω,ω,λi hi=>by have:=a4 i hi;omega⟩
theorem SzR.up {r:Rg.RG} (h:SzR r 400):SzR r 1000:=by
 obtain⟨a1,a2,a3,a4,a5⟩:=h;exact⟨ω,ω,ω,ω,a5⟩
theorem Sz.up {x:SvG} (h:Sz x 400):Sz x 1000:=by
 obtain⟨a,b,c1,c2,c3,c4⟩:=h;exact⟨a.up,b.up,ω,ω,ω,ω⟩
theorem yN {p:Nat->Bool} {n i:Nat} (h:i<(kept p n).length):(kept p n)[i]?.getD 0<n:=by
 rw[List.getElem?_eq_getElem h];exact List.mem_range.1 (List.mem_filter.1 (List.getElem_mem h)).1
theorem aX5 {g:EG} (h:SzG g 400) (o a b:Int) (s:Bool):SzG (g.voteG o a b s) 1000:=by
 obtain⟨a1,a2,a3,a4⟩:=h;have hp:g.cat (min a b) (max a b)<=g.nc:=Go.Gx.bnd_le;unfold EG.voteG;generalize g.cat (min a b) (max a b)=p at hp ⊢;split
 ·refine⟨by show g.nr<=1000;omega,by show g.nl<=1000;omega,by show g.nc+1<=1000;omega,λi hi=>?_⟩;have hi:i<g.nc+1:=hi;show(if i<p then g.c i else if i=p then _ else g.c (i - 1)).nv<=1000;split
  ·have:=a4 i ω;omega
  ·split
   ·show 1<=1000;omega
   ·have:=a4 (i - 1) ω;omega
 ·split
  ·refine⟨by show g.nr<=1000;omega,by show g.nl<=1000;omega,by show g.nc<=1000;omega,λi hi=>?_⟩;have hi:i<g.nc:=hi;show(if i=p then (g.c p).addV _ else g.c i).nv<=1000;have:=a4 i hi;split
   ·rename_i e;subst e;show(g.c i).nv+1<=1000;omega
   ·omega
  ·refine⟨by show g.nr<=1000;omega,by show g.nl+1<=1000;omega,by show g.nc - 1<=1000;omega,λi hi=>?_⟩;have hi:i<g.nc - 1:=hi;show(if i<p then g.c i else g.c (i+1)).nv<=1000;split
   ·have:=a4 i ω;omega
   ·have:=a4 (i+1) ω;omega
theorem bBk {x:SvG} (h:Sz x 400) (a:Int):Sz (x.rem a) 1000:=by
 obtain⟨⟨a1,a2,a3,a4⟩,⟨b1,b2,b3,b4,b5⟩,c1,c2,c3,c4⟩:=h;have k1:=kept_le (x.g.lp a.toNat) x.g.nl;have k2:=kept_le (x.g.cp a.toNat) x.g.nc;have k3:=Rg.kept_le (λi=>decide ((x.r.c i).p=a)) x.r.nc;have k4:=Rg.kept_le (λi=>decide ((x.r.w i).p=a)) x.r.nw;have k5:=Rg.kept_le (λi=>decide ((x.r.m i).p=a)) x.r.nm;refine⟨⟨Nat.le_trans a1 δ,Nat.le_trans k1 ω,Nat.le_trans k2 ω,λi hi=>Nat.le_trans (a4 _ (yN hi)) δ⟩,⟨Nat.le_trans b1 δ,Nat.le_trans k3 ω,Nat.le_trans k4 ω,Nat.le_trans k5 ω,b5⟩,?_,?_,?_,?_⟩
 ·show(x.ir.set _ _).length<=1000;rw[List.length_set];omega
 ·exact Nat.le_trans (List.length_filter_le _ _) ω
 ·show(x.ks.map _).length<=1000;rw[List.length_map];omega
 ·show(x.lg.map _).length<=1000;rw[List.length_map];omega
theorem aSq (f:Bool) (n:Nat):Rg.plN f n<=n+1:=by unfold Rg.plN;split <;> omega
theorem aIa (o:OrG):∀(L:List Int) (x:SvG) (h:List HtG),∃l,(nZ x o L h).1={x with lg:=l}/\l.length<=x.lg.length+L.length/\(nZ x o L h).2.h.length<=h.length+L.length
 | [],x,h=>⟨x.lg,rfl,Nat.le_refl _,Nat.le_refl _⟩
 | a::L,x,h=>by
   unfold nZ;dsimp only;split
   ·split
    ·exact⟨x.lg,rfl,τ,by simp[bad]⟩
    ·obtain⟨l,e1,e2,e3⟩:=aIa o L (x.put 2 a {gR x (x.eye a) o.x with r:=((x.r.apq (qAt o.q a x.now)).headD 0:Nat)} o.s) (h++[⟨a,x.r.aL (qAt o.q a x.now),x.r.aO (qAt o.q a x.now),x.r.aS (qAt o.q a x.now),x.r.aN (qAt o.q a x.now)⟩]);refine⟨l,by rw[e1];rfl,?_,?_⟩
     ·simp[SvG.put] at e2 ⊢;omega
     ·simp at e3 ⊢;omega
   ·obtain⟨l,e1,e2,e3⟩:=aIa o L x h;exact⟨l,e1,ι,ι⟩
theorem aP1 {x:SvG} (h:Sz x 400) (k a:Int) (r:RsG) (s:W64):Sz (sJ x k a r s).1 1000/\(sJ x k a r s).2.h.length<=400:=by
 unfold sJ;split
 ·exact⟨h.up,Nat.zero_le _⟩
 ·obtain⟨u1,u2,u3,u4,u5,u6⟩:=h.up;exact⟨⟨u1,u2,u3,u4,u5,by have:=h.2.2.2.2.2;show(x.lg++[_]).length<=1000;simp;omega⟩,Nat.zero_le _⟩
theorem aZ4 {x:SvG} (h:Sz x 400) {o:OrG} (hb:o.rl.byte):Sz (fH x o).1 1000/\(fH x o).2.h.length<=400:=by
 have hu:=h.up;obtain⟨u1,u2,u3,u4,u5,u6⟩:=h.up;obtain⟨⟨a1,a2,a3,a4⟩,⟨b1,b2,b3,b4,b5⟩,c1,c2,c3,c4⟩:=h;unfold fH;by_cases k1:o.k=1
 ·rw[if_pos k1];unfold qW;(repeat' split) <;> exact⟨hu,Nat.zero_le _⟩
 rw[if_neg k1];by_cases k2:o.k=2
 ·rw[if_pos k2];unfold jZ;split
  ·split
   ·rename_i e;refine⟨⟨?_,u2,?_,u4,u5,u6⟩,Nat.zero_le _⟩
    ·show SzG (x.g.addX o.n) 1000;unfold EG.addX;rw[if_pos e];exact⟨by show x.g.nr+1<=1000;omega,u1.2⟩
    ·show(x.ir++[o.x]).length<=1000;simp;omega
   ·exact⟨hu,Nat.zero_le _⟩
  ·exact⟨hu,Nat.zero_le _⟩
 rw[if_neg k2];by_cases k3:o.k=3
 ·rw[if_pos k3];unfold pL;split
  ·rename_i e;refine⟨⟨?_,u2,u3,u4,u5,u6⟩,Nat.zero_le _⟩;show SzG (x.g.voteX o.n o.a o.b o.f) 1000;unfold EG.voteX;rw[if_pos e];exact aX5 ⟨a1,a2,a3,a4⟩ _ _ _ _
  ·exact⟨hu,Nat.zero_le _⟩
 rw[if_neg k3];by_cases k4:o.k=4
 ·rw[if_pos k4];unfold wdM;split
  ·rename_i e;refine⟨⟨?_,u2,u3,u4,u5,u6⟩,Nat.zero_le _⟩;show SzG (x.g.wdX o.a o.b) 1000;unfold EG.wdX;rw[if_pos e];exact⟨u1.1,by show x.g.nl - 1<=1000;omega,u1.2.2⟩
  ·exact⟨hu,Nat.zero_le _⟩
 rw[if_neg k4];by_cases k5:o.k=5
 ·rw[if_pos k5];unfold aAw;split
  ·exact⟨bBk ⟨⟨a1,a2,a3,a4⟩,⟨b1,b2,b3,b4,b5⟩,c1,c2,c3,c4⟩ _,Nat.zero_le _⟩
  ·exact⟨hu,Nat.zero_le _⟩
 rw[if_neg k5];by_cases k6:o.k=6
 ·rw[if_pos k6];unfold pG
  (repeat' split) <;> first | exact⟨hu,Nat.zero_le _⟩ | refine⟨⟨u1,⟨by show x.r.nr+1<=1000;omega,u2.2.1,u2.2.2.1,u2.2.2.2.1,λi hi=>?_⟩,u3,u4,u5,u6⟩,Nat.zero_le _⟩
  have hi:i<x.r.nr+1:=hi;show(if i<x.r.nr then x.r.r i else o.rl).byte;split
  ·rename_i e;exact b5 i e
  ·exact hb
 rw[if_neg k6];by_cases k7:o.k=7
 ·rw[if_pos k7];unfold aAa
  (repeat' split) <;> first | exact⟨hu,Nat.zero_le _⟩ | exact⟨⟨u1,⟨u2.1,u2.2.1,by show x.r.nw+1<=1000;omega,u2.2.2.2⟩,u3,u4,u5,u6⟩,Nat.zero_le _⟩
 rw[if_neg k7];by_cases k8:o.k=8
 ·rw[if_pos k8];unfold xJ
  (repeat' split) <;> first | exact⟨hu,Nat.zero_le _⟩ | exact⟨⟨u1,⟨u2.1,Nat.le_trans (aSq _ _) ω,u2.2.2⟩,u3,u4,u5,u6⟩,Nat.zero_le _⟩
 rw[if_neg k8];by_cases k9:o.k=9
 ·rw[if_pos k9];unfold putM
  (repeat' split) <;> first | exact⟨hu,Nat.zero_le _⟩ | exact⟨⟨u1,⟨u2.1,u2.2.1,u2.2.2.1,Nat.le_trans (aSq _ _) ω,u2.2.2.2.2⟩,u3,u4,u5,u6⟩,Nat.zero_le _⟩
 rw[if_neg k9];by_cases k10:o.k=10
 ·rw[if_pos k10];unfold aAh
  (repeat' split) <;> first | exact⟨hu,Nat.zero_le _⟩ | exact⟨⟨u1,u2,u3,by show(x.ch++[_]).length<=1000;simp;omega,u5,u6⟩,Nat.zero_le _⟩
 rw[if_neg k10];by_cases k11:o.k=11
 ·rw[if_pos k11];unfold zU
  (repeat' split) <;> first | exact⟨hu,Nat.zero_le _⟩ | exact⟨⟨u1,u2,u3,u4,by show(x.ks.take _++_::x.ks.drop _).length<=1000;simp;omega,u6⟩,Nat.zero_le _⟩
 have hs:Sz x 400:=⟨⟨a1,a2,a3,a4⟩,⟨b1,b2,b3,b4,b5⟩,c1,c2,c3,c4⟩;rw[if_neg k11];by_cases k12:o.k=12
 ·rw[if_pos k12];unfold aA1
  (repeat' split) <;> first | exact⟨hu,Nat.zero_le _⟩ | exact aP1 hs _ _ _ _
 rw[if_neg k12];by_cases k13:o.k=13
 ·rw[if_pos k13];unfold nR
  (repeat' split) <;> first | exact⟨hu,Nat.zero_le _⟩ | skip
  obtain⟨l,e1,e2,e3⟩:=aIa o (fdI x.mbs o.x x.turns x.num x.den) x [];have h1:=bAd x.mbs o.x x.turns x.num x.den;have h2:x.mbs.length<=x.ir.length:=x.mbK_le x.ir.length;rw[e1];exact⟨⟨u1,u2,u3,u4,u5,by show l.length<=1000;omega⟩,by simp at e3;omega⟩
 ·rw[if_neg k13];unfold yB;dsimp only
  (repeat' split) <;> first | exact⟨hu,Nat.zero_le _⟩ | exact aP1 hs _ _ _ _
theorem bBv {x:SvG} (h:Sz x 400) {o:OrG} (hb:o.rl.byte):Sz (stX x o) 1000/\(stA x o).h.length<=400:=by
 have:=aZ4 h hb;unfold stX stA;split
 ·exact this
 ·exact⟨h.up,Nat.zero_le _⟩
theorem aXo (x:SvG) (o:OrG) (hx:x.OK) (ho:o.Sm):PureW Tryz.prog 18 [x.sv,o.sv] λm=>.tup [.agg (SV.tagL true m (if pK x o=0 then stX x o else SvG.zero).cells),(if pK x o=0 then stA x o else AnG.zero).sv,.i (pK x o)]:=
 (aXp x o hx ho).le λm σ Z w y hy=>by
   by_cases h:pK x o=0
   ·rw[if_pos h] at hy ⊢;exact hy
   ·rw[if_neg h] at hy ⊢;obtain⟨vs,e,v1,vs1,e1,h1,h2⟩:=hy;refine⟨vs,e,v1,vs1,e1,?_,h2⟩;obtain⟨ws,q1,q2,q3⟩:=h1;refine⟨ws,q1,q2,?_⟩;obtain⟨u0,r0,e0,g0,u1,r1,e1,g1,u2,r2,e2,g2,u3,r3,e3,g3,u4,r4,e4,g4,u5,r5,e5,g5,u6,r6,e6,g6,u7,r7,e7,g7,u8,r8,e8,g8,u9,r9,e9,g9,u10,r10,e10,g10,u11,r11,e11,g11,u12,r12,e12,g12,u13,r13,e13,g13,u14,r14,e14,g14,u15,r15,e15,g15,u16,r16,e16,g16,g17⟩:=q3;exact⟨u0,r0,e0,g0,u1,r1,e1,g1,u2,r2,e2,g2,u3,r3,e3,g3,u4,r4,e4,g4,u5,r5,e5,g5,u6,r6,e6,RV.nil_tag g6,u7,r7,e7,RV.nil_tag g7,u8,r8,e8,RV.nil_tag g8,u9,r9,e9,RV.nil_tag g9,u10,r10,e10,RV.nil_tag g10,u11,r11,e11,RV.nil_tag g11,u12,r12,e12,RV.nil_tag g12,u13,r13,e13,RV.nil_tag g13,u14,r14,e14,RV.nil_tag g14,u15,r15,e15,RV.nil_tag g15,u16,r16,e16,RV.nil_tag g16,g17⟩
theorem aVz {x:SvG} (h:x.great=false):x.g.great=false:=by
 unfold SvG.great at h;simp only [Bool.or_eq_false_iff] at h;exact h.1.1.1.1.1
theorem aV0 {x:SvG} (h:x.great=false):x.r.nr<=400/\x.r.nc<=400/\x.r.nw<=400/\x.r.nm<=400:=by
 unfold SvG.great at h;simp only [Bool.or_eq_false_iff] at h;have:=h.1.1.1.1.2;simp[Rg.RG.great] at this;omega
def B7 (x:SvG) (o:OrG) (p:Nat × Nat) (M:Mem) (nx:Nat):Prop:=(p=(2,3)\/p=(3,2))/\nx=4/\M 0=some (.box x.cells)/\M 1=some (.box o.cells)/\M p.1=some (.box x.cells)/\M p.2=some (.box o.cells)
def F7 (m:Nat) (x:SvG) (o:OrG) (X:SvG) (p q:Nat) (M:Mem):Prop:=M 0=some (.box (SV.tagL false m x.cells))/\M 1=some (.box (SV.tagL false m o.cells))/\M p=some (.box (SV.tagL false m x.cells))/\M q=some (.box (SV.tagL false m o.cells))/\M 5=some (.box (SV.fgtL m (SV.tagL true m X.cells)))
theorem aXm (o:OrG):soR o o:=⟨rfl,rfl,rfl,rfl,rfl,rfl,rfl,rfl,rfl,rfl,rfl,by simp[Rg.QG.same,Rg.QG.sk]⟩
theorem F7.fgt {m:Nat} {x:SvG} {o:OrG} {X:SvG} {p q:Nat} {M:Mem} (h:F7 m x o X p q M):F7 m x o X p q (aFj m M):=by
 obtain⟨h1,h2,h3,h4,h5⟩:=h;have key:∀(r:Nat) (l:List SV),M r=some (.box l)->SV.fgtL m l=l->aFj m M r=some (.box l):=λr l h e=>by
  unfold aFj;rw[h];show some (Reg.box (SV.fgtL m l))=_;rw[e]
 exact⟨key _ _ h1 ζ,key _ _ h2 ζ,key _ _ h3 ζ,key _ _ h4 ζ,key _ _ h5 ζ⟩
theorem bI2 (x:SvG) (o:OrG) (hr:x.r.By) (hb:o.rl.byte):PureK Tryz.prog 7 [x.sv,o.sv] (· =.b true):=by
 refine aGa aD Tryz.func7 rfl κ ν rfl rfl λh0=>?_;simp[go_sem];refine aA (aVx x) rfl rfl ?_
 cases hg:x.great
 rotate_left
 ·simp[go_sem]
 simp[go_sem];refine aA (aVy o) rfl rfl ?_
 cases hgo:o.great
 rotate_left
 ·simp[go_sem]
 obtain⟨hx,x30,x100⟩:=SvG.OK_of hr hg;have ho:o.Sm:=OrG.sm_of hb hgo;have hnk:o.q.nk<=20:=by
  unfold OrG.great at hgo;have:=of_decide_eq_false hgo;omega
 have r1:=aXo x o hx ho;have r2:=bBw x o hx ho;have hX:(if pK x o=0 then stX x o else SvG.zero).OK/\(if pK x o=0 then stA x o else AnG.zero).h.length<=400:=by
  split
  ·obtain⟨g1,g2,g3,g4⟩:x.g.nr<=30/\x.g.nl<=60/\x.g.nc<=45/\∀i,i<x.g.nc->(x.g.c i).nv<=5:=(EG.OK_of (aVz hg)).2;obtain⟨r1,r2,r3,r4⟩:=aV0 hg;have h:=bBv (x:=x) ⟨⟨ω,ω,ω,λi hi=>by have:=g4 i hi;omega⟩,⟨ω,ω,ω,ω,hr⟩,ω,ω,ω,ω⟩ hb;exact⟨h.1.ok,h.2⟩
  ·exact⟨SvG.zero_ok,Nat.zero_le _⟩
 obtain⟨X,hXe⟩:∃X,(if pK x o=0 then stX x o else SvG.zero)=X:=⟨_,rfl⟩;obtain⟨A,hAe⟩:∃A,(if pK x o=0 then stA x o else AnG.zero)=A:=⟨_,rfl⟩;obtain⟨E,hEe⟩:∃E,pK x o=E:=⟨_,rfl⟩;rw[hXe,hAe] at hX;rw[hXe,hAe,hEe] at r1 r2;obtain⟨o1,o2⟩:=hX;have b1:=o1.ir;have b2:=o1.lg;have b3:=o1.ks;have b4:=o1.ch;have b5:=o1.g.nr;have b6:=o1.rm;have sX:=aS9 X X o1 o1;rw[SvG.same_rfl] at sX;have sO:=vK o o ω ω true ⟨λ_=>aXm o,λ_=>rfl⟩;have sx:=aS9 x x hx hx;rw[SvG.same_rfl] at sx;simp[go_sem];refine wY (α:=Nat × Nat) (λp=>[(2,.ptr 0 0 17 0),(3,.ptr 1 0 34 0),(5,.ptr p.1 0 17 0),(6,.ptr p.2 0 34 0)]) (B7 x o) ?_ ?_
 ·refine aM (t:=(.take 0 (.take 2 (.alt 1 [2,0] (.alt 3 [2] (.alt 4 [2] (.alt 5 [2] (.alt 6 [2] (.done []) .nil) .nil) .nil) (.alt 4 [2] (.alt 3 [2] (.alt 5 [2] (.alt 6 [2] (.done []) .nil) .nil) .nil) .nil)) (.alt 3 [2,0] (.alt 1 [2,0] (.alt 4 [2] (.alt 5 [2] (.alt 6 [2] (.done []) .nil) .nil) .nil) (.alt 4 [2,0] (.alt 1 [2,0] (.alt 5 [2] (.alt 6 [2] (.done []) .nil) .nil) .nil) .nil)) (.alt 4 [2,0] (.alt 1 [2,0] (.alt 3 [2] (.alt 5 [2] (.alt 6 [2] (.done []) .nil) .nil) .nil) (.alt 3 [2,0] (.alt 1 [2,0] (.alt 5 [2] (.alt 6 [2] (.done []) .nil) .nil) .nil) .nil)) .nil)))))) aD κ κ κ (λ_ _ _ _ h=>h) ?_;simp[go_sem]
  repeat' (first | refine And.intro ?_ ?_ | (refine aA (aXv x hx) rfl rfl ?_;simp[go_sem,B7]))
  all_goals
   refine⟨_,_,⟨rfl,rfl⟩,τ,?_⟩;simp
 rintro⟨p,q⟩ J M nx ⟨hp,rfl,m0,m1,m2,m3⟩;dsimp only at m2 m3;simp only [Prod.mk.injEq] at hp;have hpq:2<=p/\p<=3/\2<=q/\q<=3/\¬p=q:=ω;have pf0:¬p=0:=ω;have pf0':¬0=p:=ω;have pf1:¬p=1:=ω;have pf1':¬1=p:=ω;have pf4:¬p=4:=ω;have pf4':¬4=p:=ω;have pf5:¬p=5:=ω;have pf5':¬5=p:=ω;have pf6:¬p=6:=ω;have pf6':¬6=p:=ω;have pf7:¬p=7:=ω;have pf7':¬7=p:=ω;have pf8:¬p=8:=ω;have pf8':¬8=p:=ω;have qf0:¬q=0:=ω;have qf0':¬0=q:=ω;have qf1:¬q=1:=ω;have qf1':¬1=q:=ω;have qf4:¬q=4:=ω;have qf4':¬4=q:=ω;have qf5:¬q=5:=ω;have qf5':¬5=q:=ω;have qf6:¬q=6:=ω;have qf6':¬6=q:=ω;have qf7:¬q=7:=ω;have qf7':¬7=q:=ω;have qf8:¬q=8:=ω;have qf8':¬8=q:=ω;have pqf:¬p=q:=ω;have qpf:¬q=p:=ω;simp[go_sem,m0,m1,m2,m3,pf0,pf0',pf1,pf1',pf4,pf4',pf5,pf5',pf6,pf6',pf7,pf7',pf8,pf8',qf0,qf0',qf1,qf1',qf4,qf4',qf5,qf5',qf6,qf6',qf7,qf7',qf8,qf8',pqf,qpf];refine⟨⟨ω,ω⟩,?_⟩;refine aL5 4 (.vec 3 1 o.q.nk λi j=>.r (.i (o.q.k i))) (by simp[go_sem,pf0,pf0',pf1,pf1',pf4,pf4',pf5,pf5',pf6,pf6',pf7,pf7',pf8,pf8',qf0,qf0',qf1,qf1',qf4,qf4',qf5,qf5',qf6,qf6',qf7,qf7',qf8,qf8',pqf,qpf];rfl) (Reg.wk_vec (Nat.le_refl _) λi j hi hj=>?_) ?_
 ·simp[go_sem,aJ,hi]
 refine aC 4 (by simp[go_sem,pf0,pf0',pf1,pf1',pf4,pf4',pf5,pf5',pf6,pf6',pf7,pf7',pf8,pf8',qf0,qf0',qf1,qf1',qf4,qf4',qf5,qf5',qf6,qf6',qf7,qf7',qf8,qf8',pqf,qpf];rfl) ?_;simp[go_sem,pf0,pf0',pf1,pf1',pf4,pf4',pf5,pf5',pf6,pf6',pf7,pf7',pf8,pf8',qf0,qf0',qf1,qf1',qf4,qf4',qf5,qf5',qf6,qf6',qf7,qf7',qf8,qf8',pqf,qpf];refine aL3 (h0:=h0) r1 (λh=>h) (λ_ _ _ h=>Nat.le_of_eq h.1.symm) rfl (λm=>rfl) λm hm=>?_;simp[go_sem,m0,m1,m2,m3,pf0,pf0',pf1,pf1',pf4,pf4',pf5,pf5',pf6,pf6',pf7,pf7',pf8,pf8',qf0,qf0',qf1,qf1',qf4,qf4',qf5,qf5',qf6,qf6',qf7,qf7',qf8,qf8',pqf,qpf];refine jV (aA r2 rfl rfl ?_);simp[go_sem,m0,m1,m2,m3,pf0,pf0',pf1,pf1',pf4,pf4',pf5,pf5',pf6,pf6',pf7,pf7',pf8,pf8',qf0,qf0',qf1,qf1',qf4,qf4',qf5,qf5',qf6,qf6',qf7,qf7',qf8,qf8',pqf,qpf];refine jV (aA sX rfl rfl ?_);simp[go_sem,pf0,pf0',pf1,pf1',pf4,pf4',pf5,pf5',pf6,pf6',pf7,pf7',pf8,pf8',qf0,qf0',qf1,qf1',qf4,qf4',qf5,qf5',qf6,qf6',qf7,qf7',qf8,qf8',pqf,qpf];refine jV (aA (aD2 A ω) rfl rfl ?_);simp[go_sem,pf0,pf0',pf1,pf1',pf4,pf4',pf5,pf5',pf6,pf6',pf7,pf7',pf8,pf8',qf0,qf0',qf1,qf1',qf4,qf4',qf5,qf5',qf6,qf6',qf7,qf7',qf8,qf8',pqf,qpf];refine mG aD (GSt.un1 64) ?_;simp[go_sem,yG,dU];refine bK (GSt.box 5 (l':=SV.fgtL m (SV.tagL true m X.cells)) ζ λσ Z w ys h=>SV.relL_fgt0 _ _ h) ?_;refine dW aD (α:=Nat) (λk=>[(2,.ptr 0 0 17 0),(3,.ptr 1 0 34 0),(5,.ptr p 0 17 0),(6,.ptr q 0 34 0),(7,.ptr 5 0 17 0),(13,.b true),(65,.i X.ir.length),(66,.i k)])
  (λk M nx=>k<=X.ir.length/\5<nx/\F7 m x o X p q M) (λk=>X.ir.length - k) 0 ?_ ?_ ?_
 ·refine⟨Nat.zero_le _,τ,?_⟩;unfold F7;simp[go_sem,m0,m1,m2,m3,pf0,pf0',pf1,pf1',pf4,pf4',pf5,pf5',pf6,pf6',pf7,pf7',pf8,pf8',qf0,qf0',qf1,qf1',qf4,qf4',qf5,qf5',qf6,qf6',qf7,qf7',qf8,qf8',pqf,qpf]
 ·simp[go_sem,pf0,pf0',pf1,pf1',pf4,pf4',pf5,pf5',pf6,pf6',pf7,pf7',pf8,pf8',qf0,qf0',qf1,qf1',qf4,qf4',qf5,qf5',qf6,qf6',qf7,qf7',qf8,qf8',pqf,qpf]
 rintro k J M nx _ ⟨hk,hnx,hF⟩;have h5:=hF.2.2.2.2;simp only [go_sem] at h5;by_cases hlt:k<X.ir.length
 ·simp[go_sem,hlt,h5];refine jL aD bJu bGq rfl rfl rfl ω ω ζ ?_;simp[go_sem];refine jK aD bGq rfl rfl δ ζ ?_;simp[go_sem];refine gO aD (h0:=h0) bJs rfl rfl rfl δ ω δ trivial rfl hm ?_;simp[go_sem];exact⟨⟨ω,ω⟩,k+1,ω,ω,ω,hnx,hF.fgt⟩
 obtain rfl:k=X.ir.length:=ω;simp[go_sem,h5];refine mG aD (GSt.un1 76) ?_;simp[go_sem,yG,dU];refine dW aD (α:=Nat) (λk=>[(2,.ptr 0 0 17 0),(3,.ptr 1 0 34 0),(5,.ptr p 0 17 0),(6,.ptr q 0 34 0),(7,.ptr 5 0 17 0),(13,.b true),(77,.i X.lg.length),(78,.i k)])
  (λk M nx=>k<=X.lg.length/\5<nx/\F7 m x o X p q M) (λk=>X.lg.length - k) 0 ?_ ?_ ?_
 ·exact⟨Nat.zero_le _,ω,hF⟩
 ·simp[go_sem,pf0,pf0',pf1,pf1',pf4,pf4',pf5,pf5',pf6,pf6',pf7,pf7',pf8,pf8',qf0,qf0',qf1,qf1',qf4,qf4',qf5,qf5',qf6,qf6',qf7,qf7',qf8,qf8',pqf,qpf]
 rintro k J M nx _ ⟨hk,hnx,hF⟩;have h5:=hF.2.2.2.2;simp only [go_sem] at h5;by_cases hlt:k<X.lg.length
 ·simp[go_sem,hlt,h5];refine jL aD bJy bGs rfl rfl rfl ω ω ζ ?_;simp[go_sem];refine jK aD bGs rfl rfl δ ζ ?_;simp[go_sem];refine gO aD (h0:=h0) ti3 rfl rfl rfl δ ω δ trivial rfl hm ?_;simp[go_sem];exact⟨⟨ω,ω⟩,k+1,ω,ω,ω,hnx,hF.fgt⟩
 obtain rfl:k=X.lg.length:=ω;simp[go_sem,h5];refine mG aD (GSt.un1 88) ?_;simp[go_sem,yG,dU];refine dW aD (α:=Nat) (λk=>[(2,.ptr 0 0 17 0),(3,.ptr 1 0 34 0),(5,.ptr p 0 17 0),(6,.ptr q 0 34 0),(7,.ptr 5 0 17 0),(13,.b true),(89,.i X.ks.length),(90,.i k)])
  (λk M nx=>k<=X.ks.length/\5<nx/\F7 m x o X p q M) (λk=>X.ks.length - k) 0 ?_ ?_ ?_
 ·exact⟨Nat.zero_le _,ω,hF⟩
 ·simp[go_sem,pf0,pf0',pf1,pf1',pf4,pf4',pf5,pf5',pf6,pf6',pf7,pf7',pf8,pf8',qf0,qf0',qf1,qf1',qf4,qf4',qf5,qf5',qf6,qf6',qf7,qf7',qf8,qf8',pqf,qpf]
 rintro k J M nx _ ⟨hk,hnx,hF⟩;have h5:=hF.2.2.2.2;simp only [go_sem] at h5;by_cases hlt:k<X.ks.length
 ·simp[go_sem,hlt,h5];refine jL aD bJx aYz rfl rfl rfl ω ω ζ ?_;simp[go_sem];refine jK aD aYz rfl rfl δ ζ ?_;simp[go_sem];refine gO aD (h0:=h0) ti3 rfl rfl rfl δ ω δ trivial rfl hm ?_;simp[go_sem];exact⟨⟨ω,ω⟩,k+1,ω,ω,ω,hnx,hF.fgt⟩
 obtain rfl:k=X.ks.length:=ω;simp[go_sem,h5];refine mG aD (GSt.un1 100) ?_;simp[go_sem,yG,dU];refine dW aD (α:=Nat) (λk=>[(2,.ptr 0 0 17 0),(3,.ptr 1 0 34 0),(5,.ptr p 0 17 0),(6,.ptr q 0 34 0),(7,.ptr 5 0 17 0),(13,.b true),(101,.i X.ch.length),(102,.i k)])
  (λk M nx=>k<=X.ch.length/\5<nx/\F7 m x o X p q M) (λk=>X.ch.length - k) 0 ?_ ?_ ?_
 ·exact⟨Nat.zero_le _,ω,hF⟩
 ·simp[go_sem,pf0,pf0',pf1,pf1',pf4,pf4',pf5,pf5',pf6,pf6',pf7,pf7',pf8,pf8',qf0,qf0',qf1,qf1',qf4,qf4',qf5,qf5',qf6,qf6',qf7,qf7',qf8,qf8',pqf,qpf]
 rintro k J M nx _ ⟨hk,hnx,hF⟩;have h5:=hF.2.2.2.2;simp only [go_sem] at h5;by_cases hlt:k<X.ch.length
 ·simp[go_sem,hlt,h5];refine jL aD bJw aY0 rfl rfl rfl ω ω ζ ?_;simp[go_sem];refine jK aD aY0 rfl rfl δ ζ ?_;simp[go_sem];refine gO aD (h0:=h0) ti3 rfl rfl rfl δ ω δ trivial rfl hm ?_;simp[go_sem];exact⟨⟨ω,ω⟩,k+1,ω,ω,ω,hnx,hF.fgt⟩
 obtain rfl:k=X.ch.length:=ω;simp[go_sem,h5];refine mG aD (GSt.un1 113) ?_;simp[go_sem,yG,dU];refine dW aD (α:=Nat) (λk=>[(2,.ptr 0 0 17 0),(3,.ptr 1 0 34 0),(5,.ptr p 0 17 0),(6,.ptr q 0 34 0),(7,.ptr 5 0 17 0),(13,.b true),(114,.i X.g.nr),(115,.i k)])
  (λk M nx=>k<=X.g.nr/\5<nx/\F7 m x o X p q M) (λk=>X.g.nr - k) 0 ?_ ?_ ?_
 ·exact⟨Nat.zero_le _,ω,hF⟩
 ·simp[go_sem,pf0,pf0',pf1,pf1',pf4,pf4',pf5,pf5',pf6,pf6',pf7,pf7',pf8,pf8',qf0,qf0',qf1,qf1',qf4,qf4',qf5,qf5',qf6,qf6',qf7,qf7',qf8,qf8',pqf,qpf]
 rintro k J M nx _ ⟨hk,hnx,hF⟩;have h5:=hF.2.2.2.2;simp only [go_sem] at h5;by_cases hlt:k<X.g.nr
 ·simp[go_sem,hlt,h5];refine jL aD bJt aY1 rfl rfl rfl ω ω ζ ?_;simp[go_sem];refine jK aD aY1 rfl rfl δ ζ ?_;simp[go_sem];refine gO aD (h0:=h0) ti3 rfl rfl rfl δ ω δ trivial rfl hm ?_;simp[go_sem];exact⟨⟨ω,ω⟩,k+1,ω,ω,ω,hnx,hF.fgt⟩
 obtain rfl:k=X.g.nr:=ω;simp[go_sem,h5];refine mG aD (GSt.un1 127) ?_;simp[go_sem,yG,dU];refine dW aD (α:=Nat) (λk=>[(2,.ptr 0 0 17 0),(3,.ptr 1 0 34 0),(5,.ptr p 0 17 0),(6,.ptr q 0 34 0),(7,.ptr 5 0 17 0),(13,.b true),(128,.i X.r.nm),(129,.i k)])
  (λk M nx=>k<=X.r.nm/\5<nx/\F7 m x o X p q M) (λk=>X.r.nm - k) 0 ?_ ?_ ?_
 ·exact⟨Nat.zero_le _,ω,hF⟩
 ·simp[go_sem,pf0,pf0',pf1,pf1',pf4,pf4',pf5,pf5',pf6,pf6',pf7,pf7',pf8,pf8',qf0,qf0',qf1,qf1',qf4,qf4',qf5,qf5',qf6,qf6',qf7,qf7',qf8,qf8',pqf,qpf]
 rintro k J M nx _ ⟨hk,hnx,hF⟩;have h5:=hF.2.2.2.2;simp only [go_sem] at h5;by_cases hlt:k<X.r.nm
 ·simp[go_sem,hlt,h5];refine jL aD bJv bGr rfl rfl rfl ω ω ζ ?_;simp[go_sem];refine jK aD bGr rfl rfl δ ζ ?_;simp[go_sem];refine gO aD (h0:=h0) ti3 rfl rfl rfl δ ω δ trivial rfl hm ?_;simp[go_sem];exact⟨⟨ω,ω⟩,k+1,ω,ω,ω,hnx,hF.fgt⟩
 obtain rfl:k=X.r.nm:=ω;simp[go_sem,h5];obtain⟨g0,g1,g2,g3,_⟩:=hF;simp[go_sem,g0,g1,g2,g3];refine jV (aA sx rfl rfl ?_);simp[go_sem,g0,g1,g2,g3];refine jV (aA sO rfl rfl ?_);simp[go_sem]
end Go.Gx.Sr
