/-
 Texts of the walk, merged: Qc Fw Fwo Fx Qd Hb Se Rg Rh Ri Rj Rk Rl Rm Rv Rw Rx Sa.
-/
import Derived.Test.YtncccnmmjfapnaaGreatZal
import Derived.Test.YtncccnmmjfapnaaGreatZah
import Derived.Test.YtncccnmmjfapnaaGreatZaj
import Derived.Test.YtncccnmmjfapnaaGreatZae
import Derived.Test.YtncccnmmjfapnaaGreatZak
set_option linter.unusedVariables false
set_option linter.unusedSimpArgs false
set_option maxRecDepth 100000
set_option maxHeartbeats 4000000
namespace Go.Gx
open Go.RowKit Go.Proofs Go.Proofs.YtncccnmmjfapnaaGreat
abbrev EG.vc (g:EG):Reg:=.vec 150 3 g.nc λi j=>.r ((g.c i).c j)
theorem aBe (n:Nat) (hn:n<=1000000) (get:Nat->Nat->RV):Pure Tryz.prog 138 [.r (.rs 2 n get)] (· =.r (.rs 2 n get)):=(clone117 n hn get).pure ζ
theorem qQ {g:EG} (h:g.Sm) (hv:g.valid=true):Own Tryz.prog 403 [] [g.sv] (.tup [.ptr 0 0 4 0,.i 0]) [g.kbox 2 3 4 1,g.dmap,g.vr,g.vl,g.vc]:=by
 refine γ Tryz.func403 ?_;have hr:=h.nr;have hl:=h.nl;have hc:=h.nc;simp[go_sem];refine aF [] (sU h.ok hv) τ rfl trivial ?_;simp[go_sem];refine aM (t:=(.take 0 (.take 1 (.take 2 (.take 3 (.take 4 (.take 6 (.take 7 (.take 9 (.take 10 (.alt 5 [10,9,7,6,4,3,2,1,0] (.alt 8 [10,9,7,6,3,2,1,0] (.alt 11 [10,9,6,3,2,1,0] (.take 12 (.take 13 (.take 14 (.alt 15 [14,13,12,9,6,3,2,1,0] (.take 16 (.take 17 (.take 18 (.alt 19 [18,17,16,13,12,9,6,2,1] (.take 20 (.take 21 (.take 22 (.alt 23 [22,21,20,17,16,9,2] (.done [21,20]) .nil)))) .nil)))) .nil)))) .nil) .nil) .nil))))))))))) aD κ κ κ (λ_ _ _ _ h=>h) ?_;simp[go_sem];refine aF [] (clone114 g.nr ω λi j=>(g.r i).c j) τ rfl trivial ?_;simp[go_sem];refine aF [] (clone115 g.nl ω λi j=>(g.l i).c j) τ rfl trivial ?_;simp[go_sem];refine aF [] (clone116 g.nc ω λi j=>(g.c i).c j) τ rfl trivial ?_;simp[go_sem];refine dW aD (α:=Nat) (λk=>[(4,.ptr 1 0 4 0),(41,.sl 5 3 0 g.nc none),(42,.i g.nc),(43,.i k)])
  (λk M nx=>k<=g.nc/\6<=nx/\M 1=some (g.kbox 3 4 5 2)/\M 2=some g.dmap/\M 3=some g.vr/\M 4=some g.vl/\∃G,M 5=some (.vec 150 3 g.nc G)/\∀i j,i<g.nc->j<3->G i j=.r ((g.c i).c j)) (λk=>g.nc - k) 0 ?_ ?_ ?_
 ·refine⟨Nat.zero_le _,τ,ζ,ζ,ζ,ζ,_,ζ,λi j hi hj=>rfl⟩
 ·simp[go_sem]
 rintro k J M nx _ ⟨hk,hnx,m1,m2,m3,m4,G,m5,hG⟩;by_cases hlt:k<g.nc;rotate_left
 ·simp[go_sem,hlt];refine⟨[1,2,3,4,5],τ,λN=>⟨ζ,?_⟩⟩;simp[go_sem,m1,m2,m3,m4,m5];exact hG
 have hvk:=h.nv k hlt;have g0:=hG k 0 hlt δ;have g1:=hG k 1 hlt δ;have g2:=hG k 2 hlt δ;have b0:∀a,a<=5->¬a=nx:=λa h=>ω;have b1:∀a,a<=5->¬nx=a:=λa h=>ω;simp[go_sem,hlt,m1,m2,m3,m4,m5,g0,g1,g2,b0,b1];refine aM (t:=(.take 0 (.take 1 (.take 2 (.take 3 (.take 4 (.take 5 (.take 6 (.take 7 (.alt 8 [7,6,5,4,3,2,1,0] (.take 9 (.take 10 (.alt 11 [10,9,6,5,4,3,2,1,0] (.done [9]) .nil))) .nil)))))))))) aD κ κ κ (λ_ _ _ _ h=>h) ?_;simp[go_sem,hlt,m1,m2,m3,m4,m5,g0,g1,g2,b0,b1];refine aA (aBe (g.c k).nv ω λi j=>((g.c k).v i).c j) rfl rfl ?_;simp[go_sem,hlt,m1,m2,m3,m4,m5,g0,g1,g2,b0,b1];refine⟨⟨ω,ω⟩,k+1,ω,ω,ω,ω,λi j hi hj=>?_⟩;by_cases e:i=k/\2<=j/\j<3
 ·obtain⟨rfl,h3,h4⟩:=e;obtain rfl:j=2:=ω;rw[if_pos ⟨rfl,h3,h4⟩];rfl
 ·rw[if_neg e];exact hG i j hi hj
def EG.ck (g:EG) (k b:Nat):Nat->Nat->SV:=λi j=>if i=k/\j=2 then .sl b 2 0 (g.c k).nv none else .r ((g.c i).c j)
theorem bF2 {g:EG} (h:g.Sm) (hv:g.valid=true) {c:Nat} (hcc:c<g.nc):Own Tryz.prog 403 [] [g.sv] (.tup [.ptr 0 0 4 0,.i 0]) [g.kbox 2 3 4 1,g.dmap,g.vr,g.vl,.vec 150 3 g.nc (g.ck c 5),g.ov c]:=by
 refine γ Tryz.func403 ?_;have hr:=h.nr;have hl:=h.nl;have hc:=h.nc;simp[go_sem];refine aF [] (sU h.ok hv) τ rfl trivial ?_;simp[go_sem];refine aM (t:=(.take 0 (.take 1 (.take 2 (.take 3 (.take 4 (.take 6 (.take 7 (.take 9 (.take 10 (.alt 5 [10,9,7,6,4,3,2,1,0] (.alt 8 [10,9,7,6,3,2,1,0] (.alt 11 [10,9,6,3,2,1,0] (.take 12 (.take 13 (.take 14 (.alt 15 [14,13,12,9,6,3,2,1,0] (.take 16 (.take 17 (.take 18 (.alt 19 [18,17,16,13,12,9,6,2,1] (.take 20 (.take 21 (.take 22 (.alt 23 [22,21,20,17,16,9,2] (.done [21,20]) .nil)))) .nil)))) .nil)))) .nil) .nil) .nil))))))))))) aD κ κ κ (λ_ _ _ _ h=>h) ?_;simp[go_sem];refine aF [] (clone114 g.nr ω λi j=>(g.r i).c j) τ rfl trivial ?_;simp[go_sem];refine aF [] (clone115 g.nl ω λi j=>(g.l i).c j) τ rfl trivial ?_;simp[go_sem];refine aF [] (clone116 g.nc ω λi j=>(g.c i).c j) τ rfl trivial ?_;simp[go_sem];refine dW aD (α:=Nat × Nat) (λs=>[(4,.ptr 1 0 4 0),(41,.sl 5 3 0 g.nc none),(42,.i g.nc),(43,.i s.1)])
  (λs M nx=>s.1<=g.nc/\6<=nx/\M 1=some (g.kbox 3 4 5 2)/\M 2=some g.dmap/\M 3=some g.vr/\M 4=some g.vl/\(∃G,M 5=some (.vec 150 3 g.nc G)/\∀i j,i<g.nc->j<3->G i j=if c<s.1 then g.ck c s.2 i j else .r ((g.c i).c j))/\(c<s.1->6<=s.2/\s.2<nx/\M s.2=some (g.ov c))) (λs=>g.nc - s.1) (0,0) ?_ ?_ ?_
 ·exact⟨Nat.zero_le _,τ,ζ,ζ,ζ,ζ,⟨λi j=>.r ((g.c i).c j),ζ,λi j hi hj=>τ⟩,λh=>absurd h (Nat.not_lt_zero _)⟩
 ·simp[go_sem]
 rintro⟨k,p⟩ J M nx _ ⟨hk,hnx,m1,m2,m3,m4,⟨G,m5,hG⟩,hp⟩;dsimp only at *;by_cases hlt:k<g.nc;rotate_left
 ·obtain rfl:k=g.nc:=ω;obtain⟨p1,p2,p3⟩:=hp hcc;simp[go_sem];refine⟨[1,2,3,4,5,p],ι,λN=>⟨ζ,?_⟩⟩;simp[go_sem,m1,m2,m3,m4,m5,p3];intro i j hi hj;rw[hG i j hi hj,if_pos hcc];unfold EG.ck;split
  ·simp[SV.ren]
  ·rfl
 have hvk:=h.nv k hlt;have b0:∀a,a<=5->¬a=nx:=λa h=>ω;have b1:∀a,a<=5->¬nx=a:=λa h=>ω;have hrow:∀j,j<3->G k j=.r ((g.c k).c j)\/(c<k/\k=c):=λj hj=>by
  rw[hG k j hlt hj];by_cases e:c<k
  ·rw[if_pos e];unfold EG.ck;rw[if_neg λh=>ω];exact .inl rfl
  ·rw[if_neg e];exact .inl rfl
 have g0:G k 0=.r ((g.c k).c 0):=(hrow 0 δ).resolve_right λh=>ω;have g1:G k 1=.r ((g.c k).c 1):=(hrow 1 δ).resolve_right λh=>ω;have g2:G k 2=.r ((g.c k).c 2):=(hrow 2 δ).resolve_right λh=>ω;simp[go_sem,hlt,m1,m2,m3,m4,m5,g0,g1,g2,b0,b1];refine aM (t:=(.take 0 (.take 1 (.take 2 (.take 3 (.take 4 (.take 5 (.take 6 (.take 7 (.alt 8 [7,6,5,4,3,2,1,0] (.take 9 (.take 10 (.alt 11 [10,9,6,5,4,3,2,1,0] (.done [9]) .nil))) .nil)))))))))) aD κ κ κ (λ_ _ _ _ h=>h) ?_;simp[go_sem,hlt,m1,m2,m3,m4,m5,g0,g1,g2,b0,b1];by_cases hkc:k=c
 ·subst hkc;refine aF [] (clone117 (g.c k).nv ω λi j=>((g.c k).v i).c j) τ rfl trivial ?_;have d0:∀a,a<=5->¬a=nx+1:=λa h=>ω;have d1:∀a,a<=5->¬nx+1=a:=λa h=>ω;simp[go_sem,hlt,m1,m2,m3,m4,m5,g0,g1,g2,b0,b1,d0,d1];refine⟨⟨ω,ω⟩,k+1,ω,ω,ω,ω,nx+1,λi j hi hj=>?_,λ_=>⟨ω,ω,by simp[go_sem,b0,b1,d0,d1]⟩⟩;rw[if_pos (show k<k+1 by omega)];unfold EG.ck;by_cases e:i=k/\2<=j/\j<3
  ·obtain⟨rfl,h3,h4⟩:=e;obtain rfl:j=2:=ω;simp
  ·rw[if_neg e,if_neg (show ¬(i=k/\j=2) by omega),hG i j hi hj,if_neg (show ¬k<k by omega)]
 ·refine aA (aBe (g.c k).nv ω λi j=>((g.c k).v i).c j) rfl rfl ?_;have z0:c<k->¬p=5/\¬p=nx:=λh=>⟨by have:=(hp h).1;omega,by have:=(hp h).2.1;omega⟩;simp[go_sem,hlt,m1,m2,m3,m4,m5,g0,g1,g2,b0,b1];refine⟨⟨ω,ω⟩,k+1,ω,ω,ω,ω,p,λi j hi hj=>?_,λhcx=>?_⟩
  ·by_cases e:i=k/\2<=j/\j<3
   ·obtain⟨rfl,h3,h4⟩:=e;obtain rfl:j=2:=ω;rw[if_pos ⟨rfl,h3,h4⟩];unfold EG.ck;rw[if_neg (show ¬(i=c/\2=2) from λh=>hkc h.1)];split <;> rfl
   ·rw[if_neg e,hG i j hi hj];by_cases h3:c<k
    ·rw[if_pos h3,if_pos ω]
    ·rw[if_neg h3,if_neg ω]
  ·obtain⟨p1,p2,p3⟩:=hp ω;obtain⟨z1,z2⟩:=z0 ω;exact⟨p1,ω,by simp[z1,z2,p3]⟩
theorem bIh {g:EG} (h:g.Sm) (hv:g.valid=true) {q:Int} (h0:0<=q) (h1:q<=100) (hn:g.nr<24):Own Tryz.prog 326 [] [g.sv,.i q] (.tup [.agg [.sl 0 2 0 (g.nr+1) none,g.ll,g.cc],.i g.nr,.i 0]) [(g.addG q).vr]:=by
 refine cM aD Tryz.func326 rfl κ ν rfl rfl ?_;have hr:=h.nr;have hl:=h.nl;have hc:=h.nc;simp[go_sem];refine aF [] (qQ h hv) τ rfl trivial ?_;have q0:¬q<0:=ω;have q1:¬100<q:=ω;have q2:¬(g.nr:Int)=24:=ω;have q7:(g.nr:Int)<=9223372036854775807:=ω;have q5:g.nr+(g.nr+1 - g.nr)=g.nr+1:=ω;simp[go_sem,q0,q1,q2,q5,q7];refine⟨ω,?_⟩;refine aM (t:=(.take 0 (.take 1 (.take 2 (.take 3 (.take 4 (.take 5 (.take 6 (.take 7 (.take 8 (.take 9 (.take 10 (.alt 11 [10,9,8,7,6,5,4,3,2,1,0] (.take 12 (.take 13 (.done [13,12,10,9,8,7,6,5,4]))) .nil))))))))))))) aD κ κ κ (λ_ _ _ _ h=>h.elim λ_ h=>h.elim λ_ h=>h.elim λ_ h=>h.2) ?_;simp[go_sem];simp[go_sem,dU];refine⟨q7,?_⟩;refine aV (GSt.freeze 5 ξ) ?_;simp[go_sem];refine aV (GSt.freeze 6 ξ) (aT ?_);simp[go_sem];refine⟨[4],τ,λN=>⟨?_,?_⟩⟩
 ·simp[go_sem,EG.ll,EG.cc,SV.kill]
 ·simp[go_sem,EG.addG];intro i j hi hj;by_cases e:i<g.nr
  ·simp[aJ,e,SV.kill,SV.fz]
  ·have e2:i=g.nr:=ω;subst e2;rcases(ω:j=0\/j=1) with rfl | rfl <;> simp[aJ,SV.kill,SV.fz,go_sem]
theorem wdF {g:EG} (h:g.Sm) (hv:g.valid=true) {a b:Int} (hf:g.lin (min a b) (max a b)=true):Own Tryz.prog 328 [] [g.sv,.i a,.i b] (.tup [.agg [.sl 0 2 0 g.nr none,(g.dropL (g.lat (min a b) (max a b))).ll,g.cc],.i 0]) [g.vr]:=by
 refine cM aD Tryz.func328 rfl κ ν rfl rfl ?_;have hr:=h.nr;have hl:=h.nl;have hc:=h.nc;have hat:=EG.at76 g h.ok (EG.valid_lks hv) (min a b) (max a b);have hlt:g.lat (min a b) (max a b)<g.nl:=by simp[EG.lin,dP] at hf;exact hf.1
 simp[go_sem];refine aF [] (qQ h hv) τ rfl trivial ?_;simp[go_sem];refine aE aD κ κ ?_;simp[go_sem];refine⟨_,aB (iL a b) rfl rfl,?_⟩;simp[go_sem];refine⟨_,dL (v:=.tup [.i (g.lat (min a b) (max a b)),.b (g.lin (min a b) (max a b))]) ?_ rfl,?_⟩
 ·simp[go_sem];exact hat
 simp[go_sem,hf];generalize hk:g.lat (min a b) (max a b)=k at hlt;refine⟨⟨ω,ω⟩,?_⟩;refine aF [5] (aP4 g.nl k ω hlt λi j=>(g.l i).c j) τ rfl ⟨rfl,trivial⟩ ?_;simp[go_sem];refine aV (GSt.freeze 7 ξ) ?_;simp[go_sem];refine aV (GSt.freeze 6 ξ) (aT ?_);simp[go_sem];refine⟨[4],τ,λN=>⟨?_,by simp[go_sem,EG.dropL]⟩⟩;simp[go_sem,EG.dropL,EG.ll,EG.cc];intro i j _ _;split <;> rfl
theorem bEz (x:CsG) (a:Int):Pure Tryz.prog 416 [.agg [.r (x.c 0),.r (x.c 1),.r (x.c 2)],.r (aUq a)] (· =.b (decide (x.a=a)||decide (x.b=a))):=by
 refine π Tryz.func416 ?_;by_cases h1:x.a=a
 ·simp[go_sem,h1,mN]
 ·by_cases h2:x.b=a
  ·simp[go_sem,h1,h2,mN]
  ·simp[go_sem,h1,h2,mN]
theorem bI8 {g:EG} (h:g.Sm) (hv:g.valid=true) {a:Nat} (ha:g.th a=true):Own Tryz.prog 329 [] [g.sv,.i a] (.tup [.agg [.sl 0 2 0 g.nr none,(g.remG a).ll,(g.remG a).cc],.i 0]) [(g.remG a).vr]:=by
 refine cM aD Tryz.func329 rfl κ ν rfl rfl ?_;have hr:=h.nr;have hl:=h.nl;have hc:=h.nc;simp[go_sem];refine aF [] (qQ h hv) τ rfl trivial ?_;simp[go_sem];refine aG (v:=.b (g.th a)) ?_ rfl ?_
 ·simp[go_sem];exact eO g h.ok _ (by simp[go_sem,aU]) a
 have hk:a<g.nr:=by simp[EG.th,btw] at ha;omega
 simp[go_sem,ha,hk];refine aM (t:=(.take 0 (.take 1 (.take 2 (.take 3 (.take 4 (.take 5 (.take 6 (.take 7 (.alt 8 [7,6,5,4,3,2,1,0] (.done []) .nil)))))))))) aD κ κ κ (λ_ _ _ _ h=>h.elim λ_ h=>h.elim λ_ h=>h.elim λ_ h=>h.2) ?_;simp[go_sem,hk];refine aC 1 (R:=.box [.i a]) ζ ?_;simp[go_sem,hk];refine aF [6] (aZ1 g.nl ω (λi j=>(g.l i).c j) 414 (aUq a) (g.lp a) (λi j hi hj=>?_) λi hi=>bIl (g.l i) a) τ rfl ⟨rfl,trivial⟩ ?_
 ·rcases(ω:j=0\/j=1\/j=2) with rfl | rfl | rfl <;> rfl
 simp[go_sem,hk];refine aF [7] (aZ2 g.nc ω (λi j=>(g.c i).c j) 416 (aUq a) (g.cp a) (λi j hi hj=>?_) λi hi=>bEz (g.c i) a) τ rfl ⟨rfl,trivial⟩ ?_
 ·rcases(ω:j=0\/j=1\/j=2) with rfl | rfl | rfl <;> rfl
 simp[go_sem,hk];refine aV (GSt.freeze 9 ξ) ?_;simp[go_sem];refine aV (GSt.freeze 8 ξ) (aT ?_);simp[go_sem,hk];refine⟨[5],τ,λN=>⟨?_,?_⟩⟩
 ·simp[go_sem,EG.remG,EG.ll,EG.cc];refine⟨λi j hi hj=>?_,λi j hi hj=>?_⟩ <;> (rw[bP (List.getElem?_eq_getElem hi),List.getElem?_eq_getElem hi];rfl)
 ·simp[go_sem,EG.remG];intro i j hi hj;by_cases e:i=a
  ·subst e;rcases(ω:j=0\/j=1) with rfl | rfl <;> simp[go_sem,RcG.c]
  ·simp[e,SV.fz]
def EG.addC (g:EG) (i:Nat) (x:CsG):EG:={g with nc:=g.nc+1,c:=λj=>if j<i then g.c j else if j=i then x else g.c (j - 1)}
def EG.addL (g:EG) (i:Nat) (x:LkG):EG:={g with nl:=g.nl+1,l:=λj=>if j<i then g.l j else if j=i then x else g.l (j - 1)}
def EG.dropC (g:EG) (i:Nat):EG:={g with nc:=g.nc - 1,c:=λj=>if j<i then g.c j else g.c (j+1)}
def CsG.addV (x:CsG) (v:VtG):CsG:={x with nv:=x.nv+1,v:=λk=>if k<x.nv then x.v k else v}
def EG.addV (g:EG) (i:Nat) (v:VtG):EG:={g with c:=λj=>if j=i then (g.c i).addV v else g.c j}
def CsG.has (x:CsG) (o:Int):Bool:=(List.range x.nv).any λi=>decide ((x.v i).o=o)
def CsG.says (x:CsG) (s:Bool):Bool:=(List.range x.nv).any λi=>decide ((x.v i).s=s)
def EG.clash (g:EG) (p q:Int) (s:Bool):Bool:=if s=true then decide (0<=g.ap p q) else decide (g.q p=g.q q)
theorem aBd (g:EG) (h:g.OK) (hl:g.lth) (D:Nat->Nat->RV) (hD1:D 0 1=.rs 3 g.nl λi j=>(g.l i).c j) (hD3:D 0 3=.mp g.th λa=>.i (g.q a)) (p q:Int) (s:Bool) (hp:g.th p=true) (hq:g.th q=true) :
 Pure Tryz.prog 409 [dk D,.agg [.i p,.i q],.b s] (· =.b (g.clash p q s)):=by
 refine π Tryz.func409 ?_;have ha:=aUv g h hl D hD1 hD3 p q hp hq
 cases s
 ·simp[go_sem];refine bE aD κ 15 κ rfl rfl ?_;simp[go_sem,hD3,hp,hq,EG.clash]
 ·simp[go_sem];by_cases hx:0<=g.ap p q
  ·rw[EG.lv_pos hx] at ha;refine aA ha rfl rfl ?_;simp[go_sem,EG.clash,hx]
  ·rw[EG.lv_neg ω] at ha;refine aA ha rfl rfl ?_;simp[go_sem,EG.clash,hx]
theorem bIm (x:VtG) (C:Nat->Nat->RV) (o:Int) (hC:C 0 0=.i o):Pure Tryz.prog 407 [.agg [.i x.o,.b x.s],.r (.rp 1 1 C 0 0)] (· =.b (decide (x.o=o))):=by
 refine π Tryz.func407 ?_;simp[go_sem,hC]
theorem bIn (x:VtG) (C:Nat->Nat->RV) (s:Bool) (hC:C 0 0=.v (.bool s)):Pure Tryz.prog 408 [.agg [.i x.o,.b x.s],.r (.rp 1 1 C 0 0)] (· =.b (decide (x.s=s))):=by
 refine π Tryz.func408 ?_;simp[go_sem,hC]
theorem aRh (x:CsG) (hn:x.nv<=1000000000) (C:Nat->Nat->RV) (o:Int) (hC:C 0 0=.i o):Pure Tryz.prog 351 [.r (.rs 2 x.nv λi j=>(x.v i).c j),.fn (.func 407) [] [.r (.rp 1 1 C 0 0)]] (· =.b (x.has o)):=
 rE x.nv hn (λi j=>(x.v i).c j) 407 [.r (.rp 1 1 C 0 0)] rfl (λi=>decide ((x.v i).o=o)) λi _=>bIm (x.v i) C o hC
theorem aI2 (x:CsG) (hn:x.nv<=1000000000) (C:Nat->Nat->RV) (s:Bool) (hC:C 0 0=.v (.bool s)):Pure Tryz.prog 351 [.r (.rs 2 x.nv λi j=>(x.v i).c j),.fn (.func 408) [] [.r (.rp 1 1 C 0 0)]] (· =.b (x.says s)):=
 rE x.nv hn (λi j=>(x.v i).c j) 408 [.r (.rp 1 1 C 0 0)] rfl (λi=>decide ((x.v i).s=s)) λi _=>bIn (x.v i) C s hC
def EG.co (g:EG) (a b:Int):Int:=rL (λi=>decide ((g.c i).a=a)&&decide ((g.c i).b=b)) g.nc
theorem bBa (g:EG) (h:g.OK) (a b:Int):Pure Tryz.prog 365 [g.sv,.i a,.i b] (· =.i (g.co a b)):=by
 refine π Tryz.func365 ?_;have:=h.nc;simp[go_sem];refine aH aD (α:=Nat) (λk=>[(1,.i a),(2,.i b),(3,.ptr 0 0 3 0),(7,.i k)]) (λ_=>[g.bx]) 1 (λk=>k<=g.nc/\∀j,j<k->((g.c j).a=a->¬(g.c j).b=b)) (λk=>g.nc - k) 0 (λ_=>rfl) τ ζ ζ ?_;intro k J hi;by_cases hlt:k<g.nc
 ·have step:((g.c k).a=a->¬(g.c k).b=b)->(k+1<=g.nc/\∀j,j<k+1->((g.c j).a=a->¬(g.c j).b=b)):=λhn=>⟨ω,λj hj=>by
   by_cases hjk:j=k
   ·subst hjk;exact hn
   ·exact hi.2 j ω⟩
  by_cases h1:(g.c k).a=a
  ·by_cases h2:(g.c k).b=b
   ·simp[go_sem,hlt,h1,h2];exact(gY hlt (by simp[h1,h2]) λj hj=>by have:=hi.2 j hj;simpa using this).symm
   ·simp[go_sem,hlt,h1,h2];exact⟨ω,k+1,step (λ_=>h2),ω,ω⟩
  ·simp[go_sem,hlt,h1];exact⟨ω,k+1,step (λe=>absurd e h1),ω,ω⟩
 ·simp[go_sem,hlt];exact(gZ λj hj=>by have:=hi.2 j ω;simpa using this).symm
theorem xB {n:Nat} {p:Nat->Bool} (h:∀j,j<n->p j=false):(List.range n).any p=false:=by
 rw[List.any_eq_false];exact λx hx=>by rw[h x (List.mem_range.1 hx)];simp
theorem sD {n k:Nat} {p:Nat->Bool} (h:k<n) (hp:p k=true):(List.range n).any p=true:=List.any_eq_true.2 ⟨k,List.mem_range.2 h,hp⟩
theorem yL (x:CsG) (hn:x.nv<=1000000000) (o:Int):Pure Tryz.prog 366 [.r (.rs 2 x.nv λi j=>(x.v i).c j),.i o] (· =.b (x.has o)):=by
 refine π Tryz.func366 ?_;simp[go_sem];refine aH aD (α:=Nat) (λk=>[(0,.r (.rs 2 x.nv λi j=>(x.v i).c j)),(1,.i o),(5,.i k)]) (λ_=>[]) 0 (λk=>k<=x.nv/\∀j,j<k->¬(x.v j).o=o) (λk=>x.nv - k) 0 (λ_=>rfl) τ ζ ζ ?_;intro k J hi;by_cases hlt:k<x.nv
 ·by_cases h1:(x.v k).o=o
  ·simp[go_sem,hlt,h1];exact sD hlt (by simp[h1])
  ·simp[go_sem,hlt,h1];refine⟨ω,k+1,⟨ω,λj hj=>?_⟩,ω,ω⟩;by_cases hjk:j=k
   ·subst hjk;exact h1
   ·exact hi.2 j ω
 ·simp[go_sem,hlt];exact xB λj hj=>by simpa using hi.2 j ω
theorem aBi (x:CsG) (hn:x.nv<=1000000000) (s:Bool):Pure Tryz.prog 367 [.r (.rs 2 x.nv λi j=>(x.v i).c j),.b s] (· =.b (x.says s)):=by
 refine π Tryz.func367 ?_;simp[go_sem];refine aH aD (α:=Nat) (λk=>[(0,.r (.rs 2 x.nv λi j=>(x.v i).c j)),(1,.b s),(5,.i k)]) (λ_=>[]) 0 (λk=>k<=x.nv/\∀j,j<k->¬(x.v j).s=s) (λk=>x.nv - k) 0 (λ_=>rfl) τ ζ ζ ?_;intro k J hi;by_cases hlt:k<x.nv
 ·by_cases h1:(x.v k).s=s
  ·simp[go_sem,hlt,h1];exact sD hlt (by simp[h1])
  ·simp[go_sem,hlt,h1];refine⟨ω,k+1,⟨ω,λj hj=>?_⟩,ω,ω⟩;by_cases hjk:j=k
   ·subst hjk;exact h1
   ·exact hi.2 j ω
 ·simp[go_sem,hlt];exact xB λj hj=>by simpa using hi.2 j ω
theorem aU8 (g:EG) (h:g.OK) (hl:g.inl) (a b:Int) (s:Bool) (h0:0<=a) (h1:a<g.nr) (h2:0<=b) (h3:b<g.nr):Pure Tryz.prog 368 [g.sv,.i a,.i b,.b s] (· =.b (g.clash a b s)):=by
 refine π Tryz.func368 ?_;have hd:=aP5 g h hl a b h0 h1 h2 h3;rw[EG.df_eq hl h0 h1 h2 h3] at hd;have ho:=aIj g h hl a b h0 h1 h2 h3;rw[EG.one_eq hl h0 h1 h2] at ho
 cases s
 ·simp[go_sem];refine aA ho rfl rfl ?_;simp[go_sem,EG.clash]
 ·simp[go_sem];refine aA hd rfl rfl ?_;simp[go_sem,EG.clash]
theorem EG.valid_cos {g:EG} (h:g.valid=true):g.cos=true:=by
 rw[<- EG.pval_eq] at h;simp only [EG.pval,Bool.and_eq_true] at h;exact h.1.1.2
theorem EG.cin_iff {g:EG} (h:g.cos=true) {p q:Int}:g.cin p q=true↔∃j,j<g.nc/\(g.c j).a=p/\(g.c j).b=q:=
 pS (x:=λi=>(g.c i).a) (y:=λi=>(g.c i).b) (EG.cos_sorted h)
theorem EG.cat_at {g:EG} (h:g.cos=true) {j:Nat} (hj:j<g.nc):g.cat (g.c j).a (g.c j).b=j:=
 xC (x:=λi=>(g.c i).a) (y:=λi=>(g.c i).b) (EG.cos_sorted h) hj
theorem EG.co_yes {g:EG} (h:g.cos=true) {p q:Int} (hc:g.cin p q=true):g.co p q=(g.cat p q:Nat):=by
 obtain⟨j,hj,rfl,rfl⟩:=(EG.cin_iff h).1 hc;rw[EG.cat_at h hj];refine gY hj τ λk hk=>?_;by_cases e:(g.c k).a=(g.c j).a
 ·by_cases e2:(g.c k).b=(g.c j).b
  ·have h1:=EG.cat_at h (show k<g.nc by omega);rw[e,e2,EG.cat_at h hj] at h1;omega
  ·simp[e2]
 ·simp[e]
theorem EG.co_no {g:EG} (h:g.cos=true) {p q:Int} (hc:g.cin p q=false):g.co p q=-1:=by
 refine gZ λk hk=>?_;by_cases e:(g.c k).a=p
 ·by_cases e2:(g.c k).b=q
  ·have:=(EG.cin_iff h).2 ⟨k,hk,e,e2⟩;rw[hc] at this
   cases this
  ·simp[e2]
 ·simp[e]
theorem EG.cat_le (g:EG) (p q:Int):g.cat p q<=g.nc:=by
 unfold EG.cat dF
 cases h:(List.range g.nc).find? λi=>decide (0<=dM (g.c i).a (g.c i).b p q) with
 | none=>exact Nat.le_refl _
 | some i=>exact Nat.le_of_lt (List.mem_range.1 (List.find?_range_eq_some.1 h).2.1)
theorem EG.lat_le (g:EG) (p q:Int):g.lat p q<=g.nl:=by
 unfold EG.lat dF
 cases h:(List.range g.nl).find? λi=>decide (0<=dM (g.l i).a (g.l i).b p q) with
 | none=>exact Nat.le_refl _
 | some i=>exact Nat.le_of_lt (List.mem_range.1 (List.find?_range_eq_some.1 h).2.1)
theorem EG.cin_lt {g:EG} {p q:Int} (hc:g.cin p q=true):g.cat p q<g.nc:=by
 simp only [EG.cin,dP,Bool.and_eq_true,decide_eq_true_eq] at hc;exact hc.1
def EG.voteE (g:EG) (o a b:Int) (s:Bool):Int:=
 if g.valid=false then 8 else if ¬(0<=o/\o<=7) then 2 else if a=b\/g.th a=false\/g.th b=false then 6 else
 if g.lin (min a b) (max a b)=true then 82 else
 if g.cin (min a b) (max a b)=false then (if g.nc=40 then 9 else 0) else
 if (g.c (g.cat (min a b) (max a b))).has o=true then 80 else
 if (g.c (g.cat (min a b) (max a b))).says s=false then 0 else if g.clash (min a b) (max a b) s=true then 81 else 0
def EG.voteG (g:EG) (o a b:Int) (s:Bool):EG:=
 if g.cin (min a b) (max a b)=false then g.addC (g.cat (min a b) (max a b)) ⟨min a b,max a b,1,λ_=>⟨o,s⟩⟩ else
 if (g.c (g.cat (min a b) (max a b))).says s=false then g.addV (g.cat (min a b) (max a b)) ⟨o,s⟩ else
 (g.dropC (g.cat (min a b) (max a b))).addL (g.lat (min a b) (max a b)) ⟨min a b,max a b,s⟩
def EG.voteD (g:EG) (a b:Int) (s:Bool):Bool:=g.cin (min a b) (max a b)&&(g.c (g.cat (min a b) (max a b))).says s
def EG.voteV (g:EG) (o a b:Int) (s:Bool):SV:=if g.voteE o a b s=0 then .tup [(g.voteG o a b s).sv,.b (g.voteD a b s),.i 0] else .tup [lW,.b false,.i (g.voteE o a b s)]
theorem aW6 (x y z:RV) (n:Nat):SV.r (([SV.r x,SV.r y,SV.r z][n]?.getD (.r .any)).toRV)=[SV.r x,SV.r y,SV.r z][n]?.getD (.r .any):=by
 match n with
 | 0=>rfl
 | 1=>rfl
 | 2=>rfl
 | n+3=>rfl
theorem pY {s s':SV} (h:s.sub s'):s.le s':=λ_ _ _ hr=>SV.sub_rel _ _ _ h hr
theorem EG.at78v (g:EG) (h:g.OK) (hl:g.cos=true) {get:Nat->Nat->RV} (hget:∀i j,i<g.nc->j<3->get i j=(g.c i).c j) (p q:Int) :
 Pure Tryz.prog 405 [.r (.rs 3 g.nc get),.fn (.func 183) [] [],.agg [.i p,.i q]] (· =.tup [.i (g.cat p q),.b (g.cin p q)]):=
 (EG.at78 g h hl p q).args ⟨pY (by simp[go_sem];exact hget),SV.le.rfl,SV.le.rfl,trivial⟩
theorem aL4 {P:Program} {np:cZ} {f:FuncId} {args:List SV} {M:Mem} {nx:Nat} {K:SV->Mem->Nat->(SV->SV)->Prop} (q:Nat) {R:Reg} (R':Reg) (hM:M q=some R) (hw:Reg.wk (some R) (some R')) (h:dV P np f args (bH M q (some R')) nx K):dV P np f args M nx K:=by
 refine xD (λr=>?_) h;unfold bH;by_cases e:r=q
 ·subst e;rw[if_pos rfl,hM];exact hw
 ·rw[if_neg e];exact Or.inl (Reg.sub_rfl _)
theorem GSt.wk1 {N:cZ} {E:Env} {M:Mem} {nx:Nat} (q:Nat) {R:Reg} (R':Reg) (hM:M q=some R) (hw:Reg.wk (some R) (some R')):GSt N E M nx E (bH M q (some R')) nx:=by
 refine GSt.wk λr=>?_;unfold bH;by_cases e:r=q
 ·subst e;rw[if_pos rfl,hM];exact hw
 ·rw[if_neg e];exact Or.inl (Reg.sub_rfl _)
abbrev bJ0 (o:Int) (s:Bool):RV:=.rs 2 1 λ_ j=>(⟨o,s⟩:VtG).c j
theorem aX4 {g:EG} (h:g.Sm) {o a b:Int} {s:Bool} (hv:g.valid=true) (o3:0<=o/\o<=7) (hab:¬a=b) (ta:g.th a=true) (tb:g.th b=true) (hf':g.lin (min a b) (max a b)=false) (hci':g.cin (min a b) (max a b)=false) (h40:¬g.nc=40) :
 Own Tryz.prog 327 [] [g.sv,.i o,.i a,.i b,.b s] (.tup [.agg [.sl 0 2 0 g.nr none,g.ll,(g.addC (g.cat (min a b) (max a b)) ⟨min a b,max a b,1,λ_=>⟨o,s⟩⟩).cc],.b false,.i 0]) [g.vr]:=by
 refine cM aD Tryz.func327 rfl κ ν rfl rfl ?_;have hr:=h.nr;have hl:=h.nl;have hc:=h.nc;have o1:¬o<0:=ω;have o2:¬8<=o:=ω;have hat:=EG.at76 g h.ok (EG.valid_lks hv) (min a b) (max a b);simp[go_sem];refine aF [] (qQ h hv) τ rfl trivial ?_;simp[go_sem,o1,o2,hab];refine aG (v:=.b (g.th a)) (by simp[go_sem];exact eO g h.ok _ (by simp[go_sem,aU]) a) rfl ?_;simp[go_sem,ta];refine aG (v:=.b (g.th b)) (by simp[go_sem];exact eO g h.ok _ (by simp[go_sem,aU]) b) rfl ?_;simp[go_sem,tb];refine aA (iL a b) rfl rfl ?_;simp[go_sem];refine aE aD κ κ ?_;simp[go_sem];refine⟨_,dL (v:=.tup [.i (g.lat (min a b) (max a b)),.b (g.lin (min a b) (max a b))]) (by simp[go_sem];exact hat) rfl,?_⟩;simp[go_sem,hf'];refine aE aD κ κ ?_;simp[go_sem];refine⟨_,dL (v:=.tup [.i (g.cat (min a b) (max a b)),.b (g.cin (min a b) (max a b))]) (by simp[go_sem];exact EG.at78 g h.ok (EG.valid_cos hv) _ _) rfl,?_⟩;have h40':¬(g.nc:Int)=40:=ω;simp[go_sem,hci',h40'];refine aM (t:=(.take 0 (.take 1 (.take 2 (.take 3 (.take 4 (.take 5 (.take 6 (.take 7 (.take 8 (.take 9 (.take 10 (.take 11 (.alt 12 [11,10,9,8,7,6,5,4,3,2,1,0] (.take 13 (.alt 14 [13,10,9,8,7,6,5,4,3,2,1,0] (.alt 15 [10,9,8,7,6,5,4,3,2,1,0] (.take 16 (.take 17 (.take 18 (.alt 19 [18,17,16,10,9,8,7,4,3,2,1,0] (.done [17,16]) .nil)))) .nil) .nil)) .nil)))))))))))))) aD κ κ κ (λ_ _ _ _ h=>h.elim λ_ h=>h.elim λ_ h=>h.elim λ_ h=>h.2) ?_;simp[go_sem];refine aL4 11 (.vec 253 2 1 λ_ j=>.r ((⟨o,s⟩:VtG).c j)) ξ (Reg.wk_vec (Nat.le_refl _) λi j hi hj=>?_) ?_
 ·obtain rfl:i=0:=ω;rcases(ω:j=0\/j=1) with rfl | rfl <;> exact SV.sub_rfl _
 refine aC 11 ξ ?_;simp[go_sem];have hcl:=EG.cat_le g (min a b) (max a b);generalize g.cat (min a b) (max a b)=c at hcl;refine aF [8,12] (aRt g.nc c ω hcl (λi j=>(g.c i).c j) (λi j=>([SV.i (min a b),SV.i (max a b),.r (bJ0 o s)][i*3+j]?.getD (.r .any)).toRV)) τ rfl ⟨by simp[go_sem,SV.fz],?_,trivial⟩ ?_
 ·show some (Reg.vec 150 3 1 λi j=>SV.fz 11 _ ([SV.i (min a b),SV.i (max a b),.sl 11 2 0 1 none][i*3+j]?.getD (.r .any)))=some (Reg.vec 150 3 1 λi j=>SV.r _)
  congr 2
  funext i j;generalize i*3+j=n
  match n with
  | 0=>rfl
  | 1=>rfl
  | 2=>rfl
  | n+3=>rfl
 simp[go_sem];refine aV (GSt.freeze 13 ξ) ?_;simp[go_sem];refine aV (GSt.freeze 7 ξ) (aT ?_);simp[go_sem];refine⟨[6],τ,λN=>⟨?_,ζ⟩⟩;simp[go_sem,EG.ll,EG.cc,EG.addC];intro i j hi hj;unfold gL;by_cases e1:i<c
 ·simp[e1]
 ·by_cases e2:i=c
  ·subst e2;rcases(ω:j=0\/j=1\/j=2) with rfl | rfl | rfl <;> simp[go_sem,CsG.c]
  ·simp[e1,e2]
theorem aX3 {g:EG} (h:g.Sm) {o a b:Int} {s:Bool} {k:Nat} (hv:g.valid=true) (o3:0<=o/\o<=7) (hab:¬a=b) (ta:g.th a=true) (tb:g.th b=true) (hf':g.lin (min a b) (max a b)=false) (hci:g.cin (min a b) (max a b)=true) (hk:g.cat (min a b) (max a b)=k)
 (ho':(g.c k).has o=false) (hs:(g.c k).says s=true) (hl':g.clash (min a b) (max a b) s=false) :
 Own Tryz.prog 327 [] [g.sv,.i o,.i a,.i b,.b s] (.tup [.agg [.sl 0 2 0 g.nr none,((g.dropC k).addL (g.lat (min a b) (max a b)) ⟨min a b,max a b,s⟩).ll,((g.dropC k).addL (g.lat (min a b) (max a b)) ⟨min a b,max a b,s⟩).cc],.b true,.i 0]) [g.vr]:=by
 refine cM aD Tryz.func327 rfl κ ν rfl rfl ?_;have hr:=h.nr;have hl:=h.nl;have hc:=h.nc;have o1:¬o<0:=ω;have o2:¬8<=o:=ω;have hat:=EG.at76 g h.ok (EG.valid_lks hv) (min a b) (max a b);simp[go_sem];refine aF [] (qQ h hv) τ rfl trivial ?_;simp[go_sem,o1,o2,hab];refine aG (v:=.b (g.th a)) (by simp[go_sem];exact eO g h.ok _ (by simp[go_sem,aU]) a) rfl ?_;simp[go_sem,ta];refine aG (v:=.b (g.th b)) (by simp[go_sem];exact eO g h.ok _ (by simp[go_sem,aU]) b) rfl ?_;simp[go_sem,tb];refine aA (iL a b) rfl rfl ?_;simp[go_sem];refine aE aD κ κ ?_;simp[go_sem];refine⟨_,dL (v:=.tup [.i (g.lat (min a b) (max a b)),.b (g.lin (min a b) (max a b))]) (by simp[go_sem];exact hat) rfl,?_⟩;simp[go_sem,hf'];refine aE aD κ κ ?_;simp[go_sem];refine⟨_,dL (v:=.tup [.i (g.cat (min a b) (max a b)),.b (g.cin (min a b) (max a b))]) (by simp[go_sem];exact EG.at78 g h.ok (EG.valid_cos hv) _ _) rfl,?_⟩;have hkc:k<g.nc:=by rw[<- hk];exact EG.cin_lt hci
 have hvk:=h.nv k hkc;simp[go_sem,hci,hk];refine⟨hkc,aG (v:=.b ((g.c k).has o)) ?_ rfl ?_⟩
 ·simp[go_sem,hkc];refine aRh (g.c k) ω _ o ?_;simp[go_sem,aU]
 simp[go_sem,ho'];refine aG (v:=.b ((g.c k).says s)) ?_ rfl ?_
 ·simp[go_sem,hkc];refine aI2 (g.c k) ω _ s ?_;simp[go_sem,aU]
 simp[go_sem,hs];have tp:g.th (min a b)=true:=by
  rcases Int.le_total a b with h1 | h1
  ·rw[Int.min_eq_left h1];exact ta
  ·rw[Int.min_eq_right h1];exact tb
 have tq:g.th (max a b)=true:=by
  rcases Int.le_total a b with h1 | h1
  ·rw[Int.max_eq_right h1];exact tb
  ·rw[Int.max_eq_left h1];exact ta
 refine aG (v:=.b (g.clash (min a b) (max a b) s)) ?_ rfl ?_
 ·simp[go_sem];refine aBd g h.ok (EG.valid_lth hv) _ ?_ ?_ _ _ s tp tq
  ·simp[go_sem,aU]
  ·simp[go_sem,aU]
 simp[go_sem,hl'];refine⟨⟨ω,ω⟩,aF [8] (aP3 g.nc k ω hkc λi j=>(g.c i).c j) τ rfl ⟨rfl,trivial⟩ ?_⟩;simp[go_sem];refine aM (t:=(.take 0 (.take 1 (.take 2 (.take 3 (.take 4 (.take 5 (.take 6 (.take 7 (.take 8 (.take 9 (.take 10 (.take 11 (.take 12 (.alt 13 [12,11,10,9,8,7,6,5,4,3,2,1,0] (.alt 14 [11,10,9,8,7,6,5,4,3,2,1,0] (.take 15 (.take 16 (.take 17 (.alt 18 [17,16,15,11,10,9,8,7,4,3,2,1,0] (.done [16,15]) .nil)))) .nil) .nil))))))))))))))) aD κ κ κ (λ_ _ _ _ h=>h.elim λ_ h=>h.elim λ_ h=>h.elim λ_ h=>h.2) ?_;simp[go_sem];have hll:=EG.lat_le g (min a b) (max a b);generalize g.lat (min a b) (max a b)=l at hll;refine aF [7,12] (aRu g.nl l ω hll (λi j=>(g.l i).c j) (λi j=>([SV.i (min a b),SV.i (max a b),SV.b s][i*3+j]?.getD (.r .any)).toRV)) τ rfl ⟨ζ,?_,trivial⟩ ?_
 ·show _=some (Reg.vec 147 3 1 λi j=>SV.r _);simp only [aW6];simp[go_sem]
 simp[go_sem];refine aV (GSt.freeze 13 ξ) ?_;simp[go_sem];refine aV (GSt.freeze 11 ξ) (aT ?_);simp[go_sem];refine⟨[6],τ,λN=>⟨?_,ζ⟩⟩;simp[go_sem,EG.ll,EG.cc,EG.dropC,EG.addL];refine⟨λi j hi hj=>?_,λi j hi hj=>?_⟩
 ·unfold gL;by_cases e1:i<l
  ·simp[e1]
  ·by_cases e2:i=l
   ·subst e2;rcases(ω:j=0\/j=1\/j=2) with rfl | rfl | rfl <;> simp[go_sem,LkG.c]
   ·simp[e1,e2]
 ·split <;> rfl
theorem EG.ck_ren (g:EG) (k b:Nat) (f:Nat->Nat) (i j:Nat):(g.ck k b i j).ren f=g.ck k (f b) i j:=by
 unfold EG.ck;split
 ·simp[SV.ren]
 ·rfl
theorem EG.ck_at (g:EG) (k b:Nat):g.ck k b k 2=.sl b 2 0 (g.c k).nv none:=by simp[EG.ck]
theorem EG.view_ck {g:EG} {M:Mem} {k b i j:Nat} (hM:M b=some (g.ov k)) (hj:j<3):aU M 3 (g.ck k b i j)=(g.c i).c j:=by
 unfold EG.ck;split
 ·rename_i e;obtain⟨rfl,rfl⟩:=e;simp[go_sem,aU,hM]
 ·simp[aU]
theorem aX2 {g:EG} (h:g.Sm) {o a b:Int} {s:Bool} {k:Nat} (hv:g.valid=true) (o3:0<=o/\o<=7) (hab:¬a=b) (ta:g.th a=true) (tb:g.th b=true) (hf':g.lin (min a b) (max a b)=false) (hci:g.cin (min a b) (max a b)=true) (hk:g.cat (min a b) (max a b)=k)
 (ho':(g.c k).has o=false) (hs':(g.c k).says s=false) :
 Own Tryz.prog 327 [] [g.sv,.i o,.i a,.i b,.b s] (.tup [.agg [.sl 0 2 0 g.nr none,g.ll,(g.addV k ⟨o,s⟩).cc],.b false,.i 0]) [g.vr]:=by
 refine cM aD Tryz.func327 rfl κ ν rfl rfl ?_;have hr:=h.nr;have hl:=h.nl;have hc:=h.nc;have hkc:k<g.nc:=by rw[<- hk];exact EG.cin_lt hci
 have hvk:=h.nv k hkc;have o1:¬o<0:=ω;have o2:¬8<=o:=ω;have hat:=EG.at76 g h.ok (EG.valid_lks hv) (min a b) (max a b);simp[go_sem];refine aF [] (bF2 h hv hkc) τ rfl trivial ?_;simp[go_sem,o1,o2,hab];refine aG (v:=.b (g.th a)) (by simp[go_sem];exact eO g h.ok _ (by simp[go_sem,aU]) a) rfl ?_;simp[go_sem,ta];refine aG (v:=.b (g.th b)) (by simp[go_sem];exact eO g h.ok _ (by simp[go_sem,aU]) b) rfl ?_;simp[go_sem,tb];refine aA (iL a b) rfl rfl ?_;simp[go_sem];refine aE aD κ κ ?_;simp[go_sem];refine⟨_,dL (v:=.tup [.i (g.lat (min a b) (max a b)),.b (g.lin (min a b) (max a b))]) (by simp[go_sem];exact hat) rfl,?_⟩;simp[go_sem,hf'];refine aE aD κ κ ?_;simp[go_sem];refine⟨_,jW (v:=.tup [.i (g.cat (min a b) (max a b)),.b (g.cin (min a b) (max a b))]) ?_ rfl,?_⟩
 ·simp[go_sem];refine EG.at78v g h.ok (EG.valid_cos hv) (λi j hi hj=>?_) _ _;rw[EG.ck_ren];exact EG.view_ck ζ hj
 simp[go_sem,hci,hk,EG.ck_ren,EG.ck_at];refine⟨hkc,aG (v:=.b ((g.c k).has o)) ?_ rfl ?_⟩
 ·simp[go_sem,hkc];refine aRh (g.c k) ω _ o ?_;simp[go_sem,aU]
 simp[go_sem,ho'];refine aG (v:=.b ((g.c k).says s)) ?_ rfl ?_
 ·simp[go_sem,hkc];refine aI2 (g.c k) ω _ s ?_;simp[go_sem,aU]
 simp[go_sem,hs'];have n1:((g.c k).nv:Int)+1<=9223372036854775807:=ω;have n2:(g.c k).nv+((g.c k).nv+1 - (g.c k).nv)=(g.c k).nv+1:=ω;refine aM (t:=(.take 0 (.take 1 (.take 2 (.take 3 (.take 4 (.take 5 (.take 6 (.take 7 (.alt 8 [7,6,5,4,3,2,1,0] (.alt 9 [6,5,4,3,2,1,0] (.take 10 (.take 11 (.alt 12 [11,10,5,4,3,2,1,0] (.done [10]) .nil))) .nil) .nil)))))))))) aD κ κ κ (λ_ _ _ _ h=>h.elim λ_ h=>h.elim λ_ h=>h.elim λ_ h=>h.2) ?_;simp[go_sem,hkc];refine⟨⟨ω,ω⟩,?_⟩;refine aV (GSt.wk1 9 (.vec 253 2 ((g.c k).nv+1) λi j=>.r ((((g.c k).addV ⟨o,s⟩).v i).c j)) ξ (Reg.wk_vec (Nat.le_refl _) λi j hi hj=>?_)) ?_
 ·unfold aJ;by_cases e2:i<(g.c k).nv
  ·simp[e2,SV.kill,CsG.addV];exact SV.sub_rfl _
  ·have e3:i=(g.c k).nv:=ω;subst e3;rcases(ω:j=0\/j=1) with rfl | rfl <;> simp[go_sem,SV.kill,CsG.addV]
 refine aV (GSt.freeze 9 ξ) ?_;simp[go_sem];refine aV (GSt.wk1 8 (.vec 150 3 g.nc λi j=>.r (((g.addV k ⟨o,s⟩).c i).c j)) ξ (Reg.wk_vec (Nat.le_refl _) λi j hi hj=>?_)) ?_
 ·by_cases e:i=k/\2<=j/\j<3
  ·obtain⟨rfl,h3,h4⟩:=e;obtain rfl:j=2:=ω;simp[SV.fz,EG.addV,CsG.addV,CsG.c];exact SV.sub_rfl _
  ·rw[if_neg e];unfold EG.ck;rw[if_neg (show ¬(i=k/\j=2) by omega)];by_cases e1:i=k
   ·subst e1;rcases(ω:j=0\/j=1) with rfl | rfl <;> simp[SV.fz,SV.kill,EG.addV,CsG.addV,CsG.c] <;> exact SV.sub_rfl _
   ·simp[SV.fz,SV.kill,EG.addV,e1];exact SV.sub_rfl _
 refine aV (GSt.freeze 8 ξ) ?_;refine aV (GSt.freeze 7 ξ) (aT ?_);simp[go_sem];refine⟨[6],τ,λN=>⟨?_,ζ⟩⟩;simp[go_sem,EG.ll,EG.cc];rfl
theorem bB6 {g:EG} (h:g.Sm) (o a b:Int) (s:Bool) (he:g.voteE o a b s≠0):Own Tryz.prog 327 [] [g.sv,.i o,.i a,.i b,.b s] (.tup [lW,.b false,.i (g.voteE o a b s)]) []:=by
 refine γ Tryz.func327 ?_;have hr:=h.nr;have hl:=h.nl;have hc:=h.nc;simp[go_sem];by_cases hv:g.valid=true;rotate_left
 ·have hv':g.valid=false:=by simpa using hv
  have e:g.voteE o a b s=8:=by simp[EG.voteE,hv']
  refine aF [] (sW h.ok hv') τ rfl trivial ?_;simp[go_sem,e];exact⟨[],τ,λN=>⟨ζ,trivial⟩⟩
 refine aF [] (qQ h hv) τ rfl trivial ?_;by_cases o1:o<0
 ·have e:g.voteE o a b s=2:=by simp[EG.voteE,hv,show ¬(0<=o/\o<=7) by omega]
  simp[go_sem,o1,e];exact⟨[],τ,λN=>⟨ζ,trivial⟩⟩
 by_cases o2:8<=o
 ·have e:g.voteE o a b s=2:=by simp[EG.voteE,hv,show ¬(0<=o/\o<=7) by omega]
  simp[go_sem,o1,o2,e];exact⟨[],τ,λN=>⟨ζ,trivial⟩⟩
 have o3:0<=o/\o<=7:=ω;by_cases hab:a=b
 ·have e:g.voteE o a b s=6:=by simp[EG.voteE,hv,o3,hab]
  subst hab;simp[go_sem,o1,o2,e];exact⟨[],τ,λN=>⟨ζ,trivial⟩⟩
 simp[go_sem,o1,o2,hab];refine aG (v:=.b (g.th a)) (by simp[go_sem];exact eO g h.ok _ (by simp[go_sem,aU]) a) rfl ?_;by_cases ta:g.th a=true;rotate_left
 ·have ta':g.th a=false:=by simpa using ta
  have e:g.voteE o a b s=6:=by simp[EG.voteE,hv,o3,ta']
  simp[go_sem,ta',e];exact⟨[],τ,λN=>⟨ζ,trivial⟩⟩
 simp[go_sem,ta];refine aG (v:=.b (g.th b)) (by simp[go_sem];exact eO g h.ok _ (by simp[go_sem,aU]) b) rfl ?_;by_cases tb:g.th b=true;rotate_left
 ·have tb':g.th b=false:=by simpa using tb
  have e:g.voteE o a b s=6:=by simp[EG.voteE,hv,o3,tb']
  simp[go_sem,tb',e];exact⟨[],τ,λN=>⟨ζ,trivial⟩⟩
 simp[go_sem,tb];refine aA (iL a b) rfl rfl ?_;simp[go_sem];refine aE aD κ κ ?_;simp[go_sem];have hat:=EG.at76 g h.ok (EG.valid_lks hv) (min a b) (max a b);refine⟨_,dL (v:=.tup [.i (g.lat (min a b) (max a b)),.b (g.lin (min a b) (max a b))]) (by simp[go_sem];exact hat) rfl,?_⟩;by_cases hf:g.lin (min a b) (max a b)=true
 ·have e:g.voteE o a b s=82:=by simp[EG.voteE,hv,o3,hab,ta,tb,hf]
  simp[go_sem,hf,e];exact⟨[],τ,λN=>⟨ζ,trivial⟩⟩
 have hf':g.lin (min a b) (max a b)=false:=by simpa using hf
 simp[go_sem,hf'];refine aE aD κ κ ?_;simp[go_sem];refine⟨_,dL (v:=.tup [.i (g.cat (min a b) (max a b)),.b (g.cin (min a b) (max a b))]) (by simp[go_sem];exact EG.at78 g h.ok (EG.valid_cos hv) _ _) rfl,?_⟩;by_cases hci:g.cin (min a b) (max a b)=true;rotate_left
 ·have hci':g.cin (min a b) (max a b)=false:=by simpa using hci
  have h40:g.nc=40:=by
   by_cases h40:g.nc=40
   ·exact h40
   ·exact absurd (by simp[EG.voteE,hv,o3,hab,ta,tb,hf',hci',h40]) he
  have h40':(g.nc:Int)=40:=ω;have e:g.voteE o a b s=9:=by simp[EG.voteE,hv,o3,hab,ta,tb,hf',hci',h40]
  simp[go_sem,hci',h40',e];exact⟨[],τ,λN=>⟨ζ,trivial⟩⟩
 generalize hk:g.cat (min a b) (max a b)=k;have hkc:k<g.nc:=by rw[<- hk];exact EG.cin_lt hci
 have hvk:=h.nv k hkc;simp[go_sem,hci];refine⟨hkc,aG (v:=.b ((g.c k).has o)) ?_ rfl ?_⟩
 ·simp[go_sem,hkc];refine aRh (g.c k) ω _ o ?_;simp[go_sem,aU]
 by_cases ho:(g.c k).has o=true
 ·have e:g.voteE o a b s=80:=by simp[EG.voteE,hv,o3,hab,ta,tb,hf',hci,hk,ho]
  simp[go_sem,ho,e];exact⟨[],τ,λN=>⟨ζ,trivial⟩⟩
 have ho':(g.c k).has o=false:=by simpa using ho
 simp[go_sem,ho'];refine aG (v:=.b ((g.c k).says s)) ?_ rfl ?_
 ·simp[go_sem,hkc];refine aI2 (g.c k) ω _ s ?_;simp[go_sem,aU]
 by_cases hs:(g.c k).says s=true;rotate_left
 ·have hs':(g.c k).says s=false:=by simpa using hs
  exact absurd (by simp[EG.voteE,hv,o3,hab,ta,tb,hf',hci,hk,ho',hs']) he
 simp[go_sem,hs];have tp:g.th (min a b)=true:=by
  rcases Int.le_total a b with h1 | h1
  ·rw[Int.min_eq_left h1];exact ta
  ·rw[Int.min_eq_right h1];exact tb
 have tq:g.th (max a b)=true:=by
  rcases Int.le_total a b with h1 | h1
  ·rw[Int.max_eq_right h1];exact tb
  ·rw[Int.max_eq_left h1];exact ta
 refine aG (v:=.b (g.clash (min a b) (max a b) s)) ?_ rfl ?_
 ·simp[go_sem];refine aBd g h.ok (EG.valid_lth hv) _ ?_ ?_ _ _ s tp tq
  ·simp[go_sem,aU]
  ·simp[go_sem,aU]
 by_cases hl:g.clash (min a b) (max a b) s=true
 ·have e:g.voteE o a b s=81:=by simp[EG.voteE,hv,o3,hab,ta,tb,hf',hci,hk,ho',hs,hl]
  simp[go_sem,hl,e];exact⟨[],τ,λN=>⟨ζ,trivial⟩⟩
 have hl':g.clash (min a b) (max a b) s=false:=by simpa using hl
 exact absurd (by simp[EG.voteE,hv,o3,hab,ta,tb,hf',hci,hk,ho',hs,hl']) he
theorem bGv {g:EG} (h:g.Sm) {o a b:Int} {s:Bool} (he:g.voteE o a b s=0):Own Tryz.prog 327 [] [g.sv,.i o,.i a,.i b,.b s] (.tup [.agg [.sl 0 2 0 (g.voteG o a b s).nr none,(g.voteG o a b s).ll,(g.voteG o a b s).cc],.b (g.voteD a b s),.i 0]) [(g.voteG o a b s).vr]:=by
 unfold EG.voteE at he;by_cases hv:g.valid=true;rotate_left
 ·have hv':g.valid=false:=by simpa using hv
  rw[if_pos hv'] at he;cases he
 rw[if_neg (by simp[hv])] at he;by_cases o3:0<=o/\o<=7;rotate_left
 ·rw[if_pos o3] at he;cases he
 rw[if_neg (by simp[o3])] at he;by_cases hab:a=b\/g.th a=false\/g.th b=false
 ·rw[if_pos hab] at he;cases he
 rw[if_neg hab] at he;have ta:g.th a=true:=by cases e:g.th a <;> simp[e] at hab ⊢
 have tb:g.th b=true:=by cases e:g.th b <;> simp[e] at hab ⊢
 have hab':¬a=b:=λe=>hab (.inl e);by_cases hf:g.lin (min a b) (max a b)=true
 ·rw[if_pos hf] at he;cases he
 rw[if_neg hf] at he;have hf':g.lin (min a b) (max a b)=false:=by simpa using hf
 by_cases hci:g.cin (min a b) (max a b)=false
 ·rw[if_pos hci] at he;have h40:¬g.nc=40:=λe=>by rw[if_pos e] at he;cases he
  have eG:g.voteG o a b s=g.addC (g.cat (min a b) (max a b)) ⟨min a b,max a b,1,λ_=>⟨o,s⟩⟩:=by simp[EG.voteG,hci]
  have eD:g.voteD a b s=false:=by simp[EG.voteD,hci]
  rw[eG,eD];exact aX4 h hv o3 hab' ta tb hf' hci h40
 rw[if_neg hci] at he;have hci':g.cin (min a b) (max a b)=true:=by simpa using hci
 by_cases ho:(g.c (g.cat (min a b) (max a b))).has o=true
 ·rw[if_pos ho] at he;cases he
 rw[if_neg ho] at he;have ho':(g.c (g.cat (min a b) (max a b))).has o=false:=by simpa using ho
 by_cases hs:(g.c (g.cat (min a b) (max a b))).says s=false
 ·have eG:g.voteG o a b s=g.addV (g.cat (min a b) (max a b)) ⟨o,s⟩:=by simp[EG.voteG,hci',hs]
  have eD:g.voteD a b s=false:=by simp[EG.voteD,hci',hs]
  rw[eG,eD];exact aX2 h hv o3 hab' ta tb hf' hci' rfl ho' hs
 rw[if_neg hs] at he;have hs':(g.c (g.cat (min a b) (max a b))).says s=true:=by simpa using hs
 by_cases hl:g.clash (min a b) (max a b) s=true
 ·rw[if_pos hl] at he;cases he
 have eG:g.voteG o a b s=(g.dropC (g.cat (min a b) (max a b))).addL (g.lat (min a b) (max a b)) ⟨min a b,max a b,s⟩:=by simp[EG.voteG,hci',hs']
 have eD:g.voteD a b s=true:=by simp[EG.voteD,hci',hs']
 rw[eG,eD];exact aX3 h hv o3 hab' ta tb hf' hci' rfl ho' hs' (by simpa using hl)
theorem aSx {f:FuncId} {args:List SV} {g:EG} {d:Bool} {n:Int} (h:Own Tryz.prog f [] args (.tup [.agg [.sl 0 2 0 g.nr none,g.ll,g.cc],.b d,.i n]) [g.vr]):Pure Tryz.prog f args (· =.tup [g.sv,.b d,.i n]):=by
 refine Pure.ofSub (h.pure ?_);simp[go_sem]
theorem aSy {f:FuncId} {args:List SV} {g:EG} {m n:Int} (h:Own Tryz.prog f [] args (.tup [.agg [.sl 0 2 0 g.nr none,g.ll,g.cc],.i m,.i n]) [g.vr]):Pure Tryz.prog f args (· =.tup [g.sv,.i m,.i n]):=by
 refine Pure.ofSub (h.pure ?_);simp[go_sem]
theorem aK3 {f:FuncId} {args:List SV} {g:EG} {n:Int} (h:Own Tryz.prog f [] args (.tup [.agg [.sl 0 2 0 g.nr none,g.ll,g.cc],.i n]) [g.vr]):Pure Tryz.prog f args (· =.tup [g.sv,.i n]):=by
 refine Pure.ofSub (h.pure ?_);simp[go_sem]
def EG.zero:EG:=⟨0,λ_=>⟨0,false⟩,0,λ_=>⟨0,0,false⟩,0,λ_=>⟨0,0,0,λ_=>⟨0,false⟩⟩⟩
theorem aKw {f:FuncId} {args:List SV} {n:Int} (h:Own Tryz.prog f [] args (.tup [lW,.i n]) []):Pure Tryz.prog f args (· =.tup [EG.zero.sv,.i n]):=by
 refine Pure.ofSub (h.pure ?_);simp[go_sem,EG.zero]
theorem aIh {f:FuncId} {args:List SV} {m n:Int} (h:Own Tryz.prog f [] args (.tup [lW,.i m,.i n]) []):Pure Tryz.prog f args (· =.tup [EG.zero.sv,.i m,.i n]):=by
 refine Pure.ofSub (h.pure ?_);simp[go_sem,EG.zero]
theorem bA1 {f:FuncId} {args:List SV} {d:Bool} {n:Int} (h:Own Tryz.prog f [] args (.tup [lW,.b d,.i n]) []):Pure Tryz.prog f args (· =.tup [EG.zero.sv,.b d,.i n]):=by
 refine Pure.ofSub (h.pure ?_);simp[go_sem,EG.zero]
theorem aHd {g:EG} (h:g.Sm) (hv:g.valid=true) {q:Int} (h0:¬(0<=q/\q<=100)):Own Tryz.prog 326 [] [g.sv,.i q] (.tup [lW,.i 0,.i 2]) []:=by
 refine γ Tryz.func326 ?_;simp[go_sem];refine aF [] (qQ h hv) τ rfl trivial ?_;have q4:∀n,n<7->¬(n=2+(g.nc+1+1+1+1+1)):=λn _=>ω;by_cases q0:q<0
 ·simp[go_sem,q0,q4];exact⟨[],τ,λN=>⟨ζ,trivial⟩⟩
 ·have q1:100<q:=ω;simp[go_sem,q0,q1,q4];exact⟨[],τ,λN=>⟨ζ,trivial⟩⟩
theorem aLv {g:EG} (h:g.Sm) (hv:g.valid=true) {q:Int} (h0:0<=q/\q<=100) (hn:g.nr=24):Own Tryz.prog 326 [] [g.sv,.i q] (.tup [lW,.i 0,.i 9]) []:=by
 refine γ Tryz.func326 ?_;simp[go_sem];refine aF [] (qQ h hv) τ rfl trivial ?_;have q0:¬q<0:=ω;have q1:¬100<q:=ω;have q2:(g.nr:Int)=24:=ω;simp[go_sem,q0,q1,q2];exact⟨[],τ,λN=>⟨ζ,trivial⟩⟩
theorem aIx {g:EG} (h:g.Sm) (hv:g.valid=true) {a:Int} (ha:g.th a=false):Own Tryz.prog 329 [] [g.sv,.i a] (.tup [lW,.i 6]) []:=by
 refine γ Tryz.func329 ?_;simp[go_sem];refine aF [] (qQ h hv) τ rfl trivial ?_;simp[go_sem];refine aG (v:=.b (g.th a)) ?_ rfl ?_
 ·simp[go_sem];exact eO g h.ok _ (by simp[go_sem,aU]) a
 simp[go_sem,ha];exact⟨[],τ,λN=>⟨ζ,trivial⟩⟩
theorem aEe {g:EG} (h:g.Sm) (hv:g.valid=true) {a b:Int} (hf:g.lin (min a b) (max a b)=false):Own Tryz.prog 328 [] [g.sv,.i a,.i b] (.tup [lW,.i 6]) []:=by
 refine γ Tryz.func328 ?_;have hr:=h.nr;have hl:=h.nl;have hc:=h.nc;have hat:=EG.at76 g h.ok (EG.valid_lks hv) (min a b) (max a b);simp[go_sem];refine aF [] (qQ h hv) τ rfl trivial ?_;simp[go_sem];refine aE aD κ κ ?_;simp[go_sem];refine⟨_,aB (iL a b) rfl rfl,?_⟩;simp[go_sem];refine⟨_,dL (v:=.tup [.i (g.lat (min a b) (max a b)),.b (g.lin (min a b) (max a b))]) ?_ rfl,?_⟩
 ·simp[go_sem];exact hat
 simp[go_sem,hf];exact⟨[],τ,λN=>⟨ζ,trivial⟩⟩
def EG.addE (g:EG) (q:Int):Int:=if g.valid=false then 8 else if ¬(0<=q/\q<=100) then 2 else if g.nr=24 then 9 else 0
def EG.addX (g:EG) (q:Int):EG:=if g.addE q=0 then g.addG q else EG.zero
def EG.addN (g:EG) (q:Int):Int:=if g.addE q=0 then g.nr else 0
theorem aZj {g:EG} (h:g.Sm) (q:Int):Pure Tryz.prog 326 [g.sv,.i q] (· =.tup [(g.addX q).sv,.i (g.addN q),.i (g.addE q)]):=by
 unfold EG.addX EG.addN EG.addE;by_cases hv:g.valid=true;rotate_left
 ·have hv':g.valid=false:=by simpa using hv
  simpa [hv'] using aIh (aUr h.ok hv' q)
 by_cases h0:0<=q/\q<=100;rotate_left
 ·simpa [hv,h0] using aIh (aHd h hv h0)
 by_cases hn:g.nr=24
 ·simpa [hv,h0,hn] using aIh (aLv h hv h0 hn)
 have hr:=EG.valid_nr hv;simpa [hv,h0,hn] using aSy (g:=g.addG q) (bIh h hv h0.1 h0.2 ω)
def EG.remE (g:EG) (a:Int):Int:=if g.valid=false then 8 else if g.th a=false then 6 else 0
def EG.remX (g:EG) (a:Int):EG:=if g.remE a=0 then g.remG a.toNat else EG.zero
theorem bBj {g:EG} (h:g.Sm) (a:Int):Pure Tryz.prog 329 [g.sv,.i a] (· =.tup [(g.remX a).sv,.i (g.remE a)]):=by
 unfold EG.remX EG.remE;by_cases hv:g.valid=true;rotate_left
 ·have hv':g.valid=false:=by simpa using hv
  simpa [hv'] using aKw (aIw h.ok hv' a)
 by_cases ht:g.th a=true;rotate_left
 ·have ht':g.th a=false:=by simpa using ht
  simpa [hv,ht'] using aKw (aIx h hv ht')
 obtain⟨n,rfl⟩:∃n:Nat,a=n:=⟨a.toNat,by have:=EG.th_iff.1 ht;omega⟩;simpa [hv,ht] using aK3 (g:=g.remG n) (bI8 h hv ht)
def EG.wdE (g:EG) (a b:Int):Int:=if g.valid=false then 8 else if g.lin (min a b) (max a b)=false then 6 else 0
def EG.wdX (g:EG) (a b:Int):EG:=if g.wdE a b=0 then g.dropL (g.lat (min a b) (max a b)) else EG.zero
theorem bGw {g:EG} (h:g.Sm) (a b:Int):Pure Tryz.prog 328 [g.sv,.i a,.i b] (· =.tup [(g.wdX a b).sv,.i (g.wdE a b)]):=by
 unfold EG.wdX EG.wdE;by_cases hv:g.valid=true;rotate_left
 ·have hv':g.valid=false:=by simpa using hv
  simpa [hv'] using aKw (aEd h.ok hv' a b)
 by_cases ht:g.lin (min a b) (max a b)=true;rotate_left
 ·have ht':g.lin (min a b) (max a b)=false:=by simpa using ht
  simpa [hv,ht'] using aKw (aEe h hv ht')
 simpa [hv,ht] using aK3 (g:=g.dropL (g.lat (min a b) (max a b))) (wdF h hv ht)
def EG.voteX (g:EG) (o a b:Int) (s:Bool):EG:=if g.voteE o a b s=0 then g.voteG o a b s else EG.zero
def EG.voteB (g:EG) (o a b:Int) (s:Bool):Bool:=if g.voteE o a b s=0 then g.voteD a b s else false
theorem aX1 {g:EG} (h:g.Sm) (o a b:Int) (s:Bool):Pure Tryz.prog 327 [g.sv,.i o,.i a,.i b,.b s] (· =.tup [(g.voteX o a b s).sv,.b (g.voteB o a b s),.i (g.voteE o a b s)]):=by
 unfold EG.voteX EG.voteB;by_cases e:g.voteE o a b s=0
 ·rw[if_pos e,if_pos e,e];exact aSx (bGv h e)
 ·rw[if_neg e,if_neg e];exact bA1 (bB6 h o a b s e)
end Go.Gx
namespace Go.Gx.Rg
open Go.RowKit Go.Proofs Go.Proofs.YtncccnmmjfapnaaGreat
def gL (get one:Nat->Nat->RV) (i:Nat):Nat->Nat->RV:=λr c=>if r<i then get r c else if r=i then one 0 c else get (r - 1) c
theorem aM3 (n i:Nat) (hn:n<=1000000) (hi:i<=n) (get one:Nat->Nat->RV) :
 Own Tryz.prog 448 [.vec 59 3 n λr c=>.r (get r c),.vec 59 3 1 λr c=>.r (one r c)] [.sl 0 3 0 n none,.i i,.sl 1 3 0 1 none] (.sl 0 3 0 (n+1) none) [.vec 59 3 (n+1) λr c=>.r (gL get one i r c)]:=by
 refine γ Tryz.func448 ?_;simp[go_sem];refine⟨hi,?_⟩;by_cases hin:i=n
 ·subst hin;rw[if_pos rfl];refine⟨ω,[0],τ,λN=>⟨?_,?_⟩⟩
  ·simp[go_sem]
  ·simp[go_sem];intro r c hr hc;unfold aJ gL;by_cases h:r<i
   ·rw[if_pos h,if_pos h];rfl
   ·rw[if_neg h,if_pos hr,if_neg h,if_pos ω,show r - i=0 from ω];rfl
 rw[if_neg ω];refine⟨ω,?_⟩;refine sA aD (ref:=0) (kk:=3) (n:=n) ζ (M:=bD _) rfl rfl (by simp[dC]) ?_;intro C hC _ hC2;simp only [maxLen] at hC2;by_cases hc:C<n+1
 ·have hc':(C:Int)<(n:Int)+1:=ω;left;simp[go_sem,hc',hi];refine⟨ω,ω,⟨ω,ω,ω⟩,ω,?_⟩;refine bE aD κ 8 κ rfl rfl ?_;simp[go_sem,hi];have e1:i+(n+1 - i)=n+1:=ω;refine⟨ω,⟨ω,ω⟩,ω,[2],τ,λN=>⟨?_,?_⟩⟩
  ·simp[go_sem,e1]
  ·simp[go_sem];refine⟨ω,λr c hr hc=>?_⟩;unfold gL aJ
   repeat' split
   all_goals first | (exfalso;omega) | rfl | exact congrArg SV.r (congrFun (congrArg get ω) _) | exact congrArg SV.r (congrFun (congrArg one ω) _)
 ·have hc':¬(C:Int)<(n:Int)+1:=ω;have hn1:¬(n:Int)+1<=(n:Int):=ω;right;simp[go_sem,hc',hi,hn1];refine⟨ω,⟨ω,ω⟩,ω,ω,?_⟩;refine iG aD Tryz.func455 κ κ κ (tS:=34) (tR:=4) κ (el:=59) rfl rfl (q:=1) (r:=0) (hq:=rfl) (hr:=rfl) δ ω ω ω ?_;simp[go_sem,hi,hc'];refine bE aD κ 8 κ rfl rfl ?_;simp[go_sem,hi];refine⟨ω,ω,ω,⟨ω,ω⟩,ω,ω,[0],τ,λN=>⟨?_,?_⟩⟩
  ·simp[go_sem]
  ·simp[go_sem];refine⟨ω,λr c hr hc=>?_⟩;unfold gL
   repeat' split
   all_goals first | (exfalso;omega) | rfl | exact congrArg SV.r (congrFun (congrArg get ω) _) | exact congrArg SV.r (congrFun (congrArg one ω) _)
theorem aM4 (n i:Nat) (hn:n<=1000000) (hi:i<=n) (get one:Nat->Nat->RV) :
 Own Tryz.prog 449 [.vec 61 5 n λr c=>.r (get r c),.vec 61 5 1 λr c=>.r (one r c)] [.sl 0 5 0 n none,.i i,.sl 1 5 0 1 none] (.sl 0 5 0 (n+1) none) [.vec 61 5 (n+1) λr c=>.r (gL get one i r c)]:=by
 refine γ Tryz.func449 ?_;simp[go_sem];refine⟨hi,?_⟩;by_cases hin:i=n
 ·subst hin;rw[if_pos rfl];refine⟨ω,[0],τ,λN=>⟨?_,?_⟩⟩
  ·simp[go_sem]
  ·simp[go_sem];intro r c hr hc;unfold aJ gL;by_cases h:r<i
   ·rw[if_pos h,if_pos h];rfl
   ·rw[if_neg h,if_pos hr,if_neg h,if_pos ω,show r - i=0 from ω];rfl
 rw[if_neg ω];refine⟨ω,?_⟩;refine sA aD (ref:=0) (kk:=5) (n:=n) ζ (M:=bD _) rfl rfl (by simp[dC]) ?_;intro C hC _ hC2;simp only [maxLen] at hC2;by_cases hc:C<n+1
 ·have hc':(C:Int)<(n:Int)+1:=ω;left;simp[go_sem,hc',hi];refine⟨ω,ω,⟨ω,ω,ω⟩,ω,?_⟩;refine bE aD κ 8 κ rfl rfl ?_;simp[go_sem,hi];have e1:i+(n+1 - i)=n+1:=ω;refine⟨ω,⟨ω,ω⟩,ω,[2],τ,λN=>⟨?_,?_⟩⟩
  ·simp[go_sem,e1]
  ·simp[go_sem];refine⟨ω,λr c hr hc=>?_⟩;unfold gL aJ
   repeat' split
   all_goals first | (exfalso;omega) | rfl | exact congrArg SV.r (congrFun (congrArg get ω) _) | exact congrArg SV.r (congrFun (congrArg one ω) _)
 ·have hc':¬(C:Int)<(n:Int)+1:=ω;have hn1:¬(n:Int)+1<=(n:Int):=ω;right;simp[go_sem,hc',hi,hn1];refine⟨ω,⟨ω,ω⟩,ω,ω,?_⟩;refine iG aD Tryz.func457 κ κ κ (tS:=36) (tR:=4) κ (el:=61) rfl rfl (q:=1) (r:=0) (hq:=rfl) (hr:=rfl) δ ω ω ω ?_;simp[go_sem,hi,hc'];refine bE aD κ 8 κ rfl rfl ?_;simp[go_sem,hi];refine⟨ω,ω,ω,⟨ω,ω⟩,ω,ω,[0],τ,λN=>⟨?_,?_⟩⟩
  ·simp[go_sem]
  ·simp[go_sem];refine⟨ω,λr c hr hc=>?_⟩;unfold gL
   repeat' split
   all_goals first | (exfalso;omega) | rfl | exact congrArg SV.r (congrFun (congrArg get ω) _) | exact congrArg SV.r (congrFun (congrArg one ω) _)
structure QG where
 (p r l w t:Int) (nk:Nat) (k:Nat->Int)
abbrev QG.ks (q:QG):SV:=.r (.rs 1 q.nk λi _=>.i (q.k i))
abbrev QG.sv (q:QG):SV:=.agg [.i q.p,.i q.r,.i q.l,.i q.w,.i q.t,q.ks]
def QG.OK (q:QG):Prop:=(q.nk:Int)<2 ^ 62
def QG.c1 (q:QG):Bool:=kindB q.p&&kindB q.r&&kindB q.l&&persB q.w&&timeB q.t
def QG.c2 (q:QG):Bool:=(List.range q.nk).all λi=>decide (0<=q.k i)&&decide (q.k i<=7)
def QG.c3 (q:QG):Bool:=(List.range (q.nk - 1)).all λi=>decide (q.k i<q.k (i+1))
def QG.cks (q:QG):Bool:=decide ((q.nk:Int)<=2)&&q.c2&&q.c3
def QG.err (q:QG):Int:=if q.c1 then (if q.cks then 0 else 91) else 2
theorem aKb {x y:Int}:bU x y<0↔x<y:=by unfold bU;repeat' split <;> omega
theorem aS7 (n:Nat) (hn:(n:Int)<2 ^ 62) (x:Nat->Int) :
 Pure Tryz.prog 381 [.r (.rs 1 n λi _=>.i (x i)),.fn (.func 213) [] []] (· =.b ((List.range (n - 1)).all λi=>decide (x i<x (i+1)))):=by
 refine π Tryz.func381 ?_;simp[go_sem];refine aH aD (α:=Nat) (λk=>[(0,.r (.rs 1 n λi _=>.i (x i))),(1,.fn (.func 213) [] []),(5,.i ((k:Int)+1))]) (λ_=>[]) 0 (λk=>(k=0\/k+1<=n)/\∀j,j<k->x j<x (j+1)) (λk=>n - k) 0 (λ_=>rfl) τ ζ ζ ?_;intro k J hi;simp[go_sem];split
 ·rename_i hlt;refine bE aD κ 10 κ rfl rfl ?_;simp[go_sem];refine⟨ω,ω,⟨ω,ω⟩,ω,?_⟩;refine aA (lP (x k) (x (k+1))) rfl rfl ?_;simp[go_sem];split
  ·rename_i h0;refine⟨k,ω,?_⟩;have:=aKb (x:=x k) (y:=x (k+1));omega
  ·rename_i h0;refine⟨ω,k+1,⟨ω,λj hj=>?_⟩,ω,τ⟩;by_cases hjk:j=k
   ·subst hjk;exact aKb.1 ω
   ·exact hi.2 j ω
 ·rename_i hlt;intro j hj;exact hi.2 j ω
theorem checkQuery40 (q:QG) (h:q.OK):Pure Tryz.prog 308 [q.sv] (· =.i q.err):=by
 have hk:(q.nk:Int)<2 ^ 62:=h;refine π Tryz.func308 ?_;simp[go_sem];refine aG (v:=.b (kindB q.p&&kindB q.r&&kindB q.l)) ?_ rfl ?_
 ·simp[go_sem];exact aRy rfl rfl rfl
 have fin:∀c:Bool,q.c1=c->q.err=if c then (if q.cks then 0 else 91) else 2:=λc hc=>by rw[QG.err,hc]
 generalize ha:(kindB q.p&&kindB q.r&&kindB q.l)=a
 cases a
 ·simp[go_sem];simp[fin false (by simp[QG.c1,ha])]
 simp[go_sem];refine aG (v:=.b (persB q.w)) ?_ rfl ?_
 ·simp[go_sem];exact tA rfl
 generalize hb:persB q.w=b
 cases b
 ·simp[go_sem];simp[fin false (by simp[QG.c1,ha,hb])]
 simp[go_sem];refine aG (v:=.b (timeB q.t)) ?_ rfl ?_
 ·simp[go_sem];exact aTo rfl
 generalize hc:timeB q.t=c
 cases c
 ·simp[go_sem];simp[fin false (by simp[QG.c1,ha,hb,hc])]
 have fin:=fin true (by simp[QG.c1,ha,hb,hc]);by_cases h2:(q.nk:Int)<=2;rotate_left
 ·have h2':2<(q.nk:Int):=ω;simp[go_sem,h2'];simp[fin,QG.cks,h2]
 have h2':¬2<(q.nk:Int):=ω;simp[go_sem,h2'];refine aA ((uB 0 7 q.nk ω q.k).val (v':=.b q.c2) rfl) rfl rfl ?_;generalize hd:q.c2=d
 cases d
 ·simp[go_sem];simp[fin,QG.cks,hd]
 simp[go_sem];refine aA ((aS7 q.nk hk q.k).val (v':=.b q.c3) rfl) rfl rfl ?_;generalize he:q.c3=e
 cases e
 ·simp[go_sem];simp[fin,QG.cks,he]
 ·simp[go_sem];simp[fin,QG.cks,h2,hd,he]
theorem aV6 (n:Nat) (hn:(n:Int)<2 ^ 62) (x:Nat->Int):Pure Tryz.prog 376 [.r (.rs 1 n λi _=>.i (x i))]
 (· =.b (decide ((n:Int)<=2)&&((List.range n).all λi=>decide (0<=x i)&&decide (x i<=7))&&(List.range (n - 1)).all λi=>decide (x i<x (i+1)))):=by
 refine π Tryz.func376 ?_;by_cases h2:(n:Int)<=2;rotate_left
 ·have h2':2<(n:Int):=ω;simp[go_sem,h2',h2]
 have h2':¬2<(n:Int):=ω;simp only [h2,decide_true,Bool.true_and];simp[go_sem,h2'];refine aH aD (α:=Nat) (λk=>[(0,.r (.rs 1 n λi _=>.i (x i))),(3,.i k)]) (λ_=>[]) 0 (λk=>k<=n/\(∀j,j<k->0<=x j/\x j<=7)/\∀j,j+1<k->x j<x (j+1)) (λk=>n - k) 0 (λ_=>rfl) τ ζ ζ ?_;intro k J hi;simp[go_sem];split
 ·rename_i hlt;refine aE aD κ κ ?_;by_cases hb:0<=x k/\x k<=7
  ·have hv:=(iQ (x k) 0 7).val (v':=.b true) (by simp[btw,hb]);rcases k with _ | k
   ·simp[go_sem];refine⟨ω,_,aB hv rfl rfl,?_⟩;simp[go_sem];exact⟨1,⟨ω,λj hj=>by rw[lt1 hj];exact hb,λj hj=>ω⟩,ω,rfl⟩
   ·simp[go_sem];refine⟨ω,ω,_,aB hv rfl rfl,?_⟩;simp[go_sem];refine⟨ω,ω,ω,ω,?_⟩;split
    ·rename_i hle;exact λ_=>⟨k,ω,ω⟩
    ·rename_i hle;refine⟨ω,k+2,⟨ω,eC hi.2.1 hb,λj hj=>?_⟩,ω,ω⟩;by_cases hjk:j=k
     ·subst hjk;omega
     ·exact hi.2.2 j ω
  ·have hv:=(iQ (x k) 0 7).val (v':=.b false) (by simp[btw];omega);simp[go_sem];refine⟨ω,_,aB hv rfl rfl,?_⟩;simp[go_sem];exact λh=>absurd (h k hlt) hb
 ·rename_i hge;exact⟨λj hj=>hi.2.1 j ω,λj hj=>hi.2.2 j ω⟩
def ask (g:RG) (q:QG):Int:=if g.valid then q.err else 8
def ConG.cov (q:QG) (c:ConG):Bool:=decide (c.p=q.w)&&decide (c.q=q.p)&&decide (q.t<c.u)
def WarG.cov (q:QG) (w:WarG):Bool:=decide (w.l=q.l)&&decide (w.p=q.w)&&btw w.f (w.t - 1) q.t
def WarG.cov' (q:QG) (w:WarG):Bool:=decide (w.l=q.l)&&decide (w.p=q.w)&&decide (w.f<=q.t)&&decide (q.t<w.t)
theorem WarG.cov_eq (q:QG) (w:WarG):w.cov q=w.cov' q:=by
 unfold WarG.cov WarG.cov' btw;rw[show decide (q.t<=w.t - 1)=decide (q.t<w.t) from by congr 1;exact propext ω];simp[Bool.and_assoc]
def RG.hasC (g:RG) (q:QG):Bool:=(List.range g.nc).any λi=>(g.c i).cov q
def RG.hasW (g:RG) (q:QG):Bool:=(List.range g.nw).any λi=>(g.w i).cov q
def QG.at6 (q:QG) (gt:Nat->Nat->RV):Prop:=gt 0 0=.i q.p/\gt 0 1=.i q.r/\gt 0 2=.i q.l/\gt 0 3=.i q.w/\gt 0 4=.i q.t
theorem aPc (q:QG) (c:ConG) (gt:Nat->Nat->RV) (hgt:q.at6 gt):Pure Tryz.prog 383 [c.sv,.r (.rp 6 1 gt 0 0)] (· =.b (c.cov q)):=by
 refine π Tryz.func383 ?_;obtain⟨g0,g1,g2,g3,g4⟩:=hgt;by_cases h1:c.p=q.w
 ·by_cases h2:c.q=q.p
  ·simp[go_sem,g0,g1,g2,g3,g4,h1,h2];simp[ConG.cov,h1,h2]
  ·simp[go_sem,g0,g1,g2,g3,g4,h1,h2];simp[ConG.cov,h1,h2]
 ·simp[go_sem,g0,g1,g2,g3,g4,h1];simp[ConG.cov,h1]
theorem aPb (g:RG) (q:QG) (h:g.OK):Pure Tryz.prog 382 [g.sv,q.sv] (· =.b (g.hasC q)):=by
 refine π Tryz.func382 ?_;simp[go_sem];refine aG (v:=.b (g.hasC q)) ?_ rfl ?_
 ·simp[go_sem];exact has120 g.nc (by have:=h.nc;omega) _ (383:FuncId) _ (λi=>(g.c i).cov q) rfl λi hi=>aPc q (g.c i) _ ⟨rfl,rfl,rfl,rfl,rfl⟩
 ·simp[go_sem]
theorem bAs {lo hi t:Int} {get:Nat->Nat->RV} (h0:get 0 0=.i t):Pure Tryz.prog 105 [.i lo,.i hi,.r (.rs 1 1 get)] (· =.b (btw lo hi t)):=aQw h0
theorem aPe (q:QG) (w:WarG) (gt:Nat->Nat->RV) (hgt:q.at6 gt) (hw:-(2:Int) ^ 62<w.t) (hw':w.t<2 ^ 62):Pure Tryz.prog 385 [w.sv,.r (.rp 6 1 gt 0 0)] (· =.b (w.cov q)):=by
 refine π Tryz.func385 ?_;obtain⟨g0,g1,g2,g3,g4⟩:=hgt;by_cases h1:w.l=q.l
 ·by_cases h2:w.p=q.w
  ·simp[go_sem,g0,g1,g2,g3,g4,h1,h2];refine⟨ω,?_⟩;refine aG (v:=.b (btw w.f (w.t - 1) q.t)) ?_ rfl ?_
   ·simp[go_sem];exact bAs rfl
   ·simp[go_sem];simp[WarG.cov,h1,h2]
  ·simp[go_sem,g0,g1,g2,g3,g4,h1,h2];simp[WarG.cov,h1,h2]
 ·simp[go_sem,g0,g1,g2,g3,g4,h1];simp[WarG.cov,h1]
structure RG.Mid (g:RG):Prop where
 wt:∀i,i<g.nw->-(2:Int) ^ 62<(g.w i).t/\(g.w i).t<2 ^ 62
 rt:∀i,i<g.nr->-(2:Int) ^ 62<(g.r i).t/\(g.r i).t<2 ^ 62/\1<=(g.r i).b/\(g.r i).b<=3
theorem vZ {lo hi n:Int}:btw lo hi n=true↔lo<=n/\n<=hi:=by simp[btw]
theorem RG.mid {g:RG} (h:g.valid=true):g.Mid:=by
 simp only [RG.valid,Bool.and_eq_true] at h;obtain⟨⟨⟨⟨⟨h1,_⟩,h3⟩,_⟩,_⟩,_⟩:=h;simp only [RG.c1,RG.c3,Bool.and_eq_true,List.all_eq_true,List.mem_range] at h1 h3;refine⟨λi hi=>?_,λi hi=>?_⟩
 ·have:=h3.2 i hi;simp only [WarG.good,Bool.and_eq_true,timeB,vZ] at this;omega
 ·have:=h1.2 i hi;simp only [RuleG.good,Bool.and_eq_true,timeB,vZ] at this;omega
theorem aPd (g:RG) (q:QG) (h:g.OK) (hm:g.Mid):Pure Tryz.prog 384 [g.sv,q.sv] (· =.b (g.hasW q)):=by
 refine π Tryz.func384 ?_;simp[go_sem];refine aG (v:=.b (g.hasW q)) ?_ rfl ?_
 ·simp[go_sem];exact has122 g.nw (by have:=h.nw;omega) _ (385:FuncId) _ (λi=>(g.w i).cov q) rfl λi hi=>aPe q (g.w i) _ ⟨rfl,rfl,rfl,rfl,rfl⟩ (hm.wt i hi).1 (hm.wt i hi).2
 ·simp[go_sem]
theorem aPf (g:RG) (q:QG):Pure Tryz.prog 386 [g.sv,q.sv] (· =.b true):=by
 refine π Tryz.func386 ?_;simp[go_sem]
theorem aPa:Pure Tryz.prog 309 [] (· =.agg [.r (.v .nilFunc),.fn (.func 382) [] [],.fn (.func 384) [] [],.fn (.func 386) [] []]):=by
 refine π Tryz.func309 ?_;simp[go_sem]
def lN (g:RG) (q:QG) (b:Int):Bool:=if b=3 then true else if b=1 then g.hasC q else g.hasW q
theorem sD {n:Nat} {p:Nat->Bool} {i:Nat} (hi:i<n) (h:p i=true):(List.range n).any p=true:=by
 rw[List.any_eq_true];exact⟨i,List.mem_range.2 hi,h⟩
theorem xB {n:Nat} {p:Nat->Bool} (h:∀i,i<n->p i=false):(List.range n).any p=false:=by
 rw[List.any_eq_false];exact λi hi=>by simp[h i (List.mem_range.1 hi)]
def ruleB (g:RG) (q:QG) (r:RuleG):Bool:=decide (r.p=q.p)&&decide (r.r=q.r)&&decide (r.l=q.l)&&decide (r.f<=q.t)&&decide (q.t<r.t)&&decide (r.k<=q.nk)&&lN g q r.b
def RG.apl (g:RG) (q:QG) (n:Nat):List Nat:=(List.range n).filter λi=>ruleB g q (g.r i)
theorem RG.apl_yes {g:RG} {q:QG} {n:Nat} (h:ruleB g q (g.r n)=true):g.apl q (n+1)=g.apl q n++[n]:=by simp[RG.apl,List.range_succ,h]
theorem RG.apl_no {g:RG} {q:QG} {n:Nat} (h:ruleB g q (g.r n)=false):g.apl q (n+1)=g.apl q n:=by simp[RG.apl,List.range_succ,h]
theorem RG.apl_len (g:RG) (q:QG) (n:Nat):(g.apl q n).length<=n:=by
 have:=List.length_filter_le (λi=>ruleB g q (g.r i)) (List.range n);simpa [RG.apl] using this
def RG.lev (g:RG) (q:QG):Nat->Int
 | 0=>0
 | n+1=>if ruleB g q (g.r n) then max (g.lev q n) (g.r n).s else g.lev q n
abbrev QG.bx (q:QG):Option Reg:=some (.box [.i q.p,.i q.r,.i q.l,.i q.w,.i q.t,q.ks])
abbrev aPg:Option Reg:=some (.box [.r (.v .nilFunc),.fn (.func 382) [] [],.fn (.func 384) [] [],.fn (.func 386) [] []])
def RG.apq (g:RG) (q:QG):List Nat:=if ask g q=0 then g.apl q g.nr else []
theorem tW {g:RG} {q:QG} (h:ask g q=0):g.valid=true/\q.err=0:=by
 unfold ask at h;split at h
 ·exact⟨by assumption,h⟩
 ·omega
theorem aJ4 {f t x:Int}:btw f (t - 1) x=(decide (f<=x)&&decide (x<t)):=by
 unfold btw;congr 2;exact propext ω
theorem RG.small {g:RG} (h:g.valid=true):g.nr<=20/\g.nc<=40/\g.nw<=20/\g.nm<=40:=by
 simp only [RG.valid,RG.c1,RG.c2,RG.c3,RG.c4,Bool.and_eq_true,decide_eq_true_eq] at h;omega
theorem nA {l:List Nat} {k i:Nat} {h:Nat->Nat->SV} (hh:h 0 0=.i (k:Int)) (hi:i<l.length+1):aJ l.length 1 (λi j=>.r (cQ lI l i j)) h i 0=.r (cQ lI (l++[k]) i 0):=
 mS (k:=1) rfl ω (λj hj=>by obtain rfl:j=0:=ω
                            exact hh) hi
theorem aA9 (g:RG) (q:QG) (h:g.OK) (hq:q.OK):Pure Tryz.prog 211 [g.sv,q.sv] (· =.tup [aWp (g.apq q),.i (ask g q)]):=by
 refine Pure.ofSub ?_;refine π Tryz.func211 ?_;have hr:=h.nr;simp[go_sem];refine aA (check28 g h) rfl rfl ?_;by_cases hv:g.valid=true;rotate_left
 ·have ha:ask g q=8:=by unfold ask;rw[if_neg hv]
  simp[go_sem,hv];simp[RG.apq,ha]
 have ha:ask g q=q.err:=by unfold ask;rw[if_pos hv]
 have hm:=RG.mid hv;have hsm:=(RG.small hv).1;simp[go_sem,hv];refine aA (checkQuery40 q hq) rfl rfl ?_;by_cases he:q.err=0;rotate_left
 ·simp[go_sem,he];simp[RG.apq,ha,he]
 simp[go_sem,he];refine aA aPa rfl rfl ?_;simp[go_sem];refine bK (GSt.adopt 8 3 1 (λi j=>.r (cQ lI [] i j)) ζ) ?_;refine bF aD (α:=Nat) (λk=>[(2,.ptr 0 0 4 0),(3,.ptr 1 0 6 0),(7,.ptr 2 0 4 0),(8,.sl 3 1 0 (g.apl q k).length none),(23,RuleG.rs g.nr g.r),(24,.i g.nr),(25,.i k)])
  (λk=>g.box++[q.bx,aPg,some (.vec 3 1 (g.apl q k).length λi j=>.r ((cQ lI (g.apl q k)) i j))]) 4 (λk=>k<=g.nr) (λk=>g.nr - k) 0 (λ_=>rfl) τ (by simp[go_sem,show g.apl q 0=[] from rfl]) (by simp[go_sem,show g.apl q 0=[] from rfl]) ?_
 intro k J hi;simp[go_sem];split;rotate_left
 ·rename_i hge;have hk:k=g.nr:=ω;subst hk;simp[RG.apq,ha,he]
 rename_i hlt;refine⟨hlt,?_⟩;have hmk:=hm.rt k hlt;have hal:=RG.apl_len g q k;have no:ruleB g q (g.r k)=false->k+1<=g.nr/\g.nr - (k+1)<g.nr - k/\g.apl q (k+1)=g.apl q k:=λh=>⟨ω,ω,RG.apl_no h⟩;have yes:ruleB g q (g.r k)=true->k+1<=g.nr/\g.nr - (k+1)<g.nr - k/\g.apl q (k+1)=g.apl q k++[k]:=λh=>⟨ω,ω,RG.apl_yes h⟩;by_cases e1:(g.r k).p=q.p;rotate_left
 ·have hn:=no (by simp[ruleB,e1]);simp[go_sem,e1];refine aE aD κ κ ?_;simp[go_sem];exact⟨ω,k+1,hn.1,hn.2.1,by simp[hn.2.2],by simp[hn.2.2]⟩
 by_cases e2:(g.r k).r=q.r;rotate_left
 ·have hn:=no (by simp[ruleB,e1,e2]);simp[go_sem,e1,e2];refine aE aD κ κ ?_;simp[go_sem];exact⟨ω,k+1,hn.1,hn.2.1,by simp[hn.2.2],by simp[hn.2.2]⟩
 by_cases e3:(g.r k).l=q.l;rotate_left
 ·have hn:=no (by simp[ruleB,e1,e2,e3]);simp[go_sem,e1,e2,e3];refine aE aD κ κ ?_;simp[go_sem];exact⟨ω,k+1,hn.1,hn.2.1,by simp[hn.2.2],by simp[hn.2.2]⟩
 simp[go_sem,e1,e2,e3];refine aE aD κ κ ?_;simp[go_sem];refine⟨ω,_,jW (v:=.b (btw (g.r k).f ((g.r k).t - 1) q.t)) (by simp[go_sem];exact bAs rfl) rfl,?_⟩;generalize hb:btw (g.r k).f ((g.r k).t - 1) q.t=b;rw[aJ4] at hb
 cases b
 ·have hn:=no (by
   simp only [ruleB];rw[show(decide ((g.r k).p=q.p)&&decide ((g.r k).r=q.r)&&decide ((g.r k).l=q.l)&&decide ((g.r k).f<=q.t)&&decide (q.t<(g.r k).t))=(decide ((g.r k).p=q.p)&&decide ((g.r k).r=q.r)&&decide ((g.r k).l=q.l)&&(decide ((g.r k).f<=q.t)&&decide (q.t<(g.r k).t))) from by simp[Bool.and_assoc],hb];simp)
  simp[go_sem];exact⟨ω,k+1,hn.1,hn.2.1,by simp[hn.2.2],by simp[hn.2.2]⟩
 simp only [Bool.and_eq_true,decide_eq_true_eq] at hb;obtain⟨e4,e5⟩:=hb;by_cases e6:(g.r k).k<=q.nk;rotate_left
 ·have hn:=no (by simp[ruleB,e1,e2,e3,e4,e5,e6]);simp[go_sem,e6];exact⟨ω,k+1,hn.1,hn.2.1,by simp[hn.2.2],by simp[hn.2.2]⟩
 have hrb:ruleB g q (g.r k)=lN g q (g.r k).b:=by simp[ruleB,e1,e2,e3,e4,e5,e6]
 rcases(ω:(g.r k).b=1\/(g.r k).b=2\/(g.r k).b=3) with e7 | e7 | e7
 ·simp[go_sem,e6,e7];refine⟨_,aB (aPb g q h) rfl rfl,?_⟩;generalize hb:g.hasC q=b;have hbs:lN g q (g.r k).b=b:=by simp[lN,e7,hb]
  cases b
  ·have hn:=no (hrb.trans hbs);simp[go_sem];exact⟨ω,k+1,hn.1,hn.2.1,by simp[hn.2.2],by simp[hn.2.2]⟩
  ·have hn:=yes (hrb.trans hbs);simp[go_sem];refine⟨⟨ω,ω⟩,ω,k+1,hn.1,hn.2.1,by simp[hn.2.2],by simp[hn.2.2],λi hi=>?_⟩;rw[hn.2.2] at hi ⊢;rw[nA (k:=k) rfl (by simp at hi;omega)];rfl
 ·simp[go_sem,e6,e7];refine⟨_,aB (aPd g q h hm) rfl rfl,?_⟩;generalize hb:g.hasW q=b;have hbs:lN g q (g.r k).b=b:=by simp[lN,e7,hb]
  cases b
  ·have hn:=no (hrb.trans hbs);simp[go_sem];exact⟨ω,k+1,hn.1,hn.2.1,by simp[hn.2.2],by simp[hn.2.2]⟩
  ·have hn:=yes (hrb.trans hbs);simp[go_sem];refine⟨⟨ω,ω⟩,ω,k+1,hn.1,hn.2.1,by simp[hn.2.2],by simp[hn.2.2],λi hi=>?_⟩;rw[hn.2.2] at hi ⊢;rw[nA (k:=k) rfl (by simp at hi;omega)];rfl
 ·simp[go_sem,e6,e7];refine⟨_,aB (aPf g q) rfl rfl,?_⟩;have hn:=yes (hrb.trans (by simp[lN,e7]));simp[go_sem];refine⟨⟨ω,ω⟩,ω,k+1,hn.1,hn.2.1,by simp[hn.2.2],by simp[hn.2.2],λi hi=>?_⟩;rw[hn.2.2] at hi ⊢;rw[nA (k:=k) rfl (by simp at hi;omega)];rfl
def dF (c:Nat->Int) (n:Nat):Nat:=((List.range n).find? λi=>decide (0<=c i)).getD n
theorem gP {c:Nat->Int} {n i:Nat} (hi:i<=n) (h1:∀j,j<i->c j<0) (h2:∀j,i<=j->j<n->0<=c j):dF c n=i:=by
 unfold dF;rcases Nat.lt_or_ge i n with h | h
 ·rw[List.find?_range_eq_some.2 ⟨by simpa using h2 i (Nat.le_refl i) h,List.mem_range.2 h,λj hj=>by have:=h1 j hj;simp;omega⟩];rfl
 ·have:i=n:=ω;subst this;rw[List.find?_eq_none.2 λj hj=>by have:=h1 j (List.mem_range.1 hj);simp;omega];rfl
theorem bnd_le {c:Nat->Int} {n:Nat}:dF c n<=n:=by
 unfold dF
 cases h:(List.range n).find? λi=>decide (0<=c i) with
 | none=>exact Nat.le_refl n
 | some i=>have:=List.find?_range_eq_some.1 h;have:=List.mem_range.1 this.2.1;simp;omega
def dP (c:Nat->Int) (n:Nat):Bool:=decide (dF c n<n)&&decide (c (dF c n)=0)
theorem mY {i j:Nat} (h:i+j<9223372036854775808):IntKind.i64.wrap (Int.fdiv (IntKind.u64.wrap ((i:Int)+(j:Int))) 2)=(((i+j) / 2:Nat):Int):=by
 rw[bX (k:=.u64) (by simp only [inr];omega),Int.fdiv_eq_ediv_of_nonneg _ ω,bX (k:=.i64) (by simp only [inr];omega)];omega
theorem aGj (n:Nat) (hn:(n:Int)<2 ^ 61) (get:Nat->Nat->RV) (t0 t1 t2 t3 t4:Int) (g:FuncId) (c:Nat->Int) (hm:∀a b,a<b->b<n->c b<0->c a<0)
 (hp:∀i,i<n->Pure Tryz.prog g [.agg [.r (get i 0),.r (get i 1),.r (get i 2),.r (get i 3),.r (get i 4)],.agg [.i t0,.i t1,.i t2,.i t3,.i t4]] (· =.i (c i))) :
 Pure Tryz.prog 103 [.r (.rs 5 n get),.agg [.i t0,.i t1,.i t2,.i t3,.i t4],.fn (.func g) [] []] (· =.tup [.i (dF c n:Nat),.b (dP c n)]):=by
 refine π Tryz.func103 ?_;simp[go_sem];refine aH aD (α:=Nat × Nat) (λx=>[(0,.r (.rs 5 n get)),(2,.fn (.func g) [] []),(4,.ptr 0 0 5 0),(8,.i n),(9,.i x.1),(10,.i x.2)]) (λ_=>[some (.box [.i t0,.i t1,.i t2,.i t3,.i t4])]) 1
  (λx=>x.1<=x.2/\x.2<=n/\(∀j,j<x.1->c j<0)/\∀j,x.2<=j->j<n->0<=c j) (λx=>x.2 - x.1) (0,n) (λ_=>rfl) ι ζ ζ ?_
 rintro⟨i,j⟩ J ⟨h1,h2,h3,h4⟩;dsimp only at h1 h2 h3 h4;simp[go_sem];split
 ·rename_i hlt;refine⟨ω,?_⟩;rw[mY ω];generalize hh:(i+j) / 2=h;have hb:i<=h/\h<j:=ω;refine aE aD κ κ ?_;simp[go_sem];refine⟨ω,_,aB (hp h ω) rfl rfl,?_⟩;simp[go_sem];split
  ·rename_i hc;refine⟨ω,h+1,j,⟨ω,h2,λk hk=>?_,h4⟩,ω,τ⟩;by_cases hkh:k=h
   ·subst hkh;exact hc
   ·exact hm k h ω ω hc
  ·rename_i hc;refine⟨i,h,⟨ω,ω,h3,λk hk hkn=>?_⟩,ω,τ⟩;rcases Int.lt_or_le (c k) 0 with hneg | hpos
   ·exfalso;by_cases hkh:k=h
    ·subst hkh;omega
    ·have:=hm h k ω hkn hneg;omega
   ·exact hpos
 ·rename_i hge;have hij:i=j:=ω;subst hij;have hbd:=gP h2 h3 h4;refine aE aD κ κ ?_;by_cases hin:i<n
  ·simp[go_sem,hin];refine⟨_,aB (hp i hin) rfl rfl,?_⟩;simp[go_sem];simp[dP,hbd,hin]
  ·simp[go_sem,hin];simp[dP,hbd,hin]
theorem aTd (n:Nat) (hn:(n:Int)<2 ^ 61) (get:Nat->Nat->RV) (t0 t1 t2:Int) (g:FuncId) (c:Nat->Int) (hm:∀a b,a<b->b<n->c b<0->c a<0)
 (hp:∀i,i<n->Pure Tryz.prog g [.agg [.r (get i 0),.r (get i 1),.r (get i 2)],.agg [.i t0,.i t1,.i t2]] (· =.i (c i))) :
 Pure Tryz.prog 447 [.r (.rs 3 n get),.agg [.i t0,.i t1,.i t2],.fn (.func g) [] []] (· =.tup [.i (dF c n:Nat),.b (dP c n)]):=by
 refine π Tryz.func447 ?_;simp[go_sem];refine aH aD (α:=Nat × Nat) (λx=>[(0,.r (.rs 3 n get)),(2,.fn (.func g) [] []),(4,.ptr 0 0 3 0),(8,.i n),(9,.i x.1),(10,.i x.2)]) (λ_=>[some (.box [.i t0,.i t1,.i t2])]) 1
  (λx=>x.1<=x.2/\x.2<=n/\(∀j,j<x.1->c j<0)/\∀j,x.2<=j->j<n->0<=c j) (λx=>x.2 - x.1) (0,n) (λ_=>rfl) ι ζ ζ ?_
 rintro⟨i,j⟩ J ⟨h1,h2,h3,h4⟩;dsimp only at h1 h2 h3 h4;simp[go_sem];split
 ·rename_i hlt;refine⟨ω,?_⟩;rw[mY ω];generalize hh:(i+j) / 2=h;have hb:i<=h/\h<j:=ω;refine aE aD κ κ ?_;simp[go_sem];refine⟨ω,_,aB (hp h ω) rfl rfl,?_⟩;simp[go_sem];split
  ·rename_i hc;refine⟨ω,h+1,j,⟨ω,h2,λk hk=>?_,h4⟩,ω,τ⟩;by_cases hkh:k=h
   ·subst hkh;exact hc
   ·exact hm k h ω ω hc
  ·rename_i hc;refine⟨i,h,⟨ω,ω,h3,λk hk hkn=>?_⟩,ω,τ⟩;rcases Int.lt_or_le (c k) 0 with hneg | hpos
   ·exfalso;by_cases hkh:k=h
    ·subst hkh;omega
    ·have:=hm h k ω hkn hneg;omega
   ·exact hpos
 ·rename_i hge;have hij:i=j:=ω;subst hij;have hbd:=gP h2 h3 h4;refine aE aD κ κ ?_;by_cases hin:i<n
  ·simp[go_sem,hin];refine⟨_,aB (hp i hin) rfl rfl,?_⟩;simp[go_sem];simp[dP,hbd,hin]
  ·simp[go_sem,hin];simp[dP,hbd,hin]
theorem aI1 (n m:Nat) (hn:(n:Int)<2 ^ 61) (hm:(m:Int)<2 ^ 61) (x y:Nat->Nat->RV) (u v:Nat->Int) (hx:∀i,i<n->x i 0=.i (u i)) (hy:∀i,i<m->y i 0=.i (v i)) :
 Pure Tryz.prog 52 [.r (.rs 1 n x),.r (.rs 1 m y)] (· =.b (decide (n=m)&&(List.range n).all λi=>decide (u i=v i))):=by
 refine π Tryz.func52 ?_;by_cases h:(n:Int)=m;rotate_left
 ·have:¬n=m:=ω;simp[go_sem,h];simp[this]
 have h':n=m:=ω;subst h';simp[go_sem];refine aH aD (α:=Nat) (λk=>[(0,.r (.rs 1 n x)),(1,.r (.rs 1 n y)),(5,.i k)]) (λ_=>[]) 0 (λk=>k<=n/\∀j,j<k->u j=v j) (λk=>n - k) 0 (λ_=>rfl) τ ζ ζ ?_;intro k J hi;simp[go_sem];split
 ·rename_i hlt;refine aE aD κ κ ?_;simp[go_sem,hx k hlt,hy k hlt];refine⟨hlt,?_⟩;split
  ·rename_i he;exact⟨ω,k+1,⟨ω,eC hi.2 he⟩,ω,τ⟩
  ·rename_i he;exact⟨k,hlt,he⟩
 ·rename_i hge;exact λj hj=>hi.2 j ω
def RG.lvl (g:RG) (l:List Nat):Int:=l.foldl (λa i=>max a (g.r i).s) 0
theorem RG.lvl_apl (g:RG) (q:QG):∀n,g.lvl (g.apl q n)=g.lev q n
 | 0=>rfl
 | n+1=>by
   simp only [RG.lev];by_cases h:ruleB g q (g.r n)=true
   ·rw[if_pos h,RG.apl_yes h,RG.lvl,List.foldl_append];show max (g.lvl (g.apl q n)) _=_;rw[RG.lvl_apl g q n]
   ·rw[if_neg h,RG.apl_no (by simpa using h),RG.lvl_apl g q n]
def RG.levq (g:RG) (q:QG):Int:=if ask g q=0 then g.lev q g.nr else 0
theorem RG.lvl_apq (g:RG) (q:QG):g.lvl (g.apq q)=g.levq q:=by
 unfold RG.apq RG.levq;split
 ·exact RG.lvl_apl g q _
 ·rfl
theorem RG.apq_lt {g:RG} {q:QG} {i:Nat} (h:i∈g.apq q):i<g.nr:=by
 unfold RG.apq at h;split at h
 ·simp[RG.apl] at h;exact h.1
 ·simp at h
theorem RG.apq_len (g:RG) (q:QG):(g.apq q).length<=g.nr:=by
 unfold RG.apq;split
 ·exact RG.apl_len g q _
 ·simp
theorem aWd (g:RG) (q:QG) (h:g.OK) (hq:q.OK):Pure Tryz.prog 102 [g.sv,q.sv] (· =.tup [.i (g.levq q),.i (ask g q)]):=by
 refine π Tryz.func102 ?_;have hr:=h.nr;have hlen:=RG.apq_len g q;simp[go_sem];refine aA (aA9 g q h hq) rfl rfl ?_;rw[<- RG.lvl_apq];have hlt:=λi=>@RG.apq_lt g q i;generalize hL:g.apq q=L at *;simp[go_sem];refine aH aD (α:=Nat) (λk=>[(2,.ptr 0 0 4 0),(7,.i (ask g q)),(8,.i (g.lvl (L.take k))),(17,aWp L),(18,.i L.length),(19,.i k)]) (λ_=>g.box) 1 (λk=>k<=L.length) (λk=>L.length - k) 0 (λ_=>rfl) τ ξ ζ ?_;intro k J hi;simp[go_sem];split
 ·rename_i hk;have hm:=hlt _ (List.getElem_mem hk);have hg:cQ lI L k 0=.i (L[k]:Nat):=bP (List.getElem?_eq_getElem hk) 0;simp[go_sem,hg];refine⟨hk,hm,ω,k+1,ω,ω,?_,τ⟩;rw[List.take_succ_eq_append_getElem hk,RG.lvl,RG.lvl,List.foldl_append];rfl
 ·rename_i hk;rw[List.take_of_length_le ω]
theorem applies31 (g:RG) (q:QG) (h:g.OK) (hq:q.OK):Pure Tryz.prog 344 [g.sv,q.sv] (· =.tup [aWp (g.apq q),.i (ask g q)]):=by
 refine π Tryz.func344 ?_;simp[go_sem];refine aA (aA9 g q h hq) rfl rfl ?_;simp[go_sem]
theorem uI {a b c d:Int}:lex (bU a c) (bU b d)<0↔a<c\/a=c/\b<d:=by unfold lex bU;repeat' split <;> omega
theorem mV {a b c d:Int}:lex (bU a c) (bU b d)=0↔a=c/\b=d:=by unfold lex bU;repeat' split <;> omega
theorem aYj {n:Nat} {R:Nat->Nat->Prop} (tr:∀a b c,R a b->R b c->R a c) (h:∀i,i+1<n->R i (i+1)):∀d i,i+d+1<n->R i (i+d+1)
 | 0,i,hi=>h i hi
 | d+1,i,hi=>tr _ _ _ (aYj tr h d i ω) (h (i+d+1) ω)
theorem aPr {n:Nat} {R:Nat->Nat->Prop} (tr:∀a b c,R a b->R b c->R a c) (h:∀i,i+1<n->R i (i+1)) {i j:Nat} (hij:i<j) (hj:j<n):R i j:=by
 have:=aYj tr h (j - i - 1) i ω
 rwa [show i+(j - i - 1)+1=j from ω] at this
def ConG.ltP (x y:ConG):Prop:=x.p<y.p\/x.p=y.p/\x.q<y.q
def MarkG.ltP (x y:MarkG):Prop:=x.l<y.l\/x.l=y.l/\x.p<y.p
theorem RG.sortM {g:RG} (h:g.c6=true) {i j:Nat} (hij:i<j) (hj:j<g.nm):(g.m i).ltP (g.m j):=by
 simp only [RG.c6,List.all_eq_true,List.mem_range,MarkG.lt,decide_eq_true_eq,uI] at h;refine aPr (n:=g.nm) (R:=λi j=>(g.m i).ltP (g.m j)) (λa b c h1 h2=>?_) (λi hi=>h i ω) hij hj;unfold MarkG.ltP at *;omega
theorem RG.sortC {g:RG} (h:g.c5=true) {i j:Nat} (hij:i<j) (hj:j<g.nc):(g.c i).ltP (g.c j):=by
 simp only [RG.c5,List.all_eq_true,List.mem_range,ConG.lt,decide_eq_true_eq,uI] at h;refine aPr (n:=g.nc) (R:=λi j=>(g.c i).ltP (g.c j)) (λa b c h1 h2=>?_) (λi hi=>h i ω) hij hj;unfold ConG.ltP at *;omega
theorem RG.v5 {g:RG} (h:g.valid=true):g.c5=true:=by simp only [RG.valid,Bool.and_eq_true] at h;exact h.1.2
theorem RG.v6 {g:RG} (h:g.valid=true):g.c6=true:=by simp only [RG.valid,Bool.and_eq_true] at h;exact h.2
def RG.cm (g:RG) (l p:Int) (i:Nat):Int:=lex (bU (g.m i).l l) (bU (g.m i).p p)
theorem RG.cm_mono {g:RG} (h:g.c6=true) (l p:Int):∀a b,a<b->b<g.nm->g.cm l p b<0->g.cm l p a<0:=by
 intro a b hab hb hc;have:=RG.sortM h hab hb;simp only [RG.cm,uI,MarkG.ltP] at *;omega
theorem RG.cm_at {g:RG} (h:g.c6=true) {l p:Int} {i:Nat} (hi:i<g.nm) (h1:(g.m i).l=l) (h2:(g.m i).p=p):dF (g.cm l p) g.nm=i:=by
 refine gP ω (λj hj=>?_) (λj hj hn=>?_)
 ·have:=RG.sortM h hj hi;simp only [RG.cm,uI,MarkG.ltP] at *;omega
 ·rcases Nat.lt_or_ge i j with hij | hij
  ·have:=RG.sortM h hij hn;rcases Int.lt_or_le (g.cm l p j) 0 with hc | hc
   ·simp only [RG.cm,uI,MarkG.ltP] at *;omega
   ·exact hc
  ·have:j=i:=ω;subst this;have:g.cm l p j=0:=mV.2 ⟨h1,h2⟩;omega
theorem RG.cm_fnd {g:RG} {l p:Int} (h:dP (g.cm l p) g.nm=true):dF (g.cm l p) g.nm<g.nm/\(g.m (dF (g.cm l p) g.nm)).l=l/\(g.m (dF (g.cm l p) g.nm)).p=p:=by
 simp only [dP,Bool.and_eq_true,decide_eq_true_eq] at h;exact⟨h.1,mV.1 h.2⟩
def onB (q:QG) (m:MarkG):Bool:=decide (m.l=q.l)&&decide (m.p=q.w)&&decide (m.s<=q.t)&&decide (q.t<m.u)
def RG.onM (g:RG) (q:QG):Option MarkG:=((List.range g.nm).find? λi=>onB q (g.m i)).map g.m
theorem RG.onM_some {g:RG} {q:QG} (h:g.c6=true) {i:Nat} (hi:i<g.nm) (hb:onB q (g.m i)=true):g.onM q=some (g.m i):=by
 unfold RG.onM;rw[List.find?_range_eq_some.2 ⟨hb,List.mem_range.2 hi,λj hj=>?_⟩]
 ·rfl
 ·have:=RG.sortM h hj hi;simp[onB] at hb ⊢;unfold MarkG.ltP at this;omega
theorem RG.onM_none {g:RG} {q:QG} (h:∀i,i<g.nm->onB q (g.m i)=false):g.onM q=none:=by
 unfold RG.onM;rw[List.find?_eq_none.2 λi hi=>by simp[h i (List.mem_range.1 hi)]];rfl
def RG.aerr (g:RG) (q:QG):Int:=if ask g q≠0 then ask g q else if g.lev q g.nr=0 then 90 else 0
def RG.aL (g:RG) (q:QG):Int:=if g.aerr q=0 then g.lev q g.nr else 0
def RG.aO (g:RG) (q:QG):Bool:=decide (g.aerr q=0)&&(g.onM q).isSome
def RG.aS (g:RG) (q:QG):Int:=if g.aerr q=0/\2<=g.lev q g.nr then (g.onM q).elim 0 (·.s) else 0
def RG.aN (g:RG) (q:QG):Int:=if g.aerr q=0/\g.lev q g.nr=3 then (g.onM q).elim 0 (·.n) else 0
abbrev RG.rep (g:RG) (q:QG):SV:=.agg [.i (g.aL q),.b (g.aO q),.i (g.aS q),.i (g.aN q)]
theorem RG.lev_bd {g:RG} (h:g.valid=true) (q:QG):∀n,n<=g.nr->0<=g.lev q n/\g.lev q n<=3
 | 0,_=>by simp[RG.lev]
 | n+1,hn=>by
   have ih:=RG.lev_bd h q n ω;have hs:1<=(g.r n).s/\(g.r n).s<=3:=by
    simp only [RG.valid,RG.c1,Bool.and_eq_true,List.all_eq_true,List.mem_range] at h;have:=h.1.1.1.1.1.2 n ω;simp only [RuleG.good,Bool.and_eq_true,vZ] at this;omega
   simp only [RG.lev];split <;> omega
theorem RG.ans_no {g:RG} {q:QG} (h:g.aerr q≠0):g.rep q=.agg [.i 0,.b false,.i 0,.i 0]:=by simp[RG.rep,RG.aL,RG.aO,RG.aS,RG.aN,h]
theorem RG.ans_base {g:RG} {q:QG} (h:g.aerr q=0) (hm:g.onM q=none):g.rep q=.agg [.i (g.lev q g.nr),.b false,.i 0,.i 0]:=by simp[RG.rep,RG.aL,RG.aO,RG.aS,RG.aN,h,hm]
theorem RG.ans_full {g:RG} {q:QG} {m:MarkG} (h:g.aerr q=0) (hm:g.onM q=some m):g.rep q=.agg [.i (g.lev q g.nr),.b true,.i (if 2<=g.lev q g.nr then m.s else 0),.i (if g.lev q g.nr=3 then m.n else 0)]:=by
 simp[RG.rep,RG.aL,RG.aO,RG.aS,RG.aN,h,hm]
theorem answer26 (g:RG) (q:QG) (h:g.OK) (hq:q.OK):Pure Tryz.prog 49 [g.sv,q.sv] (· =.tup [g.rep q,.i (g.aerr q)]):=by
 refine π Tryz.func49 ?_;simp[go_sem];refine aA (aWd g q h hq) rfl rfl ?_;by_cases ha:ask g q=0;rotate_left
 ·have he:g.aerr q=ask g q:=by simp[RG.aerr,ha]
  have hr:g.rep q=_:=RG.ans_no (by rw[he];exact ha);have hl:g.levq q=0:=by simp[RG.levq,ha]
  simp[go_sem,ha,hl];rw[<- he];simp[RG.rep] at hr;simp[hr]
 have hl:g.levq q=g.lev q g.nr:=by simp[RG.levq,ha]
 have hv:=(tW ha).1;have hbd:=RG.lev_bd hv q g.nr ω;rw[hl];by_cases h0:g.lev q g.nr=0
 ·have he:g.aerr q=90:=by simp[RG.aerr,ha,h0]
  have hr:g.rep q=_:=RG.ans_no (by rw[he];decide);simp[go_sem,ha,h0];simp[RG.rep] at hr;simp[he,hr]
 have he:g.aerr q=0:=by simp[RG.aerr,ha,h0]
 have h6:=RG.v6 hv;have hsm:=(RG.small hv).2.2.2;have hgood:∀i,i<g.nm->-(2:Int) ^ 62<(g.m i).u/\(g.m i).u<2 ^ 62:=by
  intro i hi;simp only [RG.valid,RG.c4,Bool.and_eq_true,List.all_eq_true,List.mem_range] at hv;have:=hv.1.1.2.2 i hi;simp only [MarkG.good,Bool.and_eq_true,timeB,vZ] at this;omega
 simp[go_sem,ha,h0];refine aA (aGj g.nm ω _ q.l q.w 0 0 0 (104:FuncId) (g.cm q.l q.w) (RG.cm_mono h6 _ _) (λi hi=>aId (g.m i) ⟨q.l,q.w,0,0,0⟩)) rfl rfl ?_;generalize hf:dP (g.cm q.l q.w) g.nm=f;generalize hp:dF (g.cm q.l q.w) g.nm=p;have base:g.onM q=none->g.rep q=_:=RG.ans_base he
 cases f
 ·have hn:g.onM q=none:=RG.onM_none λi hi=>by
   cases hb:onB q (g.m i) with
   | false=>rfl
   | true=>
     exfalso;simp[onB] at hb;have:=RG.cm_at h6 hi hb.1.1.1 hb.1.1.2;have h2:g.cm q.l q.w i=0:=mV.2 ⟨hb.1.1.1,hb.1.1.2⟩;simp[dP,this,hi,h2] at hf
  have hr:=base hn;simp[RG.rep] at hr;simp[go_sem];refine aE aD κ κ ?_;simp[go_sem];simp[he,hr]
 obtain⟨f1,f2,f3⟩:=RG.cm_fnd hf;rw[hp] at f1 f2 f3;have hg:=hgood p f1;simp[go_sem];refine aE aD κ κ ?_;simp[go_sem];refine⟨f1,ω,_,jW (v:=.b (btw (g.m p).s ((g.m p).u - 1) q.t)) (by simp[go_sem];exact bAs rfl) rfl,?_⟩;generalize hb:btw (g.m p).s ((g.m p).u - 1) q.t=b;rw[aJ4] at hb
 cases b
 ·have hn:g.onM q=none:=RG.onM_none λi hi=>by
   cases hb':onB q (g.m i) with
   | false=>rfl
   | true=>
     exfalso;simp[onB] at hb';have:=RG.cm_at h6 hi hb'.1.1.1 hb'.1.1.2;rw[hp] at this;subst this;simp at hb;omega
  have hr:=base hn;simp[RG.rep] at hr;simp[go_sem];simp[he,hr]
 have hs:g.onM q=some (g.m p):=RG.onM_some h6 f1 (by simp at hb;simp[onB,f2,f3,hb]);have hr:=RG.ans_full he hs;simp[RG.rep] at hr;simp[go_sem,f1];rcases(ω:g.lev q g.nr=1\/g.lev q g.nr=2\/g.lev q g.nr=3) with hl | hl | hl
 ·simp[go_sem,hl,f1];simp[he,hr,hl]
 ·simp[go_sem,hl,f1];simp[he,hr,hl]
 ·simp[go_sem,hl,f1];simp[he,hr,hl]
theorem pW (p:Nat->Bool) (n:Nat):(idx p n=-1/\∀j,j<n->p j=false)\/∃i,i<n/\p i=true/\(∀j,j<i->p j=false)/\idx p n=i:=by
 unfold idx
 cases h:(List.range n).find? p with
 | none=>
   have:=List.find?_eq_none.1 h;exact .inl ⟨rfl,λj hj=>by simpa using this j (List.mem_range.2 hj)⟩
 | some i=>
   obtain⟨h1,h2,h3⟩:=List.find?_range_eq_some.1 h;exact .inr ⟨i,List.mem_range.1 h2,h1,λj hj=>by simpa using h3 j hj,rfl⟩
def kept (p:Nat->Bool) (n:Nat):List Nat:=(List.range n).filter λi=>!p i
theorem bB (p:Nat->Bool) (n:Nat):kept p (n+1)=kept p n++if p n then [] else [n]:=by
 unfold kept;rw[List.range_succ,List.filter_append]
 cases h:p n <;> simp[h]
theorem kept_le (p:Nat->Bool) (n:Nat):(kept p n).length<=n:=by
 unfold kept;exact Nat.le_trans (List.length_filter_le _ _) τ
theorem cI {p:Nat->Bool} {n:Nat} (h:∀j,j<n->p j=false):kept p n=List.range n:=by
 unfold kept;exact List.filter_eq_self.2 λa ha=>by simp[h a (List.mem_range.1 ha)]
def cV (get:Nat->Nat->RV) (p:Nat->Bool) (j:Nat):Nat->Nat->RV:=λi c=>if i<(kept p j).length then cQ get (kept p j) i c else get i c
theorem kI {get:Nat->Nat->RV} {p:Nat->Bool} {j i c:Nat} (h:(kept p j).length<=i):cV get p j i c=get i c:=if_neg ω
theorem hH {get:Nat->Nat->RV} {p:Nat->Bool} {j i c:Nat} (h:p j=false):cV get p (j+1) i c=if i=(kept p j).length then get j c else cV get p j i c:=by
 have hs:kept p (j+1)=kept p j++[j]:=by rw[bB,h];simp
 unfold cV cQ;rw[hs];by_cases h1:i=(kept p j).length
 ·subst h1;simp
 ·rw[if_neg h1];by_cases h2:i<(kept p j).length
  ·rw[if_pos h2,if_pos ι,List.getElem?_append_left h2]
  ·rw[if_neg h2,if_neg ι]
theorem aZy (n:Nat) (hn:n<=1000000) (get:Nat->Nat->RV) (g:FuncId) (c:RV) (p:Nat->Bool) (ho:∀i j,i<n->j<3->(SV.r (get i j)).one=true) (hp:∀i,i<n->Pure Tryz.prog g [.agg [.r (get i 0),.r (get i 1),.r (get i 2)],.r c] (· =.b (p i))) :
 Own Tryz.prog 124 [.vec 59 3 n λi j=>.r (get i j)] [.sl 0 3 0 n none,.fn (.func g) [] [.r c]] (.sl 0 3 0 (kept p n).length none) [.vec 59 3 (kept p n).length λi j=>.r ((cQ get (kept p n)) i j)]:=by
 refine γ Tryz.func124 ?_;simp[go_sem];refine aG (v:=.i (idx p n)) ?_ rfl ?_
 ·simp[go_sem];exact aRj n ω get g [.r c] p rfl hp
 rcases pW p n with ⟨h1,h2⟩ | ⟨i0,h1,h2,h3,h4⟩
 ·rw[h1];simp[go_sem];refine⟨[0],τ,λN=>⟨?_,?_⟩⟩
  ·simp[go_sem,cI h2]
  ·simp[go_sem,cI h2];intro i j hi hj;exact(bP (by simp[hi]) j).symm
 rw[h4];simp[go_sem];have hk0:kept p i0=List.range i0:=cI h3;have hk1:kept p (i0+1)=List.range i0:=by rw[bB,hk0,h2];simp
 refine⟨ω,?_⟩;refine bF aD (α:=Nat) (λj=>[(0,.sl 0 3 0 n none),(1,.fn (.func g) [] [.r c]),(5,.i (kept p j).length),(6,.i j)]) (λj=>[some (.vec 59 3 n λi' j'=>.r ((cV get p j) i' j'))]) 1 (λj=>j<=n/\(kept p j).length<j) (λj=>n - j) (i0+1) (λ_=>rfl) ⟨ω,by rw[hk1];simp⟩ (by simp[go_sem,hk1]) (by
  simp[go_sem];intro i j hi hj;unfold cV;rw[hk1];split
  ·rename_i h;exact(bP (by simp at h;simp[h]) j).symm
  ·rfl) ?_
 intro j J hi;have hkn:=kept_le p j;have hq:∀c,cV get p j j c=get j c:=λc=>kI hkn;simp[go_sem,hq];split
 ·rename_i hlt;refine⟨ω,⟨by simpa [SV.one] using ho j 0 hlt δ,by simpa [SV.one] using ho j 1 hlt δ,by simpa [SV.one] using ho j 2 hlt δ⟩,?_⟩;refine aA (hp j hlt) rfl rfl ?_;simp[go_sem]
  cases hpj:p j
  ·simp[go_sem];have hs:kept p (j+1)=kept p j++[j]:=by rw[bB,hpj];simp
   refine⟨ω,⟨⟨by simpa [SV.one] using ho j 0 hlt δ,by simpa [SV.one] using ho j 1 hlt δ,by simpa [SV.one] using ho j 2 hlt δ⟩,ω⟩,ω,ω,j+1,⟨ω,by rw[hs];simp;omega⟩,ω,⟨by rw[hs];simp,ω⟩,λi c hi hc=>?_⟩;rw[hH hpj];by_cases hil:i=(kept p j).length
   ·rw[if_pos ⟨hil,hc⟩,if_pos hil];have hcc:c=0\/c=1\/c=2:=ω;rcases hcc with rfl | rfl | rfl <;> simp[aD8,SV.trim]
   ·rw[if_neg (λh=>hil h.1),if_neg hil];all_goals rfl
  ·simp[go_sem];have hs:kept p (j+1)=kept p j:=by rw[bB,hpj];simp
   refine⟨ω,j+1,⟨ω,by rw[hs];omega⟩,ω,⟨by rw[hs],ω⟩,λi c hi hc=>?_⟩;unfold cV;rw[hs]
 ·rename_i hlt;have hjn:j=n:=ω;subst hjn;refine⟨ω,ω,ω,[0],τ,λN=>⟨?_,?_⟩⟩
  ·simp[go_sem]
  ·simp[go_sem];refine⟨ω,λi c hi hc=>?_⟩;rw[if_neg ω];exact congrArg SV.r (if_pos hi)
theorem aZz (n:Nat) (hn:n<=1000000) (get:Nat->Nat->RV) (g:FuncId) (c:RV) (p:Nat->Bool) (ho:∀i j,i<n->j<4->(SV.r (get i j)).one=true) (hp:∀i,i<n->Pure Tryz.prog g [.agg [.r (get i 0),.r (get i 1),.r (get i 2),.r (get i 3)],.r c] (· =.b (p i))) :
 Own Tryz.prog 126 [.vec 57 4 n λi j=>.r (get i j)] [.sl 0 4 0 n none,.fn (.func g) [] [.r c]] (.sl 0 4 0 (kept p n).length none) [.vec 57 4 (kept p n).length λi j=>.r ((cQ get (kept p n)) i j)]:=by
 refine γ Tryz.func126 ?_;simp[go_sem];refine aG (v:=.i (idx p n)) ?_ rfl ?_
 ·simp[go_sem];exact aRk n ω get g [.r c] p rfl hp
 rcases pW p n with ⟨h1,h2⟩ | ⟨i0,h1,h2,h3,h4⟩
 ·rw[h1];simp[go_sem];refine⟨[0],τ,λN=>⟨?_,?_⟩⟩
  ·simp[go_sem,cI h2]
  ·simp[go_sem,cI h2];intro i j hi hj;exact(bP (by simp[hi]) j).symm
 rw[h4];simp[go_sem];have hk0:kept p i0=List.range i0:=cI h3;have hk1:kept p (i0+1)=List.range i0:=by rw[bB,hk0,h2];simp
 refine⟨ω,?_⟩;refine bF aD (α:=Nat) (λj=>[(0,.sl 0 4 0 n none),(1,.fn (.func g) [] [.r c]),(5,.i (kept p j).length),(6,.i j)]) (λj=>[some (.vec 57 4 n λi' j'=>.r ((cV get p j) i' j'))]) 1 (λj=>j<=n/\(kept p j).length<j) (λj=>n - j) (i0+1) (λ_=>rfl) ⟨ω,by rw[hk1];simp⟩ (by simp[go_sem,hk1]) (by
  simp[go_sem];intro i j hi hj;unfold cV;rw[hk1];split
  ·rename_i h;exact(bP (by simp at h;simp[h]) j).symm
  ·rfl) ?_
 intro j J hi;have hkn:=kept_le p j;have hq:∀c,cV get p j j c=get j c:=λc=>kI hkn;simp[go_sem,hq];split
 ·rename_i hlt;refine⟨ω,⟨by simpa [SV.one] using ho j 0 hlt δ,by simpa [SV.one] using ho j 1 hlt δ,by simpa [SV.one] using ho j 2 hlt δ,by simpa [SV.one] using ho j 3 hlt δ⟩,?_⟩;refine aA (hp j hlt) rfl rfl ?_;simp[go_sem]
  cases hpj:p j
  ·simp[go_sem];have hs:kept p (j+1)=kept p j++[j]:=by rw[bB,hpj];simp
   refine⟨ω,⟨⟨by simpa [SV.one] using ho j 0 hlt δ,by simpa [SV.one] using ho j 1 hlt δ,by simpa [SV.one] using ho j 2 hlt δ,by simpa [SV.one] using ho j 3 hlt δ⟩,ω⟩,ω,ω,j+1,⟨ω,by rw[hs];simp;omega⟩,ω,⟨by rw[hs];simp,ω⟩,λi c hi hc=>?_⟩;rw[hH hpj];by_cases hil:i=(kept p j).length
   ·rw[if_pos ⟨hil,hc⟩,if_pos hil];have hcc:c=0\/c=1\/c=2\/c=3:=ω;rcases hcc with rfl | rfl | rfl | rfl <;> simp[aD8,SV.trim]
   ·rw[if_neg (λh=>hil h.1),if_neg hil];all_goals rfl
  ·simp[go_sem];have hs:kept p (j+1)=kept p j:=by rw[bB,hpj];simp
   refine⟨ω,j+1,⟨ω,by rw[hs];omega⟩,ω,⟨by rw[hs],ω⟩,λi c hi hc=>?_⟩;unfold cV;rw[hs]
 ·rename_i hlt;have hjn:j=n:=ω;subst hjn;refine⟨ω,ω,ω,[0],τ,λN=>⟨?_,?_⟩⟩
  ·simp[go_sem]
  ·simp[go_sem];refine⟨ω,λi c hi hc=>?_⟩;rw[if_neg ω];exact congrArg SV.r (if_pos hi)
theorem aZ0 (n:Nat) (hn:n<=1000000) (get:Nat->Nat->RV) (g:FuncId) (c:RV) (p:Nat->Bool) (ho:∀i j,i<n->j<5->(SV.r (get i j)).one=true) (hp:∀i,i<n->Pure Tryz.prog g [.agg [.r (get i 0),.r (get i 1),.r (get i 2),.r (get i 3),.r (get i 4)],.r c] (· =.b (p i))) :
 Own Tryz.prog 128 [.vec 61 5 n λi j=>.r (get i j)] [.sl 0 5 0 n none,.fn (.func g) [] [.r c]] (.sl 0 5 0 (kept p n).length none) [.vec 61 5 (kept p n).length λi j=>.r ((cQ get (kept p n)) i j)]:=by
 refine γ Tryz.func128 ?_;simp[go_sem];refine aG (v:=.i (idx p n)) ?_ rfl ?_
 ·simp[go_sem];exact aRl n ω get g [.r c] p rfl hp
 rcases pW p n with ⟨h1,h2⟩ | ⟨i0,h1,h2,h3,h4⟩
 ·rw[h1];simp[go_sem];refine⟨[0],τ,λN=>⟨?_,?_⟩⟩
  ·simp[go_sem,cI h2]
  ·simp[go_sem,cI h2];intro i j hi hj;exact(bP (by simp[hi]) j).symm
 rw[h4];simp[go_sem];have hk0:kept p i0=List.range i0:=cI h3;have hk1:kept p (i0+1)=List.range i0:=by rw[bB,hk0,h2];simp
 refine⟨ω,?_⟩;refine bF aD (α:=Nat) (λj=>[(0,.sl 0 5 0 n none),(1,.fn (.func g) [] [.r c]),(5,.i (kept p j).length),(6,.i j)]) (λj=>[some (.vec 61 5 n λi' j'=>.r ((cV get p j) i' j'))]) 1 (λj=>j<=n/\(kept p j).length<j) (λj=>n - j) (i0+1) (λ_=>rfl) ⟨ω,by rw[hk1];simp⟩ (by simp[go_sem,hk1]) (by
  simp[go_sem];intro i j hi hj;unfold cV;rw[hk1];split
  ·rename_i h;exact(bP (by simp at h;simp[h]) j).symm
  ·rfl) ?_
 intro j J hi;have hkn:=kept_le p j;have hq:∀c,cV get p j j c=get j c:=λc=>kI hkn;simp[go_sem,hq];split
 ·rename_i hlt;refine⟨ω,⟨by simpa [SV.one] using ho j 0 hlt δ,by simpa [SV.one] using ho j 1 hlt δ,by simpa [SV.one] using ho j 2 hlt δ,by simpa [SV.one] using ho j 3 hlt δ,by simpa [SV.one] using ho j 4 hlt δ⟩,?_⟩;refine aA (hp j hlt) rfl rfl ?_;simp[go_sem]
  cases hpj:p j
  ·simp[go_sem];have hs:kept p (j+1)=kept p j++[j]:=by rw[bB,hpj];simp
   refine⟨ω,⟨⟨by simpa [SV.one] using ho j 0 hlt δ,by simpa [SV.one] using ho j 1 hlt δ,by simpa [SV.one] using ho j 2 hlt δ,by simpa [SV.one] using ho j 3 hlt δ,by simpa [SV.one] using ho j 4 hlt δ⟩,ω⟩,ω,ω,j+1,⟨ω,by rw[hs];simp;omega⟩,ω,⟨by rw[hs];simp,ω⟩,λi c hi hc=>?_⟩;rw[hH hpj];by_cases hil:i=(kept p j).length
   ·rw[if_pos ⟨hil,hc⟩,if_pos hil];have hcc:c=0\/c=1\/c=2\/c=3\/c=4:=ω;rcases hcc with rfl | rfl | rfl | rfl | rfl <;> simp[aD8,SV.trim]
   ·rw[if_neg (λh=>hil h.1),if_neg hil];all_goals rfl
  ·simp[go_sem];have hs:kept p (j+1)=kept p j:=by rw[bB,hpj];simp
   refine⟨ω,j+1,⟨ω,by rw[hs];omega⟩,ω,⟨by rw[hs],ω⟩,λi c hi hc=>?_⟩;unfold cV;rw[hs]
 ·rename_i hlt;have hjn:j=n:=ω;subst hjn;refine⟨ω,ω,ω,[0],τ,λN=>⟨?_,?_⟩⟩
  ·simp[go_sem]
  ·simp[go_sem];refine⟨ω,λi c hi hc=>?_⟩;rw[if_neg ω];exact congrArg SV.r (if_pos hi)
def sM (n:Int):RV:=.rp 1 1 (mN [.i n]) 0 0
theorem bIi (x:ConG) (t:Int):Pure Tryz.prog 125 [x.sv,.r (sM t)] (· =.b (decide (x.p=t))):=by
 refine π Tryz.func125 ?_;simp[go_sem,sM,mN]
theorem bIj (x:WarG) (t:Int):Pure Tryz.prog 127 [x.sv,.r (sM t)] (· =.b (decide (x.p=t))):=by
 refine π Tryz.func127 ?_;simp[go_sem,sM,mN]
theorem bIk (x:MarkG) (t:Int):Pure Tryz.prog 129 [x.sv,.r (sM t)] (· =.b (decide (x.p=t))):=by
 refine π Tryz.func129 ?_;simp[go_sem,sM,mN]
def RG.sel (g:RG) (a b c d:List Nat):RG:=⟨a.length,λi=>g.r (a.getD i 0),b.length,λi=>g.c (b.getD i 0),c.length,λi=>g.w (c.getD i 0),d.length,λi=>g.m (d.getD i 0)⟩
def RG.nil:RG:=⟨0,λ_=>⟨0,0,0,0,0,0,0,0⟩,0,λ_=>⟨0,0,0⟩,0,λ_=>⟨0,0,0,0⟩,0,λ_=>⟨0,0,0,0,0⟩⟩
def RG.forget (g:RG) (t:Int):RG:={g.sel [] (kept (λi=>decide ((g.c i).p=t)) g.nc) (kept (λi=>decide ((g.w i).p=t)) g.nw) (kept (λi=>decide ((g.m i).p=t)) g.nm) with nr:=g.nr,r:=g.r}
def RG.foE (g:RG) (t:Int):Int:=if g.valid then (if persB t then 0 else 2) else 8
theorem RG.lim {g:RG} (h:g.valid=true):g.nr<=20/\g.nc<=40/\g.nw<=20/\g.nm<=40:=by
 simp only [RG.valid,RG.c1,RG.c2,RG.c3,RG.c4,Bool.and_eq_true,decide_eq_true_eq] at h;omega
theorem aD4 {α:Type} {f:α->Nat->RV} {x:Nat->α} {l:List Nat} {i j:Nat} (hi:i<l.length):cQ (λi j=>f (x i) j) l i j=f (x (l.getD i 0)) j:=by
 rw[bP (List.getElem?_eq_getElem hi),List.getD_eq_getElem?_getD,List.getElem?_eq_getElem hi];rfl
theorem bFz {n:Nat} (x:Nat->ConG):∀i j,i<n->j<3->(SV.r ((x i).c j)).one=true:=λi j _ hj=>by
 have:j=0\/j=1\/j=2:=ω;rcases this with rfl | rfl | rfl <;> rfl
theorem bF1 {n:Nat} (x:Nat->WarG):∀i j,i<n->j<4->(SV.r ((x i).c j)).one=true:=λi j _ hj=>by
 have:j=0\/j=1\/j=2\/j=3:=ω;rcases this with rfl | rfl | rfl | rfl <;> rfl
theorem bF0 {n:Nat} (x:Nat->MarkG):∀i j,i<n->j<5->(SV.r ((x i).c j)).one=true:=λi j _ hj=>by
 have:j=0\/j=1\/j=2\/j=3\/j=4:=ω;rcases this with rfl | rfl | rfl | rfl | rfl <;> rfl
theorem forget20 (g:RG) (t:Int) (h:g.OK):Pure Tryz.prog 54 [g.sv,.i t] (· =.tup [(if g.foE t=0 then g.forget t else RG.nil).sv,.i (g.foE t)]):=by
 refine Pure.ofSub ?_;refine π Tryz.func54 ?_;simp[go_sem];refine aA (check28 g h) rfl rfl ?_;by_cases hv:g.valid=true;rotate_left
 ·have ha:g.foE t=8:=by unfold RG.foE;rw[if_neg hv]
  simp[go_sem,hv,ha,RG.nil]
 have hl:=RG.lim hv;simp[go_sem,hv];refine aG (v:=.b (persB t)) (by simp[go_sem];exact tA rfl) rfl ?_;by_cases ht:persB t=true;rotate_left
 ·have ha:g.foE t=2:=by unfold RG.foE;rw[if_pos hv,if_neg ht]
  simp[go_sem,ht,ha,RG.nil]
 have ha:g.foE t=0:=by unfold RG.foE;rw[if_pos hv,if_pos ht]
 simp[go_sem,ht,ha];refine aF [] (xL g ω ω ω ω) τ rfl trivial ?_;simp[go_sem];refine aC 1 (R:=.box [.i t]) rfl ?_;simp[go_sem];refine aF [5] (aZy g.nc ω (λi j=>(g.c i).c j) (125:FuncId) (sM t) (λi=>decide ((g.c i).p=t)) (bFz g.c) (λi _=>bIi (g.c i) t)) τ rfl ⟨rfl,trivial⟩ ?_;simp[go_sem];refine aF [6] (aZz g.nw ω (λi j=>(g.w i).c j) (127:FuncId) (sM t) (λi=>decide ((g.w i).p=t)) (bF1 g.w) (λi _=>bIj (g.w i) t)) τ rfl ⟨rfl,trivial⟩ ?_;simp[go_sem];refine aF [7] (aZ0 g.nm ω (λi j=>(g.m i).c j) (129:FuncId) (sM t) (λi=>decide ((g.m i).p=t)) (bF0 g.m) (λi _=>bIk (g.m i) t)) τ rfl ⟨rfl,trivial⟩ ?_;simp[go_sem];exact⟨⟨rfl,λi j hi _=>rfl⟩,⟨rfl,λi j hi _=>aD4 (f:=ConG.c) hi⟩,⟨rfl,λi j hi _=>aD4 (f:=WarG.c) hi⟩,rfl,λi j hi _=>aD4 (f:=MarkG.c) hi⟩
def RuleG.eqB (x y:RuleG):Bool:=decide (x.p=y.p)&&decide (x.r=y.r)&&decide (x.l=y.l)&&decide (x.f=y.f)&&decide (x.t=y.t)&&decide (x.k=y.k)&&decide (x.s=y.s)&&decide (x.b=y.b)
def ConG.eqB (x y:ConG):Bool:=decide (x.p=y.p)&&decide (x.q=y.q)&&decide (x.u=y.u)
def WarG.eqB (x y:WarG):Bool:=decide (x.l=y.l)&&decide (x.p=y.p)&&decide (x.f=y.f)&&decide (x.t=y.t)
def MarkG.eqB (x y:MarkG):Bool:=decide (x.l=y.l)&&decide (x.p=y.p)&&decide (x.s=y.s)&&decide (x.u=y.u)&&decide (x.n=y.n)
def RG.s1 (g h:RG):Bool:=decide (g.nr=h.nr)&&(List.range g.nr).all λi=>(g.r i).eqB (h.r i)
def RG.s2 (g h:RG):Bool:=decide (g.nc=h.nc)&&(List.range g.nc).all λi=>(g.c i).eqB (h.c i)
def RG.s3 (g h:RG):Bool:=decide (g.nw=h.nw)&&(List.range g.nw).all λi=>(g.w i).eqB (h.w i)
def RG.s4 (g h:RG):Bool:=decide (g.nm=h.nm)&&(List.range g.nm).all λi=>(g.m i).eqB (h.m i)
def RG.same (g h:RG):Bool:=g.s1 h&&g.s2 h&&g.s3 h&&g.s4 h
def RG.InC (g:RG) (a:ConG):Prop:=∃i,i<g.nc/\g.c i=a
def RG.InW (g:RG) (a:WarG):Prop:=∃i,i<g.nw/\g.w i=a
def RG.InM (g:RG) (a:MarkG):Prop:=∃i,i<g.nm/\g.m i=a
end Go.Gx.Rg
