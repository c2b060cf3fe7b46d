/-
  Texts of the walk, merged: Vp Vq Vr Vs Vt Vu Fd Fe Ff Hj Vx Vy Wa Wb Wc.
-/
import Derived.Test.YtncccnmmjfapnaaGreatZan
import Derived.Test.YtncccnmmjfapnaaGreatZal
import Derived.Test.YtncccnmmjfapnaaGreatZae
import Derived.Test.YtncccnmmjfapnaaGreatZam
set_option linter.unusedVariables false
set_option linter.unusedSimpArgs false
set_option maxRecDepth 100000
set_option maxHeartbeats 4000000
namespace Go.Gx.Sr
open Go.RowKit Go.Proofs Go.Proofs.YtncccnmmjfapnaaGreat Go.Gx.Ix
theorem clone143 (n:Nat) (hn:n≤1000000) (get:Nat→Nat→RV):Own Tryz.prog 143 [] [.r (.rs 2 n get)] (.sl 0 2 0 n none) [.vec 45 2 n λi j=>.r (get i j)]:=by
 refine own_of_GC0 T_ok Tryz.func143 rfl (by kernel_rfl) (nb rfl) rfl rfl ?_
 simp[go_sem]
 refine⟨λh=>.inr (by subst h;simp),⟨by omega,by omega⟩,⟨[0],by simp,λN=>⟨?_,?_⟩⟩⟩
 ·simp[go_sem]
 ·simp[go_sem,joined]
  intro i j hi hj h
  omega
theorem clone144 (n:Nat) (hn:n≤1000000) (get:Nat→Nat→RV):Own Tryz.prog 144 [] [.r (.rs 3 n get)] (.sl 0 3 0 n none) [.vec 114 3 n λi j=>.r (get i j)]:=by
 refine own_of_GC0 T_ok Tryz.func144 rfl (by kernel_rfl) (nb rfl) rfl rfl ?_
 simp[go_sem]
 refine⟨λh=>.inr (by subst h;simp),⟨by omega,by omega⟩,⟨[0],by simp,λN=>⟨?_,?_⟩⟩⟩
 ·simp[go_sem]
 ·simp[go_sem,joined]
  intro i j hi hj h
  omega
theorem clone145 (n:Nat) (hn:n≤1000000) (get:Nat→Nat→RV):Own Tryz.prog 145 [] [.r (.rs 4 n get)] (.sl 0 4 0 n none) [.vec 100 4 n λi j=>.r (get i j)]:=by
 refine own_of_GC0 T_ok Tryz.func145 rfl (by kernel_rfl) (nb rfl) rfl rfl ?_
 simp[go_sem]
 refine⟨λh=>.inr (by subst h;simp),⟨by omega,by omega⟩,⟨[0],by simp,λN=>⟨?_,?_⟩⟩⟩
 ·simp[go_sem]
 ·simp[go_sem,joined]
  intro i j hi hj h
  omega
theorem cloneP135 (n:Nat) (hn:n≤1000000) (get:Nat→Nat→RV):Pure Tryz.prog 135 [.r (.rs 2 n get)] (· =.r (.rs 2 n get)):=own_pure (Go.Gx.clone114 n hn get) (by simp[go_sem])
theorem cloneP136 (n:Nat) (hn:n≤1000000) (get:Nat→Nat→RV):Pure Tryz.prog 136 [.r (.rs 3 n get)] (· =.r (.rs 3 n get)):=own_pure (Go.Gx.clone115 n hn get) (by simp[go_sem])
theorem cloneP138 (n:Nat) (hn:n≤1000000) (get:Nat→Nat→RV):Pure Tryz.prog 138 [.r (.rs 2 n get)] (· =.r (.rs 2 n get)):=own_pure (Go.Gx.clone117 n hn get) (by simp[go_sem])
theorem cloneP139 (n:Nat) (hn:n≤1000000) (get:Nat→Nat→RV):Pure Tryz.prog 139 [.r (.rs 8 n get)] (· =.r (.rs 8 n get)):=own_pure (Rg.clone105 n hn get) (by simp[go_sem])
theorem cloneP140 (n:Nat) (hn:n≤1000000) (get:Nat→Nat→RV):Pure Tryz.prog 140 [.r (.rs 3 n get)] (· =.r (.rs 3 n get)):=own_pure (Rg.clone106 n hn get) (by simp[go_sem])
theorem cloneP141 (n:Nat) (hn:n≤1000000) (get:Nat→Nat→RV):Pure Tryz.prog 141 [.r (.rs 4 n get)] (· =.r (.rs 4 n get)):=own_pure (Rg.clone107 n hn get) (by simp[go_sem])
theorem cloneP142 (n:Nat) (hn:n≤1000000) (get:Nat→Nat→RV):Pure Tryz.prog 142 [.r (.rs 5 n get)] (· =.r (.rs 5 n get)):=own_pure (Rg.clone108 n hn get) (by simp[go_sem])
theorem cloneP143 (n:Nat) (hn:n≤1000000) (get:Nat→Nat→RV):Pure Tryz.prog 143 [.r (.rs 2 n get)] (· =.r (.rs 2 n get)):=own_pure (clone143 n hn get) (by simp[go_sem])
theorem cloneP144 (n:Nat) (hn:n≤1000000) (get:Nat→Nat→RV):Pure Tryz.prog 144 [.r (.rs 3 n get)] (· =.r (.rs 3 n get)):=own_pure (clone144 n hn get) (by simp[go_sem])
theorem cloneP145 (n:Nat) (hn:n≤1000000) (get:Nat→Nat→RV):Pure Tryz.prog 145 [.r (.rs 4 n get)] (· =.r (.rs 4 n get)):=own_pure (clone145 n hn get) (by simp[go_sem])
theorem cloneP146 (n:Nat) (hn:n≤1000000) (get:Nat→Nat→RV):Pure Tryz.prog 146 [.r (.rs 7 n get)] (· =.r (.rs 7 n get)):=own_pure (clone146 n hn get) (by simp[go_sem])
theorem copied65 (x:SvG) (hx:x.OK):Pure Tryz.prog 65 [x.sv] (· =x.sv):=by
 refine Pure.ofSub ?_
 refine pure_of_GC T_ok Tryz.func65 rfl (by kernel_rfl) (nb rfl) rfl rfl ?_
 have c1:=hx.g.nr;have c2:=hx.g.nl;have c3:=hx.g.nc;have c4:=hx.g.nv
 have d1:=hx.ir;have d2:=hx.rn;have d3:=hx.rc;have d4:=hx.rw';have d5:=hx.rm;have d6:=hx.ch;have d7:=hx.ks;have d8:=hx.lg
 simp[go_sem]
 refine GDraw_of T_ok (by kernel_rfl) 10 (by kernel_rfl) rfl rfl ?_
 simp[go_sem]
 refine⟨_,dcall_val (cloneP135 x.g.nr (by omega) _) rfl rfl,?_⟩
 simp[go_sem]
 refine⟨_,dcall_val (cloneP136 x.g.nl (by omega) _) rfl rfl,?_⟩
 simp[go_sem]
 refine callK_own [] (Go.Gx.clone116 x.g.nc (by omega) _) (by simp) rfl trivial ?_
 simp[go_sem]
 refine GLoop_p T_ok (α:=Nat) (λk=>[(1,.ptr 0 0 17 0),(2,.ptr 1 0 17 0),(25,.sl 2 3 0 x.g.nc none),(26,.i x.g.nc),(27,.i k)])
  (λk M nx=>k≤x.g.nc∧3≤nx∧M 0=some (.box [.i x.num,.i x.den,.i x.turns,.i x.mage,.w x.key,.i x.now,x.g.rr,x.g.ll,.sl 2 3 0 x.g.nc none,irs x.ir,Rg.RuleG.rs x.r.nr x.r.r,Rg.ConG.rs x.r.nc x.r.c,Rg.WarG.rs x.r.nw x.r.w,Rg.MarkG.rs x.r.nm x.r.m,chs x.ch,kss x.ks,lgs x.lg])∧
    M 1=some (.box [.i 0,.i 0,.i 0,.i 0,.r (.v (.int .u64 0)),.i 0,nilS,nilS,nilS,nilS,nilS,nilS,nilS,nilS,nilS,nilS,nilS])∧∃G,M 2=some (.vec 150 3 x.g.nc G)∧∀i j,i<x.g.nc→j<3→G i j=.r ((x.g.c i).c j)) (λk=>x.g.nc - k) 0 ?_ (by simp[go_sem]) ?_
 ·simp[go_sem]
 rintro k J M nx _ ⟨hk,hnx,h0,h1,G,h2,hG⟩
 by_cases hlt:k<x.g.nc
 ·have g0:=hG k 0 hlt (by decide)
  have g1:=hG k 1 hlt (by decide)
  have g2:=hG k 2 hlt (by decide)
  have e0:¬0=nx:=by omega
  have e1:¬1=nx:=by omega
  have e2:¬2=nx:=by omega
  have e0':¬nx=0:=by omega
  have e1':¬nx=1:=by omega
  have e2':¬nx=2:=by omega
  simp[go_sem,hlt,h0,h1,h2,g0,g1,g2,e0,e1,e2,e0',e1',e2']
  refine GDraw_of T_ok (by kernel_rfl) 7 (by kernel_rfl) rfl rfl ?_
  simp[go_sem,hlt,h0,h1,h2,g0,g1,g2,e0,e1,e2,e0',e1',e2']
  refine⟨_,dcall_val (cloneP138 (x.g.c k).nv (by have:=c4 k hlt;omega) _) rfl rfl,⟨rfl,rfl⟩,⟨by omega,by omega⟩,k+1,by omega,by omega,by omega,by omega,λi j hi hj=>?_⟩
  by_cases e:i=k∧2≤j∧j<3
  ·obtain⟨rfl,h3,h4⟩:=e
   have:j=2:=by omega
   subst this
   rw[if_pos ⟨rfl,h3,h4⟩]
   rfl
  ·rw[if_neg e]
   exact hG i j hi hj
 have hk':k=x.g.nc:=by omega
 subst hk'
 have p0:0<nx:=by omega
 have p1:1<nx:=by omega
 simp[go_sem,h0,h1,h2,p0,p1]
 refine GDraw_of T_ok (by kernel_rfl) 10 (by kernel_rfl) rfl rfl ?_
 simp[go_sem,h0,h1,h2,p0,p1]
 refine⟨_,dcall_val (cloneP139 x.r.nr (by omega) _) rfl rfl,?_⟩
 simp[go_sem,h0,h1,h2,p0,p1]
 refine⟨_,dcall_val (cloneP140 x.r.nc (by omega) _) rfl rfl,?_⟩
 simp[go_sem,h0,h1,h2,p0,p1]
 refine GDraw_of T_ok (by kernel_rfl) 10 (by kernel_rfl) rfl rfl ?_
 simp[go_sem,h0,h1,h2,p0,p1]
 refine⟨_,dcall_val (cloneP141 x.r.nw (by omega) _) rfl rfl,?_⟩
 simp[go_sem,h0,h1,h2,p0,p1]
 refine⟨_,dcall_val (cloneP142 x.r.nm (by omega) _) rfl rfl,?_⟩
 simp[go_sem,h0,h1,h2,p0,p1]
 refine GDraw_of T_ok (by kernel_rfl) 13 (by kernel_rfl) rfl rfl ?_
 simp[go_sem,h0,h1,h2,p0,p1]
 refine⟨_,dcall_val (cloneP143 x.ir.length (by omega) _) rfl rfl,?_⟩
 simp[go_sem,h0,h1,h2,p0,p1]
 refine⟨_,dcall_val (cloneP144 x.ch.length (by omega) _) rfl rfl,?_⟩
 simp[go_sem,h0,h1,h2,p0,p1]
 refine⟨_,dcall_val (cloneP145 x.ks.length (by omega) _) rfl rfl,?_⟩
 simp[go_sem,h0,h1,h2,p0,p1]
 refine⟨_,dcall_val (cloneP146 x.lg.length (by omega) _) rfl rfl,?_⟩
 simp[go_sem,h0,h1,h2,p0,p1]
 intro i j hi hj
 rw[hG i j hi hj]
 rfl
end Go.Gx.Sr
namespace Go.Gx
open Go.RowKit
section
variable {P:Program} {T:Tab} {N:Cfg} {k:List It} {Q:GQ} {E:Env} {M:Mem} {nx:Nat} {e:Exit}
theorem GDraw_cutv (S:List (Nat × SV)) (φ:Mem→Nat→Prop) {id:Nat} {all:Array Oper} (h:GDraw P T N id all [] (vq N (JP S φ)) E M nx) (hk:∀J M nx,φ M nx→GK P T N k Q .normal (updL J S) M nx):GDraw P T N id all k Q E M nx:=
 GDraw_cut S φ (GW.vq h) hk
theorem GSt.wkBox (p:Nat) {l l':List SV} (hM:M p=some (.box l)) (h:SV.subL l l'):GSt N E M nx E (upd M p (some (.box l'))) nx:=
 GSt.wk λr=>by
  by_cases e:r=p
  ·subst e
   rw[hM]
   simp only [upd,if_pos]
   exact .inl h
  ·simp only [upd,if_neg e]
   cases M r with
   | none=>exact .inl trivial
   | some R=>exact .inl (Reg.sub_rfl _)
end
end Go.Gx
namespace Go.Gx.Sr
open Go.RowKit Go.Proofs Go.Proofs.YtncccnmmjfapnaaGreat Go.Gx.Ix
abbrev mT (r:SvG × AnG):SV:=.tup [.i r.2.n,hts r.2.h,.i r.2.e]
abbrev Does (f:FuncId) (M:SvG→OrG→SvG × AnG) (x:SvG) (o:OrG):Prop:=OwnS Tryz.prog 1 f [.box x.cells] [.ptr 0 0 17 0,o.sv] (mT (M x o)) [.box (M x o).1.cells]
theorem SvG.valid_iff {x:SvG}:x.valid=true↔x.setB=true∧x.prtB=true∧x.peoB=true∧x.timB=true:=by
 unfold SvG.valid;simp only [Bool.and_eq_true];exact⟨λ⟨a,⟨b,c⟩,d⟩=>⟨a,b,c,d⟩,λ⟨a,b,c,d⟩=>⟨a,⟨b,c⟩,d⟩⟩
theorem SvG.now_in {x:SvG} (h:x.valid=true):0≤x.now∧x.now≤maxT:=by
 have:=(SvG.valid_iff.1 h).2.1
 simp only [SvG.prtB,Bool.and_eq_true] at this
 have:=this.2.1.1
 simpa [Ix.btw] using this
theorem does_tick (x:SvG) (o:OrG) (hv:x.valid=true):Does 241 tickM x o:=by
 refine ownS_of_GC T_ok Tryz.func241 rfl (by kernel_rfl) (nb rfl) rfl rfl 1 (Nat.le_refl _) ?_
 have hn:=SvG.now_in hv
 simp only [maxT] at hn
 unfold tickM
 simp[go_sem]
 refine call_val (from75 1 1000 o.n) rfl rfl ?_
 obtain⟨b,hb⟩:∃b,Ix.btw 1 1000 o.n=b:=⟨_,rfl⟩
 rw[hb]
 cases b
 ·simp[go_sem,bad]
  exact⟨[0],⟨rfl,trivial⟩,by simp,λN=>⟨by simp[go_sem],by simp[go_sem]⟩⟩
 have hb':1≤o.n∧o.n≤1000:=by simpa [Ix.btw] using hb
 simp[go_sem]
 refine GDraw_all T_ok (by kernel_rfl) (by kernel_rfl) ?_
 simp[go_sem]
 refine⟨⟨by omega,by omega⟩,?_⟩
 by_cases hc:1099511627776 - o.n<x.now
 ·simp[go_sem,hc,bad]
  exact⟨[0],⟨rfl,trivial⟩,by simp,λN=>⟨by simp[go_sem],by simp[go_sem]⟩⟩
 simp[go_sem,hc,okA]
 refine GDraw_of T_ok (by kernel_rfl) 7 (by kernel_rfl) rfl rfl ?_
 simp[go_sem]
 refine⟨⟨by omega,by omega⟩,?_⟩
 refine⟨[0],⟨rfl,trivial⟩,by simp,λN=>⟨by simp[go_sem],by simp[go_sem]⟩⟩
theorem does_vote (x:SvG) (o:OrG) (hx:x.OK):Does 243 voteM x o:=by
 refine ownS_of_GC T_ok Tryz.func243 rfl (by kernel_rfl) (nb rfl) rfl rfl 1 (Nat.le_refl _) ?_
 unfold voteM
 have hc:=vote35p hx.g o.n o.a o.b o.f
 obtain⟨e,he⟩:∃e,x.g.voteE o.n o.a o.b o.f=e:=⟨_,rfl⟩
 obtain⟨y,hy⟩:∃y,x.g.voteX o.n o.a o.b o.f=y:=⟨_,rfl⟩
 obtain⟨d,hd⟩:∃d,x.g.voteB o.n o.a o.b o.f=d:=⟨_,rfl⟩
 rw[he,hy,hd] at hc
 rw[he,hy,hd]
 simp[go_sem]
 refine GDraw_ls (S:=[(0,.ptr 0 0 17 0),(3,.ptr 1 0 34 0),(7,.ptr 2 0 3 0),(8,.b d),(9,.i e)]) (l:=[some (.box x.cells),some (.box o.cells),some (.box [y.rr,y.ll,y.cc])]) (n:=3)
  (t:=(.take 0 (.take 1 (.take 2 (.take 3 (.take 4 (.take 5 (.take 6 (.take 7 (.take 8 (.take 9 (.take 10 (.take 11 (.take 12 (.alt 13 [12,11,10,9,8,7,6,5,4,3,2,1,0] (.take 14 (.take 15 (.take 16 (.take 17 (.alt 18 [17,16,15,14,11,9,7,5,3,2,1,0] (.alt 19 [17,16,15,14,11,9,7,5,3,2,1,0] (.take 20 (.take 21 (.done [21,20,17,16]))) .nil) .nil))))) (.alt 18 [12,11,10,9,8,7,6,5,4,3,2,1,0] (.alt 13 [12,11,10,9,8,7,6,5,4,3,2,1,0] (.take 14 (.take 15 (.take 16 (.take 17 (.alt 19 [17,16,15,14,11,9,7,5,3,2,1,0] (.take 20 (.take 21 (.done [21,20,17,16]))) .nil))))) .nil) .nil))))))))))))))))
  T_ok (by kernel_rfl) (by kernel_rfl) (by kernel_rfl) (λ_ _ _ _ h=>h) rfl ?_ ?_
 ·simp[go_sem]
  refine⟨call_val hc rfl rfl ?_,call_val hc rfl rfl ?_⟩
  ·simp[go_sem]
  ·simp[go_sem]
 intro J
 simp[go_sem]
 by_cases he0:e=0
 ·subst he0
  cases d
  ·simp[go_sem,okA]
   exact⟨[0],⟨rfl,trivial⟩,by simp,λN=>⟨by simp[go_sem],by simp[go_sem]⟩⟩
  ·simp[go_sem,okA]
   exact⟨[0],⟨rfl,trivial⟩,by simp,λN=>⟨by simp[go_sem],by simp[go_sem]⟩⟩
 ·simp[go_sem,he0,bad]
  exact⟨[0],⟨rfl,trivial⟩,by simp,λN=>⟨by simp[go_sem],by simp[go_sem]⟩⟩
theorem does_wd (x:SvG) (o:OrG) (hx:x.OK):Does 244 wdM x o:=by
 refine ownS_of_GC T_ok Tryz.func244 rfl (by kernel_rfl) (nb rfl) rfl rfl 1 (Nat.le_refl _) ?_
 unfold wdM
 have hc:=wd37p hx.g o.a o.b
 obtain⟨e,he⟩:∃e,x.g.wdE o.a o.b=e:=⟨_,rfl⟩
 obtain⟨y,hy⟩:∃y,x.g.wdX o.a o.b=y:=⟨_,rfl⟩
 rw[he,hy] at hc
 rw[he,hy]
 simp[go_sem]
 refine GDraw_ls (S:=[(0,.ptr 0 0 17 0),(3,.ptr 1 0 34 0),(7,.ptr 2 0 3 0),(8,.i e)]) (l:=[some (.box x.cells),some (.box o.cells),some (.box [y.rr,y.ll,y.cc])]) (n:=3)
  (t:=(.take 0 (.take 1 (.take 2 (.take 3 (.take 4 (.take 5 (.take 6 (.take 7 (.take 8 (.alt 9 [8,7,6,5,4,3,2,1,0] (.take 10 (.take 11 (.take 12 (.alt 13 [12,11,10,7,5,3,2,1,0] (.alt 14 [12,11,10,7,5,3,2,1,0] (.take 15 (.done [15,12])) .nil) .nil)))) (.alt 13 [8,7,6,5,4,3,2,1,0] (.alt 9 [8,7,6,5,4,3,2,1,0] (.take 10 (.take 11 (.take 12 (.alt 14 [12,11,10,7,5,3,2,1,0] (.take 15 (.done [15,12])) .nil)))) .nil) .nil))))))))))))
  T_ok (by kernel_rfl) (by kernel_rfl) (by kernel_rfl) (λ_ _ _ _ h=>h) rfl ?_ ?_
 ·simp[go_sem]
  refine⟨call_val hc rfl rfl ?_,call_val hc rfl rfl ?_⟩
  ·simp[go_sem]
  ·simp[go_sem]
 intro J
 simp[go_sem]
 by_cases he0:e=0
 ·subst he0
  simp[go_sem,okA]
  exact⟨[0],⟨rfl,trivial⟩,by simp,λN=>⟨by simp[go_sem],by simp[go_sem]⟩⟩
 ·simp[go_sem,he0,bad]
  exact⟨[0],⟨rfl,trivial⟩,by simp,λN=>⟨by simp[go_sem],by simp[go_sem]⟩⟩
theorem settle338 (x:SvG) (y:Rg.RG) (e:Int):OwnS Tryz.prog 1 338 [.box x.cells] [.ptr 0 0 17 0,y.sv,.i e] (.tup [.i 0,hts [],.i e]) [.box (if e=0 then {x with r:=y} else x).cells]:=by
 refine ownS_of_GC T_ok Tryz.func338 rfl (by kernel_rfl) (nb rfl) rfl rfl 1 (Nat.le_refl _) ?_
 simp[go_sem]
 by_cases he:e=0
 ·subst he
  simp[go_sem]
  exact⟨[0],⟨rfl,trivial⟩,by simp,λN=>⟨by simp[go_sem],by simp[go_sem]⟩⟩
 ·simp[go_sem,he]
  exact⟨[0],⟨rfl,trivial⟩,by simp,λN=>⟨by simp[go_sem],by simp[go_sem]⟩⟩
theorem does_con (x:SvG) (o:OrG) (hx:x.OK):Does 248 conM x o:=by
 refine ownS_of_GC T_ok Tryz.func248 rfl (by kernel_rfl) (nb rfl) rfl rfl 1 (Nat.le_refl _) ?_
 unfold conM
 simp[go_sem]
 refine call_lent (v:=.b (x.g.th o.c.p)) (by simp[go_sem];exact there162 x hx.g.ok _ (x.at_view _) o.c.p) rfl ?_
 by_cases ht:x.g.th o.c.p=true
 rotate_left
 ·simp[go_sem,ht,bad]
  exact⟨[0],⟨rfl,trivial⟩,by simp,λN=>⟨by simp[go_sem],by simp[go_sem]⟩⟩
 have hc:=Rg.put43 x.r o.c hx.r
 obtain⟨e,he⟩:∃e,x.r.cnE o.c=e:=⟨_,rfl⟩
 rw[he] at hc ⊢
 obtain⟨y,hy⟩:∃y,(if e=0 then x.r.putC o.c else Rg.RG.nil)=y:=⟨_,rfl⟩
 rw[hy] at hc
 simp[go_sem,ht]
 refine GDraw_l (t:=(.take 0 (.take 1 (.take 2 (.take 3 (.take 4 (.take 5 (.take 6 (.take 7 (.alt 8 [7,6,5,4,3,2,1,0] (.take 9 (.take 10 (.alt 11 [10,9,6,4,3,2,1,0] (.take 12 (.take 13 (.take 14 (.take 15 (.take 16 (.take 17 (.done [17,16,15,14,13,12,6,4,3,2,1]))))))) .nil))) .nil)))))))))) T_ok (by kernel_rfl) (by kernel_rfl) (by kernel_rfl) (λ_ _ _ _ h=>h) ?_
 simp[go_sem]
 refine call_val hc rfl rfl ?_
 simp[go_sem]
 have hs:=settle338 x y e
 by_cases he0:e=0
 ·subst he0
  rw[if_pos rfl] at hs hy ⊢
  refine callK_ownS [0] hs (Nat.le_refl _) (by simp) rfl ⟨rfl,trivial⟩ ?_
  rw[hy]
  simp[go_sem,okA]
  exact⟨[0],⟨rfl,trivial⟩,by simp,λN=>⟨by simp[go_sem],by simp[go_sem]⟩⟩
 ·rw[if_neg he0] at hs ⊢
  refine callK_ownS [0] hs (Nat.le_refl _) (by simp) rfl ⟨rfl,trivial⟩ ?_
  simp[go_sem,bad]
  exact⟨[0],⟨rfl,trivial⟩,by simp,λN=>⟨by simp[go_sem],by simp[go_sem]⟩⟩
theorem does_put (x:SvG) (o:OrG) (hx:x.OK):Does 249 putM x o:=by
 refine ownS_of_GC T_ok Tryz.func249 rfl (by kernel_rfl) (nb rfl) rfl rfl 1 (Nat.le_refl _) ?_
 unfold putM
 simp[go_sem]
 refine call_lent (v:=.b (x.g.th o.m.p)) (by simp[go_sem];exact there162 x hx.g.ok _ (x.at_view _) o.m.p) rfl ?_
 by_cases ht:x.g.th o.m.p=true
 rotate_left
 ·simp[go_sem,ht,bad]
  exact⟨[0],⟨rfl,trivial⟩,by simp,λN=>⟨by simp[go_sem],by simp[go_sem]⟩⟩
 have hc:=Rg.put46 x.r o.m hx.r
 obtain⟨e,he⟩:∃e,x.r.mkE o.m=e:=⟨_,rfl⟩
 rw[he] at hc ⊢
 obtain⟨y,hy⟩:∃y,(if e=0 then x.r.putM o.m else Rg.RG.nil)=y:=⟨_,rfl⟩
 rw[hy] at hc
 simp[go_sem,ht]
 refine GDraw_l (t:=(.take 0 (.take 1 (.take 2 (.take 3 (.take 4 (.take 5 (.take 6 (.take 7 (.alt 8 [7,6,5,4,3,2,1,0] (.take 9 (.take 10 (.alt 11 [10,9,6,4,3,2,1,0] (.take 12 (.take 13 (.take 14 (.take 15 (.take 16 (.take 17 (.done [17,16,15,14,13,12,6,4,3,2,1]))))))) .nil))) .nil)))))))))) T_ok (by kernel_rfl) (by kernel_rfl) (by kernel_rfl) (λ_ _ _ _ h=>h) ?_
 simp[go_sem]
 refine call_val hc rfl rfl ?_
 simp[go_sem]
 have hs:=settle338 x y e
 by_cases he0:e=0
 ·subst he0
  rw[if_pos rfl] at hs hy ⊢
  refine callK_ownS [0] hs (Nat.le_refl _) (by simp) rfl ⟨rfl,trivial⟩ ?_
  rw[hy]
  simp[go_sem,okA]
  exact⟨[0],⟨rfl,trivial⟩,by simp,λN=>⟨by simp[go_sem],by simp[go_sem]⟩⟩
 ·rw[if_neg he0] at hs ⊢
  refine callK_ownS [0] hs (Nat.le_refl _) (by simp) rfl ⟨rfl,trivial⟩ ?_
  simp[go_sem,bad]
  exact⟨[0],⟨rfl,trivial⟩,by simp,λN=>⟨by simp[go_sem],by simp[go_sem]⟩⟩
theorem nil_le (k:Nat) (get:Nat→Nat→RV):(nilS:SV).le (.r (.rs k 0 get)):=λZ w y h=>⟨none,0,h,Nat.le_refl 0,λh=>absurd h (Nat.lt_irrefl 0)⟩
def moE (n:Nat) (good:Bool):Int:=if n=20 then 9 else if good then 0 else 2
theorem alone335 (get:Nat→Nat→RV):Pure Tryz.prog 335 [.r (.rs 8 1 get)] (· =.agg [.r (.rs 8 1 get),nilS,nilS,nilS]):=by
 refine pure_of_GC T_ok Tryz.func335 rfl (by kernel_rfl) (nb rfl) rfl rfl ?_
 simp[go_sem]
def oneRuleG (y:Rg.RuleG):Rg.RG:=⟨1,λ_=>y,0,λ_=>⟨0,0,0⟩,0,λ_=>⟨0,0,0,0⟩,0,λ_=>⟨0,0,0,0,0⟩⟩
theorem oneRuleG_valid (y:Rg.RuleG):(oneRuleG y).valid=y.good:=by
 simp[Rg.RG.valid,Rg.RG.c1,Rg.RG.c2,Rg.RG.c3,Rg.RG.c4,Rg.RG.c5,Rg.RG.c6,oneRuleG,List.range_succ]
theorem chkRuleG (y:Rg.RuleG) (hb:y.byte) (get:Nat→Nat→RV) (h:∀j,j<8→get 0 j=y.c j):Pure Tryz.prog 121 [.agg [.r (.rs 8 1 get),nilS,nilS,nilS]] (· =.i (if y.good then 0 else 8)):=by
 have:=Rg.check28 (oneRuleG y) ⟨by simp[oneRuleG],by simp[oneRuleG],by simp[oneRuleG],by simp[oneRuleG],λi hi=>hb⟩
 rw[oneRuleG_valid] at this
 refine this.args ⟨Go.Gx.le_agg ?_,trivial⟩
 refine⟨?_,?_,?_,?_,trivial⟩
 ·refine le_rs λi j hi hj=>?_
  obtain rfl:i=0:=by omega
  exact h j hj
 ·exact nil_le _ _
 ·exact nil_le _ _
 ·exact nil_le _ _
theorem rule_row (y:Rg.RuleG) (j:Nat) (hj:j<8):([.i y.p,.i y.r,.i y.l,.i y.f,.i y.t,.i y.k,.i y.s,.r (.v (.int .u8 y.b))]:List SV)[0*8+j]?.getD (SV.r .any)=.r (y.c j):=by
 rcases(by omega:j=0∨j=1∨j=2∨j=3∨j=4∨j=5∨j=6∨j=7) with rfl | rfl | rfl | rfl | rfl | rfl | rfl | rfl <;> rfl
theorem RuleG.rows (n:Nat) (r:Nat→Rg.RuleG) (y:Rg.RuleG) (M:Mem) (d q:Nat) (new:Nat→Nat→SV) (h:∀j,j<8→new 0 j=.r (y.c j)):∀i j,i<n+1→j<8→viewRV M d (SV.kill q (joined n 1 (λi j=>SV.r ((r i).c j)) new i j))=((if i<n then r i else y).c j):=by
 intro i j hi hj
 unfold joined
 by_cases e:i<n
 ·rw[if_pos e,if_pos e]
  cases d <;> rfl
 ·obtain rfl:i=n:=by omega
  rw[if_neg e,if_pos (by omega),if_neg e,Nat.sub_self,h j hj]
  cases d <;> rfl
theorem more334 (n:Nat) (hn:n<1000000) (r:Nat→Rg.RuleG) (y:Rg.RuleG) (hb:y.byte):Pure Tryz.prog 334 [Rg.RuleG.rs n r,y.sv,.i 20,.fn (.func 335) [] []] (· =.tup [Rg.RuleG.rs (if moE n y.good=0 then n+1 else 0) (λi=>if i<n then r i else y),.i (moE n y.good)]):=by
 refine Pure.ofSub ?_
 refine pure_of_GC T_ok Tryz.func334 rfl (by kernel_rfl) (nb rfl) rfl rfl ?_
 unfold moE
 by_cases h0:n=20
 ·subst h0
  simp[go_sem]
 have h0':¬(n:Int)=20:=by omega
 simp[go_sem,h0,h0']
 refine callK_freeze 1 (by simp[go_sem];rfl) ?_
 simp[go_sem]
 refine call_val (alone335 _) rfl rfl ?_
 simp[go_sem]
 refine call_val (chkRuleG y hb _ λj hj=>?_) rfl rfl ?_
 ·rw[rule_row y j hj];rfl
 cases hg:y.good
 ·simp[go_sem]
 simp[go_sem]
 refine GDraw_l (t:=(.take 0 (.take 2 (.alt 1 [2,0] (.alt 3 [2] (.alt 4 [] (.take 5 (.take 6 (.done [6,5]))) .nil) .nil) (.alt 3 [2,0] (.alt 1 [0] (.alt 4 [] (.take 5 (.take 6 (.done [6,5]))) .nil) .nil) .nil))))) T_ok (by kernel_rfl) (by kernel_rfl) (by kernel_rfl) (λ_ _ _ _ h=>h) ?_
 simp[go_sem]
 refine⟨?_,?_⟩
 ·refine callK_own [] (Rg.clone105 n (by omega) _) (by simp) rfl trivial ?_
  simp[go_sem]
  exact⟨⟨by omega,by omega⟩,RuleG.rows n r y _ _ _ _ λj hj=>rule_row y j hj⟩
 ·refine callK_own [] (Rg.clone105 n (by omega) _) (by simp) rfl trivial ?_
  simp[go_sem]
  exact⟨⟨by omega,by omega⟩,RuleG.rows n r y _ _ _ _ λj hj=>rule_row y j hj⟩
theorem alone337 (get:Nat→Nat→RV):Pure Tryz.prog 337 [.r (.rs 4 1 get)] (· =.agg [nilS,nilS,.r (.rs 4 1 get),nilS]):=by
 refine pure_of_GC T_ok Tryz.func337 rfl (by kernel_rfl) (nb rfl) rfl rfl ?_
 simp[go_sem]
def oneWarG (y:Rg.WarG):Rg.RG:=⟨0,λ_=>⟨0,0,0,0,0,0,0,0⟩,0,λ_=>⟨0,0,0⟩,1,λ_=>y,0,λ_=>⟨0,0,0,0,0⟩⟩
theorem oneWarG_valid (y:Rg.WarG):(oneWarG y).valid=y.good:=by
 simp[Rg.RG.valid,Rg.RG.c1,Rg.RG.c2,Rg.RG.c3,Rg.RG.c4,Rg.RG.c5,Rg.RG.c6,oneWarG,List.range_succ]
theorem chkWarG (y:Rg.WarG) (get:Nat→Nat→RV) (h:∀j,j<4→get 0 j=y.c j):Pure Tryz.prog 121 [.agg [nilS,nilS,.r (.rs 4 1 get),nilS]] (· =.i (if y.good then 0 else 8)):=by
 have:=Rg.check28 (oneWarG y) ⟨by simp[oneWarG],by simp[oneWarG],by simp[oneWarG],by simp[oneWarG],λi hi=>absurd hi (Nat.not_lt_zero i)⟩
 rw[oneWarG_valid] at this
 refine this.args ⟨Go.Gx.le_agg ?_,trivial⟩
 refine⟨?_,?_,?_,?_,trivial⟩
 ·exact nil_le _ _
 ·exact nil_le _ _
 ·refine le_rs λi j hi hj=>?_
  obtain rfl:i=0:=by omega
  exact h j hj
 ·exact nil_le _ _
theorem war_row (y:Rg.WarG) (j:Nat) (hj:j<4):([.i y.l,.i y.p,.i y.f,.i y.t]:List SV)[0*4+j]?.getD (SV.r .any)=.r (y.c j):=by
 rcases(by omega:j=0∨j=1∨j=2∨j=3) with rfl | rfl | rfl | rfl <;> rfl
theorem WarG.rows (n:Nat) (r:Nat→Rg.WarG) (y:Rg.WarG) (M:Mem) (d q:Nat) (new:Nat→Nat→SV) (h:∀j,j<4→new 0 j=.r (y.c j)):∀i j,i<n+1→j<4→viewRV M d (SV.kill q (joined n 1 (λi j=>SV.r ((r i).c j)) new i j))=((if i<n then r i else y).c j):=by
 intro i j hi hj
 unfold joined
 by_cases e:i<n
 ·rw[if_pos e,if_pos e]
  cases d <;> rfl
 ·obtain rfl:i=n:=by omega
  rw[if_neg e,if_pos (by omega),if_neg e,Nat.sub_self,h j hj]
  cases d <;> rfl
theorem more336 (n:Nat) (hn:n<1000000) (r:Nat→Rg.WarG) (y:Rg.WarG):Pure Tryz.prog 336 [Rg.WarG.rs n r,y.sv,.i 20,.fn (.func 337) [] []] (· =.tup [Rg.WarG.rs (if moE n y.good=0 then n+1 else 0) (λi=>if i<n then r i else y),.i (moE n y.good)]):=by
 refine Pure.ofSub ?_
 refine pure_of_GC T_ok Tryz.func336 rfl (by kernel_rfl) (nb rfl) rfl rfl ?_
 unfold moE
 by_cases h0:n=20
 ·subst h0
  simp[go_sem]
 have h0':¬(n:Int)=20:=by omega
 simp[go_sem,h0,h0']
 refine callK_freeze 1 (by simp[go_sem];rfl) ?_
 simp[go_sem]
 refine call_val (alone337 _) rfl rfl ?_
 simp[go_sem]
 refine call_val (chkWarG y _ λj hj=>?_) rfl rfl ?_
 ·rw[war_row y j hj];rfl
 cases hg:y.good
 ·simp[go_sem]
 simp[go_sem]
 refine GDraw_l (t:=(.take 0 (.take 2 (.alt 1 [2,0] (.alt 3 [2] (.alt 4 [] (.take 5 (.take 6 (.done [6,5]))) .nil) .nil) (.alt 3 [2,0] (.alt 1 [0] (.alt 4 [] (.take 5 (.take 6 (.done [6,5]))) .nil) .nil) .nil))))) T_ok (by kernel_rfl) (by kernel_rfl) (by kernel_rfl) (λ_ _ _ _ h=>h) ?_
 simp[go_sem]
 refine⟨?_,?_⟩
 ·refine callK_own [] (Rg.clone107 n (by omega) _) (by simp) rfl trivial ?_
  simp[go_sem]
  exact⟨⟨by omega,by omega⟩,WarG.rows n r y _ _ _ _ λj hj=>war_row y j hj⟩
 ·refine callK_own [] (Rg.clone107 n (by omega) _) (by simp) rfl trivial ?_
  simp[go_sem]
  exact⟨⟨by omega,by omega⟩,WarG.rows n r y _ _ _ _ λj hj=>war_row y j hj⟩
theorem does_rule (x:SvG) (o:OrG) (hx:x.OK) (hb:o.rl.byte):Does 246 ruleM x o:=by
 refine ownS_of_GC T_ok Tryz.func246 rfl (by kernel_rfl) (nb rfl) rfl rfl 1 (Nat.le_refl _) ?_
 unfold ruleM
 simp[go_sem]
 have hc:=more334 x.r.nr hx.rn x.r.r o.rl hb
 refine GDraw_l (t:=(.take 0 (.take 1 (.take 2 (.take 3 (.take 4 (.take 5 (.take 6 (.take 7 (.alt 8 [7,6,5,4,3,2,1,0] (.take 9 (.take 10 (.take 11 (.take 12 (.take 13 (.done [13,12,11,10,9,6,4,3,2,1,0])))))) .nil)))))))))) T_ok (by kernel_rfl) (by kernel_rfl) (by kernel_rfl) (λ_ _ _ _ h=>h) ?_
 simp[go_sem]
 refine call_val hc rfl rfl ?_
 unfold moE
 by_cases h0:x.r.nr=20
 ·simp[go_sem,h0,bad]
  exact⟨[0],⟨rfl,trivial⟩,by simp,λN=>⟨by simp[go_sem],by simp[go_sem]⟩⟩
 cases hg:o.rl.good
 ·simp[go_sem,h0,bad]
  exact⟨[0],⟨rfl,trivial⟩,by simp,λN=>⟨by simp[go_sem],by simp[go_sem]⟩⟩
 simp[go_sem,h0,okA]
 exact⟨[0],⟨rfl,trivial⟩,by simp,λN=>⟨by simp[go_sem],by simp[go_sem,Rg.RG.addR]⟩⟩
theorem does_war (x:SvG) (o:OrG) (hx:x.OK):Does 247 warM x o:=by
 refine ownS_of_GC T_ok Tryz.func247 rfl (by kernel_rfl) (nb rfl) rfl rfl 1 (Nat.le_refl _) ?_
 unfold warM
 simp[go_sem]
 refine call_lent (v:=.b (x.g.th o.w.p)) (by simp[go_sem];exact there162 x hx.g.ok _ (x.at_view _) o.w.p) rfl ?_
 by_cases ht:x.g.th o.w.p=true
 rotate_left
 ·simp[go_sem,ht,bad]
  exact⟨[0],⟨rfl,trivial⟩,by simp,λN=>⟨by simp[go_sem],by simp[go_sem]⟩⟩
 simp[go_sem,ht]
 have hc:=more336 x.r.nw hx.rw' x.r.w o.w
 refine GDraw_l (t:=(.take 0 (.take 1 (.take 2 (.take 3 (.take 4 (.take 5 (.take 6 (.take 7 (.alt 8 [7,6,5,4,3,2,1,0] (.take 9 (.take 10 (.take 11 (.take 12 (.take 13 (.done [13,12,11,10,9,6,4,3,2,1,0])))))) .nil)))))))))) T_ok (by kernel_rfl) (by kernel_rfl) (by kernel_rfl) (λ_ _ _ _ h=>h) ?_
 simp[go_sem]
 refine call_val hc rfl rfl ?_
 unfold moE
 by_cases h0:x.r.nw=20
 ·simp[go_sem,h0,bad]
  exact⟨[0],⟨rfl,trivial⟩,by simp,λN=>⟨by simp[go_sem],by simp[go_sem]⟩⟩
 cases hg:o.w.good
 ·simp[go_sem,h0,bad]
  exact⟨[0],⟨rfl,trivial⟩,by simp,λN=>⟨by simp[go_sem],by simp[go_sem]⟩⟩
 simp[go_sem,h0,okA]
 exact⟨[0],⟨rfl,trivial⟩,by simp,λN=>⟨by simp[go_sem],by simp[go_sem,Rg.RG.addW]⟩⟩
theorem snoc_rowsT {α:Type} {f:α→Nat→RV} {l:List α} {x:α} {k q:Nat} {new:Nat→Nat→SV} (h:∀j,j<k→new 0 j=.r (f x j)) :
 ∀i j,i<l.length+1→j<k→(SV.kill q (joined l.length 1 (λi j=>SV.r (rowOf f l i j)) new i j)).toRV=rowOf f (l++[x]) i j:=by
 intro i j hi hj
 unfold joined
 by_cases hiL:i<l.length
 ·rw[if_pos hiL]
  unfold rowOf
  rw[List.getElem?_append_left hiL]
  rfl
 ·obtain rfl:i=l.length:=by omega
  rw[if_neg hiL,if_pos (by omega),Nat.sub_self,h j hj]
  unfold rowOf
  rw[List.getElem?_concat_length]
  rfl
theorem does_chg (x:SvG) (o:OrG) (hx:x.OK):Does 250 chgM x o:=by
 refine ownS_of_GC T_ok Tryz.func250 rfl (by kernel_rfl) (nb rfl) rfl rfl 1 (Nat.le_refl _) ?_
 have hn:=hx.ch
 unfold chgM
 simp[go_sem]
 refine call_lent (v:=.b (x.g.th o.a)) (by simp[go_sem];exact there162 x hx.g.ok _ (x.at_view _) o.a) rfl ?_
 by_cases ht:x.g.th o.a=true
 rotate_left
 ·simp[go_sem,ht,bad]
  exact⟨[0],⟨rfl,trivial⟩,by simp,λN=>⟨by simp[go_sem],by simp[go_sem]⟩⟩
 by_cases h0:x.ch.length=60
 ·have h0':(x.ch.length:Int)=60:=by omega
  simp[go_sem,ht,h0,h0',bad]
  exact⟨[0],⟨rfl,trivial⟩,by simp,λN=>⟨by simp[go_sem],by simp[go_sem]⟩⟩
 have h0':¬(x.ch.length:Int)=60:=by omega
 obtain⟨y,hy⟩:∃y:ChG,ChG.mk x.now o.a o.f=y:=⟨_,rfl⟩
 have hrow:∀j,j<3→([.i x.now,.i o.a,.b o.f]:List SV)[0*3+j]?.getD (SV.r .any)=.r (y.f j):=by
  intro j hj
  subst hy
  rcases(by omega:j=0∨j=1∨j=2) with rfl | rfl | rfl <;> rfl
 rw[hy]
 simp[go_sem,ht,h0,h0',okA]
 refine GDraw_cutv (S:=[(0,.ptr 0 0 17 0)]) (φ:=λM nx=>M 0=some (.box ({x with ch:=x.ch++[y]}:SvG).cells)) ?_ ?_
 ·refine GDraw_l (t:=(.take 0 (.take 1 (.take 2 (.take 3 (.take 4 (.take 5 (.take 7 (.take 8 (.take 9 (.take 10 (.take 11 (.take 12 (.take 13 (.take 14 (.take 15 (.take 16 (.alt 6 [16,15,14,13,12,11,10,9,8,7,5,4,3,2,1,0] (.alt 17 [16,15,14,13,12,11,10,9,8,7,4,3,2,1,0] (.alt 18 [15,14,13,12,11,10,9,8,7,4,3,2,1,0] (.take 19 (.take 20 (.take 21 (.alt 22 [21,20,19,15,14,13,12,11,10,9,8,7,4,3,2,1,0] (.done [20,19]) .nil)))) .nil) .nil) (.alt 17 [16,15,14,13,12,11,10,9,8,7,5,4,3,2,1,0] (.alt 6 [15,14,13,12,11,10,9,8,7,5,4,3,2,1,0] (.alt 18 [15,14,13,12,11,10,9,8,7,4,3,2,1,0] (.take 19 (.take 20 (.take 21 (.alt 22 [21,20,19,15,14,13,12,11,10,9,8,7,4,3,2,1,0] (.done [20,19]) .nil)))) .nil) .nil) .nil))))))))))))))))))) T_ok (by kernel_rfl) (by kernel_rfl) (by kernel_rfl) (λ_ _ _ _ h=>h.elim λ_ h=>h.elim λ_ h=>h.elim λ_ h=>h.2) ?_
  simp[go_sem]
  refine⟨?_,?_⟩
  ·refine callK_own [] (clone144 x.ch.length (by omega) _) (by simp) rfl trivial ?_
   simp[go_sem]
   refine⟨⟨by omega,by omega⟩,vq_step (GSt.freeze 2 (by simp[go_sem];rfl)) (vq_step (GSt.wkBox 0 (l':=({x with ch:=x.ch++[y]}:SvG).cells) (by simp[go_sem];rfl) ?_) (vq_done (by simp[go_sem])))⟩
   simp[go_sem]
   exact snoc_rowsT λj hj=>hrow j hj
  ·refine callK_own [] (clone144 x.ch.length (by omega) _) (by simp) rfl trivial ?_
   simp[go_sem]
   refine⟨⟨by omega,by omega⟩,vq_step (GSt.freeze 3 (by simp[go_sem];rfl)) (vq_step (GSt.wkBox 0 (l':=({x with ch:=x.ch++[y]}:SvG).cells) (by simp[go_sem];rfl) ?_) (vq_done (by simp[go_sem])))⟩
   simp[go_sem]
   exact snoc_rowsT λj hj=>hrow j hj
 intro J M nx h0
 simp[go_sem]
 exact⟨[0],⟨rfl,trivial⟩,by simp,λN=>⟨by simp[go_sem],by simp[go_sem,h0]⟩⟩
theorem does_enrol (x:SvG) (o:OrG) (hx:x.OK):Does 242 enrolM x o:=by
 refine ownS_of_GC T_ok Tryz.func242 rfl (by kernel_rfl) (nb rfl) rfl rfl 1 (Nat.le_refl _) ?_
 have hn:=hx.ir
 unfold enrolM
 simp[go_sem]
 refine call_val (check51 o.x.c o.x.m) rfl rfl ?_
 have e0:o.x.ok=vI o.x.c o.x.m:=rfl
 rw[e0]
 cases hv:vI o.x.c o.x.m
 ·simp[go_sem,bad]
  exact⟨[0],⟨rfl,trivial⟩,by simp,λN=>⟨by simp[go_sem],by simp[go_sem]⟩⟩
 have hc:=add26p hx.g o.n
 obtain⟨e,he⟩:∃e,x.g.addE o.n=e:=⟨_,rfl⟩
 obtain⟨y,hy⟩:∃y,x.g.addX o.n=y:=⟨_,rfl⟩
 obtain⟨d,hd⟩:∃d,x.g.addN o.n=d:=⟨_,rfl⟩
 rw[he,hy,hd] at hc
 rw[he,hy,hd]
 simp[go_sem]
 refine GDraw_ls (S:=[(0,.ptr 0 0 17 0),(3,.ptr 1 0 34 0),(8,.ptr 2 0 3 0),(9,.i d),(10,.i e)]) (l:=[some (.box x.cells),some (.box o.cells),some (.box [y.rr,y.ll,y.cc])]) (n:=3)
  (t:=(.take 0 (.take 1 (.take 2 (.take 3 (.take 4 (.take 5 (.take 6 (.alt 7 [6,5,4,3,2,1,0] (.take 8 (.take 9 (.take 10 (.take 11 (.alt 12 [11,10,9,8,5,3,2,1,0] (.alt 13 [11,10,9,8,5,3,2,1,0] (.take 14 (.take 15 (.done [15,14,11,10]))) .nil) .nil))))) (.alt 12 [6,5,4,3,2,1,0] (.alt 7 [6,5,4,3,2,1,0] (.take 8 (.take 9 (.take 10 (.take 11 (.alt 13 [11,10,9,8,5,3,2,1,0] (.take 14 (.take 15 (.done [15,14,11,10]))) .nil))))) .nil) .nil)))))))))) T_ok (by kernel_rfl) (by kernel_rfl) (by kernel_rfl) (λ_ _ _ _ h=>h) rfl ?_ ?_
 ·simp[go_sem]
  refine⟨call_val hc rfl rfl ?_,call_val hc rfl rfl ?_⟩
  ·simp[go_sem]
  ·simp[go_sem]
 intro J
 simp[go_sem]
 by_cases he0:e=0
 rotate_left
 ·simp[go_sem,he0,bad]
  exact⟨[0],⟨rfl,trivial⟩,by simp,λN=>⟨by simp[go_sem],by simp[go_sem]⟩⟩
 subst he0
 have hrow:∀j,j<2→([.w o.x.c,.w o.x.m]:List SV)[0*2+j]?.getD (SV.r .any)=.r (o.x.f j):=by
  intro j hj
  rcases(by omega:j=0∨j=1) with rfl | rfl <;> rfl
 simp[go_sem,okA]
 refine GDraw_cutv (S:=[(0,.ptr 0 0 17 0),(9,.i d)]) (φ:=λM nx=>M 0=some (.box ({x with g:=y,ir:=x.ir++[o.x]}:SvG).cells)) ?_ ?_
 ·refine GDraw_l (t:=(.take 0 (.take 1 (.take 2 (.take 3 (.take 4 (.take 5 (.take 6 (.take 7 (.take 9 (.take 10 (.alt 8 [10,9,7,6,5,4,3,2,1,0] (.alt 11 [10,9,6,5,4,3,2,1,0] (.alt 12 [9,6,5,4,3,2,1,0] (.take 13 (.take 14 (.take 15 (.alt 16 [15,14,13,9,6,5,4,3,2,1,0] (.take 17 (.take 18 (.take 19 (.alt 20 [19,18,17,14,13,9,6,5,4,3,1] (.done [18,17]) .nil)))) .nil)))) .nil) .nil) (.alt 11 [10,9,7,6,5,4,3,2,1,0] (.alt 8 [9,7,6,5,4,3,2,1,0] (.alt 12 [9,6,5,4,3,2,1,0] (.take 13 (.take 14 (.take 15 (.alt 16 [15,14,13,9,6,5,4,3,2,1,0] (.take 17 (.take 18 (.take 19 (.alt 20 [19,18,17,14,13,9,6,5,4,3,1] (.done [18,17]) .nil)))) .nil)))) .nil) .nil) .nil))))))))))))) T_ok (by kernel_rfl) (by kernel_rfl) (by kernel_rfl) (λ_ _ _ _ h=>h.elim λ_ h=>h.elim λ_ h=>h.elim λ_ h=>h.2) ?_
  simp[go_sem]
  refine⟨?_,?_⟩
  ·refine callK_own [] (clone143 x.ir.length (by omega) _) (by simp) rfl trivial ?_
   simp[go_sem]
   refine⟨⟨by omega,by omega⟩,vq_step (GSt.freeze 3 (by simp[go_sem];rfl)) (vq_step (GSt.wkBox 0 (l':=({x with g:=y,ir:=x.ir++[o.x]}:SvG).cells) (by simp[go_sem];rfl) ?_) (vq_done (by simp[go_sem])))⟩
   simp[go_sem]
   exact snoc_rowsT λj hj=>hrow j hj
  ·refine callK_own [] (clone143 x.ir.length (by omega) _) (by simp) rfl trivial ?_
   simp[go_sem]
   refine⟨⟨by omega,by omega⟩,vq_step (GSt.freeze 4 (by simp[go_sem];rfl)) (vq_step (GSt.wkBox 0 (l':=({x with g:=y,ir:=x.ir++[o.x]}:SvG).cells) (by simp[go_sem];rfl) ?_) (vq_done (by simp[go_sem])))⟩
   simp[go_sem]
   exact snoc_rowsT λj hj=>hrow j hj
 intro J M nx h0
 simp[go_sem]
 exact⟨[0],⟨rfl,trivial⟩,by simp,λN=>⟨by simp[go_sem],by simp[go_sem,h0]⟩⟩
theorem SvG.cop_ok {x:SvG} (h:x.valid=true):copE x.ch x.now x.mage=0:=by
 have h1:=(SvG.valid_iff.1 h).1
 have h2:=(SvG.valid_iff.1 h).2.1
 simp only [SvG.setB,Bool.and_eq_true] at h1
 simp only [SvG.prtB,Bool.and_eq_true] at h2
 have e1:chOK x.ch=true:=h2.1.1.2
 have e2:tmB x.now=true:=h2.2.1.1
 have e3:tmB x.mage=true:=h1.2
 have e4:lstE x.ch x.now=0:=by unfold lstE;rw[if_pos e1,if_pos e2]
 unfold copE
 rw[if_pos e4,if_pos e3]
theorem syn_rows {ks L:List KsG} {y:KsG} {n m q q2:Nat} {new:Nat→Nat→SV} (hle:n≤ks.length) (hm:min (n+1) ks.length=m) (hL:ks.take n++y::ks.drop (n+1)=L) (hnew:∀j,j<4→new 0 j=.r (y.f j)) :
 n+(1+(ks.length - m))=L.length∧∀i j,i<n+(1+(ks.length - m))→j<4→(SV.kill q (joined n (1+(ks.length - m)) (λi j=>SV.r (rowOf KsG.f ks i j)) (λi j=>SV.kill q2 (joined 1 (ks.length - m) new (λi j=>SV.r (rowOf KsG.f ks (m+i) j)) i j)) i j)).toRV=rowOf KsG.f L i j:=by
 subst hL
 have htl:(ks.take n).length=n:=by rw[List.length_take];omega
 refine⟨by simp only [List.length_append,List.length_cons,List.length_drop,htl];omega,λi j hi hj=>?_⟩
 by_cases h1:i<n
 ·unfold joined
  rw[if_pos h1]
  unfold rowOf
  rw[List.getElem?_append_left (by omega),List.getElem?_take,if_pos h1]
  rfl
 by_cases h2:i=n
 ·subst h2
  have e:(ks.take i++y::ks.drop (i+1))[i]? =some y:=by
   rw[List.getElem?_append_right (by omega),htl,Nat.sub_self];rfl
  simp only [joined,Nat.lt_irrefl,if_false,Nat.sub_self]
  rw[if_pos (by omega),if_pos (by omega),hnew j hj]
  unfold rowOf
  rw[e]
  rfl
 ·have e:(ks.take n++y::ks.drop (n+1))[i]? =ks[i]?:=by
   rw[List.getElem?_append_right (by omega),htl,show i - n=(i - n - 1)+1 from by omega,List.getElem?_cons_succ,List.getElem?_drop]
   congr 1;omega
  have e2:m+(i - n - 1)=i:=by omega
  simp only [joined]
  rw[if_neg h1,if_pos hi,if_neg (by omega),if_pos (by omega),e2]
  unfold rowOf
  rw[e]
  rfl
theorem does_syn (x:SvG) (o:OrG) (hx:x.OK) (hv:x.valid=true):Does 251 synM x o:=by
 refine ownS_of_GC T_ok Tryz.func251 rfl (by kernel_rfl) (nb rfl) rfl rfl 1 (Nat.le_refl _) ?_
 have hn:=hx.ks
 have hc:=hx.ch
 have hw:=SvG.now_in hv
 simp only [maxT] at hw
 have hE:=SvG.cop_ok hv
 unfold synM
 simp[go_sem]
 refine GDraw_all T_ok (by kernel_rfl) (by kernel_rfl) ?_
 simp[go_sem]
 refine⟨_,dcall_val (from75 0 (min (x.ks.length:Int) 3) o.n) rfl rfl,?_⟩
 obtain⟨b,hb⟩:∃b,Ix.btw 0 (min (x.ks.length:Int) 3) o.n=b:=⟨_,rfl⟩
 rw[hb]
 cases b
 ·simp[go_sem,bad]
  exact⟨[0],⟨rfl,trivial⟩,by simp,λN=>⟨by simp[go_sem],by simp[go_sem]⟩⟩
 have hb':0≤o.n∧o.n≤min (x.ks.length:Int) 3:=by simpa [Ix.btw] using hb
 by_cases h0:x.now=1099511627776
 ·simp[go_sem,h0,bad]
  exact⟨[0],⟨rfl,trivial⟩,by simp,λN=>⟨by simp[go_sem],by simp[go_sem]⟩⟩
 obtain⟨n,hn'⟩:∃n:Nat,o.n=n:=⟨o.n.toNat,by omega⟩
 have hle:n≤x.ks.length:=by omega
 obtain⟨y,hy⟩:∃y,copG x.ch x.now x.mage x.key=y:=⟨_,rfl⟩
 have hcp:=copy341 x.ch hc x.now x.mage x.key
 rw[hE,if_pos rfl,hy] at hcp
 rw[hy,hn']
 simp[go_sem,h0,okA]
 refine GDraw_ls (S:=[(0,.ptr 0 0 17 0),(3,.ptr 1 0 34 0),(7,.ptr 2 0 4 0),(8,.i 0)]) (l:=[some (.box x.cells),some (.box o.cells),some (.box [.i y.a,.i y.m,.w y.s,.w y.z])]) (n:=3)
  (t:=(.take 0 (.take 1 (.take 2 (.take 3 (.take 4 (.take 5 (.take 6 (.take 7 (.take 8 (.take 9 (.take 10 (.take 11 (.take 12 (.take 13 (.take 14 (.take 15 (.take 16 (.take 17 (.take 18 (.take 19 (.take 20 (.take 21 (.alt 22 [21,20,19,18,17,16,15,14,13,12,11,10,9,8,7,6,5,4,3,2,1,0] (.take 23 (.take 24 (.take 25 (.alt 26 [25,24,23,20,19,18,17,16,14,13,12,11,10,8,7,6,5,3,2,1,0] (.alt 27 [25,24,23,20,19,18,17,16,14,13,12,11,10,8,7,6,5,3,2,1,0] (.take 28 (.done [28,25])) .nil) .nil)))) (.alt 26 [21,20,19,18,17,16,15,14,13,12,11,10,9,8,7,6,5,4,3,2,1,0] (.alt 22 [21,20,19,18,17,16,15,14,13,12,11,10,9,8,7,6,5,4,3,2,1,0] (.take 23 (.take 24 (.take 25 (.alt 27 [25,24,23,20,19,18,17,16,14,13,12,11,10,8,7,6,5,3,2,1,0] (.take 28 (.done [28,25])) .nil)))) .nil) .nil))))))))))))))))))))))))) T_ok (by kernel_rfl) (by kernel_rfl) (by kernel_rfl) (λ_ _ _ _ h=>h) rfl ?_ ?_
 ·simp[go_sem]
  refine⟨call_val hcp rfl rfl ?_,call_val hcp rfl rfl ?_⟩
  ·simp[go_sem]
  ·simp[go_sem]
 intro J
 simp[go_sem]
 have em:min ((n:Int)+1) (x.ks.length:Int)=((min (n+1) x.ks.length:Nat):Int):=by omega
 obtain⟨m,hm⟩:∃m,min (n+1) x.ks.length=m:=⟨_,rfl⟩
 rw[hm] at em
 have hml:m≤x.ks.length:=by omega
 obtain⟨L,hL⟩:∃L,x.ks.take n++y::x.ks.drop (n+1)=L:=⟨_,rfl⟩
 rw[hL]
 have hrow:∀j,j<4→([.i y.a,.i y.m,.w y.s,.w y.z]:List SV)[0*4+j]?.getD (SV.r .any)=.r (y.f j):=by
  intro j hj
  rcases(by omega:j=0∨j=1∨j=2∨j=3) with rfl | rfl | rfl | rfl <;> rfl
 refine GDraw_cutv (S:=[(0,.ptr 0 0 17 0)]) (φ:=λM nx=>M 0=some (.box ({x with ks:=L}:SvG).cells)) ?_ ?_
 ·refine GDraw_l (t:=(.take 0 (.take 1 (.take 2 (.take 3 (.take 4 (.take 5 (.take 6 (.take 7 (.take 8 (.take 10 (.take 12 (.take 13 (.take 14 (.take 15 (.take 16 (.take 17 (.take 18 (.take 19 (.take 20 (.take 21 (.take 22 (.take 23 (.take 24 (.take 25 (.alt 9 [25,24,23,22,21,20,19,18,17,16,15,14,13,12,10,8,7,6,5,4,3,2,1,0] (.alt 11 [25,24,23,22,21,20,19,18,17,16,15,14,13,12,10,7,6,5,4,3,2,1,0] (.alt 26 [25,24,23,22,21,20,19,18,17,16,15,14,13,12,7,6,5,4,3,2,1,0] (.take 27 (.alt 28 [27,24,23,22,21,20,18,17,16,15,14,13,12,7,6,5,4,3,2,1,0] (.alt 29 [24,23,22,21,20,18,17,16,15,14,13,12,7,6,5,4,3,2,1,0] (.take 30 (.take 31 (.take 32 (.alt 33 [32,31,30,24,23,22,21,20,18,17,16,15,14,13,12,7,6,5,4,3,2,1,0] (.done [31,30]) .nil)))) .nil) .nil)) .nil) (.alt 26 [25,24,23,22,21,20,19,18,17,16,15,14,13,12,10,7,6,5,4,3,2,1,0] (.take 27 (.alt 11 [27,24,23,22,21,20,18,17,16,15,14,13,12,10,7,6,5,4,3,2,1,0] (.alt 28 [27,24,23,22,21,20,18,17,16,15,14,13,12,7,6,5,4,3,2,1,0] (.alt 29 [24,23,22,21,20,18,17,16,15,14,13,12,7,6,5,4,3,2,1,0] (.take 30 (.take 31 (.take 32 (.alt 33 [32,31,30,24,23,22,21,20,18,17,16,15,14,13,12,7,6,5,4,3,2,1,0] (.done [31,30]) .nil)))) .nil) .nil) .nil)) .nil)) (.alt 11 [25,24,23,22,21,20,19,18,17,16,15,14,13,12,10,8,7,6,5,4,3,2,1,0] (.alt 9 [25,24,23,22,21,20,19,18,17,16,15,14,13,12,8,7,6,5,4,3,2,1,0] (.alt 26 [25,24,23,22,21,20,19,18,17,16,15,14,13,12,7,6,5,4,3,2,1,0] (.take 27 (.alt 28 [27,24,23,22,21,20,18,17,16,15,14,13,12,7,6,5,4,3,2,1,0] (.alt 29 [24,23,22,21,20,18,17,16,15,14,13,12,7,6,5,4,3,2,1,0] (.take 30 (.take 31 (.take 32 (.alt 33 [32,31,30,24,23,22,21,20,18,17,16,15,14,13,12,7,6,5,4,3,2,1,0] (.done [31,30]) .nil)))) .nil) .nil)) .nil) (.alt 26 [25,24,23,22,21,20,19,18,17,16,15,14,13,12,8,7,6,5,4,3,2,1,0] (.take 27 (.alt 9 [27,24,23,22,21,20,18,17,16,15,14,13,12,8,7,6,5,4,3,2,1,0] (.alt 28 [27,24,23,22,21,20,18,17,16,15,14,13,12,7,6,5,4,3,2,1,0] (.alt 29 [24,23,22,21,20,18,17,16,15,14,13,12,7,6,5,4,3,2,1,0] (.take 30 (.take 31 (.take 32 (.alt 33 [32,31,30,24,23,22,21,20,18,17,16,15,14,13,12,7,6,5,4,3,2,1,0] (.done [31,30]) .nil)))) .nil) .nil) .nil)) .nil)) (.alt 26 [25,24,23,22,21,20,19,18,17,16,15,14,13,12,10,8,7,6,5,4,3,2,1,0] (.take 27 (.alt 9 [27,24,23,22,21,20,18,17,16,15,14,13,12,10,8,7,6,5,4,3,2,1,0] (.alt 11 [27,24,23,22,21,20,18,17,16,15,14,13,12,10,7,6,5,4,3,2,1,0] (.alt 28 [27,24,23,22,21,20,18,17,16,15,14,13,12,7,6,5,4,3,2,1,0] (.alt 29 [24,23,22,21,20,18,17,16,15,14,13,12,7,6,5,4,3,2,1,0] (.take 30 (.take 31 (.take 32 (.alt 33 [32,31,30,24,23,22,21,20,18,17,16,15,14,13,12,7,6,5,4,3,2,1,0] (.done [31,30]) .nil)))) .nil) .nil) .nil) (.alt 11 [27,24,23,22,21,20,18,17,16,15,14,13,12,10,8,7,6,5,4,3,2,1,0] (.alt 9 [27,24,23,22,21,20,18,17,16,15,14,13,12,8,7,6,5,4,3,2,1,0] (.alt 28 [27,24,23,22,21,20,18,17,16,15,14,13,12,7,6,5,4,3,2,1,0] (.alt 29 [24,23,22,21,20,18,17,16,15,14,13,12,7,6,5,4,3,2,1,0] (.take 30 (.take 31 (.take 32 (.alt 33 [32,31,30,24,23,22,21,20,18,17,16,15,14,13,12,7,6,5,4,3,2,1,0] (.done [31,30]) .nil)))) .nil) .nil) .nil) .nil))) .nil)))))))))))))))))))))))))))) T_ok (by kernel_rfl) (by kernel_rfl) (by kernel_rfl) (λ_ _ _ _ h=>h.elim λ_ h=>h.elim λ_ h=>h.elim λ_ h=>h.2) ?_
  simp[go_sem,hn',em,hle,hml]
  refine⟨⟨by omega,by omega⟩,?_⟩
  repeat' apply And.intro
  all_goals first
   | omega
   | (refine callK_own [] (clone145 n (by omega) _) (by simp) rfl trivial ?_
      simp[go_sem,hn',em,hle,hml]
      repeat' apply And.intro
      all_goals first
       | omega
       | (refine vq_step (GSt.freeze 3 (by simp[go_sem];rfl)) (vq_step (GSt.wkBox 0 (l':=({x with ks:=L}:SvG).cells) (by simp[go_sem];rfl) ?_) (vq_done (by simp[go_sem])));simp[go_sem];exact syn_rows hle hm hL hrow)
       | (refine vq_step (GSt.freeze 4 (by simp[go_sem];rfl)) (vq_step (GSt.wkBox 0 (l':=({x with ks:=L}:SvG).cells) (by simp[go_sem];rfl) ?_) (vq_done (by simp[go_sem])));simp[go_sem];exact syn_rows hle hm hL hrow)
       | (refine vq_step (GSt.freeze 5 (by simp[go_sem];rfl)) (vq_step (GSt.wkBox 0 (l':=({x with ks:=L}:SvG).cells) (by simp[go_sem];rfl) ?_) (vq_done (by simp[go_sem])));simp[go_sem];exact syn_rows hle hm hL hrow))
 intro J M nx h0
 simp[go_sem,h0]
 exact⟨⟨by omega,by omega⟩,[0],⟨rfl,trivial⟩,by simp,λN=>⟨by simp[go_sem],by simp[go_sem]⟩⟩
theorem prv_snoc {l:List EnG} {e:EnG} {j:Nat} (hj:j≤l.length):prv (l++[e]) j=prv l j:=by
 unfold prv
 split
 ·rfl
 ·rw[List.getElem?_append_left (by omega)]
theorem lstEn_snoc (l:List EnG) (e:EnG):lstEn (l++[e])=e:=by
 unfold lstEn prv
 rw[if_neg (by simp)]
 simp
theorem xor_self3 (d s:W64):xor64 (xor64 (xor64 d s) d) s=0#64:=by
 unfold xor64
 rw[BitVec.xor_comm d s,BitVec.xor_assoc s d d,BitVec.xor_self,BitVec.xor_zero,BitVec.xor_self]
structure LgOK (l:List EnG) (now:Int):Prop where
 ok:lgOK l=true
 t:(lstEn l).t≤now
 now0:0≤now
 now1:now≤maxT
theorem wrX_snoc {l:List EnG} {now k p:Int} (h:LgOK l now) (hn:¬l.length=60) (hk:0≤k∧k≤7) (hp:0≤p∧p≤63) (d s:W64):LgOK (l++[wrX l now k p d s]) now:=by
 refine⟨?_,by rw[lstEn_snoc];exact Int.le_refl _,h.now0,h.now1⟩
 have h1:=h.ok
 unfold lgOK at h1 ⊢
 simp only [Bool.and_eq_true,decide_eq_true_eq] at h1 ⊢
 refine⟨by simp;omega,?_⟩
 unfold lgB at h1 ⊢
 rw[List.all_eq_true] at h1 ⊢
 intro j hj
 have hj:=List.mem_range.1 hj
 simp only [List.length_append,List.length_singleton] at hj
 by_cases e:j<l.length
 ·have:=h1.2 j (List.mem_range.2 e)
  unfold okAt at this ⊢
  rw[prv_snoc (by omega),List.getElem?_append_left e]
  exact this
 ·obtain rfl:j=l.length:=by omega
  unfold okAt
  rw[prv_snoc (Nat.le_refl _),List.getElem?_concat_length]
  show((lstEn l).stp (wrX l now k p d s))=true
  unfold EnG.stp EnG.fit EnG.rng wrX
  have a1:=h.now0
  have a2:=h.now1
  have a3:=h.t
  simp only [Ix.btw,EnG.lnk,xor_self3]
  simp only [maxT] at a2 ⊢
  rw[if_neg (by omega)]
  simp[a1,a2,a3]
  omega
theorem wrE_ok {l:List EnG} {now k p:Int} (h:LgOK l now) (hk:0≤k∧k≤7) (hp:0≤p∧p≤63):wrE l now k p=if l.length=60 then 9 else 0:=by
 unfold wrE
 rw[if_pos h.ok,if_pos]
 simp only [Ix.btw,Bool.and_eq_true,decide_eq_true_eq]
 exact⟨⟨⟨h.t,h.now1⟩,hk⟩,hp⟩
theorem SvG.log_ok {x:SvG} (h:x.valid=true):LgOK x.lg x.now:=by
 have hn:=SvG.now_in h
 obtain⟨_,h2,_,h4⟩:=SvG.valid_iff.1 h
 simp only [SvG.prtB,Bool.and_eq_true] at h2
 refine⟨h2.1.2,?_,hn.1,hn.2⟩
 simp only [SvG.timB,Bool.and_eq_true,Bool.not_eq_true'] at h4
 have h5:=List.any_eq_false.1 h4.2
 unfold lstEn prv
 split
 ·exact hn.1
 ·rename_i h0
  rw[List.getElem?_eq_getElem (by omega),Option.getD_some]
  have:=h5 _ (List.getElem_mem (by omega:x.lg.length - 1<x.lg.length))
  simpa using this
def recE (l:List EnG):Int:=if l.length=60 then 9 else 0
theorem record345 (x:SvG) (k a:Int) (r:RsG) (s:W64) (hl:x.lg.length<1000000) (hx:LgOK x.lg x.now) (hk:0≤k∧k≤7) (ha:0≤a∧a≤63) (hr:r.good=true) :
 OwnS Tryz.prog 1 345 [.box x.cells] [.ptr 0 0 17 0,.i k,.i a,r.sv,.w s] (.i (recE x.lg)) [.box (if x.lg.length=60 then x else x.put k a r s).cells]:=by
 refine ownS_of_GC T_ok Tryz.func345 rfl (by kernel_rfl) (nb rfl) rfl rfl 1 (Nat.le_refl _) ?_
 have hp:=pack72 r
 rw[hr] at hp
 have hw:=write422 x.lg hl x.now k a r.pack s
 rw[wrE_ok hx hk ha] at hw
 unfold recE
 simp[go_sem]
 refine call_val hp rfl rfl ?_
 simp[go_sem]
 refine GDraw_all T_ok (by kernel_rfl) (by kernel_rfl) ?_
 simp[go_sem]
 refine⟨_,dcall_val hw rfl rfl,?_⟩
 by_cases h60:x.lg.length=60
 ·simp[go_sem,h60]
  exact⟨[0],⟨rfl,trivial⟩,by simp,λN=>⟨by simp[go_sem],by simp[go_sem,h60]⟩⟩
 ·simp[go_sem,h60]
  exact⟨[0],⟨rfl,trivial⟩,by simp,λN=>⟨by simp[go_sem],by simp[go_sem,SvG.put]⟩⟩
theorem cmp_in {x:SvG} (h:x.valid=true):(1≤x.den∧x.den≤127)∧(0≤x.num∧x.num≤x.den)∧(0≤x.turns∧x.turns≤7)∧(0≤x.mage∧x.mage≤maxT):=by
 have h1:=(SvG.valid_iff.1 h).1
 simp only [SvG.setB,Ix.btw,Bool.and_eq_true,decide_eq_true_eq] at h1
 exact⟨h1.1.1.1,h1.1.1.2,h1.1.2,h1.2⟩
theorem mul_in2 {a b m n:Int} (h1:0≤a∧a≤m) (h2:0≤b∧b≤n) (hm:0≤m):0≤a*b∧a*b≤m*n:=
 ⟨Int.mul_nonneg h1.1 h2.1,Int.mul_le_mul h1.2 h2.2 h2.1 hm⟩
theorem compare343 (x:SvG) (hv:x.setB=true) (gt:Nat→Nat→RV) (h:x.at' gt) (a:Int) (ha:0≤a∧a<x.ir.length) (hn:x.ir.length<1000000) (p:IrG) (h1:(x.eye a).ok=true) (h2:p.ok=true) :
 Pure Tryz.prog 343 [kp gt,.i a,p.sv] (· =(cmpR x (x.eye a) p).sv):=by
 refine pure_of_GC T_ok Tryz.func343 rfl (by kernel_rfl) (nb rfl) rfl rfl ?_
 have g0:gt 0 0=.i x.num:=h 0 (by decide)
 have g1:gt 0 1=.i x.den:=h 1 (by decide)
 have g2:gt 0 2=.i x.turns:=h 2 (by decide)
 have g9:gt 0 9=.rs 2 x.ir.length (rowOf IrG.f x.ir):=h 9 (by decide)
 simp only [SvG.setB,Ix.btw,Bool.and_eq_true,decide_eq_true_eq] at hv
 obtain⟨⟨⟨⟨d1,d2⟩,n1,n2⟩,t1,t2⟩,_⟩:=hv
 obtain⟨n,rfl⟩:∃n:Nat,a=n:=⟨a.toNat,by omega⟩
 have hlt:n<x.ir.length:=by omega
 have hrow:=rowOf_get (f:=IrG.f) hlt
 have hey:x.eye n=x.ir[n]:=SvG.eye_get hlt
 obtain⟨c,hc⟩:∃c,x.eye n=c:=⟨_,rfl⟩
 rw[hc] at h1 hey ⊢
 rw[← hey] at hrow
 have hd:=distance42 c p x.turns
 have hsm:(dist c p x.turns.toNat).Sm:=distL_le _ _ _
 have hE:dE c p x.turns=if (dist c p x.turns.toNat).d=0 then 6 else 0:=by
  unfold dE
  rw[h1,h2]
  have:Ix.btw 0 7 x.turns=true:=by simp[Ix.btw];omega
  simp[this]
 obtain⟨q,hq⟩:∃q,dist c p x.turns.toNat=q:=⟨_,rfl⟩
 rw[hE] at hd
 unfold cmpR
 rw[hq] at hd hsm ⊢
 simp[go_sem]
 refine GDraw_ls (S:=[(0,kp gt),(1,.i n),(5,.ptr 0 0 2 0),(6,.ptr 1 0 6 0),(7,.ptr 2 0 6 0)]) (l:=[some (.box [.w p.c,.w p.m]),some (.box [.r (.v (.int .u8 0)),.i 0,.i 0,.i 0,.i 0,.i 0]),some (.box [.r (.v (.int .u8 2)),.i 1,.i 0,.i x.num,.i x.den,.i (-1)])]) (n:=3)
  (t:=(.take 0 (.take 1 (.take 2 (.take 3 (.take 4 (.take 5 (.take 6 (.take 7 (.take 8 (.take 9 (.take 10 (.take 11 (.take 12 (.take 13 (.take 14 (.alt 15 [14,13,12,11,10,9,8,7,6,5,4,3,2,1,0] (.alt 16 [14,13,12,11,10,9,8,7,6,5,4,3,2,1,0] (.done []) .nil) .nil))))))))))))))))) T_ok (by kernel_rfl) (by kernel_rfl) (by kernel_rfl) (λ_ _ _ _ h=>h) rfl ?_ ?_
 ·simp[go_sem,g0,g1]
 intro J
 simp[go_sem]
 refine GDraw_all T_ok (by kernel_rfl) (by kernel_rfl) ?_
 simp[go_sem,g2,g9,hlt,hrow]
 by_cases h0:q.d=0
 ·rw[if_pos h0] at hd
  refine⟨_,dcall_val hd rfl rfl,?_⟩
  simp[go_sem,h0]
 ·rw[if_neg h0] at hd
  refine⟨_,dcall_val hd rfl rfl,?_⟩
  have s1:=hsm.n
  have s2:=hsm.d
  have m1:=mul_in2 (a:=(q.n:Int)) (b:=x.den) (m:=64) (n:=127) ⟨by omega,by omega⟩ ⟨by omega,d2⟩ (by decide)
  have m2:=mul_in2 (a:=x.num) (b:=(q.d:Int)) (m:=127) (n:=64) ⟨by omega,by omega⟩ ⟨by omega,by omega⟩ (by decide)
  simp[go_sem,h0]
  exact⟨⟨by omega,by omega⟩,by omega,by omega⟩
theorem decide342 (x:SvG) (k:Int) (o:OrG) (r:RsG) (hl:x.lg.length<1000000) (hx:LgOK x.lg x.now) (hk:0≤k∧k≤7) (ha:0≤o.a∧o.a≤63) (hr:r.good=true) :
 OwnS Tryz.prog 1 342 [.box x.cells] [.ptr 0 0 17 0,.i k,o.sv,r.sv] (mT (decM x k o.a r o.s)) [.box (decM x k o.a r o.s).1.cells]:=by
 refine ownS_of_GC T_ok Tryz.func342 rfl (by kernel_rfl) (nb rfl) rfl rfl 1 (Nat.le_refl _) ?_
 have hs:=record345 x k o.a r o.s hl hx hk ha hr
 have hd:=(RsG.good_in hr).1
 unfold recE at hs
 unfold decM
 simp[go_sem]
 by_cases h60:x.lg.length=60
 ·rw[if_pos h60,if_pos h60] at hs
  refine callK_ownS [0] hs (Nat.le_refl _) (by simp) rfl ⟨rfl,trivial⟩ ?_
  simp[go_sem,h60,bad]
  exact⟨[0],⟨rfl,trivial⟩,by simp,λN=>⟨by simp[go_sem],by simp[go_sem,h60]⟩⟩
 ·rw[if_neg h60,if_neg h60] at hs
  refine callK_ownS [0] hs (Nat.le_refl _) (by simp) rfl ⟨rfl,trivial⟩ ?_
  have e8:IntKind.i64.wrap r.d=r.d:=wrap_inr ⟨by omega,by omega⟩
  simp[go_sem,h60,okA]
  exact⟨[0],⟨rfl,trivial⟩,by simp,λN=>⟨by simp[go_sem,e8],by simp[go_sem]⟩⟩
theorem cmpR_good {x:SvG} (hv:x.setB=true) (c p:IrG):(cmpR x c p).good=true:=by
 simp only [SvG.setB,Ix.btw,Bool.and_eq_true,decide_eq_true_eq] at hv
 obtain⟨⟨⟨⟨d1,d2⟩,n1,n2⟩,_⟩,_⟩:=hv
 have hsm:(dist c p x.turns.toNat).Sm:=distL_le _ _ _
 have s1:=hsm.n
 have s2:=hsm.d
 unfold cmpR
 generalize dist c p x.turns.toNat=q at s1 s2
 dsimp only
 split
 ·simp only [RsG.good,RsG.okd,b127,Ix.btw,Bool.and_eq_true,decide_eq_true_eq]
  omega
 ·split <;> (simp only [RsG.good,RsG.okd,b127,Ix.btw,Bool.and_eq_true,decide_eq_true_eq];omega)
end Go.Gx.Sr
namespace Go.Gx
open Go.RowKit Go.WideShapes Go.ChangeShapes Go.Proofs Go.Proofs.YtncccnmmjfapnaaGreat
abbrev csI:CS:=.sc (.int .i64)
abbrev csB:CS:=.sc .bool
abbrev slOf (l:List CS):CS:=.sl l.length λj=>l.getD j (.sc .bool)
section
variable {W:World}
abbrev ZW (W:World):Nat→Prop:=λb=>b<W.heap.size
def vb:Value→Bool
 | .bool b=>b
 | _=>false
theorem ok_bool {v:Value} (h:CSok W csB v):v=.bool (vb v):=by
 obtain⟨b,rfl⟩:=h;rfl
theorem one_vi {k:IntKind} {v:Value} (h:CSok W (.sc (.int k)) v):v.oneCell'=true:=by rw[ok_int h];rfl
theorem one_vb {v:Value} (h:CSok W csB v):v.oneCell'=true:=by rw[ok_bool h];rfl
theorem rel_vi {Z:Nat→Prop} {v:Value} (h:CSok W csI v):(RV.i (vi v)).rel Z W v:=ok_int h
theorem rel_vb {Z:Nat→Prop} {v:Value} (h:CSok W csB v):(RV.v (.bool (vb v))).rel Z W v:=ok_bool h
theorem sl_one {k:Nat} {fs:Nat→CS} {v:Value} (h:CSok W (.sl k fs) v):v.oneCell'=true:=by
 obtain⟨A,n,c,rfl,_⟩:=h;rfl
theorem rec_rows {v:Value} (h:CSok W (slOf [csI,csB]) v):∃(n:Nat) (r:Nat→RcG),∀σ,(SV.r (.rs 2 n λi j=>(r i).c j)).rel σ (ZW W) W v:=by
 obtain⟨n,cv,_,h1,h2⟩:=rows_of h
 refine⟨n,λi=>⟨vi (cv i 0),vb (cv i 1)⟩,λσ=>h2 _ (λi j hi hj=>?_) σ⟩
 have hc:=h1 i j hi hj
 match j,hj,hc with
 | 0,_,hc=>exact⟨one_vi hc,rel_vi hc⟩
 | 1,_,hc=>exact⟨one_vb hc,rel_vb hc⟩
 | j+2,hj,_=>exact absurd hj (by simp)
theorem link_rows {v:Value} (h:CSok W (slOf [csI,csI,csB]) v):∃(n:Nat) (r:Nat→LkG),∀σ,(SV.r (.rs 3 n λi j=>(r i).c j)).rel σ (ZW W) W v:=by
 obtain⟨n,cv,_,h1,h2⟩:=rows_of h
 refine⟨n,λi=>⟨vi (cv i 0),vi (cv i 1),vb (cv i 2)⟩,λσ=>h2 _ (λi j hi hj=>?_) σ⟩
 have hc:=h1 i j hi hj
 match j,hj,hc with
 | 0,_,hc=>exact⟨one_vi hc,rel_vi hc⟩
 | 1,_,hc=>exact⟨one_vi hc,rel_vi hc⟩
 | 2,_,hc=>exact⟨one_vb hc,rel_vb hc⟩
 | j+3,hj,_=>exact absurd hj (by simp)
theorem vote_rows {v:Value} (h:CSok W (slOf [csI,csB]) v):∃(n:Nat) (r:Nat→VtG),(RV.rs 2 n λi j=>(r i).c j).rel (ZW W) W v:=by
 obtain⟨n,cv,_,h1,h2⟩:=rows_of h
 refine⟨n,λi=>⟨vi (cv i 0),vb (cv i 1)⟩,h2 _ (λi j hi hj=>?_) (λ_=>none)⟩
 have hc:=h1 i j hi hj
 match j,hj,hc with
 | 0,_,hc=>exact⟨one_vi hc,rel_vi hc⟩
 | 1,_,hc=>exact⟨one_vb hc,rel_vb hc⟩
 | j+2,hj,_=>exact absurd hj (by simp)
theorem case_rows {v:Value} (h:CSok W (slOf [csI,csI,slOf [csI,csB]]) v):∃(n:Nat) (r:Nat→CsG),∀σ,(SV.r (.rs 3 n λi j=>(r i).c j)).rel σ (ZW W) W v:=by
 obtain⟨n,cv,_,h1,h2⟩:=rows_of h
 have hv:∀i,∃p:Nat × (Nat→VtG),i<n→(RV.rs 2 p.1 λi j=>(p.2 i).c j).rel (ZW W) W (cv i 2):=λi=>by
  by_cases hi:i<n
  ·obtain⟨m,r,hr⟩:=vote_rows (h1 i 2 hi (by decide))
   exact⟨(m,r),λ_=>hr⟩
  ·exact⟨(0,λ_=>⟨0,false⟩),λh=>absurd h hi⟩
 obtain⟨f,hf⟩:=Classical.axiomOfChoice hv
 refine⟨n,λi=>⟨vi (cv i 0),vi (cv i 1),(f i).1,(f i).2⟩,λσ=>h2 _ (λi j hi hj=>?_) σ⟩
 have hc:=h1 i j hi hj
 match j,hj,hc with
 | 0,_,hc=>exact⟨one_vi hc,rel_vi hc⟩
 | 1,_,hc=>exact⟨one_vi hc,rel_vi hc⟩
 | 2,_,hc=>exact⟨sl_one hc,hf i hi⟩
 | j+3,hj,_=>exact absurd hj (by simp)
section
variable {H:Type} {enc:TypeId × Value→H} {base:Nat} {spare:Nat→Bool} {held:Bool}
end
end
end Go.Gx
namespace Go.Gx
open Go.RowKit Go.Proofs Go.Proofs.YtncccnmmjfapnaaGreat
@[go_sem]theorem zeroV_sl (b:Nat) (e:TypeId):TI.zeroV ⟨1,b,[.sl],.slice e⟩=.slice none 0 0:=rfl
@[go_sem]theorem zeroV_int (b:Nat) (k:IntKind):TI.zeroV ⟨1,b,[.i k],.int k⟩=.int k 0:=rfl
theorem EG.con_th {g:EG} (hl:g.lth) {a x:Int} (h:g.Con g.nl a x) (ha:g.th a=true):g.th x=true:=by
 induction h with
 | refl=>exact ha
 | step _ hz _=>
   obtain⟨j,h1,h2,h3⟩:=hz
   obtain⟨t1,t2⟩:=hl j h1
   rcases h3 with ⟨rfl,rfl⟩ | ⟨rfl,rfl⟩
   ·exact t2
   ·exact t1
theorem EG.pm_th {g:EG} (hl:g.lth) {a:Int} (ha:g.th a=true):g.th (g.pm g.nl a)=true:=EG.con_th hl (EG.con_pm g g.nl a) ha
theorem befB_iff' {a b c d:Int}:befB a b c d=true↔a<c∨a=c∧b<d:=by simp[befB]
def srtd (n:Nat) (x y:Nat→Int):Prop:=∀a b,a<b→b<n→befB (x a) (y a) (x b) (y b)=true
def ins {α:Type} (k:Nat) (v:α) (x:Nat→α):Nat→α:=λj=>if j<k then x j else if j=k then v else x (j - 1)
theorem srtd_ins {n k:Nat} {x y:Nat→Int} {p q:Int} (h:srtd n x y) (hk:k≤n) (h1:∀j,j<k→befB (x j) (y j) p q=true) (h2:∀j,k≤j→j<n→befB p q (x j) (y j)=true) :
 srtd (n+1) (ins k p x) (ins k q y):=by
 intro a b hab hb
 unfold ins
 by_cases b1:b<k
 ·rw[if_pos (by omega),if_pos (by omega),if_pos b1,if_pos b1]
  exact h a b hab (by omega)
 by_cases b2:b=k
 ·subst b2
  simp only [if_neg b1,if_true,if_pos hab]
  exact h1 a hab
 ·simp only [if_neg b1,if_neg b2]
  by_cases a1:a<k
  ·simp only [if_pos a1]
   exact befB_trans (h1 a a1) (h2 (b - 1) (by omega) (by omega))
  by_cases a2:a=k
  ·subst a2
   simp only [if_neg a1,if_true]
   exact h2 (b - 1) (by omega) (by omega)
  ·simp only [if_neg a1,if_neg a2]
   exact h (a - 1) (b - 1) (by omega) (by omega)
def del {α:Type} (k:Nat) (x:Nat→α):Nat→α:=λj=>if j<k then x j else x (j+1)
theorem srtd_del {n k:Nat} {x y:Nat→Int} (h:srtd n x y):srtd (n - 1) (del k x) (del k y):=by
 intro a b hab hb
 unfold del
 by_cases b1:b<k
 ·simp only [if_pos b1,if_pos (show a<k by omega)]
  exact h a b hab (by omega)
 ·simp only [if_neg b1]
  by_cases a1:a<k
  ·simp only [if_pos a1];exact h a (b+1) (by omega) (by omega)
  ·simp only [if_neg a1];exact h (a+1) (b+1) (by omega) (by omega)
theorem kept_lt' {p:Nat→Bool} {n i j:Nat} (hij:i<j) (hj:j<(kept p n).length):(kept p n)[i]?.getD 0<(kept p n)[j]?.getD 0:=by
 have h:(kept p n).Pairwise (·<·):=List.Pairwise.filter _ List.pairwise_lt_range
 rw[List.getElem?_eq_getElem hj,List.getElem?_eq_getElem (by omega:i<(kept p n).length)]
 exact List.pairwise_iff_getElem.1 h i j (by omega) hj hij
theorem kept_at {p:Nat→Bool} {n i:Nat} (hi:i<(kept p n).length):(kept p n)[i]?.getD 0<n∧p ((kept p n)[i]?.getD 0)=false:=by
 rw[List.getElem?_eq_getElem hi,Option.getD_some]
 have:=List.mem_filter.1 (List.getElem_mem hi)
 exact⟨List.mem_range.1 this.1,by simpa using this.2⟩
theorem srtd_kept {n:Nat} {x y:Nat→Int} {p:Nat→Bool} (h:srtd n x y):srtd (kept p n).length (λi=>x ((kept p n)[i]?.getD 0)) (λi=>y ((kept p n)[i]?.getD 0)):=
 λa b hab hb=>h _ _ (kept_lt' hab hb) (kept_at hb).1
theorem bnd_lo {c:Nat→Int} {n j:Nat} (h:j<bnd c n):c j<0:=by
 unfold bnd at h
 cases hf:(List.range n).find? λi=>decide (0≤c i) with
 | none=>
   rw[hf] at h
   have:=List.find?_eq_none.1 hf j (List.mem_range.2 h)
   simp at this
   omega
 | some i=>
   rw[hf] at h
   have:=(List.find?_range_eq_some.1 hf).2.2 j h
   simp at this
   omega
theorem bnd_hi {c:Nat→Int} {n:Nat} (h:bnd c n<n):0≤c (bnd c n):=by
 unfold bnd at h ⊢
 cases hf:(List.range n).find? λi=>decide (0≤c i) with
 | none=>rw[hf] at h;simp at h
 | some i=>
   have:=(List.find?_range_eq_some.1 hf).1
   simpa using this
theorem bnd_new {n:Nat} {x y:Nat→Int} {p q:Int} (h:srtd n x y) (hf:fnd (λi=>ordI (x i) (y i) p q) n=false) :
 (∀j,j<bnd (λi=>ordI (x i) (y i) p q) n→befB (x j) (y j) p q=true)∧∀j,bnd (λi=>ordI (x i) (y i) p q) n≤j→j<n→befB p q (x j) (y j)=true:=by
 refine⟨λj hj=>ordI_neg.1 (bnd_lo hj),λj hj hn=>?_⟩
 have hno:∀j,j<n→¬(x j=p∧y j=q):=λj hj he=>by
  have:=(fnd_iff (n:=n) (x:=x) (y:=y) h).2 ⟨j,hj,he.1,he.2⟩
  rw[hf] at this;cases this
 have h0:=bnd_hi (c:=λi=>ordI (x i) (y i) p q) (n:=n) (by omega)
 have key:∀i,i<n→0≤ordI (x i) (y i) p q→befB p q (x i) (y i)=true:=λi hi h0=>by
  have e:=hno i hi
  rw[befB_iff']
  have hneg:¬(x i<p∨x i=p∧y i<q):=λhc=>by
   have:=ordI_neg.2 (befB_iff'.2 hc)
   omega
  omega
 rcases Nat.lt_or_ge (bnd (λi=>ordI (x i) (y i) p q) n) j with hl | hl
 ·exact befB_trans (key _ (by omega) h0) (h _ _ hl hn)
 ·have:j=bnd (λi=>ordI (x i) (y i) p q) n:=by omega
  rw[this];exact key _ (by omega) h0
structure EG.Val (g:EG):Prop where
 nr:g.nr≤24
 nc:g.nc≤40
 qu:∀i,i<g.nr→0≤(g.r i).q∧(g.r i).q≤100
 ls:srtd g.nl (λi=>(g.l i).a) (λi=>(g.l i).b)
 lp:∀i,i<g.nl→g.th (g.l i).a=true∧g.th (g.l i).b=true∧(g.l i).a<(g.l i).b
 cs:srtd g.nc (λi=>(g.c i).a) (λi=>(g.c i).b)
 cp:∀i,i<g.nc→g.th (g.c i).a=true∧g.th (g.c i).b=true∧(g.c i).a<(g.c i).b
 cl:∀i j,i<g.nc→j<g.nl→¬((g.l j).a=(g.c i).a∧(g.l j).b=(g.c i).b)
 cv:∀i,i<g.nc→votB (g.c i).nv (g.c i).v=true
 ld:∀i,i<g.nl→(g.l i).s=false→¬g.Con g.nl (g.l i).a (g.l i).b
theorem EG.val_iff {g:EG}:g.valid=true↔g.Val:=by
 rw[← EG.pval_eq]
 constructor
 ·intro h
  simp only [EG.pval,Bool.and_eq_true,decide_eq_true_eq] at h
  obtain⟨⟨⟨⟨⟨⟨h1,h2⟩,h3⟩,h4⟩,h5⟩,h6⟩,h7⟩:=h
  have hl:=EG.lks_sorted h4
  refine⟨h1,h2,λi hi=>?_,hl,λi hi=>?_,EG.cos_sorted h5,λi hi=>?_,λi j hi hj he=>?_,λi hi=>?_,λi hi hs hc=>?_⟩
  ·have:=all_get h3 hi
   simpa [btw] using this
  ·have:=all_get h4 hi
   simp only [EG.lk1,EG.prB,Bool.and_eq_true,decide_eq_true_eq] at this
   exact⟨this.1.1.1,this.1.1.2,this.1.2⟩
  ·have:=all_get h5 hi
   simp only [EG.co1,EG.prB,Bool.and_eq_true,decide_eq_true_eq] at this
   exact⟨this.1.1.1,this.1.1.2,this.1.2⟩
  ·have:=all_get h6 hi
   simp only [EG.cs2,Bool.and_eq_true,Bool.not_eq_true'] at this
   have h9:g.lin (g.c i).a (g.c i).b=true:=(fnd_iff (x:=λi=>(g.l i).a) (y:=λi=>(g.l i).b) hl).2 ⟨j,hj,he.1,he.2⟩
   rw[this.1] at h9;cases h9
  ·have:=all_get h6 hi
   simp only [EG.cs2,Bool.and_eq_true] at this
   exact this.2
  ·have:=all_get h7 hi
   simp only [EG.lk2,hs,Bool.false_or,Bool.not_eq_true',decide_eq_false_iff_not] at this
   exact this (EG.con_iff.1 hc)
 ·intro h
  simp only [EG.pval,Bool.and_eq_true,decide_eq_true_eq]
  refine⟨⟨⟨⟨⟨⟨h.nr,h.nc⟩,all_yes λi hi=>?_⟩,all_yes λi hi=>?_⟩,all_yes λi hi=>?_⟩,all_yes λi hi=>?_⟩,all_yes λi hi=>?_⟩
  ·have:=h.qu i hi
   simpa [btw] using this
  ·have:=h.lp i hi
   simp only [EG.lk1,EG.prB,Bool.and_eq_true,Bool.or_eq_true,decide_eq_true_eq]
   refine⟨⟨⟨this.1,this.2.1⟩,this.2.2⟩,?_⟩
   by_cases e:i=0
   ·exact .inl e
   ·exact .inr (h.ls (i - 1) i (by omega) hi)
  ·have:=h.cp i hi
   simp only [EG.co1,EG.prB,Bool.and_eq_true,Bool.or_eq_true,decide_eq_true_eq]
   refine⟨⟨⟨this.1,this.2.1⟩,this.2.2⟩,?_⟩
   by_cases e:i=0
   ·exact .inl e
   ·exact .inr (h.cs (i - 1) i (by omega) hi)
  ·simp only [EG.cs2,Bool.and_eq_true,Bool.not_eq_true']
   refine⟨?_,h.cv i hi⟩
   cases hf:g.lin (g.c i).a (g.c i).b with
   | false=>rfl
   | true=>
     obtain⟨j,hj,e1,e2⟩:=(fnd_iff (x:=λi=>(g.l i).a) (y:=λi=>(g.l i).b) h.ls).1 hf
     exact absurd ⟨e1,e2⟩ (h.cl i j hi hj)
  ·cases hs:(g.l i).s with
   | true=>simp[EG.lk2,hs]
   | false=>
     simp only [EG.lk2,hs,Bool.false_or,Bool.not_eq_true',decide_eq_false_iff_not]
     exact λe=>h.ld i hi hs (EG.con_iff.2 e)
theorem EG.Con.map {g h:EG} {m n:Nat} (ha:∀x y,g.adj m x y→h.adj n x y) {x y:Int} (hc:g.Con m x y):h.Con n x y:=by
 induction hc with
 | refl=>exact .refl _
 | step _ a ih=>exact .step ih (ha _ _ a)
end Go.Gx
namespace Go.Gx.Sr
open Go.RowKit Go.Proofs Go.Proofs.YtncccnmmjfapnaaGreat Go.Gx.Ix
theorem SvG.reg_val {x:SvG} (h:x.valid=true):x.g.valid=true∧x.r.valid=true∧chOK x.ch=true∧lgOK x.lg=true∧x.ks.length≤4∧x.ir.length=x.g.nr:=by
 have h2:=(SvG.valid_iff.1 h).2.1
 simp only [SvG.prtB,Bool.and_eq_true,decide_eq_true_eq] at h2
 exact⟨h2.1.1.1.1,h2.1.1.1.2,h2.1.1.2,h2.1.2,h2.2.1.2,h2.2.2⟩
theorem SvG.th_in {x:SvG} (h:x.valid=true) {a:Int} (ha:x.g.th a=true):0≤a∧a<x.ir.length∧a≤23:=by
 obtain⟨hg,_,_,_,_,hl⟩:=SvG.reg_val h
 have h1:=EG.th_iff.1 ha
 have h2:=(EG.val_iff.1 hg).nr
 omega
theorem SvG.eye_ok {x:SvG} (h:x.valid=true) {a:Int} (h0:0≤a) (h1:a<x.ir.length):(x.eye a).ok=true:=by
 have h3:=(SvG.valid_iff.1 h).2.2.1
 simp only [SvG.peoB,Bool.and_eq_true] at h3
 obtain⟨n,rfl⟩:∃n:Nat,a=n:=⟨a.toNat,by omega⟩
 have:=List.all_eq_true.1 h3.1.1 n (List.mem_range.2 (by omega))
 simp only [Bool.and_eq_true] at this
 exact this.1
theorem SvG.best_ok {x:SvG} (h:x.valid=true) {a:Int} (ha:x.g.th a=true):x.g.pE a=0∧0≤x.g.bp a x.g.nr∧x.g.bp a x.g.nr<x.ir.length:=by
 obtain⟨hg,_,_,_,_,hl⟩:=SvG.reg_val h
 have h1:=EG.th_iff.1 ha
 have h2:=EG.bp_bd (EG.valid_lth hg) h1.1 h1.2.1 x.g.nr (Nat.le_refl _)
 exact⟨by unfold EG.pE;rw[if_pos hg,if_pos ha],h2.1,by omega⟩
theorem does_ver (x:SvG) (o:OrG) (hx:x.OK) (hv:x.valid=true):Does 252 verM x o:=by
 refine ownS_of_GC T_ok Tryz.func252 rfl (by kernel_rfl) (nb rfl) rfl rfl 1 (Nat.le_refl _) ?_
 unfold verM
 simp[go_sem]
 refine call_lent (v:=.b (x.g.th o.a)) (by simp[go_sem];exact there162 x hx.g.ok _ (x.at_view _) o.a) rfl ?_
 by_cases ht:x.g.th o.a=true
 rotate_left
 ·simp[go_sem,ht,bad]
  exact⟨[0],⟨rfl,trivial⟩,by simp,λN=>⟨by simp[go_sem],by simp[go_sem]⟩⟩
 have hin:=SvG.th_in hv ht
 simp[go_sem,ht]
 refine call_val (check51 o.x.c o.x.m) rfl rfl ?_
 have e0:o.x.ok=vI o.x.c o.x.m:=rfl
 rw[e0]
 cases hvi:vI o.x.c o.x.m
 ·simp[go_sem,bad]
  exact⟨[0],⟨rfl,trivial⟩,by simp,λN=>⟨by simp[go_sem],by simp[go_sem]⟩⟩
 obtain⟨b1,b2,b3⟩:=SvG.best_ok hv ht
 have hb:=best15 x.g hx.g.ok o.a
 rw[b1,if_pos rfl] at hb
 obtain⟨b,hbb⟩:∃b,x.g.bp o.a x.g.nr=b:=⟨_,rfl⟩
 rw[hbb] at hb b2 b3 ⊢
 have hset:=(SvG.valid_iff.1 hv).1
 have hcm:=λgt h=>compare343 x hset gt h b ⟨b2,b3⟩ hx.ir o.x (SvG.eye_ok hv b2 b3) hvi
 have hgood:=cmpR_good hset (x.eye b) o.x
 obtain⟨r,hr⟩:∃r,cmpR x (x.eye b) o.x=r:=⟨_,rfl⟩
 rw[hr] at hcm hgood ⊢
 simp[go_sem]
 refine GDraw_all T_ok (by kernel_rfl) (by kernel_rfl) ?_
 simp[go_sem]
 refine⟨_,dcall_val hb rfl rfl,?_⟩
 simp[go_sem]
 refine GDraw_l (t:=(.take 0 (.take 1 (.take 2 (.take 3 (.take 4 (.take 5 (.alt 6 [5,4,3,2,1,0] (.alt 7 [4,1,0] (.take 8 (.take 9 (.take 10 (.take 11 (.take 12 (.take 13 (.done [13,12,11,10,9,8,4]))))))) .nil) .nil)))))))) T_ok (by kernel_rfl) (by kernel_rfl) (by kernel_rfl) (λ_ _ _ _ h=>h) ?_
 simp[go_sem]
 refine call_lent (v:=r.sv) (by simp[go_sem];exact hcm _ (x.at_view _)) rfl ?_
 simp[go_sem]
 refine callK_ownS [0] (decide342 x 1 o r hx.lg (SvG.log_ok hv) (by decide) (by omega) hgood) (Nat.le_refl _) (by simp) rfl ⟨rfl,trivial⟩ ?_
 simp[go_sem]
 exact⟨[0],⟨rfl,trivial⟩,by simp,λN=>⟨by simp[go_sem],by simp[go_sem]⟩⟩
theorem SvG.dec_ok {x:SvG} (h:x.valid=true) {n:Nat} (hn:n<x.ks.length) {a:Int} (ha:0≤a∧a≤23):decE x.ks[n] a x.now x.key=0:=by
 have h4:=(SvG.valid_iff.1 h).2.2.2
 have hw:=SvG.now_in h
 simp only [SvG.timB,Bool.and_eq_true] at h4
 have hk:=List.all_eq_true.1 h4.1.1 _ (List.getElem_mem hn)
 simp only [SvG.kOK,Bool.and_eq_true,decide_eq_true_eq] at hk
 have h5:=hk.1.1.1
 simp only [KsG.ok,Bool.and_eq_true] at h5
 unfold decE
 rw[if_pos hk.1.1.1]
 unfold askE
 have e1:psB a=true:=psB_iff.2 (by omega)
 have e2:tmB x.now=true:=tmB_iff.2 hw
 rw[e1,e2,h5.1.1]
 have:=hk.1.2
 simp
 omega
theorem does_gat (x:SvG) (o:OrG) (hx:x.OK) (hv:x.valid=true):Does 254 gatM x o:=by
 refine ownS_of_GC T_ok Tryz.func254 rfl (by kernel_rfl) (nb rfl) rfl rfl 1 (Nat.le_refl _) ?_
 unfold gatM
 have hks:=hx.ks
 simp[go_sem]
 refine GDraw_all T_ok (by kernel_rfl) (by kernel_rfl) ?_
 simp[go_sem]
 refine⟨by omega,?_⟩
 refine⟨_,dcall_val (from75 0 ((x.ks.length:Int) - 1) o.n) rfl rfl,?_⟩
 obtain⟨b,hb⟩:∃b,Ix.btw 0 ((x.ks.length:Int) - 1) o.n=b:=⟨_,rfl⟩
 rw[hb]
 cases b
 ·simp[go_sem,bad]
  exact⟨[0],⟨rfl,trivial⟩,by simp,λN=>⟨by simp[go_sem],by simp[go_sem]⟩⟩
 have hb':0≤o.n∧o.n≤(x.ks.length:Int) - 1:=by simpa [Ix.btw] using hb
 simp[go_sem]
 refine call_lent (v:=.b (x.g.th o.a)) (by simp[go_sem];exact there162 x hx.g.ok _ (x.at_view _) o.a) rfl ?_
 by_cases ht:x.g.th o.a=true
 rotate_left
 ·simp[go_sem,ht,bad]
  exact⟨[0],⟨rfl,trivial⟩,by simp,λN=>⟨by simp[go_sem],by simp[go_sem]⟩⟩
 have hin:=SvG.th_in hv ht
 simp[go_sem,ht]
 refine call_val (check51 o.x.c o.x.m) rfl rfl ?_
 have e0:o.x.ok=vI o.x.c o.x.m:=rfl
 rw[e0]
 cases hvi:vI o.x.c o.x.m
 ·simp[go_sem,bad]
  exact⟨[0],⟨rfl,trivial⟩,by simp,λN=>⟨by simp[go_sem],by simp[go_sem]⟩⟩
 obtain⟨n,hn⟩:∃n:Nat,o.n=n:=⟨o.n.toNat,by omega⟩
 have hlt:n<x.ks.length:=by omega
 have hrow:=rowOf_get (f:=KsG.f) hlt
 have hd0:=SvG.dec_ok hv hlt (a:=o.a) (by omega)
 have hdc:=decide60 x.ks[n] o.a x.now x.key
 rw[hd0,if_pos rfl] at hdc
 have hgt:(x.ks[o.n.toNat]?).getD KsG.zero=x.ks[n]:=by rw[hn,show((n:Int).toNat)=n from rfl,List.getElem?_eq_getElem hlt];rfl
 rw[hgt]
 obtain⟨q,hq⟩:∃q,x.ks[n]=q:=⟨_,rfl⟩
 rw[hq] at hdc hrow ⊢
 obtain⟨d,hd⟩:∃d,decD q o.a x.now=d:=⟨_,rfl⟩
 have hd3:d=3∨d=1∨d=2:=by rw[← hd];unfold decD saidB;split;exact .inl rfl;split;exact .inr (.inl rfl);exact .inr (.inr rfl)
 rw[hd] at hdc ⊢
 have hset:=(SvG.valid_iff.1 hv).1
 have hcm:=λgt h=>compare343 x hset gt h o.a ⟨hin.1,hin.2.1⟩ hx.ir o.x (SvG.eye_ok hv hin.1 hin.2.1) hvi
 have hgood:=cmpR_good hset (x.eye o.a) o.x
 obtain⟨r,hr⟩:∃r,cmpR x (x.eye o.a) o.x=r:=⟨_,rfl⟩
 rw[hr] at hcm hgood ⊢
 simp[go_sem]
 refine GDraw_all T_ok (by kernel_rfl) (by kernel_rfl) ?_
 simp[go_sem,hn,hlt,hrow]
 refine⟨_,dcall_val hdc rfl rfl,?_⟩
 simp[go_sem]
 refine call_lent (v:=r.sv) (by simp[go_sem];exact hcm _ (x.at_view _)) rfl ?_
 have hl:=SvG.log_ok hv
 have hg2:=RsG.good_in hgood
 rcases hd3 with rfl | rfl | rfl
 ·have g5:({r with d:=3,n:=0,m:=0}:RsG).good=true:=by
   simp only [RsG.good,RsG.okd,b127,Ix.btw,Bool.and_eq_true,decide_eq_true_eq];omega
  simp[go_sem]
  refine callK_ownS [0] (decide342 x 5 o _ hx.lg hl (by decide) (by omega) g5) (Nat.le_refl _) (by simp) rfl ⟨rfl,trivial⟩ ?_
  simp[go_sem]
  exact⟨[0],⟨rfl,trivial⟩,by simp,λN=>⟨by simp[go_sem],by simp[go_sem]⟩⟩
 ·simp[go_sem]
  refine callK_ownS [0] (decide342 x 3 o r hx.lg hl (by decide) (by omega) hgood) (Nat.le_refl _) (by simp) rfl ⟨rfl,trivial⟩ ?_
  simp[go_sem]
  exact⟨[0],⟨rfl,trivial⟩,by simp,λN=>⟨by simp[go_sem],by simp[go_sem]⟩⟩
 ·have g5:({r with d:=2,n:=1,m:=0}:RsG).good=true:=by
   simp only [RsG.good,RsG.okd,b127,Ix.btw,Bool.and_eq_true,decide_eq_true_eq];omega
  simp[go_sem]
  refine callK_ownS [0] (decide342 x 4 o _ hx.lg hl (by decide) (by omega) g5) (Nat.le_refl _) (by simp) rfl ⟨rfl,trivial⟩ ?_
  simp[go_sem]
  exact⟨[0],⟨rfl,trivial⟩,by simp,λN=>⟨by simp[go_sem],by simp[go_sem]⟩⟩
end Go.Gx.Sr
namespace Go.Gx.Rg
open Go.RowKit Go.Proofs Go.Proofs.YtncccnmmjfapnaaGreat
theorem delf331 (n:Nat) (hn:n≤1000000) (get:Nat→Nat→RV) (g:FuncId) (c:RV) (p:Nat→Bool) (ho:∀i j,i<n→j<3→(SV.r (get i j)).one=true) (hp:∀i,i<n→Pure Tryz.prog g [.agg [.r (get i 0),.r (get i 1),.r (get i 2)],.r c] (· =.b (p i))) :
 Own Tryz.prog 331 [.vec 114 3 n λi j=>.r (get i j)] [.sl 0 3 0 n none,.fn (.func g) [] [.r c]] (.sl 0 3 0 (kept p n).length none) [.vec 114 3 (kept p n).length λi j=>.r ((rowsL get (kept p n)) i j)]:=by
 refine own_of_GC T_ok Tryz.func331 rfl (by kernel_rfl) (nb rfl) rfl rfl ?_
 simp[go_sem]
 refine call_lent (v:=.i (idx p n)) ?_ rfl ?_
 ·simp[go_sem]
  exact Go.Gx.Sr.idx274 n (by omega) get g [.r c] p rfl hp
 rcases idx_cases p n with ⟨h1,h2⟩ | ⟨i0,h1,h2,h3,h4⟩
 ·rw[h1]
  simp[go_sem]
  refine⟨[0],by simp,λN=>⟨?_,?_⟩⟩
  ·simp[go_sem,kept_all h2]
  ·simp[go_sem,kept_all h2]
   intro i j hi hj
   exact(rowsL_get (by simp[hi]) j).symm
 rw[h4]
 simp[go_sem]
 have hk0:kept p i0=List.range i0:=kept_all h3
 have hk1:kept p (i0+1)=List.range i0:=by rw[kept_succ,hk0,h2];simp
 refine⟨by omega,?_⟩
 refine GLoop_s T_ok (α:=Nat) (λj=>[(0,.sl 0 3 0 n none),(1,.fn (.func g) [] [.r c]),(5,.i (kept p j).length),(6,.i j)]) (λj=>[some (.vec 114 3 n λi' j'=>.r ((keptR get p j) i' j'))]) 1 (λj=>j≤n∧(kept p j).length<j) (λj=>n - j) (i0+1) (λ_=>rfl) ⟨by omega,by rw[hk1];simp⟩ (by simp[go_sem,hk1]) (by
  simp[go_sem]
  intro i j hi hj
  unfold keptR
  rw[hk1]
  split
  ·rename_i h
   exact(rowsL_get (by simp at h;simp[h]) j).symm
  ·rfl) ?_
 intro j J hi
 have hkn:=kept_le p j
 have hq:∀c,keptR get p j j c=get j c:=λc=>keptR_ge hkn
 simp[go_sem,hq]
 split
 ·rename_i hlt
  refine⟨by omega,⟨by simpa [SV.one] using ho j 0 hlt (by decide),by simpa [SV.one] using ho j 1 hlt (by decide),by simpa [SV.one] using ho j 2 hlt (by decide)⟩,?_⟩
  refine call_val (hp j hlt) rfl rfl ?_
  simp[go_sem]
  cases hpj:p j
  ·simp[go_sem]
   have hs:kept p (j+1)=kept p j++[j]:=by rw[kept_succ,hpj];simp
   refine⟨by omega,⟨⟨by simpa [SV.one] using ho j 0 hlt (by decide),by simpa [SV.one] using ho j 1 hlt (by decide),by simpa [SV.one] using ho j 2 hlt (by decide)⟩,by omega⟩,by omega,by omega,j+1,⟨by omega,by rw[hs];simp;omega⟩,by omega,⟨by rw[hs];simp,by omega⟩,λi c hi hc=>?_⟩
   rw[keptR_put hpj]
   by_cases hil:i=(kept p j).length
   ·rw[if_pos ⟨hil,hc⟩,if_pos hil]
    have hcc:c=0∨c=1∨c=2:=by omega
    rcases hcc with rfl | rfl | rfl <;> simp[toRV_r,SV.trim]
   ·rw[if_neg (λh=>hil h.1),if_neg hil]
    try rfl
  ·simp[go_sem]
   have hs:kept p (j+1)=kept p j:=by rw[kept_succ,hpj];simp
   refine⟨by omega,j+1,⟨by omega,by rw[hs];omega⟩,by omega,⟨by rw[hs],by omega⟩,λi c hi hc=>?_⟩
   unfold keptR
   rw[hs]
 ·rename_i hlt
  have hjn:j=n:=by omega
  subst hjn
  refine⟨by omega,by omega,by omega,[0],by simp,λN=>⟨?_,?_⟩⟩
  ·simp[go_sem]
  ·simp[go_sem]
   refine⟨by omega,λi c hi hc=>?_⟩
   rw[if_neg (by omega)]
   exact congrArg SV.r (if_pos hi)
end Go.Gx.Rg
namespace Go.Gx.Sr
open Go.RowKit Go.Proofs Go.Proofs.YtncccnmmjfapnaaGreat Go.Gx.Ix
def isC (l:List ChG) (q:ChG→Bool) (i:Nat):Bool:=match l[i]? with | some x=>q x | none=>false
theorem filt_map (l:List ChG) (q:ChG→Bool):l.filter (λc=>!q c)=(Rg.kept (isC l q) l.length).map λi=>(l[i]?).getD ⟨0,0,false⟩:=by
 have e:l=(List.range l.length).map λi=>(l[i]?).getD ⟨0,0,false⟩:=by
  refine List.ext_getElem (by simp) λi h1 h2=>?_
  simp[List.getElem?_eq_getElem h1]
 conv=>lhs;rw[e]
 rw[List.filter_map]
 congr 1
 unfold Rg.kept
 refine List.filter_congr λi hi=>?_
 have hi:=List.mem_range.1 hi
 simp[isC,List.getElem?_eq_getElem hi]
theorem filt_rows (l:List ChG) (q:ChG→Bool) (i j:Nat) (hi:i<(Rg.kept (isC l q) l.length).length):rowsL (rowOf ChG.f l) (Rg.kept (isC l q) l.length) i j=rowOf ChG.f (l.filter λc=>!q c) i j:=by
 have hm:(Rg.kept (isC l q) l.length)[i]<l.length:=List.mem_range.1 (List.mem_filter.1 (List.getElem_mem hi)).1
 rw[rowsL_get (List.getElem?_eq_getElem hi),filt_map,rowOf_get hm]
 unfold rowOf
 rw[List.getElem?_map,List.getElem?_eq_getElem hi]
 simp[List.getElem?_eq_getElem hm]
theorem cl332 (c:ChG) (gt:Nat→Nat→RV) (a:Int) (h2:gt 0 2=.i a):Pure Tryz.prog 332 [c.sv,.r (.rp 34 1 gt 0 0)] (· =.b (decide (c.p=a))):=by
 refine pure_of_GC T_ok Tryz.func332 rfl (by kernel_rfl) (nb rfl) rfl rfl ?_
 simp[go_sem,h2]
theorem delCh (l:List ChG) (hn:l.length≤1000000) (gt:Nat→Nat→RV) (a:Int) (h2:gt 0 2=.i a) :
 Own Tryz.prog 331 [.vec 114 3 l.length λi j=>.r (rowOf ChG.f l i j)] [.sl 0 3 0 l.length none,.fn (.func 332) [] [.r (.rp 34 1 gt 0 0)]] (.sl 0 3 0 (l.filter λc=>!decide (c.p=a)).length none) [.vec 114 3 (l.filter λc=>!decide (c.p=a)).length λi j=>.r ((rowsL (rowOf ChG.f l) (Rg.kept (isC l λc=>decide (c.p=a)) l.length)) i j)]:=by
 have h:=Rg.delf331 l.length hn (rowOf ChG.f l) 332 (.rp 34 1 gt 0 0) (isC l λc=>decide (c.p=a)) (λi j hi hj=>by
  rw[rowOf_get hi]
  rcases(by omega:j=0∨j=1∨j=2) with rfl | rfl | rfl <;> rfl) (λi hi=>by
  have:=cl332 l[i] gt a h2
  rw[rowOf_get hi,rowOf_get hi,rowOf_get hi]
  simp only [isC,List.getElem?_eq_getElem hi]
  exact this)
 have e:(Rg.kept (isC l λc=>decide (c.p=a)) l.length).length=(l.filter λc=>!decide (c.p=a)).length:=by rw[filt_map];simp
 rw[e] at h
 exact h
theorem sealed333 (k:KsG) (key:W64) (gt:Nat→Nat→RV) (h4:gt 0 4=.w key):Pure Tryz.prog 333 [kp gt,k.sv] (· =(KsG.mk k.a k.m k.s (k.seal key)).sv):=by
 refine pure_of_GC T_ok Tryz.func333 rfl (by kernel_rfl) (nb rfl) rfl rfl ?_
 simp[go_sem]
 refine GDraw_of T_ok (by kernel_rfl) 16 (by kernel_rfl) rfl rfl ?_
 simp[go_sem,h4,wrap_I]
 refine⟨_,dcall_val (mix318 _ _) rfl rfl,?_⟩
 refine⟨λr hr=>by simp[SV.refs] at hr,_,dcall_val (mix318 _ _) rfl rfl,?_⟩
 refine call_val (mix318 _ (u64 k.m)) rfl rfl ?_
 simp[go_sem,KsG.seal,sealW]
theorem SvG.rem_ok {x:SvG} (h:x.valid=true) {a:Int} (ha:x.g.th a=true):x.g.remE a=0∧x.r.foE a=0∧knE x.lg a=0:=by
 obtain⟨h1,h2,h3,h4,h5,h6⟩:=SvG.reg_val h
 have hin:=SvG.th_in h ha
 refine⟨?_,?_,?_⟩
 ·unfold EG.remE;rw[if_neg (by rw[h1];simp),if_neg (by rw[ha];simp)]
 ·unfold Rg.RG.foE
  rw[if_pos h2,if_pos]
  show Rg.btw 0 63 a=true
  unfold Rg.btw
  simp only [Bool.and_eq_true,decide_eq_true_eq];omega
 ·unfold knE
  rw[if_pos h4,if_pos]
  unfold Ix.btw
  simp only [Bool.and_eq_true,decide_eq_true_eq];omega
theorem does_rem (x:SvG) (o:OrG) (hx:x.OK) (hv:x.valid=true):Does 245 remM x o:=by
 refine ownS_of_GC T_ok Tryz.func245 rfl (by kernel_rfl) (nb rfl) rfl rfl 1 (Nat.le_refl _) ?_
 have n1:=hx.ir;have n2:=hx.ch;have n3:=hx.ks;have n4:=hx.lg
 unfold remM
 simp[go_sem]
 refine call_lent (v:=.b (x.g.th o.a)) (by simp[go_sem];exact there162 x hx.g.ok _ (x.at_view _) o.a) rfl ?_
 by_cases ht:x.g.th o.a=true
 rotate_left
 ·simp[go_sem,ht,bad]
  exact⟨[0],⟨rfl,trivial⟩,by simp,λN=>⟨by simp[go_sem],by simp[go_sem]⟩⟩
 obtain⟨z1,z2,z3⟩:=SvG.rem_ok hv ht
 have hin:=SvG.th_in hv ht
 have c1:=rem28p hx.g o.a
 have c2:=Rg.forget20 x.r o.a hx.r
 have c3:=erase330 x.lg n4 o.a
 have eX:x.g.remX o.a=x.g.remG o.a.toNat:=by unfold EG.remX;rw[if_pos z1]
 rw[z1,eX] at c1
 rw[z2,if_pos rfl] at c2
 rw[z3,if_pos rfl,if_pos rfl] at c3
 unfold SvG.rem
 obtain⟨y,hy⟩:∃y,x.g.remG o.a.toNat=y:=⟨_,rfl⟩
 obtain⟨q,hq⟩:∃q,x.r.forget o.a=q:=⟨_,rfl⟩
 obtain⟨l,hl⟩:∃l,erL x.lg o.a=l:=⟨_,rfl⟩
 obtain⟨cnt,hcnt⟩:∃c:Int,(erN x.lg o.a:Int)=c:=⟨_,rfl⟩
 rw[hy] at c1
 rw[hq] at c2
 rw[hl,hcnt] at c3
 rw[hy,hq,hl,hcnt]
 simp[go_sem,ht]
 refine GDraw_ls (S:=[(0,.ptr 0 0 17 0),(3,.ptr 1 0 34 0),(7,.ptr 2 0 3 0),(8,.i 0)]) (l:=[some (.box x.cells),some (.box o.cells),some (.box [y.rr,y.ll,y.cc])]) (n:=3)
  (t:=(.take 0 (.take 1 (.take 2 (.take 3 (.take 4 (.take 5 (.take 6 (.alt 7 [6,5,4,3,2,1,0] (.take 8 (.take 9 (.take 10 (.alt 11 [10,9,8,5,3,2,1,0] (.alt 12 [10,9,8,5,3,2,1,0] (.take 13 (.done [13,10])) .nil) .nil)))) (.alt 11 [6,5,4,3,2,1,0] (.alt 7 [6,5,4,3,2,1,0] (.take 8 (.take 9 (.take 10 (.alt 12 [10,9,8,5,3,2,1,0] (.take 13 (.done [13,10])) .nil)))) .nil) .nil)))))))))) T_ok (by kernel_rfl) (by kernel_rfl) (by kernel_rfl) (λ_ _ _ _ h=>h) rfl ?_ ?_
 ·simp[go_sem]
  refine⟨call_val c1 rfl rfl ?_,call_val c1 rfl rfl ?_⟩
  ·simp[go_sem]
  ·simp[go_sem]
 intro J
 simp[go_sem]
 refine GDraw_ls (S:=[(0,.ptr 0 0 17 0),(3,.ptr 1 0 34 0),(7,.ptr 2 0 3 0),(8,.i 0),(9,.ptr 3 0 4 0),(10,.i 0)]) (l:=[some (.box x.cells),some (.box o.cells),some (.box [y.rr,y.ll,y.cc]),some (.box [Rg.RuleG.rs q.nr q.r,Rg.ConG.rs q.nc q.c,Rg.WarG.rs q.nw q.w,Rg.MarkG.rs q.nm q.m])]) (n:=4)
  (t:=(.take 0 (.take 1 (.take 2 (.take 3 (.take 4 (.take 5 (.take 6 (.alt 7 [6,5,4,3,2,1,0] (.take 8 (.take 9 (.take 10 (.alt 11 [10,9,8,5,3,2,1,0] (.alt 12 [10,9,8,5,3,2,1,0] (.take 13 (.done [13,10])) .nil) .nil)))) (.alt 11 [6,5,4,3,2,1,0] (.alt 7 [6,5,4,3,2,1,0] (.take 8 (.take 9 (.take 10 (.alt 12 [10,9,8,5,3,2,1,0] (.take 13 (.done [13,10])) .nil)))) .nil) .nil)))))))))) T_ok (by kernel_rfl) (by kernel_rfl) (by kernel_rfl) (λ_ _ _ _ h=>h) rfl ?_ ?_
 ·simp[go_sem]
  refine⟨call_val c2 rfl rfl ?_,call_val c2 rfl rfl ?_⟩
  ·simp[go_sem]
  ·simp[go_sem]
 intro J
 simp[go_sem]
 refine GDraw_all T_ok (by kernel_rfl) (by kernel_rfl) ?_
 simp[go_sem]
 refine⟨_,dcall_val c3 rfl rfl,?_⟩
 simp[go_sem]
 refine GDraw_ls (S:=[(0,.ptr 0 0 17 0),(3,.ptr 1 0 34 0),(12,.i cnt)]) (l:=[some (.box [.i x.num,.i x.den,.i x.turns,.i x.mage,.w x.key,.i x.now,y.rr,y.ll,y.cc,irs x.ir,Rg.RuleG.rs q.nr q.r,Rg.ConG.rs q.nc q.c,Rg.WarG.rs q.nw q.w,Rg.MarkG.rs q.nm q.m,chs x.ch,kss x.ks,lgs l]),some (.box o.cells)]) (n:=2)
  (t:=(.take 0 (.take 1 (.take 2 (.take 3 (.take 4 (.take 5 (.take 6 (.take 7 (.take 8 (.alt 9 [8,7,6,5,4,3,2,1,0] (.take 10 (.take 11 (.take 12 (.alt 13 [12,11,10,7,6,5,4,2,1] (.take 14 (.take 15 (.take 16 (.alt 17 [16,15,14,11,10,5,2] (.done [15,14]) .nil)))) .nil)))) .nil))))))))))) T_ok (by kernel_rfl) (by kernel_rfl) (by kernel_rfl) (λ_ _ _ _ h=>h) rfl ?_ ?_
 ·simp[go_sem]
 intro J
 simp[go_sem]
 refine callK_own [] (clone143 x.ir.length (by omega) _) (by simp) rfl trivial ?_
 obtain⟨n,hn⟩:∃n:Nat,o.a=n:=⟨o.a.toNat,by omega⟩
 have hlt:n<x.ir.length:=by omega
 simp[go_sem]
 refine GDraw_of T_ok (by kernel_rfl) 8 (by kernel_rfl) rfl rfl ?_
 simp[go_sem,hn,hlt]
 refine callK_own [] (clone144 x.ch.length (by omega) _) (by simp) rfl trivial ?_
 simp[go_sem]
 refine callK_freeze 1 (by simp[go_sem];rfl) ?_
 simp[go_sem]
 refine callK_own [3] (delCh x.ch (by omega) _ n (by rw[← hn];rfl)) (by simp) rfl ⟨rfl,trivial⟩ ?_
 simp[go_sem]
 refine callK_own [] (clone145 x.ks.length (by omega) _) (by simp) rfl trivial ?_
 simp[go_sem]
 obtain⟨I,hI⟩:∃I,x.ir.set n IrG.z=I:=⟨_,rfl⟩
 obtain⟨C,hC⟩:∃C,x.ch.filter (λc=>!decide (c.p=(n:Int)))=C:=⟨_,rfl⟩
 have hIl:I.length=x.ir.length:=by rw[← hI];simp
 refine GLoop_pre (GSt.freeze 2 (by simp[go_sem];rfl)) ?_
 refine GLoop_pre (GSt.freeze 4 (by simp[go_sem];rfl)) ?_
 refine GLoop_pre (GSt.wkBox 0 (l':=[.i x.num,.i x.den,.i x.turns,.i x.mage,.w x.key,.i x.now,y.rr,y.ll,y.cc,irs I,Rg.RuleG.rs q.nr q.r,Rg.ConG.rs q.nc q.c,Rg.WarG.rs q.nw q.w,Rg.MarkG.rs q.nm q.m,chs C,.sl 5 4 0 x.ks.length none,lgs l]) (by simp[go_sem];rfl) ?_) ?_
 ·simp[go_sem]
  refine⟨⟨hIl.symm,λi j hi hj=>?_⟩,by rw[hC],λi j hi hj=>?_⟩
  ·have hi':i<I.length:=by omega
   rw[rowOf_get hi']
   have hg:I[i]=if i=n then IrG.z else x.ir[i]:=by
    subst hI
    rw[List.getElem_set]
    by_cases e:n=i
    ·rw[if_pos e,if_pos e.symm]
    ·rw[if_neg e,if_neg λh=>e h.symm]
   rw[hg]
   by_cases e:i=n
   ·rw[if_pos ⟨e,hj⟩,if_pos e]
    rcases(by omega:j=0∨j=1) with rfl | rfl <;> rfl
   ·rw[if_neg λh=>e h.1,if_neg e,rowOf_get hi]
    rfl
  ·have:=filt_rows x.ch (λc=>decide (c.p=(n:Int))) i j (by rw[← hC,filt_map] at *;simpa using hi)
   rw[this,← hC]
 rw[hI,hC]
 refine GLoop_pv T_ok (α:=Nat) (λk=>[(0,.ptr 0 0 17 0),(3,.r (.rp 34 1 (gbox o.cells) 0 0)),(12,.i cnt),(123,.sl 5 4 0 x.ks.length none),(124,.i x.ks.length),(125,.i k)])
  (λk M nx=>k≤x.ks.length∧6≤nx∧M 0=some (.box [.i x.num,.i x.den,.i x.turns,.i x.mage,.w x.key,.i x.now,y.rr,y.ll,y.cc,irs I,Rg.RuleG.rs q.nr q.r,Rg.ConG.rs q.nc q.c,Rg.WarG.rs q.nw q.w,Rg.MarkG.rs q.nm q.m,chs C,.sl 5 4 0 x.ks.length none,lgs l])∧
    ∃G,M 5=some (.vec 100 4 x.ks.length G)∧∀i (hi:i<x.ks.length) j,j<4→G i j=.r ((if i<k then x.ks[i].re x.key n else x.ks[i]).f j)) (λk=>x.ks.length - k) 0 ?_ ?_ ?_
 ·refine⟨Nat.zero_le _,by simp,by simp[go_sem],_,by simp[go_sem];rfl,λi hi j hj=>?_⟩
  simp[rowOf_get hi]
 ·simp[go_sem]
 rintro k J M nx _ ⟨hk,hnx,h0,G,h5,hG⟩
 by_cases hlt:k<x.ks.length
 ·have g0:=hG k hlt 0 (by decide)
  have g1:=hG k hlt 1 (by decide)
  have g2:=hG k hlt 2 (by decide)
  have g3:=hG k hlt 3 (by decide)
  rw[if_neg (Nat.lt_irrefl k)] at g0 g1 g2 g3
  have e0:¬0=nx:=by omega
  have e5:¬5=nx:=by omega
  have e0':¬nx=0:=by omega
  have e5':¬nx=5:=by omega
  simp[go_sem,hlt,h0,h5,g0,g1,g2,g3,e0,e5,e0',e5']
  refine GDraw_of T_ok (by kernel_rfl) 5 (by kernel_rfl) rfl rfl ?_
  simp[go_sem,hlt,h0,h5,g0,g1,g2,g3,e0,e5,e0',e5',hn]
  refine GDraw_of T_ok (by kernel_rfl) 9 (by kernel_rfl) rfl rfl ?_
  simp[go_sem,hlt,h0,h5,g0,g1,g2,g3,e0,e5,e0',e5',hn]
  have hse:=λgt h=>sealed333 ⟨x.ks[k].a,x.ks[k].m,andn64 x.ks[k].s (shl64 1#64 n),x.ks[k].z⟩ x.key gt h
  have hre:(KsG.mk x.ks[k].a x.ks[k].m (andn64 x.ks[k].s (shl64 1#64 n)) ((KsG.mk x.ks[k].a x.ks[k].m (andn64 x.ks[k].s (shl64 1#64 n)) x.ks[k].z).seal x.key))=x.ks[k].re x.key n:=rfl
  rw[hre] at hse
  refine⟨(x.ks[k].re x.key n).sv,dcall_deep (by simp[go_sem,h0,e0,e0'];exact hse _ (by rfl)) rfl,⟨rfl,rfl⟩,⟨by omega,by omega⟩,vq_done ?_⟩
  simp[go_sem,h0,e0,e0',e5,e5']
  refine⟨k+1,by omega,by omega,by omega,by omega,λi hi j hj=>?_⟩
  by_cases e:i=k
  ·subst e
   rw[if_pos ⟨rfl,hj⟩,if_pos (Nat.lt_succ_self i)]
   rcases(by omega:j=0∨j=1∨j=2∨j=3) with rfl | rfl | rfl | rfl <;> rfl
  ·rw[if_neg λh=>e h.1,hG i hi j hj]
   by_cases h:i<k
   ·rw[if_pos h,if_pos (by omega)]
   ·rw[if_neg h,if_neg (by omega)]
 have hk':k=x.ks.length:=by omega
 subst hk'
 simp[go_sem,h0,h5]
 refine vq_step (GSt.freeze 5 h5) (vq_step (GSt.wkBox 0 (l':=({x with g:=y,ir:=I,r:=q,ch:=C,ks:=x.ks.map λk=>k.re x.key n,lg:=l}:SvG).cells) (by simp[go_sem,h0];rfl) ?_) (vq_done ?_))
 ·simp[go_sem]
  intro i j hi hj
  rw[hG i hi j hj,if_pos hi,rowOf_get (by simpa using hi)]
  simp[SV.toRV]
 ·simp[go_sem,okA]
  exact⟨[0],⟨rfl,trivial⟩,by simp,λN=>⟨by simp[go_sem],by simp[go_sem]⟩⟩
def SvG.mbK (x:SvG) (k:Nat):List MbG:=((List.range k).filter λi:Nat=>x.g.th i).map λi:Nat=>⟨(i:Int),x.eye i⟩
theorem SvG.mbK_succ (x:SvG) (k:Nat):x.mbK (k+1)=x.mbK k++if x.g.th k then [⟨(k:Int),x.eye k⟩] else []:=by
 unfold SvG.mbK
 rw[List.range_succ,List.filter_append,List.map_append]
 congr 1
 by_cases h:x.g.th (k:Int)=true <;> simp[h]
theorem SvG.mbK_le (x:SvG) (k:Nat):(x.mbK k).length≤k:=by
 unfold SvG.mbK
 rw[List.length_map]
 exact Nat.le_trans (List.length_filter_le _ _) (by simp)
theorem SvG.mbs_mem {x:SvG} {a:MbG} (h:a∈x.mbs):∃n:Nat,n<x.ir.length∧x.g.th n=true∧a=⟨n,x.eye n⟩:=by
 unfold SvG.mbs at h
 obtain⟨n,hn,rfl⟩:=List.mem_map.1 h
 have:=List.mem_filter.1 hn
 exact⟨n,List.mem_range.1 this.1,this.2,rfl⟩
theorem SvG.mbs_vl {x:SvG} (h:x.valid=true):VL x.mbs:=by
 obtain⟨h1,h2,h3,h4,h5,h6⟩:=SvG.reg_val h
 have hnr:=(EG.val_iff.1 h1).nr
 refine⟨Nat.le_trans (x.mbK_le x.ir.length) (by omega),λa ha=>?_,λa ha=>?_,?_⟩
 ·obtain⟨n,hn,_,rfl⟩:=SvG.mbs_mem ha
  show Ix.btw 0 1073741824 (n:Int)=true
  simp only [Ix.btw,Bool.and_eq_true,decide_eq_true_eq];omega
 ·obtain⟨n,hn,_,rfl⟩:=SvG.mbs_mem ha
  exact SvG.eye_ok h (by omega) (by omega)
 ·unfold SvG.mbs
  rw[List.map_map]
  have:((λa:MbG=>a.id) ∘ λi:Nat=>(⟨(i:Int),x.eye i⟩:MbG))=λi:Nat=>(i:Int):=rfl
  rw[this]
  rw[List.Nodup,List.pairwise_map]
  have hnd:((List.range x.ir.length).filter λi:Nat=>x.g.th i).Pairwise (·≠·):=List.Pairwise.filter _ List.nodup_range
  exact hnd.imp fun {a b} hne e=>hne (Int.ofNat_inj.1 e)
theorem SvG.mE_ok {x:SvG} (h:x.valid=true) {p:IrG} (hp:p.ok=true):mE p p x.turns x.num x.den=0:=by
 obtain⟨h1,h2,h3,h4⟩:=cmp_in h
 unfold mE
 rw[hp]
 have e1:Ix.btw 0 7 x.turns=true:=by simp[Ix.btw];omega
 have e2:vL x.num x.den=true:=by unfold vL Ix.btw;simp;omega
 simp[e1,e2]
theorem SvG.fd_mem {x:SvG} (h:x.valid=true) {p:IrG} {t n d:Int} {a:Int} (ha:a∈fdI x.mbs p t n d):x.g.th a=true:=by
 unfold fdI at ha
 split at ha
 ·unfold fndM at ha
  obtain⟨m,hm,rfl⟩:=List.mem_map.1 ha
  have hm:=(List.mem_filter.1 hm).1
  have hm:=(srtM_spec x.mbs).1.mem_iff.1 hm
  obtain⟨k,_,hk,rfl⟩:=SvG.mbs_mem hm
  exact hk
 ·exact absurd ha (by simp)
theorem apq_one {g:Rg.RG} {q:Rg.QG} (h:g.aerr q=0):∃k l,g.apq q=k::l∧k<g.nr:=by
 unfold Rg.RG.aerr at h
 split at h
 ·rename_i h0;exact absurd h h0
 rename_i h0
 have h0:Rg.ask g q=0:=by simpa using h0
 split at h
 ·omega
 rename_i h1
 have key:∀n,g.apl q n=[]→g.lev q n=0:=by
  intro n
  induction n with
  | zero=>intro _;rfl
  | succ n ih=>
    intro he
    cases hb:Rg.ruleB g q (g.r n)
    ·rw[Rg.RG.apl_no hb] at he
     simp only [Rg.RG.lev,hb]
     simpa using ih he
    ·rw[Rg.RG.apl_yes hb] at he
     simp at he
 have e:g.apq q=g.apl q g.nr:=by unfold Rg.RG.apq;rw[if_pos h0]
 rw[e]
 cases hl:g.apl q g.nr with
 | nil=>exact absurd (key _ hl) h1
 | cons k l=>
   refine⟨k,l,rfl,?_⟩
   have:k∈g.apl q g.nr:=by rw[hl];simp
   exact List.mem_range.1 (List.mem_filter.1 this).1
theorem aerr_ask {g:Rg.RG} {q:Rg.QG} (h:g.aerr q=0):Rg.ask g q=0:=by
 unfold Rg.RG.aerr at h
 split at h
 ·rename_i h0;exact absurd h h0
 ·rename_i h0;simpa using h0
theorem snoc_rowsG {α:Type} {f:α→Nat→RV} {l:List α} {x:α} {k q:Nat} {G new:Nat→Nat→SV} (hG:∀i j,i<l.length→j<k→G i j=.r (rowOf f l i j)) (h:∀j,j<k→new 0 j=.r (f x j)) :
 ∀i j,i<(l++[x]).length→j<k→SV.kill q (joined l.length 1 G new i j)=.r (rowOf f (l++[x]) i j):=by
 intro i j hi hj
 simp only [List.length_append,List.length_singleton] at hi
 unfold joined
 by_cases hiL:i<l.length
 ·rw[if_pos hiL,hG i j hiL hj]
  unfold rowOf
  rw[List.getElem?_append_left hiL]
  rfl
 ·obtain rfl:i=l.length:=by omega
  rw[if_neg hiL,if_pos (by omega),Nat.sub_self,h j hj]
  unfold rowOf
  rw[List.getElem?_concat_length]
  rfl
theorem does_find (x:SvG) (o:OrG) (hx:x.OK) (hv:x.valid=true) (hq:(o.q.nk:Int)<2 ^ 61):Does 253 fndM' x o:=by
 refine ownS_of_GC T_ok Tryz.func253 rfl (by kernel_rfl) (nb rfl) rfl rfl 1 (Nat.le_refl _) ?_
 have n1:=hx.ir
 unfold fndM'
 simp[go_sem]
 refine call_val (check51 o.x.c o.x.m) rfl rfl ?_
 have e0:o.x.ok=vI o.x.c o.x.m:=rfl
 rw[e0]
 cases hvi:vI o.x.c o.x.m
 ·simp[go_sem,bad]
  exact⟨[0],⟨rfl,trivial⟩,by simp,λN=>⟨by simp[go_sem],by simp[go_sem]⟩⟩
 simp[go_sem]
 refine call_val (Rg.checkQuery40 o.q (by unfold Rg.QG.OK;omega)) rfl rfl ?_
 obtain⟨e,he⟩:∃e,o.q.err=e:=⟨_,rfl⟩
 rw[he]
 by_cases he0:e=0
 rotate_left
 ·simp[go_sem,he0,bad]
  exact⟨[0],⟨rfl,trivial⟩,by simp,λN=>⟨by simp[go_sem],by simp[go_sem]⟩⟩
 subst he0
 simp[go_sem]
 refine GLoop_pre (GSt.adopt 9 126 3 (λ_ _=>.r .any) (by simp[go_sem])) ?_
 refine GLoop_p T_ok (α:=Nat) (λk=>[(0,.ptr 0 0 17 0),(3,.ptr 1 0 34 0),(9,.sl 2 3 0 (x.mbK k).length none),(41,irs x.ir),(42,.i x.ir.length),(43,.i k)])
  (λk M nx=>k≤x.ir.length∧3≤nx∧M 0=some (.box x.cells)∧M 1=some (.box o.cells)∧∃G,M 2=some (.vec 126 3 (x.mbK k).length G)∧∀i j,i<(x.mbK k).length→j<3→G i j=.r (rowOf MbG.f (x.mbK k) i j)) (λk=>x.ir.length - k) 0 ?_ ?_ ?_
 ·simp[go_sem,SvG.mbK]
 ·simp[go_sem,SvG.mbK]
 rintro k J M nx _ ⟨hk,hnx,h0,h1,G,h2,hG⟩
 have e0:¬0=nx:=by omega
 have e1:¬1=nx:=by omega
 have e2:¬2=nx:=by omega
 have e0':¬nx=0:=by omega
 have e1':¬nx=1:=by omega
 have e2':¬nx=2:=by omega
 by_cases hlt:k<x.ir.length
 ·have hrow:=rowOf_get (f:=IrG.f) hlt
  have hey:x.eye k=x.ir[k]:=SvG.eye_get hlt
  have hs:=x.mbK_succ k
  have hle:=x.mbK_le k
  rw[hey] at hs
  simp[go_sem,hlt,hrow]
  refine call_lent (v:=.b (x.g.th k)) (by simp[go_sem,h0,e0,e0'];exact there162 x hx.g.ok _ (x.at_view _) k) rfl ?_
  by_cases ht:x.g.th (k:Int)=true
  ·rw[if_pos ht] at hs
   obtain⟨y,hy⟩:∃y:MbG,MbG.mk k x.ir[k]=y:=⟨_,rfl⟩
   have hyr:∀j,j<3→([.i k,.w x.ir[k].c,.w x.ir[k].m]:List SV)[0*3+j]?.getD (SV.r .any)=.r (y.f j):=by
    intro j hj
    subst hy
    rcases(by omega:j=0∨j=1∨j=2) with rfl | rfl | rfl <;> rfl
   rw[hy] at hs
   simp[go_sem,ht,h0,h1,h2,e0,e1,e2,e0',e1',e2']
   refine⟨⟨by omega,by omega⟩,⟨by omega,by omega⟩,k+1,by omega,⟨by rw[hs];simp,by omega⟩,by omega,by omega,_,⟨by rw[hs];simp,rfl⟩,?_⟩
   rw[hs]
   exact snoc_rowsG hG λj hj=>hyr j hj
  ·rw[if_neg ht,List.append_nil] at hs
   simp[go_sem,ht,h0,h1,h2,e0,e1,e2,e0',e1',e2']
   exact⟨⟨by omega,by omega⟩,k+1,by omega,⟨by rw[hs],by omega⟩,by omega,by omega,G,⟨by rw[hs],rfl⟩,by rw[hs];exact hG⟩
 have hk':k=x.ir.length:=by omega
 subst hk'
 have hms:x.mbK x.ir.length=x.mbs:=rfl
 rw[hms] at h2 hG
 have hvl:=SvG.mbs_vl hv
 have hbE:buildE x.mbs=0:=(buildE_iff _).2 hvl
 have hb:=build16 x.mbs (by have:=hvl.len;omega)
 have hbX:buildX x.mbs=ofG x.mbs:=by unfold buildX;rw[if_pos hbE]
 rw[hbE,hbX] at hb
 obtain⟨c1,c2,c3,c4⟩:=cmp_in hv
 have hsr:=search_of hvl o.x x.turns x.num x.den
 rw[SvG.mE_ok hv hvi] at hsr
 have hmem:∀a∈fdI x.mbs o.x x.turns x.num x.den,x.g.th a=true:=λa ha=>SvG.fd_mem hv ha
 obtain⟨L,hL⟩:∃L,fdI x.mbs o.x x.turns x.num x.den=L:=⟨_,rfl⟩
 obtain⟨sn,hsn⟩:∃s,fdS x.mbs o.x x.turns x.num x.den=s:=⟨_,rfl⟩
 have hLl:L.length≤256:=by
  rw[← hL]
  unfold fdI
  split
  ·unfold fndM
   rw[List.length_map]
   refine Nat.le_trans (List.length_filter_le _ _) ?_
   rw[(srtM_spec x.mbs).1.length_eq]
   exact hvl.len
  ·simp
 rw[hL] at hmem
 rw[hL,hsn] at hsr
 rw[hL]
 obtain⟨R,hR⟩:∃R,hitM x o L []=R:=⟨_,rfl⟩
 rw[hR]
 simp[go_sem,hms]
 refine callK_freeze 2 h2 ?_
 simp[go_sem]
 refine call_val (hb.args ⟨le_rs λi j hi hj=>?_,trivial⟩) rfl ?_ ?_
 ·simp only [hG i j hi hj]
  show rowOf MbG.f x.mbs i j=mrows x.mbs i j
  rw[rowOf_get hi,mrow hi]
 ·rfl
 unfold IxG.sv
 simp[go_sem,List.range_succ,h0,h1,e0,e1,e2,e0',e1',e2']
 have f0:¬0=nx+1:=by omega
 have f1:¬1=nx+1:=by omega
 unfold IxG.sv at hsr
 simp only [List.range_succ,List.range_zero,List.nil_append,List.map_append,List.map_cons,List.map_nil,List.cons_append] at hsr
 refine GDraw_cut (S:=[(0,.ptr 0 0 17 0),(3,.ptr 1 0 34 0),(13,.i 0),(14,.ptr (nx+1) 0 2 0)]) (φ:=λM nx'=>nx+2≤nx'∧M 0=some (.box x.cells)∧M 1=some (.box o.cells)∧M (nx+1)=some (.box [ils L,.i sn])) ?_ ?_
 ·refine GDraw_l (t:=(.take 0 (.take 1 (.take 2 (.take 3 (.take 4 (.take 5 (.take 6 (.take 7 (.take 8 (.take 9 (.take 10 (.take 11 (.take 12 (.take 13 (.take 14 (.alt 15 [14,13,12,11,10,9,8,7,6,5,4,3,2,1,0] (.take 16 (.take 17 (.take 18 (.alt 19 [18,17,16,13,12,11,10,9,7,6,5,4,3,1] (.alt 20 [18,17,16,13,12,11,10,9,7,6,5,4,3,1] (.take 21 (.done [21,18])) .nil) .nil)))) (.alt 19 [14,13,12,11,10,9,8,7,6,5,4,3,2,1,0] (.alt 15 [14,13,12,11,10,9,8,7,6,5,4,3,2,1,0] (.take 16 (.take 17 (.take 18 (.alt 20 [18,17,16,13,12,11,10,9,7,6,5,4,3,1] (.take 21 (.done [21,18])) .nil)))) .nil) .nil)))))))))))))))))) T_ok (by kernel_rfl) (by kernel_rfl) (by kernel_rfl) (λ_ _ _ _ h=>h) ?_
  simp[go_sem,h0,h1,e0,e1,e2,e0',e1',e2',f0,f1]
  refine⟨call_val hsr rfl rfl ?_,call_val hsr rfl rfl ?_⟩
  ·simp[go_sem,h0,h1,e0,e1,e2,e0',e1',e2',f0,f1]
  ·simp[go_sem,h0,h1,e0,e1,e2,e0',e1',e2',f0,f1]
 intro J M2 nx2 ⟨k1,k2,k3,k4⟩
 simp[go_sem,k4]
 refine GLoop_pre (GSt.adopt 15 132 5 (λ_ _=>.r .any) (by simp[go_sem])) ?_
 have hl0:=SvG.log_ok hv
 have hset:=(SvG.valid_iff.1 hv).1
 have hir:∀a,x.g.th a=true→0≤a∧a<x.ir.length∧a≤23:=λa ha=>SvG.th_in hv ha
 have heok:∀a,x.g.th a=true→(x.eye a).ok=true:=λa ha=>SvG.eye_ok hv (hir a ha).1 (hir a ha).2.1
 refine GLoop_pv T_ok (α:=Nat × List EnG × List HtG) (λs=>[(0,.ptr 0 0 17 0),(3,.ptr 1 0 34 0),(15,.sl nx2 5 0 s.2.2.length none),(89,ils L),(90,.i L.length),(91,.i s.1)])
  (λs M nx'=>s.1≤L.length∧nx2<nx'∧M 0=some (.box ({x with lg:=s.2.1}:SvG).cells)∧M 1=some (.box o.cells)∧(∃G,M nx2=some (.vec 132 5 s.2.2.length G)∧∀i j,i<s.2.2.length→j<5→G i j=.r (rowOf HtG.f s.2.2 i j))∧
    LgOK s.2.1 x.now∧s.2.1.length≤60∧s.2.2.length≤s.1∧R=hitM {x with lg:=s.2.1} o (L.drop s.1) s.2.2) (λs=>L.length - s.1) (0,x.lg,[]) ?_ ?_ ?_
 ·refine⟨Nat.zero_le _,Nat.lt_succ_self _,?_,?_,⟨λ_ _=>.r .any,?_,λi j hi=>absurd hi (Nat.not_lt_zero i)⟩,hl0,?_,Nat.le_refl _,hR.symm⟩
  ·have:¬0=nx2:=by omega
   simp[go_sem,this,k2]
  ·have:¬1=nx2:=by omega
   simp[go_sem,this,k3]
  ·simp[go_sem]
  ·have:=hl0.ok
   unfold lgOK at this
   simp only [Bool.and_eq_true,decide_eq_true_eq] at this
   exact this.1
 ·simp[go_sem]
 rintro⟨k,lg,h⟩ J M nx' _ ⟨hk,hnx',m0,m1,⟨G2,m2,hG2⟩,hlg,hl60,hhk,hM⟩
 dsimp only at *
 by_cases hlt:k<L.length
 ·have ha:x.g.th L[k]=true:=hmem _ (List.getElem_mem hlt)
  have hdrop:L.drop k=L[k]::L.drop (k+1):=List.drop_eq_getElem_cons hlt
  have hrow:=irow hlt
  obtain⟨a,haa⟩:∃a,L[k]=a:=⟨_,rfl⟩
  rw[haa] at ha hdrop hrow
  rw[hdrop] at hM
  obtain⟨a1,a2,a3⟩:=hir a ha
  have d0:∀i,¬0=nx'+i:=λi=>by omega
  have d1:∀i,¬1=nx'+i:=λi=>by omega
  have d2:∀i,¬nx2=nx'+i:=λi=>by omega
  have d0':∀i,¬nx'+i=0:=λi=>by omega
  have d1':∀i,¬nx'+i=1:=λi=>by omega
  have d2':∀i,¬nx'+i=nx2:=λi=>by omega
  have b0:¬0=nx':=by omega
  have b1:¬1=nx':=by omega
  have b2:¬nx2=nx':=by omega
  have b0':¬nx'=0:=by omega
  have b1':¬nx'=1:=by omega
  have b2':¬nx'=nx2:=by omega
  simp[go_sem,hlt,hrow,m0,m1,m2,b0,b1,b2,b0',b1',b2',d0,d1,d2,d0',d1',d2']
  obtain⟨q,hqq⟩:∃q,qAt o.q a x.now=q:=⟨_,rfl⟩
  have hqk:(q.nk:Int)<2 ^ 61:=by rw[← hqq];exact hq
  have hqO:q.OK:=by unfold Rg.QG.OK;omega
  have hqs:SV.agg [.i o.q.p,.i o.q.r,.i o.q.l,.i a,.i x.now,o.q.ks]=q.sv:=by rw[← hqq];rfl
  have han:=Rg.answer26 x.r q hx.r hqO
  have hap:=Rg.applies31 x.r q hx.r hqO
  obtain⟨ae,hae⟩:∃e,x.r.aerr q=e:=⟨_,rfl⟩
  rw[hae] at han
  rw[← hqs] at han hap
  refine GDraw_l (t:=(.take 0 (.take 1 (.take 2 (.take 3 (.take 4 (.take 5 (.take 6 (.alt 7 [6,5,4,3,2,1,0] (.take 8 (.alt 9 [8,5,4,3,2,1] (.done []) .nil)) .nil))))))))) T_ok (by kernel_rfl) (by kernel_rfl) (by kernel_rfl) (λ_ _ _ _ h=>h.elim λ_ h=>h.elim λ_ h=>h.elim λ_ h=>h.2) ?_
  simp[go_sem,hlt,hrow,m0,m1,m2,b0,b1,b2,b0',b1',b2',d0,d1,d2,d0',d1',d2']
  refine GDraw_cut (S:=[(0,.ptr 0 0 17 0),(3,.ptr 1 0 34 0),(15,.sl nx2 5 0 h.length none),(89,ils L),(90,.i L.length),(91,.i k),(17,.i a),(18,.ptr nx' 0 6 0),(19,.ptr (nx'+1) 0 4 0),(20,.i ae)])
   (φ:=λM nx''=>nx'+2≤nx''∧M 0=some (.box ({x with lg:=lg}:SvG).cells)∧M 1=some (.box o.cells)∧M nx2=some (.vec 132 5 h.length G2)∧M nx'=some (.box [.i o.q.p,.i o.q.r,.i o.q.l,.i a,.i x.now,o.q.ks])∧M (nx'+1)=some (.box [.i (x.r.aL q),.b (x.r.aO q),.i (x.r.aS q),.i (x.r.aN q)])) ?_ ?_
  ·refine GDraw_l (t:=(.take 0 (.take 1 (.take 2 (.take 3 (.take 4 (.take 5 (.alt 6 [5,4,3,2,1,0] (.take 7 (.take 8 (.take 9 (.alt 10 [9,8,7,3,2,1,0] (.alt 11 [9,8,7,3,2,1,0] (.take 12 (.done [12,9])) .nil) .nil)))) (.alt 10 [5,4,3,2,1,0] (.alt 6 [5,4,3,2,1,0] (.take 7 (.take 8 (.take 9 (.alt 11 [9,8,7,3,2,1,0] (.take 12 (.done [12,9])) .nil)))) .nil) .nil))))))))) T_ok (by kernel_rfl) (by kernel_rfl) (by kernel_rfl) (λ_ _ _ _ h=>h) ?_
   simp[go_sem,hlt,hrow,m0,m1,m2,b0,b1,b2,b0',b1',b2',d0,d1,d2,d0',d1',d2']
   refine⟨call_val han rfl rfl ?_,call_val han rfl rfl ?_⟩
   ·simp[go_sem,hlt,hrow,m0,m1,m2,b0,b1,b2,b0',b1',b2',d0,d1,d2,d0',d1',d2']
   ·simp[go_sem,hlt,hrow,m0,m1,m2,b0,b1,b2,b0',b1',b2',d0,d1,d2,d0',d1',d2']
  intro J M3 nx3 ⟨p1,p2,p3,p4,p5,p6⟩
  have r1:nx'<nx3:=by omega
  have r2:nx'+1<nx3:=by omega
  have r3:0<nx3:=by omega
  have r4:1<nx3:=by omega
  have r5:nx2<nx3:=by omega
  simp[go_sem,p2,p3,p4,p5,p6]
  refine GDraw_all T_ok (by kernel_rfl) (by kernel_rfl) ?_
  simp[go_sem,p2,p3,p4,p5,p6,r1,r2,r3,r4,r5]
  refine⟨_,dcall_val hap rfl rfl,?_⟩
  unfold hitM at hM
  simp only [hqq,hae] at hM
  by_cases he0:ae=0
  rotate_left
  ·rw[if_neg he0] at hM
   simp[go_sem,he0]
   refine⟨⟨by omega,by omega⟩,vq_done ?_⟩
   rw[LP_normal]
   refine⟨(k+1,lg,h),(show L.length - (k+1)<L.length - k by omega),by simp[go_sem],(show k+1≤L.length by omega),(show nx2<nx3 by omega),p2,p3,⟨G2,p4,hG2⟩,hlg,hl60,(show h.length≤k+1 by omega),hM⟩
  have hask:=aerr_ask (hae.trans he0)
  obtain⟨r0,rl,hr0,hr1⟩:=apq_one (hae.trans he0)
  rw[if_pos he0] at hM
  rw[hask,hr0]
  have hnr:=(Rg.RG.small (SvG.reg_val hv).2.1).1
  have hcm:=λgt h=>compare343 ({x with lg:=lg}:SvG) hset gt h a ⟨a1,a2⟩ n1 o.x (heok a ha) hvi
  obtain⟨r,hr⟩:∃r,cmpR ({x with lg:=lg}:SvG) (SvG.eye {x with lg:=lg} a) o.x=r:=⟨_,rfl⟩
  have hgood:r.good=true:=by rw[← hr];exact cmpR_good hset _ o.x
  have hg2:=RsG.good_in hgood
  rw[hr] at hcm hM
  simp[go_sem,he0,p2,p3,p4,p5,p6]
  refine call_lent (v:=r.sv) (by simp[go_sem,p2];exact hcm _ (SvG.at_view ({x with lg:=lg}:SvG) _)) rfl ?_
  have hz:rowsL natRow (r0::rl) 0 0=.i (r0:Int):=rfl
  have s0:¬0=nx3:=by omega
  have s1:¬1=nx3:=by omega
  have s2:¬nx2=nx3:=by omega
  have s3:¬nx'=nx3:=by omega
  have s4:¬nx'+1=nx3:=by omega
  have s0':¬nx3=0:=by omega
  have s1':¬nx3=1:=by omega
  have s2':¬nx3=nx2:=by omega
  have s3':¬nx3=nx':=by omega
  have s4':¬nx3=nx'+1:=by omega
  have s5:∀i,¬nx3+i=0:=λi=>by omega
  have s6:∀i,¬nx3+i=1:=λi=>by omega
  have s7:∀i,¬nx3+i=nx2:=λi=>by omega
  have s8:∀i,¬0=nx3+i:=λi=>by omega
  have s9:∀i,¬1=nx3+i:=λi=>by omega
  have s10:∀i,¬nx2=nx3+i:=λi=>by omega
  have s11:∀i,¬nx'=nx3+i:=λi=>by omega
  have s12:∀i,¬nx'+1=nx3+i:=λi=>by omega
  have s13:¬nx'+1=0:=by omega
  have s14:¬0=nx'+1:=by omega
  have s15:¬nx2=0:=by omega
  have s16:¬0=nx2:=by omega
  have s17:¬nx'+1=nx2:=by omega
  have s18:¬nx2=nx3+1+1:=by omega
  have s19:¬0=nx3+1+1:=by omega
  have s20:¬1=nx3+1+1:=by omega
  have s21:¬nx3+1+1=nx2:=by omega
  have s22:¬nx3+1+1=0:=by omega
  have s23:¬nx3+1+1=1:=by omega
  have s24:¬1=nx2:=by omega
  have s25:¬nx2=1:=by omega
  simp[go_sem,hz,p2,p3,p4,p5,p6,s0,s1,s2,s3,s4,s0',s1',s2',s3',s4',s5,s6,s7,s8,s9,s10,s11,s12,s13,s14,s15,s16,s17]
  obtain⟨r',hr'⟩:∃r':RsG,{r with r:=(r0:Int)}=r':=⟨_,rfl⟩
  have hgr:r'.good=true:=by
   rw[← hr']
   simp only [RsG.good,RsG.okd,b127,Ix.btw,Bool.and_eq_true,decide_eq_true_eq];omega
  have hrs:SV.agg [.r (.v (.int .u8 r.d)),.i r.n,.i r.m,.i r.p,.i r.q,.i r0]=r'.sv:=by rw[← hr']
  have hrec:=record345 ({x with lg:=lg}:SvG) 2 a r' o.s (by show lg.length<1000000;omega) hlg (by decide) (by omega) hgr
  have hM2:R=if lg.length=60 then (({x with lg:=lg}:SvG),bad 9) else hitM (SvG.put {x with lg:=lg} 2 a r' o.s) o (L.drop (k+1)) (h++[⟨a,x.r.aL q,x.r.aO q,x.r.aS q,x.r.aN q⟩]):=by
   rw[hM,← hr',hr0];rfl
  unfold recE at hrec
  rw[hrs]
  by_cases h60:lg.length=60
  ·rw[if_pos h60,if_pos h60] at hrec
   rw[if_pos h60] at hM2
   refine callK_ownS [0] hrec (Nat.le_refl _) (by simp) rfl ⟨?_,trivial⟩ ?_
   ·simp[go_sem,p2,s0]
   simp[go_sem,hM2,bad]
   refine vq_done ?_
   simp[go_sem]
   exact⟨[0],⟨rfl,trivial⟩,by simp,λN=>⟨by simp[go_sem],by simp[go_sem]⟩⟩
  ·rw[if_neg h60,if_neg h60] at hrec
   rw[if_neg h60] at hM2
   refine callK_ownS [0] hrec (Nat.le_refl _) (by simp) rfl ⟨?_,trivial⟩ ?_
   ·simp[go_sem,p2,s0]
   simp[go_sem,hz,p2,p3,p4,p5,p6,s0,s1,s2,s3,s4,s0',s1',s2',s3',s4',s5,s6,s7,s8,s9,s10,s11,s12,s13,s14,s15,s16,s17,s18,s19,s20,s21,s22,s23,s24,s25]
   obtain⟨y,hy⟩:∃y:HtG,HtG.mk a (x.r.aL q) (x.r.aO q) (x.r.aS q) (x.r.aN q)=y:=⟨_,rfl⟩
   have hyr:∀j,j<5→([.i a,.i (x.r.aL q),.b (x.r.aO q),.i (x.r.aS q),.i (x.r.aN q)]:List SV)[0*5+j]?.getD (SV.r .any)=.r (y.f j):=by
    intro j hj
    subst hy
    rcases(by omega:j=0∨j=1∨j=2∨j=3∨j=4) with rfl | rfl | rfl | rfl | rfl <;> rfl
   rw[hy] at hM2
   refine⟨⟨by omega,by omega⟩,by omega,⟨by omega,by omega⟩,vq_done ?_⟩
   rw[LP_normal]
   refine⟨(k+1,lg++[wrX lg x.now 2 a r'.pack o.s],h++[y]),(show L.length - (k+1)<L.length - k by omega),?_,(show k+1≤L.length by omega),(show nx2<nx3+1+1+1 by omega),?_,?_,⟨λi j=>SV.kill nx2 (joined h.length 1 G2 (λi j=>[SV.i a,.i (x.r.aL q),.b (x.r.aO q),.i (x.r.aS q),.i (x.r.aN q)][i*5+j]?.getD (SV.r .any)) i j),?_,?_⟩,wrX_snoc hlg h60 (by decide) (by omega) r'.pack o.s,?_,?_,hM2⟩
   ·simp[go_sem]
   ·simp[go_sem,s0,s1,s2,s3,s4,s0',s1',s2',s3',s4',s5,s6,s7,s8,s9,s10,s11,s12,s13,s14,s15,s16,s17,s18,s19,s20,s21,s22,s23,s24,s25,SvG.put]
   ·simp[go_sem,p3,s0,s1,s2,s3,s4,s0',s1',s2',s3',s4',s5,s6,s7,s8,s9,s10,s11,s12,s13,s14,s15,s16,s17,s18,s19,s20,s21,s22,s23,s24,s25]
   ·simp[go_sem,s0,s1,s2,s3,s4,s0',s1',s2',s3',s4',s5,s6,s7,s8,s9,s10,s11,s12,s13,s14,s15,s16,s17,s18,s19,s20,s21,s22,s23,s24,s25]
   ·exact snoc_rowsG hG2 λj hj=>hyr j hj
   ·show(lg++[_]).length≤60
    simp;omega
   ·show(h++[y]).length≤k+1
    simp;omega
 have hk':k=L.length:=by omega
 subst hk'
 rw[List.drop_length] at hM
 have hM:R=(({x with lg:=lg}:SvG),⟨0,h.length,h⟩):=hM
 rw[hM]
 simp[go_sem,m0,m1,m2]
 refine vq_step (GSt.freeze nx2 m2) (vq_done ?_)
 rw[LP_exit]
 simp[go_sem,m0,m1,m2]
 refine⟨[0],⟨rfl,trivial⟩,by simp,λN=>⟨?_,?_⟩⟩
 ·simp[go_sem]
  intro i j hi hj
  rw[hG2 i j hi hj]
  rfl
 ·have:¬0=nx2:=by omega
  simp[go_sem,m0,this]
def OrG.bS (o:OrG):Bool:=!decide (o.s.toNat=0)
def OrG.bI (o:OrG):Bool:=!(decide (o.x.c.toNat=0)&&decide (o.x.m.toNat=0))
def OrG.bQ (o:OrG):Bool:=!decide (o.q.p=0)||!decide (o.q.r=0)||!decide (o.q.l=0)||decide (0<o.q.nk)
def OrG.bR (o:OrG):Bool:=!(decide (o.rl.p=0)&&(decide (o.rl.r=0)&&(decide (o.rl.l=0)&&(decide (o.rl.f=0)&&(decide (o.rl.t=0)&&(decide (o.rl.k=0)&&(decide (o.rl.s=0)&&decide (o.rl.b=0))))))))
def OrG.bW (o:OrG):Bool:=!(decide (o.w.l=0)&&(decide (o.w.p=0)&&(decide (o.w.f=0)&&decide (o.w.t=0))))
def OrG.bC (o:OrG):Bool:=!(decide (o.c.p=0)&&(decide (o.c.q=0)&&decide (o.c.u=0)))
def OrG.bM (o:OrG):Bool:=!(decide (o.m.l=0)&&(decide (o.m.p=0)&&(decide (o.m.s=0)&&(decide (o.m.u=0)&&decide (o.m.n=0)))))
def ordZ (o:OrG) (n a b:Int) (f s i q r w c m:Bool):Bool:=decide (n=0∧a=0∧b=0∧f=false∧s=false∧i=false∧q=false∧r=false∧w=false∧c=false∧m=false∧o.q.w=0∧o.q.t=0)
def ordB (o:OrG):Bool:=
 if o.k=1 then ordZ o 0 o.a o.b o.f o.bS o.bI o.bQ o.bR o.bW o.bC o.bM else
 if o.k=2 then ordZ o 0 o.a o.b o.f o.bS false o.bQ o.bR o.bW o.bC o.bM else
 if o.k=3 then ordZ o 0 0 0 false o.bS o.bI o.bQ o.bR o.bW o.bC o.bM else
 if o.k=4 then ordZ o o.n 0 0 o.f o.bS o.bI o.bQ o.bR o.bW o.bC o.bM else
 if o.k=5 then ordZ o o.n 0 o.b o.f o.bS o.bI o.bQ o.bR o.bW o.bC o.bM else
 if o.k=6 then ordZ o o.n o.a o.b o.f o.bS o.bI o.bQ false o.bW o.bC o.bM else
 if o.k=7 then ordZ o o.n o.a o.b o.f o.bS o.bI o.bQ o.bR false o.bC o.bM else
 if o.k=8 then ordZ o o.n o.a o.b o.f o.bS o.bI o.bQ o.bR o.bW false o.bM else
 if o.k=9 then ordZ o o.n o.a o.b o.f o.bS o.bI o.bQ o.bR o.bW o.bC false else
 if o.k=10 then ordZ o o.n 0 o.b false o.bS o.bI o.bQ o.bR o.bW o.bC o.bM else
 if o.k=11 then ordZ o 0 o.a o.b o.f o.bS o.bI o.bQ o.bR o.bW o.bC o.bM else
 if o.k=12 then ordZ o o.n 0 o.b o.f false false o.bQ o.bR o.bW o.bC o.bM else
 if o.k=13 then ordZ o o.n o.a o.b o.f false false false o.bR o.bW o.bC o.bM else
 if o.k=14 then ordZ o 0 0 o.b o.f false false o.bQ o.bR o.bW o.bC o.bM else
 false
def ordE (o:OrG):Int:=if ordB o then 0 else 2
theorem checkOrder34 (o:OrG) (hq:(o.q.nk:Int)<2 ^ 61):Pure Tryz.prog 34 [o.sv] (· =.i (ordE o)):=by
 refine pure_of_GC T_ok Tryz.func34 rfl (by kernel_rfl) (nb rfl) rfl rfl ?_
 simp[go_sem]
 refine GDraw_all T_ok (by kernel_rfl) (by kernel_rfl) ?_
 simp[go_sem]
 refine GDraw_cut (S:=[(1,.ptr 0 0 34 0),(2,.i 0),(3,.ptr 1 0 3 0),(4,.b o.f),(5,.b o.bS),(6,.b o.bI),(7,.b o.bQ)]) (φ:=λM nx=>2≤nx∧M 0=some (.box o.cells)∧M 1=some (.box [.i o.n,.i o.a,.i o.b])) ?_ ?_
 ·refine GDraw_all T_ok (by kernel_rfl) (by kernel_rfl) ?_
  have e1:o.bS=!decide (o.s.toNat=0):=rfl
  have e2:o.bI=!(decide (o.x.c.toNat=0)&&decide (o.x.m.toNat=0)):=rfl
  by_cases c1:o.q.p=0
  rotate_left
  ·have e:o.bQ=true:=by simp[OrG.bQ,c1]
   simp[go_sem,c1,e,e1,e2]
  by_cases c2:o.q.r=0
  rotate_left
  ·have e:o.bQ=true:=by simp[OrG.bQ,c2]
   simp[go_sem,c1,c2,e,e1,e2]
  by_cases c3:o.q.l=0
  rotate_left
  ·have e:o.bQ=true:=by simp[OrG.bQ,c3]
   simp[go_sem,c1,c2,c3,e,e1,e2]
  have e:o.bQ=decide (0<o.q.nk):=by simp[OrG.bQ,c1,c2,c3]
  simp[go_sem,c1,c2,c3,e,e1,e2]
 intro J M nx ⟨h0,h1,h2⟩
 simp[go_sem,h1,h2]
 refine GDraw_cut (S:=[(1,.ptr 0 0 34 0),(2,.i 0),(3,.ptr 1 0 3 0),(4,.b o.f),(5,.b o.bS),(6,.b o.bI),(7,.b o.bQ),(8,.b o.bR),(9,.b o.bW),(10,.b o.bC),(11,.b o.bM)]) (φ:=λM nx=>2≤nx∧M 0=some (.box o.cells)∧M 1=some (.box [.i o.n,.i o.a,.i o.b])) ?_ ?_
 ·refine GDraw_all T_ok (by kernel_rfl) (by kernel_rfl) ?_
  simp[go_sem,h1,h2]
  exact⟨by omega,⟨by simp[OrG.bR,Bool.not_and],by simp[OrG.bW,Bool.not_and],by simp[OrG.bC,Bool.not_and],by simp[OrG.bM,Bool.not_and]⟩,h0⟩
 intro J M nx ⟨h0,h1,h2⟩
 rw[GK_code,GC_seq]
 generalize hB:([It.code _]:List It)=kk
 have key:∀(E:Env) (M:Mem) (nx:Nat) (f s i q r w c m:Bool) (n a b:Int),E 1=.ptr 0 0 34 0→E 3=.ptr 1 0 3 0→E 4=.b f→E 5=.b s→E 6=.b i→E 7=.b q→E 8=.b r→E 9=.b w→E 10=.b c→E 11=.b m→
  M 0=some (.box o.cells)→M 1=some (.box [.i n,.i a,.i b])→ordE o=(if ordZ o n a b f s i q r w c m then 0 else 2)→GK Tryz.prog T ⟨145,0,noGood⟩ kk (gret T [ResultVar.tmp 2] λs M=>gview M s λx=>x=.i (ordE o)) .normal E M nx:=by
  subst hB
  intro E M nx f s i q r w c m n a b e1 e3 e4 e5 e6 e7 e8 e9 e10 e11 m0 m1 he
  rw[he]
  by_cases hz:(n=0∧a=0∧b=0∧f=false∧s=false∧i=false∧q=false∧r=false∧w=false∧c=false∧m=false∧o.q.w=0∧o.q.t=0)
  ·have hZ:ordZ o n a b f s i q r w c m=true:=decide_eq_true hz
   rw[hZ]
   obtain⟨rfl,rfl,rfl,rfl,rfl,rfl,rfl,rfl,rfl,rfl,rfl,z1,z2⟩:=hz
   simp[go_sem,e1,e3,e4,e5,e6,e7,e8,e9,e10,e11,m0,m1,z1,z2]
  ·have hZ:ordZ o n a b f s i q r w c m=false:=decide_eq_false hz
   rw[hZ]
   simp[go_sem,e1,e3,e4,e5,e6,e7,e8,e9,e10,e11,m0,m1]
   exact λa1 a2 a3 a4 a5 a6 a7 a8 a9 a10 a11 a12 a13=>hz ⟨a1,a2,a3,a4,a5,a6,a7,a8,a9,a10,a11,a12,a13⟩
 by_cases k1:o.k=1
 ·have he:ordE o=if ordZ o 0 o.a o.b o.f o.bS o.bI o.bQ o.bR o.bW o.bC o.bM then 0 else 2:=by simp[ordE,ordB,k1]
  simp[go_sem,h1,h2,k1]
  exact key _ _ _ o.f o.bS o.bI o.bQ o.bR o.bW o.bC o.bM 0 o.a o.b (by simp[go_sem]) (by simp[go_sem]) (by simp[go_sem]) (by simp[go_sem]) (by simp[go_sem]) (by simp[go_sem]) (by simp[go_sem]) (by simp[go_sem]) (by simp[go_sem]) (by simp[go_sem]) (by simp[go_sem,h1]) (by simp[go_sem,h2]) he
 by_cases k2:o.k=2
 ·have he:ordE o=if ordZ o 0 o.a o.b o.f o.bS false o.bQ o.bR o.bW o.bC o.bM then 0 else 2:=by simp[ordE,ordB,k2]
  simp[go_sem,h1,h2,k2]
  exact key _ _ _ o.f o.bS false o.bQ o.bR o.bW o.bC o.bM 0 o.a o.b (by simp[go_sem]) (by simp[go_sem]) (by simp[go_sem]) (by simp[go_sem]) (by simp[go_sem]) (by simp[go_sem]) (by simp[go_sem]) (by simp[go_sem]) (by simp[go_sem]) (by simp[go_sem]) (by simp[go_sem,h1]) (by simp[go_sem,h2]) he
 by_cases k3:o.k=3
 ·have he:ordE o=if ordZ o 0 0 0 false o.bS o.bI o.bQ o.bR o.bW o.bC o.bM then 0 else 2:=by simp[ordE,ordB,k3]
  simp[go_sem,h1,h2,k3]
  exact key _ _ _ false o.bS o.bI o.bQ o.bR o.bW o.bC o.bM 0 0 0 (by simp[go_sem]) (by simp[go_sem]) (by simp[go_sem]) (by simp[go_sem]) (by simp[go_sem]) (by simp[go_sem]) (by simp[go_sem]) (by simp[go_sem]) (by simp[go_sem]) (by simp[go_sem]) (by simp[go_sem,h1]) (by simp[go_sem,h2]) he
 by_cases k4:o.k=4
 ·have he:ordE o=if ordZ o o.n 0 0 o.f o.bS o.bI o.bQ o.bR o.bW o.bC o.bM then 0 else 2:=by simp[ordE,ordB,k4]
  simp[go_sem,h1,h2,k4]
  exact key _ _ _ o.f o.bS o.bI o.bQ o.bR o.bW o.bC o.bM o.n 0 0 (by simp[go_sem]) (by simp[go_sem]) (by simp[go_sem]) (by simp[go_sem]) (by simp[go_sem]) (by simp[go_sem]) (by simp[go_sem]) (by simp[go_sem]) (by simp[go_sem]) (by simp[go_sem]) (by simp[go_sem,h1]) (by simp[go_sem,h2]) he
 by_cases k5:o.k=5
 ·have he:ordE o=if ordZ o o.n 0 o.b o.f o.bS o.bI o.bQ o.bR o.bW o.bC o.bM then 0 else 2:=by simp[ordE,ordB,k5]
  simp[go_sem,h1,h2,k5]
  exact key _ _ _ o.f o.bS o.bI o.bQ o.bR o.bW o.bC o.bM o.n 0 o.b (by simp[go_sem]) (by simp[go_sem]) (by simp[go_sem]) (by simp[go_sem]) (by simp[go_sem]) (by simp[go_sem]) (by simp[go_sem]) (by simp[go_sem]) (by simp[go_sem]) (by simp[go_sem]) (by simp[go_sem,h1]) (by simp[go_sem,h2]) he
 by_cases k6:o.k=6
 ·have he:ordE o=if ordZ o o.n o.a o.b o.f o.bS o.bI o.bQ false o.bW o.bC o.bM then 0 else 2:=by simp[ordE,ordB,k6]
  simp[go_sem,h1,h2,k6]
  exact key _ _ _ o.f o.bS o.bI o.bQ false o.bW o.bC o.bM o.n o.a o.b (by simp[go_sem]) (by simp[go_sem]) (by simp[go_sem]) (by simp[go_sem]) (by simp[go_sem]) (by simp[go_sem]) (by simp[go_sem]) (by simp[go_sem]) (by simp[go_sem]) (by simp[go_sem]) (by simp[go_sem,h1]) (by simp[go_sem,h2]) he
 by_cases k7:o.k=7
 ·have he:ordE o=if ordZ o o.n o.a o.b o.f o.bS o.bI o.bQ o.bR false o.bC o.bM then 0 else 2:=by simp[ordE,ordB,k7]
  simp[go_sem,h1,h2,k7]
  exact key _ _ _ o.f o.bS o.bI o.bQ o.bR false o.bC o.bM o.n o.a o.b (by simp[go_sem]) (by simp[go_sem]) (by simp[go_sem]) (by simp[go_sem]) (by simp[go_sem]) (by simp[go_sem]) (by simp[go_sem]) (by simp[go_sem]) (by simp[go_sem]) (by simp[go_sem]) (by simp[go_sem,h1]) (by simp[go_sem,h2]) he
 by_cases k8:o.k=8
 ·have he:ordE o=if ordZ o o.n o.a o.b o.f o.bS o.bI o.bQ o.bR o.bW false o.bM then 0 else 2:=by simp[ordE,ordB,k8]
  simp[go_sem,h1,h2,k8]
  exact key _ _ _ o.f o.bS o.bI o.bQ o.bR o.bW false o.bM o.n o.a o.b (by simp[go_sem]) (by simp[go_sem]) (by simp[go_sem]) (by simp[go_sem]) (by simp[go_sem]) (by simp[go_sem]) (by simp[go_sem]) (by simp[go_sem]) (by simp[go_sem]) (by simp[go_sem]) (by simp[go_sem,h1]) (by simp[go_sem,h2]) he
 by_cases k9:o.k=9
 ·have he:ordE o=if ordZ o o.n o.a o.b o.f o.bS o.bI o.bQ o.bR o.bW o.bC false then 0 else 2:=by simp[ordE,ordB,k9]
  simp[go_sem,h1,h2,k9]
  exact key _ _ _ o.f o.bS o.bI o.bQ o.bR o.bW o.bC false o.n o.a o.b (by simp[go_sem]) (by simp[go_sem]) (by simp[go_sem]) (by simp[go_sem]) (by simp[go_sem]) (by simp[go_sem]) (by simp[go_sem]) (by simp[go_sem]) (by simp[go_sem]) (by simp[go_sem]) (by simp[go_sem,h1]) (by simp[go_sem,h2]) he
 by_cases k10:o.k=10
 ·have he:ordE o=if ordZ o o.n 0 o.b false o.bS o.bI o.bQ o.bR o.bW o.bC o.bM then 0 else 2:=by simp[ordE,ordB,k10]
  simp[go_sem,h1,h2,k10]
  exact key _ _ _ false o.bS o.bI o.bQ o.bR o.bW o.bC o.bM o.n 0 o.b (by simp[go_sem]) (by simp[go_sem]) (by simp[go_sem]) (by simp[go_sem]) (by simp[go_sem]) (by simp[go_sem]) (by simp[go_sem]) (by simp[go_sem]) (by simp[go_sem]) (by simp[go_sem]) (by simp[go_sem,h1]) (by simp[go_sem,h2]) he
 by_cases k11:o.k=11
 ·have he:ordE o=if ordZ o 0 o.a o.b o.f o.bS o.bI o.bQ o.bR o.bW o.bC o.bM then 0 else 2:=by simp[ordE,ordB,k11]
  simp[go_sem,h1,h2,k11]
  exact key _ _ _ o.f o.bS o.bI o.bQ o.bR o.bW o.bC o.bM 0 o.a o.b (by simp[go_sem]) (by simp[go_sem]) (by simp[go_sem]) (by simp[go_sem]) (by simp[go_sem]) (by simp[go_sem]) (by simp[go_sem]) (by simp[go_sem]) (by simp[go_sem]) (by simp[go_sem]) (by simp[go_sem,h1]) (by simp[go_sem,h2]) he
 by_cases k12:o.k=12
 ·have he:ordE o=if ordZ o o.n 0 o.b o.f false false o.bQ o.bR o.bW o.bC o.bM then 0 else 2:=by simp[ordE,ordB,k12]
  simp[go_sem,h1,h2,k12]
  exact key _ _ _ o.f false false o.bQ o.bR o.bW o.bC o.bM o.n 0 o.b (by simp[go_sem]) (by simp[go_sem]) (by simp[go_sem]) (by simp[go_sem]) (by simp[go_sem]) (by simp[go_sem]) (by simp[go_sem]) (by simp[go_sem]) (by simp[go_sem]) (by simp[go_sem]) (by simp[go_sem,h1]) (by simp[go_sem,h2]) he
 by_cases k13:o.k=13
 ·have he:ordE o=if ordZ o o.n o.a o.b o.f false false false o.bR o.bW o.bC o.bM then 0 else 2:=by simp[ordE,ordB,k13]
  simp[go_sem,h1,h2,k13]
  exact key _ _ _ o.f false false false o.bR o.bW o.bC o.bM o.n o.a o.b (by simp[go_sem]) (by simp[go_sem]) (by simp[go_sem]) (by simp[go_sem]) (by simp[go_sem]) (by simp[go_sem]) (by simp[go_sem]) (by simp[go_sem]) (by simp[go_sem]) (by simp[go_sem]) (by simp[go_sem,h1]) (by simp[go_sem,h2]) he
 by_cases k14:o.k=14
 ·have he:ordE o=if ordZ o 0 0 o.b o.f false false o.bQ o.bR o.bW o.bC o.bM then 0 else 2:=by simp[ordE,ordB,k14]
  simp[go_sem,h1,h2,k14]
  exact key _ _ _ o.f false false o.bQ o.bR o.bW o.bC o.bM 0 0 o.b (by simp[go_sem]) (by simp[go_sem]) (by simp[go_sem]) (by simp[go_sem]) (by simp[go_sem]) (by simp[go_sem]) (by simp[go_sem]) (by simp[go_sem]) (by simp[go_sem]) (by simp[go_sem]) (by simp[go_sem,h1]) (by simp[go_sem,h2]) he
 subst hB
 have he:ordE o=2:=by simp[ordE,ordB,k1,k2,k3,k4,k5,k6,k7,k8,k9,k10,k11,k12,k13,k14]
 simp[go_sem,h1,h2,k1,k2,k3,k4,k5,k6,k7,k8,k9,k10,k11,k12,k13,k14,he]
end Go.Gx.Sr
