/-
 Texts of the walk, merged: Vq Vr Vs Vt Vu Fd Fe Ff Hj Vx Vy Wa Kw Ky.
-/
import Derived.Test.YtncccnmmjfapnaaGreatZan
import Derived.Test.YtncccnmmjfapnaaGreatZal
import Derived.Test.YtncccnmmjfapnaaGreatZae
import Derived.Test.YtncccnmmjfapnaaGreatZam
import Derived.Test.YtncccnmmjfapnaaGreatZai
set_option linter.unusedVariables false
set_option linter.unusedSimpArgs false
set_option maxRecDepth 100000
set_option maxHeartbeats 4000000
namespace Go.Gx
open Go.RowKit
section
variable {P:Program} {T:Tab} {N:cZ} {k:List It} {Q:GQ} {E:Env} {M:Mem} {nx:Nat} {e:Exit}
theorem qY (S:List (Nat × SV)) (φ:Mem->Nat->Prop) {id:Nat} {all:Array Oper} (h:iF P T N id all [] (vq N (JP S φ)) E M nx) (hk:∀J M nx,φ M nx->GK P T N k Q .normal (iP J S) M nx):iF P T N id all k Q E M nx:=
 jJ S φ (GW.vq h) hk
theorem GSt.wkBox (p:Nat) {l l':List SV} (hM:M p=some (.box l)) (h:SV.subL l l'):GSt N E M nx E (bH M p (some (.box l'))) nx:=
 GSt.wk λr=>by
  by_cases e:r=p
  ·subst e;rw[hM];simp only [bH,if_pos];exact .inl h
  ·simp only [bH,if_neg e]
   cases M r with
   | none=>exact .inl trivial
   | some R=>exact .inl (Reg.sub_rfl _)
end
end Go.Gx
namespace Go.Gx.Sr
open Go.RowKit Go.Proofs Go.Proofs.YtncccnmmjfapnaaGreat Go.Gx.Ix
abbrev mT (r:SvG × AnG):SV:=.tup [.i r.2.n,hts r.2.h,.i r.2.e]
abbrev Does (f:FuncId) (M:SvG->OrG->SvG × AnG) (x:SvG) (o:OrG):Prop:=OwnS Tryz.prog 1 f [.box x.cells] [.ptr 0 0 17 0,o.sv] (mT (M x o)) [.box (M x o).1.cells]
theorem SvG.valid_iff {x:SvG}:x.valid=true↔x.setB=true/\x.prtB=true/\x.peoB=true/\x.timB=true:=by
 unfold SvG.valid;simp only [Bool.and_eq_true];exact⟨λ⟨a,⟨b,c⟩,d⟩=>⟨a,b,c,d⟩,λ⟨a,b,c,d⟩=>⟨a,⟨b,c⟩,d⟩⟩
theorem SvG.now_in {x:SvG} (h:x.valid=true):0<=x.now/\x.now<=maxT:=by
 have:=(SvG.valid_iff.1 h).2.1;simp only [SvG.prtB,Bool.and_eq_true] at this;have:=this.2.1.1;simpa [Ix.btw] using this
theorem aMq (x:SvG) (o:OrG) (hv:x.valid=true):Does 241 qW x o:=by
 refine bG aD Tryz.func241 rfl κ ν rfl rfl 1 (Nat.le_refl _) ?_;have hn:=SvG.now_in hv;simp only [maxT] at hn;unfold qW;simp[go_sem];refine aA (oM 1 1000 o.n) rfl rfl ?_;obtain⟨b,hb⟩:∃b,Ix.btw 1 1000 o.n=b:=⟨_,rfl⟩;rw[hb]
 cases b
 ·simp[go_sem,bad];exact⟨[0],⟨rfl,trivial⟩,τ,λN=>⟨ζ,ζ⟩⟩
 have hb':1<=o.n/\o.n<=1000:=by simpa [Ix.btw] using hb
 simp[go_sem];refine aE aD κ κ ?_;simp[go_sem];refine⟨⟨ω,ω⟩,?_⟩;by_cases hc:1099511627776 - o.n<x.now
 ·simp[go_sem,hc,bad];exact⟨[0],⟨rfl,trivial⟩,τ,λN=>⟨ζ,ζ⟩⟩
 simp[go_sem,hc,nW];refine bE aD κ 7 κ rfl rfl ?_;simp[go_sem];refine⟨⟨ω,ω⟩,?_⟩;refine⟨[0],⟨rfl,trivial⟩,τ,λN=>⟨ζ,ζ⟩⟩
theorem aMr (x:SvG) (o:OrG) (hx:x.OK):Does 243 pL x o:=by
 refine bG aD Tryz.func243 rfl κ ν rfl rfl 1 (Nat.le_refl _) ?_;unfold pL;have hc:=aX1 hx.g o.n o.a o.b o.f;obtain⟨e,he⟩:∃e,x.g.voteE o.n o.a o.b o.f=e:=⟨_,rfl⟩;obtain⟨y,hy⟩:∃y,x.g.voteX o.n o.a o.b o.f=y:=⟨_,rfl⟩;obtain⟨d,hd⟩:∃d,x.g.voteB o.n o.a o.b o.f=d:=⟨_,rfl⟩;rw[he,hy,hd] at hc;rw[he,hy,hd];simp[go_sem];refine fM (S:=[(0,.ptr 0 0 17 0),(3,.ptr 1 0 34 0),(7,.ptr 2 0 3 0),(8,.b d),(9,.i e)]) (l:=[some (.box x.cells),some (.box o.cells),some (.box [y.rr,y.ll,y.cc])]) (n:=3)
  (t:=(.take 0 (.take 1 (.take 2 (.take 3 (.take 4 (.take 5 (.take 6 (.take 7 (.take 8 (.take 9 (.take 10 (.take 11 (.take 12 (.alt 13 [12,11,10,9,8,7,6,5,4,3,2,1,0] (.take 14 (.take 15 (.take 16 (.take 17 (.alt 18 [17,16,15,14,11,9,7,5,3,2,1,0] (.alt 19 [17,16,15,14,11,9,7,5,3,2,1,0] (.take 20 (.take 21 (.done [21,20,17,16]))) .nil) .nil))))) (.alt 18 [12,11,10,9,8,7,6,5,4,3,2,1,0] (.alt 13 [12,11,10,9,8,7,6,5,4,3,2,1,0] (.take 14 (.take 15 (.take 16 (.take 17 (.alt 19 [17,16,15,14,11,9,7,5,3,2,1,0] (.take 20 (.take 21 (.done [21,20,17,16]))) .nil))))) .nil) .nil))))))))))))))))
  aD κ κ κ (λ_ _ _ _ h=>h) rfl ?_ ?_
 ·simp[go_sem];refine⟨aA hc rfl rfl ?_,aA hc rfl rfl ?_⟩
  ·simp[go_sem]
  ·simp[go_sem]
 intro J;simp[go_sem];by_cases he0:e=0
 ·subst he0
  cases d
  ·simp[go_sem,nW];exact⟨[0],⟨rfl,trivial⟩,τ,λN=>⟨ζ,ζ⟩⟩
  ·simp[go_sem,nW];exact⟨[0],⟨rfl,trivial⟩,τ,λN=>⟨ζ,ζ⟩⟩
 ·simp[go_sem,he0,bad];exact⟨[0],⟨rfl,trivial⟩,τ,λN=>⟨ζ,ζ⟩⟩
theorem aVi (x:SvG) (o:OrG) (hx:x.OK):Does 244 wdM x o:=by
 refine bG aD Tryz.func244 rfl κ ν rfl rfl 1 (Nat.le_refl _) ?_;unfold wdM;have hc:=bGw hx.g o.a o.b;obtain⟨e,he⟩:∃e,x.g.wdE o.a o.b=e:=⟨_,rfl⟩;obtain⟨y,hy⟩:∃y,x.g.wdX o.a o.b=y:=⟨_,rfl⟩;rw[he,hy] at hc;rw[he,hy];simp[go_sem];refine fM (S:=[(0,.ptr 0 0 17 0),(3,.ptr 1 0 34 0),(7,.ptr 2 0 3 0),(8,.i e)]) (l:=[some (.box x.cells),some (.box o.cells),some (.box [y.rr,y.ll,y.cc])]) (n:=3)
  (t:=(.take 0 (.take 1 (.take 2 (.take 3 (.take 4 (.take 5 (.take 6 (.take 7 (.take 8 (.alt 9 [8,7,6,5,4,3,2,1,0] (.take 10 (.take 11 (.take 12 (.alt 13 [12,11,10,7,5,3,2,1,0] (.alt 14 [12,11,10,7,5,3,2,1,0] (.take 15 (.done [15,12])) .nil) .nil)))) (.alt 13 [8,7,6,5,4,3,2,1,0] (.alt 9 [8,7,6,5,4,3,2,1,0] (.take 10 (.take 11 (.take 12 (.alt 14 [12,11,10,7,5,3,2,1,0] (.take 15 (.done [15,12])) .nil)))) .nil) .nil))))))))))))
  aD κ κ κ (λ_ _ _ _ h=>h) rfl ?_ ?_
 ·simp[go_sem];refine⟨aA hc rfl rfl ?_,aA hc rfl rfl ?_⟩
  ·simp[go_sem]
  ·simp[go_sem]
 intro J;simp[go_sem];by_cases he0:e=0
 ·subst he0;simp[go_sem,nW];exact⟨[0],⟨rfl,trivial⟩,τ,λN=>⟨ζ,ζ⟩⟩
 ·simp[go_sem,he0,bad];exact⟨[0],⟨rfl,trivial⟩,τ,λN=>⟨ζ,ζ⟩⟩
theorem aCf (x:SvG) (y:Rg.RG) (e:Int):OwnS Tryz.prog 1 338 [.box x.cells] [.ptr 0 0 17 0,y.sv,.i e] (.tup [.i 0,hts [],.i e]) [.box (if e=0 then {x with r:=y} else x).cells]:=by
 refine bG aD Tryz.func338 rfl κ ν rfl rfl 1 (Nat.le_refl _) ?_;simp[go_sem];by_cases he:e=0
 ·subst he;simp[go_sem];exact⟨[0],⟨rfl,trivial⟩,τ,λN=>⟨ζ,ζ⟩⟩
 ·simp[go_sem,he];exact⟨[0],⟨rfl,trivial⟩,τ,λN=>⟨ζ,ζ⟩⟩
theorem aP8 (x:SvG) (o:OrG) (hx:x.OK):Does 248 xJ x o:=by
 refine bG aD Tryz.func248 rfl κ ν rfl rfl 1 (Nat.le_refl _) ?_;unfold xJ;simp[go_sem];refine aG (v:=.b (x.g.th o.c.p)) (by simp[go_sem];exact dN x hx.g.ok _ (x.at_view _) o.c.p) rfl ?_;by_cases ht:x.g.th o.c.p=true;rotate_left
 ·simp[go_sem,ht,bad];exact⟨[0],⟨rfl,trivial⟩,τ,λN=>⟨ζ,ζ⟩⟩
 have hc:=Rg.put43 x.r o.c hx.r;obtain⟨e,he⟩:∃e,x.r.cnE o.c=e:=⟨_,rfl⟩;rw[he] at hc ⊢;obtain⟨y,hy⟩:∃y,(if e=0 then x.r.putC o.c else Rg.RG.nil)=y:=⟨_,rfl⟩;rw[hy] at hc;simp[go_sem,ht];refine aM (t:=(.take 0 (.take 1 (.take 2 (.take 3 (.take 4 (.take 5 (.take 6 (.take 7 (.alt 8 [7,6,5,4,3,2,1,0] (.take 9 (.take 10 (.alt 11 [10,9,6,4,3,2,1,0] (.take 12 (.take 13 (.take 14 (.take 15 (.take 16 (.take 17 (.done [17,16,15,14,13,12,6,4,3,2,1]))))))) .nil))) .nil)))))))))) aD κ κ κ (λ_ _ _ _ h=>h) ?_;simp[go_sem];refine aA hc rfl rfl ?_;simp[go_sem];have hs:=aCf x y e;by_cases he0:e=0
 ·subst he0;rw[if_pos rfl] at hs hy ⊢;refine cC [0] hs (Nat.le_refl _) τ rfl ⟨rfl,trivial⟩ ?_;rw[hy];simp[go_sem,nW];exact⟨[0],⟨rfl,trivial⟩,τ,λN=>⟨ζ,ζ⟩⟩
 ·rw[if_neg he0] at hs ⊢;refine cC [0] hs (Nat.le_refl _) τ rfl ⟨rfl,trivial⟩ ?_;simp[go_sem,bad];exact⟨[0],⟨rfl,trivial⟩,τ,λN=>⟨ζ,ζ⟩⟩
theorem aQa (x:SvG) (o:OrG) (hx:x.OK):Does 249 putM x o:=by
 refine bG aD Tryz.func249 rfl κ ν rfl rfl 1 (Nat.le_refl _) ?_;unfold putM;simp[go_sem];refine aG (v:=.b (x.g.th o.m.p)) (by simp[go_sem];exact dN x hx.g.ok _ (x.at_view _) o.m.p) rfl ?_;by_cases ht:x.g.th o.m.p=true;rotate_left
 ·simp[go_sem,ht,bad];exact⟨[0],⟨rfl,trivial⟩,τ,λN=>⟨ζ,ζ⟩⟩
 have hc:=Rg.put46 x.r o.m hx.r;obtain⟨e,he⟩:∃e,x.r.mkE o.m=e:=⟨_,rfl⟩;rw[he] at hc ⊢;obtain⟨y,hy⟩:∃y,(if e=0 then x.r.putM o.m else Rg.RG.nil)=y:=⟨_,rfl⟩;rw[hy] at hc;simp[go_sem,ht];refine aM (t:=(.take 0 (.take 1 (.take 2 (.take 3 (.take 4 (.take 5 (.take 6 (.take 7 (.alt 8 [7,6,5,4,3,2,1,0] (.take 9 (.take 10 (.alt 11 [10,9,6,4,3,2,1,0] (.take 12 (.take 13 (.take 14 (.take 15 (.take 16 (.take 17 (.done [17,16,15,14,13,12,6,4,3,2,1]))))))) .nil))) .nil)))))))))) aD κ κ κ (λ_ _ _ _ h=>h) ?_;simp[go_sem];refine aA hc rfl rfl ?_;simp[go_sem];have hs:=aCf x y e;by_cases he0:e=0
 ·subst he0;rw[if_pos rfl] at hs hy ⊢;refine cC [0] hs (Nat.le_refl _) τ rfl ⟨rfl,trivial⟩ ?_;rw[hy];simp[go_sem,nW];exact⟨[0],⟨rfl,trivial⟩,τ,λN=>⟨ζ,ζ⟩⟩
 ·rw[if_neg he0] at hs ⊢;refine cC [0] hs (Nat.le_refl _) τ rfl ⟨rfl,trivial⟩ ?_;simp[go_sem,bad];exact⟨[0],⟨rfl,trivial⟩,τ,λN=>⟨ζ,ζ⟩⟩
theorem uM (k:Nat) (get:Nat->Nat->RV):(aP:SV).le (.r (.rs k 0 get)):=λZ w y h=>⟨none,0,h,Nat.le_refl 0,λh=>absurd h (Nat.lt_irrefl 0)⟩
def moE (n:Nat) (good:Bool):Int:=if n=20 then 9 else if good then 0 else 2
theorem aO4 (get:Nat->Nat->RV):Pure Tryz.prog 335 [.r (.rs 8 1 get)] (· =.agg [.r (.rs 8 1 get),aP,aP,aP]):=by
 refine π Tryz.func335 ?_;simp[go_sem]
def kK (y:Rg.RuleG):Rg.RG:=⟨1,λ_=>y,0,λ_=>⟨0,0,0⟩,0,λ_=>⟨0,0,0,0⟩,0,λ_=>⟨0,0,0,0,0⟩⟩
theorem yY (y:Rg.RuleG):(kK y).valid=y.good:=by
 simp[Rg.RG.valid,Rg.RG.c1,Rg.RG.c2,Rg.RG.c3,Rg.RG.c4,Rg.RG.c5,Rg.RG.c6,kK,List.range_succ]
theorem aPt (y:Rg.RuleG) (hb:y.byte) (get:Nat->Nat->RV) (h:∀j,j<8->get 0 j=y.c j):Pure Tryz.prog 121 [.agg [.r (.rs 8 1 get),aP,aP,aP]] (· =.i (if y.good then 0 else 8)):=by
 have:=Rg.check28 (kK y) ⟨by simp[kK],by simp[kK],by simp[kK],by simp[kK],λi hi=>hb⟩;rw[yY] at this;refine this.args ⟨Go.Gx.le_agg ?_,trivial⟩;refine⟨?_,?_,?_,?_,trivial⟩
 ·refine vF λi j hi hj=>?_;obtain rfl:i=0:=ω;exact h j hj
 ·exact uM _ _
 ·exact uM _ _
 ·exact uM _ _
theorem tF (y:Rg.RuleG) (j:Nat) (hj:j<8):([.i y.p,.i y.r,.i y.l,.i y.f,.i y.t,.i y.k,.i y.s,.r (.v (.int .u8 y.b))]:List SV)[0*8+j]?.getD (SV.r .any)=.r (y.c j):=by
 rcases(ω:j=0\/j=1\/j=2\/j=3\/j=4\/j=5\/j=6\/j=7) with rfl | rfl | rfl | rfl | rfl | rfl | rfl | rfl <;> rfl
theorem RuleG.rows (n:Nat) (r:Nat->Rg.RuleG) (y:Rg.RuleG) (M:Mem) (d q:Nat) (new:Nat->Nat->SV) (h:∀j,j<8->new 0 j=.r (y.c j)):∀i j,i<n+1->j<8->aU M d (SV.kill q (aJ n 1 (λi j=>SV.r ((r i).c j)) new i j))=((if i<n then r i else y).c j):=by
 intro i j hi hj;unfold aJ;by_cases e:i<n
 ·rw[if_pos e,if_pos e]
  cases d <;> rfl
 ·obtain rfl:i=n:=ω;rw[if_neg e,if_pos ω,if_neg e,Nat.sub_self,h j hj]
  cases d <;> rfl
theorem aWl (n:Nat) (hn:n<1000000) (r:Nat->Rg.RuleG) (y:Rg.RuleG) (hb:y.byte):Pure Tryz.prog 334 [Rg.RuleG.rs n r,y.sv,.i 20,.fn (.func 335) [] []] (· =.tup [Rg.RuleG.rs (if moE n y.good=0 then n+1 else 0) (λi=>if i<n then r i else y),.i (moE n y.good)]):=by
 refine Pure.ofSub ?_;refine π Tryz.func334 ?_;unfold moE;by_cases h0:n=20
 ·subst h0;simp[go_sem]
 have h0':¬(n:Int)=20:=ω;simp[go_sem,h0,h0'];refine aC 1 ξ ?_;simp[go_sem];refine aA (aO4 _) rfl rfl ?_;simp[go_sem];refine aA (aPt y hb _ λj hj=>?_) rfl rfl ?_
 ·rw[tF y j hj];rfl
 cases hg:y.good
 ·simp[go_sem]
 simp[go_sem];refine aM (t:=(.take 0 (.take 2 (.alt 1 [2,0] (.alt 3 [2] (.alt 4 [] (.take 5 (.take 6 (.done [6,5]))) .nil) .nil) (.alt 3 [2,0] (.alt 1 [0] (.alt 4 [] (.take 5 (.take 6 (.done [6,5]))) .nil) .nil) .nil))))) aD κ κ κ (λ_ _ _ _ h=>h) ?_;simp[go_sem];refine⟨?_,?_⟩
 ·refine aF [] (Rg.clone105 n ω _) τ rfl trivial ?_;simp[go_sem];exact⟨⟨ω,ω⟩,RuleG.rows n r y _ _ _ _ λj hj=>tF y j hj⟩
 ·refine aF [] (Rg.clone105 n ω _) τ rfl trivial ?_;simp[go_sem];exact⟨⟨ω,ω⟩,RuleG.rows n r y _ _ _ _ λj hj=>tF y j hj⟩
theorem aO5 (get:Nat->Nat->RV):Pure Tryz.prog 337 [.r (.rs 4 1 get)] (· =.agg [aP,aP,.r (.rs 4 1 get),aP]):=by
 refine π Tryz.func337 ?_;simp[go_sem]
def nB (y:Rg.WarG):Rg.RG:=⟨0,λ_=>⟨0,0,0,0,0,0,0,0⟩,0,λ_=>⟨0,0,0⟩,1,λ_=>y,0,λ_=>⟨0,0,0,0,0⟩⟩
theorem aAt (y:Rg.WarG):(nB y).valid=y.good:=by
 simp[Rg.RG.valid,Rg.RG.c1,Rg.RG.c2,Rg.RG.c3,Rg.RG.c4,Rg.RG.c5,Rg.RG.c6,nB,List.range_succ]
theorem aU4 (y:Rg.WarG) (get:Nat->Nat->RV) (h:∀j,j<4->get 0 j=y.c j):Pure Tryz.prog 121 [.agg [aP,aP,.r (.rs 4 1 get),aP]] (· =.i (if y.good then 0 else 8)):=by
 have:=Rg.check28 (nB y) ⟨by simp[nB],by simp[nB],by simp[nB],by simp[nB],λi hi=>absurd hi (Nat.not_lt_zero i)⟩;rw[aAt] at this;refine this.args ⟨Go.Gx.le_agg ?_,trivial⟩;refine⟨?_,?_,?_,?_,trivial⟩
 ·exact uM _ _
 ·exact uM _ _
 ·refine vF λi j hi hj=>?_;obtain rfl:i=0:=ω;exact h j hj
 ·exact uM _ _
theorem wT (y:Rg.WarG) (j:Nat) (hj:j<4):([.i y.l,.i y.p,.i y.f,.i y.t]:List SV)[0*4+j]?.getD (SV.r .any)=.r (y.c j):=by
 rcases(ω:j=0\/j=1\/j=2\/j=3) with rfl | rfl | rfl | rfl <;> rfl
theorem WarG.rows (n:Nat) (r:Nat->Rg.WarG) (y:Rg.WarG) (M:Mem) (d q:Nat) (new:Nat->Nat->SV) (h:∀j,j<4->new 0 j=.r (y.c j)):∀i j,i<n+1->j<4->aU M d (SV.kill q (aJ n 1 (λi j=>SV.r ((r i).c j)) new i j))=((if i<n then r i else y).c j):=by
 intro i j hi hj;unfold aJ;by_cases e:i<n
 ·rw[if_pos e,if_pos e]
  cases d <;> rfl
 ·obtain rfl:i=n:=ω;rw[if_neg e,if_pos ω,if_neg e,Nat.sub_self,h j hj]
  cases d <;> rfl
theorem aWm (n:Nat) (hn:n<1000000) (r:Nat->Rg.WarG) (y:Rg.WarG):Pure Tryz.prog 336 [Rg.WarG.rs n r,y.sv,.i 20,.fn (.func 337) [] []] (· =.tup [Rg.WarG.rs (if moE n y.good=0 then n+1 else 0) (λi=>if i<n then r i else y),.i (moE n y.good)]):=by
 refine Pure.ofSub ?_;refine π Tryz.func336 ?_;unfold moE;by_cases h0:n=20
 ·subst h0;simp[go_sem]
 have h0':¬(n:Int)=20:=ω;simp[go_sem,h0,h0'];refine aC 1 ξ ?_;simp[go_sem];refine aA (aO5 _) rfl rfl ?_;simp[go_sem];refine aA (aU4 y _ λj hj=>?_) rfl rfl ?_
 ·rw[wT y j hj];rfl
 cases hg:y.good
 ·simp[go_sem]
 simp[go_sem];refine aM (t:=(.take 0 (.take 2 (.alt 1 [2,0] (.alt 3 [2] (.alt 4 [] (.take 5 (.take 6 (.done [6,5]))) .nil) .nil) (.alt 3 [2,0] (.alt 1 [0] (.alt 4 [] (.take 5 (.take 6 (.done [6,5]))) .nil) .nil) .nil))))) aD κ κ κ (λ_ _ _ _ h=>h) ?_;simp[go_sem];refine⟨?_,?_⟩
 ·refine aF [] (Rg.clone107 n ω _) τ rfl trivial ?_;simp[go_sem];exact⟨⟨ω,ω⟩,WarG.rows n r y _ _ _ _ λj hj=>wT y j hj⟩
 ·refine aF [] (Rg.clone107 n ω _) τ rfl trivial ?_;simp[go_sem];exact⟨⟨ω,ω⟩,WarG.rows n r y _ _ _ _ λj hj=>wT y j hj⟩
theorem aMp (x:SvG) (o:OrG) (hx:x.OK) (hb:o.rl.byte):Does 246 pG x o:=by
 refine bG aD Tryz.func246 rfl κ ν rfl rfl 1 (Nat.le_refl _) ?_;unfold pG;simp[go_sem];have hc:=aWl x.r.nr hx.rn x.r.r o.rl hb;refine aM (t:=(.take 0 (.take 1 (.take 2 (.take 3 (.take 4 (.take 5 (.take 6 (.take 7 (.alt 8 [7,6,5,4,3,2,1,0] (.take 9 (.take 10 (.take 11 (.take 12 (.take 13 (.done [13,12,11,10,9,6,4,3,2,1,0])))))) .nil)))))))))) aD κ κ κ (λ_ _ _ _ h=>h) ?_;simp[go_sem];refine aA hc rfl rfl ?_;unfold moE;by_cases h0:x.r.nr=20
 ·simp[go_sem,h0,bad];exact⟨[0],⟨rfl,trivial⟩,τ,λN=>⟨ζ,ζ⟩⟩
 cases hg:o.rl.good
 ·simp[go_sem,h0,bad];exact⟨[0],⟨rfl,trivial⟩,τ,λN=>⟨ζ,ζ⟩⟩
 simp[go_sem,h0,nW];exact⟨[0],⟨rfl,trivial⟩,τ,λN=>⟨ζ,by simp[go_sem,Rg.RG.addR]⟩⟩
theorem aQe (x:SvG) (o:OrG) (hx:x.OK):Does 247 aAa x o:=by
 refine bG aD Tryz.func247 rfl κ ν rfl rfl 1 (Nat.le_refl _) ?_;unfold aAa;simp[go_sem];refine aG (v:=.b (x.g.th o.w.p)) (by simp[go_sem];exact dN x hx.g.ok _ (x.at_view _) o.w.p) rfl ?_;by_cases ht:x.g.th o.w.p=true;rotate_left
 ·simp[go_sem,ht,bad];exact⟨[0],⟨rfl,trivial⟩,τ,λN=>⟨ζ,ζ⟩⟩
 simp[go_sem,ht];have hc:=aWm x.r.nw hx.rw' x.r.w o.w;refine aM (t:=(.take 0 (.take 1 (.take 2 (.take 3 (.take 4 (.take 5 (.take 6 (.take 7 (.alt 8 [7,6,5,4,3,2,1,0] (.take 9 (.take 10 (.take 11 (.take 12 (.take 13 (.done [13,12,11,10,9,6,4,3,2,1,0])))))) .nil)))))))))) aD κ κ κ (λ_ _ _ _ h=>h) ?_;simp[go_sem];refine aA hc rfl rfl ?_;unfold moE;by_cases h0:x.r.nw=20
 ·simp[go_sem,h0,bad];exact⟨[0],⟨rfl,trivial⟩,τ,λN=>⟨ζ,ζ⟩⟩
 cases hg:o.w.good
 ·simp[go_sem,h0,bad];exact⟨[0],⟨rfl,trivial⟩,τ,λN=>⟨ζ,ζ⟩⟩
 simp[go_sem,h0,nW];exact⟨[0],⟨rfl,trivial⟩,τ,λN=>⟨ζ,by simp[go_sem,Rg.RG.addW]⟩⟩
theorem fR {α:Type} {f:α->Nat->RV} {l:List α} {x:α} {k q:Nat} {new:Nat->Nat->SV} (h:∀j,j<k->new 0 j=.r (f x j)) :
 ∀i j,i<l.length+1->j<k->(SV.kill q (aJ l.length 1 (λi j=>SV.r (aY f l i j)) new i j)).toRV=aY f (l++[x]) i j:=by
 intro i j hi hj;unfold aJ;by_cases hiL:i<l.length
 ·rw[if_pos hiL];unfold aY;rw[List.getElem?_append_left hiL];rfl
 ·obtain rfl:i=l.length:=ω;rw[if_neg hiL,if_pos ω,Nat.sub_self,h j hj];unfold aY;rw[List.getElem?_concat_length];rfl
theorem aP7 (x:SvG) (o:OrG) (hx:x.OK):Does 250 aAh x o:=by
 refine bG aD Tryz.func250 rfl κ ν rfl rfl 1 (Nat.le_refl _) ?_;have hn:=hx.ch;unfold aAh;simp[go_sem];refine aG (v:=.b (x.g.th o.a)) (by simp[go_sem];exact dN x hx.g.ok _ (x.at_view _) o.a) rfl ?_;by_cases ht:x.g.th o.a=true;rotate_left
 ·simp[go_sem,ht,bad];exact⟨[0],⟨rfl,trivial⟩,τ,λN=>⟨ζ,ζ⟩⟩
 by_cases h0:x.ch.length=60
 ·have h0':(x.ch.length:Int)=60:=ω;simp[go_sem,ht,h0,h0',bad];exact⟨[0],⟨rfl,trivial⟩,τ,λN=>⟨ζ,ζ⟩⟩
 have h0':¬(x.ch.length:Int)=60:=ω;obtain⟨y,hy⟩:∃y:ChG,ChG.mk x.now o.a o.f=y:=⟨_,rfl⟩;have hrow:∀j,j<3->([.i x.now,.i o.a,.b o.f]:List SV)[0*3+j]?.getD (SV.r .any)=.r (y.f j):=by
  intro j hj;subst hy;rcases(ω:j=0\/j=1\/j=2) with rfl | rfl | rfl <;> rfl
 rw[hy];simp[go_sem,ht,h0,h0',nW];refine qY (S:=[(0,.ptr 0 0 17 0)]) (φ:=λM nx=>M 0=some (.box ({x with ch:=x.ch++[y]}:SvG).cells)) ?_ ?_
 ·refine aM (t:=(.take 0 (.take 1 (.take 2 (.take 3 (.take 4 (.take 5 (.take 7 (.take 8 (.take 9 (.take 10 (.take 11 (.take 12 (.take 13 (.take 14 (.take 15 (.take 16 (.alt 6 [16,15,14,13,12,11,10,9,8,7,5,4,3,2,1,0] (.alt 17 [16,15,14,13,12,11,10,9,8,7,4,3,2,1,0] (.alt 18 [15,14,13,12,11,10,9,8,7,4,3,2,1,0] (.take 19 (.take 20 (.take 21 (.alt 22 [21,20,19,15,14,13,12,11,10,9,8,7,4,3,2,1,0] (.done [20,19]) .nil)))) .nil) .nil) (.alt 17 [16,15,14,13,12,11,10,9,8,7,5,4,3,2,1,0] (.alt 6 [15,14,13,12,11,10,9,8,7,5,4,3,2,1,0] (.alt 18 [15,14,13,12,11,10,9,8,7,4,3,2,1,0] (.take 19 (.take 20 (.take 21 (.alt 22 [21,20,19,15,14,13,12,11,10,9,8,7,4,3,2,1,0] (.done [20,19]) .nil)))) .nil) .nil) .nil))))))))))))))))))) aD κ κ κ (λ_ _ _ _ h=>h.elim λ_ h=>h.elim λ_ h=>h.elim λ_ h=>h.2) ?_;simp[go_sem];refine⟨?_,?_⟩
  ·refine aF [] (sH x.ch.length ω _) τ rfl trivial ?_;simp[go_sem];refine⟨⟨ω,ω⟩,aV (GSt.freeze 2 ξ) (aV (GSt.wkBox 0 (l':=({x with ch:=x.ch++[y]}:SvG).cells) ξ ?_) (aT ζ))⟩;simp[go_sem];exact fR λj hj=>hrow j hj
  ·refine aF [] (sH x.ch.length ω _) τ rfl trivial ?_;simp[go_sem];refine⟨⟨ω,ω⟩,aV (GSt.freeze 3 ξ) (aV (GSt.wkBox 0 (l':=({x with ch:=x.ch++[y]}:SvG).cells) ξ ?_) (aT ζ))⟩;simp[go_sem];exact fR λj hj=>hrow j hj
 intro J M nx h0;simp[go_sem];exact⟨[0],⟨rfl,trivial⟩,τ,λN=>⟨ζ,by simp[go_sem,h0]⟩⟩
theorem aHt (x:SvG) (o:OrG) (hx:x.OK):Does 242 jZ x o:=by
 refine bG aD Tryz.func242 rfl κ ν rfl rfl 1 (Nat.le_refl _) ?_;have hn:=hx.ir;unfold jZ;simp[go_sem];refine aA (mJ o.x.c o.x.m) rfl rfl ?_;have e0:o.x.ok=vI o.x.c o.x.m:=rfl;rw[e0]
 cases hv:vI o.x.c o.x.m
 ·simp[go_sem,bad];exact⟨[0],⟨rfl,trivial⟩,τ,λN=>⟨ζ,ζ⟩⟩
 have hc:=aZj hx.g o.n;obtain⟨e,he⟩:∃e,x.g.addE o.n=e:=⟨_,rfl⟩;obtain⟨y,hy⟩:∃y,x.g.addX o.n=y:=⟨_,rfl⟩;obtain⟨d,hd⟩:∃d,x.g.addN o.n=d:=⟨_,rfl⟩;rw[he,hy,hd] at hc;rw[he,hy,hd];simp[go_sem];refine fM (S:=[(0,.ptr 0 0 17 0),(3,.ptr 1 0 34 0),(8,.ptr 2 0 3 0),(9,.i d),(10,.i e)]) (l:=[some (.box x.cells),some (.box o.cells),some (.box [y.rr,y.ll,y.cc])]) (n:=3)
  (t:=(.take 0 (.take 1 (.take 2 (.take 3 (.take 4 (.take 5 (.take 6 (.alt 7 [6,5,4,3,2,1,0] (.take 8 (.take 9 (.take 10 (.take 11 (.alt 12 [11,10,9,8,5,3,2,1,0] (.alt 13 [11,10,9,8,5,3,2,1,0] (.take 14 (.take 15 (.done [15,14,11,10]))) .nil) .nil))))) (.alt 12 [6,5,4,3,2,1,0] (.alt 7 [6,5,4,3,2,1,0] (.take 8 (.take 9 (.take 10 (.take 11 (.alt 13 [11,10,9,8,5,3,2,1,0] (.take 14 (.take 15 (.done [15,14,11,10]))) .nil))))) .nil) .nil)))))))))) aD κ κ κ (λ_ _ _ _ h=>h) rfl ?_ ?_
 ·simp[go_sem];refine⟨aA hc rfl rfl ?_,aA hc rfl rfl ?_⟩
  ·simp[go_sem]
  ·simp[go_sem]
 intro J;simp[go_sem];by_cases he0:e=0;rotate_left
 ·simp[go_sem,he0,bad];exact⟨[0],⟨rfl,trivial⟩,τ,λN=>⟨ζ,ζ⟩⟩
 subst he0;have hrow:∀j,j<2->([.w o.x.c,.w o.x.m]:List SV)[0*2+j]?.getD (SV.r .any)=.r (o.x.f j):=by
  intro j hj;rcases(ω:j=0\/j=1) with rfl | rfl <;> rfl
 simp[go_sem,nW];refine qY (S:=[(0,.ptr 0 0 17 0),(9,.i d)]) (φ:=λM nx=>M 0=some (.box ({x with g:=y,ir:=x.ir++[o.x]}:SvG).cells)) ?_ ?_
 ·refine aM (t:=(.take 0 (.take 1 (.take 2 (.take 3 (.take 4 (.take 5 (.take 6 (.take 7 (.take 9 (.take 10 (.alt 8 [10,9,7,6,5,4,3,2,1,0] (.alt 11 [10,9,6,5,4,3,2,1,0] (.alt 12 [9,6,5,4,3,2,1,0] (.take 13 (.take 14 (.take 15 (.alt 16 [15,14,13,9,6,5,4,3,2,1,0] (.take 17 (.take 18 (.take 19 (.alt 20 [19,18,17,14,13,9,6,5,4,3,1] (.done [18,17]) .nil)))) .nil)))) .nil) .nil) (.alt 11 [10,9,7,6,5,4,3,2,1,0] (.alt 8 [9,7,6,5,4,3,2,1,0] (.alt 12 [9,6,5,4,3,2,1,0] (.take 13 (.take 14 (.take 15 (.alt 16 [15,14,13,9,6,5,4,3,2,1,0] (.take 17 (.take 18 (.take 19 (.alt 20 [19,18,17,14,13,9,6,5,4,3,1] (.done [18,17]) .nil)))) .nil)))) .nil) .nil) .nil))))))))))))) aD κ κ κ (λ_ _ _ _ h=>h.elim λ_ h=>h.elim λ_ h=>h.elim λ_ h=>h.2) ?_;simp[go_sem];refine⟨?_,?_⟩
  ·refine aF [] (sG x.ir.length ω _) τ rfl trivial ?_;simp[go_sem];refine⟨⟨ω,ω⟩,aV (GSt.freeze 3 ξ) (aV (GSt.wkBox 0 (l':=({x with g:=y,ir:=x.ir++[o.x]}:SvG).cells) ξ ?_) (aT ζ))⟩;simp[go_sem];exact fR λj hj=>hrow j hj
  ·refine aF [] (sG x.ir.length ω _) τ rfl trivial ?_;simp[go_sem];refine⟨⟨ω,ω⟩,aV (GSt.freeze 4 ξ) (aV (GSt.wkBox 0 (l':=({x with g:=y,ir:=x.ir++[o.x]}:SvG).cells) ξ ?_) (aT ζ))⟩;simp[go_sem];exact fR λj hj=>hrow j hj
 intro J M nx h0;simp[go_sem];exact⟨[0],⟨rfl,trivial⟩,τ,λN=>⟨ζ,by simp[go_sem,h0]⟩⟩
theorem SvG.cop_ok {x:SvG} (h:x.valid=true):vO x.ch x.now x.mage=0:=by
 have h1:=(SvG.valid_iff.1 h).1;have h2:=(SvG.valid_iff.1 h).2.1;simp only [SvG.setB,Bool.and_eq_true] at h1;simp only [SvG.prtB,Bool.and_eq_true] at h2;have e1:fO x.ch=true:=h2.1.1.2;have e2:qC x.now=true:=h2.2.1.1;have e3:qC x.mage=true:=h1.2;have e4:qH x.ch x.now=0:=by unfold qH;rw[if_pos e1,if_pos e2]
 unfold vO;rw[if_pos e4,if_pos e3]
theorem zV {ks L:List KsG} {y:KsG} {n m q q2:Nat} {new:Nat->Nat->SV} (hle:n<=ks.length) (hm:min (n+1) ks.length=m) (hL:ks.take n++y::ks.drop (n+1)=L) (hnew:∀j,j<4->new 0 j=.r (y.f j)) :
 n+(1+(ks.length - m))=L.length/\∀i j,i<n+(1+(ks.length - m))->j<4->(SV.kill q (aJ n (1+(ks.length - m)) (λi j=>SV.r (aY KsG.f ks i j)) (λi j=>SV.kill q2 (aJ 1 (ks.length - m) new (λi j=>SV.r (aY KsG.f ks (m+i) j)) i j)) i j)).toRV=aY KsG.f L i j:=by
 subst hL;have htl:(ks.take n).length=n:=by rw[List.length_take];omega
 refine⟨by simp only [List.length_append,List.length_cons,List.length_drop,htl];omega,λi j hi hj=>?_⟩;by_cases h1:i<n
 ·unfold aJ;rw[if_pos h1];unfold aY;rw[List.getElem?_append_left ω,List.getElem?_take,if_pos h1];rfl
 by_cases h2:i=n
 ·subst h2;have e:(ks.take i++y::ks.drop (i+1))[i]? =some y:=by
   rw[List.getElem?_append_right ω,htl,Nat.sub_self];rfl
  simp only [aJ,Nat.lt_irrefl,if_false,Nat.sub_self];rw[if_pos ω,if_pos ω,hnew j hj];unfold aY;rw[e];rfl
 ·have e:(ks.take n++y::ks.drop (n+1))[i]? =ks[i]?:=by
   rw[List.getElem?_append_right ω,htl,show i - n=(i - n - 1)+1 from ω,List.getElem?_cons_succ,List.getElem?_drop]
   congr 1;omega
  have e2:m+(i - n - 1)=i:=ω;simp only [aJ];rw[if_neg h1,if_pos hi,if_neg ω,if_pos ω,e2];unfold aY;rw[e];rfl
theorem aQc (x:SvG) (o:OrG) (hx:x.OK) (hv:x.valid=true):Does 251 zU x o:=by
 refine bG aD Tryz.func251 rfl κ ν rfl rfl 1 (Nat.le_refl _) ?_;have hn:=hx.ks;have hc:=hx.ch;have hw:=SvG.now_in hv;simp only [maxT] at hw;have hE:=SvG.cop_ok hv;unfold zU;simp[go_sem];refine aE aD κ κ ?_;simp[go_sem];refine⟨_,aB (oM 0 (min (x.ks.length:Int) 3) o.n) rfl rfl,?_⟩;obtain⟨b,hb⟩:∃b,Ix.btw 0 (min (x.ks.length:Int) 3) o.n=b:=⟨_,rfl⟩;rw[hb]
 cases b
 ·simp[go_sem,bad];exact⟨[0],⟨rfl,trivial⟩,τ,λN=>⟨ζ,ζ⟩⟩
 have hb':0<=o.n/\o.n<=min (x.ks.length:Int) 3:=by simpa [Ix.btw] using hb
 by_cases h0:x.now=1099511627776
 ·simp[go_sem,h0,bad];exact⟨[0],⟨rfl,trivial⟩,τ,λN=>⟨ζ,ζ⟩⟩
 obtain⟨n,hn'⟩:∃n:Nat,o.n=n:=⟨o.n.toNat,ω⟩;have hle:n<=x.ks.length:=ω;obtain⟨y,hy⟩:∃y,aHr x.ch x.now x.mage x.key=y:=⟨_,rfl⟩;have hcp:=aVe x.ch hc x.now x.mage x.key;rw[hE,if_pos rfl,hy] at hcp;rw[hy,hn'];simp[go_sem,h0,nW];refine fM (S:=[(0,.ptr 0 0 17 0),(3,.ptr 1 0 34 0),(7,.ptr 2 0 4 0),(8,.i 0)]) (l:=[some (.box x.cells),some (.box o.cells),some (.box [.i y.a,.i y.m,.w y.s,.w y.z])]) (n:=3)
  (t:=(.take 0 (.take 1 (.take 2 (.take 3 (.take 4 (.take 5 (.take 6 (.take 7 (.take 8 (.take 9 (.take 10 (.take 11 (.take 12 (.take 13 (.take 14 (.take 15 (.take 16 (.take 17 (.take 18 (.take 19 (.take 20 (.take 21 (.alt 22 [21,20,19,18,17,16,15,14,13,12,11,10,9,8,7,6,5,4,3,2,1,0] (.take 23 (.take 24 (.take 25 (.alt 26 [25,24,23,20,19,18,17,16,14,13,12,11,10,8,7,6,5,3,2,1,0] (.alt 27 [25,24,23,20,19,18,17,16,14,13,12,11,10,8,7,6,5,3,2,1,0] (.take 28 (.done [28,25])) .nil) .nil)))) (.alt 26 [21,20,19,18,17,16,15,14,13,12,11,10,9,8,7,6,5,4,3,2,1,0] (.alt 22 [21,20,19,18,17,16,15,14,13,12,11,10,9,8,7,6,5,4,3,2,1,0] (.take 23 (.take 24 (.take 25 (.alt 27 [25,24,23,20,19,18,17,16,14,13,12,11,10,8,7,6,5,3,2,1,0] (.take 28 (.done [28,25])) .nil)))) .nil) .nil))))))))))))))))))))))))) aD κ κ κ (λ_ _ _ _ h=>h) rfl ?_ ?_
 ·simp[go_sem];refine⟨aA hcp rfl rfl ?_,aA hcp rfl rfl ?_⟩
  ·simp[go_sem]
  ·simp[go_sem]
 intro J;simp[go_sem];have em:min ((n:Int)+1) (x.ks.length:Int)=((min (n+1) x.ks.length:Nat):Int):=ω;obtain⟨m,hm⟩:∃m,min (n+1) x.ks.length=m:=⟨_,rfl⟩;rw[hm] at em;have hml:m<=x.ks.length:=ω;obtain⟨L,hL⟩:∃L,x.ks.take n++y::x.ks.drop (n+1)=L:=⟨_,rfl⟩;rw[hL];have hrow:∀j,j<4->([.i y.a,.i y.m,.w y.s,.w y.z]:List SV)[0*4+j]?.getD (SV.r .any)=.r (y.f j):=by
  intro j hj;rcases(ω:j=0\/j=1\/j=2\/j=3) with rfl | rfl | rfl | rfl <;> rfl
 refine qY (S:=[(0,.ptr 0 0 17 0)]) (φ:=λM nx=>M 0=some (.box ({x with ks:=L}:SvG).cells)) ?_ ?_
 ·refine aM (t:=(.take 0 (.take 1 (.take 2 (.take 3 (.take 4 (.take 5 (.take 6 (.take 7 (.take 8 (.take 10 (.take 12 (.take 13 (.take 14 (.take 15 (.take 16 (.take 17 (.take 18 (.take 19 (.take 20 (.take 21 (.take 22 (.take 23 (.take 24 (.take 25 (.alt 9 [25,24,23,22,21,20,19,18,17,16,15,14,13,12,10,8,7,6,5,4,3,2,1,0] (.alt 11 [25,24,23,22,21,20,19,18,17,16,15,14,13,12,10,7,6,5,4,3,2,1,0] (.alt 26 [25,24,23,22,21,20,19,18,17,16,15,14,13,12,7,6,5,4,3,2,1,0] (.take 27 (.alt 28 [27,24,23,22,21,20,18,17,16,15,14,13,12,7,6,5,4,3,2,1,0] (.alt 29 [24,23,22,21,20,18,17,16,15,14,13,12,7,6,5,4,3,2,1,0] (.take 30 (.take 31 (.take 32 (.alt 33 [32,31,30,24,23,22,21,20,18,17,16,15,14,13,12,7,6,5,4,3,2,1,0] (.done [31,30]) .nil)))) .nil) .nil)) .nil) (.alt 26 [25,24,23,22,21,20,19,18,17,16,15,14,13,12,10,7,6,5,4,3,2,1,0] (.take 27 (.alt 11 [27,24,23,22,21,20,18,17,16,15,14,13,12,10,7,6,5,4,3,2,1,0] (.alt 28 [27,24,23,22,21,20,18,17,16,15,14,13,12,7,6,5,4,3,2,1,0] (.alt 29 [24,23,22,21,20,18,17,16,15,14,13,12,7,6,5,4,3,2,1,0] (.take 30 (.take 31 (.take 32 (.alt 33 [32,31,30,24,23,22,21,20,18,17,16,15,14,13,12,7,6,5,4,3,2,1,0] (.done [31,30]) .nil)))) .nil) .nil) .nil)) .nil)) (.alt 11 [25,24,23,22,21,20,19,18,17,16,15,14,13,12,10,8,7,6,5,4,3,2,1,0] (.alt 9 [25,24,23,22,21,20,19,18,17,16,15,14,13,12,8,7,6,5,4,3,2,1,0] (.alt 26 [25,24,23,22,21,20,19,18,17,16,15,14,13,12,7,6,5,4,3,2,1,0] (.take 27 (.alt 28 [27,24,23,22,21,20,18,17,16,15,14,13,12,7,6,5,4,3,2,1,0] (.alt 29 [24,23,22,21,20,18,17,16,15,14,13,12,7,6,5,4,3,2,1,0] (.take 30 (.take 31 (.take 32 (.alt 33 [32,31,30,24,23,22,21,20,18,17,16,15,14,13,12,7,6,5,4,3,2,1,0] (.done [31,30]) .nil)))) .nil) .nil)) .nil) (.alt 26 [25,24,23,22,21,20,19,18,17,16,15,14,13,12,8,7,6,5,4,3,2,1,0] (.take 27 (.alt 9 [27,24,23,22,21,20,18,17,16,15,14,13,12,8,7,6,5,4,3,2,1,0] (.alt 28 [27,24,23,22,21,20,18,17,16,15,14,13,12,7,6,5,4,3,2,1,0] (.alt 29 [24,23,22,21,20,18,17,16,15,14,13,12,7,6,5,4,3,2,1,0] (.take 30 (.take 31 (.take 32 (.alt 33 [32,31,30,24,23,22,21,20,18,17,16,15,14,13,12,7,6,5,4,3,2,1,0] (.done [31,30]) .nil)))) .nil) .nil) .nil)) .nil)) (.alt 26 [25,24,23,22,21,20,19,18,17,16,15,14,13,12,10,8,7,6,5,4,3,2,1,0] (.take 27 (.alt 9 [27,24,23,22,21,20,18,17,16,15,14,13,12,10,8,7,6,5,4,3,2,1,0] (.alt 11 [27,24,23,22,21,20,18,17,16,15,14,13,12,10,7,6,5,4,3,2,1,0] (.alt 28 [27,24,23,22,21,20,18,17,16,15,14,13,12,7,6,5,4,3,2,1,0] (.alt 29 [24,23,22,21,20,18,17,16,15,14,13,12,7,6,5,4,3,2,1,0] (.take 30 (.take 31 (.take 32 (.alt 33 [32,31,30,24,23,22,21,20,18,17,16,15,14,13,12,7,6,5,4,3,2,1,0] (.done [31,30]) .nil)))) .nil) .nil) .nil) (.alt 11 [27,24,23,22,21,20,18,17,16,15,14,13,12,10,8,7,6,5,4,3,2,1,0] (.alt 9 [27,24,23,22,21,20,18,17,16,15,14,13,12,8,7,6,5,4,3,2,1,0] (.alt 28 [27,24,23,22,21,20,18,17,16,15,14,13,12,7,6,5,4,3,2,1,0] (.alt 29 [24,23,22,21,20,18,17,16,15,14,13,12,7,6,5,4,3,2,1,0] (.take 30 (.take 31 (.take 32 (.alt 33 [32,31,30,24,23,22,21,20,18,17,16,15,14,13,12,7,6,5,4,3,2,1,0] (.done [31,30]) .nil)))) .nil) .nil) .nil) .nil))) .nil)))))))))))))))))))))))))))) aD κ κ κ (λ_ _ _ _ h=>h.elim λ_ h=>h.elim λ_ h=>h.elim λ_ h=>h.2) ?_;simp[go_sem,hn',em,hle,hml];refine⟨⟨ω,ω⟩,?_⟩
  repeat' apply And.intro
  all_goals first
   | omega
   | (refine aF [] (xE n ω _) τ rfl trivial ?_
      simp[go_sem,hn',em,hle,hml]
      repeat' apply And.intro
      all_goals first
       | omega
       | (refine aV (GSt.freeze 3 ξ) (aV (GSt.wkBox 0 (l':=({x with ks:=L}:SvG).cells) ξ ?_) (aT ζ));simp[go_sem];exact zV hle hm hL hrow)
       | (refine aV (GSt.freeze 4 ξ) (aV (GSt.wkBox 0 (l':=({x with ks:=L}:SvG).cells) ξ ?_) (aT ζ));simp[go_sem];exact zV hle hm hL hrow)
       | (refine aV (GSt.freeze 5 ξ) (aV (GSt.wkBox 0 (l':=({x with ks:=L}:SvG).cells) ξ ?_) (aT ζ));simp[go_sem];exact zV hle hm hL hrow))
 intro J M nx h0;simp[go_sem,h0];exact⟨⟨ω,ω⟩,[0],⟨rfl,trivial⟩,τ,λN=>⟨ζ,ζ⟩⟩
theorem aF8 {l:List EnG} {e:EnG} {j:Nat} (hj:j<=l.length):vT (l++[e]) j=vT l j:=by
 unfold vT;split
 ·rfl
 ·rw[List.getElem?_append_left ω]
theorem aIe (l:List EnG) (e:EnG):iK (l++[e])=e:=by
 unfold iK vT;rw[if_neg τ];simp
theorem aOk (d s:W64):bY (bY (bY d s) d) s=0#64:=by
 unfold bY;rw[BitVec.xor_comm d s,BitVec.xor_assoc s d d,BitVec.xor_self,BitVec.xor_zero,BitVec.xor_self]
structure wZ (l:List EnG) (now:Int):Prop where
 ok:hJ l=true
 t:(iK l).t<=now
 now0:0<=now
 now1:now<=maxT
theorem aG2 {l:List EnG} {now k p:Int} (h:wZ l now) (hn:¬l.length=60) (hk:0<=k/\k<=7) (hp:0<=p/\p<=63) (d s:W64):wZ (l++[wrX l now k p d s]) now:=by
 refine⟨?_,by rw[aIe];exact Int.le_refl _,h.now0,h.now1⟩;have h1:=h.ok;unfold hJ at h1 ⊢;simp only [Bool.and_eq_true,decide_eq_true_eq] at h1 ⊢;refine⟨ι,?_⟩;unfold lgB at h1 ⊢;rw[List.all_eq_true] at h1 ⊢;intro j hj;have hj:=List.mem_range.1 hj;simp only [List.length_append,List.length_singleton] at hj;by_cases e:j<l.length
 ·have:=h1.2 j (List.mem_range.2 e);unfold aAs at this ⊢;rw[aF8 ω,List.getElem?_append_left e];exact this
 ·obtain rfl:j=l.length:=ω;unfold aAs;rw[aF8 (Nat.le_refl _),List.getElem?_concat_length];show((iK l).stp (wrX l now k p d s))=true;unfold EnG.stp EnG.fit EnG.rng wrX;have a1:=h.now0;have a2:=h.now1;have a3:=h.t;simp only [Ix.btw,EnG.lnk,aOk];simp only [maxT] at a2 ⊢;rw[if_neg ω];simp[a1,a2,a3];omega
theorem bB8 {l:List EnG} {now k p:Int} (h:wZ l now) (hk:0<=k/\k<=7) (hp:0<=p/\p<=63):wrE l now k p=if l.length=60 then 9 else 0:=by
 unfold wrE;rw[if_pos h.ok,if_pos];simp only [Ix.btw,Bool.and_eq_true,decide_eq_true_eq];exact⟨⟨⟨h.t,h.now1⟩,hk⟩,hp⟩
theorem SvG.log_ok {x:SvG} (h:x.valid=true):wZ x.lg x.now:=by
 have hn:=SvG.now_in h;obtain⟨_,h2,_,h4⟩:=SvG.valid_iff.1 h;simp only [SvG.prtB,Bool.and_eq_true] at h2;refine⟨h2.1.2,?_,hn.1,hn.2⟩;simp only [SvG.timB,Bool.and_eq_true,Bool.not_eq_true'] at h4;have h5:=List.any_eq_false.1 h4.2;unfold iK vT;split
 ·exact hn.1
 ·rename_i h0;rw[List.getElem?_eq_getElem ω,Option.getD_some];have:=h5 _ (List.getElem_mem (ω:x.lg.length - 1<x.lg.length));simpa using this
def aW7 (l:List EnG):Int:=if l.length=60 then 9 else 0
theorem aB6 (x:SvG) (k a:Int) (r:RsG) (s:W64) (hl:x.lg.length<1000000) (hx:wZ x.lg x.now) (hk:0<=k/\k<=7) (ha:0<=a/\a<=63) (hr:r.good=true) :
 OwnS Tryz.prog 1 345 [.box x.cells] [.ptr 0 0 17 0,.i k,.i a,r.sv,.w s] (.i (aW7 x.lg)) [.box (if x.lg.length=60 then x else x.put k a r s).cells]:=by
 refine bG aD Tryz.func345 rfl κ ν rfl rfl 1 (Nat.le_refl _) ?_;have hp:=bBd r;rw[hr] at hp;have hw:=aT4 x.lg hl x.now k a r.pack s;rw[bB8 hx hk ha] at hw;unfold aW7;simp[go_sem];refine aA hp rfl rfl ?_;simp[go_sem];refine aE aD κ κ ?_;simp[go_sem];refine⟨_,aB hw rfl rfl,?_⟩;by_cases h60:x.lg.length=60
 ·simp[go_sem,h60];exact⟨[0],⟨rfl,trivial⟩,τ,λN=>⟨ζ,by simp[go_sem,h60]⟩⟩
 ·simp[go_sem,h60];exact⟨[0],⟨rfl,trivial⟩,τ,λN=>⟨ζ,by simp[go_sem,SvG.put]⟩⟩
theorem aHo {x:SvG} (h:x.valid=true):(1<=x.den/\x.den<=127)/\(0<=x.num/\x.num<=x.den)/\(0<=x.turns/\x.turns<=7)/\(0<=x.mage/\x.mage<=maxT):=by
 have h1:=(SvG.valid_iff.1 h).1;simp only [SvG.setB,Ix.btw,Bool.and_eq_true,decide_eq_true_eq] at h1;exact⟨h1.1.1.1,h1.1.1.2,h1.1.2,h1.2⟩
theorem wI {a b m n:Int} (h1:0<=a/\a<=m) (h2:0<=b/\b<=n) (hm:0<=m):0<=a*b/\a*b<=m*n:=
 ⟨Int.mul_nonneg h1.1 h2.1,Int.mul_le_mul h1.2 h2.2 h2.1 hm⟩
theorem rD (x:SvG) (hv:x.setB=true) (gt:Nat->Nat->RV) (h:x.at' gt) (a:Int) (ha:0<=a/\a<x.ir.length) (hn:x.ir.length<1000000) (p:IrG) (h1:(x.eye a).ok=true) (h2:p.ok=true) :
 Pure Tryz.prog 343 [kp gt,.i a,p.sv] (· =(gR x (x.eye a) p).sv):=by
 refine π Tryz.func343 ?_;have g0:gt 0 0=.i x.num:=h 0 δ;have g1:gt 0 1=.i x.den:=h 1 δ;have g2:gt 0 2=.i x.turns:=h 2 δ;have g9:gt 0 9=.rs 2 x.ir.length (aY IrG.f x.ir):=h 9 δ;simp only [SvG.setB,Ix.btw,Bool.and_eq_true,decide_eq_true_eq] at hv;obtain⟨⟨⟨⟨d1,d2⟩,n1,n2⟩,t1,t2⟩,_⟩:=hv;obtain⟨n,rfl⟩:∃n:Nat,a=n:=⟨a.toNat,ω⟩;have hlt:n<x.ir.length:=ω;have hrow:=aI (f:=IrG.f) hlt;have hey:x.eye n=x.ir[n]:=SvG.eye_get hlt;obtain⟨c,hc⟩:∃c,x.eye n=c:=⟨_,rfl⟩;rw[hc] at h1 hey ⊢;rw[<- hey] at hrow;have hd:=aHs c p x.turns;have hsm:(iH c p x.turns.toNat).Sm:=jX _ _ _;have hE:dE c p x.turns=if (iH c p x.turns.toNat).d=0 then 6 else 0:=by
  unfold dE;rw[h1,h2];have:Ix.btw 0 7 x.turns=true:=by simp[Ix.btw];omega
  simp[this]
 obtain⟨q,hq⟩:∃q,iH c p x.turns.toNat=q:=⟨_,rfl⟩;rw[hE] at hd;unfold gR;rw[hq] at hd hsm ⊢;simp[go_sem];refine fM (S:=[(0,kp gt),(1,.i n),(5,.ptr 0 0 2 0),(6,.ptr 1 0 6 0),(7,.ptr 2 0 6 0)]) (l:=[some (.box [.w p.c,.w p.m]),some (.box [.r (.v (.int .u8 0)),.i 0,.i 0,.i 0,.i 0,.i 0]),some (.box [.r (.v (.int .u8 2)),.i 1,.i 0,.i x.num,.i x.den,.i (-1)])]) (n:=3)
  (t:=(.take 0 (.take 1 (.take 2 (.take 3 (.take 4 (.take 5 (.take 6 (.take 7 (.take 8 (.take 9 (.take 10 (.take 11 (.take 12 (.take 13 (.take 14 (.alt 15 [14,13,12,11,10,9,8,7,6,5,4,3,2,1,0] (.alt 16 [14,13,12,11,10,9,8,7,6,5,4,3,2,1,0] (.done []) .nil) .nil))))))))))))))))) aD κ κ κ (λ_ _ _ _ h=>h) rfl ?_ ?_
 ·simp[go_sem,g0,g1]
 intro J;simp[go_sem];refine aE aD κ κ ?_;simp[go_sem,g2,g9,hlt,hrow];by_cases h0:q.d=0
 ·rw[if_pos h0] at hd;refine⟨_,aB hd rfl rfl,?_⟩;simp[go_sem,h0]
 ·rw[if_neg h0] at hd;refine⟨_,aB hd rfl rfl,?_⟩;have s1:=hsm.n;have s2:=hsm.d;have m1:=wI (a:=(q.n:Int)) (b:=x.den) (m:=64) (n:=127) ⟨ω,ω⟩ ⟨ω,d2⟩ δ;have m2:=wI (a:=x.num) (b:=(q.d:Int)) (m:=127) (n:=64) ⟨ω,ω⟩ ⟨ω,ω⟩ δ;simp[go_sem,h0];exact⟨⟨ω,ω⟩,ω,ω⟩
theorem pR (x:SvG) (k:Int) (o:OrG) (r:RsG) (hl:x.lg.length<1000000) (hx:wZ x.lg x.now) (hk:0<=k/\k<=7) (ha:0<=o.a/\o.a<=63) (hr:r.good=true) :
 OwnS Tryz.prog 1 342 [.box x.cells] [.ptr 0 0 17 0,.i k,o.sv,r.sv] (mT (sJ x k o.a r o.s)) [.box (sJ x k o.a r o.s).1.cells]:=by
 refine bG aD Tryz.func342 rfl κ ν rfl rfl 1 (Nat.le_refl _) ?_;have hs:=aB6 x k o.a r o.s hl hx hk ha hr;have hd:=(RsG.good_in hr).1;unfold aW7 at hs;unfold sJ;simp[go_sem];by_cases h60:x.lg.length=60
 ·rw[if_pos h60,if_pos h60] at hs;refine cC [0] hs (Nat.le_refl _) τ rfl ⟨rfl,trivial⟩ ?_;simp[go_sem,h60,bad];exact⟨[0],⟨rfl,trivial⟩,τ,λN=>⟨ζ,by simp[go_sem,h60]⟩⟩
 ·rw[if_neg h60,if_neg h60] at hs;refine cC [0] hs (Nat.le_refl _) τ rfl ⟨rfl,trivial⟩ ?_;have e8:IntKind.i64.wrap r.d=r.d:=bX ⟨ω,ω⟩;simp[go_sem,h60,nW];exact⟨[0],⟨rfl,trivial⟩,τ,λN=>⟨by simp[go_sem,e8],ζ⟩⟩
theorem jN {x:SvG} (hv:x.setB=true) (c p:IrG):(gR x c p).good=true:=by
 simp only [SvG.setB,Ix.btw,Bool.and_eq_true,decide_eq_true_eq] at hv;obtain⟨⟨⟨⟨d1,d2⟩,n1,n2⟩,_⟩,_⟩:=hv;have hsm:(iH c p x.turns.toNat).Sm:=jX _ _ _;have s1:=hsm.n;have s2:=hsm.d;unfold gR;generalize iH c p x.turns.toNat=q at s1 s2;dsimp only;split
 ·simp only [RsG.good,RsG.okd,jE,Ix.btw,Bool.and_eq_true,decide_eq_true_eq];omega
 ·split <;> (simp only [RsG.good,RsG.okd,jE,Ix.btw,Bool.and_eq_true,decide_eq_true_eq];omega)
end Go.Gx.Sr
namespace Go.Gx
open Go.RowKit Go.WideShapes Go.ChangeShapes Go.Proofs Go.Proofs.YtncccnmmjfapnaaGreat
abbrev eI:CS:=.sc (.int .i64)
abbrev csB:CS:=.sc .bool
abbrev gM (l:List CS):CS:=.sl l.length λj=>l.getD j (.sc .bool)
section
variable {W:World}
abbrev ZW (W:World):Nat->Prop:=λb=>b<W.heap.size
def vb:Value->Bool
 | .bool b=>b
 | _=>false
theorem aKy {v:Value} (h:fI W csB v):v=.bool (vb v):=by
 obtain⟨b,rfl⟩:=h;rfl
theorem aQ {k:IntKind} {v:Value} (h:fI W (.sc (.int k)) v):v.oneCell'=true:=by rw[bN h];rfl
theorem yZ {v:Value} (h:fI W csB v):v.oneCell'=true:=by rw[aKy h];rfl
theorem bV {Z:Nat->Prop} {v:Value} (h:fI W eI v):(RV.i (vi v)).rel Z W v:=bN h
theorem zF {Z:Nat->Prop} {v:Value} (h:fI W csB v):(RV.v (.bool (vb v))).rel Z W v:=aKy h
theorem iB {k:Nat} {fs:Nat->CS} {v:Value} (h:fI W (.sl k fs) v):v.oneCell'=true:=by
 obtain⟨A,n,c,rfl,_⟩:=h;rfl
theorem aS1 {v:Value} (h:fI W (gM [eI,csB]) v):∃(n:Nat) (r:Nat->RcG),∀σ,(SV.r (.rs 2 n λi j=>(r i).c j)).rel σ (ZW W) W v:=by
 obtain⟨n,cv,_,h1,h2⟩:=iE h;refine⟨n,λi=>⟨vi (cv i 0),vb (cv i 1)⟩,λσ=>h2 _ (λi j hi hj=>?_) σ⟩;have hc:=h1 i j hi hj
 match j,hj,hc with
 | 0,_,hc=>exact⟨aQ hc,bV hc⟩
 | 1,_,hc=>exact⟨yZ hc,zF hc⟩
 | j+2,hj,_=>exact absurd hj τ
theorem aM9 {v:Value} (h:fI W (gM [eI,eI,csB]) v):∃(n:Nat) (r:Nat->LkG),∀σ,(SV.r (.rs 3 n λi j=>(r i).c j)).rel σ (ZW W) W v:=by
 obtain⟨n,cv,_,h1,h2⟩:=iE h;refine⟨n,λi=>⟨vi (cv i 0),vi (cv i 1),vb (cv i 2)⟩,λσ=>h2 _ (λi j hi hj=>?_) σ⟩;have hc:=h1 i j hi hj
 match j,hj,hc with
 | 0,_,hc=>exact⟨aQ hc,bV hc⟩
 | 1,_,hc=>exact⟨aQ hc,bV hc⟩
 | 2,_,hc=>exact⟨yZ hc,zF hc⟩
 | j+3,hj,_=>exact absurd hj τ
theorem aOj {v:Value} (h:fI W (gM [eI,csB]) v):∃(n:Nat) (r:Nat->VtG),(RV.rs 2 n λi j=>(r i).c j).rel (ZW W) W v:=by
 obtain⟨n,cv,_,h1,h2⟩:=iE h;refine⟨n,λi=>⟨vi (cv i 0),vb (cv i 1)⟩,h2 _ (λi j hi hj=>?_) (λ_=>none)⟩;have hc:=h1 i j hi hj
 match j,hj,hc with
 | 0,_,hc=>exact⟨aQ hc,bV hc⟩
 | 1,_,hc=>exact⟨yZ hc,zF hc⟩
 | j+2,hj,_=>exact absurd hj τ
theorem aL6 {v:Value} (h:fI W (gM [eI,eI,gM [eI,csB]]) v):∃(n:Nat) (r:Nat->CsG),∀σ,(SV.r (.rs 3 n λi j=>(r i).c j)).rel σ (ZW W) W v:=by
 obtain⟨n,cv,_,h1,h2⟩:=iE h;have hv:∀i,∃p:Nat × (Nat->VtG),i<n->(RV.rs 2 p.1 λi j=>(p.2 i).c j).rel (ZW W) W (cv i 2):=λi=>by
  by_cases hi:i<n
  ·obtain⟨m,r,hr⟩:=aOj (h1 i 2 hi δ);exact⟨(m,r),λ_=>hr⟩
  ·exact⟨(0,λ_=>⟨0,false⟩),λh=>absurd h hi⟩
 obtain⟨f,hf⟩:=Classical.axiomOfChoice hv;refine⟨n,λi=>⟨vi (cv i 0),vi (cv i 1),(f i).1,(f i).2⟩,λσ=>h2 _ (λi j hi hj=>?_) σ⟩;have hc:=h1 i j hi hj
 match j,hj,hc with
 | 0,_,hc=>exact⟨aQ hc,bV hc⟩
 | 1,_,hc=>exact⟨aQ hc,bV hc⟩
 | 2,_,hc=>exact⟨iB hc,hf i hi⟩
 | j+3,hj,_=>exact absurd hj τ
end
end Go.Gx
namespace Go.Gx
open Go.RowKit Go.Proofs Go.Proofs.YtncccnmmjfapnaaGreat
@[go_sem]theorem bG0 (b:Nat) (e:TypeId):TI.zeroV ⟨1,b,[.sl],.slice e⟩=.slice none 0 0:=rfl
@[go_sem]theorem bDo (b:Nat) (k:IntKind):TI.zeroV ⟨1,b,[.i k],.int k⟩=.int k 0:=rfl
def bF9 (n:Nat) (x y:Nat->Int):Prop:=∀a b,a<b->b<n->dJ (x a) (y a) (x b) (y b)=true
structure EG.Val (g:EG):Prop where
 nr:g.nr<=24
 nc:g.nc<=40
 qu:∀i,i<g.nr->0<=(g.r i).q/\(g.r i).q<=100
 ls:bF9 g.nl (λi=>(g.l i).a) (λi=>(g.l i).b)
 lp:∀i,i<g.nl->g.th (g.l i).a=true/\g.th (g.l i).b=true/\(g.l i).a<(g.l i).b
 cs:bF9 g.nc (λi=>(g.c i).a) (λi=>(g.c i).b)
 cp:∀i,i<g.nc->g.th (g.c i).a=true/\g.th (g.c i).b=true/\(g.c i).a<(g.c i).b
 cl:∀i j,i<g.nc->j<g.nl->¬((g.l j).a=(g.c i).a/\(g.l j).b=(g.c i).b)
 cv:∀i,i<g.nc->jI (g.c i).nv (g.c i).v=true
 ld:∀i,i<g.nl->(g.l i).s=false->¬g.Con g.nl (g.l i).a (g.l i).b
theorem EG.val_iff {g:EG}:g.valid=true↔g.Val:=by
 rw[<- EG.pval_eq];constructor
 ·intro h;simp only [EG.pval,Bool.and_eq_true,decide_eq_true_eq] at h;obtain⟨⟨⟨⟨⟨⟨h1,h2⟩,h3⟩,h4⟩,h5⟩,h6⟩,h7⟩:=h;have hl:=EG.lks_sorted h4;refine⟨h1,h2,λi hi=>?_,hl,λi hi=>?_,EG.cos_sorted h5,λi hi=>?_,λi j hi hj he=>?_,λi hi=>?_,λi hi hs hc=>?_⟩
  ·have:=iC h3 hi;simpa [btw] using this
  ·have:=iC h4 hi;simp only [EG.lk1,EG.prB,Bool.and_eq_true,decide_eq_true_eq] at this;exact⟨this.1.1.1,this.1.1.2,this.1.2⟩
  ·have:=iC h5 hi;simp only [EG.co1,EG.prB,Bool.and_eq_true,decide_eq_true_eq] at this;exact⟨this.1.1.1,this.1.1.2,this.1.2⟩
  ·have:=iC h6 hi;simp only [EG.cs2,Bool.and_eq_true,Bool.not_eq_true'] at this;have h9:g.lin (g.c i).a (g.c i).b=true:=(pS (x:=λi=>(g.l i).a) (y:=λi=>(g.l i).b) hl).2 ⟨j,hj,he.1,he.2⟩;rw[this.1] at h9;cases h9
  ·have:=iC h6 hi;simp only [EG.cs2,Bool.and_eq_true] at this;exact this.2
  ·have:=iC h7 hi;simp only [EG.lk2,hs,Bool.false_or,Bool.not_eq_true',decide_eq_false_iff_not] at this;exact this (EG.con_iff.1 hc)
 ·intro h;simp only [EG.pval,Bool.and_eq_true,decide_eq_true_eq];refine⟨⟨⟨⟨⟨⟨h.nr,h.nc⟩,cG λi hi=>?_⟩,cG λi hi=>?_⟩,cG λi hi=>?_⟩,cG λi hi=>?_⟩,cG λi hi=>?_⟩
  ·have:=h.qu i hi;simpa [btw] using this
  ·have:=h.lp i hi;simp only [EG.lk1,EG.prB,Bool.and_eq_true,Bool.or_eq_true,decide_eq_true_eq];refine⟨⟨⟨this.1,this.2.1⟩,this.2.2⟩,?_⟩;by_cases e:i=0
   ·exact .inl e
   ·exact .inr (h.ls (i - 1) i ω hi)
  ·have:=h.cp i hi;simp only [EG.co1,EG.prB,Bool.and_eq_true,Bool.or_eq_true,decide_eq_true_eq];refine⟨⟨⟨this.1,this.2.1⟩,this.2.2⟩,?_⟩;by_cases e:i=0
   ·exact .inl e
   ·exact .inr (h.cs (i - 1) i ω hi)
  ·simp only [EG.cs2,Bool.and_eq_true,Bool.not_eq_true'];refine⟨?_,h.cv i hi⟩
   cases hf:g.lin (g.c i).a (g.c i).b with
   | false=>rfl
   | true=>
     obtain⟨j,hj,e1,e2⟩:=(pS (x:=λi=>(g.l i).a) (y:=λi=>(g.l i).b) h.ls).1 hf;exact absurd ⟨e1,e2⟩ (h.cl i j hi hj)
  ·cases hs:(g.l i).s with
   | true=>simp[EG.lk2,hs]
   | false=>
     simp only [EG.lk2,hs,Bool.false_or,Bool.not_eq_true',decide_eq_false_iff_not];exact λe=>h.ld i hi hs (EG.con_iff.2 e)
end Go.Gx
namespace Go.Gx.Sr
open Go.RowKit Go.Proofs Go.Proofs.YtncccnmmjfapnaaGreat Go.Gx.Ix
theorem SvG.reg_val {x:SvG} (h:x.valid=true):x.g.valid=true/\x.r.valid=true/\fO x.ch=true/\hJ x.lg=true/\x.ks.length<=4/\x.ir.length=x.g.nr:=by
 have h2:=(SvG.valid_iff.1 h).2.1;simp only [SvG.prtB,Bool.and_eq_true,decide_eq_true_eq] at h2;exact⟨h2.1.1.1.1,h2.1.1.1.2,h2.1.1.2,h2.1.2,h2.2.1.2,h2.2.2⟩
theorem SvG.th_in {x:SvG} (h:x.valid=true) {a:Int} (ha:x.g.th a=true):0<=a/\a<x.ir.length/\a<=23:=by
 obtain⟨hg,_,_,_,_,hl⟩:=SvG.reg_val h;have h1:=EG.th_iff.1 ha;have h2:=(EG.val_iff.1 hg).nr;omega
theorem SvG.eye_ok {x:SvG} (h:x.valid=true) {a:Int} (h0:0<=a) (h1:a<x.ir.length):(x.eye a).ok=true:=by
 have h3:=(SvG.valid_iff.1 h).2.2.1;simp only [SvG.peoB,Bool.and_eq_true] at h3;obtain⟨n,rfl⟩:∃n:Nat,a=n:=⟨a.toNat,ω⟩;have:=List.all_eq_true.1 h3.1.1 n (List.mem_range.2 ω);simp only [Bool.and_eq_true] at this;exact this.1
theorem SvG.best_ok {x:SvG} (h:x.valid=true) {a:Int} (ha:x.g.th a=true):x.g.pE a=0/\0<=x.g.bp a x.g.nr/\x.g.bp a x.g.nr<x.ir.length:=by
 obtain⟨hg,_,_,_,_,hl⟩:=SvG.reg_val h;have h1:=EG.th_iff.1 ha;have h2:=EG.bp_bd (EG.valid_lth hg) h1.1 h1.2.1 x.g.nr (Nat.le_refl _);exact⟨by unfold EG.pE;rw[if_pos hg,if_pos ha],h2.1,ω⟩
theorem aQd (x:SvG) (o:OrG) (hx:x.OK) (hv:x.valid=true):Does 252 aA1 x o:=by
 refine bG aD Tryz.func252 rfl κ ν rfl rfl 1 (Nat.le_refl _) ?_;unfold aA1;simp[go_sem];refine aG (v:=.b (x.g.th o.a)) (by simp[go_sem];exact dN x hx.g.ok _ (x.at_view _) o.a) rfl ?_;by_cases ht:x.g.th o.a=true;rotate_left
 ·simp[go_sem,ht,bad];exact⟨[0],⟨rfl,trivial⟩,τ,λN=>⟨ζ,ζ⟩⟩
 have hin:=SvG.th_in hv ht;simp[go_sem,ht];refine aA (mJ o.x.c o.x.m) rfl rfl ?_;have e0:o.x.ok=vI o.x.c o.x.m:=rfl;rw[e0]
 cases hvi:vI o.x.c o.x.m
 ·simp[go_sem,bad];exact⟨[0],⟨rfl,trivial⟩,τ,λN=>⟨ζ,ζ⟩⟩
 obtain⟨b1,b2,b3⟩:=SvG.best_ok hv ht;have hb:=aZt x.g hx.g.ok o.a;rw[b1,if_pos rfl] at hb;obtain⟨b,hbb⟩:∃b,x.g.bp o.a x.g.nr=b:=⟨_,rfl⟩;rw[hbb] at hb b2 b3 ⊢;have hset:=(SvG.valid_iff.1 hv).1;have hcm:=λgt h=>rD x hset gt h b ⟨b2,b3⟩ hx.ir o.x (SvG.eye_ok hv b2 b3) hvi;have hgood:=jN hset (x.eye b) o.x;obtain⟨r,hr⟩:∃r,gR x (x.eye b) o.x=r:=⟨_,rfl⟩;rw[hr] at hcm hgood ⊢;simp[go_sem];refine aE aD κ κ ?_;simp[go_sem];refine⟨_,aB hb rfl rfl,?_⟩;simp[go_sem];refine aM (t:=(.take 0 (.take 1 (.take 2 (.take 3 (.take 4 (.take 5 (.alt 6 [5,4,3,2,1,0] (.alt 7 [4,1,0] (.take 8 (.take 9 (.take 10 (.take 11 (.take 12 (.take 13 (.done [13,12,11,10,9,8,4]))))))) .nil) .nil)))))))) aD κ κ κ (λ_ _ _ _ h=>h) ?_;simp[go_sem];refine aG (v:=r.sv) (by simp[go_sem];exact hcm _ (x.at_view _)) rfl ?_;simp[go_sem];refine cC [0] (pR x 1 o r hx.lg (SvG.log_ok hv) δ ω hgood) (Nat.le_refl _) τ rfl ⟨rfl,trivial⟩ ?_;simp[go_sem];exact⟨[0],⟨rfl,trivial⟩,τ,λN=>⟨ζ,ζ⟩⟩
theorem SvG.dec_ok {x:SvG} (h:x.valid=true) {n:Nat} (hn:n<x.ks.length) {a:Int} (ha:0<=a/\a<=23):xN x.ks[n] a x.now x.key=0:=by
 have h4:=(SvG.valid_iff.1 h).2.2.2;have hw:=SvG.now_in h;simp only [SvG.timB,Bool.and_eq_true] at h4;have hk:=List.all_eq_true.1 h4.1.1 _ (List.getElem_mem hn);simp only [SvG.kOK,Bool.and_eq_true,decide_eq_true_eq] at hk;have h5:=hk.1.1.1;simp only [KsG.ok,Bool.and_eq_true] at h5;unfold xN;rw[if_pos hk.1.1.1];unfold aC0;have e1:psB a=true:=wK.2 ω;have e2:qC x.now=true:=kZ.2 hw;rw[e1,e2,h5.1.1];have:=hk.1.2;simp;omega
theorem aP9 (x:SvG) (o:OrG) (hx:x.OK) (hv:x.valid=true):Does 254 yB x o:=by
 refine bG aD Tryz.func254 rfl κ ν rfl rfl 1 (Nat.le_refl _) ?_;unfold yB;have hks:=hx.ks;simp[go_sem];refine aE aD κ κ ?_;simp[go_sem];refine⟨ω,?_⟩;refine⟨_,aB (oM 0 ((x.ks.length:Int) - 1) o.n) rfl rfl,?_⟩;obtain⟨b,hb⟩:∃b,Ix.btw 0 ((x.ks.length:Int) - 1) o.n=b:=⟨_,rfl⟩;rw[hb]
 cases b
 ·simp[go_sem,bad];exact⟨[0],⟨rfl,trivial⟩,τ,λN=>⟨ζ,ζ⟩⟩
 have hb':0<=o.n/\o.n<=(x.ks.length:Int) - 1:=by simpa [Ix.btw] using hb
 simp[go_sem];refine aG (v:=.b (x.g.th o.a)) (by simp[go_sem];exact dN x hx.g.ok _ (x.at_view _) o.a) rfl ?_;by_cases ht:x.g.th o.a=true;rotate_left
 ·simp[go_sem,ht,bad];exact⟨[0],⟨rfl,trivial⟩,τ,λN=>⟨ζ,ζ⟩⟩
 have hin:=SvG.th_in hv ht;simp[go_sem,ht];refine aA (mJ o.x.c o.x.m) rfl rfl ?_;have e0:o.x.ok=vI o.x.c o.x.m:=rfl;rw[e0]
 cases hvi:vI o.x.c o.x.m
 ·simp[go_sem,bad];exact⟨[0],⟨rfl,trivial⟩,τ,λN=>⟨ζ,ζ⟩⟩
 obtain⟨n,hn⟩:∃n:Nat,o.n=n:=⟨o.n.toNat,ω⟩;have hlt:n<x.ks.length:=ω;have hrow:=aI (f:=KsG.f) hlt;have hd0:=SvG.dec_ok hv hlt (a:=o.a) ω;have hdc:=aP2 x.ks[n] o.a x.now x.key;rw[hd0,if_pos rfl] at hdc;have hgt:(x.ks[o.n.toNat]?).getD KsG.zero=x.ks[n]:=by rw[hn,show((n:Int).toNat)=n from rfl,List.getElem?_eq_getElem hlt];rfl
 rw[hgt];obtain⟨q,hq⟩:∃q,x.ks[n]=q:=⟨_,rfl⟩;rw[hq] at hdc hrow ⊢;obtain⟨d,hd⟩:∃d,aAk q o.a x.now=d:=⟨_,rfl⟩;have hd3:d=3\/d=1\/d=2:=by rw[<- hd];unfold aAk zL;split;exact .inl rfl;split;exact .inr (.inl rfl);exact .inr (.inr rfl)
 rw[hd] at hdc ⊢;have hset:=(SvG.valid_iff.1 hv).1;have hcm:=λgt h=>rD x hset gt h o.a ⟨hin.1,hin.2.1⟩ hx.ir o.x (SvG.eye_ok hv hin.1 hin.2.1) hvi;have hgood:=jN hset (x.eye o.a) o.x;obtain⟨r,hr⟩:∃r,gR x (x.eye o.a) o.x=r:=⟨_,rfl⟩;rw[hr] at hcm hgood ⊢;simp[go_sem];refine aE aD κ κ ?_;simp[go_sem,hn,hlt,hrow];refine⟨_,aB hdc rfl rfl,?_⟩;simp[go_sem];refine aG (v:=r.sv) (by simp[go_sem];exact hcm _ (x.at_view _)) rfl ?_;have hl:=SvG.log_ok hv;have hg2:=RsG.good_in hgood;rcases hd3 with rfl | rfl | rfl
 ·have g5:({r with d:=3,n:=0,m:=0}:RsG).good=true:=by
   simp only [RsG.good,RsG.okd,jE,Ix.btw,Bool.and_eq_true,decide_eq_true_eq];omega
  simp[go_sem];refine cC [0] (pR x 5 o _ hx.lg hl δ ω g5) (Nat.le_refl _) τ rfl ⟨rfl,trivial⟩ ?_;simp[go_sem];exact⟨[0],⟨rfl,trivial⟩,τ,λN=>⟨ζ,ζ⟩⟩
 ·simp[go_sem];refine cC [0] (pR x 3 o r hx.lg hl δ ω hgood) (Nat.le_refl _) τ rfl ⟨rfl,trivial⟩ ?_;simp[go_sem];exact⟨[0],⟨rfl,trivial⟩,τ,λN=>⟨ζ,ζ⟩⟩
 ·have g5:({r with d:=2,n:=1,m:=0}:RsG).good=true:=by
   simp only [RsG.good,RsG.okd,jE,Ix.btw,Bool.and_eq_true,decide_eq_true_eq];omega
  simp[go_sem];refine cC [0] (pR x 4 o _ hx.lg hl δ ω g5) (Nat.le_refl _) τ rfl ⟨rfl,trivial⟩ ?_;simp[go_sem];exact⟨[0],⟨rfl,trivial⟩,τ,λN=>⟨ζ,ζ⟩⟩
end Go.Gx.Sr
namespace Go.Gx.Rg
open Go.RowKit Go.Proofs Go.Proofs.YtncccnmmjfapnaaGreat
theorem delf331 (n:Nat) (hn:n<=1000000) (get:Nat->Nat->RV) (g:FuncId) (c:RV) (p:Nat->Bool) (ho:∀i j,i<n->j<3->(SV.r (get i j)).one=true) (hp:∀i,i<n->Pure Tryz.prog g [.agg [.r (get i 0),.r (get i 1),.r (get i 2)],.r c] (· =.b (p i))) :
 Own Tryz.prog 331 [.vec 114 3 n λi j=>.r (get i j)] [.sl 0 3 0 n none,.fn (.func g) [] [.r c]] (.sl 0 3 0 (kept p n).length none) [.vec 114 3 (kept p n).length λi j=>.r ((cQ get (kept p n)) i j)]:=by
 refine γ Tryz.func331 ?_;simp[go_sem];refine aG (v:=.i (idx p n)) ?_ rfl ?_
 ·simp[go_sem];exact Go.Gx.Sr.idx274 n ω get g [.r c] p rfl hp
 rcases pW p n with ⟨h1,h2⟩ | ⟨i0,h1,h2,h3,h4⟩
 ·rw[h1];simp[go_sem];refine⟨[0],τ,λN=>⟨?_,?_⟩⟩
  ·simp[go_sem,cI h2]
  ·simp[go_sem,cI h2];intro i j hi hj;exact(bP (by simp[hi]) j).symm
 rw[h4];simp[go_sem];have hk0:kept p i0=List.range i0:=cI h3;have hk1:kept p (i0+1)=List.range i0:=by rw[bB,hk0,h2];simp
 refine⟨ω,?_⟩;refine bF aD (α:=Nat) (λj=>[(0,.sl 0 3 0 n none),(1,.fn (.func g) [] [.r c]),(5,.i (kept p j).length),(6,.i j)]) (λj=>[some (.vec 114 3 n λi' j'=>.r ((cV get p j) i' j'))]) 1 (λj=>j<=n/\(kept p j).length<j) (λj=>n - j) (i0+1) (λ_=>rfl) ⟨ω,by rw[hk1];simp⟩ (by simp[go_sem,hk1]) (by
  simp[go_sem];intro i j hi hj;unfold cV;rw[hk1];split
  ·rename_i h;exact(bP (by simp at h;simp[h]) j).symm
  ·rfl) ?_
 intro j J hi;have hkn:=kept_le p j;have hq:∀c,cV get p j j c=get j c:=λc=>kI hkn;simp[go_sem,hq];split
 ·rename_i hlt;refine⟨ω,⟨by simpa [SV.one] using ho j 0 hlt δ,by simpa [SV.one] using ho j 1 hlt δ,by simpa [SV.one] using ho j 2 hlt δ⟩,?_⟩;refine aA (hp j hlt) rfl rfl ?_;simp[go_sem]
  cases hpj:p j
  ·simp[go_sem];have hs:kept p (j+1)=kept p j++[j]:=by rw[bB,hpj];simp
   refine⟨ω,⟨⟨by simpa [SV.one] using ho j 0 hlt δ,by simpa [SV.one] using ho j 1 hlt δ,by simpa [SV.one] using ho j 2 hlt δ⟩,ω⟩,ω,ω,j+1,⟨ω,by rw[hs];simp;omega⟩,ω,⟨by rw[hs];simp,ω⟩,λi c hi hc=>?_⟩;rw[hH hpj];by_cases hil:i=(kept p j).length
   ·rw[if_pos ⟨hil,hc⟩,if_pos hil];have hcc:c=0\/c=1\/c=2:=ω;rcases hcc with rfl | rfl | rfl <;> simp[aD8,SV.trim]
   ·rw[if_neg (λh=>hil h.1),if_neg hil]
    try rfl
  ·simp[go_sem];have hs:kept p (j+1)=kept p j:=by rw[bB,hpj];simp
   refine⟨ω,j+1,⟨ω,by rw[hs];omega⟩,ω,⟨by rw[hs],ω⟩,λi c hi hc=>?_⟩;unfold cV;rw[hs]
 ·rename_i hlt;have hjn:j=n:=ω;subst hjn;refine⟨ω,ω,ω,[0],τ,λN=>⟨?_,?_⟩⟩
  ·simp[go_sem]
  ·simp[go_sem];refine⟨ω,λi c hi hc=>?_⟩;rw[if_neg ω];exact congrArg SV.r (if_pos hi)
end Go.Gx.Rg
namespace Go.Gx.Sr
open Go.RowKit Go.Proofs Go.Proofs.YtncccnmmjfapnaaGreat Go.Gx.Ix
def isC (l:List ChG) (q:ChG->Bool) (i:Nat):Bool:=match l[i]? with | some x=>q x | none=>false
theorem xW (l:List ChG) (q:ChG->Bool):l.filter (λc=>!q c)=(Rg.kept (isC l q) l.length).map λi=>(l[i]?).getD ⟨0,0,false⟩:=by
 have e:l=(List.range l.length).map λi=>(l[i]?).getD ⟨0,0,false⟩:=by
  refine List.ext_getElem τ λi h1 h2=>?_;simp[List.getElem?_eq_getElem h1]
 conv=>lhs;rw[e]
 rw[List.filter_map]
 congr 1
 unfold Rg.kept;refine List.filter_congr λi hi=>?_;have hi:=List.mem_range.1 hi;simp[isC,List.getElem?_eq_getElem hi]
theorem aMw (l:List ChG) (q:ChG->Bool) (i j:Nat) (hi:i<(Rg.kept (isC l q) l.length).length):cQ (aY ChG.f l) (Rg.kept (isC l q) l.length) i j=aY ChG.f (l.filter λc=>!q c) i j:=by
 have hm:(Rg.kept (isC l q) l.length)[i]<l.length:=List.mem_range.1 (List.mem_filter.1 (List.getElem_mem hi)).1;rw[bP (List.getElem?_eq_getElem hi),xW,aI hm];unfold aY;rw[List.getElem?_map,List.getElem?_eq_getElem hi];simp[List.getElem?_eq_getElem hm]
theorem bEy (c:ChG) (gt:Nat->Nat->RV) (a:Int) (h2:gt 0 2=.i a):Pure Tryz.prog 332 [c.sv,.r (.rp 34 1 gt 0 0)] (· =.b (decide (c.p=a))):=by
 refine π Tryz.func332 ?_;simp[go_sem,h2]
theorem bE4 (l:List ChG) (hn:l.length<=1000000) (gt:Nat->Nat->RV) (a:Int) (h2:gt 0 2=.i a) :
 Own Tryz.prog 331 [.vec 114 3 l.length λi j=>.r (aY ChG.f l i j)] [.sl 0 3 0 l.length none,.fn (.func 332) [] [.r (.rp 34 1 gt 0 0)]] (.sl 0 3 0 (l.filter λc=>!decide (c.p=a)).length none) [.vec 114 3 (l.filter λc=>!decide (c.p=a)).length λi j=>.r ((cQ (aY ChG.f l) (Rg.kept (isC l λc=>decide (c.p=a)) l.length)) i j)]:=by
 have h:=Rg.delf331 l.length hn (aY ChG.f l) 332 (.rp 34 1 gt 0 0) (isC l λc=>decide (c.p=a)) (λi j hi hj=>by
  rw[aI hi];rcases(ω:j=0\/j=1\/j=2) with rfl | rfl | rfl <;> rfl) (λi hi=>by
  have:=bEy l[i] gt a h2;rw[aI hi,aI hi,aI hi];simp only [isC,List.getElem?_eq_getElem hi];exact this)
 have e:(Rg.kept (isC l λc=>decide (c.p=a)) l.length).length=(l.filter λc=>!decide (c.p=a)).length:=by rw[xW];simp
 rw[e] at h;exact h
theorem aNw (k:KsG) (key:W64) (gt:Nat->Nat->RV) (h4:gt 0 4=.w key):Pure Tryz.prog 333 [kp gt,k.sv] (· =(KsG.mk k.a k.m k.s (k.seal key)).sv):=by
 refine π Tryz.func333 ?_;simp[go_sem];refine bE aD κ 16 κ rfl rfl ?_;simp[go_sem,h4,pO];refine⟨_,aB (mZ _ _) rfl rfl,?_⟩;refine⟨λr hr=>by simp[SV.refs] at hr,_,aB (mZ _ _) rfl rfl,?_⟩;refine aA (mZ _ (u64 k.m)) rfl rfl ?_;simp[go_sem,KsG.seal,aYy]
theorem SvG.rem_ok {x:SvG} (h:x.valid=true) {a:Int} (ha:x.g.th a=true):x.g.remE a=0/\x.r.foE a=0/\knE x.lg a=0:=by
 obtain⟨h1,h2,h3,h4,h5,h6⟩:=SvG.reg_val h;have hin:=SvG.th_in h ha;refine⟨?_,?_,?_⟩
 ·unfold EG.remE;rw[if_neg (by rw[h1];simp),if_neg (by rw[ha];simp)]
 ·unfold Rg.RG.foE;rw[if_pos h2,if_pos];show Rg.btw 0 63 a=true;unfold Rg.btw;simp only [Bool.and_eq_true,decide_eq_true_eq];omega
 ·unfold knE;rw[if_pos h4,if_pos];unfold Ix.btw;simp only [Bool.and_eq_true,decide_eq_true_eq];omega
theorem aQb (x:SvG) (o:OrG) (hx:x.OK) (hv:x.valid=true):Does 245 aAw x o:=by
 refine bG aD Tryz.func245 rfl κ ν rfl rfl 1 (Nat.le_refl _) ?_;have n1:=hx.ir;have n2:=hx.ch;have n3:=hx.ks;have n4:=hx.lg;unfold aAw;simp[go_sem];refine aG (v:=.b (x.g.th o.a)) (by simp[go_sem];exact dN x hx.g.ok _ (x.at_view _) o.a) rfl ?_;by_cases ht:x.g.th o.a=true;rotate_left
 ·simp[go_sem,ht,bad];exact⟨[0],⟨rfl,trivial⟩,τ,λN=>⟨ζ,ζ⟩⟩
 obtain⟨z1,z2,z3⟩:=SvG.rem_ok hv ht;have hin:=SvG.th_in hv ht;have c1:=bBj hx.g o.a;have c2:=Rg.forget20 x.r o.a hx.r;have c3:=aQl x.lg n4 o.a;have eX:x.g.remX o.a=x.g.remG o.a.toNat:=by unfold EG.remX;rw[if_pos z1]
 rw[z1,eX] at c1;rw[z2,if_pos rfl] at c2;rw[z3,if_pos rfl,if_pos rfl] at c3;unfold SvG.rem;obtain⟨y,hy⟩:∃y,x.g.remG o.a.toNat=y:=⟨_,rfl⟩;obtain⟨q,hq⟩:∃q,x.r.forget o.a=q:=⟨_,rfl⟩;obtain⟨l,hl⟩:∃l,erL x.lg o.a=l:=⟨_,rfl⟩;obtain⟨cnt,hcnt⟩:∃c:Int,(erN x.lg o.a:Int)=c:=⟨_,rfl⟩;rw[hy] at c1;rw[hq] at c2;rw[hl,hcnt] at c3;rw[hy,hq,hl,hcnt];simp[go_sem,ht];refine fM (S:=[(0,.ptr 0 0 17 0),(3,.ptr 1 0 34 0),(7,.ptr 2 0 3 0),(8,.i 0)]) (l:=[some (.box x.cells),some (.box o.cells),some (.box [y.rr,y.ll,y.cc])]) (n:=3)
  (t:=(.take 0 (.take 1 (.take 2 (.take 3 (.take 4 (.take 5 (.take 6 (.alt 7 [6,5,4,3,2,1,0] (.take 8 (.take 9 (.take 10 (.alt 11 [10,9,8,5,3,2,1,0] (.alt 12 [10,9,8,5,3,2,1,0] (.take 13 (.done [13,10])) .nil) .nil)))) (.alt 11 [6,5,4,3,2,1,0] (.alt 7 [6,5,4,3,2,1,0] (.take 8 (.take 9 (.take 10 (.alt 12 [10,9,8,5,3,2,1,0] (.take 13 (.done [13,10])) .nil)))) .nil) .nil)))))))))) aD κ κ κ (λ_ _ _ _ h=>h) rfl ?_ ?_
 ·simp[go_sem];refine⟨aA c1 rfl rfl ?_,aA c1 rfl rfl ?_⟩
  ·simp[go_sem]
  ·simp[go_sem]
 intro J;simp[go_sem];refine fM (S:=[(0,.ptr 0 0 17 0),(3,.ptr 1 0 34 0),(7,.ptr 2 0 3 0),(8,.i 0),(9,.ptr 3 0 4 0),(10,.i 0)]) (l:=[some (.box x.cells),some (.box o.cells),some (.box [y.rr,y.ll,y.cc]),some (.box [Rg.RuleG.rs q.nr q.r,Rg.ConG.rs q.nc q.c,Rg.WarG.rs q.nw q.w,Rg.MarkG.rs q.nm q.m])]) (n:=4)
  (t:=(.take 0 (.take 1 (.take 2 (.take 3 (.take 4 (.take 5 (.take 6 (.alt 7 [6,5,4,3,2,1,0] (.take 8 (.take 9 (.take 10 (.alt 11 [10,9,8,5,3,2,1,0] (.alt 12 [10,9,8,5,3,2,1,0] (.take 13 (.done [13,10])) .nil) .nil)))) (.alt 11 [6,5,4,3,2,1,0] (.alt 7 [6,5,4,3,2,1,0] (.take 8 (.take 9 (.take 10 (.alt 12 [10,9,8,5,3,2,1,0] (.take 13 (.done [13,10])) .nil)))) .nil) .nil)))))))))) aD κ κ κ (λ_ _ _ _ h=>h) rfl ?_ ?_
 ·simp[go_sem];refine⟨aA c2 rfl rfl ?_,aA c2 rfl rfl ?_⟩
  ·simp[go_sem]
  ·simp[go_sem]
 intro J;simp[go_sem];refine aE aD κ κ ?_;simp[go_sem];refine⟨_,aB c3 rfl rfl,?_⟩;simp[go_sem];refine fM (S:=[(0,.ptr 0 0 17 0),(3,.ptr 1 0 34 0),(12,.i cnt)]) (l:=[some (.box [.i x.num,.i x.den,.i x.turns,.i x.mage,.w x.key,.i x.now,y.rr,y.ll,y.cc,irs x.ir,Rg.RuleG.rs q.nr q.r,Rg.ConG.rs q.nc q.c,Rg.WarG.rs q.nw q.w,Rg.MarkG.rs q.nm q.m,nY x.ch,kss x.ks,qO l]),some (.box o.cells)]) (n:=2)
  (t:=(.take 0 (.take 1 (.take 2 (.take 3 (.take 4 (.take 5 (.take 6 (.take 7 (.take 8 (.alt 9 [8,7,6,5,4,3,2,1,0] (.take 10 (.take 11 (.take 12 (.alt 13 [12,11,10,7,6,5,4,2,1] (.take 14 (.take 15 (.take 16 (.alt 17 [16,15,14,11,10,5,2] (.done [15,14]) .nil)))) .nil)))) .nil))))))))))) aD κ κ κ (λ_ _ _ _ h=>h) rfl ?_ ?_
 ·simp[go_sem]
 intro J;simp[go_sem];refine aF [] (sG x.ir.length ω _) τ rfl trivial ?_;obtain⟨n,hn⟩:∃n:Nat,o.a=n:=⟨o.a.toNat,ω⟩;have hlt:n<x.ir.length:=ω;simp[go_sem];refine bE aD κ 8 κ rfl rfl ?_;simp[go_sem,hn,hlt];refine aF [] (sH x.ch.length ω _) τ rfl trivial ?_;simp[go_sem];refine aC 1 ξ ?_;simp[go_sem];refine aF [3] (bE4 x.ch ω _ n (by rw[<- hn];rfl)) τ rfl ⟨rfl,trivial⟩ ?_;simp[go_sem];refine aF [] (xE x.ks.length ω _) τ rfl trivial ?_;simp[go_sem];obtain⟨I,hI⟩:∃I,x.ir.set n IrG.z=I:=⟨_,rfl⟩;obtain⟨C,hC⟩:∃C,x.ch.filter (λc=>!decide (c.p=(n:Int)))=C:=⟨_,rfl⟩;have hIl:I.length=x.ir.length:=by rw[<- hI];simp
 refine bK (GSt.freeze 2 ξ) ?_;refine bK (GSt.freeze 4 ξ) ?_;refine bK (GSt.wkBox 0 (l':=[.i x.num,.i x.den,.i x.turns,.i x.mage,.w x.key,.i x.now,y.rr,y.ll,y.cc,irs I,Rg.RuleG.rs q.nr q.r,Rg.ConG.rs q.nc q.c,Rg.WarG.rs q.nw q.w,Rg.MarkG.rs q.nm q.m,nY C,.sl 5 4 0 x.ks.length none,qO l]) ξ ?_) ?_
 ·simp[go_sem];refine⟨⟨hIl.symm,λi j hi hj=>?_⟩,by rw[hC],λi j hi hj=>?_⟩
  ·have hi':i<I.length:=ω;rw[aI hi'];have hg:I[i]=if i=n then IrG.z else x.ir[i]:=by
    subst hI;rw[List.getElem_set];by_cases e:n=i
    ·rw[if_pos e,if_pos e.symm]
    ·rw[if_neg e,if_neg λh=>e h.symm]
   rw[hg];by_cases e:i=n
   ·rw[if_pos ⟨e,hj⟩,if_pos e];rcases(ω:j=0\/j=1) with rfl | rfl <;> rfl
   ·rw[if_neg λh=>e h.1,if_neg e,aI hi];rfl
  ·have:=aMw x.ch (λc=>decide (c.p=(n:Int))) i j (by rw[<- hC,xW] at *;simpa using hi);rw[this,<- hC]
 rw[hI,hC];refine aEl aD (α:=Nat) (λk=>[(0,.ptr 0 0 17 0),(3,.r (.rp 34 1 (mN o.cells) 0 0)),(12,.i cnt),(123,.sl 5 4 0 x.ks.length none),(124,.i x.ks.length),(125,.i k)])
  (λk M nx=>k<=x.ks.length/\6<=nx/\M 0=some (.box [.i x.num,.i x.den,.i x.turns,.i x.mage,.w x.key,.i x.now,y.rr,y.ll,y.cc,irs I,Rg.RuleG.rs q.nr q.r,Rg.ConG.rs q.nc q.c,Rg.WarG.rs q.nw q.w,Rg.MarkG.rs q.nm q.m,nY C,.sl 5 4 0 x.ks.length none,qO l])/\
    ∃G,M 5=some (.vec 100 4 x.ks.length G)/\∀i (hi:i<x.ks.length) j,j<4->G i j=.r ((if i<k then x.ks[i].re x.key n else x.ks[i]).f j)) (λk=>x.ks.length - k) 0 ?_ ?_ ?_
 ·refine⟨Nat.zero_le _,τ,ζ,_,ξ,λi hi j hj=>?_⟩;simp[aI hi]
 ·simp[go_sem]
 rintro k J M nx _ ⟨hk,hnx,h0,G,h5,hG⟩;by_cases hlt:k<x.ks.length
 ·have g0:=hG k hlt 0 δ;have g1:=hG k hlt 1 δ;have g2:=hG k hlt 2 δ;have g3:=hG k hlt 3 δ;rw[if_neg (Nat.lt_irrefl k)] at g0 g1 g2 g3;have e0:¬0=nx:=ω;have e5:¬5=nx:=ω;have e0':¬nx=0:=ω;have e5':¬nx=5:=ω;simp[go_sem,hlt,h0,h5,g0,g1,g2,g3,e0,e5,e0',e5'];refine bE aD κ 5 κ rfl rfl ?_;simp[go_sem,hlt,h0,h5,g0,g1,g2,g3,e0,e5,e0',e5',hn];refine bE aD κ 9 κ rfl rfl ?_;simp[go_sem,hlt,h0,h5,g0,g1,g2,g3,e0,e5,e0',e5',hn];have hse:=λgt h=>aNw ⟨x.ks[k].a,x.ks[k].m,cR x.ks[k].s (bT 1#64 n),x.ks[k].z⟩ x.key gt h;have hre:(KsG.mk x.ks[k].a x.ks[k].m (cR x.ks[k].s (bT 1#64 n)) ((KsG.mk x.ks[k].a x.ks[k].m (cR x.ks[k].s (bT 1#64 n)) x.ks[k].z).seal x.key))=x.ks[k].re x.key n:=rfl;rw[hre] at hse;refine⟨(x.ks[k].re x.key n).sv,jW (by simp[go_sem,h0,e0,e0'];exact hse _ (by rfl)) rfl,⟨rfl,rfl⟩,⟨ω,ω⟩,aT ?_⟩;simp[go_sem,h0,e0,e0',e5,e5'];refine⟨k+1,ω,ω,ω,ω,λi hi j hj=>?_⟩;by_cases e:i=k
  ·subst e;rw[if_pos ⟨rfl,hj⟩,if_pos (Nat.lt_succ_self i)];rcases(ω:j=0\/j=1\/j=2\/j=3) with rfl | rfl | rfl | rfl <;> rfl
  ·rw[if_neg λh=>e h.1,hG i hi j hj];by_cases h:i<k
   ·rw[if_pos h,if_pos ω]
   ·rw[if_neg h,if_neg ω]
 have hk':k=x.ks.length:=ω;subst hk';simp[go_sem,h0,h5];refine aV (GSt.freeze 5 h5) (aV (GSt.wkBox 0 (l':=({x with g:=y,ir:=I,r:=q,ch:=C,ks:=x.ks.map λk=>k.re x.key n,lg:=l}:SvG).cells) (by simp[go_sem,h0];rfl) ?_) (aT ?_))
 ·simp[go_sem];intro i j hi hj;rw[hG i hi j hj,if_pos hi,aI (by simpa using hi)];simp[SV.toRV]
 ·simp[go_sem,nW];exact⟨[0],⟨rfl,trivial⟩,τ,λN=>⟨ζ,ζ⟩⟩
end Go.Gx.Sr
namespace Go.Gx
open Go.RowKit
def RV.fgt (m:Nat):RV->RV
 | .v x=>.v x
 | .bx φ=>.bx φ
 | .tg false m' x=>if m'=m then .tg false m' x else .any
 | .tg true m' (.rs k n _)=>.tg true m' (.rs k n λ_ _=>.any)
 | .tg true m' (.rp k n _ r f)=>.tg true m' (.rp k n (λ_ _=>.any) r f)
 | _=>.any
mutual
def SV.fgt (m:Nat):SV->SV
 | .r x=>.r (x.fgt m)
 | .ptr q row k fld=>.ptr q row k fld
 | .sl q k lo n c=>.sl q k lo n c
 | .mp q=>.mp q
 | .fn f fi ca=>.fn f (SV.fgtL m fi) (SV.fgtL m ca)
 | .agg l=>.agg (SV.fgtL m l)
 | .tup l=>.tup (SV.fgtL m l)
def SV.fgtL (m:Nat):List SV->List SV
 | []=>[]
 | s::l=>s.fgt m::SV.fgtL m l
end
def Reg.fgt (m:Nat):Reg->Reg
 | .box l=>.box (SV.fgtL m l)
 | .vec e k n g=>.vec e k n λi j=>(g i j).fgt m
 | .map has val st=>.map has (λa=>(val a).fgt m) st
 | .iter q f c all left la=>.iter (q.fgt m) f c all left la
def aFj (m:Nat) (M:Mem):Mem:=λr=>(M r).map (Reg.fgt m)
structure Wr (m b0:Nat) (w w':World):Prop where
 hi:m<=b0
 other:∀b,b≠b0->w'.heap[b]? =w.heap[b]?
 cell:∀o v,w.cell? ⟨b0,o,none⟩=some v->v.oneCell'=true->∃v',w'.cell? ⟨b0,o,none⟩=some v'/\v'.oneCell'=true
 dr:Dr true w w'
section
variable {σ:Sig} {Z Z':Nat->Prop} {w w':World} {m b0:Nat}
theorem Wr.any (h:Wr m b0 w w') {b o:Nat} {v:Value} (h1:w.cell? ⟨b,o,none⟩=some v) (h2:v.oneCell'=true):∃v',w'.cell? ⟨b,o,none⟩=some v'/\v'.oneCell'=true:=by
 by_cases hb:b=b0
 ·subst hb;exact h.cell o v h1 h2
 ·exact⟨v,by rw[cell?_of_heap (h.other b hb)];exact h1,h2⟩
theorem RV.rel_fgt (hw:Wr m b0 w w') (hz:∀b,Z b->Z' b) (x:RV) (y:Value) (h:x.rel Z w y):(x.fgt m).rel Z' w' y:=by
 unfold RV.fgt;split
 ·exact h
 ·exact h
 ·split
  ·rename_i m' x e;subst e;exact RV.rel_mono (λb hb=>⟨⟨hz b hb.1,hw.dr.tgc hb.2 (.inl rfl)⟩,hw.other b (by have:=aTm.1 hb.2;have:=hw.hi;omega)⟩) x y h
  ·trivial
 ·obtain⟨A,c,e,hc,hn⟩:=h;refine⟨A,c,e,hc,λh0=>?_⟩;obtain⟨b,o,ha,hb,hg⟩:=hn h0;refine⟨b,o,ha,⟨hz b hb.1,hw.dr.tgc hb.2 (.inl rfl)⟩,λi j hi hj=>?_⟩;obtain⟨v,h1,h2,_⟩:=hg i j hi hj;obtain⟨v',g1,g2⟩:=hw.any h1 h2;exact⟨v',g1,g2,trivial⟩
 ·obtain⟨b,o,e,hb,hg⟩:=h;refine⟨b,o,e,⟨hz b hb.1,hw.dr.tgc hb.2 (.inl rfl)⟩,λi j hi hj=>?_⟩;obtain⟨v,h1,h2,_⟩:=hg i j hi hj;obtain⟨v',g1,g2⟩:=hw.any h1 h2;exact⟨v',g1,g2,trivial⟩
 ·trivial
mutual
theorem SV.rel_fgt (hw:Wr m b0 w w') (hz:∀b,Z b->Z' b):∀(s:SV) (y:Value),s.rel σ Z w y->(s.fgt m).rel σ Z' w' y
 | .r x,y,hx=>RV.rel_fgt hw hz x y hx
 | .ptr ..,y,hx=>hx
 | .sl ..,y,hx=>hx
 | .mp ..,y,hx=>hx
 | .fn f fi ca,y,hx=>by
   obtain⟨vs,ws,e,h1,h2⟩:=hx;exact⟨vs,ws,e,SV.relL_fgt hw hz _ _ h1,SV.relL_fgt hw hz _ _ h2⟩
 | .agg l,y,hx=>by
   obtain⟨vs,e,h1,h2⟩:=hx;exact⟨vs,e,h1,SV.relL_fgt hw hz _ _ h2⟩
 | .tup l,y,hx=>by
   obtain⟨vs,e,h2⟩:=hx;exact⟨vs,e,SV.relL_fgt hw hz _ _ h2⟩
theorem SV.relL_fgt (hw:Wr m b0 w w') (hz:∀b,Z b->Z' b):∀(l:List SV) (ys:List Value),SV.relL σ Z w l ys->SV.relL σ Z' w' (SV.fgtL m l) ys
 | [],ys,hx=>hx
 | s::l,ys,hx=>by
   obtain⟨v,vs,e,h1,h2⟩:=hx;exact⟨v,vs,e,SV.rel_fgt hw hz _ _ h1,SV.relL_fgt hw hz _ _ h2⟩
end
theorem RegOK.fgt {L:rY} {R:Reg} (hw:Wr m b0 w w') (hz:∀b,Z b->Z' b) (hb:L.at_≠some b0) (hR:RegOK σ Z w L R):RegOK σ Z' w' L (R.fgt m):=by
 have ho:∀b,L.at_=some b->w'.heap[b]? =w.heap[b]?:=λb h=>hw.other b λe=>hb (e▸h)
 cases R with
 | box l=>
   obtain⟨b',cs,ty,h1,h2,h3,h4⟩:=hR;exact⟨b',cs,ty,h1,(ho b' h1).trans h2,h3,SV.relL_fgt hw hz _ _ h4⟩
 | vec e k n g=>
   obtain⟨h0,hm,hh | ⟨b',cs,h1,h2,h3,h4,h5⟩⟩:=hR
   ·exact⟨h0,hm,.inl hh⟩
   ·refine⟨h0,hm,.inr ⟨b',cs,h1,(ho b' h1).trans h2,h3,h4,λi j hi hj=>?_⟩⟩;obtain⟨v,hv,hv1,hr⟩:=h5 i j hi hj;exact⟨v,hv,hv1,SV.rel_fgt hw hz _ _ hr⟩
 | map has val st=>
   obtain⟨b',es,ck,h1,h2,h3,h4⟩:=hR;exact⟨b',es,ck,h1,(ho b' h1).trans h2,h3.mono λa v _ hv=>SV.rel_fgt hw hz _ _ hv,h4⟩
 | iter q f c all left la=>
   obtain⟨b',mo,seen,sp,h1,h2,h3,h4,h5⟩:=hR;exact⟨b',mo,seen,sp,h1,(ho b' h1).trans h2,h3,SV.rel_fgt hw hz _ _ h4,h5⟩
end
theorem GSt.env {N:cZ} {E E':Env} {M:Mem} {nx:Nat} (h:∀(σ:Sig) (Z:Nat->Prop) (w:World) (t:Nat) (y:Value),(E t).rel σ Z w y->(E' t).rel σ Z w y):GSt N E M nx E' M nx:=
 λB W w0 σ a w hs=>⟨σ,λt=>h _ _ _ _ _ (hs.env t),hs.mem,hs.fr,hs.defers,hs.size,hs.low,hs.pin,hs.good⟩
section
variable {P:Program} {T:Tab} {N:cZ} {E:Env} {M:Mem} {nx:Nat}
theorem aNs {cs vs:List Value} {o:Nat} (h:o+vs.length<=cs.length) (h1:∀v∈vs,v.oneCell'=true) (j:Nat) (v:Value) (hv:cs[j]? =some v) (hv1:v.oneCell'=true):∃v',(hY cs o vs)[j]? =some v'/\v'.oneCell'=true:=by
 rw[tC h];split
 ·have hlt:j - o<vs.length:=ω;exact⟨vs[j - o],List.getElem?_eq_getElem hlt,h1 _ (List.getElem_mem hlt)⟩
 ·exact⟨v,hv,hv1⟩
theorem gO (hT:aX P T) {K:Env->Mem->Nat->Prop} {d:Option Tmp} {t ty:TypeId} {pos:String} {af:Array Edge} {x y:Operand} {i:TI} {m h0 k n row fld:Nat} {get:Nat->Nat->RV} (hti:T.ti t=some i)
 (hx:ev E x=.r (.tg true m (.rp k n get row fld))) (ho:iT (ev E y).cells=true) (hl:(ev E y).cells.length=i.size) (h0i:0<i.size) (hr:row<n) (hf:fld+i.size<=k) (hd:dC N.n d) (hg:N.good=aBp h0) (hm:h0<=m)
 (h:K (aK (λt=>(E t).fgt m) d (.r .any)) (aFj m M) nx):qZ P N ⟨d,.store t x y,ty,pos,af,none⟩ E M nx K:=by
 intro B W w0 σ a w hs next Q hK;have hxr:=bA hs.env x;rw[hx] at hxr;obtain⟨b,o,ex,⟨hz,htg⟩,hc⟩:=hxr;obtain⟨v0,q1,_,_⟩:=hc row (fld+i.size - 1) hr ω;have hgd:=hs.good;rw[hg] at hgd;obtain⟨g0,gW⟩:w0.heap.size=h0/\∀b,¬W b:=hgd;obtain⟨t1,t2⟩:=uR.1 htg;simp only [World.cell?] at q1;split at q1
 ·rename_i c ty' fr hb;have hfr:=t2 c ty' fr hb;subst hfr;simp only [Option.isSome_none,Bool.false_eq_true,if_false] at q1;have hlt:=(Array.getElem?_eq_some_iff.1 q1).1;have hb':w.heap[b]? =some (.cells c.toList.toArray ty' (0,0)):=by simpa using hb
  obtain⟨c1,c2⟩:=lO (bA hs.env y) ho;have hl2:(a.eval y).cells.toList.length=i.size:=by rw[SV.relL_length c1,hl]
  have hfit:o+(row*k+fld)+(a.eval y).cells.toList.length<=c.toList.length:=by rw[hl2];simp;omega
  have hrun:=pH (P:=P) (hT.ti t i hti) (o:=o+(row*k+fld)) hb' rfl hl2 (by rw[<- hl2];exact hfit) c2;have hw:Wr m b w (w.setRow b (hY c.toList (o+(row*k+fld)) (a.eval y).cells.toList).toArray):=⟨t1,λx hx=>dZ _ hx,λo' v hv h1=>by
   simp only [World.cell?,hb',iN hb',Option.isSome_none,Bool.false_eq_true,if_false] at hv ⊢;simpa using aNs hfit c2 o' v (by simpa using hv) h1,Dr.setRow _ _ _⟩
  have hdm:∀r R,aFj m M r=some R->∃R1,M r=some R1/\R=R1.fgt m:=λr R h=>by
   unfold aFj at h
   cases hq:M r with
   | none=>rw[hq] at h;cases h
   | some R1=>rw[hq] at h;cases h;exact⟨R1,rfl,rfl⟩
  have hzz:∀b',Zof B σ M w b'->Zof B σ (aFj m M) (w.setRow b (hY c.toList (o+(row*k+fld)) (a.eval y).cells.toList).toArray) b':=λb' h'=>⟨⟨by rw[eM];exact h'.1.1,h'.1.2⟩,λr R L h1 h2 h3=>by
   obtain⟨R1,e1,_⟩:=hdm r R h1;exact h'.2 r R1 L e1 h2 h3⟩
  refine dO ?_;have e:(execOp a.eval ⟨d,.store t x y,ty,pos,af,none⟩).run P w=.ok .skip (w.setRow b (hY c.toList (o+(row*k+fld)) (a.eval y).cells.toList).toArray):=by
   have e0:(execOp a.eval ⟨d,.store t x y,ty,pos,af,none⟩).run P w=((Instr.storeAt t (a.eval x) (a.eval y)).run P w).andThen λ_ w'=>.ok .skip w':=by simp only [execOp,Sem.run_bind];rfl
   rw[e0,ex,hrun];rfl
  unfold Oper.wp;rw[e];refine hK _ _ _ _ _ _ h (St.put ⟨λt=>SV.rel_fgt hw hzz _ _ (hs.env t),⟨hs.mem.newB,hs.mem.fresh,λr R h=>?_,λr r' R R' L L' b h1 h2 h3 h4 h5 h6=>?_,λr R L b h1 h2 h3=>?_⟩,hs.fr.step ⟨rfl,rfl,rfl,by rw[eM];exact Nat.le_refl _,hw.dr.to,λx hx _=>dZ _ ω⟩,⟨hs.defers.1,?_⟩,hs.size,hs.low,hs.pin,hs.good⟩ hd trivial)
  ·obtain⟨R1,e1,rfl⟩:=hdm r R h;obtain⟨L,g1,g2⟩:=hs.mem.reg r R1 e1;exact⟨L,g1,g2.fgt hw hzz (hz.2 r R1 L e1 g1)⟩
  ·obtain⟨R1,e1,_⟩:=hdm r R h1;obtain⟨R2,e2,_⟩:=hdm r' R' h2;exact hs.mem.inj r r' R1 R2 L L' b e1 e2 h3 h4 h5 h6
  ·obtain⟨R1,e1,_⟩:=hdm r R h1;exact hs.mem.own r R1 L b e1 h2 h3
  ·obtain⟨_,l,d1,d2,d3⟩:=hs.defers;refine⟨l,d1,d2,λD hD=>⟨(d3 D hD).1,hzz D (d3 D hD).2.1,?_⟩⟩;rw[hw.other D λe=>by have h9:=(d3 D hD).2.2;rw[e,hb'] at h9;cases h9];exact(d3 D hD).2.2
 ·cases q1
def aAz (h:Bool) (m:Nat) (E:Env):Env:=λt=>match E t with
 | .r (.v z)=>.r (.v z)
 | .r (.tg h' m' x)=>if h'=h/\m'=m then .r x else .r .any
 | _=>.r .any
theorem aOt (hT:aX P T) {K:Env->Mem->Nat->Prop} {dst:Option Tmp} {op:Op} {ty:TypeId} {pos:String} {af:Array Edge} (h:Bool) (m:Nat) {ob:Prop} {s:SV} (hop:dU T op (aAz h m E) lH 0=.pure ob s) (hob:ob) (hd:dC N.n dst) (hc:s.closed=true)
 (hk:K (aK E dst (s.tag h m)) M nx):qZ P N ⟨dst,op,ty,pos,af,none⟩ E M nx K:=by
 intro B W w0 σ a w hs next Q hK
 let B1:Nat->Prop:=λb=>(Zof B σ M w b/\tgc h m w b)\/w.heap.size<=b
 have hm1:MOK B1 (λ_=>False) w.heap.size (λ_=>none) lH (eF 0) w:=⟨λb hb=>.inr (hb.elim id False.elim),λ_ _=>rfl,λr R h=>(by cases h),λr r' R R' L L' b h=>(by cases h),λr R L b h=>(by cases h)⟩;have hz:∀b,Zof B1 (λ_=>none) lH w b->Zof B σ M w b/\tgc h m w b:=λb hb=>hb.1.2.elim id λh=>absurd hb.1.1 (Nat.not_lt.2 h);have hz':∀b,Zof B σ M w b->tgc h m w b->Zof B1 (λ_=>none) lH w b:=λb h1 h2=>⟨⟨h1.1.1,.inl ⟨h1,h2⟩⟩,λr R L h=>(by cases h)⟩;have he:EOK (λ_=>none) (Zof B1 (λ_=>none) lH w) w (aAz h m E) a:=λt=>by
  have ht:=hs.env t;unfold aAz;split
  ·rename_i e;rw[e] at ht;exact ht
  ·rename_i h' m' x e;rw[e] at ht;split
   ·rename_i hh;obtain⟨rfl,rfl⟩:=hh;exact RV.rel_mono (λb hb=>⟨hz' b hb.1 hb.2,rfl⟩) x _ ht
   ·trivial
  ·trivial
 have h1:=rV (P:=P) (F:=eF 0) (nx:=0) hT hm1 (Nat.le_refl 0) (Nat.le_refl _) he ⟨dst,op,ty,pos,af,none⟩;rw[hop] at h1;obtain⟨y,hr,hy⟩:=h1 hob;have hy2:(s.tag h m).rel σ (Zof B σ M w) w y:=SV.totag hz s y (SV.rel_closed (λb hb=>⟨hb,rfl⟩) s y hc hy);refine dO ?_;unfold Oper.wp;rcases hr with hr | ⟨hr,rfl⟩ <;> rw[hr] <;> exact hK _ _ _ _ _ _ hk (St.put hs hd hy2)
end
end Go.Gx
namespace Go.Gx
open Go.RowKit
def RV.cut (h:Bool) (m:Nat):RV->RV
 | .v z=>.v z
 | .bx φ=>.bx φ
 | .tg h' m' x=>if h'=h/\m'=m then x else .any
 | _=>.any
theorem RV.rel_cut {Z Z':Nat->Prop} {w:World} {h:Bool} {m:Nat} (hz:∀b,Z b->tgc h m w b->Z' b) {x:RV} {y:Value} (hx:x.rel Z w y):(x.cut h m).rel Z' w y:=by
 unfold RV.cut;split
 ·exact hx
 ·exact hx
 ·rename_i h' m' x;split
  ·rename_i hh;obtain⟨rfl,rfl⟩:=hh;exact RV.rel_mono (λb hb=>⟨hz b hb.1 hb.2,rfl⟩) x y hx
  ·trivial
 ·trivial
mutual
def SV.fzT (m ref:Nat) (R:Reg):SV->SV
 | .r x=>.r x
 | .ptr q row k fld=>if q=ref then .r .any else .ptr q row k fld
 | .sl q k lo n c=>if q=ref then (match R with
   | .vec e k' N g=>if k'=k/\lo+n<=N then .r (.tg true m (.rs k n λi j=>((g (lo+i) j).toRV).cut true m)) else .r .any
   | _=>.r .any) else .sl q k lo n c
 | .mp q=>if q=ref then .r .any else .mp q
 | .fn f fi ca=>.fn f (SV.fzTL m ref R fi) (SV.fzTL m ref R ca)
 | .agg l=>.agg (SV.fzTL m ref R l)
 | .tup l=>.tup (SV.fzTL m ref R l)
def SV.fzTL (m ref:Nat) (R:Reg):List SV->List SV
 | []=>[]
 | s::l=>s.fzT m ref R::SV.fzTL m ref R l
end
def Reg.fzT (m ref:Nat) (R:Reg):Reg->Reg
 | .box l=>.box (SV.fzTL m ref R l)
 | .vec e k n g=>.vec e k n λi j=>(g i j).fzT m ref R
 | .map has val st=>.map has (λa=>(val a).fzT m ref R) st
 | .iter q f c all left la=>.iter (q.fzT m ref R) f c all left la
def aDi (m ref:Nat) (R:Reg) (M:Mem):Mem:=λr=>if r=ref then none else (M r).map (Reg.fzT m ref R)
attribute [go_sem] SV.fzT SV.fzTL Reg.fzT aDi
section
variable {σ:Sig} {Z Z':Nat->Prop} {w:World} {m ref:Nat} {R:Reg} {L:rY}
theorem RegOK.unfz (hR:RegOK σ Z w L R) {b:Nat} (h:L.at_=some b):∀c t fr,w.heap[b]? =some (Obj.cells c t fr)->fr=(0,0):=by
 intro c t fr hc
 cases R with
 | box l=>
   obtain⟨b',cs,ty,h1,h2,_⟩:=hR;rw[h] at h1;cases h1;rw[h2] at hc;cases hc;rfl
 | vec e k n g=>
   obtain⟨_,_,hh | ⟨b',cs,h1,h2,_⟩⟩:=hR
   ·rw[h] at hh;cases hh.1
   ·rw[h] at h1;cases h1;rw[h2] at hc;cases hc;rfl
 | map has val st=>
   obtain⟨b',es,ck,h1,h2,_⟩:=hR;rw[h] at h1;cases h1;rw[h2] at hc;cases hc
 | iter q f c all left la=>
   obtain⟨b',mo,seen,sp,h1,h2,_⟩:=hR;rw[h] at h1;cases h1;rw[h2] at hc;cases hc
mutual
theorem SV.rel_fzT (hσ:σ ref=some L) (hR:RegOK σ Z w L R) (hz:∀b,Z b->Z' b) (hb:∀b,L.at_=some b->Z' b/\tgc true m w b):∀(s:SV) (y:Value),s.rel σ Z w y->(s.fzT m ref R).rel σ Z' w y
 | .r x,y,h=>by
   unfold SV.fzT;exact RV.rel_mono (λb hb=>⟨hz b hb,rfl⟩) x y h
 | .ptr q row k fld,y,h=>by
   unfold SV.fzT;split
   ·trivial
   ·exact h
 | .sl q k lo n c,y,h=>by
   unfold SV.fzT;split
   ·rename_i hq;subst hq
    cases R with
    | vec e k' N g=>
      dsimp only;split
      ·rename_i hk;obtain⟨rfl,hle⟩:=hk;obtain⟨L',A,g1,rfl,g2,g3,g4,g5⟩:=h;rw[hσ] at g1;cases g1;refine⟨A,_,rfl,g2,λh0=>?_⟩;obtain⟨b,q1,rfl⟩:=g4 ω;obtain⟨f0,fm,f | ⟨b',cs,f1,f2,f3,fo,f5⟩⟩:=hR
       ·rw[q1] at f;cases f.1
       rw[q1] at f1;cases f1;refine⟨b,lo*k',rfl,hb b q1,λi j hi hj=>?_⟩;obtain⟨v,v1,v0,v2⟩:=f5 (lo+i) j ω hj;refine⟨v,?_,v0,RV.rel_cut (λb h1 h2=>⟨hz b h1,h2⟩) (iO v2)⟩;simp only [World.cell?,f2];rw[<- v1,Nat.add_mul,Nat.add_assoc];simp
      ·trivial
    | _=>trivial
   ·exact h
 | .mp q,y,h=>by
   unfold SV.fzT;split
   ·trivial
   ·exact h
 | .fn f fi ca,y,h=>by
   obtain⟨vs,ws,e,h1,h2⟩:=h;exact⟨vs,ws,e,SV.relL_fzT hσ hR hz hb _ _ h1,SV.relL_fzT hσ hR hz hb _ _ h2⟩
 | .agg l,y,h=>by
   obtain⟨vs,e,h1,h2⟩:=h;exact⟨vs,e,h1,SV.relL_fzT hσ hR hz hb _ _ h2⟩
 | .tup l,y,h=>by
   obtain⟨vs,e,h2⟩:=h;exact⟨vs,e,SV.relL_fzT hσ hR hz hb _ _ h2⟩
theorem SV.relL_fzT (hσ:σ ref=some L) (hR:RegOK σ Z w L R) (hz:∀b,Z b->Z' b) (hb:∀b,L.at_=some b->Z' b/\tgc true m w b):∀(l:List SV) (ys:List Value),SV.relL σ Z w l ys->SV.relL σ Z' w (SV.fzTL m ref R l) ys
 | [],ys,h=>h
 | s::l,ys,h=>by
   obtain⟨v,vs',e,h1,h2⟩:=h;exact⟨v,vs',e,SV.rel_fzT hσ hR hz hb s v h1,SV.relL_fzT hσ hR hz hb l vs' h2⟩
end
end
theorem MOK.freezeT {B W F:Nat->Prop} {n0 m:Nat} {σ:Sig} {M:Mem} {w:World} (hm:MOK B W n0 σ M F w) {ref:Nat} {R:Reg} (hM:M ref=some R) (hW:∀b,¬W b) (hmn:m<=n0) :
 MOK B W n0 σ (aDi m ref R M) F w/\∀s y,SV.rel σ (Zof B σ M w) w s y->(s.fzT m ref R).rel σ (Zof B σ (aDi m ref R M) w) w y:=by
 obtain⟨L,hσ,hR⟩:=hm.reg ref R hM;have hk:∀r R',aDi m ref R M r=some R'->r≠ref/\∃R1,M r=some R1/\R'=Reg.fzT m ref R R1:=by
  intro r R' h;unfold aDi at h;split at h
  ·cases h
  ·rename_i hne
   cases hq:M r with
   | none=>rw[hq] at h;cases h
   | some R1=>rw[hq] at h;cases h;exact⟨hne,R1,rfl,rfl⟩
 have hz:∀b,Zof B σ M w b->Zof B σ (aDi m ref R M) w b:=λb hb=>⟨hb.1,λr R' L' h1 h2 h3=>by
  obtain⟨_,R1,e1,_⟩:=hk r R' h1;exact hb.2 r R1 L' e1 h2 h3⟩
 have hnew:∀b,L.at_=some b->n0<=b:=λb h=>(hm.own ref R L b hM hσ h).elim (λh=>(hW b h).elim) id;have hb:∀b,L.at_=some b->Zof B σ (aDi m ref R M) w b/\tgc true m w b:=λb h=>⟨⟨⟨hR.block h,hm.newB b (.inl (hnew b h))⟩,λr R' L' h1 h2 h3=>by
  obtain⟨hne,R1,e1,_⟩:=hk r R' h1;exact hne (hm.inj r ref R1 R L' L b e1 hM h2 hσ h3 h)⟩,uR.2 ⟨Nat.le_trans hmn (hnew b h),hR.unfz h⟩⟩
 refine⟨⟨hm.newB,hm.fresh,λr R' h=>?_,λr r' R1 R2 L1 L2 x h1 h2 h3 h4 h5 h6=>?_,λr R' L' x h1 h2 h3=>?_⟩,λs y h=>SV.rel_fzT hσ hR hz hb s y h⟩
 ·obtain⟨hne,R1,e1,rfl⟩:=hk r R' h;obtain⟨L',g1,g2⟩:=hm.reg r R1 e1;refine⟨L',g1,?_⟩
  cases R1 with
  | box l=>
    obtain⟨b',cs,ty,h1,h2,h3,h4⟩:=g2;exact⟨b',cs,ty,h1,h2,h3,SV.relL_fzT hσ hR hz hb _ _ h4⟩
  | vec e k n g=>
    obtain⟨q1,q2,q3⟩:=g2;exact⟨q1,q2,q3.imp id λ⟨b,cs,r1,r2,r3,r4,r5⟩=>⟨b,cs,r1,r2,r3,r4,λi j hi hj=>by
     obtain⟨v,v1,v0,v2⟩:=r5 i j hi hj;exact⟨v,v1,v0,SV.rel_fzT hσ hR hz hb _ _ v2⟩⟩⟩
  | map has val st=>
    obtain⟨b',es,ck,h1,h2,h3,h4⟩:=g2;exact⟨b',es,ck,h1,h2,h3.mono λa v _ hv=>SV.rel_fzT hσ hR hz hb _ _ hv,h4⟩
  | iter q f c all left la=>
    obtain⟨b',mo,seen,sp,h1,h2,h3,h4,h5⟩:=g2;exact⟨b',mo,seen,sp,h1,h2,h3,SV.rel_fzT hσ hR hz hb _ _ h4,h5⟩
 ·obtain⟨_,R3,e1,_⟩:=hk r R1 h1;obtain⟨_,R4,e2,_⟩:=hk r' R2 h2;exact hm.inj r r' R3 R4 L1 L2 x e1 e2 h3 h4 h5 h6
 ·obtain⟨_,R3,e1,_⟩:=hk r R' h1;exact hm.own r R3 L' x e1 h2 h3
theorem GSt.freezeT {N:cZ} {E:Env} {M:Mem} {nx h0:Nat} (ref:Nat) {R:Reg} (hg:N.good=aBp h0) (hM:M ref=some R):GSt N E M nx (λt=>(E t).fzT h0 ref R) (aDi h0 ref R M) nx:=by
 intro B W w0 σ a w h;have hgd:=h.good;rw[hg] at hgd;obtain⟨g0,gW⟩:w0.heap.size=h0/\∀b,¬W b:=hgd;obtain⟨h1,h2⟩:=h.mem.freezeT hM gW (Nat.le_of_eq g0.symm);refine⟨σ,λt=>h2 _ _ (h.env t),h1,h.fr,h.defers.keep (λb hb=>⟨⟨hb.1,λr R' L h3 h4=>?_⟩,rfl⟩),h.size,h.low,h.pin,h.good⟩;unfold aDi at h3;split at h3
 ·cases h3
 ·cases hr:M r with
  | none=>rw[hr] at h3;cases h3
  | some R3=>exact hb.2 r R3 L hr h4
def RV.un1:RV->RV
 | .tg _ _ x=>x
 | x=>x
def RV.un:RV->RV
 | .rp k n g row fld=>.rp k n (λi j=>(g i j).un1) row fld
 | .tg _ _ x=>x
 | x=>x
mutual
def SV.un:SV->SV
 | .r x=>.r x.un
 | .ptr q row k fld=>.ptr q row k fld
 | .sl q k lo n c=>.sl q k lo n c
 | .mp q=>.mp q
 | .fn f fi ca=>.fn f fi ca
 | .agg l=>.agg (SV.unL l)
 | .tup l=>.tup (SV.unL l)
def SV.unL:List SV->List SV
 | []=>[]
 | s::l=>s.un::SV.unL l
end
section
variable {σ:Sig} {Z Z':Nat->Prop} {w:World}
theorem RV.rel_un1 (x:RV) (y:Value) (h:x.rel Z w y):x.un1.rel Z w y:=by
 unfold RV.un1;split
 ·rename_i h' m x;exact RV.rel_mono (λb hb=>⟨hb.1,rfl⟩) x y h
 ·exact h
theorem RV.rel_un (x:RV) (y:Value) (h:x.rel Z w y):x.un.rel Z w y:=by
 unfold RV.un;split
 ·obtain⟨b,o,e,hz,hg⟩:=h;refine⟨b,o,e,hz,λi j hi hj=>?_⟩;obtain⟨v,h1,h2,h3⟩:=hg i j hi hj;exact⟨v,h1,h2,RV.rel_un1 _ _ h3⟩
 ·rename_i h' m x;exact RV.rel_mono (λb hb=>⟨hb.1,rfl⟩) x y h
 ·exact h
mutual
theorem SV.rel_un:∀(s:SV) (y:Value),s.rel σ Z w y->s.un.rel σ Z w y
 | .r x,y,h=>RV.rel_un x y h
 | .ptr ..,y,h=>h
 | .sl ..,y,h=>h
 | .mp ..,y,h=>h
 | .fn ..,y,h=>h
 | .agg l,y,h=>by
   obtain⟨vs,e,h1,h2⟩:=h;exact⟨vs,e,h1,SV.relL_un _ _ h2⟩
 | .tup l,y,h=>by
   obtain⟨vs,e,h2⟩:=h;exact⟨vs,e,SV.relL_un _ _ h2⟩
theorem SV.relL_un:∀(l:List SV) (ys:List Value),SV.relL σ Z w l ys->SV.relL σ Z w (SV.unL l) ys
 | [],ys,h=>h
 | s::l,ys,h=>by
   obtain⟨v,vs',e,h1,h2⟩:=h;exact⟨v,vs',e,SV.rel_un s v h1,SV.relL_un l vs' h2⟩
end
end
section
variable {P:Program} {T:Tab}
theorem jV {N:cZ} {f:FuncId} {args:List SV} {M:Mem} {nx:Nat} {K:SV->Mem->Nat->(SV->SV)->Prop} (h:dV P N f (SV.unL args) M nx K):dV P N f args M nx K:=
 aPo (λσ Z w vs h=>SV.relL_un _ _ h) h
theorem Pure.un {f:FuncId} {args:List SV} {φ:SV->Prop} (h:Pure P f (SV.unL args) φ):Pure P f args φ:=λZ w vs hZ ha=>h Z w vs hZ (SV.relL_un _ _ ha)
theorem OwnSC.le {uu:Bool} {C:World->Prop} {np:Nat} {f:FuncId} {Rs Rs':List Reg} {args args':List SV} {S S':SV} (h:OwnSC P uu C np f Rs args S Rs') (ha:∀σ Z w vs,SV.relL σ Z w args' vs->SV.relL σ Z w args vs) (hs:∀σ Z w y,S.rel σ Z w y->S'.rel σ Z w y) :
 OwnSC P uu C np f Rs args' S' Rs':=λB σ w vs hC hm hr=>by
 obtain⟨h1,h2⟩:=h B σ w vs hC hm (ha _ _ _ _ hr);exact⟨h1,h2.mono λe w' ⟨y,σ',e1,e2,e3,e4⟩=>⟨y,σ',e1,e2,hs _ _ _ _ e3,e4⟩⟩
theorem RV.tag_le {h0 m:Nat} (hle:h0<=m) {Z:Nat->Prop} {w:World} (x:RV) (y:Value) (h:(x.tag true m).rel Z w y):(x.tag true h0).rel Z w y:=by
 have key:∀x:RV,(RV.tg true m x).rel Z w y->(RV.tg true h0 x).rel Z w y:=λx h=>RV.rel_mono (λb hb=>⟨⟨hb.1,uR.2 ⟨Nat.le_trans hle (uR.1 hb.2).1,(uR.1 hb.2).2⟩⟩,rfl⟩) x y h
 cases x <;> first | exact key _ h | exact h
mutual
theorem SV.tag_le {σ:Sig} {h0 m:Nat} (hle:h0<=m) {Z:Nat->Prop} {w:World}:∀(s:SV) (y:Value),(s.tag true m).rel σ Z w y->(s.tag true h0).rel σ Z w y
 | .r x,y,h=>RV.tag_le hle x y h
 | .ptr ..,y,h=>h
 | .sl ..,y,h=>h
 | .mp ..,y,h=>h
 | .fn f fi ca,y,h=>by
   obtain⟨vs,ws,e,h1,h2⟩:=h;exact⟨vs,ws,e,SV.tagL_le hle _ _ h1,SV.tagL_le hle _ _ h2⟩
 | .agg l,y,h=>by
   obtain⟨vs,e,h1,h2⟩:=h;exact⟨vs,e,h1,SV.tagL_le hle _ _ h2⟩
 | .tup l,y,h=>by
   obtain⟨vs,e,h2⟩:=h;exact⟨vs,e,SV.tagL_le hle _ _ h2⟩
theorem SV.tagL_le {σ:Sig} {h0 m:Nat} (hle:h0<=m) {Z:Nat->Prop} {w:World}:∀(l:List SV) (ys:List Value),SV.relL σ Z w (SV.tagL true m l) ys->SV.relL σ Z w (SV.tagL true h0 l) ys
 | [],ys,h=>h
 | s::l,ys,h=>by
   obtain⟨v,vs',e,h1,h2⟩:=h;exact⟨v,vs',e,SV.tag_le hle s v h1,SV.tagL_le hle l vs' h2⟩
end
theorem fN {N:cZ} {h0:Nat} {f:FuncId} {args:List SV} {s:SV} {M:Mem} {nx:Nat} {K:SV->Mem->Nat->(SV->SV)->Prop} (hp:PureW P f args λm=>s.tag true m) (hg:N.good=aBp h0) (hc:SV.closedL args=true) (hv:∀m,(s.tag true m).closed=true)
 (hK:K (s.tag true h0) M nx id):dV P N f args M nx K:=by
 intro B W w0 σ w vs hm hn hl hgd ha;rw[hg] at hgd;obtain⟨g0,gW⟩:w0.heap.size=h0/\∀b,¬W b:=hgd;obtain⟨h1,h2⟩:=hp (Zof B σ M w) w vs (λb hb=>hb.1.1) (SV.relL_closed (λb hb=>⟨hb,rfl⟩) _ _ hc ha);refine .inl ⟨h1,h2.mono λe w' h=>?_⟩;obtain⟨y,rfl,hr,hf⟩:=h;refine iD hm hn (hf.as λh=>by rw[hg] at h;exact h) hK (SV.rel_closed (λb hb=>⟨?_,rfl⟩) _ y (hv _) (SV.tag_le ω _ _ hr)) hl;rcases hb with hb | hb
 ·exact⟨⟨Nat.lt_of_lt_of_le hb.1.1 hf.size,hb.1.2⟩,hb.2⟩
 ·refine⟨⟨hb.2,hm.newB b (.inl ω)⟩,λr R L h1 h2 h3=>?_⟩;obtain⟨L',e1,e2⟩:=hm.reg r R h1;rw[h2] at e1;cases e1;have:=e2.block h3;omega
theorem aNi {f:FuncId} {args:List SV} {k n:Nat} {e:TypeId} {g:Nat->Nat->SV} (h:Own P f [] args (.sl 0 k 0 n none) [.vec e k n g]):PureW P f args λm=>.r (.tg true m (.rs k n λi j=>((g i j).toRV).cut true m)):=by
 intro Z w vs hZ ha;have cX:∀r,bD [] r=none:=λr=>by rw[cE];rfl
 have hno:∀b,¬iS (λ_=>none) (bD []) b:=by
  rintro b ⟨r,R,L,h1,_⟩;rw[cX] at h1;cases h1
 have hm:MOK (λb=>Z b\/w.heap.size<=b) (iS (λ_=>none) (bD [])) w.heap.size (λ_=>none) (bD []) (eF ([]:List Reg).length) w:=
  ⟨λb hb=>.inr (hb.elim id λh=>(hno b h).elim),λ_ _=>rfl,λr R h=>(by rw[cX] at h;cases h),λr r' R R' L L' b h=>(by rw[cX] at h;cases h),λr R L b h=>(by rw[cX] at h;cases h)⟩
 have hk:bZ Z (Zof (λb=>Z b\/w.heap.size<=b) (λ_=>none) (bD []) w) w w:=λb hb=>⟨⟨⟨hZ b hb,.inl hb⟩,λr R L h=>(by rw[cX] at h;cases h)⟩,rfl⟩;obtain⟨h1,h2⟩:=h _ _ w vs hm (SV.relL_mono (λ_ _ h=>h) hk _ _ ha);refine⟨h1,h2.mono λe w' h'=>?_⟩;obtain⟨y,σ',rfl,hm',hrel,hfr,_⟩:=h';have hM0:∀R,bD [R] 0=some R:=λR=>by rw[cE];rfl
 obtain⟨m1,m2⟩:=hm'.freezeT (m:=w.heap.size) (hM0 _) hno (Nat.le_refl _);have h3:=m2 _ _ hrel;simp only [SV.fzT,if_true,Nat.zero_add,true_and,Nat.le_refl] at h3;refine⟨y,rfl,RV.rel_mono (λb hb=>⟨?_,rfl⟩) (.tg true w.heap.size (.rs k n λi j=>((g i j).toRV).cut true w.heap.size)) y h3,⟨hfr.os,hfr.tape,hfr.output,hfr.size,hfr.drawn.to,λb hb _=>hfr.block b hb (hno b)⟩⟩;exact hb.1.2.imp id λh=>⟨h,hb.1.1⟩
theorem PureW.le {f:FuncId} {args:List SV} {V V':Nat->SV} (h:PureW P f args V) (hv:∀m σ Z w y,(V m).rel σ Z w y->(V' m).rel σ Z w y):PureW P f args V':=λZ w vs hZ ha=>by
 obtain⟨h1,h2⟩:=h Z w vs hZ ha;exact⟨h1,h2.mono λe w' ⟨y,e1,e2,e3⟩=>⟨y,e1,hv _ _ _ _ _ e2,e3⟩⟩
theorem eJ {f:FuncId} {args:List SV} {k n:Nat} {e:TypeId} {g:Nat->Nat->RV} (h:Own P f [] args (.sl 0 k 0 n none) [.vec e k n λi j=>.r (g i j)]) (hg:∀i j,i<n->j<k->∃z,g i j=.v z):PureW P f args λm=>SV.tag true m (.r (.rs k n g)):=
 (aNi h).le λm σ Z w y hy=>by
   obtain⟨A,c,e1,e2,e3⟩:=hy;refine⟨A,c,e1,e2,λh0=>?_⟩;obtain⟨b,o,q1,q2,q3⟩:=e3 h0;refine⟨b,o,q1,q2,λi j hi hj=>?_⟩;obtain⟨v,v1,v2,v3⟩:=q3 i j hi hj;refine⟨v,v1,v2,?_⟩;obtain⟨z,hz⟩:=hg i j hi hj;simp only [SV.toRV,hz,RV.cut] at v3;rw[hz];exact v3
theorem sE {N:cZ} {m cp:Nat} {f:FuncId} {Rs Rs':List Reg} {args0 args:List SV} {S:SV} {M:Mem} {nx:Nat} {K:SV->Mem->Nat->(SV->SV)->Prop} (ρl:List Nat) (hp:aEp P m cp f Rs args0 S Rs') (hu:N.good.u=true->false=true) (hgm:∀B W (w0:W0),N.good.p B W w0->m<=w0.heap.size) (hcp:cp<=Rs.length) (hnd:ρl.Nodup)
 (ha:args=SV.renL (λi=>(ρl[i]?).getD nx) args0) (hM:atM M (λi=>(ρl[i]?).getD nx) ρl Rs)
 (hK:K (S.ren (rS cp nx ρl)) (tV (rS cp nx ρl) 0 Rs' (oJ ρl M)) (nx+Rs'.length) id):dV P N f args M nx K:=
 oE ρl hp hu (λB W w0 w h h'=>Nat.le_trans (hgm B W w0 h) h') hcp hnd ha hM hK
theorem PureK.argsL {f:FuncId} {args args':List SV} {φ:SV->Prop} (h:PureK P f args' φ) (hl:leL args args'):PureK P f args φ:=λZ w vs hZ ha=>h Z w vs hZ (pX _ _ _ hl ha)
def SV.bare:SV->Prop
 | .r (.v _)=>True
 | .r (.rs _ n _)=>n=0
 | .agg l=>∀s∈l,match s with
   | .r (.v _)=>True
   | .r (.rs _ n _)=>n=0
   | _=>False
 | .ptr ..=>True
 | _=>False
theorem RV.rel_bare {h:Bool} {m:Nat} {Z:Nat->Prop} {w:World} {x:RV} {y:Value} (hb:(SV.r x).bare) (hx:x.rel Z w y):(x.tag h m).rel Z w y:=by
 cases x with
 | v z=>exact hx
 | rs k n g=>
   have hn:n=0:=hb;subst hn;obtain⟨A,c,e,hc,_⟩:=hx;exact⟨A,c,e,hc,λh0=>absurd h0 (Nat.lt_irrefl 0)⟩
 | _=>exact hb.elim
theorem SV.rel_bareL {σ:Sig} {h:Bool} {m:Nat} {Z:Nat->Prop} {w:World}:∀(l:List SV) (ys:List Value),(∀s∈l,match s with
 | .r (.v _)=>True
 | .r (.rs _ n _)=>n=0
 | _=>False)->SV.relL σ Z w l ys->SV.relL σ Z w (SV.tagL h m l) ys
 | [],ys,_,h=>h
 | s::l,ys,hb,hr=>by
   obtain⟨v,vs',e,h1,h2⟩:=hr;refine⟨v,vs',e,?_,SV.rel_bareL l vs' (λs hs=>hb s (List.mem_cons_of_mem _ hs)) h2⟩;have h0:=hb s List.mem_cons_self
   cases s with
   | r x=>exact RV.rel_bare (x:=x) (by cases x <;> first | exact trivial | exact h0) h1
   | _=>exact h0.elim
theorem SV.rel_bare {σ:Sig} {h:Bool} {m:Nat} {Z:Nat->Prop} {w:World} (s:SV) (y:Value) (hb:s.bare) (hr:s.rel σ Z w y):(s.tag h m).rel σ Z w y:=by
 cases s with
 | r x=>exact RV.rel_bare hb hr
 | ptr=>exact hr
 | agg l=>
   obtain⟨vs,e,h1,h2⟩:=hr;exact⟨vs,e,h1,SV.rel_bareL _ _ hb h2⟩
 | _=>exact hb.elim
theorem SV.untag1 {σ:Sig} {h:Bool} {m:Nat} {Z:Nat->Prop} {w:World} (s:SV) (y:Value) (hr:(s.tag h m).rel σ Z w y):s.rel σ Z w y:=SV.untag (λb hb _=>hb) s y hr
theorem GSt.un1 {N:cZ} {E:Env} {M:Mem} {nx:Nat} (t:Nat):GSt N E M nx (bH E t (E t).un) M nx:=GSt.env λσ Z w t' y h=>by
 by_cases e:t'=t
 ·subst e;rw[aZ];exact SV.rel_un _ _ h
 ·rw[aW _ _ e];exact h
theorem GSt.wkR {N:cZ} {E:Env} {M:Mem} {nx:Nat} (q:Nat) {R:Reg} (R':Reg) (hM:M q=some R) (hw:Reg.wk (some R) (some R')):GSt N E M nx E (bH M q (some R')) nx:=by
 refine GSt.wk λr=>?_;unfold bH;by_cases e:r=q
 ·subst e;rw[if_pos rfl,hM];exact hw
 ·rw[if_neg e];exact Or.inl (Reg.sub_rfl _)
end
section
variable {h:Bool} {m:Nat}
@[go_sem]theorem RV.tag_any:RV.any.tag h m=.any:=rfl
@[go_sem]theorem RV.tag_v (z:Value):(RV.v z).tag h m=.v z:=rfl
@[go_sem]theorem RV.tag_bx (φ:Bool->Prop):(RV.bx φ).tag h m=.bx φ:=rfl
@[go_sem]theorem RV.tag_rs (k n:Nat) (g:Nat->Nat->RV):(RV.rs k n g).tag h m=.tg h m (.rs k n g):=rfl
@[go_sem]theorem RV.tag_rf (k n:Nat) (g:Nat->Nat->RV):(RV.rf k n g).tag h m=.tg h m (.rf k n g):=rfl
@[go_sem]theorem RV.tag_rp (k n:Nat) (g:Nat->Nat->RV) (a b:Nat):(RV.rp k n g a b).tag h m=.tg h m (.rp k n g a b):=rfl
@[go_sem]theorem RV.tag_tg (h':Bool) (m':Nat) (x:RV):(RV.tg h' m' x).tag h m=.tg h m (.tg h' m' x):=rfl
@[go_sem]theorem RV.cut_v (z:Value):(RV.v z).cut h m=.v z:=rfl
@[go_sem]theorem RV.un_v (z:Value):(RV.v z).un=.v z:=rfl
@[go_sem]theorem RV.un_tg (x:RV):(RV.tg h m x).un=x:=rfl
@[go_sem]theorem RV.un_rs (k n:Nat) (g:Nat->Nat->RV):(RV.rs k n g).un=.rs k n g:=rfl
@[go_sem]theorem RV.un_rp (k n:Nat) (g:Nat->Nat->RV) (a b:Nat):(RV.rp k n g a b).un=.rp k n (λi j=>(g i j).un1) a b:=rfl
@[go_sem]theorem RV.un_any:RV.any.un=.any:=rfl
@[go_sem]theorem RV.fgt_v (z:Value):(RV.v z).fgt m=.v z:=rfl
@[go_sem]theorem RV.fgt_any:RV.any.fgt m=.any:=rfl
@[go_sem]theorem RV.fgt_lo (x:RV):(RV.tg false m x).fgt m=.tg false m x:=by simp[RV.fgt]
@[go_sem]theorem RV.fgt_hi (m' k n:Nat) (g:Nat->Nat->RV):(RV.tg true m' (.rs k n g)).fgt m=.tg true m' (.rs k n λ_ _=>.any):=rfl
@[go_sem]theorem RV.fgt_hp (m' k n:Nat) (g:Nat->Nat->RV) (a b:Nat):(RV.tg true m' (.rp k n g a b)).fgt m=.tg true m' (.rp k n (λ_ _=>.any) a b):=rfl
@[go_sem]theorem RV.fgt_rs (k n:Nat) (g:Nat->Nat->RV):(RV.rs k n g).fgt m=.any:=rfl
@[go_sem]theorem RV.fgt_rp (k n:Nat) (g:Nat->Nat->RV) (a b:Nat):(RV.rp k n g a b).fgt m=.any:=rfl
end
attribute [go_sem] SV.un SV.unL SV.tag SV.tagL Reg.tag SV.fgt SV.fgtL Reg.fgt aFj aJf
end Go.Gx
