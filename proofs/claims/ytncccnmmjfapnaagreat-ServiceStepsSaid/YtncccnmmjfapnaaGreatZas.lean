/-
 Texts of the walk, merged: Yp Yv Yw Yn.
-/
import Derived.Test.YtncccnmmjfapnaaGreatZar
import Derived.Test.YtncccnmmjfapnaaGreatZap
import Derived.Test.YtncccnmmjfapnaaGreatZam
set_option linter.unusedVariables false
set_option linter.unusedSimpArgs false
set_option maxRecDepth 100000
set_option maxHeartbeats 4000000
namespace Go.Gx.Rg
open Go.RowKit Go.Proofs Go.Proofs.YtncccnmmjfapnaaGreat
theorem zA {y:Nat->ConG} {x:ConG} {k m r c:Nat} {M:Mem} (hr:r<k+1+m) (hc:c<3) :
 aU M 3 (SV.kill 3 (aJ (k+1) m (λi j=>SV.kill 3 (aJ k 1 (λi j=>SV.r ((y i).c j)) (λi j=>[.i x.p,.i x.q,.i x.u][i*3+j]?.getD (SV.r RV.any)) i j)) (λi j=>SV.r ((y (k+i)).c j)) r c))=(plF false k y x r).c c:=by
 unfold aJ plF;by_cases h1:r<k
 ·rw[if_pos ω];dsimp only;rw[if_pos h1,if_pos h1] <;> rfl
 by_cases h2:r=k
 ·subst h2;rw[if_pos ω];dsimp only;rw[if_neg h1,if_pos ω,if_neg h1,if_pos rfl];have hcc:c=0\/c=1\/c=2:=ω;simp only [Nat.sub_self];rcases hcc with rfl | rfl | rfl <;> rfl
 ·rw[if_neg ω,if_pos ω,if_neg h1,if_neg h2];simp only [show k+(r - (k+1))=r - 1 from ω];rfl
theorem aSt {y:Nat->ConG} {x:ConG} {k m r c:Nat} {M:Mem} (hr:r<k+1+m) (hc:c<3) :
 aU M 3 (SV.kill 3 (aJ (k+1) m (λi j=>SV.kill 3 (aJ k 1 (λi j=>SV.r ((y i).c j)) (λi j=>[.i x.p,.i x.q,.i x.u][i*3+j]?.getD (SV.r RV.any)) i j)) (λi j=>SV.r ((y (k+1+i)).c j)) r c))=(plF true k y x r).c c:=by
 unfold aJ plF;by_cases h1:r<k
 ·rw[if_pos ω];dsimp only;rw[if_pos h1,if_pos h1] <;> rfl
 by_cases h2:r=k
 ·subst h2;rw[if_pos ω];dsimp only;rw[if_neg h1,if_pos ω,if_neg h1,if_pos rfl];have hcc:c=0\/c=1\/c=2:=ω;simp only [Nat.sub_self];rcases hcc with rfl | rfl | rfl <;> rfl
 ·rw[if_neg ω,if_pos ω,if_neg h1,if_neg h2];simp only [show k+1+(r - (k+1))=r from ω];rfl
theorem ref44 (g:RG) (x:ConG) (h:g.OK):Pure Tryz.prog 298 [g.sv,x.sv] (· =.tup [(if g.cnE x=0 then g.putC x else RG.nil).sv,.i (g.cnE x)]):=by
 refine Pure.ofSub ?_;refine π Tryz.func298 ?_;simp[go_sem];refine aA (valid58 g h) rfl rfl ?_;by_cases hv:g.valid=true;rotate_left
 ·have hv':g.valid=false:=by simpa using hv
  have ha:g.cnE x=8:=by unfold RG.cnE;rw[if_neg hv]
  simp[go_sem,hv',ha,RG.nil]
 have hl:=RG.lim hv;rw[hv];simp[go_sem];refine aA (iX x) rfl rfl ?_;by_cases hx:x.good=true;rotate_left
 ·have hx':x.good=false:=by simpa using hx
  have ha:g.cnE x=2:=by unfold RG.cnE;rw[if_pos hv,if_neg hx]
  simp[go_sem,hx',ha,RG.nil]
 rw[hx];simp[go_sem];have hm:=RG.cmC_mono (RG.v5 hv) x.p x.q;have hbl:dF (g.cmC x.p x.q) g.nc<=g.nc:=bnd_le;have lo:∀{j:Nat},j<dF (g.cmC x.p x.q) g.nc->g.cmC x.p x.q j<0:=λh=>aPj h;have hi':∀{j:Nat},dF (g.cmC x.p x.q) g.nc<=j->j<g.nc->0<=g.cmC x.p x.q j:=λh1 h2=>aPi hm h1 h2;have hE:g.cnE x=if dP (g.cmC x.p x.q) g.nc||decide ((g.nc:Int)<40) then 0 else 9:=by unfold RG.cnE;rw[if_pos hv,if_pos hx]
 have hfd:dP (g.cmC x.p x.q) g.nc=(decide (dF (g.cmC x.p x.q) g.nc<g.nc)&&decide (g.cmC x.p x.q (dF (g.cmC x.p x.q) g.nc)=0)):=rfl;have hput:g.putC x={g with nc:=plN (dP (g.cmC x.p x.q) g.nc) g.nc,c:=plF (dP (g.cmC x.p x.q) g.nc) (dF (g.cmC x.p x.q) g.nc) g.c x}:=rfl;refine bK (GSt.adopt 6 59 3 (λi j=>SV.r ((g.c i).c j)) ζ) ?_;refine bF aD (α:=Nat) (λk=>[(2,.ptr 0 0 4 0),(3,.ptr 1 0 3 0),(4,.ptr 2 0 4 0),(6,.sl 3 3 0 k none),(7,.i k)])
  (λk=>g.box++[some (.box [.i x.p,.i x.q,.i x.u]),some (.box [aP,aP,aP,aP]),some (.vec 59 3 k λi j=>SV.r ((g.c i).c j))]) 4 (λk=>k<=dF (g.cmC x.p x.q) g.nc) (λk=>g.nc - k) 0 (λ_=>rfl) τ ζ ζ ?_
 intro k J hi;generalize dF (g.cmC x.p x.q) g.nc=b at *;simp[go_sem];refine aE aD κ κ ?_;by_cases hlt:k<g.nc;rotate_left
 ·have hkb:k=b:=ω;have hF:dP (g.cmC x.p x.q) g.nc=false:=by rw[hfd];simp;omega
  rw[hF] at hE hput;simp[go_sem,hlt];refine⟨⟨ω,ω⟩,?_⟩;refine aE aD κ κ ?_;simp[go_sem,hlt];refine⟨ω,⟨ω,ω⟩,?_⟩;by_cases hbig:(g.nc:Int)<40;rotate_left
  ·have ha:g.cnE x=9:=by rw[hE];simp[hbig]
   rw[if_pos ω];simp[ha,RG.nil]
  have ha:g.cnE x=0:=by rw[hE];simp[hbig]
  rw[if_neg ω];refine aF [] (twin17f g ω ω ω ω) τ rfl trivial ?_;simp[go_sem,ha];rw[hput];exact⟨⟨rfl,λ_ _ _ _=>rfl⟩,⟨by show _=g.nc+1;omega,λr c hr hc=>by subst hkb;exact zA hr hc⟩,⟨rfl,λ_ _ _ _=>rfl⟩,rfl,λ_ _ _ _=>rfl⟩
 have hbf:=jM (g.c k).p (g.c k).q x.p x.q;by_cases hc:g.cmC x.p x.q k<0
 ·have hbt:=hbf.val (v':=.b true) (by simp[RG.cmC] at hc;simp[hc]);have hkb:k<b:=by
   rcases Nat.lt_or_ge k b with h1 | h1
   ·exact h1
   ·have:=hi' h1 hlt;omega
  simp[go_sem,hlt];refine⟨_,aB hbt rfl rfl,?_⟩;simp[go_sem,hlt];refine⟨⟨ω,ω⟩,ω,k+1,ω,ω,⟨rfl,ω⟩,ω,λr c hr hc=>?_⟩;unfold aJ;by_cases h1:r<k
  ·rw[if_pos h1];rfl
  ·rw[if_neg h1,if_pos ω];have h2:r=k:=ω;subst h2;have hcc:c=0\/c=1\/c=2:=ω;simp only [Nat.sub_self];rcases hcc with rfl | rfl | rfl <;> rfl
 ·have hbt:=hbf.val (v':=.b false) (by simp[RG.cmC] at hc;simp;omega);have hkb:k=b:=by
   rcases Nat.lt_or_ge k b with h1 | h1
   ·exact absurd (lo h1) hc
   ·omega
  simp[go_sem,hlt];refine⟨_,aB hbt rfl rfl,?_⟩;simp[go_sem,hlt];refine⟨⟨ω,ω⟩,?_⟩;refine aE aD κ κ ?_;by_cases e1:(g.c k).p=x.p;rotate_left
  ·have hF:dP (g.cmC x.p x.q) g.nc=false:=by rw[hfd,<- hkb];simp[RG.cmC,mV,e1]
   rw[hF] at hE hput;simp[go_sem,hlt,e1];refine⟨ω,⟨ω,ω⟩,?_⟩;by_cases hbig:(g.nc:Int)<40;rotate_left
   ·have ha:g.cnE x=9:=by rw[hE];simp[hbig]
    rw[if_pos ω];simp[ha,RG.nil]
   have ha:g.cnE x=0:=by rw[hE];simp[hbig]
   rw[if_neg ω];refine aF [] (twin17f g ω ω ω ω) τ rfl trivial ?_;simp[go_sem,ha];rw[hput];exact⟨⟨rfl,λ_ _ _ _=>rfl⟩,⟨by show _=g.nc+1;omega,λr c hr hc=>by subst hkb;exact zA hr hc⟩,⟨rfl,λ_ _ _ _=>rfl⟩,rfl,λ_ _ _ _=>rfl⟩
  by_cases e2:(g.c k).q=x.q;rotate_left
  ·have hF:dP (g.cmC x.p x.q) g.nc=false:=by rw[hfd,<- hkb];simp[RG.cmC,mV,e2]
   rw[hF] at hE hput;simp[go_sem,hlt,e1,e2];refine⟨ω,⟨ω,ω⟩,?_⟩;by_cases hbig:(g.nc:Int)<40;rotate_left
   ·have ha:g.cnE x=9:=by rw[hE];simp[hbig]
    rw[if_pos ω];simp[ha,RG.nil]
   have ha:g.cnE x=0:=by rw[hE];simp[hbig]
   rw[if_neg ω];refine aF [] (twin17f g ω ω ω ω) τ rfl trivial ?_;simp[go_sem,ha];rw[hput];exact⟨⟨rfl,λ_ _ _ _=>rfl⟩,⟨by show _=g.nc+1;omega,λr c hr hc=>by subst hkb;exact zA hr hc⟩,⟨rfl,λ_ _ _ _=>rfl⟩,rfl,λ_ _ _ _=>rfl⟩
  have hF:dP (g.cmC x.p x.q) g.nc=true:=by rw[hfd,<- hkb];simp[RG.cmC,mV,e1,e2,hlt]
  rw[hF] at hE hput;simp[go_sem,hlt,e1,e2];refine⟨ω,⟨ω,ω⟩,⟨ω,ω⟩,?_⟩;have ha:g.cnE x=0:=by rw[hE];simp
  rw[if_neg ω];refine aF [] (twin17f g ω ω ω ω) τ rfl trivial ?_;simp[go_sem,ha];rw[hput];exact⟨⟨rfl,λ_ _ _ _=>rfl⟩,⟨by show _=g.nc;omega,λr c hr hc=>by subst hkb;exact aSt hr hc⟩,⟨rfl,λ_ _ _ _=>rfl⟩,rfl,λ_ _ _ _=>rfl⟩
theorem zB {y:Nat->MarkG} {x:MarkG} {k m r c:Nat} {M:Mem} (hr:r<k+1+m) (hc:c<5) :
 aU M 3 (SV.kill 3 (aJ (k+1) m (λi j=>SV.kill 3 (aJ k 1 (λi j=>SV.r ((y i).c j)) (λi j=>[.i x.l,.i x.p,.i x.s,.i x.u,.i x.n][i*5+j]?.getD (SV.r RV.any)) i j)) (λi j=>SV.r ((y (k+i)).c j)) r c))=(plF false k y x r).c c:=by
 unfold aJ plF;by_cases h1:r<k
 ·rw[if_pos ω];dsimp only;rw[if_pos h1,if_pos h1] <;> rfl
 by_cases h2:r=k
 ·subst h2;rw[if_pos ω];dsimp only;rw[if_neg h1,if_pos ω,if_neg h1,if_pos rfl];have hcc:c=0\/c=1\/c=2\/c=3\/c=4:=ω;simp only [Nat.sub_self];rcases hcc with rfl | rfl | rfl | rfl | rfl <;> rfl
 ·rw[if_neg ω,if_pos ω,if_neg h1,if_neg h2];simp only [show k+(r - (k+1))=r - 1 from ω];rfl
theorem aSu {y:Nat->MarkG} {x:MarkG} {k m r c:Nat} {M:Mem} (hr:r<k+1+m) (hc:c<5) :
 aU M 3 (SV.kill 3 (aJ (k+1) m (λi j=>SV.kill 3 (aJ k 1 (λi j=>SV.r ((y i).c j)) (λi j=>[.i x.l,.i x.p,.i x.s,.i x.u,.i x.n][i*5+j]?.getD (SV.r RV.any)) i j)) (λi j=>SV.r ((y (k+1+i)).c j)) r c))=(plF true k y x r).c c:=by
 unfold aJ plF;by_cases h1:r<k
 ·rw[if_pos ω];dsimp only;rw[if_pos h1,if_pos h1] <;> rfl
 by_cases h2:r=k
 ·subst h2;rw[if_pos ω];dsimp only;rw[if_neg h1,if_pos ω,if_neg h1,if_pos rfl];have hcc:c=0\/c=1\/c=2\/c=3\/c=4:=ω;simp only [Nat.sub_self];rcases hcc with rfl | rfl | rfl | rfl | rfl <;> rfl
 ·rw[if_neg ω,if_pos ω,if_neg h1,if_neg h2];simp only [show k+1+(r - (k+1))=r from ω];rfl
theorem ref47 (g:RG) (x:MarkG) (h:g.OK):Pure Tryz.prog 299 [g.sv,x.sv] (· =.tup [(if g.mkE x=0 then g.putM x else RG.nil).sv,.i (g.mkE x)]):=by
 refine Pure.ofSub ?_;refine π Tryz.func299 ?_;simp[go_sem];refine aA (valid58 g h) rfl rfl ?_;by_cases hv:g.valid=true;rotate_left
 ·have hv':g.valid=false:=by simpa using hv
  have ha:g.mkE x=8:=by unfold RG.mkE;rw[if_neg hv]
  simp[go_sem,hv',ha,RG.nil]
 have hl:=RG.lim hv;rw[hv];simp[go_sem];refine aA (nN x) rfl rfl ?_;by_cases hx:x.good=true;rotate_left
 ·have hx':x.good=false:=by simpa using hx
  have ha:g.mkE x=2:=by unfold RG.mkE;rw[if_pos hv,if_neg hx]
  simp[go_sem,hx',ha,RG.nil]
 rw[hx];simp[go_sem];have hm:=RG.cm_mono (RG.v6 hv) x.l x.p;have hbl:dF (g.cm x.l x.p) g.nm<=g.nm:=bnd_le;have lo:∀{j:Nat},j<dF (g.cm x.l x.p) g.nm->g.cm x.l x.p j<0:=λh=>aPj h;have hi':∀{j:Nat},dF (g.cm x.l x.p) g.nm<=j->j<g.nm->0<=g.cm x.l x.p j:=λh1 h2=>aPi hm h1 h2;have hE:g.mkE x=if dP (g.cm x.l x.p) g.nm||decide ((g.nm:Int)<40) then 0 else 9:=by unfold RG.mkE;rw[if_pos hv,if_pos hx]
 have hfd:dP (g.cm x.l x.p) g.nm=(decide (dF (g.cm x.l x.p) g.nm<g.nm)&&decide (g.cm x.l x.p (dF (g.cm x.l x.p) g.nm)=0)):=rfl;have hput:g.putM x={g with nm:=plN (dP (g.cm x.l x.p) g.nm) g.nm,m:=plF (dP (g.cm x.l x.p) g.nm) (dF (g.cm x.l x.p) g.nm) g.m x}:=rfl;refine bK (GSt.adopt 6 61 5 (λi j=>SV.r ((g.m i).c j)) ζ) ?_;refine bF aD (α:=Nat) (λk=>[(2,.ptr 0 0 4 0),(3,.ptr 1 0 5 0),(4,.ptr 2 0 4 0),(6,.sl 3 5 0 k none),(7,.i k)])
  (λk=>g.box++[some (.box [.i x.l,.i x.p,.i x.s,.i x.u,.i x.n]),some (.box [aP,aP,aP,aP]),some (.vec 61 5 k λi j=>SV.r ((g.m i).c j))]) 4 (λk=>k<=dF (g.cm x.l x.p) g.nm) (λk=>g.nm - k) 0 (λ_=>rfl) τ ζ ζ ?_
 intro k J hi;generalize dF (g.cm x.l x.p) g.nm=b at *;simp[go_sem];refine aE aD κ κ ?_;by_cases hlt:k<g.nm;rotate_left
 ·have hkb:k=b:=ω;have hF:dP (g.cm x.l x.p) g.nm=false:=by rw[hfd];simp;omega
  rw[hF] at hE hput;simp[go_sem,hlt];refine⟨⟨ω,ω⟩,?_⟩;refine aE aD κ κ ?_;simp[go_sem,hlt];refine⟨ω,⟨ω,ω⟩,?_⟩;by_cases hbig:(g.nm:Int)<40;rotate_left
  ·have ha:g.mkE x=9:=by rw[hE];simp[hbig]
   rw[if_pos ω];simp[ha,RG.nil]
  have ha:g.mkE x=0:=by rw[hE];simp[hbig]
  rw[if_neg ω];refine aF [] (twin17f g ω ω ω ω) τ rfl trivial ?_;simp[go_sem,ha];rw[hput];exact⟨⟨rfl,λ_ _ _ _=>rfl⟩,⟨rfl,λ_ _ _ _=>rfl⟩,⟨rfl,λ_ _ _ _=>rfl⟩,by show _=g.nm+1;omega,λr c hr hc=>by subst hkb;exact zB hr hc⟩
 have hbf:=jM (g.m k).l (g.m k).p x.l x.p;by_cases hc:g.cm x.l x.p k<0
 ·have hbt:=hbf.val (v':=.b true) (by simp[RG.cm] at hc;simp[hc]);have hkb:k<b:=by
   rcases Nat.lt_or_ge k b with h1 | h1
   ·exact h1
   ·have:=hi' h1 hlt;omega
  simp[go_sem,hlt];refine⟨_,aB hbt rfl rfl,?_⟩;simp[go_sem,hlt];refine⟨⟨ω,ω⟩,ω,k+1,ω,ω,⟨rfl,ω⟩,ω,λr c hr hc=>?_⟩;unfold aJ;by_cases h1:r<k
  ·rw[if_pos h1];rfl
  ·rw[if_neg h1,if_pos ω];have h2:r=k:=ω;subst h2;have hcc:c=0\/c=1\/c=2\/c=3\/c=4:=ω;simp only [Nat.sub_self];rcases hcc with rfl | rfl | rfl | rfl | rfl <;> rfl
 ·have hbt:=hbf.val (v':=.b false) (by simp[RG.cm] at hc;simp;omega);have hkb:k=b:=by
   rcases Nat.lt_or_ge k b with h1 | h1
   ·exact absurd (lo h1) hc
   ·omega
  simp[go_sem,hlt];refine⟨_,aB hbt rfl rfl,?_⟩;simp[go_sem,hlt];refine⟨⟨ω,ω⟩,?_⟩;refine aE aD κ κ ?_;by_cases e1:(g.m k).l=x.l;rotate_left
  ·have hF:dP (g.cm x.l x.p) g.nm=false:=by rw[hfd,<- hkb];simp[RG.cm,mV,e1]
   rw[hF] at hE hput;simp[go_sem,hlt,e1];refine⟨ω,⟨ω,ω⟩,?_⟩;by_cases hbig:(g.nm:Int)<40;rotate_left
   ·have ha:g.mkE x=9:=by rw[hE];simp[hbig]
    rw[if_pos ω];simp[ha,RG.nil]
   have ha:g.mkE x=0:=by rw[hE];simp[hbig]
   rw[if_neg ω];refine aF [] (twin17f g ω ω ω ω) τ rfl trivial ?_;simp[go_sem,ha];rw[hput];exact⟨⟨rfl,λ_ _ _ _=>rfl⟩,⟨rfl,λ_ _ _ _=>rfl⟩,⟨rfl,λ_ _ _ _=>rfl⟩,by show _=g.nm+1;omega,λr c hr hc=>by subst hkb;exact zB hr hc⟩
  by_cases e2:(g.m k).p=x.p;rotate_left
  ·have hF:dP (g.cm x.l x.p) g.nm=false:=by rw[hfd,<- hkb];simp[RG.cm,mV,e2]
   rw[hF] at hE hput;simp[go_sem,hlt,e1,e2];refine⟨ω,⟨ω,ω⟩,?_⟩;by_cases hbig:(g.nm:Int)<40;rotate_left
   ·have ha:g.mkE x=9:=by rw[hE];simp[hbig]
    rw[if_pos ω];simp[ha,RG.nil]
   have ha:g.mkE x=0:=by rw[hE];simp[hbig]
   rw[if_neg ω];refine aF [] (twin17f g ω ω ω ω) τ rfl trivial ?_;simp[go_sem,ha];rw[hput];exact⟨⟨rfl,λ_ _ _ _=>rfl⟩,⟨rfl,λ_ _ _ _=>rfl⟩,⟨rfl,λ_ _ _ _=>rfl⟩,by show _=g.nm+1;omega,λr c hr hc=>by subst hkb;exact zB hr hc⟩
  have hF:dP (g.cm x.l x.p) g.nm=true:=by rw[hfd,<- hkb];simp[RG.cm,mV,e1,e2,hlt]
  rw[hF] at hE hput;simp[go_sem,hlt,e1,e2];refine⟨ω,⟨ω,ω⟩,⟨ω,ω⟩,?_⟩;have ha:g.mkE x=0:=by rw[hE];simp
  rw[if_neg ω];refine aF [] (twin17f g ω ω ω ω) τ rfl trivial ?_;simp[go_sem,ha];rw[hput];exact⟨⟨rfl,λ_ _ _ _=>rfl⟩,⟨rfl,λ_ _ _ _=>rfl⟩,⟨rfl,λ_ _ _ _=>rfl⟩,by show _=g.nm;omega,λr c hr hc=>by subst hkb;exact aSu hr hc⟩
end Go.Gx.Rg
namespace Go.Gx.Sr
open Go.RowKit Go.Proofs Go.Proofs.YtncccnmmjfapnaaGreat Go.Gx.Ix
abbrev rlv (r:Rg.RG):Reg:=.vec 55 8 r.nr λi j=>.r ((r.r i).c j)
abbrev wav (r:Rg.RG):Reg:=.vec 57 4 r.nw λi j=>.r ((r.w i).c j)
theorem RuleG.rowsT (n:Nat) (r:Nat->Rg.RuleG) (y:Rg.RuleG) (q:Nat) (new:Nat->Nat->SV) (h:∀j,j<8->new 0 j=.r (y.c j)):∀i j,i<n+1->j<8->(SV.kill q (aJ n 1 (λi j=>SV.r ((r i).c j)) new i j)).toRV=((if i<n then r i else y).c j):=by
 intro i j hi hj;unfold aJ;by_cases e:i<n
 ·rw[if_pos e,if_pos e];rfl
 ·obtain rfl:i=n:=ω;rw[if_neg e,if_pos ω,if_neg e,Nat.sub_self,h j hj];rfl
theorem WarG.rowsT (n:Nat) (r:Nat->Rg.WarG) (y:Rg.WarG) (q:Nat) (new:Nat->Nat->SV) (h:∀j,j<4->new 0 j=.r (y.c j)):∀i j,i<n+1->j<4->(SV.kill q (aJ n 1 (λi j=>SV.r ((r i).c j)) new i j)).toRV=((if i<n then r i else y).c j):=by
 intro i j hi hj;unfold aJ;by_cases e:i<n
 ·rw[if_pos e,if_pos e];rfl
 ·obtain rfl:i=n:=ω;rw[if_neg e,if_pos ω,if_neg e,Nat.sub_self,h j hj];rfl
theorem aXa (x:SvG) (o:OrG) (hx:x.OK) (hk:o.k=6):Own Tryz.prog 204 [rlv x.r] [.agg (x.cW (irs x.ir) (.sl 0 8 0 x.r.nr none) x.was (nY x.ch) (kss x.ks)),o.sv] (rT (pG x o)) []:=by
 refine cM aD Tryz.func204 rfl κ ν rfl rfl ?_;have hn:=hx.rn;unfold pG;simp[go_sem,hk];by_cases h20:x.r.nr=20
 ·have h20i:(x.r.nr:Int)=20:=ω;rw[if_pos h20];simp[go_sem,h20i];refine aC 0 ξ ?_;simp[go_sem];refine aA (bO x 9) rfl rfl ?_;simp[go_sem];refine aT ?_;simp[go_sem];exact⟨[],τ,λN=>⟨ζ,ζ⟩⟩
 have h20':¬(x.r.nr:Int)=20:=ω;simp[go_sem,h20,h20'];refine aA (Rg.validRule113 o.rl) rfl rfl ?_
 cases hg:o.rl.good
 ·simp[go_sem];refine aC 0 ξ ?_;simp[go_sem];refine aA (bO x 2) rfl rfl ?_;simp[go_sem];refine aT ?_;simp[go_sem];exact⟨[],τ,λN=>⟨ζ,ζ⟩⟩
 simp[go_sem,nW];refine⟨⟨ω,ω⟩,?_⟩;refine aV (GSt.freeze 0 ξ) (aT ?_);simp[go_sem];refine⟨[],τ,λN=>⟨?_,ζ⟩⟩;simp[go_sem,Rg.RG.addR];exact RuleG.rowsT _ _ _ _ _ λj hj=>tF o.rl j hj
theorem aXb (x:SvG) (o:OrG) (hx:x.OK) (hk:o.k=7):Own Tryz.prog 204 [wav x.r] [.agg (x.cW (irs x.ir) x.rls (.sl 0 4 0 x.r.nw none) (nY x.ch) (kss x.ks)),o.sv] (rT (aAa x o)) []:=by
 refine cM aD Tryz.func204 rfl κ ν rfl rfl ?_;have hn:=hx.rw';have hth:=eT x hx.g.ok o.w.p;unfold aAa;simp[go_sem,hk];refine aG (v:=.b (x.g.th o.w.p)) (by simp[go_sem];exact hth) rfl ?_;by_cases ht:x.g.th o.w.p=true;rotate_left
 ·simp[go_sem,ht];refine aC 0 ξ ?_;simp[go_sem];refine aA (bO x 6) rfl rfl ?_;simp[go_sem];refine aT ?_;simp[go_sem];exact⟨[],τ,λN=>⟨ζ,ζ⟩⟩
 rw[if_pos ht];by_cases h20:x.r.nw=20
 ·have h20i:(x.r.nw:Int)=20:=ω;rw[if_pos h20];simp[go_sem,ht,h20i];refine aC 0 ξ ?_;simp[go_sem];refine aA (bO x 9) rfl rfl ?_;simp[go_sem];refine aT ?_;simp[go_sem];exact⟨[],τ,λN=>⟨ζ,ζ⟩⟩
 have h20':¬(x.r.nw:Int)=20:=ω;simp[go_sem,ht,h20,h20'];refine aA (Rg.validWarrant114 o.w) rfl rfl ?_
 cases hg:o.w.good
 ·simp[go_sem];refine aC 0 ξ ?_;simp[go_sem];refine aA (bO x 2) rfl rfl ?_;simp[go_sem];refine aT ?_;simp[go_sem];exact⟨[],τ,λN=>⟨ζ,ζ⟩⟩
 simp[go_sem,nW];refine⟨⟨ω,ω⟩,?_⟩;refine aV (GSt.freeze 0 ξ) (aT ?_);simp[go_sem];refine⟨[],τ,λN=>⟨?_,ζ⟩⟩;simp[go_sem,Rg.RG.addW];exact WarG.rowsT _ _ _ _ _ λj hj=>wT o.w j hj
theorem aXc (x:SvG) (o:OrG) (hx:x.OK) (hk:o.k=8):Pure Tryz.prog 204 [x.sv,o.sv] (· =rT (xJ x o)):=by
 refine Pure.ofSub ?_;refine π Tryz.func204 ?_;have hth:=eT x hx.g.ok o.c.p;have hc:=Rg.ref44 x.r o.c hx.r;unfold xJ;simp[go_sem,hk];refine aA hth rfl rfl ?_;by_cases ht:x.g.th o.c.p=true;rotate_left
 ·simp[go_sem,ht];refine aA (bO x 6) rfl rfl ?_;simp[go_sem]
 simp[go_sem,ht];obtain⟨e,he⟩:∃e,x.r.cnE o.c=e:=⟨_,rfl⟩;rw[he] at hc ⊢;obtain⟨y,hy⟩:∃y,(if e=0 then x.r.putC o.c else Rg.RG.nil)=y:=⟨_,rfl⟩;rw[hy] at hc;refine aA hc rfl rfl ?_;by_cases he0:e=0
 ·rw[if_pos he0] at hy;subst he0;rw[hy];simp[go_sem,nW]
 ·simp[go_sem,he0];refine aA (bO x e) rfl rfl ?_;simp[go_sem]
theorem aXd (x:SvG) (o:OrG) (hx:x.OK) (hk:o.k=9):Pure Tryz.prog 204 [x.sv,o.sv] (· =rT (putM x o)):=by
 refine Pure.ofSub ?_;refine π Tryz.func204 ?_;have hth:=eT x hx.g.ok o.m.p;have hc:=Rg.ref47 x.r o.m hx.r;unfold putM;simp[go_sem,hk];refine aA hth rfl rfl ?_;by_cases ht:x.g.th o.m.p=true;rotate_left
 ·simp[go_sem,ht];refine aA (bO x 6) rfl rfl ?_;simp[go_sem]
 simp[go_sem,ht];obtain⟨e,he⟩:∃e,x.r.mkE o.m=e:=⟨_,rfl⟩;rw[he] at hc ⊢;obtain⟨y,hy⟩:∃y,(if e=0 then x.r.putM o.m else Rg.RG.nil)=y:=⟨_,rfl⟩;rw[hy] at hc;refine aA hc rfl rfl ?_;by_cases he0:e=0
 ·rw[if_pos he0] at hy;subst he0;rw[hy];simp[go_sem,nW]
 ·simp[go_sem,he0];refine aA (bO x e) rfl rfl ?_;simp[go_sem]
theorem aOe (x:SvG) (o:OrG) (hx:x.OK) (hv:x.valid=true):Own Tryz.prog 205 [ksv x.ks] [.agg (x.cW (irs x.ir) x.rls x.was (nY x.ch) (.sl 0 4 0 x.ks.length none)),.i o.n] (rT (zU x o)) []:=by
 refine cM aD Tryz.func205 rfl κ ν rfl rfl ?_;have hn:=hx.ks;have hc:=hx.ch;have hw:=SvG.now_in hv;simp only [maxT] at hw;have h4:x.ks.length<=4:=(SvG.reg_val hv).2.2.2.2.1;have hcp:=aVd x.ch hc x.now x.mage x.key (SvG.cop_ok hv);unfold zU;simp[go_sem];refine aA (jT o.n 0 x.ks.length) rfl rfl ?_;have hcond:Ix.btw 0 (min (x.ks.length:Int) 3) o.n=(Ix.btw 0 x.ks.length o.n&&!decide (o.n=4)):=by
  rw[Bool.eq_iff_iff];simp only [Ix.btw,Bool.and_eq_true,decide_eq_true_eq,Bool.not_eq_true',decide_eq_false_iff_not];omega
 rw[hcond];obtain⟨b,hb⟩:∃b,Ix.btw 0 (x.ks.length:Int) o.n=b:=⟨_,rfl⟩;rw[hb]
 cases b
 ·simp[go_sem];refine aC 0 ξ ?_;simp[go_sem];refine aA (bO x 2) rfl rfl ?_;simp[go_sem];refine aT ?_;simp[go_sem];exact⟨[],τ,λN=>⟨ζ,ζ⟩⟩
 have hb':0<=o.n/\o.n<=x.ks.length:=by simpa [Ix.btw] using hb
 by_cases h4':o.n=4
 ·simp[go_sem,h4'];refine aC 0 ξ ?_;simp[go_sem];refine aA (bO x 2) rfl rfl ?_;simp[go_sem];refine aT ?_;simp[go_sem];exact⟨[],τ,λN=>⟨ζ,ζ⟩⟩
 by_cases h0:x.now=1099511627776
 ·simp[go_sem,h4',h0];refine aC 0 ξ ?_;simp[go_sem];have:=bO x 9;unfold SvG.sv SvG.cells at this;rw[h0] at this;refine aA this rfl rfl ?_;simp[go_sem];refine aT ?_;simp[go_sem];exact⟨[],τ,λN=>⟨by simp[go_sem,h0],ζ⟩⟩
 obtain⟨n,hn'⟩:∃n:Nat,o.n=n:=⟨o.n.toNat,ω⟩;obtain⟨y,hy⟩:∃y,aHr x.ch x.now x.mage x.key=y:=⟨_,rfl⟩;rw[hy] at hcp;rw[hy,hn'];have hrow:∀j,j<4->([.i y.a,.i y.m,.w y.s,.w y.z]:List SV)[0*4+j]?.getD (SV.r .any)=.r (y.f j):=by
  intro j hj;rcases(ω:j=0\/j=1\/j=2\/j=3) with rfl | rfl | rfl | rfl <;> rfl
 have h4n:¬(n:Int)=4:=ω;have h4m:¬n=4:=ω;simp[go_sem,h0,nW,hn',h4n,h4m];refine aA hcp rfl rfl ?_;by_cases hne:n=x.ks.length
 ·have hdr:x.ks.drop (x.ks.length+1)=[]:=τ;simp[go_sem,hne,hdr];refine⟨⟨ω,ω⟩,⟨ω,ω⟩,?_⟩;refine aM (t:=(.take 0 (.take 1 (.take 2 (.take 3 (.alt 4 [3,2,1,0] (.alt 5 [3,2,1] (.done []) .nil) .nil)))))) aD κ κ κ (λ_ _ _ _ h=>h.elim λ_ h=>h.elim λ_ h=>h.elim λ_ h=>h.2) ?_;simp[go_sem];refine aV (GSt.freeze 0 ξ) (aT ?_);simp[go_sem];refine⟨[],τ,λN=>⟨?_,ζ⟩⟩;simp[go_sem];exact fR λj hj=>hrow j hj
 ·have hne':¬(n:Int)=x.ks.length:=ω;have hlt:n<x.ks.length:=ω;simp[go_sem,hne',hlt];refine⟨⟨ω,ω⟩,?_⟩;refine aM (t:=(.take 0 (.take 1 (.take 2 (.take 3 (.alt 4 [3,2,1,0] (.alt 5 [3,2,1] (.done []) .nil) .nil)))))) aD κ κ κ (λ_ _ _ _ h=>h.elim λ_ h=>h.elim λ_ h=>h.elim λ_ h=>h.2) ?_;simp[go_sem];refine aV (GSt.freeze 0 ξ) (aT ?_);simp[go_sem];refine⟨[],τ,λN=>⟨?_,ζ⟩⟩;rw[show x.ks.take n++y::x.ks.drop (n+1)=x.ks.set n y from by rw[List.set_eq_take_append_cons_drop,if_pos hlt]];simp[go_sem];intro i j hi hj;unfold aY;rw[List.getElem?_set];by_cases e:n=i
  ·subst e;rw[if_pos ⟨rfl,hj⟩,if_pos rfl,if_pos hlt];rcases(ω:j=0\/j=1\/j=2\/j=3) with rfl | rfl | rfl | rfl <;> rfl
  ·rw[if_neg λh=>e h.1.symm,if_neg e]
theorem aIy (x:SvG) (n:Nat) (hx:x.OK) (hv:x.valid=true) (ht:x.g.th n=true):Own Tryz.prog 203 [irv x.ir,ksv x.ks] [.agg (x.cW (.sl 0 2 0 x.ir.length none) x.rls x.was (nY x.ch) (.sl 1 4 0 x.ks.length none)),.i n] (.tup [(x.rem n).sv,.i (erN x.lg n)]) []:=by
 refine cM aD Tryz.func203 rfl κ ν rfl rfl ?_;have n1:=hx.ir;have n2:=hx.ch;have n3:=hx.ks;have n4:=hx.lg;obtain⟨h1,h2,h3,h4,h5,h6⟩:=SvG.reg_val hv;obtain⟨z1,z2,z3⟩:=SvG.rem_ok hv ht;have hin:=SvG.th_in hv ht;have hlt:n<x.ir.length:=ω;have c1:=aS3 hx.g h1 ht;have c2:=Rg.ref21 x.r n hx.r;have c3:=aQk x.lg h4 n ω;rw[z2,if_pos rfl] at c2;unfold SvG.rem;rw[show((n:Int)).toNat=n from rfl];obtain⟨y,hy⟩:∃y,x.g.remG n=y:=⟨_,rfl⟩;obtain⟨q,hq⟩:∃q,x.r.forget n=q:=⟨_,rfl⟩;obtain⟨l,hl⟩:∃l,erL x.lg n=l:=⟨_,rfl⟩;obtain⟨cnt,hcnt⟩:∃c:Int,(erN x.lg n:Int)=c:=⟨_,rfl⟩;rw[hy] at c1;rw[hq] at c2;rw[hl,hcnt] at c3;rw[hy,hq,hl,hcnt];simp[go_sem];refine aA c1 rfl rfl ?_;simp[go_sem,hlt];refine aA c2 rfl rfl ?_;simp[go_sem];refine bK (GSt.freeze 0 ξ) ?_;obtain⟨I,hI⟩:∃I,x.ir.set n IrG.z=I:=⟨_,rfl⟩;obtain⟨C,hC⟩:∃C,x.ch.filter (λc=>!decide (c.p=(n:Int)))=C:=⟨_,rfl⟩;have hIl:I.length=x.ir.length:=by rw[<- hI];simp
 obtain⟨z,hz⟩:∃z:SvG,{x with g:=y,ir:=I,r:=q}=z:=⟨_,rfl⟩;refine bK (GSt.wkBox 2 (l':=[.i x.num,.i x.den,.i x.turns,.i x.mage,.w x.key,.i x.now,y.rr,y.ll,y.cc,irs I,Rg.RuleG.rs q.nr q.r,Rg.ConG.rs q.nc q.c,Rg.WarG.rs q.nw q.w,Rg.MarkG.rs q.nm q.m,nY x.ch,.sl 1 4 0 x.ks.length none,qO x.lg]) ξ ?_) ?_
 ·simp[go_sem];refine⟨hIl.symm,λi j hi hj=>?_⟩;have hi':i<I.length:=ω;rw[aI hi'];have hg:I[i]=if i=n then IrG.z else x.ir[i]:=by
   subst hI;rw[List.getElem_set];by_cases e:n=i
   ·rw[if_pos e,if_pos e.symm]
   ·rw[if_neg e,if_neg λh=>e h.symm]
  rw[hg];by_cases e:i=n
  ·rw[if_pos ⟨e,hj⟩,if_pos e];rcases(ω:j=0\/j=1) with rfl | rfl <;> rfl
  ·rw[if_neg λh=>e h.1,if_neg e,aI hi]
 rw[hI,hC];refine bK (GSt.adopt 6 114 3 (λi j=>SV.r (aY ChG.f [] i j)) ζ) ?_;have hF:∀k,((x.ch.take k).filter λc=>!decide (c.p=(n:Int))).length<=k:=λk=>Nat.le_trans (List.length_filter_le _ _) (by rw[List.length_take];omega);refine dW aD (α:=Nat) (λk=>[(1,.i n),(2,.ptr 2 0 17 0),(4,.ptr 3 0 17 0),(6,.sl 4 3 0 ((x.ch.take k).filter λc=>!decide (c.p=(n:Int))).length none),(7,.i k)])
  (λk M nx=>k<=x.ch.length/\5<=nx/\M 1=some (ksv x.ks)/\M 2=some (.box [.i x.num,.i x.den,.i x.turns,.i x.mage,.w x.key,.i x.now,y.rr,y.ll,y.cc,irs I,Rg.RuleG.rs q.nr q.r,Rg.ConG.rs q.nc q.c,Rg.WarG.rs q.nw q.w,Rg.MarkG.rs q.nm q.m,nY x.ch,.sl 1 4 0 x.ks.length none,qO x.lg])/\
    M 3=some (.box [.i 0,.i 0,.i 0,.i 0,.r (.v (.int .u64 0)),.i 0,aP,aP,aP,aP,aP,aP,aP,aP,aP,aP,aP])/\
    ∃G,M 4=some (.vec 114 3 ((x.ch.take k).filter λc=>!decide (c.p=(n:Int))).length G)/\∀i j,i<((x.ch.take k).filter λc=>!decide (c.p=(n:Int))).length->j<3->G i j=.r (aY ChG.f ((x.ch.take k).filter λc=>!decide (c.p=(n:Int))) i j)) (λk=>x.ch.length - k) 0 ?_ ?_ ?_
 ·refine⟨Nat.zero_le _,τ,ζ,ζ,ζ,_,ξ,λi j hi hj=>?_⟩;simp at hi
 ·simp[go_sem]
 rintro k J M nx _ ⟨hk,hnx,m1,m2,m3,G,m4,hG⟩;have e1:¬1=nx:=ω;have e2:¬2=nx:=ω;have e3:¬3=nx:=ω;have e4:¬4=nx:=ω;have e1':¬nx=1:=ω;have e2':¬nx=2:=ω;have e3':¬nx=3:=ω;have e4':¬nx=4:=ω;have hle:=hF k;by_cases hlt2:k<x.ch.length
 ·have hq:=aI (f:=ChG.f) hlt2;obtain⟨L,hL⟩:∃L,(x.ch.take k).filter (λc=>!decide (c.p=(n:Int)))=L:=⟨_,rfl⟩;have hs:(x.ch.take (k+1)).filter (λc=>!decide (c.p=(n:Int)))=L++if x.ch[k].p=n then [] else [x.ch[k]]:=by
   rw[List.take_succ_eq_append_getElem hlt2,List.filter_append,hL]
   congr 1
   by_cases e:x.ch[k].p=n <;> simp[e]
  rw[hL] at m4 hG hle ⊢;by_cases hp:x.ch[k].p=n
  ·rw[if_pos hp,List.append_nil] at hs;simp[go_sem,hlt2,m1,m2,m3,m4,hq,hp,e1,e2,e3,e4,e1',e2',e3',e4'];refine⟨⟨ω,ω⟩,k+1,ω,?_⟩;rw[hs];exact⟨⟨rfl,ω⟩,ω,ω,_,⟨rfl,rfl⟩,hG⟩
  ·rw[if_neg hp] at hs;simp[go_sem,hlt2,m1,m2,m3,m4,hq,hp,e1,e2,e3,e4,e1',e2',e3',e4'];refine⟨⟨ω,ω⟩,⟨ω,ω⟩,k+1,ω,?_⟩;rw[hs];refine⟨⟨τ,ω⟩,ω,ω,_,⟨τ,rfl⟩,?_⟩;exact kO hG λj hj=>by rcases(ω:j=0\/j=1\/j=2) with rfl | rfl | rfl <;> rfl
 have hk':k=x.ch.length:=ω;subst hk';rw[List.take_length,hC] at m4 hG;simp[go_sem,hC,m1,m2,m3,m4];refine bK (GSt.freeze 4 (by simp[go_sem,m4];rfl)) ?_;refine bK (GSt.wkBox 2 (l':=[.i x.num,.i x.den,.i x.turns,.i x.mage,.w x.key,.i x.now,y.rr,y.ll,y.cc,irs I,Rg.RuleG.rs q.nr q.r,Rg.ConG.rs q.nc q.c,Rg.WarG.rs q.nw q.w,Rg.MarkG.rs q.nm q.m,nY C,.sl 1 4 0 x.ks.length none,qO x.lg]) ξ ?_) ?_
 ·simp[go_sem];intro i j hi hj;rw[hG i j hi hj];rfl
 refine dW aD (α:=Nat) (λk=>[(1,.i n),(2,.ptr 2 0 17 0),(4,.ptr 3 0 17 0),(8,.i k)])
  (λk M nx=>k<=x.ks.length/\4<=nx/\M 2=some (.box [.i x.num,.i x.den,.i x.turns,.i x.mage,.w x.key,.i x.now,y.rr,y.ll,y.cc,irs I,Rg.RuleG.rs q.nr q.r,Rg.ConG.rs q.nc q.c,Rg.WarG.rs q.nw q.w,Rg.MarkG.rs q.nm q.m,nY C,.sl 1 4 0 x.ks.length none,qO x.lg])/\
    M 3=some (.box [.i 0,.i 0,.i 0,.i 0,.r (.v (.int .u64 0)),.i 0,aP,aP,aP,aP,aP,aP,aP,aP,aP,aP,aP])/\
    ∃G,M 1=some (.vec 100 4 x.ks.length G)/\∀i (hi:i<x.ks.length) j,j<4->G i j=.r ((if i<k then x.ks[i].re x.key n else x.ks[i]).f j)) (λk=>x.ks.length - k) 0 ?_ ?_ ?_
 ·refine⟨Nat.zero_le _,ω,ζ,by simp[go_sem,m3],_,by simp[go_sem,m1];rfl,λi hi j hj=>?_⟩;simp[go_sem,aI hi]
 ·simp[go_sem]
 clear hG m1 m2 m3 m4 hle e1 e2 e3 e4 e1' e2' e3' e4';rintro k J M nx _ ⟨hk,hnx,m2,m3,G,m1,hG⟩;have e1:¬1=nx:=ω;have e2:¬2=nx:=ω;have e3:¬3=nx:=ω;have e1':¬nx=1:=ω;have e2':¬nx=2:=ω;have e3':¬nx=3:=ω;by_cases hlt2:k<x.ks.length
 ·have g0:=hG k hlt2 0 δ;have g1:=hG k hlt2 1 δ;have g2:=hG k hlt2 2 δ;have g3:=hG k hlt2 3 δ;rw[if_neg (Nat.lt_irrefl k)] at g0 g1 g2 g3;have w:=aJp (p:=n) ω;have hse:=aD3 ⟨x.ks[k].a,x.ks[k].m,cR x.ks[k].s (bT 1#64 n),x.ks[k].z⟩ x.key;simp[go_sem,hlt2,m1,m2,m3,g0,g1,g2,g3,e1,e2,e3,e1',e2',e3',w];refine aA hse rfl rfl ?_;simp[go_sem,hlt2,m1,m2,m3,g0,g1,g2,g3,e1,e2,e3,e1',e2',e3',w];have hre:(KsG.mk x.ks[k].a x.ks[k].m (cR x.ks[k].s (bT 1#64 n)) ((KsG.mk x.ks[k].a x.ks[k].m (cR x.ks[k].s (bT 1#64 n)) x.ks[k].z).seal x.key))=x.ks[k].re x.key n:=rfl;refine⟨⟨ω,ω⟩,k+1,ω,ω,ω,ω,λi hi j hj=>?_⟩;by_cases e:i=k
  ·subst e;rw[if_pos ⟨rfl,hj⟩,if_pos (Nat.lt_succ_self i),<- hre];rcases(ω:j=0\/j=1\/j=2\/j=3) with rfl | rfl | rfl | rfl <;> rfl
  ·rw[if_neg λh=>e h.1,hG i hi j hj];by_cases h:i<k
   ·rw[if_pos h,if_pos ω]
   ·rw[if_neg h,if_neg ω]
 have hk':k=x.ks.length:=ω;subst hk';simp[go_sem,m1,m2,m3];refine aA c3 rfl rfl ?_;simp[go_sem,m1,m2,m3];refine aV (GSt.freeze 1 (by simp[go_sem,m1];rfl)) (aT ?_);simp[go_sem];refine⟨[],τ,λN=>⟨?_,ζ⟩⟩;simp[go_sem];intro i j hi hj;rw[hG i hi j hj,if_pos hi,aI (by simpa using hi)];simp[SV.toRV]
end Go.Gx.Sr
namespace Go.Gx.Rg
open Go.RowKit Go.Proofs Go.Proofs.YtncccnmmjfapnaaGreat
def RG.seen (g:RG) (q:QG) (k:Nat):Option MarkG:=((List.range k).find? λi=>onB q (g.m i)).map g.m
theorem RG.seen_no {g:RG} {q:QG} {k:Nat} (h:onB q (g.m k)=false):g.seen q (k+1)=g.seen q k:=by
 unfold RG.seen;rw[List.range_succ,List.find?_append];simp[h]
theorem RG.seen_yes {g:RG} {q:QG} {k:Nat} (h6:g.c6=true) (hk:k<g.nm) (h:onB q (g.m k)=true):g.seen q k=none/\g.seen q (k+1)=some (g.m k):=by
 have hn:∀j,j<k->onB q (g.m j)=false:=λj hj=>by
  have:=RG.sortM h6 hj hk;simp[onB] at h ⊢;unfold MarkG.ltP at this;omega
 have h0:(List.range k).find? (λi=>onB q (g.m i))=none:=List.find?_eq_none.2 λj hj=>by simp[hn j (List.mem_range.1 hj)]
 refine⟨by simp[RG.seen,h0],?_⟩;unfold RG.seen;rw[List.range_succ,List.find?_append,h0];simp[h]
def aDz (lev:Int):Option MarkG->List SV
 | none=>[.i lev,.b false,.i 0,.i 0]
 | some m=>[.i lev,.b true,.i (if 2<=lev then m.s else 0),.i (if lev=3 then m.n else 0)]
theorem checkQuery41 (q:QG) (h:q.OK):Pure Tryz.prog 304 [q.sv] (· =.i q.err):=by
 have hk:(q.nk:Int)<2 ^ 62:=h;refine π Tryz.func304 ?_;have fin:∀c:Bool,q.c1=c->q.err=if c then (if q.cks then 0 else 91) else 2:=λc hc=>by rw[QG.err,hc]
 simp[go_sem];refine aA (v:=.b (kindB q.p)) (mU q.p) rfl rfl ?_;generalize h1:kindB q.p=a1
 cases a1
 ·simp[go_sem];simp[fin false (by simp[QG.c1,h1])]
 simp[go_sem];refine aA (v:=.b (kindB q.r)) (mU q.r) rfl rfl ?_;generalize h2:kindB q.r=a2
 cases a2
 ·simp[go_sem];simp[fin false (by simp[QG.c1,h1,h2])]
 simp[go_sem];refine aA (v:=.b (kindB q.l)) (mU q.l) rfl rfl ?_;generalize h3:kindB q.l=a3
 cases a3
 ·simp[go_sem];simp[fin false (by simp[QG.c1,h1,h2,h3])]
 simp[go_sem];refine aA (v:=.b (persB q.w)) (oZ q.w) rfl rfl ?_;generalize h4:persB q.w=a4
 cases a4
 ·simp[go_sem];simp[fin false (by simp[QG.c1,h1,h2,h3,h4])]
 simp[go_sem];refine aA (v:=.b (timeB q.t)) (pM q.t) rfl rfl ?_;generalize h5:timeB q.t=a5
 cases a5
 ·simp[go_sem];simp[fin false (by simp[QG.c1,h1,h2,h3,h4,h5])]
 simp[go_sem];refine aA ((aV6 q.nk hk q.k).val (v':=.b q.cks) rfl) rfl rfl ?_;have fin:=fin true (by simp[QG.c1,h1,h2,h3,h4,h5]);generalize h6:q.cks=a6
 cases a6
 ·simp[go_sem];simp[fin,h6]
 ·simp[go_sem];simp[fin,h6]
theorem aJ1 (g:RG) (q:QG) (h:g.OK) (hq:q.OK):Pure Tryz.prog 377 [g.sv,q.sv] (· =.i (ask g q)):=by
 refine π Tryz.func377 ?_;simp[go_sem];refine aA (valid58 g h) rfl rfl ?_;generalize h1:g.valid=a1
 cases a1
 ·simp[go_sem];simp[ask,h1]
 simp[go_sem];refine aA (checkQuery41 q hq) rfl rfl ?_;simp[go_sem];simp[ask,h1]
theorem aO9 (g:RG) (q:QG) (b:Int) (h:g.OK):Pure Tryz.prog 430 [g.sv,q.sv,.r (.v (.int .u8 b))] (· =.b (lN g q b)):=by
 refine π Tryz.func430 ?_;have hc:=h.nc;have hw:=h.nw;by_cases h3:b=3
 ·simp[go_sem,h3];simp[lN]
 by_cases h1:b=1
 ·simp[go_sem,h1];refine aH aD (α:=Nat) (λk=>[(3,.ptr 0 0 4 0),(4,.ptr 1 0 6 0),(7,.i k)]) (λ_=>g.box++[some (.box [.i q.p,.i q.r,.i q.l,.i q.w,.i q.t,q.ks])]) 2 (λk=>k<=g.nc/\∀j,j<k->(g.c j).cov q=false) (λk=>g.nc - k) 0 (λ_=>rfl) τ ζ ζ ?_;intro k J hi;simp[go_sem];split
  ·rename_i hlt;refine⟨ω,?_⟩;have step:(g.c k).cov q=false->0<=(k:Int)/\∃x',(x'<=g.nc/\∀j,j<x'->(g.c j).cov q=false)/\g.nc - x'<g.nc - k/\k+1=x':=λhk=>
    ⟨ω,k+1,⟨ω,eC hi.2 hk⟩,ω,rfl⟩
   by_cases e1:(g.c k).p=q.w
   ·by_cases e2:(g.c k).q=q.p
    ·by_cases e3:q.t<(g.c k).u
     ·simp[go_sem,e1,e2,e3];simp[lN,h1];exact sD hlt (by simp[ConG.cov,e1,e2,e3])
     ·simp[go_sem,e1,e2,e3];exact⟨ω,k+1,⟨ω,eC hi.2 (by simp[ConG.cov,e1,e2,e3])⟩,ω,rfl⟩
    ·simp[go_sem,e1,e2];exact⟨ω,k+1,⟨ω,eC hi.2 (by simp[ConG.cov,e1,e2])⟩,ω,rfl⟩
   ·simp[go_sem,e1];exact⟨ω,k+1,⟨ω,eC hi.2 (by simp[ConG.cov,e1])⟩,ω,rfl⟩
  ·rename_i hge;simp[lN,h1];exact xB λj hj=>hi.2 j ω
 ·simp[go_sem,h1,h3];refine aH aD (α:=Nat) (λk=>[(3,.ptr 0 0 4 0),(4,.ptr 1 0 6 0),(9,.i k)]) (λ_=>g.box++[some (.box [.i q.p,.i q.r,.i q.l,.i q.w,.i q.t,q.ks])]) 2 (λk=>k<=g.nw/\∀j,j<k->(g.w j).cov q=false) (λk=>g.nw - k) 0 (λ_=>rfl) τ ζ ζ ?_;intro k J hi;simp[go_sem];split
  ·rename_i hlt;refine⟨ω,?_⟩;by_cases e1:(g.w k).l=q.l
   ·by_cases e2:(g.w k).p=q.w
    ·by_cases e3:(g.w k).f<=q.t
     ·by_cases e4:q.t<(g.w k).t
      ·simp[go_sem,e1,e2,e3,e4];simp[lN,h1,h3];exact sD hlt (by simp[WarG.cov_eq,WarG.cov',e1,e2,e3,e4])
      ·simp[go_sem,e1,e2,e3,e4];exact⟨ω,k+1,⟨ω,eC hi.2 (by simp[WarG.cov_eq,WarG.cov',e1,e2,e3,e4])⟩,ω,rfl⟩
     ·simp[go_sem,e1,e2,e3];exact⟨ω,k+1,⟨ω,eC hi.2 (by simp[WarG.cov_eq,WarG.cov',e1,e2,e3])⟩,ω,rfl⟩
    ·simp[go_sem,e1,e2];exact⟨ω,k+1,⟨ω,eC hi.2 (by simp[WarG.cov_eq,WarG.cov',e1,e2])⟩,ω,rfl⟩
   ·simp[go_sem,e1];exact⟨ω,k+1,⟨ω,eC hi.2 (by simp[WarG.cov_eq,WarG.cov',e1])⟩,ω,rfl⟩
  ·rename_i hge;simp[lN,h1,h3];exact xB λj hj=>hi.2 j ω
theorem aS8 (g:RG) (q:QG) (r:RuleG) (h:g.OK):Pure Tryz.prog 379 [g.sv,q.sv,r.sv] (· =.b (ruleB g q r)):=by
 refine π Tryz.func379 ?_;by_cases h1:r.p=q.p;rotate_left
 ·simp[go_sem,h1];simp[ruleB,h1]
 by_cases h2:r.r=q.r;rotate_left
 ·simp[go_sem,h1,h2];simp[ruleB,h1,h2]
 by_cases h3:r.l=q.l;rotate_left
 ·simp[go_sem,h1,h2,h3];simp[ruleB,h1,h2,h3]
 by_cases h4:r.f<=q.t;rotate_left
 ·simp[go_sem,h1,h2,h3,h4];simp[ruleB,h1,h2,h3,h4]
 by_cases h5:q.t<r.t;rotate_left
 ·simp[go_sem,h1,h2,h3,h4,h5];simp[ruleB,h1,h2,h3,h4,h5]
 by_cases h6:r.k<=q.nk;rotate_left
 ·simp[go_sem,h1,h2,h3,h4,h5,h6];simp[ruleB,h1,h2,h3,h4,h5,h6]
 simp[go_sem,h1,h2,h3,h4,h5,h6];refine aA (aO9 g q r.b h) rfl rfl ?_;simp[go_sem];simp[ruleB,h1,h2,h3,h4,h5,h6]
theorem aM8 (g:RG) (q:QG) (h:g.OK):Pure Tryz.prog 378 [g.sv,q.sv] (· =.i (g.lev q g.nr)):=by
 refine π Tryz.func378 ?_;have hr:=h.nr;simp[go_sem];refine aH aD (α:=Nat) (λk=>[(2,.ptr 0 0 4 0),(3,.ptr 1 0 6 0),(5,.i (g.lev q k)),(6,.i k)]) (λ_=>g.box++[some (.box [.i q.p,.i q.r,.i q.l,.i q.w,.i q.t,q.ks])]) 2 (λk=>k<=g.nr) (λk=>g.nr - k) 0 (λ_=>rfl) τ (by simp[go_sem,RG.lev]) ζ ?_;intro k J hi;simp[go_sem];split
 ·rename_i hlt;refine aE aD κ κ ?_;generalize hb:ruleB g q (g.r k)=b;have hv:=(aS8 g q (g.r k) h).val (v':=.b b) (by rw[hb])
  cases b
  ·simp[go_sem];refine⟨hlt,_,aB hv rfl rfl,?_⟩;simp[go_sem];exact⟨ω,k+1,ω,ω,by simp[RG.lev,hb],rfl⟩
  ·simp[go_sem];refine⟨hlt,_,aB hv rfl rfl,?_⟩;simp[go_sem];exact⟨ω,ω,k+1,ω,ω,by simp[RG.lev,hb],rfl⟩
 ·rename_i hge;have:k=g.nr:=ω;rw[this]
theorem applies32 (g:RG) (q:QG) (h:g.OK) (hq:q.OK):Pure Tryz.prog 306 [g.sv,q.sv] (· =.tup [aWp (g.apq q),.i (ask g q)]):=by
 refine Pure.ofSub ?_;refine π Tryz.func306 ?_;simp[go_sem];refine aA (aJ1 g q h hq) rfl rfl ?_;by_cases ha:ask g q=0;rotate_left
 ·simp[go_sem,ha];simp[RG.apq,ha]
 have hsm:=(RG.small (tW ha).1).1;simp[go_sem,ha];refine bK (GSt.adopt 7 3 1 (λi j=>.r (cQ lI [] i j)) ζ) ?_;refine bF aD (α:=Nat) (λk=>[(2,.ptr 0 0 4 0),(3,.ptr 1 0 6 0),(7,.sl 2 1 0 (g.apl q k).length none),(8,.i k)])
  (λk=>g.box++[q.bx,some (.vec 3 1 (g.apl q k).length λi j=>.r ((cQ lI (g.apl q k)) i j))]) 3 (λk=>k<=g.nr) (λk=>g.nr - k) 0 (λ_=>rfl) τ (by simp[go_sem,show g.apl q 0=[] from rfl]) (by simp[go_sem,show g.apl q 0=[] from rfl]) ?_
 intro k J hi;simp[go_sem];split;rotate_left
 ·rename_i hge;have hk:k=g.nr:=ω;subst hk;simp[RG.apq,ha]
 rename_i hlt;have hal:=RG.apl_len g q k;refine aE aD κ κ ?_;generalize hb:ruleB g q (g.r k)=b;have hv:=(aS8 g q (g.r k) h).val (v':=.b b) (by rw[hb])
 cases b
 ·simp[go_sem];refine⟨hlt,_,aB hv rfl rfl,?_⟩;have hn:=RG.apl_no hb;simp[go_sem];exact⟨ω,k+1,ω,ω,by simp[hn],by simp[hn]⟩
 ·simp[go_sem];refine⟨hlt,_,aB hv rfl rfl,?_⟩;have hn:=RG.apl_yes hb;simp[go_sem];refine⟨⟨ω,ω⟩,ω,k+1,ω,ω,by simp[hn],by simp[hn],λi hi=>?_⟩;rw[hn] at hi ⊢;rw[nA (k:=k) rfl (by simp at hi;omega)];rfl
theorem answer33 (g:RG) (q:QG) (h:g.OK) (hq:q.OK):Pure Tryz.prog 305 [g.sv,q.sv] (· =.tup [g.rep q,.i (g.aerr q)]):=by
 refine π Tryz.func305 ?_;simp[go_sem];refine aA (aJ1 g q h hq) rfl rfl ?_;by_cases ha:ask g q=0;rotate_left
 ·have he:g.aerr q=ask g q:=by simp[RG.aerr,ha]
  have hr:g.rep q=_:=RG.ans_no (by rw[he];exact ha);simp[go_sem,ha];rw[<- he];simp[RG.rep] at hr;simp[hr]
 have hv:=(tW ha).1;have hbd:=RG.lev_bd hv q g.nr ω;simp[go_sem,ha];refine aA (aM8 g q h) rfl rfl ?_;by_cases h0:g.lev q g.nr=0
 ·have he:g.aerr q=90:=by simp[RG.aerr,ha,h0]
  have hr:g.rep q=_:=RG.ans_no (by rw[he];decide);simp[go_sem,h0];simp[RG.rep] at hr;simp[he,hr]
 have he:g.aerr q=0:=by simp[RG.aerr,ha,h0]
 have h6:=RG.v6 hv;have hsm:=(RG.small hv).2.2.2;have hr:g.rep q=.agg (aDz (g.lev q g.nr) (g.onM q)):=by
  cases hm:g.onM q with
  | none=>exact RG.ans_base he hm
  | some m=>exact RG.ans_full he hm
 generalize hL:g.lev q g.nr=L at *;simp[go_sem,h0];refine aH aD (α:=Nat) (λk=>[(2,.ptr 0 0 4 0),(3,.ptr 1 0 6 0),(4,.ptr 2 0 4 0),(7,.i L),(8,.ptr 3 0 4 0),(9,.i k)]) (λk=>g.box++[q.bx,some (.box [.i 0,.b false,.i 0,.i 0]),some (.box (aDz L (g.seen q k)))]) 4 (λk=>k<=g.nm) (λk=>g.nm - k) 0 (λ_=>rfl) τ ζ (by simp[go_sem,RG.seen,aDz]) ?_;intro k J hi;simp[go_sem];split;rotate_left
 ·rename_i hge;have hk:k=g.nm:=ω;subst hk;have:g.seen q g.nm=g.onM q:=rfl;rw[this];simp[RG.rep] at hr
  cases hm:g.onM q with
  | none=>rw[hm] at hr;simp[aDz,go_sem] at hr ⊢;simp[he,hr]
  | some m=>rw[hm] at hr;simp[aDz,go_sem] at hr ⊢;simp[he,hr]
 rename_i hlt;refine⟨ω,?_⟩;have no:onB q (g.m k)=false->∃x',x'<=g.nm/\g.nm - x'<g.nm - k/\k+1=x'/\aDz L (g.seen q k)=aDz L (g.seen q x'):=λhn=>⟨k+1,ω,ω,rfl,by rw[RG.seen_no hn]⟩;have hrepl:∀m,aDz L m=[.i L,.b m.isSome,.i (if 2<=L then m.elim 0 (·.s) else 0),.i (if L=3 then m.elim 0 (·.n) else 0)]:=λm=>by cases m <;> simp[aDz]
 simp only [hrepl] at no ⊢;by_cases e1:(g.m k).l=q.l;rotate_left
 ·have:=RG.seen_no (g:=g) (k:=k) (q:=q) (by simp[onB,e1]);simp[go_sem,e1];exact⟨ω,k+1,ω,ω,τ,by simp[this]⟩
 by_cases e2:(g.m k).p=q.w;rotate_left
 ·have:=RG.seen_no (g:=g) (k:=k) (q:=q) (by simp[onB,e1,e2]);simp[go_sem,e1,e2];exact⟨ω,k+1,ω,ω,τ,by simp[this]⟩
 by_cases e3:(g.m k).s<=q.t;rotate_left
 ·have:=RG.seen_no (g:=g) (k:=k) (q:=q) (by simp[onB,e1,e2];omega);simp[go_sem,e1,e2,e3];exact⟨ω,k+1,ω,ω,τ,by simp[this]⟩
 by_cases e4:(g.m k).u<=q.t
 ·have:=RG.seen_no (g:=g) (k:=k) (q:=q) (by simp[onB,e1,e2];omega);simp[go_sem,e1,e2,e3,e4];exact⟨ω,k+1,ω,ω,τ,by simp[this]⟩
 obtain⟨s1,s2⟩:=RG.seen_yes h6 hlt (show onB q (g.m k)=true by simp[onB,e1,e2];omega);rw[s1];have e4':q.t<(g.m k).u:=ω;rcases(ω:L=1\/L=2\/L=3) with hl | hl | hl
 ·simp[go_sem,e1,e2,e3,e4,e4',hl];exact⟨ω,k+1,ω,ω,τ,by simp[s2]⟩
 ·simp[go_sem,e1,e2,e3,e4,e4',hl];exact⟨ω,k+1,ω,ω,τ,by simp[s2]⟩
 ·simp[go_sem,e1,e2,e3,e4,e4',hl];exact⟨ω,k+1,ω,ω,τ,by simp[s2]⟩
end Go.Gx.Rg
