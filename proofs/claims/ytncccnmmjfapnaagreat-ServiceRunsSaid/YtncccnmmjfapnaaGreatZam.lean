/-
 Texts of the walk, merged: Es Et Eu Ev Ew Ex Ey Ez Fa Fc Fh Fi Ha Fj Fk Fl Fm Fn Fo Fp Fs Ft Fu Fw Fwo Fx Hb.
-/
import Derived.Test.YtncccnmmjfapnaaGreatZal
import Derived.Test.YtncccnmmjfapnaaGreatZae
set_option linter.unusedVariables false
set_option linter.unusedSimpArgs false
set_option maxRecDepth 100000
set_option maxHeartbeats 4000000
namespace Go.Gx
open Go.RowKit Go.Proofs Go.Proofs.YtncccnmmjfapnaaGreat
theorem EG.con_gone {g:EG} (hl:g.lth) {a b:Int} (hb:g.th b=false) (h:g.Con g.nl a b):a=b:=by
 cases h with
 | refl=>rfl
 | step _ hz=>
   obtain⟨j,h1,_,h3⟩:=hz;obtain⟨t1,t2⟩:=hl j h1;rcases h3 with ⟨_,e⟩ | ⟨_,e⟩
   ·rw[e] at t2;rw[t2] at hb;cases hb
   ·rw[e] at t1;rw[t1] at hb;cases hb
theorem EG.rc_th {g:EG} (hl:g.lth) (hi:g.inl) {a:Int} (ha:g.th a=true) {k:Nat} (hk:k<g.nr):g.rc a g.nr k=(!(g.r k).g&&decide (g.q k=g.q a)):=by
 have e:=EG.th_iff.1 ha;have hr:=EG.rc_iff hi e.1 e.2.1 (x:=k);rw[Bool.eq_iff_iff,hr];simp only [Bool.and_eq_true,Bool.not_eq_true',decide_eq_true_eq];constructor
 ·intro h;refine⟨?_,h.symm⟩
  cases hg:(g.r k).g with
  | false=>rfl
  | true=>
    have hf:g.th k=false:=by
     cases ht:g.th k with
     | false=>rfl
     | true=>have:=(EG.th_iff.1 ht).2.2;simp[hg] at this
    have:=EG.con_gone hl hf (EG.con_iff.2 h);rw[this] at ha;rw[ha] at hf;cases hf
 ·exact λh=>h.2.symm
theorem EG.bp_eq {g:EG} (hl:g.lth) (hi:g.inl) {a:Int} (ha:g.th a=true):g.bp a g.nr=(g.bst (g.mem a g.nr):Nat):=by
 have e:=EG.th_iff.1 ha;have key:∀k,k<=g.nr->g.bp a k=((g.mem a k).foldl g.bt (g.q a).toNat:Nat):=by
  intro k
  induction k with
  | zero=>
    intro _;have:=EG.pm_bd hl g.nl a (Nat.le_refl _) e.1 e.2.1;show g.pm g.nl a=(((g.pm g.nl a).toNat:Nat):Int);omega
  | succ k ih=>
    intro hk;have ih:=ih ω;rw[EG.mem_succ,EG.rc_th hl hi ha ω];simp only [EG.bp];by_cases hc:(!(g.r k).g&&decide (g.q k=g.q a))=true
    ·rw[if_pos hc,List.foldl_append,ih];simp only [hc,Bool.true_and,decide_eq_true_eq,Int.toNat_natCast,List.foldl_cons,List.foldl_nil,EG.bt];split <;> rfl
    ·rw[if_neg hc,ih,if_neg (by simp only [Bool.and_eq_true] at hc ⊢;exact λh=>hc h.1)]
 rw[key g.nr (Nat.le_refl _)];have hc:=EG.con_pm g g.nl a;have hr:=EG.con_rc hi e.1 e.2.1 hc;have hf:(List.range g.nr).find? (g.rc a g.nr)=some (g.pm g.nl a).toNat:=by
  rw[List.find?_range_eq_some];refine⟨hr.2.2,List.mem_range.2 ω,λj hj=>?_⟩
  cases h:g.rc a g.nr j with
  | false=>rfl
  | true=>
    have:=EG.pm_min (EG.rc_con hi h);omega
 have hn:nth (g.mem a g.nr) 0=(g.q a).toNat:=by
  unfold nth EG.mem;rw[List.getD_eq_getElem?_getD,<- List.head?_eq_getElem?,List.head?_filter,hf];rfl
 unfold EG.bst;rw[hn]
abbrev aM:SV:=.r (.v (.slice none 0 0))
theorem aTd (n:Nat) (hn:n<=1000000) (get:Nat->Nat->RV):Own Tryz.prog 135 [] [.r (.rs 2 n get)] (.sl 0 2 0 n none) [.vec 116 2 n λi j=>.r (get i j)]:=by
 refine χ Tryz.func135 ?_;simp[go_sem];refine⟨λh=>.inr (by subst h;simp),⟨ω,ω⟩,⟨[0],τ,λN=>⟨?_,?_⟩⟩⟩
 ·simp[go_sem]
 ·simp[go_sem,aI];intros;omega
theorem aRt (n:Nat) (hn:n<=1000000) (get:Nat->Nat->RV):Own Tryz.prog 136 [] [.r (.rs 3 n get)] (.sl 0 3 0 n none) [.vec 147 3 n λi j=>.r (get i j)]:=by
 refine χ Tryz.func136 ?_;simp[go_sem];refine⟨λh=>.inr (by subst h;simp),⟨ω,ω⟩,⟨[0],τ,λN=>⟨?_,?_⟩⟩⟩
 ·simp[go_sem]
 ·simp[go_sem,aI];intros;omega
theorem aP0 (n:Nat) (hn:n<=1000000) (get:Nat->Nat->RV):Own Tryz.prog 137 [] [.r (.rs 3 n get)] (.sl 0 3 0 n none) [.vec 150 3 n λi j=>.r (get i j)]:=by
 refine χ Tryz.func137 ?_;simp[go_sem];refine⟨λh=>.inr (by subst h;simp),⟨ω,ω⟩,⟨[0],τ,λN=>⟨?_,?_⟩⟩⟩
 ·simp[go_sem]
 ·simp[go_sem,aI];intros;omega
theorem aQk (n:Nat) (hn:n<=1000000) (get:Nat->Nat->RV):Own Tryz.prog 138 [] [.r (.rs 2 n get)] (.sl 0 2 0 n none) [.vec 253 2 n λi j=>.r (get i j)]:=by
 refine χ Tryz.func138 ?_;simp[go_sem];refine⟨λh=>.inr (by subst h;simp),⟨ω,ω⟩,⟨[0],τ,λN=>⟨?_,?_⟩⟩⟩
 ·simp[go_sem]
 ·simp[go_sem,aI];intros;omega
def VtG.eqB (x y:VtG):Bool:=decide (x.o=y.o)&&decide (x.s=y.s)
theorem VtG.eqB_rfl (x:VtG):x.eqB x=true:=by simp[VtG.eqB]
def RcG.eqB (x y:RcG):Bool:=decide (x.q=y.q)&&decide (x.g=y.g)
theorem RcG.eqB_rfl (x:RcG):x.eqB x=true:=by simp[RcG.eqB]
def LkG.eqB (x y:LkG):Bool:=decide (x.a=y.a)&&decide (x.b=y.b)&&decide (x.s=y.s)
theorem LkG.eqB_rfl (x:LkG):x.eqB x=true:=by simp[LkG.eqB]
theorem aQ3 (n:Nat) (hn:n<=1000000000) (get:Nat->Nat->RV) (g:FuncId) (ca:List SV) (hca:SV.closedL ca=true) (p:Nat->Bool)
 (hp:∀i,i<n->Pure Tryz.prog g (.agg [.r (get i 0),.r (get i 1),.r (get i 2)]::ca) (· =.b (p i))):Pure Tryz.prog 445 [.r (.rs 3 n get),.fn (.func g) [] ca] (· =.i (rN p n)):=by
 refine π Tryz.func445 ?_;simp[go_sem];refine aH aD (α:=Nat) (λx=>[(0,.r (.rs 3 n get)),(1,.fn (.func g) [] ca),(7,.i n),(8,.i x)]) (λ_=>[]) 0 (λx=>x<=n/\∀j,j<x->p j=false) (λx=>n - x) 0 (λ_=>rfl) τ (by simp[go_sem,SV.trimL_closed _ _ hca]) ζ ?_;intro x J hi;by_cases hlt:x<n
 ·simp[go_sem,hlt];refine aA (hp x hlt) (by simp[go_sem,hca]) rfl ?_;by_cases hb:p x=true
  ·simp[go_sem,hb];exact(gU hlt hb hi.2).symm
  ·have hb':p x=false:=by simpa using hb
   simp[go_sem,hb',SV.trimL_closed _ _ hca];refine⟨ω,x+1,⟨ω,λj hj=>?_⟩,ω,ω⟩;by_cases hjx:j=x
   ·subst hjx;exact hb'
   ·exact hi.2 j ω
 ·simp[go_sem,hlt];exact(gT λj hj=>hi.2 j ω).symm
theorem aSj (n:Nat) (hn:n<=1000000000) (get:Nat->Nat->RV) (g:FuncId) (ca:List SV) (hca:SV.closedL ca=true) (p:Nat->Bool)
 (hp:∀i,i<n->Pure Tryz.prog g (.agg [.r (get i 0),.r (get i 1),.r (get i 2)]::ca) (· =.b (p i))):Pure Tryz.prog 446 [.r (.rs 3 n get),.fn (.func g) [] ca] (· =.i (rN p n)):=by
 refine π Tryz.func446 ?_;simp[go_sem];refine aH aD (α:=Nat) (λx=>[(0,.r (.rs 3 n get)),(1,.fn (.func g) [] ca),(7,.i n),(8,.i x)]) (λ_=>[]) 0 (λx=>x<=n/\∀j,j<x->p j=false) (λx=>n - x) 0 (λ_=>rfl) τ (by simp[go_sem,SV.trimL_closed _ _ hca]) ζ ?_;intro x J hi;by_cases hlt:x<n
 ·simp[go_sem,hlt];refine aA (hp x hlt) (by simp[go_sem,hca]) rfl ?_;by_cases hb:p x=true
  ·simp[go_sem,hb];exact(gU hlt hb hi.2).symm
  ·have hb':p x=false:=by simpa using hb
   simp[go_sem,hb',SV.trimL_closed _ _ hca];refine⟨ω,x+1,⟨ω,λj hj=>?_⟩,ω,ω⟩;by_cases hjx:j=x
   ·subst hjx;exact hb'
   ·exact hi.2 j ω
 ·simp[go_sem,hlt];exact(gT λj hj=>hi.2 j ω).symm
theorem uY (p:Nat->Bool) (n:Nat):(rN p n=-1/\∀j,j<n->p j=false)\/∃i,i<n/\p i=true/\(∀j,j<i->p j=false)/\rN p n=i:=by
 unfold rN
 cases h:(List.range n).find? p with
 | none=>
   have:=List.find?_eq_none.1 h;exact .inl ⟨rfl,λj hj=>by simpa using this j (List.mem_range.2 hj)⟩
 | some i=>
   obtain⟨h1,h2,h3⟩:=List.find?_range_eq_some.1 h;exact .inr ⟨i,List.mem_range.1 h2,h1,λj hj=>by simpa using h3 j hj,rfl⟩
def kept (p:Nat->Bool) (n:Nat):List Nat:=(List.range n).filter λi=>!p i
theorem bB (p:Nat->Bool) (n:Nat):kept p (n+1)=kept p n++if p n then [] else [n]:=by
 unfold kept;rw[List.range_succ,List.filter_append]
 cases h:p n <;> simp[h]
theorem eZ (p:Nat->Bool) (n:Nat):(kept p n).length<=n:=by
 unfold kept;exact Nat.le_trans (List.length_filter_le _ _) τ
theorem cL {p:Nat->Bool} {n:Nat} (h:∀j,j<n->p j=false):kept p n=List.range n:=by
 unfold kept;exact List.filter_eq_self.2 λa ha=>by simp[h a (List.mem_range.1 ha)]
def cZ (get:Nat->Nat->RV) (p:Nat->Bool) (j:Nat):Nat->Nat->RV:=λi c=>if i<(kept p j).length then cG get (kept p j) i c else get i c
theorem kJ {get:Nat->Nat->RV} {p:Nat->Bool} {j i c:Nat} (h:(kept p j).length<=i):cZ get p j i c=get i c:=if_neg ω
theorem gS {get:Nat->Nat->RV} {p:Nat->Bool} {j i c:Nat} (h:p j=false):cZ get p (j+1) i c=if i=(kept p j).length then get j c else cZ get p j i c:=by
 have hs:kept p (j+1)=kept p j++[j]:=by rw[bB,h];simp
 unfold cZ cG;rw[hs];by_cases h1:i=(kept p j).length
 ·subst h1;simp
 ·rw[if_neg h1];by_cases h2:i<(kept p j).length
  ·rw[if_pos h2,if_pos ι,List.getElem?_append_left h2]
  ·rw[if_neg h2,if_neg ι]
theorem aYu (n:Nat) (hn:n<=1000000) (get:Nat->Nat->RV) (g:FuncId) (c:RV) (p:Nat->Bool) (ho:∀i j,i<n->j<3->(SV.r (get i j)).one=true) (hp:∀i,i<n->Pure Tryz.prog g [.agg [.r (get i 0),.r (get i 1),.r (get i 2)],.r c] (· =.b (p i))) :
 Own Tryz.prog 413 [.vec 147 3 n λi j=>.r (get i j)] [.sl 0 3 0 n none,.fn (.func g) [] [.r c]] (.sl 0 3 0 (kept p n).length none) [.vec 147 3 (kept p n).length λi j=>.r (cG get (kept p n) i j)]:=by
 refine γ Tryz.func413 ?_;simp[go_sem];refine aG (v:=.i (rN p n)) ?_ rfl ?_
 ·simp[go_sem];exact aQ3 n ω get g [.r c] rfl p hp
 rcases uY p n with ⟨h1,h2⟩ | ⟨i0,h1,h2,h3,h4⟩
 ·rw[h1];simp[go_sem];refine⟨[0],τ,λN=>⟨?_,?_⟩⟩
  ·simp[go_sem,cL h2]
  ·simp[go_sem,cL h2];intro i j hi hj;exact(bL (by simp[hi]) j).symm
 rw[h4];simp[go_sem];have hk0:kept p i0=List.range i0:=cL h3;have hk1:kept p (i0+1)=List.range i0:=by rw[bB,hk0,h2];simp
 refine⟨ω,?_⟩;refine bF aD (α:=Nat) (λj=>[(0,.sl 0 3 0 n none),(1,.fn (.func g) [] [.r c]),(5,.i (kept p j).length),(6,.i j)]) (λj=>[some (.vec 147 3 n λi c=>.r (cZ get p j i c))]) 1 (λj=>j<=n/\(kept p j).length<j) (λj=>n - j) (i0+1) (λ_=>rfl) ⟨ω,by rw[hk1];simp⟩ (by simp[go_sem,hk1]) (by
  simp[go_sem];intro i j hi hj;unfold cZ;rw[hk1];split
  ·rename_i h;exact(bL (by simp at h;simp[h]) j).symm
  ·rfl) ?_
 intro j J hi;have hkn:=eZ p j;have hq:∀c,cZ get p j j c=get j c:=λc=>kJ hkn;by_cases hlt:j<n
 ·simp[go_sem,hlt,hq];refine⟨⟨by simpa [SV.one] using ho j 0 hlt δ,by simpa [SV.one] using ho j 1 hlt δ,by simpa [SV.one] using ho j 2 hlt δ⟩,?_⟩;refine aA (hp j hlt) rfl rfl ?_
  cases hpj:p j
  ·simp[go_sem];have hs:kept p (j+1)=kept p j++[j]:=by rw[bB,hpj];simp
   refine⟨ω,⟨⟨by simpa [SV.one] using ho j 0 hlt δ,by simpa [SV.one] using ho j 1 hlt δ,by simpa [SV.one] using ho j 2 hlt δ⟩,ω⟩,ω,ω,j+1,⟨ω,by rw[hs];simp;omega⟩,ω,⟨by rw[hs];simp,ω⟩,λi c hi hc=>?_⟩;rw[gS hpj];by_cases hil:i=(kept p j).length
   ·rw[if_pos ⟨hil,hc⟩,if_pos hil];have hcc:c=0\/c=1\/c=2:=ω;rcases hcc with rfl | rfl | rfl <;> simp[SV.trim]
   ·rw[if_neg (λh=>hil h.1),if_neg hil]
  ·simp[go_sem];have hs:kept p (j+1)=kept p j:=by rw[bB,hpj];simp
   refine⟨ω,j+1,⟨ω,by rw[hs];omega⟩,ω,⟨by rw[hs],ω⟩,λi c hi hc=>?_⟩;unfold cZ;rw[hs]
 ·have hjn:j=n:=ω;subst hjn;simp[go_sem];refine⟨ω,ω,ω,[0],τ,λN=>⟨?_,?_⟩⟩
  ·simp[go_sem]
  ·simp[go_sem];refine⟨ω,λi c hi hc=>?_⟩;rw[if_neg ω];unfold cZ;rw[if_pos hi]
theorem aZ4 (n:Nat) (hn:n<=1000000) (get:Nat->Nat->RV) (g:FuncId) (c:RV) (p:Nat->Bool) (ho:∀i j,i<n->j<3->(SV.r (get i j)).one=true) (hp:∀i,i<n->Pure Tryz.prog g [.agg [.r (get i 0),.r (get i 1),.r (get i 2)],.r c] (· =.b (p i))) :
 Own Tryz.prog 415 [.vec 150 3 n λi j=>.r (get i j)] [.sl 0 3 0 n none,.fn (.func g) [] [.r c]] (.sl 0 3 0 (kept p n).length none) [.vec 150 3 (kept p n).length λi j=>.r (cG get (kept p n) i j)]:=by
 refine γ Tryz.func415 ?_;simp[go_sem];refine aG (v:=.i (rN p n)) ?_ rfl ?_
 ·simp[go_sem];exact aSj n ω get g [.r c] rfl p hp
 rcases uY p n with ⟨h1,h2⟩ | ⟨i0,h1,h2,h3,h4⟩
 ·rw[h1];simp[go_sem];refine⟨[0],τ,λN=>⟨?_,?_⟩⟩
  ·simp[go_sem,cL h2]
  ·simp[go_sem,cL h2];intro i j hi hj;exact(bL (by simp[hi]) j).symm
 rw[h4];simp[go_sem];have hk0:kept p i0=List.range i0:=cL h3;have hk1:kept p (i0+1)=List.range i0:=by rw[bB,hk0,h2];simp
 refine⟨ω,?_⟩;refine bF aD (α:=Nat) (λj=>[(0,.sl 0 3 0 n none),(1,.fn (.func g) [] [.r c]),(5,.i (kept p j).length),(6,.i j)]) (λj=>[some (.vec 150 3 n λi c=>.r (cZ get p j i c))]) 1 (λj=>j<=n/\(kept p j).length<j) (λj=>n - j) (i0+1) (λ_=>rfl) ⟨ω,by rw[hk1];simp⟩ (by simp[go_sem,hk1]) (by
  simp[go_sem];intro i j hi hj;unfold cZ;rw[hk1];split
  ·rename_i h;exact(bL (by simp at h;simp[h]) j).symm
  ·rfl) ?_
 intro j J hi;have hkn:=eZ p j;have hq:∀c,cZ get p j j c=get j c:=λc=>kJ hkn;by_cases hlt:j<n
 ·simp[go_sem,hlt,hq];refine⟨⟨by simpa [SV.one] using ho j 0 hlt δ,by simpa [SV.one] using ho j 1 hlt δ,by simpa [SV.one] using ho j 2 hlt δ⟩,?_⟩;refine aA (hp j hlt) rfl rfl ?_
  cases hpj:p j
  ·simp[go_sem];have hs:kept p (j+1)=kept p j++[j]:=by rw[bB,hpj];simp
   refine⟨ω,⟨⟨by simpa [SV.one] using ho j 0 hlt δ,by simpa [SV.one] using ho j 1 hlt δ,by simpa [SV.one] using ho j 2 hlt δ⟩,ω⟩,ω,ω,j+1,⟨ω,by rw[hs];simp;omega⟩,ω,⟨by rw[hs];simp,ω⟩,λi c hi hc=>?_⟩;rw[gS hpj];by_cases hil:i=(kept p j).length
   ·rw[if_pos ⟨hil,hc⟩,if_pos hil];have hcc:c=0\/c=1\/c=2:=ω;rcases hcc with rfl | rfl | rfl <;> simp[SV.trim]
   ·rw[if_neg (λh=>hil h.1),if_neg hil]
  ·simp[go_sem];have hs:kept p (j+1)=kept p j:=by rw[bB,hpj];simp
   refine⟨ω,j+1,⟨ω,by rw[hs];omega⟩,ω,⟨by rw[hs],ω⟩,λi c hi hc=>?_⟩;unfold cZ;rw[hs]
 ·have hjn:j=n:=ω;subst hjn;simp[go_sem];refine⟨ω,ω,ω,[0],τ,λN=>⟨?_,?_⟩⟩
  ·simp[go_sem]
  ·simp[go_sem];refine⟨ω,λi c hi hc=>?_⟩;rw[if_neg ω];unfold cZ;rw[if_pos hi]
def CsG.eqB (x y:CsG):Bool:=decide (x.a=y.a)&&decide (x.b=y.b)&&(decide (x.nv=y.nv)&&(List.range x.nv).all λi=>(x.v i).eqB (y.v i))
theorem CsG.eqB_rfl (x:CsG):x.eqB x=true:=by simp[CsG.eqB,VtG.eqB_rfl]
abbrev CsG.sv (x:CsG):SV:=.agg [.i x.a,.i x.b,.r (.rs 2 x.nv λi j=>(x.v i).c j)]
def EG.smB (g h:EG):Bool:=(decide (g.nr=h.nr)&&(List.range g.nr).all λi=>(g.r i).eqB (h.r i))&&(decide (g.nl=h.nl)&&(List.range g.nl).all λi=>(g.l i).eqB (h.l i))&&(decide (g.nc=h.nc)&&(List.range g.nc).all λi=>(g.c i).eqB (h.c i))
theorem EG.smB_rfl (g:EG):g.smB g=true:=by simp[EG.smB,RcG.eqB_rfl,LkG.eqB_rfl,CsG.eqB_rfl]
theorem aIh (x y:CsG) (hx:x.nv<=1000000000) (hy:y.nv<=1000000000):Pure Tryz.prog 160 [x.sv,y.sv] (· =.b (x.eqB y)):=by
 refine π Tryz.func160 ?_;by_cases h1:x.a=y.a;rotate_left
 ·have e:x.eqB y=false:=by simp[CsG.eqB,h1]
  rw[e];simp[go_sem,h1]
 by_cases h2:x.b=y.b;rotate_left
 ·have e:x.eqB y=false:=by simp[CsG.eqB,h2]
  rw[e];simp[go_sem,h1,h2]
 by_cases h3:x.nv=y.nv;rotate_left
 ·have e:x.eqB y=false:=by simp[CsG.eqB,h3]
  have h3':¬(x.nv:Int)=y.nv:=ω;rw[e];simp[go_sem,h1,h2,h3,h3']
 have e:x.eqB y=(List.range x.nv).all λi=>(x.v i).eqB (y.v i):=by simp[CsG.eqB,h1,h2,h3]
 rw[e];simp[go_sem,h1,h2,h3];refine aH aD (α:=Nat) (λk=>[(2,.ptr 0 0 3 0),(3,.ptr 1 0 3 0),(5,.i k)]) (λ_=>[some (.box x.sv.cells),some (.box y.sv.cells)]) 2 (λk=>k<=x.nv/\∀j,j<k->(x.v j).eqB (y.v j)=true) (λk=>x.nv - k) 0 (λ_=>rfl) τ ζ (by simp[go_sem,SV.cells,h1,h2,h3]) ?_;intro k J hi;by_cases hlt:k<x.nv
 ·have hlt':k<y.nv:=ω;simp[go_sem,hlt,SV.cells];refine aE aD κ κ ?_;simp[go_sem,hlt,hlt',SV.cells];by_cases he:(x.v k).eqB (y.v k)=true
  ·rw[if_neg (by simp[VtG.eqB] at he;simp[he])];refine⟨ω,k+1,⟨ω,λj hj=>?_⟩,ω,ω⟩;by_cases hjk:j=k
   ·subst hjk;exact he
   ·exact hi.2 j ω
  ·rw[if_pos (Classical.byContradiction λhc=>he (by simp at hc;simp[VtG.eqB,hc]))];exact⟨k,hlt',by simpa using he⟩
 ·simp[go_sem,hlt,SV.cells];exact λj hj=>hi.2 j ω
theorem bA0 (g h:EG) (hg:g.OK) (hh:h.OK):Pure Tryz.prog 76 [g.sv,h.sv] (· =.b (g.smB h)):=by
 refine π Tryz.func76 ?_;have:=hg.nr;have:=hg.nl;have:=hg.nc;have:=hh.nr;have:=hh.nl;have:=hh.nc;by_cases h1:g.nr=h.nr;rotate_left
 ·have e:g.smB h=false:=by simp[EG.smB,h1]
  have h1':¬(g.nr:Int)=h.nr:=ω;rw[e];simp[go_sem,h1']
 by_cases h2:g.nl=h.nl;rotate_left
 ·have e:g.smB h=false:=by simp[EG.smB,h2]
  have h2':¬(g.nl:Int)=h.nl:=ω;rw[e];simp[go_sem,h1,h2']
 by_cases h3:g.nc=h.nc;rotate_left
 ·have e:g.smB h=false:=by simp[EG.smB,h3]
  have h3':¬(g.nc:Int)=h.nc:=ω;rw[e];simp[go_sem,h1,h2,h3']
 have h1':(g.nr:Int)=h.nr:=ω;have h2':(g.nl:Int)=h.nl:=ω;have h3':(g.nc:Int)=h.nc:=ω;simp[go_sem,h1',h2',h3'];refine aH aD (α:=Nat) (λk=>[(2,.ptr 0 0 3 0),(3,.ptr 1 0 3 0),(5,.i k)]) (λ_=>[g.bx,h.bx]) 2 (λk=>k<=g.nr/\∀j,j<k->(g.r j).eqB (h.r j)=true) (λk=>g.nr - k) 0 (λ_=>rfl) τ ζ ζ ?_;intro knr Jnr hinr;by_cases hltnr:knr<g.nr
 ·have hlt':knr<h.nr:=ω;have step:(g.r knr).eqB (h.r knr)=true->(knr+1<=g.nr/\∀j,j<knr+1->(g.r j).eqB (h.r j)=true):=λht=>⟨ω,λj hj=>by
   by_cases hjk:j=knr
   ·subst hjk;exact ht
   ·exact hinr.2 j ω⟩
  have no:(g.r knr).eqB (h.r knr)=false->g.smB h=false:=λhf=>by
   unfold EG.smB;rw[dZ (p:=λi=>(g.r i).eqB (h.r i)) hltnr hf];simp
  simp[go_sem,hltnr];refine aE aD κ κ ?_;simp[go_sem,hltnr,hlt'];by_cases he:(g.r knr).eqB (h.r knr)=true
  ·rw[if_neg (by simp[RcG.eqB] at he;simp[he])];exact⟨ω,knr+1,by simpa using step he,ω,ω⟩
  ·rw[if_pos (Classical.byContradiction λhc=>he (by simp at hc;simp[RcG.eqB,hc]))];exact no (by simpa using he)
 have hallnr:((List.range g.nr).all λi=>(g.r i).eqB (h.r i))=true:=cE λj hj=>hinr.2 j ω;simp[go_sem,hltnr];refine aH aD (α:=Nat) (λk=>[(2,.ptr 0 0 3 0),(3,.ptr 1 0 3 0),(6,.i k)]) (λ_=>[g.bx,h.bx]) 2 (λk=>k<=g.nl/\∀j,j<k->(g.l j).eqB (h.l j)=true) (λk=>g.nl - k) 0 (λ_=>rfl) τ ζ ζ ?_;intro knl Jnl hinl;by_cases hltnl:knl<g.nl
 ·have hlt':knl<h.nl:=ω;have step:(g.l knl).eqB (h.l knl)=true->(knl+1<=g.nl/\∀j,j<knl+1->(g.l j).eqB (h.l j)=true):=λht=>⟨ω,λj hj=>by
   by_cases hjk:j=knl
   ·subst hjk;exact ht
   ·exact hinl.2 j ω⟩
  have no:(g.l knl).eqB (h.l knl)=false->g.smB h=false:=λhf=>by
   unfold EG.smB;rw[dZ (p:=λi=>(g.l i).eqB (h.l i)) hltnl hf];simp
  simp[go_sem,hltnl];refine aE aD κ κ ?_;simp[go_sem,hltnl,hlt'];by_cases he:(g.l knl).eqB (h.l knl)=true
  ·rw[if_neg (by simp[LkG.eqB] at he;simp[he])];exact⟨ω,knl+1,by simpa using step he,ω,ω⟩
  ·rw[if_pos (Classical.byContradiction λhc=>he (by simp at hc;simp[LkG.eqB,hc]))];exact no (by simpa using he)
 have hallnl:((List.range g.nl).all λi=>(g.l i).eqB (h.l i))=true:=cE λj hj=>hinl.2 j ω;simp[go_sem,hltnl];refine aH aD (α:=Nat) (λk=>[(2,.ptr 0 0 3 0),(3,.ptr 1 0 3 0),(7,.i k)]) (λ_=>[g.bx,h.bx]) 2 (λk=>k<=g.nc/\∀j,j<k->(g.c j).eqB (h.c j)=true) (λk=>g.nc - k) 0 (λ_=>rfl) τ ζ ζ ?_;intro knc Jnc hinc;by_cases hltnc:knc<g.nc
 ·have hlt':knc<h.nc:=ω;have step:(g.c knc).eqB (h.c knc)=true->(knc+1<=g.nc/\∀j,j<knc+1->(g.c j).eqB (h.c j)=true):=λht=>⟨ω,λj hj=>by
   by_cases hjk:j=knc
   ·subst hjk;exact ht
   ·exact hinc.2 j ω⟩
  have no:(g.c knc).eqB (h.c knc)=false->g.smB h=false:=λhf=>by
   unfold EG.smB;rw[dZ (p:=λi=>(g.c i).eqB (h.c i)) hltnc hf];simp
  simp[go_sem,hltnc];refine aE aD κ κ ?_;simp[go_sem,hltnc,hlt'];have hc:=aIh (g.c knc) (h.c knc) (hg.nv knc hltnc) (hh.nv knc hlt');by_cases he:(g.c knc).eqB (h.c knc)=true
  ·rw[he] at hc;refine⟨_,aB hc rfl rfl,?_⟩;simp[go_sem];exact⟨ω,knc+1,by simpa using step he,ω,ω⟩
  ·have he':(g.c knc).eqB (h.c knc)=false:=by simpa using he
   rw[he'] at hc;refine⟨_,aB hc rfl rfl,?_⟩;simp[go_sem];exact no he'
 have hallnc:((List.range g.nc).all λi=>(g.c i).eqB (h.c i))=true:=cE λj hj=>hinc.2 j ω;simp[go_sem,hltnc];unfold EG.smB;rw[hallnr,hallnl,hallnc];simp[h1,h2,h3]
theorem le_agg {l l':List SV} (h:leL l l'):(SV.agg l).le (.agg l'):=λZ w y hy=>by
 obtain⟨vs,e,h1,h2⟩:=hy;exact⟨vs,e,h1,tI _ _ _ h h2⟩
def EG.oc (g:EG) (b:Nat):Nat->Nat->SV:=λi j=>if j=2 then .sl (i+b) 2 0 (g.c i).nv none else .r ((g.c i).c j)
theorem EG.oc_ren (g:EG) (a b i j:Nat):(g.oc a i j).ren (λi=>b+i)=g.oc (b+a) i j:=by
 unfold EG.oc;split
 ·simp only [SV.ren]
  congr 1;omega
 ·rfl
theorem EG.oc_trim (g:EG) {a n i j:Nat} (h:i+a<n):(g.oc a i j).trim n=g.oc a i j:=by
 unfold EG.oc;split
 ·simp[SV.trim,h]
 ·rfl
theorem EG.oc_kill (g:EG) {a r i j:Nat} (h:¬i+a=r):(g.oc a i j).kill r=g.oc a i j:=by
 unfold EG.oc;split
 ·simp[SV.kill,h]
 ·rfl
attribute [go_sem] EG.oc_ren
@[go_sem]theorem EG.oc_0 (g:EG) (b i:Nat):g.oc b i 0=.i (g.c i).a:=rfl
@[go_sem]theorem EG.oc_1 (g:EG) (b i:Nat):g.oc b i 1=.i (g.c i).b:=rfl
@[go_sem]theorem EG.oc_2 (g:EG) (b i:Nat):g.oc b i 2=.sl (i+b) 2 0 (g.c i).nv none:=rfl
abbrev EG.oS (g:EG):SV:=.agg [.sl 0 2 0 g.nr none,.sl 1 3 0 g.nl none,.sl 2 3 0 g.nc none]
abbrev EG.ov (g:EG) (i:Nat):Reg:=.vec 253 2 (g.c i).nv λa j=>.r (((g.c i).v a).c j)
abbrev EG.oR (g:EG):List Reg:=[.vec 116 2 g.nr λi j=>.r ((g.r i).c j),.vec 147 3 g.nl λi j=>.r ((g.l i).c j),.vec 150 3 g.nc (g.oc 3)]++(List.range g.nc).map g.ov
theorem aAn (g:EG) (hr:g.nr<=1000000) (hl:g.nl<=1000000) (hc:g.nc<=1000000) (hv:∀i,i<g.nc->(g.c i).nv<=1000000):Own Tryz.prog 90 [] [g.sv] g.oS g.oR:=by
 refine γ Tryz.func90 ?_;simp[go_sem];refine⟨ω,ω,ω,?_⟩;refine aKr aD (α:=Nat) (λk=>[(1,.ptr 0 0 3 0),(2,.ptr 1 0 3 0),(3,.i k)])
  (λk=>aA1 (eM [some (.box [.sl 2 2 0 g.nr none,.sl 3 3 0 g.nl none,.sl 4 3 0 g.nc none]),some (.box [aM,aM,aM]),some (.vec 116 2 g.nr λi j=>.r ((g.r i).c j)),some (.vec 147 3 g.nl λi j=>.r ((g.l i).c j)),some (.vec 150 3 g.nc λi j=>if i<k then g.oc 5 i j else .r ((g.c i).c j))]) 5 k λi=>some (g.ov i))
  (λk=>k+5) (λk=>k<=g.nc) (λk=>g.nc - k) 0 τ ?_ ?_
 ·refine Fit.of_famN δ ?_ rfl ?_ (λi hi=>ω)
  ·simp[go_sem]
  ·simp[go_sem];refine⟨λi j hi hj=>?_,λi j hi hj=>?_,λi j hi hj=>?_⟩ <;> simp[aI,hi,SV.kill,SV.trim]
 intro k J hi;by_cases hlt:k<g.nc;rotate_left
 ·have e:k=g.nc:=ω;subst e;simp[go_sem];refine⟨wG [2,3,4] g.nc 5,nF τ τ,λN=>⟨by simp[go_sem,jI],?_⟩⟩;refine kA (l:=[2,3,4]) (Rs:=[.vec 116 2 g.nr λi j=>.r ((g.r i).c j),.vec 147 3 g.nl λi j=>.r ((g.l i).c j),.vec 150 3 g.nc (g.oc 3)]) ?_ λi hi=>?_
  ·simp[go_sem];intro i j hi hj;rw[if_pos hi];unfold EG.oc;split
   ·simp only [SV.ren];have:=aEs (l:=[2,3,4]) (b:=5) (D:=N) hi;simp only [List.length_cons,List.length_nil] at this;rw[this]
   ·rfl
  ·simp[go_sem,hi]
 simp[go_sem,hlt];refine wV (t:=(.take 0 (.take 2 (.take 4 (.take 6 (.alt 1 (.alt 3 (.alt 5 (.alt 7 (.take 8 (.alt 9 (.alt 10 (.alt 11 (.take 12 (.alt 13 .done .nil)) .nil) .nil) .nil)) .nil) .nil) (.alt 5 (.alt 3 (.alt 7 (.take 8 (.alt 9 (.alt 10 (.alt 11 (.take 12 (.alt 13 .done .nil)) .nil) .nil) .nil)) .nil) (.alt 7 (.take 8 (.alt 3 (.alt 9 (.alt 10 (.alt 11 (.take 12 (.alt 13 .done .nil)) .nil) .nil) .nil) (.alt 9 (.alt 3 (.alt 10 (.alt 11 (.take 12 (.alt 13 .done .nil)) .nil) .nil) .nil) .nil))) .nil)) .nil)) (.alt 3 (.alt 1 (.alt 5 (.alt 7 (.take 8 (.alt 9 (.alt 10 (.alt 11 (.take 12 (.alt 13 .done .nil)) .nil) .nil) .nil)) .nil) .nil) (.alt 5 (.alt 1 (.alt 7 (.take 8 (.alt 9 (.alt 10 (.alt 11 (.take 12 (.alt 13 .done .nil)) .nil) .nil) .nil)) .nil) (.alt 7 (.take 8 (.alt 1 (.alt 9 (.alt 10 (.alt 11 (.take 12 (.alt 13 .done .nil)) .nil) .nil) .nil) (.alt 9 (.alt 1 (.alt 10 (.alt 11 (.take 12 (.alt 13 .done .nil)) .nil) .nil) (.alt 10 (.alt 1 (.alt 11 (.take 12 (.alt 13 .done .nil)) .nil) .nil) .nil)) .nil))) .nil)) .nil)) (.alt 5 (.alt 1 (.alt 3 (.alt 7 (.take 8 (.alt 9 (.alt 10 (.alt 11 (.take 12 (.alt 13 .done .nil)) .nil) .nil) .nil)) .nil) (.alt 7 (.take 8 (.alt 3 (.alt 9 (.alt 10 (.alt 11 (.take 12 (.alt 13 .done .nil)) .nil) .nil) .nil) (.alt 9 (.alt 3 (.alt 10 (.alt 11 (.take 12 (.alt 13 .done .nil)) .nil) .nil) .nil) .nil))) .nil)) (.alt 3 (.alt 1 (.alt 7 (.take 8 (.alt 9 (.alt 10 (.alt 11 (.take 12 (.alt 13 .done .nil)) .nil) .nil) .nil)) .nil) (.alt 7 (.take 8 (.alt 1 (.alt 9 (.alt 10 (.alt 11 (.take 12 (.alt 13 .done .nil)) .nil) .nil) .nil) (.alt 9 (.alt 1 (.alt 10 (.alt 11 (.take 12 (.alt 13 .done .nil)) .nil) .nil) (.alt 10 (.alt 1 (.alt 11 (.take 12 (.alt 13 .done .nil)) .nil) .nil) .nil)) .nil))) .nil)) (.alt 7 (.take 8 (.alt 1 (.alt 3 (.alt 9 (.alt 10 (.alt 11 (.take 12 (.alt 13 .done .nil)) .nil) .nil) .nil) (.alt 9 (.alt 3 (.alt 10 (.alt 11 (.take 12 (.alt 13 .done .nil)) .nil) .nil) .nil) .nil)) (.alt 3 (.alt 1 (.alt 9 (.alt 10 (.alt 11 (.take 12 (.alt 13 .done .nil)) .nil) .nil) .nil) (.alt 9 (.alt 1 (.alt 10 (.alt 11 (.take 12 (.alt 13 .done .nil)) .nil) .nil) (.alt 10 (.alt 1 (.alt 11 (.take 12 (.alt 13 .done .nil)) .nil) .nil) .nil)) .nil)) (.alt 9 (.alt 1 (.alt 3 (.alt 10 (.alt 11 (.take 12 (.alt 13 .done .nil)) .nil) .nil) .nil) (.alt 3 (.alt 1 (.alt 10 (.alt 11 (.take 12 (.alt 13 .done .nil)) .nil) .nil) (.alt 10 (.alt 1 (.alt 11 (.take 12 (.alt 13 .done .nil)) .nil) .nil) .nil)) .nil)) .nil)))) .nil))) .nil)))))))) aD κ κ κ (λ_ _ _ _ h=>h) ?_;simp[go_sem,hlt];have hvk:=hv k hlt;have hA:∀(i j:Nat),i<g.nc->j<3->(if i=k/\2<=j/\j<3 then SV.trim (k+1+5) ([SV.sl (k+5) 2 0 (g.c k).nv none][j - 2]?.getD (SV.r RV.any))
  else if i<k then SV.trim (k+1+5) (SV.kill (k+5) (g.oc 5 i j)) else SV.r ((g.c i).c j))=if i<k+1 then g.oc 5 i j else SV.r ((g.c i).c j):=by
  intro i j hi hj;by_cases e:i=k
  ·subst e;rw[if_pos (Nat.lt_succ_self i),if_neg (Nat.lt_irrefl i)];rcases(ω:j=0\/j=1\/j=2) with rfl | rfl | rfl
   ·simp[go_sem]
   ·simp[go_sem]
   ·simp[go_sem]
  ·rw[if_neg λh=>e h.1];by_cases h1:i<k
   ·rw[if_pos h1,if_pos ω,EG.oc_kill g ω,EG.oc_trim g ω]
   ·rw[if_neg h1,if_neg ω]
 repeat' first
  | (refine⟨⟨ω,ω⟩,ω,k+1,ω,ω,Fit.of_famN τ ?_ rfl ?_ λi hi2=>?_⟩)
  | apply And.intro
 all_goals first
  | (simp[go_sem];done)
  | (simp[go_sem];exact hA)
  | (by_cases e:i=k
     ·subst e;simp[go_sem];intro a b ha hb;simp[aI,ha,SV.kill,SV.trim]
     ·have h1:i<k:=ω;simp[go_sem,e,h1,hi2])
theorem EG.view_oc (g:EG) {M:Mem} {b i j:Nat} (hM:M (i+b)=some (g.ov i)) (hj:j<3):aV M 3 (g.oc b i j)=(g.c i).c j:=by
 rcases(ω:j=0\/j=1\/j=2) with rfl | rfl | rfl
 ·rfl
 ·rfl
 ·simp only [EG.oc_2,aV,hM];simp;rfl
theorem xE (g:EG) (hr:g.nr<=1000000) (hl:g.nl<=1000000) (hc:g.nc<=1000000) (hv:∀i,i<g.nc->(g.c i).nv<=1000000):Pure Tryz.prog 90 [g.sv] (· =g.sv):=by
 refine Pure.ofSub ((aAn g hr hl hc hv).pure ?_);unfold EG.oR;rw[lZ];simp[go_sem];intro i j hi hj;exact g.view_oc (by simp[go_sem,hi]) hj
theorem EG.oc_mv (g:EG) {a p q i j:Nat} (h1:¬i+a=p) (h2:¬i+a=q):(g.oc a i j).mv p q=g.oc a i j:=by
 unfold EG.oc;split
 ·simp[SV.mv,h1,h2]
 ·rfl
structure EG.Sm (g:EG):Prop where
 nr:g.nr<=1000
 nl:g.nl<=1000
 nc:g.nc<=1000
 nv:∀i,i<g.nc->(g.c i).nv<=1000
theorem EG.Sm.ok {g:EG} (h:g.Sm):g.OK:=⟨by have:=h.nr;omega,by have:=h.nl;omega,by have:=h.nc;omega,λi hi=>by have:=h.nv i hi;omega⟩
abbrev EG.kbox (g:EG) (r l c m:Nat):Reg:=.box [.sl r 2 0 g.nr none,.sl l 3 0 g.nl none,.sl c 3 0 g.nc none,.mp m]
abbrev EG.vr (g:EG):Reg:=.vec 116 2 g.nr λi j=>.r ((g.r i).c j)
abbrev EG.vl (g:EG):Reg:=.vec 147 3 g.nl λi j=>.r ((g.l i).c j)
abbrev EG.kR6 (g:EG):List Reg:=[g.kbox 2 3 4 1,g.dmap,g.vr,g.vl,.vec 150 3 g.nc (g.oc 5)]++(List.range g.nc).map g.ov
theorem sE {g:EG} (h:g.OK) (hv:g.valid=false):Own Tryz.prog 403 [] [g.sv] (.tup [aTe,.i 8]) []:=by
 refine γ Tryz.func403 ?_;simp[go_sem];refine aF [] (aGl h hv) τ rfl trivial ?_;simp[go_sem];exact⟨[],τ,λN=>⟨ζ,trivial⟩⟩
theorem oL {g:EG} (h:g.Sm) (hv:g.valid=true):Own Tryz.prog 403 [] [g.sv] (.tup [.ptr 0 0 4 0,.i 0]) g.kR6:=by
 refine γ Tryz.func403 ?_;have hr:=h.nr;have hl:=h.nl;have hc:=h.nc;simp[go_sem];refine aF [] (aFl h.ok hv) τ rfl trivial ?_;simp[go_sem];refine uQ (λf=>f==135||f==136||f==137) aD κ [1,2] 12 κ κ κ (λ_ _ _ _ h=>h) rfl rfl ?_;simp[go_sem];refine⟨_,_,hO (aTd g.nr ω λi j=>(g.r i).c j) rfl,_,_,hO (aRt g.nl ω λi j=>(g.l i).c j) rfl,_,_,hO (aP0 g.nc ω λi j=>(g.c i).c j) rfl,?_⟩;simp[go_sem];refine aKr aD (α:=Nat) (λk=>[(4,.ptr 1 0 4 0),(41,.sl 5 3 0 g.nc none),(42,.i g.nc),(43,.i k)])
  (λk=>aA1 (eM [g.bx,some (g.kbox 3 4 5 2),some g.dmap,some g.vr,some g.vl,some (.vec 150 3 g.nc λi j=>if i<k then g.oc 6 i j else .r ((g.c i).c j))]) 6 k λi=>some (g.ov i))
  (λk=>k+6) (λk=>k<=g.nc) (λk=>g.nc - k) 0 τ ?_ ?_
 ·refine Fit.of_famN δ ?_ rfl ?_ (λi hi=>ω)
  ·simp[go_sem]
  ·simp[go_sem]
 intro k J hi;by_cases hlt:k<g.nc;rotate_left
 ·have e:k=g.nc:=ω;subst e;simp[go_sem];refine⟨wG [1,2,3,4,5] g.nc 6,nF τ τ,λN=>⟨by simp[go_sem,jI],?_⟩⟩;refine kA (l:=[1,2,3,4,5]) (Rs:=[g.kbox 2 3 4 1,g.dmap,g.vr,g.vl,.vec 150 3 g.nc (g.oc 5)]) ?_ λi hi=>?_
  ·simp[go_sem,jI];intro i j hi hj;rw[if_pos hi];unfold EG.oc;split
   ·simp only [SV.ren];have:=aEs (l:=[1,2,3,4,5]) (b:=6) (D:=N) hi;simp only [List.length_cons,List.length_nil] at this;rw[this]
   ·rfl
  ·simp[go_sem,hi]
 have hvk:=h.nv k hlt;simp[go_sem,hlt];refine uN (λf=>f==138) aD κ 9 κ rfl rfl ?_;simp[go_sem,hlt];refine⟨_,_,hO (aQk (g.c k).nv ω λi j=>((g.c k).v i).c j) rfl,?_⟩;simp[go_sem,hlt];have e7:∀i,i<=k->¬i+6=k+7:=λi _=>ω;refine⟨ω,k+1,ω,ω,Fit.vw (GSt.move (k+7) (k+6) ω (Nat.zero_le _) (Nat.zero_le _) ω) (Fit.of_famN τ ?_ rfl ?_ λi hi2=>?_)⟩
 ·simp[go_sem]
 ·simp[go_sem];intro i j hi1 hj;by_cases e:i=k
  ·subst e;rcases(ω:j=0\/j=1\/j=2) with e | e | e <;> subst e <;> simp[go_sem]
  ·by_cases e2:i<k
   ·have e3:i<k+1:=ω;rw[if_neg ω,if_pos e2,if_pos e3,g.oc_mv (e7 i ω) ω];unfold EG.oc;split
    ·simp[SV.trim,show i+6<k+1+6 by omega]
    ·rfl
   ·have e3:¬i<k+1:=ω;rw[if_neg ω,if_neg e2,if_neg e3]
 ·by_cases e:i=k
  ·subst e;simp[go_sem]
  ·have e2:i<k:=ω;have e4:¬i=k+1:=ω;simp[go_sem,e,e2,e4,e7 i ω,EG.ov]
theorem EG.oc_famR (g:EG) {l:List Nat} {n b D i j k:Nat} (hk:k=l.length) (h:i<n):(g.oc k i j).ren (λr=>((wG l n b)[r]?).getD D)=g.oc b i j:=by
 unfold EG.oc;split
 ·simp only [SV.ren];have:=aEs (l:=l) (b:=b) (D:=D) h;rw[<- hk] at this;rw[this]
 ·rfl
def EG.addG (g:EG) (q:Int):EG:={g with nr:=g.nr+1,r:=λi=>if i<g.nr then g.r i else ⟨q,false⟩}
abbrev lT:SV:=.agg [aM,aM,aM]
theorem bGh {g:EG} (h:g.Sm) (hv:g.valid=true) {q:Int} (h0:0<=q) (h1:q<=100) (hn:g.nr<24):Own Tryz.prog 326 [] [g.sv,.i q] (.tup [(g.addG q).oS,.i g.nr,.i 0]) (g.addG q).oR:=by
 refine γ Tryz.func326 ?_;have hr:=h.nr;have hl:=h.nl;have hc:=h.nc;simp[go_sem];refine aF [] (oL h hv) τ rfl trivial ?_;have q0:¬q<0:=ω;have q1:¬100<q:=ω;have q2:¬(g.nr:Int)=24:=ω;have q4:∀n,n<7->¬(n=2+(g.nc+1+1+1+1+1)):=λn _=>ω;have q6:∀n,n<7->¬(2+(g.nc+1+1+1+1+1)=n):=λn _=>ω;have q7:(g.nr:Int)<=9223372036854775807:=ω;have q5:g.nr+(g.nr+1 - g.nr)=g.nr+1:=ω;simp[go_sem,q0,q1,q2,q4,q5,q6,q7];refine⟨ω,?_⟩;refine wV (t:=(.take 0 (.take 1 (.take 2 (.take 4 (.take 5 (.take 6 (.take 7 (.alt 3 (.alt 8 (.alt 9 (.alt 10 (.alt 11 (.take 12 (.take 13 .done)) .nil) (.alt 11 (.alt 10 (.take 12 (.take 13 .done)) .nil) .nil)) (.alt 11 (.alt 9 (.alt 10 (.take 12 (.take 13 .done)) .nil) .nil) .nil)) (.alt 11 (.alt 8 (.alt 9 (.alt 10 (.take 12 (.take 13 .done)) .nil) .nil) .nil) .nil)) (.alt 8 (.alt 3 (.alt 9 (.alt 10 (.alt 11 (.take 12 (.take 13 .done)) .nil) (.alt 11 (.alt 10 (.take 12 (.take 13 .done)) .nil) .nil)) (.alt 11 (.alt 9 (.alt 10 (.take 12 (.take 13 .done)) .nil) .nil) .nil)) (.alt 9 (.alt 3 (.alt 10 (.alt 11 (.take 12 (.take 13 .done)) .nil) (.alt 11 (.alt 10 (.take 12 (.take 13 .done)) .nil) .nil)) (.alt 10 (.alt 3 (.alt 11 (.take 12 (.take 13 .done)) .nil) .nil) .nil)) .nil)) .nil)))))))))) aD κ κ κ (λ_ _ _ _ h=>h) ?_;simp[go_sem,q0,q1,q2,q4,q5,q6,q7];have q8:∀i,i<g.nc->¬(i+7=2+(g.nc+1+1+1+1+1)):=λi _=>ω;refine⟨wG [4,5,6] g.nc 7,nF τ τ,λN=>⟨by simp[go_sem,jI,EG.addG],?_⟩⟩;refine kA (l:=[4,5,6]) (Rs:=[.vec 116 2 (g.addG q).nr λi j=>.r (((g.addG q).r i).c j),.vec 147 3 (g.addG q).nl λi j=>.r (((g.addG q).l i).c j),.vec 150 3 (g.addG q).nc ((g.addG q).oc 3)]) ?_ λi hi=>?_
 ·simp[go_sem,jI,q4,q6,EG.addG];refine⟨λi j hi hj=>?_,λi j hi hj=>?_⟩
  ·by_cases e:i<g.nr
   ·simp[aI,e,SV.kill]
   ·have e2:i=g.nr:=ω;subst e2;rcases(ω:j=0\/j=1) with rfl | rfl <;> simp[aI,SV.kill,go_sem]
  ·rw[g.oc_kill ω];exact(g.oc_famR rfl hi).symm
 ·simp[go_sem,hi,q8 i hi,EG.addG]
theorem aU0 {g:EG} (h:g.OK) (hv:g.valid=false) (q:Int):Own Tryz.prog 326 [] [g.sv,.i q] (.tup [lT,.i 0,.i 8]) []:=by
 refine γ Tryz.func326 ?_;simp[go_sem];refine aF [] (sE h hv) τ rfl trivial ?_;simp[go_sem];exact⟨[],τ,λN=>⟨ζ,trivial⟩⟩
theorem aM2 {g:EG} (h:g.Sm) (hv:g.valid=true) {q:Int} (h0:¬(0<=q/\q<=100)):Own Tryz.prog 326 [] [g.sv,.i q] (.tup [lT,.i 0,.i 2]) []:=by
 refine γ Tryz.func326 ?_;simp[go_sem];refine aF [] (oL h hv) τ rfl trivial ?_;have q4:∀n,n<7->¬(n=2+(g.nc+1+1+1+1+1)):=λn _=>ω;by_cases q0:q<0
 ·simp[go_sem,q0,q4];exact⟨[],τ,λN=>⟨ζ,trivial⟩⟩
 ·have q1:100<q:=ω;simp[go_sem,q0,q1,q4];exact⟨[],τ,λN=>⟨ζ,trivial⟩⟩
theorem aRy {g:EG} (h:g.Sm) (hv:g.valid=true) {q:Int} (h0:0<=q/\q<=100) (hn:g.nr=24):Own Tryz.prog 326 [] [g.sv,.i q] (.tup [lT,.i 0,.i 9]) []:=by
 refine γ Tryz.func326 ?_;simp[go_sem];refine aF [] (oL h hv) τ rfl trivial ?_;have q0:¬q<0:=ω;have q1:¬100<q:=ω;have q2:(g.nr:Int)=24:=ω;simp[go_sem,q0,q1,q2];exact⟨[],τ,λN=>⟨ζ,trivial⟩⟩
theorem aSh {g:EG} (h:g.Sm) (hv:g.valid=true) {q:Int} (h0:0<=q) (h1:q<=100) (hn:g.nr<24):Own Tryz.prog 290 [] [g.sv,.i q] (.tup [(g.addG q).oS,.i g.nr,.i 0]) (g.addG q).oR:=by
 refine γ Tryz.func290 ?_;have hr:=h.nr;have hl:=h.nl;have hc:=h.nc;simp[go_sem];refine aA (gW g h.ok) rfl rfl ?_;simp[go_sem,hv];refine aA (fT q 0 100) rfl rfl ?_;have q0:btw 0 100 q=true:=by simp[btw,h0,h1]
 have q2:¬(g.nr:Int)=24:=ω;simp[go_sem,q0,q2];refine aF [] (aAn g ω ω ω λi hi=>by have:=h.nv i hi;omega) τ rfl trivial ?_;have q4:∀n,n<5->¬(n=2+(g.nc+1+1+1)):=λn _=>ω;have q6:∀n,n<5->¬(2+(g.nc+1+1+1)=n):=λn _=>ω;have q5:g.nr+(g.nr+1 - g.nr)=g.nr+1:=ω;have q7:(g.nr:Int)<=9223372036854775807:=ω;have q8:∀i,i<g.nc->¬(i+5=2+(g.nc+1+1+1)):=λi _=>ω;simp[go_sem,q4,q5,q6,q7];refine⟨ω,?_⟩;refine wV (t:=(.take 1 (.alt 0 (.alt 2 (.alt 3 (.alt 4 (.alt 5 (.take 6 (.take 7 .done)) .nil) (.alt 5 (.alt 4 (.take 6 (.take 7 .done)) .nil) .nil)) (.alt 5 (.alt 3 (.alt 4 (.take 6 (.take 7 .done)) .nil) .nil) .nil)) (.alt 5 (.alt 2 (.alt 3 (.alt 4 (.take 6 (.take 7 .done)) .nil) .nil) .nil) .nil)) (.alt 2 (.alt 0 (.alt 3 (.alt 4 (.alt 5 (.take 6 (.take 7 .done)) .nil) (.alt 5 (.alt 4 (.take 6 (.take 7 .done)) .nil) .nil)) (.alt 5 (.alt 3 (.alt 4 (.take 6 (.take 7 .done)) .nil) .nil) .nil)) (.alt 3 (.alt 0 (.alt 4 (.alt 5 (.take 6 (.take 7 .done)) .nil) (.alt 5 (.alt 4 (.take 6 (.take 7 .done)) .nil) .nil)) (.alt 4 (.alt 0 (.alt 5 (.take 6 (.take 7 .done)) .nil) .nil) .nil)) .nil)) .nil)))) aD κ κ κ (λ_ _ _ _ h=>h) ?_;simp[go_sem,q4,q5,q6,q7];refine⟨wG [2,3,4] g.nc 5,nF τ τ,λN=>⟨by simp[go_sem,jI,EG.addG],?_⟩⟩;refine kA (l:=[2,3,4]) (Rs:=[.vec 116 2 (g.addG q).nr λi j=>.r (((g.addG q).r i).c j),.vec 147 3 (g.addG q).nl λi j=>.r (((g.addG q).l i).c j),.vec 150 3 (g.addG q).nc ((g.addG q).oc 3)]) ?_ λi hi=>?_
 ·simp[go_sem,jI,q4,q6,EG.addG];refine⟨λi j hi hj=>?_,λi j hi hj=>?_⟩
  ·by_cases e:i<g.nr
   ·simp[aI,e,SV.kill]
   ·have e2:i=g.nr:=ω;subst e2;rcases(ω:j=0\/j=1) with rfl | rfl <;> simp[aI,SV.kill,go_sem]
  ·rw[g.oc_kill ω];exact(g.oc_famR rfl hi).symm
 ·simp[go_sem,hi,q8 i hi,EG.addG]
theorem aIr {g:EG} (h:g.OK) (hv:g.valid=false) (q:Int):Pure Tryz.prog 290 [g.sv,.i q] (· =.tup [lT,.i 0,.i 8]):=by
 refine π Tryz.func290 ?_;simp[go_sem];refine aA (gW g h) rfl rfl ?_;simp[go_sem,hv]
theorem aDn {g:EG} (h:g.OK) (hv:g.valid=true) {q:Int} (h0:¬(0<=q/\q<=100)):Pure Tryz.prog 290 [g.sv,.i q] (· =.tup [lT,.i 0,.i 2]):=by
 refine π Tryz.func290 ?_;simp[go_sem];refine aA (gW g h) rfl rfl ?_;simp[go_sem,hv];refine aA (fT q 0 100) rfl rfl ?_;have q0:btw 0 100 q=false:=by
  rw[btw,<- Bool.decide_and];exact decide_eq_false h0
 simp[go_sem,q0]
theorem aF3 {g:EG} (h:g.OK) (hv:g.valid=true) {q:Int} (h0:0<=q/\q<=100) (hn:g.nr=24):Pure Tryz.prog 290 [g.sv,.i q] (· =.tup [lT,.i 0,.i 9]):=by
 refine π Tryz.func290 ?_;simp[go_sem];refine aA (gW g h) rfl rfl ?_;simp[go_sem,hv];refine aA (fT q 0 100) rfl rfl ?_;have q0:btw 0 100 q=true:=by simp[btw,h0.1,h0.2]
 have q2:(g.nr:Int)=24:=ω;simp[go_sem,q0,q2]
theorem aNs {g:EG} (h:g.Sm) (hv:g.valid=true) {q:Int} (h0:0<=q) (h1:q<=100) (hn:g.nr<24):Pure Tryz.prog 290 [g.sv,.i q] (· =.tup [(g.addG q).sv,.i g.nr,.i 0]):=by
 refine Pure.ofSub ((aSh h hv h0 h1 hn).pure ?_);unfold EG.oR;rw[lZ];simp[go_sem];intro i j hi hj;exact(g.addG q).view_oc (by simp[go_sem,hi]) hj
def EG.lp (g:EG) (a:Int) (i:Nat):Bool:=decide ((g.l i).a=a)||decide ((g.l i).b=a)
def EG.cp (g:EG) (a:Int) (i:Nat):Bool:=decide ((g.c i).a=a)||decide ((g.c i).b=a)
def EG.remG (g:EG) (a:Nat):EG:=⟨g.nr,λi=>if i=a then ⟨0,true⟩ else g.r i,(kept (g.lp a) g.nl).length,λi=>g.l ((kept (g.lp a) g.nl)[i]?.getD 0),(kept (g.cp a) g.nc).length,λi=>g.c ((kept (g.cp a) g.nc)[i]?.getD 0)⟩
abbrev aJo (a:Int):RV:=.rp 1 1 (nB [.i a]) 0 0
theorem bIz (x:LkG) (a:Int):Pure Tryz.prog 414 [.agg [.r (x.c 0),.r (x.c 1),.r (x.c 2)],.r (aJo a)] (· =.b (decide (x.a=a)||decide (x.b=a))):=by
 refine π Tryz.func414 ?_;by_cases h1:x.a=a
 ·simp[go_sem,h1,nB]
 ·by_cases h2:x.b=a
  ·simp[go_sem,h1,h2,nB]
  ·simp[go_sem,h1,h2,nB]
theorem bJf (x y a:Int) (v:Value) (hv:v.oneCell'=true):Pure Tryz.prog 416 [.agg [.i x,.i y,.r (.v v)],.r (aJo a)] (· =.b (decide (x=a)||decide (y=a))):=by
 refine π Tryz.func416 ?_;by_cases h1:x=a
 ·simp[go_sem,h1,nB,hv]
 ·by_cases h2:y=a
  ·simp[go_sem,h1,h2,nB,hv]
  ·simp[go_sem,h1,h2,nB,hv]
theorem aI6 {g:EG} (h:g.OK) (hv:g.valid=false) (a:Int):Own Tryz.prog 329 [] [g.sv,.i a] (.tup [lT,.i 8]) []:=by
 refine γ Tryz.func329 ?_;simp[go_sem];refine aF [] (sE h hv) τ rfl trivial ?_;simp[go_sem];exact⟨[],τ,λN=>⟨ζ,trivial⟩⟩
theorem aMq {g:EG} (h:g.Sm) (hv:g.valid=true) {a:Int} (ha:g.th a=false):Own Tryz.prog 329 [] [g.sv,.i a] (.tup [lT,.i 6]) []:=by
 refine γ Tryz.func329 ?_;simp[go_sem];refine aF [] (oL h hv) τ rfl trivial ?_;simp[go_sem];refine aG (v:=.b (g.th a)) ?_ rfl ?_
 ·simp[go_sem];exact jC g h.ok _ (by simp[go_sem,aV]) a
 simp[go_sem,ha];exact⟨[],τ,λN=>⟨ζ,trivial⟩⟩
theorem aWa (n:Nat) (hn:n<=1000000) (c:Nat->Nat->Value) (ho:∀i j,i<n->j<3->(c i j).oneCell'=true) (a:Int) (p:Nat->Bool) (hp:∀i,i<n->Pure Tryz.prog 416 [.agg [.r (.v (c i 0)),.r (.v (c i 1)),.r (.v (c i 2))],.r (aJo a)] (· =.b (p i))) :
 Own Tryz.prog 415 [.vec 150 3 n λi j=>.r (.v (c i j))] [.sl 0 3 0 n none,.fn (.func 416) [] [.r (aJo a)]] (.sl 0 3 0 (kept p n).length none) [.vec 150 3 (kept p n).length λi j=>.r (.v (c ((kept p n)[i]?.getD 0) j))]:=by
 refine OwnS.less (aZ4 n hn (λi j=>.v (c i j)) 416 (aJo a) p (λi j hi hj=>by simp[SV.one,ho i j hi hj]) hp) rfl λr=>?_
 match r with
 | 0=>
   refine⟨rfl,rfl,Nat.le_refl _,λi j hi hj=>?_⟩;show SV.r (cG _ _ i j)=.r (.v _);rw[bL (List.getElem?_eq_getElem hi)];simp[List.getElem?_eq_getElem hi]
 | r+1=>exact Reg.sub_none _
theorem aPh {g:EG} {a:Int} {M:Mem} {nx q b:Nat} {K:SV->Mem->Nat->(SV->SV)->Prop} (hc:g.nc<=1000000) (hM:M q=some (.vec 150 3 g.nc (g.oc b)))
 (hK:K (.sl nx 3 0 (kept (g.cp a) g.nc).length none) (bG (bG M q none) nx (some (.vec 150 3 (kept (g.cp a) g.nc).length λi j=>g.oc b ((kept (g.cp a) g.nc)[i]?.getD 0) j))) (nx+1) id) :
 fA Tryz.prog 0 415 [.sl q 3 0 g.nc none,.fn (.func 416) [] [.r (aJo a)]] M nx K:=by
 refine rC (S:=.sl nx 3 0 (kept (g.cp a) g.nc).length none) (M2:=bG M q none) (q:=nx) (k:=3) (m:=(kept (g.cp a) g.nc).length) (nx':=nx+1) (e':=150) (get':=λi j=>g.oc b ((kept (g.cp a) g.nc)[i]?.getD 0) j) [q] (λr hr=>?_) (λNm hNm M1 hM1=>?_) hK
 ·simp at hr;subst hr;exact⟨_,_,_,_,hM⟩
 obtain⟨c,h7,hcell⟩:=hM1.2 q τ _ _ _ _ hM;have c0:∀i,i<g.nc->c i 0=.int .i64 (g.c i).a:=λi hi=>(hNm _ _).1 (hcell i 0 hi ω).1;have c1:∀i,i<g.nc->c i 1=.int .i64 (g.c i).b:=λi hi=>(hNm _ _).1 (hcell i 1 hi ω).1;refine aF [q] (aWa g.nc hc c (λi j hi hj=>(hcell i j hi hj).2) a (g.cp a) λi hi=>?_) τ rfl ⟨h7,trivial⟩ ⟨rfl,rfl,rfl,λi j=>c ((kept (g.cp a) g.nc)[i]?.getD 0) j,λi j hi hj=>?_,?_⟩
 ·rw[c0 i hi,c1 i hi];exact bJf _ _ a _ (hcell i 2 hi ω).2
 ·have hm:(kept (g.cp a) g.nc)[i]?.getD 0<g.nc:=by
   rw[List.getElem?_eq_getElem hi];exact List.mem_range.1 (List.mem_filter.1 (List.getElem_mem hi)).1
  exact(hcell _ j hm hj).1
 ·funext r;simp only [tU,pI,gY];by_cases h1:r=nx
  ·simp[h1,Reg.ren,SV.ren]
  ·by_cases h2:r=q
   ·subst h2;simp[h1]
   ·simp[h1,h2,hM1.1 r (by simpa using h2)]
theorem EG.oc_fz (g:EG) {b i j ref:Nat} {R:Reg} (h:¬i+b=ref):(g.oc b i j).fz ref R=g.oc b i j:=by
 unfold EG.oc;split
 ·simp[SV.fz,h]
 ·rfl
theorem iG {p:Nat->Bool} {n i:Nat} (hi:i<(kept p n).length):(kept p n)[i]?.getD 0<n:=by
 rw[List.getElem?_eq_getElem hi];exact List.mem_range.1 (List.mem_filter.1 (List.getElem_mem hi)).1
theorem aRi {p:Nat->Bool} {n i j:Nat} (hi:i<(kept p n).length) (hj:j<(kept p n).length) (h:(kept p n)[i]?.getD 0=(kept p n)[j]?.getD 0):i=j:=by
 rw[List.getElem?_eq_getElem hi,List.getElem?_eq_getElem hj] at h;have hn:(kept p n).Nodup:=List.Pairwise.filter _ List.nodup_range;exact(List.getElem_inj hn).1 h
theorem aRp {g:EG} (h:g.Sm) (hv:g.valid=true) {a:Nat} (ha:g.th a=true):Own Tryz.prog 329 [] [g.sv,.i a] (.tup [(g.remG a).oS,.i 0]) (g.remG a).oR:=by
 refine γ Tryz.func329 ?_;have hr:=h.nr;have hl:=h.nl;have hc:=h.nc;simp[go_sem];refine aF [] (oL h hv) τ rfl trivial ?_;simp[go_sem];refine aG (v:=.b (g.th a)) ?_ rfl ?_
 ·simp[go_sem];exact jC g h.ok _ (by simp[go_sem,aV]) a
 have hk:a<g.nr:=by simp[EG.th,btw] at ha;omega
 simp[go_sem,ha,hk];refine bD aD κ 7 κ rfl rfl ?_;simp[go_sem,hk];refine⟨ω,aC 1 (R:=.box [.i a]) ζ ?_⟩;simp[go_sem,hk];refine aF [6] (aYu g.nl ω (λi j=>(g.l i).c j) 414 (aJo a) (g.lp a) (λi j hi hj=>?_) λi hi=>bIz (g.l i) a) τ rfl ⟨rfl,trivial⟩ ?_
 ·rcases(ω:j=0\/j=1\/j=2) with rfl | rfl | rfl <;> rfl
 simp[go_sem,hk];have q4:∀n,n<8->¬(n=3+(g.nc+1+1+1+1+1)):=λn _=>ω;have q6:∀n,n<8->¬(3+(g.nc+1+1+1+1+1)=n):=λn _=>ω;have q7:∀n,n<8->¬(n=3+(g.nc+1+1+1+1+1)+1):=λn _=>ω;have q8:∀n,n<8->¬(3+(g.nc+1+1+1+1+1)+1=n):=λn _=>ω;have e1:∀i j,SV.fz 1 (Reg.box [SV.i a]) (g.oc 8 i j)=g.oc 8 i j:=λi j=>g.oc_fz ω;refine aPh ω (b:=8) (by simp[go_sem,q4,e1]) ?_;simp[go_sem,hk,q4,q6,q7,q8];have hX:3+(g.nc+1+1+1+1+1)=g.nc+8:=ω;refine⟨[5,3+(g.nc+1+1+1+1+1),3+(g.nc+1+1+1+1+1)+1]++(List.range (kept (g.cp a) g.nc).length).map (λi=>(kept (g.cp a) g.nc)[i]?.getD 0+8),pY ι (λi j hi hj h=>aRi hi hj ω) (λx hx i hi=>?_),λN=>⟨by simp[go_sem,EG.remG],?_⟩⟩
 ·have:=iG hi;simp at hx;omega
 refine uB (Rs:=[.vec 116 2 (g.remG a).nr λi j=>.r (((g.remG a).r i).c j),.vec 147 3 (g.remG a).nl λi j=>.r (((g.remG a).l i).c j),.vec 150 3 (g.remG a).nc ((g.remG a).oc 3)]) (n:=(kept (g.cp a) g.nc).length) (f:=(g.remG a).ov) ?_ λi hi=>?_
 ·simp[go_sem,q4,q6,q7,q8,EG.remG];refine⟨λi j hi hj=>?_,λi j hi hj=>?_,λi j hi hj=>?_⟩
  ·by_cases e:i=a
   ·subst e;rcases(ω:j=0\/j=1) with rfl | rfl <;> simp[go_sem]
   ·simp[e,SV.fz]
  ·rw[bL (List.getElem?_eq_getElem hi),List.getElem?_eq_getElem hi];rfl
  ·simp only [EG.oc];split
   ·simp[SV.ren,hi]
   ·simp[SV.ren]
 ·have hm:=iG hi;have f1:¬(kept (g.cp a) g.nc)[i]?.getD 0+8=3+(g.nc+1+1+1+1+1):=ω;have f2:¬(kept (g.cp a) g.nc)[i]?.getD 0+8=3+(g.nc+1+1+1+1+1)+1:=ω;simp[go_sem,hm,f1,f2,EG.remG]
theorem OwnS.argsSub {P:Program} {np:Nat} {f:FuncId} {Rs Rs':List Reg} {args args':List SV} {S:SV} (h:OwnS P np f Rs args' S Rs') (hl:SV.subL args args'):OwnS P np f Rs args S Rs':=
 λB σ w vs hm ha=>h B σ w vs hm (SV.subL_rel _ _ _ hl ha)
def EG.rec0 (g:EG):EG:=⟨g.nr,g.r,0,g.l,0,g.c⟩
theorem aRm (g:EG) (hr:g.nr<=1000000):Own Tryz.prog 90 [] [.agg [g.rr,aM,aM]] (.agg [.sl 0 2 0 g.nr none,.sl 1 3 0 0 none,.sl 2 3 0 0 none]) [.vec 116 2 g.nr λi j=>.r ((g.r i).c j),.vec 147 3 0 λi j=>.r ((g.l i).c j),.vec 150 3 0 (g.oc 3)]:=
 (aAn g.rec0 hr (Nat.zero_le _) (Nat.zero_le _) (λi hi=>absurd hi (Nat.not_lt_zero _))).argsSub (by simp[go_sem,EG.rec0])
theorem Reg.ownL_map {f:Nat->Reg} (h:∀i,(f i).own):∀l:List Nat,Reg.ownL (l.map f)
 | []=>trivial
 | i::l=>⟨h i,Reg.ownL_map h l⟩
theorem EG.oR_own (g:EG):Reg.ownL g.oR:=by
 refine⟨λi j _ hj=>?_,λi j _ hj=>?_,λi j _ hj=>?_,Reg.ownL_map (f:=g.ov) (λi=>?_) _⟩
 ·rcases(ω:j=0\/j=1) with rfl | rfl <;> rfl
 ·rcases(ω:j=0\/j=1\/j=2) with rfl | rfl | rfl <;> rfl
 ·rcases(ω:j=0\/j=1\/j=2) with rfl | rfl | rfl
  ·rfl
  ·rfl
  ·trivial
 ·intro a j _ hj;rcases(ω:j=0\/j=1) with rfl | rfl <;> rfl
@[go_sem]theorem bC7 (ρ:Nat->Nat) (i n:Nat) (f:Nat->Reg) (M:Mem):aD9 i ((List.range n).map f) ρ M=aA1 M i n λj=>some ((f j).ren ρ):=by
  funext r;rw[aDp,aT3];simp only [List.length_map,List.length_range];by_cases h:i<=r/\r<i+n
  ·rw[if_pos h,if_pos ω];simp[show r - i<n by omega]
  ·rw[if_neg h,if_neg ω]
theorem aP3 {g:EG} (h:g.Sm) (hv:g.valid=true) {a:Nat} (ha:g.th a=true):Pure Tryz.prog 294 [g.sv,.i a] (· =.tup [(g.remG a).sv,.i 0]):=by
 refine Pure.ofSub ?_;refine π Tryz.func294 ?_;have hr:=h.nr;have hl:=h.nl;have hc:=h.nc;have hk:a<g.nr:=by simp[EG.th,btw] at ha;omega
 simp[go_sem];refine aA (gW g h.ok) rfl rfl ?_;simp[go_sem,hv];refine aA (mU g h.ok a) rfl rfl ?_;simp[go_sem,ha];refine aF [] (aRm g ω) τ rfl trivial ?_;simp[go_sem,hk];have el:∀k,(kept (g.lp a) k).length<=k:=λk=>eZ _ _;have ec:∀k,(kept (g.cp a) k).length<=k:=λk=>eZ _ _;refine bF aD (α:=Nat) (λk=>[(1,.i a),(2,.ptr 0 0 3 0),(4,.ptr 1 0 3 0),(6,.ptr 5 0 3 0),(7,.i k)])
  (λk=>[g.bx,some (.box [aM,aM,aM]),some (.vec 116 2 g.nr λi j=>.r (((g.remG a).r i).c j)),some (.vec 147 3 (kept (g.lp a) k).length λi j=>.r (cG (λi j=>(g.l i).c j) (kept (g.lp a) k) i j)),some (.vec 150 3 0 (g.oc 5)),some (.box [.sl 2 2 0 g.nr none,.sl 3 3 0 (kept (g.lp a) k).length none,.sl 4 3 0 0 none])]) 6
  (λk=>k<=g.nl) (λk=>g.nl - k) 0 (λ_=>rfl) τ (by simp[go_sem,kept]) ?_ ?_
 ·simp[go_sem,kept];intro i j hi hj;by_cases e:i=a
  ·subst e;rcases(ω:j=0\/j=1) with rfl | rfl <;> simp[go_sem,EG.remG]
  ·simp[e,EG.remG]
 intro k J hi;have hm:=el k;by_cases hlt:k<g.nl;rotate_left
 ·have e:k=g.nl:=ω;subst e;simp[go_sem];refine bF aD (α:=Nat) (λk=>[(1,.i a),(2,.ptr 0 0 3 0),(4,.ptr 1 0 3 0),(6,.ptr 5 0 3 0),(8,.i k)])
   (λk=>[g.bx,some (.box [aM,aM,aM]),some (.vec 116 2 g.nr λi j=>.r (((g.remG a).r i).c j)),some (.vec 147 3 (kept (g.lp a) g.nl).length λi j=>.r (cG (λi j=>(g.l i).c j) (kept (g.lp a) g.nl) i j)),some (.vec 150 3 (kept (g.cp a) k).length λi j=>.r (cG (λi j=>(g.c i).c j) (kept (g.cp a) k) i j)),some (.box [.sl 2 2 0 g.nr none,.sl 3 3 0 (kept (g.lp a) g.nl).length none,.sl 4 3 0 (kept (g.cp a) k).length none])]) 6
   (λk=>k<=g.nc) (λk=>g.nc - k) 0 (λ_=>rfl) τ (by simp[go_sem,kept]) (by simp[go_sem,kept]) ?_
  intro k J hi;have hm:=ec k;by_cases hlt:k<g.nc;rotate_left
  ·have e:k=g.nc:=ω;subst e;have hml:=el g.nl;simp[go_sem];refine aAu (S:=(g.remG a).oS) (Rs':=(g.remG a).oR) ?_ (by simp[go_sem,SV.own]) (g.remG a).oR_own ?_
   ·simp[go_sem];refine(aAn (g.remG a) (by show g.nr<=_;omega) (by show(kept _ _).length<=_;omega) (by show(kept _ _).length<=_;omega) (λi hi=>?_)).argsSub ?_
    ·have:=h.nv _ (iG (p:=g.cp a) hi);show(g.c _).nv<=_;omega
    ·simp[go_sem,EG.remG];refine⟨λi j hi hj=>?_,λi j hi hj=>?_⟩ <;>
     ·rw[bL (List.getElem?_eq_getElem hi),List.getElem?_eq_getElem hi];rfl
   simp[go_sem];intro i j hi hj;exact(g.remG a).view_oc (by simp[go_sem,hi]) hj
  have hs:kept (g.cp a) (k+1)=kept (g.cp a) k++if g.cp a k then [] else [k]:=bB _ _
  by_cases h1:(g.c k).a=a
  ·have e:kept (g.cp a) (k+1)=kept (g.cp a) k:=by rw[hs];simp[EG.cp,h1]
   simp[go_sem,hlt,h1];refine⟨ω,k+1,ω,ω,?_⟩;rw[e];simp[go_sem]
  by_cases h2:(g.c k).b=a
  ·have e:kept (g.cp a) (k+1)=kept (g.cp a) k:=by rw[hs];simp[EG.cp,h2]
   simp[go_sem,hlt,h1,h2];refine⟨ω,k+1,ω,ω,?_⟩;rw[e];simp[go_sem]
  have e:kept (g.cp a) (k+1)=kept (g.cp a) k++[k]:=by rw[hs];simp[EG.cp,h1,h2]
  simp[go_sem,hlt,h1,h2];refine bD aD κ 8 κ rfl rfl ?_;simp[go_sem,hlt,h1,h2];refine⟨⟨ω,ω⟩,ω,k+1,ω,ω,ω,⟨by rw[e];simp,λi j hi2 hj=>?_⟩,by rw[e];simp⟩;rw[e] at hi2 ⊢;rw[nQ (a:=k) rfl hj (λj hj=>by rcases(ω:j=0\/j=1\/j=2) with rfl | rfl | rfl <;> simp[go_sem]) (by simpa using hi2)];rfl
 have hs:kept (g.lp a) (k+1)=kept (g.lp a) k++if g.lp a k then [] else [k]:=bB _ _
 by_cases h1:(g.l k).a=a
 ·have e:kept (g.lp a) (k+1)=kept (g.lp a) k:=by rw[hs];simp[EG.lp,h1]
  simp[go_sem,hlt,h1];refine⟨ω,k+1,ω,ω,?_⟩;rw[e];simp[go_sem]
 by_cases h2:(g.l k).b=a
 ·have e:kept (g.lp a) (k+1)=kept (g.lp a) k:=by rw[hs];simp[EG.lp,h2]
  simp[go_sem,hlt,h1,h2];refine⟨ω,k+1,ω,ω,?_⟩;rw[e];simp[go_sem]
 have e:kept (g.lp a) (k+1)=kept (g.lp a) k++[k]:=by rw[hs];simp[EG.lp,h1,h2]
 simp[go_sem,hlt,h1,h2];refine bD aD κ 8 κ rfl rfl ?_;simp[go_sem,hlt,h1,h2];refine⟨⟨ω,ω⟩,ω,k+1,ω,ω,ω,⟨by rw[e];simp,λi j hi2 hj=>?_⟩,by rw[e];simp⟩;rw[e] at hi2 ⊢;rw[nQ (a:=k) rfl hj (λj hj=>by rcases(ω:j=0\/j=1\/j=2) with rfl | rfl | rfl <;> simp[go_sem]) (by simpa using hi2)];rfl
def gE (get one:Nat->Nat->RV) (i:Nat):Nat->Nat->RV:=λr c=>if r<i then get r c else if r=i then one 0 c else get (r - 1) c
theorem aSx (n i:Nat) (hn:n<=1000000) (hi:i<=n) (get one:Nat->Nat->RV) :
 Own Tryz.prog 406 [.vec 150 3 n λr c=>.r (get r c),.vec 150 3 1 λr c=>.r (one r c)] [.sl 0 3 0 n none,.i i,.sl 1 3 0 1 none] (.sl 0 3 0 (n+1) none) [.vec 150 3 (n+1) λr c=>.r (gE get one i r c)]:=by
 refine γ Tryz.func406 ?_;simp[go_sem];refine⟨hi,?_⟩;by_cases hin:i=n
 ·subst hin;rw[if_pos rfl];refine⟨ω,[0],τ,λN=>⟨?_,?_⟩⟩
  ·simp[go_sem]
  ·simp[go_sem];intro r c hr hc;unfold aI gE;by_cases h:r<i
   ·rw[if_pos h,if_pos h];rfl
   ·rw[if_neg h,if_pos hr,if_neg h,if_pos ω,show r - i=0 from ω];rfl
 rw[if_neg ω];refine⟨ω,?_⟩;refine tG aD (ref:=0) (kk:=3) (n:=n) ζ (M:=bU _) rfl rfl (by simp[dH]) ?_;intro C hC _ hC2;simp only [maxLen] at hC2;by_cases hc:C<n+1
 ·have hc':(C:Int)<(n:Int)+1:=ω;left;simp[go_sem,hc',hi];refine⟨ω,ω,⟨ω,ω,ω⟩,ω,?_⟩;refine bD aD κ 8 κ rfl rfl ?_;simp[go_sem,hi];have e1:i+(n+1 - i)=n+1:=ω;refine⟨ω,⟨ω,ω⟩,ω,[2],τ,λN=>⟨?_,?_⟩⟩
  ·simp[go_sem,e1]
  ·simp[go_sem];refine⟨ω,λr c hr hc=>?_⟩;unfold gE aI
   repeat' split
   all_goals first | (exfalso;omega) | rfl | exact congrArg SV.r (congrFun (congrArg get ω) _) | exact congrArg SV.r (congrFun (congrArg one ω) _)
 ·have hc':¬(C:Int)<(n:Int)+1:=ω;have hn1:¬(n:Int)+1<=(n:Int):=ω;right;simp[go_sem,hc',hi,hn1];refine⟨ω,⟨ω,ω⟩,ω,ω,?_⟩;refine iF aD Tryz.func440 κ κ κ (tS:=29) (tR:=4) κ (el:=150) rfl rfl (q:=1) (r:=0) (hq:=rfl) (hr:=rfl) δ ω ω ω ?_;simp[go_sem,hi,hc'];refine bD aD κ 8 κ rfl rfl ?_;simp[go_sem,hi];refine⟨ω,ω,ω,⟨ω,ω⟩,ω,ω,[0],τ,λN=>⟨?_,?_⟩⟩
  ·simp[go_sem]
  ·simp[go_sem];refine⟨ω,λr c hr hc=>?_⟩;unfold gE
   repeat' split
   all_goals first | (exfalso;omega) | rfl | exact congrArg SV.r (congrFun (congrArg get ω) _) | exact congrArg SV.r (congrFun (congrArg one ω) _)
theorem aTx (n i:Nat) (hn:n<=1000000) (hi:i<=n) (get one:Nat->Nat->RV) :
 Own Tryz.prog 411 [.vec 147 3 n λr c=>.r (get r c),.vec 147 3 1 λr c=>.r (one r c)] [.sl 0 3 0 n none,.i i,.sl 1 3 0 1 none] (.sl 0 3 0 (n+1) none) [.vec 147 3 (n+1) λr c=>.r (gE get one i r c)]:=by
 refine γ Tryz.func411 ?_;simp[go_sem];refine⟨hi,?_⟩;by_cases hin:i=n
 ·subst hin;rw[if_pos rfl];refine⟨ω,[0],τ,λN=>⟨?_,?_⟩⟩
  ·simp[go_sem]
  ·simp[go_sem];intro r c hr hc;unfold aI gE;by_cases h:r<i
   ·rw[if_pos h,if_pos h];rfl
   ·rw[if_neg h,if_pos hr,if_neg h,if_pos ω,show r - i=0 from ω];rfl
 rw[if_neg ω];refine⟨ω,?_⟩;refine tG aD (ref:=0) (kk:=3) (n:=n) ζ (M:=bU _) rfl rfl (by simp[dH]) ?_;intro C hC _ hC2;simp only [maxLen] at hC2;by_cases hc:C<n+1
 ·have hc':(C:Int)<(n:Int)+1:=ω;left;simp[go_sem,hc',hi];refine⟨ω,ω,⟨ω,ω,ω⟩,ω,?_⟩;refine bD aD κ 8 κ rfl rfl ?_;simp[go_sem,hi];have e1:i+(n+1 - i)=n+1:=ω;refine⟨ω,⟨ω,ω⟩,ω,[2],τ,λN=>⟨?_,?_⟩⟩
  ·simp[go_sem,e1]
  ·simp[go_sem];refine⟨ω,λr c hr hc=>?_⟩;unfold gE aI
   repeat' split
   all_goals first | (exfalso;omega) | rfl | exact congrArg SV.r (congrFun (congrArg get ω) _) | exact congrArg SV.r (congrFun (congrArg one ω) _)
 ·have hc':¬(C:Int)<(n:Int)+1:=ω;have hn1:¬(n:Int)+1<=(n:Int):=ω;right;simp[go_sem,hc',hi,hn1];refine⟨ω,⟨ω,ω⟩,ω,ω,?_⟩;refine iF aD Tryz.func443 κ κ κ (tS:=28) (tR:=4) κ (el:=147) rfl rfl (q:=1) (r:=0) (hq:=rfl) (hr:=rfl) δ ω ω ω ?_;simp[go_sem,hi,hc'];refine bD aD κ 8 κ rfl rfl ?_;simp[go_sem,hi];refine⟨ω,ω,ω,⟨ω,ω⟩,ω,ω,[0],τ,λN=>⟨?_,?_⟩⟩
  ·simp[go_sem]
  ·simp[go_sem];refine⟨ω,λr c hr hc=>?_⟩;unfold gE
   repeat' split
   all_goals first | (exfalso;omega) | rfl | exact congrArg SV.r (congrFun (congrArg get ω) _) | exact congrArg SV.r (congrFun (congrArg one ω) _)
theorem aP6 (n i:Nat) (hn:n<=1000000) (hi:i<n) (get:Nat->Nat->RV) :
 Own Tryz.prog 410 [.vec 150 3 n λr c=>.r (get r c)] [.sl 0 3 0 n none,.i i,.i ((i:Int)+1)] (.sl 0 3 0 (n - 1) none) [.vec 150 3 (n - 1) λr c=>.r (if r<i then get r c else get (r+1) c)]:=by
 refine γ Tryz.func410 ?_;simp[go_sem];refine⟨ω,?_⟩;split
 ·omega
 refine bD aD κ 6 κ rfl rfl ?_;simp[go_sem];have e1:i+(n - (i+1))=n - 1:=ω;refine⟨ω,⟨ω,ω⟩,⟨ω,ω,ω,ω⟩,⟨ω,ω,ω⟩,ω,[0],τ,λN=>⟨?_,?_⟩⟩
 ·simp[go_sem,e1]
 ·simp[go_sem];refine⟨ω,λr c hr hc=>?_⟩;rw[if_neg ω];unfold aI;by_cases h:r<i
  ·simp[h,SV.kill]
  ·rw[if_neg h,if_pos ω,if_neg h];show SV.r (get (i+1+(r - i)) c)=_;rw[show i+1+(r - i)=r+1 from ω]
theorem aSt (n i:Nat) (hn:n<=1000000) (hi:i<n) (get:Nat->Nat->RV) :
 Own Tryz.prog 412 [.vec 147 3 n λr c=>.r (get r c)] [.sl 0 3 0 n none,.i i,.i ((i:Int)+1)] (.sl 0 3 0 (n - 1) none) [.vec 147 3 (n - 1) λr c=>.r (if r<i then get r c else get (r+1) c)]:=by
 refine γ Tryz.func412 ?_;simp[go_sem];refine⟨ω,?_⟩;split
 ·omega
 refine bD aD κ 6 κ rfl rfl ?_;simp[go_sem];have e1:i+(n - (i+1))=n - 1:=ω;refine⟨ω,⟨ω,ω⟩,⟨ω,ω,ω,ω⟩,⟨ω,ω,ω⟩,ω,[0],τ,λN=>⟨?_,?_⟩⟩
 ·simp[go_sem,e1]
 ·simp[go_sem];refine⟨ω,λr c hr hc=>?_⟩;rw[if_neg ω];unfold aI;by_cases h:r<i
  ·simp[h,SV.kill]
  ·rw[if_neg h,if_pos ω,if_neg h];show SV.r (get (i+1+(r - i)) c)=_;rw[show i+1+(r - i)=r+1 from ω]
theorem aQm {i n:Nat} {M:Mem} {nx q:Nat} {cs:Nat->Nat->SV} {K:SV->Mem->Nat->(SV->SV)->Prop} (hn:n<=1000000) (hi:i<n) (hM:M q=some (.vec 150 3 n cs))
 (hK:K (.sl nx 3 0 (n - 1) none) (bG (bG M q none) nx (some (.vec 150 3 (n - 1) λr c=>if r<i then cs r c else cs (r+1) c))) (nx+1) id) :
 fA Tryz.prog 0 410 [.sl q 3 0 n none,.i i,.i ((i:Int)+1)] M nx K:=by
 refine rC (S:=.sl nx 3 0 (n - 1) none) (M2:=bG M q none) (q:=nx) (k:=3) (m:=n - 1) (nx':=nx+1) (e':=150) (get':=λr c=>if r<i then cs r c else cs (r+1) c) [q] (λr hr=>?_) (λNm hNm M1 hM1=>?_) hK
 ·simp at hr;subst hr;exact⟨_,_,_,_,hM⟩
 obtain⟨c,h7,hcell⟩:=hM1.2 q τ _ _ _ _ hM;refine aF [q] (aP6 n i hn hi λr j=>.v (c r j)) τ rfl ⟨h7,trivial⟩ ⟨rfl,rfl,rfl,λr j=>if r<i then c r j else c (r+1) j,λr j hr hj=>?_,?_⟩
 ·by_cases h:r<i
  ·simp only [h,if_true];exact(hcell r j ω hj).1
  ·simp only [h,if_false];exact(hcell (r+1) j ω hj).1
 ·funext r;simp only [tU,pI,gY];by_cases h1:r=nx
  ·simp only [h1,Nat.add_zero,if_true,Reg.ren,SV.ren]
   congr 2
   funext a b;by_cases h:a<i <;> simp[h]
  ·by_cases h2:r=q
   ·subst h2;simp[h1]
   ·simp[h1,h2,hM1.1 r (by simpa using h2)]
theorem aTh {i n:Nat} {M:Mem} {nx q p:Nat} {cs one:Nat->Nat->SV} {K:SV->Mem->Nat->(SV->SV)->Prop} (hn:n<=1000000) (hi:i<=n) (hqp:q≠p) (hM:M q=some (.vec 150 3 n cs)) (hM2:M p=some (.vec 150 3 1 one))
 (hK:K (.sl nx 3 0 (n+1) none) (bG (bG (bG M q none) p none) nx (some (.vec 150 3 (n+1) λr c=>if r<i then cs r c else if r=i then one 0 c else cs (r - 1) c))) (nx+1) id) :
 fA Tryz.prog 0 406 [.sl q 3 0 n none,.i i,.sl p 3 0 1 none] M nx K:=by
 refine rC (S:=.sl nx 3 0 (n+1) none) (M2:=bG (bG M q none) p none) (q:=nx) (k:=3) (m:=n+1) (nx':=nx+1) (e':=150) (get':=λr c=>if r<i then cs r c else if r=i then one 0 c else cs (r - 1) c) [q,p] (λr hr=>?_) (λNm hNm M1 hM1=>?_) hK
 ·simp at hr;rcases hr with rfl | rfl
  ·exact⟨_,_,_,_,hM⟩
  ·exact⟨_,_,_,_,hM2⟩
 obtain⟨c,h7,hcell⟩:=hM1.2 q τ _ _ _ _ hM;obtain⟨d,h8,hdell⟩:=hM1.2 p τ _ _ _ _ hM2;refine aF [q,p] (aSx n i hn hi (λr j=>.v (c r j)) λr j=>.v (d r j)) (by simpa using hqp) rfl ⟨h7,h8,trivial⟩ ⟨rfl,rfl,rfl,λr j=>if r<i then c r j else if r=i then d 0 j else c (r - 1) j,λr j hr hj=>?_,?_⟩
 ·by_cases h:r<i
  ·simp only [h,if_true];exact(hcell r j ω hj).1
  ·by_cases h':r=i
   ·simp only [h,h',if_true,if_false,Nat.lt_irrefl];exact(hdell 0 j ω hj).1
   ·simp only [h,h',if_false];exact(hcell (r - 1) j ω hj).1
 ·funext r;simp only [tU,pI,gY];by_cases h1:r=nx
  ·simp only [h1,Nat.add_zero,if_true,Reg.ren,SV.ren]
   congr 2
   funext a b;unfold gE;by_cases h:a<i
   ·simp[h]
   ·by_cases h':a=i <;> simp[h,h']
  ·by_cases h2:r=q
   ·subst h2;simp[h1]
   ·by_cases h3:r=p
    ·subst h3;simp[h1]
    ·simp[h1,h2,h3,hM1.1 r (by simp[h2,h3])]
def EG.dropL (g:EG) (k:Nat):EG:={g with nl:=g.nl - 1,l:=λi=>if i<k then g.l i else g.l (i+1)}
theorem aDv {g:EG} (h:g.OK) (hv:g.valid=false) (a b:Int):Own Tryz.prog 328 [] [g.sv,.i a,.i b] (.tup [lT,.i 8]) []:=by
 refine γ Tryz.func328 ?_;simp[go_sem];refine aF [] (sE h hv) τ rfl trivial ?_;simp[go_sem];exact⟨[],τ,λN=>⟨ζ,trivial⟩⟩
theorem aIk {g:EG} (h:g.Sm) (hv:g.valid=true) {a b:Int} (hf:g.lin (min a b) (max a b)=true):Own Tryz.prog 328 [] [g.sv,.i a,.i b] (.tup [(g.dropL (g.lat (min a b) (max a b))).oS,.i 0]) (g.dropL (g.lat (min a b) (max a b))).oR:=by
 refine γ Tryz.func328 ?_;have hr:=h.nr;have hl:=h.nl;have hc:=h.nc;have hat:=EG.at76 g h.ok (EG.valid_lks hv) (min a b) (max a b);have hlt:g.lat (min a b) (max a b)<g.nl:=by simp[EG.lin,cM] at hf;exact hf.1
 simp[go_sem];refine aF [] (oL h hv) τ rfl trivial ?_;simp[go_sem];refine aE aD κ κ ?_;simp[go_sem];refine⟨_,aB (pC a b) rfl rfl,?_⟩;simp[go_sem];have q4:∀n,n<7->¬(n=2+(g.nc+1+1+1+1+1)):=λn _=>ω;have q6:∀n,n<7->¬(2+(g.nc+1+1+1+1+1)=n):=λn _=>ω;have q8:∀i,i<g.nc->¬(i+7=2+(g.nc+1+1+1+1+1)):=λi _=>ω;refine⟨ω,_,kF (v:=.tup [.i (g.lat (min a b) (max a b)),.b (g.lin (min a b) (max a b))]) ?_ rfl,?_⟩
 ·simp[go_sem];exact hat
 simp[go_sem,hf];generalize hk:g.lat (min a b) (max a b)=k at hlt;refine⟨ω,?_⟩;refine aF [5] (aSt g.nl k ω hlt λi j=>(g.l i).c j) τ rfl ⟨rfl,trivial⟩ ?_;simp[go_sem,q4,q6];refine⟨wG [4,2+(g.nc+1+1+1+1+1),6] g.nc 7,pY (by simp[q4,q6]) (λi j _ _ h=>ω) (λx hx i hi=>by simp at hx;omega),λN=>⟨by simp[go_sem,jI,EG.dropL],?_⟩⟩;refine kA (l:=[4,2+(g.nc+1+1+1+1+1),6]) (Rs:=[.vec 116 2 (g.dropL k).nr λi j=>.r (((g.dropL k).r i).c j),.vec 147 3 (g.dropL k).nl λi j=>.r (((g.dropL k).l i).c j),.vec 150 3 (g.dropL k).nc ((g.dropL k).oc 3)]) ?_ λi hi=>?_
 ·simp[go_sem,jI,q4,q6,EG.dropL];refine⟨λi j hi hj=>?_,λi j hi hj=>(g.oc_famR rfl hi).symm⟩;split <;> rfl
 ·simp[go_sem,hi,q8 i hi,EG.dropL]
theorem aE1 {g:EG} (h:g.Sm) (hv:g.valid=true) {a b:Int} (hf:g.lin (min a b) (max a b)=false):Own Tryz.prog 328 [] [g.sv,.i a,.i b] (.tup [lT,.i 6]) []:=by
 refine γ Tryz.func328 ?_;have hr:=h.nr;have hl:=h.nl;have hc:=h.nc;have hat:=EG.at76 g h.ok (EG.valid_lks hv) (min a b) (max a b);simp[go_sem];refine aF [] (oL h hv) τ rfl trivial ?_;simp[go_sem];refine aE aD κ κ ?_;simp[go_sem];refine⟨_,aB (pC a b) rfl rfl,?_⟩;simp[go_sem];refine⟨ω,_,kF (v:=.tup [.i (g.lat (min a b) (max a b)),.b (g.lin (min a b) (max a b))]) ?_ rfl,?_⟩
 ·simp[go_sem];exact hat
 simp[go_sem,hf];exact⟨[],τ,λN=>⟨ζ,trivial⟩⟩
def EG.addC (g:EG) (i:Nat) (x:CsG):EG:={g with nc:=g.nc+1,c:=λj=>if j<i then g.c j else if j=i then x else g.c (j - 1)}
def EG.addL (g:EG) (i:Nat) (x:LkG):EG:={g with nl:=g.nl+1,l:=λj=>if j<i then g.l j else if j=i then x else g.l (j - 1)}
def EG.dropC (g:EG) (i:Nat):EG:={g with nc:=g.nc - 1,c:=λj=>if j<i then g.c j else g.c (j+1)}
def CsG.addV (x:CsG) (v:VtG):CsG:={x with nv:=x.nv+1,v:=λk=>if k<x.nv then x.v k else v}
def EG.addV (g:EG) (i:Nat) (v:VtG):EG:={g with c:=λj=>if j=i then (g.c i).addV v else g.c j}
def CsG.has (x:CsG) (o:Int):Bool:=(List.range x.nv).any λi=>decide ((x.v i).o=o)
def CsG.says (x:CsG) (s:Bool):Bool:=(List.range x.nv).any λi=>decide ((x.v i).s=s)
def EG.clash (g:EG) (p q:Int) (s:Bool):Bool:=if s=true then decide (0<=g.ap p q) else decide (g.q p=g.q q)
theorem aNl (g:EG) (h:g.OK) (hl:g.lth) (D:Nat->Nat->RV) (hD1:D 0 1=.rs 3 g.nl λi j=>(g.l i).c j) (hD3:D 0 3=.mp g.th λa=>.i (g.q a)) (p q:Int) (s:Bool) (hp:g.th p=true) (hq:g.th q=true) :
 Pure Tryz.prog 409 [dk D,.agg [.i p,.i q],.b s] (· =.b (g.clash p q s)):=by
 refine π Tryz.func409 ?_;have ha:=aVi g h hl D hD1 hD3 p q hp hq
 cases s
 ·simp[go_sem];refine bD aD κ 15 κ rfl rfl ?_;simp[go_sem,hD3,hp,hq,EG.clash]
 ·simp[go_sem];by_cases hx:0<=g.ap p q
  ·rw[EG.lv_pos hx] at ha;refine aA ha rfl rfl ?_;simp[go_sem,EG.clash,hx]
  ·rw[EG.lv_neg ω] at ha;refine aA ha rfl rfl ?_;simp[go_sem,EG.clash,hx]
theorem bJr (x:VtG) (C:Nat->Nat->RV) (o:Int) (hC:C 0 0=.i o):Pure Tryz.prog 407 [.agg [.i x.o,.b x.s],.r (.rp 1 1 C 0 0)] (· =.b (decide (x.o=o))):=by
 refine π Tryz.func407 ?_;simp[go_sem,hC]
theorem bJl (x:VtG) (C:Nat->Nat->RV) (s:Bool) (hC:C 0 0=.v (.bool s)):Pure Tryz.prog 408 [.agg [.i x.o,.b x.s],.r (.rp 1 1 C 0 0)] (· =.b (decide (x.s=s))):=by
 refine π Tryz.func408 ?_;simp[go_sem,hC]
theorem bFw (x:CsG) (hn:x.nv<=1000000000) (C:Nat->Nat->RV) (o:Int) (hC:C 0 0=.i o):Pure Tryz.prog 351 [.r (.rs 2 x.nv λi j=>(x.v i).c j),.fn (.func 407) [] [.r (.rp 1 1 C 0 0)]] (· =.b (x.has o)):=
 rE x.nv hn (λi j=>(x.v i).c j) 407 [.r (.rp 1 1 C 0 0)] rfl (λi=>decide ((x.v i).o=o)) λi _=>bJr (x.v i) C o hC
theorem bBb (x:CsG) (hn:x.nv<=1000000000) (C:Nat->Nat->RV) (s:Bool) (hC:C 0 0=.v (.bool s)):Pure Tryz.prog 351 [.r (.rs 2 x.nv λi j=>(x.v i).c j),.fn (.func 408) [] [.r (.rp 1 1 C 0 0)]] (· =.b (x.says s)):=
 rE x.nv hn (λi j=>(x.v i).c j) 408 [.r (.rp 1 1 C 0 0)] rfl (λi=>decide ((x.v i).s=s)) λi _=>bJl (x.v i) C s hC
def EG.co (g:EG) (a b:Int):Int:=rN (λi=>decide ((g.c i).a=a)&&decide ((g.c i).b=b)) g.nc
theorem aZb (g:EG) (h:g.OK) (a b:Int):Pure Tryz.prog 365 [g.sv,.i a,.i b] (· =.i (g.co a b)):=by
 refine π Tryz.func365 ?_;have:=h.nc;simp[go_sem];refine aH aD (α:=Nat) (λk=>[(1,.i a),(2,.i b),(3,.ptr 0 0 3 0),(7,.i k)]) (λ_=>[g.bx]) 1 (λk=>k<=g.nc/\∀j,j<k->((g.c j).a=a->¬(g.c j).b=b)) (λk=>g.nc - k) 0 (λ_=>rfl) τ ζ ζ ?_;intro k J hi;by_cases hlt:k<g.nc
 ·have step:((g.c k).a=a->¬(g.c k).b=b)->(k+1<=g.nc/\∀j,j<k+1->((g.c j).a=a->¬(g.c j).b=b)):=λhn=>⟨ω,λj hj=>by
   by_cases hjk:j=k
   ·subst hjk;exact hn
   ·exact hi.2 j ω⟩
  by_cases h1:(g.c k).a=a
  ·by_cases h2:(g.c k).b=b
   ·simp[go_sem,hlt,h1,h2];exact(gU hlt (by simp[h1,h2]) λj hj=>by have:=hi.2 j hj;simpa using this).symm
   ·simp[go_sem,hlt,h1,h2];exact⟨ω,k+1,step (λ_=>h2),ω,ω⟩
  ·simp[go_sem,hlt,h1];exact⟨ω,k+1,step (λe=>absurd e h1),ω,ω⟩
 ·simp[go_sem,hlt];exact(gT λj hj=>by have:=hi.2 j ω;simpa using this).symm
theorem yA {n:Nat} {p:Nat->Bool} (h:∀j,j<n->p j=false):(List.range n).any p=false:=by
 rw[List.any_eq_false];exact λx hx=>by rw[h x (List.mem_range.1 hx)];simp
theorem tK {n k:Nat} {p:Nat->Bool} (h:k<n) (hp:p k=true):(List.range n).any p=true:=List.any_eq_true.2 ⟨k,List.mem_range.2 h,hp⟩
theorem aAs (x:CsG) (hn:x.nv<=1000000000) (o:Int):Pure Tryz.prog 366 [.r (.rs 2 x.nv λi j=>(x.v i).c j),.i o] (· =.b (x.has o)):=by
 refine π Tryz.func366 ?_;simp[go_sem];refine aH aD (α:=Nat) (λk=>[(0,.r (.rs 2 x.nv λi j=>(x.v i).c j)),(1,.i o),(5,.i k)]) (λ_=>[]) 0 (λk=>k<=x.nv/\∀j,j<k->¬(x.v j).o=o) (λk=>x.nv - k) 0 (λ_=>rfl) τ ζ ζ ?_;intro k J hi;by_cases hlt:k<x.nv
 ·by_cases h1:(x.v k).o=o
  ·simp[go_sem,hlt,h1];exact tK hlt (by simp[h1])
  ·simp[go_sem,hlt,h1];refine⟨ω,k+1,⟨ω,λj hj=>?_⟩,ω,ω⟩;by_cases hjk:j=k
   ·subst hjk;exact h1
   ·exact hi.2 j ω
 ·simp[go_sem,hlt];exact yA λj hj=>by simpa using hi.2 j ω
theorem aB2 (x:CsG) (hn:x.nv<=1000000000) (s:Bool):Pure Tryz.prog 367 [.r (.rs 2 x.nv λi j=>(x.v i).c j),.b s] (· =.b (x.says s)):=by
 refine π Tryz.func367 ?_;simp[go_sem];refine aH aD (α:=Nat) (λk=>[(0,.r (.rs 2 x.nv λi j=>(x.v i).c j)),(1,.b s),(5,.i k)]) (λ_=>[]) 0 (λk=>k<=x.nv/\∀j,j<k->¬(x.v j).s=s) (λk=>x.nv - k) 0 (λ_=>rfl) τ ζ ζ ?_;intro k J hi;by_cases hlt:k<x.nv
 ·by_cases h1:(x.v k).s=s
  ·simp[go_sem,hlt,h1];exact tK hlt (by simp[h1])
  ·simp[go_sem,hlt,h1];refine⟨ω,k+1,⟨ω,λj hj=>?_⟩,ω,ω⟩;by_cases hjk:j=k
   ·subst hjk;exact h1
   ·exact hi.2 j ω
 ·simp[go_sem,hlt];exact yA λj hj=>by simpa using hi.2 j ω
theorem aW2 (g:EG) (h:g.OK) (hl:g.inl) (a b:Int) (s:Bool) (h0:0<=a) (h1:a<g.nr) (h2:0<=b) (h3:b<g.nr):Pure Tryz.prog 368 [g.sv,.i a,.i b,.b s] (· =.b (g.clash a b s)):=by
 refine π Tryz.func368 ?_;have hd:=aP1 g h hl a b h0 h1 h2 h3;rw[EG.df_eq hl h0 h1 h2 h3] at hd;have ho:=aH8 g h hl a b h0 h1 h2 h3;rw[EG.one_eq hl h0 h1 h2] at ho
 cases s
 ·simp[go_sem];refine aA ho rfl rfl ?_;simp[go_sem,EG.clash]
 ·simp[go_sem];refine aA hd rfl rfl ?_;simp[go_sem,EG.clash]
theorem EG.valid_cos {g:EG} (h:g.valid=true):g.cos=true:=by
 rw[<- EG.pval_eq] at h;simp only [EG.pval,Bool.and_eq_true] at h;exact h.1.1.2
theorem EG.cin_iff {g:EG} (h:g.cos=true) {p q:Int}:g.cin p q=true↔∃j,j<g.nc/\(g.c j).a=p/\(g.c j).b=q:=
 kX (x:=λi=>(g.c i).a) (y:=λi=>(g.c i).b) (EG.cos_sorted h)
theorem EG.cat_at {g:EG} (h:g.cos=true) {j:Nat} (hj:j<g.nc):g.cat (g.c j).a (g.c j).b=j:=
 yQ (x:=λi=>(g.c i).a) (y:=λi=>(g.c i).b) (EG.cos_sorted h) hj
theorem EG.co_yes {g:EG} (h:g.cos=true) {p q:Int} (hc:g.cin p q=true):g.co p q=(g.cat p q:Nat):=by
 obtain⟨j,hj,rfl,rfl⟩:=(EG.cin_iff h).1 hc;rw[EG.cat_at h hj];refine gU hj τ λk hk=>?_;by_cases e:(g.c k).a=(g.c j).a
 ·by_cases e2:(g.c k).b=(g.c j).b
  ·have h1:=EG.cat_at h (show k<g.nc by omega);rw[e,e2,EG.cat_at h hj] at h1;omega
  ·simp[e2]
 ·simp[e]
theorem EG.co_no {g:EG} (h:g.cos=true) {p q:Int} (hc:g.cin p q=false):g.co p q=-1:=by
 refine gT λk hk=>?_;by_cases e:(g.c k).a=p
 ·by_cases e2:(g.c k).b=q
  ·have:=(EG.cin_iff h).2 ⟨k,hk,e,e2⟩;rw[hc] at this
   cases this
  ·simp[e2]
 ·simp[e]
theorem EG.cat_le (g:EG) (p q:Int):g.cat p q<=g.nc:=by
 unfold EG.cat cA
 cases h:(List.range g.nc).find? λi=>decide (0<=cT (g.c i).a (g.c i).b p q) with
 | none=>exact Nat.le_refl _
 | some i=>exact Nat.le_of_lt (List.mem_range.1 (List.find?_range_eq_some.1 h).2.1)
theorem EG.lat_le (g:EG) (p q:Int):g.lat p q<=g.nl:=by
 unfold EG.lat cA
 cases h:(List.range g.nl).find? λi=>decide (0<=cT (g.l i).a (g.l i).b p q) with
 | none=>exact Nat.le_refl _
 | some i=>exact Nat.le_of_lt (List.mem_range.1 (List.find?_range_eq_some.1 h).2.1)
theorem EG.cin_lt {g:EG} {p q:Int} (hc:g.cin p q=true):g.cat p q<g.nc:=by
 simp only [EG.cin,cM,Bool.and_eq_true,decide_eq_true_eq] at hc;exact hc.1
def EG.voteE (g:EG) (o a b:Int) (s:Bool):Int:=
 if g.valid=false then 8 else if ¬(0<=o/\o<=7) then 2 else if a=b\/g.th a=false\/g.th b=false then 6 else
 if g.lin (min a b) (max a b)=true then 82 else
 if g.cin (min a b) (max a b)=false then (if g.nc=40 then 9 else 0) else
 if (g.c (g.cat (min a b) (max a b))).has o=true then 80 else
 if (g.c (g.cat (min a b) (max a b))).says s=false then 0 else if g.clash (min a b) (max a b) s=true then 81 else 0
def EG.voteG (g:EG) (o a b:Int) (s:Bool):EG:=
 if g.cin (min a b) (max a b)=false then g.addC (g.cat (min a b) (max a b)) ⟨min a b,max a b,1,λ_=>⟨o,s⟩⟩ else
 if (g.c (g.cat (min a b) (max a b))).says s=false then g.addV (g.cat (min a b) (max a b)) ⟨o,s⟩ else
 (g.dropC (g.cat (min a b) (max a b))).addL (g.lat (min a b) (max a b)) ⟨min a b,max a b,s⟩
def EG.voteD (g:EG) (a b:Int) (s:Bool):Bool:=g.cin (min a b) (max a b)&&(g.c (g.cat (min a b) (max a b))).says s
def EG.voteS (g:EG) (o a b:Int) (s:Bool):SV:=if g.voteE o a b s=0 then .tup [(g.voteG o a b s).oS,.b (g.voteD a b s),.i 0] else .tup [lT,.b false,.i (g.voteE o a b s)]
def EG.voteR (g:EG) (o a b:Int) (s:Bool):List Reg:=if g.voteE o a b s=0 then (g.voteG o a b s).oR else []
def EG.voteV (g:EG) (o a b:Int) (s:Bool):SV:=if g.voteE o a b s=0 then .tup [(g.voteG o a b s).sv,.b (g.voteD a b s),.i 0] else .tup [lT,.b false,.i (g.voteE o a b s)]
theorem EG.out {M:Mem} (g:EG) {R L C:Nat} (p:Nat->Nat) {cs:Nat->Nat->SV} {rest:List SV} (hd:R≠L/\R≠C/\L≠C) (hp:∀i j,i<g.nc->j<g.nc->p i=p j->i=j)
 (hx:∀i,i<g.nc->p i≠R/\p i≠L/\p i≠C) (hR:Reg.sub (M R) (some g.vr)) (hL:Reg.sub (M L) (some g.vl)) (hC:M C=some (.vec 150 3 g.nc cs))
 (h0:∀i,i<g.nc->cs i 0=.i (g.c i).a/\cs i 1=.i (g.c i).b/\cs i 2=.sl (p i) 2 0 (g.c i).nv none) (hV:∀i,i<g.nc->Reg.sub (M (p i)) (some (g.ov i))) (hr:∀ρ,SV.renL ρ rest=rest) :
 ∃ρl,aEg M (.tup (.agg [.sl R 2 0 g.nr none,.sl L 3 0 g.nl none,.sl C 3 0 g.nc none]::rest)) ρl (.tup (g.oS::rest)) g.oR:=by
 refine⟨[R,L,C]++(List.range g.nc).map p,pY (by simp;exact⟨⟨hd.1,hd.2.1⟩,hd.2.2⟩) hp (λx hx2 i hi=>?_),λN=>⟨?_,uB (Rs:=[g.vr,g.vl,.vec 150 3 g.nc (g.oc 3)]) (f:=g.ov) ⟨?_,?_,?_,trivial⟩ λi hi=>?_⟩⟩
 ·obtain⟨h1,h2,h3⟩:=hx i hi;simp at hx2;rcases hx2 with rfl | rfl | rfl <;> assumption
 ·simp only [SV.ren,SV.renL,hr];exact SV.sub_rfl _
 ·exact hR
 ·exact hL
 ·rw[hC];refine⟨rfl,rfl,Nat.le_refl _,λi j hi hj=>?_⟩;obtain⟨q0,q1,q2⟩:=h0 i hi;rcases(ω:j=0\/j=1\/j=2) with rfl | rfl | rfl
  ·exact q0
  ·exact q1
  ·rw[q2];simp only [EG.oc_2,SV.ren];have:([R,L,C]++(List.range g.nc).map p)[i+3]? =some (p i):=by
    rw[List.getElem?_append_right τ];simp[hi]
   rw[this];rfl
 ·exact hV i hi
theorem EG.out' {M:Mem} (g:EG) {R L C:Nat} (p:Nat->Nat) {rest:List SV} (hd:R≠L/\R≠C/\L≠C) (hp:∀i j,i<g.nc->j<g.nc->p i=p j->i=j)
 (hx:∀i,i<g.nc->p i≠R/\p i≠L/\p i≠C) (hR:Reg.sub (M R) (some g.vr)) (hL:Reg.sub (M L) (some g.vl)) (hC:∃cs,M C=some (.vec 150 3 g.nc cs)/\
 ∀i,i<g.nc->cs i 0=.i (g.c i).a/\cs i 1=.i (g.c i).b/\cs i 2=.sl (p i) 2 0 (g.c i).nv none) (hV:∀i,i<g.nc->Reg.sub (M (p i)) (some (g.ov i))) (hr:∀ρ,SV.renL ρ rest=rest) :
 ∃ρl,aEg M (.tup (.agg [.sl R 2 0 g.nr none,.sl L 3 0 g.nl none,.sl C 3 0 g.nc none]::rest)) ρl (.tup (g.oS::rest)) g.oR:=by
 obtain⟨cs,h1,h2⟩:=hC;exact EG.out g p hd hp hx hR hL h1 h2 hV hr
theorem aVl (x y z:RV) (n:Nat):SV.r (([SV.r x,SV.r y,SV.r z][n]?.getD (.r .any)).toRV)=[SV.r x,SV.r y,SV.r z][n]?.getD (.r .any):=by
 match n with
 | 0=>rfl
 | 1=>rfl
 | 2=>rfl
 | n+3=>rfl
theorem pT {s s':SV} (h:s.sub s'):s.le s':=λ_ _ _ hr=>SV.sub_rel _ _ _ h hr
theorem EG.at78v (g:EG) (h:g.OK) (hl:g.cos=true) {get:Nat->Nat->RV} (hget:∀i j,i<g.nc->j<3->get i j=(g.c i).c j) (p q:Int) :
 Pure Tryz.prog 405 [.r (.rs 3 g.nc get),.fn (.func 183) [] [],.agg [.i p,.i q]] (· =.tup [.i (g.cat p q),.b (g.cin p q)]):=
 (EG.at78 g h hl p q).args ⟨pT (by simp[go_sem];exact hget),SV.le.rfl,SV.le.rfl,trivial⟩
theorem bA9 {g:EG} (h:g.Sm) (o a b:Int) (s:Bool):Own Tryz.prog 327 [] [g.sv,.i o,.i a,.i b,.b s] (g.voteS o a b s) (g.voteR o a b s):=by
 refine γ Tryz.func327 ?_;have hr:=h.nr;have hl:=h.nl;have hc:=h.nc;simp[go_sem];by_cases hv:g.valid=true;rotate_left
 ·have hv':g.valid=false:=by simpa using hv
  have e:g.voteE o a b s=8:=by simp[EG.voteE,hv']
  refine aF [] (sE h.ok hv') τ rfl trivial ?_;simp[go_sem,EG.voteS,EG.voteR,e];exact⟨[],τ,λN=>⟨ζ,trivial⟩⟩
 refine aF [] (oL h hv) τ rfl trivial ?_;by_cases o1:o<0
 ·have e:g.voteE o a b s=2:=by simp[EG.voteE,hv,show ¬(0<=o/\o<=7) by omega]
  simp[go_sem,o1,EG.voteS,EG.voteR,e];exact⟨[],τ,λN=>⟨ζ,trivial⟩⟩
 by_cases o2:8<=o
 ·have e:g.voteE o a b s=2:=by simp[EG.voteE,hv,show ¬(0<=o/\o<=7) by omega]
  simp[go_sem,o1,o2,EG.voteS,EG.voteR,e];exact⟨[],τ,λN=>⟨ζ,trivial⟩⟩
 have o3:0<=o/\o<=7:=ω;obtain⟨B,hB⟩:∃B,B=4+(g.nc+1+1+1+1+1):=⟨_,rfl⟩;by_cases hab:a=b
 ·have e:g.voteE o a b s=6:=by simp[EG.voteE,hv,o3,hab]
  subst hab;simp[go_sem,o1,o2,EG.voteS,EG.voteR,e];exact⟨[],τ,λN=>⟨ζ,trivial⟩⟩
 simp[go_sem,o1,o2,hab];refine aG (v:=.b (g.th a)) ?_ rfl ?_
 ·simp[go_sem];exact jC g h.ok _ (by simp[go_sem,aV]) a
 by_cases ta:g.th a=true;rotate_left
 ·have ta':g.th a=false:=by simpa using ta
  have e:g.voteE o a b s=6:=by simp[EG.voteE,hv,o3,ta']
  simp[go_sem,ta',EG.voteS,EG.voteR,e];exact⟨[],τ,λN=>⟨ζ,trivial⟩⟩
 simp[go_sem,ta];refine aG (v:=.b (g.th b)) ?_ rfl ?_
 ·simp[go_sem];exact jC g h.ok _ (by simp[go_sem,aV]) b
 by_cases tb:g.th b=true;rotate_left
 ·have tb':g.th b=false:=by simpa using tb
  have e:g.voteE o a b s=6:=by simp[EG.voteE,hv,o3,tb']
  simp[go_sem,tb',EG.voteS,EG.voteR,e];exact⟨[],τ,λN=>⟨ζ,trivial⟩⟩
 simp[go_sem,tb];rw[<- hB];have b0:∀n,n<9->¬n=B:=λn _=>ω;have b1:∀n,n<9->¬B=n:=λn _=>ω;have b2:∀n,n<9->n<B:=λn _=>ω;have b3:¬B<g.nc+9:=ω;have b5:∀i,i<g.nc->¬i+9=B:=λi _=>ω;have z0:¬B=B+1:=ω;have z1:¬B=B+1+1:=ω;have z2:¬B=B+1+1+1:=ω;have z3:¬B=B+1+1+1+1:=ω;have z4:¬B+1=B:=ω;have z5:¬B+1+1=B:=ω;have z6:¬B+1+1+1=B:=ω;have z7:¬B+1+1+1+1=B:=ω;have b6:∀n,n<9->¬n=B+1:=λn _=>ω;have b7:∀n,n<9->¬B+1=n:=λn _=>ω;have b8:∀i,i<g.nc->¬i+9=B+1:=λi _=>ω;refine aA (pC a b) rfl rfl ?_;simp[go_sem,b0,b1,b2,b3];refine aE aD κ κ ?_;simp[go_sem,b0,b1,b2,b3];have hat:=EG.at76 g h.ok (EG.valid_lks hv) (min a b) (max a b);refine⟨_,kF (v:=.tup [.i (g.lat (min a b) (max a b)),.b (g.lin (min a b) (max a b))]) ?_ rfl,?_⟩
 ·simp[go_sem,b0,b1,b2,b3];exact hat
 by_cases hf:g.lin (min a b) (max a b)=true
 ·have e:g.voteE o a b s=82:=by simp[EG.voteE,hv,o3,hab,ta,tb,hf]
  simp[go_sem,hf,b0,b1,b2,b3,EG.voteS,EG.voteR,e];exact⟨[],τ,λN=>⟨ζ,trivial⟩⟩
 have hf':g.lin (min a b) (max a b)=false:=by simpa using hf
 simp[go_sem,hf',b0,b1,b2,b3];refine aE aD κ κ ?_;simp[go_sem,b0,b1,b2,b3];refine⟨_,kM (v:=.tup [.i (g.cat (min a b) (max a b)),.b (g.cin (min a b) (max a b))]) ?_ rfl,?_⟩
 ·simp[go_sem,b0,b1,b2,b3];refine EG.at78v g h.ok (EG.valid_cos hv) (λi j hi hj=>g.view_oc ?_ hj) _ _;have:=b5 i hi;simp[go_sem,hi,this]
 by_cases hci:g.cin (min a b) (max a b)=true;rotate_left
 ·have hci':g.cin (min a b) (max a b)=false:=by simpa using hci
  by_cases h40:g.nc=40
  ·have h40':(g.nc:Int)=40:=ω;have e:g.voteE o a b s=9:=by simp[EG.voteE,hv,o3,hab,ta,tb,hf',hci',h40]
   simp[go_sem,hci',h40',b0,b1,b2,b3,b6,b7,EG.voteS,EG.voteR,e];exact⟨[],τ,λN=>⟨ζ,trivial⟩⟩
  have h40':¬(g.nc:Int)=40:=ω;have e:g.voteE o a b s=0:=by simp[EG.voteE,hv,o3,hab,ta,tb,hf',hci',h40]
  have eG:g.voteG o a b s=g.addC (g.cat (min a b) (max a b)) ⟨min a b,max a b,1,λ_=>⟨o,s⟩⟩:=by simp[EG.voteG,hci']
  have eD:g.voteD a b s=false:=by simp[EG.voteD,hci']
  simp[go_sem,hci',h40',b0,b1,b2,b3,b6,b7,EG.voteS,EG.voteR,e,eG,eD];refine uQ (λ_=>false) aD κ [0] 15 κ κ κ (λ_ _ _ _ h=>h) rfl rfl ?_;simp[go_sem,b0,b1,b2,b3,b6,b7];refine⟨ω,aTh (q:=8) (p:=B+1+1+1) (cs:=g.oc 9) (one:=λi j=>[SV.i (min a b),SV.i (max a b),.sl (B+1+1) 2 0 1 none][i*3+j]?.getD (.r .any)) ω (EG.cat_le _ _ _) ω (by simp[go_sem,b0,b1,b2,b3,b6,b7]) (by simp[go_sem,b0,b1,b2,b3,b6,b7]) ?_⟩;simp[go_sem,b0,b1,b2,b3,b6,b7];have hcl:=EG.cat_le g (min a b) (max a b);generalize g.cat (min a b) (max a b)=c at hcl;have c0:∀n,n<9->¬n=B+1+1:=λn _=>ω;have c1:∀n,n<9->¬n=B+1+1+1:=λn _=>ω;have c2:∀n,n<9->¬n=B+1+1+1+1:=λn _=>ω;have c3:∀n,n<9->¬B+1+1=n:=λn _=>ω;have c4:∀n,n<9->¬B+1+1+1=n:=λn _=>ω;have c5:∀n,n<9->¬B+1+1+1+1=n:=λn _=>ω;have c6:∀i,i<g.nc->∀n,n<=9->¬i+n=B:=λi _ n _=>ω;have c7:∀i,i<g.nc->∀n,n<=9->¬i+n=B+1:=λi _ n _=>ω;refine EG.out (g.addC c ⟨min a b,max a b,1,λ_=>⟨o,s⟩⟩) (λi=>if i<c then i+9 else if i=c then B+1+1 else i - 1+9) (cs:=λr d=>if r<c then g.oc 9 r d else if r=c then [SV.i (min a b),SV.i (max a b),.sl (B+1+1) 2 0 1 none][d]?.getD (.r .any) else g.oc 9 (r - 1) d) ω (λi j hi hj h=>?_) (λi hi=>?_) (by simp[go_sem,EG.addC,b0,b1,b2,b3,b6,b7,c0,c1,c2,c3,c4,c5]) (by simp[go_sem,EG.addC,b0,b1,b2,b3,b6,b7,c0,c1,c2,c3,c4,c5]) (by simp[go_sem,EG.addC,b0,b1,b2,b3,b6,b7,c0,c1,c2,c3,c4,c5]) (λi hi=>?_) (λi hi=>?_) (λ_=>rfl)
  ·have hi':i<g.nc+1:=hi;have hj':j<g.nc+1:=hj;split at h <;> (try split at h) <;> (try split at h) <;> (try split at h) <;> omega
  ·have hi':i<g.nc+1:=hi;split
   ·omega
   ·split <;> omega
  ·have hi':i<g.nc+1:=hi;by_cases e1:i<c
   ·simp[go_sem,e1,EG.addC,b0,b1,c0,c3]
   ·by_cases e2:i=c
    ·simp[go_sem,e2,EG.addC,b0,b1,c0,c3]
    ·simp[go_sem,e1,e2,EG.addC,b0,b1,c0,c3]
  ·have hi':i<g.nc+1:=hi;by_cases e1:i<c
   ·have d1:=c6 i ω;have d2:=c7 i ω;have d3:i<g.nc:=ω;simp[go_sem,e1,EG.addC,d1,d2,d3,b0,b1,c0,c3]
   ·by_cases e2:i=c
    ·simp[go_sem,e1,e2,EG.addC,b0,b1,c0,c3];intro i' j hi' hj;subst hi';rcases(ω:j=0\/j=1) with rfl | rfl <;> rfl
    ·have d1:=c6 (i - 1) ω;have d2:=c7 (i - 1) ω;have d3:i - 1<g.nc:=ω;simp[go_sem,e1,e2,EG.addC,d1,d2,d3,b0,b1,c0,c3]
 simp[go_sem,hci,b0,b1,b2,b3,b6,b7];generalize hk:g.cat (min a b) (max a b)=k;have hkc:k<g.nc:=by rw[<- hk];exact EG.cin_lt hci
 have hvk:=h.nv k hkc;have b9:=b5 k hkc;have b10:=b8 k hkc;have b11:∀n,n<9->¬k+n=B:=λn _=>ω;have b12:∀n,n<9->¬k+n=B+1:=λn _=>ω;have b13:∀n,n<9->¬B=k+n:=λn _=>ω;have b14:¬B=k+9:=ω;have b15:¬B+1=k+9:=ω;refine⟨hkc,aG (v:=.b ((g.c k).has o)) ?_ rfl ?_⟩
 ·simp[go_sem,hkc,b0,b1,b2,b3,b6,b7,b9,b10];refine bFw (g.c k) ω _ o ?_;simp[go_sem,aV]
 by_cases ho:(g.c k).has o=true
 ·have e:g.voteE o a b s=80:=by simp[EG.voteE,hv,o3,hab,ta,tb,hf',hci,hk,ho]
  simp[go_sem,ho,b0,b1,b2,b3,b6,b7,EG.voteS,EG.voteR,e];exact⟨[],τ,λN=>⟨ζ,trivial⟩⟩
 have ho':(g.c k).has o=false:=by simpa using ho
 simp[go_sem,ho',b0,b1,b2,b3,b6,b7];refine aG (v:=.b ((g.c k).says s)) ?_ rfl ?_
 ·simp[go_sem,hkc,b0,b1,b2,b3,b6,b7,b9,b10];refine bBb (g.c k) ω _ s ?_;simp[go_sem,aV]
 by_cases hs:(g.c k).says s=true;rotate_left
 ·have hs':(g.c k).says s=false:=by simpa using hs
  have e:g.voteE o a b s=0:=by simp[EG.voteE,hv,o3,hab,ta,tb,hf',hci,hk,ho',hs']
  have eG:g.voteG o a b s=g.addV k ⟨o,s⟩:=by simp[EG.voteG,hci,hk,hs']
  have eD:g.voteD a b s=false:=by simp[EG.voteD,hci,hk,hs']
  simp[go_sem,hs',b0,b1,b2,b3,b6,b7,EG.voteS,EG.voteR,e,eG,eD];refine wV (t:=(.take 0 (.take 1 (.take 2 (.take 3 (.take 5 (.take 6 (.alt 4 (.alt 7 (.alt 8 (.alt 9 (.alt 10 (.take 11 (.alt 12 .done .nil)) .nil) .nil) .nil) .nil) (.alt 7 (.alt 4 (.alt 8 (.alt 9 (.alt 10 (.take 11 (.alt 12 .done .nil)) .nil) .nil) .nil) (.alt 8 (.alt 4 (.alt 9 (.alt 10 (.take 11 (.alt 12 .done .nil)) .nil) .nil) (.alt 9 (.alt 4 (.alt 10 (.take 11 (.alt 12 .done .nil)) .nil) .nil) .nil)) .nil)) .nil))))))))) aD κ κ κ (λ_ _ _ _ h=>h) ?_;simp[go_sem,b0,b1,b2,b3,b6,b7,hkc,b9,b10,b11,b12,b13,b14,b15];refine⟨⟨ω,ω⟩,EG.out' (g.addV k ⟨o,s⟩) (λi=>i+9) ω (λi j hi hj h=>ω) (λi hi=>ω) ?_ ?_ ?_ (λi hi=>?_) (λ_=>rfl)⟩
  ·simp[go_sem,EG.addV,b0,b1,b2,b3,b6,b7]
  ·simp[go_sem,EG.addV,b0,b1,b2,b3,b6,b7]
  ·simp[go_sem,EG.addV,b0,b1,b2,b3,b6,b7,b11,b12,b13,b14,b15];intro i hi;by_cases e1:i=k
   ·subst e1;simp[CsG.addV]
   ·simp[e1]
  ·have hi':i<g.nc:=hi;have c6:∀n,n<=9->¬i+n=B:=λn _=>ω;have c7:∀n,n<=9->¬i+n=B+1:=λn _=>ω;have c8:∀n,n<=9->¬i+n=B+1+1:=λn _=>ω;by_cases e1:i=k
   ·subst e1;simp[go_sem,EG.addV,CsG.addV,b0,b1,b2,b3,b6,b7,c6,c7,c8];intro r j hr hj;unfold aI;by_cases e2:r<(g.c i).nv
    ·simp[e2,SV.kill]
    ·have e3:r=(g.c i).nv:=ω;subst e3;rcases(ω:j=0\/j=1) with rfl | rfl <;> simp[go_sem,SV.kill]
   ·simp[go_sem,EG.addV,b0,b1,b2,b3,b6,b7,c6,c7,c8,e1,hi',SV.kill]
 simp[go_sem,hs,b0,b1,b2,b3,b6,b7];have tp:g.th (min a b)=true:=by
  rcases Int.le_total a b with h1 | h1
  ·rw[Int.min_eq_left h1];exact ta
  ·rw[Int.min_eq_right h1];exact tb
 have tq:g.th (max a b)=true:=by
  rcases Int.le_total a b with h1 | h1
  ·rw[Int.max_eq_right h1];exact tb
  ·rw[Int.max_eq_left h1];exact ta
 refine aG (v:=.b (g.clash (min a b) (max a b) s)) ?_ rfl ?_
 ·simp[go_sem,b0,b1,b2,b3,b6,b7];refine aNl g h.ok (EG.valid_lth hv) _ ?_ ?_ _ _ s tp tq
  ·simp[go_sem,aV,b0,b1,b2,b3,b6,b7]
  ·simp[go_sem,aV,b0,b1,b2,b3,b6,b7]
 by_cases hl:g.clash (min a b) (max a b) s=true
 ·have e:g.voteE o a b s=81:=by simp[EG.voteE,hv,o3,hab,ta,tb,hf',hci,hk,ho',hs,hl]
  simp[go_sem,hl,b0,b1,b2,b3,b6,b7,EG.voteS,EG.voteR,e];exact⟨[],τ,λN=>⟨ζ,trivial⟩⟩
 have hl':g.clash (min a b) (max a b) s=false:=by simpa using hl
 have e:g.voteE o a b s=0:=by simp[EG.voteE,hv,o3,hab,ta,tb,hf',hci,hk,ho',hs,hl']
 have eG:g.voteG o a b s=(g.dropC k).addL (g.lat (min a b) (max a b)) ⟨min a b,max a b,s⟩:=by simp[EG.voteG,hci,hk,hs]
 have eD:g.voteD a b s=true:=by simp[EG.voteD,hci,hk,hs]
 simp[go_sem,hl',b0,b1,b2,b3,b6,b7,EG.voteS,EG.voteR,e,eG,eD];refine⟨⟨ω,ω⟩,aQm ω hkc (q:=8) (cs:=g.oc 9) (by simp[go_sem,b0,b1,b2,b3,b6,b7]) ?_⟩;have c0:∀n,n<9->¬n=B+1+1:=λn _=>ω;have c1:∀n,n<9->¬n=B+1+1+1:=λn _=>ω;have c2:∀n,n<9->¬n=B+1+1+1+1:=λn _=>ω;have c3:∀n,n<9->¬B+1+1=n:=λn _=>ω;have c4:∀n,n<9->¬B+1+1+1=n:=λn _=>ω;have c5:∀n,n<9->¬B+1+1+1+1=n:=λn _=>ω;simp[go_sem,b0,b1,b2,b3,b6,b7,z0,z1,z2,z3,z4,z5,z6,z7,c0,c1,c2,c3,c4,c5];refine uQ (λ_=>false) aD κ [0] 14 κ κ κ (λ_ _ _ _ h=>h) rfl rfl ?_;simp[go_sem,b0,b1,b2,b3,b6,b7,z0,z1,z2,z3,z4,z5,z6,z7,c0,c1,c2,c3,c4,c5];have hll:=EG.lat_le g (min a b) (max a b);generalize g.lat (min a b) (max a b)=l at hll;refine⟨ω,aF [7,B+1+1+1] (aTx g.nl l ω hll (λi j=>(g.l i).c j) (λi j=>([SV.i (min a b),SV.i (max a b),SV.b s][i*3+j]?.getD (.r .any)).toRV)) ι rfl ⟨by simp[go_sem,b0,b1,b2,b3,b6,b7,z0,z1,z2,z3,z4,z5,z6,z7,c0,c1,c2,c3,c4,c5],?_,trivial⟩ ?_⟩
 ·show _=some (Reg.vec 147 3 1 λi j=>SV.r _);simp only [aVl];simp[go_sem,b0,b1,b2,b3,b6,b7,z0,z1,z2,z3,z4,z5,z6,z7,c0,c1,c2,c3,c4,c5]
 simp[go_sem,b0,b1,b2,b3,b6,b7,z0,z1,z2,z3,z4,z5,z6,z7,c0,c1,c2,c3,c4,c5];have c6:∀i,i<g.nc->∀n,n<=9->¬i+n=B:=λi _ n _=>ω;have c7:∀i,i<g.nc->∀n,n<=9->¬i+n=B+1:=λi _ n _=>ω;have c8:∀i,i<g.nc->∀n,n<=9->¬i+n=B+1+1:=λi _ n _=>ω;have c9:∀i,i<g.nc->∀n,n<=9->¬i+n=B+1+1+1:=λi _ n _=>ω;have c10:∀i,i<g.nc->∀n,n<=9->¬i+n=B+1+1+1+1:=λi _ n _=>ω;refine EG.out ((g.dropC k).addL l ⟨min a b,max a b,s⟩) (λi=>if i<k then i+9 else i+1+9) (cs:=λr c=>if r<k then g.oc 9 r c else g.oc 9 (r+1) c) ω (λi j hi hj h=>?_) (λi hi=>?_) ?_ ?_ ?_ (λi hi=>?_) (λi hi=>?_) (λ_=>rfl)
 ·split at h <;> (try split at h) <;> omega
 ·have hi':i<g.nc - 1:=hi;split <;> omega
 ·simp[go_sem,EG.dropC,EG.addL,b0,b1,b2,b3,b6,b7,z0,z1,z2,z3,z4,z5,z6,z7,c0,c1,c2,c3,c4,c5]
 ·simp[go_sem,EG.dropC,EG.addL,b0,b1,b2,b3,b6,b7,z0,z1,z2,z3,z4,z5,z6,z7,c0,c1,c2,c3,c4,c5];intro i j hi hj;unfold gE;by_cases e1:i<l
  ·simp[e1]
  ·by_cases e2:i=l
   ·subst e2;rcases(ω:j=0\/j=1\/j=2) with rfl | rfl | rfl <;> simp[go_sem]
   ·simp[e1,e2]
 ·simp[go_sem,EG.dropC,EG.addL,b0,b1,b2,b3,b6,b7,z0,z1,z2,z3,z4,z5,z6,z7,c0,c1,c2,c3,c4,c5]
 ·have hi':i<g.nc - 1:=hi;by_cases e1:i<k
  ·simp[go_sem,e1,EG.dropC,EG.addL]
  ·simp[go_sem,e1,EG.dropC,EG.addL]
 ·have hi':i<g.nc - 1:=hi;by_cases e1:i<k
  ·have d1:=c6 i ω;have d2:=c7 i ω;have d3:i<g.nc:=ω;have d4:=c8 i ω;have d5:=c9 i ω;have d6:=c10 i ω;simp[go_sem,e1,EG.dropC,EG.addL,d1,d2,d3,d4,d5,d6]
  ·have d1:=c6 (i+1) ω;have d2:=c7 (i+1) ω;have d3:i+1<g.nc:=ω;have d4:=c8 (i+1) ω;have d5:=c9 (i+1) ω;have d6:=c10 (i+1) ω;simp[go_sem,e1,EG.dropC,EG.addL,d1,d2,d3,d4,d5,d6]
theorem aSi {f:FuncId} {args:List SV} {g:EG} {n:Int} (h:Own Tryz.prog f [] args (.tup [g.oS,.i n]) g.oR):Pure Tryz.prog f args (· =.tup [g.sv,.i n]):=by
 refine Pure.ofSub (h.pure ?_);unfold EG.oR;rw[lZ];simp[go_sem];intro i j hi hj;exact g.view_oc (by simp[go_sem,hi]) hj
theorem aVs {f:FuncId} {args:List SV} {g:EG} {m n:Int} (h:Own Tryz.prog f [] args (.tup [g.oS,.i m,.i n]) g.oR):Pure Tryz.prog f args (· =.tup [g.sv,.i m,.i n]):=by
 refine Pure.ofSub (h.pure ?_);unfold EG.oR;rw[lZ];simp[go_sem];intro i j hi hj;exact g.view_oc (by simp[go_sem,hi]) hj
theorem aW8 {f:FuncId} {args:List SV} {g:EG} {d:Bool} {n:Int} (h:Own Tryz.prog f [] args (.tup [g.oS,.b d,.i n]) g.oR):Pure Tryz.prog f args (· =.tup [g.sv,.b d,.i n]):=by
 refine Pure.ofSub (h.pure ?_);unfold EG.oR;rw[lZ];simp[go_sem];intro i j hi hj;exact g.view_oc (by simp[go_sem,hi]) hj
def EG.zero:EG:=⟨0,λ_=>⟨0,false⟩,0,λ_=>⟨0,0,false⟩,0,λ_=>⟨0,0,0,λ_=>⟨0,false⟩⟩⟩
theorem aLg {f:FuncId} {args:List SV} {n:Int} (h:Own Tryz.prog f [] args (.tup [lT,.i n]) []):Pure Tryz.prog f args (· =.tup [EG.zero.sv,.i n]):=by
 refine Pure.ofSub (h.pure ?_);simp[go_sem,EG.zero]
theorem aJz {f:FuncId} {args:List SV} {m n:Int} (h:Own Tryz.prog f [] args (.tup [lT,.i m,.i n]) []):Pure Tryz.prog f args (· =.tup [EG.zero.sv,.i m,.i n]):=by
 refine Pure.ofSub (h.pure ?_);simp[go_sem,EG.zero]
theorem aZ8 {f:FuncId} {args:List SV} {d:Bool} {n:Int} (h:Own Tryz.prog f [] args (.tup [lT,.b d,.i n]) []):Pure Tryz.prog f args (· =.tup [EG.zero.sv,.b d,.i n]):=by
 refine Pure.ofSub (h.pure ?_);simp[go_sem,EG.zero]
def EG.addE (g:EG) (q:Int):Int:=if g.valid=false then 8 else if ¬(0<=q/\q<=100) then 2 else if g.nr=24 then 9 else 0
def EG.addX (g:EG) (q:Int):EG:=if g.addE q=0 then g.addG q else EG.zero
def EG.addN (g:EG) (q:Int):Int:=if g.addE q=0 then g.nr else 0
theorem bAq {g:EG} (h:g.Sm) (q:Int):Pure Tryz.prog 326 [g.sv,.i q] (· =.tup [(g.addX q).sv,.i (g.addN q),.i (g.addE q)]):=by
 unfold EG.addX EG.addN EG.addE;by_cases hv:g.valid=true;rotate_left
 ·have hv':g.valid=false:=by simpa using hv
  simpa [hv'] using aJz (aU0 h.ok hv' q)
 by_cases h0:0<=q/\q<=100;rotate_left
 ·simpa [hv,h0] using aJz (aM2 h hv h0)
 by_cases hn:g.nr=24
 ·simpa [hv,h0,hn] using aJz (aRy h hv h0 hn)
 have hr:=EG.valid_nr hv;simpa [hv,h0,hn] using aVs (bGh h hv h0.1 h0.2 ω)
def EG.remE (g:EG) (a:Int):Int:=if g.valid=false then 8 else if g.th a=false then 6 else 0
def EG.remX (g:EG) (a:Int):EG:=if g.remE a=0 then g.remG a.toNat else EG.zero
theorem aYt {g:EG} (h:g.Sm) (a:Int):Pure Tryz.prog 329 [g.sv,.i a] (· =.tup [(g.remX a).sv,.i (g.remE a)]):=by
 unfold EG.remX EG.remE;by_cases hv:g.valid=true;rotate_left
 ·have hv':g.valid=false:=by simpa using hv
  simpa [hv'] using aLg (aI6 h.ok hv' a)
 by_cases ht:g.th a=true;rotate_left
 ·have ht':g.th a=false:=by simpa using ht
  simpa [hv,ht'] using aLg (aMq h hv ht')
 obtain⟨n,rfl⟩:∃n:Nat,a=n:=⟨a.toNat,by have:=EG.th_iff.1 ht;omega⟩;simpa [hv,ht] using aSi (aRp h hv ht)
def EG.wdE (g:EG) (a b:Int):Int:=if g.valid=false then 8 else if g.lin (min a b) (max a b)=false then 6 else 0
def EG.wdX (g:EG) (a b:Int):EG:=if g.wdE a b=0 then g.dropL (g.lat (min a b) (max a b)) else EG.zero
theorem bDv {g:EG} (h:g.Sm) (a b:Int):Pure Tryz.prog 328 [g.sv,.i a,.i b] (· =.tup [(g.wdX a b).sv,.i (g.wdE a b)]):=by
 unfold EG.wdX EG.wdE;by_cases hv:g.valid=true;rotate_left
 ·have hv':g.valid=false:=by simpa using hv
  simpa [hv'] using aLg (aDv h.ok hv' a b)
 by_cases ht:g.lin (min a b) (max a b)=true;rotate_left
 ·have ht':g.lin (min a b) (max a b)=false:=by simpa using ht
  simpa [hv,ht'] using aLg (aE1 h hv ht')
 simpa [hv,ht] using aSi (aIk h hv ht)
def EG.voteX (g:EG) (o a b:Int) (s:Bool):EG:=if g.voteE o a b s=0 then g.voteG o a b s else EG.zero
def EG.voteB (g:EG) (o a b:Int) (s:Bool):Bool:=if g.voteE o a b s=0 then g.voteD a b s else false
theorem aU3 {g:EG} (h:g.Sm) (o a b:Int) (s:Bool):Pure Tryz.prog 327 [g.sv,.i o,.i a,.i b,.b s] (· =.tup [(g.voteX o a b s).sv,.b (g.voteB o a b s),.i (g.voteE o a b s)]):=by
 have hv:=bA9 h o a b s;unfold EG.voteX EG.voteB;unfold EG.voteS EG.voteR at hv;by_cases e:g.voteE o a b s=0
 ·rw[if_pos e,if_pos e] at hv;rw[if_pos e,if_pos e];simpa [e] using aW8 hv
 ·rw[if_neg e,if_neg e] at hv;rw[if_neg e,if_neg e];exact aZ8 hv
end Go.Gx
