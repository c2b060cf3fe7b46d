/-
 Texts of the walk, merged: Xm.
-/
import Derived.Test.YtncccnmmjfapnaaGreatZxd
set_option linter.unusedVariables false
set_option linter.unusedSimpArgs false
set_option maxRecDepth 100000
set_option maxHeartbeats 4000000
namespace Go.Gx.Sr
open Go.RowKit Go.Proofs Go.Proofs.YtncccnmmjfapnaaGreat Go.Gx.Ix
def vJ (l:List OrG):Bool:=(l.take 400).any OrG.great||(decide ((150:Int)<l.length)&&decide ((l.length:Int)<=300)||decide ((400:Int)<l.length))
theorem aNf {l:List OrG} {i:Nat} (h:i<l.length) (h4:i<400) (hg:l[i].great=true):vJ l=true:=by
 unfold vJ;have:(l.take 400).any OrG.great=true:=List.any_eq_true.2 ⟨l[i],by
  have hi:i<(l.take 400).length:=by rw[List.length_take];omega
  have e:(l.take 400)[i]=l[i]:=List.getElem_take;rw[<- e];exact List.getElem_mem hi,hg⟩
 rw[this];rfl
theorem aHc {l:List OrG} {i:Nat} (hi:i=l.length\/i=400) (h:∀j,(h:j<l.length)->j<i->l[j].great=false):vJ l=(decide ((150:Int)<l.length)&&decide ((l.length:Int)<=300)||decide ((400:Int)<l.length)):=by
 unfold vJ;have:(l.take 400).any OrG.great=false:=List.any_eq_false.2 λo ho=>by
  obtain⟨j,hj,rfl⟩:=List.getElem_of_mem ho;have hj':=hj;rw[List.length_take] at hj';rw[List.getElem_take,h j ω ω];simp
 rw[this,Bool.false_or]
theorem bB6 (l:List OrG):Pure Tryz.prog 36 [oJ l] (· =.b (vJ l)):=by
 refine π Tryz.func36 ?_;simp[go_sem];refine aH aD (α:=Nat) (λi=>[(0,oJ l),(3,.i i)]) (λ_=>[]) 0 (λi=>i<=l.length/\i<=400/\∀j,(h:j<l.length)->j<i->l[j].great=false) (λi=>l.length - i) 0 (λ_=>rfl) ⟨Nat.zero_le _,Nat.zero_le _,λj _ h=>absurd h (Nat.not_lt_zero j)⟩ ζ ζ ?_;rintro i J ⟨h1,h2,h3⟩;by_cases hlt:i<l.length
 ·by_cases h4:i<400
  ·have hrow:=aJ (f:=OrG.fc) hlt;have hyes:=aNf hlt h4;have hno:l[i].great=false->∀j,(h:j<l.length)->j<i+1->l[j].great=false:=λhg j h hj=>by
    by_cases e:j=i
    ·subst e;exact hg
    ·exact h3 j h ω
   obtain⟨o,ho⟩:∃o,l[i]=o:=⟨_,rfl⟩;rw[ho] at hrow hyes hno;have h4':(i:Int)<400:=ω;simp[go_sem,hlt,h4',hrow];refine aA (aUk o) rfl rfl ?_
   cases hg:o.great
   ·simp[go_sem];exact⟨ω,i+1,⟨ω,ω,hno hg⟩,ω,ω⟩
   ·have e:=hyes hg;simp[go_sem,e]
  ·have e:=aHc (.inr ω) h3;have h4':¬(i:Int)<400:=ω;rw[e];by_cases c1:(150:Int)<l.length <;> by_cases c2:(l.length:Int)<=300 <;> by_cases c3:(400:Int)<l.length <;> simp[go_sem,hlt,h4',c1,c2,c3]
 ·have e:=aHc (.inl ω) h3;rw[e];by_cases c1:(150:Int)<l.length <;> by_cases c2:(l.length:Int)<=300 <;> by_cases c3:(400:Int)<l.length <;> simp[go_sem,hlt,c1,c2,c3]
theorem HtG.row (x:HtG):x.f 0=.i x.a/\x.f 1=.i x.l/\x.f 2=.v (.bool x.o)/\x.f 3=.i x.s/\x.f 4=.i x.n:=⟨rfl,rfl,rfl,rfl,rfl⟩
theorem aDq (a:AnG) (hn:a.h.length<1000000):Pure Tryz.prog 43 [a.sv,a.sv] (· =.b true):=by
 refine π Tryz.func43 ?_;simp[go_sem];refine aH aD (α:=Nat) (λi=>[(2,.ptr 0 0 3 0),(3,.ptr 1 0 3 0),(5,.i i)]) (λ_=>[some (.box [.i a.e,.i a.n,hts a.h]),some (.box [.i a.e,.i a.n,hts a.h])]) 2 (λi=>i<=a.h.length) (λi=>a.h.length - i) 0 (λ_=>rfl) (Nat.zero_le _) ζ ζ ?_;intro i J hi;by_cases hlt:i<a.h.length
 ·have hrow:=aJ (f:=HtG.f) hlt;obtain⟨r0,r1,r2,r3,r4⟩:=HtG.row a.h[i];simp[go_sem,hlt];refine aE aD κ κ ?_;simp[go_sem,hlt,hrow,r0,r1,r2,r3,r4];exact⟨ω,i+1,ω,ω,ω⟩
 ·simp[go_sem,hlt]
def zU:SvG->List OrG->List AnG
 | _,[]=>[]
 | x,o::l=>nX x o::zU (stX x o) l
theorem aTg:∀(l:List OrG) (x:SvG) (a:List AnG),run x l a=(l.foldl stX x,a++zU x l)
 | [],x,a=>by simp[run,zU]
 | o::l,x,a=>by
   unfold run;rw[aTg l];simp[zU]
theorem yG:∀(l:List OrG) (x:SvG),(zU x l).length=l.length
 | [],x=>rfl
 | o::l,x=>by simp[zU,yG l]
theorem aFp:∀(l:List OrG) (x:SvG) (i:Nat) (h:i<l.length) (h':i<(zU x l).length),(zU x l)[i]=nX ((l.take i).foldl stX x) l[i]
 | [],x,i,h,_=>absurd h (Nat.not_lt_zero i)
 | o::l,x,0,h,_=>rfl
 | o::l,x,i+1,h,h'=>by
   have hi:i<l.length:=by simpa using h
   have:=aFp l (stX x o) i hi (by rw[yG];exact hi);simpa [zU] using this
theorem aC6:∀(l:List OrG) (x:SvG),x.Va->(l.foldl stX x).Va
 | [],x,h=>h
 | o::l,x,h=>aC6 l (stX x o) (h.stX o)
end Go.Gx.Sr
