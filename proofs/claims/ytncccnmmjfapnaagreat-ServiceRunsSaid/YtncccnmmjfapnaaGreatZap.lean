/-
 Texts of the walk, merged: Vx Vy Wa Wb Wc Wd We Hk Hc Hl Hn Ho Sg Wf Wg.
-/
import Derived.Test.YtncccnmmjfapnaaGreatZao
import Derived.Test.YtncccnmmjfapnaaGreatZan
import Derived.Test.YtncccnmmjfapnaaGreatZam
import Derived.Test.YtncccnmmjfapnaaGreatZal
set_option linter.unusedVariables false
set_option linter.unusedSimpArgs false
set_option maxRecDepth 100000
set_option maxHeartbeats 4000000
namespace Go.Gx.Sr
open Go.RowKit Go.Proofs Go.Proofs.YtncccnmmjfapnaaGreat Go.Gx.Ix
theorem SvG.reg_val {x:SvG} (h:x.valid=true):x.g.valid=true/\x.r.valid=true/\eS x.ch=true/\fR x.lg=true/\x.ks.length<=4/\x.ir.length=x.g.nr:=by
 have h2:=(SvG.valid_iff.1 h).2.1;simp only [SvG.prtB,Bool.and_eq_true,decide_eq_true_eq] at h2;exact⟨h2.1.1.1.1,h2.1.1.1.2,h2.1.1.2,h2.1.2,h2.2.1.2,h2.2.2⟩
theorem SvG.th_in {x:SvG} (h:x.valid=true) {a:Int} (ha:x.g.th a=true):0<=a/\a<x.ir.length/\a<=23:=by
 obtain⟨hg,_,_,_,_,hl⟩:=SvG.reg_val h;have h1:=EG.th_iff.1 ha;have h2:=(EG.val_iff.1 hg).nr;omega
theorem SvG.eye_ok {x:SvG} (h:x.valid=true) {a:Int} (h0:0<=a) (h1:a<x.ir.length):(x.eye a).ok=true:=by
 have h3:=(SvG.valid_iff.1 h).2.2.1;simp only [SvG.peoB,Bool.and_eq_true] at h3;obtain⟨n,rfl⟩:∃n:Nat,a=n:=⟨a.toNat,ω⟩;have:=List.all_eq_true.1 h3.1.1 n (List.mem_range.2 ω);simp only [Bool.and_eq_true] at this;exact this.1
theorem SvG.best_ok {x:SvG} (h:x.valid=true) {a:Int} (ha:x.g.th a=true):x.g.pE a=0/\0<=x.g.bp a x.g.nr/\x.g.bp a x.g.nr<x.ir.length:=by
 obtain⟨hg,_,_,_,_,hl⟩:=SvG.reg_val h;have h1:=EG.th_iff.1 ha;have h2:=EG.bp_bd (EG.valid_lth hg) h1.1 h1.2.1 x.g.nr (Nat.le_refl _);exact⟨by unfold EG.pE;rw[if_pos hg,if_pos ha],h2.1,ω⟩
theorem aR2 (x:SvG) (o:OrG) (hx:x.OK) (hv:x.valid=true):gF 252 aAq x o:=by
 refine bE aD Tryz.func252 rfl κ ν rfl rfl 1 (Nat.le_refl _) ?_;unfold aAq;simp[go_sem];refine aG (v:=.b (x.g.th o.a)) (by simp[go_sem];exact iJ x hx.g.ok _ (x.at_view _) o.a) rfl ?_;by_cases ht:x.g.th o.a=true;rotate_left
 ·simp[go_sem,ht,bad];exact⟨[0],⟨rfl,trivial⟩,τ,λN=>⟨ζ,ζ⟩⟩
 have hin:=SvG.th_in hv ht;simp[go_sem,ht];refine aA (pO o.x.c o.x.m) rfl rfl ?_;have e0:o.x.ok=vI o.x.c o.x.m:=rfl;rw[e0]
 cases hvi:vI o.x.c o.x.m
 ·simp[go_sem,bad];exact⟨[0],⟨rfl,trivial⟩,τ,λN=>⟨ζ,ζ⟩⟩
 obtain⟨b1,b2,b3⟩:=SvG.best_ok hv ht;have hb:=bAh x.g hx.g.ok o.a;rw[b1,if_pos rfl] at hb;obtain⟨b,hbb⟩:∃b,x.g.bp o.a x.g.nr=b:=⟨_,rfl⟩;rw[hbb] at hb b2 b3 ⊢;have hset:=(SvG.valid_iff.1 hv).1;have hcm:=λgt h=>rL x hset gt h b ⟨b2,b3⟩ hx.ir o.x (SvG.eye_ok hv b2 b3) hvi;have hgood:=jS hset (x.eye b) o.x;obtain⟨r,hr⟩:∃r,iB x (x.eye b) o.x=r:=⟨_,rfl⟩;rw[hr] at hcm hgood ⊢;simp[go_sem];refine aE aD κ κ ?_;simp[go_sem];refine⟨_,aB hb rfl rfl,?_⟩;simp[go_sem];refine aP (t:=(.take 0 (.take 1 (.take 2 (.take 3 (.take 4 (.take 5 (.alt 6 [5,4,3,2,1,0] (.alt 7 [4,1,0] (.take 8 (.take 9 (.take 10 (.take 11 (.take 12 (.take 13 (.done [13,12,11,10,9,8,4]))))))) .nil) .nil)))))))) aD κ κ κ (λ_ _ _ _ h=>h) ?_;simp[go_sem];refine aG (v:=r.sv) (by simp[go_sem];exact hcm _ (x.at_view _)) rfl ?_;simp[go_sem];refine aR [0] (qD x 1 o r hx.lg (SvG.log_ok hv) δ ω hgood) (Nat.le_refl _) τ rfl ⟨rfl,trivial⟩ ?_;simp[go_sem];exact⟨[0],⟨rfl,trivial⟩,τ,λN=>⟨ζ,ζ⟩⟩
theorem SvG.dec_ok {x:SvG} (h:x.valid=true) {n:Nat} (hn:n<x.ks.length) {a:Int} (ha:0<=a/\a<=23):yF x.ks[n] a x.now x.key=0:=by
 have h4:=(SvG.valid_iff.1 h).2.2.2;have hw:=SvG.now_in h;simp only [SvG.timB,Bool.and_eq_true] at h4;have hk:=List.all_eq_true.1 h4.1.1 _ (List.getElem_mem hn);simp only [SvG.kOK,Bool.and_eq_true,decide_eq_true_eq] at hk;have h5:=hk.1.1.1;simp only [KsG.ok,Bool.and_eq_true] at h5;unfold yF;rw[if_pos hk.1.1.1];unfold aDb;have e1:psB a=true:=sJ.2 ω;have e2:oF x.now=true:=gC.2 hw;rw[e1,e2,h5.1.1];have:=hk.1.2;simp;omega
theorem aS7 (x:SvG) (o:OrG) (hx:x.OK) (hv:x.valid=true):gF 254 wB x o:=by
 refine bE aD Tryz.func254 rfl κ ν rfl rfl 1 (Nat.le_refl _) ?_;unfold wB;have hks:=hx.ks;simp[go_sem];refine aE aD κ κ ?_;simp[go_sem];refine⟨ω,?_⟩;refine⟨_,aB (rB 0 ((x.ks.length:Int) - 1) o.n) rfl rfl,?_⟩;obtain⟨b,hb⟩:∃b,Ix.btw 0 ((x.ks.length:Int) - 1) o.n=b:=⟨_,rfl⟩;rw[hb]
 cases b
 ·simp[go_sem,bad];exact⟨[0],⟨rfl,trivial⟩,τ,λN=>⟨ζ,ζ⟩⟩
 have hb':0<=o.n/\o.n<=(x.ks.length:Int) - 1:=by simpa [Ix.btw] using hb
 simp[go_sem];refine aG (v:=.b (x.g.th o.a)) (by simp[go_sem];exact iJ x hx.g.ok _ (x.at_view _) o.a) rfl ?_;by_cases ht:x.g.th o.a=true;rotate_left
 ·simp[go_sem,ht,bad];exact⟨[0],⟨rfl,trivial⟩,τ,λN=>⟨ζ,ζ⟩⟩
 have hin:=SvG.th_in hv ht;simp[go_sem,ht];refine aA (pO o.x.c o.x.m) rfl rfl ?_;have e0:o.x.ok=vI o.x.c o.x.m:=rfl;rw[e0]
 cases hvi:vI o.x.c o.x.m
 ·simp[go_sem,bad];exact⟨[0],⟨rfl,trivial⟩,τ,λN=>⟨ζ,ζ⟩⟩
 obtain⟨n,hn⟩:∃n:Nat,o.n=n:=⟨o.n.toNat,ω⟩;have hlt:n<x.ks.length:=ω;have hrow:=aJ (f:=KsG.f) hlt;have hd0:=SvG.dec_ok hv hlt (a:=o.a) ω;have hdc:=aSk x.ks[n] o.a x.now x.key;rw[hd0,if_pos rfl] at hdc;have hgt:(x.ks[o.n.toNat]?).getD KsG.zero=x.ks[n]:=by rw[hn,show((n:Int).toNat)=n from rfl,List.getElem?_eq_getElem hlt];rfl
 rw[hgt];obtain⟨q,hq⟩:∃q,x.ks[n]=q:=⟨_,rfl⟩;rw[hq] at hdc hrow ⊢;obtain⟨d,hd⟩:∃d,aA9 q o.a x.now=d:=⟨_,rfl⟩;have hd3:d=3\/d=1\/d=2:=by rw[<- hd];unfold aA9 aAa;split;exact .inl rfl;split;exact .inr (.inl rfl);exact .inr (.inr rfl)
 rw[hd] at hdc ⊢;have hset:=(SvG.valid_iff.1 hv).1;have hcm:=λgt h=>rL x hset gt h o.a ⟨hin.1,hin.2.1⟩ hx.ir o.x (SvG.eye_ok hv hin.1 hin.2.1) hvi;have hgood:=jS hset (x.eye o.a) o.x;obtain⟨r,hr⟩:∃r,iB x (x.eye o.a) o.x=r:=⟨_,rfl⟩;rw[hr] at hcm hgood ⊢;simp[go_sem];refine aE aD κ κ ?_;simp[go_sem,hn,hlt,hrow];refine⟨_,aB hdc rfl rfl,?_⟩;simp[go_sem];refine aG (v:=r.sv) (by simp[go_sem];exact hcm _ (x.at_view _)) rfl ?_;have hl:=SvG.log_ok hv;have hg2:=RsG.good_in hgood;rcases hd3 with rfl | rfl | rfl
 ·have g5:({r with d:=3,n:=0,m:=0}:RsG).good=true:=by
   simp only [RsG.good,RsG.okd,jA,Ix.btw,Bool.and_eq_true,decide_eq_true_eq];omega
  simp[go_sem];refine aR [0] (qD x 5 o _ hx.lg hl δ ω g5) (Nat.le_refl _) τ rfl ⟨rfl,trivial⟩ ?_;simp[go_sem];exact⟨[0],⟨rfl,trivial⟩,τ,λN=>⟨ζ,ζ⟩⟩
 ·simp[go_sem];refine aR [0] (qD x 3 o r hx.lg hl δ ω hgood) (Nat.le_refl _) τ rfl ⟨rfl,trivial⟩ ?_;simp[go_sem];exact⟨[0],⟨rfl,trivial⟩,τ,λN=>⟨ζ,ζ⟩⟩
 ·have g5:({r with d:=2,n:=1,m:=0}:RsG).good=true:=by
   simp only [RsG.good,RsG.okd,jA,Ix.btw,Bool.and_eq_true,decide_eq_true_eq];omega
  simp[go_sem];refine aR [0] (qD x 4 o _ hx.lg hl δ ω g5) (Nat.le_refl _) τ rfl ⟨rfl,trivial⟩ ?_;simp[go_sem];exact⟨[0],⟨rfl,trivial⟩,τ,λN=>⟨ζ,ζ⟩⟩
end Go.Gx.Sr
namespace Go.Gx.Rg
open Go.RowKit Go.Proofs Go.Proofs.YtncccnmmjfapnaaGreat
theorem delf331 (n:Nat) (hn:n<=1000000) (get:Nat->Nat->RV) (g:FuncId) (c:RV) (p:Nat->Bool) (ho:∀i j,i<n->j<3->(SV.r (get i j)).one=true) (hp:∀i,i<n->Pure Tryz.prog g [.agg [.r (get i 0),.r (get i 1),.r (get i 2)],.r c] (· =.b (p i))) :
 Own Tryz.prog 331 [.vec 114 3 n λi j=>.r (get i j)] [.sl 0 3 0 n none,.fn (.func g) [] [.r c]] (.sl 0 3 0 (kept p n).length none) [.vec 114 3 (kept p n).length λi j=>.r ((cG get (kept p n)) i j)]:=by
 refine γ Tryz.func331 ?_;simp[go_sem];refine aG (v:=.i (idx p n)) ?_ rfl ?_
 ·simp[go_sem];exact Go.Gx.Sr.idx274 n ω get g [.r c] p rfl hp
 rcases pX p n with ⟨h1,h2⟩ | ⟨i0,h1,h2,h3,h4⟩
 ·rw[h1];simp[go_sem];refine⟨[0],τ,λN=>⟨?_,?_⟩⟩
  ·simp[go_sem,cL h2]
  ·simp[go_sem,cL h2];intro i j hi hj;exact(bL (by simp[hi]) j).symm
 rw[h4];simp[go_sem];have hk0:kept p i0=List.range i0:=cL h3;have hk1:kept p (i0+1)=List.range i0:=by rw[bB,hk0,h2];simp
 refine⟨ω,?_⟩;refine bF aD (α:=Nat) (λj=>[(0,.sl 0 3 0 n none),(1,.fn (.func g) [] [.r c]),(5,.i (kept p j).length),(6,.i j)]) (λj=>[some (.vec 114 3 n λi' j'=>.r ((cZ get p j) i' j'))]) 1 (λj=>j<=n/\(kept p j).length<j) (λj=>n - j) (i0+1) (λ_=>rfl) ⟨ω,by rw[hk1];simp⟩ (by simp[go_sem,hk1]) (by
  simp[go_sem];intro i j hi hj;unfold cZ;rw[hk1];split
  ·rename_i h;exact(bL (by simp at h;simp[h]) j).symm
  ·rfl) ?_
 intro j J hi;have hkn:=eZ p j;have hq:∀c,cZ get p j j c=get j c:=λc=>kJ hkn;simp[go_sem,hq];split
 ·rename_i hlt;refine⟨ω,⟨by simpa [SV.one] using ho j 0 hlt δ,by simpa [SV.one] using ho j 1 hlt δ,by simpa [SV.one] using ho j 2 hlt δ⟩,?_⟩;refine aA (hp j hlt) rfl rfl ?_;simp[go_sem]
  cases hpj:p j
  ·simp[go_sem];have hs:kept p (j+1)=kept p j++[j]:=by rw[bB,hpj];simp
   refine⟨ω,⟨⟨by simpa [SV.one] using ho j 0 hlt δ,by simpa [SV.one] using ho j 1 hlt δ,by simpa [SV.one] using ho j 2 hlt δ⟩,ω⟩,ω,ω,j+1,⟨ω,by rw[hs];simp;omega⟩,ω,⟨by rw[hs];simp,ω⟩,λi c hi hc=>?_⟩;rw[gS hpj];by_cases hil:i=(kept p j).length
   ·rw[if_pos ⟨hil,hc⟩,if_pos hil];have hcc:c=0\/c=1\/c=2:=ω;rcases hcc with rfl | rfl | rfl <;> simp[aEf,SV.trim]
   ·rw[if_neg (λh=>hil h.1),if_neg hil]
    try rfl
  ·simp[go_sem];have hs:kept p (j+1)=kept p j:=by rw[bB,hpj];simp
   refine⟨ω,j+1,⟨ω,by rw[hs];omega⟩,ω,⟨by rw[hs],ω⟩,λi c hi hc=>?_⟩;unfold cZ;rw[hs]
 ·rename_i hlt;have hjn:j=n:=ω;subst hjn;refine⟨ω,ω,ω,[0],τ,λN=>⟨?_,?_⟩⟩
  ·simp[go_sem]
  ·simp[go_sem];refine⟨ω,λi c hi hc=>?_⟩;rw[if_neg ω];exact congrArg SV.r (if_pos hi)
end Go.Gx.Rg
namespace Go.Gx.Sr
open Go.RowKit Go.Proofs Go.Proofs.YtncccnmmjfapnaaGreat Go.Gx.Ix
def isC (l:List ChG) (q:ChG->Bool) (i:Nat):Bool:=match l[i]? with | some x=>q x | none=>false
theorem xS (l:List ChG) (q:ChG->Bool):l.filter (λc=>!q c)=(Rg.kept (isC l q) l.length).map λi=>(l[i]?).getD ⟨0,0,false⟩:=by
 have e:l=(List.range l.length).map λi=>(l[i]?).getD ⟨0,0,false⟩:=by
  refine List.ext_getElem τ λi h1 h2=>?_;simp[List.getElem?_eq_getElem h1]
 conv=>lhs;rw[e]
 rw[List.filter_map]
 congr 1
 unfold Rg.kept;refine List.filter_congr λi hi=>?_;have hi:=List.mem_range.1 hi;simp[isC,List.getElem?_eq_getElem hi]
theorem aMk (l:List ChG) (q:ChG->Bool) (i j:Nat) (hi:i<(Rg.kept (isC l q) l.length).length):cG (bA ChG.f l) (Rg.kept (isC l q) l.length) i j=bA ChG.f (l.filter λc=>!q c) i j:=by
 have hm:(Rg.kept (isC l q) l.length)[i]<l.length:=List.mem_range.1 (List.mem_filter.1 (List.getElem_mem hi)).1;rw[bL (List.getElem?_eq_getElem hi),xS,aJ hm];unfold bA;rw[List.getElem?_map,List.getElem?_eq_getElem hi];simp[List.getElem?_eq_getElem hm]
theorem bEw (c:ChG) (gt:Nat->Nat->RV) (a:Int) (h2:gt 0 2=.i a):Pure Tryz.prog 332 [c.sv,.r (.rp 34 1 gt 0 0)] (· =.b (decide (c.p=a))):=by
 refine π Tryz.func332 ?_;simp[go_sem,h2]
theorem bD5 (l:List ChG) (hn:l.length<=1000000) (gt:Nat->Nat->RV) (a:Int) (h2:gt 0 2=.i a) :
 Own Tryz.prog 331 [.vec 114 3 l.length λi j=>.r (bA ChG.f l i j)] [.sl 0 3 0 l.length none,.fn (.func 332) [] [.r (.rp 34 1 gt 0 0)]] (.sl 0 3 0 (l.filter λc=>!decide (c.p=a)).length none) [.vec 114 3 (l.filter λc=>!decide (c.p=a)).length λi j=>.r ((cG (bA ChG.f l) (Rg.kept (isC l λc=>decide (c.p=a)) l.length)) i j)]:=by
 have h:=Rg.delf331 l.length hn (bA ChG.f l) 332 (.rp 34 1 gt 0 0) (isC l λc=>decide (c.p=a)) (λi j hi hj=>by
  rw[aJ hi];rcases(ω:j=0\/j=1\/j=2) with rfl | rfl | rfl <;> rfl) (λi hi=>by
  have:=bEw l[i] gt a h2;rw[aJ hi,aJ hi,aJ hi];simp only [isC,List.getElem?_eq_getElem hi];exact this)
 have e:(Rg.kept (isC l λc=>decide (c.p=a)) l.length).length=(l.filter λc=>!decide (c.p=a)).length:=by rw[xS];simp
 rw[e] at h;exact h
theorem aMi (k:KsG) (key:W64) (gt:Nat->Nat->RV) (h4:gt 0 4=.w key):Pure Tryz.prog 333 [kp gt,k.sv] (· =(KsG.mk k.a k.m k.s (k.seal key)).sv):=by
 refine π Tryz.func333 ?_;simp[go_sem];refine bD aD κ 16 κ rfl rfl ?_;simp[go_sem,h4,pG];refine⟨_,aB (nI _ _) rfl rfl,?_⟩;refine⟨λr hr=>by simp[SV.refs] at hr,_,aB (nI _ _) rfl rfl,?_⟩;refine aA (nI _ (u64 k.m)) rfl rfl ?_;simp[go_sem,KsG.seal,aYh]
theorem SvG.rem_ok {x:SvG} (h:x.valid=true) {a:Int} (ha:x.g.th a=true):x.g.remE a=0/\x.r.foE a=0/\knE x.lg a=0:=by
 obtain⟨h1,h2,h3,h4,h5,h6⟩:=SvG.reg_val h;have hin:=SvG.th_in h ha;refine⟨?_,?_,?_⟩
 ·unfold EG.remE;rw[if_neg (by rw[h1];simp),if_neg (by rw[ha];simp)]
 ·unfold Rg.RG.foE;rw[if_pos h2,if_pos];show Rg.btw 0 63 a=true;unfold Rg.btw;simp only [Bool.and_eq_true,decide_eq_true_eq];omega
 ·unfold knE;rw[if_pos h4,if_pos];unfold Ix.btw;simp only [Bool.and_eq_true,decide_eq_true_eq];omega
theorem aPq (x:SvG) (o:OrG) (hx:x.OK) (hv:x.valid=true):gF 245 zO x o:=by
 refine bE aD Tryz.func245 rfl κ ν rfl rfl 1 (Nat.le_refl _) ?_;have n1:=hx.ir;have n2:=hx.ch;have n3:=hx.ks;have n4:=hx.lg;unfold zO;simp[go_sem];refine aG (v:=.b (x.g.th o.a)) (by simp[go_sem];exact iJ x hx.g.ok _ (x.at_view _) o.a) rfl ?_;by_cases ht:x.g.th o.a=true;rotate_left
 ·simp[go_sem,ht,bad];exact⟨[0],⟨rfl,trivial⟩,τ,λN=>⟨ζ,ζ⟩⟩
 obtain⟨z1,z2,z3⟩:=SvG.rem_ok hv ht;have hin:=SvG.th_in hv ht;have c1:=aYt hx.g o.a;have c2:=Rg.forget20 x.r o.a hx.r;have c3:=aSb x.lg n4 o.a;have eX:x.g.remX o.a=x.g.remG o.a.toNat:=by unfold EG.remX;rw[if_pos z1]
 rw[z1,eX] at c1;rw[z2,if_pos rfl] at c2;rw[z3,if_pos rfl,if_pos rfl] at c3;unfold SvG.rem;obtain⟨y,hy⟩:∃y,x.g.remG o.a.toNat=y:=⟨_,rfl⟩;obtain⟨q,hq⟩:∃q,x.r.forget o.a=q:=⟨_,rfl⟩;obtain⟨l,hl⟩:∃l,erL x.lg o.a=l:=⟨_,rfl⟩;obtain⟨cnt,hcnt⟩:∃c:Int,(erN x.lg o.a:Int)=c:=⟨_,rfl⟩;rw[hy] at c1;rw[hq] at c2;rw[hl,hcnt] at c3;rw[hy,hq,hl,hcnt];simp[go_sem,ht];refine fD (S:=[(0,.ptr 0 0 17 0),(3,.ptr 1 0 34 0),(7,.ptr 2 0 3 0),(8,.i 0)]) (l:=[some (.box x.cells),some (.box o.cells),some (.box [y.rr,y.ll,y.cc])]) (n:=3)
  (t:=(.take 0 (.take 1 (.take 2 (.take 3 (.take 4 (.take 5 (.take 6 (.alt 7 [6,5,4,3,2,1,0] (.take 8 (.take 9 (.take 10 (.alt 11 [10,9,8,5,3,2,1,0] (.alt 12 [10,9,8,5,3,2,1,0] (.take 13 (.done [13,10])) .nil) .nil)))) (.alt 11 [6,5,4,3,2,1,0] (.alt 7 [6,5,4,3,2,1,0] (.take 8 (.take 9 (.take 10 (.alt 12 [10,9,8,5,3,2,1,0] (.take 13 (.done [13,10])) .nil)))) .nil) .nil)))))))))) aD κ κ κ (λ_ _ _ _ h=>h) rfl ?_ ?_
 ·simp[go_sem];refine⟨aA c1 rfl rfl ?_,aA c1 rfl rfl ?_⟩
  ·simp[go_sem]
  ·simp[go_sem]
 intro J;simp[go_sem];refine fD (S:=[(0,.ptr 0 0 17 0),(3,.ptr 1 0 34 0),(7,.ptr 2 0 3 0),(8,.i 0),(9,.ptr 3 0 4 0),(10,.i 0)]) (l:=[some (.box x.cells),some (.box o.cells),some (.box [y.rr,y.ll,y.cc]),some (.box [Rg.RuleG.rs q.nr q.r,Rg.ConG.rs q.nc q.c,Rg.WarG.rs q.nw q.w,Rg.MarkG.rs q.nm q.m])]) (n:=4)
  (t:=(.take 0 (.take 1 (.take 2 (.take 3 (.take 4 (.take 5 (.take 6 (.alt 7 [6,5,4,3,2,1,0] (.take 8 (.take 9 (.take 10 (.alt 11 [10,9,8,5,3,2,1,0] (.alt 12 [10,9,8,5,3,2,1,0] (.take 13 (.done [13,10])) .nil) .nil)))) (.alt 11 [6,5,4,3,2,1,0] (.alt 7 [6,5,4,3,2,1,0] (.take 8 (.take 9 (.take 10 (.alt 12 [10,9,8,5,3,2,1,0] (.take 13 (.done [13,10])) .nil)))) .nil) .nil)))))))))) aD κ κ κ (λ_ _ _ _ h=>h) rfl ?_ ?_
 ·simp[go_sem];refine⟨aA c2 rfl rfl ?_,aA c2 rfl rfl ?_⟩
  ·simp[go_sem]
  ·simp[go_sem]
 intro J;simp[go_sem];refine aE aD κ κ ?_;simp[go_sem];refine⟨_,aB c3 rfl rfl,?_⟩;simp[go_sem];refine fD (S:=[(0,.ptr 0 0 17 0),(3,.ptr 1 0 34 0),(12,.i cnt)]) (l:=[some (.box [.i x.num,.i x.den,.i x.turns,.i x.mage,.w x.key,.i x.now,y.rr,y.ll,y.cc,irs x.ir,Rg.RuleG.rs q.nr q.r,Rg.ConG.rs q.nc q.c,Rg.WarG.rs q.nw q.w,Rg.MarkG.rs q.nm q.m,pZ x.ch,kss x.ks,tL l]),some (.box o.cells)]) (n:=2)
  (t:=(.take 0 (.take 1 (.take 2 (.take 3 (.take 4 (.take 5 (.take 6 (.take 7 (.take 8 (.alt 9 [8,7,6,5,4,3,2,1,0] (.take 10 (.take 11 (.take 12 (.alt 13 [12,11,10,7,6,5,4,2,1] (.take 14 (.take 15 (.take 16 (.alt 17 [16,15,14,11,10,5,2] (.done [15,14]) .nil)))) .nil)))) .nil))))))))))) aD κ κ κ (λ_ _ _ _ h=>h) rfl ?_ ?_
 ·simp[go_sem]
 intro J;simp[go_sem];refine aF [] (zN x.ir.length ω _) τ rfl trivial ?_;obtain⟨n,hn⟩:∃n:Nat,o.a=n:=⟨o.a.toNat,ω⟩;have hlt:n<x.ir.length:=ω;simp[go_sem];refine bD aD κ 8 κ rfl rfl ?_;simp[go_sem,hn,hlt];refine aF [] (yO x.ch.length ω _) τ rfl trivial ?_;simp[go_sem];refine aC 1 ξ ?_;simp[go_sem];refine aF [3] (bD5 x.ch ω _ n (by rw[<- hn];rfl)) τ rfl ⟨rfl,trivial⟩ ?_;simp[go_sem];refine aF [] (aHk x.ks.length ω _) τ rfl trivial ?_;simp[go_sem];obtain⟨I,hI⟩:∃I,x.ir.set n IrG.z=I:=⟨_,rfl⟩;obtain⟨C,hC⟩:∃C,x.ch.filter (λc=>!decide (c.p=(n:Int)))=C:=⟨_,rfl⟩;have hIl:I.length=x.ir.length:=by rw[<- hI];simp
 refine bH (GSt.freeze 2 ξ) ?_;refine bH (GSt.freeze 4 ξ) ?_;refine bH (GSt.wkBox 0 (l':=[.i x.num,.i x.den,.i x.turns,.i x.mage,.w x.key,.i x.now,y.rr,y.ll,y.cc,irs I,Rg.RuleG.rs q.nr q.r,Rg.ConG.rs q.nc q.c,Rg.WarG.rs q.nw q.w,Rg.MarkG.rs q.nm q.m,pZ C,.sl 5 4 0 x.ks.length none,tL l]) ξ ?_) ?_
 ·simp[go_sem];refine⟨⟨hIl.symm,λi j hi hj=>?_⟩,by rw[hC],λi j hi hj=>?_⟩
  ·have hi':i<I.length:=ω;rw[aJ hi'];have hg:I[i]=if i=n then IrG.z else x.ir[i]:=by
    subst hI;rw[List.getElem_set];by_cases e:n=i
    ·rw[if_pos e,if_pos e.symm]
    ·rw[if_neg e,if_neg λh=>e h.symm]
   rw[hg];by_cases e:i=n
   ·rw[if_pos ⟨e,hj⟩,if_pos e];rcases(ω:j=0\/j=1) with rfl | rfl <;> rfl
   ·rw[if_neg λh=>e h.1,if_neg e,aJ hi];rfl
  ·have:=aMk x.ch (λc=>decide (c.p=(n:Int))) i j (by rw[<- hC,xS] at *;simpa using hi);rw[this,<- hC]
 rw[hI,hC];refine yW aD (α:=Nat) (λk=>[(0,.ptr 0 0 17 0),(3,.r (.rp 34 1 (nB o.cells) 0 0)),(12,.i cnt),(123,.sl 5 4 0 x.ks.length none),(124,.i x.ks.length),(125,.i k)])
  (λk M nx=>k<=x.ks.length/\6<=nx/\M 0=some (.box [.i x.num,.i x.den,.i x.turns,.i x.mage,.w x.key,.i x.now,y.rr,y.ll,y.cc,irs I,Rg.RuleG.rs q.nr q.r,Rg.ConG.rs q.nc q.c,Rg.WarG.rs q.nw q.w,Rg.MarkG.rs q.nm q.m,pZ C,.sl 5 4 0 x.ks.length none,tL l])/\
    ∃G,M 5=some (.vec 100 4 x.ks.length G)/\∀i (hi:i<x.ks.length) j,j<4->G i j=.r ((if i<k then x.ks[i].re x.key n else x.ks[i]).f j)) (λk=>x.ks.length - k) 0 ?_ ?_ ?_
 ·refine⟨Nat.zero_le _,τ,ζ,_,ξ,λi hi j hj=>?_⟩;simp[aJ hi]
 ·simp[go_sem]
 rintro k J M nx _ ⟨hk,hnx,h0,G,h5,hG⟩;by_cases hlt:k<x.ks.length
 ·have g0:=hG k hlt 0 δ;have g1:=hG k hlt 1 δ;have g2:=hG k hlt 2 δ;have g3:=hG k hlt 3 δ;rw[if_neg (Nat.lt_irrefl k)] at g0 g1 g2 g3;have e0:¬0=nx:=ω;have e5:¬5=nx:=ω;have e0':¬nx=0:=ω;have e5':¬nx=5:=ω;simp[go_sem,hlt,h0,h5,g0,g1,g2,g3,e0,e5,e0',e5'];refine bD aD κ 5 κ rfl rfl ?_;simp[go_sem,hlt,h0,h5,g0,g1,g2,g3,e0,e5,e0',e5',hn];refine bD aD κ 9 κ rfl rfl ?_;simp[go_sem,hlt,h0,h5,g0,g1,g2,g3,e0,e5,e0',e5',hn];have hse:=λgt h=>aMi ⟨x.ks[k].a,x.ks[k].m,cX x.ks[k].s (bP 1#64 n),x.ks[k].z⟩ x.key gt h;have hre:(KsG.mk x.ks[k].a x.ks[k].m (cX x.ks[k].s (bP 1#64 n)) ((KsG.mk x.ks[k].a x.ks[k].m (cX x.ks[k].s (bP 1#64 n)) x.ks[k].z).seal x.key))=x.ks[k].re x.key n:=rfl;rw[hre] at hse;refine⟨(x.ks[k].re x.key n).sv,kM (by simp[go_sem,h0,e0,e0'];exact hse _ (by rfl)) rfl,⟨rfl,rfl⟩,⟨ω,ω⟩,aQ ?_⟩;simp[go_sem,h0,e0,e0',e5,e5'];refine⟨k+1,ω,ω,ω,ω,λi hi j hj=>?_⟩;by_cases e:i=k
  ·subst e;rw[if_pos ⟨rfl,hj⟩,if_pos (Nat.lt_succ_self i)];rcases(ω:j=0\/j=1\/j=2\/j=3) with rfl | rfl | rfl | rfl <;> rfl
  ·rw[if_neg λh=>e h.1,hG i hi j hj];by_cases h:i<k
   ·rw[if_pos h,if_pos ω]
   ·rw[if_neg h,if_neg ω]
 have hk':k=x.ks.length:=ω;subst hk';simp[go_sem,h0,h5];refine aZ (GSt.freeze 5 h5) (aZ (GSt.wkBox 0 (l':=({x with g:=y,ir:=I,r:=q,ch:=C,ks:=x.ks.map λk=>k.re x.key n,lg:=l}:SvG).cells) (by simp[go_sem,h0];rfl) ?_) (aQ ?_))
 ·simp[go_sem];intro i j hi hj;rw[hG i hi j hj,if_pos hi,aJ (by simpa using hi)];simp[SV.toRV]
 ·simp[go_sem,oD];exact⟨[0],⟨rfl,trivial⟩,τ,λN=>⟨ζ,ζ⟩⟩
def SvG.mbK (x:SvG) (k:Nat):List MbG:=((List.range k).filter λi:Nat=>x.g.th i).map λi:Nat=>⟨(i:Int),x.eye i⟩
theorem SvG.mbK_succ (x:SvG) (k:Nat):x.mbK (k+1)=x.mbK k++if x.g.th k then [⟨(k:Int),x.eye k⟩] else []:=by
 unfold SvG.mbK;rw[List.range_succ,List.filter_append,List.map_append]
 congr 1
 by_cases h:x.g.th (k:Int)=true <;> simp[h]
theorem SvG.mbK_le (x:SvG) (k:Nat):(x.mbK k).length<=k:=by
 unfold SvG.mbK;rw[List.length_map];exact Nat.le_trans (List.length_filter_le _ _) τ
theorem SvG.mbs_mem {x:SvG} {a:MbG} (h:a∈x.mbs):∃n:Nat,n<x.ir.length/\x.g.th n=true/\a=⟨n,x.eye n⟩:=by
 unfold SvG.mbs at h;obtain⟨n,hn,rfl⟩:=List.mem_map.1 h;have:=List.mem_filter.1 hn;exact⟨n,List.mem_range.1 this.1,this.2,rfl⟩
theorem SvG.mbs_vl {x:SvG} (h:x.valid=true):VL x.mbs:=by
 obtain⟨h1,h2,h3,h4,h5,h6⟩:=SvG.reg_val h;have hnr:=(EG.val_iff.1 h1).nr;refine⟨Nat.le_trans (x.mbK_le x.ir.length) ω,λa ha=>?_,λa ha=>?_,?_⟩
 ·obtain⟨n,hn,_,rfl⟩:=SvG.mbs_mem ha;show Ix.btw 0 1073741824 (n:Int)=true;simp only [Ix.btw,Bool.and_eq_true,decide_eq_true_eq];omega
 ·obtain⟨n,hn,_,rfl⟩:=SvG.mbs_mem ha;exact SvG.eye_ok h ω ω
 ·unfold SvG.mbs;rw[List.map_map];have:((λa:MbG=>a.id) ∘ λi:Nat=>(⟨(i:Int),x.eye i⟩:MbG))=λi:Nat=>(i:Int):=rfl;rw[this];rw[List.Nodup,List.pairwise_map];have hnd:((List.range x.ir.length).filter λi:Nat=>x.g.th i).Pairwise (·≠·):=List.Pairwise.filter _ List.nodup_range;exact hnd.imp fun {a b} hne e=>hne (Int.ofNat_inj.1 e)
theorem SvG.mE_ok {x:SvG} (h:x.valid=true) {p:IrG} (hp:p.ok=true):mE p p x.turns x.num x.den=0:=by
 obtain⟨h1,h2,h3,h4⟩:=aEr h;unfold mE;rw[hp];have e1:Ix.btw 0 7 x.turns=true:=by simp[Ix.btw];omega
 have e2:vL x.num x.den=true:=by unfold vL Ix.btw;simp;omega
 simp[e1,e2]
theorem SvG.fd_mem {x:SvG} (h:x.valid=true) {p:IrG} {t n d:Int} {a:Int} (ha:a∈fdI x.mbs p t n d):x.g.th a=true:=by
 unfold fdI at ha;split at ha
 ·unfold aFi at ha;obtain⟨m,hm,rfl⟩:=List.mem_map.1 ha;have hm:=(List.mem_filter.1 hm).1;have hm:=(dB x.mbs).1.mem_iff.1 hm;obtain⟨k,_,hk,rfl⟩:=SvG.mbs_mem hm;exact hk
 ·exact absurd ha τ
theorem aL2 {g:Rg.RG} {q:Rg.QG} (h:g.aerr q=0):∃k l,g.apq q=k::l/\k<g.nr:=by
 unfold Rg.RG.aerr at h;split at h
 ·rename_i h0;exact absurd h h0
 rename_i h0;have h0:Rg.ask g q=0:=by simpa using h0
 split at h
 ·omega
 rename_i h1;have key:∀n,g.apl q n=[]->g.lev q n=0:=by
  intro n
  induction n with
  | zero=>intro _;rfl
  | succ n ih=>
    intro he
    cases hb:Rg.ruleB g q (g.r n)
    ·rw[Rg.RG.apl_no hb] at he;simp only [Rg.RG.lev,hb];simpa using ih he
    ·rw[Rg.RG.apl_yes hb] at he;simp at he
 have e:g.apq q=g.apl q g.nr:=by unfold Rg.RG.apq;rw[if_pos h0]
 rw[e]
 cases hl:g.apl q g.nr with
 | nil=>exact absurd (key _ hl) h1
 | cons k l=>
   refine⟨k,l,rfl,?_⟩;have:k∈g.apl q g.nr:=by rw[hl];simp
   exact List.mem_range.1 (List.mem_filter.1 this).1
theorem aGu {g:Rg.RG} {q:Rg.QG} (h:g.aerr q=0):Rg.ask g q=0:=by
 unfold Rg.RG.aerr at h;split at h
 ·rename_i h0;exact absurd h h0
 ·rename_i h0;simpa using h0
theorem fI {α:Type} {f:α->Nat->RV} {l:List α} {x:α} {k q:Nat} {G new:Nat->Nat->SV} (hG:∀i j,i<l.length->j<k->G i j=.r (bA f l i j)) (h:∀j,j<k->new 0 j=.r (f x j)) :
 ∀i j,i<(l++[x]).length->j<k->SV.kill q (aI l.length 1 G new i j)=.r (bA f (l++[x]) i j):=by
 intro i j hi hj;simp only [List.length_append,List.length_singleton] at hi;unfold aI;by_cases hiL:i<l.length
 ·rw[if_pos hiL,hG i j hiL hj];unfold bA;rw[List.getElem?_append_left hiL];rfl
 ·obtain rfl:i=l.length:=ω;rw[if_neg hiL,if_pos ω,Nat.sub_self,h j hj];unfold bA;rw[List.getElem?_concat_length];rfl
theorem aN7 (x:SvG) (o:OrG) (hx:x.OK) (hv:x.valid=true) (hq:(o.q.nk:Int)<2 ^ 61):gF 253 lC x o:=by
 refine bE aD Tryz.func253 rfl κ ν rfl rfl 1 (Nat.le_refl _) ?_;have n1:=hx.ir;unfold lC;simp[go_sem];refine aA (pO o.x.c o.x.m) rfl rfl ?_;have e0:o.x.ok=vI o.x.c o.x.m:=rfl;rw[e0]
 cases hvi:vI o.x.c o.x.m
 ·simp[go_sem,bad];exact⟨[0],⟨rfl,trivial⟩,τ,λN=>⟨ζ,ζ⟩⟩
 simp[go_sem];refine aA (Rg.checkQuery40 o.q (by unfold Rg.QG.OK;omega)) rfl rfl ?_;obtain⟨e,he⟩:∃e,o.q.err=e:=⟨_,rfl⟩;rw[he];by_cases he0:e=0;rotate_left
 ·simp[go_sem,he0,bad];exact⟨[0],⟨rfl,trivial⟩,τ,λN=>⟨ζ,ζ⟩⟩
 subst he0;simp[go_sem];refine bH (GSt.adopt 9 126 3 (λ_ _=>.r .any) ζ) ?_;refine jE aD (α:=Nat) (λk=>[(0,.ptr 0 0 17 0),(3,.ptr 1 0 34 0),(9,.sl 2 3 0 (x.mbK k).length none),(41,irs x.ir),(42,.i x.ir.length),(43,.i k)])
  (λk M nx=>k<=x.ir.length/\3<=nx/\M 0=some (.box x.cells)/\M 1=some (.box o.cells)/\∃G,M 2=some (.vec 126 3 (x.mbK k).length G)/\∀i j,i<(x.mbK k).length->j<3->G i j=.r (bA MbG.f (x.mbK k) i j)) (λk=>x.ir.length - k) 0 ?_ ?_ ?_
 ·simp[go_sem,SvG.mbK]
 ·simp[go_sem,SvG.mbK]
 rintro k J M nx _ ⟨hk,hnx,h0,h1,G,h2,hG⟩;have e0:¬0=nx:=ω;have e1:¬1=nx:=ω;have e2:¬2=nx:=ω;have e0':¬nx=0:=ω;have e1':¬nx=1:=ω;have e2':¬nx=2:=ω;by_cases hlt:k<x.ir.length
 ·have hrow:=aJ (f:=IrG.f) hlt;have hey:x.eye k=x.ir[k]:=SvG.eye_get hlt;have hs:=x.mbK_succ k;have hle:=x.mbK_le k;rw[hey] at hs;simp[go_sem,hlt,hrow];refine aG (v:=.b (x.g.th k)) (by simp[go_sem,h0,e0,e0'];exact iJ x hx.g.ok _ (x.at_view _) k) rfl ?_;by_cases ht:x.g.th (k:Int)=true
  ·rw[if_pos ht] at hs;obtain⟨y,hy⟩:∃y:MbG,MbG.mk k x.ir[k]=y:=⟨_,rfl⟩;have hyr:∀j,j<3->([.i k,.w x.ir[k].c,.w x.ir[k].m]:List SV)[0*3+j]?.getD (SV.r .any)=.r (y.f j):=by
    intro j hj;subst hy;rcases(ω:j=0\/j=1\/j=2) with rfl | rfl | rfl <;> rfl
   rw[hy] at hs;simp[go_sem,ht,h0,h1,h2,e0,e1,e2,e0',e1',e2'];refine⟨⟨ω,ω⟩,⟨ω,ω⟩,k+1,ω,⟨by rw[hs];simp,ω⟩,ω,ω,_,⟨by rw[hs];simp,rfl⟩,?_⟩;rw[hs];exact fI hG λj hj=>hyr j hj
  ·rw[if_neg ht,List.append_nil] at hs;simp[go_sem,ht,h0,h1,h2,e0,e1,e2,e0',e1',e2'];exact⟨⟨ω,ω⟩,k+1,ω,⟨by rw[hs],ω⟩,ω,ω,G,⟨by rw[hs],rfl⟩,by rw[hs];exact hG⟩
 have hk':k=x.ir.length:=ω;subst hk';have hms:x.mbK x.ir.length=x.mbs:=rfl;rw[hms] at h2 hG;have hvl:=SvG.mbs_vl hv;have hbE:fB x.mbs=0:=(rV _).2 hvl;have hb:=aLj x.mbs (by have:=hvl.len;omega);have hbX:tO x.mbs=lI x.mbs:=by unfold tO;rw[if_pos hbE]
 rw[hbE,hbX] at hb;obtain⟨c1,c2,c3,c4⟩:=aEr hv;have hsr:=aMg hvl o.x x.turns x.num x.den;rw[SvG.mE_ok hv hvi] at hsr;have hmem:∀a∈fdI x.mbs o.x x.turns x.num x.den,x.g.th a=true:=λa ha=>SvG.fd_mem hv ha;obtain⟨L,hL⟩:∃L,fdI x.mbs o.x x.turns x.num x.den=L:=⟨_,rfl⟩;obtain⟨sn,hsn⟩:∃s,fdS x.mbs o.x x.turns x.num x.den=s:=⟨_,rfl⟩;have hLl:L.length<=256:=by
  rw[<- hL];unfold fdI;split
  ·unfold aFi;rw[List.length_map];refine Nat.le_trans (List.length_filter_le _ _) ?_;rw[(dB x.mbs).1.length_eq];exact hvl.len
  ·simp
 rw[hL] at hmem;rw[hL,hsn] at hsr;rw[hL];obtain⟨R,hR⟩:∃R,mF x o L []=R:=⟨_,rfl⟩;rw[hR];simp[go_sem,hms];refine aC 2 h2 ?_;simp[go_sem];refine aA (hb.args ⟨vK λi j hi hj=>?_,trivial⟩) rfl ?_ ?_
 ·simp only [hG i j hi hj];show bA MbG.f x.mbs i j=gG x.mbs i j;rw[aJ hi,mrow hi]
 ·rfl
 unfold IxG.sv;simp[go_sem,List.range_succ,h0,h1,e0,e1,e2,e0',e1',e2'];have f0:¬0=nx+1:=ω;have f1:¬1=nx+1:=ω;unfold IxG.sv at hsr;simp only [List.range_succ,List.range_zero,List.nil_append,List.map_append,List.map_cons,List.map_nil,List.cons_append] at hsr;refine jM (S:=[(0,.ptr 0 0 17 0),(3,.ptr 1 0 34 0),(13,.i 0),(14,.ptr (nx+1) 0 2 0)]) (φ:=λM nx'=>nx+2<=nx'/\M 0=some (.box x.cells)/\M 1=some (.box o.cells)/\M (nx+1)=some (.box [ils L,.i sn])) ?_ ?_
 ·refine aP (t:=(.take 0 (.take 1 (.take 2 (.take 3 (.take 4 (.take 5 (.take 6 (.take 7 (.take 8 (.take 9 (.take 10 (.take 11 (.take 12 (.take 13 (.take 14 (.alt 15 [14,13,12,11,10,9,8,7,6,5,4,3,2,1,0] (.take 16 (.take 17 (.take 18 (.alt 19 [18,17,16,13,12,11,10,9,7,6,5,4,3,1] (.alt 20 [18,17,16,13,12,11,10,9,7,6,5,4,3,1] (.take 21 (.done [21,18])) .nil) .nil)))) (.alt 19 [14,13,12,11,10,9,8,7,6,5,4,3,2,1,0] (.alt 15 [14,13,12,11,10,9,8,7,6,5,4,3,2,1,0] (.take 16 (.take 17 (.take 18 (.alt 20 [18,17,16,13,12,11,10,9,7,6,5,4,3,1] (.take 21 (.done [21,18])) .nil)))) .nil) .nil)))))))))))))))))) aD κ κ κ (λ_ _ _ _ h=>h) ?_;simp[go_sem,h0,h1,e0,e1,e2,e0',e1',e2',f0,f1];refine⟨aA hsr rfl rfl ?_,aA hsr rfl rfl ?_⟩
  ·simp[go_sem,h0,h1,e0,e1,e2,e0',e1',e2',f0,f1]
  ·simp[go_sem,h0,h1,e0,e1,e2,e0',e1',e2',f0,f1]
 intro J M2 nx2 ⟨k1,k2,k3,k4⟩;simp[go_sem,k4];refine bH (GSt.adopt 15 132 5 (λ_ _=>.r .any) ζ) ?_;have hl0:=SvG.log_ok hv;have hset:=(SvG.valid_iff.1 hv).1;have hir:∀a,x.g.th a=true->0<=a/\a<x.ir.length/\a<=23:=λa ha=>SvG.th_in hv ha;have heok:∀a,x.g.th a=true->(x.eye a).ok=true:=λa ha=>SvG.eye_ok hv (hir a ha).1 (hir a ha).2.1;refine yW aD (α:=Nat × List EnG × List HtG) (λs=>[(0,.ptr 0 0 17 0),(3,.ptr 1 0 34 0),(15,.sl nx2 5 0 s.2.2.length none),(89,ils L),(90,.i L.length),(91,.i s.1)])
  (λs M nx'=>s.1<=L.length/\nx2<nx'/\M 0=some (.box ({x with lg:=s.2.1}:SvG).cells)/\M 1=some (.box o.cells)/\(∃G,M nx2=some (.vec 132 5 s.2.2.length G)/\∀i j,i<s.2.2.length->j<5->G i j=.r (bA HtG.f s.2.2 i j))/\
    aAf s.2.1 x.now/\s.2.1.length<=60/\s.2.2.length<=s.1/\R=mF {x with lg:=s.2.1} o (L.drop s.1) s.2.2) (λs=>L.length - s.1) (0,x.lg,[]) ?_ ?_ ?_
 ·refine⟨Nat.zero_le _,Nat.lt_succ_self _,?_,?_,⟨λ_ _=>.r .any,?_,λi j hi=>absurd hi (Nat.not_lt_zero i)⟩,hl0,?_,Nat.le_refl _,hR.symm⟩
  ·have:¬0=nx2:=ω;simp[go_sem,this,k2]
  ·have:¬1=nx2:=ω;simp[go_sem,this,k3]
  ·simp[go_sem]
  ·have:=hl0.ok;unfold fR at this;simp only [Bool.and_eq_true,decide_eq_true_eq] at this;exact this.1
 ·simp[go_sem]
 rintro⟨k,lg,h⟩ J M nx' _ ⟨hk,hnx',m0,m1,⟨G2,m2,hG2⟩,hlg,hl60,hhk,hM⟩;dsimp only at *;by_cases hlt:k<L.length
 ·have ha:x.g.th L[k]=true:=hmem _ (List.getElem_mem hlt);have hdrop:L.drop k=L[k]::L.drop (k+1):=List.drop_eq_getElem_cons hlt;have hrow:=aUv hlt;obtain⟨a,haa⟩:∃a,L[k]=a:=⟨_,rfl⟩;rw[haa] at ha hdrop hrow;rw[hdrop] at hM;obtain⟨a1,a2,a3⟩:=hir a ha;have d0:∀i,¬0=nx'+i:=λi=>ω;have d1:∀i,¬1=nx'+i:=λi=>ω;have d2:∀i,¬nx2=nx'+i:=λi=>ω;have d0':∀i,¬nx'+i=0:=λi=>ω;have d1':∀i,¬nx'+i=1:=λi=>ω;have d2':∀i,¬nx'+i=nx2:=λi=>ω;have b0:¬0=nx':=ω;have b1:¬1=nx':=ω;have b2:¬nx2=nx':=ω;have b0':¬nx'=0:=ω;have b1':¬nx'=1:=ω;have b2':¬nx'=nx2:=ω;simp[go_sem,hlt,hrow,m0,m1,m2,b0,b1,b2,b0',b1',b2',d0,d1,d2,d0',d1',d2'];obtain⟨q,hqq⟩:∃q,qAt o.q a x.now=q:=⟨_,rfl⟩;have hqk:(q.nk:Int)<2 ^ 61:=by rw[<- hqq];exact hq
  have hqO:q.OK:=by unfold Rg.QG.OK;omega
  have hqs:SV.agg [.i o.q.p,.i o.q.r,.i o.q.l,.i a,.i x.now,o.q.ks]=q.sv:=by rw[<- hqq];rfl
  have han:=Rg.answer26 x.r q hx.r hqO;have hap:=Rg.applies31 x.r q hx.r hqO;obtain⟨ae,hae⟩:∃e,x.r.aerr q=e:=⟨_,rfl⟩;rw[hae] at han;rw[<- hqs] at han hap;refine aP (t:=(.take 0 (.take 1 (.take 2 (.take 3 (.take 4 (.take 5 (.take 6 (.alt 7 [6,5,4,3,2,1,0] (.take 8 (.alt 9 [8,5,4,3,2,1] (.done []) .nil)) .nil))))))))) aD κ κ κ (λ_ _ _ _ h=>h.elim λ_ h=>h.elim λ_ h=>h.elim λ_ h=>h.2) ?_;simp[go_sem,hlt,hrow,m0,m1,m2,b0,b1,b2,b0',b1',b2',d0,d1,d2,d0',d1',d2'];refine jM (S:=[(0,.ptr 0 0 17 0),(3,.ptr 1 0 34 0),(15,.sl nx2 5 0 h.length none),(89,ils L),(90,.i L.length),(91,.i k),(17,.i a),(18,.ptr nx' 0 6 0),(19,.ptr (nx'+1) 0 4 0),(20,.i ae)])
   (φ:=λM nx''=>nx'+2<=nx''/\M 0=some (.box ({x with lg:=lg}:SvG).cells)/\M 1=some (.box o.cells)/\M nx2=some (.vec 132 5 h.length G2)/\M nx'=some (.box [.i o.q.p,.i o.q.r,.i o.q.l,.i a,.i x.now,o.q.ks])/\M (nx'+1)=some (.box [.i (x.r.aL q),.b (x.r.aO q),.i (x.r.aS q),.i (x.r.aN q)])) ?_ ?_
  ·refine aP (t:=(.take 0 (.take 1 (.take 2 (.take 3 (.take 4 (.take 5 (.alt 6 [5,4,3,2,1,0] (.take 7 (.take 8 (.take 9 (.alt 10 [9,8,7,3,2,1,0] (.alt 11 [9,8,7,3,2,1,0] (.take 12 (.done [12,9])) .nil) .nil)))) (.alt 10 [5,4,3,2,1,0] (.alt 6 [5,4,3,2,1,0] (.take 7 (.take 8 (.take 9 (.alt 11 [9,8,7,3,2,1,0] (.take 12 (.done [12,9])) .nil)))) .nil) .nil))))))))) aD κ κ κ (λ_ _ _ _ h=>h) ?_;simp[go_sem,hlt,hrow,m0,m1,m2,b0,b1,b2,b0',b1',b2',d0,d1,d2,d0',d1',d2'];refine⟨aA han rfl rfl ?_,aA han rfl rfl ?_⟩
   ·simp[go_sem,hlt,hrow,m0,m1,m2,b0,b1,b2,b0',b1',b2',d0,d1,d2,d0',d1',d2']
   ·simp[go_sem,hlt,hrow,m0,m1,m2,b0,b1,b2,b0',b1',b2',d0,d1,d2,d0',d1',d2']
  intro J M3 nx3 ⟨p1,p2,p3,p4,p5,p6⟩;have r1:nx'<nx3:=ω;have r2:nx'+1<nx3:=ω;have r3:0<nx3:=ω;have r4:1<nx3:=ω;have r5:nx2<nx3:=ω;simp[go_sem,p2,p3,p4,p5,p6];refine aE aD κ κ ?_;simp[go_sem,p2,p3,p4,p5,p6,r1,r2,r3,r4,r5];refine⟨_,aB hap rfl rfl,?_⟩;unfold mF at hM;simp only [hqq,hae] at hM;by_cases he0:ae=0;rotate_left
  ·rw[if_neg he0] at hM;simp[go_sem,he0];refine⟨⟨ω,ω⟩,aQ ?_⟩;rw[tW];refine⟨(k+1,lg,h),(show L.length - (k+1)<L.length - k by omega),ζ,(show k+1<=L.length by omega),(show nx2<nx3 by omega),p2,p3,⟨G2,p4,hG2⟩,hlg,hl60,(show h.length<=k+1 by omega),hM⟩
  have hask:=aGu (hae.trans he0);obtain⟨r0,rl,hr0,hr1⟩:=aL2 (hae.trans he0);rw[if_pos he0] at hM;rw[hask,hr0];have hnr:=(Rg.RG.small (SvG.reg_val hv).2.1).1;have hcm:=λgt h=>rL ({x with lg:=lg}:SvG) hset gt h a ⟨a1,a2⟩ n1 o.x (heok a ha) hvi;obtain⟨r,hr⟩:∃r,iB ({x with lg:=lg}:SvG) (SvG.eye {x with lg:=lg} a) o.x=r:=⟨_,rfl⟩;have hgood:r.good=true:=by rw[<- hr];exact jS hset _ o.x
  have hg2:=RsG.good_in hgood;rw[hr] at hcm hM;simp[go_sem,he0,p2,p3,p4,p5,p6];refine aG (v:=r.sv) (by simp[go_sem,p2];exact hcm _ (SvG.at_view ({x with lg:=lg}:SvG) _)) rfl ?_;have hz:cG lJ (r0::rl) 0 0=.i (r0:Int):=rfl;have s0:¬0=nx3:=ω;have s1:¬1=nx3:=ω;have s2:¬nx2=nx3:=ω;have s3:¬nx'=nx3:=ω;have s4:¬nx'+1=nx3:=ω;have s0':¬nx3=0:=ω;have s1':¬nx3=1:=ω;have s2':¬nx3=nx2:=ω;have s3':¬nx3=nx':=ω;have s4':¬nx3=nx'+1:=ω;have s5:∀i,¬nx3+i=0:=λi=>ω;have s6:∀i,¬nx3+i=1:=λi=>ω;have s7:∀i,¬nx3+i=nx2:=λi=>ω;have s8:∀i,¬0=nx3+i:=λi=>ω;have s9:∀i,¬1=nx3+i:=λi=>ω;have s10:∀i,¬nx2=nx3+i:=λi=>ω;have s11:∀i,¬nx'=nx3+i:=λi=>ω;have s12:∀i,¬nx'+1=nx3+i:=λi=>ω;have s13:¬nx'+1=0:=ω;have s14:¬0=nx'+1:=ω;have s15:¬nx2=0:=ω;have s16:¬0=nx2:=ω;have s17:¬nx'+1=nx2:=ω;have s18:¬nx2=nx3+1+1:=ω;have s19:¬0=nx3+1+1:=ω;have s20:¬1=nx3+1+1:=ω;have s21:¬nx3+1+1=nx2:=ω;have s22:¬nx3+1+1=0:=ω;have s23:¬nx3+1+1=1:=ω;have s24:¬1=nx2:=ω;have s25:¬nx2=1:=ω;simp[go_sem,hz,p2,p3,p4,p5,p6,s0,s1,s2,s3,s4,s0',s1',s2',s3',s4',s5,s6,s7,s8,s9,s10,s11,s12,s13,s14,s15,s16,s17];obtain⟨r',hr'⟩:∃r':RsG,{r with r:=(r0:Int)}=r':=⟨_,rfl⟩;have hgr:r'.good=true:=by
   rw[<- hr'];simp only [RsG.good,RsG.okd,jA,Ix.btw,Bool.and_eq_true,decide_eq_true_eq];omega
  have hrs:SV.agg [.r (.v (.int .u8 r.d)),.i r.n,.i r.m,.i r.p,.i r.q,.i r0]=r'.sv:=by rw[<- hr']
  have hrec:=aCd ({x with lg:=lg}:SvG) 2 a r' o.s (by show lg.length<1000000;omega) hlg δ ω hgr;have hM2:R=if lg.length=60 then (({x with lg:=lg}:SvG),bad 9) else mF (SvG.put {x with lg:=lg} 2 a r' o.s) o (L.drop (k+1)) (h++[⟨a,x.r.aL q,x.r.aO q,x.r.aS q,x.r.aN q⟩]):=by
   rw[hM,<- hr',hr0];rfl
  unfold aW5 at hrec;rw[hrs];by_cases h60:lg.length=60
  ·rw[if_pos h60,if_pos h60] at hrec;rw[if_pos h60] at hM2;refine aR [0] hrec (Nat.le_refl _) τ rfl ⟨?_,trivial⟩ ?_
   ·simp[go_sem,p2,s0]
   simp[go_sem,hM2,bad];refine aQ ?_;simp[go_sem];exact⟨[0],⟨rfl,trivial⟩,τ,λN=>⟨ζ,ζ⟩⟩
  ·rw[if_neg h60,if_neg h60] at hrec;rw[if_neg h60] at hM2;refine aR [0] hrec (Nat.le_refl _) τ rfl ⟨?_,trivial⟩ ?_
   ·simp[go_sem,p2,s0]
   simp[go_sem,hz,p2,p3,p4,p5,p6,s0,s1,s2,s3,s4,s0',s1',s2',s3',s4',s5,s6,s7,s8,s9,s10,s11,s12,s13,s14,s15,s16,s17,s18,s19,s20,s21,s22,s23,s24,s25];obtain⟨y,hy⟩:∃y:HtG,HtG.mk a (x.r.aL q) (x.r.aO q) (x.r.aS q) (x.r.aN q)=y:=⟨_,rfl⟩;have hyr:∀j,j<5->([.i a,.i (x.r.aL q),.b (x.r.aO q),.i (x.r.aS q),.i (x.r.aN q)]:List SV)[0*5+j]?.getD (SV.r .any)=.r (y.f j):=by
    intro j hj;subst hy;rcases(ω:j=0\/j=1\/j=2\/j=3\/j=4) with rfl | rfl | rfl | rfl | rfl <;> rfl
   rw[hy] at hM2;refine⟨⟨ω,ω⟩,ω,⟨ω,ω⟩,aQ ?_⟩;rw[tW];refine⟨(k+1,lg++[wrX lg x.now 2 a r'.pack o.s],h++[y]),(show L.length - (k+1)<L.length - k by omega),?_,(show k+1<=L.length by omega),(show nx2<nx3+1+1+1 by omega),?_,?_,⟨λi j=>SV.kill nx2 (aI h.length 1 G2 (λi j=>[SV.i a,.i (x.r.aL q),.b (x.r.aO q),.i (x.r.aS q),.i (x.r.aN q)][i*5+j]?.getD (SV.r .any)) i j),?_,?_⟩,yB hlg h60 δ ω r'.pack o.s,?_,?_,hM2⟩
   ·simp[go_sem]
   ·simp[go_sem,s0,s1,s2,s3,s4,s0',s1',s2',s3',s4',s5,s6,s7,s8,s9,s10,s11,s12,s13,s14,s15,s16,s17,s18,s19,s20,s21,s22,s23,s24,s25,SvG.put]
   ·simp[go_sem,p3,s0,s1,s2,s3,s4,s0',s1',s2',s3',s4',s5,s6,s7,s8,s9,s10,s11,s12,s13,s14,s15,s16,s17,s18,s19,s20,s21,s22,s23,s24,s25]
   ·simp[go_sem,s0,s1,s2,s3,s4,s0',s1',s2',s3',s4',s5,s6,s7,s8,s9,s10,s11,s12,s13,s14,s15,s16,s17,s18,s19,s20,s21,s22,s23,s24,s25]
   ·exact fI hG2 λj hj=>hyr j hj
   ·show(lg++[_]).length<=60;simp;omega
   ·show(h++[y]).length<=k+1;simp;omega
 have hk':k=L.length:=ω;subst hk';rw[List.drop_length] at hM;have hM:R=(({x with lg:=lg}:SvG),⟨0,h.length,h⟩):=hM;rw[hM];simp[go_sem,m0,m1,m2];refine aZ (GSt.freeze nx2 m2) (aQ ?_);rw[aLr];simp[go_sem,m0,m1,m2];refine⟨[0],⟨rfl,trivial⟩,τ,λN=>⟨?_,?_⟩⟩
 ·simp[go_sem];intro i j hi hj;rw[hG2 i j hi hj];rfl
 ·have:¬0=nx2:=ω;simp[go_sem,m0,this]
def OrG.bS (o:OrG):Bool:=!decide (o.s.toNat=0)
def OrG.bI (o:OrG):Bool:=!(decide (o.x.c.toNat=0)&&decide (o.x.m.toNat=0))
def OrG.bQ (o:OrG):Bool:=!decide (o.q.p=0)||!decide (o.q.r=0)||!decide (o.q.l=0)||decide (0<o.q.nk)
def OrG.bR (o:OrG):Bool:=!(decide (o.rl.p=0)&&(decide (o.rl.r=0)&&(decide (o.rl.l=0)&&(decide (o.rl.f=0)&&(decide (o.rl.t=0)&&(decide (o.rl.k=0)&&(decide (o.rl.s=0)&&decide (o.rl.b=0))))))))
def OrG.bW (o:OrG):Bool:=!(decide (o.w.l=0)&&(decide (o.w.p=0)&&(decide (o.w.f=0)&&decide (o.w.t=0))))
def OrG.bC (o:OrG):Bool:=!(decide (o.c.p=0)&&(decide (o.c.q=0)&&decide (o.c.u=0)))
def OrG.bM (o:OrG):Bool:=!(decide (o.m.l=0)&&(decide (o.m.p=0)&&(decide (o.m.s=0)&&(decide (o.m.u=0)&&decide (o.m.n=0)))))
def cF (o:OrG) (n a b:Int) (f s i q r w c m:Bool):Bool:=decide (n=0/\a=0/\b=0/\f=false/\s=false/\i=false/\q=false/\r=false/\w=false/\c=false/\m=false/\o.q.w=0/\o.q.t=0)
def cV (o:OrG):Bool:=
 if o.k=1 then cF o 0 o.a o.b o.f o.bS o.bI o.bQ o.bR o.bW o.bC o.bM else
 if o.k=2 then cF o 0 o.a o.b o.f o.bS false o.bQ o.bR o.bW o.bC o.bM else
 if o.k=3 then cF o 0 0 0 false o.bS o.bI o.bQ o.bR o.bW o.bC o.bM else
 if o.k=4 then cF o o.n 0 0 o.f o.bS o.bI o.bQ o.bR o.bW o.bC o.bM else
 if o.k=5 then cF o o.n 0 o.b o.f o.bS o.bI o.bQ o.bR o.bW o.bC o.bM else
 if o.k=6 then cF o o.n o.a o.b o.f o.bS o.bI o.bQ false o.bW o.bC o.bM else
 if o.k=7 then cF o o.n o.a o.b o.f o.bS o.bI o.bQ o.bR false o.bC o.bM else
 if o.k=8 then cF o o.n o.a o.b o.f o.bS o.bI o.bQ o.bR o.bW false o.bM else
 if o.k=9 then cF o o.n o.a o.b o.f o.bS o.bI o.bQ o.bR o.bW o.bC false else
 if o.k=10 then cF o o.n 0 o.b false o.bS o.bI o.bQ o.bR o.bW o.bC o.bM else
 if o.k=11 then cF o 0 o.a o.b o.f o.bS o.bI o.bQ o.bR o.bW o.bC o.bM else
 if o.k=12 then cF o o.n 0 o.b o.f false false o.bQ o.bR o.bW o.bC o.bM else
 if o.k=13 then cF o o.n o.a o.b o.f false false false o.bR o.bW o.bC o.bM else
 if o.k=14 then cF o 0 0 o.b o.f false false o.bQ o.bR o.bW o.bC o.bM else
 false
def cQ (o:OrG):Int:=if cV o then 0 else 2
theorem aDd (o:OrG) (hq:(o.q.nk:Int)<2 ^ 61):Pure Tryz.prog 34 [o.sv] (· =.i (cQ o)):=by
 refine π Tryz.func34 ?_;simp[go_sem];refine aE aD κ κ ?_;simp[go_sem];refine jM (S:=[(1,.ptr 0 0 34 0),(2,.i 0),(3,.ptr 1 0 3 0),(4,.b o.f),(5,.b o.bS),(6,.b o.bI),(7,.b o.bQ)]) (φ:=λM nx=>2<=nx/\M 0=some (.box o.cells)/\M 1=some (.box [.i o.n,.i o.a,.i o.b])) ?_ ?_
 ·refine aE aD κ κ ?_;have e1:o.bS=!decide (o.s.toNat=0):=rfl;have e2:o.bI=!(decide (o.x.c.toNat=0)&&decide (o.x.m.toNat=0)):=rfl;by_cases c1:o.q.p=0;rotate_left
  ·have e:o.bQ=true:=by simp[OrG.bQ,c1]
   simp[go_sem,c1,e,e1,e2]
  by_cases c2:o.q.r=0;rotate_left
  ·have e:o.bQ=true:=by simp[OrG.bQ,c2]
   simp[go_sem,c1,c2,e,e1,e2]
  by_cases c3:o.q.l=0;rotate_left
  ·have e:o.bQ=true:=by simp[OrG.bQ,c3]
   simp[go_sem,c1,c2,c3,e,e1,e2]
  have e:o.bQ=decide (0<o.q.nk):=by simp[OrG.bQ,c1,c2,c3]
  simp[go_sem,c1,c2,c3,e,e1,e2]
 intro J M nx ⟨h0,h1,h2⟩;simp[go_sem,h1,h2];refine jM (S:=[(1,.ptr 0 0 34 0),(2,.i 0),(3,.ptr 1 0 3 0),(4,.b o.f),(5,.b o.bS),(6,.b o.bI),(7,.b o.bQ),(8,.b o.bR),(9,.b o.bW),(10,.b o.bC),(11,.b o.bM)]) (φ:=λM nx=>2<=nx/\M 0=some (.box o.cells)/\M 1=some (.box [.i o.n,.i o.a,.i o.b])) ?_ ?_
 ·refine aE aD κ κ ?_;simp[go_sem,h1,h2];exact⟨ω,⟨by simp[OrG.bR,Bool.not_and],by simp[OrG.bW,Bool.not_and],by simp[OrG.bC,Bool.not_and],by simp[OrG.bM,Bool.not_and]⟩,h0⟩
 intro J M nx ⟨h0,h1,h2⟩;rw[aW0,bAx];generalize hB:([It.code _]:List It)=kk;have key:∀(E:Env) (M:Mem) (nx:Nat) (f s i q r w c m:Bool) (n a b:Int),E 1=.ptr 0 0 34 0->E 3=.ptr 1 0 3 0->E 4=.b f->E 5=.b s->E 6=.b i->E 7=.b q->E 8=.b r->E 9=.b w->E 10=.b c->E 11=.b m->
  M 0=some (.box o.cells)->M 1=some (.box [.i n,.i a,.i b])->cQ o=(if cF o n a b f s i q r w c m then 0 else 2)->GK Tryz.prog T ⟨145,0,fS⟩ kk (uR T [ResultVar.tmp 2] λs M=>gZ M s λx=>x=.i (cQ o)) .normal E M nx:=by
  subst hB;intro E M nx f s i q r w c m n a b e1 e3 e4 e5 e6 e7 e8 e9 e10 e11 m0 m1 he;rw[he];by_cases hz:(n=0/\a=0/\b=0/\f=false/\s=false/\i=false/\q=false/\r=false/\w=false/\c=false/\m=false/\o.q.w=0/\o.q.t=0)
  ·have hZ:cF o n a b f s i q r w c m=true:=decide_eq_true hz;rw[hZ];obtain⟨rfl,rfl,rfl,rfl,rfl,rfl,rfl,rfl,rfl,rfl,rfl,z1,z2⟩:=hz;simp[go_sem,e1,e3,e4,e5,e6,e7,e8,e9,e10,e11,m0,m1,z1,z2]
  ·have hZ:cF o n a b f s i q r w c m=false:=decide_eq_false hz;rw[hZ];simp[go_sem,e1,e3,e4,e5,e6,e7,e8,e9,e10,e11,m0,m1];exact λa1 a2 a3 a4 a5 a6 a7 a8 a9 a10 a11 a12 a13=>hz ⟨a1,a2,a3,a4,a5,a6,a7,a8,a9,a10,a11,a12,a13⟩
 by_cases k1:o.k=1
 ·have he:cQ o=if cF o 0 o.a o.b o.f o.bS o.bI o.bQ o.bR o.bW o.bC o.bM then 0 else 2:=by simp[cQ,cV,k1]
  simp[go_sem,h1,h2,k1];exact key _ _ _ o.f o.bS o.bI o.bQ o.bR o.bW o.bC o.bM 0 o.a o.b ζ ζ ζ ζ ζ ζ ζ ζ ζ ζ (by simp[go_sem,h1]) (by simp[go_sem,h2]) he
 by_cases k2:o.k=2
 ·have he:cQ o=if cF o 0 o.a o.b o.f o.bS false o.bQ o.bR o.bW o.bC o.bM then 0 else 2:=by simp[cQ,cV,k2]
  simp[go_sem,h1,h2,k2];exact key _ _ _ o.f o.bS false o.bQ o.bR o.bW o.bC o.bM 0 o.a o.b ζ ζ ζ ζ ζ ζ ζ ζ ζ ζ (by simp[go_sem,h1]) (by simp[go_sem,h2]) he
 by_cases k3:o.k=3
 ·have he:cQ o=if cF o 0 0 0 false o.bS o.bI o.bQ o.bR o.bW o.bC o.bM then 0 else 2:=by simp[cQ,cV,k3]
  simp[go_sem,h1,h2,k3];exact key _ _ _ false o.bS o.bI o.bQ o.bR o.bW o.bC o.bM 0 0 0 ζ ζ ζ ζ ζ ζ ζ ζ ζ ζ (by simp[go_sem,h1]) (by simp[go_sem,h2]) he
 by_cases k4:o.k=4
 ·have he:cQ o=if cF o o.n 0 0 o.f o.bS o.bI o.bQ o.bR o.bW o.bC o.bM then 0 else 2:=by simp[cQ,cV,k4]
  simp[go_sem,h1,h2,k4];exact key _ _ _ o.f o.bS o.bI o.bQ o.bR o.bW o.bC o.bM o.n 0 0 ζ ζ ζ ζ ζ ζ ζ ζ ζ ζ (by simp[go_sem,h1]) (by simp[go_sem,h2]) he
 by_cases k5:o.k=5
 ·have he:cQ o=if cF o o.n 0 o.b o.f o.bS o.bI o.bQ o.bR o.bW o.bC o.bM then 0 else 2:=by simp[cQ,cV,k5]
  simp[go_sem,h1,h2,k5];exact key _ _ _ o.f o.bS o.bI o.bQ o.bR o.bW o.bC o.bM o.n 0 o.b ζ ζ ζ ζ ζ ζ ζ ζ ζ ζ (by simp[go_sem,h1]) (by simp[go_sem,h2]) he
 by_cases k6:o.k=6
 ·have he:cQ o=if cF o o.n o.a o.b o.f o.bS o.bI o.bQ false o.bW o.bC o.bM then 0 else 2:=by simp[cQ,cV,k6]
  simp[go_sem,h1,h2,k6];exact key _ _ _ o.f o.bS o.bI o.bQ false o.bW o.bC o.bM o.n o.a o.b ζ ζ ζ ζ ζ ζ ζ ζ ζ ζ (by simp[go_sem,h1]) (by simp[go_sem,h2]) he
 by_cases k7:o.k=7
 ·have he:cQ o=if cF o o.n o.a o.b o.f o.bS o.bI o.bQ o.bR false o.bC o.bM then 0 else 2:=by simp[cQ,cV,k7]
  simp[go_sem,h1,h2,k7];exact key _ _ _ o.f o.bS o.bI o.bQ o.bR false o.bC o.bM o.n o.a o.b ζ ζ ζ ζ ζ ζ ζ ζ ζ ζ (by simp[go_sem,h1]) (by simp[go_sem,h2]) he
 by_cases k8:o.k=8
 ·have he:cQ o=if cF o o.n o.a o.b o.f o.bS o.bI o.bQ o.bR o.bW false o.bM then 0 else 2:=by simp[cQ,cV,k8]
  simp[go_sem,h1,h2,k8];exact key _ _ _ o.f o.bS o.bI o.bQ o.bR o.bW false o.bM o.n o.a o.b ζ ζ ζ ζ ζ ζ ζ ζ ζ ζ (by simp[go_sem,h1]) (by simp[go_sem,h2]) he
 by_cases k9:o.k=9
 ·have he:cQ o=if cF o o.n o.a o.b o.f o.bS o.bI o.bQ o.bR o.bW o.bC false then 0 else 2:=by simp[cQ,cV,k9]
  simp[go_sem,h1,h2,k9];exact key _ _ _ o.f o.bS o.bI o.bQ o.bR o.bW o.bC false o.n o.a o.b ζ ζ ζ ζ ζ ζ ζ ζ ζ ζ (by simp[go_sem,h1]) (by simp[go_sem,h2]) he
 by_cases k10:o.k=10
 ·have he:cQ o=if cF o o.n 0 o.b false o.bS o.bI o.bQ o.bR o.bW o.bC o.bM then 0 else 2:=by simp[cQ,cV,k10]
  simp[go_sem,h1,h2,k10];exact key _ _ _ false o.bS o.bI o.bQ o.bR o.bW o.bC o.bM o.n 0 o.b ζ ζ ζ ζ ζ ζ ζ ζ ζ ζ (by simp[go_sem,h1]) (by simp[go_sem,h2]) he
 by_cases k11:o.k=11
 ·have he:cQ o=if cF o 0 o.a o.b o.f o.bS o.bI o.bQ o.bR o.bW o.bC o.bM then 0 else 2:=by simp[cQ,cV,k11]
  simp[go_sem,h1,h2,k11];exact key _ _ _ o.f o.bS o.bI o.bQ o.bR o.bW o.bC o.bM 0 o.a o.b ζ ζ ζ ζ ζ ζ ζ ζ ζ ζ (by simp[go_sem,h1]) (by simp[go_sem,h2]) he
 by_cases k12:o.k=12
 ·have he:cQ o=if cF o o.n 0 o.b o.f false false o.bQ o.bR o.bW o.bC o.bM then 0 else 2:=by simp[cQ,cV,k12]
  simp[go_sem,h1,h2,k12];exact key _ _ _ o.f false false o.bQ o.bR o.bW o.bC o.bM o.n 0 o.b ζ ζ ζ ζ ζ ζ ζ ζ ζ ζ (by simp[go_sem,h1]) (by simp[go_sem,h2]) he
 by_cases k13:o.k=13
 ·have he:cQ o=if cF o o.n o.a o.b o.f false false false o.bR o.bW o.bC o.bM then 0 else 2:=by simp[cQ,cV,k13]
  simp[go_sem,h1,h2,k13];exact key _ _ _ o.f false false false o.bR o.bW o.bC o.bM o.n o.a o.b ζ ζ ζ ζ ζ ζ ζ ζ ζ ζ (by simp[go_sem,h1]) (by simp[go_sem,h2]) he
 by_cases k14:o.k=14
 ·have he:cQ o=if cF o 0 0 o.b o.f false false o.bQ o.bR o.bW o.bC o.bM then 0 else 2:=by simp[cQ,cV,k14]
  simp[go_sem,h1,h2,k14];exact key _ _ _ o.f false false o.bQ o.bR o.bW o.bC o.bM 0 0 o.b ζ ζ ζ ζ ζ ζ ζ ζ ζ ζ (by simp[go_sem,h1]) (by simp[go_sem,h2]) he
 subst hB;have he:cQ o=2:=by simp[cQ,cV,k1,k2,k3,k4,k5,k6,k7,k8,k9,k10,k11,k12,k13,k14]
 simp[go_sem,h1,h2,k1,k2,k3,k4,k5,k6,k7,k8,k9,k10,k11,k12,k13,k14,he]
abbrev wk (f:FuncId):SV:=.fn (.func f) [.ptr 0 0 17 0] []
abbrev bGx:List SV:=[.r (.v .nilFunc),wk 241,wk 242,wk 243,wk 244,wk 245,wk 246,wk 247,wk 248,wk 249,wk 250,wk 251,wk 252,wk 253,wk 254]
theorem aRd (x:SvG):OwnS Tryz.prog 1 147 [.box x.cells] [.ptr 0 0 17 0] (.agg bGx) [.box x.cells]:=by
 refine bE aD Tryz.func147 rfl κ ν rfl rfl 1 (Nat.le_refl _) ?_;simp[go_sem];exact⟨[0],⟨rfl,trivial⟩,τ,λN=>⟨ζ,ζ⟩⟩
structure OrG.OK (o:OrG):Prop where
 k1:1<=o.k
 k2:o.k<=14
 b:o.rl.byte
 q:(o.q.nk:Int)<2 ^ 61
theorem bA5 (x:SvG) (o:OrG) (hx:x.OK) (hv:x.valid=true) (ho:o.OK):OwnS Tryz.prog 1 66 [.box x.cells] [.ptr 0 0 17 0,o.sv] (nX x o).sv [.box (stX x o).cells]:=by
 refine bE aD Tryz.func66 rfl κ ν rfl rfl 1 (Nat.le_refl _) ?_;simp[go_sem];refine aP (t:=(.take 0 (.take 2 (.take 3 (.take 5 (.alt 1 [5,3,2,0] (.take 4 (.alt 6 [4,5,3,2] (.take 7 (.take 8 (.take 9 (.take 10 (.take 11 (.take 12 (.take 13 (.done [13,12,11,10,9,8,7,3,2])))))))) .nil)) .nil)))))) aD κ κ κ (λ_ _ _ _ h=>h) ?_;simp[go_sem];refine aR [0] (aRd x) (Nat.le_refl _) τ rfl ⟨rfl,trivial⟩ ?_;have h1:=ho.k1;have h2:=ho.k2;rcases(ω:o.k=1\/o.k=2\/o.k=3\/o.k=4\/o.k=5\/o.k=6\/o.k=7\/o.k=8\/o.k=9\/o.k=10\/o.k=11\/o.k=12\/o.k=13\/o.k=14) with hk | hk | hk | hk | hk | hk | hk | hk | hk | hk | hk | hk | hk | hk
 ·have hd:=aN0 x o hv;have e:doM x o=oI x o:=by simp[doM,hk]
  unfold gF at hd;rw[<- e] at hd;obtain⟨y,hy⟩:∃y,doM x o=y:=⟨_,rfl⟩;unfold stX nX;unfold OrG.sv OrG.cells at hd;rw[hy,hk] at hd;rw[hy];simp[go_sem,hk];refine aR [0] hd (Nat.le_refl _) τ rfl ⟨rfl,trivial⟩ ?_;by_cases he:y.2.e=0
  ·simp[go_sem,he];exact⟨hk.symm,[0],⟨rfl,trivial⟩,τ,λN=>⟨by simp[go_sem,he],ζ⟩⟩
  ·simp[go_sem,he,bad];exact⟨hk.symm,[0],⟨rfl,trivial⟩,τ,λN=>⟨ζ,ζ⟩⟩
 ·have hd:=aKc x o hx;have e:doM x o=iS x o:=by simp[doM,hk]
  unfold gF at hd;rw[<- e] at hd;obtain⟨y,hy⟩:∃y,doM x o=y:=⟨_,rfl⟩;unfold stX nX;unfold OrG.sv OrG.cells at hd;rw[hy,hk] at hd;rw[hy];simp[go_sem,hk];refine aR [0] hd (Nat.le_refl _) τ rfl ⟨rfl,trivial⟩ ?_;by_cases he:y.2.e=0
  ·simp[go_sem,he];exact⟨hk.symm,[0],⟨rfl,trivial⟩,τ,λN=>⟨by simp[go_sem,he],ζ⟩⟩
  ·simp[go_sem,he,bad];exact⟨hk.symm,[0],⟨rfl,trivial⟩,τ,λN=>⟨ζ,ζ⟩⟩
 ·have hd:=aNg x o hx;have e:doM x o=oC x o:=by simp[doM,hk]
  unfold gF at hd;rw[<- e] at hd;obtain⟨y,hy⟩:∃y,doM x o=y:=⟨_,rfl⟩;unfold stX nX;unfold OrG.sv OrG.cells at hd;rw[hy,hk] at hd;rw[hy];simp[go_sem,hk];refine aR [0] hd (Nat.le_refl _) τ rfl ⟨rfl,trivial⟩ ?_;by_cases he:y.2.e=0
  ·simp[go_sem,he];exact⟨hk.symm,[0],⟨rfl,trivial⟩,τ,λN=>⟨by simp[go_sem,he],ζ⟩⟩
  ·simp[go_sem,he,bad];exact⟨hk.symm,[0],⟨rfl,trivial⟩,τ,λN=>⟨ζ,ζ⟩⟩
 ·have hd:=aV8 x o hx;have e:doM x o=wdM x o:=by simp[doM,hk]
  unfold gF at hd;rw[<- e] at hd;obtain⟨y,hy⟩:∃y,doM x o=y:=⟨_,rfl⟩;unfold stX nX;unfold OrG.sv OrG.cells at hd;rw[hy,hk] at hd;rw[hy];simp[go_sem,hk];refine aR [0] hd (Nat.le_refl _) τ rfl ⟨rfl,trivial⟩ ?_;by_cases he:y.2.e=0
  ·simp[go_sem,he];exact⟨hk.symm,[0],⟨rfl,trivial⟩,τ,λN=>⟨by simp[go_sem,he],ζ⟩⟩
  ·simp[go_sem,he,bad];exact⟨hk.symm,[0],⟨rfl,trivial⟩,τ,λN=>⟨ζ,ζ⟩⟩
 ·have hd:=aPq x o hx hv;have e:doM x o=zO x o:=by simp[doM,hk]
  unfold gF at hd;rw[<- e] at hd;obtain⟨y,hy⟩:∃y,doM x o=y:=⟨_,rfl⟩;unfold stX nX;unfold OrG.sv OrG.cells at hd;rw[hy,hk] at hd;rw[hy];simp[go_sem,hk];refine aR [0] hd (Nat.le_refl _) τ rfl ⟨rfl,trivial⟩ ?_;by_cases he:y.2.e=0
  ·simp[go_sem,he];exact⟨hk.symm,[0],⟨rfl,trivial⟩,τ,λN=>⟨by simp[go_sem,he],ζ⟩⟩
  ·simp[go_sem,he,bad];exact⟨hk.symm,[0],⟨rfl,trivial⟩,τ,λN=>⟨ζ,ζ⟩⟩
 ·have hd:=aNm x o hx ho.b;have e:doM x o=nZ x o:=by simp[doM,hk]
  unfold gF at hd;rw[<- e] at hd;obtain⟨y,hy⟩:∃y,doM x o=y:=⟨_,rfl⟩;unfold stX nX;unfold OrG.sv OrG.cells at hd;rw[hy,hk] at hd;rw[hy];simp[go_sem,hk];refine aR [0] hd (Nat.le_refl _) τ rfl ⟨rfl,trivial⟩ ?_;by_cases he:y.2.e=0
  ·simp[go_sem,he];exact⟨hk.symm,[0],⟨rfl,trivial⟩,τ,λN=>⟨by simp[go_sem,he],ζ⟩⟩
  ·simp[go_sem,he,bad];exact⟨hk.symm,[0],⟨rfl,trivial⟩,τ,λN=>⟨ζ,ζ⟩⟩
 ·have hd:=aRl x o hx;have e:doM x o=vY x o:=by simp[doM,hk]
  unfold gF at hd;rw[<- e] at hd;obtain⟨y,hy⟩:∃y,doM x o=y:=⟨_,rfl⟩;unfold stX nX;unfold OrG.sv OrG.cells at hd;rw[hy,hk] at hd;rw[hy];simp[go_sem,hk];refine aR [0] hd (Nat.le_refl _) τ rfl ⟨rfl,trivial⟩ ?_;by_cases he:y.2.e=0
  ·simp[go_sem,he];exact⟨hk.symm,[0],⟨rfl,trivial⟩,τ,λN=>⟨by simp[go_sem,he],ζ⟩⟩
  ·simp[go_sem,he,bad];exact⟨hk.symm,[0],⟨rfl,trivial⟩,τ,λN=>⟨ζ,ζ⟩⟩
 ·have hd:=aPw x o hx;have e:doM x o=wC x o:=by simp[doM,hk]
  unfold gF at hd;rw[<- e] at hd;obtain⟨y,hy⟩:∃y,doM x o=y:=⟨_,rfl⟩;unfold stX nX;unfold OrG.sv OrG.cells at hd;rw[hy,hk] at hd;rw[hy];simp[go_sem,hk];refine aR [0] hd (Nat.le_refl _) τ rfl ⟨rfl,trivial⟩ ?_;by_cases he:y.2.e=0
  ·simp[go_sem,he];exact⟨hk.symm,[0],⟨rfl,trivial⟩,τ,λN=>⟨by simp[go_sem,he],ζ⟩⟩
  ·simp[go_sem,he,bad];exact⟨hk.symm,[0],⟨rfl,trivial⟩,τ,λN=>⟨ζ,ζ⟩⟩
 ·have hd:=aPy x o hx;have e:doM x o=putM x o:=by simp[doM,hk]
  unfold gF at hd;rw[<- e] at hd;obtain⟨y,hy⟩:∃y,doM x o=y:=⟨_,rfl⟩;unfold stX nX;unfold OrG.sv OrG.cells at hd;rw[hy,hk] at hd;rw[hy];simp[go_sem,hk];refine aR [0] hd (Nat.le_refl _) τ rfl ⟨rfl,trivial⟩ ?_;by_cases he:y.2.e=0
  ·simp[go_sem,he];exact⟨hk.symm,[0],⟨rfl,trivial⟩,τ,λN=>⟨by simp[go_sem,he],ζ⟩⟩
  ·simp[go_sem,he,bad];exact⟨hk.symm,[0],⟨rfl,trivial⟩,τ,λN=>⟨ζ,ζ⟩⟩
 ·have hd:=aP8 x o hx;have e:doM x o=zR x o:=by simp[doM,hk]
  unfold gF at hd;rw[<- e] at hd;obtain⟨y,hy⟩:∃y,doM x o=y:=⟨_,rfl⟩;unfold stX nX;unfold OrG.sv OrG.cells at hd;rw[hy,hk] at hd;rw[hy];simp[go_sem,hk];refine aR [0] hd (Nat.le_refl _) τ rfl ⟨rfl,trivial⟩ ?_;by_cases he:y.2.e=0
  ·simp[go_sem,he];exact⟨hk.symm,[0],⟨rfl,trivial⟩,τ,λN=>⟨by simp[go_sem,he],ζ⟩⟩
  ·simp[go_sem,he,bad];exact⟨hk.symm,[0],⟨rfl,trivial⟩,τ,λN=>⟨ζ,ζ⟩⟩
 ·have hd:=aQd x o hx hv;have e:doM x o=vW x o:=by simp[doM,hk]
  unfold gF at hd;rw[<- e] at hd;obtain⟨y,hy⟩:∃y,doM x o=y:=⟨_,rfl⟩;unfold stX nX;unfold OrG.sv OrG.cells at hd;rw[hy,hk] at hd;rw[hy];simp[go_sem,hk];refine aR [0] hd (Nat.le_refl _) τ rfl ⟨rfl,trivial⟩ ?_;by_cases he:y.2.e=0
  ·simp[go_sem,he];exact⟨hk.symm,[0],⟨rfl,trivial⟩,τ,λN=>⟨by simp[go_sem,he],ζ⟩⟩
  ·simp[go_sem,he,bad];exact⟨hk.symm,[0],⟨rfl,trivial⟩,τ,λN=>⟨ζ,ζ⟩⟩
 ·have hd:=aR2 x o hx hv;have e:doM x o=aAq x o:=by simp[doM,hk]
  unfold gF at hd;rw[<- e] at hd;obtain⟨y,hy⟩:∃y,doM x o=y:=⟨_,rfl⟩;unfold stX nX;unfold OrG.sv OrG.cells at hd;rw[hy,hk] at hd;rw[hy];simp[go_sem,hk];refine aR [0] hd (Nat.le_refl _) τ rfl ⟨rfl,trivial⟩ ?_;by_cases he:y.2.e=0
  ·simp[go_sem,he];exact⟨hk.symm,[0],⟨rfl,trivial⟩,τ,λN=>⟨by simp[go_sem,he],ζ⟩⟩
  ·simp[go_sem,he,bad];exact⟨hk.symm,[0],⟨rfl,trivial⟩,τ,λN=>⟨ζ,ζ⟩⟩
 ·have hd:=aN7 x o hx hv ho.q;have e:doM x o=lC x o:=by simp[doM,hk]
  unfold gF at hd;rw[<- e] at hd;obtain⟨y,hy⟩:∃y,doM x o=y:=⟨_,rfl⟩;unfold stX nX;unfold OrG.sv OrG.cells at hd;rw[hy,hk] at hd;rw[hy];simp[go_sem,hk];refine aR [0] hd (Nat.le_refl _) τ rfl ⟨rfl,trivial⟩ ?_;by_cases he:y.2.e=0
  ·simp[go_sem,he];exact⟨hk.symm,[0],⟨rfl,trivial⟩,τ,λN=>⟨by simp[go_sem,he],ζ⟩⟩
  ·simp[go_sem,he,bad];exact⟨hk.symm,[0],⟨rfl,trivial⟩,τ,λN=>⟨ζ,ζ⟩⟩
 ·have hd:=aS7 x o hx hv;have e:doM x o=wB x o:=by simp[doM,hk]
  unfold gF at hd;rw[<- e] at hd;obtain⟨y,hy⟩:∃y,doM x o=y:=⟨_,rfl⟩;unfold stX nX;unfold OrG.sv OrG.cells at hd;rw[hy,hk] at hd;rw[hy];simp[go_sem,hk];refine aR [0] hd (Nat.le_refl _) τ rfl ⟨rfl,trivial⟩ ?_;by_cases he:y.2.e=0
  ·simp[go_sem,he];exact⟨hk.symm,[0],⟨rfl,trivial⟩,τ,λN=>⟨by simp[go_sem,he],ζ⟩⟩
  ·simp[go_sem,he,bad];exact⟨hk.symm,[0],⟨rfl,trivial⟩,τ,λN=>⟨ζ,ζ⟩⟩
theorem xC {o:OrG} (h:cQ o=0):1<=o.k/\o.k<=14:=by
 by_cases hk:1<=o.k/\o.k<=14
 ·exact hk
 have e:cV o=false:=by
  unfold cV;rw[if_neg (ω:¬o.k=1),if_neg (ω:¬o.k=2),if_neg (ω:¬o.k=3),if_neg (ω:¬o.k=4),if_neg (ω:¬o.k=5),if_neg (ω:¬o.k=6),if_neg (ω:¬o.k=7),if_neg (ω:¬o.k=8),if_neg (ω:¬o.k=9),if_neg (ω:¬o.k=10),if_neg (ω:¬o.k=11),if_neg (ω:¬o.k=12),if_neg (ω:¬o.k=13),if_neg (ω:¬o.k=14)]
 unfold cQ at h;rw[e] at h;simp at h
structure OrG.Sm (o:OrG):Prop where
 b:o.rl.byte
 q:(o.q.nk:Int)<2 ^ 61
end Go.Gx.Sr
namespace Go.Gx
open Go.RowKit Go.Proofs Go.Proofs.YtncccnmmjfapnaaGreat
theorem wX {α β:Type} (f:α->β) (k:Nat) (v:α) (x:Nat->α):(λi=>f (ins k v x i))=ins k (f v) λi=>f (x i):=by
 funext i;unfold ins;split
 ·rfl
 ·split <;> rfl
theorem xB {α β:Type} (f:α->β) (k:Nat) (x:Nat->α):(λi=>f (del k x i))=del k λi=>f (x i):=by
 funext i;unfold del;split <;> rfl
theorem sG {n:Nat} {v:Nat->VtG}:gB n v=true↔(n=1\/n=2)/\(∀i,i<n->0<=(v i).o/\(v i).o<=7)/\(n=2->¬(v 0).o=(v 1).o/\¬(v 0).s=(v 1).s):=by
 simp only [gB,Bool.and_eq_true,Bool.or_eq_true,decide_eq_true_eq,Bool.not_eq_true',decide_eq_false_iff_not,List.all_eq_true,List.mem_range,btw];constructor
 ·rintro⟨⟨⟨h1,h2⟩,h3⟩,h4⟩;refine⟨ω,h3,λe=>?_⟩;rcases h4 with h4 | h4
  ·omega
  ·exact h4
 ·rintro⟨h1,h3,h4⟩;refine⟨⟨⟨ω,ω⟩,h3⟩,?_⟩;rcases h1 with h1 | h1
  ·exact .inl h1
  ·exact .inr (h4 h1)
theorem tJ {g:EG} {k:Nat} {p q:Int} {s:Bool} (hk:k<=g.nl) {x y:Int}:(g.addL k ⟨p,q,s⟩).adj (g.nl+1) x y↔g.adj g.nl x y\/s=true/\(p=x/\q=y\/q=x/\p=y):=by
 constructor
 ·rintro⟨j,h1,h2,h3⟩;simp only [EG.addL] at h2 h3;by_cases a1:j<k
  ·rw[if_pos a1] at h2 h3;exact .inl ⟨j,ω,h2,h3⟩
  by_cases a2:j=k
  ·rw[if_neg a1,if_pos a2] at h2 h3;exact .inr ⟨h2,h3⟩
  ·rw[if_neg a1,if_neg a2] at h2 h3;exact .inl ⟨j - 1,ω,h2,h3⟩
 ·rintro(⟨j,h1,h2,h3⟩ | ⟨h2,h3⟩)
  ·by_cases a1:j<k
   ·refine⟨j,ω,?_,?_⟩ <;> simp only [EG.addL,if_pos a1]
    ·exact h2
    ·exact h3
   ·refine⟨j+1,ω,?_,?_⟩ <;> simp only [EG.addL,if_neg (show ¬j+1<k by omega),if_neg (show ¬j+1=k by omega),Nat.add_sub_cancel]
    ·exact h2
    ·exact h3
  ·refine⟨k,ω,?_,?_⟩ <;> simp only [EG.addL,if_neg (Nat.lt_irrefl k),if_true]
   ·exact h2
   ·exact h3
theorem aG7 {g:EG} {k:Nat} {p q:Int} {s:Bool} (hk:k<=g.nl) {x y:Int} :
 (g.addL k ⟨p,q,s⟩).Con (g.nl+1) x y↔g.Con g.nl x y\/s=true/\(g.Con g.nl x p/\g.Con g.nl q y\/g.Con g.nl x q/\g.Con g.nl p y):=by
 constructor
 ·intro h
  induction h with
  | refl=>exact .inl (.refl _)
  | step _ a ih=>
    rcases(tJ hk).1 a with a | ⟨hs,a⟩
    ·rcases ih with ih | ⟨hs,⟨i1,i2⟩ | ⟨i1,i2⟩⟩
     ·exact .inl (.step ih a)
     ·exact .inr ⟨hs,.inl ⟨i1,.step i2 a⟩⟩
     ·exact .inr ⟨hs,.inr ⟨i1,.step i2 a⟩⟩
    ·rcases a with ⟨rfl,rfl⟩ | ⟨rfl,rfl⟩
     ·rcases ih with ih | ⟨_,⟨i1,i2⟩ | ⟨i1,i2⟩⟩
      ·exact .inr ⟨hs,.inl ⟨ih,.refl _⟩⟩
      ·exact .inr ⟨hs,.inl ⟨i1,.refl _⟩⟩
      ·exact .inl i1
     ·rcases ih with ih | ⟨_,⟨i1,i2⟩ | ⟨i1,i2⟩⟩
      ·exact .inr ⟨hs,.inr ⟨ih,.refl _⟩⟩
      ·exact .inl i1
      ·exact .inr ⟨hs,.inr ⟨i1,.refl _⟩⟩
 ·have up:∀{x y},g.Con g.nl x y->(g.addL k ⟨p,q,s⟩).Con (g.nl+1) x y:=λh=>h.map λx y a=>(tJ hk).2 (.inl a);rintro(h | ⟨hs,⟨h1,h2⟩ | ⟨h1,h2⟩⟩)
  ·exact up h
  ·exact(EG.Con.step (up h1) ((tJ hk).2 (.inr ⟨hs,.inl ⟨rfl,rfl⟩⟩))).trans (up h2)
  ·exact(EG.Con.step (up h1) ((tJ hk).2 (.inr ⟨hs,.inr ⟨rfl,rfl⟩⟩))).trans (up h2)
theorem sD {g h:EG} (hl:g.l=h.l) {n:Nat} {x y:Int}:g.Con n x y↔h.Con n x y:=
 ⟨λk=>k.map λx y ⟨j,a⟩=>⟨j,by rw[<- hl];exact a⟩,λk=>k.map λx y ⟨j,a⟩=>⟨j,by rw[hl];exact a⟩⟩
theorem aNw {g:EG} {k:Nat} {x y:Int} (h:(g.dropL k).Con (g.nl - 1) x y):g.Con g.nl x y:=
 h.map λx y ⟨j,h1,h2,h3⟩=>by
  simp only [EG.dropL] at h2 h3;by_cases a1:j<k
  ·rw[if_pos a1] at h2 h3;exact⟨j,ω,h2,h3⟩
  ·rw[if_neg a1] at h2 h3;exact⟨j+1,ω,h2,h3⟩
theorem EG.voteE_zero {g:EG} {o a b:Int} {s:Bool} (h:g.voteE o a b s=0):g.valid=true/\(0<=o/\o<=7)/\¬a=b/\g.th a=true/\g.th b=true/\g.lin (min a b) (max a b)=false/\
 (g.cin (min a b) (max a b)=false/\¬g.nc=40\/g.cin (min a b) (max a b)=true/\(g.c (g.cat (min a b) (max a b))).has o=false/\
   ((g.c (g.cat (min a b) (max a b))).says s=false\/(g.c (g.cat (min a b) (max a b))).says s=true/\g.clash (min a b) (max a b) s=false)):=by
 unfold EG.voteE at h;split at h
 ·cases h
 rename_i h1;split at h
 ·cases h
 rename_i h2;split at h
 ·cases h
 rename_i h3;split at h
 ·cases h
 rename_i h4;have h3a:¬a=b:=λe=>h3 (.inl e);have h3b:g.th a=true:=by
  cases e:g.th a with
  | true=>rfl
  | false=>exact absurd (.inr (.inl e)) h3
 have h3c:g.th b=true:=by
  cases e:g.th b with
  | true=>rfl
  | false=>exact absurd (.inr (.inr e)) h3
 have h2:0<=o/\o<=7:=ω;refine⟨by simpa using h1,h2,h3a,h3b,h3c,by simpa using h4,?_⟩;split at h
 ·rename_i h5;split at h
  ·cases h
  ·rename_i h6;exact .inl ⟨h5,h6⟩
 rename_i h5;split at h
 ·cases h
 rename_i h6;refine .inr ⟨by simpa using h5,by simpa using h6,?_⟩;split at h
 ·rename_i h7;exact .inl h7
 rename_i h7;split at h
 ·cases h
 rename_i h8;exact .inr ⟨by simpa using h7,by simpa using h8⟩
theorem EG.ap_no {g:EG} {p q:Int} (h:¬0<=g.ap p q):∀j,j<g.nl->(g.l j).s=false->¬(min (g.q (g.l j).a) (g.q (g.l j).b)=min (g.q p) (g.q q)/\max (g.q (g.l j).a) (g.q (g.l j).b)=max (g.q p) (g.q q)):=λj hj hs he=>by
 unfold EG.ap at h;rcases uY (g.apB p q) g.nl with ⟨_,h2⟩ | ⟨i,_,_,_,h2⟩
 ·have:=h2 j hj;simp[EG.apB,hs,he.1,he.2] at this
 ·rw[h2] at h;omega
theorem aV9 {g:EG} {a b:Int} (ha:g.th a=true) (hb:g.th b=true):g.th (min a b)=true/\g.th (max a b)=true:=by
 rcases Int.le_total a b with h | h
 ·rw[Int.min_eq_left h,Int.max_eq_right h];exact⟨ha,hb⟩
 ·rw[Int.min_eq_right h,Int.max_eq_left h];exact⟨hb,ha⟩
theorem EG.Val.addC {g:EG} (h:g.Val) {p q:Int} (hp:g.th p=true) (hq:g.th q=true) (hpq:p<q) (hl:g.lin p q=false) (hc:g.cin p q=false) (hn:g.nc<40) {nv:Nat} {v:Nat->VtG} (hv:gB nv v=true) :
 (g.addC (g.cat p q) ⟨p,q,nv,v⟩).Val:=by
 have hb:=aKs h.cs hc;have hk:g.cat p q<=g.nc:=g.cat_le p q;have e1:(λi=>((g.addC (g.cat p q) ⟨p,q,nv,v⟩).c i).a)=ins (g.cat p q) p λi=>(g.c i).a:=wX CsG.a _ _ _;have e2:(λi=>((g.addC (g.cat p q) ⟨p,q,nv,v⟩).c i).b)=ins (g.cat p q) q λi=>(g.c i).b:=wX CsG.b _ _ _;have el:∀(Q:CsG->Prop),Q ⟨p,q,nv,v⟩->(∀i,i<g.nc->Q (g.c i))->∀i,i<g.nc+1->Q ((g.addC (g.cat p q) ⟨p,q,nv,v⟩).c i):=λQ h0 h1 i hi=>by
  simp only [EG.addC];split
  ·exact h1 i ω
  ·split
   ·exact h0
   ·exact h1 (i - 1) ω
 refine⟨h.nr,hn,h.qu,h.ls,h.lp,?_,el (λc=>g.th c.a=true/\g.th c.b=true/\c.a<c.b) ⟨hp,hq,hpq⟩ h.cp,λi j hi hj=>?_,el (λc=>gB c.nv c.v=true) hv h.cv,λi hi hs hcn=>h.ld i hi hs ((sD (g:=g.addC (g.cat p q) ⟨p,q,nv,v⟩) (h:=g) rfl).1 hcn)⟩
 ·rw[e1,e2];exact aG3 h.cs hk hb.1 hb.2
 ·refine el (λc=>¬((g.l j).a=c.a/\(g.l j).b=c.b)) (λhe=>?_) (λi hi=>h.cl i j hi hj) i hi;have:g.lin p q=true:=(kX (x:=λi=>(g.l i).a) (y:=λi=>(g.l i).b) h.ls).2 ⟨j,hj,he.1,he.2⟩;rw[hl] at this;cases this
theorem EG.Val.addV {g:EG} (h:g.Val) {k:Nat} (hk:k<g.nc) {o:Int} {s:Bool} (ho:0<=o/\o<=7) (hh:(g.c k).has o=false) (hs:(g.c k).says s=false):(g.addV k ⟨o,s⟩).Val:=by
 have ea:∀i,((g.addV k ⟨o,s⟩).c i).a=(g.c i).a:=λi=>by
  simp only [EG.addV];split
  ·rename_i e;rw[e];rfl
  ·rfl
 have eb:∀i,((g.addV k ⟨o,s⟩).c i).b=(g.c i).b:=λi=>by
  simp only [EG.addV];split
  ·rename_i e;rw[e];rfl
  ·rfl
 refine⟨h.nr,h.nc,h.qu,h.ls,h.lp,?_,λi hi=>?_,λi j hi hj=>?_,λi hi=>?_,λi hi hs hcn=>h.ld i hi hs ((sD (g:=g.addV k ⟨o,s⟩) (h:=g) rfl).1 hcn)⟩
 ·simp only [ea,eb];exact h.cs
 ·rw[ea,eb];exact h.cp i hi
 ·rw[ea,eb];exact h.cl i j hi hj
 ·by_cases e:i=k
  ·subst e;have hv:=sG.1 (h.cv i hi);have hno:∀j,j<(g.c i).nv->¬((g.c i).v j).o=o:=λj hj=>by
    have:=List.any_eq_false.1 hh j (List.mem_range.2 hj);simpa using this
   have hns:∀j,j<(g.c i).nv->¬((g.c i).v j).s=s:=λj hj=>by
    have:=List.any_eq_false.1 hs j (List.mem_range.2 hj);simpa using this
   have h1:(g.c i).nv=1:=by
    rcases hv.1 with h1 | h1
    ·exact h1
    ·exfalso;have d:=(hv.2.2 h1).2;have d0:=hns 0 ω;have d1:=hns 1 ω
     cases hx:((g.c i).v 0).s <;> cases hy:((g.c i).v 1).s <;> cases s <;> simp[hx,hy] at d d0 d1
   simp only [EG.addV,if_true];refine sG.2 ⟨.inr (by simp only [CsG.addV];omega),λj hj=>?_,λ_=>?_⟩
   ·simp only [CsG.addV] at hj ⊢;split
    ·exact hv.2.1 j (by assumption)
    ·exact ho
   ·simp only [CsG.addV,h1];exact⟨hno 0 ω,hns 0 ω⟩
  ·simp only [EG.addV,if_neg e];exact h.cv i hi
theorem EG.Val.dropC {g:EG} (h:g.Val) (k:Nat):(g.dropC k).Val:=by
 have el:∀(Q:CsG->Prop),(∀i,i<g.nc->Q (g.c i))->∀i,i<g.nc - 1->Q ((g.dropC k).c i):=λQ h1 i hi=>by
  simp only [EG.dropC];split
  ·exact h1 i ω
  ·exact h1 (i+1) ω
 have e1:(λi=>((g.dropC k).c i).a)=del k λi=>(g.c i).a:=xB CsG.a _ _;have e2:(λi=>((g.dropC k).c i).b)=del k λi=>(g.c i).b:=xB CsG.b _ _;have hn:=h.nc;refine⟨h.nr,by show g.nc - 1<=40;omega,h.qu,h.ls,h.lp,?_,el (λc=>g.th c.a=true/\g.th c.b=true/\c.a<c.b) h.cp,λi j hi hj=>el (λc=>¬((g.l j).a=c.a/\(g.l j).b=c.b)) (λi hi=>h.cl i j hi hj) i hi,
  el (λc=>gB c.nv c.v=true) h.cv,λi hi hs hcn=>h.ld i hi hs ((sD (g:=g.dropC k) (h:=g) rfl).1 hcn)⟩
 rw[e1,e2];exact aE7 h.cs
theorem EG.Val.addL {g:EG} (h:g.Val) {p q:Int} {s:Bool} (hp:g.th p=true) (hq:g.th q=true) (hpq:p<q) (hl:g.lin p q=false) (hc:∀i,i<g.nc->¬((g.c i).a=p/\(g.c i).b=q)) (hx:g.clash p q s=false) :
 (g.addL (g.lat p q) ⟨p,q,s⟩).Val:=by
 have hb:=aKs h.ls hl;have hk:g.lat p q<=g.nl:=g.lat_le p q;have e1:(λi=>((g.addL (g.lat p q) ⟨p,q,s⟩).l i).a)=ins (g.lat p q) p λi=>(g.l i).a:=wX LkG.a _ _ _;have e2:(λi=>((g.addL (g.lat p q) ⟨p,q,s⟩).l i).b)=ins (g.lat p q) q λi=>(g.l i).b:=wX LkG.b _ _ _;have el:∀(Q:LkG->Prop),Q ⟨p,q,s⟩->(∀i,i<g.nl->Q (g.l i))->∀i,i<g.nl+1->Q ((g.addL (g.lat p q) ⟨p,q,s⟩).l i):=λQ h0 h1 i hi=>by
  simp only [EG.addL];split
  ·exact h1 i ω
  ·split
   ·exact h0
   ·exact h1 (i - 1) ω
 refine⟨h.nr,h.nc,h.qu,?_,el (λl=>g.th l.a=true/\g.th l.b=true/\l.a<l.b) ⟨hp,hq,hpq⟩ h.lp,h.cs,h.cp,
  λi j hi hj=>el (λl=>¬(l.a=(g.c i).a/\l.b=(g.c i).b)) (λhe=>hc i hi ⟨he.1.symm,he.2.symm⟩) (λj hj=>h.cl i j hi hj) j hj,h.cv,?_⟩
 ·rw[e1,e2];exact aG3 h.ls hk hb.1 hb.2
 ·refine el (λl=>l.s=false->¬(g.addL (g.lat p q) ⟨p,q,s⟩).Con (g.nl+1) l.a l.b) (λhs hcn=>?_) (λi hi hs hcn=>?_)
  ·rcases(aG7 hk).1 hcn with h1 | ⟨h1,_⟩
   ·have hs:s=false:=hs;subst hs;simp only [EG.clash] at hx;simp at hx;exact hx (EG.con_iff.1 h1)
   ·have hs:s=false:=hs;rw[hs] at h1;cases h1
  ·rcases(aG7 hk).1 hcn with h1 | ⟨h1,h2⟩
   ·exact h.ld i hi hs h1
   ·subst h1;simp only [EG.clash,if_true,decide_eq_false_iff_not] at hx;have:=EG.ap_no hx i hi hs;rcases h2 with ⟨c1,c2⟩ | ⟨c1,c2⟩
    ·have c1:=EG.con_iff.1 c1;have c2:=EG.con_iff.1 c2;apply this;show min (g.pm g.nl _) (g.pm g.nl _)=min (g.pm g.nl _) (g.pm g.nl _)/\max (g.pm g.nl _) (g.pm g.nl _)=max (g.pm g.nl _) (g.pm g.nl _);rw[c1,<- c2];exact⟨rfl,rfl⟩
    ·have c1:=EG.con_iff.1 c1;have c2:=EG.con_iff.1 c2;apply this;show min (g.pm g.nl _) (g.pm g.nl _)=min (g.pm g.nl _) (g.pm g.nl _)/\max (g.pm g.nl _) (g.pm g.nl _)=max (g.pm g.nl _) (g.pm g.nl _);rw[c1,<- c2];exact⟨Int.min_comm _ _,Int.max_comm _ _⟩
theorem EG.clash_dropC (g:EG) (k:Nat) (p q:Int) (s:Bool):(g.dropC k).clash p q s=g.clash p q s:=by
 have hpm:∀n x,(g.dropC k).pm n x=g.pm n x:=λn=>by
  induction n with
  | zero=>intro x;rfl
  | succ n ih=>intro x;simp only [EG.pm,ih];rfl
 have hap:(g.dropC k).ap p q=g.ap p q:=by
  unfold EG.ap;refine aCf λi _=>?_;unfold EG.apB EG.q;simp only [hpm];rfl
 unfold EG.clash;rw[hap];unfold EG.q;simp only [hpm];rfl
theorem EG.Val.vote {g:EG} {o a b:Int} {s:Bool} (h:g.voteE o a b s=0):(g.voteG o a b s).Val:=by
 obtain⟨h1,h2,h3,h4,h5,h6,h7⟩:=EG.voteE_zero h;have hv:=EG.val_iff.1 h1;obtain⟨t1,t2⟩:=aV9 h4 h5;have hlt:min a b<max a b:=ω;unfold EG.voteG;rcases h7 with ⟨c1,c2⟩ | ⟨c1,c2,c3 | ⟨c3,c4⟩⟩
 ·rw[if_pos c1];have:=hv.nc;exact hv.addC t1 t2 hlt h6 c1 ω (sG.2 ⟨.inl rfl,λ_ _=>h2,λe=>by cases e⟩)
 ·rw[if_neg (by rw[c1];simp),if_pos c3];exact hv.addV (EG.cin_lt c1) h2 c2 c3
 ·rw[if_neg (by rw[c1];simp),if_neg (by rw[c3];simp)];have hcos:=EG.valid_cos h1;refine(hv.dropC _).addL (g:=g.dropC (g.cat (min a b) (max a b))) t1 t2 hlt h6 (λi hi he=>?_) (by rw[EG.clash_dropC];exact c4);have hi:i<g.nc - 1:=hi;simp only [EG.dropC] at he;split at he
  ·rename_i hlt2;have:=EG.cat_at hcos (show i<g.nc by omega);rw[he.1,he.2] at this;omega
  ·rename_i hlt2;have:=EG.cat_at hcos (show i+1<g.nc by omega);rw[he.1,he.2] at this;omega
theorem EG.Val.dropL {g:EG} (h:g.Val) (k:Nat):(g.dropL k).Val:=by
 have el:∀(Q:LkG->Prop),(∀i,i<g.nl->Q (g.l i))->∀i,i<g.nl - 1->Q ((g.dropL k).l i):=λQ h1 i hi=>by
  simp only [EG.dropL];split
  ·exact h1 i ω
  ·exact h1 (i+1) ω
 have e1:(λi=>((g.dropL k).l i).a)=del k λi=>(g.l i).a:=xB LkG.a _ _;have e2:(λi=>((g.dropL k).l i).b)=del k λi=>(g.l i).b:=xB LkG.b _ _;refine⟨h.nr,h.nc,h.qu,?_,el (λl=>g.th l.a=true/\g.th l.b=true/\l.a<l.b) h.lp,h.cs,h.cp,λi j hi hj=>el (λl=>¬(l.a=(g.c i).a/\l.b=(g.c i).b)) (λj hj=>h.cl i j hi hj) j hj,h.cv,
  el (λl=>l.s=false->¬(g.dropL k).Con (g.nl - 1) l.a l.b) λi hi hs hc=>h.ld i hi hs (aNw hc)⟩
 rw[e1,e2];exact aE7 h.ls
theorem EG.vote_nr (g:EG) (o a b:Int) (s:Bool):(g.voteG o a b s).nr=g.nr/\(g.voteG o a b s).r=g.r:=by
 unfold EG.voteG;split
 ·exact⟨rfl,rfl⟩
 ·split <;> exact⟨rfl,rfl⟩
end Go.Gx
namespace Go.Gx.Rg
open Go.RowKit Go.Proofs Go.Proofs.YtncccnmmjfapnaaGreat
theorem aC9 {a b c d:Int}:0<lex (bT a c) (bT b d)↔c<a\/a=c/\d<b:=by unfold lex bT;repeat' split <;> omega
theorem uZ {c:Nat->Int} {n j:Nat} (h:j<cA c n):c j<0:=by
 unfold cA at h
 cases hf:(List.range n).find? λi=>decide (0<=c i) with
 | none=>
   rw[hf] at h;have:=List.find?_eq_none.1 hf j (List.mem_range.2 (by simpa using h));simpa using this
 | some i=>
   rw[hf] at h;have:=(List.find?_range_eq_some.1 hf).2.2 j (by simpa using h);simpa using this
theorem tQ {c:Nat->Int} {n j:Nat} (hm:∀a b,a<b->b<n->c b<0->c a<0) (h:cA c n<=j) (hj:j<n):0<=c j:=by
 unfold cA at h
 cases hf:(List.range n).find? λi=>decide (0<=c i) with
 | none=>
   rw[hf] at h;simp at h;omega
 | some i=>
   rw[hf] at h;have h1:0<=c i:=by simpa using (List.find?_range_eq_some.1 hf).1
   have h2:i<=j:=by simpa using h
   rcases Nat.lt_or_ge i j with h3 | h3
   ·rcases Int.lt_or_le (c j) 0 with h4 | h4
    ·have:=hm i j h3 hj h4;omega
    ·exact h4
   ·have:j=i:=ω;subst this;exact h1
theorem aKk {c:Nat->Int} {n:Nat} (hm:∀a b,a<b->b<n->c b<0->c a<0) (hs:∀a b,a<b->b<n->0<=c a->0<c b) {j:Nat} (hj:j<n) :
 (j<cA c n/\c j<0)\/(j=cA c n/\cM c n=true/\c j=0)\/(cA c n<=j/\(cM c n=true->cA c n<j)/\0<c j):=by
 rcases Nat.lt_or_ge j (cA c n) with h | h
 ·exact .inl ⟨h,uZ h⟩
 right;have h0:=tQ hm h hj;rcases Nat.lt_or_ge (cA c n) j with h1 | h1
 ·exact .inr ⟨h,λ_=>h1,hs _ j h1 hj (tQ hm (Nat.le_refl _) ω)⟩
 ·have h2:j=cA c n:=ω;by_cases h3:c j=0
  ·exact .inl ⟨h2,by simp[cM,<- h2,hj,h3],h3⟩
  ·exact .inr ⟨h,λhf=>by simp[cM,<- h2,h3] at hf,ω⟩
theorem bAf {c:Nat->Int} {n:Nat} (h:cM c n=true):cA c n<n/\c (cA c n)=0:=by simpa [cM] using h
theorem pJ {α:Type} {c:Nat->Int} {n:Nat} {y:Nat->α} {x:α} (hm:∀a b,a<b->b<n->c b<0->c a<0) (hs:∀a b,a<b->b<n->0<=c a->0<c b) {r:Nat} (hr:r<qW (cM c n) n) :
 (r<cA c n/\r<n/\jQ (cM c n) (cA c n) y x r=y r/\c r<0)\/(r=cA c n/\jQ (cM c n) (cA c n) y x r=x)\/
 (cA c n<r/\∃s,s=(if cM c n=true then r else r - 1)/\s<n/\jQ (cM c n) (cA c n) y x r=y s/\0<c s):=by
 have hb:cA c n<=n:=iK;unfold qW at hr;rcases Nat.lt_trichotomy r (cA c n) with h | h | h
 ·exact .inl ⟨h,ω,if_pos h,uZ h⟩
 ·exact .inr (.inl ⟨h,by rw[jQ,if_neg ω,if_pos h]⟩)
 ·refine .inr (.inr ⟨h,_,rfl,?_,by rw[jQ,if_neg ω,if_neg ω],?_⟩)
  ·split at hr
   ·rename_i hf;rw[if_pos hf];exact hr
   ·rename_i hf;rw[if_neg hf];omega
  ·have hsn:(if cM c n=true then r else r - 1)<n:=by
    split at hr
    ·rename_i hf;rw[if_pos hf];exact hr
    ·rename_i hf;rw[if_neg hf];omega
   rcases aKk hm hs hsn with ⟨h1,_⟩ | ⟨h1,h2,_⟩ | ⟨_,_,h3⟩
   ·exfalso;split at h1 <;> omega
   ·exfalso;rw[if_pos h2] at h1;omega
   ·exact h3
theorem aXw {α:Type} {c:Nat->Int} {n:Nat} {y:Nat->α} {x:α}:cA c n<qW (cM c n) n/\jQ (cM c n) (cA c n) y x (cA c n)=x:=by
 refine⟨?_,by rw[jQ,if_neg ω,if_pos rfl]⟩;have hb:cA c n<=n:=iK;unfold qW;split
 ·rename_i hf;exact(bAf hf).1
 ·omega
theorem aYg {α:Type} {c:Nat->Int} {n:Nat} {y:Nat->α} {x a:α} (hm:∀a b,a<b->b<n->c b<0->c a<0) (hs:∀a b,a<b->b<n->0<=c a->0<c b) :
 (∃r,r<qW (cM c n) n/\jQ (cM c n) (cA c n) y x r=a)↔a=x\/∃j,j<n/\y j=a/\c j≠0:=by
 constructor
 ·rintro⟨r,hr,rfl⟩;rcases pJ (y:=y) (x:=x) hm hs hr with ⟨_,h1,h2,h3⟩ | ⟨_,h2⟩ | ⟨_,s,_,h1,h2,h3⟩
  ·exact .inr ⟨r,h1,h2.symm,ω⟩
  ·exact .inl h2
  ·exact .inr ⟨s,h1,h2.symm,ω⟩
 ·rintro(rfl | ⟨j,hj,rfl,h0⟩)
  ·exact⟨_,(aXw (y:=y) (x:=a)).1,aXw.2⟩
  ·rcases aKk hm hs hj with ⟨h1,_⟩ | ⟨_,_,h2⟩ | ⟨h1,h2,_⟩
   ·refine⟨j,?_,if_pos h1⟩;unfold qW;split <;> omega
   ·exact absurd h2 h0
   ·by_cases hf:cM c n=true
    ·have:=h2 hf;refine⟨j,by unfold qW;rw[if_pos hf];exact hj,?_⟩;rw[jQ,if_neg ω,if_neg ω,if_pos hf]
    ·refine⟨j+1,by unfold qW;rw[if_neg hf];omega,?_⟩;rw[jQ,if_neg ω,if_neg ω,if_neg hf];rfl
section
variable {g:RG} {x:ConG}
theorem RG.cmC_st {g:RG} (h:g.c5=true) (l p:Int):∀a b,a<b->b<g.nc->0<=g.cmC l p a->0<g.cmC l p b:=by
 intro a b hab hb hc;have:=RG.sortC h hab hb;have h1:¬g.cmC l p a<0:=ω;simp only [RG.cmC,gV,aC9,ConG.ltP] at *;omega
theorem RG.cmC_ne {l p:Int} {j:Nat}:g.cmC l p j≠0↔¬((g.c j).p=l/\(g.c j).q=p):=not_congr kP
theorem RG.putC_in (h:g.valid=true) {a:ConG}:(g.putC x).InC a↔a=x\/g.InC a/\¬(a.p=x.p/\a.q=x.q):=by
 have h1:=aYg (y:=g.c) (x:=x) (a:=a) (RG.cmC_mono (RG.v5 h) x.p x.q) (RG.cmC_st (RG.v5 h) x.p x.q);refine h1.trans (or_congr Iff.rfl ⟨?_,?_⟩)
 ·rintro⟨j,hj,rfl,h0⟩;exact⟨⟨j,hj,rfl⟩,RG.cmC_ne.1 h0⟩
 ·rintro⟨⟨j,hj,rfl⟩,h0⟩;exact⟨j,hj,rfl,RG.cmC_ne.2 h0⟩
theorem RG.putC_E (he:g.cnE x=0):g.valid=true/\x.good=true/\(cM (g.cmC x.p x.q) g.nc=true\/g.nc<40):=by
 unfold RG.cnE at he;by_cases h1:g.valid=true
 ·rw[if_pos h1] at he;by_cases h2:x.good=true
  ·rw[if_pos h2] at he;split at he
   ·rename_i h3;have h4:cM (g.cmC x.p x.q) g.nc=true\/(g.nc:Int)<40:=by simpa using h3
    exact⟨h1,h2,h4.imp id λh=>ω⟩
   ·omega
  ·rw[if_neg h2] at he;omega
 ·rw[if_neg h1] at he;omega
theorem RG.putC_sort (h:g.valid=true) {i:Nat} (hi:i+1<(g.putC x).nc):((g.putC x).c i).ltP ((g.putC x).c (i+1)):=by
 have hm:=RG.cmC_mono (RG.v5 h) x.p x.q;have hs:=RG.cmC_st (RG.v5 h) x.p x.q;have sx:∀{j:Nat},g.cmC x.p x.q j<0->(g.c j).ltP x:=λh=>gV.1 h;have xs:∀{j:Nat},0<g.cmC x.p x.q j->ConG.ltP x (g.c j):=λh=>by
  have:=aC9.1 h;unfold ConG.ltP;omega
 have hi':i+1<qW (cM (g.cmC x.p x.q) g.nc) g.nc:=hi;rcases pJ (y:=g.c) (x:=x) hm hs (show i<qW (cM (g.cmC x.p x.q) g.nc) g.nc by omega) with ⟨h1,h2,h3,h4⟩ | ⟨h1,h2⟩ | ⟨h1,s,h2,h3,h4,h5⟩ <;>
 rcases pJ (y:=g.c) (x:=x) hm hs hi' with ⟨k1,k2,k3,k4⟩ | ⟨k1,k2⟩ | ⟨k1,u,k2,k3,k4,k5⟩
 ·show ConG.ltP (jQ _ _ _ _ i) (jQ _ _ _ _ (i+1));rw[h3,k3];exact RG.sortC (RG.v5 h) ω k2
 ·show ConG.ltP (jQ _ _ _ _ i) (jQ _ _ _ _ (i+1));rw[h3,k2];exact sx h4
 ·omega
 ·omega
 ·omega
 ·show ConG.ltP (jQ _ _ _ _ i) (jQ _ _ _ _ (i+1));rw[h2,k4];exact xs k5
 ·omega
 ·omega
 ·show ConG.ltP (jQ _ _ _ _ i) (jQ _ _ _ _ (i+1));rw[h4,k4];refine RG.sortC (RG.v5 h) ?_ k3;subst h2;subst k2;split <;> omega
theorem RG.putC_n (he:g.cnE x=0):(g.putC x).nc<=40:=by
 obtain⟨h1,h2,h3⟩:=RG.putC_E he;have hl:=RG.lim h1;show qW _ _<=_;unfold qW;split
 ·omega
 ·rename_i hf;rcases h3 with h3 | h3
  ·exact absurd h3 hf
  ·omega
theorem RG.putC_valid (he:g.cnE x=0):(g.putC x).valid=true:=by
 obtain⟨h,h2,h3⟩:=RG.putC_E he;have hl:=RG.lim h;have hn:=RG.putC_n he;have hgood:∀a,(g.putC x).InC a->a.good=true:=λa ha=>by
  rcases(RG.putC_in h).1 ha with rfl | ⟨h1,_⟩
  ·exact h2
  ·exact RG.goodC h h1
 exact RG.valid_of hl.1 hn hl.2.2.1 hl.2.2.2 (λa ha=>RG.goodR h ha) hgood (λa ha=>RG.goodW h ha) (λa ha=>RG.goodM h ha) (λi hi=>RG.putC_sort h hi) (λi hi=>RG.sortM (RG.v6 h) ω hi)
end
section
variable {g:RG} {x:MarkG}
theorem RG.cm_st {g:RG} (h:g.c6=true) (l p:Int):∀a b,a<b->b<g.nm->0<=g.cm l p a->0<g.cm l p b:=by
 intro a b hab hb hc;have:=RG.sortM h hab hb;have h1:¬g.cm l p a<0:=ω;simp only [RG.cm,gV,aC9,MarkG.ltP] at *;omega
theorem RG.cm_ne {l p:Int} {j:Nat}:g.cm l p j≠0↔¬((g.m j).l=l/\(g.m j).p=p):=not_congr kP
theorem RG.putM_in (h:g.valid=true) {a:MarkG}:(g.putM x).InM a↔a=x\/g.InM a/\¬(a.l=x.l/\a.p=x.p):=by
 have h1:=aYg (y:=g.m) (x:=x) (a:=a) (RG.cm_mono (RG.v6 h) x.l x.p) (RG.cm_st (RG.v6 h) x.l x.p);refine h1.trans (or_congr Iff.rfl ⟨?_,?_⟩)
 ·rintro⟨j,hj,rfl,h0⟩;exact⟨⟨j,hj,rfl⟩,RG.cm_ne.1 h0⟩
 ·rintro⟨⟨j,hj,rfl⟩,h0⟩;exact⟨j,hj,rfl,RG.cm_ne.2 h0⟩
theorem RG.putM_E (he:g.mkE x=0):g.valid=true/\x.good=true/\(cM (g.cm x.l x.p) g.nm=true\/g.nm<40):=by
 unfold RG.mkE at he;by_cases h1:g.valid=true
 ·rw[if_pos h1] at he;by_cases h2:x.good=true
  ·rw[if_pos h2] at he;split at he
   ·rename_i h3;have h4:cM (g.cm x.l x.p) g.nm=true\/(g.nm:Int)<40:=by simpa using h3
    exact⟨h1,h2,h4.imp id λh=>ω⟩
   ·omega
  ·rw[if_neg h2] at he;omega
 ·rw[if_neg h1] at he;omega
theorem RG.putM_sort (h:g.valid=true) {i:Nat} (hi:i+1<(g.putM x).nm):((g.putM x).m i).ltP ((g.putM x).m (i+1)):=by
 have hm:=RG.cm_mono (RG.v6 h) x.l x.p;have hs:=RG.cm_st (RG.v6 h) x.l x.p;have sx:∀{j:Nat},g.cm x.l x.p j<0->(g.m j).ltP x:=λh=>gV.1 h;have xs:∀{j:Nat},0<g.cm x.l x.p j->MarkG.ltP x (g.m j):=λh=>by
  have:=aC9.1 h;unfold MarkG.ltP;omega
 have hi':i+1<qW (cM (g.cm x.l x.p) g.nm) g.nm:=hi;rcases pJ (y:=g.m) (x:=x) hm hs (show i<qW (cM (g.cm x.l x.p) g.nm) g.nm by omega) with ⟨h1,h2,h3,h4⟩ | ⟨h1,h2⟩ | ⟨h1,s,h2,h3,h4,h5⟩ <;>
 rcases pJ (y:=g.m) (x:=x) hm hs hi' with ⟨k1,k2,k3,k4⟩ | ⟨k1,k2⟩ | ⟨k1,u,k2,k3,k4,k5⟩
 ·show MarkG.ltP (jQ _ _ _ _ i) (jQ _ _ _ _ (i+1));rw[h3,k3];exact RG.sortM (RG.v6 h) ω k2
 ·show MarkG.ltP (jQ _ _ _ _ i) (jQ _ _ _ _ (i+1));rw[h3,k2];exact sx h4
 ·omega
 ·omega
 ·omega
 ·show MarkG.ltP (jQ _ _ _ _ i) (jQ _ _ _ _ (i+1));rw[h2,k4];exact xs k5
 ·omega
 ·omega
 ·show MarkG.ltP (jQ _ _ _ _ i) (jQ _ _ _ _ (i+1));rw[h4,k4];refine RG.sortM (RG.v6 h) ?_ k3;subst h2;subst k2;split <;> omega
theorem RG.putM_n (he:g.mkE x=0):(g.putM x).nm<=40:=by
 obtain⟨h1,h2,h3⟩:=RG.putM_E he;have hl:=RG.lim h1;show qW _ _<=_;unfold qW;split
 ·omega
 ·rename_i hf;rcases h3 with h3 | h3
  ·exact absurd h3 hf
  ·omega
theorem RG.putM_valid (he:g.mkE x=0):(g.putM x).valid=true:=by
 obtain⟨h,h2,h3⟩:=RG.putM_E he;have hl:=RG.lim h;have hn:=RG.putM_n he;have hgood:∀a,(g.putM x).InM a->a.good=true:=λa ha=>by
  rcases(RG.putM_in h).1 ha with rfl | ⟨h1,_⟩
  ·exact h2
  ·exact RG.goodM h h1
 exact RG.valid_of hl.1 hl.2.1 hl.2.2.1 hn (λa ha=>RG.goodR h ha) (λa ha=>RG.goodC h ha) (λa ha=>RG.goodW h ha) hgood (λi hi=>RG.sortC (RG.v5 h) ω hi) (λi hi=>RG.putM_sort h hi)
end
end Go.Gx.Rg
namespace Go.Gx.Sr
open Go.RowKit Go.Proofs Go.Proofs.YtncccnmmjfapnaaGreat Go.Gx.Ix
theorem sI (a j:Nat) (hj:j<64):(bP 1#64 a).getLsbD j=decide (j=a):=by
 unfold bP;rw[BitVec.getLsbD_shiftLeft];by_cases h:j<a
 ·simp[h];omega
 ·by_cases e:j=a
  ·subst e;simp[hj]
  ·have:¬j - a=0:=ω;simp[h,e,hj,BitVec.getLsbD_one,this]
theorem aSg (x y:W64) (j:Nat):(iO x y).getLsbD j=(x.getLsbD j||y.getLsbD j):=by unfold iO;simp
theorem pA (x y:W64) (j:Nat) (hj:j<64):(cX x y).getLsbD j=(x.getLsbD j&&!y.getLsbD j):=by unfold cX;simp[hj]
theorem bB1 {x:W64}:x=0#64↔∀j,j<64->x.getLsbD j=false:=by
 constructor
 ·rintro rfl;simp
 ·intro h;apply BitVec.eq_of_getLsbD_eq;intro i hi;rw[h i hi];simp
def thW (t:Int->Bool) (k:Nat):W64:=(List.range k).foldl (λ(s:W64) (i:Nat)=>if t i then iO s (bP 1#64 i) else s) 0#64
theorem aC5 (t:Int->Bool) (j:Nat) (hj:j<64):∀k,(thW t k).getLsbD j=(decide (j<k)&&t j)
 | 0=>by simp[thW]
 | k+1=>by
   have ih:=aC5 t j hj k;unfold thW at ih ⊢;rw[List.range_succ,List.foldl_append];simp only [List.foldl_cons,List.foldl_nil];by_cases hk:t k=true
   ·rw[if_pos hk,aSg,ih,sI k j hj];by_cases e:j=k
    ·subst e;simp[hk]
    ·have:j<k+1↔j<k:=ω;simp only [this,e,decide_false,Bool.or_false]
   ·rw[if_neg hk,ih];by_cases e:j=k
    ·subst e;simp[hk]
    ·have:j<k+1↔j<k:=ω;simp only [this]
theorem aQu {x:SvG} {s:W64} {k:Nat}:cX s (x.knW k)=0#64↔∀j,j<64->s.getLsbD j=true->j<k/\x.g.th j=true:=by
 rw[bB1];constructor
 ·intro h j hj hs;have:=h j hj;rw[pA _ _ _ hj,hs] at this;have e:=aC5 x.g.th j hj k;rw[show x.knW k=thW x.g.th k from rfl,e] at this;simpa using this
 ·intro h j hj;rw[pA _ _ _ hj,show x.knW k=thW x.g.th k from rfl,aC5 x.g.th j hj k]
  cases hs:s.getLsbD j with
  | false=>rfl
  | true=>have:=h j hj hs;simp[this.1,this.2]
structure SvG.Va (x:SvG):Prop where
 set:x.setB=true
 g:x.g.valid=true
 r:x.r.valid=true
 ch:eS x.ch=true
 lg:fR x.lg=true
 now:0<=x.now/\x.now<=maxT
 k4:x.ks.length<=4
 irn:x.ir.length=x.g.nr
 ir:∀i,i<x.ir.length->(x.eye (i:Nat)).ok=true/\(x.g.th (i:Nat)=true\/x.eye (i:Nat)=IrG.z)
 lgp:∀e∈x.lg,e.p<0\/x.g.th e.p=true
 cn:∀a,x.r.InC a->x.g.th a.p=true
 wa:∀a,x.r.InW a->x.g.th a.p=true
 ma:∀a,x.r.InM a->x.g.th a.p=true
 chp:∀c∈x.ch,x.g.th c.p=true
 ks:∀k∈x.ks,k.ok x.key=true/\k.m=x.mage/\k.a<x.now/\∀j,j<64->k.s.getLsbD j=true->x.g.th (j:Nat)=true
 cht:∀c∈x.ch,c.t<=x.now
 lgt:∀e∈x.lg,e.t<=x.now
theorem SvG.va_iff {x:SvG}:x.valid=true↔x.Va:=by
 rw[SvG.valid_iff];simp only [SvG.prtB,SvG.peoB,SvG.timB,SvG.irB,SvG.lgB,SvG.cnB,SvG.waB,SvG.maB,SvG.chB,SvG.kOK,Bool.and_eq_true,decide_eq_true_eq,List.all_eq_true,List.mem_range,Bool.or_eq_true,Bool.not_eq_true',List.any_eq_false,decide_eq_false_iff_not,Ix.btw,aQu,Int.not_lt];constructor
 ·rintro⟨h1,⟨⟨⟨⟨h2,h3⟩,h4⟩,h5⟩,⟨h6,h7⟩,h8⟩,⟨⟨h9,h10⟩,⟨⟨h11,h12⟩,h13⟩,h14⟩,⟨h15,h16⟩,h17⟩;refine⟨h1,h2,h3,h4,h5,h6,h7,h8,h9,h10,?_,?_,?_,h14,λk hk=>?_,h16,h17⟩
  ·rintro a ⟨i,hi,rfl⟩;exact h11 i hi
  ·rintro a ⟨i,hi,rfl⟩;exact h12 i hi
  ·rintro a ⟨i,hi,rfl⟩;exact h13 i hi
  ·obtain⟨⟨⟨a1,a2⟩,a3⟩,a4⟩:=h15 k hk;exact⟨a1,a2,a3,λj hj hs=>(a4 j hj hs).2⟩
 ·intro h;have hth:∀j:Nat,x.g.th j=true->j<x.ir.length:=λj hj=>by
   have:=EG.th_iff.1 hj;have e:=h.irn;omega
  refine⟨h.set,⟨⟨⟨⟨h.g,h.r⟩,h.ch⟩,h.lg⟩,⟨h.now,h.k4⟩,h.irn⟩,⟨⟨h.ir,h.lgp⟩,⟨⟨λi hi=>h.cn _ ⟨i,hi,rfl⟩,λi hi=>h.wa _ ⟨i,hi,rfl⟩⟩,λi hi=>h.ma _ ⟨i,hi,rfl⟩⟩,h.chp⟩,⟨λk hk=>?_,h.cht⟩,h.lgt⟩;obtain⟨a1,a2,a3,a4⟩:=h.ks k hk;exact⟨⟨⟨a1,a2⟩,a3⟩,λj hj hs=>⟨hth j (a4 j hj hs),a4 j hj hs⟩⟩
end Go.Gx.Sr
namespace Go.Gx
open Go.RowKit Go.Proofs Go.Proofs.YtncccnmmjfapnaaGreat
theorem EG.th_lt {g:EG} {a:Int} (h:g.th a=true):0<=a/\a<g.nr:=by have:=EG.th_iff.1 h;omega
theorem EG.th_same {g h:EG} (e1:h.nr=g.nr) (e2:h.r=g.r) (a:Int):h.th a=g.th a:=by unfold EG.th;rw[e1,e2]
theorem EG.th_addG {g:EG} {q a:Int} (h:g.th a=true):(g.addG q).th a=true:=by
 have:=EG.th_iff.1 h;refine EG.th_iff.2 ⟨this.1,by show a<((g.nr+1:Nat):Int);omega,?_⟩;show(if a.toNat<g.nr then g.r a.toNat else ⟨q,false⟩).g=false;rw[if_pos ω];exact this.2.2
theorem EG.Val.addG {g:EG} (h:g.Val) {q:Int} (hq:0<=q/\q<=100) (hn:g.nr<24):(g.addG q).Val:=by
 refine⟨hn,h.nc,λi hi=>?_,h.ls,λi hi=>?_,h.cs,λi hi=>?_,h.cl,h.cv,λi hi hs hc=>h.ld i hi hs ((sD (g:=g.addG q) (h:=g) rfl).1 hc)⟩
 ·show 0<=(if i<g.nr then g.r i else ⟨q,false⟩).q/\(if i<g.nr then g.r i else ⟨q,false⟩).q<=100;split
  ·exact h.qu i (by assumption)
  ·exact hq
 ·have:=h.lp i hi;exact⟨EG.th_addG this.1,EG.th_addG this.2.1,this.2.2⟩
 ·have:=h.cp i hi;exact⟨EG.th_addG this.1,EG.th_addG this.2.1,this.2.2⟩
theorem EG.th_remG {g:EG} {a:Nat} {b:Int}:(g.remG a).th b=true↔g.th b=true/\¬b=a:=by
 rw[EG.th_iff,EG.th_iff];show(0<=b/\b<g.nr/\(if b.toNat=a then (⟨0,true⟩:RcG) else g.r b.toNat).g=false)↔_;constructor
 ·rintro⟨h1,h2,h3⟩;split at h3
  ·cases h3
  ·exact⟨⟨h1,h2,h3⟩,ω⟩
 ·rintro⟨⟨h1,h2,h3⟩,h4⟩;rw[if_neg ω];exact⟨h1,h2,h3⟩
theorem EG.lp_iff {g:EG} {a i:Nat}:g.lp a i=false↔¬(g.l i).a=a/\¬(g.l i).b=a:=by
 unfold EG.lp;simp
theorem EG.cp_iff {g:EG} {a i:Nat}:g.cp a i=false↔¬(g.c i).a=a/\¬(g.c i).b=a:=by
 unfold EG.cp;simp
theorem EG.Val.remG {g:EG} (h:g.Val) (a:Nat):(g.remG a).Val:=by
 have hl:∀i,i<(kept (g.lp a) g.nl).length->(kept (g.lp a) g.nl)[i]?.getD 0<g.nl/\g.lp a ((kept (g.lp a) g.nl)[i]?.getD 0)=false:=λi hi=>aDw hi;have hc:∀i,i<(kept (g.cp a) g.nc).length->(kept (g.cp a) g.nc)[i]?.getD 0<g.nc/\g.cp a ((kept (g.cp a) g.nc)[i]?.getD 0)=false:=λi hi=>aDw hi;have hle:(kept (g.cp a) g.nc).length<=g.nc:=by
  have:=List.length_filter_le (λi=>!g.cp a i) (List.range g.nc);simpa [kept] using this
 refine⟨h.nr,Nat.le_trans hle h.nc,λi hi=>?_,aCb h.ls,λi hi=>?_,aCb h.cs,λi hi=>?_,λi j hi hj=>h.cl _ _ (hc i hi).1 (hl j hj).1,λi hi=>h.cv _ (hc i hi).1,λi hi hs hcn=>?_⟩
 ·show 0<=(if i=a then (⟨0,true⟩:RcG) else g.r i).q/\(if i=a then (⟨0,true⟩:RcG) else g.r i).q<=100;split
  ·decide
  ·exact h.qu i hi
 ·have h1:=h.lp _ (hl i hi).1;have h2:=EG.lp_iff.1 (hl i hi).2;exact⟨EG.th_remG.2 ⟨h1.1,h2.1⟩,EG.th_remG.2 ⟨h1.2.1,h2.2⟩,h1.2.2⟩
 ·have h1:=h.cp _ (hc i hi).1;have h2:=EG.cp_iff.1 (hc i hi).2;exact⟨EG.th_remG.2 ⟨h1.1,h2.1⟩,EG.th_remG.2 ⟨h1.2.1,h2.2⟩,h1.2.2⟩
 ·refine h.ld _ (hl i hi).1 hs (hcn.map λx y ⟨j,h1,h2,h3⟩=>⟨_,(hl j h1).1,h2,h3⟩)
theorem EG.Val.nl {g:EG} (h:g.Val):g.nl<=1000:=by
 have hb:∀i,i<g.nl->(0<=(g.l i).a/\(g.l i).a<24)/\(0<=(g.l i).b/\(g.l i).b<24):=λi hi=>by
  have h1:=h.lp i hi;have h2:=EG.th_lt h1.1;have h3:=EG.th_lt h1.2.1;have h4:=h.nr;omega
 have hk:∀i,i<g.nl->(i:Int)<=(g.l i).a*24+(g.l i).b:=by
  intro i
  induction i with
  | zero=>intro hi;have:=hb 0 hi;omega
  | succ i ih=>
    intro hi;have h1:=ih ω;have h2:(g.l i).a<(g.l (i+1)).a\/(g.l i).a=(g.l (i+1)).a/\(g.l i).b<(g.l (i+1)).b:=uE.1 (h.ls i (i+1) ω hi);have h3:=hb i ω;have h4:=hb (i+1) hi;omega
 rcases Nat.eq_zero_or_pos g.nl with e | e
 ·omega
 ·have h1:=hk (g.nl - 1) ω;have h2:=hb (g.nl - 1) ω;omega
theorem EG.Val.sm {g:EG} (h:g.Val):g.Sm:=
 ⟨by have:=h.nr;omega,h.nl,by have:=h.nc;omega,λi hi=>by have:=(sG.1 (h.cv i hi)).1;omega⟩
end Go.Gx
namespace Go.Gx.Rg
open Go.RowKit Go.Proofs Go.Proofs.YtncccnmmjfapnaaGreat
theorem RG.sizes {g:RG} (h:g.valid=true):g.nr<=20/\g.nc<=40/\g.nw<=20/\g.nm<=40:=by
 simp only [RG.valid,RG.c1,RG.c2,RG.c3,RG.c4,Bool.and_eq_true,decide_eq_true_eq] at h;obtain⟨⟨⟨⟨⟨⟨h1,_⟩,h2,_⟩,h3,_⟩,h4,_⟩,_⟩,_⟩:=h;omega
theorem RG.sC {g:RG} (h:g.valid=true):∀i,i+1<g.nc->(g.c i).ltP (g.c (i+1)):=by
 simp only [RG.valid,RG.c5,Bool.and_eq_true,List.all_eq_true,List.mem_range,ConG.lt,gV,decide_eq_true_eq] at h;exact λi hi=>h.1.2 i ω
theorem RG.sM {g:RG} (h:g.valid=true):∀i,i+1<g.nm->(g.m i).ltP (g.m (i+1)):=by
 simp only [RG.valid,RG.c6,Bool.and_eq_true,List.all_eq_true,List.mem_range,MarkG.lt,gV,decide_eq_true_eq] at h;exact λi hi=>h.2 i ω
theorem RG.addR_in {g:RG} {y a:RuleG}:(g.addR y).InR a->g.InR a\/a=y:=by
 rintro⟨i,hi,rfl⟩;show g.InR (if i<g.nr then g.r i else y)\/(if i<g.nr then g.r i else y)=y;split
 ·exact .inl ⟨i,by assumption,rfl⟩
 ·exact .inr rfl
theorem RG.addW_in {g:RG} {y a:WarG}:(g.addW y).InW a->g.InW a\/a=y:=by
 rintro⟨i,hi,rfl⟩;show g.InW (if i<g.nw then g.w i else y)\/(if i<g.nw then g.w i else y)=y;split
 ·exact .inl ⟨i,by assumption,rfl⟩
 ·exact .inr rfl
theorem RG.addR_valid {g:RG} (h:g.valid=true) (hn:¬g.nr=20) {y:RuleG} (hy:y.good=true):(g.addR y).valid=true:=by
 have hs:=RG.sizes h;refine RG.valid_of (by show g.nr+1<=20;omega) hs.2.1 hs.2.2.1 hs.2.2.2 (λa ha=>?_) (λa ha=>RG.goodC h ha) (λa ha=>RG.goodW h ha) (λa ha=>RG.goodM h ha) (RG.sC (g:=g) h) (RG.sM (g:=g) h);rcases RG.addR_in ha with ha | rfl
 ·exact RG.goodR h ha
 ·exact hy
theorem RG.addW_valid {g:RG} (h:g.valid=true) (hn:¬g.nw=20) {y:WarG} (hy:y.good=true):(g.addW y).valid=true:=by
 have hs:=RG.sizes h;refine RG.valid_of hs.1 hs.2.1 (by show g.nw+1<=20;omega) hs.2.2.2 (λa ha=>RG.goodR h ha) (λa ha=>RG.goodC h ha) (λa ha=>?_) (λa ha=>RG.goodM h ha) (RG.sC (g:=g) h) (RG.sM (g:=g) h);rcases RG.addW_in ha with ha | rfl
 ·exact RG.goodW h ha
 ·exact hy
theorem RuleG.good_byte {y:RuleG} (h:y.good=true):y.byte:=by
 simp only [RuleG.good,Bool.and_eq_true] at h;have:=h.2.2;simp[btw] at this;exact⟨ω,ω⟩
theorem RG.valid_OK {g:RG} (h:g.valid=true):g.OK:=by
 have hs:=RG.sizes h;exact⟨ω,ω,ω,ω,λi hi=>RuleG.good_byte (RG.goodR h ⟨i,hi,rfl⟩)⟩
end Go.Gx.Rg
namespace Go.Gx.Sr
open Go.RowKit Go.Proofs Go.Proofs.YtncccnmmjfapnaaGreat Go.Gx.Ix
theorem aEq {l:List ChG}:aJ6 l=true↔l.Pairwise λx y=>x.t<=y.t:=by
 rw[oW,List.pairwise_iff_getElem];constructor
 ·intro h i j hi hj hij
  induction j with
  | zero=>omega
  | succ j ih=>
    have h1:=h j hj;rcases Nat.lt_or_ge i j with hl | hl
    ·have:=ih ω hl;omega
    ·obtain rfl:i=j:=ω;exact h1
 ·intro h i h2;exact h i (i+1) ω h2 ω
theorem fE {l:List ChG}:eS l=true↔l.length<=60/\(∀c∈l,c.ok=true)/\l.Pairwise λx y=>x.t<=y.t:=by
 unfold eS;rw[Bool.and_eq_true,Bool.and_eq_true,aEq,decide_eq_true_eq,List.all_eq_true,and_assoc]
theorem aGa {l:List ChG} (h:eS l=true) (p:ChG->Bool):eS (l.filter p)=true:=by
 obtain⟨h1,h2,h3⟩:=fE.1 h;exact fE.2 ⟨Nat.le_trans (List.length_filter_le _ _) h1,λc hc=>h2 c (List.mem_filter.1 hc).1,h3.filter _⟩
theorem aMt {l:List ChG} (h:eS l=true) (hn:¬l.length=60) {c:ChG} (hc:c.ok=true) (ht:∀y∈l,y.t<=c.t):eS (l++[c])=true:=by
 obtain⟨h1,h2,h3⟩:=fE.1 h;refine fE.2 ⟨ι,λy hy=>?_,?_⟩
 ·rcases List.mem_append.1 hy with hy | hy
  ·exact h2 y hy
  ·rw[List.mem_singleton.1 hy];exact hc
 ·rw[List.pairwise_append];exact⟨h3,List.pairwise_singleton _ _,λa ha b hb=>by rw[List.mem_singleton.1 hb];exact ht a ha⟩
theorem aO2 {s:W64} {c:ChG} {j:Nat} (hj:j<64) (hp:0<=c.p) (h:(aJu s c).getLsbD j=true):s.getLsbD j=true\/c.p=j:=by
 unfold aJu at h;by_cases e:j=c.p.toNat
 ·exact .inr ω
 ·refine .inl ?_;split at h
  ·rw[aSg,pA _ _ _ hj,sI _ _ hj] at h;simpa [e] using h
  ·rw[pA _ _ _ hj,sI _ _ hj] at h;simpa [e] using h
theorem aF2 {j:Nat} (hj:j<64):∀(l:List ChG) (s:W64),(∀c∈l,0<=c.p)->(sK s l).getLsbD j=true->s.getLsbD j=true\/∃c∈l,c.p=j
 | [],s,_,h=>.inl h
 | c::l,s,hl,h=>by
   rcases aF2 hj l (aJu s c) (λy hy=>hl y (List.mem_cons_of_mem _ hy)) h with h1 | ⟨y,hy,e⟩
   ·rcases aO2 hj (hl c (List.mem_cons_self ..)) h1 with h2 | h2
    ·exact .inl h2
    ·exact .inr ⟨c,List.mem_cons_self ..,h2⟩
   ·exact .inr ⟨y,List.mem_cons_of_mem _ hy,e⟩
theorem aV1 {l:List ChG} (h:eS l=true) {t:Int} {j:Nat} (hj:j<64) (hb:(aEj l t).getLsbD j=true):∃c∈l,c.p=j:=by
 rcases aF2 hj _ _ (λc hc=>(aJf h (wP hc)).2.2.1) hb with h1 | ⟨c,hc,e⟩
 ·simp at h1
 ·exact⟨c,wP hc,e⟩
theorem bJz (k:KsG) (key:W64) (z:W64):({k with z:=z}:KsG).seal key=k.seal key:=rfl
theorem aXh {l:List ChG} {t m:Int} {key:W64} (ht:oF t=true) (hm:oF m=true):(aBa l t m key).ok key=true:=by
 unfold KsG.ok aBa;simp only [ht,hm,Bool.and_true,Bool.true_and,decide_eq_true_eq];rfl
theorem bFx {k:KsG} {key:W64} (h:k.ok key=true) (a:Int):(k.re key a).ok key=true:=by
 unfold KsG.ok at h ⊢;simp only [Bool.and_eq_true] at h;unfold KsG.re;simp only [h.1.1,h.1.2,Bool.and_true,Bool.true_and,decide_eq_true_eq];rfl
theorem aWo {l:List EnG} {p:Int} (j:Nat):(rX (erL l p) j).t=(rX l j).t/\(rX (erL l p) j).l=(rX l j).l:=by
 unfold rX;split
 ·exact⟨rfl,rfl⟩
 ·unfold erL;rw[List.getElem?_map]
  cases l[j - 1]? with
  | none=>exact⟨rfl,rfl⟩
  | some y=>
    simp only [Option.map_some,Option.getD_some,EnG.er];split <;> exact⟨rfl,rfl⟩
theorem aYn {y y' x:EnG} {p:Int} (ht:y'.t=y.t) (hl:y'.l=y.l) (h:y.stp x=true):y'.stp (x.er p)=true:=by
 unfold EnG.stp at h ⊢;simp only [Bool.and_eq_true,decide_eq_true_eq] at h ⊢;unfold EnG.er;split
 ·refine⟨⟨?_,by rw[ht];exact h.1.2⟩,by rw[hl];exact h.2⟩;have h1:=h.1.1;unfold EnG.fit EnG.rng at h1 ⊢;simp only [Bool.and_eq_true] at h1 ⊢;refine⟨⟨⟨h1.1.1.1,h1.1.1.2⟩,δ⟩,?_⟩;rw[if_pos δ];simp[iO]
 ·exact⟨⟨h.1.1,by rw[ht];exact h.1.2⟩,by rw[hl];exact h.2⟩
theorem aZu {l:List EnG} (h:fR l=true) (p:Int):fR (erL l p)=true:=by
 unfold fR lgB at h ⊢;simp only [Bool.and_eq_true,decide_eq_true_eq,List.all_eq_true,List.mem_range] at h ⊢;have hlen:(erL l p).length=l.length:=by simp[erL]
 rw[hlen];refine⟨h.1,λj hj=>?_⟩;have h1:=h.2 j hj;unfold aAo at h1 ⊢;have h2:=aWo (l:=l) (p:=p) j;have e1:((erL l p)[j]?).getD EnG.zero=(l[j]).er p:=by unfold erL;rw[List.getElem?_map,List.getElem?_eq_getElem hj];rfl
 rw[List.getElem?_eq_getElem hj] at h1;rw[e1];exact aYn h2.1 h2.2 h1
end Go.Gx.Sr
