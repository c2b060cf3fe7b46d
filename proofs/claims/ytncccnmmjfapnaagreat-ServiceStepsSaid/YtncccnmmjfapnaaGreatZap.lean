/-
 Texts of the walk, merged: Wb Wc Wd Qg We Hk Hc Hl Hn Ho Sg Wf Wg Wh Wi Wj Wk Wl Ro Rp Xa Xb Ya Yb Yd.
-/
import Derived.Test.YtncccnmmjfapnaaGreatZao
import Derived.Test.YtncccnmmjfapnaaGreatZan
import Derived.Test.YtncccnmmjfapnaaGreatZam
import Derived.Test.YtncccnmmjfapnaaGreatZal
import Derived.Test.YtncccnmmjfapnaaGreatZai
import Derived.Test.YtncccnmmjfapnaaGreatZaj
set_option linter.unusedVariables false
set_option linter.unusedSimpArgs false
set_option maxRecDepth 100000
set_option maxHeartbeats 4000000
namespace Go.Gx.Sr
open Go.RowKit Go.Proofs Go.Proofs.YtncccnmmjfapnaaGreat Go.Gx.Ix
def SvG.mbK (x:SvG) (k:Nat):List MbG:=((List.range k).filter λi:Nat=>x.g.th i).map λi:Nat=>⟨(i:Int),x.eye i⟩
theorem SvG.mbK_succ (x:SvG) (k:Nat):x.mbK (k+1)=x.mbK k++if x.g.th k then [⟨(k:Int),x.eye k⟩] else []:=by
 unfold SvG.mbK;rw[List.range_succ,List.filter_append,List.map_append]
 congr 1
 by_cases h:x.g.th (k:Int)=true <;> simp[h]
theorem SvG.mbK_le (x:SvG) (k:Nat):(x.mbK k).length<=k:=by
 unfold SvG.mbK;rw[List.length_map];exact Nat.le_trans (List.length_filter_le _ _) τ
theorem SvG.mbs_mem {x:SvG} {a:MbG} (h:a∈x.mbs):∃n:Nat,n<x.ir.length/\x.g.th n=true/\a=⟨n,x.eye n⟩:=by
 unfold SvG.mbs at h;obtain⟨n,hn,rfl⟩:=List.mem_map.1 h;have:=List.mem_filter.1 hn;exact⟨n,List.mem_range.1 this.1,this.2,rfl⟩
theorem SvG.mbs_vl {x:SvG} (h:x.valid=true):VL x.mbs:=by
 obtain⟨h1,h2,h3,h4,h5,h6⟩:=SvG.reg_val h;have hnr:=(EG.val_iff.1 h1).nr;refine⟨Nat.le_trans (x.mbK_le x.ir.length) ω,λa ha=>?_,λa ha=>?_,?_⟩
 ·obtain⟨n,hn,_,rfl⟩:=SvG.mbs_mem ha;show Ix.btw 0 1073741824 (n:Int)=true;simp only [Ix.btw,Bool.and_eq_true,decide_eq_true_eq];omega
 ·obtain⟨n,hn,_,rfl⟩:=SvG.mbs_mem ha;exact SvG.eye_ok h ω ω
 ·unfold SvG.mbs;rw[List.map_map];have:((λa:MbG=>a.id) ∘ λi:Nat=>(⟨(i:Int),x.eye i⟩:MbG))=λi:Nat=>(i:Int):=rfl;rw[this];rw[List.Nodup,List.pairwise_map];have hnd:((List.range x.ir.length).filter λi:Nat=>x.g.th i).Pairwise (·≠·):=List.Pairwise.filter _ List.nodup_range;exact hnd.imp fun {a b} hne e=>hne (Int.ofNat_inj.1 e)
theorem SvG.mE_ok {x:SvG} (h:x.valid=true) {p:IrG} (hp:p.ok=true):mE p p x.turns x.num x.den=0:=by
 obtain⟨h1,h2,h3,h4⟩:=aHo h;unfold mE;rw[hp];have e1:Ix.btw 0 7 x.turns=true:=by simp[Ix.btw];omega
 have e2:vL x.num x.den=true:=by unfold vL Ix.btw;simp;omega
 simp[e1,e2]
theorem SvG.fd_mem {x:SvG} (h:x.valid=true) {p:IrG} {t n d:Int} {a:Int} (ha:a∈fdI x.mbs p t n d):x.g.th a=true:=by
 unfold fdI at ha;split at ha
 ·unfold aAl at ha;obtain⟨m,hm,rfl⟩:=List.mem_map.1 ha;have hm:=(List.mem_filter.1 hm).1;have hm:=(dA x.mbs).1.mem_iff.1 hm;obtain⟨k,_,hk,rfl⟩:=SvG.mbs_mem hm;exact hk
 ·exact absurd ha τ
theorem aJz {g:Rg.RG} {q:Rg.QG} (h:g.aerr q=0):∃k l,g.apq q=k::l/\k<g.nr:=by
 unfold Rg.RG.aerr at h;split at h
 ·rename_i h0;exact absurd h h0
 rename_i h0;have h0:Rg.ask g q=0:=by simpa using h0
 split at h
 ·omega
 rename_i h1;have key:∀n,g.apl q n=[]->g.lev q n=0:=by
  intro n
  induction n with
  | zero=>intro _;rfl
  | succ n ih=>
    intro he
    cases hb:Rg.ruleB g q (g.r n)
    ·rw[Rg.RG.apl_no hb] at he;simp only [Rg.RG.lev,hb];simpa using ih he
    ·rw[Rg.RG.apl_yes hb] at he;simp at he
 have e:g.apq q=g.apl q g.nr:=by unfold Rg.RG.apq;rw[if_pos h0]
 rw[e]
 cases hl:g.apl q g.nr with
 | nil=>exact absurd (key _ hl) h1
 | cons k l=>
   refine⟨k,l,rfl,?_⟩;have:k∈g.apl q g.nr:=by rw[hl];simp
   exact List.mem_range.1 (List.mem_filter.1 this).1
theorem aEu {g:Rg.RG} {q:Rg.QG} (h:g.aerr q=0):Rg.ask g q=0:=by
 unfold Rg.RG.aerr at h;split at h
 ·rename_i h0;exact absurd h h0
 ·rename_i h0;simpa using h0
theorem kO {α:Type} {f:α->Nat->RV} {l:List α} {x:α} {k q:Nat} {G new:Nat->Nat->SV} (hG:∀i j,i<l.length->j<k->G i j=.r (aY f l i j)) (h:∀j,j<k->new 0 j=.r (f x j)) :
 ∀i j,i<(l++[x]).length->j<k->SV.kill q (aJ l.length 1 G new i j)=.r (aY f (l++[x]) i j):=by
 intro i j hi hj;simp only [List.length_append,List.length_singleton] at hi;unfold aJ;by_cases hiL:i<l.length
 ·rw[if_pos hiL,hG i j hiL hj];unfold aY;rw[List.getElem?_append_left hiL];rfl
 ·obtain rfl:i=l.length:=ω;rw[if_neg hiL,if_pos ω,Nat.sub_self,h j hj];unfold aY;rw[List.getElem?_concat_length];rfl
abbrev dG (m:Nat) (f:FuncId) (M:SvG->OrG->SvG × AnG) (x:SvG) (o:OrG):Prop:=aEp Tryz.prog m 1 f [.box (SV.tagL true m x.cells)] [.ptr 0 0 17 0,o.sv] (mT (M x o)) [.box (SV.tagL true m (M x o).1.cells)]
theorem Does.hi {f:FuncId} {M:SvG->OrG->SvG × AnG} {x:SvG} {o:OrG} (h:Does f M x o) (m:Nat) (hq:o.q.nk=0):dG m f M x o:=
 (OwnS.hi (m:=m) h rfl (Nat.le_refl _)).le (λσ Z w vs hr=>by
   obtain⟨v,vs',e,h1,v2,vs2,e2,h2,h3⟩:=hr;refine⟨v,vs',e,h1,v2,vs2,e2,SV.rel_bare _ _ (λs hs=>?_) h2,h3⟩;simp only [OrG.cells,List.mem_cons,List.not_mem_nil,or_false] at hs;rcases hs with rfl | rfl | rfl | rfl | rfl | rfl | rfl | rfl | rfl | rfl | rfl | rfl | rfl | rfl | rfl | rfl | rfl | rfl | rfl | rfl | rfl | rfl | rfl | rfl | rfl | rfl | rfl | rfl | rfl | rfl | rfl | rfl | rfl | rfl <;> first | exact trivial | exact hq) λσ Z w y hr=>SV.untag1 _ _ hr
theorem SvG.at_viewT (m:Nat) (x:SvG) (M:Mem):x.at' (λ(_ j:Nat)=>(aU M 3 ((SV.tagL true m x.cells)[j]?.getD (SV.r .any))).un1):=by
 intro j hj;rcases(ω:j=0\/j=1\/j=2\/j=3\/j=4\/j=5\/j=6\/j=7\/j=8\/j=9\/j=10\/j=11\/j=12\/j=13\/j=14\/j=15\/j=16) with h | h | h | h | h | h | h | h | h | h | h | h | h | h | h | h | h <;> subst h <;> rfl
theorem aHu (m:Nat) (x:SvG) (o:OrG) (hx:x.OK) (hv:x.valid=true) (hq:(o.q.nk:Int)<2 ^ 61):dG m 253 nR x o:=by
 refine oY aD Tryz.func253 rfl κ ν rfl rfl 1 (Nat.le_refl _) ?_;have n1:=hx.ir;unfold nR;simp[go_sem];refine aA (mJ o.x.c o.x.m) rfl rfl ?_;have e0:o.x.ok=vI o.x.c o.x.m:=rfl;rw[e0]
 cases hvi:vI o.x.c o.x.m
 ·simp[go_sem,bad];exact⟨[0],⟨rfl,trivial⟩,τ,λN=>⟨ζ,ζ⟩⟩
 simp[go_sem];refine aA (Rg.checkQuery40 o.q (by unfold Rg.QG.OK;omega)) rfl rfl ?_;obtain⟨e,he⟩:∃e,o.q.err=e:=⟨_,rfl⟩;rw[he];by_cases he0:e=0;rotate_left
 ·simp[go_sem,he0,bad];exact⟨[0],⟨rfl,trivial⟩,τ,λN=>⟨ζ,ζ⟩⟩
 subst he0;simp[go_sem];refine mG aD (GSt.un1 41) ?_;simp[go_sem,yG,dU];refine bK (GSt.adopt 9 126 3 (λ_ _=>.r .any) ζ) ?_;refine dW aD (α:=Nat) (λk=>[(0,.ptr 0 0 17 0),(3,.ptr 1 0 34 0),(9,.sl 2 3 0 (x.mbK k).length none),(41,irs x.ir),(42,.i x.ir.length),(43,.i k)])
  (λk M nx=>k<=x.ir.length/\3<=nx/\M 0=some (.box (SV.tagL true m x.cells))/\M 1=some (.box o.cells)/\∃G,M 2=some (.vec 126 3 (x.mbK k).length G)/\∀i j,i<(x.mbK k).length->j<3->G i j=.r (aY MbG.f (x.mbK k) i j)) (λk=>x.ir.length - k) 0 ?_ ?_ ?_
 ·simp[go_sem,SvG.mbK]
 ·simp[go_sem,SvG.mbK]
 rintro k J M nx _ ⟨hk,hnx,h0,h1,G,h2,hG⟩;have e0:¬0=nx:=ω;have e1:¬1=nx:=ω;have e2:¬2=nx:=ω;have e0':¬nx=0:=ω;have e1':¬nx=1:=ω;have e2':¬nx=2:=ω;by_cases hlt:k<x.ir.length
 ·have hrow:=aI (f:=IrG.f) hlt;have hey:x.eye k=x.ir[k]:=SvG.eye_get hlt;have hs:=x.mbK_succ k;have hle:=x.mbK_le k;rw[hey] at hs;simp[go_sem,hlt,hrow];refine aG (v:=.b (x.g.th k)) (by simp[go_sem,h0,e0,e0'];exact Pure.un (dN x hx.g.ok _ (x.at_viewT m _) k)) rfl ?_;by_cases ht:x.g.th (k:Int)=true
  ·rw[if_pos ht] at hs;obtain⟨y,hy⟩:∃y:MbG,MbG.mk k x.ir[k]=y:=⟨_,rfl⟩;have hyr:∀j,j<3->([.i k,.w x.ir[k].c,.w x.ir[k].m]:List SV)[0*3+j]?.getD (SV.r .any)=.r (y.f j):=by
    intro j hj;subst hy;rcases(ω:j=0\/j=1\/j=2) with rfl | rfl | rfl <;> rfl
   rw[hy] at hs;simp[go_sem,ht,h0,h1,h2,e0,e1,e2,e0',e1',e2'];refine⟨⟨ω,ω⟩,⟨ω,ω⟩,k+1,ω,⟨by rw[hs];simp,ω⟩,ω,ω,_,⟨by rw[hs];simp,rfl⟩,?_⟩;rw[hs];exact kO hG λj hj=>hyr j hj
  ·rw[if_neg ht,List.append_nil] at hs;simp[go_sem,ht,h0,h1,h2,e0,e1,e2,e0',e1',e2'];exact⟨⟨ω,ω⟩,k+1,ω,⟨by rw[hs],ω⟩,ω,ω,G,⟨by rw[hs],rfl⟩,by rw[hs];exact hG⟩
 have hk':k=x.ir.length:=ω;subst hk';have hms:x.mbK x.ir.length=x.mbs:=rfl;rw[hms] at h2 hG;have hvl:=SvG.mbs_vl hv;have hbE:fJ x.mbs=0:=(rB _).2 hvl;have hb:=aJ5 x.mbs (by have:=hvl.len;omega);have hbX:tY x.mbs=lL x.mbs:=by unfold tY;rw[if_pos hbE]
 rw[hbE,hbX] at hb;obtain⟨c1,c2,c3,c4⟩:=aHo hv;have hsr:=aN2 hvl o.x x.turns x.num x.den;rw[SvG.mE_ok hv hvi] at hsr;have hmem:∀a∈fdI x.mbs o.x x.turns x.num x.den,x.g.th a=true:=λa ha=>SvG.fd_mem hv ha;obtain⟨L,hL⟩:∃L,fdI x.mbs o.x x.turns x.num x.den=L:=⟨_,rfl⟩;obtain⟨sn,hsn⟩:∃s,fdS x.mbs o.x x.turns x.num x.den=s:=⟨_,rfl⟩;have hLl:L.length<=256:=by
  rw[<- hL];unfold fdI;split
  ·unfold aAl;rw[List.length_map];refine Nat.le_trans (List.length_filter_le _ _) ?_;rw[(dA x.mbs).1.length_eq];exact hvl.len
  ·simp
 rw[hL] at hmem;rw[hL,hsn] at hsr;rw[hL];obtain⟨R,hR⟩:∃R,nZ x o L []=R:=⟨_,rfl⟩;rw[hR];simp[go_sem,hms];refine aC 2 h2 ?_;simp[go_sem];refine fT (hb.argsL ⟨vF λi j hi hj=>?_,trivial⟩) (λh=>h) rfl ?_ ?_
 ·simp only [hG i j hi hj];show aY MbG.f x.mbs i j=gN x.mbs i j;rw[aI hi,mrow hi]
 ·rfl
 unfold IxG.sv;simp[go_sem,List.range_succ,h0,h1,e0,e1,e2,e0',e1',e2'];have f0:¬0=nx+1:=ω;have f1:¬1=nx+1:=ω;unfold IxG.sv at hsr;simp only [List.range_succ,List.range_zero,List.nil_append,List.map_append,List.map_cons,List.map_nil,List.cons_append] at hsr;refine jJ (S:=[(0,.ptr 0 0 17 0),(3,.ptr 1 0 34 0),(13,.i 0),(14,.ptr (nx+1) 0 2 0)]) (φ:=λM nx'=>nx+2<=nx'/\M 0=some (.box (SV.tagL true m x.cells))/\M 1=some (.box o.cells)/\M (nx+1)=some (.box [ils L,.i sn])) ?_ ?_
 ·refine aM (t:=(.take 0 (.take 1 (.take 2 (.take 3 (.take 4 (.take 5 (.take 6 (.take 7 (.take 8 (.take 9 (.take 10 (.take 11 (.take 12 (.take 13 (.take 14 (.alt 15 [14,13,12,11,10,9,8,7,6,5,4,3,2,1,0] (.take 16 (.take 17 (.take 18 (.alt 19 [18,17,16,13,12,11,10,9,7,6,5,4,3,1] (.alt 20 [18,17,16,13,12,11,10,9,7,6,5,4,3,1] (.take 21 (.done [21,18])) .nil) .nil)))) (.alt 19 [14,13,12,11,10,9,8,7,6,5,4,3,2,1,0] (.alt 15 [14,13,12,11,10,9,8,7,6,5,4,3,2,1,0] (.take 16 (.take 17 (.take 18 (.alt 20 [18,17,16,13,12,11,10,9,7,6,5,4,3,1] (.take 21 (.done [21,18])) .nil)))) .nil) .nil)))))))))))))))))) aD κ κ κ (λ_ _ _ _ h=>h) ?_;simp[go_sem,h0,h1,e0,e1,e2,e0',e1',e2',f0,f1];refine⟨fT hsr (λh=>h) rfl rfl ?_,fT hsr (λh=>h) rfl rfl ?_⟩
  ·simp[go_sem,h0,h1,e0,e1,e2,e0',e1',e2',f0,f1]
  ·simp[go_sem,h0,h1,e0,e1,e2,e0',e1',e2',f0,f1]
 intro J M2 nx2 ⟨k1,k2,k3,k4⟩;simp[go_sem,k4];refine bK (GSt.adopt 15 132 5 (λ_ _=>.r .any) ζ) ?_;have hl0:=SvG.log_ok hv;have hset:=(SvG.valid_iff.1 hv).1;have hir:∀a,x.g.th a=true->0<=a/\a<x.ir.length/\a<=23:=λa ha=>SvG.th_in hv ha;have heok:∀a,x.g.th a=true->(x.eye a).ok=true:=λa ha=>SvG.eye_ok hv (hir a ha).1 (hir a ha).2.1;refine aEl aD (α:=Nat × List EnG × List HtG) (λs=>[(0,.ptr 0 0 17 0),(3,.ptr 1 0 34 0),(15,.sl nx2 5 0 s.2.2.length none),(89,ils L),(90,.i L.length),(91,.i s.1)])
  (λs M nx'=>s.1<=L.length/\nx2<nx'/\M 0=some (.box (SV.tagL true m ({x with lg:=s.2.1}:SvG).cells))/\M 1=some (.box o.cells)/\(∃G,M nx2=some (.vec 132 5 s.2.2.length G)/\∀i j,i<s.2.2.length->j<5->G i j=.r (aY HtG.f s.2.2 i j))/\
    wZ s.2.1 x.now/\s.2.1.length<=60/\s.2.2.length<=s.1/\R=nZ {x with lg:=s.2.1} o (L.drop s.1) s.2.2) (λs=>L.length - s.1) (0,x.lg,[]) ?_ ?_ ?_
 ·refine⟨Nat.zero_le _,Nat.lt_succ_self _,?_,?_,⟨λ_ _=>.r .any,?_,λi j hi=>absurd hi (Nat.not_lt_zero i)⟩,hl0,?_,Nat.le_refl _,hR.symm⟩
  ·have:¬0=nx2:=ω;simp[go_sem,this,k2]
  ·have:¬1=nx2:=ω;simp[go_sem,this,k3]
  ·simp[go_sem]
  ·have:=hl0.ok;unfold hJ at this;simp only [Bool.and_eq_true,decide_eq_true_eq] at this;exact this.1
 ·simp[go_sem]
 rintro⟨k,lg,h⟩ J M nx' _ ⟨hk,hnx',m0,m1,⟨G2,m2,hG2⟩,hlg,hl60,hhk,hM⟩;dsimp only at *;by_cases hlt:k<L.length
 ·have ha:x.g.th L[k]=true:=hmem _ (List.getElem_mem hlt);have hdrop:L.drop k=L[k]::L.drop (k+1):=List.drop_eq_getElem_cons hlt;have hrow:=aV4 hlt;obtain⟨a,haa⟩:∃a,L[k]=a:=⟨_,rfl⟩;rw[haa] at ha hdrop hrow;rw[hdrop] at hM;obtain⟨a1,a2,a3⟩:=hir a ha;have d0:∀i,¬0=nx'+i:=λi=>ω;have d1:∀i,¬1=nx'+i:=λi=>ω;have d2:∀i,¬nx2=nx'+i:=λi=>ω;have d0':∀i,¬nx'+i=0:=λi=>ω;have d1':∀i,¬nx'+i=1:=λi=>ω;have d2':∀i,¬nx'+i=nx2:=λi=>ω;have b0:¬0=nx':=ω;have b1:¬1=nx':=ω;have b2:¬nx2=nx':=ω;have b0':¬nx'=0:=ω;have b1':¬nx'=1:=ω;have b2':¬nx'=nx2:=ω;simp[go_sem,hlt,hrow,m0,m1,m2,b0,b1,b2,b0',b1',b2',d0,d1,d2,d0',d1',d2'];obtain⟨q,hqq⟩:∃q,qAt o.q a x.now=q:=⟨_,rfl⟩;have hqk:(q.nk:Int)<2 ^ 61:=by rw[<- hqq];exact hq
  have hqO:q.OK:=by unfold Rg.QG.OK;omega
  have hqs:SV.agg [.i o.q.p,.i o.q.r,.i o.q.l,.i a,.i x.now,o.q.ks]=q.sv:=by rw[<- hqq];rfl
  have han:=Rg.answer26 x.r q hx.r hqO;have hap:=Rg.applies31 x.r q hx.r hqO;obtain⟨ae,hae⟩:∃e,x.r.aerr q=e:=⟨_,rfl⟩;rw[hae] at han;rw[<- hqs] at han hap;refine aM (t:=(.take 0 (.take 1 (.take 2 (.take 3 (.take 4 (.take 5 (.take 6 (.alt 7 [6,5,4,3,2,1,0] (.take 8 (.alt 9 [8,5,4,3,2,1] (.done []) .nil)) .nil))))))))) aD κ κ κ (λ_ _ _ _ h=>h.elim λ_ h=>h.elim λ_ h=>h.elim λ_ h=>h.2) ?_;simp[go_sem,hlt,hrow,m0,m1,m2,b0,b1,b2,b0',b1',b2',d0,d1,d2,d0',d1',d2'];refine jJ (S:=[(0,.ptr 0 0 17 0),(3,.ptr 1 0 34 0),(15,.sl nx2 5 0 h.length none),(89,ils L),(90,.i L.length),(91,.i k),(17,.i a),(18,.ptr nx' 0 6 0),(19,.ptr (nx'+1) 0 4 0),(20,.i ae)])
   (φ:=λM nx''=>nx'+2<=nx''/\M 0=some (.box (SV.tagL true m ({x with lg:=lg}:SvG).cells))/\M 1=some (.box o.cells)/\M nx2=some (.vec 132 5 h.length G2)/\M nx'=some (.box [.i o.q.p,.i o.q.r,.i o.q.l,.i a,.i x.now,o.q.ks])/\M (nx'+1)=some (.box [.i (x.r.aL q),.b (x.r.aO q),.i (x.r.aS q),.i (x.r.aN q)])) ?_ ?_
  ·refine aM (t:=(.take 0 (.take 1 (.take 2 (.take 3 (.take 4 (.take 5 (.alt 6 [5,4,3,2,1,0] (.take 7 (.take 8 (.take 9 (.alt 10 [9,8,7,3,2,1,0] (.alt 11 [9,8,7,3,2,1,0] (.take 12 (.done [12,9])) .nil) .nil)))) (.alt 10 [5,4,3,2,1,0] (.alt 6 [5,4,3,2,1,0] (.take 7 (.take 8 (.take 9 (.alt 11 [9,8,7,3,2,1,0] (.take 12 (.done [12,9])) .nil)))) .nil) .nil))))))))) aD κ κ κ (λ_ _ _ _ h=>h) ?_;simp[go_sem,hlt,hrow,m0,m1,m2,b0,b1,b2,b0',b1',b2',d0,d1,d2,d0',d1',d2'];refine⟨jV (aA han rfl rfl ?_),jV (aA han rfl rfl ?_)⟩
   ·simp[go_sem,hlt,hrow,m0,m1,m2,b0,b1,b2,b0',b1',b2',d0,d1,d2,d0',d1',d2']
   ·simp[go_sem,hlt,hrow,m0,m1,m2,b0,b1,b2,b0',b1',b2',d0,d1,d2,d0',d1',d2']
  intro J M3 nx3 ⟨p1,p2,p3,p4,p5,p6⟩;have r1:nx'<nx3:=ω;have r2:nx'+1<nx3:=ω;have r3:0<nx3:=ω;have r4:1<nx3:=ω;have r5:nx2<nx3:=ω;simp[go_sem,p2,p3,p4,p5,p6];refine aE aD κ κ ?_;simp[go_sem,p2,p3,p4,p5,p6,r1,r2,r3,r4,r5];refine⟨_,aB (Pure.un hap) rfl rfl,?_⟩;unfold nZ at hM;simp only [hqq,hae] at hM;by_cases he0:ae=0;rotate_left
  ·rw[if_neg he0] at hM;simp[go_sem,he0];refine⟨⟨ω,ω⟩,aT ?_⟩;rw[aA6];refine⟨(k+1,lg,h),(show L.length - (k+1)<L.length - k by omega),ζ,(show k+1<=L.length by omega),(show nx2<nx3 by omega),p2,p3,⟨G2,p4,hG2⟩,hlg,hl60,(show h.length<=k+1 by omega),hM⟩
  have hask:=aEu (hae.trans he0);obtain⟨r0,rl,hr0,hr1⟩:=aJz (hae.trans he0);rw[if_pos he0] at hM;rw[hask,hr0];have hnr:=(Rg.RG.small (SvG.reg_val hv).2.1).1;have hcm:=λgt h=>rD ({x with lg:=lg}:SvG) hset gt h a ⟨a1,a2⟩ n1 o.x (heok a ha) hvi;obtain⟨r,hr⟩:∃r,gR ({x with lg:=lg}:SvG) (SvG.eye {x with lg:=lg} a) o.x=r:=⟨_,rfl⟩;have hgood:r.good=true:=by rw[<- hr];exact jN hset _ o.x
  have hg2:=RsG.good_in hgood;rw[hr] at hcm hM;simp[go_sem,he0,p2,p3,p4,p5,p6];refine aG (v:=r.sv) (by simp[go_sem,p2];exact Pure.un (hcm _ (SvG.at_viewT m ({x with lg:=lg}:SvG) _))) rfl ?_;have hz:cQ lI (r0::rl) 0 0=.i (r0:Int):=rfl;have s0:¬0=nx3:=ω;have s1:¬1=nx3:=ω;have s2:¬nx2=nx3:=ω;have s3:¬nx'=nx3:=ω;have s4:¬nx'+1=nx3:=ω;have s0':¬nx3=0:=ω;have s1':¬nx3=1:=ω;have s2':¬nx3=nx2:=ω;have s3':¬nx3=nx':=ω;have s4':¬nx3=nx'+1:=ω;have s5:∀i,¬nx3+i=0:=λi=>ω;have s6:∀i,¬nx3+i=1:=λi=>ω;have s7:∀i,¬nx3+i=nx2:=λi=>ω;have s8:∀i,¬0=nx3+i:=λi=>ω;have s9:∀i,¬1=nx3+i:=λi=>ω;have s10:∀i,¬nx2=nx3+i:=λi=>ω;have s11:∀i,¬nx'=nx3+i:=λi=>ω;have s12:∀i,¬nx'+1=nx3+i:=λi=>ω;have s13:¬nx'+1=0:=ω;have s14:¬0=nx'+1:=ω;have s15:¬nx2=0:=ω;have s16:¬0=nx2:=ω;have s17:¬nx'+1=nx2:=ω;have s18:¬nx2=nx3+1+1:=ω;have s19:¬0=nx3+1+1:=ω;have s20:¬1=nx3+1+1:=ω;have s21:¬nx3+1+1=nx2:=ω;have s22:¬nx3+1+1=0:=ω;have s23:¬nx3+1+1=1:=ω;have s24:¬1=nx2:=ω;have s25:¬nx2=1:=ω;simp[go_sem,hz,p2,p3,p4,p5,p6,s0,s1,s2,s3,s4,s0',s1',s2',s3',s4',s5,s6,s7,s8,s9,s10,s11,s12,s13,s14,s15,s16,s17];obtain⟨r',hr'⟩:∃r':RsG,{r with r:=(r0:Int)}=r':=⟨_,rfl⟩;have hgr:r'.good=true:=by
   rw[<- hr'];simp only [RsG.good,RsG.okd,jE,Ix.btw,Bool.and_eq_true,decide_eq_true_eq];omega
  have hrs:SV.agg [.r (.v (.int .u8 r.d)),.i r.n,.i r.m,.i r.p,.i r.q,.i r0]=r'.sv:=by rw[<- hr']
  have hrec:=aB6 ({x with lg:=lg}:SvG) 2 a r' o.s (by show lg.length<1000000;omega) hlg δ ω hgr;have hM2:R=if lg.length=60 then (({x with lg:=lg}:SvG),bad 9) else nZ (SvG.put {x with lg:=lg} 2 a r' o.s) o (L.drop (k+1)) (h++[⟨a,x.r.aL q,x.r.aO q,x.r.aS q,x.r.aN q⟩]):=by
   rw[hM,<- hr',hr0];rfl
  unfold aW7 at hrec;rw[hrs];by_cases h60:lg.length=60
  ·rw[if_pos h60,if_pos h60] at hrec;rw[if_pos h60] at hM2;refine sE [0] (hrec.hi (m:=m) rfl (Nat.le_refl _)) (λh=>h) (λ_ _ _ h=>h) (Nat.le_refl _) τ rfl ⟨?_,trivial⟩ ?_
   ·simp[go_sem,p2,s0]
   simp[go_sem,hM2,bad];refine aT ?_;simp[go_sem];exact⟨[0],⟨rfl,trivial⟩,τ,λN=>⟨ζ,ζ⟩⟩
  ·rw[if_neg h60,if_neg h60] at hrec;rw[if_neg h60] at hM2;refine sE [0] (hrec.hi (m:=m) rfl (Nat.le_refl _)) (λh=>h) (λ_ _ _ h=>h) (Nat.le_refl _) τ rfl ⟨?_,trivial⟩ ?_
   ·simp[go_sem,p2,s0]
   simp[go_sem,hz,p2,p3,p4,p5,p6,s0,s1,s2,s3,s4,s0',s1',s2',s3',s4',s5,s6,s7,s8,s9,s10,s11,s12,s13,s14,s15,s16,s17,s18,s19,s20,s21,s22,s23,s24,s25];obtain⟨y,hy⟩:∃y:HtG,HtG.mk a (x.r.aL q) (x.r.aO q) (x.r.aS q) (x.r.aN q)=y:=⟨_,rfl⟩;have hyr:∀j,j<5->([.i a,.i (x.r.aL q),.b (x.r.aO q),.i (x.r.aS q),.i (x.r.aN q)]:List SV)[0*5+j]?.getD (SV.r .any)=.r (y.f j):=by
    intro j hj;subst hy;rcases(ω:j=0\/j=1\/j=2\/j=3\/j=4) with rfl | rfl | rfl | rfl | rfl <;> rfl
   rw[hy] at hM2;refine⟨⟨ω,ω⟩,ω,⟨ω,ω⟩,aT ?_⟩;rw[aA6];refine⟨(k+1,lg++[wrX lg x.now 2 a r'.pack o.s],h++[y]),(show L.length - (k+1)<L.length - k by omega),?_,(show k+1<=L.length by omega),(show nx2<nx3+1+1+1 by omega),?_,?_,⟨λi j=>SV.kill nx2 (aJ h.length 1 G2 (λi j=>[SV.i a,.i (x.r.aL q),.b (x.r.aO q),.i (x.r.aS q),.i (x.r.aN q)][i*5+j]?.getD (SV.r .any)) i j),?_,?_⟩,aG2 hlg h60 δ ω r'.pack o.s,?_,?_,hM2⟩
   ·simp[go_sem]
   ·simp[go_sem,s0,s1,s2,s3,s4,s0',s1',s2',s3',s4',s5,s6,s7,s8,s9,s10,s11,s12,s13,s14,s15,s16,s17,s18,s19,s20,s21,s22,s23,s24,s25,SvG.put]
   ·simp[go_sem,p3,s0,s1,s2,s3,s4,s0',s1',s2',s3',s4',s5,s6,s7,s8,s9,s10,s11,s12,s13,s14,s15,s16,s17,s18,s19,s20,s21,s22,s23,s24,s25]
   ·simp[go_sem,s0,s1,s2,s3,s4,s0',s1',s2',s3',s4',s5,s6,s7,s8,s9,s10,s11,s12,s13,s14,s15,s16,s17,s18,s19,s20,s21,s22,s23,s24,s25]
   ·exact kO hG2 λj hj=>hyr j hj
   ·show(lg++[_]).length<=60;simp;omega
   ·show(h++[y]).length<=k+1;simp;omega
 have hk':k=L.length:=ω;subst hk';rw[List.drop_length] at hM;have hM:R=(({x with lg:=lg}:SvG),⟨0,h.length,h⟩):=hM;rw[hM];simp[go_sem,m0,m1,m2];refine aV (GSt.freeze nx2 m2) (aT ?_);rw[aUo];simp[go_sem,m0,m1,m2];refine⟨[0],⟨rfl,trivial⟩,τ,λN=>⟨?_,?_⟩⟩
 ·simp[go_sem];intro i j hi hj;rw[hG2 i j hi hj];rfl
 ·have:¬0=nx2:=ω;simp[go_sem,m0,this]
def OrG.bS (o:OrG):Bool:=!decide (o.s.toNat=0)
def OrG.bI (o:OrG):Bool:=!(decide (o.x.c.toNat=0)&&decide (o.x.m.toNat=0))
def OrG.bQ (o:OrG):Bool:=!decide (o.q.p=0)||!decide (o.q.r=0)||!decide (o.q.l=0)||decide (0<o.q.nk)
def OrG.bR (o:OrG):Bool:=!(decide (o.rl.p=0)&&(decide (o.rl.r=0)&&(decide (o.rl.l=0)&&(decide (o.rl.f=0)&&(decide (o.rl.t=0)&&(decide (o.rl.k=0)&&(decide (o.rl.s=0)&&decide (o.rl.b=0))))))))
def OrG.bW (o:OrG):Bool:=!(decide (o.w.l=0)&&(decide (o.w.p=0)&&(decide (o.w.f=0)&&decide (o.w.t=0))))
def OrG.bC (o:OrG):Bool:=!(decide (o.c.p=0)&&(decide (o.c.q=0)&&decide (o.c.u=0)))
def OrG.bM (o:OrG):Bool:=!(decide (o.m.l=0)&&(decide (o.m.p=0)&&(decide (o.m.s=0)&&(decide (o.m.u=0)&&decide (o.m.n=0)))))
def cH (o:OrG) (n a b:Int) (f s i q r w c m:Bool):Bool:=decide (n=0/\a=0/\b=0/\f=false/\s=false/\i=false/\q=false/\r=false/\w=false/\c=false/\m=false/\o.q.w=0/\o.q.t=0)
def cN (o:OrG):Bool:=
 if o.k=1 then cH o 0 o.a o.b o.f o.bS o.bI o.bQ o.bR o.bW o.bC o.bM else
 if o.k=2 then cH o 0 o.a o.b o.f o.bS false o.bQ o.bR o.bW o.bC o.bM else
 if o.k=3 then cH o 0 0 0 false o.bS o.bI o.bQ o.bR o.bW o.bC o.bM else
 if o.k=4 then cH o o.n 0 0 o.f o.bS o.bI o.bQ o.bR o.bW o.bC o.bM else
 if o.k=5 then cH o o.n 0 o.b o.f o.bS o.bI o.bQ o.bR o.bW o.bC o.bM else
 if o.k=6 then cH o o.n o.a o.b o.f o.bS o.bI o.bQ false o.bW o.bC o.bM else
 if o.k=7 then cH o o.n o.a o.b o.f o.bS o.bI o.bQ o.bR false o.bC o.bM else
 if o.k=8 then cH o o.n o.a o.b o.f o.bS o.bI o.bQ o.bR o.bW false o.bM else
 if o.k=9 then cH o o.n o.a o.b o.f o.bS o.bI o.bQ o.bR o.bW o.bC false else
 if o.k=10 then cH o o.n 0 o.b false o.bS o.bI o.bQ o.bR o.bW o.bC o.bM else
 if o.k=11 then cH o 0 o.a o.b o.f o.bS o.bI o.bQ o.bR o.bW o.bC o.bM else
 if o.k=12 then cH o o.n 0 o.b o.f false false o.bQ o.bR o.bW o.bC o.bM else
 if o.k=13 then cH o o.n o.a o.b o.f false false false o.bR o.bW o.bC o.bM else
 if o.k=14 then cH o 0 0 o.b o.f false false o.bQ o.bR o.bW o.bC o.bM else
 false
def dX (o:OrG):Int:=if cN o then 0 else 2
theorem aC6 (o:OrG) (hq:(o.q.nk:Int)<2 ^ 61):Pure Tryz.prog 34 [o.sv] (· =.i (dX o)):=by
 refine π Tryz.func34 ?_;simp[go_sem];refine aE aD κ κ ?_;simp[go_sem];refine jJ (S:=[(1,.ptr 0 0 34 0),(2,.i 0),(3,.ptr 1 0 3 0),(4,.b o.f),(5,.b o.bS),(6,.b o.bI),(7,.b o.bQ)]) (φ:=λM nx=>2<=nx/\M 0=some (.box o.cells)/\M 1=some (.box [.i o.n,.i o.a,.i o.b])) ?_ ?_
 ·refine aE aD κ κ ?_;have e1:o.bS=!decide (o.s.toNat=0):=rfl;have e2:o.bI=!(decide (o.x.c.toNat=0)&&decide (o.x.m.toNat=0)):=rfl;by_cases c1:o.q.p=0;rotate_left
  ·have e:o.bQ=true:=by simp[OrG.bQ,c1]
   simp[go_sem,c1,e,e1,e2]
  by_cases c2:o.q.r=0;rotate_left
  ·have e:o.bQ=true:=by simp[OrG.bQ,c2]
   simp[go_sem,c1,c2,e,e1,e2]
  by_cases c3:o.q.l=0;rotate_left
  ·have e:o.bQ=true:=by simp[OrG.bQ,c3]
   simp[go_sem,c1,c2,c3,e,e1,e2]
  have e:o.bQ=decide (0<o.q.nk):=by simp[OrG.bQ,c1,c2,c3]
  simp[go_sem,c1,c2,c3,e,e1,e2]
 intro J M nx ⟨h0,h1,h2⟩;simp[go_sem,h1,h2];refine jJ (S:=[(1,.ptr 0 0 34 0),(2,.i 0),(3,.ptr 1 0 3 0),(4,.b o.f),(5,.b o.bS),(6,.b o.bI),(7,.b o.bQ),(8,.b o.bR),(9,.b o.bW),(10,.b o.bC),(11,.b o.bM)]) (φ:=λM nx=>2<=nx/\M 0=some (.box o.cells)/\M 1=some (.box [.i o.n,.i o.a,.i o.b])) ?_ ?_
 ·refine aE aD κ κ ?_;simp[go_sem,h1,h2];exact⟨ω,⟨by simp[OrG.bR,Bool.not_and],by simp[OrG.bW,Bool.not_and],by simp[OrG.bC,Bool.not_and],by simp[OrG.bM,Bool.not_and]⟩,h0⟩
 intro J M nx ⟨h0,h1,h2⟩;rw[aUf,aY2];generalize hB:([It.code _]:List It)=kk;have key:∀(E:Env) (M:Mem) (nx:Nat) (f s i q r w c m:Bool) (n a b:Int),E 1=.ptr 0 0 34 0->E 3=.ptr 1 0 3 0->E 4=.b f->E 5=.b s->E 6=.b i->E 7=.b q->E 8=.b r->E 9=.b w->E 10=.b c->E 11=.b m->
  M 0=some (.box o.cells)->M 1=some (.box [.i n,.i a,.i b])->dX o=(if cH o n a b f s i q r w c m then 0 else 2)->GK Tryz.prog T ⟨145,0,gG⟩ kk (mQ T [ResultVar.tmp 2] λs M=>fU M s λx=>x=.i (dX o)) .normal E M nx:=by
  subst hB;intro E M nx f s i q r w c m n a b e1 e3 e4 e5 e6 e7 e8 e9 e10 e11 m0 m1 he;rw[he];by_cases hz:(n=0/\a=0/\b=0/\f=false/\s=false/\i=false/\q=false/\r=false/\w=false/\c=false/\m=false/\o.q.w=0/\o.q.t=0)
  ·have hZ:cH o n a b f s i q r w c m=true:=decide_eq_true hz;rw[hZ];obtain⟨rfl,rfl,rfl,rfl,rfl,rfl,rfl,rfl,rfl,rfl,rfl,z1,z2⟩:=hz;simp[go_sem,e1,e3,e4,e5,e6,e7,e8,e9,e10,e11,m0,m1,z1,z2]
  ·have hZ:cH o n a b f s i q r w c m=false:=decide_eq_false hz;rw[hZ];simp[go_sem,e1,e3,e4,e5,e6,e7,e8,e9,e10,e11,m0,m1];exact λa1 a2 a3 a4 a5 a6 a7 a8 a9 a10 a11 a12 a13=>hz ⟨a1,a2,a3,a4,a5,a6,a7,a8,a9,a10,a11,a12,a13⟩
 by_cases k1:o.k=1
 ·have he:dX o=if cH o 0 o.a o.b o.f o.bS o.bI o.bQ o.bR o.bW o.bC o.bM then 0 else 2:=by simp[dX,cN,k1]
  simp[go_sem,h1,h2,k1];exact key _ _ _ o.f o.bS o.bI o.bQ o.bR o.bW o.bC o.bM 0 o.a o.b ζ ζ ζ ζ ζ ζ ζ ζ ζ ζ (by simp[go_sem,h1]) (by simp[go_sem,h2]) he
 by_cases k2:o.k=2
 ·have he:dX o=if cH o 0 o.a o.b o.f o.bS false o.bQ o.bR o.bW o.bC o.bM then 0 else 2:=by simp[dX,cN,k2]
  simp[go_sem,h1,h2,k2];exact key _ _ _ o.f o.bS false o.bQ o.bR o.bW o.bC o.bM 0 o.a o.b ζ ζ ζ ζ ζ ζ ζ ζ ζ ζ (by simp[go_sem,h1]) (by simp[go_sem,h2]) he
 by_cases k3:o.k=3
 ·have he:dX o=if cH o 0 0 0 false o.bS o.bI o.bQ o.bR o.bW o.bC o.bM then 0 else 2:=by simp[dX,cN,k3]
  simp[go_sem,h1,h2,k3];exact key _ _ _ false o.bS o.bI o.bQ o.bR o.bW o.bC o.bM 0 0 0 ζ ζ ζ ζ ζ ζ ζ ζ ζ ζ (by simp[go_sem,h1]) (by simp[go_sem,h2]) he
 by_cases k4:o.k=4
 ·have he:dX o=if cH o o.n 0 0 o.f o.bS o.bI o.bQ o.bR o.bW o.bC o.bM then 0 else 2:=by simp[dX,cN,k4]
  simp[go_sem,h1,h2,k4];exact key _ _ _ o.f o.bS o.bI o.bQ o.bR o.bW o.bC o.bM o.n 0 0 ζ ζ ζ ζ ζ ζ ζ ζ ζ ζ (by simp[go_sem,h1]) (by simp[go_sem,h2]) he
 by_cases k5:o.k=5
 ·have he:dX o=if cH o o.n 0 o.b o.f o.bS o.bI o.bQ o.bR o.bW o.bC o.bM then 0 else 2:=by simp[dX,cN,k5]
  simp[go_sem,h1,h2,k5];exact key _ _ _ o.f o.bS o.bI o.bQ o.bR o.bW o.bC o.bM o.n 0 o.b ζ ζ ζ ζ ζ ζ ζ ζ ζ ζ (by simp[go_sem,h1]) (by simp[go_sem,h2]) he
 by_cases k6:o.k=6
 ·have he:dX o=if cH o o.n o.a o.b o.f o.bS o.bI o.bQ false o.bW o.bC o.bM then 0 else 2:=by simp[dX,cN,k6]
  simp[go_sem,h1,h2,k6];exact key _ _ _ o.f o.bS o.bI o.bQ false o.bW o.bC o.bM o.n o.a o.b ζ ζ ζ ζ ζ ζ ζ ζ ζ ζ (by simp[go_sem,h1]) (by simp[go_sem,h2]) he
 by_cases k7:o.k=7
 ·have he:dX o=if cH o o.n o.a o.b o.f o.bS o.bI o.bQ o.bR false o.bC o.bM then 0 else 2:=by simp[dX,cN,k7]
  simp[go_sem,h1,h2,k7];exact key _ _ _ o.f o.bS o.bI o.bQ o.bR false o.bC o.bM o.n o.a o.b ζ ζ ζ ζ ζ ζ ζ ζ ζ ζ (by simp[go_sem,h1]) (by simp[go_sem,h2]) he
 by_cases k8:o.k=8
 ·have he:dX o=if cH o o.n o.a o.b o.f o.bS o.bI o.bQ o.bR o.bW false o.bM then 0 else 2:=by simp[dX,cN,k8]
  simp[go_sem,h1,h2,k8];exact key _ _ _ o.f o.bS o.bI o.bQ o.bR o.bW false o.bM o.n o.a o.b ζ ζ ζ ζ ζ ζ ζ ζ ζ ζ (by simp[go_sem,h1]) (by simp[go_sem,h2]) he
 by_cases k9:o.k=9
 ·have he:dX o=if cH o o.n o.a o.b o.f o.bS o.bI o.bQ o.bR o.bW o.bC false then 0 else 2:=by simp[dX,cN,k9]
  simp[go_sem,h1,h2,k9];exact key _ _ _ o.f o.bS o.bI o.bQ o.bR o.bW o.bC false o.n o.a o.b ζ ζ ζ ζ ζ ζ ζ ζ ζ ζ (by simp[go_sem,h1]) (by simp[go_sem,h2]) he
 by_cases k10:o.k=10
 ·have he:dX o=if cH o o.n 0 o.b false o.bS o.bI o.bQ o.bR o.bW o.bC o.bM then 0 else 2:=by simp[dX,cN,k10]
  simp[go_sem,h1,h2,k10];exact key _ _ _ false o.bS o.bI o.bQ o.bR o.bW o.bC o.bM o.n 0 o.b ζ ζ ζ ζ ζ ζ ζ ζ ζ ζ (by simp[go_sem,h1]) (by simp[go_sem,h2]) he
 by_cases k11:o.k=11
 ·have he:dX o=if cH o 0 o.a o.b o.f o.bS o.bI o.bQ o.bR o.bW o.bC o.bM then 0 else 2:=by simp[dX,cN,k11]
  simp[go_sem,h1,h2,k11];exact key _ _ _ o.f o.bS o.bI o.bQ o.bR o.bW o.bC o.bM 0 o.a o.b ζ ζ ζ ζ ζ ζ ζ ζ ζ ζ (by simp[go_sem,h1]) (by simp[go_sem,h2]) he
 by_cases k12:o.k=12
 ·have he:dX o=if cH o o.n 0 o.b o.f false false o.bQ o.bR o.bW o.bC o.bM then 0 else 2:=by simp[dX,cN,k12]
  simp[go_sem,h1,h2,k12];exact key _ _ _ o.f false false o.bQ o.bR o.bW o.bC o.bM o.n 0 o.b ζ ζ ζ ζ ζ ζ ζ ζ ζ ζ (by simp[go_sem,h1]) (by simp[go_sem,h2]) he
 by_cases k13:o.k=13
 ·have he:dX o=if cH o o.n o.a o.b o.f false false false o.bR o.bW o.bC o.bM then 0 else 2:=by simp[dX,cN,k13]
  simp[go_sem,h1,h2,k13];exact key _ _ _ o.f false false false o.bR o.bW o.bC o.bM o.n o.a o.b ζ ζ ζ ζ ζ ζ ζ ζ ζ ζ (by simp[go_sem,h1]) (by simp[go_sem,h2]) he
 by_cases k14:o.k=14
 ·have he:dX o=if cH o 0 0 o.b o.f false false o.bQ o.bR o.bW o.bC o.bM then 0 else 2:=by simp[dX,cN,k14]
  simp[go_sem,h1,h2,k14];exact key _ _ _ o.f false false o.bQ o.bR o.bW o.bC o.bM 0 0 o.b ζ ζ ζ ζ ζ ζ ζ ζ ζ ζ (by simp[go_sem,h1]) (by simp[go_sem,h2]) he
 subst hB;have he:dX o=2:=by simp[dX,cN,k1,k2,k3,k4,k5,k6,k7,k8,k9,k10,k11,k12,k13,k14]
 simp[go_sem,h1,h2,k1,k2,k3,k4,k5,k6,k7,k8,k9,k10,k11,k12,k13,k14,he]
abbrev wk (f:FuncId):SV:=.fn (.func f) [.ptr 0 0 17 0] []
abbrev bGx:List SV:=[.r (.v .nilFunc),wk 241,wk 242,wk 243,wk 244,wk 245,wk 246,wk 247,wk 248,wk 249,wk 250,wk 251,wk 252,wk 253,wk 254]
theorem aT0 (x:SvG):OwnS Tryz.prog 1 147 [.box x.cells] [.ptr 0 0 17 0] (.agg bGx) [.box x.cells]:=by
 refine bG aD Tryz.func147 rfl κ ν rfl rfl 1 (Nat.le_refl _) ?_;simp[go_sem];exact⟨[0],⟨rfl,trivial⟩,τ,λN=>⟨ζ,ζ⟩⟩
structure OrG.OK (o:OrG):Prop where
 k1:1<=o.k
 k2:o.k<=14
 b:o.rl.byte
 q:(o.q.nk:Int)<2 ^ 61
theorem aZ5 (m:Nat) (x:SvG) (o:OrG) (hx:x.OK) (hv:x.valid=true) (ho:o.OK) (hq:o.k≠13->o.q.nk=0):dG m (240+o.k.toNat) fH x o:=by
 have h1:=ho.k1;have h2:=ho.k2;rcases(ω:o.k=1\/o.k=2\/o.k=3\/o.k=4\/o.k=5\/o.k=6\/o.k=7\/o.k=8\/o.k=9\/o.k=10\/o.k=11\/o.k=12\/o.k=13\/o.k=14) with hk | hk | hk | hk | hk | hk | hk | hk | hk | hk | hk | hk | hk | hk
 ·have hd:dG m 241 qW x o:=Does.hi (aMq x o hv) m (hq ω);have e:fH x o=qW x o:=by simp[fH,hk]
  rw[hk];unfold dG at hd ⊢;rw[e];exact hd
 ·have hd:dG m 242 jZ x o:=Does.hi (aHt x o hx) m (hq ω);have e:fH x o=jZ x o:=by simp[fH,hk]
  rw[hk];unfold dG at hd ⊢;rw[e];exact hd
 ·have hd:dG m 243 pL x o:=Does.hi (aMr x o hx) m (hq ω);have e:fH x o=pL x o:=by simp[fH,hk]
  rw[hk];unfold dG at hd ⊢;rw[e];exact hd
 ·have hd:dG m 244 wdM x o:=Does.hi (aVi x o hx) m (hq ω);have e:fH x o=wdM x o:=by simp[fH,hk]
  rw[hk];unfold dG at hd ⊢;rw[e];exact hd
 ·have hd:dG m 245 aAw x o:=Does.hi (aQb x o hx hv) m (hq ω);have e:fH x o=aAw x o:=by simp[fH,hk]
  rw[hk];unfold dG at hd ⊢;rw[e];exact hd
 ·have hd:dG m 246 pG x o:=Does.hi (aMp x o hx ho.b) m (hq ω);have e:fH x o=pG x o:=by simp[fH,hk]
  rw[hk];unfold dG at hd ⊢;rw[e];exact hd
 ·have hd:dG m 247 aAa x o:=Does.hi (aQe x o hx) m (hq ω);have e:fH x o=aAa x o:=by simp[fH,hk]
  rw[hk];unfold dG at hd ⊢;rw[e];exact hd
 ·have hd:dG m 248 xJ x o:=Does.hi (aP8 x o hx) m (hq ω);have e:fH x o=xJ x o:=by simp[fH,hk]
  rw[hk];unfold dG at hd ⊢;rw[e];exact hd
 ·have hd:dG m 249 putM x o:=Does.hi (aQa x o hx) m (hq ω);have e:fH x o=putM x o:=by simp[fH,hk]
  rw[hk];unfold dG at hd ⊢;rw[e];exact hd
 ·have hd:dG m 250 aAh x o:=Does.hi (aP7 x o hx) m (hq ω);have e:fH x o=aAh x o:=by simp[fH,hk]
  rw[hk];unfold dG at hd ⊢;rw[e];exact hd
 ·have hd:dG m 251 zU x o:=Does.hi (aQc x o hx hv) m (hq ω);have e:fH x o=zU x o:=by simp[fH,hk]
  rw[hk];unfold dG at hd ⊢;rw[e];exact hd
 ·have hd:dG m 252 aA1 x o:=Does.hi (aQd x o hx hv) m (hq ω);have e:fH x o=aA1 x o:=by simp[fH,hk]
  rw[hk];unfold dG at hd ⊢;rw[e];exact hd
 ·have hd:dG m 253 nR x o:=aHu m x o hx hv ho.q;have e:fH x o=nR x o:=by simp[fH,hk]
  rw[hk];unfold dG at hd ⊢;rw[e];exact hd
 ·have hd:dG m 254 yB x o:=Does.hi (aP9 x o hx hv) m (hq ω);have e:fH x o=yB x o:=by simp[fH,hk]
  rw[hk];unfold dG at hd ⊢;rw[e];exact hd
theorem aXq (m:Nat) (x:SvG) (o:OrG) (hx:x.OK) (hv:x.valid=true) (ho:o.OK) (hq:o.k≠13->o.q.nk=0):aEp Tryz.prog m 1 66 [.box (SV.tagL true m x.cells)] [.ptr 0 0 17 0,o.sv] (stA x o).sv [.box (SV.tagL true m (stX x o).cells)]:=by
 refine oY aD Tryz.func66 rfl κ ν rfl rfl 1 (Nat.le_refl _) ?_;simp[go_sem];refine aM (t:=(.take 0 (.take 2 (.take 3 (.take 5 (.alt 1 [5,3,2,0] (.take 4 (.alt 6 [4,5,3,2] (.take 7 (.take 8 (.take 9 (.take 10 (.take 11 (.take 12 (.take 13 (.done [13,12,11,10,9,8,7,3,2])))))))) .nil)) .nil)))))) aD κ κ κ (λ_ _ _ _ h=>h) ?_;simp[go_sem];refine sE [0] (OwnS.hi (m:=m) (aT0 x) rfl (Nat.le_refl _)) (λh=>h) (λ_ _ _ h=>h) (Nat.le_refl _) τ rfl ⟨rfl,trivial⟩ ?_;have h1:=ho.k1;have h2:=ho.k2;have hd:=aZ5 m x o hx hv ho hq;obtain⟨y,hy⟩:∃y,fH x o=y:=⟨_,rfl⟩;unfold stX stA;unfold dG OrG.sv OrG.cells at hd;rw[hy] at hd ⊢;rcases(ω:o.k=1\/o.k=2\/o.k=3\/o.k=4\/o.k=5\/o.k=6\/o.k=7\/o.k=8\/o.k=9\/o.k=10\/o.k=11\/o.k=12\/o.k=13\/o.k=14) with hk | hk | hk | hk | hk | hk | hk | hk | hk | hk | hk | hk | hk | hk
 all_goals
  rw[hk] at hd;simp[go_sem,hk];refine sE [0] hd (λh=>h) (λ_ _ _ h=>h) (Nat.le_refl _) τ rfl ⟨rfl,trivial⟩ ?_;by_cases he:y.2.e=0
  ·simp[go_sem,he];exact⟨hk.symm,[0],⟨rfl,trivial⟩,τ,λN=>⟨by simp[go_sem,he],ζ⟩⟩
  ·simp[go_sem,he,bad];exact⟨hk.symm,[0],⟨rfl,trivial⟩,τ,λN=>⟨ζ,ζ⟩⟩
abbrev Fl (g:Nat->Nat->RV) (n k:Nat):Prop:=∀i j,i<n->j<k->∃z,g i j=.v z
theorem aDh {α:Type} {f:α->Nat->RV} (hf:∀x j,∃z,f x j=.v z) (l:List α) (k:Nat):Fl (aY f l) l.length k:=λi j hi _=>by
 rw[aI hi];exact hf _ _
theorem bIt (x:IrG) (j:Nat):∃z,x.f j=.v z:=by unfold IrG.f;split <;> exact⟨_,rfl⟩
theorem bIq (x:ChG) (j:Nat):∃z,x.f j=.v z:=by unfold ChG.f;split <;> exact⟨_,rfl⟩
theorem bIu (x:KsG) (j:Nat):∃z,x.f j=.v z:=by unfold KsG.f;split <;> exact⟨_,rfl⟩
theorem bIs (x:EnG) (j:Nat):∃z,x.f j=.v z:=by unfold EnG.f;split <;> exact⟨_,rfl⟩
theorem bIx (x:RcG) (j:Nat):∃z,x.c j=.v z:=by unfold RcG.c;split <;> exact⟨_,rfl⟩
theorem bIv (x:LkG) (j:Nat):∃z,x.c j=.v z:=by unfold LkG.c;split <;> exact⟨_,rfl⟩
theorem bIz (x:VtG) (j:Nat):∃z,x.c j=.v z:=by unfold VtG.c;split <;> exact⟨_,rfl⟩
theorem bIy (x:Rg.RuleG) {j:Nat} (h:j<8):∃z,x.c j=.v z:=by
 rcases(ω:j=0\/j=1\/j=2\/j=3\/j=4\/j=5\/j=6\/j=7) with rfl | rfl | rfl | rfl | rfl | rfl | rfl | rfl <;> exact⟨_,rfl⟩
theorem bIr (x:Rg.ConG) {j:Nat} (h:j<3):∃z,x.c j=.v z:=by
 rcases(ω:j=0\/j=1\/j=2) with rfl | rfl | rfl <;> exact⟨_,rfl⟩
theorem bI0 (x:Rg.WarG) {j:Nat} (h:j<4):∃z,x.c j=.v z:=by
 rcases(ω:j=0\/j=1\/j=2\/j=3) with rfl | rfl | rfl | rfl <;> exact⟨_,rfl⟩
theorem bIw (x:Rg.MarkG) {j:Nat} (h:j<5):∃z,x.c j=.v z:=by
 rcases(ω:j=0\/j=1\/j=2\/j=3\/j=4) with rfl | rfl | rfl | rfl | rfl <;> exact⟨_,rfl⟩
theorem aL8 {n:Nat} (hn:n<=1000000) {get:Nat->Nat->RV} (hf:Fl get n 2):PureW Tryz.prog 135 [.r (.rs 2 n get)] λm=>SV.tag true m (.r (.rs 2 n get)):=eJ (Go.Gx.clone114 n hn get) hf
theorem aL9 {n:Nat} (hn:n<=1000000) {get:Nat->Nat->RV} (hf:Fl get n 3):PureW Tryz.prog 136 [.r (.rs 3 n get)] λm=>SV.tag true m (.r (.rs 3 n get)):=eJ (Go.Gx.clone115 n hn get) hf
theorem aMa {n:Nat} (hn:n<=1000000) {get:Nat->Nat->RV} (hf:Fl get n 2):PureW Tryz.prog 138 [.r (.rs 2 n get)] λm=>SV.tag true m (.r (.rs 2 n get)):=eJ (Go.Gx.clone117 n hn get) hf
theorem aMb {n:Nat} (hn:n<=1000000) {get:Nat->Nat->RV} (hf:Fl get n 8):PureW Tryz.prog 139 [.r (.rs 8 n get)] λm=>SV.tag true m (.r (.rs 8 n get)):=eJ (Rg.clone105 n hn get) hf
theorem aMc {n:Nat} (hn:n<=1000000) {get:Nat->Nat->RV} (hf:Fl get n 3):PureW Tryz.prog 140 [.r (.rs 3 n get)] λm=>SV.tag true m (.r (.rs 3 n get)):=eJ (Rg.clone106 n hn get) hf
theorem aMd {n:Nat} (hn:n<=1000000) {get:Nat->Nat->RV} (hf:Fl get n 4):PureW Tryz.prog 141 [.r (.rs 4 n get)] λm=>SV.tag true m (.r (.rs 4 n get)):=eJ (Rg.clone107 n hn get) hf
theorem aMe {n:Nat} (hn:n<=1000000) {get:Nat->Nat->RV} (hf:Fl get n 5):PureW Tryz.prog 142 [.r (.rs 5 n get)] λm=>SV.tag true m (.r (.rs 5 n get)):=eJ (Rg.clone108 n hn get) hf
theorem aMf {n:Nat} (hn:n<=1000000) {get:Nat->Nat->RV} (hf:Fl get n 2):PureW Tryz.prog 143 [.r (.rs 2 n get)] λm=>SV.tag true m (.r (.rs 2 n get)):=eJ (sG n hn get) hf
theorem aMg {n:Nat} (hn:n<=1000000) {get:Nat->Nat->RV} (hf:Fl get n 3):PureW Tryz.prog 144 [.r (.rs 3 n get)] λm=>SV.tag true m (.r (.rs 3 n get)):=eJ (sH n hn get) hf
theorem aMh {n:Nat} (hn:n<=1000000) {get:Nat->Nat->RV} (hf:Fl get n 4):PureW Tryz.prog 145 [.r (.rs 4 n get)] λm=>SV.tag true m (.r (.rs 4 n get)):=eJ (xE n hn get) hf
theorem aMi {n:Nat} (hn:n<=1000000) {get:Nat->Nat->RV} (hf:Fl get n 7):PureW Tryz.prog 146 [.r (.rs 7 n get)] λm=>SV.tag true m (.r (.rs 7 n get)):=eJ (sI n hn get) hf
@[go_sem]theorem CsG.cut {x:CsG} {m j:Nat}:((x.c j).tag true m).cut true m=x.c j:=by
  unfold CsG.c;split <;> simp[RV.tag,RV.cut]
theorem aVc (x:SvG) (hx:x.OK):PureW Tryz.prog 65 [x.sv] λm=>SV.tag true m x.sv:=by
 refine pA aD Tryz.func65 rfl κ ν rfl rfl λh0=>?_;have c1:=hx.g.nr;have c2:=hx.g.nl;have c3:=hx.g.nc;have c4:=hx.g.nv;have d1:=hx.ir;have d2:=hx.rn;have d3:=hx.rc;have d4:=hx.rw';have d5:=hx.rm;have d6:=hx.ch;have d7:=hx.ks;have d8:=hx.lg;simp[go_sem];refine aM (t:=(.take 0 (.take 1 (.take 2 (.take 4 (.take 5 (.take 6 (.alt 3 [6,5,4,2,1,0] (.take 8 (.take 9 (.alt 7 [9,8,6,5,4,1,0] (.alt 10 [9,8,5,4,1,0] (.take 11 (.take 12 (.alt 13 [12,11,8] (.done [11]) .nil))) .nil) .nil))) .nil)))))))) aD κ κ κ (λ_ _ _ _ h=>h) ?_;simp[go_sem];refine fN (h0:=h0) (aL8 ω λi j _ _=>bIx _ _) rfl rfl (λ_=>rfl) ?_;simp[go_sem];refine fN (h0:=h0) (aL9 ω λi j _ _=>bIv _ _) rfl rfl (λ_=>rfl) ?_;simp[go_sem];refine aF [] (Go.Gx.clone116 x.g.nc ω _) τ rfl trivial ?_;simp[go_sem];refine dW aD (α:=Nat) (λk=>[(1,.ptr 0 0 17 0),(2,.ptr 1 0 17 0),(25,.sl 2 3 0 x.g.nc none),(26,.i x.g.nc),(27,.i k)])
  (λk M nx=>k<=x.g.nc/\3<=nx/\M 0=some (.box [.i x.num,.i x.den,.i x.turns,.i x.mage,.w x.key,.i x.now,x.g.rr.tag true h0,x.g.ll.tag true h0,.sl 2 3 0 x.g.nc none,irs x.ir,Rg.RuleG.rs x.r.nr x.r.r,Rg.ConG.rs x.r.nc x.r.c,Rg.WarG.rs x.r.nw x.r.w,Rg.MarkG.rs x.r.nm x.r.m,nY x.ch,kss x.ks,qO x.lg])/\
    M 1=some (.box [.i 0,.i 0,.i 0,.i 0,.r (.v (.int .u64 0)),.i 0,aP,aP,aP,aP,aP,aP,aP,aP,aP,aP,aP])/\∃G,M 2=some (.vec 150 3 x.g.nc G)/\∀i j,i<x.g.nc->j<3->G i j=.r (if i<k then ((x.g.c i).c j).tag true h0 else (x.g.c i).c j)) (λk=>x.g.nc - k) 0 ?_ ζ ?_
 ·simp[go_sem]
 rintro k J M nx _ ⟨hk,hnx,m0,m1,G,m2,hG⟩;by_cases hlt:k<x.g.nc
 ·have g0:=hG k 0 hlt δ;have g1:=hG k 1 hlt δ;have g2:=hG k 2 hlt δ;rw[if_neg (Nat.lt_irrefl k)] at g0 g1 g2;have e0:¬0=nx:=ω;have e1:¬1=nx:=ω;have e2:¬2=nx:=ω;have e0':¬nx=0:=ω;have e1':¬nx=1:=ω;have e2':¬nx=2:=ω;simp[go_sem,hlt,m0,m1,m2,g0,g1,g2,e0,e1,e2,e0',e1',e2'];refine aM (t:=(.take 0 (.take 1 (.take 2 (.take 3 (.take 4 (.take 5 (.alt 6 [5,4,3,2,1,0] (.take 7 (.take 8 (.alt 9 [8,7,4,3,2,1,0] (.done [7]) .nil))) .nil)))))))) aD κ κ κ (λ_ _ _ _ h=>h) ?_;simp[go_sem,hlt,m0,m1,m2,g0,g1,g2,e0,e1,e2,e0',e1',e2'];refine fN (h0:=h0) (aMa (by have:=c4 k hlt;omega) λi j _ _=>bIz _ _) rfl rfl (λ_=>rfl) ?_;simp[go_sem,hlt,m0,m1,m2,g0,g1,g2,e0,e1,e2,e0',e1',e2'];refine⟨⟨ω,ω⟩,k+1,ω,ω,ω,ω,λi j hi hj=>?_⟩;by_cases e:i=k/\2<=j/\j<3
  ·obtain⟨rfl,h3,h4⟩:=e;have:j=2:=ω;subst this;rw[if_pos ⟨rfl,h3,h4⟩,if_pos (Nat.lt_succ_self _)];rfl
  ·rw[if_neg e,hG i j hi hj];by_cases h1:i<k
   ·rw[if_pos h1,if_pos ω]
   ·by_cases h2:i=k
    ·subst h2;rw[if_neg h1,if_pos (Nat.lt_succ_self _)];rcases(ω:j=0\/j=1) with rfl | rfl <;> rfl
    ·rw[if_neg h1,if_neg ω]
 have hk':k=x.g.nc:=ω;subst hk';have p0:0<nx:=ω;have p1:1<nx:=ω;simp[go_sem,m0,m1,m2,p0,p1];refine aLp ((GSt.wkR 2 (.vec 150 3 x.g.nc λi j=>.r (((x.g.c i).c j).tag true h0)) m2 (Reg.wk_vec (Nat.le_refl _) λi j hi hj=>?_)).trans (GSt.freezeT 2 rfl (by rw[aZ]))) ?_
 ·rw[hG i j hi hj,if_pos hi];exact SV.sub_rfl _
 refine aM (t:=(.take 0 (.take 1 (.take 2 (.take 4 (.take 5 (.take 6 (.alt 3 [6,5,4,2,1,0] (.take 8 (.take 9 (.alt 7 [9,8,6,5,4,1,0] (.alt 10 [9,8,5,4,1,0] (.take 11 (.take 12 (.alt 13 [12,11,8] (.done [11]) .nil))) .nil) .nil))) .nil)))))))) aD κ κ κ (λ_ _ _ _ h=>h) ?_;simp[go_sem,m0,m1,m2,p0,p1];refine fN (h0:=h0) (aMb ω λi j _ hj=>bIy _ hj) rfl rfl (λ_=>rfl) ?_;simp[go_sem,m0,m1,m2,p0,p1];refine fN (h0:=h0) (aMc ω λi j _ hj=>bIr _ hj) rfl rfl (λ_=>rfl) ?_;simp[go_sem,m0,m1,m2,p0,p1];refine aM (t:=(.take 0 (.take 1 (.take 2 (.take 4 (.take 5 (.take 6 (.alt 3 [6,5,4,2,1,0] (.take 8 (.take 9 (.alt 7 [9,8,6,5,4,1,0] (.alt 10 [9,8,5,4,1,0] (.take 11 (.take 12 (.alt 13 [12,11,8] (.done [11]) .nil))) .nil) .nil))) .nil)))))))) aD κ κ κ (λ_ _ _ _ h=>h) ?_;simp[go_sem,m0,m1,m2,p0,p1];refine fN (h0:=h0) (aMd ω λi j _ hj=>bI0 _ hj) rfl rfl (λ_=>rfl) ?_;simp[go_sem,m0,m1,m2,p0,p1];refine fN (h0:=h0) (aMe ω λi j _ hj=>bIw _ hj) rfl rfl (λ_=>rfl) ?_;simp[go_sem,m0,m1,m2,p0,p1];refine aM (t:=(.take 0 (.take 1 (.take 3 (.take 4 (.take 6 (.take 7 (.take 9 (.take 10 (.alt 2 [10,9,7,6,4,3,1,0] (.take 12 (.alt 5 [12,10,9,7,6,4,3,0] (.alt 8 [12,10,9,7,6,3,0] (.alt 11 [12,10,9,6,3,0] (.alt 13 [12,9,6,3,0] (.take 14 (.alt 15 [14] (.take 16 (.alt 17 [16] (.take 18 (.alt 19 [18] (.done []) .nil)) .nil)) .nil)) .nil) .nil) .nil) .nil)) .nil)))))))))) aD κ κ κ (λ_ _ _ _ h=>h) ?_;simp[go_sem,m0,m1,m2,p0,p1];refine fN (h0:=h0) (aMf ω (aDh bIt _ _)) rfl rfl (λ_=>rfl) ?_;simp[go_sem,m0,m1,m2,p0,p1];refine fN (h0:=h0) (aMg ω (aDh bIq _ _)) rfl rfl (λ_=>rfl) ?_;simp[go_sem,m0,m1,m2,p0,p1];refine fN (h0:=h0) (aMh ω (aDh bIu _ _)) rfl rfl (λ_=>rfl) ?_;simp[go_sem,m0,m1,m2,p0,p1];refine fN (h0:=h0) (aMi ω (aDh bIs _ _)) rfl rfl (λ_=>rfl) ?_;simp[go_sem,m0,m1,m2,p0,p1]
 done
theorem aKz {o:OrG} (h:dX o=0):1<=o.k/\o.k<=14:=by
 by_cases hk:1<=o.k/\o.k<=14
 ·exact hk
 have e:cN o=false:=by
  unfold cN;rw[if_neg (ω:¬o.k=1),if_neg (ω:¬o.k=2),if_neg (ω:¬o.k=3),if_neg (ω:¬o.k=4),if_neg (ω:¬o.k=5),if_neg (ω:¬o.k=6),if_neg (ω:¬o.k=7),if_neg (ω:¬o.k=8),if_neg (ω:¬o.k=9),if_neg (ω:¬o.k=10),if_neg (ω:¬o.k=11),if_neg (ω:¬o.k=12),if_neg (ω:¬o.k=13),if_neg (ω:¬o.k=14)]
 unfold dX at h;rw[e] at h;simp at h
theorem aE4 {x:SvG}:x.chkE=0↔x.valid=true:=by
 unfold SvG.chkE SvG.valid
 cases x.setB <;> cases (x.prtB&&x.peoB&&x.timB) <;> simp
def AnG.zero:AnG:=⟨0,0,[]⟩
def pK (x:SvG) (o:OrG):Int:=if x.chkE=0 then dX o else x.chkE
structure OrG.Sm (o:OrG):Prop where
 b:o.rl.byte
 q:(o.q.nk:Int)<2 ^ 61
theorem aWz {o:OrG} (h:dX o=0) (hk:o.k≠13):o.q.nk=0:=by
 have hb:cN o=true:=by
  unfold dX at h
  cases hb:cN o
  ·rw[hb] at h;simp at h
  ·rfl
 by_cases hq:o.bQ=true
 ·exfalso;unfold cN at hb;simp only [if_neg hk,hq] at hb;simp[cH] at hb
 ·have hq:o.bQ=false:=by simpa using hq
  unfold OrG.bQ at hq;simp only [Bool.or_eq_false_iff,decide_eq_false_iff_not] at hq;omega
abbrev SvG.nilC:List SV:=[.i 0,.i 0,.i 0,.i 0,.r (.v (.int .u64 0)),.i 0,aP,aP,aP,aP,aP,aP,aP,aP,aP,aP,aP]
theorem aXp (x:SvG) (o:OrG) (hx:x.OK) (ho:o.Sm):PureW Tryz.prog 18 [x.sv,o.sv] λm=>.tup [if pK x o=0 then .agg (SV.tagL true m (stX x o).cells) else .agg SvG.nilC,(if pK x o=0 then stA x o else AnG.zero).sv,.i (pK x o)]:=by
 refine pA aD Tryz.func18 rfl κ ν rfl rfl λh0=>?_;unfold pK;simp[go_sem];refine aA (aPs x hx) rfl rfl ?_;by_cases hc:x.chkE=0;rotate_left
 ·simp[go_sem,hc,AnG.zero]
 simp[go_sem,hc];refine aA (aC6 o ho.q) rfl rfl ?_;by_cases hoE:dX o=0;rotate_left
 ·simp[go_sem,hoE,AnG.zero]
 have hk:=aKz hoE;simp[go_sem,hoE];refine fN (h0:=h0) (aVc x hx) rfl rfl (λ_=>rfl) ?_;simp[go_sem];have hs:=aXq h0 x o hx (aE4.1 hc) ⟨hk.1,hk.2,ho.b,ho.q⟩ (aWz hoE);obtain⟨y,hy⟩:∃y,stX x o=y:=⟨_,rfl⟩;obtain⟨z,hz⟩:∃z,stA x o=z:=⟨_,rfl⟩;rw[hy,hz] at hs ⊢;refine sE [4] hs (λh=>h) (λ_ _ _ h=>Nat.le_of_eq h.1.symm) (Nat.le_refl _) τ rfl ⟨rfl,trivial⟩ ?_;simp[go_sem];refine aM (t:=(.take 0 (.take 1 (.take 2 (.take 3 (.take 4 (.alt 5 [4,3,2,1,0] (.alt 6 [4] (.take 7 (.done [7])) .nil) .nil))))))) aD κ κ κ (λ_ _ _ _ h=>h) ?_;simp[go_sem]
end Go.Gx.Sr
namespace Go.Gx.Rg
open Go.RowKit Go.Proofs Go.Proofs.YtncccnmmjfapnaaGreat
theorem aPj {c:Nat->Int} {n j:Nat} (h:j<dF c n):c j<0:=by
 unfold dF at h
 cases hf:(List.range n).find? λi=>decide (0<=c i) with
 | none=>
   rw[hf] at h;have:=List.find?_eq_none.1 hf j (List.mem_range.2 (by simpa using h));simpa using this
 | some i=>
   rw[hf] at h;have:=(List.find?_range_eq_some.1 hf).2.2 j (by simpa using h);simpa using this
theorem aPi {c:Nat->Int} {n j:Nat} (hm:∀a b,a<b->b<n->c b<0->c a<0) (h:dF c n<=j) (hj:j<n):0<=c j:=by
 unfold dF at h
 cases hf:(List.range n).find? λi=>decide (0<=c i) with
 | none=>
   rw[hf] at h;simp at h;omega
 | some i=>
   rw[hf] at h;have h1:0<=c i:=by simpa using (List.find?_range_eq_some.1 hf).1
   have h2:i<=j:=by simpa using h
   rcases Nat.lt_or_ge i j with h3 | h3
   ·rcases Int.lt_or_le (c j) 0 with h4 | h4
    ·have:=hm i j h3 hj h4;omega
    ·exact h4
   ·have:j=i:=ω;subst this;exact h1
end Go.Gx.Rg
namespace Go.Gx.Sr
open Go.RowKit Go.Proofs Go.Proofs.YtncccnmmjfapnaaGreat Go.Gx.Ix
theorem aPh (a j:Nat) (hj:j<64):(bT 1#64 a).getLsbD j=decide (j=a):=by
 unfold bT;rw[BitVec.getLsbD_shiftLeft];by_cases h:j<a
 ·simp[h];omega
 ·by_cases e:j=a
  ·subst e;simp[hj]
  ·have:¬j - a=0:=ω;simp[h,e,hj,BitVec.getLsbD_one,this]
theorem aZu (x y:W64) (j:Nat):(iV x y).getLsbD j=(x.getLsbD j||y.getLsbD j):=by unfold iV;simp
theorem aEy (x y:W64) (j:Nat) (hj:j<64):(cR x y).getLsbD j=(x.getLsbD j&&!y.getLsbD j):=by unfold cR;simp[hj]
theorem bB7 {x:W64}:x=0#64↔∀j,j<64->x.getLsbD j=false:=by
 constructor
 ·rintro rfl;simp
 ·intro h;apply BitVec.eq_of_getLsbD_eq;intro i hi;rw[h i hi];simp
def thW (t:Int->Bool) (k:Nat):W64:=(List.range k).foldl (λ(s:W64) (i:Nat)=>if t i then iV s (bT 1#64 i) else s) 0#64
theorem aC1 (t:Int->Bool) (j:Nat) (hj:j<64):∀k,(thW t k).getLsbD j=(decide (j<k)&&t j)
 | 0=>by simp[thW]
 | k+1=>by
   have ih:=aC1 t j hj k;unfold thW at ih ⊢;rw[List.range_succ,List.foldl_append];simp only [List.foldl_cons,List.foldl_nil];by_cases hk:t k=true
   ·rw[if_pos hk,aZu,ih,aPh k j hj];by_cases e:j=k
    ·subst e;simp[hk]
    ·have:j<k+1↔j<k:=ω;simp only [this,e,decide_false,Bool.or_false]
   ·rw[if_neg hk,ih];by_cases e:j=k
    ·subst e;simp[hk]
    ·have:j<k+1↔j<k:=ω;simp only [this]
theorem aO8 {x:SvG} {s:W64} {k:Nat}:cR s (x.knW k)=0#64↔∀j,j<64->s.getLsbD j=true->j<k/\x.g.th j=true:=by
 rw[bB7];constructor
 ·intro h j hj hs;have:=h j hj;rw[aEy _ _ _ hj,hs] at this;have e:=aC1 x.g.th j hj k;rw[show x.knW k=thW x.g.th k from rfl,e] at this;simpa using this
 ·intro h j hj;rw[aEy _ _ _ hj,show x.knW k=thW x.g.th k from rfl,aC1 x.g.th j hj k]
  cases hs:s.getLsbD j with
  | false=>rfl
  | true=>have:=h j hj hs;simp[this.1,this.2]
structure SvG.Va (x:SvG):Prop where
 set:x.setB=true
 g:x.g.valid=true
 r:x.r.valid=true
 ch:fO x.ch=true
 lg:hJ x.lg=true
 now:0<=x.now/\x.now<=maxT
 k4:x.ks.length<=4
 irn:x.ir.length=x.g.nr
 ir:∀i,i<x.ir.length->(x.eye (i:Nat)).ok=true/\(x.g.th (i:Nat)=true\/x.eye (i:Nat)=IrG.z)
 lgp:∀e∈x.lg,e.p<0\/x.g.th e.p=true
 cn:∀a,x.r.InC a->x.g.th a.p=true
 wa:∀a,x.r.InW a->x.g.th a.p=true
 ma:∀a,x.r.InM a->x.g.th a.p=true
 chp:∀c∈x.ch,x.g.th c.p=true
 ks:∀k∈x.ks,k.ok x.key=true/\k.m=x.mage/\k.a<x.now/\∀j,j<64->k.s.getLsbD j=true->x.g.th (j:Nat)=true
 cht:∀c∈x.ch,c.t<=x.now
 lgt:∀e∈x.lg,e.t<=x.now
theorem SvG.va_iff {x:SvG}:x.valid=true↔x.Va:=by
 rw[SvG.valid_iff];simp only [SvG.prtB,SvG.peoB,SvG.timB,SvG.irB,SvG.lgB,SvG.cnB,SvG.waB,SvG.maB,SvG.chB,SvG.kOK,Bool.and_eq_true,decide_eq_true_eq,List.all_eq_true,List.mem_range,Bool.or_eq_true,Bool.not_eq_true',List.any_eq_false,decide_eq_false_iff_not,Ix.btw,aO8,Int.not_lt];constructor
 ·rintro⟨h1,⟨⟨⟨⟨h2,h3⟩,h4⟩,h5⟩,⟨h6,h7⟩,h8⟩,⟨⟨h9,h10⟩,⟨⟨h11,h12⟩,h13⟩,h14⟩,⟨h15,h16⟩,h17⟩;refine⟨h1,h2,h3,h4,h5,h6,h7,h8,h9,h10,?_,?_,?_,h14,λk hk=>?_,h16,h17⟩
  ·rintro a ⟨i,hi,rfl⟩;exact h11 i hi
  ·rintro a ⟨i,hi,rfl⟩;exact h12 i hi
  ·rintro a ⟨i,hi,rfl⟩;exact h13 i hi
  ·obtain⟨⟨⟨a1,a2⟩,a3⟩,a4⟩:=h15 k hk;exact⟨a1,a2,a3,λj hj hs=>(a4 j hj hs).2⟩
 ·intro h;have hth:∀j:Nat,x.g.th j=true->j<x.ir.length:=λj hj=>by
   have:=EG.th_iff.1 hj;have e:=h.irn;omega
  refine⟨h.set,⟨⟨⟨⟨h.g,h.r⟩,h.ch⟩,h.lg⟩,⟨h.now,h.k4⟩,h.irn⟩,⟨⟨h.ir,h.lgp⟩,⟨⟨λi hi=>h.cn _ ⟨i,hi,rfl⟩,λi hi=>h.wa _ ⟨i,hi,rfl⟩⟩,λi hi=>h.ma _ ⟨i,hi,rfl⟩⟩,h.chp⟩,⟨λk hk=>?_,h.cht⟩,h.lgt⟩;obtain⟨a1,a2,a3,a4⟩:=h.ks k hk;exact⟨⟨⟨a1,a2⟩,a3⟩,λj hj hs=>⟨hth j (a4 j hj hs),a4 j hj hs⟩⟩
end Go.Gx.Sr
namespace Go.Gx.Sr
open Go.RowKit Go.Proofs Go.Proofs.YtncccnmmjfapnaaGreat Go.Gx.Ix
theorem aD6 {l:List ChG}:aJa l=true↔l.Pairwise λx y=>x.t<=y.t:=by
 rw[pJ,List.pairwise_iff_getElem];constructor
 ·intro h i j hi hj hij
  induction j with
  | zero=>omega
  | succ j ih=>
    have h1:=h j hj;rcases Nat.lt_or_ge i j with hl | hl
    ·have:=ih ω hl;omega
    ·obtain rfl:i=j:=ω;exact h1
 ·intro h i h2;exact h i (i+1) ω h2 ω
theorem oF {l:List ChG}:fO l=true↔l.length<=60/\(∀c∈l,c.ok=true)/\l.Pairwise λx y=>x.t<=y.t:=by
 unfold fO;rw[Bool.and_eq_true,Bool.and_eq_true,aD6,decide_eq_true_eq,List.all_eq_true,and_assoc]
theorem bJf (k:KsG) (key:W64) (z:W64):({k with z:=z}:KsG).seal key=k.seal key:=rfl
variable {x:SvG}
end Go.Gx.Sr
namespace Go.Gx.Sr
open Go.RowKit Go.Proofs Go.Proofs.YtncccnmmjfapnaaGreat Go.Gx.Ix
deriving instance DecidableEq for AnG
end Go.Gx.Sr
namespace Go.Gx.Rg
open Go.RowKit Go.Proofs Go.Proofs.YtncccnmmjfapnaaGreat
def RG.By (g:RG):Prop:=∀i,i<g.nr->(g.r i).byte
theorem OK_of {g:RG} (hb:g.By) (h:g.great=false):g.OK:=by
 simp[RG.great] at h;exact⟨ω,ω,ω,ω,hb⟩
end Go.Gx.Rg
namespace Go.Gx.Rg
open Go.RowKit Go.WideShapes Go.ChangeShapes Go.Proofs Go.Proofs.YtncccnmmjfapnaaGreat
abbrev eI:CS:=.sc (.int .i64)
abbrev csRule:List CS:=[eI,eI,eI,eI,eI,eI,eI,.sc (.int .u8)]
abbrev csI3:List CS:=[eI,eI,eI]
abbrev csI4:List CS:=[eI,eI,eI,eI]
abbrev csI5:List CS:=[eI,eI,eI,eI,eI]
abbrev gM (l:List CS):CS:=.sl l.length λj=>l.getD j (.sc .bool)
section
variable {W:World}
abbrev ZW (W:World):Nat->Prop:=λb=>b<W.heap.size
theorem aQ {k:IntKind} {v:Value} (h:fI W (.sc (.int k)) v):v.oneCell'=true:=by rw[bN h];rfl
theorem bV {Z:Nat->Prop} {v:Value} (h:fI W eI v):(RV.i (vi v)).rel Z W v:=bN h
theorem bBi {Z:Nat->Prop} {k:IntKind} {v:Value} (h:fI W (.sc (.int k)) v):(RV.v (.int k (vi v))).rel Z W v:=bN h
def bJd (f:Nat->Value):RuleG:=⟨vi (f 0),vi (f 1),vi (f 2),vi (f 3),vi (f 4),vi (f 5),vi (f 6),vi (f 7)⟩
def bJb (f:Nat->Value):ConG:=⟨vi (f 0),vi (f 1),vi (f 2)⟩
def bJe (f:Nat->Value):WarG:=⟨vi (f 0),vi (f 1),vi (f 2),vi (f 3)⟩
def bJc (f:Nat->Value):MarkG:=⟨vi (f 0),vi (f 1),vi (f 2),vi (f 3),vi (f 4)⟩
theorem rule_rows {v:Value} (h:fI W (gM csRule) v):∃(n:Nat) (r:Nat->RuleG),(∀i,i<n->(r i).byte)/\∀σ,(RuleG.rs n r).rel σ (ZW W) W v:=by
 obtain⟨n,cv,_,h1,h2⟩:=iE h;refine⟨n,λi=>bJd (cv i),λi hi=>aSi (h1 i 7 hi δ),λσ=>h2 _ (λi j hi hj=>?_) σ⟩;have hc:=h1 i j hi hj
 match j,hj,hc with
 | 0,_,hc=>exact⟨aQ hc,bV hc⟩
 | 1,_,hc=>exact⟨aQ hc,bV hc⟩
 | 2,_,hc=>exact⟨aQ hc,bV hc⟩
 | 3,_,hc=>exact⟨aQ hc,bV hc⟩
 | 4,_,hc=>exact⟨aQ hc,bV hc⟩
 | 5,_,hc=>exact⟨aQ hc,bV hc⟩
 | 6,_,hc=>exact⟨aQ hc,bV hc⟩
 | 7,_,hc=>exact⟨aQ hc,bBi hc⟩
 | j+8,hj,_=>exact absurd hj τ
theorem con_rows {v:Value} (h:fI W (gM csI3) v):∃(n:Nat) (r:Nat->ConG),∀σ,(ConG.rs n r).rel σ (ZW W) W v:=by
 obtain⟨n,cv,_,h1,h2⟩:=iE h;refine⟨n,λi=>bJb (cv i),λσ=>h2 _ (λi j hi hj=>?_) σ⟩;have hc:=h1 i j hi hj
 match j,hj,hc with
 | 0,_,hc=>exact⟨aQ hc,bV hc⟩
 | 1,_,hc=>exact⟨aQ hc,bV hc⟩
 | 2,_,hc=>exact⟨aQ hc,bV hc⟩
 | j+3,hj,_=>exact absurd hj τ
theorem war_rows {v:Value} (h:fI W (gM csI4) v):∃(n:Nat) (r:Nat->WarG),∀σ,(WarG.rs n r).rel σ (ZW W) W v:=by
 obtain⟨n,cv,_,h1,h2⟩:=iE h;refine⟨n,λi=>bJe (cv i),λσ=>h2 _ (λi j hi hj=>?_) σ⟩;have hc:=h1 i j hi hj
 match j,hj,hc with
 | 0,_,hc=>exact⟨aQ hc,bV hc⟩
 | 1,_,hc=>exact⟨aQ hc,bV hc⟩
 | 2,_,hc=>exact⟨aQ hc,bV hc⟩
 | 3,_,hc=>exact⟨aQ hc,bV hc⟩
 | j+4,hj,_=>exact absurd hj τ
theorem mark_rows {v:Value} (h:fI W (gM csI5) v):∃(n:Nat) (r:Nat->MarkG),∀σ,(MarkG.rs n r).rel σ (ZW W) W v:=by
 obtain⟨n,cv,_,h1,h2⟩:=iE h;refine⟨n,λi=>bJc (cv i),λσ=>h2 _ (λi j hi hj=>?_) σ⟩;have hc:=h1 i j hi hj
 match j,hj,hc with
 | 0,_,hc=>exact⟨aQ hc,bV hc⟩
 | 1,_,hc=>exact⟨aQ hc,bV hc⟩
 | 2,_,hc=>exact⟨aQ hc,bV hc⟩
 | 3,_,hc=>exact⟨aQ hc,bV hc⟩
 | 4,_,hc=>exact⟨aQ hc,bV hc⟩
 | j+5,hj,_=>exact absurd hj τ
theorem int_rows {v:Value} (h:fI W (gM [eI]) v):∃(n:Nat) (r:Nat->Int),∀σ,(SV.r (.rs 1 n λi _=>.i (r i))).rel σ (ZW W) W v:=by
 obtain⟨n,cv,_,h1,h2⟩:=iE h;refine⟨n,λi=>vi (cv i 0),λσ=>h2 _ (λi j hi hj=>?_) σ⟩;have hj0:j=0:=by simp at hj;omega
 subst hj0;have hc:=h1 i 0 hi hj;exact⟨aQ hc,bV hc⟩
end
end Go.Gx.Rg
namespace Go.Gx.Sr
open Go.RowKit Go.WideShapes Go.ChangeShapes Go.Proofs Go.Proofs.YtncccnmmjfapnaaGreat
abbrev xM:CS:=.sc (.int .u64)
abbrev csY:CS:=.sc (.int .u8)
abbrev csO:List CS:=[csY,eI,eI,eI,csB,xM,xM,xM,eI,eI,eI,eI,eI,eI,eI,csY,eI,eI,eI,eI,eI,eI,eI,eI,eI,eI,eI,eI,eI,eI,eI,eI,eI,gM [eI]]
abbrev csS:List CS:=[eI,eI,eI,eI,xM,eI,gM [eI,csB],gM [eI,eI,csB],gM [eI,eI,gM [eI,csB]],gM [xM,xM],gM Rg.csRule,gM Rg.csI3,gM Rg.csI4,gM Rg.csI5,gM [eI,eI,csB],gM [eI,eI,xM,xM],gM [eI,eI,eI,xM,xM,xM,xM]]
theorem bFg:oL Tryz.prog 8 66=some csO:=κ
theorem bFh:oL Tryz.prog 8 43=some csS:=κ
section
variable {W:World}
theorem nX {Z:Nat->Prop} {v:Value} (h:fI W xM v):(RV.w (Ix.v64 v)).rel Z W v:=Ix.rel_v64 h
theorem pZ {α:Type} {k:Nat} {fs:Nat->CS} {v:Value} (h:fI W (.sl k fs) v) (f:α->Nat->RV) (mk:(Nat->Value)->α) (φ:α->Prop)
 (hf:∀cv:Nat->Value,(∀j,j<k->fI W (fs j) (cv j))->φ (mk cv)/\∀j,j<k->(cv j).oneCell'=true/\(f (mk cv) j).rel (ZW W) W (cv j)) :
 ∃l:List α,(∀a∈l,φ a)/\∀σ,(SV.r (.rs k l.length (aY f l))).rel σ (ZW W) W v:=by
 obtain⟨n,cv,_,h1,h2⟩:=iE h;have hl:((List.range n).map λi=>mk (cv i)).length=n:=τ;refine⟨(List.range n).map λi=>mk (cv i),λa ha=>?_,λσ=>?_⟩
 ·obtain⟨i,hi,rfl⟩:=List.mem_map.1 ha;exact(hf (cv i) λj hj=>h1 i j (List.mem_range.1 hi) hj).1
 have:=h2 (aY f ((List.range n).map λi=>mk (cv i))) (λi j hi hj=>?_) σ
 ·rw[hl];exact this
 rw[aI (by rw[hl];exact hi),List.getElem_map,List.getElem_range];exact(hf (cv i) λj hj=>h1 i j hi hj).2 j hj
theorem aM6 {v:Value} (h:fI W (gM [xM,xM]) v):∃l:List Ix.IrG,∀σ,(irs l).rel σ (ZW W) W v:=by
 obtain⟨l,_,hl⟩:=pZ h Ix.IrG.f (λcv=>⟨Ix.v64 (cv 0),Ix.v64 (cv 1)⟩) (λ_=>True) (by
  intro cv hc;refine⟨trivial,λj hj=>?_⟩
  match j,hj,hc j hj with
  | 0,_,hc=>exact⟨aQ hc,nX hc⟩
  | 1,_,hc=>exact⟨aQ hc,nX hc⟩
  | j+2,hj,_=>exact absurd hj τ)
 exact⟨l,hl⟩
theorem aU0 {v:Value} (h:fI W (gM [eI,eI,csB]) v):∃l:List ChG,∀σ,(nY l).rel σ (ZW W) W v:=by
 obtain⟨l,_,hl⟩:=pZ h ChG.f (λcv=>⟨vi (cv 0),vi (cv 1),vb (cv 2)⟩) (λ_=>True) (by
  intro cv hc;refine⟨trivial,λj hj=>?_⟩
  match j,hj,hc j hj with
  | 0,_,hc=>exact⟨aQ hc,bV hc⟩
  | 1,_,hc=>exact⟨aQ hc,bV hc⟩
  | 2,_,hc=>exact⟨yZ hc,zF hc⟩
  | j+3,hj,_=>exact absurd hj τ)
 exact⟨l,hl⟩
theorem aV8 {v:Value} (h:fI W (gM [eI,eI,xM,xM]) v):∃l:List KsG,∀σ,(kss l).rel σ (ZW W) W v:=by
 obtain⟨l,_,hl⟩:=pZ h KsG.f (λcv=>⟨vi (cv 0),vi (cv 1),Ix.v64 (cv 2),Ix.v64 (cv 3)⟩) (λ_=>True) (by
  intro cv hc;refine⟨trivial,λj hj=>?_⟩
  match j,hj,hc j hj with
  | 0,_,hc=>exact⟨aQ hc,bV hc⟩
  | 1,_,hc=>exact⟨aQ hc,bV hc⟩
  | 2,_,hc=>exact⟨aQ hc,nX hc⟩
  | 3,_,hc=>exact⟨aQ hc,nX hc⟩
  | j+4,hj,_=>exact absurd hj τ)
 exact⟨l,hl⟩
theorem aWg {v:Value} (h:fI W (gM [eI,eI,eI,xM,xM,xM,xM]) v):∃l:List EnG,∀σ,(qO l).rel σ (ZW W) W v:=by
 obtain⟨l,_,hl⟩:=pZ h EnG.f (λcv=>⟨vi (cv 0),vi (cv 1),vi (cv 2),Ix.v64 (cv 3),Ix.v64 (cv 4),Ix.v64 (cv 5),Ix.v64 (cv 6)⟩) (λ_=>True) (by
  intro cv hc;refine⟨trivial,λj hj=>?_⟩
  match j,hj,hc j hj with
  | 0,_,hc=>exact⟨aQ hc,bV hc⟩
  | 1,_,hc=>exact⟨aQ hc,bV hc⟩
  | 2,_,hc=>exact⟨aQ hc,bV hc⟩
  | 3,_,hc=>exact⟨aQ hc,nX hc⟩
  | 4,_,hc=>exact⟨aQ hc,nX hc⟩
  | 5,_,hc=>exact⟨aQ hc,nX hc⟩
  | 6,_,hc=>exact⟨aQ hc,nX hc⟩
  | j+7,hj,_=>exact absurd hj τ)
 exact⟨l,hl⟩
section
variable {H:Type} {enc:TypeId × Value->H} {base:Nat} {spare:Nat->Bool} {held:Bool}
theorem aGl {v:Value} {d:DataW H} {p:List MemPlace} {r:Reach} {b0:Nat} (hv:Value.okWide Tryz.prog W r b0 43 v) (h:DataW.Trod enc Tryz.prog W base spare held 43 v d p) :
 ∃x:SvG,x.r.By/\∀σ,x.sv.rel σ (ZW W) W v:=by
 obtain⟨cs,rfl,_⟩:=okWide_struct Tryz.underlying43 hv;have hc:=aB1 bFh h;obtain⟨cs⟩:=cs;simp only [Value.cells] at hc;obtain⟨v0,_,e,h0,v1,_,rfl,h1,v2,_,rfl,h2,v3,_,rfl,h3,v4,_,rfl,h4,v5,_,rfl,h5,v6,_,rfl,h6,v7,_,rfl,h7,v8,_,rfl,h8,v9,_,rfl,h9,v10,_,rfl,h10,v11,_,rfl,h11,v12,_,rfl,h12,v13,_,rfl,h13,v14,_,rfl,h14,v15,_,rfl,h15,v16,_,rfl,h16,rfl⟩:=hc
 cases e
 obtain⟨nr,r,hr⟩:=aS1 h6;obtain⟨nl,l,hl⟩:=aM9 h7;obtain⟨nc,c,hc⟩:=aL6 h8;obtain⟨ir,hir⟩:=aM6 h9;obtain⟨mr,rr,hb,hrr⟩:=Rg.rule_rows h10;obtain⟨mc,rc,hrc⟩:=Rg.con_rows h11;obtain⟨mw,rw',hrw⟩:=Rg.war_rows h12;obtain⟨mm,rm,hrm⟩:=Rg.mark_rows h13;obtain⟨ch,hch⟩:=aU0 h14;obtain⟨ks,hks⟩:=aV8 h15;obtain⟨lg,hlg⟩:=aWg h16;refine⟨⟨vi v0,vi v1,vi v2,vi v3,Ix.v64 v4,vi v5,⟨nr,r,nl,l,nc,c⟩,ir,⟨mr,rr,mc,rc,mw,rw',mm,rm⟩,ch,ks,lg⟩,hb,λσ=>⟨[v0,v1,v2,v3,v4,v5,v6,v7,v8,v9,v10,v11,v12,v13,v14,v15,v16],rfl,λv hv=>?_,v0,_,rfl,bN h0,v1,_,rfl,bN h1,v2,_,rfl,bN h2,v3,_,rfl,bN h3,v4,_,rfl,nX (Z:=ZW W) h4,v5,_,rfl,bN h5,v6,_,rfl,hr σ,v7,_,rfl,hl σ,v8,_,rfl,hc σ,v9,_,rfl,hir σ,v10,_,rfl,hrr σ,v11,_,rfl,hrc σ,v12,_,rfl,hrw σ,v13,_,rfl,hrm σ,v14,_,rfl,hch σ,v15,_,rfl,hks σ,v16,_,rfl,hlg σ,rfl⟩⟩;simp at hv;rcases hv with rfl | rfl | rfl | rfl | rfl | rfl | rfl | rfl | rfl | rfl | rfl | rfl | rfl | rfl | rfl | rfl | rfl
 ·exact aQ h0
 ·exact aQ h1
 ·exact aQ h2
 ·exact aQ h3
 ·exact aQ h4
 ·exact aQ h5
 ·exact iB h6
 ·exact iB h7
 ·exact iB h8
 ·exact iB h9
 ·exact iB h10
 ·exact iB h11
 ·exact iB h12
 ·exact iB h13
 ·exact iB h14
 ·exact iB h15
 ·exact iB h16
theorem aNe {v:Value} {d:DataW H} {p:List MemPlace} {r:Reach} {b0:Nat} (hv:Value.okWide Tryz.prog W r b0 66 v) (h:DataW.Trod enc Tryz.prog W base spare held 66 v d p) :
 ∃o:OrG,(o.rl.byte/\0<=o.k/\o.k<256)/\∀σ,o.sv.rel σ (ZW W) W v:=by
 obtain⟨cs,rfl,_⟩:=okWide_struct Tryz.underlying66 hv;have hc:=aB1 bFg h;obtain⟨cs⟩:=cs;simp only [Value.cells] at hc;obtain⟨v0,_,e,h0,v1,_,rfl,h1,v2,_,rfl,h2,v3,_,rfl,h3,v4,_,rfl,h4,v5,_,rfl,h5,v6,_,rfl,h6,v7,_,rfl,h7,v8,_,rfl,h8,v9,_,rfl,h9,v10,_,rfl,h10,v11,_,rfl,h11,v12,_,rfl,h12,v13,_,rfl,h13,v14,_,rfl,h14,v15,_,rfl,h15,v16,_,rfl,h16,v17,_,rfl,h17,v18,_,rfl,h18,v19,_,rfl,h19,v20,_,rfl,h20,v21,_,rfl,h21,v22,_,rfl,h22,v23,_,rfl,h23,v24,_,rfl,h24,v25,_,rfl,h25,v26,_,rfl,h26,v27,_,rfl,h27,v28,_,rfl,h28,v29,_,rfl,h29,v30,_,rfl,h30,v31,_,rfl,h31,v32,_,rfl,h32,v33,_,rfl,h33,rfl⟩:=hc
 cases e
 obtain⟨n,k,hk⟩:=Rg.int_rows h33;refine⟨⟨vi v0,vi v1,vi v2,vi v3,vb v4,⟨Ix.v64 v5,Ix.v64 v6⟩,Ix.v64 v7,⟨vi v8,vi v9,vi v10,vi v11,vi v12,vi v13,vi v14,vi v15⟩,⟨vi v16,vi v17,vi v18,vi v19⟩,⟨vi v20,vi v21,vi v22⟩,⟨vi v23,vi v24,vi v25,vi v26,vi v27⟩,⟨vi v28,vi v29,vi v30,vi v31,vi v32,n,k⟩⟩,⟨aSi h15,aSi h0⟩,λσ=>⟨[v0,v1,v2,v3,v4,v5,v6,v7,v8,v9,v10,v11,v12,v13,v14,v15,v16,v17,v18,v19,v20,v21,v22,v23,v24,v25,v26,v27,v28,v29,v30,v31,v32,v33],rfl,λv hv=>?_,v0,_,rfl,bN h0,v1,_,rfl,bN h1,v2,_,rfl,bN h2,v3,_,rfl,bN h3,v4,_,rfl,zF (Z:=ZW W) h4,v5,_,rfl,nX (Z:=ZW W) h5,v6,_,rfl,nX (Z:=ZW W) h6,v7,_,rfl,nX (Z:=ZW W) h7,v8,_,rfl,bN h8,v9,_,rfl,bN h9,v10,_,rfl,bN h10,v11,_,rfl,bN h11,v12,_,rfl,bN h12,v13,_,rfl,bN h13,v14,_,rfl,bN h14,v15,_,rfl,bN h15,v16,_,rfl,bN h16,v17,_,rfl,bN h17,v18,_,rfl,bN h18,v19,_,rfl,bN h19,v20,_,rfl,bN h20,v21,_,rfl,bN h21,v22,_,rfl,bN h22,v23,_,rfl,bN h23,v24,_,rfl,bN h24,v25,_,rfl,bN h25,v26,_,rfl,bN h26,v27,_,rfl,bN h27,v28,_,rfl,bN h28,v29,_,rfl,bN h29,v30,_,rfl,bN h30,v31,_,rfl,bN h31,v32,_,rfl,bN h32,v33,_,rfl,hk σ,rfl⟩⟩;simp at hv;rcases hv with rfl | rfl | rfl | rfl | rfl | rfl | rfl | rfl | rfl | rfl | rfl | rfl | rfl | rfl | rfl | rfl | rfl | rfl | rfl | rfl | rfl | rfl | rfl | rfl | rfl | rfl | rfl | rfl | rfl | rfl | rfl | rfl | rfl | rfl
 ·exact aQ h0
 ·exact aQ h1
 ·exact aQ h2
 ·exact aQ h3
 ·exact yZ h4
 ·exact aQ h5
 ·exact aQ h6
 ·exact aQ h7
 ·exact aQ h8
 ·exact aQ h9
 ·exact aQ h10
 ·exact aQ h11
 ·exact aQ h12
 ·exact aQ h13
 ·exact aQ h14
 ·exact aQ h15
 ·exact aQ h16
 ·exact aQ h17
 ·exact aQ h18
 ·exact aQ h19
 ·exact aQ h20
 ·exact aQ h21
 ·exact aQ h22
 ·exact aQ h23
 ·exact aQ h24
 ·exact aQ h25
 ·exact aQ h26
 ·exact aQ h27
 ·exact aQ h28
 ·exact aQ h29
 ·exact aQ h30
 ·exact aQ h31
 ·exact aQ h32
 ·exact iB h33
end
end
end Go.Gx.Sr
namespace Go.Gx.Sr
open Go.RowKit Go.Proofs Go.Proofs.YtncccnmmjfapnaaGreat Go.Gx.Ix
def SvG.great (x:SvG):Bool:=x.g.great||x.r.great||decide (30<(x.ir.length:Int))||decide (100<(x.ch.length:Int))||decide (10<(x.ks.length:Int))||decide (100<(x.lg.length:Int))
theorem aVx (x:SvG):Pure Tryz.prog 17 [x.sv] (· =.b x.great):=by
 refine π Tryz.func17 ?_;unfold SvG.great;simp[go_sem];refine aA (aQ9 x.g) rfl rfl ?_
 cases x.g.great
 rotate_left
 ·simp[go_sem]
 simp[go_sem];refine aA (Rg.great16 x.r) rfl rfl ?_
 cases x.r.great
 rotate_left
 ·simp[go_sem]
 by_cases h1:30<(x.ir.length:Int)
 ·simp[go_sem,h1]
 by_cases h2:100<(x.ch.length:Int)
 ·simp[go_sem,h1,h2]
 by_cases h3:10<(x.ks.length:Int)
 ·simp[go_sem,h1,h2,h3]
 simp[go_sem,h1,h2,h3]
theorem SvG.OK_of {x:SvG} (hb:x.r.By) (h:x.great=false):x.OK/\x.ir.length<=30/\x.ch.length<=100/\x.ks.length<=10/\x.lg.length<=100:=by
 unfold SvG.great at h;simp only [Bool.or_eq_false_iff,decide_eq_false_iff_not] at h;obtain⟨⟨⟨⟨⟨h1,h2⟩,h3⟩,h4⟩,h5⟩,h6⟩:=h;obtain⟨g1,g2,g3,g4,g5⟩:=EG.OK_of h1;have r1:=Rg.OK_of hb h2;have r2:x.r.nr<1000000/\x.r.nc<1000000/\x.r.nw<1000000/\x.r.nm<1000000:=by
  simp[Rg.RG.great] at h2;omega
 exact⟨⟨⟨ω,ω,ω,λi hi=>by have:=g5 i hi;omega⟩,r1,r2.1,r2.2.1,r2.2.2.1,r2.2.2.2,ω,ω,ω,ω⟩,ω,ω,ω,ω⟩
def OrG.great (o:OrG):Bool:=decide (20<(o.q.nk:Int))
theorem aVy (o:OrG):Pure Tryz.prog 24 [o.sv] (· =.b o.great):=by
 refine π Tryz.func24 ?_;unfold OrG.great;simp[go_sem]
theorem jT (n lo hi:Int):Pure Tryz.prog 159 [.i n,.i lo,.i hi] (· =.b (Ix.btw lo hi n)):=by
 refine π Tryz.func159 ?_;by_cases h:lo<=n <;> simp[go_sem,Ix.btw,h]
theorem aCo (n lo hi:Int):Pure Tryz.prog 362 [.i n,.i lo,.i hi] (· =.b (Ix.btw lo hi n)):=by
 refine π Tryz.func362 ?_;by_cases h:lo<=n <;> simp[go_sem,Ix.btw,h]
theorem fG (n lo hi:Int):Pure Tryz.prog 363 [.i n,.i lo,.i hi] (· =.b (Ix.btw lo hi n)):=by
 refine π Tryz.func363 ?_;by_cases h:lo<=n <;> simp[go_sem,Ix.btw,h]
theorem nP (n:Int):Pure Tryz.prog 285 [.i n] (· =.b (qC n)):=by
 refine π Tryz.func285 ?_;simp[go_sem];refine aA (aCo n 0 maxT) rfl rfl ?_;simp[go_sem,qC]
theorem uN (n:Int):Pure Tryz.prog 286 [.i n] (· =.b (psB n)):=by
 refine π Tryz.func286 ?_;simp[go_sem];refine aA (aCo n 0 63) rfl rfl ?_;simp[go_sem,psB]
theorem uL (a b:W64):Pure Tryz.prog 364 [.w a,.w b] (· =.w (vS a b)):=by
 refine π Tryz.func364 ?_;simp[go_sem];simp only [vS]
theorem uJ (b:W64) (x:EnG):Pure Tryz.prog 288 [.w b,x.sv] (· =.w (x.lnk b)):=by
 refine π Tryz.func288 ?_;simp[go_sem];simp only [pO];refine aA (uL b (u64 x.t)) rfl rfl ?_;simp[go_sem];simp only [pO];refine aA (uL _ (u64 x.k)) rfl rfl ?_;simp[go_sem];refine aA (uL _ x.s) rfl rfl ?_;simp[go_sem,EnG.lnk]
theorem or0 (d a:W64):iV d a=0#64↔d.toNat=0/\a.toNat=0:=by
 unfold iV;rw[BitVec.or_eq_zero_iff];have h:∀x:W64,x=0#64↔x.toNat=0:=λx=>by rw[<- BitVec.toNat_inj];rfl
 rw[h,h]
theorem bJ1 (s d a:W64):bY (bY s d) a=0#64↔s=bY d a:=by
 unfold bY;rw[BitVec.xor_assoc];exact BitVec.xor_eq_zero_iff
theorem aBl (x:EnG):Pure Tryz.prog 287 [x.sv] (· =.b x.fit):=by
 obtain⟨c,hc⟩:∃c,x.fit=c:=⟨_,rfl⟩;rw[hc];unfold EnG.fit EnG.rng at hc;refine π Tryz.func287 ?_;simp[go_sem];refine aA (fG x.t 0 maxT) rfl rfl ?_
 cases h1:Ix.btw 0 maxT x.t
 ·rw[h1] at hc;simp[go_sem,<- hc]
 simp[go_sem];refine aA (fG x.k 0 7) rfl rfl ?_
 cases h2:Ix.btw 0 7 x.k
 ·rw[h1,h2] at hc;simp[go_sem,<- hc]
 simp[go_sem];refine aA (fG x.p (-1) 63) rfl rfl ?_
 cases h3:Ix.btw (-1) 63 x.p
 ·rw[h1,h2,h3] at hc;simp[go_sem,<- hc]
 rw[h1,h2,h3] at hc;have h4:-1<=x.p/\x.p<=63:=by simpa [Ix.btw] using h3
 by_cases hp:x.p=-1
 ·rw[if_pos ω] at hc;simp[go_sem,hp];simp only [Bool.true_and,or0] at hc;subst hc;split
  ·rename_i h;simp[h]
  ·rename_i h;simp[h]
 ·rw[if_neg ω] at hc;simp[go_sem,hp];simp only [Bool.true_and,bJ1] at hc;subst hc;rw[decide_eq_decide,Int.ofNat_inj,BitVec.toNat_inj]
theorem aD3 (k:KsG) (key:W64):Pure Tryz.prog 296 [k.sv,.w key] (· =.w (k.seal key)):=by
 refine π Tryz.func296 ?_;simp[go_sem];refine aE aD κ κ ?_;simp[go_sem]
 try simp only [pO]
 refine⟨_,aB (uL key (u64 k.a)) rfl rfl,?_⟩;simp[go_sem];refine⟨_,aB (uL _ k.s) rfl rfl,?_⟩;simp[go_sem]
 try simp only [pO]
 refine⟨_,aB (uL _ (u64 k.m)) rfl rfl,?_⟩;simp[go_sem];rfl
theorem aCc (k:KsG) (key:W64):Pure Tryz.prog 289 [k.sv,.w key] (· =.b (k.ok key)):=by
 obtain⟨c,hc⟩:∃c,k.ok key=c:=⟨_,rfl⟩;rw[hc];unfold KsG.ok at hc;refine π Tryz.func289 ?_;simp[go_sem];refine aE aD κ κ ?_;simp[go_sem];refine⟨_,aB (nP k.a) rfl rfl,?_⟩;obtain⟨a,ha⟩:∃a,qC k.a=a:=⟨_,rfl⟩;rw[ha] at hc ⊢
 cases a
 ·simp at hc;subst hc;simp[go_sem]
 simp[go_sem];refine⟨_,aB (nP k.m) rfl rfl,?_⟩;obtain⟨b,hb⟩:∃b,qC k.m=b:=⟨_,rfl⟩;rw[hb] at hc ⊢
 cases b
 ·simp at hc;subst hc;simp[go_sem]
 simp at hc;subst hc;simp[go_sem];refine⟨_,aB (aD3 k key) rfl rfl,?_⟩;simp[go_sem];rw[Int.ofNat_inj,BitVec.toNat_inj]
theorem eT (x:SvG) (h:x.g.OK) (a:Int):Pure Tryz.prog 202 [x.sv,.i a] (· =.b (x.g.th a)):=by
 refine π Tryz.func202 ?_;simp[go_sem];refine aA (nI x.g h a) rfl rfl ?_;simp[go_sem]
theorem bBr (l l':List ChG) (hn:l.length<=1000000):Pure Tryz.prog 78 [nY l,nY l'] (· =.b (decide (l=l'))):=by
 refine π Tryz.func78 ?_;simp[go_sem];by_cases h:l.length=l'.length;rotate_left
 ·have h':¬l=l':=λe=>h (by rw[e]);simp[go_sem,h,h']
  try omega
 simp[go_sem,h];have hn':l'.length<=1000000:=ω;refine aH aD (α:=Nat) (λk=>[(0,.r (.rs 3 l'.length (aY ChG.f l))),(1,nY l'),(5,.i k)]) (λ_=>[]) 0 (λk=>k<=l'.length/\∀j,j<k->∀(h1:j<l.length) (h2:j<l'.length),l[j]=l'[j]) (λk=>l'.length - k) 0 (λ_=>rfl) τ (by simp[go_sem,h]) ζ ?_;intro k J hi;by_cases hlt:k<l'.length
 ·simp[go_sem,hlt];have hlt1:k<l.length:=ω;have r:=aI (f:=ChG.f) hlt1;have q:=aI (f:=ChG.f) hlt;refine aE aD κ κ ?_;simp[go_sem,hlt,r,q];have hiff:=ChG.iff l[k] l'[k];by_cases he:l[k]=l'[k]
  ·simp[go_sem,he];refine⟨ω,k+1,⟨ω,λj hj h1 h2=>?_⟩,ω,ω⟩;by_cases hjk:j=k
   ·subst hjk;exact he
   ·exact hi.2 j ω h1 h2
  ·have he':=λq=>he (hiff.2 q);have hne:¬l=l':=λe=>he (by simp[e]);simp[go_sem,hne];intro e0 e1 e2;exact absurd ⟨by first | exact e0 | exact Int.ofNat_inj.1 e0 | omega,by first | exact e1 | exact Int.ofNat_inj.1 e1 | omega,by first | exact e2 | exact Int.ofNat_inj.1 e2 | omega⟩ he'
 ·simp[go_sem,hlt];exact gT h λj h1 h2=>hi.2 j ω h1 h2
theorem bBs (l l':List EnG) (hn:l.length<=1000000):Pure Tryz.prog 79 [qO l,qO l'] (· =.b (decide (l=l'))):=by
 refine π Tryz.func79 ?_;simp[go_sem];by_cases h:l.length=l'.length;rotate_left
 ·have h':¬l=l':=λe=>h (by rw[e]);simp[go_sem,h,h']
  try omega
 simp[go_sem,h];have hn':l'.length<=1000000:=ω;refine aH aD (α:=Nat) (λk=>[(0,.r (.rs 7 l'.length (aY EnG.f l))),(1,qO l'),(5,.i k)]) (λ_=>[]) 0 (λk=>k<=l'.length/\∀j,j<k->∀(h1:j<l.length) (h2:j<l'.length),l[j]=l'[j]) (λk=>l'.length - k) 0 (λ_=>rfl) τ (by simp[go_sem,h]) ζ ?_;intro k J hi;by_cases hlt:k<l'.length
 ·simp[go_sem,hlt];have hlt1:k<l.length:=ω;have r:=aI (f:=EnG.f) hlt1;have q:=aI (f:=EnG.f) hlt;refine aE aD κ κ ?_;simp[go_sem,hlt,r,q];have hiff:=EnG.iff l[k] l'[k];by_cases he:l[k]=l'[k]
  ·simp[go_sem,he];refine⟨ω,k+1,⟨ω,λj hj h1 h2=>?_⟩,ω,ω⟩;by_cases hjk:j=k
   ·subst hjk;exact he
   ·exact hi.2 j ω h1 h2
  ·have he':=λq=>he (hiff.2 q);have hne:¬l=l':=λe=>he (by simp[e]);simp[go_sem,hne];intro e0 e1 e2 e3 e4 e5 e6;exact absurd ⟨by first | exact e0 | exact Int.ofNat_inj.1 e0 | omega,by first | exact e1 | exact Int.ofNat_inj.1 e1 | omega,by first | exact e2 | exact Int.ofNat_inj.1 e2 | omega,by first | exact e3 | exact Int.ofNat_inj.1 e3 | omega,by first | exact e4 | exact Int.ofNat_inj.1 e4 | omega,by first | exact e5 | exact Int.ofNat_inj.1 e5 | omega,by first | exact e6 | exact Int.ofNat_inj.1 e6 | omega⟩ he'
 ·simp[go_sem,hlt];exact gT h λj h1 h2=>hi.2 j ω h1 h2
end Go.Gx.Sr
namespace Go.Gx.Rg
open Go.RowKit Go.Proofs Go.Proofs.YtncccnmmjfapnaaGreat
theorem iX (x:ConG):Pure Tryz.prog 281 [x.sv] (· =.b x.good):=by
 obtain⟨c,hc⟩:∃c,x.good=c:=⟨_,rfl⟩;rw[hc];unfold ConG.good at hc;simp only [kindB,persB,timeB] at hc;refine π Tryz.func281 ?_;simp[go_sem];refine aA (oZ x.p) rfl rfl ?_;obtain⟨b0,h0⟩:∃b,btw 0 63 x.p=b:=⟨_,rfl⟩;rw[h0] at hc ⊢
 cases b0
 ·simp at hc;subst hc;simp[go_sem]
 simp[go_sem];refine aA (mU x.q) rfl rfl ?_;obtain⟨b1,h1⟩:∃b,btw 0 7 x.q=b:=⟨_,rfl⟩;rw[h1] at hc ⊢
 cases b1
 ·simp at hc;subst hc;simp[go_sem]
 simp[go_sem];refine aA (pM x.u) rfl rfl ?_;obtain⟨b2,h2⟩:∃b,btw 0 1099511627776 x.u=b:=⟨_,rfl⟩;rw[h2] at hc ⊢
 cases b2
 ·simp at hc;subst hc;simp[go_sem]
 simp at hc;subst hc;simp[go_sem]
theorem validWarrant114 (x:WarG):Pure Tryz.prog 283 [x.sv] (· =.b x.good):=by
 obtain⟨c,hc⟩:∃c,x.good=c:=⟨_,rfl⟩;rw[hc];unfold WarG.good at hc;simp only [kindB,persB,timeB] at hc;refine π Tryz.func283 ?_;simp[go_sem];refine aA (mU x.l) rfl rfl ?_;obtain⟨b0,h0⟩:∃b,btw 0 7 x.l=b:=⟨_,rfl⟩;rw[h0] at hc ⊢
 cases b0
 ·simp at hc;subst hc;simp[go_sem]
 simp[go_sem];refine aA (oZ x.p) rfl rfl ?_;obtain⟨b1,h1⟩:∃b,btw 0 63 x.p=b:=⟨_,rfl⟩;rw[h1] at hc ⊢
 cases b1
 ·simp at hc;subst hc;simp[go_sem]
 simp[go_sem];refine aA (pM x.f) rfl rfl ?_;obtain⟨b2,h2⟩:∃b,btw 0 1099511627776 x.f=b:=⟨_,rfl⟩;rw[h2] at hc ⊢
 cases b2
 ·simp at hc;subst hc;simp[go_sem]
 simp[go_sem];refine aA (pM x.t) rfl rfl ?_;obtain⟨b3,h3⟩:∃b,btw 0 1099511627776 x.t=b:=⟨_,rfl⟩;rw[h3] at hc ⊢
 cases b3
 ·simp at hc;subst hc;simp[go_sem]
 by_cases l4:x.f<x.t;rotate_left
 ·simp[l4] at hc;subst hc;simp[go_sem,l4]
 simp[go_sem,l4];simp[l4] at hc
 try exact hc
theorem nN (x:MarkG):Pure Tryz.prog 284 [x.sv] (· =.b x.good):=by
 obtain⟨c,hc⟩:∃c,x.good=c:=⟨_,rfl⟩;rw[hc];unfold MarkG.good at hc;simp only [kindB,persB,timeB] at hc;refine π Tryz.func284 ?_;simp[go_sem];refine aA (mU x.l) rfl rfl ?_;obtain⟨b0,h0⟩:∃b,btw 0 7 x.l=b:=⟨_,rfl⟩;rw[h0] at hc ⊢
 cases b0
 ·simp at hc;subst hc;simp[go_sem]
 simp[go_sem];refine aA (oZ x.p) rfl rfl ?_;obtain⟨b1,h1⟩:∃b,btw 0 63 x.p=b:=⟨_,rfl⟩;rw[h1] at hc ⊢
 cases b1
 ·simp at hc;subst hc;simp[go_sem]
 simp[go_sem];refine aA (pM x.s) rfl rfl ?_;obtain⟨b2,h2⟩:∃b,btw 0 1099511627776 x.s=b:=⟨_,rfl⟩;rw[h2] at hc ⊢
 cases b2
 ·simp at hc;subst hc;simp[go_sem]
 simp[go_sem];refine aA (pM x.u) rfl rfl ?_;obtain⟨b3,h3⟩:∃b,btw 0 1099511627776 x.u=b:=⟨_,rfl⟩;rw[h3] at hc ⊢
 cases b3
 ·simp at hc;subst hc;simp[go_sem]
 by_cases l4:x.s<x.u;rotate_left
 ·simp[l4] at hc;subst hc;simp[go_sem,l4]
 simp[go_sem,l4];refine aA (iQ x.n 0 1000) rfl rfl ?_;obtain⟨b5,h5⟩:∃b,btw 0 1000 x.n=b:=⟨_,rfl⟩;rw[h5] at hc ⊢
 cases b5
 ·simp at hc;subst hc;simp[go_sem]
 simp[l4] at hc;subst hc;simp[go_sem]
theorem validRule113 (x:RuleG):Pure Tryz.prog 280 [x.sv] (· =.b x.good):=by
 obtain⟨c,hc⟩:∃c,x.good=c:=⟨_,rfl⟩;rw[hc];unfold RuleG.good at hc;simp only [kindB,persB,timeB] at hc;refine π Tryz.func280 ?_;simp[go_sem];refine aA (mU x.p) rfl rfl ?_;obtain⟨b0,h0⟩:∃b,btw 0 7 x.p=b:=⟨_,rfl⟩;rw[h0] at hc ⊢
 cases b0
 ·simp at hc;subst hc;simp[go_sem]
 simp[go_sem];refine aA (mU x.r) rfl rfl ?_;obtain⟨b1,h1⟩:∃b,btw 0 7 x.r=b:=⟨_,rfl⟩;rw[h1] at hc ⊢
 cases b1
 ·simp at hc;subst hc;simp[go_sem]
 simp[go_sem];refine aA (mU x.l) rfl rfl ?_;obtain⟨b2,h2⟩:∃b,btw 0 7 x.l=b:=⟨_,rfl⟩;rw[h2] at hc ⊢
 cases b2
 ·simp at hc;subst hc;simp[go_sem]
 simp[go_sem];refine aA (pM x.f) rfl rfl ?_;obtain⟨b3,h3⟩:∃b,btw 0 1099511627776 x.f=b:=⟨_,rfl⟩;rw[h3] at hc ⊢
 cases b3
 ·simp at hc;subst hc;simp[go_sem]
 simp[go_sem];refine aA (pM x.t) rfl rfl ?_;obtain⟨b4,h4⟩:∃b,btw 0 1099511627776 x.t=b:=⟨_,rfl⟩;rw[h4] at hc ⊢
 cases b4
 ·simp at hc;subst hc;simp[go_sem]
 by_cases l5:x.f<x.t;rotate_left
 ·simp[l5] at hc;subst hc;simp[go_sem,l5]
 simp[go_sem,l5];refine aA (iQ x.k 1 2) rfl rfl ?_;obtain⟨b6,h6⟩:∃b,btw 1 2 x.k=b:=⟨_,rfl⟩;rw[h6] at hc ⊢
 cases b6
 ·simp at hc;subst hc;simp[go_sem]
 simp[go_sem];refine aA (iQ x.s 1 3) rfl rfl ?_;obtain⟨b7,h7⟩:∃b,btw 1 3 x.s=b:=⟨_,rfl⟩;rw[h7] at hc ⊢
 cases b7
 ·simp at hc;subst hc;simp[go_sem]
 simp[l5] at hc;subst hc;simp[go_sem,btw];split <;> omega
theorem valid58 (g:RG) (h:g.OK):Pure Tryz.prog 176 [g.sv] (· =.b g.valid):=by
 refine π Tryz.func176 ?_;have h1:=h.nr;have h2:=h.nc;have h3:=h.nw;have h4:=h.nm;simp[go_sem];split;rotate_left
 ·rename_i a;exact RG.no1 (by unfold RG.c1;rw[decide_eq_false a];rfl)
 rename_i a1;split;rotate_left
 ·rename_i a;exact RG.no2 (by unfold RG.c2;rw[decide_eq_false a];rfl)
 rename_i a2;split;rotate_left
 ·rename_i a;exact RG.no3 (by unfold RG.c3;rw[decide_eq_false a];rfl)
 rename_i a3;split
 ·rename_i a;exact RG.no4 (by unfold RG.c4;rw[decide_eq_false ω];rfl)
 rename_i a4;refine aH aD (α:=Nat) (λk=>[(1,.ptr 0 0 4 0),(3,.i k)]) (λ_=>g.box) 1 (λk=>k<=g.nr/\∀j,j<k->(g.r j).good=true) (λk=>g.nr - k) 0 (λ_=>rfl) τ ζ ζ ?_;intro k J hi;simp[go_sem];split
 ·rename_i hlt;refine⟨hlt,?_⟩;refine aA (validRule113 (g.r k)) rfl rfl ?_;simp[go_sem];split
  ·rename_i hg;exact⟨ω,k+1,⟨ω,eC hi.2 hg⟩,ω,τ⟩
  ·rename_i hg;exact RG.n1 hlt hg
 rename_i hge;have r1:∀j,j<g.nr->(g.r j).good=true:=λj hj=>hi.2 j ω;clear hi;refine aH aD (α:=Nat) (λk=>[(1,.ptr 0 0 4 0),(4,.i k)]) (λ_=>g.box) 1 (λk=>k<=g.nc/\(∀j,j<k->(g.c j).good=true)/\∀j,j+1<k->(g.c j).lt (g.c (j+1))=true) (λk=>g.nc - k) 0 (λ_=>rfl) τ ζ ζ ?_;intro k J hi;simp[go_sem];split
 ·rename_i hlt;refine⟨hlt,?_⟩;refine aE aD κ κ ?_;by_cases hg:(g.c k).good=true
  ·have hv:=(iX (g.c k)).val (v':=.b true) (by rw[hg]);rcases k with _ | k
   ·simp[go_sem];refine⟨_,aB hv rfl rfl,?_⟩;simp[go_sem];exact⟨1,⟨ω,λj hj=>by rw[lt1 hj];exact hg,λj hj=>ω⟩,ω,rfl⟩
   ·simp[go_sem];refine⟨_,aB hv rfl rfl,?_⟩;simp[go_sem];refine⟨ω,ω,ω,ω,?_⟩;by_cases hl:(g.c k).lt (g.c (k+1))=true
    ·refine⟨_,aB ((jM (g.c k).p (g.c k).q (g.c (k+1)).p (g.c (k+1)).q).val (v':=.b true) (by rw[<- hl];rfl)) rfl rfl,?_⟩;simp[go_sem];refine⟨ω,k+2,⟨ω,eC hi.2.1 hg,λj hj=>?_⟩,ω,ω⟩;by_cases hjk:j=k
     ·subst hjk;exact hl
     ·exact hi.2.2 j ω
    ·refine⟨_,aB ((jM (g.c k).p (g.c k).q (g.c (k+1)).p (g.c (k+1)).q).val (v':=.b false) (by simp at hl;rw[<- hl];rfl)) rfl rfl,?_⟩;simp[go_sem];exact RG.n5 hlt hl
  ·have hv:=(iX (g.c k)).val (v':=.b false) (by simp at hg;rw[hg]);simp[go_sem];refine⟨_,aB hv rfl rfl,?_⟩;simp[go_sem];exact RG.n2 hlt hg
 rename_i hge2;have r2:∀j,j<g.nc->(g.c j).good=true:=λj hj=>hi.2.1 j ω;have r5:∀j,j+1<g.nc->(g.c j).lt (g.c (j+1))=true:=λj hj=>hi.2.2 j ω;clear hi;refine aH aD (α:=Nat) (λk=>[(1,.ptr 0 0 4 0),(6,.i k)]) (λ_=>g.box) 1 (λk=>k<=g.nw/\∀j,j<k->(g.w j).good=true) (λk=>g.nw - k) 0 (λ_=>rfl) τ ζ ζ ?_;intro k J hi;simp[go_sem];split
 ·rename_i hlt;refine⟨hlt,?_⟩;refine aA (validWarrant114 (g.w k)) rfl rfl ?_;simp[go_sem];split
  ·rename_i hg;exact⟨ω,k+1,⟨ω,eC hi.2 hg⟩,ω,τ⟩
  ·rename_i hg;exact RG.n3 hlt hg
 rename_i hge3;have r3:∀j,j<g.nw->(g.w j).good=true:=λj hj=>hi.2 j ω;clear hi;refine aH aD (α:=Nat) (λk=>[(1,.ptr 0 0 4 0),(7,.i k)]) (λ_=>g.box) 1 (λk=>k<=g.nm/\(∀j,j<k->(g.m j).good=true)/\∀j,j+1<k->(g.m j).lt (g.m (j+1))=true) (λk=>g.nm - k) 0 (λ_=>rfl) τ ζ ζ ?_;intro k J hi;simp[go_sem];split
 ·rename_i hlt;refine⟨hlt,?_⟩;refine aE aD κ κ ?_;by_cases hg:(g.m k).good=true
  ·have hv:=(nN (g.m k)).val (v':=.b true) (by rw[hg]);rcases k with _ | k
   ·simp[go_sem];refine⟨_,aB hv rfl rfl,?_⟩;simp[go_sem];exact⟨1,⟨ω,λj hj=>by rw[lt1 hj];exact hg,λj hj=>ω⟩,ω,rfl⟩
   ·simp[go_sem];refine⟨_,aB hv rfl rfl,?_⟩;simp[go_sem];refine⟨ω,ω,ω,ω,?_⟩;by_cases hl:(g.m k).lt (g.m (k+1))=true
    ·refine⟨_,aB ((jM (g.m k).l (g.m k).p (g.m (k+1)).l (g.m (k+1)).p).val (v':=.b true) (by rw[<- hl];rfl)) rfl rfl,?_⟩;simp[go_sem];refine⟨ω,k+2,⟨ω,eC hi.2.1 hg,λj hj=>?_⟩,ω,ω⟩;by_cases hjk:j=k
     ·subst hjk;exact hl
     ·exact hi.2.2 j ω
    ·refine⟨_,aB ((jM (g.m k).l (g.m k).p (g.m (k+1)).l (g.m (k+1)).p).val (v':=.b false) (by simp at hl;rw[<- hl];rfl)) rfl rfl,?_⟩;simp[go_sem];exact RG.n6 hlt hl
  ·have hv:=(nN (g.m k)).val (v':=.b false) (by simp at hg;rw[hg]);simp[go_sem];refine⟨_,aB hv rfl rfl,?_⟩;simp[go_sem];exact RG.n4 hlt hg
 rename_i hge4;have r4:∀j,j<g.nm->(g.m j).good=true:=λj hj=>hi.2.1 j ω;have r6:∀j,j+1<g.nm->(g.m j).lt (g.m (j+1))=true:=λj hj=>hi.2.2 j ω;have e1:g.c1=true:=by unfold RG.c1;rw[decide_eq_true a1,cG r1];rfl
 have e2:g.c2=true:=by unfold RG.c2;rw[decide_eq_true a2,cG r2];rfl
 have e3:g.c3=true:=by unfold RG.c3;rw[decide_eq_true a3,cG r3];rfl
 have e4:g.c4=true:=by unfold RG.c4;rw[decide_eq_true ω,cG r4];rfl
 have e5:g.c5=true:=by unfold RG.c5;exact cG λj hj=>r5 j ω
 have e6:g.c6=true:=by unfold RG.c6;exact cG λj hj=>r6 j ω
 simp[RG.valid,e1,e2,e3,e4,e5,e6]
end Go.Gx.Rg
namespace Go.Gx.Sr
open Go.RowKit Go.Proofs Go.Proofs.YtncccnmmjfapnaaGreat Go.Gx.Ix
theorem aE3 {l:List ChG} {k:Nat} (h:k<l.length) (hn:l[k].ok=false):fO l=false:=by
 cases hc:fO l
 ·rfl
 ·have:=(oF.1 hc).2.1 l[k] (List.getElem_mem h);rw[hn] at this;cases this
theorem aPp {l:List ChG} {k:Nat} (h:k+1<l.length) (hn:l[k+1].t<l[k].t):fO l=false:=by
 cases hc:fO l
 ·rfl
 ·have:=pJ.1 (aD6.2 (oF.1 hc).2.2) k h;omega
theorem aGx (l:List ChG) (hn:l.length<1000000):Pure Tryz.prog 177 [nY l] (· =.b (fO l)):=by
 obtain⟨c,hc⟩:∃c,fO l=c:=⟨_,rfl⟩;rw[hc];refine π Tryz.func177 ?_;simp[go_sem];by_cases h60:(60:Int)<l.length
 ·have:fO l=false:=by
   cases h:fO l
   ·rfl
   ·have:=(oF.1 h).1;omega
  rw[this] at hc;subst hc;simp[go_sem,h60]
 simp[go_sem,h60];refine aH aD (α:=Nat) (λk=>[(0,nY l),(3,.i k)]) (λ_=>[]) 0 (λk=>k<=l.length/\(∀j (h:j<l.length),j<k->l[j].ok=true)/\∀j (h:j+1<l.length),j+1<k->l[j].t<=l[j+1].t) (λk=>l.length - k) 0 (λ_=>rfl) τ ζ ζ ?_;intro k J hi;by_cases hlt:k<l.length;rotate_left
 ·have:fO l=true:=oF.2 ⟨ω,λc hc=>by
   obtain⟨i,h,rfl⟩:=List.getElem_of_mem hc;exact hi.2.1 i h ω,aD6.1 (pJ.2 λi h=>hi.2.2 i h ω)⟩
  rw[this] at hc;subst hc;simp[go_sem,hlt]
 have q:=aI (f:=ChG.f) hlt;simp[go_sem,hlt];refine aE aD κ κ ?_
 cases h1:qC l[k].t
 ·have hv:=(nP l[k].t).val (v':=.b false) (by rw[h1]);have:fO l=false:=aE3 hlt (by unfold ChG.ok;rw[h1];rfl);rw[this] at hc;subst hc;simp[go_sem,hlt,q]
  first | refine⟨_,aB hv rfl rfl,?_⟩ | refine⟨ω,_,aB hv rfl rfl,?_⟩ | refine⟨⟨ω,ω⟩,_,aB hv rfl rfl,?_⟩ | refine⟨⟨ω,ω⟩,ω,_,aB hv rfl rfl,?_⟩
  simp[go_sem,hlt,q]
 have hv:=(nP l[k].t).val (v':=.b true) (by rw[h1])
 cases h2:psB l[k].p
 ·have hw:=(uN l[k].p).val (v':=.b false) (by rw[h2]);have:fO l=false:=aE3 hlt (by unfold ChG.ok;rw[h1,h2];rfl);rw[this] at hc;subst hc;simp[go_sem,hlt,q]
  first | refine⟨_,aB hv rfl rfl,?_⟩ | refine⟨ω,_,aB hv rfl rfl,?_⟩ | refine⟨⟨ω,ω⟩,_,aB hv rfl rfl,?_⟩ | refine⟨⟨ω,ω⟩,ω,_,aB hv rfl rfl,?_⟩
  simp[go_sem,hlt,q]
  first | refine⟨_,aB hw rfl rfl,?_⟩ | refine⟨ω,_,aB hw rfl rfl,?_⟩ | refine⟨⟨ω,ω⟩,_,aB hw rfl rfl,?_⟩ | refine⟨⟨ω,ω⟩,ω,_,aB hw rfl rfl,?_⟩
  simp[go_sem,hlt,q]
 have hw:=(uN l[k].p).val (v':=.b true) (by rw[h2]);have hok:l[k].ok=true:=by unfold ChG.ok;rw[h1,h2];rfl
 have hstep:∀j (h:j<l.length),j<k+1->l[j].ok=true:=λj h hj=>by
  by_cases e:j=k
  ·subst e;exact hok
  ·exact hi.2.1 j h ω
 rcases k with _ | k
 ·simp[go_sem,hlt,q]
  first | refine⟨_,aB hv rfl rfl,?_⟩ | refine⟨ω,_,aB hv rfl rfl,?_⟩ | refine⟨⟨ω,ω⟩,_,aB hv rfl rfl,?_⟩ | refine⟨⟨ω,ω⟩,ω,_,aB hv rfl rfl,?_⟩
  simp[go_sem,hlt,q]
  first | refine⟨_,aB hw rfl rfl,?_⟩ | refine⟨ω,_,aB hw rfl rfl,?_⟩ | refine⟨⟨ω,ω⟩,_,aB hw rfl rfl,?_⟩ | refine⟨⟨ω,ω⟩,ω,_,aB hw rfl rfl,?_⟩
  simp[go_sem,hlt,q];exact⟨1,⟨ω,hstep,λj h hj=>ω⟩,ω,rfl⟩
 have q':=aI (f:=ChG.f) (show k<l.length by omega);simp[go_sem,hlt,q]
 first | refine⟨_,aB hv rfl rfl,?_⟩ | refine⟨ω,_,aB hv rfl rfl,?_⟩ | refine⟨⟨ω,ω⟩,_,aB hv rfl rfl,?_⟩ | refine⟨⟨ω,ω⟩,ω,_,aB hv rfl rfl,?_⟩
 simp[go_sem,hlt,q]
 first | refine⟨_,aB hw rfl rfl,?_⟩ | refine⟨ω,_,aB hw rfl rfl,?_⟩ | refine⟨⟨ω,ω⟩,_,aB hw rfl rfl,?_⟩ | refine⟨⟨ω,ω⟩,ω,_,aB hw rfl rfl,?_⟩
 simp[go_sem,hlt,q,q'];refine⟨⟨ω,ω⟩,ω,ω,?_⟩;by_cases ht:l[k+1].t<l[k].t
 ·rw[if_pos ht,<- hc];exact aPp hlt ht
 ·rw[if_neg ht];exact⟨⟨ω,ω⟩,k+2,⟨ω,hstep,λj h hj=>by
   by_cases e:j=k
   ·subst e;omega
   ·exact hi.2.2 j h ω⟩,ω,ω⟩
theorem aWf {l:List EnG} {k:Nat} (h:k<l.length) (hn:(vT l k).stp l[k]=false):hJ l=false:=by
 unfold hJ;rw[aR3 h (by rw[yV h];exact hn),Bool.and_false]
theorem rC (l:List EnG) (hn:l.length<1000000):Pure Tryz.prog 178 [qO l] (· =.b (hJ l)):=by
 obtain⟨c,hc⟩:∃c,hJ l=c:=⟨_,rfl⟩;rw[hc];refine π Tryz.func178 ?_;simp[go_sem];by_cases h60:(60:Int)<l.length
 ·have:hJ l=false:=by
   unfold hJ;rw[decide_eq_false ω];rfl
  rw[this] at hc;subst hc;simp[go_sem,h60]
 simp[go_sem,h60];refine aH aD (α:=Nat) (λk=>[(0,qO l),(3,.w (vT l k).l),(4,.i k)]) (λ_=>[]) 0 (λk=>k<=l.length/\∀j,j<k->aAs l j=true) (λk=>l.length - k) 0 (λ_=>rfl) τ (by simp[go_sem,vT,EnG.zero]) ζ ?_;intro k J hi;by_cases hlt:k<l.length;rotate_left
 ·have:hJ l=true:=by
   unfold hJ;rw[aKq hi.2 ω,decide_eq_true ω];rfl
  rw[this] at hc;subst hc;simp[go_sem,hlt]
 have q:=aI (f:=EnG.f) hlt;have hno:(vT l k).stp l[k]=false->c=false:=λh=>by rw[<- hc];exact aWf hlt h
 have hstep:(vT l k).stp l[k]=true->∀j,j<k+1->aAs l j=true:=λh j hj=>by
  by_cases e:j=k
  ·subst e;rw[yV hlt];exact h
  ·exact hi.2 j ω
 obtain⟨P,hP⟩:∃P,vT l k=P:=⟨_,rfl⟩;have hps:vT l (k+1)=l[k]:=zC hlt;rw[hP] at hno hstep;simp only [hP];have hs:P.stp l[k]=(l[k].fit&&decide (P.t<=l[k].t)&&decide (l[k].l=l[k].lnk P.l)):=rfl;simp[go_sem,hlt];refine aE aD κ κ ?_
 cases h1:l[k].fit
 ·have hv:=(aBl l[k]).val (v':=.b false) (by rw[h1]);have:=hno (by rw[hs,h1];rfl);subst this;simp[go_sem,hlt,q]
  first | refine⟨_,aB hv rfl rfl,?_⟩ | refine⟨ω,_,aB hv rfl rfl,?_⟩ | refine⟨⟨ω,ω⟩,_,aB hv rfl rfl,?_⟩ | refine⟨⟨ω,ω⟩,ω,_,aB hv rfl rfl,?_⟩
  simp[go_sem,hlt,q]
 have hv:=(aBl l[k]).val (v':=.b true) (by rw[h1]);rcases k with _ | k
 ·simp[go_sem,hlt,q]
  first | refine⟨_,aB hv rfl rfl,?_⟩ | refine⟨ω,_,aB hv rfl rfl,?_⟩ | refine⟨⟨ω,ω⟩,_,aB hv rfl rfl,?_⟩ | refine⟨⟨ω,ω⟩,ω,_,aB hv rfl rfl,?_⟩
  simp[go_sem,hlt,q];have hPt:P.t<=l[0].t:=by
   have e:P.t=0:=by rw[<- hP];rfl
   have h2:=h1;unfold EnG.fit EnG.rng at h2;simp only [Bool.and_eq_true,Ix.btw,decide_eq_true_eq] at h2;omega
  refine aA (uJ P.l l[0]) rfl rfl ?_;by_cases hl:l[0].l=l[0].lnk P.l
  ·have hst:P.stp l[0]=true:=by rw[hs,h1,decide_eq_true hPt,decide_eq_true hl];rfl
   simp[go_sem,hlt,q,hl];exact⟨1,⟨ω,hstep hst⟩,ω,by rw[show vT l 1=l[0] from hps,hl],rfl⟩
  ·have hl':¬l[0].l.toNat=(l[0].lnk P.l).toNat:=λe=>hl (BitVec.eq_of_toNat_eq e);have:=hno (by rw[hs,decide_eq_false hl,Bool.and_false]);subst this;simp[go_sem,hlt,q,hl'];exact λe=>absurd (Int.ofNat_inj.1 e) hl'
 have q':=aI (f:=EnG.f) (show k<l.length by omega);simp[go_sem,hlt,q]
 first | refine⟨_,aB hv rfl rfl,?_⟩ | refine⟨ω,_,aB hv rfl rfl,?_⟩ | refine⟨⟨ω,ω⟩,_,aB hv rfl rfl,?_⟩ | refine⟨⟨ω,ω⟩,ω,_,aB hv rfl rfl,?_⟩
 simp[go_sem,hlt,q,q'];refine⟨⟨ω,ω⟩,ω,ω,?_⟩;have hPe:P=l[k]:=by rw[<- hP];exact zC ω
 by_cases ht:l[k+1].t<l[k].t
 ·rw[if_pos ht];exact hno (by rw[hs,hPe,decide_eq_false (ω:¬l[k].t<=l[k+1].t),Bool.and_false,Bool.false_and])
 rw[if_neg ht];have hPt:P.t<=l[k+1].t:=by rw[hPe];omega
 refine⟨⟨ω,ω⟩,?_⟩;refine aA (uJ P.l l[k+1]) rfl rfl ?_;by_cases hl:l[k+1].l=l[k+1].lnk P.l
 ·have hst:P.stp l[k+1]=true:=by rw[hs,h1,decide_eq_true hPt,decide_eq_true hl];rfl
  simp[go_sem,hlt,q,hl];exact⟨⟨ω,ω⟩,⟨ω,ω⟩,k+1+1,⟨ω,hstep hst⟩,ω,by rw[hps,hl],ω⟩
 ·have hl':¬l[k+1].l.toNat=(l[k+1].lnk P.l).toNat:=λe=>hl (BitVec.eq_of_toNat_eq e);have:=hno (by rw[hs,decide_eq_false hl,Bool.and_false]);subst this;simp[go_sem,hlt,q,hl'];exact⟨⟨ω,ω⟩,λe=>absurd (Int.ofNat_inj.1 e) hl'⟩
end Go.Gx.Sr
