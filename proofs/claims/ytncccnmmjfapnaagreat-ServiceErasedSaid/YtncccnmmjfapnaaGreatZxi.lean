/-
  Texts of the walk, merged: Xi.
-/
import Derived.Test.YtncccnmmjfapnaaGreatZxh
set_option linter.unusedVariables false
set_option linter.unusedSimpArgs false
set_option maxRecDepth 100000
set_option maxHeartbeats 4000000
namespace Go.Gx.Sr
open Go.RowKit Go.Proofs Go.Proofs.YtncccnmmjfapnaaGreat Go.Gx.Ix
variable {x:SvG}
def detE (a:Int) (e:EnG) (d:Option W64):EnG:=match d with | some d=>if e.p=a then {e with d:=d,a:=xor64 e.s d} else e | none=>e
def detL (l:List EnG) (a:Int) (ds:List W64):List EnG:=l.mapIdx λi e=>detE a e ds[i]?
theorem detE_same (a:Int) (e:EnG) (d:Option W64):(detE a e d).t=e.t∧(detE a e d).k=e.k∧(detE a e d).p=e.p∧(detE a e d).s=e.s∧(detE a e d).l=e.l:=by
 unfold detE
 split
 ·split <;> exact⟨rfl,rfl,rfl,rfl,rfl⟩
 ·exact⟨rfl,rfl,rfl,rfl,rfl⟩
theorem detE_er (a:Int) (e:EnG) (d:Option W64):(detE a e d).er a=e.er a:=by
 unfold detE
 split
 ·split
  ·rename_i h
   unfold EnG.er
   rw[if_pos h,if_pos (by exact h)]
  ·rfl
 ·rfl
theorem detL_len (l:List EnG) (a:Int) (ds:List W64):(detL l a ds).length=l.length:=by simp[detL]
theorem detL_get {l:List EnG} {a:Int} {ds:List W64} {i:Nat} (h:i<l.length):(detL l a ds)[i]'(by rw[detL_len];exact h)=detE a l[i] ds[i]?:=by simp[detL]
theorem detL_er (l:List EnG) (a:Int) (ds:List W64):erL (detL l a ds) a=erL l a:=by
 refine List.ext_getElem (by simp[erL,detL_len]) λi h1 h2=>?_
 have hi:i<l.length:=by simpa [erL] using h2
 simp only [erL,List.getElem_map]
 rw[detL_get hi,detE_er]
theorem detL_n (l:List EnG) (a:Int) (ds:List W64):erN (detL l a ds) a=erN l a:=by
 have e:∀l:List EnG,erN l a=((l.map λx:EnG=>x.p).filter λp=>decide (p=a)).length:=λl=>by
  unfold erN;rw[List.filter_map,List.length_map];rfl
 rw[e,e]
 congr 2
 refine List.ext_getElem (by simp[detL_len]) λi h1 h2=>?_
 have hi:i<l.length:=by simpa using h2
 rw[List.getElem_map,List.getElem_map,detL_get hi]
 exact(detE_same a l[i] ds[i]?).2.2.1
theorem detL_mem {l:List EnG} {a:Int} {ds:List W64} {e:EnG} (h:e∈detL l a ds):∃y∈l,e.p=y.p∧e.t=y.t:=by
 obtain⟨i,hi,rfl⟩:=List.getElem_of_mem h
 have hi':i<l.length:=by rw[detL_len] at hi;exact hi
 rw[detL_get hi']
 have:=detE_same a l[i] ds[i]?
 exact⟨l[i],List.getElem_mem hi',this.2.2.1,this.1⟩
theorem detE_stp {y y' x:EnG} {a:Int} {d:Option W64} (ha:0≤a) (ht:y'.t=y.t) (hl:y'.l=y.l) (h:y.stp x=true):y'.stp (detE a x d)=true:=by
 have hs:=detE_same a x d
 unfold EnG.stp at h ⊢
 simp only [Bool.and_eq_true,decide_eq_true_eq] at h ⊢
 refine⟨⟨?_,by rw[ht,hs.1];exact h.1.2⟩,?_⟩
 ·have h1:=h.1.1
  unfold EnG.fit EnG.rng at h1 ⊢
  simp only [Bool.and_eq_true] at h1 ⊢
  rw[hs.1,hs.2.1,hs.2.2.1]
  refine⟨h1.1,?_⟩
  have h2:=h1.2
  by_cases hp:x.p<0
  ·rw[if_pos hp] at h2 ⊢
   have e:detE a x d=x:=by
    unfold detE
    split
    ·rw[if_neg (by omega)]
    ·rfl
   rw[e];exact h2
  ·rw[if_neg hp] at h2 ⊢
   unfold detE
   split
   ·split
    ·simp[xor64]
    ·exact h2
   ·exact h2
 ·rw[hs.2.2.2.2,hl]
  rw[h.2]
  unfold EnG.lnk
  rw[hs.1,hs.2.1,hs.2.2.2.1]
theorem detL_prv {l:List EnG} {a:Int} {ds:List W64} (j:Nat):(prv (detL l a ds) j).t=(prv l j).t∧(prv (detL l a ds) j).l=(prv l j).l:=by
 unfold prv
 split
 ·exact⟨rfl,rfl⟩
 ·by_cases h:j - 1<l.length
  ·rw[List.getElem?_eq_getElem h,List.getElem?_eq_getElem (by rw[detL_len];exact h),detL_get h]
   have:=detE_same a l[j - 1] ds[j - 1]?
   exact⟨this.1,this.2.2.2.2⟩
  ·rw[List.getElem?_eq_none (l:=l) (by omega),List.getElem?_eq_none (l:=detL l a ds) (by rw[detL_len];omega)]
   exact⟨rfl,rfl⟩
theorem detL_ok {l:List EnG} (h:lgOK l=true) {a:Int} (ha:0≤a) (ds:List W64):lgOK (detL l a ds)=true:=by
 unfold lgOK lgB at h ⊢
 simp only [Bool.and_eq_true,decide_eq_true_eq,List.all_eq_true,List.mem_range] at h ⊢
 rw[detL_len]
 refine⟨h.1,λj hj=>?_⟩
 have h1:=h.2 j hj
 unfold okAt at h1 ⊢
 have h2:=detL_prv (l:=l) (a:=a) (ds:=ds) j
 rw[List.getElem?_eq_getElem hj] at h1
 rw[List.getElem?_eq_getElem (by rw[detL_len];exact hj),detL_get hj]
 exact detE_stp ha h2.1 h2.2 h1
def _root_.Go.Gx.EG.othG (g:EG) (a:Nat) (q:Int):EG:={g.remG a with r:=λi=>if i=a then ⟨q,(g.r i).g⟩ else g.r i}
def SvG.oth (x:SvG) (a:Int) (code:IrG) (q:Int) (ds:List W64):SvG:=
 {x with g:=x.g.othG a.toNat q,ir:=x.ir.set a.toNat code,ch:=x.ch.filter (λc=>!decide (c.p=a)),r:=x.r.forget a,lg:=detL x.lg a ds}
theorem oth_th (g:EG) (a:Nat) (q b:Int):(g.othG a q).th b=g.th b:=by
 unfold EG.th
 show(btw 0 ((g.nr:Int) - 1) b&&!(if b.toNat=a then (⟨q,(g.r b.toNat).g⟩:RcG) else g.r b.toNat).g)=_
 split <;> rfl
theorem oth_val {g:EG} (h:g.Val) (a:Nat) {q:Int} (hq:0≤q∧q≤100):(g.othG a q).Val:=by
 have hl:∀i,i<(kept (g.lp a) g.nl).length→(kept (g.lp a) g.nl)[i]?.getD 0<g.nl∧g.lp a ((kept (g.lp a) g.nl)[i]?.getD 0)=false:=λi hi=>kept_at hi
 have hc:∀i,i<(kept (g.cp a) g.nc).length→(kept (g.cp a) g.nc)[i]?.getD 0<g.nc∧g.cp a ((kept (g.cp a) g.nc)[i]?.getD 0)=false:=λi hi=>kept_at hi
 have hr:=h.remG a
 refine⟨hr.nr,hr.nc,λi hi=>?_,hr.ls,λi hi=>?_,hr.cs,λi hi=>?_,hr.cl,hr.cv,λi hi hs hcn=>?_⟩
 ·show 0≤(if i=a then (⟨q,(g.r i).g⟩:RcG) else g.r i).q∧(if i=a then (⟨q,(g.r i).g⟩:RcG) else g.r i).q≤100
  split
  ·exact hq
  ·exact h.qu i hi
 ·have h1:=h.lp _ (hl i hi).1
  exact⟨(oth_th g a q _).trans h1.1,(oth_th g a q _).trans h1.2.1,h1.2.2⟩
 ·have h1:=h.cp _ (hc i hi).1
  exact⟨(oth_th g a q _).trans h1.1,(oth_th g a q _).trans h1.2.1,h1.2.2⟩
 ·exact hr.ld i hi hs ((con_same (g:=g.othG a q) (h:=g.remG a) rfl).1 hcn)
theorem oth_eye (h:x.Va) {a:Int} (ht:x.g.th a=true) {code:IrG} {q:Int} {ds:List W64} {i:Nat} (hi:i<x.ir.length):(x.oth a code q ds).eye i=if (i:Int)=a then code else x.eye i:=by
 have hlt:=EG.th_lt ht
 unfold SvG.eye SvG.oth
 simp only [Int.toNat_natCast]
 by_cases e:(i:Int)=a
 ·have e':i=a.toNat:=by omega
  subst e'
  rw[List.getElem?_set_self hi,if_pos e];rfl
 ·rw[List.getElem?_set_ne (by omega),if_neg e]
theorem oth_va (h:x.Va) {a:Int} (ht:x.g.th a=true) {code:IrG} (hc:code.ok=true) {q:Int} (hq:0≤q∧q≤100) (ds:List W64):(x.oth a code q ds).Va:=by
 have hlt:=EG.th_lt ht
 have hth:∀b,(x.oth a code q ds).g.th b=x.g.th b:=λb=>oth_th x.g a.toNat q b
 refine⟨h.set,EG.val_iff.2 (oth_val (EG.val_iff.1 h.g) _ hq),Rg.RG.forget_valid h.r,chOK_filter h.ch _,detL_ok h.lg hlt.1 ds,h.now,h.k4,?_,λi hi=>?_,λe he=>?_,λc hc=>?_,λc hc=>?_,λc hc=>?_,λc hc=>?_,λk hk=>?_,λc hc=>?_,λe he=>?_⟩
 ·show(x.ir.set _ _).length=x.g.nr
  rw[List.length_set];exact h.irn
 ·have hi:i<(x.ir.set a.toNat code).length:=hi
  rw[List.length_set] at hi
  rw[oth_eye h ht hi,hth]
  split
  ·rename_i e
   rw[e]
   exact⟨hc,.inl ht⟩
  ·exact h.ir i hi
 ·obtain⟨y,hy,e1,e2⟩:=detL_mem he
  rw[e1,hth]
  exact h.lgp y hy
 ·rw[hth]
  exact h.cn c (Rg.RG.forget_C.1 hc).1
 ·rw[hth]
  exact h.wa c (Rg.RG.forget_W.1 hc).1
 ·rw[hth]
  exact h.ma c (Rg.RG.forget_M.1 hc).1
 ·rw[hth]
  exact h.chp c (List.mem_filter.1 hc).1
 ·have:=h.ks k hk
  exact⟨this.1,this.2.1,this.2.2.1,λj hj hs=>by rw[hth];exact this.2.2.2 j hj hs⟩
 ·exact h.cht c (List.mem_filter.1 hc).1
 ·obtain⟨y,hy,e1,e2⟩:=detL_mem he
  rw[e2]
  exact h.lgt y hy
theorem oth_chk (h:x.Va) {a:Int} (ht:x.g.th a=true) (code:IrG) (q:Int) (ds:List W64):(x.oth a code q ds).chkE=if code.ok=true∧0≤q∧q≤100 then 0 else 8:=by
 have hlt:=EG.th_lt ht
 by_cases hc:code.ok=true∧0≤q∧q≤100
 ·rw[if_pos hc]
  exact chkE_iff.2 (SvG.va_iff.2 (oth_va h ht hc.1 hc.2 ds))
 ·rw[if_neg hc]
  have hn:¬(x.oth a code q ds).chkE=0:=λe=>hc (by
   have hv:=SvG.va_iff.1 (chkE_iff.1 e)
   have hi:a.toNat<x.ir.length:=by have:=h.irn;omega
   refine⟨?_,?_⟩
   ·have:=(hv.ir a.toNat (by show _<(x.ir.set _ _).length;rw[List.length_set];exact hi)).1
    rw[oth_eye h ht hi,if_pos (by omega)] at this
    exact this
   ·have:=(EG.val_iff.1 hv.g).qu a.toNat (by show _<x.g.nr;omega)
    have e:((x.oth a code q ds).g.r a.toNat).q=q:=by
     show(if a.toNat=a.toNat then (⟨q,(x.g.r a.toNat).g⟩:RcG) else x.g.r a.toNat).q=q
     rw[if_pos rfl]
    rw[e] at this
    exact this)
  unfold SvG.chkE at hn ⊢
  have hs:(x.oth a code q ds).setB=true:=h.set
  rw[hs,if_pos rfl] at hn ⊢
  split
  ·rename_i e;rw[if_pos e] at hn;exact absurd rfl hn
  ·rfl
theorem smB_of {g h:EG} (e1:g.nr=h.nr) (e2:g.nl=h.nl) (e3:g.nc=h.nc) (r:∀i,i<g.nr→g.r i=h.r i) (l:∀i,i<g.nl→g.l i=h.l i) (c:∀i,i<g.nc→g.c i=h.c i):g.smB h=true:=by
 unfold EG.smB
 simp only [Bool.and_eq_true,decide_eq_true_eq,List.all_eq_true,List.mem_range]
 exact⟨⟨⟨e1,λi hi=>by rw[r i hi];exact RcG.eqB_rfl _⟩,e2,λi hi=>by rw[l i hi];exact LkG.eqB_rfl _⟩,e3,λi hi=>by rw[c i hi];exact CsG.eqB_rfl _⟩
theorem range_at {n i:Nat} (h:i<n):(List.range n)[i]?.getD 0=i:=by simp[h]
theorem oth_rem_g (g:EG) (a:Nat) (q:Int):((g.othG a q).remG a).smB (g.remG a)=true:=by
 have k1:kept ((g.othG a q).lp a) (g.othG a q).nl=List.range (kept (g.lp a) g.nl).length:=kept_all λj hj=>(kept_at (p:=g.lp a) (n:=g.nl) (i:=j) hj).2
 have k2:kept ((g.othG a q).cp a) (g.othG a q).nc=List.range (kept (g.cp a) g.nc).length:=kept_all λj hj=>(kept_at (p:=g.cp a) (n:=g.nc) (i:=j) hj).2
 refine smB_of rfl ?_ ?_ (λi hi=>?_) (λi hi=>?_) (λi hi=>?_)
 ·show(kept ((g.othG a q).lp a) (g.othG a q).nl).length=_
  rw[k1,List.length_range];rfl
 ·show(kept ((g.othG a q).cp a) (g.othG a q).nc).length=_
  rw[k2,List.length_range];rfl
 ·show(if i=a then (⟨0,true⟩:RcG) else if i=a then ⟨q,(g.r i).g⟩ else g.r i)=if i=a then ⟨0,true⟩ else g.r i
  split <;> rfl
 ·have hi:i<(kept ((g.othG a q).lp a) (g.othG a q).nl).length:=hi
  rw[k1,List.length_range] at hi
  show(g.othG a q).l ((kept ((g.othG a q).lp a) (g.othG a q).nl)[i]?.getD 0)=_
  rw[k1,range_at hi];rfl
 ·have hi:i<(kept ((g.othG a q).cp a) (g.othG a q).nc).length:=hi
  rw[k2,List.length_range] at hi
  show(g.othG a q).c ((kept ((g.othG a q).cp a) (g.othG a q).nc)[i]?.getD 0)=_
  rw[k2,range_at hi];rfl
end Go.Gx.Sr
namespace Go.Gx.Rg
open Go.RowKit Go.Proofs Go.Proofs.YtncccnmmjfapnaaGreat
theorem kept_at' {p:Nat→Bool} {n i:Nat} (hi:i<(kept p n).length):p ((kept p n).getD i 0)=false:=by
 have h1:(kept p n).getD i 0=(kept p n)[i]:=by rw[List.getD_eq_getElem?_getD,List.getElem?_eq_getElem hi];rfl
 rw[h1]
 have:=(List.mem_filter.1 (List.getElem_mem hi)).2
 simpa using this
theorem range_at' {n i:Nat} (h:i<n):(List.range n).getD i 0=i:=by rw[List.getD_eq_getElem?_getD];simp[h]
theorem RG.forget_twice (g:RG) (t:Int):((g.forget t).forget t).same (g.forget t)=true:=by
 have k1:kept (λi=>decide (((g.forget t).c i).p=t)) (g.forget t).nc=List.range (g.forget t).nc:=kept_all λj hj=>kept_at' (p:=λi=>decide ((g.c i).p=t)) hj
 have k2:kept (λi=>decide (((g.forget t).w i).p=t)) (g.forget t).nw=List.range (g.forget t).nw:=kept_all λj hj=>kept_at' (p:=λi=>decide ((g.w i).p=t)) hj
 have k3:kept (λi=>decide (((g.forget t).m i).p=t)) (g.forget t).nm=List.range (g.forget t).nm:=kept_all λj hj=>kept_at' (p:=λi=>decide ((g.m i).p=t)) hj
 obtain⟨h,hh⟩:∃h,g.forget t=h:=⟨_,rfl⟩
 rw[hh] at k1 k2 k3 ⊢
 have c1:(h.forget t).nc=h.nc:=by show(kept _ _).length=_;rw[k1,List.length_range]
 have c2:(h.forget t).nw=h.nw:=by show(kept _ _).length=_;rw[k2,List.length_range]
 have c3:(h.forget t).nm=h.nm:=by show(kept _ _).length=_;rw[k3,List.length_range]
 refine RG.same_of rfl c1 c2 c3 (λi hi=>rfl) (λi hi=>?_) (λi hi=>?_) (λi hi=>?_)
 ·rw[c1] at hi
  show h.c ((kept _ _).getD i 0)=_
  rw[k1,range_at' hi]
 ·rw[c2] at hi
  show h.w ((kept _ _).getD i 0)=_
  rw[k2,range_at' hi]
 ·rw[c3] at hi
  show h.m ((kept _ _).getD i 0)=_
  rw[k3,range_at' hi]
end Go.Gx.Rg
namespace Go.Gx.Sr
open Go.RowKit Go.Proofs Go.Proofs.YtncccnmmjfapnaaGreat Go.Gx.Ix
theorem oth_same (x:SvG) (a:Int) (code:IrG) (q:Int) (ds:List W64):((x.oth a code q ds).rem a).same (x.rem a)=true:=by
 have e1:((x.oth a code q ds).rem a).ir=(x.rem a).ir:=by
  show(x.ir.set a.toNat code).set a.toNat IrG.z=x.ir.set a.toNat IrG.z
  rw[List.set_set]
 have e2:((x.oth a code q ds).rem a).ch=(x.rem a).ch:=by
  show(x.ch.filter _).filter _=x.ch.filter _
  rw[List.filter_filter]
  exact List.filter_congr λc _=>Bool.and_self _
 have e3:((x.oth a code q ds).rem a).ks=(x.rem a).ks:=rfl
 have e4:((x.oth a code q ds).rem a).lg=(x.rem a).lg:=detL_er x.lg a ds
 have e5:((x.oth a code q ds).rem a).g.smB (x.rem a).g=true:=oth_rem_g x.g a.toNat q
 have e6:((x.oth a code q ds).rem a).r.same (x.rem a).r=true:=Rg.RG.forget_twice x.r a
 unfold SvG.same SvG.sm1 SvG.sm2
 rw[e1,e2,e3,e4,e5,e6]
 have s1:((x.oth a code q ds).rem a).num=(x.rem a).num:=rfl
 have s2:((x.oth a code q ds).rem a).den=(x.rem a).den:=rfl
 have s3:((x.oth a code q ds).rem a).turns=(x.rem a).turns:=rfl
 have s4:((x.oth a code q ds).rem a).mage=(x.rem a).mage:=rfl
 have s5:((x.oth a code q ds).rem a).key=(x.rem a).key:=rfl
 have s6:((x.oth a code q ds).rem a).now=(x.rem a).now:=rfl
 rw[s1,s2,s3,s4,s5,s6]
 simp
end Go.Gx.Sr
