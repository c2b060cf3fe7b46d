/-
  Texts of the walk, merged: Xs.
-/
import Derived.Test.YtncccnmmjfapnaaGreatZxm
import Derived.Test.YtncccnmmjfapnaaGreatZxg
import Derived.Test.YtncccnmmjfapnaaGreatZxc
set_option linter.unusedVariables false
set_option linter.unusedSimpArgs false
set_option maxRecDepth 100000
set_option maxHeartbeats 4000000
namespace Go.Gx.Sr
open Go.RowKit Go.Proofs Go.Proofs.YtncccnmmjfapnaaGreat Go.Gx.Ix
variable {x:SvG}
def SvG.wnK (x:SvG) (o:OrG) (k:Nat):List Int:=(x.alK o.x k).filter λa=>decide (x.r.aerr (qAt o.q a x.now)=0)
theorem SvG.wnK_succ (x:SvG) (o:OrG) (k:Nat):x.wnK o (k+1)=x.wnK o k++if (x.g.th k&&matB (x.eye k) o.x x.turns.toNat x.num x.den)=true∧x.r.aerr (qAt o.q k x.now)=0 then [(k:Int)] else []:=by
 unfold SvG.wnK
 rw[SvG.alK_succ,List.filter_append]
 congr 1
 by_cases h:(x.g.th k&&matB (x.eye k) o.x x.turns.toNat x.num x.den)=true
 ·by_cases h2:x.r.aerr (qAt o.q k x.now)=0
  ·rw[if_pos h,if_pos ⟨h,h2⟩];simp[h2]
  ·rw[if_pos h,if_neg λc=>h2 c.2];simp[h2]
 ·rw[if_neg h,if_neg λc=>h c.1];rfl
theorem SvG.wnK_len (x:SvG) (o:OrG) (k:Nat):(hitL x.r o x.now (x.alK o.x k)).length=(x.wnK o k).length:=by
 unfold hitL SvG.wnK;rw[List.length_map]
theorem SvG.wnK_le (x:SvG) (o:OrG) (k:Nat):(x.wnK o k).length≤k:=Nat.le_trans (List.length_filter_le _ _) (x.alK_le o.x k)
theorem hit_at {o:OrG} {k:Nat} (hk:k<x.ir.length) (h:(x.g.th k&&matB (x.eye k) o.x x.turns.toNat x.num x.den)=true) (h0:x.r.aerr (qAt o.q k x.now)=0) :
 ∃hl:(x.wnK o k).length<(hitL x.r o x.now (x.alK o.x x.ir.length)).length,(hitL x.r o x.now (x.alK o.x x.ir.length))[(x.wnK o k).length]=⟨k,x.r.aL (qAt o.q k x.now),x.r.aO (qAt o.q k x.now),x.r.aS (qAt o.q k x.now),x.r.aN (qAt o.q k x.now)⟩:=by
 obtain⟨r,hr⟩:=x.alK_pre o.x (show k+1≤x.ir.length by omega)
 have e:hitL x.r o x.now (x.alK o.x x.ir.length)=hitL x.r o x.now (x.alK o.x k)++⟨k,x.r.aL (qAt o.q k x.now),x.r.aO (qAt o.q k x.now),x.r.aS (qAt o.q k x.now),x.r.aN (qAt o.q k x.now)⟩::hitL x.r o x.now r:=by
  rw[hr,x.alK_succ,if_pos h,List.append_assoc,hitL_app]
  congr 1
  exact hitL_yes h0 r
 have hl:=x.wnK_len o k
 refine⟨by rw[e,List.length_append,List.length_cons,hl];omega,?_⟩
 simp only [e]
 rw[List.getElem_append_right (by omega)]
 simp[hl]
theorem sameI52g (l:List Int) (h:l.length<1000000) {x y:Nat→Nat→RV} (hx:∀i,i<l.length→x i 0=.i ((l[i]?).getD 0)) (hy:∀i,i<l.length→y i 0=.i ((l[i]?).getD 0)):Pure Tryz.prog 52 [.r (.rs 1 l.length x),.r (.rs 1 l.length y)] (· =.b true):=
 (sameInts24 _ _ (by omega) (by omega) _ _ (λi=>(l[i]?).getD 0) (λi=>(l[i]?).getD 0) hx hy).val (by simp)
theorem snoc_ints {l:List Int} {a:Int} {q:Nat} {G new:Nat→Nat→SV} (hG:∀i,i<l.length→G i 0=.r (rowOf intF l i 0)) (h:new 0 0=.r (.i a)):∀i,i<(l++[a]).length→SV.kill q (joined l.length 1 G new i 0)=.r (rowOf intF (l++[a]) i 0):=λi hi=>
 snoc_rowsG (f:=intF) (x:=a) (k:=1) (λi j hi hj=>by obtain rfl:j=0:=(by omega);exact hG i hi) (λj hj=>by obtain rfl:j=0:=(by omega);exact h) i 0 (by simpa using hi) (by decide)
theorem law9 (x:SvG) (o:OrG) (hb:x.r.By) (ho:o.rl.byte∧0≤o.k∧o.k<256):Pure Tryz.prog 9 [x.sv,o.sv] (· =.b true):=by
 refine pure_of_GC T_ok Tryz.func9 rfl (by kernel_rfl) (nb rfl) rfl rfl ?_
 simp[go_sem]
 refine call_val alive16 rfl rfl ?_
 simp[go_sem]
 refine call_val (great17 x) rfl rfl ?_
 cases hg:x.great
 rotate_left
 ·simp[go_sem]
 simp[go_sem]
 obtain⟨p,hp⟩:∃p:OrG,{o with k:=13}=p:=⟨_,rfl⟩
 have hpk:p.k=13:=by rw[← hp]
 have hpb:p.rl.byte:=by rw[← hp];exact ho.1
 have hps:SV.agg [.r (.v (.int .u8 13)),.i o.n,.i o.a,.i o.b,.b o.f,.w o.x.c,.w o.x.m,.w o.s,
  .i o.rl.p,.i o.rl.r,.i o.rl.l,.i o.rl.f,.i o.rl.t,.i o.rl.k,.i o.rl.s,.r (.v (.int .u8 o.rl.b)),.i o.w.l,.i o.w.p,.i o.w.f,.i o.w.t,.i o.c.p,.i o.c.q,.i o.c.u,.i o.m.l,.i o.m.p,.i o.m.s,.i o.m.u,.i o.m.n,
  .i o.q.p,.i o.q.r,.i o.q.l,.i o.q.w,.i o.q.t,o.q.ks]=p.sv:=by rw[← hp]
 have hox:o.x=p.x:=by rw[← hp]
 have hoq:o.q=p.q:=by rw[← hp]
 have hps':(some (Reg.box [.r (.v (.int .u8 13)),.i o.n,.i o.a,.i o.b,.b o.f,.w o.x.c,.w o.x.m,.w o.s,
  .i o.rl.p,.i o.rl.r,.i o.rl.l,.i o.rl.f,.i o.rl.t,.i o.rl.k,.i o.rl.s,.r (.v (.int .u8 o.rl.b)),.i o.w.l,.i o.w.p,.i o.w.f,.i o.w.t,.i o.c.p,.i o.c.q,.i o.c.u,.i o.m.l,.i o.m.p,.i o.m.s,.i o.m.u,.i o.m.n,
  .i o.q.p,.i o.q.r,.i o.q.l,.i o.q.w,.i o.q.t,o.q.ks]))=some (.box p.cells):=by rw[← hp]
 rw[hps]
 refine call_val (great24 p) rfl rfl ?_
 cases hgo:p.great
 rotate_left
 ·simp[go_sem]
 simp[go_sem]
 rw[hps]
 obtain⟨hx,hir30,_,_,_⟩:=SvG.OK_of hb hg
 have hsm:=OrG.sm_of hpb hgo
 by_cases hE:stpE x p=0
 rotate_left
 ·refine call_val (step_bad hx hsm hE) rfl rfl ?_
  simp[go_sem,hE,AnG.zero]
 refine call_val (step_good hx hsm hE) rfl rfl ?_
 obtain⟨hv,hoE⟩:=stpE_va hE
 simp[go_sem]
 by_cases he:(stA x p).e=0
 rotate_left
 ·have:=(stA_err he).2.2
  simp[go_sem,he,this]
 obtain⟨hpx,hpq,hA⟩:=fnd_ok hv hpk he
 have hv':=SvG.va_iff.2 hv
 have hA2:(stA x p).n=((hitL x.r p x.now (x.alK p.x x.ir.length)).length:Nat)∧(stA x p).h=hitL x.r p x.now (x.alK p.x x.ir.length):=by rw[hA];exact⟨rfl,rfl⟩
 obtain⟨a,haa⟩:∃a,stA x p=a:=⟨_,rfl⟩
 obtain⟨y,hyy⟩:∃y,stX x p=y:=⟨_,rfl⟩
 rw[haa] at he hA2 ⊢
 rw[hyy]
 obtain⟨hAn,hAh⟩:=hA2
 have hlenH:=x.wnK_len p x.ir.length
 have hit:∀k,k<x.ir.length→(x.g.th k&&matB (x.eye k) p.x x.turns.toNat x.num x.den)=true→x.r.aerr (qAt p.q k x.now)=0→
  ∃hl:(x.wnK p k).length<a.h.length,a.h[(x.wnK p k).length]=⟨k,x.r.aL (qAt p.q k x.now),x.r.aO (qAt p.q k x.now),x.r.aS (qAt p.q k x.now),x.r.aN (qAt p.q k x.now)⟩:=by
  rw[hAh];exact λk h1 h2 h3=>hit_at h1 h2 h3
 rw[hlenH] at hAn
 have hAl:a.h.length=(x.wnK p x.ir.length).length:=by rw[hAh,hlenH]
 simp[go_sem,he]
 refine GLoop_pre (GSt.adopt 9 126 3 (λ_ _=>.r .any) (by simp[go_sem])) ?_
 refine GLoop_pre (GSt.adopt 10 3 1 (λ_ _=>.r .any) (by simp[go_sem])) ?_
 refine GLoop_pre (GSt.adopt 11 3 1 (λ_ _=>.r .any) (by simp[go_sem])) ?_
 refine GLoop_p T_ok (α:=Nat) (λk=>[(2,.ptr 0 0 17 0),(3,.ptr 1 0 34 0),(5,.b true),(7,.ptr 3 0 3 0),(9,.sl 4 3 0 (x.mbK k).length none),(10,.sl 5 1 0 (x.alK p.x k).length none),(11,.sl 6 1 0 (x.wnK p k).length none),(59,irs x.ir),(60,.i x.ir.length),(61,.i k)])
  (λk M nx=>k≤x.ir.length∧7≤nx∧M 0=some (.box x.cells)∧M 1=some (.box p.cells)∧M 3=some (.box [.i a.e,.i a.n,hts a.h])∧
    (∃G,M 4=some (.vec 126 3 (x.mbK k).length G)∧∀i j,i<(x.mbK k).length→j<3→G i j=.r (rowOf MbG.f (x.mbK k) i j))∧
    (∃G,M 5=some (.vec 3 1 (x.alK p.x k).length G)∧∀i,i<(x.alK p.x k).length→G i 0=.r (rowOf intF (x.alK p.x k) i 0))∧
    (∃G,M 6=some (.vec 3 1 (x.wnK p k).length G)∧∀i,i<(x.wnK p k).length→G i 0=.r (rowOf intF (x.wnK p k) i 0))) (λk=>x.ir.length - k) 0 ?_ ?_ ?_
 ·simp[go_sem,SvG.mbK,SvG.alK,SvG.wnK]
  exact⟨by rw[← hp];simp,he.symm⟩
 ·simp[go_sem,SvG.mbK,SvG.alK,SvG.wnK]
 rintro k J M nx _ ⟨hk,hnx,h0,h1,h3,⟨G4,h4,hG4⟩,⟨G5,h5,hG5⟩,G6,h6,hG6⟩
 have b0:¬0=nx:=by omega
 have b1:¬1=nx:=by omega
 have b3:¬3=nx:=by omega
 have b4:¬4=nx:=by omega
 have b5:¬5=nx:=by omega
 have b6:¬6=nx:=by omega
 have c0:¬nx=0:=by omega
 have c1:¬nx=1:=by omega
 have c3:¬nx=3:=by omega
 have c4:¬nx=4:=by omega
 have c5:¬nx=5:=by omega
 have c6:¬nx=6:=by omega
 have c2:¬nx=2:=by omega
 have b2:¬2=nx:=by omega
 have l4:=x.mbK_le k
 have l5:=x.alK_le p.x k
 have l6:=x.wnK_le p k
 by_cases hlt:k<x.ir.length
 ·have hrow:=rowOf_get (f:=IrG.f) hlt
  have hey:x.eye k=x.ir[k]:=SvG.eye_get hlt
  have hs4:=x.mbK_succ k
  have hs5:=x.alK_succ p.x k
  have hs6:=x.wnK_succ p k
  have hit:=hit k hlt
  have hkok:=SvG.eye_ok hv' (a:=(k:Int)) (by omega) (by omega)
  have hcm:=(cmpR_mat hv.set hkok hpx).1
  have hmt:=match39 (x.eye k) p.x x.turns x.num x.den
  rw[hcm] at hmt
  rw[← hey] at hrow
  obtain⟨c,hc⟩:∃c,x.eye k=c:=⟨_,rfl⟩
  rw[hc] at hrow hs4 hs5 hs6 hit hmt
  obtain⟨B,hB⟩:∃B,matB c p.x x.turns.toNat x.num x.den=B:=⟨_,rfl⟩
  rw[hB] at hs5 hs6 hit hmt
  simp[go_sem,hlt,hrow,h0,h1,h3,h4,h5,h6,b0,b1,b2,b3,b4,b5,b6,c0,c1,c2,c3,c4,c5,c6]
  refine call_val (there20 x k) rfl rfl ?_
  rw[SvG.isB_iff hv]
  by_cases ht:x.g.th (k:Int)=true
  rotate_left
  ·have ht':x.g.th (k:Int)=false:=by simpa using ht
   rw[ht'] at hs4 hs5 hs6
   simp only [Bool.false_and,Bool.false_eq_true,false_and,if_false,List.append_nil] at hs4 hs5 hs6
   simp[go_sem,ht',h0,h1,h3,h4,h5,h6,b0,b1,b2,b3,b4,b5,b6,c0,c1,c2,c3,c4,c5,c6]
   exact⟨by omega,k+1,by omega,⟨by rw[hs4],by rw[hs5],by rw[hs6],by omega⟩,by omega,by omega,⟨G4,⟨by rw[hs4],rfl⟩,by rw[hs4];exact hG4⟩,⟨G5,⟨by rw[hs5],rfl⟩,by rw[hs5];exact hG5⟩,G6,⟨by rw[hs6],rfl⟩,by rw[hs6];exact hG6⟩
  rw[ht] at hs4 hs5 hs6 hit
  rw[if_pos rfl] at hs4
  simp only [Bool.true_and] at hs5 hs6 hit
  obtain⟨m,hm⟩:∃m:MbG,MbG.mk k c=m:=⟨_,rfl⟩
  have hmr:∀j,j<3→([.i k,.w c.c,.w c.m]:List SV)[0*3+j]?.getD (SV.r .any)=.r (m.f j):=by
   intro j hj
   subst hm
   rcases(by omega:j=0∨j=1∨j=2) with rfl | rfl | rfl <;> rfl
  rw[hm] at hs4
  simp[go_sem,ht,h0,h1,h3,h4,h5,h6,b0,b1,b2,b3,b4,b5,b6,c0,c1,c2,c3,c4,c5,c6]
  refine⟨⟨by omega,by omega⟩,?_⟩
  refine call_val hmt rfl rfl ?_
  cases B
  ·simp only [Bool.false_eq_true,false_and,if_false,List.append_nil] at hs5 hs6
   simp[go_sem,ht,h0,h1,h3,h4,h5,h6,b0,b1,b2,b3,b4,b5,b6,c0,c1,c2,c3,c4,c5,c6]
   refine⟨⟨by omega,by omega⟩,k+1,by omega,⟨by rw[hs4];simp,by rw[hs5],by rw[hs6],by omega⟩,by omega,by omega,⟨_,⟨by rw[hs4];simp,rfl⟩,?_⟩,⟨_,⟨by rw[hs5],rfl⟩,λi hi=>?_⟩,_,⟨by rw[hs6],rfl⟩,λi hi=>?_⟩
   rotate_left
   ·rw[hs5] at hi ⊢
    show SV.kill 4 (G5 i 0)=_
    rw[hG5 i hi];rfl
   ·rw[hs6] at hi ⊢
    show SV.kill 4 (G6 i 0)=_
    rw[hG6 i hi];rfl
   rw[hs4]
   exact snoc_rowsG hG4 λj hj=>hmr j hj
  rw[if_pos rfl] at hs5
  simp only [true_and] at hs6
  have hit:=hit rfl
  have hqw:qAt p.q k x.now=⟨p.q.p,p.q.r,p.q.l,k,x.now,p.q.nk,p.q.k⟩:=rfl
  have han:=Rg.answer26 x.r (qAt p.q k x.now) hx.r (by have:=hsm.q;show(p.q.nk:Int)<2 ^ 62;omega)
  have htwo:=aerr_two hv hpq ht
  simp[go_sem,ht,h0,h1,h3,h4,h5,h6,b0,b1,b2,b3,b4,b5,b6,c0,c1,c2,c3,c4,c5,c6]
  refine⟨⟨by omega,by omega⟩,?_⟩
  refine GDraw_l (t:=(.take 0 (.take 1 (.take 2 (.take 3 (.alt 4 [3,2,1,0] (.take 5 (.alt 6 [5,2,1] (.done []) .nil)) .nil)))))) T_ok (by kernel_rfl) (by kernel_rfl) (by kernel_rfl) (λ_ _ _ _ h=>h) ?_
  simp[go_sem,ht,h0,h1,h3,h4,h5,h6,b0,b1,b2,b3,b4,b5,b6,c0,c1,c2,c3,c4,c5,c6]
  rw[hqw] at han htwo hit hs6
  refine call_val han rfl rfl ?_
  obtain⟨e,hee⟩:∃e,x.r.aerr ⟨p.q.p,p.q.r,p.q.l,k,x.now,p.q.nk,p.q.k⟩=e:=⟨_,rfl⟩
  rw[hee] at htwo hit hs6 ⊢
  rcases htwo with rfl | rfl
  rotate_left
  ·rw[if_neg (by decide),List.append_nil] at hs6
   simp[go_sem,ht,h0,h1,h3,h4,h5,h6,b0,b1,b2,b3,b4,b5,b6,c0,c1,c2,c3,c4,c5,c6]
   refine⟨by omega,k+1,by omega,⟨by rw[hs4];simp,by rw[hs5];simp,by rw[hs6],by omega⟩,by omega,by omega,⟨_,⟨by rw[hs4];simp,rfl⟩,?_⟩,⟨_,⟨by rw[hs5];simp,rfl⟩,?_⟩,_,⟨by rw[hs6],rfl⟩,λi hi=>?_⟩
   ·rw[hs4]
    intro i j hi hj
    show SV.kill 5 (SV.kill 4 (joined _ _ _ _ i j))=_
    rw[snoc_rowsG hG4 (λj hj=>hmr j hj) i j (by simpa using hi) hj];rfl
   ·rw[hs5]
    exact snoc_ints (λi hi=>by rw[hG5 i hi];rfl) rfl
   ·rw[hs6] at hi ⊢
    rw[hG6 i hi];rfl
  rw[if_pos rfl] at hs6
  obtain⟨hl,hh⟩:=hit rfl
  have hhr:=rowOf_get (f:=HtG.f) hl
  rw[hh] at hhr
  simp[go_sem,ht,h0,h1,h3,h4,h5,h6,b0,b1,b2,b3,b4,b5,b6,c0,c1,c2,c3,c4,c5,c6]
  refine GDraw_all T_ok (by kernel_rfl) (by kernel_rfl) ?_
  obtain⟨r0,r1,r2,r3,r4⟩:=HtG.row ⟨k,x.r.aL ⟨p.q.p,p.q.r,p.q.l,k,x.now,p.q.nk,p.q.k⟩,x.r.aO ⟨p.q.p,p.q.r,p.q.l,k,x.now,p.q.nk,p.q.k⟩,x.r.aS ⟨p.q.p,p.q.r,p.q.l,k,x.now,p.q.nk,p.q.k⟩,x.r.aN ⟨p.q.p,p.q.r,p.q.l,k,x.now,p.q.nk,p.q.k⟩⟩
  have hl':¬(a.h.length:Int)≤(x.wnK p k).length:=by omega
  simp[go_sem,ht,h0,h1,h3,h4,h5,h6,b0,b1,b2,b3,b4,b5,b6,c0,c1,c2,c3,c4,c5,c6,hl,hl',hhr,r0,r1,r2,r3,r4]
  refine⟨by omega,by omega,k+1,by omega,⟨by rw[hs4];simp,by rw[hs5];simp,by rw[hs6];simp,by omega⟩,by omega,by omega,⟨_,⟨by rw[hs4];simp,rfl⟩,?_⟩,⟨_,⟨by rw[hs5];simp,rfl⟩,?_⟩,_,⟨by rw[hs6];simp,rfl⟩,?_⟩
  ·rw[hs4]
   intro i j hi hj
   show SV.kill 6 (SV.kill 5 (SV.kill 4 (joined _ _ _ _ i j)))=_
   rw[snoc_rowsG hG4 (λj hj=>hmr j hj) i j (by simpa using hi) hj];rfl
  ·rw[hs5]
   intro i hi
   show SV.kill 6 (SV.kill 5 (joined _ _ _ _ i 0))=_
   rw[snoc_ints (λi hi=>by rw[hG5 i hi];rfl) rfl i hi];rfl
  ·rw[hs6]
   exact snoc_ints (λi hi=>by rw[hG6 i hi];rfl) rfl
 obtain rfl:k=x.ir.length:=by omega
 have hms:x.mbK x.ir.length=x.mbs:=rfl
 rw[hms] at h4 hG4
 have hvl:=SvG.mbs_vl hv'
 have hbE:buildE x.mbs=0:=(buildE_iff _).2 hvl
 have hbb:=build16 x.mbs (by have:=hvl.len;omega)
 have hbX:buildX x.mbs=ofG x.mbs:=by unfold buildX;rw[if_pos hbE]
 rw[hbE,hbX] at hbb
 have hsr:=search_of hvl p.x x.turns x.num x.den
 rw[SvG.mE_ok hv' hpx,fd_eq hv hpx] at hsr
 obtain⟨L,hL⟩:∃L,x.alK p.x x.ir.length=L:=⟨_,rfl⟩
 have hLl:L.length<1000000:=by rw[← hL];omega
 rw[hL] at h5 hG5 hsr
 obtain⟨W,hW⟩:∃W,x.wnK p x.ir.length=W:=⟨_,rfl⟩
 rw[hW] at h6 hAn hAl
 simp[go_sem,h0,h1,h3,h4,h5,h6,hms,hL,hW]
 refine callK_freeze 4 h4 ?_
 simp[go_sem]
 refine call_val (hbb.args ⟨le_rs λi j hi hj=>?_,trivial⟩) rfl ?_ ?_
 ·simp only [hG4 i j hi hj]
  show rowOf MbG.f x.mbs i j=mrows x.mbs i j
  rw[rowOf_get hi,mrow hi]
 ·rfl
 unfold IxG.sv
 unfold IxG.sv at hsr
 simp only [List.range_succ,List.range_zero,List.nil_append,List.map_append,List.map_cons,List.map_nil,List.cons_append] at hsr
 simp[go_sem,List.range_succ,h0,h1,h3,h5,h6,b0,b1,b2,b3,b4,b5,b6,c0,c1,c2,c3,c4,c5,c6]
 refine call_val hsr rfl rfl ?_
 simp[go_sem,List.range_succ,h0,h1,h3,h5,h6,b0,b1,b2,b3,b4,b5,b6,c0,c1,c2,c3,c4,c5,c6,hAn,hAl,hW]
 refine callK_freeze 5 (by simp[go_sem,h5,b5,c5,c4];rfl) ?_
 simp[go_sem]
 refine call_val (sameI52g L hLl (λi hi=>?_) (λi hi=>?_)) rfl rfl ?_
 ·show irows L i 0=_
  unfold irows
  rw[rowsL_get (List.getElem?_eq_getElem hi)];simp[hi]
 ·simp only [hG5 i hi]
  show rowOf intF L i 0=_
  rw[rowOf_get hi];simp[hi,intF]
 simp[go_sem]
end Go.Gx.Sr
