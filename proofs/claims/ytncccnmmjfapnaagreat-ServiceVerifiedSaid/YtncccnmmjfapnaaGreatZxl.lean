/-
  Texts of the walk, merged: Xl.
-/
import Derived.Test.YtncccnmmjfapnaaGreatZxf
set_option linter.unusedVariables false
set_option linter.unusedSimpArgs false
set_option maxRecDepth 100000
set_option maxHeartbeats 4000000
namespace Go.Gx.Sr
open Go.RowKit Go.Proofs Go.Proofs.YtncccnmmjfapnaaGreat Go.Gx.Ix
theorem law3 (x:SvG) (a:Int) (p:IrG) (s:W64) (hb:x.r.By) (ha:-9223372036854775808≤a) (hz:a≤9223372036854775807):Pure Tryz.prog 3 [x.sv,.i a,p.sv,.w s] (· =.b true):=by
 refine pure_of_GC T_ok Tryz.func3 rfl (by kernel_rfl) (nb rfl) rfl rfl ?_
 simp[go_sem]
 refine call_val alive16 rfl rfl ?_
 simp[go_sem]
 refine call_val (great17 x) rfl rfl ?_
 cases hg:x.great
 rotate_left
 ·simp[go_sem]
 simp[go_sem]
 obtain⟨hx,_,_,_,hlg⟩:=SvG.OK_of hb hg
 have hsm:=ordV_sm a p s
 have hle:(SV.agg [.r (.v (.int .u8 12)),.i 0,.i a,.i 0,.b false,.w p.c,.w p.m,.w s,
  .i 0,.i 0,.i 0,.i 0,.i 0,.i 0,.i 0,.r (.v (.int .u8 0)),.i 0,.i 0,.i 0,.i 0,.i 0,.i 0,.i 0,.i 0,.i 0,.i 0,.i 0,.i 0,
  .i 0,.i 0,.i 0,.i 0,.i 0,nilS]).le (ordV a p s).sv:=SV.le_of_sub (by simp[go_sem,ordV,OrG.z])
 by_cases hE:stpE x (ordV a p s)=0
 rotate_left
 ·refine call_val ((step_bad hx hsm hE).args ⟨SV.le.rfl,hle,trivial⟩) rfl rfl ?_
  simp[go_sem,hE]
 refine call_val ((step_good hx hsm hE).args ⟨SV.le.rfl,hle,trivial⟩) rfl rfl ?_
 obtain⟨hv,hoE⟩:=stpE_va hE
 simp[go_sem]
 by_cases he:(stA x (ordV a p s)).e=0
 rotate_left
 ·simp[go_sem,he]
 obtain⟨ht,hp,hX,hn⟩:=ver_ok hv he
 obtain⟨hpE,hbt⟩:=ver_best hv ht
 have hbe:=best15 x.g hx.g.ok a
 rw[hpE,if_pos rfl] at hbe
 obtain⟨b,hbb⟩:∃b,x.g.bp a x.g.nr=b:=⟨_,rfl⟩
 rw[hbb] at hbe hbt hX hn
 have hbi:=SvG.th_in (SvG.va_iff.2 hv) hbt
 have hai:=SvG.th_in (SvG.va_iff.2 hv) ht
 obtain⟨k,rfl⟩:∃k:Nat,b=k:=⟨b.toNat,by omega⟩
 have hklt:k<x.ir.length:=by omega
 have hrow:=rowOf_get (f:=IrG.f) hklt
 have hey:x.eye k=x.ir[k]:=SvG.eye_get hklt
 have heok:=SvG.eye_ok (SvG.va_iff.2 hv) (a:=(k:Int)) (by omega) (by omega)
 obtain⟨hm1,hm2⟩:=cmpR_mat hv.set heok hp
 have hgood:=cmpR_good hv.set (x.eye k) p
 have hfol:=cmpR_fol hv.set (x.eye k) p
 obtain⟨c1,c2,c3,c4,c5,c6⟩:=cmpR_le x (x.eye k) p
 obtain⟨c,hc⟩:∃c,x.eye k=c:=⟨_,rfl⟩
 have hmt:=match39 c p x.turns x.num x.den
 rw[hc] at hX hn hey hm1 hm2 hgood hfol c1 c2 c3 c4 c5 c6
 rw[← hey] at hrow
 obtain⟨r,hr⟩:∃r,cmpR x c p=r:=⟨_,rfl⟩
 rw[hr] at hX hn hm2 hgood hfol c1 c2 c3 c4 c5 c6
 rw[hm1,hm2] at hmt
 obtain⟨y,hy⟩:∃y,stX x (ordV a p s)=y:=⟨_,rfl⟩
 rw[hy] at hX ⊢
 have hylg:y.lg=x.lg++[wrX x.lg x.now 1 a r.pack s]:=by rw[hX];rfl
 have hyl:y.lg.length=x.lg.length+1:=by rw[hylg];simp
 have hyr:=rowOf_get (f:=EnG.f) (l:=y.lg) (i:=x.lg.length) (by omega)
 have hye:y.lg[x.lg.length]'(by omega)=wrX x.lg x.now 1 a r.pack s:=by simp only [hylg];simp
 rw[hye] at hyr
 simp[go_sem,he]
 refine call_val hbe rfl rfl ?_
 simp[go_sem]
 refine call_val (there20 x a) rfl rfl ?_
 rw[SvG.isB_iff hv,ht]
 simp[go_sem]
 refine call_val (there20 x k) rfl rfl ?_
 rw[SvG.isB_iff hv,hbt]
 simp[go_sem,hyl]
 refine⟨by omega,?_⟩
 refine GDraw_all T_ok (by kernel_rfl) (by kernel_rfl) ?_
 simp[go_sem,hklt,hrow]
 refine⟨_,dcall_val hmt rfl rfl,?_⟩
 simp[go_sem,hyl,hyr]
 have hu:=unpack22 r.pack
 rw[unB_pack hgood,if_pos rfl,if_pos rfl,unG_pack hgood] at hu
 refine⟨by omega,?_⟩
 refine call_val hu rfl rfl ?_
 simp[go_sem]
 have hf:=follows23 r
 rw[hgood,hfol] at hf
 refine call_val hf rfl rfl ?_
 simp[go_sem]
 have hw:IntKind.i64.wrap r.d=r.d:=wrap_inr ⟨by omega,by omega⟩
 refine⟨rfl,rfl,rfl,rfl,hw.trans hn.symm,c1,by rw[hn],?_⟩
 rw[hn]
 rcases c6 with e | e <;> simp[e]
end Go.Gx.Sr
