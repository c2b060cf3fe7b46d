/-
  Texts of the walk, merged: Xp.
-/
import Derived.Test.YtncccnmmjfapnaaGreatZxm
import Derived.Test.YtncccnmmjfapnaaGreatZxff
set_option linter.unusedVariables false
set_option linter.unusedSimpArgs false
set_option maxRecDepth 100000
set_option maxHeartbeats 4000000
namespace Go.Gx.Sr
open Go.RowKit Go.Proofs Go.Proofs.YtncccnmmjfapnaaGreat Go.Gx.Ix
theorem law5 (x:SvG) (l:List OrG) (n a:Int) (p:IrG) (s:W64) (hb:∀o∈l,o.rl.byte) (hn0:-9223372036854775808≤n) (hn1:n≤9223372036854775807) (ha0:-9223372036854775808≤a) (ha1:a≤9223372036854775807):Pure Tryz.prog 5 [x.ss,ords l,.i n,.i a,p.sv,.w s] (· =.b true):=by
 refine pure_of_GC T_ok Tryz.func5 rfl (by kernel_rfl) (nb rfl) rfl rfl ?_
 simp[go_sem]
 refine call_val alive16 rfl rfl ?_
 simp[go_sem]
 refine call_val (long36 l) rfl rfl ?_
 cases hlo:longB l
 rotate_left
 ·simp[go_sem]
 by_cases h150:(150:Int)<l.length
 ·simp[go_sem,h150]
 have hsm:=long_sm hb hlo h150
 have hn:l.length<1000000:=by omega
 simp[go_sem,h150]
 by_cases hE:runE x l=0
 rotate_left
 ·refine call_val (run_bad hn hsm hE) rfl rfl ?_
  simp[go_sem,hE]
 refine call_val (run_good hn hsm hE) rfl rfl ?_
 obtain⟨hv,hse,hG,_⟩:=run_end hE
 rw[run_eq] at hv hse hG
 obtain⟨A,hA⟩:∃A,outs x.new l=A:=⟨_,rfl⟩
 obtain⟨X,hX⟩:∃X,l.foldl stX x.new=X:=⟨_,rfl⟩
 rw[hA,hX]
 have hv:X.Va:=by rw[← hX];exact hv
 have hse:SetE x X:=by rw[← hX];exact hse
 have hG:InvG X:=by rw[← hX];exact hG
 have hle:(SV.agg [.r (.v (.int .u8 14)),.i n,.i a,.i 0,.b false,.w p.c,.w p.m,.w s,
  .i 0,.i 0,.i 0,.i 0,.i 0,.i 0,.i 0,.r (.v (.int .u8 0)),.i 0,.i 0,.i 0,.i 0,.i 0,.i 0,.i 0,.i 0,.i 0,.i 0,.i 0,.i 0,
  .i 0,.i 0,.i 0,.i 0,.i 0,nilS]).le (ordG n a p s).sv:=SV.le_of_sub (by simp[go_sem,ordG,OrG.z])
 simp[go_sem]
 refine call_val ((step_good hv.ok (ordG_sm n a p s) (stpE_of hv (ordG_ok n a p s))).args ⟨SV.le.rfl,hle,trivial⟩) rfl rfl ?_
 simp[go_sem]
 by_cases he:(stA X (ordG n a p s)).e=0
 rotate_left
 ·simp[go_sem,he]
 by_cases hN:(stA X (ordG n a p s)).n=1
 rotate_left
 ·simp[go_sem,he,hN]
 obtain⟨⟨g0,g1⟩,ht,hp,hd1,hdec⟩:=gat_ok hv he hN
 obtain⟨k,rfl⟩:∃k:Nat,n=k:=⟨n.toNat,by omega⟩
 have hkl:k<X.ks.length:=by omega
 have hkrow:=rowOf_get (f:=KsG.f) hkl
 have hkm:=List.getElem_mem hkl
 have hgt:(X.ks[(k:Int).toNat]?).getD KsG.zero=X.ks[k]:=by rw[show((k:Int).toNat)=k from rfl,List.getElem?_eq_getElem hkl];rfl
 rw[hgt] at hdec
 obtain⟨q,hq⟩:∃q,X.ks[k]=q:=⟨_,rfl⟩
 rw[hq] at hkrow hkm hdec
 obtain⟨o1,o2,o3,o4,o5,o6⟩:=gat_list hv hG hkm ht hdec
 have hai:=SvG.th_in (SvG.va_iff.2 hv) ht
 obtain⟨i,rfl⟩:∃i:Nat,a=i:=⟨a.toNat,by omega⟩
 have hil:i<X.ir.length:=by omega
 have hirow:=rowOf_get (f:=IrG.f) hil
 have hey:X.eye i=X.ir[i]:=SvG.eye_get hil
 have heok:=SvG.eye_ok (SvG.va_iff.2 hv) (a:=(i:Int)) (by omega) (by omega)
 obtain⟨hm1,hm2⟩:=cmpR_mat hv.set heok hp
 rw[hd1] at hm2
 obtain⟨c,hc⟩:∃c,X.eye i=c:=⟨_,rfl⟩
 rw[hc] at hey hm1 hm2
 rw[← hey] at hirow
 have hmt:=match39 c p X.turns X.num X.den
 rw[hm1,hm2] at hmt
 rw[hse.turns,hse.num,hse.den] at hmt
 have hon1:=online38 X.ch hv.ok.ch i q.a
 rw[o1,if_pos rfl,o2] at hon1
 have hon2:=online38 X.ch hv.ok.ch i X.now
 rw[o4,if_pos rfl] at hon2
 have hlt:=late39 X.ch hv.ok.ch q i X.now
 rw[o5,if_pos rfl] at hlt
 obtain⟨w,hw⟩:∃w,onlW X.ch i X.now=w:=⟨_,rfl⟩
 obtain⟨L,hL⟩:∃L,lateL X.ch q i X.now=L:=⟨_,rfl⟩
 rw[hw] at hon2 o6
 rw[hL] at hlt o6
 rw[hse.mage] at o3
 have hkn:=(hv.ks q hkm).2.2.1
 have hnow:=hv.now
 have hqa:0≤q.a∧q.a≤maxT:=by
  have:=(hv.ks q hkm).1
  simp only [KsG.ok,Bool.and_eq_true] at this
  exact tmB_iff.1 this.1.1
 simp[go_sem,he,hN,hkl]
 refine call_val (there20 X i) rfl rfl ?_
 rw[SvG.isB_iff hv,ht]
 simp[go_sem,hkl,hkrow]
 refine GDraw_all T_ok (by kernel_rfl) (by kernel_rfl) ?_
 simp[go_sem,hil,hirow]
 refine⟨_,dcall_val hmt rfl rfl,?_⟩
 simp[go_sem]
 refine call_val hon1 rfl rfl ?_
 simp[go_sem]
 refine call_val hon2 rfl rfl ?_
 simp[go_sem]
 refine call_val hlt rfl rfl ?_
 have h3:¬x.mage<X.now - q.a:=by omega
 simp only [maxT] at hnow hqa
 by_cases hw1:w=1
 ·simp[go_sem,h3,hw1]
  omega
 ·have hl0:0<L.length:=by
   rcases o6 with h | h
   ·exact absurd h hw1
   ·exact List.length_pos_iff.2 h
  simp[go_sem,h3,hw1,hl0]
  omega
end Go.Gx.Sr
