/-
  Texts of the walk, merged: Xr.
-/
import Derived.Test.YtncccnmmjfapnaaGreatZxq
import Derived.Test.YtncccnmmjfapnaaGreatZxh
set_option linter.unusedVariables false
set_option linter.unusedSimpArgs false
set_option maxRecDepth 100000
set_option maxHeartbeats 4000000
namespace Go.Gx.Sr
open Go.RowKit Go.Proofs Go.Proofs.YtncccnmmjfapnaaGreat Go.Gx.Ix
theorem ordR_le (a:Int):(SV.agg [.r (.v (.int .u8 5)),.i 0,.i a,.i 0,.b false,.r (.v (.int .u64 0)),.r (.v (.int .u64 0)),.r (.v (.int .u64 0)),
 .i 0,.i 0,.i 0,.i 0,.i 0,.i 0,.i 0,.r (.v (.int .u8 0)),.i 0,.i 0,.i 0,.i 0,.i 0,.i 0,.i 0,.i 0,.i 0,.i 0,.i 0,.i 0,
 .i 0,.i 0,.i 0,.i 0,.i 0,nilS]).le (ordR a).sv:=SV.le_of_sub (by simp[go_sem,ordR,OrG.z])
theorem sameI52 (l:List Int) (h:l.length<1000000):Pure Tryz.prog 52 [ints l,ints l] (· =.b true):=by
 have hr:∀i,i<l.length→rowOf intF l i 0=.i ((l[i]?).getD 0):=λi hi=>by rw[rowOf_get hi];simp[hi,intF]
 exact(sameInts24 _ _ (by omega) (by omega) _ _ (λi=>(l[i]?).getD 0) (λi=>(l[i]?).getD 0) hr hr).val (by simp)
theorem rem_bit' {x:SvG} {a:Nat} {k:KsG} (hk:k∈(x.rem a).ks) (ha:a<64):¬((and64 (shr64 k.s a) 1#64).toNat:Int)=1:=by
 have h:=rem_bit hk (by omega:(0:Int)≤(a:Int)∧(a:Int)<64)
 rw[and_one,bit_shr]
 have e:k.s.getLsbD (a+0)=false:=h
 rw[e]
 decide
theorem rem_mentions {x:SvG} (h:x.Va) {a:Nat} (ht:x.g.th a=true):Pure Tryz.prog 58 [(x.rem a).sv,.i a] (· =.b false):=by
 have hv:=h.rem ht
 have hi:=SvG.th_in (SvG.va_iff.2 h) ht
 have hlt:a<x.ir.length:=by omega
 have hlt2:a<(x.rem a).ir.length:=by show a<(x.ir.set _ _).length;rw[List.length_set];exact hlt
 refine mentions58 (x.rem a) a a rfl ?_ hlt2 (rem_row ht) ?_ (by omega) (λi hi=>rem_link (by omega) hi) (λi hi=>rem_case (by omega) hi) (λi hi=>rem_con hi) (λi hi=>rem_war hi) (λi hi=>rem_mark hi) (λc hc=>rem_ch hc) (λk hk=>rem_bit' hk (by omega)) (λe he=>rem_lg (by omega) he) hv.ok
 ·show a<x.g.nr
  have:=h.irn;omega
 ·have e:(x.rem a).eye a=(x.rem a).ir[a]:=SvG.eye_get hlt2
  rw[← e,rem_eye h ht _ (by omega),if_pos rfl]
theorem law15 (x:SvG) (a b:Int) (hb:x.r.By) (ha0:-9223372036854775808≤a) (ha1:a≤9223372036854775807) (hb0:-9223372036854775808≤b) (hb1:b≤9223372036854775807):Pure Tryz.prog 15 [x.sv,.i a,.i b] (· =.b true):=by
 refine pure_of_GC T_ok Tryz.func15 rfl (by kernel_rfl) (nb rfl) rfl rfl ?_
 simp[go_sem]
 refine call_val alive16 rfl rfl ?_
 simp[go_sem]
 refine call_val (great17 x) rfl rfl ?_
 cases hg:x.great
 rotate_left
 ·simp[go_sem]
 simp[go_sem]
 obtain⟨hx,_,_,_,hlg⟩:=SvG.OK_of hb hg
 have hsm:=ordR_sm a
 by_cases hE:stpE x (ordR a)=0
 rotate_left
 ·refine call_val ((step_bad hx hsm hE).args ⟨SV.le.rfl,ordR_le a,trivial⟩) rfl rfl ?_
  simp[go_sem,hE]
 refine call_val ((step_good hx hsm hE).args ⟨SV.le.rfl,ordR_le a,trivial⟩) rfl rfl ?_
 obtain⟨hv,hoE⟩:=stpE_va hE
 simp[go_sem]
 by_cases he:(stA x (ordR a)).e=0
 rotate_left
 ·simp[go_sem,he]
 obtain⟨ht,hX,hn⟩:=rem_ok he
 have hai:=SvG.th_in (SvG.va_iff.2 hv) ht
 obtain⟨n,rfl⟩:∃n:Nat,a=n:=⟨a.toNat,by omega⟩
 have hyv:=hv.rem ht
 have hment:=rem_mentions hv ht
 have htip:=rem_tip hv (a:=(n:Int))
 have hlen:(x.rem n).lg.length=x.lg.length:=by show(erL x.lg n).length=_;simp[erL]
 have hkl:(x.rem n).ks.length=x.ks.length:=by show(x.ks.map _).length=_;simp
 have hil:(x.rem n).ir.length=x.ir.length:=by show(x.ir.set _ _).length=_;simp
 have hab:∀b:Int,0≤b→¬b=n→knE (x.rem n).lg b=knE x.lg b∧abK (x.rem n).lg b (x.rem n).lg.length=abK x.lg b x.lg.length:=λb h1 h2=>rem_about hv h1 h2
 have hth:∀b:Int,x.g.th b=true→¬b=n→(x.rem n).g.th b=true:=λb h1 h2=>rem_th (by omega) h1 h2
 have hey:∀b:Int,0≤b∧b<x.ir.length→¬b=n→(x.rem n).eye b=x.eye b:=λb h1 h2=>by rw[rem_eye hv ht b h1,if_neg h2]
 have hks:∀i (h:i<x.ks.length) (h':i<(x.rem n).ks.length),(x.rem n).ks[i]=x.ks[i].re x.key n:=λi h h'=>List.getElem_map ..
 have hkey:(x.rem n).key=x.key:=rfl
 have hnow:(x.rem n).now=x.now:=rfl
 have hlE:lgE x.lg=0:=by unfold lgE;rw[if_pos hv.lg]
 have hlE2:lgE (x.rem n).lg=0:=by unfold lgE;rw[if_pos hyv.lg]
 rw[hX]
 obtain⟨y,hy⟩:∃y,x.rem n=y:=⟨_,rfl⟩
 simp only [hy] at hks
 rw[hy] at hyv hment htip hlen hkl hil hab hth hey hkey hnow hlE2 ⊢
 have ht1:=tip57 x.lg hx.lg
 have ht2:=tip57 y.lg hyv.ok.lg
 rw[hlE] at ht1
 rw[hlE2,htip] at ht2
 simp[go_sem,he]
 refine call_val ht1 rfl rfl ?_
 simp[go_sem]
 refine call_val ht2 rfl rfl ?_
 simp[go_sem]
 refine call_val hment rfl rfl ?_
 simp[go_sem]
 refine call_val (check30s y hyv.ok) rfl rfl ?_
 rw[chkE_iff.2 (SvG.va_iff.2 hyv)]
 simp[go_sem,hlen,hkl]
 by_cases hbn:b=n
 ·simp[go_sem,hbn]
 simp[go_sem,hbn]
 refine call_val (there20 x b) rfl rfl ?_
 rw[SvG.isB_iff hv]
 cases hbt:x.g.th b
 ·simp[go_sem]
 have hbi:=SvG.th_in (SvG.va_iff.2 hv) hbt
 obtain⟨m,rfl⟩:∃m:Nat,b=m:=⟨b.toNat,by omega⟩
 obtain⟨k1,k2⟩:=hab m (by omega) hbn
 have ha1:=about59 x.lg hx.lg m
 have ha2:=about59 y.lg hyv.ok.lg m
 have hkn:knE x.lg m=0:=by
  unfold knE
  rw[if_pos hv.lg,if_pos]
  simp[Ix.btw];omega
 rw[hkn,if_pos rfl] at ha1
 rw[k1,hkn,if_pos rfl,k2] at ha2
 have habl:=abK_le x.lg m x.lg.length
 have hlm:=hx.lg
 obtain⟨I,hI⟩:∃I,abK x.lg m x.lg.length=I:=⟨_,rfl⟩
 rw[hI] at ha1 ha2 habl
 simp[go_sem]
 refine call_val ha1 rfl rfl ?_
 simp[go_sem]
 refine call_val ha2 rfl rfl ?_
 simp[go_sem]
 refine call_val (sameI52 I (by omega)) rfl rfl ?_
 simp[go_sem]
 refine GLoop_p T_ok (α:=Nat) (λi=>[(2,.i m),(3,.ptr 0 0 17 0),(7,.b true),(8,.ptr 1 0 17 0),(134,.i x.ks.length),(135,.i i)]) (λi M nx=>i≤x.ks.length∧2≤nx∧M 0=some (.box x.cells)∧M 1=some (.box y.cells)) (λi=>x.ks.length - i) 0 ?_ ?_ ?_
 ·exact⟨Nat.zero_le _,by simp[go_sem]⟩
 ·simp[go_sem]
 rintro i J M nx _ ⟨hi,hnx,m0,m1⟩
 have hkm:=hx.ks
 by_cases hlt:i<x.ks.length
 ·have hlt2:i<y.ks.length:=by omega
  have r1:=rowOf_get (f:=KsG.f) hlt
  have r2:=rowOf_get (f:=KsG.f) hlt2
  have hkk:=hks i hlt hlt2
  have hd:=rem_dec hv (List.getElem_mem hlt) (a:=(n:Int)) (b:=(m:Int)) (by omega) (by omega) hbn x.now
  obtain⟨k,hk⟩:∃k,x.ks[i]=k:=⟨_,rfl⟩
  obtain⟨k',hk'⟩:∃k',y.ks[i]=k':=⟨_,rfl⟩
  rw[hk] at r1 hkk hd
  rw[hk'] at r2 hkk
  rw[← hkk] at hd
  have d1:=decide60 k m x.now x.key
  have d2:=decide60 k' m x.now x.key
  rw[hd.1,hd.2] at d2
  obtain⟨E,hEE⟩:∃E,decE k m x.now x.key=E:=⟨_,rfl⟩
  obtain⟨D,hD⟩:∃D,(if E=0 then decD k m x.now else 0)=D:=⟨_,rfl⟩
  rw[hEE,hD] at d1 d2
  simp[go_sem,hlt]
  refine GDraw_all T_ok (by kernel_rfl) (by kernel_rfl) ?_
  simp[go_sem,hlt,m0,m1,r1]
  refine⟨by omega,_,dcall_val d1 rfl rfl,?_⟩
  simp[go_sem]
  refine GDraw_all T_ok (by kernel_rfl) (by kernel_rfl) ?_
  simp[go_sem,hlt2,m0,m1,r2,hnow,hkey]
  refine⟨by omega,_,dcall_val d2 rfl rfl,?_⟩
  simp[go_sem]
  exact⟨by omega,i+1,by omega,by omega,by omega,by omega,m0,m1⟩
 obtain rfl:i=x.ks.length:=by omega
 have hml:m<x.ir.length:=by omega
 have hml2:m<y.ir.length:=by omega
 have q1:=rowOf_get (f:=IrG.f) hml
 have q2:=rowOf_get (f:=IrG.f) hml2
 have e1:x.eye m=x.ir[m]:=SvG.eye_get hml
 have e2:y.eye m=y.ir[m]:=SvG.eye_get hml2
 rw[← e1] at q1
 rw[← e2,hey m (by omega) hbn] at q2
 simp[go_sem,m0,m1]
 refine GDraw_all T_ok (by kernel_rfl) (by kernel_rfl) ?_
 simp[go_sem,m0,m1]
 refine⟨by omega,_,dcall_val (there20 y m) rfl rfl,?_⟩
 rw[SvG.isB_iff hyv,hth m hbt hbn]
 simp[go_sem,m0,m1,hml,hml2,q1,q2]
 omega
end Go.Gx.Sr
