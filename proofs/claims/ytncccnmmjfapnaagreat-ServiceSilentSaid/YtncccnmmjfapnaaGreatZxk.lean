/-
  Texts of the walk, merged: Xk.
-/
import Derived.Test.YtncccnmmjfapnaaGreatZxg
set_option linter.unusedVariables false
set_option linter.unusedSimpArgs false
set_option maxRecDepth 100000
set_option maxHeartbeats 4000000
namespace Go.Gx.Sr
open Go.RowKit Go.Proofs Go.Proofs.YtncccnmmjfapnaaGreat Go.Gx.Ix
def SvG.nor (x:SvG):SvG:={x with r:={x.r with nr:=0}}
theorem nor_le (x:SvG):(SV.agg [.i x.num,.i x.den,.i x.turns,.i x.mage,.w x.key,.i x.now,x.g.rr,x.g.ll,x.g.cc,irs x.ir,nilS,Rg.ConG.rs x.r.nc x.r.c,Rg.WarG.rs x.r.nw x.r.w,Rg.MarkG.rs x.r.nm x.r.m,chs x.ch,kss x.ks,lgs x.lg]).le x.nor.sv:=
 Ix.le_agg ⟨SV.le.rfl,SV.le.rfl,SV.le.rfl,SV.le.rfl,SV.le.rfl,SV.le.rfl,SV.le.rfl,SV.le.rfl,SV.le.rfl,SV.le.rfl,Ix.le_r (nil_rs 8 _),SV.le.rfl,SV.le.rfl,SV.le.rfl,SV.le.rfl,SV.le.rfl,SV.le.rfl,trivial⟩
theorem law11 (x:SvG) (o:OrG) (hb:x.r.By) (ho:o.rl.byte∧0≤o.k∧o.k<256):Pure Tryz.prog 11 [x.sv,o.sv] (· =.b true):=by
 refine pure_of_GC T_ok Tryz.func11 rfl (by kernel_rfl) (nb rfl) rfl rfl ?_
 simp[go_sem]
 refine call_val alive16 rfl rfl ?_
 simp[go_sem]
 have hle:=nor_le x
 have hby:x.nor.r.By:=λi hi=>absurd hi (Nat.not_lt_zero i)
 have hnr:x.nor.r.nr=0:=rfl
 obtain⟨z,hz⟩:∃z,x.nor=z:=⟨_,rfl⟩
 rw[hz] at hle hby hnr
 refine call_val ((great17 z).args ⟨hle,trivial⟩) rfl rfl ?_
 cases hg:z.great
 rotate_left
 ·simp[go_sem]
 simp[go_sem]
 obtain⟨p,hp⟩:∃p:OrG,{o with k:=13}=p:=⟨_,rfl⟩
 have hpk:p.k=13:=by rw[← hp]
 have hpb:p.rl.byte:=by rw[← hp];exact ho.1
 have hps:SV.agg [.r (.v (.int .u8 13)),.i o.n,.i o.a,.i o.b,.b o.f,.w o.x.c,.w o.x.m,.w o.s,
  .i o.rl.p,.i o.rl.r,.i o.rl.l,.i o.rl.f,.i o.rl.t,.i o.rl.k,.i o.rl.s,.r (.v (.int .u8 o.rl.b)),.i o.w.l,.i o.w.p,.i o.w.f,.i o.w.t,.i o.c.p,.i o.c.q,.i o.c.u,.i o.m.l,.i o.m.p,.i o.m.s,.i o.m.u,.i o.m.n,
  .i o.q.p,.i o.q.r,.i o.q.l,.i o.q.w,.i o.q.t,o.q.ks]=p.sv:=by rw[← hp]
 rw[hps]
 refine call_val (great24 p) rfl rfl ?_
 cases hgo:p.great
 rotate_left
 ·simp[go_sem]
 simp[go_sem]
 rw[hps]
 obtain⟨hx,_⟩:=SvG.OK_of hby hg
 have hsm:=OrG.sm_of hpb hgo
 by_cases hE:stpE z p=0
 rotate_left
 ·refine call_val ((step_bad hx hsm hE).args ⟨hle,SV.le.rfl,trivial⟩) rfl rfl ?_
  simp[go_sem,hE]
 refine call_val ((step_good hx hsm hE).args ⟨hle,SV.le.rfl,trivial⟩) rfl rfl ?_
 obtain⟨hv,hoE⟩:=stpE_va hE
 simp[go_sem]
 by_cases he:(stA z p).e=0
 rotate_left
 ·simp[go_sem,he]
 obtain⟨e1,e2,e3⟩:=silent_st hpk hnr he
 have e4:z.same (stX z p)=true:=by rw[e3];exact SvG.same_rfl z
 have hok:(stX z p).OK:=by rw[e3];exact hx
 simp[go_sem,he,e1,e2]
 refine call_val ((same32 z (stX z p) hx hok).args ⟨hle,SV.le.rfl,trivial⟩) rfl rfl ?_
 rw[e4]
 simp[go_sem]
end Go.Gx.Sr
