/-
  Texts of the walk, merged: Xv.
-/
import Derived.Test.YtncccnmmjfapnaaGreatZxt
import Derived.Test.YtncccnmmjfapnaaGreatZxw
set_option linter.unusedVariables false
set_option linter.unusedSimpArgs false
set_option maxRecDepth 100000
set_option maxHeartbeats 4000000
namespace Go.Gx.Sr
open Go.RowKit Go.Proofs Go.Proofs.YtncccnmmjfapnaaGreat Go.Gx.Ix
theorem ordR_lew (a:Int):(SV.agg [.r (.v (.int .u8 5)),.i 0,.i a,.i 0,.b false,.r (.v (.int .u64 0)),.r (.v (.int .u64 0)),.r (.v (.int .u64 0)),
 .i 0,.i 0,.i 0,.i 0,.i 0,.i 0,.i 0,.r (.v (.int .u8 0)),.i 0,.i 0,.i 0,.i 0,.i 0,.i 0,.i 0,.i 0,.i 0,.i 0,.i 0,.i 0,
 .i 0,.i 0,.i 0,.i 0,.i 0,nilS]).le (ordR a).sv:=SV.le_of_sub (by simp[go_sem,ordR,OrG.z])
theorem salt55w (a b:W64):Pure Tryz.prog 55 [.w a,.w b] (· =.w (xor64 a b)):=by
 refine pure_of_GC T_ok Tryz.func55 rfl (by kernel_rfl) (nb rfl) rfl rfl ?_
 simp[go_sem]
def chF (x:SvG) (n:Nat) (h:Nat):List ChG:=(x.ch.take h).filter λc=>!decide (c.p=n)
def oC (n:Nat):List SV:=[.r (.v (.int .u8 5)),.r (.v (.int .i64 0)),.i n,.r (.v (.int .i64 0)),.r (.v (.bool false)),.r (.v (.int .u64 0)),.r (.v (.int .u64 0)),.r (.v (.int .u64 0)),.r (.v (.int .i64 0)),.r (.v (.int .i64 0)),.r (.v (.int .i64 0)),.r (.v (.int .i64 0)),.r (.v (.int .i64 0)),.r (.v (.int .i64 0)),.r (.v (.int .i64 0)),.r (.v (.int .u8 0)),.r (.v (.int .i64 0)),.r (.v (.int .i64 0)),.r (.v (.int .i64 0)),.r (.v (.int .i64 0)),.r (.v (.int .i64 0)),.r (.v (.int .i64 0)),.r (.v (.int .i64 0)),.r (.v (.int .i64 0)),.r (.v (.int .i64 0)),.r (.v (.int .i64 0)),.r (.v (.int .i64 0)),.r (.v (.int .i64 0)),.r (.v (.int .i64 0)),.r (.v (.int .i64 0)),.r (.v (.int .i64 0)),.r (.v (.int .i64 0)),.r (.v (.int .i64 0)),.r (.v (.slice none 0 0))]
def K14 (x:SvG) (code:IrG) (n:Nat) (z:SvG) (an:AnG) (F5 F8:Nat→Nat→SV) (M:Mem) (nx:Nat):Prop:=
 20≤nx∧M 0=some (.box x.cells)∧M 1=some (.box [.w code.c,.w code.m])∧
 M 2=some (.box (oC n))∧
 M 3=some (.box z.cells)∧M 4=some (.box [.i 0,.i an.n,hts an.h])∧M 5=some (.vec 116 2 x.g.nr F5)∧M 8=some (.vec 45 2 x.ir.length F8)∧M 14=some (.vec 100 4 x.ks.length λi j=>.r (rowOf KsG.f x.ks i j))
def Y14 (x:SvG) (n:Nat) (k c h:Nat) (M:Mem):Prop:=
 (∃G,M 17=some (.vec 147 3 (kept (x.g.lp n) k).length G)∧∀i j,i<(kept (x.g.lp n) k).length→j<3→G i j=.r ((x.g.l ((kept (x.g.lp n) k)[i]?.getD 0)).c j))∧
 (∃G,M 18=some (.vec 150 3 (kept (x.g.cp n) c).length G)∧∀i j,i<(kept (x.g.cp n) c).length→j<3→G i j=.r ((x.g.c ((kept (x.g.cp n) c)[i]?.getD 0)).c j))∧
 (∃G,M 19=some (.vec 114 3 (chF x n h).length G)∧∀i j,i<(chF x n h).length→j<3→G i j=.r (rowOf ChG.f (chF x n h) i j))
theorem app_row {G H:Nat→Nat→SV} {T:Nat→Nat→RV} {len w:Nat} (ref:Nat) (h1:∀i j,i<len→j<w→G i j=.r (T i j)) (h2:∀j,j<w→H 0 j=.r (T len j)) :
 ∀i j,i<len+1→j<w→SV.kill ref (joined len 1 G H i j)=.r (T i j):=λi j hi hj=>by
 unfold joined
 by_cases e:i<len
 ·rw[if_pos e,h1 i j e hj];rfl
 ·have:i=len:=by omega
  subst this
  rw[if_neg e,if_pos hi,Nat.sub_self,h2 j hj];rfl
theorem app_at {l:List Nat} {k i:Nat} (h:i<l.length):(l++[k])[i]?.getD 0=l[i]?.getD 0:=by rw[List.getElem?_append_left h]
theorem app_end {l:List Nat} {k:Nat}:(l++[k])[l.length]?.getD 0=k:=by rw[List.getElem?_append_right (Nat.le_refl _)];simp
theorem rem_run {x:SvG} {a:Int} (ht:x.g.th a=true):(stA x (ordR a)).e=0:=by
 have e:doM x (ordR a)=remM x (ordR a):=rfl
 have ht':x.g.th (ordR a).a=true:=ht
 unfold stA
 rw[e]
 unfold remM
 rw[if_pos ht']
 rfl
theorem oth_ok {x:SvG} (hx:x.OK) (hv:x.Va) {a:Int} (ht:x.g.th a=true) (code:IrG) (q:Int) (ds:List W64):(x.oth a code q ds).OK:=by
 have w:=(hv.rem ht).ok
 exact⟨⟨w.g.nr,w.g.nl,w.g.nc,w.g.nv⟩,w.r,w.rn,w.rc,w.rw',w.rm,by show(x.ir.set _ _).length<_;rw[List.length_set];exact hx.ir,w.ch,hx.ks,by show(detL _ _ _).length<_;rw[detL_len];exact hx.lg⟩
theorem law14 (x:SvG) (a:Int) (code:IrG) (q:Int) (ds:List W64) (hb:x.r.By) (ha0:-9223372036854775808≤a) (ha1:a≤9223372036854775807) (hq0:-9223372036854775808≤q) (hq1:q≤9223372036854775807) :
 Pure Tryz.prog 14 [x.sv,.i a,code.sv,.i q,wds ds] (· =.b true):=by
 refine pure_of_GC T_ok Tryz.func14 rfl (by kernel_rfl) (nb rfl) rfl rfl ?_
 simp[go_sem]
 refine call_val alive16 rfl rfl ?_
 simp[go_sem]
 refine call_val (great17 x) rfl rfl ?_
 cases hg:x.great
 rotate_left
 ·simp[go_sem]
 simp[go_sem]
 obtain⟨hx,hil,hcl,hkl0,hlg⟩:=SvG.OK_of hb hg
 have hnl:=hx.g.nl
 have hnc:=hx.g.nc
 have hsm:=ordR_sm a
 by_cases hE:stpE x (ordR a)=0
 rotate_left
 ·refine call_val ((step_bad hx hsm hE).args ⟨SV.le.rfl,ordR_lew a,trivial⟩) rfl rfl ?_
  simp[go_sem,hE]
 refine call_val ((step_good hx hsm hE).args ⟨SV.le.rfl,ordR_lew a,trivial⟩) rfl rfl ?_
 obtain⟨hv,hoE⟩:=stpE_va hE
 simp[go_sem]
 by_cases he:(stA x (ordR a)).e=0
 rotate_left
 ·simp[go_sem,he]
 obtain⟨ht,hX,hn⟩:=rem_ok he
 have hai:=SvG.th_in (SvG.va_iff.2 hv) ht
 obtain⟨n,rfl⟩:∃n:Nat,a=n:=⟨a.toNat,by omega⟩
 simp[go_sem,he]
 refine call_val (there20 x n) rfl rfl ?_
 rw[SvG.isB_iff hv,ht]
 simp[go_sem]
 refine callK_own [] (twin33w x hx ⟨by omega,by omega,by omega,by omega⟩) (by simp) rfl trivial ?_
 simp[go_sem]
 refine⟨by omega,by have:=hv.irn;omega,?_⟩
 obtain⟨F8,hF8⟩:∃F:Nat→Nat→SV,(λi' j'=>if i'=n∧j'<2 then [SV.w code.c,SV.w code.m][j']?.getD (.r .any) else .r (rowOf IrG.f x.ir i' j'))=F:=⟨_,rfl⟩
 obtain⟨F5,hF5⟩:∃F:Nat→Nat→SV,(λi' j'=>if i'=n∧j'=0 then [SV.i q][j']?.getD (.r .any) else .r ((x.g.r i').c j'))=F:=⟨_,rfl⟩
 obtain⟨an,han⟩:∃an,stA x (ordR n)=an:=⟨_,rfl⟩
 obtain⟨z,hz⟩:∃z,stX x (ordR n)=z:=⟨_,rfl⟩
 rw[hF8,hF5,han,hz]
 have k5:∀r i j,SV.kill r (F5 i j)=F5 i j:=λr i j=>by
  rw[← hF5];simp only [];split
  ·rename_i h;rw[h.2];rfl
  ·rfl
 have k8:∀r i j,SV.kill r (F8 i j)=F8 i j:=λr i j=>by
  rw[← hF8];simp only [];split
  ·rename_i h;rcases(by omega:j=0∨j=1) with rfl | rfl <;> rfl
  ·rfl
 have q5:∀r R i j,SV.fz r R (F5 i j)=F5 i j:=λr R i j=>by
  rw[← hF5];simp only [];split
  ·rename_i h;rw[h.2];rfl
  ·rfl
 have q8:∀r R i j,SV.fz r R (F8 i j)=F8 i j:=λr R i j=>by
  rw[← hF8];simp only [];split
  ·rename_i h;rcases(by omega:j=0∨j=1) with rfl | rfl <;> rfl
  ·rfl
 have kO:∀r,SV.killL r (oC n)=oC n:=λr=>by simp[oC,go_sem]
 refine GLoop_pre ((GSt.adoptBox 16 7 147 3 (λ_ _=>.r .any) (by rfl) (by rfl) (by decide)).trans ((GSt.adoptBox 16 8 150 3 (λ_ _=>.r .any) (by rfl) (by rfl) (by decide)).trans (GSt.adoptBox 16 14 114 3 (λ_ _=>.r .any) (by rfl) (by rfl) (by decide)))) ?_
 refine GLoop_p T_ok (α:=Nat) (λk=>[(1,.i n),(3,.i q),(4,wds ds),(5,.ptr 0 0 17 0),(7,.ptr 1 0 2 0),(11,.b true),(12,.ptr 2 0 34 0),(13,.ptr 3 0 17 0),(14,.ptr 4 0 3 0),(16,.ptr 16 0 17 0),(79,x.g.ll),(80,.i x.g.nl),(81,.i k)])
  (λk M nx=>k≤x.g.nl∧K14 x code n z an F5 F8 M nx∧M 16=some (.box [.i x.num,.i x.den,.i x.turns,.i x.mage,.w x.key,.i x.now,.sl 5 2 0 x.g.nr none,.sl 17 3 0 (kept (x.g.lp n) k).length none,.sl 18 3 0 (kept (x.g.cp n) 0).length none,.sl 8 2 0 x.ir.length none,.sl 9 8 0 x.r.nr none,.sl 10 3 0 x.r.nc none,.sl 11 4 0 x.r.nw none,.sl 12 5 0 x.r.nm none,.sl 19 3 0 (chF x n 0).length none,.sl 14 4 0 x.ks.length none,.sl 15 7 0 x.lg.length none])∧M 15=some (.vec 73 7 x.lg.length λi j=>.r (rowOf EnG.f x.lg i j))∧Y14 x n k 0 0 M)
  (λk=>x.g.nl - k) 0 ?_ ?_ ?_
 ·simp[go_sem,K14,Y14,chF,kept,oC]
 ·simp[go_sem]
 rintro k J M nx _ ⟨hk,⟨hnx,m0,m1,m2,m3,m4,m5,m8,m14⟩,m16,m15,⟨G1,g1,hG1⟩,⟨G2,g2,hG2⟩,⟨G3,g3,hG3⟩⟩
 have b:∀i,i<20→¬i=nx:=λi h=>by omega
 have c:∀i,i<20→¬nx=i:=λi h=>by omega
 have hkl:=kept_le (x.g.lp n) k
 by_cases hlt:k<x.g.nl
 ·by_cases hp:x.g.lp n k=true
  ·have hp':=hp
   unfold EG.lp at hp'
   have hs:kept (x.g.lp n) (k+1)=kept (x.g.lp n) k:=by rw[kept_succ];simp[hp]
   by_cases p1:(x.g.l k).a=n
   ·simp[go_sem,hlt,p1,m0,m1,m2,m3,m4,m5,m8,m14,m15,m16,g1,g2,g3,b,c,K14,Y14]
    exact⟨⟨by omega,by omega⟩,k+1,by omega,by omega,by omega,by omega,by rw[hs],⟨G1,⟨by rw[hs],rfl⟩,by rw[hs];exact hG1⟩,hG2,hG3⟩
   ·have p2:(x.g.l k).b=n:=by simpa [p1] using hp'
    simp[go_sem,hlt,p1,p2,m0,m1,m2,m3,m4,m5,m8,m14,m15,m16,g1,g2,g3,b,c,K14,Y14]
    exact⟨⟨by omega,by omega⟩,k+1,by omega,by omega,by omega,by omega,by rw[hs],⟨G1,⟨by rw[hs],rfl⟩,by rw[hs];exact hG1⟩,hG2,hG3⟩
  ·obtain⟨p1,p2⟩:=EG.lp_iff.1 (by simpa using hp:x.g.lp n k=false)
   have hs:kept (x.g.lp n) (k+1)=kept (x.g.lp n) k++[k]:=by rw[kept_succ];simp[hp]
   simp[go_sem,hlt,p1,p2,m0,m1,m2,m3,m4,m5,m8,m14,m15,m16,g1,g2,g3,b,c,K14,Y14,k5,k8,kO]
   exact⟨⟨by omega,by omega⟩,⟨by omega,by omega⟩,k+1,by omega,by omega,by omega,by omega,by rw[hs];simp,⟨_,⟨by rw[hs];simp,rfl⟩,by
    rw[hs,List.length_append]
    exact app_row 17 (λi j hi hj=>by rw[hG1 i j hi hj,app_at hi]) λj hj=>by
     rw[app_end]
     rcases(by omega:j=0∨j=1∨j=2) with rfl | rfl | rfl <;> rfl⟩,λi j hi hj=>by rw[hG2 i j hi hj];rfl,λi j hi hj=>by rw[hG3 i j hi hj];rfl⟩
 have hk':k=x.g.nl:=by omega
 subst hk'
 simp[go_sem,hlt,m0,m1,m2,m3,m4,m5,m8,m14,m15,m16,g1,g2,g3,b,c,K14,Y14]
 refine GLoop_p T_ok (α:=Nat) (λk=>[(1,.i n),(3,.i q),(4,wds ds),(5,.ptr 0 0 17 0),(7,.ptr 1 0 2 0),(11,.b true),(12,.ptr 2 0 34 0),(13,.ptr 3 0 17 0),(14,.ptr 4 0 3 0),(16,.ptr 16 0 17 0),(106,x.g.cc),(107,.i x.g.nc),(108,.i k)])
  (λk M nx=>k≤x.g.nc∧K14 x code n z an F5 F8 M nx∧M 16=some (.box [.i x.num,.i x.den,.i x.turns,.i x.mage,.w x.key,.i x.now,.sl 5 2 0 x.g.nr none,.sl 17 3 0 (kept (x.g.lp n) x.g.nl).length none,.sl 18 3 0 (kept (x.g.cp n) k).length none,.sl 8 2 0 x.ir.length none,.sl 9 8 0 x.r.nr none,.sl 10 3 0 x.r.nc none,.sl 11 4 0 x.r.nw none,.sl 12 5 0 x.r.nm none,.sl 19 3 0 (chF x n 0).length none,.sl 14 4 0 x.ks.length none,.sl 15 7 0 x.lg.length none])∧M 15=some (.vec 73 7 x.lg.length λi j=>.r (rowOf EnG.f x.lg i j))∧Y14 x n x.g.nl k 0 M)
  (λk=>x.g.nc - k) 0 ?_ ?_ ?_
 ·exact⟨Nat.zero_le _,⟨hnx,m0,m1,m2,m3,m4,m5,m8,m14⟩,m16,m15,⟨G1,g1,hG1⟩,⟨G2,g2,hG2⟩,⟨G3,g3,hG3⟩⟩
 ·simp[go_sem]
 clear b c hkl hlt hk m0 m1 m2 m3 m4 m5 m8 m14 m15 m16 g1 g2 g3 hG1 hG2 hG3 G1 G2 G3 hnx
 rintro k J M nx _ ⟨hk,⟨hnx,m0,m1,m2,m3,m4,m5,m8,m14⟩,m16,m15,⟨G1,g1,hG1⟩,⟨G2,g2,hG2⟩,⟨G3,g3,hG3⟩⟩
 have b:∀i,i<20→¬i=nx:=λi h=>by omega
 have c:∀i,i<20→¬nx=i:=λi h=>by omega
 have hkl:=kept_le (x.g.cp n) k
 by_cases hlt:k<x.g.nc
 ·by_cases hp:x.g.cp n k=true
  ·have hp':=hp
   unfold EG.cp at hp'
   have hs:kept (x.g.cp n) (k+1)=kept (x.g.cp n) k:=by rw[kept_succ];simp[hp]
   by_cases p1:(x.g.c k).a=n
   ·simp[go_sem,hlt,p1,m0,m1,m2,m3,m4,m5,m8,m14,m15,m16,g1,g2,g3,b,c,K14,Y14,k5,k8,kO]
    exact⟨⟨by omega,by omega⟩,k+1,by omega,by omega,by omega,by omega,by rw[hs],hG1,⟨G2,⟨by rw[hs],rfl⟩,by rw[hs];exact hG2⟩,hG3⟩
   ·have p2:(x.g.c k).b=n:=by simpa [p1] using hp'
    simp[go_sem,hlt,p1,p2,m0,m1,m2,m3,m4,m5,m8,m14,m15,m16,g1,g2,g3,b,c,K14,Y14,k5,k8,kO]
    exact⟨⟨by omega,by omega⟩,k+1,by omega,by omega,by omega,by omega,by rw[hs],hG1,⟨G2,⟨by rw[hs],rfl⟩,by rw[hs];exact hG2⟩,hG3⟩
  ·obtain⟨p1,p2⟩:=EG.cp_iff.1 (by simpa using hp:x.g.cp n k=false)
   have hs:kept (x.g.cp n) (k+1)=kept (x.g.cp n) k++[k]:=by rw[kept_succ];simp[hp]
   simp[go_sem,hlt,p1,p2,m0,m1,m2,m3,m4,m5,m8,m14,m15,m16,g1,g2,g3,b,c,K14,Y14,k5,k8,kO]
   exact⟨⟨by omega,by omega⟩,⟨by omega,by omega⟩,k+1,by omega,by omega,by omega,by omega,by rw[hs];simp,λi j hi hj=>by rw[hG1 i j hi hj];rfl,⟨_,⟨by rw[hs];simp,rfl⟩,by
    rw[hs,List.length_append]
    exact app_row 18 (λi j hi hj=>by rw[hG2 i j hi hj,app_at hi]) λj hj=>by
     rw[app_end]
     rcases(by omega:j=0∨j=1∨j=2) with rfl | rfl | rfl <;> rfl⟩,λi j hi hj=>by rw[hG3 i j hi hj];rfl⟩
 have hk':k=x.g.nc:=by omega
 subst hk'
 simp[go_sem,hlt,m0,m1,m2,m3,m4,m5,m8,m14,m15,m16,g1,g2,g3,b,c,K14,Y14,k5,k8,kO]
 refine GLoop_p T_ok (α:=Nat) (λk=>[(1,.i n),(3,.i q),(4,wds ds),(5,.ptr 0 0 17 0),(7,.ptr 1 0 2 0),(11,.b true),(12,.ptr 2 0 34 0),(13,.ptr 3 0 17 0),(14,.ptr 4 0 3 0),(16,.ptr 16 0 17 0),(132,chs x.ch),(133,.i x.ch.length),(134,.i k)])
  (λk M nx=>k≤x.ch.length∧K14 x code n z an F5 F8 M nx∧M 16=some (.box [.i x.num,.i x.den,.i x.turns,.i x.mage,.w x.key,.i x.now,.sl 5 2 0 x.g.nr none,.sl 17 3 0 (kept (x.g.lp n) x.g.nl).length none,.sl 18 3 0 (kept (x.g.cp n) x.g.nc).length none,.sl 8 2 0 x.ir.length none,.sl 9 8 0 x.r.nr none,.sl 10 3 0 x.r.nc none,.sl 11 4 0 x.r.nw none,.sl 12 5 0 x.r.nm none,.sl 19 3 0 (chF x n k).length none,.sl 14 4 0 x.ks.length none,.sl 15 7 0 x.lg.length none])∧M 15=some (.vec 73 7 x.lg.length λi j=>.r (rowOf EnG.f x.lg i j))∧Y14 x n x.g.nl x.g.nc k M)
  (λk=>x.ch.length - k) 0 ?_ ?_ ?_
 ·exact⟨Nat.zero_le _,⟨hnx,m0,m1,m2,m3,m4,m5,m8,m14⟩,m16,m15,⟨G1,g1,hG1⟩,⟨G2,g2,hG2⟩,⟨G3,g3,hG3⟩⟩
 ·simp[go_sem]
 clear b c hkl hlt hk m0 m1 m2 m3 m4 m5 m8 m14 m15 m16 g1 g2 g3 hG1 hG2 hG3 G1 G2 G3 hnx
 rintro k J M nx _ ⟨hk,⟨hnx,m0,m1,m2,m3,m4,m5,m8,m14⟩,m16,m15,⟨G1,g1,hG1⟩,⟨G2,g2,hG2⟩,⟨G3,g3,hG3⟩⟩
 have b:∀i,i<20→¬i=nx:=λi h=>by omega
 have c:∀i,i<20→¬nx=i:=λi h=>by omega
 have hkl:(chF x n k).length≤k:=Nat.le_trans (List.length_filter_le _ _) (by simp;omega)
 by_cases hlt:k<x.ch.length
 ·by_cases p1:x.ch[k].p=n
  ·have hs:chF x n (k+1)=chF x n k:=by unfold chF;rw[List.take_succ_eq_append_getElem hlt,List.filter_append];simp[p1]
   simp[go_sem,hlt,p1,rowOf_get hlt,m0,m1,m2,m3,m4,m5,m8,m14,m15,m16,g1,g2,g3,b,c,K14,Y14,k5,k8,kO]
   exact⟨⟨by omega,by omega⟩,k+1,by omega,by omega,by omega,by omega,by rw[hs],hG1,hG2,⟨G3,⟨by rw[hs],rfl⟩,by rw[hs];exact hG3⟩⟩
  ·have hs:chF x n (k+1)=chF x n k++[x.ch[k]]:=by unfold chF;rw[List.take_succ_eq_append_getElem hlt,List.filter_append];simp[p1]
   simp[go_sem,hlt,p1,rowOf_get hlt,m0,m1,m2,m3,m4,m5,m8,m14,m15,m16,g1,g2,g3,b,c,K14,Y14,k5,k8,kO]
   exact⟨⟨by omega,by omega⟩,⟨by omega,by omega⟩,k+1,by omega,by omega,by omega,by omega,by rw[hs];simp,λi j hi hj=>by rw[hG1 i j hi hj];rfl,λi j hi hj=>by rw[hG2 i j hi hj];rfl,⟨_,⟨by rw[hs];simp,rfl⟩,by
    rw[hs,List.length_append]
    exact app_row 19 (λi j hi hj=>by rw[hG3 i j hi hj,rowOf_get hi,rowOf_get (by simp;omega),List.getElem_append_left hi]) λj hj=>by
     rw[rowOf_get (by simp),List.getElem_append_right (Nat.le_refl _)]
     simp only [Nat.sub_self,List.getElem_cons_zero]
     rcases(by omega:j=0∨j=1∨j=2) with rfl | rfl | rfl <;> rfl⟩⟩
 have hk':k=x.ch.length:=by omega
 subst hk'
 simp[go_sem,hlt,m0,m1,m2,m3,m4,m5,m8,m14,m15,m16,g1,g2,g3,b,c,K14,Y14,k5,k8,kO]
 have hF:x.r.foE n=0:=by
  unfold Rg.RG.foE
  rw[if_pos hv.r,if_pos (by simp[Rg.persB,Rg.btw];omega)]
 have hfo:=Rg.forget20 x.r n hx.r
 rw[hF,if_pos rfl] at hfo
 refine call_val hfo rfl rfl ?_
 simp[go_sem,m0,m1,m2,m3,m4,m5,m8,m14,m15,m16,g1,g2,g3,b,c]
 refine GLoop_p T_ok (α:=Nat) (λk=>[(1,.i n),(3,.i q),(4,wds ds),(7,.ptr 1 0 2 0),(11,.b true),(12,.ptr 2 0 34 0),(13,.ptr 3 0 17 0),(14,.ptr 4 0 3 0),(16,.ptr 16 0 17 0),(162,.i x.lg.length),(163,.i k)])
  (λk M nx=>k≤x.lg.length∧K14 x code n z an F5 F8 M nx∧M 16=some (.box [.i x.num,.i x.den,.i x.turns,.i x.mage,.w x.key,.i x.now,.sl 5 2 0 x.g.nr none,.sl 17 3 0 (kept (x.g.lp n) x.g.nl).length none,.sl 18 3 0 (kept (x.g.cp n) x.g.nc).length none,.sl 8 2 0 x.ir.length none,Rg.RuleG.rs (x.r.forget n).nr (x.r.forget n).r,Rg.ConG.rs (x.r.forget n).nc (x.r.forget n).c,Rg.WarG.rs (x.r.forget n).nw (x.r.forget n).w,Rg.MarkG.rs (x.r.forget n).nm (x.r.forget n).m,.sl 19 3 0 (chF x n x.ch.length).length none,.sl 14 4 0 x.ks.length none,.sl 15 7 0 x.lg.length none])∧(∃G,M 15=some (.vec 73 7 x.lg.length G)∧∀i (hi:i<x.lg.length) j,j<7→G i j=.r ((if i<k then detE n x.lg[i] ds[i]? else x.lg[i]).f j))∧Y14 x n x.g.nl x.g.nc x.ch.length M)
  (λk=>x.lg.length - k) 0 ?_ ?_ ?_
 ·simp[go_sem,K14,Y14,m0,m1,m2,m3,m4,m5,m8,m14,m15,m16,g1,g2,g3,b,c]
  exact⟨by omega,λi hi j hj=>by rw[rowOf_get hi],hG1,hG2,hG3⟩
 ·simp[go_sem]
 clear b c hkl hlt hk m0 m1 m2 m3 m4 m5 m8 m14 m15 m16 g1 g2 g3 hG1 hG2 hG3 G1 G2 G3 hnx
 rintro k J M nx _ ⟨hk,⟨hnx,m0,m1,m2,m3,m4,m5,m8,m14⟩,m16,⟨GL,m15,hGL⟩,⟨G1,g1,hG1⟩,⟨G2,g2,hG2⟩,⟨G3,g3,hG3⟩⟩
 have b:∀i,i<20→¬i=nx:=λi h=>by omega
 have c:∀i,i<20→¬nx=i:=λi h=>by omega
 by_cases hlt:k<x.lg.length
 ·have e2:=hGL k hlt 2 (by decide)
  have e5:=hGL k hlt 5 (by decide)
  rw[if_neg (Nat.lt_irrefl k)] at e2 e5
  by_cases p1:x.lg[k].p=n
  ·by_cases p2:k<ds.length
   ·simp[go_sem,hlt,p1,p2,e2,e5,m0,m1,m2,m3,m4,m5,m8,m14,m15,m16,g1,g2,g3,b,c,K14,Y14]
    refine GDraw_of T_ok (by kernel_rfl) 9 (by kernel_rfl) rfl rfl ?_
    simp[go_sem,hlt,p1,p2,e2,e5,rowOf_get p2,m0,m1,m2,m3,m4,m5,m8,m14,m15,m16,g1,g2,g3,b,c,K14,Y14]
    refine⟨by omega,by omega,?_⟩
    refine GDraw_of T_ok (by kernel_rfl) 16 (by kernel_rfl) rfl rfl ?_
    simp[go_sem,hlt,p1,p2,e2,e5,rowOf_get p2,m0,m1,m2,m3,m4,m5,m8,m14,m15,m16,g1,g2,g3,b,c,K14,Y14]
    refine⟨by omega,by omega,_,dcall_val (salt55w _ _) rfl rfl,by omega,⟨rfl,rfl⟩,⟨by omega,by omega⟩,k+1,by omega,by omega,by omega,by omega,λi hi j hj=>?_,hG1,hG2,hG3⟩
    by_cases e:i=k
    ·subst e
     have h:=hGL i hi j hj
     rw[if_neg (Nat.lt_irrefl i)] at h
     rw[if_pos (Nat.lt_succ_self i)]
     have hd:detE n x.lg[i] ds[i]? ={x.lg[i] with d:=ds[i],a:=xor64 x.lg[i].s ds[i]}:=by rw[List.getElem?_eq_getElem p2];unfold detE;simp only [];rw[if_pos p1]
     rw[hd]
     rcases(by omega:j=0∨j=1∨j=2∨j=3∨j=4∨j=5∨j=6) with rfl | rfl | rfl | rfl | rfl | rfl | rfl <;> simp[h] <;> rfl
    ·rw[if_neg (λw=>e w.1),if_neg (λw=>e w.1),hGL i hi j hj]
     by_cases h:i<k
     ·rw[if_pos h,if_pos (by omega)]
     ·rw[if_neg h,if_neg (by omega)]
   ·have hd:ds[k]? =none:=List.getElem?_eq_none (by omega)
    simp[go_sem,hlt,p1,p2,e2,e5,m0,m1,m2,m3,m4,m5,m8,m14,m15,m16,g1,g2,g3,b,c,K14,Y14]
    exact⟨⟨by omega,by omega⟩,k+1,by omega,by omega,by omega,by omega,λi hi j hj=>by
     rw[hGL i hi j hj]
     by_cases e:i=k
     ·subst e
      rw[if_neg (Nat.lt_irrefl i),if_pos (Nat.lt_succ_self i)]
      simp[detE,hd]
     ·by_cases h:i<k
      ·rw[if_pos h,if_pos (by omega)]
      ·rw[if_neg h,if_neg (by omega)],hG1,hG2,hG3⟩
  ·simp[go_sem,hlt,p1,e2,e5,m0,m1,m2,m3,m4,m5,m8,m14,m15,m16,g1,g2,g3,b,c,K14,Y14]
   exact⟨⟨by omega,by omega⟩,k+1,by omega,by omega,by omega,by omega,λi hi j hj=>by
    rw[hGL i hi j hj]
    by_cases e:i=k
    ·subst e
     rw[if_neg (Nat.lt_irrefl i),if_pos (Nat.lt_succ_self i)]
     simp[detE,p1]
     cases ds[i]? <;> rfl
    ·by_cases h:i<k
     ·rw[if_pos h,if_pos (by omega)]
     ·rw[if_neg h,if_neg (by omega)],hG1,hG2,hG3⟩
 have hk':k=x.lg.length:=by omega
 subst hk'
 simp[go_sem,oC,hlt,m0,m1,m2,m3,m4,m5,m8,m14,m15,m16,g1,g2,g3,b,c]
 have hn8:n<x.ir.length:=by omega
 refine callK_wk (M':=upd (upd (upd (upd (upd (upd M 5 (some (.vec 116 2 x.g.nr λi j=>.r (((x.g.othG n q).r i).c j)))) 8 (some (.vec 45 2 x.ir.length λi j=>.r (rowOf IrG.f (x.ir.set n code) i j))))
  15 (some (.vec 73 7 x.lg.length λi j=>.r (rowOf EnG.f (detL x.lg n ds) i j)))) 17 (some (.vec 147 3 (kept (x.g.lp n) x.g.nl).length λi j=>.r ((x.g.l ((kept (x.g.lp n) x.g.nl)[i]?.getD 0)).c j))))
  18 (some (.vec 150 3 (kept (x.g.cp n) x.g.nc).length λi j=>.r ((x.g.c ((kept (x.g.cp n) x.g.nc)[i]?.getD 0)).c j)))) 19 (some (.vec 114 3 (chF x n x.ch.length).length λi j=>.r (rowOf ChG.f (chF x n x.ch.length) i j)))) (λr=>?_) ?_
 ·unfold upd
  by_cases r1:r=19
  ·subst r1;rw[if_pos rfl,g3];exact Reg.wk_vec (Nat.le_refl _) λi j hi hj=>by rw[hG3 i j hi hj];exact SV.sub_rfl _
  rw[if_neg r1]
  by_cases r2:r=18
  ·subst r2;rw[if_pos rfl,g2];exact Reg.wk_vec (Nat.le_refl _) λi j hi hj=>by rw[hG2 i j hi hj];exact SV.sub_rfl _
  rw[if_neg r2]
  by_cases r3:r=17
  ·subst r3;rw[if_pos rfl,g1];exact Reg.wk_vec (Nat.le_refl _) λi j hi hj=>by rw[hG1 i j hi hj];exact SV.sub_rfl _
  rw[if_neg r3]
  by_cases r4:r=15
  ·subst r4;rw[if_pos rfl,m15];exact Reg.wk_vec (Nat.le_refl _) λi j hi hj=>by rw[hGL i hi j hj,if_pos hi,rowOf_get (by rw[detL_len];exact hi),detL_get hi];exact SV.sub_rfl _
  rw[if_neg r4]
  by_cases r5:r=8
  ·subst r5;rw[if_pos rfl,m8];exact Reg.wk_vec (Nat.le_refl _) λi j hi hj=>by
    rw[← hF8,rowOf_get (by rw[List.length_set];exact hi),List.getElem_set]
    simp only []
    by_cases e:i=n
    ·rw[if_pos ⟨e,hj⟩,if_pos e.symm]
     rcases(by omega:j=0∨j=1) with rfl | rfl <;> exact SV.sub_rfl _
    ·rw[if_neg (λh=>e h.1),if_neg (λh=>e h.symm),rowOf_get hi];exact SV.sub_rfl _
  rw[if_neg r5]
  by_cases r6:r=5
  ·subst r6;rw[if_pos rfl,m5];exact Reg.wk_vec (Nat.le_refl _) λi j hi hj=>by
    rw[← hF5]
    show SV.sub (if i=n∧j=0 then [SV.i q][j]?.getD (.r .any) else .r ((x.g.r i).c j)) (.r ((if i=n then (⟨q,(x.g.r i).g⟩:RcG) else x.g.r i).c j))
    by_cases e:i=n
    ·rw[if_pos e]
     rcases(by omega:j=0∨j=1) with rfl | rfl
     ·rw[if_pos ⟨e,rfl⟩];exact SV.sub_rfl _
     ·rw[if_neg (by simp)];exact SV.sub_rfl _
    ·rw[if_neg (λh=>e h.1),if_neg e];exact SV.sub_rfl _
  rw[if_neg r6]
  exact .inl (Reg.sub_rfl _)
 refine callK_freeze 5 (by simp[go_sem,m5];rfl) ?_
 simp[go_sem,m0,m1,m2,m3,m4,m5,m8,m14,m15,m16,g1,g2,g3]
 refine callK_freeze 8 (by simp[go_sem,m8];rfl) ?_
 simp[go_sem,m0,m1,m2,m3,m4,m5,m8,m14,m15,m16,g1,g2,g3]
 refine callK_freeze 14 (by simp[go_sem,m14];rfl) ?_
 simp[go_sem,m0,m1,m2,m3,m4,m5,m8,m14,m15,m16,g1,g2,g3]
 refine callK_freeze 15 (by simp[go_sem,m15];rfl) ?_
 simp[go_sem,m0,m1,m2,m3,m4,m5,m8,m14,m15,m16,g1,g2,g3]
 refine callK_freeze 17 (by simp[go_sem,g1];rfl) ?_
 simp[go_sem,m0,m1,m2,m3,m4,m5,m8,m14,m15,m16,g1,g2,g3]
 refine callK_freeze 18 (by simp[go_sem,g2];rfl) ?_
 simp[go_sem,m0,m1,m2,m3,m4,m5,m8,m14,m15,m16,g1,g2,g3]
 refine callK_freeze 19 (by simp[go_sem,g3];rfl) ?_
 simp[go_sem,m0,m1,m2,m3,m4,m5,m8,m14,m15,m16,g1,g2,g3]
 have b1:∀i,i<20→¬i=nx+1:=λi h=>by omega
 have c1:∀i,i<20→¬nx+1=i:=λi h=>by omega
 have hth:(x.oth n code q ds).g.th n=true:=(oth_th x.g _ q n).trans ht
 have hchk:=oth_chk hv ht code q ds
 have hO:=oth_ok hx hv ht code q ds
 have hcut:chF x n x.ch.length=x.ch.filter λc:ChG=>!decide (c.p=(n:Int)):=by unfold chF;rw[List.take_length]
 have hsv:(x.oth n code q ds).sv=.agg [.i x.num,.i x.den,.i x.turns,.i x.mage,.w x.key,.i x.now,.r (RV.rs 2 x.g.nr λi j=>((x.g.othG n q).r i).c j),.r (RV.rs 3 (kept (x.g.lp n) x.g.nl).length λi j=>(x.g.l ((kept (x.g.lp n) x.g.nl)[i]?.getD 0)).c j),
  .r (RV.rs 3 (kept (x.g.cp n) x.g.nc).length λi j=>(x.g.c ((kept (x.g.cp n) x.g.nc)[i]?.getD 0)).c j),.r (RV.rs 2 x.ir.length λi j=>rowOf IrG.f (x.ir.set n code) i j),.r (RV.rs 8 (x.r.forget n).nr λi j=>((x.r.forget n).r i).c j),.r (RV.rs 3 (x.r.forget n).nc λi j=>((x.r.forget n).c i).c j),
  .r (RV.rs 4 (x.r.forget n).nw λi j=>((x.r.forget n).w i).c j),.r (RV.rs 5 (x.r.forget n).nm λi j=>((x.r.forget n).m i).c j),.r (RV.rs 3 (chF x n x.ch.length).length λi j=>rowOf ChG.f (chF x n x.ch.length) i j),.r (RV.rs 4 x.ks.length λi j=>rowOf KsG.f x.ks i j),.r (RV.rs 7 x.lg.length λi j=>rowOf EnG.f (detL x.lg n ds) i j)]:=by
  rw[hcut]
  show SV.agg [_,_,_,_,_,_,_,_,_,.r (.rs 2 (x.ir.set n code).length _),_,_,_,_,_,_,.r (.rs 7 (detL x.lg n ds).length _)]=_
  rw[List.length_set,detL_len]
  rfl
 have hle:∀s:SV,s=(x.oth n code q ds).sv→s.le (x.oth n code q ds).sv:=λs h=>h▸SV.le.rfl
 by_cases hok:code.ok=true∧0≤q∧q≤100
 rotate_left
 ·have hE2:stpE (x.oth n code q ds) (ordR n)=8:=by unfold stpE;rw[hchk,if_neg hok,if_neg (by decide)]
  have hst:=step_bad hO hsm (by rw[hE2];decide)
  rw[hE2] at hst
  refine call_val (hst.args ⟨hle _ hsv.symm,ordR_lew n,trivial⟩) rfl rfl ?_
  simp[go_sem,m0,m1,m2,m3,m4,b,c,b1,c1]
  refine call_val (check51 code.c code.m) rfl rfl ?_
  have hok':¬(vI code.c code.m=true∧0≤q∧q≤100):=hok
  by_cases hvi:vI code.c code.m=true
  ·by_cases hq2:q<0
   ·simp[go_sem,hvi,hq2,m0,m1,m2,m3,m4,b,c,b1,c1]
   ·have hq3:100<q:=by
     by_cases h:100<q
     ·exact h
     ·exact absurd ⟨hvi,by omega,by omega⟩ hok'
    simp[go_sem,hvi,hq2,hq3,m0,m1,m2,m3,m4,b,c,b1,c1]
  ·simp[go_sem,hvi,m0,m1,m2,m3,m4,b,c,b1,c1]
 have hE2:stpE (x.oth n code q ds) (ordR n)=0:=by unfold stpE;rw[hchk,if_pos hok,if_pos rfl];exact hoE
 obtain⟨_,hX2,hn2⟩:=rem_ok (rem_run hth)
 have hst:=step_good hO hsm hE2
 rw[hX2] at hst
 refine call_val (hst.args ⟨hle _ hsv.symm,ordR_lew n,trivial⟩) rfl rfl ?_
 simp[go_sem,m0,m1,m2,m3,m4,b,c,b1,c1]
 refine call_val (check51 code.c code.m) rfl rfl ?_
 have hvi:vI code.c code.m=true:=hok.1
 have hq2:¬q<0:=by omega
 have hq3:¬100<q:=by omega
 have hdn:erN (x.oth n code q ds).lg n=erN x.lg n:=detL_n x.lg n ds
 have han':an.n=erN x.lg n:=by rw[← han];exact hn
 simp[go_sem,hvi,hq2,hq3,m0,m1,m2,m3,m4,b,c,b1,c1]
 refine⟨rem_run hth,by rw[hn2,hdn,han'],?_⟩
 have hz':z=x.rem n:=hz.symm.trans hX
 have hro:((x.oth n code q ds).rem n).OK:=((oth_va hv ht hok.1 hok.2 ds).rem hth).ok
 have hzo:z.OK:=by rw[hz'];exact(hv.rem ht).ok
 have hsame:((x.oth n code q ds).rem n).same z=true:=by rw[hz'];exact oth_same x n code q ds
 have h32:=same32 _ _ hro hzo
 rw[hsame] at h32
 refine call_val h32 rfl rfl ?_
 simp[go_sem]
end Go.Gx.Sr
