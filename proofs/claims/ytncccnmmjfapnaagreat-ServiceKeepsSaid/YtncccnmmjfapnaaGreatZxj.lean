/-
  Texts of the walk, merged: Xj.
-/
import Derived.Test.YtncccnmmjfapnaaGreatZxd
set_option linter.unusedVariables false
set_option linter.unusedSimpArgs false
set_option maxRecDepth 100000
set_option maxHeartbeats 4000000
namespace Go.Gx.Sr
open Go.RowKit Go.Proofs Go.Proofs.YtncccnmmjfapnaaGreat Go.Gx.Ix
theorem law12 (x:SvG) (o:OrG) (hb:x.r.By) (ho:o.rl.byte∧0≤o.k∧o.k<256):Pure Tryz.prog 12 [x.sv,o.sv] (· =.b true):=by
 refine pure_of_GC T_ok Tryz.func12 rfl (by kernel_rfl) (nb rfl) rfl rfl ?_
 simp[go_sem]
 refine call_val alive16 rfl rfl ?_
 simp[go_sem]
 refine call_val (great17 x) rfl rfl ?_
 cases hg:x.great
 rotate_left
 ·simp[go_sem]
 simp[go_sem]
 refine call_val (great24 o) rfl rfl ?_
 cases hgo:o.great
 rotate_left
 ·simp[go_sem]
 simp[go_sem]
 obtain⟨hx,_,_,_,hlg⟩:=SvG.OK_of hb hg
 have hsm:=OrG.sm_of ho.1 hgo
 by_cases hE:stpE x o=0
 rotate_left
 ·refine call_val (step_bad hx hsm hE) rfl rfl ?_
  simp[go_sem,hE]
  refine call_val ((same32 SvG.zero SvG.zero SvG.zero_ok SvG.zero_ok).args ⟨SV.le.rfl,zero_le,trivial⟩) rfl rfl ?_
  rw[SvG.same_rfl]
  simp[go_sem,AnG.zero]
 refine call_val (step_good hx hsm hE) rfl rfl ?_
 obtain⟨hv,hoE⟩:=stpE_va hE
 have hkp:=kp_st x o (ordE_in hoE)
 have hyv:=hv.stX o
 have her:¬(stA x o).e=0→stX x o=x∧(stA x o).n=0∧(stA x o).h=[]:=stA_err
 obtain⟨y,hy⟩:∃y,stX x o=y:=⟨_,rfl⟩
 obtain⟨a,ha⟩:∃a,stA x o=a:=⟨_,rfl⟩
 rw[hy] at hkp hyv her ⊢
 rw[ha] at her ⊢
 obtain⟨n1,n2,n3,n4,n5,n6,n7,n8,n9,n10⟩:=hkp
 have hlen:x.lg.length≤y.lg.length∧(o.k<12→y.lg.length=x.lg.length):=by
  by_cases h5:o.k=5
  ·obtain⟨f,e,_⟩:=n10 h5
   rw[e];simp
  ·obtain⟨l,e⟩:=n9 h5
   refine⟨by rw[e];simp,λh=>by rw[n8 h h5]⟩
 have hent:∀k (h1:k<x.lg.length) (h2:k<y.lg.length),y.lg[k].l=x.lg[k].l∧(¬o.k=5→y.lg[k]=x.lg[k]):=by
  intro k h1 h2
  by_cases h5:o.k=5
  ·obtain⟨f,e,hf⟩:=n10 h5
   refine⟨?_,λh=>absurd h5 h⟩
   simp only [e,List.getElem_map]
   exact hf _
  ·obtain⟨l,e⟩:=n9 h5
   have:y.lg[k]=x.lg[k]:=by simp only [e];exact List.getElem_append_left h1
   exact⟨by rw[this],λ_=>this⟩
 have hcy:=chkE_iff.2 (SvG.va_iff.2 hyv)
 have hlm:=hyv.ok.lg
 simp[go_sem]
 refine call_val (check30s y hyv.ok) rfl rfl ?_
 rw[hcy]
 have hnow:¬y.now<x.now:=by omega
 have hll:¬(y.lg.length:Int)<x.lg.length:=by omega
 simp[go_sem,n1,n2,n3,n4,n5,hnow,hll]
 apply with_key (A:=∀E M nx,eqS E [(2,.ptr 0 0 17 0),(3,.ptr 1 0 34 0),(5,.b true),(6,.ptr 2 0 17 0),(7,.ptr 3 0 3 0),(103,.i x.lg.length),(104,.i 0)]→(4≤nx∧M 0=some (.box x.cells)∧M 1=some (.box o.cells)∧M 2=some (.box y.cells)∧M 3=some (.box [.i a.e,.i a.n,hts a.h]))→GLoop Tryz.prog T _ _ _ _ E M nx)
 ·intro key
  by_cases he:a.e=0
  ·simp[go_sem,he]
   exact key _ _ _ (by simp[go_sem]) (by simp[go_sem,he])
  ·obtain⟨e1,e2,e3⟩:=her he
   have e4:x.same y=true:=by rw[e1];exact SvG.same_rfl x
   simp[go_sem,he]
   have hs:=same32 x y hx hyv.ok
   rw[e4] at hs
   simp only [SvG.sv,SvG.cells,n1,n2,n3,n4,n5] at hs
   refine call_val hs rfl rfl ?_
   simp[go_sem,he,e2,e3]
   exact key _ _ _ (by simp[go_sem]) (by simp[go_sem,e2,e3])
 intro E M nx hE hM
 refine GLoop_p T_ok (α:=Nat) (λk=>[(2,.ptr 0 0 17 0),(3,.ptr 1 0 34 0),(5,.b true),(6,.ptr 2 0 17 0),(7,.ptr 3 0 3 0),(103,.i x.lg.length),(104,.i k)])
  (λk M nx=>k≤x.lg.length∧4≤nx∧M 0=some (.box x.cells)∧M 1=some (.box o.cells)∧M 2=some (.box y.cells)∧M 3=some (.box [.i a.e,.i a.n,hts a.h])) (λk=>x.lg.length - k) 0 ?_ ?_ ?_
 ·exact⟨Nat.zero_le _,hM⟩
 ·exact hE
 clear hE hM
 rintro k J M nx _ ⟨hk,hnx,m0,m1,m2,m3⟩
 by_cases hlt:k<x.lg.length
 ·have hlt2:k<y.lg.length:=by omega
  have r1:=rowOf_get (f:=EnG.f) hlt
  have r2:=rowOf_get (f:=EnG.f) hlt2
  obtain⟨q1,q2⟩:=hent k hlt hlt2
  simp[go_sem,hlt]
  refine GDraw_all T_ok (by kernel_rfl) (by kernel_rfl) ?_
  by_cases h5:o.k=5
  ·simp[go_sem,hlt,hlt2,m0,m1,m2,m3,r1,r2,q1,h5]
   exact⟨by omega,by omega,by omega,by omega,k+1,by omega,by omega,by omega,hnx⟩
  ·have q3:=q2 h5
   simp[go_sem,hlt,hlt2,m0,m1,m2,m3,r1,r2,q3,h5]
   first | exact⟨by omega,k+1,by omega,by omega,by omega,hnx⟩ | exact⟨by omega,by omega,k+1,by omega,by omega,by omega,hnx⟩ | exact⟨by omega,by omega,by omega,k+1,by omega,by omega,by omega,hnx⟩ | exact⟨by omega,by omega,by omega,by omega,k+1,by omega,by omega,by omega,hnx⟩ | exact⟨by omega,by omega,by omega,by omega,by omega,k+1,by omega,by omega,by omega,hnx⟩ | exact⟨by omega,by omega,by omega,by omega,by omega,by omega,k+1,by omega,by omega,by omega,hnx⟩ | exact⟨by omega,by omega,by omega,by omega,by omega,by omega,by omega,k+1,by omega,by omega,by omega,hnx⟩ | exact⟨by omega,by omega,by omega,by omega,by omega,by omega,by omega,by omega,k+1,by omega,by omega,by omega,hnx⟩
 obtain rfl:k=x.lg.length:=by omega
 have hle:=hlen.2
 have hne:¬o.k=1→¬o.k=11→y.now=x.now:=n7
 by_cases h1:o.k=1
 ·have hle:=hle (by omega)
  have h12:¬12≤o.k:=by omega
  simp[go_sem,m0,m1,m2,m3,h1,hle]
 by_cases h11:o.k=11
 ·have hle:=hle (by omega)
  simp[go_sem,m0,m1,m2,m3,h11,hle]
 have hn:=hne h1 h11
 by_cases h12:12≤o.k
 ·simp[go_sem,m0,m1,m2,m3,h1,h11,hn,h12]
 ·have hle:=hle (by omega)
  simp[go_sem,m0,m1,m2,m3,h1,h11,hn,h12,hle]
end Go.Gx.Sr
