/-
  Texts of the walk, merged: Xc.
-/
import Derived.Test.YtncccnmmjfapnaaGreatZap
set_option linter.unusedVariables false
set_option linter.unusedSimpArgs false
set_option maxRecDepth 100000
set_option maxHeartbeats 4000000
namespace Go.Gx
open Go.RowKit Go.Proofs Go.Proofs.YtncccnmmjfapnaaGreat
theorem EG.bp_th {g:EG} (hl:g.lth) {a:Int} (ha:g.th a=true):∀k,k≤g.nr→g.th (g.bp a k)=true
 | 0,_=>EG.pm_th hl ha
 | k+1,hk=>by
   have ih:=EG.bp_th hl ha k (by omega)
   unfold EG.bp
   split
   ·rename_i h
    simp only [Bool.and_eq_true,Bool.not_eq_true'] at h
    exact EG.th_iff.2 ⟨by omega,by omega,by simpa using h.1.1⟩
   ·exact ih
end Go.Gx
namespace Go.Gx.Sr
open Go.RowKit Go.Proofs Go.Proofs.YtncccnmmjfapnaaGreat Go.Gx.Ix
theorem or_add {x y:Nat} {f:Nat} (h:x<2 ^ f):x ||| (y <<< f)=x+y <<< f:=by
 rw[Nat.or_comm,← Nat.shiftLeft_add_eq_or_of_lt h,Nat.add_comm]
theorem pk_step {a v:W64} {f A V:Nat} (ha:a.toNat=A) (hv:v.toNat=V) (hA:A<2 ^ f) (hV:V*2 ^ f<2 ^ 64):(or64 a (shl64 v f)).toNat=A+V*2 ^ f:=by
 unfold or64 shl64
 rw[BitVec.toNat_or,BitVec.toNat_shiftLeft,ha,hv,Nat.shiftLeft_eq,Nat.mod_eq_of_lt hV,← Nat.shiftLeft_eq,or_add hA,Nat.shiftLeft_eq]
theorem u64_toNat {n:Int} (h0:0≤n) (h1:n≤127):(u64 n).toNat=n.toNat:=by
 unfold u64
 rw[BitVec.toNat_ofInt]
 have:n % 18446744073709551616=n:=by omega
 show(n % 18446744073709551616).toNat=_
 rw[this]
theorem pack_toNat {x:RsG} (h:x.good=true):x.pack.toNat=x.d.toNat+x.n.toNat*4+x.m.toNat*512+x.p.toNat*65536+x.q.toNat*8388608+(x.r+1).toNat*1073741824:=by
 obtain⟨h1,h2,h3,h4,h5,h6⟩:=RsG.good_in h
 have k0:(x.pkA 0).toNat=0:=rfl
 have k1:(x.pkA 1).toNat=x.d.toNat:=by
  have:=pk_step (f:=0) k0 (u64_toNat (n:=x.d) (by omega) (by omega)) (by omega) (by omega)
  rw[Nat.zero_add,Nat.pow_zero,Nat.mul_one] at this
  exact this
 have k2:(x.pkA 2).toNat=x.d.toNat+x.n.toNat*4:=pk_step (f:=2) k1 (u64_toNat (n:=x.n) (by omega) (by omega)) (by omega) (by omega)
 have k3:(x.pkA 3).toNat=x.d.toNat+x.n.toNat*4+x.m.toNat*512:=pk_step (f:=9) k2 (u64_toNat (n:=x.m) (by omega) (by omega)) (by omega) (by omega)
 have k4:(x.pkA 4).toNat=x.d.toNat+x.n.toNat*4+x.m.toNat*512+x.p.toNat*65536:=pk_step (f:=16) k3 (u64_toNat (n:=x.p) (by omega) (by omega)) (by omega) (by omega)
 have k5:(x.pkA 5).toNat=x.d.toNat+x.n.toNat*4+x.m.toNat*512+x.p.toNat*65536+x.q.toNat*8388608:=pk_step (f:=23) k4 (u64_toNat (n:=x.q) (by omega) (by omega)) (by omega) (by omega)
 exact pk_step (f:=30) k5 (u64_toNat (n:=x.r+1) (by omega) (by omega)) (by omega) (by omega)
theorem unF_eq (x:W64) (i w:Nat) (h:(fmask i).toNat=2 ^ w - 1):unF x i=((x.toNat / 2 ^ fat i % 2 ^ w:Nat):Int):=by
 unfold unF and64 shr64
 rw[BitVec.toNat_and,h,BitVec.toNat_ushiftRight,Nat.shiftRight_eq_div_pow,Nat.and_two_pow_sub_one_eq_mod]
theorem unG_pack {x:RsG} (h:x.good=true):unG x.pack=x:=by
 have e:=pack_toNat h
 obtain⟨h1,h2,h3,h4,h5,h6⟩:=RsG.good_in h
 have e0:=unF_eq x.pack 0 2 rfl
 have e1:=unF_eq x.pack 1 7 rfl
 have e2:=unF_eq x.pack 2 7 rfl
 have e3:=unF_eq x.pack 3 7 rfl
 have e4:=unF_eq x.pack 4 7 rfl
 have e5:=unF_eq x.pack 5 5 rfl
 rw[e] at e0 e1 e2 e3 e4 e5
 simp only [fat] at e0 e1 e2 e3 e4 e5
 unfold unG
 rw[e0,e1,e2,e3,e4,e5]
 obtain⟨d,n,m,p,q,r⟩:=x
 simp only at h1 h2 h3 h4 h5 h6
 simp only [RsG.mk.injEq]
 refine⟨?_,?_,?_,?_,?_,?_⟩ <;> omega
theorem unB_pack {x:RsG} (h:x.good=true):unB x.pack=true:=by
 unfold unB
 rw[unG_pack h,h]
 simp
theorem cmpR_le (x:SvG) (c p:IrG):(cmpR x c p).r=-1∧(cmpR x c p).p=x.num∧(cmpR x c p).q=x.den∧(cmpR x c p).n≤64∧(cmpR x c p).m≤64∧((cmpR x c p).d=1∨(cmpR x c p).d=2):=by
 have hsm:(dist c p x.turns.toNat).Sm:=distL_le _ _ _
 have s1:=hsm.n
 have s2:=hsm.d
 unfold cmpR
 generalize dist c p x.turns.toNat=q at s1 s2
 dsimp only
 split
 ·simp
 ·split <;> simp <;> omega
theorem cmpR_fol {x:SvG} (hv:x.setB=true) (c p:IrG):(cmpR x c p).fol=true:=by
 simp only [SvG.setB,Ix.btw,Bool.and_eq_true,decide_eq_true_eq] at hv
 obtain⟨⟨⟨⟨d1,d2⟩,n1,n2⟩,_⟩,_⟩:=hv
 unfold cmpR
 generalize dist c p x.turns.toNat=q
 dsimp only
 split
 ·simp[RsG.fol,RsG.alike];omega
 ·split
  ·rename_i h;simp[RsG.fol,RsG.alike,h]
  ·rename_i h;simp[RsG.fol,RsG.alike];omega
theorem cmpR_mat {x:SvG} (hv:x.setB=true) {c p:IrG} (h1:c.ok=true) (h2:p.ok=true):mE c p x.turns x.num x.den=0∧matB c p x.turns.toNat x.num x.den=decide ((cmpR x c p).d=1):=by
 simp only [SvG.setB,Ix.btw,Bool.and_eq_true,decide_eq_true_eq] at hv
 obtain⟨⟨⟨⟨d1,d2⟩,n1,n2⟩,t1,t2⟩,_⟩:=hv
 refine⟨?_,?_⟩
 ·unfold mE
  rw[h1,h2,vL_eq]
  have a1:Ix.btw 0 7 x.turns=true:=by simp[Ix.btw];omega
  have a2:Ix.btw 1 1000 x.den=true:=by simp[Ix.btw];omega
  have a3:Ix.btw 0 x.den x.num=true:=by simp[Ix.btw];omega
  rw[a1,a2,a3];rfl
 ·unfold matB cmpR
  generalize dist c p x.turns.toNat=q
  dsimp only
  by_cases h:q.d=0
  ·rw[if_pos h];simp[h]
  ·rw[if_neg h]
   have:0<q.d:=by omega
   by_cases h2:(q.n:Int)*x.den≤x.num*q.d
   ·simp[this,h2]
   ·simp[this,h2]
end Go.Gx.Sr
