/-
 Texts of the walk, merged: Xc.
-/
import Derived.Test.YtncccnmmjfapnaaGreatZap
set_option linter.unusedVariables false
set_option linter.unusedSimpArgs false
set_option maxRecDepth 100000
set_option maxHeartbeats 4000000
namespace Go.Gx.Sr
open Go.RowKit Go.Proofs Go.Proofs.YtncccnmmjfapnaaGreat Go.Gx.Ix
theorem bBb {x y:Nat} {f:Nat} (h:x<2 ^ f):x ||| (y <<< f)=x+y <<< f:=by
 rw[Nat.or_comm,<- Nat.shiftLeft_add_eq_or_of_lt h,Nat.add_comm]
theorem qA {a v:W64} {f A V:Nat} (ha:a.toNat=A) (hv:v.toNat=V) (hA:A<2 ^ f) (hV:V*2 ^ f<2 ^ 64):(iV a (bT v f)).toNat=A+V*2 ^ f:=by
 unfold iV bT;rw[BitVec.toNat_or,BitVec.toNat_shiftLeft,ha,hv,Nat.shiftLeft_eq,Nat.mod_eq_of_lt hV,<- Nat.shiftLeft_eq,bBb hA,Nat.shiftLeft_eq]
theorem jS {n:Int} (h0:0<=n) (h1:n<=127):(u64 n).toNat=n.toNat:=by
 unfold u64;rw[BitVec.toNat_ofInt];have:n % 18446744073709551616=n:=ω;show(n % 18446744073709551616).toNat=_;rw[this]
theorem aIo {x:RsG} (h:x.good=true):x.pack.toNat=x.d.toNat+x.n.toNat*4+x.m.toNat*512+x.p.toNat*65536+x.q.toNat*8388608+(x.r+1).toNat*1073741824:=by
 obtain⟨h1,h2,h3,h4,h5,h6⟩:=RsG.good_in h;have k0:(x.pkA 0).toNat=0:=rfl;have k1:(x.pkA 1).toNat=x.d.toNat:=by
  have:=qA (f:=0) k0 (jS (n:=x.d) ω ω) ω ω;rw[Nat.zero_add,Nat.pow_zero,Nat.mul_one] at this;exact this
 have k2:(x.pkA 2).toNat=x.d.toNat+x.n.toNat*4:=qA (f:=2) k1 (jS (n:=x.n) ω ω) ω ω;have k3:(x.pkA 3).toNat=x.d.toNat+x.n.toNat*4+x.m.toNat*512:=qA (f:=9) k2 (jS (n:=x.m) ω ω) ω ω;have k4:(x.pkA 4).toNat=x.d.toNat+x.n.toNat*4+x.m.toNat*512+x.p.toNat*65536:=qA (f:=16) k3 (jS (n:=x.p) ω ω) ω ω;have k5:(x.pkA 5).toNat=x.d.toNat+x.n.toNat*4+x.m.toNat*512+x.p.toNat*65536+x.q.toNat*8388608:=qA (f:=23) k4 (jS (n:=x.q) ω ω) ω ω;exact qA (f:=30) k5 (jS (n:=x.r+1) ω ω) ω ω
theorem aVa (x:SvG) (c p:IrG):(gR x c p).r=-1/\(gR x c p).p=x.num/\(gR x c p).q=x.den/\(gR x c p).n<=64/\(gR x c p).m<=64/\((gR x c p).d=1\/(gR x c p).d=2):=by
 have hsm:(iH c p x.turns.toNat).Sm:=jX _ _ _;have s1:=hsm.n;have s2:=hsm.d;unfold gR;generalize iH c p x.turns.toNat=q at s1 s2;dsimp only;split
 ·simp
 ·split <;> simp <;> omega
theorem aPz {x:SvG} (hv:x.setB=true) {c p:IrG} (h1:c.ok=true) (h2:p.ok=true):mE c p x.turns x.num x.den=0/\rP c p x.turns.toNat x.num x.den=decide ((gR x c p).d=1):=by
 simp only [SvG.setB,Ix.btw,Bool.and_eq_true,decide_eq_true_eq] at hv;obtain⟨⟨⟨⟨d1,d2⟩,n1,n2⟩,t1,t2⟩,_⟩:=hv;refine⟨?_,?_⟩
 ·unfold mE;rw[h1,h2,aLf];have a1:Ix.btw 0 7 x.turns=true:=by simp[Ix.btw];omega
  have a2:Ix.btw 1 1000 x.den=true:=by simp[Ix.btw];omega
  have a3:Ix.btw 0 x.den x.num=true:=by simp[Ix.btw];omega
  rw[a1,a2,a3];rfl
 ·unfold rP gR;generalize iH c p x.turns.toNat=q;dsimp only;by_cases h:q.d=0
  ·rw[if_pos h];simp[h]
  ·rw[if_neg h];have:0<q.d:=ω;by_cases h2:(q.n:Int)*x.den<=x.num*q.d
   ·simp[this,h2]
   ·simp[this,h2]
end Go.Gx.Sr
