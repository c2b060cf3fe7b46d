/-
 Texts of the walk, merged: Xc.
-/
import Derived.Test.YtncccnmmjfapnaaGreatZaq
set_option linter.unusedVariables false
set_option linter.unusedSimpArgs false
set_option maxRecDepth 100000
set_option maxHeartbeats 4000000
namespace Go.Gx.Sr
open Go.RowKit Go.Proofs Go.Proofs.YtncccnmmjfapnaaGreat Go.Gx.Ix
theorem aYl {x y:Nat} {f:Nat} (h:x<2 ^ f):x ||| (y <<< f)=x+y <<< f:=by
 rw[Nat.or_comm,<- Nat.shiftLeft_add_eq_or_of_lt h,Nat.add_comm]
theorem pR {a v:W64} {f A V:Nat} (ha:a.toNat=A) (hv:v.toNat=V) (hA:A<2 ^ f) (hV:V*2 ^ f<2 ^ 64):(iO a (bP v f)).toNat=A+V*2 ^ f:=by
 unfold iO bP;rw[BitVec.toNat_or,BitVec.toNat_shiftLeft,ha,hv,Nat.shiftLeft_eq,Nat.mod_eq_of_lt hV,<- Nat.shiftLeft_eq,aYl hA,Nat.shiftLeft_eq]
theorem jR {n:Int} (h0:0<=n) (h1:n<=127):(u64 n).toNat=n.toNat:=by
 unfold u64;rw[BitVec.toNat_ofInt];have:n % 18446744073709551616=n:=ω;show(n % 18446744073709551616).toNat=_;rw[this]
theorem aIm {x:RsG} (h:x.good=true):x.pack.toNat=x.d.toNat+x.n.toNat*4+x.m.toNat*512+x.p.toNat*65536+x.q.toNat*8388608+(x.r+1).toNat*1073741824:=by
 obtain⟨h1,h2,h3,h4,h5,h6⟩:=RsG.good_in h;have k0:(x.pkA 0).toNat=0:=rfl;have k1:(x.pkA 1).toNat=x.d.toNat:=by
  have:=pR (f:=0) k0 (jR (n:=x.d) ω ω) ω ω;rw[Nat.zero_add,Nat.pow_zero,Nat.mul_one] at this;exact this
 have k2:(x.pkA 2).toNat=x.d.toNat+x.n.toNat*4:=pR (f:=2) k1 (jR (n:=x.n) ω ω) ω ω;have k3:(x.pkA 3).toNat=x.d.toNat+x.n.toNat*4+x.m.toNat*512:=pR (f:=9) k2 (jR (n:=x.m) ω ω) ω ω;have k4:(x.pkA 4).toNat=x.d.toNat+x.n.toNat*4+x.m.toNat*512+x.p.toNat*65536:=pR (f:=16) k3 (jR (n:=x.p) ω ω) ω ω;have k5:(x.pkA 5).toNat=x.d.toNat+x.n.toNat*4+x.m.toNat*512+x.p.toNat*65536+x.q.toNat*8388608:=pR (f:=23) k4 (jR (n:=x.q) ω ω) ω ω;exact pR (f:=30) k5 (jR (n:=x.r+1) ω ω) ω ω
theorem aU6 (x:SvG) (c p:IrG):(iB x c p).r=-1/\(iB x c p).p=x.num/\(iB x c p).q=x.den/\(iB x c p).n<=64/\(iB x c p).m<=64/\((iB x c p).d=1\/(iB x c p).d=2):=by
 have hsm:(iD c p x.turns.toNat).Sm:=kV _ _ _;have s1:=hsm.n;have s2:=hsm.d;unfold iB;generalize iD c p x.turns.toNat=q at s1 s2;dsimp only;split
 ·simp
 ·split <;> simp <;> omega
theorem aPx {x:SvG} (hv:x.setB=true) {c p:IrG} (h1:c.ok=true) (h2:p.ok=true):mE c p x.turns x.num x.den=0/\qZ c p x.turns.toNat x.num x.den=decide ((iB x c p).d=1):=by
 simp only [SvG.setB,Ix.btw,Bool.and_eq_true,decide_eq_true_eq] at hv;obtain⟨⟨⟨⟨d1,d2⟩,n1,n2⟩,t1,t2⟩,_⟩:=hv;refine⟨?_,?_⟩
 ·unfold mE;rw[h1,h2,aKe];have a1:Ix.btw 0 7 x.turns=true:=by simp[Ix.btw];omega
  have a2:Ix.btw 1 1000 x.den=true:=by simp[Ix.btw];omega
  have a3:Ix.btw 0 x.den x.num=true:=by simp[Ix.btw];omega
  rw[a1,a2,a3];rfl
 ·unfold qZ iB;generalize iD c p x.turns.toNat=q;dsimp only;by_cases h:q.d=0
  ·rw[if_pos h];simp[h]
  ·rw[if_neg h];have:0<q.d:=ω;by_cases h2:(q.n:Int)*x.den<=x.num*q.d
   ·simp[this,h2]
   ·simp[this,h2]
end Go.Gx.Sr
