/-
 Texts of the walk, merged: Iq Ir It Is Iv Iw Jc Jd Je Vj Vk Vl Vm Vn Vo Vp Vq Vr Vs Vt Vu Fd Fe Ff Hj.
-/
import Derived.Test.YtncccnmmjfapnaaGreatZan
import Derived.Test.YtncccnmmjfapnaaGreatZak
import Derived.Test.YtncccnmmjfapnaaGreatZal
import Derived.Test.YtncccnmmjfapnaaGreatZam
import Derived.Test.YtncccnmmjfapnaaGreatZae
set_option linter.unusedVariables false
set_option linter.unusedSimpArgs false
set_option maxRecDepth 100000
set_option maxHeartbeats 4000000
namespace Go.Gx.Ix
open Go.RowKit Go.Proofs Go.Proofs.YtncccnmmjfapnaaGreat
def tIx (r i:Nat):Nat:=16*(i / 16)+(i % 16+16 - r) % 16
theorem aK4 (y:BitVec 16) (r k:Nat) (hr:r<16) (hk:k<16):(qP y r).getLsbD k=y.getLsbD ((k+16 - r) % 16):=by
 unfold qP aQc xV aGk;rw[BitVec.getLsbD_or,BitVec.getLsbD_shiftLeft,BitVec.getLsbD_ushiftRight];by_cases h:k<r
 ·have e:(k+16 - r) % 16=16 - r+k:=ω;rw[e];simp[h]
 ·have e:(k+16 - r) % 16=k - r:=ω;rw[e,BitVec.getLsbD_of_ge y (16 - r+k) ω];simp[h,hk]
theorem wS (w:BitVec 64) (k:Nat) (hk:k<4) (t:Int) (i:Nat) (hi:i<64):(bBd w (16*k) t).getLsbD i=(decide (i / 16=k)&&w.getLsbD (tIx (t % 16).toNat i)):=by
 have hr:(t % 16).toNat<16:=ω;unfold bBd bP aU9 tIx;generalize (t % 16).toNat=r at hr;rw[BitVec.getLsbD_shiftLeft,BitVec.getLsbD_setWidth];rcases Nat.lt_trichotomy (i / 16) k with h | h | h
 ·have h1:i<16*k:=ω;have h2:¬i / 16=k:=ω;simp[h1,h2]
 ·have h1:¬i<16*k:=ω;rw[aK4 _ r (i - 16*k) hr ω];unfold uS bY;rw[BitVec.getLsbD_setWidth,BitVec.getLsbD_ushiftRight];have h3:16*k+(i - 16*k+16 - r) % 16=16*(i / 16)+(i % 16+16 - r) % 16:=ω;have h4:(i - 16*k+16 - r) % 16<16:=ω;have h5:i - 16*k<64:=ω;rw[h3];simp[h,hi,h1,h4,h5]
 ·have h1:¬i<16*k:=ω;have h2:¬i / 16=k:=ω;rw[BitVec.getLsbD_of_ge _ _ (ω:16<=i - 16*k)];simp[h2]
theorem dD (w:BitVec 64) (t:Int) (i:Nat) (hi:i<64):(cJ w t).getLsbD i=w.getLsbD (tIx (t % 16).toNat i):=by
 unfold cJ sS sS sS sS sS iO;simp only [BitVec.getLsbD_or];rw[wS w 0 ω t i hi,wS w 1 ω t i hi,wS w 2 ω t i hi,wS w 3 ω t i hi];rcases(show i / 16=0\/i / 16=1\/i / 16=2\/i / 16=3 by omega) with h | h | h | h <;> simp[h]
theorem fV {x y:BitVec 64} (h:∀i,i<64->x.getLsbD i=y.getLsbD i):x=y:=BitVec.eq_of_getLsbD_eq λi hi=>h i hi
theorem aAe (x y:BitVec 64) (t:Int):cJ (bJ x y) t=bJ (cJ x t) (cJ y t):=by
 refine fV λi hi=>?_;rw[dD _ _ _ hi];unfold bJ;rw[BitVec.getLsbD_and,BitVec.getLsbD_and,dD _ _ _ hi,dD _ _ _ hi]
theorem aPg (x y:BitVec 64) (t:Int):cJ (bV x y) t=bV (cJ x t) (cJ y t):=by
 refine fV λi hi=>?_;rw[dD _ _ _ hi];unfold bV;rw[BitVec.getLsbD_xor,BitVec.getLsbD_xor,dD _ _ _ hi,dD _ _ _ hi]
theorem aJh {r i:Nat} (hi:i<64):tIx r i<64:=by unfold tIx;omega
theorem aN6 (x y:BitVec 64) (t:Int):cJ (cX x y) t=cX (cJ x t) (cJ y t):=by
 refine fV λi hi=>?_;rw[dD _ _ _ hi];unfold cX;rw[BitVec.getLsbD_and,BitVec.getLsbD_and,dD _ _ _ hi,BitVec.getLsbD_not,BitVec.getLsbD_not,dD _ _ _ hi];simp[aJh hi,hi]
theorem aN8 (x:BitVec 64) (s t:Int):cJ (cJ x s) t=cJ x (s+t):=by
 refine fV λi hi=>?_;rw[dD _ _ _ hi,dD _ _ _ (aJh hi),dD _ _ _ hi]
 congr 1
 unfold tIx;omega
theorem jL (x:BitVec 64):cJ x 0=x:=by
 refine fV λi hi=>?_;rw[dD _ _ _ hi]
 congr 1
 unfold tIx;simp;omega
theorem uA (x:BitVec 64) (t:Int):cJ (cJ x (-t)) t=x:=by
 rw[aN8,show -t+t=0 by omega,jL]
theorem kO:∀n k X,ds 1 (n+k) X=ds 1 n (X % 2 ^ n)+ds 1 k (X / 2 ^ n)
 | 0,k,X=>by simp[ds]
 | n+1,k,X=>by
   rw[show n+1+k=(n+k)+1 by omega];show X % 2 ^ 1+ds 1 (n+k) (X / 2 ^ 1)=X % 2 ^ (n+1) % 2 ^ 1+ds 1 n (X % 2 ^ (n+1) / 2 ^ 1)+_;rw[kO n k (X / 2 ^ 1)];have h1:X % 2 ^ (n+1) % 2 ^ 1=X % 2 ^ 1:=Nat.mod_mod_of_dvd _ (Nat.pow_dvd_pow 2 ω);have h2:X % 2 ^ (n+1) / 2 ^ 1=X / 2 ^ 1 % 2 ^ n:=by
    rw[show n+1=1+n by omega,Nat.pow_add,Nat.mod_mul_right_div_self]
   have h3:X / 2 ^ 1 / 2 ^ n=X / 2 ^ (n+1):=by rw[Nat.div_div_eq_div_mul,<- Nat.pow_add,Nat.add_comm 1 n]
   rw[h1,h2,h3];omega
theorem wQ (y:BitVec 16) (r:Nat) (hr:r<16):ds 1 16 (qP y r).toNat=ds 1 16 y.toNat:=by
 have hy:=y.isLt;have e:(qP y r).toNat=2 ^ r*(y.toNat % 2 ^ (16 - r))+y.toNat / 2 ^ (16 - r):=by
  have h1:y.toNat / 2 ^ (16 - r)<2 ^ r:=by
   rw[Nat.div_lt_iff_lt_mul (Nat.pow_pos δ),<- Nat.pow_add,show r+(16 - r)=16 by omega];exact hy
  rw[Nat.two_pow_add_eq_or_of_lt h1];unfold qP aQc xV aGk;rw[BitVec.toNat_or,BitVec.toNat_shiftLeft,BitVec.toNat_ushiftRight,Nat.shiftLeft_eq,Nat.shiftRight_eq_div_pow]
  congr 1
  have h2:(2:Nat) ^ 16=2 ^ (16 - r)*2 ^ r:=by rw[<- Nat.pow_add];congr 1;omega
  rw[h2,Nat.mul_mod_mul_right,Nat.mul_comm]
 have h1:y.toNat / 2 ^ (16 - r)<2 ^ r:=by
  rw[Nat.div_lt_iff_lt_mul (Nat.pow_pos δ),<- Nat.pow_add,show r+(16 - r)=16 by omega];exact hy
 have s1:=kO r (16 - r) (qP y r).toNat;have s2:=kO (16 - r) r y.toNat;rw[show r+(16 - r)=16 by omega] at s1;rw[show 16 - r+r=16 by omega] at s2;rw[e,Nat.mul_add_mod,Nat.mod_eq_of_lt h1,Nat.mul_add_div (Nat.pow_pos δ),Nat.div_eq_of_lt h1,Nat.add_zero] at s1;rw[e,s1,s2];omega
theorem aC1 (x:BitVec 64) (t:Int) (k:Nat) (hk:k<4):uS (bY (cJ x t) (16*k))=qP (uS (bY x (16*k))) (t % 16).toNat:=by
 refine BitVec.eq_of_getLsbD_eq λm hm=>?_;have hr:(t % 16).toNat<16:=ω;rw[aK4 _ _ m hr hm];unfold uS bY;rw[BitVec.getLsbD_setWidth,BitVec.getLsbD_setWidth,BitVec.getLsbD_ushiftRight,BitVec.getLsbD_ushiftRight,dD _ _ _ ω];generalize (t % 16).toNat=r at hr;have e:tIx r (16*k+m)=16*k+(m+16 - r) % 16:=by unfold tIx;omega
 have h4:(m+16 - r) % 16<16:=ω;rw[e];simp[hm,h4]
theorem xL (x:BitVec 64) (a:Nat):(uS (bY x a)).toNat=x.toNat / 2 ^ a % 2 ^ 16:=by
 unfold uS bY;rw[BitVec.toNat_setWidth,BitVec.toNat_ushiftRight,Nat.shiftRight_eq_div_pow]
theorem aF8 (x:BitVec 64):cnt x=ds 1 16 (uS (bY x (16*0))).toNat+ds 1 16 (uS (bY x (16*1))).toNat+ds 1 16 (uS (bY x (16*2))).toNat+ds 1 16 (uS (bY x (16*3))).toNat:=by
 have hx:=x.isLt;unfold cnt;rw[xL,xL,xL,xL];have s1:=kO 16 48 x.toNat;have s2:=kO 16 32 (x.toNat / 2 ^ 16);have s3:=kO 16 16 (x.toNat / 2 ^ 16 / 2 ^ 16);rw[Nat.div_div_eq_div_mul] at s2 s3;have e:x.toNat / (2 ^ 16*2 ^ 16) / 2 ^ 16=x.toNat / 2 ^ (16*3) % 2 ^ 16:=by
  rw[Nat.div_div_eq_div_mul,Nat.mod_eq_of_lt];rw[Nat.div_lt_iff_lt_mul (Nat.pow_pos δ)];exact hx
 rw[e] at s3;have e0:x.toNat / 2 ^ (16*0)=x.toNat:=τ;rw[e0];have q1:(16+48)=64:=rfl;have q2:(16+32)=48:=rfl;have q3:(16+16)=32:=rfl;rw[q1] at s1;rw[q2] at s2;rw[q3] at s3;have p1:(2:Nat) ^ (16*1)=2 ^ 16:=rfl;have p2:(2:Nat) ^ (16*2)=2 ^ 16*2 ^ 16:=rfl;rw[s1,s2,s3,p1,p2];omega
theorem yP (x:BitVec 64) (t:Int):cnt (cJ x t)=cnt x:=by
 have hr:(t % 16).toNat<16:=ω;rw[aF8,aF8 x,aC1 _ _ 0 ω,aC1 _ _ 1 ω,aC1 _ _ 2 ω,aC1 _ _ 3 ω,wQ _ _ hr,wQ _ _ hr,wQ _ _ hr,wQ _ _ hr]
theorem aVy (x:BitVec 64) (j:Nat):(eB x j).toNat=x.toNat / 2 ^ (8*j) % 2 ^ 8:=by
 unfold eB to8 bY;rw[BitVec.toNat_setWidth,BitVec.toNat_ushiftRight,Nat.shiftRight_eq_div_pow]
theorem aHj (X:Nat):∀k n,(k+8*n=64)->ds 1 (8*n) (X / 2 ^ k)=((List.range n).map λj=>ds 1 8 (X / 2 ^ (k+8*j) % 2 ^ 8)).sum
 | k,0,h=>by simp[ds]
 | k,n+1,h=>by
   have s:=kO 8 (8*n) (X / 2 ^ k);rw[show 8*(n+1)=8+8*n by omega,s,Nat.div_div_eq_div_mul,<- Nat.pow_add,aHj X (k+8) n ω,List.range_succ_eq_map,List.map_cons,List.sum_cons,List.map_map]
   congr 2
   refine List.map_congr_left λj _=>?_;show _=ds 1 8 (X / 2 ^ (k+8*(j+1)) % 2 ^ 8);rw[show k+8*(j+1)=k+8+8*j by omega]
theorem aVd (x:BitVec 64):cnt x=((List.range 8).map λj=>aIs (eB x j)).sum:=by
 have h:=aHj x.toNat 0 8 rfl;simp only [Nat.pow_zero,Nat.div_one,Nat.zero_add] at h;unfold cnt aIs;refine Eq.trans h (congrArg List.sum (List.map_congr_left λj _=>?_));rw[aVy]
theorem aKf (x y:BitVec 64) (j:Nat):eB (bJ x y) j=qJ (eB x j) (eB y j):=by
 unfold eB bJ qJ to8 bY;rw[BitVec.ushiftRight_and_distrib,BitVec.setWidth_and]
theorem aU1 (x y:BitVec 64) (j:Nat):eB (bV x y) j=aHz (eB x j) (eB y j):=by
 unfold eB bV aHz to8 bY;rw[BitVec.ushiftRight_xor_distrib,BitVec.setWidth_xor]
theorem aHr (x y z:BitVec 8):qJ (qJ x y) z=qJ x (qJ y z):=BitVec.and_assoc ..
theorem bBn (f:Nat->Nat) (N:Nat) (h:((List.range 8).map f).sum<=N):∃j,j<8/\f j<=N / 8:=by
 refine Classical.byContradiction λhc=>?_;have h1:∀j,j<8->N / 8<f j:=λj hj=>by
  refine Nat.lt_of_not_le λh2=>hc ⟨j,hj,h2⟩
 have:=h1 0 ω;have:=h1 1 ω;have:=h1 2 ω;have:=h1 3 ω;have:=h1 4 ω;have:=h1 5 ω;have:=h1 6 ω;have:=h1 7 ω;simp[List.range,List.range.loop] at h;omega
theorem aIw (x y:BitVec 64):cnt (bJ x y)<=cnt y:=by
 have key:∀n (a b:Nat),ds 1 n (a &&& b)<=ds 1 n b:=by
  intro n
  induction n with
  | zero=>intro a b;exact Nat.le_refl _
  | succ n ih=>
    intro a b;show(a &&& b) % 2 ^ 1+ds 1 n ((a &&& b) / 2 ^ 1)<=b % 2 ^ 1+ds 1 n (b / 2 ^ 1);have h1:=ih (a / 2 ^ 1) (b / 2 ^ 1);have h2:(a &&& b) / 2 ^ 1=a / 2 ^ 1 &&& b / 2 ^ 1:=Nat.and_div_two_pow ..;have h3:(a &&& b) % 2 ^ 1<=b % 2 ^ 1:=by
     rw[Nat.and_mod_two_pow];exact Nat.and_le_right
    rw[h2];omega
 have h:=key 64 x.toNat y.toNat;unfold cnt bJ;rw[BitVec.toNat_and];exact h
theorem bAv (a b:IrG) (t:Int):a.n (b.tn (-t)) 0=a.n b t:=by
 unfold IrG.n IrG.tn aQx;rw[<- yP _ t,aAe,aPg,aAe,uA,uA,jL,jL]
theorem aZn (a b:IrG) (t:Int):a.d (b.tn (-t)) 0=a.d b t:=by
 unfold IrG.d IrG.tn aTw;rw[<- yP _ t,aAe,uA,jL]
theorem bG1 {b:IrG} (t:Int) (h:b.ok=true):(b.tn t).ok=true:=by
 unfold IrG.ok vI IrG.tn at *;rw[decide_eq_true_eq] at *;show cX (cJ b.c t) (cJ b.m t)=0#64;rw[<- aN6,h];refine fV λi hi=>?_;rw[dD _ _ _ hi];simp
theorem zC (t:Int):∀k:Nat,t∈gR (k+1)↔-(k:Int)<=t/\t<=k
 | 0=>by simp[gR];omega
 | k+1=>by
   show t∈gR (k+1)++(if k+1=0 then [0] else [((k+1:Nat):Int),-((k+1:Nat):Int)])↔_;rw[if_neg ω,List.mem_append,zC t k];simp;omega
structure aVw (x y:IrG) (l:List Int) (p:Pt):Prop where
 at_:0<p.d->∃t∈l,16<=x.d y t/\p.n=x.n y t/\p.d=x.d y t
 le:∀t∈l,16<=x.d y t->0<p.d/\p.n*x.d y t<=x.n y t*p.d
theorem bE0 {a b c d e f:Nat} (hd:0<d) (h1:a*d<=c*b) (h2:c*f<=e*d):a*f<=e*b:=by
 refine Nat.le_of_mul_le_mul_right (c:=d) ?_ hd
 calc a*f*d=a*d*f:=by rw[Nat.mul_assoc,Nat.mul_comm f d,<- Nat.mul_assoc]
  _<=c*b*f:=Nat.mul_le_mul_right _ h1
  _=c*f*b:=by rw[Nat.mul_assoc,Nat.mul_comm b f,<- Nat.mul_assoc]
  _<=e*d*b:=Nat.mul_le_mul_right _ h2
  _=e*b*d:=by rw[Nat.mul_assoc,Nat.mul_comm d b,<- Nat.mul_assoc]
theorem aOe {x y:IrG} {l:List Int} {p:Pt} (h:aVw x y l p) (t:Int):aVw x y (l++[t]) (mB x y p t):=by
 unfold mB;by_cases hc:16<=x.d y t/\(Pt.mk (x.n y t) (x.d y t) t).less p=true
 ·rw[if_pos hc];obtain⟨h16,hl⟩:=hc;simp only [Pt.less,Bool.and_eq_true,Bool.or_eq_true,decide_eq_true_eq] at hl;refine⟨λ_=>⟨t,τ,h16,rfl,rfl⟩,λs hs h2=>⟨by simp only;omega,?_⟩⟩;rcases List.mem_append.1 hs with hs | hs
  ·obtain⟨h3,h4⟩:=h.le s hs h2;rcases hl.2 with h5 | h5
   ·omega
   ·exact bE0 h3 (Nat.le_of_lt h5) h4
  ·simp at hs;subst hs;exact Nat.le_refl _
 ·rw[if_neg hc];refine⟨λh0=>?_,λs hs h2=>?_⟩
  ·obtain⟨s,h1,h2⟩:=h.at_ h0;exact⟨s,by simp[h1],h2⟩
  ·rcases List.mem_append.1 hs with hs | hs
   ·exact h.le s hs h2
   ·simp at hs;subst hs;have h3:¬(Pt.mk (x.n y s) (x.d y s) s).less p=true:=λh=>hc ⟨h2,h⟩;simp only [Pt.less,Bool.and_eq_true,Bool.or_eq_true,decide_eq_true_eq,not_and,not_or] at h3;have h4:=h3 ω;exact⟨ω,Nat.le_of_not_lt h4.2⟩
theorem aMm (x y:IrG) (l:List Int):aVw x y l (iH x y l):=by
 have key:∀r:List Int,aVw x y r.reverse (iH x y r.reverse):=by
  intro r
  induction r with
  | nil=>exact⟨λh=>absurd h (Nat.lt_irrefl 0),λt ht=>by simp at ht⟩
  | cons t r ih=>
    rw[List.reverse_cons,rR];exact aOe ih t
 have:=key l.reverse
 rwa [List.reverse_reverse] at this
def mt1 (a bk:IrG) (num den:Nat):Bool:=decide (16<=a.d bk 0)&&decide (a.n bk 0*den<=num*a.d bk 0)
theorem aUw (a b:IrG) (n num den:Nat):qZ a b n num den=true↔∃t:Int,(-(n:Int)<=t/\t<=n)/\16<=a.d b t/\a.n b t*den<=num*a.d b t:=by
 have hb:=aMm a b (gR (n+1));have hd:iD a b n=iH a b (gR (n+1)):=rfl;unfold qZ;rw[hd];generalize iH a b (gR (n+1))=p at hb;have hc:((p.n:Int)*den<=num*p.d)↔p.n*den<=num*p.d:=by
  rw[<- Int.natCast_mul,<- Int.natCast_mul,Int.ofNat_le]
 rw[Bool.and_eq_true,decide_eq_true_eq,decide_eq_true_eq,hc];constructor
 ·rintro⟨h1,h2⟩;obtain⟨t,h3,h4,h5,h6⟩:=hb.at_ h1;exact⟨t,(zC t n).1 h3,h4,by rw[<- h5,<- h6];exact h2⟩
 ·rintro⟨t,h1,h2,h3⟩;obtain⟨h4,h5⟩:=hb.le t ((zC t n).2 h1) h2;exact⟨h4,bE0 ω h5 h3⟩
theorem aWm (a b:IrG) (n num den:Nat):qZ a b n num den=(List.range (2*n+1)).any λi=>mt1 a (bkS b n i) num den:=by
 rw[Bool.eq_iff_iff,aUw,List.any_eq_true];have e:∀i:Nat,mt1 a (bkS b n i) num den=(decide (16<=a.d b ((i:Int) - n))&&decide (a.n b ((i:Int) - n)*den<=num*a.d b ((i:Int) - n))):=λi=>by
  unfold mt1 bkS;rw[show(n:Int) - i=-((i:Int) - n) by omega,bAv,aZn]
 constructor
 ·rintro⟨t,h1,h2,h3⟩;refine⟨(t+n).toNat,List.mem_range.2 ω,?_⟩;rw[e,show(((t+n).toNat:Nat):Int) - n=t by omega];simp[h2,h3]
 ·rintro⟨i,h1,h2⟩;rw[e,Bool.and_eq_true,decide_eq_true_eq,decide_eq_true_eq] at h2;have:=List.mem_range.1 h1;exact⟨(i:Int) - n,ω,h2⟩
def aGe (rad:Nat) (a bk:IrG):Bool:=(List.range 8).any λj=>!decide (rad / 8<aIs (qJ (qJ (aHz (eB a.c j) (eB bk.c j)) (eB a.m j)) (eB bk.m j)))
theorem aW3 (a b:IrG) (num den:Nat) (hden:0<den) (t:Int) (h:mt1 a (b.tn t) num den=true):aGe (wF b num den) a (b.tn t)=true:=by
 unfold mt1 at h;rw[Bool.and_eq_true,decide_eq_true_eq,decide_eq_true_eq] at h;have hd:a.d (b.tn t) 0<=cnt b.m:=by
  unfold IrG.d aTw;refine Nat.le_trans (aIw _ _) ?_;show cnt (cJ b.m t)<=_;rw[yP];exact Nat.le_refl _
 have hn:a.n (b.tn t) 0<=wF b num den:=by
  unfold wF;rw[Int.toNat_natCast,Int.toNat_natCast,Nat.le_div_iff_mul_le hden];refine Nat.le_trans h.2 ?_;rw[Nat.mul_comm];exact Nat.mul_le_mul_right _ hd
 generalize b.tn t=bk at *;have hs:a.n bk 0=((List.range 8).map λj=>aIs (qJ (qJ (aHz (eB a.c j) (eB bk.c j)) (eB a.m j)) (eB bk.m j))).sum:=by
  unfold IrG.n aQx;rw[aVd,jL,jL]
  congr 1
  refine List.map_congr_left λj _=>?_;rw[aKf,aKf,aU1,aHr]
 rw[hs] at hn;obtain⟨j,h1,h2⟩:=bBn _ _ hn;unfold aGe;rw[List.any_eq_true];refine⟨j,List.mem_range.2 h1,?_⟩;simp;exact h2
def SL (l:List MbG):Prop:=l.Pairwise λa b=>a.id<b.id
structure VL (l:List MbG):Prop where
 len:l.length<=256
 num:∀a∈l,okN a.id=true
 ok:∀a∈l,a.x.ok=true
 nd:(l.map (·.id)).Nodup
theorem VL.perm {l l':List MbG} (h:VL l) (p:l.Perm l'):VL l':=
 ⟨by rw[<- p.length_eq];exact h.len,λa ha=>h.num a (p.mem_iff.2 ha),λa ha=>h.ok a (p.mem_iff.2 ha),(p.map _).nodup_iff.1 h.nd⟩
theorem SL.nd {l:List MbG} (h:SL l):(l.map (·.id)).Nodup:=by
 unfold List.Nodup;rw[List.pairwise_map];exact h.imp λh=>Int.ne_of_lt h
theorem mX {l:List MbG} (h:(l.map (·.id)).Nodup):SL (cB l):=by
 obtain⟨p,_,s⟩:=dB l;have h2:=(p.map (·.id)).nodup_iff.2 h;unfold List.Nodup at h2;rw[List.pairwise_map,List.pairwise_iff_getElem] at h2;unfold SL;rw[List.pairwise_iff_getElem];intro i j hi hj hij;have h3:=s i j hij hj hi;have h4:=h2 i j hi hj hij;omega
theorem aZy {l:List MbG} (h:SL l):aGr l=false:=by
 unfold aGr;rw[List.any_eq_false];intro i hi;have hi:=List.mem_range.1 hi;simp only [Bool.and_eq_true,decide_eq_true_eq,not_and];intro h1 h2;have h3:=List.pairwise_iff_getElem.1 h (i - 1) i ω hi ω;rw[getElem!_pos l i hi,getElem!_pos l (i - 1) ω] at h2;omega
theorem aYz {l:List MbG} (s:∀i j,i<j->(hj:j<l.length)->∀hi:i<l.length,l[i].id<=l[j].id) (h:aGr l=false):SL l:=by
 unfold SL;rw[List.pairwise_iff_getElem];intro i j hi hj hij;unfold aGr at h;rw[List.any_eq_false] at h;have h1:=h (i+1) (List.mem_range.2 ω);simp only [Bool.and_eq_true,decide_eq_true_eq,not_and] at h1;have h1:=h1 ω;rw[getElem!_pos l (i+1) ω,getElem!_pos l (i+1 - 1) ω] at h1;have h2:=s i (i+1) ω ω hi;have h3:l[i+1 - 1].id=l[i].id:=τ;by_cases e:i+1=j
 ·subst e;omega
 ·have h4:=s (i+1) j ω hj ω;omega
theorem rV (l:List MbG):fB l=0↔VL l:=by
 unfold fB;by_cases h1:256<l.length
 ·rw[if_pos h1];exact⟨λh=>(by cases h),λh=>absurd h.len ω⟩
 rw[if_neg h1];by_cases h2:l.any (λa=>!okN a.id)=true
 ·rw[if_pos h2];refine⟨λh=>(by cases h),λh=>?_⟩;obtain⟨a,ha,h3⟩:=List.any_eq_true.1 h2;rw[h.num a ha] at h3;cases h3
 rw[if_neg h2];by_cases h3:l.any (λa=>!a.x.ok)=true
 ·rw[if_pos h3];refine⟨λh=>(by cases h),λh=>?_⟩;obtain⟨a,ha,h3⟩:=List.any_eq_true.1 h3;rw[h.ok a ha] at h3;cases h3
 rw[if_neg h3];by_cases h4:aGr (cB l)=true
 ·rw[if_pos h4];refine⟨λh=>(by cases h),λh=>?_⟩;rw[aZy (mX h.nd)] at h4;cases h4
 rw[if_neg h4];refine⟨λ_=>⟨ω,λa ha=>?_,λa ha=>?_,?_⟩,λ_=>rfl⟩
 ·have h2':l.any (λa=>!okN a.id)=false:=by simpa using h2
  have:=List.any_eq_false.1 h2' a ha;simpa using this
 ·have h2':l.any (λa=>!a.x.ok)=false:=by simpa using h3
  have:=List.any_eq_false.1 h2' a ha;simpa using this
 ·have h5:aGr (cB l)=false:=by simpa using h4
  obtain⟨p,_,s⟩:=dB l;exact(p.map (·.id)).nodup_iff.1 (aYz s h5).nd
theorem aLl {l l':List MbG} (h:SL l) (h':SL l') (e:∀a,a∈l↔a∈l'):l=l':=by
 induction l generalizing l' with
 | nil=>
   cases l' with
   | nil=>rfl
   | cons b r=>exact absurd ((e b).2 (List.mem_cons_self)) τ
 | cons a r ih=>
   cases l' with
   | nil=>exact absurd ((e a).1 (List.mem_cons_self)) τ
   | cons b r'=>
     have h1:=List.pairwise_cons.1 h;have h2:=List.pairwise_cons.1 h';have hab:a=b:=by
      rcases List.mem_cons.1 ((e a).1 List.mem_cons_self) with q | q
      ·exact q
      rcases List.mem_cons.1 ((e b).2 List.mem_cons_self) with q2 | q2
      ·exact q2.symm
      have:=h1.1 b q2;have:=h2.1 a q;omega
     subst hab;have:r=r':=ih h1.2 h2.2 λc=>by
      constructor
      ·intro hc;rcases List.mem_cons.1 ((e c).1 (List.mem_cons_of_mem _ hc)) with q | q
       ·subst q;have:=h1.1 c hc;omega
       ·exact q
      ·intro hc;rcases List.mem_cons.1 ((e c).2 (List.mem_cons_of_mem _ hc)) with q | q
       ·subst q;have:=h2.1 c hc;omega
       ·exact q
     rw[this]
theorem wK (l:List MbG) (a:MbG):a∈cB l↔a∈l:=(dB l).1.mem_iff
theorem mV (l:List MbG):(cB l).length=l.length:=(dB l).2.1
theorem bB5 {l l':List MbG} (h:(l.map (·.id)).Nodup) (h':(l'.map (·.id)).Nodup) (e:∀a,a∈l↔a∈l'):cB l=cB l':=
 aLl (mX h) (mX h') λa=>by rw[wK,wK,e]
theorem aIg {l:List MbG} (h:SL l):cB l=l:=aLl (mX h.nd) h λa=>wK l a
theorem aY0 {l l':List MbG} (h:(l.map (·.id)).Nodup) (h':(l'.map (·.id)).Nodup) (e:∀a,a∈l↔a∈l'):lI l=lI l':=by
 have hs:=bB5 h h' e;have hl:l.length=l'.length:=by rw[<- mV l,<- mV l',hs]
 unfold lI;rw[hs,hl]
theorem aWd {l:List MbG} (h:(l.map (·.id)).Nodup):lI (cB l)=lI l:=aY0 (mX h).nd h (wK l)
theorem VL.srt {l:List MbG} (h:VL l):VL (cB l):=h.perm (dB l).1.symm
theorem aZm {l:List MbG} (h:SL l):(lI l).ms=l:=aIg h
theorem yQ {l:List MbG} (h:SL l) (t:Int):(∀j,j<plc l t->∀hj:j<l.length,l[j].id<t)/\plc l t<=l.length/\∀j,plc l t<=j->∀hj:j<l.length,t<=l[j].id:=by
 have key:∃i,i<=l.length/\(∀j,j<i->∀hj:j<l.length,l[j].id<t)/\∀j,i<=j->∀hj:j<l.length,t<=l[j].id:=by
  induction l with
  | nil=>exact⟨0,Nat.le_refl _,λj hj=>absurd hj ω,λj _ hj=>absurd hj τ⟩
  | cons a r ih=>
    have h1:=List.pairwise_cons.1 h;by_cases ha:a.id<t
    ·obtain⟨i,i1,i2,i3⟩:=ih h1.2;refine⟨i+1,ι,λj hj hjl=>?_,λj hj hjl=>?_⟩
     ·cases j with
      | zero=>exact ha
      | succ j=>exact i2 j ω (by simpa using hjl)
     ·cases j with
      | zero=>omega
      | succ j=>exact i3 j ω (by simpa using hjl)
    ·refine⟨0,τ,λj hj=>absurd hj ω,λj _ hjl=>?_⟩
     cases j with
     | zero=>show t<=a.id;omega
     | succ j=>
       have hjl':j<r.length:=by simpa using hjl
       have:=h1.1 r[j] (List.getElem_mem hjl');show t<=r[j].id;omega
 obtain⟨i,h1,h2,h3⟩:=key;have e:plc l t=i:=by
  unfold plc;refine gQ h1 (λj hj=>?_) λj hj hjl=>?_
  ·rw[getElem!_pos l j ω];have:=h2 j hj ω;unfold bT;rw[if_pos this];decide
  ·rw[getElem!_pos l j hjl];have:=h3 j hj hjl;unfold bT
   repeat' split
   all_goals omega
 rw[e];exact⟨h2,h1,h3⟩
theorem aR1 {l:List MbG} (h:SL l) {i:Nat} (hi:i<l.length):plc l l[i].id=i:=by
 obtain⟨h1,h2,h3⟩:=yQ h l[i].id;have hp:=List.pairwise_iff_getElem.1 h;rcases Nat.lt_trichotomy (plc l l[i].id) i with q | q | q
 ·have:=h3 _ (Nat.le_refl _) ω;have:=hp _ i ω hi q;omega
 ·exact q
 ·have:=h1 i q hi;omega
theorem aZx {l:List MbG} (h:(l.map (·.id)).Nodup) {a b:MbG} (ha:a∈l) (hb:b∈l) (e:a.id=b.id):a=b:=by
 unfold List.Nodup at h;rw[List.pairwise_map,List.pairwise_iff_getElem] at h;obtain⟨i,hi,rfl⟩:=List.mem_iff_getElem.1 ha;obtain⟨j,hj,rfl⟩:=List.mem_iff_getElem.1 hb;rcases Nat.lt_trichotomy i j with q | q | q
 ·exact absurd e (h i j hi hj q)
 ·subst q;rfl
 ·exact absurd e.symm (h j i hj hi q)
structure aN2 (l:List MbG) (j:Nat) (L:List PsG):Prop where
 to:∀p∈L,∀a∈p.ids,∃b∈l,b.id=a/\eB b.x.c j=p.c/\eB b.x.m j=p.m
 fro:∀b∈l,∃p∈L,p.c=eB b.x.c j/\p.m=eB b.x.m j/\b.id∈p.ids
 sum:(L.map (·.ids.length)).sum=l.length
theorem zS {α:Type} (g:α->Nat) (f:α->α):∀(L:List α) (q:Nat) (hq:q<L.length),g (f L[q])=g L[q]+1->((L.modify q f).map g).sum=(L.map g).sum+1
 | [],q,hq,_=>absurd hq τ
 | a::r,0,hq,h=>by simp at h ⊢;omega
 | a::r,q+1,hq,h=>by
   have:=zS g f r q (by simpa using hq) (by simpa using h);simp;omega
theorem aNc {l:List MbG} {j k:Nat} {L:List PsG} (hi:Inv L k) (h:aN2 l j L) (b:MbG):aN2 (l++[b]) j (aBb L (eB b.x.m j) (eB b.x.c j) b.id):=by
 obtain⟨hinv,hat⟩:=aG4 hi (eB b.x.m j) (eB b.x.c j);have hq:=aK6 L (eB b.x.m j) (eB b.x.c j);obtain⟨hm,hc⟩:=hat hq;have h2:aN2 l j (addL L (eB b.x.m j) (eB b.x.c j)):=by
  unfold addL;split
  ·exact h
  ·refine⟨λp hp a ha=>?_,λb hb=>?_,?_⟩
   ·rcases List.mem_append.1 hp with q | q
    ·exact h.to p (List.mem_of_mem_take q) a ha
    ·rcases List.mem_cons.1 q with rfl | q
     ·simp at ha
     ·exact h.to p (List.mem_of_mem_drop q) a ha
   ·obtain⟨p,hp,h1⟩:=h.fro b hb;refine⟨p,?_,h1⟩;rw[<- List.take_append_drop (pat L (eB _ j) (eB _ j)) L,List.mem_append] at hp;rw[List.mem_append];exact hp.imp id λq=>List.mem_cons_of_mem _ q
   ·rw[List.map_append,List.sum_append,List.map_cons,List.sum_cons];have:=h.sum;rw[<- List.take_append_drop (pat L (eB b.x.m j) (eB b.x.c j)) L,List.map_append,List.sum_append] at this;simp only [List.length_nil] at this ⊢;omega
 unfold aBb;generalize pat L (eB b.x.m j) (eB b.x.c j)=q at *;generalize addL L (eB b.x.m j) (eB b.x.c j)=L2 at *;have hids:=vP (hinv.ids L2[q] (List.getElem_mem hq)).2 b.id;refine⟨λp hp a ha=>?_,λd hd=>?_,?_⟩
 ·obtain⟨i,hi,rfl⟩:=List.mem_iff_getElem.1 hp;simp only [List.length_modify] at hi;rw[List.getElem_modify] at ha ⊢;split at ha
  ·rename_i e;subst e;rw[if_pos rfl];rcases List.mem_cons.1 (hids.2.2.mem_iff.1 ha) with rfl | ha
   ·exact⟨b,τ,rfl,hc.symm,hm.symm⟩
   ·obtain⟨d,h1,h3⟩:=h2.to _ (List.getElem_mem hq) a ha;exact⟨d,by simp[h1],h3⟩
  ·rename_i e;rw[if_neg e];obtain⟨d,h1,h3⟩:=h2.to _ (List.getElem_mem hi) a ha;exact⟨d,by simp[h1],h3⟩
 ·have hql:q<(L2.modify q λp=>{p with ids:=nH p.ids b.id}).length:=by simpa using hq
  have hqe:(L2.modify q λp=>{p with ids:=nH p.ids b.id})[q]={L2[q] with ids:=nH L2[q].ids b.id}:=by rw[List.getElem_modify,if_pos rfl]
  rcases List.mem_append.1 hd with hd | hd
  ·obtain⟨p,hp,h3,h4,h5⟩:=h2.fro d hd;obtain⟨i,hi,rfl⟩:=List.mem_iff_getElem.1 hp;by_cases e:i=q
   ·subst e;refine⟨_,List.getElem_mem hql,?_⟩;rw[hqe];exact⟨h3,h4,hids.2.2.mem_iff.2 (List.mem_cons_of_mem _ h5)⟩
   ·have hil:i<(L2.modify q λp=>{p with ids:=nH p.ids b.id}).length:=by simpa using hi
    refine⟨_,List.getElem_mem hil,?_⟩;rw[List.getElem_modify,if_neg (λh=>e h.symm)];exact⟨h3,h4,h5⟩
  ·simp at hd;subst hd;refine⟨_,List.getElem_mem hql,?_⟩;rw[hqe];exact⟨hc,hm,hids.2.2.mem_iff.2 List.mem_cons_self⟩
 ·rw[zS (λp:PsG=>p.ids.length) (λp=>{p with ids:=nH p.ids b.id}) L2 q hq hids.2.1,h2.sum];simp
theorem aK3 (ms:List MbG) (j:Nat):∀k,k<=ms.length->aN2 (ms.take k) j (cK ms k j)
 | 0,_=>⟨λp hp=>(by cases hp),λb hb=>(by simp at hb),rfl⟩
 | k+1,h=>by
   rw[aC7 (ω:k<ms.length),List.take_succ_eq_append_getElem (ω:k<ms.length)];exact aNc (aDg ms j k ω) (aK3 ms j k ω) _
theorem aAr (l:List MbG) (j:Nat):aN2 (cB l) j ((lI l).ch j):=by
 have h:=aK3 (cB l) j l.length (by rw[mV];exact Nat.le_refl _);rw[<- mV l,List.take_length] at h;show aN2 _ _ (cK (cB l) l.length j);rw[<- mV l];exact h
theorem aQw {l:List MbG} (h:l.length<=1000):(lI l).Sm:=by
 refine⟨by show(cB l).length<=1000;rw[mV];exact h,λj _=>?_⟩;have hi:=aDg (cB l) j l.length (by rw[mV];exact Nat.le_refl _);exact⟨Nat.le_trans hi.len ω,λp hp=>Nat.le_trans (hi.ids p hp).1 ω⟩
theorem aBy {l:List MbG} (h:VL l):eH (lI l)=true:=by
 unfold eH;have e:(lI l).ms=cB l:=rfl;have h2:lI (cB l)=lI l:=aWd h.nd;rw[e,h2,(rV _).2 h.srt,e];simp
theorem aS4 {l:List MbG} (h:VL l):bEs (lI l):=by
 refine⟨aBy h,(mX h.nd).nd,λj _ p hp a ha=>?_,λa ha=>h.srt.ok a ha,aQw (by have:=h.len;omega)⟩;obtain⟨b,hb,h1,_⟩:=(aAr l j).to p hp a ha;obtain⟨i,hi,rfl⟩:=List.mem_iff_getElem.1 hb;exact⟨i,hi,h1,by rw[<- h1];exact aR1 (mX h.nd) hi⟩
theorem aG0 {x:IxG} (h:eH x=true):VL x.ms/\SL x.ms/\∀j,j<8->x.ch j=(lI x.ms).ch j:=by
 unfold eH at h;simp only [Bool.and_eq_true,decide_eq_true_eq,List.all_eq_true,List.mem_range] at h;obtain⟨⟨h1,h2⟩,h3⟩:=h;have hv:=(rV _).1 h1;refine⟨hv,?_,h3⟩;rw[h2];exact mX hv.nd
def aFi (l:List MbG) (b:IrG) (n num den:Nat):List Int:=(l.filter λa=>qZ a.x b n num den).map (·.id)
def snM (l:List MbG) (b:IrG) (n num den:Nat):Nat:=((List.range (2*n+1)).map λi=>(l.filter λa=>aGe (wF b num den) a.x (bkS b n i)).length).sum
theorem aCp {l:List MbG} (h:VL l) (rad:Nat) (bk:IrG) {a:MbG} (ha:a∈cB l):tB (lI l) rad bk a.id=aGe rad a.x bk:=by
 rw[Bool.eq_iff_iff];unfold tB aGe;rw[List.any_eq_true,List.any_eq_true];constructor
 ·rintro⟨j,hj,h1⟩;obtain⟨p,hp,h2⟩:=List.any_eq_true.1 h1;rw[Bool.and_eq_true] at h2;obtain⟨b,hb,h3,h4,h5⟩:=(aAr l j).to p hp a.id (by simpa using h2.2);have e:=aZx h.srt.nd hb ha h3;subst e;refine⟨j,hj,?_⟩;rw[h4,h5];exact h2.1
 ·rintro⟨j,hj,h1⟩;obtain⟨p,hp,h3,h4,h5⟩:=(aAr l j).fro a ha;refine⟨j,hj,List.any_eq_true.2 ⟨p,hp,?_⟩⟩;rw[Bool.and_eq_true];refine⟨?_,by simpa using h5⟩;unfold aG1 aM3;rw[h3,h4];exact h1
theorem bAj {l:List MbG} (h:VL l) (num den:Nat) (bk:IrG) {a:MbG} (ha:a∈cB l):mtI (lI l) num den bk a.id=mt1 a.x bk num den:=by
 obtain⟨i,hi,rfl⟩:=List.mem_iff_getElem.1 ha;unfold mtI mt1;have e:(lI l).ms=cB l:=rfl;rw[e,aR1 (mX h.nd) hi,getElem!_pos _ i hi];have hc:(((cB l)[i].x.n bk 0:Int)*den<=num*(cB l)[i].x.d bk 0)↔(cB l)[i].x.n bk 0*den<=num*(cB l)[i].x.d bk 0:=by
  rw[<- Int.natCast_mul,<- Int.natCast_mul,Int.ofNat_le]
 simp only [hc]
theorem aQn {l:List MbG} (h:VL l) (b:IrG) (n num den:Nat) (hden:0<den):aAp (lI l) b n num den=aFi (cB l) b n num den:=by
 unfold aAp aFi;have e:(lI l).ms=cB l:=rfl;rw[e,List.filter_map]
 congr 1
 refine List.filter_congr λa ha=>?_;show aHi (lI l) b n num den (wF b num den) (2*n+1) a.id=_;rw[aWm];unfold aHi;refine Bool.eq_iff_iff.2 ?_;rw[List.any_eq_true,List.any_eq_true];have key:∀i,(tB (lI l) (wF b num den) (bkS b n i) a.id&&mtI (lI l) num den (bkS b n i) a.id)=mt1 a.x (bkS b n i) num den:=λi=>by
  rw[aCp h _ _ ha,bAj h _ _ _ ha]
  cases hm:mt1 a.x (bkS b n i) num den
  ·simp
  ·rw[show bkS b n i=b.tn ((n:Int) - i) from rfl] at hm ⊢;rw[aW3 _ _ _ _ hden _ hm];rfl
 simp only [key]
theorem aQj {l:List MbG} (h:VL l) (b:IrG) (n num den:Nat):fN (lI l) b n num den (2*n+1)=snM (cB l) b n num den:=by
 unfold fN snM
 congr 1
 refine List.map_congr_left λi _=>?_;unfold kL;have e:(lI l).ms=cB l:=rfl;rw[e,List.filter_map,List.length_map]
 congr 1
 refine List.filter_congr λa ha=>?_;exact aCp h _ _ ha
section
variable {T:Tab} {E:Env} {M:Mem} {nx:Nat}
@[go_sem]theorem bHl (x:Operand) (t:TypeId):dU T (.call ⟨.builtin .len,#[x],#[t]⟩) E M nx=aTl T t (ev E x):=(rfl)
end
end Go.Gx.Ix
namespace Go.Gx.Ix
open Go.RowKit Go.Proofs Go.Proofs.YtncccnmmjfapnaaGreat
theorem mE_ok {x y:IrG} {turns num den:Int} (h:mE x y turns num den=0):x.ok=true/\y.ok=true/\(0<=turns/\turns<=7)/\(1<=den/\den<=1000)/\0<=num/\num<=den:=by
 unfold mE at h;split at h
 ·rename_i h1;split at h
  ·rename_i h2;simp only [Bool.and_eq_true,vL,btw,decide_eq_true_eq] at h1 h2;exact⟨h1.1,h1.2,ω,ω,ω,ω⟩
  ·cases h
 ·cases h
def srE (x:IxG) (b:IrG) (turns num den:Int):Int:=if eH x=false then 40 else mE b b turns num den
def xN (x:IxG) (b:IrG) (turns num den:Int):List Int:=if srE x b turns num den=0 then aFi x.ms b turns.toNat num.toNat den.toNat else []
def aH2 (x:IxG) (b:IrG) (turns num den:Int):Nat:=if srE x b turns num den=0 then snM x.ms b turns.toNat num.toNat den.toNat else 0
theorem bBp {x:IxG} (h:eH x=true):x.sv=(lI x.ms).sv:=by
 obtain⟨h1,h2,h3⟩:=aG0 h;unfold IxG.sv;rw[aZm h2]
 congr 2
 refine List.map_congr_left λj hj=>?_;rw[h3 j (List.mem_range.1 hj)]
theorem aMw (x:IxG) (h:x.Sm) (b:IrG) (turns num den:Int) (hne:srE x b turns num den≠0):Pure Tryz.prog 51 [x.sv,b.sv,.i turns,.agg [.i num,.i den]] (· =.tup [.agg [aM,.i 0],.i (srE x b turns num den)]):=by
 refine π Tryz.func51 ?_;have hc:=aLf x h
 cases hv:eH x
 ·have e:srE x b turns num den=40:=by unfold srE;rw[if_pos hv]
  rw[e];simp[go_sem,IxG.sv] at hc ⊢;refine aA hc rfl rfl ?_;simp[go_sem,oQ,hv]
 ·have e:srE x b turns num den=mE b b turns num den:=by unfold srE;rw[if_neg (by rw[hv];simp)]
  rw[e] at hne ⊢;simp[go_sem,IxG.sv] at hc ⊢;refine aA hc rfl rfl ?_;simp[go_sem,oQ,hv];refine aA (aKm b b turns num den) rfl rfl ?_;generalize mE b b turns num den=e at hne;simp[go_sem,hne]
theorem aNr (x:IxG) (h:x.Sm) (b:IrG) (turns num den:Int):Pure Tryz.prog 51 [x.sv,b.sv,.i turns,.agg [.i num,.i den]] (· =.tup [.agg [ils (xN x b turns num den),.i (aH2 x b turns num den)],.i (srE x b turns num den)]):=by
 by_cases h0:srE x b turns num den=0
 ·have hv:eH x=true:=by
   cases hv:eH x
   ·unfold srE at h0;rw[if_pos hv] at h0;cases h0
   ·rfl
  have hm:mE b b turns num den=0:=by unfold srE at h0;rwa [if_neg (by rw[hv];simp)] at h0
  obtain⟨h1,h2,h3⟩:=aG0 hv;obtain⟨k1,_,k2,k3,k4⟩:=mE_ok hm;have e1:xN x b turns num den=aFi x.ms b turns.toNat num.toNat den.toNat:=by unfold xN;rw[if_pos h0]
  have e2:aH2 x b turns num den=snM x.ms b turns.toNat num.toNat den.toNat:=by unfold aH2;rw[if_pos h0]
  rw[e1,e2,h0,bBp hv];obtain⟨n,rfl⟩:∃n:Nat,turns=n:=⟨turns.toNat,ω⟩;obtain⟨nm,rfl⟩:∃n:Nat,num=n:=⟨num.toNat,ω⟩;obtain⟨d,rfl⟩:∃n:Nat,den=n:=⟨den.toNat,ω⟩;have hs:=aR7 (lI x.ms) (aS4 h1) b n nm d hm (λi=>bG1 _ k1);rw[aQn h1 b n nm d ω,aQj h1,aIg h2] at hs;exact hs
 ·have e1:xN x b turns num den=[]:=by unfold xN;rw[if_neg h0]
  have e2:aH2 x b turns num den=0:=by unfold aH2;rw[if_neg h0]
  rw[e1,e2];exact aL7 (aMw x h b turns num den h0) (aQa ⟨le_agg ⟨aAw (lE 1 _),SV.le.rfl,trivial⟩,SV.le.rfl,trivial⟩)
end Go.Gx.Ix
namespace Go.Gx.Ix
open Go.RowKit Go.Proofs Go.Proofs.YtncccnmmjfapnaaGreat
def fdI (l:List MbG) (b:IrG) (turns num den:Int):List Int:=if mE b b turns num den=0 then aFi (cB l) b turns.toNat num.toNat den.toNat else []
def fdS (l:List MbG) (b:IrG) (turns num den:Int):Nat:=if mE b b turns num den=0 then snM (cB l) b turns.toNat num.toNat den.toNat else 0
theorem aMg {l:List MbG} (h:VL l) (b:IrG) (turns num den:Int):Pure Tryz.prog 51 [(lI l).sv,b.sv,.i turns,.agg [.i num,.i den]] (· =.tup [.agg [ils (fdI l b turns num den),.i (fdS l b turns num den)],.i (mE b b turns num den)]):=by
 have hs:=aNr (lI l) (aQw (by have:=h.len;omega)) b turns num den;have hsE:srE (lI l) b turns num den=mE b b turns num den:=by unfold srE;rw[if_neg (by rw[aBy h];simp)]
 have e1:xN (lI l) b turns num den=fdI l b turns num den:=by unfold xN fdI;rw[hsE];rfl
 have e2:aH2 (lI l) b turns num den=fdS l b turns num den:=by unfold aH2 fdS;rw[hsE];rfl
 rw[hsE,e1,e2] at hs;exact hs
end Go.Gx.Ix
namespace Go.Gx.Sr
open Go.RowKit Go.Proofs Go.Proofs.YtncccnmmjfapnaaGreat Go.Gx.Ix
structure SvG where
 num:Int
 den:Int
 turns:Int
 mage:Int
 key:W64
 now:Int
 g:EG
 ir:List IrG
 r:Rg.RG
 ch:List ChG
 ks:List KsG
 lg:List EnG
abbrev irs (l:List IrG):SV:=.r (.rs 2 l.length (bA IrG.f l))
def SvG.f (x:SvG):Nat->RV
 | 0=>.i x.num
 | 1=>.i x.den
 | 2=>.i x.turns
 | 3=>.i x.mage
 | 4=>.w x.key
 | 5=>.i x.now
 | 6=>.rs 2 x.g.nr λi j=>(x.g.r i).c j
 | 7=>.rs 3 x.g.nl λi j=>(x.g.l i).c j
 | 8=>.rs 3 x.g.nc λi j=>(x.g.c i).c j
 | 9=>.rs 2 x.ir.length (bA IrG.f x.ir)
 | 10=>.rs 8 x.r.nr λi j=>(x.r.r i).c j
 | 11=>.rs 3 x.r.nc λi j=>(x.r.c i).c j
 | 12=>.rs 4 x.r.nw λi j=>(x.r.w i).c j
 | 13=>.rs 5 x.r.nm λi j=>(x.r.m i).c j
 | 14=>.rs 3 x.ch.length (bA ChG.f x.ch)
 | 15=>.rs 4 x.ks.length (bA KsG.f x.ks)
 | _=>.rs 7 x.lg.length (bA EnG.f x.lg)
abbrev SvG.cells (x:SvG):List SV:=[.i x.num,.i x.den,.i x.turns,.i x.mage,.w x.key,.i x.now,x.g.rr,x.g.ll,x.g.cc,irs x.ir,Rg.RuleG.rs x.r.nr x.r.r,Rg.ConG.rs x.r.nc x.r.c,Rg.WarG.rs x.r.nw x.r.w,Rg.MarkG.rs x.r.nm x.r.m,pZ x.ch,kss x.ks,tL x.lg]
abbrev SvG.sv (x:SvG):SV:=.agg x.cells
structure HtG where
 a:Int
 l:Int
 o:Bool
 s:Int
 n:Int
deriving instance DecidableEq for HtG
def HtG.f (x:HtG):Nat->RV
 | 0=>.i x.a
 | 1=>.i x.l
 | 2=>.v (.bool x.o)
 | 3=>.i x.s
 | _=>.i x.n
abbrev hts (l:List HtG):SV:=.r (.rs 5 l.length (bA HtG.f l))
structure AnG where
 e:Int
 n:Int
 h:List HtG
abbrev AnG.sv (x:AnG):SV:=.agg [.i x.e,.i x.n,hts x.h]
structure OrG where
 k:Int
 n:Int
 a:Int
 b:Int
 f:Bool
 x:IrG
 s:W64
 rl:Rg.RuleG
 w:Rg.WarG
 c:Rg.ConG
 m:Rg.MarkG
 q:Rg.QG
abbrev OrG.cells (o:OrG):List SV:=[.r (.v (.int .u8 o.k)),.i o.n,.i o.a,.i o.b,.b o.f,.w o.x.c,.w o.x.m,.w o.s,
 .i o.rl.p,.i o.rl.r,.i o.rl.l,.i o.rl.f,.i o.rl.t,.i o.rl.k,.i o.rl.s,.r (.v (.int .u8 o.rl.b)),.i o.w.l,.i o.w.p,.i o.w.f,.i o.w.t,.i o.c.p,.i o.c.q,.i o.c.u,.i o.m.l,.i o.m.p,.i o.m.s,.i o.m.u,.i o.m.n,
 .i o.q.p,.i o.q.r,.i o.q.l,.i o.q.w,.i o.q.t,o.q.ks]
abbrev OrG.sv (o:OrG):SV:=.agg o.cells
def bad (e:Int):AnG:=⟨e,0,[]⟩
def oD (n:Int):AnG:=⟨0,n,[]⟩
def IrG.z:IrG:=⟨0#64,0#64⟩
def oI (x:SvG) (o:OrG):SvG × AnG:=
 if Ix.btw 1 1000 o.n then (if maxT - o.n<x.now then (x,bad 9) else ({x with now:=x.now+o.n},oD (x.now+o.n))) else (x,bad 2)
def iS (x:SvG) (o:OrG):SvG × AnG:=
 if o.x.ok then (if x.g.addE o.n=0 then ({x with g:=x.g.addX o.n,ir:=x.ir++[o.x]},oD (x.g.addN o.n)) else (x,bad (x.g.addE o.n))) else (x,bad 30)
def oC (x:SvG) (o:OrG):SvG × AnG:=
 if x.g.voteE o.n o.a o.b o.f=0 then ({x with g:=x.g.voteX o.n o.a o.b o.f},oD (if x.g.voteB o.n o.a o.b o.f then 1 else 0)) else (x,bad (x.g.voteE o.n o.a o.b o.f))
def wdM (x:SvG) (o:OrG):SvG × AnG:=
 if x.g.wdE o.a o.b=0 then ({x with g:=x.g.wdX o.a o.b},oD 0) else (x,bad (x.g.wdE o.a o.b))
def KsG.re (k:KsG) (key:W64) (a:Int):KsG:=
 let s:=cX k.s (bP 1#64 a.toNat)
 ⟨k.a,k.m,s,(KsG.mk k.a k.m s k.z).seal key⟩
def SvG.rem (x:SvG) (a:Int):SvG:=
 {x with g:=x.g.remG a.toNat,r:=x.r.forget a,lg:=erL x.lg a,ir:=x.ir.set a.toNat IrG.z,ch:=x.ch.filter (λc=>!decide (c.p=a)),ks:=x.ks.map λk=>k.re x.key a}
def zO (x:SvG) (o:OrG):SvG × AnG:=if x.g.th o.a then (x.rem o.a,oD (erN x.lg o.a)) else (x,bad 6)
def _root_.Go.Gx.Rg.RG.addR (g:Rg.RG) (y:Rg.RuleG):Rg.RG:={g with nr:=g.nr+1,r:=λi=>if i<g.nr then g.r i else y}
def _root_.Go.Gx.Rg.RG.addW (g:Rg.RG) (y:Rg.WarG):Rg.RG:={g with nw:=g.nw+1,w:=λi=>if i<g.nw then g.w i else y}
def nZ (x:SvG) (o:OrG):SvG × AnG:=if x.r.nr=20 then (x,bad 9) else if o.rl.good then ({x with r:=x.r.addR o.rl},oD 0) else (x,bad 2)
def vY (x:SvG) (o:OrG):SvG × AnG:=if x.g.th o.w.p then (if x.r.nw=20 then (x,bad 9) else if o.w.good then ({x with r:=x.r.addW o.w},oD 0) else (x,bad 2)) else (x,bad 6)
def wC (x:SvG) (o:OrG):SvG × AnG:=if x.g.th o.c.p then (if x.r.cnE o.c=0 then ({x with r:=x.r.putC o.c},oD 0) else (x,bad (x.r.cnE o.c))) else (x,bad 6)
def putM (x:SvG) (o:OrG):SvG × AnG:=if x.g.th o.m.p then (if x.r.mkE o.m=0 then ({x with r:=x.r.putM o.m},oD 0) else (x,bad (x.r.mkE o.m))) else (x,bad 6)
def zR (x:SvG) (o:OrG):SvG × AnG:=if x.g.th o.a then (if x.ch.length=60 then (x,bad 9) else ({x with ch:=x.ch++[⟨x.now,o.a,o.f⟩]},oD 0)) else (x,bad 6)
def vW (x:SvG) (o:OrG):SvG × AnG:=
 if Ix.btw 0 (min x.ks.length 3) o.n then (if x.now=maxT then (x,bad 9) else
  ({x with ks:=x.ks.take o.n.toNat++aBa x.ch x.now x.mage x.key::x.ks.drop (o.n.toNat+1),now:=x.now+1},oD (x.now+1))) else (x,bad 2)
def iB (x:SvG) (c probe:IrG):RsG:=
 let p:=iD c probe x.turns.toNat
 if p.d=0 then ⟨2,1,0,x.num,x.den,-1⟩ else ⟨if (p.n:Int)*x.den<=x.num*p.d then 1 else 2,p.n,p.d,x.num,x.den,-1⟩
def SvG.eye (x:SvG) (a:Int):IrG:=(x.ir[a.toNat]?).getD IrG.z
def SvG.put (x:SvG) (k a:Int) (r:RsG) (s:W64):SvG:={x with lg:=x.lg++[wrX x.lg x.now k a r.pack s]}
def rQ (x:SvG) (k a:Int) (r:RsG) (s:W64):SvG × AnG:=if x.lg.length=60 then (x,bad 9) else (x.put k a r s,oD r.d)
def aAq (x:SvG) (o:OrG):SvG × AnG:=if x.g.th o.a then (if o.x.ok then rQ x 1 o.a (iB x (x.eye (x.g.bp o.a x.g.nr)) o.x) o.s else (x,bad 30)) else (x,bad 6)
def SvG.mbs (x:SvG):List MbG:=((List.range x.ir.length).filter λi:Nat=>x.g.th i).map λi:Nat=>⟨(i:Int),x.eye i⟩
def qAt (q:Rg.QG) (a t:Int):Rg.QG:={q with w:=a,t:=t}
def mF (x:SvG) (o:OrG):List Int->List HtG->SvG × AnG
 | [],h=>(x,⟨0,h.length,h⟩)
 | a::l,h=>
   let q:=qAt o.q a x.now
   if x.r.aerr q=0 then
    (if x.lg.length=60 then (x,bad 9) else
      mF (x.put 2 a {iB x (x.eye a) o.x with r:=((x.r.apq q).headD 0:Nat)} o.s) o l (h++[⟨a,x.r.aL q,x.r.aO q,x.r.aS q,x.r.aN q⟩]))
   else mF x o l h
def lC (x:SvG) (o:OrG):SvG × AnG:=if o.x.ok then (if o.q.err=0 then mF x o (fdI x.mbs o.x x.turns x.num x.den) [] else (x,bad o.q.err)) else (x,bad 30)
def wB (x:SvG) (o:OrG):SvG × AnG:=
 if Ix.btw 0 (x.ks.length - 1) o.n then (if x.g.th o.a then (if o.x.ok then
  let k:=(x.ks[o.n.toNat]?).getD KsG.zero
  let d:=aA9 k o.a x.now
  let r:=iB x (x.eye o.a) o.x
  if d=3 then rQ x 5 o.a {r with d:=d,n:=0,m:=0} o.s else if d=2 then rQ x 4 o.a {r with d:=d,n:=1,m:=0} o.s else rQ x 3 o.a r o.s
 else (x,bad 30)) else (x,bad 6)) else (x,bad 2)
def doM (x:SvG) (o:OrG):SvG × AnG:=
 if o.k=1 then oI x o else if o.k=2 then iS x o else if o.k=3 then oC x o else if o.k=4 then wdM x o else if o.k=5 then zO x o
 else if o.k=6 then nZ x o else if o.k=7 then vY x o else if o.k=8 then wC x o else if o.k=9 then putM x o else if o.k=10 then zR x o
 else if o.k=11 then vW x o else if o.k=12 then aAq x o else if o.k=13 then lC x o else wB x o
def stX (x:SvG) (o:OrG):SvG:=if (doM x o).2.e=0 then (doM x o).1 else x
def nX (x:SvG) (o:OrG):AnG:=if (doM x o).2.e=0 then (doM x o).2 else bad (doM x o).2.e
def SvG.setB (x:SvG):Bool:=Ix.btw 1 127 x.den&&Ix.btw 0 x.den x.num&&Ix.btw 0 7 x.turns&&Ix.btw 0 maxT x.mage
def SvG.prtB (x:SvG):Bool:=x.g.valid&&x.r.valid&&eS x.ch&&fR x.lg&&(Ix.btw 0 maxT x.now&&decide (x.ks.length<=4)&&decide (x.ir.length=x.g.nr))
def SvG.irB (x:SvG):Bool:=(List.range x.ir.length).all λi:Nat=>(x.eye i).ok&&(x.g.th i||decide (x.eye i=IrG.z))
def SvG.lgB (x:SvG):Bool:=x.lg.all λe=>decide (e.p<0)||x.g.th e.p
def SvG.cnB (x:SvG):Bool:=(List.range x.r.nc).all λi=>x.g.th (x.r.c i).p
def SvG.waB (x:SvG):Bool:=(List.range x.r.nw).all λi=>x.g.th (x.r.w i).p
def SvG.maB (x:SvG):Bool:=(List.range x.r.nm).all λi=>x.g.th (x.r.m i).p
def SvG.chB (x:SvG):Bool:=x.ch.all λc=>x.g.th c.p
def SvG.peoB (x:SvG):Bool:=x.irB&&x.lgB&&(x.cnB&&x.waB&&x.maB&&x.chB)
def SvG.knW (x:SvG) (k:Nat):W64:=(List.range k).foldl (λ(s:W64) (i:Nat)=>if x.g.th i then iO s (bP 1#64 i) else s) 0#64
def SvG.kOK (x:SvG) (k:KsG):Bool:=k.ok x.key&&decide (k.m=x.mage)&&decide (k.a<x.now)&&decide (cX k.s (x.knW x.ir.length)=0#64)
def SvG.timB (x:SvG):Bool:=x.ks.all x.kOK&&!(x.ch.any λc=>decide (x.now<c.t))&&!(x.lg.any λe=>decide (x.now<e.t))
def SvG.valid (x:SvG):Bool:=x.setB&&(x.prtB&&x.peoB&&x.timB)
structure SvG.OK (x:SvG):Prop where
 g:x.g.Sm
 r:x.r.OK
 rn:x.r.nr<1000000
 rc:x.r.nc<1000000
 rw':x.r.nw<1000000
 rm:x.r.nm<1000000
 ir:x.ir.length<1000000
 ch:x.ch.length<1000000
 ks:x.ks.length<1000000
 lg:x.lg.length<1000000
theorem rB (lo hi n:Int):Pure Tryz.prog 75 [.i lo,.i hi,.i n] (· =.b (Ix.btw lo hi n)):=by
 refine π Tryz.func75 ?_;by_cases h:lo<=n <;> simp[go_sem,Ix.btw,h]
abbrev SvG.ss (x:SvG):SV:=.agg [.i x.num,.i x.den,.i x.turns,.i x.mage,.w x.key]
theorem aEi (x:SvG):Pure Tryz.prog 27 [x.ss] (· =.i (if x.setB then 0 else 2)):=by
 refine π Tryz.func27 ?_;unfold SvG.setB;simp[go_sem];refine aA (rB 1 127 x.den) rfl rfl ?_
 cases Ix.btw 1 127 x.den
 ·simp[go_sem]
 simp[go_sem];refine aA (rB 0 x.den x.num) rfl rfl ?_
 cases Ix.btw 0 x.den x.num
 ·simp[go_sem]
 simp[go_sem];refine aA (rB 0 7 x.turns) rfl rfl ?_
 cases Ix.btw 0 7 x.turns
 ·simp[go_sem]
 simp[go_sem];refine aA (rB 0 maxT x.mage) rfl rfl ?_
 cases Ix.btw 0 maxT x.mage <;> simp[go_sem]
def SvG.zero:SvG:=⟨0,0,0,0,0#64,0,EG.zero,[],Rg.RG.nil,[],[],[]⟩
def SvG.new (x:SvG):SvG:={SvG.zero with num:=x.num,den:=x.den,turns:=x.turns,mage:=x.mage,key:=x.key}
theorem bHb (x:SvG):Pure Tryz.prog 25 [x.ss] (· =.tup [(if x.setB then x.new else SvG.zero).sv,.i (if x.setB then 0 else 2)]):=by
 refine Pure.ofSub ?_;refine π Tryz.func25 ?_;simp[go_sem];refine aA (aEi x) rfl rfl ?_
 cases x.setB
 ·simp[go_sem,SvG.zero,EG.zero,Rg.RG.nil]
 ·simp[go_sem,SvG.new,SvG.zero,EG.zero,Rg.RG.nil]
def SvG.at' (x:SvG) (gt:Nat->Nat->RV):Prop:=∀j,j<17->gt 0 j=x.f j
abbrev kp (gt:Nat->Nat->RV):SV:=.r (.rp 17 1 gt 0 0)
theorem iJ (x:SvG) (hr:x.g.OK) (gt:Nat->Nat->RV) (h:x.at' gt) (a:Int):Pure Tryz.prog 162 [kp gt,.i a] (· =.b (x.g.th a)):=by
 refine π Tryz.func162 ?_;have h6:gt 0 6=.rs 2 x.g.nr λi j=>(x.g.r i).c j:=h 6 δ;have:=hr.nr;by_cases h0:0<=a;rotate_left
 ·have e:x.g.th a=false:=by
   rw[Bool.eq_false_iff];intro ht;exact h0 (EG.th_iff.1 ht).1
  simp[go_sem,h0,e]
 obtain⟨n,rfl⟩:∃n:Nat,a=n:=⟨a.toNat,ω⟩;by_cases h1:n<x.g.nr;rotate_left
 ·have e:x.g.th n=false:=by
   rw[Bool.eq_false_iff];intro ht;have:=(EG.th_iff.1 ht).2.1;omega
  simp[go_sem,h0,h1,h6,e]
 cases hg:(x.g.r n).g
 ·have e:x.g.th n=true:=EG.th_iff.2 ⟨ω,ω,by simpa using hg⟩;simp[go_sem,h0,h1,h6,hg,e]
 ·have e:x.g.th n=false:=by
   rw[Bool.eq_false_iff];intro ht;have:=(EG.th_iff.1 ht).2.2;simp[hg] at this
  simp[go_sem,h0,h1,h6,hg,e]
theorem SvG.eye_get {x:SvG} {k:Nat} (hk:k<x.ir.length):x.eye k=x.ir[k]:=by
 unfold SvG.eye;rw[show((k:Int).toNat)=k from rfl,List.getElem?_eq_getElem hk,Option.getD_some]
theorem SvG.at_view (x:SvG) (M:Mem):x.at' (λ(_ j:Nat)=>aV M 3 (x.cells[j]?.getD (SV.r .any))):=by
 intro j hj;rcases(ω:j=0\/j=1\/j=2\/j=3\/j=4\/j=5\/j=6\/j=7\/j=8\/j=9\/j=10\/j=11\/j=12\/j=13\/j=14\/j=15\/j=16) with h | h | h | h | h | h | h | h | h | h | h | h | h | h | h | h | h <;> subst h <;> rfl
@[go_sem]theorem IrG.f0' (x:IrG):x.f 0=.w x.c:=rfl
@[go_sem]theorem IrG.f1' (x:IrG):x.f 1=.w x.m:=rfl
theorem IrG.iff (x y:IrG):x=y↔x.c.toNat=y.c.toNat/\x.m.toNat=y.m.toNat:=by
 rw[BitVec.toNat_inj,BitVec.toNat_inj]
 cases x;cases y;simp
theorem ChG.iff (x y:ChG):x=y↔x.t=y.t/\x.p=y.p/\x.on=y.on:=by
 cases x;cases y;simp
theorem KsG.iff (x y:KsG):x=y↔x.a=y.a/\x.m=y.m/\x.s.toNat=y.s.toNat/\x.z.toNat=y.z.toNat:=by
 rw[BitVec.toNat_inj,BitVec.toNat_inj]
 cases x;cases y;simp
theorem EnG.iff (x y:EnG):x=y↔x.t=y.t/\x.k=y.k/\x.p=y.p/\x.d.toNat=y.d.toNat/\x.a.toNat=y.a.toNat/\x.s.toNat=y.s.toNat/\x.l.toNat=y.l.toNat:=by
 rw[BitVec.toNat_inj,BitVec.toNat_inj,BitVec.toNat_inj,BitVec.toNat_inj]
 cases x;cases y;simp
def SvG.sm1 (x y:SvG):Bool:=decide (x.ir=y.ir)&&decide (x.ch=y.ch)&&decide (x.ks=y.ks)&&decide (x.lg=y.lg)
def SvG.sm2 (x y:SvG):Bool:=decide (x.num=y.num)&&decide (x.den=y.den)&&decide (x.turns=y.turns)&&decide (x.mage=y.mage)&&decide (x.key=y.key)&&decide (x.now=y.now)
def SvG.same (x y:SvG):Bool:=x.sm1 y&&(x.sm2 y&&(x.g.smB y.g&&x.r.same y.r))
theorem zN (n:Nat) (hn:n<=1000000) (get:Nat->Nat->RV):Own Tryz.prog 143 [] [.r (.rs 2 n get)] (.sl 0 2 0 n none) [.vec 45 2 n λi j=>.r (get i j)]:=by
 refine χ Tryz.func143 ?_;simp[go_sem];refine⟨λh=>.inr (by subst h;simp),⟨ω,ω⟩,⟨[0],τ,λN=>⟨?_,?_⟩⟩⟩
 ·simp[go_sem]
 ·simp[go_sem,aI];intro i j hi hj h;omega
theorem yO (n:Nat) (hn:n<=1000000) (get:Nat->Nat->RV):Own Tryz.prog 144 [] [.r (.rs 3 n get)] (.sl 0 3 0 n none) [.vec 114 3 n λi j=>.r (get i j)]:=by
 refine χ Tryz.func144 ?_;simp[go_sem];refine⟨λh=>.inr (by subst h;simp),⟨ω,ω⟩,⟨[0],τ,λN=>⟨?_,?_⟩⟩⟩
 ·simp[go_sem]
 ·simp[go_sem,aI];intro i j hi hj h;omega
theorem aHk (n:Nat) (hn:n<=1000000) (get:Nat->Nat->RV):Own Tryz.prog 145 [] [.r (.rs 4 n get)] (.sl 0 4 0 n none) [.vec 100 4 n λi j=>.r (get i j)]:=by
 refine χ Tryz.func145 ?_;simp[go_sem];refine⟨λh=>.inr (by subst h;simp),⟨ω,ω⟩,⟨[0],τ,λN=>⟨?_,?_⟩⟩⟩
 ·simp[go_sem]
 ·simp[go_sem,aI];intro i j hi hj h;omega
end Go.Gx.Sr
namespace Go.Gx
open Go.RowKit
section
variable {P:Program} {T:Tab} {N:dW} {k:List It} {Q:GQ} {E:Env} {M:Mem} {nx:Nat} {e:Exit}
theorem rU (S:List (Nat × SV)) (φ:Mem->Nat->Prop) {id:Nat} {all:Array Oper} (h:iW P T N id all [] (vq N (JP S φ)) E M nx) (hk:∀J M nx,φ M nx->GK P T N k Q .normal (hH J S) M nx):iW P T N id all k Q E M nx:=
 jM S φ (GW.vq h) hk
theorem GSt.wkBox (p:Nat) {l l':List SV} (hM:M p=some (.box l)) (h:SV.subL l l'):GSt N E M nx E (bG M p (some (.box l'))) nx:=
 GSt.wk λr=>by
  by_cases e:r=p
  ·subst e;rw[hM];simp only [bG,if_pos];exact .inl h
  ·simp only [bG,if_neg e]
   cases M r with
   | none=>exact .inl trivial
   | some R=>exact .inl (Reg.sub_rfl _)
end
end Go.Gx
namespace Go.Gx.Sr
open Go.RowKit Go.Proofs Go.Proofs.YtncccnmmjfapnaaGreat Go.Gx.Ix
abbrev mT (r:SvG × AnG):SV:=.tup [.i r.2.n,hts r.2.h,.i r.2.e]
abbrev gF (f:FuncId) (M:SvG->OrG->SvG × AnG) (x:SvG) (o:OrG):Prop:=OwnS Tryz.prog 1 f [.box x.cells] [.ptr 0 0 17 0,o.sv] (mT (M x o)) [.box (M x o).1.cells]
theorem SvG.valid_iff {x:SvG}:x.valid=true↔x.setB=true/\x.prtB=true/\x.peoB=true/\x.timB=true:=by
 unfold SvG.valid;simp only [Bool.and_eq_true];exact⟨λ⟨a,⟨b,c⟩,d⟩=>⟨a,b,c,d⟩,λ⟨a,b,c,d⟩=>⟨a,⟨b,c⟩,d⟩⟩
theorem SvG.now_in {x:SvG} (h:x.valid=true):0<=x.now/\x.now<=maxT:=by
 have:=(SvG.valid_iff.1 h).2.1;simp only [SvG.prtB,Bool.and_eq_true] at this;have:=this.2.1.1;simpa [Ix.btw] using this
theorem aN0 (x:SvG) (o:OrG) (hv:x.valid=true):gF 241 oI x o:=by
 refine bE aD Tryz.func241 rfl κ ν rfl rfl 1 (Nat.le_refl _) ?_;have hn:=SvG.now_in hv;simp only [maxT] at hn;unfold oI;simp[go_sem];refine aA (rB 1 1000 o.n) rfl rfl ?_;obtain⟨b,hb⟩:∃b,Ix.btw 1 1000 o.n=b:=⟨_,rfl⟩;rw[hb]
 cases b
 ·simp[go_sem,bad];exact⟨[0],⟨rfl,trivial⟩,τ,λN=>⟨ζ,ζ⟩⟩
 have hb':1<=o.n/\o.n<=1000:=by simpa [Ix.btw] using hb
 simp[go_sem];refine aE aD κ κ ?_;simp[go_sem];refine⟨⟨ω,ω⟩,?_⟩;by_cases hc:1099511627776 - o.n<x.now
 ·simp[go_sem,hc,bad];exact⟨[0],⟨rfl,trivial⟩,τ,λN=>⟨ζ,ζ⟩⟩
 simp[go_sem,hc,oD];refine bD aD κ 7 κ rfl rfl ?_;simp[go_sem];refine⟨⟨ω,ω⟩,?_⟩;refine⟨[0],⟨rfl,trivial⟩,τ,λN=>⟨ζ,ζ⟩⟩
theorem aNg (x:SvG) (o:OrG) (hx:x.OK):gF 243 oC x o:=by
 refine bE aD Tryz.func243 rfl κ ν rfl rfl 1 (Nat.le_refl _) ?_;unfold oC;have hc:=aU3 hx.g o.n o.a o.b o.f;obtain⟨e,he⟩:∃e,x.g.voteE o.n o.a o.b o.f=e:=⟨_,rfl⟩;obtain⟨y,hy⟩:∃y,x.g.voteX o.n o.a o.b o.f=y:=⟨_,rfl⟩;obtain⟨d,hd⟩:∃d,x.g.voteB o.n o.a o.b o.f=d:=⟨_,rfl⟩;rw[he,hy,hd] at hc;rw[he,hy,hd];simp[go_sem];refine fD (S:=[(0,.ptr 0 0 17 0),(3,.ptr 1 0 34 0),(7,.ptr 2 0 3 0),(8,.b d),(9,.i e)]) (l:=[some (.box x.cells),some (.box o.cells),some (.box [y.rr,y.ll,y.cc])]) (n:=3)
  (t:=(.take 0 (.take 1 (.take 2 (.take 3 (.take 4 (.take 5 (.take 6 (.take 7 (.take 8 (.take 9 (.take 10 (.take 11 (.take 12 (.alt 13 [12,11,10,9,8,7,6,5,4,3,2,1,0] (.take 14 (.take 15 (.take 16 (.take 17 (.alt 18 [17,16,15,14,11,9,7,5,3,2,1,0] (.alt 19 [17,16,15,14,11,9,7,5,3,2,1,0] (.take 20 (.take 21 (.done [21,20,17,16]))) .nil) .nil))))) (.alt 18 [12,11,10,9,8,7,6,5,4,3,2,1,0] (.alt 13 [12,11,10,9,8,7,6,5,4,3,2,1,0] (.take 14 (.take 15 (.take 16 (.take 17 (.alt 19 [17,16,15,14,11,9,7,5,3,2,1,0] (.take 20 (.take 21 (.done [21,20,17,16]))) .nil))))) .nil) .nil))))))))))))))))
  aD κ κ κ (λ_ _ _ _ h=>h) rfl ?_ ?_
 ·simp[go_sem];refine⟨aA hc rfl rfl ?_,aA hc rfl rfl ?_⟩
  ·simp[go_sem]
  ·simp[go_sem]
 intro J;simp[go_sem];by_cases he0:e=0
 ·subst he0
  cases d
  ·simp[go_sem,oD];exact⟨[0],⟨rfl,trivial⟩,τ,λN=>⟨ζ,ζ⟩⟩
  ·simp[go_sem,oD];exact⟨[0],⟨rfl,trivial⟩,τ,λN=>⟨ζ,ζ⟩⟩
 ·simp[go_sem,he0,bad];exact⟨[0],⟨rfl,trivial⟩,τ,λN=>⟨ζ,ζ⟩⟩
theorem aV8 (x:SvG) (o:OrG) (hx:x.OK):gF 244 wdM x o:=by
 refine bE aD Tryz.func244 rfl κ ν rfl rfl 1 (Nat.le_refl _) ?_;unfold wdM;have hc:=bDv hx.g o.a o.b;obtain⟨e,he⟩:∃e,x.g.wdE o.a o.b=e:=⟨_,rfl⟩;obtain⟨y,hy⟩:∃y,x.g.wdX o.a o.b=y:=⟨_,rfl⟩;rw[he,hy] at hc;rw[he,hy];simp[go_sem];refine fD (S:=[(0,.ptr 0 0 17 0),(3,.ptr 1 0 34 0),(7,.ptr 2 0 3 0),(8,.i e)]) (l:=[some (.box x.cells),some (.box o.cells),some (.box [y.rr,y.ll,y.cc])]) (n:=3)
  (t:=(.take 0 (.take 1 (.take 2 (.take 3 (.take 4 (.take 5 (.take 6 (.take 7 (.take 8 (.alt 9 [8,7,6,5,4,3,2,1,0] (.take 10 (.take 11 (.take 12 (.alt 13 [12,11,10,7,5,3,2,1,0] (.alt 14 [12,11,10,7,5,3,2,1,0] (.take 15 (.done [15,12])) .nil) .nil)))) (.alt 13 [8,7,6,5,4,3,2,1,0] (.alt 9 [8,7,6,5,4,3,2,1,0] (.take 10 (.take 11 (.take 12 (.alt 14 [12,11,10,7,5,3,2,1,0] (.take 15 (.done [15,12])) .nil)))) .nil) .nil))))))))))))
  aD κ κ κ (λ_ _ _ _ h=>h) rfl ?_ ?_
 ·simp[go_sem];refine⟨aA hc rfl rfl ?_,aA hc rfl rfl ?_⟩
  ·simp[go_sem]
  ·simp[go_sem]
 intro J;simp[go_sem];by_cases he0:e=0
 ·subst he0;simp[go_sem,oD];exact⟨[0],⟨rfl,trivial⟩,τ,λN=>⟨ζ,ζ⟩⟩
 ·simp[go_sem,he0,bad];exact⟨[0],⟨rfl,trivial⟩,τ,λN=>⟨ζ,ζ⟩⟩
theorem aCk (x:SvG) (y:Rg.RG) (e:Int):OwnS Tryz.prog 1 338 [.box x.cells] [.ptr 0 0 17 0,y.sv,.i e] (.tup [.i 0,hts [],.i e]) [.box (if e=0 then {x with r:=y} else x).cells]:=by
 refine bE aD Tryz.func338 rfl κ ν rfl rfl 1 (Nat.le_refl _) ?_;simp[go_sem];by_cases he:e=0
 ·subst he;simp[go_sem];exact⟨[0],⟨rfl,trivial⟩,τ,λN=>⟨ζ,ζ⟩⟩
 ·simp[go_sem,he];exact⟨[0],⟨rfl,trivial⟩,τ,λN=>⟨ζ,ζ⟩⟩
theorem aPw (x:SvG) (o:OrG) (hx:x.OK):gF 248 wC x o:=by
 refine bE aD Tryz.func248 rfl κ ν rfl rfl 1 (Nat.le_refl _) ?_;unfold wC;simp[go_sem];refine aG (v:=.b (x.g.th o.c.p)) (by simp[go_sem];exact iJ x hx.g.ok _ (x.at_view _) o.c.p) rfl ?_;by_cases ht:x.g.th o.c.p=true;rotate_left
 ·simp[go_sem,ht,bad];exact⟨[0],⟨rfl,trivial⟩,τ,λN=>⟨ζ,ζ⟩⟩
 have hc:=Rg.put43 x.r o.c hx.r;obtain⟨e,he⟩:∃e,x.r.cnE o.c=e:=⟨_,rfl⟩;rw[he] at hc ⊢;obtain⟨y,hy⟩:∃y,(if e=0 then x.r.putC o.c else Rg.RG.nil)=y:=⟨_,rfl⟩;rw[hy] at hc;simp[go_sem,ht];refine aP (t:=(.take 0 (.take 1 (.take 2 (.take 3 (.take 4 (.take 5 (.take 6 (.take 7 (.alt 8 [7,6,5,4,3,2,1,0] (.take 9 (.take 10 (.alt 11 [10,9,6,4,3,2,1,0] (.take 12 (.take 13 (.take 14 (.take 15 (.take 16 (.take 17 (.done [17,16,15,14,13,12,6,4,3,2,1]))))))) .nil))) .nil)))))))))) aD κ κ κ (λ_ _ _ _ h=>h) ?_;simp[go_sem];refine aA hc rfl rfl ?_;simp[go_sem];have hs:=aCk x y e;by_cases he0:e=0
 ·subst he0;rw[if_pos rfl] at hs hy ⊢;refine aR [0] hs (Nat.le_refl _) τ rfl ⟨rfl,trivial⟩ ?_;rw[hy];simp[go_sem,oD];exact⟨[0],⟨rfl,trivial⟩,τ,λN=>⟨ζ,ζ⟩⟩
 ·rw[if_neg he0] at hs ⊢;refine aR [0] hs (Nat.le_refl _) τ rfl ⟨rfl,trivial⟩ ?_;simp[go_sem,bad];exact⟨[0],⟨rfl,trivial⟩,τ,λN=>⟨ζ,ζ⟩⟩
theorem aPy (x:SvG) (o:OrG) (hx:x.OK):gF 249 putM x o:=by
 refine bE aD Tryz.func249 rfl κ ν rfl rfl 1 (Nat.le_refl _) ?_;unfold putM;simp[go_sem];refine aG (v:=.b (x.g.th o.m.p)) (by simp[go_sem];exact iJ x hx.g.ok _ (x.at_view _) o.m.p) rfl ?_;by_cases ht:x.g.th o.m.p=true;rotate_left
 ·simp[go_sem,ht,bad];exact⟨[0],⟨rfl,trivial⟩,τ,λN=>⟨ζ,ζ⟩⟩
 have hc:=Rg.put46 x.r o.m hx.r;obtain⟨e,he⟩:∃e,x.r.mkE o.m=e:=⟨_,rfl⟩;rw[he] at hc ⊢;obtain⟨y,hy⟩:∃y,(if e=0 then x.r.putM o.m else Rg.RG.nil)=y:=⟨_,rfl⟩;rw[hy] at hc;simp[go_sem,ht];refine aP (t:=(.take 0 (.take 1 (.take 2 (.take 3 (.take 4 (.take 5 (.take 6 (.take 7 (.alt 8 [7,6,5,4,3,2,1,0] (.take 9 (.take 10 (.alt 11 [10,9,6,4,3,2,1,0] (.take 12 (.take 13 (.take 14 (.take 15 (.take 16 (.take 17 (.done [17,16,15,14,13,12,6,4,3,2,1]))))))) .nil))) .nil)))))))))) aD κ κ κ (λ_ _ _ _ h=>h) ?_;simp[go_sem];refine aA hc rfl rfl ?_;simp[go_sem];have hs:=aCk x y e;by_cases he0:e=0
 ·subst he0;rw[if_pos rfl] at hs hy ⊢;refine aR [0] hs (Nat.le_refl _) τ rfl ⟨rfl,trivial⟩ ?_;rw[hy];simp[go_sem,oD];exact⟨[0],⟨rfl,trivial⟩,τ,λN=>⟨ζ,ζ⟩⟩
 ·rw[if_neg he0] at hs ⊢;refine aR [0] hs (Nat.le_refl _) τ rfl ⟨rfl,trivial⟩ ?_;simp[go_sem,bad];exact⟨[0],⟨rfl,trivial⟩,τ,λN=>⟨ζ,ζ⟩⟩
theorem tV (k:Nat) (get:Nat->Nat->RV):(aM:SV).le (.r (.rs k 0 get)):=λZ w y h=>⟨none,0,h,Nat.le_refl 0,λh=>absurd h (Nat.lt_irrefl 0)⟩
def moE (n:Nat) (good:Bool):Int:=if n=20 then 9 else if good then 0 else 2
theorem aTs (get:Nat->Nat->RV):Pure Tryz.prog 335 [.r (.rs 8 1 get)] (· =.agg [.r (.rs 8 1 get),aM,aM,aM]):=by
 refine π Tryz.func335 ?_;simp[go_sem]
def kG (y:Rg.RuleG):Rg.RG:=⟨1,λ_=>y,0,λ_=>⟨0,0,0⟩,0,λ_=>⟨0,0,0,0⟩,0,λ_=>⟨0,0,0,0,0⟩⟩
theorem zG (y:Rg.RuleG):(kG y).valid=y.good:=by
 simp[Rg.RG.valid,Rg.RG.c1,Rg.RG.c2,Rg.RG.c3,Rg.RG.c4,Rg.RG.c5,Rg.RG.c6,kG,List.range_succ]
theorem aQe (y:Rg.RuleG) (hb:y.byte) (get:Nat->Nat->RV) (h:∀j,j<8->get 0 j=y.c j):Pure Tryz.prog 121 [.agg [.r (.rs 8 1 get),aM,aM,aM]] (· =.i (if y.good then 0 else 8)):=by
 have:=Rg.check28 (kG y) ⟨by simp[kG],by simp[kG],by simp[kG],by simp[kG],λi hi=>hb⟩;rw[zG] at this;refine this.args ⟨Go.Gx.le_agg ?_,trivial⟩;refine⟨?_,?_,?_,?_,trivial⟩
 ·refine vK λi j hi hj=>?_;obtain rfl:i=0:=ω;exact h j hj
 ·exact tV _ _
 ·exact tV _ _
 ·exact tV _ _
theorem sH (y:Rg.RuleG) (j:Nat) (hj:j<8):([.i y.p,.i y.r,.i y.l,.i y.f,.i y.t,.i y.k,.i y.s,.r (.v (.int .u8 y.b))]:List SV)[0*8+j]?.getD (SV.r .any)=.r (y.c j):=by
 rcases(ω:j=0\/j=1\/j=2\/j=3\/j=4\/j=5\/j=6\/j=7) with rfl | rfl | rfl | rfl | rfl | rfl | rfl | rfl <;> rfl
theorem RuleG.rows (n:Nat) (r:Nat->Rg.RuleG) (y:Rg.RuleG) (M:Mem) (d q:Nat) (new:Nat->Nat->SV) (h:∀j,j<8->new 0 j=.r (y.c j)):∀i j,i<n+1->j<8->aV M d (SV.kill q (aI n 1 (λi j=>SV.r ((r i).c j)) new i j))=((if i<n then r i else y).c j):=by
 intro i j hi hj;unfold aI;by_cases e:i<n
 ·rw[if_pos e,if_pos e]
  cases d <;> rfl
 ·obtain rfl:i=n:=ω;rw[if_neg e,if_pos ω,if_neg e,Nat.sub_self,h j hj]
  cases d <;> rfl
theorem aUi (n:Nat) (hn:n<1000000) (r:Nat->Rg.RuleG) (y:Rg.RuleG) (hb:y.byte):Pure Tryz.prog 334 [Rg.RuleG.rs n r,y.sv,.i 20,.fn (.func 335) [] []] (· =.tup [Rg.RuleG.rs (if moE n y.good=0 then n+1 else 0) (λi=>if i<n then r i else y),.i (moE n y.good)]):=by
 refine Pure.ofSub ?_;refine π Tryz.func334 ?_;unfold moE;by_cases h0:n=20
 ·subst h0;simp[go_sem]
 have h0':¬(n:Int)=20:=ω;simp[go_sem,h0,h0'];refine aC 1 ξ ?_;simp[go_sem];refine aA (aTs _) rfl rfl ?_;simp[go_sem];refine aA (aQe y hb _ λj hj=>?_) rfl rfl ?_
 ·rw[sH y j hj];rfl
 cases hg:y.good
 ·simp[go_sem]
 simp[go_sem];refine aP (t:=(.take 0 (.take 2 (.alt 1 [2,0] (.alt 3 [2] (.alt 4 [] (.take 5 (.take 6 (.done [6,5]))) .nil) .nil) (.alt 3 [2,0] (.alt 1 [0] (.alt 4 [] (.take 5 (.take 6 (.done [6,5]))) .nil) .nil) .nil))))) aD κ κ κ (λ_ _ _ _ h=>h) ?_;simp[go_sem];refine⟨?_,?_⟩
 ·refine aF [] (Rg.clone105 n ω _) τ rfl trivial ?_;simp[go_sem];exact⟨⟨ω,ω⟩,RuleG.rows n r y _ _ _ _ λj hj=>sH y j hj⟩
 ·refine aF [] (Rg.clone105 n ω _) τ rfl trivial ?_;simp[go_sem];exact⟨⟨ω,ω⟩,RuleG.rows n r y _ _ _ _ λj hj=>sH y j hj⟩
theorem aPk (get:Nat->Nat->RV):Pure Tryz.prog 337 [.r (.rs 4 1 get)] (· =.agg [aM,aM,.r (.rs 4 1 get),aM]):=by
 refine π Tryz.func337 ?_;simp[go_sem]
def mO (y:Rg.WarG):Rg.RG:=⟨0,λ_=>⟨0,0,0,0,0,0,0,0⟩,0,λ_=>⟨0,0,0⟩,1,λ_=>y,0,λ_=>⟨0,0,0,0,0⟩⟩
theorem aA2 (y:Rg.WarG):(mO y).valid=y.good:=by
 simp[Rg.RG.valid,Rg.RG.c1,Rg.RG.c2,Rg.RG.c3,Rg.RG.c4,Rg.RG.c5,Rg.RG.c6,mO,List.range_succ]
theorem aWv (y:Rg.WarG) (get:Nat->Nat->RV) (h:∀j,j<4->get 0 j=y.c j):Pure Tryz.prog 121 [.agg [aM,aM,.r (.rs 4 1 get),aM]] (· =.i (if y.good then 0 else 8)):=by
 have:=Rg.check28 (mO y) ⟨by simp[mO],by simp[mO],by simp[mO],by simp[mO],λi hi=>absurd hi (Nat.not_lt_zero i)⟩;rw[aA2] at this;refine this.args ⟨Go.Gx.le_agg ?_,trivial⟩;refine⟨?_,?_,?_,?_,trivial⟩
 ·exact tV _ _
 ·exact tV _ _
 ·refine vK λi j hi hj=>?_;obtain rfl:i=0:=ω;exact h j hj
 ·exact tV _ _
theorem wY (y:Rg.WarG) (j:Nat) (hj:j<4):([.i y.l,.i y.p,.i y.f,.i y.t]:List SV)[0*4+j]?.getD (SV.r .any)=.r (y.c j):=by
 rcases(ω:j=0\/j=1\/j=2\/j=3) with rfl | rfl | rfl | rfl <;> rfl
theorem WarG.rows (n:Nat) (r:Nat->Rg.WarG) (y:Rg.WarG) (M:Mem) (d q:Nat) (new:Nat->Nat->SV) (h:∀j,j<4->new 0 j=.r (y.c j)):∀i j,i<n+1->j<4->aV M d (SV.kill q (aI n 1 (λi j=>SV.r ((r i).c j)) new i j))=((if i<n then r i else y).c j):=by
 intro i j hi hj;unfold aI;by_cases e:i<n
 ·rw[if_pos e,if_pos e]
  cases d <;> rfl
 ·obtain rfl:i=n:=ω;rw[if_neg e,if_pos ω,if_neg e,Nat.sub_self,h j hj]
  cases d <;> rfl
theorem aVq (n:Nat) (hn:n<1000000) (r:Nat->Rg.WarG) (y:Rg.WarG):Pure Tryz.prog 336 [Rg.WarG.rs n r,y.sv,.i 20,.fn (.func 337) [] []] (· =.tup [Rg.WarG.rs (if moE n y.good=0 then n+1 else 0) (λi=>if i<n then r i else y),.i (moE n y.good)]):=by
 refine Pure.ofSub ?_;refine π Tryz.func336 ?_;unfold moE;by_cases h0:n=20
 ·subst h0;simp[go_sem]
 have h0':¬(n:Int)=20:=ω;simp[go_sem,h0,h0'];refine aC 1 ξ ?_;simp[go_sem];refine aA (aPk _) rfl rfl ?_;simp[go_sem];refine aA (aWv y _ λj hj=>?_) rfl rfl ?_
 ·rw[wY y j hj];rfl
 cases hg:y.good
 ·simp[go_sem]
 simp[go_sem];refine aP (t:=(.take 0 (.take 2 (.alt 1 [2,0] (.alt 3 [2] (.alt 4 [] (.take 5 (.take 6 (.done [6,5]))) .nil) .nil) (.alt 3 [2,0] (.alt 1 [0] (.alt 4 [] (.take 5 (.take 6 (.done [6,5]))) .nil) .nil) .nil))))) aD κ κ κ (λ_ _ _ _ h=>h) ?_;simp[go_sem];refine⟨?_,?_⟩
 ·refine aF [] (Rg.clone107 n ω _) τ rfl trivial ?_;simp[go_sem];exact⟨⟨ω,ω⟩,WarG.rows n r y _ _ _ _ λj hj=>wY y j hj⟩
 ·refine aF [] (Rg.clone107 n ω _) τ rfl trivial ?_;simp[go_sem];exact⟨⟨ω,ω⟩,WarG.rows n r y _ _ _ _ λj hj=>wY y j hj⟩
theorem aNm (x:SvG) (o:OrG) (hx:x.OK) (hb:o.rl.byte):gF 246 nZ x o:=by
 refine bE aD Tryz.func246 rfl κ ν rfl rfl 1 (Nat.le_refl _) ?_;unfold nZ;simp[go_sem];have hc:=aUi x.r.nr hx.rn x.r.r o.rl hb;refine aP (t:=(.take 0 (.take 1 (.take 2 (.take 3 (.take 4 (.take 5 (.take 6 (.take 7 (.alt 8 [7,6,5,4,3,2,1,0] (.take 9 (.take 10 (.take 11 (.take 12 (.take 13 (.done [13,12,11,10,9,6,4,3,2,1,0])))))) .nil)))))))))) aD κ κ κ (λ_ _ _ _ h=>h) ?_;simp[go_sem];refine aA hc rfl rfl ?_;unfold moE;by_cases h0:x.r.nr=20
 ·simp[go_sem,h0,bad];exact⟨[0],⟨rfl,trivial⟩,τ,λN=>⟨ζ,ζ⟩⟩
 cases hg:o.rl.good
 ·simp[go_sem,h0,bad];exact⟨[0],⟨rfl,trivial⟩,τ,λN=>⟨ζ,ζ⟩⟩
 simp[go_sem,h0,oD];exact⟨[0],⟨rfl,trivial⟩,τ,λN=>⟨ζ,by simp[go_sem,Rg.RG.addR]⟩⟩
theorem aRl (x:SvG) (o:OrG) (hx:x.OK):gF 247 vY x o:=by
 refine bE aD Tryz.func247 rfl κ ν rfl rfl 1 (Nat.le_refl _) ?_;unfold vY;simp[go_sem];refine aG (v:=.b (x.g.th o.w.p)) (by simp[go_sem];exact iJ x hx.g.ok _ (x.at_view _) o.w.p) rfl ?_;by_cases ht:x.g.th o.w.p=true;rotate_left
 ·simp[go_sem,ht,bad];exact⟨[0],⟨rfl,trivial⟩,τ,λN=>⟨ζ,ζ⟩⟩
 simp[go_sem,ht];have hc:=aVq x.r.nw hx.rw' x.r.w o.w;refine aP (t:=(.take 0 (.take 1 (.take 2 (.take 3 (.take 4 (.take 5 (.take 6 (.take 7 (.alt 8 [7,6,5,4,3,2,1,0] (.take 9 (.take 10 (.take 11 (.take 12 (.take 13 (.done [13,12,11,10,9,6,4,3,2,1,0])))))) .nil)))))))))) aD κ κ κ (λ_ _ _ _ h=>h) ?_;simp[go_sem];refine aA hc rfl rfl ?_;unfold moE;by_cases h0:x.r.nw=20
 ·simp[go_sem,h0,bad];exact⟨[0],⟨rfl,trivial⟩,τ,λN=>⟨ζ,ζ⟩⟩
 cases hg:o.w.good
 ·simp[go_sem,h0,bad];exact⟨[0],⟨rfl,trivial⟩,τ,λN=>⟨ζ,ζ⟩⟩
 simp[go_sem,h0,oD];exact⟨[0],⟨rfl,trivial⟩,τ,λN=>⟨ζ,by simp[go_sem,Rg.RG.addW]⟩⟩
theorem fJ {α:Type} {f:α->Nat->RV} {l:List α} {x:α} {k q:Nat} {new:Nat->Nat->SV} (h:∀j,j<k->new 0 j=.r (f x j)) :
 ∀i j,i<l.length+1->j<k->(SV.kill q (aI l.length 1 (λi j=>SV.r (bA f l i j)) new i j)).toRV=bA f (l++[x]) i j:=by
 intro i j hi hj;unfold aI;by_cases hiL:i<l.length
 ·rw[if_pos hiL];unfold bA;rw[List.getElem?_append_left hiL];rfl
 ·obtain rfl:i=l.length:=ω;rw[if_neg hiL,if_pos ω,Nat.sub_self,h j hj];unfold bA;rw[List.getElem?_concat_length];rfl
theorem aP8 (x:SvG) (o:OrG) (hx:x.OK):gF 250 zR x o:=by
 refine bE aD Tryz.func250 rfl κ ν rfl rfl 1 (Nat.le_refl _) ?_;have hn:=hx.ch;unfold zR;simp[go_sem];refine aG (v:=.b (x.g.th o.a)) (by simp[go_sem];exact iJ x hx.g.ok _ (x.at_view _) o.a) rfl ?_;by_cases ht:x.g.th o.a=true;rotate_left
 ·simp[go_sem,ht,bad];exact⟨[0],⟨rfl,trivial⟩,τ,λN=>⟨ζ,ζ⟩⟩
 by_cases h0:x.ch.length=60
 ·have h0':(x.ch.length:Int)=60:=ω;simp[go_sem,ht,h0,h0',bad];exact⟨[0],⟨rfl,trivial⟩,τ,λN=>⟨ζ,ζ⟩⟩
 have h0':¬(x.ch.length:Int)=60:=ω;obtain⟨y,hy⟩:∃y:ChG,ChG.mk x.now o.a o.f=y:=⟨_,rfl⟩;have hrow:∀j,j<3->([.i x.now,.i o.a,.b o.f]:List SV)[0*3+j]?.getD (SV.r .any)=.r (y.f j):=by
  intro j hj;subst hy;rcases(ω:j=0\/j=1\/j=2) with rfl | rfl | rfl <;> rfl
 rw[hy];simp[go_sem,ht,h0,h0',oD];refine rU (S:=[(0,.ptr 0 0 17 0)]) (φ:=λM nx=>M 0=some (.box ({x with ch:=x.ch++[y]}:SvG).cells)) ?_ ?_
 ·refine aP (t:=(.take 0 (.take 1 (.take 2 (.take 3 (.take 4 (.take 5 (.take 7 (.take 8 (.take 9 (.take 10 (.take 11 (.take 12 (.take 13 (.take 14 (.take 15 (.take 16 (.alt 6 [16,15,14,13,12,11,10,9,8,7,5,4,3,2,1,0] (.alt 17 [16,15,14,13,12,11,10,9,8,7,4,3,2,1,0] (.alt 18 [15,14,13,12,11,10,9,8,7,4,3,2,1,0] (.take 19 (.take 20 (.take 21 (.alt 22 [21,20,19,15,14,13,12,11,10,9,8,7,4,3,2,1,0] (.done [20,19]) .nil)))) .nil) .nil) (.alt 17 [16,15,14,13,12,11,10,9,8,7,5,4,3,2,1,0] (.alt 6 [15,14,13,12,11,10,9,8,7,5,4,3,2,1,0] (.alt 18 [15,14,13,12,11,10,9,8,7,4,3,2,1,0] (.take 19 (.take 20 (.take 21 (.alt 22 [21,20,19,15,14,13,12,11,10,9,8,7,4,3,2,1,0] (.done [20,19]) .nil)))) .nil) .nil) .nil))))))))))))))))))) aD κ κ κ (λ_ _ _ _ h=>h.elim λ_ h=>h.elim λ_ h=>h.elim λ_ h=>h.2) ?_;simp[go_sem];refine⟨?_,?_⟩
  ·refine aF [] (yO x.ch.length ω _) τ rfl trivial ?_;simp[go_sem];refine⟨⟨ω,ω⟩,aZ (GSt.freeze 2 ξ) (aZ (GSt.wkBox 0 (l':=({x with ch:=x.ch++[y]}:SvG).cells) ξ ?_) (aQ ζ))⟩;simp[go_sem];exact fJ λj hj=>hrow j hj
  ·refine aF [] (yO x.ch.length ω _) τ rfl trivial ?_;simp[go_sem];refine⟨⟨ω,ω⟩,aZ (GSt.freeze 3 ξ) (aZ (GSt.wkBox 0 (l':=({x with ch:=x.ch++[y]}:SvG).cells) ξ ?_) (aQ ζ))⟩;simp[go_sem];exact fJ λj hj=>hrow j hj
 intro J M nx h0;simp[go_sem];exact⟨[0],⟨rfl,trivial⟩,τ,λN=>⟨ζ,by simp[go_sem,h0]⟩⟩
theorem aKc (x:SvG) (o:OrG) (hx:x.OK):gF 242 iS x o:=by
 refine bE aD Tryz.func242 rfl κ ν rfl rfl 1 (Nat.le_refl _) ?_;have hn:=hx.ir;unfold iS;simp[go_sem];refine aA (pO o.x.c o.x.m) rfl rfl ?_;have e0:o.x.ok=vI o.x.c o.x.m:=rfl;rw[e0]
 cases hv:vI o.x.c o.x.m
 ·simp[go_sem,bad];exact⟨[0],⟨rfl,trivial⟩,τ,λN=>⟨ζ,ζ⟩⟩
 have hc:=bAq hx.g o.n;obtain⟨e,he⟩:∃e,x.g.addE o.n=e:=⟨_,rfl⟩;obtain⟨y,hy⟩:∃y,x.g.addX o.n=y:=⟨_,rfl⟩;obtain⟨d,hd⟩:∃d,x.g.addN o.n=d:=⟨_,rfl⟩;rw[he,hy,hd] at hc;rw[he,hy,hd];simp[go_sem];refine fD (S:=[(0,.ptr 0 0 17 0),(3,.ptr 1 0 34 0),(8,.ptr 2 0 3 0),(9,.i d),(10,.i e)]) (l:=[some (.box x.cells),some (.box o.cells),some (.box [y.rr,y.ll,y.cc])]) (n:=3)
  (t:=(.take 0 (.take 1 (.take 2 (.take 3 (.take 4 (.take 5 (.take 6 (.alt 7 [6,5,4,3,2,1,0] (.take 8 (.take 9 (.take 10 (.take 11 (.alt 12 [11,10,9,8,5,3,2,1,0] (.alt 13 [11,10,9,8,5,3,2,1,0] (.take 14 (.take 15 (.done [15,14,11,10]))) .nil) .nil))))) (.alt 12 [6,5,4,3,2,1,0] (.alt 7 [6,5,4,3,2,1,0] (.take 8 (.take 9 (.take 10 (.take 11 (.alt 13 [11,10,9,8,5,3,2,1,0] (.take 14 (.take 15 (.done [15,14,11,10]))) .nil))))) .nil) .nil)))))))))) aD κ κ κ (λ_ _ _ _ h=>h) rfl ?_ ?_
 ·simp[go_sem];refine⟨aA hc rfl rfl ?_,aA hc rfl rfl ?_⟩
  ·simp[go_sem]
  ·simp[go_sem]
 intro J;simp[go_sem];by_cases he0:e=0;rotate_left
 ·simp[go_sem,he0,bad];exact⟨[0],⟨rfl,trivial⟩,τ,λN=>⟨ζ,ζ⟩⟩
 subst he0;have hrow:∀j,j<2->([.w o.x.c,.w o.x.m]:List SV)[0*2+j]?.getD (SV.r .any)=.r (o.x.f j):=by
  intro j hj;rcases(ω:j=0\/j=1) with rfl | rfl <;> rfl
 simp[go_sem,oD];refine rU (S:=[(0,.ptr 0 0 17 0),(9,.i d)]) (φ:=λM nx=>M 0=some (.box ({x with g:=y,ir:=x.ir++[o.x]}:SvG).cells)) ?_ ?_
 ·refine aP (t:=(.take 0 (.take 1 (.take 2 (.take 3 (.take 4 (.take 5 (.take 6 (.take 7 (.take 9 (.take 10 (.alt 8 [10,9,7,6,5,4,3,2,1,0] (.alt 11 [10,9,6,5,4,3,2,1,0] (.alt 12 [9,6,5,4,3,2,1,0] (.take 13 (.take 14 (.take 15 (.alt 16 [15,14,13,9,6,5,4,3,2,1,0] (.take 17 (.take 18 (.take 19 (.alt 20 [19,18,17,14,13,9,6,5,4,3,1] (.done [18,17]) .nil)))) .nil)))) .nil) .nil) (.alt 11 [10,9,7,6,5,4,3,2,1,0] (.alt 8 [9,7,6,5,4,3,2,1,0] (.alt 12 [9,6,5,4,3,2,1,0] (.take 13 (.take 14 (.take 15 (.alt 16 [15,14,13,9,6,5,4,3,2,1,0] (.take 17 (.take 18 (.take 19 (.alt 20 [19,18,17,14,13,9,6,5,4,3,1] (.done [18,17]) .nil)))) .nil)))) .nil) .nil) .nil))))))))))))) aD κ κ κ (λ_ _ _ _ h=>h.elim λ_ h=>h.elim λ_ h=>h.elim λ_ h=>h.2) ?_;simp[go_sem];refine⟨?_,?_⟩
  ·refine aF [] (zN x.ir.length ω _) τ rfl trivial ?_;simp[go_sem];refine⟨⟨ω,ω⟩,aZ (GSt.freeze 3 ξ) (aZ (GSt.wkBox 0 (l':=({x with g:=y,ir:=x.ir++[o.x]}:SvG).cells) ξ ?_) (aQ ζ))⟩;simp[go_sem];exact fJ λj hj=>hrow j hj
  ·refine aF [] (zN x.ir.length ω _) τ rfl trivial ?_;simp[go_sem];refine⟨⟨ω,ω⟩,aZ (GSt.freeze 4 ξ) (aZ (GSt.wkBox 0 (l':=({x with g:=y,ir:=x.ir++[o.x]}:SvG).cells) ξ ?_) (aQ ζ))⟩;simp[go_sem];exact fJ λj hj=>hrow j hj
 intro J M nx h0;simp[go_sem];exact⟨[0],⟨rfl,trivial⟩,τ,λN=>⟨ζ,by simp[go_sem,h0]⟩⟩
theorem SvG.cop_ok {x:SvG} (h:x.valid=true):wA x.ch x.now x.mage=0:=by
 have h1:=(SvG.valid_iff.1 h).1;have h2:=(SvG.valid_iff.1 h).2.1;simp only [SvG.setB,Bool.and_eq_true] at h1;simp only [SvG.prtB,Bool.and_eq_true] at h2;have e1:eS x.ch=true:=h2.1.1.2;have e2:oF x.now=true:=h2.2.1.1;have e3:oF x.mage=true:=h1.2;have e4:qI x.ch x.now=0:=by unfold qI;rw[if_pos e1,if_pos e2]
 unfold wA;rw[if_pos e4,if_pos e3]
theorem yU {ks L:List KsG} {y:KsG} {n m q q2:Nat} {new:Nat->Nat->SV} (hle:n<=ks.length) (hm:min (n+1) ks.length=m) (hL:ks.take n++y::ks.drop (n+1)=L) (hnew:∀j,j<4->new 0 j=.r (y.f j)) :
 n+(1+(ks.length - m))=L.length/\∀i j,i<n+(1+(ks.length - m))->j<4->(SV.kill q (aI n (1+(ks.length - m)) (λi j=>SV.r (bA KsG.f ks i j)) (λi j=>SV.kill q2 (aI 1 (ks.length - m) new (λi j=>SV.r (bA KsG.f ks (m+i) j)) i j)) i j)).toRV=bA KsG.f L i j:=by
 subst hL;have htl:(ks.take n).length=n:=by rw[List.length_take];omega
 refine⟨by simp only [List.length_append,List.length_cons,List.length_drop,htl];omega,λi j hi hj=>?_⟩;by_cases h1:i<n
 ·unfold aI;rw[if_pos h1];unfold bA;rw[List.getElem?_append_left ω,List.getElem?_take,if_pos h1];rfl
 by_cases h2:i=n
 ·subst h2;have e:(ks.take i++y::ks.drop (i+1))[i]? =some y:=by
   rw[List.getElem?_append_right ω,htl,Nat.sub_self];rfl
  simp only [aI,Nat.lt_irrefl,if_false,Nat.sub_self];rw[if_pos ω,if_pos ω,hnew j hj];unfold bA;rw[e];rfl
 ·have e:(ks.take n++y::ks.drop (n+1))[i]? =ks[i]?:=by
   rw[List.getElem?_append_right ω,htl,show i - n=(i - n - 1)+1 from ω,List.getElem?_cons_succ,List.getElem?_drop]
   congr 1;omega
  have e2:m+(i - n - 1)=i:=ω;simp only [aI];rw[if_neg h1,if_pos hi,if_neg ω,if_pos ω,e2];unfold bA;rw[e];rfl
theorem aQd (x:SvG) (o:OrG) (hx:x.OK) (hv:x.valid=true):gF 251 vW x o:=by
 refine bE aD Tryz.func251 rfl κ ν rfl rfl 1 (Nat.le_refl _) ?_;have hn:=hx.ks;have hc:=hx.ch;have hw:=SvG.now_in hv;simp only [maxT] at hw;have hE:=SvG.cop_ok hv;unfold vW;simp[go_sem];refine aE aD κ κ ?_;simp[go_sem];refine⟨_,aB (rB 0 (min (x.ks.length:Int) 3) o.n) rfl rfl,?_⟩;obtain⟨b,hb⟩:∃b,Ix.btw 0 (min (x.ks.length:Int) 3) o.n=b:=⟨_,rfl⟩;rw[hb]
 cases b
 ·simp[go_sem,bad];exact⟨[0],⟨rfl,trivial⟩,τ,λN=>⟨ζ,ζ⟩⟩
 have hb':0<=o.n/\o.n<=min (x.ks.length:Int) 3:=by simpa [Ix.btw] using hb
 by_cases h0:x.now=1099511627776
 ·simp[go_sem,h0,bad];exact⟨[0],⟨rfl,trivial⟩,τ,λN=>⟨ζ,ζ⟩⟩
 obtain⟨n,hn'⟩:∃n:Nat,o.n=n:=⟨o.n.toNat,ω⟩;have hle:n<=x.ks.length:=ω;obtain⟨y,hy⟩:∃y,aBa x.ch x.now x.mage x.key=y:=⟨_,rfl⟩;have hcp:=aVm x.ch hc x.now x.mage x.key;rw[hE,if_pos rfl,hy] at hcp;rw[hy,hn'];simp[go_sem,h0,oD];refine fD (S:=[(0,.ptr 0 0 17 0),(3,.ptr 1 0 34 0),(7,.ptr 2 0 4 0),(8,.i 0)]) (l:=[some (.box x.cells),some (.box o.cells),some (.box [.i y.a,.i y.m,.w y.s,.w y.z])]) (n:=3)
  (t:=(.take 0 (.take 1 (.take 2 (.take 3 (.take 4 (.take 5 (.take 6 (.take 7 (.take 8 (.take 9 (.take 10 (.take 11 (.take 12 (.take 13 (.take 14 (.take 15 (.take 16 (.take 17 (.take 18 (.take 19 (.take 20 (.take 21 (.alt 22 [21,20,19,18,17,16,15,14,13,12,11,10,9,8,7,6,5,4,3,2,1,0] (.take 23 (.take 24 (.take 25 (.alt 26 [25,24,23,20,19,18,17,16,14,13,12,11,10,8,7,6,5,3,2,1,0] (.alt 27 [25,24,23,20,19,18,17,16,14,13,12,11,10,8,7,6,5,3,2,1,0] (.take 28 (.done [28,25])) .nil) .nil)))) (.alt 26 [21,20,19,18,17,16,15,14,13,12,11,10,9,8,7,6,5,4,3,2,1,0] (.alt 22 [21,20,19,18,17,16,15,14,13,12,11,10,9,8,7,6,5,4,3,2,1,0] (.take 23 (.take 24 (.take 25 (.alt 27 [25,24,23,20,19,18,17,16,14,13,12,11,10,8,7,6,5,3,2,1,0] (.take 28 (.done [28,25])) .nil)))) .nil) .nil))))))))))))))))))))))))) aD κ κ κ (λ_ _ _ _ h=>h) rfl ?_ ?_
 ·simp[go_sem];refine⟨aA hcp rfl rfl ?_,aA hcp rfl rfl ?_⟩
  ·simp[go_sem]
  ·simp[go_sem]
 intro J;simp[go_sem];have em:min ((n:Int)+1) (x.ks.length:Int)=((min (n+1) x.ks.length:Nat):Int):=ω;obtain⟨m,hm⟩:∃m,min (n+1) x.ks.length=m:=⟨_,rfl⟩;rw[hm] at em;have hml:m<=x.ks.length:=ω;obtain⟨L,hL⟩:∃L,x.ks.take n++y::x.ks.drop (n+1)=L:=⟨_,rfl⟩;rw[hL];have hrow:∀j,j<4->([.i y.a,.i y.m,.w y.s,.w y.z]:List SV)[0*4+j]?.getD (SV.r .any)=.r (y.f j):=by
  intro j hj;rcases(ω:j=0\/j=1\/j=2\/j=3) with rfl | rfl | rfl | rfl <;> rfl
 refine rU (S:=[(0,.ptr 0 0 17 0)]) (φ:=λM nx=>M 0=some (.box ({x with ks:=L}:SvG).cells)) ?_ ?_
 ·refine aP (t:=(.take 0 (.take 1 (.take 2 (.take 3 (.take 4 (.take 5 (.take 6 (.take 7 (.take 8 (.take 10 (.take 12 (.take 13 (.take 14 (.take 15 (.take 16 (.take 17 (.take 18 (.take 19 (.take 20 (.take 21 (.take 22 (.take 23 (.take 24 (.take 25 (.alt 9 [25,24,23,22,21,20,19,18,17,16,15,14,13,12,10,8,7,6,5,4,3,2,1,0] (.alt 11 [25,24,23,22,21,20,19,18,17,16,15,14,13,12,10,7,6,5,4,3,2,1,0] (.alt 26 [25,24,23,22,21,20,19,18,17,16,15,14,13,12,7,6,5,4,3,2,1,0] (.take 27 (.alt 28 [27,24,23,22,21,20,18,17,16,15,14,13,12,7,6,5,4,3,2,1,0] (.alt 29 [24,23,22,21,20,18,17,16,15,14,13,12,7,6,5,4,3,2,1,0] (.take 30 (.take 31 (.take 32 (.alt 33 [32,31,30,24,23,22,21,20,18,17,16,15,14,13,12,7,6,5,4,3,2,1,0] (.done [31,30]) .nil)))) .nil) .nil)) .nil) (.alt 26 [25,24,23,22,21,20,19,18,17,16,15,14,13,12,10,7,6,5,4,3,2,1,0] (.take 27 (.alt 11 [27,24,23,22,21,20,18,17,16,15,14,13,12,10,7,6,5,4,3,2,1,0] (.alt 28 [27,24,23,22,21,20,18,17,16,15,14,13,12,7,6,5,4,3,2,1,0] (.alt 29 [24,23,22,21,20,18,17,16,15,14,13,12,7,6,5,4,3,2,1,0] (.take 30 (.take 31 (.take 32 (.alt 33 [32,31,30,24,23,22,21,20,18,17,16,15,14,13,12,7,6,5,4,3,2,1,0] (.done [31,30]) .nil)))) .nil) .nil) .nil)) .nil)) (.alt 11 [25,24,23,22,21,20,19,18,17,16,15,14,13,12,10,8,7,6,5,4,3,2,1,0] (.alt 9 [25,24,23,22,21,20,19,18,17,16,15,14,13,12,8,7,6,5,4,3,2,1,0] (.alt 26 [25,24,23,22,21,20,19,18,17,16,15,14,13,12,7,6,5,4,3,2,1,0] (.take 27 (.alt 28 [27,24,23,22,21,20,18,17,16,15,14,13,12,7,6,5,4,3,2,1,0] (.alt 29 [24,23,22,21,20,18,17,16,15,14,13,12,7,6,5,4,3,2,1,0] (.take 30 (.take 31 (.take 32 (.alt 33 [32,31,30,24,23,22,21,20,18,17,16,15,14,13,12,7,6,5,4,3,2,1,0] (.done [31,30]) .nil)))) .nil) .nil)) .nil) (.alt 26 [25,24,23,22,21,20,19,18,17,16,15,14,13,12,8,7,6,5,4,3,2,1,0] (.take 27 (.alt 9 [27,24,23,22,21,20,18,17,16,15,14,13,12,8,7,6,5,4,3,2,1,0] (.alt 28 [27,24,23,22,21,20,18,17,16,15,14,13,12,7,6,5,4,3,2,1,0] (.alt 29 [24,23,22,21,20,18,17,16,15,14,13,12,7,6,5,4,3,2,1,0] (.take 30 (.take 31 (.take 32 (.alt 33 [32,31,30,24,23,22,21,20,18,17,16,15,14,13,12,7,6,5,4,3,2,1,0] (.done [31,30]) .nil)))) .nil) .nil) .nil)) .nil)) (.alt 26 [25,24,23,22,21,20,19,18,17,16,15,14,13,12,10,8,7,6,5,4,3,2,1,0] (.take 27 (.alt 9 [27,24,23,22,21,20,18,17,16,15,14,13,12,10,8,7,6,5,4,3,2,1,0] (.alt 11 [27,24,23,22,21,20,18,17,16,15,14,13,12,10,7,6,5,4,3,2,1,0] (.alt 28 [27,24,23,22,21,20,18,17,16,15,14,13,12,7,6,5,4,3,2,1,0] (.alt 29 [24,23,22,21,20,18,17,16,15,14,13,12,7,6,5,4,3,2,1,0] (.take 30 (.take 31 (.take 32 (.alt 33 [32,31,30,24,23,22,21,20,18,17,16,15,14,13,12,7,6,5,4,3,2,1,0] (.done [31,30]) .nil)))) .nil) .nil) .nil) (.alt 11 [27,24,23,22,21,20,18,17,16,15,14,13,12,10,8,7,6,5,4,3,2,1,0] (.alt 9 [27,24,23,22,21,20,18,17,16,15,14,13,12,8,7,6,5,4,3,2,1,0] (.alt 28 [27,24,23,22,21,20,18,17,16,15,14,13,12,7,6,5,4,3,2,1,0] (.alt 29 [24,23,22,21,20,18,17,16,15,14,13,12,7,6,5,4,3,2,1,0] (.take 30 (.take 31 (.take 32 (.alt 33 [32,31,30,24,23,22,21,20,18,17,16,15,14,13,12,7,6,5,4,3,2,1,0] (.done [31,30]) .nil)))) .nil) .nil) .nil) .nil))) .nil)))))))))))))))))))))))))))) aD κ κ κ (λ_ _ _ _ h=>h.elim λ_ h=>h.elim λ_ h=>h.elim λ_ h=>h.2) ?_;simp[go_sem,hn',em,hle,hml];refine⟨⟨ω,ω⟩,?_⟩
  repeat' apply And.intro
  all_goals first
   | omega
   | (refine aF [] (aHk n ω _) τ rfl trivial ?_
      simp[go_sem,hn',em,hle,hml]
      repeat' apply And.intro
      all_goals first
       | omega
       | (refine aZ (GSt.freeze 3 ξ) (aZ (GSt.wkBox 0 (l':=({x with ks:=L}:SvG).cells) ξ ?_) (aQ ζ));simp[go_sem];exact yU hle hm hL hrow)
       | (refine aZ (GSt.freeze 4 ξ) (aZ (GSt.wkBox 0 (l':=({x with ks:=L}:SvG).cells) ξ ?_) (aQ ζ));simp[go_sem];exact yU hle hm hL hrow)
       | (refine aZ (GSt.freeze 5 ξ) (aZ (GSt.wkBox 0 (l':=({x with ks:=L}:SvG).cells) ξ ?_) (aQ ζ));simp[go_sem];exact yU hle hm hL hrow))
 intro J M nx h0;simp[go_sem,h0];exact⟨⟨ω,ω⟩,[0],⟨rfl,trivial⟩,τ,λN=>⟨ζ,ζ⟩⟩
theorem aE3 {l:List EnG} {e:EnG} {j:Nat} (hj:j<=l.length):rX (l++[e]) j=rX l j:=by
 unfold rX;split
 ·rfl
 ·rw[List.getElem?_append_left ω]
theorem aIz (l:List EnG) (e:EnG):iE (l++[e])=e:=by
 unfold iE rX;rw[if_neg τ];simp
theorem aNj (d s:W64):bV (bV (bV d s) d) s=0#64:=by
 unfold bV;rw[BitVec.xor_comm d s,BitVec.xor_assoc s d d,BitVec.xor_self,BitVec.xor_zero,BitVec.xor_self]
structure aAf (l:List EnG) (now:Int):Prop where
 ok:fR l=true
 t:(iE l).t<=now
 now0:0<=now
 now1:now<=maxT
theorem yB {l:List EnG} {now k p:Int} (h:aAf l now) (hn:¬l.length=60) (hk:0<=k/\k<=7) (hp:0<=p/\p<=63) (d s:W64):aAf (l++[wrX l now k p d s]) now:=by
 refine⟨?_,by rw[aIz];exact Int.le_refl _,h.now0,h.now1⟩;have h1:=h.ok;unfold fR at h1 ⊢;simp only [Bool.and_eq_true,decide_eq_true_eq] at h1 ⊢;refine⟨ι,?_⟩;unfold lgB at h1 ⊢;rw[List.all_eq_true] at h1 ⊢;intro j hj;have hj:=List.mem_range.1 hj;simp only [List.length_append,List.length_singleton] at hj;by_cases e:j<l.length
 ·have:=h1.2 j (List.mem_range.2 e);unfold aAo at this ⊢;rw[aE3 ω,List.getElem?_append_left e];exact this
 ·obtain rfl:j=l.length:=ω;unfold aAo;rw[aE3 (Nat.le_refl _),List.getElem?_concat_length];show((iE l).stp (wrX l now k p d s))=true;unfold EnG.stp EnG.fit EnG.rng wrX;have a1:=h.now0;have a2:=h.now1;have a3:=h.t;simp only [Ix.btw,EnG.lnk,aNj];simp only [maxT] at a2 ⊢;rw[if_neg ω];simp[a1,a2,a3];omega
theorem aZh {l:List EnG} {now k p:Int} (h:aAf l now) (hk:0<=k/\k<=7) (hp:0<=p/\p<=63):wrE l now k p=if l.length=60 then 9 else 0:=by
 unfold wrE;rw[if_pos h.ok,if_pos];simp only [Ix.btw,Bool.and_eq_true,decide_eq_true_eq];exact⟨⟨⟨h.t,h.now1⟩,hk⟩,hp⟩
theorem SvG.log_ok {x:SvG} (h:x.valid=true):aAf x.lg x.now:=by
 have hn:=SvG.now_in h;obtain⟨_,h2,_,h4⟩:=SvG.valid_iff.1 h;simp only [SvG.prtB,Bool.and_eq_true] at h2;refine⟨h2.1.2,?_,hn.1,hn.2⟩;simp only [SvG.timB,Bool.and_eq_true,Bool.not_eq_true'] at h4;have h5:=List.any_eq_false.1 h4.2;unfold iE rX;split
 ·exact hn.1
 ·rename_i h0;rw[List.getElem?_eq_getElem ω,Option.getD_some];have:=h5 _ (List.getElem_mem (ω:x.lg.length - 1<x.lg.length));simpa using this
def aW5 (l:List EnG):Int:=if l.length=60 then 9 else 0
theorem aCd (x:SvG) (k a:Int) (r:RsG) (s:W64) (hl:x.lg.length<1000000) (hx:aAf x.lg x.now) (hk:0<=k/\k<=7) (ha:0<=a/\a<=63) (hr:r.good=true) :
 OwnS Tryz.prog 1 345 [.box x.cells] [.ptr 0 0 17 0,.i k,.i a,r.sv,.w s] (.i (aW5 x.lg)) [.box (if x.lg.length=60 then x else x.put k a r s).cells]:=by
 refine bE aD Tryz.func345 rfl κ ν rfl rfl 1 (Nat.le_refl _) ?_;have hp:=bBi r;rw[hr] at hp;have hw:=aTj x.lg hl x.now k a r.pack s;rw[aZh hx hk ha] at hw;unfold aW5;simp[go_sem];refine aA hp rfl rfl ?_;simp[go_sem];refine aE aD κ κ ?_;simp[go_sem];refine⟨_,aB hw rfl rfl,?_⟩;by_cases h60:x.lg.length=60
 ·simp[go_sem,h60];exact⟨[0],⟨rfl,trivial⟩,τ,λN=>⟨ζ,by simp[go_sem,h60]⟩⟩
 ·simp[go_sem,h60];exact⟨[0],⟨rfl,trivial⟩,τ,λN=>⟨ζ,by simp[go_sem,SvG.put]⟩⟩
theorem aEr {x:SvG} (h:x.valid=true):(1<=x.den/\x.den<=127)/\(0<=x.num/\x.num<=x.den)/\(0<=x.turns/\x.turns<=7)/\(0<=x.mage/\x.mage<=maxT):=by
 have h1:=(SvG.valid_iff.1 h).1;simp only [SvG.setB,Ix.btw,Bool.and_eq_true,decide_eq_true_eq] at h1;exact⟨h1.1.1.1,h1.1.1.2,h1.1.2,h1.2⟩
theorem xG {a b m n:Int} (h1:0<=a/\a<=m) (h2:0<=b/\b<=n) (hm:0<=m):0<=a*b/\a*b<=m*n:=
 ⟨Int.mul_nonneg h1.1 h2.1,Int.mul_le_mul h1.2 h2.2 h2.1 hm⟩
theorem rL (x:SvG) (hv:x.setB=true) (gt:Nat->Nat->RV) (h:x.at' gt) (a:Int) (ha:0<=a/\a<x.ir.length) (hn:x.ir.length<1000000) (p:IrG) (h1:(x.eye a).ok=true) (h2:p.ok=true) :
 Pure Tryz.prog 343 [kp gt,.i a,p.sv] (· =(iB x (x.eye a) p).sv):=by
 refine π Tryz.func343 ?_;have g0:gt 0 0=.i x.num:=h 0 δ;have g1:gt 0 1=.i x.den:=h 1 δ;have g2:gt 0 2=.i x.turns:=h 2 δ;have g9:gt 0 9=.rs 2 x.ir.length (bA IrG.f x.ir):=h 9 δ;simp only [SvG.setB,Ix.btw,Bool.and_eq_true,decide_eq_true_eq] at hv;obtain⟨⟨⟨⟨d1,d2⟩,n1,n2⟩,t1,t2⟩,_⟩:=hv;obtain⟨n,rfl⟩:∃n:Nat,a=n:=⟨a.toNat,ω⟩;have hlt:n<x.ir.length:=ω;have hrow:=aJ (f:=IrG.f) hlt;have hey:x.eye n=x.ir[n]:=SvG.eye_get hlt;obtain⟨c,hc⟩:∃c,x.eye n=c:=⟨_,rfl⟩;rw[hc] at h1 hey ⊢;rw[<- hey] at hrow;have hd:=aJ2 c p x.turns;have hsm:(iD c p x.turns.toNat).Sm:=kV _ _ _;have hE:dE c p x.turns=if (iD c p x.turns.toNat).d=0 then 6 else 0:=by
  unfold dE;rw[h1,h2];have:Ix.btw 0 7 x.turns=true:=by simp[Ix.btw];omega
  simp[this]
 obtain⟨q,hq⟩:∃q,iD c p x.turns.toNat=q:=⟨_,rfl⟩;rw[hE] at hd;unfold iB;rw[hq] at hd hsm ⊢;simp[go_sem];refine fD (S:=[(0,kp gt),(1,.i n),(5,.ptr 0 0 2 0),(6,.ptr 1 0 6 0),(7,.ptr 2 0 6 0)]) (l:=[some (.box [.w p.c,.w p.m]),some (.box [.r (.v (.int .u8 0)),.i 0,.i 0,.i 0,.i 0,.i 0]),some (.box [.r (.v (.int .u8 2)),.i 1,.i 0,.i x.num,.i x.den,.i (-1)])]) (n:=3)
  (t:=(.take 0 (.take 1 (.take 2 (.take 3 (.take 4 (.take 5 (.take 6 (.take 7 (.take 8 (.take 9 (.take 10 (.take 11 (.take 12 (.take 13 (.take 14 (.alt 15 [14,13,12,11,10,9,8,7,6,5,4,3,2,1,0] (.alt 16 [14,13,12,11,10,9,8,7,6,5,4,3,2,1,0] (.done []) .nil) .nil))))))))))))))))) aD κ κ κ (λ_ _ _ _ h=>h) rfl ?_ ?_
 ·simp[go_sem,g0,g1]
 intro J;simp[go_sem];refine aE aD κ κ ?_;simp[go_sem,g2,g9,hlt,hrow];by_cases h0:q.d=0
 ·rw[if_pos h0] at hd;refine⟨_,aB hd rfl rfl,?_⟩;simp[go_sem,h0]
 ·rw[if_neg h0] at hd;refine⟨_,aB hd rfl rfl,?_⟩;have s1:=hsm.n;have s2:=hsm.d;have m1:=xG (a:=(q.n:Int)) (b:=x.den) (m:=64) (n:=127) ⟨ω,ω⟩ ⟨ω,d2⟩ δ;have m2:=xG (a:=x.num) (b:=(q.d:Int)) (m:=127) (n:=64) ⟨ω,ω⟩ ⟨ω,ω⟩ δ;simp[go_sem,h0];exact⟨⟨ω,ω⟩,ω,ω⟩
theorem qD (x:SvG) (k:Int) (o:OrG) (r:RsG) (hl:x.lg.length<1000000) (hx:aAf x.lg x.now) (hk:0<=k/\k<=7) (ha:0<=o.a/\o.a<=63) (hr:r.good=true) :
 OwnS Tryz.prog 1 342 [.box x.cells] [.ptr 0 0 17 0,.i k,o.sv,r.sv] (mT (rQ x k o.a r o.s)) [.box (rQ x k o.a r o.s).1.cells]:=by
 refine bE aD Tryz.func342 rfl κ ν rfl rfl 1 (Nat.le_refl _) ?_;have hs:=aCd x k o.a r o.s hl hx hk ha hr;have hd:=(RsG.good_in hr).1;unfold aW5 at hs;unfold rQ;simp[go_sem];by_cases h60:x.lg.length=60
 ·rw[if_pos h60,if_pos h60] at hs;refine aR [0] hs (Nat.le_refl _) τ rfl ⟨rfl,trivial⟩ ?_;simp[go_sem,h60,bad];exact⟨[0],⟨rfl,trivial⟩,τ,λN=>⟨ζ,by simp[go_sem,h60]⟩⟩
 ·rw[if_neg h60,if_neg h60] at hs;refine aR [0] hs (Nat.le_refl _) τ rfl ⟨rfl,trivial⟩ ?_;have e8:IntKind.i64.wrap r.d=r.d:=bX ⟨ω,ω⟩;simp[go_sem,h60,oD];exact⟨[0],⟨rfl,trivial⟩,τ,λN=>⟨by simp[go_sem,e8],ζ⟩⟩
theorem jS {x:SvG} (hv:x.setB=true) (c p:IrG):(iB x c p).good=true:=by
 simp only [SvG.setB,Ix.btw,Bool.and_eq_true,decide_eq_true_eq] at hv;obtain⟨⟨⟨⟨d1,d2⟩,n1,n2⟩,_⟩,_⟩:=hv;have hsm:(iD c p x.turns.toNat).Sm:=kV _ _ _;have s1:=hsm.n;have s2:=hsm.d;unfold iB;generalize iD c p x.turns.toNat=q at s1 s2;dsimp only;split
 ·simp only [RsG.good,RsG.okd,jA,Ix.btw,Bool.and_eq_true,decide_eq_true_eq];omega
 ·split <;> (simp only [RsG.good,RsG.okd,jA,Ix.btw,Bool.and_eq_true,decide_eq_true_eq];omega)
end Go.Gx.Sr
namespace Go.Gx
open Go.RowKit Go.WideShapes Go.ChangeShapes Go.Proofs Go.Proofs.YtncccnmmjfapnaaGreat
abbrev oB:CS:=.sc (.int .i64)
abbrev csB:CS:=.sc .bool
abbrev aJw (l:List CS):CS:=.sl l.length λj=>l.getD j (.sc .bool)
section
variable {W:World}
abbrev ZW (W:World):Nat->Prop:=λb=>b<W.heap.size
def vb:Value->Bool
 | .bool b=>b
 | _=>false
theorem aKu {v:Value} (h:jG W csB v):v=.bool (vb v):=by
 obtain⟨b,rfl⟩:=h;rfl
theorem bN {k:IntKind} {v:Value} (h:jG W (.sc (.int k)) v):v.oneCell'=true:=by rw[mN h];rfl
theorem bAa {v:Value} (h:jG W csB v):v.oneCell'=true:=by rw[aKu h];rfl
theorem cH {Z:Nat->Prop} {v:Value} (h:jG W oB v):(RV.i (vi v)).rel Z W v:=mN h
theorem aY4 {Z:Nat->Prop} {v:Value} (h:jG W csB v):(RV.v (.bool (vb v))).rel Z W v:=aKu h
theorem aZg {k:Nat} {fs:Nat->CS} {v:Value} (h:jG W (.sl k fs) v):v.oneCell'=true:=by
 obtain⟨A,n,c,rfl,_⟩:=h;rfl
end
end Go.Gx
namespace Go.Gx
open Go.RowKit Go.Proofs Go.Proofs.YtncccnmmjfapnaaGreat
@[go_sem]theorem bEi (b:Nat) (e:TypeId):TI.zeroV ⟨1,b,[.sl],.slice e⟩=.slice none 0 0:=rfl
@[go_sem]theorem bDm (b:Nat) (k:IntKind):TI.zeroV ⟨1,b,[.i k],.int k⟩=.int k 0:=rfl
theorem uE {a b c d:Int}:cU a b c d=true↔a<c\/a=c/\b<d:=by simp[cU]
def aEw (n:Nat) (x y:Nat->Int):Prop:=∀a b,a<b->b<n->cU (x a) (y a) (x b) (y b)=true
def ins {α:Type} (k:Nat) (v:α) (x:Nat->α):Nat->α:=λj=>if j<k then x j else if j=k then v else x (j - 1)
theorem aG3 {n k:Nat} {x y:Nat->Int} {p q:Int} (h:aEw n x y) (hk:k<=n) (h1:∀j,j<k->cU (x j) (y j) p q=true) (h2:∀j,k<=j->j<n->cU p q (x j) (y j)=true) :
 aEw (n+1) (ins k p x) (ins k q y):=by
 intro a b hab hb;unfold ins;by_cases b1:b<k
 ·rw[if_pos ω,if_pos ω,if_pos b1,if_pos b1];exact h a b hab ω
 by_cases b2:b=k
 ·subst b2;simp only [if_neg b1,if_true,if_pos hab];exact h1 a hab
 ·simp only [if_neg b1,if_neg b2];by_cases a1:a<k
  ·simp only [if_pos a1];exact gL (h1 a a1) (h2 (b - 1) ω ω)
  by_cases a2:a=k
  ·subst a2;simp only [if_neg a1,if_true];exact h2 (b - 1) ω ω
  ·simp only [if_neg a1,if_neg a2];exact h (a - 1) (b - 1) ω ω
def del {α:Type} (k:Nat) (x:Nat->α):Nat->α:=λj=>if j<k then x j else x (j+1)
theorem aE7 {n k:Nat} {x y:Nat->Int} (h:aEw n x y):aEw (n - 1) (del k x) (del k y):=by
 intro a b hab hb;unfold del;by_cases b1:b<k
 ·simp only [if_pos b1,if_pos (show a<k by omega)];exact h a b hab ω
 ·simp only [if_neg b1];by_cases a1:a<k
  ·simp only [if_pos a1];exact h a (b+1) ω ω
  ·simp only [if_neg a1];exact h (a+1) (b+1) ω ω
theorem aSr {p:Nat->Bool} {n i j:Nat} (hij:i<j) (hj:j<(kept p n).length):(kept p n)[i]?.getD 0<(kept p n)[j]?.getD 0:=by
 have h:(kept p n).Pairwise (·<·):=List.Pairwise.filter _ List.pairwise_lt_range;rw[List.getElem?_eq_getElem hj,List.getElem?_eq_getElem (ω:i<(kept p n).length)];exact List.pairwise_iff_getElem.1 h i j ω hj hij
theorem aDw {p:Nat->Bool} {n i:Nat} (hi:i<(kept p n).length):(kept p n)[i]?.getD 0<n/\p ((kept p n)[i]?.getD 0)=false:=by
 rw[List.getElem?_eq_getElem hi,Option.getD_some];have:=List.mem_filter.1 (List.getElem_mem hi);exact⟨List.mem_range.1 this.1,by simpa using this.2⟩
theorem aCb {n:Nat} {x y:Nat->Int} {p:Nat->Bool} (h:aEw n x y):aEw (kept p n).length (λi=>x ((kept p n)[i]?.getD 0)) (λi=>y ((kept p n)[i]?.getD 0)):=
 λa b hab hb=>h _ _ (aSr hab hb) (aDw hb).1
theorem uZ {c:Nat->Int} {n j:Nat} (h:j<cA c n):c j<0:=by
 unfold cA at h
 cases hf:(List.range n).find? λi=>decide (0<=c i) with
 | none=>
   rw[hf] at h;have:=List.find?_eq_none.1 hf j (List.mem_range.2 h);simp at this;omega
 | some i=>
   rw[hf] at h;have:=(List.find?_range_eq_some.1 hf).2.2 j h;simp at this;omega
theorem tQ {c:Nat->Int} {n:Nat} (h:cA c n<n):0<=c (cA c n):=by
 unfold cA at h ⊢
 cases hf:(List.range n).find? λi=>decide (0<=c i) with
 | none=>rw[hf] at h;simp at h
 | some i=>
   have:=(List.find?_range_eq_some.1 hf).1;simpa using this
theorem aKs {n:Nat} {x y:Nat->Int} {p q:Int} (h:aEw n x y) (hf:cM (λi=>cT (x i) (y i) p q) n=false) :
 (∀j,j<cA (λi=>cT (x i) (y i) p q) n->cU (x j) (y j) p q=true)/\∀j,cA (λi=>cT (x i) (y i) p q) n<=j->j<n->cU p q (x j) (y j)=true:=by
 refine⟨λj hj=>dN.1 (uZ hj),λj hj hn=>?_⟩;have hno:∀j,j<n->¬(x j=p/\y j=q):=λj hj he=>by
  have:=(kX (n:=n) (x:=x) (y:=y) h).2 ⟨j,hj,he.1,he.2⟩;rw[hf] at this;cases this
 have h0:=tQ (c:=λi=>cT (x i) (y i) p q) (n:=n) ω;have key:∀i,i<n->0<=cT (x i) (y i) p q->cU p q (x i) (y i)=true:=λi hi h0=>by
  have e:=hno i hi;rw[uE];have hneg:¬(x i<p\/x i=p/\y i<q):=λhc=>by
   have:=dN.2 (uE.2 hc);omega
  omega
 rcases Nat.lt_or_ge (cA (λi=>cT (x i) (y i) p q) n) j with hl | hl
 ·exact gL (key _ ω h0) (h _ _ hl hn)
 ·have:j=cA (λi=>cT (x i) (y i) p q) n:=ω;rw[this];exact key _ ω h0
structure EG.Val (g:EG):Prop where
 nr:g.nr<=24
 nc:g.nc<=40
 qu:∀i,i<g.nr->0<=(g.r i).q/\(g.r i).q<=100
 ls:aEw g.nl (λi=>(g.l i).a) (λi=>(g.l i).b)
 lp:∀i,i<g.nl->g.th (g.l i).a=true/\g.th (g.l i).b=true/\(g.l i).a<(g.l i).b
 cs:aEw g.nc (λi=>(g.c i).a) (λi=>(g.c i).b)
 cp:∀i,i<g.nc->g.th (g.c i).a=true/\g.th (g.c i).b=true/\(g.c i).a<(g.c i).b
 cl:∀i j,i<g.nc->j<g.nl->¬((g.l j).a=(g.c i).a/\(g.l j).b=(g.c i).b)
 cv:∀i,i<g.nc->gB (g.c i).nv (g.c i).v=true
 ld:∀i,i<g.nl->(g.l i).s=false->¬g.Con g.nl (g.l i).a (g.l i).b
theorem EG.val_iff {g:EG}:g.valid=true↔g.Val:=by
 rw[<- EG.pval_eq];constructor
 ·intro h;simp only [EG.pval,Bool.and_eq_true,decide_eq_true_eq] at h;obtain⟨⟨⟨⟨⟨⟨h1,h2⟩,h3⟩,h4⟩,h5⟩,h6⟩,h7⟩:=h;have hl:=EG.lks_sorted h4;refine⟨h1,h2,λi hi=>?_,hl,λi hi=>?_,EG.cos_sorted h5,λi hi=>?_,λi j hi hj he=>?_,λi hi=>?_,λi hi hs hc=>?_⟩
  ·have:=gX h3 hi;simpa [btw] using this
  ·have:=gX h4 hi;simp only [EG.lk1,EG.prB,Bool.and_eq_true,decide_eq_true_eq] at this;exact⟨this.1.1.1,this.1.1.2,this.1.2⟩
  ·have:=gX h5 hi;simp only [EG.co1,EG.prB,Bool.and_eq_true,decide_eq_true_eq] at this;exact⟨this.1.1.1,this.1.1.2,this.1.2⟩
  ·have:=gX h6 hi;simp only [EG.cs2,Bool.and_eq_true,Bool.not_eq_true'] at this;have h9:g.lin (g.c i).a (g.c i).b=true:=(kX (x:=λi=>(g.l i).a) (y:=λi=>(g.l i).b) hl).2 ⟨j,hj,he.1,he.2⟩;rw[this.1] at h9;cases h9
  ·have:=gX h6 hi;simp only [EG.cs2,Bool.and_eq_true] at this;exact this.2
  ·have:=gX h7 hi;simp only [EG.lk2,hs,Bool.false_or,Bool.not_eq_true',decide_eq_false_iff_not] at this;exact this (EG.con_iff.1 hc)
 ·intro h;simp only [EG.pval,Bool.and_eq_true,decide_eq_true_eq];refine⟨⟨⟨⟨⟨⟨h.nr,h.nc⟩,cE λi hi=>?_⟩,cE λi hi=>?_⟩,cE λi hi=>?_⟩,cE λi hi=>?_⟩,cE λi hi=>?_⟩
  ·have:=h.qu i hi;simpa [btw] using this
  ·have:=h.lp i hi;simp only [EG.lk1,EG.prB,Bool.and_eq_true,Bool.or_eq_true,decide_eq_true_eq];refine⟨⟨⟨this.1,this.2.1⟩,this.2.2⟩,?_⟩;by_cases e:i=0
   ·exact .inl e
   ·exact .inr (h.ls (i - 1) i ω hi)
  ·have:=h.cp i hi;simp only [EG.co1,EG.prB,Bool.and_eq_true,Bool.or_eq_true,decide_eq_true_eq];refine⟨⟨⟨this.1,this.2.1⟩,this.2.2⟩,?_⟩;by_cases e:i=0
   ·exact .inl e
   ·exact .inr (h.cs (i - 1) i ω hi)
  ·simp only [EG.cs2,Bool.and_eq_true,Bool.not_eq_true'];refine⟨?_,h.cv i hi⟩
   cases hf:g.lin (g.c i).a (g.c i).b with
   | false=>rfl
   | true=>
     obtain⟨j,hj,e1,e2⟩:=(kX (x:=λi=>(g.l i).a) (y:=λi=>(g.l i).b) h.ls).1 hf;exact absurd ⟨e1,e2⟩ (h.cl i j hi hj)
  ·cases hs:(g.l i).s with
   | true=>simp[EG.lk2,hs]
   | false=>
     simp only [EG.lk2,hs,Bool.false_or,Bool.not_eq_true',decide_eq_false_iff_not];exact λe=>h.ld i hi hs (EG.con_iff.2 e)
theorem EG.Con.map {g h:EG} {m n:Nat} (ha:∀x y,g.adj m x y->h.adj n x y) {x y:Int} (hc:g.Con m x y):h.Con n x y:=by
 induction hc with
 | refl=>exact .refl _
 | step _ a ih=>exact .step ih (ha _ _ a)
end Go.Gx
