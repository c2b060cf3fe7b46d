/-
 Texts of the walk, merged: Ia Ib Ic Id Ie If Ig Ks Kv.
-/
import Derived.Test.YtncccnmmjfapnaaGreatZag
import Derived.Test.YtncccnmmjfapnaaGreatZah
import Derived.Lib.BitFns
set_option linter.unusedVariables false
set_option linter.unusedSimpArgs false
set_option maxRecDepth 100000
set_option maxHeartbeats 4000000
namespace Go.Gx.Ix
open Go.RowKit Go.Proofs Go.Proofs.YtncccnmmjfapnaaGreat
abbrev _root_.Go.Gx.RV.w (x:BitVec 64):RV:=.v (.int .u64 x.toNat)
abbrev _root_.Go.Gx.SV.w (x:BitVec 64):SV:=.r (.w x)
abbrev _root_.Go.Gx.SV.h (x:BitVec 16):SV:=.r (.v (.int .u16 x.toNat))
abbrev _root_.Go.Gx.RV.y (x:BitVec 8):RV:=.v (.int .u8 x.toNat)
abbrev _root_.Go.Gx.SV.y (x:BitVec 8):SV:=.r (.y x)
@[go_sem]theorem tM (z:BitVec 64):IntKind.u64.wrap (z.toNat:Int)=z.toNat:=by
  have:=z.isLt;simp only [IntKind.wrap,IntKind.bits,IntKind.signed];simp;omega
@[go_sem]theorem aT2 (z:BitVec 16):IntKind.u16.wrap (z.toNat:Int)=z.toNat:=by
  have:=z.isLt;simp only [IntKind.wrap,IntKind.bits,IntKind.signed];simp;omega
@[go_sem]theorem tN (z:BitVec 8):IntKind.u8.wrap (z.toNat:Int)=z.toNat:=by
  have:=z.isLt;simp only [IntKind.wrap,IntKind.bits,IntKind.signed];simp;omega
theorem toNat_inj {n:Nat} (x y:BitVec n):((x.toNat:Int)=y.toNat)↔x=y:=by
 constructor
 ·intro h;exact BitVec.eq_of_toNat_eq ω
 ·rintro rfl;rfl
theorem kP {n:Nat} (x:BitVec n):x.toNat=0↔x=0#n:=by
 constructor
 ·intro h;exact BitVec.eq_of_toNat_eq (by simpa using h)
 ·rintro rfl;rfl
def cA (x:BitVec 64) (n:Nat):BitVec 64:=x >>> n
def bT (x:BitVec 64) (n:Nat):BitVec 64:=x <<< n
def aGo (x:BitVec 16) (n:Nat):BitVec 16:=x >>> n
def zM (x:BitVec 16) (n:Nat):BitVec 16:=x <<< n
def uS (x:BitVec 64):BitVec 16:=x.setWidth 16
def to8 (x:BitVec 64):BitVec 8:=x.setWidth 8
def aXy (x:BitVec 16):BitVec 64:=x.setWidth 64
def bJ (x y:BitVec 64):BitVec 64:=x &&& y
def iV (x y:BitVec 64):BitVec 64:=x ||| y
def bY (x y:BitVec 64):BitVec 64:=x ^^^ y
def cR (x y:BitVec 64):BitVec 64:=x &&& ~~~y
def sC (x y:BitVec 64):BitVec 64:=x+y
def dB (x y:BitVec 64):Prop:=x.toNat+y.toNat<18446744073709551616
def aSj (x y:BitVec 16):BitVec 16:=x ||| y
def qG (x y:BitVec 8):BitVec 8:=x &&& y
def aJq (x y:BitVec 8):BitVec 8:=x ^^^ y
theorem aQz (a b:Int):mM .and (.r (.v (.int .u64 a))) (.r (.v (.int .u64 b)))=.pure True (.w (bJ (BitVec.ofInt 64 a) (BitVec.ofInt 64 b))):=by
 show GR.pure _ (.r (.v (.int .u64 (IntKind.u64.wrap ((BitVec.ofInt 64 a &&& BitVec.ofInt 64 b).toNat:Int)))))=_;rw[tM];simp;rfl
theorem aKm (a b:Int):mM .or (.r (.v (.int .u64 a))) (.r (.v (.int .u64 b)))=.pure True (.w (iV (BitVec.ofInt 64 a) (BitVec.ofInt 64 b))):=by
 show GR.pure _ (.r (.v (.int .u64 (IntKind.u64.wrap ((BitVec.ofInt 64 a ||| BitVec.ofInt 64 b).toNat:Int)))))=_;rw[tM];simp;rfl
theorem aRg (a b:Int):mM .xor (.r (.v (.int .u64 a))) (.r (.v (.int .u64 b)))=.pure True (.w (bY (BitVec.ofInt 64 a) (BitVec.ofInt 64 b))):=by
 show GR.pure _ (.r (.v (.int .u64 (IntKind.u64.wrap ((BitVec.ofInt 64 a ^^^ BitVec.ofInt 64 b).toNat:Int)))))=_;rw[tM];simp;rfl
theorem vC (a b:Int):mM .andNot (.r (.v (.int .u64 a))) (.r (.v (.int .u64 b)))=.pure True (.w (cR (BitVec.ofInt 64 a) (BitVec.ofInt 64 b))):=by
 show GR.pure _ (.r (.v (.int .u64 (IntKind.u64.wrap ((cR (BitVec.ofInt 64 a) (BitVec.ofInt 64 b)).toNat:Int)))))=_;rw[tM];simp
theorem aVw (a b:Int):mM .or (.r (.v (.int .u16 a))) (.r (.v (.int .u16 b)))=.pure True (.h (aSj (BitVec.ofInt 16 a) (BitVec.ofInt 16 b))):=by
 show GR.pure _ (.r (.v (.int .u16 (IntKind.u16.wrap ((BitVec.ofInt 16 a ||| BitVec.ofInt 16 b).toNat:Int)))))=_;rw[aT2];simp;rfl
def aO6 (a b:Int):Int:=IntKind.i64.wrap ((BitVec.ofInt 64 a &&& BitVec.ofInt 64 b).toNat:Nat)
theorem aQy (a b:Int):mM .and (.r (.v (.int .i64 a))) (.r (.v (.int .i64 b)))=.pure True (.r (.v (.int .i64 (aO6 a b)))):=by
 show GR.pure _ (.r (.v (.int .i64 (aO6 a b))))=_;simp
theorem aQx (x y:BitVec 64):mM .add (.r (.v (.int .u64 x.toNat))) (.r (.v (.int .u64 y.toNat)))=.pure (IntKind.u64=IntKind.u64/\inr .u64 ((x.toNat:Int)+y.toNat)) (.r (.v (.int .u64 ((x.toNat:Int)+y.toNat)))):=rfl
theorem rW (a:Nat):IntKind.u64.wrap (a:Int)=(BitVec.ofNat 64 a).toNat:=by
 simp[IntKind.wrap,IntKind.bits,IntKind.signed]
theorem aAb (a:Nat):IntKind.u16.wrap (a:Int)=(BitVec.ofNat 16 a).toNat:=by
 simp[IntKind.wrap,IntKind.bits,IntKind.signed]
theorem aK8 {w:Nat} (x n:Nat):x*2 ^ min n w % 2 ^ w=x <<< n % 2 ^ w:=by
 rw[Nat.shiftLeft_eq];rcases Nat.le_total n w with h | h
 ·rw[Nat.min_eq_left h]
 ·rw[Nat.min_eq_right h];have h2:2 ^ n=2 ^ (n - w)*2 ^ w:=by rw[<- Nat.pow_add];congr 1;omega
  rw[h2,<- Nat.mul_assoc];simp
theorem yH (x:BitVec 64) (k:IntKind) (b:Int):mM .shl (.r (.v (.int .u64 x.toNat))) (.r (.v (.int k b)))=.pure (0<=b) (.w (bT x b.toNat)):=by
 show GR.pure _ (.r (.v (.int .u64 (IntKind.u64.wrap (((x.toNat:Int)*2 ^ min b.toNat 64))))))=_;have h:IntKind.u64.wrap ((x.toNat:Int)*2 ^ min b.toNat 64)=((bT x b.toNat).toNat:Int):=by
  rw[show((x.toNat:Int)*2 ^ min b.toNat 64)=((x.toNat*2 ^ min b.toNat 64:Nat):Int) from τ,rW];simp only [BitVec.toNat_ofNat,bT,BitVec.toNat_shiftLeft];exact congrArg _ (aK8 (w:=64) _ _)
 rw[h]
theorem aRb (x:BitVec 16) (k:IntKind) (b:Int):mM .shl (.r (.v (.int .u16 x.toNat))) (.r (.v (.int k b)))=.pure (0<=b) (.h (zM x b.toNat)):=by
 show GR.pure _ (.r (.v (.int .u16 (IntKind.u16.wrap (((x.toNat:Int)*2 ^ min b.toNat 16))))))=_;have h:IntKind.u16.wrap ((x.toNat:Int)*2 ^ min b.toNat 16)=((zM x b.toNat).toNat:Int):=by
  rw[show((x.toNat:Int)*2 ^ min b.toNat 16)=((x.toNat*2 ^ min b.toNat 16:Nat):Int) from τ,aAb];simp only [BitVec.toNat_ofNat,zM,BitVec.toNat_shiftLeft];exact congrArg _ (aK8 (w:=16) _ _)
 rw[h]
theorem xV (a n:Nat):((a:Int)).fdiv (2 ^ n)=((a / 2 ^ n:Nat):Int):=by
 rw[Int.fdiv_eq_ediv_of_nonneg _ (Int.le_of_lt (Int.pow_pos δ))];simp
theorem aD5 {w x n:Nat} (hx:x<2 ^ w):x / 2 ^ min n w=x >>> n:=by
 rw[Nat.shiftRight_eq_div_pow];rcases Nat.le_total n w with h | h
 ·rw[Nat.min_eq_left h]
 ·rw[Nat.min_eq_right h,Nat.div_eq_of_lt hx,Nat.div_eq_of_lt (Nat.lt_of_lt_of_le hx (Nat.pow_le_pow_right δ h))]
theorem bAe (x:BitVec 64) (n:Nat):((x.toNat:Int)).fdiv (2 ^ min n 64)=(cA x n).toNat:=by rw[xV,aD5 (w:=64) x.isLt];rfl
theorem aRd (x:BitVec 64) (k:IntKind) (b:Int):mM .shr (.r (.v (.int .u64 x.toNat))) (.r (.v (.int k b)))=.pure (0<=b) (.w (cA x b.toNat)):=by
 show GR.pure _ (.r (.v (.int .u64 (((x.toNat:Int)).fdiv (2 ^ min b.toNat 64)))))=_;rw[xV,aD5 (w:=64) x.isLt];rfl
theorem aRc (x:BitVec 16) (k:IntKind) (b:Int):mM .shr (.r (.v (.int .u16 x.toNat))) (.r (.v (.int k b)))=.pure (0<=b) (.h (aGo x b.toNat)):=by
 show GR.pure _ (.r (.v (.int .u16 (((x.toNat:Int)).fdiv (2 ^ min b.toNat 16)))))=_;rw[xV,aD5 (w:=16) x.isLt];rfl
def GBn (P:Program) (T:Tab) (N:cZ) (op:BinOp) (t t2:TypeId) (ox oy:Operand) (x y:SV) (d:Option Tmp) (ty:TypeId) (pos:String) (af:Array Edge) (all:Array Oper) (rest:List Oper) (k:List It) (Q:GQ) (E:Env) (M:Mem) (nx:Nat):Prop:=
 cO P T N ⟨d,.binOp op t ox oy t2,ty,pos,af,none⟩ (lD T op t x y) d all rest k Q E M nx
section
variable {P:Program} {T:Tab} {N:cZ} {t t2:TypeId} {ox oy:Operand} {d:Option Tmp} {ty:TypeId} {pos:String} {af:Array Edge} {all:Array Oper} {rest:List Oper} {k:List It} {Q:GQ} {E:Env} {M:Mem} {nx:Nat}
@[go_sem high]theorem bCk (op:BinOp) (t:TypeId) (x y:Operand) (t2:TypeId):GO P T N all (⟨d,.binOp op t x y t2,ty,pos,af,none⟩::rest) k Q E M nx=(dC N.n d/\GBn P T N op t t2 x y (ev E x) (ev E y) d ty pos af all rest k Q E M nx):=(rfl)
@[go_sem low]theorem bG3 (op:BinOp) (x y:SV):GBn P T N op t t2 ox oy x y d ty pos af all rest k Q E M nx=cO P T N ⟨d,.binOp op t ox oy t2,ty,pos,af,none⟩ (lD T op t x y) d all rest k Q E M nx:=(rfl)
theorem iR {op:BinOp} {x y s:SV} {ob:Prop} (h:mM op x y=.pure ob s):GBn P T N op t t2 ox oy x y d ty pos af all rest k Q E M nx=(ob/\GO P T N all rest k Q (aK E d s) M nx):=by
 unfold GBn lD;rw[h];rfl
@[go_sem]theorem bCb (a b:Int):GBn P T N .and t t2 ox oy (.r (.v (.int .u64 a))) (.r (.v (.int .u64 b))) d ty pos af all rest k Q E M nx=GO P T N all rest k Q (aK E d (.w (bJ (BitVec.ofInt 64 a) (BitVec.ofInt 64 b)))) M nx:=by rw[iR (aQz a b)];simp
@[go_sem]theorem bCa (x y:BitVec 64):GBn P T N .add t t2 ox oy (.r (.v (.int .u64 x.toNat))) (.r (.v (.int .u64 y.toNat))) d ty pos af all rest k Q E M nx=(dB x y/\GO P T N all rest k Q (aK E d (.w (sC x y))) M nx):=by
  rw[iR (aQx x y)];have e:(IntKind.u64=IntKind.u64/\inr .u64 ((x.toNat:Int)+y.toNat))=dB x y:=by
   simp only [inr,dB,true_and,eq_iff_iff];omega
  rw[e];have h:dB x y->((x.toNat:Int)+y.toNat)=(sC x y).toNat:=λh=>by
   unfold dB at h;unfold sC;rw[BitVec.toNat_add];omega
  apply propext;constructor
  ·rintro⟨h1,h2⟩;exact⟨h1,by rw[h h1] at h2;exact h2⟩
  ·rintro⟨h1,h2⟩;exact⟨h1,by rw[h h1];exact h2⟩
@[go_sem]theorem bDr (a b:Int):GBn P T N .and t t2 ox oy (.r (.v (.int .i64 a))) (.r (.v (.int .i64 b))) d ty pos af all rest k Q E M nx=GO P T N all rest k Q (aK E d (.r (.v (.int .i64 (aO6 a b))))) M nx:=by
  rw[iR (aQy a b)];simp
@[go_sem]theorem bDt (a b:Int):GBn P T N .or t t2 ox oy (.r (.v (.int .u64 a))) (.r (.v (.int .u64 b))) d ty pos af all rest k Q E M nx=GO P T N all rest k Q (aK E d (.w (iV (BitVec.ofInt 64 a) (BitVec.ofInt 64 b)))) M nx:=by rw[iR (aKm a b)];simp
@[go_sem]theorem bCg (a b:Int):GBn P T N .xor t t2 ox oy (.r (.v (.int .u64 a))) (.r (.v (.int .u64 b))) d ty pos af all rest k Q E M nx=GO P T N all rest k Q (aK E d (.w (bY (BitVec.ofInt 64 a) (BitVec.ofInt 64 b)))) M nx:=by rw[iR (aRg a b)];simp
@[go_sem]theorem aUd (a b:Int):GBn P T N .andNot t t2 ox oy (.r (.v (.int .u64 a))) (.r (.v (.int .u64 b))) d ty pos af all rest k Q E M nx=GO P T N all rest k Q (aK E d (.w (cR (BitVec.ofInt 64 a) (BitVec.ofInt 64 b)))) M nx:=by rw[iR (vC a b)];simp
@[go_sem]theorem bDs (a b:Int):GBn P T N .or t t2 ox oy (.r (.v (.int .u16 a))) (.r (.v (.int .u16 b))) d ty pos af all rest k Q E M nx=GO P T N all rest k Q (aK E d (.h (aSj (BitVec.ofInt 16 a) (BitVec.ofInt 16 b)))) M nx:=by rw[iR (aVw a b)];simp
@[go_sem]theorem aLo (x:BitVec 64) (kk:IntKind) (b:Int):GBn P T N .shl t t2 ox oy (.r (.v (.int .u64 x.toNat))) (.r (.v (.int kk b))) d ty pos af all rest k Q E M nx=(0<=b/\GO P T N all rest k Q (aK E d (.w (bT x b.toNat))) M nx):=iR (yH x kk b)
@[go_sem]theorem bCd (x:BitVec 16) (kk:IntKind) (b:Int):GBn P T N .shl t t2 ox oy (.r (.v (.int .u16 x.toNat))) (.r (.v (.int kk b))) d ty pos af all rest k Q E M nx=(0<=b/\GO P T N all rest k Q (aK E d (.h (zM x b.toNat))) M nx):=iR (aRb x kk b)
@[go_sem]theorem bCf (x:BitVec 64) (kk:IntKind) (b:Int):GBn P T N .shr t t2 ox oy (.r (.v (.int .u64 x.toNat))) (.r (.v (.int kk b))) d ty pos af all rest k Q E M nx=(0<=b/\GO P T N all rest k Q (aK E d (.w (cA x b.toNat))) M nx):=iR (aRd x kk b)
@[go_sem]theorem bCe (x:BitVec 16) (kk:IntKind) (b:Int):GBn P T N .shr t t2 ox oy (.r (.v (.int .u16 x.toNat))) (.r (.v (.int kk b))) d ty pos af all rest k Q E M nx=(0<=b/\GO P T N all rest k Q (aK E d (.h (aGo x b.toNat))) M nx):=iR (aRc x kk b)
end
@[go_sem]theorem bDm (x:BitVec 64):IntKind.u16.wrap (x.toNat:Int)=(uS x).toNat:=by
  rw[aAb];simp[uS]
@[go_sem]theorem bGz (x:BitVec 64):IntKind.u8.wrap (x.toNat:Int)=(to8 x).toNat:=by
  simp[IntKind.wrap,IntKind.bits,IntKind.signed,to8]
@[go_sem]theorem bDn (x:BitVec 16):IntKind.u64.wrap (x.toNat:Int)=(aXy x).toNat:=by
  rw[rW];simp[aXy]
def vI (c m:BitVec 64):Bool:=decide (cR c m=0#64)
theorem mJ (c m:BitVec 64):Pure Tryz.prog 56 [.agg [.w c,.w m]] (· =.i (if vI c m then 0 else 30)):=by
 refine π Tryz.func56 ?_;by_cases h:cR c m=0#64 <;> simp[go_sem,vI,h,kP]
theorem tL (c m:BitVec 64):Pure Tryz.prog 179 [.agg [.w c,.w m]] (· =.b (vI c m)):=by
 refine π Tryz.func179 ?_;by_cases h:cR c m=0#64 <;> simp[go_sem,vI,h,kP]
def btw (lo hi n:Int):Bool:=decide (lo<=n)&&decide (n<=hi)
theorem mC (n lo hi:Int):Pure Tryz.prog 69 [.i n,.i lo,.i hi] (· =.b (btw lo hi n)):=by
 refine π Tryz.func69 ?_;by_cases h:lo<=n <;> simp[go_sem,btw,h]
theorem aTy (n lo hi:Int):Pure Tryz.prog 266 [.i n,.i lo,.i hi] (· =.b (btw lo hi n)):=by
 refine π Tryz.func266 ?_;by_cases h:lo<=n <;> simp[go_sem,btw,h]
def vL (num den:Int):Bool:=btw 0 den num&&btw 1 1000 den
theorem aWh (num den:Int):Pure Tryz.prog 158 [.agg [.i num,.i den]] (· =.b (vL num den)):=by
 refine π Tryz.func158 ?_;by_cases h1:0<=num
 ·by_cases h2:num<=den
  ·simp[go_sem,h1,h2];refine aA (aTy den 1 1000) rfl rfl ?_;simp[go_sem,vL,btw,h1,h2]
  ·simp[go_sem,h1,h2,vL,btw]
 ·simp[go_sem,h1,vL,btw]
def qS (x:BitVec 16) (n:Nat):BitVec 16:=aSj (zM x n) (aGo x (16 - n))
theorem bEt (k:Int):bJ (BitVec.ofInt 64 (IntKind.u64.wrap k)) 15#64=BitVec.ofNat 64 (k % 16).toNat:=by
 apply BitVec.eq_of_toNat_eq;unfold bJ;rw[BitVec.toNat_and];have h1:(15#64).toNat=2 ^ 4 - 1:=rfl;rw[h1,Nat.and_two_pow_sub_one_eq_mod];have h2:IntKind.u64.wrap k=k % 18446744073709551616:=by simp[IntKind.wrap,IntKind.bits,IntKind.signed]
 rw[h2];simp only [BitVec.toNat_ofInt,BitVec.toNat_ofNat];have:0<=k % 16/\k % 16<16:=⟨Int.emod_nonneg _ δ,Int.emod_lt_of_pos _ δ⟩;omega
theorem bBm (x:BitVec 16) (k:Int):Pure Tryz.prog 352 [.h x,.i k] (· =.h (qS x (k % 16).toNat)):=by
 refine π Tryz.func352 ?_;have hk:(k % 16).toNat<16:=by have:=Int.emod_lt_of_pos k (show(0:Int)<16 by decide);have:=Int.emod_nonneg k (show(16:Int)≠0 by decide);omega
 generalize hn:(k % 16).toNat=n at hk;have h1:=bEt k;rw[hn] at h1;have h3:n % 18446744073709551616=n:=ω;have h4:((16:Int) - n).toNat=16 - n:=ω;have h5:(n:Int)<=16:=ω;simp[go_sem,h1,h3,h4,h5,qS];omega
def sw1 (x:BitVec 64):BitVec 64:=sC (bJ (cA x 1) 6148914691236517205#64) (bJ x 6148914691236517205#64)
def sw2 (x:BitVec 64):BitVec 64:=sC (bJ (cA x 2) 3689348814741910323#64) (bJ x 3689348814741910323#64)
def sw3 (x:BitVec 64):BitVec 64:=bJ (sC (cA x 4) x) 1085102592571150095#64
def sw4 (x:BitVec 64) (n:Nat):BitVec 64:=sC x (cA x n)
theorem aT1 (n:Int):IntKind.i64.wrap n=n % 18446744073709551616\/IntKind.i64.wrap n=n % 18446744073709551616 - 18446744073709551616:=by
 simp only [IntKind.wrap,IntKind.bits,IntKind.signed];by_cases h:(n % 2 ^ 64:Int) ≥ 2 ^ (64 - 1)
 ·right;simp at h ⊢;omega
 ·left;simp at h ⊢;omega
theorem aZk (x:BitVec 64):aO6 (IntKind.i64.wrap (x.toNat:Int)) 127=(x.toNat % 128:Nat):=by
 have e1:BitVec.ofInt 64 (IntKind.i64.wrap (x.toNat:Int))=x:=by
  apply BitVec.eq_of_toNat_eq;rw[BitVec.toNat_ofInt];have hx:=x.isLt;rcases aT1 (x.toNat:Int) with h | h <;> rw[h] <;> omega
 have e2:BitVec.ofInt 64 127=127#64:=rfl;unfold aO6;rw[e1,e2,BitVec.toNat_and,show(127#64).toNat=2 ^ 7 - 1 from rfl,Nat.and_two_pow_sub_one_eq_mod];exact bX (by simp only [inr];omega)
theorem aWw (x:BitVec 64) {x1 x2 x3 x4 x5 x6:BitVec 64} (h1:sw1 x=x1) (h2:sw2 x1=x2) (h3:sw3 x2=x3) (h4:sw4 x3 8=x4) (h5:sw4 x4 16=x5) (h6:sw4 x5 32=x6)
 (f1:dB (bJ (cA x 1) 6148914691236517205#64) (bJ x 6148914691236517205#64)) (f2:dB (bJ (cA x1 2) 3689348814741910323#64) (bJ x1 3689348814741910323#64)) (f3:dB (cA x2 4) x2)
 (f4:dB x3 (cA x3 8)) (f5:dB x4 (cA x4 16)) (f6:dB x5 (cA x5 32)):Pure Tryz.prog 112 [.w x] (· =.i (x6.toNat % 128:Nat)):=by
 refine π Tryz.func112 ?_;unfold sw1 at h1;unfold sw2 at h2;unfold sw3 at h3;unfold sw4 at h4 h5 h6;simp[go_sem,h1,h2,h3,h4,h5,h6,f1,f2,f3,f4,f5,f6,aZk]
theorem aG9 {P:Program} {N:cZ} {E:Env} {M:Mem} {nx:Nat} {K:Env->Mem->Nat->Prop} {d:Option Tmp} {t ty:TypeId} {pos:String} {af:Array Edge} {x i:Operand} {s:ByteArray} {kk:IntKind} {n:Nat} {b:UInt8}
 (hu:P.underlying t=some .string) (hx:ev E x=.r (.v (.string s))) (hi:ev E i=.r (.v (.int kk n))) (hb:s[n]? =some b) (hd:dC N.n d) (h:K (aK E d (.r (.v (.int .u8 b.toNat)))) M nx) :
 qZ P N ⟨d,.index t x i,ty,pos,af,none⟩ E M nx K:=by
 intro B W w0 σ a w hs next Q' hK;refine dO ?_;have h1:=bA hs.env x;have h2:=bA hs.env i;rw[hx] at h1;rw[hi] at h2;have h1:a.eval x=.string s:=h1;have h2:a.eval i=.int kk n:=h2;have hrun:(execOp a.eval ⟨d,.index t x i,ty,pos,af,none⟩).run P w=.ok (.value (.int .u8 b.toNat)) w:=by
  simp[execOp,h1,h2,Instr.index,asIntOf,run_underlying hu,hb]
 unfold Oper.wp;rw[hrun];exact hK _ _ _ _ _ _ h (hs.put hd rfl)
theorem bA9 (x:BitVec 8):Pure Tryz.prog 114 [.y x] (· =.i (Lib.onesCount x.toNat)):=by
 refine π Tryz.func114 ?_;simp[go_sem];obtain⟨b,hb,hc⟩:∃b:UInt8,Lib.pop8tab[x.toNat]? =some b/\b.toNat=Lib.onesCount x.toNat:=by
  have h:∀n:Fin 256,(Lib.pop8tab[n.val]?).isSome=true/\((Lib.pop8tab[n.val]?).getD 0).toNat=Lib.onesCount n.val:=by decide +kernel
  obtain⟨h1,h2⟩:=h ⟨x.toNat,x.isLt⟩;obtain⟨b,hb⟩:=Option.isSome_iff_exists.1 h1;exact⟨b,hb,by rw[<- h2,hb];rfl⟩
 refine aG9 (s:=Lib.pop8tab) (n:=x.toNat) (b:=b) (kk:=.u8) κ κ ζ hb (by simp[dC]) ?_;have h8:IntKind.i64.wrap (Lib.onesCount x.toNat:Int)=Lib.onesCount x.toNat:=bX (by
  have:=Lib.onesCount_le8 ⟨x.toNat,x.isLt⟩;simp only [inr];simp at this;omega)
 simp[go_sem,hc,h8]
end Go.Gx.Ix
namespace Go.Gx.Ix
theorem aLy {k q m Y M:Nat} (hq:q<2 ^ k) (hm:m<2 ^ k):(2 ^ k*Y+q) &&& (2 ^ k*M+m)=2 ^ k*(Y &&& M)+(q &&& m):=by
 apply Nat.eq_of_testBit_eq;intro j;have h3:q &&& m<2 ^ k:=Nat.lt_of_le_of_lt Nat.and_le_left hq;rw[Nat.testBit_and,Nat.testBit_two_pow_mul_add _ hq,Nat.testBit_two_pow_mul_add _ hm,Nat.testBit_two_pow_mul_add _ h3];by_cases h:j<k
 ·simp[h,Nat.testBit_and]
 ·simp[h,Nat.testBit_and]
def mk (w:Nat):Nat->Nat
 | 0=>0
 | n+1=>2 ^ (2*w)*mk w n+(2 ^ w - 1)
theorem bFt (w:Nat):2 ^ w - 1<2 ^ (2*w):=by
 have h1:2 ^ w<=2 ^ (2*w):=Nat.pow_le_pow_right δ ω;have h2:0<2 ^ w:=Nat.pow_pos δ;omega
theorem aDr (w n X:Nat):X &&& mk w (n+1)=2 ^ (2*w)*((X / 2 ^ (2*w)) &&& mk w n)+X % 2 ^ w:=by
 have h:=aLy (k:=2*w) (q:=X % 2 ^ (2*w)) (m:=2 ^ w - 1) (Y:=X / 2 ^ (2*w)) (M:=mk w n) (Nat.mod_lt _ (Nat.pow_pos δ)) (bFt w);rw[Nat.div_add_mod] at h;show X &&& (2 ^ (2*w)*mk w n+(2 ^ w - 1))=_;rw[h,Nat.and_two_pow_sub_one_eq_mod]
 congr 1
 exact Nat.mod_mod_of_dvd _ (Nat.pow_dvd_pow 2 ω)
def ds (w:Nat):Nat->Nat->Nat
 | 0,_=>0
 | n+1,X=>X % 2 ^ w+ds w n (X / 2 ^ w)
def sml (w c:Nat):Nat->Nat->Prop
 | 0,X=>X=0
 | n+1,X=>X % 2 ^ w<=c/\sml w c n (X / 2 ^ w)
def zS (w n X:Nat):Nat:=((X / 2 ^ w) &&& mk w n)+(X &&& mk w n)
theorem aOd (w n X:Nat):zS w (n+1) X=2 ^ (2*w)*zS w n (X / 2 ^ (2*w))+(X / 2 ^ w % 2 ^ w+X % 2 ^ w):=by
 unfold zS;rw[aDr,aDr,Nat.div_div_eq_div_mul,Nat.div_div_eq_div_mul,Nat.mul_comm (2 ^ w) (2 ^ (2*w)),Nat.mul_add];omega
theorem dd (w X:Nat):X / 2 ^ w / 2 ^ w=X / 2 ^ (2*w):=by
 rw[Nat.div_div_eq_div_mul,<- Nat.pow_add];congr 2;omega
theorem aD7 {w c:Nat} (hc:2*c<2 ^ (2*w)):∀n X,sml w c (2*n) X->ds (2*w) n (zS w n X)=ds w (2*n) X/\sml (2*w) (2*c) n (zS w n X)
 | 0,X,h=>by
   have h:X=0:=h;subst h;simp[zS,ds,sml]
 | n+1,X,h=>by
   have e:2*(n+1)=(2*n+1)+1:=ω;rw[e] at h;obtain⟨h1,h2,h3⟩:=h;rw[dd] at h3;obtain⟨i1,i2⟩:=aD7 hc n _ h3;have hlt:X / 2 ^ w % 2 ^ w+X % 2 ^ w<2 ^ (2*w):=ω;rw[aOd];have hm:(2 ^ (2*w)*zS w n (X / 2 ^ (2*w))+(X / 2 ^ w % 2 ^ w+X % 2 ^ w)) % 2 ^ (2*w)=X / 2 ^ w % 2 ^ w+X % 2 ^ w:=by
    rw[Nat.mul_add_mod,Nat.mod_eq_of_lt hlt]
   have hd:(2 ^ (2*w)*zS w n (X / 2 ^ (2*w))+(X / 2 ^ w % 2 ^ w+X % 2 ^ w)) / 2 ^ (2*w)=zS w n (X / 2 ^ (2*w)):=by
    rw[Nat.mul_add_div (Nat.pow_pos δ),Nat.div_eq_of_lt hlt];omega
   refine⟨?_,?_⟩
   ·show _ % 2 ^ (2*w)+ds (2*w) n (_ / 2 ^ (2*w))=_;rw[hm,hd,i1,e];show _=X % 2 ^ w+(X / 2 ^ w % 2 ^ w+ds w (2*n) (X / 2 ^ w / 2 ^ w));rw[dd];omega
   ·refine⟨?_,?_⟩
    ·rw[hm];omega
    ·rw[hd];exact i2
theorem aI4 {w c:Nat} (hc:c<2 ^ w):∀n X,sml w c n X->X<2 ^ (w*n)
 | 0,X,h=>by
   have h:X=0:=h;subst h;simp
 | n+1,X,h=>by
   have:=aI4 hc n _ h.2;rw[Nat.div_lt_iff_lt_mul (Nat.pow_pos δ),<- Nat.pow_add] at this;rw[Nat.mul_add,Nat.mul_one];exact this
def aGu (n X:Nat):Nat:=(X / 16+X) &&& mk 4 n
theorem bE0 (n Y:Nat) {r:Nat} (hr:r<=8):ds 8 (n+1) (256*Y+r)=r+ds 8 n Y/\(sml 8 8 n Y->sml 8 8 (n+1) (256*Y+r)):=by
 have h1:(256*Y+r) % 256=r:=ω;have h2:(256*Y+r) / 256=Y:=ω;refine⟨?_,λh=>⟨?_,?_⟩⟩
 ·show(256*Y+r) % 256+ds 8 n ((256*Y+r) / 256)=_;rw[h1,h2]
 ·show(256*Y+r) % 256<=8;rw[h1];exact hr
 ·show sml 8 8 n ((256*Y+r) / 256);rw[h2];exact h
theorem aLc:∀n X,sml 4 4 (2*n) X->ds 8 n (aGu n X)=ds 4 (2*n) X/\sml 8 8 n (aGu n X)
 | 0,X,h=>by
   have h:X=0:=h;subst h;simp[aGu,ds,sml]
 | n+1,X,h=>by
   have e:2*(n+1)=(2*n+1)+1:=ω;rw[e] at h;obtain⟨h1,h2,h3⟩:=h;have h1:X % 16<=4:=h1;have h2:X / 16 % 16<=4:=h2;have h3:sml 4 4 (2*n) (X / 16 / 16):=h3;have d1:X / 16 / 16=X / 256:=ω;rw[d1] at h3;obtain⟨i1,i2⟩:=aLc n _ h3;have h4:X / 256 % 16<=4:=by
    cases n with
    | zero=>have h3:X / 256=0:=h3;omega
    | succ n=>rw[show 2*(n+1)=(2*n+1)+1 from ω] at h3;exact h3.1
   have hs:aGu (n+1) X=256*aGu n (X / 256)+(X / 16 % 16+X % 16):=by
    unfold aGu;rw[aDr];have e1:(X / 16+X) / 2 ^ (2*4)=X / 256 / 16+X / 256:=by
     show(X / 16+X) / 256=_;omega
    have e2:(X / 16+X) % 2 ^ 4=X / 16 % 16+X % 16:=by
     show(X / 16+X) % 16=_;omega
    rw[e1,e2]
   rw[hs];have hr:X / 16 % 16+X % 16<=8:=by clear hs i1 i2 h3;omega
   have e3:ds 4 (2*n+1+1) X=X % 16+(X / 16 % 16+ds 4 (2*n) (X / 256)):=by
    show _=_;rw[<- d1];rfl
   obtain⟨c1,c2⟩:=bE0 n (aGu n (X / 256)) hr;rw[c1,e,e3,i1];exact⟨by clear hs i1 i2 h3 c1 c2 e3;omega,c2 i2⟩
theorem aZ3 {a m q r:Nat} (h:a=m*q+r) (hr:r<m):a / m=q:=by
 subst h;rw[Nat.mul_add_div ω,Nat.div_eq_of_lt hr,Nat.add_zero]
theorem lA {n X:Nat} (h:sml 8 8 (n+1) X):∃t Y,X=t+256*Y/\t<=8/\sml 8 8 n Y/\ds 8 (n+1) X=t+ds 8 n Y:=
 ⟨X % 256,X / 256,ω,h.1,h.2,rfl⟩
theorem st1 {t0 t1 t2 t3 t4 t5 t6 t7:Nat} (b0:t0<=8):(t0+256*t1+65536*t2+16777216*t3+4294967296*t4+1099511627776*t5+281474976710656*t6+72057594037927936*t7) / 256=t1+256*t2+65536*t3+16777216*t4+4294967296*t5+1099511627776*t6+281474976710656*t7:=aZ3 (r:=t0) ω ω
theorem bJg {t0 t1 t2 t3 t4 t5 t6 t7:Nat} :(t0+256*t1+65536*t2+16777216*t3+4294967296*t4+1099511627776*t5+281474976710656*t6+72057594037927936*t7)+(t1+256*t2+65536*t3+16777216*t4+4294967296*t5+1099511627776*t6+281474976710656*t7)=(t0+t1)+256*(t1+t2)+65536*(t2+t3)+16777216*(t3+t4)+4294967296*(t4+t5)+1099511627776*(t5+t6)+281474976710656*(t6+t7)+72057594037927936*(t7):=ω
theorem st2 {t0 t1 t2 t3 t4 t5 t6 t7:Nat} (b0:t0<=8) (b1:t1<=8) (b2:t2<=8):((t0+t1)+256*(t1+t2)+65536*(t2+t3)+16777216*(t3+t4)+4294967296*(t4+t5)+1099511627776*(t5+t6)+281474976710656*(t6+t7)+72057594037927936*(t7)) / 65536=(t2+t3)+256*(t3+t4)+65536*(t4+t5)+16777216*(t5+t6)+4294967296*(t6+t7)+1099511627776*(t7):=aZ3 (r:=(t0+t1)+256*(t1+t2)) ω ω
theorem bJh {t0 t1 t2 t3 t4 t5 t6 t7:Nat} :((t0+t1)+256*(t1+t2)+65536*(t2+t3)+16777216*(t3+t4)+4294967296*(t4+t5)+1099511627776*(t5+t6)+281474976710656*(t6+t7)+72057594037927936*(t7))+((t2+t3)+256*(t3+t4)+65536*(t4+t5)+16777216*(t5+t6)+4294967296*(t6+t7)+1099511627776*(t7))=(t0+t1+t2+t3)+256*(t1+t2+t3+t4)+65536*(t2+t3+t4+t5)+16777216*(t3+t4+t5+t6)+4294967296*(t4+t5+t6+t7)+1099511627776*(t5+t6+t7)+281474976710656*(t6+t7)+72057594037927936*(t7):=ω
theorem st3 {t0 t1 t2 t3 t4 t5 t6 t7:Nat} (b0:t0<=8) (b1:t1<=8) (b2:t2<=8) (b3:t3<=8) (b4:t4<=8) (b5:t5<=8) (b6:t6<=8) (b7:t7<=8):((t0+t1+t2+t3)+256*(t1+t2+t3+t4)+65536*(t2+t3+t4+t5)+16777216*(t3+t4+t5+t6)+4294967296*(t4+t5+t6+t7)+1099511627776*(t5+t6+t7)+281474976710656*(t6+t7)+72057594037927936*(t7)) / 4294967296=(t4+t5+t6+t7)+256*(t5+t6+t7)+65536*(t6+t7)+16777216*(t7):=aZ3 (r:=(t0+t1+t2+t3)+256*(t1+t2+t3+t4)+65536*(t2+t3+t4+t5)+16777216*(t3+t4+t5+t6)) ω ω
theorem bJi {t0 t1 t2 t3 t4 t5 t6 t7:Nat} :((t0+t1+t2+t3)+256*(t1+t2+t3+t4)+65536*(t2+t3+t4+t5)+16777216*(t3+t4+t5+t6)+4294967296*(t4+t5+t6+t7)+1099511627776*(t5+t6+t7)+281474976710656*(t6+t7)+72057594037927936*(t7))+((t4+t5+t6+t7)+256*(t5+t6+t7)+65536*(t6+t7)+16777216*(t7))=(t0+t1+t2+t3+t4+t5+t6+t7)+256*(t1+t2+t3+t4+t5+t6+t7)+65536*(t2+t3+t4+t5+t6+t7)+16777216*(t3+t4+t5+t6+t7)+4294967296*(t4+t5+t6+t7)+1099511627776*(t5+t6+t7)+281474976710656*(t6+t7)+72057594037927936*(t7):=ω
theorem stl {t0 t1 t2 t3 t4 t5 t6 t7:Nat} (b0:t0<=64) (b1:t1<=64) (b2:t2<=64) (b3:t3<=64) (b4:t4<=64) (b5:t5<=64) (b6:t6<=64) (b7:t7<=64):t0+256*t1+65536*t2+16777216*t3+4294967296*t4+1099511627776*t5+281474976710656*t6+72057594037927936*t7<18446744073709551616:=ω
theorem bJk {X:Nat} (h:sml 8 8 8 X):let a:=X+X / 256;let b:=a+a / 65536;let c:=b+b / 4294967296
 a<18446744073709551616/\b<18446744073709551616/\c<18446744073709551616/\c % 128=ds 8 8 X:=by
 obtain⟨t0,X1,e0,b0,h,d0⟩:=lA h;obtain⟨t1,X2,e1,b1,h,d1⟩:=lA h;obtain⟨t2,X3,e2,b2,h,d2⟩:=lA h;obtain⟨t3,X4,e3,b3,h,d3⟩:=lA h;obtain⟨t4,X5,e4,b4,h,d4⟩:=lA h;obtain⟨t5,X6,e5,b5,h,d5⟩:=lA h;obtain⟨t6,X7,e6,b6,h,d6⟩:=lA h;obtain⟨t7,X8,e7,b7,h,d7⟩:=lA h;have h:X8=0:=h;have d8:ds 8 0 X8=0:=rfl;rw[d0,d1,d2,d3,d4,d5,d6,d7,d8];clear d0 d1 d2 d3 d4 d5 d6 d7 d8;have hx:X=t0+256*t1+65536*t2+16777216*t3+4294967296*t4+1099511627776*t5+281474976710656*t6+72057594037927936*t7:=by
  rw[e0,e1,e2,e3,e4,e5,e6,e7,h]
  try simp only [Nat.mul_add,<- Nat.mul_assoc,Nat.reduceMul,<- Nat.add_assoc,Nat.mul_zero,Nat.add_zero]
 clear e0 e1 e2 e3 e4 e5 e6 e7 h;subst hx;simp only [st1 b0,bJg,st2 b0 b1 b2,bJh,st3 b0 b1 b2 b3 b4 b5 b6 b7,bJi];refine⟨stl ?_ ?_ ?_ ?_ ?_ ?_ ?_ ?_,stl ?_ ?_ ?_ ?_ ?_ ?_ ?_ ?_,stl ?_ ?_ ?_ ?_ ?_ ?_ ?_ ?_,?_⟩
 all_goals omega
theorem aEz:∀n X,X<2 ^ n->sml 1 1 n X
 | 0,X,h=>by
   show X=0;simp at h;exact h
 | n+1,X,h=>⟨ω,aEz n _ (by rw[Nat.pow_succ] at h;omega)⟩
end Go.Gx.Ix
namespace Go.Gx.Ix
open Go.RowKit Go.Proofs Go.Proofs.YtncccnmmjfapnaaGreat
def cnt (x:BitVec 64):Nat:=ds 1 64 x.toNat
theorem qV (x y:BitVec 64):(bJ x y).toNat=x.toNat &&& y.toNat:=BitVec.toNat_and ..
theorem mB (x:BitVec 64) (n:Nat):(cA x n).toNat=x.toNat / 2 ^ n:=by rw[cA,BitVec.toNat_ushiftRight,Nat.shiftRight_eq_div_pow]
theorem aCl {x y:BitVec 64} (h:dB x y):(sC x y).toNat=x.toNat+y.toNat:=by unfold dB at h;unfold sC;rw[BitVec.toNat_add];omega
theorem aLa:∀n X,sml 4 4 (n+1) X->X<5*16 ^ n
 | 0,X,h=>by
   have h1:X % 16<=4:=h.1;have h2:X / 16=0:=h.2;omega
 | n+1,X,h=>by
   have h1:X % 16<=4:=h.1;have h2:=aLa n _ h.2;have h2:X / 16<5*16 ^ n:=h2;rw[Nat.pow_succ];omega
theorem aDv (x:BitVec 64):Pure Tryz.prog 112 [.w x] (· =.i (cnt x)):=by
 have m0:(6148914691236517205#64).toNat=mk 1 32:=δ;have m1:(3689348814741910323#64).toNat=mk 2 16:=δ;have m2:(1085102592571150095#64).toNat=mk 4 8:=δ;have hb:=aEz 64 x.toNat x.isLt;obtain⟨d1,s1⟩:=aD7 (w:=1) (c:=1) δ 32 x.toNat hb;have l1:=aI4 (w:=2) (c:=2) δ 32 _ s1;have f1:dB (bJ (cA x 1) 6148914691236517205#64) (bJ x 6148914691236517205#64):=by
  unfold dB;rw[qV,qV,mB,m0];exact l1
 have e1:(sw1 x).toNat=zS 1 32 x.toNat:=by unfold sw1;rw[aCl f1,qV,qV,mB,m0];rfl
 rw[<- e1] at d1 s1;generalize hx1:sw1 x=x1 at *;obtain⟨d2,s2⟩:=aD7 (w:=2) (c:=2) δ 16 x1.toNat s1;have l2:=aI4 (w:=4) (c:=4) δ 16 _ s2;have f2:dB (bJ (cA x1 2) 3689348814741910323#64) (bJ x1 3689348814741910323#64):=by
  unfold dB;rw[qV,qV,mB,m1];exact l2
 have e2:(sw2 x1).toNat=zS 2 16 x1.toNat:=by unfold sw2;rw[aCl f2,qV,qV,mB,m1];rfl
 rw[<- e2] at d2 s2;generalize hx2:sw2 x1=x2 at *;obtain⟨d3,s3⟩:=aLc 8 x2.toNat s2;have l3:=aLa 15 _ s2;have f3:dB (cA x2 4) x2:=by unfold dB;rw[mB];simp only [Nat.reducePow,Nat.reduceMul] at l3 ⊢;omega
 have e3:(sw3 x2).toNat=aGu 8 x2.toNat:=by unfold sw3;rw[qV,aCl f3,mB,m2];rfl
 rw[<- e3] at d3 s3;generalize hx3:sw3 x2=x3 at *;obtain⟨q1,q2,q3,q4⟩:=bJk s3;have f4:dB x3 (cA x3 8):=by unfold dB;rw[mB];exact q1
 have e4:(sw4 x3 8).toNat=x3.toNat+x3.toNat / 256:=by unfold sw4;rw[aCl f4,mB]
 rw[<- e4] at q2 q3 q4;generalize hx4:sw4 x3 8=x4 at *;have f5:dB x4 (cA x4 16):=by unfold dB;rw[mB];exact q2
 have e5:(sw4 x4 16).toNat=x4.toNat+x4.toNat / 65536:=by unfold sw4;rw[aCl f5,mB]
 rw[<- e5] at q3 q4;generalize hx5:sw4 x4 16=x5 at *;have f6:dB x5 (cA x5 32):=by unfold dB;rw[mB];exact q3
 have e6:(sw4 x5 32).toNat=x5.toNat+x5.toNat / 4294967296:=by unfold sw4;rw[aCl f6,mB]
 have h:=aWw x hx1 hx2 hx3 hx4 hx5 rfl f1 f2 f3 f4 f5 f6;rw[e6,q4,d3,d2,d1] at h;exact h
def aHp (x:BitVec 8):Nat:=ds 1 8 x.toNat
theorem aWx (x:BitVec 8):Pure Tryz.prog 114 [.y x] (· =.i (aHp x)):=by
 have h:∀n:Fin 256,Lib.onesCount n.val=ds 1 8 n.val:=by decide +kernel
 have h1:=bA9 x;rw[h ⟨x.toNat,x.isLt⟩] at h1;exact h1
def bBn (w:BitVec 64) (at_:Nat) (t:Int):BitVec 64:=bT (aXy (qS (uS (cA w at_)) (t % 16).toNat)) at_
def tJ (w:BitVec 64) (t:Int):Nat->BitVec 64
 | 0=>0#64
 | k+1=>iV (tJ w t k) (bBn w (16*k) t)
def cL (w:BitVec 64) (t:Int):BitVec 64:=tJ w t 4
theorem aLe (w:BitVec 64) (t:Int):Pure Tryz.prog 265 [.w w,.i t] (· =.w (cL w t)):=by
 refine π Tryz.func265 ?_;simp[go_sem];refine aH aD (α:=Nat) (λk=>[(0,.w w),(1,.i t),(5,.w (tJ w t k)),(6,.i (16*k:Nat))]) (λ_=>[]) 0
  (λk=>k<=4) (λk=>4 - k) 0 (λ_=>rfl) τ (by simp[go_sem,tJ]) ζ ?_
 intro k J hi;by_cases hk:k<4
 ·have h1:(16:Int)*k<64:=ω;have h2:((16:Int)*k).toNat=16*k:=ω;simp[go_sem,h1,h2];refine⟨ω,aA (bBm _ t) rfl rfl ?_⟩;simp[go_sem,h2];refine⟨ω,ω,k+1,ω,ω,?_,ω⟩;rfl
 ·have h1:¬(16:Int)*k<64:=ω;have h2:k=4:=ω;subst h2;simp[go_sem,cL]
theorem aJj (c m:BitVec 64) (t:Int):Pure Tryz.prog 154 [.agg [.w c,.w m],.i t] (· =.agg [.w (cL c t),.w (cL m t)]):=by
 refine π Tryz.func154 ?_;simp[go_sem];refine aE aD κ κ ?_;simp[go_sem];refine aA (aLe c t) rfl rfl ?_;simp[go_sem];refine aA (aLe m t) rfl rfl ?_;simp[go_sem]
def aPy (c m c2 m2:BitVec 64):Nat:=cnt (bJ (bY c c2) (bJ m m2))
def aPx (m m2:BitVec 64):Nat:=cnt (bJ m m2)
theorem aBh (c m c2 m2:BitVec 64):Pure Tryz.prog 153 [.agg [.w c,.w m],.agg [.w c2,.w m2]] (· =.tup [.i (aPy c m c2 m2),.i (aPx m m2)]):=by
 refine π Tryz.func153 ?_;simp[go_sem];refine aA (aDv _) rfl rfl ?_;simp[go_sem];refine aA (aDv _) rfl rfl ?_;simp[go_sem,aPy,aPx]
theorem bAu (n d t n2 d2 t2:Int) (h1:inr .i64 (n*d2)) (h2:inr .i64 (n2*d)):Pure Tryz.prog 155 [.agg [.i n,.i d,.i t],.agg [.i n2,.i d2,.i t2]] (· =.b (decide (0<d)&&(decide (d2=0)||decide (n*d2<n2*d)))):=by
 refine π Tryz.func155 ?_;by_cases h3:0<d <;> by_cases h4:d2=0 <;> simp[go_sem,h1,h2,h3,h4]
 exact⟨h1,h2⟩
structure IrG where
 c:BitVec 64
 m:BitVec 64
def IrG.f (x:IrG):Nat->RV
 | 0=>.w x.c
 | _=>.w x.m
@[go_sem]theorem IrG.f0 (x:IrG):x.f 0=.w x.c:=rfl
@[go_sem]theorem IrG.f1 (x:IrG):x.f 1=.w x.m:=rfl
abbrev IrG.sv (x:IrG):SV:=.agg [.w x.c,.w x.m]
def IrG.ok (x:IrG):Bool:=vI x.c x.m
def aEv (n:Nat) (g:Nat->IrG):Bool:=(List.range n).all λi=>(g i).ok
theorem aEw {n:Nat} {g:Nat->IrG}:aEv n g=true↔∀i,i<n->(g i).ok=true:=by simp[aEv]
theorem aLg (n:Nat) (hn:n<=1000000000) (g:Nat->IrG):Pure Tryz.prog 68 [.r (.rs 2 n λi j=>(g i).f j)] (· =.b (aEv n g)):=by
 refine π Tryz.func68 ?_;simp[go_sem];refine aH aD (α:=Nat) (λk=>[(5,.r (.rs 2 n λi j=>(g i).f j)),(6,.i n),(7,.i k)]) (λ_=>[]) 0 (λk=>k<=n/\∀j,j<k->(g j).ok=true) (λk=>n - k) 0 (λ_=>rfl) τ ζ ζ ?_;intro k J hi;by_cases hlt:k<n
 ·simp[go_sem,hlt];refine aA (mJ _ _) rfl rfl ?_;by_cases hv:vI (g k).c (g k).m=true
  ·simp[go_sem,hv];refine⟨ω,k+1,⟨ω,λj hj=>?_⟩,ω,τ⟩;rcases Nat.lt_succ_iff_lt_or_eq.1 hj with h | rfl
   ·exact hi.2 j h
   ·exact hv
  ·simp[go_sem,hv];have:aEv n g=false:=by
    cases h:aEv n g with
    | false=>rfl
    | true=>exact absurd (aEw.1 h k hlt) hv
   exact this
 ·simp[go_sem,hlt];exact aEw.2 λj hj=>hi.2 j ω
theorem bB4 (x:IrG) (get:Nat->Nat->RV) (h:∀j,j<2->get 0 j=x.f j):Pure Tryz.prog 68 [.r (.rs 2 1 get)] (· =.b x.ok):=by
 have h1:=(aLg 1 ω λ_=>x).args (args:=[.r (.rs 2 1 get)]) (⟨vF λi j hi hj=>by
  have:i=0:=ω;subst this;exact h j hj,trivial⟩)
 simpa [aEv] using h1
theorem aJk (x y:IrG) (get:Nat->Nat->RV) (h:∀j,j<2->get 0 j=x.f j) (h2:∀j,j<2->get 1 j=y.f j):Pure Tryz.prog 68 [.r (.rs 2 2 get)] (· =.b (x.ok&&y.ok)):=by
 have h1:=(aLg 2 ω λi=>if i=0 then x else y).args (args:=[.r (.rs 2 2 get)]) (⟨vF λi j hi hj=>by
  rcases(show i=0\/i=1 by omega) with rfl | rfl
  ·exact h j hj
  ·exact h2 j hj,trivial⟩)
 have e:aEv 2 (λi=>if i=0 then x else y)=(x.ok&&y.ok):=by simp[aEv,List.range,List.range.loop]
 rw[e] at h1;exact h1
def IrG.tn (x:IrG) (t:Int):IrG:=⟨cL x.c t,cL x.m t⟩
def zW (x:IrG) (t:Int):Int:=if x.ok then if btw (-7) 7 t then 0 else 2 else 30
theorem bB2 (x:IrG) (t:Int):Pure Tryz.prog 115 [x.sv,.i t] (· =.tup [if zW x t=0 then (x.tn t).sv else (IrG.mk 0 0).sv,.i (zW x t)]):=by
 refine π Tryz.func115 ?_;simp[go_sem];refine aG (v:=.b x.ok) (by simp[go_sem];refine bB4 x _ λj hj=>?_;rcases(show j=0\/j=1 by omega) with rfl | rfl <;> rfl) rfl ?_
 cases hx:x.ok
 ·simp[go_sem,zW,hx]
 simp[go_sem];refine aA (mC t (-7) 7) rfl rfl ?_
 cases hb:btw (-7) 7 t
 ·simp[go_sem,zW,hx,hb]
 simp[go_sem];refine aA (aJj x.c x.m t) rfl rfl ?_;simp[go_sem,zW,hx,hb,IrG.tn]
def IrG.n (x y:IrG) (t:Int):Nat:=aPy (cL x.c t) (cL x.m t) y.c y.m
def IrG.d (x y:IrG) (t:Int):Nat:=aPx (cL x.m t) y.m
def aE5 (x y:IrG) (t:Int):Int:=if x.ok&&y.ok then if btw (-7) 7 t then 0 else 2 else 30
theorem aMk (x y:IrG) (t:Int):Pure Tryz.prog 118 [x.sv,y.sv,.i t] (· =.tup [.i (if aE5 x y t=0 then x.n y t else 0:Nat),.i (if aE5 x y t=0 then x.d y t else 0:Nat),.i (aE5 x y t)]):=by
 refine π Tryz.func118 ?_;simp[go_sem];refine aG (v:=.b (x.ok&&y.ok)) (by simp[go_sem];refine aJk x y _ (λj hj=>?_) (λj hj=>?_) <;> rcases(show j=0\/j=1 by omega) with rfl | rfl <;> rfl) rfl ?_
 cases hx:x.ok&&y.ok
 ·simp[go_sem,aE5,hx]
 simp[go_sem];refine aA (mC t (-7) 7) rfl rfl ?_
 cases hb:btw (-7) 7 t
 ·simp[go_sem,aE5,hx,hb]
 simp[go_sem];refine aE aD κ κ ?_;simp[go_sem];refine⟨_,aB (aJj x.c x.m t) rfl rfl,?_⟩;simp[go_sem];refine⟨_,aB (aBh (cL x.c t) (cL x.m t) y.c y.m) rfl rfl,?_⟩;simp[go_sem,aE5,hx,hb,IrG.n,IrG.d]
attribute [go_sem] jC SV.trim SV.trimL
def hO:Nat->List Int
 | 0=>[]
 | k+1=>hO k++if k=0 then [0] else [(k:Int),-(k:Int)]
theorem aF4 (k:Nat):∀n,k<=n->hO k <+: hO n
 | 0,h=>by
   have:k=0:=ω;subst this;exact List.prefix_refl _
 | n+1,h=>by
   rcases Nat.lt_or_ge n k with h1 | h1
   ·have:k=n+1:=ω;subst this;exact List.prefix_refl _
   ·exact(aF4 k n h1).trans (List.prefix_append _ _)
theorem aSm (n:Int):Own Tryz.prog 152 [] [.i n] (.fn (.func 264) [] [.ptr 0 0 1 0]) [.box [.i n]]:=by
 refine γ Tryz.func152 ?_;simp[go_sem];refine⟨[0],τ,λN=>⟨ζ,ζ⟩⟩
theorem aNf (n:Nat) (hn:n<=7) (get:Nat->Nat->RV) (hget:get 0 0=.i n):aJu Tryz.prog T 264 [.r (.rp 1 1 get 0 0)] (λt:Int=>[SV.i t]) (hO (n+1)):=by
 refine⟨_,_,Tryz.func264,rfl,κ,Nat.le_of_ble_eq_true rfl,?_⟩;intro np good l I M nx hnx h0 hst hy;simp[go_sem,hget];refine⟨ω,?_⟩;refine dW aD (α:=Nat) (λk=>[(0,.fn (.yield l) [] []),(5,.i (n+1)),(6,.i k)]) (λk M nx=>k<=n+1/\np<=nx/\I (hO k) M nx) (λk=>n+1 - k) 0 ⟨ω,hnx,h0⟩ ζ ?_;intro k J M nx _ hi;obtain⟨h1,h2,h3⟩:=hi;by_cases hk:k<n+1
 ·have hk':(k:Int)<n+1:=ω;simp[go_sem,hk'];have hp:=aF4 (k+1) (n+1) ω;by_cases k0:k=0
  ·subst k0;refine hy [] 0 (by simpa [hO] using hp) _ _ _ _ _ _ _ _ _ _ _ ζ ζ (by simp[dC]) h3 λM' nx' hn' hI=>?_;simp only [List.nil_append] at hI;simp[go_sem];exact⟨1,ω,rfl,ω,hn',hI⟩
  ·have e:hO (k+1)=hO k++[(k:Int),-(k:Int)]:=by show hO k++(if k=0 then _ else _)=_;rw[if_neg k0]
   have e2:hO (k+1)=(hO k++[(k:Int)])++[-(k:Int)]:=by rw[e];simp
   have hp1:hO k++[(k:Int)] <+: hO (n+1):=List.IsPrefix.trans (e2▸List.prefix_append _ _) hp;have k1:0<k:=ω;refine hy (hO k) k hp1 _ _ _ _ _ _ _ _ _ _ _ ζ ζ (by simp[dC]) h3 λM' nx' hn' hI=>?_;simp[go_sem,k1];refine⟨ω,?_⟩;refine hy (hO k++[(k:Int)]) (-(k:Int)) (by rw[<- e2];exact hp) _ _ _ _ _ _ _ _ _ _ _ ζ ζ (by simp[dC]) hI λM' nx' hn' hI=>?_;rw[<- e2] at hI;simp[go_sem];exact⟨ω,k+1,ω,τ,ω,hn',hI⟩
 ·have hk':¬(k:Int)<n+1:=ω;have:k=n+1:=ω;subst this;simp[go_sem];exact h3
theorem aHw:∀n X,ds 1 n X<=n
 | 0,_=>Nat.le_refl _
 | n+1,X=>by
   have:=aHw n (X / 2 ^ 1);show X % 2+ds 1 n (X / 2 ^ 1)<=n+1;omega
theorem xF (x:BitVec 64):cnt x<=64:=aHw 64 _
theorem IrG.n_le (x y:IrG) (t:Int):x.n y t<=64:=xF _
theorem IrG.d_le (x y:IrG) (t:Int):x.d y t<=64:=xF _
structure Pt where
 n:Nat
 d:Nat
 t:Int
def Pt.less (p q:Pt):Bool:=decide (0<p.d)&&(decide (q.d=0)||decide (p.n*q.d<q.n*p.d))
def lX (x y:IrG) (b:Pt) (t:Int):Pt:=if 16<=x.d y t/\(Pt.mk (x.n y t) (x.d y t) t).less b=true then ⟨x.n y t,x.d y t,t⟩ else b
def iI (x y:IrG) (l:List Int):Pt:=l.foldl (lX x y) ⟨0,0,0⟩
def iH (x y:IrG) (k:Nat):Pt:=iI x y (hO (k+1))
theorem rF (x y:IrG) (l:List Int) (t:Int):iI x y (l++[t])=lX x y (iI x y l) t:=by simp[iI]
structure Pt.Sm (p:Pt):Prop where
 n:p.n<=64
 d:p.d<=64
theorem aSw (x y:IrG) {b:Pt} (t:Int) (h:b.Sm):(lX x y b t).Sm:=by
 unfold lX;split
 ·have h1:=x.n_le y t;have h2:=x.d_le y t;generalize x.n y t=a at h1;generalize x.d y t=b at h2;exact⟨h1,h2⟩
 ·exact h
theorem aQt (x y:IrG) (l:List Int):∀b:Pt,b.Sm->(l.foldl (lX x y) b).Sm:=by
 induction l with
 | nil=>intro b h;rw[List.foldl_nil];exact h
 | cons t l ih=>intro b h;rw[List.foldl_cons];exact ih _ (aSw x y t h)
theorem jX (x y:IrG) (l:List Int):(iI x y l).Sm:=aQt x y l _ ⟨Nat.zero_le _,Nat.zero_le _⟩
abbrev Pt.sv (p:Pt):SV:=.agg [.i p.n,.i p.d,.i p.t]
theorem Pt.less_iff (p q:Pt):p.less q=(decide ((0:Int)<p.d)&&(decide ((q.d:Int)=0)||decide ((p.n:Int)*q.d<q.n*p.d))):=by
 unfold Pt.less;have e1:((0:Int)<p.d)=(0<p.d):=τ;have e2:((q.d:Int)=0)=(q.d=0):=τ;have e3:((p.n:Int)*q.d<q.n*p.d)=(p.n*q.d<q.n*p.d):=by
  rw[<- Int.natCast_mul,<- Int.natCast_mul,Int.ofNat_lt]
 simp only [e1,e2,e3]
theorem aF2 {a b:Nat} (ha:a<=64) (hb:b<=64):inr .i64 ((a:Int)*b):=by
 have h:a*b<=64*64:=Nat.mul_le_mul ha hb;have e:((a:Int)*b)=((a*b:Nat):Int):=τ;rw[e];simp only [inr];omega
theorem xO (x y:IrG) (k:Nat) (hk:k<=7):Pure Tryz.prog 70 [x.sv,y.sv,.i k] (· =(iH x y k).sv):=by
 refine π Tryz.func70 ?_;simp[go_sem];refine aF [] (aSm k) τ rfl trivial ?_;simp[go_sem];refine aHb (GSt.freeze 4 rfl) ?_;refine aEn aD (λt:Int=>[SV.i t]) (hO (k+1)) 4 (λpre M nx=>M 0=some (.box [.w x.c,.w x.m])/\M 1=some (.box [.w y.c,.w y.m])/\M 2=some (.box [.i 0,.i 0,.i 0])/\
  M 3=some (.box [.i (iI x y pre).n,.i (iI x y pre).d,.i (iI x y pre).t])/\4<=nx)
  (gf:=264) (ca:=[.r (.rp 1 1 (mN [.i k]) 0 0)]) ?_ (aNf k hk _ rfl) (λ_=>rfl) τ ⟨κ,κ⟩ rfl (Nat.zero_le _) δ ?_ ?_ ?_ ?_
 ·simp[go_sem]
 ·simp[go_sem,iI]
 ·rintro pre M nx R hn ⟨h0,h1,h2,h3,h4⟩;have e0:¬0=nx:=ω;have e1:¬1=nx:=ω;have e2:¬2=nx:=ω;have e3:¬3=nx:=ω;simp[go_sem,e0,e1,e2,e3,h0,h1,h2,h3];omega
 ·rintro pre t hpre M nx hn ⟨h0,h1,h2,h3,h4⟩;have e0:¬0=nx:=ω;have e1:¬1=nx:=ω;have e2:¬2=nx:=ω;have e3:¬3=nx:=ω;simp[go_sem];refine aE aD κ κ ?_;simp[go_sem,h0,h1];have hc:Pure Tryz.prog 153 [.agg [.w (cL x.c t),.w (cL x.m t)],y.sv] (· =.tup [.i (x.n y t),.i (x.d y t)]):=aBh (cL x.c t) (cL x.m t) y.c y.m;have hsn:=rF x y pre t;have hle:=jX x y pre;have l1:=x.n_le y t;have l2:=x.d_le y t;unfold lX at hsn;rw[hsn];clear hsn;generalize iI x y pre=b at *;generalize x.n y t=a at *;generalize x.d y t=dd at *;have hl:=bAu a dd t b.n b.d b.t (aF2 l1 hle.d) (aF2 hle.n l2);rw[<- Pt.less_iff ⟨a,dd,t⟩ b] at hl;refine⟨ω,_,aB (aJj x.c x.m t) rfl rfl,ω,by simp[SV.refs,SV.refsL],_,aB hc rfl rfl,by simp[SV.refs,SV.refsL],?_⟩;by_cases d1:16<=dd
  ·have d1':(16:Int)<=dd:=ω;simp[go_sem,e0,e1,e2,e3,h0,h1,h2,h3,d1'];refine aA hl rfl rfl ?_
   cases hb:Pt.less ⟨a,dd,t⟩ b
   ·simp[go_sem,e0,e1,e2,e3,h0,h1,h2,h3];omega
   ·simp[go_sem,e0,e1,e2,e3,h0,h1,h2,h3,d1];omega
  ·have d1':¬(16:Int)<=dd:=ω;simp[go_sem,e0,e1,e2,e3,h0,h1,h2,h3,d1,d1'];omega
 ·rintro M nx hn ⟨h0,h1,h2,h3,h4⟩;simp[go_sem,h0,h1,h2,h3];exact⟨rfl,rfl,rfl⟩
def mE (x y:IrG) (turns num den:Int):Int:=if x.ok&&y.ok then if btw 0 7 turns&&vL num den then 0 else 2 else 30
theorem aLf (num den:Int):vL num den=(btw 1 1000 den&&btw 0 den num):=by unfold vL;exact Bool.and_comm ..
def rP (x y:IrG) (k:Nat) (num den:Int):Bool:=decide (0<(iH x y k).d)&&decide ((iH x y k).n*den<=num*(iH x y k).d)
theorem aKr (x y:IrG) (turns num den:Int):Pure Tryz.prog 21 [x.sv,y.sv,.i turns,.agg [.i num,.i den]] (· =.tup [.b (decide (mE x y turns num den=0)&&rP x y turns.toNat num den),.i (mE x y turns num den)]):=by
 refine π Tryz.func21 ?_;simp[go_sem];refine aG (v:=.b (x.ok&&y.ok)) (by simp[go_sem];refine aJk x y _ (λj hj=>?_) (λj hj=>?_) <;> rcases(show j=0\/j=1 by omega) with rfl | rfl <;> rfl) rfl ?_
 cases hx:x.ok&&y.ok
 ·simp[go_sem,mE,hx]
 simp[go_sem];refine aA (mC turns 0 7) rfl rfl ?_
 cases hb:btw 0 7 turns
 ·simp[go_sem,mE,hx,hb]
 simp[go_sem];refine aA (mC den 1 1000) rfl rfl ?_
 cases hb2:btw 1 1000 den
 ·simp[go_sem,mE,hx,hb,aLf,hb2]
 simp[go_sem];refine aA (mC num 0 den) rfl rfl ?_
 cases hb3:btw 0 den num
 ·simp[go_sem,mE,hx,hb,aLf,hb2,hb3]
 simp[go_sem];have hv:mE x y turns num den=0:=by simp[mE,hx,hb,aLf,hb2,hb3]
 simp only [btw,Bool.and_eq_true,decide_eq_true_eq] at hb hb2 hb3;obtain⟨k,rfl⟩:∃k:Nat,turns=k:=⟨turns.toNat,ω⟩;have hle:(iH x y k).Sm:=jX x y (hO (k+1));have hdi:=xO x y k ω;obtain⟨p,hp⟩:∃p,iH x y k=p:=⟨_,rfl⟩;have hm:rP x y (k:Int).toNat num den=(decide (0<p.d)&&decide (p.n*den<=num*p.d)):=by rw[Int.toNat_natCast];unfold rP;rw[hp]
 rw[hp] at hle hdi;simp only [hv,hm];refine aA hdi rfl rfl ?_;have h1:-64000<=(p.n:Int)*den/\(p.n:Int)*den<=64000:=by
  have:=hle.n;have a1:0<=(p.n:Int)*den:=Int.mul_nonneg ω ω;have a2:(p.n:Int)*den<=64*1000:=Int.mul_le_mul ω ω ω ω;omega
 have h2:-64000<=num*(p.d:Int)/\num*(p.d:Int)<=64000:=by
  have:=hle.d;have a1:0<=num*(p.d:Int):=Int.mul_nonneg ω ω;have a2:num*(p.d:Int)<=1000*64:=Int.mul_le_mul ω ω ω ω;omega
 by_cases hd:0<p.d
 ·simp[go_sem,hd];omega
 ·simp[go_sem,hd]
def dE (x y:IrG) (turns:Int):Int:=if x.ok&&y.ok then if btw 0 7 turns then if (iH x y turns.toNat).d=0 then 6 else 0 else 2 else 30
theorem aHs (x y:IrG) (turns:Int):Pure Tryz.prog 421 [x.sv,y.sv,.i turns]
 (· =.tup [.i (if dE x y turns=0 then (iH x y turns.toNat).n else 0:Nat),.i (if dE x y turns=0 then (iH x y turns.toNat).d else 0:Nat),.i (if dE x y turns=0 then (iH x y turns.toNat).t else 0),.i (dE x y turns)]):=by
 refine π Tryz.func421 ?_;simp[go_sem];refine aG (v:=.b (x.ok&&y.ok)) (by simp[go_sem];refine aJk x y _ (λj hj=>?_) (λj hj=>?_) <;> rcases(show j=0\/j=1 by omega) with rfl | rfl <;> rfl) rfl ?_
 cases hx:x.ok&&y.ok
 ·simp[go_sem,dE,hx]
 simp[go_sem];refine aA (mC turns 0 7) rfl rfl ?_
 cases hb:btw 0 7 turns
 ·simp[go_sem,dE,hx,hb]
 simp[go_sem];have hb':=hb;simp only [btw,Bool.and_eq_true,decide_eq_true_eq] at hb';obtain⟨k,rfl⟩:∃k:Nat,turns=k:=⟨turns.toNat,ω⟩;have hdi:=xO x y k ω;obtain⟨p,hp⟩:∃p,iH x y k=p:=⟨_,rfl⟩;have hm:dE x y (k:Int)=if p.d=0 then 6 else 0:=by unfold dE;rw[Int.toNat_natCast,hp,hx,hb];simp
 rw[hp] at hdi;simp only [hm,Int.toNat_natCast,hp];refine aA hdi rfl rfl ?_;by_cases hd:p.d=0
 ·simp[go_sem,hd]
 ·have hd':¬(p.d:Int)=0:=ω;simp[go_sem,hd,hd'];refine aE aD κ κ ?_;simp[go_sem]
attribute [go_sem] gvo oU mN
mutual
theorem refs_closed:∀s:SV,s.closed=true->s.refs=[]
 | .r x,_=>by simp[SV.refs]
 | .ptr ..,h=>by simp[SV.closed] at h
 | .sl ..,h=>by simp[SV.closed] at h
 | .mp ..,h=>by simp[SV.closed] at h
 | .fn f fi ca,h=>by
   simp only [SV.closed,Bool.and_eq_true] at h;simp[SV.refs,refsL_closed fi h.1,refsL_closed ca h.2]
 | .agg l,h=>by simp[SV.refs,refsL_closed l h]
 | .tup l,h=>by simp[SV.refs,refsL_closed l h]
theorem refsL_closed:∀l:List SV,SV.closedL l=true->SV.refsL l=[]
 | [],_=>by simp[SV.refsL]
 | s::l,h=>by
   simp only [SV.closedL,Bool.and_eq_true] at h;simp[SV.refsL,refs_closed s h.1,refsL_closed l h.2]
end
theorem mem_closed {l:List SV} (h:SV.closedL l=true):∀a∈l,a.refs=[]:=by
 induction l with
 | nil=>intro a ha;cases ha
 | cons s l ih=>
   simp only [SV.closedL,Bool.and_eq_true] at h;intro a ha;rcases List.mem_cons.1 ha with rfl | ha
   ·exact refs_closed _ h.1
   ·exact ih h.2 a ha
theorem aDp (x:Int):Pure Tryz.prog 310 [.i x] (· =.b false):=by
 refine π Tryz.func310 ?_;simp[go_sem]
def bU (a b:Int):Int:=if a<b then -1 else if b<a then 1 else 0
theorem aBg (a b:Int):Pure Tryz.prog 213 [.i a,.i b] (· =.i (bU a b)):=by
 refine π Tryz.func213 ?_;simp[go_sem];refine aA (aDp a) rfl rfl ?_;simp[go_sem];refine aA (aDp b) rfl rfl ?_;by_cases h:a<b
 ·simp[go_sem,bU,h]
 ·by_cases h2:b<a <;> simp[go_sem,bU,h,h2]
theorem bF3 (get:Nat->Nat->RV) (x y:Int) (h0:get 0 0=.i x) (h1:get 1 0=.i y):Pure Tryz.prog 212 [.r (.rs 1 2 get)] (· =.i (if x=0 then y else x)):=by
 refine π Tryz.func212 ?_;simp[go_sem];refine aH aD (α:=Nat) (λk=>[(3,.i 0),(6,.r (.rs 1 2 get)),(7,.i 2),(8,.i k)]) (λ_=>[]) 0 (λk=>k<=2/\(1<=k->x=0)/\(2<=k->y=0)) (λk=>2 - k) 0 (λ_=>rfl) τ ζ ζ ?_;rintro k J ⟨hk,a1,a2⟩;rcases(show k=0\/k=1\/k=2 by omega) with rfl | rfl | rfl
 ·by_cases hx:x=0
  ·simp[go_sem,h0,hx];exact⟨1,⟨ω,λh=>absurd h ω⟩,ω,ω⟩
  ·simp[go_sem,h0,hx]
 ·have hx:=a1 ω;by_cases hy:y=0
  ·simp[go_sem,h1,hx,hy];exact⟨2,ω,ω,ω⟩
  ·simp[go_sem,h1,hx,hy]
 ·have hx:=a1 ω;have hy:=a2 ω;simp[go_sem,hx,hy]
theorem aFs (x:BitVec 8):Pure Tryz.prog 436 [.y x] (· =.b false):=by
 refine π Tryz.func436 ?_;simp[go_sem]
theorem xH (a b:BitVec 8):Pure Tryz.prog 397 [.y a,.y b] (· =.i (bU a.toNat b.toNat)):=by
 refine π Tryz.func397 ?_;simp[go_sem];refine aA (aFs a) rfl rfl ?_;simp[go_sem];refine aA (aFs b) rfl rfl ?_;by_cases h:a.toNat<b.toNat
 ·simp[go_sem,bU,h]
 ·by_cases h2:b.toNat<a.toNat <;> simp[go_sem,bU,h,h2]
def dJ (a b c d:Int):Bool:=decide (a<c)||decide (a=c)&&decide (b<d)
def dM (a b c d:Int):Int:=if bU a c=0 then bU b d else bU a c
theorem eS {a b c d:Int}:dM a b c d<0↔dJ a b c d=true:=by
 unfold dM bU dJ;simp only [Bool.or_eq_true,Bool.and_eq_true,decide_eq_true_eq]
 repeat' split
 all_goals omega
theorem jQ {a b c d:Int}:dM a b c d=0↔a=c/\b=d:=by
 unfold dM bU
 repeat' split
 all_goals omega
theorem aMl (c m:BitVec 8) (n:Nat) (get:Nat->Nat->RV) (m2 c2:BitVec 8):Pure Tryz.prog 314 [.agg [.y c,.y m,.r (.rs 1 n get)],.agg [.y m2,.y c2]] (· =.i (dM m.toNat c.toNat m2.toNat c2.toNat)):=by
 refine π Tryz.func314 ?_;simp[go_sem];refine aE aD κ κ ?_;simp[go_sem];refine⟨_,aB (xH m m2) rfl rfl,?_⟩;simp[go_sem];refine⟨_,aB (xH c c2) rfl rfl,?_⟩;simp[go_sem];refine⟨_,dL (v:=.i (dM m.toNat c.toNat m2.toNat c2.toNat)) (by simp[go_sem];exact bF3 _ (bU m.toNat m2.toNat) (bU c.toNat c2.toNat) rfl rfl) rfl,?_⟩;simp[go_sem]
def dF (c:Nat->Int) (n:Nat):Nat:=((List.range n).find? λi=>decide (0<=c i)).getD n
theorem gP {c:Nat->Int} {n i:Nat} (hi:i<=n) (h1:∀j,j<i->c j<0) (h2:∀j,i<=j->j<n->0<=c j):dF c n=i:=by
 unfold dF;rcases Nat.lt_or_ge i n with h | h
 ·rw[List.find?_range_eq_some.2 ⟨by simpa using h2 i (Nat.le_refl i) h,List.mem_range.2 h,λj hj=>by have:=h1 j hj;simp;omega⟩];rfl
 ·have:i=n:=ω;subst this;rw[List.find?_eq_none.2 λj hj=>by have:=h1 j (List.mem_range.1 hj);simp;omega];rfl
theorem bnd_le {c:Nat->Int} {n:Nat}:dF c n<=n:=by
 unfold dF
 cases h:(List.range n).find? λi=>decide (0<=c i) with
 | none=>exact Nat.le_refl n
 | some i=>have:=List.find?_range_eq_some.1 h;have:=List.mem_range.1 this.2.1;simp;omega
def dP (c:Nat->Int) (n:Nat):Bool:=decide (dF c n<n)&&decide (c (dF c n)=0)
theorem mY {i j:Nat} (h:i+j<9223372036854775808):IntKind.i64.wrap (Int.fdiv (IntKind.u64.wrap ((i:Int)+(j:Int))) 2)=(((i+j) / 2:Nat):Int):=by
 rw[bX (k:=.u64) (by simp only [inr];omega),Int.fdiv_eq_ediv_of_nonneg _ ω,bX (k:=.i64) (by simp only [inr];omega)];omega
theorem aTe (n:Nat) (hn:(n:Int)<2 ^ 61) (get:Nat->Nat->RV) (t0 t1:BitVec 8) (g:FuncId) (ca:List SV) (hca:SV.closedL ca=true) (c:Nat->Int) (hm:∀a b,a<b->b<n->c b<0->c a<0)
 (hp:∀i,i<n->Pure Tryz.prog g (.agg [.r (get i 0),.r (get i 1),.r (get i 2)]::.agg [.y t0,.y t1]::ca) (· =.i (c i))) :
 Pure Tryz.prog 313 [.r (.rs 3 n get),.agg [.y t0,.y t1],.fn (.func g) [] ca] (· =.tup [.i (dF c n:Nat),.b (dP c n)]):=by
 refine π Tryz.func313 ?_;simp[go_sem];refine aH aD (α:=Nat × Nat) (λx=>[(0,.r (.rs 3 n get)),(2,.fn (.func g) [] ca),(4,.ptr 0 0 2 0),(8,.i n),(9,.i x.1),(10,.i x.2)]) (λ_=>[some (.box [.y t0,.y t1])]) 1
  (λx=>x.1<=x.2/\x.2<=n/\(∀j,j<x.1->c j<0)/\∀j,x.2<=j->j<n->0<=c j) (λx=>x.2 - x.1) (0,n) (λ_=>rfl) ι (by simp[go_sem,SV.trimL_closed _ _ hca]) ζ ?_
 have hr:∀r,r∈SV.refsL ca->r=0:=λr h=>by rw[refsL_closed _ hca] at h;cases h
 have hr2:∀a:SV,a∈ca->∀r:Nat,r∈a.refs->r=0:=λa ha r h=>by rw[mem_closed hca a ha] at h;cases h
 rintro⟨i,j⟩ J ⟨h1,h2,h3,h4⟩;dsimp only at h1 h2 h3 h4;simp[go_sem];split
 ·rename_i hlt;refine⟨ω,?_⟩;rw[mY ω];generalize hh:(i+j) / 2=h;have hb:i<=h/\h<j:=ω;refine aE aD κ κ ?_;simp[go_sem];refine⟨hr,ω,hr,hr2,_,aB (hp h ω) (by simp[go_sem,hca]) rfl,?_⟩;simp[go_sem];split
  ·rename_i hc;refine⟨ω,h+1,j,⟨ω,h2,λk hk=>?_,h4⟩,ω,by simp[SV.trimL_closed _ _ hca]⟩;by_cases hkh:k=h
   ·subst hkh;exact hc
   ·exact hm k h ω ω hc
  ·rename_i hc;refine⟨i,h,⟨ω,ω,h3,λk hk hkn=>?_⟩,ω,by simp[SV.trimL_closed _ _ hca]⟩;by_cases hkh:k=h
   ·subst hkh;omega
   ·have h5:¬c k<0:=λh6=>hc (hm h k ω hkn h6);omega
 ·rename_i hge;have hij:i=j:=ω;subst hij;have hbd:=gP (c:=c) h2 h3 h4;refine aE aD κ κ ?_;by_cases hin:i<n
  ·simp[go_sem,hin];refine⟨hr,hr2,_,aB (hp i hin) (by simp[go_sem,hca]) rfl,?_⟩;simp[go_sem,dP,hbd,hin]
  ·simp[go_sem,hin,dP,hbd]
theorem aRx (x:Int):Pure Tryz.prog 401 [.i x] (· =.b false):=by
 refine π Tryz.func401 ?_;simp[go_sem]
theorem aWc (a b:Int):Pure Tryz.prog 400 [.i a,.i b] (· =.b (decide (a<b))):=by
 refine π Tryz.func400 ?_;simp[go_sem];refine aA (aDp a) rfl rfl ?_;simp[go_sem]
theorem aTf (n:Nat) (hn:(n:Int)<2 ^ 61) (get:Nat->Nat->RV) (v:Nat->Int) (hv:∀i,i<n->get i 0=.i (v i)) (t:Int) (hm:∀a b,a<b->b<n->v b<t->v a<t) :
 Pure Tryz.prog 316 [.r (.rs 1 n get),.i t] (· =.tup [.i (dF (λi=>v i - t) n:Nat),.b (dP (λi=>v i - t) n)]):=by
 refine π Tryz.func316 ?_;simp[go_sem];refine aH aD (α:=Nat × Nat) (λx=>[(0,.r (.rs 1 n get)),(1,.i t),(6,.i n),(7,.i x.1),(8,.i x.2)]) (λ_=>[]) 0
  (λx=>x.1<=x.2/\x.2<=n/\(∀j,j<x.1->v j<t)/\∀j,x.2<=j->j<n->t<=v j) (λx=>x.2 - x.1) (0,n) (λ_=>rfl) ι ζ ζ ?_
 rintro⟨i,j⟩ J ⟨h1,h2,h3,h4⟩;dsimp only at h1 h2 h3 h4;simp[go_sem];split
 ·rename_i hlt;refine⟨ω,?_⟩;rw[mY ω];generalize hh:(i+j) / 2=h;have hb:i<=h/\h<j:=ω;have hvh:=hv h ω;simp[go_sem,hvh];refine⟨ω,aA (aWc (v h) t) rfl rfl ?_⟩;by_cases hc:v h<t
  ·simp[go_sem,hc];refine⟨ω,h+1,j,⟨ω,h2,λk hk=>?_,h4⟩,ω,τ⟩;by_cases hkh:k=h
   ·subst hkh;exact hc
   ·exact hm k h ω ω hc
  ·simp[go_sem,hc];refine⟨i,h,⟨ω,ω,h3,λk hk hkn=>?_⟩,ω,τ⟩;by_cases hkh:k=h
   ·subst hkh;omega
   ·have h5:¬v k<t:=λh6=>hc (hm h k ω hkn h6);omega
 ·rename_i hge;have hij:i=j:=ω;subst hij;have hbd:=gP (c:=λi=>v i - t) h2 (λj hj=>by have:=h3 j hj;omega) (λj hj hn=>by have:=h4 j hj hn;omega);by_cases hin:i<n
  ·have hvi:=hv i hin;by_cases he:v i=t
   ·simp[go_sem,hin,hvi,he,dP,hbd]
   ·simp[go_sem,hin,hvi,he];refine aA (aRx (v i)) rfl rfl ?_;have he2:¬v i - t=0:=ω;simp[go_sem,hin,he2,dP,hbd]
  ·simp[go_sem,hin,dP,hbd]
theorem aK1 (a b:Int) (x y:BitVec 64):Pure Tryz.prog 224 [.agg [.i a,.w x,.w y],.i b] (· =.i (bU a b)):=by
 refine π Tryz.func224 ?_;simp[go_sem];refine aA (aBg a b) rfl rfl ?_;simp[go_sem]
end Go.Gx.Ix
namespace Go.Gx.Ix
open Go.RowKit Go.Proofs Go.Proofs.YtncccnmmjfapnaaGreat
structure MbG where
 id:Int
 x:IrG
def MbG.f (a:MbG):Nat->RV
 | 0=>.i a.id
 | 1=>.w a.x.c
 | _=>.w a.x.m
@[go_sem]theorem MbG.f0 (a:MbG):a.f 0=.i a.id:=rfl
@[go_sem]theorem MbG.f1 (a:MbG):a.f 1=.w a.x.c:=rfl
@[go_sem]theorem MbG.f2 (a:MbG):a.f 2=.w a.x.m:=rfl
abbrev MbG.sv (a:MbG):SV:=.agg [.i a.id,.w a.x.c,.w a.x.m]
abbrev gN (l:List MbG):Nat->Nat->RV:=cQ MbG.f l
abbrev wH (l:List MbG):SV:=.r (.rs 3 l.length (gN l))
theorem mrow {l:List MbG} {i:Nat} (h:i<l.length) (j:Nat):gN l i j=l[i].f j:=bP (List.getElem?_eq_getElem h) j
theorem aTc (l:List MbG) (hn:(l.length:Int)<2 ^ 61) (t:Int) (hm:∀a b,a<b->∀hb:b<l.length,l[b].id<t->∀ha:a<l.length,l[a].id<t) (c:Nat->Int) (hc:∀i (hi:i<l.length),c i=bU l[i].id t) :
 Pure Tryz.prog 223 [wH l,.i t,.fn (.func 224) [] []] (· =.tup [.i (dF c l.length:Nat),.b (dP c l.length)]):=by
 refine π Tryz.func223 ?_;simp[go_sem];have cneg:∀i (hi:i<l.length),c i<0↔l[i].id<t:=λi hi=>by
  rw[hc i hi];unfold bU
  repeat' split
  all_goals omega
 refine aH aD (α:=Nat × Nat) (λx=>[(0,wH l),(1,.i t),(2,.fn (.func 224) [] []),(8,.i l.length),(9,.i x.1),(10,.i x.2)]) (λ_=>[]) 0
  (λx=>x.1<=x.2/\x.2<=l.length/\(∀j,j<x.1->c j<0)/\∀j,x.2<=j->j<l.length->0<=c j) (λx=>x.2 - x.1) (0,l.length) (λ_=>rfl) ι ζ ζ ?_
 rintro⟨i,j⟩ J ⟨h1,h2,h3,h4⟩;dsimp only at h1 h2 h3 h4;simp[go_sem];split
 ·rename_i hlt;refine⟨ω,?_⟩;rw[mY ω];generalize hh:(i+j) / 2=h;have hb:i<=h/\h<j:=ω;have hl:h<l.length:=ω;have r0:=mrow hl 0;have r1:=mrow hl 1;have r2:=mrow hl 2;simp[go_sem,r0,r1,r2];refine⟨ω,aA (aK1 l[h].id t l[h].x.c l[h].x.m) rfl rfl ?_⟩;rw[<- hc h hl];by_cases hcn:c h<0
  ·simp[go_sem,hcn];refine⟨ω,h+1,j,⟨ω,h2,λk hk=>?_,h4⟩,ω,τ⟩;by_cases hkh:k=h
   ·subst hkh;exact hcn
   ·exact(cneg k ω).2 (hm k h ω hl ((cneg h hl).1 hcn) ω)
  ·simp[go_sem,hcn];refine⟨i,h,⟨ω,ω,h3,λk hk hkn=>?_⟩,ω,τ⟩;by_cases hkh:k=h
   ·subst hkh;omega
   ·have h5:¬c k<0:=λh6=>hcn ((cneg h hl).2 (hm h k ω hkn ((cneg k hkn).1 h6) hl));omega
 ·rename_i hge;have hij:i=j:=ω;subst hij;have hbd:=gP (c:=c) h2 h3 h4;by_cases hin:i<l.length
  ·have r0:=mrow hin 0;have r1:=mrow hin 1;have r2:=mrow hin 2;simp[go_sem,hin,r0,r1,r2];refine aA (aK1 l[i].id t l[i].x.c l[i].x.m) rfl rfl ?_;rw[<- hc i hin];simp[go_sem,hin,dP,hbd]
  ·simp[go_sem,hin,dP,hbd]
def gL (get one:Nat->Nat->RV) (i:Nat):Nat->Nat->RV:=λr c=>if r<i then get r c else if r=i then one 0 c else get (r - 1) c
theorem aRv (n i:Nat) (hn:n<=1000000) (hi:i<=n) (get one:Nat->Nat->RV) :
 Own Tryz.prog 315 [.vec 220 3 n λr c=>.r (get r c),.vec 220 3 1 λr c=>.r (one r c)] [.sl 0 3 0 n none,.i i,.sl 1 3 0 1 none] (.sl 0 3 0 (n+1) none) [.vec 220 3 (n+1) λr c=>.r (gL get one i r c)]:=by
 refine γ Tryz.func315 ?_;simp[go_sem];refine⟨hi,?_⟩;by_cases hin:i=n
 ·subst hin;rw[if_pos rfl];refine⟨ω,[0],τ,λN=>⟨?_,?_⟩⟩
  ·simp[go_sem]
  ·simp[go_sem];intro r c hr hc;unfold aJ gL;by_cases h:r<i
   ·rw[if_pos h,if_pos h];rfl
   ·rw[if_neg h,if_pos hr,if_neg h,if_pos ω,show r - i=0 from ω];rfl
 rw[if_neg ω];refine⟨ω,?_⟩;refine sA aD (ref:=0) (kk:=3) (n:=n) ζ (M:=bD _) rfl rfl (by simp[dC]) ?_;intro C hC _ hC2;simp only [maxLen] at hC2;by_cases hc:C<n+1
 ·have hc':(C:Int)<(n:Int)+1:=ω;left;simp[go_sem,hc',hi];refine⟨ω,ω,⟨ω,ω,ω⟩,ω,?_⟩;refine bE aD κ 8 κ rfl rfl ?_;simp[go_sem,hi];have e1:i+(n+1 - i)=n+1:=ω;refine⟨ω,⟨ω,ω⟩,ω,[2],τ,λN=>⟨?_,?_⟩⟩
  ·simp[go_sem,e1]
  ·simp[go_sem];refine⟨ω,λr c hr hc=>?_⟩;unfold gL aJ
   repeat' split
   all_goals first | (exfalso;omega) | rfl | exact congrArg SV.r (congrFun (congrArg get ω) _) | exact congrArg SV.r (congrFun (congrArg one ω) _)
 ·have hc':¬(C:Int)<(n:Int)+1:=ω;have hn1:¬(n:Int)+1<=(n:Int):=ω;right;simp[go_sem,hc',hi,hn1];refine⟨ω,⟨ω,ω⟩,ω,ω,?_⟩;refine iG aD Tryz.func398 κ κ κ (tS:=133) (tR:=4) κ (el:=220) rfl rfl (q:=1) (r:=0) (hq:=rfl) (hr:=rfl) δ ω ω ω ?_;simp[go_sem,hi,hc'];refine bE aD κ 8 κ rfl rfl ?_;simp[go_sem,hi];refine⟨ω,ω,ω,⟨ω,ω⟩,ω,ω,[0],τ,λN=>⟨?_,?_⟩⟩
  ·simp[go_sem]
  ·simp[go_sem];refine⟨ω,λr c hr hc=>?_⟩;unfold gL
   repeat' split
   all_goals first | (exfalso;omega) | rfl | exact congrArg SV.r (congrFun (congrArg get ω) _) | exact congrArg SV.r (congrFun (congrArg one ω) _)
def eP (w:BitVec 64) (j:Nat):BitVec 8:=to8 (cA w (8*j))
theorem gB (x:IrG) (j:Nat) (hj:j<8):Pure Tryz.prog 116 [x.sv,.i j] (· =.agg [.y (eP x.m j),.y (eP x.c j)]):=by
 refine π Tryz.func116 ?_;simp[go_sem];refine bE aD κ 13 κ rfl rfl ?_;have h1:((8:Int)*j).toNat=8*j:=ω;simp[go_sem,h1,bAe,eP];omega
def mR (l:List Int) (id:Int):List Int:=l.take (dF (λi=>l.getD i 0 - id) l.length)++id::l.drop (dF (λi=>l.getD i 0 - id) l.length)
structure PsG where
 c:BitVec 8
 m:BitVec 8
 ids:List Int
abbrev iZ (l:List Int):Nat->Nat->RV:=cQ (λa _=>RV.i a) l
def PsG.f (a:PsG):Nat->RV
 | 0=>.y a.c
 | 1=>.y a.m
 | _=>.rs 1 a.ids.length (iZ a.ids)
@[go_sem]theorem PsG.f0 (a:PsG):a.f 0=.y a.c:=rfl
@[go_sem]theorem PsG.f1 (a:PsG):a.f 1=.y a.m:=rfl
@[go_sem]theorem PsG.f2 (a:PsG):a.f 2=.rs 1 a.ids.length (iZ a.ids):=rfl
abbrev cS (l:List PsG):Nat->Nat->RV:=cQ PsG.f l
abbrev nD (l:List PsG):Reg:=.vec 220 3 l.length λi j=>.r (cS l i j)
theorem tB {l:List PsG} {i:Nat} (h:i<l.length) (j:Nat):cS l i j=l[i].f j:=bP (List.getElem?_eq_getElem h) j
def pcm (L:List PsG) (m c:BitVec 8) (i:Nat):Int:=match L[i]? with | some p=>dM p.m.toNat p.c.toNat m.toNat c.toNat | none=>0
structure Srt (L:List PsG) (m c:BitVec 8) (id:Int):Prop where
 len:L.length<=1000
 cells:∀a b,a<b->b<L.length->pcm L m c b<0->pcm L m c a<0
 ids:∀p∈L,p.ids.length<=1000/\∀a b,a<b->b<p.ids.length->p.ids.getD b 0<id->p.ids.getD a 0<id
def pat (L:List PsG) (m c:BitVec 8):Nat:=dF (pcm L m c) L.length
def pis (L:List PsG) (m c:BitVec 8):Bool:=dP (pcm L m c) L.length
def addL (L:List PsG) (m c:BitVec 8):List PsG:=if pis L m c then L else L.take (pat L m c)++⟨c,m,[]⟩::L.drop (pat L m c)
def aAe (L:List PsG) (m c:BitVec 8) (id:Int):List PsG:=(addL L m c).modify (pat L m c) λp=>{p with ids:=mR p.ids id}
theorem aIq {L:List PsG} {m c:BitVec 8} {i:Nat} (h:i<L.length):pcm L m c i=dM L[i].m.toNat L[i].c.toNat m.toNat c.toNat:=by
 unfold pcm;rw[List.getElem?_eq_getElem h]
theorem bIo (L:List PsG) (m c:BitVec 8) (i:Nat) (h:i<L.length):Pure Tryz.prog 314 [.agg [.r (cS L i 0),.r (cS L i 1),.r (cS L i 2)],.agg [.y m,.y c]] (· =.i (pcm L m c i)):=by
 rw[tB h 0,tB h 1,tB h 2,aIq h];exact aMl _ _ _ _ _ _
theorem aJy (L:List PsG) (m c:BitVec 8):pat L m c<(addL L m c).length:=by
 have h1:pat L m c<=L.length:=bnd_le;unfold addL;split
 ·rename_i h;unfold pis dP at h;simp only [Bool.and_eq_true,decide_eq_true_eq] at h;exact h.1
 ·simp;omega
theorem aRs (L:List PsG) (p:PsG) (k:Nat) (hk:k<=L.length):gL (cS L) (cS [p]) k=cS (L.take k++p::L.drop k):=by
 funext r c;unfold gL cS cQ;rw[List.getElem?_append];have hl:(L.take k).length=k:=ι;rw[hl];by_cases h1:r<k
 ·rw[if_pos h1,if_pos h1,List.getElem?_take_of_lt h1]
 ·rw[if_neg h1,if_neg h1];by_cases h2:r=k
  ·subst h2;simp
  ·rw[if_neg h2];have e:r - k=(r - 1 - k)+1:=ω;rw[e,List.getElem?_cons_succ,List.getElem?_drop]
   congr 2;congr 1;omega
theorem aM5 (L:List PsG) (p:PsG) (k:Nat) (hn:L.length<=1000000) (hk:k<=L.length) :
 Own Tryz.prog 315 [nD L,.vec 220 3 1 λi j=>.r (cS [p] i j)] [.sl 0 3 0 L.length none,.i k,.sl 1 3 0 1 none] (.sl 0 3 0 (L.length+1) none) [.vec 220 3 (L.length+1) λi j=>.r (cS (L.take k++p::L.drop k) i j)]:=by
 rw[<- aRs L p k hk];exact aRv L.length k hn hk (cS L) (cS [p])
theorem bAo {L:List PsG} {m c:BitVec 8} {id:Int} (h:Srt L m c id):∀p∈addL L m c,p.ids.length<=1000/\∀a b,a<b->b<p.ids.length->p.ids.getD b 0<id->p.ids.getD a 0<id:=by
 intro p hp;unfold addL at hp;split at hp
 ·exact h.ids p hp
 ·rcases List.mem_append.1 hp with h1 | h1
  ·exact h.ids p (List.mem_of_mem_take h1)
  ·rcases List.mem_cons.1 h1 with rfl | h1
   ·simp
   ·exact h.ids p (List.mem_of_mem_drop h1)
theorem aF0 (L:List PsG) (k:Nat) (id:Int) (i j:Nat):cS (L.modify k λp=>{p with ids:=mR p.ids id}) i j=if h:i=k/\j=2/\k<L.length then .rs 1 (mR (L[k]'h.2.2).ids id).length (iZ (mR (L[k]'h.2.2).ids id)) else if 2<j then cS (L.modify k λp=>{p with ids:=mR p.ids id}) i j else cS L i j:=by
 split
 ·rename_i h;obtain⟨rfl,rfl,h⟩:=h;rw[tB (by simpa using h)];simp[PsG.f]
 ·rename_i h;split
  ·rfl
  ·unfold cS cQ;rw[List.getElem?_modify];by_cases hik:k=i
   ·subst hik
    cases hg:L[k]? with
    | none=>simp
    | some p=>
      have hk:k<L.length:=(List.getElem?_eq_some_iff.1 hg).1;simp only [if_true,Option.map_some];rcases(show j=0\/j=1 by omega) with rfl | rfl <;> rfl
   ·simp[hik]
theorem aBq (l:List Int) (id:Int) (q:Nat) (hq:q<=l.length):∀a,a<l.length+1->iZ (l.take q++id::l.drop q) a 0=if a<q then iZ l a 0 else if a=q then .i id else iZ l (a - 1) 0:=by
 intro a ha;unfold iZ cQ;rw[List.getElem?_append];have hl:(l.take q).length=q:=ι;rw[hl];by_cases h1:a<q
 ·rw[if_pos h1,if_pos h1,List.getElem?_take_of_lt h1]
 ·rw[if_neg h1,if_neg h1];by_cases h2:a=q
  ·subst h2;simp
  ·rw[if_neg h2];have e:a - q=(a - 1 - q)+1:=ω;rw[e,List.getElem?_cons_succ,List.getElem?_drop]
   congr 2;congr 1;omega
theorem uX (L:List PsG) (m c:BitVec 8) (id:Int) (h:Srt L m c id):Own Tryz.prog 219 [nD L] [.sl 0 3 0 L.length none,.agg [.y m,.y c],.i id] (.sl 0 3 0 (aAe L m c id).length none) [nD (aAe L m c id)]:=by
 refine cM aD Tryz.func219 rfl κ ν rfl rfl ?_;have hlen:=h.len;simp[go_sem];refine aG (v:=.tup [.i (pat L m c:Nat),.b (pis L m c)]) (by
  simp[go_sem];exact aTe L.length ω (cS L) m c 314 [] rfl (pcm L m c) h.cells (λi hi=>bIo L m c i hi)) rfl ?_
 have hle:pat L m c<=L.length:=bnd_le;have hat:=aJy L m c;simp[go_sem];obtain⟨L2,hL2⟩:∃L2,addL L m c=L2:=⟨_,rfl⟩;have hids:=bAo h;have hadd:aAe L m c id=L2.modify (pat L m c) λp=>{p with ids:=mR p.ids id}:=by rw[<- hL2];rfl
 rw[hL2] at hat hids;rw[hadd];generalize hk:pat L m c=k at *;have hat':(k:Int)<L2.length:=ω;have r2:=tB hat 2;obtain⟨hi1,hi2⟩:=hids L2[k] (List.getElem_mem hat);have hsr:=aTf L2[k].ids.length ω (iZ L2[k].ids) (λi=>L2[k].ids.getD i 0) (λi hi=>by unfold iZ;rw[bP (List.getElem?_eq_getElem hi)];simp[List.getD,List.getElem?_eq_getElem hi]) id hi2;have hins:mR L2[k].ids id=L2[k].ids.take (dF (λi=>L2[k].ids.getD i 0 - id) L2[k].ids.length)++id::L2[k].ids.drop (dF (λi=>L2[k].ids.getD i 0 - id) L2[k].ids.length):=rfl;have hql:dF (λi=>L2[k].ids.getD i 0 - id) L2[k].ids.length<=L2[k].ids.length:=bnd_le;generalize dF (λi=>L2[k].ids.getD i 0 - id) L2[k].ids.length=q at *;generalize dP (λi=>L2[k].ids.getD i 0 - id) L2[k].ids.length=fb at *
 cases hp:pis L m c
 ·have e2:L2=L.take k++⟨c,m,[]⟩::L.drop k:=by rw[<- hL2,<- hk];unfold addL;rw[if_neg (by rw[hp];simp)]
  have e3:L.length+1=L2.length:=by rw[e2];simp;omega
  simp[go_sem];refine xD (M':=fD [some (nD L),some (.box [.y m,.y c]),some (.vec 220 3 1 λi j=>.r (cS [⟨c,m,[]⟩] i j))]) (λr=>?_) (aF [0,2] (aM5 L ⟨c,m,[]⟩ k ω hle) τ rfl ?_ ?_)
  ·rcases(show r=0\/r=1\/r=2\/3<=r by omega) with rfl | rfl | rfl | hr
   ·exact .inl (Reg.sub_rfl _)
   ·exact .inl (Reg.sub_rfl _)
   ·refine Reg.wk_vec (Nat.le_refl _) λi j hi hj=>?_;obtain rfl:i=0:=ω;rcases(show j=0\/j=1\/j=2 by omega) with rfl | rfl | rfl
    ·exact SV.sub_rfl _
    ·exact SV.sub_rfl _
    ·show SV.sub (.r (.v (.slice none 0 0))) (.r (.rs 1 0 _));simp[SV.sub,RV.sub]
   ·have h1:fD [some (nD L),some (.box [.y m,.y c]),some (.vec 220 3 1 λi j=>.r (cS [⟨c,m,[]⟩] i j))] r=none:=by
     unfold fD;rw[List.getElem?_eq_none ι];rfl
    rw[h1];have h2:bD [nD L] r=none:=by rw[cE,List.getElem?_eq_none ι]
    rw[aW _ _ ω,aW _ _ ω,h2];exact .inl trivial
  ·simp[go_sem]
  ·rw[<- e2,e3];simp[go_sem,hat,hat',r2];refine aA hsr rfl rfl ?_;simp[go_sem,hat,hat',r2];refine⟨hql,?_⟩;refine aM (t:=(.take 0 (.take 1 (.take 2 (.take 3 (.take 6 (.take 7 (.take 8 (.take 9 (.take 10 (.take 11 (.take 12 (.alt 4 [12,11,10,9,8,7,6,3,2,1,0] (.alt 5 [12,11,10,9,8,7,6,2,1,0] (.alt 13 [12,11,10,9,8,7,6,1,0] (.take 14 (.take 15 (.alt 16 [15,14,11,10,9,8,7,6,1,0] (.done [14]) .nil))) .nil) .nil) .nil))))))))))))) aD κ κ κ (λ_ _ _ _ ⟨_,_,_,_,h⟩=>h) ?_;simp[go_sem,hat,hat',r2];refine⟨ω,ω,ω,ω,aV (GSt.freeze 5 rfl) (aV (GSt.wk (M':=λr=>if r=3 then some (nD (L2.modify k λp=>{p with ids:=mR p.ids id})) else none) λr=>?_) (aT ?_))⟩
   ·by_cases hr:r=3
    ·subst hr;refine Reg.wk_vec τ λi j hi hj=>?_;rw[aF0];by_cases e:i=k/\j=2
     ·obtain⟨rfl,rfl⟩:=e;rw[dif_pos ⟨rfl,rfl,hat⟩,hins];have hlen2:(L2[i].ids.take q++id::L2[i].ids.drop q).length=q+1+(L2[i].ids.length - q):=ι;rw[hlen2];simp[go_sem];intro a ha;rw[aBq _ _ q hql a ω];unfold aJ;by_cases c1:a<q+1
      ·by_cases c2:a<q
       ·simp[c1,c2,go_sem]
       ·have c3:a - q=0:=ω;have c4:a=q:=ω;simp[c1,c2,c3,c4,go_sem]
      ·have c2:¬a<q:=ω;have c3:¬a=q:=ω;have c4:q+(a - (q+1))=a - 1:=ω;simp[c1,c2,c3,c4,go_sem,ha]
     ·rw[dif_neg (λh=>e ⟨h.1,h.2.1⟩),if_neg ω];have e':¬(i=k/\2<=j/\j<3):=λh=>e ⟨h.1,ω⟩;simp[go_sem,e']
    ·rw[if_neg hr];exact .inl ζ
   ·simp[go_sem];refine⟨[3],τ,λN=>⟨ζ,?_⟩⟩;simp[go_sem]
 ·have hL:L=L2:=by rw[<- hL2];unfold addL;rw[if_pos hp]
  subst hL;simp[go_sem,hat,hat',r2];refine aA hsr rfl rfl ?_;simp[go_sem,hat,hat',r2];refine⟨hql,?_⟩;refine aM (t:=(.take 0 (.take 1 (.take 2 (.take 3 (.take 6 (.take 7 (.take 8 (.take 9 (.take 10 (.take 11 (.take 12 (.alt 4 [12,11,10,9,8,7,6,3,2,1,0] (.alt 5 [12,11,10,9,8,7,6,2,1,0] (.alt 13 [12,11,10,9,8,7,6,1,0] (.take 14 (.take 15 (.alt 16 [15,14,11,10,9,8,7,6,1,0] (.done [14]) .nil))) .nil) .nil) .nil))))))))))))) aD κ κ κ (λ_ _ _ _ ⟨_,_,_,_,h⟩=>h) ?_;simp[go_sem,hat,hat',r2];refine⟨ω,ω,ω,ω,aV (GSt.freeze 3 rfl) (aV (GSt.wk (M':=fD [some (nD (L.modify k λp=>{p with ids:=mR p.ids id}))]) λr=>?_) (aT ?_))⟩
  ·by_cases hr:r=0
   ·subst hr;refine Reg.wk_vec τ λi j hi hj=>?_;rw[aF0];by_cases e:i=k/\j=2
    ·obtain⟨rfl,rfl⟩:=e;rw[dif_pos ⟨rfl,rfl,hat⟩,hins];have hlen2:(L[i].ids.take q++id::L[i].ids.drop q).length=q+1+(L[i].ids.length - q):=ι;rw[hlen2];simp[go_sem];intro a ha;rw[aBq _ _ q hql a ω];unfold aJ;by_cases c1:a<q+1
     ·by_cases c2:a<q
      ·simp[c1,c2,go_sem]
      ·have c3:a - q=0:=ω;have c4:a=q:=ω;simp[c1,c2,c3,c4,go_sem]
     ·have c2:¬a<q:=ω;have c3:¬a=q:=ω;have c4:q+(a - (q+1))=a - 1:=ω;simp[c1,c2,c3,c4,go_sem,ha]
    ·rw[dif_neg (λh=>e ⟨h.1,h.2.1⟩),if_neg ω];have e':¬(i=k/\2<=j/\j<3):=λh=>e ⟨h.1,ω⟩;simp[go_sem,e']
   ·have:fD [some (nD (L.modify k λp=>{p with ids:=mR p.ids id}))] r=none:=by
     cases r with
     | zero=>exact absurd rfl hr
     | succ r=>rfl
    rw[this];exact .inl ζ
  ·simp[go_sem];refine⟨[0],τ,λN=>⟨ζ,?_⟩⟩;simp[go_sem]
end Go.Gx.Ix
namespace Go.Gx
open Go.RowKit
section
variable {P:Program} {T:Tab} {N:cZ} {E:Env} {M:Mem} {nx:Nat}
theorem MapOf.size {has:Int->Bool} {R:Int->Value->Prop} {es:List MapEntry} {ck:Nat} (h:MapOf has R es ck) {L:List Int} (hnd:L.Nodup) (hL:∀a,has a=true↔a∈L):es.length=L.length:=by
 obtain⟨h1,h2,h3,_⟩:=h
 let f:MapEntry->Int:=λe=>match e.key with | .int .i64 a=>a | _=>0
 have hf:∀e∈es,e.key=.int .i64 (f e):=λe he=>by
  obtain⟨a,h,_⟩:=h1 e he;show _=Value.int .i64 (match e.key with | .int .i64 a=>a | _=>0);rw[h]
 have hn:(es.map f).Nodup:=by
  rw[List.Nodup,List.pairwise_map];refine List.Pairwise.imp_of_mem (fun {x y} hx hy hxy e=>hxy.1 ?_) h3;rw[hf x hx,hf y hy,e]
 have hp:(es.map f).Perm L:=(List.perm_ext_iff_of_nodup hn hnd).2 λa=>by
  rw[<- hL,List.mem_map];constructor
  ·rintro⟨e,he,rfl⟩;obtain⟨a,k1,k2,_⟩:=h1 e he;rw[hf e he] at k1
   cases k1
   exact k2
  ·intro ha;obtain⟨e,he,k⟩:=h2 a ha;rw[hf e he] at k;exact⟨e,he,by cases k;rfl⟩
 have:=hp.length_eq;simpa using this
theorem aHa (hT:aX P T) {K:Env->Mem->Nat->Prop} {d:Option Tmp} {t ty:TypeId} {pos:String} {af:Array Edge} {x:Operand} {q:Nat} {has:Int->Bool} {val:Int->SV} {st:Option ((Int->Nat) × Nat)}
 (hx:ev E x=.mp q) (hQ:M q=some (.map has val st)) (ht:(aFz T t).isSome=true) (hd:dC N.n d) (L:List Int) (hnd:L.Nodup) (hL:∀a,has a=true↔a∈L)
 (h:K (aK E d (.i L.length)) M nx) :
 qZ P N ⟨d,.call ⟨.builtin .len,#[x],#[t]⟩,ty,pos,af,none⟩ E M nx K:=by
 intro B W w0 σ a w hs next Q' hK;refine dO ?_;obtain⟨e,he⟩:=Option.isSome_iff_exists.1 ht;obtain⟨k,hu,hk⟩:=lV hT he;have hr:=bA hs.env x;rw[hx] at hr;obtain⟨Lc,b,h1,h2,h3⟩:=hr;obtain⟨es,ck,g1,g2,g3⟩:=wL hs.mem hQ h1 h2;have hsz:es.size=L.length:=by have:=g2.size hnd hL;simpa using this
 have hrun:(execOp a.eval ⟨d,.call ⟨.builtin .len,#[x],#[t]⟩,ty,pos,af,none⟩).run P w=.ok (.value (.int .i64 L.length)) w:=by
  simp[execOp,resolve,invoke,builtin,Builtin.len_,h3,run_underlying hu,MapKept.run_getObj_map g1,hsz];rfl
 unfold Oper.wp;rw[hrun];exact hK _ _ _ _ _ _ h (St.put hs hd rfl)
end
end Go.Gx
namespace Go.Gx
open Go.RowKit
theorem uR {m b:Nat} {w:World}:tgc true m w b↔m<=b/\∀c t fr,w.heap[b]? =some (Obj.cells c t fr)->fr=(0,0):=by simp[tgc]
theorem aTm {m b:Nat} {w:World}:tgc false m w b↔b<m:=by simp[tgc]
theorem aXr {m b:Nat} {w:World} (h:m<=w.heap.size) (hb:w.heap.size<=b):tgc true m w b:=uR.2 ⟨Nat.le_trans h hb,λc t fr e=>by rw[Array.getElem?_eq_none hb] at e;cases e⟩
def RV.tag (h:Bool) (m:Nat):RV->RV
 | .any=>.any
 | .v y=>.v y
 | .bx φ=>.bx φ
 | x=>.tg h m x
theorem RV.untag {h:Bool} {m:Nat} {Z Z':Nat->Prop} {w:World} (hz:∀b,Z b->tgc h m w b->Z' b) {x:RV} {y:Value} (hx:(x.tag h m).rel Z w y):x.rel Z' w y:=by
 unfold RV.tag at hx;split at hx
 ·trivial
 ·exact hx
 ·exact hx
 ·exact RV.rel_mono (λb hb=>⟨hz b hb.1 hb.2,rfl⟩) x y hx
theorem RV.totag {h:Bool} {m:Nat} {Z Z':Nat->Prop} {w:World} (hz:∀b,Z' b->Z b/\tgc h m w b) {x:RV} {y:Value} (hx:x.rel Z' w y):(x.tag h m).rel Z w y:=by
 unfold RV.tag;split
 ·trivial
 ·exact hx
 ·exact hx
 ·exact RV.rel_mono (λb hb=>⟨hz b hb,rfl⟩) x y hx
mutual
def SV.tag (h:Bool) (m:Nat):SV->SV
 | .r x=>.r (x.tag h m)
 | .ptr q row k fld=>.ptr q row k fld
 | .sl q k lo n c=>.sl q k lo n c
 | .mp q=>.mp q
 | .fn f fi ca=>.fn f (SV.tagL h m fi) (SV.tagL h m ca)
 | .agg l=>.agg (SV.tagL h m l)
 | .tup l=>.tup (SV.tagL h m l)
def SV.tagL (h:Bool) (m:Nat):List SV->List SV
 | []=>[]
 | s::l=>s.tag h m::SV.tagL h m l
end
def Reg.tag (h:Bool) (m:Nat):Reg->Reg
 | .box l=>.box (SV.tagL h m l)
 | .vec e k n g=>.vec e k n λi j=>(g i j).tag h m
 | .map has val st=>.map has (λa=>(val a).tag h m) st
 | .iter q f c all left la=>.iter (q.tag h m) f c all left la
section
variable {σ:Sig} {Z Z':Nat->Prop} {w:World} {h:Bool} {m:Nat}
mutual
theorem SV.untag (hz:∀b,Z b->tgc h m w b->Z' b):∀(s:SV) (y:Value),(s.tag h m).rel σ Z w y->s.rel σ Z' w y
 | .r x,y,hx=>RV.untag hz hx
 | .ptr ..,y,hx=>hx
 | .sl ..,y,hx=>hx
 | .mp ..,y,hx=>hx
 | .fn f fi ca,y,hx=>by
   obtain⟨vs,ws,e,h1,h2⟩:=hx;exact⟨vs,ws,e,SV.untagL hz _ _ h1,SV.untagL hz _ _ h2⟩
 | .agg l,y,hx=>by
   obtain⟨vs,e,h1,h2⟩:=hx;exact⟨vs,e,h1,SV.untagL hz _ _ h2⟩
 | .tup l,y,hx=>by
   obtain⟨vs,e,h2⟩:=hx;exact⟨vs,e,SV.untagL hz _ _ h2⟩
theorem SV.untagL (hz:∀b,Z b->tgc h m w b->Z' b):∀(l:List SV) (ys:List Value),SV.relL σ Z w (SV.tagL h m l) ys->SV.relL σ Z' w l ys
 | [],ys,hx=>hx
 | s::l,ys,hx=>by
   obtain⟨v,vs,e,h1,h2⟩:=hx;exact⟨v,vs,e,SV.untag hz _ _ h1,SV.untagL hz _ _ h2⟩
end
mutual
theorem SV.totag (hz:∀b,Z' b->Z b/\tgc h m w b):∀(s:SV) (y:Value),s.rel σ Z' w y->(s.tag h m).rel σ Z w y
 | .r x,y,hx=>RV.totag hz hx
 | .ptr ..,y,hx=>hx
 | .sl ..,y,hx=>hx
 | .mp ..,y,hx=>hx
 | .fn f fi ca,y,hx=>by
   obtain⟨vs,ws,e,h1,h2⟩:=hx;exact⟨vs,ws,e,SV.totagL hz _ _ h1,SV.totagL hz _ _ h2⟩
 | .agg l,y,hx=>by
   obtain⟨vs,e,h1,h2⟩:=hx;exact⟨vs,e,h1,SV.totagL hz _ _ h2⟩
 | .tup l,y,hx=>by
   obtain⟨vs,e,h2⟩:=hx;exact⟨vs,e,SV.totagL hz _ _ h2⟩
theorem SV.totagL (hz:∀b,Z' b->Z b/\tgc h m w b):∀(l:List SV) (ys:List Value),SV.relL σ Z' w l ys->SV.relL σ Z w (SV.tagL h m l) ys
 | [],ys,hx=>hx
 | s::l,ys,hx=>by
   obtain⟨v,vs,e,h1,h2⟩:=hx;exact⟨v,vs,e,SV.totag hz _ _ h1,SV.totagL hz _ _ h2⟩
end
theorem RegOK.untag {L:rY} {R:Reg} (hz:∀b,Z b->tgc h m w b->Z' b) (hR:RegOK σ Z w L (R.tag h m)):RegOK σ Z' w L R:=by
 cases R with
 | box l=>
   obtain⟨b',cs,ty,h1,h2,h3,h4⟩:=hR;exact⟨b',cs,ty,h1,h2,h3,SV.untagL hz _ _ h4⟩
 | vec e k n g=>
   obtain⟨h0,hm,hh | ⟨b',cs,h1,h2,h3,ho,h5⟩⟩:=hR
   ·exact⟨h0,hm,.inl hh⟩
   ·refine⟨h0,hm,.inr ⟨b',cs,h1,h2,h3,ho,λi j hi hj=>?_⟩⟩;obtain⟨v,hv,ho,hr⟩:=h5 i j hi hj;exact⟨v,hv,ho,SV.untag hz _ _ hr⟩
 | map has val st=>
   obtain⟨b',es,ck,h1,h2,h3,h4⟩:=hR;exact⟨b',es,ck,h1,h2,h3.mono λa v _ hv=>SV.untag hz _ _ hv,h4⟩
 | iter q f c all left la=>
   obtain⟨b',mo,seen,sp,h1,h2,h3,h4,h5⟩:=hR;exact⟨b',mo,seen,sp,h1,h2,h3,SV.untag hz _ _ h4,h5⟩
theorem RegOK.totag {L:rY} {R:Reg} (hz:∀b,Z' b->Z b/\tgc h m w b) (hR:RegOK σ Z' w L R):RegOK σ Z w L (R.tag h m):=by
 cases R with
 | box l=>
   obtain⟨b',cs,ty,h1,h2,h3,h4⟩:=hR;exact⟨b',cs,ty,h1,h2,h3,SV.totagL hz _ _ h4⟩
 | vec e k n g=>
   obtain⟨h0,hm,hh | ⟨b',cs,h1,h2,h3,ho,h5⟩⟩:=hR
   ·exact⟨h0,hm,.inl hh⟩
   ·refine⟨h0,hm,.inr ⟨b',cs,h1,h2,h3,ho,λi j hi hj=>?_⟩⟩;obtain⟨v,hv,ho,hr⟩:=h5 i j hi hj;exact⟨v,hv,ho,SV.totag hz _ _ hr⟩
 | map has val st=>
   obtain⟨b',es,ck,h1,h2,h3,h4⟩:=hR;exact⟨b',es,ck,h1,h2,h3.mono λa v _ hv=>SV.totag hz _ _ hv,h4⟩
 | iter q f c all left la=>
   obtain⟨b',mo,seen,sp,h1,h2,h3,h4,h5⟩:=hR;exact⟨b',mo,seen,sp,h1,h2,h3,SV.totag hz _ _ h4,h5⟩
end
def aBp (h0:Nat):Gd:=⟨λB W w0=>w0.heap.size=h0/\∀b,¬W b,true,false⟩
def aDl (m:Nat):Gd:=⟨λB W w0=>m<=w0.heap.size,true,false⟩
def PureW (P:Program) (f:FuncId) (args:List SV) (V:Nat->SV):Prop:=
 ∀(Z:Nat->Prop) (w:World) (vs:List Value),(∀b,Z b->b<w.heap.size)->SV.relL (λ_=>none) Z w args vs->
  (callFunc f vs.toArray).run P w=.ok (.enter f vs.toArray) w/\
  Calls P f vs.toArray w λe w'=>∃y,e=.returned y/\(V w.heap.size).rel (λ_=>none) (λb=>Z b\/(w.heap.size<=b/\b<w'.heap.size)) w' y/\FrS false (λ_=>False) w.heap.size w w'
abbrev aEp (P:Program) (m np:Nat) (f:FuncId) (Rs:List Reg) (args:List SV) (S:SV) (Rs':List Reg):Prop:=OwnSC P false (λw=>m<=w.heap.size) np f Rs args S Rs'
section
variable {P:Program} {T:Tab}
theorem pA (hT:aX P T) {f:FuncId} {fn:Func} (hf:P.funcs[f]? =some fn) {c:Code} (hb:fn.body=some c) (hn:(fn.name== "runtime.NumGoroutine")=false) {args:List SV} (hlen:args.length<=fn.ntmps) {V:Nat->SV}
 {N:Nat} {rs:List ResultVar} (hN:fn.ntmps=N) (hrs:fn.results.toList=rs) (h:∀h0,GC P T ⟨N,0,aBp h0⟩ c [] (mQ T rs λs M=>fU M s λs'=>s'.sub (V h0)) (kT args) lH 0):PureW P f args V:=by
 subst hN;subst hrs;intro Z w vs hZ ha;refine⟨fB hf hb hn _,?_⟩;have hm:MOK (λb=>Z b\/w.heap.size<=b) (λ_=>False) w.heap.size (λ_=>none) lH (eF 0) w:=
  ⟨λb hb=>.inr (hb.elim id False.elim),λ_ _=>rfl,λr R h=>(by cases h),λr r' R R' L L' b h=>(by cases h),λr R L b h=>(by cases h)⟩
 have hk:bZ Z (Zof (λb=>Z b\/w.heap.size<=b) (λ_=>none) lH w) w w:=λb hb=>⟨⟨⟨hZ b hb,.inl hb⟩,λr R L h=>(by cases h)⟩,rfl⟩;have hg:=h w.heap.size;rw[sQ] at hg;refine(eQ hT hf hb hlen (Nat.le_refl 0) (good:=aBp w.heap.size) ⟨rfl,λ_ h=>h⟩ hm (SV.relL_mono (λ_ _ h=>h) hk _ _ ha) hg).mono λe w' h'=>?_;obtain⟨s,y,σ',M',nx',rfl,hK,hrel,hm',hfr,_⟩:=h';obtain⟨s',k1,r1⟩:=lT (Z':=λb=>Z b\/(w.heap.size<=b/\b<w'.heap.size)) hm' (λb hb=>hb.1.2.imp id λh=>⟨h,hb.1.1⟩) (λr R L b h1 h2 h3=>.inr (by
  obtain⟨L',e1,e2⟩:=hm'.reg r R h1;rw[h2] at e1;cases e1;refine⟨?_,e2.block h3⟩;rcases hm'.own r R L b h1 h2 h3 with h | h
  ·exact h.elim
  ·exact h)) s _ y hK hrel
 exact⟨y,rfl,SV.sub_rel _ _ _ k1 r1,⟨hfr.os,hfr.tape,hfr.output,hfr.size,hfr.drawn,λb hb _=>hfr.block b hb (λh=>h)⟩⟩
def PureK (P:Program) (f:FuncId) (args:List SV) (φ:SV->Prop):Prop:=
 ∀(Z:Nat->Prop) (w:World) (vs:List Value),(∀b,Z b->b<w.heap.size)->SV.relL (λ_=>none) Z w args vs->
  (callFunc f vs.toArray).run P w=.ok (.enter f vs.toArray) w/\
  Calls P f vs.toArray w λe w'=>∃y s,e=.returned y/\φ s/\s.rel (λ_=>none) (λb=>Z b\/(w.heap.size<=b/\b<w'.heap.size)) w' y/\FrS false (λ_=>False) w.heap.size w w'
theorem aGa (hT:aX P T) {f:FuncId} {fn:Func} (hf:P.funcs[f]? =some fn) {c:Code} (hb:fn.body=some c) (hn:(fn.name== "runtime.NumGoroutine")=false) {args:List SV} (hlen:args.length<=fn.ntmps) {v:SV}
 {N:Nat} {rs:List ResultVar} (hN:fn.ntmps=N) (hrs:fn.results.toList=rs) (h:∀h0,GC P T ⟨N,0,aBp h0⟩ c [] (mQ T rs λs M=>fU M s λs'=>s'.sub v) (kT args) lH 0):PureK P f args (· =v):=by
 intro Z w vs hz ha;obtain⟨h1,h2⟩:=pA hT hf hb hn hlen hN hrs (V:=λ_=>v) h Z w vs hz ha;exact⟨h1,h2.mono λe w' ⟨y,e1,e2,e3⟩=>⟨y,v,e1,rfl,e2,e3⟩⟩
theorem oY (hT:aX P T) {f:FuncId} {fn:Func} (hf:P.funcs[f]? =some fn) {c:Code} (hb:fn.body=some c) (hn:(fn.name== "runtime.NumGoroutine")=false) {args:List SV} (hlen:args.length<=fn.ntmps) {Rs Rs':List Reg} {S:SV}
 {N m:Nat} {rs:List ResultVar} (hN:fn.ntmps=N) (hrs:fn.results.toList=rs) (np:Nat) (hnp:np<=Rs.length) (h:GC P T ⟨N,np,aDl m⟩ c [] (mQ T rs λs M=>∃ρl,lG np 0 ρl/\vQ M s ρl S Rs') (kT args) (bD Rs) Rs.length):aEp P m np f Rs args S Rs':=by
 subst hN;subst hrs;intro B σ w vs hmw hm ha;refine⟨fB hf hb hn _,?_⟩;rw[sQ] at h;refine(eQ hT hf hb hlen hnp (good:=aDl m) hmw hm ha h).mono λe w' h'=>?_;obtain⟨s,y,σ',M',nx',rfl,⟨ρl,hk,h1,h2⟩,hrel,hm',hfr,_,hpin⟩:=h';obtain⟨h3,h4⟩:=h2 nx';obtain⟨m1,m2⟩:=hm'.export (hm'.fresh nx' (Nat.le_refl nx')) h1 h4;refine⟨y,_,rfl,m1,SV.rel_mono (λ_ _ h=>h) (λb hb=>⟨m2 b hb,rfl⟩) _ _ ((SV.rel_ren _ _).1 (SV.sub_rel _ _ _ h3 hrel)),⟨hfr.os,hfr.tape,hfr.output,hfr.size,hfr.drawn,hfr.block⟩,λr hr=>?_⟩;have:=rM hk r hr;simp only [this,Nat.zero_add,Option.getD_some];exact hpin r hr
theorem oV {h:Bool} {m:Nat} (Rs:List Reg) (r:Nat):bD (Rs.map (Reg.tag h m)) r=(bD Rs r).map (Reg.tag h m):=by
 rw[cE,cE,List.getElem?_map]
theorem OwnS.hi {m cp:Nat} {f:FuncId} {Rs Rs':List Reg} {args:List SV} {S:SV} (hp:OwnS P cp f Rs args S Rs') (hcp:cp=Rs.length) (hle:Rs.length<=Rs'.length) :
 aEp P m cp f (Rs.map (Reg.tag true m)) (SV.tagL true m args) (S.tag true m) (Rs'.map (Reg.tag true m)):=by
 subst hcp;intro B σ w vs hmw hm ha;have hWeq:iS σ (bD (Rs.map (Reg.tag true m)))=iS σ (bD Rs):=by
  funext b;refine propext ⟨λ⟨r,R,L,h1,h2,h3⟩=>?_,λ⟨r,R,L,h1,h2,h3⟩=>⟨r,R.tag true m,L,by rw[oV,h1];rfl,h2,h3⟩⟩;rw[oV] at h1
  cases hq:bD Rs r with
  | none=>rw[hq] at h1;cases h1
  | some R1=>exact⟨r,R1,L,hq,h2,h3⟩
 have hdom:∀r R,bD Rs r=some R->bD (Rs.map (Reg.tag true m)) r=some (R.tag true m):=λr R h=>by rw[oV,h];rfl
 let B1:Nat->Prop:=λb=>(B b/\tgc true m w b)\/iS σ (bD Rs) b\/w.heap.size<=b
 have hz1:∀b,Zof B σ (bD (Rs.map (Reg.tag true m))) w b->tgc true m w b->Zof B1 σ (bD Rs) w b:=λb hb ht=>
  ⟨⟨hb.1.1,.inl ⟨hb.1.2,ht⟩⟩,λr R L h1 h2 h3=>hb.2 r _ L (hdom r R h1) h2 h3⟩
 have hm1:MOK B1 (iS σ (bD Rs)) w.heap.size σ (bD Rs) (eF Rs.length) w:=by
  refine⟨λb hb=>.inr hb.symm,λr hr=>hm.fresh r (by simpa [eF] using hr),λr R h=>?_,λr r' R R' L L' b h1 h2 h3 h4 h5 h6=>?_,λr R L b h1 h2 h3=>.inl ⟨r,R,L,h1,h2,h3⟩⟩
  ·obtain⟨L,g1,g2⟩:=hm.reg r _ (hdom r R h);exact⟨L,g1,g2.untag hz1⟩
  ·exact hm.inj r r' _ _ L L' b (hdom r R h1) (hdom r' R' h2) h3 h4 h5 h6
 obtain⟨c1,c2⟩:=hp B1 σ w vs hm1 (SV.untagL hz1 _ _ ha);refine⟨c1,c2.mono λe w' h'=>?_⟩;obtain⟨y,σ',rfl,hm',hr,hf,hpin⟩:=h';have hB1:∀b,Zof B1 σ' (bD Rs') w' b->B b/\tgc true m w' b:=λb hb=>by
  rcases hb.1.2 with h | ⟨r,R,L,h1,h2,h3⟩ | h
  ·exact⟨h.1,hf.drawn.tgc h.2 (.inl rfl)⟩
  ·exfalso;have hr:r<Rs.length:=by
    rw[cE] at h1;exact(List.getElem?_eq_some_iff.1 h1).1
   have hR':bD Rs' r=some (Rs'[r]' ω):=by rw[cE];exact List.getElem?_eq_getElem ω
   exact hb.2 r _ L hR' (by rw[hpin r hr];exact h2) h3
  ·exact⟨hm.newB b (.inl h),hf.drawn.tgc (aXr hmw h) (.inl rfl)⟩
 have hz2:∀b,Zof B1 σ' (bD Rs') w' b->Zof B σ' (bD (Rs'.map (Reg.tag true m))) w' b/\tgc true m w' b:=λb hb=>
  ⟨⟨⟨hb.1.1,(hB1 b hb).1⟩,λr R L h1 h2 h3=>by
    rw[oV] at h1
    cases hq:bD Rs' r with
    | none=>rw[hq] at h1;cases h1
    | some R1=>exact hb.2 r R1 L hq h2 h3⟩,(hB1 b hb).2⟩
 have hdom':∀r R,bD (Rs'.map (Reg.tag true m)) r=some R->∃R1,bD Rs' r=some R1/\R=R1.tag true m:=λr R h=>by
  rw[oV] at h
  cases hq:bD Rs' r with
  | none=>rw[hq] at h;cases h
  | some R1=>rw[hq] at h;cases h;exact⟨R1,rfl,rfl⟩
 refine⟨y,σ',rfl,⟨hm.newB,λr hr=>hm'.fresh r (by simpa [eF] using hr),λr R h=>?_,λr r' R R' L L' b h1 h2 h3 h4 h5 h6=>?_,λr R L b h1 h2 h3=>?_⟩,SV.totag hz2 _ _ hr,by rw[hWeq];exact hf.to,hpin⟩
 ·obtain⟨R1,e1,rfl⟩:=hdom' r R h;obtain⟨L,g1,g2⟩:=hm'.reg r R1 e1;exact⟨L,g1,g2.totag hz2⟩
 ·obtain⟨R1,e1,_⟩:=hdom' r R h1;obtain⟨R2,e2,_⟩:=hdom' r' R' h2;exact hm'.inj r r' R1 R2 L L' b e1 e2 h3 h4 h5 h6
 ·obtain⟨R1,e1,_⟩:=hdom' r R h1;rw[hWeq];exact hm'.own r R1 L b e1 h2 h3
theorem aPo {N:cZ} {f:FuncId} {args args':List SV} {M:Mem} {nx:Nat} {K:SV->Mem->Nat->(SV->SV)->Prop} (hl:∀σ Z w vs,SV.relL σ Z w args vs->SV.relL σ Z w args' vs) (h:dV P N f args' M nx K):dV P N f args M nx K:=
 λB W w0 σ w vs hm hn hnp hgd ha=>h B W w0 σ w vs hm hn hnp hgd (hl _ _ _ _ ha)
def aJf (h:Bool) (m:Nat) (M:Mem):Mem:=λr=>(M r).map (Reg.tag h m)
theorem aL3 {N:cZ} {h0:Nat} {f:FuncId} {args:List SV} {V:Nat->SV} {M:Mem} {nx:Nat} {K:SV->Mem->Nat->(SV->SV)->Prop} (hp:PureW P f args V) (hu:N.good.u=true->false=true) (hg:∀B W (w0:W0),N.good.p B W w0->h0<=w0.heap.size) (hc:SV.closedL args=true) (hv:∀m,(V m).closed=true)
 (hK:∀m,h0<=m->K (V m) (aJf false m M) nx (SV.tag false m)):dV P N f args M nx K:=by
 intro B W w0 σ w vs hm hn hl hgd ha;obtain⟨h1,h2⟩:=hp (Zof B σ M w) w vs (λb hb=>hb.1.1) (SV.relL_closed (λb hb=>⟨hb,rfl⟩) _ _ hc ha);refine .inl ⟨h1,h2.mono λe w' h=>?_⟩;obtain⟨y,rfl,hr,hf⟩:=h;have hsame:∀b,b<w.heap.size->w'.heap[b]? =w.heap[b]?:=λb hb=>hf.block b hb (λh=>h);have hkk:bZ (Zof B σ M w) (Zof B σ M w) w w':=λb hb=>⟨hb,hsame b hb.1.1⟩;have hdom:∀r R,aJf false w.heap.size M r=some R->∃R1,M r=some R1/\R=R1.tag false w.heap.size:=λr R h=>by
  unfold aJf at h
  cases hq:M r with
  | none=>rw[hq] at h;cases h
  | some R1=>rw[hq] at h;cases h;exact⟨R1,rfl,rfl⟩
 have hreg:∀b,(b<w'.heap.size/\B b)/\(∀r R L,M r=some R->σ r=some L->L.at_≠some b)->Zof B σ (aJf false w.heap.size M) w' b:=λb hb=>⟨hb.1,λr R L h1 h2 h3=>by
  obtain⟨R1,e1,_⟩:=hdom r R h1;exact hb.2 r R1 L e1 h2 h3⟩
 have hz:∀b,Zof B σ M w b->Zof B σ (aJf false w.heap.size M) w' b/\tgc false w.heap.size w' b:=λb hb=>⟨hreg b ⟨⟨Nat.lt_of_lt_of_le hb.1.1 hf.size,hb.1.2⟩,hb.2⟩,aTm.2 hb.1.1⟩;refine⟨y,V w.heap.size,aJf false w.heap.size M,nx,σ,SV.tag false w.heap.size,rfl,hK _ (Nat.le_trans (hg B W w0 hgd) hn),⟨hm.newB,λr hr=>hm.fresh r hr,λr R h=>?_,λr r' R R' L L' b h1 h2 h3 h4 h5 h6=>?_,λr R L b h1 h2 h3=>?_⟩,λb hb=>⟨(hz b hb).1,hsame b hb.1.1⟩,
  SV.rel_closed (λb hb=>⟨?_,rfl⟩) _ y (hv _) hr,λt z ht=>SV.totag hz _ _ (SV.rel_mono (λ_ _ h=>h) hkk _ _ ht),⟨hf.os,hf.tape,hf.output,hf.size,hf.drawn.as hu,λb hb _=>hsame b ω⟩,hl,λ_ _=>rfl⟩
 ·obtain⟨R1,e1,rfl⟩:=hdom r R h;obtain⟨L,g1,g2⟩:=hm.reg r R1 e1;exact⟨L,g1,(g2.mono (λ_ _ h=>h) hkk λb hb=>hsame b (g2.block hb)).totag hz⟩
 ·obtain⟨R1,e1,_⟩:=hdom r R h1;obtain⟨R2,e2,_⟩:=hdom r' R' h2;exact hm.inj r r' R1 R2 L L' b e1 e2 h3 h4 h5 h6
 ·obtain⟨R1,e1,_⟩:=hdom r R h1;exact hm.own r R1 L b e1 h2 h3
 ·rcases hb with hb | hb
  ·exact(hz b hb).1
  ·refine hreg b ⟨⟨hb.2,hm.newB b (.inl ω)⟩,λr R L h1 h2 h3=>?_⟩;obtain⟨L',e1,e2⟩:=hm.reg r R h1;rw[h2] at e1;cases e1;have:=e2.block h3;omega
abbrev aHc (P:Program) (np:Nat) (f:FuncId) (Rs:List Reg) (args:List SV) (S:SV) (Rs':List Reg):Prop:=OwnSC P false (λ_=>True) np f Rs args S Rs'
theorem aHm {N:cZ} {cp:Nat} {f:FuncId} {Rs Rs':List Reg} {args0 args:List SV} {S:SV} {M:Mem} {nx:Nat} {K:SV->Mem->Nat->(SV->SV)->Prop} (ρl:List Nat) (hp:aHc P cp f Rs args0 S Rs') (hu:N.good.u=true->false=true) (hcp:cp<=Rs.length) (hnd:ρl.Nodup)
 (ha:args=SV.renL (λi=>(ρl[i]?).getD nx) args0) (hM:atM M (λi=>(ρl[i]?).getD nx) ρl Rs)
 (hK:K (S.ren (rS cp nx ρl)) (tV (rS cp nx ρl) 0 Rs' (oJ ρl M)) (nx+Rs'.length) id):dV P N f args M nx K:=
 oE ρl hp hu (λ_ _ _ _ _ _=>trivial) hcp hnd ha hM hK
theorem aIm (hT:aX P T) {f:FuncId} {fn:Func} (hf:P.funcs[f]? =some fn) {c:Code} (hb:fn.body=some c) (hn:(fn.name== "runtime.NumGoroutine")=false) {args:List SV} (hlen:args.length<=fn.ntmps) {Rs Rs':List Reg} {S:SV}
 {N:Nat} {rs:List ResultVar} (hN:fn.ntmps=N) (hrs:fn.results.toList=rs) (np:Nat) (hnp:np<=Rs.length) (h:GC P T ⟨N,np,aDl 0⟩ c [] (mQ T rs λs M=>∃ρl,lG np 0 ρl/\vQ M s ρl S Rs') (kT args) (bD Rs) Rs.length):aHc P np f Rs args S Rs':=
 λB σ w vs _ hm ha=>oY hT hf hb hn hlen hN hrs np hnp h B σ w vs (Nat.zero_le _) hm ha
theorem fT {N:cZ} {f:FuncId} {args:List SV} {v:SV} {M:Mem} {nx:Nat} {K:SV->Mem->Nat->(SV->SV)->Prop} (hp:PureK P f args (· =v)) (hu:N.good.u=true->false=true) (hc:SV.closedL args=true) (hv:v.closed=true) (hK:K v M nx id):dV P N f args M nx K:=by
 intro B W w0 σ w vs hm hn hl hgd ha;obtain⟨h1,h2⟩:=hp (Zof B σ M w) w vs (λb hb=>hb.1.1) (SV.relL_closed (λb hb=>⟨hb,rfl⟩) _ _ hc ha);refine .inl ⟨h1,h2.mono λe w' h=>?_⟩;obtain⟨y,s,rfl,rfl,hr,hf⟩:=h;refine iD hm hn (hf.as hu) hK (SV.rel_closed (λb hb=>⟨?_,rfl⟩) _ y hv hr) hl;rcases hb with hb | hb
 ·exact⟨⟨Nat.lt_of_lt_of_le hb.1.1 hf.size,hb.1.2⟩,hb.2⟩
 ·refine⟨⟨hb.2,hm.newB b (.inl ω)⟩,λr R L h1 h2 h3=>?_⟩;obtain⟨L',e1,e2⟩:=hm.reg r R h1;rw[h2] at e1;cases e1;have:=e2.block h3;omega
theorem nE (hT:aX P T) {f:FuncId} {fn:Func} (hf:P.funcs[f]? =some fn) {c:Code} (hb:fn.body=some c) (hn:(fn.name== "runtime.NumGoroutine")=false) {args:List SV} (hlen:args.length<=fn.ntmps) {φ:SV->Prop}
 {N:Nat} {rs:List ResultVar} (hN:fn.ntmps=N) (hrs:fn.results.toList=rs) (h:GC P T ⟨N,0,aTz⟩ c [] (mQ T rs λs M=>fU M s φ) (kT args) lH 0):PureK P f args φ:=by
 subst hN;subst hrs;intro Z w vs hZ ha;refine⟨fB hf hb hn _,?_⟩;have hm:MOK (λb=>Z b\/w.heap.size<=b) (λ_=>False) w.heap.size (λ_=>none) lH (eF 0) w:=
  ⟨λb hb=>.inr (hb.elim id False.elim),λ_ _=>rfl,λr R h=>(by cases h),λr r' R R' L L' b h=>(by cases h),λr R L b h=>(by cases h)⟩
 have hk:bZ Z (Zof (λb=>Z b\/w.heap.size<=b) (λ_=>none) lH w) w w:=λb hb=>⟨⟨⟨hZ b hb,.inl hb⟩,λr R L h=>(by cases h)⟩,rfl⟩;rw[sQ] at h;refine(eQ hT hf hb hlen (Nat.le_refl 0) (good:=aTz) trivial hm (SV.relL_mono (λ_ _ h=>h) hk _ _ ha) h).mono λe w' h'=>?_;obtain⟨s,y,σ',M',nx',rfl,hK,hrel,hm',hfr,_⟩:=h';obtain⟨s',k1,r1⟩:=lT (Z':=λb=>Z b\/(w.heap.size<=b/\b<w'.heap.size)) hm' (λb hb=>hb.1.2.imp id λh=>⟨h,hb.1.1⟩) (λr R L b h1 h2 h3=>.inr (by
  obtain⟨L',e1,e2⟩:=hm'.reg r R h1;rw[h2] at e1;cases e1;refine⟨?_,e2.block h3⟩;rcases hm'.own r R L b h1 h2 h3 with h | h
  ·exact h.elim
  ·exact h)) s φ y hK hrel
 exact⟨y,s',rfl,k1,r1,⟨hfr.os,hfr.tape,hfr.output,hfr.size,hfr.drawn,λb hb _=>hfr.block b hb (λh=>h)⟩⟩
theorem PureK.le {f:FuncId} {args:List SV} {u v:SV} (h:PureK P f args (· =u)) (hl:∀Z w y,u.rel (λ_=>none) Z w y->v.rel (λ_=>none) Z w y):PureK P f args (· =v):=λZ w vs hZ ha=>by
 obtain⟨h1,h2⟩:=h Z w vs hZ ha;exact⟨h1,h2.mono λe w' ⟨y,s,e1,e2,e3,e4⟩=>⟨y,v,e1,rfl,hl _ _ _ (e2▸e3),e4⟩⟩
theorem PureK.ofSub {f:FuncId} {args:List SV} {v:SV} (h:PureK P f args λs=>s.sub v):PureK P f args (· =v):=λZ w vs hZ ha=>by
 obtain⟨h1,h2⟩:=h Z w vs hZ ha;exact⟨h1,h2.mono λe w' ⟨y,s,e1,e2,e3,e4⟩=>⟨y,v,e1,rfl,SV.sub_rel _ _ _ e2 e3,e4⟩⟩
theorem aNh {f:FuncId} {args:List SV} {S:SV} {Rs':List Reg} {φ:SV->Prop} (h:aHc P 0 f [] args S Rs') (hv:fU (bD Rs') S φ):PureK P f args φ:=by
 intro Z w vs hZ ha;have cX:∀r,bD [] r=none:=λr=>by rw[cE];rfl
 have hno:∀b,¬iS (λ_=>none) (bD []) b:=by
  rintro b ⟨r,R,L,h1,_⟩;rw[cX] at h1;cases h1
 have hm:MOK (λb=>Z b\/w.heap.size<=b) (iS (λ_=>none) (bD [])) w.heap.size (λ_=>none) (bD []) (eF ([]:List Reg).length) w:=
  ⟨λb hb=>.inr (hb.elim id λh=>(hno b h).elim),λ_ _=>rfl,λr R h=>(by rw[cX] at h;cases h),λr r' R R' L L' b h=>(by rw[cX] at h;cases h),λr R L b h=>(by rw[cX] at h;cases h)⟩
 have hk:bZ Z (Zof (λb=>Z b\/w.heap.size<=b) (λ_=>none) (bD []) w) w w:=λb hb=>⟨⟨⟨hZ b hb,.inl hb⟩,λr R L h=>(by rw[cX] at h;cases h)⟩,rfl⟩;obtain⟨h1,h2⟩:=h _ _ w vs trivial hm (SV.relL_mono (λ_ _ h=>h) hk _ _ ha);refine⟨h1,h2.mono λe w' h'=>?_⟩;obtain⟨y,σ',rfl,hm',hrel,hfr,_⟩:=h';obtain⟨s',k1,r1⟩:=lT (Z':=λb=>Z b\/(w.heap.size<=b/\b<w'.heap.size)) hm' (λb hb=>hb.1.2.imp id λh=>⟨h,hb.1.1⟩) (λr R L b h1 h2 h3=>.inr (by
  obtain⟨L',e1,e2⟩:=hm'.reg r R h1;rw[h2] at e1;cases e1;refine⟨?_,e2.block h3⟩;rcases hm'.own r R L b h1 h2 h3 with h | h
  ·exact(hno _ h).elim
  ·exact h)) S φ y hv hrel
 exact⟨y,s',rfl,k1,r1,⟨hfr.os,hfr.tape,hfr.output,hfr.size,hfr.drawn,λb hb _=>hfr.block b hb (hno b)⟩⟩
theorem aF6 (hT:aX P T) {f:FuncId} {fn:Func} (hf:P.funcs[f]? =some fn) {c:Code} (hb:fn.body=some c) (hn:(fn.name== "runtime.NumGoroutine")=false) {args:List SV} (hlen:args.length<=fn.ntmps) {Rs Rs':List Reg} {S:SV}
 {N:Nat} {rs:List ResultVar} (hN:fn.ntmps=N) (hrs:fn.results.toList=rs) (h:GC P T ⟨N,0,aDl 0⟩ c [] (mQ T rs λs M=>∃ρl,vQ M s ρl S Rs') (kT args) (bD Rs) Rs.length):aHc P 0 f Rs args S Rs':=by
 refine aIm hT hf hb hn hlen hN hrs 0 (Nat.zero_le _) ?_;have e:(λ(s:SV) (M:Mem)=>∃ρl,lG 0 0 ρl/\vQ M s ρl S Rs')=λs M=>∃ρl,vQ M s ρl S Rs':=by
  funext s M;simp[lG]
 rw[e];exact h
end
end Go.Gx
