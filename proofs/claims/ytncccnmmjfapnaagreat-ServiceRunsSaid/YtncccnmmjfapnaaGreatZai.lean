/-
 Texts of the walk, merged: Ia Ib Ic Id Ie If Ig Ih Ii Ij.
-/
import Derived.Test.YtncccnmmjfapnaaGreatZag
import Derived.Test.YtncccnmmjfapnaaGreatZah
import Derived.Lib.BitFns
import Derived.Shelf.SlSortCmp.WholeK
import Derived.Shelf.SlSortCmp.NoneTotal
import Derived.Shelf.Lay
import Derived.Ground.SlsfProg
import Derived.Ground.NamesProg
import Derived.Sort.AssemblyPlain
set_option linter.unusedVariables false
set_option linter.unusedSimpArgs false
set_option maxRecDepth 100000
set_option maxHeartbeats 4000000
namespace Go.Gx.Ix
open Go.RowKit Go.Proofs Go.Proofs.YtncccnmmjfapnaaGreat
abbrev _root_.Go.Gx.RV.w (x:BitVec 64):RV:=.v (.int .u64 x.toNat)
abbrev _root_.Go.Gx.SV.w (x:BitVec 64):SV:=.r (.w x)
abbrev _root_.Go.Gx.SV.h (x:BitVec 16):SV:=.r (.v (.int .u16 x.toNat))
abbrev _root_.Go.Gx.RV.y (x:BitVec 8):RV:=.v (.int .u8 x.toNat)
abbrev _root_.Go.Gx.SV.y (x:BitVec 8):SV:=.r (.y x)
@[go_sem]theorem sO (z:BitVec 64):IntKind.u64.wrap (z.toNat:Int)=z.toNat:=by
  have:=z.isLt;simp only [IntKind.wrap,IntKind.bits,IntKind.signed];simp;omega
@[go_sem]theorem aRu (z:BitVec 16):IntKind.u16.wrap (z.toNat:Int)=z.toNat:=by
  have:=z.isLt;simp only [IntKind.wrap,IntKind.bits,IntKind.signed];simp;omega
@[go_sem]theorem tE (z:BitVec 8):IntKind.u8.wrap (z.toNat:Int)=z.toNat:=by
  have:=z.isLt;simp only [IntKind.wrap,IntKind.bits,IntKind.signed];simp;omega
theorem toNat_inj {n:Nat} (x y:BitVec n):((x.toNat:Int)=y.toNat)↔x=y:=by
 constructor
 ·intro h;exact BitVec.eq_of_toNat_eq ω
 ·rintro rfl;rfl
theorem kH {n:Nat} (x:BitVec n):x.toNat=0↔x=0#n:=by
 constructor
 ·intro h;exact BitVec.eq_of_toNat_eq (by simpa using h)
 ·rintro rfl;rfl
def bY (x:BitVec 64) (n:Nat):BitVec 64:=x >>> n
def bP (x:BitVec 64) (n:Nat):BitVec 64:=x <<< n
def aGk (x:BitVec 16) (n:Nat):BitVec 16:=x >>> n
def xV (x:BitVec 16) (n:Nat):BitVec 16:=x <<< n
def uS (x:BitVec 64):BitVec 16:=x.setWidth 16
def to8 (x:BitVec 64):BitVec 8:=x.setWidth 8
def aU9 (x:BitVec 16):BitVec 64:=x.setWidth 64
def bJ (x y:BitVec 64):BitVec 64:=x &&& y
def iO (x y:BitVec 64):BitVec 64:=x ||| y
def bV (x y:BitVec 64):BitVec 64:=x ^^^ y
def cX (x y:BitVec 64):BitVec 64:=x &&& ~~~y
def sU (x y:BitVec 64):BitVec 64:=x+y
def dC (x y:BitVec 64):Prop:=x.toNat+y.toNat<18446744073709551616
def aQc (x y:BitVec 16):BitVec 16:=x ||| y
def qJ (x y:BitVec 8):BitVec 8:=x &&& y
def aHz (x y:BitVec 8):BitVec 8:=x ^^^ y
theorem aRh (a b:Int):nU .and (.r (.v (.int .u64 a))) (.r (.v (.int .u64 b)))=.pure True (.w (bJ (BitVec.ofInt 64 a) (BitVec.ofInt 64 b))):=by
 show GR.pure _ (.r (.v (.int .u64 (IntKind.u64.wrap ((BitVec.ofInt 64 a &&& BitVec.ofInt 64 b).toNat:Int)))))=_;rw[sO];simp;rfl
theorem aK1 (a b:Int):nU .or (.r (.v (.int .u64 a))) (.r (.v (.int .u64 b)))=.pure True (.w (iO (BitVec.ofInt 64 a) (BitVec.ofInt 64 b))):=by
 show GR.pure _ (.r (.v (.int .u64 (IntKind.u64.wrap ((BitVec.ofInt 64 a ||| BitVec.ofInt 64 b).toNat:Int)))))=_;rw[sO];simp;rfl
theorem aSo (a b:Int):nU .xor (.r (.v (.int .u64 a))) (.r (.v (.int .u64 b)))=.pure True (.w (bV (BitVec.ofInt 64 a) (BitVec.ofInt 64 b))):=by
 show GR.pure _ (.r (.v (.int .u64 (IntKind.u64.wrap ((BitVec.ofInt 64 a ^^^ BitVec.ofInt 64 b).toNat:Int)))))=_;rw[sO];simp;rfl
theorem aGx (a b:Int):nU .andNot (.r (.v (.int .u64 a))) (.r (.v (.int .u64 b)))=.pure True (.w (cX (BitVec.ofInt 64 a) (BitVec.ofInt 64 b))):=by
 show GR.pure _ (.r (.v (.int .u64 (IntKind.u64.wrap ((cX (BitVec.ofInt 64 a) (BitVec.ofInt 64 b)).toNat:Int)))))=_;rw[sO];simp
theorem aU8 (a b:Int):nU .or (.r (.v (.int .u16 a))) (.r (.v (.int .u16 b)))=.pure True (.h (aQc (BitVec.ofInt 16 a) (BitVec.ofInt 16 b))):=by
 show GR.pure _ (.r (.v (.int .u16 (IntKind.u16.wrap ((BitVec.ofInt 16 a ||| BitVec.ofInt 16 b).toNat:Int)))))=_;rw[aRu];simp;rfl
def aQi (a b:Int):Int:=IntKind.i64.wrap ((BitVec.ofInt 64 a &&& BitVec.ofInt 64 b).toNat:Nat)
theorem aT0 (a b:Int):nU .and (.r (.v (.int .i64 a))) (.r (.v (.int .i64 b)))=.pure True (.r (.v (.int .i64 (aQi a b)))):=by
 show GR.pure _ (.r (.v (.int .i64 (aQi a b))))=_;simp
theorem aTf (x y:BitVec 64):nU .add (.r (.v (.int .u64 x.toNat))) (.r (.v (.int .u64 y.toNat)))=.pure (IntKind.u64=IntKind.u64/\inr .u64 ((x.toNat:Int)+y.toNat)) (.r (.v (.int .u64 ((x.toNat:Int)+y.toNat)))):=rfl
theorem zA (a:Nat):IntKind.u64.wrap (a:Int)=(BitVec.ofNat 64 a).toNat:=by
 simp[IntKind.wrap,IntKind.bits,IntKind.signed]
theorem zF (a:Nat):IntKind.u16.wrap (a:Int)=(BitVec.ofNat 16 a).toNat:=by
 simp[IntKind.wrap,IntKind.bits,IntKind.signed]
theorem aL4 {w:Nat} (x n:Nat):x*2 ^ min n w % 2 ^ w=x <<< n % 2 ^ w:=by
 rw[Nat.shiftLeft_eq];rcases Nat.le_total n w with h | h
 ·rw[Nat.min_eq_left h]
 ·rw[Nat.min_eq_right h];have h2:2 ^ n=2 ^ (n - w)*2 ^ w:=by rw[<- Nat.pow_add];congr 1;omega
  rw[h2,<- Nat.mul_assoc];simp
theorem yI (x:BitVec 64) (k:IntKind) (b:Int):nU .shl (.r (.v (.int .u64 x.toNat))) (.r (.v (.int k b)))=.pure (0<=b) (.w (bP x b.toNat)):=by
 show GR.pure _ (.r (.v (.int .u64 (IntKind.u64.wrap (((x.toNat:Int)*2 ^ min b.toNat 64))))))=_;have h:IntKind.u64.wrap ((x.toNat:Int)*2 ^ min b.toNat 64)=((bP x b.toNat).toNat:Int):=by
  rw[show((x.toNat:Int)*2 ^ min b.toNat 64)=((x.toNat*2 ^ min b.toNat 64:Nat):Int) from τ,zA];simp only [BitVec.toNat_ofNat,bP,BitVec.toNat_shiftLeft];exact congrArg _ (aL4 (w:=64) _ _)
 rw[h]
theorem aSz (x:BitVec 16) (k:IntKind) (b:Int):nU .shl (.r (.v (.int .u16 x.toNat))) (.r (.v (.int k b)))=.pure (0<=b) (.h (xV x b.toNat)):=by
 show GR.pure _ (.r (.v (.int .u16 (IntKind.u16.wrap (((x.toNat:Int)*2 ^ min b.toNat 16))))))=_;have h:IntKind.u16.wrap ((x.toNat:Int)*2 ^ min b.toNat 16)=((xV x b.toNat).toNat:Int):=by
  rw[show((x.toNat:Int)*2 ^ min b.toNat 16)=((x.toNat*2 ^ min b.toNat 16:Nat):Int) from τ,zF];simp only [BitVec.toNat_ofNat,xV,BitVec.toNat_shiftLeft];exact congrArg _ (aL4 (w:=16) _ _)
 rw[h]
theorem yH (a n:Nat):((a:Int)).fdiv (2 ^ n)=((a / 2 ^ n:Nat):Int):=by
 rw[Int.fdiv_eq_ediv_of_nonneg _ (Int.le_of_lt (Int.pow_pos δ))];simp
theorem aDa {w x n:Nat} (hx:x<2 ^ w):x / 2 ^ min n w=x >>> n:=by
 rw[Nat.shiftRight_eq_div_pow];rcases Nat.le_total n w with h | h
 ·rw[Nat.min_eq_left h]
 ·rw[Nat.min_eq_right h,Nat.div_eq_of_lt hx,Nat.div_eq_of_lt (Nat.lt_of_lt_of_le hx (Nat.pow_le_pow_right δ h))]
theorem aZt (x:BitVec 64) (n:Nat):((x.toNat:Int)).fdiv (2 ^ min n 64)=(bY x n).toNat:=by rw[yH,aDa (w:=64) x.isLt];rfl
theorem aSy (x:BitVec 64) (k:IntKind) (b:Int):nU .shr (.r (.v (.int .u64 x.toNat))) (.r (.v (.int k b)))=.pure (0<=b) (.w (bY x b.toNat)):=by
 show GR.pure _ (.r (.v (.int .u64 (((x.toNat:Int)).fdiv (2 ^ min b.toNat 64)))))=_;rw[yH,aDa (w:=64) x.isLt];rfl
theorem aPf (x:BitVec 16) (k:IntKind) (b:Int):nU .shr (.r (.v (.int .u16 x.toNat))) (.r (.v (.int k b)))=.pure (0<=b) (.h (aGk x b.toNat)):=by
 show GR.pure _ (.r (.v (.int .u16 (((x.toNat:Int)).fdiv (2 ^ min b.toNat 16)))))=_;rw[yH,aDa (w:=16) x.isLt];rfl
def GBn (P:Program) (T:Tab) (N:dW) (op:BinOp) (t t2:TypeId) (ox oy:Operand) (x y:SV) (d:Option Tmp) (ty:TypeId) (pos:String) (af:Array Edge) (all:Array Oper) (rest:List Oper) (k:List It) (Q:GQ) (E:Env) (M:Mem) (nx:Nat):Prop:=
 cO P T N ⟨d,.binOp op t ox oy t2,ty,pos,af,none⟩ (lH T op t x y) d all rest k Q E M nx
section
variable {P:Program} {T:Tab} {N:dW} {t t2:TypeId} {ox oy:Operand} {d:Option Tmp} {ty:TypeId} {pos:String} {af:Array Edge} {all:Array Oper} {rest:List Oper} {k:List It} {Q:GQ} {E:Env} {M:Mem} {nx:Nat}
@[go_sem high]theorem bDj (op:BinOp) (t:TypeId) (x y:Operand) (t2:TypeId):GO P T N all (⟨d,.binOp op t x y t2,ty,pos,af,none⟩::rest) k Q E M nx=(dH N.n d/\GBn P T N op t t2 x y (ev E x) (ev E y) d ty pos af all rest k Q E M nx):=(rfl)
@[go_sem low]theorem bH2 (op:BinOp) (x y:SV):GBn P T N op t t2 ox oy x y d ty pos af all rest k Q E M nx=cO P T N ⟨d,.binOp op t ox oy t2,ty,pos,af,none⟩ (lH T op t x y) d all rest k Q E M nx:=(rfl)
theorem iR {op:BinOp} {x y s:SV} {ob:Prop} (h:nU op x y=.pure ob s):GBn P T N op t t2 ox oy x y d ty pos af all rest k Q E M nx=(ob/\GO P T N all rest k Q (aK E d s) M nx):=by
 unfold GBn lH;rw[h];rfl
@[go_sem]theorem bCk (a b:Int):GBn P T N .and t t2 ox oy (.r (.v (.int .u64 a))) (.r (.v (.int .u64 b))) d ty pos af all rest k Q E M nx=GO P T N all rest k Q (aK E d (.w (bJ (BitVec.ofInt 64 a) (BitVec.ofInt 64 b)))) M nx:=by rw[iR (aRh a b)];simp
@[go_sem]theorem bCs (x y:BitVec 64):GBn P T N .add t t2 ox oy (.r (.v (.int .u64 x.toNat))) (.r (.v (.int .u64 y.toNat))) d ty pos af all rest k Q E M nx=(dC x y/\GO P T N all rest k Q (aK E d (.w (sU x y))) M nx):=by
  rw[iR (aTf x y)];have e:(IntKind.u64=IntKind.u64/\inr .u64 ((x.toNat:Int)+y.toNat))=dC x y:=by
   simp only [inr,dC,true_and,eq_iff_iff];omega
  rw[e];have h:dC x y->((x.toNat:Int)+y.toNat)=(sU x y).toNat:=λh=>by
   unfold dC at h;unfold sU;rw[BitVec.toNat_add];omega
  apply propext;constructor
  ·rintro⟨h1,h2⟩;exact⟨h1,by rw[h h1] at h2;exact h2⟩
  ·rintro⟨h1,h2⟩;exact⟨h1,by rw[h h1];exact h2⟩
@[go_sem]theorem bG9 (a b:Int):GBn P T N .and t t2 ox oy (.r (.v (.int .i64 a))) (.r (.v (.int .i64 b))) d ty pos af all rest k Q E M nx=GO P T N all rest k Q (aK E d (.r (.v (.int .i64 (aQi a b))))) M nx:=by
  rw[iR (aT0 a b)];simp
@[go_sem]theorem bE5 (a b:Int):GBn P T N .or t t2 ox oy (.r (.v (.int .u64 a))) (.r (.v (.int .u64 b))) d ty pos af all rest k Q E M nx=GO P T N all rest k Q (aK E d (.w (iO (BitVec.ofInt 64 a) (BitVec.ofInt 64 b)))) M nx:=by rw[iR (aK1 a b)];simp
@[go_sem]theorem bCd (a b:Int):GBn P T N .xor t t2 ox oy (.r (.v (.int .u64 a))) (.r (.v (.int .u64 b))) d ty pos af all rest k Q E M nx=GO P T N all rest k Q (aK E d (.w (bV (BitVec.ofInt 64 a) (BitVec.ofInt 64 b)))) M nx:=by rw[iR (aSo a b)];simp
@[go_sem]theorem aWr (a b:Int):GBn P T N .andNot t t2 ox oy (.r (.v (.int .u64 a))) (.r (.v (.int .u64 b))) d ty pos af all rest k Q E M nx=GO P T N all rest k Q (aK E d (.w (cX (BitVec.ofInt 64 a) (BitVec.ofInt 64 b)))) M nx:=by rw[iR (aGx a b)];simp
@[go_sem]theorem bFe (a b:Int):GBn P T N .or t t2 ox oy (.r (.v (.int .u16 a))) (.r (.v (.int .u16 b))) d ty pos af all rest k Q E M nx=GO P T N all rest k Q (aK E d (.h (aQc (BitVec.ofInt 16 a) (BitVec.ofInt 16 b)))) M nx:=by rw[iR (aU8 a b)];simp
@[go_sem]theorem aMb (x:BitVec 64) (kk:IntKind) (b:Int):GBn P T N .shl t t2 ox oy (.r (.v (.int .u64 x.toNat))) (.r (.v (.int kk b))) d ty pos af all rest k Q E M nx=(0<=b/\GO P T N all rest k Q (aK E d (.w (bP x b.toNat))) M nx):=iR (yI x kk b)
@[go_sem]theorem bCu (x:BitVec 16) (kk:IntKind) (b:Int):GBn P T N .shl t t2 ox oy (.r (.v (.int .u16 x.toNat))) (.r (.v (.int kk b))) d ty pos af all rest k Q E M nx=(0<=b/\GO P T N all rest k Q (aK E d (.h (xV x b.toNat))) M nx):=iR (aSz x kk b)
@[go_sem]theorem bCi (x:BitVec 64) (kk:IntKind) (b:Int):GBn P T N .shr t t2 ox oy (.r (.v (.int .u64 x.toNat))) (.r (.v (.int kk b))) d ty pos af all rest k Q E M nx=(0<=b/\GO P T N all rest k Q (aK E d (.w (bY x b.toNat))) M nx):=iR (aSy x kk b)
@[go_sem]theorem bB8 (x:BitVec 16) (kk:IntKind) (b:Int):GBn P T N .shr t t2 ox oy (.r (.v (.int .u16 x.toNat))) (.r (.v (.int kk b))) d ty pos af all rest k Q E M nx=(0<=b/\GO P T N all rest k Q (aK E d (.h (aGk x b.toNat))) M nx):=iR (aPf x kk b)
end
@[go_sem]theorem bC9 (x:BitVec 64):IntKind.u16.wrap (x.toNat:Int)=(uS x).toNat:=by
  rw[zF];simp[uS]
@[go_sem]theorem bEz (x:BitVec 64):IntKind.u8.wrap (x.toNat:Int)=(to8 x).toNat:=by
  simp[IntKind.wrap,IntKind.bits,IntKind.signed,to8]
@[go_sem]theorem bDn (x:BitVec 16):IntKind.u64.wrap (x.toNat:Int)=(aU9 x).toNat:=by
  rw[zA];simp[aU9]
def vI (c m:BitVec 64):Bool:=decide (cX c m=0#64)
theorem pO (c m:BitVec 64):Pure Tryz.prog 56 [.agg [.w c,.w m]] (· =.i (if vI c m then 0 else 30)):=by
 refine π Tryz.func56 ?_;by_cases h:cX c m=0#64 <;> simp[go_sem,vI,h,kH]
theorem wN (c m:BitVec 64):Pure Tryz.prog 179 [.agg [.w c,.w m]] (· =.b (vI c m)):=by
 refine π Tryz.func179 ?_;by_cases h:cX c m=0#64 <;> simp[go_sem,vI,h,kH]
def btw (lo hi n:Int):Bool:=decide (lo<=n)&&decide (n<=hi)
theorem lS (n lo hi:Int):Pure Tryz.prog 69 [.i n,.i lo,.i hi] (· =.b (btw lo hi n)):=by
 refine π Tryz.func69 ?_;by_cases h:lo<=n <;> simp[go_sem,btw,h]
theorem aSf (n lo hi:Int):Pure Tryz.prog 266 [.i n,.i lo,.i hi] (· =.b (btw lo hi n)):=by
 refine π Tryz.func266 ?_;by_cases h:lo<=n <;> simp[go_sem,btw,h]
def vL (num den:Int):Bool:=btw 0 den num&&btw 1 1000 den
theorem aVp (num den:Int):Pure Tryz.prog 158 [.agg [.i num,.i den]] (· =.b (vL num den)):=by
 refine π Tryz.func158 ?_;by_cases h1:0<=num
 ·by_cases h2:num<=den
  ·simp[go_sem,h1,h2];refine aA (aSf den 1 1000) rfl rfl ?_;simp[go_sem,vL,btw,h1,h2]
  ·simp[go_sem,h1,h2,vL,btw]
 ·simp[go_sem,h1,vL,btw]
def qP (x:BitVec 16) (n:Nat):BitVec 16:=aQc (xV x n) (aGk x (16 - n))
theorem bGc (k:Int):bJ (BitVec.ofInt 64 (IntKind.u64.wrap k)) 15#64=BitVec.ofNat 64 (k % 16).toNat:=by
 apply BitVec.eq_of_toNat_eq;unfold bJ;rw[BitVec.toNat_and];have h1:(15#64).toNat=2 ^ 4 - 1:=rfl;rw[h1,Nat.and_two_pow_sub_one_eq_mod];have h2:IntKind.u64.wrap k=k % 18446744073709551616:=by simp[IntKind.wrap,IntKind.bits,IntKind.signed]
 rw[h2];simp only [BitVec.toNat_ofInt,BitVec.toNat_ofNat];have:0<=k % 16/\k % 16<16:=⟨Int.emod_nonneg _ δ,Int.emod_lt_of_pos _ δ⟩;omega
theorem aY8 (x:BitVec 16) (k:Int):Pure Tryz.prog 352 [.h x,.i k] (· =.h (qP x (k % 16).toNat)):=by
 refine π Tryz.func352 ?_;have hk:(k % 16).toNat<16:=by have:=Int.emod_lt_of_pos k (show(0:Int)<16 by decide);have:=Int.emod_nonneg k (show(16:Int)≠0 by decide);omega
 generalize hn:(k % 16).toNat=n at hk;have h1:=bGc k;rw[hn] at h1;have h3:n % 18446744073709551616=n:=ω;have h4:((16:Int) - n).toNat=16 - n:=ω;have h5:(n:Int)<=16:=ω;simp[go_sem,h1,h3,h4,h5,qP];omega
def sw1 (x:BitVec 64):BitVec 64:=sU (bJ (bY x 1) 6148914691236517205#64) (bJ x 6148914691236517205#64)
def sw2 (x:BitVec 64):BitVec 64:=sU (bJ (bY x 2) 3689348814741910323#64) (bJ x 3689348814741910323#64)
def sw3 (x:BitVec 64):BitVec 64:=bJ (sU (bY x 4) x) 1085102592571150095#64
def sw4 (x:BitVec 64) (n:Nat):BitVec 64:=sU x (bY x n)
theorem aQv (n:Int):IntKind.i64.wrap n=n % 18446744073709551616\/IntKind.i64.wrap n=n % 18446744073709551616 - 18446744073709551616:=by
 simp only [IntKind.wrap,IntKind.bits,IntKind.signed];by_cases h:(n % 2 ^ 64:Int) ≥ 2 ^ (64 - 1)
 ·right;simp at h ⊢;omega
 ·left;simp at h ⊢;omega
theorem bBc (x:BitVec 64):aQi (IntKind.i64.wrap (x.toNat:Int)) 127=(x.toNat % 128:Nat):=by
 have e1:BitVec.ofInt 64 (IntKind.i64.wrap (x.toNat:Int))=x:=by
  apply BitVec.eq_of_toNat_eq;rw[BitVec.toNat_ofInt];have hx:=x.isLt;rcases aQv (x.toNat:Int) with h | h <;> rw[h] <;> omega
 have e2:BitVec.ofInt 64 127=127#64:=rfl;unfold aQi;rw[e1,e2,BitVec.toNat_and,show(127#64).toNat=2 ^ 7 - 1 from rfl,Nat.and_two_pow_sub_one_eq_mod];exact bX (by simp only [inr];omega)
theorem aVk (x:BitVec 64) {x1 x2 x3 x4 x5 x6:BitVec 64} (h1:sw1 x=x1) (h2:sw2 x1=x2) (h3:sw3 x2=x3) (h4:sw4 x3 8=x4) (h5:sw4 x4 16=x5) (h6:sw4 x5 32=x6)
 (f1:dC (bJ (bY x 1) 6148914691236517205#64) (bJ x 6148914691236517205#64)) (f2:dC (bJ (bY x1 2) 3689348814741910323#64) (bJ x1 3689348814741910323#64)) (f3:dC (bY x2 4) x2)
 (f4:dC x3 (bY x3 8)) (f5:dC x4 (bY x4 16)) (f6:dC x5 (bY x5 32)):Pure Tryz.prog 112 [.w x] (· =.i (x6.toNat % 128:Nat)):=by
 refine π Tryz.func112 ?_;unfold sw1 at h1;unfold sw2 at h2;unfold sw3 at h3;unfold sw4 at h4 h5 h6;simp[go_sem,h1,h2,h3,h4,h5,h6,f1,f2,f3,f4,f5,f6,bBc]
theorem aJq {P:Program} {N:dW} {E:Env} {M:Mem} {nx:Nat} {K:Env->Mem->Nat->Prop} {d:Option Tmp} {t ty:TypeId} {pos:String} {af:Array Edge} {x i:Operand} {s:ByteArray} {kk:IntKind} {n:Nat} {b:UInt8}
 (hu:P.underlying t=some .string) (hx:ev E x=.r (.v (.string s))) (hi:ev E i=.r (.v (.int kk n))) (hb:s[n]? =some b) (hd:dH N.n d) (h:K (aK E d (.r (.v (.int .u8 b.toNat)))) M nx) :
 aA3 P N ⟨d,.index t x i,ty,pos,af,none⟩ E M nx K:=by
 intro B W w0 σ a w hs next Q' hK;refine dY ?_;have h1:=aW hs.env x;have h2:=aW hs.env i;rw[hx] at h1;rw[hi] at h2;have h1:a.eval x=.string s:=h1;have h2:a.eval i=.int kk n:=h2;have hrun:(execOp a.eval ⟨d,.index t x i,ty,pos,af,none⟩).run P w=.ok (.value (.int .u8 b.toNat)) w:=by
  simp[execOp,h1,h2,Instr.index,asIntOf,run_underlying hu,hb]
 unfold Oper.wp;rw[hrun];exact hK _ _ _ _ _ _ h (hs.put hd rfl)
theorem bAy (x:BitVec 8):Pure Tryz.prog 114 [.y x] (· =.i (Lib.onesCount x.toNat)):=by
 refine π Tryz.func114 ?_;simp[go_sem];obtain⟨b,hb,hc⟩:∃b:UInt8,Lib.pop8tab[x.toNat]? =some b/\b.toNat=Lib.onesCount x.toNat:=by
  have h:∀n:Fin 256,(Lib.pop8tab[n.val]?).isSome=true/\((Lib.pop8tab[n.val]?).getD 0).toNat=Lib.onesCount n.val:=by decide +kernel
  obtain⟨h1,h2⟩:=h ⟨x.toNat,x.isLt⟩;obtain⟨b,hb⟩:=Option.isSome_iff_exists.1 h1;exact⟨b,hb,by rw[<- h2,hb];rfl⟩
 refine aJq (s:=Lib.pop8tab) (n:=x.toNat) (b:=b) (kk:=.u8) κ κ ζ hb (by simp[dH]) ?_;have h8:IntKind.i64.wrap (Lib.onesCount x.toNat:Int)=Lib.onesCount x.toNat:=bX (by
  have:=Lib.onesCount_le8 ⟨x.toNat,x.isLt⟩;simp only [inr];simp at this;omega)
 simp[go_sem,hc,h8]
end Go.Gx.Ix
namespace Go.Gx.Ix
theorem aMh {k q m Y M:Nat} (hq:q<2 ^ k) (hm:m<2 ^ k):(2 ^ k*Y+q) &&& (2 ^ k*M+m)=2 ^ k*(Y &&& M)+(q &&& m):=by
 apply Nat.eq_of_testBit_eq;intro j;have h3:q &&& m<2 ^ k:=Nat.lt_of_le_of_lt Nat.and_le_left hq;rw[Nat.testBit_and,Nat.testBit_two_pow_mul_add _ hq,Nat.testBit_two_pow_mul_add _ hm,Nat.testBit_two_pow_mul_add _ h3];by_cases h:j<k
 ·simp[h,Nat.testBit_and]
 ·simp[h,Nat.testBit_and]
def mk (w:Nat):Nat->Nat
 | 0=>0
 | n+1=>2 ^ (2*w)*mk w n+(2 ^ w - 1)
theorem bDs (w:Nat):2 ^ w - 1<2 ^ (2*w):=by
 have h1:2 ^ w<=2 ^ (2*w):=Nat.pow_le_pow_right δ ω;have h2:0<2 ^ w:=Nat.pow_pos δ;omega
theorem aDi (w n X:Nat):X &&& mk w (n+1)=2 ^ (2*w)*((X / 2 ^ (2*w)) &&& mk w n)+X % 2 ^ w:=by
 have h:=aMh (k:=2*w) (q:=X % 2 ^ (2*w)) (m:=2 ^ w - 1) (Y:=X / 2 ^ (2*w)) (M:=mk w n) (Nat.mod_lt _ (Nat.pow_pos δ)) (bDs w);rw[Nat.div_add_mod] at h;show X &&& (2 ^ (2*w)*mk w n+(2 ^ w - 1))=_;rw[h,Nat.and_two_pow_sub_one_eq_mod]
 congr 1
 exact Nat.mod_mod_of_dvd _ (Nat.pow_dvd_pow 2 ω)
def ds (w:Nat):Nat->Nat->Nat
 | 0,_=>0
 | n+1,X=>X % 2 ^ w+ds w n (X / 2 ^ w)
def sml (w c:Nat):Nat->Nat->Prop
 | 0,X=>X=0
 | n+1,X=>X % 2 ^ w<=c/\sml w c n (X / 2 ^ w)
def yR (w n X:Nat):Nat:=((X / 2 ^ w) &&& mk w n)+(X &&& mk w n)
theorem aMu (w n X:Nat):yR w (n+1) X=2 ^ (2*w)*yR w n (X / 2 ^ (2*w))+(X / 2 ^ w % 2 ^ w+X % 2 ^ w):=by
 unfold yR;rw[aDi,aDi,Nat.div_div_eq_div_mul,Nat.div_div_eq_div_mul,Nat.mul_comm (2 ^ w) (2 ^ (2*w)),Nat.mul_add];omega
theorem dd (w X:Nat):X / 2 ^ w / 2 ^ w=X / 2 ^ (2*w):=by
 rw[Nat.div_div_eq_div_mul,<- Nat.pow_add];congr 2;omega
theorem aEh {w c:Nat} (hc:2*c<2 ^ (2*w)):∀n X,sml w c (2*n) X->ds (2*w) n (yR w n X)=ds w (2*n) X/\sml (2*w) (2*c) n (yR w n X)
 | 0,X,h=>by
   have h:X=0:=h;subst h;simp[yR,ds,sml]
 | n+1,X,h=>by
   have e:2*(n+1)=(2*n+1)+1:=ω;rw[e] at h;obtain⟨h1,h2,h3⟩:=h;rw[dd] at h3;obtain⟨i1,i2⟩:=aEh hc n _ h3;have hlt:X / 2 ^ w % 2 ^ w+X % 2 ^ w<2 ^ (2*w):=ω;rw[aMu];have hm:(2 ^ (2*w)*yR w n (X / 2 ^ (2*w))+(X / 2 ^ w % 2 ^ w+X % 2 ^ w)) % 2 ^ (2*w)=X / 2 ^ w % 2 ^ w+X % 2 ^ w:=by
    rw[Nat.mul_add_mod,Nat.mod_eq_of_lt hlt]
   have hd:(2 ^ (2*w)*yR w n (X / 2 ^ (2*w))+(X / 2 ^ w % 2 ^ w+X % 2 ^ w)) / 2 ^ (2*w)=yR w n (X / 2 ^ (2*w)):=by
    rw[Nat.mul_add_div (Nat.pow_pos δ),Nat.div_eq_of_lt hlt];omega
   refine⟨?_,?_⟩
   ·show _ % 2 ^ (2*w)+ds (2*w) n (_ / 2 ^ (2*w))=_;rw[hm,hd,i1,e];show _=X % 2 ^ w+(X / 2 ^ w % 2 ^ w+ds w (2*n) (X / 2 ^ w / 2 ^ w));rw[dd];omega
   ·refine⟨?_,?_⟩
    ·rw[hm];omega
    ·rw[hd];exact i2
theorem aJy {w c:Nat} (hc:c<2 ^ w):∀n X,sml w c n X->X<2 ^ (w*n)
 | 0,X,h=>by
   have h:X=0:=h;subst h;simp
 | n+1,X,h=>by
   have:=aJy hc n _ h.2;rw[Nat.div_lt_iff_lt_mul (Nat.pow_pos δ),<- Nat.pow_add] at this;rw[Nat.mul_add,Nat.mul_one];exact this
def aFa (n X:Nat):Nat:=(X / 16+X) &&& mk 4 n
theorem bG0 (n Y:Nat) {r:Nat} (hr:r<=8):ds 8 (n+1) (256*Y+r)=r+ds 8 n Y/\(sml 8 8 n Y->sml 8 8 (n+1) (256*Y+r)):=by
 have h1:(256*Y+r) % 256=r:=ω;have h2:(256*Y+r) / 256=Y:=ω;refine⟨?_,λh=>⟨?_,?_⟩⟩
 ·show(256*Y+r) % 256+ds 8 n ((256*Y+r) / 256)=_;rw[h1,h2]
 ·show(256*Y+r) % 256<=8;rw[h1];exact hr
 ·show sml 8 8 n ((256*Y+r) / 256);rw[h2];exact h
theorem aLw:∀n X,sml 4 4 (2*n) X->ds 8 n (aFa n X)=ds 4 (2*n) X/\sml 8 8 n (aFa n X)
 | 0,X,h=>by
   have h:X=0:=h;subst h;simp[aFa,ds,sml]
 | n+1,X,h=>by
   have e:2*(n+1)=(2*n+1)+1:=ω;rw[e] at h;obtain⟨h1,h2,h3⟩:=h;have h1:X % 16<=4:=h1;have h2:X / 16 % 16<=4:=h2;have h3:sml 4 4 (2*n) (X / 16 / 16):=h3;have d1:X / 16 / 16=X / 256:=ω;rw[d1] at h3;obtain⟨i1,i2⟩:=aLw n _ h3;have h4:X / 256 % 16<=4:=by
    cases n with
    | zero=>have h3:X / 256=0:=h3;omega
    | succ n=>rw[show 2*(n+1)=(2*n+1)+1 from ω] at h3;exact h3.1
   have hs:aFa (n+1) X=256*aFa n (X / 256)+(X / 16 % 16+X % 16):=by
    unfold aFa;rw[aDi];have e1:(X / 16+X) / 2 ^ (2*4)=X / 256 / 16+X / 256:=by
     show(X / 16+X) / 256=_;omega
    have e2:(X / 16+X) % 2 ^ 4=X / 16 % 16+X % 16:=by
     show(X / 16+X) % 16=_;omega
    rw[e1,e2]
   rw[hs];have hr:X / 16 % 16+X % 16<=8:=by clear hs i1 i2 h3;omega
   have e3:ds 4 (2*n+1+1) X=X % 16+(X / 16 % 16+ds 4 (2*n) (X / 256)):=by
    show _=_;rw[<- d1];rfl
   obtain⟨c1,c2⟩:=bG0 n (aFa n (X / 256)) hr;rw[c1,e,e3,i1];exact⟨by clear hs i1 i2 h3 c1 c2 e3;omega,c2 i2⟩
theorem bAs {a m q r:Nat} (h:a=m*q+r) (hr:r<m):a / m=q:=by
 subst h;rw[Nat.mul_add_div ω,Nat.div_eq_of_lt hr,Nat.add_zero]
theorem kW {n X:Nat} (h:sml 8 8 (n+1) X):∃t Y,X=t+256*Y/\t<=8/\sml 8 8 n Y/\ds 8 (n+1) X=t+ds 8 n Y:=
 ⟨X % 256,X / 256,ω,h.1,h.2,rfl⟩
theorem st1 {t0 t1 t2 t3 t4 t5 t6 t7:Nat} (b0:t0<=8):(t0+256*t1+65536*t2+16777216*t3+4294967296*t4+1099511627776*t5+281474976710656*t6+72057594037927936*t7) / 256=t1+256*t2+65536*t3+16777216*t4+4294967296*t5+1099511627776*t6+281474976710656*t7:=bAs (r:=t0) ω ω
theorem bI3 {t0 t1 t2 t3 t4 t5 t6 t7:Nat} :(t0+256*t1+65536*t2+16777216*t3+4294967296*t4+1099511627776*t5+281474976710656*t6+72057594037927936*t7)+(t1+256*t2+65536*t3+16777216*t4+4294967296*t5+1099511627776*t6+281474976710656*t7)=(t0+t1)+256*(t1+t2)+65536*(t2+t3)+16777216*(t3+t4)+4294967296*(t4+t5)+1099511627776*(t5+t6)+281474976710656*(t6+t7)+72057594037927936*(t7):=ω
theorem st2 {t0 t1 t2 t3 t4 t5 t6 t7:Nat} (b0:t0<=8) (b1:t1<=8) (b2:t2<=8):((t0+t1)+256*(t1+t2)+65536*(t2+t3)+16777216*(t3+t4)+4294967296*(t4+t5)+1099511627776*(t5+t6)+281474976710656*(t6+t7)+72057594037927936*(t7)) / 65536=(t2+t3)+256*(t3+t4)+65536*(t4+t5)+16777216*(t5+t6)+4294967296*(t6+t7)+1099511627776*(t7):=bAs (r:=(t0+t1)+256*(t1+t2)) ω ω
theorem bI4 {t0 t1 t2 t3 t4 t5 t6 t7:Nat} :((t0+t1)+256*(t1+t2)+65536*(t2+t3)+16777216*(t3+t4)+4294967296*(t4+t5)+1099511627776*(t5+t6)+281474976710656*(t6+t7)+72057594037927936*(t7))+((t2+t3)+256*(t3+t4)+65536*(t4+t5)+16777216*(t5+t6)+4294967296*(t6+t7)+1099511627776*(t7))=(t0+t1+t2+t3)+256*(t1+t2+t3+t4)+65536*(t2+t3+t4+t5)+16777216*(t3+t4+t5+t6)+4294967296*(t4+t5+t6+t7)+1099511627776*(t5+t6+t7)+281474976710656*(t6+t7)+72057594037927936*(t7):=ω
theorem st3 {t0 t1 t2 t3 t4 t5 t6 t7:Nat} (b0:t0<=8) (b1:t1<=8) (b2:t2<=8) (b3:t3<=8) (b4:t4<=8) (b5:t5<=8) (b6:t6<=8) (b7:t7<=8):((t0+t1+t2+t3)+256*(t1+t2+t3+t4)+65536*(t2+t3+t4+t5)+16777216*(t3+t4+t5+t6)+4294967296*(t4+t5+t6+t7)+1099511627776*(t5+t6+t7)+281474976710656*(t6+t7)+72057594037927936*(t7)) / 4294967296=(t4+t5+t6+t7)+256*(t5+t6+t7)+65536*(t6+t7)+16777216*(t7):=bAs (r:=(t0+t1+t2+t3)+256*(t1+t2+t3+t4)+65536*(t2+t3+t4+t5)+16777216*(t3+t4+t5+t6)) ω ω
theorem bJi {t0 t1 t2 t3 t4 t5 t6 t7:Nat} :((t0+t1+t2+t3)+256*(t1+t2+t3+t4)+65536*(t2+t3+t4+t5)+16777216*(t3+t4+t5+t6)+4294967296*(t4+t5+t6+t7)+1099511627776*(t5+t6+t7)+281474976710656*(t6+t7)+72057594037927936*(t7))+((t4+t5+t6+t7)+256*(t5+t6+t7)+65536*(t6+t7)+16777216*(t7))=(t0+t1+t2+t3+t4+t5+t6+t7)+256*(t1+t2+t3+t4+t5+t6+t7)+65536*(t2+t3+t4+t5+t6+t7)+16777216*(t3+t4+t5+t6+t7)+4294967296*(t4+t5+t6+t7)+1099511627776*(t5+t6+t7)+281474976710656*(t6+t7)+72057594037927936*(t7):=ω
theorem stl {t0 t1 t2 t3 t4 t5 t6 t7:Nat} (b0:t0<=64) (b1:t1<=64) (b2:t2<=64) (b3:t3<=64) (b4:t4<=64) (b5:t5<=64) (b6:t6<=64) (b7:t7<=64):t0+256*t1+65536*t2+16777216*t3+4294967296*t4+1099511627776*t5+281474976710656*t6+72057594037927936*t7<18446744073709551616:=ω
theorem bJ1 {X:Nat} (h:sml 8 8 8 X):let a:=X+X / 256;let b:=a+a / 65536;let c:=b+b / 4294967296
 a<18446744073709551616/\b<18446744073709551616/\c<18446744073709551616/\c % 128=ds 8 8 X:=by
 obtain⟨t0,X1,e0,b0,h,d0⟩:=kW h;obtain⟨t1,X2,e1,b1,h,d1⟩:=kW h;obtain⟨t2,X3,e2,b2,h,d2⟩:=kW h;obtain⟨t3,X4,e3,b3,h,d3⟩:=kW h;obtain⟨t4,X5,e4,b4,h,d4⟩:=kW h;obtain⟨t5,X6,e5,b5,h,d5⟩:=kW h;obtain⟨t6,X7,e6,b6,h,d6⟩:=kW h;obtain⟨t7,X8,e7,b7,h,d7⟩:=kW h;have h:X8=0:=h;have d8:ds 8 0 X8=0:=rfl;rw[d0,d1,d2,d3,d4,d5,d6,d7,d8];clear d0 d1 d2 d3 d4 d5 d6 d7 d8;have hx:X=t0+256*t1+65536*t2+16777216*t3+4294967296*t4+1099511627776*t5+281474976710656*t6+72057594037927936*t7:=by
  rw[e0,e1,e2,e3,e4,e5,e6,e7,h]
  try simp only [Nat.mul_add,<- Nat.mul_assoc,Nat.reduceMul,<- Nat.add_assoc,Nat.mul_zero,Nat.add_zero]
 clear e0 e1 e2 e3 e4 e5 e6 e7 h;subst hx;simp only [st1 b0,bI3,st2 b0 b1 b2,bI4,st3 b0 b1 b2 b3 b4 b5 b6 b7,bJi];refine⟨stl ?_ ?_ ?_ ?_ ?_ ?_ ?_ ?_,stl ?_ ?_ ?_ ?_ ?_ ?_ ?_ ?_,stl ?_ ?_ ?_ ?_ ?_ ?_ ?_ ?_,?_⟩
 all_goals omega
theorem aFf:∀n X,X<2 ^ n->sml 1 1 n X
 | 0,X,h=>by
   show X=0;simp at h;exact h
 | n+1,X,h=>⟨ω,aFf n _ (by rw[Nat.pow_succ] at h;omega)⟩
end Go.Gx.Ix
namespace Go.Gx.Ix
open Go.RowKit Go.Proofs Go.Proofs.YtncccnmmjfapnaaGreat
def cnt (x:BitVec 64):Nat:=ds 1 64 x.toNat
theorem qM (x y:BitVec 64):(bJ x y).toNat=x.toNat &&& y.toNat:=BitVec.toNat_and ..
theorem lP (x:BitVec 64) (n:Nat):(bY x n).toNat=x.toNat / 2 ^ n:=by rw[bY,BitVec.toNat_ushiftRight,Nat.shiftRight_eq_div_pow]
theorem aB6 {x y:BitVec 64} (h:dC x y):(sU x y).toNat=x.toNat+y.toNat:=by unfold dC at h;unfold sU;rw[BitVec.toNat_add];omega
theorem aLa:∀n X,sml 4 4 (n+1) X->X<5*16 ^ n
 | 0,X,h=>by
   have h1:X % 16<=4:=h.1;have h2:X / 16=0:=h.2;omega
 | n+1,X,h=>by
   have h1:X % 16<=4:=h.1;have h2:=aLa n _ h.2;have h2:X / 16<5*16 ^ n:=h2;rw[Nat.pow_succ];omega
theorem aEc (x:BitVec 64):Pure Tryz.prog 112 [.w x] (· =.i (cnt x)):=by
 have m0:(6148914691236517205#64).toNat=mk 1 32:=δ;have m1:(3689348814741910323#64).toNat=mk 2 16:=δ;have m2:(1085102592571150095#64).toNat=mk 4 8:=δ;have hb:=aFf 64 x.toNat x.isLt;obtain⟨d1,s1⟩:=aEh (w:=1) (c:=1) δ 32 x.toNat hb;have l1:=aJy (w:=2) (c:=2) δ 32 _ s1;have f1:dC (bJ (bY x 1) 6148914691236517205#64) (bJ x 6148914691236517205#64):=by
  unfold dC;rw[qM,qM,lP,m0];exact l1
 have e1:(sw1 x).toNat=yR 1 32 x.toNat:=by unfold sw1;rw[aB6 f1,qM,qM,lP,m0];rfl
 rw[<- e1] at d1 s1;generalize hx1:sw1 x=x1 at *;obtain⟨d2,s2⟩:=aEh (w:=2) (c:=2) δ 16 x1.toNat s1;have l2:=aJy (w:=4) (c:=4) δ 16 _ s2;have f2:dC (bJ (bY x1 2) 3689348814741910323#64) (bJ x1 3689348814741910323#64):=by
  unfold dC;rw[qM,qM,lP,m1];exact l2
 have e2:(sw2 x1).toNat=yR 2 16 x1.toNat:=by unfold sw2;rw[aB6 f2,qM,qM,lP,m1];rfl
 rw[<- e2] at d2 s2;generalize hx2:sw2 x1=x2 at *;obtain⟨d3,s3⟩:=aLw 8 x2.toNat s2;have l3:=aLa 15 _ s2;have f3:dC (bY x2 4) x2:=by unfold dC;rw[lP];simp only [Nat.reducePow,Nat.reduceMul] at l3 ⊢;omega
 have e3:(sw3 x2).toNat=aFa 8 x2.toNat:=by unfold sw3;rw[qM,aB6 f3,lP,m2];rfl
 rw[<- e3] at d3 s3;generalize hx3:sw3 x2=x3 at *;obtain⟨q1,q2,q3,q4⟩:=bJ1 s3;have f4:dC x3 (bY x3 8):=by unfold dC;rw[lP];exact q1
 have e4:(sw4 x3 8).toNat=x3.toNat+x3.toNat / 256:=by unfold sw4;rw[aB6 f4,lP]
 rw[<- e4] at q2 q3 q4;generalize hx4:sw4 x3 8=x4 at *;have f5:dC x4 (bY x4 16):=by unfold dC;rw[lP];exact q2
 have e5:(sw4 x4 16).toNat=x4.toNat+x4.toNat / 65536:=by unfold sw4;rw[aB6 f5,lP]
 rw[<- e5] at q3 q4;generalize hx5:sw4 x4 16=x5 at *;have f6:dC x5 (bY x5 32):=by unfold dC;rw[lP];exact q3
 have e6:(sw4 x5 32).toNat=x5.toNat+x5.toNat / 4294967296:=by unfold sw4;rw[aB6 f6,lP]
 have h:=aVk x hx1 hx2 hx3 hx4 hx5 rfl f1 f2 f3 f4 f5 f6;rw[e6,q4,d3,d2,d1] at h;exact h
def aIs (x:BitVec 8):Nat:=ds 1 8 x.toNat
theorem aW6 (x:BitVec 8):Pure Tryz.prog 114 [.y x] (· =.i (aIs x)):=by
 have h:∀n:Fin 256,Lib.onesCount n.val=ds 1 8 n.val:=by decide +kernel
 have h1:=bAy x;rw[h ⟨x.toNat,x.isLt⟩] at h1;exact h1
def bBd (w:BitVec 64) (at_:Nat) (t:Int):BitVec 64:=bP (aU9 (qP (uS (bY w at_)) (t % 16).toNat)) at_
def sS (w:BitVec 64) (t:Int):Nat->BitVec 64
 | 0=>0#64
 | k+1=>iO (sS w t k) (bBd w (16*k) t)
def cJ (w:BitVec 64) (t:Int):BitVec 64:=sS w t 4
theorem aKh (w:BitVec 64) (t:Int):Pure Tryz.prog 265 [.w w,.i t] (· =.w (cJ w t)):=by
 refine π Tryz.func265 ?_;simp[go_sem];refine aH aD (α:=Nat) (λk=>[(0,.w w),(1,.i t),(5,.w (sS w t k)),(6,.i (16*k:Nat))]) (λ_=>[]) 0
  (λk=>k<=4) (λk=>4 - k) 0 (λ_=>rfl) τ (by simp[go_sem,sS]) ζ ?_
 intro k J hi;by_cases hk:k<4
 ·have h1:(16:Int)*k<64:=ω;have h2:((16:Int)*k).toNat=16*k:=ω;simp[go_sem,h1,h2];refine⟨ω,aA (aY8 _ t) rfl rfl ?_⟩;simp[go_sem,h2];refine⟨ω,ω,k+1,ω,ω,?_,ω⟩;rfl
 ·have h1:¬(16:Int)*k<64:=ω;have h2:k=4:=ω;subst h2;simp[go_sem,cJ]
theorem aIf (c m:BitVec 64) (t:Int):Pure Tryz.prog 154 [.agg [.w c,.w m],.i t] (· =.agg [.w (cJ c t),.w (cJ m t)]):=by
 refine π Tryz.func154 ?_;simp[go_sem];refine aE aD κ κ ?_;simp[go_sem];refine aA (aKh c t) rfl rfl ?_;simp[go_sem];refine aA (aKh m t) rfl rfl ?_;simp[go_sem]
def aQx (c m c2 m2:BitVec 64):Nat:=cnt (bJ (bV c c2) (bJ m m2))
def aTw (m m2:BitVec 64):Nat:=cnt (bJ m m2)
theorem aCw (c m c2 m2:BitVec 64):Pure Tryz.prog 153 [.agg [.w c,.w m],.agg [.w c2,.w m2]] (· =.tup [.i (aQx c m c2 m2),.i (aTw m m2)]):=by
 refine π Tryz.func153 ?_;simp[go_sem];refine aA (aEc _) rfl rfl ?_;simp[go_sem];refine aA (aEc _) rfl rfl ?_;simp[go_sem,aQx,aTw]
theorem aZl (n d t n2 d2 t2:Int) (h1:inr .i64 (n*d2)) (h2:inr .i64 (n2*d)):Pure Tryz.prog 155 [.agg [.i n,.i d,.i t],.agg [.i n2,.i d2,.i t2]] (· =.b (decide (0<d)&&(decide (d2=0)||decide (n*d2<n2*d)))):=by
 refine π Tryz.func155 ?_;by_cases h3:0<d <;> by_cases h4:d2=0 <;> simp[go_sem,h1,h2,h3,h4]
 exact⟨h1,h2⟩
structure IrG where
 c:BitVec 64
 m:BitVec 64
def IrG.f (x:IrG):Nat->RV
 | 0=>.w x.c
 | _=>.w x.m
@[go_sem]theorem IrG.f0 (x:IrG):x.f 0=.w x.c:=rfl
@[go_sem]theorem IrG.f1 (x:IrG):x.f 1=.w x.m:=rfl
abbrev IrG.sv (x:IrG):SV:=.agg [.w x.c,.w x.m]
def IrG.ok (x:IrG):Bool:=vI x.c x.m
def aGp (n:Nat) (g:Nat->IrG):Bool:=(List.range n).all λi=>(g i).ok
theorem aG6 {n:Nat} {g:Nat->IrG}:aGp n g=true↔∀i,i<n->(g i).ok=true:=by simp[aGp]
theorem aLc (n:Nat) (hn:n<=1000000000) (g:Nat->IrG):Pure Tryz.prog 68 [.r (.rs 2 n λi j=>(g i).f j)] (· =.b (aGp n g)):=by
 refine π Tryz.func68 ?_;simp[go_sem];refine aH aD (α:=Nat) (λk=>[(5,.r (.rs 2 n λi j=>(g i).f j)),(6,.i n),(7,.i k)]) (λ_=>[]) 0 (λk=>k<=n/\∀j,j<k->(g j).ok=true) (λk=>n - k) 0 (λ_=>rfl) τ ζ ζ ?_;intro k J hi;by_cases hlt:k<n
 ·simp[go_sem,hlt];refine aA (pO _ _) rfl rfl ?_;by_cases hv:vI (g k).c (g k).m=true
  ·simp[go_sem,hv];refine⟨ω,k+1,⟨ω,λj hj=>?_⟩,ω,τ⟩;rcases Nat.lt_succ_iff_lt_or_eq.1 hj with h | rfl
   ·exact hi.2 j h
   ·exact hv
  ·simp[go_sem,hv];have:aGp n g=false:=by
    cases h:aGp n g with
    | false=>rfl
    | true=>exact absurd (aG6.1 h k hlt) hv
   exact this
 ·simp[go_sem,hlt];exact aG6.2 λj hj=>hi.2 j ω
theorem aZj (x:IrG) (get:Nat->Nat->RV) (h:∀j,j<2->get 0 j=x.f j):Pure Tryz.prog 68 [.r (.rs 2 1 get)] (· =.b x.ok):=by
 have h1:=(aLc 1 ω λ_=>x).args (args:=[.r (.rs 2 1 get)]) (⟨vK λi j hi hj=>by
  have:i=0:=ω;subst this;exact h j hj,trivial⟩)
 simpa [aGp] using h1
theorem aIl (x y:IrG) (get:Nat->Nat->RV) (h:∀j,j<2->get 0 j=x.f j) (h2:∀j,j<2->get 1 j=y.f j):Pure Tryz.prog 68 [.r (.rs 2 2 get)] (· =.b (x.ok&&y.ok)):=by
 have h1:=(aLc 2 ω λi=>if i=0 then x else y).args (args:=[.r (.rs 2 2 get)]) (⟨vK λi j hi hj=>by
  rcases(show i=0\/i=1 by omega) with rfl | rfl
  ·exact h j hj
  ·exact h2 j hj,trivial⟩)
 have e:aGp 2 (λi=>if i=0 then x else y)=(x.ok&&y.ok):=by simp[aGp,List.range,List.range.loop]
 rw[e] at h1;exact h1
def IrG.tn (x:IrG) (t:Int):IrG:=⟨cJ x.c t,cJ x.m t⟩
def zQ (x:IrG) (t:Int):Int:=if x.ok then if btw (-7) 7 t then 0 else 2 else 30
theorem bAu (x:IrG) (t:Int):Pure Tryz.prog 115 [x.sv,.i t] (· =.tup [if zQ x t=0 then (x.tn t).sv else (IrG.mk 0 0).sv,.i (zQ x t)]):=by
 refine π Tryz.func115 ?_;simp[go_sem];refine aG (v:=.b x.ok) (by simp[go_sem];refine aZj x _ λj hj=>?_;rcases(show j=0\/j=1 by omega) with rfl | rfl <;> rfl) rfl ?_
 cases hx:x.ok
 ·simp[go_sem,zQ,hx]
 simp[go_sem];refine aA (lS t (-7) 7) rfl rfl ?_
 cases hb:btw (-7) 7 t
 ·simp[go_sem,zQ,hx,hb]
 simp[go_sem];refine aA (aIf x.c x.m t) rfl rfl ?_;simp[go_sem,zQ,hx,hb,IrG.tn]
def IrG.n (x y:IrG) (t:Int):Nat:=aQx (cJ x.c t) (cJ x.m t) y.c y.m
def IrG.d (x y:IrG) (t:Int):Nat:=aTw (cJ x.m t) y.m
def aE2 (x y:IrG) (t:Int):Int:=if x.ok&&y.ok then if btw (-7) 7 t then 0 else 2 else 30
theorem aMc (x y:IrG) (t:Int):Pure Tryz.prog 118 [x.sv,y.sv,.i t] (· =.tup [.i (if aE2 x y t=0 then x.n y t else 0:Nat),.i (if aE2 x y t=0 then x.d y t else 0:Nat),.i (aE2 x y t)]):=by
 refine π Tryz.func118 ?_;simp[go_sem];refine aG (v:=.b (x.ok&&y.ok)) (by simp[go_sem];refine aIl x y _ (λj hj=>?_) (λj hj=>?_) <;> rcases(show j=0\/j=1 by omega) with rfl | rfl <;> rfl) rfl ?_
 cases hx:x.ok&&y.ok
 ·simp[go_sem,aE2,hx]
 simp[go_sem];refine aA (lS t (-7) 7) rfl rfl ?_
 cases hb:btw (-7) 7 t
 ·simp[go_sem,aE2,hx,hb]
 simp[go_sem];refine aE aD κ κ ?_;simp[go_sem];refine⟨_,aB (aIf x.c x.m t) rfl rfl,?_⟩;simp[go_sem];refine⟨_,aB (aCw (cJ x.c t) (cJ x.m t) y.c y.m) rfl rfl,?_⟩;simp[go_sem,aE2,hx,hb,IrG.n,IrG.d]
attribute [go_sem] iY SV.trim SV.trimL
def gR:Nat->List Int
 | 0=>[]
 | k+1=>gR k++if k=0 then [0] else [(k:Int),-(k:Int)]
theorem aGz (k:Nat):∀n,k<=n->gR k <+: gR n
 | 0,h=>by
   have:k=0:=ω;subst this;exact List.prefix_refl _
 | n+1,h=>by
   rcases Nat.lt_or_ge n k with h1 | h1
   ·have:k=n+1:=ω;subst this;exact List.prefix_refl _
   ·exact(aGz k n h1).trans (List.prefix_append _ _)
theorem aRo (n:Int):Own Tryz.prog 152 [] [.i n] (.fn (.func 264) [] [.ptr 0 0 1 0]) [.box [.i n]]:=by
 refine γ Tryz.func152 ?_;simp[go_sem];refine⟨[0],τ,λN=>⟨ζ,ζ⟩⟩
theorem aOm (n:Nat) (hn:n<=7) (get:Nat->Nat->RV) (hget:get 0 0=.i n):aLt Tryz.prog T 264 [.r (.rp 1 1 get 0 0)] (λt:Int=>[SV.i t]) (gR (n+1)):=by
 refine⟨_,_,Tryz.func264,rfl,κ,Nat.le_of_ble_eq_true rfl,?_⟩;intro np good l I M nx hnx h0 hst hy;simp[go_sem,hget];refine⟨ω,?_⟩;refine jE aD (α:=Nat) (λk=>[(0,.fn (.yield l) [] []),(5,.i (n+1)),(6,.i k)]) (λk M nx=>k<=n+1/\np<=nx/\I (gR k) M nx) (λk=>n+1 - k) 0 ⟨ω,hnx,h0⟩ ζ ?_;intro k J M nx _ hi;obtain⟨h1,h2,h3⟩:=hi;by_cases hk:k<n+1
 ·have hk':(k:Int)<n+1:=ω;simp[go_sem,hk'];have hp:=aGz (k+1) (n+1) ω;by_cases k0:k=0
  ·subst k0;refine hy [] 0 (by simpa [gR] using hp) _ _ _ _ _ _ _ _ _ _ _ ζ ζ (by simp[dH]) h3 λM' nx' hn' hI=>?_;simp only [List.nil_append] at hI;simp[go_sem];exact⟨1,ω,rfl,ω,hn',hI⟩
  ·have e:gR (k+1)=gR k++[(k:Int),-(k:Int)]:=by show gR k++(if k=0 then _ else _)=_;rw[if_neg k0]
   have e2:gR (k+1)=(gR k++[(k:Int)])++[-(k:Int)]:=by rw[e];simp
   have hp1:gR k++[(k:Int)] <+: gR (n+1):=List.IsPrefix.trans (e2▸List.prefix_append _ _) hp;have k1:0<k:=ω;refine hy (gR k) k hp1 _ _ _ _ _ _ _ _ _ _ _ ζ ζ (by simp[dH]) h3 λM' nx' hn' hI=>?_;simp[go_sem,k1];refine⟨ω,?_⟩;refine hy (gR k++[(k:Int)]) (-(k:Int)) (by rw[<- e2];exact hp) _ _ _ _ _ _ _ _ _ _ _ ζ ζ (by simp[dH]) hI λM' nx' hn' hI=>?_;rw[<- e2] at hI;simp[go_sem];exact⟨ω,k+1,ω,τ,ω,hn',hI⟩
 ·have hk':¬(k:Int)<n+1:=ω;have:k=n+1:=ω;subst this;simp[go_sem];exact h3
theorem aJn:∀n X,ds 1 n X<=n
 | 0,_=>Nat.le_refl _
 | n+1,X=>by
   have:=aJn n (X / 2 ^ 1);show X % 2+ds 1 n (X / 2 ^ 1)<=n+1;omega
theorem yV (x:BitVec 64):cnt x<=64:=aJn 64 _
theorem IrG.n_le (x y:IrG) (t:Int):x.n y t<=64:=yV _
theorem IrG.d_le (x y:IrG) (t:Int):x.d y t<=64:=yV _
structure Pt where
 n:Nat
 d:Nat
 t:Int
def Pt.less (p q:Pt):Bool:=decide (0<p.d)&&(decide (q.d=0)||decide (p.n*q.d<q.n*p.d))
def mB (x y:IrG) (b:Pt) (t:Int):Pt:=if 16<=x.d y t/\(Pt.mk (x.n y t) (x.d y t) t).less b=true then ⟨x.n y t,x.d y t,t⟩ else b
def iH (x y:IrG) (l:List Int):Pt:=l.foldl (mB x y) ⟨0,0,0⟩
def iD (x y:IrG) (k:Nat):Pt:=iH x y (gR (k+1))
theorem rR (x y:IrG) (l:List Int) (t:Int):iH x y (l++[t])=mB x y (iH x y l) t:=by simp[iH]
structure Pt.Sm (p:Pt):Prop where
 n:p.n<=64
 d:p.d<=64
theorem aSw (x y:IrG) {b:Pt} (t:Int) (h:b.Sm):(mB x y b t).Sm:=by
 unfold mB;split
 ·have h1:=x.n_le y t;have h2:=x.d_le y t;generalize x.n y t=a at h1;generalize x.d y t=b at h2;exact⟨h1,h2⟩
 ·exact h
theorem aT1 (x y:IrG) (l:List Int):∀b:Pt,b.Sm->(l.foldl (mB x y) b).Sm:=by
 induction l with
 | nil=>intro b h;rw[List.foldl_nil];exact h
 | cons t l ih=>intro b h;rw[List.foldl_cons];exact ih _ (aSw x y t h)
theorem kV (x y:IrG) (l:List Int):(iH x y l).Sm:=aT1 x y l _ ⟨Nat.zero_le _,Nat.zero_le _⟩
abbrev Pt.sv (p:Pt):SV:=.agg [.i p.n,.i p.d,.i p.t]
theorem Pt.less_iff (p q:Pt):p.less q=(decide ((0:Int)<p.d)&&(decide ((q.d:Int)=0)||decide ((p.n:Int)*q.d<q.n*p.d))):=by
 unfold Pt.less;have e1:((0:Int)<p.d)=(0<p.d):=τ;have e2:((q.d:Int)=0)=(q.d=0):=τ;have e3:((p.n:Int)*q.d<q.n*p.d)=(p.n*q.d<q.n*p.d):=by
  rw[<- Int.natCast_mul,<- Int.natCast_mul,Int.ofNat_lt]
 simp only [e1,e2,e3]
theorem aF0 {a b:Nat} (ha:a<=64) (hb:b<=64):inr .i64 ((a:Int)*b):=by
 have h:a*b<=64*64:=Nat.mul_le_mul ha hb;have e:((a:Int)*b)=((a*b:Nat):Int):=τ;rw[e];simp only [inr];omega
theorem zP (x y:IrG) (k:Nat) (hk:k<=7):Pure Tryz.prog 70 [x.sv,y.sv,.i k] (· =(iD x y k).sv):=by
 refine π Tryz.func70 ?_;simp[go_sem];refine aF [] (aRo k) τ rfl trivial ?_;simp[go_sem];refine aJ3 (GSt.freeze 4 rfl) ?_;refine aFc aD (λt:Int=>[SV.i t]) (gR (k+1)) 4 (λpre M nx=>M 0=some (.box [.w x.c,.w x.m])/\M 1=some (.box [.w y.c,.w y.m])/\M 2=some (.box [.i 0,.i 0,.i 0])/\
  M 3=some (.box [.i (iH x y pre).n,.i (iH x y pre).d,.i (iH x y pre).t])/\4<=nx)
  (gf:=264) (ca:=[.r (.rp 1 1 (nB [.i k]) 0 0)]) ?_ (aOm k hk _ rfl) (λ_=>rfl) τ ⟨κ,κ⟩ rfl (Nat.zero_le _) δ ?_ ?_ ?_ ?_
 ·simp[go_sem]
 ·simp[go_sem,iH]
 ·rintro pre M nx R hn ⟨h0,h1,h2,h3,h4⟩;have e0:¬0=nx:=ω;have e1:¬1=nx:=ω;have e2:¬2=nx:=ω;have e3:¬3=nx:=ω;simp[go_sem,e0,e1,e2,e3,h0,h1,h2,h3];omega
 ·rintro pre t hpre M nx hn ⟨h0,h1,h2,h3,h4⟩;have e0:¬0=nx:=ω;have e1:¬1=nx:=ω;have e2:¬2=nx:=ω;have e3:¬3=nx:=ω;simp[go_sem];refine aE aD κ κ ?_;simp[go_sem,h0,h1];have hc:Pure Tryz.prog 153 [.agg [.w (cJ x.c t),.w (cJ x.m t)],y.sv] (· =.tup [.i (x.n y t),.i (x.d y t)]):=aCw (cJ x.c t) (cJ x.m t) y.c y.m;have hsn:=rR x y pre t;have hle:=kV x y pre;have l1:=x.n_le y t;have l2:=x.d_le y t;unfold mB at hsn;rw[hsn];clear hsn;generalize iH x y pre=b at *;generalize x.n y t=a at *;generalize x.d y t=dd at *;have hl:=aZl a dd t b.n b.d b.t (aF0 l1 hle.d) (aF0 hle.n l2);rw[<- Pt.less_iff ⟨a,dd,t⟩ b] at hl;refine⟨ω,_,aB (aIf x.c x.m t) rfl rfl,ω,by simp[SV.refs,SV.refsL],_,aB hc rfl rfl,by simp[SV.refs,SV.refsL],?_⟩;by_cases d1:16<=dd
  ·have d1':(16:Int)<=dd:=ω;simp[go_sem,e0,e1,e2,e3,h0,h1,h2,h3,d1'];refine aA hl rfl rfl ?_
   cases hb:Pt.less ⟨a,dd,t⟩ b
   ·simp[go_sem,e0,e1,e2,e3,h0,h1,h2,h3];omega
   ·simp[go_sem,e0,e1,e2,e3,h0,h1,h2,h3,d1];omega
  ·have d1':¬(16:Int)<=dd:=ω;simp[go_sem,e0,e1,e2,e3,h0,h1,h2,h3,d1,d1'];omega
 ·rintro M nx hn ⟨h0,h1,h2,h3,h4⟩;simp[go_sem,h0,h1,h2,h3];exact⟨rfl,rfl,rfl⟩
def mE (x y:IrG) (turns num den:Int):Int:=if x.ok&&y.ok then if btw 0 7 turns&&vL num den then 0 else 2 else 30
theorem aKe (num den:Int):vL num den=(btw 1 1000 den&&btw 0 den num):=by unfold vL;exact Bool.and_comm ..
def qZ (x y:IrG) (k:Nat) (num den:Int):Bool:=decide (0<(iD x y k).d)&&decide ((iD x y k).n*den<=num*(iD x y k).d)
theorem aKm (x y:IrG) (turns num den:Int):Pure Tryz.prog 21 [x.sv,y.sv,.i turns,.agg [.i num,.i den]] (· =.tup [.b (decide (mE x y turns num den=0)&&qZ x y turns.toNat num den),.i (mE x y turns num den)]):=by
 refine π Tryz.func21 ?_;simp[go_sem];refine aG (v:=.b (x.ok&&y.ok)) (by simp[go_sem];refine aIl x y _ (λj hj=>?_) (λj hj=>?_) <;> rcases(show j=0\/j=1 by omega) with rfl | rfl <;> rfl) rfl ?_
 cases hx:x.ok&&y.ok
 ·simp[go_sem,mE,hx]
 simp[go_sem];refine aA (lS turns 0 7) rfl rfl ?_
 cases hb:btw 0 7 turns
 ·simp[go_sem,mE,hx,hb]
 simp[go_sem];refine aA (lS den 1 1000) rfl rfl ?_
 cases hb2:btw 1 1000 den
 ·simp[go_sem,mE,hx,hb,aKe,hb2]
 simp[go_sem];refine aA (lS num 0 den) rfl rfl ?_
 cases hb3:btw 0 den num
 ·simp[go_sem,mE,hx,hb,aKe,hb2,hb3]
 simp[go_sem];have hv:mE x y turns num den=0:=by simp[mE,hx,hb,aKe,hb2,hb3]
 simp only [btw,Bool.and_eq_true,decide_eq_true_eq] at hb hb2 hb3;obtain⟨k,rfl⟩:∃k:Nat,turns=k:=⟨turns.toNat,ω⟩;have hle:(iD x y k).Sm:=kV x y (gR (k+1));have hdi:=zP x y k ω;obtain⟨p,hp⟩:∃p,iD x y k=p:=⟨_,rfl⟩;have hm:qZ x y (k:Int).toNat num den=(decide (0<p.d)&&decide (p.n*den<=num*p.d)):=by rw[Int.toNat_natCast];unfold qZ;rw[hp]
 rw[hp] at hle hdi;simp only [hv,hm];refine aA hdi rfl rfl ?_;have h1:-64000<=(p.n:Int)*den/\(p.n:Int)*den<=64000:=by
  have:=hle.n;have a1:0<=(p.n:Int)*den:=Int.mul_nonneg ω ω;have a2:(p.n:Int)*den<=64*1000:=Int.mul_le_mul ω ω ω ω;omega
 have h2:-64000<=num*(p.d:Int)/\num*(p.d:Int)<=64000:=by
  have:=hle.d;have a1:0<=num*(p.d:Int):=Int.mul_nonneg ω ω;have a2:num*(p.d:Int)<=1000*64:=Int.mul_le_mul ω ω ω ω;omega
 by_cases hd:0<p.d
 ·simp[go_sem,hd];omega
 ·simp[go_sem,hd]
def dE (x y:IrG) (turns:Int):Int:=if x.ok&&y.ok then if btw 0 7 turns then if (iD x y turns.toNat).d=0 then 6 else 0 else 2 else 30
theorem aJ2 (x y:IrG) (turns:Int):Pure Tryz.prog 421 [x.sv,y.sv,.i turns]
 (· =.tup [.i (if dE x y turns=0 then (iD x y turns.toNat).n else 0:Nat),.i (if dE x y turns=0 then (iD x y turns.toNat).d else 0:Nat),.i (if dE x y turns=0 then (iD x y turns.toNat).t else 0),.i (dE x y turns)]):=by
 refine π Tryz.func421 ?_;simp[go_sem];refine aG (v:=.b (x.ok&&y.ok)) (by simp[go_sem];refine aIl x y _ (λj hj=>?_) (λj hj=>?_) <;> rcases(show j=0\/j=1 by omega) with rfl | rfl <;> rfl) rfl ?_
 cases hx:x.ok&&y.ok
 ·simp[go_sem,dE,hx]
 simp[go_sem];refine aA (lS turns 0 7) rfl rfl ?_
 cases hb:btw 0 7 turns
 ·simp[go_sem,dE,hx,hb]
 simp[go_sem];have hb':=hb;simp only [btw,Bool.and_eq_true,decide_eq_true_eq] at hb';obtain⟨k,rfl⟩:∃k:Nat,turns=k:=⟨turns.toNat,ω⟩;have hdi:=zP x y k ω;obtain⟨p,hp⟩:∃p,iD x y k=p:=⟨_,rfl⟩;have hm:dE x y (k:Int)=if p.d=0 then 6 else 0:=by unfold dE;rw[Int.toNat_natCast,hp,hx,hb];simp
 rw[hp] at hdi;simp only [hm,Int.toNat_natCast,hp];refine aA hdi rfl rfl ?_;by_cases hd:p.d=0
 ·simp[go_sem,hd]
 ·have hd':¬(p.d:Int)=0:=ω;simp[go_sem,hd,hd'];refine aE aD κ κ ?_;simp[go_sem]
attribute [go_sem] gvo oU nB
mutual
theorem refs_closed:∀s:SV,s.closed=true->s.refs=[]
 | .r x,_=>by simp[SV.refs]
 | .ptr ..,h=>by simp[SV.closed] at h
 | .sl ..,h=>by simp[SV.closed] at h
 | .mp ..,h=>by simp[SV.closed] at h
 | .fn f fi ca,h=>by
   simp only [SV.closed,Bool.and_eq_true] at h;simp[SV.refs,refsL_closed fi h.1,refsL_closed ca h.2]
 | .agg l,h=>by simp[SV.refs,refsL_closed l h]
 | .tup l,h=>by simp[SV.refs,refsL_closed l h]
theorem refsL_closed:∀l:List SV,SV.closedL l=true->SV.refsL l=[]
 | [],_=>by simp[SV.refsL]
 | s::l,h=>by
   simp only [SV.closedL,Bool.and_eq_true] at h;simp[SV.refsL,refs_closed s h.1,refsL_closed l h.2]
end
theorem mem_closed {l:List SV} (h:SV.closedL l=true):∀a∈l,a.refs=[]:=by
 induction l with
 | nil=>intro a ha;cases ha
 | cons s l ih=>
   simp only [SV.closedL,Bool.and_eq_true] at h;intro a ha;rcases List.mem_cons.1 ha with rfl | ha
   ·exact refs_closed _ h.1
   ·exact ih h.2 a ha
theorem aEo (x:Int):Pure Tryz.prog 310 [.i x] (· =.b false):=by
 refine π Tryz.func310 ?_;simp[go_sem]
def bT (a b:Int):Int:=if a<b then -1 else if b<a then 1 else 0
theorem aCc (a b:Int):Pure Tryz.prog 213 [.i a,.i b] (· =.i (bT a b)):=by
 refine π Tryz.func213 ?_;simp[go_sem];refine aA (aEo a) rfl rfl ?_;simp[go_sem];refine aA (aEo b) rfl rfl ?_;by_cases h:a<b
 ·simp[go_sem,bT,h]
 ·by_cases h2:b<a <;> simp[go_sem,bT,h,h2]
theorem bGo (get:Nat->Nat->RV) (x y:Int) (h0:get 0 0=.i x) (h1:get 1 0=.i y):Pure Tryz.prog 212 [.r (.rs 1 2 get)] (· =.i (if x=0 then y else x)):=by
 refine π Tryz.func212 ?_;simp[go_sem];refine aH aD (α:=Nat) (λk=>[(3,.i 0),(6,.r (.rs 1 2 get)),(7,.i 2),(8,.i k)]) (λ_=>[]) 0 (λk=>k<=2/\(1<=k->x=0)/\(2<=k->y=0)) (λk=>2 - k) 0 (λ_=>rfl) τ ζ ζ ?_;rintro k J ⟨hk,a1,a2⟩;rcases(show k=0\/k=1\/k=2 by omega) with rfl | rfl | rfl
 ·by_cases hx:x=0
  ·simp[go_sem,h0,hx];exact⟨1,⟨ω,λh=>absurd h ω⟩,ω,ω⟩
  ·simp[go_sem,h0,hx]
 ·have hx:=a1 ω;by_cases hy:y=0
  ·simp[go_sem,h1,hx,hy];exact⟨2,ω,ω,ω⟩
  ·simp[go_sem,h1,hx,hy]
 ·have hx:=a1 ω;have hy:=a2 ω;simp[go_sem,hx,hy]
theorem aFg (x:BitVec 8):Pure Tryz.prog 436 [.y x] (· =.b false):=by
 refine π Tryz.func436 ?_;simp[go_sem]
theorem zV (a b:BitVec 8):Pure Tryz.prog 397 [.y a,.y b] (· =.i (bT a.toNat b.toNat)):=by
 refine π Tryz.func397 ?_;simp[go_sem];refine aA (aFg a) rfl rfl ?_;simp[go_sem];refine aA (aFg b) rfl rfl ?_;by_cases h:a.toNat<b.toNat
 ·simp[go_sem,bT,h]
 ·by_cases h2:b.toNat<a.toNat <;> simp[go_sem,bT,h,h2]
def cU (a b c d:Int):Bool:=decide (a<c)||decide (a=c)&&decide (b<d)
def cT (a b c d:Int):Int:=if bT a c=0 then bT b d else bT a c
theorem dN {a b c d:Int}:cT a b c d<0↔cU a b c d=true:=by
 unfold cT bT cU;simp only [Bool.or_eq_true,Bool.and_eq_true,decide_eq_true_eq]
 repeat' split
 all_goals omega
theorem jO {a b c d:Int}:cT a b c d=0↔a=c/\b=d:=by
 unfold cT bT
 repeat' split
 all_goals omega
theorem aMy (c m:BitVec 8) (n:Nat) (get:Nat->Nat->RV) (m2 c2:BitVec 8):Pure Tryz.prog 314 [.agg [.y c,.y m,.r (.rs 1 n get)],.agg [.y m2,.y c2]] (· =.i (cT m.toNat c.toNat m2.toNat c2.toNat)):=by
 refine π Tryz.func314 ?_;simp[go_sem];refine aE aD κ κ ?_;simp[go_sem];refine⟨_,aB (zV m m2) rfl rfl,?_⟩;simp[go_sem];refine⟨_,aB (zV c c2) rfl rfl,?_⟩;simp[go_sem];refine⟨_,kF (v:=.i (cT m.toNat c.toNat m2.toNat c2.toNat)) (by simp[go_sem];exact bGo _ (bT m.toNat m2.toNat) (bT c.toNat c2.toNat) rfl rfl) rfl,?_⟩;simp[go_sem]
def cA (c:Nat->Int) (n:Nat):Nat:=((List.range n).find? λi=>decide (0<=c i)).getD n
theorem gQ {c:Nat->Int} {n i:Nat} (hi:i<=n) (h1:∀j,j<i->c j<0) (h2:∀j,i<=j->j<n->0<=c j):cA c n=i:=by
 unfold cA;rcases Nat.lt_or_ge i n with h | h
 ·rw[List.find?_range_eq_some.2 ⟨by simpa using h2 i (Nat.le_refl i) h,List.mem_range.2 h,λj hj=>by have:=h1 j hj;simp;omega⟩];rfl
 ·have:i=n:=ω;subst this;rw[List.find?_eq_none.2 λj hj=>by have:=h1 j (List.mem_range.1 hj);simp;omega];rfl
theorem iK {c:Nat->Int} {n:Nat}:cA c n<=n:=by
 unfold cA
 cases h:(List.range n).find? λi=>decide (0<=c i) with
 | none=>exact Nat.le_refl n
 | some i=>have:=List.find?_range_eq_some.1 h;have:=List.mem_range.1 this.2.1;simp;omega
def cM (c:Nat->Int) (n:Nat):Bool:=decide (cA c n<n)&&decide (c (cA c n)=0)
theorem mZ {i j:Nat} (h:i+j<9223372036854775808):IntKind.i64.wrap (Int.fdiv (IntKind.u64.wrap ((i:Int)+(j:Int))) 2)=(((i+j) / 2:Nat):Int):=by
 rw[bX (k:=.u64) (by simp only [inr];omega),Int.fdiv_eq_ediv_of_nonneg _ ω,bX (k:=.i64) (by simp only [inr];omega)];omega
theorem aRb (n:Nat) (hn:(n:Int)<2 ^ 61) (get:Nat->Nat->RV) (t0 t1:BitVec 8) (g:FuncId) (ca:List SV) (hca:SV.closedL ca=true) (c:Nat->Int) (hm:∀a b,a<b->b<n->c b<0->c a<0)
 (hp:∀i,i<n->Pure Tryz.prog g (.agg [.r (get i 0),.r (get i 1),.r (get i 2)]::.agg [.y t0,.y t1]::ca) (· =.i (c i))) :
 Pure Tryz.prog 313 [.r (.rs 3 n get),.agg [.y t0,.y t1],.fn (.func g) [] ca] (· =.tup [.i (cA c n:Nat),.b (cM c n)]):=by
 refine π Tryz.func313 ?_;simp[go_sem];refine aH aD (α:=Nat × Nat) (λx=>[(0,.r (.rs 3 n get)),(2,.fn (.func g) [] ca),(4,.ptr 0 0 2 0),(8,.i n),(9,.i x.1),(10,.i x.2)]) (λ_=>[some (.box [.y t0,.y t1])]) 1
  (λx=>x.1<=x.2/\x.2<=n/\(∀j,j<x.1->c j<0)/\∀j,x.2<=j->j<n->0<=c j) (λx=>x.2 - x.1) (0,n) (λ_=>rfl) ι (by simp[go_sem,SV.trimL_closed _ _ hca]) ζ ?_
 have hr:∀r,r∈SV.refsL ca->r=0:=λr h=>by rw[refsL_closed _ hca] at h;cases h
 have hr2:∀a:SV,a∈ca->∀r:Nat,r∈a.refs->r=0:=λa ha r h=>by rw[mem_closed hca a ha] at h;cases h
 rintro⟨i,j⟩ J ⟨h1,h2,h3,h4⟩;dsimp only at h1 h2 h3 h4;simp[go_sem];split
 ·rename_i hlt;refine⟨ω,?_⟩;rw[mZ ω];generalize hh:(i+j) / 2=h;have hb:i<=h/\h<j:=ω;refine aE aD κ κ ?_;simp[go_sem];refine⟨hr,ω,hr,hr2,_,aB (hp h ω) (by simp[go_sem,hca]) rfl,?_⟩;simp[go_sem];split
  ·rename_i hc;refine⟨ω,h+1,j,⟨ω,h2,λk hk=>?_,h4⟩,ω,by simp[SV.trimL_closed _ _ hca]⟩;by_cases hkh:k=h
   ·subst hkh;exact hc
   ·exact hm k h ω ω hc
  ·rename_i hc;refine⟨i,h,⟨ω,ω,h3,λk hk hkn=>?_⟩,ω,by simp[SV.trimL_closed _ _ hca]⟩;by_cases hkh:k=h
   ·subst hkh;omega
   ·have h5:¬c k<0:=λh6=>hc (hm h k ω hkn h6);omega
 ·rename_i hge;have hij:i=j:=ω;subst hij;have hbd:=gQ (c:=c) h2 h3 h4;refine aE aD κ κ ?_;by_cases hin:i<n
  ·simp[go_sem,hin];refine⟨hr,hr2,_,aB (hp i hin) (by simp[go_sem,hca]) rfl,?_⟩;simp[go_sem,cM,hbd,hin]
  ·simp[go_sem,hin,cM,hbd]
theorem aPz (x:Int):Pure Tryz.prog 401 [.i x] (· =.b false):=by
 refine π Tryz.func401 ?_;simp[go_sem]
theorem aWh (a b:Int):Pure Tryz.prog 400 [.i a,.i b] (· =.b (decide (a<b))):=by
 refine π Tryz.func400 ?_;simp[go_sem];refine aA (aEo a) rfl rfl ?_;simp[go_sem]
theorem aS5 (n:Nat) (hn:(n:Int)<2 ^ 61) (get:Nat->Nat->RV) (v:Nat->Int) (hv:∀i,i<n->get i 0=.i (v i)) (t:Int) (hm:∀a b,a<b->b<n->v b<t->v a<t) :
 Pure Tryz.prog 316 [.r (.rs 1 n get),.i t] (· =.tup [.i (cA (λi=>v i - t) n:Nat),.b (cM (λi=>v i - t) n)]):=by
 refine π Tryz.func316 ?_;simp[go_sem];refine aH aD (α:=Nat × Nat) (λx=>[(0,.r (.rs 1 n get)),(1,.i t),(6,.i n),(7,.i x.1),(8,.i x.2)]) (λ_=>[]) 0
  (λx=>x.1<=x.2/\x.2<=n/\(∀j,j<x.1->v j<t)/\∀j,x.2<=j->j<n->t<=v j) (λx=>x.2 - x.1) (0,n) (λ_=>rfl) ι ζ ζ ?_
 rintro⟨i,j⟩ J ⟨h1,h2,h3,h4⟩;dsimp only at h1 h2 h3 h4;simp[go_sem];split
 ·rename_i hlt;refine⟨ω,?_⟩;rw[mZ ω];generalize hh:(i+j) / 2=h;have hb:i<=h/\h<j:=ω;have hvh:=hv h ω;simp[go_sem,hvh];refine⟨ω,aA (aWh (v h) t) rfl rfl ?_⟩;by_cases hc:v h<t
  ·simp[go_sem,hc];refine⟨ω,h+1,j,⟨ω,h2,λk hk=>?_,h4⟩,ω,τ⟩;by_cases hkh:k=h
   ·subst hkh;exact hc
   ·exact hm k h ω ω hc
  ·simp[go_sem,hc];refine⟨i,h,⟨ω,ω,h3,λk hk hkn=>?_⟩,ω,τ⟩;by_cases hkh:k=h
   ·subst hkh;omega
   ·have h5:¬v k<t:=λh6=>hc (hm h k ω hkn h6);omega
 ·rename_i hge;have hij:i=j:=ω;subst hij;have hbd:=gQ (c:=λi=>v i - t) h2 (λj hj=>by have:=h3 j hj;omega) (λj hj hn=>by have:=h4 j hj hn;omega);by_cases hin:i<n
  ·have hvi:=hv i hin;by_cases he:v i=t
   ·simp[go_sem,hin,hvi,he,cM,hbd]
   ·simp[go_sem,hin,hvi,he];refine aA (aPz (v i)) rfl rfl ?_;have he2:¬v i - t=0:=ω;simp[go_sem,hin,he2,cM,hbd]
  ·simp[go_sem,hin,cM,hbd]
theorem aKj (a b:Int) (x y:BitVec 64):Pure Tryz.prog 224 [.agg [.i a,.w x,.w y],.i b] (· =.i (bT a b)):=by
 refine π Tryz.func224 ?_;simp[go_sem];refine aA (aCc a b) rfl rfl ?_;simp[go_sem]
end Go.Gx.Ix
namespace Go.Gx.Ix
open Go.RowKit Go.Proofs Go.Proofs.YtncccnmmjfapnaaGreat
structure MbG where
 id:Int
 x:IrG
def MbG.f (a:MbG):Nat->RV
 | 0=>.i a.id
 | 1=>.w a.x.c
 | _=>.w a.x.m
@[go_sem]theorem MbG.f0 (a:MbG):a.f 0=.i a.id:=rfl
@[go_sem]theorem MbG.f1 (a:MbG):a.f 1=.w a.x.c:=rfl
@[go_sem]theorem MbG.f2 (a:MbG):a.f 2=.w a.x.m:=rfl
abbrev MbG.sv (a:MbG):SV:=.agg [.i a.id,.w a.x.c,.w a.x.m]
abbrev gG (l:List MbG):Nat->Nat->RV:=cG MbG.f l
abbrev xA (l:List MbG):SV:=.r (.rs 3 l.length (gG l))
theorem mrow {l:List MbG} {i:Nat} (h:i<l.length) (j:Nat):gG l i j=l[i].f j:=bL (List.getElem?_eq_getElem h) j
theorem aRn (l:List MbG) (hn:(l.length:Int)<2 ^ 61) (t:Int) (hm:∀a b,a<b->∀hb:b<l.length,l[b].id<t->∀ha:a<l.length,l[a].id<t) (c:Nat->Int) (hc:∀i (hi:i<l.length),c i=bT l[i].id t) :
 Pure Tryz.prog 223 [xA l,.i t,.fn (.func 224) [] []] (· =.tup [.i (cA c l.length:Nat),.b (cM c l.length)]):=by
 refine π Tryz.func223 ?_;simp[go_sem];have cneg:∀i (hi:i<l.length),c i<0↔l[i].id<t:=λi hi=>by
  rw[hc i hi];unfold bT
  repeat' split
  all_goals omega
 refine aH aD (α:=Nat × Nat) (λx=>[(0,xA l),(1,.i t),(2,.fn (.func 224) [] []),(8,.i l.length),(9,.i x.1),(10,.i x.2)]) (λ_=>[]) 0
  (λx=>x.1<=x.2/\x.2<=l.length/\(∀j,j<x.1->c j<0)/\∀j,x.2<=j->j<l.length->0<=c j) (λx=>x.2 - x.1) (0,l.length) (λ_=>rfl) ι ζ ζ ?_
 rintro⟨i,j⟩ J ⟨h1,h2,h3,h4⟩;dsimp only at h1 h2 h3 h4;simp[go_sem];split
 ·rename_i hlt;refine⟨ω,?_⟩;rw[mZ ω];generalize hh:(i+j) / 2=h;have hb:i<=h/\h<j:=ω;have hl:h<l.length:=ω;have r0:=mrow hl 0;have r1:=mrow hl 1;have r2:=mrow hl 2;simp[go_sem,r0,r1,r2];refine⟨ω,aA (aKj l[h].id t l[h].x.c l[h].x.m) rfl rfl ?_⟩;rw[<- hc h hl];by_cases hcn:c h<0
  ·simp[go_sem,hcn];refine⟨ω,h+1,j,⟨ω,h2,λk hk=>?_,h4⟩,ω,τ⟩;by_cases hkh:k=h
   ·subst hkh;exact hcn
   ·exact(cneg k ω).2 (hm k h ω hl ((cneg h hl).1 hcn) ω)
  ·simp[go_sem,hcn];refine⟨i,h,⟨ω,ω,h3,λk hk hkn=>?_⟩,ω,τ⟩;by_cases hkh:k=h
   ·subst hkh;omega
   ·have h5:¬c k<0:=λh6=>hcn ((cneg h hl).2 (hm h k ω hkn ((cneg k hkn).1 h6) hl));omega
 ·rename_i hge;have hij:i=j:=ω;subst hij;have hbd:=gQ (c:=c) h2 h3 h4;by_cases hin:i<l.length
  ·have r0:=mrow hin 0;have r1:=mrow hin 1;have r2:=mrow hin 2;simp[go_sem,hin,r0,r1,r2];refine aA (aKj l[i].id t l[i].x.c l[i].x.m) rfl rfl ?_;rw[<- hc i hin];simp[go_sem,hin,cM,hbd]
  ·simp[go_sem,hin,cM,hbd]
def gE (get one:Nat->Nat->RV) (i:Nat):Nat->Nat->RV:=λr c=>if r<i then get r c else if r=i then one 0 c else get (r - 1) c
theorem aTr (n i:Nat) (hn:n<=1000000) (hi:i<=n) (get one:Nat->Nat->RV) :
 Own Tryz.prog 315 [.vec 220 3 n λr c=>.r (get r c),.vec 220 3 1 λr c=>.r (one r c)] [.sl 0 3 0 n none,.i i,.sl 1 3 0 1 none] (.sl 0 3 0 (n+1) none) [.vec 220 3 (n+1) λr c=>.r (gE get one i r c)]:=by
 refine γ Tryz.func315 ?_;simp[go_sem];refine⟨hi,?_⟩;by_cases hin:i=n
 ·subst hin;rw[if_pos rfl];refine⟨ω,[0],τ,λN=>⟨?_,?_⟩⟩
  ·simp[go_sem]
  ·simp[go_sem];intro r c hr hc;unfold aI gE;by_cases h:r<i
   ·rw[if_pos h,if_pos h];rfl
   ·rw[if_neg h,if_pos hr,if_neg h,if_pos ω,show r - i=0 from ω];rfl
 rw[if_neg ω];refine⟨ω,?_⟩;refine tG aD (ref:=0) (kk:=3) (n:=n) ζ (M:=bU _) rfl rfl (by simp[dH]) ?_;intro C hC _ hC2;simp only [maxLen] at hC2;by_cases hc:C<n+1
 ·have hc':(C:Int)<(n:Int)+1:=ω;left;simp[go_sem,hc',hi];refine⟨ω,ω,⟨ω,ω,ω⟩,ω,?_⟩;refine bD aD κ 8 κ rfl rfl ?_;simp[go_sem,hi];have e1:i+(n+1 - i)=n+1:=ω;refine⟨ω,⟨ω,ω⟩,ω,[2],τ,λN=>⟨?_,?_⟩⟩
  ·simp[go_sem,e1]
  ·simp[go_sem];refine⟨ω,λr c hr hc=>?_⟩;unfold gE aI
   repeat' split
   all_goals first | (exfalso;omega) | rfl | exact congrArg SV.r (congrFun (congrArg get ω) _) | exact congrArg SV.r (congrFun (congrArg one ω) _)
 ·have hc':¬(C:Int)<(n:Int)+1:=ω;have hn1:¬(n:Int)+1<=(n:Int):=ω;right;simp[go_sem,hc',hi,hn1];refine⟨ω,⟨ω,ω⟩,ω,ω,?_⟩;refine iF aD Tryz.func398 κ κ κ (tS:=133) (tR:=4) κ (el:=220) rfl rfl (q:=1) (r:=0) (hq:=rfl) (hr:=rfl) δ ω ω ω ?_;simp[go_sem,hi,hc'];refine bD aD κ 8 κ rfl rfl ?_;simp[go_sem,hi];refine⟨ω,ω,ω,⟨ω,ω⟩,ω,ω,[0],τ,λN=>⟨?_,?_⟩⟩
  ·simp[go_sem]
  ·simp[go_sem];refine⟨ω,λr c hr hc=>?_⟩;unfold gE
   repeat' split
   all_goals first | (exfalso;omega) | rfl | exact congrArg SV.r (congrFun (congrArg get ω) _) | exact congrArg SV.r (congrFun (congrArg one ω) _)
def eB (w:BitVec 64) (j:Nat):BitVec 8:=to8 (bY w (8*j))
theorem fY (x:IrG) (j:Nat) (hj:j<8):Pure Tryz.prog 116 [x.sv,.i j] (· =.agg [.y (eB x.m j),.y (eB x.c j)]):=by
 refine π Tryz.func116 ?_;simp[go_sem];refine bD aD κ 13 κ rfl rfl ?_;have h1:((8:Int)*j).toNat=8*j:=ω;simp[go_sem,h1,aZt,eB];omega
def nH (l:List Int) (id:Int):List Int:=l.take (cA (λi=>l.getD i 0 - id) l.length)++id::l.drop (cA (λi=>l.getD i 0 - id) l.length)
structure PsG where
 c:BitVec 8
 m:BitVec 8
 ids:List Int
abbrev iZ (l:List Int):Nat->Nat->RV:=cG (λa _=>RV.i a) l
def PsG.f (a:PsG):Nat->RV
 | 0=>.y a.c
 | 1=>.y a.m
 | _=>.rs 1 a.ids.length (iZ a.ids)
@[go_sem]theorem PsG.f0 (a:PsG):a.f 0=.y a.c:=rfl
@[go_sem]theorem PsG.f1 (a:PsG):a.f 1=.y a.m:=rfl
@[go_sem]theorem PsG.f2 (a:PsG):a.f 2=.rs 1 a.ids.length (iZ a.ids):=rfl
abbrev cP (l:List PsG):Nat->Nat->RV:=cG PsG.f l
abbrev mQ (l:List PsG):Reg:=.vec 220 3 l.length λi j=>.r (cP l i j)
theorem sQ {l:List PsG} {i:Nat} (h:i<l.length) (j:Nat):cP l i j=l[i].f j:=bL (List.getElem?_eq_getElem h) j
def pcm (L:List PsG) (m c:BitVec 8) (i:Nat):Int:=match L[i]? with | some p=>cT p.m.toNat p.c.toNat m.toNat c.toNat | none=>0
structure Srt (L:List PsG) (m c:BitVec 8) (id:Int):Prop where
 len:L.length<=1000
 cells:∀a b,a<b->b<L.length->pcm L m c b<0->pcm L m c a<0
 ids:∀p∈L,p.ids.length<=1000/\∀a b,a<b->b<p.ids.length->p.ids.getD b 0<id->p.ids.getD a 0<id
def pat (L:List PsG) (m c:BitVec 8):Nat:=cA (pcm L m c) L.length
def pis (L:List PsG) (m c:BitVec 8):Bool:=cM (pcm L m c) L.length
def addL (L:List PsG) (m c:BitVec 8):List PsG:=if pis L m c then L else L.take (pat L m c)++⟨c,m,[]⟩::L.drop (pat L m c)
def aBb (L:List PsG) (m c:BitVec 8) (id:Int):List PsG:=(addL L m c).modify (pat L m c) λp=>{p with ids:=nH p.ids id}
theorem aJr {L:List PsG} {m c:BitVec 8} {i:Nat} (h:i<L.length):pcm L m c i=cT L[i].m.toNat L[i].c.toNat m.toNat c.toNat:=by
 unfold pcm;rw[List.getElem?_eq_getElem h]
theorem bJ4 (L:List PsG) (m c:BitVec 8) (i:Nat) (h:i<L.length):Pure Tryz.prog 314 [.agg [.r (cP L i 0),.r (cP L i 1),.r (cP L i 2)],.agg [.y m,.y c]] (· =.i (pcm L m c i)):=by
 rw[sQ h 0,sQ h 1,sQ h 2,aJr h];exact aMy _ _ _ _ _ _
theorem aK6 (L:List PsG) (m c:BitVec 8):pat L m c<(addL L m c).length:=by
 have h1:pat L m c<=L.length:=iK;unfold addL;split
 ·rename_i h;unfold pis cM at h;simp only [Bool.and_eq_true,decide_eq_true_eq] at h;exact h.1
 ·simp;omega
theorem aP2 (L:List PsG) (p:PsG) (k:Nat) (hk:k<=L.length):gE (cP L) (cP [p]) k=cP (L.take k++p::L.drop k):=by
 funext r c;unfold gE cP cG;rw[List.getElem?_append];have hl:(L.take k).length=k:=ι;rw[hl];by_cases h1:r<k
 ·rw[if_pos h1,if_pos h1,List.getElem?_take_of_lt h1]
 ·rw[if_neg h1,if_neg h1];by_cases h2:r=k
  ·subst h2;simp
  ·rw[if_neg h2];have e:r - k=(r - 1 - k)+1:=ω;rw[e,List.getElem?_cons_succ,List.getElem?_drop]
   congr 2;congr 1;omega
theorem aOk (L:List PsG) (p:PsG) (k:Nat) (hn:L.length<=1000000) (hk:k<=L.length) :
 Own Tryz.prog 315 [mQ L,.vec 220 3 1 λi j=>.r (cP [p] i j)] [.sl 0 3 0 L.length none,.i k,.sl 1 3 0 1 none] (.sl 0 3 0 (L.length+1) none) [.vec 220 3 (L.length+1) λi j=>.r (cP (L.take k++p::L.drop k) i j)]:=by
 rw[<- aP2 L p k hk];exact aTr L.length k hn hk (cP L) (cP [p])
theorem bAw {L:List PsG} {m c:BitVec 8} {id:Int} (h:Srt L m c id):∀p∈addL L m c,p.ids.length<=1000/\∀a b,a<b->b<p.ids.length->p.ids.getD b 0<id->p.ids.getD a 0<id:=by
 intro p hp;unfold addL at hp;split at hp
 ·exact h.ids p hp
 ·rcases List.mem_append.1 hp with h1 | h1
  ·exact h.ids p (List.mem_of_mem_take h1)
  ·rcases List.mem_cons.1 h1 with rfl | h1
   ·simp
   ·exact h.ids p (List.mem_of_mem_drop h1)
theorem aFk (L:List PsG) (k:Nat) (id:Int) (i j:Nat):cP (L.modify k λp=>{p with ids:=nH p.ids id}) i j=if h:i=k/\j=2/\k<L.length then .rs 1 (nH (L[k]'h.2.2).ids id).length (iZ (nH (L[k]'h.2.2).ids id)) else if 2<j then cP (L.modify k λp=>{p with ids:=nH p.ids id}) i j else cP L i j:=by
 split
 ·rename_i h;obtain⟨rfl,rfl,h⟩:=h;rw[sQ (by simpa using h)];simp[PsG.f]
 ·rename_i h;split
  ·rfl
  ·unfold cP cG;rw[List.getElem?_modify];by_cases hik:k=i
   ·subst hik
    cases hg:L[k]? with
    | none=>simp
    | some p=>
      have hk:k<L.length:=(List.getElem?_eq_some_iff.1 hg).1;simp only [if_true,Option.map_some];rcases(show j=0\/j=1 by omega) with rfl | rfl <;> rfl
   ·simp[hik]
theorem aBn (l:List Int) (id:Int) (q:Nat) (hq:q<=l.length):∀a,a<l.length+1->iZ (l.take q++id::l.drop q) a 0=if a<q then iZ l a 0 else if a=q then .i id else iZ l (a - 1) 0:=by
 intro a ha;unfold iZ cG;rw[List.getElem?_append];have hl:(l.take q).length=q:=ι;rw[hl];by_cases h1:a<q
 ·rw[if_pos h1,if_pos h1,List.getElem?_take_of_lt h1]
 ·rw[if_neg h1,if_neg h1];by_cases h2:a=q
  ·subst h2;simp
  ·rw[if_neg h2];have e:a - q=(a - 1 - q)+1:=ω;rw[e,List.getElem?_cons_succ,List.getElem?_drop]
   congr 2;congr 1;omega
theorem vG (L:List PsG) (m c:BitVec 8) (id:Int) (h:Srt L m c id):Own Tryz.prog 219 [mQ L] [.sl 0 3 0 L.length none,.agg [.y m,.y c],.i id] (.sl 0 3 0 (aBb L m c id).length none) [mQ (aBb L m c id)]:=by
 refine eF aD Tryz.func219 rfl κ ν rfl rfl ?_;have hlen:=h.len;simp[go_sem];refine aG (v:=.tup [.i (pat L m c:Nat),.b (pis L m c)]) (by
  simp[go_sem];exact aRb L.length ω (cP L) m c 314 [] rfl (pcm L m c) h.cells (λi hi=>bJ4 L m c i hi)) rfl ?_
 have hle:pat L m c<=L.length:=iK;have hat:=aK6 L m c;simp[go_sem];obtain⟨L2,hL2⟩:∃L2,addL L m c=L2:=⟨_,rfl⟩;have hids:=bAw h;have hadd:aBb L m c id=L2.modify (pat L m c) λp=>{p with ids:=nH p.ids id}:=by rw[<- hL2];rfl
 rw[hL2] at hat hids;rw[hadd];generalize hk:pat L m c=k at *;have hat':(k:Int)<L2.length:=ω;have r2:=sQ hat 2;obtain⟨hi1,hi2⟩:=hids L2[k] (List.getElem_mem hat);have hsr:=aS5 L2[k].ids.length ω (iZ L2[k].ids) (λi=>L2[k].ids.getD i 0) (λi hi=>by unfold iZ;rw[bL (List.getElem?_eq_getElem hi)];simp[List.getD,List.getElem?_eq_getElem hi]) id hi2;have hins:nH L2[k].ids id=L2[k].ids.take (cA (λi=>L2[k].ids.getD i 0 - id) L2[k].ids.length)++id::L2[k].ids.drop (cA (λi=>L2[k].ids.getD i 0 - id) L2[k].ids.length):=rfl;have hql:cA (λi=>L2[k].ids.getD i 0 - id) L2[k].ids.length<=L2[k].ids.length:=iK;generalize cA (λi=>L2[k].ids.getD i 0 - id) L2[k].ids.length=q at *;generalize cM (λi=>L2[k].ids.getD i 0 - id) L2[k].ids.length=fb at *
 cases hp:pis L m c
 ·have e2:L2=L.take k++⟨c,m,[]⟩::L.drop k:=by rw[<- hL2,<- hk];unfold addL;rw[if_neg (by rw[hp];simp)]
  have e3:L.length+1=L2.length:=by rw[e2];simp;omega
  simp[go_sem];refine aQf (M':=eM [some (mQ L),some (.box [.y m,.y c]),some (.vec 220 3 1 λi j=>.r (cP [⟨c,m,[]⟩] i j))]) (λr=>?_) (aF [0,2] (aOk L ⟨c,m,[]⟩ k ω hle) τ rfl ?_ ?_)
  ·rcases(show r=0\/r=1\/r=2\/3<=r by omega) with rfl | rfl | rfl | hr
   ·exact .inl (Reg.sub_rfl _)
   ·exact .inl (Reg.sub_rfl _)
   ·refine Reg.wk_vec (Nat.le_refl _) λi j hi hj=>?_;obtain rfl:i=0:=ω;rcases(show j=0\/j=1\/j=2 by omega) with rfl | rfl | rfl
    ·exact SV.sub_rfl _
    ·exact SV.sub_rfl _
    ·show SV.sub (.r (.v (.slice none 0 0))) (.r (.rs 1 0 _));simp[SV.sub,RV.sub]
   ·have h1:eM [some (mQ L),some (.box [.y m,.y c]),some (.vec 220 3 1 λi j=>.r (cP [⟨c,m,[]⟩] i j))] r=none:=by
     unfold eM;rw[List.getElem?_eq_none ι];rfl
    rw[h1];have h2:bU [mQ L] r=none:=by rw[dP,List.getElem?_eq_none ι]
    rw[aT _ _ ω,aT _ _ ω,h2];exact .inl trivial
  ·simp[go_sem]
  ·rw[<- e2,e3];simp[go_sem,hat,hat',r2];refine aA hsr rfl rfl ?_;simp[go_sem,hat,hat',r2];refine⟨hql,?_⟩;refine aP (t:=(.take 0 (.take 1 (.take 2 (.take 3 (.take 6 (.take 7 (.take 8 (.take 9 (.take 10 (.take 11 (.take 12 (.alt 4 [12,11,10,9,8,7,6,3,2,1,0] (.alt 5 [12,11,10,9,8,7,6,2,1,0] (.alt 13 [12,11,10,9,8,7,6,1,0] (.take 14 (.take 15 (.alt 16 [15,14,11,10,9,8,7,6,1,0] (.done [14]) .nil))) .nil) .nil) .nil))))))))))))) aD κ κ κ (λ_ _ _ _ ⟨_,_,_,_,h⟩=>h) ?_;simp[go_sem,hat,hat',r2];refine⟨ω,ω,ω,ω,aZ (GSt.freeze 5 rfl) (aZ (GSt.wk (M':=λr=>if r=3 then some (mQ (L2.modify k λp=>{p with ids:=nH p.ids id})) else none) λr=>?_) (aQ ?_))⟩
   ·by_cases hr:r=3
    ·subst hr;refine Reg.wk_vec τ λi j hi hj=>?_;rw[aFk];by_cases e:i=k/\j=2
     ·obtain⟨rfl,rfl⟩:=e;rw[dif_pos ⟨rfl,rfl,hat⟩,hins];have hlen2:(L2[i].ids.take q++id::L2[i].ids.drop q).length=q+1+(L2[i].ids.length - q):=ι;rw[hlen2];simp[go_sem];intro a ha;rw[aBn _ _ q hql a ω];unfold aI;by_cases c1:a<q+1
      ·by_cases c2:a<q
       ·simp[c1,c2,go_sem]
       ·have c3:a - q=0:=ω;have c4:a=q:=ω;simp[c1,c2,c3,c4,go_sem]
      ·have c2:¬a<q:=ω;have c3:¬a=q:=ω;have c4:q+(a - (q+1))=a - 1:=ω;simp[c1,c2,c3,c4,go_sem,ha]
     ·rw[dif_neg (λh=>e ⟨h.1,h.2.1⟩),if_neg ω];have e':¬(i=k/\2<=j/\j<3):=λh=>e ⟨h.1,ω⟩;simp[go_sem,e']
    ·rw[if_neg hr];exact .inl ζ
   ·simp[go_sem];refine⟨[3],τ,λN=>⟨ζ,?_⟩⟩;simp[go_sem]
 ·have hL:L=L2:=by rw[<- hL2];unfold addL;rw[if_pos hp]
  subst hL;simp[go_sem,hat,hat',r2];refine aA hsr rfl rfl ?_;simp[go_sem,hat,hat',r2];refine⟨hql,?_⟩;refine aP (t:=(.take 0 (.take 1 (.take 2 (.take 3 (.take 6 (.take 7 (.take 8 (.take 9 (.take 10 (.take 11 (.take 12 (.alt 4 [12,11,10,9,8,7,6,3,2,1,0] (.alt 5 [12,11,10,9,8,7,6,2,1,0] (.alt 13 [12,11,10,9,8,7,6,1,0] (.take 14 (.take 15 (.alt 16 [15,14,11,10,9,8,7,6,1,0] (.done [14]) .nil))) .nil) .nil) .nil))))))))))))) aD κ κ κ (λ_ _ _ _ ⟨_,_,_,_,h⟩=>h) ?_;simp[go_sem,hat,hat',r2];refine⟨ω,ω,ω,ω,aZ (GSt.freeze 3 rfl) (aZ (GSt.wk (M':=eM [some (mQ (L.modify k λp=>{p with ids:=nH p.ids id}))]) λr=>?_) (aQ ?_))⟩
  ·by_cases hr:r=0
   ·subst hr;refine Reg.wk_vec τ λi j hi hj=>?_;rw[aFk];by_cases e:i=k/\j=2
    ·obtain⟨rfl,rfl⟩:=e;rw[dif_pos ⟨rfl,rfl,hat⟩,hins];have hlen2:(L[i].ids.take q++id::L[i].ids.drop q).length=q+1+(L[i].ids.length - q):=ι;rw[hlen2];simp[go_sem];intro a ha;rw[aBn _ _ q hql a ω];unfold aI;by_cases c1:a<q+1
     ·by_cases c2:a<q
      ·simp[c1,c2,go_sem]
      ·have c3:a - q=0:=ω;have c4:a=q:=ω;simp[c1,c2,c3,c4,go_sem]
     ·have c2:¬a<q:=ω;have c3:¬a=q:=ω;have c4:q+(a - (q+1))=a - 1:=ω;simp[c1,c2,c3,c4,go_sem,ha]
    ·rw[dif_neg (λh=>e ⟨h.1,h.2.1⟩),if_neg ω];have e':¬(i=k/\2<=j/\j<3):=λh=>e ⟨h.1,ω⟩;simp[go_sem,e']
   ·have:eM [some (mQ (L.modify k λp=>{p with ids:=nH p.ids id}))] r=none:=by
     cases r with
     | zero=>exact absurd rfl hr
     | succ r=>rfl
    rw[this];exact .inl ζ
  ·simp[go_sem];refine⟨[0],τ,λN=>⟨ζ,?_⟩⟩;simp[go_sem]
end Go.Gx.Ix
namespace Go.Proofs.YtncccnmmjfapnaaGreat
open Go.Shelf Go.RowKit Go.Lib Go.Sort Go.Proofs
shelf_lay_g SlLaysF0.n6 Slsf 6 at Tryz 217 as Tryz.sortPr
end Go.Proofs.YtncccnmmjfapnaaGreat
namespace Go.Gx.Ix
open Go.RowKit Go.Proofs Go.Proofs.YtncccnmmjfapnaaGreat Go.Sort
instance:Inhabited IrG:=⟨⟨0,0⟩⟩
instance:Inhabited MbG:=⟨⟨0,default⟩⟩
theorem bJn (a b:MbG):Pure Tryz.prog 218 [a.sv,b.sv] (· =.i (bT a.id b.id)):=by
 refine π Tryz.func218 ?_;simp[go_sem];refine aA (aCc a.id b.id) rfl rfl ?_;simp[go_sem]
def oX (a:MbG):List Value:=[.int .i64 a.id,.int .u64 a.x.c.toNat,.int .u64 a.x.m.toNat]
def idM (a b:MbG):Int:=bT a.id b.id
def ltM:MbG->MbG->Bool:=ltOf idM
def cB (l:List MbG):List MbG:=(pdq ltM l.toArray 0 l.length (Lib.bitLen l.length) true true).toList
theorem wR {a b:MbG}:ltM a b=true↔a.id<b.id:=by
 unfold ltM ltOf idM bT;rw[decide_eq_true_eq]
 repeat' split
 all_goals omega
theorem bFh:SWO ltM where
 irrefl x:=by
  cases h:ltM x x with
  | false=>rfl
  | true=>rw[wR] at h;omega
 trans x y z h1 h2:=by rw[wR] at *;omega
 ntrans x y z h1 h2:=by
  have g1:¬ltM x y=true:=by rw[h1];simp
  have g2:¬ltM y z=true:=by rw[h2];simp
  cases h:ltM x z with
  | false=>rfl
  | true=>rw[wR] at *;omega
theorem dB (l:List MbG):(cB l).Perm l/\(cB l).length=l.length/\∀i j,i<j->(hj:j<(cB l).length)->∀hi:i<(cB l).length,(cB l)[i].id<=(cB l)[j].id:=by
 have h:=pdq_sorts ltM bFh l.toArray 0 l.toArray.size (Lib.bitLen l.toArray.size) true true (Nat.zero_le _) (Nat.le_refl _) (Or.inl rfl);obtain⟨⟨h1,h2,h3⟩,h4⟩:=h;have hs:(pdq ltM l.toArray 0 l.length (Lib.bitLen l.length) true true).size=l.length:=by simpa using h1
 have hl:(cB l).length=l.length:=by simp[cB,hs]
 refine⟨?_,hl,λi j hij hj hi=>?_⟩
 ·simp only [List.size_toArray] at h3;have e:∀a:Array MbG,a.size=l.length->a.extract 0 l.length=a:=λa ha=>by rw[<- ha];exact Array.extract_size
  rw[e _ hs,e _ τ] at h3;simpa [cB] using h3
 ·have h5:=h4 i j (Nat.zero_le _) hij (by rw[hl] at hj;simpa using hj);simp only [List.size_toArray] at h5;rw[getElem!_pos _ _ (by rw[hs,<- hl];exact hj),getElem!_pos _ _ (by rw[hs,<- hl];exact hi)] at h5;have h6:¬(cB l)[j].id<(cB l)[i].id:=λh=>by
   rw[<- wR] at h;simp only [cB,Array.getElem_toList] at h;rw[h] at h5;simp at h5
  omega
theorem aQ5 {w w':World} (h:FrS (λ_=>False) w.heap.size w w'):∃q os,w'=grow (w.drewN q) os:=by
 refine⟨w'.drawn - w.drawn,w'.heap.extract w.heap.size w'.heap.size,?_⟩;have h1:=h.drawn;obtain⟨heap',tape',drawn',os',output'⟩:=w';have e1:os'=w.os:=h.os;have e2:tape'=w.tape:=h.tape;have e3:output'=w.output:=h.output;have h1':w.drawn<=drawn':=h1;subst e1 e2 e3;unfold grow World.drewN;simp only [World.mk.injEq,true_and,and_true];refine⟨?_,by show drawn'=w.drawn+(drawn' - w.drawn);omega⟩;have hs:w.heap.size<=heap'.size:=h.size;refine Array.ext_getElem? λi=>?_;by_cases hi:i<w.heap.size
 ·rw[Array.getElem?_append_left hi];exact h.block i hi λh=>h
 ·rw[Array.getElem?_append_right ω];rw[Array.getElem?_extract];have:w.heap.size+(i - w.heap.size)=i:=ω;simp only [this];split
  ·rfl
  ·rename_i h9;exact Array.getElem?_eq_none (by show heap'.size<=i;omega)
theorem aMe (blk off size:Nat) (w:World):CmpLays Tryz.prog 218 #[] oX 3 idM blk off size w:=λm os dk _ x y=>by
 obtain⟨_,hc⟩:=bJn x y (λ_=>False) (sortWorldK oX 3 w blk off m dk os) [.agg (oX x).toArray,.agg (oX y).toArray] (λb h=>h.elim)
  ⟨_,_,rfl,⟨oX x,rfl,λv hv=>by simp[oX] at hv;rcases hv with rfl | rfl | rfl <;> rfl,_,_,rfl,rfl,_,_,rfl,rfl,_,_,rfl,rfl,rfl⟩,_,_,rfl,⟨oX y,rfl,λv hv=>by simp[oX] at hv;rcases hv with rfl | rfl | rfl <;> rfl,_,_,rfl,rfl,_,_,rfl,rfl,_,_,rfl,rfl,rfl⟩,rfl⟩
 refine Calls.mono hc λe w' ⟨v,s,h1,h2,h3,h4⟩=>?_;subst h2;have hv:v=.int .i64 (idM x y):=h3;subst hv;exact⟨h1,aQ5 h4⟩
theorem aO1 {B W:Nat->Prop} {n0:Nat} {σ:Sig} {M:Mem} {F:Nat->Prop} {w w':World} (hm:MOK B W n0 σ M F w) (hsz:w.heap.size<=w'.heap.size) (hsame:∀b,b<w.heap.size->w'.heap[b]? =w.heap[b]?):MOK B W n0 σ M F w':=by
 have hk:cC (Zof B σ M w) (Zof B σ M w') w w':=λb hb=>⟨⟨⟨Nat.lt_of_lt_of_le hb.1.1 hsz,hb.1.2⟩,hb.2⟩,hsame b hb.1.1⟩;refine⟨hm.newB,hm.fresh,λr R h=>?_,hm.inj,hm.own⟩;obtain⟨L,e1,e2⟩:=hm.reg r R h;exact⟨L,e1,e2.mono (λ_ _ h=>h) hk λb hb=>hsame b (e2.block hb)⟩
theorem aS0 (a:MbG):(oX a).length=3:=rfl
def aE0 (a:MbG) (j:Nat):Value:=if j=0 then .int .i64 a.id else if j=1 then .int .u64 a.x.c.toNat else .int .u64 a.x.m.toNat
theorem aKg (a:MbG) {j:Nat} (h:j<3):a.f j=.v (aE0 a j):=by
 match j,h with
 | 0,_=>rfl
 | 1,_=>rfl
 | 2,_=>rfl
theorem uW {d:Array MbG} {i j:Nat} (hi:i<d.size) (hj:j<3):(flatK oX 3 d)[i*3+j]! =aE0 d[i]! j:=by
 rw[get_flatK _ _ _ _ ω];rw[show(i*3+j) / 3=i by omega,show(i*3+j) % 3=j by omega]
 match j,hj with
 | 0,_=>rfl
 | 1,_=>rfl
 | 2,_=>rfl
theorem aNe {d:Array MbG} {t:Nat} (h:t<d.size*3):(flatK oX 3 d)[t]!.oneCell'=true:=by
 have h2:=uW (d:=d) (i:=t / 3) (j:=t % 3) ω ω;rw[show t / 3*3+t % 3=t by omega] at h2;rw[h2];unfold aE0
 repeat' split
 all_goals rfl
abbrev aGb (l:List MbG):Reg:=.vec 126 3 l.length λi j=>.r (gG l i j)
theorem bA1 (l:List MbG) (hn:l.length<=1000000) :
 OwnS Tryz.prog 1 217 [aGb l] [.sl 0 3 0 l.length none,.fn (.func 218) [] []] (.tup []) [aGb (cB l)]:=by
 intro B σ w vs hm ha;obtain⟨v0,vs',rfl,h0,v1,vs'',rfl,h1,h2⟩:=ha;subst h2;obtain⟨L,A,hσ,rfl,hnc,_,hA,hA0⟩:=h0;obtain⟨us,ws,rfl,rfl,rfl⟩:=h1;refine⟨enters_of Tryz.func217 κ rfl _ w,?_⟩;obtain⟨L',hσ',hR⟩:=hm.reg 0 (aGb l) rfl;rw[hσ] at hσ';cases hσ';have hM:∀R',bG (bU [aGb l]) 0 (some R')=bU [R']:=λR'=>by
  funext r
  match r with
  | 0=>rfl
  | r+1=>rfl
 obtain⟨n,hnl⟩:∃n,l.length=n:=⟨_,rfl⟩;by_cases hz:l=[]
 ·subst hz;refine(AnyF.slices_SortFunc_none Tryz.sortPr A _ _ w).mono ?_;rintro e w' ⟨rfl,rfl⟩;refine⟨_,σ,rfl,?_,⟨[],rfl,rfl⟩,FrS.refl _ _ _,λ_ _=>rfl⟩;have e:cB []=[]:=List.length_eq_zero_iff.1 (dB []).2.1;rw[e];exact hm
 have hpos:0<l.length:=List.length_pos_iff.2 hz;obtain⟨hnL,hLm,hR | ⟨b,cs,hb,hh,hl,ho,hc⟩⟩:=hR
 ·omega
 have hbl:b<w.heap.size:=eU hh;obtain⟨b',hb',rfl⟩:=hA (by simp only [Option.getD];omega);rw[hb] at hb';cases hb';have hd:l.toArray.size=l.length:=τ;have hK:HoldsK oX 3 w b 0 l.toArray:=λt ht=>by
  rw[size_flatK,hd] at ht;obtain⟨v,g1,g2,g3⟩:=hc (t / 3) (t % 3) ω ω;rw[show t / 3*3+t % 3=t by omega] at g1;have g4:=uW (d:=l.toArray) (i:=t / 3) (j:=t % 3) (by rw[hd];omega) ω;rw[show t / 3*3+t % 3=t by omega] at g4;have g6:gG l (t / 3) (t % 3)=.v (aE0 (l[t / 3]' ω) (t % 3)):=by rw[mrow ω _,aKg _ ω]
  simp only [g6] at g3;have g5:v=aE0 (l[t / 3]' ω) (t % 3):=g3;refine⟨?_,?_⟩
  ·rw[g4];simp only [World.cell?,hh,Nat.zero_add];rw[List.getElem?_toArray,g1,g5];rw[getElem!_pos _ _ (by rw[hd];omega)];rfl
  ·simp[World.frozen?,hh]
 have eg:∀args w,(callFunc 218 args).run Tryz.prog w=.ok (.enter 218 args) w:=enters_of Tryz.func218 κ rfl;have hcall:=AnyQ.slices_SortFunc_eq Tryz.sortPr 3 Tryz.isAgg126 Tryz.sizeOf126 oX aS0 (λx v hv=>by simp[oX] at hv;rcases hv with rfl | rfl | rfl <;> rfl) idM bFh 218 #[] b 0 (none.getD (L.cap - 0)) l.toArray w eg (aMe b 0 _ w) hK hbl ω;rw[hd] at hcall;refine hcall.mono ?_;rintro e w' ⟨rfl,q,os,rfl⟩;have hsl:(cB l).length=l.length:=(dB l).2.1;have hs:pdq (ltOf idM) l.toArray 0 l.length (Lib.bitLen l.length) true true=(cB l).toArray:=by simp[cB,ltM]
 rw[hs];generalize cB l=l2 at hsl ⊢;have hw1:=mS (w':=putRowK oX 3 (Sort.ahead w q) b 0 l2.toArray) (R:=aGb l2) hm (ref:=0) rfl hσ hb (by simp[putRowK]) (λy hy=>by
  simp[putRowK,putRow,mapBlock,Array.getElem?_modify,Ne.symm hy]) λZ' hk'=>by
  refine⟨by rw[hsl];exact hnL,hLm,.inr ⟨b,(putCells id 0 (flatK oX 3 l2.toArray) cs.toArray).toList,hb,?_,?_,?_,?_⟩⟩
  ·simp[putRowK,putRow,mapBlock,Array.getElem?_modify,hh,onCells]
  ·simp[putCells,hl]
  ·intro v hv;obtain⟨t,ht⟩:=List.getElem?_of_mem hv;rw[Array.getElem?_toList] at ht;simp only [putCells,Array.getElem?_mapIdx,List.getElem?_toArray,Option.map_eq_some_iff] at ht;obtain⟨u,hu,e⟩:=ht;split at e
   ·rename_i hr;rw[<- e];exact aNe (by have:=hr.2;rw[size_flatK] at this;simpa using this)
   ·rw[<- e];exact ho u (List.mem_of_getElem? hu)
  ·intro i j hi hj;have hi2:i<l2.length:=hi;have g:=uW (d:=l2.toArray) (i:=i) (j:=j) (by simpa using hi2) hj;obtain⟨v,g1,_,_⟩:=hc i j ω hj;refine⟨aE0 (l2[i]'hi2) j,?_,?_,?_⟩
   ·rw[Array.getElem?_toList];simp only [putCells,Array.getElem?_mapIdx,List.getElem?_toArray,g1,Option.map_some];rw[if_pos ⟨Nat.zero_le _,by rw[size_flatK];simp;omega⟩];simp only [Nat.sub_zero,id,g];rw[getElem!_pos _ _ (by simpa using hi2)];rfl
   ·unfold aE0
    repeat' split
    all_goals rfl
   ·have g6:gG l2 i j=.v (aE0 l2[i] j):=by rw[mrow hi2,aKg _ hj]
    simp only [g6];rfl
 rw[hM] at hw1;have hsz:(putRowK oX 3 (Sort.ahead w q) b 0 l2.toArray).heap.size=w.heap.size:=by simp[putRowK]
 refine⟨_,σ,rfl,aO1 hw1.1 (by simp[sortWorldK]) (λy hy=>by unfold sortWorldK;exact heap_grow_old _ _ hy),⟨[],rfl,rfl⟩,⟨rfl,rfl,rfl,?_,?_,?_⟩,λ_ _=>rfl⟩
 ·simp[sortWorldK,hsz]
 ·simp[sortWorldK,grow,putRowK,putRow,mapBlock,Sort.ahead]
 ·intro y hy hW;unfold sortWorldK;rw[heap_grow_old _ _ ω];have:y≠b:=λe=>hW ⟨0,_,L,rfl,hσ,by rw[e];exact hb⟩;simp[putRowK,putRow,mapBlock,Array.getElem?_modify,Ne.symm this]
end Go.Gx.Ix
namespace Go.Gx.Ix
open Go.RowKit Go.Proofs Go.Proofs.YtncccnmmjfapnaaGreat
theorem cY {N:dW} {E:Env} {M:Mem} {nx:Nat} {S:List (Nat × SV)} {l:List (Option Reg)} {n:Nat} (hn:N.np<=n) (hl:l.length=n) (h:fG n E S) (hM:iV 0 (cS n M) l):Fit N E M nx S (eM l) n:=
 Fit.of_slotsS hn h (kT hl hM)
theorem aWt (n:Nat) (hn:n<=1000000) (get:Nat->Nat->RV):Own Tryz.prog 216 [] [.r (.rs 3 n get)] (.sl 0 3 0 n none) [.vec 126 3 n λi j=>.r (get i j)]:=by
 refine χ Tryz.func216 ?_;simp[go_sem];refine⟨λh=>.inr (by subst h;simp),⟨ω,ω⟩,⟨[0],τ,λN=>⟨?_,?_⟩⟩⟩
 ·simp[go_sem]
 ·simp[go_sem,aI];intros i j hi hj;rw[if_pos ω];rfl
def cK (ms:List MbG) (k j:Nat):List PsG:=(ms.take k).foldl (λL a=>aBb L (eB a.x.m j) (eB a.x.c j) a.id) []
theorem aC7 {ms:List MbG} {k:Nat} (h:k<ms.length) (j:Nat):cK ms (k+1) j=aBb (cK ms k j) (eB ms[k].x.m j) (eB ms[k].x.c j) ms[k].id:=by
 unfold cK;rw[List.take_succ_eq_append_getElem h,List.foldl_append];rfl
theorem cK0 (ms:List MbG) (j:Nat):cK ms 0 j=[]:=rfl
def cIn (ms:List MbG) (k j i:Nat):List PsG:=cK ms (if i<j then k+1 else k) i
abbrev aM:SV:=.r (.v (.slice none 0 0))
abbrev ixM (ms:List MbG) (c:Nat->List PsG) (k:Nat):List (Option Reg):=
 [some (.box [aM,aM,aM,aM,aM,aM,aM,aM,aM]),some (.box [.sl 2 3 0 ms.length none,.sl 4 3 0 (c 0).length none,.sl 5 3 0 (c 1).length none,.sl 6 3 0 (c 2).length none,.sl 7 3 0 (c 3).length none,.sl 8 3 0 (c 4).length none,.sl 9 3 0 (c 5).length none,.sl 10 3 0 (c 6).length none,.sl 11 3 0 (c 7).length none]),some (aGb ms),none,some (mQ (c 0)),some (mQ (c 1)),some (mQ (c 2)),some (mQ (c 3)),some (mQ (c 4)),some (mQ (c 5)),some (mQ (c 6)),some (mQ (c 7))]
theorem bJd (l:List MbG) (hn:l.length<=1000) (hs:∀k j,(h:k<(cB l).length)->j<8->Srt (cK (cB l) k j) (eB (cB l)[k].x.m j) (eB (cB l)[k].x.c j) (cB l)[k].id):Own Tryz.prog 110 [] [xA l] (.agg (.sl 0 3 0 l.length none::(List.range 8).map λj=>.sl (j+1) 3 0 (cK (cB l) l.length j).length none)) (aGb (cB l)::(List.range 8).map λj=>mQ (cK (cB l) l.length j)):=by
 refine γ Tryz.func110 ?_;simp[go_sem];refine aF [] (aWt l.length ω (gG l)) τ rfl ?_ ?_
 ·simp[go_sem]
 simp[go_sem];refine aR [2] (bA1 l ω) τ τ rfl ?_ ?_
 ·simp[go_sem]
 simp[go_sem];have hl:=(dB l).2.1;obtain⟨ms,hms⟩:∃ms,cB l=ms:=⟨_,rfl⟩;rw[hms] at hs hl ⊢;rw[<- hl];have hl3:ms.length<=1000:=ω;have hk0:(λj=>cK ms 0 j)=λ_=>[]:=rfl;refine bH ((GSt.adoptBox 1 1 220 3 (λi j=>.r (cP [] i j)) (by rfl) (by rfl) δ).trans ((GSt.adoptBox 1 2 220 3 (λi j=>.r (cP [] i j)) (by rfl) (by rfl) δ).trans ((GSt.adoptBox 1 3 220 3 (λi j=>.r (cP [] i j)) (by rfl) (by rfl) δ).trans ((GSt.adoptBox 1 4 220 3 (λi j=>.r (cP [] i j)) (by rfl) (by rfl) δ).trans ((GSt.adoptBox 1 5 220 3 (λi j=>.r (cP [] i j)) (by rfl) (by rfl) δ).trans ((GSt.adoptBox 1 6 220 3 (λi j=>.r (cP [] i j)) (by rfl) (by rfl) δ).trans ((GSt.adoptBox 1 7 220 3 (λi j=>.r (cP [] i j)) (by rfl) (by rfl) δ).trans (GSt.adoptBox 1 8 220 3 (λi j=>.r (cP [] i j)) (by rfl) (by rfl) δ)))))))) ?_;refine vA aD (α:=Nat) (λk=>[(2,.ptr 0 0 9 0),(3,.ptr 1 0 9 0),(14,.sl 2 3 0 ms.length none),(15,.i ms.length),(16,.i k)]) (λk=>eM (ixM ms (cK ms k) k)) 12 (λk=>k<=ms.length) (λk=>ms.length - k) 0 τ (cY (Nat.zero_le _) rfl ζ (by simp[go_sem,cK0])) ?_;intro k J hk;simp[go_sem];split
 ·rename_i hlt;have hlt:k<ms.length:=hlt;obtain⟨a,ha⟩:∃a,ms[k]=a:=⟨_,rfl⟩;have r0:gG ms k 0=a.f 0:=by rw[mrow hlt,ha]
  have r1:gG ms k 1=a.f 1:=by rw[mrow hlt,ha]
  have r2:gG ms k 2=a.f 2:=by rw[mrow hlt,ha]
  have hc:∀j,cK ms (k+1) j=aBb (cK ms k j) (eB a.x.m j) (eB a.x.c j) a.id:=λj=>by rw[aC7 hlt,ha]
  have hsk:∀j,j<8->Srt (cK ms k j) (eB a.x.m j) (eB a.x.c j) a.id:=λj h=>by have:=hs k j hlt h;rwa [ha] at this
  simp[go_sem,r0,r1,r2];refine⟨hlt,?_⟩;refine vA aD (α:=Nat) (λj=>[(2,.ptr 0 0 9 0),(3,.ptr 1 0 9 0),(14,.sl 2 3 0 ms.length none),(15,.i ms.length),(16,.i k),(5,.ptr 12 0 3 0),(20,.i j)]) (λj=>eM (ixM ms (cIn ms k j) k++[some (.box [.i a.id,.w a.x.c,.w a.x.m])])) 13 (λj=>j<=8) (λj=>8 - j) 0 τ (cY (Nat.zero_le _) rfl ζ (by simp[go_sem,cIn])) ?_;intro j J hj;rcases(show j=0\/j=1\/j=2\/j=3\/j=4\/j=5\/j=6\/j=7\/j=8 by omega) with rfl | rfl | rfl | rfl | rfl | rfl | rfl | rfl | rfl
  ·simp[go_sem];refine aP (t:=(.take 0 (.take 1 (.take 2 (.take 3 (.take 4 (.take 5 (.take 6 (.take 7 (.take 9 (.take 10 (.take 12 (.alt 8 [12,10,9,7,6,5,4,3,2,1,0] (.alt 11 [12,10,9,5,4,3,2,1,0] (.take 13 (.alt 14 [13,12,9,5,3,2,1,0] (.done [12]) .nil)) .nil) .nil))))))))))))) aD κ κ κ (λ_ _ _ _ h=>h) ?_;simp[go_sem];refine aA (fY a.x 0 ω) rfl rfl ?_;simp[go_sem];refine aF [4] (vG (cK ms k 0) (eB a.x.m 0) (eB a.x.c 0) a.id (hsk 0 ω)) τ rfl ?_ ?_
   ·simp[go_sem,cIn]
   rw[<- hc 0];simp[go_sem];refine⟨1,ω,ω,Fit.vw (GSt.move 13 4 δ (Nat.zero_le _) (Nat.zero_le _) δ) (cY (Nat.zero_le _) rfl ζ ?_)⟩;simp[go_sem,cIn]
  ·simp[go_sem];refine aP (t:=(.take 0 (.take 1 (.take 2 (.take 3 (.take 4 (.take 5 (.take 6 (.take 7 (.take 9 (.take 10 (.take 12 (.alt 8 [12,10,9,7,6,5,4,3,2,1,0] (.alt 11 [12,10,9,5,4,3,2,1,0] (.take 13 (.alt 14 [13,12,9,5,3,2,1,0] (.done [12]) .nil)) .nil) .nil))))))))))))) aD κ κ κ (λ_ _ _ _ h=>h) ?_;simp[go_sem];refine aA (fY a.x 1 ω) rfl rfl ?_;simp[go_sem];refine aF [5] (vG (cK ms k 1) (eB a.x.m 1) (eB a.x.c 1) a.id (hsk 1 ω)) τ rfl ?_ ?_
   ·simp[go_sem,cIn]
   rw[<- hc 1];simp[go_sem];refine⟨2,ω,ω,Fit.vw (GSt.move 13 5 δ (Nat.zero_le _) (Nat.zero_le _) δ) (cY (Nat.zero_le _) rfl ζ ?_)⟩;simp[go_sem,cIn]
  ·simp[go_sem];refine aP (t:=(.take 0 (.take 1 (.take 2 (.take 3 (.take 4 (.take 5 (.take 6 (.take 7 (.take 9 (.take 10 (.take 12 (.alt 8 [12,10,9,7,6,5,4,3,2,1,0] (.alt 11 [12,10,9,5,4,3,2,1,0] (.take 13 (.alt 14 [13,12,9,5,3,2,1,0] (.done [12]) .nil)) .nil) .nil))))))))))))) aD κ κ κ (λ_ _ _ _ h=>h) ?_;simp[go_sem];refine aA (fY a.x 2 ω) rfl rfl ?_;simp[go_sem];refine aF [6] (vG (cK ms k 2) (eB a.x.m 2) (eB a.x.c 2) a.id (hsk 2 ω)) τ rfl ?_ ?_
   ·simp[go_sem,cIn]
   rw[<- hc 2];simp[go_sem];refine⟨3,ω,ω,Fit.vw (GSt.move 13 6 δ (Nat.zero_le _) (Nat.zero_le _) δ) (cY (Nat.zero_le _) rfl ζ ?_)⟩;simp[go_sem,cIn]
  ·simp[go_sem];refine aP (t:=(.take 0 (.take 1 (.take 2 (.take 3 (.take 4 (.take 5 (.take 6 (.take 7 (.take 9 (.take 10 (.take 12 (.alt 8 [12,10,9,7,6,5,4,3,2,1,0] (.alt 11 [12,10,9,5,4,3,2,1,0] (.take 13 (.alt 14 [13,12,9,5,3,2,1,0] (.done [12]) .nil)) .nil) .nil))))))))))))) aD κ κ κ (λ_ _ _ _ h=>h) ?_;simp[go_sem];refine aA (fY a.x 3 ω) rfl rfl ?_;simp[go_sem];refine aF [7] (vG (cK ms k 3) (eB a.x.m 3) (eB a.x.c 3) a.id (hsk 3 ω)) τ rfl ?_ ?_
   ·simp[go_sem,cIn]
   rw[<- hc 3];simp[go_sem];refine⟨4,ω,ω,Fit.vw (GSt.move 13 7 δ (Nat.zero_le _) (Nat.zero_le _) δ) (cY (Nat.zero_le _) rfl ζ ?_)⟩;simp[go_sem,cIn]
  ·simp[go_sem];refine aP (t:=(.take 0 (.take 1 (.take 2 (.take 3 (.take 4 (.take 5 (.take 6 (.take 7 (.take 9 (.take 10 (.take 12 (.alt 8 [12,10,9,7,6,5,4,3,2,1,0] (.alt 11 [12,10,9,5,4,3,2,1,0] (.take 13 (.alt 14 [13,12,9,5,3,2,1,0] (.done [12]) .nil)) .nil) .nil))))))))))))) aD κ κ κ (λ_ _ _ _ h=>h) ?_;simp[go_sem];refine aA (fY a.x 4 ω) rfl rfl ?_;simp[go_sem];refine aF [8] (vG (cK ms k 4) (eB a.x.m 4) (eB a.x.c 4) a.id (hsk 4 ω)) τ rfl ?_ ?_
   ·simp[go_sem,cIn]
   rw[<- hc 4];simp[go_sem];refine⟨5,ω,ω,Fit.vw (GSt.move 13 8 δ (Nat.zero_le _) (Nat.zero_le _) δ) (cY (Nat.zero_le _) rfl ζ ?_)⟩;simp[go_sem,cIn]
  ·simp[go_sem];refine aP (t:=(.take 0 (.take 1 (.take 2 (.take 3 (.take 4 (.take 5 (.take 6 (.take 7 (.take 9 (.take 10 (.take 12 (.alt 8 [12,10,9,7,6,5,4,3,2,1,0] (.alt 11 [12,10,9,5,4,3,2,1,0] (.take 13 (.alt 14 [13,12,9,5,3,2,1,0] (.done [12]) .nil)) .nil) .nil))))))))))))) aD κ κ κ (λ_ _ _ _ h=>h) ?_;simp[go_sem];refine aA (fY a.x 5 ω) rfl rfl ?_;simp[go_sem];refine aF [9] (vG (cK ms k 5) (eB a.x.m 5) (eB a.x.c 5) a.id (hsk 5 ω)) τ rfl ?_ ?_
   ·simp[go_sem,cIn]
   rw[<- hc 5];simp[go_sem];refine⟨6,ω,ω,Fit.vw (GSt.move 13 9 δ (Nat.zero_le _) (Nat.zero_le _) δ) (cY (Nat.zero_le _) rfl ζ ?_)⟩;simp[go_sem,cIn]
  ·simp[go_sem];refine aP (t:=(.take 0 (.take 1 (.take 2 (.take 3 (.take 4 (.take 5 (.take 6 (.take 7 (.take 9 (.take 10 (.take 12 (.alt 8 [12,10,9,7,6,5,4,3,2,1,0] (.alt 11 [12,10,9,5,4,3,2,1,0] (.take 13 (.alt 14 [13,12,9,5,3,2,1,0] (.done [12]) .nil)) .nil) .nil))))))))))))) aD κ κ κ (λ_ _ _ _ h=>h) ?_;simp[go_sem];refine aA (fY a.x 6 ω) rfl rfl ?_;simp[go_sem];refine aF [10] (vG (cK ms k 6) (eB a.x.m 6) (eB a.x.c 6) a.id (hsk 6 ω)) τ rfl ?_ ?_
   ·simp[go_sem,cIn]
   rw[<- hc 6];simp[go_sem];refine⟨7,ω,ω,Fit.vw (GSt.move 13 10 δ (Nat.zero_le _) (Nat.zero_le _) δ) (cY (Nat.zero_le _) rfl ζ ?_)⟩;simp[go_sem,cIn]
  ·simp[go_sem];refine aP (t:=(.take 0 (.take 1 (.take 2 (.take 3 (.take 4 (.take 5 (.take 6 (.take 7 (.take 9 (.take 10 (.take 12 (.alt 8 [12,10,9,7,6,5,4,3,2,1,0] (.alt 11 [12,10,9,5,4,3,2,1,0] (.take 13 (.alt 14 [13,12,9,5,3,2,1,0] (.done [12]) .nil)) .nil) .nil))))))))))))) aD κ κ κ (λ_ _ _ _ h=>h) ?_;simp[go_sem];refine aA (fY a.x 7 ω) rfl rfl ?_;simp[go_sem];refine aF [11] (vG (cK ms k 7) (eB a.x.m 7) (eB a.x.c 7) a.id (hsk 7 ω)) τ rfl ?_ ?_
   ·simp[go_sem,cIn]
   rw[<- hc 7];simp[go_sem];refine⟨8,ω,ω,Fit.vw (GSt.move 13 11 δ (Nat.zero_le _) (Nat.zero_le _) δ) (cY (Nat.zero_le _) rfl ζ ?_)⟩;simp[go_sem,cIn]
  ·simp[go_sem];refine⟨ω,k+1,ω,ω,cY (Nat.zero_le _) rfl ζ (by simp[go_sem,cIn])⟩
 ·have hkl:k=ms.length:=ω;subst hkl;refine⟨[2,4,5,6,7,8,9,10,11],τ,λN=>⟨?_,?_⟩⟩
  ·simp[go_sem]
  ·simp[go_sem]
theorem gD {l:List Int} {i:Nat} (h:i<l.length):l.getD i 0=l[i]:=by simp[List.getD,h]
theorem eQ (r:Nat):bU [] r=none:=by rw[dP];rfl
theorem aQ2 {P:Program} {f:FuncId} {args:List SV} {S:SV} {Rs':List Reg} {φ:SV->Prop} (h:Own P f [] args S Rs') (hv:gZ (bU Rs') S φ):Pure P f args φ:=by
 intro Z w vs hZ ha;have hno:∀b,¬lO (λ_=>none) (bU []) b:=by
  rintro b ⟨r,R,L,h1,_⟩;rw[eQ] at h1;cases h1
 have hm:MOK (λb=>Z b\/w.heap.size<=b) (lO (λ_=>none) (bU [])) w.heap.size (λ_=>none) (bU []) (eJ ([]:List Reg).length) w:=
  ⟨λb hb=>.inr (hb.elim id λh=>(hno b h).elim),λ_ _=>rfl,λr R h=>(by rw[eQ] at h;cases h),λr r' R R' L L' b h=>(by rw[eQ] at h;cases h),λr R L b h=>(by rw[eQ] at h;cases h)⟩
 have hk:cC Z (Zof (λb=>Z b\/w.heap.size<=b) (λ_=>none) (bU []) w) w w:=λb hb=>⟨⟨⟨hZ b hb,.inl hb⟩,λr R L h=>(by rw[eQ] at h;cases h)⟩,rfl⟩;obtain⟨h1,h2⟩:=h _ _ w vs hm (SV.relL_mono (λ_ _ h=>h) hk _ _ ha);refine⟨h1,h2.mono λe w' h'=>?_⟩;obtain⟨y,σ',rfl,hm',hrel,hfr,_⟩:=h';obtain⟨s',k1,r1⟩:=tM (Z':=λb=>Z b\/(w.heap.size<=b/\b<w'.heap.size)) hm' (λb hb=>hb.1.2.imp id λh=>⟨h,hb.1.1⟩) (λr R L b h1 h2 h3=>.inr (by
  obtain⟨L',e1,e2⟩:=hm'.reg r R h1;rw[h2] at e1;cases e1;refine⟨?_,e2.block h3⟩;rcases hm'.own r R L b h1 h2 h3 with h | h
  ·exact(hno _ h).elim
  ·exact h)) S φ y hv hrel
 exact⟨y,s',rfl,k1,r1,⟨hfr.os,hfr.tape,hfr.output,hfr.size,hfr.drawn,λb hb _=>hfr.block b hb (hno b)⟩⟩
def bef (p q:PsG):Prop:=p.m.toNat<q.m.toNat\/p.m.toNat=q.m.toNat/\p.c.toNat<q.c.toNat
structure Inv (L:List PsG) (k:Nat):Prop where
 len:L.length<=k
 cells:L.Pairwise bef
 ids:∀p∈L,p.ids.length<=k/\p.ids.Pairwise (·<=·)
theorem aUl {a b c d:Nat}:cT a b c d<0↔a<c\/a=c/\b<d:=by
 rw[dN];unfold cU;simp;omega
theorem sF {L:List PsG} {m c:BitVec 8} {i:Nat} (h:i<L.length):pcm L m c i<0↔L[i].m.toNat<m.toNat\/L[i].m.toNat=m.toNat/\L[i].c.toNat<c.toNat:=by
 rw[aJr h,aUl]
theorem Inv.mono {L:List PsG} {k:Nat} (h:Inv L k) {m c:BitVec 8}:∀a b,a<b->b<L.length->pcm L m c b<0->pcm L m c a<0:=by
 intro a b hab hb;rw[sF hb,sF (ω:a<L.length)];have:=List.pairwise_iff_getElem.1 h.cells a b ω hb hab;unfold bef at this;omega
theorem vN {l:List Int} (h:l.Pairwise (·<=·)) {id:Int}:∀a b,a<b->b<l.length->l.getD b 0<id->l.getD a 0<id:=by
 intro a b hab hb;have:=List.pairwise_iff_getElem.1 h a b ω hb hab;rw[gD hb,gD (ω:a<l.length)];omega
theorem Inv.srt {L:List PsG} {k:Nat} (h:Inv L k) (hk:k<=1000) (m c:BitVec 8) (id:Int):Srt L m c id:=
 ⟨Nat.le_trans h.len hk,h.mono,λp hp=>⟨Nat.le_trans (h.ids p hp).1 hk,vN (h.ids p hp).2⟩⟩
theorem aCv {c:Nat->Int} {n:Nat} (hm:∀a b,a<b->b<n->c b<0->c a<0):(∀j,j<cA c n->c j<0)/\∀j,cA c n<=j->j<n->0<=c j:=by
 have h0:∀j,j<cA c n->c j<0:=by
  intro j hj;unfold cA at hj
  cases h:(List.range n).find? λi=>decide (0<=c i) with
  | none=>
    rw[h] at hj;have:=List.find?_eq_none.1 h j (List.mem_range.2 hj);simp at this;omega
  | some i=>
    rw[h] at hj;have:=(List.find?_range_eq_some.1 h).2.2 j hj;simp at this;omega
 refine⟨h0,λj h1 h2=>?_⟩;have hb:cA c n<n:=ω;have h3:0<=c (cA c n):=by
  unfold cA at hb ⊢
  cases h:(List.range n).find? λi=>decide (0<=c i) with
  | none=>rw[h] at hb;simp at hb
  | some i=>
    have:=(List.find?_range_eq_some.1 h).1;simpa using this
 by_cases e:j=cA c n
 ·rw[e];exact h3
 ·by_cases h4:c j<0
  ·have:=hm _ j (ω:cA c n<j) h2 h4;omega
  ·omega
theorem vP {l:List Int} (h:l.Pairwise (·<=·)) (id:Int):(nH l id).Pairwise (·<=·)/\(nH l id).length=l.length+1/\(nH l id).Perm (id::l):=by
 unfold nH;have hm:∀a b,a<b->b<l.length->l.getD b 0 - id<0->l.getD a 0 - id<0:=λa b h1 h2 h3=>by
  have:=vN h (id:=id) a b h1 h2 ω;omega
 obtain⟨h1,h2⟩:=aCv (c:=λi=>l.getD i 0 - id) (n:=l.length) hm;have hle:cA (λi=>l.getD i 0 - id) l.length<=l.length:=iK;generalize cA (λi=>l.getD i 0 - id) l.length=k at *;refine⟨?_,ι,?_⟩
 ·rw[List.pairwise_append];refine⟨h.sublist (List.take_sublist k l),?_,?_⟩
  ·rw[List.pairwise_cons];refine⟨λa ha=>?_,h.sublist (List.drop_sublist k l)⟩;obtain⟨i,hi,rfl⟩:=List.mem_iff_getElem.1 ha;have hi':k+i<l.length:=by simp at hi;omega
   have:=h2 (k+i) ω hi';rw[List.getElem_drop];rw[gD hi'] at this;omega
  ·intro a ha b hb;obtain⟨i,hi,rfl⟩:=List.mem_iff_getElem.1 ha;have hi':i<k/\i<l.length:=by simp at hi;omega
   have h3:=h1 i hi'.1;rw[gD hi'.2] at h3;rw[List.getElem_take];rcases List.mem_cons.1 hb with rfl | hb
   ·omega
   ·obtain⟨j,hj,rfl⟩:=List.mem_iff_getElem.1 hb;have hj':k+j<l.length:=by simp at hj;omega
    have:=h2 (k+j) ω hj';rw[List.getElem_drop];rw[gD hj'] at this;omega
 ·exact(List.perm_middle.trans (by rw[List.take_append_drop]))
theorem aG4 {L:List PsG} {k:Nat} (h:Inv L k) (m c:BitVec 8):Inv (addL L m c) (k+1)/\(∀hk:pat L m c<(addL L m c).length,(addL L m c)[pat L m c].m=m/\(addL L m c)[pat L m c].c=c):=by
 obtain⟨h1,h2⟩:=aCv (c:=pcm L m c) (n:=L.length) h.mono;have hle:cA (pcm L m c) L.length<=L.length:=iK;have hz:∀i,(hi:i<L.length)->(pcm L m c i=0↔L[i].m=m/\L[i].c=c):=λi hi=>by
  rw[aJr hi,jO,<- BitVec.toNat_inj,<- BitVec.toNat_inj];omega
 unfold addL pis pat cM;generalize cA (pcm L m c) L.length=k0 at *;by_cases hf:(decide (k0<L.length)&&decide (pcm L m c k0=0))=true
 ·simp only [hf,if_true];refine⟨⟨by have:=h.len;omega,h.cells,λp hp=>⟨by have:=(h.ids p hp).1;omega,(h.ids p hp).2⟩⟩,λhk=>?_⟩;simp at hf;exact(hz k0 hk).1 hf.2
 ·rw[if_neg hf];have hf':∀hk:k0<L.length,¬pcm L m c k0=0:=λhk e=>hf (by simp[hk,e]);refine⟨⟨by have:=h.len;simp;omega,?_,λp hp=>?_⟩,λhk=>?_⟩
  ·rw[List.pairwise_append];have up:∀j,k0<=j->(hj:j<L.length)->m.toNat<L[j].m.toNat\/m.toNat=L[j].m.toNat/\c.toNat<L[j].c.toNat:=by
    intro j hj hjl;have g1:=h2 j hj hjl;have g2:¬pcm L m c j<0:=ω;rw[sF hjl] at g2;have g3:¬(L[k0]' ω).m=m\/¬(L[k0]' ω).c=c:=by
     have:=hf' ω;rw[hz _ ω] at this;exact Decidable.not_and_iff_not_or_not.1 this
    by_cases e:j=k0
    ·subst e;rw[<- BitVec.toNat_inj,<- BitVec.toNat_inj] at g3;omega
    ·have g4:=List.pairwise_iff_getElem.1 h.cells k0 j ω hjl ω;unfold bef at g4;have g5:=h2 k0 (Nat.le_refl _) ω;have g6:¬pcm L m c k0<0:=ω;rw[sF (ω:k0<L.length)] at g6;omega
   refine⟨h.cells.sublist (List.take_sublist k0 L),?_,?_⟩
   ·rw[List.pairwise_cons];refine⟨λa ha=>?_,h.cells.sublist (List.drop_sublist k0 L)⟩;obtain⟨i,hi,rfl⟩:=List.mem_iff_getElem.1 ha;have hi':k0+i<L.length:=by simp at hi;omega
    rw[List.getElem_drop];exact up _ ω hi'
   ·intro a ha b hb;obtain⟨i,hi,rfl⟩:=List.mem_iff_getElem.1 ha;have hi':i<k0/\i<L.length:=by simp at hi;omega
    have h3:=h1 i hi'.1;rw[sF hi'.2] at h3;rw[List.getElem_take];rcases List.mem_cons.1 hb with rfl | hb
    ·exact h3
    ·obtain⟨j,hj,rfl⟩:=List.mem_iff_getElem.1 hb;have hj':k0+j<L.length:=by simp at hj;omega
     rw[List.getElem_drop];exact List.pairwise_iff_getElem.1 h.cells i (k0+j) hi'.2 hj' ω
  ·rcases List.mem_append.1 hp with hp | hp
   ·have:=h.ids p (List.mem_of_mem_take hp);exact⟨ω,this.2⟩
   ·rcases List.mem_cons.1 hp with rfl | hp
    ·exact⟨τ,.nil⟩
    ·have:=h.ids p (List.mem_of_mem_drop hp);exact⟨ω,this.2⟩
  ·have hlt:(L.take k0).length=k0:=ι;rw[List.getElem_append_right ω];simp[hlt]
theorem aP7 {L:List PsG} {k:Nat} (h:Inv L k) (m c:BitVec 8) (id:Int):Inv (aBb L m c id) (k+1):=by
 obtain⟨⟨i1,i2,i3⟩,_⟩:=aG4 h m c;unfold aBb;generalize pat L m c=q;generalize hL:addL L m c=L2 at *;have hids:∀p∈L2,p.ids.length<=k/\p.ids.Pairwise (·<=·):=by
  intro p hp;rw[<- hL] at hp;unfold addL at hp;split at hp
  ·exact h.ids p hp
  ·rcases List.mem_append.1 hp with hp | hp
   ·exact h.ids p (List.mem_of_mem_take hp)
   ·rcases List.mem_cons.1 hp with rfl | hp
    ·exact⟨Nat.zero_le _,.nil⟩
    ·exact h.ids p (List.mem_of_mem_drop hp)
 refine⟨by simpa using i1,?_,λp hp=>?_⟩
 ·rw[List.pairwise_iff_getElem] at i2 ⊢;intro i j hi hj hij;simp only [List.length_modify] at hi hj;have:=i2 i j hi hj hij;simp only [List.getElem_modify,bef] at this ⊢
  repeat' split
  all_goals exact this
 ·obtain⟨i,hi,rfl⟩:=List.mem_iff_getElem.1 hp;simp only [List.length_modify] at hi;have h1:=hids L2[i] (List.getElem_mem hi);rw[List.getElem_modify];split
  ·have h2:=vP h1.2 id;exact⟨by simp only;omega,h2.1⟩
  ·exact⟨ω,h1.2⟩
theorem aDg (ms:List MbG) (j:Nat):∀k,k<=ms.length->Inv (cK ms k j) k
 | 0,_=>⟨Nat.le_refl _,.nil,λp hp=>by cases hp⟩
 | k+1,h=>by
   rw[aC7 (ω:k<ms.length)];exact aP7 (aDg ms j k ω) _ _ _
structure IxG where
 ms:List MbG
 ch:Nat->List PsG
abbrev cN (l:List PsG):SV:=.r (.rs 3 l.length (cP l))
def IxG.sv (x:IxG):SV:=.agg (xA x.ms::(List.range 8).map λj=>cN (x.ch j))
def lI (l:List MbG):IxG:=⟨cB l,λj=>cK (cB l) l.length j⟩
theorem bEk (l:List MbG) (hn:l.length<=1000):Own Tryz.prog 110 [] [xA l] (.agg (.sl 0 3 0 l.length none::(List.range 8).map λj=>.sl (j+1) 3 0 ((lI l).ch j).length none)) (aGb (lI l).ms::(List.range 8).map λj=>mQ ((lI l).ch j)):=
 bJd l hn λk j hk _=>(aDg (cB l) j k ω).srt (by have:=(dB l).2.1;omega) _ _ _
theorem bGb (l:List MbG) (hn:l.length<=1000):Pure Tryz.prog 110 [xA l] (· =(lI l).sv):=by
 refine Pure.ofSub (aQ2 (bEk l hn) ?_);have e:(lI l).ms.length=l.length:=(dB l).2.1;unfold IxG.sv;simp[go_sem,e]
end Go.Gx.Ix
