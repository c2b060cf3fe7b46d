/-
  Texts of the walk, merged: Ia Ib Ic Id Ie If Ig Ih Ii Ij Ik Ks.
-/
import Derived.Test.YtncccnmmjfapnaaGreatZag
import Derived.Test.YtncccnmmjfapnaaGreatZah
import Derived.Lib.BitFns
import Derived.Shelf.SlSortCmp.WholeK
import Derived.Shelf.SlSortCmp.NoneTotal
import Derived.Shelf.Lay
import Derived.Ground.SlsfProg
import Derived.Ground.NamesProg
import Derived.Sort.AssemblyPlain
set_option linter.unusedVariables false
set_option linter.unusedSimpArgs false
set_option maxRecDepth 100000
set_option maxHeartbeats 4000000
namespace Go.Gx.Ix
open Go.RowKit Go.Proofs Go.Proofs.YtncccnmmjfapnaaGreat
abbrev _root_.Go.Gx.RV.w (x:BitVec 64):RV:=.v (.int .u64 x.toNat)
abbrev _root_.Go.Gx.SV.w (x:BitVec 64):SV:=.r (.w x)
@[go_sem]theorem wrap_u64 (z:BitVec 64):IntKind.u64.wrap (z.toNat:Int)=z.toNat:=by
  have:=z.isLt
  simp only [IntKind.wrap,IntKind.bits,IntKind.signed];simp;omega
theorem toNat_inj {n:Nat} (x y:BitVec n):((x.toNat:Int)=y.toNat)↔x=y:=by
 constructor
 ·intro h;exact BitVec.eq_of_toNat_eq (by omega)
 ·rintro rfl;rfl
theorem toNat_zero {n:Nat} (x:BitVec n):x.toNat=0↔x=0#n:=by
 constructor
 ·intro h;exact BitVec.eq_of_toNat_eq (by simpa using h)
 ·rintro rfl;rfl
def shr64 (x:BitVec 64) (n:Nat):BitVec 64:=x >>> n
def shl64 (x:BitVec 64) (n:Nat):BitVec 64:=x <<< n
def or64 (x y:BitVec 64):BitVec 64:=x ||| y
def xor64 (x y:BitVec 64):BitVec 64:=x ^^^ y
def andn64 (x y:BitVec 64):BitVec 64:=x &&& ~~~y
theorem gor_u64 (a b:Int):gbin .or (.r (.v (.int .u64 a))) (.r (.v (.int .u64 b)))=.pure True (.w (or64 (BitVec.ofInt 64 a) (BitVec.ofInt 64 b))):=by
 show GR.pure _ (.r (.v (.int .u64 (IntKind.u64.wrap ((BitVec.ofInt 64 a ||| BitVec.ofInt 64 b).toNat:Int)))))=_
 rw[wrap_u64];simp;rfl
theorem gxor_u64 (a b:Int):gbin .xor (.r (.v (.int .u64 a))) (.r (.v (.int .u64 b)))=.pure True (.w (xor64 (BitVec.ofInt 64 a) (BitVec.ofInt 64 b))):=by
 show GR.pure _ (.r (.v (.int .u64 (IntKind.u64.wrap ((BitVec.ofInt 64 a ^^^ BitVec.ofInt 64 b).toNat:Int)))))=_
 rw[wrap_u64];simp;rfl
theorem gandNot_u64 (a b:Int):gbin .andNot (.r (.v (.int .u64 a))) (.r (.v (.int .u64 b)))=.pure True (.w (andn64 (BitVec.ofInt 64 a) (BitVec.ofInt 64 b))):=by
 show GR.pure _ (.r (.v (.int .u64 (IntKind.u64.wrap ((andn64 (BitVec.ofInt 64 a) (BitVec.ofInt 64 b)).toNat:Int)))))=_
 rw[wrap_u64];simp
theorem wrap_nat64 (a:Nat):IntKind.u64.wrap (a:Int)=(BitVec.ofNat 64 a).toNat:=by
 simp[IntKind.wrap,IntKind.bits,IntKind.signed]
theorem shl_min {w:Nat} (x n:Nat):x*2 ^ min n w % 2 ^ w=x <<< n % 2 ^ w:=by
 rw[Nat.shiftLeft_eq]
 rcases Nat.le_total n w with h | h
 ·rw[Nat.min_eq_left h]
 ·rw[Nat.min_eq_right h]
  have h2:2 ^ n=2 ^ (n - w)*2 ^ w:=by rw[← Nat.pow_add];congr 1;omega
  rw[h2,← Nat.mul_assoc];simp
theorem gshl_u64 (x:BitVec 64) (k:IntKind) (b:Int):gbin .shl (.r (.v (.int .u64 x.toNat))) (.r (.v (.int k b)))=.pure (0≤b) (.w (shl64 x b.toNat)):=by
 show GR.pure _ (.r (.v (.int .u64 (IntKind.u64.wrap (((x.toNat:Int)*2 ^ min b.toNat 64))))))=_
 have h:IntKind.u64.wrap ((x.toNat:Int)*2 ^ min b.toNat 64)=((shl64 x b.toNat).toNat:Int):=by
  rw[show((x.toNat:Int)*2 ^ min b.toNat 64)=((x.toNat*2 ^ min b.toNat 64:Nat):Int) from by simp,wrap_nat64]
  simp only [BitVec.toNat_ofNat,shl64,BitVec.toNat_shiftLeft]
  exact congrArg _ (shl_min (w:=64) _ _)
 rw[h]
theorem fdiv_nat (a n:Nat):((a:Int)).fdiv (2 ^ n)=((a / 2 ^ n:Nat):Int):=by
 rw[Int.fdiv_eq_ediv_of_nonneg _ (Int.le_of_lt (Int.pow_pos (by decide)))]
 simp
theorem shr_min {w x n:Nat} (hx:x<2 ^ w):x / 2 ^ min n w=x >>> n:=by
 rw[Nat.shiftRight_eq_div_pow]
 rcases Nat.le_total n w with h | h
 ·rw[Nat.min_eq_left h]
 ·rw[Nat.min_eq_right h,Nat.div_eq_of_lt hx,Nat.div_eq_of_lt (Nat.lt_of_lt_of_le hx (Nat.pow_le_pow_right (by decide) h))]
theorem gshr_u64 (x:BitVec 64) (k:IntKind) (b:Int):gbin .shr (.r (.v (.int .u64 x.toNat))) (.r (.v (.int k b)))=.pure (0≤b) (.w (shr64 x b.toNat)):=by
 show GR.pure _ (.r (.v (.int .u64 (((x.toNat:Int)).fdiv (2 ^ min b.toNat 64)))))=_
 rw[fdiv_nat,shr_min (w:=64) x.isLt];rfl
def GBn (P:Program) (T:Tab) (N:Cfg) (op:BinOp) (t t2:TypeId) (ox oy:Operand) (x y:SV) (d:Option Tmp) (ty:TypeId) (pos:String) (af:Array Edge) (all:Array Oper) (rest:List Oper) (k:List It) (Q:GQ) (E:Env) (M:Mem) (nx:Nat):Prop:=
 GStep P T N ⟨d,.binOp op t ox oy t2,ty,pos,af,none⟩ (gbinop T op t x y) d all rest k Q E M nx
section
variable {P:Program} {T:Tab} {N:Cfg} {t t2:TypeId} {ox oy:Operand} {d:Option Tmp} {ty:TypeId} {pos:String} {af:Array Edge} {all:Array Oper} {rest:List Oper} {k:List It} {Q:GQ} {E:Env} {M:Mem} {nx:Nat}
@[go_sem high]theorem GO_binOpW (op:BinOp) (t:TypeId) (x y:Operand) (t2:TypeId):GO P T N all (⟨d,.binOp op t x y t2,ty,pos,af,none⟩::rest) k Q E M nx=(dOK N.n d∧GBn P T N op t t2 x y (ev E x) (ev E y) d ty pos af all rest k Q E M nx):=(rfl)
@[go_sem low]theorem GBn_def (op:BinOp) (x y:SV):GBn P T N op t t2 ox oy x y d ty pos af all rest k Q E M nx=GStep P T N ⟨d,.binOp op t ox oy t2,ty,pos,af,none⟩ (gbinop T op t x y) d all rest k Q E M nx:=(rfl)
theorem GBn_of {op:BinOp} {x y s:SV} {ob:Prop} (h:gbin op x y=.pure ob s):GBn P T N op t t2 ox oy x y d ty pos af all rest k Q E M nx=(ob∧GO P T N all rest k Q (envPut E d s) M nx):=by
 unfold GBn gbinop;rw[h];rfl
@[go_sem]theorem GBn_or64 (a b:Int):GBn P T N .or t t2 ox oy (.r (.v (.int .u64 a))) (.r (.v (.int .u64 b))) d ty pos af all rest k Q E M nx=GO P T N all rest k Q (envPut E d (.w (or64 (BitVec.ofInt 64 a) (BitVec.ofInt 64 b)))) M nx:=by rw[GBn_of (gor_u64 a b)];simp
@[go_sem]theorem GBn_xor64 (a b:Int):GBn P T N .xor t t2 ox oy (.r (.v (.int .u64 a))) (.r (.v (.int .u64 b))) d ty pos af all rest k Q E M nx=GO P T N all rest k Q (envPut E d (.w (xor64 (BitVec.ofInt 64 a) (BitVec.ofInt 64 b)))) M nx:=by rw[GBn_of (gxor_u64 a b)];simp
@[go_sem]theorem GBn_andNot64 (a b:Int):GBn P T N .andNot t t2 ox oy (.r (.v (.int .u64 a))) (.r (.v (.int .u64 b))) d ty pos af all rest k Q E M nx=GO P T N all rest k Q (envPut E d (.w (andn64 (BitVec.ofInt 64 a) (BitVec.ofInt 64 b)))) M nx:=by rw[GBn_of (gandNot_u64 a b)];simp
@[go_sem]theorem GBn_shl64 (x:BitVec 64) (kk:IntKind) (b:Int):GBn P T N .shl t t2 ox oy (.r (.v (.int .u64 x.toNat))) (.r (.v (.int kk b))) d ty pos af all rest k Q E M nx=(0≤b∧GO P T N all rest k Q (envPut E d (.w (shl64 x b.toNat))) M nx):=GBn_of (gshl_u64 x kk b)
@[go_sem]theorem GBn_shr64 (x:BitVec 64) (kk:IntKind) (b:Int):GBn P T N .shr t t2 ox oy (.r (.v (.int .u64 x.toNat))) (.r (.v (.int kk b))) d ty pos af all rest k Q E M nx=(0≤b∧GO P T N all rest k Q (envPut E d (.w (shr64 x b.toNat))) M nx):=GBn_of (gshr_u64 x kk b)
end
def vI (c m:BitVec 64):Bool:=decide (andn64 c m=0#64)
theorem check51 (c m:BitVec 64):Pure Tryz.prog 56 [.agg [.w c,.w m]] (· =.i (if vI c m then 0 else 30)):=by
 refine pure_of_GC T_ok Tryz.func56 rfl (by kernel_rfl) (nb rfl) rfl rfl ?_
 by_cases h:andn64 c m=0#64 <;> simp[go_sem,vI,h,toNat_zero]
theorem valid34 (c m:BitVec 64):Pure Tryz.prog 179 [.agg [.w c,.w m]] (· =.b (vI c m)):=by
 refine pure_of_GC T_ok Tryz.func179 rfl (by kernel_rfl) (nb rfl) rfl rfl ?_
 by_cases h:andn64 c m=0#64 <;> simp[go_sem,vI,h,toNat_zero]
def btw (lo hi n:Int):Bool:=decide (lo≤n)&&decide (n≤hi)
theorem within68 (n lo hi:Int):Pure Tryz.prog 266 [.i n,.i lo,.i hi] (· =.b (btw lo hi n)):=by
 refine pure_of_GC T_ok Tryz.func266 rfl (by kernel_rfl) (nb rfl) rfl rfl ?_
 by_cases h:lo≤n <;> simp[go_sem,btw,h]
def vL (num den:Int):Bool:=btw 0 den num&&btw 1 1000 den
theorem limit35 (num den:Int):Pure Tryz.prog 158 [.agg [.i num,.i den]] (· =.b (vL num den)):=by
 refine pure_of_GC T_ok Tryz.func158 rfl (by kernel_rfl) (nb rfl) rfl rfl ?_
 by_cases h1:0≤num
 ·by_cases h2:num≤den
  ·simp[go_sem,h1,h2]
   refine call_val (within68 den 1 1000) rfl rfl ?_
   simp[go_sem,vL,btw,h1,h2]
  ·simp[go_sem,h1,h2,vL,btw]
 ·simp[go_sem,h1,vL,btw]
end Go.Gx.Ix
namespace Go.Gx.Ix
open Go.RowKit Go.Proofs Go.Proofs.YtncccnmmjfapnaaGreat
structure IrG where
 c:BitVec 64
 m:BitVec 64
def IrG.f (x:IrG):Nat→RV
 | 0=>.w x.c
 | _=>.w x.m
@[go_sem]theorem IrG.f0 (x:IrG):x.f 0=.w x.c:=rfl
@[go_sem]theorem IrG.f1 (x:IrG):x.f 1=.w x.m:=rfl
def IrG.ok (x:IrG):Bool:=vI x.c x.m
attribute [go_sem] trimE SV.trim SV.trimL
attribute [go_sem] gvo gvoL gbox
mutual
theorem refs_closed:∀s:SV,s.closed=true→s.refs=[]
 | .r x,_=>by simp[SV.refs]
 | .ptr ..,h=>by simp[SV.closed] at h
 | .sl ..,h=>by simp[SV.closed] at h
 | .mp ..,h=>by simp[SV.closed] at h
 | .fn f fi ca,h=>by
   simp only [SV.closed,Bool.and_eq_true] at h
   simp[SV.refs,refsL_closed fi h.1,refsL_closed ca h.2]
 | .agg l,h=>by simp[SV.refs,refsL_closed l h]
 | .tup l,h=>by simp[SV.refs,refsL_closed l h]
theorem refsL_closed:∀l:List SV,SV.closedL l=true→SV.refsL l=[]
 | [],_=>by simp[SV.refsL]
 | s::l,h=>by
   simp only [SV.closedL,Bool.and_eq_true] at h
   simp[SV.refsL,refs_closed s h.1,refsL_closed l h.2]
end
end Go.Gx.Ix
namespace Go.Proofs.YtncccnmmjfapnaaGreat
open Go.Shelf Go.RowKit Go.Lib Go.Sort Go.Proofs
shelf_lay_g SlLaysF0.n6 Slsf 6 at Tryz 217 as Tryz.sortPr
end Go.Proofs.YtncccnmmjfapnaaGreat
namespace Go.Gx.Ix
open Go.RowKit Go.Proofs Go.Proofs.YtncccnmmjfapnaaGreat Go.Sort
instance:Inhabited IrG:=⟨⟨0,0⟩⟩
end Go.Gx.Ix
namespace Go.Gx.Ix
open Go.RowKit Go.Proofs Go.Proofs.YtncccnmmjfapnaaGreat
deriving instance DecidableEq for IrG
theorem eq_of_all {α:Type} {l l':List α} (h:l.length=l'.length) (e:∀j (h1:j<l.length) (h2:j<l'.length),l[j]=l'[j]):l=l':=List.ext_getElem h λj h1 h2=>e j h1 h2
end Go.Gx.Ix
