/-
  Texts of the walk, merged: Vk Vl Vm Vn Vo Vp Vq Vr Vs Vt Vu Fd Fe Ff Hj Vx Vy Wa Wb Wc Wd We Hk Hc Hl Hn Ho Sg Wf Wg Wh Wi Wj Wk Wl Ro Rp Xa Xb Ya Yb Yd Ye Yf Yg Yh So Yi Yj Yk.
-/
import Derived.Test.YtncccnmmjfapnaaGreatZaj
import Derived.Test.YtncccnmmjfapnaaGreatZae
import Derived.Test.YtncccnmmjfapnaaGreatZai
set_option linter.unusedVariables false
set_option linter.unusedSimpArgs false
set_option maxRecDepth 100000
set_option maxHeartbeats 4000000
namespace Go.Gx.Sr
open Go.RowKit Go.Proofs Go.Proofs.YtncccnmmjfapnaaGreat Go.Gx.Ix
theorem from75 (lo hi n:Int):Pure Tryz.prog 75 [.i lo,.i hi,.i n] (· =.b (Ix.btw lo hi n)):=by
 refine pure_of_GC T_ok Tryz.func75 rfl (by kernel_rfl) (nb rfl) rfl rfl ?_
 by_cases h:lo≤n <;> simp[go_sem,Ix.btw,h]
abbrev SvG.ss (x:SvG):SV:=.agg [.i x.num,.i x.den,.i x.turns,.i x.mage,.w x.key]
theorem checkSetup27 (x:SvG):Pure Tryz.prog 27 [x.ss] (· =.i (if x.setB then 0 else 2)):=by
 refine pure_of_GC T_ok Tryz.func27 rfl (by kernel_rfl) (nb rfl) rfl rfl ?_
 unfold SvG.setB
 simp[go_sem]
 refine call_val (from75 1 127 x.den) rfl rfl ?_
 cases Ix.btw 1 127 x.den
 ·simp[go_sem]
 simp[go_sem]
 refine call_val (from75 0 x.den x.num) rfl rfl ?_
 cases Ix.btw 0 x.den x.num
 ·simp[go_sem]
 simp[go_sem]
 refine call_val (from75 0 7 x.turns) rfl rfl ?_
 cases Ix.btw 0 7 x.turns
 ·simp[go_sem]
 simp[go_sem]
 refine call_val (from75 0 maxT x.mage) rfl rfl ?_
 cases Ix.btw 0 maxT x.mage <;> simp[go_sem]
def SvG.zero:SvG:=⟨0,0,0,0,0#64,0,EG.zero,[],Rg.RG.nil,[],[],[]⟩
def SvG.new (x:SvG):SvG:={SvG.zero with num:=x.num,den:=x.den,turns:=x.turns,mage:=x.mage,key:=x.key}
theorem new25 (x:SvG):Pure Tryz.prog 25 [x.ss] (· =.tup [(if x.setB then x.new else SvG.zero).sv,.i (if x.setB then 0 else 2)]):=by
 refine Pure.ofSub ?_
 refine pure_of_GC T_ok Tryz.func25 rfl (by kernel_rfl) (nb rfl) rfl rfl ?_
 simp[go_sem]
 refine call_val (checkSetup27 x) rfl rfl ?_
 cases x.setB
 ·simp[go_sem,SvG.zero,EG.zero,Rg.RG.nil]
 ·simp[go_sem,SvG.new,SvG.zero,EG.zero,Rg.RG.nil]
def SvG.at' (x:SvG) (gt:Nat→Nat→RV):Prop:=∀j,j<17→gt 0 j=x.f j
abbrev kp (gt:Nat→Nat→RV):SV:=.r (.rp 17 1 gt 0 0)
theorem there162 (x:SvG) (hr:x.g.OK) (gt:Nat→Nat→RV) (h:x.at' gt) (a:Int):Pure Tryz.prog 162 [kp gt,.i a] (· =.b (x.g.th a)):=by
 refine pure_of_GC T_ok Tryz.func162 rfl (by kernel_rfl) (nb rfl) rfl rfl ?_
 have h6:gt 0 6=.rs 2 x.g.nr λi j=>(x.g.r i).c j:=h 6 (by decide)
 have:=hr.nr
 by_cases h0:0≤a
 rotate_left
 ·have e:x.g.th a=false:=by
   rw[Bool.eq_false_iff];intro ht;exact h0 (EG.th_iff.1 ht).1
  simp[go_sem,h0,e]
 obtain⟨n,rfl⟩:∃n:Nat,a=n:=⟨a.toNat,by omega⟩
 by_cases h1:n<x.g.nr
 rotate_left
 ·have e:x.g.th n=false:=by
   rw[Bool.eq_false_iff];intro ht;have:=(EG.th_iff.1 ht).2.1;omega
  simp[go_sem,h0,h1,h6,e]
 cases hg:(x.g.r n).g
 ·have e:x.g.th n=true:=EG.th_iff.2 ⟨by omega,by omega,by simpa using hg⟩
  simp[go_sem,h0,h1,h6,hg,e]
 ·have e:x.g.th n=false:=by
   rw[Bool.eq_false_iff];intro ht;have:=(EG.th_iff.1 ht).2.2;simp[hg] at this
  simp[go_sem,h0,h1,h6,hg,e]
abbrev fnR (f:FuncId):RV:=.fn (.func f) 0 0 (λ_=>.any) (λ_=>.any)
theorem perCon164 (y:Rg.ConG):Pure Tryz.prog 164 [y.sv] (· =.i y.p):=by
 refine pure_of_GC T_ok Tryz.func164 rfl (by kernel_rfl) (nb rfl) rfl rfl ?_
 simp[go_sem]
theorem clCon268 (x:SvG) (hr:x.g.OK) (gt g1 g2:Nat→Nat→RV) (h:x.at' gt) (h1:g1 0 0=.rp 17 1 gt 0 0) (h2:g2 0 0=fnR 164) (y:Rg.ConG):Pure Tryz.prog 268 [y.sv,.r (.rp 1 1 g1 0 0),.r (.rp 1 1 g2 0 0)] (· =.b (!x.g.th y.p)):=by
 refine pure_of_GC T_ok Tryz.func268 rfl (by kernel_rfl) (nb rfl) rfl rfl ?_
 simp[go_sem]
 refine GDraw_all T_ok (by kernel_rfl) (by kernel_rfl) ?_
 simp[go_sem,h1,h2]
 refine⟨_,dcall_val (perCon164 y) rfl rfl,?_⟩
 simp[go_sem]
 refine⟨_,dcall_val (there162 x hr gt h y.p) rfl rfl,?_⟩
 simp[go_sem]
theorem every163 (x:SvG) (hr:x.g.OK) (gt:Nat→Nat→RV) (h:x.at' gt) (hn:x.r.nc<1000000):Pure Tryz.prog 163 [kp gt,Rg.ConG.rs x.r.nc x.r.c,.fn (.func 164) [] []] (· =.b x.cnB):=by
 refine pure_of_GC T_ok Tryz.func163 rfl (by kernel_rfl) (nb rfl) rfl rfl ?_
 simp[go_sem]
 refine call_lent (v:=.b ((List.range x.r.nc).any λi=>!x.g.th (x.r.c i).p)) ?_ rfl ?_
 ·simp[go_sem]
  exact Rg.has120 x.r.nc (by omega) _ (268:FuncId) _ _ rfl λi hi=>clCon268 x hr gt _ _ h (by rfl) (by rfl) (x.r.c i)
 ·simp[go_sem]
  unfold SvG.cnB
  rw[List.all_eq_not_any_not,Bool.not_not]
theorem perWar166 (y:Rg.WarG):Pure Tryz.prog 166 [y.sv] (· =.i y.p):=by
 refine pure_of_GC T_ok Tryz.func166 rfl (by kernel_rfl) (nb rfl) rfl rfl ?_
 simp[go_sem]
theorem clWar270 (x:SvG) (hr:x.g.OK) (gt g1 g2:Nat→Nat→RV) (h:x.at' gt) (h1:g1 0 0=.rp 17 1 gt 0 0) (h2:g2 0 0=fnR 166) (y:Rg.WarG):Pure Tryz.prog 270 [y.sv,.r (.rp 1 1 g1 0 0),.r (.rp 1 1 g2 0 0)] (· =.b (!x.g.th y.p)):=by
 refine pure_of_GC T_ok Tryz.func270 rfl (by kernel_rfl) (nb rfl) rfl rfl ?_
 simp[go_sem]
 refine GDraw_all T_ok (by kernel_rfl) (by kernel_rfl) ?_
 simp[go_sem,h1,h2]
 refine⟨_,dcall_val (perWar166 y) rfl rfl,?_⟩
 simp[go_sem]
 refine⟨_,dcall_val (there162 x hr gt h y.p) rfl rfl,?_⟩
 simp[go_sem]
theorem every165 (x:SvG) (hr:x.g.OK) (gt:Nat→Nat→RV) (h:x.at' gt) (hn:x.r.nw<1000000):Pure Tryz.prog 165 [kp gt,Rg.WarG.rs x.r.nw x.r.w,.fn (.func 166) [] []] (· =.b x.waB):=by
 refine pure_of_GC T_ok Tryz.func165 rfl (by kernel_rfl) (nb rfl) rfl rfl ?_
 simp[go_sem]
 refine call_lent (v:=.b ((List.range x.r.nw).any λi=>!x.g.th (x.r.w i).p)) ?_ rfl ?_
 ·simp[go_sem]
  exact Rg.has122 x.r.nw (by omega) _ (270:FuncId) _ _ rfl λi hi=>clWar270 x hr gt _ _ h (by rfl) (by rfl) (x.r.w i)
 ·simp[go_sem]
  unfold SvG.waB
  rw[List.all_eq_not_any_not,Bool.not_not]
theorem perMar168 (y:Rg.MarkG):Pure Tryz.prog 168 [y.sv] (· =.i y.p):=by
 refine pure_of_GC T_ok Tryz.func168 rfl (by kernel_rfl) (nb rfl) rfl rfl ?_
 simp[go_sem]
theorem clMar272 (x:SvG) (hr:x.g.OK) (gt g1 g2:Nat→Nat→RV) (h:x.at' gt) (h1:g1 0 0=.rp 17 1 gt 0 0) (h2:g2 0 0=fnR 168) (y:Rg.MarkG):Pure Tryz.prog 272 [y.sv,.r (.rp 1 1 g1 0 0),.r (.rp 1 1 g2 0 0)] (· =.b (!x.g.th y.p)):=by
 refine pure_of_GC T_ok Tryz.func272 rfl (by kernel_rfl) (nb rfl) rfl rfl ?_
 simp[go_sem]
 refine GDraw_all T_ok (by kernel_rfl) (by kernel_rfl) ?_
 simp[go_sem,h1,h2]
 refine⟨_,dcall_val (perMar168 y) rfl rfl,?_⟩
 simp[go_sem]
 refine⟨_,dcall_val (there162 x hr gt h y.p) rfl rfl,?_⟩
 simp[go_sem]
theorem every167 (x:SvG) (hr:x.g.OK) (gt:Nat→Nat→RV) (h:x.at' gt) (hn:x.r.nm<1000000):Pure Tryz.prog 167 [kp gt,Rg.MarkG.rs x.r.nm x.r.m,.fn (.func 168) [] []] (· =.b x.maB):=by
 refine pure_of_GC T_ok Tryz.func167 rfl (by kernel_rfl) (nb rfl) rfl rfl ?_
 simp[go_sem]
 refine call_lent (v:=.b ((List.range x.r.nm).any λi=>!x.g.th (x.r.m i).p)) ?_ rfl ?_
 ·simp[go_sem]
  exact Rg.has124 x.r.nm (by omega) _ (272:FuncId) _ _ rfl λi hi=>clMar272 x hr gt _ _ h (by rfl) (by rfl) (x.r.m i)
 ·simp[go_sem]
  unfold SvG.maB
  rw[List.all_eq_not_any_not,Bool.not_not]
theorem perCh170 (y:ChG):Pure Tryz.prog 170 [y.sv] (· =.i y.p):=by
 refine pure_of_GC T_ok Tryz.func170 rfl (by kernel_rfl) (nb rfl) rfl rfl ?_
 simp[go_sem]
theorem clCh273 (x:SvG) (hr:x.g.OK) (gt g1 g2:Nat→Nat→RV) (h:x.at' gt) (h1:g1 0 0=.rp 17 1 gt 0 0) (h2:g2 0 0=fnR 170) (y:ChG):Pure Tryz.prog 273 [y.sv,.r (.rp 1 1 g1 0 0),.r (.rp 1 1 g2 0 0)] (· =.b (!x.g.th y.p)):=by
 refine pure_of_GC T_ok Tryz.func273 rfl (by kernel_rfl) (nb rfl) rfl rfl ?_
 simp[go_sem]
 refine GDraw_all T_ok (by kernel_rfl) (by kernel_rfl) ?_
 simp[go_sem,h1,h2]
 refine⟨_,dcall_val (perCh170 y) rfl rfl,?_⟩
 simp[go_sem]
 refine⟨_,dcall_val (there162 x hr gt h y.p) rfl rfl,?_⟩
 simp[go_sem]
theorem every169 (x:SvG) (hr:x.g.OK) (gt:Nat→Nat→RV) (h:x.at' gt) (hn:x.ch.length<1000000):Pure Tryz.prog 169 [kp gt,chs x.ch,.fn (.func 170) [] []] (· =.b x.chB):=by
 refine pure_of_GC T_ok Tryz.func169 rfl (by kernel_rfl) (nb rfl) rfl rfl ?_
 simp[go_sem]
 refine call_lent (v:=.b (x.ch.any λc=>!x.g.th c.p)) ?_ rfl ?_
 ·simp[go_sem]
  exact hasCh x.ch hn 273 _ _ rfl λc _=>clCh273 x hr gt _ _ h (by rfl) (by rfl) c
 ·simp[go_sem]
  unfold SvG.chB
  rw[List.all_eq_not_any_not,Bool.not_not]
theorem SvG.eye_get {x:SvG} {k:Nat} (hk:k<x.ir.length):x.eye k=x.ir[k]:=by
 unfold SvG.eye
 rw[show((k:Int).toNat)=k from rfl,List.getElem?_eq_getElem hk,Option.getD_some]
def SvG.ir1 (x:SvG) (i:Nat):Bool:=(x.eye i).ok&&(x.g.th i||decide (x.eye i=IrG.z))
theorem all_pre {n:Nat} {p:Nat→Bool} (h:∀j,j<n→p j=true):(List.range n).all p=true:=List.all_eq_true.2 λi hi=>h i (List.mem_range.1 hi)
theorem all_bad {n k:Nat} {p:Nat→Bool} (hk:k<n) (h:p k=false):(List.range n).all p=false:=List.all_eq_false.2 ⟨k,List.mem_range.2 hk,by rw[h];simp⟩
theorem lall_pre {α:Type} {l:List α} {p:α→Bool} (h:∀j (hj:j<l.length),p l[j]=true):l.all p=true:=List.all_eq_true.2 λy hy=>by
 obtain⟨i,hi,rfl⟩:=List.getElem_of_mem hy;exact h i hi
theorem lall_bad {α:Type} {l:List α} {p:α→Bool} {k:Nat} (hk:k<l.length) (h:p l[k]=false):l.all p=false:=List.all_eq_false.2 ⟨l[k],List.getElem_mem hk,by rw[h];simp⟩
theorem people81 (x:SvG) (hx:x.OK) (gt:Nat→Nat→RV) (h:x.at' gt):Pure Tryz.prog 81 [kp gt] (· =.b x.peoB):=by
 refine pure_of_GC T_ok Tryz.func81 rfl (by kernel_rfl) (nb rfl) rfl rfl ?_
 have hr:=hx.g.ok
 have h9:gt 0 9=.rs 2 x.ir.length (rowOf IrG.f x.ir):=h 9 (by decide)
 have h16:gt 0 16=.rs 7 x.lg.length (rowOf EnG.f x.lg):=h 16 (by decide)
 have h11:gt 0 11=.rs 3 x.r.nc λi j=>(x.r.c i).c j:=h 11 (by decide)
 have h12:gt 0 12=.rs 4 x.r.nw λi j=>(x.r.w i).c j:=h 12 (by decide)
 have h13:gt 0 13=.rs 5 x.r.nm λi j=>(x.r.m i).c j:=h 13 (by decide)
 have h14:gt 0 14=.rs 3 x.ch.length (rowOf ChG.f x.ch):=h 14 (by decide)
 have b1:=hx.ir
 have b2:=hx.lg
 simp[go_sem,h9]
 refine GLoop_of T_ok (α:=Nat) (λk=>[(0,kp gt),(11,irs x.ir),(12,.i x.ir.length),(13,.i k)]) (λ_=>[]) 0 (λk=>k≤x.ir.length∧∀j,j<k→x.ir1 j=true) (λk=>x.ir.length - k) 0 (λ_=>rfl) (by simp) (by simp[go_sem]) (by simp[go_sem]) ?_
 rintro k J ⟨hk,hi⟩
 by_cases hlt:k<x.ir.length
 ·have hrow:=rowOf_get (f:=IrG.f) hlt
  have hey:=SvG.eye_get hlt
  have no:x.ir1 k=false→x.peoB=false:=λhf=>by
   have:x.irB=false:=all_bad hlt hf
   unfold SvG.peoB;rw[this];rfl
  obtain⟨y,hy⟩:∃y,x.ir[k]=y:=⟨_,rfl⟩
  unfold SvG.ir1 at no
  rw[hey,hy] at no
  rw[hy] at hrow
  simp[go_sem,hlt,hrow]
  refine call_val (check51 y.c y.m) rfl rfl ?_
  have e0:y.ok=vI y.c y.m:=rfl
  rw[e0] at no
  by_cases hv:vI y.c y.m=true
  rotate_left
  ·simp[go_sem,hv]
   exact no (by simp[hv])
  simp[go_sem,hv]
  refine call_val (there162 x hr gt h k) rfl rfl ?_
  by_cases ht:x.g.th (k:Int)=true
  ·simp[go_sem,ht]
   refine⟨⟨by omega,by omega⟩,k+1,⟨by omega,λj hj=>?_⟩,by omega,by omega⟩
   by_cases e:j=k
   ·subst e;unfold SvG.ir1;rw[hey,hy,e0,hv,ht];rfl
   ·exact hi j (by omega)
  ·by_cases hz:y=IrG.z
   ·subst hz
    simp[go_sem,ht,IrG.z]
    refine⟨⟨by omega,by omega⟩,k+1,⟨by omega,λj hj=>?_⟩,by omega,by omega⟩
    by_cases e:j=k
    ·subst e;unfold SvG.ir1;rw[hey,hy,e0,hv];simp
    ·exact hi j (by omega)
   ·have hz':¬(y.c=0#64∧y.m=0#64):=λ⟨e1,e2⟩=>hz (by cases y;simp only [IrG.z] at *;subst e1;subst e2;rfl)
    have no:=no (by simp[hv,ht,hz])
    simp[go_sem,ht]
    have hn:¬y.c.toNat=0∨¬y.m.toNat=0:=by
     by_cases e:y.c=0#64
     ·exact .inr λe2=>hz' ⟨e,BitVec.eq_of_toNat_eq e2⟩
     ·exact .inl λe2=>e (BitVec.eq_of_toNat_eq e2)
    rw[if_pos hn]
    exact no
 have hk':k=x.ir.length:=by omega
 subst hk'
 have hir:x.irB=true:=all_pre hi
 simp[go_sem,h16]
 refine GLoop_of T_ok (α:=Nat) (λk=>[(0,kp gt),(37,lgs x.lg),(38,.i x.lg.length),(39,.i k)]) (λ_=>[]) 0 (λk=>k≤x.lg.length∧∀j (hj:j<x.lg.length),j<k→(decide (x.lg[j].p<0)||x.g.th x.lg[j].p)=true) (λk=>x.lg.length - k) 0 (λ_=>rfl) (by simp) (by simp[go_sem]) (by simp[go_sem]) ?_
 rintro k J ⟨hk,hi2⟩
 by_cases hlt:k<x.lg.length
 ·have hrow:=rowOf_get (f:=EnG.f) hlt
  have no:(decide (x.lg[k].p<0)||x.g.th x.lg[k].p)=false→x.peoB=false:=λhf=>by
   have:x.lgB=false:=lall_bad hlt hf
   unfold SvG.peoB;rw[this];simp
  have yes:(decide (x.lg[k].p<0)||x.g.th x.lg[k].p)=true→∃x',(x'≤x.lg.length∧∀j (hj:j<x.lg.length),j<x'→(decide (x.lg[j].p<0)||x.g.th x.lg[j].p)=true)∧x.lg.length - x'<x.lg.length - k∧(k:Int)+1=(x':Int):=λht=>
   ⟨k+1,⟨by omega,λj hj hj'=>by
     by_cases e:j=k
     ·subst e;exact ht
     ·exact hi2 j hj (by omega)⟩,by omega,by omega⟩
  by_cases hp:x.lg[k].p<0
  ·have hp':¬0≤x.lg[k].p:=by omega
   have yes:=yes (by simp[hp])
   simp[go_sem,hlt,hrow,hp']
   simp at yes
   exact⟨⟨by omega,by omega⟩,yes⟩
  have hp':0≤x.lg[k].p:=by omega
  simp[go_sem,hlt,hrow,hp']
  refine call_val (there162 x hr gt h _) rfl rfl ?_
  by_cases ht:x.g.th x.lg[k].p=true
  ·have yes:=yes (by simp[ht])
   simp[go_sem,ht]
   simp at yes
   exact⟨⟨by omega,by omega⟩,yes⟩
  ·simp[go_sem,ht]
   exact no (by simp[ht,hp])
 have hk':k=x.lg.length:=by omega
 subst hk'
 have hlg:x.lgB=true:=lall_pre λj hj=>hi2 j hj hj
 have e:x.peoB=(x.cnB&&x.waB&&x.maB&&x.chB):=by unfold SvG.peoB;rw[hir,hlg];rfl
 rw[e]
 have r1:=hx.rc
 have r2:=hx.rw'
 have r3:=hx.rm
 have r4:=hx.ch
 simp[go_sem,h11]
 refine call_val (every163 x hr gt h r1) rfl rfl ?_
 cases x.cnB
 ·simp[go_sem]
 simp[go_sem,h12]
 refine call_val (every165 x hr gt h r2) rfl rfl ?_
 cases x.waB
 ·simp[go_sem]
 simp[go_sem,h13]
 refine call_val (every167 x hr gt h r3) rfl rfl ?_
 cases x.maB
 ·simp[go_sem]
 simp[go_sem,h14]
 refine call_val (every169 x hr gt h r4) rfl rfl ?_
 cases x.chB <;> simp[go_sem]
theorem parts80 (x:SvG) (hx:x.OK) (gt:Nat→Nat→RV) (h:x.at' gt):Pure Tryz.prog 80 [kp gt] (· =.b x.prtB):=by
 refine pure_of_GC T_ok Tryz.func80 rfl (by kernel_rfl) (nb rfl) rfl rfl ?_
 have h5:gt 0 5=.i x.now:=h 5 (by decide)
 have h6:gt 0 6=.rs 2 x.g.nr λi j=>(x.g.r i).c j:=h 6 (by decide)
 have h7:gt 0 7=.rs 3 x.g.nl λi j=>(x.g.l i).c j:=h 7 (by decide)
 have h8:gt 0 8=.rs 3 x.g.nc λi j=>(x.g.c i).c j:=h 8 (by decide)
 have h9:gt 0 9=.rs 2 x.ir.length (rowOf IrG.f x.ir):=h 9 (by decide)
 have h10:gt 0 10=.rs 8 x.r.nr λi j=>(x.r.r i).c j:=h 10 (by decide)
 have h11:gt 0 11=.rs 3 x.r.nc λi j=>(x.r.c i).c j:=h 11 (by decide)
 have h12:gt 0 12=.rs 4 x.r.nw λi j=>(x.r.w i).c j:=h 12 (by decide)
 have h13:gt 0 13=.rs 5 x.r.nm λi j=>(x.r.m i).c j:=h 13 (by decide)
 have h14:gt 0 14=.rs 3 x.ch.length (rowOf ChG.f x.ch):=h 14 (by decide)
 have h15:gt 0 15=.rs 4 x.ks.length (rowOf KsG.f x.ks):=h 15 (by decide)
 have h16:gt 0 16=.rs 7 x.lg.length (rowOf EnG.f x.lg):=h 16 (by decide)
 have hs:=hx.g.nr
 have b1:=hx.ir
 have b2:=hx.lg
 have b3:=hx.ch
 have b4:=hx.ks
 simp[go_sem,h5,h6,h7,h8,h9,h10,h11,h12,h13,h14,h15,h16]
 refine GDraw_all T_ok (by kernel_rfl) (by kernel_rfl) ?_
 simp[go_sem,h5,h6,h7,h8,h9,h10,h11,h12,h13,h14,h15,h16]
 obtain⟨a1,ha1⟩:∃a,(if x.g.valid then (0:Int) else 8)=a:=⟨_,rfl⟩
 obtain⟨a2,ha2⟩:∃a,(if x.r.valid then (0:Int) else 8)=a:=⟨_,rfl⟩
 obtain⟨a3,ha3⟩:∃a,(if chOK x.ch then (0:Int) else 8)=a:=⟨_,rfl⟩
 obtain⟨a4,ha4⟩:∃a,lgE x.lg=a:=⟨_,rfl⟩
 refine⟨_,dcall_val ((check30 x.g hx.g.ok).val (v':=.i a1) (by rw[ha1])) rfl rfl,_,dcall_val ((Rg.check28 x.r hx.r).val (v':=.i a2) (by rw[ha2])) rfl rfl,_,dcall_val ((checkChanges96 x.ch b3).val (v':=.i a3) (by rw[ha3])) rfl rfl,_,dcall_val ((check53 x.lg b2).val (v':=.i a4) (by rw[ha4])) rfl rfl,?_⟩
 simp[go_sem]
 obtain⟨z,hz⟩:∃z:RsG,z=⟨0,a1,a2,a3,a4,0⟩:=⟨_,rfl⟩
 have ez:∀n,[SV.i a1,SV.i a2,SV.i a3,SV.i a4][n]?.getD (.r .any)=z.c4 n:=λn=>by rw[hz];exact RsG.c4_eq ⟨0,a1,a2,a3,a4,0⟩ n
 simp only [ez]
 have eB:x.prtB=(decide (z.v4 0=0)&&decide (z.v4 1=0)&&decide (z.v4 2=0)&&decide (z.v4 3=0)&&(Ix.btw 0 maxT x.now&&decide (x.ks.length≤4)&&decide (x.ir.length=x.g.nr))):=by
  subst hz
  unfold SvG.prtB
  simp only [RsG.v4]
  rw[← ha1,← ha2,← ha3,← ha4]
  unfold lgE
  cases x.g.valid <;> cases x.r.valid <;> cases chOK x.ch <;> cases lgOK x.lg <;> simp
 rw[eB]
 refine GLoop_of T_ok (α:=Nat) (λk=>[(0,kp gt),(29,.sl 0 1 0 4 none),(30,.i 4),(31,.i k)]) (λk=>[some (.vec 48 1 4 λi j=>z.c4 (i+j))]) 1 (λk=>k≤4∧∀j,j<k→z.v4 j=0) (λk=>4 - k) 0 (λ_=>rfl) (by simp) (by simp[go_sem]) (by simp[go_sem]) ?_
 rintro k J ⟨hk,hi⟩
 by_cases h4:k=4
 ·subst h4
  have z0:=hi 0 (by decide)
  have z1:=hi 1 (by decide)
  have z2:=hi 2 (by decide)
  have z3:=hi 3 (by decide)
  simp[go_sem,h5,h6,h9,h15,z0,z1,z2,z3]
  refine GDraw_all T_ok (by kernel_rfl) (by kernel_rfl) ?_
  simp[go_sem,h5,h6,h9,h15]
  refine⟨_,dcall_val (from75 0 maxT x.now) rfl rfl,?_⟩
  cases Ix.btw 0 maxT x.now
  ·simp[go_sem]
  by_cases k1:x.ks.length≤4
  ·by_cases k2:x.ir.length=x.g.nr
   ·have k1':(x.ks.length:Int)≤4:=by omega
    simp[go_sem,h6,h9,h15,k1,k1',k2]
   ·have k1':(x.ks.length:Int)≤4:=by omega
    have k2':¬(x.ir.length:Int)=x.g.nr:=by omega
    simp[go_sem,h6,h9,h15,k1,k1',k2,k2']
  ·have k1':¬(x.ks.length:Int)≤4:=by omega
   simp[go_sem,h6,h9,h15,k1,k1']
 have hlt:k<4:=by omega
 have hv:z.c4 k=.i (z.v4 k):=by
  rcases(by omega:k=0∨k=1∨k=2∨k=3) with rfl | rfl | rfl | rfl <;> rfl
 have hlt':(k:Int)<4:=by omega
 by_cases h0:z.v4 k=0
 ·simp[go_sem,hlt',hlt,hv,h0]
  refine⟨⟨by omega,by omega⟩,k+1,⟨by omega,λj hj=>?_⟩,by omega,by omega⟩
  by_cases e:j=k
  ·subst e;exact h0
  ·exact hi j (by omega)
 ·simp[go_sem,hlt',hlt,hv,h0]
  rcases(by omega:k=0∨k=1∨k=2∨k=3) with rfl | rfl | rfl | rfl <;> simp[h0]
theorem idx275 (n:Nat) (hn:(n:Int)<2 ^ 63) (get:Nat→Nat→RV) (g:FuncId) (ca:List SV) (p:Nat→Bool) (hca:SV.closedL ca=true) (hp:∀i,i<n→Pure Tryz.prog g (.agg [.r (get i 0),.r (get i 1),.r (get i 2),.r (get i 3),.r (get i 4),.r (get i 5),.r (get i 6)]::ca) (· =.b (p i))) :
 Pure Tryz.prog 275 [.r (.rs 7 n get),.fn (.func g) [] ca] (· =.i (Rg.idx p n)):=by
 refine pure_of_GC T_ok Tryz.func275 rfl (by kernel_rfl) (nb rfl) rfl rfl ?_
 simp[go_sem]
 refine GLoop_of T_ok (α:=Nat) (λi=>[(0,.r (.rs 7 n get)),(1,.fn (.func g) [] ca),(7,.i n),(8,.i i)]) (λ_=>[]) 0 (λi=>i≤n∧∀j,j<i→p j=false) (λi=>n - i) 0 (λ_=>rfl) (by simp) (by simp[go_sem,SV.trimL_closed 0 ca hca]) (by simp[go_sem]) ?_
 intro i J hi
 simp[go_sem]
 split
 ·rename_i hlt
  refine⟨hlt,?_⟩
  refine call_val (hp i hlt) (by simp[SV.closedL,SV.closed,hca]) rfl ?_
  simp[go_sem]
  split
  ·rename_i hpi
   rw[Rg.idx_found hlt hpi hi.2]
  ·rename_i hpi
   refine⟨by omega,i+1,⟨by omega,λj hj=>?_⟩,by omega,?_⟩
   ·by_cases hji:j=i
    ·subst hji;simpa using hpi
    ·exact hi.2 j (by omega)
   ·simp[SV.trimL_closed 0 ca hca]
 ·rename_i hlt
  rw[Rg.idx_none λj hj=>hi.2 j (by omega)]
theorem hasEn (l:List EnG) (hn:l.length<1000000) (g:FuncId) (ca:List SV) (p:EnG→Bool) (hca:SV.closedL ca=true) (hp:∀x∈l,Pure Tryz.prog g (x.sv::ca) (· =.b (p x))) :
 Pure Tryz.prog 173 [lgs l,.fn (.func g) [] ca] (· =.b (l.any p)):=by
 refine pure_of_GC T_ok Tryz.func173 rfl (by kernel_rfl) (nb rfl) rfl rfl ?_
 simp[go_sem]
 refine call_val (idx275 l.length (by omega) (rowOf EnG.f l) g ca (λi=>match l[i]? with | some x=>p x | none=>false) hca λi hi=>by
  have:=hp l[i] (List.getElem_mem hi)
  rw[rowOf_get hi,rowOf_get hi,rowOf_get hi,rowOf_get hi,rowOf_get hi,rowOf_get hi,rowOf_get hi,List.getElem?_eq_getElem hi]
  exact this) (by simp[SV.closedL,SV.closed,hca]) rfl ?_
 simp[go_sem]
 have h:=range_any (p:=p) (q:=λi=>match l[i]? with | some x=>p x | none=>false) (l:=l) λi hi=>by simp[List.getElem?_eq_getElem hi]
 rw[← h]
 exact Rg.idx_any
theorem late171 (x:SvG) (gt g1:Nat→Nat→RV) (h:x.at' gt) (h1:g1 0 0=.rp 17 1 gt 0 0) (y:ChG):Pure Tryz.prog 171 [y.sv,.r (.rp 1 1 g1 0 0)] (· =.b (decide (x.now<y.t))):=by
 refine pure_of_GC T_ok Tryz.func171 rfl (by kernel_rfl) (nb rfl) rfl rfl ?_
 have h5:gt 0 5=.i x.now:=h 5 (by decide)
 simp[go_sem]
 refine GDraw_all T_ok (by kernel_rfl) (by kernel_rfl) ?_
 simp[go_sem,h1,h5]
theorem late174 (x:SvG) (gt g1:Nat→Nat→RV) (h:x.at' gt) (h1:g1 0 0=.rp 17 1 gt 0 0) (y:EnG):Pure Tryz.prog 174 [y.sv,.r (.rp 1 1 g1 0 0)] (· =.b (decide (x.now<y.t))):=by
 refine pure_of_GC T_ok Tryz.func174 rfl (by kernel_rfl) (nb rfl) rfl rfl ?_
 have h5:gt 0 5=.i x.now:=h 5 (by decide)
 simp[go_sem]
 refine GDraw_all T_ok (by kernel_rfl) (by kernel_rfl) ?_
 simp[go_sem,h1,h5]
theorem SvG.knW_succ (x:SvG) (k:Nat):x.knW (k+1)=if x.g.th k then or64 (x.knW k) (shl64 1#64 k) else x.knW k:=by
 unfold SvG.knW
 rw[List.range_succ,List.foldl_append]
 rfl
theorem times82 (x:SvG) (hx:x.OK) (gt:Nat→Nat→RV) (h:x.at' gt):Pure Tryz.prog 82 [kp gt] (· =.b x.timB):=by
 refine pure_of_GC T_ok Tryz.func82 rfl (by kernel_rfl) (nb rfl) rfl rfl ?_
 have h3:gt 0 3=.i x.mage:=h 3 (by decide)
 have h4:gt 0 4=.w x.key:=h 4 (by decide)
 have h5:gt 0 5=.i x.now:=h 5 (by decide)
 have h9:gt 0 9=.rs 2 x.ir.length (rowOf IrG.f x.ir):=h 9 (by decide)
 have h14:gt 0 14=.rs 3 x.ch.length (rowOf ChG.f x.ch):=h 14 (by decide)
 have h15:gt 0 15=.rs 4 x.ks.length (rowOf KsG.f x.ks):=h 15 (by decide)
 have h16:gt 0 16=.rs 7 x.lg.length (rowOf EnG.f x.lg):=h 16 (by decide)
 have b1:=hx.ir
 have b2:=hx.lg
 have b3:=hx.ch
 have b4:=hx.ks
 have hr:=hx.g.ok
 simp[go_sem,h9]
 refine GLoop_of T_ok (α:=Nat) (λk=>[(1,.ptr 0 0 1 0),(3,.w (x.knW k)),(13,.i x.ir.length),(14,.i k)]) (λ_=>[some (.box [kp gt])]) 1 (λk=>k≤x.ir.length) (λk=>x.ir.length - k) 0 (λ_=>rfl) (by simp) (by simp[go_sem,SvG.knW]) (by simp[go_sem]) ?_
 intro k J hk
 by_cases hlt:k<x.ir.length
 ·have hs:=x.knW_succ k
  simp[go_sem,hlt]
  refine call_val (there162 x hr gt h k) rfl rfl ?_
  by_cases ht:x.g.th (k:Int)=true
  ·rw[if_pos ht] at hs
   simp[go_sem,ht]
   refine⟨⟨by omega,by omega⟩,k+1,by omega,by omega,by rw[hs],by omega⟩
  ·rw[if_neg ht] at hs
   simp[go_sem,ht]
   refine⟨⟨by omega,by omega⟩,k+1,by omega,by omega,by rw[hs],by omega⟩
 have hk':k=x.ir.length:=by omega
 subst hk'
 simp[go_sem,h15]
 refine GLoop_of T_ok (α:=Nat) (λk=>[(1,.ptr 0 0 1 0),(3,.w (x.knW x.ir.length)),(29,kss x.ks),(30,.i x.ks.length),(31,.i k)]) (λ_=>[some (.box [kp gt])]) 1 (λk=>k≤x.ks.length∧∀j (hj:j<x.ks.length),j<k→x.kOK x.ks[j]=true) (λk=>x.ks.length - k) 0 (λ_=>rfl) (by simp) (by simp[go_sem]) (by simp[go_sem]) ?_
 rintro k J ⟨hk,hi⟩
 by_cases hlt:k<x.ks.length
 ·have hrow:=rowOf_get (f:=KsG.f) hlt
  have no:x.kOK x.ks[k]=false→x.timB=false:=λhf=>by
   have:x.ks.all x.kOK=false:=lall_bad hlt hf
   unfold SvG.timB;rw[this];rfl
  have yes:x.kOK x.ks[k]=true→(-9223372036854775808≤(k:Int)+1∧(k:Int)+1≤9223372036854775807)∧∃x',(x'≤x.ks.length∧∀j (hj:j<x.ks.length),j<x'→x.kOK x.ks[j]=true)∧x.ks.length - x'<x.ks.length - k∧(k:Int)+1=(x':Int):=λht=>
   ⟨⟨by omega,by omega⟩,k+1,⟨by omega,λj hj hj'=>by
     by_cases e:j=k
     ·subst e;exact ht
     ·exact hi j hj (by omega)⟩,by omega,by omega⟩
  obtain⟨y,hy⟩:∃y,x.ks[k]=y:=⟨_,rfl⟩
  rw[hy] at hrow no yes
  unfold SvG.kOK at no
  simp[go_sem,hlt,hrow]
  refine GDraw_all T_ok (by kernel_rfl) (by kernel_rfl) ?_
  simp[go_sem,h4]
  refine⟨_,dcall_val (checkCopy134 y x.key) rfl rfl,?_⟩
  by_cases c1:y.ok x.key=true
  rotate_left
  ·simp[go_sem,c1]
   exact no (by simp[c1])
  by_cases c2:y.m=x.mage
  rotate_left
  ·simp[go_sem,c1,h3,c2]
   exact no (by simp[c2])
  by_cases c3:y.a<x.now
  rotate_left
  ·have c3':x.now≤y.a:=by omega
   simp[go_sem,c1,h3,c2,h5,c3,c3']
   exact no (by simp;omega)
  have c3':¬x.now≤y.a:=by omega
  by_cases c4:andn64 y.s (x.knW x.ir.length)=0#64
  ·simp[go_sem,c1,h3,c2,h5,c3,c3',c4]
   exact yes (by unfold SvG.kOK;simp[c1,c2,c3,c4])
  ·simp[go_sem,c1,h3,c2,h5,c3,c3',c4]
   rw[if_neg λe:(andn64 y.s (x.knW x.ir.length)).toNat=0=>c4 (BitVec.eq_of_toNat_eq e)]
   exact no (by simp[c4])
 have hk':k=x.ks.length:=by omega
 subst hk'
 have hks:x.ks.all x.kOK=true:=lall_pre λj hj=>hi j hj hj
 have e:x.timB=(!(x.ch.any λc=>decide (x.now<c.t))&&!(x.lg.any λe=>decide (x.now<e.t))):=by unfold SvG.timB;rw[hks,Bool.true_and]
 rw[e]
 simp[go_sem,h14]
 refine call_lent (v:=.b (x.ch.any λc=>decide (x.now<c.t))) ?_ rfl ?_
 ·simp[go_sem]
  exact hasCh x.ch b3 171 _ _ rfl λc _=>late171 x gt _ h (by rfl) c
 cases x.ch.any λc=>decide (x.now<c.t)
 rotate_left
 ·simp[go_sem]
 simp[go_sem,h16]
 refine call_lent (v:=.b (x.lg.any λc=>decide (x.now<c.t))) ?_ rfl ?_
 ·simp[go_sem]
  exact hasEn x.lg b2 174 _ _ rfl λc _=>late174 x gt _ h (by rfl) c
 cases x.lg.any λc=>decide (x.now<c.t) <;> simp[go_sem]
theorem SvG.at_view (x:SvG) (M:Mem):x.at' (λ(_ j:Nat)=>viewRV M 3 (x.cells[j]?.getD (SV.r .any))):=by
 intro j hj
 rcases(by omega:j=0∨j=1∨j=2∨j=3∨j=4∨j=5∨j=6∨j=7∨j=8∨j=9∨j=10∨j=11∨j=12∨j=13∨j=14∨j=15∨j=16) with h | h | h | h | h | h | h | h | h | h | h | h | h | h | h | h | h <;> subst h <;> rfl
theorem check30s (x:SvG) (hx:x.OK):Pure Tryz.prog 30 [x.sv] (· =.i x.chkE):=by
 refine pure_of_GC T_ok Tryz.func30 rfl (by kernel_rfl) (nb rfl) rfl rfl ?_
 unfold SvG.chkE
 simp[go_sem]
 refine call_val (checkSetup27 x) rfl rfl ?_
 cases x.setB
 ·simp[go_sem]
 simp[go_sem]
 refine call_lent (v:=.b x.prtB) (by simp[go_sem];exact parts80 x hx _ (x.at_view _)) rfl ?_
 cases x.prtB
 ·simp[go_sem]
 simp[go_sem]
 refine call_lent (v:=.b x.peoB) (by simp[go_sem];exact people81 x hx _ (x.at_view _)) rfl ?_
 cases x.peoB
 ·simp[go_sem]
 simp[go_sem]
 refine call_lent (v:=.b x.timB) (by simp[go_sem];exact times82 x hx _ (x.at_view _)) rfl ?_
 cases x.timB <;> simp[go_sem]
@[go_sem]theorem IrG.f0' (x:IrG):x.f 0=.w x.c:=rfl
@[go_sem]theorem IrG.f1' (x:IrG):x.f 1=.w x.m:=rfl
theorem IrG.iff (x y:IrG):x=y↔x.c.toNat=y.c.toNat∧x.m.toNat=y.m.toNat:=by
 rw[BitVec.toNat_inj,BitVec.toNat_inj]
 cases x;cases y;simp
theorem equal84 (l l':List IrG) (hn:l.length≤1000000):Pure Tryz.prog 84 [irs l,irs l'] (· =.b (decide (l=l'))):=by
 refine pure_of_GC T_ok Tryz.func84 rfl (by kernel_rfl) (nb rfl) rfl rfl ?_
 simp[go_sem]
 by_cases h:l.length=l'.length
 rotate_left
 ·have h':¬l=l':=λe=>h (by rw[e])
  simp[go_sem,h,h']
  try omega
 simp[go_sem,h]
 have hn':l'.length≤1000000:=by omega
 refine GLoop_of T_ok (α:=Nat) (λk=>[(0,.r (.rs 2 l'.length (rowOf IrG.f l))),(1,irs l'),(12,.i l'.length),(13,.i k)]) (λ_=>[]) 0 (λk=>k≤l'.length∧∀j,j<k→∀(h1:j<l.length) (h2:j<l'.length),l[j]=l'[j]) (λk=>l'.length - k) 0 (λ_=>rfl) (by simp) (by simp[go_sem,h]) (by simp[go_sem]) ?_
 intro k J hi
 by_cases hlt:k<l'.length
 ·simp[go_sem,hlt]
  have hlt1:k<l.length:=by omega
  have r:=rowOf_get (f:=IrG.f) hlt1
  have q:=rowOf_get (f:=IrG.f) hlt
  refine GDraw_all T_ok (by kernel_rfl) (by kernel_rfl) ?_
  simp[go_sem,hlt,r,q]
  have hiff:=IrG.iff l[k] l'[k]
  by_cases he:l[k]=l'[k]
  ·simp[go_sem,he]
   refine⟨by omega,k+1,⟨by omega,λj hj h1 h2=>?_⟩,by omega,by omega⟩
   by_cases hjk:j=k
   ·subst hjk;exact he
   ·exact hi.2 j (by omega) h1 h2
  ·have he':=λq=>he (hiff.2 q)
   have hne:¬l=l':=λe=>he (by simp[e])
   simp[go_sem,hne]
   intro e0 e1
   exact absurd ⟨by first | exact e0 | exact Int.ofNat_inj.1 e0 | omega,by first | exact e1 | exact Int.ofNat_inj.1 e1 | omega⟩ he'
 ·simp[go_sem,hlt]
  exact eq_of_all h λj h1 h2=>hi.2 j (by omega) h1 h2
theorem ChG.iff (x y:ChG):x=y↔x.t=y.t∧x.p=y.p∧x.on=y.on:=by
 cases x;cases y;simp
theorem equal85 (l l':List ChG) (hn:l.length≤1000000):Pure Tryz.prog 85 [chs l,chs l'] (· =.b (decide (l=l'))):=by
 refine pure_of_GC T_ok Tryz.func85 rfl (by kernel_rfl) (nb rfl) rfl rfl ?_
 simp[go_sem]
 by_cases h:l.length=l'.length
 rotate_left
 ·have h':¬l=l':=λe=>h (by rw[e])
  simp[go_sem,h,h']
  try omega
 simp[go_sem,h]
 have hn':l'.length≤1000000:=by omega
 refine GLoop_of T_ok (α:=Nat) (λk=>[(0,.r (.rs 3 l'.length (rowOf ChG.f l))),(1,chs l'),(12,.i l'.length),(13,.i k)]) (λ_=>[]) 0 (λk=>k≤l'.length∧∀j,j<k→∀(h1:j<l.length) (h2:j<l'.length),l[j]=l'[j]) (λk=>l'.length - k) 0 (λ_=>rfl) (by simp) (by simp[go_sem,h]) (by simp[go_sem]) ?_
 intro k J hi
 by_cases hlt:k<l'.length
 ·simp[go_sem,hlt]
  have hlt1:k<l.length:=by omega
  have r:=rowOf_get (f:=ChG.f) hlt1
  have q:=rowOf_get (f:=ChG.f) hlt
  refine GDraw_all T_ok (by kernel_rfl) (by kernel_rfl) ?_
  simp[go_sem,hlt,r,q]
  have hiff:=ChG.iff l[k] l'[k]
  by_cases he:l[k]=l'[k]
  ·simp[go_sem,he]
   refine⟨by omega,k+1,⟨by omega,λj hj h1 h2=>?_⟩,by omega,by omega⟩
   by_cases hjk:j=k
   ·subst hjk;exact he
   ·exact hi.2 j (by omega) h1 h2
  ·have he':=λq=>he (hiff.2 q)
   have hne:¬l=l':=λe=>he (by simp[e])
   simp[go_sem,hne]
   intro e0 e1 e2
   exact absurd ⟨by first | exact e0 | exact Int.ofNat_inj.1 e0 | omega,by first | exact e1 | exact Int.ofNat_inj.1 e1 | omega,by first | exact e2 | exact Int.ofNat_inj.1 e2 | omega⟩ he'
 ·simp[go_sem,hlt]
  exact eq_of_all h λj h1 h2=>hi.2 j (by omega) h1 h2
theorem KsG.iff (x y:KsG):x=y↔x.a=y.a∧x.m=y.m∧x.s.toNat=y.s.toNat∧x.z.toNat=y.z.toNat:=by
 rw[BitVec.toNat_inj,BitVec.toNat_inj]
 cases x;cases y;simp
theorem equal86 (l l':List KsG) (hn:l.length≤1000000):Pure Tryz.prog 86 [kss l,kss l'] (· =.b (decide (l=l'))):=by
 refine pure_of_GC T_ok Tryz.func86 rfl (by kernel_rfl) (nb rfl) rfl rfl ?_
 simp[go_sem]
 by_cases h:l.length=l'.length
 rotate_left
 ·have h':¬l=l':=λe=>h (by rw[e])
  simp[go_sem,h,h']
  try omega
 simp[go_sem,h]
 have hn':l'.length≤1000000:=by omega
 refine GLoop_of T_ok (α:=Nat) (λk=>[(0,.r (.rs 4 l'.length (rowOf KsG.f l))),(1,kss l'),(12,.i l'.length),(13,.i k)]) (λ_=>[]) 0 (λk=>k≤l'.length∧∀j,j<k→∀(h1:j<l.length) (h2:j<l'.length),l[j]=l'[j]) (λk=>l'.length - k) 0 (λ_=>rfl) (by simp) (by simp[go_sem,h]) (by simp[go_sem]) ?_
 intro k J hi
 by_cases hlt:k<l'.length
 ·simp[go_sem,hlt]
  have hlt1:k<l.length:=by omega
  have r:=rowOf_get (f:=KsG.f) hlt1
  have q:=rowOf_get (f:=KsG.f) hlt
  refine GDraw_all T_ok (by kernel_rfl) (by kernel_rfl) ?_
  simp[go_sem,hlt,r,q]
  have hiff:=KsG.iff l[k] l'[k]
  by_cases he:l[k]=l'[k]
  ·simp[go_sem,he]
   refine⟨by omega,k+1,⟨by omega,λj hj h1 h2=>?_⟩,by omega,by omega⟩
   by_cases hjk:j=k
   ·subst hjk;exact he
   ·exact hi.2 j (by omega) h1 h2
  ·have he':=λq=>he (hiff.2 q)
   have hne:¬l=l':=λe=>he (by simp[e])
   simp[go_sem,hne]
   intro e0 e1 e2 e3
   exact absurd ⟨by first | exact e0 | exact Int.ofNat_inj.1 e0 | omega,by first | exact e1 | exact Int.ofNat_inj.1 e1 | omega,by first | exact e2 | exact Int.ofNat_inj.1 e2 | omega,by first | exact e3 | exact Int.ofNat_inj.1 e3 | omega⟩ he'
 ·simp[go_sem,hlt]
  exact eq_of_all h λj h1 h2=>hi.2 j (by omega) h1 h2
theorem EnG.iff (x y:EnG):x=y↔x.t=y.t∧x.k=y.k∧x.p=y.p∧x.d.toNat=y.d.toNat∧x.a.toNat=y.a.toNat∧x.s.toNat=y.s.toNat∧x.l.toNat=y.l.toNat:=by
 rw[BitVec.toNat_inj,BitVec.toNat_inj,BitVec.toNat_inj,BitVec.toNat_inj]
 cases x;cases y;simp
theorem equal87 (l l':List EnG) (hn:l.length≤1000000):Pure Tryz.prog 87 [lgs l,lgs l'] (· =.b (decide (l=l'))):=by
 refine pure_of_GC T_ok Tryz.func87 rfl (by kernel_rfl) (nb rfl) rfl rfl ?_
 simp[go_sem]
 by_cases h:l.length=l'.length
 rotate_left
 ·have h':¬l=l':=λe=>h (by rw[e])
  simp[go_sem,h,h']
  try omega
 simp[go_sem,h]
 have hn':l'.length≤1000000:=by omega
 refine GLoop_of T_ok (α:=Nat) (λk=>[(0,.r (.rs 7 l'.length (rowOf EnG.f l))),(1,lgs l'),(12,.i l'.length),(13,.i k)]) (λ_=>[]) 0 (λk=>k≤l'.length∧∀j,j<k→∀(h1:j<l.length) (h2:j<l'.length),l[j]=l'[j]) (λk=>l'.length - k) 0 (λ_=>rfl) (by simp) (by simp[go_sem,h]) (by simp[go_sem]) ?_
 intro k J hi
 by_cases hlt:k<l'.length
 ·simp[go_sem,hlt]
  have hlt1:k<l.length:=by omega
  have r:=rowOf_get (f:=EnG.f) hlt1
  have q:=rowOf_get (f:=EnG.f) hlt
  refine GDraw_all T_ok (by kernel_rfl) (by kernel_rfl) ?_
  simp[go_sem,hlt,r,q]
  have hiff:=EnG.iff l[k] l'[k]
  by_cases he:l[k]=l'[k]
  ·simp[go_sem,he]
   refine⟨by omega,k+1,⟨by omega,λj hj h1 h2=>?_⟩,by omega,by omega⟩
   by_cases hjk:j=k
   ·subst hjk;exact he
   ·exact hi.2 j (by omega) h1 h2
  ·have he':=λq=>he (hiff.2 q)
   have hne:¬l=l':=λe=>he (by simp[e])
   simp[go_sem,hne]
   intro e0 e1 e2 e3 e4 e5 e6
   exact absurd ⟨by first | exact e0 | exact Int.ofNat_inj.1 e0 | omega,by first | exact e1 | exact Int.ofNat_inj.1 e1 | omega,by first | exact e2 | exact Int.ofNat_inj.1 e2 | omega,by first | exact e3 | exact Int.ofNat_inj.1 e3 | omega,by first | exact e4 | exact Int.ofNat_inj.1 e4 | omega,by first | exact e5 | exact Int.ofNat_inj.1 e5 | omega,by first | exact e6 | exact Int.ofNat_inj.1 e6 | omega⟩ he'
 ·simp[go_sem,hlt]
  exact eq_of_all h λj h1 h2=>hi.2 j (by omega) h1 h2
def SvG.sm1 (x y:SvG):Bool:=decide (x.ir=y.ir)&&decide (x.ch=y.ch)&&decide (x.ks=y.ks)&&decide (x.lg=y.lg)
def SvG.sm2 (x y:SvG):Bool:=decide (x.num=y.num)&&decide (x.den=y.den)&&decide (x.turns=y.turns)&&decide (x.mage=y.mage)&&decide (x.key=y.key)&&decide (x.now=y.now)
def SvG.same (x y:SvG):Bool:=x.sm1 y&&(x.sm2 y&&(x.g.smB y.g&&x.r.same y.r))
theorem same32 (x y:SvG) (hx:x.OK) (hy:y.OK):Pure Tryz.prog 32 [x.sv,y.sv] (· =.b (x.same y)):=by
 refine pure_of_GC T_ok Tryz.func32 rfl (by kernel_rfl) (nb rfl) rfl rfl ?_
 have a1:=hx.ir;have a2:=hx.ch;have a3:=hx.ks;have a4:=hx.lg
 unfold SvG.same
 simp[go_sem]
 refine call_val (equal84 x.ir y.ir (by omega)) rfl rfl ?_
 unfold SvG.sm1
 by_cases h1:x.ir=y.ir
 rotate_left
 ·simp[go_sem,h1]
 simp[go_sem,h1]
 refine call_val (equal85 x.ch y.ch (by omega)) rfl rfl ?_
 by_cases h2:x.ch=y.ch
 rotate_left
 ·simp[go_sem,h2]
 simp[go_sem,h2]
 refine call_val (equal86 x.ks y.ks (by omega)) rfl rfl ?_
 by_cases h3:x.ks=y.ks
 rotate_left
 ·simp[go_sem,h3]
 simp[go_sem,h3]
 refine call_val (equal87 x.lg y.lg (by omega)) rfl rfl ?_
 by_cases h4:x.lg=y.lg
 rotate_left
 ·simp[go_sem,h4]
 obtain⟨b,hb⟩:∃b,x.sm2 y=b:=⟨_,rfl⟩
 rw[hb]
 unfold SvG.sm2 at hb
 simp[go_sem,h4]
 by_cases c1:x.num=y.num∧x.den=y.den∧x.turns=y.turns∧x.mage=y.mage∧(x.key.toNat:Int)=(y.key.toNat:Int)
 rotate_left
 ·rw[if_neg c1]
  have:b=false:=by
   rw[← hb,Bool.eq_false_iff]
   intro ht
   simp only [Bool.and_eq_true,decide_eq_true_eq] at ht
   exact c1 ⟨ht.1.1.1.1.1,ht.1.1.1.1.2,ht.1.1.1.2,ht.1.1.2,by rw[ht.1.2]⟩
  subst this
  intro h;simp at h
 rw[if_pos c1]
 by_cases c2:x.now=y.now
 rotate_left
 ·rw[if_neg c2]
  have:b=false:=by
   rw[← hb,Bool.eq_false_iff]
   intro ht
   simp only [Bool.and_eq_true,decide_eq_true_eq] at ht
   exact c2 ht.2
  subst this
  intro h;simp at h
 rw[if_pos c2]
 have:b=true:=by
  rw[← hb]
  have:=(toNat_inj x.key y.key).1 c1.2.2.2.2
  simp[c1.1,c1.2.1,c1.2.2.1,c1.2.2.2.1,c2,this]
 subst this
 refine call_val (Go.Gx.same32 x.g y.g hx.g.ok hy.g.ok) rfl rfl ?_
 cases x.g.smB y.g
 ·simp[go_sem]
 simp[go_sem]
 refine call_val (Rg.same35 x.r y.r hx.r hy.r) rfl rfl ?_
 cases x.r.same y.r <;> simp[go_sem]
end Go.Gx.Sr
namespace Go.Gx.Sr
open Go.RowKit Go.Proofs Go.Proofs.YtncccnmmjfapnaaGreat Go.Gx.Ix
theorem SvG.valid_iff {x:SvG}:x.valid=true↔x.setB=true∧x.prtB=true∧x.peoB=true∧x.timB=true:=by
 unfold SvG.valid;simp only [Bool.and_eq_true];exact⟨λ⟨a,⟨b,c⟩,d⟩=>⟨a,b,c,d⟩,λ⟨a,b,c,d⟩=>⟨a,⟨b,c⟩,d⟩⟩
end Go.Gx.Sr
namespace Go.Gx
open Go.RowKit Go.WideShapes Go.ChangeShapes Go.Proofs Go.Proofs.YtncccnmmjfapnaaGreat
abbrev csI:CS:=.sc (.int .i64)
abbrev csB:CS:=.sc .bool
abbrev slOf (l:List CS):CS:=.sl l.length λj=>l.getD j (.sc .bool)
section
variable {W:World}
abbrev ZW (W:World):Nat→Prop:=λb=>b<W.heap.size
def vb:Value→Bool
 | .bool b=>b
 | _=>false
theorem ok_bool {v:Value} (h:CSok W csB v):v=.bool (vb v):=by
 obtain⟨b,rfl⟩:=h;rfl
theorem one_vi {k:IntKind} {v:Value} (h:CSok W (.sc (.int k)) v):v.oneCell'=true:=by rw[ok_int h];rfl
theorem one_vb {v:Value} (h:CSok W csB v):v.oneCell'=true:=by rw[ok_bool h];rfl
theorem rel_vi {Z:Nat→Prop} {v:Value} (h:CSok W csI v):(RV.i (vi v)).rel Z W v:=ok_int h
theorem rel_vb {Z:Nat→Prop} {v:Value} (h:CSok W csB v):(RV.v (.bool (vb v))).rel Z W v:=ok_bool h
theorem sl_one {k:Nat} {fs:Nat→CS} {v:Value} (h:CSok W (.sl k fs) v):v.oneCell'=true:=by
 obtain⟨A,n,c,rfl,_⟩:=h;rfl
theorem rec_rows {v:Value} (h:CSok W (slOf [csI,csB]) v):∃(n:Nat) (r:Nat→RcG),∀σ,(SV.r (.rs 2 n λi j=>(r i).c j)).rel σ (ZW W) W v:=by
 obtain⟨n,cv,_,h1,h2⟩:=rows_of h
 refine⟨n,λi=>⟨vi (cv i 0),vb (cv i 1)⟩,λσ=>h2 _ (λi j hi hj=>?_) σ⟩
 have hc:=h1 i j hi hj
 match j,hj,hc with
 | 0,_,hc=>exact⟨one_vi hc,rel_vi hc⟩
 | 1,_,hc=>exact⟨one_vb hc,rel_vb hc⟩
 | j+2,hj,_=>exact absurd hj (by simp)
theorem link_rows {v:Value} (h:CSok W (slOf [csI,csI,csB]) v):∃(n:Nat) (r:Nat→LkG),∀σ,(SV.r (.rs 3 n λi j=>(r i).c j)).rel σ (ZW W) W v:=by
 obtain⟨n,cv,_,h1,h2⟩:=rows_of h
 refine⟨n,λi=>⟨vi (cv i 0),vi (cv i 1),vb (cv i 2)⟩,λσ=>h2 _ (λi j hi hj=>?_) σ⟩
 have hc:=h1 i j hi hj
 match j,hj,hc with
 | 0,_,hc=>exact⟨one_vi hc,rel_vi hc⟩
 | 1,_,hc=>exact⟨one_vi hc,rel_vi hc⟩
 | 2,_,hc=>exact⟨one_vb hc,rel_vb hc⟩
 | j+3,hj,_=>exact absurd hj (by simp)
theorem vote_rows {v:Value} (h:CSok W (slOf [csI,csB]) v):∃(n:Nat) (r:Nat→VtG),(RV.rs 2 n λi j=>(r i).c j).rel (ZW W) W v:=by
 obtain⟨n,cv,_,h1,h2⟩:=rows_of h
 refine⟨n,λi=>⟨vi (cv i 0),vb (cv i 1)⟩,h2 _ (λi j hi hj=>?_) (λ_=>none)⟩
 have hc:=h1 i j hi hj
 match j,hj,hc with
 | 0,_,hc=>exact⟨one_vi hc,rel_vi hc⟩
 | 1,_,hc=>exact⟨one_vb hc,rel_vb hc⟩
 | j+2,hj,_=>exact absurd hj (by simp)
theorem case_rows {v:Value} (h:CSok W (slOf [csI,csI,slOf [csI,csB]]) v):∃(n:Nat) (r:Nat→CsG),∀σ,(SV.r (.rs 3 n λi j=>(r i).c j)).rel σ (ZW W) W v:=by
 obtain⟨n,cv,_,h1,h2⟩:=rows_of h
 have hv:∀i,∃p:Nat × (Nat→VtG),i<n→(RV.rs 2 p.1 λi j=>(p.2 i).c j).rel (ZW W) W (cv i 2):=λi=>by
  by_cases hi:i<n
  ·obtain⟨m,r,hr⟩:=vote_rows (h1 i 2 hi (by decide))
   exact⟨(m,r),λ_=>hr⟩
  ·exact⟨(0,λ_=>⟨0,false⟩),λh=>absurd h hi⟩
 obtain⟨f,hf⟩:=Classical.axiomOfChoice hv
 refine⟨n,λi=>⟨vi (cv i 0),vi (cv i 1),(f i).1,(f i).2⟩,λσ=>h2 _ (λi j hi hj=>?_) σ⟩
 have hc:=h1 i j hi hj
 match j,hj,hc with
 | 0,_,hc=>exact⟨one_vi hc,rel_vi hc⟩
 | 1,_,hc=>exact⟨one_vi hc,rel_vi hc⟩
 | 2,_,hc=>exact⟨sl_one hc,hf i hi⟩
 | j+3,hj,_=>exact absurd hj (by simp)
end
end Go.Gx
namespace Go.Gx
open Go.RowKit Go.Proofs Go.Proofs.YtncccnmmjfapnaaGreat
@[go_sem]theorem zeroV_sl (b:Nat) (e:TypeId):TI.zeroV ⟨1,b,[.sl],.slice e⟩=.slice none 0 0:=rfl
@[go_sem]theorem zeroV_int (b:Nat) (k:IntKind):TI.zeroV ⟨1,b,[.i k],.int k⟩=.int k 0:=rfl
end Go.Gx
namespace Go.Gx.Sr
open Go.RowKit Go.Proofs Go.Proofs.YtncccnmmjfapnaaGreat Go.Gx.Ix
def OrG.bS (o:OrG):Bool:=!decide (o.s.toNat=0)
def OrG.bI (o:OrG):Bool:=!(decide (o.x.c.toNat=0)&&decide (o.x.m.toNat=0))
def OrG.bQ (o:OrG):Bool:=!decide (o.q.p=0)||!decide (o.q.r=0)||!decide (o.q.l=0)||decide (0<o.q.nk)
def OrG.bR (o:OrG):Bool:=!(decide (o.rl.p=0)&&(decide (o.rl.r=0)&&(decide (o.rl.l=0)&&(decide (o.rl.f=0)&&(decide (o.rl.t=0)&&(decide (o.rl.k=0)&&(decide (o.rl.s=0)&&decide (o.rl.b=0))))))))
def OrG.bW (o:OrG):Bool:=!(decide (o.w.l=0)&&(decide (o.w.p=0)&&(decide (o.w.f=0)&&decide (o.w.t=0))))
def OrG.bC (o:OrG):Bool:=!(decide (o.c.p=0)&&(decide (o.c.q=0)&&decide (o.c.u=0)))
def OrG.bM (o:OrG):Bool:=!(decide (o.m.l=0)&&(decide (o.m.p=0)&&(decide (o.m.s=0)&&(decide (o.m.u=0)&&decide (o.m.n=0)))))
def ordZ (o:OrG) (n a b:Int) (f s i q r w c m:Bool):Bool:=decide (n=0∧a=0∧b=0∧f=false∧s=false∧i=false∧q=false∧r=false∧w=false∧c=false∧m=false∧o.q.w=0∧o.q.t=0)
def ordB (o:OrG):Bool:=
 if o.k=1 then ordZ o 0 o.a o.b o.f o.bS o.bI o.bQ o.bR o.bW o.bC o.bM else
 if o.k=2 then ordZ o 0 o.a o.b o.f o.bS false o.bQ o.bR o.bW o.bC o.bM else
 if o.k=3 then ordZ o 0 0 0 false o.bS o.bI o.bQ o.bR o.bW o.bC o.bM else
 if o.k=4 then ordZ o o.n 0 0 o.f o.bS o.bI o.bQ o.bR o.bW o.bC o.bM else
 if o.k=5 then ordZ o o.n 0 o.b o.f o.bS o.bI o.bQ o.bR o.bW o.bC o.bM else
 if o.k=6 then ordZ o o.n o.a o.b o.f o.bS o.bI o.bQ false o.bW o.bC o.bM else
 if o.k=7 then ordZ o o.n o.a o.b o.f o.bS o.bI o.bQ o.bR false o.bC o.bM else
 if o.k=8 then ordZ o o.n o.a o.b o.f o.bS o.bI o.bQ o.bR o.bW false o.bM else
 if o.k=9 then ordZ o o.n o.a o.b o.f o.bS o.bI o.bQ o.bR o.bW o.bC false else
 if o.k=10 then ordZ o o.n 0 o.b false o.bS o.bI o.bQ o.bR o.bW o.bC o.bM else
 if o.k=11 then ordZ o 0 o.a o.b o.f o.bS o.bI o.bQ o.bR o.bW o.bC o.bM else
 if o.k=12 then ordZ o o.n 0 o.b o.f false false o.bQ o.bR o.bW o.bC o.bM else
 if o.k=13 then ordZ o o.n o.a o.b o.f false false false o.bR o.bW o.bC o.bM else
 if o.k=14 then ordZ o 0 0 o.b o.f false false o.bQ o.bR o.bW o.bC o.bM else
 false
def ordE (o:OrG):Int:=if ordB o then 0 else 2
theorem checkOrder34 (o:OrG) (hq:(o.q.nk:Int)<2 ^ 61):Pure Tryz.prog 34 [o.sv] (· =.i (ordE o)):=by
 refine pure_of_GC T_ok Tryz.func34 rfl (by kernel_rfl) (nb rfl) rfl rfl ?_
 simp[go_sem]
 refine GDraw_all T_ok (by kernel_rfl) (by kernel_rfl) ?_
 simp[go_sem]
 refine GDraw_cut (S:=[(1,.ptr 0 0 34 0),(2,.i 0),(3,.ptr 1 0 3 0),(4,.b o.f),(5,.b o.bS),(6,.b o.bI),(7,.b o.bQ)]) (φ:=λM nx=>2≤nx∧M 0=some (.box o.cells)∧M 1=some (.box [.i o.n,.i o.a,.i o.b])) ?_ ?_
 ·refine GDraw_all T_ok (by kernel_rfl) (by kernel_rfl) ?_
  have e1:o.bS=!decide (o.s.toNat=0):=rfl
  have e2:o.bI=!(decide (o.x.c.toNat=0)&&decide (o.x.m.toNat=0)):=rfl
  by_cases c1:o.q.p=0
  rotate_left
  ·have e:o.bQ=true:=by simp[OrG.bQ,c1]
   simp[go_sem,c1,e,e1,e2]
  by_cases c2:o.q.r=0
  rotate_left
  ·have e:o.bQ=true:=by simp[OrG.bQ,c2]
   simp[go_sem,c1,c2,e,e1,e2]
  by_cases c3:o.q.l=0
  rotate_left
  ·have e:o.bQ=true:=by simp[OrG.bQ,c3]
   simp[go_sem,c1,c2,c3,e,e1,e2]
  have e:o.bQ=decide (0<o.q.nk):=by simp[OrG.bQ,c1,c2,c3]
  simp[go_sem,c1,c2,c3,e,e1,e2]
 intro J M nx ⟨h0,h1,h2⟩
 simp[go_sem,h1,h2]
 refine GDraw_cut (S:=[(1,.ptr 0 0 34 0),(2,.i 0),(3,.ptr 1 0 3 0),(4,.b o.f),(5,.b o.bS),(6,.b o.bI),(7,.b o.bQ),(8,.b o.bR),(9,.b o.bW),(10,.b o.bC),(11,.b o.bM)]) (φ:=λM nx=>2≤nx∧M 0=some (.box o.cells)∧M 1=some (.box [.i o.n,.i o.a,.i o.b])) ?_ ?_
 ·refine GDraw_all T_ok (by kernel_rfl) (by kernel_rfl) ?_
  simp[go_sem,h1,h2]
  exact⟨by omega,⟨by simp[OrG.bR,Bool.not_and],by simp[OrG.bW,Bool.not_and],by simp[OrG.bC,Bool.not_and],by simp[OrG.bM,Bool.not_and]⟩,h0⟩
 intro J M nx ⟨h0,h1,h2⟩
 rw[GK_code,GC_seq]
 generalize hB:([It.code _]:List It)=kk
 have key:∀(E:Env) (M:Mem) (nx:Nat) (f s i q r w c m:Bool) (n a b:Int),E 1=.ptr 0 0 34 0→E 3=.ptr 1 0 3 0→E 4=.b f→E 5=.b s→E 6=.b i→E 7=.b q→E 8=.b r→E 9=.b w→E 10=.b c→E 11=.b m→
  M 0=some (.box o.cells)→M 1=some (.box [.i n,.i a,.i b])→ordE o=(if ordZ o n a b f s i q r w c m then 0 else 2)→GK Tryz.prog T ⟨145,0,noGood⟩ kk (gret T [ResultVar.tmp 2] λs M=>gview M s λx=>x=.i (ordE o)) .normal E M nx:=by
  subst hB
  intro E M nx f s i q r w c m n a b e1 e3 e4 e5 e6 e7 e8 e9 e10 e11 m0 m1 he
  rw[he]
  by_cases hz:(n=0∧a=0∧b=0∧f=false∧s=false∧i=false∧q=false∧r=false∧w=false∧c=false∧m=false∧o.q.w=0∧o.q.t=0)
  ·have hZ:ordZ o n a b f s i q r w c m=true:=decide_eq_true hz
   rw[hZ]
   obtain⟨rfl,rfl,rfl,rfl,rfl,rfl,rfl,rfl,rfl,rfl,rfl,z1,z2⟩:=hz
   simp[go_sem,e1,e3,e4,e5,e6,e7,e8,e9,e10,e11,m0,m1,z1,z2]
  ·have hZ:ordZ o n a b f s i q r w c m=false:=decide_eq_false hz
   rw[hZ]
   simp[go_sem,e1,e3,e4,e5,e6,e7,e8,e9,e10,e11,m0,m1]
   exact λa1 a2 a3 a4 a5 a6 a7 a8 a9 a10 a11 a12 a13=>hz ⟨a1,a2,a3,a4,a5,a6,a7,a8,a9,a10,a11,a12,a13⟩
 by_cases k1:o.k=1
 ·have he:ordE o=if ordZ o 0 o.a o.b o.f o.bS o.bI o.bQ o.bR o.bW o.bC o.bM then 0 else 2:=by simp[ordE,ordB,k1]
  simp[go_sem,h1,h2,k1]
  exact key _ _ _ o.f o.bS o.bI o.bQ o.bR o.bW o.bC o.bM 0 o.a o.b (by simp[go_sem]) (by simp[go_sem]) (by simp[go_sem]) (by simp[go_sem]) (by simp[go_sem]) (by simp[go_sem]) (by simp[go_sem]) (by simp[go_sem]) (by simp[go_sem]) (by simp[go_sem]) (by simp[go_sem,h1]) (by simp[go_sem,h2]) he
 by_cases k2:o.k=2
 ·have he:ordE o=if ordZ o 0 o.a o.b o.f o.bS false o.bQ o.bR o.bW o.bC o.bM then 0 else 2:=by simp[ordE,ordB,k2]
  simp[go_sem,h1,h2,k2]
  exact key _ _ _ o.f o.bS false o.bQ o.bR o.bW o.bC o.bM 0 o.a o.b (by simp[go_sem]) (by simp[go_sem]) (by simp[go_sem]) (by simp[go_sem]) (by simp[go_sem]) (by simp[go_sem]) (by simp[go_sem]) (by simp[go_sem]) (by simp[go_sem]) (by simp[go_sem]) (by simp[go_sem,h1]) (by simp[go_sem,h2]) he
 by_cases k3:o.k=3
 ·have he:ordE o=if ordZ o 0 0 0 false o.bS o.bI o.bQ o.bR o.bW o.bC o.bM then 0 else 2:=by simp[ordE,ordB,k3]
  simp[go_sem,h1,h2,k3]
  exact key _ _ _ false o.bS o.bI o.bQ o.bR o.bW o.bC o.bM 0 0 0 (by simp[go_sem]) (by simp[go_sem]) (by simp[go_sem]) (by simp[go_sem]) (by simp[go_sem]) (by simp[go_sem]) (by simp[go_sem]) (by simp[go_sem]) (by simp[go_sem]) (by simp[go_sem]) (by simp[go_sem,h1]) (by simp[go_sem,h2]) he
 by_cases k4:o.k=4
 ·have he:ordE o=if ordZ o o.n 0 0 o.f o.bS o.bI o.bQ o.bR o.bW o.bC o.bM then 0 else 2:=by simp[ordE,ordB,k4]
  simp[go_sem,h1,h2,k4]
  exact key _ _ _ o.f o.bS o.bI o.bQ o.bR o.bW o.bC o.bM o.n 0 0 (by simp[go_sem]) (by simp[go_sem]) (by simp[go_sem]) (by simp[go_sem]) (by simp[go_sem]) (by simp[go_sem]) (by simp[go_sem]) (by simp[go_sem]) (by simp[go_sem]) (by simp[go_sem]) (by simp[go_sem,h1]) (by simp[go_sem,h2]) he
 by_cases k5:o.k=5
 ·have he:ordE o=if ordZ o o.n 0 o.b o.f o.bS o.bI o.bQ o.bR o.bW o.bC o.bM then 0 else 2:=by simp[ordE,ordB,k5]
  simp[go_sem,h1,h2,k5]
  exact key _ _ _ o.f o.bS o.bI o.bQ o.bR o.bW o.bC o.bM o.n 0 o.b (by simp[go_sem]) (by simp[go_sem]) (by simp[go_sem]) (by simp[go_sem]) (by simp[go_sem]) (by simp[go_sem]) (by simp[go_sem]) (by simp[go_sem]) (by simp[go_sem]) (by simp[go_sem]) (by simp[go_sem,h1]) (by simp[go_sem,h2]) he
 by_cases k6:o.k=6
 ·have he:ordE o=if ordZ o o.n o.a o.b o.f o.bS o.bI o.bQ false o.bW o.bC o.bM then 0 else 2:=by simp[ordE,ordB,k6]
  simp[go_sem,h1,h2,k6]
  exact key _ _ _ o.f o.bS o.bI o.bQ false o.bW o.bC o.bM o.n o.a o.b (by simp[go_sem]) (by simp[go_sem]) (by simp[go_sem]) (by simp[go_sem]) (by simp[go_sem]) (by simp[go_sem]) (by simp[go_sem]) (by simp[go_sem]) (by simp[go_sem]) (by simp[go_sem]) (by simp[go_sem,h1]) (by simp[go_sem,h2]) he
 by_cases k7:o.k=7
 ·have he:ordE o=if ordZ o o.n o.a o.b o.f o.bS o.bI o.bQ o.bR false o.bC o.bM then 0 else 2:=by simp[ordE,ordB,k7]
  simp[go_sem,h1,h2,k7]
  exact key _ _ _ o.f o.bS o.bI o.bQ o.bR false o.bC o.bM o.n o.a o.b (by simp[go_sem]) (by simp[go_sem]) (by simp[go_sem]) (by simp[go_sem]) (by simp[go_sem]) (by simp[go_sem]) (by simp[go_sem]) (by simp[go_sem]) (by simp[go_sem]) (by simp[go_sem]) (by simp[go_sem,h1]) (by simp[go_sem,h2]) he
 by_cases k8:o.k=8
 ·have he:ordE o=if ordZ o o.n o.a o.b o.f o.bS o.bI o.bQ o.bR o.bW false o.bM then 0 else 2:=by simp[ordE,ordB,k8]
  simp[go_sem,h1,h2,k8]
  exact key _ _ _ o.f o.bS o.bI o.bQ o.bR o.bW false o.bM o.n o.a o.b (by simp[go_sem]) (by simp[go_sem]) (by simp[go_sem]) (by simp[go_sem]) (by simp[go_sem]) (by simp[go_sem]) (by simp[go_sem]) (by simp[go_sem]) (by simp[go_sem]) (by simp[go_sem]) (by simp[go_sem,h1]) (by simp[go_sem,h2]) he
 by_cases k9:o.k=9
 ·have he:ordE o=if ordZ o o.n o.a o.b o.f o.bS o.bI o.bQ o.bR o.bW o.bC false then 0 else 2:=by simp[ordE,ordB,k9]
  simp[go_sem,h1,h2,k9]
  exact key _ _ _ o.f o.bS o.bI o.bQ o.bR o.bW o.bC false o.n o.a o.b (by simp[go_sem]) (by simp[go_sem]) (by simp[go_sem]) (by simp[go_sem]) (by simp[go_sem]) (by simp[go_sem]) (by simp[go_sem]) (by simp[go_sem]) (by simp[go_sem]) (by simp[go_sem]) (by simp[go_sem,h1]) (by simp[go_sem,h2]) he
 by_cases k10:o.k=10
 ·have he:ordE o=if ordZ o o.n 0 o.b false o.bS o.bI o.bQ o.bR o.bW o.bC o.bM then 0 else 2:=by simp[ordE,ordB,k10]
  simp[go_sem,h1,h2,k10]
  exact key _ _ _ false o.bS o.bI o.bQ o.bR o.bW o.bC o.bM o.n 0 o.b (by simp[go_sem]) (by simp[go_sem]) (by simp[go_sem]) (by simp[go_sem]) (by simp[go_sem]) (by simp[go_sem]) (by simp[go_sem]) (by simp[go_sem]) (by simp[go_sem]) (by simp[go_sem]) (by simp[go_sem,h1]) (by simp[go_sem,h2]) he
 by_cases k11:o.k=11
 ·have he:ordE o=if ordZ o 0 o.a o.b o.f o.bS o.bI o.bQ o.bR o.bW o.bC o.bM then 0 else 2:=by simp[ordE,ordB,k11]
  simp[go_sem,h1,h2,k11]
  exact key _ _ _ o.f o.bS o.bI o.bQ o.bR o.bW o.bC o.bM 0 o.a o.b (by simp[go_sem]) (by simp[go_sem]) (by simp[go_sem]) (by simp[go_sem]) (by simp[go_sem]) (by simp[go_sem]) (by simp[go_sem]) (by simp[go_sem]) (by simp[go_sem]) (by simp[go_sem]) (by simp[go_sem,h1]) (by simp[go_sem,h2]) he
 by_cases k12:o.k=12
 ·have he:ordE o=if ordZ o o.n 0 o.b o.f false false o.bQ o.bR o.bW o.bC o.bM then 0 else 2:=by simp[ordE,ordB,k12]
  simp[go_sem,h1,h2,k12]
  exact key _ _ _ o.f false false o.bQ o.bR o.bW o.bC o.bM o.n 0 o.b (by simp[go_sem]) (by simp[go_sem]) (by simp[go_sem]) (by simp[go_sem]) (by simp[go_sem]) (by simp[go_sem]) (by simp[go_sem]) (by simp[go_sem]) (by simp[go_sem]) (by simp[go_sem]) (by simp[go_sem,h1]) (by simp[go_sem,h2]) he
 by_cases k13:o.k=13
 ·have he:ordE o=if ordZ o o.n o.a o.b o.f false false false o.bR o.bW o.bC o.bM then 0 else 2:=by simp[ordE,ordB,k13]
  simp[go_sem,h1,h2,k13]
  exact key _ _ _ o.f false false false o.bR o.bW o.bC o.bM o.n o.a o.b (by simp[go_sem]) (by simp[go_sem]) (by simp[go_sem]) (by simp[go_sem]) (by simp[go_sem]) (by simp[go_sem]) (by simp[go_sem]) (by simp[go_sem]) (by simp[go_sem]) (by simp[go_sem]) (by simp[go_sem,h1]) (by simp[go_sem,h2]) he
 by_cases k14:o.k=14
 ·have he:ordE o=if ordZ o 0 0 o.b o.f false false o.bQ o.bR o.bW o.bC o.bM then 0 else 2:=by simp[ordE,ordB,k14]
  simp[go_sem,h1,h2,k14]
  exact key _ _ _ o.f false false o.bQ o.bR o.bW o.bC o.bM 0 0 o.b (by simp[go_sem]) (by simp[go_sem]) (by simp[go_sem]) (by simp[go_sem]) (by simp[go_sem]) (by simp[go_sem]) (by simp[go_sem]) (by simp[go_sem]) (by simp[go_sem]) (by simp[go_sem]) (by simp[go_sem,h1]) (by simp[go_sem,h2]) he
 subst hB
 have he:ordE o=2:=by simp[ordE,ordB,k1,k2,k3,k4,k5,k6,k7,k8,k9,k10,k11,k12,k13,k14]
 simp[go_sem,h1,h2,k1,k2,k3,k4,k5,k6,k7,k8,k9,k10,k11,k12,k13,k14,he]
end Go.Gx.Sr
namespace Go.Gx.Sr
open Go.RowKit Go.Proofs Go.Proofs.YtncccnmmjfapnaaGreat Go.Gx.Ix
theorem bit_shl1 (a j:Nat) (hj:j<64):(shl64 1#64 a).getLsbD j=decide (j=a):=by
 unfold shl64
 rw[BitVec.getLsbD_shiftLeft]
 by_cases h:j<a
 ·simp[h];omega
 ·by_cases e:j=a
  ·subst e;simp[hj]
  ·have:¬j - a=0:=by omega
   simp[h,e,hj,BitVec.getLsbD_one,this]
theorem bit_or (x y:W64) (j:Nat):(or64 x y).getLsbD j=(x.getLsbD j||y.getLsbD j):=by unfold or64;simp
theorem bit_andn (x y:W64) (j:Nat) (hj:j<64):(andn64 x y).getLsbD j=(x.getLsbD j&&!y.getLsbD j):=by unfold andn64;simp[hj]
theorem w_zero {x:W64}:x=0#64↔∀j,j<64→x.getLsbD j=false:=by
 constructor
 ·rintro rfl;simp
 ·intro h
  apply BitVec.eq_of_getLsbD_eq
  intro i hi
  rw[h i hi];simp
def thW (t:Int→Bool) (k:Nat):W64:=(List.range k).foldl (λ(s:W64) (i:Nat)=>if t i then or64 s (shl64 1#64 i) else s) 0#64
theorem bit_thW (t:Int→Bool) (j:Nat) (hj:j<64):∀k,(thW t k).getLsbD j=(decide (j<k)&&t j)
 | 0=>by simp[thW]
 | k+1=>by
   have ih:=bit_thW t j hj k
   unfold thW at ih ⊢
   rw[List.range_succ,List.foldl_append]
   simp only [List.foldl_cons,List.foldl_nil]
   by_cases hk:t k=true
   ·rw[if_pos hk,bit_or,ih,bit_shl1 k j hj]
    by_cases e:j=k
    ·subst e;simp[hk]
    ·have:j<k+1↔j<k:=by omega
     simp only [this,e,decide_false,Bool.or_false]
   ·rw[if_neg hk,ih]
    by_cases e:j=k
    ·subst e;simp[hk]
    ·have:j<k+1↔j<k:=by omega
     simp only [this]
theorem andn_knW {x:SvG} {s:W64} {k:Nat}:andn64 s (x.knW k)=0#64↔∀j,j<64→s.getLsbD j=true→j<k∧x.g.th j=true:=by
 rw[w_zero]
 constructor
 ·intro h j hj hs
  have:=h j hj
  rw[bit_andn _ _ _ hj,hs] at this
  have e:=bit_thW x.g.th j hj k
  rw[show x.knW k=thW x.g.th k from rfl,e] at this
  simpa using this
 ·intro h j hj
  rw[bit_andn _ _ _ hj,show x.knW k=thW x.g.th k from rfl,bit_thW x.g.th j hj k]
  cases hs:s.getLsbD j with
  | false=>rfl
  | true=>have:=h j hj hs;simp[this.1,this.2]
structure SvG.Va (x:SvG):Prop where
 set:x.setB=true
 g:x.g.valid=true
 r:x.r.valid=true
 ch:chOK x.ch=true
 lg:lgOK x.lg=true
 now:0≤x.now∧x.now≤maxT
 k4:x.ks.length≤4
 irn:x.ir.length=x.g.nr
 ir:∀i,i<x.ir.length→(x.eye (i:Nat)).ok=true∧(x.g.th (i:Nat)=true∨x.eye (i:Nat)=IrG.z)
 lgp:∀e∈x.lg,e.p<0∨x.g.th e.p=true
 cn:∀a,x.r.InC a→x.g.th a.p=true
 wa:∀a,x.r.InW a→x.g.th a.p=true
 ma:∀a,x.r.InM a→x.g.th a.p=true
 chp:∀c∈x.ch,x.g.th c.p=true
 ks:∀k∈x.ks,k.ok x.key=true∧k.m=x.mage∧k.a<x.now∧∀j,j<64→k.s.getLsbD j=true→x.g.th (j:Nat)=true
 cht:∀c∈x.ch,c.t≤x.now
 lgt:∀e∈x.lg,e.t≤x.now
theorem SvG.va_iff {x:SvG}:x.valid=true↔x.Va:=by
 rw[SvG.valid_iff]
 simp only [SvG.prtB,SvG.peoB,SvG.timB,SvG.irB,SvG.lgB,SvG.cnB,SvG.waB,SvG.maB,SvG.chB,SvG.kOK,Bool.and_eq_true,decide_eq_true_eq,List.all_eq_true,List.mem_range,Bool.or_eq_true,Bool.not_eq_true',List.any_eq_false,decide_eq_false_iff_not,Ix.btw,andn_knW,Int.not_lt]
 constructor
 ·rintro⟨h1,⟨⟨⟨⟨h2,h3⟩,h4⟩,h5⟩,⟨h6,h7⟩,h8⟩,⟨⟨h9,h10⟩,⟨⟨h11,h12⟩,h13⟩,h14⟩,⟨h15,h16⟩,h17⟩
  refine⟨h1,h2,h3,h4,h5,h6,h7,h8,h9,h10,?_,?_,?_,h14,λk hk=>?_,h16,h17⟩
  ·rintro a ⟨i,hi,rfl⟩;exact h11 i hi
  ·rintro a ⟨i,hi,rfl⟩;exact h12 i hi
  ·rintro a ⟨i,hi,rfl⟩;exact h13 i hi
  ·obtain⟨⟨⟨a1,a2⟩,a3⟩,a4⟩:=h15 k hk
   exact⟨a1,a2,a3,λj hj hs=>(a4 j hj hs).2⟩
 ·intro h
  have hth:∀j:Nat,x.g.th j=true→j<x.ir.length:=λj hj=>by
   have:=EG.th_iff.1 hj
   have e:=h.irn
   omega
  refine⟨h.set,⟨⟨⟨⟨h.g,h.r⟩,h.ch⟩,h.lg⟩,⟨h.now,h.k4⟩,h.irn⟩,⟨⟨h.ir,h.lgp⟩,⟨⟨λi hi=>h.cn _ ⟨i,hi,rfl⟩,λi hi=>h.wa _ ⟨i,hi,rfl⟩⟩,λi hi=>h.ma _ ⟨i,hi,rfl⟩⟩,h.chp⟩,⟨λk hk=>?_,h.cht⟩,h.lgt⟩
  obtain⟨a1,a2,a3,a4⟩:=h.ks k hk
  exact⟨⟨⟨a1,a2⟩,a3⟩,λj hj hs=>⟨hth j (a4 j hj hs),a4 j hj hs⟩⟩
end Go.Gx.Sr
namespace Go.Gx.Sr
open Go.RowKit Go.Proofs Go.Proofs.YtncccnmmjfapnaaGreat Go.Gx.Ix
theorem srtB_pw {l:List ChG}:srtB l=true↔l.Pairwise λx y=>x.t≤y.t:=by
 rw[srtB_iff,List.pairwise_iff_getElem]
 constructor
 ·intro h i j hi hj hij
  induction j with
  | zero=>omega
  | succ j ih=>
    have h1:=h j hj
    rcases Nat.lt_or_ge i j with hl | hl
    ·have:=ih (by omega) hl;omega
    ·obtain rfl:i=j:=by omega
     exact h1
 ·intro h i h2
  exact h i (i+1) (by omega) h2 (by omega)
theorem chOK_iff {l:List ChG}:chOK l=true↔l.length≤60∧(∀c∈l,c.ok=true)∧l.Pairwise λx y=>x.t≤y.t:=by
 unfold chOK
 rw[Bool.and_eq_true,Bool.and_eq_true,srtB_pw,decide_eq_true_eq,List.all_eq_true,and_assoc]
theorem seal_z (k:KsG) (key:W64) (z:W64):({k with z:=z}:KsG).seal key=k.seal key:=rfl
variable {x:SvG}
end Go.Gx.Sr
namespace Go.Gx.Rg
open Go.RowKit Go.Proofs Go.Proofs.YtncccnmmjfapnaaGreat
def RG.By (g:RG):Prop:=∀i,i<g.nr→(g.r i).byte
theorem OK_of {g:RG} (hb:g.By) (h:g.great=false):g.OK:=by
 simp[RG.great] at h
 exact⟨by omega,by omega,by omega,by omega,hb⟩
end Go.Gx.Rg
namespace Go.Gx.Rg
open Go.RowKit Go.WideShapes Go.ChangeShapes Go.Proofs Go.Proofs.YtncccnmmjfapnaaGreat
abbrev csI:CS:=.sc (.int .i64)
abbrev csRule:List CS:=[csI,csI,csI,csI,csI,csI,csI,.sc (.int .u8)]
abbrev csI3:List CS:=[csI,csI,csI]
abbrev csI4:List CS:=[csI,csI,csI,csI]
abbrev csI5:List CS:=[csI,csI,csI,csI,csI]
abbrev slOf (l:List CS):CS:=.sl l.length λj=>l.getD j (.sc .bool)
section
variable {W:World}
abbrev ZW (W:World):Nat→Prop:=λb=>b<W.heap.size
theorem one_vi {k:IntKind} {v:Value} (h:CSok W (.sc (.int k)) v):v.oneCell'=true:=by rw[ok_int h];rfl
theorem rel_vi {Z:Nat→Prop} {v:Value} (h:CSok W csI v):(RV.i (vi v)).rel Z W v:=ok_int h
theorem rel_vu {Z:Nat→Prop} {k:IntKind} {v:Value} (h:CSok W (.sc (.int k)) v):(RV.v (.int k (vi v))).rel Z W v:=ok_int h
def rowR (f:Nat→Value):RuleG:=⟨vi (f 0),vi (f 1),vi (f 2),vi (f 3),vi (f 4),vi (f 5),vi (f 6),vi (f 7)⟩
def rowC (f:Nat→Value):ConG:=⟨vi (f 0),vi (f 1),vi (f 2)⟩
def rowW (f:Nat→Value):WarG:=⟨vi (f 0),vi (f 1),vi (f 2),vi (f 3)⟩
def rowM (f:Nat→Value):MarkG:=⟨vi (f 0),vi (f 1),vi (f 2),vi (f 3),vi (f 4)⟩
theorem rule_rows {v:Value} (h:CSok W (slOf csRule) v):∃(n:Nat) (r:Nat→RuleG),(∀i,i<n→(r i).byte)∧∀σ,(RuleG.rs n r).rel σ (ZW W) W v:=by
 obtain⟨n,cv,_,h1,h2⟩:=rows_of h
 refine⟨n,λi=>rowR (cv i),λi hi=>ok_u8 (h1 i 7 hi (by decide)),λσ=>h2 _ (λi j hi hj=>?_) σ⟩
 have hc:=h1 i j hi hj
 match j,hj,hc with
 | 0,_,hc=>exact⟨one_vi hc,rel_vi hc⟩
 | 1,_,hc=>exact⟨one_vi hc,rel_vi hc⟩
 | 2,_,hc=>exact⟨one_vi hc,rel_vi hc⟩
 | 3,_,hc=>exact⟨one_vi hc,rel_vi hc⟩
 | 4,_,hc=>exact⟨one_vi hc,rel_vi hc⟩
 | 5,_,hc=>exact⟨one_vi hc,rel_vi hc⟩
 | 6,_,hc=>exact⟨one_vi hc,rel_vi hc⟩
 | 7,_,hc=>exact⟨one_vi hc,rel_vu hc⟩
 | j+8,hj,_=>exact absurd hj (by simp)
theorem con_rows {v:Value} (h:CSok W (slOf csI3) v):∃(n:Nat) (r:Nat→ConG),∀σ,(ConG.rs n r).rel σ (ZW W) W v:=by
 obtain⟨n,cv,_,h1,h2⟩:=rows_of h
 refine⟨n,λi=>rowC (cv i),λσ=>h2 _ (λi j hi hj=>?_) σ⟩
 have hc:=h1 i j hi hj
 match j,hj,hc with
 | 0,_,hc=>exact⟨one_vi hc,rel_vi hc⟩
 | 1,_,hc=>exact⟨one_vi hc,rel_vi hc⟩
 | 2,_,hc=>exact⟨one_vi hc,rel_vi hc⟩
 | j+3,hj,_=>exact absurd hj (by simp)
theorem war_rows {v:Value} (h:CSok W (slOf csI4) v):∃(n:Nat) (r:Nat→WarG),∀σ,(WarG.rs n r).rel σ (ZW W) W v:=by
 obtain⟨n,cv,_,h1,h2⟩:=rows_of h
 refine⟨n,λi=>rowW (cv i),λσ=>h2 _ (λi j hi hj=>?_) σ⟩
 have hc:=h1 i j hi hj
 match j,hj,hc with
 | 0,_,hc=>exact⟨one_vi hc,rel_vi hc⟩
 | 1,_,hc=>exact⟨one_vi hc,rel_vi hc⟩
 | 2,_,hc=>exact⟨one_vi hc,rel_vi hc⟩
 | 3,_,hc=>exact⟨one_vi hc,rel_vi hc⟩
 | j+4,hj,_=>exact absurd hj (by simp)
theorem mark_rows {v:Value} (h:CSok W (slOf csI5) v):∃(n:Nat) (r:Nat→MarkG),∀σ,(MarkG.rs n r).rel σ (ZW W) W v:=by
 obtain⟨n,cv,_,h1,h2⟩:=rows_of h
 refine⟨n,λi=>rowM (cv i),λσ=>h2 _ (λi j hi hj=>?_) σ⟩
 have hc:=h1 i j hi hj
 match j,hj,hc with
 | 0,_,hc=>exact⟨one_vi hc,rel_vi hc⟩
 | 1,_,hc=>exact⟨one_vi hc,rel_vi hc⟩
 | 2,_,hc=>exact⟨one_vi hc,rel_vi hc⟩
 | 3,_,hc=>exact⟨one_vi hc,rel_vi hc⟩
 | 4,_,hc=>exact⟨one_vi hc,rel_vi hc⟩
 | j+5,hj,_=>exact absurd hj (by simp)
theorem int_rows {v:Value} (h:CSok W (slOf [csI]) v):∃(n:Nat) (r:Nat→Int),∀σ,(SV.r (.rs 1 n λi _=>.i (r i))).rel σ (ZW W) W v:=by
 obtain⟨n,cv,_,h1,h2⟩:=rows_of h
 refine⟨n,λi=>vi (cv i 0),λσ=>h2 _ (λi j hi hj=>?_) σ⟩
 have hj0:j=0:=by simp at hj;omega
 subst hj0
 have hc:=h1 i 0 hi hj
 exact⟨one_vi hc,rel_vi hc⟩
end
end Go.Gx.Rg
namespace Go.Gx.Sr
open Go.RowKit Go.WideShapes Go.ChangeShapes Go.Proofs Go.Proofs.YtncccnmmjfapnaaGreat
abbrev csW:CS:=.sc (.int .u64)
abbrev csY:CS:=.sc (.int .u8)
abbrev csO:List CS:=[csY,csI,csI,csI,csB,csW,csW,csW,csI,csI,csI,csI,csI,csI,csI,csY,csI,csI,csI,csI,csI,csI,csI,csI,csI,csI,csI,csI,csI,csI,csI,csI,csI,slOf [csI]]
abbrev csSet:List CS:=[csI,csI,csI,csI,csW]
abbrev csS:List CS:=[csI,csI,csI,csI,csW,csI,slOf [csI,csB],slOf [csI,csI,csB],slOf [csI,csI,slOf [csI,csB]],slOf [csW,csW],slOf Rg.csRule,slOf Rg.csI3,slOf Rg.csI4,slOf Rg.csI5,slOf [csI,csI,csB],slOf [csI,csI,csW,csW],slOf [csI,csI,csI,csW,csW,csW,csW]]
theorem flatO:flatT Tryz.prog 8 66=some csO:=by kernel_rfl
theorem flatSet:flatT Tryz.prog 8 26=some csSet:=by kernel_rfl
theorem flatS:flatT Tryz.prog 8 43=some csS:=by kernel_rfl
section
variable {W:World}
theorem rel_w {Z:Nat→Prop} {v:Value} (h:CSok W csW v):(RV.w (Ix.v64 v)).rel Z W v:=Ix.rel_v64 h
theorem list_rows {α:Type} {k:Nat} {fs:Nat→CS} {v:Value} (h:CSok W (.sl k fs) v) (f:α→Nat→RV) (mk:(Nat→Value)→α) (φ:α→Prop)
 (hf:∀cv:Nat→Value,(∀j,j<k→CSok W (fs j) (cv j))→φ (mk cv)∧∀j,j<k→(cv j).oneCell'=true∧(f (mk cv) j).rel (ZW W) W (cv j)) :
 ∃l:List α,(∀a∈l,φ a)∧∀σ,(SV.r (.rs k l.length (rowOf f l))).rel σ (ZW W) W v:=by
 obtain⟨n,cv,_,h1,h2⟩:=rows_of h
 have hl:((List.range n).map λi=>mk (cv i)).length=n:=by simp
 refine⟨(List.range n).map λi=>mk (cv i),λa ha=>?_,λσ=>?_⟩
 ·obtain⟨i,hi,rfl⟩:=List.mem_map.1 ha
  exact(hf (cv i) λj hj=>h1 i j (List.mem_range.1 hi) hj).1
 have:=h2 (rowOf f ((List.range n).map λi=>mk (cv i))) (λi j hi hj=>?_) σ
 ·rw[hl];exact this
 rw[rowOf_get (by rw[hl];exact hi),List.getElem_map,List.getElem_range]
 exact(hf (cv i) λj hj=>h1 i j hi hj).2 j hj
theorem iris_rows {v:Value} (h:CSok W (slOf [csW,csW]) v):∃l:List Ix.IrG,∀σ,(irs l).rel σ (ZW W) W v:=by
 obtain⟨l,_,hl⟩:=list_rows h Ix.IrG.f (λcv=>⟨Ix.v64 (cv 0),Ix.v64 (cv 1)⟩) (λ_=>True) (by
  intro cv hc
  refine⟨trivial,λj hj=>?_⟩
  match j,hj,hc j hj with
  | 0,_,hc=>exact⟨one_vi hc,rel_w hc⟩
  | 1,_,hc=>exact⟨one_vi hc,rel_w hc⟩
  | j+2,hj,_=>exact absurd hj (by simp))
 exact⟨l,hl⟩
theorem ch_rows {v:Value} (h:CSok W (slOf [csI,csI,csB]) v):∃l:List ChG,∀σ,(chs l).rel σ (ZW W) W v:=by
 obtain⟨l,_,hl⟩:=list_rows h ChG.f (λcv=>⟨vi (cv 0),vi (cv 1),vb (cv 2)⟩) (λ_=>True) (by
  intro cv hc
  refine⟨trivial,λj hj=>?_⟩
  match j,hj,hc j hj with
  | 0,_,hc=>exact⟨one_vi hc,rel_vi hc⟩
  | 1,_,hc=>exact⟨one_vi hc,rel_vi hc⟩
  | 2,_,hc=>exact⟨one_vb hc,rel_vb hc⟩
  | j+3,hj,_=>exact absurd hj (by simp))
 exact⟨l,hl⟩
theorem ks_rows {v:Value} (h:CSok W (slOf [csI,csI,csW,csW]) v):∃l:List KsG,∀σ,(kss l).rel σ (ZW W) W v:=by
 obtain⟨l,_,hl⟩:=list_rows h KsG.f (λcv=>⟨vi (cv 0),vi (cv 1),Ix.v64 (cv 2),Ix.v64 (cv 3)⟩) (λ_=>True) (by
  intro cv hc
  refine⟨trivial,λj hj=>?_⟩
  match j,hj,hc j hj with
  | 0,_,hc=>exact⟨one_vi hc,rel_vi hc⟩
  | 1,_,hc=>exact⟨one_vi hc,rel_vi hc⟩
  | 2,_,hc=>exact⟨one_vi hc,rel_w hc⟩
  | 3,_,hc=>exact⟨one_vi hc,rel_w hc⟩
  | j+4,hj,_=>exact absurd hj (by simp))
 exact⟨l,hl⟩
theorem lg_rows {v:Value} (h:CSok W (slOf [csI,csI,csI,csW,csW,csW,csW]) v):∃l:List EnG,∀σ,(lgs l).rel σ (ZW W) W v:=by
 obtain⟨l,_,hl⟩:=list_rows h EnG.f (λcv=>⟨vi (cv 0),vi (cv 1),vi (cv 2),Ix.v64 (cv 3),Ix.v64 (cv 4),Ix.v64 (cv 5),Ix.v64 (cv 6)⟩) (λ_=>True) (by
  intro cv hc
  refine⟨trivial,λj hj=>?_⟩
  match j,hj,hc j hj with
  | 0,_,hc=>exact⟨one_vi hc,rel_vi hc⟩
  | 1,_,hc=>exact⟨one_vi hc,rel_vi hc⟩
  | 2,_,hc=>exact⟨one_vi hc,rel_vi hc⟩
  | 3,_,hc=>exact⟨one_vi hc,rel_w hc⟩
  | 4,_,hc=>exact⟨one_vi hc,rel_w hc⟩
  | 5,_,hc=>exact⟨one_vi hc,rel_w hc⟩
  | 6,_,hc=>exact⟨one_vi hc,rel_w hc⟩
  | j+7,hj,_=>exact absurd hj (by simp))
 exact⟨l,hl⟩
section
variable {H:Type} {enc:TypeId × Value→H} {base:Nat} {spare:Nat→Bool} {held:Bool}
theorem service_arg {v:Value} {d:DataW H} {p:List MemPlace} {r:Reach} {b0:Nat} (hv:Value.okWide Tryz.prog W r b0 43 v) (h:DataW.Trod enc Tryz.prog W base spare held 43 v d p) :
 ∃x:SvG,x.r.By∧∀σ,x.sv.rel σ (ZW W) W v:=by
 obtain⟨cs,rfl,_⟩:=okWide_struct Tryz.underlying43 hv
 have hc:=open_flat flatS h
 obtain⟨cs⟩:=cs
 simp only [Value.cells] at hc
 obtain⟨v0,_,e,h0,v1,_,rfl,h1,v2,_,rfl,h2,v3,_,rfl,h3,v4,_,rfl,h4,v5,_,rfl,h5,v6,_,rfl,h6,v7,_,rfl,h7,v8,_,rfl,h8,v9,_,rfl,h9,v10,_,rfl,h10,v11,_,rfl,h11,v12,_,rfl,h12,v13,_,rfl,h13,v14,_,rfl,h14,v15,_,rfl,h15,v16,_,rfl,h16,rfl⟩:=hc
 cases e
 obtain⟨nr,r,hr⟩:=rec_rows h6
 obtain⟨nl,l,hl⟩:=link_rows h7
 obtain⟨nc,c,hc⟩:=case_rows h8
 obtain⟨ir,hir⟩:=iris_rows h9
 obtain⟨mr,rr,hb,hrr⟩:=Rg.rule_rows h10
 obtain⟨mc,rc,hrc⟩:=Rg.con_rows h11
 obtain⟨mw,rw',hrw⟩:=Rg.war_rows h12
 obtain⟨mm,rm,hrm⟩:=Rg.mark_rows h13
 obtain⟨ch,hch⟩:=ch_rows h14
 obtain⟨ks,hks⟩:=ks_rows h15
 obtain⟨lg,hlg⟩:=lg_rows h16
 refine⟨⟨vi v0,vi v1,vi v2,vi v3,Ix.v64 v4,vi v5,⟨nr,r,nl,l,nc,c⟩,ir,⟨mr,rr,mc,rc,mw,rw',mm,rm⟩,ch,ks,lg⟩,hb,λσ=>⟨[v0,v1,v2,v3,v4,v5,v6,v7,v8,v9,v10,v11,v12,v13,v14,v15,v16],rfl,λv hv=>?_,v0,_,rfl,ok_int h0,v1,_,rfl,ok_int h1,v2,_,rfl,ok_int h2,v3,_,rfl,ok_int h3,v4,_,rfl,rel_w (Z:=ZW W) h4,v5,_,rfl,ok_int h5,v6,_,rfl,hr σ,v7,_,rfl,hl σ,v8,_,rfl,hc σ,v9,_,rfl,hir σ,v10,_,rfl,hrr σ,v11,_,rfl,hrc σ,v12,_,rfl,hrw σ,v13,_,rfl,hrm σ,v14,_,rfl,hch σ,v15,_,rfl,hks σ,v16,_,rfl,hlg σ,rfl⟩⟩
 simp at hv
 rcases hv with rfl | rfl | rfl | rfl | rfl | rfl | rfl | rfl | rfl | rfl | rfl | rfl | rfl | rfl | rfl | rfl | rfl
 ·exact one_vi h0
 ·exact one_vi h1
 ·exact one_vi h2
 ·exact one_vi h3
 ·exact one_vi h4
 ·exact one_vi h5
 ·exact sl_one h6
 ·exact sl_one h7
 ·exact sl_one h8
 ·exact sl_one h9
 ·exact sl_one h10
 ·exact sl_one h11
 ·exact sl_one h12
 ·exact sl_one h13
 ·exact sl_one h14
 ·exact sl_one h15
 ·exact sl_one h16
theorem order_arg {v:Value} {d:DataW H} {p:List MemPlace} {r:Reach} {b0:Nat} (hv:Value.okWide Tryz.prog W r b0 66 v) (h:DataW.Trod enc Tryz.prog W base spare held 66 v d p) :
 ∃o:OrG,(o.rl.byte∧0≤o.k∧o.k<256)∧∀σ,o.sv.rel σ (ZW W) W v:=by
 obtain⟨cs,rfl,_⟩:=okWide_struct Tryz.underlying66 hv
 have hc:=open_flat flatO h
 obtain⟨cs⟩:=cs
 simp only [Value.cells] at hc
 obtain⟨v0,_,e,h0,v1,_,rfl,h1,v2,_,rfl,h2,v3,_,rfl,h3,v4,_,rfl,h4,v5,_,rfl,h5,v6,_,rfl,h6,v7,_,rfl,h7,v8,_,rfl,h8,v9,_,rfl,h9,v10,_,rfl,h10,v11,_,rfl,h11,v12,_,rfl,h12,v13,_,rfl,h13,v14,_,rfl,h14,v15,_,rfl,h15,v16,_,rfl,h16,v17,_,rfl,h17,v18,_,rfl,h18,v19,_,rfl,h19,v20,_,rfl,h20,v21,_,rfl,h21,v22,_,rfl,h22,v23,_,rfl,h23,v24,_,rfl,h24,v25,_,rfl,h25,v26,_,rfl,h26,v27,_,rfl,h27,v28,_,rfl,h28,v29,_,rfl,h29,v30,_,rfl,h30,v31,_,rfl,h31,v32,_,rfl,h32,v33,_,rfl,h33,rfl⟩:=hc
 cases e
 obtain⟨n,k,hk⟩:=Rg.int_rows h33
 refine⟨⟨vi v0,vi v1,vi v2,vi v3,vb v4,⟨Ix.v64 v5,Ix.v64 v6⟩,Ix.v64 v7,⟨vi v8,vi v9,vi v10,vi v11,vi v12,vi v13,vi v14,vi v15⟩,⟨vi v16,vi v17,vi v18,vi v19⟩,⟨vi v20,vi v21,vi v22⟩,⟨vi v23,vi v24,vi v25,vi v26,vi v27⟩,⟨vi v28,vi v29,vi v30,vi v31,vi v32,n,k⟩⟩,⟨ok_u8 h15,ok_u8 h0⟩,λσ=>⟨[v0,v1,v2,v3,v4,v5,v6,v7,v8,v9,v10,v11,v12,v13,v14,v15,v16,v17,v18,v19,v20,v21,v22,v23,v24,v25,v26,v27,v28,v29,v30,v31,v32,v33],rfl,λv hv=>?_,v0,_,rfl,ok_int h0,v1,_,rfl,ok_int h1,v2,_,rfl,ok_int h2,v3,_,rfl,ok_int h3,v4,_,rfl,rel_vb (Z:=ZW W) h4,v5,_,rfl,rel_w (Z:=ZW W) h5,v6,_,rfl,rel_w (Z:=ZW W) h6,v7,_,rfl,rel_w (Z:=ZW W) h7,v8,_,rfl,ok_int h8,v9,_,rfl,ok_int h9,v10,_,rfl,ok_int h10,v11,_,rfl,ok_int h11,v12,_,rfl,ok_int h12,v13,_,rfl,ok_int h13,v14,_,rfl,ok_int h14,v15,_,rfl,ok_int h15,v16,_,rfl,ok_int h16,v17,_,rfl,ok_int h17,v18,_,rfl,ok_int h18,v19,_,rfl,ok_int h19,v20,_,rfl,ok_int h20,v21,_,rfl,ok_int h21,v22,_,rfl,ok_int h22,v23,_,rfl,ok_int h23,v24,_,rfl,ok_int h24,v25,_,rfl,ok_int h25,v26,_,rfl,ok_int h26,v27,_,rfl,ok_int h27,v28,_,rfl,ok_int h28,v29,_,rfl,ok_int h29,v30,_,rfl,ok_int h30,v31,_,rfl,ok_int h31,v32,_,rfl,ok_int h32,v33,_,rfl,hk σ,rfl⟩⟩
 simp at hv
 rcases hv with rfl | rfl | rfl | rfl | rfl | rfl | rfl | rfl | rfl | rfl | rfl | rfl | rfl | rfl | rfl | rfl | rfl | rfl | rfl | rfl | rfl | rfl | rfl | rfl | rfl | rfl | rfl | rfl | rfl | rfl | rfl | rfl | rfl | rfl
 ·exact one_vi h0
 ·exact one_vi h1
 ·exact one_vi h2
 ·exact one_vi h3
 ·exact one_vb h4
 ·exact one_vi h5
 ·exact one_vi h6
 ·exact one_vi h7
 ·exact one_vi h8
 ·exact one_vi h9
 ·exact one_vi h10
 ·exact one_vi h11
 ·exact one_vi h12
 ·exact one_vi h13
 ·exact one_vi h14
 ·exact one_vi h15
 ·exact one_vi h16
 ·exact one_vi h17
 ·exact one_vi h18
 ·exact one_vi h19
 ·exact one_vi h20
 ·exact one_vi h21
 ·exact one_vi h22
 ·exact one_vi h23
 ·exact one_vi h24
 ·exact one_vi h25
 ·exact one_vi h26
 ·exact one_vi h27
 ·exact one_vi h28
 ·exact one_vi h29
 ·exact one_vi h30
 ·exact one_vi h31
 ·exact one_vi h32
 ·exact sl_one h33
theorem setup_arg {v:Value} {d:DataW H} {p:List MemPlace} {r:Reach} {b0:Nat} (hv:Value.okWide Tryz.prog W r b0 26 v) (h:DataW.Trod enc Tryz.prog W base spare held 26 v d p) :
 ∃x:SvG,∀σ,x.ss.rel σ (ZW W) W v:=by
 obtain⟨cs,rfl,_⟩:=okWide_struct Tryz.underlying26 hv
 have hc:=open_flat flatSet h
 obtain⟨cs⟩:=cs
 simp only [Value.cells] at hc
 obtain⟨v0,_,e,h0,v1,_,rfl,h1,v2,_,rfl,h2,v3,_,rfl,h3,v4,_,rfl,h4,rfl⟩:=hc
 cases e
 refine⟨{SvG.zero with num:=vi v0,den:=vi v1,turns:=vi v2,mage:=vi v3,key:=Ix.v64 v4},λσ=>⟨[v0,v1,v2,v3,v4],rfl,λv hv=>?_,v0,_,rfl,ok_int h0,v1,_,rfl,ok_int h1,v2,_,rfl,ok_int h2,v3,_,rfl,ok_int h3,v4,_,rfl,rel_w (Z:=ZW W) h4,rfl⟩⟩
 simp at hv
 rcases hv with rfl | rfl | rfl | rfl | rfl
 ·exact one_vi h0
 ·exact one_vi h1
 ·exact one_vi h2
 ·exact one_vi h3
 ·exact one_vi h4
end
end
end Go.Gx.Sr
namespace Go.Gx.Sr
open Go.RowKit Go.Proofs Go.Proofs.YtncccnmmjfapnaaGreat Go.Gx.Ix
def SvG.great (x:SvG):Bool:=x.g.great||x.r.great||decide (30<(x.ir.length:Int))||decide (100<(x.ch.length:Int))||decide (10<(x.ks.length:Int))||decide (100<(x.lg.length:Int))
theorem great17 (x:SvG):Pure Tryz.prog 17 [x.sv] (· =.b x.great):=by
 refine pure_of_GC T_ok Tryz.func17 rfl (by kernel_rfl) (nb rfl) rfl rfl ?_
 unfold SvG.great
 simp[go_sem]
 refine call_val (great12' x.g) rfl rfl ?_
 cases x.g.great
 rotate_left
 ·simp[go_sem]
 simp[go_sem]
 refine call_val (Rg.great16 x.r) rfl rfl ?_
 cases x.r.great
 rotate_left
 ·simp[go_sem]
 by_cases h1:30<(x.ir.length:Int)
 ·simp[go_sem,h1]
 by_cases h2:100<(x.ch.length:Int)
 ·simp[go_sem,h1,h2]
 by_cases h3:10<(x.ks.length:Int)
 ·simp[go_sem,h1,h2,h3]
 simp[go_sem,h1,h2,h3]
theorem SvG.OK_of {x:SvG} (hb:x.r.By) (h:x.great=false):x.OK∧x.ir.length≤30∧x.ch.length≤100∧x.ks.length≤10∧x.lg.length≤100:=by
 unfold SvG.great at h
 simp only [Bool.or_eq_false_iff,decide_eq_false_iff_not] at h
 obtain⟨⟨⟨⟨⟨h1,h2⟩,h3⟩,h4⟩,h5⟩,h6⟩:=h
 obtain⟨g1,g2,g3,g4,g5⟩:=EG.OK_of h1
 have r1:=Rg.OK_of hb h2
 have r2:x.r.nr<1000000∧x.r.nc<1000000∧x.r.nw<1000000∧x.r.nm<1000000:=by
  simp[Rg.RG.great] at h2
  omega
 exact⟨⟨⟨by omega,by omega,by omega,λi hi=>by have:=g5 i hi;omega⟩,r1,r2.1,r2.2.1,r2.2.2.1,r2.2.2.2,by omega,by omega,by omega,by omega⟩,by omega,by omega,by omega,by omega⟩
def OrG.great (o:OrG):Bool:=decide (20<(o.q.nk:Int))
theorem great24 (o:OrG):Pure Tryz.prog 24 [o.sv] (· =.b o.great):=by
 refine pure_of_GC T_ok Tryz.func24 rfl (by kernel_rfl) (nb rfl) rfl rfl ?_
 unfold OrG.great
 simp[go_sem]
theorem within159 (n lo hi:Int):Pure Tryz.prog 159 [.i n,.i lo,.i hi] (· =.b (Ix.btw lo hi n)):=by
 refine pure_of_GC T_ok Tryz.func159 rfl (by kernel_rfl) (nb rfl) rfl rfl ?_
 by_cases h:lo≤n <;> simp[go_sem,Ix.btw,h]
theorem within362 (n lo hi:Int):Pure Tryz.prog 362 [.i n,.i lo,.i hi] (· =.b (Ix.btw lo hi n)):=by
 refine pure_of_GC T_ok Tryz.func362 rfl (by kernel_rfl) (nb rfl) rfl rfl ?_
 by_cases h:lo≤n <;> simp[go_sem,Ix.btw,h]
theorem within363 (n lo hi:Int):Pure Tryz.prog 363 [.i n,.i lo,.i hi] (· =.b (Ix.btw lo hi n)):=by
 refine pure_of_GC T_ok Tryz.func363 rfl (by kernel_rfl) (nb rfl) rfl rfl ?_
 by_cases h:lo≤n <;> simp[go_sem,Ix.btw,h]
theorem when285 (n:Int):Pure Tryz.prog 285 [.i n] (· =.b (tmB n)):=by
 refine pure_of_GC T_ok Tryz.func285 rfl (by kernel_rfl) (nb rfl) rfl rfl ?_
 simp[go_sem]
 refine call_val (within362 n 0 maxT) rfl rfl ?_
 simp[go_sem,tmB]
theorem person286 (n:Int):Pure Tryz.prog 286 [.i n] (· =.b (psB n)):=by
 refine pure_of_GC T_ok Tryz.func286 rfl (by kernel_rfl) (nb rfl) rfl rfl ?_
 simp[go_sem]
 refine call_val (within362 n 0 63) rfl rfl ?_
 simp[go_sem,psB]
theorem mix364 (a b:W64):Pure Tryz.prog 364 [.w a,.w b] (· =.w (mix a b)):=by
 refine pure_of_GC T_ok Tryz.func364 rfl (by kernel_rfl) (nb rfl) rfl rfl ?_
 simp[go_sem]
 simp only [mix]
theorem linked288 (b:W64) (x:EnG):Pure Tryz.prog 288 [.w b,x.sv] (· =.w (x.lnk b)):=by
 refine pure_of_GC T_ok Tryz.func288 rfl (by kernel_rfl) (nb rfl) rfl rfl ?_
 simp[go_sem]
 simp only [wrap_I]
 refine call_val (mix364 b (u64 x.t)) rfl rfl ?_
 simp[go_sem]
 simp only [wrap_I]
 refine call_val (mix364 _ (u64 x.k)) rfl rfl ?_
 simp[go_sem]
 refine call_val (mix364 _ x.s) rfl rfl ?_
 simp[go_sem,EnG.lnk]
theorem or0 (d a:W64):or64 d a=0#64↔d.toNat=0∧a.toNat=0:=by
 unfold or64
 rw[BitVec.or_eq_zero_iff]
 have h:∀x:W64,x=0#64↔x.toNat=0:=λx=>by rw[← BitVec.toNat_inj];rfl
 rw[h,h]
theorem xor0 (s d a:W64):xor64 (xor64 s d) a=0#64↔s=xor64 d a:=by
 unfold xor64
 rw[BitVec.xor_assoc]
 exact BitVec.xor_eq_zero_iff
theorem fields287 (x:EnG):Pure Tryz.prog 287 [x.sv] (· =.b x.fit):=by
 obtain⟨c,hc⟩:∃c,x.fit=c:=⟨_,rfl⟩
 rw[hc]
 unfold EnG.fit EnG.rng at hc
 refine pure_of_GC T_ok Tryz.func287 rfl (by kernel_rfl) (nb rfl) rfl rfl ?_
 simp[go_sem]
 refine call_val (within363 x.t 0 maxT) rfl rfl ?_
 cases h1:Ix.btw 0 maxT x.t
 ·rw[h1] at hc
  simp[go_sem,← hc]
 simp[go_sem]
 refine call_val (within363 x.k 0 7) rfl rfl ?_
 cases h2:Ix.btw 0 7 x.k
 ·rw[h1,h2] at hc
  simp[go_sem,← hc]
 simp[go_sem]
 refine call_val (within363 x.p (-1) 63) rfl rfl ?_
 cases h3:Ix.btw (-1) 63 x.p
 ·rw[h1,h2,h3] at hc
  simp[go_sem,← hc]
 rw[h1,h2,h3] at hc
 have h4:-1≤x.p∧x.p≤63:=by simpa [Ix.btw] using h3
 by_cases hp:x.p=-1
 ·rw[if_pos (by omega)] at hc
  simp[go_sem,hp]
  simp only [Bool.true_and,or0] at hc
  subst hc
  split
  ·rename_i h
   simp[h]
  ·rename_i h
   simp[h]
 ·rw[if_neg (by omega)] at hc
  simp[go_sem,hp]
  simp only [Bool.true_and,xor0] at hc
  subst hc
  rw[decide_eq_decide,Int.ofNat_inj,BitVec.toNat_inj]
theorem seal296 (k:KsG) (key:W64):Pure Tryz.prog 296 [k.sv,.w key] (· =.w (k.seal key)):=by
 refine pure_of_GC T_ok Tryz.func296 rfl (by kernel_rfl) (nb rfl) rfl rfl ?_
 simp[go_sem]
 refine GDraw_all T_ok (by kernel_rfl) (by kernel_rfl) ?_
 simp[go_sem]
 try simp only [wrap_I]
 refine⟨_,dcall_val (mix364 key (u64 k.a)) rfl rfl,?_⟩
 simp[go_sem]
 refine⟨_,dcall_val (mix364 _ k.s) rfl rfl,?_⟩
 simp[go_sem]
 try simp only [wrap_I]
 refine⟨_,dcall_val (mix364 _ (u64 k.m)) rfl rfl,?_⟩
 simp[go_sem]
 rfl
theorem sealed289 (k:KsG) (key:W64):Pure Tryz.prog 289 [k.sv,.w key] (· =.b (k.ok key)):=by
 obtain⟨c,hc⟩:∃c,k.ok key=c:=⟨_,rfl⟩
 rw[hc]
 unfold KsG.ok at hc
 refine pure_of_GC T_ok Tryz.func289 rfl (by kernel_rfl) (nb rfl) rfl rfl ?_
 simp[go_sem]
 refine GDraw_all T_ok (by kernel_rfl) (by kernel_rfl) ?_
 simp[go_sem]
 refine⟨_,dcall_val (when285 k.a) rfl rfl,?_⟩
 obtain⟨a,ha⟩:∃a,tmB k.a=a:=⟨_,rfl⟩
 rw[ha] at hc ⊢
 cases a
 ·simp at hc
  subst hc
  simp[go_sem]
 simp[go_sem]
 refine⟨_,dcall_val (when285 k.m) rfl rfl,?_⟩
 obtain⟨b,hb⟩:∃b,tmB k.m=b:=⟨_,rfl⟩
 rw[hb] at hc ⊢
 cases b
 ·simp at hc
  subst hc
  simp[go_sem]
 simp at hc
 subst hc
 simp[go_sem]
 refine⟨_,dcall_val (seal296 k key) rfl rfl,?_⟩
 simp[go_sem]
 rw[Int.ofNat_inj,BitVec.toNat_inj]
theorem there202 (x:SvG) (h:x.g.OK) (a:Int):Pure Tryz.prog 202 [x.sv,.i a] (· =.b (x.g.th a)):=by
 refine pure_of_GC T_ok Tryz.func202 rfl (by kernel_rfl) (nb rfl) rfl rfl ?_
 simp[go_sem]
 refine call_val (there50 x.g h a) rfl rfl ?_
 simp[go_sem]
theorem same78 (l l':List ChG) (hn:l.length≤1000000):Pure Tryz.prog 78 [chs l,chs l'] (· =.b (decide (l=l'))):=by
 refine pure_of_GC T_ok Tryz.func78 rfl (by kernel_rfl) (nb rfl) rfl rfl ?_
 simp[go_sem]
 by_cases h:l.length=l'.length
 rotate_left
 ·have h':¬l=l':=λe=>h (by rw[e])
  simp[go_sem,h,h']
  try omega
 simp[go_sem,h]
 have hn':l'.length≤1000000:=by omega
 refine GLoop_of T_ok (α:=Nat) (λk=>[(0,.r (.rs 3 l'.length (rowOf ChG.f l))),(1,chs l'),(5,.i k)]) (λ_=>[]) 0 (λk=>k≤l'.length∧∀j,j<k→∀(h1:j<l.length) (h2:j<l'.length),l[j]=l'[j]) (λk=>l'.length - k) 0 (λ_=>rfl) (by simp) (by simp[go_sem,h]) (by simp[go_sem]) ?_
 intro k J hi
 by_cases hlt:k<l'.length
 ·simp[go_sem,hlt]
  have hlt1:k<l.length:=by omega
  have r:=rowOf_get (f:=ChG.f) hlt1
  have q:=rowOf_get (f:=ChG.f) hlt
  refine GDraw_all T_ok (by kernel_rfl) (by kernel_rfl) ?_
  simp[go_sem,hlt,r,q]
  have hiff:=ChG.iff l[k] l'[k]
  by_cases he:l[k]=l'[k]
  ·simp[go_sem,he]
   refine⟨by omega,k+1,⟨by omega,λj hj h1 h2=>?_⟩,by omega,by omega⟩
   by_cases hjk:j=k
   ·subst hjk;exact he
   ·exact hi.2 j (by omega) h1 h2
  ·have he':=λq=>he (hiff.2 q)
   have hne:¬l=l':=λe=>he (by simp[e])
   simp[go_sem,hne]
   intro e0 e1 e2
   exact absurd ⟨by first | exact e0 | exact Int.ofNat_inj.1 e0 | omega,by first | exact e1 | exact Int.ofNat_inj.1 e1 | omega,by first | exact e2 | exact Int.ofNat_inj.1 e2 | omega⟩ he'
 ·simp[go_sem,hlt]
  exact eq_of_all h λj h1 h2=>hi.2 j (by omega) h1 h2
theorem same79 (l l':List EnG) (hn:l.length≤1000000):Pure Tryz.prog 79 [lgs l,lgs l'] (· =.b (decide (l=l'))):=by
 refine pure_of_GC T_ok Tryz.func79 rfl (by kernel_rfl) (nb rfl) rfl rfl ?_
 simp[go_sem]
 by_cases h:l.length=l'.length
 rotate_left
 ·have h':¬l=l':=λe=>h (by rw[e])
  simp[go_sem,h,h']
  try omega
 simp[go_sem,h]
 have hn':l'.length≤1000000:=by omega
 refine GLoop_of T_ok (α:=Nat) (λk=>[(0,.r (.rs 7 l'.length (rowOf EnG.f l))),(1,lgs l'),(5,.i k)]) (λ_=>[]) 0 (λk=>k≤l'.length∧∀j,j<k→∀(h1:j<l.length) (h2:j<l'.length),l[j]=l'[j]) (λk=>l'.length - k) 0 (λ_=>rfl) (by simp) (by simp[go_sem,h]) (by simp[go_sem]) ?_
 intro k J hi
 by_cases hlt:k<l'.length
 ·simp[go_sem,hlt]
  have hlt1:k<l.length:=by omega
  have r:=rowOf_get (f:=EnG.f) hlt1
  have q:=rowOf_get (f:=EnG.f) hlt
  refine GDraw_all T_ok (by kernel_rfl) (by kernel_rfl) ?_
  simp[go_sem,hlt,r,q]
  have hiff:=EnG.iff l[k] l'[k]
  by_cases he:l[k]=l'[k]
  ·simp[go_sem,he]
   refine⟨by omega,k+1,⟨by omega,λj hj h1 h2=>?_⟩,by omega,by omega⟩
   by_cases hjk:j=k
   ·subst hjk;exact he
   ·exact hi.2 j (by omega) h1 h2
  ·have he':=λq=>he (hiff.2 q)
   have hne:¬l=l':=λe=>he (by simp[e])
   simp[go_sem,hne]
   intro e0 e1 e2 e3 e4 e5 e6
   exact absurd ⟨by first | exact e0 | exact Int.ofNat_inj.1 e0 | omega,by first | exact e1 | exact Int.ofNat_inj.1 e1 | omega,by first | exact e2 | exact Int.ofNat_inj.1 e2 | omega,by first | exact e3 | exact Int.ofNat_inj.1 e3 | omega,by first | exact e4 | exact Int.ofNat_inj.1 e4 | omega,by first | exact e5 | exact Int.ofNat_inj.1 e5 | omega,by first | exact e6 | exact Int.ofNat_inj.1 e6 | omega⟩ he'
 ·simp[go_sem,hlt]
  exact eq_of_all h λj h1 h2=>hi.2 j (by omega) h1 h2
end Go.Gx.Sr
namespace Go.Gx.Rg
open Go.RowKit Go.Proofs Go.Proofs.YtncccnmmjfapnaaGreat
theorem validConsent101 (x:ConG):Pure Tryz.prog 281 [x.sv] (· =.b x.good):=by
 obtain⟨c,hc⟩:∃c,x.good=c:=⟨_,rfl⟩
 rw[hc]
 unfold ConG.good at hc
 simp only [kindB,persB,timeB] at hc
 refine pure_of_GC T_ok Tryz.func281 rfl (by kernel_rfl) (nb rfl) rfl rfl ?_
 simp[go_sem]
 refine call_val (person64 x.p) rfl rfl ?_
 obtain⟨b0,h0⟩:∃b,btw 0 63 x.p=b:=⟨_,rfl⟩
 rw[h0] at hc ⊢
 cases b0
 ·simp at hc
  subst hc
  simp[go_sem]
 simp[go_sem]
 refine call_val (kind98 x.q) rfl rfl ?_
 obtain⟨b1,h1⟩:∃b,btw 0 7 x.q=b:=⟨_,rfl⟩
 rw[h1] at hc ⊢
 cases b1
 ·simp at hc
  subst hc
  simp[go_sem]
 simp[go_sem]
 refine call_val (when59 x.u) rfl rfl ?_
 obtain⟨b2,h2⟩:∃b,btw 0 1099511627776 x.u=b:=⟨_,rfl⟩
 rw[h2] at hc ⊢
 cases b2
 ·simp at hc
  subst hc
  simp[go_sem]
 simp at hc
 subst hc
 simp[go_sem]
theorem validWarrant114 (x:WarG):Pure Tryz.prog 283 [x.sv] (· =.b x.good):=by
 obtain⟨c,hc⟩:∃c,x.good=c:=⟨_,rfl⟩
 rw[hc]
 unfold WarG.good at hc
 simp only [kindB,persB,timeB] at hc
 refine pure_of_GC T_ok Tryz.func283 rfl (by kernel_rfl) (nb rfl) rfl rfl ?_
 simp[go_sem]
 refine call_val (kind98 x.l) rfl rfl ?_
 obtain⟨b0,h0⟩:∃b,btw 0 7 x.l=b:=⟨_,rfl⟩
 rw[h0] at hc ⊢
 cases b0
 ·simp at hc
  subst hc
  simp[go_sem]
 simp[go_sem]
 refine call_val (person64 x.p) rfl rfl ?_
 obtain⟨b1,h1⟩:∃b,btw 0 63 x.p=b:=⟨_,rfl⟩
 rw[h1] at hc ⊢
 cases b1
 ·simp at hc
  subst hc
  simp[go_sem]
 simp[go_sem]
 refine call_val (when59 x.f) rfl rfl ?_
 obtain⟨b2,h2⟩:∃b,btw 0 1099511627776 x.f=b:=⟨_,rfl⟩
 rw[h2] at hc ⊢
 cases b2
 ·simp at hc
  subst hc
  simp[go_sem]
 simp[go_sem]
 refine call_val (when59 x.t) rfl rfl ?_
 obtain⟨b3,h3⟩:∃b,btw 0 1099511627776 x.t=b:=⟨_,rfl⟩
 rw[h3] at hc ⊢
 cases b3
 ·simp at hc
  subst hc
  simp[go_sem]
 by_cases l4:x.f<x.t
 rotate_left
 ·simp[l4] at hc
  subst hc
  simp[go_sem,l4]
 simp[go_sem,l4]
 simp[l4] at hc
 try exact hc
theorem validMark104 (x:MarkG):Pure Tryz.prog 284 [x.sv] (· =.b x.good):=by
 obtain⟨c,hc⟩:∃c,x.good=c:=⟨_,rfl⟩
 rw[hc]
 unfold MarkG.good at hc
 simp only [kindB,persB,timeB] at hc
 refine pure_of_GC T_ok Tryz.func284 rfl (by kernel_rfl) (nb rfl) rfl rfl ?_
 simp[go_sem]
 refine call_val (kind98 x.l) rfl rfl ?_
 obtain⟨b0,h0⟩:∃b,btw 0 7 x.l=b:=⟨_,rfl⟩
 rw[h0] at hc ⊢
 cases b0
 ·simp at hc
  subst hc
  simp[go_sem]
 simp[go_sem]
 refine call_val (person64 x.p) rfl rfl ?_
 obtain⟨b1,h1⟩:∃b,btw 0 63 x.p=b:=⟨_,rfl⟩
 rw[h1] at hc ⊢
 cases b1
 ·simp at hc
  subst hc
  simp[go_sem]
 simp[go_sem]
 refine call_val (when59 x.s) rfl rfl ?_
 obtain⟨b2,h2⟩:∃b,btw 0 1099511627776 x.s=b:=⟨_,rfl⟩
 rw[h2] at hc ⊢
 cases b2
 ·simp at hc
  subst hc
  simp[go_sem]
 simp[go_sem]
 refine call_val (when59 x.u) rfl rfl ?_
 obtain⟨b3,h3⟩:∃b,btw 0 1099511627776 x.u=b:=⟨_,rfl⟩
 rw[h3] at hc ⊢
 cases b3
 ·simp at hc
  subst hc
  simp[go_sem]
 by_cases l4:x.s<x.u
 rotate_left
 ·simp[l4] at hc
  subst hc
  simp[go_sem,l4]
 simp[go_sem,l4]
 refine call_val (within94 x.n 0 1000) rfl rfl ?_
 obtain⟨b5,h5⟩:∃b,btw 0 1000 x.n=b:=⟨_,rfl⟩
 rw[h5] at hc ⊢
 cases b5
 ·simp at hc
  subst hc
  simp[go_sem]
 simp[l4] at hc
 subst hc
 simp[go_sem]
theorem validRule113 (x:RuleG):Pure Tryz.prog 280 [x.sv] (· =.b x.good):=by
 obtain⟨c,hc⟩:∃c,x.good=c:=⟨_,rfl⟩
 rw[hc]
 unfold RuleG.good at hc
 simp only [kindB,persB,timeB] at hc
 refine pure_of_GC T_ok Tryz.func280 rfl (by kernel_rfl) (nb rfl) rfl rfl ?_
 simp[go_sem]
 refine call_val (kind98 x.p) rfl rfl ?_
 obtain⟨b0,h0⟩:∃b,btw 0 7 x.p=b:=⟨_,rfl⟩
 rw[h0] at hc ⊢
 cases b0
 ·simp at hc
  subst hc
  simp[go_sem]
 simp[go_sem]
 refine call_val (kind98 x.r) rfl rfl ?_
 obtain⟨b1,h1⟩:∃b,btw 0 7 x.r=b:=⟨_,rfl⟩
 rw[h1] at hc ⊢
 cases b1
 ·simp at hc
  subst hc
  simp[go_sem]
 simp[go_sem]
 refine call_val (kind98 x.l) rfl rfl ?_
 obtain⟨b2,h2⟩:∃b,btw 0 7 x.l=b:=⟨_,rfl⟩
 rw[h2] at hc ⊢
 cases b2
 ·simp at hc
  subst hc
  simp[go_sem]
 simp[go_sem]
 refine call_val (when59 x.f) rfl rfl ?_
 obtain⟨b3,h3⟩:∃b,btw 0 1099511627776 x.f=b:=⟨_,rfl⟩
 rw[h3] at hc ⊢
 cases b3
 ·simp at hc
  subst hc
  simp[go_sem]
 simp[go_sem]
 refine call_val (when59 x.t) rfl rfl ?_
 obtain⟨b4,h4⟩:∃b,btw 0 1099511627776 x.t=b:=⟨_,rfl⟩
 rw[h4] at hc ⊢
 cases b4
 ·simp at hc
  subst hc
  simp[go_sem]
 by_cases l5:x.f<x.t
 rotate_left
 ·simp[l5] at hc
  subst hc
  simp[go_sem,l5]
 simp[go_sem,l5]
 refine call_val (within94 x.k 1 2) rfl rfl ?_
 obtain⟨b6,h6⟩:∃b,btw 1 2 x.k=b:=⟨_,rfl⟩
 rw[h6] at hc ⊢
 cases b6
 ·simp at hc
  subst hc
  simp[go_sem]
 simp[go_sem]
 refine call_val (within94 x.s 1 3) rfl rfl ?_
 obtain⟨b7,h7⟩:∃b,btw 1 3 x.s=b:=⟨_,rfl⟩
 rw[h7] at hc ⊢
 cases b7
 ·simp at hc
  subst hc
  simp[go_sem]
 simp[l5] at hc
 subst hc
 simp[go_sem,btw]
 split <;> omega
theorem valid58 (g:RG) (h:g.OK):Pure Tryz.prog 176 [g.sv] (· =.b g.valid):=by
 refine pure_of_GC T_ok Tryz.func176 rfl (by kernel_rfl) (nb rfl) rfl rfl ?_
 have h1:=h.nr
 have h2:=h.nc
 have h3:=h.nw
 have h4:=h.nm
 simp[go_sem]
 split;rotate_left
 ·rename_i a;exact RG.no1 (by unfold RG.c1;rw[decide_eq_false a];rfl)
 rename_i a1
 split;rotate_left
 ·rename_i a;exact RG.no2 (by unfold RG.c2;rw[decide_eq_false a];rfl)
 rename_i a2
 split;rotate_left
 ·rename_i a;exact RG.no3 (by unfold RG.c3;rw[decide_eq_false a];rfl)
 rename_i a3
 split
 ·rename_i a;exact RG.no4 (by unfold RG.c4;rw[decide_eq_false (by omega)];rfl)
 rename_i a4
 refine GLoop_of T_ok (α:=Nat) (λk=>[(1,.ptr 0 0 4 0),(3,.i k)]) (λ_=>g.box) 1 (λk=>k≤g.nr∧∀j,j<k→(g.r j).good=true) (λk=>g.nr - k) 0 (λ_=>rfl) (by simp) (by simp[go_sem]) (by simp[go_sem]) ?_
 intro k J hi
 simp[go_sem]
 split
 ·rename_i hlt
  refine⟨hlt,?_⟩
  refine call_val (validRule113 (g.r k)) rfl rfl ?_
  simp[go_sem]
  split
  ·rename_i hg
   exact⟨by omega,k+1,⟨by omega,step_all hi.2 hg⟩,by omega,by simp⟩
  ·rename_i hg
   exact RG.n1 hlt hg
 rename_i hge
 have r1:∀j,j<g.nr→(g.r j).good=true:=λj hj=>hi.2 j (by omega)
 clear hi
 refine GLoop_of T_ok (α:=Nat) (λk=>[(1,.ptr 0 0 4 0),(4,.i k)]) (λ_=>g.box) 1 (λk=>k≤g.nc∧(∀j,j<k→(g.c j).good=true)∧∀j,j+1<k→(g.c j).lt (g.c (j+1))=true) (λk=>g.nc - k) 0 (λ_=>rfl) (by simp) (by simp[go_sem]) (by simp[go_sem]) ?_
 intro k J hi
 simp[go_sem]
 split
 ·rename_i hlt
  refine⟨hlt,?_⟩
  refine GDraw_all T_ok (by kernel_rfl) (by kernel_rfl) ?_
  by_cases hg:(g.c k).good=true
  ·have hv:=(validConsent101 (g.c k)).val (v':=.b true) (by rw[hg])
   rcases k with _ | k
   ·simp[go_sem]
    refine⟨_,dcall_val hv rfl rfl,?_⟩
    simp[go_sem]
    exact⟨1,⟨by omega,λj hj=>by rw[lt1 hj];exact hg,λj hj=>by omega⟩,by omega,rfl⟩
   ·simp[go_sem]
    refine⟨_,dcall_val hv rfl rfl,?_⟩
    simp[go_sem]
    refine⟨by omega,by omega,by omega,by omega,?_⟩
    by_cases hl:(g.c k).lt (g.c (k+1))=true
    ·refine⟨_,dcall_val ((before102 (g.c k).p (g.c k).q (g.c (k+1)).p (g.c (k+1)).q).val (v':=.b true) (by rw[← hl];rfl)) rfl rfl,?_⟩
     simp[go_sem]
     refine⟨by omega,k+2,⟨by omega,step_all hi.2.1 hg,λj hj=>?_⟩,by omega,by omega⟩
     by_cases hjk:j=k
     ·subst hjk;exact hl
     ·exact hi.2.2 j (by omega)
    ·refine⟨_,dcall_val ((before102 (g.c k).p (g.c k).q (g.c (k+1)).p (g.c (k+1)).q).val (v':=.b false) (by simp at hl;rw[← hl];rfl)) rfl rfl,?_⟩
     simp[go_sem]
     exact RG.n5 hlt hl
  ·have hv:=(validConsent101 (g.c k)).val (v':=.b false) (by simp at hg;rw[hg])
   simp[go_sem]
   refine⟨_,dcall_val hv rfl rfl,?_⟩
   simp[go_sem]
   exact RG.n2 hlt hg
 rename_i hge2
 have r2:∀j,j<g.nc→(g.c j).good=true:=λj hj=>hi.2.1 j (by omega)
 have r5:∀j,j+1<g.nc→(g.c j).lt (g.c (j+1))=true:=λj hj=>hi.2.2 j (by omega)
 clear hi
 refine GLoop_of T_ok (α:=Nat) (λk=>[(1,.ptr 0 0 4 0),(6,.i k)]) (λ_=>g.box) 1 (λk=>k≤g.nw∧∀j,j<k→(g.w j).good=true) (λk=>g.nw - k) 0 (λ_=>rfl) (by simp) (by simp[go_sem]) (by simp[go_sem]) ?_
 intro k J hi
 simp[go_sem]
 split
 ·rename_i hlt
  refine⟨hlt,?_⟩
  refine call_val (validWarrant114 (g.w k)) rfl rfl ?_
  simp[go_sem]
  split
  ·rename_i hg
   exact⟨by omega,k+1,⟨by omega,step_all hi.2 hg⟩,by omega,by simp⟩
  ·rename_i hg
   exact RG.n3 hlt hg
 rename_i hge3
 have r3:∀j,j<g.nw→(g.w j).good=true:=λj hj=>hi.2 j (by omega)
 clear hi
 refine GLoop_of T_ok (α:=Nat) (λk=>[(1,.ptr 0 0 4 0),(7,.i k)]) (λ_=>g.box) 1 (λk=>k≤g.nm∧(∀j,j<k→(g.m j).good=true)∧∀j,j+1<k→(g.m j).lt (g.m (j+1))=true) (λk=>g.nm - k) 0 (λ_=>rfl) (by simp) (by simp[go_sem]) (by simp[go_sem]) ?_
 intro k J hi
 simp[go_sem]
 split
 ·rename_i hlt
  refine⟨hlt,?_⟩
  refine GDraw_all T_ok (by kernel_rfl) (by kernel_rfl) ?_
  by_cases hg:(g.m k).good=true
  ·have hv:=(validMark104 (g.m k)).val (v':=.b true) (by rw[hg])
   rcases k with _ | k
   ·simp[go_sem]
    refine⟨_,dcall_val hv rfl rfl,?_⟩
    simp[go_sem]
    exact⟨1,⟨by omega,λj hj=>by rw[lt1 hj];exact hg,λj hj=>by omega⟩,by omega,rfl⟩
   ·simp[go_sem]
    refine⟨_,dcall_val hv rfl rfl,?_⟩
    simp[go_sem]
    refine⟨by omega,by omega,by omega,by omega,?_⟩
    by_cases hl:(g.m k).lt (g.m (k+1))=true
    ·refine⟨_,dcall_val ((before102 (g.m k).l (g.m k).p (g.m (k+1)).l (g.m (k+1)).p).val (v':=.b true) (by rw[← hl];rfl)) rfl rfl,?_⟩
     simp[go_sem]
     refine⟨by omega,k+2,⟨by omega,step_all hi.2.1 hg,λj hj=>?_⟩,by omega,by omega⟩
     by_cases hjk:j=k
     ·subst hjk;exact hl
     ·exact hi.2.2 j (by omega)
    ·refine⟨_,dcall_val ((before102 (g.m k).l (g.m k).p (g.m (k+1)).l (g.m (k+1)).p).val (v':=.b false) (by simp at hl;rw[← hl];rfl)) rfl rfl,?_⟩
     simp[go_sem]
     exact RG.n6 hlt hl
  ·have hv:=(validMark104 (g.m k)).val (v':=.b false) (by simp at hg;rw[hg])
   simp[go_sem]
   refine⟨_,dcall_val hv rfl rfl,?_⟩
   simp[go_sem]
   exact RG.n4 hlt hg
 rename_i hge4
 have r4:∀j,j<g.nm→(g.m j).good=true:=λj hj=>hi.2.1 j (by omega)
 have r6:∀j,j+1<g.nm→(g.m j).lt (g.m (j+1))=true:=λj hj=>hi.2.2 j (by omega)
 have e1:g.c1=true:=by unfold RG.c1;rw[decide_eq_true a1,all_yes r1];rfl
 have e2:g.c2=true:=by unfold RG.c2;rw[decide_eq_true a2,all_yes r2];rfl
 have e3:g.c3=true:=by unfold RG.c3;rw[decide_eq_true a3,all_yes r3];rfl
 have e4:g.c4=true:=by unfold RG.c4;rw[decide_eq_true (by omega),all_yes r4];rfl
 have e5:g.c5=true:=by unfold RG.c5;exact all_yes λj hj=>r5 j (by omega)
 have e6:g.c6=true:=by unfold RG.c6;exact all_yes λj hj=>r6 j (by omega)
 simp[RG.valid,e1,e2,e3,e4,e5,e6]
end Go.Gx.Rg
namespace Go.Gx.Sr
open Go.RowKit Go.Proofs Go.Proofs.YtncccnmmjfapnaaGreat Go.Gx.Ix
theorem chOK_no1 {l:List ChG} {k:Nat} (h:k<l.length) (hn:l[k].ok=false):chOK l=false:=by
 cases hc:chOK l
 ·rfl
 ·have:=(chOK_iff.1 hc).2.1 l[k] (List.getElem_mem h)
  rw[hn] at this;cases this
theorem chOK_no2 {l:List ChG} {k:Nat} (h:k+1<l.length) (hn:l[k+1].t<l[k].t):chOK l=false:=by
 cases hc:chOK l
 ·rfl
 ·have:=srtB_iff.1 (srtB_pw.2 (chOK_iff.1 hc).2.2) k h
  omega
theorem valid177 (l:List ChG) (hn:l.length<1000000):Pure Tryz.prog 177 [chs l] (· =.b (chOK l)):=by
 obtain⟨c,hc⟩:∃c,chOK l=c:=⟨_,rfl⟩
 rw[hc]
 refine pure_of_GC T_ok Tryz.func177 rfl (by kernel_rfl) (nb rfl) rfl rfl ?_
 simp[go_sem]
 by_cases h60:(60:Int)<l.length
 ·have:chOK l=false:=by
   cases h:chOK l
   ·rfl
   ·have:=(chOK_iff.1 h).1;omega
  rw[this] at hc;subst hc
  simp[go_sem,h60]
 simp[go_sem,h60]
 refine GLoop_of T_ok (α:=Nat) (λk=>[(0,chs l),(3,.i k)]) (λ_=>[]) 0 (λk=>k≤l.length∧(∀j (h:j<l.length),j<k→l[j].ok=true)∧∀j (h:j+1<l.length),j+1<k→l[j].t≤l[j+1].t) (λk=>l.length - k) 0 (λ_=>rfl) (by simp) (by simp[go_sem]) (by simp[go_sem]) ?_
 intro k J hi
 by_cases hlt:k<l.length
 rotate_left
 ·have:chOK l=true:=chOK_iff.2 ⟨by omega,λc hc=>by
   obtain⟨i,h,rfl⟩:=List.getElem_of_mem hc
   exact hi.2.1 i h (by omega),srtB_pw.1 (srtB_iff.2 λi h=>hi.2.2 i h (by omega))⟩
  rw[this] at hc;subst hc
  simp[go_sem,hlt]
 have q:=rowOf_get (f:=ChG.f) hlt
 simp[go_sem,hlt]
 refine GDraw_all T_ok (by kernel_rfl) (by kernel_rfl) ?_
 cases h1:tmB l[k].t
 ·have hv:=(when285 l[k].t).val (v':=.b false) (by rw[h1])
  have:chOK l=false:=chOK_no1 hlt (by unfold ChG.ok;rw[h1];rfl)
  rw[this] at hc;subst hc
  simp[go_sem,hlt,q]
  first | refine⟨_,dcall_val hv rfl rfl,?_⟩ | refine⟨by omega,_,dcall_val hv rfl rfl,?_⟩ | refine⟨⟨by omega,by omega⟩,_,dcall_val hv rfl rfl,?_⟩ | refine⟨⟨by omega,by omega⟩,by omega,_,dcall_val hv rfl rfl,?_⟩
  simp[go_sem,hlt,q]
 have hv:=(when285 l[k].t).val (v':=.b true) (by rw[h1])
 cases h2:psB l[k].p
 ·have hw:=(person286 l[k].p).val (v':=.b false) (by rw[h2])
  have:chOK l=false:=chOK_no1 hlt (by unfold ChG.ok;rw[h1,h2];rfl)
  rw[this] at hc;subst hc
  simp[go_sem,hlt,q]
  first | refine⟨_,dcall_val hv rfl rfl,?_⟩ | refine⟨by omega,_,dcall_val hv rfl rfl,?_⟩ | refine⟨⟨by omega,by omega⟩,_,dcall_val hv rfl rfl,?_⟩ | refine⟨⟨by omega,by omega⟩,by omega,_,dcall_val hv rfl rfl,?_⟩
  simp[go_sem,hlt,q]
  first | refine⟨_,dcall_val hw rfl rfl,?_⟩ | refine⟨by omega,_,dcall_val hw rfl rfl,?_⟩ | refine⟨⟨by omega,by omega⟩,_,dcall_val hw rfl rfl,?_⟩ | refine⟨⟨by omega,by omega⟩,by omega,_,dcall_val hw rfl rfl,?_⟩
  simp[go_sem,hlt,q]
 have hw:=(person286 l[k].p).val (v':=.b true) (by rw[h2])
 have hok:l[k].ok=true:=by unfold ChG.ok;rw[h1,h2];rfl
 have hstep:∀j (h:j<l.length),j<k+1→l[j].ok=true:=λj h hj=>by
  by_cases e:j=k
  ·subst e;exact hok
  ·exact hi.2.1 j h (by omega)
 rcases k with _ | k
 ·simp[go_sem,hlt,q]
  first | refine⟨_,dcall_val hv rfl rfl,?_⟩ | refine⟨by omega,_,dcall_val hv rfl rfl,?_⟩ | refine⟨⟨by omega,by omega⟩,_,dcall_val hv rfl rfl,?_⟩ | refine⟨⟨by omega,by omega⟩,by omega,_,dcall_val hv rfl rfl,?_⟩
  simp[go_sem,hlt,q]
  first | refine⟨_,dcall_val hw rfl rfl,?_⟩ | refine⟨by omega,_,dcall_val hw rfl rfl,?_⟩ | refine⟨⟨by omega,by omega⟩,_,dcall_val hw rfl rfl,?_⟩ | refine⟨⟨by omega,by omega⟩,by omega,_,dcall_val hw rfl rfl,?_⟩
  simp[go_sem,hlt,q]
  exact⟨1,⟨by omega,hstep,λj h hj=>by omega⟩,by omega,rfl⟩
 have q':=rowOf_get (f:=ChG.f) (show k<l.length by omega)
 simp[go_sem,hlt,q]
 first | refine⟨_,dcall_val hv rfl rfl,?_⟩ | refine⟨by omega,_,dcall_val hv rfl rfl,?_⟩ | refine⟨⟨by omega,by omega⟩,_,dcall_val hv rfl rfl,?_⟩ | refine⟨⟨by omega,by omega⟩,by omega,_,dcall_val hv rfl rfl,?_⟩
 simp[go_sem,hlt,q]
 first | refine⟨_,dcall_val hw rfl rfl,?_⟩ | refine⟨by omega,_,dcall_val hw rfl rfl,?_⟩ | refine⟨⟨by omega,by omega⟩,_,dcall_val hw rfl rfl,?_⟩ | refine⟨⟨by omega,by omega⟩,by omega,_,dcall_val hw rfl rfl,?_⟩
 simp[go_sem,hlt,q,q']
 refine⟨⟨by omega,by omega⟩,by omega,by omega,?_⟩
 by_cases ht:l[k+1].t<l[k].t
 ·rw[if_pos ht,← hc]
  exact chOK_no2 hlt ht
 ·rw[if_neg ht]
  exact⟨⟨by omega,by omega⟩,k+2,⟨by omega,hstep,λj h hj=>by
   by_cases e:j=k
   ·subst e;omega
   ·exact hi.2.2 j h (by omega)⟩,by omega,by omega⟩
theorem lgOK_no {l:List EnG} {k:Nat} (h:k<l.length) (hn:(prv l k).stp l[k]=false):lgOK l=false:=by
 unfold lgOK
 rw[lgB_no h (by rw[okAt_get h];exact hn),Bool.and_false]
theorem chained178 (l:List EnG) (hn:l.length<1000000):Pure Tryz.prog 178 [lgs l] (· =.b (lgOK l)):=by
 obtain⟨c,hc⟩:∃c,lgOK l=c:=⟨_,rfl⟩
 rw[hc]
 refine pure_of_GC T_ok Tryz.func178 rfl (by kernel_rfl) (nb rfl) rfl rfl ?_
 simp[go_sem]
 by_cases h60:(60:Int)<l.length
 ·have:lgOK l=false:=by
   unfold lgOK
   rw[decide_eq_false (by omega)];rfl
  rw[this] at hc;subst hc
  simp[go_sem,h60]
 simp[go_sem,h60]
 refine GLoop_of T_ok (α:=Nat) (λk=>[(0,lgs l),(3,.w (prv l k).l),(4,.i k)]) (λ_=>[]) 0 (λk=>k≤l.length∧∀j,j<k→okAt l j=true) (λk=>l.length - k) 0 (λ_=>rfl) (by simp) (by simp[go_sem,prv,EnG.zero]) (by simp[go_sem]) ?_
 intro k J hi
 by_cases hlt:k<l.length
 rotate_left
 ·have:lgOK l=true:=by
   unfold lgOK
   rw[lgB_pre hi.2 (by omega),decide_eq_true (by omega)];rfl
  rw[this] at hc;subst hc
  simp[go_sem,hlt]
 have q:=rowOf_get (f:=EnG.f) hlt
 have hno:(prv l k).stp l[k]=false→c=false:=λh=>by rw[← hc];exact lgOK_no hlt h
 have hstep:(prv l k).stp l[k]=true→∀j,j<k+1→okAt l j=true:=λh j hj=>by
  by_cases e:j=k
  ·subst e;rw[okAt_get hlt];exact h
  ·exact hi.2 j (by omega)
 obtain⟨P,hP⟩:∃P,prv l k=P:=⟨_,rfl⟩
 have hps:prv l (k+1)=l[k]:=prv_succ hlt
 rw[hP] at hno hstep
 simp only [hP]
 have hs:P.stp l[k]=(l[k].fit&&decide (P.t≤l[k].t)&&decide (l[k].l=l[k].lnk P.l)):=rfl
 simp[go_sem,hlt]
 refine GDraw_all T_ok (by kernel_rfl) (by kernel_rfl) ?_
 cases h1:l[k].fit
 ·have hv:=(fields287 l[k]).val (v':=.b false) (by rw[h1])
  have:=hno (by rw[hs,h1];rfl)
  subst this
  simp[go_sem,hlt,q]
  first | refine⟨_,dcall_val hv rfl rfl,?_⟩ | refine⟨by omega,_,dcall_val hv rfl rfl,?_⟩ | refine⟨⟨by omega,by omega⟩,_,dcall_val hv rfl rfl,?_⟩ | refine⟨⟨by omega,by omega⟩,by omega,_,dcall_val hv rfl rfl,?_⟩
  simp[go_sem,hlt,q]
 have hv:=(fields287 l[k]).val (v':=.b true) (by rw[h1])
 rcases k with _ | k
 ·simp[go_sem,hlt,q]
  first | refine⟨_,dcall_val hv rfl rfl,?_⟩ | refine⟨by omega,_,dcall_val hv rfl rfl,?_⟩ | refine⟨⟨by omega,by omega⟩,_,dcall_val hv rfl rfl,?_⟩ | refine⟨⟨by omega,by omega⟩,by omega,_,dcall_val hv rfl rfl,?_⟩
  simp[go_sem,hlt,q]
  have hPt:P.t≤l[0].t:=by
   have e:P.t=0:=by rw[← hP];rfl
   have h2:=h1
   unfold EnG.fit EnG.rng at h2
   simp only [Bool.and_eq_true,Ix.btw,decide_eq_true_eq] at h2
   omega
  refine call_val (linked288 P.l l[0]) rfl rfl ?_
  by_cases hl:l[0].l=l[0].lnk P.l
  ·have hst:P.stp l[0]=true:=by rw[hs,h1,decide_eq_true hPt,decide_eq_true hl];rfl
   simp[go_sem,hlt,q,hl]
   exact⟨1,⟨by omega,hstep hst⟩,by omega,by rw[show prv l 1=l[0] from hps,hl],rfl⟩
  ·have hl':¬l[0].l.toNat=(l[0].lnk P.l).toNat:=λe=>hl (BitVec.eq_of_toNat_eq e)
   have:=hno (by rw[hs,decide_eq_false hl,Bool.and_false])
   subst this
   simp[go_sem,hlt,q,hl']
   exact λe=>absurd (Int.ofNat_inj.1 e) hl'
 have q':=rowOf_get (f:=EnG.f) (show k<l.length by omega)
 simp[go_sem,hlt,q]
 first | refine⟨_,dcall_val hv rfl rfl,?_⟩ | refine⟨by omega,_,dcall_val hv rfl rfl,?_⟩ | refine⟨⟨by omega,by omega⟩,_,dcall_val hv rfl rfl,?_⟩ | refine⟨⟨by omega,by omega⟩,by omega,_,dcall_val hv rfl rfl,?_⟩
 simp[go_sem,hlt,q,q']
 refine⟨⟨by omega,by omega⟩,by omega,by omega,?_⟩
 have hPe:P=l[k]:=by rw[← hP];exact prv_succ (by omega)
 by_cases ht:l[k+1].t<l[k].t
 ·rw[if_pos ht]
  exact hno (by rw[hs,hPe,decide_eq_false (by omega:¬l[k].t≤l[k+1].t),Bool.and_false,Bool.false_and])
 rw[if_neg ht]
 have hPt:P.t≤l[k+1].t:=by rw[hPe];omega
 refine⟨⟨by omega,by omega⟩,?_⟩
 refine call_val (linked288 P.l l[k+1]) rfl rfl ?_
 by_cases hl:l[k+1].l=l[k+1].lnk P.l
 ·have hst:P.stp l[k+1]=true:=by rw[hs,h1,decide_eq_true hPt,decide_eq_true hl];rfl
  simp[go_sem,hlt,q,hl]
  exact⟨⟨by omega,by omega⟩,⟨by omega,by omega⟩,k+1+1,⟨by omega,hstep hst⟩,by omega,by rw[hps,hl],by omega⟩
 ·have hl':¬l[k+1].l.toNat=(l[k+1].lnk P.l).toNat:=λe=>hl (BitVec.eq_of_toNat_eq e)
  have:=hno (by rw[hs,decide_eq_false hl,Bool.and_false])
  subst this
  simp[go_sem,hlt,q,hl']
  exact⟨⟨by omega,by omega⟩,λe=>absurd (Int.ofNat_inj.1 e) hl'⟩
theorem shr_bit (w:W64) (n:Nat):((shr64 w n).toNat:Int).tmod 2=1↔w.getLsbD n=true:=by
 have h:(shr64 w n).getLsbD 0=w.getLsbD n:=by
  unfold shr64
  rw[BitVec.getLsbD_ushiftRight];rfl
 rw[← h]
 unfold BitVec.getLsbD
 rw[Nat.testBit_zero,decide_eq_true_eq]
 show(((shr64 w n).toNat % 2:Nat):Int)=1↔_
 omega
theorem wrap_j {j:Nat} (h:j<64):(IntKind.u64.wrap (j:Int)).toNat=j:=by
 rw[wrap_nat64]
 simp
 omega
def kR (x:SvG) (k:KsG):Prop:=k.ok x.key=true∧k.m=x.mage∧k.a<x.now∧∀j,j<64→k.s.getLsbD j=true→x.g.th (j:Nat)=true
theorem kiosk180 (x:SvG) (hx:x.OK) (k:KsG) (c:Bool) (hc:c=true↔kR x k):Pure Tryz.prog 180 [x.sv,k.sv] (· =.b c):=by
 have hno:¬kR x k→c=false:=λh=>by
  cases c
  ·rfl
  ·exact absurd (hc.1 rfl) h
 refine pure_of_GC T_ok Tryz.func180 rfl (by kernel_rfl) (nb rfl) rfl rfl ?_
 simp[go_sem]
 refine call_val (sealed289 k x.key) rfl rfl ?_
 cases h1:k.ok x.key
 ·have:=hno λh=>by have:=h.1;rw[h1] at this;cases this
  subst this
  simp[go_sem]
 by_cases h2:k.m=x.mage
 rotate_left
 ·have:=hno λh=>h2 h.2.1
  subst this
  simp[go_sem,h2]
 by_cases h3:k.a<x.now
 rotate_left
 ·have:=hno λh=>h3 h.2.2.1
  subst this
  have h3':x.now≤k.a:=by omega
  simp[go_sem,h2,h3']
 have h3':¬x.now≤k.a:=by omega
 simp[go_sem,h2,h3']
 refine GLoop_of T_ok (α:=Nat) (λj=>[(2,.ptr 0 0 17 0),(3,.ptr 1 0 4 0),(5,.i j)]) (λ_=>[some (.box x.cells),some (.box [.i k.a,.i k.m,.w k.s,.w k.z])]) 2 (λj=>j≤64∧∀i,i<j→k.s.getLsbD i=true→x.g.th (i:Nat)=true) (λj=>64 - j) 0 (λ_=>rfl) (by simp) (by simp[go_sem]) (by simp[go_sem,h2]) ?_
 intro j J hi
 by_cases hlt:j<64
 rotate_left
 ·have:c=true:=hc.2 ⟨h1,h2,h3,λi h hb=>hi.2 i (by omega) hb⟩
  subst this
  simp[go_sem,hlt]
  try omega
 have ht:=there202 x hx.g.ok j
 have hj:(j:Int)<64:=by omega
 simp[go_sem,hj,wrap_j hlt,shr_bit]
 by_cases hb:k.s.getLsbD j=true
 rotate_left
 ·simp[hb]
  refine⟨by omega,j+1,⟨by omega,λi h hs=>?_⟩,by omega,by omega⟩
  by_cases e:i=j
  ·subst e;exact absurd hs hb
  ·exact hi.2 i (by omega) hs
 simp[hb]
 refine call_val ht rfl rfl ?_
 cases h4:x.g.th (j:Nat)
 ·have:=hno λh=>by have:=h.2.2.2 j hlt hb;rw[h4] at this;cases this
  subst this
  simp[go_sem]
 simp[go_sem]
 refine⟨by omega,j+1,⟨by omega,λi h hs=>?_⟩,by omega,by omega⟩
 by_cases e:i=j
 ·subst e;exact h4
 ·exact hi.2 i (by omega) hs
def aR (x:SvG):Prop:=(∀i,i<x.r.nc→x.g.th (x.r.c i).p=true)∧(∀i,i<x.r.nw→x.g.th (x.r.w i).p=true)∧(∀i,i<x.r.nm→x.g.th (x.r.m i).p=true)∧
 (∀i (h:i<x.ch.length),x.g.th x.ch[i].p=true∧x.ch[i].t≤x.now)∧∀i (h:i<x.lg.length),(x.lg[i].p<0∨x.g.th x.lg[i].p=true)∧x.lg[i].t≤x.now
theorem about181 (x:SvG) (hx:x.OK) (c:Bool) (hc:c=true↔aR x):Pure Tryz.prog 181 [x.sv] (· =.b c):=by
 have hno:¬aR x→c=false:=λh=>by
  cases c
  ·rfl
  ·exact absurd (hc.1 rfl) h
 have l1:=hx.rc;have l2:=hx.rw';have l3:=hx.rm;have l4:=hx.ch;have l5:=hx.lg
 refine pure_of_GC T_ok Tryz.func181 rfl (by kernel_rfl) (nb rfl) rfl rfl ?_
 simp[go_sem]
 refine GLoop_of T_ok (α:=Nat) (λk=>[(1,.ptr 0 0 17 0),(3,.i k)]) (λ_=>[some (.box x.cells)]) 1 (λk=>k≤x.r.nc∧∀i,i<k→x.g.th (x.r.c i).p=true) (λk=>x.r.nc - k) 0 (λ_=>rfl) (by simp) (by simp[go_sem]) (by simp[go_sem]) ?_
 intro k J hi
 by_cases hlt:k<x.r.nc
 ·have ht:=there202 x hx.g.ok (x.r.c k).p
  simp[go_sem,hlt]
  refine GDraw_all T_ok (by kernel_rfl) (by kernel_rfl) ?_
  cases h4:x.g.th (x.r.c k).p
  ·have:=hno λh=>by have:=h.1 k hlt;rw[h4] at this;cases this
   subst this
   have hv:=ht.val (v':=.b false) (by rw[h4])
   simp[go_sem,hlt]
   first | refine⟨_,dcall_val hv rfl rfl,?_⟩ | refine⟨by omega,_,dcall_val hv rfl rfl,?_⟩ | refine⟨⟨by omega,by omega⟩,_,dcall_val hv rfl rfl,?_⟩ | refine⟨⟨by omega,by omega⟩,by omega,_,dcall_val hv rfl rfl,?_⟩
   simp[go_sem]
  have hv:=ht.val (v':=.b true) (by rw[h4])
  simp[go_sem,hlt]
  first | refine⟨_,dcall_val hv rfl rfl,?_⟩ | refine⟨by omega,_,dcall_val hv rfl rfl,?_⟩ | refine⟨⟨by omega,by omega⟩,_,dcall_val hv rfl rfl,?_⟩ | refine⟨⟨by omega,by omega⟩,by omega,_,dcall_val hv rfl rfl,?_⟩
  simp[go_sem]
  refine⟨by omega,k+1,⟨by omega,λi h=>?_⟩,by omega,by omega⟩
  by_cases e:i=k
  ·subst e;exact h4
  ·exact hi.2 i (by omega)
 have r1:∀i,i<x.r.nc→x.g.th (x.r.c i).p=true:=λi h=>hi.2 i (by omega)
 clear hi
 simp[go_sem,hlt]
 refine GLoop_of T_ok (α:=Nat) (λk=>[(1,.ptr 0 0 17 0),(4,.i k)]) (λ_=>[some (.box x.cells)]) 1 (λk=>k≤x.r.nw∧∀i,i<k→x.g.th (x.r.w i).p=true) (λk=>x.r.nw - k) 0 (λ_=>rfl) (by simp) (by simp[go_sem]) (by simp[go_sem]) ?_
 intro k J hi
 by_cases hlt:k<x.r.nw
 ·have ht:=there202 x hx.g.ok (x.r.w k).p
  simp[go_sem,hlt]
  refine GDraw_all T_ok (by kernel_rfl) (by kernel_rfl) ?_
  cases h4:x.g.th (x.r.w k).p
  ·have:=hno λh=>by have:=h.2.1 k hlt;rw[h4] at this;cases this
   subst this
   have hv:=ht.val (v':=.b false) (by rw[h4])
   simp[go_sem,hlt]
   first | refine⟨_,dcall_val hv rfl rfl,?_⟩ | refine⟨by omega,_,dcall_val hv rfl rfl,?_⟩ | refine⟨⟨by omega,by omega⟩,_,dcall_val hv rfl rfl,?_⟩ | refine⟨⟨by omega,by omega⟩,by omega,_,dcall_val hv rfl rfl,?_⟩
   simp[go_sem]
  have hv:=ht.val (v':=.b true) (by rw[h4])
  simp[go_sem,hlt]
  first | refine⟨_,dcall_val hv rfl rfl,?_⟩ | refine⟨by omega,_,dcall_val hv rfl rfl,?_⟩ | refine⟨⟨by omega,by omega⟩,_,dcall_val hv rfl rfl,?_⟩ | refine⟨⟨by omega,by omega⟩,by omega,_,dcall_val hv rfl rfl,?_⟩
  simp[go_sem]
  refine⟨by omega,k+1,⟨by omega,λi h=>?_⟩,by omega,by omega⟩
  by_cases e:i=k
  ·subst e;exact h4
  ·exact hi.2 i (by omega)
 have r2:∀i,i<x.r.nw→x.g.th (x.r.w i).p=true:=λi h=>hi.2 i (by omega)
 clear hi
 simp[go_sem,hlt]
 refine GLoop_of T_ok (α:=Nat) (λk=>[(1,.ptr 0 0 17 0),(5,.i k)]) (λ_=>[some (.box x.cells)]) 1 (λk=>k≤x.r.nm∧∀i,i<k→x.g.th (x.r.m i).p=true) (λk=>x.r.nm - k) 0 (λ_=>rfl) (by simp) (by simp[go_sem]) (by simp[go_sem]) ?_
 intro k J hi
 by_cases hlt:k<x.r.nm
 ·have ht:=there202 x hx.g.ok (x.r.m k).p
  simp[go_sem,hlt]
  refine GDraw_all T_ok (by kernel_rfl) (by kernel_rfl) ?_
  cases h4:x.g.th (x.r.m k).p
  ·have:=hno λh=>by have:=h.2.2.1 k hlt;rw[h4] at this;cases this
   subst this
   have hv:=ht.val (v':=.b false) (by rw[h4])
   simp[go_sem,hlt]
   first | refine⟨_,dcall_val hv rfl rfl,?_⟩ | refine⟨by omega,_,dcall_val hv rfl rfl,?_⟩ | refine⟨⟨by omega,by omega⟩,_,dcall_val hv rfl rfl,?_⟩ | refine⟨⟨by omega,by omega⟩,by omega,_,dcall_val hv rfl rfl,?_⟩
   simp[go_sem]
  have hv:=ht.val (v':=.b true) (by rw[h4])
  simp[go_sem,hlt]
  first | refine⟨_,dcall_val hv rfl rfl,?_⟩ | refine⟨by omega,_,dcall_val hv rfl rfl,?_⟩ | refine⟨⟨by omega,by omega⟩,_,dcall_val hv rfl rfl,?_⟩ | refine⟨⟨by omega,by omega⟩,by omega,_,dcall_val hv rfl rfl,?_⟩
  simp[go_sem]
  refine⟨by omega,k+1,⟨by omega,λi h=>?_⟩,by omega,by omega⟩
  by_cases e:i=k
  ·subst e;exact h4
  ·exact hi.2 i (by omega)
 have r3:∀i,i<x.r.nm→x.g.th (x.r.m i).p=true:=λi h=>hi.2 i (by omega)
 clear hi
 simp[go_sem,hlt]
 refine GLoop_of T_ok (α:=Nat) (λk=>[(1,.ptr 0 0 17 0),(6,.i k)]) (λ_=>[some (.box x.cells)]) 1 (λk=>k≤x.ch.length∧∀i (h:i<x.ch.length),i<k→x.g.th x.ch[i].p=true∧x.ch[i].t≤x.now) (λk=>x.ch.length - k) 0 (λ_=>rfl) (by simp) (by simp[go_sem]) (by simp[go_sem]) ?_
 intro k J hi
 by_cases hlt:k<x.ch.length
 ·have ht:=there202 x hx.g.ok x.ch[k].p
  have q:=rowOf_get (f:=ChG.f) hlt
  simp[go_sem,hlt]
  refine GDraw_all T_ok (by kernel_rfl) (by kernel_rfl) ?_
  cases h4:x.g.th x.ch[k].p
  ·have:=hno λh=>by have:=(h.2.2.2.1 k hlt).1;rw[h4] at this;cases this
   subst this
   have hv:=ht.val (v':=.b false) (by rw[h4])
   simp[go_sem,hlt,q]
   first | refine⟨_,dcall_val hv rfl rfl,?_⟩ | refine⟨by omega,_,dcall_val hv rfl rfl,?_⟩ | refine⟨⟨by omega,by omega⟩,_,dcall_val hv rfl rfl,?_⟩ | refine⟨⟨by omega,by omega⟩,by omega,_,dcall_val hv rfl rfl,?_⟩
   simp[go_sem,hlt,q]
  have hv:=ht.val (v':=.b true) (by rw[h4])
  simp[go_sem,hlt,q]
  first | refine⟨_,dcall_val hv rfl rfl,?_⟩ | refine⟨by omega,_,dcall_val hv rfl rfl,?_⟩ | refine⟨⟨by omega,by omega⟩,_,dcall_val hv rfl rfl,?_⟩ | refine⟨⟨by omega,by omega⟩,by omega,_,dcall_val hv rfl rfl,?_⟩
  simp[go_sem,hlt,q]
  by_cases h5:x.now<x.ch[k].t
  ·have:=hno λh=>by have:=(h.2.2.2.1 k hlt).2;omega
   subst this
   simp[h5]
  simp[h5]
  refine⟨by omega,k+1,⟨by omega,λi h hj=>?_⟩,by omega,by omega⟩
  by_cases e:i=k
  ·subst e;exact⟨h4,by omega⟩
  ·exact hi.2 i h (by omega)
 have r4:∀i (h:i<x.ch.length),x.g.th x.ch[i].p=true∧x.ch[i].t≤x.now:=λi h=>hi.2 i h (by omega)
 clear hi
 simp[go_sem,hlt]
 refine GLoop_of T_ok (α:=Nat) (λk=>[(1,.ptr 0 0 17 0),(7,.i k)]) (λ_=>[some (.box x.cells)]) 1 (λk=>k≤x.lg.length∧∀i (h:i<x.lg.length),i<k→(x.lg[i].p<0∨x.g.th x.lg[i].p=true)∧x.lg[i].t≤x.now) (λk=>x.lg.length - k) 0 (λ_=>rfl) (by simp) (by simp[go_sem]) (by simp[go_sem]) ?_
 intro k J hi
 by_cases hlt:k<x.lg.length
 ·have ht:=there202 x hx.g.ok x.lg[k].p
  have q:=rowOf_get (f:=EnG.f) hlt
  have hstep:(x.lg[k].p<0∨x.g.th x.lg[k].p=true)∧x.lg[k].t≤x.now→∀i (h:i<x.lg.length),i<k+1→(x.lg[i].p<0∨x.g.th x.lg[i].p=true)∧x.lg[i].t≤x.now:=λhk i h hj=>by
   by_cases e:i=k
   ·subst e;exact hk
   ·exact hi.2 i h (by omega)
  simp[go_sem,hlt]
  refine GDraw_all T_ok (by kernel_rfl) (by kernel_rfl) ?_
  by_cases h6:0≤x.lg[k].p
  rotate_left
  ·simp[go_sem,hlt,q,h6]
   by_cases h5:x.now<x.lg[k].t
   ·have:=hno λh=>by have:=(h.2.2.2.2 k hlt).2;omega
    subst this
    simp[h5]
   simp[h5]
   exact⟨by omega,k+1,⟨by omega,hstep ⟨.inl (by omega),by omega⟩⟩,by omega,by omega⟩
  cases h4:x.g.th x.lg[k].p
  ·have:=hno λh=>by
    rcases(h.2.2.2.2 k hlt).1 with h | h
    ·omega
    ·rw[h4] at h;cases h
   subst this
   have hv:=ht.val (v':=.b false) (by rw[h4])
   simp[go_sem,hlt,q,h6]
   first | refine⟨_,dcall_val hv rfl rfl,?_⟩ | refine⟨by omega,_,dcall_val hv rfl rfl,?_⟩ | refine⟨⟨by omega,by omega⟩,_,dcall_val hv rfl rfl,?_⟩ | refine⟨⟨by omega,by omega⟩,by omega,_,dcall_val hv rfl rfl,?_⟩
   simp[go_sem,hlt,q]
  have hv:=ht.val (v':=.b true) (by rw[h4])
  simp[go_sem,hlt,q,h6]
  first | refine⟨_,dcall_val hv rfl rfl,?_⟩ | refine⟨by omega,_,dcall_val hv rfl rfl,?_⟩ | refine⟨⟨by omega,by omega⟩,_,dcall_val hv rfl rfl,?_⟩ | refine⟨⟨by omega,by omega⟩,by omega,_,dcall_val hv rfl rfl,?_⟩
  simp[go_sem,hlt,q]
  by_cases h5:x.now<x.lg[k].t
  ·have:=hno λh=>by have:=(h.2.2.2.2 k hlt).2;omega
   subst this
   simp[h5]
  simp[h5]
  exact⟨by omega,k+1,⟨by omega,hstep ⟨.inr h4,by omega⟩⟩,by omega,by omega⟩
 have r5:∀i (h:i<x.lg.length),(x.lg[i].p<0∨x.g.th x.lg[i].p=true)∧x.lg[i].t≤x.now:=λi h=>hi.2 i h (by omega)
 clear hi
 have:c=true:=hc.2 ⟨r1,r2,r3,r4,r5⟩
 subst this
 simp[go_sem,hlt]
theorem validSetup74 (x:SvG):Pure Tryz.prog 74 [x.ss] (· =.b x.setB):=by
 obtain⟨c,hc⟩:∃c,x.setB=c:=⟨_,rfl⟩
 rw[hc]
 refine pure_of_GC T_ok Tryz.func74 rfl (by kernel_rfl) (nb rfl) rfl rfl ?_
 have e:c=(vL x.num x.den&&decide (x.den≤127)&&Ix.btw 0 7 x.turns&&Ix.btw 0 maxT x.mage):=by
  rw[← hc]
  unfold SvG.setB vL Ix.btw
  rw[Bool.eq_iff_iff]
  simp only [Bool.and_eq_true,decide_eq_true_eq]
  omega
 simp[go_sem]
 refine call_val (limit35 x.num x.den) rfl rfl ?_
 cases h1:vL x.num x.den
 ·rw[h1] at e
  simp[go_sem,e]
 by_cases h2:x.den≤127
 rotate_left
 ·rw[decide_eq_false h2] at e
  simp[go_sem,e,h2]
 simp[go_sem,h2]
 refine call_val (within159 x.turns 0 7) rfl rfl ?_
 cases h3:Ix.btw 0 7 x.turns
 ·rw[h3] at e
  simp[go_sem,e]
 simp[go_sem]
 refine call_val (within159 x.mage 0 maxT) rfl rfl ?_
 rw[h1,h3,decide_eq_true h2] at e
 simp[go_sem,e]
theorem checkSetup28 (x:SvG):Pure Tryz.prog 28 [x.ss] (· =.i (if x.setB then 0 else 2)):=by
 refine pure_of_GC T_ok Tryz.func28 rfl (by kernel_rfl) (nb rfl) rfl rfl ?_
 simp[go_sem]
 refine call_val (validSetup74 x) rfl rfl ?_
 cases x.setB <;> simp[go_sem]
theorem new26 (x:SvG):Pure Tryz.prog 26 [x.ss] (· =.tup [(if x.setB then x.new else SvG.zero).sv,.i (if x.setB then 0 else 2)]):=by
 refine Pure.ofSub ?_
 refine pure_of_GC T_ok Tryz.func26 rfl (by kernel_rfl) (nb rfl) rfl rfl ?_
 simp[go_sem]
 refine call_val (validSetup74 x) rfl rfl ?_
 cases x.setB
 ·simp[go_sem,SvG.zero,EG.zero,Rg.RG.nil]
 ·simp[go_sem,SvG.new,SvG.zero,EG.zero,Rg.RG.nil]
theorem th_gone {g:EG} {i:Nat} (h:i<g.nr):g.th (i:Nat)=!(g.r i).g:=by
 unfold EG.th
 rw[show btw 0 ((g.nr:Int) - 1) (i:Nat)=true by simp[btw];omega]
 rfl
theorem bool_of (P:Prop):∃c:Bool,c=true↔P:=by
 by_cases h:P
 ·exact⟨true,by simp[h]⟩
 ·exact⟨false,by simp[h]⟩
theorem valid83 (x:SvG) (hx:x.OK) (hs:x.setB=true):Pure Tryz.prog 83 [x.sv] (· =.b x.valid):=by
 obtain⟨c,hcv⟩:∃c,x.valid=c:=⟨_,rfl⟩
 rw[hcv]
 have hc:c=true↔x.Va:=by rw[← hcv];exact SvG.va_iff
 have hno:¬x.Va→c=false:=λh=>by
  cases c
  ·rfl
  ·exact absurd (hc.1 rfl) h
 clear hcv
 have l1:=hx.ir;have l2:=hx.ks
 refine pure_of_GC T_ok Tryz.func83 rfl (by kernel_rfl) (nb rfl) rfl rfl ?_
 simp[go_sem]
 refine call_val (within159 x.now 0 maxT) rfl rfl ?_
 cases hb0:Ix.btw 0 maxT x.now
 ·have:=hno λh=>by have:=h.now;simp only [Ix.btw,Bool.and_eq_false_iff,decide_eq_false_iff_not] at hb0;omega
  subst this
  simp[go_sem]
 simp[go_sem]
 refine call_val (valid49 x.g hx.g.ok) rfl rfl ?_
 cases hb1:x.g.valid
 ·have:=hno λh=>by rw[h.g] at hb1;cases hb1
  subst this
  simp[go_sem]
 simp[go_sem]
 refine call_val (Rg.valid58 x.r hx.r) rfl rfl ?_
 cases hb2:x.r.valid
 ·have:=hno λh=>by rw[h.r] at hb2;cases hb2
  subst this
  simp[go_sem]
 simp[go_sem]
 refine call_val (valid177 x.ch hx.ch) rfl rfl ?_
 cases hb3:chOK x.ch
 ·have:=hno λh=>by rw[h.ch] at hb3;cases hb3
  subst this
  simp[go_sem]
 simp[go_sem]
 refine call_val (chained178 x.lg hx.lg) rfl rfl ?_
 cases hb4:lgOK x.lg
 ·have:=hno λh=>by rw[h.lg] at hb4;cases hb4
  subst this
  simp[go_sem]
 by_cases k4:(4:Int)<x.ks.length
 ·have:=hno λh=>by have:=h.k4;omega
  subst this
  simp[go_sem,k4]
 by_cases kn:(x.ir.length:Int)=x.g.nr
 rotate_left
 ·have:=hno λh=>by have:=h.irn;omega
  subst this
  simp[go_sem,k4,kn]
 simp[go_sem,k4,kn]
 refine GLoop_of T_ok (α:=Nat) (λk=>[(1,.ptr 0 0 17 0),(3,.i k)]) (λ_=>[some (.box x.cells)]) 1 (λk=>k≤x.ir.length∧∀i,i<k→(x.eye (i:Nat)).ok=true∧(x.g.th (i:Nat)=true∨x.eye (i:Nat)=IrG.z)) (λk=>x.ir.length - k) 0 (λ_=>rfl) (by simp) (by simp[go_sem]) (by simp[go_sem]) ?_
 intro k J hi
 by_cases hlt:k<x.ir.length
 ·have q:=rowOf_get (f:=IrG.f) hlt
  have he:=SvG.eye_get hlt
  have hth:x.g.th (k:Nat)=!(x.g.r k).g:=th_gone (by omega)
  have hnk:k<x.g.nr:=by omega
  simp[go_sem,hlt,q]
  refine call_val (valid34 x.ir[k].c x.ir[k].m) rfl rfl ?_
  cases h1:vI x.ir[k].c x.ir[k].m
  ·have:=hno λh=>by
    have:=(h.ir k hlt).1
    rw[he] at this
    unfold IrG.ok at this
    rw[h1] at this;cases this
   subst this
   simp[go_sem]
  have hok:(x.eye (k:Nat)).ok=true:=by rw[he];exact h1
  have hstep:x.g.th (k:Nat)=true∨x.eye (k:Nat)=IrG.z→∀i,i<k+1→(x.eye (i:Nat)).ok=true∧(x.g.th (i:Nat)=true∨x.eye (i:Nat)=IrG.z):=λhk i hj=>by
   by_cases e:i=k
   ·subst e;exact⟨hok,hk⟩
   ·exact hi.2 i (by omega)
  cases h2:(x.g.r k).g
  ·simp[go_sem,hlt,q,hnk,h2]
   exact⟨⟨by omega,by omega⟩,k+1,⟨by omega,hstep (.inl (by rw[hth,h2];rfl))⟩,by omega,by omega⟩
  by_cases h3:x.ir[k]=IrG.z
  ·simp[go_sem,hlt,q,hnk,h2,h3,IrG.z]
   exact⟨⟨by omega,by omega⟩,k+1,⟨by omega,hstep (.inr (he.trans h3))⟩,by omega,by omega⟩
  ·have:=hno λh=>by
    rcases(h.ir k hlt).2 with h | h
    ·rw[hth,h2] at h;cases h
    ·exact h3 (he.symm.trans h)
   subst this
   simp[go_sem,hlt,q,hnk,h2]
   exact λe1 e2=>absurd ((IrG.iff _ _).2 ⟨e1,e2⟩) h3
 have r1:∀i,i<x.ir.length→(x.eye (i:Nat)).ok=true∧(x.g.th (i:Nat)=true∨x.eye (i:Nat)=IrG.z):=λi h=>hi.2 i (by omega)
 clear hi
 simp[go_sem,hlt]
 refine GLoop_of T_ok (α:=Nat) (λk=>[(1,.ptr 0 0 17 0),(4,.i k)]) (λ_=>[some (.box x.cells)]) 1 (λk=>k≤x.ks.length∧∀i (h:i<x.ks.length),i<k→kR x x.ks[i]) (λk=>x.ks.length - k) 0 (λ_=>rfl) (by simp) (by simp[go_sem]) (by simp[go_sem]) ?_
 intro k J hi
 by_cases hlt:k<x.ks.length
 ·have q:=rowOf_get (f:=KsG.f) hlt
  obtain⟨c1,hc1⟩:=bool_of (kR x x.ks[k])
  have ht:=kiosk180 x hx x.ks[k] c1 hc1
  simp[go_sem,hlt]
  refine GDraw_all T_ok (by kernel_rfl) (by kernel_rfl) ?_
  cases c1
  ·have:=hno λh=>by have:=hc1.2 (h.ks x.ks[k] (List.getElem_mem hlt));cases this
   subst this
   simp[go_sem,hlt,q]
   first | refine⟨_,dcall_val ht rfl rfl,?_⟩ | refine⟨by omega,_,dcall_val ht rfl rfl,?_⟩ | refine⟨⟨by omega,by omega⟩,_,dcall_val ht rfl rfl,?_⟩ | refine⟨⟨by omega,by omega⟩,by omega,_,dcall_val ht rfl rfl,?_⟩
   simp[go_sem,hlt,q]
  simp[go_sem,hlt,q]
  first | refine⟨_,dcall_val ht rfl rfl,?_⟩ | refine⟨by omega,_,dcall_val ht rfl rfl,?_⟩ | refine⟨⟨by omega,by omega⟩,_,dcall_val ht rfl rfl,?_⟩ | refine⟨⟨by omega,by omega⟩,by omega,_,dcall_val ht rfl rfl,?_⟩
  simp[go_sem,hlt,q]
  refine⟨by omega,k+1,⟨by omega,λi h hj=>?_⟩,by omega,by omega⟩
  by_cases e:i=k
  ·subst e;exact hc1.1 rfl
  ·exact hi.2 i h (by omega)
 have r2:∀i (h:i<x.ks.length),kR x x.ks[i]:=λi h=>hi.2 i h (by omega)
 clear hi
 simp[go_sem,hlt]
 obtain⟨c2,hc2⟩:=bool_of (aR x)
 refine call_val (about181 x hx c2 hc2) rfl rfl ?_
 simp[go_sem]
 rw[Bool.eq_iff_iff,hc2,hc]
 constructor
 ·rintro⟨a1,a2,a3,a4,a5⟩
  refine⟨hs,hb1,hb2,hb3,hb4,by simpa [Ix.btw] using hb0,by omega,by omega,r1,λe he=>?_,?_,?_,?_,λc hcm=>?_,λk hk=>?_,λc hcm=>?_,λe he=>?_⟩
  ·obtain⟨i,h,rfl⟩:=List.getElem_of_mem he;exact(a5 i h).1
  ·rintro a ⟨i,h,rfl⟩;exact a1 i h
  ·rintro a ⟨i,h,rfl⟩;exact a2 i h
  ·rintro a ⟨i,h,rfl⟩;exact a3 i h
  ·obtain⟨i,h,rfl⟩:=List.getElem_of_mem hcm;exact(a4 i h).1
  ·obtain⟨i,h,rfl⟩:=List.getElem_of_mem hk;exact r2 i h
  ·obtain⟨i,h,rfl⟩:=List.getElem_of_mem hcm;exact(a4 i h).2
  ·obtain⟨i,h,rfl⟩:=List.getElem_of_mem he;exact(a5 i h).2
 ·intro h
  exact⟨λi hi=>h.cn _ ⟨i,hi,rfl⟩,λi hi=>h.wa _ ⟨i,hi,rfl⟩,λi hi=>h.ma _ ⟨i,hi,rfl⟩,λi hi=>⟨h.chp _ (List.getElem_mem hi),h.cht _ (List.getElem_mem hi)⟩,λi hi=>⟨h.lgp _ (List.getElem_mem hi),h.lgt _ (List.getElem_mem hi)⟩⟩
theorem chkE_eq (x:SvG):x.chkE=if x.setB=true then (if x.valid=true then 0 else 8) else 2:=by
 unfold SvG.chkE SvG.valid
 cases x.setB <;> simp
theorem check31 (x:SvG) (hx:x.OK):Pure Tryz.prog 31 [x.sv] (· =.i x.chkE):=by
 rw[chkE_eq]
 refine pure_of_GC T_ok Tryz.func31 rfl (by kernel_rfl) (nb rfl) rfl rfl ?_
 simp[go_sem]
 refine call_val (validSetup74 x) rfl rfl ?_
 cases hs:x.setB
 ·simp[go_sem]
 simp[go_sem]
 refine call_val (valid83 x hx hs) rfl rfl ?_
 cases x.valid <;> simp[go_sem]
end Go.Gx.Sr
namespace Go.Gx.Rg
open Go.RowKit Go.Proofs Go.Proofs.YtncccnmmjfapnaaGreat
theorem s_of {n m:Nat} {e:Nat→Bool} (h:n=m) (ha:∀j,j<n→e j=true):(decide (n=m)&&(List.range n).all e)=true:=by
 simp[h]
 intro j hj
 exact ha j (by omega)
theorem s_no {n m:Nat} {e:Nat→Bool} {k:Nat} (hk:k<n) (h:¬e k=true):(decide (n=m)&&(List.range n).all e)=false:=by
 have:(List.range n).all e=false:=by
  rw[List.all_eq_false]
  exact⟨k,List.mem_range.2 hk,h⟩
 rw[this,Bool.and_false]
theorem same22 (g h:RG) (hg:g.OK) (hh:h.OK):Pure Tryz.prog 77 [g.sv,h.sv] (· =.b (g.same h)):=by
 refine pure_of_GC T_ok Tryz.func77 rfl (by kernel_rfl) (nb rfl) rfl rfl ?_
 have o1:=hg.nr;have o2:=hg.nc;have o3:=hg.nw;have o4:=hg.nm
 by_cases n1:g.nr=h.nr
 rotate_left
 ·have m1:((g.nr:Int)=(h.nr:Int))=False:=eq_false (by omega)
  simp[go_sem,m1]
  simp[RG.same,RG.s1,n1]
 have m1:((g.nr:Int)=(h.nr:Int))=True:=eq_true (by omega)
 by_cases n2:g.nc=h.nc
 rotate_left
 ·have m2:((g.nc:Int)=(h.nc:Int))=False:=eq_false (by omega)
  simp[go_sem,m1,m2]
  simp[RG.same,RG.s2,n2]
 have m2:((g.nc:Int)=(h.nc:Int))=True:=eq_true (by omega)
 by_cases n3:g.nw=h.nw
 rotate_left
 ·have m3:((g.nw:Int)=(h.nw:Int))=False:=eq_false (by omega)
  simp[go_sem,m1,m2,m3]
  simp[RG.same,RG.s3,n3]
 have m3:((g.nw:Int)=(h.nw:Int))=True:=eq_true (by omega)
 by_cases n4:g.nm=h.nm
 rotate_left
 ·have m4:((g.nm:Int)=(h.nm:Int))=False:=eq_false (by omega)
  simp[go_sem,m1,m2,m3,m4]
  simp[RG.same,RG.s4,n4]
 have m4:((g.nm:Int)=(h.nm:Int))=True:=eq_true (by omega)
 simp[go_sem,m1,m2,m3,m4]
 refine GLoop_of T_ok (α:=Nat) (λk=>[(2,.ptr 0 0 4 0),(3,.ptr 1 0 4 0),(5,.i k)]) (λ_=>g.box++h.box) 2 (λk=>k≤g.nr∧∀j,j<k→(g.r j).eqB (h.r j)=true) (λk=>g.nr - k) 0 (λ_=>rfl) (by simp) (by simp[go_sem]) (by simp[go_sem,m1,m2,m3,m4]) ?_
 intro k0 J0 hi
 by_cases hlt:k0<g.nr
 ·simp[go_sem,hlt]
  refine GDraw_all T_ok (by kernel_rfl) (by kernel_rfl) ?_
  have hlt':k0<h.nr:=by omega
  by_cases he:(g.r k0).eqB (h.r k0)=true
  ·have he':=he
   simp[RuleG.eqB] at he'
   simp[go_sem,hlt,hlt',he']
   refine⟨by omega,k0+1,⟨by omega,λj hj=>?_⟩,by omega,by simp⟩
   by_cases hjk:j=k0
   ·subst hjk;exact he
   ·exact hi.2 j (by omega)
  ·have hs:g.s1 h=false:=s_no hlt he
   simp[go_sem,hlt,hlt']
   rw[if_pos (Classical.byContradiction λhc=>he (by simp at hc;simp[RuleG.eqB,hc]))]
   simp[RG.same,hs]
 have hs1:g.s1 h=true:=s_of n1 λj hj=>hi.2 j (by omega)
 clear hi
 simp[go_sem,hlt]
 clear hlt
 refine GLoop_of T_ok (α:=Nat) (λk=>[(2,.ptr 0 0 4 0),(3,.ptr 1 0 4 0),(6,.i k)]) (λ_=>g.box++h.box) 2 (λk=>k≤g.nc∧∀j,j<k→(g.c j).eqB (h.c j)=true) (λk=>g.nc - k) 0 (λ_=>rfl) (by simp) (by simp[go_sem]) (by simp[go_sem,m1,m2,m3,m4]) ?_
 intro k1 J1 hi
 by_cases hlt:k1<g.nc
 ·simp[go_sem,hlt]
  refine GDraw_all T_ok (by kernel_rfl) (by kernel_rfl) ?_
  have hlt':k1<h.nc:=by omega
  by_cases he:(g.c k1).eqB (h.c k1)=true
  ·have he':=he
   simp[ConG.eqB] at he'
   simp[go_sem,hlt,hlt',he']
   refine⟨by omega,k1+1,⟨by omega,λj hj=>?_⟩,by omega,by simp⟩
   by_cases hjk:j=k1
   ·subst hjk;exact he
   ·exact hi.2 j (by omega)
  ·have hs:g.s2 h=false:=s_no hlt he
   simp[go_sem,hlt,hlt']
   rw[if_pos (Classical.byContradiction λhc=>he (by simp at hc;simp[ConG.eqB,hc]))]
   simp[RG.same,hs]
 have hs2:g.s2 h=true:=s_of n2 λj hj=>hi.2 j (by omega)
 clear hi
 simp[go_sem,hlt]
 clear hlt
 refine GLoop_of T_ok (α:=Nat) (λk=>[(2,.ptr 0 0 4 0),(3,.ptr 1 0 4 0),(7,.i k)]) (λ_=>g.box++h.box) 2 (λk=>k≤g.nw∧∀j,j<k→(g.w j).eqB (h.w j)=true) (λk=>g.nw - k) 0 (λ_=>rfl) (by simp) (by simp[go_sem]) (by simp[go_sem,m1,m2,m3,m4]) ?_
 intro k2 J2 hi
 by_cases hlt:k2<g.nw
 ·simp[go_sem,hlt]
  refine GDraw_all T_ok (by kernel_rfl) (by kernel_rfl) ?_
  have hlt':k2<h.nw:=by omega
  by_cases he:(g.w k2).eqB (h.w k2)=true
  ·have he':=he
   simp[WarG.eqB] at he'
   simp[go_sem,hlt,hlt',he']
   refine⟨by omega,k2+1,⟨by omega,λj hj=>?_⟩,by omega,by simp⟩
   by_cases hjk:j=k2
   ·subst hjk;exact he
   ·exact hi.2 j (by omega)
  ·have hs:g.s3 h=false:=s_no hlt he
   simp[go_sem,hlt,hlt']
   rw[if_pos (Classical.byContradiction λhc=>he (by simp at hc;simp[WarG.eqB,hc]))]
   simp[RG.same,hs]
 have hs3:g.s3 h=true:=s_of n3 λj hj=>hi.2 j (by omega)
 clear hi
 simp[go_sem,hlt]
 clear hlt
 refine GLoop_of T_ok (α:=Nat) (λk=>[(2,.ptr 0 0 4 0),(3,.ptr 1 0 4 0),(8,.i k)]) (λ_=>g.box++h.box) 2 (λk=>k≤g.nm∧∀j,j<k→(g.m j).eqB (h.m j)=true) (λk=>g.nm - k) 0 (λ_=>rfl) (by simp) (by simp[go_sem]) (by simp[go_sem,m1,m2,m3,m4]) ?_
 intro k3 J3 hi
 by_cases hlt:k3<g.nm
 ·simp[go_sem,hlt]
  refine GDraw_all T_ok (by kernel_rfl) (by kernel_rfl) ?_
  have hlt':k3<h.nm:=by omega
  by_cases he:(g.m k3).eqB (h.m k3)=true
  ·have he':=he
   simp[MarkG.eqB] at he'
   simp[go_sem,hlt,hlt',he']
   refine⟨by omega,k3+1,⟨by omega,λj hj=>?_⟩,by omega,by simp⟩
   by_cases hjk:j=k3
   ·subst hjk;exact he
   ·exact hi.2 j (by omega)
  ·have hs:g.s4 h=false:=s_no hlt he
   simp[go_sem,hlt,hlt']
   rw[if_pos (Classical.byContradiction λhc=>he (by simp at hc;simp[MarkG.eqB,hc]))]
   simp[RG.same,hs]
 have hs4:g.s4 h=true:=s_of n4 λj hj=>hi.2 j (by omega)
 clear hi
 simp[go_sem,hlt]
 clear hlt
 simp[RG.same,hs1,hs2,hs3,hs4]
end Go.Gx.Rg
namespace Go.Gx.Sr
open Go.RowKit Go.Proofs Go.Proofs.YtncccnmmjfapnaaGreat Go.Gx.Ix
def sR (x y:SvG):Prop:=x.num=y.num∧x.den=y.den∧x.turns=y.turns∧x.mage=y.mage∧x.key=y.key∧x.now=y.now∧x.g.smB y.g=true∧x.r.same y.r=true∧x.ch=y.ch∧x.lg=y.lg∧x.ir=y.ir∧x.ks=y.ks
theorem same_iff {x y:SvG}:x.same y=true↔sR x y:=by
 unfold SvG.same SvG.sm1 SvG.sm2 sR
 simp only [Bool.and_eq_true,decide_eq_true_eq]
 constructor
 ·rintro⟨⟨⟨⟨a1,a2⟩,a3⟩,a4⟩,⟨⟨⟨⟨⟨b1,b2⟩,b3⟩,b4⟩,b5⟩,b6⟩,c1,c2⟩
  exact⟨b1,b2,b3,b4,b5,b6,c1,c2,a2,a4,a1,a3⟩
 ·rintro⟨b1,b2,b3,b4,b5,b6,c1,c2,a2,a4,a1,a3⟩
  exact⟨⟨⟨⟨a1,a2⟩,a3⟩,a4⟩,⟨⟨⟨⟨⟨b1,b2⟩,b3⟩,b4⟩,b5⟩,b6⟩,c1,c2⟩
theorem same29 (x y:SvG) (hx:x.OK) (hy:y.OK):Pure Tryz.prog 29 [x.sv,y.sv] (· =.b (x.same y)):=by
 obtain⟨c,hcv⟩:∃c,x.same y=c:=⟨_,rfl⟩
 rw[hcv]
 have hc:c=true↔sR x y:=by rw[← hcv];exact same_iff
 have hno:¬sR x y→c=false:=λh=>by
  cases c
  ·rfl
  ·exact absurd (hc.1 rfl) h
 clear hcv
 have a1:=hx.ir;have a2:=hx.ch;have a3:=hx.ks;have a4:=hx.lg
 refine pure_of_GC T_ok Tryz.func29 rfl (by kernel_rfl) (nb rfl) rfl rfl ?_
 simp[go_sem]
 by_cases c1:x.num=y.num∧x.den=y.den∧x.turns=y.turns∧x.mage=y.mage∧(x.key.toNat:Int)=(y.key.toNat:Int)
 rotate_left
 ·have:=hno λh=>c1 ⟨h.1,h.2.1,h.2.2.1,h.2.2.2.1,by rw[h.2.2.2.2.1]⟩
  subst this
  simp[go_sem,c1]
 have e5:x.key=y.key:=BitVec.eq_of_toNat_eq (Int.ofNat_inj.1 c1.2.2.2.2)
 by_cases c2:x.now=y.now
 rotate_left
 ·have:=hno λh=>c2 h.2.2.2.2.2.1
  subst this
  simp[go_sem,c1,c2]
 simp[go_sem,c1,c2]
 refine call_val (same33 x.g y.g hx.g.ok hy.g.ok) rfl rfl ?_
 cases h1:x.g.smB y.g
 ·have:=hno λh=>by have:=h.2.2.2.2.2.2.1;rw[h1] at this;cases this
  subst this
  simp[go_sem]
 simp[go_sem]
 refine call_val (Rg.same22 x.r y.r hx.r hy.r) rfl rfl ?_
 cases h2:x.r.same y.r
 ·have:=hno λh=>by have:=h.2.2.2.2.2.2.2.1;rw[h2] at this;cases this
  subst this
  simp[go_sem]
 simp[go_sem]
 refine call_val (same78 x.ch y.ch (by omega)) rfl rfl ?_
 by_cases h3:x.ch=y.ch
 rotate_left
 ·have:=hno λh=>h3 h.2.2.2.2.2.2.2.2.1
  subst this
  simp[go_sem,h3]
 simp[go_sem,h3]
 refine call_val (same79 x.lg y.lg (by omega)) rfl rfl ?_
 by_cases h4:x.lg=y.lg
 rotate_left
 ·have:=hno λh=>h4 h.2.2.2.2.2.2.2.2.2.1
  subst this
  simp[go_sem,h4]
 by_cases n5:x.ir.length=y.ir.length
 rotate_left
 ·have:=hno λh=>n5 (by rw[h.2.2.2.2.2.2.2.2.2.2.1])
  subst this
  have n5':¬(x.ir.length:Int)=y.ir.length:=by omega
  simp[go_sem,h4,n5']
 by_cases n6:x.ks.length=y.ks.length
 rotate_left
 ·have:=hno λh=>n6 (by rw[h.2.2.2.2.2.2.2.2.2.2.2])
  subst this
  have n6':¬(x.ks.length:Int)=y.ks.length:=by omega
  simp[go_sem,h4,n5,n6']
 simp[go_sem,h4,n5,n6]
 refine GLoop_of T_ok (α:=Nat) (λk=>[(2,.ptr 0 0 17 0),(3,.ptr 1 0 17 0),(5,.i k)]) (λ_=>[some (.box x.cells),some (.box y.cells)]) 2 (λk=>k≤x.ir.length∧∀j,j<k→∀(h1:j<x.ir.length) (h2:j<y.ir.length),x.ir[j]=y.ir[j]) (λk=>x.ir.length - k) 0 (λ_=>rfl) (by simp) (by simp[go_sem]) (by simp[go_sem]) ?_
 intro k J hi
 by_cases hlt:k<x.ir.length
 ·have hlt2:k<y.ir.length:=by omega
  have q:=rowOf_get (f:=IrG.f) hlt
  have q2:=rowOf_get (f:=IrG.f) hlt2
  simp[go_sem,hlt,hlt2]
  refine GDraw_all T_ok (by kernel_rfl) (by kernel_rfl) ?_
  have hiff:=IrG.iff x.ir[k] y.ir[k]
  by_cases he:x.ir[k]=y.ir[k]
  ·simp[go_sem,hlt,hlt2,q,q2,he]
   refine⟨by omega,k+1,⟨by omega,λj hj h1 h2=>?_⟩,by omega,by omega⟩
   by_cases hjk:j=k
   ·subst hjk;exact he
   ·exact hi.2 j (by omega) h1 h2
  ·have he':=λq=>he (hiff.2 q)
   have:=hno λh=>he (by have:=h.2.2.2.2.2.2.2.2.2.2.1;simp[this])
   subst this
   simp[go_sem,hlt,hlt2,q,q2]
   try (intro e0 e1;exact absurd ⟨by first | exact e0 | exact Int.ofNat_inj.1 e0 | omega,by first | exact e1 | exact Int.ofNat_inj.1 e1 | omega⟩ he')
 have r1:x.ir=y.ir:=eq_of_all n5 λj h1 h2=>hi.2 j (by omega) h1 h2
 clear hi
 simp[go_sem,hlt]
 refine GLoop_of T_ok (α:=Nat) (λk=>[(2,.ptr 0 0 17 0),(3,.ptr 1 0 17 0),(6,.i k)]) (λ_=>[some (.box x.cells),some (.box y.cells)]) 2 (λk=>k≤x.ks.length∧∀j,j<k→∀(h1:j<x.ks.length) (h2:j<y.ks.length),x.ks[j]=y.ks[j]) (λk=>x.ks.length - k) 0 (λ_=>rfl) (by simp) (by simp[go_sem]) (by simp[go_sem]) ?_
 intro k J hi
 by_cases hlt:k<x.ks.length
 ·have hlt2:k<y.ks.length:=by omega
  have q:=rowOf_get (f:=KsG.f) hlt
  have q2:=rowOf_get (f:=KsG.f) hlt2
  simp[go_sem,hlt,hlt2]
  refine GDraw_all T_ok (by kernel_rfl) (by kernel_rfl) ?_
  have hiff:=KsG.iff x.ks[k] y.ks[k]
  by_cases he:x.ks[k]=y.ks[k]
  ·simp[go_sem,hlt,hlt2,q,q2,he]
   refine⟨by omega,k+1,⟨by omega,λj hj h1 h2=>?_⟩,by omega,by omega⟩
   by_cases hjk:j=k
   ·subst hjk;exact he
   ·exact hi.2 j (by omega) h1 h2
  ·have he':=λq=>he (hiff.2 q)
   have:=hno λh=>he (by have:=h.2.2.2.2.2.2.2.2.2.2.2;simp[this])
   subst this
   simp[go_sem,hlt,hlt2,q,q2]
   try (intro e0 e1 e2 e3;exact absurd ⟨by first | exact e0 | exact Int.ofNat_inj.1 e0 | omega,by first | exact e1 | exact Int.ofNat_inj.1 e1 | omega,by first | exact e2 | exact Int.ofNat_inj.1 e2 | omega,by first | exact e3 | exact Int.ofNat_inj.1 e3 | omega⟩ he')
 have r2:x.ks=y.ks:=eq_of_all n6 λj h1 h2=>hi.2 j (by omega) h1 h2
 clear hi
 simp[go_sem,hlt]
 have:c=true:=hc.2 ⟨c1.1,c1.2.1,c1.2.2.1,c1.2.2.2.1,e5,c2,h1,h2,h3,h4,r1,r2⟩
 subst this
 rfl
def rlZ:Rg.RuleG:=⟨0,0,0,0,0,0,0,0⟩
def waZ:Rg.WarG:=⟨0,0,0,0⟩
def coZ:Rg.ConG:=⟨0,0,0⟩
def maZ:Rg.MarkG:=⟨0,0,0,0,0⟩
def quZ:Rg.QG:=⟨0,0,0,0,0,0,λ_=>0⟩
def ordK (k:Int):OrG:=⟨k,0,0,0,false,IrG.z,0#64,rlZ,waZ,coZ,maZ,quZ⟩
def pl (o:OrG):OrG:=
 if o.k=1 then {ordK 1 with n:=o.n} else
 if o.k=2 then {ordK 2 with n:=o.n,x:=o.x} else
 if o.k=3 then {ordK 3 with n:=o.n,a:=o.a,b:=o.b,f:=o.f} else
 if o.k=4 then {ordK 4 with a:=o.a,b:=o.b} else
 if o.k=5 then {ordK 5 with a:=o.a} else
 if o.k=6 then {ordK 6 with rl:=o.rl} else
 if o.k=7 then {ordK 7 with w:=o.w} else
 if o.k=8 then {ordK 8 with c:=o.c} else
 if o.k=9 then {ordK 9 with m:=o.m} else
 if o.k=10 then {ordK 10 with a:=o.a,f:=o.f} else
 if o.k=11 then {ordK 11 with n:=o.n} else
 if o.k=12 then {ordK 12 with a:=o.a,x:=o.x,s:=o.s} else
 if o.k=13 then {ordK 13 with x:=o.x,s:=o.s,q:={o.q with w:=0,t:=0}} else
 if o.k=14 then {ordK 14 with n:=o.n,a:=o.a,x:=o.x,s:=o.s} else
 ordK o.k
theorem plain192 (o:OrG):Pure Tryz.prog 192 [o.sv] (· =(pl o).sv):=by
 refine Pure.ofSub ?_
 refine pure_of_GC T_ok Tryz.func192 rfl (by kernel_rfl) (nb rfl) rfl rfl ?_
 simp[go_sem]
 unfold pl
 by_cases k1:o.k=1
 ·simp[go_sem,k1,ordK,rlZ,waZ,coZ,maZ,quZ,IrG.z]
 by_cases k2:o.k=2
 ·simp[go_sem,k2,ordK,rlZ,waZ,coZ,maZ,quZ,IrG.z]
  refine GDraw_l (t:=(.take 0 (.take 1 (.take 2 (.take 3 (.take 4 (.alt 5 [4,3,2,1,0] (.take 6 (.alt 7 [6,3,2] (.done []) .nil)) .nil))))))) T_ok (by kernel_rfl) (by kernel_rfl) (by kernel_rfl) (λ_ _ _ _ h=>h) ?_
  simp[go_sem]
 by_cases k3:o.k=3
 ·simp[go_sem,k3,ordK,rlZ,waZ,coZ,maZ,quZ,IrG.z]
  refine GDraw_l (t:=(.take 0 (.take 1 (.take 2 (.take 3 (.take 4 (.take 5 (.take 6 (.take 7 (.take 8 (.alt 9 [8,7,6,5,4,3,2,1,0] (.take 10 (.alt 11 [10,7,6,5,4,3,2] (.take 12 (.alt 13 [12,7,6,5,4] (.take 14 (.alt 15 [14,7,6] (.done []) .nil)) .nil)) .nil)) .nil))))))))))) T_ok (by kernel_rfl) (by kernel_rfl) (by kernel_rfl) (λ_ _ _ _ h=>h) ?_
  simp[go_sem]
 by_cases k4:o.k=4
 ·simp[go_sem,k4,ordK,rlZ,waZ,coZ,maZ,quZ,IrG.z]
  refine GDraw_l (t:=(.take 0 (.take 1 (.take 2 (.take 3 (.take 4 (.alt 5 [4,3,2,1,0] (.take 6 (.alt 7 [6,3,2] (.done []) .nil)) .nil))))))) T_ok (by kernel_rfl) (by kernel_rfl) (by kernel_rfl) (λ_ _ _ _ h=>h) ?_
  simp[go_sem]
 by_cases k5:o.k=5
 ·simp[go_sem,k5,ordK,rlZ,waZ,coZ,maZ,quZ,IrG.z]
 by_cases k6:o.k=6
 ·simp[go_sem,k6,ordK,rlZ,waZ,coZ,maZ,quZ,IrG.z]
 by_cases k7:o.k=7
 ·simp[go_sem,k7,ordK,rlZ,waZ,coZ,maZ,quZ,IrG.z]
 by_cases k8:o.k=8
 ·simp[go_sem,k8,ordK,rlZ,waZ,coZ,maZ,quZ,IrG.z]
 by_cases k9:o.k=9
 ·simp[go_sem,k9,ordK,rlZ,waZ,coZ,maZ,quZ,IrG.z]
 by_cases k10:o.k=10
 ·simp[go_sem,k10,ordK,rlZ,waZ,coZ,maZ,quZ,IrG.z]
  refine GDraw_l (t:=(.take 0 (.take 1 (.take 2 (.take 3 (.take 4 (.alt 5 [4,3,2,1,0] (.take 6 (.alt 7 [6,3,2] (.done []) .nil)) .nil))))))) T_ok (by kernel_rfl) (by kernel_rfl) (by kernel_rfl) (λ_ _ _ _ h=>h) ?_
  simp[go_sem]
 by_cases k11:o.k=11
 ·simp[go_sem,k11,ordK,rlZ,waZ,coZ,maZ,quZ,IrG.z]
 by_cases k12:o.k=12
 ·simp[go_sem,k12,ordK,rlZ,waZ,coZ,maZ,quZ,IrG.z]
  refine GDraw_l (t:=(.take 0 (.take 1 (.take 2 (.take 3 (.take 4 (.take 5 (.take 6 (.alt 7 [6,5,4,3,2,1,0] (.take 8 (.alt 9 [8,5,4,3,2] (.take 10 (.alt 11 [10,5,4] (.done []) .nil)) .nil)) .nil))))))))) T_ok (by kernel_rfl) (by kernel_rfl) (by kernel_rfl) (λ_ _ _ _ h=>h) ?_
  simp[go_sem]
 by_cases k13:o.k=13
 ·simp[go_sem,k13,ordK,rlZ,waZ,coZ,maZ,quZ,IrG.z]
  refine GDraw_l (t:=(.take 0 (.take 1 (.take 2 (.take 3 (.take 4 (.alt 5 [4,3,2,1,0] (.take 6 (.alt 7 [6,3,2] (.done []) .nil)) .nil))))))) T_ok (by kernel_rfl) (by kernel_rfl) (by kernel_rfl) (λ_ _ _ _ h=>h) ?_
  simp[go_sem]
 by_cases k14:o.k=14
 ·simp[go_sem,k14,ordK,rlZ,waZ,coZ,maZ,quZ,IrG.z]
  refine GDraw_l (t:=(.take 0 (.take 1 (.take 2 (.take 3 (.take 4 (.take 5 (.take 6 (.take 7 (.take 8 (.alt 9 [8,7,6,5,4,3,2,1,0] (.take 10 (.alt 11 [10,7,6,5,4,3,2] (.take 12 (.alt 13 [12,7,6,5,4] (.take 14 (.alt 15 [14,7,6] (.done []) .nil)) .nil)) .nil)) .nil))))))))))) T_ok (by kernel_rfl) (by kernel_rfl) (by kernel_rfl) (λ_ _ _ _ h=>h) ?_
  simp[go_sem]
 simp[go_sem,k1,k2,k3,k4,k5,k6,k7,k8,k9,k10,k11,k12,k13,k14,ordK,rlZ,waZ,coZ,maZ,quZ,IrG.z]
end Go.Gx.Sr
namespace Go.Gx.Rg
open Go.RowKit Go.Proofs Go.Proofs.YtncccnmmjfapnaaGreat
def QG.sk (a b:QG):Bool:=decide (a.nk=b.nk)&&(List.range a.nk).all λi=>decide (a.k i=b.k i)
def QG.same (a b:QG):Bool:=decide (a.p=b.p)&&decide (a.r=b.r)&&decide (a.l=b.l)&&decide (a.w=b.w)&&decide (a.t=b.t)&&a.sk b
theorem sameQuery42 (a b:QG) (ha:(a.nk:Int)<2 ^ 61) (hb:(b.nk:Int)<2 ^ 61):Pure Tryz.prog 100 [a.sv,b.sv] (· =.b (a.same b)):=by
 refine pure_of_GC T_ok Tryz.func100 rfl (by kernel_rfl) (nb rfl) rfl rfl ?_
 have hk:=(sameInts34 a.nk b.nk ha hb (λi _=>.i (a.k i)) (λi _=>.i (b.k i)) a.k b.k (λi _=>rfl) (λi _=>rfl)).val (v':=.b (a.sk b)) rfl
 unfold QG.same
 by_cases h1:a.p=b.p
 rotate_left
 ·simp[go_sem,h1]
 by_cases h2:a.r=b.r
 rotate_left
 ·simp[go_sem,h1,h2]
 by_cases h3:a.l=b.l
 rotate_left
 ·simp[go_sem,h1,h2,h3]
 by_cases h4:a.w=b.w
 rotate_left
 ·simp[go_sem,h1,h2,h3,h4]
 by_cases h5:a.t=b.t
 rotate_left
 ·simp[go_sem,h1,h2,h3,h4,h5]
 simp[go_sem,h1,h2,h3,h4,h5]
 refine call_val hk rfl rfl ?_
 cases a.sk b <;> simp[go_sem]
end Go.Gx.Rg
namespace Go.Gx.Sr
open Go.RowKit Go.Proofs Go.Proofs.YtncccnmmjfapnaaGreat Go.Gx.Ix
def soR (a b:OrG):Prop:=a.k=b.k∧a.n=b.n∧a.a=b.a∧a.b=b.b∧a.f=b.f∧a.x=b.x∧a.s=b.s∧a.rl=b.rl∧a.w=b.w∧a.c=b.c∧a.m=b.m∧a.q.same b.q=true
theorem sameOrder44 (a b:OrG) (ha:(a.q.nk:Int)<2 ^ 61) (hb:(b.q.nk:Int)<2 ^ 61) (c:Bool) (hc:c=true↔soR a b):Pure Tryz.prog 44 [a.sv,b.sv] (· =.b c):=by
 have hno:¬soR a b→c=false:=λh=>by
  cases c
  ·rfl
  ·exact absurd (hc.1 rfl) h
 refine pure_of_GC T_ok Tryz.func44 rfl (by kernel_rfl) (nb rfl) rfl rfl ?_
 simp[go_sem]
 by_cases c0:a.k=b.k
 rotate_left
 ·rw[if_neg c0]
  exact hno λh=>c0 h.1
 rw[if_pos c0]
 by_cases c1:a.n=b.n
 rotate_left
 ·rw[if_neg c1]
  exact hno λh=>c1 h.2.1
 rw[if_pos c1]
 by_cases c2:a.a=b.a
 rotate_left
 ·rw[if_neg c2]
  exact hno λh=>c2 h.2.2.1
 rw[if_pos c2]
 by_cases c3:a.b=b.b
 rotate_left
 ·rw[if_neg c3]
  exact hno λh=>c3 h.2.2.2.1
 rw[if_pos c3]
 by_cases c4:a.f=b.f
 rotate_left
 ·rw[if_neg c4]
  exact hno λh=>c4 h.2.2.2.2.1
 rw[if_pos c4]
 by_cases c5:(a.x.c.toNat:Int)=(b.x.c.toNat:Int)∧(a.x.m.toNat:Int)=(b.x.m.toNat:Int)
 rotate_left
 ·rw[if_neg c5]
  exact hno λh=>c5 ⟨by have:=h.2.2.2.2.2.1;rw[this],by have:=h.2.2.2.2.2.1;rw[this]⟩
 rw[if_pos c5]
 by_cases c6:(a.s.toNat:Int)=(b.s.toNat:Int)
 rotate_left
 ·rw[if_neg c6]
  exact hno λh=>c6 (by rw[h.2.2.2.2.2.2.1])
 rw[if_pos c6]
 by_cases c7:a.rl.p=b.rl.p∧a.rl.r=b.rl.r∧a.rl.l=b.rl.l∧a.rl.f=b.rl.f∧a.rl.t=b.rl.t∧a.rl.k=b.rl.k∧a.rl.s=b.rl.s∧a.rl.b=b.rl.b
 rotate_left
 ·rw[if_neg c7]
  exact hno λh=>c7 ⟨by have:=h.2.2.2.2.2.2.2.1;rw[this],by have:=h.2.2.2.2.2.2.2.1;rw[this],by have:=h.2.2.2.2.2.2.2.1;rw[this],by have:=h.2.2.2.2.2.2.2.1;rw[this],by have:=h.2.2.2.2.2.2.2.1;rw[this],by have:=h.2.2.2.2.2.2.2.1;rw[this],by have:=h.2.2.2.2.2.2.2.1;rw[this],by have:=h.2.2.2.2.2.2.2.1;rw[this]⟩
 rw[if_pos c7]
 by_cases c8:a.w.l=b.w.l∧a.w.p=b.w.p∧a.w.f=b.w.f∧a.w.t=b.w.t
 rotate_left
 ·rw[if_neg c8]
  exact hno λh=>c8 ⟨by have:=h.2.2.2.2.2.2.2.2.1;rw[this],by have:=h.2.2.2.2.2.2.2.2.1;rw[this],by have:=h.2.2.2.2.2.2.2.2.1;rw[this],by have:=h.2.2.2.2.2.2.2.2.1;rw[this]⟩
 rw[if_pos c8]
 by_cases c9:a.c.p=b.c.p∧a.c.q=b.c.q∧a.c.u=b.c.u
 rotate_left
 ·rw[if_neg c9]
  exact hno λh=>c9 ⟨by have:=h.2.2.2.2.2.2.2.2.2.1;rw[this],by have:=h.2.2.2.2.2.2.2.2.2.1;rw[this],by have:=h.2.2.2.2.2.2.2.2.2.1;rw[this]⟩
 rw[if_pos c9]
 by_cases c10:a.m.l=b.m.l∧a.m.p=b.m.p∧a.m.s=b.m.s∧a.m.u=b.m.u∧a.m.n=b.m.n
 rotate_left
 ·rw[if_neg c10]
  exact hno λh=>c10 ⟨by have:=h.2.2.2.2.2.2.2.2.2.2.1;rw[this],by have:=h.2.2.2.2.2.2.2.2.2.2.1;rw[this],by have:=h.2.2.2.2.2.2.2.2.2.2.1;rw[this],by have:=h.2.2.2.2.2.2.2.2.2.2.1;rw[this],by have:=h.2.2.2.2.2.2.2.2.2.2.1;rw[this]⟩
 rw[if_pos c10]
 refine call_val (Rg.sameQuery42 a.q b.q ha hb) rfl rfl ?_
 have e5:a.x=b.x:=(IrG.iff _ _).2 ⟨Int.ofNat_inj.1 c5.1,Int.ofNat_inj.1 c5.2⟩
 have e6:a.s=b.s:=BitVec.eq_of_toNat_eq (Int.ofNat_inj.1 c6)
 have e7:a.rl=b.rl:=by
  obtain⟨x0,x1,x2,x3,x4,x5,x6,x7⟩:=c7
  cases h1:a.rl;cases h2:b.rl;simp_all
 have e8:a.w=b.w:=by
  obtain⟨x0,x1,x2,x3⟩:=c8
  cases h1:a.w;cases h2:b.w;simp_all
 have e9:a.c=b.c:=by
  obtain⟨x0,x1,x2⟩:=c9
  cases h1:a.c;cases h2:b.c;simp_all
 have e10:a.m=b.m:=by
  obtain⟨x0,x1,x2,x3,x4⟩:=c10
  cases h1:a.m;cases h2:b.m;simp_all
 cases h11:a.q.same b.q
 ·have:=hno λh=>by have:=h.2.2.2.2.2.2.2.2.2.2.2;rw[h11] at this;cases this
  subst this
  simp[go_sem]
 have:c=true:=hc.2 ⟨c0,c1,c2,c3,c4,e5,e6,e7,e8,e9,e10,h11⟩
 subst this
 simp[go_sem]
theorem z64 (w:W64):w.toNat=0↔w=0#64:=by rw[← BitVec.toNat_inj];rfl
theorem bS_iff (o:OrG):o.bS=false↔o.s=0#64:=by
 simp[OrG.bS,z64]
theorem bI_iff (o:OrG):o.bI=false↔o.x=IrG.z:=by
 have:=IrG.iff o.x IrG.z
 rw[this]
 simp[OrG.bI,IrG.z]
theorem bQ_iff (o:OrG):(o.bQ=false∧o.q.w=0∧o.q.t=0)↔o.q.same quZ=true:=by
 have e:o.q.same quZ=(decide (o.q.p=0)&&decide (o.q.r=0)&&decide (o.q.l=0)&&decide (o.q.w=0)&&decide (o.q.t=0)&&(decide (o.q.nk=0)&&(List.range o.q.nk).all λi=>decide (o.q.k i=0))):=rfl
 rw[e]
 unfold OrG.bQ
 simp only [Bool.or_eq_false_iff,Bool.not_eq_false',decide_eq_true_eq,decide_eq_false_iff_not,Bool.and_eq_true,List.all_eq_true,List.mem_range]
 constructor
 ·rintro⟨⟨⟨⟨a,b⟩,c⟩,d⟩,e,f⟩
  have:o.q.nk=0:=by omega
  exact⟨⟨⟨⟨⟨a,b⟩,c⟩,e⟩,f⟩,this,λi hi=>by omega⟩
 ·rintro⟨⟨⟨⟨⟨a,b⟩,c⟩,e⟩,f⟩,g,_⟩
  exact⟨⟨⟨⟨a,b⟩,c⟩,by omega⟩,e,f⟩
theorem bQ_13 (o:OrG):(o.q.w=0∧o.q.t=0)↔o.q.same {o.q with w:=0,t:=0}=true:=by
 simp[Rg.QG.same,Rg.QG.sk]
theorem bR_iff (o:OrG):o.bR=false↔o.rl=rlZ:=by
 simp[OrG.bR,rlZ]
 cases o.rl;simp
theorem bW_iff (o:OrG):o.bW=false↔o.w=waZ:=by
 simp[OrG.bW,waZ]
 cases o.w;simp
theorem bC_iff (o:OrG):o.bC=false↔o.c=coZ:=by
 simp[OrG.bC,coZ]
 cases o.c;simp
theorem bM_iff (o:OrG):o.bM=false↔o.m=maZ:=by
 simp[OrG.bM,maZ]
 cases o.m;simp
theorem ordB_iff (o:OrG):ordB o=true↔(1≤o.k∧o.k≤14)∧soR o (pl o):=by
 have hS:=bS_iff o;have hI:=bI_iff o;have hQ:=bQ_iff o;have hR:=bR_iff o;have hW:=bW_iff o;have hC:=bC_iff o;have hM:=bM_iff o;have h13:=bQ_13 o
 by_cases k1:o.k=1
 ·have e1:ordB o=ordZ o 0 o.a o.b o.f o.bS o.bI o.bQ o.bR o.bW o.bC o.bM:=by simp[ordB,k1]
  have e2:pl o={ordK 1 with n:=o.n}:=by simp[pl,k1]
  rw[e1,e2]
  unfold ordZ soR ordK
  rw[decide_eq_true_eq]
  simp only [hS,hI,hR,hW,hC,hM,k1]
  grind
 by_cases k2:o.k=2
 ·have e1:ordB o=ordZ o 0 o.a o.b o.f o.bS false o.bQ o.bR o.bW o.bC o.bM:=by simp[ordB,k2]
  have e2:pl o={ordK 2 with n:=o.n,x:=o.x}:=by simp[pl,k2]
  rw[e1,e2]
  unfold ordZ soR ordK
  rw[decide_eq_true_eq]
  simp only [hS,hI,hR,hW,hC,hM,k2]
  grind
 by_cases k3:o.k=3
 ·have e1:ordB o=ordZ o 0 0 0 false o.bS o.bI o.bQ o.bR o.bW o.bC o.bM:=by simp[ordB,k3]
  have e2:pl o={ordK 3 with n:=o.n,a:=o.a,b:=o.b,f:=o.f}:=by simp[pl,k3]
  rw[e1,e2]
  unfold ordZ soR ordK
  rw[decide_eq_true_eq]
  simp only [hS,hI,hR,hW,hC,hM,k3]
  grind
 by_cases k4:o.k=4
 ·have e1:ordB o=ordZ o o.n 0 0 o.f o.bS o.bI o.bQ o.bR o.bW o.bC o.bM:=by simp[ordB,k4]
  have e2:pl o={ordK 4 with a:=o.a,b:=o.b}:=by simp[pl,k4]
  rw[e1,e2]
  unfold ordZ soR ordK
  rw[decide_eq_true_eq]
  simp only [hS,hI,hR,hW,hC,hM,k4]
  grind
 by_cases k5:o.k=5
 ·have e1:ordB o=ordZ o o.n 0 o.b o.f o.bS o.bI o.bQ o.bR o.bW o.bC o.bM:=by simp[ordB,k5]
  have e2:pl o={ordK 5 with a:=o.a}:=by simp[pl,k5]
  rw[e1,e2]
  unfold ordZ soR ordK
  rw[decide_eq_true_eq]
  simp only [hS,hI,hR,hW,hC,hM,k5]
  grind
 by_cases k6:o.k=6
 ·have e1:ordB o=ordZ o o.n o.a o.b o.f o.bS o.bI o.bQ false o.bW o.bC o.bM:=by simp[ordB,k6]
  have e2:pl o={ordK 6 with rl:=o.rl}:=by simp[pl,k6]
  rw[e1,e2]
  unfold ordZ soR ordK
  rw[decide_eq_true_eq]
  simp only [hS,hI,hR,hW,hC,hM,k6]
  grind
 by_cases k7:o.k=7
 ·have e1:ordB o=ordZ o o.n o.a o.b o.f o.bS o.bI o.bQ o.bR false o.bC o.bM:=by simp[ordB,k7]
  have e2:pl o={ordK 7 with w:=o.w}:=by simp[pl,k7]
  rw[e1,e2]
  unfold ordZ soR ordK
  rw[decide_eq_true_eq]
  simp only [hS,hI,hR,hW,hC,hM,k7]
  grind
 by_cases k8:o.k=8
 ·have e1:ordB o=ordZ o o.n o.a o.b o.f o.bS o.bI o.bQ o.bR o.bW false o.bM:=by simp[ordB,k8]
  have e2:pl o={ordK 8 with c:=o.c}:=by simp[pl,k8]
  rw[e1,e2]
  unfold ordZ soR ordK
  rw[decide_eq_true_eq]
  simp only [hS,hI,hR,hW,hC,hM,k8]
  grind
 by_cases k9:o.k=9
 ·have e1:ordB o=ordZ o o.n o.a o.b o.f o.bS o.bI o.bQ o.bR o.bW o.bC false:=by simp[ordB,k9]
  have e2:pl o={ordK 9 with m:=o.m}:=by simp[pl,k9]
  rw[e1,e2]
  unfold ordZ soR ordK
  rw[decide_eq_true_eq]
  simp only [hS,hI,hR,hW,hC,hM,k9]
  grind
 by_cases k10:o.k=10
 ·have e1:ordB o=ordZ o o.n 0 o.b false o.bS o.bI o.bQ o.bR o.bW o.bC o.bM:=by simp[ordB,k10]
  have e2:pl o={ordK 10 with a:=o.a,f:=o.f}:=by simp[pl,k10]
  rw[e1,e2]
  unfold ordZ soR ordK
  rw[decide_eq_true_eq]
  simp only [hS,hI,hR,hW,hC,hM,k10]
  grind
 by_cases k11:o.k=11
 ·have e1:ordB o=ordZ o 0 o.a o.b o.f o.bS o.bI o.bQ o.bR o.bW o.bC o.bM:=by simp[ordB,k11]
  have e2:pl o={ordK 11 with n:=o.n}:=by simp[pl,k11]
  rw[e1,e2]
  unfold ordZ soR ordK
  rw[decide_eq_true_eq]
  simp only [hS,hI,hR,hW,hC,hM,k11]
  grind
 by_cases k12:o.k=12
 ·have e1:ordB o=ordZ o o.n 0 o.b o.f false false o.bQ o.bR o.bW o.bC o.bM:=by simp[ordB,k12]
  have e2:pl o={ordK 12 with a:=o.a,x:=o.x,s:=o.s}:=by simp[pl,k12]
  rw[e1,e2]
  unfold ordZ soR ordK
  rw[decide_eq_true_eq]
  simp only [hS,hI,hR,hW,hC,hM,k12]
  grind
 by_cases k13:o.k=13
 ·have e1:ordB o=ordZ o o.n o.a o.b o.f false false false o.bR o.bW o.bC o.bM:=by simp[ordB,k13]
  have e2:pl o={ordK 13 with x:=o.x,s:=o.s,q:={o.q with w:=0,t:=0}}:=by simp[pl,k13]
  rw[e1,e2]
  unfold ordZ soR ordK
  rw[decide_eq_true_eq]
  simp only [hS,hI,hR,hW,hC,hM,k13]
  grind
 by_cases k14:o.k=14
 ·have e1:ordB o=ordZ o 0 0 o.b o.f false false o.bQ o.bR o.bW o.bC o.bM:=by simp[ordB,k14]
  have e2:pl o={ordK 14 with n:=o.n,a:=o.a,x:=o.x,s:=o.s}:=by simp[pl,k14]
  rw[e1,e2]
  unfold ordZ soR ordK
  rw[decide_eq_true_eq]
  simp only [hS,hI,hR,hW,hC,hM,k14]
  grind
 have:ordB o=false:=by simp only [ordB,k1,k2,k3,k4,k5,k6,k7,k8,k9,k10,k11,k12,k13,k14,if_false]
 rw[this]
 constructor
 ·intro h;cases h
 ·intro h;omega
theorem pl_nk (o:OrG) (h:(o.q.nk:Int)<2 ^ 61):((pl o).q.nk:Int)<2 ^ 61:=by
 have e:(pl o).q.nk=0∨(pl o).q.nk=o.q.nk:=by
  by_cases k13:o.k=13
  ·exact .inr (by simp[pl,k13])
  ·have:(pl o).q=quZ:=by simp[pl,k13,apply_ite OrG.q,ordK]
   exact .inl (by rw[this];rfl)
 rcases e with e | e
 ·rw[e];omega
 ·rw[e];exact h
theorem validOrder92 (o:OrG) (h:(o.q.nk:Int)<2 ^ 61):Pure Tryz.prog 92 [o.sv] (· =.b (ordB o)):=by
 obtain⟨c,hcv⟩:∃c,ordB o=c:=⟨_,rfl⟩
 rw[hcv]
 have hc:c=true↔(1≤o.k∧o.k≤14)∧soR o (pl o):=by rw[← hcv];exact ordB_iff o
 refine pure_of_GC T_ok Tryz.func92 rfl (by kernel_rfl) (nb rfl) rfl rfl ?_
 simp[go_sem]
 refine GDraw_all T_ok (by kernel_rfl) (by kernel_rfl) ?_
 have hno:¬((1≤o.k∧o.k≤14)∧soR o (pl o))→c=false:=λh=>by
  cases c
  ·rfl
  ·exact absurd (hc.1 rfl) h
 by_cases h1:1≤o.k
 rotate_left
 ·have:=hno λh=>h1 h.1.1
  subst this
  simp[go_sem,h1]
 by_cases h2:o.k≤14
 rotate_left
 ·have:=hno λh=>h2 h.1.2
  subst this
  simp[go_sem,h1,h2]
 have hc':c=true↔soR o (pl o):=by rw[hc];exact⟨λh=>h.2,λh=>⟨⟨h1,h2⟩,h⟩⟩
 have hp:=plain192 o
 have hs:=sameOrder44 o (pl o) h (pl_nk o h) c hc'
 clear hc hc' hno hcv
 obtain⟨P,hP⟩:∃P,pl o=P:=⟨_,rfl⟩
 rw[hP] at hp hs
 simp[go_sem,h1,h2]
 refine⟨_,dcall_val hp rfl rfl,?_⟩
 simp[go_sem]
 refine⟨_,dcall_val hs rfl rfl,?_⟩
 simp[go_sem]
theorem checkOrder35 (o:OrG) (h:(o.q.nk:Int)<2 ^ 61):Pure Tryz.prog 35 [o.sv] (· =.i (ordE o)):=by
 refine pure_of_GC T_ok Tryz.func35 rfl (by kernel_rfl) (nb rfl) rfl rfl ?_
 unfold ordE
 simp[go_sem]
 refine call_val (validOrder92 o h) rfl rfl ?_
 cases ordB o <;> simp[go_sem]
theorem twin91p (g:Rg.RG) (hr:g.nr≤1000000) (hc:g.nc≤1000000) (hw:g.nw≤1000000) (hm:g.nm≤1000000):Pure Tryz.prog 91 [g.sv] (· =g.sv):=by
 refine Pure.ofSub ?_
 refine pure_of_GC T_ok Tryz.func91 rfl (by kernel_rfl) (nb rfl) rfl rfl ?_
 simp[go_sem]
 refine⟨⟨by omega,by omega⟩,⟨by omega,by omega⟩,⟨by omega,by omega⟩,⟨by omega,by omega⟩,?_⟩
 repeat' apply And.intro
 all_goals (intro i j hi hj;simp[go_sem,joined,hi,viewRV])
theorem twin33p (x:SvG) (hx:x.OK):Pure Tryz.prog 33 [x.sv] (· =x.sv):=by
 refine Pure.ofSub ?_
 refine pure_of_GC T_ok Tryz.func33 rfl (by kernel_rfl) (nb rfl) rfl rfl ?_
 have c1:=hx.g.nr;have c2:=hx.g.nl;have c3:=hx.g.nc;have c4:=hx.g.nv
 have d1:=hx.ir;have d2:=hx.rn;have d3:=hx.rc;have d4:=hx.rw';have d5:=hx.rm;have d6:=hx.ch;have d7:=hx.ks;have d8:=hx.lg
 simp[go_sem]
 refine call_val (twin25p x.g (by omega) (by omega) (by omega) λi hi=>by have:=c4 i hi;omega) rfl rfl ?_
 simp[go_sem]
 refine⟨by omega,?_⟩
 refine call_val (twin91p x.r (by omega) (by omega) (by omega) (by omega)) rfl rfl ?_
 simp[go_sem]
 refine⟨⟨by omega,by omega⟩,⟨by omega,by omega⟩,⟨by omega,by omega⟩,?_⟩
 repeat' apply And.intro
 all_goals (intro i j hi hj;simp[go_sem,joined,hi,viewRV])
end Go.Gx.Sr
