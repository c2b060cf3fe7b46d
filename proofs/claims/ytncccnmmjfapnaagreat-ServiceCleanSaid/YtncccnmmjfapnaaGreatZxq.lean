/-
  Texts of the walk, merged: Xq.
-/
import Derived.Test.YtncccnmmjfapnaaGreatZxd
set_option linter.unusedVariables false
set_option linter.unusedSimpArgs false
set_option maxRecDepth 100000
set_option maxHeartbeats 4000000
namespace Go.Gx.Sr
open Go.RowKit Go.Proofs Go.Proofs.YtncccnmmjfapnaaGreat Go.Gx.Ix
theorem mentions58 (x:SvG) (a:Int) (n:Nat) (han:a=n) (h1:n<x.g.nr) (h2:n<x.ir.length) (hr:x.g.r n=⟨0,true⟩) (he:x.ir[n]=IrG.z) (hn64:(n:Int)<64)
 (hl:∀i,i<x.g.nl→¬(x.g.l i).a=a∧¬(x.g.l i).b=a) (hc:∀i,i<x.g.nc→¬(x.g.c i).a=a∧¬(x.g.c i).b=a) (hcn:∀i,i<x.r.nc→¬(x.r.c i).p=a) (hwa:∀i,i<x.r.nw→¬(x.r.w i).p=a) (hma:∀i,i<x.r.nm→¬(x.r.m i).p=a)
 (hch:∀c∈x.ch,¬c.p=a) (hks:∀k∈x.ks,¬((and64 (shr64 k.s n) 1#64).toNat:Int)=1) (hlg:∀e∈x.lg,¬e.p=a) (ho:x.OK):Pure Tryz.prog 58 [x.sv,.i a] (· =.b false):=by
 refine pure_of_GC T_ok Tryz.func58 rfl (by kernel_rfl) (nb rfl) rfl rfl ?_
 subst han
 have hrow0:=rowOf_get (f:=IrG.f) h2
 rw[he] at hrow0
 have z0:¬(n:Int)<0:=by omega
 have z1:¬(x.g.nr:Int)≤n:=by omega
 have z2:¬(x.ir.length:Int)≤n:=by omega
 have o1:=ho.g.nr;have o2:=ho.g.nl;have o3:=ho.g.nc
 have p1:=ho.rc;have p2:=ho.rw';have p3:=ho.rm;have p4:=ho.ch;have p5:=ho.ks;have p6:=ho.lg
 simp[go_sem,z0,z1,z2,h1,h2,hr,hrow0,IrG.z]
 refine GLoop_p T_ok (α:=Nat) (λi=>[(1,.i n),(2,.ptr 0 0 17 0),(5,.b false),(60,x.g.ll),(61,.i x.g.nl),(62,.i i)]) (λi M nx=>i≤x.g.nl∧1≤nx∧M 0=some (.box x.cells)) (λi=>x.g.nl - i) 0 ?_ ?_ ?_
 ·exact⟨Nat.zero_le _,by simp[go_sem]⟩
 ·simp[go_sem]
 rintro i J M nx _ ⟨hi,hnx,m0⟩
 have b0:¬nx=0:=by omega
 have b0':¬0=nx:=by omega
 by_cases hlt:i<x.g.nl
 ·have f1:¬(x.g.l i).a=(n:Int):=(hl i hlt).1
  have f2:¬(x.g.l i).b=(n:Int):=(hl i hlt).2
  have hlt':(i:Int)<x.g.nl:=by omega
  simp[go_sem,hlt,hlt',f1,f2,m0,b0,b0']
  repeat' first | omega | assumption | apply And.intro | refine⟨i+1,?_⟩
 obtain rfl:i=x.g.nl:=by omega
 simp[go_sem,m0]
 refine GLoop_p T_ok (α:=Nat) (λi=>[(1,.i n),(2,.ptr 0 0 17 0),(5,.b false),(82,x.g.cc),(83,.i x.g.nc),(84,.i i)]) (λi M nx=>i≤x.g.nc∧1≤nx∧M 0=some (.box x.cells)) (λi=>x.g.nc - i) 0 ?_ ?_ ?_
 ·exact⟨Nat.zero_le _,hnx,by simp[go_sem,m0]⟩
 ·simp[go_sem]
 rintro i J M nx _ ⟨hi,hnx,m0⟩
 have b0:¬nx=0:=by omega
 have b0':¬0=nx:=by omega
 by_cases hlt:i<x.g.nc
 ·have f1:¬(x.g.c i).a=(n:Int):=(hc i hlt).1
  have f2:¬(x.g.c i).b=(n:Int):=(hc i hlt).2
  have hlt':(i:Int)<x.g.nc:=by omega
  simp[go_sem,hlt,hlt',f1,f2,m0,b0,b0']
  repeat' first | omega | assumption | apply And.intro | refine⟨i+1,?_⟩
 obtain rfl:i=x.g.nc:=by omega
 simp[go_sem,m0]
 refine GLoop_p T_ok (α:=Nat) (λi=>[(1,.i n),(2,.ptr 0 0 17 0),(5,.b false),(104,Rg.ConG.rs x.r.nc x.r.c),(105,.i x.r.nc),(106,.i i)]) (λi M nx=>i≤x.r.nc∧1≤nx∧M 0=some (.box x.cells)) (λi=>x.r.nc - i) 0 ?_ ?_ ?_
 ·exact⟨Nat.zero_le _,hnx,by simp[go_sem,m0]⟩
 ·simp[go_sem]
 rintro i J M nx _ ⟨hi,hnx,m0⟩
 have b0:¬nx=0:=by omega
 have b0':¬0=nx:=by omega
 by_cases hlt:i<x.r.nc
 ·have f1:¬(x.r.c i).p=(n:Int):=hcn i hlt
  have hlt':(i:Int)<x.r.nc:=by omega
  simp[go_sem,hlt,hlt',f1,m0,b0,b0']
  repeat' first | omega | assumption | apply And.intro | refine⟨i+1,?_⟩
 obtain rfl:i=x.r.nc:=by omega
 simp[go_sem,m0]
 refine GLoop_p T_ok (α:=Nat) (λi=>[(1,.i n),(2,.ptr 0 0 17 0),(5,.b false),(120,Rg.WarG.rs x.r.nw x.r.w),(121,.i x.r.nw),(122,.i i)]) (λi M nx=>i≤x.r.nw∧1≤nx∧M 0=some (.box x.cells)) (λi=>x.r.nw - i) 0 ?_ ?_ ?_
 ·exact⟨Nat.zero_le _,hnx,by simp[go_sem,m0]⟩
 ·simp[go_sem]
 rintro i J M nx _ ⟨hi,hnx,m0⟩
 have b0:¬nx=0:=by omega
 have b0':¬0=nx:=by omega
 by_cases hlt:i<x.r.nw
 ·have f1:¬(x.r.w i).p=(n:Int):=hwa i hlt
  have hlt':(i:Int)<x.r.nw:=by omega
  simp[go_sem,hlt,hlt',f1,m0,b0,b0']
  repeat' first | omega | assumption | apply And.intro | refine⟨i+1,?_⟩
 obtain rfl:i=x.r.nw:=by omega
 simp[go_sem,m0]
 refine GLoop_p T_ok (α:=Nat) (λi=>[(1,.i n),(2,.ptr 0 0 17 0),(5,.b false),(136,Rg.MarkG.rs x.r.nm x.r.m),(137,.i x.r.nm),(138,.i i)]) (λi M nx=>i≤x.r.nm∧1≤nx∧M 0=some (.box x.cells)) (λi=>x.r.nm - i) 0 ?_ ?_ ?_
 ·exact⟨Nat.zero_le _,hnx,by simp[go_sem,m0]⟩
 ·simp[go_sem]
 rintro i J M nx _ ⟨hi,hnx,m0⟩
 have b0:¬nx=0:=by omega
 have b0':¬0=nx:=by omega
 by_cases hlt:i<x.r.nm
 ·have f1:¬(x.r.m i).p=(n:Int):=hma i hlt
  have hlt':(i:Int)<x.r.nm:=by omega
  simp[go_sem,hlt,hlt',f1,m0,b0,b0']
  repeat' first | omega | assumption | apply And.intro | refine⟨i+1,?_⟩
 obtain rfl:i=x.r.nm:=by omega
 simp[go_sem,m0]
 refine GLoop_p T_ok (α:=Nat) (λi=>[(1,.i n),(2,.ptr 0 0 17 0),(5,.b false),(151,chs x.ch),(152,.i x.ch.length),(153,.i i)]) (λi M nx=>i≤x.ch.length∧1≤nx∧M 0=some (.box x.cells)) (λi=>x.ch.length - i) 0 ?_ ?_ ?_
 ·exact⟨Nat.zero_le _,hnx,by simp[go_sem,m0]⟩
 ·simp[go_sem]
 rintro i J M nx _ ⟨hi,hnx,m0⟩
 have b0:¬nx=0:=by omega
 have b0':¬0=nx:=by omega
 by_cases hlt:i<x.ch.length
 ·have hrow:=rowOf_get (f:=ChG.f) hlt
  have f1:¬x.ch[i].p=(n:Int):=hch _ (List.getElem_mem hlt)
  have hlt':(i:Int)<x.ch.length:=by omega
  simp[go_sem,hlt,hlt',hrow,f1,m0,b0,b0']
  repeat' first | omega | assumption | apply And.intro | refine⟨i+1,?_⟩
 obtain rfl:i=x.ch.length:=by omega
 simp[go_sem,m0]
 refine GLoop_p T_ok (α:=Nat) (λi=>[(1,.i n),(2,.ptr 0 0 17 0),(5,.b false),(166,kss x.ks),(167,.i x.ks.length),(168,.i i)]) (λi M nx=>i≤x.ks.length∧1≤nx∧M 0=some (.box x.cells)) (λi=>x.ks.length - i) 0 ?_ ?_ ?_
 ·exact⟨Nat.zero_le _,hnx,by simp[go_sem,m0]⟩
 ·simp[go_sem]
 rintro i J M nx _ ⟨hi,hnx,m0⟩
 have b0:¬nx=0:=by omega
 have b0':¬0=nx:=by omega
 by_cases hlt:i<x.ks.length
 ·have hrow:=rowOf_get (f:=KsG.f) hlt
  have f1:¬((and64 (shr64 x.ks[i].s n) 1#64).toNat:Int)=1:=hks _ (List.getElem_mem hlt)
  have f2:(n:Int)<64:=hn64
  have hlt':(i:Int)<x.ks.length:=by omega
  simp[go_sem,hlt,hlt',hrow,f1,f2,m0,b0,b0']
  repeat' first | omega | assumption | apply And.intro | refine⟨i+1,?_⟩
 obtain rfl:i=x.ks.length:=by omega
 simp[go_sem,m0]
 refine GLoop_p T_ok (α:=Nat) (λi=>[(1,.i n),(2,.ptr 0 0 17 0),(5,.b false),(187,lgs x.lg),(188,.i x.lg.length),(189,.i i)]) (λi M nx=>i≤x.lg.length∧1≤nx∧M 0=some (.box x.cells)) (λi=>x.lg.length - i) 0 ?_ ?_ ?_
 ·exact⟨Nat.zero_le _,hnx,by simp[go_sem,m0]⟩
 ·simp[go_sem]
 rintro i J M nx _ ⟨hi,hnx,m0⟩
 have b0:¬nx=0:=by omega
 have b0':¬0=nx:=by omega
 by_cases hlt:i<x.lg.length
 ·have hrow:=rowOf_get (f:=EnG.f) hlt
  have f1:¬x.lg[i].p=(n:Int):=hlg _ (List.getElem_mem hlt)
  have hlt':(i:Int)<x.lg.length:=by omega
  simp[go_sem,hlt,hlt',hrow,f1,m0,b0,b0']
  repeat' first | omega | assumption | apply And.intro | refine⟨i+1,?_⟩
 obtain rfl:i=x.lg.length:=by omega
 simp[go_sem,m0]
end Go.Gx.Sr
