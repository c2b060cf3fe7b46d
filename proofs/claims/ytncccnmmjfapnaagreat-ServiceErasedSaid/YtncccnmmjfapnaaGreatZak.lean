/-
  Texts of the walk, merged: Il Im In Io Ju Yc Va Ra Rb Rc Vb Vc Vd Ve Vf Rd Ru Vg Vh Vw.
-/
import Derived.Test.YtncccnmmjfapnaaGreatZai
import Derived.Test.YtncccnmmjfapnaaGreatZaj
import Derived.Test.YtncccnmmjfapnaaGreatRows
import Derived.Test.YtncccnmmjfapnaaGreatZag
import Derived.Test.YtncccnmmjfapnaaGreatZae
import Derived.Test.YtncccnmmjfapnaaGreatZah
set_option linter.unusedVariables false
set_option linter.unusedSimpArgs false
set_option maxRecDepth 100000
set_option maxHeartbeats 4000000
namespace Go.Gx.Ix
open Go.RowKit Go.Proofs Go.Proofs.YtncccnmmjfapnaaGreat
def RLe (x y:RV):Prop:=∀(Z:Nat→Prop) (w:World) (v:Value),x.rel Z w v→y.rel Z w v
theorem le_r {x y:RV} (h:RLe x y):(SV.r x).le (.r y):=λZ w v hv=>h Z w v hv
theorem le_agg {l l':List SV} (h:leL l l'):(SV.agg l).le (.agg l'):=λZ w y hy=>by
 obtain⟨vs,e,h1,h2⟩:=hy
 exact⟨vs,e,h1,leL_rel _ _ _ h h2⟩
theorem le_tup {l l':List SV} (h:leL l l'):(SV.tup l).le (.tup l'):=λZ w y hy=>by
 obtain⟨vs,e,h2⟩:=hy
 exact⟨vs,e,leL_rel _ _ _ h h2⟩
theorem pure_ofLe {P:Program} {f:FuncId} {args:List SV} {v:SV} (h:Pure P f args λs=>s.le v):Pure P f args (· =v):=by
 intro Z w vs hz ha
 obtain⟨h1,h2⟩:=h Z w vs hz ha
 refine⟨h1,h2.mono λe w' h=>?_⟩
 obtain⟨y,s,a,b,c,d⟩:=h
 exact⟨y,v,a,rfl,b _ _ _ c,d⟩
theorem pure_le {P:Program} {f:FuncId} {args:List SV} {u v:SV} (h:Pure P f args (· =u)) (hl:u.le v):Pure P f args (· =v):=pure_ofLe (h.mono λs e=>e▸hl)
theorem nil_rs (k:Nat) (get:Nat→Nat→RV):RLe (.v (.slice none 0 0)) (.rs k 0 get):=by
 intro Z w y hy
 have hy:y=.slice none 0 0:=hy
 subst hy
 exact⟨none,0,rfl,Nat.le_refl _,λh=>absurd h (Nat.lt_irrefl 0)⟩
def dupM (ms:List MbG):Bool:=(List.range ms.length).any λi=>decide (1≤i)&&decide (ms[i]!.id=ms[i - 1]!.id)
def buildE (l:List MbG):Int:=if 256<l.length then 4 else if l.any (λa=>!okN a.id) then 2 else if l.any (λa=>!a.x.ok) then 30 else if dupM (srtM l) then 41 else 0
def IxG.zero:IxG:=⟨[],λ_=>[]⟩
def buildX (l:List MbG):IxG:=if buildE l=0 then ofG l else IxG.zero
abbrev nilX:SV:=.agg [nilS,nilS,nilS,nilS,nilS,nilS,nilS,nilS,nilS]
theorem nil_zero:nilX.le IxG.zero.sv:=le_agg ⟨le_r (nil_rs 3 _),le_r (nil_rs 3 _),le_r (nil_rs 3 _),le_r (nil_rs 3 _),le_r (nil_rs 3 _),le_r (nil_rs 3 _),le_r (nil_rs 3 _),le_r (nil_rs 3 _),le_r (nil_rs 3 _),trivial⟩
theorem build16' (l:List MbG) (hn:l.length≤1000):Pure Tryz.prog 50 [mrs l] (· =.tup [if buildE l=0 then (ofG l).sv else nilX,.i (buildE l)]):=by
 obtain⟨e,he⟩:∃e,buildE l=e:=⟨_,rfl⟩
 rw[he]
 refine pure_of_GC T_ok Tryz.func50 rfl (by kernel_rfl) (nb rfl) rfl rfl ?_
 simp[go_sem]
 by_cases h1:256<l.length
 ·have h1':(256:Int)<l.length:=by omega
  have e4:e=4:=by rw[← he,buildE,if_pos h1]
  subst e4
  simp[go_sem,h1,h1']
 have h1':¬(256:Int)<l.length:=by omega
 simp[go_sem,h1,h1']
 refine call_val (contains47 l (by omega) 107 (λa=>!okN a.id) build48) rfl rfl ?_
 cases h2:l.any λa=>!okN a.id
 rotate_left
 ·have e4:e=2:=by rw[← he,buildE,if_neg h1,if_pos h2]
  subst e4
  simp[go_sem]
 simp[go_sem]
 refine call_val (contains47 l (by omega) 109 (λa=>!a.x.ok) build50) rfl rfl ?_
 cases h3:l.any λa=>!a.x.ok
 rotate_left
 ·have e4:e=30:=by rw[← he,buildE,if_neg h1,if_neg (by rw[h2];simp),if_pos h3]
  subst e4
  simp[go_sem]
 simp[go_sem]
 refine call_val (of52p l hn) rfl rfl ?_
 have hl:=(srtM_spec l).2.1
 obtain⟨x,hx⟩:∃x,ofG l=x:=⟨_,rfl⟩
 have hms:x.ms=srtM l:=by rw[← hx];rfl
 have he2:e=if dupM x.ms then 41 else 0:=by rw[← he,buildE,if_neg h1,if_neg (by rw[h2];simp),if_neg (by rw[h3];simp),hms]
 rw[hx]
 rw[← hms] at hl
 simp[go_sem,IxG.sv]
 refine GLoop_of T_ok (α:=Nat) (λk=>[(2,.ptr 0 0 9 0),(3,.i 0),(4,.ptr 1 0 9 0),(5,.i ((k:Int)+1))])
  (λk=>[some (.box [nilS,nilS,nilS,nilS,nilS,nilS,nilS,nilS,nilS]),some (.box [mrs x.ms,pls (x.ch 0),pls (x.ch 1),pls (x.ch 2),pls (x.ch 3),pls (x.ch 4),pls (x.ch 5),pls (x.ch 6),pls (x.ch 7)])]) 2
  (λk=>k≤x.ms.length∧∀j,j<k→∀(h1:j+1<x.ms.length),¬x.ms[j+1].id=x.ms[j].id) (λk=>x.ms.length - k) 0 (λ_=>rfl) (by simp) (by simp[go_sem]) (by simp[go_sem]) ?_
 intro k J hk
 by_cases hlt:k+1<x.ms.length
 ·have hlt':(k:Int)+1<x.ms.length:=by omega
  have r0:=mrow hlt 0
  have q0:=mrow (by omega:k<x.ms.length) 0
  simp[go_sem,hlt,hlt']
  refine GDraw_all T_ok (by kernel_rfl) (by kernel_rfl) ?_
  simp[go_sem,hlt,hlt',r0,q0]
  refine⟨by omega,by omega,by omega,?_⟩
  by_cases heq:x.ms[k+1].id=x.ms[k].id
  ·rw[if_pos heq]
   have e4:e=41:=by
    rw[he2,if_pos]
    refine List.any_eq_true.2 ⟨k+1,List.mem_range.2 hlt,?_⟩
    rw[getElem!_pos x.ms (k+1) hlt,getElem!_pos x.ms (k+1 - 1) (by omega)]
    simpa using heq
   rw[e4];simp
  ·rw[if_neg heq]
   refine⟨by omega,k+1,⟨by omega,λj hj h1=>?_⟩,by omega,by omega⟩
   by_cases e:j=k
   ·subst e;exact heq
   ·exact hk.2 j (by omega) h1
 ·have hlt':¬(k:Int)+1<x.ms.length:=by omega
  have e0:e=0:=by
   rw[he2,if_neg]
   intro hd
   obtain⟨i,hi,hq⟩:=List.any_eq_true.1 hd
   have hi:=List.mem_range.1 hi
   simp only [Bool.and_eq_true,decide_eq_true_eq] at hq
   obtain⟨h1,h2⟩:=hq
   obtain⟨i,rfl⟩:∃i',i=i'+1:=⟨i - 1,by omega⟩
   rw[getElem!_pos x.ms (i+1) hi,getElem!_pos x.ms (i+1 - 1) (by omega)] at h2
   exact hk.2 i (by omega) hi (by simpa using h2)
  subst e0
  simp[go_sem,hlt,hlt']
theorem build16 (l:List MbG) (hn:l.length≤1000):Pure Tryz.prog 50 [mrs l] (· =.tup [(buildX l).sv,.i (buildE l)]):=by
 refine pure_le (build16' l hn) (le_tup ⟨?_,SV.le.rfl,trivial⟩)
 unfold buildX
 split
 ·exact SV.le.rfl
 ·exact nil_zero
structure IxG.Sm (x:IxG):Prop where
 ms:x.ms.length≤1000
 ch:∀j,j<8→(x.ch j).length≤1000000∧∀p∈x.ch j,p.ids.length≤1000000
def validX (x:IxG):Bool:=decide (buildE x.ms=0)&&decide (x.ms=(ofG x.ms).ms)&&(List.range 8).all λj=>decide (x.ch j=(ofG x.ms).ch j)
def checkE (x:IxG):Int:=if validX x then 0 else 40
theorem check19 (x:IxG) (h:x.Sm):Pure Tryz.prog 111 [x.sv] (· =.i (checkE x)):=by
 refine pure_of_GC T_ok Tryz.func111 rfl (by kernel_rfl) (nb rfl) rfl rfl ?_
 obtain⟨e,he⟩:∃e,checkE x=e:=⟨_,rfl⟩
 rw[he]
 simp[go_sem,IxG.sv]
 refine call_val (build16 x.ms h.ms) rfl rfl ?_
 obtain⟨y,hy⟩:∃y,buildX x.ms=y:=⟨_,rfl⟩
 obtain⟨f,hf⟩:∃f,buildE x.ms=f:=⟨_,rfl⟩
 rw[hy,hf]
 simp[go_sem,IxG.sv]
 by_cases h0:f=0
 rotate_left
 ·have e4:e=40:=by rw[← he,checkE,validX,hf];simp[h0]
  subst e4
  simp[go_sem,h0]
 subst h0
 have hyo:y=ofG x.ms:=by rw[← hy,buildX,if_pos hf]
 simp[go_sem]
 refine call_val (equal56 x.ms y.ms (by have:=h.ms;omega)) rfl rfl ?_
 by_cases h1:x.ms=y.ms
 rotate_left
 ·have e4:e=40:=by rw[← he,checkE,validX,← hyo];simp[h1]
  subst e4
  simp[go_sem,h1]
 have he2:e=if (List.range 8).all λj=>decide (x.ch j=y.ch j) then 0 else 40:=by rw[← he,checkE,validX,hf,← hyo];simp[h1]
 simp[go_sem,h1]
 have hbad:∀j,j<8→¬x.ch j=y.ch j→e=40:=λj hj hne=>by
  rw[he2,if_neg]
  intro h
  exact hne (by simpa using List.all_eq_true.1 h j (List.mem_range.2 hj))
 refine GLoop_of T_ok (α:=Nat) (λk=>[(1,.ptr 0 0 9 0),(2,.i 0),(3,.ptr 1 0 9 0),(22,.i k)])
  (λk=>[some (.box [mrs y.ms,pls (x.ch 0),pls (x.ch 1),pls (x.ch 2),pls (x.ch 3),pls (x.ch 4),pls (x.ch 5),pls (x.ch 6),pls (x.ch 7)]),some (.box [mrs y.ms,pls (y.ch 0),pls (y.ch 1),pls (y.ch 2),pls (y.ch 3),pls (y.ch 4),pls (y.ch 5),pls (y.ch 6),pls (y.ch 7)])]) 2
  (λk=>k≤8∧∀j,j<k→x.ch j=y.ch j) (λk=>8 - k) 0 (λ_=>rfl) (by simp) (by simp[go_sem]) (by simp[go_sem,h1]) ?_
 intro k J hk
 rcases(show k=0∨k=1∨k=2∨k=3∨k=4∨k=5∨k=6∨k=7∨k=8 by omega) with rfl | rfl | rfl | rfl | rfl | rfl | rfl | rfl | rfl
 ·simp[go_sem]
  refine GDraw_l (t:=(.take 0 (.take 1 (.take 2 (.take 3 (.take 4 (.take 5 (.take 6 (.take 7 (.alt 8 [7,6,5,4,3,2,1,0] (.take 9 (.done [9,6,5,4,2,1,0])) .nil)))))))))) T_ok (by kernel_rfl) (by kernel_rfl) (by kernel_rfl) (λ_ _ _ _ h=>h) ?_
  simp[go_sem]
  refine call_val (equal57 (x.ch 0) (y.ch 0) (by have:=(h.ch 0 (by omega)).1;omega) λp hp=>by have:=(h.ch 0 (by omega)).2 p hp;omega) rfl rfl ?_
  by_cases hc:x.ch 0=y.ch 0
  ·simp[go_sem,hc]
   refine⟨1,⟨by omega,λj hj=>?_⟩,by omega,by omega⟩
   by_cases e:j=0
   ·subst e;exact hc
   ·exact hk.2 j (by omega)
  ·have e4:=hbad 0 (by omega) hc
   subst e4
   simp[go_sem,hc]
 ·simp[go_sem]
  refine GDraw_l (t:=(.take 0 (.take 1 (.take 2 (.take 3 (.take 4 (.take 5 (.take 6 (.take 7 (.alt 8 [7,6,5,4,3,2,1,0] (.take 9 (.done [9,6,5,4,2,1,0])) .nil)))))))))) T_ok (by kernel_rfl) (by kernel_rfl) (by kernel_rfl) (λ_ _ _ _ h=>h) ?_
  simp[go_sem]
  refine call_val (equal57 (x.ch 1) (y.ch 1) (by have:=(h.ch 1 (by omega)).1;omega) λp hp=>by have:=(h.ch 1 (by omega)).2 p hp;omega) rfl rfl ?_
  by_cases hc:x.ch 1=y.ch 1
  ·simp[go_sem,hc]
   refine⟨2,⟨by omega,λj hj=>?_⟩,by omega,by omega⟩
   by_cases e:j=1
   ·subst e;exact hc
   ·exact hk.2 j (by omega)
  ·have e4:=hbad 1 (by omega) hc
   subst e4
   simp[go_sem,hc]
 ·simp[go_sem]
  refine GDraw_l (t:=(.take 0 (.take 1 (.take 2 (.take 3 (.take 4 (.take 5 (.take 6 (.take 7 (.alt 8 [7,6,5,4,3,2,1,0] (.take 9 (.done [9,6,5,4,2,1,0])) .nil)))))))))) T_ok (by kernel_rfl) (by kernel_rfl) (by kernel_rfl) (λ_ _ _ _ h=>h) ?_
  simp[go_sem]
  refine call_val (equal57 (x.ch 2) (y.ch 2) (by have:=(h.ch 2 (by omega)).1;omega) λp hp=>by have:=(h.ch 2 (by omega)).2 p hp;omega) rfl rfl ?_
  by_cases hc:x.ch 2=y.ch 2
  ·simp[go_sem,hc]
   refine⟨3,⟨by omega,λj hj=>?_⟩,by omega,by omega⟩
   by_cases e:j=2
   ·subst e;exact hc
   ·exact hk.2 j (by omega)
  ·have e4:=hbad 2 (by omega) hc
   subst e4
   simp[go_sem,hc]
 ·simp[go_sem]
  refine GDraw_l (t:=(.take 0 (.take 1 (.take 2 (.take 3 (.take 4 (.take 5 (.take 6 (.take 7 (.alt 8 [7,6,5,4,3,2,1,0] (.take 9 (.done [9,6,5,4,2,1,0])) .nil)))))))))) T_ok (by kernel_rfl) (by kernel_rfl) (by kernel_rfl) (λ_ _ _ _ h=>h) ?_
  simp[go_sem]
  refine call_val (equal57 (x.ch 3) (y.ch 3) (by have:=(h.ch 3 (by omega)).1;omega) λp hp=>by have:=(h.ch 3 (by omega)).2 p hp;omega) rfl rfl ?_
  by_cases hc:x.ch 3=y.ch 3
  ·simp[go_sem,hc]
   refine⟨4,⟨by omega,λj hj=>?_⟩,by omega,by omega⟩
   by_cases e:j=3
   ·subst e;exact hc
   ·exact hk.2 j (by omega)
  ·have e4:=hbad 3 (by omega) hc
   subst e4
   simp[go_sem,hc]
 ·simp[go_sem]
  refine GDraw_l (t:=(.take 0 (.take 1 (.take 2 (.take 3 (.take 4 (.take 5 (.take 6 (.take 7 (.alt 8 [7,6,5,4,3,2,1,0] (.take 9 (.done [9,6,5,4,2,1,0])) .nil)))))))))) T_ok (by kernel_rfl) (by kernel_rfl) (by kernel_rfl) (λ_ _ _ _ h=>h) ?_
  simp[go_sem]
  refine call_val (equal57 (x.ch 4) (y.ch 4) (by have:=(h.ch 4 (by omega)).1;omega) λp hp=>by have:=(h.ch 4 (by omega)).2 p hp;omega) rfl rfl ?_
  by_cases hc:x.ch 4=y.ch 4
  ·simp[go_sem,hc]
   refine⟨5,⟨by omega,λj hj=>?_⟩,by omega,by omega⟩
   by_cases e:j=4
   ·subst e;exact hc
   ·exact hk.2 j (by omega)
  ·have e4:=hbad 4 (by omega) hc
   subst e4
   simp[go_sem,hc]
 ·simp[go_sem]
  refine GDraw_l (t:=(.take 0 (.take 1 (.take 2 (.take 3 (.take 4 (.take 5 (.take 6 (.take 7 (.alt 8 [7,6,5,4,3,2,1,0] (.take 9 (.done [9,6,5,4,2,1,0])) .nil)))))))))) T_ok (by kernel_rfl) (by kernel_rfl) (by kernel_rfl) (λ_ _ _ _ h=>h) ?_
  simp[go_sem]
  refine call_val (equal57 (x.ch 5) (y.ch 5) (by have:=(h.ch 5 (by omega)).1;omega) λp hp=>by have:=(h.ch 5 (by omega)).2 p hp;omega) rfl rfl ?_
  by_cases hc:x.ch 5=y.ch 5
  ·simp[go_sem,hc]
   refine⟨6,⟨by omega,λj hj=>?_⟩,by omega,by omega⟩
   by_cases e:j=5
   ·subst e;exact hc
   ·exact hk.2 j (by omega)
  ·have e4:=hbad 5 (by omega) hc
   subst e4
   simp[go_sem,hc]
 ·simp[go_sem]
  refine GDraw_l (t:=(.take 0 (.take 1 (.take 2 (.take 3 (.take 4 (.take 5 (.take 6 (.take 7 (.alt 8 [7,6,5,4,3,2,1,0] (.take 9 (.done [9,6,5,4,2,1,0])) .nil)))))))))) T_ok (by kernel_rfl) (by kernel_rfl) (by kernel_rfl) (λ_ _ _ _ h=>h) ?_
  simp[go_sem]
  refine call_val (equal57 (x.ch 6) (y.ch 6) (by have:=(h.ch 6 (by omega)).1;omega) λp hp=>by have:=(h.ch 6 (by omega)).2 p hp;omega) rfl rfl ?_
  by_cases hc:x.ch 6=y.ch 6
  ·simp[go_sem,hc]
   refine⟨7,⟨by omega,λj hj=>?_⟩,by omega,by omega⟩
   by_cases e:j=6
   ·subst e;exact hc
   ·exact hk.2 j (by omega)
  ·have e4:=hbad 6 (by omega) hc
   subst e4
   simp[go_sem,hc]
 ·simp[go_sem]
  refine GDraw_l (t:=(.take 0 (.take 1 (.take 2 (.take 3 (.take 4 (.take 5 (.take 6 (.take 7 (.alt 8 [7,6,5,4,3,2,1,0] (.take 9 (.done [9,6,5,4,2,1,0])) .nil)))))))))) T_ok (by kernel_rfl) (by kernel_rfl) (by kernel_rfl) (λ_ _ _ _ h=>h) ?_
  simp[go_sem]
  refine call_val (equal57 (x.ch 7) (y.ch 7) (by have:=(h.ch 7 (by omega)).1;omega) λp hp=>by have:=(h.ch 7 (by omega)).2 p hp;omega) rfl rfl ?_
  by_cases hc:x.ch 7=y.ch 7
  ·simp[go_sem,hc]
   refine⟨8,⟨by omega,λj hj=>?_⟩,by omega,by omega⟩
   by_cases e:j=7
   ·subst e;exact hc
   ·exact hk.2 j (by omega)
  ·have e4:=hbad 7 (by omega) hc
   subst e4
   simp[go_sem,hc]
 ·have e0:e=0:=by
   rw[he2,if_pos]
   exact List.all_eq_true.2 λj hj=>by simpa using hk.2 j (List.mem_range.1 hj)
  subst e0
  simp[go_sem]
def plc (l:List MbG) (t:Int):Nat:=bnd (λi=>cmpI (l[i]!).id t) l.length
def isM (l:List MbG) (t:Int):Bool:=fnd (λi=>cmpI (l[i]!).id t) l.length
theorem place60 (l:List MbG) (hn:l.length≤1000000) (hs:l.Pairwise λa b=>a.id≤b.id) (t:Int):Pure Tryz.prog 117 [mrs l,.i t] (· =.tup [.i (plc l t:Nat),.b (isM l t)]):=by
 refine pure_of_GC T_ok Tryz.func117 rfl (by kernel_rfl) (nb rfl) rfl rfl ?_
 simp[go_sem]
 refine call_val (search84 l (by omega) t (λa b hab hb h ha=>?_) (λi=>cmpI (l[i]!).id t) λi hi=>by rw[getElem!_pos l i hi]) rfl rfl ?_
 ·have:=List.pairwise_iff_getElem.1 hs a b ha hb hab
  omega
 simp[go_sem,plc,isM]
theorem validX_sorted {x:IxG} (h:validX x=true):x.ms.Pairwise λa b=>a.id≤b.id:=by
 simp only [validX,Bool.and_eq_true,decide_eq_true_eq] at h
 rw[h.1.2]
 rw[List.pairwise_iff_getElem]
 intro i j hi hj hij
 exact(srtM_spec x.ms).2.2 i j hij hj hi
theorem buildE_len {l:List MbG} (h:buildE l=0):l.length≤256:=by
 unfold buildE at h
 by_cases h1:256<l.length
 ·rw[if_pos h1] at h;cases h
 ·omega
theorem validX_len {x:IxG} (h:validX x=true):x.ms.length≤256:=by
 simp only [validX,Bool.and_eq_true,decide_eq_true_eq] at h
 exact buildE_len h.1.1
end Go.Gx.Ix
namespace Go.Gx.Ix
open Go.RowKit Go.WideShapes Go.ChangeShapes Go.Proofs Go.Proofs.YtncccnmmjfapnaaGreat
abbrev csW:CS:=.sc (.int .u64)
theorem flat41:flatT Tryz.prog 8 45=some [csW,csW]:=by kernel_rfl
section
variable {W:World}
abbrev ZW (W:World):Nat→Prop:=λb=>b<W.heap.size
def v64 (v:Value):BitVec 64:=BitVec.ofInt 64 (vi v)
theorem one_vi {k:IntKind} {v:Value} (h:CSok W (.sc (.int k)) v):v.oneCell'=true:=by rw[ok_int h];rfl
theorem rel_v64 {Z:Nat→Prop} {v:Value} (h:CSok W csW v):(RV.w (v64 v)).rel Z W v:=by
 obtain⟨n,rfl,hw⟩:=h
 show Value.int .u64 n=.int .u64 _
 simp[Lit.wf,IntKind.min,IntKind.max,IntKind.bits,IntKind.signed] at hw
 have:((v64 (.int .u64 n)).toNat:Int)=n:=by
  have h2:n % 18446744073709551616=n:=by omega
  unfold v64 vi
  rw[BitVec.toNat_ofInt]
  show((n % 18446744073709551616).toNat:Int)=n
  rw[h2];omega
 rw[this]
section
variable {H:Type} {enc:TypeId × Value→H} {base:Nat} {spare:Nat→Bool} {held:Bool}
theorem iris_arg {v:Value} {d:DataW H} {p:List MemPlace} {r:Reach} {b0:Nat} (hv:Value.okWide Tryz.prog W r b0 45 v) (h:DataW.Trod enc Tryz.prog W base spare held 45 v d p):∃x:IrG,∀σ,x.sv.rel σ (ZW W) W v:=by
 obtain⟨cs,rfl,_⟩:=okWide_struct Tryz.underlying45 hv
 have hc:=open_flat flat41 h
 obtain⟨cs⟩:=cs
 simp only [Value.cells] at hc
 obtain⟨v0,_,e,h0,v1,_,rfl,h1,rfl⟩:=hc
 cases e
 refine⟨⟨v64 v0,v64 v1⟩,λσ=>⟨[v0,v1],rfl,λv hv=>?_,v0,_,rfl,rel_v64 (Z:=ZW W) h0,v1,_,rfl,rel_v64 (Z:=ZW W) h1,rfl⟩⟩
 simp at hv
 rcases hv with rfl | rfl
 ·exact one_vi h0
 ·exact one_vi h1
end
end
theorem own_:ownKnob Tryz.prog.godebug=none:=by kernel_rfl
theorem laidOut_:laidOutB Tryz.prog=true:=by kernel_rfl
end Go.Gx.Ix
namespace Go.Proofs.YtncccnmmjfapnaaGreat
open Go.ChangeShapes Go.WideShapes Go.ChangeAt Go.RowKit Go.Gx Go.Gx.Ix
theorem Shared.laid:laidOutB Tryz.pinned.checked.prog=true:=Ix.laidOut_
theorem Shared.mrow:mapsRowed Tryz.pinned.checked.prog=true:=by kernel_rfl
theorem Shared.stops:(Tryz.pinned.checked.prog.stops==[])=true:=by kernel_rfl
theorem Shared.knobs:(Tryz.pinned.checked.prog.stopKnobs==[])=true:=by kernel_rfl
theorem Shared.heard:Tryz.pinned.checked.prog.stopsHeard=true:=by kernel_rfl
theorem Shared.may:Tryz.pinned.checked.prog.mayEnter=true:=by kernel_rfl
theorem Shared.plain:Tryz.pinned.checked.prog.plainKeys=Rows.serviceKeepsRow.plainKeys:=by kernel_rfl
theorem Shared.lift:Tryz.pinned.checked.prog.liftsFinal=Rows.serviceKeepsRow.lifted:=by kernel_rfl
theorem Shared.make:Tryz.pinned.checked.prog.make=some Rows.serviceKeepsRow.make:=by kernel_rfl
end Go.Proofs.YtncccnmmjfapnaaGreat
namespace Go.Gx.Ix
open Go.RowKit
def mul64 (x y:BitVec 64):BitVec 64:=BitVec.ofInt 64 (x.toInt*y.toInt)
theorem mul64_eq (x y:BitVec 64):mul64 x y=x*y:=by rw[mul64,BitVec.ofInt_mul,BitVec.ofInt_toInt,BitVec.ofInt_toInt]
@[go_sem high]theorem ofInt_w (z:BitVec 64):BitVec.ofInt 64 (z.toNat:Int)=z:=by simp
theorem gmul_u64 (a b:Int):gbin .mul (.r (.v (.int .u64 a))) (.r (.v (.int .u64 b)))=.pure True (.w (mul64 (BitVec.ofInt 64 a) (BitVec.ofInt 64 b))):=by
 show GR.pure _ (.r (.v (.int .u64 (if IntKind.u64=IntKind.u64 then IntKind.u64.wrap (a*b) else a*b))))=_
 rw[if_pos rfl]
 have e:IntKind.u64.wrap (a*b)=((mul64 (BitVec.ofInt 64 a) (BitVec.ofInt 64 b)).toNat:Int):=by
  have h:mul64 (BitVec.ofInt 64 a) (BitVec.ofInt 64 b)=BitVec.ofInt 64 (a*b):=by rw[mul64_eq,BitVec.ofInt_mul]
  rw[h,BitVec.toNat_ofInt]
  simp only [IntKind.wrap,IntKind.bits,IntKind.signed]
  simp
  omega
 rw[e];simp
section
variable {P:Program} {T:Tab} {N:Cfg} {t t2:TypeId} {ox oy:Operand} {d:Option Tmp} {ty:TypeId} {pos:String} {af:Array Edge} {all:Array Oper} {rest:List Oper} {k:List It} {Q:GQ} {E:Env} {M:Mem} {nx:Nat}
@[go_sem]theorem GBn_mul64 (a b:Int):GBn P T N .mul t t2 ox oy (.r (.v (.int .u64 a))) (.r (.v (.int .u64 b))) d ty pos af all rest k Q E M nx=GO P T N all rest k Q (envPut E d (.w (mul64 (BitVec.ofInt 64 a) (BitVec.ofInt 64 b)))) M nx:=by rw[GBn_of (gmul_u64 a b)];simp
@[go_sem]theorem GBn_shl1 (kk:IntKind) (b:Int):GBn P T N .shl t t2 ox oy (.r (.v (.int .u64 1))) (.r (.v (.int kk b))) d ty pos af all rest k Q E M nx=(0≤b∧GO P T N all rest k Q (envPut E d (.w (shl64 1#64 b.toNat))) M nx):=GBn_shl64 1#64 kk b
end
end Go.Gx.Ix
namespace Go.Gx.Sr
open Go.RowKit Go.Proofs Go.Proofs.YtncccnmmjfapnaaGreat Go.Gx.Ix
abbrev W64:=BitVec 64
def mix (a b:W64):W64:=xor64 (mul64 (xor64 (mul64 (xor64 a b) 11400714819323198485#64) (shr64 (mul64 (xor64 a b) 11400714819323198485#64) 29)) 13787848793156543929#64)
 (shr64 (mul64 (xor64 (mul64 (xor64 a b) 11400714819323198485#64) (shr64 (mul64 (xor64 a b) 11400714819323198485#64) 29)) 13787848793156543929#64) 32)
theorem mix318 (a b:W64):Pure Tryz.prog 318 [.w a,.w b] (· =.w (mix a b)):=by
 refine pure_of_GC T_ok Tryz.func318 rfl (by kernel_rfl) (nb rfl) rfl rfl ?_
 simp[go_sem]
 simp only [mix]
structure ChG where
 t:Int
 p:Int
 on:Bool
structure KsG where
 a:Int
 m:Int
 s:W64
 z:W64
structure EnG where
 t:Int
 k:Int
 p:Int
 d:W64
 a:W64
 s:W64
 l:W64
deriving instance DecidableEq for ChG
deriving instance DecidableEq for KsG
deriving instance DecidableEq for EnG
def ChG.f (x:ChG):Nat→RV
 | 0=>.i x.t
 | 1=>.i x.p
 | _=>.v (.bool x.on)
def KsG.f (x:KsG):Nat→RV
 | 0=>.i x.a
 | 1=>.i x.m
 | 2=>.w x.s
 | _=>.w x.z
def EnG.f (x:EnG):Nat→RV
 | 0=>.i x.t
 | 1=>.i x.k
 | 2=>.i x.p
 | 3=>.w x.d
 | 4=>.w x.a
 | 5=>.w x.s
 | _=>.w x.l
@[go_sem]theorem ChG.f0 (x:ChG):x.f 0=.i x.t:=rfl
@[go_sem]theorem ChG.f1 (x:ChG):x.f 1=.i x.p:=rfl
@[go_sem]theorem ChG.f2 (x:ChG):x.f 2=.v (.bool x.on):=rfl
@[go_sem]theorem KsG.f0 (x:KsG):x.f 0=.i x.a:=rfl
@[go_sem]theorem KsG.f1 (x:KsG):x.f 1=.i x.m:=rfl
@[go_sem]theorem KsG.f2 (x:KsG):x.f 2=.w x.s:=rfl
@[go_sem]theorem KsG.f3 (x:KsG):x.f 3=.w x.z:=rfl
@[go_sem]theorem EnG.f0 (x:EnG):x.f 0=.i x.t:=rfl
@[go_sem]theorem EnG.f1 (x:EnG):x.f 1=.i x.k:=rfl
@[go_sem]theorem EnG.f2 (x:EnG):x.f 2=.i x.p:=rfl
@[go_sem]theorem EnG.f3 (x:EnG):x.f 3=.w x.d:=rfl
@[go_sem]theorem EnG.f4 (x:EnG):x.f 4=.w x.a:=rfl
@[go_sem]theorem EnG.f5 (x:EnG):x.f 5=.w x.s:=rfl
@[go_sem]theorem EnG.f6 (x:EnG):x.f 6=.w x.l:=rfl
abbrev ChG.sv (x:ChG):SV:=.agg [.i x.t,.i x.p,.b x.on]
abbrev KsG.sv (x:KsG):SV:=.agg [.i x.a,.i x.m,.w x.s,.w x.z]
abbrev EnG.sv (x:EnG):SV:=.agg [.i x.t,.i x.k,.i x.p,.w x.d,.w x.a,.w x.s,.w x.l]
def rowOf {α:Type} (f:α→Nat→RV) (l:List α):Nat→Nat→RV:=λi j=>match l[i]? with | some x=>f x j | none=>.any
theorem rowOf_get {α:Type} {f:α→Nat→RV} {l:List α} {i:Nat} (h:i<l.length) (j:Nat):rowOf f l i j=f l[i] j:=by
 unfold rowOf;rw[List.getElem?_eq_getElem h]
abbrev chs (l:List ChG):SV:=.r (.rs 3 l.length (rowOf ChG.f l))
abbrev kss (l:List KsG):SV:=.r (.rs 4 l.length (rowOf KsG.f l))
abbrev lgs (l:List EnG):SV:=.r (.rs 7 l.length (rowOf EnG.f l))
abbrev maxT:Int:=1099511627776
def tmB (n:Int):Bool:=btw 0 maxT n
def psB (n:Int):Bool:=btw 0 63 n
theorem from195 (lo hi n:Int):Pure Tryz.prog 195 [.i lo,.i hi,.i n] (· =.b (btw lo hi n)):=by
 refine pure_of_GC T_ok Tryz.func195 rfl (by kernel_rfl) (nb rfl) rfl rfl ?_
 by_cases h:lo≤n <;> simp[go_sem,btw,h]
theorem isTime193 (n:Int):Pure Tryz.prog 193 [.i n] (· =.b (tmB n)):=by
 refine pure_of_GC T_ok Tryz.func193 rfl (by kernel_rfl) (nb rfl) rfl rfl ?_
 simp[go_sem]
 refine call_val (from195 0 maxT n) rfl rfl ?_
 simp[go_sem,tmB]
theorem isPerson94 (n:Int):Pure Tryz.prog 94 [.i n] (· =.b (psB n)):=by
 refine pure_of_GC T_ok Tryz.func94 rfl (by kernel_rfl) (nb rfl) rfl rfl ?_
 simp[go_sem]
 refine call_val (from195 0 63 n) rfl rfl ?_
 simp[go_sem,psB]
def ChG.ok (x:ChG):Bool:=tmB x.t&&psB x.p
theorem strange196 (x:ChG):Pure Tryz.prog 196 [x.sv] (· =.b (!x.ok)):=by
 refine pure_of_GC T_ok Tryz.func196 rfl (by kernel_rfl) (nb rfl) rfl rfl ?_
 simp[go_sem]
 refine call_val (isTime193 x.t) rfl rfl ?_
 unfold ChG.ok
 cases tmB x.t
 ·simp[go_sem]
 simp[go_sem]
 refine call_val (isPerson94 x.p) rfl rfl ?_
 cases psB x.p <;> simp[go_sem]
theorem tmB_iff {n:Int}:tmB n=true↔0≤n∧n≤maxT:=by simp[tmB,btw]
theorem psB_iff {n:Int}:psB n=true↔0≤n∧n≤63:=by simp[psB,btw]
theorem order197 (x y:ChG) (hx:tmB x.t=true) (hy:tmB y.t=true):Pure Tryz.prog 197 [x.sv,y.sv] (· =.i (x.t - y.t)):=by
 refine pure_of_GC T_ok Tryz.func197 rfl (by kernel_rfl) (nb rfl) rfl rfl ?_
 have h1:=tmB_iff.1 hx
 have h2:=tmB_iff.1 hy
 simp only [maxT] at h1 h2
 simp[go_sem]
 omega
def putB (s:W64) (c:ChG):W64:=if c.on then or64 (andn64 s (shl64 1#64 c.p.toNat)) (shl64 1#64 c.p.toNat) else andn64 s (shl64 1#64 c.p.toNat)
def bwL (l:List ChG) (lo hi:Int):List ChG:=(l.takeWhile λc=>decide (c.t≤hi)).filter λc=>decide (lo<c.t)
def saidB (s:W64) (p:Int):Int:=if and64 s (shl64 1#64 p.toNat)=0#64 then 1 else 2
theorem said95 (s:W64) (p:Int) (hp:0≤p):Pure Tryz.prog 95 [.w s,.i p] (· =.r (.v (.int .u8 (saidB s p)))):=by
 refine pure_of_GC T_ok Tryz.func95 rfl (by kernel_rfl) (nb rfl) rfl rfl ?_
 by_cases h:and64 s (shl64 1#64 p.toNat)=0#64 <;> simp[go_sem,saidB,h,hp,toNat_zero]
def askE (p n a:Int):Int:=if psB p&&tmB n&&tmB a then (if n<a then 101 else 0) else 2
theorem asked97 (p n a:Int):Pure Tryz.prog 97 [.i p,.i n,.i a] (· =.i (askE p n a)):=by
 refine pure_of_GC T_ok Tryz.func97 rfl (by kernel_rfl) (nb rfl) rfl rfl ?_
 simp[go_sem]
 refine call_val (isPerson94 p) rfl rfl ?_
 unfold askE
 cases psB p
 ·simp[go_sem]
 simp[go_sem]
 refine call_val (isTime193 n) rfl rfl ?_
 cases tmB n
 ·simp[go_sem]
 simp[go_sem]
 refine call_val (isTime193 a) rfl rfl ?_
 cases tmB a
 ·simp[go_sem]
 by_cases h:n<a <;> simp[go_sem,h]
def u64 (n:Int):W64:=BitVec.ofInt 64 n
def sealW (a m:Int) (s key:W64):W64:=mix (mix (mix key (u64 a)) s) (u64 m)
end Go.Gx.Sr
namespace Go.Gx.Rg
open Go.RowKit Go.Proofs Go.Proofs.YtncccnmmjfapnaaGreat
theorem isNaN132 (x:Int):Pure Tryz.prog 310 [.i x] (· =.b false):=by
 refine pure_of_GC T_ok Tryz.func310 rfl (by kernel_rfl) (nb rfl) rfl rfl ?_
 simp[go_sem]
def cmpI (x y:Int):Int:=if x<y then -1 else if y<x then 1 else 0
theorem compare97 (x y:Int):Pure Tryz.prog 213 [.i x,.i y] (· =.i (cmpI x y)):=by
 refine pure_of_GC T_ok Tryz.func213 rfl (by kernel_rfl) (nb rfl) rfl rfl ?_
 simp[go_sem]
 refine call_val (isNaN132 x) rfl rfl ?_
 simp[go_sem]
 refine call_val (isNaN132 y) rfl rfl ?_
 simp[go_sem,cmpI]
 split
 ·intro h;omega
 ·split <;> rfl
theorem from117 (n lo hi:Int) (g g':Nat→Nat→RV) (h:g 0 0=.i lo) (h':g' 0 0=.i hi):Pure Tryz.prog 214 [.i n,.r (.rp 1 1 g 0 0),.r (.rp 1 1 g' 0 0)] (· =.b (decide (n<lo)||decide (hi<n))):=by
 refine pure_of_GC T_ok Tryz.func214 rfl (by kernel_rfl) (nb rfl) rfl rfl ?_
 simp[go_sem,h,h']
 split
 ·intro h;omega
 ·left;omega
def idx (p:Nat→Bool) (n:Nat):Int:=match (List.range n).find? p with | some i=>i | none=>-1
theorem idx_found {p:Nat→Bool} {n i:Nat} (h:i<n) (hp:p i=true) (hj:∀j,j<i→p j=false):idx p n=i:=by
 have:(List.range n).find? p=some i:=List.find?_range_eq_some.2 ⟨hp,List.mem_range.2 h,λj hj'=>by simp[hj j hj']⟩
 simp[idx,this]
theorem idx_none {p:Nat→Bool} {n:Nat} (hj:∀j,j<n→p j=false):idx p n=-1:=by
 have:(List.range n).find? p=none:=List.find?_eq_none.2 λj hj'=>by simp[hj j (List.mem_range.1 hj')]
 simp[idx,this]
theorem idx_any {p:Nat→Bool} {n:Nat}:decide (0≤idx p n)=(List.range n).any p:=by
 unfold idx
 cases h:(List.range n).find? p with
 | none=>
   have:=List.find?_eq_none.1 h
   simp
   intro x hx
   simpa using this x (List.mem_range.2 hx)
 | some i=>
   have:=List.find?_range_eq_some.1 h
   simp
   exact⟨i,List.mem_range.1 this.2.1,this.1⟩
theorem idx135 (n:Nat) (hn:(n:Int)<2 ^ 63) (get:Nat→Nat→RV) (g:FuncId) (ca:List SV) (p:Nat→Bool) (hca:SV.closedL ca=true) (hp:∀i,i<n→Pure Tryz.prog g (.r (get i 0)::ca) (· =.b (p i))) :
 Pure Tryz.prog 263 [.r (.rs 1 n get),.fn (.func g) [] ca] (· =.i (idx p n)):=by
 refine pure_of_GC T_ok Tryz.func263 rfl (by kernel_rfl) (nb rfl) rfl rfl ?_
 simp[go_sem]
 refine GLoop_of T_ok (α:=Nat) (λi=>[(0,.r (.rs 1 n get)),(1,.fn (.func g) [] ca),(7,.i n),(8,.i i)]) (λ_=>[]) 0 (λi=>i≤n∧∀j,j<i→p j=false) (λi=>n - i) 0 (λ_=>rfl) (by simp) (by simp[go_sem,SV.trimL_closed 0 ca hca]) (by simp[go_sem]) ?_
 intro i J hi
 simp[go_sem]
 split
 ·rename_i hlt
  refine⟨hlt,?_⟩
  refine call_val (hp i hlt) (by simp[SV.closedL,SV.closed,hca]) rfl ?_
  simp[go_sem]
  split
  ·rename_i hpi
   rw[idx_found hlt hpi hi.2]
  ·rename_i hpi
   refine⟨by omega,i+1,⟨by omega,λj hj=>?_⟩,by omega,?_⟩
   ·by_cases hji:j=i
    ·subst hji;simpa using hpi
    ·exact hi.2 j (by omega)
   ·simp[SV.trimL_closed 0 ca hca]
 ·rename_i hlt
  rw[idx_none λj hj=>hi.2 j (by omega)]
theorem has116 (n:Nat) (hn:(n:Int)<2 ^ 63) (get:Nat→Nat→RV) (g:FuncId) (ca:List SV) (p:Nat→Bool) (hca:SV.closedL ca=true) (hp:∀i,i<n→Pure Tryz.prog g (.r (get i 0)::ca) (· =.b (p i))) :
 Pure Tryz.prog 149 [.r (.rs 1 n get),.fn (.func g) [] ca] (· =.b ((List.range n).any p)):=by
 refine pure_of_GC T_ok Tryz.func149 rfl (by kernel_rfl) (nb rfl) rfl rfl ?_
 simp[go_sem]
 refine call_val (idx135 n hn get g ca p hca hp) (by simp[SV.closedL,SV.closed,hca]) rfl ?_
 simp[go_sem]
 exact idx_any
theorem idx109 (n:Nat) (hn:(n:Int)<2 ^ 63) (get:Nat→Nat→RV) (g:FuncId) (ca:List SV) (p:Nat→Bool) (hca:SV.closedL ca=true) (hp:∀i,i<n→Pure Tryz.prog g (.agg [.r (get i 0),.r (get i 1),.r (get i 2),.r (get i 3),.r (get i 4),.r (get i 5),.r (get i 6),.r (get i 7)]::ca) (· =.b (p i))) :
 Pure Tryz.prog 402 [.r (.rs 8 n get),.fn (.func g) [] ca] (· =.i (idx p n)):=by
 refine pure_of_GC T_ok Tryz.func402 rfl (by kernel_rfl) (nb rfl) rfl rfl ?_
 simp[go_sem]
 refine GLoop_of T_ok (α:=Nat) (λi=>[(0,.r (.rs 8 n get)),(1,.fn (.func g) [] ca),(7,.i n),(8,.i i)]) (λ_=>[]) 0 (λi=>i≤n∧∀j,j<i→p j=false) (λi=>n - i) 0 (λ_=>rfl) (by simp) (by simp[go_sem,SV.trimL_closed 0 ca hca]) (by simp[go_sem]) ?_
 intro i J hi
 simp[go_sem]
 split
 ·rename_i hlt
  refine⟨hlt,?_⟩
  refine call_val (hp i hlt) (by simp[SV.closedL,SV.closed,hca]) rfl ?_
  simp[go_sem]
  split
  ·rename_i hpi
   rw[idx_found hlt hpi hi.2]
  ·rename_i hpi
   refine⟨by omega,i+1,⟨by omega,λj hj=>?_⟩,by omega,?_⟩
   ·by_cases hji:j=i
    ·subst hji;simpa using hpi
    ·exact hi.2 j (by omega)
   ·simp[SV.trimL_closed 0 ca hca]
 ·rename_i hlt
  rw[idx_none λj hj=>hi.2 j (by omega)]
theorem has118 (n:Nat) (hn:(n:Int)<2 ^ 63) (get:Nat→Nat→RV) (g:FuncId) (ca:List SV) (p:Nat→Bool) (hca:SV.closedL ca=true) (hp:∀i,i<n→Pure Tryz.prog g (.agg [.r (get i 0),.r (get i 1),.r (get i 2),.r (get i 3),.r (get i 4),.r (get i 5),.r (get i 6),.r (get i 7)]::ca) (· =.b (p i))) :
 Pure Tryz.prog 319 [.r (.rs 8 n get),.fn (.func g) [] ca] (· =.b ((List.range n).any p)):=by
 refine pure_of_GC T_ok Tryz.func319 rfl (by kernel_rfl) (nb rfl) rfl rfl ?_
 simp[go_sem]
 refine call_val (idx109 n hn get g ca p hca hp) (by simp[SV.closedL,SV.closed,hca]) rfl ?_
 simp[go_sem]
 exact idx_any
theorem idx110 (n:Nat) (hn:(n:Int)<2 ^ 63) (get:Nat→Nat→RV) (g:FuncId) (ca:List SV) (p:Nat→Bool) (hca:SV.closedL ca=true) (hp:∀i,i<n→Pure Tryz.prog g (.agg [.r (get i 0),.r (get i 1),.r (get i 2)]::ca) (· =.b (p i))) :
 Pure Tryz.prog 237 [.r (.rs 3 n get),.fn (.func g) [] ca] (· =.i (idx p n)):=by
 refine pure_of_GC T_ok Tryz.func237 rfl (by kernel_rfl) (nb rfl) rfl rfl ?_
 simp[go_sem]
 refine GLoop_of T_ok (α:=Nat) (λi=>[(0,.r (.rs 3 n get)),(1,.fn (.func g) [] ca),(7,.i n),(8,.i i)]) (λ_=>[]) 0 (λi=>i≤n∧∀j,j<i→p j=false) (λi=>n - i) 0 (λ_=>rfl) (by simp) (by simp[go_sem,SV.trimL_closed 0 ca hca]) (by simp[go_sem]) ?_
 intro i J hi
 simp[go_sem]
 split
 ·rename_i hlt
  refine⟨hlt,?_⟩
  refine call_val (hp i hlt) (by simp[SV.closedL,SV.closed,hca]) rfl ?_
  simp[go_sem]
  split
  ·rename_i hpi
   rw[idx_found hlt hpi hi.2]
  ·rename_i hpi
   refine⟨by omega,i+1,⟨by omega,λj hj=>?_⟩,by omega,?_⟩
   ·by_cases hji:j=i
    ·subst hji;simpa using hpi
    ·exact hi.2 j (by omega)
   ·simp[SV.trimL_closed 0 ca hca]
 ·rename_i hlt
  rw[idx_none λj hj=>hi.2 j (by omega)]
theorem has120 (n:Nat) (hn:(n:Int)<2 ^ 63) (get:Nat→Nat→RV) (g:FuncId) (ca:List SV) (p:Nat→Bool) (hca:SV.closedL ca=true) (hp:∀i,i<n→Pure Tryz.prog g (.agg [.r (get i 0),.r (get i 1),.r (get i 2)]::ca) (· =.b (p i))) :
 Pure Tryz.prog 267 [.r (.rs 3 n get),.fn (.func g) [] ca] (· =.b ((List.range n).any p)):=by
 refine pure_of_GC T_ok Tryz.func267 rfl (by kernel_rfl) (nb rfl) rfl rfl ?_
 simp[go_sem]
 refine call_val (idx110 n hn get g ca p hca hp) (by simp[SV.closedL,SV.closed,hca]) rfl ?_
 simp[go_sem]
 exact idx_any
theorem idx111 (n:Nat) (hn:(n:Int)<2 ^ 63) (get:Nat→Nat→RV) (g:FuncId) (ca:List SV) (p:Nat→Bool) (hca:SV.closedL ca=true) (hp:∀i,i<n→Pure Tryz.prog g (.agg [.r (get i 0),.r (get i 1),.r (get i 2),.r (get i 3)]::ca) (· =.b (p i))) :
 Pure Tryz.prog 238 [.r (.rs 4 n get),.fn (.func g) [] ca] (· =.i (idx p n)):=by
 refine pure_of_GC T_ok Tryz.func238 rfl (by kernel_rfl) (nb rfl) rfl rfl ?_
 simp[go_sem]
 refine GLoop_of T_ok (α:=Nat) (λi=>[(0,.r (.rs 4 n get)),(1,.fn (.func g) [] ca),(7,.i n),(8,.i i)]) (λ_=>[]) 0 (λi=>i≤n∧∀j,j<i→p j=false) (λi=>n - i) 0 (λ_=>rfl) (by simp) (by simp[go_sem,SV.trimL_closed 0 ca hca]) (by simp[go_sem]) ?_
 intro i J hi
 simp[go_sem]
 split
 ·rename_i hlt
  refine⟨hlt,?_⟩
  refine call_val (hp i hlt) (by simp[SV.closedL,SV.closed,hca]) rfl ?_
  simp[go_sem]
  split
  ·rename_i hpi
   rw[idx_found hlt hpi hi.2]
  ·rename_i hpi
   refine⟨by omega,i+1,⟨by omega,λj hj=>?_⟩,by omega,?_⟩
   ·by_cases hji:j=i
    ·subst hji;simpa using hpi
    ·exact hi.2 j (by omega)
   ·simp[SV.trimL_closed 0 ca hca]
 ·rename_i hlt
  rw[idx_none λj hj=>hi.2 j (by omega)]
theorem has122 (n:Nat) (hn:(n:Int)<2 ^ 63) (get:Nat→Nat→RV) (g:FuncId) (ca:List SV) (p:Nat→Bool) (hca:SV.closedL ca=true) (hp:∀i,i<n→Pure Tryz.prog g (.agg [.r (get i 0),.r (get i 1),.r (get i 2),.r (get i 3)]::ca) (· =.b (p i))) :
 Pure Tryz.prog 269 [.r (.rs 4 n get),.fn (.func g) [] ca] (· =.b ((List.range n).any p)):=by
 refine pure_of_GC T_ok Tryz.func269 rfl (by kernel_rfl) (nb rfl) rfl rfl ?_
 simp[go_sem]
 refine call_val (idx111 n hn get g ca p hca hp) (by simp[SV.closedL,SV.closed,hca]) rfl ?_
 simp[go_sem]
 exact idx_any
theorem idx112 (n:Nat) (hn:(n:Int)<2 ^ 63) (get:Nat→Nat→RV) (g:FuncId) (ca:List SV) (p:Nat→Bool) (hca:SV.closedL ca=true) (hp:∀i,i<n→Pure Tryz.prog g (.agg [.r (get i 0),.r (get i 1),.r (get i 2),.r (get i 3),.r (get i 4)]::ca) (· =.b (p i))) :
 Pure Tryz.prog 239 [.r (.rs 5 n get),.fn (.func g) [] ca] (· =.i (idx p n)):=by
 refine pure_of_GC T_ok Tryz.func239 rfl (by kernel_rfl) (nb rfl) rfl rfl ?_
 simp[go_sem]
 refine GLoop_of T_ok (α:=Nat) (λi=>[(0,.r (.rs 5 n get)),(1,.fn (.func g) [] ca),(7,.i n),(8,.i i)]) (λ_=>[]) 0 (λi=>i≤n∧∀j,j<i→p j=false) (λi=>n - i) 0 (λ_=>rfl) (by simp) (by simp[go_sem,SV.trimL_closed 0 ca hca]) (by simp[go_sem]) ?_
 intro i J hi
 simp[go_sem]
 split
 ·rename_i hlt
  refine⟨hlt,?_⟩
  refine call_val (hp i hlt) (by simp[SV.closedL,SV.closed,hca]) rfl ?_
  simp[go_sem]
  split
  ·rename_i hpi
   rw[idx_found hlt hpi hi.2]
  ·rename_i hpi
   refine⟨by omega,i+1,⟨by omega,λj hj=>?_⟩,by omega,?_⟩
   ·by_cases hji:j=i
    ·subst hji;simpa using hpi
    ·exact hi.2 j (by omega)
   ·simp[SV.trimL_closed 0 ca hca]
 ·rename_i hlt
  rw[idx_none λj hj=>hi.2 j (by omega)]
theorem has124 (n:Nat) (hn:(n:Int)<2 ^ 63) (get:Nat→Nat→RV) (g:FuncId) (ca:List SV) (p:Nat→Bool) (hca:SV.closedL ca=true) (hp:∀i,i<n→Pure Tryz.prog g (.agg [.r (get i 0),.r (get i 1),.r (get i 2),.r (get i 3),.r (get i 4)]::ca) (· =.b (p i))) :
 Pure Tryz.prog 271 [.r (.rs 5 n get),.fn (.func g) [] ca] (· =.b ((List.range n).any p)):=by
 refine pure_of_GC T_ok Tryz.func271 rfl (by kernel_rfl) (nb rfl) rfl rfl ?_
 simp[go_sem]
 refine call_val (idx112 n hn get g ca p hca hp) (by simp[SV.closedL,SV.closed,hca]) rfl ?_
 simp[go_sem]
 exact idx_any
theorem from69 (lo hi:Int) (n:Nat) (hn:(n:Int)<2 ^ 63) (x:Nat→Int) :
 Pure Tryz.prog 105 [.i lo,.i hi,.r (.rs 1 n λi _=>.i (x i))] (· =.b ((List.range n).all λi=>decide (lo≤x i)&&decide (x i≤hi))):=by
 refine pure_of_GC T_ok Tryz.func105 rfl (by kernel_rfl) (nb rfl) rfl rfl ?_
 simp[go_sem]
 refine call_lent (v:=.b ((List.range n).any λi=>decide (x i<lo)||decide (hi<x i))) ?_ rfl ?_
 ·simp[go_sem]
  refine has116 n hn _ (214:FuncId) _ _ rfl λi hi'=>?_
  exact from117 (x i) lo hi _ _ rfl rfl
 ·simp[go_sem]
  rw[List.not_all_eq_any_not]
  congr 1;funext i
  by_cases h1:lo≤x i <;> by_cases h2:x i≤hi <;> simp[h1,h2] <;> omega
theorem kinds95 (n:Nat) (hn:(n:Int)<2 ^ 63) (x:Nat→Int) :
 Pure Tryz.prog 321 [.r (.rs 1 n λi _=>.i (x i))] (· =.b ((List.range n).all λi=>decide (0≤x i)&&decide (x i≤7))):=by
 refine pure_of_GC T_ok Tryz.func321 rfl (by kernel_rfl) (nb rfl) rfl rfl ?_
 simp[go_sem]
 refine call_val (from69 0 7 n hn x) rfl rfl ?_
 simp[go_sem]
theorem times48 (n:Nat) (hn:(n:Int)<2 ^ 63) (x:Nat→Int) :
 Pure Tryz.prog 322 [.r (.rs 1 n λi _=>.i (x i))] (· =.b ((List.range n).all λi=>decide (0≤x i)&&decide (x i≤1099511627776))):=by
 refine pure_of_GC T_ok Tryz.func322 rfl (by kernel_rfl) (nb rfl) rfl rfl ?_
 simp[go_sem]
 refine call_val (from69 0 1099511627776 n hn x) rfl rfl ?_
 simp[go_sem]
theorem people60 (n:Nat) (hn:(n:Int)<2 ^ 63) (x:Nat→Int) :
 Pure Tryz.prog 122 [.r (.rs 1 n λi _=>.i (x i))] (· =.b ((List.range n).all λi=>decide (0≤x i)&&decide (x i≤63))):=by
 refine pure_of_GC T_ok Tryz.func122 rfl (by kernel_rfl) (nb rfl) rfl rfl ?_
 simp[go_sem]
 refine call_val (from69 0 63 n hn x) rfl rfl ?_
 simp[go_sem]
def btw (lo hi n:Int):Bool:=decide (lo≤n)&&decide (n≤hi)
abbrev kindB:=btw 0 7
abbrev timeB:=btw 0 1099511627776
abbrev persB:=btw 0 63
section
variable {get:Nat→Nat→RV} {a b c lo hi:Int}
theorem leL2 {s s':SV} {l l':List SV} (h:leL l l'):leL (s::s'::l) (s::s'::l'):=⟨SV.le.rfl,SV.le.rfl,h⟩
theorem le1 (h0:get 0 0=.i a):leL [.r (.rs 1 1 get)] [.r (.rs 1 1 λi _=>.i (match i with | _=>a))]:=
 ⟨le_rs λi j hi hj=>by have:=lt1 hi;have:=lt1 hj;subst_vars;exact h0,trivial⟩
theorem le2 (h0:get 0 0=.i a) (h1:get 1 0=.i b):leL [.r (.rs 1 2 get)] [.r (.rs 1 2 λi _=>.i (match i with | 0=>a | _=>b))]:=
 ⟨le_rs λi j hi hj=>by
   have:=lt1 hj
   rcases(by omega:i=0∨i=1) with h | h <;> subst_vars
   ·exact h0
   ·exact h1,trivial⟩
theorem le3 (h0:get 0 0=.i a) (h1:get 1 0=.i b) (h2:get 2 0=.i c):leL [.r (.rs 1 3 get)] [.r (.rs 1 3 λi _=>.i (match i with | 0=>a | 1=>b | _=>c))]:=
 ⟨le_rs λi j hi hj=>by
   have:=lt1 hj
   rcases(by omega:i=0∨i=1∨i=2) with h | h | h <;> subst_vars
   ·exact h0
   ·exact h1
   ·exact h2,trivial⟩
theorem kinds1 (h0:get 0 0=.i a):Pure Tryz.prog 321 [.r (.rs 1 1 get)] (· =.b (kindB a)):=((kinds95 1 (by decide) _).args (le1 h0)).val (by simp[List.range_succ,btw])
theorem kinds3 (h0:get 0 0=.i a) (h1:get 1 0=.i b) (h2:get 2 0=.i c):Pure Tryz.prog 321 [.r (.rs 1 3 get)] (· =.b (kindB a&&kindB b&&kindB c)):=((kinds95 3 (by decide) _).args (le3 h0 h1 h2)).val (by simp[List.range_succ,btw,Bool.and_assoc])
theorem times1 (h0:get 0 0=.i a):Pure Tryz.prog 322 [.r (.rs 1 1 get)] (· =.b (timeB a)):=((times48 1 (by decide) _).args (le1 h0)).val (by simp[List.range_succ,btw])
theorem times2 (h0:get 0 0=.i a) (h1:get 1 0=.i b):Pure Tryz.prog 322 [.r (.rs 1 2 get)] (· =.b (timeB a&&timeB b)):=((times48 2 (by decide) _).args (le2 h0 h1)).val (by simp[List.range_succ,btw])
theorem people1 (h0:get 0 0=.i a):Pure Tryz.prog 122 [.r (.rs 1 1 get)] (· =.b (persB a)):=((people60 1 (by decide) _).args (le1 h0)).val (by simp[List.range_succ,btw])
theorem from1 (h0:get 0 0=.i a):Pure Tryz.prog 105 [.i lo,.i hi,.r (.rs 1 1 get)] (· =.b (btw lo hi a)):=((from69 lo hi 1 (by decide) _).args (leL2 (le1 h0))).val (by simp[List.range_succ,btw])
theorem from2 (h0:get 0 0=.i a) (h1:get 1 0=.i b):Pure Tryz.prog 105 [.i lo,.i hi,.r (.rs 1 2 get)] (· =.b (btw lo hi a&&btw lo hi b)):=((from69 lo hi 2 (by decide) _).args (leL2 (le2 h0 h1))).val (by simp[List.range_succ,btw])
end
theorem or115 (n:Nat) (hn:(n:Int)<2 ^ 63) (x:Nat→Int) :
 Pure Tryz.prog 212 [.r (.rs 1 n λi _=>.i (x i))] (· =.i (((List.range n).find? λi=>decide (x i≠0)).elim 0 x)):=by
 refine pure_of_GC T_ok Tryz.func212 rfl (by kernel_rfl) (nb rfl) rfl rfl ?_
 simp[go_sem]
 refine GLoop_of T_ok (α:=Nat) (λi=>[(3,.i 0),(6,.r (.rs 1 n λi _=>.i (x i))),(7,.i n),(8,.i i)]) (λ_=>[]) 0 (λi=>i≤n∧∀j,j<i→x j=0) (λi=>n - i) 0 (λ_=>rfl) (by simp) (by simp[go_sem]) (by simp[go_sem]) ?_
 intro i J hi
 simp[go_sem]
 split
 ·rename_i hlt
  refine⟨hlt,?_⟩
  split
  ·rename_i h0
   exact⟨by omega,i+1,⟨by omega,λj hj=>by
    by_cases hji:j=i
    ·subst hji;exact h0
    ·exact hi.2 j (by omega)⟩,by omega,by simp⟩
  ·rename_i h0
   have:(List.range n).find? (λi=>!decide (x i=0))=some i:=List.find?_range_eq_some.2 ⟨by simpa using h0,List.mem_range.2 hlt,λj hj=>by simp[hi.2 j hj]⟩
   rw[this];rfl
 ·rename_i hlt
  have:(List.range n).find? (λi=>!decide (x i=0))=none:=List.find?_eq_none.2 λj hj=>by simp[hi.2 j (by have:=List.mem_range.1 hj;omega)]
  rw[this];rfl
def lex (a b:Int):Int:=if a=0 then b else a
theorem or2 {get:Nat→Nat→RV} {a b:Int} (h0:get 0 0=.i a) (h1:get 1 0=.i b):Pure Tryz.prog 212 [.r (.rs 1 2 get)] (· =.i (lex a b)):=
 ((or115 2 (by decide) _).args (le2 h0 h1)).val (by
   by_cases ha:a=0 <;> by_cases hb:b=0 <;> simp[List.range_succ,lex,ha,hb])
theorem less79 (a b c d e f:Int):Pure Tryz.prog 235 [.agg [.i a,.i b,.i c],.agg [.i d,.i e,.i f]] (· =.i (lex (cmpI a d) (cmpI b e))):=by
 refine pure_of_GC T_ok Tryz.func235 rfl (by kernel_rfl) (nb rfl) rfl rfl ?_
 simp[go_sem]
 refine GDraw_of T_ok (by kernel_rfl) 10 (by kernel_rfl) rfl rfl ?_
 simp[go_sem]
 refine⟨_,dcall_val (compare97 a d) rfl rfl,_,dcall_val (compare97 b e) rfl rfl,?_⟩
 simp[go_sem]
 refine call_lent (v:=.i (lex (cmpI a d) (cmpI b e))) ?_ rfl ?_
 ·simp[go_sem]
  exact or2 rfl rfl
 ·simp[go_sem]
end Go.Gx.Rg
namespace Go.Gx.Rg
open Go.RowKit Go.Proofs Go.Proofs.YtncccnmmjfapnaaGreat
structure RuleG where
 (p r l f t k s b:Int)
structure ConG where
 (p q u:Int)
structure WarG where
 (l p f t:Int)
structure MarkG where
 (l p s u n:Int)
def RuleG.c (x:RuleG):Nat→RV
 | 0=>.i x.p
 | 1=>.i x.r
 | 2=>.i x.l
 | 3=>.i x.f
 | 4=>.i x.t
 | 5=>.i x.k
 | 6=>.i x.s
 | 7=>.v (.int .u8 x.b)
 | _=>.any
@[go_sem]theorem RuleG.c0 (x:RuleG):x.c 0=.i x.p:=rfl
@[go_sem]theorem RuleG.c1 (x:RuleG):x.c 1=.i x.r:=rfl
@[go_sem]theorem RuleG.c2 (x:RuleG):x.c 2=.i x.l:=rfl
@[go_sem]theorem RuleG.c3 (x:RuleG):x.c 3=.i x.f:=rfl
@[go_sem]theorem RuleG.c4 (x:RuleG):x.c 4=.i x.t:=rfl
@[go_sem]theorem RuleG.c5 (x:RuleG):x.c 5=.i x.k:=rfl
@[go_sem]theorem RuleG.c6 (x:RuleG):x.c 6=.i x.s:=rfl
@[go_sem]theorem RuleG.c7 (x:RuleG):x.c 7=.v (.int .u8 x.b):=rfl
abbrev RuleG.sv (x:RuleG):SV:=.agg [.i x.p,.i x.r,.i x.l,.i x.f,.i x.t,.i x.k,.i x.s,.r (.v (.int .u8 x.b))]
abbrev RuleG.rs (n:Nat) (x:Nat→RuleG):SV:=.r (.rs 8 n λi j=>(x i).c j)
def ConG.c (x:ConG):Nat→RV
 | 0=>.i x.p
 | 1=>.i x.q
 | 2=>.i x.u
 | _=>.any
@[go_sem]theorem ConG.c0 (x:ConG):x.c 0=.i x.p:=rfl
@[go_sem]theorem ConG.c1 (x:ConG):x.c 1=.i x.q:=rfl
@[go_sem]theorem ConG.c2 (x:ConG):x.c 2=.i x.u:=rfl
abbrev ConG.sv (x:ConG):SV:=.agg [.i x.p,.i x.q,.i x.u]
abbrev ConG.rs (n:Nat) (x:Nat→ConG):SV:=.r (.rs 3 n λi j=>(x i).c j)
def WarG.c (x:WarG):Nat→RV
 | 0=>.i x.l
 | 1=>.i x.p
 | 2=>.i x.f
 | 3=>.i x.t
 | _=>.any
@[go_sem]theorem WarG.c0 (x:WarG):x.c 0=.i x.l:=rfl
@[go_sem]theorem WarG.c1 (x:WarG):x.c 1=.i x.p:=rfl
@[go_sem]theorem WarG.c2 (x:WarG):x.c 2=.i x.f:=rfl
@[go_sem]theorem WarG.c3 (x:WarG):x.c 3=.i x.t:=rfl
abbrev WarG.sv (x:WarG):SV:=.agg [.i x.l,.i x.p,.i x.f,.i x.t]
abbrev WarG.rs (n:Nat) (x:Nat→WarG):SV:=.r (.rs 4 n λi j=>(x i).c j)
def MarkG.c (x:MarkG):Nat→RV
 | 0=>.i x.l
 | 1=>.i x.p
 | 2=>.i x.s
 | 3=>.i x.u
 | 4=>.i x.n
 | _=>.any
@[go_sem]theorem MarkG.c0 (x:MarkG):x.c 0=.i x.l:=rfl
@[go_sem]theorem MarkG.c1 (x:MarkG):x.c 1=.i x.p:=rfl
@[go_sem]theorem MarkG.c2 (x:MarkG):x.c 2=.i x.s:=rfl
@[go_sem]theorem MarkG.c3 (x:MarkG):x.c 3=.i x.u:=rfl
@[go_sem]theorem MarkG.c4 (x:MarkG):x.c 4=.i x.n:=rfl
abbrev MarkG.sv (x:MarkG):SV:=.agg [.i x.l,.i x.p,.i x.s,.i x.u,.i x.n]
abbrev MarkG.rs (n:Nat) (x:Nat→MarkG):SV:=.r (.rs 5 n λi j=>(x i).c j)
def RuleG.good (x:RuleG):Bool:=kindB x.p&&kindB x.r&&kindB x.l&&(timeB x.f&&timeB x.t)&&decide (x.f<x.t)&&btw 1 2 x.k&&(btw 1 3 x.s&&btw 1 3 x.b)
def ConG.good (x:ConG):Bool:=persB x.p&&kindB x.q&&timeB x.u
def WarG.good (x:WarG):Bool:=kindB x.l&&persB x.p&&(timeB x.f&&timeB x.t)&&decide (x.f<x.t)
def MarkG.good (x:MarkG):Bool:=kindB x.l&&persB x.p&&(timeB x.s&&timeB x.u)&&decide (x.s<x.u)&&btw 0 1000 x.n
def RuleG.byte (x:RuleG):Prop:=0≤x.b∧x.b<256
theorem wrap_u8 (h:Int) (hh:0≤h∧h<256):IntKind.i64.wrap h=h:=by
 unfold IntKind.wrap;simp[IntKind.bits];omega
theorem goodConsent73 (x:ConG):Pure Tryz.prog 229 [x.sv] (· =.b x.good):=by
 refine pure_of_GC T_ok Tryz.func229 rfl (by kernel_rfl) (nb rfl) rfl rfl ?_
 obtain⟨a0,h0⟩:∃a,(persB x.p)=a:=⟨_,rfl⟩
 obtain⟨a1,h1⟩:∃a,(kindB x.q)=a:=⟨_,rfl⟩
 obtain⟨a2,h2⟩:∃a,(timeB x.u)=a:=⟨_,rfl⟩
 have hg:x.good=(a0&&a1&&a2):=by rw[ConG.good,h0,h1,h2]
 rw[hg]
 clear hg
 simp[go_sem]
 refine call_lent (v:=.b a0) (by simp[go_sem];rw[← h0];exact people1 rfl) rfl ?_
 cases a0
 ·simp[go_sem]
 simp[go_sem]
 refine call_lent (v:=.b a1) (by simp[go_sem];rw[← h1];exact kinds1 rfl) rfl ?_
 cases a1
 ·simp[go_sem]
 simp[go_sem]
 refine call_lent (v:=.b a2) (by simp[go_sem];rw[← h2];exact times1 rfl) rfl ?_
 cases a2
 ·simp[go_sem]
 simp[go_sem]
theorem goodRule71 (x:RuleG) (hh:x.byte):Pure Tryz.prog 227 [x.sv] (· =.b x.good):=by
 refine pure_of_GC T_ok Tryz.func227 rfl (by kernel_rfl) (nb rfl) rfl rfl ?_
 obtain⟨a0,h0⟩:∃a,(kindB x.p&&kindB x.r&&kindB x.l)=a:=⟨_,rfl⟩
 obtain⟨a1,h1⟩:∃a,(timeB x.f&&timeB x.t)=a:=⟨_,rfl⟩
 obtain⟨a3,h3⟩:∃a,(btw 1 2 x.k)=a:=⟨_,rfl⟩
 obtain⟨a4,h4⟩:∃a,(btw 1 3 x.s&&btw 1 3 x.b)=a:=⟨_,rfl⟩
 have hg:x.good=(a0&&a1&&decide (x.f<x.t)&&a3&&a4):=by rw[RuleG.good,h0,h1,h3,h4]
 rw[hg]
 clear hg
 simp[go_sem]
 refine call_lent (v:=.b a0) (by simp[go_sem,wrap_u8 x.b hh];rw[← h0];exact kinds3 rfl rfl rfl) rfl ?_
 cases a0
 ·simp[go_sem]
 simp[go_sem]
 refine call_lent (v:=.b a1) (by simp[go_sem,wrap_u8 x.b hh];rw[← h1];exact times2 rfl rfl) rfl ?_
 cases a1
 ·simp[go_sem]
 simp[go_sem]
 by_cases hc:x.f<x.t
 rotate_left
 ·simp[go_sem,hc]
 simp[go_sem,hc]
 refine call_lent (v:=.b a3) (by simp[go_sem,wrap_u8 x.b hh];rw[← h3];exact from1 rfl) rfl ?_
 cases a3
 ·simp[go_sem]
 simp[go_sem]
 refine call_lent (v:=.b a4) (by simp[go_sem,wrap_u8 x.b hh];rw[← h4];exact from2 rfl rfl) rfl ?_
 cases a4
 ·simp[go_sem]
 simp[go_sem]
theorem goodWarrant75 (x:WarG):Pure Tryz.prog 231 [x.sv] (· =.b x.good):=by
 refine pure_of_GC T_ok Tryz.func231 rfl (by kernel_rfl) (nb rfl) rfl rfl ?_
 obtain⟨a0,h0⟩:∃a,(kindB x.l)=a:=⟨_,rfl⟩
 obtain⟨a1,h1⟩:∃a,(persB x.p)=a:=⟨_,rfl⟩
 obtain⟨a2,h2⟩:∃a,(timeB x.f&&timeB x.t)=a:=⟨_,rfl⟩
 have hg:x.good=(a0&&a1&&a2&&decide (x.f<x.t)):=by rw[WarG.good,h0,h1,h2]
 rw[hg]
 clear hg
 simp[go_sem]
 refine call_lent (v:=.b a0) (by simp[go_sem];rw[← h0];exact kinds1 rfl) rfl ?_
 cases a0
 ·simp[go_sem]
 simp[go_sem]
 refine call_lent (v:=.b a1) (by simp[go_sem];rw[← h1];exact people1 rfl) rfl ?_
 cases a1
 ·simp[go_sem]
 simp[go_sem]
 refine call_lent (v:=.b a2) (by simp[go_sem];rw[← h2];exact times2 rfl rfl) rfl ?_
 cases a2
 ·simp[go_sem]
 simp[go_sem]
theorem goodMark77 (x:MarkG):Pure Tryz.prog 233 [x.sv] (· =.b x.good):=by
 refine pure_of_GC T_ok Tryz.func233 rfl (by kernel_rfl) (nb rfl) rfl rfl ?_
 obtain⟨a0,h0⟩:∃a,(kindB x.l)=a:=⟨_,rfl⟩
 obtain⟨a1,h1⟩:∃a,(persB x.p)=a:=⟨_,rfl⟩
 obtain⟨a2,h2⟩:∃a,(timeB x.s&&timeB x.u)=a:=⟨_,rfl⟩
 obtain⟨a4,h4⟩:∃a,(btw 0 1000 x.n)=a:=⟨_,rfl⟩
 have hg:x.good=(a0&&a1&&a2&&decide (x.s<x.u)&&a4):=by rw[MarkG.good,h0,h1,h2,h4]
 rw[hg]
 clear hg
 simp[go_sem]
 refine call_lent (v:=.b a0) (by simp[go_sem];rw[← h0];exact kinds1 rfl) rfl ?_
 cases a0
 ·simp[go_sem]
 simp[go_sem]
 refine call_lent (v:=.b a1) (by simp[go_sem];rw[← h1];exact people1 rfl) rfl ?_
 cases a1
 ·simp[go_sem]
 simp[go_sem]
 refine call_lent (v:=.b a2) (by simp[go_sem];rw[← h2];exact times2 rfl rfl) rfl ?_
 cases a2
 ·simp[go_sem]
 simp[go_sem]
 by_cases hc:x.s<x.u
 rotate_left
 ·simp[go_sem,hc]
 simp[go_sem,hc]
 refine call_lent (v:=.b a4) (by simp[go_sem];rw[← h4];exact from1 rfl) rfl ?_
 cases a4
 ·simp[go_sem]
 simp[go_sem]
theorem not119 (g:FuncId) (x:RuleG) (p:Bool) (hp:Pure Tryz.prog g [x.sv] (· =.b p)) (gt:Nat→Nat→RV) (h:gt 0 0=.fn (.func g) 0 0 (λ_=>.any) λ_=>.any):Pure Tryz.prog 320 [x.sv,.r (.rp 1 1 gt 0 0)] (· =.b (!p)):=by
 refine pure_of_GC T_ok Tryz.func320 rfl (by kernel_rfl) (nb rfl) rfl rfl ?_
 simp[go_sem,h]
 refine call_val hp rfl rfl ?_
 simp[go_sem]
theorem allRule70 (n:Nat) (hn:(n:Int)<2 ^ 63) (x:Nat→RuleG) (most:Int) (g:FuncId) (p:Nat→Bool) (hp:∀i,i<n→Pure Tryz.prog g [(x i).sv] (· =.b (p i))) :
 Pure Tryz.prog 226 [RuleG.rs n x,.i most,.fn (.func g) [] []] (· =.b (decide ((n:Int)≤most)&&(List.range n).all p)):=by
 refine pure_of_GC T_ok Tryz.func226 rfl (by kernel_rfl) (nb rfl) rfl rfl ?_
 simp[go_sem]
 split
 ·rename_i hle
  refine call_lent (v:=.b ((List.range n).any λi=>!p i)) ?_ rfl ?_
  ·simp[go_sem]
   exact has118 n hn (λi j=>(x i).c j) (320:FuncId) _ _ rfl λi hi'=>not119 g (x i) (p i) (hp i hi') _ rfl
  ·simp[go_sem]
   simp[hle,List.not_all_eq_any_not]
 ·rename_i hle
  simp[hle]
theorem not121 (g:FuncId) (x:ConG) (p:Bool) (hp:Pure Tryz.prog g [x.sv] (· =.b p)) (gt:Nat→Nat→RV) (h:gt 0 0=.fn (.func g) 0 0 (λ_=>.any) λ_=>.any):Pure Tryz.prog 323 [x.sv,.r (.rp 1 1 gt 0 0)] (· =.b (!p)):=by
 refine pure_of_GC T_ok Tryz.func323 rfl (by kernel_rfl) (nb rfl) rfl rfl ?_
 simp[go_sem,h]
 refine call_val hp rfl rfl ?_
 simp[go_sem]
theorem allConsent72 (n:Nat) (hn:(n:Int)<2 ^ 63) (x:Nat→ConG) (most:Int) (g:FuncId) (p:Nat→Bool) (hp:∀i,i<n→Pure Tryz.prog g [(x i).sv] (· =.b (p i))) :
 Pure Tryz.prog 228 [ConG.rs n x,.i most,.fn (.func g) [] []] (· =.b (decide ((n:Int)≤most)&&(List.range n).all p)):=by
 refine pure_of_GC T_ok Tryz.func228 rfl (by kernel_rfl) (nb rfl) rfl rfl ?_
 simp[go_sem]
 split
 ·rename_i hle
  refine call_lent (v:=.b ((List.range n).any λi=>!p i)) ?_ rfl ?_
  ·simp[go_sem]
   exact has120 n hn (λi j=>(x i).c j) (323:FuncId) _ _ rfl λi hi'=>not121 g (x i) (p i) (hp i hi') _ rfl
  ·simp[go_sem]
   simp[hle,List.not_all_eq_any_not]
 ·rename_i hle
  simp[hle]
theorem not123 (g:FuncId) (x:WarG) (p:Bool) (hp:Pure Tryz.prog g [x.sv] (· =.b p)) (gt:Nat→Nat→RV) (h:gt 0 0=.fn (.func g) 0 0 (λ_=>.any) λ_=>.any):Pure Tryz.prog 324 [x.sv,.r (.rp 1 1 gt 0 0)] (· =.b (!p)):=by
 refine pure_of_GC T_ok Tryz.func324 rfl (by kernel_rfl) (nb rfl) rfl rfl ?_
 simp[go_sem,h]
 refine call_val hp rfl rfl ?_
 simp[go_sem]
theorem allWarrant74 (n:Nat) (hn:(n:Int)<2 ^ 63) (x:Nat→WarG) (most:Int) (g:FuncId) (p:Nat→Bool) (hp:∀i,i<n→Pure Tryz.prog g [(x i).sv] (· =.b (p i))) :
 Pure Tryz.prog 230 [WarG.rs n x,.i most,.fn (.func g) [] []] (· =.b (decide ((n:Int)≤most)&&(List.range n).all p)):=by
 refine pure_of_GC T_ok Tryz.func230 rfl (by kernel_rfl) (nb rfl) rfl rfl ?_
 simp[go_sem]
 split
 ·rename_i hle
  refine call_lent (v:=.b ((List.range n).any λi=>!p i)) ?_ rfl ?_
  ·simp[go_sem]
   exact has122 n hn (λi j=>(x i).c j) (324:FuncId) _ _ rfl λi hi'=>not123 g (x i) (p i) (hp i hi') _ rfl
  ·simp[go_sem]
   simp[hle,List.not_all_eq_any_not]
 ·rename_i hle
  simp[hle]
theorem not125 (g:FuncId) (x:MarkG) (p:Bool) (hp:Pure Tryz.prog g [x.sv] (· =.b p)) (gt:Nat→Nat→RV) (h:gt 0 0=.fn (.func g) 0 0 (λ_=>.any) λ_=>.any):Pure Tryz.prog 325 [x.sv,.r (.rp 1 1 gt 0 0)] (· =.b (!p)):=by
 refine pure_of_GC T_ok Tryz.func325 rfl (by kernel_rfl) (nb rfl) rfl rfl ?_
 simp[go_sem,h]
 refine call_val hp rfl rfl ?_
 simp[go_sem]
theorem allMark76 (n:Nat) (hn:(n:Int)<2 ^ 63) (x:Nat→MarkG) (most:Int) (g:FuncId) (p:Nat→Bool) (hp:∀i,i<n→Pure Tryz.prog g [(x i).sv] (· =.b (p i))) :
 Pure Tryz.prog 232 [MarkG.rs n x,.i most,.fn (.func g) [] []] (· =.b (decide ((n:Int)≤most)&&(List.range n).all p)):=by
 refine pure_of_GC T_ok Tryz.func232 rfl (by kernel_rfl) (nb rfl) rfl rfl ?_
 simp[go_sem]
 split
 ·rename_i hle
  refine call_lent (v:=.b ((List.range n).any λi=>!p i)) ?_ rfl ?_
  ·simp[go_sem]
   exact has124 n hn (λi j=>(x i).c j) (325:FuncId) _ _ rfl λi hi'=>not125 g (x i) (p i) (hp i hi') _ rfl
  ·simp[go_sem]
   simp[hle,List.not_all_eq_any_not]
 ·rename_i hle
  simp[hle]
theorem less68 (x y:MarkG):Pure Tryz.prog 104 [x.sv,y.sv] (· =.i (lex (cmpI x.l y.l) (cmpI x.p y.p))):=by
 refine pure_of_GC T_ok Tryz.func104 rfl (by kernel_rfl) (nb rfl) rfl rfl ?_
 simp[go_sem]
 refine GDraw_of T_ok (by kernel_rfl) 10 (by kernel_rfl) rfl rfl ?_
 simp[go_sem]
 refine⟨_,dcall_val (compare97 x.l y.l) rfl rfl,_,dcall_val (compare97 x.p y.p) rfl rfl,?_⟩
 simp[go_sem]
 refine call_lent (v:=.i (lex (cmpI x.l y.l) (cmpI x.p y.p))) ?_ rfl ?_
 ·simp[go_sem]
  exact or2 rfl rfl
 ·simp[go_sem]
def ConG.lt (x y:ConG):Bool:=decide (lex (cmpI x.p y.p) (cmpI x.q y.q)<0)
def MarkG.lt (x y:MarkG):Bool:=decide (lex (cmpI x.l y.l) (cmpI x.p y.p)<0)
theorem rising78 (n:Nat) (hn:(n:Int)<2 ^ 62) (x:Nat→ConG) :
 Pure Tryz.prog 234 [ConG.rs n x,.fn (.func 235) [] []] (· =.b ((List.range (n - 1)).all λi=>(x i).lt (x (i+1)))):=by
 refine pure_of_GC T_ok Tryz.func234 rfl (by kernel_rfl) (nb rfl) rfl rfl ?_
 simp[go_sem]
 refine GLoop_of T_ok (α:=Nat) (λk=>[(0,ConG.rs n x),(1,.fn (.func 235) [] []),(5,.i ((k:Int)+1))]) (λ_=>[]) 0 (λk=>(k=0∨k+1≤n)∧∀j,j<k→(x j).lt (x (j+1))=true) (λk=>n - k) 0 (λ_=>rfl) (by simp) (by simp[go_sem]) (by simp[go_sem]) ?_
 intro k J hi
 simp[go_sem]
 split
 ·rename_i hlt
  refine GDraw_of T_ok (by kernel_rfl) 10 (by kernel_rfl) rfl rfl ?_
  simp[go_sem]
  refine⟨by omega,by omega,⟨by omega,by omega⟩,by omega,?_⟩
  refine call_val (less79 (x k).p (x k).q (x k).u (x (k+1)).p (x (k+1)).q (x (k+1)).u) rfl rfl ?_
  simp[go_sem]
  split
  ·rename_i h0
   refine⟨k,by omega,?_⟩
   simp[ConG.lt];omega
  ·rename_i h0
   refine⟨by omega,k+1,⟨by omega,λj hj=>?_⟩,by omega,by simp⟩
   by_cases hjk:j=k
   ·subst hjk;simp[ConG.lt];omega
   ·exact hi.2 j (by omega)
 ·rename_i hlt
  intro j hj
  exact hi.2 j (by omega)
theorem rising80 (n:Nat) (hn:(n:Int)<2 ^ 62) (x:Nat→MarkG) :
 Pure Tryz.prog 236 [MarkG.rs n x,.fn (.func 104) [] []] (· =.b ((List.range (n - 1)).all λi=>(x i).lt (x (i+1)))):=by
 refine pure_of_GC T_ok Tryz.func236 rfl (by kernel_rfl) (nb rfl) rfl rfl ?_
 simp[go_sem]
 refine GLoop_of T_ok (α:=Nat) (λk=>[(0,MarkG.rs n x),(1,.fn (.func 104) [] []),(5,.i ((k:Int)+1))]) (λ_=>[]) 0 (λk=>(k=0∨k+1≤n)∧∀j,j<k→(x j).lt (x (j+1))=true) (λk=>n - k) 0 (λ_=>rfl) (by simp) (by simp[go_sem]) (by simp[go_sem]) ?_
 intro k J hi
 simp[go_sem]
 split
 ·rename_i hlt
  refine GDraw_of T_ok (by kernel_rfl) 10 (by kernel_rfl) rfl rfl ?_
  simp[go_sem]
  refine⟨by omega,by omega,⟨by omega,by omega⟩,by omega,?_⟩
  refine call_val (less68 (x k) (x (k+1))) rfl rfl ?_
  simp[go_sem]
  split
  ·rename_i h0
   refine⟨k,by omega,?_⟩
   simp[MarkG.lt];omega
  ·rename_i h0
   refine⟨by omega,k+1,⟨by omega,λj hj=>?_⟩,by omega,by simp⟩
   by_cases hjk:j=k
   ·subst hjk;simp[MarkG.lt];omega
   ·exact hi.2 j (by omega)
 ·rename_i hlt
  intro j hj
  exact hi.2 j (by omega)
structure RG where
 (nr:Nat) (r:Nat→RuleG) (nc:Nat) (c:Nat→ConG) (nw:Nat) (w:Nat→WarG) (nm:Nat) (m:Nat→MarkG)
abbrev RG.sv (g:RG):SV:=.agg [RuleG.rs g.nr g.r,ConG.rs g.nc g.c,WarG.rs g.nw g.w,MarkG.rs g.nm g.m]
structure RG.OK (g:RG):Prop where
 nr:(g.nr:Int)<2 ^ 62
 nc:(g.nc:Int)<2 ^ 62
 nw:(g.nw:Int)<2 ^ 62
 nm:(g.nm:Int)<2 ^ 62
 by':∀i,i<g.nr→(g.r i).byte
def RG.c1 (g:RG):Bool:=decide ((g.nr:Int)≤20)&&(List.range g.nr).all λi=>(g.r i).good
def RG.c2 (g:RG):Bool:=decide ((g.nc:Int)≤40)&&(List.range g.nc).all λi=>(g.c i).good
def RG.c3 (g:RG):Bool:=decide ((g.nw:Int)≤20)&&(List.range g.nw).all λi=>(g.w i).good
def RG.c4 (g:RG):Bool:=decide ((g.nm:Int)≤40)&&(List.range g.nm).all λi=>(g.m i).good
def RG.c5 (g:RG):Bool:=(List.range (g.nc - 1)).all λi=>(g.c i).lt (g.c (i+1))
def RG.c6 (g:RG):Bool:=(List.range (g.nm - 1)).all λi=>(g.m i).lt (g.m (i+1))
def RG.valid (g:RG):Bool:=g.c1&&g.c2&&g.c3&&g.c4&&g.c5&&g.c6
theorem check28 (g:RG) (h:g.OK):Pure Tryz.prog 121 [g.sv] (· =.i (if g.valid then 0 else 8)):=by
 refine pure_of_GC T_ok Tryz.func121 rfl (by kernel_rfl) (nb rfl) rfl rfl ?_
 have q0:=(allRule70 g.nr (by have:=h.nr;omega) g.r 20 (227:FuncId) (λi=>(g.r i).good) (λi hi=>goodRule71 _ (h.by' i hi))).val (v':=.b g.c1) rfl
 have q1:=(allConsent72 g.nc (by have:=h.nc;omega) g.c 40 (229:FuncId) (λi=>(g.c i).good) (λi hi=>goodConsent73 _)).val (v':=.b g.c2) rfl
 have q2:=(allWarrant74 g.nw (by have:=h.nw;omega) g.w 20 (231:FuncId) (λi=>(g.w i).good) (λi hi=>goodWarrant75 _)).val (v':=.b g.c3) rfl
 have q3:=(allMark76 g.nm (by have:=h.nm;omega) g.m 40 (233:FuncId) (λi=>(g.m i).good) (λi hi=>goodMark77 _)).val (v':=.b g.c4) rfl
 have q4:=(rising78 g.nc h.nc g.c).val (v':=.b g.c5) rfl
 have q5:=(rising80 g.nm h.nm g.m).val (v':=.b g.c6) rfl
 obtain⟨a0,e0⟩:∃a,g.c1=a:=⟨_,rfl⟩
 rw[e0] at q0
 obtain⟨a1,e1⟩:∃a,g.c2=a:=⟨_,rfl⟩
 rw[e1] at q1
 obtain⟨a2,e2⟩:∃a,g.c3=a:=⟨_,rfl⟩
 rw[e2] at q2
 obtain⟨a3,e3⟩:∃a,g.c4=a:=⟨_,rfl⟩
 rw[e3] at q3
 obtain⟨a4,e4⟩:∃a,g.c5=a:=⟨_,rfl⟩
 rw[e4] at q4
 obtain⟨a5,e5⟩:∃a,g.c6=a:=⟨_,rfl⟩
 rw[e5] at q5
 have hv:g.valid=(a0&&a1&&a2&&a3&&a4&&a5):=by rw[RG.valid,e0,e1,e2,e3,e4,e5]
 rw[hv]
 clear hv
 simp[go_sem]
 refine call_val q0 rfl rfl ?_
 cases a0
 ·simp[go_sem]
 simp[go_sem]
 refine call_val q1 rfl rfl ?_
 cases a1
 ·simp[go_sem]
 simp[go_sem]
 refine call_val q2 rfl rfl ?_
 cases a2
 ·simp[go_sem]
 simp[go_sem]
 refine call_val q3 rfl rfl ?_
 cases a3
 ·simp[go_sem]
 simp[go_sem]
 refine call_val q4 rfl rfl ?_
 cases a4
 ·simp[go_sem]
 simp[go_sem]
 refine call_val q5 rfl rfl ?_
 cases a5
 ·simp[go_sem]
 simp[go_sem]
end Go.Gx.Rg
namespace Go.Gx.Sr
open Go.RowKit Go.Proofs Go.Proofs.YtncccnmmjfapnaaGreat Go.Gx.Ix
theorem idx274 (n:Nat) (hn:(n:Int)<2 ^ 63) (get:Nat→Nat→RV) (g:FuncId) (ca:List SV) (p:Nat→Bool) (hca:SV.closedL ca=true) (hp:∀i,i<n→Pure Tryz.prog g (.agg [.r (get i 0),.r (get i 1),.r (get i 2)]::ca) (· =.b (p i))) :
 Pure Tryz.prog 274 [.r (.rs 3 n get),.fn (.func g) [] ca] (· =.i (Rg.idx p n)):=by
 refine pure_of_GC T_ok Tryz.func274 rfl (by kernel_rfl) (nb rfl) rfl rfl ?_
 simp[go_sem]
 refine GLoop_of T_ok (α:=Nat) (λi=>[(0,.r (.rs 3 n get)),(1,.fn (.func g) [] ca),(7,.i n),(8,.i i)]) (λ_=>[]) 0 (λi=>i≤n∧∀j,j<i→p j=false) (λi=>n - i) 0 (λ_=>rfl) (by simp) (by simp[go_sem,SV.trimL_closed 0 ca hca]) (by simp[go_sem]) ?_
 intro i J hi
 simp[go_sem]
 split
 ·rename_i hlt
  refine⟨hlt,?_⟩
  refine call_val (hp i hlt) (by simp[SV.closedL,SV.closed,hca]) rfl ?_
  simp[go_sem]
  split
  ·rename_i hpi
   rw[Rg.idx_found hlt hpi hi.2]
  ·rename_i hpi
   refine⟨by omega,i+1,⟨by omega,λj hj=>?_⟩,by omega,?_⟩
   ·by_cases hji:j=i
    ·subst hji;simpa using hpi
    ·exact hi.2 j (by omega)
   ·simp[SV.trimL_closed 0 ca hca]
 ·rename_i hlt
  rw[Rg.idx_none λj hj=>hi.2 j (by omega)]
theorem has172 (n:Nat) (hn:(n:Int)<2 ^ 63) (get:Nat→Nat→RV) (g:FuncId) (ca:List SV) (p:Nat→Bool) (hca:SV.closedL ca=true) (hp:∀i,i<n→Pure Tryz.prog g (.agg [.r (get i 0),.r (get i 1),.r (get i 2)]::ca) (· =.b (p i))) :
 Pure Tryz.prog 172 [.r (.rs 3 n get),.fn (.func g) [] ca] (· =.b ((List.range n).any p)):=by
 refine pure_of_GC T_ok Tryz.func172 rfl (by kernel_rfl) (nb rfl) rfl rfl ?_
 simp[go_sem]
 refine call_val (idx274 n hn get g ca p hca hp) (by simp[SV.closedL,SV.closed,hca]) rfl ?_
 simp[go_sem]
 exact Rg.idx_any
theorem range_any {α:Type} {l:List α} {p:α→Bool} {q:Nat→Bool} (h:∀i (hi:i<l.length),q i=p l[i]):(List.range l.length).any q=l.any p:=by
 rw[Bool.eq_iff_iff,List.any_eq_true,List.any_eq_true]
 constructor
 ·rintro⟨i,hi,hq⟩
  have hi:=List.mem_range.1 hi
  exact⟨l[i],List.getElem_mem hi,by rw[← h i hi];exact hq⟩
 ·rintro⟨x,hx,hq⟩
  obtain⟨i,hi,rfl⟩:=List.getElem_of_mem hx
  exact⟨i,List.mem_range.2 hi,by rw[h i hi];exact hq⟩
theorem hasCh (l:List ChG) (hn:l.length<1000000) (g:FuncId) (ca:List SV) (p:ChG→Bool) (hca:SV.closedL ca=true) (hp:∀x∈l,Pure Tryz.prog g (x.sv::ca) (· =.b (p x))) :
 Pure Tryz.prog 172 [chs l,.fn (.func g) [] ca] (· =.b (l.any p)):=by
 have h:=has172 l.length (by omega) (rowOf ChG.f l) g ca (λi=>match l[i]? with | some x=>p x | none=>false) hca λi hi=>by
  have:=hp l[i] (List.getElem_mem hi)
  rw[rowOf_get hi,rowOf_get hi,rowOf_get hi,List.getElem?_eq_getElem hi]
  exact this
 rw[range_any (p:=p) λi hi=>by simp[List.getElem?_eq_getElem hi]] at h
 exact h
def srtB (l:List ChG):Bool:=(List.range (l.length - 1)).all λi=>match l[i]?,l[i+1]? with | some x,some y=>decide (x.t≤y.t) | _,_=>true
theorem srtB_iff {l:List ChG}:srtB l=true↔∀i (h2:i+1<l.length),l[i].t≤l[i+1].t:=by
 unfold srtB
 rw[List.all_eq_true]
 constructor
 ·intro h i h2
  have:=h i (List.mem_range.2 (by omega))
  rw[List.getElem?_eq_getElem (by omega:i<l.length),List.getElem?_eq_getElem h2] at this
  simpa using this
 ·intro h i hi
  have hi:=List.mem_range.1 hi
  have h2:i+1<l.length:=by omega
  rw[List.getElem?_eq_getElem (by omega:i<l.length),List.getElem?_eq_getElem h2]
  simpa using h i h2
theorem srtB_no {l:List ChG} {i:Nat} (h2:i+1<l.length) (h:l[i+1].t<l[i].t):srtB l=false:=by
 rw[Bool.eq_false_iff]
 intro hs
 have:=srtB_iff.1 hs i h2
 omega
theorem sorted198 (l:List ChG) (hn:l.length<1000000) (h:∀x∈l,tmB x.t=true):Pure Tryz.prog 198 [chs l,.fn (.func 197) [] []] (· =.b (srtB l)):=by
 refine pure_of_GC T_ok Tryz.func198 rfl (by kernel_rfl) (nb rfl) rfl rfl ?_
 simp[go_sem]
 refine⟨by omega,?_⟩
 refine GLoop_of T_ok (α:=Nat) (λm=>[(0,chs l),(1,.fn (.func 197) [] []),(5,.i ((m:Int) - 1))]) (λ_=>[]) 0
  (λm=>m≤l.length∧∀i,m≤i+1→∀(h2:i+1<l.length),l[i].t≤l[i+1].t) (λm=>m) l.length (λ_=>rfl) ⟨Nat.le_refl _,λi h1 h2=>by omega⟩ (by simp[go_sem]) (by simp[go_sem]) ?_
 intro m J hi
 obtain⟨hm,hi⟩:=hi
 by_cases hlt:1<m
 ·have hlt':(0:Int)<(m:Int) - 1:=by omega
  obtain⟨k,rfl⟩:∃k,m=k+2:=⟨m - 2,by omega⟩
  have e1:((k+2:Nat):Int) - 1=((k+1:Nat):Int):=by omega
  have e2:((k+1:Nat):Int) - 1=(k:Int):=by omega
  have g1:=rowOf_get (f:=ChG.f) (l:=l) (i:=k+1) (by omega)
  have g0:=rowOf_get (f:=ChG.f) (l:=l) (i:=k) (by omega)
  rw[e1]
  simp[go_sem]
  refine GDraw_all T_ok (by kernel_rfl) (by kernel_rfl) ?_
  have hb1:(k:Int)+1<l.length:=by omega
  simp[go_sem,g0,g1]
  refine⟨⟨by omega,by omega⟩,by omega,by omega,by omega,_,dcall_val (order197 l[k+1] l[k] (h _ (List.getElem_mem _)) (h _ (List.getElem_mem _))) rfl rfl,?_⟩
  by_cases hc:l[k].t≤l[k+1].t
  ·have hc':¬l[k+1].t - l[k].t<0:=by omega
   have hc2:¬l[k+1].t<l[k].t:=by omega
   simp[go_sem,hc',hc2]
   refine⟨by omega,k+1,⟨by omega,λi h1 h2=>?_⟩,by omega,by omega⟩
   by_cases hik:i=k
   ·subst hik;exact hc
   ·exact hi i (by omega) h2
  ·have hc':l[k+1].t - l[k].t<0:=by omega
   have hc2:l[k+1].t<l[k].t:=by omega
   simp[go_sem,hc',hc2]
   exact srtB_no (by omega) hc2
 ·have hlt':¬(1:Int)<(m:Int):=by omega
  simp[go_sem,hlt']
  exact srtB_iff.2 λi h2=>hi i (by omega) h2
def chOK (l:List ChG):Bool:=decide (l.length≤60)&&l.all ChG.ok&&srtB l
theorem checkChanges96 (l:List ChG) (hn:l.length<1000000):Pure Tryz.prog 96 [chs l] (· =.i (if chOK l then 0 else 8)):=by
 obtain⟨c,hc⟩:∃c,chOK l=c:=⟨_,rfl⟩
 rw[hc]
 refine pure_of_GC T_ok Tryz.func96 rfl (by kernel_rfl) (nb rfl) rfl rfl ?_
 unfold chOK at hc
 by_cases h1:l.length≤60
 rotate_left
 ·have h1':(60:Int)<l.length:=by omega
  rw[decide_eq_false h1] at hc
  subst hc
  simp[go_sem,h1']
 have h1':¬(60:Int)<l.length:=by omega
 rw[decide_eq_true h1] at hc
 simp[go_sem,h1']
 refine call_val (hasCh l hn 196 [] (λx=>!x.ok) rfl λx _=>strange196 x) rfl rfl ?_
 obtain⟨a,ha⟩:∃a,l.any (λx=>!x.ok)=a:=⟨_,rfl⟩
 rw[ha]
 have hall:l.all ChG.ok=!a:=by rw[← ha,List.all_eq_not_any_not]
 rw[hall] at hc
 cases a
 rotate_left
 ·simp at hc
  subst hc
  simp[go_sem]
 have hok:∀x∈l,tmB x.t=true:=λx hx=>by
  have:=List.all_eq_true.1 hall x hx
  simp only [ChG.ok,Bool.and_eq_true] at this
  exact this.1
 simp at hc
 subst hc
 simp[go_sem]
 refine call_val (sorted198 l hn hok) rfl rfl ?_
 cases srtB l <;> simp[go_sem]
theorem tw_all {α:Type} {p:α→Bool}:∀{l:List α},(∀x∈l,p x=true)→l.takeWhile p=l
 | [],_=>rfl
 | a::l,h=>by rw[List.takeWhile_cons_of_pos (h a List.mem_cons_self),tw_all λx hx=>h x (List.mem_cons_of_mem _ hx)]
theorem upd2 (M:Mem) (n:Nat) (a b:Option Reg):upd (upd M n a) n b=upd M n b:=by
 funext r
 by_cases h:r=n <;> simp[upd,h]
theorem between98 (l:List ChG) (lo hi:Int):Own Tryz.prog 98 [] [chs l,.i lo,.i hi] (.fn (.func 199) [] [.ptr 0 0 1 0,.ptr 2 0 1 0,.ptr 1 0 1 0]) [.box [chs l],.box [.i lo],.box [.i hi]]:=by
 refine own_of_GC T_ok Tryz.func98 rfl (by kernel_rfl) (nb rfl) rfl rfl ?_
 simp[go_sem]
 refine⟨[0,1,2],by simp,λN=>⟨by simp[go_sem],by simp[go_sem]⟩⟩
theorem bwL_snoc {l:List ChG} {lo hi:Int} {k:Nat} (hk:k<l.length) (hall:∀i (h:i<l.length),i<k→l[i].t≤hi) (h1:l[k].t≤hi) :
 bwL (l.take (k+1)) lo hi=bwL (l.take k) lo hi++(if lo<l[k].t then [l[k]] else []):=by
 have e:∀n,n≤k+1→(l.take n).takeWhile (λc=>decide (c.t≤hi))=l.take n:=λn hn=>by
  refine tw_all λx hx=>?_
  obtain⟨i,hi',rfl⟩:=List.getElem_of_mem hx
  simp only [List.length_take] at hi'
  simp only [List.getElem_take]
  by_cases hik:i=k
  ·subst hik;simpa using h1
  ·simpa using hall i (by omega) (by omega)
 unfold bwL
 rw[e _ (Nat.le_refl _),e _ (by omega),List.take_succ_eq_append_getElem hk,List.filter_append]
 congr 1
 by_cases h:lo<l[k].t <;> simp[h]
theorem bwL_stop {l:List ChG} {lo hi:Int} {k:Nat} (hk:k<l.length) (hall:∀i (h:i<l.length),i<k→l[i].t≤hi) (h1:hi<l[k].t):bwL l lo hi=bwL (l.take k) lo hi:=by
 unfold bwL
 congr 1
 have hl:l=l.take k++l[k]::l.drop (k+1):=by simp
 have e:∀x∈l.take k,decide (x.t≤hi)=true:=λx hx=>by
  obtain⟨i,hi',rfl⟩:=List.getElem_of_mem hx
  simp only [List.length_take] at hi'
  simp only [List.getElem_take]
  simpa using hall i (by omega) (by omega)
 conv=>lhs;rw[hl]
 rw[List.takeWhile_append_of_pos e,List.takeWhile_cons_of_neg (by simp;omega),List.append_nil,tw_all e]
theorem bwL_pre {l:List ChG} {lo hi:Int} {k:Nat} (hall:∀i (h:i<l.length),i<k→l[i].t≤hi):bwL (l.take k) lo hi <+: bwL l lo hi:=by
 have e:∀x∈l.take k,decide (x.t≤hi)=true:=λx hx=>by
  obtain⟨i,hi',rfl⟩:=List.getElem_of_mem hx
  simp only [List.length_take] at hi'
  simp only [List.getElem_take]
  simpa using hall i (by omega) (by omega)
 unfold bwL
 rw[tw_all e]
 conv=>rhs;rw[← List.take_append_drop k l]
 rw[List.takeWhile_append_of_pos e,List.filter_append]
 exact List.prefix_append _ _
theorem between199 (l:List ChG) (hn:l.length<1000000) (lo hi:Int) (g1 g2 g3:Nat→Nat→RV) (h1:g1 0 0=.rs 3 l.length (rowOf ChG.f l)) (h2:g2 0 0=.i hi) (h3:g3 0 0=.i lo) :
 IterC Tryz.prog T 199 [.r (.rp 1 1 g1 0 0),.r (.rp 1 1 g2 0 0),.r (.rp 1 1 g3 0 0)] (λc:ChG=>[c.sv]) (bwL l lo hi):=by
 refine⟨_,_,Tryz.func199,rfl,by kernel_rfl,Nat.le_of_ble_eq_true rfl,?_⟩
 intro np good m I M nx hnx h0 hst hy
 simp[go_sem,h1]
 refine GLoop_p T_ok (α:=Nat) (λk=>[(0,.fn (.yield m) [] []),(1,.r (.rp 1 1 g1 0 0)),(2,.r (.rp 1 1 g2 0 0)),(3,.r (.rp 1 1 g3 0 0)),(7,chs l),(8,.i l.length),(9,.i k)])
  (λk M nx=>k≤l.length∧(∀i (h:i<l.length),i<k→l[i].t≤hi)∧np≤nx∧I (bwL (l.take k) lo hi) M nx) (λk=>l.length - k) 0 ⟨Nat.zero_le _,λi _ h=>by omega,hnx,by simpa [bwL] using h0⟩ (by simp[go_sem]) ?_
 rintro k J M nx _ ⟨k1,k2,k3,k4⟩
 by_cases hk:k<l.length
 ·have hr:=rowOf_get (f:=ChG.f) hk
  have k5:=hst _ M nx (.box [.r (.i l[k].t),.r (.i l[k].p),.r (.v (.bool l[k].on))]) k3 k4
  have hk':(k:Int)<l.length:=by omega
  by_cases c1:l[k].t≤hi
  rotate_left
  ·have c1':hi<l[k].t:=by omega
   simp[go_sem,hk,hr,h2,h3,c1,c1']
   rw[bwL_stop hk k2 c1',upd2]
   exact k5
  have c1':¬hi<l[k].t:=by omega
  have hs:=bwL_snoc (lo:=lo) hk k2 c1
  have kk:∀i (h:i<l.length),i<k+1→l[i].t≤hi:=λi h hi'=>by
   by_cases e:i=k
   ·subst e;exact c1
   ·exact k2 i h (by omega)
  by_cases c2:lo<l[k].t
  ·rw[if_pos c2] at hs
   simp[go_sem,hk,hr,h2,h3,c1,c1',c2]
   rw[upd2]
   have hp:bwL (l.take k) lo hi++[l[k]] <+: bwL l lo hi:=hs▸bwL_pre λi h hi'=>kk i h hi'
   refine hy _ l[k] hp _ _ _ _ _ _ _ _ _ _ _ (by simp[go_sem]) (by simp[go_sem]) (by simp[dOK]) k5 λM' nx' hn' hI=>?_
   rw[← hs] at hI
   simp[go_sem]
   exact⟨by omega,k+1,by omega,by simp,by omega,kk,hn',hI⟩
  ·rw[if_neg c2,List.append_nil] at hs
   simp[go_sem,hk,hr,h2,h3,c1,c1',c2]
   rw[upd2]
   rw[← hs] at k5
   exact⟨by omega,k+1,by omega,by simp,by omega,kk,by omega,k5⟩
 ·have:k=l.length:=by omega
  subst this
  simp[go_sem]
  rw[List.take_length] at k4
  exact k4
theorem raw_shl (n:Nat):IntKind.u64.wrap (2 ^ min n 64)=((shl64 1#64 n).toNat:Int):=by
 have h:GR.pure (0≤(n:Int)) (.r (.v (.int .u64 (IntKind.u64.wrap (((1#64).toNat:Int)*2 ^ min (n:Int).toNat 64)))))=.pure (0≤(n:Int)) (.w (shl64 1#64 (n:Int).toNat)):=gshl_u64 1#64 .i64 (n:Int)
 injection h with _ h2
 injection h2 with h3
 injection h3 with h4
 injection h4 with _ h5
 simpa using h5
def setL (s:W64) (l:List ChG):W64:=l.foldl putB s
theorem after194 (s:W64) (vs:List ChG) (ca:List SV) (hca:SV.closedL ca=true) (hit:IterC Tryz.prog T 199 ca (λc:ChG=>[c.sv]) vs) (hp:∀c∈vs,0≤c.p) :
 Pure Tryz.prog 194 [.w s,.fn (.func 199) [] ca] (· =.w (setL s vs)):=by
 refine pure_of_GC T_ok Tryz.func194 rfl (by kernel_rfl) (nb rfl) rfl rfl ?_
 simp[go_sem]
 refine GRange_p T_ok (λc:ChG=>[c.sv]) vs 1 (λpre M nx=>M 0=some (.box [.w (setL s pre)])∧1≤nx) (gf:=199) (ca:=ca) ?_ hit (λ_=>rfl) (by simp) ⟨by kernel_rfl,by kernel_rfl⟩ rfl (Nat.zero_le _) (by decide) ?_ ?_ ?_ ?_
 ·simp[go_sem]
 ·simp[go_sem,setL]
 ·rintro pre M nx R hn ⟨h0,h1⟩
  have e0:¬0=nx:=by omega
  simp[go_sem,e0,h0]
 ·rintro pre c hpre M nx hn ⟨h0,h1⟩
  have e0:¬0=nx:=by omega
  have e1:¬nx=0:=by omega
  have hc:0≤c.p:=hp c (hpre.subset (by simp))
  have hs:setL s (pre++[c])=putB (setL s pre) c:=by simp[setL]
  rw[hs]
  simp[go_sem,h0,e0,e1]
  refine GDraw_of T_ok (by kernel_rfl) 5 (by kernel_rfl) rfl rfl ?_
  simp[go_sem,h0,e0,e1]
  refine⟨by omega,?_⟩
  obtain⟨t,p,on⟩:=c
  cases on
  ·simp[go_sem,h0,e0,e1]
   rw[raw_shl,ofInt_w]
   rfl
  ·simp[go_sem,h0,e0,e1]
   refine GDraw_of T_ok (by kernel_rfl) 5 (by kernel_rfl) rfl rfl ?_
   simp[go_sem,h0,e0,e1]
   refine⟨hc,?_⟩
   rw[raw_shl,ofInt_w]
   rfl
 ·rintro M nx hn ⟨h0,h1⟩
  simp[go_sem,h0]
def lstE (l:List ChG) (t:Int):Int:=if chOK l then (if tmB t then 0 else 2) else 8
def lstW (l:List ChG) (t:Int):W64:=setL 0#64 (bwL l (-1) t)
theorem bwL_sub {l:List ChG} {lo hi:Int} {c:ChG} (h:c∈bwL l lo hi):c∈l:=(List.takeWhile_sublist _).subset (List.mem_filter.1 h).1
theorem chOK_p {l:List ChG} (h:chOK l=true) {c:ChG} (hc:c∈l):0≤c.t∧c.t≤maxT∧0≤c.p∧c.p≤63:=by
 simp only [chOK,Bool.and_eq_true] at h
 have:=List.all_eq_true.1 h.1.2 c hc
 simp only [ChG.ok,Bool.and_eq_true] at this
 have h1:=tmB_iff.1 this.1
 have h2:=psB_iff.1 this.2
 omega
theorem list93 (l:List ChG) (hn:l.length<1000000) (t:Int):Pure Tryz.prog 93 [chs l,.i t] (· =.tup [.w (if lstE l t=0 then lstW l t else 0#64),.i (lstE l t)]):=by
 refine pure_of_GC T_ok Tryz.func93 rfl (by kernel_rfl) (nb rfl) rfl rfl ?_
 simp[go_sem]
 refine call_val (checkChanges96 l hn) rfl rfl ?_
 by_cases hv:chOK l=true
 rotate_left
 ·have e:lstE l t=8:=by unfold lstE;rw[if_neg hv]
  simp[go_sem,hv,e]
 simp[go_sem,hv]
 refine call_val (isTime193 t) rfl rfl ?_
 by_cases ht:tmB t=true
 rotate_left
 ·have e:lstE l t=2:=by unfold lstE;rw[if_pos hv,if_neg ht]
  simp[go_sem,ht,e]
 have e:lstE l t=0:=by unfold lstE;rw[if_pos hv,if_pos ht]
 simp[go_sem,ht,e]
 refine callK_own [] (between98 l (-1) t) (by simp) rfl trivial ?_
 simp[go_sem]
 refine callK_freeze 0 (by simp[go_sem];rfl) ?_
 refine callK_freeze 1 (by simp[go_sem];rfl) ?_
 refine callK_freeze 2 (by simp[go_sem];rfl) ?_
 simp[go_sem]
 refine call_val (after194 0#64 (bwL l (-1) t) _ ?_ (between199 l hn (-1) t _ _ _ rfl rfl rfl) λc hc=>(chOK_p hv (bwL_sub hc)).2.2.1) rfl rfl ?_
 ·rfl
 simp[go_sem,lstW]
def onlE (l:List ChG) (p t:Int):Int:=if lstE l t=0 then (if psB p then 0 else 2) else lstE l t
def onlW (l:List ChG) (p t:Int):Int:=saidB (lstW l t) p
theorem online38 (l:List ChG) (hn:l.length<1000000) (p t:Int):Pure Tryz.prog 38 [chs l,.i p,.i t] (· =.tup [.r (.v (.int .u8 (if onlE l p t=0 then onlW l p t else 0))),.i (onlE l p t)]):=by
 refine pure_of_GC T_ok Tryz.func38 rfl (by kernel_rfl) (nb rfl) rfl rfl ?_
 simp[go_sem]
 refine call_val (list93 l hn t) rfl rfl ?_
 by_cases he:lstE l t=0
 rotate_left
 ·have e:onlE l p t=lstE l t:=by unfold onlE;rw[if_neg he]
  simp[go_sem,he,e]
 simp[go_sem,he]
 refine call_val (isPerson94 p) rfl rfl ?_
 by_cases hp:psB p=true
 rotate_left
 ·have e:onlE l p t=2:=by unfold onlE;rw[if_pos he,if_neg hp]
  simp[go_sem,hp,e]
 have e:onlE l p t=0:=by unfold onlE;rw[if_pos he,if_pos hp]
 simp[go_sem,hp,e]
 refine call_val (said95 (lstW l t) p (psB_iff.1 hp).1) rfl rfl ?_
 simp[go_sem,onlW]
theorem wrap_I (n:Int):IntKind.u64.wrap n=((u64 n).toNat:Int):=by
 unfold u64
 rw[BitVec.toNat_ofInt]
 simp only [IntKind.wrap,IntKind.bits,IntKind.signed]
 simp
 omega
def KsG.acc (k:KsG) (key:W64):Nat→W64
 | 0=>key
 | 1=>mix key (u64 k.a)
 | 2=>mix (mix key (u64 k.a)) k.s
 | _=>mix (mix (mix key (u64 k.a)) k.s) (u64 k.m)
def KsG.seal (k:KsG) (key:W64):W64:=sealW k.a k.m k.s key
theorem seal240 (k:KsG) (key:W64) (gt:Nat→Nat→RV) (h0:gt 0 0=.i k.a) (h1:gt 0 1=.i k.m) (h2:gt 0 2=.w k.s) (h4:gt 0 4=.w key):Pure Tryz.prog 240 [.r (.rp 5 1 gt 0 0)] (· =.w (k.seal key)):=by
 refine pure_of_GC T_ok Tryz.func240 rfl (by kernel_rfl) (nb rfl) rfl rfl ?_
 simp[go_sem,h4]
 refine GDraw_all T_ok (by kernel_rfl) (by kernel_rfl) ?_
 simp[go_sem,h0,h1,h2]
 simp only [wrap_I]
 refine GLoop_of T_ok (α:=Nat) (λi=>[(3,.w (k.acc key i)),(27,.sl 0 1 0 3 none),(28,.i 3),(29,.i i)]) (λ_=>[some (.vec 24 1 3 λi j=>[SV.w (u64 k.a),.w k.s,.w (u64 k.m)][i+j]?.getD (.r .any))]) 1 (λi=>i≤3) (λi=>3 - i) 0 (λ_=>rfl) (by simp) (by simp[go_sem,KsG.acc]) (by simp[go_sem];funext i j;generalize i+j=n;rcases n with _ | _ | _ | n <;> rfl) ?_
 intro i J hi
 rcases(by omega:i=3∨i=0∨i=1∨i=2) with rfl | rfl | rfl | rfl
 ·simp[go_sem]
  rfl
 ·simp[go_sem]
  refine call_val (mix318 _ _) rfl rfl ?_
  simp[go_sem]
  refine⟨1,by omega,by omega,⟨⟨rfl,rfl⟩,?_⟩⟩
  funext i j;generalize i+j=n;rcases n with _ | _ | _ | n <;> rfl
 ·simp[go_sem]
  refine call_val (mix318 _ _) rfl rfl ?_
  simp[go_sem]
  refine⟨2,by omega,by omega,⟨⟨rfl,rfl⟩,?_⟩⟩
  funext i j;generalize i+j=n;rcases n with _ | _ | _ | n <;> rfl
 ·simp[go_sem]
  refine call_val (mix318 _ _) rfl rfl ?_
  simp[go_sem]
  refine⟨3,by omega,by omega,⟨⟨rfl,rfl⟩,?_⟩⟩
  funext i j;generalize i+j=n;rcases n with _ | _ | _ | n <;> rfl
def KsG.ok (k:KsG) (key:W64):Bool:=tmB k.a&&tmB k.m&&decide (k.z=k.seal key)
theorem checkCopy134 (k:KsG) (key:W64):Pure Tryz.prog 134 [k.sv,.w key] (· =.i (if k.ok key then 0 else 8)):=by
 obtain⟨c,hc⟩:∃c,k.ok key=c:=⟨_,rfl⟩
 rw[hc]
 refine pure_of_GC T_ok Tryz.func134 rfl (by kernel_rfl) (nb rfl) rfl rfl ?_
 unfold KsG.ok at hc
 simp[go_sem]
 refine GDraw_all T_ok (by kernel_rfl) (by kernel_rfl) ?_
 simp[go_sem]
 refine⟨_,dcall_val (isTime193 k.a) rfl rfl,?_⟩
 obtain⟨a,ha⟩:∃a,tmB k.a=a:=⟨_,rfl⟩
 rw[ha] at hc ⊢
 cases a
 ·simp at hc
  subst hc
  simp[go_sem]
 simp[go_sem]
 refine⟨_,dcall_val (isTime193 k.m) rfl rfl,?_⟩
 obtain⟨b,hb⟩:∃b,tmB k.m=b:=⟨_,rfl⟩
 rw[hb] at hc ⊢
 cases b
 ·simp at hc
  subst hc
  simp[go_sem]
 simp at hc
 subst hc
 simp[go_sem]
 refine⟨_,dcall_deep (v:=.w (k.seal key)) (by simp[go_sem];exact seal240 k key _ rfl rfl rfl rfl) rfl,?_⟩
 by_cases hz:k.z=k.seal key
 ·simp[go_sem,hz]
 ·simp[go_sem,hz,toNat_inj]
def decE (k:KsG) (p n:Int) (key:W64):Int:=if k.ok key then askE p n k.a else 8
def decD (k:KsG) (p n:Int):Int:=if k.m<n - k.a then 3 else saidB k.s p
theorem askE_ok {p n a:Int} (h:askE p n a=0):0≤p∧p≤63∧0≤n∧n≤maxT∧0≤a∧a≤maxT∧a≤n:=by
 unfold askE at h
 split at h
 ·rename_i hb
  simp only [Bool.and_eq_true] at hb
  have h1:=psB_iff.1 hb.1.1
  have h2:=tmB_iff.1 hb.1.2
  have h3:=tmB_iff.1 hb.2
  split at h
  ·omega
  ·omega
 ·omega
theorem decide60 (k:KsG) (p n:Int) (key:W64):Pure Tryz.prog 60 [k.sv,.i p,.i n,.w key] (· =.tup [.r (.v (.int .u8 (if decE k p n key=0 then decD k p n else 0))),.i (decE k p n key)]):=by
 refine pure_of_GC T_ok Tryz.func60 rfl (by kernel_rfl) (nb rfl) rfl rfl ?_
 simp[go_sem]
 refine call_val (checkCopy134 k key) rfl rfl ?_
 by_cases hk:k.ok key=true
 rotate_left
 ·have e:decE k p n key=8:=by unfold decE;rw[if_neg hk]
  simp[go_sem,hk,e]
 have e:decE k p n key=askE p n k.a:=by unfold decE;rw[if_pos hk]
 simp[go_sem,hk,e]
 refine call_val (asked97 p n k.a) rfl rfl ?_
 by_cases ha:askE p n k.a=0
 rotate_left
 ·simp[go_sem,ha]
 obtain⟨a1,a2,a3,a4,a5,a6,a7⟩:=askE_ok ha
 simp only [maxT] at a4 a6
 by_cases hm:k.m<n - k.a
 ·simp[go_sem,ha,hm,decD]
  omega
 ·simp[go_sem,ha,hm,decD]
  refine⟨by omega,?_⟩
  refine call_val (said95 k.s p a1) rfl rfl ?_
  simp[go_sem]
theorem sealed420 (k:KsG) (key:W64):Own Tryz.prog 420 [.box [.i k.a,.i k.m,.w k.s,.w k.z,.w key]] [.ptr 0 0 5 0,.fn (.func 240) [.ptr 0 0 5 0] []] (.agg [.i k.a,.i k.m,.w k.s,.w (k.seal key)]) []:=by
 refine own_of_GC T_ok Tryz.func420 rfl (by kernel_rfl) (nb rfl) rfl rfl ?_
 simp[go_sem]
 refine call_lent (v:=.w (k.seal key)) (by simp[go_sem];exact seal240 k key _ rfl rfl rfl rfl) rfl ?_
 simp[go_sem]
 refine⟨[],by simp,λN=>⟨by simp[go_sem],trivial⟩⟩
def copG (l:List ChG) (t m:Int) (key:W64):KsG:=⟨t,m,lstW l t,(KsG.mk t m (lstW l t) 0#64).seal key⟩
def copE (l:List ChG) (t m:Int):Int:=if lstE l t=0 then (if tmB m then 0 else 2) else lstE l t
def KsG.zero:KsG:=⟨0,0,0#64,0#64⟩
theorem copy341 (l:List ChG) (hn:l.length<1000000) (t m:Int) (key:W64):Pure Tryz.prog 341 [chs l,.i t,.i m,.w key] (· =.tup [(if copE l t m=0 then copG l t m key else KsG.zero).sv,.i (copE l t m)]):=by
 refine pure_of_GC T_ok Tryz.func341 rfl (by kernel_rfl) (nb rfl) rfl rfl ?_
 simp[go_sem]
 refine call_val (list93 l hn t) rfl rfl ?_
 by_cases he:lstE l t=0
 rotate_left
 ·have e:copE l t m=lstE l t:=by unfold copE;rw[if_neg he]
  simp[go_sem,he,e,KsG.zero]
 simp[go_sem,he]
 refine call_val (isTime193 m) rfl rfl ?_
 by_cases hm:tmB m=true
 rotate_left
 ·have e:copE l t m=2:=by unfold copE;rw[if_pos he,if_neg hm]
  simp[go_sem,hm,e,KsG.zero]
 have e:copE l t m=0:=by unfold copE;rw[if_pos he,if_pos hm]
 simp[go_sem,hm,e]
 refine callK_own [1] (sealed420 ⟨t,m,lstW l t,0#64⟩ key) (by simp) rfl ⟨rfl,trivial⟩ ?_
 simp[go_sem,copG,KsG.seal]
def lateE (l:List ChG) (k:KsG) (p n:Int):Int:=if chOK l then askE p n k.a else 8
def lateL (l:List ChG) (k:KsG) (p n:Int):List ChG:=(bwL l k.a n).filter λc=>decide (c.p=p)
theorem late39 (l:List ChG) (hn:l.length<1000000) (k:KsG) (p n:Int):Pure Tryz.prog 39 [chs l,k.sv,.i p,.i n] (· =.tup [chs (if lateE l k p n=0 then lateL l k p n else []),.i (lateE l k p n)]):=by
 refine Pure.ofSub ?_
 refine pure_of_GC T_ok Tryz.func39 rfl (by kernel_rfl) (nb rfl) rfl rfl ?_
 simp[go_sem]
 refine call_val (checkChanges96 l hn) rfl rfl ?_
 by_cases hv:chOK l=true
 rotate_left
 ·have e:lateE l k p n=8:=by unfold lateE;rw[if_neg hv]
  simp[go_sem,hv,e]
 have e:lateE l k p n=askE p n k.a:=by unfold lateE;rw[if_pos hv]
 simp[go_sem,hv,e]
 refine call_val (asked97 p n k.a) rfl rfl ?_
 by_cases ha:askE p n k.a=0
 rotate_left
 ·simp[go_sem,ha]
 simp[go_sem,ha]
 refine callK_own [] (between98 l k.a n) (by simp) rfl trivial ?_
 simp[go_sem]
 refine GRange_pre (GSt.freeze 3 rfl) ?_
 refine GRange_pre (GSt.freeze 4 rfl) ?_
 refine GRange_pre (GSt.freeze 5 rfl) ?_
 refine GRange_pre (GSt.adoptBox 2 0 114 3 (λi j=>.r (rowOf ChG.f [] i j)) (l:=[.r (.v (.slice none 0 0))]) (by simp[go_sem]) rfl (by simp)) ?_
 refine GRange_p T_ok (λc:ChG=>[c.sv]) (bwL l k.a n) 6 (λpre M nx=>M 1=some (.box [.i p])∧M 2=some (.box [.sl 6 3 0 (pre.filter λc=>decide (c.p=p)).length none])∧
  (∃G,M 6=some (.vec 114 3 (pre.filter λc=>decide (c.p=p)).length G)∧∀i j,i<(pre.filter λc=>decide (c.p=p)).length→j<3→G i j=.r (rowOf ChG.f (pre.filter λc=>decide (c.p=p)) i j))∧7≤nx)
  (gf:=199) (ca:=[.r (.rp 1 1 (gbox [chs l]) 0 0),.r (.rp 1 1 (gbox [.i n]) 0 0),.r (.rp 1 1 (gbox [.i k.a]) 0 0)]) ?_ (between199 l hn k.a n _ _ _ rfl rfl rfl) (λ_=>rfl) (by simp) ⟨by kernel_rfl,by kernel_rfl⟩ rfl (Nat.zero_le _) (by decide) ?_ ?_ ?_ ?_
 ·simp[go_sem]
 ·simp[go_sem]
 ·rintro pre M nx R hn ⟨h1,h2,⟨G,h3,hG⟩,h4⟩
  have e1:¬1=nx:=by omega
  have e2:¬2=nx:=by omega
  have e3:¬6=nx:=by omega
  simp[go_sem,e1,e2,e3,h1,h2,h3]
  exact⟨hG,by omega⟩
 ·rintro pre c hpre M nx hnx ⟨h1,h2,⟨G,h3,hG⟩,h4⟩
  have nn:∀a:Nat,a<7→a≠nx∧nx≠a:=λa h=>by omega
  obtain⟨L,hL⟩:∃L,pre.filter (λc=>decide (c.p=p))=L:=⟨_,rfl⟩
  rw[hL] at h2 h3 hG
  by_cases hc:c.p=p
  ·have hs:(pre++[c]).filter (λc=>decide (c.p=p))=L++[c]:=by rw[List.filter_append,hL];simp[hc]
   have hlen:L.length≤l.length:=by
    have h1:(bwL l k.a n).length≤l.length:=Nat.le_trans (List.length_filter_le _ _) (List.takeWhile_sublist _).length_le
    have h2:=hpre.length_le
    have h3:L.length≤pre.length:=hL▸List.length_filter_le _ _
    simp only [List.length_append] at h2
    omega
   simp only [hs]
   simp[go_sem,h1,h2,h3,nn,hc]
   refine⟨⟨by omega,by omega⟩,λi j hi hj=>?_,by omega⟩
   unfold joined
   by_cases hiL:i<L.length
   ·rw[if_pos hiL,hG i j hiL hj]
    unfold rowOf
    rw[List.getElem?_append_left hiL]
    rfl
   ·obtain rfl:i=L.length:=by omega
    rw[if_neg hiL,if_pos (by omega),Nat.sub_self]
    unfold rowOf
    rw[List.getElem?_concat_length]
    rcases(by omega:j=0∨j=1∨j=2) with rfl | rfl | rfl <;> simp[ChG.f,hc,SV.kill]
  ·have hs:(pre++[c]).filter (λc=>decide (c.p=p))=L:=by rw[List.filter_append,hL];simp[hc]
   simp only [hs]
   simp[go_sem,h1,h2,h3,nn,hc]
   exact⟨hG,by omega⟩
 ·rintro M nx hnx ⟨h1,h2,⟨G,h3,hG⟩,h4⟩
  simp[go_sem,h2,h3]
  refine⟨rfl,λi j hi hj=>?_⟩
  rw[hG i j hi hj]
  rfl
def acc3 (b x y z:W64):Nat→W64
 | 0=>b
 | 1=>mix b x
 | 2=>mix (mix b x) y
 | _=>mix (mix (mix b x) y) z
theorem mixed225 (b x y z:W64) (gt:Nat→Nat→RV) (h0:gt 0 0=.w x) (h1:gt 1 0=.w y) (h2:gt 2 0=.w z):Pure Tryz.prog 225 [.w b,.r (.rs 1 3 gt)] (· =.w (mix (mix (mix b x) y) z)):=by
 refine pure_of_GC T_ok Tryz.func225 rfl (by kernel_rfl) (nb rfl) rfl rfl ?_
 simp[go_sem]
 refine GLoop_of T_ok (α:=Nat) (λi=>[(0,.w (acc3 b x y z i)),(1,.r (.rs 1 3 gt)),(7,.r (.rs 1 3 gt)),(8,.i 3),(9,.i i)]) (λ_=>[]) 0 (λi=>i≤3) (λi=>3 - i) 0 (λ_=>rfl) (by simp) (by simp[go_sem,acc3]) (by simp[go_sem]) ?_
 intro i J hi
 rcases(by omega:i=3∨i=0∨i=1∨i=2) with rfl | rfl | rfl | rfl
 ·simp[go_sem]
  rfl
 ·simp[go_sem,h0]
  refine call_val (mix318 _ _) rfl rfl ?_
  simp[go_sem]
  exact⟨1,by omega,by omega,rfl,rfl⟩
 ·simp[go_sem,h1]
  refine call_val (mix318 _ _) rfl rfl ?_
  simp[go_sem]
  exact⟨2,by omega,by omega,rfl,rfl⟩
 ·simp[go_sem,h2]
  refine call_val (mix318 _ _) rfl rfl ?_
  simp[go_sem]
  exact⟨3,by omega,by omega,rfl,rfl⟩
def EnG.lnk (b:W64) (x:EnG):W64:=mix (mix (mix b (u64 x.t)) (u64 x.k)) x.s
theorem linked120 (b:W64) (x:EnG):Pure Tryz.prog 120 [.w b,x.sv] (· =.w (x.lnk b)):=by
 refine pure_of_GC T_ok Tryz.func120 rfl (by kernel_rfl) (nb rfl) rfl rfl ?_
 simp[go_sem]
 simp only [wrap_I]
 refine call_lent (v:=.w (x.lnk b)) (by simp[go_sem];exact mixed225 b (u64 x.t) (u64 x.k) x.s _ rfl rfl rfl) rfl ?_
 simp[go_sem]
theorem from157 (lo hi n:Int):Pure Tryz.prog 157 [.i lo,.i hi,.i n] (· =.b (btw lo hi n)):=by
 refine pure_of_GC T_ok Tryz.func157 rfl (by kernel_rfl) (nb rfl) rfl rfl ?_
 by_cases h:lo≤n <;> simp[go_sem,btw,h]
def EnG.rng (x:EnG):Bool:=btw 0 maxT x.t&&btw 0 7 x.k&&btw (-1) 63 x.p
def EnG.fit (x:EnG):Bool:=x.rng&&if x.p<0 then decide (or64 x.d x.a=0#64) else decide (xor64 (xor64 x.s x.d) x.a=0#64)
theorem fits119 (x:EnG):Pure Tryz.prog 119 [x.sv] (· =.b x.fit):=by
 obtain⟨c,hc⟩:∃c,x.fit=c:=⟨_,rfl⟩
 rw[hc]
 unfold EnG.fit EnG.rng at hc
 refine pure_of_GC T_ok Tryz.func119 rfl (by kernel_rfl) (nb rfl) rfl rfl ?_
 simp[go_sem]
 refine call_val (from157 0 maxT x.t) rfl rfl ?_
 obtain⟨b1,h1⟩:∃b,btw 0 maxT x.t=b:=⟨_,rfl⟩
 rw[h1] at hc ⊢
 cases b1
 ·simp at hc;subst hc
  simp[go_sem]
 simp[go_sem]
 refine call_val (from157 0 7 x.k) rfl rfl ?_
 obtain⟨b2,h2⟩:∃b,btw 0 7 x.k=b:=⟨_,rfl⟩
 rw[h2] at hc ⊢
 cases b2
 ·simp at hc;subst hc
  simp[go_sem]
 simp[go_sem]
 refine call_val (from157 (-1) 63 x.p) rfl rfl ?_
 obtain⟨b3,h3⟩:∃b,btw (-1) 63 x.p=b:=⟨_,rfl⟩
 rw[h3] at hc ⊢
 cases b3
 ·simp at hc;subst hc
  simp[go_sem]
 by_cases hp:x.p<0
 ·rw[if_pos hp] at hc
  by_cases ho:or64 x.d x.a=0#64
  ·simp[ho] at hc;subst hc
   simp[go_sem,hp,ho]
  ·simp[ho] at hc;subst hc
   simp[go_sem,hp,ho,toNat_zero]
 ·rw[if_neg hp] at hc
  by_cases ho:xor64 (xor64 x.s x.d) x.a=0#64
  ·simp[ho] at hc;subst hc
   simp[go_sem,hp,ho]
  ·simp[ho] at hc;subst hc
   simp[go_sem,hp,ho,toNat_zero]
def EnG.zero:EnG:=⟨0,0,0,0#64,0#64,0#64,0#64⟩
def prv (l:List EnG) (j:Nat):EnG:=if j=0 then EnG.zero else (l[j - 1]?).getD EnG.zero
def EnG.stp (y x:EnG):Bool:=x.fit&&decide (y.t≤x.t)&&decide (x.l=x.lnk y.l)
def okAt (l:List EnG) (j:Nat):Bool:=(prv l j).stp ((l[j]?).getD EnG.zero)
def lgB (l:List EnG):Bool:=(List.range l.length).all (okAt l)
def lgOK (l:List EnG):Bool:=decide (l.length≤60)&&lgB l
def lstEn (l:List EnG):EnG:=prv l l.length
theorem last130 (l:List EnG) (hn:l.length<1000000):Pure Tryz.prog 130 [lgs l] (· =(lstEn l).sv):=by
 refine pure_of_GC T_ok Tryz.func130 rfl (by kernel_rfl) (nb rfl) rfl rfl ?_
 unfold lstEn prv
 by_cases h:l.length=0
 ·have h':(l.length:Int)=0:=by omega
  simp[go_sem,h',h,EnG.zero]
 ·have h':¬(l.length:Int)=0:=by omega
  obtain⟨k,hk⟩:∃k,l.length=k+1:=⟨l.length - 1,by omega⟩
  have hr:=rowOf_get (f:=EnG.f) (l:=l) (i:=k) (by omega)
  have e:(l.length:Int) - 1=(k:Int):=by omega
  have e2:l[k]? =some l[k]:=List.getElem?_eq_getElem (by omega)
  rw[if_neg h,show l.length - 1=k from by omega,e2]
  have hl:¬l=[]:=λe=>by simp[e] at h
  simp[go_sem,h',e,hl,hr]
  omega
def lgE (l:List EnG):Int:=if lgOK l then 0 else 110
theorem lgB_pre {l:List EnG} {k:Nat} (h:∀j,j<k→okAt l j=true) (hk:k=l.length):lgB l=true:=by
 unfold lgB
 rw[List.all_eq_true]
 intro j hj
 exact h j (by have:=List.mem_range.1 hj;omega)
theorem lgB_no {l:List EnG} {k:Nat} (hk:k<l.length) (h:okAt l k=false):lgB l=false:=by
 unfold lgB
 rw[List.all_eq_false]
 exact⟨k,List.mem_range.2 hk,by simp[h]⟩
theorem okAt_get {l:List EnG} {k:Nat} (hk:k<l.length):okAt l k=(prv l k).stp l[k]:=by
 unfold okAt
 rw[List.getElem?_eq_getElem hk]
 rfl
theorem prv_succ {l:List EnG} {k:Nat} (hk:k<l.length):prv l (k+1)=l[k]:=by
 unfold prv
 rw[if_neg (by omega),Nat.add_sub_cancel,List.getElem?_eq_getElem hk]
 rfl
abbrev EnG.bx (x:EnG):Option Reg:=some (.box [.i x.t,.i x.k,.i x.p,.w x.d,.w x.a,.w x.s,.w x.l])
theorem check53 (l:List EnG) (hn:l.length<1000000):Pure Tryz.prog 53 [lgs l] (· =.i (lgE l)):=by
 refine pure_of_GC T_ok Tryz.func53 rfl (by kernel_rfl) (nb rfl) rfl rfl ?_
 by_cases h1:l.length≤60
 rotate_left
 ·have h1':(60:Int)<l.length:=by omega
  have e:lgE l=110:=by unfold lgE lgOK;rw[decide_eq_false h1];simp
  simp[go_sem,h1',e]
 have h1':¬(60:Int)<l.length:=by omega
 have eE:lgE l=if lgB l then 0 else 110:=by unfold lgE lgOK;rw[decide_eq_true h1,Bool.true_and]
 rw[eE]
 simp[go_sem,h1']
 refine GLoop_of T_ok (α:=Nat) (λk=>[(3,.ptr 0 0 7 0),(9,lgs l),(10,.i l.length),(11,.i k)]) (λk=>[(prv l k).bx]) 1 (λk=>k≤l.length∧∀j,j<k→okAt l j=true) (λk=>l.length - k) 0 (λ_=>rfl) (by simp) (by simp[go_sem]) (by simp[go_sem,prv,EnG.zero]) ?_
 rintro k J ⟨hk,hi⟩
 by_cases hlt:k<l.length
 rotate_left
 ·have:k=l.length:=by omega
  have hb:=lgB_pre hi this
  subst this
  simp[go_sem,hb]
 have hr:=rowOf_get (f:=EnG.f) hlt
 have hok:=okAt_get hlt
 have hps:=prv_succ hlt
 obtain⟨y,hy⟩:∃y,prv l k=y:=⟨_,rfl⟩
 obtain⟨x,hx⟩:∃x,l[k]=x:=⟨_,rfl⟩
 have hno:(prv l k).stp l[k]=false→lgB l=false:=λh=>lgB_no hlt (by rw[hok];exact h)
 rw[hy,hx] at hno hok
 rw[hx] at hr hps
 unfold EnG.stp at hno hok
 simp[go_sem,hlt,hr,hy]
 refine GDraw_all T_ok (by kernel_rfl) (by kernel_rfl) ?_
 simp[go_sem]
 refine⟨_,dcall_val (fits119 x) rfl rfl,?_⟩
 obtain⟨f,hf⟩:∃f,x.fit=f:=⟨_,rfl⟩
 rw[hf] at hno hok ⊢
 cases f
 ·have hb:=hno rfl
  simp[go_sem,hb]
 by_cases ht:x.t<y.t
 ·have hb:=hno (by rw[decide_eq_false (by omega)];rfl)
  simp[go_sem,ht,hb]
 simp[go_sem,ht]
 refine⟨_,dcall_val (linked120 y.l x) rfl rfl,?_⟩
 by_cases hl:x.l=x.lnk y.l
 ·simp[go_sem,← hl]
  refine⟨by omega,k+1,⟨by omega,λj hj=>?_⟩,by omega,by omega,by rw[hps],by rw[hps],by rw[hps],by rw[hps],by rw[hps],by rw[hps],by rw[hps]⟩
  by_cases hjk:j=k
  ·subst hjk
   rw[hok,decide_eq_true hl,decide_eq_true (by omega:y.t≤x.t)]
   rfl
  ·exact hi j (by omega)
 ·have hb:=hno (by rw[decide_eq_false hl];simp)
  simp[go_sem,hl,toNat_inj,hb]
end Go.Gx.Sr
namespace Go.Gx.Rg
open Go.RowKit Go.Proofs Go.Proofs.YtncccnmmjfapnaaGreat
def RG.great (g:RG):Bool:=decide (30<(g.nr:Int))||decide (50<(g.nc:Int))||decide (30<(g.nw:Int))||decide (50<(g.nm:Int))
theorem great16 (g:RG):Pure Tryz.prog 64 [g.sv] (· =.b g.great):=by
 refine pure_of_GC T_ok Tryz.func64 rfl (by kernel_rfl) (nb rfl) rfl rfl ?_
 simp[go_sem]
 repeat' split
 all_goals grind [RG.great]
section
variable {g:RG}
end
abbrev RG.box (g:RG):List (Option Reg):=[some (.box [RuleG.rs g.nr g.r,ConG.rs g.nc g.c,WarG.rs g.nw g.w,MarkG.rs g.nm g.m])]
end Go.Gx.Rg
namespace Go.Gx.Rg
open Go.RowKit Go.Proofs Go.Proofs.YtncccnmmjfapnaaGreat
theorem clone105 (n:Nat) (hn:n≤1000000) (get:Nat→Nat→RV):Own Tryz.prog 139 [] [.r (.rs 8 n get)] (.sl 0 8 0 n none) [.vec 55 8 n λi j=>.r (get i j)]:=by
 refine own_of_GC0 T_ok Tryz.func139 rfl (by kernel_rfl) (nb rfl) rfl rfl ?_
 simp[go_sem]
 refine⟨λh=>.inr (by subst h;simp),⟨by omega,by omega⟩,⟨[0],by simp,λN=>⟨?_,?_⟩⟩⟩
 ·simp[go_sem]
 ·simp[go_sem,joined]
  intros i j hi hj
  rw[if_pos (by omega)];rfl
theorem clone106 (n:Nat) (hn:n≤1000000) (get:Nat→Nat→RV):Own Tryz.prog 140 [] [.r (.rs 3 n get)] (.sl 0 3 0 n none) [.vec 59 3 n λi j=>.r (get i j)]:=by
 refine own_of_GC0 T_ok Tryz.func140 rfl (by kernel_rfl) (nb rfl) rfl rfl ?_
 simp[go_sem]
 refine⟨λh=>.inr (by subst h;simp),⟨by omega,by omega⟩,⟨[0],by simp,λN=>⟨?_,?_⟩⟩⟩
 ·simp[go_sem]
 ·simp[go_sem,joined]
  intros i j hi hj
  rw[if_pos (by omega)];rfl
theorem clone107 (n:Nat) (hn:n≤1000000) (get:Nat→Nat→RV):Own Tryz.prog 141 [] [.r (.rs 4 n get)] (.sl 0 4 0 n none) [.vec 57 4 n λi j=>.r (get i j)]:=by
 refine own_of_GC0 T_ok Tryz.func141 rfl (by kernel_rfl) (nb rfl) rfl rfl ?_
 simp[go_sem]
 refine⟨λh=>.inr (by subst h;simp),⟨by omega,by omega⟩,⟨[0],by simp,λN=>⟨?_,?_⟩⟩⟩
 ·simp[go_sem]
 ·simp[go_sem,joined]
  intros i j hi hj
  rw[if_pos (by omega)];rfl
theorem clone108 (n:Nat) (hn:n≤1000000) (get:Nat→Nat→RV):Own Tryz.prog 142 [] [.r (.rs 5 n get)] (.sl 0 5 0 n none) [.vec 61 5 n λi j=>.r (get i j)]:=by
 refine own_of_GC0 T_ok Tryz.func142 rfl (by kernel_rfl) (nb rfl) rfl rfl ?_
 simp[go_sem]
 refine⟨λh=>.inr (by subst h;simp),⟨by omega,by omega⟩,⟨[0],by simp,λN=>⟨?_,?_⟩⟩⟩
 ·simp[go_sem]
 ·simp[go_sem,joined]
  intros i j hi hj
  rw[if_pos (by omega)];rfl
theorem copied49 (g:RG) (hr:g.nr≤1000000) (hc:g.nc≤1000000) (hw:g.nw≤1000000) (hm:g.nm≤1000000):Own Tryz.prog 123 [] [g.sv] (.agg [.sl 0 8 0 g.nr none,.sl 1 3 0 g.nc none,.sl 2 4 0 g.nw none,.sl 3 5 0 g.nm none])
 [.vec 55 8 g.nr λi j=>.r ((g.r i).c j),.vec 59 3 g.nc λi j=>.r ((g.c i).c j),.vec 57 4 g.nw λi j=>.r ((g.w i).c j),.vec 61 5 g.nm λi j=>.r ((g.m i).c j)]:=by
 refine own_of_GC T_ok Tryz.func123 rfl (by kernel_rfl) (nb rfl) rfl rfl ?_
 simp[go_sem]
 refine GDraw_new (λf=>f==139||f==140||f==141||f==142) T_ok (by kernel_rfl) 12 (by kernel_rfl) rfl rfl ?_
 simp[go_sem]
 refine⟨_,_,dnew_own (clone105 _ hr _) rfl,_,_,dnew_own (clone106 _ hc _) rfl,_,_,dnew_own (clone107 _ hw _) rfl,_,_,dnew_own (clone108 _ hm _) rfl,?_⟩
 simp[go_sem]
 refine⟨[2,3,4,5],by decide,λN=>⟨?_,?_⟩⟩
 ·simp[go_sem]
 ·simp[go_sem]
end Go.Gx.Rg
namespace Go.Gx.Sr
open Go.RowKit Go.Proofs Go.Proofs.YtncccnmmjfapnaaGreat Go.Gx.Ix
def tipW (l:List EnG):W64:=if lgOK l then (lstEn l).l else 0#64
theorem tip57 (l:List EnG) (hn:l.length<1000000):Pure Tryz.prog 57 [lgs l] (· =.tup [.w (tipW l),.i (lgE l)]):=by
 refine pure_of_GC T_ok Tryz.func57 rfl (by kernel_rfl) (nb rfl) rfl rfl ?_
 simp[go_sem]
 refine call_val (check53 l hn) rfl rfl ?_
 unfold tipW lgE
 cases lgOK l
 ·simp[go_sem]
 simp[go_sem]
 refine call_val (last130 l hn) rfl rfl ?_
 simp[go_sem]
def knE (l:List EnG) (p:Int):Int:=if lgOK l then (if btw 0 63 p then 0 else 2) else 110
theorem known131 (l:List EnG) (hn:l.length<1000000) (p:Int):Pure Tryz.prog 131 [lgs l,.i p] (· =.i (knE l p)):=by
 refine pure_of_GC T_ok Tryz.func131 rfl (by kernel_rfl) (nb rfl) rfl rfl ?_
 simp[go_sem]
 refine call_val (check53 l hn) rfl rfl ?_
 unfold knE lgE
 cases lgOK l
 ·simp[go_sem]
 simp[go_sem]
 refine call_val (from157 0 63 p) rfl rfl ?_
 cases btw 0 63 p <;> simp[go_sem]
theorem clone146 (n:Nat) (hn:n≤1000000) (get:Nat→Nat→RV):Own Tryz.prog 146 [] [.r (.rs 7 n get)] (.sl 0 7 0 n none) [.vec 73 7 n λi j=>.r (get i j)]:=by
 refine own_of_GC0 T_ok Tryz.func146 rfl (by kernel_rfl) (nb rfl) rfl rfl ?_
 simp[go_sem]
 refine⟨λh=>.inr (by subst h;simp),⟨by omega,by omega⟩,⟨[0],by simp,λN=>⟨?_,?_⟩⟩⟩
 ·simp[go_sem]
 ·simp[go_sem,joined]
  intros i j hi hj
  rw[if_pos (by omega)];rfl
theorem snoc_rows {α:Type} {f:α→Nat→RV} {l:List α} {x:α} {k q d:Nat} {M:Mem} {new:Nat→Nat→SV} (h:∀j,j<k→new 0 j=.r (f x j)) :
 ∀i j,i<l.length+1→j<k→viewRV M d (SV.kill q (joined l.length 1 (λi j=>SV.r (rowOf f l i j)) new i j))=rowOf f (l++[x]) i j:=by
 intro i j hi hj
 unfold joined
 by_cases hiL:i<l.length
 ·rw[if_pos hiL]
  unfold rowOf
  rw[List.getElem?_append_left hiL]
  cases d <;> rfl
 ·obtain rfl:i=l.length:=by omega
  rw[if_neg hiL,if_pos (by omega),Nat.sub_self,h j hj]
  unfold rowOf
  rw[List.getElem?_concat_length]
  cases d <;> rfl
theorem lt7 {j:Nat} (h:j<7):j=0∨j=1∨j=2∨j=3∨j=4∨j=5∨j=6:=by omega
def wrE (l:List EnG) (t k p:Int):Int:=if lgOK l then (if btw (lstEn l).t maxT t&&btw 0 7 k&&btw 0 63 p then (if l.length=60 then 9 else 0) else 2) else 110
def wrX (l:List EnG) (t k p:Int) (d s:W64):EnG:=⟨t,k,p,d,s,xor64 d s,(EnG.mk t k p d s (xor64 d s) 0#64).lnk (lstEn l).l⟩
theorem write422 (l:List EnG) (hn:l.length<1000000) (t k p:Int) (d s:W64):Pure Tryz.prog 422 [lgs l,.i t,.i k,.i p,.w d,.w s] (· =.tup [lgs (if wrE l t k p=0 then l++[wrX l t k p d s] else []),.i (wrE l t k p)]):=by
 refine Pure.ofSub ?_
 refine pure_of_GC T_ok Tryz.func422 rfl (by kernel_rfl) (nb rfl) rfl rfl ?_
 simp[go_sem]
 refine call_val (check53 l hn) rfl rfl ?_
 simp[go_sem]
 refine call_val (last130 l hn) rfl rfl ?_
 unfold wrE lgE
 cases hk:lgOK l
 ·simp[go_sem]
 obtain⟨y,hy⟩:∃y,lstEn l=y:=⟨_,rfl⟩
 rw[hy]
 simp[go_sem]
 refine call_val (from157 y.t maxT t) rfl rfl ?_
 cases h1:btw y.t maxT t
 ·simp[go_sem]
 simp[go_sem]
 refine call_val (from157 0 7 k) rfl rfl ?_
 cases h2:btw 0 7 k
 ·simp[go_sem]
 simp[go_sem]
 refine call_val (from157 0 63 p) rfl rfl ?_
 cases h3:btw 0 63 p
 ·simp[go_sem]
 by_cases h4:l.length=60
 ·have h4':(l.length:Int)=60:=by omega
  simp[go_sem,h4,h4']
 have h4':¬(l.length:Int)=60:=by omega
 simp[go_sem,h4,h4']
 refine call_val (linked120 y.l (EnG.mk t k p d s (xor64 d s) 0#64)) rfl rfl ?_
 simp[go_sem]
 have hrow:∀j,j<7→[SV.i t,SV.i k,SV.i p,SV.w d,SV.w s,SV.w (xor64 d s),SV.w (EnG.lnk y.l {t:=t,k:=k,p:=p,d:=d,a:=s,s:=xor64 d s,l:=0#64})][0*7+j]?.getD (SV.r RV.any)=.r ((wrX l t k p d s).f j):=by
  intro j hj
  unfold wrX
  rw[hy]
  rcases lt7 hj with rfl | rfl | rfl | rfl | rfl | rfl | rfl <;> rfl
 refine GDraw_l (t:=(.take 0 (.take 2 (.alt 1 [2,0] (.alt 3 [2] (.alt 4 [] (.take 5 (.take 6 (.done [6,5]))) .nil) .nil) (.alt 3 [2,0] (.alt 1 [0] (.alt 4 [] (.take 5 (.take 6 (.done [6,5]))) .nil) .nil) .nil))))) T_ok (by kernel_rfl) (by kernel_rfl) (by kernel_rfl) (λ_ _ _ _ h=>h) ?_
 simp[go_sem]
 refine⟨?_,?_⟩
 ·refine callK_own [] (clone146 l.length (by omega) _) (by simp) rfl trivial ?_
  simp[go_sem]
  exact⟨⟨by omega,by omega⟩,snoc_rows λj hj=>hrow j hj⟩
 ·refine callK_own [] (clone146 l.length (by omega) _) (by simp) rfl trivial ?_
  simp[go_sem]
  exact⟨⟨by omega,by omega⟩,snoc_rows λj hj=>hrow j hj⟩
def EnG.er (x:EnG) (p:Int):EnG:=if x.p=p then {x with p:=-1,d:=0#64,a:=0#64} else x
def erL (l:List EnG) (p:Int):List EnG:=l.map λx=>x.er p
def erN (l:List EnG) (p:Int):Nat:=(l.filter λx=>decide (x.p=p)).length
def erR (get:Nat→Nat→RV) (row:Nat):Nat→Nat→RV:=λi j=>if i=row then (if j=2 then .i (-1) else if j=3 then .w 0#64 else if j=4 then .w 0#64 else get i j) else get i j
theorem er417 (n row:Nat) (hrow:row<n) (get:Nat→Nat→RV) (a m:Int) (h0:0≤m) (hm:m<1000000):OwnS Tryz.prog 2 417 [.vec 73 7 n λi j=>.r (get i j),.box [.i m]] [.i a,.ptr 0 row 7 0,.ptr 1 0 1 0] (.tup [])
 [.vec 73 7 n λi j=>.r (erR get row i j),.box [.i (m+1)]]:=by
 refine ownS_of_GC T_ok Tryz.func417 rfl (by kernel_rfl) (nb rfl) rfl rfl 2 (Nat.le_refl _) ?_
 simp[go_sem,hrow]
 refine⟨⟨by omega,by omega⟩,[0,1],⟨rfl,rfl,trivial⟩,by simp,λN=>⟨by simp[go_sem],?_⟩⟩
 simp[go_sem]
 intro i j hi hj
 unfold erR
 by_cases hr:i=row
 ·subst hr
  rcases lt7 hj with rfl | rfl | rfl | rfl | rfl | rfl | rfl <;> simp
 ·simp[hr]
def erK (l:List EnG) (p:Int) (k:Nat):Nat→Nat→RV:=λi j=>if i<k then rowOf EnG.f (erL l p) i j else rowOf EnG.f l i j
def erC (l:List EnG) (p:Int) (k:Nat):Nat:=erN (l.take k) p
theorem erC_le (l:List EnG) (p:Int) (k:Nat):erC l p k≤l.length:=by
 unfold erC erN
 exact Nat.le_trans (List.length_filter_le _ _) (by simp;omega)
theorem erC_succ {l:List EnG} {p:Int} {k:Nat} (hk:k<l.length):erC l p (k+1)=erC l p k+if l[k].p=p then 1 else 0:=by
 unfold erC erN
 rw[List.take_succ_eq_append_getElem hk,List.filter_append,List.length_append]
 by_cases h:l[k].p=p <;> simp[h]
theorem erL_get {l:List EnG} {p:Int} {k:Nat} (hk:k<l.length) (j:Nat):rowOf EnG.f (erL l p) k j=(l[k].er p).f j:=by
 have hk':k<(erL l p).length:=by simpa [erL] using hk
 rw[rowOf_get hk']
 simp[erL]
theorem erK_yes {l:List EnG} {p:Int} {k:Nat} (hk:k<l.length) (hp:l[k].p=p):erR (erK l p k) k=erK l p (k+1):=by
 funext i j
 unfold erR erK
 by_cases hi:i=k
 ·subst hi
  rw[if_pos rfl,if_neg (Nat.lt_irrefl i),if_pos (Nat.lt_succ_self i),erL_get hk,rowOf_get hk]
  unfold EnG.er
  rw[if_pos hp]
  rcases j with _ | _ | _ | _ | _ | _ | j <;> rfl
 ·rw[if_neg hi]
  by_cases h:i<k
  ·rw[if_pos h,if_pos (by omega)]
  ·rw[if_neg h,if_neg (by omega)]
theorem erK_no {l:List EnG} {p:Int} {k:Nat} (hk:k<l.length) (hp:¬l[k].p=p):erK l p k=erK l p (k+1):=by
 funext i j
 unfold erK
 by_cases hi:i=k
 ·subst hi
  rw[if_neg (Nat.lt_irrefl i),if_pos (Nat.lt_succ_self i),erL_get hk,rowOf_get hk]
  unfold EnG.er
  rw[if_neg hp]
 ·by_cases h:i<k
  ·rw[if_pos h,if_pos (by omega)]
  ·rw[if_neg h,if_neg (by omega)]
theorem each132e (l:List EnG) (hn:l.length<1000000) (p:Int):OwnS Tryz.prog 2 132 [.vec 73 7 l.length λi j=>.r (rowOf EnG.f l i j),.box [.i 0]] [.sl 0 7 0 l.length none,.i p,.fn (.func 417) [] [.ptr 1 0 1 0]] (.tup [])
 [.vec 73 7 l.length λi j=>.r (rowOf EnG.f (erL l p) i j),.box [.i (erN l p)]]:=by
 refine ownS_of_GC T_ok Tryz.func132 rfl (by kernel_rfl) (nb rfl) rfl rfl 2 (Nat.le_refl _) ?_
 simp[go_sem]
 refine GLoop_of T_ok (α:=Nat) (λk=>[(0,.sl 0 7 0 l.length none),(1,.i p),(2,.fn (.func 417) [] [.ptr 1 0 1 0]),(8,.i l.length),(9,.i k)]) (λk=>[some (.vec 73 7 l.length λi j=>.r (erK l p k i j)),some (.box [.i (erC l p k)])]) 2
  (λk=>k≤l.length) (λk=>l.length - k) 0 (λ_=>rfl) (by simp) (by simp[go_sem]) (by simp[go_sem,erK,erC,erN]) ?_
 intro k J hk
 by_cases hlt:k<l.length
 rotate_left
 ·have:k=l.length:=by omega
  subst this
  simp[go_sem]
  refine⟨[0,1],⟨rfl,rfl,trivial⟩,by simp,λN=>⟨by simp[go_sem],?_⟩⟩
  simp[go_sem,erC]
  intro i j hi hj
  unfold erK
  rw[if_pos hi]
 have hr:=rowOf_get (f:=EnG.f) hlt
 have hle:=erC_le l p k
 have hs:=erC_succ (p:=p) hlt
 have h2:erK l p k k 2=.i l[k].p:=by unfold erK;rw[if_neg (Nat.lt_irrefl k),hr];rfl
 by_cases hp:l[k].p=p
 ·rw[if_pos hp] at hs
  simp[go_sem,hlt,h2,hp]
  refine callK_ownS [0,1] (er417 l.length k hlt (erK l p k) k (erC l p k) (by omega) (by omega)) (Nat.le_refl _) (by simp) rfl ⟨rfl,rfl,trivial⟩ ?_
  simp[go_sem]
  exact⟨⟨by omega,by omega⟩,k+1,by omega,by omega,by omega,by rw[erK_yes hlt hp],by omega⟩
 ·rw[if_neg hp,Nat.add_zero] at hs
  simp[go_sem,hlt,h2,hp]
  exact⟨⟨by omega,by omega⟩,k+1,by omega,by omega,by omega,by rw[erK_no hlt hp],by omega⟩
theorem erase330 (l:List EnG) (hn:l.length<1000000) (p:Int):Pure Tryz.prog 330 [lgs l,.i p] (· =.tup [lgs (if knE l p=0 then erL l p else []),.i (if knE l p=0 then erN l p else 0),.i (knE l p)]):=by
 refine Pure.ofSub ?_
 refine pure_of_GC T_ok Tryz.func330 rfl (by kernel_rfl) (nb rfl) rfl rfl ?_
 simp[go_sem]
 refine call_val (known131 l hn p) rfl rfl ?_
 by_cases hk:knE l p=0
 rotate_left
 ·simp[go_sem,hk]
 simp[go_sem,hk]
 refine callK_own [] (clone146 l.length (by omega) _) (by simp) rfl trivial ?_
 simp[go_sem]
 refine callK_ownS [0,1] (each132e l hn p) (Nat.le_refl _) (by simp) rfl ⟨rfl,rfl,trivial⟩ ?_
 simp[go_sem]
 refine GDraw_all T_ok (by kernel_rfl) (by kernel_rfl) ?_
 simp[go_sem]
 simp[erL]
abbrev intF:Int→Nat→RV:=λa _=>.i a
abbrev ints (l:List Int):SV:=.r (.rs 1 l.length (rowOf intF l))
def isP (l:List EnG) (p:Int) (i:Nat):Bool:=match l[i]? with | some x=>decide (x.p=p) | none=>false
def abK (l:List EnG) (p:Int) (k:Nat):List Int:=((List.range k).filter (isP l p)).map λi:Nat=>(i:Int)
theorem abK_succ {l:List EnG} {p:Int} {k:Nat} (hk:k<l.length):abK l p (k+1)=abK l p k++if l[k].p=p then [(k:Int)] else []:=by
 have e:isP l p k=decide (l[k].p=p):=by unfold isP;rw[List.getElem?_eq_getElem hk]
 unfold abK
 rw[List.range_succ,List.filter_append,List.map_append]
 congr 1
 by_cases h:l[k].p=p <;> simp[e,h]
theorem abK_le (l:List EnG) (p:Int) (k:Nat):(abK l p k).length≤k:=by
 unfold abK
 rw[List.length_map]
 exact Nat.le_trans (List.length_filter_le _ _) (by simp)
theorem about59 (l:List EnG) (hn:l.length<1000000) (p:Int):Pure Tryz.prog 59 [lgs l,.i p] (· =.tup [ints (if knE l p=0 then abK l p l.length else []),.i (knE l p)]):=by
 refine Pure.ofSub ?_
 refine pure_of_GC T_ok Tryz.func59 rfl (by kernel_rfl) (nb rfl) rfl rfl ?_
 simp[go_sem]
 refine call_val (known131 l hn p) rfl rfl ?_
 by_cases hk:knE l p=0
 rotate_left
 ·simp[go_sem,hk]
 simp[go_sem,hk]
 refine callK_in T_ok Tryz.func132 rfl (by kernel_rfl) (nb rfl) rfl rfl 1 (Nat.zero_le _) (Nat.le_refl _) ?_
 simp[go_sem]
 refine GLoop_pre (GSt.adoptBox 0 0 3 1 (λ_ _=>.r .any) (l:=[.r (.v (.slice none 0 0))]) (by simp[go_sem]) rfl (by simp)) ?_
 refine GLoop_p T_ok (α:=Nat) (λk=>[(0,lgs l),(1,.i p),(2,.fn (.func 133) [] [.ptr 0 0 1 0]),(8,.i l.length),(9,.i k)])
  (λk M nx=>k≤l.length∧2≤nx∧M 0=some (.box [.sl 1 1 0 (abK l p k).length none])∧∃G,M 1=some (.vec 3 1 (abK l p k).length G)∧∀i,i<(abK l p k).length→G i 0=.r (rowOf intF (abK l p k) i 0)) (λk=>l.length - k) 0 ?_ (by simp[go_sem]) ?_
 ·simp[go_sem,abK]
 rintro k J M nx _ ⟨hk1,hnx,h0,G,h1,hG⟩
 by_cases hlt:k<l.length
 rotate_left
 ·have:k=l.length:=by omega
  subst this
  simp[go_sem,h0,h1]
  intro i hi
  rw[hG i hi]
  rfl
 have hr:=rowOf_get (f:=EnG.f) hlt
 have hs:=abK_succ (p:=p) hlt
 have hle:=abK_le l p k
 by_cases hp:l[k].p=p
 ·rw[if_pos hp] at hs
  simp[go_sem,hlt,hr,hp]
  refine callK_in T_ok Tryz.func133 rfl (by kernel_rfl) (nb rfl) rfl rfl 1 (Nat.le_refl _) (by omega) ?_
  have e1:¬1=nx:=by omega
  have e2:¬0=nx:=by omega
  have e3:¬nx=1:=by omega
  have e4:¬nx=0:=by omega
  simp[go_sem,h0,h1,e1,e2,e3,e4]
  refine⟨⟨by omega,by omega⟩,⟨by omega,by omega⟩,k+1,by omega,by omega,by omega,by omega,by rw[hs];simp,_,⟨by rw[hs];simp,rfl⟩,λi hi=>?_⟩
  rw[hs] at hi ⊢
  simp only [List.length_append,List.length_singleton] at hi
  unfold joined
  by_cases hiL:i<(abK l p k).length
  ·rw[if_pos hiL,hG i hiL]
   unfold rowOf
   rw[List.getElem?_append_left hiL]
   rfl
  ·obtain rfl:i=(abK l p k).length:=by omega
   rw[if_neg hiL,if_pos (by omega),Nat.sub_self]
   unfold rowOf
   rw[List.getElem?_concat_length]
   rfl
 ·rw[if_neg hp,List.append_nil] at hs
  simp[go_sem,hlt,hr,hp]
  exact⟨⟨by omega,by omega⟩,k+1,by omega,by omega,by omega,hnx,by rw[hs];exact h0,G,by rw[hs];exact h1,by rw[hs];exact hG⟩
end Go.Gx.Sr
namespace Go.Gx.Ix
open Go.RowKit
def GBd (nw:FuncId→Bool) (P:Program) (T:Tab) (N:Cfg) (op:BinOp) (t:TypeId) (x y:SV) (d:Option Tmp) (all:Array Oper) (rest fin:List Oper) (k:List It) (Q:GQ) (E:Env) (M:Mem) (nx:Nat):Prop:=
 GDS nw P T N (gbinop T op t x y) d all rest fin k Q E M nx
section
variable {nw:FuncId→Bool} {P:Program} {T:Tab} {N:Cfg} {t:TypeId} {d:Option Tmp} {all:Array Oper} {rest fin:List Oper} {k:List It} {Q:GQ} {E:Env} {M:Mem} {nx:Nat}
@[go_sem high]theorem GPh_binOpW (ty:TypeId) (pos:String) (af:Array Edge) (op:BinOp) (x y:Operand) (t2:TypeId) :
   GPh nw P T N all (⟨d,.binOp op t x y t2,ty,pos,af,none⟩::rest) fin k Q E M nx=(dOK N.n d∧underL nx ((Op.binOp op t x y t2).operands.toList.map (ev E))∧GBd nw P T N op t (ev E x) (ev E y) d all rest fin k Q E M nx):=(rfl)
@[go_sem low]theorem GBd_def (op:BinOp) (x y:SV):GBd nw P T N op t x y d all rest fin k Q E M nx=GDS nw P T N (gbinop T op t x y) d all rest fin k Q E M nx:=(rfl)
theorem GBd_of {op:BinOp} {x y s:SV} {ob:Prop} (h:gbin op x y=.pure ob s):GBd nw P T N op t x y d all rest fin k Q E M nx=(ob∧GPh nw P T N all rest fin k Q (envPut E d s) M nx):=by
 unfold GBd gbinop;rw[h];rfl
@[go_sem]theorem GBd_and64 (a b:Int):GBd nw P T N .and t (.r (.v (.int .u64 a))) (.r (.v (.int .u64 b))) d all rest fin k Q E M nx=GPh nw P T N all rest fin k Q (envPut E d (.w (and64 (BitVec.ofInt 64 a) (BitVec.ofInt 64 b)))) M nx:=by rw[GBd_of (gand_u64 a b)];simp
@[go_sem]theorem GBd_or64 (a b:Int):GBd nw P T N .or t (.r (.v (.int .u64 a))) (.r (.v (.int .u64 b))) d all rest fin k Q E M nx=GPh nw P T N all rest fin k Q (envPut E d (.w (or64 (BitVec.ofInt 64 a) (BitVec.ofInt 64 b)))) M nx:=by rw[GBd_of (gor_u64 a b)];simp
@[go_sem]theorem GBd_andNot64 (a b:Int):GBd nw P T N .andNot t (.r (.v (.int .u64 a))) (.r (.v (.int .u64 b))) d all rest fin k Q E M nx=GPh nw P T N all rest fin k Q (envPut E d (.w (andn64 (BitVec.ofInt 64 a) (BitVec.ofInt 64 b)))) M nx:=by rw[GBd_of (gandNot_u64 a b)];simp
@[go_sem]theorem GBd_shl64 (x:BitVec 64) (kk:IntKind) (b:Int):GBd nw P T N .shl t (.r (.v (.int .u64 x.toNat))) (.r (.v (.int kk b))) d all rest fin k Q E M nx=(0≤b∧GPh nw P T N all rest fin k Q (envPut E d (.w (shl64 x b.toNat))) M nx):=GBd_of (gshl_u64 x kk b)
@[go_sem]theorem GBd_shl1 (kk:IntKind) (b:Int):GBd nw P T N .shl t (.r (.v (.int .u64 1))) (.r (.v (.int kk b))) d all rest fin k Q E M nx=(0≤b∧GPh nw P T N all rest fin k Q (envPut E d (.w (shl64 1#64 b.toNat))) M nx):=GBd_shl64 1#64 kk b
@[go_sem]theorem GBd_shr64 (x:BitVec 64) (kk:IntKind) (b:Int):GBd nw P T N .shr t (.r (.v (.int .u64 x.toNat))) (.r (.v (.int kk b))) d all rest fin k Q E M nx=(0≤b∧GPh nw P T N all rest fin k Q (envPut E d (.w (shr64 x b.toNat))) M nx):=GBd_of (gshr_u64 x kk b)
end
end Go.Gx.Ix
