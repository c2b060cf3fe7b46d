/-
 Texts of the walk, merged: Il Im In Io Ju Yc Va Ra Rb Rc Vb Vc Vd Ve Vf Rd Ru Vg Vh Vw.
-/
import Derived.Test.YtncccnmmjfapnaaGreatZaj
import Derived.Test.YtncccnmmjfapnaaGreatRows
import Derived.Test.YtncccnmmjfapnaaGreatZai
import Derived.Test.YtncccnmmjfapnaaGreatZag
import Derived.Test.YtncccnmmjfapnaaGreatZae
import Derived.Test.YtncccnmmjfapnaaGreatZah
set_option linter.unusedVariables false
set_option linter.unusedSimpArgs false
set_option maxRecDepth 100000
set_option maxHeartbeats 4000000
namespace Go.Gx.Ix
open Go.RowKit Go.Proofs Go.Proofs.YtncccnmmjfapnaaGreat
def RLe (x y:RV):Prop:=∀(Z:Nat->Prop) (w:World) (v:Value),x.rel Z w v->y.rel Z w v
theorem aAw {x y:RV} (h:RLe x y):(SV.r x).le (.r y):=λZ w v hv=>h Z w v hv
theorem le_agg {l l':List SV} (h:leL l l'):(SV.agg l).le (.agg l'):=λZ w y hy=>by
 obtain⟨vs,e,h1,h2⟩:=hy;exact⟨vs,e,h1,tI _ _ _ h h2⟩
theorem aQa {l l':List SV} (h:leL l l'):(SV.tup l).le (.tup l'):=λZ w y hy=>by
 obtain⟨vs,e,h2⟩:=hy;exact⟨vs,e,tI _ _ _ h h2⟩
theorem aMx {P:Program} {f:FuncId} {args:List SV} {v:SV} (h:Pure P f args λs=>s.le v):Pure P f args (· =v):=by
 intro Z w vs hz ha;obtain⟨h1,h2⟩:=h Z w vs hz ha;refine⟨h1,h2.mono λe w' h=>?_⟩;obtain⟨y,s,a,b,c,d⟩:=h;exact⟨y,v,a,rfl,b _ _ _ c,d⟩
theorem aL7 {P:Program} {f:FuncId} {args:List SV} {u v:SV} (h:Pure P f args (· =u)) (hl:u.le v):Pure P f args (· =v):=aMx (h.mono λs e=>e▸hl)
theorem lE (k:Nat) (get:Nat->Nat->RV):RLe (.v (.slice none 0 0)) (.rs k 0 get):=by
 intro Z w y hy;have hy:y=.slice none 0 0:=hy;subst hy;exact⟨none,0,rfl,Nat.le_refl _,λh=>absurd h (Nat.lt_irrefl 0)⟩
def aGr (ms:List MbG):Bool:=(List.range ms.length).any λi=>decide (1<=i)&&decide (ms[i]!.id=ms[i - 1]!.id)
def fB (l:List MbG):Int:=if 256<l.length then 4 else if l.any (λa=>!okN a.id) then 2 else if l.any (λa=>!a.x.ok) then 30 else if aGr (cB l) then 41 else 0
def IxG.zero:IxG:=⟨[],λ_=>[]⟩
def tO (l:List MbG):IxG:=if fB l=0 then lI l else IxG.zero
abbrev bEb:SV:=.agg [aM,aM,aM,aM,aM,aM,aM,aM,aM]
theorem aPc:bEb.le IxG.zero.sv:=le_agg ⟨aAw (lE 3 _),aAw (lE 3 _),aAw (lE 3 _),aAw (lE 3 _),aAw (lE 3 _),aAw (lE 3 _),aAw (lE 3 _),aAw (lE 3 _),aAw (lE 3 _),trivial⟩
theorem aSn (l:List MbG) (hn:l.length<=1000):Pure Tryz.prog 50 [xA l] (· =.tup [if fB l=0 then (lI l).sv else bEb,.i (fB l)]):=by
 obtain⟨e,he⟩:∃e,fB l=e:=⟨_,rfl⟩;rw[he];refine π Tryz.func50 ?_;simp[go_sem];by_cases h1:256<l.length
 ·have h1':(256:Int)<l.length:=ω;have e4:e=4:=by rw[<- he,fB,if_pos h1]
  subst e4;simp[go_sem,h1,h1']
 have h1':¬(256:Int)<l.length:=ω;simp[go_sem,h1,h1'];refine aA (aAi l ω 107 (λa=>!okN a.id) aV5) rfl rfl ?_
 cases h2:l.any λa=>!okN a.id
 rotate_left
 ·have e4:e=2:=by rw[<- he,fB,if_neg h1,if_pos h2]
  subst e4;simp[go_sem]
 simp[go_sem];refine aA (aAi l ω 109 (λa=>!a.x.ok) aWk) rfl rfl ?_
 cases h3:l.any λa=>!a.x.ok
 rotate_left
 ·have e4:e=30:=by rw[<- he,fB,if_neg h1,if_neg (by rw[h2];simp),if_pos h3]
  subst e4;simp[go_sem]
 simp[go_sem];refine aA (bGb l hn) rfl rfl ?_;have hl:=(dB l).2.1;obtain⟨x,hx⟩:∃x,lI l=x:=⟨_,rfl⟩;have hms:x.ms=cB l:=by rw[<- hx];rfl
 have he2:e=if aGr x.ms then 41 else 0:=by rw[<- he,fB,if_neg h1,if_neg (by rw[h2];simp),if_neg (by rw[h3];simp),hms]
 rw[hx];rw[<- hms] at hl;simp[go_sem,IxG.sv];refine aH aD (α:=Nat) (λk=>[(2,.ptr 0 0 9 0),(3,.i 0),(4,.ptr 1 0 9 0),(5,.i ((k:Int)+1))])
  (λk=>[some (.box [aM,aM,aM,aM,aM,aM,aM,aM,aM]),some (.box [xA x.ms,cN (x.ch 0),cN (x.ch 1),cN (x.ch 2),cN (x.ch 3),cN (x.ch 4),cN (x.ch 5),cN (x.ch 6),cN (x.ch 7)])]) 2
  (λk=>k<=x.ms.length/\∀j,j<k->∀(h1:j+1<x.ms.length),¬x.ms[j+1].id=x.ms[j].id) (λk=>x.ms.length - k) 0 (λ_=>rfl) τ ζ ζ ?_
 intro k J hk;by_cases hlt:k+1<x.ms.length
 ·have hlt':(k:Int)+1<x.ms.length:=ω;have r0:=mrow hlt 0;have q0:=mrow (ω:k<x.ms.length) 0;simp[go_sem,hlt,hlt'];refine aE aD κ κ ?_;simp[go_sem,hlt,hlt',r0,q0];refine⟨ω,ω,ω,?_⟩;by_cases heq:x.ms[k+1].id=x.ms[k].id
  ·rw[if_pos heq];have e4:e=41:=by
    rw[he2,if_pos];refine List.any_eq_true.2 ⟨k+1,List.mem_range.2 hlt,?_⟩;rw[getElem!_pos x.ms (k+1) hlt,getElem!_pos x.ms (k+1 - 1) ω];simpa using heq
   rw[e4];simp
  ·rw[if_neg heq];refine⟨ω,k+1,⟨ω,λj hj h1=>?_⟩,ω,ω⟩;by_cases e:j=k
   ·subst e;exact heq
   ·exact hk.2 j ω h1
 ·have hlt':¬(k:Int)+1<x.ms.length:=ω;have e0:e=0:=by
   rw[he2,if_neg];intro hd;obtain⟨i,hi,hq⟩:=List.any_eq_true.1 hd;have hi:=List.mem_range.1 hi;simp only [Bool.and_eq_true,decide_eq_true_eq] at hq;obtain⟨h1,h2⟩:=hq;obtain⟨i,rfl⟩:∃i',i=i'+1:=⟨i - 1,ω⟩;rw[getElem!_pos x.ms (i+1) hi,getElem!_pos x.ms (i+1 - 1) ω] at h2;exact hk.2 i ω hi (by simpa using h2)
  subst e0;simp[go_sem,hlt,hlt']
theorem aLj (l:List MbG) (hn:l.length<=1000):Pure Tryz.prog 50 [xA l] (· =.tup [(tO l).sv,.i (fB l)]):=by
 refine aL7 (aSn l hn) (aQa ⟨?_,SV.le.rfl,trivial⟩);unfold tO;split
 ·exact SV.le.rfl
 ·exact aPc
structure IxG.Sm (x:IxG):Prop where
 ms:x.ms.length<=1000
 ch:∀j,j<8->(x.ch j).length<=1000000/\∀p∈x.ch j,p.ids.length<=1000000
def eH (x:IxG):Bool:=decide (fB x.ms=0)&&decide (x.ms=(lI x.ms).ms)&&(List.range 8).all λj=>decide (x.ch j=(lI x.ms).ch j)
def oQ (x:IxG):Int:=if eH x then 0 else 40
theorem aLf (x:IxG) (h:x.Sm):Pure Tryz.prog 111 [x.sv] (· =.i (oQ x)):=by
 refine π Tryz.func111 ?_;obtain⟨e,he⟩:∃e,oQ x=e:=⟨_,rfl⟩;rw[he];simp[go_sem,IxG.sv];refine aA (aLj x.ms h.ms) rfl rfl ?_;obtain⟨y,hy⟩:∃y,tO x.ms=y:=⟨_,rfl⟩;obtain⟨f,hf⟩:∃f,fB x.ms=f:=⟨_,rfl⟩;rw[hy,hf];simp[go_sem,IxG.sv];by_cases h0:f=0;rotate_left
 ·have e4:e=40:=by rw[<- he,oQ,eH,hf];simp[h0]
  subst e4;simp[go_sem,h0]
 subst h0;have hyo:y=lI x.ms:=by rw[<- hy,tO,if_pos hf]
 simp[go_sem];refine aA (aVb x.ms y.ms (by have:=h.ms;omega)) rfl rfl ?_;by_cases h1:x.ms=y.ms;rotate_left
 ·have e4:e=40:=by rw[<- he,oQ,eH,<- hyo];simp[h1]
  subst e4;simp[go_sem,h1]
 have he2:e=if (List.range 8).all λj=>decide (x.ch j=y.ch j) then 0 else 40:=by rw[<- he,oQ,eH,hf,<- hyo];simp[h1]
 simp[go_sem,h1];have hbad:∀j,j<8->¬x.ch j=y.ch j->e=40:=λj hj hne=>by
  rw[he2,if_neg];intro h;exact hne (by simpa using List.all_eq_true.1 h j (List.mem_range.2 hj))
 refine aH aD (α:=Nat) (λk=>[(1,.ptr 0 0 9 0),(2,.i 0),(3,.ptr 1 0 9 0),(22,.i k)])
  (λk=>[some (.box [xA y.ms,cN (x.ch 0),cN (x.ch 1),cN (x.ch 2),cN (x.ch 3),cN (x.ch 4),cN (x.ch 5),cN (x.ch 6),cN (x.ch 7)]),some (.box [xA y.ms,cN (y.ch 0),cN (y.ch 1),cN (y.ch 2),cN (y.ch 3),cN (y.ch 4),cN (y.ch 5),cN (y.ch 6),cN (y.ch 7)])]) 2
  (λk=>k<=8/\∀j,j<k->x.ch j=y.ch j) (λk=>8 - k) 0 (λ_=>rfl) τ ζ (by simp[go_sem,h1]) ?_
 intro k J hk;rcases(show k=0\/k=1\/k=2\/k=3\/k=4\/k=5\/k=6\/k=7\/k=8 by omega) with rfl | rfl | rfl | rfl | rfl | rfl | rfl | rfl | rfl
 ·simp[go_sem];refine aP (t:=(.take 0 (.take 1 (.take 2 (.take 3 (.take 4 (.take 5 (.take 6 (.take 7 (.alt 8 [7,6,5,4,3,2,1,0] (.take 9 (.done [9,6,5,4,2,1,0])) .nil)))))))))) aD κ κ κ (λ_ _ _ _ h=>h) ?_;simp[go_sem];refine aA (lD (x.ch 0) (y.ch 0) (by have:=(h.ch 0 ω).1;omega) λp hp=>by have:=(h.ch 0 ω).2 p hp;omega) rfl rfl ?_;by_cases hc:x.ch 0=y.ch 0
  ·simp[go_sem,hc];refine⟨1,⟨ω,λj hj=>?_⟩,ω,ω⟩;by_cases e:j=0
   ·subst e;exact hc
   ·exact hk.2 j ω
  ·have e4:=hbad 0 ω hc;subst e4;simp[go_sem,hc]
 ·simp[go_sem];refine aP (t:=(.take 0 (.take 1 (.take 2 (.take 3 (.take 4 (.take 5 (.take 6 (.take 7 (.alt 8 [7,6,5,4,3,2,1,0] (.take 9 (.done [9,6,5,4,2,1,0])) .nil)))))))))) aD κ κ κ (λ_ _ _ _ h=>h) ?_;simp[go_sem];refine aA (lD (x.ch 1) (y.ch 1) (by have:=(h.ch 1 ω).1;omega) λp hp=>by have:=(h.ch 1 ω).2 p hp;omega) rfl rfl ?_;by_cases hc:x.ch 1=y.ch 1
  ·simp[go_sem,hc];refine⟨2,⟨ω,λj hj=>?_⟩,ω,ω⟩;by_cases e:j=1
   ·subst e;exact hc
   ·exact hk.2 j ω
  ·have e4:=hbad 1 ω hc;subst e4;simp[go_sem,hc]
 ·simp[go_sem];refine aP (t:=(.take 0 (.take 1 (.take 2 (.take 3 (.take 4 (.take 5 (.take 6 (.take 7 (.alt 8 [7,6,5,4,3,2,1,0] (.take 9 (.done [9,6,5,4,2,1,0])) .nil)))))))))) aD κ κ κ (λ_ _ _ _ h=>h) ?_;simp[go_sem];refine aA (lD (x.ch 2) (y.ch 2) (by have:=(h.ch 2 ω).1;omega) λp hp=>by have:=(h.ch 2 ω).2 p hp;omega) rfl rfl ?_;by_cases hc:x.ch 2=y.ch 2
  ·simp[go_sem,hc];refine⟨3,⟨ω,λj hj=>?_⟩,ω,ω⟩;by_cases e:j=2
   ·subst e;exact hc
   ·exact hk.2 j ω
  ·have e4:=hbad 2 ω hc;subst e4;simp[go_sem,hc]
 ·simp[go_sem];refine aP (t:=(.take 0 (.take 1 (.take 2 (.take 3 (.take 4 (.take 5 (.take 6 (.take 7 (.alt 8 [7,6,5,4,3,2,1,0] (.take 9 (.done [9,6,5,4,2,1,0])) .nil)))))))))) aD κ κ κ (λ_ _ _ _ h=>h) ?_;simp[go_sem];refine aA (lD (x.ch 3) (y.ch 3) (by have:=(h.ch 3 ω).1;omega) λp hp=>by have:=(h.ch 3 ω).2 p hp;omega) rfl rfl ?_;by_cases hc:x.ch 3=y.ch 3
  ·simp[go_sem,hc];refine⟨4,⟨ω,λj hj=>?_⟩,ω,ω⟩;by_cases e:j=3
   ·subst e;exact hc
   ·exact hk.2 j ω
  ·have e4:=hbad 3 ω hc;subst e4;simp[go_sem,hc]
 ·simp[go_sem];refine aP (t:=(.take 0 (.take 1 (.take 2 (.take 3 (.take 4 (.take 5 (.take 6 (.take 7 (.alt 8 [7,6,5,4,3,2,1,0] (.take 9 (.done [9,6,5,4,2,1,0])) .nil)))))))))) aD κ κ κ (λ_ _ _ _ h=>h) ?_;simp[go_sem];refine aA (lD (x.ch 4) (y.ch 4) (by have:=(h.ch 4 ω).1;omega) λp hp=>by have:=(h.ch 4 ω).2 p hp;omega) rfl rfl ?_;by_cases hc:x.ch 4=y.ch 4
  ·simp[go_sem,hc];refine⟨5,⟨ω,λj hj=>?_⟩,ω,ω⟩;by_cases e:j=4
   ·subst e;exact hc
   ·exact hk.2 j ω
  ·have e4:=hbad 4 ω hc;subst e4;simp[go_sem,hc]
 ·simp[go_sem];refine aP (t:=(.take 0 (.take 1 (.take 2 (.take 3 (.take 4 (.take 5 (.take 6 (.take 7 (.alt 8 [7,6,5,4,3,2,1,0] (.take 9 (.done [9,6,5,4,2,1,0])) .nil)))))))))) aD κ κ κ (λ_ _ _ _ h=>h) ?_;simp[go_sem];refine aA (lD (x.ch 5) (y.ch 5) (by have:=(h.ch 5 ω).1;omega) λp hp=>by have:=(h.ch 5 ω).2 p hp;omega) rfl rfl ?_;by_cases hc:x.ch 5=y.ch 5
  ·simp[go_sem,hc];refine⟨6,⟨ω,λj hj=>?_⟩,ω,ω⟩;by_cases e:j=5
   ·subst e;exact hc
   ·exact hk.2 j ω
  ·have e4:=hbad 5 ω hc;subst e4;simp[go_sem,hc]
 ·simp[go_sem];refine aP (t:=(.take 0 (.take 1 (.take 2 (.take 3 (.take 4 (.take 5 (.take 6 (.take 7 (.alt 8 [7,6,5,4,3,2,1,0] (.take 9 (.done [9,6,5,4,2,1,0])) .nil)))))))))) aD κ κ κ (λ_ _ _ _ h=>h) ?_;simp[go_sem];refine aA (lD (x.ch 6) (y.ch 6) (by have:=(h.ch 6 ω).1;omega) λp hp=>by have:=(h.ch 6 ω).2 p hp;omega) rfl rfl ?_;by_cases hc:x.ch 6=y.ch 6
  ·simp[go_sem,hc];refine⟨7,⟨ω,λj hj=>?_⟩,ω,ω⟩;by_cases e:j=6
   ·subst e;exact hc
   ·exact hk.2 j ω
  ·have e4:=hbad 6 ω hc;subst e4;simp[go_sem,hc]
 ·simp[go_sem];refine aP (t:=(.take 0 (.take 1 (.take 2 (.take 3 (.take 4 (.take 5 (.take 6 (.take 7 (.alt 8 [7,6,5,4,3,2,1,0] (.take 9 (.done [9,6,5,4,2,1,0])) .nil)))))))))) aD κ κ κ (λ_ _ _ _ h=>h) ?_;simp[go_sem];refine aA (lD (x.ch 7) (y.ch 7) (by have:=(h.ch 7 ω).1;omega) λp hp=>by have:=(h.ch 7 ω).2 p hp;omega) rfl rfl ?_;by_cases hc:x.ch 7=y.ch 7
  ·simp[go_sem,hc];refine⟨8,⟨ω,λj hj=>?_⟩,ω,ω⟩;by_cases e:j=7
   ·subst e;exact hc
   ·exact hk.2 j ω
  ·have e4:=hbad 7 ω hc;subst e4;simp[go_sem,hc]
 ·have e0:e=0:=by
   rw[he2,if_pos];exact List.all_eq_true.2 λj hj=>by simpa using hk.2 j (List.mem_range.1 hj)
  subst e0;simp[go_sem]
def plc (l:List MbG) (t:Int):Nat:=cA (λi=>bT (l[i]!).id t) l.length
def isM (l:List MbG) (t:Int):Bool:=cM (λi=>bT (l[i]!).id t) l.length
theorem aWn (l:List MbG) (hn:l.length<=1000000) (hs:l.Pairwise λa b=>a.id<=b.id) (t:Int):Pure Tryz.prog 117 [xA l,.i t] (· =.tup [.i (plc l t:Nat),.b (isM l t)]):=by
 refine π Tryz.func117 ?_;simp[go_sem];refine aA (aRn l ω t (λa b hab hb h ha=>?_) (λi=>bT (l[i]!).id t) λi hi=>by rw[getElem!_pos l i hi]) rfl rfl ?_
 ·have:=List.pairwise_iff_getElem.1 hs a b ha hb hab;omega
 simp[go_sem,plc,isM]
theorem aBd {x:IxG} (h:eH x=true):x.ms.Pairwise λa b=>a.id<=b.id:=by
 simp only [eH,Bool.and_eq_true,decide_eq_true_eq] at h;rw[h.1.2];rw[List.pairwise_iff_getElem];intro i j hi hj hij;exact(dB x.ms).2.2 i j hij hj hi
theorem aJi {l:List MbG} (h:fB l=0):l.length<=256:=by
 unfold fB at h;by_cases h1:256<l.length
 ·rw[if_pos h1] at h;cases h
 ·omega
theorem aIj {x:IxG} (h:eH x=true):x.ms.length<=256:=by
 simp only [eH,Bool.and_eq_true,decide_eq_true_eq] at h;exact aJi h.1.1
end Go.Gx.Ix
namespace Go.Gx.Ix
open Go.RowKit Go.WideShapes Go.ChangeShapes Go.Proofs Go.Proofs.YtncccnmmjfapnaaGreat
abbrev csW:CS:=.sc (.int .u64)
section
variable {W:World}
def v64 (v:Value):BitVec 64:=BitVec.ofInt 64 (vi v)
theorem rel_v64 {Z:Nat->Prop} {v:Value} (h:jG W csW v):(RV.w (v64 v)).rel Z W v:=by
 obtain⟨n,rfl,hw⟩:=h;show Value.int .u64 n=.int .u64 _;simp[Lit.wf,IntKind.min,IntKind.max,IntKind.bits,IntKind.signed] at hw;have:((v64 (.int .u64 n)).toNat:Int)=n:=by
  have h2:n % 18446744073709551616=n:=ω;unfold v64 vi;rw[BitVec.toNat_ofInt];show((n % 18446744073709551616).toNat:Int)=n;rw[h2];omega
 rw[this]
end
theorem own_:ownKnob Tryz.prog.godebug=none:=κ
theorem laidOut_:laidOutB Tryz.prog=true:=κ
end Go.Gx.Ix
namespace Go.Proofs.YtncccnmmjfapnaaGreat
open Go.ChangeShapes Go.WideShapes Go.ChangeAt Go.RowKit Go.Gx Go.Gx.Ix
theorem Shared.laid:laidOutB Tryz.pinned.checked.prog=true:=Ix.laidOut_
theorem Shared.mrow:mapsRowed Tryz.pinned.checked.prog=true:=κ
theorem Shared.stops:(Tryz.pinned.checked.prog.stops==[])=true:=κ
theorem Shared.knobs:(Tryz.pinned.checked.prog.stopKnobs==[])=true:=κ
theorem Shared.heard:Tryz.pinned.checked.prog.stopsHeard=true:=κ
theorem Shared.may:Tryz.pinned.checked.prog.mayEnter=true:=κ
theorem Shared.plain:Tryz.pinned.checked.prog.plainKeys=Rows.serviceKeepsRow.plainKeys:=κ
theorem Shared.lift:Tryz.pinned.checked.prog.liftsFinal=Rows.serviceKeepsRow.lifted:=κ
theorem Shared.make:Tryz.pinned.checked.prog.make=some Rows.serviceKeepsRow.make:=κ
end Go.Proofs.YtncccnmmjfapnaaGreat
namespace Go.Gx.Ix
open Go.RowKit
def nY (x y:BitVec 64):BitVec 64:=BitVec.ofInt 64 (x.toInt*y.toInt)
theorem aSu (x y:BitVec 64):nY x y=x*y:=by rw[nY,BitVec.ofInt_mul,BitVec.ofInt_toInt,BitVec.ofInt_toInt]
@[go_sem high]theorem aLe (z:BitVec 64):BitVec.ofInt 64 (z.toNat:Int)=z:=τ
theorem aQz (a b:Int):nU .mul (.r (.v (.int .u64 a))) (.r (.v (.int .u64 b)))=.pure True (.w (nY (BitVec.ofInt 64 a) (BitVec.ofInt 64 b))):=by
 show GR.pure _ (.r (.v (.int .u64 (if IntKind.u64=IntKind.u64 then IntKind.u64.wrap (a*b) else a*b))))=_;rw[if_pos rfl];have e:IntKind.u64.wrap (a*b)=((nY (BitVec.ofInt 64 a) (BitVec.ofInt 64 b)).toNat:Int):=by
  have h:nY (BitVec.ofInt 64 a) (BitVec.ofInt 64 b)=BitVec.ofInt 64 (a*b):=by rw[aSu,BitVec.ofInt_mul]
  rw[h,BitVec.toNat_ofInt];simp only [IntKind.wrap,IntKind.bits,IntKind.signed];simp;omega
 rw[e];simp
section
variable {P:Program} {T:Tab} {N:dW} {t t2:TypeId} {ox oy:Operand} {d:Option Tmp} {ty:TypeId} {pos:String} {af:Array Edge} {all:Array Oper} {rest:List Oper} {k:List It} {Q:GQ} {E:Env} {M:Mem} {nx:Nat}
@[go_sem]theorem bDa (a b:Int):GBn P T N .mul t t2 ox oy (.r (.v (.int .u64 a))) (.r (.v (.int .u64 b))) d ty pos af all rest k Q E M nx=GO P T N all rest k Q (aK E d (.w (nY (BitVec.ofInt 64 a) (BitVec.ofInt 64 b)))) M nx:=by rw[iR (aQz a b)];simp
@[go_sem]theorem bEn (kk:IntKind) (b:Int):GBn P T N .shl t t2 ox oy (.r (.v (.int .u64 1))) (.r (.v (.int kk b))) d ty pos af all rest k Q E M nx=(0<=b/\GO P T N all rest k Q (aK E d (.w (bP 1#64 b.toNat))) M nx):=aMb 1#64 kk b
end
end Go.Gx.Ix
namespace Go.Gx.Sr
open Go.RowKit Go.Proofs Go.Proofs.YtncccnmmjfapnaaGreat Go.Gx.Ix
abbrev W64:=BitVec 64
def vV (a b:W64):W64:=bV (nY (bV (nY (bV a b) 11400714819323198485#64) (bY (nY (bV a b) 11400714819323198485#64) 29)) 13787848793156543929#64)
 (bY (nY (bV (nY (bV a b) 11400714819323198485#64) (bY (nY (bV a b) 11400714819323198485#64) 29)) 13787848793156543929#64) 32)
theorem nI (a b:W64):Pure Tryz.prog 318 [.w a,.w b] (· =.w (vV a b)):=by
 refine π Tryz.func318 ?_;simp[go_sem];simp only [vV]
structure ChG where
 t:Int
 p:Int
 on:Bool
structure KsG where
 a:Int
 m:Int
 s:W64
 z:W64
structure EnG where
 t:Int
 k:Int
 p:Int
 d:W64
 a:W64
 s:W64
 l:W64
deriving instance DecidableEq for ChG
deriving instance DecidableEq for KsG
deriving instance DecidableEq for EnG
def ChG.f (x:ChG):Nat->RV
 | 0=>.i x.t
 | 1=>.i x.p
 | _=>.v (.bool x.on)
def KsG.f (x:KsG):Nat->RV
 | 0=>.i x.a
 | 1=>.i x.m
 | 2=>.w x.s
 | _=>.w x.z
def EnG.f (x:EnG):Nat->RV
 | 0=>.i x.t
 | 1=>.i x.k
 | 2=>.i x.p
 | 3=>.w x.d
 | 4=>.w x.a
 | 5=>.w x.s
 | _=>.w x.l
@[go_sem]theorem ChG.f0 (x:ChG):x.f 0=.i x.t:=rfl
@[go_sem]theorem ChG.f1 (x:ChG):x.f 1=.i x.p:=rfl
@[go_sem]theorem ChG.f2 (x:ChG):x.f 2=.v (.bool x.on):=rfl
@[go_sem]theorem KsG.f0 (x:KsG):x.f 0=.i x.a:=rfl
@[go_sem]theorem KsG.f1 (x:KsG):x.f 1=.i x.m:=rfl
@[go_sem]theorem KsG.f2 (x:KsG):x.f 2=.w x.s:=rfl
@[go_sem]theorem KsG.f3 (x:KsG):x.f 3=.w x.z:=rfl
@[go_sem]theorem EnG.f0 (x:EnG):x.f 0=.i x.t:=rfl
@[go_sem]theorem EnG.f1 (x:EnG):x.f 1=.i x.k:=rfl
@[go_sem]theorem EnG.f2 (x:EnG):x.f 2=.i x.p:=rfl
@[go_sem]theorem EnG.f3 (x:EnG):x.f 3=.w x.d:=rfl
@[go_sem]theorem EnG.f4 (x:EnG):x.f 4=.w x.a:=rfl
@[go_sem]theorem EnG.f5 (x:EnG):x.f 5=.w x.s:=rfl
@[go_sem]theorem EnG.f6 (x:EnG):x.f 6=.w x.l:=rfl
abbrev ChG.sv (x:ChG):SV:=.agg [.i x.t,.i x.p,.b x.on]
abbrev KsG.sv (x:KsG):SV:=.agg [.i x.a,.i x.m,.w x.s,.w x.z]
abbrev EnG.sv (x:EnG):SV:=.agg [.i x.t,.i x.k,.i x.p,.w x.d,.w x.a,.w x.s,.w x.l]
def bA {α:Type} (f:α->Nat->RV) (l:List α):Nat->Nat->RV:=λi j=>match l[i]? with | some x=>f x j | none=>.any
theorem aJ {α:Type} {f:α->Nat->RV} {l:List α} {i:Nat} (h:i<l.length) (j:Nat):bA f l i j=f l[i] j:=by
 unfold bA;rw[List.getElem?_eq_getElem h]
abbrev pZ (l:List ChG):SV:=.r (.rs 3 l.length (bA ChG.f l))
abbrev kss (l:List KsG):SV:=.r (.rs 4 l.length (bA KsG.f l))
abbrev tL (l:List EnG):SV:=.r (.rs 7 l.length (bA EnG.f l))
abbrev maxT:Int:=1099511627776
def oF (n:Int):Bool:=btw 0 maxT n
def psB (n:Int):Bool:=btw 0 63 n
theorem aLi (lo hi n:Int):Pure Tryz.prog 195 [.i lo,.i hi,.i n] (· =.b (btw lo hi n)):=by
 refine π Tryz.func195 ?_;by_cases h:lo<=n <;> simp[go_sem,btw,h]
theorem gJ (n:Int):Pure Tryz.prog 193 [.i n] (· =.b (oF n)):=by
 refine π Tryz.func193 ?_;simp[go_sem];refine aA (aLi 0 maxT n) rfl rfl ?_;simp[go_sem,oF]
theorem yD (n:Int):Pure Tryz.prog 94 [.i n] (· =.b (psB n)):=by
 refine π Tryz.func94 ?_;simp[go_sem];refine aA (aLi 0 63 n) rfl rfl ?_;simp[go_sem,psB]
def ChG.ok (x:ChG):Bool:=oF x.t&&psB x.p
theorem aJk (x:ChG):Pure Tryz.prog 196 [x.sv] (· =.b (!x.ok)):=by
 refine π Tryz.func196 ?_;simp[go_sem];refine aA (gJ x.t) rfl rfl ?_;unfold ChG.ok
 cases oF x.t
 ·simp[go_sem]
 simp[go_sem];refine aA (yD x.p) rfl rfl ?_
 cases psB x.p <;> simp[go_sem]
theorem gC {n:Int}:oF n=true↔0<=n/\n<=maxT:=by simp[oF,btw]
theorem sJ {n:Int}:psB n=true↔0<=n/\n<=63:=by simp[psB,btw]
theorem aSe (x y:ChG) (hx:oF x.t=true) (hy:oF y.t=true):Pure Tryz.prog 197 [x.sv,y.sv] (· =.i (x.t - y.t)):=by
 refine π Tryz.func197 ?_;have h1:=gC.1 hx;have h2:=gC.1 hy;simp only [maxT] at h1 h2;simp[go_sem];omega
def aJu (s:W64) (c:ChG):W64:=if c.on then iO (cX s (bP 1#64 c.p.toNat)) (bP 1#64 c.p.toNat) else cX s (bP 1#64 c.p.toNat)
def bwL (l:List ChG) (lo hi:Int):List ChG:=(l.takeWhile λc=>decide (c.t<=hi)).filter λc=>decide (lo<c.t)
def aAa (s:W64) (p:Int):Int:=if bJ s (bP 1#64 p.toNat)=0#64 then 1 else 2
theorem bAe (s:W64) (p:Int) (hp:0<=p):Pure Tryz.prog 95 [.w s,.i p] (· =.r (.v (.int .u8 (aAa s p)))):=by
 refine π Tryz.func95 ?_;by_cases h:bJ s (bP 1#64 p.toNat)=0#64 <;> simp[go_sem,aAa,h,hp,kH]
def aDb (p n a:Int):Int:=if psB p&&oF n&&oF a then (if n<a then 101 else 0) else 2
theorem aVe (p n a:Int):Pure Tryz.prog 97 [.i p,.i n,.i a] (· =.i (aDb p n a)):=by
 refine π Tryz.func97 ?_;simp[go_sem];refine aA (yD p) rfl rfl ?_;unfold aDb
 cases psB p
 ·simp[go_sem]
 simp[go_sem];refine aA (gJ n) rfl rfl ?_
 cases oF n
 ·simp[go_sem]
 simp[go_sem];refine aA (gJ a) rfl rfl ?_
 cases oF a
 ·simp[go_sem]
 by_cases h:n<a <;> simp[go_sem,h]
def u64 (n:Int):W64:=BitVec.ofInt 64 n
def aYh (a m:Int) (s key:W64):W64:=vV (vV (vV key (u64 a)) s) (u64 m)
end Go.Gx.Sr
namespace Go.Gx.Rg
open Go.RowKit Go.Proofs Go.Proofs.YtncccnmmjfapnaaGreat
theorem aFn (x:Int):Pure Tryz.prog 310 [.i x] (· =.b false):=by
 refine π Tryz.func310 ?_;simp[go_sem]
def bT (x y:Int):Int:=if x<y then -1 else if y<x then 1 else 0
theorem lW (x y:Int):Pure Tryz.prog 213 [.i x,.i y] (· =.i (bT x y)):=by
 refine π Tryz.func213 ?_;simp[go_sem];refine aA (aFn x) rfl rfl ?_;simp[go_sem];refine aA (aFn y) rfl rfl ?_;simp[go_sem,bT];split
 ·intro h;omega
 ·split <;> rfl
theorem aXf (n lo hi:Int) (g g':Nat->Nat->RV) (h:g 0 0=.i lo) (h':g' 0 0=.i hi):Pure Tryz.prog 214 [.i n,.r (.rp 1 1 g 0 0),.r (.rp 1 1 g' 0 0)] (· =.b (decide (n<lo)||decide (hi<n))):=by
 refine π Tryz.func214 ?_;simp[go_sem,h,h'];split
 ·intro h;omega
 ·left;omega
def idx (p:Nat->Bool) (n:Nat):Int:=match (List.range n).find? p with | some i=>i | none=>-1
theorem idx_found {p:Nat->Bool} {n i:Nat} (h:i<n) (hp:p i=true) (hj:∀j,j<i->p j=false):idx p n=i:=by
 have:(List.range n).find? p=some i:=List.find?_range_eq_some.2 ⟨hp,List.mem_range.2 h,λj hj'=>by simp[hj j hj']⟩;simp[idx,this]
theorem idx_none {p:Nat->Bool} {n:Nat} (hj:∀j,j<n->p j=false):idx p n=-1:=by
 have:(List.range n).find? p=none:=List.find?_eq_none.2 λj hj'=>by simp[hj j (List.mem_range.1 hj')]
 simp[idx,this]
theorem idx_any {p:Nat->Bool} {n:Nat}:decide (0<=idx p n)=(List.range n).any p:=by
 unfold idx
 cases h:(List.range n).find? p with
 | none=>
   have:=List.find?_eq_none.1 h;simp;intro x hx;simpa using this x (List.mem_range.2 hx)
 | some i=>
   have:=List.find?_range_eq_some.1 h;simp;exact⟨i,List.mem_range.1 this.2.1,this.1⟩
theorem aYv (n:Nat) (hn:(n:Int)<2 ^ 63) (get:Nat->Nat->RV) (g:FuncId) (ca:List SV) (p:Nat->Bool) (hca:SV.closedL ca=true) (hp:∀i,i<n->Pure Tryz.prog g (.r (get i 0)::ca) (· =.b (p i))) :
 Pure Tryz.prog 263 [.r (.rs 1 n get),.fn (.func g) [] ca] (· =.i (idx p n)):=by
 refine π Tryz.func263 ?_;simp[go_sem];refine aH aD (α:=Nat) (λi=>[(0,.r (.rs 1 n get)),(1,.fn (.func g) [] ca),(7,.i n),(8,.i i)]) (λ_=>[]) 0 (λi=>i<=n/\∀j,j<i->p j=false) (λi=>n - i) 0 (λ_=>rfl) τ (by simp[go_sem,SV.trimL_closed 0 ca hca]) ζ ?_;intro i J hi;simp[go_sem];split
 ·rename_i hlt;refine⟨hlt,?_⟩;refine aA (hp i hlt) (by simp[SV.closedL,SV.closed,hca]) rfl ?_;simp[go_sem];split
  ·rename_i hpi;rw[idx_found hlt hpi hi.2]
  ·rename_i hpi;refine⟨ω,i+1,⟨ω,λj hj=>?_⟩,ω,?_⟩
   ·by_cases hji:j=i
    ·subst hji;simpa using hpi
    ·exact hi.2 j ω
   ·simp[SV.trimL_closed 0 ca hca]
 ·rename_i hlt;rw[idx_none λj hj=>hi.2 j ω]
theorem aY6 (n:Nat) (hn:(n:Int)<2 ^ 63) (get:Nat->Nat->RV) (g:FuncId) (ca:List SV) (p:Nat->Bool) (hca:SV.closedL ca=true) (hp:∀i,i<n->Pure Tryz.prog g (.r (get i 0)::ca) (· =.b (p i))) :
 Pure Tryz.prog 149 [.r (.rs 1 n get),.fn (.func g) [] ca] (· =.b ((List.range n).any p)):=by
 refine π Tryz.func149 ?_;simp[go_sem];refine aA (aYv n hn get g ca p hca hp) (by simp[SV.closedL,SV.closed,hca]) rfl ?_;simp[go_sem];exact idx_any
theorem bAp (n:Nat) (hn:(n:Int)<2 ^ 63) (get:Nat->Nat->RV) (g:FuncId) (ca:List SV) (p:Nat->Bool) (hca:SV.closedL ca=true) (hp:∀i,i<n->Pure Tryz.prog g (.agg [.r (get i 0),.r (get i 1),.r (get i 2),.r (get i 3),.r (get i 4),.r (get i 5),.r (get i 6),.r (get i 7)]::ca) (· =.b (p i))) :
 Pure Tryz.prog 402 [.r (.rs 8 n get),.fn (.func g) [] ca] (· =.i (idx p n)):=by
 refine π Tryz.func402 ?_;simp[go_sem];refine aH aD (α:=Nat) (λi=>[(0,.r (.rs 8 n get)),(1,.fn (.func g) [] ca),(7,.i n),(8,.i i)]) (λ_=>[]) 0 (λi=>i<=n/\∀j,j<i->p j=false) (λi=>n - i) 0 (λ_=>rfl) τ (by simp[go_sem,SV.trimL_closed 0 ca hca]) ζ ?_;intro i J hi;simp[go_sem];split
 ·rename_i hlt;refine⟨hlt,?_⟩;refine aA (hp i hlt) (by simp[SV.closedL,SV.closed,hca]) rfl ?_;simp[go_sem];split
  ·rename_i hpi;rw[idx_found hlt hpi hi.2]
  ·rename_i hpi;refine⟨ω,i+1,⟨ω,λj hj=>?_⟩,ω,?_⟩
   ·by_cases hji:j=i
    ·subst hji;simpa using hpi
    ·exact hi.2 j ω
   ·simp[SV.trimL_closed 0 ca hca]
 ·rename_i hlt;rw[idx_none λj hj=>hi.2 j ω]
theorem aZs (n:Nat) (hn:(n:Int)<2 ^ 63) (get:Nat->Nat->RV) (g:FuncId) (ca:List SV) (p:Nat->Bool) (hca:SV.closedL ca=true) (hp:∀i,i<n->Pure Tryz.prog g (.agg [.r (get i 0),.r (get i 1),.r (get i 2),.r (get i 3),.r (get i 4),.r (get i 5),.r (get i 6),.r (get i 7)]::ca) (· =.b (p i))) :
 Pure Tryz.prog 319 [.r (.rs 8 n get),.fn (.func g) [] ca] (· =.b ((List.range n).any p)):=by
 refine π Tryz.func319 ?_;simp[go_sem];refine aA (bAp n hn get g ca p hca hp) (by simp[SV.closedL,SV.closed,hca]) rfl ?_;simp[go_sem];exact idx_any
theorem aTq (n:Nat) (hn:(n:Int)<2 ^ 63) (get:Nat->Nat->RV) (g:FuncId) (ca:List SV) (p:Nat->Bool) (hca:SV.closedL ca=true) (hp:∀i,i<n->Pure Tryz.prog g (.agg [.r (get i 0),.r (get i 1),.r (get i 2)]::ca) (· =.b (p i))) :
 Pure Tryz.prog 237 [.r (.rs 3 n get),.fn (.func g) [] ca] (· =.i (idx p n)):=by
 refine π Tryz.func237 ?_;simp[go_sem];refine aH aD (α:=Nat) (λi=>[(0,.r (.rs 3 n get)),(1,.fn (.func g) [] ca),(7,.i n),(8,.i i)]) (λ_=>[]) 0 (λi=>i<=n/\∀j,j<i->p j=false) (λi=>n - i) 0 (λ_=>rfl) τ (by simp[go_sem,SV.trimL_closed 0 ca hca]) ζ ?_;intro i J hi;simp[go_sem];split
 ·rename_i hlt;refine⟨hlt,?_⟩;refine aA (hp i hlt) (by simp[SV.closedL,SV.closed,hca]) rfl ?_;simp[go_sem];split
  ·rename_i hpi;rw[idx_found hlt hpi hi.2]
  ·rename_i hpi;refine⟨ω,i+1,⟨ω,λj hj=>?_⟩,ω,?_⟩
   ·by_cases hji:j=i
    ·subst hji;simpa using hpi
    ·exact hi.2 j ω
   ·simp[SV.trimL_closed 0 ca hca]
 ·rename_i hlt;rw[idx_none λj hj=>hi.2 j ω]
theorem aSs (n:Nat) (hn:(n:Int)<2 ^ 63) (get:Nat->Nat->RV) (g:FuncId) (ca:List SV) (p:Nat->Bool) (hca:SV.closedL ca=true) (hp:∀i,i<n->Pure Tryz.prog g (.agg [.r (get i 0),.r (get i 1),.r (get i 2)]::ca) (· =.b (p i))) :
 Pure Tryz.prog 267 [.r (.rs 3 n get),.fn (.func g) [] ca] (· =.b ((List.range n).any p)):=by
 refine π Tryz.func267 ?_;simp[go_sem];refine aA (aTq n hn get g ca p hca hp) (by simp[SV.closedL,SV.closed,hca]) rfl ?_;simp[go_sem];exact idx_any
theorem aRw (n:Nat) (hn:(n:Int)<2 ^ 63) (get:Nat->Nat->RV) (g:FuncId) (ca:List SV) (p:Nat->Bool) (hca:SV.closedL ca=true) (hp:∀i,i<n->Pure Tryz.prog g (.agg [.r (get i 0),.r (get i 1),.r (get i 2),.r (get i 3)]::ca) (· =.b (p i))) :
 Pure Tryz.prog 238 [.r (.rs 4 n get),.fn (.func g) [] ca] (· =.i (idx p n)):=by
 refine π Tryz.func238 ?_;simp[go_sem];refine aH aD (α:=Nat) (λi=>[(0,.r (.rs 4 n get)),(1,.fn (.func g) [] ca),(7,.i n),(8,.i i)]) (λ_=>[]) 0 (λi=>i<=n/\∀j,j<i->p j=false) (λi=>n - i) 0 (λ_=>rfl) τ (by simp[go_sem,SV.trimL_closed 0 ca hca]) ζ ?_;intro i J hi;simp[go_sem];split
 ·rename_i hlt;refine⟨hlt,?_⟩;refine aA (hp i hlt) (by simp[SV.closedL,SV.closed,hca]) rfl ?_;simp[go_sem];split
  ·rename_i hpi;rw[idx_found hlt hpi hi.2]
  ·rename_i hpi;refine⟨ω,i+1,⟨ω,λj hj=>?_⟩,ω,?_⟩
   ·by_cases hji:j=i
    ·subst hji;simpa using hpi
    ·exact hi.2 j ω
   ·simp[SV.trimL_closed 0 ca hca]
 ·rename_i hlt;rw[idx_none λj hj=>hi.2 j ω]
theorem aRx (n:Nat) (hn:(n:Int)<2 ^ 63) (get:Nat->Nat->RV) (g:FuncId) (ca:List SV) (p:Nat->Bool) (hca:SV.closedL ca=true) (hp:∀i,i<n->Pure Tryz.prog g (.agg [.r (get i 0),.r (get i 1),.r (get i 2),.r (get i 3)]::ca) (· =.b (p i))) :
 Pure Tryz.prog 269 [.r (.rs 4 n get),.fn (.func g) [] ca] (· =.b ((List.range n).any p)):=by
 refine π Tryz.func269 ?_;simp[go_sem];refine aA (aRw n hn get g ca p hca hp) (by simp[SV.closedL,SV.closed,hca]) rfl ?_;simp[go_sem];exact idx_any
theorem aTo (n:Nat) (hn:(n:Int)<2 ^ 63) (get:Nat->Nat->RV) (g:FuncId) (ca:List SV) (p:Nat->Bool) (hca:SV.closedL ca=true) (hp:∀i,i<n->Pure Tryz.prog g (.agg [.r (get i 0),.r (get i 1),.r (get i 2),.r (get i 3),.r (get i 4)]::ca) (· =.b (p i))) :
 Pure Tryz.prog 239 [.r (.rs 5 n get),.fn (.func g) [] ca] (· =.i (idx p n)):=by
 refine π Tryz.func239 ?_;simp[go_sem];refine aH aD (α:=Nat) (λi=>[(0,.r (.rs 5 n get)),(1,.fn (.func g) [] ca),(7,.i n),(8,.i i)]) (λ_=>[]) 0 (λi=>i<=n/\∀j,j<i->p j=false) (λi=>n - i) 0 (λ_=>rfl) τ (by simp[go_sem,SV.trimL_closed 0 ca hca]) ζ ?_;intro i J hi;simp[go_sem];split
 ·rename_i hlt;refine⟨hlt,?_⟩;refine aA (hp i hlt) (by simp[SV.closedL,SV.closed,hca]) rfl ?_;simp[go_sem];split
  ·rename_i hpi;rw[idx_found hlt hpi hi.2]
  ·rename_i hpi;refine⟨ω,i+1,⟨ω,λj hj=>?_⟩,ω,?_⟩
   ·by_cases hji:j=i
    ·subst hji;simpa using hpi
    ·exact hi.2 j ω
   ·simp[SV.trimL_closed 0 ca hca]
 ·rename_i hlt;rw[idx_none λj hj=>hi.2 j ω]
theorem bBr (n:Nat) (hn:(n:Int)<2 ^ 63) (get:Nat->Nat->RV) (g:FuncId) (ca:List SV) (p:Nat->Bool) (hca:SV.closedL ca=true) (hp:∀i,i<n->Pure Tryz.prog g (.agg [.r (get i 0),.r (get i 1),.r (get i 2),.r (get i 3),.r (get i 4)]::ca) (· =.b (p i))) :
 Pure Tryz.prog 271 [.r (.rs 5 n get),.fn (.func g) [] ca] (· =.b ((List.range n).any p)):=by
 refine π Tryz.func271 ?_;simp[go_sem];refine aA (aTo n hn get g ca p hca hp) (by simp[SV.closedL,SV.closed,hca]) rfl ?_;simp[go_sem];exact idx_any
theorem uM (lo hi:Int) (n:Nat) (hn:(n:Int)<2 ^ 63) (x:Nat->Int) :
 Pure Tryz.prog 105 [.i lo,.i hi,.r (.rs 1 n λi _=>.i (x i))] (· =.b ((List.range n).all λi=>decide (lo<=x i)&&decide (x i<=hi))):=by
 refine π Tryz.func105 ?_;simp[go_sem];refine aG (v:=.b ((List.range n).any λi=>decide (x i<lo)||decide (hi<x i))) ?_ rfl ?_
 ·simp[go_sem];refine aY6 n hn _ (214:FuncId) _ _ rfl λi hi'=>?_;exact aXf (x i) lo hi _ _ rfl rfl
 ·simp[go_sem];rw[List.not_all_eq_any_not]
  congr 1;funext i
  by_cases h1:lo<=x i <;> by_cases h2:x i<=hi <;> simp[h1,h2] <;> omega
theorem aLb (n:Nat) (hn:(n:Int)<2 ^ 63) (x:Nat->Int) :
 Pure Tryz.prog 321 [.r (.rs 1 n λi _=>.i (x i))] (· =.b ((List.range n).all λi=>decide (0<=x i)&&decide (x i<=7))):=by
 refine π Tryz.func321 ?_;simp[go_sem];refine aA (uM 0 7 n hn x) rfl rfl ?_;simp[go_sem]
theorem aKn (n:Nat) (hn:(n:Int)<2 ^ 63) (x:Nat->Int) :
 Pure Tryz.prog 322 [.r (.rs 1 n λi _=>.i (x i))] (· =.b ((List.range n).all λi=>decide (0<=x i)&&decide (x i<=1099511627776))):=by
 refine π Tryz.func322 ?_;simp[go_sem];refine aA (uM 0 1099511627776 n hn x) rfl rfl ?_;simp[go_sem]
theorem aTy (n:Nat) (hn:(n:Int)<2 ^ 63) (x:Nat->Int) :
 Pure Tryz.prog 122 [.r (.rs 1 n λi _=>.i (x i))] (· =.b ((List.range n).all λi=>decide (0<=x i)&&decide (x i<=63))):=by
 refine π Tryz.func122 ?_;simp[go_sem];refine aA (uM 0 63 n hn x) rfl rfl ?_;simp[go_sem]
def btw (lo hi n:Int):Bool:=decide (lo<=n)&&decide (n<=hi)
abbrev kindB:=btw 0 7
abbrev timeB:=btw 0 1099511627776
abbrev persB:=btw 0 63
section
variable {get:Nat->Nat->RV} {a b c lo hi:Int}
theorem bG7 {s s':SV} {l l':List SV} (h:leL l l'):leL (s::s'::l) (s::s'::l'):=⟨SV.le.rfl,SV.le.rfl,h⟩
theorem le1 (h0:get 0 0=.i a):leL [.r (.rs 1 1 get)] [.r (.rs 1 1 λi _=>.i (match i with | _=>a))]:=
 ⟨vK λi j hi hj=>by have:=lt1 hi;have:=lt1 hj;subst_vars;exact h0,trivial⟩
theorem le2 (h0:get 0 0=.i a) (h1:get 1 0=.i b):leL [.r (.rs 1 2 get)] [.r (.rs 1 2 λi _=>.i (match i with | 0=>a | _=>b))]:=
 ⟨vK λi j hi hj=>by
   have:=lt1 hj;rcases(ω:i=0\/i=1) with h | h <;> subst_vars
   ·exact h0
   ·exact h1,trivial⟩
theorem le3 (h0:get 0 0=.i a) (h1:get 1 0=.i b) (h2:get 2 0=.i c):leL [.r (.rs 1 3 get)] [.r (.rs 1 3 λi _=>.i (match i with | 0=>a | 1=>b | _=>c))]:=
 ⟨vK λi j hi hj=>by
   have:=lt1 hj;rcases(ω:i=0\/i=1\/i=2) with h | h | h <;> subst_vars
   ·exact h0
   ·exact h1
   ·exact h2,trivial⟩
theorem aIq (h0:get 0 0=.i a):Pure Tryz.prog 321 [.r (.rs 1 1 get)] (· =.b (kindB a)):=((aLb 1 δ _).args (le1 h0)).val (by simp[List.range_succ,btw])
theorem aPb (h0:get 0 0=.i a) (h1:get 1 0=.i b) (h2:get 2 0=.i c):Pure Tryz.prog 321 [.r (.rs 1 3 get)] (· =.b (kindB a&&kindB b&&kindB c)):=((aLb 3 δ _).args (le3 h0 h1 h2)).val (by simp[List.range_succ,btw,Bool.and_assoc])
theorem aR4 (h0:get 0 0=.i a):Pure Tryz.prog 322 [.r (.rs 1 1 get)] (· =.b (timeB a)):=((aKn 1 δ _).args (le1 h0)).val (by simp[List.range_succ,btw])
theorem aKd (h0:get 0 0=.i a) (h1:get 1 0=.i b):Pure Tryz.prog 322 [.r (.rs 1 2 get)] (· =.b (timeB a&&timeB b)):=((aKn 2 δ _).args (le2 h0 h1)).val (by simp[List.range_succ,btw])
theorem sN (h0:get 0 0=.i a):Pure Tryz.prog 122 [.r (.rs 1 1 get)] (· =.b (persB a)):=((aTy 1 δ _).args (le1 h0)).val (by simp[List.range_succ,btw])
theorem aTc (h0:get 0 0=.i a):Pure Tryz.prog 105 [.i lo,.i hi,.r (.rs 1 1 get)] (· =.b (btw lo hi a)):=((uM lo hi 1 δ _).args (bG7 (le1 h0))).val (by simp[List.range_succ,btw])
theorem bGf (h0:get 0 0=.i a) (h1:get 1 0=.i b):Pure Tryz.prog 105 [.i lo,.i hi,.r (.rs 1 2 get)] (· =.b (btw lo hi a&&btw lo hi b)):=((uM lo hi 2 δ _).args (bG7 (le2 h0 h1))).val (by simp[List.range_succ,btw])
end
theorem iI (n lo hi:Int):Pure Tryz.prog 360 [.i n,.i lo,.i hi] (· =.b (btw lo hi n)):=by
 refine π Tryz.func360 ?_;simp[go_sem,btw];split
 ·intro _;assumption
 ·intro h;omega
theorem nL (n:Int):Pure Tryz.prog 358 [.i n] (· =.b (btw 0 7 n)):=by
 refine π Tryz.func358 ?_;simp[go_sem];refine aA (iI n 0 7) rfl rfl ?_;simp[go_sem]
theorem oZ (n:Int):Pure Tryz.prog 359 [.i n] (· =.b (btw 0 1099511627776 n)):=by
 refine π Tryz.func359 ?_;simp[go_sem];refine aA (iI n 0 1099511627776) rfl rfl ?_;simp[go_sem]
theorem pD (n:Int):Pure Tryz.prog 361 [.i n] (· =.b (btw 0 63 n)):=by
 refine π Tryz.func361 ?_;simp[go_sem];refine aA (iI n 0 63) rfl rfl ?_;simp[go_sem]
theorem bHe (n:Nat) (hn:(n:Int)<2 ^ 63) (x:Nat->Int) :
 Pure Tryz.prog 212 [.r (.rs 1 n λi _=>.i (x i))] (· =.i (((List.range n).find? λi=>decide (x i≠0)).elim 0 x)):=by
 refine π Tryz.func212 ?_;simp[go_sem];refine aH aD (α:=Nat) (λi=>[(3,.i 0),(6,.r (.rs 1 n λi _=>.i (x i))),(7,.i n),(8,.i i)]) (λ_=>[]) 0 (λi=>i<=n/\∀j,j<i->x j=0) (λi=>n - i) 0 (λ_=>rfl) τ ζ ζ ?_;intro i J hi;simp[go_sem];split
 ·rename_i hlt;refine⟨hlt,?_⟩;split
  ·rename_i h0;exact⟨ω,i+1,⟨ω,λj hj=>by
    by_cases hji:j=i
    ·subst hji;exact h0
    ·exact hi.2 j ω⟩,ω,τ⟩
  ·rename_i h0;have:(List.range n).find? (λi=>!decide (x i=0))=some i:=List.find?_range_eq_some.2 ⟨by simpa using h0,List.mem_range.2 hlt,λj hj=>by simp[hi.2 j hj]⟩;rw[this];rfl
 ·rename_i hlt;have:(List.range n).find? (λi=>!decide (x i=0))=none:=List.find?_eq_none.2 λj hj=>by simp[hi.2 j (by have:=List.mem_range.1 hj;omega)]
  rw[this];rfl
def lex (a b:Int):Int:=if a=0 then b else a
theorem or2 {get:Nat->Nat->RV} {a b:Int} (h0:get 0 0=.i a) (h1:get 1 0=.i b):Pure Tryz.prog 212 [.r (.rs 1 2 get)] (· =.i (lex a b)):=
 ((bHe 2 δ _).args (le2 h0 h1)).val (by
   by_cases ha:a=0 <;> by_cases hb:b=0 <;> simp[List.range_succ,lex,ha,hb])
theorem aQ0 (a b c d e f:Int):Pure Tryz.prog 235 [.agg [.i a,.i b,.i c],.agg [.i d,.i e,.i f]] (· =.i (lex (bT a d) (bT b e))):=by
 refine π Tryz.func235 ?_;simp[go_sem];refine bD aD κ 10 κ rfl rfl ?_;simp[go_sem];refine⟨_,aB (lW a d) rfl rfl,_,aB (lW b e) rfl rfl,?_⟩;simp[go_sem];refine aG (v:=.i (lex (bT a d) (bT b e))) ?_ rfl ?_
 ·simp[go_sem];exact or2 rfl rfl
 ·simp[go_sem]
end Go.Gx.Rg
namespace Go.Gx.Rg
open Go.RowKit Go.Proofs Go.Proofs.YtncccnmmjfapnaaGreat
structure RuleG where
 (p r l f t k s b:Int)
structure ConG where
 (p q u:Int)
structure WarG where
 (l p f t:Int)
structure MarkG where
 (l p s u n:Int)
def RuleG.c (x:RuleG):Nat->RV
 | 0=>.i x.p
 | 1=>.i x.r
 | 2=>.i x.l
 | 3=>.i x.f
 | 4=>.i x.t
 | 5=>.i x.k
 | 6=>.i x.s
 | 7=>.v (.int .u8 x.b)
 | _=>.any
@[go_sem]theorem RuleG.c0 (x:RuleG):x.c 0=.i x.p:=rfl
@[go_sem]theorem RuleG.c1 (x:RuleG):x.c 1=.i x.r:=rfl
@[go_sem]theorem RuleG.c2 (x:RuleG):x.c 2=.i x.l:=rfl
@[go_sem]theorem RuleG.c3 (x:RuleG):x.c 3=.i x.f:=rfl
@[go_sem]theorem RuleG.c4 (x:RuleG):x.c 4=.i x.t:=rfl
@[go_sem]theorem RuleG.c5 (x:RuleG):x.c 5=.i x.k:=rfl
@[go_sem]theorem RuleG.c6 (x:RuleG):x.c 6=.i x.s:=rfl
@[go_sem]theorem RuleG.c7 (x:RuleG):x.c 7=.v (.int .u8 x.b):=rfl
abbrev RuleG.sv (x:RuleG):SV:=.agg [.i x.p,.i x.r,.i x.l,.i x.f,.i x.t,.i x.k,.i x.s,.r (.v (.int .u8 x.b))]
abbrev RuleG.rs (n:Nat) (x:Nat->RuleG):SV:=.r (.rs 8 n λi j=>(x i).c j)
def ConG.c (x:ConG):Nat->RV
 | 0=>.i x.p
 | 1=>.i x.q
 | 2=>.i x.u
 | _=>.any
@[go_sem]theorem ConG.c0 (x:ConG):x.c 0=.i x.p:=rfl
@[go_sem]theorem ConG.c1 (x:ConG):x.c 1=.i x.q:=rfl
@[go_sem]theorem ConG.c2 (x:ConG):x.c 2=.i x.u:=rfl
abbrev ConG.sv (x:ConG):SV:=.agg [.i x.p,.i x.q,.i x.u]
abbrev ConG.rs (n:Nat) (x:Nat->ConG):SV:=.r (.rs 3 n λi j=>(x i).c j)
def WarG.c (x:WarG):Nat->RV
 | 0=>.i x.l
 | 1=>.i x.p
 | 2=>.i x.f
 | 3=>.i x.t
 | _=>.any
@[go_sem]theorem WarG.c0 (x:WarG):x.c 0=.i x.l:=rfl
@[go_sem]theorem WarG.c1 (x:WarG):x.c 1=.i x.p:=rfl
@[go_sem]theorem WarG.c2 (x:WarG):x.c 2=.i x.f:=rfl
@[go_sem]theorem WarG.c3 (x:WarG):x.c 3=.i x.t:=rfl
abbrev WarG.sv (x:WarG):SV:=.agg [.i x.l,.i x.p,.i x.f,.i x.t]
abbrev WarG.rs (n:Nat) (x:Nat->WarG):SV:=.r (.rs 4 n λi j=>(x i).c j)
def MarkG.c (x:MarkG):Nat->RV
 | 0=>.i x.l
 | 1=>.i x.p
 | 2=>.i x.s
 | 3=>.i x.u
 | 4=>.i x.n
 | _=>.any
@[go_sem]theorem MarkG.c0 (x:MarkG):x.c 0=.i x.l:=rfl
@[go_sem]theorem MarkG.c1 (x:MarkG):x.c 1=.i x.p:=rfl
@[go_sem]theorem MarkG.c2 (x:MarkG):x.c 2=.i x.s:=rfl
@[go_sem]theorem MarkG.c3 (x:MarkG):x.c 3=.i x.u:=rfl
@[go_sem]theorem MarkG.c4 (x:MarkG):x.c 4=.i x.n:=rfl
abbrev MarkG.sv (x:MarkG):SV:=.agg [.i x.l,.i x.p,.i x.s,.i x.u,.i x.n]
abbrev MarkG.rs (n:Nat) (x:Nat->MarkG):SV:=.r (.rs 5 n λi j=>(x i).c j)
def RuleG.good (x:RuleG):Bool:=kindB x.p&&kindB x.r&&kindB x.l&&(timeB x.f&&timeB x.t)&&decide (x.f<x.t)&&btw 1 2 x.k&&(btw 1 3 x.s&&btw 1 3 x.b)
def ConG.good (x:ConG):Bool:=persB x.p&&kindB x.q&&timeB x.u
def WarG.good (x:WarG):Bool:=kindB x.l&&persB x.p&&(timeB x.f&&timeB x.t)&&decide (x.f<x.t)
def MarkG.good (x:MarkG):Bool:=kindB x.l&&persB x.p&&(timeB x.s&&timeB x.u)&&decide (x.s<x.u)&&btw 0 1000 x.n
def RuleG.byte (x:RuleG):Prop:=0<=x.b/\x.b<256
theorem tE (h:Int) (hh:0<=h/\h<256):IntKind.i64.wrap h=h:=by
 unfold IntKind.wrap;simp[IntKind.bits];omega
theorem qV (x:ConG):Pure Tryz.prog 229 [x.sv] (· =.b x.good):=by
 refine π Tryz.func229 ?_;obtain⟨a0,h0⟩:∃a,(persB x.p)=a:=⟨_,rfl⟩;obtain⟨a1,h1⟩:∃a,(kindB x.q)=a:=⟨_,rfl⟩;obtain⟨a2,h2⟩:∃a,(timeB x.u)=a:=⟨_,rfl⟩;have hg:x.good=(a0&&a1&&a2):=by rw[ConG.good,h0,h1,h2]
 rw[hg];clear hg;simp[go_sem];refine aG (v:=.b a0) (by simp[go_sem];rw[<- h0];exact sN rfl) rfl ?_
 cases a0
 ·simp[go_sem]
 simp[go_sem];refine aG (v:=.b a1) (by simp[go_sem];rw[<- h1];exact aIq rfl) rfl ?_
 cases a1
 ·simp[go_sem]
 simp[go_sem];refine aG (v:=.b a2) (by simp[go_sem];rw[<- h2];exact aR4 rfl) rfl ?_
 cases a2
 ·simp[go_sem]
 simp[go_sem]
theorem aIo (x:RuleG) (hh:x.byte):Pure Tryz.prog 227 [x.sv] (· =.b x.good):=by
 refine π Tryz.func227 ?_;obtain⟨a0,h0⟩:∃a,(kindB x.p&&kindB x.r&&kindB x.l)=a:=⟨_,rfl⟩;obtain⟨a1,h1⟩:∃a,(timeB x.f&&timeB x.t)=a:=⟨_,rfl⟩;obtain⟨a3,h3⟩:∃a,(btw 1 2 x.k)=a:=⟨_,rfl⟩;obtain⟨a4,h4⟩:∃a,(btw 1 3 x.s&&btw 1 3 x.b)=a:=⟨_,rfl⟩;have hg:x.good=(a0&&a1&&decide (x.f<x.t)&&a3&&a4):=by rw[RuleG.good,h0,h1,h3,h4]
 rw[hg];clear hg;simp[go_sem];refine aG (v:=.b a0) (by simp[go_sem,tE x.b hh];rw[<- h0];exact aPb rfl rfl rfl) rfl ?_
 cases a0
 ·simp[go_sem]
 simp[go_sem];refine aG (v:=.b a1) (by simp[go_sem,tE x.b hh];rw[<- h1];exact aKd rfl rfl) rfl ?_
 cases a1
 ·simp[go_sem]
 simp[go_sem];by_cases hc:x.f<x.t;rotate_left
 ·simp[go_sem,hc]
 simp[go_sem,hc];refine aG (v:=.b a3) (by simp[go_sem,tE x.b hh];rw[<- h3];exact aTc rfl) rfl ?_
 cases a3
 ·simp[go_sem]
 simp[go_sem];refine aG (v:=.b a4) (by simp[go_sem,tE x.b hh];rw[<- h4];exact bGf rfl rfl) rfl ?_
 cases a4
 ·simp[go_sem]
 simp[go_sem]
theorem aA0 (x:WarG):Pure Tryz.prog 231 [x.sv] (· =.b x.good):=by
 refine π Tryz.func231 ?_;obtain⟨a0,h0⟩:∃a,(kindB x.l)=a:=⟨_,rfl⟩;obtain⟨a1,h1⟩:∃a,(persB x.p)=a:=⟨_,rfl⟩;obtain⟨a2,h2⟩:∃a,(timeB x.f&&timeB x.t)=a:=⟨_,rfl⟩;have hg:x.good=(a0&&a1&&a2&&decide (x.f<x.t)):=by rw[WarG.good,h0,h1,h2]
 rw[hg];clear hg;simp[go_sem];refine aG (v:=.b a0) (by simp[go_sem];rw[<- h0];exact aIq rfl) rfl ?_
 cases a0
 ·simp[go_sem]
 simp[go_sem];refine aG (v:=.b a1) (by simp[go_sem];rw[<- h1];exact sN rfl) rfl ?_
 cases a1
 ·simp[go_sem]
 simp[go_sem];refine aG (v:=.b a2) (by simp[go_sem];rw[<- h2];exact aKd rfl rfl) rfl ?_
 cases a2
 ·simp[go_sem]
 simp[go_sem]
theorem xY (x:MarkG):Pure Tryz.prog 233 [x.sv] (· =.b x.good):=by
 refine π Tryz.func233 ?_;obtain⟨a0,h0⟩:∃a,(kindB x.l)=a:=⟨_,rfl⟩;obtain⟨a1,h1⟩:∃a,(persB x.p)=a:=⟨_,rfl⟩;obtain⟨a2,h2⟩:∃a,(timeB x.s&&timeB x.u)=a:=⟨_,rfl⟩;obtain⟨a4,h4⟩:∃a,(btw 0 1000 x.n)=a:=⟨_,rfl⟩;have hg:x.good=(a0&&a1&&a2&&decide (x.s<x.u)&&a4):=by rw[MarkG.good,h0,h1,h2,h4]
 rw[hg];clear hg;simp[go_sem];refine aG (v:=.b a0) (by simp[go_sem];rw[<- h0];exact aIq rfl) rfl ?_
 cases a0
 ·simp[go_sem]
 simp[go_sem];refine aG (v:=.b a1) (by simp[go_sem];rw[<- h1];exact sN rfl) rfl ?_
 cases a1
 ·simp[go_sem]
 simp[go_sem];refine aG (v:=.b a2) (by simp[go_sem];rw[<- h2];exact aKd rfl rfl) rfl ?_
 cases a2
 ·simp[go_sem]
 simp[go_sem];by_cases hc:x.s<x.u;rotate_left
 ·simp[go_sem,hc]
 simp[go_sem,hc];refine aG (v:=.b a4) (by simp[go_sem];rw[<- h4];exact aTc rfl) rfl ?_
 cases a4
 ·simp[go_sem]
 simp[go_sem]
theorem bB7 (g:FuncId) (x:RuleG) (p:Bool) (hp:Pure Tryz.prog g [x.sv] (· =.b p)) (gt:Nat->Nat->RV) (h:gt 0 0=.fn (.func g) 0 0 (λ_=>.any) λ_=>.any):Pure Tryz.prog 320 [x.sv,.r (.rp 1 1 gt 0 0)] (· =.b (!p)):=by
 refine π Tryz.func320 ?_;simp[go_sem,h];refine aA hp rfl rfl ?_;simp[go_sem]
theorem aM7 (n:Nat) (hn:(n:Int)<2 ^ 63) (x:Nat->RuleG) (most:Int) (g:FuncId) (p:Nat->Bool) (hp:∀i,i<n->Pure Tryz.prog g [(x i).sv] (· =.b (p i))) :
 Pure Tryz.prog 226 [RuleG.rs n x,.i most,.fn (.func g) [] []] (· =.b (decide ((n:Int)<=most)&&(List.range n).all p)):=by
 refine π Tryz.func226 ?_;simp[go_sem];split
 ·rename_i hle;refine aG (v:=.b ((List.range n).any λi=>!p i)) ?_ rfl ?_
  ·simp[go_sem];exact aZs n hn (λi j=>(x i).c j) (320:FuncId) _ _ rfl λi hi'=>bB7 g (x i) (p i) (hp i hi') _ rfl
  ·simp[go_sem];simp[hle,List.not_all_eq_any_not]
 ·rename_i hle;simp[hle]
theorem bB4 (g:FuncId) (x:ConG) (p:Bool) (hp:Pure Tryz.prog g [x.sv] (· =.b p)) (gt:Nat->Nat->RV) (h:gt 0 0=.fn (.func g) 0 0 (λ_=>.any) λ_=>.any):Pure Tryz.prog 323 [x.sv,.r (.rp 1 1 gt 0 0)] (· =.b (!p)):=by
 refine π Tryz.func323 ?_;simp[go_sem,h];refine aA hp rfl rfl ?_;simp[go_sem]
theorem aEa (n:Nat) (hn:(n:Int)<2 ^ 63) (x:Nat->ConG) (most:Int) (g:FuncId) (p:Nat->Bool) (hp:∀i,i<n->Pure Tryz.prog g [(x i).sv] (· =.b (p i))) :
 Pure Tryz.prog 228 [ConG.rs n x,.i most,.fn (.func g) [] []] (· =.b (decide ((n:Int)<=most)&&(List.range n).all p)):=by
 refine π Tryz.func228 ?_;simp[go_sem];split
 ·rename_i hle;refine aG (v:=.b ((List.range n).any λi=>!p i)) ?_ rfl ?_
  ·simp[go_sem];exact aSs n hn (λi j=>(x i).c j) (323:FuncId) _ _ rfl λi hi'=>bB4 g (x i) (p i) (hp i hi') _ rfl
  ·simp[go_sem];simp[hle,List.not_all_eq_any_not]
 ·rename_i hle;simp[hle]
theorem bBq (g:FuncId) (x:WarG) (p:Bool) (hp:Pure Tryz.prog g [x.sv] (· =.b p)) (gt:Nat->Nat->RV) (h:gt 0 0=.fn (.func g) 0 0 (λ_=>.any) λ_=>.any):Pure Tryz.prog 324 [x.sv,.r (.rp 1 1 gt 0 0)] (· =.b (!p)):=by
 refine π Tryz.func324 ?_;simp[go_sem,h];refine aA hp rfl rfl ?_;simp[go_sem]
theorem aD0 (n:Nat) (hn:(n:Int)<2 ^ 63) (x:Nat->WarG) (most:Int) (g:FuncId) (p:Nat->Bool) (hp:∀i,i<n->Pure Tryz.prog g [(x i).sv] (· =.b (p i))) :
 Pure Tryz.prog 230 [WarG.rs n x,.i most,.fn (.func g) [] []] (· =.b (decide ((n:Int)<=most)&&(List.range n).all p)):=by
 refine π Tryz.func230 ?_;simp[go_sem];split
 ·rename_i hle;refine aG (v:=.b ((List.range n).any λi=>!p i)) ?_ rfl ?_
  ·simp[go_sem];exact aRx n hn (λi j=>(x i).c j) (324:FuncId) _ _ rfl λi hi'=>bBq g (x i) (p i) (hp i hi') _ rfl
  ·simp[go_sem];simp[hle,List.not_all_eq_any_not]
 ·rename_i hle;simp[hle]
theorem aZq (g:FuncId) (x:MarkG) (p:Bool) (hp:Pure Tryz.prog g [x.sv] (· =.b p)) (gt:Nat->Nat->RV) (h:gt 0 0=.fn (.func g) 0 0 (λ_=>.any) λ_=>.any):Pure Tryz.prog 325 [x.sv,.r (.rp 1 1 gt 0 0)] (· =.b (!p)):=by
 refine π Tryz.func325 ?_;simp[go_sem,h];refine aA hp rfl rfl ?_;simp[go_sem]
theorem aMa (n:Nat) (hn:(n:Int)<2 ^ 63) (x:Nat->MarkG) (most:Int) (g:FuncId) (p:Nat->Bool) (hp:∀i,i<n->Pure Tryz.prog g [(x i).sv] (· =.b (p i))) :
 Pure Tryz.prog 232 [MarkG.rs n x,.i most,.fn (.func g) [] []] (· =.b (decide ((n:Int)<=most)&&(List.range n).all p)):=by
 refine π Tryz.func232 ?_;simp[go_sem];split
 ·rename_i hle;refine aG (v:=.b ((List.range n).any λi=>!p i)) ?_ rfl ?_
  ·simp[go_sem];exact bBr n hn (λi j=>(x i).c j) (325:FuncId) _ _ rfl λi hi'=>aZq g (x i) (p i) (hp i hi') _ rfl
  ·simp[go_sem];simp[hle,List.not_all_eq_any_not]
 ·rename_i hle;simp[hle]
theorem aJl (x y:MarkG):Pure Tryz.prog 104 [x.sv,y.sv] (· =.i (lex (bT x.l y.l) (bT x.p y.p))):=by
 refine π Tryz.func104 ?_;simp[go_sem];refine bD aD κ 10 κ rfl rfl ?_;simp[go_sem];refine⟨_,aB (lW x.l y.l) rfl rfl,_,aB (lW x.p y.p) rfl rfl,?_⟩;simp[go_sem];refine aG (v:=.i (lex (bT x.l y.l) (bT x.p y.p))) ?_ rfl ?_
 ·simp[go_sem];exact or2 rfl rfl
 ·simp[go_sem]
def ConG.lt (x y:ConG):Bool:=decide (lex (bT x.p y.p) (bT x.q y.q)<0)
def MarkG.lt (x y:MarkG):Bool:=decide (lex (bT x.l y.l) (bT x.p y.p)<0)
theorem aRc (n:Nat) (hn:(n:Int)<2 ^ 62) (x:Nat->ConG) :
 Pure Tryz.prog 234 [ConG.rs n x,.fn (.func 235) [] []] (· =.b ((List.range (n - 1)).all λi=>(x i).lt (x (i+1)))):=by
 refine π Tryz.func234 ?_;simp[go_sem];refine aH aD (α:=Nat) (λk=>[(0,ConG.rs n x),(1,.fn (.func 235) [] []),(5,.i ((k:Int)+1))]) (λ_=>[]) 0 (λk=>(k=0\/k+1<=n)/\∀j,j<k->(x j).lt (x (j+1))=true) (λk=>n - k) 0 (λ_=>rfl) τ ζ ζ ?_;intro k J hi;simp[go_sem];split
 ·rename_i hlt;refine bD aD κ 10 κ rfl rfl ?_;simp[go_sem];refine⟨ω,ω,⟨ω,ω⟩,ω,?_⟩;refine aA (aQ0 (x k).p (x k).q (x k).u (x (k+1)).p (x (k+1)).q (x (k+1)).u) rfl rfl ?_;simp[go_sem];split
  ·rename_i h0;refine⟨k,ω,?_⟩;simp[ConG.lt];omega
  ·rename_i h0;refine⟨ω,k+1,⟨ω,λj hj=>?_⟩,ω,τ⟩;by_cases hjk:j=k
   ·subst hjk;simp[ConG.lt];omega
   ·exact hi.2 j ω
 ·rename_i hlt;intro j hj;exact hi.2 j ω
theorem aRa (n:Nat) (hn:(n:Int)<2 ^ 62) (x:Nat->MarkG) :
 Pure Tryz.prog 236 [MarkG.rs n x,.fn (.func 104) [] []] (· =.b ((List.range (n - 1)).all λi=>(x i).lt (x (i+1)))):=by
 refine π Tryz.func236 ?_;simp[go_sem];refine aH aD (α:=Nat) (λk=>[(0,MarkG.rs n x),(1,.fn (.func 104) [] []),(5,.i ((k:Int)+1))]) (λ_=>[]) 0 (λk=>(k=0\/k+1<=n)/\∀j,j<k->(x j).lt (x (j+1))=true) (λk=>n - k) 0 (λ_=>rfl) τ ζ ζ ?_;intro k J hi;simp[go_sem];split
 ·rename_i hlt;refine bD aD κ 10 κ rfl rfl ?_;simp[go_sem];refine⟨ω,ω,⟨ω,ω⟩,ω,?_⟩;refine aA (aJl (x k) (x (k+1))) rfl rfl ?_;simp[go_sem];split
  ·rename_i h0;refine⟨k,ω,?_⟩;simp[MarkG.lt];omega
  ·rename_i h0;refine⟨ω,k+1,⟨ω,λj hj=>?_⟩,ω,τ⟩;by_cases hjk:j=k
   ·subst hjk;simp[MarkG.lt];omega
   ·exact hi.2 j ω
 ·rename_i hlt;intro j hj;exact hi.2 j ω
structure RG where
 (nr:Nat) (r:Nat->RuleG) (nc:Nat) (c:Nat->ConG) (nw:Nat) (w:Nat->WarG) (nm:Nat) (m:Nat->MarkG)
abbrev RG.sv (g:RG):SV:=.agg [RuleG.rs g.nr g.r,ConG.rs g.nc g.c,WarG.rs g.nw g.w,MarkG.rs g.nm g.m]
structure RG.OK (g:RG):Prop where
 nr:(g.nr:Int)<2 ^ 62
 nc:(g.nc:Int)<2 ^ 62
 nw:(g.nw:Int)<2 ^ 62
 nm:(g.nm:Int)<2 ^ 62
 by':∀i,i<g.nr->(g.r i).byte
def RG.c1 (g:RG):Bool:=decide ((g.nr:Int)<=20)&&(List.range g.nr).all λi=>(g.r i).good
def RG.c2 (g:RG):Bool:=decide ((g.nc:Int)<=40)&&(List.range g.nc).all λi=>(g.c i).good
def RG.c3 (g:RG):Bool:=decide ((g.nw:Int)<=20)&&(List.range g.nw).all λi=>(g.w i).good
def RG.c4 (g:RG):Bool:=decide ((g.nm:Int)<=40)&&(List.range g.nm).all λi=>(g.m i).good
def RG.c5 (g:RG):Bool:=(List.range (g.nc - 1)).all λi=>(g.c i).lt (g.c (i+1))
def RG.c6 (g:RG):Bool:=(List.range (g.nm - 1)).all λi=>(g.m i).lt (g.m (i+1))
def RG.valid (g:RG):Bool:=g.c1&&g.c2&&g.c3&&g.c4&&g.c5&&g.c6
theorem check28 (g:RG) (h:g.OK):Pure Tryz.prog 121 [g.sv] (· =.i (if g.valid then 0 else 8)):=by
 refine π Tryz.func121 ?_;have q0:=(aM7 g.nr (by have:=h.nr;omega) g.r 20 (227:FuncId) (λi=>(g.r i).good) (λi hi=>aIo _ (h.by' i hi))).val (v':=.b g.c1) rfl;have q1:=(aEa g.nc (by have:=h.nc;omega) g.c 40 (229:FuncId) (λi=>(g.c i).good) (λi hi=>qV _)).val (v':=.b g.c2) rfl;have q2:=(aD0 g.nw (by have:=h.nw;omega) g.w 20 (231:FuncId) (λi=>(g.w i).good) (λi hi=>aA0 _)).val (v':=.b g.c3) rfl;have q3:=(aMa g.nm (by have:=h.nm;omega) g.m 40 (233:FuncId) (λi=>(g.m i).good) (λi hi=>xY _)).val (v':=.b g.c4) rfl;have q4:=(aRc g.nc h.nc g.c).val (v':=.b g.c5) rfl;have q5:=(aRa g.nm h.nm g.m).val (v':=.b g.c6) rfl;obtain⟨a0,e0⟩:∃a,g.c1=a:=⟨_,rfl⟩;rw[e0] at q0;obtain⟨a1,e1⟩:∃a,g.c2=a:=⟨_,rfl⟩;rw[e1] at q1;obtain⟨a2,e2⟩:∃a,g.c3=a:=⟨_,rfl⟩;rw[e2] at q2;obtain⟨a3,e3⟩:∃a,g.c4=a:=⟨_,rfl⟩;rw[e3] at q3;obtain⟨a4,e4⟩:∃a,g.c5=a:=⟨_,rfl⟩;rw[e4] at q4;obtain⟨a5,e5⟩:∃a,g.c6=a:=⟨_,rfl⟩;rw[e5] at q5;have hv:g.valid=(a0&&a1&&a2&&a3&&a4&&a5):=by rw[RG.valid,e0,e1,e2,e3,e4,e5]
 rw[hv];clear hv;simp[go_sem];refine aA q0 rfl rfl ?_
 cases a0
 ·simp[go_sem]
 simp[go_sem];refine aA q1 rfl rfl ?_
 cases a1
 ·simp[go_sem]
 simp[go_sem];refine aA q2 rfl rfl ?_
 cases a2
 ·simp[go_sem]
 simp[go_sem];refine aA q3 rfl rfl ?_
 cases a3
 ·simp[go_sem]
 simp[go_sem];refine aA q4 rfl rfl ?_
 cases a4
 ·simp[go_sem]
 simp[go_sem];refine aA q5 rfl rfl ?_
 cases a5
 ·simp[go_sem]
 simp[go_sem]
end Go.Gx.Rg
namespace Go.Gx.Sr
open Go.RowKit Go.Proofs Go.Proofs.YtncccnmmjfapnaaGreat Go.Gx.Ix
theorem idx274 (n:Nat) (hn:(n:Int)<2 ^ 63) (get:Nat->Nat->RV) (g:FuncId) (ca:List SV) (p:Nat->Bool) (hca:SV.closedL ca=true) (hp:∀i,i<n->Pure Tryz.prog g (.agg [.r (get i 0),.r (get i 1),.r (get i 2)]::ca) (· =.b (p i))) :
 Pure Tryz.prog 274 [.r (.rs 3 n get),.fn (.func g) [] ca] (· =.i (Rg.idx p n)):=by
 refine π Tryz.func274 ?_;simp[go_sem];refine aH aD (α:=Nat) (λi=>[(0,.r (.rs 3 n get)),(1,.fn (.func g) [] ca),(7,.i n),(8,.i i)]) (λ_=>[]) 0 (λi=>i<=n/\∀j,j<i->p j=false) (λi=>n - i) 0 (λ_=>rfl) τ (by simp[go_sem,SV.trimL_closed 0 ca hca]) ζ ?_;intro i J hi;simp[go_sem];split
 ·rename_i hlt;refine⟨hlt,?_⟩;refine aA (hp i hlt) (by simp[SV.closedL,SV.closed,hca]) rfl ?_;simp[go_sem];split
  ·rename_i hpi;rw[Rg.idx_found hlt hpi hi.2]
  ·rename_i hpi;refine⟨ω,i+1,⟨ω,λj hj=>?_⟩,ω,?_⟩
   ·by_cases hji:j=i
    ·subst hji;simpa using hpi
    ·exact hi.2 j ω
   ·simp[SV.trimL_closed 0 ca hca]
 ·rename_i hlt;rw[Rg.idx_none λj hj=>hi.2 j ω]
theorem bBl (n:Nat) (hn:(n:Int)<2 ^ 63) (get:Nat->Nat->RV) (g:FuncId) (ca:List SV) (p:Nat->Bool) (hca:SV.closedL ca=true) (hp:∀i,i<n->Pure Tryz.prog g (.agg [.r (get i 0),.r (get i 1),.r (get i 2)]::ca) (· =.b (p i))) :
 Pure Tryz.prog 172 [.r (.rs 3 n get),.fn (.func g) [] ca] (· =.b ((List.range n).any p)):=by
 refine π Tryz.func172 ?_;simp[go_sem];refine aA (idx274 n hn get g ca p hca hp) (by simp[SV.closedL,SV.closed,hca]) rfl ?_;simp[go_sem];exact Rg.idx_any
theorem aNh {α:Type} {l:List α} {p:α->Bool} {q:Nat->Bool} (h:∀i (hi:i<l.length),q i=p l[i]):(List.range l.length).any q=l.any p:=by
 rw[Bool.eq_iff_iff,List.any_eq_true,List.any_eq_true];constructor
 ·rintro⟨i,hi,hq⟩;have hi:=List.mem_range.1 hi;exact⟨l[i],List.getElem_mem hi,by rw[<- h i hi];exact hq⟩
 ·rintro⟨x,hx,hq⟩;obtain⟨i,hi,rfl⟩:=List.getElem_of_mem hx;exact⟨i,List.mem_range.2 hi,by rw[h i hi];exact hq⟩
theorem bEj (l:List ChG) (hn:l.length<1000000) (g:FuncId) (ca:List SV) (p:ChG->Bool) (hca:SV.closedL ca=true) (hp:∀x∈l,Pure Tryz.prog g (x.sv::ca) (· =.b (p x))) :
 Pure Tryz.prog 172 [pZ l,.fn (.func g) [] ca] (· =.b (l.any p)):=by
 have h:=bBl l.length ω (bA ChG.f l) g ca (λi=>match l[i]? with | some x=>p x | none=>false) hca λi hi=>by
  have:=hp l[i] (List.getElem_mem hi);rw[aJ hi,aJ hi,aJ hi,List.getElem?_eq_getElem hi];exact this
 rw[aNh (p:=p) λi hi=>by simp[List.getElem?_eq_getElem hi]] at h;exact h
def aJ6 (l:List ChG):Bool:=(List.range (l.length - 1)).all λi=>match l[i]?,l[i+1]? with | some x,some y=>decide (x.t<=y.t) | _,_=>true
theorem oW {l:List ChG}:aJ6 l=true↔∀i (h2:i+1<l.length),l[i].t<=l[i+1].t:=by
 unfold aJ6;rw[List.all_eq_true];constructor
 ·intro h i h2;have:=h i (List.mem_range.2 ω);rw[List.getElem?_eq_getElem (ω:i<l.length),List.getElem?_eq_getElem h2] at this;simpa using this
 ·intro h i hi;have hi:=List.mem_range.1 hi;have h2:i+1<l.length:=ω;rw[List.getElem?_eq_getElem (ω:i<l.length),List.getElem?_eq_getElem h2];simpa using h i h2
theorem aXg {l:List ChG} {i:Nat} (h2:i+1<l.length) (h:l[i+1].t<l[i].t):aJ6 l=false:=by
 rw[Bool.eq_false_iff];intro hs;have:=oW.1 hs i h2;omega
theorem aN1 (l:List ChG) (hn:l.length<1000000) (h:∀x∈l,oF x.t=true):Pure Tryz.prog 198 [pZ l,.fn (.func 197) [] []] (· =.b (aJ6 l)):=by
 refine π Tryz.func198 ?_;simp[go_sem];refine⟨ω,?_⟩;refine aH aD (α:=Nat) (λm=>[(0,pZ l),(1,.fn (.func 197) [] []),(5,.i ((m:Int) - 1))]) (λ_=>[]) 0
  (λm=>m<=l.length/\∀i,m<=i+1->∀(h2:i+1<l.length),l[i].t<=l[i+1].t) (λm=>m) l.length (λ_=>rfl) ⟨Nat.le_refl _,λi h1 h2=>ω⟩ ζ ζ ?_
 intro m J hi;obtain⟨hm,hi⟩:=hi;by_cases hlt:1<m
 ·have hlt':(0:Int)<(m:Int) - 1:=ω;obtain⟨k,rfl⟩:∃k,m=k+2:=⟨m - 2,ω⟩;have e1:((k+2:Nat):Int) - 1=((k+1:Nat):Int):=ω;have e2:((k+1:Nat):Int) - 1=(k:Int):=ω;have g1:=aJ (f:=ChG.f) (l:=l) (i:=k+1) ω;have g0:=aJ (f:=ChG.f) (l:=l) (i:=k) ω;rw[e1];simp[go_sem];refine aE aD κ κ ?_;have hb1:(k:Int)+1<l.length:=ω;simp[go_sem,g0,g1];refine⟨⟨ω,ω⟩,ω,ω,ω,_,aB (aSe l[k+1] l[k] (h _ (List.getElem_mem _)) (h _ (List.getElem_mem _))) rfl rfl,?_⟩;by_cases hc:l[k].t<=l[k+1].t
  ·have hc':¬l[k+1].t - l[k].t<0:=ω;have hc2:¬l[k+1].t<l[k].t:=ω;simp[go_sem,hc',hc2];refine⟨ω,k+1,⟨ω,λi h1 h2=>?_⟩,ω,ω⟩;by_cases hik:i=k
   ·subst hik;exact hc
   ·exact hi i ω h2
  ·have hc':l[k+1].t - l[k].t<0:=ω;have hc2:l[k+1].t<l[k].t:=ω;simp[go_sem,hc',hc2];exact aXg ω hc2
 ·have hlt':¬(1:Int)<(m:Int):=ω;simp[go_sem,hlt'];exact oW.2 λi h2=>hi i ω h2
def eS (l:List ChG):Bool:=decide (l.length<=60)&&l.all ChG.ok&&aJ6 l
theorem xX (l:List ChG) (hn:l.length<1000000):Pure Tryz.prog 96 [pZ l] (· =.i (if eS l then 0 else 8)):=by
 obtain⟨c,hc⟩:∃c,eS l=c:=⟨_,rfl⟩;rw[hc];refine π Tryz.func96 ?_;unfold eS at hc;by_cases h1:l.length<=60;rotate_left
 ·have h1':(60:Int)<l.length:=ω;rw[decide_eq_false h1] at hc;subst hc;simp[go_sem,h1']
 have h1':¬(60:Int)<l.length:=ω;rw[decide_eq_true h1] at hc;simp[go_sem,h1'];refine aA (bEj l hn 196 [] (λx=>!x.ok) rfl λx _=>aJk x) rfl rfl ?_;obtain⟨a,ha⟩:∃a,l.any (λx=>!x.ok)=a:=⟨_,rfl⟩;rw[ha];have hall:l.all ChG.ok=!a:=by rw[<- ha,List.all_eq_not_any_not]
 rw[hall] at hc
 cases a
 rotate_left
 ·simp at hc;subst hc;simp[go_sem]
 have hok:∀x∈l,oF x.t=true:=λx hx=>by
  have:=List.all_eq_true.1 hall x hx;simp only [ChG.ok,Bool.and_eq_true] at this;exact this.1
 simp at hc;subst hc;simp[go_sem];refine aA (aN1 l hn hok) rfl rfl ?_
 cases aJ6 l <;> simp[go_sem]
theorem aC0 {α:Type} {p:α->Bool}:∀{l:List α},(∀x∈l,p x=true)->l.takeWhile p=l
 | [],_=>rfl
 | a::l,h=>by rw[List.takeWhile_cons_of_pos (h a List.mem_cons_self),aC0 λx hx=>h x (List.mem_cons_of_mem _ hx)]
theorem aYr (M:Mem) (n:Nat) (a b:Option Reg):bG (bG M n a) n b=bG M n b:=by
 funext r;by_cases h:r=n <;> simp[bG,h]
theorem aNk (l:List ChG) (lo hi:Int):Own Tryz.prog 98 [] [pZ l,.i lo,.i hi] (.fn (.func 199) [] [.ptr 0 0 1 0,.ptr 2 0 1 0,.ptr 1 0 1 0]) [.box [pZ l],.box [.i lo],.box [.i hi]]:=by
 refine γ Tryz.func98 ?_;simp[go_sem];refine⟨[0,1,2],τ,λN=>⟨ζ,ζ⟩⟩
theorem aRs {l:List ChG} {lo hi:Int} {k:Nat} (hk:k<l.length) (hall:∀i (h:i<l.length),i<k->l[i].t<=hi) (h1:l[k].t<=hi) :
 bwL (l.take (k+1)) lo hi=bwL (l.take k) lo hi++(if lo<l[k].t then [l[k]] else []):=by
 have e:∀n,n<=k+1->(l.take n).takeWhile (λc=>decide (c.t<=hi))=l.take n:=λn hn=>by
  refine aC0 λx hx=>?_;obtain⟨i,hi',rfl⟩:=List.getElem_of_mem hx;simp only [List.length_take] at hi';simp only [List.getElem_take];by_cases hik:i=k
  ·subst hik;simpa using h1
  ·simpa using hall i ω ω
 unfold bwL;rw[e _ (Nat.le_refl _),e _ ω,List.take_succ_eq_append_getElem hk,List.filter_append]
 congr 1
 by_cases h:lo<l[k].t <;> simp[h]
theorem aSm {l:List ChG} {lo hi:Int} {k:Nat} (hk:k<l.length) (hall:∀i (h:i<l.length),i<k->l[i].t<=hi) (h1:hi<l[k].t):bwL l lo hi=bwL (l.take k) lo hi:=by
 unfold bwL
 congr 1
 have hl:l=l.take k++l[k]::l.drop (k+1):=τ;have e:∀x∈l.take k,decide (x.t<=hi)=true:=λx hx=>by
  obtain⟨i,hi',rfl⟩:=List.getElem_of_mem hx;simp only [List.length_take] at hi';simp only [List.getElem_take];simpa using hall i ω ω
 conv=>lhs;rw[hl]
 rw[List.takeWhile_append_of_pos e,List.takeWhile_cons_of_neg ι,List.append_nil,aC0 e]
theorem aWc {l:List ChG} {lo hi:Int} {k:Nat} (hall:∀i (h:i<l.length),i<k->l[i].t<=hi):bwL (l.take k) lo hi <+: bwL l lo hi:=by
 have e:∀x∈l.take k,decide (x.t<=hi)=true:=λx hx=>by
  obtain⟨i,hi',rfl⟩:=List.getElem_of_mem hx;simp only [List.length_take] at hi';simp only [List.getElem_take];simpa using hall i ω ω
 unfold bwL;rw[aC0 e]
 conv=>rhs;rw[<- List.take_append_drop k l]
 rw[List.takeWhile_append_of_pos e,List.filter_append];exact List.prefix_append _ _
theorem aHv (l:List ChG) (hn:l.length<1000000) (lo hi:Int) (g1 g2 g3:Nat->Nat->RV) (h1:g1 0 0=.rs 3 l.length (bA ChG.f l)) (h2:g2 0 0=.i hi) (h3:g3 0 0=.i lo) :
 aLt Tryz.prog T 199 [.r (.rp 1 1 g1 0 0),.r (.rp 1 1 g2 0 0),.r (.rp 1 1 g3 0 0)] (λc:ChG=>[c.sv]) (bwL l lo hi):=by
 refine⟨_,_,Tryz.func199,rfl,κ,Nat.le_of_ble_eq_true rfl,?_⟩;intro np good m I M nx hnx h0 hst hy;simp[go_sem,h1];refine jE aD (α:=Nat) (λk=>[(0,.fn (.yield m) [] []),(1,.r (.rp 1 1 g1 0 0)),(2,.r (.rp 1 1 g2 0 0)),(3,.r (.rp 1 1 g3 0 0)),(7,pZ l),(8,.i l.length),(9,.i k)])
  (λk M nx=>k<=l.length/\(∀i (h:i<l.length),i<k->l[i].t<=hi)/\np<=nx/\I (bwL (l.take k) lo hi) M nx) (λk=>l.length - k) 0 ⟨Nat.zero_le _,λi _ h=>ω,hnx,by simpa [bwL] using h0⟩ ζ ?_
 rintro k J M nx _ ⟨k1,k2,k3,k4⟩;by_cases hk:k<l.length
 ·have hr:=aJ (f:=ChG.f) hk;have k5:=hst _ M nx (.box [.r (.i l[k].t),.r (.i l[k].p),.r (.v (.bool l[k].on))]) k3 k4;have hk':(k:Int)<l.length:=ω;by_cases c1:l[k].t<=hi;rotate_left
  ·have c1':hi<l[k].t:=ω;simp[go_sem,hk,hr,h2,h3,c1,c1'];rw[aSm hk k2 c1',aYr];exact k5
  have c1':¬hi<l[k].t:=ω;have hs:=aRs (lo:=lo) hk k2 c1;have kk:∀i (h:i<l.length),i<k+1->l[i].t<=hi:=λi h hi'=>by
   by_cases e:i=k
   ·subst e;exact c1
   ·exact k2 i h ω
  by_cases c2:lo<l[k].t
  ·rw[if_pos c2] at hs;simp[go_sem,hk,hr,h2,h3,c1,c1',c2];rw[aYr];have hp:bwL (l.take k) lo hi++[l[k]] <+: bwL l lo hi:=hs▸aWc λi h hi'=>kk i h hi';refine hy _ l[k] hp _ _ _ _ _ _ _ _ _ _ _ ζ ζ (by simp[dH]) k5 λM' nx' hn' hI=>?_;rw[<- hs] at hI;simp[go_sem];exact⟨ω,k+1,ω,τ,ω,kk,hn',hI⟩
  ·rw[if_neg c2,List.append_nil] at hs;simp[go_sem,hk,hr,h2,h3,c1,c1',c2];rw[aYr];rw[<- hs] at k5;exact⟨ω,k+1,ω,τ,ω,kk,ω,k5⟩
 ·have:k=l.length:=ω;subst this;simp[go_sem];rw[List.take_length] at k4;exact k4
theorem aLo (n:Nat):IntKind.u64.wrap (2 ^ min n 64)=((bP 1#64 n).toNat:Int):=by
 have h:GR.pure (0<=(n:Int)) (.r (.v (.int .u64 (IntKind.u64.wrap (((1#64).toNat:Int)*2 ^ min (n:Int).toNat 64)))))=.pure (0<=(n:Int)) (.w (bP 1#64 (n:Int).toNat)):=yI 1#64 .i64 (n:Int);injection h with _ h2
 injection h2 with h3
 injection h3 with h4
 injection h4 with _ h5
 simpa using h5
def sK (s:W64) (l:List ChG):W64:=l.foldl aJu s
theorem aTz (s:W64) (vs:List ChG) (ca:List SV) (hca:SV.closedL ca=true) (hit:aLt Tryz.prog T 199 ca (λc:ChG=>[c.sv]) vs) (hp:∀c∈vs,0<=c.p) :
 Pure Tryz.prog 194 [.w s,.fn (.func 199) [] ca] (· =.w (sK s vs)):=by
 refine π Tryz.func194 ?_;simp[go_sem];refine aFc aD (λc:ChG=>[c.sv]) vs 1 (λpre M nx=>M 0=some (.box [.w (sK s pre)])/\1<=nx) (gf:=199) (ca:=ca) ?_ hit (λ_=>rfl) τ ⟨κ,κ⟩ rfl (Nat.zero_le _) δ ?_ ?_ ?_ ?_
 ·simp[go_sem]
 ·simp[go_sem,sK]
 ·rintro pre M nx R hn ⟨h0,h1⟩;have e0:¬0=nx:=ω;simp[go_sem,e0,h0]
 ·rintro pre c hpre M nx hn ⟨h0,h1⟩;have e0:¬0=nx:=ω;have e1:¬nx=0:=ω;have hc:0<=c.p:=hp c (hpre.subset τ);have hs:sK s (pre++[c])=aJu (sK s pre) c:=by simp[sK]
  rw[hs];simp[go_sem,h0,e0,e1];refine bD aD κ 5 κ rfl rfl ?_;simp[go_sem,h0,e0,e1];refine⟨ω,?_⟩;obtain⟨t,p,on⟩:=c
  cases on
  ·simp[go_sem,h0,e0,e1];rw[aLo,aLe];rfl
  ·simp[go_sem,h0,e0,e1];refine bD aD κ 5 κ rfl rfl ?_;simp[go_sem,h0,e0,e1];refine⟨hc,?_⟩;rw[aLo,aLe];rfl
 ·rintro M nx hn ⟨h0,h1⟩;simp[go_sem,h0]
def qI (l:List ChG) (t:Int):Int:=if eS l then (if oF t then 0 else 2) else 8
def aEj (l:List ChG) (t:Int):W64:=sK 0#64 (bwL l (-1) t)
theorem wP {l:List ChG} {lo hi:Int} {c:ChG} (h:c∈bwL l lo hi):c∈l:=(List.takeWhile_sublist _).subset (List.mem_filter.1 h).1
theorem aJf {l:List ChG} (h:eS l=true) {c:ChG} (hc:c∈l):0<=c.t/\c.t<=maxT/\0<=c.p/\c.p<=63:=by
 simp only [eS,Bool.and_eq_true] at h;have:=List.all_eq_true.1 h.1.2 c hc;simp only [ChG.ok,Bool.and_eq_true] at this;have h1:=gC.1 this.1;have h2:=sJ.1 this.2;omega
theorem bBs (l:List ChG) (hn:l.length<1000000) (t:Int):Pure Tryz.prog 93 [pZ l,.i t] (· =.tup [.w (if qI l t=0 then aEj l t else 0#64),.i (qI l t)]):=by
 refine π Tryz.func93 ?_;simp[go_sem];refine aA (xX l hn) rfl rfl ?_;by_cases hv:eS l=true;rotate_left
 ·have e:qI l t=8:=by unfold qI;rw[if_neg hv]
  simp[go_sem,hv,e]
 simp[go_sem,hv];refine aA (gJ t) rfl rfl ?_;by_cases ht:oF t=true;rotate_left
 ·have e:qI l t=2:=by unfold qI;rw[if_pos hv,if_neg ht]
  simp[go_sem,ht,e]
 have e:qI l t=0:=by unfold qI;rw[if_pos hv,if_pos ht]
 simp[go_sem,ht,e];refine aF [] (aNk l (-1) t) τ rfl trivial ?_;simp[go_sem];refine aC 0 ξ ?_;refine aC 1 ξ ?_;refine aC 2 ξ ?_;simp[go_sem];refine aA (aTz 0#64 (bwL l (-1) t) _ ?_ (aHv l hn (-1) t _ _ _ rfl rfl rfl) λc hc=>(aJf hv (wP hc)).2.2.1) rfl rfl ?_
 ·rfl
 simp[go_sem,aEj]
theorem pG (n:Int):IntKind.u64.wrap n=((u64 n).toNat:Int):=by
 unfold u64;rw[BitVec.toNat_ofInt];simp only [IntKind.wrap,IntKind.bits,IntKind.signed];simp;omega
def KsG.acc (k:KsG) (key:W64):Nat->W64
 | 0=>key
 | 1=>vV key (u64 k.a)
 | 2=>vV (vV key (u64 k.a)) k.s
 | _=>vV (vV (vV key (u64 k.a)) k.s) (u64 k.m)
def KsG.seal (k:KsG) (key:W64):W64:=aYh k.a k.m k.s key
theorem aL1 (k:KsG) (key:W64) (gt:Nat->Nat->RV) (h0:gt 0 0=.i k.a) (h1:gt 0 1=.i k.m) (h2:gt 0 2=.w k.s) (h4:gt 0 4=.w key):Pure Tryz.prog 240 [.r (.rp 5 1 gt 0 0)] (· =.w (k.seal key)):=by
 refine π Tryz.func240 ?_;simp[go_sem,h4];refine aE aD κ κ ?_;simp[go_sem,h0,h1,h2];simp only [pG];refine aH aD (α:=Nat) (λi=>[(3,.w (k.acc key i)),(27,.sl 0 1 0 3 none),(28,.i 3),(29,.i i)]) (λ_=>[some (.vec 24 1 3 λi j=>[SV.w (u64 k.a),.w k.s,.w (u64 k.m)][i+j]?.getD (.r .any))]) 1 (λi=>i<=3) (λi=>3 - i) 0 (λ_=>rfl) τ (by simp[go_sem,KsG.acc]) (by simp[go_sem];funext i j;generalize i+j=n;rcases n with _ | _ | _ | n <;> rfl) ?_;intro i J hi;rcases(ω:i=3\/i=0\/i=1\/i=2) with rfl | rfl | rfl | rfl
 ·simp[go_sem];rfl
 ·simp[go_sem];refine aA (nI _ _) rfl rfl ?_;simp[go_sem];refine⟨1,ω,ω,⟨⟨rfl,rfl⟩,?_⟩⟩;funext i j;generalize i+j=n;rcases n with _ | _ | _ | n <;> rfl
 ·simp[go_sem];refine aA (nI _ _) rfl rfl ?_;simp[go_sem];refine⟨2,ω,ω,⟨⟨rfl,rfl⟩,?_⟩⟩;funext i j;generalize i+j=n;rcases n with _ | _ | _ | n <;> rfl
 ·simp[go_sem];refine aA (nI _ _) rfl rfl ?_;simp[go_sem];refine⟨3,ω,ω,⟨⟨rfl,rfl⟩,?_⟩⟩;funext i j;generalize i+j=n;rcases n with _ | _ | _ | n <;> rfl
def KsG.ok (k:KsG) (key:W64):Bool:=oF k.a&&oF k.m&&decide (k.z=k.seal key)
theorem aDu (k:KsG) (key:W64):Pure Tryz.prog 134 [k.sv,.w key] (· =.i (if k.ok key then 0 else 8)):=by
 obtain⟨c,hc⟩:∃c,k.ok key=c:=⟨_,rfl⟩;rw[hc];refine π Tryz.func134 ?_;unfold KsG.ok at hc;simp[go_sem];refine aE aD κ κ ?_;simp[go_sem];refine⟨_,aB (gJ k.a) rfl rfl,?_⟩;obtain⟨a,ha⟩:∃a,oF k.a=a:=⟨_,rfl⟩;rw[ha] at hc ⊢
 cases a
 ·simp at hc;subst hc;simp[go_sem]
 simp[go_sem];refine⟨_,aB (gJ k.m) rfl rfl,?_⟩;obtain⟨b,hb⟩:∃b,oF k.m=b:=⟨_,rfl⟩;rw[hb] at hc ⊢
 cases b
 ·simp at hc;subst hc;simp[go_sem]
 simp at hc;subst hc;simp[go_sem];refine⟨_,kM (v:=.w (k.seal key)) (by simp[go_sem];exact aL1 k key _ rfl rfl rfl rfl) rfl,?_⟩;by_cases hz:k.z=k.seal key
 ·simp[go_sem,hz]
 ·simp[go_sem,hz,toNat_inj]
def yF (k:KsG) (p n:Int) (key:W64):Int:=if k.ok key then aDb p n k.a else 8
def aA9 (k:KsG) (p n:Int):Int:=if k.m<n - k.a then 3 else aAa k.s p
theorem aKz {p n a:Int} (h:aDb p n a=0):0<=p/\p<=63/\0<=n/\n<=maxT/\0<=a/\a<=maxT/\a<=n:=by
 unfold aDb at h;split at h
 ·rename_i hb;simp only [Bool.and_eq_true] at hb;have h1:=sJ.1 hb.1.1;have h2:=gC.1 hb.1.2;have h3:=gC.1 hb.2;split at h
  ·omega
  ·omega
 ·omega
theorem aSk (k:KsG) (p n:Int) (key:W64):Pure Tryz.prog 60 [k.sv,.i p,.i n,.w key] (· =.tup [.r (.v (.int .u8 (if yF k p n key=0 then aA9 k p n else 0))),.i (yF k p n key)]):=by
 refine π Tryz.func60 ?_;simp[go_sem];refine aA (aDu k key) rfl rfl ?_;by_cases hk:k.ok key=true;rotate_left
 ·have e:yF k p n key=8:=by unfold yF;rw[if_neg hk]
  simp[go_sem,hk,e]
 have e:yF k p n key=aDb p n k.a:=by unfold yF;rw[if_pos hk]
 simp[go_sem,hk,e];refine aA (aVe p n k.a) rfl rfl ?_;by_cases ha:aDb p n k.a=0;rotate_left
 ·simp[go_sem,ha]
 obtain⟨a1,a2,a3,a4,a5,a6,a7⟩:=aKz ha;simp only [maxT] at a4 a6;by_cases hm:k.m<n - k.a
 ·simp[go_sem,ha,hm,aA9];omega
 ·simp[go_sem,ha,hm,aA9];refine⟨ω,?_⟩;refine aA (bAe k.s p a1) rfl rfl ?_;simp[go_sem]
theorem aOb (k:KsG) (key:W64):Own Tryz.prog 420 [.box [.i k.a,.i k.m,.w k.s,.w k.z,.w key]] [.ptr 0 0 5 0,.fn (.func 240) [.ptr 0 0 5 0] []] (.agg [.i k.a,.i k.m,.w k.s,.w (k.seal key)]) []:=by
 refine γ Tryz.func420 ?_;simp[go_sem];refine aG (v:=.w (k.seal key)) (by simp[go_sem];exact aL1 k key _ rfl rfl rfl rfl) rfl ?_;simp[go_sem];refine⟨[],τ,λN=>⟨ζ,trivial⟩⟩
def aBa (l:List ChG) (t m:Int) (key:W64):KsG:=⟨t,m,aEj l t,(KsG.mk t m (aEj l t) 0#64).seal key⟩
def wA (l:List ChG) (t m:Int):Int:=if qI l t=0 then (if oF m then 0 else 2) else qI l t
def KsG.zero:KsG:=⟨0,0,0#64,0#64⟩
theorem aVm (l:List ChG) (hn:l.length<1000000) (t m:Int) (key:W64):Pure Tryz.prog 341 [pZ l,.i t,.i m,.w key] (· =.tup [(if wA l t m=0 then aBa l t m key else KsG.zero).sv,.i (wA l t m)]):=by
 refine π Tryz.func341 ?_;simp[go_sem];refine aA (bBs l hn t) rfl rfl ?_;by_cases he:qI l t=0;rotate_left
 ·have e:wA l t m=qI l t:=by unfold wA;rw[if_neg he]
  simp[go_sem,he,e,KsG.zero]
 simp[go_sem,he];refine aA (gJ m) rfl rfl ?_;by_cases hm:oF m=true;rotate_left
 ·have e:wA l t m=2:=by unfold wA;rw[if_pos he,if_neg hm]
  simp[go_sem,hm,e,KsG.zero]
 have e:wA l t m=0:=by unfold wA;rw[if_pos he,if_pos hm]
 simp[go_sem,hm,e];refine aF [1] (aOb ⟨t,m,aEj l t,0#64⟩ key) τ rfl ⟨rfl,trivial⟩ ?_;simp[go_sem,aBa,KsG.seal]
def bHc (b x y z:W64):Nat->W64
 | 0=>b
 | 1=>vV b x
 | 2=>vV (vV b x) y
 | _=>vV (vV (vV b x) y) z
theorem aQy (b x y z:W64) (gt:Nat->Nat->RV) (h0:gt 0 0=.w x) (h1:gt 1 0=.w y) (h2:gt 2 0=.w z):Pure Tryz.prog 225 [.w b,.r (.rs 1 3 gt)] (· =.w (vV (vV (vV b x) y) z)):=by
 refine π Tryz.func225 ?_;simp[go_sem];refine aH aD (α:=Nat) (λi=>[(0,.w (bHc b x y z i)),(1,.r (.rs 1 3 gt)),(7,.r (.rs 1 3 gt)),(8,.i 3),(9,.i i)]) (λ_=>[]) 0 (λi=>i<=3) (λi=>3 - i) 0 (λ_=>rfl) τ (by simp[go_sem,bHc]) ζ ?_;intro i J hi;rcases(ω:i=3\/i=0\/i=1\/i=2) with rfl | rfl | rfl | rfl
 ·simp[go_sem];rfl
 ·simp[go_sem,h0];refine aA (nI _ _) rfl rfl ?_;simp[go_sem];exact⟨1,ω,ω,rfl,rfl⟩
 ·simp[go_sem,h1];refine aA (nI _ _) rfl rfl ?_;simp[go_sem];exact⟨2,ω,ω,rfl,rfl⟩
 ·simp[go_sem,h2];refine aA (nI _ _) rfl rfl ?_;simp[go_sem];exact⟨3,ω,ω,rfl,rfl⟩
def EnG.lnk (b:W64) (x:EnG):W64:=vV (vV (vV b (u64 x.t)) (u64 x.k)) x.s
theorem aCy (b:W64) (x:EnG):Pure Tryz.prog 120 [.w b,x.sv] (· =.w (x.lnk b)):=by
 refine π Tryz.func120 ?_;simp[go_sem];simp only [pG];refine aG (v:=.w (x.lnk b)) (by simp[go_sem];exact aQy b (u64 x.t) (u64 x.k) x.s _ rfl rfl rfl) rfl ?_;simp[go_sem]
theorem jD (lo hi n:Int):Pure Tryz.prog 157 [.i lo,.i hi,.i n] (· =.b (btw lo hi n)):=by
 refine π Tryz.func157 ?_;by_cases h:lo<=n <;> simp[go_sem,btw,h]
def EnG.rng (x:EnG):Bool:=btw 0 maxT x.t&&btw 0 7 x.k&&btw (-1) 63 x.p
def EnG.fit (x:EnG):Bool:=x.rng&&if x.p<0 then decide (iO x.d x.a=0#64) else decide (bV (bV x.s x.d) x.a=0#64)
theorem aUo (x:EnG):Pure Tryz.prog 119 [x.sv] (· =.b x.fit):=by
 obtain⟨c,hc⟩:∃c,x.fit=c:=⟨_,rfl⟩;rw[hc];unfold EnG.fit EnG.rng at hc;refine π Tryz.func119 ?_;simp[go_sem];refine aA (jD 0 maxT x.t) rfl rfl ?_;obtain⟨b1,h1⟩:∃b,btw 0 maxT x.t=b:=⟨_,rfl⟩;rw[h1] at hc ⊢
 cases b1
 ·simp at hc;subst hc;simp[go_sem]
 simp[go_sem];refine aA (jD 0 7 x.k) rfl rfl ?_;obtain⟨b2,h2⟩:∃b,btw 0 7 x.k=b:=⟨_,rfl⟩;rw[h2] at hc ⊢
 cases b2
 ·simp at hc;subst hc;simp[go_sem]
 simp[go_sem];refine aA (jD (-1) 63 x.p) rfl rfl ?_;obtain⟨b3,h3⟩:∃b,btw (-1) 63 x.p=b:=⟨_,rfl⟩;rw[h3] at hc ⊢
 cases b3
 ·simp at hc;subst hc;simp[go_sem]
 by_cases hp:x.p<0
 ·rw[if_pos hp] at hc;by_cases ho:iO x.d x.a=0#64
  ·simp[ho] at hc;subst hc;simp[go_sem,hp,ho]
  ·simp[ho] at hc;subst hc;simp[go_sem,hp,ho,kH]
 ·rw[if_neg hp] at hc;by_cases ho:bV (bV x.s x.d) x.a=0#64
  ·simp[ho] at hc;subst hc;simp[go_sem,hp,ho]
  ·simp[ho] at hc;subst hc;simp[go_sem,hp,ho,kH]
def EnG.zero:EnG:=⟨0,0,0,0#64,0#64,0#64,0#64⟩
def rX (l:List EnG) (j:Nat):EnG:=if j=0 then EnG.zero else (l[j - 1]?).getD EnG.zero
def EnG.stp (y x:EnG):Bool:=x.fit&&decide (y.t<=x.t)&&decide (x.l=x.lnk y.l)
def aAo (l:List EnG) (j:Nat):Bool:=(rX l j).stp ((l[j]?).getD EnG.zero)
def lgB (l:List EnG):Bool:=(List.range l.length).all (aAo l)
def fR (l:List EnG):Bool:=decide (l.length<=60)&&lgB l
def iE (l:List EnG):EnG:=rX l l.length
theorem aU2 (l:List EnG) (hn:l.length<1000000):Pure Tryz.prog 130 [tL l] (· =(iE l).sv):=by
 refine π Tryz.func130 ?_;unfold iE rX;by_cases h:l.length=0
 ·have h':(l.length:Int)=0:=ω;simp[go_sem,h',h,EnG.zero]
 ·have h':¬(l.length:Int)=0:=ω;obtain⟨k,hk⟩:∃k,l.length=k+1:=⟨l.length - 1,ω⟩;have hr:=aJ (f:=EnG.f) (l:=l) (i:=k) ω;have e:(l.length:Int) - 1=(k:Int):=ω;have e2:l[k]? =some l[k]:=List.getElem?_eq_getElem ω;rw[if_neg h,show l.length - 1=k from ω,e2];have hl:¬l=[]:=λe=>by simp[e] at h
  simp[go_sem,h',e,hl,hr];omega
def lgE (l:List EnG):Int:=if fR l then 0 else 110
theorem aL3 {l:List EnG} {k:Nat} (h:∀j,j<k->aAo l j=true) (hk:k=l.length):lgB l=true:=by
 unfold lgB;rw[List.all_eq_true];intro j hj;exact h j (by have:=List.mem_range.1 hj;omega)
theorem aTn {l:List EnG} {k:Nat} (hk:k<l.length) (h:aAo l k=false):lgB l=false:=by
 unfold lgB;rw[List.all_eq_false];exact⟨k,List.mem_range.2 hk,by simp[h]⟩
theorem aAj {l:List EnG} {k:Nat} (hk:k<l.length):aAo l k=(rX l k).stp l[k]:=by
 unfold aAo;rw[List.getElem?_eq_getElem hk];rfl
theorem yC {l:List EnG} {k:Nat} (hk:k<l.length):rX l (k+1)=l[k]:=by
 unfold rX;rw[if_neg ω,Nat.add_sub_cancel,List.getElem?_eq_getElem hk];rfl
abbrev EnG.bx (x:EnG):Option Reg:=some (.box [.i x.t,.i x.k,.i x.p,.w x.d,.w x.a,.w x.s,.w x.l])
theorem aKp (l:List EnG) (hn:l.length<1000000):Pure Tryz.prog 53 [tL l] (· =.i (lgE l)):=by
 refine π Tryz.func53 ?_;by_cases h1:l.length<=60;rotate_left
 ·have h1':(60:Int)<l.length:=ω;have e:lgE l=110:=by unfold lgE fR;rw[decide_eq_false h1];simp
  simp[go_sem,h1',e]
 have h1':¬(60:Int)<l.length:=ω;have eE:lgE l=if lgB l then 0 else 110:=by unfold lgE fR;rw[decide_eq_true h1,Bool.true_and]
 rw[eE];simp[go_sem,h1'];refine aH aD (α:=Nat) (λk=>[(3,.ptr 0 0 7 0),(9,tL l),(10,.i l.length),(11,.i k)]) (λk=>[(rX l k).bx]) 1 (λk=>k<=l.length/\∀j,j<k->aAo l j=true) (λk=>l.length - k) 0 (λ_=>rfl) τ ζ (by simp[go_sem,rX,EnG.zero]) ?_;rintro k J ⟨hk,hi⟩;by_cases hlt:k<l.length;rotate_left
 ·have:k=l.length:=ω;have hb:=aL3 hi this;subst this;simp[go_sem,hb]
 have hr:=aJ (f:=EnG.f) hlt;have hok:=aAj hlt;have hps:=yC hlt;obtain⟨y,hy⟩:∃y,rX l k=y:=⟨_,rfl⟩;obtain⟨x,hx⟩:∃x,l[k]=x:=⟨_,rfl⟩;have hno:(rX l k).stp l[k]=false->lgB l=false:=λh=>aTn hlt (by rw[hok];exact h);rw[hy,hx] at hno hok;rw[hx] at hr hps;unfold EnG.stp at hno hok;simp[go_sem,hlt,hr,hy];refine aE aD κ κ ?_;simp[go_sem];refine⟨_,aB (aUo x) rfl rfl,?_⟩;obtain⟨f,hf⟩:∃f,x.fit=f:=⟨_,rfl⟩;rw[hf] at hno hok ⊢
 cases f
 ·have hb:=hno rfl;simp[go_sem,hb]
 by_cases ht:x.t<y.t
 ·have hb:=hno (by rw[decide_eq_false ω];rfl);simp[go_sem,ht,hb]
 simp[go_sem,ht];refine⟨_,aB (aCy y.l x) rfl rfl,?_⟩;by_cases hl:x.l=x.lnk y.l
 ·simp[go_sem,<- hl];refine⟨ω,k+1,⟨ω,λj hj=>?_⟩,ω,ω,by rw[hps],by rw[hps],by rw[hps],by rw[hps],by rw[hps],by rw[hps],by rw[hps]⟩;by_cases hjk:j=k
  ·subst hjk;rw[hok,decide_eq_true hl,decide_eq_true (ω:y.t<=x.t)];rfl
  ·exact hi j ω
 ·have hb:=hno (by rw[decide_eq_false hl];simp);simp[go_sem,hl,toNat_inj,hb]
end Go.Gx.Sr
namespace Go.Gx.Rg
open Go.RowKit Go.Proofs Go.Proofs.YtncccnmmjfapnaaGreat
theorem jJ (a b c d:Int):Pure Tryz.prog 282 [.i a,.i b,.i c,.i d] (· =.b (decide (lex (bT a c) (bT b d)<0))):=by
 refine π Tryz.func282 ?_;simp[go_sem]
 repeat' split
 all_goals (simp only [lex,bT];grind)
section
variable {g:RG}
theorem RG.no1 (h:g.c1=false):g.valid=false:=by simp[RG.valid,h]
theorem RG.no2 (h:g.c2=false):g.valid=false:=by simp[RG.valid,h]
theorem RG.no3 (h:g.c3=false):g.valid=false:=by simp[RG.valid,h]
theorem RG.no4 (h:g.c4=false):g.valid=false:=by simp[RG.valid,h]
theorem RG.no5 (h:g.c5=false):g.valid=false:=by simp[RG.valid,h]
theorem RG.no6 (h:g.c6=false):g.valid=false:=by simp[RG.valid,h]
theorem dZ {n:Nat} {p:Nat->Bool} {i:Nat} (hi:i<n) (h:¬p i=true):(List.range n).all p=false:=by
 rw[List.all_eq_false];exact⟨i,List.mem_range.2 hi,h⟩
theorem cE {n:Nat} {p:Nat->Bool} (h:∀i,i<n->p i=true):(List.range n).all p=true:=by
 rw[List.all_eq_true];exact λi hi=>h i (List.mem_range.1 hi)
theorem RG.n1 {i:Nat} (hi:i<g.nr) (h:¬(g.r i).good=true):g.valid=false:=RG.no1 (by unfold RG.c1;rw[dZ hi h,Bool.and_false])
theorem RG.n2 {i:Nat} (hi:i<g.nc) (h:¬(g.c i).good=true):g.valid=false:=RG.no2 (by unfold RG.c2;rw[dZ hi h,Bool.and_false])
theorem RG.n3 {i:Nat} (hi:i<g.nw) (h:¬(g.w i).good=true):g.valid=false:=RG.no3 (by unfold RG.c3;rw[dZ hi h,Bool.and_false])
theorem RG.n4 {i:Nat} (hi:i<g.nm) (h:¬(g.m i).good=true):g.valid=false:=RG.no4 (by unfold RG.c4;rw[dZ hi h,Bool.and_false])
theorem RG.n5 {i:Nat} (hi:i+1<g.nc) (h:¬(g.c i).lt (g.c (i+1))=true):g.valid=false:=RG.no5 (by unfold RG.c5;exact dZ (i:=i) ω h)
theorem RG.n6 {i:Nat} (hi:i+1<g.nm) (h:¬(g.m i).lt (g.m (i+1))=true):g.valid=false:=RG.no6 (by unfold RG.c6;exact dZ (i:=i) ω h)
end
theorem dO {p:Nat->Prop} {k:Nat} (h:∀j,j<k->p j) (hk:p k):∀j,j<k+1->p j:=λj hj=>by
 by_cases e:j=k
 ·subst e;exact hk
 ·exact h j ω
abbrev RG.box (g:RG):List (Option Reg):=[some (.box [RuleG.rs g.nr g.r,ConG.rs g.nc g.c,WarG.rs g.nw g.w,MarkG.rs g.nm g.m])]
end Go.Gx.Rg
namespace Go.Gx.Rg
open Go.RowKit Go.Proofs Go.Proofs.YtncccnmmjfapnaaGreat
theorem clone105 (n:Nat) (hn:n<=1000000) (get:Nat->Nat->RV):Own Tryz.prog 139 [] [.r (.rs 8 n get)] (.sl 0 8 0 n none) [.vec 55 8 n λi j=>.r (get i j)]:=by
 refine χ Tryz.func139 ?_;simp[go_sem];refine⟨λh=>.inr (by subst h;simp),⟨ω,ω⟩,⟨[0],τ,λN=>⟨?_,?_⟩⟩⟩
 ·simp[go_sem]
 ·simp[go_sem,aI];intros i j hi hj;rw[if_pos ω];rfl
theorem aR6 (n:Nat) (hn:n<=1000000) (get:Nat->Nat->RV):Own Tryz.prog 140 [] [.r (.rs 3 n get)] (.sl 0 3 0 n none) [.vec 59 3 n λi j=>.r (get i j)]:=by
 refine χ Tryz.func140 ?_;simp[go_sem];refine⟨λh=>.inr (by subst h;simp),⟨ω,ω⟩,⟨[0],τ,λN=>⟨?_,?_⟩⟩⟩
 ·simp[go_sem]
 ·simp[go_sem,aI];intros i j hi hj;rw[if_pos ω];rfl
theorem clone107 (n:Nat) (hn:n<=1000000) (get:Nat->Nat->RV):Own Tryz.prog 141 [] [.r (.rs 4 n get)] (.sl 0 4 0 n none) [.vec 57 4 n λi j=>.r (get i j)]:=by
 refine χ Tryz.func141 ?_;simp[go_sem];refine⟨λh=>.inr (by subst h;simp),⟨ω,ω⟩,⟨[0],τ,λN=>⟨?_,?_⟩⟩⟩
 ·simp[go_sem]
 ·simp[go_sem,aI];intros i j hi hj;rw[if_pos ω];rfl
theorem aP5 (n:Nat) (hn:n<=1000000) (get:Nat->Nat->RV):Own Tryz.prog 142 [] [.r (.rs 5 n get)] (.sl 0 5 0 n none) [.vec 61 5 n λi j=>.r (get i j)]:=by
 refine χ Tryz.func142 ?_;simp[go_sem];refine⟨λh=>.inr (by subst h;simp),⟨ω,ω⟩,⟨[0],τ,λN=>⟨?_,?_⟩⟩⟩
 ·simp[go_sem]
 ·simp[go_sem,aI];intros i j hi hj;rw[if_pos ω];rfl
theorem xZ (g:RG) (hr:g.nr<=1000000) (hc:g.nc<=1000000) (hw:g.nw<=1000000) (hm:g.nm<=1000000):Own Tryz.prog 123 [] [g.sv] (.agg [.sl 0 8 0 g.nr none,.sl 1 3 0 g.nc none,.sl 2 4 0 g.nw none,.sl 3 5 0 g.nm none])
 [.vec 55 8 g.nr λi j=>.r ((g.r i).c j),.vec 59 3 g.nc λi j=>.r ((g.c i).c j),.vec 57 4 g.nw λi j=>.r ((g.w i).c j),.vec 61 5 g.nm λi j=>.r ((g.m i).c j)]:=by
 refine γ Tryz.func123 ?_;simp[go_sem];refine uN (λf=>f==139||f==140||f==141||f==142) aD κ 12 κ rfl rfl ?_;simp[go_sem];refine⟨_,_,hO (clone105 _ hr _) rfl,_,_,hO (aR6 _ hc _) rfl,_,_,hO (clone107 _ hw _) rfl,_,_,hO (aP5 _ hm _) rfl,?_⟩;simp[go_sem];refine⟨[2,3,4,5],δ,λN=>⟨?_,?_⟩⟩
 ·simp[go_sem]
 ·simp[go_sem]
end Go.Gx.Rg
namespace Go.Gx.Sr
open Go.RowKit Go.Proofs Go.Proofs.YtncccnmmjfapnaaGreat Go.Gx.Ix
def knE (l:List EnG) (p:Int):Int:=if fR l then (if btw 0 63 p then 0 else 2) else 110
theorem aRe (l:List EnG) (hn:l.length<1000000) (p:Int):Pure Tryz.prog 131 [tL l,.i p] (· =.i (knE l p)):=by
 refine π Tryz.func131 ?_;simp[go_sem];refine aA (aKp l hn) rfl rfl ?_;unfold knE lgE
 cases fR l
 ·simp[go_sem]
 simp[go_sem];refine aA (jD 0 63 p) rfl rfl ?_
 cases btw 0 63 p <;> simp[go_sem]
theorem yS (n:Nat) (hn:n<=1000000) (get:Nat->Nat->RV):Own Tryz.prog 146 [] [.r (.rs 7 n get)] (.sl 0 7 0 n none) [.vec 73 7 n λi j=>.r (get i j)]:=by
 refine χ Tryz.func146 ?_;simp[go_sem];refine⟨λh=>.inr (by subst h;simp),⟨ω,ω⟩,⟨[0],τ,λN=>⟨?_,?_⟩⟩⟩
 ·simp[go_sem]
 ·simp[go_sem,aI];intros i j hi hj;rw[if_pos ω];rfl
theorem aBg {α:Type} {f:α->Nat->RV} {l:List α} {x:α} {k q d:Nat} {M:Mem} {new:Nat->Nat->SV} (h:∀j,j<k->new 0 j=.r (f x j)) :
 ∀i j,i<l.length+1->j<k->aV M d (SV.kill q (aI l.length 1 (λi j=>SV.r (bA f l i j)) new i j))=bA f (l++[x]) i j:=by
 intro i j hi hj;unfold aI;by_cases hiL:i<l.length
 ·rw[if_pos hiL];unfold bA;rw[List.getElem?_append_left hiL]
  cases d <;> rfl
 ·obtain rfl:i=l.length:=ω;rw[if_neg hiL,if_pos ω,Nat.sub_self,h j hj];unfold bA;rw[List.getElem?_concat_length]
  cases d <;> rfl
theorem lt7 {j:Nat} (h:j<7):j=0\/j=1\/j=2\/j=3\/j=4\/j=5\/j=6:=ω
def wrE (l:List EnG) (t k p:Int):Int:=if fR l then (if btw (iE l).t maxT t&&btw 0 7 k&&btw 0 63 p then (if l.length=60 then 9 else 0) else 2) else 110
def wrX (l:List EnG) (t k p:Int) (d s:W64):EnG:=⟨t,k,p,d,s,bV d s,(EnG.mk t k p d s (bV d s) 0#64).lnk (iE l).l⟩
theorem aTj (l:List EnG) (hn:l.length<1000000) (t k p:Int) (d s:W64):Pure Tryz.prog 422 [tL l,.i t,.i k,.i p,.w d,.w s] (· =.tup [tL (if wrE l t k p=0 then l++[wrX l t k p d s] else []),.i (wrE l t k p)]):=by
 refine Pure.ofSub ?_;refine π Tryz.func422 ?_;simp[go_sem];refine aA (aKp l hn) rfl rfl ?_;simp[go_sem];refine aA (aU2 l hn) rfl rfl ?_;unfold wrE lgE
 cases hk:fR l
 ·simp[go_sem]
 obtain⟨y,hy⟩:∃y,iE l=y:=⟨_,rfl⟩;rw[hy];simp[go_sem];refine aA (jD y.t maxT t) rfl rfl ?_
 cases h1:btw y.t maxT t
 ·simp[go_sem]
 simp[go_sem];refine aA (jD 0 7 k) rfl rfl ?_
 cases h2:btw 0 7 k
 ·simp[go_sem]
 simp[go_sem];refine aA (jD 0 63 p) rfl rfl ?_
 cases h3:btw 0 63 p
 ·simp[go_sem]
 by_cases h4:l.length=60
 ·have h4':(l.length:Int)=60:=ω;simp[go_sem,h4,h4']
 have h4':¬(l.length:Int)=60:=ω;simp[go_sem,h4,h4'];refine aA (aCy y.l (EnG.mk t k p d s (bV d s) 0#64)) rfl rfl ?_;simp[go_sem];have hrow:∀j,j<7->[SV.i t,SV.i k,SV.i p,SV.w d,SV.w s,SV.w (bV d s),SV.w (EnG.lnk y.l {t:=t,k:=k,p:=p,d:=d,a:=s,s:=bV d s,l:=0#64})][0*7+j]?.getD (SV.r RV.any)=.r ((wrX l t k p d s).f j):=by
  intro j hj;unfold wrX;rw[hy];rcases lt7 hj with rfl | rfl | rfl | rfl | rfl | rfl | rfl <;> rfl
 refine aP (t:=(.take 0 (.take 2 (.alt 1 [2,0] (.alt 3 [2] (.alt 4 [] (.take 5 (.take 6 (.done [6,5]))) .nil) .nil) (.alt 3 [2,0] (.alt 1 [0] (.alt 4 [] (.take 5 (.take 6 (.done [6,5]))) .nil) .nil) .nil))))) aD κ κ κ (λ_ _ _ _ h=>h) ?_;simp[go_sem];refine⟨?_,?_⟩
 ·refine aF [] (yS l.length ω _) τ rfl trivial ?_;simp[go_sem];exact⟨⟨ω,ω⟩,aBg λj hj=>hrow j hj⟩
 ·refine aF [] (yS l.length ω _) τ rfl trivial ?_;simp[go_sem];exact⟨⟨ω,ω⟩,aBg λj hj=>hrow j hj⟩
def EnG.er (x:EnG) (p:Int):EnG:=if x.p=p then {x with p:=-1,d:=0#64,a:=0#64} else x
def erL (l:List EnG) (p:Int):List EnG:=l.map λx=>x.er p
def erN (l:List EnG) (p:Int):Nat:=(l.filter λx=>decide (x.p=p)).length
def erR (get:Nat->Nat->RV) (row:Nat):Nat->Nat->RV:=λi j=>if i=row then (if j=2 then .i (-1) else if j=3 then .w 0#64 else if j=4 then .w 0#64 else get i j) else get i j
theorem bFj (n row:Nat) (hrow:row<n) (get:Nat->Nat->RV) (a m:Int) (h0:0<=m) (hm:m<1000000):OwnS Tryz.prog 2 417 [.vec 73 7 n λi j=>.r (get i j),.box [.i m]] [.i a,.ptr 0 row 7 0,.ptr 1 0 1 0] (.tup [])
 [.vec 73 7 n λi j=>.r (erR get row i j),.box [.i (m+1)]]:=by
 refine bE aD Tryz.func417 rfl κ ν rfl rfl 2 (Nat.le_refl _) ?_;simp[go_sem,hrow];refine⟨⟨ω,ω⟩,[0,1],⟨rfl,rfl,trivial⟩,τ,λN=>⟨ζ,?_⟩⟩;simp[go_sem];intro i j hi hj;unfold erR;by_cases hr:i=row
 ·subst hr;rcases lt7 hj with rfl | rfl | rfl | rfl | rfl | rfl | rfl <;> simp
 ·simp[hr]
def erK (l:List EnG) (p:Int) (k:Nat):Nat->Nat->RV:=λi j=>if i<k then bA EnG.f (erL l p) i j else bA EnG.f l i j
def erC (l:List EnG) (p:Int) (k:Nat):Nat:=erN (l.take k) p
theorem aPr (l:List EnG) (p:Int) (k:Nat):erC l p k<=l.length:=by
 unfold erC erN;exact Nat.le_trans (List.length_filter_le _ _) ι
theorem xR {l:List EnG} {p:Int} {k:Nat} (hk:k<l.length):erC l p (k+1)=erC l p k+if l[k].p=p then 1 else 0:=by
 unfold erC erN;rw[List.take_succ_eq_append_getElem hk,List.filter_append,List.length_append];by_cases h:l[k].p=p <;> simp[h]
theorem aLz {l:List EnG} {p:Int} {k:Nat} (hk:k<l.length) (j:Nat):bA EnG.f (erL l p) k j=(l[k].er p).f j:=by
 have hk':k<(erL l p).length:=by simpa [erL] using hk
 rw[aJ hk'];simp[erL]
theorem aK9 {l:List EnG} {p:Int} {k:Nat} (hk:k<l.length) (hp:l[k].p=p):erR (erK l p k) k=erK l p (k+1):=by
 funext i j;unfold erR erK;by_cases hi:i=k
 ·subst hi;rw[if_pos rfl,if_neg (Nat.lt_irrefl i),if_pos (Nat.lt_succ_self i),aLz hk,aJ hk];unfold EnG.er;rw[if_pos hp];rcases j with _ | _ | _ | _ | _ | _ | j <;> rfl
 ·rw[if_neg hi];by_cases h:i<k
  ·rw[if_pos h,if_pos ω]
  ·rw[if_neg h,if_neg ω]
theorem aO7 {l:List EnG} {p:Int} {k:Nat} (hk:k<l.length) (hp:¬l[k].p=p):erK l p k=erK l p (k+1):=by
 funext i j;unfold erK;by_cases hi:i=k
 ·subst hi;rw[if_neg (Nat.lt_irrefl i),if_pos (Nat.lt_succ_self i),aLz hk,aJ hk];unfold EnG.er;rw[if_neg hp]
 ·by_cases h:i<k
  ·rw[if_pos h,if_pos ω]
  ·rw[if_neg h,if_neg ω]
theorem aS6 (l:List EnG) (hn:l.length<1000000) (p:Int):OwnS Tryz.prog 2 132 [.vec 73 7 l.length λi j=>.r (bA EnG.f l i j),.box [.i 0]] [.sl 0 7 0 l.length none,.i p,.fn (.func 417) [] [.ptr 1 0 1 0]] (.tup [])
 [.vec 73 7 l.length λi j=>.r (bA EnG.f (erL l p) i j),.box [.i (erN l p)]]:=by
 refine bE aD Tryz.func132 rfl κ ν rfl rfl 2 (Nat.le_refl _) ?_;simp[go_sem];refine aH aD (α:=Nat) (λk=>[(0,.sl 0 7 0 l.length none),(1,.i p),(2,.fn (.func 417) [] [.ptr 1 0 1 0]),(8,.i l.length),(9,.i k)]) (λk=>[some (.vec 73 7 l.length λi j=>.r (erK l p k i j)),some (.box [.i (erC l p k)])]) 2
  (λk=>k<=l.length) (λk=>l.length - k) 0 (λ_=>rfl) τ ζ (by simp[go_sem,erK,erC,erN]) ?_
 intro k J hk;by_cases hlt:k<l.length;rotate_left
 ·have:k=l.length:=ω;subst this;simp[go_sem];refine⟨[0,1],⟨rfl,rfl,trivial⟩,τ,λN=>⟨ζ,?_⟩⟩;simp[go_sem,erC];intro i j hi hj;unfold erK;rw[if_pos hi]
 have hr:=aJ (f:=EnG.f) hlt;have hle:=aPr l p k;have hs:=xR (p:=p) hlt;have h2:erK l p k k 2=.i l[k].p:=by unfold erK;rw[if_neg (Nat.lt_irrefl k),hr];rfl
 by_cases hp:l[k].p=p
 ·rw[if_pos hp] at hs;simp[go_sem,hlt,h2,hp];refine aR [0,1] (bFj l.length k hlt (erK l p k) k (erC l p k) ω ω) (Nat.le_refl _) τ rfl ⟨rfl,rfl,trivial⟩ ?_;simp[go_sem];exact⟨⟨ω,ω⟩,k+1,ω,ω,ω,by rw[aK9 hlt hp],ω⟩
 ·rw[if_neg hp,Nat.add_zero] at hs;simp[go_sem,hlt,h2,hp];exact⟨⟨ω,ω⟩,k+1,ω,ω,ω,by rw[aO7 hlt hp],ω⟩
theorem aSb (l:List EnG) (hn:l.length<1000000) (p:Int):Pure Tryz.prog 330 [tL l,.i p] (· =.tup [tL (if knE l p=0 then erL l p else []),.i (if knE l p=0 then erN l p else 0),.i (knE l p)]):=by
 refine Pure.ofSub ?_;refine π Tryz.func330 ?_;simp[go_sem];refine aA (aRe l hn p) rfl rfl ?_;by_cases hk:knE l p=0;rotate_left
 ·simp[go_sem,hk]
 simp[go_sem,hk];refine aF [] (yS l.length ω _) τ rfl trivial ?_;simp[go_sem];refine aR [0,1] (aS6 l hn p) (Nat.le_refl _) τ rfl ⟨rfl,rfl,trivial⟩ ?_;simp[go_sem];refine aE aD κ κ ?_;simp[go_sem];simp[erL]
end Go.Gx.Sr
namespace Go.Gx.Ix
open Go.RowKit
def GBd (nw:FuncId->Bool) (P:Program) (T:Tab) (N:dW) (op:BinOp) (t:TypeId) (x y:SV) (d:Option Tmp) (all:Array Oper) (rest fin:List Oper) (k:List It) (Q:GQ) (E:Env) (M:Mem) (nx:Nat):Prop:=
 xH nw P T N (lH T op t x y) d all rest fin k Q E M nx
section
variable {nw:FuncId->Bool} {P:Program} {T:Tab} {N:dW} {t:TypeId} {d:Option Tmp} {all:Array Oper} {rest fin:List Oper} {k:List It} {Q:GQ} {E:Env} {M:Mem} {nx:Nat}
@[go_sem high]theorem aYo (ty:TypeId) (pos:String) (af:Array Edge) (op:BinOp) (x y:Operand) (t2:TypeId) :
   jH nw P T N all (⟨d,.binOp op t x y t2,ty,pos,af,none⟩::rest) fin k Q E M nx=(dH N.n d/\bZ nx ((Op.binOp op t x y t2).operands.toList.map (ev E))/\GBd nw P T N op t (ev E x) (ev E y) d all rest fin k Q E M nx):=(rfl)
@[go_sem low]theorem bH0 (op:BinOp) (x y:SV):GBd nw P T N op t x y d all rest fin k Q E M nx=xH nw P T N (lH T op t x y) d all rest fin k Q E M nx:=(rfl)
theorem aS8 {op:BinOp} {x y s:SV} {ob:Prop} (h:nU op x y=.pure ob s):GBd nw P T N op t x y d all rest fin k Q E M nx=(ob/\jH nw P T N all rest fin k Q (aK E d s) M nx):=by
 unfold GBd lH;rw[h];rfl
@[go_sem]theorem bGe (a b:Int):GBd nw P T N .or t (.r (.v (.int .u64 a))) (.r (.v (.int .u64 b))) d all rest fin k Q E M nx=jH nw P T N all rest fin k Q (aK E d (.w (iO (BitVec.ofInt 64 a) (BitVec.ofInt 64 b)))) M nx:=by rw[aS8 (aK1 a b)];simp
@[go_sem]theorem aNp (x:BitVec 64) (kk:IntKind) (b:Int):GBd nw P T N .shl t (.r (.v (.int .u64 x.toNat))) (.r (.v (.int kk b))) d all rest fin k Q E M nx=(0<=b/\jH nw P T N all rest fin k Q (aK E d (.w (bP x b.toNat))) M nx):=aS8 (yI x kk b)
@[go_sem]theorem bFt (kk:IntKind) (b:Int):GBd nw P T N .shl t (.r (.v (.int .u64 1))) (.r (.v (.int kk b))) d all rest fin k Q E M nx=(0<=b/\jH nw P T N all rest fin k Q (aK E d (.w (bP 1#64 b.toNat))) M nx):=aNp 1#64 kk b
end
end Go.Gx.Ix
