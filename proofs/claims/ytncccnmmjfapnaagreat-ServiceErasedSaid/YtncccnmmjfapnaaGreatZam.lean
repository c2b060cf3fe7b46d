/-
  Texts of the walk, merged: Fm Fn Fo Fp Fs Ft Fu Fw Fwo Fx Hb Se Rg Rh Ri Rj Rk Rl Rm Rv Rw Rx Sa Sc.
-/
import Derived.Test.YtncccnmmjfapnaaGreatZal
import Derived.Test.YtncccnmmjfapnaaGreatZae
import Derived.Test.YtncccnmmjfapnaaGreatZak
set_option linter.unusedVariables false
set_option linter.unusedSimpArgs false
set_option maxRecDepth 100000
set_option maxHeartbeats 4000000
namespace Go.Gx
open Go.RowKit Go.Proofs Go.Proofs.YtncccnmmjfapnaaGreat
theorem EG.oc_famR (g:EG) {l:List Nat} {n b D i j k:Nat} (hk:k=l.length) (h:i<n):(g.oc k i j).ren (λr=>((famR l n b)[r]?).getD D)=g.oc b i j:=by
 unfold EG.oc
 split
 ·simp only [SV.ren]
  have:=famR_hi (l:=l) (b:=b) (D:=D) h
  rw[← hk] at this
  rw[this]
 ·rfl
def EG.addG (g:EG) (q:Int):EG:={g with nr:=g.nr+1,r:=λi=>if i<g.nr then g.r i else ⟨q,false⟩}
abbrev nilR:SV:=.agg [nilS,nilS,nilS]
theorem add26 {g:EG} (h:g.Sm) (hv:g.valid=true) {q:Int} (h0:0≤q) (h1:q≤100) (hn:g.nr<24):Own Tryz.prog 326 [] [g.sv,.i q] (.tup [(g.addG q).oS,.i g.nr,.i 0]) (g.addG q).oR:=by
 refine own_of_GC T_ok Tryz.func326 rfl (by kernel_rfl) (nb rfl) rfl rfl ?_
 have hr:=h.nr
 have hl:=h.nl
 have hc:=h.nc
 simp[go_sem]
 refine callK_own [] (open61 h hv) (by simp) rfl trivial ?_
 have q0:¬q<0:=by omega
 have q1:¬100<q:=by omega
 have q2:¬(g.nr:Int)=24:=by omega
 have q4:∀n,n<7→¬(n=2+(g.nc+1+1+1+1+1)):=λn _=>by omega
 have q6:∀n,n<7→¬(2+(g.nc+1+1+1+1+1)=n):=λn _=>by omega
 have q7:(g.nr:Int)≤9223372036854775807:=by omega
 have q5:g.nr+(g.nr+1 - g.nr)=g.nr+1:=by omega
 simp[go_sem,q0,q1,q2,q4,q5,q6,q7]
 refine⟨by omega,?_⟩
 refine GDraw_x (t:=(.take 0 (.take 1 (.take 2 (.take 4 (.take 5 (.take 6 (.take 7 (.alt 3 (.alt 8 (.alt 9 (.alt 10 (.alt 11 (.take 12 (.take 13 .done)) .nil) (.alt 11 (.alt 10 (.take 12 (.take 13 .done)) .nil) .nil)) (.alt 11 (.alt 9 (.alt 10 (.take 12 (.take 13 .done)) .nil) .nil) .nil)) (.alt 11 (.alt 8 (.alt 9 (.alt 10 (.take 12 (.take 13 .done)) .nil) .nil) .nil) .nil)) (.alt 8 (.alt 3 (.alt 9 (.alt 10 (.alt 11 (.take 12 (.take 13 .done)) .nil) (.alt 11 (.alt 10 (.take 12 (.take 13 .done)) .nil) .nil)) (.alt 11 (.alt 9 (.alt 10 (.take 12 (.take 13 .done)) .nil) .nil) .nil)) (.alt 9 (.alt 3 (.alt 10 (.alt 11 (.take 12 (.take 13 .done)) .nil) (.alt 11 (.alt 10 (.take 12 (.take 13 .done)) .nil) .nil)) (.alt 10 (.alt 3 (.alt 11 (.take 12 (.take 13 .done)) .nil) .nil) .nil)) .nil)) .nil)))))))))) T_ok (by kernel_rfl) (by kernel_rfl) (by kernel_rfl) (λ_ _ _ _ h=>h) ?_
 simp[go_sem,q0,q1,q2,q4,q5,q6,q7]
 have q8:∀i,i<g.nc→¬(i+7=2+(g.nc+1+1+1+1+1)):=λi _=>by omega
 refine⟨famR [4,5,6] g.nc 7,famR_nodup (by simp) (by simp),λN=>⟨by simp[go_sem,famR_lo,EG.addG],?_⟩⟩
 refine gexpR_famN (l:=[4,5,6]) (Rs:=[.vec 116 2 (g.addG q).nr λi j=>.r (((g.addG q).r i).c j),.vec 147 3 (g.addG q).nl λi j=>.r (((g.addG q).l i).c j),.vec 150 3 (g.addG q).nc ((g.addG q).oc 3)]) ?_ λi hi=>?_
 ·simp[go_sem,famR_lo,q4,q6,EG.addG]
  refine⟨λi j hi hj=>?_,λi j hi hj=>?_⟩
  ·by_cases e:i<g.nr
   ·simp[joined,e,SV.kill]
   ·have e2:i=g.nr:=by omega
    subst e2
    rcases(by omega:j=0∨j=1) with rfl | rfl <;> simp[joined,SV.kill,go_sem]
  ·rw[g.oc_kill (by omega)]
   exact(g.oc_famR rfl hi).symm
 ·simp[go_sem,hi,q8 i hi,EG.addG]
theorem add_bad {g:EG} (h:g.OK) (hv:g.valid=false) (q:Int):Own Tryz.prog 326 [] [g.sv,.i q] (.tup [nilR,.i 0,.i 8]) []:=by
 refine own_of_GC T_ok Tryz.func326 rfl (by kernel_rfl) (nb rfl) rfl rfl ?_
 simp[go_sem]
 refine callK_own [] (open_bad h hv) (by simp) rfl trivial ?_
 simp[go_sem]
 exact⟨[],by simp,λN=>⟨by simp[go_sem],trivial⟩⟩
theorem add_range {g:EG} (h:g.Sm) (hv:g.valid=true) {q:Int} (h0:¬(0≤q∧q≤100)):Own Tryz.prog 326 [] [g.sv,.i q] (.tup [nilR,.i 0,.i 2]) []:=by
 refine own_of_GC T_ok Tryz.func326 rfl (by kernel_rfl) (nb rfl) rfl rfl ?_
 simp[go_sem]
 refine callK_own [] (open61 h hv) (by simp) rfl trivial ?_
 have q4:∀n,n<7→¬(n=2+(g.nc+1+1+1+1+1)):=λn _=>by omega
 by_cases q0:q<0
 ·simp[go_sem,q0,q4]
  exact⟨[],by simp,λN=>⟨by simp[go_sem],trivial⟩⟩
 ·have q1:100<q:=by omega
  simp[go_sem,q0,q1,q4]
  exact⟨[],by simp,λN=>⟨by simp[go_sem],trivial⟩⟩
theorem add_full {g:EG} (h:g.Sm) (hv:g.valid=true) {q:Int} (h0:0≤q∧q≤100) (hn:g.nr=24):Own Tryz.prog 326 [] [g.sv,.i q] (.tup [nilR,.i 0,.i 9]) []:=by
 refine own_of_GC T_ok Tryz.func326 rfl (by kernel_rfl) (nb rfl) rfl rfl ?_
 simp[go_sem]
 refine callK_own [] (open61 h hv) (by simp) rfl trivial ?_
 have q0:¬q<0:=by omega
 have q1:¬100<q:=by omega
 have q2:(g.nr:Int)=24:=by omega
 simp[go_sem,q0,q1,q2]
 exact⟨[],by simp,λN=>⟨by simp[go_sem],trivial⟩⟩
def EG.lp (g:EG) (a:Int) (i:Nat):Bool:=decide ((g.l i).a=a)||decide ((g.l i).b=a)
def EG.cp (g:EG) (a:Int) (i:Nat):Bool:=decide ((g.c i).a=a)||decide ((g.c i).b=a)
def EG.remG (g:EG) (a:Nat):EG:=⟨g.nr,λi=>if i=a then ⟨0,true⟩ else g.r i,(kept (g.lp a) g.nl).length,λi=>g.l ((kept (g.lp a) g.nl)[i]?.getD 0),(kept (g.cp a) g.nc).length,λi=>g.c ((kept (g.cp a) g.nc)[i]?.getD 0)⟩
abbrev abox (a:Int):RV:=.rp 1 1 (gbox [.i a]) 0 0
theorem cl65 (x:LkG) (a:Int):Pure Tryz.prog 414 [.agg [.r (x.c 0),.r (x.c 1),.r (x.c 2)],.r (abox a)] (· =.b (decide (x.a=a)||decide (x.b=a))):=by
 refine pure_of_GC T_ok Tryz.func414 rfl (by kernel_rfl) (nb rfl) rfl rfl ?_
 by_cases h1:x.a=a
 ·simp[go_sem,h1,gbox]
 ·by_cases h2:x.b=a
  ·simp[go_sem,h1,h2,gbox]
  ·simp[go_sem,h1,h2,gbox]
theorem cl67 (x y a:Int) (v:Value) (hv:v.oneCell'=true):Pure Tryz.prog 416 [.agg [.i x,.i y,.r (.v v)],.r (abox a)] (· =.b (decide (x=a)||decide (y=a))):=by
 refine pure_of_GC T_ok Tryz.func416 rfl (by kernel_rfl) (nb rfl) rfl rfl ?_
 by_cases h1:x=a
 ·simp[go_sem,h1,gbox,hv]
 ·by_cases h2:y=a
  ·simp[go_sem,h1,h2,gbox,hv]
  ·simp[go_sem,h1,h2,gbox,hv]
theorem remove_bad {g:EG} (h:g.OK) (hv:g.valid=false) (a:Int):Own Tryz.prog 329 [] [g.sv,.i a] (.tup [nilR,.i 8]) []:=by
 refine own_of_GC T_ok Tryz.func329 rfl (by kernel_rfl) (nb rfl) rfl rfl ?_
 simp[go_sem]
 refine callK_own [] (open_bad h hv) (by simp) rfl trivial ?_
 simp[go_sem]
 exact⟨[],by simp,λN=>⟨by simp[go_sem],trivial⟩⟩
theorem remove_no {g:EG} (h:g.Sm) (hv:g.valid=true) {a:Int} (ha:g.th a=false):Own Tryz.prog 329 [] [g.sv,.i a] (.tup [nilR,.i 6]) []:=by
 refine own_of_GC T_ok Tryz.func329 rfl (by kernel_rfl) (nb rfl) rfl rfl ?_
 simp[go_sem]
 refine callK_own [] (open61 h hv) (by simp) rfl trivial ?_
 simp[go_sem]
 refine call_lent (v:=.b (g.th a)) ?_ rfl ?_
 ·simp[go_sem]
  exact there63 g h.ok _ (by simp[go_sem,viewRV]) a
 simp[go_sem,ha]
 exact⟨[],by simp,λN=>⟨by simp[go_sem],trivial⟩⟩
theorem delf66' (n:Nat) (hn:n≤1000000) (c:Nat→Nat→Value) (ho:∀i j,i<n→j<3→(c i j).oneCell'=true) (a:Int) (p:Nat→Bool) (hp:∀i,i<n→Pure Tryz.prog 416 [.agg [.r (.v (c i 0)),.r (.v (c i 1)),.r (.v (c i 2))],.r (abox a)] (· =.b (p i))) :
 Own Tryz.prog 415 [.vec 150 3 n λi j=>.r (.v (c i j))] [.sl 0 3 0 n none,.fn (.func 416) [] [.r (abox a)]] (.sl 0 3 0 (kept p n).length none) [.vec 150 3 (kept p n).length λi j=>.r (.v (c ((kept p n)[i]?.getD 0) j))]:=by
 refine OwnS.less (delf66 n hn (λi j=>.v (c i j)) 416 (abox a) p (λi j hi hj=>by simp[SV.one,ho i j hi hj]) hp) rfl λr=>?_
 match r with
 | 0=>
   refine⟨rfl,rfl,Nat.le_refl _,λi j hi hj=>?_⟩
   show SV.r (rowsL _ _ i j)=.r (.v _)
   rw[rowsL_get (List.getElem?_eq_getElem hi)]
   simp[List.getElem?_eq_getElem hi]
 | r+1=>exact Reg.sub_none _
theorem remCases {g:EG} {a:Int} {M:Mem} {nx q b:Nat} {K:SV→Mem→Nat→(SV→SV)→Prop} (hc:g.nc≤1000000) (hM:M q=some (.vec 150 3 g.nc (g.oc b)))
 (hK:K (.sl nx 3 0 (kept (g.cp a) g.nc).length none) (upd (upd M q none) nx (some (.vec 150 3 (kept (g.cp a) g.nc).length λi j=>g.oc b ((kept (g.cp a) g.nc)[i]?.getD 0) j))) (nx+1) id) :
 CallK Tryz.prog 0 415 [.sl q 3 0 g.nc none,.fn (.func 416) [] [.r (abox a)]] M nx K:=by
 refine callK_opq2 (S:=.sl nx 3 0 (kept (g.cp a) g.nc).length none) (M2:=upd M q none) (q:=nx) (k:=3) (m:=(kept (g.cp a) g.nc).length) (nx':=nx+1) (e':=150) (get':=λi j=>g.oc b ((kept (g.cp a) g.nc)[i]?.getD 0) j) [q] (λr hr=>?_) (λNm hNm M1 hM1=>?_) hK
 ·simp at hr;subst hr;exact⟨_,_,_,_,hM⟩
 obtain⟨c,h7,hcell⟩:=hM1.2 q (by simp) _ _ _ _ hM
 have c0:∀i,i<g.nc→c i 0=.int .i64 (g.c i).a:=λi hi=>(hNm _ _).1 (hcell i 0 hi (by omega)).1
 have c1:∀i,i<g.nc→c i 1=.int .i64 (g.c i).b:=λi hi=>(hNm _ _).1 (hcell i 1 hi (by omega)).1
 refine callK_own [q] (delf66' g.nc hc c (λi j hi hj=>(hcell i j hi hj).2) a (g.cp a) λi hi=>?_) (by simp) rfl ⟨h7,trivial⟩ ⟨rfl,rfl,rfl,λi j=>c ((kept (g.cp a) g.nc)[i]?.getD 0) j,λi j hi hj=>?_,?_⟩
 ·rw[c0 i hi,c1 i hi]
  exact cl67 _ _ a _ (hcell i 2 hi (by omega)).2
 ·have hm:(kept (g.cp a) g.nc)[i]?.getD 0<g.nc:=by
   rw[List.getElem?_eq_getElem hi]
   exact List.mem_range.1 (List.mem_filter.1 (List.getElem_mem hi)).1
  exact(hcell _ j hm hj).1
 ·funext r
  simp only [addS,dropM,upd_app]
  by_cases h1:r=nx
  ·simp[h1,Reg.ren,SV.ren]
  ·by_cases h2:r=q
   ·subst h2
    simp[h1]
   ·simp[h1,h2,hM1.1 r (by simpa using h2)]
theorem EG.oc_fz (g:EG) {b i j ref:Nat} {R:Reg} (h:¬i+b=ref):(g.oc b i j).fz ref R=g.oc b i j:=by
 unfold EG.oc
 split
 ·simp[SV.fz,h]
 ·rfl
theorem kept_mem {p:Nat→Bool} {n i:Nat} (hi:i<(kept p n).length):(kept p n)[i]?.getD 0<n:=by
 rw[List.getElem?_eq_getElem hi]
 exact List.mem_range.1 (List.mem_filter.1 (List.getElem_mem hi)).1
theorem kept_inj {p:Nat→Bool} {n i j:Nat} (hi:i<(kept p n).length) (hj:j<(kept p n).length) (h:(kept p n)[i]?.getD 0=(kept p n)[j]?.getD 0):i=j:=by
 rw[List.getElem?_eq_getElem hi,List.getElem?_eq_getElem hj] at h
 have hn:(kept p n).Nodup:=List.Pairwise.filter _ List.nodup_range
 exact(List.getElem_inj hn).1 h
theorem remove28 {g:EG} (h:g.Sm) (hv:g.valid=true) {a:Nat} (ha:g.th a=true):Own Tryz.prog 329 [] [g.sv,.i a] (.tup [(g.remG a).oS,.i 0]) (g.remG a).oR:=by
 refine own_of_GC T_ok Tryz.func329 rfl (by kernel_rfl) (nb rfl) rfl rfl ?_
 have hr:=h.nr
 have hl:=h.nl
 have hc:=h.nc
 simp[go_sem]
 refine callK_own [] (open61 h hv) (by simp) rfl trivial ?_
 simp[go_sem]
 refine call_lent (v:=.b (g.th a)) ?_ rfl ?_
 ·simp[go_sem]
  exact there63 g h.ok _ (by simp[go_sem,viewRV]) a
 have hk:a<g.nr:=by simp[EG.th,btw] at ha;omega
 simp[go_sem,ha,hk]
 refine GDraw_of T_ok (by kernel_rfl) 7 (by kernel_rfl) rfl rfl ?_
 simp[go_sem,hk]
 refine⟨by omega,callK_freeze 1 (R:=.box [.i a]) (by simp[go_sem]) ?_⟩
 simp[go_sem,hk]
 refine callK_own [6] (delf64 g.nl (by omega) (λi j=>(g.l i).c j) 414 (abox a) (g.lp a) (λi j hi hj=>?_) λi hi=>cl65 (g.l i) a) (by simp) rfl ⟨rfl,trivial⟩ ?_
 ·rcases(by omega:j=0∨j=1∨j=2) with rfl | rfl | rfl <;> rfl
 simp[go_sem,hk]
 have q4:∀n,n<8→¬(n=3+(g.nc+1+1+1+1+1)):=λn _=>by omega
 have q6:∀n,n<8→¬(3+(g.nc+1+1+1+1+1)=n):=λn _=>by omega
 have q7:∀n,n<8→¬(n=3+(g.nc+1+1+1+1+1)+1):=λn _=>by omega
 have q8:∀n,n<8→¬(3+(g.nc+1+1+1+1+1)+1=n):=λn _=>by omega
 have e1:∀i j,SV.fz 1 (Reg.box [SV.i a]) (g.oc 8 i j)=g.oc 8 i j:=λi j=>g.oc_fz (by omega)
 refine remCases (by omega) (b:=8) (by simp[go_sem,q4,e1]) ?_
 simp[go_sem,hk,q4,q6,q7,q8]
 have hX:3+(g.nc+1+1+1+1+1)=g.nc+8:=by omega
 refine⟨[5,3+(g.nc+1+1+1+1+1),3+(g.nc+1+1+1+1+1)+1]++(List.range (kept (g.cp a) g.nc).length).map (λi=>(kept (g.cp a) g.nc)[i]?.getD 0+8),nodup_fam (by simp;omega) (λi j hi hj h=>kept_inj hi hj (by omega)) (λx hx i hi=>?_),λN=>⟨by simp[go_sem,EG.remG],?_⟩⟩
 ·have:=kept_mem hi
  simp at hx
  omega
 refine gexpR_fam (Rs:=[.vec 116 2 (g.remG a).nr λi j=>.r (((g.remG a).r i).c j),.vec 147 3 (g.remG a).nl λi j=>.r (((g.remG a).l i).c j),.vec 150 3 (g.remG a).nc ((g.remG a).oc 3)]) (n:=(kept (g.cp a) g.nc).length) (f:=(g.remG a).ov) ?_ λi hi=>?_
 ·simp[go_sem,q4,q6,q7,q8,EG.remG]
  refine⟨λi j hi hj=>?_,λi j hi hj=>?_,λi j hi hj=>?_⟩
  ·by_cases e:i=a
   ·subst e
    rcases(by omega:j=0∨j=1) with rfl | rfl <;> simp[go_sem]
   ·simp[e,SV.fz]
  ·rw[rowsL_get (List.getElem?_eq_getElem hi),List.getElem?_eq_getElem hi]
   rfl
  ·simp only [EG.oc]
   split
   ·simp[SV.ren,hi]
   ·simp[SV.ren]
 ·have hm:=kept_mem hi
  have f1:¬(kept (g.cp a) g.nc)[i]?.getD 0+8=3+(g.nc+1+1+1+1+1):=by omega
  have f2:¬(kept (g.cp a) g.nc)[i]?.getD 0+8=3+(g.nc+1+1+1+1+1)+1:=by omega
  simp[go_sem,hm,f1,f2,EG.remG]
def insR (get one:Nat→Nat→RV) (i:Nat):Nat→Nat→RV:=λr c=>if r<i then get r c else if r=i then one 0 c else get (r - 1) c
theorem insert79 (n i:Nat) (hn:n≤1000000) (hi:i≤n) (get one:Nat→Nat→RV) :
 Own Tryz.prog 406 [.vec 150 3 n λr c=>.r (get r c),.vec 150 3 1 λr c=>.r (one r c)] [.sl 0 3 0 n none,.i i,.sl 1 3 0 1 none] (.sl 0 3 0 (n+1) none) [.vec 150 3 (n+1) λr c=>.r (insR get one i r c)]:=by
 refine own_of_GC T_ok Tryz.func406 rfl (by kernel_rfl) (nb rfl) rfl rfl ?_
 simp[go_sem]
 refine⟨hi,?_⟩
 by_cases hin:i=n
 ·subst hin
  rw[if_pos rfl]
  refine⟨by omega,[0],by simp,λN=>⟨?_,?_⟩⟩
  ·simp[go_sem]
  ·simp[go_sem]
   intro r c hr hc
   unfold joined insR
   by_cases h:r<i
   ·rw[if_pos h,if_pos h];rfl
   ·rw[if_neg h,if_pos hr,if_neg h,if_pos (by omega),show r - i=0 from by omega];rfl
 rw[if_neg (by omega)]
 refine⟨by omega,?_⟩
 refine GOp_cap T_ok (ref:=0) (kk:=3) (n:=n) (by simp[go_sem]) (M:=memR _) rfl rfl (by simp[dOK]) ?_
 intro C hC _ hC2
 simp only [maxLen] at hC2
 by_cases hc:C<n+1
 ·have hc':(C:Int)<(n:Int)+1:=by omega
  left
  simp[go_sem,hc',hi]
  refine⟨by omega,by omega,⟨by omega,by omega,by omega⟩,by omega,?_⟩
  refine GDraw_of T_ok (by kernel_rfl) 8 (by kernel_rfl) rfl rfl ?_
  simp[go_sem,hi]
  have e1:i+(n+1 - i)=n+1:=by omega
  refine⟨by omega,⟨by omega,by omega⟩,by omega,[2],by simp,λN=>⟨?_,?_⟩⟩
  ·simp[go_sem,e1]
  ·simp[go_sem]
   refine⟨by omega,λr c hr hc=>?_⟩
   unfold insR joined
   repeat' split
   all_goals first | (exfalso;omega) | rfl | exact congrArg SV.r (congrFun (congrArg get (by omega)) _) | exact congrArg SV.r (congrFun (congrArg one (by omega)) _)
 ·have hc':¬(C:Int)<(n:Int)+1:=by omega
  have hn1:¬(n:Int)+1≤(n:Int):=by omega
  right
  simp[go_sem,hc',hi,hn1]
  refine⟨by omega,⟨by omega,by omega⟩,by omega,by omega,?_⟩
  refine callK_apart T_ok Tryz.func440 (by kernel_rfl) (by kernel_rfl) (by kernel_rfl) (tS:=29) (tR:=4) (by kernel_rfl) (el:=150) rfl rfl (q:=1) (r:=0) (hq:=rfl) (hr:=rfl) (by decide) (by omega) (by omega) (by omega) ?_
  simp[go_sem,hi,hc']
  refine GDraw_of T_ok (by kernel_rfl) 8 (by kernel_rfl) rfl rfl ?_
  simp[go_sem,hi]
  refine⟨by omega,by omega,by omega,⟨by omega,by omega⟩,by omega,by omega,[0],by simp,λN=>⟨?_,?_⟩⟩
  ·simp[go_sem]
  ·simp[go_sem]
   refine⟨by omega,λr c hr hc=>?_⟩
   unfold insR
   repeat' split
   all_goals first | (exfalso;omega) | rfl | exact congrArg SV.r (congrFun (congrArg get (by omega)) _) | exact congrArg SV.r (congrFun (congrArg one (by omega)) _)
theorem insert85 (n i:Nat) (hn:n≤1000000) (hi:i≤n) (get one:Nat→Nat→RV) :
 Own Tryz.prog 411 [.vec 147 3 n λr c=>.r (get r c),.vec 147 3 1 λr c=>.r (one r c)] [.sl 0 3 0 n none,.i i,.sl 1 3 0 1 none] (.sl 0 3 0 (n+1) none) [.vec 147 3 (n+1) λr c=>.r (insR get one i r c)]:=by
 refine own_of_GC T_ok Tryz.func411 rfl (by kernel_rfl) (nb rfl) rfl rfl ?_
 simp[go_sem]
 refine⟨hi,?_⟩
 by_cases hin:i=n
 ·subst hin
  rw[if_pos rfl]
  refine⟨by omega,[0],by simp,λN=>⟨?_,?_⟩⟩
  ·simp[go_sem]
  ·simp[go_sem]
   intro r c hr hc
   unfold joined insR
   by_cases h:r<i
   ·rw[if_pos h,if_pos h];rfl
   ·rw[if_neg h,if_pos hr,if_neg h,if_pos (by omega),show r - i=0 from by omega];rfl
 rw[if_neg (by omega)]
 refine⟨by omega,?_⟩
 refine GOp_cap T_ok (ref:=0) (kk:=3) (n:=n) (by simp[go_sem]) (M:=memR _) rfl rfl (by simp[dOK]) ?_
 intro C hC _ hC2
 simp only [maxLen] at hC2
 by_cases hc:C<n+1
 ·have hc':(C:Int)<(n:Int)+1:=by omega
  left
  simp[go_sem,hc',hi]
  refine⟨by omega,by omega,⟨by omega,by omega,by omega⟩,by omega,?_⟩
  refine GDraw_of T_ok (by kernel_rfl) 8 (by kernel_rfl) rfl rfl ?_
  simp[go_sem,hi]
  have e1:i+(n+1 - i)=n+1:=by omega
  refine⟨by omega,⟨by omega,by omega⟩,by omega,[2],by simp,λN=>⟨?_,?_⟩⟩
  ·simp[go_sem,e1]
  ·simp[go_sem]
   refine⟨by omega,λr c hr hc=>?_⟩
   unfold insR joined
   repeat' split
   all_goals first | (exfalso;omega) | rfl | exact congrArg SV.r (congrFun (congrArg get (by omega)) _) | exact congrArg SV.r (congrFun (congrArg one (by omega)) _)
 ·have hc':¬(C:Int)<(n:Int)+1:=by omega
  have hn1:¬(n:Int)+1≤(n:Int):=by omega
  right
  simp[go_sem,hc',hi,hn1]
  refine⟨by omega,⟨by omega,by omega⟩,by omega,by omega,?_⟩
  refine callK_apart T_ok Tryz.func443 (by kernel_rfl) (by kernel_rfl) (by kernel_rfl) (tS:=28) (tR:=4) (by kernel_rfl) (el:=147) rfl rfl (q:=1) (r:=0) (hq:=rfl) (hr:=rfl) (by decide) (by omega) (by omega) (by omega) ?_
  simp[go_sem,hi,hc']
  refine GDraw_of T_ok (by kernel_rfl) 8 (by kernel_rfl) rfl rfl ?_
  simp[go_sem,hi]
  refine⟨by omega,by omega,by omega,⟨by omega,by omega⟩,by omega,by omega,[0],by simp,λN=>⟨?_,?_⟩⟩
  ·simp[go_sem]
  ·simp[go_sem]
   refine⟨by omega,λr c hr hc=>?_⟩
   unfold insR
   repeat' split
   all_goals first | (exfalso;omega) | rfl | exact congrArg SV.r (congrFun (congrArg get (by omega)) _) | exact congrArg SV.r (congrFun (congrArg one (by omega)) _)
theorem delete84 (n i:Nat) (hn:n≤1000000) (hi:i<n) (get:Nat→Nat→RV) :
 Own Tryz.prog 410 [.vec 150 3 n λr c=>.r (get r c)] [.sl 0 3 0 n none,.i i,.i ((i:Int)+1)] (.sl 0 3 0 (n - 1) none) [.vec 150 3 (n - 1) λr c=>.r (if r<i then get r c else get (r+1) c)]:=by
 refine own_of_GC T_ok Tryz.func410 rfl (by kernel_rfl) (nb rfl) rfl rfl ?_
 simp[go_sem]
 refine⟨by omega,?_⟩
 split
 ·omega
 refine GDraw_of T_ok (by kernel_rfl) 6 (by kernel_rfl) rfl rfl ?_
 simp[go_sem]
 have e1:i+(n - (i+1))=n - 1:=by omega
 refine⟨by omega,⟨by omega,by omega⟩,⟨by omega,by omega,by omega,by omega⟩,⟨by omega,by omega,by omega⟩,by omega,[0],by simp,λN=>⟨?_,?_⟩⟩
 ·simp[go_sem,e1]
 ·simp[go_sem]
  refine⟨by omega,λr c hr hc=>?_⟩
  rw[if_neg (by omega)]
  unfold joined
  by_cases h:r<i
  ·simp[h,SV.kill]
  ·rw[if_neg h,if_pos (by omega),if_neg h]
   show SV.r (get (i+1+(r - i)) c)=_
   rw[show i+1+(r - i)=r+1 from by omega]
theorem delete93 (n i:Nat) (hn:n≤1000000) (hi:i<n) (get:Nat→Nat→RV) :
 Own Tryz.prog 412 [.vec 147 3 n λr c=>.r (get r c)] [.sl 0 3 0 n none,.i i,.i ((i:Int)+1)] (.sl 0 3 0 (n - 1) none) [.vec 147 3 (n - 1) λr c=>.r (if r<i then get r c else get (r+1) c)]:=by
 refine own_of_GC T_ok Tryz.func412 rfl (by kernel_rfl) (nb rfl) rfl rfl ?_
 simp[go_sem]
 refine⟨by omega,?_⟩
 split
 ·omega
 refine GDraw_of T_ok (by kernel_rfl) 6 (by kernel_rfl) rfl rfl ?_
 simp[go_sem]
 have e1:i+(n - (i+1))=n - 1:=by omega
 refine⟨by omega,⟨by omega,by omega⟩,⟨by omega,by omega,by omega,by omega⟩,⟨by omega,by omega,by omega⟩,by omega,[0],by simp,λN=>⟨?_,?_⟩⟩
 ·simp[go_sem,e1]
 ·simp[go_sem]
  refine⟨by omega,λr c hr hc=>?_⟩
  rw[if_neg (by omega)]
  unfold joined
  by_cases h:r<i
  ·simp[h,SV.kill]
  ·rw[if_neg h,if_pos (by omega),if_neg h]
   show SV.r (get (i+1+(r - i)) c)=_
   rw[show i+1+(r - i)=r+1 from by omega]
theorem delCaseK {i n:Nat} {M:Mem} {nx q:Nat} {cs:Nat→Nat→SV} {K:SV→Mem→Nat→(SV→SV)→Prop} (hn:n≤1000000) (hi:i<n) (hM:M q=some (.vec 150 3 n cs))
 (hK:K (.sl nx 3 0 (n - 1) none) (upd (upd M q none) nx (some (.vec 150 3 (n - 1) λr c=>if r<i then cs r c else cs (r+1) c))) (nx+1) id) :
 CallK Tryz.prog 0 410 [.sl q 3 0 n none,.i i,.i ((i:Int)+1)] M nx K:=by
 refine callK_opq2 (S:=.sl nx 3 0 (n - 1) none) (M2:=upd M q none) (q:=nx) (k:=3) (m:=n - 1) (nx':=nx+1) (e':=150) (get':=λr c=>if r<i then cs r c else cs (r+1) c) [q] (λr hr=>?_) (λNm hNm M1 hM1=>?_) hK
 ·simp at hr;subst hr;exact⟨_,_,_,_,hM⟩
 obtain⟨c,h7,hcell⟩:=hM1.2 q (by simp) _ _ _ _ hM
 refine callK_own [q] (delete84 n i hn hi λr j=>.v (c r j)) (by simp) rfl ⟨h7,trivial⟩ ⟨rfl,rfl,rfl,λr j=>if r<i then c r j else c (r+1) j,λr j hr hj=>?_,?_⟩
 ·by_cases h:r<i
  ·simp only [h,if_true];exact(hcell r j (by omega) hj).1
  ·simp only [h,if_false];exact(hcell (r+1) j (by omega) hj).1
 ·funext r
  simp only [addS,dropM,upd_app]
  by_cases h1:r=nx
  ·simp only [h1,Nat.add_zero,if_true,Reg.ren,SV.ren]
   congr 2
   funext a b
   by_cases h:a<i <;> simp[h]
  ·by_cases h2:r=q
   ·subst h2
    simp[h1]
   ·simp[h1,h2,hM1.1 r (by simpa using h2)]
theorem insCaseK {i n:Nat} {M:Mem} {nx q p:Nat} {cs one:Nat→Nat→SV} {K:SV→Mem→Nat→(SV→SV)→Prop} (hn:n≤1000000) (hi:i≤n) (hqp:q≠p) (hM:M q=some (.vec 150 3 n cs)) (hM2:M p=some (.vec 150 3 1 one))
 (hK:K (.sl nx 3 0 (n+1) none) (upd (upd (upd M q none) p none) nx (some (.vec 150 3 (n+1) λr c=>if r<i then cs r c else if r=i then one 0 c else cs (r - 1) c))) (nx+1) id) :
 CallK Tryz.prog 0 406 [.sl q 3 0 n none,.i i,.sl p 3 0 1 none] M nx K:=by
 refine callK_opq2 (S:=.sl nx 3 0 (n+1) none) (M2:=upd (upd M q none) p none) (q:=nx) (k:=3) (m:=n+1) (nx':=nx+1) (e':=150) (get':=λr c=>if r<i then cs r c else if r=i then one 0 c else cs (r - 1) c) [q,p] (λr hr=>?_) (λNm hNm M1 hM1=>?_) hK
 ·simp at hr
  rcases hr with rfl | rfl
  ·exact⟨_,_,_,_,hM⟩
  ·exact⟨_,_,_,_,hM2⟩
 obtain⟨c,h7,hcell⟩:=hM1.2 q (by simp) _ _ _ _ hM
 obtain⟨d,h8,hdell⟩:=hM1.2 p (by simp) _ _ _ _ hM2
 refine callK_own [q,p] (insert79 n i hn hi (λr j=>.v (c r j)) λr j=>.v (d r j)) (by simpa using hqp) rfl ⟨h7,h8,trivial⟩ ⟨rfl,rfl,rfl,λr j=>if r<i then c r j else if r=i then d 0 j else c (r - 1) j,λr j hr hj=>?_,?_⟩
 ·by_cases h:r<i
  ·simp only [h,if_true];exact(hcell r j (by omega) hj).1
  ·by_cases h':r=i
   ·simp only [h,h',if_true,if_false,Nat.lt_irrefl];exact(hdell 0 j (by omega) hj).1
   ·simp only [h,h',if_false];exact(hcell (r - 1) j (by omega) hj).1
 ·funext r
  simp only [addS,dropM,upd_app]
  by_cases h1:r=nx
  ·simp only [h1,Nat.add_zero,if_true,Reg.ren,SV.ren]
   congr 2
   funext a b
   unfold insR
   by_cases h:a<i
   ·simp[h]
   ·by_cases h':a=i <;> simp[h,h']
  ·by_cases h2:r=q
   ·subst h2
    simp[h1]
   ·by_cases h3:r=p
    ·subst h3
     simp[h1]
    ·simp[h1,h2,h3,hM1.1 r (by simp[h2,h3])]
def EG.dropL (g:EG) (k:Nat):EG:={g with nl:=g.nl - 1,l:=λi=>if i<k then g.l i else g.l (i+1)}
theorem withdraw_bad {g:EG} (h:g.OK) (hv:g.valid=false) (a b:Int):Own Tryz.prog 328 [] [g.sv,.i a,.i b] (.tup [nilR,.i 8]) []:=by
 refine own_of_GC T_ok Tryz.func328 rfl (by kernel_rfl) (nb rfl) rfl rfl ?_
 simp[go_sem]
 refine callK_own [] (open_bad h hv) (by simp) rfl trivial ?_
 simp[go_sem]
 exact⟨[],by simp,λN=>⟨by simp[go_sem],trivial⟩⟩
theorem withdraw37 {g:EG} (h:g.Sm) (hv:g.valid=true) {a b:Int} (hf:g.lin (min a b) (max a b)=true):Own Tryz.prog 328 [] [g.sv,.i a,.i b] (.tup [(g.dropL (g.lat (min a b) (max a b))).oS,.i 0]) (g.dropL (g.lat (min a b) (max a b))).oR:=by
 refine own_of_GC T_ok Tryz.func328 rfl (by kernel_rfl) (nb rfl) rfl rfl ?_
 have hr:=h.nr
 have hl:=h.nl
 have hc:=h.nc
 have hat:=EG.at76 g h.ok (EG.valid_lks hv) (min a b) (max a b)
 have hlt:g.lat (min a b) (max a b)<g.nl:=by simp[EG.lin,fnd] at hf;exact hf.1
 simp[go_sem]
 refine callK_own [] (open61 h hv) (by simp) rfl trivial ?_
 simp[go_sem]
 refine GDraw_all T_ok (by kernel_rfl) (by kernel_rfl) ?_
 simp[go_sem]
 refine⟨_,dcall_val (pairOf75 a b) rfl rfl,?_⟩
 simp[go_sem]
 have q4:∀n,n<7→¬(n=2+(g.nc+1+1+1+1+1)):=λn _=>by omega
 have q6:∀n,n<7→¬(2+(g.nc+1+1+1+1+1)=n):=λn _=>by omega
 have q8:∀i,i<g.nc→¬(i+7=2+(g.nc+1+1+1+1+1)):=λi _=>by omega
 refine⟨by omega,_,dcall_lent (v:=.tup [.i (g.lat (min a b) (max a b)),.b (g.lin (min a b) (max a b))]) ?_ rfl,?_⟩
 ·simp[go_sem]
  exact hat
 simp[go_sem,hf]
 generalize hk:g.lat (min a b) (max a b)=k at hlt
 refine⟨by omega,?_⟩
 refine callK_own [5] (delete93 g.nl k (by omega) hlt λi j=>(g.l i).c j) (by simp) rfl ⟨rfl,trivial⟩ ?_
 simp[go_sem,q4,q6]
 refine⟨famR [4,2+(g.nc+1+1+1+1+1),6] g.nc 7,nodup_fam (by simp[q4,q6]) (λi j _ _ h=>by omega) (λx hx i hi=>by simp at hx;omega),λN=>⟨by simp[go_sem,famR_lo,EG.dropL],?_⟩⟩
 refine gexpR_famN (l:=[4,2+(g.nc+1+1+1+1+1),6]) (Rs:=[.vec 116 2 (g.dropL k).nr λi j=>.r (((g.dropL k).r i).c j),.vec 147 3 (g.dropL k).nl λi j=>.r (((g.dropL k).l i).c j),.vec 150 3 (g.dropL k).nc ((g.dropL k).oc 3)]) ?_ λi hi=>?_
 ·simp[go_sem,famR_lo,q4,q6,EG.dropL]
  refine⟨λi j hi hj=>?_,λi j hi hj=>(g.oc_famR rfl hi).symm⟩
  split <;> rfl
 ·simp[go_sem,hi,q8 i hi,EG.dropL]
theorem withdraw_no {g:EG} (h:g.Sm) (hv:g.valid=true) {a b:Int} (hf:g.lin (min a b) (max a b)=false):Own Tryz.prog 328 [] [g.sv,.i a,.i b] (.tup [nilR,.i 6]) []:=by
 refine own_of_GC T_ok Tryz.func328 rfl (by kernel_rfl) (nb rfl) rfl rfl ?_
 have hr:=h.nr
 have hl:=h.nl
 have hc:=h.nc
 have hat:=EG.at76 g h.ok (EG.valid_lks hv) (min a b) (max a b)
 simp[go_sem]
 refine callK_own [] (open61 h hv) (by simp) rfl trivial ?_
 simp[go_sem]
 refine GDraw_all T_ok (by kernel_rfl) (by kernel_rfl) ?_
 simp[go_sem]
 refine⟨_,dcall_val (pairOf75 a b) rfl rfl,?_⟩
 simp[go_sem]
 refine⟨by omega,_,dcall_lent (v:=.tup [.i (g.lat (min a b) (max a b)),.b (g.lin (min a b) (max a b))]) ?_ rfl,?_⟩
 ·simp[go_sem]
  exact hat
 simp[go_sem,hf]
 exact⟨[],by simp,λN=>⟨by simp[go_sem],trivial⟩⟩
def EG.addC (g:EG) (i:Nat) (x:CsG):EG:={g with nc:=g.nc+1,c:=λj=>if j<i then g.c j else if j=i then x else g.c (j - 1)}
def EG.addL (g:EG) (i:Nat) (x:LkG):EG:={g with nl:=g.nl+1,l:=λj=>if j<i then g.l j else if j=i then x else g.l (j - 1)}
def EG.dropC (g:EG) (i:Nat):EG:={g with nc:=g.nc - 1,c:=λj=>if j<i then g.c j else g.c (j+1)}
def CsG.addV (x:CsG) (v:VtG):CsG:={x with nv:=x.nv+1,v:=λk=>if k<x.nv then x.v k else v}
def EG.addV (g:EG) (i:Nat) (v:VtG):EG:={g with c:=λj=>if j=i then (g.c i).addV v else g.c j}
def CsG.has (x:CsG) (o:Int):Bool:=(List.range x.nv).any λi=>decide ((x.v i).o=o)
def CsG.says (x:CsG) (s:Bool):Bool:=(List.range x.nv).any λi=>decide ((x.v i).s=s)
def EG.clash (g:EG) (p q:Int) (s:Bool):Bool:=if s=true then decide (0≤g.ap p q) else decide (g.q p=g.q q)
theorem clashes83 (g:EG) (h:g.OK) (hl:g.lth) (D:Nat→Nat→RV) (hD1:D 0 1=.rs 3 g.nl λi j=>(g.l i).c j) (hD3:D 0 3=.mp g.th λa=>.i (g.q a)) (p q:Int) (s:Bool) (hp:g.th p=true) (hq:g.th q=true) :
 Pure Tryz.prog 409 [dk D,.agg [.i p,.i q],.b s] (· =.b (g.clash p q s)):=by
 refine pure_of_GC T_ok Tryz.func409 rfl (by kernel_rfl) (nb rfl) rfl rfl ?_
 have ha:=apart59 g h hl D hD1 hD3 p q hp hq
 cases s
 ·simp[go_sem]
  refine GDraw_of T_ok (by kernel_rfl) 15 (by kernel_rfl) rfl rfl ?_
  simp[go_sem,hD3,hp,hq,EG.clash]
 ·simp[go_sem]
  by_cases hx:0≤g.ap p q
  ·rw[EG.lv_pos hx] at ha
   refine call_val ha rfl rfl ?_
   simp[go_sem,EG.clash,hx]
  ·rw[EG.lv_neg (by omega)] at ha
   refine call_val ha rfl rfl ?_
   simp[go_sem,EG.clash,hx]
theorem cl81 (x:VtG) (C:Nat→Nat→RV) (o:Int) (hC:C 0 0=.i o):Pure Tryz.prog 407 [.agg [.i x.o,.b x.s],.r (.rp 1 1 C 0 0)] (· =.b (decide (x.o=o))):=by
 refine pure_of_GC T_ok Tryz.func407 rfl (by kernel_rfl) (nb rfl) rfl rfl ?_
 simp[go_sem,hC]
theorem cl82 (x:VtG) (C:Nat→Nat→RV) (s:Bool) (hC:C 0 0=.v (.bool s)):Pure Tryz.prog 408 [.agg [.i x.o,.b x.s],.r (.rp 1 1 C 0 0)] (· =.b (decide (x.s=s))):=by
 refine pure_of_GC T_ok Tryz.func408 rfl (by kernel_rfl) (nb rfl) rfl rfl ?_
 simp[go_sem,hC]
theorem has81 (x:CsG) (hn:x.nv≤1000000000) (C:Nat→Nat→RV) (o:Int) (hC:C 0 0=.i o):Pure Tryz.prog 351 [.r (.rs 2 x.nv λi j=>(x.v i).c j),.fn (.func 407) [] [.r (.rp 1 1 C 0 0)]] (· =.b (x.has o)):=
 contains80 x.nv hn (λi j=>(x.v i).c j) 407 [.r (.rp 1 1 C 0 0)] rfl (λi=>decide ((x.v i).o=o)) λi _=>cl81 (x.v i) C o hC
theorem says82 (x:CsG) (hn:x.nv≤1000000000) (C:Nat→Nat→RV) (s:Bool) (hC:C 0 0=.v (.bool s)):Pure Tryz.prog 351 [.r (.rs 2 x.nv λi j=>(x.v i).c j),.fn (.func 408) [] [.r (.rp 1 1 C 0 0)]] (· =.b (x.says s)):=
 contains80 x.nv hn (λi j=>(x.v i).c j) 408 [.r (.rp 1 1 C 0 0)] rfl (λi=>decide ((x.v i).s=s)) λi _=>cl82 (x.v i) C s hC
theorem EG.valid_cos {g:EG} (h:g.valid=true):g.cos=true:=by
 rw[← EG.pval_eq] at h
 simp only [EG.pval,Bool.and_eq_true] at h
 exact h.1.1.2
theorem EG.cat_at {g:EG} (h:g.cos=true) {j:Nat} (hj:j<g.nc):g.cat (g.c j).a (g.c j).b=j:=
 bnd_at (x:=λi=>(g.c i).a) (y:=λi=>(g.c i).b) (EG.cos_sorted h) hj
theorem EG.cat_le (g:EG) (p q:Int):g.cat p q≤g.nc:=by
 unfold EG.cat bnd
 cases h:(List.range g.nc).find? λi=>decide (0≤ordI (g.c i).a (g.c i).b p q) with
 | none=>exact Nat.le_refl _
 | some i=>exact Nat.le_of_lt (List.mem_range.1 (List.find?_range_eq_some.1 h).2.1)
theorem EG.lat_le (g:EG) (p q:Int):g.lat p q≤g.nl:=by
 unfold EG.lat bnd
 cases h:(List.range g.nl).find? λi=>decide (0≤ordI (g.l i).a (g.l i).b p q) with
 | none=>exact Nat.le_refl _
 | some i=>exact Nat.le_of_lt (List.mem_range.1 (List.find?_range_eq_some.1 h).2.1)
theorem EG.cin_lt {g:EG} {p q:Int} (hc:g.cin p q=true):g.cat p q<g.nc:=by
 simp only [EG.cin,fnd,Bool.and_eq_true,decide_eq_true_eq] at hc
 exact hc.1
def EG.voteE (g:EG) (o a b:Int) (s:Bool):Int:=
 if g.valid=false then 8 else if ¬(0≤o∧o≤7) then 2 else if a=b∨g.th a=false∨g.th b=false then 6 else
 if g.lin (min a b) (max a b)=true then 82 else
 if g.cin (min a b) (max a b)=false then (if g.nc=40 then 9 else 0) else
 if (g.c (g.cat (min a b) (max a b))).has o=true then 80 else
 if (g.c (g.cat (min a b) (max a b))).says s=false then 0 else if g.clash (min a b) (max a b) s=true then 81 else 0
def EG.voteG (g:EG) (o a b:Int) (s:Bool):EG:=
 if g.cin (min a b) (max a b)=false then g.addC (g.cat (min a b) (max a b)) ⟨min a b,max a b,1,λ_=>⟨o,s⟩⟩ else
 if (g.c (g.cat (min a b) (max a b))).says s=false then g.addV (g.cat (min a b) (max a b)) ⟨o,s⟩ else
 (g.dropC (g.cat (min a b) (max a b))).addL (g.lat (min a b) (max a b)) ⟨min a b,max a b,s⟩
def EG.voteD (g:EG) (a b:Int) (s:Bool):Bool:=g.cin (min a b) (max a b)&&(g.c (g.cat (min a b) (max a b))).says s
def EG.voteS (g:EG) (o a b:Int) (s:Bool):SV:=if g.voteE o a b s=0 then .tup [(g.voteG o a b s).oS,.b (g.voteD a b s),.i 0] else .tup [nilR,.b false,.i (g.voteE o a b s)]
def EG.voteR (g:EG) (o a b:Int) (s:Bool):List Reg:=if g.voteE o a b s=0 then (g.voteG o a b s).oR else []
theorem EG.out {M:Mem} (g:EG) {R L C:Nat} (p:Nat→Nat) {cs:Nat→Nat→SV} {rest:List SV} (hd:R≠L∧R≠C∧L≠C) (hp:∀i j,i<g.nc→j<g.nc→p i=p j→i=j)
 (hx:∀i,i<g.nc→p i≠R∧p i≠L∧p i≠C) (hR:Reg.sub (M R) (some g.vr)) (hL:Reg.sub (M L) (some g.vl)) (hC:M C=some (.vec 150 3 g.nc cs))
 (h0:∀i,i<g.nc→cs i 0=.i (g.c i).a∧cs i 1=.i (g.c i).b∧cs i 2=.sl (p i) 2 0 (g.c i).nv none) (hV:∀i,i<g.nc→Reg.sub (M (p i)) (some (g.ov i))) (hr:∀ρ,SV.renL ρ rest=rest) :
 ∃ρl,gexp M (.tup (.agg [.sl R 2 0 g.nr none,.sl L 3 0 g.nl none,.sl C 3 0 g.nc none]::rest)) ρl (.tup (g.oS::rest)) g.oR:=by
 refine⟨[R,L,C]++(List.range g.nc).map p,nodup_fam (by simp;exact⟨⟨hd.1,hd.2.1⟩,hd.2.2⟩) hp (λx hx2 i hi=>?_),λN=>⟨?_,gexpR_fam (Rs:=[g.vr,g.vl,.vec 150 3 g.nc (g.oc 3)]) (f:=g.ov) ⟨?_,?_,?_,trivial⟩ λi hi=>?_⟩⟩
 ·obtain⟨h1,h2,h3⟩:=hx i hi
  simp at hx2
  rcases hx2 with rfl | rfl | rfl <;> assumption
 ·simp only [SV.ren,SV.renL,hr]
  exact SV.sub_rfl _
 ·exact hR
 ·exact hL
 ·rw[hC]
  refine⟨rfl,rfl,Nat.le_refl _,λi j hi hj=>?_⟩
  obtain⟨q0,q1,q2⟩:=h0 i hi
  rcases(by omega:j=0∨j=1∨j=2) with rfl | rfl | rfl
  ·exact q0
  ·exact q1
  ·rw[q2]
   simp only [EG.oc_2,SV.ren]
   have:([R,L,C]++(List.range g.nc).map p)[i+3]? =some (p i):=by
    rw[List.getElem?_append_right (by simp)]
    simp[hi]
   rw[this]
   rfl
 ·exact hV i hi
theorem EG.out' {M:Mem} (g:EG) {R L C:Nat} (p:Nat→Nat) {rest:List SV} (hd:R≠L∧R≠C∧L≠C) (hp:∀i j,i<g.nc→j<g.nc→p i=p j→i=j)
 (hx:∀i,i<g.nc→p i≠R∧p i≠L∧p i≠C) (hR:Reg.sub (M R) (some g.vr)) (hL:Reg.sub (M L) (some g.vl)) (hC:∃cs,M C=some (.vec 150 3 g.nc cs)∧
 ∀i,i<g.nc→cs i 0=.i (g.c i).a∧cs i 1=.i (g.c i).b∧cs i 2=.sl (p i) 2 0 (g.c i).nv none) (hV:∀i,i<g.nc→Reg.sub (M (p i)) (some (g.ov i))) (hr:∀ρ,SV.renL ρ rest=rest) :
 ∃ρl,gexp M (.tup (.agg [.sl R 2 0 g.nr none,.sl L 3 0 g.nl none,.sl C 3 0 g.nc none]::rest)) ρl (.tup (g.oS::rest)) g.oR:=by
 obtain⟨cs,h1,h2⟩:=hC
 exact EG.out g p hd hp hx hR hL h1 h2 hV hr
theorem r3_toRV (x y z:RV) (n:Nat):SV.r (([SV.r x,SV.r y,SV.r z][n]?.getD (.r .any)).toRV)=[SV.r x,SV.r y,SV.r z][n]?.getD (.r .any):=by
 match n with
 | 0=>rfl
 | 1=>rfl
 | 2=>rfl
 | n+3=>rfl
theorem le_of_sub {s s':SV} (h:s.sub s'):s.le s':=λ_ _ _ hr=>SV.sub_rel _ _ _ h hr
theorem EG.at78v (g:EG) (h:g.OK) (hl:g.cos=true) {get:Nat→Nat→RV} (hget:∀i j,i<g.nc→j<3→get i j=(g.c i).c j) (p q:Int) :
 Pure Tryz.prog 405 [.r (.rs 3 g.nc get),.fn (.func 183) [] [],.agg [.i p,.i q]] (· =.tup [.i (g.cat p q),.b (g.cin p q)]):=
 (EG.at78 g h hl p q).args ⟨le_of_sub (by simp[go_sem];exact hget),SV.le.rfl,SV.le.rfl,trivial⟩
theorem vote35 {g:EG} (h:g.Sm) (o a b:Int) (s:Bool):Own Tryz.prog 327 [] [g.sv,.i o,.i a,.i b,.b s] (g.voteS o a b s) (g.voteR o a b s):=by
 refine own_of_GC T_ok Tryz.func327 rfl (by kernel_rfl) (nb rfl) rfl rfl ?_
 have hr:=h.nr
 have hl:=h.nl
 have hc:=h.nc
 simp[go_sem]
 by_cases hv:g.valid=true
 rotate_left
 ·have hv':g.valid=false:=by simpa using hv
  have e:g.voteE o a b s=8:=by simp[EG.voteE,hv']
  refine callK_own [] (open_bad h.ok hv') (by simp) rfl trivial ?_
  simp[go_sem,EG.voteS,EG.voteR,e]
  exact⟨[],by simp,λN=>⟨by simp[go_sem],trivial⟩⟩
 refine callK_own [] (open61 h hv) (by simp) rfl trivial ?_
 by_cases o1:o<0
 ·have e:g.voteE o a b s=2:=by simp[EG.voteE,hv,show ¬(0≤o∧o≤7) by omega]
  simp[go_sem,o1,EG.voteS,EG.voteR,e]
  exact⟨[],by simp,λN=>⟨by simp[go_sem],trivial⟩⟩
 by_cases o2:8≤o
 ·have e:g.voteE o a b s=2:=by simp[EG.voteE,hv,show ¬(0≤o∧o≤7) by omega]
  simp[go_sem,o1,o2,EG.voteS,EG.voteR,e]
  exact⟨[],by simp,λN=>⟨by simp[go_sem],trivial⟩⟩
 have o3:0≤o∧o≤7:=by omega
 obtain⟨B,hB⟩:∃B,B=4+(g.nc+1+1+1+1+1):=⟨_,rfl⟩
 by_cases hab:a=b
 ·have e:g.voteE o a b s=6:=by simp[EG.voteE,hv,o3,hab]
  subst hab
  simp[go_sem,o1,o2,EG.voteS,EG.voteR,e]
  exact⟨[],by simp,λN=>⟨by simp[go_sem],trivial⟩⟩
 simp[go_sem,o1,o2,hab]
 refine call_lent (v:=.b (g.th a)) ?_ rfl ?_
 ·simp[go_sem]
  exact there63 g h.ok _ (by simp[go_sem,viewRV]) a
 by_cases ta:g.th a=true
 rotate_left
 ·have ta':g.th a=false:=by simpa using ta
  have e:g.voteE o a b s=6:=by simp[EG.voteE,hv,o3,ta']
  simp[go_sem,ta',EG.voteS,EG.voteR,e]
  exact⟨[],by simp,λN=>⟨by simp[go_sem],trivial⟩⟩
 simp[go_sem,ta]
 refine call_lent (v:=.b (g.th b)) ?_ rfl ?_
 ·simp[go_sem]
  exact there63 g h.ok _ (by simp[go_sem,viewRV]) b
 by_cases tb:g.th b=true
 rotate_left
 ·have tb':g.th b=false:=by simpa using tb
  have e:g.voteE o a b s=6:=by simp[EG.voteE,hv,o3,tb']
  simp[go_sem,tb',EG.voteS,EG.voteR,e]
  exact⟨[],by simp,λN=>⟨by simp[go_sem],trivial⟩⟩
 simp[go_sem,tb]
 rw[← hB]
 have b0:∀n,n<9→¬n=B:=λn _=>by omega
 have b1:∀n,n<9→¬B=n:=λn _=>by omega
 have b2:∀n,n<9→n<B:=λn _=>by omega
 have b3:¬B<g.nc+9:=by omega
 have b5:∀i,i<g.nc→¬i+9=B:=λi _=>by omega
 have z0:¬B=B+1:=by omega
 have z1:¬B=B+1+1:=by omega
 have z2:¬B=B+1+1+1:=by omega
 have z3:¬B=B+1+1+1+1:=by omega
 have z4:¬B+1=B:=by omega
 have z5:¬B+1+1=B:=by omega
 have z6:¬B+1+1+1=B:=by omega
 have z7:¬B+1+1+1+1=B:=by omega
 have b6:∀n,n<9→¬n=B+1:=λn _=>by omega
 have b7:∀n,n<9→¬B+1=n:=λn _=>by omega
 have b8:∀i,i<g.nc→¬i+9=B+1:=λi _=>by omega
 refine call_val (pairOf75 a b) rfl rfl ?_
 simp[go_sem,b0,b1,b2,b3]
 refine GDraw_all T_ok (by kernel_rfl) (by kernel_rfl) ?_
 simp[go_sem,b0,b1,b2,b3]
 have hat:=EG.at76 g h.ok (EG.valid_lks hv) (min a b) (max a b)
 refine⟨_,dcall_lent (v:=.tup [.i (g.lat (min a b) (max a b)),.b (g.lin (min a b) (max a b))]) ?_ rfl,?_⟩
 ·simp[go_sem,b0,b1,b2,b3]
  exact hat
 by_cases hf:g.lin (min a b) (max a b)=true
 ·have e:g.voteE o a b s=82:=by simp[EG.voteE,hv,o3,hab,ta,tb,hf]
  simp[go_sem,hf,b0,b1,b2,b3,EG.voteS,EG.voteR,e]
  exact⟨[],by simp,λN=>⟨by simp[go_sem],trivial⟩⟩
 have hf':g.lin (min a b) (max a b)=false:=by simpa using hf
 simp[go_sem,hf',b0,b1,b2,b3]
 refine GDraw_all T_ok (by kernel_rfl) (by kernel_rfl) ?_
 simp[go_sem,b0,b1,b2,b3]
 refine⟨_,dcall_deep (v:=.tup [.i (g.cat (min a b) (max a b)),.b (g.cin (min a b) (max a b))]) ?_ rfl,?_⟩
 ·simp[go_sem,b0,b1,b2,b3]
  refine EG.at78v g h.ok (EG.valid_cos hv) (λi j hi hj=>g.view_oc ?_ hj) _ _
  have:=b5 i hi
  simp[go_sem,hi,this]
 by_cases hci:g.cin (min a b) (max a b)=true
 rotate_left
 ·have hci':g.cin (min a b) (max a b)=false:=by simpa using hci
  by_cases h40:g.nc=40
  ·have h40':(g.nc:Int)=40:=by omega
   have e:g.voteE o a b s=9:=by simp[EG.voteE,hv,o3,hab,ta,tb,hf',hci',h40]
   simp[go_sem,hci',h40',b0,b1,b2,b3,b6,b7,EG.voteS,EG.voteR,e]
   exact⟨[],by simp,λN=>⟨by simp[go_sem],trivial⟩⟩
  have h40':¬(g.nc:Int)=40:=by omega
  have e:g.voteE o a b s=0:=by simp[EG.voteE,hv,o3,hab,ta,tb,hf',hci',h40]
  have eG:g.voteG o a b s=g.addC (g.cat (min a b) (max a b)) ⟨min a b,max a b,1,λ_=>⟨o,s⟩⟩:=by simp[EG.voteG,hci']
  have eD:g.voteD a b s=false:=by simp[EG.voteD,hci']
  simp[go_sem,hci',h40',b0,b1,b2,b3,b6,b7,EG.voteS,EG.voteR,e,eG,eD]
  refine GDraw_mix (λ_=>false) T_ok (by kernel_rfl) [0] 15 (by kernel_rfl) (by kernel_rfl) (by kernel_rfl) (λ_ _ _ _ h=>h) rfl rfl ?_
  simp[go_sem,b0,b1,b2,b3,b6,b7]
  refine⟨by omega,insCaseK (q:=8) (p:=B+1+1+1) (cs:=g.oc 9) (one:=λi j=>[SV.i (min a b),SV.i (max a b),.sl (B+1+1) 2 0 1 none][i*3+j]?.getD (.r .any)) (by omega) (EG.cat_le _ _ _) (by omega) (by simp[go_sem,b0,b1,b2,b3,b6,b7]) (by simp[go_sem,b0,b1,b2,b3,b6,b7]) ?_⟩
  simp[go_sem,b0,b1,b2,b3,b6,b7]
  have hcl:=EG.cat_le g (min a b) (max a b)
  generalize g.cat (min a b) (max a b)=c at hcl
  have c0:∀n,n<9→¬n=B+1+1:=λn _=>by omega
  have c1:∀n,n<9→¬n=B+1+1+1:=λn _=>by omega
  have c2:∀n,n<9→¬n=B+1+1+1+1:=λn _=>by omega
  have c3:∀n,n<9→¬B+1+1=n:=λn _=>by omega
  have c4:∀n,n<9→¬B+1+1+1=n:=λn _=>by omega
  have c5:∀n,n<9→¬B+1+1+1+1=n:=λn _=>by omega
  have c6:∀i,i<g.nc→∀n,n≤9→¬i+n=B:=λi _ n _=>by omega
  have c7:∀i,i<g.nc→∀n,n≤9→¬i+n=B+1:=λi _ n _=>by omega
  refine EG.out (g.addC c ⟨min a b,max a b,1,λ_=>⟨o,s⟩⟩) (λi=>if i<c then i+9 else if i=c then B+1+1 else i - 1+9) (cs:=λr d=>if r<c then g.oc 9 r d else if r=c then [SV.i (min a b),SV.i (max a b),.sl (B+1+1) 2 0 1 none][d]?.getD (.r .any) else g.oc 9 (r - 1) d) (by omega) (λi j hi hj h=>?_) (λi hi=>?_) (by simp[go_sem,EG.addC,b0,b1,b2,b3,b6,b7,c0,c1,c2,c3,c4,c5]) (by simp[go_sem,EG.addC,b0,b1,b2,b3,b6,b7,c0,c1,c2,c3,c4,c5]) (by simp[go_sem,EG.addC,b0,b1,b2,b3,b6,b7,c0,c1,c2,c3,c4,c5]) (λi hi=>?_) (λi hi=>?_) (λ_=>rfl)
  ·have hi':i<g.nc+1:=hi
   have hj':j<g.nc+1:=hj
   split at h <;> (try split at h) <;> (try split at h) <;> (try split at h) <;> omega
  ·have hi':i<g.nc+1:=hi
   split
   ·omega
   ·split <;> omega
  ·have hi':i<g.nc+1:=hi
   by_cases e1:i<c
   ·simp[go_sem,e1,EG.addC,b0,b1,c0,c3]
   ·by_cases e2:i=c
    ·simp[go_sem,e2,EG.addC,b0,b1,c0,c3]
    ·simp[go_sem,e1,e2,EG.addC,b0,b1,c0,c3]
  ·have hi':i<g.nc+1:=hi
   by_cases e1:i<c
   ·have d1:=c6 i (by omega)
    have d2:=c7 i (by omega)
    have d3:i<g.nc:=by omega
    simp[go_sem,e1,EG.addC,d1,d2,d3,b0,b1,c0,c3]
   ·by_cases e2:i=c
    ·simp[go_sem,e1,e2,EG.addC,b0,b1,c0,c3]
     intro i' j hi' hj
     subst hi'
     rcases(by omega:j=0∨j=1) with rfl | rfl <;> rfl
    ·have d1:=c6 (i - 1) (by omega)
     have d2:=c7 (i - 1) (by omega)
     have d3:i - 1<g.nc:=by omega
     simp[go_sem,e1,e2,EG.addC,d1,d2,d3,b0,b1,c0,c3]
 simp[go_sem,hci,b0,b1,b2,b3,b6,b7]
 generalize hk:g.cat (min a b) (max a b)=k
 have hkc:k<g.nc:=by rw[← hk];exact EG.cin_lt hci
 have hvk:=h.nv k hkc
 have b9:=b5 k hkc
 have b10:=b8 k hkc
 have b11:∀n,n<9→¬k+n=B:=λn _=>by omega
 have b12:∀n,n<9→¬k+n=B+1:=λn _=>by omega
 have b13:∀n,n<9→¬B=k+n:=λn _=>by omega
 have b14:¬B=k+9:=by omega
 have b15:¬B+1=k+9:=by omega
 refine⟨hkc,call_lent (v:=.b ((g.c k).has o)) ?_ rfl ?_⟩
 ·simp[go_sem,hkc,b0,b1,b2,b3,b6,b7,b9,b10]
  refine has81 (g.c k) (by omega) _ o ?_
  simp[go_sem,viewRV]
 by_cases ho:(g.c k).has o=true
 ·have e:g.voteE o a b s=80:=by simp[EG.voteE,hv,o3,hab,ta,tb,hf',hci,hk,ho]
  simp[go_sem,ho,b0,b1,b2,b3,b6,b7,EG.voteS,EG.voteR,e]
  exact⟨[],by simp,λN=>⟨by simp[go_sem],trivial⟩⟩
 have ho':(g.c k).has o=false:=by simpa using ho
 simp[go_sem,ho',b0,b1,b2,b3,b6,b7]
 refine call_lent (v:=.b ((g.c k).says s)) ?_ rfl ?_
 ·simp[go_sem,hkc,b0,b1,b2,b3,b6,b7,b9,b10]
  refine says82 (g.c k) (by omega) _ s ?_
  simp[go_sem,viewRV]
 by_cases hs:(g.c k).says s=true
 rotate_left
 ·have hs':(g.c k).says s=false:=by simpa using hs
  have e:g.voteE o a b s=0:=by simp[EG.voteE,hv,o3,hab,ta,tb,hf',hci,hk,ho',hs']
  have eG:g.voteG o a b s=g.addV k ⟨o,s⟩:=by simp[EG.voteG,hci,hk,hs']
  have eD:g.voteD a b s=false:=by simp[EG.voteD,hci,hk,hs']
  simp[go_sem,hs',b0,b1,b2,b3,b6,b7,EG.voteS,EG.voteR,e,eG,eD]
  refine GDraw_x (t:=(.take 0 (.take 1 (.take 2 (.take 3 (.take 5 (.take 6 (.alt 4 (.alt 7 (.alt 8 (.alt 9 (.alt 10 (.take 11 (.alt 12 .done .nil)) .nil) .nil) .nil) .nil) (.alt 7 (.alt 4 (.alt 8 (.alt 9 (.alt 10 (.take 11 (.alt 12 .done .nil)) .nil) .nil) .nil) (.alt 8 (.alt 4 (.alt 9 (.alt 10 (.take 11 (.alt 12 .done .nil)) .nil) .nil) (.alt 9 (.alt 4 (.alt 10 (.take 11 (.alt 12 .done .nil)) .nil) .nil) .nil)) .nil)) .nil))))))))) T_ok (by kernel_rfl) (by kernel_rfl) (by kernel_rfl) (λ_ _ _ _ h=>h) ?_
  simp[go_sem,b0,b1,b2,b3,b6,b7,hkc,b9,b10,b11,b12,b13,b14,b15]
  refine⟨⟨by omega,by omega⟩,EG.out' (g.addV k ⟨o,s⟩) (λi=>i+9) (by omega) (λi j hi hj h=>by omega) (λi hi=>by omega) ?_ ?_ ?_ (λi hi=>?_) (λ_=>rfl)⟩
  ·simp[go_sem,EG.addV,b0,b1,b2,b3,b6,b7]
  ·simp[go_sem,EG.addV,b0,b1,b2,b3,b6,b7]
  ·simp[go_sem,EG.addV,b0,b1,b2,b3,b6,b7,b11,b12,b13,b14,b15]
   intro i hi
   by_cases e1:i=k
   ·subst e1
    simp[CsG.addV]
   ·simp[e1]
  ·have hi':i<g.nc:=hi
   have c6:∀n,n≤9→¬i+n=B:=λn _=>by omega
   have c7:∀n,n≤9→¬i+n=B+1:=λn _=>by omega
   have c8:∀n,n≤9→¬i+n=B+1+1:=λn _=>by omega
   by_cases e1:i=k
   ·subst e1
    simp[go_sem,EG.addV,CsG.addV,b0,b1,b2,b3,b6,b7,c6,c7,c8]
    intro r j hr hj
    unfold joined
    by_cases e2:r<(g.c i).nv
    ·simp[e2,SV.kill]
    ·have e3:r=(g.c i).nv:=by omega
     subst e3
     rcases(by omega:j=0∨j=1) with rfl | rfl <;> simp[go_sem,SV.kill]
   ·simp[go_sem,EG.addV,b0,b1,b2,b3,b6,b7,c6,c7,c8,e1,hi',SV.kill]
 simp[go_sem,hs,b0,b1,b2,b3,b6,b7]
 have tp:g.th (min a b)=true:=by
  rcases Int.le_total a b with h1 | h1
  ·rw[Int.min_eq_left h1];exact ta
  ·rw[Int.min_eq_right h1];exact tb
 have tq:g.th (max a b)=true:=by
  rcases Int.le_total a b with h1 | h1
  ·rw[Int.max_eq_right h1];exact tb
  ·rw[Int.max_eq_left h1];exact ta
 refine call_lent (v:=.b (g.clash (min a b) (max a b) s)) ?_ rfl ?_
 ·simp[go_sem,b0,b1,b2,b3,b6,b7]
  refine clashes83 g h.ok (EG.valid_lth hv) _ ?_ ?_ _ _ s tp tq
  ·simp[go_sem,viewRV,b0,b1,b2,b3,b6,b7]
  ·simp[go_sem,viewRV,b0,b1,b2,b3,b6,b7]
 by_cases hl:g.clash (min a b) (max a b) s=true
 ·have e:g.voteE o a b s=81:=by simp[EG.voteE,hv,o3,hab,ta,tb,hf',hci,hk,ho',hs,hl]
  simp[go_sem,hl,b0,b1,b2,b3,b6,b7,EG.voteS,EG.voteR,e]
  exact⟨[],by simp,λN=>⟨by simp[go_sem],trivial⟩⟩
 have hl':g.clash (min a b) (max a b) s=false:=by simpa using hl
 have e:g.voteE o a b s=0:=by simp[EG.voteE,hv,o3,hab,ta,tb,hf',hci,hk,ho',hs,hl']
 have eG:g.voteG o a b s=(g.dropC k).addL (g.lat (min a b) (max a b)) ⟨min a b,max a b,s⟩:=by simp[EG.voteG,hci,hk,hs]
 have eD:g.voteD a b s=true:=by simp[EG.voteD,hci,hk,hs]
 simp[go_sem,hl',b0,b1,b2,b3,b6,b7,EG.voteS,EG.voteR,e,eG,eD]
 refine⟨⟨by omega,by omega⟩,delCaseK (by omega) hkc (q:=8) (cs:=g.oc 9) (by simp[go_sem,b0,b1,b2,b3,b6,b7]) ?_⟩
 have c0:∀n,n<9→¬n=B+1+1:=λn _=>by omega
 have c1:∀n,n<9→¬n=B+1+1+1:=λn _=>by omega
 have c2:∀n,n<9→¬n=B+1+1+1+1:=λn _=>by omega
 have c3:∀n,n<9→¬B+1+1=n:=λn _=>by omega
 have c4:∀n,n<9→¬B+1+1+1=n:=λn _=>by omega
 have c5:∀n,n<9→¬B+1+1+1+1=n:=λn _=>by omega
 simp[go_sem,b0,b1,b2,b3,b6,b7,z0,z1,z2,z3,z4,z5,z6,z7,c0,c1,c2,c3,c4,c5]
 refine GDraw_mix (λ_=>false) T_ok (by kernel_rfl) [0] 14 (by kernel_rfl) (by kernel_rfl) (by kernel_rfl) (λ_ _ _ _ h=>h) rfl rfl ?_
 simp[go_sem,b0,b1,b2,b3,b6,b7,z0,z1,z2,z3,z4,z5,z6,z7,c0,c1,c2,c3,c4,c5]
 have hll:=EG.lat_le g (min a b) (max a b)
 generalize g.lat (min a b) (max a b)=l at hll
 refine⟨by omega,callK_own [7,B+1+1+1] (insert85 g.nl l (by omega) hll (λi j=>(g.l i).c j) (λi j=>([SV.i (min a b),SV.i (max a b),SV.b s][i*3+j]?.getD (.r .any)).toRV)) (by simp;omega) rfl ⟨by simp[go_sem,b0,b1,b2,b3,b6,b7,z0,z1,z2,z3,z4,z5,z6,z7,c0,c1,c2,c3,c4,c5],?_,trivial⟩ ?_⟩
 ·show _=some (Reg.vec 147 3 1 λi j=>SV.r _)
  simp only [r3_toRV]
  simp[go_sem,b0,b1,b2,b3,b6,b7,z0,z1,z2,z3,z4,z5,z6,z7,c0,c1,c2,c3,c4,c5]
 simp[go_sem,b0,b1,b2,b3,b6,b7,z0,z1,z2,z3,z4,z5,z6,z7,c0,c1,c2,c3,c4,c5]
 have c6:∀i,i<g.nc→∀n,n≤9→¬i+n=B:=λi _ n _=>by omega
 have c7:∀i,i<g.nc→∀n,n≤9→¬i+n=B+1:=λi _ n _=>by omega
 have c8:∀i,i<g.nc→∀n,n≤9→¬i+n=B+1+1:=λi _ n _=>by omega
 have c9:∀i,i<g.nc→∀n,n≤9→¬i+n=B+1+1+1:=λi _ n _=>by omega
 have c10:∀i,i<g.nc→∀n,n≤9→¬i+n=B+1+1+1+1:=λi _ n _=>by omega
 refine EG.out ((g.dropC k).addL l ⟨min a b,max a b,s⟩) (λi=>if i<k then i+9 else i+1+9) (cs:=λr c=>if r<k then g.oc 9 r c else g.oc 9 (r+1) c) (by omega) (λi j hi hj h=>?_) (λi hi=>?_) ?_ ?_ ?_ (λi hi=>?_) (λi hi=>?_) (λ_=>rfl)
 ·split at h <;> (try split at h) <;> omega
 ·have hi':i<g.nc - 1:=hi
  split <;> omega
 ·simp[go_sem,EG.dropC,EG.addL,b0,b1,b2,b3,b6,b7,z0,z1,z2,z3,z4,z5,z6,z7,c0,c1,c2,c3,c4,c5]
 ·simp[go_sem,EG.dropC,EG.addL,b0,b1,b2,b3,b6,b7,z0,z1,z2,z3,z4,z5,z6,z7,c0,c1,c2,c3,c4,c5]
  intro i j hi hj
  unfold insR
  by_cases e1:i<l
  ·simp[e1]
  ·by_cases e2:i=l
   ·subst e2
    rcases(by omega:j=0∨j=1∨j=2) with rfl | rfl | rfl <;> simp[go_sem]
   ·simp[e1,e2]
 ·simp[go_sem,EG.dropC,EG.addL,b0,b1,b2,b3,b6,b7,z0,z1,z2,z3,z4,z5,z6,z7,c0,c1,c2,c3,c4,c5]
 ·have hi':i<g.nc - 1:=hi
  by_cases e1:i<k
  ·simp[go_sem,e1,EG.dropC,EG.addL]
  ·simp[go_sem,e1,EG.dropC,EG.addL]
 ·have hi':i<g.nc - 1:=hi
  by_cases e1:i<k
  ·have d1:=c6 i (by omega)
   have d2:=c7 i (by omega)
   have d3:i<g.nc:=by omega
   have d4:=c8 i (by omega)
   have d5:=c9 i (by omega)
   have d6:=c10 i (by omega)
   simp[go_sem,e1,EG.dropC,EG.addL,d1,d2,d3,d4,d5,d6]
  ·have d1:=c6 (i+1) (by omega)
   have d2:=c7 (i+1) (by omega)
   have d3:i+1<g.nc:=by omega
   have d4:=c8 (i+1) (by omega)
   have d5:=c9 (i+1) (by omega)
   have d6:=c10 (i+1) (by omega)
   simp[go_sem,e1,EG.dropC,EG.addL,d1,d2,d3,d4,d5,d6]
theorem pure_i {f:FuncId} {args:List SV} {g:EG} {n:Int} (h:Own Tryz.prog f [] args (.tup [g.oS,.i n]) g.oR):Pure Tryz.prog f args (· =.tup [g.sv,.i n]):=by
 refine Pure.ofSub (h.pure ?_)
 unfold EG.oR
 rw[memR_famN]
 simp[go_sem]
 intro i j hi hj
 exact g.view_oc (by simp[go_sem,hi]) hj
theorem pure_ii {f:FuncId} {args:List SV} {g:EG} {m n:Int} (h:Own Tryz.prog f [] args (.tup [g.oS,.i m,.i n]) g.oR):Pure Tryz.prog f args (· =.tup [g.sv,.i m,.i n]):=by
 refine Pure.ofSub (h.pure ?_)
 unfold EG.oR
 rw[memR_famN]
 simp[go_sem]
 intro i j hi hj
 exact g.view_oc (by simp[go_sem,hi]) hj
theorem pure_bi {f:FuncId} {args:List SV} {g:EG} {d:Bool} {n:Int} (h:Own Tryz.prog f [] args (.tup [g.oS,.b d,.i n]) g.oR):Pure Tryz.prog f args (· =.tup [g.sv,.b d,.i n]):=by
 refine Pure.ofSub (h.pure ?_)
 unfold EG.oR
 rw[memR_famN]
 simp[go_sem]
 intro i j hi hj
 exact g.view_oc (by simp[go_sem,hi]) hj
def EG.zero:EG:=⟨0,λ_=>⟨0,false⟩,0,λ_=>⟨0,0,false⟩,0,λ_=>⟨0,0,0,λ_=>⟨0,false⟩⟩⟩
theorem nil_i {f:FuncId} {args:List SV} {n:Int} (h:Own Tryz.prog f [] args (.tup [nilR,.i n]) []):Pure Tryz.prog f args (· =.tup [EG.zero.sv,.i n]):=by
 refine Pure.ofSub (h.pure ?_)
 simp[go_sem,EG.zero]
theorem nil_ii {f:FuncId} {args:List SV} {m n:Int} (h:Own Tryz.prog f [] args (.tup [nilR,.i m,.i n]) []):Pure Tryz.prog f args (· =.tup [EG.zero.sv,.i m,.i n]):=by
 refine Pure.ofSub (h.pure ?_)
 simp[go_sem,EG.zero]
theorem nil_bi {f:FuncId} {args:List SV} {d:Bool} {n:Int} (h:Own Tryz.prog f [] args (.tup [nilR,.b d,.i n]) []):Pure Tryz.prog f args (· =.tup [EG.zero.sv,.b d,.i n]):=by
 refine Pure.ofSub (h.pure ?_)
 simp[go_sem,EG.zero]
def EG.addE (g:EG) (q:Int):Int:=if g.valid=false then 8 else if ¬(0≤q∧q≤100) then 2 else if g.nr=24 then 9 else 0
def EG.addX (g:EG) (q:Int):EG:=if g.addE q=0 then g.addG q else EG.zero
def EG.addN (g:EG) (q:Int):Int:=if g.addE q=0 then g.nr else 0
theorem add26p {g:EG} (h:g.Sm) (q:Int):Pure Tryz.prog 326 [g.sv,.i q] (· =.tup [(g.addX q).sv,.i (g.addN q),.i (g.addE q)]):=by
 unfold EG.addX EG.addN EG.addE
 by_cases hv:g.valid=true
 rotate_left
 ·have hv':g.valid=false:=by simpa using hv
  simpa [hv'] using nil_ii (add_bad h.ok hv' q)
 by_cases h0:0≤q∧q≤100
 rotate_left
 ·simpa [hv,h0] using nil_ii (add_range h hv h0)
 by_cases hn:g.nr=24
 ·simpa [hv,h0,hn] using nil_ii (add_full h hv h0 hn)
 have hr:=EG.valid_nr hv
 simpa [hv,h0,hn] using pure_ii (add26 h hv h0.1 h0.2 (by omega))
def EG.remE (g:EG) (a:Int):Int:=if g.valid=false then 8 else if g.th a=false then 6 else 0
def EG.remX (g:EG) (a:Int):EG:=if g.remE a=0 then g.remG a.toNat else EG.zero
theorem rem28p {g:EG} (h:g.Sm) (a:Int):Pure Tryz.prog 329 [g.sv,.i a] (· =.tup [(g.remX a).sv,.i (g.remE a)]):=by
 unfold EG.remX EG.remE
 by_cases hv:g.valid=true
 rotate_left
 ·have hv':g.valid=false:=by simpa using hv
  simpa [hv'] using nil_i (remove_bad h.ok hv' a)
 by_cases ht:g.th a=true
 rotate_left
 ·have ht':g.th a=false:=by simpa using ht
  simpa [hv,ht'] using nil_i (remove_no h hv ht')
 obtain⟨n,rfl⟩:∃n:Nat,a=n:=⟨a.toNat,by have:=EG.th_iff.1 ht;omega⟩
 simpa [hv,ht] using pure_i (remove28 h hv ht)
def EG.wdE (g:EG) (a b:Int):Int:=if g.valid=false then 8 else if g.lin (min a b) (max a b)=false then 6 else 0
def EG.wdX (g:EG) (a b:Int):EG:=if g.wdE a b=0 then g.dropL (g.lat (min a b) (max a b)) else EG.zero
theorem wd37p {g:EG} (h:g.Sm) (a b:Int):Pure Tryz.prog 328 [g.sv,.i a,.i b] (· =.tup [(g.wdX a b).sv,.i (g.wdE a b)]):=by
 unfold EG.wdX EG.wdE
 by_cases hv:g.valid=true
 rotate_left
 ·have hv':g.valid=false:=by simpa using hv
  simpa [hv'] using nil_i (withdraw_bad h.ok hv' a b)
 by_cases ht:g.lin (min a b) (max a b)=true
 rotate_left
 ·have ht':g.lin (min a b) (max a b)=false:=by simpa using ht
  simpa [hv,ht'] using nil_i (withdraw_no h hv ht')
 simpa [hv,ht] using pure_i (withdraw37 h hv ht)
def EG.voteX (g:EG) (o a b:Int) (s:Bool):EG:=if g.voteE o a b s=0 then g.voteG o a b s else EG.zero
def EG.voteB (g:EG) (o a b:Int) (s:Bool):Bool:=if g.voteE o a b s=0 then g.voteD a b s else false
theorem vote35p {g:EG} (h:g.Sm) (o a b:Int) (s:Bool):Pure Tryz.prog 327 [g.sv,.i o,.i a,.i b,.b s] (· =.tup [(g.voteX o a b s).sv,.b (g.voteB o a b s),.i (g.voteE o a b s)]):=by
 have hv:=vote35 h o a b s
 unfold EG.voteX EG.voteB
 unfold EG.voteS EG.voteR at hv
 by_cases e:g.voteE o a b s=0
 ·rw[if_pos e,if_pos e] at hv
  rw[if_pos e,if_pos e]
  simpa [e] using pure_bi hv
 ·rw[if_neg e,if_neg e] at hv
  rw[if_neg e,if_neg e]
  exact nil_bi hv
end Go.Gx
namespace Go.Gx.Rg
open Go.RowKit Go.Proofs Go.Proofs.YtncccnmmjfapnaaGreat
def insR (get one:Nat→Nat→RV) (i:Nat):Nat→Nat→RV:=λr c=>if r<i then get r c else if r=i then one 0 c else get (r - 1) c
theorem insert133 (n i:Nat) (hn:n≤1000000) (hi:i≤n) (get one:Nat→Nat→RV) :
 Own Tryz.prog 448 [.vec 59 3 n λr c=>.r (get r c),.vec 59 3 1 λr c=>.r (one r c)] [.sl 0 3 0 n none,.i i,.sl 1 3 0 1 none] (.sl 0 3 0 (n+1) none) [.vec 59 3 (n+1) λr c=>.r (insR get one i r c)]:=by
 refine own_of_GC T_ok Tryz.func448 rfl (by kernel_rfl) (nb rfl) rfl rfl ?_
 simp[go_sem]
 refine⟨hi,?_⟩
 by_cases hin:i=n
 ·subst hin
  rw[if_pos rfl]
  refine⟨by omega,[0],by simp,λN=>⟨?_,?_⟩⟩
  ·simp[go_sem]
  ·simp[go_sem]
   intro r c hr hc
   unfold joined insR
   by_cases h:r<i
   ·rw[if_pos h,if_pos h];rfl
   ·rw[if_neg h,if_pos hr,if_neg h,if_pos (by omega),show r - i=0 from by omega];rfl
 rw[if_neg (by omega)]
 refine⟨by omega,?_⟩
 refine GOp_cap T_ok (ref:=0) (kk:=3) (n:=n) (by simp[go_sem]) (M:=memR _) rfl rfl (by simp[dOK]) ?_
 intro C hC _ hC2
 simp only [maxLen] at hC2
 by_cases hc:C<n+1
 ·have hc':(C:Int)<(n:Int)+1:=by omega
  left
  simp[go_sem,hc',hi]
  refine⟨by omega,by omega,⟨by omega,by omega,by omega⟩,by omega,?_⟩
  refine GDraw_of T_ok (by kernel_rfl) 8 (by kernel_rfl) rfl rfl ?_
  simp[go_sem,hi]
  have e1:i+(n+1 - i)=n+1:=by omega
  refine⟨by omega,⟨by omega,by omega⟩,by omega,[2],by simp,λN=>⟨?_,?_⟩⟩
  ·simp[go_sem,e1]
  ·simp[go_sem]
   refine⟨by omega,λr c hr hc=>?_⟩
   unfold insR joined
   repeat' split
   all_goals first | (exfalso;omega) | rfl | exact congrArg SV.r (congrFun (congrArg get (by omega)) _) | exact congrArg SV.r (congrFun (congrArg one (by omega)) _)
 ·have hc':¬(C:Int)<(n:Int)+1:=by omega
  have hn1:¬(n:Int)+1≤(n:Int):=by omega
  right
  simp[go_sem,hc',hi,hn1]
  refine⟨by omega,⟨by omega,by omega⟩,by omega,by omega,?_⟩
  refine callK_apart T_ok Tryz.func455 (by kernel_rfl) (by kernel_rfl) (by kernel_rfl) (tS:=34) (tR:=4) (by kernel_rfl) (el:=59) rfl rfl (q:=1) (r:=0) (hq:=rfl) (hr:=rfl) (by decide) (by omega) (by omega) (by omega) ?_
  simp[go_sem,hi,hc']
  refine GDraw_of T_ok (by kernel_rfl) 8 (by kernel_rfl) rfl rfl ?_
  simp[go_sem,hi]
  refine⟨by omega,by omega,by omega,⟨by omega,by omega⟩,by omega,by omega,[0],by simp,λN=>⟨?_,?_⟩⟩
  ·simp[go_sem]
  ·simp[go_sem]
   refine⟨by omega,λr c hr hc=>?_⟩
   unfold insR
   repeat' split
   all_goals first | (exfalso;omega) | rfl | exact congrArg SV.r (congrFun (congrArg get (by omega)) _) | exact congrArg SV.r (congrFun (congrArg one (by omega)) _)
theorem insert134 (n i:Nat) (hn:n≤1000000) (hi:i≤n) (get one:Nat→Nat→RV) :
 Own Tryz.prog 449 [.vec 61 5 n λr c=>.r (get r c),.vec 61 5 1 λr c=>.r (one r c)] [.sl 0 5 0 n none,.i i,.sl 1 5 0 1 none] (.sl 0 5 0 (n+1) none) [.vec 61 5 (n+1) λr c=>.r (insR get one i r c)]:=by
 refine own_of_GC T_ok Tryz.func449 rfl (by kernel_rfl) (nb rfl) rfl rfl ?_
 simp[go_sem]
 refine⟨hi,?_⟩
 by_cases hin:i=n
 ·subst hin
  rw[if_pos rfl]
  refine⟨by omega,[0],by simp,λN=>⟨?_,?_⟩⟩
  ·simp[go_sem]
  ·simp[go_sem]
   intro r c hr hc
   unfold joined insR
   by_cases h:r<i
   ·rw[if_pos h,if_pos h];rfl
   ·rw[if_neg h,if_pos hr,if_neg h,if_pos (by omega),show r - i=0 from by omega];rfl
 rw[if_neg (by omega)]
 refine⟨by omega,?_⟩
 refine GOp_cap T_ok (ref:=0) (kk:=5) (n:=n) (by simp[go_sem]) (M:=memR _) rfl rfl (by simp[dOK]) ?_
 intro C hC _ hC2
 simp only [maxLen] at hC2
 by_cases hc:C<n+1
 ·have hc':(C:Int)<(n:Int)+1:=by omega
  left
  simp[go_sem,hc',hi]
  refine⟨by omega,by omega,⟨by omega,by omega,by omega⟩,by omega,?_⟩
  refine GDraw_of T_ok (by kernel_rfl) 8 (by kernel_rfl) rfl rfl ?_
  simp[go_sem,hi]
  have e1:i+(n+1 - i)=n+1:=by omega
  refine⟨by omega,⟨by omega,by omega⟩,by omega,[2],by simp,λN=>⟨?_,?_⟩⟩
  ·simp[go_sem,e1]
  ·simp[go_sem]
   refine⟨by omega,λr c hr hc=>?_⟩
   unfold insR joined
   repeat' split
   all_goals first | (exfalso;omega) | rfl | exact congrArg SV.r (congrFun (congrArg get (by omega)) _) | exact congrArg SV.r (congrFun (congrArg one (by omega)) _)
 ·have hc':¬(C:Int)<(n:Int)+1:=by omega
  have hn1:¬(n:Int)+1≤(n:Int):=by omega
  right
  simp[go_sem,hc',hi,hn1]
  refine⟨by omega,⟨by omega,by omega⟩,by omega,by omega,?_⟩
  refine callK_apart T_ok Tryz.func457 (by kernel_rfl) (by kernel_rfl) (by kernel_rfl) (tS:=36) (tR:=4) (by kernel_rfl) (el:=61) rfl rfl (q:=1) (r:=0) (hq:=rfl) (hr:=rfl) (by decide) (by omega) (by omega) (by omega) ?_
  simp[go_sem,hi,hc']
  refine GDraw_of T_ok (by kernel_rfl) 8 (by kernel_rfl) rfl rfl ?_
  simp[go_sem,hi]
  refine⟨by omega,by omega,by omega,⟨by omega,by omega⟩,by omega,by omega,[0],by simp,λN=>⟨?_,?_⟩⟩
  ·simp[go_sem]
  ·simp[go_sem]
   refine⟨by omega,λr c hr hc=>?_⟩
   unfold insR
   repeat' split
   all_goals first | (exfalso;omega) | rfl | exact congrArg SV.r (congrFun (congrArg get (by omega)) _) | exact congrArg SV.r (congrFun (congrArg one (by omega)) _)
structure QG where
 (p r l w t:Int) (nk:Nat) (k:Nat→Int)
abbrev QG.ks (q:QG):SV:=.r (.rs 1 q.nk λi _=>.i (q.k i))
abbrev QG.sv (q:QG):SV:=.agg [.i q.p,.i q.r,.i q.l,.i q.w,.i q.t,q.ks]
def QG.OK (q:QG):Prop:=(q.nk:Int)<2 ^ 62
def QG.c1 (q:QG):Bool:=kindB q.p&&kindB q.r&&kindB q.l&&persB q.w&&timeB q.t
def QG.c2 (q:QG):Bool:=(List.range q.nk).all λi=>decide (0≤q.k i)&&decide (q.k i≤7)
def QG.c3 (q:QG):Bool:=(List.range (q.nk - 1)).all λi=>decide (q.k i<q.k (i+1))
def QG.cks (q:QG):Bool:=decide ((q.nk:Int)≤2)&&q.c2&&q.c3
def QG.err (q:QG):Int:=if q.c1 then (if q.cks then 0 else 91) else 2
theorem cmpI_lt {x y:Int}:cmpI x y<0↔x<y:=by unfold cmpI;repeat' split <;> omega
theorem rising96 (n:Nat) (hn:(n:Int)<2 ^ 62) (x:Nat→Int) :
 Pure Tryz.prog 381 [.r (.rs 1 n λi _=>.i (x i)),.fn (.func 213) [] []] (· =.b ((List.range (n - 1)).all λi=>decide (x i<x (i+1)))):=by
 refine pure_of_GC T_ok Tryz.func381 rfl (by kernel_rfl) (nb rfl) rfl rfl ?_
 simp[go_sem]
 refine GLoop_of T_ok (α:=Nat) (λk=>[(0,.r (.rs 1 n λi _=>.i (x i))),(1,.fn (.func 213) [] []),(5,.i ((k:Int)+1))]) (λ_=>[]) 0 (λk=>(k=0∨k+1≤n)∧∀j,j<k→x j<x (j+1)) (λk=>n - k) 0 (λ_=>rfl) (by simp) (by simp[go_sem]) (by simp[go_sem]) ?_
 intro k J hi
 simp[go_sem]
 split
 ·rename_i hlt
  refine GDraw_of T_ok (by kernel_rfl) 10 (by kernel_rfl) rfl rfl ?_
  simp[go_sem]
  refine⟨by omega,by omega,⟨by omega,by omega⟩,by omega,?_⟩
  refine call_val (compare97 (x k) (x (k+1))) rfl rfl ?_
  simp[go_sem]
  split
  ·rename_i h0
   refine⟨k,by omega,?_⟩
   have:=cmpI_lt (x:=x k) (y:=x (k+1));omega
  ·rename_i h0
   refine⟨by omega,k+1,⟨by omega,λj hj=>?_⟩,by omega,by simp⟩
   by_cases hjk:j=k
   ·subst hjk;exact cmpI_lt.1 (by omega)
   ·exact hi.2 j (by omega)
 ·rename_i hlt
  intro j hj
  exact hi.2 j (by omega)
theorem checkQuery40 (q:QG) (h:q.OK):Pure Tryz.prog 308 [q.sv] (· =.i q.err):=by
 have hk:(q.nk:Int)<2 ^ 62:=h
 refine pure_of_GC T_ok Tryz.func308 rfl (by kernel_rfl) (nb rfl) rfl rfl ?_
 simp[go_sem]
 refine call_lent (v:=.b (kindB q.p&&kindB q.r&&kindB q.l)) ?_ rfl ?_
 ·simp[go_sem];exact kinds3 rfl rfl rfl
 have fin:∀c:Bool,q.c1=c→q.err=if c then (if q.cks then 0 else 91) else 2:=λc hc=>by rw[QG.err,hc]
 generalize ha:(kindB q.p&&kindB q.r&&kindB q.l)=a
 cases a
 ·simp[go_sem]
  simp[fin false (by simp[QG.c1,ha])]
 simp[go_sem]
 refine call_lent (v:=.b (persB q.w)) ?_ rfl ?_
 ·simp[go_sem];exact people1 rfl
 generalize hb:persB q.w=b
 cases b
 ·simp[go_sem]
  simp[fin false (by simp[QG.c1,ha,hb])]
 simp[go_sem]
 refine call_lent (v:=.b (timeB q.t)) ?_ rfl ?_
 ·simp[go_sem];exact times1 rfl
 generalize hc:timeB q.t=c
 cases c
 ·simp[go_sem]
  simp[fin false (by simp[QG.c1,ha,hb,hc])]
 have fin:=fin true (by simp[QG.c1,ha,hb,hc])
 by_cases h2:(q.nk:Int)≤2
 rotate_left
 ·have h2':2<(q.nk:Int):=by omega
  simp[go_sem,h2']
  simp[fin,QG.cks,h2]
 have h2':¬2<(q.nk:Int):=by omega
 simp[go_sem,h2']
 refine call_val ((from69 0 7 q.nk (by omega) q.k).val (v':=.b q.c2) rfl) rfl rfl ?_
 generalize hd:q.c2=d
 cases d
 ·simp[go_sem]
  simp[fin,QG.cks,hd]
 simp[go_sem]
 refine call_val ((rising96 q.nk hk q.k).val (v':=.b q.c3) rfl) rfl rfl ?_
 generalize he:q.c3=e
 cases e
 ·simp[go_sem]
  simp[fin,QG.cks,he]
 ·simp[go_sem]
  simp[fin,QG.cks,h2,hd,he]
def ask (g:RG) (q:QG):Int:=if g.valid then q.err else 8
def ConG.cov (q:QG) (c:ConG):Bool:=decide (c.p=q.w)&&decide (c.q=q.p)&&decide (q.t<c.u)
def WarG.cov (q:QG) (w:WarG):Bool:=decide (w.l=q.l)&&decide (w.p=q.w)&&btw w.f (w.t - 1) q.t
def RG.hasC (g:RG) (q:QG):Bool:=(List.range g.nc).any λi=>(g.c i).cov q
def RG.hasW (g:RG) (q:QG):Bool:=(List.range g.nw).any λi=>(g.w i).cov q
def QG.at6 (q:QG) (gt:Nat→Nat→RV):Prop:=gt 0 0=.i q.p∧gt 0 1=.i q.r∧gt 0 2=.i q.l∧gt 0 3=.i q.w∧gt 0 4=.i q.t
theorem bases137 (q:QG) (c:ConG) (gt:Nat→Nat→RV) (hgt:q.at6 gt):Pure Tryz.prog 383 [c.sv,.r (.rp 6 1 gt 0 0)] (· =.b (c.cov q)):=by
 refine pure_of_GC T_ok Tryz.func383 rfl (by kernel_rfl) (nb rfl) rfl rfl ?_
 obtain⟨g0,g1,g2,g3,g4⟩:=hgt
 by_cases h1:c.p=q.w
 ·by_cases h2:c.q=q.p
  ·simp[go_sem,g0,g1,g2,g3,g4,h1,h2];simp[ConG.cov,h1,h2]
  ·simp[go_sem,g0,g1,g2,g3,g4,h1,h2];simp[ConG.cov,h1,h2]
 ·simp[go_sem,g0,g1,g2,g3,g4,h1];simp[ConG.cov,h1]
theorem bases136 (g:RG) (q:QG) (h:g.OK):Pure Tryz.prog 382 [g.sv,q.sv] (· =.b (g.hasC q)):=by
 refine pure_of_GC T_ok Tryz.func382 rfl (by kernel_rfl) (nb rfl) rfl rfl ?_
 simp[go_sem]
 refine call_lent (v:=.b (g.hasC q)) ?_ rfl ?_
 ·simp[go_sem]
  exact has120 g.nc (by have:=h.nc;omega) _ (383:FuncId) _ (λi=>(g.c i).cov q) rfl λi hi=>bases137 q (g.c i) _ ⟨rfl,rfl,rfl,rfl,rfl⟩
 ·simp[go_sem]
theorem in69 {lo hi t:Int} {get:Nat→Nat→RV} (h0:get 0 0=.i t):Pure Tryz.prog 105 [.i lo,.i hi,.r (.rs 1 1 get)] (· =.b (btw lo hi t)):=from1 h0
theorem bases139 (q:QG) (w:WarG) (gt:Nat→Nat→RV) (hgt:q.at6 gt) (hw:-(2:Int) ^ 62<w.t) (hw':w.t<2 ^ 62):Pure Tryz.prog 385 [w.sv,.r (.rp 6 1 gt 0 0)] (· =.b (w.cov q)):=by
 refine pure_of_GC T_ok Tryz.func385 rfl (by kernel_rfl) (nb rfl) rfl rfl ?_
 obtain⟨g0,g1,g2,g3,g4⟩:=hgt
 by_cases h1:w.l=q.l
 ·by_cases h2:w.p=q.w
  ·simp[go_sem,g0,g1,g2,g3,g4,h1,h2]
   refine⟨by omega,?_⟩
   refine call_lent (v:=.b (btw w.f (w.t - 1) q.t)) ?_ rfl ?_
   ·simp[go_sem];exact in69 rfl
   ·simp[go_sem];simp[WarG.cov,h1,h2]
  ·simp[go_sem,g0,g1,g2,g3,g4,h1,h2];simp[WarG.cov,h1,h2]
 ·simp[go_sem,g0,g1,g2,g3,g4,h1];simp[WarG.cov,h1]
structure RG.Mid (g:RG):Prop where
 wt:∀i,i<g.nw→-(2:Int) ^ 62<(g.w i).t∧(g.w i).t<2 ^ 62
 rt:∀i,i<g.nr→-(2:Int) ^ 62<(g.r i).t∧(g.r i).t<2 ^ 62∧1≤(g.r i).b∧(g.r i).b≤3
theorem btw_iff {lo hi n:Int}:btw lo hi n=true↔lo≤n∧n≤hi:=by simp[btw]
theorem RG.mid {g:RG} (h:g.valid=true):g.Mid:=by
 simp only [RG.valid,Bool.and_eq_true] at h
 obtain⟨⟨⟨⟨⟨h1,_⟩,h3⟩,_⟩,_⟩,_⟩:=h
 simp only [RG.c1,RG.c3,Bool.and_eq_true,List.all_eq_true,List.mem_range] at h1 h3
 refine⟨λi hi=>?_,λi hi=>?_⟩
 ·have:=h3.2 i hi
  simp only [WarG.good,Bool.and_eq_true,timeB,btw_iff] at this
  omega
 ·have:=h1.2 i hi
  simp only [RuleG.good,Bool.and_eq_true,timeB,btw_iff] at this
  omega
theorem bases138 (g:RG) (q:QG) (h:g.OK) (hm:g.Mid):Pure Tryz.prog 384 [g.sv,q.sv] (· =.b (g.hasW q)):=by
 refine pure_of_GC T_ok Tryz.func384 rfl (by kernel_rfl) (nb rfl) rfl rfl ?_
 simp[go_sem]
 refine call_lent (v:=.b (g.hasW q)) ?_ rfl ?_
 ·simp[go_sem]
  exact has122 g.nw (by have:=h.nw;omega) _ (385:FuncId) _ (λi=>(g.w i).cov q) rfl λi hi=>bases139 q (g.w i) _ ⟨rfl,rfl,rfl,rfl,rfl⟩ (hm.wt i hi).1 (hm.wt i hi).2
 ·simp[go_sem]
theorem bases140 (g:RG) (q:QG):Pure Tryz.prog 386 [g.sv,q.sv] (· =.b true):=by
 refine pure_of_GC T_ok Tryz.func386 rfl (by kernel_rfl) (nb rfl) rfl rfl ?_
 simp[go_sem]
theorem bases126:Pure Tryz.prog 309 [] (· =.agg [.r (.v .nilFunc),.fn (.func 382) [] [],.fn (.func 384) [] [],.fn (.func 386) [] []]):=by
 refine pure_of_GC T_ok Tryz.func309 rfl (by kernel_rfl) (nb rfl) rfl rfl ?_
 simp[go_sem]
def based (g:RG) (q:QG) (b:Int):Bool:=if b=3 then true else if b=1 then g.hasC q else g.hasW q
def ruleB (g:RG) (q:QG) (r:RuleG):Bool:=decide (r.p=q.p)&&decide (r.r=q.r)&&decide (r.l=q.l)&&decide (r.f≤q.t)&&decide (q.t<r.t)&&decide (r.k≤q.nk)&&based g q r.b
def RG.apl (g:RG) (q:QG) (n:Nat):List Nat:=(List.range n).filter λi=>ruleB g q (g.r i)
theorem RG.apl_yes {g:RG} {q:QG} {n:Nat} (h:ruleB g q (g.r n)=true):g.apl q (n+1)=g.apl q n++[n]:=by simp[RG.apl,List.range_succ,h]
theorem RG.apl_no {g:RG} {q:QG} {n:Nat} (h:ruleB g q (g.r n)=false):g.apl q (n+1)=g.apl q n:=by simp[RG.apl,List.range_succ,h]
theorem RG.apl_len (g:RG) (q:QG) (n:Nat):(g.apl q n).length≤n:=by
 have:=List.length_filter_le (λi=>ruleB g q (g.r i)) (List.range n)
 simpa [RG.apl] using this
def RG.lev (g:RG) (q:QG):Nat→Int
 | 0=>0
 | n+1=>if ruleB g q (g.r n) then max (g.lev q n) (g.r n).s else g.lev q n
abbrev QG.bx (q:QG):Option Reg:=some (.box [.i q.p,.i q.r,.i q.l,.i q.w,.i q.t,q.ks])
abbrev basesBox:Option Reg:=some (.box [.r (.v .nilFunc),.fn (.func 382) [] [],.fn (.func 384) [] [],.fn (.func 386) [] []])
def RG.apq (g:RG) (q:QG):List Nat:=if ask g q=0 then g.apl q g.nr else []
theorem ask_valid {g:RG} {q:QG} (h:ask g q=0):g.valid=true∧q.err=0:=by
 unfold ask at h
 split at h
 ·exact⟨by assumption,h⟩
 ·omega
theorem btw_sub {f t x:Int}:btw f (t - 1) x=(decide (f≤x)&&decide (x<t)):=by
 unfold btw;congr 2;exact propext (by omega)
theorem RG.small {g:RG} (h:g.valid=true):g.nr≤20∧g.nc≤40∧g.nw≤20∧g.nm≤40:=by
 simp only [RG.valid,RG.c1,RG.c2,RG.c3,RG.c4,Bool.and_eq_true,decide_eq_true_eq] at h
 omega
theorem natRow_app {l:List Nat} {k i:Nat} {h:Nat→Nat→SV} (hh:h 0 0=.i (k:Int)) (hi:i<l.length+1):joined l.length 1 (λi j=>.r (rowsL natRow l i j)) h i 0=.r (rowsL natRow (l++[k]) i 0):=
 joined_rowsL (k:=1) rfl (by omega) (λj hj=>by obtain rfl:j=0:=by omega
                                               exact hh) hi
theorem applies81 (g:RG) (q:QG) (h:g.OK) (hq:q.OK):Pure Tryz.prog 211 [g.sv,q.sv] (· =.tup [natS (g.apq q),.i (ask g q)]):=by
 refine Pure.ofSub ?_
 refine pure_of_GC T_ok Tryz.func211 rfl (by kernel_rfl) (nb rfl) rfl rfl ?_
 have hr:=h.nr
 simp[go_sem]
 refine call_val (check28 g h) rfl rfl ?_
 by_cases hv:g.valid=true
 rotate_left
 ·have ha:ask g q=8:=by unfold ask;rw[if_neg hv]
  simp[go_sem,hv]
  simp[RG.apq,ha]
 have ha:ask g q=q.err:=by unfold ask;rw[if_pos hv]
 have hm:=RG.mid hv
 have hsm:=(RG.small hv).1
 simp[go_sem,hv]
 refine call_val (checkQuery40 q hq) rfl rfl ?_
 by_cases he:q.err=0
 rotate_left
 ·simp[go_sem,he]
  simp[RG.apq,ha,he]
 simp[go_sem,he]
 refine call_val bases126 rfl rfl ?_
 simp[go_sem]
 refine GLoop_pre (GSt.adopt 8 3 1 (λi j=>.r (rowsL natRow [] i j)) (by simp[go_sem])) ?_
 refine GLoop_s T_ok (α:=Nat) (λk=>[(2,.ptr 0 0 4 0),(3,.ptr 1 0 6 0),(7,.ptr 2 0 4 0),(8,.sl 3 1 0 (g.apl q k).length none),(23,RuleG.rs g.nr g.r),(24,.i g.nr),(25,.i k)])
  (λk=>g.box++[q.bx,basesBox,some (.vec 3 1 (g.apl q k).length λi j=>.r ((rowsL natRow (g.apl q k)) i j))]) 4 (λk=>k≤g.nr) (λk=>g.nr - k) 0 (λ_=>rfl) (by simp) (by simp[go_sem,show g.apl q 0=[] from rfl]) (by simp[go_sem,show g.apl q 0=[] from rfl]) ?_
 intro k J hi
 simp[go_sem]
 split
 rotate_left
 ·rename_i hge
  have hk:k=g.nr:=by omega
  subst hk
  simp[RG.apq,ha,he]
 rename_i hlt
 refine⟨hlt,?_⟩
 have hmk:=hm.rt k hlt
 have hal:=RG.apl_len g q k
 have no:ruleB g q (g.r k)=false→k+1≤g.nr∧g.nr - (k+1)<g.nr - k∧g.apl q (k+1)=g.apl q k:=λh=>⟨by omega,by omega,RG.apl_no h⟩
 have yes:ruleB g q (g.r k)=true→k+1≤g.nr∧g.nr - (k+1)<g.nr - k∧g.apl q (k+1)=g.apl q k++[k]:=λh=>⟨by omega,by omega,RG.apl_yes h⟩
 by_cases e1:(g.r k).p=q.p
 rotate_left
 ·have hn:=no (by simp[ruleB,e1])
  simp[go_sem,e1]
  refine GDraw_all T_ok (by kernel_rfl) (by kernel_rfl) ?_
  simp[go_sem]
  exact⟨by omega,k+1,hn.1,hn.2.1,by simp[hn.2.2],by simp[hn.2.2]⟩
 by_cases e2:(g.r k).r=q.r
 rotate_left
 ·have hn:=no (by simp[ruleB,e1,e2])
  simp[go_sem,e1,e2]
  refine GDraw_all T_ok (by kernel_rfl) (by kernel_rfl) ?_
  simp[go_sem]
  exact⟨by omega,k+1,hn.1,hn.2.1,by simp[hn.2.2],by simp[hn.2.2]⟩
 by_cases e3:(g.r k).l=q.l
 rotate_left
 ·have hn:=no (by simp[ruleB,e1,e2,e3])
  simp[go_sem,e1,e2,e3]
  refine GDraw_all T_ok (by kernel_rfl) (by kernel_rfl) ?_
  simp[go_sem]
  exact⟨by omega,k+1,hn.1,hn.2.1,by simp[hn.2.2],by simp[hn.2.2]⟩
 simp[go_sem,e1,e2,e3]
 refine GDraw_all T_ok (by kernel_rfl) (by kernel_rfl) ?_
 simp[go_sem]
 refine⟨by omega,_,dcall_deep (v:=.b (btw (g.r k).f ((g.r k).t - 1) q.t)) (by simp[go_sem];exact in69 rfl) rfl,?_⟩
 generalize hb:btw (g.r k).f ((g.r k).t - 1) q.t=b
 rw[btw_sub] at hb
 cases b
 ·have hn:=no (by
   simp only [ruleB]
   rw[show(decide ((g.r k).p=q.p)&&decide ((g.r k).r=q.r)&&decide ((g.r k).l=q.l)&&decide ((g.r k).f≤q.t)&&decide (q.t<(g.r k).t))=(decide ((g.r k).p=q.p)&&decide ((g.r k).r=q.r)&&decide ((g.r k).l=q.l)&&(decide ((g.r k).f≤q.t)&&decide (q.t<(g.r k).t))) from by simp[Bool.and_assoc],hb]
   simp)
  simp[go_sem]
  exact⟨by omega,k+1,hn.1,hn.2.1,by simp[hn.2.2],by simp[hn.2.2]⟩
 simp only [Bool.and_eq_true,decide_eq_true_eq] at hb
 obtain⟨e4,e5⟩:=hb
 by_cases e6:(g.r k).k≤q.nk
 rotate_left
 ·have hn:=no (by simp[ruleB,e1,e2,e3,e4,e5,e6])
  simp[go_sem,e6]
  exact⟨by omega,k+1,hn.1,hn.2.1,by simp[hn.2.2],by simp[hn.2.2]⟩
 have hrb:ruleB g q (g.r k)=based g q (g.r k).b:=by simp[ruleB,e1,e2,e3,e4,e5,e6]
 rcases(by omega:(g.r k).b=1∨(g.r k).b=2∨(g.r k).b=3) with e7 | e7 | e7
 ·simp[go_sem,e6,e7]
  refine⟨_,dcall_val (bases136 g q h) rfl rfl,?_⟩
  generalize hb:g.hasC q=b
  have hbs:based g q (g.r k).b=b:=by simp[based,e7,hb]
  cases b
  ·have hn:=no (hrb.trans hbs)
   simp[go_sem]
   exact⟨by omega,k+1,hn.1,hn.2.1,by simp[hn.2.2],by simp[hn.2.2]⟩
  ·have hn:=yes (hrb.trans hbs)
   simp[go_sem]
   refine⟨⟨by omega,by omega⟩,by omega,k+1,hn.1,hn.2.1,by simp[hn.2.2],by simp[hn.2.2],λi hi=>?_⟩
   rw[hn.2.2] at hi ⊢
   rw[natRow_app (k:=k) rfl (by simp at hi;omega)];rfl
 ·simp[go_sem,e6,e7]
  refine⟨_,dcall_val (bases138 g q h hm) rfl rfl,?_⟩
  generalize hb:g.hasW q=b
  have hbs:based g q (g.r k).b=b:=by simp[based,e7,hb]
  cases b
  ·have hn:=no (hrb.trans hbs)
   simp[go_sem]
   exact⟨by omega,k+1,hn.1,hn.2.1,by simp[hn.2.2],by simp[hn.2.2]⟩
  ·have hn:=yes (hrb.trans hbs)
   simp[go_sem]
   refine⟨⟨by omega,by omega⟩,by omega,k+1,hn.1,hn.2.1,by simp[hn.2.2],by simp[hn.2.2],λi hi=>?_⟩
   rw[hn.2.2] at hi ⊢
   rw[natRow_app (k:=k) rfl (by simp at hi;omega)];rfl
 ·simp[go_sem,e6,e7]
  refine⟨_,dcall_val (bases140 g q) rfl rfl,?_⟩
  have hn:=yes (hrb.trans (by simp[based,e7]))
  simp[go_sem]
  refine⟨⟨by omega,by omega⟩,by omega,k+1,hn.1,hn.2.1,by simp[hn.2.2],by simp[hn.2.2],λi hi=>?_⟩
  rw[hn.2.2] at hi ⊢
  rw[natRow_app (k:=k) rfl (by simp at hi;omega)];rfl
def bnd (c:Nat→Int) (n:Nat):Nat:=((List.range n).find? λi=>decide (0≤c i)).getD n
theorem bnd_eq {c:Nat→Int} {n i:Nat} (hi:i≤n) (h1:∀j,j<i→c j<0) (h2:∀j,i≤j→j<n→0≤c j):bnd c n=i:=by
 unfold bnd
 rcases Nat.lt_or_ge i n with h | h
 ·rw[List.find?_range_eq_some.2 ⟨by simpa using h2 i (Nat.le_refl i) h,List.mem_range.2 h,λj hj=>by have:=h1 j hj;simp;omega⟩];rfl
 ·have:i=n:=by omega
  subst this
  rw[List.find?_eq_none.2 λj hj=>by have:=h1 j (List.mem_range.1 hj);simp;omega];rfl
theorem bnd_le {c:Nat→Int} {n:Nat}:bnd c n≤n:=by
 unfold bnd
 cases h:(List.range n).find? λi=>decide (0≤c i) with
 | none=>exact Nat.le_refl n
 | some i=>have:=List.find?_range_eq_some.1 h;have:=List.mem_range.1 this.2.1;simp;omega
def fnd (c:Nat→Int) (n:Nat):Bool:=decide (bnd c n<n)&&decide (c (bnd c n)=0)
theorem mid_eq {i j:Nat} (h:i+j<9223372036854775808):IntKind.i64.wrap (Int.fdiv (IntKind.u64.wrap ((i:Int)+(j:Int))) 2)=(((i+j) / 2:Nat):Int):=by
 rw[wrap_inr (k:=.u64) (by simp only [inr];omega),Int.fdiv_eq_ediv_of_nonneg _ (by omega),wrap_inr (k:=.i64) (by simp only [inr];omega)]
 omega
theorem search67 (n:Nat) (hn:(n:Int)<2 ^ 61) (get:Nat→Nat→RV) (t0 t1 t2 t3 t4:Int) (g:FuncId) (c:Nat→Int) (hm:∀a b,a<b→b<n→c b<0→c a<0)
 (hp:∀i,i<n→Pure Tryz.prog g [.agg [.r (get i 0),.r (get i 1),.r (get i 2),.r (get i 3),.r (get i 4)],.agg [.i t0,.i t1,.i t2,.i t3,.i t4]] (· =.i (c i))) :
 Pure Tryz.prog 103 [.r (.rs 5 n get),.agg [.i t0,.i t1,.i t2,.i t3,.i t4],.fn (.func g) [] []] (· =.tup [.i (bnd c n:Nat),.b (fnd c n)]):=by
 refine pure_of_GC T_ok Tryz.func103 rfl (by kernel_rfl) (nb rfl) rfl rfl ?_
 simp[go_sem]
 refine GLoop_of T_ok (α:=Nat × Nat) (λx=>[(0,.r (.rs 5 n get)),(2,.fn (.func g) [] []),(4,.ptr 0 0 5 0),(8,.i n),(9,.i x.1),(10,.i x.2)]) (λ_=>[some (.box [.i t0,.i t1,.i t2,.i t3,.i t4])]) 1
  (λx=>x.1≤x.2∧x.2≤n∧(∀j,j<x.1→c j<0)∧∀j,x.2≤j→j<n→0≤c j) (λx=>x.2 - x.1) (0,n) (λ_=>rfl) (by simp;omega) (by simp[go_sem]) (by simp[go_sem]) ?_
 rintro⟨i,j⟩ J ⟨h1,h2,h3,h4⟩
 dsimp only at h1 h2 h3 h4
 simp[go_sem]
 split
 ·rename_i hlt
  refine⟨by omega,?_⟩
  rw[mid_eq (by omega)]
  generalize hh:(i+j) / 2=h
  have hb:i≤h∧h<j:=by omega
  refine GDraw_all T_ok (by kernel_rfl) (by kernel_rfl) ?_
  simp[go_sem]
  refine⟨by omega,_,dcall_val (hp h (by omega)) rfl rfl,?_⟩
  simp[go_sem]
  split
  ·rename_i hc
   refine⟨by omega,h+1,j,⟨by omega,h2,λk hk=>?_,h4⟩,by omega,by simp⟩
   by_cases hkh:k=h
   ·subst hkh;exact hc
   ·exact hm k h (by omega) (by omega) hc
  ·rename_i hc
   refine⟨i,h,⟨by omega,by omega,h3,λk hk hkn=>?_⟩,by omega,by simp⟩
   rcases Int.lt_or_le (c k) 0 with hneg | hpos
   ·exfalso
    by_cases hkh:k=h
    ·subst hkh;omega
    ·have:=hm h k (by omega) hkn hneg;omega
   ·exact hpos
 ·rename_i hge
  have hij:i=j:=by omega
  subst hij
  have hbd:=bnd_eq h2 h3 h4
  refine GDraw_all T_ok (by kernel_rfl) (by kernel_rfl) ?_
  by_cases hin:i<n
  ·simp[go_sem,hin]
   refine⟨_,dcall_val (hp i hin) rfl rfl,?_⟩
   simp[go_sem]
   simp[fnd,hbd,hin]
  ·simp[go_sem,hin]
   simp[fnd,hbd,hin]
theorem search89 (n:Nat) (hn:(n:Int)<2 ^ 61) (get:Nat→Nat→RV) (t0 t1 t2:Int) (g:FuncId) (c:Nat→Int) (hm:∀a b,a<b→b<n→c b<0→c a<0)
 (hp:∀i,i<n→Pure Tryz.prog g [.agg [.r (get i 0),.r (get i 1),.r (get i 2)],.agg [.i t0,.i t1,.i t2]] (· =.i (c i))) :
 Pure Tryz.prog 447 [.r (.rs 3 n get),.agg [.i t0,.i t1,.i t2],.fn (.func g) [] []] (· =.tup [.i (bnd c n:Nat),.b (fnd c n)]):=by
 refine pure_of_GC T_ok Tryz.func447 rfl (by kernel_rfl) (nb rfl) rfl rfl ?_
 simp[go_sem]
 refine GLoop_of T_ok (α:=Nat × Nat) (λx=>[(0,.r (.rs 3 n get)),(2,.fn (.func g) [] []),(4,.ptr 0 0 3 0),(8,.i n),(9,.i x.1),(10,.i x.2)]) (λ_=>[some (.box [.i t0,.i t1,.i t2])]) 1
  (λx=>x.1≤x.2∧x.2≤n∧(∀j,j<x.1→c j<0)∧∀j,x.2≤j→j<n→0≤c j) (λx=>x.2 - x.1) (0,n) (λ_=>rfl) (by simp;omega) (by simp[go_sem]) (by simp[go_sem]) ?_
 rintro⟨i,j⟩ J ⟨h1,h2,h3,h4⟩
 dsimp only at h1 h2 h3 h4
 simp[go_sem]
 split
 ·rename_i hlt
  refine⟨by omega,?_⟩
  rw[mid_eq (by omega)]
  generalize hh:(i+j) / 2=h
  have hb:i≤h∧h<j:=by omega
  refine GDraw_all T_ok (by kernel_rfl) (by kernel_rfl) ?_
  simp[go_sem]
  refine⟨by omega,_,dcall_val (hp h (by omega)) rfl rfl,?_⟩
  simp[go_sem]
  split
  ·rename_i hc
   refine⟨by omega,h+1,j,⟨by omega,h2,λk hk=>?_,h4⟩,by omega,by simp⟩
   by_cases hkh:k=h
   ·subst hkh;exact hc
   ·exact hm k h (by omega) (by omega) hc
  ·rename_i hc
   refine⟨i,h,⟨by omega,by omega,h3,λk hk hkn=>?_⟩,by omega,by simp⟩
   rcases Int.lt_or_le (c k) 0 with hneg | hpos
   ·exfalso
    by_cases hkh:k=h
    ·subst hkh;omega
    ·have:=hm h k (by omega) hkn hneg;omega
   ·exact hpos
 ·rename_i hge
  have hij:i=j:=by omega
  subst hij
  have hbd:=bnd_eq h2 h3 h4
  refine GDraw_all T_ok (by kernel_rfl) (by kernel_rfl) ?_
  by_cases hin:i<n
  ·simp[go_sem,hin]
   refine⟨_,dcall_val (hp i hin) rfl rfl,?_⟩
   simp[go_sem]
   simp[fnd,hbd,hin]
  ·simp[go_sem,hin]
   simp[fnd,hbd,hin]
def RG.lvl (g:RG) (l:List Nat):Int:=l.foldl (λa i=>max a (g.r i).s) 0
theorem RG.lvl_apl (g:RG) (q:QG):∀n,g.lvl (g.apl q n)=g.lev q n
 | 0=>rfl
 | n+1=>by
   simp only [RG.lev]
   by_cases h:ruleB g q (g.r n)=true
   ·rw[if_pos h,RG.apl_yes h,RG.lvl,List.foldl_append]
    show max (g.lvl (g.apl q n)) _=_
    rw[RG.lvl_apl g q n]
   ·rw[if_neg h,RG.apl_no (by simpa using h),RG.lvl_apl g q n]
def RG.levq (g:RG) (q:QG):Int:=if ask g q=0 then g.lev q g.nr else 0
theorem RG.lvl_apq (g:RG) (q:QG):g.lvl (g.apq q)=g.levq q:=by
 unfold RG.apq RG.levq
 split
 ·exact RG.lvl_apl g q _
 ·rfl
theorem RG.apq_lt {g:RG} {q:QG} {i:Nat} (h:i∈g.apq q):i<g.nr:=by
 unfold RG.apq at h
 split at h
 ·simp[RG.apl] at h;exact h.1
 ·simp at h
theorem RG.apq_len (g:RG) (q:QG):(g.apq q).length≤g.nr:=by
 unfold RG.apq
 split
 ·exact RG.apl_len g q _
 ·simp
theorem level29 (g:RG) (q:QG) (h:g.OK) (hq:q.OK):Pure Tryz.prog 102 [g.sv,q.sv] (· =.tup [.i (g.levq q),.i (ask g q)]):=by
 refine pure_of_GC T_ok Tryz.func102 rfl (by kernel_rfl) (nb rfl) rfl rfl ?_
 have hr:=h.nr
 have hlen:=RG.apq_len g q
 simp[go_sem]
 refine call_val (applies81 g q h hq) rfl rfl ?_
 rw[← RG.lvl_apq]
 have hlt:=λi=>@RG.apq_lt g q i
 generalize hL:g.apq q=L at *
 simp[go_sem]
 refine GLoop_of T_ok (α:=Nat) (λk=>[(2,.ptr 0 0 4 0),(7,.i (ask g q)),(8,.i (g.lvl (L.take k))),(17,natS L),(18,.i L.length),(19,.i k)]) (λ_=>g.box) 1 (λk=>k≤L.length) (λk=>L.length - k) 0 (λ_=>rfl) (by simp) (by simp[go_sem];rfl) (by simp[go_sem]) ?_
 intro k J hi
 simp[go_sem]
 split
 ·rename_i hk
  have hm:=hlt _ (List.getElem_mem hk)
  have hg:rowsL natRow L k 0=.i (L[k]:Nat):=rowsL_get (List.getElem?_eq_getElem hk) 0
  simp[go_sem,hg]
  refine⟨hk,hm,by omega,k+1,by omega,by omega,?_,by simp⟩
  rw[List.take_succ_eq_append_getElem hk,RG.lvl,RG.lvl,List.foldl_append]
  rfl
 ·rename_i hk
  rw[List.take_of_length_le (by omega)]
theorem applies31 (g:RG) (q:QG) (h:g.OK) (hq:q.OK):Pure Tryz.prog 344 [g.sv,q.sv] (· =.tup [natS (g.apq q),.i (ask g q)]):=by
 refine pure_of_GC T_ok Tryz.func344 rfl (by kernel_rfl) (nb rfl) rfl rfl ?_
 simp[go_sem]
 refine call_val (applies81 g q h hq) rfl rfl ?_
 simp[go_sem]
theorem lex_lt {a b c d:Int}:lex (cmpI a c) (cmpI b d)<0↔a<c∨a=c∧b<d:=by unfold lex cmpI;repeat' split <;> omega
theorem lex_eq {a b c d:Int}:lex (cmpI a c) (cmpI b d)=0↔a=c∧b=d:=by unfold lex cmpI;repeat' split <;> omega
theorem chain {n:Nat} {R:Nat→Nat→Prop} (tr:∀a b c,R a b→R b c→R a c) (h:∀i,i+1<n→R i (i+1)):∀d i,i+d+1<n→R i (i+d+1)
 | 0,i,hi=>h i hi
 | d+1,i,hi=>tr _ _ _ (chain tr h d i (by omega)) (h (i+d+1) (by omega))
theorem chain' {n:Nat} {R:Nat→Nat→Prop} (tr:∀a b c,R a b→R b c→R a c) (h:∀i,i+1<n→R i (i+1)) {i j:Nat} (hij:i<j) (hj:j<n):R i j:=by
 have:=chain tr h (j - i - 1) i (by omega)
 rwa [show i+(j - i - 1)+1=j from by omega] at this
def ConG.ltP (x y:ConG):Prop:=x.p<y.p∨x.p=y.p∧x.q<y.q
def MarkG.ltP (x y:MarkG):Prop:=x.l<y.l∨x.l=y.l∧x.p<y.p
theorem RG.sortM {g:RG} (h:g.c6=true) {i j:Nat} (hij:i<j) (hj:j<g.nm):(g.m i).ltP (g.m j):=by
 simp only [RG.c6,List.all_eq_true,List.mem_range,MarkG.lt,decide_eq_true_eq,lex_lt] at h
 refine chain' (n:=g.nm) (R:=λi j=>(g.m i).ltP (g.m j)) (λa b c h1 h2=>?_) (λi hi=>h i (by omega)) hij hj
 unfold MarkG.ltP at *;omega
theorem RG.sortC {g:RG} (h:g.c5=true) {i j:Nat} (hij:i<j) (hj:j<g.nc):(g.c i).ltP (g.c j):=by
 simp only [RG.c5,List.all_eq_true,List.mem_range,ConG.lt,decide_eq_true_eq,lex_lt] at h
 refine chain' (n:=g.nc) (R:=λi j=>(g.c i).ltP (g.c j)) (λa b c h1 h2=>?_) (λi hi=>h i (by omega)) hij hj
 unfold ConG.ltP at *;omega
theorem RG.v5 {g:RG} (h:g.valid=true):g.c5=true:=by simp only [RG.valid,Bool.and_eq_true] at h;exact h.1.2
theorem RG.v6 {g:RG} (h:g.valid=true):g.c6=true:=by simp only [RG.valid,Bool.and_eq_true] at h;exact h.2
def RG.cm (g:RG) (l p:Int) (i:Nat):Int:=lex (cmpI (g.m i).l l) (cmpI (g.m i).p p)
theorem RG.cm_mono {g:RG} (h:g.c6=true) (l p:Int):∀a b,a<b→b<g.nm→g.cm l p b<0→g.cm l p a<0:=by
 intro a b hab hb hc
 have:=RG.sortM h hab hb
 simp only [RG.cm,lex_lt,MarkG.ltP] at *
 omega
theorem RG.cm_at {g:RG} (h:g.c6=true) {l p:Int} {i:Nat} (hi:i<g.nm) (h1:(g.m i).l=l) (h2:(g.m i).p=p):bnd (g.cm l p) g.nm=i:=by
 refine bnd_eq (by omega) (λj hj=>?_) (λj hj hn=>?_)
 ·have:=RG.sortM h hj hi
  simp only [RG.cm,lex_lt,MarkG.ltP] at *
  omega
 ·rcases Nat.lt_or_ge i j with hij | hij
  ·have:=RG.sortM h hij hn
   rcases Int.lt_or_le (g.cm l p j) 0 with hc | hc
   ·simp only [RG.cm,lex_lt,MarkG.ltP] at *
    omega
   ·exact hc
  ·have:j=i:=by omega
   subst this
   have:g.cm l p j=0:=lex_eq.2 ⟨h1,h2⟩
   omega
theorem RG.cm_fnd {g:RG} {l p:Int} (h:fnd (g.cm l p) g.nm=true):bnd (g.cm l p) g.nm<g.nm∧(g.m (bnd (g.cm l p) g.nm)).l=l∧(g.m (bnd (g.cm l p) g.nm)).p=p:=by
 simp only [fnd,Bool.and_eq_true,decide_eq_true_eq] at h
 exact⟨h.1,lex_eq.1 h.2⟩
def onB (q:QG) (m:MarkG):Bool:=decide (m.l=q.l)&&decide (m.p=q.w)&&decide (m.s≤q.t)&&decide (q.t<m.u)
def RG.onM (g:RG) (q:QG):Option MarkG:=((List.range g.nm).find? λi=>onB q (g.m i)).map g.m
theorem RG.onM_some {g:RG} {q:QG} (h:g.c6=true) {i:Nat} (hi:i<g.nm) (hb:onB q (g.m i)=true):g.onM q=some (g.m i):=by
 unfold RG.onM
 rw[List.find?_range_eq_some.2 ⟨hb,List.mem_range.2 hi,λj hj=>?_⟩]
 ·rfl
 ·have:=RG.sortM h hj hi
  simp[onB] at hb ⊢
  unfold MarkG.ltP at this
  omega
theorem RG.onM_none {g:RG} {q:QG} (h:∀i,i<g.nm→onB q (g.m i)=false):g.onM q=none:=by
 unfold RG.onM
 rw[List.find?_eq_none.2 λi hi=>by simp[h i (List.mem_range.1 hi)]]
 rfl
def RG.aerr (g:RG) (q:QG):Int:=if ask g q≠0 then ask g q else if g.lev q g.nr=0 then 90 else 0
def RG.aL (g:RG) (q:QG):Int:=if g.aerr q=0 then g.lev q g.nr else 0
def RG.aO (g:RG) (q:QG):Bool:=decide (g.aerr q=0)&&(g.onM q).isSome
def RG.aS (g:RG) (q:QG):Int:=if g.aerr q=0∧2≤g.lev q g.nr then (g.onM q).elim 0 (·.s) else 0
def RG.aN (g:RG) (q:QG):Int:=if g.aerr q=0∧g.lev q g.nr=3 then (g.onM q).elim 0 (·.n) else 0
abbrev RG.rep (g:RG) (q:QG):SV:=.agg [.i (g.aL q),.b (g.aO q),.i (g.aS q),.i (g.aN q)]
theorem RG.lev_bd {g:RG} (h:g.valid=true) (q:QG):∀n,n≤g.nr→0≤g.lev q n∧g.lev q n≤3
 | 0,_=>by simp[RG.lev]
 | n+1,hn=>by
   have ih:=RG.lev_bd h q n (by omega)
   have hs:1≤(g.r n).s∧(g.r n).s≤3:=by
    simp only [RG.valid,RG.c1,Bool.and_eq_true,List.all_eq_true,List.mem_range] at h
    have:=h.1.1.1.1.1.2 n (by omega)
    simp only [RuleG.good,Bool.and_eq_true,btw_iff] at this
    omega
   simp only [RG.lev]
   split <;> omega
theorem RG.ans_no {g:RG} {q:QG} (h:g.aerr q≠0):g.rep q=.agg [.i 0,.b false,.i 0,.i 0]:=by simp[RG.rep,RG.aL,RG.aO,RG.aS,RG.aN,h]
theorem RG.ans_base {g:RG} {q:QG} (h:g.aerr q=0) (hm:g.onM q=none):g.rep q=.agg [.i (g.lev q g.nr),.b false,.i 0,.i 0]:=by simp[RG.rep,RG.aL,RG.aO,RG.aS,RG.aN,h,hm]
theorem RG.ans_full {g:RG} {q:QG} {m:MarkG} (h:g.aerr q=0) (hm:g.onM q=some m):g.rep q=.agg [.i (g.lev q g.nr),.b true,.i (if 2≤g.lev q g.nr then m.s else 0),.i (if g.lev q g.nr=3 then m.n else 0)]:=by
 simp[RG.rep,RG.aL,RG.aO,RG.aS,RG.aN,h,hm]
theorem answer26 (g:RG) (q:QG) (h:g.OK) (hq:q.OK):Pure Tryz.prog 49 [g.sv,q.sv] (· =.tup [g.rep q,.i (g.aerr q)]):=by
 refine pure_of_GC T_ok Tryz.func49 rfl (by kernel_rfl) (nb rfl) rfl rfl ?_
 simp[go_sem]
 refine call_val (level29 g q h hq) rfl rfl ?_
 by_cases ha:ask g q=0
 rotate_left
 ·have he:g.aerr q=ask g q:=by simp[RG.aerr,ha]
  have hr:g.rep q=_:=RG.ans_no (by rw[he];exact ha)
  have hl:g.levq q=0:=by simp[RG.levq,ha]
  simp[go_sem,ha,hl]
  rw[← he]
  simp[RG.rep] at hr
  simp[hr]
 have hl:g.levq q=g.lev q g.nr:=by simp[RG.levq,ha]
 have hv:=(ask_valid ha).1
 have hbd:=RG.lev_bd hv q g.nr (by omega)
 rw[hl]
 by_cases h0:g.lev q g.nr=0
 ·have he:g.aerr q=90:=by simp[RG.aerr,ha,h0]
  have hr:g.rep q=_:=RG.ans_no (by rw[he];decide)
  simp[go_sem,ha,h0]
  simp[RG.rep] at hr
  simp[he,hr]
 have he:g.aerr q=0:=by simp[RG.aerr,ha,h0]
 have h6:=RG.v6 hv
 have hsm:=(RG.small hv).2.2.2
 have hgood:∀i,i<g.nm→-(2:Int) ^ 62<(g.m i).u∧(g.m i).u<2 ^ 62:=by
  intro i hi
  simp only [RG.valid,RG.c4,Bool.and_eq_true,List.all_eq_true,List.mem_range] at hv
  have:=hv.1.1.2.2 i hi
  simp only [MarkG.good,Bool.and_eq_true,timeB,btw_iff] at this
  omega
 simp[go_sem,ha,h0]
 refine call_val (search67 g.nm (by omega) _ q.l q.w 0 0 0 (104:FuncId) (g.cm q.l q.w) (RG.cm_mono h6 _ _) (λi hi=>less68 (g.m i) ⟨q.l,q.w,0,0,0⟩)) rfl rfl ?_
 generalize hf:fnd (g.cm q.l q.w) g.nm=f
 generalize hp:bnd (g.cm q.l q.w) g.nm=p
 have base:g.onM q=none→g.rep q=_:=RG.ans_base he
 cases f
 ·have hn:g.onM q=none:=RG.onM_none λi hi=>by
   cases hb:onB q (g.m i) with
   | false=>rfl
   | true=>
     exfalso
     simp[onB] at hb
     have:=RG.cm_at h6 hi hb.1.1.1 hb.1.1.2
     have h2:g.cm q.l q.w i=0:=lex_eq.2 ⟨hb.1.1.1,hb.1.1.2⟩
     simp[fnd,this,hi,h2] at hf
  have hr:=base hn
  simp[RG.rep] at hr
  simp[go_sem]
  refine GDraw_all T_ok (by kernel_rfl) (by kernel_rfl) ?_
  simp[go_sem]
  simp[he,hr]
 obtain⟨f1,f2,f3⟩:=RG.cm_fnd hf
 rw[hp] at f1 f2 f3
 have hg:=hgood p f1
 simp[go_sem]
 refine GDraw_all T_ok (by kernel_rfl) (by kernel_rfl) ?_
 simp[go_sem]
 refine⟨f1,by omega,_,dcall_deep (v:=.b (btw (g.m p).s ((g.m p).u - 1) q.t)) (by simp[go_sem];exact in69 rfl) rfl,?_⟩
 generalize hb:btw (g.m p).s ((g.m p).u - 1) q.t=b
 rw[btw_sub] at hb
 cases b
 ·have hn:g.onM q=none:=RG.onM_none λi hi=>by
   cases hb':onB q (g.m i) with
   | false=>rfl
   | true=>
     exfalso
     simp[onB] at hb'
     have:=RG.cm_at h6 hi hb'.1.1.1 hb'.1.1.2
     rw[hp] at this
     subst this
     simp at hb
     omega
  have hr:=base hn
  simp[RG.rep] at hr
  simp[go_sem]
  simp[he,hr]
 have hs:g.onM q=some (g.m p):=RG.onM_some h6 f1 (by simp at hb;simp[onB,f2,f3,hb])
 have hr:=RG.ans_full he hs
 simp[RG.rep] at hr
 simp[go_sem,f1]
 rcases(by omega:g.lev q g.nr=1∨g.lev q g.nr=2∨g.lev q g.nr=3) with hl | hl | hl
 ·simp[go_sem,hl,f1];simp[he,hr,hl]
 ·simp[go_sem,hl,f1];simp[he,hr,hl]
 ·simp[go_sem,hl,f1];simp[he,hr,hl]
theorem idx_cases (p:Nat→Bool) (n:Nat):(idx p n=-1∧∀j,j<n→p j=false)∨∃i,i<n∧p i=true∧(∀j,j<i→p j=false)∧idx p n=i:=by
 unfold idx
 cases h:(List.range n).find? p with
 | none=>
   have:=List.find?_eq_none.1 h
   exact .inl ⟨rfl,λj hj=>by simpa using this j (List.mem_range.2 hj)⟩
 | some i=>
   obtain⟨h1,h2,h3⟩:=List.find?_range_eq_some.1 h
   exact .inr ⟨i,List.mem_range.1 h2,h1,λj hj=>by simpa using h3 j hj,rfl⟩
def kept (p:Nat→Bool) (n:Nat):List Nat:=(List.range n).filter λi=>!p i
theorem kept_succ (p:Nat→Bool) (n:Nat):kept p (n+1)=kept p n++if p n then [] else [n]:=by
 unfold kept
 rw[List.range_succ,List.filter_append]
 cases h:p n <;> simp[h]
theorem kept_le (p:Nat→Bool) (n:Nat):(kept p n).length≤n:=by
 unfold kept
 exact Nat.le_trans (List.length_filter_le _ _) (by simp)
theorem kept_all {p:Nat→Bool} {n:Nat} (h:∀j,j<n→p j=false):kept p n=List.range n:=by
 unfold kept
 exact List.filter_eq_self.2 λa ha=>by simp[h a (List.mem_range.1 ha)]
def keptR (get:Nat→Nat→RV) (p:Nat→Bool) (j:Nat):Nat→Nat→RV:=λi c=>if i<(kept p j).length then rowsL get (kept p j) i c else get i c
theorem keptR_ge {get:Nat→Nat→RV} {p:Nat→Bool} {j i c:Nat} (h:(kept p j).length≤i):keptR get p j i c=get i c:=if_neg (by omega)
theorem keptR_put {get:Nat→Nat→RV} {p:Nat→Bool} {j i c:Nat} (h:p j=false):keptR get p (j+1) i c=if i=(kept p j).length then get j c else keptR get p j i c:=by
 have hs:kept p (j+1)=kept p j++[j]:=by rw[kept_succ,h];simp
 unfold keptR rowsL
 rw[hs]
 by_cases h1:i=(kept p j).length
 ·subst h1;simp
 ·rw[if_neg h1]
  by_cases h2:i<(kept p j).length
  ·rw[if_pos h2,if_pos (by simp;omega),List.getElem?_append_left h2]
  ·rw[if_neg h2,if_neg (by simp;omega)]
theorem delf52 (n:Nat) (hn:n≤1000000) (get:Nat→Nat→RV) (g:FuncId) (c:RV) (p:Nat→Bool) (ho:∀i j,i<n→j<3→(SV.r (get i j)).one=true) (hp:∀i,i<n→Pure Tryz.prog g [.agg [.r (get i 0),.r (get i 1),.r (get i 2)],.r c] (· =.b (p i))) :
 Own Tryz.prog 124 [.vec 59 3 n λi j=>.r (get i j)] [.sl 0 3 0 n none,.fn (.func g) [] [.r c]] (.sl 0 3 0 (kept p n).length none) [.vec 59 3 (kept p n).length λi j=>.r ((rowsL get (kept p n)) i j)]:=by
 refine own_of_GC T_ok Tryz.func124 rfl (by kernel_rfl) (nb rfl) rfl rfl ?_
 simp[go_sem]
 refine call_lent (v:=.i (idx p n)) ?_ rfl ?_
 ·simp[go_sem]
  exact idx110 n (by omega) get g [.r c] p rfl hp
 rcases idx_cases p n with ⟨h1,h2⟩ | ⟨i0,h1,h2,h3,h4⟩
 ·rw[h1]
  simp[go_sem]
  refine⟨[0],by simp,λN=>⟨?_,?_⟩⟩
  ·simp[go_sem,kept_all h2]
  ·simp[go_sem,kept_all h2]
   intro i j hi hj
   exact(rowsL_get (by simp[hi]) j).symm
 rw[h4]
 simp[go_sem]
 have hk0:kept p i0=List.range i0:=kept_all h3
 have hk1:kept p (i0+1)=List.range i0:=by rw[kept_succ,hk0,h2];simp
 refine⟨by omega,?_⟩
 refine GLoop_s T_ok (α:=Nat) (λj=>[(0,.sl 0 3 0 n none),(1,.fn (.func g) [] [.r c]),(5,.i (kept p j).length),(6,.i j)]) (λj=>[some (.vec 59 3 n λi' j'=>.r ((keptR get p j) i' j'))]) 1 (λj=>j≤n∧(kept p j).length<j) (λj=>n - j) (i0+1) (λ_=>rfl) ⟨by omega,by rw[hk1];simp⟩ (by simp[go_sem,hk1]) (by
  simp[go_sem]
  intro i j hi hj
  unfold keptR
  rw[hk1]
  split
  ·rename_i h
   exact(rowsL_get (by simp at h;simp[h]) j).symm
  ·rfl) ?_
 intro j J hi
 have hkn:=kept_le p j
 have hq:∀c,keptR get p j j c=get j c:=λc=>keptR_ge hkn
 simp[go_sem,hq]
 split
 ·rename_i hlt
  refine⟨by omega,⟨by simpa [SV.one] using ho j 0 hlt (by decide),by simpa [SV.one] using ho j 1 hlt (by decide),by simpa [SV.one] using ho j 2 hlt (by decide)⟩,?_⟩
  refine call_val (hp j hlt) rfl rfl ?_
  simp[go_sem]
  cases hpj:p j
  ·simp[go_sem]
   have hs:kept p (j+1)=kept p j++[j]:=by rw[kept_succ,hpj];simp
   refine⟨by omega,⟨⟨by simpa [SV.one] using ho j 0 hlt (by decide),by simpa [SV.one] using ho j 1 hlt (by decide),by simpa [SV.one] using ho j 2 hlt (by decide)⟩,by omega⟩,by omega,by omega,j+1,⟨by omega,by rw[hs];simp;omega⟩,by omega,⟨by rw[hs];simp,by omega⟩,λi c hi hc=>?_⟩
   rw[keptR_put hpj]
   by_cases hil:i=(kept p j).length
   ·rw[if_pos ⟨hil,hc⟩,if_pos hil]
    have hcc:c=0∨c=1∨c=2:=by omega
    rcases hcc with rfl | rfl | rfl <;> simp[toRV_r,SV.trim]
   ·rw[if_neg (λh=>hil h.1),if_neg hil];all_goals rfl
  ·simp[go_sem]
   have hs:kept p (j+1)=kept p j:=by rw[kept_succ,hpj];simp
   refine⟨by omega,j+1,⟨by omega,by rw[hs];omega⟩,by omega,⟨by rw[hs],by omega⟩,λi c hi hc=>?_⟩
   unfold keptR
   rw[hs]
 ·rename_i hlt
  have hjn:j=n:=by omega
  subst hjn
  refine⟨by omega,by omega,by omega,[0],by simp,λN=>⟨?_,?_⟩⟩
  ·simp[go_sem]
  ·simp[go_sem]
   refine⟨by omega,λi c hi hc=>?_⟩
   rw[if_neg (by omega)]
   exact congrArg SV.r (if_pos hi)
theorem delf54 (n:Nat) (hn:n≤1000000) (get:Nat→Nat→RV) (g:FuncId) (c:RV) (p:Nat→Bool) (ho:∀i j,i<n→j<4→(SV.r (get i j)).one=true) (hp:∀i,i<n→Pure Tryz.prog g [.agg [.r (get i 0),.r (get i 1),.r (get i 2),.r (get i 3)],.r c] (· =.b (p i))) :
 Own Tryz.prog 126 [.vec 57 4 n λi j=>.r (get i j)] [.sl 0 4 0 n none,.fn (.func g) [] [.r c]] (.sl 0 4 0 (kept p n).length none) [.vec 57 4 (kept p n).length λi j=>.r ((rowsL get (kept p n)) i j)]:=by
 refine own_of_GC T_ok Tryz.func126 rfl (by kernel_rfl) (nb rfl) rfl rfl ?_
 simp[go_sem]
 refine call_lent (v:=.i (idx p n)) ?_ rfl ?_
 ·simp[go_sem]
  exact idx111 n (by omega) get g [.r c] p rfl hp
 rcases idx_cases p n with ⟨h1,h2⟩ | ⟨i0,h1,h2,h3,h4⟩
 ·rw[h1]
  simp[go_sem]
  refine⟨[0],by simp,λN=>⟨?_,?_⟩⟩
  ·simp[go_sem,kept_all h2]
  ·simp[go_sem,kept_all h2]
   intro i j hi hj
   exact(rowsL_get (by simp[hi]) j).symm
 rw[h4]
 simp[go_sem]
 have hk0:kept p i0=List.range i0:=kept_all h3
 have hk1:kept p (i0+1)=List.range i0:=by rw[kept_succ,hk0,h2];simp
 refine⟨by omega,?_⟩
 refine GLoop_s T_ok (α:=Nat) (λj=>[(0,.sl 0 4 0 n none),(1,.fn (.func g) [] [.r c]),(5,.i (kept p j).length),(6,.i j)]) (λj=>[some (.vec 57 4 n λi' j'=>.r ((keptR get p j) i' j'))]) 1 (λj=>j≤n∧(kept p j).length<j) (λj=>n - j) (i0+1) (λ_=>rfl) ⟨by omega,by rw[hk1];simp⟩ (by simp[go_sem,hk1]) (by
  simp[go_sem]
  intro i j hi hj
  unfold keptR
  rw[hk1]
  split
  ·rename_i h
   exact(rowsL_get (by simp at h;simp[h]) j).symm
  ·rfl) ?_
 intro j J hi
 have hkn:=kept_le p j
 have hq:∀c,keptR get p j j c=get j c:=λc=>keptR_ge hkn
 simp[go_sem,hq]
 split
 ·rename_i hlt
  refine⟨by omega,⟨by simpa [SV.one] using ho j 0 hlt (by decide),by simpa [SV.one] using ho j 1 hlt (by decide),by simpa [SV.one] using ho j 2 hlt (by decide),by simpa [SV.one] using ho j 3 hlt (by decide)⟩,?_⟩
  refine call_val (hp j hlt) rfl rfl ?_
  simp[go_sem]
  cases hpj:p j
  ·simp[go_sem]
   have hs:kept p (j+1)=kept p j++[j]:=by rw[kept_succ,hpj];simp
   refine⟨by omega,⟨⟨by simpa [SV.one] using ho j 0 hlt (by decide),by simpa [SV.one] using ho j 1 hlt (by decide),by simpa [SV.one] using ho j 2 hlt (by decide),by simpa [SV.one] using ho j 3 hlt (by decide)⟩,by omega⟩,by omega,by omega,j+1,⟨by omega,by rw[hs];simp;omega⟩,by omega,⟨by rw[hs];simp,by omega⟩,λi c hi hc=>?_⟩
   rw[keptR_put hpj]
   by_cases hil:i=(kept p j).length
   ·rw[if_pos ⟨hil,hc⟩,if_pos hil]
    have hcc:c=0∨c=1∨c=2∨c=3:=by omega
    rcases hcc with rfl | rfl | rfl | rfl <;> simp[toRV_r,SV.trim]
   ·rw[if_neg (λh=>hil h.1),if_neg hil];all_goals rfl
  ·simp[go_sem]
   have hs:kept p (j+1)=kept p j:=by rw[kept_succ,hpj];simp
   refine⟨by omega,j+1,⟨by omega,by rw[hs];omega⟩,by omega,⟨by rw[hs],by omega⟩,λi c hi hc=>?_⟩
   unfold keptR
   rw[hs]
 ·rename_i hlt
  have hjn:j=n:=by omega
  subst hjn
  refine⟨by omega,by omega,by omega,[0],by simp,λN=>⟨?_,?_⟩⟩
  ·simp[go_sem]
  ·simp[go_sem]
   refine⟨by omega,λi c hi hc=>?_⟩
   rw[if_neg (by omega)]
   exact congrArg SV.r (if_pos hi)
theorem delf56 (n:Nat) (hn:n≤1000000) (get:Nat→Nat→RV) (g:FuncId) (c:RV) (p:Nat→Bool) (ho:∀i j,i<n→j<5→(SV.r (get i j)).one=true) (hp:∀i,i<n→Pure Tryz.prog g [.agg [.r (get i 0),.r (get i 1),.r (get i 2),.r (get i 3),.r (get i 4)],.r c] (· =.b (p i))) :
 Own Tryz.prog 128 [.vec 61 5 n λi j=>.r (get i j)] [.sl 0 5 0 n none,.fn (.func g) [] [.r c]] (.sl 0 5 0 (kept p n).length none) [.vec 61 5 (kept p n).length λi j=>.r ((rowsL get (kept p n)) i j)]:=by
 refine own_of_GC T_ok Tryz.func128 rfl (by kernel_rfl) (nb rfl) rfl rfl ?_
 simp[go_sem]
 refine call_lent (v:=.i (idx p n)) ?_ rfl ?_
 ·simp[go_sem]
  exact idx112 n (by omega) get g [.r c] p rfl hp
 rcases idx_cases p n with ⟨h1,h2⟩ | ⟨i0,h1,h2,h3,h4⟩
 ·rw[h1]
  simp[go_sem]
  refine⟨[0],by simp,λN=>⟨?_,?_⟩⟩
  ·simp[go_sem,kept_all h2]
  ·simp[go_sem,kept_all h2]
   intro i j hi hj
   exact(rowsL_get (by simp[hi]) j).symm
 rw[h4]
 simp[go_sem]
 have hk0:kept p i0=List.range i0:=kept_all h3
 have hk1:kept p (i0+1)=List.range i0:=by rw[kept_succ,hk0,h2];simp
 refine⟨by omega,?_⟩
 refine GLoop_s T_ok (α:=Nat) (λj=>[(0,.sl 0 5 0 n none),(1,.fn (.func g) [] [.r c]),(5,.i (kept p j).length),(6,.i j)]) (λj=>[some (.vec 61 5 n λi' j'=>.r ((keptR get p j) i' j'))]) 1 (λj=>j≤n∧(kept p j).length<j) (λj=>n - j) (i0+1) (λ_=>rfl) ⟨by omega,by rw[hk1];simp⟩ (by simp[go_sem,hk1]) (by
  simp[go_sem]
  intro i j hi hj
  unfold keptR
  rw[hk1]
  split
  ·rename_i h
   exact(rowsL_get (by simp at h;simp[h]) j).symm
  ·rfl) ?_
 intro j J hi
 have hkn:=kept_le p j
 have hq:∀c,keptR get p j j c=get j c:=λc=>keptR_ge hkn
 simp[go_sem,hq]
 split
 ·rename_i hlt
  refine⟨by omega,⟨by simpa [SV.one] using ho j 0 hlt (by decide),by simpa [SV.one] using ho j 1 hlt (by decide),by simpa [SV.one] using ho j 2 hlt (by decide),by simpa [SV.one] using ho j 3 hlt (by decide),by simpa [SV.one] using ho j 4 hlt (by decide)⟩,?_⟩
  refine call_val (hp j hlt) rfl rfl ?_
  simp[go_sem]
  cases hpj:p j
  ·simp[go_sem]
   have hs:kept p (j+1)=kept p j++[j]:=by rw[kept_succ,hpj];simp
   refine⟨by omega,⟨⟨by simpa [SV.one] using ho j 0 hlt (by decide),by simpa [SV.one] using ho j 1 hlt (by decide),by simpa [SV.one] using ho j 2 hlt (by decide),by simpa [SV.one] using ho j 3 hlt (by decide),by simpa [SV.one] using ho j 4 hlt (by decide)⟩,by omega⟩,by omega,by omega,j+1,⟨by omega,by rw[hs];simp;omega⟩,by omega,⟨by rw[hs];simp,by omega⟩,λi c hi hc=>?_⟩
   rw[keptR_put hpj]
   by_cases hil:i=(kept p j).length
   ·rw[if_pos ⟨hil,hc⟩,if_pos hil]
    have hcc:c=0∨c=1∨c=2∨c=3∨c=4:=by omega
    rcases hcc with rfl | rfl | rfl | rfl | rfl <;> simp[toRV_r,SV.trim]
   ·rw[if_neg (λh=>hil h.1),if_neg hil];all_goals rfl
  ·simp[go_sem]
   have hs:kept p (j+1)=kept p j:=by rw[kept_succ,hpj];simp
   refine⟨by omega,j+1,⟨by omega,by rw[hs];omega⟩,by omega,⟨by rw[hs],by omega⟩,λi c hi hc=>?_⟩
   unfold keptR
   rw[hs]
 ·rename_i hlt
  have hjn:j=n:=by omega
  subst hjn
  refine⟨by omega,by omega,by omega,[0],by simp,λN=>⟨?_,?_⟩⟩
  ·simp[go_sem]
  ·simp[go_sem]
   refine⟨by omega,λi c hi hc=>?_⟩
   rw[if_neg (by omega)]
   exact congrArg SV.r (if_pos hi)
def gcell (n:Int):RV:=.rp 1 1 (gbox [.i n]) 0 0
theorem cl61 (x:ConG) (t:Int):Pure Tryz.prog 125 [x.sv,.r (gcell t)] (· =.b (decide (x.p=t))):=by
 refine pure_of_GC T_ok Tryz.func125 rfl (by kernel_rfl) (nb rfl) rfl rfl ?_
 simp[go_sem,gcell,gbox]
theorem cl62 (x:WarG) (t:Int):Pure Tryz.prog 127 [x.sv,.r (gcell t)] (· =.b (decide (x.p=t))):=by
 refine pure_of_GC T_ok Tryz.func127 rfl (by kernel_rfl) (nb rfl) rfl rfl ?_
 simp[go_sem,gcell,gbox]
theorem cl63 (x:MarkG) (t:Int):Pure Tryz.prog 129 [x.sv,.r (gcell t)] (· =.b (decide (x.p=t))):=by
 refine pure_of_GC T_ok Tryz.func129 rfl (by kernel_rfl) (nb rfl) rfl rfl ?_
 simp[go_sem,gcell,gbox]
def RG.sel (g:RG) (a b c d:List Nat):RG:=⟨a.length,λi=>g.r (a.getD i 0),b.length,λi=>g.c (b.getD i 0),c.length,λi=>g.w (c.getD i 0),d.length,λi=>g.m (d.getD i 0)⟩
def RG.nil:RG:=⟨0,λ_=>⟨0,0,0,0,0,0,0,0⟩,0,λ_=>⟨0,0,0⟩,0,λ_=>⟨0,0,0,0⟩,0,λ_=>⟨0,0,0,0,0⟩⟩
def RG.forget (g:RG) (t:Int):RG:={g.sel [] (kept (λi=>decide ((g.c i).p=t)) g.nc) (kept (λi=>decide ((g.w i).p=t)) g.nw) (kept (λi=>decide ((g.m i).p=t)) g.nm) with nr:=g.nr,r:=g.r}
def RG.foE (g:RG) (t:Int):Int:=if g.valid then (if persB t then 0 else 2) else 8
theorem RG.lim {g:RG} (h:g.valid=true):g.nr≤20∧g.nc≤40∧g.nw≤20∧g.nm≤40:=by
 simp only [RG.valid,RG.c1,RG.c2,RG.c3,RG.c4,Bool.and_eq_true,decide_eq_true_eq] at h
 omega
theorem sel_row {α:Type} {f:α→Nat→RV} {x:Nat→α} {l:List Nat} {i j:Nat} (hi:i<l.length):rowsL (λi j=>f (x i) j) l i j=f (x (l.getD i 0)) j:=by
 rw[rowsL_get (List.getElem?_eq_getElem hi),List.getD_eq_getElem?_getD,List.getElem?_eq_getElem hi];rfl
theorem one_c {n:Nat} (x:Nat→ConG):∀i j,i<n→j<3→(SV.r ((x i).c j)).one=true:=λi j _ hj=>by
 have:j=0∨j=1∨j=2:=by omega
 rcases this with rfl | rfl | rfl <;> rfl
theorem one_w {n:Nat} (x:Nat→WarG):∀i j,i<n→j<4→(SV.r ((x i).c j)).one=true:=λi j _ hj=>by
 have:j=0∨j=1∨j=2∨j=3:=by omega
 rcases this with rfl | rfl | rfl | rfl <;> rfl
theorem one_m {n:Nat} (x:Nat→MarkG):∀i j,i<n→j<5→(SV.r ((x i).c j)).one=true:=λi j _ hj=>by
 have:j=0∨j=1∨j=2∨j=3∨j=4:=by omega
 rcases this with rfl | rfl | rfl | rfl | rfl <;> rfl
theorem forget20 (g:RG) (t:Int) (h:g.OK):Pure Tryz.prog 54 [g.sv,.i t] (· =.tup [(if g.foE t=0 then g.forget t else RG.nil).sv,.i (g.foE t)]):=by
 refine Pure.ofSub ?_
 refine pure_of_GC T_ok Tryz.func54 rfl (by kernel_rfl) (nb rfl) rfl rfl ?_
 simp[go_sem]
 refine call_val (check28 g h) rfl rfl ?_
 by_cases hv:g.valid=true
 rotate_left
 ·have ha:g.foE t=8:=by unfold RG.foE;rw[if_neg hv]
  simp[go_sem,hv,ha,RG.nil]
 have hl:=RG.lim hv
 simp[go_sem,hv]
 refine call_lent (v:=.b (persB t)) (by simp[go_sem];exact people1 rfl) rfl ?_
 by_cases ht:persB t=true
 rotate_left
 ·have ha:g.foE t=2:=by unfold RG.foE;rw[if_pos hv,if_neg ht]
  simp[go_sem,ht,ha,RG.nil]
 have ha:g.foE t=0:=by unfold RG.foE;rw[if_pos hv,if_pos ht]
 simp[go_sem,ht,ha]
 refine callK_own [] (copied49 g (by omega) (by omega) (by omega) (by omega)) (by simp) rfl trivial ?_
 simp[go_sem]
 refine callK_freeze 1 (R:=.box [.i t]) rfl ?_
 simp[go_sem]
 refine callK_own [5] (delf52 g.nc (by omega) (λi j=>(g.c i).c j) (125:FuncId) (gcell t) (λi=>decide ((g.c i).p=t)) (one_c g.c) (λi _=>cl61 (g.c i) t)) (by simp) rfl ⟨rfl,trivial⟩ ?_
 simp[go_sem]
 refine callK_own [6] (delf54 g.nw (by omega) (λi j=>(g.w i).c j) (127:FuncId) (gcell t) (λi=>decide ((g.w i).p=t)) (one_w g.w) (λi _=>cl62 (g.w i) t)) (by simp) rfl ⟨rfl,trivial⟩ ?_
 simp[go_sem]
 refine callK_own [7] (delf56 g.nm (by omega) (λi j=>(g.m i).c j) (129:FuncId) (gcell t) (λi=>decide ((g.m i).p=t)) (one_m g.m) (λi _=>cl63 (g.m i) t)) (by simp) rfl ⟨rfl,trivial⟩ ?_
 simp[go_sem]
 exact⟨⟨rfl,λi j hi _=>rfl⟩,⟨rfl,λi j hi _=>sel_row (f:=ConG.c) hi⟩,⟨rfl,λi j hi _=>sel_row (f:=WarG.c) hi⟩,rfl,λi j hi _=>sel_row (f:=MarkG.c) hi⟩
def RuleG.eqB (x y:RuleG):Bool:=decide (x.p=y.p)&&decide (x.r=y.r)&&decide (x.l=y.l)&&decide (x.f=y.f)&&decide (x.t=y.t)&&decide (x.k=y.k)&&decide (x.s=y.s)&&decide (x.b=y.b)
theorem equal85 (n m:Nat) (hn:(n:Int)<2 ^ 62) (hm:(m:Int)<2 ^ 62) (x y:Nat→RuleG):Pure Tryz.prog 188 [RuleG.rs n x,RuleG.rs m y] (· =.b (decide (n=m)&&(List.range n).all λi=>(x i).eqB (y i))):=by
 refine pure_of_GC T_ok Tryz.func188 rfl (by kernel_rfl) (nb rfl) rfl rfl ?_
 simp[go_sem]
 by_cases h:n=m
 rotate_left
 ·simp[go_sem,h]
  try omega
 subst h
 simp[go_sem]
 refine GLoop_of T_ok (α:=Nat) (λk=>[(0,RuleG.rs n x),(1,RuleG.rs n y),(12,.i n),(13,.i k)]) (λ_=>[]) 0 (λk=>k≤n∧∀j,j<k→(x j).eqB (y j)=true) (λk=>n - k) 0 (λ_=>rfl) (by simp) (by simp[go_sem]) (by simp[go_sem]) ?_
 intro k J hi
 simp[go_sem]
 split
 ·rename_i hlt
  refine GDraw_all T_ok (by kernel_rfl) (by kernel_rfl) ?_
  simp[go_sem]
  refine⟨hlt,?_⟩
  by_cases he:(x k).eqB (y k)=true
  ·rw[if_neg (by simp[RuleG.eqB] at he;simp[he])]
   refine⟨by omega,k+1,⟨by omega,λj hj=>?_⟩,by omega,by omega⟩
   by_cases hjk:j=k
   ·subst hjk;exact he
   ·exact hi.2 j (by omega)
  ·rw[if_pos (Classical.byContradiction λhc=>he (by simp at hc;simp[RuleG.eqB,hc]))]
   exact⟨k,hlt,by simpa using he⟩
 ·rename_i hlt
  intro j hj
  exact hi.2 j (by omega)
def ConG.eqB (x y:ConG):Bool:=decide (x.p=y.p)&&decide (x.q=y.q)&&decide (x.u=y.u)
theorem equal86 (n m:Nat) (hn:(n:Int)<2 ^ 62) (hm:(m:Int)<2 ^ 62) (x y:Nat→ConG):Pure Tryz.prog 189 [ConG.rs n x,ConG.rs m y] (· =.b (decide (n=m)&&(List.range n).all λi=>(x i).eqB (y i))):=by
 refine pure_of_GC T_ok Tryz.func189 rfl (by kernel_rfl) (nb rfl) rfl rfl ?_
 simp[go_sem]
 by_cases h:n=m
 rotate_left
 ·simp[go_sem,h]
  try omega
 subst h
 simp[go_sem]
 refine GLoop_of T_ok (α:=Nat) (λk=>[(0,ConG.rs n x),(1,ConG.rs n y),(12,.i n),(13,.i k)]) (λ_=>[]) 0 (λk=>k≤n∧∀j,j<k→(x j).eqB (y j)=true) (λk=>n - k) 0 (λ_=>rfl) (by simp) (by simp[go_sem]) (by simp[go_sem]) ?_
 intro k J hi
 simp[go_sem]
 split
 ·rename_i hlt
  refine GDraw_all T_ok (by kernel_rfl) (by kernel_rfl) ?_
  simp[go_sem]
  refine⟨hlt,?_⟩
  by_cases he:(x k).eqB (y k)=true
  ·rw[if_neg (by simp[ConG.eqB] at he;simp[he])]
   refine⟨by omega,k+1,⟨by omega,λj hj=>?_⟩,by omega,by omega⟩
   by_cases hjk:j=k
   ·subst hjk;exact he
   ·exact hi.2 j (by omega)
  ·rw[if_pos (Classical.byContradiction λhc=>he (by simp at hc;simp[ConG.eqB,hc]))]
   exact⟨k,hlt,by simpa using he⟩
 ·rename_i hlt
  intro j hj
  exact hi.2 j (by omega)
def WarG.eqB (x y:WarG):Bool:=decide (x.l=y.l)&&decide (x.p=y.p)&&decide (x.f=y.f)&&decide (x.t=y.t)
theorem equal87 (n m:Nat) (hn:(n:Int)<2 ^ 62) (hm:(m:Int)<2 ^ 62) (x y:Nat→WarG):Pure Tryz.prog 190 [WarG.rs n x,WarG.rs m y] (· =.b (decide (n=m)&&(List.range n).all λi=>(x i).eqB (y i))):=by
 refine pure_of_GC T_ok Tryz.func190 rfl (by kernel_rfl) (nb rfl) rfl rfl ?_
 simp[go_sem]
 by_cases h:n=m
 rotate_left
 ·simp[go_sem,h]
  try omega
 subst h
 simp[go_sem]
 refine GLoop_of T_ok (α:=Nat) (λk=>[(0,WarG.rs n x),(1,WarG.rs n y),(12,.i n),(13,.i k)]) (λ_=>[]) 0 (λk=>k≤n∧∀j,j<k→(x j).eqB (y j)=true) (λk=>n - k) 0 (λ_=>rfl) (by simp) (by simp[go_sem]) (by simp[go_sem]) ?_
 intro k J hi
 simp[go_sem]
 split
 ·rename_i hlt
  refine GDraw_all T_ok (by kernel_rfl) (by kernel_rfl) ?_
  simp[go_sem]
  refine⟨hlt,?_⟩
  by_cases he:(x k).eqB (y k)=true
  ·rw[if_neg (by simp[WarG.eqB] at he;simp[he])]
   refine⟨by omega,k+1,⟨by omega,λj hj=>?_⟩,by omega,by omega⟩
   by_cases hjk:j=k
   ·subst hjk;exact he
   ·exact hi.2 j (by omega)
  ·rw[if_pos (Classical.byContradiction λhc=>he (by simp at hc;simp[WarG.eqB,hc]))]
   exact⟨k,hlt,by simpa using he⟩
 ·rename_i hlt
  intro j hj
  exact hi.2 j (by omega)
def MarkG.eqB (x y:MarkG):Bool:=decide (x.l=y.l)&&decide (x.p=y.p)&&decide (x.s=y.s)&&decide (x.u=y.u)&&decide (x.n=y.n)
theorem equal88 (n m:Nat) (hn:(n:Int)<2 ^ 62) (hm:(m:Int)<2 ^ 62) (x y:Nat→MarkG):Pure Tryz.prog 191 [MarkG.rs n x,MarkG.rs m y] (· =.b (decide (n=m)&&(List.range n).all λi=>(x i).eqB (y i))):=by
 refine pure_of_GC T_ok Tryz.func191 rfl (by kernel_rfl) (nb rfl) rfl rfl ?_
 simp[go_sem]
 by_cases h:n=m
 rotate_left
 ·simp[go_sem,h]
  try omega
 subst h
 simp[go_sem]
 refine GLoop_of T_ok (α:=Nat) (λk=>[(0,MarkG.rs n x),(1,MarkG.rs n y),(12,.i n),(13,.i k)]) (λ_=>[]) 0 (λk=>k≤n∧∀j,j<k→(x j).eqB (y j)=true) (λk=>n - k) 0 (λ_=>rfl) (by simp) (by simp[go_sem]) (by simp[go_sem]) ?_
 intro k J hi
 simp[go_sem]
 split
 ·rename_i hlt
  refine GDraw_all T_ok (by kernel_rfl) (by kernel_rfl) ?_
  simp[go_sem]
  refine⟨hlt,?_⟩
  by_cases he:(x k).eqB (y k)=true
  ·rw[if_neg (by simp[MarkG.eqB] at he;simp[he])]
   refine⟨by omega,k+1,⟨by omega,λj hj=>?_⟩,by omega,by omega⟩
   by_cases hjk:j=k
   ·subst hjk;exact he
   ·exact hi.2 j (by omega)
  ·rw[if_pos (Classical.byContradiction λhc=>he (by simp at hc;simp[MarkG.eqB,hc]))]
   exact⟨k,hlt,by simpa using he⟩
 ·rename_i hlt
  intro j hj
  exact hi.2 j (by omega)
def RG.s1 (g h:RG):Bool:=decide (g.nr=h.nr)&&(List.range g.nr).all λi=>(g.r i).eqB (h.r i)
def RG.s2 (g h:RG):Bool:=decide (g.nc=h.nc)&&(List.range g.nc).all λi=>(g.c i).eqB (h.c i)
def RG.s3 (g h:RG):Bool:=decide (g.nw=h.nw)&&(List.range g.nw).all λi=>(g.w i).eqB (h.w i)
def RG.s4 (g h:RG):Bool:=decide (g.nm=h.nm)&&(List.range g.nm).all λi=>(g.m i).eqB (h.m i)
def RG.same (g h:RG):Bool:=g.s1 h&&g.s2 h&&g.s3 h&&g.s4 h
theorem same35 (g h:RG) (hg:g.OK) (hh:h.OK):Pure Tryz.prog 89 [g.sv,h.sv] (· =.b (g.same h)):=by
 refine pure_of_GC T_ok Tryz.func89 rfl (by kernel_rfl) (nb rfl) rfl rfl ?_
 simp[go_sem]
 have e1:=(equal85 g.nr h.nr hg.nr hh.nr g.r h.r).val (v':=.b (g.s1 h)) rfl
 have e2:=(equal86 g.nc h.nc hg.nc hh.nc g.c h.c).val (v':=.b (g.s2 h)) rfl
 have e3:=(equal87 g.nw h.nw hg.nw hh.nw g.w h.w).val (v':=.b (g.s3 h)) rfl
 have e4:=(equal88 g.nm h.nm hg.nm hh.nm g.m h.m).val (v':=.b (g.s4 h)) rfl
 unfold RG.same
 refine call_val e1 rfl rfl ?_
 cases g.s1 h
 ·simp[go_sem]
 simp[go_sem]
 refine call_val e2 rfl rfl ?_
 cases g.s2 h
 ·simp[go_sem]
 simp[go_sem]
 refine call_val e3 rfl rfl ?_
 cases g.s3 h
 ·simp[go_sem]
 simp[go_sem]
 refine call_val e4 rfl rfl ?_
 cases g.s4 h <;> simp[go_sem]
def RG.InR (g:RG) (a:RuleG):Prop:=∃i,i<g.nr∧g.r i=a
def RG.InC (g:RG) (a:ConG):Prop:=∃i,i<g.nc∧g.c i=a
def RG.InW (g:RG) (a:WarG):Prop:=∃i,i<g.nw∧g.w i=a
def RG.InM (g:RG) (a:MarkG):Prop:=∃i,i<g.nm∧g.m i=a
theorem RG.goodR {g:RG} (h:g.valid=true) {a:RuleG} (ha:g.InR a):a.good=true:=by
 obtain⟨i,hi,rfl⟩:=ha
 simp only [RG.valid,RG.c1,Bool.and_eq_true,List.all_eq_true,List.mem_range] at h
 exact h.1.1.1.1.1.2 i hi
theorem RG.goodC {g:RG} (h:g.valid=true) {a:ConG} (ha:g.InC a):a.good=true:=by
 obtain⟨i,hi,rfl⟩:=ha
 simp only [RG.valid,RG.c2,Bool.and_eq_true,List.all_eq_true,List.mem_range] at h
 exact h.1.1.1.1.2.2 i hi
theorem RG.goodW {g:RG} (h:g.valid=true) {a:WarG} (ha:g.InW a):a.good=true:=by
 obtain⟨i,hi,rfl⟩:=ha
 simp only [RG.valid,RG.c3,Bool.and_eq_true,List.all_eq_true,List.mem_range] at h
 exact h.1.1.1.2.2 i hi
theorem RG.goodM {g:RG} (h:g.valid=true) {a:MarkG} (ha:g.InM a):a.good=true:=by
 obtain⟨i,hi,rfl⟩:=ha
 simp only [RG.valid,RG.c4,Bool.and_eq_true,List.all_eq_true,List.mem_range] at h
 exact h.1.1.2.2 i hi
theorem RG.valid_of {g:RG} (h1:g.nr≤20) (h2:g.nc≤40) (h3:g.nw≤20) (h4:g.nm≤40) (hr:∀a,g.InR a→a.good=true) (hc:∀a,g.InC a→a.good=true) (hw:∀a,g.InW a→a.good=true) (hm:∀a,g.InM a→a.good=true)
 (sc:∀i,i+1<g.nc→(g.c i).ltP (g.c (i+1))) (sm:∀i,i+1<g.nm→(g.m i).ltP (g.m (i+1))):g.valid=true:=by
 simp only [RG.valid,RG.c1,RG.c2,RG.c3,RG.c4,RG.c5,RG.c6,Bool.and_eq_true,decide_eq_true_eq,List.all_eq_true,List.mem_range,ConG.lt,MarkG.lt,lex_lt]
 exact⟨⟨⟨⟨⟨⟨by omega,λi hi=>hr _ ⟨i,hi,rfl⟩⟩,by omega,λi hi=>hc _ ⟨i,hi,rfl⟩⟩,by omega,λi hi=>hw _ ⟨i,hi,rfl⟩⟩,by omega,λi hi=>hm _ ⟨i,hi,rfl⟩⟩,λi hi=>sc i (by omega)⟩,λi hi=>sm i (by omega)⟩
theorem kept_mem {p:Nat→Bool} {n i:Nat}:i∈kept p n↔i<n∧p i=false:=by simp[kept]
structure Inc (l:List Nat) (n:Nat):Prop where
 lt:∀i j,i<j→j<l.length→l.getD i 0<l.getD j 0
 mem:∀i,i<l.length→l.getD i 0<n
 len:l.length≤n
theorem kept_inc (p:Nat→Bool) (n:Nat):Inc (kept p n) n:=by
 refine⟨λi j hij hj=>?_,λi hi=>?_,kept_le p n⟩
 ·have hp:(kept p n).Pairwise (·<·):=List.Pairwise.filter _ List.pairwise_lt_range
  have:=List.pairwise_iff_getElem.1 hp i j (by omega) hj hij
  simpa [List.getD_eq_getElem?_getD,List.getElem?_eq_getElem hj,List.getElem?_eq_getElem (show i<(kept p n).length by omega)] using this
 ·have h1:(kept p n)[i]∈kept p n:=List.getElem_mem hi
  have:=(kept_mem.1 h1).1
  simpa [List.getD_eq_getElem?_getD,List.getElem?_eq_getElem hi] using this
theorem sel_in {α:Type} {x:Nat→α} {l:List Nat} {a:α}:(∃i,i<l.length∧x (l.getD i 0)=a)↔∃j,j∈l∧x j=a:=by
 constructor
 ·rintro⟨i,h1,h2⟩
  refine⟨l[i],List.getElem_mem h1,?_⟩
  rw[← h2,List.getD_eq_getElem?_getD,List.getElem?_eq_getElem h1];rfl
 ·rintro⟨j,h1,h2⟩
  obtain⟨i,hi,rfl⟩:=List.getElem_of_mem h1
  refine⟨i,hi,?_⟩
  rw[← h2,List.getD_eq_getElem?_getD,List.getElem?_eq_getElem hi];rfl
theorem kept_in {α:Type} {x:Nat→α} {f:α→Bool} {n:Nat} {a:α}:(∃i,i<(kept (λi=>f (x i)) n).length∧x ((kept (λi=>f (x i)) n).getD i 0)=a)↔(∃i,i<n∧x i=a)∧f a=false:=by
 rw[sel_in]
 constructor
 ·rintro⟨j,h1,rfl⟩
  exact⟨⟨j,(kept_mem.1 h1).1,rfl⟩,(kept_mem.1 h1).2⟩
 ·rintro⟨⟨j,h1,rfl⟩,h2⟩
  exact⟨j,kept_mem.2 ⟨h1,h2⟩,rfl⟩
theorem RG.sel_valid {g y:RG} (h:g.valid=true) (hr:y.nr≤g.nr) (hR:∀a,y.InR a→g.InR a) {b c d:List Nat} (hb:Inc b g.nc) (hc:Inc c g.nw) (hd:Inc d g.nm)
 (e1:y.nc=b.length) (e2:∀i,y.c i=g.c (b.getD i 0)) (e3:y.nw=c.length) (e4:∀i,y.w i=g.w (c.getD i 0)) (e5:y.nm=d.length) (e6:∀i,y.m i=g.m (d.getD i 0)):y.valid=true:=by
 have hl:=RG.lim h
 have:=hb.len;have:=hc.len;have:=hd.len
 refine RG.valid_of (by omega) (by omega) (by omega) (by omega) (λa ha=>RG.goodR h (hR a ha)) (λa ha=>?_) (λa ha=>?_) (λa ha=>?_) (λi hi=>?_) (λi hi=>?_)
 ·obtain⟨i,h1,rfl⟩:=ha
  rw[e2];exact RG.goodC h ⟨_,hb.mem i (by omega),rfl⟩
 ·obtain⟨i,h1,rfl⟩:=ha
  rw[e4];exact RG.goodW h ⟨_,hc.mem i (by omega),rfl⟩
 ·obtain⟨i,h1,rfl⟩:=ha
  rw[e6];exact RG.goodM h ⟨_,hd.mem i (by omega),rfl⟩
 ·rw[e2,e2]
  exact RG.sortC (RG.v5 h) (hb.lt i (i+1) (by omega) (by omega)) (hb.mem _ (by omega))
 ·rw[e6,e6]
  exact RG.sortM (RG.v6 h) (hd.lt i (i+1) (by omega) (by omega)) (hd.mem _ (by omega))
section
variable {g:RG} {t:Int}
end
end Go.Gx.Rg
namespace Go.Gx.Rg
open Go.RowKit Go.Proofs Go.Proofs.YtncccnmmjfapnaaGreat
section
variable {g:RG} {t:Int}
theorem RG.forget_R {a:RuleG}:(g.forget t).InR a↔g.InR a:=Iff.rfl
theorem RG.forget_C {a:ConG}:(g.forget t).InC a↔g.InC a∧a.p≠t:=by
 have:=kept_in (x:=g.c) (f:=λa=>decide (a.p=t)) (n:=g.nc) (a:=a)
 simpa [RG.InC,RG.forget,RG.sel] using this
theorem RG.forget_W {a:WarG}:(g.forget t).InW a↔g.InW a∧a.p≠t:=by
 have:=kept_in (x:=g.w) (f:=λa=>decide (a.p=t)) (n:=g.nw) (a:=a)
 simpa [RG.InW,RG.forget,RG.sel] using this
theorem RG.forget_M {a:MarkG}:(g.forget t).InM a↔g.InM a∧a.p≠t:=by
 have:=kept_in (x:=g.m) (f:=λa=>decide (a.p=t)) (n:=g.nm) (a:=a)
 simpa [RG.InM,RG.forget,RG.sel] using this
theorem RG.forget_valid (h:g.valid=true):(g.forget t).valid=true:=
 RG.sel_valid h (Nat.le_refl _) (λa ha=>ha) (kept_inc _ _) (kept_inc _ _) (kept_inc _ _) rfl (λ_=>rfl) rfl (λ_=>rfl) rfl (λ_=>rfl)
end
end Go.Gx.Rg
