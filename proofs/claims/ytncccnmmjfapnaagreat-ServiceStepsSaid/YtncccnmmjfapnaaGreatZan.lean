/-
 Texts of the walk, merged: Sc Sd Sf Ip Iq Ir It Is Iv Iw Jc Jd Je Vj Vk Vl Vm Vn Vo Vp.
-/
import Derived.Test.YtncccnmmjfapnaaGreatZam
import Derived.Test.YtncccnmmjfapnaaGreatZaj
import Derived.Test.YtncccnmmjfapnaaGreatZak
import Derived.Test.YtncccnmmjfapnaaGreatZal
set_option linter.unusedVariables false
set_option linter.unusedSimpArgs false
set_option maxRecDepth 100000
set_option maxHeartbeats 4000000
namespace Go.Gx.Rg
open Go.RowKit Go.Proofs Go.Proofs.YtncccnmmjfapnaaGreat
def RG.cmC (g:RG) (p q:Int) (i:Nat):Int:=lex (bU (g.c i).p p) (bU (g.c i).q q)
theorem RG.cmC_mono {g:RG} (h:g.c5=true) (l p:Int):∀a b,a<b->b<g.nc->g.cmC l p b<0->g.cmC l p a<0:=by
 intro a b hab hb hc;have:=RG.sortC h hab hb;simp only [RG.cmC,uI,ConG.ltP] at *;omega
theorem bI9 (a b c:RV) (k:Nat):[SV.r a,SV.r b,SV.r c][k]?.getD (SV.r .any)=SV.r ([a,b,c][k]?.getD .any):=by
 rcases k with _ | _ | _ | k <;> rfl
theorem bJa (a b c d e:RV) (k:Nat):[SV.r a,SV.r b,SV.r c,SV.r d,SV.r e][k]?.getD (SV.r .any)=SV.r ([a,b,c,d,e][k]?.getD .any):=by
 rcases k with _ | _ | _ | _ | _ | k <;> rfl
def plN (f:Bool) (n:Nat):Nat:=if f then n else n+1
def plF {α:Type} (f:Bool) (i:Nat) (y:Nat->α) (x:α):Nat->α:=λr=>if r<i then y r else if r=i then x else y (if f then r else r - 1)
theorem aNp (n:Nat) (hn:n<=1000000) (y:Nat->ConG) (x:ConG) (most:Int) (cm:Nat->Int) (hc:cm=λi=>lex (bU (y i).p x.p) (bU (y i).q x.q)) (hm:∀a b,a<b->b<n->cm b<0->cm a<0) :
 Own Tryz.prog 418 [.vec 59 3 n λi j=>.r ((y i).c j)] [.sl 0 3 0 n none,x.sv,.i most,.fn (.func 235) [] []] (.tup [.sl 0 3 0 (plN (dP cm n) n) none,.b (dP cm n||decide ((n:Int)<most))])
  [.vec 59 3 (plN (dP cm n) n) λi j=>.r ((plF (dP cm n) (dF cm n) y x i).c j)]:=by
 refine γ Tryz.func418 ?_;simp[go_sem];refine aG (v:=.tup [.i (dF cm n:Nat),.b (dP cm n)]) (by
  simp[go_sem];exact aTd n ω _ x.p x.q x.u (235:FuncId) cm hm (λi hi=>by rw[hc];exact aR2 (y i).p (y i).q (y i).u x.p x.q x.u)) rfl ?_
 have hle:dF cm n<=n:=bnd_le;by_cases hf:dP cm n=true
 ·have hb:dF cm n<n:=by simp[dP] at hf;exact hf.1
  generalize dF cm n=i at *;generalize dP cm n=f at *;subst hf;simp[go_sem];refine⟨hb,[0],τ,λN=>⟨by simp[go_sem,plN],?_⟩⟩;simp[go_sem,plN];intro r c hr hc;by_cases hri:r=i
  ·subst hri;rw[if_pos ⟨rfl,hc⟩];have hcc:c=0\/c=1\/c=2:=ω;simp only [plF,if_neg (Nat.lt_irrefl _),if_pos];rcases hcc with rfl | rfl | rfl <;> rfl
  ·rw[if_neg (λh=>hri h.1)];simp only [plF,if_neg hri,if_true];split <;> rfl
 ·have hf:dP cm n=false:=by simpa using hf
  generalize dF cm n=i at *;generalize dP cm n=f at *;subst hf;simp[go_sem];simp only [bI9];refine aF [0,2] (aM3 n i hn hle _ _) τ rfl ⟨rfl,rfl,trivial⟩ ?_;simp[go_sem];refine⟨[3],τ,λN=>⟨by simp[go_sem,plN],?_⟩⟩;simp[go_sem,plN];intro r c hr hc;unfold gL;by_cases hri:r=i
  ·subst hri;have hcc:c=0\/c=1\/c=2:=ω;simp only [plF,if_neg (Nat.lt_irrefl _),if_pos];rcases hcc with rfl | rfl | rfl <;> rfl
  ·simp only [plF,if_neg hri];split <;> rfl
theorem aNq (n:Nat) (hn:n<=1000000) (y:Nat->MarkG) (x:MarkG) (most:Int) (cm:Nat->Int) (hc:cm=λi=>lex (bU (y i).l x.l) (bU (y i).p x.p)) (hm:∀a b,a<b->b<n->cm b<0->cm a<0) :
 Own Tryz.prog 419 [.vec 61 5 n λi j=>.r ((y i).c j)] [.sl 0 5 0 n none,x.sv,.i most,.fn (.func 104) [] []] (.tup [.sl 0 5 0 (plN (dP cm n) n) none,.b (dP cm n||decide ((n:Int)<most))])
  [.vec 61 5 (plN (dP cm n) n) λi j=>.r ((plF (dP cm n) (dF cm n) y x i).c j)]:=by
 refine γ Tryz.func419 ?_;simp[go_sem];refine aG (v:=.tup [.i (dF cm n:Nat),.b (dP cm n)]) (by
  simp[go_sem];exact aGj n ω _ x.l x.p x.s x.u x.n (104:FuncId) cm hm (λi hi=>by rw[hc];exact aId (y i) x)) rfl ?_
 have hle:dF cm n<=n:=bnd_le;by_cases hf:dP cm n=true
 ·have hb:dF cm n<n:=by simp[dP] at hf;exact hf.1
  generalize dF cm n=i at *;generalize dP cm n=f at *;subst hf;simp[go_sem];refine⟨hb,[0],τ,λN=>⟨by simp[go_sem,plN],?_⟩⟩;simp[go_sem,plN];intro r c hr hc;by_cases hri:r=i
  ·subst hri;rw[if_pos ⟨rfl,hc⟩];have hcc:c=0\/c=1\/c=2\/c=3\/c=4:=ω;simp only [plF,if_neg (Nat.lt_irrefl _),if_pos];rcases hcc with rfl | rfl | rfl | rfl | rfl <;> rfl
  ·rw[if_neg (λh=>hri h.1)];simp only [plF,if_neg hri,if_true];split <;> rfl
 ·have hf:dP cm n=false:=by simpa using hf
  generalize dF cm n=i at *;generalize dP cm n=f at *;subst hf;simp[go_sem];simp only [bJa];refine aF [0,2] (aM4 n i hn hle _ _) τ rfl ⟨rfl,rfl,trivial⟩ ?_;simp[go_sem];refine⟨[3],τ,λN=>⟨by simp[go_sem,plN],?_⟩⟩;simp[go_sem,plN];intro r c hr hc;unfold gL;by_cases hri:r=i
  ·subst hri;have hcc:c=0\/c=1\/c=2\/c=3\/c=4:=ω;simp only [plF,if_neg (Nat.lt_irrefl _),if_pos];rcases hcc with rfl | rfl | rfl | rfl | rfl <;> rfl
  ·simp only [plF,if_neg hri];split <;> rfl
def RG.cnE (g:RG) (x:ConG):Int:=if g.valid then (if x.good then (if dP (g.cmC x.p x.q) g.nc||decide ((g.nc:Int)<40) then 0 else 9) else 2) else 8
def RG.putC (g:RG) (x:ConG):RG:={g with nc:=plN (dP (g.cmC x.p x.q) g.nc) g.nc,c:=plF (dP (g.cmC x.p x.q) g.nc) (dF (g.cmC x.p x.q) g.nc) g.c x}
def RG.mkE (g:RG) (x:MarkG):Int:=if g.valid then (if x.good then (if dP (g.cm x.l x.p) g.nm||decide ((g.nm:Int)<40) then 0 else 9) else 2) else 8
def RG.putM (g:RG) (x:MarkG):RG:={g with nm:=plN (dP (g.cm x.l x.p) g.nm) g.nm,m:=plF (dP (g.cm x.l x.p) g.nm) (dF (g.cm x.l x.p) g.nm) g.m x}
theorem put43 (g:RG) (x:ConG) (h:g.OK):Pure Tryz.prog 339 [g.sv,x.sv] (· =.tup [(if g.cnE x=0 then g.putC x else RG.nil).sv,.i (g.cnE x)]):=by
 refine Pure.ofSub ?_;refine π Tryz.func339 ?_;simp[go_sem];refine aA (check28 g h) rfl rfl ?_;by_cases hv:g.valid=true;rotate_left
 ·have ha:g.cnE x=8:=by unfold RG.cnE;rw[if_neg hv]
  simp[go_sem,hv,ha,RG.nil]
 have hl:=RG.lim hv;simp[go_sem,hv];refine aA (qN x) rfl rfl ?_;by_cases hx:x.good=true;rotate_left
 ·have ha:g.cnE x=2:=by unfold RG.cnE;rw[if_pos hv,if_neg hx]
  simp[go_sem,hx,ha,RG.nil]
 simp[go_sem,hx];refine aF [] (xL g ω ω ω ω) τ rfl trivial ?_;simp[go_sem];refine aF [4] (aNp g.nc ω g.c x 40 (g.cmC x.p x.q) rfl (RG.cmC_mono (RG.v5 hv) _ _)) τ rfl ⟨rfl,trivial⟩ ?_;have hE:g.cnE x=if dP (g.cmC x.p x.q) g.nc||decide ((g.nc:Int)<40) then 0 else 9:=by unfold RG.cnE;rw[if_pos hv,if_pos hx]
 generalize hf:(dP (g.cmC x.p x.q) g.nc||decide ((g.nc:Int)<40))=f at *
 cases f
 ·have ha:g.cnE x=9:=hE;simp[go_sem,ha,RG.nil]
 ·have ha:g.cnE x=0:=hE;simp[go_sem,ha];exact⟨⟨rfl,λ_ _ _ _=>rfl⟩,⟨rfl,λ_ _ _ _=>rfl⟩,⟨rfl,λ_ _ _ _=>rfl⟩,rfl,λ_ _ _ _=>rfl⟩
theorem put46 (g:RG) (x:MarkG) (h:g.OK):Pure Tryz.prog 340 [g.sv,x.sv] (· =.tup [(if g.mkE x=0 then g.putM x else RG.nil).sv,.i (g.mkE x)]):=by
 refine Pure.ofSub ?_;refine π Tryz.func340 ?_;simp[go_sem];refine aA (check28 g h) rfl rfl ?_;by_cases hv:g.valid=true;rotate_left
 ·have ha:g.mkE x=8:=by unfold RG.mkE;rw[if_neg hv]
  simp[go_sem,hv,ha,RG.nil]
 have hl:=RG.lim hv;simp[go_sem,hv];refine aA (yF x) rfl rfl ?_;by_cases hx:x.good=true;rotate_left
 ·have ha:g.mkE x=2:=by unfold RG.mkE;rw[if_pos hv,if_neg hx]
  simp[go_sem,hx,ha,RG.nil]
 simp[go_sem,hx];refine aF [] (xL g ω ω ω ω) τ rfl trivial ?_;simp[go_sem];refine aF [6] (aNq g.nm ω g.m x 40 (g.cm x.l x.p) rfl (RG.cm_mono (RG.v6 hv) _ _)) τ rfl ⟨rfl,trivial⟩ ?_;have hE:g.mkE x=if dP (g.cm x.l x.p) g.nm||decide ((g.nm:Int)<40) then 0 else 9:=by unfold RG.mkE;rw[if_pos hv,if_pos hx]
 generalize hf:(dP (g.cm x.l x.p) g.nm||decide ((g.nm:Int)<40))=f at *
 cases f
 ·have ha:g.mkE x=9:=hE;simp[go_sem,ha,RG.nil]
 ·have ha:g.mkE x=0:=hE;simp[go_sem,ha];exact⟨⟨rfl,λ_ _ _ _=>rfl⟩,⟨rfl,λ_ _ _ _=>rfl⟩,⟨rfl,λ_ _ _ _=>rfl⟩,rfl,λ_ _ _ _=>rfl⟩
end Go.Gx.Rg
namespace Go.Gx.Ix
open Go.RowKit Go.Proofs Go.Proofs.YtncccnmmjfapnaaGreat
def aMu (p:PsG) (c m:BitVec 8):Nat:=aHp (qG (qG (aJq p.c c) p.m) m)
theorem bFe (p:PsG) (c m:BitVec 8) (rad:Nat) (hr:rad<=1000000):OwnS Tryz.prog 1 113 [.box [.i rad]] [p.sv,.agg [.y m,.y c],.ptr 0 0 1 0] (.b (decide (rad / 8<aMu p c m))) [.box [.i rad]]:=by
 refine bG (np:=1) (hnp:=?_) aD Tryz.func113 rfl κ ν rfl rfl ?_
 ·simp
 simp[go_sem];refine aM (t:=(.take 0 (.take 1 (.take 2 (.take 3 (.take 4 (.take 5 (.take 6 (.take 7 (.take 8 (.take 9 (.take 10 (.take 12 (.take 13 (.alt 11 [13,12,10,9,8,7,6,5,4,3,2,1,0] (.take 14 (.take 15 (.done [15,14,13,12,9,8,7,6,5,4,3,2,1,0]))) .nil))))))))))))))) aD κ κ κ (λ_ _ _ _ h=>h) ?_;simp[go_sem];refine⟨ω,aA (aWx (qG (qG (aJq p.c c) p.m) m)) rfl rfl ?_⟩;have e:(decide ((rad:Int) / 8<(aHp (qG (qG (aJq p.c c) p.m) m):Nat)))=decide (rad / 8<aMu p c m):=by unfold aMu;rw[decide_eq_decide];omega
 simp[go_sem];refine⟨ω,[0],by simp[lG],τ,λN=>⟨?_,?_⟩⟩
 ·simp[go_sem];rw[decide_eq_decide] at e;exact e
 ·simp[go_sem]
section
variable (x:IxG) (b:IrG) (n:Nat) (num den:Int)
def vU:Nat:=(cnt b.m*num.toNat) / den.toNat
def bkS (i:Nat):IrG:=b.tn ((n:Int) - i)
def aFh (rad:Nat) (bk:IrG) (j:Nat) (p:PsG):Bool:=decide (rad / 8<aMu p (eP bk.c j) (eP bk.m j))
def tI (rad:Nat) (bk:IrG) (a:Int):Bool:=(List.range 8).any λj=>(x.ch j).any λp=>! aFh rad bk j p&&p.ids.contains a
def mtI (bk:IrG) (a:Int):Bool:=decide (16<=(x.ms[plc x.ms a]!).x.d bk 0)&&decide (((x.ms[plc x.ms a]!).x.n bk 0:Int)*den<=num*(x.ms[plc x.ms a]!).x.d bk 0)
def kM (rad:Nat) (bk:IrG):List Int:=(x.ms.map (·.id)).filter (tI x rad bk)
def aFr (rad k:Nat) (a:Int):Bool:=(List.range k).any λi=>tI x rad (bkS b n i) a&&mtI x num den (bkS b n i) a
def xX:List Int:=(x.ms.map (·.id)).filter (aFr x b n num den (vU b num den) (2*n+1))
def fX (k:Nat):Nat:=((List.range k).map λi=>(kM x (vU b num den) (bkS b n i)).length).sum
end
def fL (ms:List MbG) (has:Int->Bool) (k:Nat):List Int:=((ms.take k).map (·.id)).filter has
theorem aVn (ms:List MbG) (has:Int->Bool):fL ms has 0=[]:=rfl
theorem aVm {ms:List MbG} {has:Int->Bool} {k:Nat} (h:k<ms.length):fL ms has (k+1)=fL ms has k++if has ms[k].id then [ms[k].id] else []:=by
 unfold fL;rw[List.take_succ_eq_append_getElem h,List.map_append,List.filter_append];simp[List.filter_cons]
theorem bAa (ms:List MbG) (has:Int->Bool):fL ms has ms.length=(ms.map (·.id)).filter has:=by unfold fL;rw[List.take_length]
theorem bAb (ms:List MbG) (has:Int->Bool) (k:Nat):(fL ms has k).length<=ms.length:=by
 unfold fL;refine Nat.le_trans (List.length_filter_le _ _) ?_;rw[List.length_map,List.length_take];omega
theorem aCd (x:IxG) (rad:Nat) (bk:IrG):(kM x rad bk).length<=x.ms.length:=by
 unfold kM;refine Nat.le_trans (List.length_filter_le _ _) ?_;rw[List.length_map];omega
theorem aGk (x:IxG) (b:IrG) (n:Nat) (num den:Int):∀k,fX x b n num den k<=k*x.ms.length
 | 0=>by simp[fX]
 | k+1=>by
   have h:=aGk x b n num den k;have h2:=aCd x (vU b num den) (bkS b n k);unfold fX at h ⊢;rw[List.range_succ,List.map_append,List.sum_append,Nat.succ_mul];simp only [List.map_cons,List.map_nil,List.sum_cons,List.sum_nil,Nat.add_zero];omega
theorem wF {l:List Int} {left:Int->Bool} {a:Int} (ha:a∈l) (h:left a=true):(l.filter λy=>left y&&!decide (y=a)).length<(l.filter left).length:=by
 have e:l.filter (λy=>left y&&!decide (y=a))=(l.filter left).filter λy=>!decide (y=a):=by
  rw[List.filter_filter];exact List.filter_congr λy _=>Bool.and_comm ..
 rw[e];exact List.length_filter_lt_length_iff_exists.2 ⟨a,List.mem_filter.2 ⟨ha,h⟩,τ⟩
structure bEr (x:IxG):Prop where
 v:eV x=true
 nd:(x.ms.map (·.id)).Nodup
 mem:∀j,j<8->∀p∈x.ch j,∀a∈p.ids,∃i,∃h:i<x.ms.length,x.ms[i].id=a/\plc x.ms a=i
 ok:∀a∈x.ms,a.x.ok=true
 sm:x.Sm
theorem aTb (x:IxG) (hx:bEr x) (b:IrG) (n:Nat) (num den:Nat) (hm:mE b b n num den=0) (hbo:∀i,(bkS b n i).ok=true):PureK Tryz.prog 51 [x.sv,b.sv,.i n,.agg [.i num,.i den]] (· =.tup [.agg [ils (xX x b n num den),.i (fX x b n num den (2*n+1))],.i 0]):=by
 obtain⟨F,hF⟩:∃F,xX x b n num den=F:=⟨_,rfl⟩;obtain⟨G,hG⟩:∃G,fX x b n num den (2*n+1)=G:=⟨_,rfl⟩;rw[hF,hG];refine nE aD Tryz.func51 rfl κ ν rfl rfl ?_;have hc:=aJ9 x hx.sm;have hv:=hx.v;simp[go_sem,IxG.sv] at hc ⊢;refine fT hc (λh=>h) rfl rfl ?_;simp[go_sem,oH,hv];refine aA (aKr b b n num den) rfl rfl ?_;rw[hm];have hlen:=aJl hv;obtain⟨hb,h7,hd1,hd2,hn2⟩:b.ok=true/\n<=7/\1<=den/\den<=1000/\num<=den:=by
  unfold mE at hm;split at hm
  ·rename_i h1;split at hm
   ·rename_i h2;simp only [Bool.and_eq_true,Bool.and_self,vL,btw,decide_eq_true_eq] at h1 h2;exact⟨h1,ω,ω,ω,ω⟩
   ·cases hm
  ·cases hm
 have hcl:=xF b.m;have hmul:cnt b.m*num<=64000:=Nat.le_trans (Nat.mul_le_mul hcl (ω:num<=1000)) ω;have hrad:vU b num den=cnt b.m*num / den:=by simp[vU]
 have hr:cnt b.m*num / den<=64000:=Nat.le_trans (Nat.div_le_self _ _) hmul;have hden:¬(den:Int)=0:=ω;have fin:(-9223372036854775808<=(cnt b.m:Int)*num/\(cnt b.m:Int)*num<=9223372036854775807)/\(¬den=0/\-9223372036854775808<=((cnt b.m:Int)*num).tdiv den/\((cnt b.m:Int)*num).tdiv den<=9223372036854775807)/\
  ((¬den=0/\-9223372036854775808<=((cnt b.m:Int)*num).tdiv den/\((cnt b.m:Int)*num).tdiv den<=9223372036854775807)/\-9223372036854775808<=(cnt b.m:Int)*num/\(cnt b.m:Int)*num<=9223372036854775807)/\((cnt b.m:Int)*num).tdiv den=(cnt b.m:Int)*num / den:=by
  have hm1:(cnt b.m:Int)*num=((cnt b.m*num:Nat):Int):=τ;rw[hm1];generalize cnt b.m*num=q at hmul hr;have h1:(q:Int).tdiv den=(q:Int) / den:=Int.tdiv_eq_ediv_of_nonneg ω;have h2:(q:Int) / den=((q / den:Nat):Int):=τ;rw[h1,h2];generalize q / den=r at hr;omega
 simp[go_sem];refine fM (S:=[(2,.i n),(4,.ptr 0 0 9 0),(5,.ptr 1 0 2 0),(7,.ptr 2 0 2 0),(8,.ptr 3 0 2 0),(9,.i 0),(13,.ptr 4 0 1 0)])
  (l:=[some (.box [wH x.ms,cP (x.ch 0),cP (x.ch 1),cP (x.ch 2),cP (x.ch 3),cP (x.ch 4),cP (x.ch 5),cP (x.ch 6),cP (x.ch 7)]),some (.box [.w b.c,.w b.m]),some (.box [.i num,.i den]),some (.box [aP,.i 0]),some (.box [.i ((cnt b.m*num / den:Nat):Int)])]) (n:=5)
  (t:=(.take 0 (.take 1 (.take 3 (.take 4 (.take 6 (.take 7 (.alt 2 [7,6,4,3,1,0] (.take 5 (.take 8 (.alt 9 [8,5,7,6,4,3,0] (.alt 10 [8,5,7,6,4,3,0] (.done []) .nil) .nil))) (.alt 9 [7,6,4,3,1,0] (.alt 2 [7,6,4,3,1,0] (.take 5 (.take 8 (.alt 10 [8,5,7,6,4,3,0] (.done []) .nil))) .nil) .nil))))))))) aD κ κ κ (λ_ _ _ _ h=>h) rfl ?_ ?_
 ·simp[go_sem];refine⟨aA (aDv b.m) rfl rfl ?_,aA (aDv b.m) rfl rfl ?_⟩
  ·simp[go_sem,hden];exact fin
  ·simp[go_sem,hden];exact fin
 intro J;rw[<- hrad] at hr;rw[<- hrad];obtain⟨rad,hrd⟩:∃rad,vU b num den=rad:=⟨_,rfl⟩;rw[hrd] at hr ⊢;simp[go_sem];refine⟨ω,?_⟩;have hout:∀k,fX x b n num den (k+1)=fX x b n num den k+(kM x rad (bkS b n k)).length:=λk=>by
  unfold fX;rw[List.range_succ,List.map_append,List.sum_append,hrd];simp
 refine bF aD (α:=Nat × (Int->Bool)) (λs=>[(2,.i n),(4,.ptr 0 0 9 0),(5,.ptr 1 0 2 0),(7,.ptr 2 0 2 0),(8,.ptr 3 0 2 0),(9,.i 0),(14,.fn (.func 113) [] [.ptr 4 0 1 0]),(15,.ptr 5 0 2 0),(16,.mp 6),(17,.i ((s.1:Int) - n))])
  (λs=>[some (.box [wH x.ms,cP (x.ch 0),cP (x.ch 1),cP (x.ch 2),cP (x.ch 3),cP (x.ch 4),cP (x.ch 5),cP (x.ch 6),cP (x.ch 7)]),some (.box [.w b.c,.w b.m]),some (.box [.i num,.i den]),some (.box [aP,.i 0]),some (.box [.i rad]),some (.box [aP,.i (fX x b n num den s.1:Nat)]),some (.map s.2 (λ_=>.b true) none)]) 7
  (λs=>s.1<=2*n+1/\∀a,s.2 a=aFr x b n num den rad s.1 a) (λs=>2*n+1 - s.1) (0,λ_=>false) (λ_=>rfl) ⟨ω,λa=>by simp[aFr]⟩ ζ (by simp[go_sem,fX]) ?_
 rintro⟨k,has⟩ J ⟨hk,hhas⟩;dsimp only at hk hhas;by_cases hlt:k<2*n+1
 ·have hlt':(k:Int) - n<=n:=ω;simp[go_sem,hlt'];have ht:zW b (-((k:Int) - n))=0:=by unfold zW;rw[if_pos hb,if_pos];unfold btw;simp;omega
  have hbk:b.tn (-((k:Int) - n))=bkS b n k:=by unfold bkS;congr 1;omega
  obtain⟨bk,hbke⟩:∃bk,bkS b n k=bk:=⟨_,rfl⟩;have hcall:Pure Tryz.prog 115 [b.sv,.i (-((k:Int) - n))] (· =.tup [bk.sv,.i 0]):=by
   have h:=bB2 b (-((k:Int) - n));rw[ht,if_pos rfl,hbk,hbke] at h;exact h
  refine⟨ω,aA hcall rfl rfl ?_⟩;simp[go_sem];refine bF aD (α:=Nat × (Int->Bool)) (λs=>[(2,.i n),(4,.ptr 0 0 9 0),(5,.ptr 1 0 2 0),(7,.ptr 2 0 2 0),(8,.ptr 3 0 2 0),(9,.i 0),(14,.fn (.func 113) [] [.ptr 4 0 1 0]),(15,.ptr 5 0 2 0),(16,.mp 6),(17,.i ((k:Int) - n)),(18,.ptr 7 0 2 0),(20,.mp 8),(81,.agg [cP (x.ch 0),cP (x.ch 1),cP (x.ch 2),cP (x.ch 3),cP (x.ch 4),cP (x.ch 5),cP (x.ch 6),cP (x.ch 7)]),(82,.i s.1)])
   (λs=>[some (.box [wH x.ms,cP (x.ch 0),cP (x.ch 1),cP (x.ch 2),cP (x.ch 3),cP (x.ch 4),cP (x.ch 5),cP (x.ch 6),cP (x.ch 7)]),some (.box [.w b.c,.w b.m]),some (.box [.i num,.i den]),some (.box [aP,.i 0]),some (.box [.i rad]),some (.box [aP,.i (fX x b n num den k:Nat)]),some (.map has (λ_=>.b true) none),some (.box [.w bk.c,.w bk.m]),some (.map s.2 (λ_=>.b true) none)]) 9
   (λs=>s.1<=8/\∀a,s.2 a=(List.range s.1).any λj=>(x.ch j).any λp=>! aFh rad bk j p&&p.ids.contains a) (λs=>8 - s.1) (0,λ_=>false) (λ_=>rfl) ⟨ω,λa=>τ⟩ ζ ζ ?_
  rintro⟨j,sn⟩ J ⟨hj,hsn⟩;dsimp only at hj hsn;by_cases hjlt:j<8
  ·have hjlt':(j:Int)<8:=ω;simp[go_sem,hjlt,hjlt'];refine aA (gB bk j hjlt) rfl rfl ?_;have hidx:[cP (x.ch 0),cP (x.ch 1),cP (x.ch 2),cP (x.ch 3),cP (x.ch 4),cP (x.ch 5),cP (x.ch 6),cP (x.ch 7)][j]'(by simpa using hjlt)=cP (x.ch j):=by
    rcases(show j=0\/j=1\/j=2\/j=3\/j=4\/j=5\/j=6\/j=7 by omega) with rfl | rfl | rfl | rfl | rfl | rfl | rfl | rfl <;> rfl
   obtain⟨hpl,hpi⟩:=hx.sm.ch j hjlt;have hpm:=hx.mem j hjlt;obtain⟨L,hL⟩:∃L,x.ch j=L:=⟨_,rfl⟩;rw[hL] at hpl hpi hpm hidx;simp[go_sem,hidx];refine bF aD (α:=Nat × (Int->Bool)) (λs=>[(2,.i n),(4,.ptr 0 0 9 0),(5,.ptr 1 0 2 0),(7,.ptr 2 0 2 0),(8,.ptr 3 0 2 0),(9,.i 0),(14,.fn (.func 113) [] [.ptr 4 0 1 0]),(15,.ptr 5 0 2 0),(16,.mp 6),(17,.i ((k:Int) - n)),(18,.ptr 7 0 2 0),(20,.mp 8),(81,.agg [cP (x.ch 0),cP (x.ch 1),cP (x.ch 2),cP (x.ch 3),cP (x.ch 4),cP (x.ch 5),cP (x.ch 6),cP (x.ch 7)]),(82,.i j),(23,.ptr 9 0 2 0),(89,cP L),(90,.i L.length),(91,.i s.1)])
    (λs=>[some (.box [wH x.ms,cP (x.ch 0),cP (x.ch 1),cP (x.ch 2),cP (x.ch 3),cP (x.ch 4),cP (x.ch 5),cP (x.ch 6),cP (x.ch 7)]),some (.box [.w b.c,.w b.m]),some (.box [.i num,.i den]),some (.box [aP,.i 0]),some (.box [.i rad]),some (.box [aP,.i (fX x b n num den k:Nat)]),some (.map has (λ_=>.b true) none),some (.box [.w bk.c,.w bk.m]),some (.map s.2 (λ_=>.b true) none),some (.box [.y (eP bk.m j),.y (eP bk.c j)])]) 10
    (λs=>s.1<=L.length/\∀a,s.2 a=(sn a||(L.take s.1).any λp=>! aFh rad bk j p&&p.ids.contains a)) (λs=>L.length - s.1) (0,sn) (λ_=>rfl) ⟨ω,λa=>τ⟩ ζ ζ ?_
   rintro⟨i,s2⟩ J ⟨hi,hs2⟩;dsimp only at hi hs2;by_cases hilt:i<L.length
   ·obtain⟨p,hp⟩:∃p,L[i]=p:=⟨_,rfl⟩;have r0:cS L i 0=p.f 0:=by rw[tB hilt,hp]
    have r1:cS L i 1=p.f 1:=by rw[tB hilt,hp]
    have r2:cS L i 2=p.f 2:=by rw[tB hilt,hp]
    have hpil:=hpi p (hp▸List.getElem_mem hilt);simp[go_sem,hilt,r0,r1,r2];refine cC [4] (bFe p (eP bk.c j) (eP bk.m j) rad ω) τ τ rfl ?_ ?_
    ·simp[go_sem]
    simp[go_sem];by_cases hfar:rad / 8<aMu p (eP bk.c j) (eP bk.m j)
    ·rw[if_pos hfar];have hfb:aFh rad bk j p=true:=by simpa [aFh] using hfar
     refine⟨ω,i+1,s2,⟨ω,λa=>?_⟩,ω,ω,λ_=>rfl⟩;rw[hs2 a,List.take_succ_eq_append_getElem hilt,hp];simp[hfb]
    rw[if_neg hfar];have hfb:aFh rad bk j p=false:=by simpa [aFh] using hfar
    refine bF aD (α:=Nat × (Int->Bool)) (λs=>[(2,.i n),(4,.ptr 0 0 9 0),(5,.ptr 1 0 2 0),(7,.ptr 2 0 2 0),(8,.ptr 3 0 2 0),(9,.i 0),(14,.fn (.func 113) [] [.ptr 4 0 1 0]),(15,.ptr 5 0 2 0),(16,.mp 6),(17,.i ((k:Int) - n)),(18,.ptr 7 0 2 0),(20,.mp 8),(81,.agg [cP (x.ch 0),cP (x.ch 1),cP (x.ch 2),cP (x.ch 3),cP (x.ch 4),cP (x.ch 5),cP (x.ch 6),cP (x.ch 7)]),(82,.i j),(23,.ptr 9 0 2 0),(89,cP L),(90,.i L.length),(91,.i i),(100,ils p.ids),(101,.i p.ids.length),(102,.i s.1)])
     (λs=>[some (.box [wH x.ms,cP (x.ch 0),cP (x.ch 1),cP (x.ch 2),cP (x.ch 3),cP (x.ch 4),cP (x.ch 5),cP (x.ch 6),cP (x.ch 7)]),some (.box [.w b.c,.w b.m]),some (.box [.i num,.i den]),some (.box [aP,.i 0]),some (.box [.i rad]),some (.box [aP,.i (fX x b n num den k:Nat)]),some (.map has (λ_=>.b true) none),some (.box [.w bk.c,.w bk.m]),some (.map s.2 (λ_=>.b true) none),some (.box [.y (eP bk.m j),.y (eP bk.c j)])]) 10
     (λs=>s.1<=p.ids.length/\∀a,s.2 a=(s2 a||(p.ids.take s.1).contains a)) (λs=>p.ids.length - s.1) (0,s2) (λ_=>rfl) ⟨ω,λa=>τ⟩ ζ ζ ?_
    rintro⟨q,s3⟩ J ⟨hq,hs3⟩;dsimp only at hq hs3;by_cases hqlt:q<p.ids.length
    ·have e0:=aV4 hqlt 0;simp[go_sem,hqlt,e0];refine⟨ω,q+1,λa=>decide (a=p.ids[q])||s3 a,⟨ω,λa=>?_⟩,ω,ω,λ_=>rfl⟩;show(decide (a=p.ids[q])||s3 a)=_;have hmem:a∈p.ids.take (q+1)↔(a∈p.ids.take q\/a=p.ids[q]):=by rw[List.take_succ_eq_append_getElem hqlt,List.mem_append,List.mem_singleton]
     rw[hs3 a,Bool.eq_iff_iff];simp only [Bool.or_eq_true,decide_eq_true_eq,List.contains_eq_mem,hmem];constructor
     ·rintro(h | h | h)
      ·exact .inr (.inr h)
      ·exact .inl h
      ·exact .inr (.inl h)
     ·rintro(h | h | h)
      ·exact .inr (.inl h)
      ·exact .inr (.inr h)
      ·exact .inl h
    ·have hql:q=p.ids.length:=ω;rw[hql,List.take_length] at hs3;simp[go_sem,hqlt];refine⟨ω,i+1,s3,⟨ω,λa=>?_⟩,ω,ω,λ_=>rfl⟩;rw[hs3 a,hs2 a,List.take_succ_eq_append_getElem hilt,hp];simp[hfb,Bool.or_assoc]
   ·have hil:i=L.length:=ω;subst hil;rw[List.take_length] at hs2;simp[go_sem];refine⟨ω,j+1,s2,⟨ω,λa=>?_⟩,ω,ω,λ_=>rfl⟩;rw[hs2 a,hsn a,List.range_succ,List.any_append];simp[hL]
  ·have hjlt':¬(j:Int)<8:=ω;have hj8:j=8:=ω;subst hj8;simp[go_sem];have hsn':∀a,sn a=tI x rad bk a:=hsn;refine aHa aD (q:=8) (has:=sn) (val:=λ_=>.b true) (st:=none) ζ ζ κ ζ (kM x rad bk) (hx.nd.filter _) (λa=>?_) ?_
   ·rw[hsn' a];unfold kM;rw[List.mem_filter];refine⟨λh=>⟨?_,h⟩,λh=>h.2⟩;unfold tI at h;obtain⟨j,hj,h⟩:=List.any_eq_true.1 h;obtain⟨p,hp,h⟩:=List.any_eq_true.1 h;simp only [Bool.and_eq_true,List.contains_eq_mem,decide_eq_true_eq] at h;obtain⟨i,hi,h1,_⟩:=hx.mem j (List.mem_range.1 hj) p hp a h.2;exact List.mem_map.2 ⟨_,List.getElem_mem hi,h1⟩
   simp[go_sem];have hsl:=aCd x rad bk;have hsN:fX x b n num den k<=15*256:=Nat.le_trans (aGk x b n num den k) (Nat.mul_le_mul ω hlen);refine⟨⟨ω,ω⟩,?_⟩;refine aA5 aD (q:=8) (has:=sn) (val:=λ_=>.b true) (st:=none) ζ ζ κ ζ λf c=>?_;simp[go_sem];have hsk:fX x b n num den (k+1)=fX x b n num den k+(kM x rad bk).length:=by rw[hout k,hbke]
   refine bF aD (α:=(Int->Bool) × (Int->Bool) × Option Int) (λs=>[(2,.i n),(4,.ptr 0 0 9 0),(5,.ptr 1 0 2 0),(7,.ptr 2 0 2 0),(8,.ptr 3 0 2 0),(9,.i 0),(14,.fn (.func 113) [] [.ptr 4 0 1 0]),(15,.ptr 5 0 2 0),(16,.mp 6),(17,.i ((k:Int) - n)),(18,.ptr 7 0 2 0),(118,.ptr 9 0 1 0)])
    (λs=>[some (.box [wH x.ms,cP (x.ch 0),cP (x.ch 1),cP (x.ch 2),cP (x.ch 3),cP (x.ch 4),cP (x.ch 5),cP (x.ch 6),cP (x.ch 7)]),some (.box [.w b.c,.w b.m]),some (.box [.i num,.i den]),some (.box [aP,.i 0]),some (.box [.i rad]),some (.box [aP,.i (fX x b n num den (k+1):Nat)]),some (.map s.1 (λ_=>.b true) none),some (.box [.w bk.c,.w bk.m]),some (.map sn (λ_=>.b true) (some (f,c))),some (.iter (.mp 8) f c sn s.2.1 s.2.2)]) 10
    (λs=>∀a,s.1 a=(has a||(sn a&&!s.2.1 a&&mtI x num den bk a))) (λs=>((kM x rad bk).filter s.2.1).length) (has,sn,none) (λ_=>rfl) (λa=>by dsimp only;cases sn a <;> simp) ζ (by simp[go_sem,hsk]) ?_
   rintro⟨h2,left,la⟩ J hh2;dsimp only at hh2;simp[go_sem];refine aEm (q:=8) (ref:=9) (kk:=1) (f:=f) (c:=c) (all:=sn) (left:=left) (has:=sn) (la:=la) (val:=λ_=>.b true) ζ ζ ζ (λ_=>rfl) ζ (λa h1 h3=>?_) (λh0=>?_);rotate_left
   ·simp[go_sem];refine⟨⟨ω,ω⟩,k+1,h2,⟨ω,λa=>?_⟩,ω,ω,rfl,λ_=>rfl⟩;have hk1:aFr x b n num den rad (k+1) a=(aFr x b n num den rad k a||(tI x rad bk a&&mtI x num den bk a)):=by
     unfold aFr;rw[List.range_succ,List.any_append];simp[hbke]
    rw[hk1,hh2 a,hhas a,<- hsn' a]
    cases hq:sn a
    ·simp
    ·simp[h0 a hq]
   simp[go_sem];refine aA4 (q:=8) (ref:=9) (kk:=1) (f:=f) (c:=c) (all:=sn) (left:=λy=>left y&&!decide (y=a)) (has:=sn) (k:=a) (val:=λ_=>.b true) ζ ζ ζ h1 ζ ?_;obtain⟨i,hi,hid,hpl⟩:∃i,∃h:i<x.ms.length,x.ms[i].id=a/\plc x.ms a=i:=by
    have h:=h1;rw[hsn' a] at h;unfold tI at h;obtain⟨j,hj,h⟩:=List.any_eq_true.1 h;obtain⟨p,hp,h⟩:=List.any_eq_true.1 h;simp only [Bool.and_eq_true,List.contains_eq_mem,decide_eq_true_eq] at h;exact hx.mem j (List.mem_range.1 hj) p hp a h.2
   simp[go_sem];refine aA (aW3 x.ms ω (aA0 hv) a) rfl rfl ?_;rw[hpl];obtain⟨m,hmi⟩:∃m,x.ms[i]=m:=⟨_,rfl⟩;have r0:gN x.ms i 0=m.f 0:=by rw[mrow hi,hmi]
   have r1:gN x.ms i 1=m.f 1:=by rw[mrow hi,hmi]
   have r2:gN x.ms i 2=m.f 2:=by rw[mrow hi,hmi]
   have hcmp:Pure Tryz.prog 118 [m.x.sv,bk.sv,.i 0] (· =.tup [.i (m.x.n bk 0),.i (m.x.d bk 0),.i 0]):=by
    have h:=aMk m.x bk 0;have he:aE5 m.x bk 0=0:=by
     unfold aE5;rw[hx.ok m (hmi▸List.getElem_mem hi),<- hbke,hbo k];rfl
    rw[he] at h;simpa using h
   have hmt:mtI x num den bk a=(decide (16<=m.x.d bk 0)&&decide ((m.x.n bk 0:Int)*den<=num*m.x.d bk 0)):=by
    unfold mtI;rw[hpl,getElem!_pos x.ms i hi,hmi]
   have hn64:m.x.n bk 0<=64:=xF _;have hd64:m.x.d bk 0<=64:=xF _;generalize m.x.n bk 0=nn at *;generalize m.x.d bk 0=dd at *;have hp1:nn*den<=64*1000:=Nat.mul_le_mul hn64 hd2;have hp2:num*dd<=1000*64:=Nat.mul_le_mul ω hd64;simp[go_sem];refine aM (t:=(.take 0 (.take 1 (.take 2 (.take 3 (.take 4 (.take 5 (.take 6 (.alt 7 [6,5,4,3,2,1,0] (.take 8 (.take 9 (.take 10 (.take 11 (.take 12 (.take 13 (.take 14 (.done [14,13,12,11,10,9,8,4,3,2,1,0])))))))) .nil))))))))) aD κ κ κ (λ_ _ _ _ h=>h) ?_;simp[go_sem,hi,r0,r1,r2];refine aA hcmp rfl rfl ?_;simp[go_sem];have hq1:(nn:Int)*den=((nn*den:Nat):Int):=τ;have hq2:(num:Int)*dd=((num*dd:Nat):Int):=τ;rw[hq1,hq2] at hmt ⊢;have hasn:a∈kM x rad bk:=by
    unfold kM;rw[List.mem_filter];exact⟨List.mem_map.2 ⟨_,List.getElem_mem hi,hid⟩,by rw[<- hsn' a];exact h1⟩
   have hll:=wF hasn h3;have yes:mtI x num den bk a=true->∃a_1 a_2:Int->Bool,(∀z:Int,a_1 z=(has z||sn z&&!a_2 z&&mtI x num den bk z))/\(List.filter a_2 (kM x rad bk)).length<(List.filter left (kM x rad bk)).length/\
    (∀z:Int,(decide (z=a)||h2 z)=a_1 z)/\∀z:Int,sn z=true->(left z&&!decide (z=a))=a_2 z:=λhm=>by
    refine⟨λz=>decide (z=a)||h2 z,λz=>left z&&!decide (z=a),λz=>?_,hll,λ_=>rfl,λ_ _=>rfl⟩;by_cases hz:z=a
    ·subst hz;simp[h1,hm]
    ·simp[hz,hh2 z]
   have no:mtI x num den bk a=false->∃a_1 a_2:Int->Bool,(∀z:Int,a_1 z=(has z||sn z&&!a_2 z&&mtI x num den bk z))/\(List.filter a_2 (kM x rad bk)).length<(List.filter left (kM x rad bk)).length/\
    (∀z:Int,h2 z=a_1 z)/\∀z:Int,sn z=true->(left z&&!decide (z=a))=a_2 z:=λhm=>by
    refine⟨h2,λz=>left z&&!decide (z=a),λz=>?_,hll,λ_=>rfl,λ_ _=>rfl⟩;by_cases hz:z=a
    ·subst hz;rw[hh2 z];simp[hm]
    ·simp[hz,hh2 z]
   generalize nn*den=u1 at *;generalize num*dd=u2 at *;refine⟨hi,?_⟩;by_cases hd16:16<=dd
   ·have hd16':(16:Int)<=dd:=ω;rw[if_pos hd16'];refine⟨ω,ω,?_⟩;by_cases hu:(u1:Int)<=u2
    ·rw[if_pos hu];exact yes (by rw[hmt];simp[hd16];omega)
    ·rw[if_neg hu];exact no (by rw[hmt];simp[hd16];omega)
   ·have hd16':¬(16:Int)<=dd:=ω;rw[if_neg hd16'];exact no (by rw[hmt];simp[hd16])
 ·have hlt':¬(k:Int) - n<=n:=ω;have hk2:k=2*n+1:=ω;simp[go_sem,hlt'];have hG':fX x b n num den k=G:=by rw[hk2];exact hG
  rw[hG'];have hF':F=(x.ms.map (·.id)).filter has:=by rw[<- hF,xX,hrd,<- hk2];exact List.filter_congr λa _=>(hhas a).symm
  refine bK (GSt.adoptBox 5 0 3 1 (λi j=>.r (iZ [] i j)) (by rfl) (by rfl) δ) ?_;refine bF aD (α:=Nat) (λk=>[(4,.ptr 0 0 9 0),(8,.ptr 3 0 2 0),(9,.i 0),(15,.ptr 5 0 2 0),(16,.mp 6),(158,wH x.ms),(159,.i x.ms.length),(160,.i k)])
   (λk=>[some (.box [wH x.ms,cP (x.ch 0),cP (x.ch 1),cP (x.ch 2),cP (x.ch 3),cP (x.ch 4),cP (x.ch 5),cP (x.ch 6),cP (x.ch 7)]),none,none,some (.box [aP,.i 0]),none,some (.box [.sl 7 1 0 (fL x.ms has k).length none,.i G]),some (.map has (λ_=>.b true) none),some (.vec 3 1 (fL x.ms has k).length λi j=>.r (iZ (fL x.ms has k) i j))]) 8
   (λk=>k<=x.ms.length) (λk=>x.ms.length - k) 0 (λ_=>rfl) τ ζ (by simp[go_sem,aVn]) ?_
  clear hk hlt hlt' hk2 hG' hhas;intro k J hk;by_cases hlt:k<x.ms.length
  ·obtain⟨a,ha⟩:∃a,x.ms[k]=a:=⟨_,rfl⟩;have r0:gN x.ms k 0=a.f 0:=by rw[mrow hlt,ha]
   have r1:gN x.ms k 1=a.f 1:=by rw[mrow hlt,ha]
   have r2:gN x.ms k 2=a.f 2:=by rw[mrow hlt,ha]
   have hs:=aVm (has:=has) hlt;rw[ha] at hs;have hLl:=bAb x.ms has k;simp[go_sem,hlt,r0,r1,r2]
   cases hq:has a.id
   ·rw[hq] at hs;simp[go_sem,TI.zeroV];refine⟨ω,k+1,ω,ω,ω,?_⟩;rw[hs];simp
   ·rw[hq] at hs;simp[go_sem];refine⟨⟨ω,ω⟩,ω,k+1,ω,ω,ω,?_⟩;rw[hs];simp;intro i hi;unfold aJ iZ cQ;by_cases h1:i<(fL x.ms has k).length
    ·rw[if_pos h1,List.getElem?_append_left h1];rfl
    ·have h2:i - (fL x.ms has k).length=0:=ω;rw[if_neg h1,if_pos ω,List.getElem?_append_right ω,h2];rfl
  ·have hk3:k=x.ms.length:=ω;subst hk3;have hF2:fL x.ms has x.ms.length=F:=by rw[bAa];exact hF'.symm
   simp[go_sem,hF2]
end Go.Gx.Ix
namespace Go.Gx.Ix
open Go.RowKit Go.Proofs Go.Proofs.YtncccnmmjfapnaaGreat
def tIx (r i:Nat):Nat:=16*(i / 16)+(i % 16+16 - r) % 16
theorem aK5 (y:BitVec 16) (r k:Nat) (hr:r<16) (hk:k<16):(qS y r).getLsbD k=y.getLsbD ((k+16 - r) % 16):=by
 unfold qS aSj zM aGo;rw[BitVec.getLsbD_or,BitVec.getLsbD_shiftLeft,BitVec.getLsbD_ushiftRight];by_cases h:k<r
 ·have e:(k+16 - r) % 16=16 - r+k:=ω;rw[e];simp[h]
 ·have e:(k+16 - r) % 16=k - r:=ω;rw[e,BitVec.getLsbD_of_ge y (16 - r+k) ω];simp[h,hk]
theorem wN (w:BitVec 64) (k:Nat) (hk:k<4) (t:Int) (i:Nat) (hi:i<64):(bBn w (16*k) t).getLsbD i=(decide (i / 16=k)&&w.getLsbD (tIx (t % 16).toNat i)):=by
 have hr:(t % 16).toNat<16:=ω;unfold bBn bT aXy tIx;generalize (t % 16).toNat=r at hr;rw[BitVec.getLsbD_shiftLeft,BitVec.getLsbD_setWidth];rcases Nat.lt_trichotomy (i / 16) k with h | h | h
 ·have h1:i<16*k:=ω;have h2:¬i / 16=k:=ω;simp[h1,h2]
 ·have h1:¬i<16*k:=ω;rw[aK5 _ r (i - 16*k) hr ω];unfold uS cA;rw[BitVec.getLsbD_setWidth,BitVec.getLsbD_ushiftRight];have h3:16*k+(i - 16*k+16 - r) % 16=16*(i / 16)+(i % 16+16 - r) % 16:=ω;have h4:(i - 16*k+16 - r) % 16<16:=ω;have h5:i - 16*k<64:=ω;rw[h3];simp[h,hi,h1,h4,h5]
 ·have h1:¬i<16*k:=ω;have h2:¬i / 16=k:=ω;rw[BitVec.getLsbD_of_ge _ _ (ω:16<=i - 16*k)];simp[h2]
theorem dD (w:BitVec 64) (t:Int) (i:Nat) (hi:i<64):(cL w t).getLsbD i=w.getLsbD (tIx (t % 16).toNat i):=by
 unfold cL tJ tJ tJ tJ tJ iV;simp only [BitVec.getLsbD_or];rw[wN w 0 ω t i hi,wN w 1 ω t i hi,wN w 2 ω t i hi,wN w 3 ω t i hi];rcases(show i / 16=0\/i / 16=1\/i / 16=2\/i / 16=3 by omega) with h | h | h | h <;> simp[h]
theorem fZ {x y:BitVec 64} (h:∀i,i<64->x.getLsbD i=y.getLsbD i):x=y:=BitVec.eq_of_getLsbD_eq λi hi=>h i hi
theorem zX (x y:BitVec 64) (t:Int):cL (bJ x y) t=bJ (cL x t) (cL y t):=by
 refine fZ λi hi=>?_;rw[dD _ _ _ hi];unfold bJ;rw[BitVec.getLsbD_and,BitVec.getLsbD_and,dD _ _ _ hi,dD _ _ _ hi]
theorem aTp (x y:BitVec 64) (t:Int):cL (bY x y) t=bY (cL x t) (cL y t):=by
 refine fZ λi hi=>?_;rw[dD _ _ _ hi];unfold bY;rw[BitVec.getLsbD_xor,BitVec.getLsbD_xor,dD _ _ _ hi,dD _ _ _ hi]
theorem aJe {r i:Nat} (hi:i<64):tIx r i<64:=by unfold tIx;omega
theorem aOg (x y:BitVec 64) (t:Int):cL (cR x y) t=cR (cL x t) (cL y t):=by
 refine fZ λi hi=>?_;rw[dD _ _ _ hi];unfold cR;rw[BitVec.getLsbD_and,BitVec.getLsbD_and,dD _ _ _ hi,BitVec.getLsbD_not,BitVec.getLsbD_not,dD _ _ _ hi];simp[aJe hi,hi]
theorem aOh (x:BitVec 64) (s t:Int):cL (cL x s) t=cL x (s+t):=by
 refine fZ λi hi=>?_;rw[dD _ _ _ hi,dD _ _ _ (aJe hi),dD _ _ _ hi]
 congr 1
 unfold tIx;omega
theorem jR (x:BitVec 64):cL x 0=x:=by
 refine fZ λi hi=>?_;rw[dD _ _ _ hi]
 congr 1
 unfold tIx;simp;omega
theorem uT (x:BitVec 64) (t:Int):cL (cL x (-t)) t=x:=by
 rw[aOh,show -t+t=0 by omega,jR]
theorem jY:∀n k X,ds 1 (n+k) X=ds 1 n (X % 2 ^ n)+ds 1 k (X / 2 ^ n)
 | 0,k,X=>by simp[ds]
 | n+1,k,X=>by
   rw[show n+1+k=(n+k)+1 by omega];show X % 2 ^ 1+ds 1 (n+k) (X / 2 ^ 1)=X % 2 ^ (n+1) % 2 ^ 1+ds 1 n (X % 2 ^ (n+1) / 2 ^ 1)+_;rw[jY n k (X / 2 ^ 1)];have h1:X % 2 ^ (n+1) % 2 ^ 1=X % 2 ^ 1:=Nat.mod_mod_of_dvd _ (Nat.pow_dvd_pow 2 ω);have h2:X % 2 ^ (n+1) / 2 ^ 1=X / 2 ^ 1 % 2 ^ n:=by
    rw[show n+1=1+n by omega,Nat.pow_add,Nat.mod_mul_right_div_self]
   have h3:X / 2 ^ 1 / 2 ^ n=X / 2 ^ (n+1):=by rw[Nat.div_div_eq_div_mul,<- Nat.pow_add,Nat.add_comm 1 n]
   rw[h1,h2,h3];omega
theorem wM (y:BitVec 16) (r:Nat) (hr:r<16):ds 1 16 (qS y r).toNat=ds 1 16 y.toNat:=by
 have hy:=y.isLt;have e:(qS y r).toNat=2 ^ r*(y.toNat % 2 ^ (16 - r))+y.toNat / 2 ^ (16 - r):=by
  have h1:y.toNat / 2 ^ (16 - r)<2 ^ r:=by
   rw[Nat.div_lt_iff_lt_mul (Nat.pow_pos δ),<- Nat.pow_add,show r+(16 - r)=16 by omega];exact hy
  rw[Nat.two_pow_add_eq_or_of_lt h1];unfold qS aSj zM aGo;rw[BitVec.toNat_or,BitVec.toNat_shiftLeft,BitVec.toNat_ushiftRight,Nat.shiftLeft_eq,Nat.shiftRight_eq_div_pow]
  congr 1
  have h2:(2:Nat) ^ 16=2 ^ (16 - r)*2 ^ r:=by rw[<- Nat.pow_add];congr 1;omega
  rw[h2,Nat.mul_mod_mul_right,Nat.mul_comm]
 have h1:y.toNat / 2 ^ (16 - r)<2 ^ r:=by
  rw[Nat.div_lt_iff_lt_mul (Nat.pow_pos δ),<- Nat.pow_add,show r+(16 - r)=16 by omega];exact hy
 have s1:=jY r (16 - r) (qS y r).toNat;have s2:=jY (16 - r) r y.toNat;rw[show r+(16 - r)=16 by omega] at s1;rw[show 16 - r+r=16 by omega] at s2;rw[e,Nat.mul_add_mod,Nat.mod_eq_of_lt h1,Nat.mul_add_div (Nat.pow_pos δ),Nat.div_eq_of_lt h1,Nat.add_zero] at s1;rw[e,s1,s2];omega
theorem aD0 (x:BitVec 64) (t:Int) (k:Nat) (hk:k<4):uS (cA (cL x t) (16*k))=qS (uS (cA x (16*k))) (t % 16).toNat:=by
 refine BitVec.eq_of_getLsbD_eq λm hm=>?_;have hr:(t % 16).toNat<16:=ω;rw[aK5 _ _ m hr hm];unfold uS cA;rw[BitVec.getLsbD_setWidth,BitVec.getLsbD_setWidth,BitVec.getLsbD_ushiftRight,BitVec.getLsbD_ushiftRight,dD _ _ _ ω];generalize (t % 16).toNat=r at hr;have e:tIx r (16*k+m)=16*k+(m+16 - r) % 16:=by unfold tIx;omega
 have h4:(m+16 - r) % 16<16:=ω;rw[e];simp[hm,h4]
theorem wP (x:BitVec 64) (a:Nat):(uS (cA x a)).toNat=x.toNat / 2 ^ a % 2 ^ 16:=by
 unfold uS cA;rw[BitVec.toNat_setWidth,BitVec.toNat_ushiftRight,Nat.shiftRight_eq_div_pow]
theorem aE7 (x:BitVec 64):cnt x=ds 1 16 (uS (cA x (16*0))).toNat+ds 1 16 (uS (cA x (16*1))).toNat+ds 1 16 (uS (cA x (16*2))).toNat+ds 1 16 (uS (cA x (16*3))).toNat:=by
 have hx:=x.isLt;unfold cnt;rw[wP,wP,wP,wP];have s1:=jY 16 48 x.toNat;have s2:=jY 16 32 (x.toNat / 2 ^ 16);have s3:=jY 16 16 (x.toNat / 2 ^ 16 / 2 ^ 16);rw[Nat.div_div_eq_div_mul] at s2 s3;have e:x.toNat / (2 ^ 16*2 ^ 16) / 2 ^ 16=x.toNat / 2 ^ (16*3) % 2 ^ 16:=by
  rw[Nat.div_div_eq_div_mul,Nat.mod_eq_of_lt];rw[Nat.div_lt_iff_lt_mul (Nat.pow_pos δ)];exact hx
 rw[e] at s3;have e0:x.toNat / 2 ^ (16*0)=x.toNat:=τ;rw[e0];have q1:(16+48)=64:=rfl;have q2:(16+32)=48:=rfl;have q3:(16+16)=32:=rfl;rw[q1] at s1;rw[q2] at s2;rw[q3] at s3;have p1:(2:Nat) ^ (16*1)=2 ^ 16:=rfl;have p2:(2:Nat) ^ (16*2)=2 ^ 16*2 ^ 16:=rfl;rw[s1,s2,s3,p1,p2];omega
theorem xG (x:BitVec 64) (t:Int):cnt (cL x t)=cnt x:=by
 have hr:(t % 16).toNat<16:=ω;rw[aE7,aE7 x,aD0 _ _ 0 ω,aD0 _ _ 1 ω,aD0 _ _ 2 ω,aD0 _ _ 3 ω,wM _ _ hr,wM _ _ hr,wM _ _ hr,wM _ _ hr]
theorem aU5 (x:BitVec 64) (j:Nat):(eP x j).toNat=x.toNat / 2 ^ (8*j) % 2 ^ 8:=by
 unfold eP to8 cA;rw[BitVec.toNat_setWidth,BitVec.toNat_ushiftRight,Nat.shiftRight_eq_div_pow]
theorem aE6 (X:Nat):∀k n,(k+8*n=64)->ds 1 (8*n) (X / 2 ^ k)=((List.range n).map λj=>ds 1 8 (X / 2 ^ (k+8*j) % 2 ^ 8)).sum
 | k,0,h=>by simp[ds]
 | k,n+1,h=>by
   have s:=jY 8 (8*n) (X / 2 ^ k);rw[show 8*(n+1)=8+8*n by omega,s,Nat.div_div_eq_div_mul,<- Nat.pow_add,aE6 X (k+8) n ω,List.range_succ_eq_map,List.map_cons,List.sum_cons,List.map_map]
   congr 2
   refine List.map_congr_left λj _=>?_;show _=ds 1 8 (X / 2 ^ (k+8*(j+1)) % 2 ^ 8);rw[show k+8*(j+1)=k+8+8*j by omega]
theorem aVb (x:BitVec 64):cnt x=((List.range 8).map λj=>aHp (eP x j)).sum:=by
 have h:=aE6 x.toNat 0 8 rfl;simp only [Nat.pow_zero,Nat.div_one,Nat.zero_add] at h;unfold cnt aHp;refine Eq.trans h (congrArg List.sum (List.map_congr_left λj _=>?_));rw[aU5]
theorem aKa (x y:BitVec 64) (j:Nat):eP (bJ x y) j=qG (eP x j) (eP y j):=by
 unfold eP bJ qG to8 cA;rw[BitVec.ushiftRight_and_distrib,BitVec.setWidth_and]
theorem aU6 (x y:BitVec 64) (j:Nat):eP (bY x y) j=aJq (eP x j) (eP y j):=by
 unfold eP bY aJq to8 cA;rw[BitVec.ushiftRight_xor_distrib,BitVec.setWidth_xor]
theorem aHf (x y z:BitVec 8):qG (qG x y) z=qG x (qG y z):=BitVec.and_assoc ..
theorem bBe (f:Nat->Nat) (N:Nat) (h:((List.range 8).map f).sum<=N):∃j,j<8/\f j<=N / 8:=by
 refine Classical.byContradiction λhc=>?_;have h1:∀j,j<8->N / 8<f j:=λj hj=>by
  refine Nat.lt_of_not_le λh2=>hc ⟨j,hj,h2⟩
 have:=h1 0 ω;have:=h1 1 ω;have:=h1 2 ω;have:=h1 3 ω;have:=h1 4 ω;have:=h1 5 ω;have:=h1 6 ω;have:=h1 7 ω;simp[List.range,List.range.loop] at h;omega
theorem aHg (x y:BitVec 64):cnt (bJ x y)<=cnt y:=by
 have key:∀n (a b:Nat),ds 1 n (a &&& b)<=ds 1 n b:=by
  intro n
  induction n with
  | zero=>intro a b;exact Nat.le_refl _
  | succ n ih=>
    intro a b;show(a &&& b) % 2 ^ 1+ds 1 n ((a &&& b) / 2 ^ 1)<=b % 2 ^ 1+ds 1 n (b / 2 ^ 1);have h1:=ih (a / 2 ^ 1) (b / 2 ^ 1);have h2:(a &&& b) / 2 ^ 1=a / 2 ^ 1 &&& b / 2 ^ 1:=Nat.and_div_two_pow ..;have h3:(a &&& b) % 2 ^ 1<=b % 2 ^ 1:=by
     rw[Nat.and_mod_two_pow];exact Nat.and_le_right
    rw[h2];omega
 have h:=key 64 x.toNat y.toNat;unfold cnt bJ;rw[BitVec.toNat_and];exact h
theorem bA0 (a b:IrG) (t:Int):a.n (b.tn (-t)) 0=a.n b t:=by
 unfold IrG.n IrG.tn aPy;rw[<- xG _ t,zX,aTp,zX,uT,uT,jR,jR]
theorem aZx (a b:IrG) (t:Int):a.d (b.tn (-t)) 0=a.d b t:=by
 unfold IrG.d IrG.tn aPx;rw[<- xG _ t,zX,uT,jR]
theorem bGt {b:IrG} (t:Int) (h:b.ok=true):(b.tn t).ok=true:=by
 unfold IrG.ok vI IrG.tn at *;rw[decide_eq_true_eq] at *;show cR (cL b.c t) (cL b.m t)=0#64;rw[<- aOg,h];refine fZ λi hi=>?_;rw[dD _ _ _ hi];simp
theorem yQ (t:Int):∀k:Nat,t∈hO (k+1)↔-(k:Int)<=t/\t<=k
 | 0=>by simp[hO];omega
 | k+1=>by
   show t∈hO (k+1)++(if k+1=0 then [0] else [((k+1:Nat):Int),-((k+1:Nat):Int)])↔_;rw[if_neg ω,List.mem_append,yQ t k];simp;omega
structure aUb (x y:IrG) (l:List Int) (p:Pt):Prop where
 at_:0<p.d->∃t∈l,16<=x.d y t/\p.n=x.n y t/\p.d=x.d y t
 le:∀t∈l,16<=x.d y t->0<p.d/\p.n*x.d y t<=x.n y t*p.d
theorem bFu {a b c d e f:Nat} (hd:0<d) (h1:a*d<=c*b) (h2:c*f<=e*d):a*f<=e*b:=by
 refine Nat.le_of_mul_le_mul_right (c:=d) ?_ hd
 calc a*f*d=a*d*f:=by rw[Nat.mul_assoc,Nat.mul_comm f d,<- Nat.mul_assoc]
  _<=c*b*f:=Nat.mul_le_mul_right _ h1
  _=c*f*b:=by rw[Nat.mul_assoc,Nat.mul_comm b f,<- Nat.mul_assoc]
  _<=e*d*b:=Nat.mul_le_mul_right _ h2
  _=e*b*d:=by rw[Nat.mul_assoc,Nat.mul_comm d b,<- Nat.mul_assoc]
theorem aL1 {x y:IrG} {l:List Int} {p:Pt} (h:aUb x y l p) (t:Int):aUb x y (l++[t]) (lX x y p t):=by
 unfold lX;by_cases hc:16<=x.d y t/\(Pt.mk (x.n y t) (x.d y t) t).less p=true
 ·rw[if_pos hc];obtain⟨h16,hl⟩:=hc;simp only [Pt.less,Bool.and_eq_true,Bool.or_eq_true,decide_eq_true_eq] at hl;refine⟨λ_=>⟨t,τ,h16,rfl,rfl⟩,λs hs h2=>⟨by simp only;omega,?_⟩⟩;rcases List.mem_append.1 hs with hs | hs
  ·obtain⟨h3,h4⟩:=h.le s hs h2;rcases hl.2 with h5 | h5
   ·omega
   ·exact bFu h3 (Nat.le_of_lt h5) h4
  ·simp at hs;subst hs;exact Nat.le_refl _
 ·rw[if_neg hc];refine⟨λh0=>?_,λs hs h2=>?_⟩
  ·obtain⟨s,h1,h2⟩:=h.at_ h0;exact⟨s,by simp[h1],h2⟩
  ·rcases List.mem_append.1 hs with hs | hs
   ·exact h.le s hs h2
   ·simp at hs;subst hs;have h3:¬(Pt.mk (x.n y s) (x.d y s) s).less p=true:=λh=>hc ⟨h2,h⟩;simp only [Pt.less,Bool.and_eq_true,Bool.or_eq_true,decide_eq_true_eq,not_and,not_or] at h3;have h4:=h3 ω;exact⟨ω,Nat.le_of_not_lt h4.2⟩
theorem aL0 (x y:IrG) (l:List Int):aUb x y l (iI x y l):=by
 have key:∀r:List Int,aUb x y r.reverse (iI x y r.reverse):=by
  intro r
  induction r with
  | nil=>exact⟨λh=>absurd h (Nat.lt_irrefl 0),λt ht=>by simp at ht⟩
  | cons t r ih=>
    rw[List.reverse_cons,rF];exact aL1 ih t
 have:=key l.reverse
 rwa [List.reverse_reverse] at this
def mt1 (a bk:IrG) (num den:Nat):Bool:=decide (16<=a.d bk 0)&&decide (a.n bk 0*den<=num*a.d bk 0)
theorem aWj (a b:IrG) (n num den:Nat):rP a b n num den=true↔∃t:Int,(-(n:Int)<=t/\t<=n)/\16<=a.d b t/\a.n b t*den<=num*a.d b t:=by
 have hb:=aL0 a b (hO (n+1));have hd:iH a b n=iI a b (hO (n+1)):=rfl;unfold rP;rw[hd];generalize iI a b (hO (n+1))=p at hb;have hc:((p.n:Int)*den<=num*p.d)↔p.n*den<=num*p.d:=by
  rw[<- Int.natCast_mul,<- Int.natCast_mul,Int.ofNat_le]
 rw[Bool.and_eq_true,decide_eq_true_eq,decide_eq_true_eq,hc];constructor
 ·rintro⟨h1,h2⟩;obtain⟨t,h3,h4,h5,h6⟩:=hb.at_ h1;exact⟨t,(yQ t n).1 h3,h4,by rw[<- h5,<- h6];exact h2⟩
 ·rintro⟨t,h1,h2,h3⟩;obtain⟨h4,h5⟩:=hb.le t ((yQ t n).2 h1) h2;exact⟨h4,bFu ω h5 h3⟩
theorem aWi (a b:IrG) (n num den:Nat):rP a b n num den=(List.range (2*n+1)).any λi=>mt1 a (bkS b n i) num den:=by
 rw[Bool.eq_iff_iff,aWj,List.any_eq_true];have e:∀i:Nat,mt1 a (bkS b n i) num den=(decide (16<=a.d b ((i:Int) - n))&&decide (a.n b ((i:Int) - n)*den<=num*a.d b ((i:Int) - n))):=λi=>by
  unfold mt1 bkS;rw[show(n:Int) - i=-((i:Int) - n) by omega,bA0,aZx]
 constructor
 ·rintro⟨t,h1,h2,h3⟩;refine⟨(t+n).toNat,List.mem_range.2 ω,?_⟩;rw[e,show(((t+n).toNat:Nat):Int) - n=t by omega];simp[h2,h3]
 ·rintro⟨i,h1,h2⟩;rw[e,Bool.and_eq_true,decide_eq_true_eq,decide_eq_true_eq] at h2;have:=List.mem_range.1 h1;exact⟨(i:Int) - n,ω,h2⟩
def aF3 (rad:Nat) (a bk:IrG):Bool:=(List.range 8).any λj=>!decide (rad / 8<aHp (qG (qG (aJq (eP a.c j) (eP bk.c j)) (eP a.m j)) (eP bk.m j)))
theorem aWr (a b:IrG) (num den:Nat) (hden:0<den) (t:Int) (h:mt1 a (b.tn t) num den=true):aF3 (vU b num den) a (b.tn t)=true:=by
 unfold mt1 at h;rw[Bool.and_eq_true,decide_eq_true_eq,decide_eq_true_eq] at h;have hd:a.d (b.tn t) 0<=cnt b.m:=by
  unfold IrG.d aPx;refine Nat.le_trans (aHg _ _) ?_;show cnt (cL b.m t)<=_;rw[xG];exact Nat.le_refl _
 have hn:a.n (b.tn t) 0<=vU b num den:=by
  unfold vU;rw[Int.toNat_natCast,Int.toNat_natCast,Nat.le_div_iff_mul_le hden];refine Nat.le_trans h.2 ?_;rw[Nat.mul_comm];exact Nat.mul_le_mul_right _ hd
 generalize b.tn t=bk at *;have hs:a.n bk 0=((List.range 8).map λj=>aHp (qG (qG (aJq (eP a.c j) (eP bk.c j)) (eP a.m j)) (eP bk.m j))).sum:=by
  unfold IrG.n aPy;rw[aVb,jR,jR]
  congr 1
  refine List.map_congr_left λj _=>?_;rw[aKa,aKa,aU6,aHf]
 rw[hs] at hn;obtain⟨j,h1,h2⟩:=bBe _ _ hn;unfold aF3;rw[List.any_eq_true];refine⟨j,List.mem_range.2 h1,?_⟩;simp;exact h2
def SL (l:List MbG):Prop:=l.Pairwise λa b=>a.id<b.id
structure VL (l:List MbG):Prop where
 len:l.length<=256
 num:∀a∈l,okN a.id=true
 ok:∀a∈l,a.x.ok=true
 nd:(l.map (·.id)).Nodup
theorem VL.perm {l l':List MbG} (h:VL l) (p:l.Perm l'):VL l':=
 ⟨by rw[<- p.length_eq];exact h.len,λa ha=>h.num a (p.mem_iff.2 ha),λa ha=>h.ok a (p.mem_iff.2 ha),(p.map _).nodup_iff.1 h.nd⟩
theorem SL.nd {l:List MbG} (h:SL l):(l.map (·.id)).Nodup:=by
 unfold List.Nodup;rw[List.pairwise_map];exact h.imp λh=>Int.ne_of_lt h
theorem nH {l:List MbG} (h:(l.map (·.id)).Nodup):SL (cD l):=by
 obtain⟨p,_,s⟩:=dA l;have h2:=(p.map (·.id)).nodup_iff.2 h;unfold List.Nodup at h2;rw[List.pairwise_map,List.pairwise_iff_getElem] at h2;unfold SL;rw[List.pairwise_iff_getElem];intro i j hi hj hij;have h3:=s i j hij hj hi;have h4:=h2 i j hi hj hij;omega
theorem aZg {l:List MbG} (h:SL l):aFe l=false:=by
 unfold aFe;rw[List.any_eq_false];intro i hi;have hi:=List.mem_range.1 hi;simp only [Bool.and_eq_true,decide_eq_true_eq,not_and];intro h1 h2;have h3:=List.pairwise_iff_getElem.1 h (i - 1) i ω hi ω;rw[getElem!_pos l i hi,getElem!_pos l (i - 1) ω] at h2;omega
theorem aZ8 {l:List MbG} (s:∀i j,i<j->(hj:j<l.length)->∀hi:i<l.length,l[i].id<=l[j].id) (h:aFe l=false):SL l:=by
 unfold SL;rw[List.pairwise_iff_getElem];intro i j hi hj hij;unfold aFe at h;rw[List.any_eq_false] at h;have h1:=h (i+1) (List.mem_range.2 ω);simp only [Bool.and_eq_true,decide_eq_true_eq,not_and] at h1;have h1:=h1 ω;rw[getElem!_pos l (i+1) ω,getElem!_pos l (i+1 - 1) ω] at h1;have h2:=s i (i+1) ω ω hi;have h3:l[i+1 - 1].id=l[i].id:=τ;by_cases e:i+1=j
 ·subst e;omega
 ·have h4:=s (i+1) j ω hj ω;omega
theorem rB (l:List MbG):fJ l=0↔VL l:=by
 unfold fJ;by_cases h1:256<l.length
 ·rw[if_pos h1];exact⟨λh=>(by cases h),λh=>absurd h.len ω⟩
 rw[if_neg h1];by_cases h2:l.any (λa=>!okN a.id)=true
 ·rw[if_pos h2];refine⟨λh=>(by cases h),λh=>?_⟩;obtain⟨a,ha,h3⟩:=List.any_eq_true.1 h2;rw[h.num a ha] at h3;cases h3
 rw[if_neg h2];by_cases h3:l.any (λa=>!a.x.ok)=true
 ·rw[if_pos h3];refine⟨λh=>(by cases h),λh=>?_⟩;obtain⟨a,ha,h3⟩:=List.any_eq_true.1 h3;rw[h.ok a ha] at h3;cases h3
 rw[if_neg h3];by_cases h4:aFe (cD l)=true
 ·rw[if_pos h4];refine⟨λh=>(by cases h),λh=>?_⟩;rw[aZg (nH h.nd)] at h4;cases h4
 rw[if_neg h4];refine⟨λ_=>⟨ω,λa ha=>?_,λa ha=>?_,?_⟩,λ_=>rfl⟩
 ·have h2':l.any (λa=>!okN a.id)=false:=by simpa using h2
  have:=List.any_eq_false.1 h2' a ha;simpa using this
 ·have h2':l.any (λa=>!a.x.ok)=false:=by simpa using h3
  have:=List.any_eq_false.1 h2' a ha;simpa using this
 ·have h5:aFe (cD l)=false:=by simpa using h4
  obtain⟨p,_,s⟩:=dA l;exact(p.map (·.id)).nodup_iff.1 (aZ8 s h5).nd
theorem aJx {l l':List MbG} (h:SL l) (h':SL l') (e:∀a,a∈l↔a∈l'):l=l':=by
 induction l generalizing l' with
 | nil=>
   cases l' with
   | nil=>rfl
   | cons b r=>exact absurd ((e b).2 (List.mem_cons_self)) τ
 | cons a r ih=>
   cases l' with
   | nil=>exact absurd ((e a).1 (List.mem_cons_self)) τ
   | cons b r'=>
     have h1:=List.pairwise_cons.1 h;have h2:=List.pairwise_cons.1 h';have hab:a=b:=by
      rcases List.mem_cons.1 ((e a).1 List.mem_cons_self) with q | q
      ·exact q
      rcases List.mem_cons.1 ((e b).2 List.mem_cons_self) with q2 | q2
      ·exact q2.symm
      have:=h1.1 b q2;have:=h2.1 a q;omega
     subst hab;have:r=r':=ih h1.2 h2.2 λc=>by
      constructor
      ·intro hc;rcases List.mem_cons.1 ((e c).1 (List.mem_cons_of_mem _ hc)) with q | q
       ·subst q;have:=h1.1 c hc;omega
       ·exact q
      ·intro hc;rcases List.mem_cons.1 ((e c).2 (List.mem_cons_of_mem _ hc)) with q | q
       ·subst q;have:=h2.1 c hc;omega
       ·exact q
     rw[this]
theorem wQ (l:List MbG) (a:MbG):a∈cD l↔a∈l:=(dA l).1.mem_iff
theorem kY (l:List MbG):(cD l).length=l.length:=(dA l).2.1
theorem bBu {l l':List MbG} (h:(l.map (·.id)).Nodup) (h':(l'.map (·.id)).Nodup) (e:∀a,a∈l↔a∈l'):cD l=cD l':=
 aJx (nH h) (nH h') λa=>by rw[wQ,wQ,e]
theorem aJb {l:List MbG} (h:SL l):cD l=l:=aJx (nH h.nd) h λa=>wQ l a
theorem bA6 {l l':List MbG} (h:(l.map (·.id)).Nodup) (h':(l'.map (·.id)).Nodup) (e:∀a,a∈l↔a∈l'):lL l=lL l':=by
 have hs:=bBu h h' e;have hl:l.length=l'.length:=by rw[<- kY l,<- kY l',hs]
 unfold lL;rw[hs,hl]
theorem aWt {l:List MbG} (h:(l.map (·.id)).Nodup):lL (cD l)=lL l:=bA6 (nH h).nd h (wQ l)
theorem VL.srt {l:List MbG} (h:VL l):VL (cD l):=h.perm (dA l).1.symm
theorem bA7 {l:List MbG} (h:SL l):(lL l).ms=l:=aJb h
theorem xC {l:List MbG} (h:SL l) (t:Int):(∀j,j<plc l t->∀hj:j<l.length,l[j].id<t)/\plc l t<=l.length/\∀j,plc l t<=j->∀hj:j<l.length,t<=l[j].id:=by
 have key:∃i,i<=l.length/\(∀j,j<i->∀hj:j<l.length,l[j].id<t)/\∀j,i<=j->∀hj:j<l.length,t<=l[j].id:=by
  induction l with
  | nil=>exact⟨0,Nat.le_refl _,λj hj=>absurd hj ω,λj _ hj=>absurd hj τ⟩
  | cons a r ih=>
    have h1:=List.pairwise_cons.1 h;by_cases ha:a.id<t
    ·obtain⟨i,i1,i2,i3⟩:=ih h1.2;refine⟨i+1,ι,λj hj hjl=>?_,λj hj hjl=>?_⟩
     ·cases j with
      | zero=>exact ha
      | succ j=>exact i2 j ω (by simpa using hjl)
     ·cases j with
      | zero=>omega
      | succ j=>exact i3 j ω (by simpa using hjl)
    ·refine⟨0,τ,λj hj=>absurd hj ω,λj _ hjl=>?_⟩
     cases j with
     | zero=>show t<=a.id;omega
     | succ j=>
       have hjl':j<r.length:=by simpa using hjl
       have:=h1.1 r[j] (List.getElem_mem hjl');show t<=r[j].id;omega
 obtain⟨i,h1,h2,h3⟩:=key;have e:plc l t=i:=by
  unfold plc;refine gP h1 (λj hj=>?_) λj hj hjl=>?_
  ·rw[getElem!_pos l j ω];have:=h2 j hj ω;unfold bU;rw[if_pos this];decide
  ·rw[getElem!_pos l j hjl];have:=h3 j hj hjl;unfold bU
   repeat' split
   all_goals omega
 rw[e];exact⟨h2,h1,h3⟩
theorem aSs {l:List MbG} (h:SL l) {i:Nat} (hi:i<l.length):plc l l[i].id=i:=by
 obtain⟨h1,h2,h3⟩:=xC h l[i].id;have hp:=List.pairwise_iff_getElem.1 h;rcases Nat.lt_trichotomy (plc l l[i].id) i with q | q | q
 ·have:=h3 _ (Nat.le_refl _) ω;have:=hp _ i ω hi q;omega
 ·exact q
 ·have:=h1 i q hi;omega
theorem bAn {l:List MbG} (h:(l.map (·.id)).Nodup) {a b:MbG} (ha:a∈l) (hb:b∈l) (e:a.id=b.id):a=b:=by
 unfold List.Nodup at h;rw[List.pairwise_map,List.pairwise_iff_getElem] at h;obtain⟨i,hi,rfl⟩:=List.mem_iff_getElem.1 ha;obtain⟨j,hj,rfl⟩:=List.mem_iff_getElem.1 hb;rcases Nat.lt_trichotomy i j with q | q | q
 ·exact absurd e (h i j hi hj q)
 ·subst q;rfl
 ·exact absurd e.symm (h j i hj hi q)
structure aLs (l:List MbG) (j:Nat) (L:List PsG):Prop where
 to:∀p∈L,∀a∈p.ids,∃b∈l,b.id=a/\eP b.x.c j=p.c/\eP b.x.m j=p.m
 fro:∀b∈l,∃p∈L,p.c=eP b.x.c j/\p.m=eP b.x.m j/\b.id∈p.ids
 sum:(L.map (·.ids.length)).sum=l.length
theorem zT {α:Type} (g:α->Nat) (f:α->α):∀(L:List α) (q:Nat) (hq:q<L.length),g (f L[q])=g L[q]+1->((L.modify q f).map g).sum=(L.map g).sum+1
 | [],q,hq,_=>absurd hq τ
 | a::r,0,hq,h=>by simp at h ⊢;omega
 | a::r,q+1,hq,h=>by
   have:=zT g f r q (by simpa using hq) (by simpa using h);simp;omega
theorem aLu {l:List MbG} {j k:Nat} {L:List PsG} (hi:Inv L k) (h:aLs l j L) (b:MbG):aLs (l++[b]) j (aAe L (eP b.x.m j) (eP b.x.c j) b.id):=by
 obtain⟨hinv,hat⟩:=aEr hi (eP b.x.m j) (eP b.x.c j);have hq:=aJy L (eP b.x.m j) (eP b.x.c j);obtain⟨hm,hc⟩:=hat hq;have h2:aLs l j (addL L (eP b.x.m j) (eP b.x.c j)):=by
  unfold addL;split
  ·exact h
  ·refine⟨λp hp a ha=>?_,λb hb=>?_,?_⟩
   ·rcases List.mem_append.1 hp with q | q
    ·exact h.to p (List.mem_of_mem_take q) a ha
    ·rcases List.mem_cons.1 q with rfl | q
     ·simp at ha
     ·exact h.to p (List.mem_of_mem_drop q) a ha
   ·obtain⟨p,hp,h1⟩:=h.fro b hb;refine⟨p,?_,h1⟩;rw[<- List.take_append_drop (pat L (eP _ j) (eP _ j)) L,List.mem_append] at hp;rw[List.mem_append];exact hp.imp id λq=>List.mem_cons_of_mem _ q
   ·rw[List.map_append,List.sum_append,List.map_cons,List.sum_cons];have:=h.sum;rw[<- List.take_append_drop (pat L (eP b.x.m j) (eP b.x.c j)) L,List.map_append,List.sum_append] at this;simp only [List.length_nil] at this ⊢;omega
 unfold aAe;generalize pat L (eP b.x.m j) (eP b.x.c j)=q at *;generalize addL L (eP b.x.m j) (eP b.x.c j)=L2 at *;have hids:=vD (hinv.ids L2[q] (List.getElem_mem hq)).2 b.id;refine⟨λp hp a ha=>?_,λd hd=>?_,?_⟩
 ·obtain⟨i,hi,rfl⟩:=List.mem_iff_getElem.1 hp;simp only [List.length_modify] at hi;rw[List.getElem_modify] at ha ⊢;split at ha
  ·rename_i e;subst e;rw[if_pos rfl];rcases List.mem_cons.1 (hids.2.2.mem_iff.1 ha) with rfl | ha
   ·exact⟨b,τ,rfl,hc.symm,hm.symm⟩
   ·obtain⟨d,h1,h3⟩:=h2.to _ (List.getElem_mem hq) a ha;exact⟨d,by simp[h1],h3⟩
  ·rename_i e;rw[if_neg e];obtain⟨d,h1,h3⟩:=h2.to _ (List.getElem_mem hi) a ha;exact⟨d,by simp[h1],h3⟩
 ·have hql:q<(L2.modify q λp=>{p with ids:=mR p.ids b.id}).length:=by simpa using hq
  have hqe:(L2.modify q λp=>{p with ids:=mR p.ids b.id})[q]={L2[q] with ids:=mR L2[q].ids b.id}:=by rw[List.getElem_modify,if_pos rfl]
  rcases List.mem_append.1 hd with hd | hd
  ·obtain⟨p,hp,h3,h4,h5⟩:=h2.fro d hd;obtain⟨i,hi,rfl⟩:=List.mem_iff_getElem.1 hp;by_cases e:i=q
   ·subst e;refine⟨_,List.getElem_mem hql,?_⟩;rw[hqe];exact⟨h3,h4,hids.2.2.mem_iff.2 (List.mem_cons_of_mem _ h5)⟩
   ·have hil:i<(L2.modify q λp=>{p with ids:=mR p.ids b.id}).length:=by simpa using hi
    refine⟨_,List.getElem_mem hil,?_⟩;rw[List.getElem_modify,if_neg (λh=>e h.symm)];exact⟨h3,h4,h5⟩
  ·simp at hd;subst hd;refine⟨_,List.getElem_mem hql,?_⟩;rw[hqe];exact⟨hc,hm,hids.2.2.mem_iff.2 List.mem_cons_self⟩
 ·rw[zT (λp:PsG=>p.ids.length) (λp=>{p with ids:=mR p.ids b.id}) L2 q hq hids.2.1,h2.sum];simp
theorem aJ7 (ms:List MbG) (j:Nat):∀k,k<=ms.length->aLs (ms.take k) j (cK ms k j)
 | 0,_=>⟨λp hp=>(by cases hp),λb hb=>(by simp at hb),rfl⟩
 | k+1,h=>by
   rw[aC4 (ω:k<ms.length),List.take_succ_eq_append_getElem (ω:k<ms.length)];exact aLu (aC3 ms j k ω) (aJ7 ms j k ω) _
theorem yU (l:List MbG) (j:Nat):aLs (cD l) j ((lL l).ch j):=by
 have h:=aJ7 (cD l) j l.length (by rw[kY];exact Nat.le_refl _);rw[<- kY l,List.take_length] at h;show aLs _ _ (cK (cD l) l.length j);rw[<- kY l];exact h
theorem aSg {l:List MbG} (h:l.length<=1000):(lL l).Sm:=by
 refine⟨by show(cD l).length<=1000;rw[kY];exact h,λj _=>?_⟩;have hi:=aC3 (cD l) j l.length (by rw[kY];exact Nat.le_refl _);exact⟨Nat.le_trans hi.len ω,λp hp=>Nat.le_trans (hi.ids p hp).1 ω⟩
theorem aB0 {l:List MbG} (h:VL l):eV (lL l)=true:=by
 unfold eV;have e:(lL l).ms=cD l:=rfl;have h2:lL (cD l)=lL l:=aWt h.nd;rw[e,h2,(rB _).2 h.srt,e];simp
theorem aSh {l:List MbG} (h:VL l):bEr (lL l):=by
 refine⟨aB0 h,(nH h.nd).nd,λj _ p hp a ha=>?_,λa ha=>h.srt.ok a ha,aSg (by have:=h.len;omega)⟩;obtain⟨b,hb,h1,_⟩:=(yU l j).to p hp a ha;obtain⟨i,hi,rfl⟩:=List.mem_iff_getElem.1 hb;exact⟨i,hi,h1,by rw[<- h1];exact aSs (nH h.nd) hi⟩
theorem aGy {x:IxG} (h:eV x=true):VL x.ms/\SL x.ms/\∀j,j<8->x.ch j=(lL x.ms).ch j:=by
 unfold eV at h;simp only [Bool.and_eq_true,decide_eq_true_eq,List.all_eq_true,List.mem_range] at h;obtain⟨⟨h1,h2⟩,h3⟩:=h;have hv:=(rB _).1 h1;refine⟨hv,?_,h3⟩;rw[h2];exact nH hv.nd
def aAl (l:List MbG) (b:IrG) (n num den:Nat):List Int:=(l.filter λa=>rP a.x b n num den).map (·.id)
def snM (l:List MbG) (b:IrG) (n num den:Nat):Nat:=((List.range (2*n+1)).map λi=>(l.filter λa=>aF3 (vU b num den) a.x (bkS b n i)).length).sum
theorem aCe {l:List MbG} (h:VL l) (rad:Nat) (bk:IrG) {a:MbG} (ha:a∈cD l):tI (lL l) rad bk a.id=aF3 rad a.x bk:=by
 rw[Bool.eq_iff_iff];unfold tI aF3;rw[List.any_eq_true,List.any_eq_true];constructor
 ·rintro⟨j,hj,h1⟩;obtain⟨p,hp,h2⟩:=List.any_eq_true.1 h1;rw[Bool.and_eq_true] at h2;obtain⟨b,hb,h3,h4,h5⟩:=(yU l j).to p hp a.id (by simpa using h2.2);have e:=bAn h.srt.nd hb ha h3;subst e;refine⟨j,hj,?_⟩;rw[h4,h5];exact h2.1
 ·rintro⟨j,hj,h1⟩;obtain⟨p,hp,h3,h4,h5⟩:=(yU l j).fro a ha;refine⟨j,hj,List.any_eq_true.2 ⟨p,hp,?_⟩⟩;rw[Bool.and_eq_true];refine⟨?_,by simpa using h5⟩;unfold aFh aMu;rw[h3,h4];exact h1
theorem bAz {l:List MbG} (h:VL l) (num den:Nat) (bk:IrG) {a:MbG} (ha:a∈cD l):mtI (lL l) num den bk a.id=mt1 a.x bk num den:=by
 obtain⟨i,hi,rfl⟩:=List.mem_iff_getElem.1 ha;unfold mtI mt1;have e:(lL l).ms=cD l:=rfl;rw[e,aSs (nH h.nd) hi,getElem!_pos _ i hi];have hc:(((cD l)[i].x.n bk 0:Int)*den<=num*(cD l)[i].x.d bk 0)↔(cD l)[i].x.n bk 0*den<=num*(cD l)[i].x.d bk 0:=by
  rw[<- Int.natCast_mul,<- Int.natCast_mul,Int.ofNat_le]
 simp only [hc]
theorem aQv {l:List MbG} (h:VL l) (b:IrG) (n num den:Nat) (hden:0<den):xX (lL l) b n num den=aAl (cD l) b n num den:=by
 unfold xX aAl;have e:(lL l).ms=cD l:=rfl;rw[e,List.filter_map]
 congr 1
 refine List.filter_congr λa ha=>?_;show aFr (lL l) b n num den (vU b num den) (2*n+1) a.id=_;rw[aWi];unfold aFr;refine Bool.eq_iff_iff.2 ?_;rw[List.any_eq_true,List.any_eq_true];have key:∀i,(tI (lL l) (vU b num den) (bkS b n i) a.id&&mtI (lL l) num den (bkS b n i) a.id)=mt1 a.x (bkS b n i) num den:=λi=>by
  rw[aCe h _ _ ha,bAz h _ _ _ ha]
  cases hm:mt1 a.x (bkS b n i) num den
  ·simp
  ·rw[show bkS b n i=b.tn ((n:Int) - i) from rfl] at hm ⊢;rw[aWr _ _ _ _ hden _ hm];rfl
 simp only [key]
theorem aTg {l:List MbG} (h:VL l) (b:IrG) (n num den:Nat):fX (lL l) b n num den (2*n+1)=snM (cD l) b n num den:=by
 unfold fX snM
 congr 1
 refine List.map_congr_left λi _=>?_;unfold kM;have e:(lL l).ms=cD l:=rfl;rw[e,List.filter_map,List.length_map]
 congr 1
 refine List.filter_congr λa ha=>?_;exact aCe h _ _ ha
section
variable {T:Tab} {E:Env} {M:Mem} {nx:Nat}
@[go_sem]theorem bHz (x:Operand) (t:TypeId):dU T (.call ⟨.builtin .len,#[x],#[t]⟩) E M nx=aQ4 T t (ev E x):=(rfl)
end
end Go.Gx.Ix
namespace Go.Gx.Ix
open Go.RowKit Go.Proofs Go.Proofs.YtncccnmmjfapnaaGreat
theorem mE_ok {x y:IrG} {turns num den:Int} (h:mE x y turns num den=0):x.ok=true/\y.ok=true/\(0<=turns/\turns<=7)/\(1<=den/\den<=1000)/\0<=num/\num<=den:=by
 unfold mE at h;split at h
 ·rename_i h1;split at h
  ·rename_i h2;simp only [Bool.and_eq_true,vL,btw,decide_eq_true_eq] at h1 h2;exact⟨h1.1,h1.2,ω,ω,ω,ω⟩
  ·cases h
 ·cases h
def srE (x:IxG) (b:IrG) (turns num den:Int):Int:=if eV x=false then 40 else mE b b turns num den
def zR (x:IxG) (b:IrG) (turns num den:Int):List Int:=if srE x b turns num den=0 then aAl x.ms b turns.toNat num.toNat den.toNat else []
def aI9 (x:IxG) (b:IrG) (turns num den:Int):Nat:=if srE x b turns num den=0 then snM x.ms b turns.toNat num.toNat den.toNat else 0
theorem bBx {x:IxG} (h:eV x=true):x.sv=(lL x.ms).sv:=by
 obtain⟨h1,h2,h3⟩:=aGy h;unfold IxG.sv;rw[bA7 h2]
 congr 2
 refine List.map_congr_left λj hj=>?_;rw[h3 j (List.mem_range.1 hj)]
theorem aN0 (x:IxG) (h:x.Sm) (b:IrG) (turns num den:Int) (hne:srE x b turns num den≠0):PureK Tryz.prog 51 [x.sv,b.sv,.i turns,.agg [.i num,.i den]] (· =.tup [.agg [aP,.i 0],.i (srE x b turns num den)]):=by
 refine nE aD Tryz.func51 rfl κ ν rfl rfl ?_;have hc:=aJ9 x h
 cases hv:eV x
 ·have e:srE x b turns num den=40:=by unfold srE;rw[if_pos hv]
  rw[e];simp[go_sem,IxG.sv] at hc ⊢;refine fT hc (λh=>h) rfl rfl ?_;simp[go_sem,oH,hv]
 ·have e:srE x b turns num den=mE b b turns num den:=by unfold srE;rw[if_neg (by rw[hv];simp)]
  rw[e] at hne ⊢;simp[go_sem,IxG.sv] at hc ⊢;refine fT hc (λh=>h) rfl rfl ?_;simp[go_sem,oH,hv];refine aA (aKr b b turns num den) rfl rfl ?_;generalize mE b b turns num den=e at hne;simp[go_sem,hne]
theorem aN1 (x:IxG) (h:x.Sm) (b:IrG) (turns num den:Int):PureK Tryz.prog 51 [x.sv,b.sv,.i turns,.agg [.i num,.i den]] (· =.tup [.agg [ils (zR x b turns num den),.i (aI9 x b turns num den)],.i (srE x b turns num den)]):=by
 by_cases h0:srE x b turns num den=0
 ·have hv:eV x=true:=by
   cases hv:eV x
   ·unfold srE at h0;rw[if_pos hv] at h0;cases h0
   ·rfl
  have hm:mE b b turns num den=0:=by unfold srE at h0;rwa [if_neg (by rw[hv];simp)] at h0
  obtain⟨h1,h2,h3⟩:=aGy hv;obtain⟨k1,_,k2,k3,k4⟩:=mE_ok hm;have e1:zR x b turns num den=aAl x.ms b turns.toNat num.toNat den.toNat:=by unfold zR;rw[if_pos h0]
  have e2:aI9 x b turns num den=snM x.ms b turns.toNat num.toNat den.toNat:=by unfold aI9;rw[if_pos h0]
  rw[e1,e2,h0,bBx hv];obtain⟨n,rfl⟩:∃n:Nat,turns=n:=⟨turns.toNat,ω⟩;obtain⟨nm,rfl⟩:∃n:Nat,num=n:=⟨num.toNat,ω⟩;obtain⟨d,rfl⟩:∃n:Nat,den=n:=⟨den.toNat,ω⟩;have hs:=aTb (lL x.ms) (aSh h1) b n nm d hm (λi=>bGt _ k1);rw[aQv h1 b n nm d ω,aTg h1,aJb h2] at hs;exact hs
 ·have e1:zR x b turns num den=[]:=by unfold zR;rw[if_neg h0]
  have e2:aI9 x b turns num den=0:=by unfold aI9;rw[if_neg h0]
  rw[e1,e2];exact aF9 (aN0 x h b turns num den h0) (aR1 ⟨le_agg ⟨aAr (lJ 1 _),SV.le.rfl,trivial⟩,SV.le.rfl,trivial⟩)
theorem aVr (l:List MbG) (b:IrG) (n num den:Nat):(aAl l b n num den).length<=l.length:=by
 unfold aAl;rw[List.length_map];exact List.length_filter_le _ _
end Go.Gx.Ix
namespace Go.Gx.Ix
open Go.RowKit Go.Proofs Go.Proofs.YtncccnmmjfapnaaGreat
def fdI (l:List MbG) (b:IrG) (turns num den:Int):List Int:=if mE b b turns num den=0 then aAl (cD l) b turns.toNat num.toNat den.toNat else []
def fdS (l:List MbG) (b:IrG) (turns num den:Int):Nat:=if mE b b turns num den=0 then snM (cD l) b turns.toNat num.toNat den.toNat else 0
theorem aN2 {l:List MbG} (h:VL l) (b:IrG) (turns num den:Int):PureK Tryz.prog 51 [(lL l).sv,b.sv,.i turns,.agg [.i num,.i den]] (· =.tup [.agg [ils (fdI l b turns num den),.i (fdS l b turns num den)],.i (mE b b turns num den)]):=by
 have hs:=aN1 (lL l) (aSg (by have:=h.len;omega)) b turns num den;have hsE:srE (lL l) b turns num den=mE b b turns num den:=by unfold srE;rw[if_neg (by rw[aB0 h];simp)]
 have e1:zR (lL l) b turns num den=fdI l b turns num den:=by unfold zR fdI;rw[hsE];rfl
 have e2:aI9 (lL l) b turns num den=fdS l b turns num den:=by unfold aI9 fdS;rw[hsE];rfl
 rw[hsE,e1,e2] at hs;exact hs
theorem bAd (l:List MbG) (b:IrG) (turns num den:Int):(fdI l b turns num den).length<=l.length:=by
 unfold fdI;split
 ·have:=aVr (cD l) b turns.toNat num.toNat den.toNat;rw[kY] at this;exact this
 ·exact Nat.zero_le _
end Go.Gx.Ix
namespace Go.Gx.Sr
open Go.RowKit Go.Proofs Go.Proofs.YtncccnmmjfapnaaGreat Go.Gx.Ix
structure SvG where
 num:Int
 den:Int
 turns:Int
 mage:Int
 key:W64
 now:Int
 g:EG
 ir:List IrG
 r:Rg.RG
 ch:List ChG
 ks:List KsG
 lg:List EnG
abbrev irs (l:List IrG):SV:=.r (.rs 2 l.length (aY IrG.f l))
def SvG.f (x:SvG):Nat->RV
 | 0=>.i x.num
 | 1=>.i x.den
 | 2=>.i x.turns
 | 3=>.i x.mage
 | 4=>.w x.key
 | 5=>.i x.now
 | 6=>.rs 2 x.g.nr λi j=>(x.g.r i).c j
 | 7=>.rs 3 x.g.nl λi j=>(x.g.l i).c j
 | 8=>.rs 3 x.g.nc λi j=>(x.g.c i).c j
 | 9=>.rs 2 x.ir.length (aY IrG.f x.ir)
 | 10=>.rs 8 x.r.nr λi j=>(x.r.r i).c j
 | 11=>.rs 3 x.r.nc λi j=>(x.r.c i).c j
 | 12=>.rs 4 x.r.nw λi j=>(x.r.w i).c j
 | 13=>.rs 5 x.r.nm λi j=>(x.r.m i).c j
 | 14=>.rs 3 x.ch.length (aY ChG.f x.ch)
 | 15=>.rs 4 x.ks.length (aY KsG.f x.ks)
 | _=>.rs 7 x.lg.length (aY EnG.f x.lg)
abbrev SvG.cells (x:SvG):List SV:=[.i x.num,.i x.den,.i x.turns,.i x.mage,.w x.key,.i x.now,x.g.rr,x.g.ll,x.g.cc,irs x.ir,Rg.RuleG.rs x.r.nr x.r.r,Rg.ConG.rs x.r.nc x.r.c,Rg.WarG.rs x.r.nw x.r.w,Rg.MarkG.rs x.r.nm x.r.m,nY x.ch,kss x.ks,qO x.lg]
abbrev SvG.sv (x:SvG):SV:=.agg x.cells
structure HtG where
 a:Int
 l:Int
 o:Bool
 s:Int
 n:Int
deriving instance DecidableEq for HtG
def HtG.f (x:HtG):Nat->RV
 | 0=>.i x.a
 | 1=>.i x.l
 | 2=>.v (.bool x.o)
 | 3=>.i x.s
 | _=>.i x.n
abbrev hts (l:List HtG):SV:=.r (.rs 5 l.length (aY HtG.f l))
structure AnG where
 e:Int
 n:Int
 h:List HtG
abbrev AnG.sv (x:AnG):SV:=.agg [.i x.e,.i x.n,hts x.h]
structure OrG where
 k:Int
 n:Int
 a:Int
 b:Int
 f:Bool
 x:IrG
 s:W64
 rl:Rg.RuleG
 w:Rg.WarG
 c:Rg.ConG
 m:Rg.MarkG
 q:Rg.QG
abbrev OrG.cells (o:OrG):List SV:=[.r (.v (.int .u8 o.k)),.i o.n,.i o.a,.i o.b,.b o.f,.w o.x.c,.w o.x.m,.w o.s,
 .i o.rl.p,.i o.rl.r,.i o.rl.l,.i o.rl.f,.i o.rl.t,.i o.rl.k,.i o.rl.s,.r (.v (.int .u8 o.rl.b)),.i o.w.l,.i o.w.p,.i o.w.f,.i o.w.t,.i o.c.p,.i o.c.q,.i o.c.u,.i o.m.l,.i o.m.p,.i o.m.s,.i o.m.u,.i o.m.n,
 .i o.q.p,.i o.q.r,.i o.q.l,.i o.q.w,.i o.q.t,o.q.ks]
abbrev OrG.sv (o:OrG):SV:=.agg o.cells
def bad (e:Int):AnG:=⟨e,0,[]⟩
def nW (n:Int):AnG:=⟨0,n,[]⟩
def IrG.z:IrG:=⟨0#64,0#64⟩
def qW (x:SvG) (o:OrG):SvG × AnG:=
 if Ix.btw 1 1000 o.n then (if maxT - o.n<x.now then (x,bad 9) else ({x with now:=x.now+o.n},nW (x.now+o.n))) else (x,bad 2)
def jZ (x:SvG) (o:OrG):SvG × AnG:=
 if o.x.ok then (if x.g.addE o.n=0 then ({x with g:=x.g.addX o.n,ir:=x.ir++[o.x]},nW (x.g.addN o.n)) else (x,bad (x.g.addE o.n))) else (x,bad 30)
def pL (x:SvG) (o:OrG):SvG × AnG:=
 if x.g.voteE o.n o.a o.b o.f=0 then ({x with g:=x.g.voteX o.n o.a o.b o.f},nW (if x.g.voteB o.n o.a o.b o.f then 1 else 0)) else (x,bad (x.g.voteE o.n o.a o.b o.f))
def wdM (x:SvG) (o:OrG):SvG × AnG:=
 if x.g.wdE o.a o.b=0 then ({x with g:=x.g.wdX o.a o.b},nW 0) else (x,bad (x.g.wdE o.a o.b))
def KsG.re (k:KsG) (key:W64) (a:Int):KsG:=
 let s:=cR k.s (bT 1#64 a.toNat)
 ⟨k.a,k.m,s,(KsG.mk k.a k.m s k.z).seal key⟩
def SvG.rem (x:SvG) (a:Int):SvG:=
 {x with g:=x.g.remG a.toNat,r:=x.r.forget a,lg:=erL x.lg a,ir:=x.ir.set a.toNat IrG.z,ch:=x.ch.filter (λc=>!decide (c.p=a)),ks:=x.ks.map λk=>k.re x.key a}
def aAw (x:SvG) (o:OrG):SvG × AnG:=if x.g.th o.a then (x.rem o.a,nW (erN x.lg o.a)) else (x,bad 6)
def _root_.Go.Gx.Rg.RG.addR (g:Rg.RG) (y:Rg.RuleG):Rg.RG:={g with nr:=g.nr+1,r:=λi=>if i<g.nr then g.r i else y}
def _root_.Go.Gx.Rg.RG.addW (g:Rg.RG) (y:Rg.WarG):Rg.RG:={g with nw:=g.nw+1,w:=λi=>if i<g.nw then g.w i else y}
def pG (x:SvG) (o:OrG):SvG × AnG:=if x.r.nr=20 then (x,bad 9) else if o.rl.good then ({x with r:=x.r.addR o.rl},nW 0) else (x,bad 2)
def aAa (x:SvG) (o:OrG):SvG × AnG:=if x.g.th o.w.p then (if x.r.nw=20 then (x,bad 9) else if o.w.good then ({x with r:=x.r.addW o.w},nW 0) else (x,bad 2)) else (x,bad 6)
def xJ (x:SvG) (o:OrG):SvG × AnG:=if x.g.th o.c.p then (if x.r.cnE o.c=0 then ({x with r:=x.r.putC o.c},nW 0) else (x,bad (x.r.cnE o.c))) else (x,bad 6)
def putM (x:SvG) (o:OrG):SvG × AnG:=if x.g.th o.m.p then (if x.r.mkE o.m=0 then ({x with r:=x.r.putM o.m},nW 0) else (x,bad (x.r.mkE o.m))) else (x,bad 6)
def aAh (x:SvG) (o:OrG):SvG × AnG:=if x.g.th o.a then (if x.ch.length=60 then (x,bad 9) else ({x with ch:=x.ch++[⟨x.now,o.a,o.f⟩]},nW 0)) else (x,bad 6)
def zU (x:SvG) (o:OrG):SvG × AnG:=
 if Ix.btw 0 (min x.ks.length 3) o.n then (if x.now=maxT then (x,bad 9) else
  ({x with ks:=x.ks.take o.n.toNat++aHr x.ch x.now x.mage x.key::x.ks.drop (o.n.toNat+1),now:=x.now+1},nW (x.now+1))) else (x,bad 2)
def gR (x:SvG) (c probe:IrG):RsG:=
 let p:=iH c probe x.turns.toNat
 if p.d=0 then ⟨2,1,0,x.num,x.den,-1⟩ else ⟨if (p.n:Int)*x.den<=x.num*p.d then 1 else 2,p.n,p.d,x.num,x.den,-1⟩
def SvG.eye (x:SvG) (a:Int):IrG:=(x.ir[a.toNat]?).getD IrG.z
def SvG.put (x:SvG) (k a:Int) (r:RsG) (s:W64):SvG:={x with lg:=x.lg++[wrX x.lg x.now k a r.pack s]}
def sJ (x:SvG) (k a:Int) (r:RsG) (s:W64):SvG × AnG:=if x.lg.length=60 then (x,bad 9) else (x.put k a r s,nW r.d)
def aA1 (x:SvG) (o:OrG):SvG × AnG:=if x.g.th o.a then (if o.x.ok then sJ x 1 o.a (gR x (x.eye (x.g.bp o.a x.g.nr)) o.x) o.s else (x,bad 30)) else (x,bad 6)
def SvG.mbs (x:SvG):List MbG:=((List.range x.ir.length).filter λi:Nat=>x.g.th i).map λi:Nat=>⟨(i:Int),x.eye i⟩
def qAt (q:Rg.QG) (a t:Int):Rg.QG:={q with w:=a,t:=t}
def nZ (x:SvG) (o:OrG):List Int->List HtG->SvG × AnG
 | [],h=>(x,⟨0,h.length,h⟩)
 | a::l,h=>
   let q:=qAt o.q a x.now
   if x.r.aerr q=0 then
    (if x.lg.length=60 then (x,bad 9) else
      nZ (x.put 2 a {gR x (x.eye a) o.x with r:=((x.r.apq q).headD 0:Nat)} o.s) o l (h++[⟨a,x.r.aL q,x.r.aO q,x.r.aS q,x.r.aN q⟩]))
   else nZ x o l h
def nR (x:SvG) (o:OrG):SvG × AnG:=if o.x.ok then (if o.q.err=0 then nZ x o (fdI x.mbs o.x x.turns x.num x.den) [] else (x,bad o.q.err)) else (x,bad 30)
def yB (x:SvG) (o:OrG):SvG × AnG:=
 if Ix.btw 0 (x.ks.length - 1) o.n then (if x.g.th o.a then (if o.x.ok then
  let k:=(x.ks[o.n.toNat]?).getD KsG.zero
  let d:=aAk k o.a x.now
  let r:=gR x (x.eye o.a) o.x
  if d=3 then sJ x 5 o.a {r with d:=d,n:=0,m:=0} o.s else if d=2 then sJ x 4 o.a {r with d:=d,n:=1,m:=0} o.s else sJ x 3 o.a r o.s
 else (x,bad 30)) else (x,bad 6)) else (x,bad 2)
def fH (x:SvG) (o:OrG):SvG × AnG:=
 if o.k=1 then qW x o else if o.k=2 then jZ x o else if o.k=3 then pL x o else if o.k=4 then wdM x o else if o.k=5 then aAw x o
 else if o.k=6 then pG x o else if o.k=7 then aAa x o else if o.k=8 then xJ x o else if o.k=9 then putM x o else if o.k=10 then aAh x o
 else if o.k=11 then zU x o else if o.k=12 then aA1 x o else if o.k=13 then nR x o else yB x o
def stX (x:SvG) (o:OrG):SvG:=if (fH x o).2.e=0 then (fH x o).1 else x
def stA (x:SvG) (o:OrG):AnG:=if (fH x o).2.e=0 then (fH x o).2 else bad (fH x o).2.e
def SvG.setB (x:SvG):Bool:=Ix.btw 1 127 x.den&&Ix.btw 0 x.den x.num&&Ix.btw 0 7 x.turns&&Ix.btw 0 maxT x.mage
def SvG.prtB (x:SvG):Bool:=x.g.valid&&x.r.valid&&fO x.ch&&hJ x.lg&&(Ix.btw 0 maxT x.now&&decide (x.ks.length<=4)&&decide (x.ir.length=x.g.nr))
def SvG.irB (x:SvG):Bool:=(List.range x.ir.length).all λi:Nat=>(x.eye i).ok&&(x.g.th i||decide (x.eye i=IrG.z))
def SvG.lgB (x:SvG):Bool:=x.lg.all λe=>decide (e.p<0)||x.g.th e.p
def SvG.cnB (x:SvG):Bool:=(List.range x.r.nc).all λi=>x.g.th (x.r.c i).p
def SvG.waB (x:SvG):Bool:=(List.range x.r.nw).all λi=>x.g.th (x.r.w i).p
def SvG.maB (x:SvG):Bool:=(List.range x.r.nm).all λi=>x.g.th (x.r.m i).p
def SvG.chB (x:SvG):Bool:=x.ch.all λc=>x.g.th c.p
def SvG.peoB (x:SvG):Bool:=x.irB&&x.lgB&&(x.cnB&&x.waB&&x.maB&&x.chB)
def SvG.knW (x:SvG) (k:Nat):W64:=(List.range k).foldl (λ(s:W64) (i:Nat)=>if x.g.th i then iV s (bT 1#64 i) else s) 0#64
def SvG.kOK (x:SvG) (k:KsG):Bool:=k.ok x.key&&decide (k.m=x.mage)&&decide (k.a<x.now)&&decide (cR k.s (x.knW x.ir.length)=0#64)
def SvG.timB (x:SvG):Bool:=x.ks.all x.kOK&&!(x.ch.any λc=>decide (x.now<c.t))&&!(x.lg.any λe=>decide (x.now<e.t))
def SvG.valid (x:SvG):Bool:=x.setB&&(x.prtB&&x.peoB&&x.timB)
def SvG.chkE (x:SvG):Int:=if x.setB then (if x.prtB&&x.peoB&&x.timB then 0 else 8) else 2
structure SvG.OK (x:SvG):Prop where
 g:x.g.Sm
 r:x.r.OK
 rn:x.r.nr<1000000
 rc:x.r.nc<1000000
 rw':x.r.nw<1000000
 rm:x.r.nm<1000000
 ir:x.ir.length<1000000
 ch:x.ch.length<1000000
 ks:x.ks.length<1000000
 lg:x.lg.length<1000000
theorem oM (lo hi n:Int):Pure Tryz.prog 75 [.i lo,.i hi,.i n] (· =.b (Ix.btw lo hi n)):=by
 refine π Tryz.func75 ?_;by_cases h:lo<=n <;> simp[go_sem,Ix.btw,h]
abbrev SvG.ss (x:SvG):SV:=.agg [.i x.num,.i x.den,.i x.turns,.i x.mage,.w x.key]
theorem aC7 (x:SvG):Pure Tryz.prog 27 [x.ss] (· =.i (if x.setB then 0 else 2)):=by
 refine π Tryz.func27 ?_;unfold SvG.setB;simp[go_sem];refine aA (oM 1 127 x.den) rfl rfl ?_
 cases Ix.btw 1 127 x.den
 ·simp[go_sem]
 simp[go_sem];refine aA (oM 0 x.den x.num) rfl rfl ?_
 cases Ix.btw 0 x.den x.num
 ·simp[go_sem]
 simp[go_sem];refine aA (oM 0 7 x.turns) rfl rfl ?_
 cases Ix.btw 0 7 x.turns
 ·simp[go_sem]
 simp[go_sem];refine aA (oM 0 maxT x.mage) rfl rfl ?_
 cases Ix.btw 0 maxT x.mage <;> simp[go_sem]
def SvG.zero:SvG:=⟨0,0,0,0,0#64,0,EG.zero,[],Rg.RG.nil,[],[],[]⟩
def SvG.at' (x:SvG) (gt:Nat->Nat->RV):Prop:=∀j,j<17->gt 0 j=x.f j
abbrev kp (gt:Nat->Nat->RV):SV:=.r (.rp 17 1 gt 0 0)
theorem dN (x:SvG) (hr:x.g.OK) (gt:Nat->Nat->RV) (h:x.at' gt) (a:Int):Pure Tryz.prog 162 [kp gt,.i a] (· =.b (x.g.th a)):=by
 refine π Tryz.func162 ?_;have h6:gt 0 6=.rs 2 x.g.nr λi j=>(x.g.r i).c j:=h 6 δ;have:=hr.nr;by_cases h0:0<=a;rotate_left
 ·have e:x.g.th a=false:=by
   rw[Bool.eq_false_iff];intro ht;exact h0 (EG.th_iff.1 ht).1
  simp[go_sem,h0,e]
 obtain⟨n,rfl⟩:∃n:Nat,a=n:=⟨a.toNat,ω⟩;by_cases h1:n<x.g.nr;rotate_left
 ·have e:x.g.th n=false:=by
   rw[Bool.eq_false_iff];intro ht;have:=(EG.th_iff.1 ht).2.1;omega
  simp[go_sem,h0,h1,h6,e]
 cases hg:(x.g.r n).g
 ·have e:x.g.th n=true:=EG.th_iff.2 ⟨ω,ω,by simpa using hg⟩;simp[go_sem,h0,h1,h6,hg,e]
 ·have e:x.g.th n=false:=by
   rw[Bool.eq_false_iff];intro ht;have:=(EG.th_iff.1 ht).2.2;simp[hg] at this
  simp[go_sem,h0,h1,h6,hg,e]
abbrev fnR (f:FuncId):RV:=.fn (.func f) 0 0 (λ_=>.any) (λ_=>.any)
theorem aNk (y:Rg.ConG):Pure Tryz.prog 164 [y.sv] (· =.i y.p):=by
 refine π Tryz.func164 ?_;simp[go_sem]
theorem aPu (x:SvG) (hr:x.g.OK) (gt g1 g2:Nat->Nat->RV) (h:x.at' gt) (h1:g1 0 0=.rp 17 1 gt 0 0) (h2:g2 0 0=fnR 164) (y:Rg.ConG):Pure Tryz.prog 268 [y.sv,.r (.rp 1 1 g1 0 0),.r (.rp 1 1 g2 0 0)] (· =.b (!x.g.th y.p)):=by
 refine π Tryz.func268 ?_;simp[go_sem];refine aE aD κ κ ?_;simp[go_sem,h1,h2];refine⟨_,aB (aNk y) rfl rfl,?_⟩;simp[go_sem];refine⟨_,aB (dN x hr gt h y.p) rfl rfl,?_⟩;simp[go_sem]
theorem aQn (x:SvG) (hr:x.g.OK) (gt:Nat->Nat->RV) (h:x.at' gt) (hn:x.r.nc<1000000):Pure Tryz.prog 163 [kp gt,Rg.ConG.rs x.r.nc x.r.c,.fn (.func 164) [] []] (· =.b x.cnB):=by
 refine π Tryz.func163 ?_;simp[go_sem];refine aG (v:=.b ((List.range x.r.nc).any λi=>!x.g.th (x.r.c i).p)) ?_ rfl ?_
 ·simp[go_sem];exact Rg.has120 x.r.nc ω _ (268:FuncId) _ _ rfl λi hi=>aPu x hr gt _ _ h (by rfl) (by rfl) (x.r.c i)
 ·simp[go_sem];unfold SvG.cnB;rw[List.all_eq_not_any_not,Bool.not_not]
theorem aNm (y:Rg.WarG):Pure Tryz.prog 166 [y.sv] (· =.i y.p):=by
 refine π Tryz.func166 ?_;simp[go_sem]
theorem aPw (x:SvG) (hr:x.g.OK) (gt g1 g2:Nat->Nat->RV) (h:x.at' gt) (h1:g1 0 0=.rp 17 1 gt 0 0) (h2:g2 0 0=fnR 166) (y:Rg.WarG):Pure Tryz.prog 270 [y.sv,.r (.rp 1 1 g1 0 0),.r (.rp 1 1 g2 0 0)] (· =.b (!x.g.th y.p)):=by
 refine π Tryz.func270 ?_;simp[go_sem];refine aE aD κ κ ?_;simp[go_sem,h1,h2];refine⟨_,aB (aNm y) rfl rfl,?_⟩;simp[go_sem];refine⟨_,aB (dN x hr gt h y.p) rfl rfl,?_⟩;simp[go_sem]
theorem aQo (x:SvG) (hr:x.g.OK) (gt:Nat->Nat->RV) (h:x.at' gt) (hn:x.r.nw<1000000):Pure Tryz.prog 165 [kp gt,Rg.WarG.rs x.r.nw x.r.w,.fn (.func 166) [] []] (· =.b x.waB):=by
 refine π Tryz.func165 ?_;simp[go_sem];refine aG (v:=.b ((List.range x.r.nw).any λi=>!x.g.th (x.r.w i).p)) ?_ rfl ?_
 ·simp[go_sem];exact Rg.has122 x.r.nw ω _ (270:FuncId) _ _ rfl λi hi=>aPw x hr gt _ _ h (by rfl) (by rfl) (x.r.w i)
 ·simp[go_sem];unfold SvG.waB;rw[List.all_eq_not_any_not,Bool.not_not]
theorem aNl (y:Rg.MarkG):Pure Tryz.prog 168 [y.sv] (· =.i y.p):=by
 refine π Tryz.func168 ?_;simp[go_sem]
theorem aPv (x:SvG) (hr:x.g.OK) (gt g1 g2:Nat->Nat->RV) (h:x.at' gt) (h1:g1 0 0=.rp 17 1 gt 0 0) (h2:g2 0 0=fnR 168) (y:Rg.MarkG):Pure Tryz.prog 272 [y.sv,.r (.rp 1 1 g1 0 0),.r (.rp 1 1 g2 0 0)] (· =.b (!x.g.th y.p)):=by
 refine π Tryz.func272 ?_;simp[go_sem];refine aE aD κ κ ?_;simp[go_sem,h1,h2];refine⟨_,aB (aNl y) rfl rfl,?_⟩;simp[go_sem];refine⟨_,aB (dN x hr gt h y.p) rfl rfl,?_⟩;simp[go_sem]
theorem aQp (x:SvG) (hr:x.g.OK) (gt:Nat->Nat->RV) (h:x.at' gt) (hn:x.r.nm<1000000):Pure Tryz.prog 167 [kp gt,Rg.MarkG.rs x.r.nm x.r.m,.fn (.func 168) [] []] (· =.b x.maB):=by
 refine π Tryz.func167 ?_;simp[go_sem];refine aG (v:=.b ((List.range x.r.nm).any λi=>!x.g.th (x.r.m i).p)) ?_ rfl ?_
 ·simp[go_sem];exact Rg.has124 x.r.nm ω _ (272:FuncId) _ _ rfl λi hi=>aPv x hr gt _ _ h (by rfl) (by rfl) (x.r.m i)
 ·simp[go_sem];unfold SvG.maB;rw[List.all_eq_not_any_not,Bool.not_not]
theorem aSp (y:ChG):Pure Tryz.prog 170 [y.sv] (· =.i y.p):=by
 refine π Tryz.func170 ?_;simp[go_sem]
theorem aU7 (x:SvG) (hr:x.g.OK) (gt g1 g2:Nat->Nat->RV) (h:x.at' gt) (h1:g1 0 0=.rp 17 1 gt 0 0) (h2:g2 0 0=fnR 170) (y:ChG):Pure Tryz.prog 273 [y.sv,.r (.rp 1 1 g1 0 0),.r (.rp 1 1 g2 0 0)] (· =.b (!x.g.th y.p)):=by
 refine π Tryz.func273 ?_;simp[go_sem];refine aE aD κ κ ?_;simp[go_sem,h1,h2];refine⟨_,aB (aSp y) rfl rfl,?_⟩;simp[go_sem];refine⟨_,aB (dN x hr gt h y.p) rfl rfl,?_⟩;simp[go_sem]
theorem aQq (x:SvG) (hr:x.g.OK) (gt:Nat->Nat->RV) (h:x.at' gt) (hn:x.ch.length<1000000):Pure Tryz.prog 169 [kp gt,nY x.ch,.fn (.func 170) [] []] (· =.b x.chB):=by
 refine π Tryz.func169 ?_;simp[go_sem];refine aG (v:=.b (x.ch.any λc=>!x.g.th c.p)) ?_ rfl ?_
 ·simp[go_sem];exact aRi x.ch hn 273 _ _ rfl λc _=>aU7 x hr gt _ _ h (by rfl) (by rfl) c
 ·simp[go_sem];unfold SvG.chB;rw[List.all_eq_not_any_not,Bool.not_not]
theorem SvG.eye_get {x:SvG} {k:Nat} (hk:k<x.ir.length):x.eye k=x.ir[k]:=by
 unfold SvG.eye;rw[show((k:Int).toNat)=k from rfl,List.getElem?_eq_getElem hk,Option.getD_some]
def SvG.ir1 (x:SvG) (i:Nat):Bool:=(x.eye i).ok&&(x.g.th i||decide (x.eye i=IrG.z))
theorem aUu {n:Nat} {p:Nat->Bool} (h:∀j,j<n->p j=true):(List.range n).all p=true:=List.all_eq_true.2 λi hi=>h i (List.mem_range.1 hi)
theorem aUt {n k:Nat} {p:Nat->Bool} (hk:k<n) (h:p k=false):(List.range n).all p=false:=List.all_eq_false.2 ⟨k,List.mem_range.2 hk,by rw[h];simp⟩
theorem aFw {α:Type} {l:List α} {p:α->Bool} (h:∀j (hj:j<l.length),p l[j]=true):l.all p=true:=List.all_eq_true.2 λy hy=>by
 obtain⟨i,hi,rfl⟩:=List.getElem_of_mem hy;exact h i hi
theorem aFv {α:Type} {l:List α} {p:α->Bool} {k:Nat} (hk:k<l.length) (h:p l[k]=false):l.all p=false:=List.all_eq_false.2 ⟨l[k],List.getElem_mem hk,by rw[h];simp⟩
theorem aSo (x:SvG) (hx:x.OK) (gt:Nat->Nat->RV) (h:x.at' gt):Pure Tryz.prog 81 [kp gt] (· =.b x.peoB):=by
 refine π Tryz.func81 ?_;have hr:=hx.g.ok;have h9:gt 0 9=.rs 2 x.ir.length (aY IrG.f x.ir):=h 9 δ;have h16:gt 0 16=.rs 7 x.lg.length (aY EnG.f x.lg):=h 16 δ;have h11:gt 0 11=.rs 3 x.r.nc λi j=>(x.r.c i).c j:=h 11 δ;have h12:gt 0 12=.rs 4 x.r.nw λi j=>(x.r.w i).c j:=h 12 δ;have h13:gt 0 13=.rs 5 x.r.nm λi j=>(x.r.m i).c j:=h 13 δ;have h14:gt 0 14=.rs 3 x.ch.length (aY ChG.f x.ch):=h 14 δ;have b1:=hx.ir;have b2:=hx.lg;simp[go_sem,h9];refine aH aD (α:=Nat) (λk=>[(0,kp gt),(11,irs x.ir),(12,.i x.ir.length),(13,.i k)]) (λ_=>[]) 0 (λk=>k<=x.ir.length/\∀j,j<k->x.ir1 j=true) (λk=>x.ir.length - k) 0 (λ_=>rfl) τ ζ ζ ?_;rintro k J ⟨hk,hi⟩;by_cases hlt:k<x.ir.length
 ·have hrow:=aI (f:=IrG.f) hlt;have hey:=SvG.eye_get hlt;have no:x.ir1 k=false->x.peoB=false:=λhf=>by
   have:x.irB=false:=aUt hlt hf;unfold SvG.peoB;rw[this];rfl
  obtain⟨y,hy⟩:∃y,x.ir[k]=y:=⟨_,rfl⟩;unfold SvG.ir1 at no;rw[hey,hy] at no;rw[hy] at hrow;simp[go_sem,hlt,hrow];refine aA (mJ y.c y.m) rfl rfl ?_;have e0:y.ok=vI y.c y.m:=rfl;rw[e0] at no;by_cases hv:vI y.c y.m=true;rotate_left
  ·simp[go_sem,hv];exact no (by simp[hv])
  simp[go_sem,hv];refine aA (dN x hr gt h k) rfl rfl ?_;by_cases ht:x.g.th (k:Int)=true
  ·simp[go_sem,ht];refine⟨⟨ω,ω⟩,k+1,⟨ω,λj hj=>?_⟩,ω,ω⟩;by_cases e:j=k
   ·subst e;unfold SvG.ir1;rw[hey,hy,e0,hv,ht];rfl
   ·exact hi j ω
  ·by_cases hz:y=IrG.z
   ·subst hz;simp[go_sem,ht,IrG.z];refine⟨⟨ω,ω⟩,k+1,⟨ω,λj hj=>?_⟩,ω,ω⟩;by_cases e:j=k
    ·subst e;unfold SvG.ir1;rw[hey,hy,e0,hv];simp
    ·exact hi j ω
   ·have hz':¬(y.c=0#64/\y.m=0#64):=λ⟨e1,e2⟩=>hz (by cases y;simp only [IrG.z] at *;subst e1;subst e2;rfl);have no:=no (by simp[hv,ht,hz]);simp[go_sem,ht];have hn:¬y.c.toNat=0\/¬y.m.toNat=0:=by
     by_cases e:y.c=0#64
     ·exact .inr λe2=>hz' ⟨e,BitVec.eq_of_toNat_eq e2⟩
     ·exact .inl λe2=>e (BitVec.eq_of_toNat_eq e2)
    rw[if_pos hn];exact no
 have hk':k=x.ir.length:=ω;subst hk';have hir:x.irB=true:=aUu hi;simp[go_sem,h16];refine aH aD (α:=Nat) (λk=>[(0,kp gt),(37,qO x.lg),(38,.i x.lg.length),(39,.i k)]) (λ_=>[]) 0 (λk=>k<=x.lg.length/\∀j (hj:j<x.lg.length),j<k->(decide (x.lg[j].p<0)||x.g.th x.lg[j].p)=true) (λk=>x.lg.length - k) 0 (λ_=>rfl) τ ζ ζ ?_;rintro k J ⟨hk,hi2⟩;by_cases hlt:k<x.lg.length
 ·have hrow:=aI (f:=EnG.f) hlt;have no:(decide (x.lg[k].p<0)||x.g.th x.lg[k].p)=false->x.peoB=false:=λhf=>by
   have:x.lgB=false:=aFv hlt hf;unfold SvG.peoB;rw[this];simp
  have yes:(decide (x.lg[k].p<0)||x.g.th x.lg[k].p)=true->∃x',(x'<=x.lg.length/\∀j (hj:j<x.lg.length),j<x'->(decide (x.lg[j].p<0)||x.g.th x.lg[j].p)=true)/\x.lg.length - x'<x.lg.length - k/\(k:Int)+1=(x':Int):=λht=>
   ⟨k+1,⟨ω,λj hj hj'=>by
     by_cases e:j=k
     ·subst e;exact ht
     ·exact hi2 j hj ω⟩,ω,ω⟩
  by_cases hp:x.lg[k].p<0
  ·have hp':¬0<=x.lg[k].p:=ω;have yes:=yes (by simp[hp]);simp[go_sem,hlt,hrow,hp'];simp at yes;exact⟨⟨ω,ω⟩,yes⟩
  have hp':0<=x.lg[k].p:=ω;simp[go_sem,hlt,hrow,hp'];refine aA (dN x hr gt h _) rfl rfl ?_;by_cases ht:x.g.th x.lg[k].p=true
  ·have yes:=yes (by simp[ht]);simp[go_sem,ht];simp at yes;exact⟨⟨ω,ω⟩,yes⟩
  ·simp[go_sem,ht];exact no (by simp[ht,hp])
 have hk':k=x.lg.length:=ω;subst hk';have hlg:x.lgB=true:=aFw λj hj=>hi2 j hj hj;have e:x.peoB=(x.cnB&&x.waB&&x.maB&&x.chB):=by unfold SvG.peoB;rw[hir,hlg];rfl
 rw[e];have r1:=hx.rc;have r2:=hx.rw';have r3:=hx.rm;have r4:=hx.ch;simp[go_sem,h11];refine aA (aQn x hr gt h r1) rfl rfl ?_
 cases x.cnB
 ·simp[go_sem]
 simp[go_sem,h12];refine aA (aQo x hr gt h r2) rfl rfl ?_
 cases x.waB
 ·simp[go_sem]
 simp[go_sem,h13];refine aA (aQp x hr gt h r3) rfl rfl ?_
 cases x.maB
 ·simp[go_sem]
 simp[go_sem,h14];refine aA (aQq x hr gt h r4) rfl rfl ?_
 cases x.chB <;> simp[go_sem]
theorem aW2 (x:SvG) (hx:x.OK) (gt:Nat->Nat->RV) (h:x.at' gt):Pure Tryz.prog 80 [kp gt] (· =.b x.prtB):=by
 refine π Tryz.func80 ?_;have h5:gt 0 5=.i x.now:=h 5 δ;have h6:gt 0 6=.rs 2 x.g.nr λi j=>(x.g.r i).c j:=h 6 δ;have h7:gt 0 7=.rs 3 x.g.nl λi j=>(x.g.l i).c j:=h 7 δ;have h8:gt 0 8=.rs 3 x.g.nc λi j=>(x.g.c i).c j:=h 8 δ;have h9:gt 0 9=.rs 2 x.ir.length (aY IrG.f x.ir):=h 9 δ;have h10:gt 0 10=.rs 8 x.r.nr λi j=>(x.r.r i).c j:=h 10 δ;have h11:gt 0 11=.rs 3 x.r.nc λi j=>(x.r.c i).c j:=h 11 δ;have h12:gt 0 12=.rs 4 x.r.nw λi j=>(x.r.w i).c j:=h 12 δ;have h13:gt 0 13=.rs 5 x.r.nm λi j=>(x.r.m i).c j:=h 13 δ;have h14:gt 0 14=.rs 3 x.ch.length (aY ChG.f x.ch):=h 14 δ;have h15:gt 0 15=.rs 4 x.ks.length (aY KsG.f x.ks):=h 15 δ;have h16:gt 0 16=.rs 7 x.lg.length (aY EnG.f x.lg):=h 16 δ;have hs:=hx.g.nr;have b1:=hx.ir;have b2:=hx.lg;have b3:=hx.ch;have b4:=hx.ks;simp[go_sem,h5,h6,h7,h8,h9,h10,h11,h12,h13,h14,h15,h16];refine aE aD κ κ ?_;simp[go_sem,h5,h6,h7,h8,h9,h10,h11,h12,h13,h14,h15,h16];obtain⟨a1,ha1⟩:∃a,(if x.g.valid then (0:Int) else 8)=a:=⟨_,rfl⟩;obtain⟨a2,ha2⟩:∃a,(if x.r.valid then (0:Int) else 8)=a:=⟨_,rfl⟩;obtain⟨a3,ha3⟩:∃a,(if fO x.ch then (0:Int) else 8)=a:=⟨_,rfl⟩;obtain⟨a4,ha4⟩:∃a,lgE x.lg=a:=⟨_,rfl⟩;refine⟨_,aB ((aU1 x.g hx.g.ok).val (v':=.i a1) (by rw[ha1])) rfl rfl,_,aB ((Rg.check28 x.r hx.r).val (v':=.i a2) (by rw[ha2])) rfl rfl,_,aB ((oG x.ch b3).val (v':=.i a3) (by rw[ha3])) rfl rfl,_,aB ((aC5 x.lg b2).val (v':=.i a4) (by rw[ha4])) rfl rfl,?_⟩;simp[go_sem];obtain⟨z,hz⟩:∃z:RsG,z=⟨0,a1,a2,a3,a4,0⟩:=⟨_,rfl⟩;have ez:∀n,[SV.i a1,SV.i a2,SV.i a3,SV.i a4][n]?.getD (.r .any)=z.c4 n:=λn=>by rw[hz];exact RsG.c4_eq ⟨0,a1,a2,a3,a4,0⟩ n
 simp only [ez];have eB:x.prtB=(decide (z.v4 0=0)&&decide (z.v4 1=0)&&decide (z.v4 2=0)&&decide (z.v4 3=0)&&(Ix.btw 0 maxT x.now&&decide (x.ks.length<=4)&&decide (x.ir.length=x.g.nr))):=by
  subst hz;unfold SvG.prtB;simp only [RsG.v4];rw[<- ha1,<- ha2,<- ha3,<- ha4];unfold lgE
  cases x.g.valid <;> cases x.r.valid <;> cases fO x.ch <;> cases hJ x.lg <;> simp
 rw[eB];refine aH aD (α:=Nat) (λk=>[(0,kp gt),(29,.sl 0 1 0 4 none),(30,.i 4),(31,.i k)]) (λk=>[some (.vec 48 1 4 λi j=>z.c4 (i+j))]) 1 (λk=>k<=4/\∀j,j<k->z.v4 j=0) (λk=>4 - k) 0 (λ_=>rfl) τ ζ ζ ?_;rintro k J ⟨hk,hi⟩;by_cases h4:k=4
 ·subst h4;have z0:=hi 0 δ;have z1:=hi 1 δ;have z2:=hi 2 δ;have z3:=hi 3 δ;simp[go_sem,h5,h6,h9,h15,z0,z1,z2,z3];refine aE aD κ κ ?_;simp[go_sem,h5,h6,h9,h15];refine⟨_,aB (oM 0 maxT x.now) rfl rfl,?_⟩
  cases Ix.btw 0 maxT x.now
  ·simp[go_sem]
  by_cases k1:x.ks.length<=4
  ·by_cases k2:x.ir.length=x.g.nr
   ·have k1':(x.ks.length:Int)<=4:=ω;simp[go_sem,h6,h9,h15,k1,k1',k2]
   ·have k1':(x.ks.length:Int)<=4:=ω;have k2':¬(x.ir.length:Int)=x.g.nr:=ω;simp[go_sem,h6,h9,h15,k1,k1',k2,k2']
  ·have k1':¬(x.ks.length:Int)<=4:=ω;simp[go_sem,h6,h9,h15,k1,k1']
 have hlt:k<4:=ω;have hv:z.c4 k=.i (z.v4 k):=by
  rcases(ω:k=0\/k=1\/k=2\/k=3) with rfl | rfl | rfl | rfl <;> rfl
 have hlt':(k:Int)<4:=ω;by_cases h0:z.v4 k=0
 ·simp[go_sem,hlt',hlt,hv,h0];refine⟨⟨ω,ω⟩,k+1,⟨ω,λj hj=>?_⟩,ω,ω⟩;by_cases e:j=k
  ·subst e;exact h0
  ·exact hi j ω
 ·simp[go_sem,hlt',hlt,hv,h0];rcases(ω:k=0\/k=1\/k=2\/k=3) with rfl | rfl | rfl | rfl <;> simp[h0]
theorem bAr (n:Nat) (hn:(n:Int)<2 ^ 63) (get:Nat->Nat->RV) (g:FuncId) (ca:List SV) (p:Nat->Bool) (hca:SV.closedL ca=true) (hp:∀i,i<n->Pure Tryz.prog g (.agg [.r (get i 0),.r (get i 1),.r (get i 2),.r (get i 3),.r (get i 4),.r (get i 5),.r (get i 6)]::ca) (· =.b (p i))) :
 Pure Tryz.prog 275 [.r (.rs 7 n get),.fn (.func g) [] ca] (· =.i (Rg.idx p n)):=by
 refine π Tryz.func275 ?_;simp[go_sem];refine aH aD (α:=Nat) (λi=>[(0,.r (.rs 7 n get)),(1,.fn (.func g) [] ca),(7,.i n),(8,.i i)]) (λ_=>[]) 0 (λi=>i<=n/\∀j,j<i->p j=false) (λi=>n - i) 0 (λ_=>rfl) τ (by simp[go_sem,SV.trimL_closed 0 ca hca]) ζ ?_;intro i J hi;simp[go_sem];split
 ·rename_i hlt;refine⟨hlt,?_⟩;refine aA (hp i hlt) (by simp[SV.closedL,SV.closed,hca]) rfl ?_;simp[go_sem];split
  ·rename_i hpi;rw[Rg.idx_found hlt hpi hi.2]
  ·rename_i hpi;refine⟨ω,i+1,⟨ω,λj hj=>?_⟩,ω,?_⟩
   ·by_cases hji:j=i
    ·subst hji;simpa using hpi
    ·exact hi.2 j ω
   ·simp[SV.trimL_closed 0 ca hca]
 ·rename_i hlt;rw[Rg.idx_none λj hj=>hi.2 j ω]
theorem bFn (l:List EnG) (hn:l.length<1000000) (g:FuncId) (ca:List SV) (p:EnG->Bool) (hca:SV.closedL ca=true) (hp:∀x∈l,Pure Tryz.prog g (x.sv::ca) (· =.b (p x))) :
 Pure Tryz.prog 173 [qO l,.fn (.func g) [] ca] (· =.b (l.any p)):=by
 refine π Tryz.func173 ?_;simp[go_sem];refine aA (bAr l.length ω (aY EnG.f l) g ca (λi=>match l[i]? with | some x=>p x | none=>false) hca λi hi=>by
  have:=hp l[i] (List.getElem_mem hi);rw[aI hi,aI hi,aI hi,aI hi,aI hi,aI hi,aI hi,List.getElem?_eq_getElem hi];exact this) (by simp[SV.closedL,SV.closed,hca]) rfl ?_
 simp[go_sem];have h:=aB5 (p:=p) (q:=λi=>match l[i]? with | some x=>p x | none=>false) (l:=l) λi hi=>by simp[List.getElem?_eq_getElem hi]
 rw[<- h];exact Rg.idx_any
theorem aWa (x:SvG) (gt g1:Nat->Nat->RV) (h:x.at' gt) (h1:g1 0 0=.rp 17 1 gt 0 0) (y:ChG):Pure Tryz.prog 171 [y.sv,.r (.rp 1 1 g1 0 0)] (· =.b (decide (x.now<y.t))):=by
 refine π Tryz.func171 ?_;have h5:gt 0 5=.i x.now:=h 5 δ;simp[go_sem];refine aE aD κ κ ?_;simp[go_sem,h1,h5]
theorem aWb (x:SvG) (gt g1:Nat->Nat->RV) (h:x.at' gt) (h1:g1 0 0=.rp 17 1 gt 0 0) (y:EnG):Pure Tryz.prog 174 [y.sv,.r (.rp 1 1 g1 0 0)] (· =.b (decide (x.now<y.t))):=by
 refine π Tryz.func174 ?_;have h5:gt 0 5=.i x.now:=h 5 δ;simp[go_sem];refine aE aD κ κ ?_;simp[go_sem,h1,h5]
theorem SvG.knW_succ (x:SvG) (k:Nat):x.knW (k+1)=if x.g.th k then iV (x.knW k) (bT 1#64 k) else x.knW k:=by
 unfold SvG.knW;rw[List.range_succ,List.foldl_append];rfl
theorem aXt (x:SvG) (hx:x.OK) (gt:Nat->Nat->RV) (h:x.at' gt):Pure Tryz.prog 82 [kp gt] (· =.b x.timB):=by
 refine π Tryz.func82 ?_;have h3:gt 0 3=.i x.mage:=h 3 δ;have h4:gt 0 4=.w x.key:=h 4 δ;have h5:gt 0 5=.i x.now:=h 5 δ;have h9:gt 0 9=.rs 2 x.ir.length (aY IrG.f x.ir):=h 9 δ;have h14:gt 0 14=.rs 3 x.ch.length (aY ChG.f x.ch):=h 14 δ;have h15:gt 0 15=.rs 4 x.ks.length (aY KsG.f x.ks):=h 15 δ;have h16:gt 0 16=.rs 7 x.lg.length (aY EnG.f x.lg):=h 16 δ;have b1:=hx.ir;have b2:=hx.lg;have b3:=hx.ch;have b4:=hx.ks;have hr:=hx.g.ok;simp[go_sem,h9];refine aH aD (α:=Nat) (λk=>[(1,.ptr 0 0 1 0),(3,.w (x.knW k)),(13,.i x.ir.length),(14,.i k)]) (λ_=>[some (.box [kp gt])]) 1 (λk=>k<=x.ir.length) (λk=>x.ir.length - k) 0 (λ_=>rfl) τ (by simp[go_sem,SvG.knW]) ζ ?_;intro k J hk;by_cases hlt:k<x.ir.length
 ·have hs:=x.knW_succ k;simp[go_sem,hlt];refine aA (dN x hr gt h k) rfl rfl ?_;by_cases ht:x.g.th (k:Int)=true
  ·rw[if_pos ht] at hs;simp[go_sem,ht];refine⟨⟨ω,ω⟩,k+1,ω,ω,by rw[hs],ω⟩
  ·rw[if_neg ht] at hs;simp[go_sem,ht];refine⟨⟨ω,ω⟩,k+1,ω,ω,by rw[hs],ω⟩
 have hk':k=x.ir.length:=ω;subst hk';simp[go_sem,h15];refine aH aD (α:=Nat) (λk=>[(1,.ptr 0 0 1 0),(3,.w (x.knW x.ir.length)),(29,kss x.ks),(30,.i x.ks.length),(31,.i k)]) (λ_=>[some (.box [kp gt])]) 1 (λk=>k<=x.ks.length/\∀j (hj:j<x.ks.length),j<k->x.kOK x.ks[j]=true) (λk=>x.ks.length - k) 0 (λ_=>rfl) τ ζ ζ ?_;rintro k J ⟨hk,hi⟩;by_cases hlt:k<x.ks.length
 ·have hrow:=aI (f:=KsG.f) hlt;have no:x.kOK x.ks[k]=false->x.timB=false:=λhf=>by
   have:x.ks.all x.kOK=false:=aFv hlt hf;unfold SvG.timB;rw[this];rfl
  have yes:x.kOK x.ks[k]=true->(-9223372036854775808<=(k:Int)+1/\(k:Int)+1<=9223372036854775807)/\∃x',(x'<=x.ks.length/\∀j (hj:j<x.ks.length),j<x'->x.kOK x.ks[j]=true)/\x.ks.length - x'<x.ks.length - k/\(k:Int)+1=(x':Int):=λht=>
   ⟨⟨ω,ω⟩,k+1,⟨ω,λj hj hj'=>by
     by_cases e:j=k
     ·subst e;exact ht
     ·exact hi j hj ω⟩,ω,ω⟩
  obtain⟨y,hy⟩:∃y,x.ks[k]=y:=⟨_,rfl⟩;rw[hy] at hrow no yes;unfold SvG.kOK at no;simp[go_sem,hlt,hrow];refine aE aD κ κ ?_;simp[go_sem,h4];refine⟨_,aB (sF y x.key) rfl rfl,?_⟩;by_cases c1:y.ok x.key=true;rotate_left
  ·simp[go_sem,c1];exact no (by simp[c1])
  by_cases c2:y.m=x.mage;rotate_left
  ·simp[go_sem,c1,h3,c2];exact no (by simp[c2])
  by_cases c3:y.a<x.now;rotate_left
  ·have c3':x.now<=y.a:=ω;simp[go_sem,c1,h3,c2,h5,c3,c3'];exact no ι
  have c3':¬x.now<=y.a:=ω;by_cases c4:cR y.s (x.knW x.ir.length)=0#64
  ·simp[go_sem,c1,h3,c2,h5,c3,c3',c4];exact yes (by unfold SvG.kOK;simp[c1,c2,c3,c4])
  ·simp[go_sem,c1,h3,c2,h5,c3,c3',c4];rw[if_neg λe:(cR y.s (x.knW x.ir.length)).toNat=0=>c4 (BitVec.eq_of_toNat_eq e)];exact no (by simp[c4])
 have hk':k=x.ks.length:=ω;subst hk';have hks:x.ks.all x.kOK=true:=aFw λj hj=>hi j hj hj;have e:x.timB=(!(x.ch.any λc=>decide (x.now<c.t))&&!(x.lg.any λe=>decide (x.now<e.t))):=by unfold SvG.timB;rw[hks,Bool.true_and]
 rw[e];simp[go_sem,h14];refine aG (v:=.b (x.ch.any λc=>decide (x.now<c.t))) ?_ rfl ?_
 ·simp[go_sem];exact aRi x.ch b3 171 _ _ rfl λc _=>aWa x gt _ h (by rfl) c
 cases x.ch.any λc=>decide (x.now<c.t)
 rotate_left
 ·simp[go_sem]
 simp[go_sem,h16];refine aG (v:=.b (x.lg.any λc=>decide (x.now<c.t))) ?_ rfl ?_
 ·simp[go_sem];exact bFn x.lg b2 174 _ _ rfl λc _=>aWb x gt _ h (by rfl) c
 cases x.lg.any λc=>decide (x.now<c.t) <;> simp[go_sem]
theorem SvG.at_view (x:SvG) (M:Mem):x.at' (λ(_ j:Nat)=>aU M 3 (x.cells[j]?.getD (SV.r .any))):=by
 intro j hj;rcases(ω:j=0\/j=1\/j=2\/j=3\/j=4\/j=5\/j=6\/j=7\/j=8\/j=9\/j=10\/j=11\/j=12\/j=13\/j=14\/j=15\/j=16) with h | h | h | h | h | h | h | h | h | h | h | h | h | h | h | h | h <;> subst h <;> rfl
theorem aPs (x:SvG) (hx:x.OK):Pure Tryz.prog 30 [x.sv] (· =.i x.chkE):=by
 refine π Tryz.func30 ?_;unfold SvG.chkE;simp[go_sem];refine aA (aC7 x) rfl rfl ?_
 cases x.setB
 ·simp[go_sem]
 simp[go_sem];refine aG (v:=.b x.prtB) (by simp[go_sem];exact aW2 x hx _ (x.at_view _)) rfl ?_
 cases x.prtB
 ·simp[go_sem]
 simp[go_sem];refine aG (v:=.b x.peoB) (by simp[go_sem];exact aSo x hx _ (x.at_view _)) rfl ?_
 cases x.peoB
 ·simp[go_sem]
 simp[go_sem];refine aG (v:=.b x.timB) (by simp[go_sem];exact aXt x hx _ (x.at_view _)) rfl ?_
 cases x.timB <;> simp[go_sem]
@[go_sem]theorem IrG.f0' (x:IrG):x.f 0=.w x.c:=rfl
@[go_sem]theorem IrG.f1' (x:IrG):x.f 1=.w x.m:=rfl
theorem IrG.iff (x y:IrG):x=y↔x.c.toNat=y.c.toNat/\x.m.toNat=y.m.toNat:=by
 rw[BitVec.toNat_inj,BitVec.toNat_inj]
 cases x;cases y;simp
theorem ChG.iff (x y:ChG):x=y↔x.t=y.t/\x.p=y.p/\x.on=y.on:=by
 cases x;cases y;simp
theorem KsG.iff (x y:KsG):x=y↔x.a=y.a/\x.m=y.m/\x.s.toNat=y.s.toNat/\x.z.toNat=y.z.toNat:=by
 rw[BitVec.toNat_inj,BitVec.toNat_inj]
 cases x;cases y;simp
theorem EnG.iff (x y:EnG):x=y↔x.t=y.t/\x.k=y.k/\x.p=y.p/\x.d.toNat=y.d.toNat/\x.a.toNat=y.a.toNat/\x.s.toNat=y.s.toNat/\x.l.toNat=y.l.toNat:=by
 rw[BitVec.toNat_inj,BitVec.toNat_inj,BitVec.toNat_inj,BitVec.toNat_inj]
 cases x;cases y;simp
def SvG.sm1 (x y:SvG):Bool:=decide (x.ir=y.ir)&&decide (x.ch=y.ch)&&decide (x.ks=y.ks)&&decide (x.lg=y.lg)
def SvG.sm2 (x y:SvG):Bool:=decide (x.num=y.num)&&decide (x.den=y.den)&&decide (x.turns=y.turns)&&decide (x.mage=y.mage)&&decide (x.key=y.key)&&decide (x.now=y.now)
def SvG.same (x y:SvG):Bool:=x.sm1 y&&(x.sm2 y&&(x.g.smB y.g&&x.r.same y.r))
theorem sG (n:Nat) (hn:n<=1000000) (get:Nat->Nat->RV):Own Tryz.prog 143 [] [.r (.rs 2 n get)] (.sl 0 2 0 n none) [.vec 45 2 n λi j=>.r (get i j)]:=by
 refine χ Tryz.func143 ?_;simp[go_sem];refine⟨λh=>.inr (by subst h;simp),⟨ω,ω⟩,⟨[0],τ,λN=>⟨?_,?_⟩⟩⟩
 ·simp[go_sem]
 ·simp[go_sem,aJ];intro i j hi hj h;omega
theorem sH (n:Nat) (hn:n<=1000000) (get:Nat->Nat->RV):Own Tryz.prog 144 [] [.r (.rs 3 n get)] (.sl 0 3 0 n none) [.vec 114 3 n λi j=>.r (get i j)]:=by
 refine χ Tryz.func144 ?_;simp[go_sem];refine⟨λh=>.inr (by subst h;simp),⟨ω,ω⟩,⟨[0],τ,λN=>⟨?_,?_⟩⟩⟩
 ·simp[go_sem]
 ·simp[go_sem,aJ];intro i j hi hj h;omega
theorem xE (n:Nat) (hn:n<=1000000) (get:Nat->Nat->RV):Own Tryz.prog 145 [] [.r (.rs 4 n get)] (.sl 0 4 0 n none) [.vec 100 4 n λi j=>.r (get i j)]:=by
 refine χ Tryz.func145 ?_;simp[go_sem];refine⟨λh=>.inr (by subst h;simp),⟨ω,ω⟩,⟨[0],τ,λN=>⟨?_,?_⟩⟩⟩
 ·simp[go_sem]
 ·simp[go_sem,aJ];intro i j hi hj h;omega
end Go.Gx.Sr
