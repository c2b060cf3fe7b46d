/-
 Texts of the walk, merged: Ih Ii Ij Ik Il Im In Io Ju Yc Va Ra Rb Rc Vb.
-/
import Derived.Test.YtncccnmmjfapnaaGreatZai
import Derived.Shelf.SlSortCmp.WholeK
import Derived.Shelf.SlSortCmp.NoneTotal
import Derived.Shelf.Lay
import Derived.Ground.SlsfProg
import Derived.Ground.NamesProg
import Derived.Sort.AssemblyPlain
import Derived.Test.YtncccnmmjfapnaaGreatRows
import Derived.Test.YtncccnmmjfapnaaGreatZag
set_option linter.unusedVariables false
set_option linter.unusedSimpArgs false
set_option maxRecDepth 100000
set_option maxHeartbeats 4000000
namespace Go.Proofs.YtncccnmmjfapnaaGreat
open Go.Shelf Go.RowKit Go.Lib Go.Sort Go.Proofs
shelf_lay_g SlLaysF0.n6 Slsf 6 at Tryz 217 as Tryz.sortPr
end Go.Proofs.YtncccnmmjfapnaaGreat
namespace Go.Gx.Ix
open Go.RowKit Go.Proofs Go.Proofs.YtncccnmmjfapnaaGreat Go.Sort
instance:Inhabited IrG:=⟨⟨0,0⟩⟩
instance:Inhabited MbG:=⟨⟨0,default⟩⟩
theorem bI5 (a b:MbG):Pure Tryz.prog 218 [a.sv,b.sv] (· =.i (bU a.id b.id)):=by
 refine π Tryz.func218 ?_;simp[go_sem];refine aA (aBg a.id b.id) rfl rfl ?_;simp[go_sem]
def oK (a:MbG):List Value:=[.int .i64 a.id,.int .u64 a.x.c.toNat,.int .u64 a.x.m.toNat]
def idM (a b:MbG):Int:=bU a.id b.id
def ltM:MbG->MbG->Bool:=ltOf idM
def cD (l:List MbG):List MbG:=(pdq ltM l.toArray 0 l.length (Lib.bitLen l.length) true true).toList
theorem wG {a b:MbG}:ltM a b=true↔a.id<b.id:=by
 unfold ltM ltOf idM bU;rw[decide_eq_true_eq]
 repeat' split
 all_goals omega
theorem bGd:SWO ltM where
 irrefl x:=by
  cases h:ltM x x with
  | false=>rfl
  | true=>rw[wG] at h;omega
 trans x y z h1 h2:=by rw[wG] at *;omega
 ntrans x y z h1 h2:=by
  have g1:¬ltM x y=true:=by rw[h1];simp
  have g2:¬ltM y z=true:=by rw[h2];simp
  cases h:ltM x z with
  | false=>rfl
  | true=>rw[wG] at *;omega
theorem dA (l:List MbG):(cD l).Perm l/\(cD l).length=l.length/\∀i j,i<j->(hj:j<(cD l).length)->∀hi:i<(cD l).length,(cD l)[i].id<=(cD l)[j].id:=by
 have h:=pdq_sorts ltM bGd l.toArray 0 l.toArray.size (Lib.bitLen l.toArray.size) true true (Nat.zero_le _) (Nat.le_refl _) (Or.inl rfl);obtain⟨⟨h1,h2,h3⟩,h4⟩:=h;have hs:(pdq ltM l.toArray 0 l.length (Lib.bitLen l.length) true true).size=l.length:=by simpa using h1
 have hl:(cD l).length=l.length:=by simp[cD,hs]
 refine⟨?_,hl,λi j hij hj hi=>?_⟩
 ·simp only [List.size_toArray] at h3;have e:∀a:Array MbG,a.size=l.length->a.extract 0 l.length=a:=λa ha=>by rw[<- ha];exact Array.extract_size
  rw[e _ hs,e _ τ] at h3;simpa [cD] using h3
 ·have h5:=h4 i j (Nat.zero_le _) hij (by rw[hl] at hj;simpa using hj);simp only [List.size_toArray] at h5;rw[getElem!_pos _ _ (by rw[hs,<- hl];exact hj),getElem!_pos _ _ (by rw[hs,<- hl];exact hi)] at h5;have h6:¬(cD l)[j].id<(cD l)[i].id:=λh=>by
   rw[<- wG] at h;simp only [cD,Array.getElem_toList] at h;rw[h] at h5;simp at h5
  omega
theorem aRa {uu:Bool} {w w':World} (h:FrS uu (λ_=>False) w.heap.size w w'):∃q os,w'=grow (w.drewN q) os:=by
 refine⟨w'.drawn - w.drawn,w'.heap.extract w.heap.size w'.heap.size,?_⟩;have h1:=h.drawn.le;obtain⟨heap',tape',drawn',os',output'⟩:=w';have e1:os'=w.os:=h.os;have e2:tape'=w.tape:=h.tape;have e3:output'=w.output:=h.output;have h1':w.drawn<=drawn':=h1;subst e1 e2 e3;unfold grow World.drewN;simp only [World.mk.injEq,true_and,and_true];refine⟨?_,by show drawn'=w.drawn+(drawn' - w.drawn);omega⟩;have hs:w.heap.size<=heap'.size:=h.size;refine Array.ext_getElem? λi=>?_;by_cases hi:i<w.heap.size
 ·rw[Array.getElem?_append_left hi];exact h.block i hi λh=>h
 ·rw[Array.getElem?_append_right ω];rw[Array.getElem?_extract];have:w.heap.size+(i - w.heap.size)=i:=ω;simp only [this];split
  ·rfl
  ·rename_i h9;exact Array.getElem?_eq_none (by show heap'.size<=i;omega)
theorem aMj (blk off size:Nat) (w:World):CmpLays Tryz.prog 218 #[] oK 3 idM blk off size w:=λm os dk _ x y=>by
 obtain⟨_,hc⟩:=bI5 x y (λ_=>False) (sortWorldK oK 3 w blk off m dk os) [.agg (oK x).toArray,.agg (oK y).toArray] (λb h=>h.elim)
  ⟨_,_,rfl,⟨oK x,rfl,λv hv=>by simp[oK] at hv;rcases hv with rfl | rfl | rfl <;> rfl,_,_,rfl,rfl,_,_,rfl,rfl,_,_,rfl,rfl,rfl⟩,_,_,rfl,⟨oK y,rfl,λv hv=>by simp[oK] at hv;rcases hv with rfl | rfl | rfl <;> rfl,_,_,rfl,rfl,_,_,rfl,rfl,_,_,rfl,rfl,rfl⟩,rfl⟩
 refine Calls.mono hc λe w' ⟨v,s,h1,h2,h3,h4⟩=>?_;subst h2;have hv:v=.int .i64 (idM x y):=h3;subst hv;exact⟨h1,aRa h4⟩
theorem aR8 {B W:Nat->Prop} {n0:Nat} {σ:Sig} {M:Mem} {F:Nat->Prop} {w w':World} (hm:MOK B W n0 σ M F w) (hsz:w.heap.size<=w'.heap.size) (hsame:∀b,b<w.heap.size->w'.heap[b]? =w.heap[b]?):MOK B W n0 σ M F w':=by
 have hk:bZ (Zof B σ M w) (Zof B σ M w') w w':=λb hb=>⟨⟨⟨Nat.lt_of_lt_of_le hb.1.1 hsz,hb.1.2⟩,hb.2⟩,hsame b hb.1.1⟩;refine⟨hm.newB,hm.fresh,λr R h=>?_,hm.inj,hm.own⟩;obtain⟨L,e1,e2⟩:=hm.reg r R h;exact⟨L,e1,e2.mono (λ_ _ h=>h) hk λb hb=>hsame b (e2.block hb)⟩
theorem aQh (a:MbG):(oK a).length=3:=rfl
def aE2 (a:MbG) (j:Nat):Value:=if j=0 then .int .i64 a.id else if j=1 then .int .u64 a.x.c.toNat else .int .u64 a.x.m.toNat
theorem aJ8 (a:MbG) {j:Nat} (h:j<3):a.f j=.v (aE2 a j):=by
 match j,h with
 | 0,_=>rfl
 | 1,_=>rfl
 | 2,_=>rfl
theorem uA {d:Array MbG} {i j:Nat} (hi:i<d.size) (hj:j<3):(flatK oK 3 d)[i*3+j]! =aE2 d[i]! j:=by
 rw[get_flatK _ _ _ _ ω];rw[show(i*3+j) / 3=i by omega,show(i*3+j) % 3=j by omega]
 match j,hj with
 | 0,_=>rfl
 | 1,_=>rfl
 | 2,_=>rfl
theorem aMx {d:Array MbG} {t:Nat} (h:t<d.size*3):(flatK oK 3 d)[t]!.oneCell'=true:=by
 have h2:=uA (d:=d) (i:=t / 3) (j:=t % 3) ω ω;rw[show t / 3*3+t % 3=t by omega] at h2;rw[h2];unfold aE2
 repeat' split
 all_goals rfl
abbrev aF1 (l:List MbG):Reg:=.vec 126 3 l.length λi j=>.r (gN l i j)
theorem bBt (l:List MbG) (hn:l.length<=1000000) :
 aHc Tryz.prog 1 217 [aF1 l] [.sl 0 3 0 l.length none,.fn (.func 218) [] []] (.tup []) [aF1 (cD l)]:=by
 intro B σ w vs _ hm ha;obtain⟨v0,vs',rfl,h0,v1,vs'',rfl,h1,h2⟩:=ha;subst h2;obtain⟨L,A,hσ,rfl,hnc,_,hA,hA0⟩:=h0;obtain⟨us,ws,rfl,rfl,rfl⟩:=h1;refine⟨enters_of Tryz.func217 κ rfl _ w,?_⟩;obtain⟨L',hσ',hR⟩:=hm.reg 0 (aF1 l) rfl;rw[hσ] at hσ';cases hσ';have hM:∀R',bH (bD [aF1 l]) 0 (some R')=bD [R']:=λR'=>by
  funext r
  match r with
  | 0=>rfl
  | r+1=>rfl
 obtain⟨n,hnl⟩:∃n,l.length=n:=⟨_,rfl⟩;by_cases hz:l=[]
 ·subst hz;refine(AnyF.slices_SortFunc_none Tryz.sortPr A _ _ w).mono ?_;rintro e w' ⟨rfl,rfl⟩;refine⟨_,σ,rfl,?_,⟨[],rfl,rfl⟩,FrS.refl _ _ _,λ_ _=>rfl⟩;have e:cD []=[]:=List.length_eq_zero_iff.1 (dA []).2.1;rw[e];exact hm
 have hpos:0<l.length:=List.length_pos_iff.2 hz;obtain⟨hnL,hLm,hR | ⟨b,cs,hb,hh,hl,ho,hc⟩⟩:=hR
 ·omega
 have hbl:b<w.heap.size:=fC hh;obtain⟨b',hb',rfl⟩:=hA (by simp only [Option.getD];omega);rw[hb] at hb';cases hb';have hd:l.toArray.size=l.length:=τ;have hK:HoldsK oK 3 w b 0 l.toArray:=λt ht=>by
  rw[size_flatK,hd] at ht;obtain⟨v,g1,g2,g3⟩:=hc (t / 3) (t % 3) ω ω;rw[show t / 3*3+t % 3=t by omega] at g1;have g4:=uA (d:=l.toArray) (i:=t / 3) (j:=t % 3) (by rw[hd];omega) ω;rw[show t / 3*3+t % 3=t by omega] at g4;have g6:gN l (t / 3) (t % 3)=.v (aE2 (l[t / 3]' ω) (t % 3)):=by rw[mrow ω _,aJ8 _ ω]
  simp only [g6] at g3;have g5:v=aE2 (l[t / 3]' ω) (t % 3):=g3;refine⟨?_,?_⟩
  ·rw[g4];simp only [World.cell?,hh,Nat.zero_add];rw[List.getElem?_toArray,g1,g5];rw[getElem!_pos _ _ (by rw[hd];omega)];rfl
  ·simp[World.frozen?,hh]
 have eg:∀args w,(callFunc 218 args).run Tryz.prog w=.ok (.enter 218 args) w:=enters_of Tryz.func218 κ rfl;have hcall:=AnyQ.slices_SortFunc_eq Tryz.sortPr 3 Tryz.isAgg126 Tryz.sizeOf126 oK aQh (λx v hv=>by simp[oK] at hv;rcases hv with rfl | rfl | rfl <;> rfl) idM bGd 218 #[] b 0 (none.getD (L.cap - 0)) l.toArray w eg (aMj b 0 _ w) hK hbl ω;rw[hd] at hcall;refine hcall.mono ?_;rintro e w' ⟨rfl,q,os,rfl⟩;have hsl:(cD l).length=l.length:=(dA l).2.1;have hs:pdq (ltOf idM) l.toArray 0 l.length (Lib.bitLen l.length) true true=(cD l).toArray:=by simp[cD,ltM]
 rw[hs];generalize cD l=l2 at hsl ⊢;have hw1:=mX (w':=putRowK oK 3 (Sort.ahead w q) b 0 l2.toArray) (R:=aF1 l2) hm (ref:=0) rfl hσ hb (by simp[putRowK]) (λy hy=>by
  simp[putRowK,putRow,mapBlock,Array.getElem?_modify,Ne.symm hy]) λZ' hk'=>by
  refine⟨by rw[hsl];exact hnL,hLm,.inr ⟨b,(putCells id 0 (flatK oK 3 l2.toArray) cs.toArray).toList,hb,?_,?_,?_,?_⟩⟩
  ·simp[putRowK,putRow,mapBlock,Array.getElem?_modify,hh,onCells]
  ·simp[putCells,hl]
  ·intro v hv;obtain⟨t,ht⟩:=List.getElem?_of_mem hv;rw[Array.getElem?_toList] at ht;simp only [putCells,Array.getElem?_mapIdx,List.getElem?_toArray,Option.map_eq_some_iff] at ht;obtain⟨u,hu,e⟩:=ht;split at e
   ·rename_i hr;rw[<- e];exact aMx (by have:=hr.2;rw[size_flatK] at this;simpa using this)
   ·rw[<- e];exact ho u (List.mem_of_getElem? hu)
  ·intro i j hi hj;have hi2:i<l2.length:=hi;have g:=uA (d:=l2.toArray) (i:=i) (j:=j) (by simpa using hi2) hj;obtain⟨v,g1,_,_⟩:=hc i j ω hj;refine⟨aE2 (l2[i]'hi2) j,?_,?_,?_⟩
   ·rw[Array.getElem?_toList];simp only [putCells,Array.getElem?_mapIdx,List.getElem?_toArray,g1,Option.map_some];rw[if_pos ⟨Nat.zero_le _,by rw[size_flatK];simp;omega⟩];simp only [Nat.sub_zero,id,g];rw[getElem!_pos _ _ (by simpa using hi2)];rfl
   ·unfold aE2
    repeat' split
    all_goals rfl
   ·have g6:gN l2 i j=.v (aE2 l2[i] j):=by rw[mrow hi2,aJ8 _ hj]
    simp only [g6];rfl
 rw[hM] at hw1;have hsz:(putRowK oK 3 (Sort.ahead w q) b 0 l2.toArray).heap.size=w.heap.size:=by simp[putRowK]
 refine⟨_,σ,rfl,aR8 hw1.1 (by simp[sortWorldK]) (λy hy=>by unfold sortWorldK;exact heap_grow_old _ _ hy),⟨[],rfl,rfl⟩,⟨rfl,rfl,rfl,?_,?_,?_⟩,λ_ _=>rfl⟩
 ·simp[sortWorldK,hsz]
 ·refine⟨by simp[sortWorldK,grow,putRowK,putRow,mapBlock,Sort.ahead],λy hx hb0 c t fr hc=>?_⟩;have hy:y<w.heap.size:=hx.elim (λh=>by cases h) id;unfold sortWorldK at hc;rw[heap_grow_old _ _ ω] at hc;by_cases e:y=b
  ·subst e;simp[putRowK,putRow,mapBlock,Array.getElem?_modify,hh,onCells] at hc;exact hc.2.2.symm
  ·simp[putRowK,putRow,mapBlock,Array.getElem?_modify,Ne.symm e] at hc;exact hb0 c t fr (by simpa [Sort.ahead] using hc)
 ·intro y hy hW;unfold sortWorldK;rw[heap_grow_old _ _ ω];have:y≠b:=λe=>hW ⟨0,_,L,rfl,hσ,by rw[e];exact hb⟩;simp[putRowK,putRow,mapBlock,Array.getElem?_modify,Ne.symm this]
end Go.Gx.Ix
namespace Go.Gx.Ix
open Go.RowKit Go.Proofs Go.Proofs.YtncccnmmjfapnaaGreat
theorem cU {N:cZ} {E:Env} {M:Mem} {nx:Nat} {S:List (Nat × SV)} {l:List (Option Reg)} {n:Nat} (hn:N.np<=n) (hl:l.length=n) (h:fQ n E S) (hM:jB 0 (cT n M) l):Fit N E M nx S (fD l) n:=
 Fit.of_slotsS hn h (kL hl hM)
theorem aU9 (n:Nat) (hn:n<=1000000) (get:Nat->Nat->RV):Own Tryz.prog 216 [] [.r (.rs 3 n get)] (.sl 0 3 0 n none) [.vec 126 3 n λi j=>.r (get i j)]:=by
 refine χ Tryz.func216 ?_;simp[go_sem];refine⟨λh=>.inr (by subst h;simp),⟨ω,ω⟩,⟨[0],τ,λN=>⟨?_,?_⟩⟩⟩
 ·simp[go_sem]
 ·simp[go_sem,aJ];intros i j hi hj;rw[if_pos ω];rfl
def cK (ms:List MbG) (k j:Nat):List PsG:=(ms.take k).foldl (λL a=>aAe L (eP a.x.m j) (eP a.x.c j) a.id) []
theorem aC4 {ms:List MbG} {k:Nat} (h:k<ms.length) (j:Nat):cK ms (k+1) j=aAe (cK ms k j) (eP ms[k].x.m j) (eP ms[k].x.c j) ms[k].id:=by
 unfold cK;rw[List.take_succ_eq_append_getElem h,List.foldl_append];rfl
theorem cK0 (ms:List MbG) (j:Nat):cK ms 0 j=[]:=rfl
def cIn (ms:List MbG) (k j i:Nat):List PsG:=cK ms (if i<j then k+1 else k) i
abbrev aP:SV:=.r (.v (.slice none 0 0))
abbrev ixM (ms:List MbG) (c:Nat->List PsG) (k:Nat):List (Option Reg):=
 [some (.box [aP,aP,aP,aP,aP,aP,aP,aP,aP]),some (.box [.sl 2 3 0 ms.length none,.sl 4 3 0 (c 0).length none,.sl 5 3 0 (c 1).length none,.sl 6 3 0 (c 2).length none,.sl 7 3 0 (c 3).length none,.sl 8 3 0 (c 4).length none,.sl 9 3 0 (c 5).length none,.sl 10 3 0 (c 6).length none,.sl 11 3 0 (c 7).length none]),some (aF1 ms),none,some (nD (c 0)),some (nD (c 1)),some (nD (c 2)),some (nD (c 3)),some (nD (c 4)),some (nD (c 5)),some (nD (c 6)),some (nD (c 7))]
theorem bI4 (l:List MbG) (hn:l.length<=1000) (hs:∀k j,(h:k<(cD l).length)->j<8->Srt (cK (cD l) k j) (eP (cD l)[k].x.m j) (eP (cD l)[k].x.c j) (cD l)[k].id):aHc Tryz.prog 0 110 [] [wH l] (.agg (.sl 0 3 0 l.length none::(List.range 8).map λj=>.sl (j+1) 3 0 (cK (cD l) l.length j).length none)) (aF1 (cD l)::(List.range 8).map λj=>nD (cK (cD l) l.length j)):=by
 refine aF6 aD Tryz.func110 rfl κ ν rfl rfl ?_;simp[go_sem];refine aF [] (aU9 l.length ω (gN l)) τ rfl ?_ ?_
 ·simp[go_sem]
 simp[go_sem];refine aHm [2] (bBt l ω) (λh=>h) τ τ rfl ?_ ?_
 ·simp[go_sem]
 simp[go_sem];have hl:=(dA l).2.1;obtain⟨ms,hms⟩:∃ms,cD l=ms:=⟨_,rfl⟩;rw[hms] at hs hl ⊢;rw[<- hl];have hl3:ms.length<=1000:=ω;have hk0:(λj=>cK ms 0 j)=λ_=>[]:=rfl;refine bK ((GSt.adoptBox 1 1 220 3 (λi j=>.r (cS [] i j)) (by rfl) (by rfl) δ).trans ((GSt.adoptBox 1 2 220 3 (λi j=>.r (cS [] i j)) (by rfl) (by rfl) δ).trans ((GSt.adoptBox 1 3 220 3 (λi j=>.r (cS [] i j)) (by rfl) (by rfl) δ).trans ((GSt.adoptBox 1 4 220 3 (λi j=>.r (cS [] i j)) (by rfl) (by rfl) δ).trans ((GSt.adoptBox 1 5 220 3 (λi j=>.r (cS [] i j)) (by rfl) (by rfl) δ).trans ((GSt.adoptBox 1 6 220 3 (λi j=>.r (cS [] i j)) (by rfl) (by rfl) δ).trans ((GSt.adoptBox 1 7 220 3 (λi j=>.r (cS [] i j)) (by rfl) (by rfl) δ).trans (GSt.adoptBox 1 8 220 3 (λi j=>.r (cS [] i j)) (by rfl) (by rfl) δ)))))))) ?_;refine tT aD (α:=Nat) (λk=>[(2,.ptr 0 0 9 0),(3,.ptr 1 0 9 0),(14,.sl 2 3 0 ms.length none),(15,.i ms.length),(16,.i k)]) (λk=>fD (ixM ms (cK ms k) k)) 12 (λk=>k<=ms.length) (λk=>ms.length - k) 0 τ (cU (Nat.zero_le _) rfl ζ (by simp[go_sem,cK0])) ?_;intro k J hk;simp[go_sem];split
 ·rename_i hlt;have hlt:k<ms.length:=hlt;obtain⟨a,ha⟩:∃a,ms[k]=a:=⟨_,rfl⟩;have r0:gN ms k 0=a.f 0:=by rw[mrow hlt,ha]
  have r1:gN ms k 1=a.f 1:=by rw[mrow hlt,ha]
  have r2:gN ms k 2=a.f 2:=by rw[mrow hlt,ha]
  have hc:∀j,cK ms (k+1) j=aAe (cK ms k j) (eP a.x.m j) (eP a.x.c j) a.id:=λj=>by rw[aC4 hlt,ha]
  have hsk:∀j,j<8->Srt (cK ms k j) (eP a.x.m j) (eP a.x.c j) a.id:=λj h=>by have:=hs k j hlt h;rwa [ha] at this
  simp[go_sem,r0,r1,r2];refine⟨hlt,?_⟩;refine tT aD (α:=Nat) (λj=>[(2,.ptr 0 0 9 0),(3,.ptr 1 0 9 0),(14,.sl 2 3 0 ms.length none),(15,.i ms.length),(16,.i k),(5,.ptr 12 0 3 0),(20,.i j)]) (λj=>fD (ixM ms (cIn ms k j) k++[some (.box [.i a.id,.w a.x.c,.w a.x.m])])) 13 (λj=>j<=8) (λj=>8 - j) 0 τ (cU (Nat.zero_le _) rfl ζ (by simp[go_sem,cIn])) ?_;intro j J hj;rcases(show j=0\/j=1\/j=2\/j=3\/j=4\/j=5\/j=6\/j=7\/j=8 by omega) with rfl | rfl | rfl | rfl | rfl | rfl | rfl | rfl | rfl
  ·simp[go_sem];refine aM (t:=(.take 0 (.take 1 (.take 2 (.take 3 (.take 4 (.take 5 (.take 6 (.take 7 (.take 9 (.take 10 (.take 12 (.alt 8 [12,10,9,7,6,5,4,3,2,1,0] (.alt 11 [12,10,9,5,4,3,2,1,0] (.take 13 (.alt 14 [13,12,9,5,3,2,1,0] (.done [12]) .nil)) .nil) .nil))))))))))))) aD κ κ κ (λ_ _ _ _ h=>h) ?_;simp[go_sem];refine aA (gB a.x 0 ω) rfl rfl ?_;simp[go_sem];refine aF [4] (uX (cK ms k 0) (eP a.x.m 0) (eP a.x.c 0) a.id (hsk 0 ω)) τ rfl ?_ ?_
   ·simp[go_sem,cIn]
   rw[<- hc 0];simp[go_sem];refine⟨1,ω,ω,Fit.vw (GSt.move 13 4 δ (Nat.zero_le _) (Nat.zero_le _) δ) (cU (Nat.zero_le _) rfl ζ ?_)⟩;simp[go_sem,cIn]
  ·simp[go_sem];refine aM (t:=(.take 0 (.take 1 (.take 2 (.take 3 (.take 4 (.take 5 (.take 6 (.take 7 (.take 9 (.take 10 (.take 12 (.alt 8 [12,10,9,7,6,5,4,3,2,1,0] (.alt 11 [12,10,9,5,4,3,2,1,0] (.take 13 (.alt 14 [13,12,9,5,3,2,1,0] (.done [12]) .nil)) .nil) .nil))))))))))))) aD κ κ κ (λ_ _ _ _ h=>h) ?_;simp[go_sem];refine aA (gB a.x 1 ω) rfl rfl ?_;simp[go_sem];refine aF [5] (uX (cK ms k 1) (eP a.x.m 1) (eP a.x.c 1) a.id (hsk 1 ω)) τ rfl ?_ ?_
   ·simp[go_sem,cIn]
   rw[<- hc 1];simp[go_sem];refine⟨2,ω,ω,Fit.vw (GSt.move 13 5 δ (Nat.zero_le _) (Nat.zero_le _) δ) (cU (Nat.zero_le _) rfl ζ ?_)⟩;simp[go_sem,cIn]
  ·simp[go_sem];refine aM (t:=(.take 0 (.take 1 (.take 2 (.take 3 (.take 4 (.take 5 (.take 6 (.take 7 (.take 9 (.take 10 (.take 12 (.alt 8 [12,10,9,7,6,5,4,3,2,1,0] (.alt 11 [12,10,9,5,4,3,2,1,0] (.take 13 (.alt 14 [13,12,9,5,3,2,1,0] (.done [12]) .nil)) .nil) .nil))))))))))))) aD κ κ κ (λ_ _ _ _ h=>h) ?_;simp[go_sem];refine aA (gB a.x 2 ω) rfl rfl ?_;simp[go_sem];refine aF [6] (uX (cK ms k 2) (eP a.x.m 2) (eP a.x.c 2) a.id (hsk 2 ω)) τ rfl ?_ ?_
   ·simp[go_sem,cIn]
   rw[<- hc 2];simp[go_sem];refine⟨3,ω,ω,Fit.vw (GSt.move 13 6 δ (Nat.zero_le _) (Nat.zero_le _) δ) (cU (Nat.zero_le _) rfl ζ ?_)⟩;simp[go_sem,cIn]
  ·simp[go_sem];refine aM (t:=(.take 0 (.take 1 (.take 2 (.take 3 (.take 4 (.take 5 (.take 6 (.take 7 (.take 9 (.take 10 (.take 12 (.alt 8 [12,10,9,7,6,5,4,3,2,1,0] (.alt 11 [12,10,9,5,4,3,2,1,0] (.take 13 (.alt 14 [13,12,9,5,3,2,1,0] (.done [12]) .nil)) .nil) .nil))))))))))))) aD κ κ κ (λ_ _ _ _ h=>h) ?_;simp[go_sem];refine aA (gB a.x 3 ω) rfl rfl ?_;simp[go_sem];refine aF [7] (uX (cK ms k 3) (eP a.x.m 3) (eP a.x.c 3) a.id (hsk 3 ω)) τ rfl ?_ ?_
   ·simp[go_sem,cIn]
   rw[<- hc 3];simp[go_sem];refine⟨4,ω,ω,Fit.vw (GSt.move 13 7 δ (Nat.zero_le _) (Nat.zero_le _) δ) (cU (Nat.zero_le _) rfl ζ ?_)⟩;simp[go_sem,cIn]
  ·simp[go_sem];refine aM (t:=(.take 0 (.take 1 (.take 2 (.take 3 (.take 4 (.take 5 (.take 6 (.take 7 (.take 9 (.take 10 (.take 12 (.alt 8 [12,10,9,7,6,5,4,3,2,1,0] (.alt 11 [12,10,9,5,4,3,2,1,0] (.take 13 (.alt 14 [13,12,9,5,3,2,1,0] (.done [12]) .nil)) .nil) .nil))))))))))))) aD κ κ κ (λ_ _ _ _ h=>h) ?_;simp[go_sem];refine aA (gB a.x 4 ω) rfl rfl ?_;simp[go_sem];refine aF [8] (uX (cK ms k 4) (eP a.x.m 4) (eP a.x.c 4) a.id (hsk 4 ω)) τ rfl ?_ ?_
   ·simp[go_sem,cIn]
   rw[<- hc 4];simp[go_sem];refine⟨5,ω,ω,Fit.vw (GSt.move 13 8 δ (Nat.zero_le _) (Nat.zero_le _) δ) (cU (Nat.zero_le _) rfl ζ ?_)⟩;simp[go_sem,cIn]
  ·simp[go_sem];refine aM (t:=(.take 0 (.take 1 (.take 2 (.take 3 (.take 4 (.take 5 (.take 6 (.take 7 (.take 9 (.take 10 (.take 12 (.alt 8 [12,10,9,7,6,5,4,3,2,1,0] (.alt 11 [12,10,9,5,4,3,2,1,0] (.take 13 (.alt 14 [13,12,9,5,3,2,1,0] (.done [12]) .nil)) .nil) .nil))))))))))))) aD κ κ κ (λ_ _ _ _ h=>h) ?_;simp[go_sem];refine aA (gB a.x 5 ω) rfl rfl ?_;simp[go_sem];refine aF [9] (uX (cK ms k 5) (eP a.x.m 5) (eP a.x.c 5) a.id (hsk 5 ω)) τ rfl ?_ ?_
   ·simp[go_sem,cIn]
   rw[<- hc 5];simp[go_sem];refine⟨6,ω,ω,Fit.vw (GSt.move 13 9 δ (Nat.zero_le _) (Nat.zero_le _) δ) (cU (Nat.zero_le _) rfl ζ ?_)⟩;simp[go_sem,cIn]
  ·simp[go_sem];refine aM (t:=(.take 0 (.take 1 (.take 2 (.take 3 (.take 4 (.take 5 (.take 6 (.take 7 (.take 9 (.take 10 (.take 12 (.alt 8 [12,10,9,7,6,5,4,3,2,1,0] (.alt 11 [12,10,9,5,4,3,2,1,0] (.take 13 (.alt 14 [13,12,9,5,3,2,1,0] (.done [12]) .nil)) .nil) .nil))))))))))))) aD κ κ κ (λ_ _ _ _ h=>h) ?_;simp[go_sem];refine aA (gB a.x 6 ω) rfl rfl ?_;simp[go_sem];refine aF [10] (uX (cK ms k 6) (eP a.x.m 6) (eP a.x.c 6) a.id (hsk 6 ω)) τ rfl ?_ ?_
   ·simp[go_sem,cIn]
   rw[<- hc 6];simp[go_sem];refine⟨7,ω,ω,Fit.vw (GSt.move 13 10 δ (Nat.zero_le _) (Nat.zero_le _) δ) (cU (Nat.zero_le _) rfl ζ ?_)⟩;simp[go_sem,cIn]
  ·simp[go_sem];refine aM (t:=(.take 0 (.take 1 (.take 2 (.take 3 (.take 4 (.take 5 (.take 6 (.take 7 (.take 9 (.take 10 (.take 12 (.alt 8 [12,10,9,7,6,5,4,3,2,1,0] (.alt 11 [12,10,9,5,4,3,2,1,0] (.take 13 (.alt 14 [13,12,9,5,3,2,1,0] (.done [12]) .nil)) .nil) .nil))))))))))))) aD κ κ κ (λ_ _ _ _ h=>h) ?_;simp[go_sem];refine aA (gB a.x 7 ω) rfl rfl ?_;simp[go_sem];refine aF [11] (uX (cK ms k 7) (eP a.x.m 7) (eP a.x.c 7) a.id (hsk 7 ω)) τ rfl ?_ ?_
   ·simp[go_sem,cIn]
   rw[<- hc 7];simp[go_sem];refine⟨8,ω,ω,Fit.vw (GSt.move 13 11 δ (Nat.zero_le _) (Nat.zero_le _) δ) (cU (Nat.zero_le _) rfl ζ ?_)⟩;simp[go_sem,cIn]
  ·simp[go_sem];refine⟨ω,k+1,ω,ω,cU (Nat.zero_le _) rfl ζ (by simp[go_sem,cIn])⟩
 ·have hkl:k=ms.length:=ω;subst hkl;refine⟨[2,4,5,6,7,8,9,10,11],τ,λN=>⟨?_,?_⟩⟩
  ·simp[go_sem]
  ·simp[go_sem]
theorem gD {l:List Int} {i:Nat} (h:i<l.length):l.getD i 0=l[i]:=by simp[List.getD,h]
def bef (p q:PsG):Prop:=p.m.toNat<q.m.toNat\/p.m.toNat=q.m.toNat/\p.c.toNat<q.c.toNat
structure Inv (L:List PsG) (k:Nat):Prop where
 len:L.length<=k
 cells:L.Pairwise bef
 ids:∀p∈L,p.ids.length<=k/\p.ids.Pairwise (·<=·)
theorem aW0 {a b c d:Nat}:dM a b c d<0↔a<c\/a=c/\b<d:=by
 rw[eS];unfold dJ;simp;omega
theorem sZ {L:List PsG} {m c:BitVec 8} {i:Nat} (h:i<L.length):pcm L m c i<0↔L[i].m.toNat<m.toNat\/L[i].m.toNat=m.toNat/\L[i].c.toNat<c.toNat:=by
 rw[aIq h,aW0]
theorem Inv.mono {L:List PsG} {k:Nat} (h:Inv L k) {m c:BitVec 8}:∀a b,a<b->b<L.length->pcm L m c b<0->pcm L m c a<0:=by
 intro a b hab hb;rw[sZ hb,sZ (ω:a<L.length)];have:=List.pairwise_iff_getElem.1 h.cells a b ω hb hab;unfold bef at this;omega
theorem vM {l:List Int} (h:l.Pairwise (·<=·)) {id:Int}:∀a b,a<b->b<l.length->l.getD b 0<id->l.getD a 0<id:=by
 intro a b hab hb;have:=List.pairwise_iff_getElem.1 h a b ω hb hab;rw[gD hb,gD (ω:a<l.length)];omega
theorem Inv.srt {L:List PsG} {k:Nat} (h:Inv L k) (hk:k<=1000) (m c:BitVec 8) (id:Int):Srt L m c id:=
 ⟨Nat.le_trans h.len hk,h.mono,λp hp=>⟨Nat.le_trans (h.ids p hp).1 hk,vM (h.ids p hp).2⟩⟩
theorem aBc {c:Nat->Int} {n:Nat} (hm:∀a b,a<b->b<n->c b<0->c a<0):(∀j,j<dF c n->c j<0)/\∀j,dF c n<=j->j<n->0<=c j:=by
 have h0:∀j,j<dF c n->c j<0:=by
  intro j hj;unfold dF at hj
  cases h:(List.range n).find? λi=>decide (0<=c i) with
  | none=>
    rw[h] at hj;have:=List.find?_eq_none.1 h j (List.mem_range.2 hj);simp at this;omega
  | some i=>
    rw[h] at hj;have:=(List.find?_range_eq_some.1 h).2.2 j hj;simp at this;omega
 refine⟨h0,λj h1 h2=>?_⟩;have hb:dF c n<n:=ω;have h3:0<=c (dF c n):=by
  unfold dF at hb ⊢
  cases h:(List.range n).find? λi=>decide (0<=c i) with
  | none=>rw[h] at hb;simp at hb
  | some i=>
    have:=(List.find?_range_eq_some.1 h).1;simpa using this
 by_cases e:j=dF c n
 ·rw[e];exact h3
 ·by_cases h4:c j<0
  ·have:=hm _ j (ω:dF c n<j) h2 h4;omega
  ·omega
theorem vD {l:List Int} (h:l.Pairwise (·<=·)) (id:Int):(mR l id).Pairwise (·<=·)/\(mR l id).length=l.length+1/\(mR l id).Perm (id::l):=by
 unfold mR;have hm:∀a b,a<b->b<l.length->l.getD b 0 - id<0->l.getD a 0 - id<0:=λa b h1 h2 h3=>by
  have:=vM h (id:=id) a b h1 h2 ω;omega
 obtain⟨h1,h2⟩:=aBc (c:=λi=>l.getD i 0 - id) (n:=l.length) hm;have hle:dF (λi=>l.getD i 0 - id) l.length<=l.length:=bnd_le;generalize dF (λi=>l.getD i 0 - id) l.length=k at *;refine⟨?_,ι,?_⟩
 ·rw[List.pairwise_append];refine⟨h.sublist (List.take_sublist k l),?_,?_⟩
  ·rw[List.pairwise_cons];refine⟨λa ha=>?_,h.sublist (List.drop_sublist k l)⟩;obtain⟨i,hi,rfl⟩:=List.mem_iff_getElem.1 ha;have hi':k+i<l.length:=by simp at hi;omega
   have:=h2 (k+i) ω hi';rw[List.getElem_drop];rw[gD hi'] at this;omega
  ·intro a ha b hb;obtain⟨i,hi,rfl⟩:=List.mem_iff_getElem.1 ha;have hi':i<k/\i<l.length:=by simp at hi;omega
   have h3:=h1 i hi'.1;rw[gD hi'.2] at h3;rw[List.getElem_take];rcases List.mem_cons.1 hb with rfl | hb
   ·omega
   ·obtain⟨j,hj,rfl⟩:=List.mem_iff_getElem.1 hb;have hj':k+j<l.length:=by simp at hj;omega
    have:=h2 (k+j) ω hj';rw[List.getElem_drop];rw[gD hj'] at this;omega
 ·exact(List.perm_middle.trans (by rw[List.take_append_drop]))
theorem aEr {L:List PsG} {k:Nat} (h:Inv L k) (m c:BitVec 8):Inv (addL L m c) (k+1)/\(∀hk:pat L m c<(addL L m c).length,(addL L m c)[pat L m c].m=m/\(addL L m c)[pat L m c].c=c):=by
 obtain⟨h1,h2⟩:=aBc (c:=pcm L m c) (n:=L.length) h.mono;have hle:dF (pcm L m c) L.length<=L.length:=bnd_le;have hz:∀i,(hi:i<L.length)->(pcm L m c i=0↔L[i].m=m/\L[i].c=c):=λi hi=>by
  rw[aIq hi,jQ,<- BitVec.toNat_inj,<- BitVec.toNat_inj];omega
 unfold addL pis pat dP;generalize dF (pcm L m c) L.length=k0 at *;by_cases hf:(decide (k0<L.length)&&decide (pcm L m c k0=0))=true
 ·simp only [hf,if_true];refine⟨⟨by have:=h.len;omega,h.cells,λp hp=>⟨by have:=(h.ids p hp).1;omega,(h.ids p hp).2⟩⟩,λhk=>?_⟩;simp at hf;exact(hz k0 hk).1 hf.2
 ·rw[if_neg hf];have hf':∀hk:k0<L.length,¬pcm L m c k0=0:=λhk e=>hf (by simp[hk,e]);refine⟨⟨by have:=h.len;simp;omega,?_,λp hp=>?_⟩,λhk=>?_⟩
  ·rw[List.pairwise_append];have up:∀j,k0<=j->(hj:j<L.length)->m.toNat<L[j].m.toNat\/m.toNat=L[j].m.toNat/\c.toNat<L[j].c.toNat:=by
    intro j hj hjl;have g1:=h2 j hj hjl;have g2:¬pcm L m c j<0:=ω;rw[sZ hjl] at g2;have g3:¬(L[k0]' ω).m=m\/¬(L[k0]' ω).c=c:=by
     have:=hf' ω;rw[hz _ ω] at this;exact Decidable.not_and_iff_not_or_not.1 this
    by_cases e:j=k0
    ·subst e;rw[<- BitVec.toNat_inj,<- BitVec.toNat_inj] at g3;omega
    ·have g4:=List.pairwise_iff_getElem.1 h.cells k0 j ω hjl ω;unfold bef at g4;have g5:=h2 k0 (Nat.le_refl _) ω;have g6:¬pcm L m c k0<0:=ω;rw[sZ (ω:k0<L.length)] at g6;omega
   refine⟨h.cells.sublist (List.take_sublist k0 L),?_,?_⟩
   ·rw[List.pairwise_cons];refine⟨λa ha=>?_,h.cells.sublist (List.drop_sublist k0 L)⟩;obtain⟨i,hi,rfl⟩:=List.mem_iff_getElem.1 ha;have hi':k0+i<L.length:=by simp at hi;omega
    rw[List.getElem_drop];exact up _ ω hi'
   ·intro a ha b hb;obtain⟨i,hi,rfl⟩:=List.mem_iff_getElem.1 ha;have hi':i<k0/\i<L.length:=by simp at hi;omega
    have h3:=h1 i hi'.1;rw[sZ hi'.2] at h3;rw[List.getElem_take];rcases List.mem_cons.1 hb with rfl | hb
    ·exact h3
    ·obtain⟨j,hj,rfl⟩:=List.mem_iff_getElem.1 hb;have hj':k0+j<L.length:=by simp at hj;omega
     rw[List.getElem_drop];exact List.pairwise_iff_getElem.1 h.cells i (k0+j) hi'.2 hj' ω
  ·rcases List.mem_append.1 hp with hp | hp
   ·have:=h.ids p (List.mem_of_mem_take hp);exact⟨ω,this.2⟩
   ·rcases List.mem_cons.1 hp with rfl | hp
    ·exact⟨τ,.nil⟩
    ·have:=h.ids p (List.mem_of_mem_drop hp);exact⟨ω,this.2⟩
  ·have hlt:(L.take k0).length=k0:=ι;rw[List.getElem_append_right ω];simp[hlt]
theorem aOz {L:List PsG} {k:Nat} (h:Inv L k) (m c:BitVec 8) (id:Int):Inv (aAe L m c id) (k+1):=by
 obtain⟨⟨i1,i2,i3⟩,_⟩:=aEr h m c;unfold aAe;generalize pat L m c=q;generalize hL:addL L m c=L2 at *;have hids:∀p∈L2,p.ids.length<=k/\p.ids.Pairwise (·<=·):=by
  intro p hp;rw[<- hL] at hp;unfold addL at hp;split at hp
  ·exact h.ids p hp
  ·rcases List.mem_append.1 hp with hp | hp
   ·exact h.ids p (List.mem_of_mem_take hp)
   ·rcases List.mem_cons.1 hp with rfl | hp
    ·exact⟨Nat.zero_le _,.nil⟩
    ·exact h.ids p (List.mem_of_mem_drop hp)
 refine⟨by simpa using i1,?_,λp hp=>?_⟩
 ·rw[List.pairwise_iff_getElem] at i2 ⊢;intro i j hi hj hij;simp only [List.length_modify] at hi hj;have:=i2 i j hi hj hij;simp only [List.getElem_modify,bef] at this ⊢
  repeat' split
  all_goals exact this
 ·obtain⟨i,hi,rfl⟩:=List.mem_iff_getElem.1 hp;simp only [List.length_modify] at hi;have h1:=hids L2[i] (List.getElem_mem hi);rw[List.getElem_modify];split
  ·have h2:=vD h1.2 id;exact⟨by simp only;omega,h2.1⟩
  ·exact⟨ω,h1.2⟩
theorem aC3 (ms:List MbG) (j:Nat):∀k,k<=ms.length->Inv (cK ms k j) k
 | 0,_=>⟨Nat.le_refl _,.nil,λp hp=>by cases hp⟩
 | k+1,h=>by
   rw[aC4 (ω:k<ms.length)];exact aOz (aC3 ms j k ω) _ _ _
structure IxG where
 ms:List MbG
 ch:Nat->List PsG
abbrev cP (l:List PsG):SV:=.r (.rs 3 l.length (cS l))
def IxG.sv (x:IxG):SV:=.agg (wH x.ms::(List.range 8).map λj=>cP (x.ch j))
def lL (l:List MbG):IxG:=⟨cD l,λj=>cK (cD l) l.length j⟩
theorem bFw (l:List MbG) (hn:l.length<=1000):aHc Tryz.prog 0 110 [] [wH l] (.agg (.sl 0 3 0 l.length none::(List.range 8).map λj=>.sl (j+1) 3 0 ((lL l).ch j).length none)) (aF1 (lL l).ms::(List.range 8).map λj=>nD ((lL l).ch j)):=
 bI4 l hn λk j hk _=>(aC3 (cD l) j k ω).srt (by have:=(dA l).2.1;omega) _ _ _
theorem bFx (l:List MbG) (hn:l.length<=1000):PureK Tryz.prog 110 [wH l] (· =(lL l).sv):=by
 refine PureK.ofSub (aNh (bFw l hn) ?_);have e:(lL l).ms.length=l.length:=(dA l).2.1;unfold IxG.sv;simp[go_sem,e]
deriving instance DecidableEq for IrG
deriving instance DecidableEq for MbG
deriving instance DecidableEq for PsG
def okN (id:Int):Bool:=btw 0 1073741824 id
theorem aSf (id:Int):Pure Tryz.prog 108 [.i id] (· =.b (okN id)):=by
 refine π Tryz.func108 ?_;by_cases h:0<=id <;> simp[go_sem,okN,btw,h]
theorem aUx (a:MbG):Pure Tryz.prog 107 [a.sv] (· =.b (!okN a.id)):=by
 refine π Tryz.func107 ?_;simp[go_sem];refine aA (aSf a.id) rfl rfl ?_;simp[go_sem]
theorem aUy (a:MbG):Pure Tryz.prog 109 [a.sv] (· =.b (!a.x.ok)):=by
 refine π Tryz.func109 ?_;simp[go_sem];refine aA (mJ a.x.c a.x.m) rfl rfl ?_
 cases h:vI a.x.c a.x.m <;> simp[go_sem,IrG.ok,h]
def rL (p:Nat->Bool) (n:Nat):Int:=match (List.range n).find? p with | some i=>(i:Int) | none=>-1
theorem gY {p:Nat->Bool} {n k:Nat} (hk:k<n) (h:p k=true) (hj:∀j,j<k->p j=false):rL p n=k:=by
 have:(List.range n).find? p=some k:=by
  rw[List.find?_range_eq_some];exact⟨h,List.mem_range.2 hk,λj a=>by rw[hj j a];rfl⟩
 rw[rL,this]
theorem gZ {p:Nat->Bool} {n:Nat} (h:∀j,j<n->p j=false):rL p n=-1:=by
 have:(List.range n).find? p=none:=by
  rw[List.find?_eq_none];intro j hj;rw[h j (List.mem_range.1 hj)];simp
 rw[rL,this]
theorem sS {p:Nat->Bool} {n:Nat}:decide (0<=rL p n)=(List.range n).any p:=by
 unfold rL
 cases h:(List.range n).find? p with
 | none=>
   have h':=List.find?_eq_none.1 h;have:(List.range n).any p=false:=by
    rw[List.any_eq_false];exact h'
   rw[this];rfl
 | some i=>
   have h1:=List.find?_range_eq_some.1 h;have:(List.range n).any p=true:=List.any_eq_true.2 ⟨i,h1.2.1,h1.1⟩;rw[this];simp
theorem aV3 (n:Nat) (hn:n<=1000000000) (get:Nat->Nat->RV) (g:FuncId) (ca:List SV) (hca:SV.closedL ca=true) (p:Nat->Bool)
 (hp:∀i,i<n->Pure Tryz.prog g (.agg [.r (get i 0),.r (get i 1),.r (get i 2)]::ca) (· =.b (p i))):Pure Tryz.prog 215 [.r (.rs 3 n get),.fn (.func g) [] ca] (· =.i (rL p n)):=by
 refine π Tryz.func215 ?_;simp[go_sem];refine aH aD (α:=Nat) (λx=>[(0,.r (.rs 3 n get)),(1,.fn (.func g) [] ca),(7,.i n),(8,.i x)]) (λ_=>[]) 0 (λx=>x<=n/\∀j,j<x->p j=false) (λx=>n - x) 0 (λ_=>rfl) τ (by simp[go_sem,SV.trimL_closed _ _ hca]) ζ ?_;intro x J hi;by_cases hlt:x<n
 ·simp[go_sem,hlt];refine aA (hp x hlt) (by simp[go_sem,hca]) rfl ?_;by_cases hb:p x=true
  ·simp[go_sem,hb];exact(gY hlt hb hi.2).symm
  ·have hb':p x=false:=by simpa using hb
   simp[go_sem,hb',SV.trimL_closed _ _ hca];refine⟨ω,x+1,⟨ω,λj hj=>?_⟩,ω,ω⟩;by_cases hjx:j=x
   ·subst hjx;exact hb'
   ·exact hi.2 j ω
 ·simp[go_sem,hlt];exact(gZ λj hj=>hi.2 j ω).symm
theorem aFa (n:Nat) (hn:n<=1000000000) (get:Nat->Nat->RV) (g:FuncId) (ca:List SV) (hca:SV.closedL ca=true) (p:Nat->Bool)
 (hp:∀i,i<n->Pure Tryz.prog g (.agg [.r (get i 0),.r (get i 1),.r (get i 2)]::ca) (· =.b (p i))):Pure Tryz.prog 106 [.r (.rs 3 n get),.fn (.func g) [] ca] (· =.b ((List.range n).any p)):=by
 refine π Tryz.func106 ?_;simp[go_sem];refine aA (aV3 n hn get g ca hca p hp) (by simp[go_sem,hca]) rfl ?_;simp[go_sem,sS]
theorem aLz {α:Type} [Inhabited α] (l:List α) (q:α->Bool):((List.range l.length).any λi=>q l[i]!)=l.any q:=by
 rw[Bool.eq_iff_iff,List.any_eq_true,List.any_eq_true];constructor
 ·rintro⟨i,hi,h⟩;have hi:=List.mem_range.1 hi;rw[getElem!_pos l i hi] at h;exact⟨_,List.getElem_mem hi,h⟩
 ·rintro⟨a,ha,h⟩;obtain⟨i,hi,rfl⟩:=List.mem_iff_getElem.1 ha;exact⟨i,List.mem_range.2 hi,by rw[getElem!_pos l i hi];exact h⟩
theorem xK (l:List MbG) (hn:l.length<=1000000000) (g:FuncId) (q:MbG->Bool) (hp:∀a:MbG,Pure Tryz.prog g [a.sv] (· =.b (q a))):Pure Tryz.prog 106 [wH l,.fn (.func g) [] []] (· =.b (l.any q)):=by
 rw[<- aLz l q];refine aFa l.length hn (gN l) g [] rfl (λi=>q l[i]!) λi hi=>?_;rw[mrow hi 0,mrow hi 1,mrow hi 2,getElem!_pos l i hi];exact hp l[i]
theorem gT {α:Type} {l l':List α} (h:l.length=l'.length) (e:∀j (h1:j<l.length) (h2:j<l'.length),l[j]=l'[j]):l=l':=List.ext_getElem h λj h1 h2=>e j h1 h2
theorem aVj (l l':List MbG) (hn:l.length<=1000000000):Pure Tryz.prog 220 [wH l,wH l'] (· =.b (decide (l=l'))):=by
 refine π Tryz.func220 ?_;simp[go_sem];by_cases h:l.length=l'.length;rotate_left
 ·have h':¬l=l':=λe=>h (by rw[e]);simp[go_sem,h,h']
  try omega
 simp[go_sem,h];have hn':l'.length<=1000000000:=ω;refine aH aD (α:=Nat) (λk=>[(0,.r (.rs 3 l'.length (gN l))),(1,wH l'),(12,.i l'.length),(13,.i k)]) (λ_=>[]) 0 (λk=>k<=l'.length/\∀j,j<k->∀(h1:j<l.length) (h2:j<l'.length),l[j]=l'[j]) (λk=>l'.length - k) 0 (λ_=>rfl) τ (by simp[go_sem,h]) ζ ?_;intro k J hi;by_cases hlt:k<l'.length
 ·simp[go_sem,hlt];have hlt1:k<l.length:=ω;have r0:=mrow hlt1 0;have r1:=mrow hlt1 1;have r2:=mrow hlt1 2;have q0:=mrow hlt 0;have q1:=mrow hlt 1;have q2:=mrow hlt 2;refine aE aD κ κ ?_;simp[go_sem,hlt,r0,r1,r2,q0,q1,q2];have hiff:l[k]=l'[k]↔l[k].id=l'[k].id/\l[k].x.c.toNat=l'[k].x.c.toNat/\l[k].x.m.toNat=l'[k].x.m.toNat:=by
   rw[BitVec.toNat_inj,BitVec.toNat_inj];obtain⟨a,c,m⟩:=l[k];obtain⟨a',c',m'⟩:=l'[k];simp
  by_cases he:l[k]=l'[k]
  ·have he':=hiff.1 he;simp[go_sem,he'.1,he'.2.1,he'.2.2];refine⟨ω,k+1,⟨ω,λj hj h1 h2=>?_⟩,ω,ω⟩;by_cases hjk:j=k
   ·subst hjk;exact he
   ·exact hi.2 j ω h1 h2
  ·have he':¬(l[k].id=l'[k].id/\l[k].x.c.toNat=l'[k].x.c.toNat/\l[k].x.m.toNat=l'[k].x.m.toNat):=λq=>he (hiff.2 q);have hne:¬l=l':=λe=>he (by simp[e]);simp[go_sem,hne];intro e1 e2 e3;exact absurd ⟨e1,ω,ω⟩ he'
 ·simp[go_sem,hlt];exact gT h λj h1 h2=>hi.2 j ω h1 h2
theorem aV4 {l:List Int} {i:Nat} (h:i<l.length) (j:Nat):iZ l i j=.i l[i]:=by unfold iZ;rw[bP (List.getElem?_eq_getElem h)]
abbrev ils (l:List Int):SV:=.r (.rs 1 l.length (iZ l))
theorem aVk (l l':List Int) (hn:l.length<=1000000000):Pure Tryz.prog 317 [ils l,ils l'] (· =.b (decide (l=l'))):=by
 refine π Tryz.func317 ?_;simp[go_sem];by_cases h:l.length=l'.length;rotate_left
 ·have h':¬l=l':=λe=>h (by rw[e]);simp[go_sem,h,h']
  try omega
 simp[go_sem,h];have hn':l'.length<=1000000000:=ω;refine aH aD (α:=Nat) (λk=>[(0,.r (.rs 1 l'.length (iZ l))),(1,ils l'),(12,.i l'.length),(13,.i k)]) (λ_=>[]) 0 (λk=>k<=l'.length/\∀j,j<k->∀(h1:j<l.length) (h2:j<l'.length),l[j]=l'[j]) (λk=>l'.length - k) 0 (λ_=>rfl) τ (by simp[go_sem,h]) ζ ?_;intro k J hi;by_cases hlt:k<l'.length
 ·simp[go_sem,hlt];have hlt1:k<l.length:=ω;have r0:=aV4 hlt1 0;have q0:=aV4 hlt 0;refine aE aD κ κ ?_;simp[go_sem,hlt,r0,q0];by_cases he:l[k]=l'[k]
  ·simp[go_sem,he];refine⟨ω,k+1,⟨ω,λj hj h1 h2=>?_⟩,ω,ω⟩;by_cases hjk:j=k
   ·subst hjk;exact he
   ·exact hi.2 j ω h1 h2
  ·have hne:¬l=l':=λe=>he (by simp[e]);simp[go_sem,he,hne]
 ·simp[go_sem,hlt];exact gT h λj h1 h2=>hi.2 j ω h1 h2
abbrev PsG.sv (p:PsG):SV:=.agg [.y p.c,.y p.m,ils p.ids]
theorem bBq (p q:PsG) (hp:p.ids.length<=1000000000):Pure Tryz.prog 222 [p.sv,q.sv] (· =.b (decide (p=q))):=by
 refine π Tryz.func222 ?_;simp[go_sem];have hiff:p=q↔(p.m.toNat=q.m.toNat/\p.c.toNat=q.c.toNat)/\p.ids=q.ids:=by
  rw[BitVec.toNat_inj,BitVec.toNat_inj];obtain⟨a,b,c⟩:=p;obtain⟨a',b',c'⟩:=q;simp only [PsG.mk.injEq];constructor
  ·rintro⟨rfl,rfl,rfl⟩;exact⟨⟨rfl,rfl⟩,rfl⟩
  ·rintro⟨⟨rfl,rfl⟩,rfl⟩;exact⟨rfl,rfl,rfl⟩
 by_cases h1:p.m.toNat=q.m.toNat/\p.c.toNat=q.c.toNat
 ·simp[go_sem,h1.1,h1.2];refine aA (aVk p.ids q.ids hp) rfl rfl ?_;have:(p=q)↔p.ids=q.ids:=by rw[hiff];simp[h1.1,h1.2]
  simp[go_sem,this]
 ·have hne:¬p=q:=λe=>h1 (hiff.1 e).1;have h2:∀(_:p.m.toNat=q.m.toNat),¬p.c.toNat=q.c.toNat:=λa b=>h1 ⟨a,b⟩;by_cases h3:p.m.toNat=q.m.toNat
  ·simp[go_sem,hne,h3];intro e;exact absurd ω (h2 h3)
  ·simp[go_sem,hne];intro e;exact absurd ω h3
theorem kV (l l':List PsG) (hn:l.length<=1000000000) (hi:∀p∈l,p.ids.length<=1000000000):Pure Tryz.prog 221 [.r (.rs 3 l.length (cS l)),.r (.rs 3 l'.length (cS l')),.fn (.func 222) [] []] (· =.b (decide (l=l'))):=by
 refine π Tryz.func221 ?_;simp[go_sem];by_cases h:l.length=l'.length;rotate_left
 ·have h':¬l=l':=λe=>h (by rw[e]);simp[go_sem,h,h']
  try omega
 simp[go_sem,h];have hn':l'.length<=1000000000:=ω;refine aH aD (α:=Nat) (λk=>[(0,.r (.rs 3 l'.length (cS l))),(1,.r (.rs 3 l'.length (cS l'))),(2,.fn (.func 222) [] []),(15,.r (.rs 3 l'.length (cS l))),(16,.i l'.length),(17,.i k)]) (λ_=>[]) 0 (λk=>k<=l'.length/\∀j,j<k->∀(h1:j<l.length) (h2:j<l'.length),l[j]=l'[j]) (λk=>l'.length - k) 0 (λ_=>rfl) τ (by simp[go_sem,h]) ζ ?_;intro k J hj;by_cases hlt:k<l'.length
 ·simp[go_sem,hlt];have hlt1:k<l.length:=ω;have r0:=tB hlt1 0;have r1:=tB hlt1 1;have r2:=tB hlt1 2;have q0:=tB hlt 0;have q1:=tB hlt 1;have q2:=tB hlt 2;simp[go_sem,hlt,r0,r1,r2,q0,q1,q2];refine aA (bBq l[k] l'[k] (hi _ (List.getElem_mem hlt1))) rfl rfl ?_;by_cases he:l[k]=l'[k]
  ·simp[go_sem,he];refine⟨ω,k+1,⟨ω,λj hjk h1 h2=>?_⟩,ω,ω⟩;by_cases e:j=k
   ·subst e;exact he
   ·exact hj.2 j ω h1 h2
  ·have hne:¬l=l':=λe=>he (by simp[e]);simp[go_sem,he,hne]
 ·simp[go_sem,hlt];exact gT h λj h1 h2=>hj.2 j ω h1 h2
def RLe (x y:RV):Prop:=∀(Z:Nat->Prop) (w:World) (v:Value),x.rel Z w v->y.rel Z w v
theorem aAr {x y:RV} (h:RLe x y):(SV.r x).le (.r y):=λZ w v hv=>h Z w v hv
theorem le_agg {l l':List SV} (h:leL l l'):(SV.agg l).le (.agg l'):=λZ w y hy=>by
 obtain⟨vs,e,h1,h2⟩:=hy;exact⟨vs,e,h1,pX _ _ _ h h2⟩
theorem aR1 {l l':List SV} (h:leL l l'):(SV.tup l).le (.tup l'):=λZ w y hy=>by
 obtain⟨vs,e,h2⟩:=hy;exact⟨vs,e,pX _ _ _ h h2⟩
theorem aF9 {P:Program} {f:FuncId} {args:List SV} {u v:SV} (h:PureK P f args (· =u)) (hl:u.le v):PureK P f args (· =v):=h.le λZ w y hy=>hl Z w y hy
theorem lJ (k:Nat) (get:Nat->Nat->RV):RLe (.v (.slice none 0 0)) (.rs k 0 get):=by
 intro Z w y hy;have hy:y=.slice none 0 0:=hy;subst hy;exact⟨none,0,rfl,Nat.le_refl _,λh=>absurd h (Nat.lt_irrefl 0)⟩
def aFe (ms:List MbG):Bool:=(List.range ms.length).any λi=>decide (1<=i)&&decide (ms[i]!.id=ms[i - 1]!.id)
def fJ (l:List MbG):Int:=if 256<l.length then 4 else if l.any (λa=>!okN a.id) then 2 else if l.any (λa=>!a.x.ok) then 30 else if aFe (cD l) then 41 else 0
def IxG.zero:IxG:=⟨[],λ_=>[]⟩
def tY (l:List MbG):IxG:=if fJ l=0 then lL l else IxG.zero
abbrev bFv:SV:=.agg [aP,aP,aP,aP,aP,aP,aP,aP,aP]
theorem aSd:bFv.le IxG.zero.sv:=le_agg ⟨aAr (lJ 3 _),aAr (lJ 3 _),aAr (lJ 3 _),aAr (lJ 3 _),aAr (lJ 3 _),aAr (lJ 3 _),aAr (lJ 3 _),aAr (lJ 3 _),aAr (lJ 3 _),trivial⟩
theorem aPk (l:List MbG) (hn:l.length<=1000):PureK Tryz.prog 50 [wH l] (· =.tup [if fJ l=0 then (lL l).sv else bFv,.i (fJ l)]):=by
 obtain⟨e,he⟩:∃e,fJ l=e:=⟨_,rfl⟩;rw[he];refine nE aD Tryz.func50 rfl κ ν rfl rfl ?_;simp[go_sem];by_cases h1:256<l.length
 ·have h1':(256:Int)<l.length:=ω;have e4:e=4:=by rw[<- he,fJ,if_pos h1]
  subst e4;simp[go_sem,h1,h1']
 have h1':¬(256:Int)<l.length:=ω;simp[go_sem,h1,h1'];refine aA (xK l ω 107 (λa=>!okN a.id) aUx) rfl rfl ?_
 cases h2:l.any λa=>!okN a.id
 rotate_left
 ·have e4:e=2:=by rw[<- he,fJ,if_neg h1,if_pos h2]
  subst e4;simp[go_sem]
 simp[go_sem];refine aA (xK l ω 109 (λa=>!a.x.ok) aUy) rfl rfl ?_
 cases h3:l.any λa=>!a.x.ok
 rotate_left
 ·have e4:e=30:=by rw[<- he,fJ,if_neg h1,if_neg (by rw[h2];simp),if_pos h3]
  subst e4;simp[go_sem]
 simp[go_sem];refine fT (bFx l hn) (λh=>h) rfl rfl ?_;have hl:=(dA l).2.1;obtain⟨x,hx⟩:∃x,lL l=x:=⟨_,rfl⟩;have hms:x.ms=cD l:=by rw[<- hx];rfl
 have he2:e=if aFe x.ms then 41 else 0:=by rw[<- he,fJ,if_neg h1,if_neg (by rw[h2];simp),if_neg (by rw[h3];simp),hms]
 rw[hx];rw[<- hms] at hl;simp[go_sem,IxG.sv];refine aH aD (α:=Nat) (λk=>[(2,.ptr 0 0 9 0),(3,.i 0),(4,.ptr 1 0 9 0),(5,.i ((k:Int)+1))])
  (λk=>[some (.box [aP,aP,aP,aP,aP,aP,aP,aP,aP]),some (.box [wH x.ms,cP (x.ch 0),cP (x.ch 1),cP (x.ch 2),cP (x.ch 3),cP (x.ch 4),cP (x.ch 5),cP (x.ch 6),cP (x.ch 7)])]) 2
  (λk=>k<=x.ms.length/\∀j,j<k->∀(h1:j+1<x.ms.length),¬x.ms[j+1].id=x.ms[j].id) (λk=>x.ms.length - k) 0 (λ_=>rfl) τ ζ ζ ?_
 intro k J hk;by_cases hlt:k+1<x.ms.length
 ·have hlt':(k:Int)+1<x.ms.length:=ω;have r0:=mrow hlt 0;have q0:=mrow (ω:k<x.ms.length) 0;simp[go_sem,hlt,hlt'];refine aE aD κ κ ?_;simp[go_sem,hlt,hlt',r0,q0];refine⟨ω,ω,ω,?_⟩;by_cases heq:x.ms[k+1].id=x.ms[k].id
  ·rw[if_pos heq];have e4:e=41:=by
    rw[he2,if_pos];refine List.any_eq_true.2 ⟨k+1,List.mem_range.2 hlt,?_⟩;rw[getElem!_pos x.ms (k+1) hlt,getElem!_pos x.ms (k+1 - 1) ω];simpa using heq
   rw[e4];simp
  ·rw[if_neg heq];refine⟨ω,k+1,⟨ω,λj hj h1=>?_⟩,ω,ω⟩;by_cases e:j=k
   ·subst e;exact heq
   ·exact hk.2 j ω h1
 ·have hlt':¬(k:Int)+1<x.ms.length:=ω;have e0:e=0:=by
   rw[he2,if_neg];intro hd;obtain⟨i,hi,hq⟩:=List.any_eq_true.1 hd;have hi:=List.mem_range.1 hi;simp only [Bool.and_eq_true,decide_eq_true_eq] at hq;obtain⟨h1,h2⟩:=hq;obtain⟨i,rfl⟩:∃i',i=i'+1:=⟨i - 1,ω⟩;rw[getElem!_pos x.ms (i+1) hi,getElem!_pos x.ms (i+1 - 1) ω] at h2;exact hk.2 i ω hi (by simpa using h2)
  subst e0;simp[go_sem,hlt,hlt']
theorem aJ5 (l:List MbG) (hn:l.length<=1000):PureK Tryz.prog 50 [wH l] (· =.tup [(tY l).sv,.i (fJ l)]):=by
 refine aF9 (aPk l hn) (aR1 ⟨?_,SV.le.rfl,trivial⟩);unfold tY;split
 ·exact SV.le.rfl
 ·exact aSd
structure IxG.Sm (x:IxG):Prop where
 ms:x.ms.length<=1000
 ch:∀j,j<8->(x.ch j).length<=1000000/\∀p∈x.ch j,p.ids.length<=1000000
def eV (x:IxG):Bool:=decide (fJ x.ms=0)&&decide (x.ms=(lL x.ms).ms)&&(List.range 8).all λj=>decide (x.ch j=(lL x.ms).ch j)
def oH (x:IxG):Int:=if eV x then 0 else 40
theorem aJ9 (x:IxG) (h:x.Sm):PureK Tryz.prog 111 [x.sv] (· =.i (oH x)):=by
 refine nE aD Tryz.func111 rfl κ ν rfl rfl ?_;obtain⟨e,he⟩:∃e,oH x=e:=⟨_,rfl⟩;rw[he];simp[go_sem,IxG.sv];refine fT (aJ5 x.ms h.ms) (λh=>h) rfl rfl ?_;obtain⟨y,hy⟩:∃y,tY x.ms=y:=⟨_,rfl⟩;obtain⟨f,hf⟩:∃f,fJ x.ms=f:=⟨_,rfl⟩;rw[hy,hf];simp[go_sem,IxG.sv];by_cases h0:f=0;rotate_left
 ·have e4:e=40:=by rw[<- he,oH,eV,hf];simp[h0]
  subst e4;simp[go_sem,h0]
 subst h0;have hyo:y=lL x.ms:=by rw[<- hy,tY,if_pos hf]
 simp[go_sem];refine aA (aVj x.ms y.ms (by have:=h.ms;omega)) rfl rfl ?_;by_cases h1:x.ms=y.ms;rotate_left
 ·have e4:e=40:=by rw[<- he,oH,eV,<- hyo];simp[h1]
  subst e4;simp[go_sem,h1]
 have he2:e=if (List.range 8).all λj=>decide (x.ch j=y.ch j) then 0 else 40:=by rw[<- he,oH,eV,hf,<- hyo];simp[h1]
 simp[go_sem,h1];have hbad:∀j,j<8->¬x.ch j=y.ch j->e=40:=λj hj hne=>by
  rw[he2,if_neg];intro h;exact hne (by simpa using List.all_eq_true.1 h j (List.mem_range.2 hj))
 refine aH aD (α:=Nat) (λk=>[(1,.ptr 0 0 9 0),(2,.i 0),(3,.ptr 1 0 9 0),(22,.i k)])
  (λk=>[some (.box [wH y.ms,cP (x.ch 0),cP (x.ch 1),cP (x.ch 2),cP (x.ch 3),cP (x.ch 4),cP (x.ch 5),cP (x.ch 6),cP (x.ch 7)]),some (.box [wH y.ms,cP (y.ch 0),cP (y.ch 1),cP (y.ch 2),cP (y.ch 3),cP (y.ch 4),cP (y.ch 5),cP (y.ch 6),cP (y.ch 7)])]) 2
  (λk=>k<=8/\∀j,j<k->x.ch j=y.ch j) (λk=>8 - k) 0 (λ_=>rfl) τ ζ (by simp[go_sem,h1]) ?_
 intro k J hk;rcases(show k=0\/k=1\/k=2\/k=3\/k=4\/k=5\/k=6\/k=7\/k=8 by omega) with rfl | rfl | rfl | rfl | rfl | rfl | rfl | rfl | rfl
 ·simp[go_sem];refine aM (t:=(.take 0 (.take 1 (.take 2 (.take 3 (.take 4 (.take 5 (.take 6 (.take 7 (.alt 8 [7,6,5,4,3,2,1,0] (.take 9 (.done [9,6,5,4,2,1,0])) .nil)))))))))) aD κ κ κ (λ_ _ _ _ h=>h) ?_;simp[go_sem];refine aA (kV (x.ch 0) (y.ch 0) (by have:=(h.ch 0 ω).1;omega) λp hp=>by have:=(h.ch 0 ω).2 p hp;omega) rfl rfl ?_;by_cases hc:x.ch 0=y.ch 0
  ·simp[go_sem,hc];refine⟨1,⟨ω,λj hj=>?_⟩,ω,ω⟩;by_cases e:j=0
   ·subst e;exact hc
   ·exact hk.2 j ω
  ·have e4:=hbad 0 ω hc;subst e4;simp[go_sem,hc]
 ·simp[go_sem];refine aM (t:=(.take 0 (.take 1 (.take 2 (.take 3 (.take 4 (.take 5 (.take 6 (.take 7 (.alt 8 [7,6,5,4,3,2,1,0] (.take 9 (.done [9,6,5,4,2,1,0])) .nil)))))))))) aD κ κ κ (λ_ _ _ _ h=>h) ?_;simp[go_sem];refine aA (kV (x.ch 1) (y.ch 1) (by have:=(h.ch 1 ω).1;omega) λp hp=>by have:=(h.ch 1 ω).2 p hp;omega) rfl rfl ?_;by_cases hc:x.ch 1=y.ch 1
  ·simp[go_sem,hc];refine⟨2,⟨ω,λj hj=>?_⟩,ω,ω⟩;by_cases e:j=1
   ·subst e;exact hc
   ·exact hk.2 j ω
  ·have e4:=hbad 1 ω hc;subst e4;simp[go_sem,hc]
 ·simp[go_sem];refine aM (t:=(.take 0 (.take 1 (.take 2 (.take 3 (.take 4 (.take 5 (.take 6 (.take 7 (.alt 8 [7,6,5,4,3,2,1,0] (.take 9 (.done [9,6,5,4,2,1,0])) .nil)))))))))) aD κ κ κ (λ_ _ _ _ h=>h) ?_;simp[go_sem];refine aA (kV (x.ch 2) (y.ch 2) (by have:=(h.ch 2 ω).1;omega) λp hp=>by have:=(h.ch 2 ω).2 p hp;omega) rfl rfl ?_;by_cases hc:x.ch 2=y.ch 2
  ·simp[go_sem,hc];refine⟨3,⟨ω,λj hj=>?_⟩,ω,ω⟩;by_cases e:j=2
   ·subst e;exact hc
   ·exact hk.2 j ω
  ·have e4:=hbad 2 ω hc;subst e4;simp[go_sem,hc]
 ·simp[go_sem];refine aM (t:=(.take 0 (.take 1 (.take 2 (.take 3 (.take 4 (.take 5 (.take 6 (.take 7 (.alt 8 [7,6,5,4,3,2,1,0] (.take 9 (.done [9,6,5,4,2,1,0])) .nil)))))))))) aD κ κ κ (λ_ _ _ _ h=>h) ?_;simp[go_sem];refine aA (kV (x.ch 3) (y.ch 3) (by have:=(h.ch 3 ω).1;omega) λp hp=>by have:=(h.ch 3 ω).2 p hp;omega) rfl rfl ?_;by_cases hc:x.ch 3=y.ch 3
  ·simp[go_sem,hc];refine⟨4,⟨ω,λj hj=>?_⟩,ω,ω⟩;by_cases e:j=3
   ·subst e;exact hc
   ·exact hk.2 j ω
  ·have e4:=hbad 3 ω hc;subst e4;simp[go_sem,hc]
 ·simp[go_sem];refine aM (t:=(.take 0 (.take 1 (.take 2 (.take 3 (.take 4 (.take 5 (.take 6 (.take 7 (.alt 8 [7,6,5,4,3,2,1,0] (.take 9 (.done [9,6,5,4,2,1,0])) .nil)))))))))) aD κ κ κ (λ_ _ _ _ h=>h) ?_;simp[go_sem];refine aA (kV (x.ch 4) (y.ch 4) (by have:=(h.ch 4 ω).1;omega) λp hp=>by have:=(h.ch 4 ω).2 p hp;omega) rfl rfl ?_;by_cases hc:x.ch 4=y.ch 4
  ·simp[go_sem,hc];refine⟨5,⟨ω,λj hj=>?_⟩,ω,ω⟩;by_cases e:j=4
   ·subst e;exact hc
   ·exact hk.2 j ω
  ·have e4:=hbad 4 ω hc;subst e4;simp[go_sem,hc]
 ·simp[go_sem];refine aM (t:=(.take 0 (.take 1 (.take 2 (.take 3 (.take 4 (.take 5 (.take 6 (.take 7 (.alt 8 [7,6,5,4,3,2,1,0] (.take 9 (.done [9,6,5,4,2,1,0])) .nil)))))))))) aD κ κ κ (λ_ _ _ _ h=>h) ?_;simp[go_sem];refine aA (kV (x.ch 5) (y.ch 5) (by have:=(h.ch 5 ω).1;omega) λp hp=>by have:=(h.ch 5 ω).2 p hp;omega) rfl rfl ?_;by_cases hc:x.ch 5=y.ch 5
  ·simp[go_sem,hc];refine⟨6,⟨ω,λj hj=>?_⟩,ω,ω⟩;by_cases e:j=5
   ·subst e;exact hc
   ·exact hk.2 j ω
  ·have e4:=hbad 5 ω hc;subst e4;simp[go_sem,hc]
 ·simp[go_sem];refine aM (t:=(.take 0 (.take 1 (.take 2 (.take 3 (.take 4 (.take 5 (.take 6 (.take 7 (.alt 8 [7,6,5,4,3,2,1,0] (.take 9 (.done [9,6,5,4,2,1,0])) .nil)))))))))) aD κ κ κ (λ_ _ _ _ h=>h) ?_;simp[go_sem];refine aA (kV (x.ch 6) (y.ch 6) (by have:=(h.ch 6 ω).1;omega) λp hp=>by have:=(h.ch 6 ω).2 p hp;omega) rfl rfl ?_;by_cases hc:x.ch 6=y.ch 6
  ·simp[go_sem,hc];refine⟨7,⟨ω,λj hj=>?_⟩,ω,ω⟩;by_cases e:j=6
   ·subst e;exact hc
   ·exact hk.2 j ω
  ·have e4:=hbad 6 ω hc;subst e4;simp[go_sem,hc]
 ·simp[go_sem];refine aM (t:=(.take 0 (.take 1 (.take 2 (.take 3 (.take 4 (.take 5 (.take 6 (.take 7 (.alt 8 [7,6,5,4,3,2,1,0] (.take 9 (.done [9,6,5,4,2,1,0])) .nil)))))))))) aD κ κ κ (λ_ _ _ _ h=>h) ?_;simp[go_sem];refine aA (kV (x.ch 7) (y.ch 7) (by have:=(h.ch 7 ω).1;omega) λp hp=>by have:=(h.ch 7 ω).2 p hp;omega) rfl rfl ?_;by_cases hc:x.ch 7=y.ch 7
  ·simp[go_sem,hc];refine⟨8,⟨ω,λj hj=>?_⟩,ω,ω⟩;by_cases e:j=7
   ·subst e;exact hc
   ·exact hk.2 j ω
  ·have e4:=hbad 7 ω hc;subst e4;simp[go_sem,hc]
 ·have e0:e=0:=by
   rw[he2,if_pos];exact List.all_eq_true.2 λj hj=>by simpa using hk.2 j (List.mem_range.1 hj)
  subst e0;simp[go_sem]
def plc (l:List MbG) (t:Int):Nat:=dF (λi=>bU (l[i]!).id t) l.length
def isM (l:List MbG) (t:Int):Bool:=dP (λi=>bU (l[i]!).id t) l.length
theorem aW3 (l:List MbG) (hn:l.length<=1000000) (hs:l.Pairwise λa b=>a.id<=b.id) (t:Int):Pure Tryz.prog 117 [wH l,.i t] (· =.tup [.i (plc l t:Nat),.b (isM l t)]):=by
 refine π Tryz.func117 ?_;simp[go_sem];refine aA (aTc l ω t (λa b hab hb h ha=>?_) (λi=>bU (l[i]!).id t) λi hi=>by rw[getElem!_pos l i hi]) rfl rfl ?_
 ·have:=List.pairwise_iff_getElem.1 hs a b ha hb hab;omega
 simp[go_sem,plc,isM]
theorem aA0 {x:IxG} (h:eV x=true):x.ms.Pairwise λa b=>a.id<=b.id:=by
 simp only [eV,Bool.and_eq_true,decide_eq_true_eq] at h;rw[h.1.2];rw[List.pairwise_iff_getElem];intro i j hi hj hij;exact(dA x.ms).2.2 i j hij hj hi
theorem aHj {l:List MbG} (h:fJ l=0):l.length<=256:=by
 unfold fJ at h;by_cases h1:256<l.length
 ·rw[if_pos h1] at h;cases h
 ·omega
theorem aJl {x:IxG} (h:eV x=true):x.ms.length<=256:=by
 simp only [eV,Bool.and_eq_true,decide_eq_true_eq] at h;exact aHj h.1.1
end Go.Gx.Ix
namespace Go.Gx.Ix
open Go.RowKit Go.WideShapes Go.ChangeShapes Go.Proofs Go.Proofs.YtncccnmmjfapnaaGreat
abbrev xM:CS:=.sc (.int .u64)
section
variable {W:World}
def v64 (v:Value):BitVec 64:=BitVec.ofInt 64 (vi v)
theorem rel_v64 {Z:Nat->Prop} {v:Value} (h:fI W xM v):(RV.w (v64 v)).rel Z W v:=by
 obtain⟨n,rfl,hw⟩:=h;show Value.int .u64 n=.int .u64 _;simp[Lit.wf,IntKind.min,IntKind.max,IntKind.bits,IntKind.signed] at hw;have:((v64 (.int .u64 n)).toNat:Int)=n:=by
  have h2:n % 18446744073709551616=n:=ω;unfold v64 vi;rw[BitVec.toNat_ofInt];show((n % 18446744073709551616).toNat:Int)=n;rw[h2];omega
 rw[this]
end
theorem own_:ownKnob Tryz.prog.godebug=none:=κ
theorem laidOut_:laidOutB Tryz.prog=true:=κ
end Go.Gx.Ix
namespace Go.Proofs.YtncccnmmjfapnaaGreat
open Go.ChangeShapes Go.WideShapes Go.ChangeAt Go.RowKit Go.Gx Go.Gx.Ix
theorem Shared.laid:laidOutB Tryz.pinned.checked.prog=true:=Ix.laidOut_
theorem Shared.mrow:mapsRowed Tryz.pinned.checked.prog=true:=κ
theorem Shared.stops:(Tryz.pinned.checked.prog.stops==[])=true:=κ
theorem Shared.knobs:(Tryz.pinned.checked.prog.stopKnobs==[])=true:=κ
theorem Shared.heard:Tryz.pinned.checked.prog.stopsHeard=true:=κ
theorem Shared.may:Tryz.pinned.checked.prog.mayEnter=true:=κ
theorem Shared.plain:Tryz.pinned.checked.prog.plainKeys=Rows.serviceKeepsRow.plainKeys:=κ
theorem Shared.lift:Tryz.pinned.checked.prog.liftsFinal=Rows.serviceKeepsRow.lifted:=κ
theorem Shared.make:Tryz.pinned.checked.prog.make=some Rows.serviceKeepsRow.make:=κ
end Go.Proofs.YtncccnmmjfapnaaGreat
namespace Go.Gx.Ix
open Go.RowKit
def nV (x y:BitVec 64):BitVec 64:=BitVec.ofInt 64 (x.toInt*y.toInt)
theorem aSa (x y:BitVec 64):nV x y=x*y:=by rw[nV,BitVec.ofInt_mul,BitVec.ofInt_toInt,BitVec.ofInt_toInt]
@[go_sem high]theorem aKx (z:BitVec 64):BitVec.ofInt 64 (z.toNat:Int)=z:=τ
theorem aQ7 (a b:Int):mM .mul (.r (.v (.int .u64 a))) (.r (.v (.int .u64 b)))=.pure True (.w (nV (BitVec.ofInt 64 a) (BitVec.ofInt 64 b))):=by
 show GR.pure _ (.r (.v (.int .u64 (if IntKind.u64=IntKind.u64 then IntKind.u64.wrap (a*b) else a*b))))=_;rw[if_pos rfl];have e:IntKind.u64.wrap (a*b)=((nV (BitVec.ofInt 64 a) (BitVec.ofInt 64 b)).toNat:Int):=by
  have h:nV (BitVec.ofInt 64 a) (BitVec.ofInt 64 b)=BitVec.ofInt 64 (a*b):=by rw[aSa,BitVec.ofInt_mul]
  rw[h,BitVec.toNat_ofInt];simp only [IntKind.wrap,IntKind.bits,IntKind.signed];simp;omega
 rw[e];simp
section
variable {P:Program} {T:Tab} {N:cZ} {t t2:TypeId} {ox oy:Operand} {d:Option Tmp} {ty:TypeId} {pos:String} {af:Array Edge} {all:Array Oper} {rest:List Oper} {k:List It} {Q:GQ} {E:Env} {M:Mem} {nx:Nat}
@[go_sem]theorem bCc (a b:Int):GBn P T N .mul t t2 ox oy (.r (.v (.int .u64 a))) (.r (.v (.int .u64 b))) d ty pos af all rest k Q E M nx=GO P T N all rest k Q (aK E d (.w (nV (BitVec.ofInt 64 a) (BitVec.ofInt 64 b)))) M nx:=by rw[iR (aQ7 a b)];simp
@[go_sem]theorem bDu (kk:IntKind) (b:Int):GBn P T N .shl t t2 ox oy (.r (.v (.int .u64 1))) (.r (.v (.int kk b))) d ty pos af all rest k Q E M nx=(0<=b/\GO P T N all rest k Q (aK E d (.w (bT 1#64 b.toNat))) M nx):=aLo 1#64 kk b
end
end Go.Gx.Ix
namespace Go.Gx.Sr
open Go.RowKit Go.Proofs Go.Proofs.YtncccnmmjfapnaaGreat Go.Gx.Ix
abbrev W64:=BitVec 64
def vS (a b:W64):W64:=bY (nV (bY (nV (bY a b) 11400714819323198485#64) (cA (nV (bY a b) 11400714819323198485#64) 29)) 13787848793156543929#64)
 (cA (nV (bY (nV (bY a b) 11400714819323198485#64) (cA (nV (bY a b) 11400714819323198485#64) 29)) 13787848793156543929#64) 32)
theorem mZ (a b:W64):Pure Tryz.prog 318 [.w a,.w b] (· =.w (vS a b)):=by
 refine π Tryz.func318 ?_;simp[go_sem];simp only [vS]
structure ChG where
 t:Int
 p:Int
 on:Bool
structure KsG where
 a:Int
 m:Int
 s:W64
 z:W64
structure EnG where
 t:Int
 k:Int
 p:Int
 d:W64
 a:W64
 s:W64
 l:W64
deriving instance DecidableEq for ChG
deriving instance DecidableEq for KsG
deriving instance DecidableEq for EnG
def ChG.f (x:ChG):Nat->RV
 | 0=>.i x.t
 | 1=>.i x.p
 | _=>.v (.bool x.on)
def KsG.f (x:KsG):Nat->RV
 | 0=>.i x.a
 | 1=>.i x.m
 | 2=>.w x.s
 | _=>.w x.z
def EnG.f (x:EnG):Nat->RV
 | 0=>.i x.t
 | 1=>.i x.k
 | 2=>.i x.p
 | 3=>.w x.d
 | 4=>.w x.a
 | 5=>.w x.s
 | _=>.w x.l
@[go_sem]theorem ChG.f0 (x:ChG):x.f 0=.i x.t:=rfl
@[go_sem]theorem ChG.f1 (x:ChG):x.f 1=.i x.p:=rfl
@[go_sem]theorem ChG.f2 (x:ChG):x.f 2=.v (.bool x.on):=rfl
@[go_sem]theorem KsG.f0 (x:KsG):x.f 0=.i x.a:=rfl
@[go_sem]theorem KsG.f1 (x:KsG):x.f 1=.i x.m:=rfl
@[go_sem]theorem KsG.f2 (x:KsG):x.f 2=.w x.s:=rfl
@[go_sem]theorem KsG.f3 (x:KsG):x.f 3=.w x.z:=rfl
@[go_sem]theorem EnG.f0 (x:EnG):x.f 0=.i x.t:=rfl
@[go_sem]theorem EnG.f1 (x:EnG):x.f 1=.i x.k:=rfl
@[go_sem]theorem EnG.f2 (x:EnG):x.f 2=.i x.p:=rfl
@[go_sem]theorem EnG.f3 (x:EnG):x.f 3=.w x.d:=rfl
@[go_sem]theorem EnG.f4 (x:EnG):x.f 4=.w x.a:=rfl
@[go_sem]theorem EnG.f5 (x:EnG):x.f 5=.w x.s:=rfl
@[go_sem]theorem EnG.f6 (x:EnG):x.f 6=.w x.l:=rfl
abbrev ChG.sv (x:ChG):SV:=.agg [.i x.t,.i x.p,.b x.on]
abbrev KsG.sv (x:KsG):SV:=.agg [.i x.a,.i x.m,.w x.s,.w x.z]
abbrev EnG.sv (x:EnG):SV:=.agg [.i x.t,.i x.k,.i x.p,.w x.d,.w x.a,.w x.s,.w x.l]
def aY {α:Type} (f:α->Nat->RV) (l:List α):Nat->Nat->RV:=λi j=>match l[i]? with | some x=>f x j | none=>.any
theorem aI {α:Type} {f:α->Nat->RV} {l:List α} {i:Nat} (h:i<l.length) (j:Nat):aY f l i j=f l[i] j:=by
 unfold aY;rw[List.getElem?_eq_getElem h]
abbrev nY (l:List ChG):SV:=.r (.rs 3 l.length (aY ChG.f l))
abbrev kss (l:List KsG):SV:=.r (.rs 4 l.length (aY KsG.f l))
abbrev qO (l:List EnG):SV:=.r (.rs 7 l.length (aY EnG.f l))
abbrev maxT:Int:=1099511627776
def qC (n:Int):Bool:=btw 0 maxT n
def psB (n:Int):Bool:=btw 0 63 n
theorem aKk (lo hi n:Int):Pure Tryz.prog 195 [.i lo,.i hi,.i n] (· =.b (btw lo hi n)):=by
 refine π Tryz.func195 ?_;by_cases h:lo<=n <;> simp[go_sem,btw,h]
theorem gX (n:Int):Pure Tryz.prog 193 [.i n] (· =.b (qC n)):=by
 refine π Tryz.func193 ?_;simp[go_sem];refine aA (aKk 0 maxT n) rfl rfl ?_;simp[go_sem,qC]
theorem yM (n:Int):Pure Tryz.prog 94 [.i n] (· =.b (psB n)):=by
 refine π Tryz.func94 ?_;simp[go_sem];refine aA (aKk 0 63 n) rfl rfl ?_;simp[go_sem,psB]
def ChG.ok (x:ChG):Bool:=qC x.t&&psB x.p
theorem aJd (x:ChG):Pure Tryz.prog 196 [x.sv] (· =.b (!x.ok)):=by
 refine π Tryz.func196 ?_;simp[go_sem];refine aA (gX x.t) rfl rfl ?_;unfold ChG.ok
 cases qC x.t
 ·simp[go_sem]
 simp[go_sem];refine aA (yM x.p) rfl rfl ?_
 cases psB x.p <;> simp[go_sem]
theorem kZ {n:Int}:qC n=true↔0<=n/\n<=maxT:=by simp[qC,btw]
theorem wK {n:Int}:psB n=true↔0<=n/\n<=63:=by simp[psB,btw]
theorem aSl (x y:ChG) (hx:qC x.t=true) (hy:qC y.t=true):Pure Tryz.prog 197 [x.sv,y.sv] (· =.i (x.t - y.t)):=by
 refine π Tryz.func197 ?_;have h1:=kZ.1 hx;have h2:=kZ.1 hy;simp only [maxT] at h1 h2;simp[go_sem];omega
def aW5 (s:W64) (c:ChG):W64:=if c.on then iV (cR s (bT 1#64 c.p.toNat)) (bT 1#64 c.p.toNat) else cR s (bT 1#64 c.p.toNat)
def bwL (l:List ChG) (lo hi:Int):List ChG:=(l.takeWhile λc=>decide (c.t<=hi)).filter λc=>decide (lo<c.t)
def zL (s:W64) (p:Int):Int:=if bJ s (bT 1#64 p.toNat)=0#64 then 1 else 2
theorem bBo (s:W64) (p:Int) (hp:0<=p):Pure Tryz.prog 95 [.w s,.i p] (· =.r (.v (.int .u8 (zL s p)))):=by
 refine π Tryz.func95 ?_;by_cases h:bJ s (bT 1#64 p.toNat)=0#64 <;> simp[go_sem,zL,h,hp,kP]
def aC0 (p n a:Int):Int:=if psB p&&qC n&&qC a then (if n<a then 101 else 0) else 2
theorem aUw (p n a:Int):Pure Tryz.prog 97 [.i p,.i n,.i a] (· =.i (aC0 p n a)):=by
 refine π Tryz.func97 ?_;simp[go_sem];refine aA (yM p) rfl rfl ?_;unfold aC0
 cases psB p
 ·simp[go_sem]
 simp[go_sem];refine aA (gX n) rfl rfl ?_
 cases qC n
 ·simp[go_sem]
 simp[go_sem];refine aA (gX a) rfl rfl ?_
 cases qC a
 ·simp[go_sem]
 by_cases h:n<a <;> simp[go_sem,h]
def u64 (n:Int):W64:=BitVec.ofInt 64 n
def aYy (a m:Int) (s key:W64):W64:=vS (vS (vS key (u64 a)) s) (u64 m)
end Go.Gx.Sr
namespace Go.Gx.Rg
open Go.RowKit Go.Proofs Go.Proofs.YtncccnmmjfapnaaGreat
theorem aFt (x:Int):Pure Tryz.prog 310 [.i x] (· =.b false):=by
 refine π Tryz.func310 ?_;simp[go_sem]
def bU (x y:Int):Int:=if x<y then -1 else if y<x then 1 else 0
theorem lP (x y:Int):Pure Tryz.prog 213 [.i x,.i y] (· =.i (bU x y)):=by
 refine π Tryz.func213 ?_;simp[go_sem];refine aA (aFt x) rfl rfl ?_;simp[go_sem];refine aA (aFt y) rfl rfl ?_;simp[go_sem,bU];split
 ·intro h;omega
 ·split <;> rfl
theorem aVu (n lo hi:Int) (g g':Nat->Nat->RV) (h:g 0 0=.i lo) (h':g' 0 0=.i hi):Pure Tryz.prog 214 [.i n,.r (.rp 1 1 g 0 0),.r (.rp 1 1 g' 0 0)] (· =.b (decide (n<lo)||decide (hi<n))):=by
 refine π Tryz.func214 ?_;simp[go_sem,h,h'];split
 ·intro h;omega
 ·left;omega
def idx (p:Nat->Bool) (n:Nat):Int:=match (List.range n).find? p with | some i=>i | none=>-1
theorem idx_found {p:Nat->Bool} {n i:Nat} (h:i<n) (hp:p i=true) (hj:∀j,j<i->p j=false):idx p n=i:=by
 have:(List.range n).find? p=some i:=List.find?_range_eq_some.2 ⟨hp,List.mem_range.2 h,λj hj'=>by simp[hj j hj']⟩;simp[idx,this]
theorem idx_none {p:Nat->Bool} {n:Nat} (hj:∀j,j<n->p j=false):idx p n=-1:=by
 have:(List.range n).find? p=none:=List.find?_eq_none.2 λj hj'=>by simp[hj j (List.mem_range.1 hj')]
 simp[idx,this]
theorem idx_any {p:Nat->Bool} {n:Nat}:decide (0<=idx p n)=(List.range n).any p:=by
 unfold idx
 cases h:(List.range n).find? p with
 | none=>
   have:=List.find?_eq_none.1 h;simp;intro x hx;simpa using this x (List.mem_range.2 hx)
 | some i=>
   have:=List.find?_range_eq_some.1 h;simp;exact⟨i,List.mem_range.1 this.2.1,this.1⟩
theorem bAq (n:Nat) (hn:(n:Int)<2 ^ 63) (get:Nat->Nat->RV) (g:FuncId) (ca:List SV) (p:Nat->Bool) (hca:SV.closedL ca=true) (hp:∀i,i<n->Pure Tryz.prog g (.r (get i 0)::ca) (· =.b (p i))) :
 Pure Tryz.prog 263 [.r (.rs 1 n get),.fn (.func g) [] ca] (· =.i (idx p n)):=by
 refine π Tryz.func263 ?_;simp[go_sem];refine aH aD (α:=Nat) (λi=>[(0,.r (.rs 1 n get)),(1,.fn (.func g) [] ca),(7,.i n),(8,.i i)]) (λ_=>[]) 0 (λi=>i<=n/\∀j,j<i->p j=false) (λi=>n - i) 0 (λ_=>rfl) τ (by simp[go_sem,SV.trimL_closed 0 ca hca]) ζ ?_;intro i J hi;simp[go_sem];split
 ·rename_i hlt;refine⟨hlt,?_⟩;refine aA (hp i hlt) (by simp[SV.closedL,SV.closed,hca]) rfl ?_;simp[go_sem];split
  ·rename_i hpi;rw[idx_found hlt hpi hi.2]
  ·rename_i hpi;refine⟨ω,i+1,⟨ω,λj hj=>?_⟩,ω,?_⟩
   ·by_cases hji:j=i
    ·subst hji;simpa using hpi
    ·exact hi.2 j ω
   ·simp[SV.trimL_closed 0 ca hca]
 ·rename_i hlt;rw[idx_none λj hj=>hi.2 j ω]
theorem bAk (n:Nat) (hn:(n:Int)<2 ^ 63) (get:Nat->Nat->RV) (g:FuncId) (ca:List SV) (p:Nat->Bool) (hca:SV.closedL ca=true) (hp:∀i,i<n->Pure Tryz.prog g (.r (get i 0)::ca) (· =.b (p i))) :
 Pure Tryz.prog 149 [.r (.rs 1 n get),.fn (.func g) [] ca] (· =.b ((List.range n).any p)):=by
 refine π Tryz.func149 ?_;simp[go_sem];refine aA (bAq n hn get g ca p hca hp) (by simp[SV.closedL,SV.closed,hca]) rfl ?_;simp[go_sem];exact idx_any
theorem bAp (n:Nat) (hn:(n:Int)<2 ^ 63) (get:Nat->Nat->RV) (g:FuncId) (ca:List SV) (p:Nat->Bool) (hca:SV.closedL ca=true) (hp:∀i,i<n->Pure Tryz.prog g (.agg [.r (get i 0),.r (get i 1),.r (get i 2),.r (get i 3),.r (get i 4),.r (get i 5),.r (get i 6),.r (get i 7)]::ca) (· =.b (p i))) :
 Pure Tryz.prog 402 [.r (.rs 8 n get),.fn (.func g) [] ca] (· =.i (idx p n)):=by
 refine π Tryz.func402 ?_;simp[go_sem];refine aH aD (α:=Nat) (λi=>[(0,.r (.rs 8 n get)),(1,.fn (.func g) [] ca),(7,.i n),(8,.i i)]) (λ_=>[]) 0 (λi=>i<=n/\∀j,j<i->p j=false) (λi=>n - i) 0 (λ_=>rfl) τ (by simp[go_sem,SV.trimL_closed 0 ca hca]) ζ ?_;intro i J hi;simp[go_sem];split
 ·rename_i hlt;refine⟨hlt,?_⟩;refine aA (hp i hlt) (by simp[SV.closedL,SV.closed,hca]) rfl ?_;simp[go_sem];split
  ·rename_i hpi;rw[idx_found hlt hpi hi.2]
  ·rename_i hpi;refine⟨ω,i+1,⟨ω,λj hj=>?_⟩,ω,?_⟩
   ·by_cases hji:j=i
    ·subst hji;simpa using hpi
    ·exact hi.2 j ω
   ·simp[SV.trimL_closed 0 ca hca]
 ·rename_i hlt;rw[idx_none λj hj=>hi.2 j ω]
theorem bAl (n:Nat) (hn:(n:Int)<2 ^ 63) (get:Nat->Nat->RV) (g:FuncId) (ca:List SV) (p:Nat->Bool) (hca:SV.closedL ca=true) (hp:∀i,i<n->Pure Tryz.prog g (.agg [.r (get i 0),.r (get i 1),.r (get i 2),.r (get i 3),.r (get i 4),.r (get i 5),.r (get i 6),.r (get i 7)]::ca) (· =.b (p i))) :
 Pure Tryz.prog 319 [.r (.rs 8 n get),.fn (.func g) [] ca] (· =.b ((List.range n).any p)):=by
 refine π Tryz.func319 ?_;simp[go_sem];refine aA (bAp n hn get g ca p hca hp) (by simp[SV.closedL,SV.closed,hca]) rfl ?_;simp[go_sem];exact idx_any
theorem aRj (n:Nat) (hn:(n:Int)<2 ^ 63) (get:Nat->Nat->RV) (g:FuncId) (ca:List SV) (p:Nat->Bool) (hca:SV.closedL ca=true) (hp:∀i,i<n->Pure Tryz.prog g (.agg [.r (get i 0),.r (get i 1),.r (get i 2)]::ca) (· =.b (p i))) :
 Pure Tryz.prog 237 [.r (.rs 3 n get),.fn (.func g) [] ca] (· =.i (idx p n)):=by
 refine π Tryz.func237 ?_;simp[go_sem];refine aH aD (α:=Nat) (λi=>[(0,.r (.rs 3 n get)),(1,.fn (.func g) [] ca),(7,.i n),(8,.i i)]) (λ_=>[]) 0 (λi=>i<=n/\∀j,j<i->p j=false) (λi=>n - i) 0 (λ_=>rfl) τ (by simp[go_sem,SV.trimL_closed 0 ca hca]) ζ ?_;intro i J hi;simp[go_sem];split
 ·rename_i hlt;refine⟨hlt,?_⟩;refine aA (hp i hlt) (by simp[SV.closedL,SV.closed,hca]) rfl ?_;simp[go_sem];split
  ·rename_i hpi;rw[idx_found hlt hpi hi.2]
  ·rename_i hpi;refine⟨ω,i+1,⟨ω,λj hj=>?_⟩,ω,?_⟩
   ·by_cases hji:j=i
    ·subst hji;simpa using hpi
    ·exact hi.2 j ω
   ·simp[SV.trimL_closed 0 ca hca]
 ·rename_i hlt;rw[idx_none λj hj=>hi.2 j ω]
theorem has120 (n:Nat) (hn:(n:Int)<2 ^ 63) (get:Nat->Nat->RV) (g:FuncId) (ca:List SV) (p:Nat->Bool) (hca:SV.closedL ca=true) (hp:∀i,i<n->Pure Tryz.prog g (.agg [.r (get i 0),.r (get i 1),.r (get i 2)]::ca) (· =.b (p i))) :
 Pure Tryz.prog 267 [.r (.rs 3 n get),.fn (.func g) [] ca] (· =.b ((List.range n).any p)):=by
 refine π Tryz.func267 ?_;simp[go_sem];refine aA (aRj n hn get g ca p hca hp) (by simp[SV.closedL,SV.closed,hca]) rfl ?_;simp[go_sem];exact idx_any
theorem aRk (n:Nat) (hn:(n:Int)<2 ^ 63) (get:Nat->Nat->RV) (g:FuncId) (ca:List SV) (p:Nat->Bool) (hca:SV.closedL ca=true) (hp:∀i,i<n->Pure Tryz.prog g (.agg [.r (get i 0),.r (get i 1),.r (get i 2),.r (get i 3)]::ca) (· =.b (p i))) :
 Pure Tryz.prog 238 [.r (.rs 4 n get),.fn (.func g) [] ca] (· =.i (idx p n)):=by
 refine π Tryz.func238 ?_;simp[go_sem];refine aH aD (α:=Nat) (λi=>[(0,.r (.rs 4 n get)),(1,.fn (.func g) [] ca),(7,.i n),(8,.i i)]) (λ_=>[]) 0 (λi=>i<=n/\∀j,j<i->p j=false) (λi=>n - i) 0 (λ_=>rfl) τ (by simp[go_sem,SV.trimL_closed 0 ca hca]) ζ ?_;intro i J hi;simp[go_sem];split
 ·rename_i hlt;refine⟨hlt,?_⟩;refine aA (hp i hlt) (by simp[SV.closedL,SV.closed,hca]) rfl ?_;simp[go_sem];split
  ·rename_i hpi;rw[idx_found hlt hpi hi.2]
  ·rename_i hpi;refine⟨ω,i+1,⟨ω,λj hj=>?_⟩,ω,?_⟩
   ·by_cases hji:j=i
    ·subst hji;simpa using hpi
    ·exact hi.2 j ω
   ·simp[SV.trimL_closed 0 ca hca]
 ·rename_i hlt;rw[idx_none λj hj=>hi.2 j ω]
theorem has122 (n:Nat) (hn:(n:Int)<2 ^ 63) (get:Nat->Nat->RV) (g:FuncId) (ca:List SV) (p:Nat->Bool) (hca:SV.closedL ca=true) (hp:∀i,i<n->Pure Tryz.prog g (.agg [.r (get i 0),.r (get i 1),.r (get i 2),.r (get i 3)]::ca) (· =.b (p i))) :
 Pure Tryz.prog 269 [.r (.rs 4 n get),.fn (.func g) [] ca] (· =.b ((List.range n).any p)):=by
 refine π Tryz.func269 ?_;simp[go_sem];refine aA (aRk n hn get g ca p hca hp) (by simp[SV.closedL,SV.closed,hca]) rfl ?_;simp[go_sem];exact idx_any
theorem aRl (n:Nat) (hn:(n:Int)<2 ^ 63) (get:Nat->Nat->RV) (g:FuncId) (ca:List SV) (p:Nat->Bool) (hca:SV.closedL ca=true) (hp:∀i,i<n->Pure Tryz.prog g (.agg [.r (get i 0),.r (get i 1),.r (get i 2),.r (get i 3),.r (get i 4)]::ca) (· =.b (p i))) :
 Pure Tryz.prog 239 [.r (.rs 5 n get),.fn (.func g) [] ca] (· =.i (idx p n)):=by
 refine π Tryz.func239 ?_;simp[go_sem];refine aH aD (α:=Nat) (λi=>[(0,.r (.rs 5 n get)),(1,.fn (.func g) [] ca),(7,.i n),(8,.i i)]) (λ_=>[]) 0 (λi=>i<=n/\∀j,j<i->p j=false) (λi=>n - i) 0 (λ_=>rfl) τ (by simp[go_sem,SV.trimL_closed 0 ca hca]) ζ ?_;intro i J hi;simp[go_sem];split
 ·rename_i hlt;refine⟨hlt,?_⟩;refine aA (hp i hlt) (by simp[SV.closedL,SV.closed,hca]) rfl ?_;simp[go_sem];split
  ·rename_i hpi;rw[idx_found hlt hpi hi.2]
  ·rename_i hpi;refine⟨ω,i+1,⟨ω,λj hj=>?_⟩,ω,?_⟩
   ·by_cases hji:j=i
    ·subst hji;simpa using hpi
    ·exact hi.2 j ω
   ·simp[SV.trimL_closed 0 ca hca]
 ·rename_i hlt;rw[idx_none λj hj=>hi.2 j ω]
theorem has124 (n:Nat) (hn:(n:Int)<2 ^ 63) (get:Nat->Nat->RV) (g:FuncId) (ca:List SV) (p:Nat->Bool) (hca:SV.closedL ca=true) (hp:∀i,i<n->Pure Tryz.prog g (.agg [.r (get i 0),.r (get i 1),.r (get i 2),.r (get i 3),.r (get i 4)]::ca) (· =.b (p i))) :
 Pure Tryz.prog 271 [.r (.rs 5 n get),.fn (.func g) [] ca] (· =.b ((List.range n).any p)):=by
 refine π Tryz.func271 ?_;simp[go_sem];refine aA (aRl n hn get g ca p hca hp) (by simp[SV.closedL,SV.closed,hca]) rfl ?_;simp[go_sem];exact idx_any
theorem uB (lo hi:Int) (n:Nat) (hn:(n:Int)<2 ^ 63) (x:Nat->Int) :
 Pure Tryz.prog 105 [.i lo,.i hi,.r (.rs 1 n λi _=>.i (x i))] (· =.b ((List.range n).all λi=>decide (lo<=x i)&&decide (x i<=hi))):=by
 refine π Tryz.func105 ?_;simp[go_sem];refine aG (v:=.b ((List.range n).any λi=>decide (x i<lo)||decide (hi<x i))) ?_ rfl ?_
 ·simp[go_sem];refine bAk n hn _ (214:FuncId) _ _ rfl λi hi'=>?_;exact aVu (x i) lo hi _ _ rfl rfl
 ·simp[go_sem];rw[List.not_all_eq_any_not]
  congr 1;funext i
  by_cases h1:lo<=x i <;> by_cases h2:x i<=hi <;> simp[h1,h2] <;> omega
theorem aKo (n:Nat) (hn:(n:Int)<2 ^ 63) (x:Nat->Int) :
 Pure Tryz.prog 321 [.r (.rs 1 n λi _=>.i (x i))] (· =.b ((List.range n).all λi=>decide (0<=x i)&&decide (x i<=7))):=by
 refine π Tryz.func321 ?_;simp[go_sem];refine aA (uB 0 7 n hn x) rfl rfl ?_;simp[go_sem]
theorem aLd (n:Nat) (hn:(n:Int)<2 ^ 63) (x:Nat->Int) :
 Pure Tryz.prog 322 [.r (.rs 1 n λi _=>.i (x i))] (· =.b ((List.range n).all λi=>decide (0<=x i)&&decide (x i<=1099511627776))):=by
 refine π Tryz.func322 ?_;simp[go_sem];refine aA (uB 0 1099511627776 n hn x) rfl rfl ?_;simp[go_sem]
theorem aSn (n:Nat) (hn:(n:Int)<2 ^ 63) (x:Nat->Int) :
 Pure Tryz.prog 122 [.r (.rs 1 n λi _=>.i (x i))] (· =.b ((List.range n).all λi=>decide (0<=x i)&&decide (x i<=63))):=by
 refine π Tryz.func122 ?_;simp[go_sem];refine aA (uB 0 63 n hn x) rfl rfl ?_;simp[go_sem]
def btw (lo hi n:Int):Bool:=decide (lo<=n)&&decide (n<=hi)
abbrev kindB:=btw 0 7
abbrev timeB:=btw 0 1099511627776
abbrev persB:=btw 0 63
section
variable {get:Nat->Nat->RV} {a b c lo hi:Int}
theorem bFp {s s':SV} {l l':List SV} (h:leL l l'):leL (s::s'::l) (s::s'::l'):=⟨SV.le.rfl,SV.le.rfl,h⟩
theorem le1 (h0:get 0 0=.i a):leL [.r (.rs 1 1 get)] [.r (.rs 1 1 λi _=>.i (match i with | _=>a))]:=
 ⟨vF λi j hi hj=>by have:=lt1 hi;have:=lt1 hj;subst_vars;exact h0,trivial⟩
theorem le2 (h0:get 0 0=.i a) (h1:get 1 0=.i b):leL [.r (.rs 1 2 get)] [.r (.rs 1 2 λi _=>.i (match i with | 0=>a | _=>b))]:=
 ⟨vF λi j hi hj=>by
   have:=lt1 hj;rcases(ω:i=0\/i=1) with h | h <;> subst_vars
   ·exact h0
   ·exact h1,trivial⟩
theorem le3 (h0:get 0 0=.i a) (h1:get 1 0=.i b) (h2:get 2 0=.i c):leL [.r (.rs 1 3 get)] [.r (.rs 1 3 λi _=>.i (match i with | 0=>a | 1=>b | _=>c))]:=
 ⟨vF λi j hi hj=>by
   have:=lt1 hj;rcases(ω:i=0\/i=1\/i=2) with h | h | h <;> subst_vars
   ·exact h0
   ·exact h1
   ·exact h2,trivial⟩
theorem aIc (h0:get 0 0=.i a):Pure Tryz.prog 321 [.r (.rs 1 1 get)] (· =.b (kindB a)):=((aKo 1 δ _).args (le1 h0)).val (by simp[List.range_succ,btw])
theorem aRy (h0:get 0 0=.i a) (h1:get 1 0=.i b) (h2:get 2 0=.i c):Pure Tryz.prog 321 [.r (.rs 1 3 get)] (· =.b (kindB a&&kindB b&&kindB c)):=((aKo 3 δ _).args (le3 h0 h1 h2)).val (by simp[List.range_succ,btw,Bool.and_assoc])
theorem aTo (h0:get 0 0=.i a):Pure Tryz.prog 322 [.r (.rs 1 1 get)] (· =.b (timeB a)):=((aLd 1 δ _).args (le1 h0)).val (by simp[List.range_succ,btw])
theorem aJi (h0:get 0 0=.i a) (h1:get 1 0=.i b):Pure Tryz.prog 322 [.r (.rs 1 2 get)] (· =.b (timeB a&&timeB b)):=((aLd 2 δ _).args (le2 h0 h1)).val (by simp[List.range_succ,btw])
theorem tA (h0:get 0 0=.i a):Pure Tryz.prog 122 [.r (.rs 1 1 get)] (· =.b (persB a)):=((aSn 1 δ _).args (le1 h0)).val (by simp[List.range_succ,btw])
theorem aQw (h0:get 0 0=.i a):Pure Tryz.prog 105 [.i lo,.i hi,.r (.rs 1 1 get)] (· =.b (btw lo hi a)):=((uB lo hi 1 δ _).args (bFp (le1 h0))).val (by simp[List.range_succ,btw])
theorem bFi (h0:get 0 0=.i a) (h1:get 1 0=.i b):Pure Tryz.prog 105 [.i lo,.i hi,.r (.rs 1 2 get)] (· =.b (btw lo hi a&&btw lo hi b)):=((uB lo hi 2 δ _).args (bFp (le2 h0 h1))).val (by simp[List.range_succ,btw])
end
theorem iQ (n lo hi:Int):Pure Tryz.prog 360 [.i n,.i lo,.i hi] (· =.b (btw lo hi n)):=by
 refine π Tryz.func360 ?_;simp[go_sem,btw];split
 ·intro _;assumption
 ·intro h;omega
theorem mU (n:Int):Pure Tryz.prog 358 [.i n] (· =.b (btw 0 7 n)):=by
 refine π Tryz.func358 ?_;simp[go_sem];refine aA (iQ n 0 7) rfl rfl ?_;simp[go_sem]
theorem pM (n:Int):Pure Tryz.prog 359 [.i n] (· =.b (btw 0 1099511627776 n)):=by
 refine π Tryz.func359 ?_;simp[go_sem];refine aA (iQ n 0 1099511627776) rfl rfl ?_;simp[go_sem]
theorem oZ (n:Int):Pure Tryz.prog 361 [.i n] (· =.b (btw 0 63 n)):=by
 refine π Tryz.func361 ?_;simp[go_sem];refine aA (iQ n 0 63) rfl rfl ?_;simp[go_sem]
theorem bF4 (n:Nat) (hn:(n:Int)<2 ^ 63) (x:Nat->Int) :
 Pure Tryz.prog 212 [.r (.rs 1 n λi _=>.i (x i))] (· =.i (((List.range n).find? λi=>decide (x i≠0)).elim 0 x)):=by
 refine π Tryz.func212 ?_;simp[go_sem];refine aH aD (α:=Nat) (λi=>[(3,.i 0),(6,.r (.rs 1 n λi _=>.i (x i))),(7,.i n),(8,.i i)]) (λ_=>[]) 0 (λi=>i<=n/\∀j,j<i->x j=0) (λi=>n - i) 0 (λ_=>rfl) τ ζ ζ ?_;intro i J hi;simp[go_sem];split
 ·rename_i hlt;refine⟨hlt,?_⟩;split
  ·rename_i h0;exact⟨ω,i+1,⟨ω,λj hj=>by
    by_cases hji:j=i
    ·subst hji;exact h0
    ·exact hi.2 j ω⟩,ω,τ⟩
  ·rename_i h0;have:(List.range n).find? (λi=>!decide (x i=0))=some i:=List.find?_range_eq_some.2 ⟨by simpa using h0,List.mem_range.2 hlt,λj hj=>by simp[hi.2 j hj]⟩;rw[this];rfl
 ·rename_i hlt;have:(List.range n).find? (λi=>!decide (x i=0))=none:=List.find?_eq_none.2 λj hj=>by simp[hi.2 j (by have:=List.mem_range.1 hj;omega)]
  rw[this];rfl
def lex (a b:Int):Int:=if a=0 then b else a
theorem or2 {get:Nat->Nat->RV} {a b:Int} (h0:get 0 0=.i a) (h1:get 1 0=.i b):Pure Tryz.prog 212 [.r (.rs 1 2 get)] (· =.i (lex a b)):=
 ((bF4 2 δ _).args (le2 h0 h1)).val (by
   by_cases ha:a=0 <;> by_cases hb:b=0 <;> simp[List.range_succ,lex,ha,hb])
theorem aR2 (a b c d e f:Int):Pure Tryz.prog 235 [.agg [.i a,.i b,.i c],.agg [.i d,.i e,.i f]] (· =.i (lex (bU a d) (bU b e))):=by
 refine π Tryz.func235 ?_;simp[go_sem];refine bE aD κ 10 κ rfl rfl ?_;simp[go_sem];refine⟨_,aB (lP a d) rfl rfl,_,aB (lP b e) rfl rfl,?_⟩;simp[go_sem];refine aG (v:=.i (lex (bU a d) (bU b e))) ?_ rfl ?_
 ·simp[go_sem];exact or2 rfl rfl
 ·simp[go_sem]
end Go.Gx.Rg
namespace Go.Gx.Rg
open Go.RowKit Go.Proofs Go.Proofs.YtncccnmmjfapnaaGreat
structure RuleG where
 (p r l f t k s b:Int)
structure ConG where
 (p q u:Int)
structure WarG where
 (l p f t:Int)
structure MarkG where
 (l p s u n:Int)
def RuleG.c (x:RuleG):Nat->RV
 | 0=>.i x.p
 | 1=>.i x.r
 | 2=>.i x.l
 | 3=>.i x.f
 | 4=>.i x.t
 | 5=>.i x.k
 | 6=>.i x.s
 | 7=>.v (.int .u8 x.b)
 | _=>.any
@[go_sem]theorem RuleG.c0 (x:RuleG):x.c 0=.i x.p:=rfl
@[go_sem]theorem RuleG.c1 (x:RuleG):x.c 1=.i x.r:=rfl
@[go_sem]theorem RuleG.c2 (x:RuleG):x.c 2=.i x.l:=rfl
@[go_sem]theorem RuleG.c3 (x:RuleG):x.c 3=.i x.f:=rfl
@[go_sem]theorem RuleG.c4 (x:RuleG):x.c 4=.i x.t:=rfl
@[go_sem]theorem RuleG.c5 (x:RuleG):x.c 5=.i x.k:=rfl
@[go_sem]theorem RuleG.c6 (x:RuleG):x.c 6=.i x.s:=rfl
@[go_sem]theorem RuleG.c7 (x:RuleG):x.c 7=.v (.int .u8 x.b):=rfl
abbrev RuleG.sv (x:RuleG):SV:=.agg [.i x.p,.i x.r,.i x.l,.i x.f,.i x.t,.i x.k,.i x.s,.r (.v (.int .u8 x.b))]
abbrev RuleG.rs (n:Nat) (x:Nat->RuleG):SV:=.r (.rs 8 n λi j=>(x i).c j)
def ConG.c (x:ConG):Nat->RV
 | 0=>.i x.p
 | 1=>.i x.q
 | 2=>.i x.u
 | _=>.any
@[go_sem]theorem ConG.c0 (x:ConG):x.c 0=.i x.p:=rfl
@[go_sem]theorem ConG.c1 (x:ConG):x.c 1=.i x.q:=rfl
@[go_sem]theorem ConG.c2 (x:ConG):x.c 2=.i x.u:=rfl
abbrev ConG.sv (x:ConG):SV:=.agg [.i x.p,.i x.q,.i x.u]
abbrev ConG.rs (n:Nat) (x:Nat->ConG):SV:=.r (.rs 3 n λi j=>(x i).c j)
def WarG.c (x:WarG):Nat->RV
 | 0=>.i x.l
 | 1=>.i x.p
 | 2=>.i x.f
 | 3=>.i x.t
 | _=>.any
@[go_sem]theorem WarG.c0 (x:WarG):x.c 0=.i x.l:=rfl
@[go_sem]theorem WarG.c1 (x:WarG):x.c 1=.i x.p:=rfl
@[go_sem]theorem WarG.c2 (x:WarG):x.c 2=.i x.f:=rfl
@[go_sem]theorem WarG.c3 (x:WarG):x.c 3=.i x.t:=rfl
abbrev WarG.sv (x:WarG):SV:=.agg [.i x.l,.i x.p,.i x.f,.i x.t]
abbrev WarG.rs (n:Nat) (x:Nat->WarG):SV:=.r (.rs 4 n λi j=>(x i).c j)
def MarkG.c (x:MarkG):Nat->RV
 | 0=>.i x.l
 | 1=>.i x.p
 | 2=>.i x.s
 | 3=>.i x.u
 | 4=>.i x.n
 | _=>.any
@[go_sem]theorem MarkG.c0 (x:MarkG):x.c 0=.i x.l:=rfl
@[go_sem]theorem MarkG.c1 (x:MarkG):x.c 1=.i x.p:=rfl
@[go_sem]theorem MarkG.c2 (x:MarkG):x.c 2=.i x.s:=rfl
@[go_sem]theorem MarkG.c3 (x:MarkG):x.c 3=.i x.u:=rfl
@[go_sem]theorem MarkG.c4 (x:MarkG):x.c 4=.i x.n:=rfl
abbrev MarkG.sv (x:MarkG):SV:=.agg [.i x.l,.i x.p,.i x.s,.i x.u,.i x.n]
abbrev MarkG.rs (n:Nat) (x:Nat->MarkG):SV:=.r (.rs 5 n λi j=>(x i).c j)
def RuleG.good (x:RuleG):Bool:=kindB x.p&&kindB x.r&&kindB x.l&&(timeB x.f&&timeB x.t)&&decide (x.f<x.t)&&btw 1 2 x.k&&(btw 1 3 x.s&&btw 1 3 x.b)
def ConG.good (x:ConG):Bool:=persB x.p&&kindB x.q&&timeB x.u
def WarG.good (x:WarG):Bool:=kindB x.l&&persB x.p&&(timeB x.f&&timeB x.t)&&decide (x.f<x.t)
def MarkG.good (x:MarkG):Bool:=kindB x.l&&persB x.p&&(timeB x.s&&timeB x.u)&&decide (x.s<x.u)&&btw 0 1000 x.n
def RuleG.byte (x:RuleG):Prop:=0<=x.b/\x.b<256
theorem tN (h:Int) (hh:0<=h/\h<256):IntKind.i64.wrap h=h:=by
 unfold IntKind.wrap;simp[IntKind.bits];omega
theorem qN (x:ConG):Pure Tryz.prog 229 [x.sv] (· =.b x.good):=by
 refine π Tryz.func229 ?_;obtain⟨a0,h0⟩:∃a,(persB x.p)=a:=⟨_,rfl⟩;obtain⟨a1,h1⟩:∃a,(kindB x.q)=a:=⟨_,rfl⟩;obtain⟨a2,h2⟩:∃a,(timeB x.u)=a:=⟨_,rfl⟩;have hg:x.good=(a0&&a1&&a2):=by rw[ConG.good,h0,h1,h2]
 rw[hg];clear hg;simp[go_sem];refine aG (v:=.b a0) (by simp[go_sem];rw[<- h0];exact tA rfl) rfl ?_
 cases a0
 ·simp[go_sem]
 simp[go_sem];refine aG (v:=.b a1) (by simp[go_sem];rw[<- h1];exact aIc rfl) rfl ?_
 cases a1
 ·simp[go_sem]
 simp[go_sem];refine aG (v:=.b a2) (by simp[go_sem];rw[<- h2];exact aTo rfl) rfl ?_
 cases a2
 ·simp[go_sem]
 simp[go_sem]
theorem aH6 (x:RuleG) (hh:x.byte):Pure Tryz.prog 227 [x.sv] (· =.b x.good):=by
 refine π Tryz.func227 ?_;obtain⟨a0,h0⟩:∃a,(kindB x.p&&kindB x.r&&kindB x.l)=a:=⟨_,rfl⟩;obtain⟨a1,h1⟩:∃a,(timeB x.f&&timeB x.t)=a:=⟨_,rfl⟩;obtain⟨a3,h3⟩:∃a,(btw 1 2 x.k)=a:=⟨_,rfl⟩;obtain⟨a4,h4⟩:∃a,(btw 1 3 x.s&&btw 1 3 x.b)=a:=⟨_,rfl⟩;have hg:x.good=(a0&&a1&&decide (x.f<x.t)&&a3&&a4):=by rw[RuleG.good,h0,h1,h3,h4]
 rw[hg];clear hg;simp[go_sem];refine aG (v:=.b a0) (by simp[go_sem,tN x.b hh];rw[<- h0];exact aRy rfl rfl rfl) rfl ?_
 cases a0
 ·simp[go_sem]
 simp[go_sem];refine aG (v:=.b a1) (by simp[go_sem,tN x.b hh];rw[<- h1];exact aJi rfl rfl) rfl ?_
 cases a1
 ·simp[go_sem]
 simp[go_sem];by_cases hc:x.f<x.t;rotate_left
 ·simp[go_sem,hc]
 simp[go_sem,hc];refine aG (v:=.b a3) (by simp[go_sem,tN x.b hh];rw[<- h3];exact aQw rfl) rfl ?_
 cases a3
 ·simp[go_sem]
 simp[go_sem];refine aG (v:=.b a4) (by simp[go_sem,tN x.b hh];rw[<- h4];exact bFi rfl rfl) rfl ?_
 cases a4
 ·simp[go_sem]
 simp[go_sem]
theorem aAo (x:WarG):Pure Tryz.prog 231 [x.sv] (· =.b x.good):=by
 refine π Tryz.func231 ?_;obtain⟨a0,h0⟩:∃a,(kindB x.l)=a:=⟨_,rfl⟩;obtain⟨a1,h1⟩:∃a,(persB x.p)=a:=⟨_,rfl⟩;obtain⟨a2,h2⟩:∃a,(timeB x.f&&timeB x.t)=a:=⟨_,rfl⟩;have hg:x.good=(a0&&a1&&a2&&decide (x.f<x.t)):=by rw[WarG.good,h0,h1,h2]
 rw[hg];clear hg;simp[go_sem];refine aG (v:=.b a0) (by simp[go_sem];rw[<- h0];exact aIc rfl) rfl ?_
 cases a0
 ·simp[go_sem]
 simp[go_sem];refine aG (v:=.b a1) (by simp[go_sem];rw[<- h1];exact tA rfl) rfl ?_
 cases a1
 ·simp[go_sem]
 simp[go_sem];refine aG (v:=.b a2) (by simp[go_sem];rw[<- h2];exact aJi rfl rfl) rfl ?_
 cases a2
 ·simp[go_sem]
 simp[go_sem]
theorem yF (x:MarkG):Pure Tryz.prog 233 [x.sv] (· =.b x.good):=by
 refine π Tryz.func233 ?_;obtain⟨a0,h0⟩:∃a,(kindB x.l)=a:=⟨_,rfl⟩;obtain⟨a1,h1⟩:∃a,(persB x.p)=a:=⟨_,rfl⟩;obtain⟨a2,h2⟩:∃a,(timeB x.s&&timeB x.u)=a:=⟨_,rfl⟩;obtain⟨a4,h4⟩:∃a,(btw 0 1000 x.n)=a:=⟨_,rfl⟩;have hg:x.good=(a0&&a1&&a2&&decide (x.s<x.u)&&a4):=by rw[MarkG.good,h0,h1,h2,h4]
 rw[hg];clear hg;simp[go_sem];refine aG (v:=.b a0) (by simp[go_sem];rw[<- h0];exact aIc rfl) rfl ?_
 cases a0
 ·simp[go_sem]
 simp[go_sem];refine aG (v:=.b a1) (by simp[go_sem];rw[<- h1];exact tA rfl) rfl ?_
 cases a1
 ·simp[go_sem]
 simp[go_sem];refine aG (v:=.b a2) (by simp[go_sem];rw[<- h2];exact aJi rfl rfl) rfl ?_
 cases a2
 ·simp[go_sem]
 simp[go_sem];by_cases hc:x.s<x.u;rotate_left
 ·simp[go_sem,hc]
 simp[go_sem,hc];refine aG (v:=.b a4) (by simp[go_sem];rw[<- h4];exact aQw rfl) rfl ?_
 cases a4
 ·simp[go_sem]
 simp[go_sem]
theorem bA2 (g:FuncId) (x:RuleG) (p:Bool) (hp:Pure Tryz.prog g [x.sv] (· =.b p)) (gt:Nat->Nat->RV) (h:gt 0 0=.fn (.func g) 0 0 (λ_=>.any) λ_=>.any):Pure Tryz.prog 320 [x.sv,.r (.rp 1 1 gt 0 0)] (· =.b (!p)):=by
 refine π Tryz.func320 ?_;simp[go_sem,h];refine aA hp rfl rfl ?_;simp[go_sem]
theorem aLx (n:Nat) (hn:(n:Int)<2 ^ 63) (x:Nat->RuleG) (most:Int) (g:FuncId) (p:Nat->Bool) (hp:∀i,i<n->Pure Tryz.prog g [(x i).sv] (· =.b (p i))) :
 Pure Tryz.prog 226 [RuleG.rs n x,.i most,.fn (.func g) [] []] (· =.b (decide ((n:Int)<=most)&&(List.range n).all p)):=by
 refine π Tryz.func226 ?_;simp[go_sem];split
 ·rename_i hle;refine aG (v:=.b ((List.range n).any λi=>!p i)) ?_ rfl ?_
  ·simp[go_sem];exact bAl n hn (λi j=>(x i).c j) (320:FuncId) _ _ rfl λi hi'=>bA2 g (x i) (p i) (hp i hi') _ rfl
  ·simp[go_sem];simp[hle,List.not_all_eq_any_not]
 ·rename_i hle;simp[hle]
theorem bA3 (g:FuncId) (x:ConG) (p:Bool) (hp:Pure Tryz.prog g [x.sv] (· =.b p)) (gt:Nat->Nat->RV) (h:gt 0 0=.fn (.func g) 0 0 (λ_=>.any) λ_=>.any):Pure Tryz.prog 323 [x.sv,.r (.rp 1 1 gt 0 0)] (· =.b (!p)):=by
 refine π Tryz.func323 ?_;simp[go_sem,h];refine aA hp rfl rfl ?_;simp[go_sem]
theorem aCx (n:Nat) (hn:(n:Int)<2 ^ 63) (x:Nat->ConG) (most:Int) (g:FuncId) (p:Nat->Bool) (hp:∀i,i<n->Pure Tryz.prog g [(x i).sv] (· =.b (p i))) :
 Pure Tryz.prog 228 [ConG.rs n x,.i most,.fn (.func g) [] []] (· =.b (decide ((n:Int)<=most)&&(List.range n).all p)):=by
 refine π Tryz.func228 ?_;simp[go_sem];split
 ·rename_i hle;refine aG (v:=.b ((List.range n).any λi=>!p i)) ?_ rfl ?_
  ·simp[go_sem];exact has120 n hn (λi j=>(x i).c j) (323:FuncId) _ _ rfl λi hi'=>bA3 g (x i) (p i) (hp i hi') _ rfl
  ·simp[go_sem];simp[hle,List.not_all_eq_any_not]
 ·rename_i hle;simp[hle]
theorem bA4 (g:FuncId) (x:WarG) (p:Bool) (hp:Pure Tryz.prog g [x.sv] (· =.b p)) (gt:Nat->Nat->RV) (h:gt 0 0=.fn (.func g) 0 0 (λ_=>.any) λ_=>.any):Pure Tryz.prog 324 [x.sv,.r (.rp 1 1 gt 0 0)] (· =.b (!p)):=by
 refine π Tryz.func324 ?_;simp[go_sem,h];refine aA hp rfl rfl ?_;simp[go_sem]
theorem aCy (n:Nat) (hn:(n:Int)<2 ^ 63) (x:Nat->WarG) (most:Int) (g:FuncId) (p:Nat->Bool) (hp:∀i,i<n->Pure Tryz.prog g [(x i).sv] (· =.b (p i))) :
 Pure Tryz.prog 230 [WarG.rs n x,.i most,.fn (.func g) [] []] (· =.b (decide ((n:Int)<=most)&&(List.range n).all p)):=by
 refine π Tryz.func230 ?_;simp[go_sem];split
 ·rename_i hle;refine aG (v:=.b ((List.range n).any λi=>!p i)) ?_ rfl ?_
  ·simp[go_sem];exact has122 n hn (λi j=>(x i).c j) (324:FuncId) _ _ rfl λi hi'=>bA4 g (x i) (p i) (hp i hi') _ rfl
  ·simp[go_sem];simp[hle,List.not_all_eq_any_not]
 ·rename_i hle;simp[hle]
theorem bA5 (g:FuncId) (x:MarkG) (p:Bool) (hp:Pure Tryz.prog g [x.sv] (· =.b p)) (gt:Nat->Nat->RV) (h:gt 0 0=.fn (.func g) 0 0 (λ_=>.any) λ_=>.any):Pure Tryz.prog 325 [x.sv,.r (.rp 1 1 gt 0 0)] (· =.b (!p)):=by
 refine π Tryz.func325 ?_;simp[go_sem,h];refine aA hp rfl rfl ?_;simp[go_sem]
theorem aLw (n:Nat) (hn:(n:Int)<2 ^ 63) (x:Nat->MarkG) (most:Int) (g:FuncId) (p:Nat->Bool) (hp:∀i,i<n->Pure Tryz.prog g [(x i).sv] (· =.b (p i))) :
 Pure Tryz.prog 232 [MarkG.rs n x,.i most,.fn (.func g) [] []] (· =.b (decide ((n:Int)<=most)&&(List.range n).all p)):=by
 refine π Tryz.func232 ?_;simp[go_sem];split
 ·rename_i hle;refine aG (v:=.b ((List.range n).any λi=>!p i)) ?_ rfl ?_
  ·simp[go_sem];exact has124 n hn (λi j=>(x i).c j) (325:FuncId) _ _ rfl λi hi'=>bA5 g (x i) (p i) (hp i hi') _ rfl
  ·simp[go_sem];simp[hle,List.not_all_eq_any_not]
 ·rename_i hle;simp[hle]
theorem aId (x y:MarkG):Pure Tryz.prog 104 [x.sv,y.sv] (· =.i (lex (bU x.l y.l) (bU x.p y.p))):=by
 refine π Tryz.func104 ?_;simp[go_sem];refine bE aD κ 10 κ rfl rfl ?_;simp[go_sem];refine⟨_,aB (lP x.l y.l) rfl rfl,_,aB (lP x.p y.p) rfl rfl,?_⟩;simp[go_sem];refine aG (v:=.i (lex (bU x.l y.l) (bU x.p y.p))) ?_ rfl ?_
 ·simp[go_sem];exact or2 rfl rfl
 ·simp[go_sem]
def ConG.lt (x y:ConG):Bool:=decide (lex (bU x.p y.p) (bU x.q y.q)<0)
def MarkG.lt (x y:MarkG):Bool:=decide (lex (bU x.l y.l) (bU x.p y.p)<0)
theorem aS5 (n:Nat) (hn:(n:Int)<2 ^ 62) (x:Nat->ConG) :
 Pure Tryz.prog 234 [ConG.rs n x,.fn (.func 235) [] []] (· =.b ((List.range (n - 1)).all λi=>(x i).lt (x (i+1)))):=by
 refine π Tryz.func234 ?_;simp[go_sem];refine aH aD (α:=Nat) (λk=>[(0,ConG.rs n x),(1,.fn (.func 235) [] []),(5,.i ((k:Int)+1))]) (λ_=>[]) 0 (λk=>(k=0\/k+1<=n)/\∀j,j<k->(x j).lt (x (j+1))=true) (λk=>n - k) 0 (λ_=>rfl) τ ζ ζ ?_;intro k J hi;simp[go_sem];split
 ·rename_i hlt;refine bE aD κ 10 κ rfl rfl ?_;simp[go_sem];refine⟨ω,ω,⟨ω,ω⟩,ω,?_⟩;refine aA (aR2 (x k).p (x k).q (x k).u (x (k+1)).p (x (k+1)).q (x (k+1)).u) rfl rfl ?_;simp[go_sem];split
  ·rename_i h0;refine⟨k,ω,?_⟩;simp[ConG.lt];omega
  ·rename_i h0;refine⟨ω,k+1,⟨ω,λj hj=>?_⟩,ω,τ⟩;by_cases hjk:j=k
   ·subst hjk;simp[ConG.lt];omega
   ·exact hi.2 j ω
 ·rename_i hlt;intro j hj;exact hi.2 j ω
theorem aS6 (n:Nat) (hn:(n:Int)<2 ^ 62) (x:Nat->MarkG) :
 Pure Tryz.prog 236 [MarkG.rs n x,.fn (.func 104) [] []] (· =.b ((List.range (n - 1)).all λi=>(x i).lt (x (i+1)))):=by
 refine π Tryz.func236 ?_;simp[go_sem];refine aH aD (α:=Nat) (λk=>[(0,MarkG.rs n x),(1,.fn (.func 104) [] []),(5,.i ((k:Int)+1))]) (λ_=>[]) 0 (λk=>(k=0\/k+1<=n)/\∀j,j<k->(x j).lt (x (j+1))=true) (λk=>n - k) 0 (λ_=>rfl) τ ζ ζ ?_;intro k J hi;simp[go_sem];split
 ·rename_i hlt;refine bE aD κ 10 κ rfl rfl ?_;simp[go_sem];refine⟨ω,ω,⟨ω,ω⟩,ω,?_⟩;refine aA (aId (x k) (x (k+1))) rfl rfl ?_;simp[go_sem];split
  ·rename_i h0;refine⟨k,ω,?_⟩;simp[MarkG.lt];omega
  ·rename_i h0;refine⟨ω,k+1,⟨ω,λj hj=>?_⟩,ω,τ⟩;by_cases hjk:j=k
   ·subst hjk;simp[MarkG.lt];omega
   ·exact hi.2 j ω
 ·rename_i hlt;intro j hj;exact hi.2 j ω
structure RG where
 (nr:Nat) (r:Nat->RuleG) (nc:Nat) (c:Nat->ConG) (nw:Nat) (w:Nat->WarG) (nm:Nat) (m:Nat->MarkG)
abbrev RG.sv (g:RG):SV:=.agg [RuleG.rs g.nr g.r,ConG.rs g.nc g.c,WarG.rs g.nw g.w,MarkG.rs g.nm g.m]
structure RG.OK (g:RG):Prop where
 nr:(g.nr:Int)<2 ^ 62
 nc:(g.nc:Int)<2 ^ 62
 nw:(g.nw:Int)<2 ^ 62
 nm:(g.nm:Int)<2 ^ 62
 by':∀i,i<g.nr->(g.r i).byte
def RG.c1 (g:RG):Bool:=decide ((g.nr:Int)<=20)&&(List.range g.nr).all λi=>(g.r i).good
def RG.c2 (g:RG):Bool:=decide ((g.nc:Int)<=40)&&(List.range g.nc).all λi=>(g.c i).good
def RG.c3 (g:RG):Bool:=decide ((g.nw:Int)<=20)&&(List.range g.nw).all λi=>(g.w i).good
def RG.c4 (g:RG):Bool:=decide ((g.nm:Int)<=40)&&(List.range g.nm).all λi=>(g.m i).good
def RG.c5 (g:RG):Bool:=(List.range (g.nc - 1)).all λi=>(g.c i).lt (g.c (i+1))
def RG.c6 (g:RG):Bool:=(List.range (g.nm - 1)).all λi=>(g.m i).lt (g.m (i+1))
def RG.valid (g:RG):Bool:=g.c1&&g.c2&&g.c3&&g.c4&&g.c5&&g.c6
theorem check28 (g:RG) (h:g.OK):Pure Tryz.prog 121 [g.sv] (· =.i (if g.valid then 0 else 8)):=by
 refine π Tryz.func121 ?_;have q0:=(aLx g.nr (by have:=h.nr;omega) g.r 20 (227:FuncId) (λi=>(g.r i).good) (λi hi=>aH6 _ (h.by' i hi))).val (v':=.b g.c1) rfl;have q1:=(aCx g.nc (by have:=h.nc;omega) g.c 40 (229:FuncId) (λi=>(g.c i).good) (λi hi=>qN _)).val (v':=.b g.c2) rfl;have q2:=(aCy g.nw (by have:=h.nw;omega) g.w 20 (231:FuncId) (λi=>(g.w i).good) (λi hi=>aAo _)).val (v':=.b g.c3) rfl;have q3:=(aLw g.nm (by have:=h.nm;omega) g.m 40 (233:FuncId) (λi=>(g.m i).good) (λi hi=>yF _)).val (v':=.b g.c4) rfl;have q4:=(aS5 g.nc h.nc g.c).val (v':=.b g.c5) rfl;have q5:=(aS6 g.nm h.nm g.m).val (v':=.b g.c6) rfl;obtain⟨a0,e0⟩:∃a,g.c1=a:=⟨_,rfl⟩;rw[e0] at q0;obtain⟨a1,e1⟩:∃a,g.c2=a:=⟨_,rfl⟩;rw[e1] at q1;obtain⟨a2,e2⟩:∃a,g.c3=a:=⟨_,rfl⟩;rw[e2] at q2;obtain⟨a3,e3⟩:∃a,g.c4=a:=⟨_,rfl⟩;rw[e3] at q3;obtain⟨a4,e4⟩:∃a,g.c5=a:=⟨_,rfl⟩;rw[e4] at q4;obtain⟨a5,e5⟩:∃a,g.c6=a:=⟨_,rfl⟩;rw[e5] at q5;have hv:g.valid=(a0&&a1&&a2&&a3&&a4&&a5):=by rw[RG.valid,e0,e1,e2,e3,e4,e5]
 rw[hv];clear hv;simp[go_sem];refine aA q0 rfl rfl ?_
 cases a0
 ·simp[go_sem]
 simp[go_sem];refine aA q1 rfl rfl ?_
 cases a1
 ·simp[go_sem]
 simp[go_sem];refine aA q2 rfl rfl ?_
 cases a2
 ·simp[go_sem]
 simp[go_sem];refine aA q3 rfl rfl ?_
 cases a3
 ·simp[go_sem]
 simp[go_sem];refine aA q4 rfl rfl ?_
 cases a4
 ·simp[go_sem]
 simp[go_sem];refine aA q5 rfl rfl ?_
 cases a5
 ·simp[go_sem]
 simp[go_sem]
end Go.Gx.Rg
namespace Go.Gx.Sr
open Go.RowKit Go.Proofs Go.Proofs.YtncccnmmjfapnaaGreat Go.Gx.Ix
theorem idx274 (n:Nat) (hn:(n:Int)<2 ^ 63) (get:Nat->Nat->RV) (g:FuncId) (ca:List SV) (p:Nat->Bool) (hca:SV.closedL ca=true) (hp:∀i,i<n->Pure Tryz.prog g (.agg [.r (get i 0),.r (get i 1),.r (get i 2)]::ca) (· =.b (p i))) :
 Pure Tryz.prog 274 [.r (.rs 3 n get),.fn (.func g) [] ca] (· =.i (Rg.idx p n)):=by
 refine π Tryz.func274 ?_;simp[go_sem];refine aH aD (α:=Nat) (λi=>[(0,.r (.rs 3 n get)),(1,.fn (.func g) [] ca),(7,.i n),(8,.i i)]) (λ_=>[]) 0 (λi=>i<=n/\∀j,j<i->p j=false) (λi=>n - i) 0 (λ_=>rfl) τ (by simp[go_sem,SV.trimL_closed 0 ca hca]) ζ ?_;intro i J hi;simp[go_sem];split
 ·rename_i hlt;refine⟨hlt,?_⟩;refine aA (hp i hlt) (by simp[SV.closedL,SV.closed,hca]) rfl ?_;simp[go_sem];split
  ·rename_i hpi;rw[Rg.idx_found hlt hpi hi.2]
  ·rename_i hpi;refine⟨ω,i+1,⟨ω,λj hj=>?_⟩,ω,?_⟩
   ·by_cases hji:j=i
    ·subst hji;simpa using hpi
    ·exact hi.2 j ω
   ·simp[SV.trimL_closed 0 ca hca]
 ·rename_i hlt;rw[Rg.idx_none λj hj=>hi.2 j ω]
theorem bAm (n:Nat) (hn:(n:Int)<2 ^ 63) (get:Nat->Nat->RV) (g:FuncId) (ca:List SV) (p:Nat->Bool) (hca:SV.closedL ca=true) (hp:∀i,i<n->Pure Tryz.prog g (.agg [.r (get i 0),.r (get i 1),.r (get i 2)]::ca) (· =.b (p i))) :
 Pure Tryz.prog 172 [.r (.rs 3 n get),.fn (.func g) [] ca] (· =.b ((List.range n).any p)):=by
 refine π Tryz.func172 ?_;simp[go_sem];refine aA (idx274 n hn get g ca p hca hp) (by simp[SV.closedL,SV.closed,hca]) rfl ?_;simp[go_sem];exact Rg.idx_any
theorem aB5 {α:Type} {l:List α} {p:α->Bool} {q:Nat->Bool} (h:∀i (hi:i<l.length),q i=p l[i]):(List.range l.length).any q=l.any p:=by
 rw[Bool.eq_iff_iff,List.any_eq_true,List.any_eq_true];constructor
 ·rintro⟨i,hi,hq⟩;have hi:=List.mem_range.1 hi;exact⟨l[i],List.getElem_mem hi,by rw[<- h i hi];exact hq⟩
 ·rintro⟨x,hx,hq⟩;obtain⟨i,hi,rfl⟩:=List.getElem_of_mem hx;exact⟨i,List.mem_range.2 hi,by rw[h i hi];exact hq⟩
theorem aRi (l:List ChG) (hn:l.length<1000000) (g:FuncId) (ca:List SV) (p:ChG->Bool) (hca:SV.closedL ca=true) (hp:∀x∈l,Pure Tryz.prog g (x.sv::ca) (· =.b (p x))) :
 Pure Tryz.prog 172 [nY l,.fn (.func g) [] ca] (· =.b (l.any p)):=by
 have h:=bAm l.length ω (aY ChG.f l) g ca (λi=>match l[i]? with | some x=>p x | none=>false) hca λi hi=>by
  have:=hp l[i] (List.getElem_mem hi);rw[aI hi,aI hi,aI hi,List.getElem?_eq_getElem hi];exact this
 rw[aB5 (p:=p) λi hi=>by simp[List.getElem?_eq_getElem hi]] at h;exact h
def aJa (l:List ChG):Bool:=(List.range (l.length - 1)).all λi=>match l[i]?,l[i+1]? with | some x,some y=>decide (x.t<=y.t) | _,_=>true
theorem pJ {l:List ChG}:aJa l=true↔∀i (h2:i+1<l.length),l[i].t<=l[i+1].t:=by
 unfold aJa;rw[List.all_eq_true];constructor
 ·intro h i h2;have:=h i (List.mem_range.2 ω);rw[List.getElem?_eq_getElem (ω:i<l.length),List.getElem?_eq_getElem h2] at this;simpa using this
 ·intro h i hi;have hi:=List.mem_range.1 hi;have h2:i+1<l.length:=ω;rw[List.getElem?_eq_getElem (ω:i<l.length),List.getElem?_eq_getElem h2];simpa using h i h2
theorem aXn {l:List ChG} {i:Nat} (h2:i+1<l.length) (h:l[i+1].t<l[i].t):aJa l=false:=by
 rw[Bool.eq_false_iff];intro hs;have:=pJ.1 hs i h2;omega
theorem aOb (l:List ChG) (hn:l.length<1000000) (h:∀x∈l,qC x.t=true):Pure Tryz.prog 198 [nY l,.fn (.func 197) [] []] (· =.b (aJa l)):=by
 refine π Tryz.func198 ?_;simp[go_sem];refine⟨ω,?_⟩;refine aH aD (α:=Nat) (λm=>[(0,nY l),(1,.fn (.func 197) [] []),(5,.i ((m:Int) - 1))]) (λ_=>[]) 0
  (λm=>m<=l.length/\∀i,m<=i+1->∀(h2:i+1<l.length),l[i].t<=l[i+1].t) (λm=>m) l.length (λ_=>rfl) ⟨Nat.le_refl _,λi h1 h2=>ω⟩ ζ ζ ?_
 intro m J hi;obtain⟨hm,hi⟩:=hi;by_cases hlt:1<m
 ·have hlt':(0:Int)<(m:Int) - 1:=ω;obtain⟨k,rfl⟩:∃k,m=k+2:=⟨m - 2,ω⟩;have e1:((k+2:Nat):Int) - 1=((k+1:Nat):Int):=ω;have e2:((k+1:Nat):Int) - 1=(k:Int):=ω;have g1:=aI (f:=ChG.f) (l:=l) (i:=k+1) ω;have g0:=aI (f:=ChG.f) (l:=l) (i:=k) ω;rw[e1];simp[go_sem];refine aE aD κ κ ?_;have hb1:(k:Int)+1<l.length:=ω;simp[go_sem,g0,g1];refine⟨⟨ω,ω⟩,ω,ω,ω,_,aB (aSl l[k+1] l[k] (h _ (List.getElem_mem _)) (h _ (List.getElem_mem _))) rfl rfl,?_⟩;by_cases hc:l[k].t<=l[k+1].t
  ·have hc':¬l[k+1].t - l[k].t<0:=ω;have hc2:¬l[k+1].t<l[k].t:=ω;simp[go_sem,hc',hc2];refine⟨ω,k+1,⟨ω,λi h1 h2=>?_⟩,ω,ω⟩;by_cases hik:i=k
   ·subst hik;exact hc
   ·exact hi i ω h2
  ·have hc':l[k+1].t - l[k].t<0:=ω;have hc2:l[k+1].t<l[k].t:=ω;simp[go_sem,hc',hc2];exact aXn ω hc2
 ·have hlt':¬(1:Int)<(m:Int):=ω;simp[go_sem,hlt'];exact pJ.2 λi h2=>hi i ω h2
def fO (l:List ChG):Bool:=decide (l.length<=60)&&l.all ChG.ok&&aJa l
theorem oG (l:List ChG) (hn:l.length<1000000):Pure Tryz.prog 96 [nY l] (· =.i (if fO l then 0 else 8)):=by
 obtain⟨c,hc⟩:∃c,fO l=c:=⟨_,rfl⟩;rw[hc];refine π Tryz.func96 ?_;unfold fO at hc;by_cases h1:l.length<=60;rotate_left
 ·have h1':(60:Int)<l.length:=ω;rw[decide_eq_false h1] at hc;subst hc;simp[go_sem,h1']
 have h1':¬(60:Int)<l.length:=ω;rw[decide_eq_true h1] at hc;simp[go_sem,h1'];refine aA (aRi l hn 196 [] (λx=>!x.ok) rfl λx _=>aJd x) rfl rfl ?_;obtain⟨a,ha⟩:∃a,l.any (λx=>!x.ok)=a:=⟨_,rfl⟩;rw[ha];have hall:l.all ChG.ok=!a:=by rw[<- ha,List.all_eq_not_any_not]
 rw[hall] at hc
 cases a
 rotate_left
 ·simp at hc;subst hc;simp[go_sem]
 have hok:∀x∈l,qC x.t=true:=λx hx=>by
  have:=List.all_eq_true.1 hall x hx;simp only [ChG.ok,Bool.and_eq_true] at this;exact this.1
 simp at hc;subst hc;simp[go_sem];refine aA (aOb l hn hok) rfl rfl ?_
 cases aJa l <;> simp[go_sem]
end Go.Gx.Sr
