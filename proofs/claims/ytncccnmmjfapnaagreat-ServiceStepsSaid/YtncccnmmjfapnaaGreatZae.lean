/-
 Texts of the walk, merged: K5.
-/
import Derived.Test.YtncccnmmjfapnaaGreatZad
import Derived.ProofKit
import Derived.Deep.Slices
import Derived.Deep.Fields
import Derived.OpenShut
import Derived.Lib.Overlaps
import Derived.Maps.RangeRun
import Derived.ChangeKeysEq
set_option linter.unusedVariables false
set_option linter.unusedSimpArgs false
set_option maxRecDepth 100000
set_option maxHeartbeats 4000000
namespace Go.Gx
open Go.RowKit
theorem Pure.ofSub {P:Program} {f:FuncId} {args:List SV} {v:SV} (h:Pure P f args λs=>s.sub v):Pure P f args (· =v):=by
 intro Z w vs hz ha;obtain⟨h1,h2⟩:=h Z w vs hz ha;refine⟨h1,h2.mono λe w' h=>?_⟩;obtain⟨y,s,a,b,c,d⟩:=h;exact⟨y,v,a,rfl,SV.sub_rel _ _ _ b c,d⟩
section
variable {P:Program} {T:Tab} {N:cZ} {k:List It} {Q:GQ} {E:Env} {M:Mem} {nx:Nat}
@[go_sem]theorem bJ6 (all:Array Oper) (rest:List Oper) (d:Option Tmp) (s:SV) (M':Mem) (nx':Nat) (up:SV->SV):KC P T N all rest k Q d E s M' nx' up=GO P T N all rest k Q (aK (λt=>up (E t)) d s) M' nx':=(rfl)
theorem aC {N:cZ} (ref:Nat) {R:Reg} {f:FuncId} {args:List SV} {K:SV->Mem->Nat->(SV->SV)->Prop} (hM:M ref=some R)
 (h:dV P N f (SV.fzL ref R args) (fzM ref R M) nx λs M' nx' up=>K s M' nx' λt=>up (t.fz ref R)):dV P N f args M nx K:=by
 intro B W w0 σ w vs hm hn hl hgd ha;obtain⟨m1,m2⟩:=hm.freeze hM;have hz:bZ (Zof B σ M w) (Zof B σ (fzM ref R M) w) w w:=λb hb=>by
  refine⟨⟨hb.1,λr R' L' h1 h2 h3=>?_⟩,rfl⟩;unfold fzM at h1;split at h1
  ·cases h1
  ·cases hq:M r with
   | none=>rw[hq] at h1;cases h1
   | some R1=>exact hb.2 r R1 L' hq h2 h3
 have ha':SV.relL σ (Zof B σ (fzM ref R M) w) w (SV.fzL ref R args) vs:=by
  have:∀(l:List SV) (ys:List Value),SV.relL σ (Zof B σ M w) w l ys->SV.relL σ (Zof B σ (fzM ref R M) w) w (SV.fzL ref R l) ys:=by
   intro l
   induction l with
   | nil=>exact λys h=>h
   | cons s l ih=>
     rintro ys ⟨v,vs',e,h1,h2⟩;exact⟨v,vs',e,m2 s v h1,ih vs' h2⟩
  exact this _ _ ha
 have conv:∀e w',jU N.good.u N.np B W w0.heap.size σ (fzM ref R M) w (λs M' nx' up=>K s M' nx' λt=>up (t.fz ref R)) e w'->jU N.good.u N.np B W w0.heap.size σ M w K e w':=by
  rintro e w' ⟨y,s,M',nx',σ',up,rfl,p1,p2,p3,p4,p5,p6⟩;exact⟨y,s,M',nx',σ',_,rfl,p1,p2,λb hb=>⟨(p3 b (hz b hb).1).1,(p3 b (hz b hb).1).2⟩,p4,λt z hz'=>p5 _ _ (m2 t z hz'),p6⟩
 rcases h B W w0 σ w vs m1 hn hl hgd ha' with ⟨c1,c2⟩ | ⟨y,w',c1,c2⟩
 ·exact .inl ⟨c1,c2.mono λe w' hp=>conv e w' hp⟩
 ·exact .inr ⟨y,w',c1,conv _ _ c2⟩
end
abbrev lI:Nat->Nat->RV:=λn _=>.i (n:Int)
abbrev aWp (l:List Nat):SV:=.r (.rs 1 l.length (cQ lI l))
end Go.Gx
namespace Go.Gx
open Go.RowKit Go.WideShapes Go.ChangeShapes Go.Deep
inductive CS where
 | sc (c:CK)
 | sl (k:Nat) (fs:Nat->CS)
def CK.okv:CK->Value->Prop
 | .int k,v=>∃n,v=.int k n/\(Lit.int k n).wf=true
 | .bool,v=>∃b,v=.bool b
def fI (w:World):CS->Value->Prop
 | .sc c,v=>c.okv v
 | .sl k fs,v=>∃A n c,v=.slice A n c/\n<=c/\c<=maxLen/\(0<n->∃b o,A=some ⟨b,o,none⟩/\b<w.heap.size/\∀i j,i<n->j<k->∃u,w.cell? ⟨b,o+(i*k+j),none⟩=some u/\fI w (fs j) u)
def oA (w:World):List CS->List Value->Prop
 | [],vs=>vs=[]
 | s::l,vs=>∃v vs',vs=v::vs'/\fI w s v/\oA w l vs'
def flatL (f:TypeId->Option (List CS)) (P:Program):List Field->Nat->Option (List CS)
 | [],_=>some []
 | fd::fs,o=>match f fd.type with
   | none=>none
   | some l=>if fd.offset=o/\P.cellsOf fd.type=l.length then (flatL f P fs (o+l.length)).map (l++·) else none
def bBl (l:List CS):Nat->List CS
 | 0=>[]
 | n+1=>l++bBl l n
def oL (P:Program):Nat->TypeId->Option (List CS)
 | 0,_=>none
 | n+1,t=>match P.underlying t with
   | some (.int k)=>some [.sc (.int k)]
   | some .bool=>some [.sc .bool]
   | some (.slice e)=>match oL P n e with
     | none=>none
     | some l=>if P.cellsOf e=l.length/\0<l.length then some [.sl l.length λj=>l.getD j (.sc .bool)] else none
   | some (.struct fa)=>match flatL (oL P n) P fa.toList 0 with
     | none=>none
     | some l=>if P.cellsOf t=l.length then some l else none
   | some (.array m e)=>match oL P n e with
     | none=>none
     | some l=>if P.cellsOf e=l.length/\P.cellsOf t=m*l.length then some (bBl l m) else none
   | _=>none
section
variable {H:Type} {enc:TypeId × Value->H} {P:Program} {w:World} {base:Nat} {spare:Nat->Bool} {held:Bool}
theorem mD:∀{l l':List CS} {xs ys:List Value},oA w l xs->oA w l' ys->oA w (l++l') (xs++ys)
 | [],l',xs,ys,h,h'=>by cases h;exact h'
 | s::l,l',xs,ys,h,h'=>by
   obtain⟨v,vs,rfl,h1,h2⟩:=h;exact⟨v,vs++ys,rfl,h1,mD h2 h'⟩
theorem tP:∀{l:List CS} {vs:List Value},oA w l vs->l.length=vs.length/\∀(j:Nat) (d:CS) (v:Value),vs[j]? =some v->fI w (l.getD j d) v
 | [],vs,h=>by cases h;exact⟨rfl,τ⟩
 | s::l,vs,h=>by
   obtain⟨v,vs',rfl,h1,h2⟩:=h;obtain⟨e1,e2⟩:=tP h2;refine⟨by simp[e1],λj d u hu=>?_⟩
   cases j with
   | zero=>simp at hu;subst hu;exact h1
   | succ j=>simpa using e2 j d u (by simpa using hu)
theorem aVq:∀(n:Nat) (t:TypeId) (l:List CS) (fuel:Nat) (cs:List Value) (x:DataW H × List MemPlace),oL P n t=some l->DataW.trod enc P w base spare held fuel t cs=some x->oA w l cs:=by
 intro n
 induction n with
 | zero=>intro t l fuel cs x h;simp[oL] at h
 | succ n ih=>
   intro t l fuel cs x hl h;unfold oL at hl;split at hl
   ·rename_i k hu
    cases hl
    obtain⟨m,rfl,_,hw⟩:=DataW.trod_int hu h;exact⟨_,[],rfl,⟨m,rfl,hw⟩,rfl⟩
   ·rename_i hu
    cases hl
    obtain⟨b,rfl,_⟩:=DataW.trod_bool hu h;exact⟨_,[],rfl,⟨b,rfl⟩,rfl⟩
   ·rename_i e hu;split at hl
    ·cases hl
    rename_i le hle;split at hl
    ·rename_i hc
     cases hl
     rcases open_slice hu h with ⟨rfl,_⟩ | ⟨a,len,cap,m,nn,D,Pl,rfl,hb,hlc,hcm,hm,hx,hi⟩
     ·exact⟨_,[],rfl,⟨none,0,0,rfl,Nat.le_refl _,by simp[maxLen],τ⟩,rfl⟩
     ·refine⟨_,[],rfl,⟨some a,len,cap,rfl,hlc,hcm,λh0=>?_⟩,rfl⟩;have hlm:len<=m:=by rw[hm];split <;> omega
      have cell:∀i,i<m->∃cs',oA w le cs'/\∀j,j<le.length->w.cell? (a.add (i*le.length+j))=cs'[j]?:=by
       intro i him;obtain⟨cs',hcs,ht⟩:=hi i him;obtain⟨_,hcl,hat⟩:=World.cells?_some hcs;refine⟨cs',ih e le nn cs' _ hle ht,λj hj=>?_⟩;rw[<- Go.Deep.add_add,<- hc.1];exact hat j (by rw[hc.1];exact hj)
      have sp:a.spot=none/\a.block<w.heap.size:=by
       obtain⟨cs',h1,h2⟩:=cell 0 ω;have e1:=(tP h1).1;have h3:=h2 0 hc.2;rw[List.getElem?_eq_getElem ω] at h3;have hs:=World.cell?_spot h3;have hs':a.spot=none:=by simpa [Addr.add] using hs
       refine⟨hs',?_⟩;have hbl:(a.add (0*le.length+0)).block=a.block:=by unfold Addr.add;split <;> rfl
       unfold World.cell? at h3;rw[hbl] at h3;rcases Nat.lt_or_ge a.block w.heap.size with hlt | hge
       ·exact hlt
       ·rw[Array.getElem?_eq_none hge] at h3;simp at h3
      obtain⟨b,o,s⟩:=a;simp only at sp;obtain⟨rfl,hblk⟩:=sp;refine⟨b,o,rfl,hblk,λi j hi' hj=>?_⟩;obtain⟨cs',h1,h2⟩:=cell i ω;obtain⟨e1,e2⟩:=tP h1;have h3:=h2 j hj;rw[dI,List.getElem?_eq_getElem ω] at h3;exact⟨_,h3,e2 j _ _ (List.getElem?_eq_getElem ω)⟩
    ·cases hl
   ·rename_i fa hu;split at hl
    ·cases hl
    rename_i lf0 hl0;split at hl;rotate_left
    ·cases hl
    rename_i hct
    cases hl
    obtain⟨xs,m,rfl,_,hcl,hxl,hf⟩:=DataW.trod_struct hu h;have key:∀(fs:List Field) (o:Nat) (l':List CS),flatL (oL P n) P fs o=some l'->(∀fd∈fs,∃y,DataW.trod enc P w base spare held m fd.type ((cs.drop fd.offset).take (P.cellsOf fd.type))=some y)->
     oA w l' ((cs.drop o).take l'.length):=by
     intro fs
     induction fs with
     | nil=>
       intro o l' h1 _;simp[flatL] at h1;subst h1;simp[oA]
     | cons fd fs ihf=>
       intro o l' h1 h2;simp only [flatL] at h1;split at h1
       ·cases h1
       rename_i lf hlf;split at h1
       ·rename_i hc;obtain⟨rfl,hc2⟩:=hc
        cases hq:flatL (oL P n) P fs (fd.offset+lf.length) with
        | none=>rw[hq] at h1;simp at h1
        | some lr=>
          rw[hq] at h1;simp at h1;subst h1;obtain⟨y,hy⟩:=h2 fd τ;have g1:=ih _ _ _ _ _ hlf hy;have g2:=ihf _ _ hq λfd' hfd'=>h2 fd' (by simp[hfd']);rw[hc2] at g1;have g3:=mD g1 g2;rw[List.length_append,List.take_add,List.drop_drop];exact g3
       ·cases h1
    have hlen:∀fd∈fa.toList,∃y,DataW.trod enc P w base spare held m fd.type ((cs.drop fd.offset).take (P.cellsOf fd.type))=some y:=by
     intro fd hfd;obtain⟨i,hi,rfl⟩:=List.getElem_of_mem hfd;have hi':i<fa.size:=by simpa using hi
     have:=hf i fa[i] (Array.getElem?_eq_getElem hi');rw[List.getElem?_eq_getElem ω] at this;exact⟨_,by simpa using this⟩
    have:=key fa.toList 0 l hl0 hlen;simp only [List.drop_zero] at this
    rwa [List.take_of_length_le ω] at this
   ·rename_i m e hu;split at hl
    ·cases hl
    rename_i le hle;split at hl;rotate_left
    ·cases hl
    rename_i hc
    cases hl
    obtain⟨xs,q,rfl,_,hcl,hxl,hf⟩:=DataW.trod_array hu h;have key:∀d k,k+d=m->oA w (bBl le d) (cs.drop (k*le.length)):=by
     intro d
     induction d with
     | zero=>
       intro k hk;rw[List.drop_of_length_le (by rw[hcl,hc.2];exact Nat.mul_le_mul_right _ ω)];rfl
     | succ d ihd=>
       intro k hk;have h1:=hf k ω;rw[List.getElem?_eq_getElem ω] at h1;have g1:=ih _ _ _ _ _ hle h1;rw[hc.1] at g1;have g2:=ihd (k+1) ω;have g3:=mD g1 g2;have e:cs.drop (k*le.length)=(cs.drop (k*le.length)).take le.length++cs.drop ((k+1)*le.length):=by
        rw[show(k+1)*le.length=k*le.length+le.length from by rw[Nat.add_mul];omega,<- List.drop_drop,List.take_append_drop]
       rw[e];exact g3
    simpa using key m 0 ω
   ·cases hl
theorem aB1 {n:Nat} {t:TypeId} {l:List CS} {v:Value} {d:DataW H} {p:List MemPlace} (hf:oL P n t=some l) (h:DataW.Trod enc P w base spare held t v d p):oA w l v.cells.toList:=by
 obtain⟨fuel,hf'⟩:=h;exact aVq n t l fuel _ _ hf hf'
theorem qX (hl:laidOutB P=true) {W W':World} {sp:Nat->Bool} (hb:Below W.heap.size W W'):∀(ts:List TypeId) (vs:List Value) (ds:List (DataW H)) (ps:List MemPlace),
 (∀t∈ts,P.readableRec t=true/\t<P.types.size)->DataW.TrodAll enc P W 0 (λ_=>true) true ts vs ds ps->(∀p∈ps,p.block<W.heap.size)->(∀p∈ps,sp p.block=true)->DataW.TrodAll enc P W' 0 sp true ts vs ds ps
 | [],vs,ds,ps,_,h,_,_=>by
   obtain⟨rfl,rfl,rfl⟩:=trodAll_nil h;exact rfl
 | t::ts,vs,ds,ps,hr,h,hlt,hsp=>by
   obtain⟨v,vs',d,ds',p,q,rfl,rfl,rfl,h1,h2⟩:=trodAll_cons h;obtain⟨r1,r2⟩:=hr t τ;exact⟨p,q,WideElems.Trod_stays hl r1 r2 h1 (λx hx=>hb.same (hlt x (by simp[hx]))) (λx hx=>hsp x (by simp[hx])),qX hl hb ts vs' ds' q (λt' ht'=>hr t' (by simp[ht'])) h2 (λx hx=>hlt x (by simp[hx])) (λx hx=>hsp x (by simp[hx])),rfl⟩
theorem aSv {f:Func} {s:ChangeSpec} {W W':World} {args:Array Value} {ds:List (DataW H)} {p:List MemPlace} {ts:List TypeId} {tb:TypeId} (hl:laidOutB P=true) (hts:f.params.toList=ts) (hrec:∀t∈ts,P.readableRec t=true/\t<P.types.size)
 (hres:f.resultTypes=#[tb]) (htb:P.underlying tb=some .bool) (hv:s.vars=[]) (hs:s.fn H (ds++[])={results:=[.lit (.bool true)],args:=ds}) (hW:DataW.Whole enc P f.params.toList s.vars false W args.toList ds [] p) (hb:Below W.heap.size W W') :
 s.post enc P f false true false false W args (.bool true) W':=by
 have hlt:∀x∈p,x.block<W.heap.size:=λx hx=>hW.lt x hx;have hold:∀x∈p,(λb=>decide (b<W.heap.size)) x.block=true:=λx hx=>by simpa using hlt x hx
 have hA:DataW.TrodAll enc P W 0 (λ_=>true) true ts args.toList ds p:=by
  obtain⟨p',q,h1,h2,h3,_,_⟩:=hW;rw[hv] at h2;obtain⟨_,rfl⟩:=trodVars_none h2;rw[hts] at h1;simpa [h3] using h1
 have hargs:∀sp:Nat->Bool,(∀x∈p,sp x.block=true)->DataW.TrodAll enc P W' 0 sp true f.params.toList args.toList (s.fn H (ds++[])).args p:=λsp hsp=>by
  rw[hts,hs];exact qX hl hb ts _ _ _ hrec hA hlt hsp
 have hvars:∀sp:Nat->Bool,DataW.TrodVars enc P W' sp s.vars (s.fn H (ds++[])).vars []:=λsp=>by
  rw[hv,hs];rfl
 have hbool:∀(b:Nat) (sp:Nat->Bool) (hd:Bool),DataW.TrodAll enc P W' b sp hd f.resultTypes.toList ((Value.bool true).resultList f.resultTypes.size) (s.fn H (ds++[])).results []:=λb sp hd=>by
  rw[hres,hs];exact trodAll_mk1 ⟨1,by simp[DataW.trod,Value.cells,htb]⟩
 refine⟨ds,[],p,[],p,[],hW,hbool _ _ _,hargs _ hold,hvars _,World.keptBut_mono (λx hx=>⟨hx,by simpa using hx⟩) (hb.frame (·∈p)),λ_=>?_⟩;obtain⟨_,_,_,_,_,hz,hn⟩:=hW;refine⟨ok_one hres rfl (by simp[Value.okWide,htb,Cell.okWide,Cell.ok]),_,_,([]++p)++[],⟨[]++p,[],trodAll_append (hargs _ (λ_ _=>rfl)) (hbool _ _ _),hvars _,rfl,?_,?_⟩,?_⟩
 ·intro b off hp;have hin:MemPlace.cell b off∈p:=by simpa using hp
  rw[hb.frozen (hlt _ hin)];exact hz b off hin
 ·intro ha;cases ha
 ·intro x hx _;simpa using hx
theorem vN:∀{ts:List TypeId} {vs:List Value} {ds:List (DataW H)} {ps:List MemPlace},DataW.TrodAll enc P w base spare held ts vs ds ps->ds.length=ts.length
 | [],vs,ds,ps,h=>by
   obtain⟨rfl,rfl,rfl⟩:=trodAll_nil h;rfl
 | t::ts,vs,ds,ps,h=>by
   obtain⟨v,vs',d,ds',p,q,rfl,rfl,rfl,h1,h2⟩:=trodAll_cons h;simp[vN h2]
def vi:Value->Int
 | .int _ n=>n
 | _=>0
theorem bN {k:IntKind} {v:Value} (h:fI w (.sc (.int k)) v):v=.int k (vi v):=by
 obtain⟨n,rfl,_⟩:=h;rfl
theorem aSi {v:Value} (h:fI w (.sc (.int .u8)) v):0<=vi v/\vi v<256:=by
 obtain⟨n,rfl,hw⟩:=h;simp[Lit.wf,IntKind.min,IntKind.max,IntKind.bits,IntKind.signed] at hw;simp only [vi];omega
theorem iE {k:Nat} {fs:Nat->CS} {v:Value} (h:fI w (.sl k fs) v):∃(n:Nat) (cv:Nat->Nat->Value),n<=maxLen/\(∀i j,i<n->j<k->fI w (fs j) (cv i j))/\
 ∀get:Nat->Nat->RV,(∀i j,i<n->j<k->(cv i j).oneCell'=true/\(get i j).rel (λb=>b<w.heap.size) w (cv i j))->∀σ,(SV.r (.rs k n get)).rel σ (λb=>b<w.heap.size) w v:=by
 obtain⟨A,n,c,rfl,hnc,hcm,hA⟩:=h;rcases Nat.eq_zero_or_pos n with h0 | h0
 ·subst h0;exact⟨0,λ_ _=>undef,Nat.zero_le _,λi j hi=>ω,λget _ σ=>⟨A,c,rfl,Nat.zero_le _,λh=>ω⟩⟩
 ·obtain⟨b,o,rfl,hb,hc⟩:=hA h0;refine⟨n,λi j=>(w.cell? ⟨b,o+(i*k+j),none⟩).getD undef,ω,λi j hi hj=>?_,λget hg σ=>⟨_,c,rfl,hnc,λ_=>⟨b,o,rfl,hb,λi j hi hj=>?_⟩⟩⟩
  ·obtain⟨u,h1,h2⟩:=hc i j hi hj;simp only [h1,Option.getD_some];exact h2
  ·obtain⟨u,h1,h2⟩:=hc i j hi hj;have:=hg i j hi hj;simp only [h1,Option.getD_some] at this;exact⟨u,h1,this.1,this.2⟩
end
end Go.Gx
namespace Go.Gx
open Go.RowKit
mutual
def SV.ren (ρ:Nat->Nat):SV->SV
 | .r x=>.r x
 | .ptr q row k fld=>.ptr (ρ q) row k fld
 | .sl q k lo n c=>.sl (ρ q) k lo n c
 | .mp q=>.mp (ρ q)
 | .fn f fi ca=>.fn f (SV.renL ρ fi) (SV.renL ρ ca)
 | .agg l=>.agg (SV.renL ρ l)
 | .tup l=>.tup (SV.renL ρ l)
def SV.renL (ρ:Nat->Nat):List SV->List SV
 | []=>[]
 | s::l=>s.ren ρ::SV.renL ρ l
end
def Reg.ren (ρ:Nat->Nat):Reg->Reg
 | .box l=>.box (SV.renL ρ l)
 | .vec e k n g=>.vec e k n λi j=>(g i j).ren ρ
 | .map has val st=>.map has (λa=>(val a).ren ρ) st
 | .iter m f c all left la=>.iter (m.ren ρ) f c all left la
section
variable {σ:Sig} {Z:Nat->Prop} {w:World} {ρ:Nat->Nat}
mutual
theorem SV.rel_ren:∀(s:SV) (y:Value),(s.ren ρ).rel σ Z w y↔s.rel (λi=>σ (ρ i)) Z w y
 | .r x,y=>Iff.rfl
 | .ptr ..,y=>Iff.rfl
 | .sl ..,y=>Iff.rfl
 | .mp ..,y=>Iff.rfl
 | .fn f fi ca,y=>by
   simp only [SV.ren,SV.rel];exact⟨λ⟨vs,ws,e,h1,h2⟩=>⟨vs,ws,e,(SV.relL_ren fi vs).1 h1,(SV.relL_ren ca ws).1 h2⟩,λ⟨vs,ws,e,h1,h2⟩=>⟨vs,ws,e,(SV.relL_ren fi vs).2 h1,(SV.relL_ren ca ws).2 h2⟩⟩
 | .agg l,y=>by
   simp only [SV.ren,SV.rel];exact⟨λ⟨vs,e,h1,h2⟩=>⟨vs,e,h1,(SV.relL_ren l vs).1 h2⟩,λ⟨vs,e,h1,h2⟩=>⟨vs,e,h1,(SV.relL_ren l vs).2 h2⟩⟩
 | .tup l,y=>by
   simp only [SV.ren,SV.rel];exact⟨λ⟨vs,e,h2⟩=>⟨vs,e,(SV.relL_ren l vs).1 h2⟩,λ⟨vs,e,h2⟩=>⟨vs,e,(SV.relL_ren l vs).2 h2⟩⟩
theorem SV.relL_ren:∀(l:List SV) (ys:List Value),SV.relL σ Z w (SV.renL ρ l) ys↔SV.relL (λi=>σ (ρ i)) Z w l ys
 | [],ys=>Iff.rfl
 | s::l,ys=>by
   simp only [SV.renL,SV.relL];exact⟨λ⟨v,vs',e,h1,h2⟩=>⟨v,vs',e,(SV.rel_ren s v).1 h1,(SV.relL_ren l vs').1 h2⟩,λ⟨v,vs',e,h1,h2⟩=>⟨v,vs',e,(SV.rel_ren s v).2 h1,(SV.relL_ren l vs').2 h2⟩⟩
end
theorem pQ {L:rY} {R:Reg}:RegOK σ Z w L (R.ren ρ)↔RegOK (λi=>σ (ρ i)) Z w L R:=by
 cases R with
 | box l=>
   simp only [Reg.ren,RegOK];exact⟨λ⟨b,cs,ty,h1,h2,h3,h4⟩=>⟨b,cs,ty,h1,h2,h3,(SV.relL_ren l cs).1 h4⟩,λ⟨b,cs,ty,h1,h2,h3,h4⟩=>⟨b,cs,ty,h1,h2,h3,(SV.relL_ren l cs).2 h4⟩⟩
 | vec e k n g=>simp only [Reg.ren,RegOK,SV.rel_ren]
 | map has val st=>simp only [Reg.ren,RegOK,SV.rel_ren]
 | iter m f c all left la=>simp only [Reg.ren,RegOK,SV.rel_ren]
end
def iS (σ:Sig) (M:Mem) (b:Nat):Prop:=∃r R L,M r=some R/\σ r=some L/\L.at_=some b
abbrev bD (l:List Reg):Mem:=fD (l.map some)
def OwnS (P:Program) (np:Nat) (f:FuncId) (Rs:List Reg) (args:List SV) (S:SV) (Rs':List Reg):Prop:=
 ∀(B:Nat->Prop) (σ:Sig) (w:World) (vs:List Value),MOK B (iS σ (bD Rs)) w.heap.size σ (bD Rs) (eF Rs.length) w->SV.relL σ (Zof B σ (bD Rs) w) w args vs->
  (callFunc f vs.toArray).run P w=.ok (.enter f vs.toArray) w/\
  Calls P f vs.toArray w λe w'=>∃y σ',e=.returned y/\MOK B (iS σ (bD Rs)) w.heap.size σ' (bD Rs') (eF Rs'.length) w'/\S.rel σ' (Zof B σ' (bD Rs') w') w' y/\FrS true (iS σ (bD Rs)) w.heap.size w w'/\
   ∀r,r<np->σ' r=σ r
abbrev Own (P:Program) (f:FuncId) (Rs:List Reg) (args:List SV) (S:SV) (Rs':List Reg):Prop:=OwnS P 0 f Rs args S Rs'
theorem cE (l:List Reg) (r:Nat):bD l r=l[r]?:=by
 simp only [bD,fD,List.getElem?_map]
 cases l[r]? <;> rfl
def lQ (M:Mem) (ρ:Nat->Nat):List Nat->List Reg->Prop
 | [],[]=>True
 | q::l,R::Rs=>Reg.sub (M q) (some (R.ren ρ))/\lQ M ρ l Rs
 | _,_=>False
def vQ (M:Mem) (s:SV) (ρl:List Nat) (S:SV) (Rs':List Reg):Prop:=
 ρl.Nodup/\∀N:Nat,s.sub (S.ren λi=>(ρl[i]?).getD N)/\lQ M (λi=>(ρl[i]?).getD N) ρl Rs'
theorem aBn {M:Mem} {ρ:Nat->Nat}:∀{ρl:List Nat} {Rs:List Reg},lQ M ρ ρl Rs->ρl.length=Rs.length/\∀(i:Nat) (R:Reg),Rs[i]? =some R->∃q,ρl[i]? =some q/\Reg.sub (M q) (some (R.ren ρ))
 | [],[],_=>⟨rfl,τ⟩
 | [],_::_,h=>h.elim
 | _::_,[],h=>h.elim
 | q::l,R::Rs,h=>by
   obtain⟨h1,h2⟩:=aBn h.2;refine⟨by simp[h1],λi R' hi=>?_⟩
   cases i with
   | zero=>simp at hi;subst hi;exact⟨q,τ,h.1⟩
   | succ i=>simpa using h2 i R' (by simpa using hi)
theorem aBz {l:List Nat} (h:l.Nodup) {i j:Nat} (hi:i<l.length) (hj:j<l.length) (e:l[i]=l[j]):i=j:=by
 have hp:=List.pairwise_iff_getElem.1 h;rcases Nat.lt_trichotomy i j with h1 | h1 | h1
 ·exact absurd e (hp i j hi hj h1)
 ·exact h1
 ·exact absurd e.symm (hp j i hj hi h1)
section
variable {P:Program} {T:Tab}
theorem MOK.export {B W F:Nat->Prop} {n0:Nat} {σ:Sig} {M:Mem} {w:World} (hm:MOK B W n0 σ M F w) {ρl:List Nat} {Rs:List Reg} {N:Nat} (hN:σ N=none) (hnd:ρl.Nodup) (hx:lQ M (λi=>(ρl[i]?).getD N) ρl Rs) :
 MOK B W n0 (λi=>σ ((ρl[i]?).getD N)) (bD Rs) (eF Rs.length) w/\∀b,Zof B σ M w b->Zof B (λi=>σ ((ρl[i]?).getD N)) (bD Rs) w b:=by
 obtain⟨hlen,hget⟩:=aBn hx;have hk:∀r R,bD Rs r=some R->∃q R1,ρl[r]? =some q/\M q=some R1/\Reg.sub (some R1) (some (R.ren λi=>(ρl[i]?).getD N)):=by
  intro r R h;rw[cE] at h;obtain⟨q,h1,h2⟩:=hget r R h
  cases hq:M q with
  | none=>rw[hq] at h2;simp[Reg.sub] at h2
  | some R1=>rw[hq] at h2;exact⟨q,R1,h1,hq,h2⟩
 have hz:∀b,Zof B σ M w b->Zof B (λi=>σ ((ρl[i]?).getD N)) (bD Rs) w b:=λb hb=>⟨hb.1,λr R L h1 h2 h3=>by
  obtain⟨q,R1,e1,e2,_⟩:=hk r R h1;simp only [e1,Option.getD_some] at h2;exact hb.2 q R1 L e2 h2 h3⟩
 refine⟨⟨hm.newB,λr hr=>?_,λr R h=>?_,λr r' R R' L L' b h1 h2 h3 h4 h5 h6=>?_,λr R L b h1 h2 h3=>?_⟩,hz⟩
 ·have:ρl[r]? =none:=List.getElem?_eq_none (by have:Rs.length<=r:=hr;omega);simp[this,hN]
 ·obtain⟨q,R1,e1,e2,e3⟩:=hk r R h;obtain⟨L,g1,g2⟩:=hm.reg q R1 e2;refine⟨L,by simp[e1,g1],?_⟩;exact pQ.1 (Reg.sub_ok e3 hz g2)
 ·obtain⟨q,R1,e1,e2,_⟩:=hk r R h1;obtain⟨q',R2,e3,e4,_⟩:=hk r' R' h2;simp only [e1,Option.getD_some] at h3;simp only [e3,Option.getD_some] at h4;have:=hm.inj q q' R1 R2 L L' b e2 e4 h3 h4 h5 h6;subst this;obtain⟨l1,l2⟩:=List.getElem?_eq_some_iff.1 e1;obtain⟨l3,l4⟩:=List.getElem?_eq_some_iff.1 e3;exact aBz hnd l1 l3 (l2.trans l4.symm)
 ·obtain⟨q,R1,e1,e2,_⟩:=hk r R h1;simp only [e1,Option.getD_some] at h2;exact hm.own q R1 L b e2 h2 h3
def lG:Nat->Nat->List Nat->Prop
 | 0,_,_=>True
 | np+1,i,q::l=>q=i/\lG np (i+1) l
 | _+1,_,[]=>False
theorem rM:∀{np i:Nat} {l:List Nat},lG np i l->∀j,j<np->l[j]? =some (i+j)
 | 0,_,_,_,j,hj=>ω
 | np+1,i,q::l,h,0,_=>by simp[h.1]
 | np+1,i,q::l,h,j+1,hj=>by
   have:=rM h.2 j ω;simp[this];omega
 | _+1,_,[],h,_,_=>h.elim
theorem bG (hT:aX P T) {f:FuncId} {fn:Func} (hf:P.funcs[f]? =some fn) {c:Code} (hb:fn.body=some c) (hn:(fn.name== "runtime.NumGoroutine")=false) {args:List SV} (hlen:args.length<=fn.ntmps) {Rs Rs':List Reg} {S:SV}
 {N:Nat} {rs:List ResultVar} (hN:fn.ntmps=N) (hrs:fn.results.toList=rs) (np:Nat) (hnp:np<=Rs.length) (h:GC P T ⟨N,np,gG⟩ c [] (mQ T rs λs M=>∃ρl,lG np 0 ρl/\vQ M s ρl S Rs') (kT args) (bD Rs) Rs.length):OwnS P np f Rs args S Rs':=by
 subst hN;subst hrs;intro B σ w vs hm ha;refine⟨fB hf hb hn _,?_⟩;refine(gA hT hf hb hlen hnp hm ha h).mono λe w' h'=>?_;obtain⟨s,y,σ',M',nx',rfl,⟨ρl,hk,h1,h2⟩,hrel,hm',hfr,hpin⟩:=h';obtain⟨h3,h4⟩:=h2 nx';obtain⟨m1,m2⟩:=hm'.export (hm'.fresh nx' (Nat.le_refl nx')) h1 h4;refine⟨y,_,rfl,m1,SV.rel_mono (λ_ _ h=>h) (λb hb=>⟨m2 b hb,rfl⟩) _ _ ((SV.rel_ren _ _).1 (SV.sub_rel _ _ _ h3 hrel)),⟨hfr.os,hfr.tape,hfr.output,hfr.size,hfr.drawn,hfr.block⟩,λr hr=>?_⟩;have:=rM hk r hr;simp only [this,Nat.zero_add,Option.getD_some];exact hpin r hr
theorem aNg (hT:aX P T) {f:FuncId} {fn:Func} (hf:P.funcs[f]? =some fn) {c:Code} (hb:fn.body=some c) (hn:(fn.name== "runtime.NumGoroutine")=false) {args:List SV} (hlen:args.length<=fn.ntmps) {Rs Rs':List Reg} {S:SV}
 {N:Nat} {rs:List ResultVar} (hN:fn.ntmps=N) (hrs:fn.results.toList=rs) (h:GC P T ⟨N,0,gG⟩ c [] (mQ T rs λs M=>∃ρl,vQ M s ρl S Rs') (kT args) (bD Rs) Rs.length):Own P f Rs args S Rs':=by
 subst hN;subst hrs;intro B σ w vs hm ha;refine⟨fB hf hb hn _,?_⟩;refine(gA hT hf hb hlen (Nat.zero_le _) hm ha h).mono λe w' h'=>?_;obtain⟨s,y,σ',M',nx',rfl,⟨ρl,h1,h2⟩,hrel,hm',hfr,hpin⟩:=h';obtain⟨h3,h4⟩:=h2 nx';obtain⟨m1,m2⟩:=hm'.export (hm'.fresh nx' (Nat.le_refl nx')) h1 h4;exact⟨y,_,rfl,m1,SV.rel_mono (λ_ _ h=>h) (λb hb=>⟨m2 b hb,rfl⟩) _ _ ((SV.rel_ren _ _).1 (SV.sub_rel _ _ _ h3 hrel)),⟨hfr.os,hfr.tape,hfr.output,hfr.size,hfr.drawn,hfr.block⟩,λr hr=>absurd hr (Nat.not_lt_zero r)⟩
def oJ:List Nat->Mem->Mem
 | [],M=>M
 | q::l,M=>oJ l (bH M q none)
def aCv:Nat->List Reg->(Nat->Nat)->Mem->Mem
 | _,[],_,M=>M
 | nx,R::l,ρ,M=>aCv (nx+1) l ρ (bH M nx (some (R.ren ρ)))
theorem aFd:∀(l:List Nat) (M:Mem) (r:Nat),oJ l M r=if r∈l then none else M r
 | [],M,r=>by simp[oJ]
 | q::l,M,r=>by
   simp only [oJ,aFd l,aEa,List.mem_cons];by_cases h1:r∈l <;> by_cases h2:r=q <;> simp[h1,h2]
theorem aCw (ρ:Nat->Nat):∀(l:List Reg) (nx:Nat) (M:Mem) (r:Nat),aCv nx l ρ M r=if nx<=r/\r<nx+l.length then (l[r - nx]?).map (Reg.ren ρ) else M r
 | [],nx,M,r=>by simp[aCv];omega
 | R::l,nx,M,r=>by
   simp only [aCv,aCw ρ l,aEa,List.length_cons];by_cases h1:nx+1<=r/\r<nx+1+l.length
   ·rw[if_pos h1,if_pos ω,show r - nx=(r - (nx+1))+1 from ω];simp
   ·rw[if_neg h1];by_cases h2:r=nx
    ·subst h2;simp
    ·rw[if_neg h2,if_neg ω]
def atM (M:Mem) (ρ:Nat->Nat):List Nat->List Reg->Prop
 | [],[]=>True
 | q::l,R::Rs=>M q=some (R.ren ρ)/\atM M ρ l Rs
 | _,_=>False
theorem aJ2 {M:Mem} {ρ:Nat->Nat}:∀{ρl:List Nat} {Rs:List Reg},atM M ρ ρl Rs->ρl.length=Rs.length/\∀(i:Nat) (R:Reg),Rs[i]? =some R->∃q,ρl[i]? =some q/\M q=some (R.ren ρ)
 | [],[],_=>⟨rfl,τ⟩
 | [],_::_,h=>h.elim
 | _::_,[],h=>h.elim
 | q::l,R::Rs,h=>by
   obtain⟨h1,h2⟩:=aJ2 h.2;refine⟨by simp[h1],λi R' hi=>?_⟩
   cases i with
   | zero=>simp at hi;subst hi;exact⟨q,τ,h.1⟩
   | succ i=>simpa using h2 i R' (by simpa using hi)
def tV (ρ:Nat->Nat):Nat->List Reg->Mem->Mem
 | _,[],M=>M
 | i,R::l,M=>tV ρ (i+1) l (bH M (ρ i) (some (R.ren ρ)))
theorem aEs (ρ:Nat->Nat):∀(l:List Reg) (i:Nat) (M:Mem) (r:Nat) (R:Reg),tV ρ i l M r=some R->
 (∃j R',l[j]? =some R'/\r=ρ (i+j)/\R=R'.ren ρ)\/(M r=some R/\∀j,j<l.length->r≠ρ (i+j))
 | [],i,M,r,R,h=>.inr ⟨h,τ⟩
 | R0::l,i,M,r,R,h=>by
   rcases aEs ρ l (i+1) _ r R h with ⟨j,R',h1,h2,h3⟩ | ⟨h1,h2⟩
   ·exact .inl ⟨j+1,R',by simpa using h1,by rw[h2];congr 1;omega,h3⟩
   ·by_cases hr:r=ρ i
    ·subst hr;rw[aZ] at h1;cases h1;exact .inl ⟨0,R0,τ,τ,rfl⟩
    ·rw[aW _ _ hr] at h1;refine .inr ⟨h1,λj hj=>?_⟩
     cases j with
     | zero=>simpa using hr
     | succ j=>
       have:=h2 j (by simpa using hj)
       rwa [show i+(j+1)=i+1+j from ω]
def rS (cp nx:Nat) (ρl:List Nat) (i:Nat):Nat:=if i<cp then (ρl[i]?).getD nx else nx+i
def OwnSC (P:Program) (uu:Bool) (C:World->Prop) (np:Nat) (f:FuncId) (Rs:List Reg) (args:List SV) (S:SV) (Rs':List Reg):Prop:=
 ∀(B:Nat->Prop) (σ:Sig) (w:World) (vs:List Value),C w->MOK B (iS σ (bD Rs)) w.heap.size σ (bD Rs) (eF Rs.length) w->SV.relL σ (Zof B σ (bD Rs) w) w args vs->
  (callFunc f vs.toArray).run P w=.ok (.enter f vs.toArray) w/\
  Calls P f vs.toArray w λe w'=>∃y σ',e=.returned y/\MOK B (iS σ (bD Rs)) w.heap.size σ' (bD Rs') (eF Rs'.length) w'/\S.rel σ' (Zof B σ' (bD Rs') w') w' y/\FrS uu (iS σ (bD Rs)) w.heap.size w w'/\
   ∀r,r<np->σ' r=σ r
theorem oE {uu:Bool} {C:World->Prop} {N:cZ} {cp:Nat} {f:FuncId} {Rs Rs':List Reg} {args0 args:List SV} {S:SV} {M:Mem} {nx:Nat} {K:SV->Mem->Nat->(SV->SV)->Prop} (ρl:List Nat) (hp:OwnSC P uu C cp f Rs args0 S Rs') (hu:N.good.u=true->uu=true) (hC:∀B W (w0:W0) (w:World),N.good.p B W w0->w0.heap.size<=w.heap.size->C w) (hcp:cp<=Rs.length) (hnd:ρl.Nodup)
 (ha:args=SV.renL (λi=>(ρl[i]?).getD nx) args0) (hM:atM M (λi=>(ρl[i]?).getD nx) ρl Rs)
 (hK:K (S.ren (rS cp nx ρl)) (tV (rS cp nx ρl) 0 Rs' (oJ ρl M)) (nx+Rs'.length) id):dV P N f args M nx K:=by
 intro B W w0 σ w vs hm hn0 hnp hgd hrel;obtain⟨hlen,hget⟩:=aJ2 hM;have hget':∀(i:Nat) (R:Reg),bD Rs i=some R->∃q,ρl[i]? =some q/\M q=some (R.ren λi=>(ρl[i]?).getD nx):=λi R h=>hget i R (by rw[<- cE];exact h)
 let σ1:Sig:=λi=>σ ((ρl[i]?).getD nx)
 have hσ1:∀i q,ρl[i]? =some q->σ1 i=σ q:=λi q h=>by simp[σ1,h]
 have hW:∀b,iS σ1 (bD Rs) b->∃q R L,q∈ρl/\M q=some R/\σ q=some L/\L.at_=some b:=by
  rintro b ⟨r,R,L,h1,h2,h3⟩;obtain⟨q,e1,e2⟩:=hget' r R h1;rw[hσ1 r q e1] at h2;exact⟨q,_,L,List.mem_of_getElem? e1,e2,h2,h3⟩
 have hW':∀q R L b,q∈ρl->M q=some R->σ q=some L->L.at_=some b->iS σ1 (bD Rs) b:=by
  intro q R L b h1 h2 h3 h4;obtain⟨i,hi,rfl⟩:=List.getElem_of_mem h1;have e0:ρl[i]? =some ρl[i]:=List.getElem?_eq_getElem hi;exact⟨i,Rs[i]' ω,L,by rw[cE];exact List.getElem?_eq_getElem ω,by rw[hσ1 i _ e0];exact h3,h4⟩
 let B1:Nat->Prop:=λb=>Zof B σ M w b\/iS σ1 (bD Rs) b\/w.heap.size<=b
 have hz1:∀b,Zof B σ M w b->Zof B1 σ1 (bD Rs) w b:=λb hb=>⟨⟨hb.1.1,.inl hb⟩,λr R L h1 h2 h3=>by
  obtain⟨q,e1,e2⟩:=hget' r R h1;rw[hσ1 r q e1] at h2;exact hb.2 q _ L e2 h2 h3⟩
 have hm1:MOK B1 (iS σ1 (bD Rs)) w.heap.size σ1 (bD Rs) (eF Rs.length) w:=by
  refine⟨λb hb=>.inr (hb.symm),λr hr=>?_,λr R h=>?_,λr r' R R' L L' b h1 h2 h3 h4 h5 h6=>?_,λr R L b h1 h2 h3=>.inl ⟨r,R,L,h1,h2,h3⟩⟩
  ·have:ρl[r]? =none:=List.getElem?_eq_none (by have:Rs.length<=r:=hr;omega);simp[σ1,this,hm.fresh nx (Nat.le_refl nx)]
  ·obtain⟨q,e1,e2⟩:=hget' r R h;obtain⟨L,g1,g2⟩:=hm.reg q _ e2;refine⟨L,by rw[hσ1 r q e1];exact g1,?_⟩;exact(pQ.1 g2).mono (λ_ _ h=>h) (λb hb=>⟨hz1 b hb,rfl⟩) (λ_ _=>rfl)
  ·obtain⟨q,e1,e2⟩:=hget' r R h1;obtain⟨q',e3,e4⟩:=hget' r' R' h2;rw[hσ1 r q e1] at h3;rw[hσ1 r' q' e3] at h4;have:=hm.inj q q' _ _ L L' b e2 e4 h3 h4 h5 h6;subst this;obtain⟨l1,l2⟩:=List.getElem?_eq_some_iff.1 e1;obtain⟨l3,l4⟩:=List.getElem?_eq_some_iff.1 e3;exact aBz hnd l1 l3 (l2.trans l4.symm)
 have ha1:SV.relL σ1 (Zof B1 σ1 (bD Rs) w) w args0 vs:=by
  rw[ha] at hrel;exact SV.relL_mono (λ_ _ h=>h) (λb hb=>⟨hz1 b hb,rfl⟩) _ _ ((SV.relL_ren _ _).1 hrel)
 obtain⟨c1,c2⟩:=hp B1 σ1 w vs (hC B W w0 w hgd hn0) hm1 ha1;refine .inl ⟨c1,c2.mono λe w' h'=>?_⟩;obtain⟨y,σ',rfl,hm',hr,hf,hpin⟩:=h';have hBW:∀b,iS σ1 (bD Rs) b->W b\/w0.heap.size<=b:=λb hb=>by
  obtain⟨q,R,L,h1,h2,h3,h4⟩:=hW b hb;exact hm.own q R L b h2 h3 h4
 have hB:∀b,B1 b->B b:=λb hb=>by
  rcases hb with hb | hb | hb
  ·exact hb.1.2
  ·exact hm.newB b (hBW b hb).symm
  ·exact hm.newB b (.inl ω)
 let ρ:Nat->Nat:=rS cp nx ρl
 let σ2:Sig:=λr=>if nx<=r then σ' (r - nx) else σ r
 let M2:Mem:=tV ρ 0 Rs' (oJ ρl M)
 have hltσ:∀r L,σ r=some L->r<nx:=λr L h=>by
  rcases Nat.lt_or_ge r nx with h1 | h1
  ·exact h1
  ·rw[hm.fresh r h1] at h;cases h
 have hσ2':∀i,σ2 (ρ i)=σ' i:=by
  intro i;show σ2 (rS cp nx ρl i)=_;unfold rS;by_cases hi:i<cp
  ·rw[if_pos hi,hpin i hi];have hil:i<ρl.length:=ω;have e0:ρl[i]? =some ρl[i]:=List.getElem?_eq_getElem hil;rw[e0];have hR:bD Rs i=some (Rs[i]' ω):=by rw[cE];exact List.getElem?_eq_getElem ω
   obtain⟨q,e1,e2⟩:=hget' i _ hR;rw[e0] at e1;cases e1;obtain⟨L,g1,_⟩:=hm.reg _ _ e2;have hlt:=hltσ _ _ g1;simp only [Option.getD_some];rw[hσ1 i _ e0];exact if_neg ω
  ·rw[if_neg hi];simp[σ2]
 have hσ2:(λi=>σ2 (ρ i))=σ':=by
  funext i;exact hσ2' i
 have hs2:oC σ σ2:=λr L h=>by
  show(if nx<=r then _ else _)=_;rw[if_neg]
  ·exact h
  ·intro hr;rw[hm.fresh r hr] at h;cases h
 have hk2:∀r R,M2 r=some R->(∃i R',r=ρ i/\bD Rs' i=some R'/\R=R'.ren ρ)\/(r ∉ ρl/\M r=some R/\r<nx):=by
  intro r R h;rcases aEs ρ Rs' 0 _ r R h with ⟨j,R',h1,h2,h3⟩ | ⟨h1,h2⟩
  ·exact .inl ⟨j,R',by simpa using h2,by rw[cE];exact h1,h3⟩
  ·rw[aFd] at h1;split at h1
   ·cases h1
   ·rename_i hr;obtain⟨L,g1,_⟩:=hm.reg r R h1;exact .inr ⟨hr,h1,hltσ r L g1⟩
 have holdW:∀r R L b,r ∉ ρl->M r=some R->σ r=some L->L.at_=some b->b<w.heap.size/\¬iS σ1 (bD Rs) b:=by
  intro r R L b h1 h2 h3 h4;obtain⟨L',g1,g2⟩:=hm.reg r R h2;rw[h3] at g1;cases g1;refine⟨g2.block h4,λhb=>?_⟩;obtain⟨q,R1,L1,q1,q2,q3,q4⟩:=hW b hb;exact h1 (by rw[hm.inj r q R R1 L L1 b h2 q2 h3 q3 h4 q4];exact q1)
 have hnew:∀i R L b,bD Rs' i=some R->σ' i=some L->L.at_=some b->iS σ1 (bD Rs) b\/w.heap.size<=b:=λi R L b h1 h2 h3=>hm'.own i R L b h1 h2 h3;have hZW:∀b,Zof B σ M w b->¬iS σ1 (bD Rs) b:=λb hb h=>by
  obtain⟨q,R1,L1,q1,q2,q3,q4⟩:=hW b h;exact hb.2 q R1 L1 q2 q3 q4
 have hz2:∀b,Zof B σ M w b->Zof B σ2 M2 w' b:=λb hb=>⟨⟨Nat.lt_of_lt_of_le hb.1.1 hf.size,hb.1.2⟩,λr R L h1 h2 h3=>by
  rcases hk2 r R h1 with ⟨i,R',rfl,e1,_⟩ | ⟨e1,e2,e3⟩
  ·rw[hσ2' i] at h2;rcases hnew i R' L b e1 h2 h3 with h | h
   ·exact hZW b hb h
   ·have:=hb.1.1;omega
  ·have:σ2 r=σ r:=if_neg ω;rw[this] at h2;exact hb.2 r R L e2 h2 h3⟩
 have hkeep:bZ (Zof B σ M w) (Zof B σ2 M2 w') w w':=λb hb=>⟨hz2 b hb,hf.block b hb.1.1 (hZW b hb)⟩;have hz3:∀b,Zof B1 σ' (bD Rs') w' b->Zof B σ2 M2 w' b:=λb hb=>⟨⟨hb.1.1,hB b hb.1.2⟩,λr R L h1 h2 h3=>by
  rcases hk2 r R h1 with ⟨i,R',rfl,e1,_⟩ | ⟨e1,e2,e3⟩
  ·rw[hσ2' i] at h2;exact hb.2 i R' L e1 h2 h3
  ·have:σ2 r=σ r:=if_neg ω;rw[this] at h2;obtain⟨g1,g2⟩:=holdW r R L b e1 e2 h2 h3;rcases hb.1.2 with h | h | h
   ·exact h.2 r R L e2 h2 h3
   ·exact g2 h
   ·omega⟩
 refine⟨y,S.ren ρ,M2,nx+Rs'.length,σ2,id,rfl,hK,⟨hm.newB,λr hr=>?_,λr R h=>?_,λr r' R R' L L' b h1 h2 h3 h4 h5 h6=>?_,λr R L b h1 h2 h3=>?_⟩,hkeep,?_,λt z hz=>SV.rel_mono hs2 hkeep _ _ hz,⟨hf.os,hf.tape,hf.output,hf.size,hf.drawn.as hu,λb hb hw=>hf.block b ω λh=>?_⟩,ω,λr hr=>if_neg ω⟩
 ·have hr':nx+Rs'.length<=r:=hr;show(if nx<=r then _ else _)=_;rw[if_pos ω];exact hm'.fresh (r - nx) (show Rs'.length<=r - nx by omega)
 ·rcases hk2 r R h with ⟨i,R',rfl,e1,rfl⟩ | ⟨e1,e2,e3⟩
  ·obtain⟨L,g1,g2⟩:=hm'.reg i R' e1;refine⟨L,by rw[hσ2' i];exact g1,?_⟩;refine pQ.2 ?_;rw[hσ2];exact g2.mono (λ_ _ h=>h) (λb hb=>⟨hz3 b hb,rfl⟩) (λ_ _=>rfl)
  ·obtain⟨L,g1,g2⟩:=hm.reg r R e2;refine⟨L,hs2 _ _ g1,g2.mono hs2 hkeep λb hb=>?_⟩;obtain⟨q1,q2⟩:=holdW r R L b e1 e2 g1 hb;exact hf.block b q1 q2
 ·rcases hk2 r R h1 with ⟨i,R1,rfl,e1,_⟩ | ⟨e1,e2,e3⟩
  ·have g3:σ' i=some L:=by rw[<- hσ2' i];exact h3
   rcases hk2 r' R' h2 with ⟨i',R2,rfl,e1',_⟩ | ⟨e1',e2',e3'⟩
   ·have g4:σ' i'=some L':=by rw[<- hσ2' i'];exact h4
    rw[hm'.inj i i' R1 R2 L L' b e1 e1' g3 g4 h5 h6]
   ·exfalso;have:σ2 r'=σ r':=if_neg ω;rw[this] at h4;obtain⟨q1,q2⟩:=holdW r' R' L' b e1' e2' h4 h6;rcases hnew i R1 L b e1 g3 h5 with h | h
    ·exact q2 h
    ·omega
  ·have g3:σ r=some L:=by
    have:σ2 r=σ r:=if_neg ω;rw[<- this];exact h3
   rcases hk2 r' R' h2 with ⟨i',R2,rfl,e1',_⟩ | ⟨e1',e2',e3'⟩
   ·exfalso;have g4:σ' i'=some L':=by rw[<- hσ2' i'];exact h4
    obtain⟨q1,q2⟩:=holdW r R L b e1 e2 g3 h5;rcases hnew i' R2 L' b e1' g4 h6 with h | h
    ·exact q2 h
    ·omega
   ·have:σ2 r'=σ r':=if_neg ω;rw[this] at h4;exact hm.inj r r' R R' L L' b e2 e2' g3 h4 h5 h6
 ·rcases hk2 r R h1 with ⟨i,R1,rfl,e1,_⟩ | ⟨e1,e2,e3⟩
  ·have g3:σ' i=some L:=by rw[<- hσ2' i];exact h2
   rcases hnew i R1 L b e1 g3 h3 with h | h
   ·exact hBW b h
   ·right;omega
  ·have:σ2 r=σ r:=if_neg ω;rw[this] at h2;exact hm.own r R L b e2 h2 h3
 ·refine(SV.rel_ren _ _).2 ?_;rw[hσ2];exact SV.rel_mono (λ_ _ h=>h) (λb hb=>⟨hz3 b hb,rfl⟩) _ _ hr
 ·rcases hBW b h with h | h
  ·exact hw h
  ·omega
theorem cC {N:cZ} {cp:Nat} {f:FuncId} {Rs Rs':List Reg} {args0 args:List SV} {S:SV} {M:Mem} {nx:Nat} {K:SV->Mem->Nat->(SV->SV)->Prop} (ρl:List Nat) (hp:OwnS P cp f Rs args0 S Rs') (hcp:cp<=Rs.length) (hnd:ρl.Nodup)
 (ha:args=SV.renL (λi=>(ρl[i]?).getD nx) args0) (hM:atM M (λi=>(ρl[i]?).getD nx) ρl Rs)
 (hK:K (S.ren (rS cp nx ρl)) (tV (rS cp nx ρl) 0 Rs' (oJ ρl M)) (nx+Rs'.length) id):dV P N f args M nx K:=
 oE (uu:=true) (C:=λ_=>True) ρl (λB σ w vs _=>hp B σ w vs) (λ_=>rfl) (λ_ _ _ _ _ _=>trivial) hcp hnd ha hM hK
theorem aF {N:cZ} {f:FuncId} {Rs Rs':List Reg} {args0 args:List SV} {S:SV} {M:Mem} {nx:Nat} {K:SV->Mem->Nat->(SV->SV)->Prop} (ρl:List Nat) (hp:Own P f Rs args0 S Rs') (hnd:ρl.Nodup)
 (ha:args=SV.renL (λi=>(ρl[i]?).getD nx) args0) (hM:atM M (λi=>(ρl[i]?).getD nx) ρl Rs)
 (hK:K (S.ren λi=>nx+i) (tV (λi=>nx+i) 0 Rs' (oJ ρl M)) (nx+Rs'.length) id):dV P N f args M nx K:=
 cC (cp:=0) ρl hp (Nat.zero_le _) hnd ha hM (by
  have:rS 0 nx ρl=λi=>nx+i:=by funext i;simp[rS]
  rw[this];exact hK)
end
attribute [go_sem] SV.ren SV.renL Reg.ren lQ oJ aCv tV atM rS lG
end Go.Gx
namespace Go.Gx
open Go.RowKit
section
variable {P:Program} {T:Tab}
theorem aIn (hT:aX P T) {f:FuncId} {fn:Func} (hf:P.funcs[f]? =some fn) {c:Code} (hb:fn.body=some c) (hn:(fn.name== "runtime.NumGoroutine")=false) {args:List SV} (hlen:args.length<=fn.ntmps) {Rs Rs':List Reg} {S:SV}
 {N:Nat} {rs:List ResultVar} (hN:fn.ntmps=N) (hrs:fn.results.toList=rs)
 (h:GC P T ⟨N,0,gG⟩ c [] (mQ T rs λs M=>(∃ρl,vQ M s ρl S Rs')\/(s=.r (.v (.slice none 0 0))/\∃e k get,S=.sl 0 k 0 0 none/\Rs'=[.vec e k 0 get])) (kT args) (bD Rs) Rs.length):Own P f Rs args S Rs':=by
 subst hN;subst hrs;intro B σ w vs hm ha;refine⟨fB hf hb hn _,?_⟩;refine(gA hT hf hb hlen (Nat.zero_le _) hm ha h).mono λe w' h'=>?_;obtain⟨s,y,σ',M',nx',rfl,h',hrel,hm',hfr,_⟩:=h';rcases h' with ⟨ρl,h1,h2⟩ | ⟨rfl,e,k,get,rfl,rfl⟩
 ·obtain⟨h3,h4⟩:=h2 nx';obtain⟨m1,m2⟩:=hm'.export (hm'.fresh nx' (Nat.le_refl nx')) h1 h4;exact⟨y,_,rfl,m1,SV.rel_mono (λ_ _ h=>h) (λb hb=>⟨m2 b hb,rfl⟩) _ _ ((SV.rel_ren _ _).1 (SV.sub_rel _ _ _ h3 hrel)),⟨hfr.os,hfr.tape,hfr.output,hfr.size,hfr.drawn,hfr.block⟩,λr hr=>absurd hr (Nat.not_lt_zero r)⟩
 ·have hy:y=.slice none 0 0:=hrel;subst hy;refine⟨_,λr=>if r=0 then some ⟨none,0⟩ else none,rfl,⟨hm'.newB,λr hr=>if_neg (by have:1<=r:=hr;omega),λr R hR=>?_,λr r' R R' L L' b h1 h2 h3 h4 h5 h6=>?_,λr R L b h1 h2 h3=>?_⟩,?_,⟨hfr.os,hfr.tape,hfr.output,hfr.size,hfr.drawn,hfr.block⟩,λr hr=>absurd hr (Nat.not_lt_zero r)⟩
  ·rw[cE] at hR
   cases r with
   | zero=>simp at hR;subst hR;exact⟨_,if_pos rfl,Nat.le_refl _,by simp[maxLen],.inl ⟨rfl,rfl⟩⟩
   | succ r=>simp at hR
  ·split at h3
   ·cases h3;cases h5
   ·cases h3
  ·split at h2
   ·cases h2;cases h3
   ·cases h2
  ·exact⟨⟨none,0⟩,none,if_pos rfl,rfl,τ,τ,τ,λ_=>.inl rfl⟩
theorem sK {f:FuncId} {args:List SV} {q k lo n N:Nat} {c:Option Nat} {e:TypeId} {g:Nat->Nat->RV} (h:Own P f [] args (.sl 0 k lo n c) [.vec e k N λi j=>.r (g i j)]) (hc:SV.closedL args=true) :
 aLm P q f args (.sl q k lo n c) (some (.vec e k N λi j=>.r (g i j))):=by
 refine⟨e,k,N,g,lo,n,c,rfl,rfl,hc,λB w vs hm ha=>?_⟩;have hW:iS (λ_=>none) (bD [])=λ_=>False:=by
  funext b;exact propext (Iff.intro (λ⟨r,R,L,h1,h2⟩=>nomatch h1) False.elim)
 have:=h B (λ_=>none) w vs (by rw[hW];exact hm) ha;rw[hW] at this;exact⟨this.1,this.2.mono λe w' ⟨y,σ',h1,h2,h3,h4,_⟩=>⟨y,σ',h1,h2,h3,h4⟩⟩
end
end Go.Gx
namespace Go.Gx
open Go.RowKit
def SV.capd (ref C:Nat):SV->SV
 | .sl q k lo n none=>if q=ref then .sl q k lo n (some (C - lo)) else .sl q k lo n none
 | s=>s
section
variable {P:Program} {T:Tab} {B W F:Nat->Prop} {N:cZ} {σ:Sig} {Z:Nat->Prop} {w:World} {k:List It} {Q:GQ} {E:Env} {M:Mem} {nx:Nat}
theorem SV.capd_rel {ref:Nat} {L:rY} (h:σ ref=some L) {s:SV} {y:Value} (hr:s.rel σ Z w y):(s.capd ref L.cap).rel σ Z w y:=by
 cases s with
 | sl q k lo n c=>
   cases c with
   | none=>
     simp only [SV.capd];split
     ·rename_i hq;subst hq;obtain⟨L',A,h1,h2,h3,h4,h5,h6⟩:=hr;rw[h] at h1;cases h1;exact⟨L,A,h,h2,h3,h4,h5,h6⟩
     ·exact hr
   | some c=>exact hr
 | _=>exact hr
theorem sA (hT:aX P T) {K:Env->Mem->Nat->Prop} {d:Option Tmp} {t ty:TypeId} {pos:String} {af:Array Edge} {ref kk n e kr Nr:Nat} {g:Nat->Nat->SV} {s:Operand}
 (hx:ev E s=.sl ref kk 0 n none) (hM:M ref=some (.vec e kr Nr g)) (ht:((T.ti t).map (·.kind)).any (fun | .slice _=>true | _=>false)=true) (hd:dC N.n d)
 (h:∀C:Nat,Nr<=C->n<=C->C<=maxLen->K (aK (λs=>(E s).capd ref C) d (.i C)) M nx\/K (aK E d (.i C)) (bH M ref (some (.vec e kr C λi j=>if i<Nr then g i j else .r .any))) nx) :
 qZ P N ⟨d,.call ⟨.builtin .cap,#[s],#[t]⟩,ty,pos,af,none⟩ E M nx K:=by
 intro B W w0 σ a w hs next Q' hK;refine dO ?_;obtain⟨el,hu⟩:=nL hT ht;have hr:=bA hs.env s;rw[hx] at hr;obtain⟨L,A,h1,h2,h3,h4,h5,h6⟩:=hr;obtain⟨L',g1,g2⟩:=hs.mem.reg ref _ hM;rw[h1] at g1;cases g1;have e1:(execOp a.eval ⟨d,.call ⟨.builtin .cap,#[s],#[t]⟩,ty,pos,af,none⟩).run P w=.ok (.value (.int .i64 L.cap)) w:=by
  simp[execOp,resolve,invoke,builtin,Builtin.cap_,h2,run_underlying hu];rfl
 unfold Oper.wp;rw[e1];rcases h L.cap g2.1 (by simpa using h3) g2.2.1 with h | h
 ·exact hK _ M nx σ _ w h (St.put ⟨λt=>SV.capd_rel h1 (hs.env t),hs.mem,hs.fr,hs.defers,hs.size,hs.low,hs.pin,hs.good⟩ hd rfl)
 ·obtain⟨m1,m2⟩:=pI (R':=.vec e kr L.cap λi j=>if i<Nr then g i j else .r .any) hs.mem hM (λL' Z w' hL hR=>by
   rw[h1] at hL;cases hL;obtain⟨q1,q2,q3 | ⟨b,cs,r1,r2,r3,r4,r5⟩⟩:=hR
   ·exact⟨Nat.le_refl _,q2,.inl q3⟩
   ·refine⟨Nat.le_refl _,q2,.inr ⟨b,cs,r1,r2,r3,r4,λi j hi hj=>?_⟩⟩;by_cases hN:i<Nr
    ·simp only [if_pos hN];exact r5 i j hN hj
    ·simp only [if_neg hN];have hlt:i*kr+j<cs.length:=by
      rw[r3]
      calc i*kr+j<i*kr+kr:=ω
       _=(i+1)*kr:=by rw[Nat.add_mul,Nat.one_mul]
       _<=L.cap*kr:=Nat.mul_le_mul_right _ hi
     exact⟨cs[i*kr+j],List.getElem?_eq_getElem hlt,r4 _ (List.getElem_mem hlt),trivial⟩)
  exact hK _ _ nx σ _ w h (St.put ⟨λt=>SV.rel_mono (λ_ _ h=>h) m2 _ _ (hs.env t),m1,hs.fr,hs.defers.keep m2,hs.size,hs.low,hs.pin,hs.good⟩ hd rfl)
theorem iG {N:cZ} (hT:aX P T) {f:FuncId} {fn:Func} {tS tR:TypeId} (hf:P.funcs[f]? =some fn) (hname:(fn.name== "runtime.NumGoroutine")=false) (hb:fn.body.isNone=true) (hnx:Extern.findNext fn=none)
 (he:Extern.find fn=some (Extern.SlicesOverlaps.overlaps #[tS,tS] #[tR])) {el:TypeId} {ei:TI} (ht:(T.ti tS).map (·.kind)=some (.slice el)) (hei:T.ti el=some ei)
 {q r kq kr eq er Nq Nr lq lr nq nr:Nat} {cq cr:Option Nat} {gq gr:Nat->Nat->SV} (hq:M q=some (.vec eq kq Nq gq)) (hr:M r=some (.vec er kr Nr gr)) (hne:q≠r) (h0:0<nq) (h1:0<nr) (hk:0<kr) {K:SV->Mem->Nat->(SV->SV)->Prop} (hK:K (.b false) M nx id) :
 dV P N f [.sl q kq lq nq cq,.sl r kr lr nr cr] M nx K:=by
 intro B W w0 σ w vs hm hn0 hl hgd ha;obtain⟨y,_,rfl,ha1,y',_,rfl,ha2,rfl⟩:=ha;obtain⟨L1,A1,a1,rfl,a3,a4,a5,a6⟩:=ha1;obtain⟨L2,A2,b1,rfl,b3,b4,b5,b6⟩:=ha2;obtain⟨bq,c1,rfl⟩:=a5 ω;obtain⟨br,c2,rfl⟩:=b5 ω;obtain⟨L1',d1,d2⟩:=hm.reg q _ hq;rw[a1] at d1;cases d1;obtain⟨L2',d3,d4⟩:=hm.reg r _ hr;rw[b1] at d3;cases d3;have hbb:bq≠br:=λe=>hne (hm.inj q r _ _ _ _ bq hq hr a1 b1 c1 (by rw[c2,e]));obtain⟨_,_,d | ⟨b',cs,f1,f2,f3,_⟩⟩:=d2
 ·rw[c1] at d;cases d.1
 rw[c1] at f1;cases f1;obtain⟨_,_,d | ⟨b',cs',f4,f5,f6,_⟩⟩:=d4
 ·rw[c2] at d;cases d.1
 rw[c2] at f4;cases f4;have hu:P.underlying tS=some (.slice el):=by
  cases hti:T.ti tS with
  | none=>rw[hti] at ht;cases ht
  | some i=>
    rw[hti] at ht;exact eK (hT.ti _ _ hti) (by simpa using ht)
 have hpos:0<L2.cap*kr:=Nat.mul_pos ω hk;refine .inr ⟨.bool false,w,?_,.bool false,.b false,M,nx,σ,id,rfl,hK,hm,λb hb=>⟨hb,rfl⟩,rfl,λ_ _ h=>h,FrS.refl _ _ _,hl,λ_ _=>rfl⟩
 ·rw[run_callFunc_extern hf hname hb hnx he,
   Lib.run_overlaps_apart w tS tR el hu ei.size (λw=>gI (hT.ti _ _ hei) w) ⟨bq,lq*kq,none⟩ ⟨br,lr*kr,none⟩ nq _ nr _ hbb eq er (L1.cap*kq) (L2.cap*kr)
    (by simp[World.shape?,f2,f3]) (by simp[World.shape?,f5,f6]) ω (by simp[World.frozen?,f2]) (by simp[World.frozen?,f2])]
  rfl
end
attribute [go_sem] SV.capd
end Go.Gx
namespace Go.Gx
open Go.RowKit
mutual
def SV.own:SV->Prop
 | .r x=>x.flat=true
 | .ptr ..=>True
 | .sl ..=>True
 | .mp ..=>True
 | .fn f a b=>SV.ownL a/\SV.ownL b
 | .agg l=>SV.ownL l
 | .tup l=>SV.ownL l
def SV.ownL:List SV->Prop
 | []=>True
 | s::l=>s.own/\SV.ownL l
end
def Reg.own:Reg->Prop
 | .box l=>SV.ownL l
 | .vec e k n g=>∀i j,i<n->j<k->(g i j).own
 | .map has val st=>∀a,has a=true->(val a).own
 | .iter m _ _ _ _ _=>m.own
def Reg.ownL:List Reg->Prop
 | []=>True
 | R::l=>R.own/\Reg.ownL l
theorem Reg.ownL_get:∀{l:List Reg} {i:Nat} {R:Reg},Reg.ownL l->l[i]? =some R->R.own
 | [],i,R,_,h=>by simp at h
 | R'::l,0,R,h,e=>by simp at e;subst e;exact h.1
 | R'::l,i+1,R,h,e=>Reg.ownL_get h.2 (by simpa using e)
section
variable {σ:Sig} {Z Z':Nat->Prop} {w:World}
mutual
theorem SV.rel_own:∀(s:SV) (y:Value),s.own->s.rel σ Z w y->s.rel σ Z' w y
 | .r x,y,h,hr=>RV.rel_flat h hr
 | .ptr ..,y,h,hr=>hr
 | .sl ..,y,h,hr=>hr
 | .mp ..,y,h,hr=>hr
 | .fn f a b,y,h,hr=>by
   obtain⟨vs,ws,e,h1,h2⟩:=hr;exact⟨vs,ws,e,SV.relL_own a vs h.1 h1,SV.relL_own b ws h.2 h2⟩
 | .agg l,y,h,hr=>by
   obtain⟨vs,e,h1,h2⟩:=hr;exact⟨vs,e,h1,SV.relL_own l vs h h2⟩
 | .tup l,y,h,hr=>by
   obtain⟨vs,e,h2⟩:=hr;exact⟨vs,e,SV.relL_own l vs h h2⟩
theorem SV.relL_own:∀(l:List SV) (ys:List Value),SV.ownL l->SV.relL σ Z w l ys->SV.relL σ Z' w l ys
 | [],ys,_,h=>h
 | s::l,ys,h,hr=>by
   obtain⟨v,vs',e,h1,h2⟩:=hr;exact⟨v,vs',e,SV.rel_own s v h.1 h1,SV.relL_own l vs' h.2 h2⟩
end
theorem aLt {L:rY} {R:Reg} (h:R.own) (hr:RegOK σ Z w L R):RegOK σ Z' w L R:=by
 cases R with
 | box l=>
   obtain⟨b,cs,ty,h1,h2,h3,h4⟩:=hr;exact⟨b,cs,ty,h1,h2,h3,SV.relL_own l cs h h4⟩
 | vec e k n g=>
   obtain⟨h0,hm,hr⟩:=hr;refine⟨h0,hm,hr.imp id λ⟨b,cs,h1,h2,h3,ho,h5⟩=>⟨b,cs,h1,h2,h3,ho,λi j hi hj=>?_⟩⟩;obtain⟨v,v1,v0,v2⟩:=h5 i j hi hj;exact⟨v,v1,v0,SV.rel_own _ _ (h i j hi hj) v2⟩
 | map has val st=>
   obtain⟨b,es,ck,h1,h2,h3,h4⟩:=hr;exact⟨b,es,ck,h1,h2,h3.mono λa v ha hv=>SV.rel_own _ _ (h a ha) hv,h4⟩
 | iter m f c all left la=>
   obtain⟨b,mo,seen,sp,h1,h2,h3,h4,h5⟩:=hr;exact⟨b,mo,seen,sp,h1,h2,h3,SV.rel_own _ _ h h4,h5⟩
end
variable {P:Program}
theorem aAg {N:cZ} {f:FuncId} {args:List SV} {S:SV} {Rs':List Reg} {M:Mem} {nx:Nat} {K:SV->Mem->Nat->(SV->SV)->Prop} (hp:fK M args λl=>Own P f [] l S Rs') (hS:S.own) (hR:Reg.ownL Rs')
 (hK:K (S.ren λi=>nx+i) (aCv nx Rs' (λi=>nx+i) M) (nx+Rs'.length) id):dV P N f args M nx K:=by
 intro B W w0 σ w vs hm hn0 hl hgd hrel;have hlt:∀r R L b,M r=some R->σ r=some L->L.at_=some b->b<w.heap.size:=λr R L b h1 h2 h3=>by
  obtain⟨L',e1,e2⟩:=hm.reg r R h1;rw[h2] at e1;cases e1;exact e2.block h3
 obtain⟨l,hown,hl⟩:=eZ (Z':=λb=>b<w.heap.size) hm (λb hb=>hb.1.1) hlt args _ vs hp hrel;have hW:iS (λ_=>none) (bD [])=λ_=>False:=by
  funext b;exact propext (Iff.intro (λ⟨r,R,L,h1,h2⟩=>nomatch h1) False.elim)
 have hm1:MOK (λ_=>True) (iS (λ_=>none) (bD [])) w.heap.size (λ_=>none) (bD []) (eF ([]:List Reg).length) w:=
  ⟨λb hb=>trivial,λ_ _=>rfl,λr R h=>(by cases h),λr r' R R' L L' b h=>(by cases h),λr R L b h=>(by cases h)⟩
 obtain⟨c1,c2⟩:=hown (λ_=>True) (λ_=>none) w vs hm1 (SV.relL_mono (λ_ _ h=>h) (λb hb=>⟨⟨⟨hb,trivial⟩,λr R L h=>(by cases h)⟩,rfl⟩) _ _ hl);refine .inl ⟨c1,c2.mono λe w' h'=>?_⟩;obtain⟨y,σ',rfl,hm',hr,hf,_⟩:=h';rw[hW] at hm' hf;have hsame:∀b,b<w.heap.size->w'.heap[b]? =w.heap[b]?:=λb hb=>hf.block b hb (λh=>h)
 let σ2:Sig:=λr=>if nx<=r then σ' (r - nx) else σ r
 let M2:Mem:=aCv nx Rs' (λi=>nx+i) M
 have hσ2:(λi=>σ2 (nx+i))=σ':=by
  funext i;simp[σ2]
 have hs2:oC σ σ2:=λr L h=>by
  show(if nx<=r then _ else _)=_;rw[if_neg]
  ·exact h
  ·intro hr;rw[hm.fresh r hr] at h;cases h
 have hltσ:∀r L,σ r=some L->r<nx:=λr L h=>by
  rcases Nat.lt_or_ge r nx with h1 | h1
  ·exact h1
  ·rw[hm.fresh r h1] at h;cases h
 have hk2:∀r R,M2 r=some R->(∃i R',r=nx+i/\bD Rs' i=some R'/\R=R'.ren λi=>nx+i)\/(M r=some R/\r<nx):=by
  intro r R h;have h:aCv nx Rs' (λi=>nx+i) M r=some R:=h;rw[aCw] at h;split at h
  ·rename_i hr;left;refine⟨r - nx,?_⟩
   cases hq:Rs'[r - nx]? with
   | none=>rw[hq] at h;cases h
   | some R'=>rw[hq] at h;cases h;exact⟨R',ω,by rw[cE];exact hq,rfl⟩
  ·obtain⟨L,g1,_⟩:=hm.reg r R h;exact .inr ⟨h,hltσ r L g1⟩
 have hnew:∀i R L b,bD Rs' i=some R->σ' i=some L->L.at_=some b->w.heap.size<=b:=λi R L b h1 h2 h3=>(hm'.own i R L b h1 h2 h3).elim False.elim id;have hz2:∀b,Zof B σ M w b->Zof B σ2 M2 w' b:=λb hb=>⟨⟨Nat.lt_of_lt_of_le hb.1.1 hf.size,hb.1.2⟩,λr R L h1 h2 h3=>by
  rcases hk2 r R h1 with ⟨i,R',rfl,e1,_⟩ | ⟨e2,e3⟩
  ·have:σ' i=some L:=by rw[<- hσ2];exact h2
   have:=hnew i R' L b e1 this h3;have:=hb.1.1;omega
  ·have:σ2 r=σ r:=if_neg ω;rw[this] at h2;exact hb.2 r R L e2 h2 h3⟩
 have hkeep:bZ (Zof B σ M w) (Zof B σ2 M2 w') w w':=λb hb=>⟨hz2 b hb,hsame b hb.1.1⟩;refine⟨y,S.ren λi=>nx+i,M2,nx+Rs'.length,σ2,id,rfl,hK,⟨hm.newB,λr hr=>?_,λr R h=>?_,λr r' R R' L L' b h1 h2 h3 h4 h5 h6=>?_,λr R L b h1 h2 h3=>?_⟩,hkeep,?_,λt z hz=>SV.rel_mono hs2 hkeep _ _ hz,⟨hf.os,hf.tape,hf.output,hf.size,hf.drawn.to,λb hb hw=>hsame b ω⟩,ω,λr hr=>if_neg ω⟩
 ·have hr':nx+Rs'.length<=r:=hr;show(if nx<=r then _ else _)=_;rw[if_pos ω];exact hm'.fresh (r - nx) (show Rs'.length<=r - nx by omega)
 ·rcases hk2 r R h with ⟨i,R',rfl,e1,rfl⟩ | ⟨e2,e3⟩
  ·obtain⟨L,g1,g2⟩:=hm'.reg i R' e1;refine⟨L,by rw[<- g1,<- hσ2],?_⟩;refine pQ.2 ?_;rw[hσ2];exact aLt (Reg.ownL_get hR (by rw[<- cE];exact e1)) g2
  ·obtain⟨L,g1,g2⟩:=hm.reg r R e2;exact⟨L,hs2 _ _ g1,g2.mono hs2 hkeep λb hb=>hsame b (hlt r R L b e2 g1 hb)⟩
 ·rcases hk2 r R h1 with ⟨i,R1,rfl,e1,_⟩ | ⟨e2,e3⟩
  ·have g3:σ' i=some L:=by rw[<- hσ2];exact h3
   rcases hk2 r' R' h2 with ⟨i',R2,rfl,e1',_⟩ | ⟨e2',e3'⟩
   ·have g4:σ' i'=some L':=by rw[<- hσ2];exact h4
    rw[hm'.inj i i' R1 R2 L L' b e1 e1' g3 g4 h5 h6]
   ·exfalso;have:σ2 r'=σ r':=if_neg ω;rw[this] at h4;have q1:=hlt r' R' L' b e2' h4 h6;have:=hnew i R1 L b e1 g3 h5;omega
  ·have g3:σ r=some L:=by
    have:σ2 r=σ r:=if_neg ω;rw[<- this];exact h3
   rcases hk2 r' R' h2 with ⟨i',R2,rfl,e1',_⟩ | ⟨e2',e3'⟩
   ·exfalso;have g4:σ' i'=some L':=by rw[<- hσ2];exact h4
    have q1:=hlt r R L b e2 g3 h5;have:=hnew i' R2 L' b e1' g4 h6;omega
   ·have:σ2 r'=σ r':=if_neg ω;rw[this] at h4;exact hm.inj r r' R R' L L' b e2 e2' g3 h4 h5 h6
 ·rcases hk2 r R h1 with ⟨i,R1,rfl,e1,_⟩ | ⟨e2,e3⟩
  ·have g3:σ' i=some L:=by rw[<- hσ2];exact h2
   have:=hnew i R1 L b e1 g3 h3;right;omega
  ·have:σ2 r=σ r:=if_neg ω;rw[this] at h2;exact hm.own r R L b e2 h2 h3
 ·refine(SV.rel_ren _ _).2 ?_;rw[hσ2];exact SV.rel_own _ _ hS hr
attribute [go_sem] SV.own SV.ownL Reg.own Reg.ownL
end Go.Gx
namespace Go.Gx
open Go.RowKit Go.ChangeMaps
section
variable {P:Program} {T:Tab} {B W F:Nat->Prop} {w0:W0} {N:cZ} {n0:Nat} {σ σ':Sig} {M M':Mem} {nx:Nat} {w w':World} {a:Act} {E E':Env}
theorem MapOf.born_inj {has:Int->Bool} {R:Int->Value->Prop} {es:List MapEntry} {ck:Nat} (h:MapOf has R es ck) {x y:MapEntry} (hx:x∈es) (hy:y∈es) (hb:x.born=y.born):x=y:=by
 obtain⟨i,hi,rfl⟩:=List.getElem_of_mem hx;obtain⟨j,hj,rfl⟩:=List.getElem_of_mem hy;have hp:=List.pairwise_iff_getElem.1 h.2.2.1;rcases Nat.lt_trichotomy i j with h1 | h1 | h1
 ·exact absurd hb (hp i j hi hj h1).2
 ·subst h1;rfl
 ·exact absurd hb.symm (hp j i hj hi h1).2
theorem MapOf.key_inj {has:Int->Bool} {R:Int->Value->Prop} {es:List MapEntry} {ck:Nat} (h:MapOf has R es ck) {x y:MapEntry} (hx:x∈es) (hy:y∈es) (hb:x.key=y.key):x=y:=by
 obtain⟨i,hi,rfl⟩:=List.getElem_of_mem hx;obtain⟨j,hj,rfl⟩:=List.getElem_of_mem hy;have hp:=List.pairwise_iff_getElem.1 h.2.2.1;rcases Nat.lt_trichotomy i j with h1 | h1 | h1
 ·exact absurd hb (hp i j hi hj h1).1
 ·subst h1;rfl
 ·exact absurd hb.symm (hp j i hj hi h1).1
theorem wL (hm:MOK B W n0 σ M F w) {q:Nat} {has:Int->Bool} {val:Int->SV} {st:Option ((Int->Nat) × Nat)} (hQ:M q=some (.map has val st)) {L:rY} {b:Nat} (h1:σ q=some L) (h2:L.at_=some b) :
 ∃(es:Array MapEntry) (ck:Nat),w.heap[b]? =some (.map es ck)/\MapOf has (λa v=>(val a).rel σ (Zof B σ M w) w v) es.toList ck/\∀f c,st=some (f,c)->ck=c/\∀e∈es.toList,∀a,e.key=.int .i64 a->e.born=f a:=by
 obtain⟨L',e1,b',es,ck,f1,f2,f3,f4⟩:=hm.reg q _ hQ;rw[h1] at e1;cases e1;rw[h2] at f1;cases f1;exact⟨es,ck,f2,f3,f4⟩
theorem aI3 (hm:MOK B W n0 σ M F w) {ref:Nat} {R R':Reg} (hM:M ref=some R) (hR:∀L Z,σ ref=some L->RegOK σ Z w L R->RegOK σ Z w L R') :
 MOK B W n0 σ (bH M ref (some R')) F w/\bZ (Zof B σ M w) (Zof B σ (bH M ref (some R')) w) w w:=by
 have hz:∀b,Zof B σ M w b->Zof B σ (bH M ref (some R')) w b:=by
  intro b hb;refine⟨hb.1,λr R1 L h1 h2 h3=>?_⟩;by_cases hr:r=ref
  ·subst hr;exact hb.2 r R L hM h2 h3
  ·rw[aW _ _ hr] at h1;exact hb.2 r R1 L h1 h2 h3
 have hk:bZ (Zof B σ M w) (Zof B σ (bH M ref (some R')) w) w w:=λb hb=>⟨hz b hb,rfl⟩;refine⟨⟨hm.newB,hm.fresh,λr R1 h=>?_,λr r' R1 R2 L1 L2 x h1 h2 h3 h4 h5 h6=>?_,λr R1 L x h1 h2 h3=>?_⟩,hk⟩
 ·by_cases hr:r=ref
  ·subst hr;rw[aZ] at h;cases h;obtain⟨L,e1,e2⟩:=hm.reg r R hM;exact⟨L,e1,hR _ _ e1 (e2.mono (λ_ _ h=>h) hk (λ_ _=>rfl))⟩
  ·rw[aW _ _ hr] at h;obtain⟨L,e1,e2⟩:=hm.reg r R1 h;exact⟨L,e1,e2.mono (λ_ _ h=>h) hk (λ_ _=>rfl)⟩
 ·have ex:∀r R1,bH M ref (some R') r=some R1->∃R2,M r=some R2:=by
   intro r R1 h;by_cases hr:r=ref
   ·exact⟨R,by rw[hr];exact hM⟩
   ·rw[aW _ _ hr] at h;exact⟨_,h⟩
  obtain⟨q1,a1⟩:=ex _ _ h1;obtain⟨q2,a2⟩:=ex _ _ h2;exact hm.inj r r' q1 q2 L1 L2 x a1 a2 h3 h4 h5 h6
 ·by_cases hr:r=ref
  ·subst hr;exact hm.own r R L x hM h2 h3
  ·rw[aW _ _ hr] at h1;exact hm.own r R1 L x h1 h2 h3
theorem aA5 (hT:aX P T) {K:Env->Mem->Nat->Prop} {d:Option Tmp} {t ty:TypeId} {pos:String} {af:Array Edge} {x:Operand} {q:Nat} {has:Int->Bool} {val:Int->SV} {st:Option ((Int->Nat) × Nat)}
 (hx:ev E x=.mp q) (hQ:M q=some (.map has val st)) (ht:(aFz T t).isSome=true) (hd:dC N.n d)
 (h:∀f c,K (aK E d (.ptr nx 0 1 0)) (bH (bH M q (some (.map has val (some (f,c))))) nx (some (.iter (.mp q) f c has has none))) (nx+1)) :
 qZ P N ⟨d,.range t x,ty,pos,af,none⟩ E M nx K:=by
 intro B W w0 σ a w hs next Q' hK;refine dO ?_;obtain⟨e,he⟩:=Option.isSome_iff_exists.1 ht;obtain⟨k,hu,hk⟩:=lV hT he;have hr:=bA hs.env x;rw[hx] at hr;obtain⟨L,b,h1,h2,h3⟩:=hr;obtain⟨es,ck,g1,g2,g3⟩:=wL hs.mem hQ h1 h2;have hrun:(execOp a.eval ⟨d,.range t x,ty,pos,af,none⟩).run P w=.ok (.value (.pointer (some ⟨w.heap.size,0,none⟩))) (w.alloc (.mapIter (some b) ck #[] ck)):=by
  simp[execOp,h3,Instr.range,run_underlying hu,MapKept.run_getObj_map g1,newObj,Sem.run,Result.andThen]
 let f:Int->Nat:=λa=>((es.toList.find? λe=>match e.key with | .int .i64 n=>decide (n=a) | _=>false).map (·.born)).getD 0
 have hf:∀e∈es.toList,∀a,e.key=.int .i64 a->e.born=f a:=by
  intro e he a hka;show e.born=_
  cases hq:es.toList.find? (λe=>match e.key with | .int .i64 n=>decide (n=a) | _=>false) with
  | none=>
    have:=List.find?_eq_none.1 hq e he;rw[hka] at this;simp at this
  | some e'=>
    have h4:=List.find?_some hq;have h5:=List.mem_of_find?_eq_some hq;have h6:e'.key=.int .i64 a:=by
     cases hk':e'.key with
     | int k n=>
       rw[hk'] at h4
       cases k <;> simp at h4
       rw[h4]
     | _=>rw[hk'] at h4;simp at h4
    have h7:e=e':=g2.key_inj he h5 (by rw[hka,h6]);have h8:f a=e'.born:=by
     show((es.toList.find? _).map (·.born)).getD 0=_;rw[hq];rfl
    rw[h7,h8]
 obtain⟨m1,m2⟩:=aI3 (R':=.map has val (some (f,ck))) hs.mem hQ (λL' Z hL hR=>by
  obtain⟨b',es',ck',q1,q2,q3,q4⟩:=hR;rw[h1] at hL;cases hL;rw[h2] at q1;cases q1;rw[g1] at q2;cases q2;exact⟨b,es,ck,h2,g1,q3,λf' c' hc=>by cases hc;exact⟨rfl,hf⟩⟩)
 have hold:∀b',b'<w.heap.size->(w.alloc (.mapIter (some b) ck #[] ck)).heap[b']? =w.heap[b']?:=λb' h=>gF w _ b' h;have hQ':bH M q (some (.map has val (some (f,ck)))) q=some (.map has val (some (f,ck))):=aZ ..;obtain⟨e1,e2,e3⟩:=mW (w':=w.alloc (.mapIter (some b) ck #[] ck)) (L:=⟨some w.heap.size,0⟩) (R:=.iter (.mp q) f ck has has none) m1 (Nat.le_refl nx) hs.fr.size τ hold (λb hb=>by cases hb;exact Nat.le_refl _)
  (λσ' Z' hs' hk=>⟨w.heap.size,some b,#[],ck,rfl,kH w _,Nat.le_refl _,⟨L,b,hs' _ _ h1,h2,rfl⟩,λa ha=>by simp[ha],τ⟩)
 unfold Oper.wp;rw[hrun];refine hK _ _ _ _ _ _ (h f ck) (St.put ⟨λt=>SV.rel_mono e3 e2 _ _ (SV.rel_mono (λ_ _ h=>h) m2 _ _ (hs.env t)),e1.weaken λr hr=>⟨Nat.le_of_succ_le hr,Nat.ne_of_gt hr⟩,hs.fr.step ⟨rfl,rfl,rfl,τ,Dr.alloc w _ (by intro c t fr h;cases h),λb hb _=>hold b (Nat.lt_of_lt_of_le hb hs.fr.size)⟩,(hs.defers.keep m2).keep e2,hs.size,Nat.le_succ_of_le hs.low,λr hr=>(aW _ _ (Nat.ne_of_lt (Nat.lt_of_lt_of_le hr hs.low))).trans (hs.pin r hr),hs.good⟩ hd ?_);exact⟨_,w.heap.size,aZ ..,rfl,rfl⟩
theorem aEm {K:Env->Mem->Nat->Prop} {d:Option Tmp} {ty:TypeId} {pos:String} {af:Array Edge} {x:Operand} {q ref kk:Nat} {f:Int->Nat} {c:Nat} {all left has:Int->Bool} {la:Option Int} {val:Int->SV}
 (hx:ev E x=.ptr ref 0 kk 0) (hM:M ref=some (.iter (.mp q) f c all left la)) (hQ:M q=some (.map has val (some (f,c)))) (hall:∀a,has a=all a) (hd:dC N.n d)
 (h1:∀a,has a=true->left a=true->K (aK E d (.tup [.b true,.i a,val a])) (bH M ref (some (.iter (.mp q) f c all (λx=>left x&&!decide (x=a)) (some a)))) nx)
 (h0:(∀a,has a=true->left a=false)->K (aK E d (.tup [.b false])) M nx) :
 qZ P N ⟨d,.next x false,ty,pos,af,none⟩ E M nx K:=by
 intro B W w0 σ a w hs nxt Q' hK;refine dO ?_;have hr:=bA hs.env x;rw[hx] at hr;obtain⟨L,b,r1,r2,r3⟩:=hr;obtain⟨L',e1,b',mo,seen,sp,g1,g2,g3,g4,g5,g6⟩:=hs.mem.reg ref _ hM;rw[r1] at e1;cases e1;rw[r2] at g1;cases g1;obtain⟨Lq,bq,k1,k2,k3⟩:=g4
 cases k3
 obtain⟨es,ck,q1,q2,q3⟩:=wL hs.mem hQ k1 k2;obtain⟨rfl,q4⟩:=q3 f c rfl;have hne:bq≠b:=λe=>by
  subst e;rw[q1] at g2;cases g2
 have r3':a.eval x=.pointer (some ⟨b,0,none⟩):=by rw[r3];simp
 unfold Oper.wp;rcases run_next_at (P:=P) w ty b bq ck sp seen es ck g2 q1 q2.2.2.2 g3 with ⟨n1,n2⟩ | ⟨en,n1,w1,n2,n3⟩
 ·have hrun:(execOp a.eval ⟨d,.next x false,ty,pos,af,none⟩).run P w=.ok (.value (.tuple #[.bool false])) w:=by
   simp[execOp,r3',n2,Result.andThen]
  rw[hrun];refine hK _ _ _ _ _ _ (h0 λk hk=>?_) (St.put hs hd ⟨[.bool false],rfl,_,_,rfl,rfl,rfl⟩)
  cases hl:left k with
  | false=>rfl
  | true=>
    obtain⟨e',m1,m2⟩:=q2.2.1 k hk;have m3:=(g5 k (by rw[<- hall];exact hk)).1 hl;have:e'∈(leftOf es seen).toList:=by
     simp only [leftOf,Array.toList_filter,List.mem_filter];refine⟨m1,?_⟩;rw[q4 e' m1 k m2];simpa using m3
    have hz:(leftOf es seen).toList=[]:=List.eq_nil_of_length_eq_zero (by simpa using n1);rw[hz] at this;simp at this
 ·have hrun:(execOp a.eval ⟨d,.next x false,ty,pos,af,none⟩).run P w=.ok (.value (.tuple #[.bool true,en.key,en.val])) (setBlock w1 b (.mapIter (some bq) ck (seen.push en.born) ck)):=by
   simp[execOp,r3',n3,Result.andThen]
  rw[hrun];simp only [leftOf,Array.toList_filter,List.mem_filter] at n1;obtain⟨n4,n5⟩:=n1;obtain⟨k,p1,p2,p3,p4⟩:=q2.1 en n4;have hb:=q4 en n4 k p1;have hlk:left k=true:=(g5 k (by rw[<- hall];exact p2)).2 (by rw[<- hb];simpa using n5);have hw1:w1.heap=w.heap/\w1.os=w.os/\w1.tape=w.tape/\w1.output=w.output/\w.drawn<=w1.drawn:=by rcases n2 with rfl | rfl <;> exact⟨rfl,rfl,rfl,rfl,by first | exact Nat.le_refl _ | exact Nat.le_succ _⟩
  have hbw:w1.heap[b]? =some (.mapIter (some bq) ck seen sp):=by rw[hw1.1];exact g2
  obtain⟨z1,z2,z3⟩:=pV (o':=.mapIter (some bq) ck (seen.push en.born) ck) hbw;have hsame:∀x,x≠b->(setBlock w1 b (.mapIter (some bq) ck (seen.push en.born) ck)).heap[x]? =w.heap[x]?:=λx hx=>by rw[z2 x hx,hw1.1]
  have hsz:(setBlock w1 b (.mapIter (some bq) ck (seen.push en.born) ck)).heap.size=w.heap.size:=by rw[z3,hw1.1]
  obtain⟨m1,m2⟩:=mX (w':=setBlock w1 b (.mapIter (some bq) ck (seen.push en.born) ck)) (R:=.iter (.mp q) f ck all (λx=>left x&&!decide (x=k)) (some k)) hs.mem hM r1 r2 hsz hsame
   (λZ' hk=>⟨b,some bq,seen.push en.born,ck,r2,z1,Nat.le_refl _,⟨Lq,bq,k1,k2,rfl⟩,λy hy=>by
     have h5:=g5 y hy;simp only [Array.toList_push,List.mem_append,List.mem_singleton,not_or,Bool.and_eq_true,Bool.not_eq_true',decide_eq_false_iff_not];rw[h5];constructor
     ·rintro⟨t1,t2⟩;refine⟨t1,λt3=>t2 ?_⟩;obtain⟨ey,u1,u2⟩:=q2.2.1 y (by rw[hall];exact hy);have:ey=en:=q2.born_inj u1 n4 (by rw[q4 ey u1 y u2,t3]);subst this;rw[p1] at u2;cases u2;rfl
     ·rintro⟨t1,t2⟩;exact⟨t1,λt3=>t2 (by rw[t3,hb])⟩,λy hy=>by
     cases hy
     exact⟨rfl,by simp[hb]⟩⟩)
  have hfr:FrS N.good.u W w0.heap.size w (setBlock w1 b (.mapIter (some bq) ck (seen.push en.born) ck)):=by
   refine⟨hw1.2.1,hw1.2.2.1,hw1.2.2.2.1,by rw[hsz];exact Nat.le_refl _,(Dr.same hw1.2.2.2.2 hw1.1).trans (Dr.setB _ _ _ (by intro c t fr h;cases h)) (by rw[hw1.1];exact Nat.le_refl _),λx hx hw=>hsame x λe=>?_⟩;subst e;rcases hs.mem.own ref _ L x hM r1 r2 with h' | h'
   ·exact hw h'
   ·omega
  refine hK _ _ _ _ _ _ (h1 k p2 hlk) (St.put (hs.go m1 hfr m2 (λt z hz=>SV.rel_mono (λ_ _ h=>h) m2 _ _ hz) hs.low λ_ _=>rfl) hd ?_);refine⟨[.bool true,en.key,en.val],rfl,_,_,rfl,rfl,_,_,rfl,p1,_,_,rfl,?_,rfl⟩;exact SV.rel_mono (λ_ _ h=>h) m2 _ _ p4
theorem aA4 {K:Env->Mem->Nat->Prop} {d:Option Tmp} {ty:TypeId} {pos:String} {af:Array Edge} {x:Operand} {q ref kk:Nat} {f:Int->Nat} {c:Nat} {all left has:Int->Bool} {k:Int} {val:Int->SV}
 (hx:ev E x=.ptr ref 0 kk 0) (hM:M ref=some (.iter (.mp q) f c all left (some k))) (hQ:M q=some (.map has val (some (f,c)))) (hk:has k=true) (hd:dC N.n d)
 (h:K (aK E d (.tup [.i k,val k])) M nx):qZ P N ⟨d,.entry x,ty,pos,af,none⟩ E M nx K:=by
 intro B W w0 σ a w hs nxt Q' hK;refine dO ?_;have hr:=bA hs.env x;rw[hx] at hr;obtain⟨L,b,r1,r2,r3⟩:=hr;obtain⟨L',e1,b',mo,seen,sp,g1,g2,g3,g4,g5,g6⟩:=hs.mem.reg ref _ hM;rw[r1] at e1;cases e1;rw[r2] at g1;cases g1;obtain⟨Lq,bq,k1,k2,k3⟩:=g4
 cases k3
 obtain⟨es,ck,q1,q2,q3⟩:=wL hs.mem hQ k1 k2;obtain⟨rfl,q4⟩:=q3 f c rfl;obtain⟨rfl,g7⟩:=g6 k rfl;have r3':a.eval x=.pointer (some ⟨b,0,none⟩):=by rw[r3];simp
 obtain⟨e',m1,m2⟩:=q2.2.1 k hk;obtain⟨k',p1,p2,p3,p4⟩:=q2.1 e' m1;rw[m2] at p1;cases p1;have hfind:es.find? (·.born==f k)=some e':=by
  rw[<- Array.find?_toList];have:∃e,es.toList.find? (·.born==f k)=some e:=by
   cases hq:es.toList.find? (·.born==f k) with
   | none=>
     have:=List.find?_eq_none.1 hq e' m1;rw[q4 e' m1 k m2] at this;simp at this
   | some e=>exact⟨e,rfl⟩
  obtain⟨e,he⟩:=this;rw[he];have h4:=List.find?_some he;have h5:=List.mem_of_find?_eq_some he;rw[q2.born_inj h5 m1 (by rw[q4 e' m1 k m2];simpa using h4)]
 have hrun:(execOp a.eval ⟨d,.entry x,ty,pos,af,none⟩).run P w=.ok (.value (.tuple #[.int .i64 k,e'.val])) w:=by
  simp[execOp,r3',Instr.entry,getObj,Sem.run,g2,g7,q1,hfind,m2,Result.andThen]
 unfold Oper.wp;rw[hrun];exact hK _ _ _ _ _ _ h (St.put hs hd ⟨[.int .i64 k,e'.val],rfl,_,_,rfl,rfl,_,_,rfl,p4,rfl⟩)
end
end Go.Gx
namespace Go.Gx
open Go.RowKit
inductive TT where
 | done
 | bad
 | nil
 | alt (i:Nat) (sub more:TT)
 | take (i:Nat) (sub:TT)
section
variable (P:Program) (T:Tab) (N:cZ)
def TQ (K:Env->Mem->Nat->Prop):GQ:=λe E M nx=>match e with | .normal=>K E M nx | _=>True
def GTk (g:GR) (d:Option Tmp) (K:Env->Mem->Nat->Prop) (E:Env) (M:Mem) (nx:Nat):Prop:=
 match g with
 | .pure ob s=>ob/\dC N.n d/\K (aK E d s) M nx
 | _=>False
end
section
variable {P:Program} {T:Tab} {N:cZ} {k:List It} {Q:GQ} {E:Env} {M:Mem} {nx:Nat}
theorem aJg (hT:aX P T) {t:TypeId} {f:Nat} {s s':SV} {ob:Prop} (hg:gE T t s f=.pure ob s') (hob:ob) {σ:Sig} {Z:Nat->Prop} {w0:World} {x:Value} (hx:s.rel σ Z w0 x) :
 ∃y,(∀w,(Instr.fieldAt t x f).run P w=.ok y w)/\s'.rel σ Z w0 y:=by
 unfold gE at hg;split at hg
 ·rename_i sz by_ ze fs hti;obtain⟨fa,hu,hsz,hget⟩:=nM (hT.ti t _ hti) rfl;split at hg
  ·rename_i o sz' g hf;obtain⟨fd,h1,rfl,h3,_⟩:=hget f _ _ _ hf;have key:∀(b q:Nat),sz'≠0->∀w,(Instr.fieldAt t (.pointer (some ⟨b,q,none⟩)) f).run P w=.ok (.pointer (some ⟨b,q+fd.offset,none⟩)) w:=by
    intro b q h0 w;simp[Instr.fieldAt,run_underlying hu,h1,Instr.sureAddr,fieldPlace,fA h3,h0,dI]
   split at hg
   ·rename_i ref row k fld
    cases hg
    obtain⟨L,b,g1,g2,rfl⟩:=hx;exact⟨_,key b _ hob,L,b,g1,g2,by congr 3;omega⟩
   ·rename_i k n get row fld
    cases hg
    obtain⟨b,q,rfl,hz,hc⟩:=hx;exact⟨_,key b _ hob,b,q,by congr 3;omega,hz,hc⟩
   ·cases hg
  ·cases hg
 ·cases hg
end
end Go.Gx
namespace Go.Gx
open Go.RowKit
def aC9 (P:Program) (t:TypeId) (cs:List CK):Bool:=
 match P.underlying t with
 | some (.array n e)=>decide (cs.length=n)&&(cs.all λc=>vA P e c)&&(P.info? e).isSome&&decide (P.cellsOf e=1)&&!P.eqGuardType P.depth t
 | _=>false
theorem yK:∀{cs:List CK} {xs:List Value},iU cs xs->xs.length=cs.length
 | [],xs,h=>by simp only [iU] at h;subst h;rfl
 | c::cs,xs,h=>by
   obtain⟨x,xs',rfl,_,h2⟩:=h;simp[yK h2]
theorem vB {P:Program} (w:World) (d:Nat) (e:TypeId) (xs ys:List Value):∀(cs:List CK) (o:Nat),(∀c∈cs,vA P e c=true)->iU cs (xs.drop o)->iU cs (ys.drop o)->
 (Op.eqItems (d+1) e 1 xs.toArray ys.toArray (List.range' o cs.length)).run P w=.ok (kB (xs.drop o) (ys.drop o)) w
 | [],o,_,hx,hy=>by
   simp only [iU] at hx hy;rw[hx,hy];rfl
 | c::cs,o,h,hx,hy=>by
   have h3:=h c τ;obtain⟨x,xs',ex,hx1,hx2⟩:=hx;obtain⟨y,ys',ey,hy1,hy2⟩:=hy;have ex':xs[o]? =some x:=by rw[<- List.head?_drop,ex];rfl
   have ey':ys[o]? =some y:=by rw[<- List.head?_drop,ey];rfl
   have dx:xs.drop (o+1)=xs':=by rw[<- List.drop_drop,ex];rfl
   have dy:ys.drop (o+1)=ys':=by rw[<- List.drop_drop,ey];rfl
   have ih:=vB w d e xs ys cs (o+1) (λc hc=>h c (by simp[hc])) (by rw[dx];exact hx2) (by rw[dy];exact hy2);have hag:(isAgg e).run P w=.ok false w:=by
    unfold isAgg;rw[Sem.run_bind]
    cases c with
    | int k=>rw[run_underlying (jO h3)];rfl
    | bool=>rw[run_underlying (gS h3)];rfl
   have px:(part e xs.toArray (o*1)).run P w=.ok x w:=by
    unfold part;rw[Sem.run_bind,hag];simp[ex']
   have py:(part e ys.toArray (o*1)).run P w=.ok y w:=by
    unfold part;rw[Sem.run_bind,hag];simp[ey']
   have he:(Op.equalIn (d+1) e x y).run P w=.ok (eqV x y) w:=by
    cases c with
    | int k=>
      obtain⟨n,rfl⟩:=hx1;obtain⟨m,rfl⟩:=hy1;rw[run_equalIn_int w d e k _ n m (jO h3)];rfl
    | bool=>
      obtain⟨n,rfl⟩:=hx1;obtain⟨m,rfl⟩:=hy1;rw[run_equalIn_bool w d e n m (gS h3)];rfl
   rw[List.length_cons,List.range'_succ];unfold Op.eqItems;rw[Sem.run_bind,px,Result.andThen_ok,Sem.run_bind,py,Result.andThen_ok,Sem.run_bind,he,Result.andThen_ok];rw[ex,ey];simp only [kB]
   cases hq:eqV x y
   ·simp
   ·simp only [Bool.not_true,Bool.false_eq_true,if_false,Bool.true_and];rw[ih,dx,dy]
theorem xS {P:Program} {t:TypeId} {cs:List CK} (h:aC9 P t cs=true) (xs ys:List Value) (w:World) (hx:iU cs xs) (hy:iU cs ys) :
 (Op.equal t (.agg xs.toArray) (.agg ys.toArray)).run P w=.ok (kB xs ys) w/\(∀(op:BinOp) (x y:Operand),(eqGuard op t x y (.agg xs.toArray) (.agg ys.toArray)).run P w=.ok () w):=by
 unfold aC9 at h;split at h
 ·rename_i n e hu;simp only [Bool.and_eq_true,Bool.not_eq_true',decide_eq_true_eq,List.all_eq_true] at h;obtain⟨⟨⟨⟨h1,h2⟩,h3⟩,h4⟩,h5⟩:=h;refine⟨?_,λop x y=>run_eqGuard_agg w op t x y _ _ h5⟩;obtain⟨i,hi⟩:=Option.isSome_iff_exists.1 h3;have:=run_equalIn_array w 9999 xs.toArray ys.toArray hu hi;rw[h4,List.range_eq_range',<- h1,show(9999:Nat)=9998+1 from rfl,vB w 9998 e xs ys cs 0 h2 (by simpa using hx) (by simpa using hy)] at this;simpa [Op.equal,Op.maxDepth] using this
 ·cases h
end Go.Gx
namespace Go.Gx
open Go.RowKit
section
variable {P:Program} {T:Tab} {N:cZ} {k:List It} {Q:GQ} {E:Env} {M M':Mem} {nx:Nat}
theorem bAh {α:Type} {body:Code} {Q:Exit->Env->Mem->Nat->Prop} (S:α->List (Nat × SV)) (Ms:α->Mem) (n:α->Nat) (I:α->Prop) (μ:α->Nat) (x0:α)
 (h0:I x0) (hE:Fit N E M nx (S x0) (Ms x0) (n x0))
 (round:∀x J,I x->GW P N body (iP J (S x)) (Ms x) (n x) (vR (λE' M' nx'=>∃x',I x'/\μ x'<μ x/\Fit N E' M' nx' (S x') (Ms x') (n x')) Q)) :
 GW P N (.loop body) E M nx Q:=by
 intro r hr B W w0 σ a w hs;have conv:∀{E M nx σ a w} (x:α),Fit N E M nx (S x) (Ms x) (n x)->St B W w0 N σ E M nx a w->∃σ' J,St B W w0 N σ' (iP J (S x)) (Ms x) (n x) a w:=by
  intro E M nx σ a w x h1 h3;obtain⟨J,v⟩:=h1;obtain⟨σ1,h4⟩:=v B W w0 σ a w h3;exact⟨_,_,h4⟩
 refine iY (λk a w=>∃x,μ x=k/\I x/\∃σ' J,St B W w0 N σ' (iP J (S x)) (Ms x) (n x) a w) (μ x0) ⟨x0,rfl,h0,conv x0 hE hs⟩ λk a w h=>?_;obtain⟨x,rfl,hi,σ',J,hst⟩:=h;refine Code.wpIn_mono (λe a' w' h'=>?_) (round x J hi r (hr.imp (λh=>h) λh=>by simpa [yR] using h) B W w0 σ' a w hst);obtain⟨E',M',nx',σ'',q,hs'⟩:=h'
 cases e with
 | normal=>
   obtain⟨x',i1,i2,i3⟩:=q;exact⟨μ x',i2,x',rfl,i1,conv x' i3 hs'⟩
 | _=>exact⟨E',M',nx',σ'',q,hs'⟩
def LV (P:Program) (T:Tab) (N:cZ) {α:Type} (S:α->List (Nat × SV)) (Ms:α->Mem) (n:α->Nat) (I:α->Prop) (μ:α->Nat) (x:α) (k:List It) (Q:GQ):GQ:=
 vR (λE' M' nx'=>∃x',I x'/\μ x'<μ x/\Fit N E' M' nx' (S x') (Ms x') (n x')) (GK P T N k Q)
section
variable {α:Type} {S:α->List (Nat × SV)} {Ms:α->Mem} {n:α->Nat} {I:α->Prop} {μ:α->Nat} {x:α}
@[go_sem]theorem bC6:LV P T N S Ms n I μ x k Q .normal E M nx=∃x',I x'/\μ x'<μ x/\Fit N E M nx (S x') (Ms x') (n x'):=(rfl)
@[go_sem]theorem bHr (i:Nat):LV P T N S Ms n I μ x k Q (.exit i) E M nx=GK P T N k Q (.exit i) E M nx:=(rfl)
end
theorem aUh (hT:aX P T) {α:Type} {c:Code} (S:α->List (Nat × SV)) (Ms:α->Mem) (n:α->Nat) (I:α->Prop) (μ:α->Nat) (x0:α)
 (h0:I x0) (hE:Fit N E M nx (S x0) (Ms x0) (n x0))
 (round:∀x J,I x->GC P T N c [] (LV P T N S Ms n I μ x k Q) (iP J (S x)) (Ms x) (n x)):rZ P T N c k Q E M nx:=
 bAh S Ms n I μ x0 h0 hE λx J hi=>dH hT c _ _ _ _ (round x J hi)
def vP (M:Mem) (b n:Nat) (R:Nat->Option Reg):Mem:=λr=>if b<=r/\r<b+n then R (r - b) else M r
@[go_sem]theorem bFc (M:Mem) (b n:Nat) (R:Nat->Option Reg) (r:Nat):vP M b n R r=if b<=r/\r<b+n then R (r - b) else M r:=rfl
theorem Reg.sub_none (R:Option Reg):Reg.sub R none:=by cases R <;> simp[Reg.sub]
theorem aVo {l:List (Option Reg)} {b cnt n:Nat} {R:Nat->Option Reg} (hl:l.length=b) (h1:jB 0 (cT n M) l) (h2:∀i,i<cnt->Reg.sub (cT n M (b+i)) (R i)) (r:Nat) :
 Reg.sub (cT n M r) (vP (fD l) b cnt R r):=by
 unfold vP;split
 ·rename_i h;have:=h2 (r - b) ω
  rwa [show b+(r - b)=r from ω] at this
 ·by_cases hr:r<b
  ·have:=uP l 0 _ h1 r ω;simpa [fD] using this
  ·simp[fD,List.getElem?_eq_none (ω:l.length<=r),Reg.sub_none]
theorem Fit.of_fam {S:List (Nat × SV)} {l:List (Option Reg)} {b cnt n:Nat} {R:Nat->Option Reg} (hn:N.np<=n) (h:fQ n E S) (hl:l.length=b) (h1:jB 0 (cT n M) l)
 (h2:∀i,i<cnt->Reg.sub (cT n M (b+i)) (R i)):Fit N E M nx S (vP (fD l) b cnt R) n:=
 Fit.of_slotsS hn h (aVo hl h1 h2)
abbrev aMt (n:Nat) (f:Nat->Reg):List Reg:=(List.range n).map f
theorem aR6 (l:List Reg) (n:Nat) (f:Nat->Reg) (r:Nat):bD (l++aMt n f) r=vP (bD l) l.length n (λi=>some (f i)) r:=by
 rw[cE];unfold vP;by_cases h1:r<l.length
 ·rw[if_neg ω,List.getElem?_append_left h1,cE]
 ·by_cases h2:r<l.length+n
  ·rw[if_pos ⟨ω,h2⟩,List.getElem?_append_right ω];simp[aMt,List.getElem?_range (show r - l.length<n by omega)]
  ·rw[if_neg ω,cE,List.getElem?_eq_none (by simp[aMt];omega),List.getElem?_eq_none ω]
theorem aNb (l:List Reg) (n:Nat) (f:Nat->Reg):bD (l++aMt n f)=vP (bD l) l.length n (λi=>some (f i)):=funext (aR6 l n f)
theorem sN {ρ:Nat->Nat}:∀{l l':List Nat} {Rs Rs':List Reg},lQ M ρ l Rs->lQ M ρ l' Rs'->lQ M ρ (l++l') (Rs++Rs')
 | [],l',[],Rs',_,h=>h
 | [],_,_::_,_,h,_=>h.elim
 | _::_,_,[],_,h,_=>h.elim
 | q::l,l',R::Rs,Rs',h,h'=>⟨h.1,sN h.2 h'⟩
theorem aBo {ρ:Nat->Nat} {p:Nat->Nat} {f:Nat->Reg}:∀(l:List Nat),(∀i∈l,Reg.sub (M (p i)) (some ((f i).ren ρ)))->lQ M ρ (l.map p) (l.map f)
 | [],_=>trivial
 | i::l,h=>⟨h i τ,aBo l λj hj=>h j (by simp[hj])⟩
theorem aMy {ρ:Nat->Nat} {l:List Nat} {Rs:List Reg} {n:Nat} {p:Nat->Nat} {f:Nat->Reg} (h:lQ M ρ l Rs) (h':∀i,i<n->Reg.sub (M (p i)) (some ((f i).ren ρ))):lQ M ρ (l++(List.range n).map p) (Rs++aMt n f):=
 sN h (aBo _ λi hi=>h' i (List.mem_range.1 hi))
theorem aNd {l:List Nat} {n:Nat} {p:Nat->Nat} (h:l.Nodup) (hp:∀i j,i<n->j<n->p i=p j->i=j) (hl:∀x∈l,∀i,i<n->p i≠x):(l++(List.range n).map p).Nodup:=by
 rw[List.nodup_append];refine⟨h,?_,λa ha b hb=>?_⟩
 ·unfold List.Nodup;rw[List.pairwise_map];refine List.Pairwise.imp_of_mem (fun {i j} hi hj hij=>?_) (List.pairwise_lt_range (n:=n));intro e;have:=hp i j (List.mem_range.1 hi) (List.mem_range.1 hj) e;omega
 ·obtain⟨i,hi,rfl⟩:=List.mem_map.1 hb;exact(hl a ha i (List.mem_range.1 hi)).symm
theorem aQ2 {l:List Nat} {n:Nat} {p:Nat->Nat} {D:Nat} (r:Nat):((l++(List.range n).map p)[r]?).getD D=if r<l.length then (l[r]?).getD D else if r<l.length+n then p (r - l.length) else D:=by
 by_cases h1:r<l.length
 ·rw[if_pos h1,List.getElem?_append_left h1]
 ·rw[if_neg h1,List.getElem?_append_right ω];by_cases h2:r<l.length+n
  ·rw[if_pos h2];simp[List.getElem?_range (show r - l.length<n by omega)]
  ·rw[if_neg h2,List.getElem?_eq_none ι];rfl
theorem aEt (b:Nat) (ρ:Nat->Nat) (hρ:∀i,ρ i=b+i) (f:Nat->Reg):∀(n s i:Nat) (M:Mem),tV ρ i ((List.range' s n).map f) M=vP M (b+i) n λj=>some ((f (s+j)).ren ρ)
 | 0,s,i,M=>by
   funext r;simp only [List.range'_zero,List.map_nil,tV,vP];rw[if_neg ω]
 | n+1,s,i,M=>by
   simp only [List.range'_succ,List.map_cons,tV,aEt b ρ hρ f n];funext r;simp only [vP,aEa,hρ];by_cases h1:r=b+i
   ·subst h1;rw[if_neg ω,if_pos rfl,if_pos ⟨ω,ω⟩];simp
   ·by_cases h2:b+(i+1)<=r/\r<b+(i+1)+n
    ·rw[if_pos h2,if_pos ⟨ω,ω⟩,show s+1+(r - (b+(i+1)))=s+(r - (b+i)) from ω]
    ·rw[if_neg h2,if_neg h1,if_neg ω]
end
end Go.Gx
namespace Go.Gx
open Go.RowKit
mutual
def SV.mv (p q:Nat):SV->SV
 | .r x=>.r x
 | .ptr z row k fld=>if z=p then .ptr q row k fld else if z=q then .r .any else .ptr z row k fld
 | .sl z k lo n c=>if z=p then .sl q k lo n c else if z=q then .r .any else .sl z k lo n c
 | .mp z=>if z=p then .mp q else if z=q then .r .any else .mp z
 | .fn f fi ca=>.fn f (SV.mvL p q fi) (SV.mvL p q ca)
 | .agg l=>.agg (SV.mvL p q l)
 | .tup l=>.tup (SV.mvL p q l)
def SV.mvL (p q:Nat):List SV->List SV
 | []=>[]
 | s::l=>s.mv p q::SV.mvL p q l
end
def Reg.mv (p q:Nat):Reg->Reg
 | .box l=>.box (SV.mvL p q l)
 | .vec e k n g=>.vec e k n λi j=>(g i j).mv p q
 | .map has val st=>.map has (λa=>(val a).mv p q) st
 | .iter m f c all left la=>.iter (m.mv p q) f c all left la
def mvM (p q:Nat) (M:Mem):Mem:=λr=>if r=q then (M p).map (Reg.mv p q) else if r=p then none else (M r).map (Reg.mv p q)
attribute [go_sem] SV.mv SV.mvL Reg.mv mvM
section
variable {σ σ':Sig} {Z Z':Nat->Prop} {w:World} {p q:Nat}
mutual
theorem SV.rel_mv (hp:σ' q=σ p) (hs:∀r,r≠p->r≠q->σ' r=σ r) (hz:∀b,Z b->Z' b):∀(s:SV) (y:Value),s.rel σ Z w y->(s.mv p q).rel σ' Z' w y
 | .r x,y,h=>by
   unfold SV.mv;exact RV.rel_mono (λb hb=>⟨hz b hb,rfl⟩) x y h
 | .ptr z row k fld,y,h=>by
   unfold SV.mv;obtain⟨L,b,h1,h2,h3⟩:=h;split
   ·rename_i e;subst e;exact⟨L,b,hp.trans h1,h2,h3⟩
   ·split
    ·trivial
    ·rename_i e1 e2;exact⟨L,b,(hs z e1 e2).trans h1,h2,h3⟩
 | .sl z k lo n c,y,h=>by
   unfold SV.mv;obtain⟨L,A,h1,h2⟩:=h;split
   ·rename_i e;subst e;exact⟨L,A,hp.trans h1,h2⟩
   ·split
    ·trivial
    ·rename_i e1 e2;exact⟨L,A,(hs z e1 e2).trans h1,h2⟩
 | .mp z,y,h=>by
   unfold SV.mv;obtain⟨L,b,h1,h2,h3⟩:=h;split
   ·rename_i e;subst e;exact⟨L,b,hp.trans h1,h2,h3⟩
   ·split
    ·trivial
    ·rename_i e1 e2;exact⟨L,b,(hs z e1 e2).trans h1,h2,h3⟩
 | .fn f fi ca,y,h=>by
   obtain⟨vs,ws,e,h1,h2⟩:=h;exact⟨vs,ws,e,SV.relL_mv hp hs hz _ _ h1,SV.relL_mv hp hs hz _ _ h2⟩
 | .agg l,y,h=>by
   obtain⟨vs,e,h1,h2⟩:=h;exact⟨vs,e,h1,SV.relL_mv hp hs hz _ _ h2⟩
 | .tup l,y,h=>by
   obtain⟨vs,e,h2⟩:=h;exact⟨vs,e,SV.relL_mv hp hs hz _ _ h2⟩
theorem SV.relL_mv (hp:σ' q=σ p) (hs:∀r,r≠p->r≠q->σ' r=σ r) (hz:∀b,Z b->Z' b):∀(l:List SV) (ys:List Value),SV.relL σ Z w l ys->SV.relL σ' Z' w (SV.mvL p q l) ys
 | [],ys,h=>h
 | s::l,ys,h=>by
   obtain⟨v,vs',e,h1,h2⟩:=h;exact⟨v,vs',e,SV.rel_mv hp hs hz s v h1,SV.relL_mv hp hs hz l vs' h2⟩
end
theorem RegOK.mv {L:rY} {R:Reg} (hp:σ' q=σ p) (hs:∀r,r≠p->r≠q->σ' r=σ r) (hz:∀b,Z b->Z' b) (h:RegOK σ Z w L R):RegOK σ' Z' w L (R.mv p q):=by
 cases R with
 | box l=>
   obtain⟨b',cs,ty,h1,h2,h3,h4⟩:=h;exact⟨b',cs,ty,h1,h2,h3,SV.relL_mv hp hs hz _ _ h4⟩
 | vec e k n g=>
   obtain⟨h0,hm,h | ⟨b',cs,h1,h2,h3,ho,h5⟩⟩:=h
   ·exact⟨h0,hm,.inl h⟩
   ·refine⟨h0,hm,.inr ⟨b',cs,h1,h2,h3,ho,λi j hi hj=>?_⟩⟩;obtain⟨v,hv,ho,hr⟩:=h5 i j hi hj;exact⟨v,hv,ho,SV.rel_mv hp hs hz _ _ hr⟩
 | map has val st=>
   obtain⟨b',es,ck,h1,h2,h3,h4⟩:=h;exact⟨b',es,ck,h1,h2,h3.mono λa v _ hv=>SV.rel_mv hp hs hz _ _ hv,h4⟩
 | iter m f c all left la=>
   obtain⟨b',mo,seen,sp,h1,h2,h3,h4,h5⟩:=h;exact⟨b',mo,seen,sp,h1,h2,h3,SV.rel_mv hp hs hz _ _ h4,h5⟩
end
theorem GSt.move {N:cZ} {E:Env} {M:Mem} {nx:Nat} (p q:Nat) (hpq:p≠q) (hp:N.np<=p) (hq:N.np<=q) (hqx:q<nx):GSt N E M nx (λt=>(E t).mv p q) (mvM p q M) nx:=by
 intro B W w0 σ a w h
 let σ':Sig:=λr=>if r=q then σ p else if r=p then none else σ r
 have e1:σ' q=σ p:=if_pos rfl;have e2:∀r,r≠p->r≠q->σ' r=σ r:=λr h1 h2=>by
  show(if r=q then _ else _)=_;rw[if_neg h2,if_neg h1]
 have hk:∀r R',mvM p q M r=some R'->(r=q/\∃R,M p=some R/\R'=R.mv p q)\/(r≠q/\r≠p/\∃R,M r=some R/\R'=R.mv p q):=by
  intro r R' h;unfold mvM at h;split at h
  ·rename_i e
   cases hq:M p with
   | none=>rw[hq] at h;cases h
   | some R=>rw[hq] at h;cases h;exact .inl ⟨e,R,rfl,rfl⟩
  ·split at h
   ·cases h
   ·rename_i e e'
    cases hq:M r with
    | none=>rw[hq] at h;cases h
    | some R=>rw[hq] at h;cases h;exact .inr ⟨e,e',R,rfl,rfl⟩
 have hk':∀r R' L,mvM p q M r=some R'->σ' r=some L->∃r0 R,M r0=some R/\R'=R.mv p q/\σ r0=some L/\(r=q/\r0=p\/r≠q/\r≠p/\r0=r):=by
  intro r R' L h1 h2;rcases hk r R' h1 with ⟨rfl,R,h3,h4⟩ | ⟨h5,h6,R,h3,h4⟩
  ·exact⟨p,R,h3,h4,by rw[<- e1];exact h2,.inl ⟨rfl,rfl⟩⟩
  ·exact⟨r,R,h3,h4,by rw[<- e2 r h6 h5];exact h2,.inr ⟨h5,h6,rfl⟩⟩
 have hz:∀b,Zof B σ M w b->Zof B σ' (mvM p q M) w b:=λb hb=>⟨hb.1,λr R' L h1 h2 h3=>by
  obtain⟨r0,R,g1,_,g3,_⟩:=hk' r R' L h1 h2;exact hb.2 r0 R L g1 g3 h3⟩
 refine⟨σ',λt=>SV.rel_mv e1 e2 hz _ _ (h.env t),⟨h.mem.newB,λr hr=>?_,λr R' h1=>?_,λr r' R R' L L' b h1 h2 h3 h4 h5 h6=>?_,λr R' L b h1 h2 h3=>?_⟩,h.fr,h.defers.keep (λb hb=>⟨hz b hb,rfl⟩),h.size,h.low,λr hr=>?_,h.good⟩
 ·have hr':nx<=r:=hr;by_cases e:r=p
  ·subst e;show(if r=q then _ else if r=r then none else _)=none;rw[if_neg hpq,if_pos rfl]
  ·rw[e2 r e ω];exact h.mem.fresh r hr
 ·rcases hk r R' h1 with ⟨rfl,R,h3,rfl⟩ | ⟨h5,h6,R,h3,rfl⟩
  ·obtain⟨L,g1,g2⟩:=h.mem.reg p R h3;exact⟨L,by rw[e1];exact g1,g2.mv e1 e2 hz⟩
  ·obtain⟨L,g1,g2⟩:=h.mem.reg r R h3;exact⟨L,by rw[e2 r h6 h5];exact g1,g2.mv e1 e2 hz⟩
 ·obtain⟨r0,R0,g1,_,g3,g4⟩:=hk' r R L h1 h3;obtain⟨r1,R1,k1,_,k3,k4⟩:=hk' r' R' L' h2 h4;have:=h.mem.inj r0 r1 R0 R1 L L' b g1 k1 g3 k3 h5 h6;omega
 ·obtain⟨r0,R0,g1,_,g3,g4⟩:=hk' r R' L h1 h2;exact h.mem.own r0 R0 L b g1 g3 h3
 ·rw[e2 r ω ω];exact h.pin r hr
end Go.Gx
namespace Go.Gx
open Go.RowKit
def aTl (o:Oper):Bool:=o.guard.isNone&&match o.op with | .fieldAddr .. | .move _ | .assign _ | .nilCheck _=>true | _=>false
def oT (T:Tab) (E:Env):Op->GR
 | .fieldAddr t x f=>gE T t (ev E x) f
 | .move x | .assign x=>.pure True (ev E x)
 | .nilCheck x=>uD (ev E x)
 | _=>.bad
def TT.makeX (ops:Array Oper):Nat->Array Bool->TT
 | 0,l=>if (Region.ready .any ops l).isEmpty then .done else .bad
 | n+1,l=>
   let r:=Region.ready .any ops l
   if r.isEmpty then .done else
   match r.find? λi=>((ops[i]?).map aTl).getD false&&Region.free .any ops l i with
   | some i=>.take i (TT.makeX ops n (l.setIfInBounds i true))
   | none=>r.foldr (λi t=>.alt i (TT.makeX ops n (l.setIfInBounds i true)) t) .nil
section
variable (P:Program) (T:Tab) (N:cZ)
def TQX (K:Env->Mem->Nat->Prop):GQ:=λe E M nx=>match e with | .normal=>K E M nx | _=>True
def aEo (g:GR) (d:Option Tmp) (K:Env->Mem->Nat->Prop) (E:Env) (M:Mem) (nx:Nat):Prop:=
 match g with
 | .pure ob s=>ob/\dC N.n d/\K (aK E d s) M nx
 | _=>False
def GUX (all:Array Oper):TT->List It->GQ->Env->Mem->Nat->Prop
 | .done,k,Q,E,M,nx=>GK P T N k Q .normal E M nx
 | .bad,_,_,_,_,_=>False
 | .nil,_,_,_,_,_=>True
 | .alt i sub more,k,Q,E,M,nx=>(match all[i]? with | some o=>GO P T N all [o] [] (TQX (GUX all sub k Q)) E M nx | none=>False)/\GUX all more k Q E M nx
 | .take i sub,k,Q,E,M,nx=>match all[i]? with | some o=>aEo N (oT T E o.op) o.dst (GUX all sub k Q) E M nx | none=>False
def bEn (o:Option Oper) (all:Array Oper) (sub:TT) (k:List It) (Q:GQ) (E:Env) (M:Mem) (nx:Nat):Prop:=
 match o with | some o=>GO P T N all [o] [] (TQX (GUX P T N all sub k Q)) E M nx | none=>False
def bEo (o:Option Oper) (all:Array Oper) (sub:TT) (k:List It) (Q:GQ) (E:Env) (M:Mem) (nx:Nat):Prop:=
 match o with | some o=>aEo N (oT T E o.op) o.dst (GUX P T N all sub k Q) E M nx | none=>False
end
section
variable {P:Program} {T:Tab} {N:cZ} {k:List It} {Q:GQ} {E:Env} {M:Mem} {nx:Nat}
@[go_sem]theorem aZi (K:Env->Mem->Nat->Prop):TQX K .normal E M nx=K E M nx:=(rfl)
@[go_sem]theorem bEl (all:Array Oper):GUX P T N all .done k Q E M nx=GK P T N k Q .normal E M nx:=(rfl)
@[go_sem]theorem bHn (all:Array Oper):GUX P T N all .nil k Q E M nx=True:=(rfl)
@[go_sem]theorem bHm (all:Array Oper) (i:Nat) (s m:TT):GUX P T N all (.alt i s m) k Q E M nx=(bEn P T N all[i]? all s k Q E M nx/\GUX P T N all m k Q E M nx):=(rfl)
@[go_sem]theorem bEm (all:Array Oper) (i:Nat) (s:TT):GUX P T N all (.take i s) k Q E M nx=bEo P T N all[i]? all s k Q E M nx:=(rfl)
@[go_sem]theorem bCy (all:Array Oper) (o:Oper) (s:TT):bEn P T N (some o) all s k Q E M nx=GO P T N all [o] [] (TQX (GUX P T N all s k Q)) E M nx:=(rfl)
@[go_sem]theorem bCz (all:Array Oper) (d:Option Tmp) (op:Op) (ty:TypeId) (pos:String) (af:Array Edge) (g:Option (Nat × Bool)) (s:TT) :
   bEo P T N (some ⟨d,op,ty,pos,af,g⟩) all s k Q E M nx=aEo N (oT T E op) d (GUX P T N all s k Q) E M nx:=(rfl)
@[go_sem]theorem bCv (ob:Prop) (s:SV) (d:Option Tmp) (K:Env->Mem->Nat->Prop):aEo N (.pure ob s) d K E M nx=(ob/\dC N.n d/\K (aK E d s) M nx):=(rfl)
@[go_sem]theorem aM0 (t:TypeId) (x:Operand) (f:Nat):oT T E (.fieldAddr t x f)=gE T t (ev E x) f:=(rfl)
@[go_sem]theorem aYq (x:Operand):oT T E (.move x)=.pure True (ev E x):=(rfl)
@[go_sem]theorem aUa (x:Operand):oT T E (.assign x)=.pure True (ev E x):=(rfl)
theorem aFq {all:Array Oper} {f:Nat->TT}:∀(l:List Nat),GUX P T N all (l.foldr (λi t=>.alt i (f i) t) .nil) k Q E M nx->
 ∀i∈l,∃o,all[i]? =some o/\oP P T N all [o] E M nx (λE M nx=>GUX P T N all (f i) k Q E M nx)
 | [],_,i,hi=>by simp at hi
 | j::l,h,i,hi=>by
   simp only [List.foldr_cons,GUX] at h;rcases List.mem_cons.1 hi with rfl | hi
   ·have h1:=h.1
    cases ho:all[i]? with
    | none=>rw[ho] at h1;exact h1.elim
    | some o=>rw[ho] at h1;exact⟨o,rfl,h1⟩
   ·exact aFq l h.2 i hi
theorem aV2 (hT:aX P T) {B W:Nat->Prop} {w0:W0} {all:Array Oper} (hsel:Region.noSelect all=true) {R:Exit->Act->World->Prop}
 (hK:∀E M nx σ a w,GK P T N k Q .normal E M nx->St B W w0 N σ E M nx a w->R .normal a w) (hR:∀c a w,¬R (.panic c) a w):∀(fuel:Nat) (listed:Array Bool) (E:Env) (M:Mem) (nx:Nat) (σ:Sig) (a:Act) (w:World),
 St B W w0 N σ E M nx a w->GUX P T N all (TT.makeX all fuel listed) k Q E M nx->wpAnyIn Fence.wide 0 P .any all R fuel listed a w:=by
 intro fuel
 induction fuel with
 | zero=>
   intro listed E M nx σ a w h hg;simp only [TT.makeX] at hg;split at hg
   ·rename_i hr;exact⟨List.isEmpty_iff.1 hr,hK _ _ _ _ _ _ hg h⟩
   ·exact hg.elim
 | succ fuel ih=>
   intro listed E M nx σ a w h hg;simp only [TT.makeX] at hg;split at hg
   ·rename_i hr;have hr':=List.isEmpty_iff.1 hr;refine⟨λ_=>hK _ _ _ _ _ _ hg h,λi hi=>?_⟩;rw[hr'] at hi;simp at hi
   ·rename_i hr;split at hg
    ·rename_i i hi;have hp:=List.find?_some hi;have hmem:=List.mem_of_find?_eq_some hi;simp only [Bool.and_eq_true] at hp;obtain⟨hp1,hp2⟩:=hp;simp only [GUX] at hg
     cases ho:all[i]? with
     | none=>rw[ho] at hg;exact hg.elim
     | some o=>
       rw[ho] at hg hp1;simp only [Option.map_some,Option.getD_some] at hp1;obtain⟨dst,op,ty,pos,af,gd⟩:=o;simp only [aTl,Bool.and_eq_true,Option.isNone_iff_eq_none] at hp1;obtain⟨rfl,hp1⟩:=hp1;have hw:Region.wanted ⟨dst,op,ty,pos,af,none⟩ (yielded all a.tmps)=true:=by simp[Region.wanted]
       have fin:∀(s:SV) (y:Value),(∀w,(execOp a.eval ⟨dst,op,ty,pos,af,none⟩).run P w=.ok (.value y) w)->(∀w,Oper.about P w a.eval ⟨dst,op,ty,pos,af,none⟩=none)->s.rel σ (Zof B σ M w) w y->dC N.n dst->GUX P T N all (TT.makeX all fuel (listed.setIfInBounds i true)) k Q (aK E dst s) M nx->wpAnyIn Fence.wide 0 P .any all R (fuel+1) listed a w:=by
        intro s y h1 h0 h2 h3 h4;exact wpAnyIn_take (v:=y) rfl ho hsel hp2 (by simpa using hmem) (λc a w hh=>(hR _ _ _ hh).elim) ⟨.inl ⟨hw,h1⟩,h0⟩ (ih _ _ _ _ _ _ _ (h.put h3 h2) h4)
       cases op with
       | fieldAddr t x f=>
         simp only [oT] at hg
         cases hq:gE T t (ev E x) f with
         | pure ob s=>
           rw[hq] at hg;obtain⟨h1,h2,h3⟩:=hg;obtain⟨y,e1,e2⟩:=aJg hT hq h1 (bA h.env x);exact fin s y (λw=>by simp[execOp,e1]) (λ_=>rfl) e2 h2 h3
         | _=>rw[hq] at hg;exact hg.elim
       | move x=>
         obtain⟨_,h2,h3⟩:=hg;exact fin _ (a.eval x) (λw=>rfl) (λ_=>rfl) (bA h.env x) h2 h3
       | assign x=>
         obtain⟨_,h2,h3⟩:=hg;exact fin _ (a.eval x) (λw=>rfl) (λ_=>rfl) (bA h.env x) h2 h3
       | nilCheck x=>
         simp only [oT] at hg;have hx:=bA h.env x;unfold uD at hg;split at hg
         ·rename_i a1 a2 a3 a4 heq;rw[heq] at hx;obtain⟨_,h2,h3⟩:=hg;obtain⟨L,b,q1,q2,q3⟩:=hx;exact fin (.ptr a1 a2 a3 a4) (a.eval x) (λw=>by simp[execOp,q3]) (λ_=>rfl) ⟨L,b,q1,q2,q3⟩ h2 h3
         ·rename_i a1 a2 a3 a4 a5 heq;rw[heq] at hx;obtain⟨_,h2,h3⟩:=hg;obtain⟨b,o,q1,q2⟩:=hx;exact fin (.r (.rp a1 a2 a3 a4 a5)) (a.eval x) (λw=>by simp[execOp,q1]) (λ_=>rfl) ⟨b,o,q1,q2⟩ h2 h3
         ·rename_i f a1 a2 heq;rw[heq] at hx;split at hg
          ·rename_i f';obtain⟨_,h2,h3⟩:=hg;obtain⟨vs,ws,q1,q2⟩:=hx;exact fin (.fn (.func f') a1 a2) (a.eval x) (λw=>by simp[execOp,q1]) (λ_=>rfl) ⟨vs,ws,q1,q2⟩ h2 h3
          ·exact hg.elim
         ·exact hg.elim
       | _=>simp at hp1
    ·refine⟨λh'=>absurd (List.isEmpty_iff.2 h') hr,λi hi=>?_⟩;obtain⟨o,ho,hgo⟩:=aFq _ hg i hi;have hs:=uF (Q:=R) (next:=wpAnyIn Fence.wide 0 P .any all R fuel (listed.setIfInBounds i true)) hT h hgo (λE' M' nx' σ' a' w' hk hs=>ih _ E' M' nx' σ' a' w' hs hk);unfold wpOpIn;rw[ho];simp only [];split
     ·rename_i hw;rw[if_pos hw] at hs;exact hs
     ·rename_i hw;rw[if_neg hw] at hs;exact⟨λ_ _=>trivial,hs⟩
theorem aJs (hT:aX P T) (hm:P.follows .mixedOrders=true) {id:Nat} {all:Array Oper} {t:TT} (hsel:Region.noSelect all=true) (ht:TT.makeX all all.size (Array.replicate all.size false)=t)
 (hp:∀c E M nx,GK P T N k Q (.panic c) E M nx->False) (h:GUX P T N all t k Q E M nx):iF P T N id all k Q E M nx:=by
 subst ht;intro r hr B W w0 σ a w hs;refine kQ (hr.imp (λh=>h) λh=>h) hm (aV2 hT hsel (R:=λe a' w'=>∃E' M' nx' σ',GK P T N k Q e E' M' nx'/\St B W w0 N σ' E' M' nx' a' w') (λE M nx σ a w hk hst=>⟨E,M,nx,σ,hk,hst⟩) (λc a w ⟨E,M,nx,σ,hk,_⟩=>hp _ _ _ _ hk) _ _ E M nx σ a _ hs.drawn h)
end
end Go.Gx
namespace Go.Gx
open Go.RowKit
section
variable {P:Program} {T:Tab} {N:cZ} {k:List It} {Q:GQ} {E:Env} {M M':Mem} {nx:Nat}
def aDc (M:Mem) (b n:Nat) (R:Nat->Option Reg):Mem:=λr=>if b<=r/\r<n+b then R (r - b) else M r
@[go_sem]theorem aQr (M:Mem) (b n:Nat) (R:Nat->Option Reg) (r:Nat):aDc M b n R r=if b<=r/\r<n+b then R (r - b) else M r:=rfl
theorem aDd (M:Mem) (b n:Nat) (R:Nat->Option Reg):aDc M b n R=vP M b n R:=by
 funext r;unfold aDc vP;rw[Nat.add_comm n b]
theorem Fit.of_famN {S:List (Nat × SV)} {l:List (Option Reg)} {b cnt n:Nat} {R:Nat->Option Reg} (hn:N.np<=n) (h:fQ n E S) (hl:l.length=b) (h1:jB 0 (cT n M) l)
 (h2:∀i,i<cnt->Reg.sub (cT n M (i+b)) (R i)):Fit N E M nx S (aDc (fD l) b cnt R) n:=by
 rw[aDd];exact Fit.of_fam hn h hl h1 λi hi=>by rw[Nat.add_comm];exact h2 i hi
theorem aBx (l:List Reg) (n:Nat) (f:Nat->Reg):bD (l++(List.range n).map f)=aDc (bD l) l.length n (λi=>some (f i)):=by
 rw[aDd];exact aNb l n f
@[go_sem]theorem bC9 (b i n:Nat) (f:Nat->Reg) (M:Mem):tV (λi=>b+i) i ((List.range n).map f) M=aDc M (b+i) n λj=>some ((f j).ren λi=>b+i):=by
  have:=aEt b (λi=>b+i) (λ_=>rfl) f n 0 i M;rw[List.range_eq_range',aDd];simpa using this
@[go_sem]theorem bFb (n:Nat) (f:Nat->Reg):aMt n f=(List.range n).map f:=rfl
def aDe (l:List Nat) (n b:Nat):List Nat:=l++(List.range n).map λi=>i+b
theorem xU {l:List Nat} {n b:Nat} (h:l.Nodup) (hl:∀x∈l,x<b):(aDe l n b).Nodup:=
 aNd h (λi j _ _ h=>ω) λx hx i _=>by have:=hl x hx;omega
theorem aBk (l:List Nat) (n b D r:Nat):((aDe l n b)[r]?).getD D=if r<l.length then (l[r]?).getD D else if r<n+l.length then r - l.length+b else D:=by
 unfold aDe;rw[aQ2,Nat.add_comm l.length n]
theorem aDf {l:List Nat} {n b D r:Nat} (h:r<l.length):((aDe l n b)[r]?).getD D=(l[r]?).getD D:=by
 rw[aBk,if_pos h]
theorem aKh {l:List Nat} {n b D i:Nat} (h:i<n):((aDe l n b)[i+l.length]?).getD D=i+b:=by
 rw[aBk,if_neg ω,if_pos ω];omega
theorem yE {ρ:Nat->Nat} {l:List Nat} {Rs:List Reg} {n b:Nat} {f:Nat->Reg} (h:lQ M ρ l Rs) (h':∀i,i<n->Reg.sub (M (i+b)) (some ((f i).ren ρ))):lQ M ρ (aDe l n b) (Rs++(List.range n).map f):=
 aMy h h'
end
end Go.Gx
namespace Go.Gx
open Go.RowKit
section
variable {P:Program} {T:Tab} {N:cZ} {k:List It} {Q:GQ} {E:Env} {M M':Mem} {nx:Nat}
def Reg.wk (R R':Option Reg):Prop:=
 Reg.sub R R'\/∃e k n n' g g',R=some (.vec e k n g)/\R'=some (.vec e k n' g')/\n'<=n/\∀i j,i<n'->j<k->(g i j).sub (g' i j)
theorem Reg.wk_vec {e k n n':Nat} {g g':Nat->Nat->SV} (hn:n'<=n) (h:∀i j,i<n'->j<k->(g i j).sub (g' i j)):Reg.wk (some (.vec e k n g)) (some (.vec e k n' g')):=.inr ⟨e,k,n,n',g,g',rfl,rfl,hn,h⟩
theorem Reg.wk_ok {σ:Sig} {Z Z':Nat->Prop} {w:World} {L:rY} {R R':Reg} (h:Reg.wk (some R) (some R')) (hz:∀b,Z b->Z' b) (hr:RegOK σ Z w L R):RegOK σ Z' w L R':=by
 rcases h with h | ⟨e,k,n,n',g,g',h1,h2,hn,hg⟩
 ·exact Reg.sub_ok h hz hr
 ·cases h1;cases h2
  have hr':=hr.mono (λ_ _ h=>h) (λb hb=>⟨hz b hb,rfl⟩) (λ_ _=>rfl);obtain⟨h0,hm,h⟩:=hr';refine⟨Nat.le_trans hn h0,hm,h.imp id λ⟨b,cs,h1,h2,h3,ho,h5⟩=>⟨b,cs,h1,h2,h3,ho,λi j hi hj=>?_⟩⟩;obtain⟨v,v1,v0,v2⟩:=h5 i j ω hj;exact⟨v,v1,v0,SV.sub_rel _ _ _ (hg i j hi hj) v2⟩
theorem MOK.wk {B W F:Nat->Prop} {n0:Nat} {σ:Sig} {w:World} (hm:MOK B W n0 σ M F w) (hs:∀r,Reg.wk (M r) (M' r)):MOK B W n0 σ M' F w/\∀b,Zof B σ M w b->Zof B σ M' w b:=by
 have hk:∀r R',M' r=some R'->∃R1,M r=some R1/\Reg.wk (some R1) (some R'):=by
  intro r R' h;have:=hs r;rw[h] at this
  cases hq:M r with
  | none=>
    rw[hq] at this;rcases this with h | ⟨_,_,_,_,_,_,h,_⟩
    ·simp[Reg.sub] at h
    ·cases h
  | some R1=>rw[hq] at this;exact⟨R1,rfl,this⟩
 have hz:∀b,Zof B σ M w b->Zof B σ M' w b:=λb hb=>⟨hb.1,λr R' L' h1 h2 h3=>by
  obtain⟨R1,e1,_⟩:=hk r R' h1;exact hb.2 r R1 L' e1 h2 h3⟩
 refine⟨⟨hm.newB,hm.fresh,λr R' h=>?_,λr r' R1 R2 L1 L2 x h1 h2 h3 h4 h5 h6=>?_,λr R' L' x h1 h2 h3=>?_⟩,hz⟩
 ·obtain⟨R1,e1,e2⟩:=hk r R' h;obtain⟨L',g1,g2⟩:=hm.reg r R1 e1;exact⟨L',g1,Reg.wk_ok e2 hz g2⟩
 ·obtain⟨R3,e1,_⟩:=hk r R1 h1;obtain⟨R4,e2,_⟩:=hk r' R2 h2;exact hm.inj r r' R3 R4 L1 L2 x e1 e2 h3 h4 h5 h6
 ·obtain⟨R3,e1,_⟩:=hk r R' h1;exact hm.own r R3 L' x e1 h2 h3
theorem xD {N:cZ} {f:FuncId} {args:List SV} {K:SV->Mem->Nat->(SV->SV)->Prop} (hs:∀r,Reg.wk (M r) (M' r)) (h:dV P N f args M' nx K):dV P N f args M nx K:=by
 intro B W w0 σ w vs hm hn hl hgd ha;obtain⟨m1,m2⟩:=hm.wk hs;have ha':=SV.relL_mono (σ:=σ) (σ':=σ) (w:=w) (w':=w) (λ_ _ h=>h) (λb hb=>⟨m2 b hb,rfl⟩) args vs ha;have conv:∀e w',jU N.good.u N.np B W w0.heap.size σ M' w K e w'->jU N.good.u N.np B W w0.heap.size σ M w K e w':=by
  rintro e w' ⟨y,s,M1,nx',σ',up,rfl,p1,p2,p3,p4,p5,p6⟩;exact⟨y,s,M1,nx',σ',up,rfl,p1,p2,λb hb=>p3 b (m2 b hb),p4,λt z hz'=>p5 _ _ (SV.rel_mono (λ_ _ h=>h) (λb hb=>⟨m2 b hb,rfl⟩) _ _ hz'),p6⟩
 rcases h B W w0 σ w vs m1 hn hl hgd ha' with ⟨c1,c2⟩ | ⟨y,w',c1,c2⟩
 ·exact .inl ⟨c1,c2.mono λe w' hp=>conv e w' hp⟩
 ·exact .inr ⟨y,w',c1,conv _ _ c2⟩
end
end Go.Gx
namespace Go.Gx
open Go.RowKit
section
variable {P:Program} {T:Tab} {N:cZ} {k:List It} {Q:GQ} {E:Env} {M:Mem} {nx:Nat}
def JQ (S:List (Nat × SV)) (n:Nat) (φ:Mem->Prop):GQ:=λe E M nx=>match e with | .normal=>fQ n E S/\φ (cT n M) | _=>False
@[go_sem]theorem bC1 (S:List (Nat × SV)) (n:Nat) (φ:Mem->Prop):JQ S n φ .normal E M nx=(fQ n E S/\φ (cT n M)):=(rfl)
end
end Go.Gx
namespace Go.Gx
open Go.RowKit
def Agree (D:Nat->Prop) (a b:Act):Prop:=a.defers=b.defers/\a.tmps.size=b.tmps.size/\∀t,¬D t->a.tmps[t]? =b.tmps[t]?
section
variable {P:Program} {ops:Array Oper} {Q:Exit->Act->World->Prop} {D:Nat->Prop} {a b:Act} {w:World}
theorem Agree.eval (h:Agree D a b) {x:Operand} (hx:∀t,x=.tmp t->¬D t):a.eval x=b.eval x:=by
 cases x with
 | tmp t=>
   simp only [Act.eval,Array.getD_eq_getD_getElem?];rw[h.2.2 t (hx t rfl)]
 | _=>rfl
theorem Agree.put (h:Agree D a b) (d:Option Tmp) (v:Value):Agree D (a.put d v) (b.put d v):=by
 cases d with
 | none=>exact h
 | some d=>
   refine⟨h.1,by simpa [Act.put] using h.2.1,λt ht=>?_⟩;simp only [Act.put,Array.getElem?_setIfInBounds,h.2.1,h.2.2 t ht]
theorem Agree.wanted (h:Agree D a b) (o:Oper) (hx:∀t∈o.looksAt ops,¬D t):Region.wanted o (yielded ops a.tmps)=Region.wanted o (yielded ops b.tmps):=by
 unfold Region.wanted
 cases hg:o.guard with
 | none=>rfl
 | some gw=>
   obtain⟨g,want⟩:=gw;have hy:yielded ops a.tmps g=yielded ops b.tmps g:=by
    unfold yielded
    cases ht:(ops[g]?).bind (·.dst) with
    | none=>rfl
    | some t=>
      have:a.tmps[t]? =b.tmps[t]?:=h.2.2 t (hx t (by simp[Oper.looksAt,hg,ht]));simp[this]
   simp only [hy]
theorem Agree.exec (h:Agree D a b) (o:Oper) (hs:∀cs b,o.op≠.select cs b) (hx:∀t∈o.looksAt ops,¬D t):execOp a.eval o=execOp b.eval o:=
 execOp_congr o hs λx hx2=>h.eval λt ht=>hx t (by
  subst ht;exact List.mem_append_left _ (List.mem_filterMap.2 ⟨.tmp t,by simpa using hx2,rfl⟩))
theorem aJo {j:Nat} {o:Oper} (hj:ops[j]? =some o) (hs:∀cs b,o.op≠.select cs b) (hx:∀t∈o.looksAt ops,¬D t) (hab:Agree D a b) (hQ:∀c a w,¬Q (.panic c) a w) {K K':Act->World->Prop}
 (hK:∀a' b' w',Agree D a' b'->K' b' w'->K a' w') (h:wpOpIn Fence.wide 0 P ops Q j K' b w):wpOpIn Fence.wide 0 P ops Q j K a w:=by
 unfold wpOpIn at *;simp only [hj] at *;rw[hab.wanted o hx];split
 ·rename_i hw;simp only [hw,if_true] at h;refine⟨λ_ _=>trivial,?_⟩;have h:=h.2;show o.uponIn _ _ _ _ _ _ ((execOp a.eval o).run P w);have h:o.uponIn Fence.wide 0 P b K' Q ((execOp b.eval o).run P w):=h;rw[hab.exec o hs hx];generalize (execOp b.eval o).run P w=r at *
  cases r with
  | ok n w'=>
    cases n <;> simp only [Oper.uponIn] at h ⊢
    case value u=>exact hK _ _ _ (hab.put _ _) h
    case skip=>exact hK _ _ _ (hab.put _ _) h
    case defer d=>
     refine hK _ _ _ (Agree.put (a:={a with defers:=d::a.defers}) (b:={b with defers:=d::b.defers}) ⟨by simp[hab.1],hab.2.1,hab.2.2⟩ _ _) h
    case enter f args=>
     refine⟨h.1,CallsIn.mono h.2 λe w'' he=>?_⟩
     cases e with
     | returned u=>exact hK _ _ _ (hab.put _ _) he
     | panicked c=>exact(hQ _ _ _ he).elim
     | outgrown=>exact he
    case row row args=>exact⟨h.1,RowsIn.mono h.2 λu w'' he=>hK _ _ _ (hab.put _ _) he⟩
    case round l f t2 as bo=>
     refine⟨h.1,RoundIn.mono h.2 λe w'' he=>?_⟩
     cases e with
     | returned u=>exact hK _ _ _ (hab.put _ _) he
     | panicked c=>exact(hQ _ _ _ he).elim
     | outgrown=>exact he
  | halt x w'=>
    cases x <;> simp only [Oper.uponIn] at h ⊢
    case panic u=>exact(hQ _ _ _ h).elim
 ·rename_i hw;simp only [hw] at h;exact⟨λ_ _=>trivial,hK _ _ _ (hab.put _ _) h.2⟩
end
inductive TL where
 | done (p:List Nat)
 | bad
 | nil
 | alt (i:Nat) (p:List Nat) (sub more:TL)
 | take (i:Nat) (sub:TL)
def aTk (o:Oper):Bool:=o.guard.isNone&&match o.op with
 | .fieldAddr .. | .indexAddr .. | .move _ | .assign _ | .nilCheck _ | .load .. | .slice .. | .binOp .. | .unOp .. | .extract .. | .convert .. | .field .. | .index .. | .build .. | .lookup ..=>true
 | .call c=>match c.callee with | .builtin .len=>true | _=>false
 | _=>false
def okU (ops:Array Oper) (i:Nat):Bool:=match ops[i]? with
 | none=>false
 | some oi=>aTk oi&&match oi.dst with
   | none=>true
   | some d=>(List.range ops.size).all λj=>match ops[j]? with
     | none=>true
     | some oj=>if j==i then !(oj.looksAt ops).contains d else oj.dst != some d&&(!(oj.looksAt ops).contains d||oj.after.any λe=>Region.binds .any e&&e.on==i)
def aC8 (ops:Array Oper) (j i:Nat):Bool:=match ops[j]? with | some oj=>oj.after.any λe=>Region.binds .any e&&e.on==i | none=>false
def TL.make (ops:Array Oper):Nat->Array Bool->List Nat->TL
 | 0,l,p=>if (Region.ready .any ops l).isEmpty then .done p else .bad
 | n+1,l,p=>
   let r:=Region.ready .any ops l
   if r.isEmpty then .done p else
   match r.find? (okU ops) with
   | some i=>.take i (TL.make ops n (l.setIfInBounds i true) (i::p))
   | none=>r.foldr (λi t=>.alt i p (TL.make ops n (l.setIfInBounds i true) (p.filter λq=>! aC8 ops i q)) t) .nil
section
variable (P:Program) (T:Tab) (N:cZ)
def dEq (E:Env) (d:Option Tmp) (s:SV):Prop:=match d with | some d=>E d=s | none=>True
def aJw (E:Env) (d:Option Tmp):GR->Prop | .pure ob s=>ob/\dEq E d s | _=>False
def aCt (E:Env) (M:Mem) (nx:Nat):Option Oper->Prop | some o=>aJw E o.dst (dU T o.op E M nx) | none=>False
def PendOK (all:Array Oper):List Nat->Env->Mem->Nat->Prop
 | [],_,_,_=>True
 | i::l,E,M,nx=>aCt T E M nx all[i]?/\PendOK all l E M nx
def uW (all:Array Oper):TL->List It->GQ->Env->Mem->Nat->Prop
 | .done p,k,Q,E,M,nx=>PendOK T all p E M nx/\GK P T N k Q .normal E M nx
 | .bad,_,_,_,_,_=>False
 | .nil,_,_,_,_,_=>True
 | .alt i p sub more,k,Q,E,M,nx=>PendOK T all p E M nx/\(match all[i]? with | some o=>GO P T N all [o] [] (TQX (uW all sub k Q)) E M nx | none=>False)/\uW all more k Q E M nx
 | .take i sub,k,Q,E,M,nx=>match all[i]? with | some o=>aEo N (dU T o.op E M nx) o.dst (uW all sub k Q) E M nx | none=>False
end
section
variable {P:Program} {T:Tab} {N:cZ} {k:List It} {Q:GQ} {E:Env} {M:Mem} {nx:Nat} {all:Array Oper}
theorem PendOK.get:∀{p:List Nat},PendOK T all p E M nx->∀i∈p,∃o ob s,all[i]? =some o/\dU T o.op E M nx=.pure ob s/\ob/\dEq E o.dst s
 | [],_,i,hi=>by simp at hi
 | j::l,h,i,hi=>by
   rcases List.mem_cons.1 hi with rfl | hi
   ·have h1:=h.1;unfold aCt at h1
    cases ho:all[i]? with
    | none=>rw[ho] at h1;exact h1.elim
    | some o=>
      rw[ho] at h1;simp only [] at h1;unfold aJw at h1;split at h1
      ·rename_i ob s hg;exact⟨o,ob,s,rfl,hg,h1.1,h1.2⟩
      ·exact h1.elim
   ·exact PendOK.get h.2 i hi
theorem yI {f:Nat->TL} {p:List Nat}:∀(l:List Nat),uW P T N all (l.foldr (λi t=>.alt i p (f i) t) .nil) k Q E M nx->
 ∀i∈l,PendOK T all p E M nx/\∃o,all[i]? =some o/\oP P T N all [o] E M nx (λE M nx=>uW P T N all (f i) k Q E M nx)
 | [],_,i,hi=>by simp at hi
 | j::l,h,i,hi=>by
   simp only [List.foldr_cons,uW] at h;rcases List.mem_cons.1 hi with rfl | hi
   ·have h1:=h.2.1
    cases ho:all[i]? with
    | none=>rw[ho] at h1;exact h1.elim
    | some o=>rw[ho] at h1;exact⟨h.1,o,rfl,h1⟩
   ·exact yI l h.2.2 i hi
def POrd (all:Array Oper) (lr:Array Bool):List Nat->Prop
 | []=>True
 | i::l=>(∃o,all[i]? =some o/\∀e∈o.after,Region.binds .any e=true->lr.getD e.on false=true\/e.on∈l)/\POrd all lr l
theorem pT {l:Array Bool} {i:Nat} (h:l.getD i false=true):l.getD i true=true:=by
 rcases Nat.lt_or_ge i l.size with h' | h'
 ·simpa [h'] using h
 ·simp[Array.getElem?_eq_none h'] at h
theorem wD {l:Array Bool} {i:Nat} (hi:i<l.size) (h:l.getD i true=true):l.getD i false=true:=by
 simpa [hi] using h
theorem POrd.ready {lr:Array Bool} (hsz:lr.size=all.size):∀{p:List Nat},POrd all lr p->∀i∈p,lr.getD i true=false->∃q,q∈Region.ready .any all lr
 | [],_,i,hi,_=>by simp at hi
 | j::l,h,i,hi,hf=>by
   by_cases hl:∃q∈l,lr.getD q true=false
   ·obtain⟨q,h1,h2⟩:=hl;exact POrd.ready hsz h.2 q h1 h2
   ·have hall:∀q∈l,lr.getD q true=true:=λq hq=>by
     cases hh:lr.getD q true with
     | true=>rfl
     | false=>exact absurd ⟨q,hq,hh⟩ hl
    rcases List.mem_cons.1 hi with rfl | hi
    ·obtain⟨o,ho,hall2⟩:=h.1;refine⟨i,mem_ready.2 ⟨hf,o,ho,λe he hb=>?_⟩⟩;rcases hall2 e he hb with h1 | h1
     ·exact h1
     ·have h2:=hall _ h1;refine wD ?_ h2;rcases Nat.lt_or_ge e.on lr.size with h' | h'
      ·exact h'
      ·exfalso;have:∀{p:List Nat},POrd all lr p->∀q∈p,q<all.size:=by
        intro p
        induction p with
        | nil=>intro _ q hq;simp at hq
        | cons x xs ih=>
          intro hp q hq;rcases List.mem_cons.1 hq with rfl | hq
          ·obtain⟨o',ho',_⟩:=hp.1;exact(Array.getElem?_eq_some_iff.1 ho').1
          ·exact ih hp.2 q hq
       have:=this h.2 _ h1;omega
    ·have:=hall i hi;rw[this] at hf;cases hf
theorem POrd.more {lr lr':Array Bool} (h:∀i,lr.getD i false=true->lr'.getD i false=true):∀{p:List Nat},POrd all lr p->POrd all lr' p
 | [],_=>trivial
 | i::l,hp=>⟨by
   obtain⟨o,ho,h1⟩:=hp.1;exact⟨o,ho,λe he hb=>(h1 e he hb).imp (h _) id⟩,POrd.more h hp.2⟩
theorem POrd.filter {lr:Array Bool} {φ:Nat->Bool}:∀{p:List Nat},(∀i∈p,φ i=false->lr.getD i false=true)->POrd all lr p->POrd all lr (p.filter φ)
 | [],_,_=>trivial
 | i::l,h,hp=>by
   have ih:=POrd.filter (φ:=φ) (λq hq=>h q (List.mem_cons_of_mem _ hq)) hp.2;rw[List.filter_cons];split
   ·refine⟨?_,ih⟩;obtain⟨o,ho,h1⟩:=hp.1;refine⟨o,ho,λe he hb=>?_⟩;rcases h1 e he hb with h2 | h2
    ·exact .inl h2
    ·cases hφ:φ e.on with
     | true=>exact .inr (List.mem_filter.2 ⟨h2,hφ⟩)
     | false=>exact .inl (h _ (List.mem_cons_of_mem _ h2) hφ)
   ·exact ih
def Out (all:Array Oper) (lr:Array Bool) (p:List Nat) (t:Nat):Prop:=∃i∈p,lr.getD i true=false/\∃o,all[i]? =some o/\o.dst=some t
def left (all:Array Oper) (lr:Array Bool):Nat:=((List.range all.size).filter λi=>!lr.getD i true).length
structure Inv (all:Array Oper) (lr lg:Array Bool) (p:List Nat):Prop where
 sr:lr.size=all.size
 sg:lg.size=all.size
 h1:∀i,lg.getD i true=false->lr.getD i true=false
 h2:∀i,lr.getD i true=false->lg.getD i true=false\/i∈p
 h3:∀i∈p,okU all i=true/\lg.getD i true=true
 h4:POrd all lr p
theorem yX {i:Nat} (h:okU all i=true):∃o,all[i]? =some o/\o.guard=none/\∀d,o.dst=some d->d ∉ o.looksAt all/\∀j oj,all[j]? =some oj->j≠i->oj.dst≠some d/\(d∈oj.looksAt all->∃e∈oj.after,Region.binds .any e=true/\e.on=i):=by
 unfold okU at h
 cases ho:all[i]? with
 | none=>rw[ho] at h;cases h
 | some o=>
   rw[ho] at h;simp only [Bool.and_eq_true] at h;obtain⟨ht,h⟩:=h;refine⟨o,rfl,?_,λd hd=>?_⟩
   ·simp only [aTk,Bool.and_eq_true,Option.isNone_iff_eq_none] at ht;exact ht.1
   rw[hd] at h;simp only [List.all_eq_true,List.mem_range] at h;refine⟨?_,λj oj hj hne=>?_⟩
   ·have:=h i (Array.getElem?_eq_some_iff.1 ho).1;simp only [ho,beq_self_eq_true,if_true,Bool.not_eq_true',List.contains_eq_mem,decide_eq_false_iff_not] at this;exact this
   ·have:=h j (Array.getElem?_eq_some_iff.1 hj).1;simp only [hj,beq_iff_eq,hne,if_false,Bool.and_eq_true,bne_iff_ne,ne_eq,Bool.or_eq_true,Bool.not_eq_true',List.contains_eq_mem,decide_eq_false_iff_not] at this;refine⟨this.1,λhm=>?_⟩;rcases this.2 with h5 | h5
    ·exact absurd hm h5
    ·obtain⟨e,he,hb⟩:=Array.any_eq_true'.1 h5;simp only [Bool.and_eq_true,beq_iff_eq] at hb;exact⟨e,he,hb⟩
theorem Inv.looks {lr lg:Array Bool} {p:List Nat} (hI:Inv all lr lg p) {j:Nat} {oj:Oper} (hj:j∈Region.ready .any all lr) (hoj:all[j]? =some oj):∀t∈oj.looksAt all,¬Out all lr p t:=by
 rintro t ht ⟨i,hi,hf,o,ho,hd⟩;obtain⟨o',ho',_,hU⟩:=yX (hI.h3 i hi).1;rw[ho] at ho';cases ho';obtain⟨u1,u2⟩:=hU t hd;by_cases hij:j=i
 ·subst hij;rw[ho] at hoj;cases hoj;exact u1 ht
 ·obtain⟨e,he,hb,hon⟩:=(u2 j oj hoj hij).2 ht;obtain⟨_,oj',hoj',hall⟩:=mem_ready.1 hj;rw[hoj] at hoj';cases hoj';have:=pT (hall e he hb);rw[hon,hf] at this;cases this
theorem iW {l:Array Bool} {i j:Nat}:(l.setIfInBounds j true).getD i true=if i=j then true else l.getD i true:=by
 by_cases h:i=j
 ·subst h;rw[if_pos rfl];rcases Nat.lt_or_ge i l.size with h' | h'
  ·simp[h']
  ·simp[Array.getElem?_eq_none h']
 ·rw[if_neg h];exact getD_set_ne true λe=>h e.symm
theorem yO {lr:Array Bool} {j:Nat} (hj:j∈Region.ready .any all lr):left all (lr.setIfInBounds j true)<left all lr:=by
 obtain⟨hf,o,ho,_⟩:=mem_ready.1 hj;have hlt:=(Array.getElem?_eq_some_iff.1 ho).1;have e:(List.range all.size).filter (λi=>!(lr.setIfInBounds j true).getD i true)=((List.range all.size).filter λi=>!lr.getD i true).filter λi=>decide (i≠j):=by
  rw[List.filter_filter]
  congr 1
  funext i;rw[iW];by_cases h:i=j <;> simp[h]
 unfold left;rw[e];exact List.length_filter_lt_length_iff_exists.2 ⟨j,List.mem_filter.2 ⟨List.mem_range.2 hlt,by simpa using hf⟩,τ⟩
theorem uH {lr:Array Bool} (h:left all lr=0):Region.ready .any all lr=[]:=by
 cases hr:Region.ready .any all lr with
 | nil=>rfl
 | cons j l=>
   have:=yO (all:=all) (lr:=lr) (j:=j) (by rw[hr];simp);omega
variable {B W:Nat->Prop} {w0:W0} {R:Exit->Act->World->Prop}
theorem aB2 (hT:aX P T) (hsel:Region.noSelect all=true) {fuel:Nat} {lr lg:Array Bool} {p:List Nat} {σ:Sig} {a b:Act} {w:World} (hI:Inv all lr lg p) (hab:Agree (Out all lr p) a b)
 (hs:St B W w0 N σ E M nx b w) (hp:PendOK T all p E M nx) {j:Nat} (hj:j∈Region.ready .any all lr) (hg:lg.getD j true=true)
 (hnext:∀lr' a' b',Inv all lr' lg p->Agree (Out all lr' p) a' b'->St B W w0 N σ E M nx b' w->left all lr'<left all lr->wpAnyIn Fence.wide 0 P .any all R fuel lr' a' w) :
 wpOpIn Fence.wide 0 P all R j (wpAnyIn Fence.wide 0 P .any all R fuel (lr.setIfInBounds j true)) a w:=by
 obtain⟨hf,oj,hoj,hall⟩:=mem_ready.1 hj;have hjp:j∈p:=(hI.h2 j hf).resolve_left (by rw[hg];simp);obtain⟨o,ob,s,ho,hgo,hob,hd⟩:=PendOK.get hp j hjp;rw[hoj] at ho;cases ho;obtain⟨o',ho',hgd,hU⟩:=yX (hI.h3 j hjp).1;rw[hoj] at ho';cases ho';have hlook:=hI.looks hj hoj;have hsn:=rV hT hs.mem (nx:=nx) (Nat.le_refl nx) hs.fr.size hs.env oj;rw[hgo] at hsn;obtain⟨y,hy,hrel⟩:=hsn hob;have hdk:dC N.n oj.dst->True:=λ_=>trivial;have hfin:wpAnyIn Fence.wide 0 P .any all R fuel (lr.setIfInBounds j true) (a.put oj.dst y) w:=by
  refine hnext _ _ (b.put oj.dst y) ⟨by simpa using hI.sr,hI.sg,λi hi=>?_,λi hi=>?_,hI.h3,hI.h4.more λi hi=>getD_set_true hi⟩ ?_ ?_ (yO hj)
  ·rw[iW];by_cases e:i=j
   ·subst e;rw[hg] at hi;cases hi
   ·rw[if_neg e];exact hI.h1 i hi
  ·rw[iW] at hi;by_cases e:i=j
   ·rw[if_pos e] at hi;cases hi
   ·rw[if_neg e] at hi;exact hI.h2 i hi
  ·cases hdst:oj.dst with
   | none=>
     refine⟨hab.1,hab.2.1,λt ht=>hab.2.2 t λ⟨i,hi,h1,o2,h2,h3⟩=>ht ⟨i,hi,?_,o2,h2,h3⟩⟩;rw[iW];by_cases e:i=j
     ·subst e;rw[hoj] at h2;cases h2;rw[hdst] at h3;cases h3
     ·rw[if_neg e];exact h1
   | some d=>
     refine⟨hab.1,by simpa [Act.put] using hab.2.1,λt ht=>?_⟩;simp only [Act.put,Array.getElem?_setIfInBounds,hab.2.1];by_cases e:d=t
     ·simp[e]
     ·simp only [e,if_false];refine hab.2.2 t λ⟨i,hi,h1,o2,h2,h3⟩=>ht ⟨i,hi,?_,o2,h2,h3⟩;rw[iW];by_cases e2:i=j
      ·subst e2;rw[hoj] at h2;cases h2;rw[hdst] at h3;cases h3;exact absurd rfl e
      ·rw[if_neg e2];exact h1
  ·have h1:=hs.env;refine⟨λt=>?_,hs.mem,hs.fr,?_,?_,hs.low,hs.pin,hs.good⟩
   ·cases hdst:oj.dst with
    | none=>exact h1 t
    | some d=>
      rw[hdst] at hd;simp only [Act.put,Array.getD_eq_getD_getElem?,Array.getElem?_setIfInBounds];by_cases e:d=t
      ·subst e;by_cases hlt:d<b.tmps.size
       ·simp only [hlt,if_true];rw[show E d=s from hd];exact hrel
       ·simp only [hlt,if_true,if_false];have:=h1 d;simpa [Array.getD_eq_getD_getElem?,Array.getElem?_eq_none (Nat.le_of_not_lt hlt)] using this
      ·simp only [e,if_false];simpa [Array.getD_eq_getD_getElem?] using h1 t
   ·cases oj.dst <;> exact hs.defers
   ·cases oj.dst with
    | none=>exact hs.size
    | some d=>simpa [Act.put] using hs.size
 unfold wpOpIn;simp only [hoj];rw[if_pos (by simp[Region.wanted,hgd])];refine dO ?_;unfold Oper.wp;rw[hab.exec oj (Region.noSelect_spec hsel j oj · · hoj) hlook];rcases hy with hy | ⟨hy,rfl⟩
 ·rw[hy];exact hfin
 ·rw[hy];exact hfin
theorem aGc {lr lg:Array Bool} {p:List Nat} (hI:Inv all lr lg p) {j:Nat} (hj:j∈Region.ready .any all lr) (hg:lg.getD j true=false):j∈Region.ready .any all lg:=by
 obtain⟨hf,o,ho,hall⟩:=mem_ready.1 hj;refine mem_ready.2 ⟨hg,o,ho,λe he hb=>?_⟩;have h1:=hall e he hb;have h2:lg.getD e.on true=true:=by
  cases hh:lg.getD e.on true with
  | true=>rfl
  | false=>
    have:=hI.h1 _ hh;rw[pT h1] at this;cases this
 refine wD ?_ h2;rcases Nat.lt_or_ge e.on lr.size with h' | h'
 ·rw[hI.sg,<- hI.sr];exact h'
 ·simp[Array.getElem?_eq_none h'] at h1
theorem yS {lr lg:Array Bool} {p:List Nat} (hI:Inv all lr lg p) (h:Region.ready .any all lr=[]):(∀i∈p,lr.getD i true=true)/\Region.ready .any all lg=[]:=by
 have h1:∀i∈p,lr.getD i true=true:=λi hi=>by
  cases hh:lr.getD i true with
  | true=>rfl
  | false=>
    obtain⟨q,hq⟩:=hI.h4.ready hI.sr i hi hh;rw[h] at hq;cases hq
 refine⟨h1,?_⟩
 cases hr:Region.ready .any all lg with
 | nil=>rfl
 | cons j l=>
   have hj:j∈Region.ready .any all lg:=by rw[hr];simp
   obtain⟨hf,o,ho,hall⟩:=mem_ready.1 hj;have:j∈Region.ready .any all lr:=by
    refine mem_ready.2 ⟨hI.h1 j hf,o,ho,λe he hb=>?_⟩;have h2:=hall e he hb;have h3:lr.getD e.on true=true:=by
     cases hh:lr.getD e.on true with
     | true=>rfl
     | false=>
       rcases hI.h2 _ hh with h4 | h4
       ·rw[pT h2] at h4;cases h4
       ·rw[h1 _ h4] at hh;cases hh
    refine wD ?_ h3;rcases Nat.lt_or_ge e.on lg.size with h' | h'
    ·rw[hI.sr,<- hI.sg];exact h'
    ·simp[Array.getElem?_eq_none h'] at h2
   rw[h] at this;cases this
theorem aHe {lr:Array Bool} {p:List Nat} {a b:Act} (hab:Agree (Out all lr p) a b) (h:∀i∈p,lr.getD i true=true):a=b:=by
 have:∀t,a.tmps[t]? =b.tmps[t]?:=λt=>hab.2.2 t λ⟨i,hi,hf,_⟩=>by rw[h i hi] at hf;cases hf
 obtain⟨at1,d1⟩:=a;obtain⟨at2,d2⟩:=b
 congr 1
 ·exact Array.ext_getElem? this
 ·exact hab.1
theorem aV1 (hT:aX P T) (hsel:Region.noSelect all=true)
 (hK:∀E M nx σ a w,GK P T N k Q .normal E M nx->St B W w0 N σ E M nx a w->R .normal a w) (hR:∀c a w,¬R (.panic c) a w):∀(fuel n:Nat) (lr lg:Array Bool) (p:List Nat) (E:Env) (M:Mem) (nx:Nat) (σ:Sig) (a b:Act) (w:World),
 left all lr<=fuel->Inv all lr lg p->Agree (Out all lr p) a b->St B W w0 N σ E M nx b w->uW P T N all (TL.make all n lg p) k Q E M nx->wpAnyIn Fence.wide 0 P .any all R fuel lr a w:=by
 suffices H:∀(fuel:Nat),(∀m,fuel=m+1->∀(n:Nat) (lr lg:Array Bool) (p:List Nat) (E:Env) (M:Mem) (nx:Nat) (σ:Sig) (a b:Act) (w:World),
  left all lr<=m->Inv all lr lg p->Agree (Out all lr p) a b->St B W w0 N σ E M nx b w->uW P T N all (TL.make all n lg p) k Q E M nx->wpAnyIn Fence.wide 0 P .any all R m lr a w)->
  ∀(n:Nat) (lr lg:Array Bool) (p:List Nat) (E:Env) (M:Mem) (nx:Nat) (σ:Sig) (a b:Act) (w:World),
  left all lr<=fuel->Inv all lr lg p->Agree (Out all lr p) a b->St B W w0 N σ E M nx b w->uW P T N all (TL.make all n lg p) k Q E M nx->wpAnyIn Fence.wide 0 P .any all R fuel lr a w by
  intro fuel
  induction fuel with
  | zero=>exact H 0 λm hm=>by cases hm
  | succ fuel ih=>exact H (fuel+1) λm hm=>by cases hm;exact ih
 intro fuel ihf n;have hdone:∀(n:Nat) (lr lg:Array Bool) (p:List Nat) (E:Env) (M:Mem) (nx:Nat) (σ:Sig) (a b:Act) (w:World),
  left all lr<=fuel->Inv all lr lg p->Agree (Out all lr p) a b->St B W w0 N σ E M nx b w->Region.ready .any all lg=[]->PendOK T all p E M nx->GK P T N k Q .normal E M nx->
  uW P T N all (TL.make all n lg p) k Q E M nx->wpAnyIn Fence.wide 0 P .any all R fuel lr a w:=by
  intro n lr lg p E M nx σ a b w hle hI hab hs hr hp hk hg;have fin:Region.ready .any all lr=[]->R .normal a w:=λh=>by
   have:=aHe hab (yS hI h).1;rw[this];exact hK _ _ _ _ _ _ hk hs
  cases fuel with
  | zero=>exact⟨uH ω,fin (uH ω)⟩
  | succ m=>
    refine⟨fin,λj hj=>aB2 hT hsel hI hab hs hp hj ?_ λlr' a' b' hI' hab' hs' hlt=>ihf m rfl n lr' lg p E M nx σ a' b' w ω hI' hab' hs' hg⟩
    cases hh:lg.getD j true with
    | true=>rfl
    | false=>
      have:=aGc hI hj hh;rw[hr] at this;cases this
 induction n with
 | zero=>
   intro lr lg p E M nx σ a b w hle hI hab hs hg;have hg0:=hg;simp only [TL.make] at hg;split at hg
   ·rename_i hr;exact hdone 0 lr lg p E M nx σ a b w hle hI hab hs (List.isEmpty_iff.1 hr) hg.1 hg.2 hg0
   ·exact hg.elim
 | succ n ihn=>
   intro lr lg p E M nx σ a b w hle hI hab hs hg;have hg0:=hg;simp only [TL.make] at hg;split at hg
   ·rename_i hr;exact hdone (n+1) lr lg p E M nx σ a b w hle hI hab hs (List.isEmpty_iff.1 hr) hg.1 hg.2 hg0
   rename_i hr;have hne:Region.ready .any all lg≠[]:=λh=>hr (List.isEmpty_iff.2 h);split at hg
   ·rename_i i hi;have hok:=List.find?_some hi;have hmem:=List.mem_of_find?_eq_some hi;obtain⟨hf,o,ho,hall⟩:=mem_ready.1 hmem;obtain⟨o',ho',hgd,hU⟩:=yX hok;rw[ho] at ho';cases ho';simp only [uW,ho] at hg;unfold aEo at hg;split at hg
    ·rename_i ob s hgo;obtain⟨hob,hd,hg⟩:=hg;have hsn:=rV hT hs.mem (nx:=nx) (Nat.le_refl nx) hs.fr.size hs.env o;rw[hgo] at hsn;obtain⟨y,hy,hrel⟩:=hsn hob;have hlrf:=hI.h1 i hf;refine ihn lr (lg.setIfInBounds i true) (i::p) _ _ _ _ a (b.put o.dst y) w hle ⟨hI.sr,by simpa using hI.sg,λq hq=>?_,λq hq=>?_,λq hq=>?_,⟨o,ho,λe he hb=>?_⟩,hI.h4⟩ ?_ (hs.put hd hrel) hg
     ·rw[iW] at hq;by_cases e:q=i
      ·rw[if_pos e] at hq;cases hq
      ·rw[if_neg e] at hq;exact hI.h1 q hq
     ·by_cases e:q=i
      ·exact .inr (by rw[e];simp)
      ·rw[iW,if_neg e];exact(hI.h2 q hq).imp id (List.mem_cons_of_mem _)
     ·rw[iW];rcases List.mem_cons.1 hq with rfl | hq
      ·exact⟨hok,by rw[if_pos rfl]⟩
      ·refine⟨(hI.h3 q hq).1,?_⟩;split
       ·rfl
       ·exact(hI.h3 q hq).2
     ·have h1:=hall e he hb
      cases hh:lr.getD e.on true with
      | true=>
        refine .inl (wD ?_ hh);rcases Nat.lt_or_ge e.on lg.size with h' | h'
        ·rw[hI.sr,<- hI.sg];exact h'
        ·simp[Array.getElem?_eq_none h'] at h1
      | false=>
        rcases hI.h2 _ hh with h4 | h4
        ·rw[pT h1] at h4;cases h4
        ·exact .inr h4
     ·refine⟨?_,?_,λt ht=>?_⟩
      ·cases o.dst <;> exact hab.1
      ·cases o.dst with
       | none=>exact hab.2.1
       | some d=>simpa [Act.put] using hab.2.1
      ·have h5:¬Out all lr p t:=λ⟨q,hq,h1,o2,h2,h3⟩=>ht ⟨q,List.mem_cons_of_mem _ hq,h1,o2,h2,h3⟩;rw[hab.2.2 t h5]
       cases hdst:o.dst with
       | none=>rfl
       | some d=>
         have hne2:d≠t:=λe=>ht ⟨i,τ,hlrf,o,ho,by rw[hdst,e]⟩;simp[Act.put,Array.getElem?_setIfInBounds_ne hne2]
    ·exact hg.elim
   ·rename_i hfind;have hp0:PendOK T all p E M nx:=by
     cases hr2:Region.ready .any all lg with
     | nil=>exact absurd hr2 hne
     | cons j l=>exact(yI (f:=λi=>TL.make all n (lg.setIfInBounds i true) (p.filter λq=>! aC8 all i q)) _ hg j (by rw[hr2];simp)).1
    have hno:Region.ready .any all lr≠[]:=λh=>hne (yS hI h).2
    cases fuel with
    | zero=>exact absurd (uH ω) hno
    | succ m=>
      refine⟨λh=>absurd h hno,λj hj=>?_⟩
      cases hgj:lg.getD j true with
      | true=>exact aB2 hT hsel hI hab hs hp0 hj hgj λlr' a' b' hI' hab' hs' hlt=>ihf m rfl (n+1) lr' lg p E M nx σ a' b' w ω hI' hab' hs' hg0
      | false=>
        obtain⟨_,o,ho,hgo⟩:=yI (f:=λi=>TL.make all n (lg.setIfInBounds i true) (p.filter λq=>! aC8 all i q)) _ hg j (aGc hI hj hgj);obtain⟨hf,o',ho',hall⟩:=mem_ready.1 hj;rw[ho] at ho';cases ho';have hjs:j<all.size:=(Array.getElem?_eq_some_iff.1 ho).1;have hedge:∀q∈p,aC8 all j q=true->lr.getD q false=true:=λq hq he=>by
         unfold aC8 at he;rw[ho] at he;obtain⟨e,he1,he2⟩:=Array.any_eq_true'.1 he;simp only [Bool.and_eq_true,beq_iff_eq] at he2;rw[<- he2.2];exact hall e he1 he2.1
        have hs2:=uF (Q:=R) (next:=λb' w'=>∃E' M' nx' σ',uW P T N all (TL.make all n (lg.setIfInBounds j true) (p.filter λq=>! aC8 all j q)) k Q E' M' nx'/\St B W w0 N σ' E' M' nx' b' w') hT hs hgo (λE' M' nx' σ' a' w' hk hst=>⟨E',M',nx',σ',hk,hst⟩);have hb:wpOpIn Fence.wide 0 P all R j (λb' w'=>∃E' M' nx' σ',uW P T N all (TL.make all n (lg.setIfInBounds j true) (p.filter λq=>! aC8 all j q)) k Q E' M' nx'/\St B W w0 N σ' E' M' nx' b' w') b w:=by
         unfold wpOpIn;rw[ho];simp only [];split
         ·rename_i hw;rw[if_pos hw] at hs2;exact hs2
         ·rename_i hw;rw[if_neg hw] at hs2;exact⟨λ_ _=>trivial,hs2⟩
        refine aJo ho (Region.noSelect_spec hsel j o · · ho) (hI.looks hj ho) hab hR ?_ hb;rintro a' b' w' hab' ⟨E',M',nx',σ',hg',hs'⟩;have hlt:=yO (all:=all) hj;refine ihf m rfl n (lr.setIfInBounds j true) (lg.setIfInBounds j true) _ E' M' nx' σ' a' b' w' ω ⟨by simpa using hI.sr,by simpa using hI.sg,λq hq=>?_,λq hq=>?_,λq hq=>?_,(POrd.filter (λq hq he=>hedge q hq (by simpa using he)) hI.h4).more λq hq=>getD_set_true hq⟩ ?_ hs' hg'
        ·rw[iW] at hq ⊢;by_cases e:q=j
         ·rw[if_pos e] at hq;cases hq
         ·rw[if_neg e] at hq ⊢;exact hI.h1 q hq
        ·rw[iW] at hq ⊢;by_cases e:q=j
         ·rw[if_pos e] at hq;cases hq
         ·rw[if_neg e] at hq ⊢;refine(hI.h2 q hq).imp id λh5=>List.mem_filter.2 ⟨h5,?_⟩
          cases he:aC8 all j q with
          | false=>rfl
          | true=>
            have:=pT (hedge q h5 he);rw[hq] at this;cases this
        ·have h5:=List.mem_filter.1 hq;refine⟨(hI.h3 q h5.1).1,?_⟩;rw[iW];split
         ·rfl
         ·exact(hI.h3 q h5.1).2
        ·refine⟨hab'.1,hab'.2.1,λt ht=>hab'.2.2 t λ⟨q,hq,h1,o2,h2,h3⟩=>ht ⟨q,List.mem_filter.2 ⟨hq,?_⟩,?_,o2,h2,h3⟩⟩
         ·cases he:aC8 all j q with
          | false=>rfl
          | true=>
            have:=pT (hedge q hq he);rw[h1] at this;cases this
         ·rw[iW];by_cases e:q=j
          ·subst e;rw[(hI.h3 q hq).2] at hgj;cases hgj
          ·rw[if_neg e];exact h1
end
section
variable {P:Program} {T:Tab} {N:cZ} {k:List It} {Q:GQ} {E:Env} {M:Mem} {nx:Nat} {all:Array Oper}
def bEj (P:Program) (T:Tab) (N:cZ) (o:Option Oper) (all:Array Oper) (sub:TL) (k:List It) (Q:GQ) (E:Env) (M:Mem) (nx:Nat):Prop:=
 match o with | some o=>GO P T N all [o] [] (TQX (uW P T N all sub k Q)) E M nx | none=>False
def bEk (P:Program) (T:Tab) (N:cZ) (o:Option Oper) (all:Array Oper) (sub:TL) (k:List It) (Q:GQ) (E:Env) (M:Mem) (nx:Nat):Prop:=
 match o with | some o=>aEo N (dU T o.op E M nx) o.dst (uW P T N all sub k Q) E M nx | none=>False
@[go_sem]theorem bEh (p:List Nat):uW P T N all (.done p) k Q E M nx=(PendOK T all p E M nx/\GK P T N k Q .normal E M nx):=(rfl)
@[go_sem]theorem bHl:uW P T N all .nil k Q E M nx=True:=(rfl)
@[go_sem]theorem bHk (i:Nat) (p:List Nat) (s m:TL):uW P T N all (.alt i p s m) k Q E M nx=(PendOK T all p E M nx/\bEj P T N all[i]? all s k Q E M nx/\uW P T N all m k Q E M nx):=(rfl)
@[go_sem]theorem bEi (i:Nat) (s:TL):uW P T N all (.take i s) k Q E M nx=bEk P T N all[i]? all s k Q E M nx:=(rfl)
@[go_sem]theorem bCw (o:Oper) (s:TL):bEj P T N (some o) all s k Q E M nx=GO P T N all [o] [] (TQX (uW P T N all s k Q)) E M nx:=(rfl)
@[go_sem]theorem bCx (d:Option Tmp) (op:Op) (ty:TypeId) (pos:String) (af:Array Edge) (g:Option (Nat × Bool)) (s:TL) :
   bEk P T N (some ⟨d,op,ty,pos,af,g⟩) all s k Q E M nx=aEo N (dU T op E M nx) d (uW P T N all s k Q) E M nx:=(rfl)
@[go_sem]theorem aZf:PendOK T all [] E M nx=True:=(rfl)
@[go_sem]theorem aYg (i:Nat) (l:List Nat):PendOK T all (i::l) E M nx=(aCt T E M nx all[i]?/\PendOK T all l E M nx):=(rfl)
@[go_sem]theorem aYh (d:Option Tmp) (op:Op) (ty:TypeId) (pos:String) (af:Array Edge) (g:Option (Nat × Bool)):aCt T E M nx (some ⟨d,op,ty,pos,af,g⟩)=aJw E d (dU T op E M nx):=(rfl)
@[go_sem]theorem aZe (d:Option Tmp) (ob:Prop) (s:SV):aJw E d (.pure ob s)=(ob/\dEq E d s):=(rfl)
@[go_sem]theorem bE1 (d:Nat) (s:SV):dEq E (some d) s=(E d=s):=(rfl)
@[go_sem]theorem bFl (x:Operand):dU T (.move x) E M nx=.pure True (ev E x):=(rfl)
@[go_sem]theorem bAj (x:Operand):dU T (.assign x) E M nx=.pure True (ev E x):=(rfl)
@[go_sem]theorem bFk (t:TypeId) (x:Operand):dU T (.load t x) E M nx=oO T t M (ev E x):=(rfl)
@[go_sem]theorem bDd (t:TypeId) (x:Operand) (lo hi mx:Option Operand):dU T (.slice t x lo hi mx) E M nx=lF T M t (ev E x) (lo.map (ev E)) (hi.map (ev E)) (mx.map (ev E)):=(rfl)
@[go_sem]theorem aT8 (t:TypeId) (x:Operand) (f:Nat):dU T (.fieldAddr t x f) E M nx=gE T t (ev E x) f:=(rfl)
@[go_sem]theorem aT9 (t:TypeId) (x i:Operand):dU T (.indexAddr t x i) E M nx=mO T t (ev E x) (ev E i):=(rfl)
@[go_sem]theorem aVv (x:Operand):dU T (.nilCheck x) E M nx=uD (ev E x):=(rfl)
@[go_sem]theorem bDa (op:BinOp) (t:TypeId) (x y:Operand) (t2:TypeId):dU T (.binOp op t x y t2) E M nx=lD T op t (ev E x) (ev E y):=(rfl)
@[go_sem]theorem bFm (op:UnOp) (t:TypeId) (x:Operand):dU T (.unOp op t x) E M nx=aKn op (ev E x):=(rfl)
@[go_sem]theorem aYo (t t2:TypeId) (x:Operand):dU T (.convert t t2 x) E M nx=wC T t t2 (ev E x):=(rfl)
@[go_sem]theorem aYp (x:Operand) (i:Nat):dU T (.extract x i) E M nx=aDm (ev E x) i:=(rfl)
@[go_sem]theorem bDc (t:TypeId) (x i:Operand):dU T (.index t x i) E M nx=pU T t (ev E x) (ev E i):=(rfl)
@[go_sem]theorem bDb (t:TypeId) (ps:List (Nat × Operand)):dU T (.build t ps.toArray) E M nx=rI T t (ps.map λp=>(p.1,ev E p.2)):=(rfl)
theorem bI1:Inv all (Array.replicate all.size false) (Array.replicate all.size false) []:=by
 refine⟨τ,τ,λi h=>h,λi h=>.inl h,λi hi=>by simp at hi,trivial⟩
theorem bFq:left all (Array.replicate all.size false)<=all.size:=by
 unfold left;exact Nat.le_trans (List.length_filter_le _ _) τ
theorem aDk (hT:aX P T) (hm:P.follows .mixedOrders=true) {id:Nat} {all:Array Oper} {t:TL} (hsel:Region.noSelect all=true) (ht:TL.make all all.size (Array.replicate all.size false) []=t)
 {k0:List It} {Q0:GQ} {φ:Env->Mem->Nat->Prop} {E':Env} (h0:∀c E M nx,GK P T N k Q (.panic c) E M nx->False)
 (hK:∀(B W:Nat->Prop) (w0:W0) E M nx σ a w,GK P T N k0 Q0 .normal E M nx->St B W w0 N σ E M nx a w->∃E' M' nx' σ',GK P T N k Q .normal E' M' nx'/\St B W w0 N σ' E' M' nx' a w)
 (h:uW P T N all t k0 Q0 E M nx):iF P T N id all k Q E M nx:=by
 subst ht;intro r hr B W w0 σ a w hs;have hs':=hs.drawn;refine kQ (hr.imp (λh=>h) λh=>h) hm (aV1 hT hsel (k:=k0) (Q:=Q0) (B:=B) (W:=W) (w0:=w0) (R:=λe a' w'=>∃E' M' nx' σ',GK P T N k Q e E' M' nx'/\St B W w0 N σ' E' M' nx' a' w') (λE M nx σ a w hk hst=>hK _ _ _ _ _ _ _ _ _ hk hst)
  (λc a w ⟨E,M,nx,σ,hk,_⟩=>h0 _ _ _ _ hk) _ _ _ _ [] E M nx σ a a _ bFq bI1 ⟨rfl,rfl,λ_ _=>rfl⟩ hs' h)
theorem aM (hT:aX P T) (hm:P.follows .mixedOrders=true) {id:Nat} {all:Array Oper} {t:TL} (hsel:Region.noSelect all=true) (ht:TL.make all all.size (Array.replicate all.size false) []=t)
 (hp:∀c E M nx,GK P T N k Q (.panic c) E M nx->False) (h:uW P T N all t k Q E M nx):iF P T N id all k Q E M nx:=
 aDk hT hm hsel ht (φ:=λ_ _ _=>True) (E':=E) hp (λB W w0 E M nx σ a w hk hst=>⟨E,M,nx,σ,hk,hst⟩) h
theorem fM (S:List (Nat × SV)) (l:List (Option Reg)) (n:Nat) (hT:aX P T) (hm:P.follows .mixedOrders=true) {id:Nat} {all:Array Oper} {t:TL} (hsel:Region.noSelect all=true)
 (ht:TL.make all all.size (Array.replicate all.size false) []=t) (hp:∀c E M nx,GK P T N k Q (.panic c) E M nx->False) (hl:l.length=n)
 (h:uW P T N all t [] (JQ S n λM=>jB 0 M l) E M nx) (hk:∀J,GK P T N k Q .normal (iP J S) (fD l) n) (hnp:N.np<=n:=by first | exact Nat.zero_le _ | decide):iF P T N id all k Q E M nx:=
 aDk hT hm hsel ht (φ:=λ_ _ _=>True) (E':=E) hp (λB W w0 E M nx σ a w hk0 hst=>by
  have hk1:fQ n E S/\jB 0 (cT n M) l:=hk0;obtain⟨J,hv⟩:=Fit.of_slotsS (nx:=nx) hnp hk1.1 (kL hl hk1.2);obtain⟨σ1,h1⟩:=hv _ _ _ _ _ _ hst;exact⟨_,_,_,σ1,hk J,h1⟩) h
theorem aOs (S:List (Nat × SV)) (l:List (Option Reg)) (b cnt:Nat) (R:Nat->Option Reg) (n:Nat) (hT:aX P T) (hm:P.follows .mixedOrders=true) {id:Nat} {all:Array Oper} {t:TL} (hsel:Region.noSelect all=true)
 (ht:TL.make all all.size (Array.replicate all.size false) []=t) (hp:∀c E M nx,GK P T N k Q (.panic c) E M nx->False) (hl:l.length=b)
 (h:uW P T N all t [] (JQ S n λM=>jB 0 M l/\∀i,i<cnt->Reg.sub (M (i+b)) (R i)) E M nx) (hk:∀J,GK P T N k Q .normal (iP J S) (aDc (fD l) b cnt R) n) (hnp:N.np<=n:=by first | exact Nat.zero_le _ | decide):iF P T N id all k Q E M nx:=
 aDk hT hm hsel ht (φ:=λ_ _ _=>True) (E':=E) hp (λB W w0 E M nx σ a w hk0 hst=>by
  have hk1:fQ n E S/\(jB 0 (cT n M) l/\∀i,i<cnt->Reg.sub (cT n M (i+b)) (R i)):=hk0;obtain⟨J,hv⟩:=Fit.of_famN (nx:=nx) hnp hk1.1 hl hk1.2.1 hk1.2.2;obtain⟨σ1,h1⟩:=hv _ _ _ _ _ _ hst;exact⟨_,_,_,σ1,hk J,h1⟩) h
end
end Go.Gx
