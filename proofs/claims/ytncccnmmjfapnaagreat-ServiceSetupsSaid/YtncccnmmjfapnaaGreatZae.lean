/-
  Texts of the walk, merged: K5.
-/
import Derived.Test.YtncccnmmjfapnaaGreatZad
import Derived.ProofKit
import Derived.Deep.Slices
import Derived.Deep.Fields
import Derived.OpenShut
import Derived.Lib.Overlaps
import Derived.Maps.RangeRun
import Derived.ChangeKeysEq
set_option linter.unusedVariables false
set_option linter.unusedSimpArgs false
set_option maxRecDepth 100000
set_option maxHeartbeats 4000000
namespace Go.Gx
open Go.RowKit
theorem Pure.ofSub {P:Program} {f:FuncId} {args:List SV} {v:SV} (h:Pure P f args λs=>s.sub v):Pure P f args (· =v):=by
 intro Z w vs hz ha
 obtain⟨h1,h2⟩:=h Z w vs hz ha
 refine⟨h1,h2.mono λe w' h=>?_⟩
 obtain⟨y,s,a,b,c,d⟩:=h
 exact⟨y,v,a,rfl,SV.sub_rel _ _ _ b c,d⟩
section
variable {P:Program} {T:Tab} {N:Cfg} {k:List It} {Q:GQ} {E:Env} {M:Mem} {nx:Nat}
@[go_sem]theorem KC_up (all:Array Oper) (rest:List Oper) (d:Option Tmp) (s:SV) (M':Mem) (nx':Nat) (up:SV→SV):KC P T N all rest k Q d E s M' nx' up=GO P T N all rest k Q (envPut (λt=>up (E t)) d s) M' nx':=(rfl)
end
end Go.Gx
namespace Go.Gx
open Go.RowKit Go.WideShapes Go.ChangeShapes Go.Deep
inductive CS where
 | sc (c:CK)
 | sl (k:Nat) (fs:Nat→CS)
def CK.okv:CK→Value→Prop
 | .int k,v=>∃n,v=.int k n∧(Lit.int k n).wf=true
 | .bool,v=>∃b,v=.bool b
def CSok (w:World):CS→Value→Prop
 | .sc c,v=>c.okv v
 | .sl k fs,v=>∃A n c,v=.slice A n c∧n≤c∧c≤maxLen∧(0<n→∃b o,A=some ⟨b,o,none⟩∧b<w.heap.size∧∀i j,i<n→j<k→∃u,w.cell? ⟨b,o+(i*k+j),none⟩=some u∧CSok w (fs j) u)
def CSokL (w:World):List CS→List Value→Prop
 | [],vs=>vs=[]
 | s::l,vs=>∃v vs',vs=v::vs'∧CSok w s v∧CSokL w l vs'
def flatL (f:TypeId→Option (List CS)) (P:Program):List Field→Nat→Option (List CS)
 | [],_=>some []
 | fd::fs,o=>match f fd.type with
   | none=>none
   | some l=>if fd.offset=o∧P.cellsOf fd.type=l.length then (flatL f P fs (o+l.length)).map (l++·) else none
def repC (l:List CS):Nat→List CS
 | 0=>[]
 | n+1=>l++repC l n
def flatT (P:Program):Nat→TypeId→Option (List CS)
 | 0,_=>none
 | n+1,t=>match P.underlying t with
   | some (.int k)=>some [.sc (.int k)]
   | some .bool=>some [.sc .bool]
   | some (.slice e)=>match flatT P n e with
     | none=>none
     | some l=>if P.cellsOf e=l.length∧0<l.length then some [.sl l.length λj=>l.getD j (.sc .bool)] else none
   | some (.struct fa)=>match flatL (flatT P n) P fa.toList 0 with
     | none=>none
     | some l=>if P.cellsOf t=l.length then some l else none
   | some (.array m e)=>match flatT P n e with
     | none=>none
     | some l=>if P.cellsOf e=l.length∧P.cellsOf t=m*l.length then some (repC l m) else none
   | _=>none
section
variable {H:Type} {enc:TypeId × Value→H} {P:Program} {w:World} {base:Nat} {spare:Nat→Bool} {held:Bool}
theorem CSokL_append:∀{l l':List CS} {xs ys:List Value},CSokL w l xs→CSokL w l' ys→CSokL w (l++l') (xs++ys)
 | [],l',xs,ys,h,h'=>by cases h;exact h'
 | s::l,l',xs,ys,h,h'=>by
   obtain⟨v,vs,rfl,h1,h2⟩:=h
   exact⟨v,vs++ys,rfl,h1,CSokL_append h2 h'⟩
theorem CSokL_get:∀{l:List CS} {vs:List Value},CSokL w l vs→l.length=vs.length∧∀(j:Nat) (d:CS) (v:Value),vs[j]? =some v→CSok w (l.getD j d) v
 | [],vs,h=>by cases h;exact⟨rfl,by simp⟩
 | s::l,vs,h=>by
   obtain⟨v,vs',rfl,h1,h2⟩:=h
   obtain⟨e1,e2⟩:=CSokL_get h2
   refine⟨by simp[e1],λj d u hu=>?_⟩
   cases j with
   | zero=>simp at hu;subst hu;exact h1
   | succ j=>simpa using e2 j d u (by simpa using hu)
theorem flat_ok:∀(n:Nat) (t:TypeId) (l:List CS) (fuel:Nat) (cs:List Value) (x:DataW H × List MemPlace),flatT P n t=some l→DataW.trod enc P w base spare held fuel t cs=some x→CSokL w l cs:=by
 intro n
 induction n with
 | zero=>intro t l fuel cs x h;simp[flatT] at h
 | succ n ih=>
   intro t l fuel cs x hl h
   unfold flatT at hl
   split at hl
   ·rename_i k hu
    cases hl
    obtain⟨m,rfl,_,hw⟩:=DataW.trod_int hu h
    exact⟨_,[],rfl,⟨m,rfl,hw⟩,rfl⟩
   ·rename_i hu
    cases hl
    obtain⟨b,rfl,_⟩:=DataW.trod_bool hu h
    exact⟨_,[],rfl,⟨b,rfl⟩,rfl⟩
   ·rename_i e hu
    split at hl
    ·cases hl
    rename_i le hle
    split at hl
    ·rename_i hc
     cases hl
     rcases open_slice hu h with ⟨rfl,_⟩ | ⟨a,len,cap,m,nn,D,Pl,rfl,hb,hlc,hcm,hm,hx,hi⟩
     ·exact⟨_,[],rfl,⟨none,0,0,rfl,Nat.le_refl _,by simp[maxLen],by simp⟩,rfl⟩
     ·refine⟨_,[],rfl,⟨some a,len,cap,rfl,hlc,hcm,λh0=>?_⟩,rfl⟩
      have hlm:len≤m:=by rw[hm];split <;> omega
      have cell:∀i,i<m→∃cs',CSokL w le cs'∧∀j,j<le.length→w.cell? (a.add (i*le.length+j))=cs'[j]?:=by
       intro i him
       obtain⟨cs',hcs,ht⟩:=hi i him
       obtain⟨_,hcl,hat⟩:=World.cells?_some hcs
       refine⟨cs',ih e le nn cs' _ hle ht,λj hj=>?_⟩
       rw[← Go.Deep.add_add,← hc.1]
       exact hat j (by rw[hc.1];exact hj)
      have sp:a.spot=none∧a.block<w.heap.size:=by
       obtain⟨cs',h1,h2⟩:=cell 0 (by omega)
       have e1:=(CSokL_get h1).1
       have h3:=h2 0 hc.2
       rw[List.getElem?_eq_getElem (by omega)] at h3
       have hs:=World.cell?_spot h3
       have hs':a.spot=none:=by simpa [Addr.add] using hs
       refine⟨hs',?_⟩
       have hbl:(a.add (0*le.length+0)).block=a.block:=by unfold Addr.add;split <;> rfl
       unfold World.cell? at h3
       rw[hbl] at h3
       rcases Nat.lt_or_ge a.block w.heap.size with hlt | hge
       ·exact hlt
       ·rw[Array.getElem?_eq_none hge] at h3
        simp at h3
      obtain⟨b,o,s⟩:=a
      simp only at sp
      obtain⟨rfl,hblk⟩:=sp
      refine⟨b,o,rfl,hblk,λi j hi' hj=>?_⟩
      obtain⟨cs',h1,h2⟩:=cell i (by omega)
      obtain⟨e1,e2⟩:=CSokL_get h1
      have h3:=h2 j hj
      rw[add_none,List.getElem?_eq_getElem (by omega)] at h3
      exact⟨_,h3,e2 j _ _ (List.getElem?_eq_getElem (by omega))⟩
    ·cases hl
   ·rename_i fa hu
    split at hl
    ·cases hl
    rename_i lf0 hl0
    split at hl
    rotate_left
    ·cases hl
    rename_i hct
    cases hl
    obtain⟨xs,m,rfl,_,hcl,hxl,hf⟩:=DataW.trod_struct hu h
    have key:∀(fs:List Field) (o:Nat) (l':List CS),flatL (flatT P n) P fs o=some l'→(∀fd∈fs,∃y,DataW.trod enc P w base spare held m fd.type ((cs.drop fd.offset).take (P.cellsOf fd.type))=some y)→
     CSokL w l' ((cs.drop o).take l'.length):=by
     intro fs
     induction fs with
     | nil=>
       intro o l' h1 _
       simp[flatL] at h1;subst h1
       simp[CSokL]
     | cons fd fs ihf=>
       intro o l' h1 h2
       simp only [flatL] at h1
       split at h1
       ·cases h1
       rename_i lf hlf
       split at h1
       ·rename_i hc
        obtain⟨rfl,hc2⟩:=hc
        cases hq:flatL (flatT P n) P fs (fd.offset+lf.length) with
        | none=>rw[hq] at h1;simp at h1
        | some lr=>
          rw[hq] at h1
          simp at h1
          subst h1
          obtain⟨y,hy⟩:=h2 fd (by simp)
          have g1:=ih _ _ _ _ _ hlf hy
          have g2:=ihf _ _ hq λfd' hfd'=>h2 fd' (by simp[hfd'])
          rw[hc2] at g1
          have g3:=CSokL_append g1 g2
          rw[List.length_append,List.take_add,List.drop_drop]
          exact g3
       ·cases h1
    have hlen:∀fd∈fa.toList,∃y,DataW.trod enc P w base spare held m fd.type ((cs.drop fd.offset).take (P.cellsOf fd.type))=some y:=by
     intro fd hfd
     obtain⟨i,hi,rfl⟩:=List.getElem_of_mem hfd
     have hi':i<fa.size:=by simpa using hi
     have:=hf i fa[i] (Array.getElem?_eq_getElem hi')
     rw[List.getElem?_eq_getElem (by omega)] at this
     exact⟨_,by simpa using this⟩
    have:=key fa.toList 0 l hl0 hlen
    simp only [List.drop_zero] at this
    rwa [List.take_of_length_le (by omega)] at this
   ·rename_i m e hu
    split at hl
    ·cases hl
    rename_i le hle
    split at hl
    rotate_left
    ·cases hl
    rename_i hc
    cases hl
    obtain⟨xs,q,rfl,_,hcl,hxl,hf⟩:=DataW.trod_array hu h
    have key:∀d k,k+d=m→CSokL w (repC le d) (cs.drop (k*le.length)):=by
     intro d
     induction d with
     | zero=>
       intro k hk
       rw[List.drop_of_length_le (by rw[hcl,hc.2];exact Nat.mul_le_mul_right _ (by omega))]
       rfl
     | succ d ihd=>
       intro k hk
       have h1:=hf k (by omega)
       rw[List.getElem?_eq_getElem (by omega)] at h1
       have g1:=ih _ _ _ _ _ hle h1
       rw[hc.1] at g1
       have g2:=ihd (k+1) (by omega)
       have g3:=CSokL_append g1 g2
       have e:cs.drop (k*le.length)=(cs.drop (k*le.length)).take le.length++cs.drop ((k+1)*le.length):=by
        rw[show(k+1)*le.length=k*le.length+le.length from by rw[Nat.add_mul];omega,← List.drop_drop,List.take_append_drop]
       rw[e]
       exact g3
    simpa using key m 0 (by omega)
   ·cases hl
theorem open_flat {n:Nat} {t:TypeId} {l:List CS} {v:Value} {d:DataW H} {p:List MemPlace} (hf:flatT P n t=some l) (h:DataW.Trod enc P w base spare held t v d p):CSokL w l v.cells.toList:=by
 obtain⟨fuel,hf'⟩:=h
 exact flat_ok n t l fuel _ _ hf hf'
theorem trodAll_stays (hl:laidOutB P=true) {W W':World} {sp:Nat→Bool} (hb:Below W.heap.size W W'):∀(ts:List TypeId) (vs:List Value) (ds:List (DataW H)) (ps:List MemPlace),
 (∀t∈ts,P.readableRec t=true∧t<P.types.size)→DataW.TrodAll enc P W 0 (λ_=>true) true ts vs ds ps→(∀p∈ps,p.block<W.heap.size)→(∀p∈ps,sp p.block=true)→DataW.TrodAll enc P W' 0 sp true ts vs ds ps
 | [],vs,ds,ps,_,h,_,_=>by
   obtain⟨rfl,rfl,rfl⟩:=trodAll_nil h
   exact rfl
 | t::ts,vs,ds,ps,hr,h,hlt,hsp=>by
   obtain⟨v,vs',d,ds',p,q,rfl,rfl,rfl,h1,h2⟩:=trodAll_cons h
   obtain⟨r1,r2⟩:=hr t (by simp)
   exact⟨p,q,WideElems.Trod_stays hl r1 r2 h1 (λx hx=>hb.same (hlt x (by simp[hx]))) (λx hx=>hsp x (by simp[hx])),trodAll_stays hl hb ts vs' ds' q (λt' ht'=>hr t' (by simp[ht'])) h2 (λx hx=>hlt x (by simp[hx])) (λx hx=>hsp x (by simp[hx])),rfl⟩
theorem post_law {f:Func} {s:ChangeSpec} {W W':World} {args:Array Value} {ds:List (DataW H)} {p:List MemPlace} {ts:List TypeId} {tb:TypeId} (hl:laidOutB P=true) (hts:f.params.toList=ts) (hrec:∀t∈ts,P.readableRec t=true∧t<P.types.size)
 (hres:f.resultTypes=#[tb]) (htb:P.underlying tb=some .bool) (hv:s.vars=[]) (hs:s.fn H (ds++[])={results:=[.lit (.bool true)],args:=ds}) (hW:DataW.Whole enc P f.params.toList s.vars false W args.toList ds [] p) (hb:Below W.heap.size W W') :
 s.post enc P f false true false false W args (.bool true) W':=by
 have hlt:∀x∈p,x.block<W.heap.size:=λx hx=>hW.lt x hx
 have hold:∀x∈p,(λb=>decide (b<W.heap.size)) x.block=true:=λx hx=>by simpa using hlt x hx
 have hA:DataW.TrodAll enc P W 0 (λ_=>true) true ts args.toList ds p:=by
  obtain⟨p',q,h1,h2,h3,_,_⟩:=hW
  rw[hv] at h2
  obtain⟨_,rfl⟩:=trodVars_none h2
  rw[hts] at h1
  simpa [h3] using h1
 have hargs:∀sp:Nat→Bool,(∀x∈p,sp x.block=true)→DataW.TrodAll enc P W' 0 sp true f.params.toList args.toList (s.fn H (ds++[])).args p:=λsp hsp=>by
  rw[hts,hs]
  exact trodAll_stays hl hb ts _ _ _ hrec hA hlt hsp
 have hvars:∀sp:Nat→Bool,DataW.TrodVars enc P W' sp s.vars (s.fn H (ds++[])).vars []:=λsp=>by
  rw[hv,hs];rfl
 have hbool:∀(b:Nat) (sp:Nat→Bool) (hd:Bool),DataW.TrodAll enc P W' b sp hd f.resultTypes.toList ((Value.bool true).resultList f.resultTypes.size) (s.fn H (ds++[])).results []:=λb sp hd=>by
  rw[hres,hs]
  exact trodAll_mk1 ⟨1,by simp[DataW.trod,Value.cells,htb]⟩
 refine⟨ds,[],p,[],p,[],hW,hbool _ _ _,hargs _ hold,hvars _,World.keptBut_mono (λx hx=>⟨hx,by simpa using hx⟩) (hb.frame (·∈p)),λ_=>?_⟩
 obtain⟨_,_,_,_,_,hz,hn⟩:=hW
 refine⟨ok_one hres rfl (by simp[Value.okWide,htb,Cell.okWide,Cell.ok]),_,_,([]++p)++[],⟨[]++p,[],trodAll_append (hargs _ (λ_ _=>rfl)) (hbool _ _ _),hvars _,rfl,?_,?_⟩,?_⟩
 ·intro b off hp
  have hin:MemPlace.cell b off∈p:=by simpa using hp
  rw[hb.frozen (hlt _ hin)]
  exact hz b off hin
 ·intro ha;cases ha
 ·intro x hx _
  simpa using hx
theorem trodAll_len:∀{ts:List TypeId} {vs:List Value} {ds:List (DataW H)} {ps:List MemPlace},DataW.TrodAll enc P w base spare held ts vs ds ps→ds.length=ts.length
 | [],vs,ds,ps,h=>by
   obtain⟨rfl,rfl,rfl⟩:=trodAll_nil h
   rfl
 | t::ts,vs,ds,ps,h=>by
   obtain⟨v,vs',d,ds',p,q,rfl,rfl,rfl,h1,h2⟩:=trodAll_cons h
   simp[trodAll_len h2]
theorem law_contract {f:FuncId} {fn:Func} {s:ChangeSpec} {ts:List TypeId} {tb:TypeId} (hl:laidOutB P=true) (hts:fn.params.toList=ts) (hrec:∀t∈ts,P.readableRec t=true∧t<P.types.size)
 (hres:fn.resultTypes=#[tb]) (htb:P.underlying tb=some .bool) (hv:s.vars=[]) (hs:∀ds:List (DataW H),ds.length=ts.length→s.fn H (ds++[])={results:=[.lit (.bool true)],args:=ds})
 (K:∀(W:World) (vs:List Value),(∃base,∀(j:Nat) t v,ts[j]? =some t→vs[j]? =some v→Value.okWide P W .any base t v)→(∃ds p,DataW.TrodAll enc P W 0 (λ_=>true) true ts vs ds p)→
   ∃l,SV.relL (λ_=>none) (λb=>b<W.heap.size) W l vs∧Pure P f l (· =.b true)) :
 ∀(W:World) (base:Nat) (args:Array Value) (ds gs:List (DataW H)) (before:List MemPlace),(∀(j:Nat) t v,fn.params[j]? =some t→args[j]? =some v→Value.okWide P W .any base t v)→
  DataW.Whole enc P fn.params.toList s.vars false W args.toList ds gs before→Calls P f args W λe W'=>∃v,e=.returned v∧s.post enc P fn false true false false W args v W':=by
 intro W base args ds gs before hval hW
 have hW0:=hW
 obtain⟨p,q,hA,hV,rfl,hfz,hnd⟩:=hW
 rw[hv] at hV
 obtain⟨rfl,rfl⟩:=trodVars_none hV
 rw[hts] at hA
 simp only [List.append_nil] at hW0
 obtain⟨l,hrel,hp⟩:=K W args.toList ⟨base,λj t v h1 h2=>hval j t v (by rw[← Array.getElem?_toList,hts];exact h1) (by rw[← Array.getElem?_toList];exact h2)⟩ ⟨ds,p,hA⟩
 obtain⟨_,hc⟩:=hp (λb=>b<W.heap.size) W args.toList (λb hb=>hb) hrel
 refine hc.mono λe W' h=>?_
 obtain⟨y,s',rfl,rfl,hr,hf⟩:=h
 have hy:y=.bool true:=hr
 subst hy
 exact⟨_,rfl,post_law hl hts hrec hres htb hv (hs ds (trodAll_len hA)) hW0 ⟨hf.os,hf.tape,hf.output,hf.size,λb hb=>hf.block b hb λh=>h⟩⟩
def vi:Value→Int
 | .int _ n=>n
 | _=>0
theorem ok_int {k:IntKind} {v:Value} (h:CSok w (.sc (.int k)) v):v=.int k (vi v):=by
 obtain⟨n,rfl,_⟩:=h;rfl
theorem ok_u8 {v:Value} (h:CSok w (.sc (.int .u8)) v):0≤vi v∧vi v<256:=by
 obtain⟨n,rfl,hw⟩:=h
 simp[Lit.wf,IntKind.min,IntKind.max,IntKind.bits,IntKind.signed] at hw
 simp only [vi];omega
theorem rows_of {k:Nat} {fs:Nat→CS} {v:Value} (h:CSok w (.sl k fs) v):∃(n:Nat) (cv:Nat→Nat→Value),n≤maxLen∧(∀i j,i<n→j<k→CSok w (fs j) (cv i j))∧
 ∀get:Nat→Nat→RV,(∀i j,i<n→j<k→(cv i j).oneCell'=true∧(get i j).rel (λb=>b<w.heap.size) w (cv i j))→∀σ,(SV.r (.rs k n get)).rel σ (λb=>b<w.heap.size) w v:=by
 obtain⟨A,n,c,rfl,hnc,hcm,hA⟩:=h
 rcases Nat.eq_zero_or_pos n with h0 | h0
 ·subst h0
  exact⟨0,λ_ _=>undef,Nat.zero_le _,λi j hi=>by omega,λget _ σ=>⟨A,c,rfl,Nat.zero_le _,λh=>by omega⟩⟩
 ·obtain⟨b,o,rfl,hb,hc⟩:=hA h0
  refine⟨n,λi j=>(w.cell? ⟨b,o+(i*k+j),none⟩).getD undef,by omega,λi j hi hj=>?_,λget hg σ=>⟨_,c,rfl,hnc,λ_=>⟨b,o,rfl,hb,λi j hi hj=>?_⟩⟩⟩
  ·obtain⟨u,h1,h2⟩:=hc i j hi hj
   simp only [h1,Option.getD_some];exact h2
  ·obtain⟨u,h1,h2⟩:=hc i j hi hj
   have:=hg i j hi hj
   simp only [h1,Option.getD_some] at this
   exact⟨u,h1,this.1,this.2⟩
end
end Go.Gx
namespace Go.Gx
open Go.RowKit
mutual
def SV.ren (ρ:Nat→Nat):SV→SV
 | .r x=>.r x
 | .ptr q row k fld=>.ptr (ρ q) row k fld
 | .sl q k lo n c=>.sl (ρ q) k lo n c
 | .mp q=>.mp (ρ q)
 | .fn f fi ca=>.fn f (SV.renL ρ fi) (SV.renL ρ ca)
 | .agg l=>.agg (SV.renL ρ l)
 | .tup l=>.tup (SV.renL ρ l)
def SV.renL (ρ:Nat→Nat):List SV→List SV
 | []=>[]
 | s::l=>s.ren ρ::SV.renL ρ l
end
def Reg.ren (ρ:Nat→Nat):Reg→Reg
 | .box l=>.box (SV.renL ρ l)
 | .vec e k n g=>.vec e k n λi j=>(g i j).ren ρ
 | .map has val st=>.map has (λa=>(val a).ren ρ) st
 | .iter m f c all left la=>.iter (m.ren ρ) f c all left la
section
variable {σ:Sig} {Z:Nat→Prop} {w:World} {ρ:Nat→Nat}
mutual
theorem SV.rel_ren:∀(s:SV) (y:Value),(s.ren ρ).rel σ Z w y↔s.rel (λi=>σ (ρ i)) Z w y
 | .r x,y=>Iff.rfl
 | .ptr ..,y=>Iff.rfl
 | .sl ..,y=>Iff.rfl
 | .mp ..,y=>Iff.rfl
 | .fn f fi ca,y=>by
   simp only [SV.ren,SV.rel]
   exact⟨λ⟨vs,ws,e,h1,h2⟩=>⟨vs,ws,e,(SV.relL_ren fi vs).1 h1,(SV.relL_ren ca ws).1 h2⟩,λ⟨vs,ws,e,h1,h2⟩=>⟨vs,ws,e,(SV.relL_ren fi vs).2 h1,(SV.relL_ren ca ws).2 h2⟩⟩
 | .agg l,y=>by
   simp only [SV.ren,SV.rel]
   exact⟨λ⟨vs,e,h1,h2⟩=>⟨vs,e,h1,(SV.relL_ren l vs).1 h2⟩,λ⟨vs,e,h1,h2⟩=>⟨vs,e,h1,(SV.relL_ren l vs).2 h2⟩⟩
 | .tup l,y=>by
   simp only [SV.ren,SV.rel]
   exact⟨λ⟨vs,e,h2⟩=>⟨vs,e,(SV.relL_ren l vs).1 h2⟩,λ⟨vs,e,h2⟩=>⟨vs,e,(SV.relL_ren l vs).2 h2⟩⟩
theorem SV.relL_ren:∀(l:List SV) (ys:List Value),SV.relL σ Z w (SV.renL ρ l) ys↔SV.relL (λi=>σ (ρ i)) Z w l ys
 | [],ys=>Iff.rfl
 | s::l,ys=>by
   simp only [SV.renL,SV.relL]
   exact⟨λ⟨v,vs',e,h1,h2⟩=>⟨v,vs',e,(SV.rel_ren s v).1 h1,(SV.relL_ren l vs').1 h2⟩,λ⟨v,vs',e,h1,h2⟩=>⟨v,vs',e,(SV.rel_ren s v).2 h1,(SV.relL_ren l vs').2 h2⟩⟩
end
theorem RegOK_ren {L:Loc} {R:Reg}:RegOK σ Z w L (R.ren ρ)↔RegOK (λi=>σ (ρ i)) Z w L R:=by
 cases R with
 | box l=>
   simp only [Reg.ren,RegOK]
   exact⟨λ⟨b,cs,ty,h1,h2,h3,h4⟩=>⟨b,cs,ty,h1,h2,h3,(SV.relL_ren l cs).1 h4⟩,λ⟨b,cs,ty,h1,h2,h3,h4⟩=>⟨b,cs,ty,h1,h2,h3,(SV.relL_ren l cs).2 h4⟩⟩
 | vec e k n g=>simp only [Reg.ren,RegOK,SV.rel_ren]
 | map has val st=>simp only [Reg.ren,RegOK,SV.rel_ren]
 | iter m f c all left la=>simp only [Reg.ren,RegOK,SV.rel_ren]
end
def Wof (σ:Sig) (M:Mem) (b:Nat):Prop:=∃r R L,M r=some R∧σ r=some L∧L.at_=some b
abbrev memR (l:List Reg):Mem:=memL (l.map some)
def OwnS (P:Program) (np:Nat) (f:FuncId) (Rs:List Reg) (args:List SV) (S:SV) (Rs':List Reg):Prop:=
 ∀(B:Nat→Prop) (σ:Sig) (w:World) (vs:List Value),MOK B (Wof σ (memR Rs)) w.heap.size σ (memR Rs) (From Rs.length) w→SV.relL σ (Zof B σ (memR Rs) w) w args vs→
  (callFunc f vs.toArray).run P w=.ok (.enter f vs.toArray) w∧
  Calls P f vs.toArray w λe w'=>∃y σ',e=.returned y∧MOK B (Wof σ (memR Rs)) w.heap.size σ' (memR Rs') (From Rs'.length) w'∧S.rel σ' (Zof B σ' (memR Rs') w') w' y∧FrS (Wof σ (memR Rs)) w.heap.size w w'∧
   ∀r,r<np→σ' r=σ r
abbrev Own (P:Program) (f:FuncId) (Rs:List Reg) (args:List SV) (S:SV) (Rs':List Reg):Prop:=OwnS P 0 f Rs args S Rs'
theorem memR_get (l:List Reg) (r:Nat):memR l r=l[r]?:=by
 simp only [memR,memL,List.getElem?_map]
 cases l[r]? <;> rfl
def gexpR (M:Mem) (ρ:Nat→Nat):List Nat→List Reg→Prop
 | [],[]=>True
 | q::l,R::Rs=>Reg.sub (M q) (some (R.ren ρ))∧gexpR M ρ l Rs
 | _,_=>False
def gexp (M:Mem) (s:SV) (ρl:List Nat) (S:SV) (Rs':List Reg):Prop:=
 ρl.Nodup∧∀N:Nat,s.sub (S.ren λi=>(ρl[i]?).getD N)∧gexpR M (λi=>(ρl[i]?).getD N) ρl Rs'
theorem gexpR_get {M:Mem} {ρ:Nat→Nat}:∀{ρl:List Nat} {Rs:List Reg},gexpR M ρ ρl Rs→ρl.length=Rs.length∧∀(i:Nat) (R:Reg),Rs[i]? =some R→∃q,ρl[i]? =some q∧Reg.sub (M q) (some (R.ren ρ))
 | [],[],_=>⟨rfl,by simp⟩
 | [],_::_,h=>h.elim
 | _::_,[],h=>h.elim
 | q::l,R::Rs,h=>by
   obtain⟨h1,h2⟩:=gexpR_get h.2
   refine⟨by simp[h1],λi R' hi=>?_⟩
   cases i with
   | zero=>simp at hi;subst hi;exact⟨q,by simp,h.1⟩
   | succ i=>simpa using h2 i R' (by simpa using hi)
theorem nodup_inj {l:List Nat} (h:l.Nodup) {i j:Nat} (hi:i<l.length) (hj:j<l.length) (e:l[i]=l[j]):i=j:=by
 have hp:=List.pairwise_iff_getElem.1 h
 rcases Nat.lt_trichotomy i j with h1 | h1 | h1
 ·exact absurd e (hp i j hi hj h1)
 ·exact h1
 ·exact absurd e.symm (hp j i hj hi h1)
section
variable {P:Program} {T:Tab}
theorem MOK.export {B W F:Nat→Prop} {n0:Nat} {σ:Sig} {M:Mem} {w:World} (hm:MOK B W n0 σ M F w) {ρl:List Nat} {Rs:List Reg} {N:Nat} (hN:σ N=none) (hnd:ρl.Nodup) (hx:gexpR M (λi=>(ρl[i]?).getD N) ρl Rs) :
 MOK B W n0 (λi=>σ ((ρl[i]?).getD N)) (memR Rs) (From Rs.length) w∧∀b,Zof B σ M w b→Zof B (λi=>σ ((ρl[i]?).getD N)) (memR Rs) w b:=by
 obtain⟨hlen,hget⟩:=gexpR_get hx
 have hk:∀r R,memR Rs r=some R→∃q R1,ρl[r]? =some q∧M q=some R1∧Reg.sub (some R1) (some (R.ren λi=>(ρl[i]?).getD N)):=by
  intro r R h
  rw[memR_get] at h
  obtain⟨q,h1,h2⟩:=hget r R h
  cases hq:M q with
  | none=>rw[hq] at h2;simp[Reg.sub] at h2
  | some R1=>rw[hq] at h2;exact⟨q,R1,h1,hq,h2⟩
 have hz:∀b,Zof B σ M w b→Zof B (λi=>σ ((ρl[i]?).getD N)) (memR Rs) w b:=λb hb=>⟨hb.1,λr R L h1 h2 h3=>by
  obtain⟨q,R1,e1,e2,_⟩:=hk r R h1
  simp only [e1,Option.getD_some] at h2
  exact hb.2 q R1 L e2 h2 h3⟩
 refine⟨⟨hm.newB,λr hr=>?_,λr R h=>?_,λr r' R R' L L' b h1 h2 h3 h4 h5 h6=>?_,λr R L b h1 h2 h3=>?_⟩,hz⟩
 ·have:ρl[r]? =none:=List.getElem?_eq_none (by have:Rs.length≤r:=hr;omega)
  simp[this,hN]
 ·obtain⟨q,R1,e1,e2,e3⟩:=hk r R h
  obtain⟨L,g1,g2⟩:=hm.reg q R1 e2
  refine⟨L,by simp[e1,g1],?_⟩
  exact RegOK_ren.1 (Reg.sub_ok e3 hz g2)
 ·obtain⟨q,R1,e1,e2,_⟩:=hk r R h1
  obtain⟨q',R2,e3,e4,_⟩:=hk r' R' h2
  simp only [e1,Option.getD_some] at h3
  simp only [e3,Option.getD_some] at h4
  have:=hm.inj q q' R1 R2 L L' b e2 e4 h3 h4 h5 h6
  subst this
  obtain⟨l1,l2⟩:=List.getElem?_eq_some_iff.1 e1
  obtain⟨l3,l4⟩:=List.getElem?_eq_some_iff.1 e3
  exact nodup_inj hnd l1 l3 (l2.trans l4.symm)
 ·obtain⟨q,R1,e1,e2,_⟩:=hk r R h1
  simp only [e1,Option.getD_some] at h2
  exact hm.own q R1 L b e2 h2 h3
def keepsL:Nat→Nat→List Nat→Prop
 | 0,_,_=>True
 | np+1,i,q::l=>q=i∧keepsL np (i+1) l
 | _+1,_,[]=>False
theorem keepsL_get:∀{np i:Nat} {l:List Nat},keepsL np i l→∀j,j<np→l[j]? =some (i+j)
 | 0,_,_,_,j,hj=>by omega
 | np+1,i,q::l,h,0,_=>by simp[h.1]
 | np+1,i,q::l,h,j+1,hj=>by
   have:=keepsL_get h.2 j (by omega)
   simp[this];omega
 | _+1,_,[],h,_,_=>h.elim
theorem ownS_of_GC (hT:TabOK P T) {f:FuncId} {fn:Func} (hf:P.funcs[f]? =some fn) {c:Code} (hb:fn.body=some c) (hn:(fn.name== "runtime.NumGoroutine")=false) {args:List SV} (hlen:args.length≤fn.ntmps) {Rs Rs':List Reg} {S:SV}
 {N:Nat} {rs:List ResultVar} (hN:fn.ntmps=N) (hrs:fn.results.toList=rs) (np:Nat) (hnp:np≤Rs.length) (h:GC P T ⟨N,np,noGood⟩ c [] (gret T rs λs M=>∃ρl,keepsL np 0 ρl∧gexp M s ρl S Rs') (env0 args) (memR Rs) Rs.length):OwnS P np f Rs args S Rs':=by
 subst hN;subst hrs
 intro B σ w vs hm ha
 refine⟨enter_run hf hb hn _,?_⟩
 refine(calls_of_gexec hT hf hb hlen hnp hm ha h).mono λe w' h'=>?_
 obtain⟨s,y,σ',M',nx',rfl,⟨ρl,hk,h1,h2⟩,hrel,hm',hfr,hpin⟩:=h'
 obtain⟨h3,h4⟩:=h2 nx'
 obtain⟨m1,m2⟩:=hm'.export (hm'.fresh nx' (Nat.le_refl nx')) h1 h4
 refine⟨y,_,rfl,m1,SV.rel_mono (λ_ _ h=>h) (λb hb=>⟨m2 b hb,rfl⟩) _ _ ((SV.rel_ren _ _).1 (SV.sub_rel _ _ _ h3 hrel)),⟨hfr.os,hfr.tape,hfr.output,hfr.size,hfr.drawn,hfr.block⟩,λr hr=>?_⟩
 have:=keepsL_get hk r hr
 simp only [this,Nat.zero_add,Option.getD_some]
 exact hpin r hr
theorem own_of_GC (hT:TabOK P T) {f:FuncId} {fn:Func} (hf:P.funcs[f]? =some fn) {c:Code} (hb:fn.body=some c) (hn:(fn.name== "runtime.NumGoroutine")=false) {args:List SV} (hlen:args.length≤fn.ntmps) {Rs Rs':List Reg} {S:SV}
 {N:Nat} {rs:List ResultVar} (hN:fn.ntmps=N) (hrs:fn.results.toList=rs) (h:GC P T ⟨N,0,noGood⟩ c [] (gret T rs λs M=>∃ρl,gexp M s ρl S Rs') (env0 args) (memR Rs) Rs.length):Own P f Rs args S Rs':=by
 subst hN;subst hrs
 intro B σ w vs hm ha
 refine⟨enter_run hf hb hn _,?_⟩
 refine(calls_of_gexec hT hf hb hlen (Nat.zero_le _) hm ha h).mono λe w' h'=>?_
 obtain⟨s,y,σ',M',nx',rfl,⟨ρl,h1,h2⟩,hrel,hm',hfr,hpin⟩:=h'
 obtain⟨h3,h4⟩:=h2 nx'
 obtain⟨m1,m2⟩:=hm'.export (hm'.fresh nx' (Nat.le_refl nx')) h1 h4
 exact⟨y,_,rfl,m1,SV.rel_mono (λ_ _ h=>h) (λb hb=>⟨m2 b hb,rfl⟩) _ _ ((SV.rel_ren _ _).1 (SV.sub_rel _ _ _ h3 hrel)),⟨hfr.os,hfr.tape,hfr.output,hfr.size,hfr.drawn,hfr.block⟩,λr hr=>absurd hr (Nat.not_lt_zero r)⟩
def dropM:List Nat→Mem→Mem
 | [],M=>M
 | q::l,M=>dropM l (upd M q none)
theorem dropM_at:∀(l:List Nat) (M:Mem) (r:Nat),dropM l M r=if r∈l then none else M r
 | [],M,r=>by simp[dropM]
 | q::l,M,r=>by
   simp only [dropM,dropM_at l,upd_app,List.mem_cons]
   by_cases h1:r∈l <;> by_cases h2:r=q <;> simp[h1,h2]
def atM (M:Mem) (ρ:Nat→Nat):List Nat→List Reg→Prop
 | [],[]=>True
 | q::l,R::Rs=>M q=some (R.ren ρ)∧atM M ρ l Rs
 | _,_=>False
theorem atM_get {M:Mem} {ρ:Nat→Nat}:∀{ρl:List Nat} {Rs:List Reg},atM M ρ ρl Rs→ρl.length=Rs.length∧∀(i:Nat) (R:Reg),Rs[i]? =some R→∃q,ρl[i]? =some q∧M q=some (R.ren ρ)
 | [],[],_=>⟨rfl,by simp⟩
 | [],_::_,h=>h.elim
 | _::_,[],h=>h.elim
 | q::l,R::Rs,h=>by
   obtain⟨h1,h2⟩:=atM_get h.2
   refine⟨by simp[h1],λi R' hi=>?_⟩
   cases i with
   | zero=>simp at hi;subst hi;exact⟨q,by simp,h.1⟩
   | succ i=>simpa using h2 i R' (by simpa using hi)
def addS (ρ:Nat→Nat):Nat→List Reg→Mem→Mem
 | _,[],M=>M
 | i,R::l,M=>addS ρ (i+1) l (upd M (ρ i) (some (R.ren ρ)))
theorem addS_get (ρ:Nat→Nat):∀(l:List Reg) (i:Nat) (M:Mem) (r:Nat) (R:Reg),addS ρ i l M r=some R→
 (∃j R',l[j]? =some R'∧r=ρ (i+j)∧R=R'.ren ρ)∨(M r=some R∧∀j,j<l.length→r≠ρ (i+j))
 | [],i,M,r,R,h=>.inr ⟨h,by simp⟩
 | R0::l,i,M,r,R,h=>by
   rcases addS_get ρ l (i+1) _ r R h with ⟨j,R',h1,h2,h3⟩ | ⟨h1,h2⟩
   ·exact .inl ⟨j+1,R',by simpa using h1,by rw[h2];congr 1;omega,h3⟩
   ·by_cases hr:r=ρ i
    ·subst hr
     rw[upd_same] at h1;cases h1
     exact .inl ⟨0,R0,by simp,by simp,rfl⟩
    ·rw[upd_ne _ _ hr] at h1
     refine .inr ⟨h1,λj hj=>?_⟩
     cases j with
     | zero=>simpa using hr
     | succ j=>
       have:=h2 j (by simpa using hj)
       rwa [show i+(j+1)=i+1+j from by omega]
def renS (cp nx:Nat) (ρl:List Nat) (i:Nat):Nat:=if i<cp then (ρl[i]?).getD nx else nx+i
theorem callK_ownS {np cp:Nat} {f:FuncId} {Rs Rs':List Reg} {args0 args:List SV} {S:SV} {M:Mem} {nx:Nat} {K:SV→Mem→Nat→(SV→SV)→Prop} (ρl:List Nat) (hp:OwnS P cp f Rs args0 S Rs') (hcp:cp≤Rs.length) (hnd:ρl.Nodup)
 (ha:args=SV.renL (λi=>(ρl[i]?).getD nx) args0) (hM:atM M (λi=>(ρl[i]?).getD nx) ρl Rs)
 (hK:K (S.ren (renS cp nx ρl)) (addS (renS cp nx ρl) 0 Rs' (dropM ρl M)) (nx+Rs'.length) id):CallK P np f args M nx K:=by
 intro B W n0 σ w vs hm hn0 hnp hrel
 obtain⟨hlen,hget⟩:=atM_get hM
 have hget':∀(i:Nat) (R:Reg),memR Rs i=some R→∃q,ρl[i]? =some q∧M q=some (R.ren λi=>(ρl[i]?).getD nx):=λi R h=>hget i R (by rw[← memR_get];exact h)
 let σ1:Sig:=λi=>σ ((ρl[i]?).getD nx)
 have hσ1:∀i q,ρl[i]? =some q→σ1 i=σ q:=λi q h=>by simp[σ1,h]
 have hW:∀b,Wof σ1 (memR Rs) b→∃q R L,q∈ρl∧M q=some R∧σ q=some L∧L.at_=some b:=by
  rintro b ⟨r,R,L,h1,h2,h3⟩
  obtain⟨q,e1,e2⟩:=hget' r R h1
  rw[hσ1 r q e1] at h2
  exact⟨q,_,L,List.mem_of_getElem? e1,e2,h2,h3⟩
 have hW':∀q R L b,q∈ρl→M q=some R→σ q=some L→L.at_=some b→Wof σ1 (memR Rs) b:=by
  intro q R L b h1 h2 h3 h4
  obtain⟨i,hi,rfl⟩:=List.getElem_of_mem h1
  have e0:ρl[i]? =some ρl[i]:=List.getElem?_eq_getElem hi
  exact⟨i,Rs[i]'(by omega),L,by rw[memR_get];exact List.getElem?_eq_getElem (by omega),by rw[hσ1 i _ e0];exact h3,h4⟩
 let B1:Nat→Prop:=λb=>Zof B σ M w b∨Wof σ1 (memR Rs) b∨w.heap.size≤b
 have hz1:∀b,Zof B σ M w b→Zof B1 σ1 (memR Rs) w b:=λb hb=>⟨⟨hb.1.1,.inl hb⟩,λr R L h1 h2 h3=>by
  obtain⟨q,e1,e2⟩:=hget' r R h1
  rw[hσ1 r q e1] at h2
  exact hb.2 q _ L e2 h2 h3⟩
 have hm1:MOK B1 (Wof σ1 (memR Rs)) w.heap.size σ1 (memR Rs) (From Rs.length) w:=by
  refine⟨λb hb=>.inr (hb.symm),λr hr=>?_,λr R h=>?_,λr r' R R' L L' b h1 h2 h3 h4 h5 h6=>?_,λr R L b h1 h2 h3=>.inl ⟨r,R,L,h1,h2,h3⟩⟩
  ·have:ρl[r]? =none:=List.getElem?_eq_none (by have:Rs.length≤r:=hr;omega)
   simp[σ1,this,hm.fresh nx (Nat.le_refl nx)]
  ·obtain⟨q,e1,e2⟩:=hget' r R h
   obtain⟨L,g1,g2⟩:=hm.reg q _ e2
   refine⟨L,by rw[hσ1 r q e1];exact g1,?_⟩
   exact(RegOK_ren.1 g2).mono (λ_ _ h=>h) (λb hb=>⟨hz1 b hb,rfl⟩) (λ_ _=>rfl)
  ·obtain⟨q,e1,e2⟩:=hget' r R h1
   obtain⟨q',e3,e4⟩:=hget' r' R' h2
   rw[hσ1 r q e1] at h3
   rw[hσ1 r' q' e3] at h4
   have:=hm.inj q q' _ _ L L' b e2 e4 h3 h4 h5 h6
   subst this
   obtain⟨l1,l2⟩:=List.getElem?_eq_some_iff.1 e1
   obtain⟨l3,l4⟩:=List.getElem?_eq_some_iff.1 e3
   exact nodup_inj hnd l1 l3 (l2.trans l4.symm)
 have ha1:SV.relL σ1 (Zof B1 σ1 (memR Rs) w) w args0 vs:=by
  rw[ha] at hrel
  exact SV.relL_mono (λ_ _ h=>h) (λb hb=>⟨hz1 b hb,rfl⟩) _ _ ((SV.relL_ren _ _).1 hrel)
 obtain⟨c1,c2⟩:=hp B1 σ1 w vs hm1 ha1
 refine .inl ⟨c1,c2.mono λe w' h'=>?_⟩
 obtain⟨y,σ',rfl,hm',hr,hf,hpin⟩:=h'
 have hBW:∀b,Wof σ1 (memR Rs) b→W b∨n0≤b:=λb hb=>by
  obtain⟨q,R,L,h1,h2,h3,h4⟩:=hW b hb
  exact hm.own q R L b h2 h3 h4
 have hB:∀b,B1 b→B b:=λb hb=>by
  rcases hb with hb | hb | hb
  ·exact hb.1.2
  ·exact hm.newB b (hBW b hb).symm
  ·exact hm.newB b (.inl (by omega))
 let ρ:Nat→Nat:=renS cp nx ρl
 let σ2:Sig:=λr=>if nx≤r then σ' (r - nx) else σ r
 let M2:Mem:=addS ρ 0 Rs' (dropM ρl M)
 have hltσ:∀r L,σ r=some L→r<nx:=λr L h=>by
  rcases Nat.lt_or_ge r nx with h1 | h1
  ·exact h1
  ·rw[hm.fresh r h1] at h;cases h
 have hσ2':∀i,σ2 (ρ i)=σ' i:=by
  intro i
  show σ2 (renS cp nx ρl i)=_
  unfold renS
  by_cases hi:i<cp
  ·rw[if_pos hi,hpin i hi]
   have hil:i<ρl.length:=by omega
   have e0:ρl[i]? =some ρl[i]:=List.getElem?_eq_getElem hil
   rw[e0]
   have hR:memR Rs i=some (Rs[i]'(by omega)):=by rw[memR_get];exact List.getElem?_eq_getElem (by omega)
   obtain⟨q,e1,e2⟩:=hget' i _ hR
   rw[e0] at e1;cases e1
   obtain⟨L,g1,_⟩:=hm.reg _ _ e2
   have hlt:=hltσ _ _ g1
   simp only [Option.getD_some]
   rw[hσ1 i _ e0]
   exact if_neg (by omega)
  ·rw[if_neg hi]
   simp[σ2]
 have hσ2:(λi=>σ2 (ρ i))=σ':=by
  funext i;exact hσ2' i
 have hs2:SigLe σ σ2:=λr L h=>by
  show(if nx≤r then _ else _)=_
  rw[if_neg]
  ·exact h
  ·intro hr
   rw[hm.fresh r hr] at h;cases h
 have hk2:∀r R,M2 r=some R→(∃i R',r=ρ i∧memR Rs' i=some R'∧R=R'.ren ρ)∨(r ∉ ρl∧M r=some R∧r<nx):=by
  intro r R h
  rcases addS_get ρ Rs' 0 _ r R h with ⟨j,R',h1,h2,h3⟩ | ⟨h1,h2⟩
  ·exact .inl ⟨j,R',by simpa using h2,by rw[memR_get];exact h1,h3⟩
  ·rw[dropM_at] at h1
   split at h1
   ·cases h1
   ·rename_i hr
    obtain⟨L,g1,_⟩:=hm.reg r R h1
    exact .inr ⟨hr,h1,hltσ r L g1⟩
 have holdW:∀r R L b,r ∉ ρl→M r=some R→σ r=some L→L.at_=some b→b<w.heap.size∧¬Wof σ1 (memR Rs) b:=by
  intro r R L b h1 h2 h3 h4
  obtain⟨L',g1,g2⟩:=hm.reg r R h2
  rw[h3] at g1;cases g1
  refine⟨g2.block h4,λhb=>?_⟩
  obtain⟨q,R1,L1,q1,q2,q3,q4⟩:=hW b hb
  exact h1 (by rw[hm.inj r q R R1 L L1 b h2 q2 h3 q3 h4 q4];exact q1)
 have hnew:∀i R L b,memR Rs' i=some R→σ' i=some L→L.at_=some b→Wof σ1 (memR Rs) b∨w.heap.size≤b:=λi R L b h1 h2 h3=>hm'.own i R L b h1 h2 h3
 have hZW:∀b,Zof B σ M w b→¬Wof σ1 (memR Rs) b:=λb hb h=>by
  obtain⟨q,R1,L1,q1,q2,q3,q4⟩:=hW b h
  exact hb.2 q R1 L1 q2 q3 q4
 have hz2:∀b,Zof B σ M w b→Zof B σ2 M2 w' b:=λb hb=>⟨⟨Nat.lt_of_lt_of_le hb.1.1 hf.size,hb.1.2⟩,λr R L h1 h2 h3=>by
  rcases hk2 r R h1 with ⟨i,R',rfl,e1,_⟩ | ⟨e1,e2,e3⟩
  ·rw[hσ2' i] at h2
   rcases hnew i R' L b e1 h2 h3 with h | h
   ·exact hZW b hb h
   ·have:=hb.1.1;omega
  ·have:σ2 r=σ r:=if_neg (by omega)
   rw[this] at h2
   exact hb.2 r R L e2 h2 h3⟩
 have hkeep:Keep (Zof B σ M w) (Zof B σ2 M2 w') w w':=λb hb=>⟨hz2 b hb,hf.block b hb.1.1 (hZW b hb)⟩
 have hz3:∀b,Zof B1 σ' (memR Rs') w' b→Zof B σ2 M2 w' b:=λb hb=>⟨⟨hb.1.1,hB b hb.1.2⟩,λr R L h1 h2 h3=>by
  rcases hk2 r R h1 with ⟨i,R',rfl,e1,_⟩ | ⟨e1,e2,e3⟩
  ·rw[hσ2' i] at h2
   exact hb.2 i R' L e1 h2 h3
  ·have:σ2 r=σ r:=if_neg (by omega)
   rw[this] at h2
   obtain⟨g1,g2⟩:=holdW r R L b e1 e2 h2 h3
   rcases hb.1.2 with h | h | h
   ·exact h.2 r R L e2 h2 h3
   ·exact g2 h
   ·omega⟩
 refine⟨y,S.ren ρ,M2,nx+Rs'.length,σ2,id,rfl,hK,⟨hm.newB,λr hr=>?_,λr R h=>?_,λr r' R R' L L' b h1 h2 h3 h4 h5 h6=>?_,λr R L b h1 h2 h3=>?_⟩,hkeep,?_,λt z hz=>SV.rel_mono hs2 hkeep _ _ hz,⟨hf.os,hf.tape,hf.output,hf.size,hf.drawn,λb hb hw=>hf.block b (by omega) λh=>?_⟩,by omega,λr hr=>if_neg (by omega)⟩
 ·have hr':nx+Rs'.length≤r:=hr
  show(if nx≤r then _ else _)=_
  rw[if_pos (by omega)]
  exact hm'.fresh (r - nx) (show Rs'.length≤r - nx by omega)
 ·rcases hk2 r R h with ⟨i,R',rfl,e1,rfl⟩ | ⟨e1,e2,e3⟩
  ·obtain⟨L,g1,g2⟩:=hm'.reg i R' e1
   refine⟨L,by rw[hσ2' i];exact g1,?_⟩
   refine RegOK_ren.2 ?_
   rw[hσ2]
   exact g2.mono (λ_ _ h=>h) (λb hb=>⟨hz3 b hb,rfl⟩) (λ_ _=>rfl)
  ·obtain⟨L,g1,g2⟩:=hm.reg r R e2
   refine⟨L,hs2 _ _ g1,g2.mono hs2 hkeep λb hb=>?_⟩
   obtain⟨q1,q2⟩:=holdW r R L b e1 e2 g1 hb
   exact hf.block b q1 q2
 ·rcases hk2 r R h1 with ⟨i,R1,rfl,e1,_⟩ | ⟨e1,e2,e3⟩
  ·have g3:σ' i=some L:=by rw[← hσ2' i];exact h3
   rcases hk2 r' R' h2 with ⟨i',R2,rfl,e1',_⟩ | ⟨e1',e2',e3'⟩
   ·have g4:σ' i'=some L':=by rw[← hσ2' i'];exact h4
    rw[hm'.inj i i' R1 R2 L L' b e1 e1' g3 g4 h5 h6]
   ·exfalso
    have:σ2 r'=σ r':=if_neg (by omega)
    rw[this] at h4
    obtain⟨q1,q2⟩:=holdW r' R' L' b e1' e2' h4 h6
    rcases hnew i R1 L b e1 g3 h5 with h | h
    ·exact q2 h
    ·omega
  ·have g3:σ r=some L:=by
    have:σ2 r=σ r:=if_neg (by omega)
    rw[← this];exact h3
   rcases hk2 r' R' h2 with ⟨i',R2,rfl,e1',_⟩ | ⟨e1',e2',e3'⟩
   ·exfalso
    have g4:σ' i'=some L':=by rw[← hσ2' i'];exact h4
    obtain⟨q1,q2⟩:=holdW r R L b e1 e2 g3 h5
    rcases hnew i' R2 L' b e1' g4 h6 with h | h
    ·exact q2 h
    ·omega
   ·have:σ2 r'=σ r':=if_neg (by omega)
    rw[this] at h4
    exact hm.inj r r' R R' L L' b e2 e2' g3 h4 h5 h6
 ·rcases hk2 r R h1 with ⟨i,R1,rfl,e1,_⟩ | ⟨e1,e2,e3⟩
  ·have g3:σ' i=some L:=by rw[← hσ2' i];exact h2
   rcases hnew i R1 L b e1 g3 h3 with h | h
   ·exact hBW b h
   ·right;omega
  ·have:σ2 r=σ r:=if_neg (by omega)
   rw[this] at h2
   exact hm.own r R L b e2 h2 h3
 ·refine(SV.rel_ren _ _).2 ?_
  rw[hσ2]
  exact SV.rel_mono (λ_ _ h=>h) (λb hb=>⟨hz3 b hb,rfl⟩) _ _ hr
 ·rcases hBW b h with h | h
  ·exact hw h
  ·omega
theorem callK_own {np:Nat} {f:FuncId} {Rs Rs':List Reg} {args0 args:List SV} {S:SV} {M:Mem} {nx:Nat} {K:SV→Mem→Nat→(SV→SV)→Prop} (ρl:List Nat) (hp:Own P f Rs args0 S Rs') (hnd:ρl.Nodup)
 (ha:args=SV.renL (λi=>(ρl[i]?).getD nx) args0) (hM:atM M (λi=>(ρl[i]?).getD nx) ρl Rs)
 (hK:K (S.ren λi=>nx+i) (addS (λi=>nx+i) 0 Rs' (dropM ρl M)) (nx+Rs'.length) id):CallK P np f args M nx K:=
 callK_ownS (cp:=0) ρl hp (Nat.zero_le _) hnd ha hM (by
  have:renS 0 nx ρl=λi=>nx+i:=by funext i;simp[renS]
  rw[this];exact hK)
end
attribute [go_sem] SV.ren SV.renL Reg.ren gexpR dropM addS atM renS keepsL
end Go.Gx
namespace Go.Gx
open Go.RowKit
mutual
def SV.own:SV→Prop
 | .r x=>x.flat=true
 | .ptr ..=>True
 | .sl ..=>True
 | .mp ..=>True
 | .fn f a b=>SV.ownL a∧SV.ownL b
 | .agg l=>SV.ownL l
 | .tup l=>SV.ownL l
def SV.ownL:List SV→Prop
 | []=>True
 | s::l=>s.own∧SV.ownL l
end
section
variable {σ:Sig} {Z Z':Nat→Prop} {w:World}
mutual
theorem SV.rel_own:∀(s:SV) (y:Value),s.own→s.rel σ Z w y→s.rel σ Z' w y
 | .r x,y,h,hr=>RV.rel_flat h hr
 | .ptr ..,y,h,hr=>hr
 | .sl ..,y,h,hr=>hr
 | .mp ..,y,h,hr=>hr
 | .fn f a b,y,h,hr=>by
   obtain⟨vs,ws,e,h1,h2⟩:=hr
   exact⟨vs,ws,e,SV.relL_own a vs h.1 h1,SV.relL_own b ws h.2 h2⟩
 | .agg l,y,h,hr=>by
   obtain⟨vs,e,h1,h2⟩:=hr
   exact⟨vs,e,h1,SV.relL_own l vs h h2⟩
 | .tup l,y,h,hr=>by
   obtain⟨vs,e,h2⟩:=hr
   exact⟨vs,e,SV.relL_own l vs h h2⟩
theorem SV.relL_own:∀(l:List SV) (ys:List Value),SV.ownL l→SV.relL σ Z w l ys→SV.relL σ Z' w l ys
 | [],ys,_,h=>h
 | s::l,ys,h,hr=>by
   obtain⟨v,vs',e,h1,h2⟩:=hr
   exact⟨v,vs',e,SV.rel_own s v h.1 h1,SV.relL_own l vs' h.2 h2⟩
end
end
variable {P:Program}
attribute [go_sem] SV.own SV.ownL
end Go.Gx
namespace Go.Gx
open Go.RowKit Go.ChangeMaps
section
variable {P:Program} {T:Tab} {B W F:Nat→Prop} {w0:W0} {N:Cfg} {n0:Nat} {σ σ':Sig} {M M':Mem} {nx:Nat} {w w':World} {a:Act} {E E':Env}
theorem MapOf.born_inj {has:Int→Bool} {R:Int→Value→Prop} {es:List MapEntry} {ck:Nat} (h:MapOf has R es ck) {x y:MapEntry} (hx:x∈es) (hy:y∈es) (hb:x.born=y.born):x=y:=by
 obtain⟨i,hi,rfl⟩:=List.getElem_of_mem hx
 obtain⟨j,hj,rfl⟩:=List.getElem_of_mem hy
 have hp:=List.pairwise_iff_getElem.1 h.2.2.1
 rcases Nat.lt_trichotomy i j with h1 | h1 | h1
 ·exact absurd hb (hp i j hi hj h1).2
 ·subst h1;rfl
 ·exact absurd hb.symm (hp j i hj hi h1).2
theorem MapOf.key_inj {has:Int→Bool} {R:Int→Value→Prop} {es:List MapEntry} {ck:Nat} (h:MapOf has R es ck) {x y:MapEntry} (hx:x∈es) (hy:y∈es) (hb:x.key=y.key):x=y:=by
 obtain⟨i,hi,rfl⟩:=List.getElem_of_mem hx
 obtain⟨j,hj,rfl⟩:=List.getElem_of_mem hy
 have hp:=List.pairwise_iff_getElem.1 h.2.2.1
 rcases Nat.lt_trichotomy i j with h1 | h1 | h1
 ·exact absurd hb (hp i j hi hj h1).1
 ·subst h1;rfl
 ·exact absurd hb.symm (hp j i hj hi h1).1
theorem reg_map (hm:MOK B W n0 σ M F w) {q:Nat} {has:Int→Bool} {val:Int→SV} {st:Option ((Int→Nat) × Nat)} (hQ:M q=some (.map has val st)) {L:Loc} {b:Nat} (h1:σ q=some L) (h2:L.at_=some b) :
 ∃(es:Array MapEntry) (ck:Nat),w.heap[b]? =some (.map es ck)∧MapOf has (λa v=>(val a).rel σ (Zof B σ M w) w v) es.toList ck∧∀f c,st=some (f,c)→ck=c∧∀e∈es.toList,∀a,e.key=.int .i64 a→e.born=f a:=by
 obtain⟨L',e1,b',es,ck,f1,f2,f3,f4⟩:=hm.reg q _ hQ
 rw[h1] at e1;cases e1
 rw[h2] at f1;cases f1
 exact⟨es,ck,f2,f3,f4⟩
theorem set_same_w (hm:MOK B W n0 σ M F w) {ref:Nat} {R R':Reg} (hM:M ref=some R) (hR:∀L Z,σ ref=some L→RegOK σ Z w L R→RegOK σ Z w L R') :
 MOK B W n0 σ (upd M ref (some R')) F w∧Keep (Zof B σ M w) (Zof B σ (upd M ref (some R')) w) w w:=by
 have hz:∀b,Zof B σ M w b→Zof B σ (upd M ref (some R')) w b:=by
  intro b hb
  refine⟨hb.1,λr R1 L h1 h2 h3=>?_⟩
  by_cases hr:r=ref
  ·subst hr;exact hb.2 r R L hM h2 h3
  ·rw[upd_ne _ _ hr] at h1;exact hb.2 r R1 L h1 h2 h3
 have hk:Keep (Zof B σ M w) (Zof B σ (upd M ref (some R')) w) w w:=λb hb=>⟨hz b hb,rfl⟩
 refine⟨⟨hm.newB,hm.fresh,λr R1 h=>?_,λr r' R1 R2 L1 L2 x h1 h2 h3 h4 h5 h6=>?_,λr R1 L x h1 h2 h3=>?_⟩,hk⟩
 ·by_cases hr:r=ref
  ·subst hr
   rw[upd_same] at h;cases h
   obtain⟨L,e1,e2⟩:=hm.reg r R hM
   exact⟨L,e1,hR _ _ e1 (e2.mono (λ_ _ h=>h) hk (λ_ _=>rfl))⟩
  ·rw[upd_ne _ _ hr] at h
   obtain⟨L,e1,e2⟩:=hm.reg r R1 h
   exact⟨L,e1,e2.mono (λ_ _ h=>h) hk (λ_ _=>rfl)⟩
 ·have ex:∀r R1,upd M ref (some R') r=some R1→∃R2,M r=some R2:=by
   intro r R1 h
   by_cases hr:r=ref
   ·exact⟨R,by rw[hr];exact hM⟩
   ·rw[upd_ne _ _ hr] at h;exact⟨_,h⟩
  obtain⟨q1,a1⟩:=ex _ _ h1
  obtain⟨q2,a2⟩:=ex _ _ h2
  exact hm.inj r r' q1 q2 L1 L2 x a1 a2 h3 h4 h5 h6
 ·by_cases hr:r=ref
  ·subst hr;exact hm.own r R L x hM h2 h3
  ·rw[upd_ne _ _ hr] at h1;exact hm.own r R1 L x h1 h2 h3
theorem GOp_range (hT:TabOK P T) {K:Env→Mem→Nat→Prop} {d:Option Tmp} {t ty:TypeId} {pos:String} {af:Array Edge} {x:Operand} {q:Nat} {has:Int→Bool} {val:Int→SV} {st:Option ((Int→Nat) × Nat)}
 (hx:ev E x=.mp q) (hQ:M q=some (.map has val st)) (ht:(mapE T t).isSome=true) (hd:dOK N.n d)
 (h:∀f c,K (envPut E d (.ptr nx 0 1 0)) (upd (upd M q (some (.map has val (some (f,c))))) nx (some (.iter (.mp q) f c has has none))) (nx+1)) :
 GOpW P N ⟨d,.range t x,ty,pos,af,none⟩ E M nx K:=by
 intro B W w0 σ a w hs next Q' hK
 refine wpIn_of_wp ?_
 obtain⟨e,he⟩:=Option.isSome_iff_exists.1 ht
 obtain⟨k,hu,hk⟩:=mapE_spec hT he
 have hr:=ev_rel hs.env x
 rw[hx] at hr
 obtain⟨L,b,h1,h2,h3⟩:=hr
 obtain⟨es,ck,g1,g2,g3⟩:=reg_map hs.mem hQ h1 h2
 have hrun:(execOp a.eval ⟨d,.range t x,ty,pos,af,none⟩).run P w=.ok (.value (.pointer (some ⟨w.heap.size,0,none⟩))) (w.alloc (.mapIter (some b) ck #[] ck)):=by
  simp[execOp,h3,Instr.range,run_underlying hu,MapKept.run_getObj_map g1,newObj,Sem.run,Result.andThen]
 let f:Int→Nat:=λa=>((es.toList.find? λe=>match e.key with | .int .i64 n=>decide (n=a) | _=>false).map (·.born)).getD 0
 have hf:∀e∈es.toList,∀a,e.key=.int .i64 a→e.born=f a:=by
  intro e he a hka
  show e.born=_
  cases hq:es.toList.find? (λe=>match e.key with | .int .i64 n=>decide (n=a) | _=>false) with
  | none=>
    have:=List.find?_eq_none.1 hq e he
    rw[hka] at this;simp at this
  | some e'=>
    have h4:=List.find?_some hq
    have h5:=List.mem_of_find?_eq_some hq
    have h6:e'.key=.int .i64 a:=by
     cases hk':e'.key with
     | int k n=>
       rw[hk'] at h4
       cases k <;> simp at h4
       rw[h4]
     | _=>rw[hk'] at h4;simp at h4
    have h7:e=e':=g2.key_inj he h5 (by rw[hka,h6])
    have h8:f a=e'.born:=by
     show((es.toList.find? _).map (·.born)).getD 0=_
     rw[hq];rfl
    rw[h7,h8]
 obtain⟨m1,m2⟩:=set_same_w (R':=.map has val (some (f,ck))) hs.mem hQ (λL' Z hL hR=>by
  obtain⟨b',es',ck',q1,q2,q3,q4⟩:=hR
  rw[h1] at hL;cases hL
  rw[h2] at q1;cases q1
  rw[g1] at q2;cases q2
  exact⟨b,es,ck,h2,g1,q3,λf' c' hc=>by cases hc;exact⟨rfl,hf⟩⟩)
 have hold:∀b',b'<w.heap.size→(w.alloc (.mapIter (some b) ck #[] ck)).heap[b']? =w.heap[b']?:=λb' h=>heap_old w _ b' h
 have hQ':upd M q (some (.map has val (some (f,ck)))) q=some (.map has val (some (f,ck))):=upd_same ..
 obtain⟨e1,e2,e3⟩:=mem_new (w':=w.alloc (.mapIter (some b) ck #[] ck)) (L:=⟨some w.heap.size,0⟩) (R:=.iter (.mp q) f ck has has none) m1 (Nat.le_refl nx) hs.fr.size (by simp) hold (λb hb=>by cases hb;exact Nat.le_refl _)
  (λσ' Z' hs' hk=>⟨w.heap.size,some b,#[],ck,rfl,heap_new w _,Nat.le_refl _,⟨L,b,hs' _ _ h1,h2,rfl⟩,λa ha=>by simp[ha],by simp⟩)
 unfold Oper.wp
 rw[hrun]
 refine hK _ _ _ _ _ _ (h f ck) (St.put ⟨λt=>SV.rel_mono e3 e2 _ _ (SV.rel_mono (λ_ _ h=>h) m2 _ _ (hs.env t)),e1.weaken λr hr=>⟨Nat.le_of_succ_le hr,Nat.ne_of_gt hr⟩,hs.fr.step ⟨rfl,rfl,rfl,by simp,Nat.le_refl _,λb hb _=>hold b (Nat.lt_of_lt_of_le hb hs.fr.size)⟩,(hs.defers.keep m2).keep e2,hs.size,Nat.le_succ_of_le hs.low,λr hr=>(upd_ne _ _ (Nat.ne_of_lt (Nat.lt_of_lt_of_le hr hs.low))).trans (hs.pin r hr),hs.good⟩ hd ?_)
 exact⟨_,w.heap.size,upd_same ..,rfl,rfl⟩
theorem GOp_next {K:Env→Mem→Nat→Prop} {d:Option Tmp} {ty:TypeId} {pos:String} {af:Array Edge} {x:Operand} {q ref kk:Nat} {f:Int→Nat} {c:Nat} {all left has:Int→Bool} {la:Option Int} {val:Int→SV}
 (hx:ev E x=.ptr ref 0 kk 0) (hM:M ref=some (.iter (.mp q) f c all left la)) (hQ:M q=some (.map has val (some (f,c)))) (hall:∀a,has a=all a) (hd:dOK N.n d)
 (h1:∀a,has a=true→left a=true→K (envPut E d (.tup [.b true,.i a,val a])) (upd M ref (some (.iter (.mp q) f c all (λx=>left x&&!decide (x=a)) (some a)))) nx)
 (h0:(∀a,has a=true→left a=false)→K (envPut E d (.tup [.b false])) M nx) :
 GOpW P N ⟨d,.next x false,ty,pos,af,none⟩ E M nx K:=by
 intro B W w0 σ a w hs nxt Q' hK
 refine wpIn_of_wp ?_
 have hr:=ev_rel hs.env x
 rw[hx] at hr
 obtain⟨L,b,r1,r2,r3⟩:=hr
 obtain⟨L',e1,b',mo,seen,sp,g1,g2,g3,g4,g5,g6⟩:=hs.mem.reg ref _ hM
 rw[r1] at e1;cases e1
 rw[r2] at g1;cases g1
 obtain⟨Lq,bq,k1,k2,k3⟩:=g4
 cases k3
 obtain⟨es,ck,q1,q2,q3⟩:=reg_map hs.mem hQ k1 k2
 obtain⟨rfl,q4⟩:=q3 f c rfl
 have hne:bq≠b:=λe=>by
  subst e;rw[q1] at g2;cases g2
 have r3':a.eval x=.pointer (some ⟨b,0,none⟩):=by rw[r3];simp
 unfold Oper.wp
 rcases run_next_at (P:=P) w ty b bq ck sp seen es ck g2 q1 q2.2.2.2 g3 with ⟨n1,n2⟩ | ⟨en,n1,w1,n2,n3⟩
 ·have hrun:(execOp a.eval ⟨d,.next x false,ty,pos,af,none⟩).run P w=.ok (.value (.tuple #[.bool false])) w:=by
   simp[execOp,r3',n2,Result.andThen]
  rw[hrun]
  refine hK _ _ _ _ _ _ (h0 λk hk=>?_) (St.put hs hd ⟨[.bool false],rfl,_,_,rfl,rfl,rfl⟩)
  cases hl:left k with
  | false=>rfl
  | true=>
    obtain⟨e',m1,m2⟩:=q2.2.1 k hk
    have m3:=(g5 k (by rw[← hall];exact hk)).1 hl
    have:e'∈(leftOf es seen).toList:=by
     simp only [leftOf,Array.toList_filter,List.mem_filter]
     refine⟨m1,?_⟩
     rw[q4 e' m1 k m2]
     simpa using m3
    have hz:(leftOf es seen).toList=[]:=List.eq_nil_of_length_eq_zero (by simpa using n1)
    rw[hz] at this;simp at this
 ·have hrun:(execOp a.eval ⟨d,.next x false,ty,pos,af,none⟩).run P w=.ok (.value (.tuple #[.bool true,en.key,en.val])) (setBlock w1 b (.mapIter (some bq) ck (seen.push en.born) ck)):=by
   simp[execOp,r3',n3,Result.andThen]
  rw[hrun]
  simp only [leftOf,Array.toList_filter,List.mem_filter] at n1
  obtain⟨n4,n5⟩:=n1
  obtain⟨k,p1,p2,p3,p4⟩:=q2.1 en n4
  have hb:=q4 en n4 k p1
  have hlk:left k=true:=(g5 k (by rw[← hall];exact p2)).2 (by rw[← hb];simpa using n5)
  have hw1:w1.heap=w.heap∧w1.os=w.os∧w1.tape=w.tape∧w1.output=w.output∧w.drawn≤w1.drawn:=by rcases n2 with rfl | rfl <;> exact⟨rfl,rfl,rfl,rfl,by first | exact Nat.le_refl _ | exact Nat.le_succ _⟩
  have hbw:w1.heap[b]? =some (.mapIter (some bq) ck seen sp):=by rw[hw1.1];exact g2
  obtain⟨z1,z2,z3⟩:=heap_setB (o':=.mapIter (some bq) ck (seen.push en.born) ck) hbw
  have hsame:∀x,x≠b→(setBlock w1 b (.mapIter (some bq) ck (seen.push en.born) ck)).heap[x]? =w.heap[x]?:=λx hx=>by rw[z2 x hx,hw1.1]
  have hsz:(setBlock w1 b (.mapIter (some bq) ck (seen.push en.born) ck)).heap.size=w.heap.size:=by rw[z3,hw1.1]
  obtain⟨m1,m2⟩:=mem_set (w':=setBlock w1 b (.mapIter (some bq) ck (seen.push en.born) ck)) (R:=.iter (.mp q) f ck all (λx=>left x&&!decide (x=k)) (some k)) hs.mem hM r1 r2 hsz hsame
   (λZ' hk=>⟨b,some bq,seen.push en.born,ck,r2,z1,Nat.le_refl _,⟨Lq,bq,k1,k2,rfl⟩,λy hy=>by
     have h5:=g5 y hy
     simp only [Array.toList_push,List.mem_append,List.mem_singleton,not_or,Bool.and_eq_true,Bool.not_eq_true',decide_eq_false_iff_not]
     rw[h5]
     constructor
     ·rintro⟨t1,t2⟩
      refine⟨t1,λt3=>t2 ?_⟩
      obtain⟨ey,u1,u2⟩:=q2.2.1 y (by rw[hall];exact hy)
      have:ey=en:=q2.born_inj u1 n4 (by rw[q4 ey u1 y u2,t3])
      subst this
      rw[p1] at u2;cases u2;rfl
     ·rintro⟨t1,t2⟩
      exact⟨t1,λt3=>t2 (by rw[t3,hb])⟩,λy hy=>by
     cases hy
     exact⟨rfl,by simp[hb]⟩⟩)
  have hfr:FrS W w0.heap.size w (setBlock w1 b (.mapIter (some bq) ck (seen.push en.born) ck)):=by
   refine⟨hw1.2.1,hw1.2.2.1,hw1.2.2.2.1,by rw[hsz];exact Nat.le_refl _,hw1.2.2.2.2,λx hx hw=>hsame x λe=>?_⟩
   subst e
   rcases hs.mem.own ref _ L x hM r1 r2 with h' | h'
   ·exact hw h'
   ·omega
  refine hK _ _ _ _ _ _ (h1 k p2 hlk) (St.put (hs.go m1 hfr m2 (λt z hz=>SV.rel_mono (λ_ _ h=>h) m2 _ _ hz) hs.low λ_ _=>rfl) hd ?_)
  refine⟨[.bool true,en.key,en.val],rfl,_,_,rfl,rfl,_,_,rfl,p1,_,_,rfl,?_,rfl⟩
  exact SV.rel_mono (λ_ _ h=>h) m2 _ _ p4
theorem GOp_entry {K:Env→Mem→Nat→Prop} {d:Option Tmp} {ty:TypeId} {pos:String} {af:Array Edge} {x:Operand} {q ref kk:Nat} {f:Int→Nat} {c:Nat} {all left has:Int→Bool} {k:Int} {val:Int→SV}
 (hx:ev E x=.ptr ref 0 kk 0) (hM:M ref=some (.iter (.mp q) f c all left (some k))) (hQ:M q=some (.map has val (some (f,c)))) (hk:has k=true) (hd:dOK N.n d)
 (h:K (envPut E d (.tup [.i k,val k])) M nx):GOpW P N ⟨d,.entry x,ty,pos,af,none⟩ E M nx K:=by
 intro B W w0 σ a w hs nxt Q' hK
 refine wpIn_of_wp ?_
 have hr:=ev_rel hs.env x
 rw[hx] at hr
 obtain⟨L,b,r1,r2,r3⟩:=hr
 obtain⟨L',e1,b',mo,seen,sp,g1,g2,g3,g4,g5,g6⟩:=hs.mem.reg ref _ hM
 rw[r1] at e1;cases e1
 rw[r2] at g1;cases g1
 obtain⟨Lq,bq,k1,k2,k3⟩:=g4
 cases k3
 obtain⟨es,ck,q1,q2,q3⟩:=reg_map hs.mem hQ k1 k2
 obtain⟨rfl,q4⟩:=q3 f c rfl
 obtain⟨rfl,g7⟩:=g6 k rfl
 have r3':a.eval x=.pointer (some ⟨b,0,none⟩):=by rw[r3];simp
 obtain⟨e',m1,m2⟩:=q2.2.1 k hk
 obtain⟨k',p1,p2,p3,p4⟩:=q2.1 e' m1
 rw[m2] at p1;cases p1
 have hfind:es.find? (·.born==f k)=some e':=by
  rw[← Array.find?_toList]
  have:∃e,es.toList.find? (·.born==f k)=some e:=by
   cases hq:es.toList.find? (·.born==f k) with
   | none=>
     have:=List.find?_eq_none.1 hq e' m1
     rw[q4 e' m1 k m2] at this;simp at this
   | some e=>exact⟨e,rfl⟩
  obtain⟨e,he⟩:=this
  rw[he]
  have h4:=List.find?_some he
  have h5:=List.mem_of_find?_eq_some he
  rw[q2.born_inj h5 m1 (by rw[q4 e' m1 k m2];simpa using h4)]
 have hrun:(execOp a.eval ⟨d,.entry x,ty,pos,af,none⟩).run P w=.ok (.value (.tuple #[.int .i64 k,e'.val])) w:=by
  simp[execOp,r3',Instr.entry,getObj,Sem.run,g2,g7,q1,hfind,m2,Result.andThen]
 unfold Oper.wp
 rw[hrun]
 exact hK _ _ _ _ _ _ h (St.put hs hd ⟨[.int .i64 k,e'.val],rfl,_,_,rfl,rfl,_,_,rfl,p4,rfl⟩)
end
end Go.Gx
namespace Go.Gx
open Go.RowKit
inductive TT where
 | done
 | bad
 | nil
 | alt (i:Nat) (sub more:TT)
 | take (i:Nat) (sub:TT)
section
variable (P:Program) (T:Tab) (N:Cfg)
def TQ (K:Env→Mem→Nat→Prop):GQ:=λe E M nx=>match e with | .normal=>K E M nx | _=>True
def GTk (g:GR) (d:Option Tmp) (K:Env→Mem→Nat→Prop) (E:Env) (M:Mem) (nx:Nat):Prop:=
 match g with
 | .pure ob s=>ob∧dOK N.n d∧K (envPut E d s) M nx
 | _=>False
end
section
variable {P:Program} {T:Tab} {N:Cfg} {k:List It} {Q:GQ} {E:Env} {M:Mem} {nx:Nat}
theorem take_field (hT:TabOK P T) {t:TypeId} {f:Nat} {s s':SV} {ob:Prop} (hg:gfield T t s f=.pure ob s') (hob:ob) {σ:Sig} {Z:Nat→Prop} {w0:World} {x:Value} (hx:s.rel σ Z w0 x) :
 ∃y,(∀w,(Instr.fieldAt t x f).run P w=.ok y w)∧s'.rel σ Z w0 y:=by
 unfold gfield at hg
 split at hg
 ·rename_i sz by_ ze fs hti
  obtain⟨fa,hu,hsz,hget⟩:=und_struct (hT.ti t _ hti) rfl
  split at hg
  ·rename_i o sz' g hf
   obtain⟨fd,h1,rfl,h3,_⟩:=hget f _ _ _ hf
   have key:∀(b q:Nat),sz'≠0→∀w,(Instr.fieldAt t (.pointer (some ⟨b,q,none⟩)) f).run P w=.ok (.pointer (some ⟨b,q+fd.offset,none⟩)) w:=by
    intro b q h0 w
    simp[Instr.fieldAt,run_underlying hu,h1,Instr.sureAddr,fieldPlace,run_sizeIs h3,h0,add_none]
   split at hg
   ·rename_i ref row k fld
    cases hg
    obtain⟨L,b,g1,g2,rfl⟩:=hx
    exact⟨_,key b _ hob,L,b,g1,g2,by congr 3;omega⟩
   ·rename_i k n get row fld
    cases hg
    obtain⟨b,q,rfl,hz,hc⟩:=hx
    exact⟨_,key b _ hob,b,q,by congr 3;omega,hz,hc⟩
   ·cases hg
  ·cases hg
 ·cases hg
end
end Go.Gx
namespace Go.Gx
open Go.RowKit
def eqChkA (P:Program) (t:TypeId) (cs:List CK):Bool:=
 match P.underlying t with
 | some (.array n e)=>decide (cs.length=n)&&(cs.all λc=>ekind P e c)&&(P.info? e).isSome&&decide (P.cellsOf e=1)&&!P.eqGuardType P.depth t
 | _=>false
theorem hasL_get:∀{cs:List CK} {xs:List Value},hasL cs xs→xs.length=cs.length
 | [],xs,h=>by simp only [hasL] at h;subst h;rfl
 | c::cs,xs,h=>by
   obtain⟨x,xs',rfl,_,h2⟩:=h
   simp[hasL_get h2]
theorem eqItems_run {P:Program} (w:World) (d:Nat) (e:TypeId) (xs ys:List Value):∀(cs:List CK) (o:Nat),(∀c∈cs,ekind P e c=true)→hasL cs (xs.drop o)→hasL cs (ys.drop o)→
 (Op.eqItems (d+1) e 1 xs.toArray ys.toArray (List.range' o cs.length)).run P w=.ok (eqVL (xs.drop o) (ys.drop o)) w
 | [],o,_,hx,hy=>by
   simp only [hasL] at hx hy
   rw[hx,hy];rfl
 | c::cs,o,h,hx,hy=>by
   have h3:=h c (by simp)
   obtain⟨x,xs',ex,hx1,hx2⟩:=hx
   obtain⟨y,ys',ey,hy1,hy2⟩:=hy
   have ex':xs[o]? =some x:=by rw[← List.head?_drop,ex];rfl
   have ey':ys[o]? =some y:=by rw[← List.head?_drop,ey];rfl
   have dx:xs.drop (o+1)=xs':=by rw[← List.drop_drop,ex];rfl
   have dy:ys.drop (o+1)=ys':=by rw[← List.drop_drop,ey];rfl
   have ih:=eqItems_run w d e xs ys cs (o+1) (λc hc=>h c (by simp[hc])) (by rw[dx];exact hx2) (by rw[dy];exact hy2)
   have hag:(isAgg e).run P w=.ok false w:=by
    unfold isAgg
    rw[Sem.run_bind]
    cases c with
    | int k=>rw[run_underlying (ekind_int h3)];rfl
    | bool=>rw[run_underlying (ekind_bool h3)];rfl
   have px:(part e xs.toArray (o*1)).run P w=.ok x w:=by
    unfold part
    rw[Sem.run_bind,hag]
    simp[ex']
   have py:(part e ys.toArray (o*1)).run P w=.ok y w:=by
    unfold part
    rw[Sem.run_bind,hag]
    simp[ey']
   have he:(Op.equalIn (d+1) e x y).run P w=.ok (eqV x y) w:=by
    cases c with
    | int k=>
      obtain⟨n,rfl⟩:=hx1
      obtain⟨m,rfl⟩:=hy1
      rw[run_equalIn_int w d e k _ n m (ekind_int h3)];rfl
    | bool=>
      obtain⟨n,rfl⟩:=hx1
      obtain⟨m,rfl⟩:=hy1
      rw[run_equalIn_bool w d e n m (ekind_bool h3)];rfl
   rw[List.length_cons,List.range'_succ]
   unfold Op.eqItems
   rw[Sem.run_bind,px,Result.andThen_ok,Sem.run_bind,py,Result.andThen_ok,Sem.run_bind,he,Result.andThen_ok]
   rw[ex,ey]
   simp only [eqVL]
   cases hq:eqV x y
   ·simp
   ·simp only [Bool.not_true,Bool.false_eq_true,if_false,Bool.true_and]
    rw[ih,dx,dy]
theorem eq_of_chkA {P:Program} {t:TypeId} {cs:List CK} (h:eqChkA P t cs=true) (xs ys:List Value) (w:World) (hx:hasL cs xs) (hy:hasL cs ys) :
 (Op.equal t (.agg xs.toArray) (.agg ys.toArray)).run P w=.ok (eqVL xs ys) w∧(∀(op:BinOp) (x y:Operand),(eqGuard op t x y (.agg xs.toArray) (.agg ys.toArray)).run P w=.ok () w):=by
 unfold eqChkA at h
 split at h
 ·rename_i n e hu
  simp only [Bool.and_eq_true,Bool.not_eq_true',decide_eq_true_eq,List.all_eq_true] at h
  obtain⟨⟨⟨⟨h1,h2⟩,h3⟩,h4⟩,h5⟩:=h
  refine⟨?_,λop x y=>run_eqGuard_agg w op t x y _ _ h5⟩
  obtain⟨i,hi⟩:=Option.isSome_iff_exists.1 h3
  have:=run_equalIn_array w 9999 xs.toArray ys.toArray hu hi
  rw[h4,List.range_eq_range',← h1,show(9999:Nat)=9998+1 from rfl,eqItems_run w 9998 e xs ys cs 0 h2 (by simpa using hx) (by simpa using hy)] at this
  simpa [Op.equal,Op.maxDepth] using this
 ·cases h
end Go.Gx
namespace Go.Gx
open Go.RowKit
section
variable {P:Program} {T:Tab} {N:Cfg} {k:List It} {Q:GQ} {E:Env} {M M':Mem} {nx:Nat}
theorem gloopV {α:Type} {body:Code} {Q:Exit→Env→Mem→Nat→Prop} (S:α→List (Nat × SV)) (Ms:α→Mem) (n:α→Nat) (I:α→Prop) (μ:α→Nat) (x0:α)
 (h0:I x0) (hE:Fit N E M nx (S x0) (Ms x0) (n x0))
 (round:∀x J,I x→GW P N body (updL J (S x)) (Ms x) (n x) (gseq (λE' M' nx'=>∃x',I x'∧μ x'<μ x∧Fit N E' M' nx' (S x') (Ms x') (n x')) Q)) :
 GW P N (.loop body) E M nx Q:=by
 intro r hr B W w0 σ a w hs
 have conv:∀{E M nx σ a w} (x:α),Fit N E M nx (S x) (Ms x) (n x)→St B W w0 N σ E M nx a w→∃σ' J,St B W w0 N σ' (updL J (S x)) (Ms x) (n x) a w:=by
  intro E M nx σ a w x h1 h3
  obtain⟨J,v⟩:=h1
  obtain⟨σ1,h4⟩:=v B W w0 σ a w h3
  exact⟨_,_,h4⟩
 refine wpIn_loop_ghost (λk a w=>∃x,μ x=k∧I x∧∃σ' J,St B W w0 N σ' (updL J (S x)) (Ms x) (n x) a w) (μ x0) ⟨x0,rfl,h0,conv x0 hE hs⟩ λk a w h=>?_
 obtain⟨x,rfl,hi,σ',J,hst⟩:=h
 refine Code.wpIn_mono (λe a' w' h'=>?_) (round x J hi r (hr.imp (λh=>h) λh=>by simpa [ndC] using h) B W w0 σ' a w hst)
 obtain⟨E',M',nx',σ'',q,hs'⟩:=h'
 cases e with
 | normal=>
   obtain⟨x',i1,i2,i3⟩:=q
   exact⟨μ x',i2,x',rfl,i1,conv x' i3 hs'⟩
 | _=>exact⟨E',M',nx',σ'',q,hs'⟩
def LV (P:Program) (T:Tab) (N:Cfg) {α:Type} (S:α→List (Nat × SV)) (Ms:α→Mem) (n:α→Nat) (I:α→Prop) (μ:α→Nat) (x:α) (k:List It) (Q:GQ):GQ:=
 gseq (λE' M' nx'=>∃x',I x'∧μ x'<μ x∧Fit N E' M' nx' (S x') (Ms x') (n x')) (GK P T N k Q)
section
variable {α:Type} {S:α→List (Nat × SV)} {Ms:α→Mem} {n:α→Nat} {I:α→Prop} {μ:α→Nat} {x:α}
@[go_sem]theorem LV_normal:LV P T N S Ms n I μ x k Q .normal E M nx=∃x',I x'∧μ x'<μ x∧Fit N E M nx (S x') (Ms x') (n x'):=(rfl)
@[go_sem]theorem LV_exit (i:Nat):LV P T N S Ms n I μ x k Q (.exit i) E M nx=GK P T N k Q (.exit i) E M nx:=(rfl)
end
theorem GLoop_v (hT:TabOK P T) {α:Type} {c:Code} (S:α→List (Nat × SV)) (Ms:α→Mem) (n:α→Nat) (I:α→Prop) (μ:α→Nat) (x0:α)
 (h0:I x0) (hE:Fit N E M nx (S x0) (Ms x0) (n x0))
 (round:∀x J,I x→GC P T N c [] (LV P T N S Ms n I μ x k Q) (updL J (S x)) (Ms x) (n x)):GLoop P T N c k Q E M nx:=
 gloopV S Ms n I μ x0 h0 hE λx J hi=>gexec_sound hT c _ _ _ _ (round x J hi)
def famM (M:Mem) (b n:Nat) (R:Nat→Option Reg):Mem:=λr=>if b≤r∧r<b+n then R (r - b) else M r
@[go_sem]theorem famM_app (M:Mem) (b n:Nat) (R:Nat→Option Reg) (r:Nat):famM M b n R r=if b≤r∧r<b+n then R (r - b) else M r:=rfl
theorem Reg.sub_none (R:Option Reg):Reg.sub R none:=by cases R <;> simp[Reg.sub]
theorem fam_sub {l:List (Option Reg)} {b cnt n:Nat} {R:Nat→Option Reg} (hl:l.length=b) (h1:regsS 0 (trimM n M) l) (h2:∀i,i<cnt→Reg.sub (trimM n M (b+i)) (R i)) (r:Nat) :
 Reg.sub (trimM n M r) (famM (memL l) b cnt R r):=by
 unfold famM
 split
 ·rename_i h
  have:=h2 (r - b) (by omega)
  rwa [show b+(r - b)=r from by omega] at this
 ·by_cases hr:r<b
  ·have:=regsS_get l 0 _ h1 r (by omega)
   simpa [memL] using this
  ·simp[memL,List.getElem?_eq_none (by omega:l.length≤r),Reg.sub_none]
theorem Fit.of_fam {S:List (Nat × SV)} {l:List (Option Reg)} {b cnt n:Nat} {R:Nat→Option Reg} (hn:N.np≤n) (h:slotsS n E S) (hl:l.length=b) (h1:regsS 0 (trimM n M) l)
 (h2:∀i,i<cnt→Reg.sub (trimM n M (b+i)) (R i)):Fit N E M nx S (famM (memL l) b cnt R) n:=
 Fit.of_slotsS hn h (fam_sub hl h1 h2)
abbrev famL (n:Nat) (f:Nat→Reg):List Reg:=(List.range n).map f
theorem memR_fam (l:List Reg) (n:Nat) (f:Nat→Reg) (r:Nat):memR (l++famL n f) r=famM (memR l) l.length n (λi=>some (f i)) r:=by
 rw[memR_get]
 unfold famM
 by_cases h1:r<l.length
 ·rw[if_neg (by omega),List.getElem?_append_left h1,memR_get]
 ·by_cases h2:r<l.length+n
  ·rw[if_pos ⟨by omega,h2⟩,List.getElem?_append_right (by omega)]
   simp[famL,List.getElem?_range (show r - l.length<n by omega)]
  ·rw[if_neg (by omega),memR_get,List.getElem?_eq_none (by simp[famL];omega),List.getElem?_eq_none (by omega)]
theorem memR_fam' (l:List Reg) (n:Nat) (f:Nat→Reg):memR (l++famL n f)=famM (memR l) l.length n (λi=>some (f i)):=funext (memR_fam l n f)
theorem gexpR_append {ρ:Nat→Nat}:∀{l l':List Nat} {Rs Rs':List Reg},gexpR M ρ l Rs→gexpR M ρ l' Rs'→gexpR M ρ (l++l') (Rs++Rs')
 | [],l',[],Rs',_,h=>h
 | [],_,_::_,_,h,_=>h.elim
 | _::_,_,[],_,h,_=>h.elim
 | q::l,l',R::Rs,Rs',h,h'=>⟨h.1,gexpR_append h.2 h'⟩
theorem gexpR_map {ρ:Nat→Nat} {p:Nat→Nat} {f:Nat→Reg}:∀(l:List Nat),(∀i∈l,Reg.sub (M (p i)) (some ((f i).ren ρ)))→gexpR M ρ (l.map p) (l.map f)
 | [],_=>trivial
 | i::l,h=>⟨h i (by simp),gexpR_map l λj hj=>h j (by simp[hj])⟩
theorem gexpR_fam {ρ:Nat→Nat} {l:List Nat} {Rs:List Reg} {n:Nat} {p:Nat→Nat} {f:Nat→Reg} (h:gexpR M ρ l Rs) (h':∀i,i<n→Reg.sub (M (p i)) (some ((f i).ren ρ))):gexpR M ρ (l++(List.range n).map p) (Rs++famL n f):=
 gexpR_append h (gexpR_map _ λi hi=>h' i (List.mem_range.1 hi))
theorem nodup_fam {l:List Nat} {n:Nat} {p:Nat→Nat} (h:l.Nodup) (hp:∀i j,i<n→j<n→p i=p j→i=j) (hl:∀x∈l,∀i,i<n→p i≠x):(l++(List.range n).map p).Nodup:=by
 rw[List.nodup_append]
 refine⟨h,?_,λa ha b hb=>?_⟩
 ·unfold List.Nodup
  rw[List.pairwise_map]
  refine List.Pairwise.imp_of_mem (fun {i j} hi hj hij=>?_) (List.pairwise_lt_range (n:=n))
  intro e
  have:=hp i j (List.mem_range.1 hi) (List.mem_range.1 hj) e
  omega
 ·obtain⟨i,hi,rfl⟩:=List.mem_map.1 hb
  exact(hl a ha i (List.mem_range.1 hi)).symm
theorem getD_fam {l:List Nat} {n:Nat} {p:Nat→Nat} {D:Nat} (r:Nat):((l++(List.range n).map p)[r]?).getD D=if r<l.length then (l[r]?).getD D else if r<l.length+n then p (r - l.length) else D:=by
 by_cases h1:r<l.length
 ·rw[if_pos h1,List.getElem?_append_left h1]
 ·rw[if_neg h1,List.getElem?_append_right (by omega)]
  by_cases h2:r<l.length+n
  ·rw[if_pos h2]
   simp[List.getElem?_range (show r - l.length<n by omega)]
  ·rw[if_neg h2,List.getElem?_eq_none (by simp;omega)];rfl
end
end Go.Gx
namespace Go.Gx
open Go.RowKit
mutual
def SV.mv (p q:Nat):SV→SV
 | .r x=>.r x
 | .ptr z row k fld=>if z=p then .ptr q row k fld else if z=q then .r .any else .ptr z row k fld
 | .sl z k lo n c=>if z=p then .sl q k lo n c else if z=q then .r .any else .sl z k lo n c
 | .mp z=>if z=p then .mp q else if z=q then .r .any else .mp z
 | .fn f fi ca=>.fn f (SV.mvL p q fi) (SV.mvL p q ca)
 | .agg l=>.agg (SV.mvL p q l)
 | .tup l=>.tup (SV.mvL p q l)
def SV.mvL (p q:Nat):List SV→List SV
 | []=>[]
 | s::l=>s.mv p q::SV.mvL p q l
end
attribute [go_sem] SV.mv SV.mvL
section
variable {σ σ':Sig} {Z Z':Nat→Prop} {w:World} {p q:Nat}
mutual
theorem SV.rel_mv (hp:σ' q=σ p) (hs:∀r,r≠p→r≠q→σ' r=σ r) (hz:∀b,Z b→Z' b):∀(s:SV) (y:Value),s.rel σ Z w y→(s.mv p q).rel σ' Z' w y
 | .r x,y,h=>by
   unfold SV.mv
   exact RV.rel_mono (λb hb=>⟨hz b hb,rfl⟩) x y h
 | .ptr z row k fld,y,h=>by
   unfold SV.mv
   obtain⟨L,b,h1,h2,h3⟩:=h
   split
   ·rename_i e;subst e;exact⟨L,b,hp.trans h1,h2,h3⟩
   ·split
    ·trivial
    ·rename_i e1 e2;exact⟨L,b,(hs z e1 e2).trans h1,h2,h3⟩
 | .sl z k lo n c,y,h=>by
   unfold SV.mv
   obtain⟨L,A,h1,h2⟩:=h
   split
   ·rename_i e;subst e;exact⟨L,A,hp.trans h1,h2⟩
   ·split
    ·trivial
    ·rename_i e1 e2;exact⟨L,A,(hs z e1 e2).trans h1,h2⟩
 | .mp z,y,h=>by
   unfold SV.mv
   obtain⟨L,b,h1,h2,h3⟩:=h
   split
   ·rename_i e;subst e;exact⟨L,b,hp.trans h1,h2,h3⟩
   ·split
    ·trivial
    ·rename_i e1 e2;exact⟨L,b,(hs z e1 e2).trans h1,h2,h3⟩
 | .fn f fi ca,y,h=>by
   obtain⟨vs,ws,e,h1,h2⟩:=h
   exact⟨vs,ws,e,SV.relL_mv hp hs hz _ _ h1,SV.relL_mv hp hs hz _ _ h2⟩
 | .agg l,y,h=>by
   obtain⟨vs,e,h1,h2⟩:=h
   exact⟨vs,e,h1,SV.relL_mv hp hs hz _ _ h2⟩
 | .tup l,y,h=>by
   obtain⟨vs,e,h2⟩:=h
   exact⟨vs,e,SV.relL_mv hp hs hz _ _ h2⟩
theorem SV.relL_mv (hp:σ' q=σ p) (hs:∀r,r≠p→r≠q→σ' r=σ r) (hz:∀b,Z b→Z' b):∀(l:List SV) (ys:List Value),SV.relL σ Z w l ys→SV.relL σ' Z' w (SV.mvL p q l) ys
 | [],ys,h=>h
 | s::l,ys,h=>by
   obtain⟨v,vs',e,h1,h2⟩:=h
   exact⟨v,vs',e,SV.rel_mv hp hs hz s v h1,SV.relL_mv hp hs hz l vs' h2⟩
end
end
end Go.Gx
namespace Go.Gx
open Go.RowKit
def takesX (o:Oper):Bool:=o.guard.isNone&&match o.op with | .fieldAddr .. | .move _ | .assign _ | .nilCheck _=>true | _=>false
def gtakeX (T:Tab) (E:Env):Op→GR
 | .fieldAddr t x f=>gfield T t (ev E x) f
 | .move x | .assign x=>.pure True (ev E x)
 | .nilCheck x=>gnilop (ev E x)
 | _=>.bad
def TT.makeX (ops:Array Oper):Nat→Array Bool→TT
 | 0,l=>if (Region.ready .any ops l).isEmpty then .done else .bad
 | n+1,l=>
   let r:=Region.ready .any ops l
   if r.isEmpty then .done else
   match r.find? λi=>((ops[i]?).map takesX).getD false&&Region.free .any ops l i with
   | some i=>.take i (TT.makeX ops n (l.setIfInBounds i true))
   | none=>r.foldr (λi t=>.alt i (TT.makeX ops n (l.setIfInBounds i true)) t) .nil
section
variable (P:Program) (T:Tab) (N:Cfg)
def TQX (K:Env→Mem→Nat→Prop):GQ:=λe E M nx=>match e with | .normal=>K E M nx | _=>True
def GTkX (g:GR) (d:Option Tmp) (K:Env→Mem→Nat→Prop) (E:Env) (M:Mem) (nx:Nat):Prop:=
 match g with
 | .pure ob s=>ob∧dOK N.n d∧K (envPut E d s) M nx
 | _=>False
def GUX (all:Array Oper):TT→List It→GQ→Env→Mem→Nat→Prop
 | .done,k,Q,E,M,nx=>GK P T N k Q .normal E M nx
 | .bad,_,_,_,_,_=>False
 | .nil,_,_,_,_,_=>True
 | .alt i sub more,k,Q,E,M,nx=>(match all[i]? with | some o=>GO P T N all [o] [] (TQX (GUX all sub k Q)) E M nx | none=>False)∧GUX all more k Q E M nx
 | .take i sub,k,Q,E,M,nx=>match all[i]? with | some o=>GTkX N (gtakeX T E o.op) o.dst (GUX all sub k Q) E M nx | none=>False
def GUoX (o:Option Oper) (all:Array Oper) (sub:TT) (k:List It) (Q:GQ) (E:Env) (M:Mem) (nx:Nat):Prop:=
 match o with | some o=>GO P T N all [o] [] (TQX (GUX P T N all sub k Q)) E M nx | none=>False
def GUtX (o:Option Oper) (all:Array Oper) (sub:TT) (k:List It) (Q:GQ) (E:Env) (M:Mem) (nx:Nat):Prop:=
 match o with | some o=>GTkX N (gtakeX T E o.op) o.dst (GUX P T N all sub k Q) E M nx | none=>False
end
section
variable {P:Program} {T:Tab} {N:Cfg} {k:List It} {Q:GQ} {E:Env} {M:Mem} {nx:Nat}
@[go_sem]theorem TQX_normal (K:Env→Mem→Nat→Prop):TQX K .normal E M nx=K E M nx:=(rfl)
@[go_sem]theorem GUX_done (all:Array Oper):GUX P T N all .done k Q E M nx=GK P T N k Q .normal E M nx:=(rfl)
@[go_sem]theorem GUX_nil (all:Array Oper):GUX P T N all .nil k Q E M nx=True:=(rfl)
@[go_sem]theorem GUX_alt (all:Array Oper) (i:Nat) (s m:TT):GUX P T N all (.alt i s m) k Q E M nx=(GUoX P T N all[i]? all s k Q E M nx∧GUX P T N all m k Q E M nx):=(rfl)
@[go_sem]theorem GUX_take (all:Array Oper) (i:Nat) (s:TT):GUX P T N all (.take i s) k Q E M nx=GUtX P T N all[i]? all s k Q E M nx:=(rfl)
@[go_sem]theorem GUoX_some (all:Array Oper) (o:Oper) (s:TT):GUoX P T N (some o) all s k Q E M nx=GO P T N all [o] [] (TQX (GUX P T N all s k Q)) E M nx:=(rfl)
@[go_sem]theorem GUtX_some (all:Array Oper) (d:Option Tmp) (op:Op) (ty:TypeId) (pos:String) (af:Array Edge) (g:Option (Nat × Bool)) (s:TT) :
   GUtX P T N (some ⟨d,op,ty,pos,af,g⟩) all s k Q E M nx=GTkX N (gtakeX T E op) d (GUX P T N all s k Q) E M nx:=(rfl)
@[go_sem]theorem GTkX_pure (ob:Prop) (s:SV) (d:Option Tmp) (K:Env→Mem→Nat→Prop):GTkX N (.pure ob s) d K E M nx=(ob∧dOK N.n d∧K (envPut E d s) M nx):=(rfl)
@[go_sem]theorem gtakeX_fieldAddr (t:TypeId) (x:Operand) (f:Nat):gtakeX T E (.fieldAddr t x f)=gfield T t (ev E x) f:=(rfl)
@[go_sem]theorem gtakeX_move (x:Operand):gtakeX T E (.move x)=.pure True (ev E x):=(rfl)
theorem guX_alts {all:Array Oper} {f:Nat→TT}:∀(l:List Nat),GUX P T N all (l.foldr (λi t=>.alt i (f i) t) .nil) k Q E M nx→
 ∀i∈l,∃o,all[i]? =some o∧gops P T N all [o] E M nx (λE M nx=>GUX P T N all (f i) k Q E M nx)
 | [],_,i,hi=>by simp at hi
 | j::l,h,i,hi=>by
   simp only [List.foldr_cons,GUX] at h
   rcases List.mem_cons.1 hi with rfl | hi
   ·have h1:=h.1
    cases ho:all[i]? with
    | none=>rw[ho] at h1;exact h1.elim
    | some o=>rw[ho] at h1;exact⟨o,rfl,h1⟩
   ·exact guX_alts l h.2 i hi
theorem guX_any (hT:TabOK P T) {B W:Nat→Prop} {w0:W0} {all:Array Oper} (hsel:Region.noSelect all=true) {R:Exit→Act→World→Prop}
 (hK:∀E M nx σ a w,GK P T N k Q .normal E M nx→St B W w0 N σ E M nx a w→R .normal a w) (hR:∀c a w,¬R (.panic c) a w):∀(fuel:Nat) (listed:Array Bool) (E:Env) (M:Mem) (nx:Nat) (σ:Sig) (a:Act) (w:World),
 St B W w0 N σ E M nx a w→GUX P T N all (TT.makeX all fuel listed) k Q E M nx→wpAnyIn Fence.wide 0 P .any all R fuel listed a w:=by
 intro fuel
 induction fuel with
 | zero=>
   intro listed E M nx σ a w h hg
   simp only [TT.makeX] at hg
   split at hg
   ·rename_i hr
    exact⟨List.isEmpty_iff.1 hr,hK _ _ _ _ _ _ hg h⟩
   ·exact hg.elim
 | succ fuel ih=>
   intro listed E M nx σ a w h hg
   simp only [TT.makeX] at hg
   split at hg
   ·rename_i hr
    have hr':=List.isEmpty_iff.1 hr
    refine⟨λ_=>hK _ _ _ _ _ _ hg h,λi hi=>?_⟩
    rw[hr'] at hi;simp at hi
   ·rename_i hr
    split at hg
    ·rename_i i hi
     have hp:=List.find?_some hi
     have hmem:=List.mem_of_find?_eq_some hi
     simp only [Bool.and_eq_true] at hp
     obtain⟨hp1,hp2⟩:=hp
     simp only [GUX] at hg
     cases ho:all[i]? with
     | none=>rw[ho] at hg;exact hg.elim
     | some o=>
       rw[ho] at hg hp1
       simp only [Option.map_some,Option.getD_some] at hp1
       obtain⟨dst,op,ty,pos,af,gd⟩:=o
       simp only [takesX,Bool.and_eq_true,Option.isNone_iff_eq_none] at hp1
       obtain⟨rfl,hp1⟩:=hp1
       have hw:Region.wanted ⟨dst,op,ty,pos,af,none⟩ (yielded all a.tmps)=true:=by simp[Region.wanted]
       have fin:∀(s:SV) (y:Value),(∀w,(execOp a.eval ⟨dst,op,ty,pos,af,none⟩).run P w=.ok (.value y) w)→(∀w,Oper.about P w a.eval ⟨dst,op,ty,pos,af,none⟩=none)→s.rel σ (Zof B σ M w) w y→dOK N.n dst→GUX P T N all (TT.makeX all fuel (listed.setIfInBounds i true)) k Q (envPut E dst s) M nx→wpAnyIn Fence.wide 0 P .any all R (fuel+1) listed a w:=by
        intro s y h1 h0 h2 h3 h4
        exact wpAnyIn_take (v:=y) rfl ho hsel hp2 (by simpa using hmem) (λc a w hh=>(hR _ _ _ hh).elim) ⟨.inl ⟨hw,h1⟩,h0⟩ (ih _ _ _ _ _ _ _ (h.put h3 h2) h4)
       cases op with
       | fieldAddr t x f=>
         simp only [gtakeX] at hg
         cases hq:gfield T t (ev E x) f with
         | pure ob s=>
           rw[hq] at hg
           obtain⟨h1,h2,h3⟩:=hg
           obtain⟨y,e1,e2⟩:=take_field hT hq h1 (ev_rel h.env x)
           exact fin s y (λw=>by simp[execOp,e1]) (λ_=>rfl) e2 h2 h3
         | _=>rw[hq] at hg;exact hg.elim
       | move x=>
         obtain⟨_,h2,h3⟩:=hg
         exact fin _ (a.eval x) (λw=>rfl) (λ_=>rfl) (ev_rel h.env x) h2 h3
       | assign x=>
         obtain⟨_,h2,h3⟩:=hg
         exact fin _ (a.eval x) (λw=>rfl) (λ_=>rfl) (ev_rel h.env x) h2 h3
       | nilCheck x=>
         simp only [gtakeX] at hg
         have hx:=ev_rel h.env x
         unfold gnilop at hg
         split at hg
         ·rename_i a1 a2 a3 a4 heq
          rw[heq] at hx
          obtain⟨_,h2,h3⟩:=hg
          obtain⟨L,b,q1,q2,q3⟩:=hx
          exact fin (.ptr a1 a2 a3 a4) (a.eval x) (λw=>by simp[execOp,q3]) (λ_=>rfl) ⟨L,b,q1,q2,q3⟩ h2 h3
         ·rename_i a1 a2 a3 a4 a5 heq
          rw[heq] at hx
          obtain⟨_,h2,h3⟩:=hg
          obtain⟨b,o,q1,q2⟩:=hx
          exact fin (.r (.rp a1 a2 a3 a4 a5)) (a.eval x) (λw=>by simp[execOp,q1]) (λ_=>rfl) ⟨b,o,q1,q2⟩ h2 h3
         ·rename_i f a1 a2 heq
          rw[heq] at hx
          split at hg
          ·rename_i f'
           obtain⟨_,h2,h3⟩:=hg
           obtain⟨vs,ws,q1,q2⟩:=hx
           exact fin (.fn (.func f') a1 a2) (a.eval x) (λw=>by simp[execOp,q1]) (λ_=>rfl) ⟨vs,ws,q1,q2⟩ h2 h3
          ·exact hg.elim
         ·exact hg.elim
       | _=>simp at hp1
    ·refine⟨λh'=>absurd (List.isEmpty_iff.2 h') hr,λi hi=>?_⟩
     obtain⟨o,ho,hgo⟩:=guX_alts _ hg i hi
     have hs:=gops_step (Q:=R) (next:=wpAnyIn Fence.wide 0 P .any all R fuel (listed.setIfInBounds i true)) hT h hgo (λE' M' nx' σ' a' w' hk hs=>ih _ E' M' nx' σ' a' w' hs hk)
     unfold wpOpIn;rw[ho];simp only []
     split
     ·rename_i hw;rw[if_pos hw] at hs;exact hs
     ·rename_i hw;rw[if_neg hw] at hs;exact⟨λ_ _=>trivial,hs⟩
theorem GDraw_x (hT:TabOK P T) (hm:P.follows .mixedOrders=true) {id:Nat} {all:Array Oper} {t:TT} (hsel:Region.noSelect all=true) (ht:TT.makeX all all.size (Array.replicate all.size false)=t)
 (hp:∀c E M nx,GK P T N k Q (.panic c) E M nx→False) (h:GUX P T N all t k Q E M nx):GDraw P T N id all k Q E M nx:=by
 subst ht
 intro r hr B W w0 σ a w hs
 refine wpIn_region_fw (hr.imp (λh=>h) λh=>h) hm (guX_any hT hsel (R:=λe a' w'=>∃E' M' nx' σ',GK P T N k Q e E' M' nx'∧St B W w0 N σ' E' M' nx' a' w') (λE M nx σ a w hk hst=>⟨E,M,nx,σ,hk,hst⟩) (λc a w ⟨E,M,nx,σ,hk,_⟩=>hp _ _ _ _ hk) _ _ E M nx σ a _ hs.drawn h)
end
end Go.Gx
namespace Go.Gx
open Go.RowKit
section
variable {P:Program} {T:Tab} {N:Cfg} {k:List It} {Q:GQ} {E:Env} {M M':Mem} {nx:Nat}
def famN (M:Mem) (b n:Nat) (R:Nat→Option Reg):Mem:=λr=>if b≤r∧r<n+b then R (r - b) else M r
@[go_sem]theorem famN_app (M:Mem) (b n:Nat) (R:Nat→Option Reg) (r:Nat):famN M b n R r=if b≤r∧r<n+b then R (r - b) else M r:=rfl
theorem famN_eq (M:Mem) (b n:Nat) (R:Nat→Option Reg):famN M b n R=famM M b n R:=by
 funext r
 unfold famN famM
 rw[Nat.add_comm n b]
theorem Fit.of_famN {S:List (Nat × SV)} {l:List (Option Reg)} {b cnt n:Nat} {R:Nat→Option Reg} (hn:N.np≤n) (h:slotsS n E S) (hl:l.length=b) (h1:regsS 0 (trimM n M) l)
 (h2:∀i,i<cnt→Reg.sub (trimM n M (i+b)) (R i)):Fit N E M nx S (famN (memL l) b cnt R) n:=by
 rw[famN_eq]
 exact Fit.of_fam hn h hl h1 λi hi=>by rw[Nat.add_comm];exact h2 i hi
theorem memR_famN (l:List Reg) (n:Nat) (f:Nat→Reg):memR (l++(List.range n).map f)=famN (memR l) l.length n (λi=>some (f i)):=by
 rw[famN_eq];exact memR_fam' l n f
@[go_sem]theorem famL_def (n:Nat) (f:Nat→Reg):famL n f=(List.range n).map f:=rfl
def famR (l:List Nat) (n b:Nat):List Nat:=l++(List.range n).map λi=>i+b
theorem famR_nodup {l:List Nat} {n b:Nat} (h:l.Nodup) (hl:∀x∈l,x<b):(famR l n b).Nodup:=
 nodup_fam h (λi j _ _ h=>by omega) λx hx i _=>by have:=hl x hx;omega
theorem famR_getD (l:List Nat) (n b D r:Nat):((famR l n b)[r]?).getD D=if r<l.length then (l[r]?).getD D else if r<n+l.length then r - l.length+b else D:=by
 unfold famR
 rw[getD_fam,Nat.add_comm l.length n]
theorem famR_lo {l:List Nat} {n b D r:Nat} (h:r<l.length):((famR l n b)[r]?).getD D=(l[r]?).getD D:=by
 rw[famR_getD,if_pos h]
theorem famR_hi {l:List Nat} {n b D i:Nat} (h:i<n):((famR l n b)[i+l.length]?).getD D=i+b:=by
 rw[famR_getD,if_neg (by omega),if_pos (by omega)];omega
theorem gexpR_famN {ρ:Nat→Nat} {l:List Nat} {Rs:List Reg} {n b:Nat} {f:Nat→Reg} (h:gexpR M ρ l Rs) (h':∀i,i<n→Reg.sub (M (i+b)) (some ((f i).ren ρ))):gexpR M ρ (famR l n b) (Rs++(List.range n).map f):=
 gexpR_fam h h'
end
end Go.Gx
namespace Go.Gx
open Go.RowKit
def Agree (D:Nat→Prop) (a b:Act):Prop:=a.defers=b.defers∧a.tmps.size=b.tmps.size∧∀t,¬D t→a.tmps[t]? =b.tmps[t]?
section
variable {P:Program} {ops:Array Oper} {Q:Exit→Act→World→Prop} {D:Nat→Prop} {a b:Act} {w:World}
theorem Agree.eval (h:Agree D a b) {x:Operand} (hx:∀t,x=.tmp t→¬D t):a.eval x=b.eval x:=by
 cases x with
 | tmp t=>
   simp only [Act.eval,Array.getD_eq_getD_getElem?]
   rw[h.2.2 t (hx t rfl)]
 | _=>rfl
theorem Agree.put (h:Agree D a b) (d:Option Tmp) (v:Value):Agree D (a.put d v) (b.put d v):=by
 cases d with
 | none=>exact h
 | some d=>
   refine⟨h.1,by simpa [Act.put] using h.2.1,λt ht=>?_⟩
   simp only [Act.put,Array.getElem?_setIfInBounds,h.2.1,h.2.2 t ht]
theorem Agree.wanted (h:Agree D a b) (o:Oper) (hx:∀t∈o.looksAt ops,¬D t):Region.wanted o (yielded ops a.tmps)=Region.wanted o (yielded ops b.tmps):=by
 unfold Region.wanted
 cases hg:o.guard with
 | none=>rfl
 | some gw=>
   obtain⟨g,want⟩:=gw
   have hy:yielded ops a.tmps g=yielded ops b.tmps g:=by
    unfold yielded
    cases ht:(ops[g]?).bind (·.dst) with
    | none=>rfl
    | some t=>
      have:a.tmps[t]? =b.tmps[t]?:=h.2.2 t (hx t (by simp[Oper.looksAt,hg,ht]))
      simp[this]
   simp only [hy]
theorem Agree.exec (h:Agree D a b) (o:Oper) (hs:∀cs b,o.op≠.select cs b) (hx:∀t∈o.looksAt ops,¬D t):execOp a.eval o=execOp b.eval o:=
 execOp_congr o hs λx hx2=>h.eval λt ht=>hx t (by
  subst ht
  exact List.mem_append_left _ (List.mem_filterMap.2 ⟨.tmp t,by simpa using hx2,rfl⟩))
theorem wpOp_agree {j:Nat} {o:Oper} (hj:ops[j]? =some o) (hs:∀cs b,o.op≠.select cs b) (hx:∀t∈o.looksAt ops,¬D t) (hab:Agree D a b) (hQ:∀c a w,¬Q (.panic c) a w) {K K':Act→World→Prop}
 (hK:∀a' b' w',Agree D a' b'→K' b' w'→K a' w') (h:wpOpIn Fence.wide 0 P ops Q j K' b w):wpOpIn Fence.wide 0 P ops Q j K a w:=by
 unfold wpOpIn at *
 simp only [hj] at *
 rw[hab.wanted o hx]
 split
 ·rename_i hw
  simp only [hw,if_true] at h
  refine⟨λ_ _=>trivial,?_⟩
  have h:=h.2
  show o.uponIn _ _ _ _ _ _ ((execOp a.eval o).run P w)
  have h:o.uponIn Fence.wide 0 P b K' Q ((execOp b.eval o).run P w):=h
  rw[hab.exec o hs hx]
  generalize (execOp b.eval o).run P w=r at *
  cases r with
  | ok n w'=>
    cases n <;> simp only [Oper.uponIn] at h ⊢
    case value u=>exact hK _ _ _ (hab.put _ _) h
    case skip=>exact hK _ _ _ (hab.put _ _) h
    case defer d=>
     refine hK _ _ _ (Agree.put (a:={a with defers:=d::a.defers}) (b:={b with defers:=d::b.defers}) ⟨by simp[hab.1],hab.2.1,hab.2.2⟩ _ _) h
    case enter f args=>
     refine⟨h.1,CallsIn.mono h.2 λe w'' he=>?_⟩
     cases e with
     | returned u=>exact hK _ _ _ (hab.put _ _) he
     | panicked c=>exact(hQ _ _ _ he).elim
     | outgrown=>exact he
    case row row args=>exact⟨h.1,RowsIn.mono h.2 λu w'' he=>hK _ _ _ (hab.put _ _) he⟩
    case round l f t2 as bo=>
     refine⟨h.1,RoundIn.mono h.2 λe w'' he=>?_⟩
     cases e with
     | returned u=>exact hK _ _ _ (hab.put _ _) he
     | panicked c=>exact(hQ _ _ _ he).elim
     | outgrown=>exact he
  | halt x w'=>
    cases x <;> simp only [Oper.uponIn] at h ⊢
    case panic u=>exact(hQ _ _ _ h).elim
 ·rename_i hw
  simp only [hw] at h
  exact⟨λ_ _=>trivial,hK _ _ _ (hab.put _ _) h.2⟩
end
inductive TL where
 | done (p:List Nat)
 | bad
 | nil
 | alt (i:Nat) (p:List Nat) (sub more:TL)
 | take (i:Nat) (sub:TL)
def takesL (o:Oper):Bool:=o.guard.isNone&&match o.op with
 | .fieldAddr .. | .indexAddr .. | .move _ | .assign _ | .nilCheck _ | .load .. | .slice .. | .binOp .. | .unOp .. | .extract .. | .convert .. | .field .. | .index .. | .build .. | .lookup ..=>true
 | .call c=>match c.callee with | .builtin .len=>true | _=>false
 | _=>false
def okU (ops:Array Oper) (i:Nat):Bool:=match ops[i]? with
 | none=>false
 | some oi=>takesL oi&&match oi.dst with
   | none=>true
   | some d=>(List.range ops.size).all λj=>match ops[j]? with
     | none=>true
     | some oj=>if j==i then !(oj.looksAt ops).contains d else oj.dst != some d&&(!(oj.looksAt ops).contains d||oj.after.any λe=>Region.binds .any e&&e.on==i)
def edge (ops:Array Oper) (j i:Nat):Bool:=match ops[j]? with | some oj=>oj.after.any λe=>Region.binds .any e&&e.on==i | none=>false
def TL.make (ops:Array Oper):Nat→Array Bool→List Nat→TL
 | 0,l,p=>if (Region.ready .any ops l).isEmpty then .done p else .bad
 | n+1,l,p=>
   let r:=Region.ready .any ops l
   if r.isEmpty then .done p else
   match r.find? (okU ops) with
   | some i=>.take i (TL.make ops n (l.setIfInBounds i true) (i::p))
   | none=>r.foldr (λi t=>.alt i p (TL.make ops n (l.setIfInBounds i true) (p.filter λq=>!edge ops i q)) t) .nil
section
variable (P:Program) (T:Tab) (N:Cfg)
def dEq (E:Env) (d:Option Tmp) (s:SV):Prop:=match d with | some d=>E d=s | none=>True
def PendG (E:Env) (d:Option Tmp):GR→Prop | .pure ob s=>ob∧dEq E d s | _=>False
def PendOp (E:Env) (M:Mem) (nx:Nat):Option Oper→Prop | some o=>PendG E o.dst (gop T o.op E M nx) | none=>False
def PendOK (all:Array Oper):List Nat→Env→Mem→Nat→Prop
 | [],_,_,_=>True
 | i::l,E,M,nx=>PendOp T E M nx all[i]?∧PendOK all l E M nx
def GUL (all:Array Oper):TL→List It→GQ→Env→Mem→Nat→Prop
 | .done p,k,Q,E,M,nx=>PendOK T all p E M nx∧GK P T N k Q .normal E M nx
 | .bad,_,_,_,_,_=>False
 | .nil,_,_,_,_,_=>True
 | .alt i p sub more,k,Q,E,M,nx=>PendOK T all p E M nx∧(match all[i]? with | some o=>GO P T N all [o] [] (TQX (GUL all sub k Q)) E M nx | none=>False)∧GUL all more k Q E M nx
 | .take i sub,k,Q,E,M,nx=>match all[i]? with | some o=>GTkX N (gop T o.op E M nx) o.dst (GUL all sub k Q) E M nx | none=>False
end
section
variable {P:Program} {T:Tab} {N:Cfg} {k:List It} {Q:GQ} {E:Env} {M:Mem} {nx:Nat} {all:Array Oper}
theorem PendOK.get:∀{p:List Nat},PendOK T all p E M nx→∀i∈p,∃o ob s,all[i]? =some o∧gop T o.op E M nx=.pure ob s∧ob∧dEq E o.dst s
 | [],_,i,hi=>by simp at hi
 | j::l,h,i,hi=>by
   rcases List.mem_cons.1 hi with rfl | hi
   ·have h1:=h.1
    unfold PendOp at h1
    cases ho:all[i]? with
    | none=>rw[ho] at h1;exact h1.elim
    | some o=>
      rw[ho] at h1
      simp only [] at h1
      unfold PendG at h1
      split at h1
      ·rename_i ob s hg
       exact⟨o,ob,s,rfl,hg,h1.1,h1.2⟩
      ·exact h1.elim
   ·exact PendOK.get h.2 i hi
theorem guL_alts {f:Nat→TL} {p:List Nat}:∀(l:List Nat),GUL P T N all (l.foldr (λi t=>.alt i p (f i) t) .nil) k Q E M nx→
 ∀i∈l,PendOK T all p E M nx∧∃o,all[i]? =some o∧gops P T N all [o] E M nx (λE M nx=>GUL P T N all (f i) k Q E M nx)
 | [],_,i,hi=>by simp at hi
 | j::l,h,i,hi=>by
   simp only [List.foldr_cons,GUL] at h
   rcases List.mem_cons.1 hi with rfl | hi
   ·have h1:=h.2.1
    cases ho:all[i]? with
    | none=>rw[ho] at h1;exact h1.elim
    | some o=>rw[ho] at h1;exact⟨h.1,o,rfl,h1⟩
   ·exact guL_alts l h.2.2 i hi
def POrd (all:Array Oper) (lr:Array Bool):List Nat→Prop
 | []=>True
 | i::l=>(∃o,all[i]? =some o∧∀e∈o.after,Region.binds .any e=true→lr.getD e.on false=true∨e.on∈l)∧POrd all lr l
theorem getD_ff {l:Array Bool} {i:Nat} (h:l.getD i false=true):l.getD i true=true:=by
 rcases Nat.lt_or_ge i l.size with h' | h'
 ·simpa [h'] using h
 ·simp[Array.getElem?_eq_none h'] at h
theorem getD_tf {l:Array Bool} {i:Nat} (hi:i<l.size) (h:l.getD i true=true):l.getD i false=true:=by
 simpa [hi] using h
theorem POrd.ready {lr:Array Bool} (hsz:lr.size=all.size):∀{p:List Nat},POrd all lr p→∀i∈p,lr.getD i true=false→∃q,q∈Region.ready .any all lr
 | [],_,i,hi,_=>by simp at hi
 | j::l,h,i,hi,hf=>by
   by_cases hl:∃q∈l,lr.getD q true=false
   ·obtain⟨q,h1,h2⟩:=hl
    exact POrd.ready hsz h.2 q h1 h2
   ·have hall:∀q∈l,lr.getD q true=true:=λq hq=>by
     cases hh:lr.getD q true with
     | true=>rfl
     | false=>exact absurd ⟨q,hq,hh⟩ hl
    rcases List.mem_cons.1 hi with rfl | hi
    ·obtain⟨o,ho,hall2⟩:=h.1
     refine⟨i,mem_ready.2 ⟨hf,o,ho,λe he hb=>?_⟩⟩
     rcases hall2 e he hb with h1 | h1
     ·exact h1
     ·have h2:=hall _ h1
      refine getD_tf ?_ h2
      rcases Nat.lt_or_ge e.on lr.size with h' | h'
      ·exact h'
      ·exfalso
       have:∀{p:List Nat},POrd all lr p→∀q∈p,q<all.size:=by
        intro p
        induction p with
        | nil=>intro _ q hq;simp at hq
        | cons x xs ih=>
          intro hp q hq
          rcases List.mem_cons.1 hq with rfl | hq
          ·obtain⟨o',ho',_⟩:=hp.1
           exact(Array.getElem?_eq_some_iff.1 ho').1
          ·exact ih hp.2 q hq
       have:=this h.2 _ h1
       omega
    ·have:=hall i hi
     rw[this] at hf;cases hf
theorem POrd.more {lr lr':Array Bool} (h:∀i,lr.getD i false=true→lr'.getD i false=true):∀{p:List Nat},POrd all lr p→POrd all lr' p
 | [],_=>trivial
 | i::l,hp=>⟨by
    obtain⟨o,ho,h1⟩:=hp.1
    exact⟨o,ho,λe he hb=>(h1 e he hb).imp (h _) id⟩,POrd.more h hp.2⟩
theorem POrd.filter {lr:Array Bool} {φ:Nat→Bool}:∀{p:List Nat},(∀i∈p,φ i=false→lr.getD i false=true)→POrd all lr p→POrd all lr (p.filter φ)
 | [],_,_=>trivial
 | i::l,h,hp=>by
   have ih:=POrd.filter (φ:=φ) (λq hq=>h q (List.mem_cons_of_mem _ hq)) hp.2
   rw[List.filter_cons]
   split
   ·refine⟨?_,ih⟩
    obtain⟨o,ho,h1⟩:=hp.1
    refine⟨o,ho,λe he hb=>?_⟩
    rcases h1 e he hb with h2 | h2
    ·exact .inl h2
    ·cases hφ:φ e.on with
     | true=>exact .inr (List.mem_filter.2 ⟨h2,hφ⟩)
     | false=>exact .inl (h _ (List.mem_cons_of_mem _ h2) hφ)
   ·exact ih
def Out (all:Array Oper) (lr:Array Bool) (p:List Nat) (t:Nat):Prop:=∃i∈p,lr.getD i true=false∧∃o,all[i]? =some o∧o.dst=some t
def left (all:Array Oper) (lr:Array Bool):Nat:=((List.range all.size).filter λi=>!lr.getD i true).length
structure Inv (all:Array Oper) (lr lg:Array Bool) (p:List Nat):Prop where
 sr:lr.size=all.size
 sg:lg.size=all.size
 h1:∀i,lg.getD i true=false→lr.getD i true=false
 h2:∀i,lr.getD i true=false→lg.getD i true=false∨i∈p
 h3:∀i∈p,okU all i=true∧lg.getD i true=true
 h4:POrd all lr p
theorem okU_spec {i:Nat} (h:okU all i=true):∃o,all[i]? =some o∧o.guard=none∧∀d,o.dst=some d→d ∉ o.looksAt all∧∀j oj,all[j]? =some oj→j≠i→oj.dst≠some d∧(d∈oj.looksAt all→∃e∈oj.after,Region.binds .any e=true∧e.on=i):=by
 unfold okU at h
 cases ho:all[i]? with
 | none=>rw[ho] at h;cases h
 | some o=>
   rw[ho] at h
   simp only [Bool.and_eq_true] at h
   obtain⟨ht,h⟩:=h
   refine⟨o,rfl,?_,λd hd=>?_⟩
   ·simp only [takesL,Bool.and_eq_true,Option.isNone_iff_eq_none] at ht
    exact ht.1
   rw[hd] at h
   simp only [List.all_eq_true,List.mem_range] at h
   refine⟨?_,λj oj hj hne=>?_⟩
   ·have:=h i (Array.getElem?_eq_some_iff.1 ho).1
    simp only [ho,beq_self_eq_true,if_true,Bool.not_eq_true',List.contains_eq_mem,decide_eq_false_iff_not] at this
    exact this
   ·have:=h j (Array.getElem?_eq_some_iff.1 hj).1
    simp only [hj,beq_iff_eq,hne,if_false,Bool.and_eq_true,bne_iff_ne,ne_eq,Bool.or_eq_true,Bool.not_eq_true',List.contains_eq_mem,decide_eq_false_iff_not] at this
    refine⟨this.1,λhm=>?_⟩
    rcases this.2 with h5 | h5
    ·exact absurd hm h5
    ·obtain⟨e,he,hb⟩:=Array.any_eq_true'.1 h5
     simp only [Bool.and_eq_true,beq_iff_eq] at hb
     exact⟨e,he,hb⟩
theorem Inv.looks {lr lg:Array Bool} {p:List Nat} (hI:Inv all lr lg p) {j:Nat} {oj:Oper} (hj:j∈Region.ready .any all lr) (hoj:all[j]? =some oj):∀t∈oj.looksAt all,¬Out all lr p t:=by
 rintro t ht ⟨i,hi,hf,o,ho,hd⟩
 obtain⟨o',ho',_,hU⟩:=okU_spec (hI.h3 i hi).1
 rw[ho] at ho';cases ho'
 obtain⟨u1,u2⟩:=hU t hd
 by_cases hij:j=i
 ·subst hij
  rw[ho] at hoj;cases hoj
  exact u1 ht
 ·obtain⟨e,he,hb,hon⟩:=(u2 j oj hoj hij).2 ht
  obtain⟨_,oj',hoj',hall⟩:=mem_ready.1 hj
  rw[hoj] at hoj';cases hoj'
  have:=getD_ff (hall e he hb)
  rw[hon,hf] at this;cases this
theorem set_tt {l:Array Bool} {i j:Nat}:(l.setIfInBounds j true).getD i true=if i=j then true else l.getD i true:=by
 by_cases h:i=j
 ·subst h
  rw[if_pos rfl]
  rcases Nat.lt_or_ge i l.size with h' | h'
  ·simp[h']
  ·simp[Array.getElem?_eq_none h']
 ·rw[if_neg h]
  exact getD_set_ne true λe=>h e.symm
theorem left_set {lr:Array Bool} {j:Nat} (hj:j∈Region.ready .any all lr):left all (lr.setIfInBounds j true)<left all lr:=by
 obtain⟨hf,o,ho,_⟩:=mem_ready.1 hj
 have hlt:=(Array.getElem?_eq_some_iff.1 ho).1
 have e:(List.range all.size).filter (λi=>!(lr.setIfInBounds j true).getD i true)=((List.range all.size).filter λi=>!lr.getD i true).filter λi=>decide (i≠j):=by
  rw[List.filter_filter]
  congr 1
  funext i
  rw[set_tt]
  by_cases h:i=j <;> simp[h]
 unfold left
 rw[e]
 exact List.length_filter_lt_length_iff_exists.2 ⟨j,List.mem_filter.2 ⟨List.mem_range.2 hlt,by simpa using hf⟩,by simp⟩
theorem left_zero {lr:Array Bool} (h:left all lr=0):Region.ready .any all lr=[]:=by
 cases hr:Region.ready .any all lr with
 | nil=>rfl
 | cons j l=>
   have:=left_set (all:=all) (lr:=lr) (j:=j) (by rw[hr];simp)
   omega
variable {B W:Nat→Prop} {w0:W0} {R:Exit→Act→World→Prop}
theorem pend_step (hT:TabOK P T) (hsel:Region.noSelect all=true) {fuel:Nat} {lr lg:Array Bool} {p:List Nat} {σ:Sig} {a b:Act} {w:World} (hI:Inv all lr lg p) (hab:Agree (Out all lr p) a b)
 (hs:St B W w0 N σ E M nx b w) (hp:PendOK T all p E M nx) {j:Nat} (hj:j∈Region.ready .any all lr) (hg:lg.getD j true=true)
 (hnext:∀lr' a' b',Inv all lr' lg p→Agree (Out all lr' p) a' b'→St B W w0 N σ E M nx b' w→left all lr'<left all lr→wpAnyIn Fence.wide 0 P .any all R fuel lr' a' w) :
 wpOpIn Fence.wide 0 P all R j (wpAnyIn Fence.wide 0 P .any all R fuel (lr.setIfInBounds j true)) a w:=by
 obtain⟨hf,oj,hoj,hall⟩:=mem_ready.1 hj
 have hjp:j∈p:=(hI.h2 j hf).resolve_left (by rw[hg];simp)
 obtain⟨o,ob,s,ho,hgo,hob,hd⟩:=PendOK.get hp j hjp
 rw[hoj] at ho;cases ho
 obtain⟨o',ho',hgd,hU⟩:=okU_spec (hI.h3 j hjp).1
 rw[hoj] at ho';cases ho'
 have hlook:=hI.looks hj hoj
 have hsn:=snd_op hT hs.mem (nx:=nx) (Nat.le_refl nx) hs.fr.size hs.env oj
 rw[hgo] at hsn
 obtain⟨y,hy,hrel⟩:=hsn hob
 have hdk:dOK N.n oj.dst→True:=λ_=>trivial
 have hfin:wpAnyIn Fence.wide 0 P .any all R fuel (lr.setIfInBounds j true) (a.put oj.dst y) w:=by
  refine hnext _ _ (b.put oj.dst y) ⟨by simpa using hI.sr,hI.sg,λi hi=>?_,λi hi=>?_,hI.h3,hI.h4.more λi hi=>getD_set_true hi⟩ ?_ ?_ (left_set hj)
  ·rw[set_tt]
   by_cases e:i=j
   ·subst e;rw[hg] at hi;cases hi
   ·rw[if_neg e];exact hI.h1 i hi
  ·rw[set_tt] at hi
   by_cases e:i=j
   ·rw[if_pos e] at hi;cases hi
   ·rw[if_neg e] at hi;exact hI.h2 i hi
  ·cases hdst:oj.dst with
   | none=>
     refine⟨hab.1,hab.2.1,λt ht=>hab.2.2 t λ⟨i,hi,h1,o2,h2,h3⟩=>ht ⟨i,hi,?_,o2,h2,h3⟩⟩
     rw[set_tt]
     by_cases e:i=j
     ·subst e;rw[hoj] at h2;cases h2;rw[hdst] at h3;cases h3
     ·rw[if_neg e];exact h1
   | some d=>
     refine⟨hab.1,by simpa [Act.put] using hab.2.1,λt ht=>?_⟩
     simp only [Act.put,Array.getElem?_setIfInBounds,hab.2.1]
     by_cases e:d=t
     ·simp[e]
     ·simp only [e,if_false]
      refine hab.2.2 t λ⟨i,hi,h1,o2,h2,h3⟩=>ht ⟨i,hi,?_,o2,h2,h3⟩
      rw[set_tt]
      by_cases e2:i=j
      ·subst e2;rw[hoj] at h2;cases h2;rw[hdst] at h3;cases h3;exact absurd rfl e
      ·rw[if_neg e2];exact h1
  ·have h1:=hs.env
   refine⟨λt=>?_,hs.mem,hs.fr,?_,?_,hs.low,hs.pin,hs.good⟩
   ·cases hdst:oj.dst with
    | none=>exact h1 t
    | some d=>
      rw[hdst] at hd
      simp only [Act.put,Array.getD_eq_getD_getElem?,Array.getElem?_setIfInBounds]
      by_cases e:d=t
      ·subst e
       by_cases hlt:d<b.tmps.size
       ·simp only [hlt,if_true]
        rw[show E d=s from hd]
        exact hrel
       ·simp only [hlt,if_true,if_false]
        have:=h1 d
        simpa [Array.getD_eq_getD_getElem?,Array.getElem?_eq_none (Nat.le_of_not_lt hlt)] using this
      ·simp only [e,if_false]
       simpa [Array.getD_eq_getD_getElem?] using h1 t
   ·cases oj.dst <;> exact hs.defers
   ·cases oj.dst with
    | none=>exact hs.size
    | some d=>simpa [Act.put] using hs.size
 unfold wpOpIn
 simp only [hoj]
 rw[if_pos (by simp[Region.wanted,hgd])]
 refine wpIn_of_wp ?_
 unfold Oper.wp
 rw[hab.exec oj (Region.noSelect_spec hsel j oj · · hoj) hlook]
 rcases hy with hy | ⟨hy,rfl⟩
 ·rw[hy];exact hfin
 ·rw[hy];exact hfin
theorem ready_lg {lr lg:Array Bool} {p:List Nat} (hI:Inv all lr lg p) {j:Nat} (hj:j∈Region.ready .any all lr) (hg:lg.getD j true=false):j∈Region.ready .any all lg:=by
 obtain⟨hf,o,ho,hall⟩:=mem_ready.1 hj
 refine mem_ready.2 ⟨hg,o,ho,λe he hb=>?_⟩
 have h1:=hall e he hb
 have h2:lg.getD e.on true=true:=by
  cases hh:lg.getD e.on true with
  | true=>rfl
  | false=>
    have:=hI.h1 _ hh
    rw[getD_ff h1] at this;cases this
 refine getD_tf ?_ h2
 rcases Nat.lt_or_ge e.on lr.size with h' | h'
 ·rw[hI.sg,← hI.sr];exact h'
 ·simp[Array.getElem?_eq_none h'] at h1
theorem none_ready {lr lg:Array Bool} {p:List Nat} (hI:Inv all lr lg p) (h:Region.ready .any all lr=[]):(∀i∈p,lr.getD i true=true)∧Region.ready .any all lg=[]:=by
 have h1:∀i∈p,lr.getD i true=true:=λi hi=>by
  cases hh:lr.getD i true with
  | true=>rfl
  | false=>
    obtain⟨q,hq⟩:=hI.h4.ready hI.sr i hi hh
    rw[h] at hq;cases hq
 refine⟨h1,?_⟩
 cases hr:Region.ready .any all lg with
 | nil=>rfl
 | cons j l=>
   have hj:j∈Region.ready .any all lg:=by rw[hr];simp
   obtain⟨hf,o,ho,hall⟩:=mem_ready.1 hj
   have:j∈Region.ready .any all lr:=by
    refine mem_ready.2 ⟨hI.h1 j hf,o,ho,λe he hb=>?_⟩
    have h2:=hall e he hb
    have h3:lr.getD e.on true=true:=by
     cases hh:lr.getD e.on true with
     | true=>rfl
     | false=>
       rcases hI.h2 _ hh with h4 | h4
       ·rw[getD_ff h2] at h4;cases h4
       ·rw[h1 _ h4] at hh;cases hh
    refine getD_tf ?_ h3
    rcases Nat.lt_or_ge e.on lg.size with h' | h'
    ·rw[hI.sr,← hI.sg];exact h'
    ·simp[Array.getElem?_eq_none h'] at h2
   rw[h] at this;cases this
theorem agree_none {lr:Array Bool} {p:List Nat} {a b:Act} (hab:Agree (Out all lr p) a b) (h:∀i∈p,lr.getD i true=true):a=b:=by
 have:∀t,a.tmps[t]? =b.tmps[t]?:=λt=>hab.2.2 t λ⟨i,hi,hf,_⟩=>by rw[h i hi] at hf;cases hf
 obtain⟨at1,d1⟩:=a
 obtain⟨at2,d2⟩:=b
 congr 1
 ·exact Array.ext_getElem? this
 ·exact hab.1
theorem guL_any (hT:TabOK P T) (hsel:Region.noSelect all=true)
 (hK:∀E M nx σ a w,GK P T N k Q .normal E M nx→St B W w0 N σ E M nx a w→R .normal a w) (hR:∀c a w,¬R (.panic c) a w):∀(fuel n:Nat) (lr lg:Array Bool) (p:List Nat) (E:Env) (M:Mem) (nx:Nat) (σ:Sig) (a b:Act) (w:World),
 left all lr≤fuel→Inv all lr lg p→Agree (Out all lr p) a b→St B W w0 N σ E M nx b w→GUL P T N all (TL.make all n lg p) k Q E M nx→wpAnyIn Fence.wide 0 P .any all R fuel lr a w:=by
 suffices H:∀(fuel:Nat),(∀m,fuel=m+1→∀(n:Nat) (lr lg:Array Bool) (p:List Nat) (E:Env) (M:Mem) (nx:Nat) (σ:Sig) (a b:Act) (w:World),
  left all lr≤m→Inv all lr lg p→Agree (Out all lr p) a b→St B W w0 N σ E M nx b w→GUL P T N all (TL.make all n lg p) k Q E M nx→wpAnyIn Fence.wide 0 P .any all R m lr a w)→
  ∀(n:Nat) (lr lg:Array Bool) (p:List Nat) (E:Env) (M:Mem) (nx:Nat) (σ:Sig) (a b:Act) (w:World),
  left all lr≤fuel→Inv all lr lg p→Agree (Out all lr p) a b→St B W w0 N σ E M nx b w→GUL P T N all (TL.make all n lg p) k Q E M nx→wpAnyIn Fence.wide 0 P .any all R fuel lr a w by
  intro fuel
  induction fuel with
  | zero=>exact H 0 λm hm=>by cases hm
  | succ fuel ih=>exact H (fuel+1) λm hm=>by cases hm;exact ih
 intro fuel ihf n
 have hdone:∀(n:Nat) (lr lg:Array Bool) (p:List Nat) (E:Env) (M:Mem) (nx:Nat) (σ:Sig) (a b:Act) (w:World),
  left all lr≤fuel→Inv all lr lg p→Agree (Out all lr p) a b→St B W w0 N σ E M nx b w→Region.ready .any all lg=[]→PendOK T all p E M nx→GK P T N k Q .normal E M nx→
  GUL P T N all (TL.make all n lg p) k Q E M nx→wpAnyIn Fence.wide 0 P .any all R fuel lr a w:=by
  intro n lr lg p E M nx σ a b w hle hI hab hs hr hp hk hg
  have fin:Region.ready .any all lr=[]→R .normal a w:=λh=>by
   have:=agree_none hab (none_ready hI h).1
   rw[this]
   exact hK _ _ _ _ _ _ hk hs
  cases fuel with
  | zero=>exact⟨left_zero (by omega),fin (left_zero (by omega))⟩
  | succ m=>
    refine⟨fin,λj hj=>pend_step hT hsel hI hab hs hp hj ?_ λlr' a' b' hI' hab' hs' hlt=>ihf m rfl n lr' lg p E M nx σ a' b' w (by omega) hI' hab' hs' hg⟩
    cases hh:lg.getD j true with
    | true=>rfl
    | false=>
      have:=ready_lg hI hj hh
      rw[hr] at this;cases this
 induction n with
 | zero=>
   intro lr lg p E M nx σ a b w hle hI hab hs hg
   have hg0:=hg
   simp only [TL.make] at hg
   split at hg
   ·rename_i hr
    exact hdone 0 lr lg p E M nx σ a b w hle hI hab hs (List.isEmpty_iff.1 hr) hg.1 hg.2 hg0
   ·exact hg.elim
 | succ n ihn=>
   intro lr lg p E M nx σ a b w hle hI hab hs hg
   have hg0:=hg
   simp only [TL.make] at hg
   split at hg
   ·rename_i hr
    exact hdone (n+1) lr lg p E M nx σ a b w hle hI hab hs (List.isEmpty_iff.1 hr) hg.1 hg.2 hg0
   rename_i hr
   have hne:Region.ready .any all lg≠[]:=λh=>hr (List.isEmpty_iff.2 h)
   split at hg
   ·rename_i i hi
    have hok:=List.find?_some hi
    have hmem:=List.mem_of_find?_eq_some hi
    obtain⟨hf,o,ho,hall⟩:=mem_ready.1 hmem
    obtain⟨o',ho',hgd,hU⟩:=okU_spec hok
    rw[ho] at ho';cases ho'
    simp only [GUL,ho] at hg
    unfold GTkX at hg
    split at hg
    ·rename_i ob s hgo
     obtain⟨hob,hd,hg⟩:=hg
     have hsn:=snd_op hT hs.mem (nx:=nx) (Nat.le_refl nx) hs.fr.size hs.env o
     rw[hgo] at hsn
     obtain⟨y,hy,hrel⟩:=hsn hob
     have hlrf:=hI.h1 i hf
     refine ihn lr (lg.setIfInBounds i true) (i::p) _ _ _ _ a (b.put o.dst y) w hle ⟨hI.sr,by simpa using hI.sg,λq hq=>?_,λq hq=>?_,λq hq=>?_,⟨o,ho,λe he hb=>?_⟩,hI.h4⟩ ?_ (hs.put hd hrel) hg
     ·rw[set_tt] at hq
      by_cases e:q=i
      ·rw[if_pos e] at hq;cases hq
      ·rw[if_neg e] at hq;exact hI.h1 q hq
     ·by_cases e:q=i
      ·exact .inr (by rw[e];simp)
      ·rw[set_tt,if_neg e]
       exact(hI.h2 q hq).imp id (List.mem_cons_of_mem _)
     ·rw[set_tt]
      rcases List.mem_cons.1 hq with rfl | hq
      ·exact⟨hok,by rw[if_pos rfl]⟩
      ·refine⟨(hI.h3 q hq).1,?_⟩
       split
       ·rfl
       ·exact(hI.h3 q hq).2
     ·have h1:=hall e he hb
      cases hh:lr.getD e.on true with
      | true=>
        refine .inl (getD_tf ?_ hh)
        rcases Nat.lt_or_ge e.on lg.size with h' | h'
        ·rw[hI.sr,← hI.sg];exact h'
        ·simp[Array.getElem?_eq_none h'] at h1
      | false=>
        rcases hI.h2 _ hh with h4 | h4
        ·rw[getD_ff h1] at h4;cases h4
        ·exact .inr h4
     ·refine⟨?_,?_,λt ht=>?_⟩
      ·cases o.dst <;> exact hab.1
      ·cases o.dst with
       | none=>exact hab.2.1
       | some d=>simpa [Act.put] using hab.2.1
      ·have h5:¬Out all lr p t:=λ⟨q,hq,h1,o2,h2,h3⟩=>ht ⟨q,List.mem_cons_of_mem _ hq,h1,o2,h2,h3⟩
       rw[hab.2.2 t h5]
       cases hdst:o.dst with
       | none=>rfl
       | some d=>
         have hne2:d≠t:=λe=>ht ⟨i,by simp,hlrf,o,ho,by rw[hdst,e]⟩
         simp[Act.put,Array.getElem?_setIfInBounds_ne hne2]
    ·exact hg.elim
   ·rename_i hfind
    have hp0:PendOK T all p E M nx:=by
     cases hr2:Region.ready .any all lg with
     | nil=>exact absurd hr2 hne
     | cons j l=>exact(guL_alts (f:=λi=>TL.make all n (lg.setIfInBounds i true) (p.filter λq=>!edge all i q)) _ hg j (by rw[hr2];simp)).1
    have hno:Region.ready .any all lr≠[]:=λh=>hne (none_ready hI h).2
    cases fuel with
    | zero=>exact absurd (left_zero (by omega)) hno
    | succ m=>
      refine⟨λh=>absurd h hno,λj hj=>?_⟩
      cases hgj:lg.getD j true with
      | true=>exact pend_step hT hsel hI hab hs hp0 hj hgj λlr' a' b' hI' hab' hs' hlt=>ihf m rfl (n+1) lr' lg p E M nx σ a' b' w (by omega) hI' hab' hs' hg0
      | false=>
        obtain⟨_,o,ho,hgo⟩:=guL_alts (f:=λi=>TL.make all n (lg.setIfInBounds i true) (p.filter λq=>!edge all i q)) _ hg j (ready_lg hI hj hgj)
        obtain⟨hf,o',ho',hall⟩:=mem_ready.1 hj
        rw[ho] at ho';cases ho'
        have hjs:j<all.size:=(Array.getElem?_eq_some_iff.1 ho).1
        have hedge:∀q∈p,edge all j q=true→lr.getD q false=true:=λq hq he=>by
         unfold edge at he
         rw[ho] at he
         obtain⟨e,he1,he2⟩:=Array.any_eq_true'.1 he
         simp only [Bool.and_eq_true,beq_iff_eq] at he2
         rw[← he2.2]
         exact hall e he1 he2.1
        have hs2:=gops_step (Q:=R) (next:=λb' w'=>∃E' M' nx' σ',GUL P T N all (TL.make all n (lg.setIfInBounds j true) (p.filter λq=>!edge all j q)) k Q E' M' nx'∧St B W w0 N σ' E' M' nx' b' w') hT hs hgo (λE' M' nx' σ' a' w' hk hst=>⟨E',M',nx',σ',hk,hst⟩)
        have hb:wpOpIn Fence.wide 0 P all R j (λb' w'=>∃E' M' nx' σ',GUL P T N all (TL.make all n (lg.setIfInBounds j true) (p.filter λq=>!edge all j q)) k Q E' M' nx'∧St B W w0 N σ' E' M' nx' b' w') b w:=by
         unfold wpOpIn;rw[ho];simp only []
         split
         ·rename_i hw;rw[if_pos hw] at hs2;exact hs2
         ·rename_i hw;rw[if_neg hw] at hs2;exact⟨λ_ _=>trivial,hs2⟩
        refine wpOp_agree ho (Region.noSelect_spec hsel j o · · ho) (hI.looks hj ho) hab hR ?_ hb
        rintro a' b' w' hab' ⟨E',M',nx',σ',hg',hs'⟩
        have hlt:=left_set (all:=all) hj
        refine ihf m rfl n (lr.setIfInBounds j true) (lg.setIfInBounds j true) _ E' M' nx' σ' a' b' w' (by omega) ⟨by simpa using hI.sr,by simpa using hI.sg,λq hq=>?_,λq hq=>?_,λq hq=>?_,(POrd.filter (λq hq he=>hedge q hq (by simpa using he)) hI.h4).more λq hq=>getD_set_true hq⟩ ?_ hs' hg'
        ·rw[set_tt] at hq ⊢
         by_cases e:q=j
         ·rw[if_pos e] at hq;cases hq
         ·rw[if_neg e] at hq ⊢;exact hI.h1 q hq
        ·rw[set_tt] at hq ⊢
         by_cases e:q=j
         ·rw[if_pos e] at hq;cases hq
         ·rw[if_neg e] at hq ⊢
          refine(hI.h2 q hq).imp id λh5=>List.mem_filter.2 ⟨h5,?_⟩
          cases he:edge all j q with
          | false=>rfl
          | true=>
            have:=getD_ff (hedge q h5 he)
            rw[hq] at this;cases this
        ·have h5:=List.mem_filter.1 hq
         refine⟨(hI.h3 q h5.1).1,?_⟩
         rw[set_tt]
         split
         ·rfl
         ·exact(hI.h3 q h5.1).2
        ·refine⟨hab'.1,hab'.2.1,λt ht=>hab'.2.2 t λ⟨q,hq,h1,o2,h2,h3⟩=>ht ⟨q,List.mem_filter.2 ⟨hq,?_⟩,?_,o2,h2,h3⟩⟩
         ·cases he:edge all j q with
          | false=>rfl
          | true=>
            have:=getD_ff (hedge q hq he)
            rw[h1] at this;cases this
         ·rw[set_tt]
          by_cases e:q=j
          ·subst e
           rw[(hI.h3 q hq).2] at hgj;cases hgj
          ·rw[if_neg e];exact h1
end
section
variable {P:Program} {T:Tab} {N:Cfg} {k:List It} {Q:GQ} {E:Env} {M:Mem} {nx:Nat} {all:Array Oper}
def GULo (P:Program) (T:Tab) (N:Cfg) (o:Option Oper) (all:Array Oper) (sub:TL) (k:List It) (Q:GQ) (E:Env) (M:Mem) (nx:Nat):Prop:=
 match o with | some o=>GO P T N all [o] [] (TQX (GUL P T N all sub k Q)) E M nx | none=>False
def GULt (P:Program) (T:Tab) (N:Cfg) (o:Option Oper) (all:Array Oper) (sub:TL) (k:List It) (Q:GQ) (E:Env) (M:Mem) (nx:Nat):Prop:=
 match o with | some o=>GTkX N (gop T o.op E M nx) o.dst (GUL P T N all sub k Q) E M nx | none=>False
@[go_sem]theorem GUL_done (p:List Nat):GUL P T N all (.done p) k Q E M nx=(PendOK T all p E M nx∧GK P T N k Q .normal E M nx):=(rfl)
@[go_sem]theorem GUL_nil:GUL P T N all .nil k Q E M nx=True:=(rfl)
@[go_sem]theorem GUL_alt (i:Nat) (p:List Nat) (s m:TL):GUL P T N all (.alt i p s m) k Q E M nx=(PendOK T all p E M nx∧GULo P T N all[i]? all s k Q E M nx∧GUL P T N all m k Q E M nx):=(rfl)
@[go_sem]theorem GUL_take (i:Nat) (s:TL):GUL P T N all (.take i s) k Q E M nx=GULt P T N all[i]? all s k Q E M nx:=(rfl)
@[go_sem]theorem GULo_some (o:Oper) (s:TL):GULo P T N (some o) all s k Q E M nx=GO P T N all [o] [] (TQX (GUL P T N all s k Q)) E M nx:=(rfl)
@[go_sem]theorem GULt_some (d:Option Tmp) (op:Op) (ty:TypeId) (pos:String) (af:Array Edge) (g:Option (Nat × Bool)) (s:TL) :
   GULt P T N (some ⟨d,op,ty,pos,af,g⟩) all s k Q E M nx=GTkX N (gop T op E M nx) d (GUL P T N all s k Q) E M nx:=(rfl)
@[go_sem]theorem PendOK_nil:PendOK T all [] E M nx=True:=(rfl)
@[go_sem]theorem PendOK_cons (i:Nat) (l:List Nat):PendOK T all (i::l) E M nx=(PendOp T E M nx all[i]?∧PendOK T all l E M nx):=(rfl)
@[go_sem]theorem PendOp_some (d:Option Tmp) (op:Op) (ty:TypeId) (pos:String) (af:Array Edge) (g:Option (Nat × Bool)):PendOp T E M nx (some ⟨d,op,ty,pos,af,g⟩)=PendG E d (gop T op E M nx):=(rfl)
@[go_sem]theorem PendG_pure (d:Option Tmp) (ob:Prop) (s:SV):PendG E d (.pure ob s)=(ob∧dEq E d s):=(rfl)
@[go_sem]theorem dEq_some (d:Nat) (s:SV):dEq E (some d) s=(E d=s):=(rfl)
@[go_sem]theorem gop_load (t:TypeId) (x:Operand):gop T (.load t x) E M nx=gload T t M (ev E x):=(rfl)
@[go_sem]theorem gop_fieldAddr (t:TypeId) (x:Operand) (f:Nat):gop T (.fieldAddr t x f) E M nx=gfield T t (ev E x) f:=(rfl)
theorem inv0:Inv all (Array.replicate all.size false) (Array.replicate all.size false) []:=by
 refine⟨by simp,by simp,λi h=>h,λi h=>.inl h,λi hi=>by simp at hi,trivial⟩
theorem left0:left all (Array.replicate all.size false)≤all.size:=by
 unfold left
 exact Nat.le_trans (List.length_filter_le _ _) (by simp)
theorem gdraw_l (hT:TabOK P T) (hm:P.follows .mixedOrders=true) {id:Nat} {all:Array Oper} {t:TL} (hsel:Region.noSelect all=true) (ht:TL.make all all.size (Array.replicate all.size false) []=t)
 {k0:List It} {Q0:GQ} {φ:Env→Mem→Nat→Prop} {E':Env} (h0:∀c E M nx,GK P T N k Q (.panic c) E M nx→False)
 (hK:∀(B W:Nat→Prop) (w0:W0) E M nx σ a w,GK P T N k0 Q0 .normal E M nx→St B W w0 N σ E M nx a w→∃E' M' nx' σ',GK P T N k Q .normal E' M' nx'∧St B W w0 N σ' E' M' nx' a w)
 (h:GUL P T N all t k0 Q0 E M nx):GDraw P T N id all k Q E M nx:=by
 subst ht
 intro r hr B W w0 σ a w hs
 have hs':=hs.drawn
 refine wpIn_region_fw (hr.imp (λh=>h) λh=>h) hm (guL_any hT hsel (k:=k0) (Q:=Q0) (B:=B) (W:=W) (w0:=w0) (R:=λe a' w'=>∃E' M' nx' σ',GK P T N k Q e E' M' nx'∧St B W w0 N σ' E' M' nx' a' w') (λE M nx σ a w hk hst=>hK _ _ _ _ _ _ _ _ _ hk hst)
  (λc a w ⟨E,M,nx,σ,hk,_⟩=>h0 _ _ _ _ hk) _ _ _ _ [] E M nx σ a a _ left0 inv0 ⟨rfl,rfl,λ_ _=>rfl⟩ hs' h)
theorem GDraw_l (hT:TabOK P T) (hm:P.follows .mixedOrders=true) {id:Nat} {all:Array Oper} {t:TL} (hsel:Region.noSelect all=true) (ht:TL.make all all.size (Array.replicate all.size false) []=t)
 (hp:∀c E M nx,GK P T N k Q (.panic c) E M nx→False) (h:GUL P T N all t k Q E M nx):GDraw P T N id all k Q E M nx:=
 gdraw_l hT hm hsel ht (φ:=λ_ _ _=>True) (E':=E) hp (λB W w0 E M nx σ a w hk hst=>⟨E,M,nx,σ,hk,hst⟩) h
end
end Go.Gx
