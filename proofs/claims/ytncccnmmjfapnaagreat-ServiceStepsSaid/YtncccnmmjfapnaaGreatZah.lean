/-
 Texts of the walk, merged: Kp Kq Kr.
-/
import Derived.Test.YtncccnmmjfapnaaGreatZae
set_option linter.unusedVariables false
set_option linter.unusedSimpArgs false
set_option maxRecDepth 100000
set_option maxHeartbeats 4000000
namespace Go.Gx
open Go.RowKit
attribute [go_sem] aFp
section
variable {P:Program} {T:Tab} {B W:Nat->Prop} {w0:W0} {N:cZ} {σ σ':Sig} {M M':Mem} {nx:Nat} {w w':World} {a:Act} {E:Env}
theorem xA {n0:Nat} {F:Nat->Prop} (hm:MOK B W n0 σ M F w) {b:Nat} (h:iS σ M b):∃o,w.heap[b]? =some o/\¬qJ (some o):=by
 obtain⟨r,R,L,h1,h2,h3⟩:=h;obtain⟨L',e1,e2⟩:=hm.reg r R h1;rw[h2] at e1;cases e1
 cases R with
 | box l=>obtain⟨b',cs,ty,g1,g2,_⟩:=e2;rw[h3] at g1;cases g1;exact⟨_,g2,eR⟩
 | vec e k n get=>
   obtain⟨_,_,⟨g1,_⟩ | ⟨b',cs,g1,g2,_⟩⟩:=e2
   ·rw[h3] at g1;cases g1
   ·rw[h3] at g1;cases g1;exact⟨_,g2,eR⟩
 | map has val st=>obtain⟨b',es,ck,g1,g2,_⟩:=e2;rw[h3] at g1;cases g1;exact⟨_,g2,lK⟩
 | iter m f c all left la=>obtain⟨b',mo,seen,sp,g1,g2,_⟩:=e2;rw[h3] at g1;cases g1;exact⟨_,g2,oW⟩
theorem aBt {uu:Bool} {V:Nat->Prop} {F:Nat->Prop} {w1:World} (hV:∀b,Zof B σ M w b->¬V b) (hm:MOK B V w.heap.size σ' M' F w') (hfr:Fr uu V w w'):bZ (Zof B σ M w) (Zof B σ' M' w') w w':=λb hz=>by
 have hnw:=hV b hz;have hsz:b<w.heap.size:=hz.1.1;refine⟨⟨⟨Nat.lt_of_lt_of_le hsz hfr.size,hz.1.2⟩,λr R L h1 h2 h3=>?_⟩,hfr.block b hsz hnw⟩;rcases hm.own r R L b h1 h2 h3 with h4 | h4
 ·exact hnw h4
 ·omega
structure RG (l:Nat) (n:Nat) (fn:FuncId) (ps:Array Tmp) (as b:Code) (Ec:Env) (Mc:Mem) (B W:Nat->Prop) (w0:W0):Prop where
 rcd:∃tmps D,w0.heap[l]? =some (.loop {state:=.ready,pending:=none,fn,tmps,params:=ps,assign:=as,body:=b,defers:=D})/\tmps.size=n/\∀t,(Ec t).rel w0.pi (Zof B w0.pi Mc w0) w0 (tmps.getD t undef)
 wof:∀x,W x↔iS w0.pi Mc x
 nw:¬W l
 bl:B l
def qR (E:Env):List Tmp->List SV->Env
 | p::ps,s::ss=>qR (bH E p s) ps ss
 | _,_=>E
@[go_sem]theorem aNr (E:Env) (l:List SV):qR E [] l=E:=by cases l <;> rfl
@[go_sem]theorem bBf (E:Env) (p:Tmp) (ps:List Tmp) (s:SV) (ss:List SV):qR E (p::ps) (s::ss)=qR (bH E p s) ps ss:=(rfl)
theorem aB4 {Z:Nat->Prop}:∀(ps:List Tmp) (ss:List SV) (vs:List Value) (tmps:Array Value) (E:Env),(∀t,(E t).rel σ Z w (tmps.getD t undef))->SV.relL σ Z w ss vs->(∀p∈ps,p<tmps.size)->
 (∀t,(qR E ps ss t).rel σ Z w (((ps.zip vs).foldl (λtmps (t,a)=>tmps.setIfInBounds t a) tmps).getD t undef))/\((ps.zip vs).foldl (λtmps (t,a)=>tmps.setIfInBounds t a) tmps).size=tmps.size
 | [],ss,vs,tmps,E,h,_,_=>by simpa [aNr] using h
 | p::ps,[],vs,tmps,E,h,hv,_=>by cases hv;simpa [qR] using h
 | p::ps,s::ss,vs,tmps,E,h,hv,hp=>by
   obtain⟨v,vs',rfl,h1,h2⟩:=hv;have hp0:=hp p τ;have h3:∀t,(bH E p s t).rel σ Z w ((tmps.setIfInBounds p v).getD t undef):=λt=>by
    by_cases ht:t=p
    ·subst ht;rw[aZ];have:(tmps.setIfInBounds t v).getD t undef=v:=by simp[hp0]
     rw[this];exact h1
    ·rw[aW _ _ ht];have:(tmps.setIfInBounds p v).getD t undef=tmps.getD t undef:=by simp[Array.getElem?_setIfInBounds,Ne.symm ht]
     rw[this];exact h t
   have:=aB4 ps ss vs' (tmps.setIfInBounds p v) (bH E p s) h3 h2 (λq hq=>by simpa using hp q (by simp[hq]));simpa [qR] using this
def aEq (P:Program) (N:cZ) (l:Nat) {β:Type} (enc:β->List SV) (I:List β->Mem->Nat->Prop) (vs:List β):Prop:=
 ∀pre x,pre++[x] <+: vs->∀(d:Option Tmp) (f:Operand) (args:Array Operand) (tys:Array TypeId) (ty:TypeId) (pos:String) (af:Array Edge) (E:Env) (M:Mem) (nx:Nat) (K:Env->Mem->Nat->Prop),
  ev E f=.fn (.yield l) [] []->args.toList.map (ev E)=enc x->dC N.n d->I pre M nx->
  (∀M' nx',N.np<=nx'->I (pre++[x]) M' nx'->K (aK (jC N.np E) d (.b true)) M' nx')->
  qZ P N ⟨d,.call ⟨.value f,args,tys⟩,ty,pos,af,none⟩ E M nx K
def RQ (I:Mem->Nat->Prop):GQ:=λe E M nx=>match e with
 | .normal=>I M nx
 | _=>False
@[go_sem]theorem bC7 (I:Mem->Nat->Prop):RQ I .normal E M nx=I M nx:=(rfl)
theorem vG {σ:Sig} {Z:Nat->Prop} (he:EOK σ Z w E a):∀(l:List Operand),SV.relL σ Z w (l.map (ev E)) (l.map a.eval)
 | []=>rfl
 | x::l=>⟨_,_,rfl,bA he x,vG he l⟩
theorem aG3 {l:Nat} {n np:Nat} {fn:FuncId} {ps:Array Tmp} {as b:Code} {Ec:Env} {Mc:Mem} (hT:aX P T) (hN:N.good.p=RG l n fn ps as b Ec Mc) (hnp:N.np=np) {β:Type} {enc:β->List SV} {I:List β->Mem->Nat->Prop} {vs:List β}
 (hps:∀x,(enc x).length=ps.size) (hlt:∀p∈ps.toList,p<n) (hnd:yR as=true/\yR b=true)
 (round:∀pre x,pre++[x] <+: vs->∀M nx,np<=nx->I pre M nx->GC P T ⟨n,np,aDx⟩ as [.code b] (RQ (I (pre++[x]))) (qR (jC np Ec) ps.toList (enc x)) M nx) :
 aEq P N l enc I vs:=by
 subst hnp;intro pre x hpre d f args tys ty pos af E M nx K hf hargs hd hI hK B W w0 σ a w hs next Q hnext;have hgood:=hs.good;rw[hN] at hgood;obtain⟨⟨tmps,D,hrec,hsz,hec⟩,hwof,hnW,hBl0⟩:=hgood;have hl0:l<w0.heap.size:=fC hrec;have hl:w.heap[l]? =some (.loop {state:=.ready,pending:=none,fn,tmps,params:=ps,assign:=as,body:=b,defers:=D}):=(hs.fr.block l hl0 hnW).trans hrec;have hfv:=bA hs.env f;rw[hf] at hfv;obtain⟨vs1,ws1,hfv,q1,q2⟩:=hfv
 cases q1;cases q2
 have harg:SV.relL σ (Zof B σ M w) w (enc x) (args.toList.map a.eval):=by rw[<- hargs];exact vG hs.env _
 have hlen:(args.map a.eval).size=ps.size:=by
  have:=SV.relL_length harg;rw[hps x] at this;simpa using this
 have hy:=run_yield (P:=P) (args:=args.map a.eval) hl (by simpa using hlen);have hrun:(execOp a.eval ⟨d,.call ⟨.value f,args,tys⟩,ty,pos,af,none⟩).run P w=.ok (.round l fn ((ps.zip (args.map a.eval)).foldl (λtmps (t,a)=>tmps.setIfInBounds t a) tmps) as b) w:=by
  rw[<- hy];simp[execOp,resolve,invoke,hfv,Deferred.ofValue]
 refine⟨λ_ _=>trivial,?_⟩;show Oper.uponIn Fence.wide 0 P ⟨d,.call ⟨.value f,args,tys⟩,ty,pos,af,none⟩ a next Q ((execOp a.eval ⟨d,.call ⟨.value f,args,tys⟩,ty,pos,af,none⟩).run P w);rw[hrun,Oper.uponIn_round];refine⟨by simp[Fence.wide],roundIn_of_wpIn trivial ?_⟩;have hZ:∀x,Zof B w0.pi Mc w0 x->¬W x:=λx hx hw=>by
  obtain⟨r,R,L,h1,h2,h3⟩:=(hwof x).1 hw;exact hx.2 r R L h1 h2 h3
 have hk0:bZ (Zof B w0.pi Mc w0) (Zof B σ M w) w0 w:=aBt (w1:=w) hZ hs.mem hs.fr;have he:∀t,(jC N.np Ec t).rel σ (Zof B σ M w) w (tmps.getD t undef):=λt=>SV.rel_trim (λr L hr hL=>by rw[hs.pin r hr];exact hL) hk0 _ _ (hec t);obtain⟨hpe,hpsz⟩:=aB4 ps.toList (enc x) (args.toList.map a.eval) tmps (jC N.np Ec) he harg (λp hp=>by rw[hsz];exact hlt p hp);have hfold:(ps.zip (args.map a.eval)).foldl (λtmps (t,a)=>tmps.setIfInBounds t a) tmps=(ps.toList.zip (args.toList.map a.eval)).foldl (λtmps (t,a)=>tmps.setIfInBounds t a) tmps:=by
  rw[<- Array.foldl_toList];simp
 rw[hfold];have hBl:∀b,iS σ M b->B b:=λb ⟨r,R,L,h1,h2,h3⟩=>hs.mem.newB b (hs.mem.own r R L b h1 h2 h3).symm;have hWof:∀b,iS σ M b->W b\/w0.heap.size<=b:=λb ⟨r,R,L,h1,h2,h3⟩=>hs.mem.own r R L b h1 h2 h3;have hst:St B (iS σ M) ⟨w,σ⟩ ⟨n,N.np,aDx⟩ σ (qR (jC N.np Ec) ps.toList (enc x)) M nx {tmps:=(ps.toList.zip (args.toList.map a.eval)).foldl (λtmps (t,a)=>tmps.setIfInBounds t a) tmps,defers:=[]} w:=
  ⟨hpe,⟨λb hb=>hb.elim (λhb=>hs.mem.newB b (.inl (Nat.le_trans hs.fr.size hb))) (hBl b),hs.mem.fresh,hs.mem.reg,hs.mem.inj,λr R L b h1 h2 h3=>.inl ⟨r,R,L,h1,h2,h3⟩⟩,Fr.refl _ w,Marks.nil _ _ _ _,hpsz.trans hsz,hs.low,λ_ _=>rfl,trivial⟩
 have hnl:∀{σ M},MOK B W w0.heap.size σ M (eF nx) w->True:=λ_=>trivial;refine Code.wpIn_mono (λe a1 w1 h1=>?_) (dH hT as _ _ _ _ (round pre x hpre M nx hs.low hI) (some l) (.inr hnd.1) B (iS σ M) ⟨w,σ⟩ σ _ w hst);obtain⟨E1,M1,nx1,σ1,g1,hs1⟩:=h1;have hne:e=.normal:=by cases e <;> first | rfl | exact(show False from g1).elim
 subst hne;have hil:qJ w.heap[l]?:=⟨_,hl,trivial⟩;have hnl0:¬iS σ M l:=λh=>by
  obtain⟨o,h1,h2⟩:=xA hs.mem h;rw[hl] at h1;cases h1;exact h2 ⟨_,rfl,trivial⟩
 have hlw:l<w.heap.size:=fC hl;have hl1:w1.heap[l]? =some (.loop {state:=.ready,pending:=none,fn,tmps,params:=ps,assign:=as,body:=b,defers:=D}):=(hs1.fr.block l hlw hnl0).trans hl;refine⟨_,run_beginRound hl1 rfl,?_⟩;have ht1:Turn l w1 (w1.putObj l (.loop {state:=.busy,pending:=none,fn,tmps,params:=ps,assign:=as,body:=b,defers:=D})):=Turn.putObj (Nat.le_refl l) hl1 ⟨_,rfl,trivial⟩ ⟨_,rfl,trivial⟩;generalize hw2:w1.putObj l (.loop {state:=.busy,pending:=none,fn,tmps,params:=ps,assign:=as,body:=b,defers:=D})=w2 at ht1;have hl2:w2.heap[l]? =some (.loop {state:=.busy,pending:=none,fn,tmps,params:=ps,assign:=as,body:=b,defers:=D}):=by
  rw[<- hw2];exact World.putObj_heap_same (fC hl1)
 have hm2:=hs1.mem.turn ht1;have hst2:St B (iS σ1 M1) ⟨w2,σ1⟩ ⟨n,N.np,aDx⟩ σ1 E1 M1 nx1 a1 w2:=by
  have hd:a1.defers=[]:=hs1.defers.1 rfl;refine⟨hs1.env.turn ht1,⟨λb hb=>?_,hm2.fresh,hm2.reg,hm2.inj,λr R L b h1 h2 h3=>.inl ⟨r,R,L,h1,h2,h3⟩⟩,Fr.refl _ w2,by rw[hd];exact Marks.nil _ _ _ _,hs1.size,hs1.low,λ_ _=>rfl,trivial⟩;rcases hb with hb | ⟨r,R,L,h1,h2,h3⟩
  ·exact hm2.newB b (.inl (Nat.le_trans (by rw[ht1.size];exact hs1.fr.size) hb))
  ·exact hm2.newB b (hm2.own r R L b h1 h2 h3).symm
 refine Code.wpIn_mono (λe a3 w3 h3=>?_) (dH hT b _ _ _ _ g1 (some l) (.inr hnd.2) B (iS σ1 M1) ⟨w2,σ1⟩ σ1 _ w2 hst2);obtain⟨E3,M3,nx3,σ3,g3,hs3⟩:=h3;have hne:e=.normal:=by cases e <;> first | rfl | exact(show False from g3).elim
 subst hne;have g3:I (pre++[x]) M3 nx3:=g3;have hnl1:¬iS σ1 M1 l:=λh=>by
  obtain⟨o,h1,h2⟩:=xA hm2 h;rw[hl2] at h1;cases h1;exact h2 ⟨_,rfl,trivial⟩
 have hl3:w3.heap[l]? =some (.loop {state:=.busy,pending:=none,fn,tmps,params:=ps,assign:=as,body:=b,defers:=D}):=(hs3.fr.block l (fC hl2) hnl1).trans hl2;refine⟨_,_,run_endRound none hl3,?_⟩;have ht3:Turn l w3 (w3.putObj l (.loop {state:=.ready,pending:=none,fn,tmps,params:=ps,assign:=as,body:=b,defers:=D})):=Turn.putObj (Nat.le_refl l) hl3 ⟨_,rfl,trivial⟩ ⟨_,rfl,trivial⟩;show next _ (w3.putObj l (.loop {state:=.ready,pending:=none,fn,tmps,params:=ps,assign:=as,body:=b,defers:=D}));generalize hw4:w3.putObj l (.loop {state:=.ready,pending:=none,fn,tmps,params:=ps,assign:=as,body:=b,defers:=D})=w4 at ht3;have hl4:w4.heap[l]? =some (.loop {state:=.ready,pending:=none,fn,tmps,params:=ps,assign:=as,body:=b,defers:=D}):=by
  rw[<- hw4];exact World.putObj_heap_same (fC hl3)
 have hW1:∀b,iS σ1 M1 b->iS σ M b\/w.heap.size<=b:=λb ⟨r,R,L,h1,h2,h3⟩=>hs1.mem.own r R L b h1 h2 h3;have hs12:w.heap.size<=w2.heap.size:=by rw[ht1.size];exact hs1.fr.size
 have hsame:∀b,b<w.heap.size->¬iS σ M b->w4.heap[b]? =w.heap[b]?:=λb hb hn=>by
  by_cases e:b=l
  ·subst e;rw[hl4,hl]
  ·have e1:w1.heap[b]? =w.heap[b]?:=hs1.fr.block b hb hn;have e2:w2.heap[b]? =w1.heap[b]?:=by rw[<- hw2];exact World.putObj_heap_other e
   have e3:w3.heap[b]? =w2.heap[b]?:=hs3.fr.block b (Nat.lt_of_lt_of_le hb hs12) λh=>(hW1 b h).elim hn λh=>absurd hb (Nat.not_lt.2 h);have e4:w4.heap[b]? =w3.heap[b]?:=by rw[<- hw4];exact World.putObj_heap_other e
   rw[e4,e3,e2,e1]
 have hm4:=hs3.mem.turn ht3;have hown4:∀b,iS σ3 M3 b->iS σ M b\/w.heap.size<=b:=λb ⟨r,R,L,h1,h2,h3⟩=>(hs3.mem.own r R L b h1 h2 h3).elim (hW1 b) λh=>.inr (Nat.le_trans hs12 h);have hk4:bZ (Zof B σ M w) (Zof B σ3 M3 w4) w w4:=λb hz=>by
  have hnw:¬iS σ M b:=λ⟨r,R,L,h1,h2,h3⟩=>hz.2 r R L h1 h2 h3;refine⟨⟨⟨?_,hz.1.2⟩,λr R L h1 h2 h3=>?_⟩,hsame b hz.1.1 hnw⟩
  ·rw[ht3.size];exact Nat.lt_of_lt_of_le hz.1.1 (Nat.le_trans hs12 hs3.fr.size)
  ·exact(hown4 b ⟨r,R,L,h1,h2,h3⟩).elim hnw λh=>absurd hz.1.1 (Nat.not_lt.2 h)
 have hpin:∀r,r<N.np->σ3 r=σ r:=λr hr=>(hs3.pin r hr).trans (hs1.pin r hr);refine hnext _ _ _ _ _ _ (hK M3 nx3 hs3.low g3) (St.put ⟨λt=>SV.rel_trim (λr L hr hL=>by rw[hpin r hr];exact hL) hk4 _ _ (hs.env t),⟨hs.mem.newB,hm4.fresh,hm4.reg,hm4.inj,λr R L b h1 h2 h3=>?_⟩,?_,hs.defers.keep hk4,hs.size,hs3.low,λr hr=>(hpin r hr).trans (hs.pin r hr),hs.good⟩ hd rfl)
 ·exact(hown4 b ⟨r,R,L,h1,h2,h3⟩).elim (hWof b) λh=>.inr (Nat.le_trans hs.fr.size h)
 ·refine⟨?_,?_,?_,?_,?_,λb hb hn=>?_⟩
  ·rw[ht3.os,hs3.fr.os,<- hs.fr.os];exact ht1.os.trans hs1.fr.os
  ·rw[ht3.tape,hs3.fr.tape,<- hs.fr.tape];exact ht1.tape.trans hs1.fr.tape
  ·rw[ht3.output,hs3.fr.output,<- hs.fr.output];exact ht1.output.trans hs1.fr.output
  ·rw[ht3.size];exact Nat.le_trans hs.fr.size (Nat.le_trans hs12 hs3.fr.size)
  ·exact hs.fr.drawn.trans (Dr.to (hs1.fr.drawn.trans (ht1.dr.trans (hs3.fr.drawn.trans ht3.dr hs3.fr.size) (Nat.le_of_eq ht1.size.symm)) hs1.fr.size)) hs.fr.size
  ·rw[hsame b (Nat.lt_of_lt_of_le hb hs.fr.size) λh=>(hWof b h).elim hn λh=>absurd hb (Nat.not_lt.2 h)];exact hs.fr.block b hb hn
def aJu (P:Program) (T:Tab) {β:Type} (gf:FuncId) (ca:List SV) (enc:β->List SV) (vs:List β):Prop:=
 ∃gfn c,P.funcs[gf]? =some gfn/\gfn.body=some c/\(gfn.name== "runtime.NumGoroutine")=false/\ca.length+1<=gfn.ntmps/\
  ∀(np:Nat) (good:Gd) (l:Nat) (I:List β->Mem->Nat->Prop) (M:Mem) (nx:Nat),np<=nx->I [] M nx->(∀pre M nx R,np<=nx->I pre M nx->I pre (bH M nx (some R)) (nx+1))->
   aEq P ⟨gfn.ntmps,np,good⟩ l enc I vs->GC P T ⟨gfn.ntmps,np,good⟩ c [] (aFp T gfn.results.toList λ_ M' nx'=>I vs M' nx') (kT (.fn (.yield l) [] []::ca)) M nx
def aCq (P:Program) (T:Tab) (N:cZ) (g:Operand) (ps:Array Tmp) (as b:Code) (k:List It) (Q:GQ) (E:Env) (M:Mem) (nx:Nat):Prop:=GW P N (.rangeFunc g ps as b) E M nx (GK P T N k Q)
@[go_sem]theorem bDw {k:List It} {Q:GQ} (g:Operand) (ps:Array Tmp) (as b:Code):GC P T N (.rangeFunc g ps as b) k Q E M nx=aCq P T N g ps as b k Q E M nx:=(rfl)
theorem aHb {k:List It} {Q:GQ} {g:Operand} {ps:Array Tmp} {as b:Code} {E':Env} {nx':Nat} (h:GSt N E M nx E' M' nx') (hr:aCq P T N g ps as b k Q E' M' nx'):aCq P T N g ps as b k Q E M nx:=GW.pre h hr
theorem aEn (hT:aX P T) {k:List It} {Q:GQ} {g:Operand} {ps:Array Tmp} {as b:Code} {β:Type} (enc:β->List SV) (vs:List β) (np:Nat) (I:List β->Mem->Nat->Prop)
 {gf:FuncId} {ca:List SV} (hg:ev E g=.fn (.func gf) [] ca) (hit:aJu P T gf ca enc vs) (hps:∀x,(enc x).length=ps.size) (hlt:∀p∈ps.toList,p<N.n) (hnd:yR as=true/\yR b=true) (hmd:N.good.md=true)
 (hnp:N.np<=np) (hnx:np<=nx) (h0:I [] M nx) (hst:∀pre M nx R,np<=nx->I pre M nx->I pre (bH M nx (some R)) (nx+1))
 (round:∀pre x,pre++[x] <+: vs->∀M nx,np<=nx->I pre M nx->GC P T ⟨N.n,np,aDx⟩ as [.code b] (RQ (I (pre++[x]))) (qR (jC np E) ps.toList (enc x)) M nx)
 (hk:∀M nx,np<=nx->I vs M nx->GK P T N k Q .normal (jC np E) M nx):aCq P T N g ps as b k Q E M nx:=by
 intro r hr B W w0 σ a w hs;have hr0:r=none:=hr.resolve_right (by simp[yR]);subst hr0;obtain⟨gfn,c,hf,hb,hn,hlen,hit⟩:=hit;have hgv:=bA hs.env g;rw[hg] at hgv;obtain⟨vs1,ws,hgv,q1,q2⟩:=hgv
 cases q1
 refine wpIn_rangeFunc λfn _=>?_;obtain⟨rcd,hrcd⟩:∃rcd:Loop,rcd={state:=.ready,pending:=none,fn,tmps:=a.tmps,params:=ps,assign:=as,body:=b,defers:=w.heap.size}:=⟨_,rfl⟩;obtain⟨w1,hw1⟩:∃w1,(w.alloc (.deferred (some []))).alloc (.loop rcd)=w1:=⟨_,rfl⟩;have hsz1:w1.heap.size=w.heap.size+2:=by rw[<- hw1];simp
 have hl1:w1.heap[w.heap.size+1]? =some (.loop rcd):=by
  rw[<- hw1];have:=World.alloc_heap_new (w.alloc (.deferred (some []))) (.loop rcd);rwa [World.size_alloc] at this
 have hD1:w1.heap[w.heap.size]? =some (.deferred (some [])):=by
  rw[<- hw1];exact(Below.heap_alloc _ _ _ τ).trans (World.alloc_heap_new w _)
 have hold:∀b,b<w.heap.size->w1.heap[b]? =w.heap[b]?:=λb hb=>by
  rw[<- hw1];exact(Below.heap_alloc _ _ _ ι).trans (Below.heap_alloc _ _ _ hb)
 have hk1:bZ (Zof B σ M w) (Zof B σ M w1) w w1:=λb hb=>⟨⟨⟨by rw[hsz1];have:=hb.1.1;omega,hb.1.2⟩,hb.2⟩,hold b hb.1.1⟩;have hWlt:∀b,iS σ M b->b<w.heap.size:=λb h=>by
  obtain⟨o,h1,_⟩:=xA hs.mem h;exact fC h1
 have hWB:∀b,iS σ M b->W b\/w0.heap.size<=b:=λb ⟨r,R,L,h1,h2,h3⟩=>hs.mem.own r R L b h1 h2 h3;have hnB:∀b,w.heap.size<=b->B b:=λb hb=>hs.mem.newB b (.inl (Nat.le_trans hs.fr.size hb));have hm1:MOK B (iS σ M) w1.heap.size σ M (eF nx) w1:=⟨λb hb=>hb.elim (λh=>hnB b ω) (λh=>hs.mem.newB b (hWB b h).symm),hs.mem.fresh,λr R hr=>by
  obtain⟨L,e1,e2⟩:=hs.mem.reg r R hr;exact⟨L,e1,e2.mono (λ_ _ h=>h) hk1 λb hb=>hold b (hWlt b ⟨r,R,L,hr,e1,hb⟩)⟩,hs.mem.inj,λr R L b h1 h2 h3=>.inl ⟨r,R,L,h1,h2,h3⟩⟩
 have hgood:RG (w.heap.size+1) N.n fn ps as b E M B (iS σ M) ⟨w1,σ⟩:=by
  refine⟨⟨a.tmps,w.heap.size,by rw[hl1,hrcd],hs.size,λt=>SV.rel_mono (λ_ _ h=>h) hk1 _ _ (hs.env t)⟩,λx=>Iff.rfl,λh=>?_,hnB _ ω⟩;have:=hWlt _ h;omega
 refine⟨w.heap.size+1,[{target:=.collected w.heap.size,args:=#[]}],w1,{target:=.fn (.func gf) ws.toArray,args:=#[.func (.yield (w.heap.size+1)) #[] #[]]},w1,gf,
  #[.func (.yield (w.heap.size+1)) #[] #[]]++ws.toArray,w1,?_,?_,λ_ _=>trivial,?_,by simp[fw,Fence.wide],?_⟩
 ·rw[<- hw1,hrcd];exact run_enterLoop_outer _ _ _ _ _
 ·simp only [resolve,hgv];simp[go_sem]
 ·simp[invoke,fB hf hb hn]
 have harr:(#[Value.func (.yield (w.heap.size+1)) #[] #[]]++ws.toArray)=(Value.func (.yield (w.heap.size+1)) #[] #[]::ws).toArray:=τ;rw[harr];have ha:SV.relL σ (Zof B σ M w1) w1 (.fn (.yield (w.heap.size+1)) [] []::ca) (Value.func (.yield (w.heap.size+1)) #[] #[]::ws):=
  ⟨_,_,rfl,⟨[],[],rfl,rfl,rfl⟩,SV.relL_mono (λ_ _ h=>h) hk1 _ _ q2⟩
 have hy:=aG3 (P:=P) (N:=⟨gfn.ntmps,np,⟨RG (w.heap.size+1) N.n fn ps as b E M,true,true⟩⟩) hT rfl rfl hps hlt hnd round;have hG:=hit np ⟨RG (w.heap.size+1) N.n fn ps as b E M,true,true⟩ (w.heap.size+1) I M nx hnx h0 hst hy;refine(callsIn_wide (n:=0)).2 ((eQ hT hf hb (by simpa using hlen) hnx hgood hm1 ha hG).mono λe w2 h2=>?_);obtain⟨s,y,σ2,M2,nx2,rfl,hI,_,hm2,hfr2,hlow2,hpin2⟩:=h2;have hnWl:¬iS σ M (w.heap.size+1):=λh=>by have:=hWlt _ h;omega
 have hnWD:¬iS σ M w.heap.size:=λh=>by have:=hWlt _ h;omega
 have hl2:w2.heap[w.heap.size+1]? =some (.loop rcd):=(hfr2.block _ (by show _<w1.heap.size;omega) hnWl).trans hl1;have hD2:w2.heap[w.heap.size]? =some (.deferred (some [])):=(hfr2.block _ (by show _<w1.heap.size;omega) hnWD).trans hD1;refine⟨rcd.pending,_,run_endLoop hl2 (by rw[hrcd];simp),?_⟩;have ht:Turn w0.heap.size w2 (w2.putObj (w.heap.size+1) (.loop {rcd with state:=.exhausted})):=Turn.putObj (by have:=hs.fr.size;omega) hl2 ⟨_,rfl,trivial⟩ ⟨_,rfl,trivial⟩;have hoth:∀b,b≠w.heap.size+1->(w2.putObj (w.heap.size+1) (.loop {rcd with state:=.exhausted})).heap[b]? =w2.heap[b]?:=λb hb=>World.putObj_heap_other hb;generalize w2.putObj (w.heap.size+1) (.loop {rcd with state:=.exhausted})=w3 at ht hoth;have hpd:rcd.pending=none:=by rw[hrcd]
 rw[hpd];show ∃E' M' nx' σ',_/\St B W w0 N σ' E' M' nx' _ w3;have hk2:bZ (Zof B σ M w1) (Zof B σ2 M2 w2) w1 w2:=aBt (w1:=w2) (λb hb ⟨r,R,L,h1,h2,h3⟩=>hb.2 r R L h1 h2 h3) hm2 hfr2;have hown2:∀b,iS σ2 M2 b->iS σ M b\/w1.heap.size<=b:=λb ⟨r,R,L,h1,h2,h3⟩=>hm2.own r R L b h1 h2 h3;have hsz2:w1.heap.size<=w2.heap.size:=hfr2.size;have hk12:bZ (Zof B σ M w) (Zof B σ2 M2 w2) w w2:=λb hb=>⟨(hk2 b (hk1 b hb).1).1,(hk2 b (hk1 b hb).1).2.trans (hk1 b hb).2⟩;have hk3:bZ (Zof B σ M w) (Zof B σ2 M2 w3) w w3:=λb hb=>by
  have h:=hk12 b hb;refine⟨Zof.turn ht b h.1,?_⟩;rw[hoth b (by have:=hb.1.1;omega)];exact h.2
 have hm3:=hm2.turn ht;refine⟨jC np E,M2,nx2,σ2,hk M2 nx2 hlow2 hI,λt=>?_,⟨hs.mem.newB,hm3.fresh,hm3.reg,hm3.inj,λr R L b h1 h2 h3=>?_⟩,?_,?_,hs.size,Nat.le_trans hnp hlow2,λr hr=>?_,hs.good⟩
 ·exact SV.rel_trim (λr L hr hL=>by rw[hpin2 r hr];exact hL) hk3 _ _ (hs.env t)
 ·exact(hown2 b ⟨r,R,L,h1,h2,h3⟩).elim (hWB b) λh=>.inr (by have:=hs.fr.size;omega)
 ·refine⟨?_,?_,?_,?_,?_,λb hb hn=>?_⟩
  ·rw[ht.os,hfr2.os,<- hs.fr.os];rw[<- hw1];rfl
  ·rw[ht.tape,hfr2.tape,<- hs.fr.tape];rw[<- hw1];rfl
  ·rw[ht.output,hfr2.output,<- hs.fr.output];rw[<- hw1];rfl
  ·rw[ht.size];have:=hs.fr.size;omega
  ·have h1:Dr true w w1:=by rw[<- hw1];exact(Dr.alloc w _ (by intro c t fr h;cases h)).trans (Dr.alloc _ _ (by intro c t fr h;cases h))
   exact hs.fr.drawn.trans (h1.to.trans (hfr2.drawn.to.trans ht.dr hfr2.size) ω) hs.fr.size
  ·have hbw:b<w.heap.size:=Nat.lt_of_lt_of_le hb hs.fr.size;rw[hoth b ω,hfr2.block b (by show b<w1.heap.size;omega) λh=>(hWB b h).elim hn λh=>ω];exact(hold b hbw).trans (hs.fr.block b hb hn)
 ·obtain⟨_,l,d1,d2,d3⟩:=hs.defers;refine⟨λh=>(by rw[hmd] at h;cases h),w.heap.size::l,by simp[d1],List.nodup_cons.2 ⟨λh=>?_,d2⟩,λD hD=>?_⟩
  ·have:=fC (d3 _ h).2.2;omega
  ·rcases List.mem_cons.1 hD with rfl | hD
   ·refine⟨hs.fr.size,Zof.turn ht _ ⟨⟨ω,hnB _ (Nat.le_refl _)⟩,λr R L h1 h2 h3=>?_⟩,by rw[hoth _ ω];exact hD2⟩;rcases hown2 _ ⟨r,R,L,h1,h2,h3⟩ with h | h
    ·exact hnWD h
    ·omega
   ·have h:=d3 D hD;exact⟨h.1,(hk3 D h.2.1).1,(hk3 D h.2.1).2.trans h.2.2⟩
 ·exact(hpin2 r (Nat.lt_of_lt_of_le hr hnp)).trans (hs.pin r hr)
end
end Go.Gx
namespace Go.Gx
open Go.RowKit
def eqS (E:Env):List (Nat × SV)->Prop
 | []=>True
 | p::l=>E p.1=p.2/\eqS E l
@[go_sem]theorem bHv (E:Env):eqS E []=True:=(rfl)
@[go_sem]theorem bE7 (E:Env) (t:Nat) (s:SV) (l:List (Nat × SV)):eqS E ((t,s)::l)=(E t=s/\eqS E l):=(rfl)
theorem aKe {E:Env}:∀{l:List (Nat × SV)},eqS E l->∀p∈l,E p.1=p.2
 | [],_,p,hp=>by simp at hp
 | q::l,h,p,hp=>by
   rcases List.mem_cons.1 hp with rfl | hp
   ·exact h.1
   ·exact aKe h.2 p hp
theorem aDb {E:Env} {l:List (Nat × SV)} (h:eqS E l):iP E l=E:=uU E l (aKe h)
section
variable {P:Program} {T:Tab} {N:cZ} {k:List It} {Q:GQ} {E:Env} {M:Mem} {nx:Nat}
theorem aQ6 {α:Type} {body:Code} {Q:Exit->Env->Mem->Nat->Prop} (S:α->List (Nat × SV)) (I:α->Mem->Nat->Prop) (μ:α->Nat) (x0:α) (h0:I x0 M nx) (hE:eqS E (S x0))
 (round:∀x J M nx,N.np<=nx->I x M nx->GW P N body (iP J (S x)) M nx (vR (λE' M' nx'=>∃x',μ x'<μ x/\eqS E' (S x')/\I x' M' nx') Q)):GW P N (.loop body) E M nx Q:=by
 intro r hr B W w0 σ a w hs;refine iY (λk a w=>∃x,μ x=k/\∃E M nx σ',eqS E (S x)/\I x M nx/\St B W w0 N σ' E M nx a w) (μ x0) ⟨x0,rfl,E,M,nx,σ,hE,h0,hs⟩ λk a w h=>?_;obtain⟨x,rfl,E,M,nx,σ',he,hi,hst⟩:=h;have:=round x E M nx hst.low hi;rw[aDb he] at this;refine Code.wpIn_mono (λe a' w' h'=>?_) (this r (hr.imp (λh=>h) λh=>by simpa [yR] using h) B W w0 σ' a w hst);obtain⟨E',M',nx',σ'',q,hs'⟩:=h'
 cases e with
 | normal=>
   obtain⟨x',i1,i2,i3⟩:=q;exact⟨μ x',i1,x',rfl,_,_,_,_,i2,i3,hs'⟩
 | _=>exact⟨E',M',nx',σ'',q,hs'⟩
def LP (P:Program) (T:Tab) (N:cZ) {α:Type} (S:α->List (Nat × SV)) (I:α->Mem->Nat->Prop) (μ:α->Nat) (x:α) (k:List It) (Q:GQ):GQ:=
 vR (λE' M' nx'=>∃x',μ x'<μ x/\eqS E' (S x')/\I x' M' nx') (GK P T N k Q)
section
variable {α:Type} {S:α->List (Nat × SV)} {I:α->Mem->Nat->Prop} {μ:α->Nat} {x:α}
@[go_sem]theorem aA6:LP P T N S I μ x k Q .normal E M nx=∃x',μ x'<μ x/\eqS E (S x')/\I x' M nx:=(rfl)
@[go_sem]theorem aUo (i:Nat):LP P T N S I μ x k Q (.exit i) E M nx=GK P T N k Q (.exit i) E M nx:=(rfl)
@[go_sem]theorem bIe:LP P T N S I μ x k Q .ret E M nx=GK P T N k Q .ret E M nx:=(rfl)
end
theorem dW (hT:aX P T) {α:Type} {c:Code} (S:α->List (Nat × SV)) (I:α->Mem->Nat->Prop) (μ:α->Nat) (x0:α) (h0:I x0 M nx) (hE:eqS E (S x0))
 (round:∀x J M nx,N.np<=nx->I x M nx->GC P T N c [] (LP P T N S I μ x k Q) (iP J (S x)) M nx):rZ P T N c k Q E M nx:=
 aQ6 S I μ x0 h0 hE λx J M nx hn hi=>dH hT c _ _ _ _ (round x J M nx hn hi)
def JP (S:List (Nat × SV)) (φ:Mem->Nat->Prop):GQ:=λe E M nx=>match e with
 | .normal=>eqS E S/\φ M nx
 | _=>False
@[go_sem]theorem bC0 (S:List (Nat × SV)) (φ:Mem->Nat->Prop):JP S φ .normal E M nx=(eqS E S/\φ M nx):=(rfl)
end
section
variable {P:Program} {T:Tab} {N:cZ} {k:List It} {Q:GQ} {E:Env} {M:Mem} {nx:Nat}
theorem jJ (S:List (Nat × SV)) (φ:Mem->Nat->Prop) {id:Nat} {all:Array Oper} (h:iF P T N id all [] (JP S φ) E M nx) (hk:∀J M nx,φ M nx->GK P T N k Q .normal (iP J S) M nx):iF P T N id all k Q E M nx:=by
 refine GW.mono h λe E M nx hq=>?_
 match e,hq with
 | .normal,hq=>
   have hq:eqS E S/\φ M nx:=hq;have:=hk E M nx hq.2
   rwa [aDb hq.1] at this
end
def vq (N:cZ) (Q:GQ):GQ:=λe E M nx=>∃E1 M1 nx1,GSt N E M nx E1 M1 nx1/\Q e E1 M1 nx1
section
variable {P:Program} {T:Tab} {N:cZ} {k:List It} {Q:GQ} {E:Env} {M:Mem} {nx:Nat} {e:Exit}
theorem GSt.wk {M':Mem} (hs:∀r,Reg.wk (M r) (M' r)):GSt N E M nx E M' nx:=λB W w0 σ a w h=>by
 obtain⟨m1,m2⟩:=h.mem.wk hs;exact⟨σ,λt=>SV.rel_mono (λ_ _ h=>h) (λb hb=>⟨m2 b hb,rfl⟩) _ _ (h.env t),m1,h.fr,h.defers.keep λb hb=>⟨m2 b hb,rfl⟩,h.size,h.low,h.pin,h.good⟩
theorem aT (h:Q e E M nx):vq N Q e E M nx:=⟨E,M,nx,GSt.refl,h⟩
theorem aV {E1:Env} {M1:Mem} {nx1:Nat} (hv:GSt N E M nx E1 M1 nx1) (h:vq N Q e E1 M1 nx1):vq N Q e E M nx:=by
 obtain⟨E2,M2,nx2,h1,h2⟩:=h;exact⟨E2,M2,nx2,hv.trans h1,h2⟩
theorem GW.vq {c:Code} (h:GW P N c E M nx (Go.Gx.vq N Q)):GW P N c E M nx Q:=λr hr B W w0 σ a w hs=>
 wpIn_mono (h r hr B W w0 σ a w hs) λe a' w' ⟨E',M',nx',σ',⟨E1,M1,nx1,hv,h1⟩,h2⟩=>by
  obtain⟨σ1,h3⟩:=hv _ _ _ _ _ _ h2;exact⟨E1,M1,nx1,σ1,h1,h3⟩
theorem aEl (hT:aX P T) {α:Type} {c:Code} (S:α->List (Nat × SV)) (I:α->Mem->Nat->Prop) (μ:α->Nat) (x0:α) (h0:I x0 M nx) (hE:eqS E (S x0))
 (round:∀x J M nx,N.np<=nx->I x M nx->GC P T N c [] (Go.Gx.vq N (LP P T N S I μ x k Q)) (iP J (S x)) M nx):rZ P T N c k Q E M nx:=
 aQ6 S I μ x0 h0 hE λx J M nx hn hi=>GW.vq (dH hT c _ _ _ _ (round x J M nx hn hi))
end
section
variable {P:Program} {T:Tab} {B W:Nat->Prop} {σ:Sig} {M:Mem} {nx:Nat} {w:World}
theorem aE0 (hT:aX P T) {f:FuncId} {fn:Func} {c:Code} (hf:P.funcs[f]? =some fn) (hb:fn.body=some c) {args:List SV} {vs:List Value} (hlen:args.length<=fn.ntmps) {K:SV->Mem->Nat->Prop} {np:Nat} (hnp:np<=nx)
 {good:Gd} (hgood:good.p B W ⟨w,σ⟩)
 (hm:MOK B W w.heap.size σ M (eF nx) w) (ha:SV.relL σ (Zof B σ M w) w args vs) (h:GW P ⟨fn.ntmps,np,good⟩ c (kT args) M nx (aFp T fn.results.toList K)) :
 Calls P f vs.toArray w λe w'=>∃s y σ' M' nx',e=.returned y/\K s M' nx'/\s.rel σ' (Zof B σ' M' w') w' y/\MOK B W w.heap.size σ' M' (eF nx') w'/\Fr good.u W w w'/\np<=nx'/\∀r,r<np->σ' r=σ r:=by
 have hl:=SV.relL_length ha;refine(callsIn_wide (n:=0)).1 (callsIn_of_wp_marks hf hb trivial (Code.wpIn_mono (λe a' w' h'=>?_) (h none (.inl rfl) B W ⟨w,σ⟩ σ _ w ⟨λt=>aFf ha _ t,hm,Fr.refl W w,Marks.nil _ _ _ _,ι,hnp,λ_ _=>rfl,hgood⟩)));obtain⟨E',M',nx',σ',q,hs⟩:=h';have fin:∀h:nS T E' M' fn.results.toList (λvs=>K (aFn vs) M' nx'),LeavesInM Fence.wide 0 P fn a'.tmps (λe w'=>∃s y σ' M' nx',e=.returned y/\K s M' nx'/\s.rel σ' (Zof B σ' M' w') w' y/\MOK B W w.heap.size σ' M' (eF nx') w'/\Fr good.u W w w'/\np<=nx'/\∀r,r<np->σ' r=σ r) a'.defers .returning w':=by
  intro h;obtain⟨_,l,d1,d2,d3⟩:=hs.defers;rw[d1];refine aDq (n0:=w.heap.size) l w' d2 (λD hD=>⟨(d3 D hD).1,(d3 D hD).2.2⟩) λw'' ht=>?_;have hm2:=hs.mem.turn ht;obtain⟨s,y,h1,h2,h3⟩:=vJ (w0:=⟨w,σ⟩) hT (K:=λs=>K s M' nx') hm2 (hs.env.turn ht) h;exact⟨y,h1,s,y,σ',M',nx',rfl,h3,h2,hm2,hs.fr.turn ht,hs.low,hs.pin⟩
 cases e with
 | ret=>exact fin q
 | normal=>exact fin q
 | _=>exact q.elim
theorem cM (hT:aX P T) {f:FuncId} {fn:Func} (hf:P.funcs[f]? =some fn) {c:Code} (hb:fn.body=some c) (hn:(fn.name== "runtime.NumGoroutine")=false) {args:List SV} (hlen:args.length<=fn.ntmps) {Rs Rs':List Reg} {S:SV}
 {N:Nat} {rs:List ResultVar} (hN:fn.ntmps=N) (hrs:fn.results.toList=rs) (h:GC P T ⟨N,0,gG⟩ c [] (Go.Gx.vq ⟨N,0,gG⟩ (mQ T rs λs M=>∃ρl,vQ M s ρl S Rs')) (kT args) (bD Rs) Rs.length):Own P f Rs args S Rs':=by
 subst hN;subst hrs;intro B σ w vs hm ha;refine⟨fB hf hb hn _,?_⟩;rw[sQ] at h;refine(aE0 hT hf hb hlen (Nat.zero_le _) (good:=gG) trivial hm ha (GW.vq (dH hT c _ _ _ _ h))).mono λe w' h'=>?_;obtain⟨s,y,σ',M',nx',rfl,⟨ρl,h1,h2⟩,hrel,hm',hfr,_,hpin⟩:=h';obtain⟨h3,h4⟩:=h2 nx';obtain⟨m1,m2⟩:=hm'.export (hm'.fresh nx' (Nat.le_refl nx')) h1 h4;exact⟨y,_,rfl,m1,SV.rel_mono (λ_ _ h=>h) (λb hb=>⟨m2 b hb,rfl⟩) _ _ ((SV.rel_ren _ _).1 (SV.sub_rel _ _ _ h3 hrel)),⟨hfr.os,hfr.tape,hfr.output,hfr.size,hfr.drawn,hfr.block⟩,λr hr=>absurd hr (Nat.not_lt_zero r)⟩
end
end Go.Gx
