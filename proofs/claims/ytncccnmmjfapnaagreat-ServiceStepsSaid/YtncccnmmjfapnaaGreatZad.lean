/-
 Texts of the walk, merged: K4.
-/
import Derived.Test.YtncccnmmjfapnaaGreatZac
import Derived.Orders
set_option linter.unusedVariables false
set_option linter.unusedSimpArgs false
set_option maxRecDepth 100000
set_option maxHeartbeats 4000000
namespace Go.Gx
open Go.RowKit
mutual
def SV.refs:SV->List Nat
 | .r _=>[]
 | .ptr q _ _ _=>[q]
 | .sl q _ _ _ _=>[q]
 | .mp q=>[q]
 | .fn _ fi ca=>SV.refsL fi++SV.refsL ca
 | .agg l=>SV.refsL l
 | .tup l=>SV.refsL l
def SV.refsL:List SV->List Nat
 | []=>[]
 | s::l=>s.refs++SV.refsL l
end
section
variable {P:Program} {T:Tab} {B W F:Nat->Prop} {w0:W0} {N:cZ} {n0:Nat} {σ σ':Sig} {M M':Mem} {nx:Nat} {w w':World} {a:Act} {E E':Env}
mutual
theorem SV.refs_rel {Z:Nat->Prop}:∀(s:SV) (y:Value),s.rel σ Z w y->∀p∈s.refs,∃L,σ p=some L
 | .r x,y,h,q',hr=>by simp[SV.refs] at hr
 | .ptr q _ _ _,y,h,q',hr=>by
   simp[SV.refs] at hr;subst hr;obtain⟨L,b,h1,_⟩:=h;exact⟨L,h1⟩
 | .sl q _ _ _ _,y,h,q',hr=>by
   simp[SV.refs] at hr;subst hr;obtain⟨L,A,h1,_⟩:=h;exact⟨L,h1⟩
 | .mp q,y,h,q',hr=>by
   simp[SV.refs] at hr;subst hr;obtain⟨L,b,h1,_⟩:=h;exact⟨L,h1⟩
 | .fn f fi ca,y,h,q',hr=>by
   obtain⟨vs,ws,e,h1,h2⟩:=h;simp only [SV.refs,List.mem_append] at hr;rcases hr with hr | hr
   ·exact SV.refsL_rel fi vs h1 q' hr
   ·exact SV.refsL_rel ca ws h2 q' hr
 | .agg l,y,h,q',hr=>by
   obtain⟨vs,e,h1,h2⟩:=h;exact SV.refsL_rel l vs h2 q' hr
 | .tup l,y,h,q',hr=>by
   obtain⟨vs,e,h2⟩:=h;exact SV.refsL_rel l vs h2 q' hr
theorem SV.refsL_rel {Z:Nat->Prop}:∀(l:List SV) (ys:List Value),SV.relL σ Z w l ys->∀p∈SV.refsL l,∃L,σ p=some L
 | [],ys,h,q',hr=>by simp[SV.refsL] at hr
 | s::l,ys,h,q',hr=>by
   obtain⟨v,vs',e,h1,h2⟩:=h;simp only [SV.refsL,List.mem_append] at hr;rcases hr with hr | hr
   ·exact SV.refs_rel s v h1 q' hr
   ·exact SV.refsL_rel l vs' h2 q' hr
end
theorem aFo (t:TypeId) (s:SV) (h:∀q∈s.refs,M' q=M q):oO T t M' s=oO T t M s:=by
 unfold oO
 cases T.ti t with
 | none=>rfl
 | some i=>
   cases s with
   | ptr q row k fld=>simp only [h q (by simp[SV.refs])]
   | r x=>cases x <;> rfl
   | _=>rfl
theorem aDo (t:TypeId) (s x:SV) (h:∀q∈s.refs,M' q=M q):oQ T t M' s x=oQ T t M s x:=by
 unfold oQ
 cases T.ti t with
 | none=>rfl
 | some i=>
   cases s with
   | ptr q row k fld=>simp only [h q (by simp[SV.refs])]
   | _=>rfl
theorem tE (k:Nat) (x:SV) (h:∀q∈x.refs,M' q=M q):gH M' k x=gH M k x:=by
 unfold gH
 cases x with
 | sl q k' lo m c=>simp only [h q (by simp[SV.refs])]
 | r x=>
   cases x with
   | v x=>
     cases x with
     | slice A n c=>
       cases A with
       | none=>cases n <;> first | rfl | (cases c <;> rfl)
       | some A=>rfl
     | _=>rfl
   | _=>rfl
 | _=>rfl
theorem xZ (e:TypeId) (ei:TI) (s:SV) (ob:Prop) (m:Nat) (get:Nat->Nat->SV) (h:∀q∈s.refs,M' q=M q):uC e ei M' nx s ob m get=uC e ei M nx s ob m get:=by
 unfold uC
 cases s with
 | sl q k lo n c=>
   cases c with
   | none=>
     cases lo with
     | zero=>simp only [h q (by simp[SV.refs])]
     | succ lo=>rfl
   | some c=>simp only [h q (by simp[SV.refs])]
 | r x=>
   cases x with
   | v x=>
     cases x with
     | slice A n c=>
       cases A with
       | none=>cases n <;> first | rfl | (cases c <;> rfl)
       | some A=>rfl
     | _=>rfl
   | _=>rfl
 | _=>rfl
theorem aAm (t:TypeId) (s x:SV) (h:∀q∈s.refs,M' q=M q) (h':∀q∈x.refs,M' q=M q):kW T t M' nx s x=kW T t M nx s x:=by
 unfold kW;simp only [tE _ x h',xZ _ _ s _ _ _ h]
theorem yA (t t':TypeId) (s x:SV) (h:∀q∈s.refs,M' q=M q):iJ T t t' M' nx s x=iJ T t t' M nx s x:=by
 unfold iJ;split
 ·split
  ·rfl
  ·split
   ·rw[xZ _ _ _ _ _ _ h]
   ·rfl
 ·rfl
theorem aFl (t:TypeId) (s x:SV) (h:∀q∈s.refs,M' q=M q) (h':∀q∈x.refs,M' q=M q):yD T t M' s x=yD T t M s x:=by
 unfold yD;simp only [tE _ x h'];rcases T.ti t with _ | ⟨a,b,c,kd⟩
 ·rfl
 cases kd with
 | slice e=>
   try dsimp only
   cases T.ti e with
   | none=>rfl
   | some ei=>
     try dsimp only
     rcases gH M ei.size x with _ | ⟨ob,m,get⟩
     ·rfl
     try dsimp only
     cases s with
     | sl q k lo n c=>simp only [h q (by simp[SV.refs])]
     | _=>rfl
 | _=>rfl
theorem aDj (t:TypeId) (s:SV) (h:∀q∈s.refs,M' q=M q):rJ T t M' s=rJ T t M s:=by
 unfold rJ;rcases T.ti t with _ | ⟨a,b,c,kd⟩
 ·rfl
 cases kd with
 | slice e=>
   try dsimp only
   cases T.ti e with
   | none=>rfl
   | some ei=>
     cases s with
     | sl q k lo n c=>simp only [h q (by simp[SV.refs])]
     | r x=>
       cases x with
       | v x=>
         cases x with
         | slice A n c=>
           cases A with
           | none=>cases n <;> first | rfl | (cases c <;> rfl)
           | some A=>rfl
         | _=>rfl
       | _=>rfl
     | _=>rfl
 | _=>rfl
theorem aGi {q:Nat} (h:M' q=M q):vH M' q=vH M q:=by unfold vH;rw[h]
theorem aDn (t:TypeId) (x:SV) (lo hi mx:Option SV) (h:∀q∈x.refs,M' q=M q):lF T M' t x lo hi mx=lF T M t x lo hi mx:=by
 unfold lF;rcases T.ti t with _ | ⟨a,b,c,kd⟩
 ·rfl
 cases kd with
 | slice e=>
   try dsimp only
   cases T.ti e with
   | none=>rfl
   | some ei=>
     try dsimp only
     cases aBv lo with
     | none=>rfl
     | some l=>
       try dsimp only
       cases x with
       | sl q k l0 n c=>
         cases c with
         | none=>simp only [aGi (h q (by simp[SV.refs]))]
         | some c=>simp only [h q (by simp[SV.refs])]
       | r x=>
         cases x with
         | v x=>
           cases x with
           | slice A n c=>
             cases A with
             | none=>cases n <;> first | rfl | (cases c <;> rfl)
             | some A=>rfl
           | _=>rfl
         | _=>rfl
       | _=>rfl
 | _=>rfl
theorem yC (b:Builtin) (ts:List TypeId) (l:List SV) (h:∀x∈l,∀r∈x.refs,M' r=M r):gC T b ts M' nx l=gC T b ts M nx l:=by
 unfold gC;split
 ·rfl
 ·rw[aAm _ _ _ (h _ τ) (h _ τ),yA _ _ _ _ (h _ τ)]
 ·rw[aFl _ _ _ (h _ τ) (h _ τ)]
 ·rw[aDj _ _ (h _ τ)]
 all_goals rfl
theorem aAn (t:TypeId) (m x:SV) (ok:Bool) (h:∀q∈m.refs,M' q=M q):jH T M' t m x ok=jH T M t m x ok:=by
 unfold jH
 cases m with
 | mp q=>simp only [h q (by simp[SV.refs])]
 | r x=>
   cases x with
   | v x=>
     cases x with
     | map r=>cases r <;> rfl
     | _=>rfl
   | _=>rfl
 | _=>rfl
theorem lS (t:TypeId) (m x y:SV) (h:∀q∈m.refs,M' q=M q):eY T M' t m x y=eY T M t m x y:=by
 unfold eY
 cases m with
 | mp q=>simp only [h q (by simp[SV.refs])]
 | _=>rfl
theorem aIf {l:List Operand} (h:∀x∈l,ev E' x=ev E x):l.map (ev E')=l.map (ev E):=List.map_congr_left h
theorem uE {op:Op} {q:Nat} (he:∀x∈op.operands.toList,ev E' x=ev E x) (hm:∀x∈op.operands.toList,∀r∈(ev E x).refs,M' r=M r):dU T op E' M' q=dU T op E M q:=by
 cases op with
 | move x=>simp only [dU];rw[he x (by simp[Op.operands])]
 | assign x=>simp only [dU];rw[he x (by simp[Op.operands])]
 | box t x=>simp only [dU];rw[he x (by simp[Op.operands])]
 | alloc t=>rfl
 | build t ps=>
   simp only [dU];rw[show(ps.toList.map λp=>(p.1,ev E' p.2))=(ps.toList.map λp=>(p.1,ev E p.2)) from List.map_congr_left λp hp=>by rw[he p.2 (by simp[Op.operands];exact⟨p.1,by simpa using hp⟩)]]
 | buildSlice t len ps=>
   simp only [dU];rw[show(ps.toList.map λp=>(p.1,ev E' p.2))=(ps.toList.map λp=>(p.1,ev E p.2)) from List.map_congr_left λp hp=>by rw[he p.2 (by simp[Op.operands];exact⟨p.1,by simpa using hp⟩)]]
 | load t x=>simp only [dU];rw[he x (by simp[Op.operands]),aFo _ _ (hm x (by simp[Op.operands]))]
 | store t x y=>simp only [dU];rw[he x (by simp[Op.operands]),he y (by simp[Op.operands]),aDo _ _ _ (hm x (by simp[Op.operands]))]
 | nilCheck x=>simp only [dU];rw[he x (by simp[Op.operands])]
 | binOp o t x y t'=>simp only [dU];rw[he x (by simp[Op.operands]),he y (by simp[Op.operands])]
 | unOp o t x=>simp only [dU];rw[he x (by simp[Op.operands])]
 | convert s d x=>simp only [dU];rw[he x (by simp[Op.operands])]
 | makeFunc f fi ca=>simp only [dU];rw[aIf (l:=fi.toList) λx hx=>he x (by simp[Op.operands] at hx ⊢;exact .inl hx),aIf (l:=ca.toList) λx hx=>he x (by simp[Op.operands] at hx ⊢;exact .inr hx)]
 | slice t x lo hi mx=>
   simp only [dU];rw[he x (by simp[Op.operands]),aDn (M:=M) _ _ _ _ _ (hm x (by simp[Op.operands]))];have e:∀o:Option Operand,(∀y,o=some y->y∈(Op.slice t x lo hi mx).operands.toList)->o.map (ev E')=o.map (ev E):=by
    intro o h
    cases o with
    | none=>rfl
    | some y=>simp[he y (h y rfl)]
   rw[e lo (λy hy=>by simp[Op.operands,hy]),e hi (λy hy=>by simp[Op.operands,hy]),e mx (λy hy=>by simp[Op.operands,hy])]
 | lookup t m x ok=>simp only [dU];rw[he m (by simp[Op.operands]),he x (by simp[Op.operands]),aAn _ _ _ _ (hm m (by simp[Op.operands]))]
 | mapUpdate t m x y=>simp only [dU];rw[he m (by simp[Op.operands]),he x (by simp[Op.operands]),he y (by simp[Op.operands]),lS _ _ _ _ (hm m (by simp[Op.operands]))]
 | insert t m x y=>simp only [dU];rw[he m (by simp[Op.operands]),he x (by simp[Op.operands]),he y (by simp[Op.operands]),lS _ _ _ _ (hm m (by simp[Op.operands]))]
 | makeMap t r=>
   simp only [dU]
   cases r with
   | none=>rfl
   | some y=>simp only [Option.map_some];rw[he y (by simp[Op.operands])]
 | makeSlice t l c=>simp only [dU];rw[he l (by simp[Op.operands]),he c (by simp[Op.operands])]
 | field t x f=>simp only [dU];rw[he x (by simp[Op.operands])]
 | index t x i=>simp only [dU];rw[he x (by simp[Op.operands]),he i (by simp[Op.operands])]
 | fieldAddr t x f=>simp only [dU];rw[he x (by simp[Op.operands])]
 | indexAddr t x i=>simp only [dU];rw[he x (by simp[Op.operands]),he i (by simp[Op.operands])]
 | extract x i=>simp only [dU];rw[he x (by simp[Op.operands])]
 | call c=>
   obtain⟨callee,args,ts⟩:=c;have ha:=aIf (l:=args.toList) λx hx=>he x (by simp only [Op.operands,Call.operands,Array.toList_append,List.mem_append];exact .inr hx);simp only [dU]
   cases callee with
   | builtin b=>
     simp only [ha];exact yC _ _ _ λx hx r hr=>by
      obtain⟨o,ho,rfl⟩:=List.mem_map.1 hx;exact hm o (by simp only [Op.operands,Call.operands,Array.toList_append,List.mem_append];exact .inr ho) r hr
   | value f=>
     simp only [ha];rw[he f (by simp[Op.operands,Call.operands])]
   | invoke r m=>rfl
 | _=>rfl
def mN (l:List SV):Nat->Nat->RV:=λ_ j=>((l[j]?).getD (.r .any)).toRV
mutual
def gvo (M:Mem):SV->(SV->Prop)->Prop
 | .r x,K=>K (.r x)
 | .ptr ref row k fld,K=>
   match M ref with
   | some (.vec e k' n g)=>k'=k/\K (.r (.rp k' n (λi j=>(g i j).toRV) row fld))
   | some (.box l)=>K (.r (.rp l.length 1 (mN l) 0 (row*k+fld)))
   | _=>False
 | .sl ref k lo n c,K=>
   match M ref with
   | some (.vec e k' N g)=>(k'=k/\lo+n<=N)/\K (.r (.rs k n λi j=>(g (lo+i) j).toRV))
   | _=>False
 | .mp ref,K=>K (.r .any)
 | .fn f fi ca,K=>oU M fi λfi'=>oU M ca λca'=>K (.fn f fi' ca')
 | .agg l,K=>oU M l λl'=>K (.agg l')
 | .tup l,K=>oU M l λl'=>K (.tup l')
def oU (M:Mem):List SV->(List SV->Prop)->Prop
 | [],K=>K []
 | s::l,K=>gvo M s λs'=>oU M l λl'=>K (s'::l')
end
mutual
theorem aRf {F:Nat->Prop} {n0:Nat} {Z':Nat->Prop} (hm:MOK B W n0 σ M F w) (hz:∀b,Zof B σ M w b->Z' b) (ho:∀r R L b,M r=some R->σ r=some L->L.at_=some b->Z' b) :
 ∀(s:SV) (K:SV->Prop) (y:Value),gvo M s K->s.rel σ (Zof B σ M w) w y->∃s',K s'/\s'.rel (λ_=>none) Z' w y
 | .r x,K,y,h,hr=>⟨.r x,h,RV.rel_mono (λb hb=>⟨hz b hb,rfl⟩) x y hr⟩
 | .ptr ref row k fld,K,y,h,hr=>by
   obtain⟨L,b,h1,h2,rfl⟩:=hr;unfold gvo at h;split at h
   ·rename_i e k' n g hM;obtain⟨rfl,h⟩:=h;obtain⟨L',e1,e2⟩:=hm.reg ref _ hM;rw[h1] at e1;cases e1;obtain⟨f0,fm,f | ⟨b',cs,f1,f2,f3,fo,f5⟩⟩:=e2
    ·rw[h2] at f;cases f.1
    rw[h2] at f1;cases f1;refine⟨_,h,b,0,τ,ho ref _ L b hM h1 h2,λi j hi hj=>?_⟩;obtain⟨v,v1,v0,v2⟩:=f5 i j hi hj;exact⟨v,by simp[World.cell?,f2,v1],v0,RV.rel_mono (λb hb=>⟨hz b hb,rfl⟩) _ _ (iO v2)⟩
   ·rename_i l hM;obtain⟨L',e1,e2⟩:=hm.reg ref _ hM;rw[h1] at e1;cases e1;obtain⟨b',cs,ty,f1,f2,f3,f4⟩:=e2;rw[h2] at f1;cases f1;refine⟨_,h,b,0,τ,ho ref _ L b hM h1 h2,λi j hi hj=>?_⟩;have hi0:i=0:=ω;subst hi0;obtain⟨v,v1,v2⟩:=SV.relL_get f4 j l[j] (List.getElem?_eq_getElem hj);refine⟨v,by simp[World.cell?,f2,v1],f3 v (List.mem_of_getElem? v1),?_⟩;unfold mN;rw[List.getElem?_eq_getElem hj];exact RV.rel_mono (λb hb=>⟨hz b hb,rfl⟩) _ _ (iO v2)
   ·exact h.elim
 | .sl ref k lo n c,K,y,h,hr=>by
   obtain⟨L,A,g1,rfl,g2,g3,g4,g5⟩:=hr;unfold gvo at h;split at h
   ·rename_i e k' N g hM;obtain⟨⟨rfl,hle⟩,h⟩:=h;obtain⟨L',e1,e2⟩:=hm.reg ref _ hM;rw[g1] at e1;cases e1;refine⟨_,h,A,_,rfl,g2,λh0=>?_⟩;obtain⟨b,q1,rfl⟩:=g4 ω;obtain⟨f0,fm,f | ⟨b',cs,f1,f2,f3,fo,f5⟩⟩:=e2
    ·rw[q1] at f;cases f.1
    rw[q1] at f1;cases f1;refine⟨b,lo*k',rfl,ho ref _ L b hM g1 q1,λi j hi hj=>?_⟩;obtain⟨v,v1,v0,v2⟩:=f5 (lo+i) j ω hj;refine⟨v,?_,v0,RV.rel_mono (λb hb=>⟨hz b hb,rfl⟩) _ _ (iO v2)⟩;simp only [World.cell?,f2];rw[<- v1,Nat.add_mul,Nat.add_assoc];simp
   ·exact h.elim
 | .mp ref,K,y,h,hr=>⟨_,h,trivial⟩
 | .fn f fi ca,K,y,h,hr=>by
   obtain⟨vs,ws,e,h1,h2⟩:=hr;obtain⟨fi',k1,r1⟩:=jP hm hz ho fi _ vs h h1;obtain⟨ca',k2,r2⟩:=jP hm hz ho ca _ ws k1 h2;exact⟨_,k2,vs,ws,e,r1,r2⟩
 | .agg l,K,y,h,hr=>by
   obtain⟨vs,e,h1,h2⟩:=hr;obtain⟨l',k1,r1⟩:=jP hm hz ho l _ vs h h2;exact⟨_,k1,vs,e,h1,r1⟩
 | .tup l,K,y,h,hr=>by
   obtain⟨vs,e,h2⟩:=hr;obtain⟨l',k1,r1⟩:=jP hm hz ho l _ vs h h2;exact⟨_,k1,vs,e,r1⟩
theorem jP {F:Nat->Prop} {n0:Nat} {Z':Nat->Prop} (hm:MOK B W n0 σ M F w) (hz:∀b,Zof B σ M w b->Z' b) (ho:∀r R L b,M r=some R->σ r=some L->L.at_=some b->Z' b) :
 ∀(l:List SV) (K:List SV->Prop) (ys:List Value),oU M l K->SV.relL σ (Zof B σ M w) w l ys->∃l',K l'/\SV.relL (λ_=>none) Z' w l' ys
 | [],K,ys,h,hr=>⟨[],h,hr⟩
 | s::l,K,ys,h,hr=>by
   obtain⟨v,vs',rfl,h1,h2⟩:=hr;obtain⟨s',k1,r1⟩:=aRf hm hz ho s _ v h h1;obtain⟨l',k2,r2⟩:=jP hm hz ho l _ vs' k1 h2;exact⟨_,k2,v,vs',rfl,r1,r2⟩
end
mutual
theorem aM1:∀(s:SV) (K:SV->Prop),(∀r∈s.refs,M' r=M r)->(gvo M' s K↔gvo M s K)
 | .r x,K,h=>by unfold gvo;exact Iff.rfl
 | .ptr q row k fld,K,h=>by unfold gvo;rw[h q (by simp[SV.refs])]
 | .sl q k lo n c,K,h=>by unfold gvo;rw[h q (by simp[SV.refs])]
 | .mp q,K,h=>by unfold gvo;exact Iff.rfl
 | .fn f fi ca,K,h=>by
   unfold gvo;rw[gV fi _ (λr hr=>h r (by simp[SV.refs,hr]))];have:(λfi'=>oU M' ca λca'=>K (.fn f fi' ca'))=(λfi'=>oU M ca λca'=>K (.fn f fi' ca')):=by
    funext fi';exact propext (gV ca _ (λr hr=>h r (by simp[SV.refs,hr])))
   rw[this]
 | .agg l,K,h=>by unfold gvo;exact gV l _ h
 | .tup l,K,h=>by unfold gvo;exact gV l _ h
theorem gV:∀(l:List SV) (K:List SV->Prop),(∀r∈SV.refsL l,M' r=M r)->(oU M' l K↔oU M l K)
 | [],K,h=>Iff.rfl
 | s::l,K,h=>by
   unfold oU;rw[aM1 s _ (λr hr=>h r (by simp[SV.refsL,hr]))];have:(λs'=>oU M' l λl'=>K (s'::l'))=(λs'=>oU M l λl'=>K (s'::l')):=by
    funext s';exact propext (gV l _ (λr hr=>h r (by simp[SV.refsL,hr])))
   rw[this]
end
section
variable {B W F:Nat->Prop} {n0:Nat} {σ:Sig} {M Mt:Mem} {w:World}
theorem uV {Z':Nat->Prop} (hm:MOK B W n0 σ M F w) {V:SV->RV}
 (hv:∀(s:SV) (y:Value),s.rel σ (Zof B σ M w) w y->(V s).rel Z' w y) {ref:Nat} {e k n:Nat} {g:Nat->Nat->SV} (hM:M ref=some (.vec e k n g)) {L:rY} (h1:σ ref=some L) {b:Nat} (h2:L.at_=some b) :
 ∀i j,i<n->j<k->∃v,w.cell? ⟨b,i*k+j,none⟩=some v/\v.oneCell'=true/\(V (g i j)).rel Z' w v:=by
 intro i j hi hj;obtain⟨L',e1,e2⟩:=hm.reg ref _ hM;rw[h1] at e1;cases e1;obtain⟨f0,fm,f | ⟨b',cs,f1,f2,f3,fo,f5⟩⟩:=e2
 ·rw[h2] at f;cases f.1
 rw[h2] at f1;cases f1;obtain⟨v,v1,v0,v2⟩:=f5 i j hi hj;exact⟨v,by simp[World.cell?,f2,v1],v0,hv _ _ v2⟩
theorem aCm {Z':Nat->Prop} (hm:MOK B W n0 σ M F w) {V:SV->RV}
 (hv:∀(s:SV) (y:Value),s.rel σ (Zof B σ M w) w y->(V s).rel Z' w y) {ref:Nat} {l:List SV} (hM:M ref=some (.box l)) {L:rY} (h1:σ ref=some L) {b:Nat} (h2:L.at_=some b) :
 ∀i j,i<1->j<l.length->∃v,w.cell? ⟨b,0+(i*l.length+j),none⟩=some v/\v.oneCell'=true/\(V (l.getD j (.r .any))).rel Z' w v:=by
 intro i j hi hj;have hi0:i=0:=ω;subst hi0;obtain⟨L',e1,e2⟩:=hm.reg ref _ hM;rw[h1] at e1;cases e1;obtain⟨b',cs,ty,f1,f2,f3,f4⟩:=e2;rw[h2] at f1;cases f1;obtain⟨v,v1,v2⟩:=SV.relL_get f4 j l[j] (List.getElem?_eq_getElem hj);refine⟨v,by simp[World.cell?,f2,v1],f3 v (List.mem_of_getElem? v1),?_⟩;rw[List.getD,List.getElem?_eq_getElem hj];exact hv _ _ v2
theorem aCn {Z':Nat->Prop} (hm:MOK B W n0 σ M F w) (ho:∀r R L b,M r=some R->σ r=some L->L.at_=some b->Z' b) {V:SV->RV}
 (hv:∀(s:SV) (y:Value),s.rel σ (Zof B σ M w) w y->(V s).rel Z' w y) {ref:Nat} {has:Int->Bool} {val:Int->SV} {st:Option ((Int->Nat) × Nat)} (hM:M ref=some (.map has val st)) {y:Value} (h:(SV.mp ref).rel σ (Zof B σ M w) w y) :
 (RV.mp has λa=>V (val a)).rel Z' w y:=by
 obtain⟨L,b,h1,h2,rfl⟩:=h;obtain⟨L',e1,b',es,ck,f1,f2,f3,f4⟩:=hm.reg ref _ hM;rw[h1] at e1;cases e1;rw[h2] at f1;cases f1;exact⟨b,es,ck,rfl,ho ref _ L b hM h1 h2,f2,f3.mono λa v _ h=>hv _ _ h⟩
theorem aGz {Z':Nat->Prop} (hm:MOK B W n0 σ M F w) (ho:∀r R L b,M r=some R->σ r=some L->L.at_=some b->Z' b) {V:SV->RV}
 (hv:∀(s:SV) (y:Value),s.rel σ (Zof B σ M w) w y->(V s).rel Z' w y) {ref:Nat} {e k N lo n:Nat} {c:Option Nat} {g:Nat->Nat->SV} (hM:M ref=some (.vec e k N g)) (hle:lo+n<=N) {y:Value} (h:(SV.sl ref k lo n c).rel σ (Zof B σ M w) w y) :
 (RV.rs k n λi j=>V (g (lo+i) j)).rel Z' w y:=by
 obtain⟨L,A,g1,rfl,g2,g3,g4,g5⟩:=h;refine⟨A,_,rfl,g2,λh0=>?_⟩;obtain⟨b,q1,rfl⟩:=g4 ω;refine⟨b,lo*k,rfl,ho ref _ L b hM g1 q1,λi j hi hj=>?_⟩;obtain⟨v,v1,v2⟩:=uV hm hv hM g1 q1 (lo+i) j ω hj;refine⟨v,?_,v2⟩;rw[<- v1,Nat.add_mul,Nat.add_assoc]
theorem qF {Z':Nat->Prop} (hm:MOK B W n0 σ M F w) (hz:∀b,Zof B σ M w b->Z' b) (ho:∀r R L b,M r=some R->σ r=some L->L.at_=some b->Z' b) (hmt:∀r R,Mt r=some R->(∃L,σ r=some L)->M r=some R) :
 ∀(d:Nat) (s:SV) (y:Value),s.rel σ (Zof B σ M w) w y->(aU Mt d s).rel Z' w y:=by
 intro d
 induction d with
 | zero=>
   intro s y h
   cases s with
   | r x=>exact RV.rel_mono (λb hb=>⟨hz b hb,rfl⟩) x y h
   | _=>trivial
 | succ d ih=>
   intro s y h
   cases s with
   | r x=>exact RV.rel_mono (λb hb=>⟨hz b hb,rfl⟩) x y h
   | ptr ref row k fld=>
     obtain⟨L,b,h1,h2,rfl⟩:=h;unfold aU;split
     ·rename_i e k' n g hM;split
      ·rename_i hk;subst hk;have hM:=hmt _ _ hM ⟨L,h1⟩;refine⟨b,0,τ,ho ref _ L b hM h1 h2,λi j hi hj=>?_⟩;simpa using uV hm ih hM h1 h2 i j hi hj
      ·trivial
     ·rename_i l hM;have hM:=hmt _ _ hM ⟨L,h1⟩;exact⟨b,0,τ,ho ref _ L b hM h1 h2,aCm hm ih hM h1 h2⟩
     ·trivial
   | sl ref k lo n c=>
     unfold aU;split
     ·rename_i e k' N g hM;split
      ·rename_i hk;obtain⟨rfl,hle⟩:=hk;exact aGz hm ho ih (hmt _ _ hM (by obtain⟨L,A,g1,_⟩:=h;exact⟨L,g1⟩)) hle h
      ·trivial
     ·trivial
   | mp ref=>
     unfold aU;split
     ·rename_i has val st hM;exact aCn hm ho ih (hmt _ _ hM (by obtain⟨L,b,g1,_⟩:=h;exact⟨L,g1⟩)) h
     ·trivial
   | fn f fi ca=>
     obtain⟨vs,ws,rfl,h1,h2⟩:=h;have key:∀(l:List SV) (xs:List Value),SV.relL σ (Zof B σ M w) w l xs->∀i v,xs[i]? =some v->(aU Mt d (l.getD i (.r .any))).rel Z' w v:=by
      intro l xs hl i v hv;obtain⟨s,e1,e2⟩:=lY hl i v hv;rw[List.getD,e1];exact ih s v e2
     exact⟨vs,ws,rfl,SV.relL_length h1,SV.relL_length h2,key fi vs h1,key ca ws h2⟩
   | agg l=>trivial
   | tup l=>trivial
mutual
theorem aH8 {Z':Nat->Prop} (hm:MOK B W n0 σ M F w) (hz:∀b,Zof B σ M w b->Z' b) (ho:∀r R L b,M r=some R->σ r=some L->L.at_=some b->Z' b) (hmt:∀r R,Mt r=some R->(∃L,σ r=some L)->M r=some R) :
 ∀(s:SV) (K:SV->Prop) (y:Value),fU Mt s K->s.rel σ (Zof B σ M w) w y->∃s',K s'/\s'.rel (λ_=>none) Z' w y
 | .r x,K,y,h,hr=>⟨.r x,h,RV.rel_mono (λb hb=>⟨hz b hb,rfl⟩) x y hr⟩
 | .ptr ref row k fld,K,y,h,hr=>by
   obtain⟨L,b,h1,h2,rfl⟩:=hr;unfold fU at h;split at h
   ·rename_i e k' n g hM;obtain⟨rfl,h⟩:=h;have hM:=hmt _ _ hM ⟨L,h1⟩;refine⟨_,h,b,0,τ,ho ref _ L b hM h1 h2,λi j hi hj=>?_⟩;simpa using uV hm (qF hm hz ho hmt 3) hM h1 h2 i j hi hj
   ·rename_i l hM;have hM:=hmt _ _ hM ⟨L,h1⟩;exact⟨_,h,b,0,τ,ho ref _ L b hM h1 h2,aCm hm (qF hm hz ho hmt 3) hM h1 h2⟩
   ·exact h.elim
 | .sl ref k lo n c,K,y,h,hr=>by
   unfold fU at h;split at h
   ·rename_i e k' N g hM;obtain⟨⟨rfl,hle⟩,h⟩:=h;exact⟨_,h,aGz hm ho (qF hm hz ho hmt 3) (hmt _ _ hM (by obtain⟨L,A,g1,_⟩:=hr;exact⟨L,g1⟩)) hle hr⟩
   ·exact h.elim
 | .mp ref,K,y,h,hr=>by
   unfold fU at h;split at h
   ·rename_i has val st hM;exact⟨_,h,aCn hm ho (qF hm hz ho hmt 3) (hmt _ _ hM (by obtain⟨L,b,g1,_⟩:=hr;exact⟨L,g1⟩)) hr⟩
   ·exact h.elim
 | .fn f fi ca,K,y,h,hr=>by
   obtain⟨vs,ws,e,h1,h2⟩:=hr;obtain⟨fi',k1,r1⟩:=fV hm hz ho hmt fi _ vs h h1;obtain⟨ca',k2,r2⟩:=fV hm hz ho hmt ca _ ws k1 h2;exact⟨_,k2,vs,ws,e,r1,r2⟩
 | .agg l,K,y,h,hr=>by
   obtain⟨vs,e,h1,h2⟩:=hr;obtain⟨l',k1,r1⟩:=fV hm hz ho hmt l _ vs h h2;exact⟨_,k1,vs,e,h1,r1⟩
 | .tup l,K,y,h,hr=>by
   obtain⟨vs,e,h2⟩:=hr;obtain⟨l',k1,r1⟩:=fV hm hz ho hmt l _ vs h h2;exact⟨_,k1,vs,e,r1⟩
theorem fV {Z':Nat->Prop} (hm:MOK B W n0 σ M F w) (hz:∀b,Zof B σ M w b->Z' b) (ho:∀r R L b,M r=some R->σ r=some L->L.at_=some b->Z' b) (hmt:∀r R,Mt r=some R->(∃L,σ r=some L)->M r=some R) :
 ∀(l:List SV) (K:List SV->Prop) (ys:List Value),fK Mt l K->SV.relL σ (Zof B σ M w) w l ys->∃l',K l'/\SV.relL (λ_=>none) Z' w l' ys
 | [],K,ys,h,hr=>⟨[],h,hr⟩
 | s::l,K,ys,h,hr=>by
   obtain⟨v,vs',rfl,h1,h2⟩:=hr;obtain⟨s',k1,r1⟩:=aH8 hm hz ho hmt s _ v h h1;obtain⟨l',k2,r2⟩:=fV hm hz ho hmt l _ vs' k1 h2;exact⟨_,k2,v,vs',rfl,r1,r2⟩
end
end
def aEi (P:Program) (M:Mem) (f:FuncId) (args:List SV) (v:SV):Prop:=
 ((oU M args λl=>Pure P f l (· =v))/\v.flat=true)\/(SV.closedL args=true/\Pure P f args (· =v)/\v.closed=true)
def aG7 (P:Program) (M:Mem) (f:FuncId) (args:List SV) (v:SV):Prop:=aEi P M f args v\/((fK M args λl=>Pure P f l (· =v))/\v.flat=true)
theorem aMn (hm:MOK B W n0 σ M F w) (hn:n0<=w.heap.size) {f:FuncId} {args:List SV} {v:SV} {vs:List Value} {Mt:Mem} (hmt:∀r R,Mt r=some R->(∃L,σ r=some L)->M r=some R) (h:aEi P M f args v\/((fK Mt args λl=>Pure P f l (· =v))/\v.flat=true)) (ha:SV.relL σ (Zof B σ M w) w args vs) :
 (callFunc f vs.toArray).run P w=.ok (.enter f vs.toArray) w/\Calls P f vs.toArray w λe w'=>∃y,e=.returned y/\v.rel σ (Zof B σ M w') w' y/\MOK B W n0 σ M F w'/\bZ (Zof B σ M w) (Zof B σ M w') w w'/\FrS true W n0 w w':=by
 have fin:∀{w':World},FrS true (λ_=>False) w.heap.size w w'->MOK B W n0 σ M F w'/\bZ (Zof B σ M w) (Zof B σ M w') w w'/\FrS true W n0 w w':=by
  intro w' hf;have hsame:∀b,b<w.heap.size->w'.heap[b]? =w.heap[b]?:=λb hb=>hf.block b hb (λh=>h);have hk:bZ (Zof B σ M w) (Zof B σ M w') w w':=λb hb=>⟨⟨⟨Nat.lt_of_lt_of_le hb.1.1 hf.size,hb.1.2⟩,hb.2⟩,hsame b hb.1.1⟩;refine⟨⟨hm.newB,hm.fresh,λr R h=>?_,hm.inj,hm.own⟩,hk,⟨hf.os,hf.tape,hf.output,hf.size,hf.drawn,λb hb _=>hsame b ω⟩⟩;obtain⟨L,e1,e2⟩:=hm.reg r R h;exact⟨L,e1,e2.mono (λ_ _ h=>h) hk λb hb=>hsame b (e2.block hb)⟩
 rcases h with (⟨h,hfl⟩ | ⟨hc,hp,hcl⟩) | ⟨h,hfl⟩
 ·obtain⟨l,hp',ha'⟩:=jP (Z':=λb=>b<w.heap.size) hm (λb hb=>hb.1.1) (λr R L b h1 h2 h3=>by
   obtain⟨L',e1,e2⟩:=hm.reg r R h1;rw[h2] at e1;cases e1;exact e2.block h3) args _ vs h ha
  obtain⟨h1,h2⟩:=hp' (λb=>b<w.heap.size) w vs (λb hb=>hb) ha';refine⟨h1,h2.mono λe w' h=>?_⟩;obtain⟨y,s,rfl,rfl,hr,hf⟩:=h;obtain⟨g1,g2,g3⟩:=fin hf;exact⟨y,rfl,SV.rel_flat s y hfl hr,g1,g2,g3⟩
 ·obtain⟨h1,h2⟩:=hp (Zof B σ M w) w vs (λb hb=>hb.1.1) (SV.relL_closed (λb hb=>⟨hb,rfl⟩) _ _ hc ha);refine⟨h1,h2.mono λe w' h=>?_⟩;obtain⟨y,s,rfl,rfl,hr,hf⟩:=h;obtain⟨g1,g2,g3⟩:=fin hf;refine⟨y,rfl,SV.rel_closed (λb hb=>⟨?_,rfl⟩) s y hcl hr,g1,g2,g3⟩;rcases hb with hb | hb
  ·exact⟨⟨Nat.lt_of_lt_of_le hb.1.1 hf.size,hb.1.2⟩,hb.2⟩
  ·refine⟨⟨hb.2,hm.newB b (.inl ω)⟩,λr R L h1 h2 h3=>?_⟩;obtain⟨L',e1,e2⟩:=hm.reg r R h1;rw[h2] at e1;cases e1;have:=e2.block h3;omega
 ·obtain⟨l,hp',ha'⟩:=fV (Mt:=Mt) (Z':=λb=>b<w.heap.size) hm (λb hb=>hb.1.1) (λr R L b h1 h2 h3=>by
   obtain⟨L',e1,e2⟩:=hm.reg r R h1;rw[h2] at e1;cases e1;exact e2.block h3) hmt args _ vs h ha
  obtain⟨h1,h2⟩:=hp' (λb=>b<w.heap.size) w vs (λb hb=>hb) ha';refine⟨h1,h2.mono λe w' h=>?_⟩;obtain⟨y,s,rfl,rfl,hr,hf⟩:=h;obtain⟨g1,g2,g3⟩:=fin hf;exact⟨y,rfl,SV.rel_flat s y hfl hr,g1,g2,g3⟩
def aZd (P:Program) (f:FuncId) (args:List SV) (S:SV) (R:Reg):Prop:=
 ∀(B:Nat->Prop) (w:World) (vs:List Value),MOK B (λ_=>False) w.heap.size (λ_=>none) lH (eF 0) w->SV.relL (λ_=>none) (Zof B (λ_=>none) lH w) w args vs->
  (callFunc f vs.toArray).run P w=.ok (.enter f vs.toArray) w/\
  Calls P f vs.toArray w λe w'=>∃y σ',e=.returned y/\MOK B (λ_=>False) w.heap.size σ' (fD [some R]) (eF 1) w'/\S.rel σ' (Zof B σ' (fD [some R]) w') w' y/\FrS true (λ_=>False) w.heap.size w w'
def aLm (P:Program) (q:Nat) (f:FuncId) (args:List SV) (v:SV) (u:Option Reg):Prop:=
 ∃(e:TypeId) (k N:Nat) (g:Nat->Nat->RV) (lo n:Nat) (c:Option Nat),v=.sl q k lo n c/\u=some (.vec e k N λi j=>.r (g i j))/\SV.closedL args=true/\aZd P f args (.sl 0 k lo n c) (.vec e k N λi j=>.r (g i j))
theorem aP6 (hm:MOK B W n0 σ M F w) (hn:n0<=w.heap.size) {f:FuncId} {args:List SV} {q:Nat} {v:SV} {u:Option Reg} {vs:List Value} (hq:F q) (h:aLm P q f args v u) (ha:SV.relL σ (Zof B σ M w) w args vs) :
 (callFunc f vs.toArray).run P w=.ok (.enter f vs.toArray) w/\Calls P f vs.toArray w λe w'=>∃y R σ2,e=.returned y/\u=some R/\v.rel σ2 (Zof B σ2 (bH M q (some R)) w') w' y/\MOK B W n0 σ2 (bH M q (some R)) (λr=>F r/\r≠q) w'/\
   oC σ σ2/\bZ (Zof B σ M w) (Zof B σ2 (bH M q (some R)) w') w w'/\FrS true W n0 w w'/\∀r,r≠q->σ2 r=σ r:=by
 obtain⟨e,k,N,g,lo,n,c,rfl,rfl,hc,hp⟩:=h;have hlt:∀r R L b,M r=some R->σ r=some L->L.at_=some b->b<w.heap.size:=λr R L b h1 h2 h3=>by
  obtain⟨L',e1,e2⟩:=hm.reg r R h1;rw[h2] at e1;cases e1;exact e2.block h3
 let B1:Nat->Prop:=λb=>Zof B σ M w b\/w.heap.size<=b
 have hm1:MOK B1 (λ_=>False) w.heap.size (λ_=>none) lH (eF 0) w:=
  ⟨λb hb=>.inr (hb.elim id False.elim),λ_ _=>rfl,λr R h=>(by cases h),λr r' R R' L L' b h=>(by cases h),λr R L b h=>(by cases h)⟩
 obtain⟨c1,c2⟩:=hp B1 w vs hm1 (SV.relL_closed (λb hb=>⟨⟨⟨hb.1.1,.inl hb⟩,λr R L h=>(by cases h)⟩,rfl⟩) _ _ hc ha);refine⟨c1,c2.mono λe' w' h=>?_⟩;obtain⟨y,σ',rfl,hm',hr,hf⟩:=h;obtain⟨L0,g1,g2⟩:=hm'.reg 0 (.vec e k N λi j=>.r (g i j)) rfl;have hnew:∀b,L0.at_=some b->w.heap.size<=b:=λb hb=>(hm'.own 0 _ L0 b rfl g1 hb).elim False.elim id;have hsame:∀b,b<w.heap.size->w'.heap[b]? =w.heap[b]?:=λb hb=>hf.block b hb (λh=>h)
 let σ2:Sig:=λr=>if r=q then some L0 else σ r
 have hσq:σ2 q=some L0:=if_pos rfl;have hσn:∀r,r≠q->σ2 r=σ r:=λr hr=>if_neg hr;have hs2:oC σ σ2:=λr L h=>by
  by_cases hr:r=q
  ·subst hr;rw[hm.fresh r hq] at h;cases h
  ·rw[hσn r hr];exact h
 have hne:∀r R,M r=some R->r≠q:=λr R h hr=>by
  subst hr;obtain⟨L,h1,_⟩:=hm.reg r R h;rw[hm.fresh r hq] at h1;cases h1
 have hz2:∀b,Zof B σ M w b->Zof B σ2 (bH M q (some (.vec e k N λi j=>.r (g i j)))) w' b:=λb hb=>⟨⟨Nat.lt_of_lt_of_le hb.1.1 hf.size,hb.1.2⟩,λr R L h1 h2 h3=>by
  by_cases hr:r=q
  ·subst hr;rw[hσq] at h2;cases h2;have:=hnew b h3;have:=hb.1.1;omega
  ·rw[aW _ _ hr] at h1;rw[hσn r hr] at h2;exact hb.2 r R L h1 h2 h3⟩
 have hkeep:bZ (Zof B σ M w) (Zof B σ2 (bH M q (some (.vec e k N λi j=>.r (g i j)))) w') w w':=λb hb=>⟨hz2 b hb,hsame b hb.1.1⟩;have hz3:∀b,Zof B1 σ' (fD [some (.vec e k N λi j=>.r (g i j))]) w' b->Zof B σ2 (bH M q (some (.vec e k N λi j=>.r (g i j)))) w' b:=λb hb=>⟨⟨hb.1.1,by
  rcases hb.1.2 with h | h
  ·exact h.1.2
  ·exact hm.newB b (.inl ω)⟩,λr R L h1 h2 h3=>by
  by_cases hr:r=q
  ·subst hr;rw[hσq] at h2;cases h2;exact hb.2 0 _ L0 rfl g1 h3
  ·rw[aW _ _ hr] at h1;rw[hσn r hr] at h2;have h5:=hlt r R L b h1 h2 h3;rcases hb.1.2 with h | h
   ·exact h.2 r R L h1 h2 h3
   ·omega⟩
 refine⟨y,_,σ2,rfl,rfl,?_,⟨hm.newB,λr hr=>by rw[hσn r hr.2];exact hm.fresh r hr.1,λr R h=>?_,λr r' R R' L L' b h1 h2 h3 h4 h5 h6=>?_,λr R L b h1 h2 h3=>?_⟩,hs2,hkeep,⟨hf.os,hf.tape,hf.output,hf.size,hf.drawn,λb hb _=>hsame b ω⟩,hσn⟩
 ·obtain⟨L,A,h1,h2⟩:=hr;rw[g1] at h1;cases h1;exact⟨L0,A,hσq,h2⟩
 ·by_cases hr:r=q
  ·subst hr;rw[aZ] at h;cases h;obtain⟨q1,q2,q3⟩:=g2;exact⟨L0,hσq,q1,q2,q3.imp id λ⟨b,cs,r1,r2,r3,r4,r5⟩=>⟨b,cs,r1,r2,r3,r4,λi j hi hj=>by
    obtain⟨v,v1,v0,v2⟩:=r5 i j hi hj;exact⟨v,v1,v0,RV.rel_mono (λb hb=>⟨hz3 b hb,rfl⟩) _ _ v2⟩⟩⟩
  ·rw[aW _ _ hr] at h;obtain⟨L,e1,e2⟩:=hm.reg r R h;exact⟨L,hs2 _ _ e1,e2.mono hs2 hkeep λb hb=>hsame b (e2.block hb)⟩
 ·by_cases hr:r=q
  ·subst hr;rw[hσq] at h3;cases h3;have g3:=hnew b h5;by_cases hr':r'=r
   ·exact hr'.symm
   ·rw[aW _ _ hr'] at h2;rw[hσn r' hr'] at h4;have:=hlt r' R' L' b h2 h4 h6;omega
  ·rw[aW _ _ hr] at h1;rw[hσn r hr] at h3;have g3:=hlt r R L b h1 h3 h5;by_cases hr':r'=q
   ·subst hr';rw[hσq] at h4;cases h4;have:=hnew b h6;omega
   ·rw[aW _ _ hr'] at h2;rw[hσn r' hr'] at h4;exact hm.inj r r' R R' L L' b h1 h2 h3 h4 h5 h6
 ·by_cases hr:r=q
  ·subst hr;rw[hσq] at h2;cases h2;right;have:=hnew b h3;omega
  ·rw[aW _ _ hr] at h1;rw[hσn r hr] at h2;exact hm.own r R L b h1 h2 h3
def aX6 (P:Program) (M:Mem) (q:Nat) (f:FuncId) (args:List SV) (p:SV × Option Reg):Prop:=(aG7 P M f args p.1/\p.2=none)\/aLm P q f args p.1 p.2
def cB (nx:Nat) (l:List SV):Prop:=∀s∈l,∀q∈s.refs,q<nx
def wU (P:Program) (T:Tab) (o:Oper) (E:Env) (M:Mem) (q:Nat) (v:SV) (u:Option Reg):Prop:=
 cB q (o.op.operands.toList.map (ev E))/\
 match o.op with
 | .pick c x y=>∃t,ev E c=.b t/\v=(if t then ev E x else ev E y)/\u=none
 | op=>match dU T op E M q with
   | .pure ob s=>ob/\v=s/\u=none
   | .new ob R s=>ob/\v=s/\u=some R
   | .call f args=>cB q args/\aX6 P M q f args (v,u)
   | _=>False
def wW (P:Program) (T:Tab) (N:cZ) (ops:Array Oper) (o:Oper) (E:Env) (M:Mem) (q:Nat) (v:SV) (u:Option Reg):Prop:=
 dC N.n o.dst/\
 match o.guard with
 | none=>wU P T o E M q v u
 | some (j,want)=>∃d,(ops[j]?).bind (·.dst)=some d/\((∃t,E d=.b t/\if t=want then wU P T o E M q v u else v=.r (.v undef)/\u=none)\/(∃x,E d=.r (.v x)/\(∀t,x=.bool t->False)/\v=.r (.v undef)/\u=none))
def kJ (M:Mem) (q:Nat) (u:Option Reg):Mem:=match u with | some R=>bH M q (some R) | none=>M
def yT (q:Nat) (u:Option Reg):Nat:=match u with | some _=>q+1 | none=>q
def jF (ops:Array Oper) (i j:Nat):Bool:=
 match (ops[i]?).bind (·.dst),ops[j]? with
 | some d,some o=>
   o.dst==some d||(o.op.operands.any fun | .tmp t=>t==d | _=>false) ||
    (match o.guard with | some (g,_)=>((ops[g]?).bind (·.dst))==some d | none=>false)
 | _,_=>false
def aIg (acc:Array Nat) (l:List Edge):Nat:=l.foldr (λe s=>if Region.binds .any e then 2 ^ e.on ||| acc.getD e.on 0 ||| s else s) 0
def qK (acc:Array Nat):List Oper->Array Nat
 | []=>acc
 | o::rest=>qK (acc.push (aIg acc o.after.toList)) rest
def aZs (ops:Array Oper):Array Nat:=qK #[] ops.toList
def mH (ops:Array Oper) (i j:Nat):Bool:=((aZs ops).getD j 0).testBit i
def tZ (ops:Array Oper) (m:Nat):Bool:=
 decide (m<=ops.size) &&
 ((List.range m).all λj=>(List.range m).all λi=>i==j||!(jF ops i j)||(if i<j then mH ops i j else mH ops j i)) &&
 ((List.range ops.size).all λj=>decide (j<m)||(List.range j).all λi=>mH ops i j) &&
 ops.toList.zipIdx.all λ(o,i)=>o.after.all λe=>!Region.binds .any e||decide (e.on<i)
theorem uK (acc:Array Nat) (i:Nat):∀l:List Edge,(aIg acc l).testBit i=true->∃e∈l,Region.binds .any e=true/\(e.on=i\/(acc.getD e.on 0).testBit i=true)
 | [],h=>by simp[aIg] at h
 | e::l,h=>by
   have hm:aIg acc (e::l)=if Region.binds .any e then 2 ^ e.on ||| acc.getD e.on 0 ||| aIg acc l else aIg acc l:=rfl
   rw[hm] at h;split at h
   ·rename_i hb;rw[Nat.testBit_or,Nat.testBit_or,Bool.or_eq_true,Bool.or_eq_true] at h;rcases h with (h | h) | h
    ·rw[Nat.testBit_two_pow] at h;exact⟨e,τ,hb,.inl (by simpa using h)⟩
    ·exact⟨e,τ,hb,.inr h⟩
    ·obtain⟨e',h1,h2,h3⟩:=uK acc i l h;exact⟨e',by simp[h1],h2,h3⟩
   ·obtain⟨e',h1,h2,h3⟩:=uK acc i l h;exact⟨e',by simp[h1],h2,h3⟩
theorem tX:∀(l:List Oper) (acc:Array Nat) (j:Nat),j<acc.size->(qK acc l).getD j 0=acc.getD j 0
 | [],acc,j,h=>rfl
 | o::l,acc,j,h=>by
   simp only [qK];rw[tX l _ j ι];simp[Array.getElem?_push,Nat.ne_of_lt h,h]
theorem aBb (i:Nat):∀(l:List Oper) (acc:Array Nat) (k:Nat),((qK acc l).getD (acc.size+k) 0).testBit i=true->
 ∃o,l[k]? =some o/\∃e∈o.after.toList,Region.binds .any e=true/\(e.on=i\/(acc.size+k<=e.on\/((qK acc l).getD e.on 0).testBit i=true))
 | [],acc,k,h=>by simp[qK] at h
 | o::l,acc,0,h=>by
   simp only [qK,Nat.add_zero] at h;rw[tX l _ acc.size τ] at h;simp at h;obtain⟨e,h1,h2,h3⟩:=uK acc i _ h;refine⟨o,rfl,e,h1,h2,h3.imp id λh4=>?_⟩;rcases Nat.lt_or_ge e.on acc.size with h5 | h5
   ·right;simp only [qK];rw[tX l _ e.on ι];simpa [Array.getElem?_push,Nat.ne_of_lt h5,h5] using h4
   ·left;omega
 | o::l,acc,k+1,h=>by
   simp only [qK] at h ⊢;have:=aBb i l (acc.push (aIg acc o.after.toList)) k (by simpa [Nat.add_assoc,Nat.add_comm 1 k] using h);simpa [Nat.add_assoc,Nat.add_comm 1 k] using this
theorem oD {ops:Array Oper} (hwf:∀j o,ops[j]? =some o->∀e∈o.after,Region.binds .any e=true->e.on<j) {l:Nat->Prop} (hl:∀j o,l j->ops[j]? =some o->∀e∈o.after,Region.binds .any e=true->l e.on) {i:Nat} :
 ∀(j:Nat),(∀o,ops[j]? =some o->∀e∈o.after,Region.binds .any e=true->l e.on)->mH ops i j=true->l i:=by
 intro j
 induction j using Nat.strongRecOn with
 | _ j ih=>
   intro hj h;obtain⟨o,h1,e,h2,h3,h4⟩:=aBb i ops.toList #[] j (by simpa [mH,aZs] using h);have h1':ops[j]? =some o:=by simpa using h1
   have h2':e∈o.after:=by simpa using h2
   have hlt:=hwf j o h1' e h2' h3;have hle:=hj o h1' e h2' h3;rcases h4 with rfl | h4 | h4
   ·exact hle
   ·simp at h4;omega
   ·exact ih e.on hlt (λo' ho'=>hl _ o' hle ho') (by simpa [mH,aZs] using h4)
def qI (ops:Array Oper) (vals:Nat->SV × Option Reg) (E:Env) (l:Nat->Bool):Nat->Env
 | 0=>E
 | j+1=>if l j then aK (qI ops vals E l j) ((ops[j]?).bind (·.dst)) (vals j).1 else qI ops vals E l j
def oB (vals:Nat->SV × Option Reg) (q:Nat->Nat) (M:Mem) (l:Nat->Bool):Nat->Mem
 | 0=>M
 | j+1=>if l j then kJ (oB vals q M l j) (q j) (vals j).2 else oB vals q M l j
theorem aBj {E:Env} {d:Option Tmp} {s:SV} {t:Nat} (h:d≠some t):aK E d s t=E t:=by
 cases d with
 | none=>rfl
 | some d=>exact aW _ _ (λe=>h (by rw[e]))
theorem tQ {ops:Array Oper} {vals:Nat->SV × Option Reg} {E:Env} {l l':Nat->Bool} {t:Nat}:∀(m:Nat),(∀k,k<m->(ops[k]?).bind (·.dst)=some t->l k=l' k)->qI ops vals E l m t=qI ops vals E l' m t
 | 0,_=>rfl
 | m+1,h=>by
   have ih:=tQ (vals:=vals) (E:=E) m (λk hk=>h k ω);simp only [qI];by_cases hd:(ops[m]?).bind (·.dst)=some t
   ·simp only [h m ω hd];split
    ·rw[hd];simp[aK,bH]
    ·exact ih
   ·have h1:∀b:Bool,∀A:Env,(if b then aK A ((ops[m]?).bind (·.dst)) (vals m).1 else A) t=A t:=by
     intro b A
     cases b
     ·rfl
     ·simp only [if_true];exact aBj hd
    rw[h1,h1];exact ih
theorem aEj {ops:Array Oper} {vals:Nat->SV × Option Reg} {E:Env} {l:Nat->Bool} {t i:Nat}:∀(m:Nat),i<=m->(∀k,i<=k->k<m->(ops[k]?).bind (·.dst)=some t->l k=false)->qI ops vals E l m t=qI ops vals E l i t
 | 0,hi,_=>by
   have:i=0:=ω;subst this;rfl
 | m+1,hi,h=>by
   by_cases he:i=m+1
   ·subst he;rfl
   ·rw[<- aEj m ω (λk h1 h2=>h k h1 ω)];simp only [qI];split
    ·rename_i hl;refine aBj λhd=>?_;rw[h m ω ω hd] at hl;cases hl
    ·rfl
theorem tU {vals:Nat->SV × Option Reg} {q:Nat->Nat} {M:Mem} {l:Nat->Bool} {x:Nat}:∀(m:Nat),(∀k,k<m->(vals k).2≠none->q k≠x)->oB vals q M l m x=M x
 | 0,_=>rfl
 | m+1,h=>by
   have ih:=tU (l:=l) (M:=M) m (λk hk=>h k ω);simp only [oB];split
   ·cases hu:(vals m).2 with
    | none=>exact ih
    | some R=>simp only [kJ];rw[aW _ _ (Ne.symm (h m ω (by simp[hu])))];exact ih
   ·exact ih
theorem sB {vals:Nat->SV × Option Reg} {q:Nat->Nat} {M:Mem} {l:Nat->Bool} {c:Nat} {R:Reg} (hc:(vals c).2=some R):∀(m:Nat),c<m->(∀k,k<m->k≠c->(vals k).2≠none->q k≠q c)->l c=true->oB vals q M l m (q c)=some R
 | 0,h,_,_=>ω
 | m+1,h,hne,hl=>by
   simp only [oB];by_cases he:c=m
   ·subst he;rw[if_pos hl,hc];simp[kJ,bH]
   ·have ih:=sB (M:=M) hc m ω (λk hk=>hne k ω) hl;split
    ·cases hu:(vals m).2 with
     | none=>exact ih
     | some R'=>simp only [kJ];rw[aW _ _ (Ne.symm (hne m ω (Ne.symm he) (by simp[hu])))];exact ih
    ·exact ih
theorem aJv {vals:Nat->SV × Option Reg} {q:Nat->Nat} {M:Mem} {l:Nat->Bool} {i:Nat} (hl:l i=false):∀(m:Nat),i<m->(∀k,k<m->k≠i->(vals k).2≠none->(vals i).2≠none->q k≠q i)->
 oB vals q M (λk=>if k=i then true else l k) m=kJ (oB vals q M l m) (q i) (vals i).2
 | 0,h,_=>ω
 | m+1,h,hne=>by
   simp only [oB];by_cases he:i=m
   ·subst he;rw[if_pos τ,if_neg (by simp[hl])]
    congr 1
    have:∀j,j<=i->oB vals q M (λk=>if k=i then true else l k) j=oB vals q M l j:=by
     intro j
     induction j with
     | zero=>intro _;rfl
     | succ j ih=>
       intro hj;simp only [oB];have hji:¬j=i:=ω;simp only [ih ω,hji,if_false]
    exact this i (Nat.le_refl _)
   ·have ih:=aJv (vals:=vals) (q:=q) (M:=M) hl m ω (λk hk=>hne k ω);have hmi:¬m=i:=Ne.symm he;simp only [ih,hmi,if_false];split
    ·cases hu:(vals m).2 with
     | none=>rfl
     | some R=>
       cases hi:(vals i).2 with
       | none=>rfl
       | some R'=>
         simp only [kJ];funext x;have:=hne m ω (Ne.symm he) (by simp[hu]) (by simp[hi]);simp only [bH];split
         ·rename_i h1;subst h1;rw[if_neg this]
         ·rfl
    ·rfl
theorem aJr {ops:Array Oper} {vals:Nat->SV × Option Reg} {E:Env} {l:Nat->Bool} {i:Nat} (hl:l i=false):∀(m:Nat),i<m->(∀k,i<k->k<m->l k=true->∀t,(ops[i]?).bind (·.dst)=some t->(ops[k]?).bind (·.dst)≠some t)->
 qI ops vals E (λk=>if k=i then true else l k) m=aK (qI ops vals E l m) ((ops[i]?).bind (·.dst)) (vals i).1
 | 0,h,_=>ω
 | m+1,h,hne=>by
   simp only [qI];by_cases he:i=m
   ·subst he;rw[if_pos τ,if_neg (by simp[hl])]
    congr 1
    have:∀j,j<=i->qI ops vals E (λk=>if k=i then true else l k) j=qI ops vals E l j:=by
     intro j
     induction j with
     | zero=>intro _;rfl
     | succ j ih=>
       intro hj;simp only [qI];have hji:¬j=i:=ω;simp only [ih ω,hji,if_false]
    exact this i (Nat.le_refl _)
   ·have ih:=aJr (vals:=vals) (E:=E) hl m ω (λk h1 h2=>hne k h1 ω);have hmi:¬m=i:=Ne.symm he;simp only [ih,hmi,if_false];split
    ·rename_i hlm
     cases hu:(ops[m]?).bind (·.dst) with
     | none=>rfl
     | some d=>
       cases hi:(ops[i]?).bind (·.dst) with
       | none=>rfl
       | some d'=>
         have hdd:d≠d':=λe=>hne m ω ω hlm d' hi (by rw[hu,e]);simp only [aK];funext x;simp only [bH];split
         ·rename_i h1;subst h1;rw[if_neg hdd]
         ·rfl
    ·rfl
end
end Go.Gx
namespace Go.Gx
open Go.RowKit
def aQ1 (nw:FuncId->Bool) (P:Program) (T:Tab) (N:cZ) (o:Oper) (E:Env) (M:Mem) (nx:Nat) (K:SV->Option Reg->Prop):Prop:=
 dC N.n o.dst/\cB nx (o.op.operands.toList.map (ev E))/\match o.op with
 | .pick c x y=>
   match ev E c with
   | .r (.v (.bool t))=>if t=true then K (ev E x) none else K (ev E y) none
   | _=>False
 | op=>match dU T op E M nx with
   | .pure ob s=>ob/\K s none
   | .new ob R s=>ob/\K s (some R)
   | .call f args=>cB nx args/\if nw f=true then ∃v R,aLm P nx f args v (some R)/\K v (some R) else ∃v,aG7 P M f args v/\K v none
   | _=>False
def lE (nw:FuncId->Bool) (P:Program) (T:Tab) (N:cZ) (ops:Array Oper):List Oper->Env->Mem->Nat->(Env->Mem->Nat->Prop)->Prop
 | [],E,M,nx,K=>K E M nx
 | o::rest,E,M,nx,K=>
   match o.guard with
   | none=>aQ1 nw P T N o E M nx λv u=>lE nw P T N ops rest (aK E o.dst v) (kJ M nx u) (yT nx u) K
   | some (j,want)=>
     match (ops[j]?).bind (·.dst) with
     | none=>False
     | some d=>
       match E d with
       | .r (.v (.bool t))=>
         if t=want then aQ1 nw P T N o (bH E d (.b want)) M nx λv u=>lE nw P T N ops rest (aK (bH E d (.b want)) o.dst v) (kJ M nx u) (yT nx u) K
         else dC N.n o.dst/\lE nw P T N ops rest (aK (bH E d (.b (!want))) o.dst (.r (.v undef))) M nx K
       | .r (.v x)=>dC N.n o.dst/\lE nw P T N ops rest (aK E o.dst (.r (.v undef))) M nx K
       | _=>False
def SL (l:List Oper) (vals:Nat->SV × Option Reg) (E:Env) (M:Mem) (nx:Nat):Nat->Env × Mem × Nat
 | 0=>(E,M,nx)
 | j+1=>(aK (SL l vals E M nx j).1 ((l[j]?).bind (·.dst)) (vals j).1,kJ (SL l vals E M nx j).2.1 (SL l vals E M nx j).2.2 (vals j).2,yT (SL l vals E M nx j).2.2 (vals j).2)
section
variable {nw:FuncId->Bool} {P:Program} {T:Tab} {B W F:Nat->Prop} {w0:W0} {N:cZ} {n0:Nat} {σ σ':Sig} {M M':Mem} {nx:Nat} {w w':World} {a:Act} {E E':Env} {ops:Array Oper}
def wV (P:Program) (T:Tab) (op:Op) (E:Env) (M:Mem) (q:Nat) (v:SV) (u:Option Reg):Prop:=
 match dU T op E M q with
 | .pure ob s=>ob/\v=s/\u=none
 | .new ob R s=>ob/\v=s/\u=some R
 | .call f args=>cB q args/\aX6 P M q f args (v,u)
 | _=>False
theorem aA2 {o:Oper} {q:Nat} {v:SV} {u:Option Reg} {c x y:Operand} (hop:o.op=.pick c x y):wU P T o E M q v u↔cB q (o.op.operands.toList.map (ev E))/\∃t,ev E c=.b t/\v=(if t then ev E x else ev E y)/\u=none:=by
 unfold wU;rw[hop]
theorem lM {o:Oper} {q:Nat} {v:SV} {u:Option Reg} (hp:∀c x y,o.op≠.pick c x y):wU P T o E M q v u↔cB q (o.op.operands.toList.map (ev E))/\wV P T o.op E M q v u:=by
 unfold wU wV
 cases hop:o.op with
 | pick c x y=>exact absurd hop (hp c x y)
 | _=>exact Iff.rfl
theorem aFm {o:Oper} {K:SV->Option Reg->Prop} (h:aQ1 nw P T N o E M nx K):∃v u,dC N.n o.dst/\wU P T o E M nx v u/\K v u:=by
 obtain⟨h1,h2,h3⟩:=h;split at h3
 ·rename_i c x y hop;split at h3
  ·rename_i t heq;refine⟨if t then ev E x else ev E y,none,h1,(aA2 hop).2 ⟨h2,t,heq,rfl,rfl⟩,?_⟩
   cases t
   ·simpa using h3
   ·simpa using h3
  ·exact h3.elim
 ·rename_i op hop;have hp:∀c x y,o.op≠.pick c x y:=λc x y h=>hop c x y h;split at h3
  ·rename_i ob s hg;exact⟨s,none,h1,(lM hp).2 ⟨h2,by unfold wV;rw[hg];exact⟨h3.1,rfl,rfl⟩⟩,h3.2⟩
  ·rename_i ob R s hg;exact⟨s,some R,h1,(lM hp).2 ⟨h2,by unfold wV;rw[hg];exact⟨h3.1,rfl,rfl⟩⟩,h3.2⟩
  ·rename_i f args hg;obtain⟨h6,h3⟩:=h3;split at h3
   ·obtain⟨v,R,h4,h5⟩:=h3;exact⟨v,some R,h1,(lM hp).2 ⟨h2,by unfold wV;rw[hg];exact⟨h6,.inr h4⟩⟩,h5⟩
   ·obtain⟨v,h4,h5⟩:=h3;exact⟨v,none,h1,(lM hp).2 ⟨h2,by unfold wV;rw[hg];exact⟨h6,.inl ⟨h4,rfl⟩⟩⟩,h5⟩
  ·exact h3.elim
theorem aTu {E:Env} {d:Nat} {s:SV} (h:E d=s):bH E d s=E:=by
 funext t;by_cases ht:t=d
 ·subst ht;rw[aZ,h]
 ·rw[aW _ _ ht]
theorem wX {o:Oper} {q:Nat} {v:SV} {u:Option Reg} (hg:o.guard=none):wW P T N ops o E M q v u↔dC N.n o.dst/\wU P T o E M q v u:=by
 unfold wW;rw[hg]
theorem mF {o:Oper} {q:Nat} {v:SV} {u:Option Reg} {j:Nat} {want:Bool} (hg:o.guard=some (j,want)):wW P T N ops o E M q v u↔dC N.n o.dst/\∃d,(ops[j]?).bind (·.dst)=some d/\((∃t,E d=.b t/\if t=want then wU P T o E M q v u else v=.r (.v undef)/\u=none)\/(∃x,E d=.r (.v x)/\(∀t,x=.bool t->False)/\v=.r (.v undef)/\u=none)):=by
 unfold wW;rw[hg]
theorem aMz {o:Oper} {rest:List Oper} {K:Env->Mem->Nat->Prop} (h:lE nw P T N ops (o::rest) E M nx K) :
 ∃v u,wW P T N ops o E M nx v u/\lE nw P T N ops rest (aK E o.dst v) (kJ M nx u) (yT nx u) K:=by
 simp only [lE] at h;split at h
 ·rename_i hg;obtain⟨v,u,h1,h2,h3⟩:=aFm h;exact⟨v,u,(wX hg).2 ⟨h1,h2⟩,h3⟩
 ·rename_i j want hg;split at h
  ·exact h.elim
  ·rename_i d hd;split at h
   ·rename_i t heq;by_cases ht:t=want
    ·subst ht;rw[if_pos rfl,aTu heq] at h;obtain⟨v,u,h1,h2,h3⟩:=aFm h;exact⟨v,u,(mF hg).2 ⟨h1,d,hd,.inl ⟨t,heq,by rw[if_pos rfl];exact h2⟩⟩,h3⟩
    ·rw[if_neg ht] at h;have hb:t=!want:=by cases t <;> cases want <;> simp_all
     rw[aTu (by rw[heq,hb])] at h;exact⟨.r (.v undef),none,(mF hg).2 ⟨h.1,d,hd,.inl ⟨t,heq,by rw[if_neg ht];exact⟨rfl,rfl⟩⟩⟩,h.2⟩
   ·rename_i x hnb heq;exact⟨.r (.v undef),none,(mF hg).2 ⟨h.1,d,hd,.inr ⟨x,heq,hnb,rfl,rfl⟩⟩,h.2⟩
   ·exact h.elim
theorem aCu (o:Oper) (l:List Oper) (v:SV) (u:Option Reg) (vals:Nat->SV × Option Reg):∀k,SL (o::l) (fun | 0=>(v,u) | k+1=>vals k) E M nx (k+1)=SL l vals (aK E o.dst v) (kJ M nx u) (yT nx u) k
 | 0=>rfl
 | k+1=>by
   have ih:=aCu o l v u vals k;rw[SL,ih];simp[SL]
theorem sP {K:Env->Mem->Nat->Prop}:∀(l:List Oper) (E:Env) (M:Mem) (nx:Nat),lE nw P T N ops l E M nx K->
 ∃vals,(∀k o,l[k]? =some o->wW P T N ops o (SL l vals E M nx k).1 (SL l vals E M nx k).2.1 (SL l vals E M nx k).2.2 (vals k).1 (vals k).2)/\K (SL l vals E M nx l.length).1 (SL l vals E M nx l.length).2.1 (SL l vals E M nx l.length).2.2
 | [],E,M,nx,h=>⟨λ_=>(.r .any,none),λk o hk=>by simp at hk,h⟩
 | o::l,E,M,nx,h=>by
   obtain⟨v,u,h1,h2⟩:=aMz h;obtain⟨vals,h3,h4⟩:=sP l _ _ _ h2;refine⟨fun | 0=>(v,u) | k+1=>vals k,λk o' hk=>?_,?_⟩
   ·cases k with
    | zero=>simp at hk;subst hk;exact h1
    | succ k=>rw[aCu];exact h3 k o' (by simpa using hk)
   ·rw[List.length_cons,aCu];exact h4
section trace
variable {l:List Oper} {vals:Nat->SV × Option Reg}
theorem bI6 (j:Nat):(SL l vals E M nx j).2.2<=(SL l vals E M nx (j+1)).2.2:=by
 rw[SL];simp only;unfold yT;split <;> omega
theorem aS0 {i j:Nat} (h:i<=j):(SL l vals E M nx i).2.2<=(SL l vals E M nx j).2.2:=by
 induction j with
 | zero=>have:i=0:=ω
         subst this;exact Nat.le_refl _
 | succ j ih=>
   by_cases hi:i=j+1
   ·subst hi;exact Nat.le_refl _
   ·exact Nat.le_trans (ih ω) (bI6 j)
theorem bBg {i j:Nat} (h:i<j) (hc:(vals i).2≠none):(SL l vals E M nx i).2.2<(SL l vals E M nx j).2.2:=by
 refine Nat.lt_of_lt_of_le ?_ (aS0 (i:=i+1) h);rw[SL];simp only
 cases hu:(vals i).2 with
 | none=>exact absurd hu hc
 | some R=>simp[yT]
theorem bI7 {i j:Nat} (h:i≠j) (hi:(vals i).2≠none) (hj:(vals j).2≠none):(SL l vals E M nx i).2.2≠(SL l vals E M nx j).2.2:=by
 rcases Nat.lt_or_ge i j with h1 | h1
 ·exact Nat.ne_of_lt (bBg h1 hi)
 ·exact Nat.ne_of_gt (bBg ω hj)
theorem aSz {x:Nat}:∀{j:Nat},nx<=x->x<(SL l vals E M nx j).2.2->∃c,c<j/\(vals c).2≠none/\(SL l vals E M nx c).2.2=x
 | 0,h1,h2=>by simp[SL] at h2;omega
 | j+1,h1,h2=>by
   by_cases h3:x<(SL l vals E M nx j).2.2
   ·obtain⟨c,c1,c2,c3⟩:=aSz h1 h3;exact⟨c,ω,c2,c3⟩
   ·rw[SL] at h2;simp only at h2
    cases hu:(vals j).2 with
    | none=>rw[hu] at h2;simp[yT] at h2;omega
    | some R=>rw[hu] at h2;simp[yT] at h2;exact⟨j,ω,by simp[hu],ω⟩
theorem aOx:∀(j:Nat),(SL l vals E M nx j).2.1=oB vals (λk=>(SL l vals E M nx k).2.2) M (λ_=>true) j
 | 0=>rfl
 | j+1=>by rw[SL];simp only [oB,if_true];rw[aOx j]
theorem aOw (hl:∀k,k<l.length->(l[k]?).bind (·.dst)=(ops[k]?).bind (·.dst)):∀(j:Nat),j<=l.length->(SL l vals E M nx j).1=qI ops vals E (λ_=>true) j
 | 0,_=>rfl
 | j+1,h=>by rw[SL];simp only [qI,if_true];rw[aOw hl j ω,hl j ω]
end trace
theorem aKl {e:TypeId} {ei:TI} {s:SV} {ob:Prop} {m:Nat} {get:Nat->Nat->SV} {q q':Nat} (h:∀ob' R s',uC e ei M q s ob m get≠.new ob' R s'):uC e ei M q' s ob m get=uC e ei M q s ob m get:=by
 cases s with
 | sl r k lo n c=>
   cases c with
   | none=>cases lo <;> rfl
   | some c=>
     simp only [uC] at h ⊢
     cases hM:M r with
     | none=>rfl
     | some R=>
       cases R with
       | vec e' k' N g=>rw[hM] at h;exact absurd rfl (h _ _ _)
       | _=>rfl
 | r x=>
   cases x with
   | v x=>
     cases x with
     | slice A n c=>
       cases A with
       | none=>
         cases n with
         | zero=>
           cases c with
           | zero=>exact absurd rfl (h _ _ _)
           | succ c=>rfl
         | succ n=>rfl
       | some A=>rfl
     | _=>rfl
   | rf k n g=>exact absurd rfl (h _ _ _)
   | _=>rfl
 | _=>rfl
theorem aQ8 {op:Op} {q q':Nat} (h:∀ob R s,dU T op E M q≠.new ob R s):dU T op E M q'=dU T op E M q:=by
 cases op with
 | box t x=>
   simp only [dU] at h ⊢;split
   ·rename_i i hi;rw[hi] at h;exact absurd rfl (h _ _ _)
   ·rfl
 | alloc t=>
   simp only [dU] at h ⊢;split
   ·rename_i i hi;rw[hi] at h;exact absurd rfl (h _ _ _)
   ·rfl
 | buildSlice t len ps=>
   simp only [dU] at h ⊢;unfold eW at h ⊢;split
   ·rename_i a1 a2 a3 e hi;rw[hi] at h;simp only at h;split
    ·rfl
    ·rename_i ei hei;rw[hei] at h;simp only at h;split
     ·rename_i cs hcs;rw[hcs] at h;exact absurd rfl (h _ _ _)
     ·rfl
   ·rfl
 | makeMap t r=>
   simp only [dU] at h ⊢;unfold lR at h ⊢;split
   ·rfl
   ·rename_i e he;rw[he] at h;simp only at h;split
    ·rename_i hr;rw[hr] at h;exact absurd rfl (h _ _ _)
    ·rename_i hr;rw[hr] at h;exact absurd rfl (h _ _ _)
    ·rfl
 | makeSlice t l c=>
   simp only [dU] at h ⊢;unfold gU at h ⊢;split
   ·rename_i a1 a2 a3 e hi;rw[hi] at h;simp only at h;split
    ·rfl
    ·rename_i ei hei;rw[hei] at h;simp only at h;split
     ·rename_i h1 h2;rw[h1,h2] at h;exact absurd rfl (h _ _ _)
     ·rfl
   ·rfl
 | call c=>
   obtain⟨callee,args,ts⟩:=c
   cases callee with
   | builtin b=>
     simp only [dU] at h ⊢;unfold gC at h ⊢;split
     ·rfl
     ·rename_i t t' s x h1 h2;rw[h1,h2] at h;simp only at h;split
      ·rename_i ht;rw[if_pos ht] at h;unfold kW at h ⊢;split
       ·rename_i a1 a2 a3 e hi;rw[hi] at h;simp only at h;split
        ·rfl
        ·rename_i ei hei;rw[hei] at h;simp only at h;split
         ·rfl
         ·rename_i ob m get hr;rw[hr] at h;exact aKl h
       ·rfl
      ·rename_i ht;rw[if_neg ht] at h;unfold iJ at h ⊢;split
       ·rename_i a1 a2 a3 e k m hi hi';simp only [hi,hi'] at h;split
        ·rfl
        ·rename_i ei hei;rw[hei] at h;simp only at h;split
         ·exact aKl h
         ·rfl
       ·rfl
     all_goals rfl
   | value f=>rfl
   | invoke r m=>rfl
 | _=>rfl
theorem uF (hT:aX P T) {o:Oper} {rest:List Oper} {K:Env->Mem->Nat->Prop} {next:Act->World->Prop} {Q:Exit->Act->World->Prop} (h:St B W w0 N σ E M nx a w) (hg:oP P T N ops (o::rest) E M nx K)
 (hn:∀E' M' nx' σ' a' w',oP P T N ops rest E' M' nx' K->St B W w0 N σ' E' M' nx' a' w'->next a' w') :
 if Region.wanted o (yielded ops a.tmps) then o.wpIn Fence.wide 0 P a w next Q else next (a.put o.dst undef) w:=by
 simp only [oP] at hg;split at hg
 ·rename_i hgd;rw[if_pos (by simp[Region.wanted,hgd])];exact kG hT h hg λE' M' nx' σ' a' w' hk hs=>hn E' M' nx' σ' a' w' hk hs
 ·rename_i j want hgd;split at hg
  ·exact hg.elim
  ·rename_i d hj;split at hg
   ·rename_i t heq;have he:=h.env d;rw[heq] at he;have hy:=rX hj he (rO he);by_cases ht:t=want
    ·subst ht;rw[if_pos rfl] at hg;rw[if_pos (by simp[Region.wanted,hgd,hy])];exact kG hT (wS h he) hg λE' M' nx' σ' a' w' hk hs=>hn E' M' nx' σ' a' w' hk hs
    ·rw[if_neg ht] at hg;have hb:t=!want:=by cases t <;> cases want <;> simp_all
     rw[if_neg (by simp[Region.wanted,hgd,hy,ht])];rw[hb] at he;exact hn _ _ _ _ _ _ hg.2 (St.put (wS h he) hg.1 qE)
   ·rename_i x hnb heq;have he:=h.env d;rw[heq] at he;rw[if_neg (by simp[Region.wanted,hgd,pP hj he hnb])];exact hn _ _ _ _ _ _ hg.2 (St.put h hg.1 qE)
   ·exact hg.elim
end
end Go.Gx
namespace Go.Gx
open Go.RowKit
structure StF (B W:Nat->Prop) (w0:W0) (N:cZ) (σ:Sig) (E:Env) (M:Mem) (F:Nat->Prop) (a:Act) (w:World):Prop where
 env:EOK σ (Zof B σ M w) w E a
 mem:MOK B W w0.heap.size σ M F w
 fr:Fr N.good.u W w0 w
 defers:Marks N.good.md w0.heap.size (Zof B σ M w) w a.defers
 size:a.tmps.size=N.n
 low:∀r,F r->N.np<=r
 pin:∀r,r<N.np->σ r=w0.pi r
 good:N.good.p B W w0
section
variable {P:Program} {T:Tab} {B W F:Nat->Prop} {w0:W0} {N:cZ} {n0:Nat} {σ σ':Sig} {M M':Mem} {nx:Nat} {w w':World} {a:Act} {E E':Env} {ops:Array Oper}
theorem StF.put (h:StF B W w0 N σ E M F a w) {d:Option Tmp} {s:SV} {y:Value} (hd:dC N.n d) (hs:s.rel σ (Zof B σ M w) w y):StF B W w0 N σ (aK E d s) M F (a.put d y) w:=
 ⟨h.env.put (by rw[h.size];exact hd) hs,h.mem,h.fr,by rw[zD];exact h.defers,by rw[aGb];exact h.size,h.low,h.pin,h.good⟩
theorem StF.go (h:StF B W w0 N σ E M F a w) {σ':Sig} {M':Mem} {F':Nat->Prop} {w':World} (hm:MOK B W w0.heap.size σ' M' F' w') (hf:FrS N.good.u W w0.heap.size w w')
 (hk:bZ (Zof B σ M w) (Zof B σ' M' w') w w') (he:∀t z,(E t).rel σ (Zof B σ M w) w z->(E t).rel σ' (Zof B σ' M' w') w' z) (hl:∀r,F' r->F r) (hp:∀r,r<N.np->σ' r=σ r):StF B W w0 N σ' E M' F' a w':=
 ⟨λt=>he t _ (h.env t),hm,h.fr.step hf,h.defers.keep hk,h.size,λr hr=>h.low r (hl r hr),λr hr=>(hp r hr).trans (h.pin r hr),h.good⟩
theorem StF.weak (h:StF B W w0 N σ E M F a w) {F':Nat->Prop} (hf:∀r,F' r->F r):StF B W w0 N σ E M F' a w:=⟨h.env,h.mem.weaken hf,h.fr,h.defers,h.size,λr hr=>h.low r (hf r hr),h.pin,h.good⟩
theorem aB7 {r:Nat}:∀{l:List SV},r∈SV.refsL l->∃s∈l,r∈s.refs
 | [],h=>by simp[SV.refsL] at h
 | s::l,h=>by
   simp only [SV.refsL,List.mem_append] at h;rcases h with h | h
   ·exact⟨s,τ,h⟩
   ·obtain⟨s',h1,h2⟩:=aB7 h;exact⟨s',by simp[h1],h2⟩
theorem aFb {f:FuncId} {args:List SV} {v:SV} (h:∀r∈SV.refsL args,M' r=M r) (hd:aEi P M f args v):aEi P M' f args v:=by
 rcases hd with ⟨h1,h2⟩ | h1
 ·exact .inl ⟨(gV args _ h).2 h1,h2⟩
 ·exact .inr h1
theorem aHv (hT:aX P T) {o:Oper} {q q':Nat} {Et:Env} {Mt:Mem} {v:SV} {u:Option Reg} {next:Act->World->Prop} {Q:Exit->Act->World->Prop} (h:StF B W w0 N σ E M F a w) (hd:dC N.n o.dst)
 (hr:wU P T o Et Mt q v u) (he:∀x∈o.op.operands.toList,ev E x=ev Et x) (hmm:∀r,r<q->(∃L,σ r=some L)->M r=Mt r) (hmt:∀r R,Mt r=some R->(∃L,σ r=some L)->M r=some R) (hF:F q') (hFq:u≠none->F q)
 (hK:∀σ' a' w',StF B W w0 N σ' (aK E o.dst v) (kJ M q u) (λr=>F r/\(u≠none->r≠q)) a' w'->next a' w'):o.wp P a w next Q:=by
 have hrefs:cB q (o.op.operands.toList.map (ev Et))->∀x∈o.op.operands.toList,∀r∈(ev Et x).refs,M r=Mt r:=λhu x hx r hr=>hmm r (hu _ (List.mem_map_of_mem hx) r hr) (by
  have:=bA h.env x;rw[he x hx] at this;exact SV.refs_rel _ _ this r hr)
 by_cases hp:∃c x y,o.op=.pick c x y
 ·obtain⟨c,x,y,hop⟩:=hp;obtain⟨hu,t,h1,rfl,rfl⟩:=(aA2 hop).1 hr;have hc:=bA h.env c;rw[he c (by simp[hop,Op.operands]),h1] at hc;have hx:=bA h.env x;rw[he x (by simp[hop,Op.operands])] at hx;have hy:=bA h.env y;rw[he y (by simp[hop,Op.operands])] at hy;have e:(execOp a.eval o).run P w=.ok (.value (if t then a.eval x else a.eval y)) w:=by
   simp only [execOp,hop,show a.eval c=.bool t from hc,asBool];rfl
  unfold Oper.wp;rw[e];refine hK σ _ _ ((h.put hd ?_).weak λr hr=>hr.1)
  cases t
  ·exact hy
  ·exact hx
 ·have hp':∀c x y,o.op≠.pick c x y:=λc x y h=>hp ⟨c,x,y,h⟩;obtain⟨hu,hr⟩:=(lM hp').1 hr;have hrefs:=hrefs hu;unfold wV at hr;split at hr
  ·rename_i ob s hg;obtain⟨hob,rfl,rfl⟩:=hr;have hs:=rV hT h.mem hF h.fr.size h.env o;rw[uE he hrefs,aQ8 (q:=q) (by rw[hg];intro _ _ _ h;cases h),hg] at hs;obtain⟨y,hy | ⟨hy,rfl⟩,hrel⟩:=hs hob
   ·unfold Oper.wp;rw[hy];exact hK σ _ _ ((h.put hd hrel).weak λr hr=>hr.1)
   ·unfold Oper.wp;rw[hy];exact hK σ _ _ ((h.put hd hrel).weak λr hr=>hr.1)
  ·rename_i ob R s hg;obtain⟨hob,rfl,rfl⟩:=hr;have hq:=hFq τ;have hs:=rV hT h.mem hq h.fr.size h.env o;rw[uE he hrefs,hg] at hs;obtain⟨y,w',L,hy,h1,h2,h3,h4⟩:=hs hob;unfold Oper.wp;rw[hy];refine hK _ _ _ (StF.put (h.go (h1.weaken λr hr=>⟨hr.1,hr.2 τ⟩) h4.to h2 (λt z hz=>SV.rel_mono (λr L' hL=>?_) h2 _ _ hz) (λr hr=>hr.1) λr hr=>aW _ _ (Nat.ne_of_lt (Nat.lt_of_lt_of_le hr (h.low q hq)))) hd h3);by_cases hr:r=q
   ·subst hr;rw[h.mem.fresh r hq] at hL;cases hL
   ·rw[aW _ _ hr];exact hL
  ·rename_i f args hg;obtain⟨hua,hdc⟩:=hr;have hs:=rV hT h.mem hF h.fr.size h.env o;rw[uE he hrefs,aQ8 (q:=q) (by rw[hg];intro _ _ _ h;cases h),hg] at hs;obtain⟨vs,h1,h2⟩:=hs;rcases hdc with ⟨hdc,hu⟩ | hdc
   rotate_left
   ·have hq:=hFq (by obtain⟨e,k,N,g,lo,n,c,h1,h2,_⟩:=hdc;have h2:u=_:=h2;rw[h2];simp);obtain⟨c1,c2⟩:=aP6 h.mem h.fr.size hq hdc h1;unfold Oper.wp;rw[h2,c1];refine c2.mono λe w' hp=>?_;obtain⟨y,R,σ2,rfl,rfl,p1,p2,p3,p4,p5,p6⟩:=hp;exact hK _ _ _ (StF.put (h.go (p2.weaken λr hr=>⟨hr.1,hr.2 τ⟩) p5.to p4 (λt z hz=>SV.rel_mono p3 p4 _ _ hz) (λr hr=>hr.1) λr hr=>p6 r (Nat.ne_of_lt (Nat.lt_of_lt_of_le hr (h.low q hq)))) hd p1)
   have hu:u=none:=hu;subst hu;have hdc':aEi P M f args v\/((fK Mt args λl=>Pure P f l (· =v))/\v.flat=true):=hdc.imp (aFb (λr hr=>by
    obtain⟨s,h3,h4⟩:=aB7 hr;exact hmm r (hua s h3 r h4) (SV.refsL_rel _ _ h1 r hr))) id
   obtain⟨c1,c2⟩:=aMn h.mem h.fr.size hmt hdc' h1;unfold Oper.wp;rw[h2,c1];refine c2.mono λe w' hp=>?_;obtain⟨y,rfl,p1,p2,p3,p4⟩:=hp;exact hK _ _ _ ((StF.put (h.go p2 p4.to p3 (λt z hz=>SV.rel_mono (λ_ _ h=>h) p3 _ _ hz) (λr hr=>hr) λ_ _=>rfl) hd p1).weak λr hr=>hr.1)
  ·exact hr.elim
structure DK (ops:Array Oper) (m:Nat):Prop where
 le:m<=ops.size
 pair:∀i j,i<m->j<m->i≠j->jF ops i j=true->(if i<j then mH ops i j else mH ops j i)=true
 tail:∀j,m<=j->j<ops.size->∀i,i<j->mH ops i j=true
 wf:∀j o,ops[j]? =some o->∀e∈o.after,Region.binds .any e=true->e.on<j
theorem aFc {m:Nat} (h:tZ ops m=true):DK ops m:=by
 unfold tZ at h;rw[Bool.and_eq_true,Bool.and_eq_true,Bool.and_eq_true] at h;obtain⟨⟨⟨h1,h2⟩,h3⟩,h4⟩:=h;refine⟨of_decide_eq_true h1,λi j hi hj hne hc=>?_,λj hj hs i hi=>?_,λj o ho e he hb=>?_⟩
 ·have:=List.all_eq_true.1 (List.all_eq_true.1 h2 j (List.mem_range.2 hj)) i (List.mem_range.2 hi);rw[Bool.or_eq_true,Bool.or_eq_true] at this;rcases this with (h | h) | h
  ·exact absurd (by simpa using h) hne
  ·rw[hc] at h;cases h
  ·exact h
 ·have:=List.all_eq_true.1 h3 j (List.mem_range.2 hs);rw[Bool.or_eq_true] at this;rcases this with h | h
  ·have:=of_decide_eq_true h;omega
  ·exact List.all_eq_true.1 h i (List.mem_range.2 hi)
 ·have:=List.all_eq_true.1 h4 (o,j) (by rw[List.mk_mem_zipIdx_iff_getElem?];simpa using ho);simp only at this;have:=Array.all_eq_true_iff_forall_mem.1 this e he;rw[Bool.or_eq_true] at this;rcases this with h | h
  ·rw[hb] at h;cases h
  ·exact of_decide_eq_true h
def Clo (ops:Array Oper) (lf:Nat->Bool):Prop:=∀j o,lf j=true->ops[j]? =some o->∀e∈o.after,Region.binds .any e=true->lf e.on=true
theorem aL7 {i k t:Nat} {o:Oper} (ho:ops[i]? =some o) (hk:(ops[k]?).bind (·.dst)=some t) (h:o.dst=some t):jF ops k i=true:=by
 unfold jF;rw[hk,ho];simp[h]
theorem aAi {i k t:Nat} {o:Oper} (ho:ops[i]? =some o) (hk:(ops[k]?).bind (·.dst)=some t) (h:.tmp t∈o.op.operands.toList):jF ops k i=true:=by
 unfold jF;rw[hk,ho];simp only [Bool.or_eq_true];refine .inl (.inr ?_);rw[<- Array.any_toList,List.any_eq_true];exact⟨.tmp t,h,τ⟩
theorem uZ {i k t g:Nat} {want:Bool} {o:Oper} (ho:ops[i]? =some o) (hk:(ops[k]?).bind (·.dst)=some t) (h:o.guard=some (g,want)) (hg:(ops[g]?).bind (·.dst)=some t):jF ops k i=true:=by
 unfold jF;rw[hk,ho];simp only [Bool.or_eq_true,h];exact .inr (by rw[hg];simp)
structure Tr (P:Program) (T:Tab) (N:cZ) (ops:Array Oper) (m:Nat) (vals:Nat->SV × Option Reg) (q:Nat->Nat) (E:Env) (M:Mem) (nx:Nat):Prop where
 ok:DK ops m
 step:∀k o,k<m->ops[k]? =some o->wW P T N ops o (qI ops vals E (λ_=>true) k) (oB vals q M (λ_=>true) k) (q k) (vals k).1 (vals k).2
 qne:∀i j,i≠j->(vals i).2≠none->(vals j).2≠none->q i≠q j
 qfind:∀x j,nx<=x->x<q j->∃c,c<j/\(vals c).2≠none/\q c=x
 qge:∀j,nx<=q j
 qlt:∀c,c<m->(vals c).2≠none->q c<q m
 base:∀r,nx<=r->M r=none
def FS (m:Nat) (vals:Nat->SV × Option Reg) (q:Nat->Nat) (nx:Nat) (lf:Nat->Bool):Nat->Prop:=λx=>nx<=x/\∀c,c<m->lf c=true->(vals c).2≠none->q c≠x
variable {m:Nat} {vals:Nat->SV × Option Reg} {q:Nat->Nat}
theorem uO (tr:Tr P T N ops m vals q E M nx) {lf:Nat->Bool} {i:Nat} {o:Oper} (hi:i<m) (ho:ops[i]? =some o) (hli:lf i=false)
 (hr:∀e∈o.after,Region.binds .any e=true->lf e.on=true) (hcl:Clo ops lf) {t:Nat} (hc:∀k,k<m->k≠i->(ops[k]?).bind (·.dst)=some t->jF ops k i=true) :
 qI ops vals E lf m t=qI ops vals E (λ_=>true) i t:=by
 rw[aEj m (Nat.le_of_lt hi) (i:=i),tQ i]
 ·intro k hk hd;have h1:=tr.ok.pair k i ω hi ω (hc k ω ω hd);rw[if_pos hk] at h1;exact oD (l:=λj=>lf j=true) tr.ok.wf (λj o hj ho=>hcl j o hj ho) i (λo' ho'=>by rw[ho] at ho';cases ho';exact hr) h1
 ·intro k h1 h2 hd;by_cases hk:k=i
  ·subst hk;exact hli
  ·have h3:=tr.ok.pair k i h2 hi hk (hc k h2 hk hd);rw[if_neg ω] at h3
   cases hl:lf k with
   | false=>rfl
   | true=>
     have:=oD (l:=λj=>lf j=true) tr.ok.wf (λj o hj ho=>hcl j o hj ho) k (λo' ho'=>hcl k o' hl ho') h3;rw[hli] at this;cases this
theorem aNo (tr:Tr P T N ops m vals q E M nx) {lf:Nat->Bool} {i:Nat} (hi:i<m) (h:MOK B W n0 σ (oB vals q M lf m) (FS m vals q nx lf) w) (r:Nat) (hr:r<q i) (hσ:∃L,σ r=some L) :
 oB vals q M lf m r=oB vals q M (λ_=>true) i r:=by
 by_cases h1:r<nx
 ·rw[tU m,tU i]
  ·intro k _ _ e;have:=tr.qge k;omega
  ·intro k _ _ e;have:=tr.qge k;omega
 ·obtain⟨c,c1,c2,rfl⟩:=tr.qfind r i ω hr;have hl:lf c=true:=by
   cases hl:lf c with
   | true=>rfl
   | false=>
     obtain⟨L,hL⟩:=hσ;rw[h.fresh (q c) ⟨ω,λc' h1 h2 h3=>tr.qne c' c (λe=>by subst e;rw[hl] at h2;cases h2) h3 c2⟩] at hL
     cases hL
  cases hu:(vals c).2 with
  | none=>exact absurd hu c2
  | some R=>
    rw[sB hu m ω (λk _ hne hk=>tr.qne k c hne hk c2) hl,sB hu i c1 (λk _ hne hk=>tr.qne k c hne hk c2) rfl]
theorem aIr (tr:Tr P T N ops m vals q E M nx) {lf:Nat->Bool} {i:Nat} (hi:i<m) (h:MOK B W n0 σ (oB vals q M lf m) (FS m vals q nx lf) w) (r:Nat) (R:Reg) (hR:oB vals q M (λ_=>true) i r=some R) (hσ:∃L,σ r=some L) :
 oB vals q M lf m r=some R:=by
 by_cases h1:r<nx
 ·rw[tU i] at hR
  ·rw[tU m]
   ·exact hR
   ·intro k _ _ e;have:=tr.qge k;omega
  ·intro k _ _ e;have:=tr.qge k;omega
 ·by_cases hex:∃c,c<i/\(vals c).2≠none/\q c=r
  ·obtain⟨c,c1,c2,rfl⟩:=hex;have hl:lf c=true:=by
    cases hl:lf c with
    | true=>rfl
    | false=>
      obtain⟨L,hL⟩:=hσ;rw[h.fresh (q c) ⟨ω,λc' h1 h2 h3=>tr.qne c' c (λe=>by subst e;rw[hl] at h2;cases h2) h3 c2⟩] at hL
      cases hL
   cases hu:(vals c).2 with
   | none=>exact absurd hu c2
   | some R'=>
     rw[sB hu i c1 (λk _ hne hk=>tr.qne k c hne hk c2) rfl] at hR;rw[sB hu m ω (λk _ hne hk=>tr.qne k c hne hk c2) hl,hR]
  ·rw[tU i (λk hk hu e=>hex ⟨k,hk,hu,e⟩),tr.base r ω] at hR
   cases hR
theorem aIs (hT:aX P T) (tr:Tr P T N ops m vals q E M nx) {lf:Nat->Bool} {i:Nat} {o:Oper} (hi:i<m) (ho:ops[i]? =some o) (hli:lf i=false)
 (hr:∀e∈o.after,Region.binds .any e=true->lf e.on=true) (hcl:Clo ops lf) (h:StF B W w0 N σ (qI ops vals E lf m) (oB vals q M lf m) (FS m vals q nx lf) a w)
 {K:Act->World->Prop} {Q:Exit->Act->World->Prop}
 (hK:∀σ' a' w',StF B W w0 N σ' (qI ops vals E (λk=>if k=i then true else lf k) m) (oB vals q M (λk=>if k=i then true else lf k) m) (FS m vals q nx (λk=>if k=i then true else lf k)) a' w'->K a' w'):wpOpIn Fence.wide 0 P ops Q i K a w:=by
 have hdsto:(ops[i]?).bind (·.dst)=o.dst:=by rw[ho];rfl
 have hE':=aJr (vals:=vals) (E:=E) hli m hi (λk h1 h2 hl t hti htk=>by
  have h3:=tr.ok.pair k i h2 hi ω (aL7 ho htk (by rw[<- hdsto];exact hti));rw[if_neg ω] at h3;have:=oD (l:=λj=>lf j=true) tr.ok.wf (λj o hj ho=>hcl j o hj ho) k (λo' ho'=>hcl k o' hl ho') h3;rw[hli] at this;cases this)
 have hM':=aJv (M:=M) (vals:=vals) (q:=q) hli m hi (λk hk hne h1 h2=>tr.qne k i hne h1 h2);rw[hdsto] at hE';have hK':∀σ' a' w',StF B W w0 N σ' (aK (qI ops vals E lf m) o.dst (vals i).1) (kJ (oB vals q M lf m) (q i) (vals i).2) (λr=>FS m vals q nx lf r/\((vals i).2≠none->r≠q i)) a' w'->K a' w':=by
  intro σ' a' w' hs;refine hK σ' a' w' ?_;rw[hE',hM'];refine hs.weak λr hr=>⟨⟨hr.1,λc h1 h2 h3=>hr.2 c h1 (by simp[h2]) h3⟩,λh3=>?_⟩;exact(hr.2 i hi τ h3).symm
 have hops:∀x∈o.op.operands.toList,ev (qI ops vals E lf m) x=ev (qI ops vals E (λ_=>true) i) x:=by
  intro x hx
  cases x with
  | tmp t=>exact uO tr hi ho hli hr hcl λk _ _ hd=>aAi ho hd hx
  | _=>rfl
 have hF:FS m vals q nx lf (q m):=⟨tr.qge m,λc h1 _ h2=>Nat.ne_of_lt (tr.qlt c h1 h2)⟩;have hFq:(vals i).2≠none->FS m vals q nx lf (q i):=λhu=>⟨tr.qge i,λc h1 h2 h3=>tr.qne c i (λe=>by subst e;rw[hli] at h2;cases h2) h3 hu⟩;have run:∀{E':Env},dC N.n o.dst->wU P T o (qI ops vals E (λ_=>true) i) (oB vals q M (λ_=>true) i) (q i) (vals i).1 (vals i).2->o.wpIn Fence.wide 0 P a w K Q:=λhd hrun=>
  dO <| aHv hT h hd hrun hops (aNo tr hi h.mem) (aIr tr hi h.mem) hF hFq hK'
 have hd:=tr.step i o hi ho;unfold wpOpIn;rw[ho];simp only []
 cases hgd:o.guard with
 | none=>
   obtain⟨hdst,hg⟩:=(wX hgd).1 hd;rw[if_pos (by simp[Region.wanted,hgd])];exact(run (E':=E) hdst hg)
 | some g=>
   obtain⟨j,want⟩:=g;obtain⟨hdst,d,hj,⟨t,he,hif⟩ | ⟨x,he,hnb,hv,hu⟩⟩:=(mF hgd).1 hd;rotate_left
   ·have hed:=h.env d;rw[uO tr hi ho hli hr hcl (λk _ _ hd=>uZ ho hd hgd hj),he] at hed;rw[if_neg (by simp[Region.wanted,hgd,pP hj hed hnb])];refine⟨λ_ _=>trivial,hK' σ _ _ ?_⟩;rw[hv,hu];exact(h.put hdst qE).weak λr hr=>hr.1
   have hed:=h.env d;rw[uO tr hi ho hli hr hcl (λk _ _ hd=>uZ ho hd hgd hj),he] at hed;have hy:=rX hj hed (rO hed);by_cases ht:t=want
   ·subst ht;rw[if_pos rfl] at hif;rw[if_pos (by simp[Region.wanted,hgd,hy])];exact(run (E':=E) hdst hif)
   ·rw[if_neg ht] at hif;rw[if_neg (by simp[Region.wanted,hgd,hy,ht])];refine⟨λ_ _=>trivial,hK' σ _ _ ?_⟩;rw[hif.1,hif.2];exact(h.put hdst qE).weak λr hr=>hr.1
end
end Go.Gx
namespace Go.Gx
open Go.RowKit
section
variable {P:Program} {T:Tab} {B W F:Nat->Prop} {w0:W0} {N:cZ} {n0:Nat} {σ σ':Sig} {M M':Mem} {nx:Nat} {w w':World} {a:Act} {E E':Env} {ops:Array Oper}
variable {m:Nat} {vals:Nat->SV × Option Reg} {q:Nat->Nat}
theorem unl (listed:Array Bool) (j:Nat):listed.getD j true=false↔j<listed.size/\listed.getD j false=false:=by
 by_cases h:j<listed.size
 ·simp[h]
 ·simp[h]
theorem oN (listed:Array Bool) {i:Nat} (hi:i<listed.size) (j:Nat):(listed.setIfInBounds i true).getD j false=if j=i then true else listed.getD j false:=by
 by_cases h:j=i
 ·subst h;simp[hi]
 ·rw[getD_set_ne false (Ne.symm h),if_neg h]
theorem zG (n j:Nat):(Array.replicate n false).getD j false=false:=by
 by_cases h:j<n
 ·simp[h]
 ·simp[h]
def QQ (B W:Nat->Prop) (w0:W0) (N:cZ) (Q:GQ):Exit->Act->World->Prop:=λe a' w'=>∃E' M' nx' σ',Q e E' M' nx'/\St B W w0 N σ' E' M' nx' a' w'
theorem aTj (hT:aX P T) (ok:DK ops m) {Q:GQ}:∀(fuel:Nat) (U:List Nat) (p:Nat) (listed:Array Bool) (E:Env) (M:Mem) (nx:Nat) (σ:Sig) (a:Act) (w:World),
 U.length=fuel->U.Nodup->(∀j,j∈U↔j<ops.size/\listed.getD j false=false)->listed.size=ops.size->m<=p->(∀j,j<ops.size->(listed.getD j false=true↔j<p))->
 St B W w0 N σ E M nx a w->oP P T N ops (ops.toList.drop p) E M nx (Q .normal)->wpAnyIn Fence.wide 0 P .any ops (QQ B W w0 N Q) fuel listed a w:=by
 intro fuel
 induction fuel with
 | zero=>
   intro U p listed E M nx σ a w hl hnd hU hsz hmp hp h hg;have hU0:U=[]:=List.eq_nil_of_length_eq_zero hl;subst hU0;have hall:ops.size<=p:=by
    rcases Nat.lt_or_ge p ops.size with h1 | h1
    ·have:listed.getD p false=false:=by
      cases h2:listed.getD p false with
      | false=>rfl
      | true=>have:=(hp p h1).1 h2;omega
     have:=(hU p).2 ⟨h1,this⟩;simp at this
    ·exact h1
   rw[List.drop_of_length_le (by simpa using hall)] at hg;refine⟨?_,_,_,_,_,hg,h⟩;apply List.eq_nil_iff_forall_not_mem.2;intro i hi;have:=(unl listed i).1 (mem_ready.1 hi).1;have:=(hU i).2 ⟨ω,this.2⟩;simp at this
 | succ fuel ih=>
   intro U p listed E M nx σ a w hl hnd hU hsz hmp hp h hg;have hready:∀i,i∈Region.ready .any ops listed->i=p:=by
    intro i hi;obtain⟨h1,o,ho,h2⟩:=mem_ready.1 hi;obtain⟨h3,h4⟩:=(unl listed i).1 h1;have h5:¬i<p:=λhlt=>by rw[(hp i ω).2 hlt] at h4;cases h4
    rcases Nat.lt_or_ge p i with h6 | h6
    ·have h7:=oD (l:=λj=>listed.getD j false=true) ok.wf (λj o' hj ho' e he hb=>by
      have hlt:=(Array.getElem?_eq_some_iff.1 ho').1;have:=(hp j hlt).1 hj;have h8:=ok.wf j o' ho' e he hb;exact(hp e.on ω).2 ω) i (λo' ho'=>by rw[ho] at ho';cases ho';exact h2) (ok.tail i ω ω p h6)
     have:=(hp p ω).1 h7;omega
    ·omega
   refine⟨λhr=>?_,λi hi=>?_⟩
   ·rcases Nat.lt_or_ge p ops.size with h1 | h1
    ·have:p∈Region.ready .any ops listed:=by
      refine mem_ready.2 ⟨(unl listed p).2 ⟨ω,?_⟩,ops[p],Array.getElem?_eq_getElem h1,λe he hb=>?_⟩
      ·cases h2:listed.getD p false with
       | false=>rfl
       | true=>have:=(hp p h1).1 h2;omega
      ·have h8:=ok.wf p _ (Array.getElem?_eq_getElem h1) e he hb;exact(hp e.on ω).2 h8
     rw[hr] at this;simp at this
    ·rw[List.drop_of_length_le (by simpa using h1)] at hg;exact⟨_,_,_,_,hg,h⟩
   ·have:=hready i hi;subst this;obtain⟨h1,o,ho,h2⟩:=mem_ready.1 hi;obtain⟨h3,h4⟩:=(unl listed i).1 h1;have hlt:i<ops.toList.length:=by simpa using (ω:i<ops.size)
    have hget:ops.toList[i]=o:=by
     have:=(Array.getElem?_eq_some_iff.1 ho).2;simpa using this
    rw[List.drop_eq_getElem_cons hlt,hget] at hg;have hs:=uF (Q:=QQ B W w0 N Q) (next:=wpAnyIn Fence.wide 0 P .any ops (QQ B W w0 N Q) fuel (listed.setIfInBounds i true)) hT h hg (λE' M' nx' σ' a' w' hk hs=>by
     refine ih (U.erase i) (i+1) _ E' M' nx' σ' a' w' ?_ (hnd.erase i) ?_ (by simpa using hsz) ω ?_ hs hk
     ·rw[List.length_erase_of_mem ((hU i).2 ⟨ω,h4⟩),hl];rfl
     ·intro j;rw[hnd.mem_erase_iff,hU,oN _ h3];by_cases hj:j=i
      ·simp[hj]
      ·simp[hj]
     ·intro j hj;rw[oN _ h3];by_cases hji:j=i
      ·simp[hji]
      ·rw[if_neg hji,hp j hj];omega)
    unfold wpOpIn;rw[ho];simp only [];split
    ·rename_i hw;rw[if_pos hw] at hs;exact hs
    ·rename_i hw;rw[if_neg hw] at hs;exact⟨λ_ _=>trivial,hs⟩
theorem aA7 {l l':Nat->Bool}:∀m,(∀k,k<m->l k=l' k)->oB vals q M l m=oB vals q M l' m
 | 0,_=>rfl
 | m+1,h=>by simp only [oB];rw[aA7 m (λk hk=>h k ω),h m ω]
theorem aNn (hT:aX P T) (tr:Tr P T N ops m vals q E M nx) (hlow:N.np<=nx) {Q:GQ} (hfin:oP P T N ops (ops.toList.drop m) (qI ops vals E (λ_=>true) m) (oB vals q M (λ_=>true) m) (q m) (Q .normal)):∀(fuel:Nat) (U:List Nat) (listed:Array Bool) (σ:Sig) (a:Act) (w:World),
 U.length=fuel->U.Nodup->(∀j,j∈U↔j<ops.size/\listed.getD j false=false)->listed.size=ops.size->Clo ops (λj=>listed.getD j false)->(∀j,listed.getD j false=true->j<m)->
 StF B W w0 N σ (qI ops vals E (λj=>listed.getD j false) m) (oB vals q M (λj=>listed.getD j false) m) (FS m vals q nx (λj=>listed.getD j false)) a w->wpAnyIn Fence.wide 0 P .any ops (QQ B W w0 N Q) fuel listed a w:=by
 have ok:=tr.ok;have done:∀(fuel:Nat) (U:List Nat) (listed:Array Bool) (σ:Sig) (a:Act) (w:World),
  U.length=fuel->U.Nodup->(∀j,j∈U↔j<ops.size/\listed.getD j false=false)->listed.size=ops.size->Clo ops (λj=>listed.getD j false)->(∀j,listed.getD j false=true->j<m)->
  StF B W w0 N σ (qI ops vals E (λj=>listed.getD j false) m) (oB vals q M (λj=>listed.getD j false) m) (FS m vals q nx (λj=>listed.getD j false)) a w->
  (∀j,j<m->listed.getD j false=true)->wpAnyIn Fence.wide 0 P .any ops (QQ B W w0 N Q) fuel listed a w:=by
  intro fuel U listed σ a w hl hnd hU hsz hcl hm h hall;refine aTj hT ok fuel U m listed _ _ (q m) σ a w hl hnd hU hsz (Nat.le_refl _) (λj _=>⟨hm j,hall j⟩) ?_ hfin;have e1:qI ops vals E (λj=>listed.getD j false) m=qI ops vals E (λ_=>true) m:=by
   funext t;exact tQ m (λk hk _=>hall k hk)
  have e2:oB vals q M (λj=>listed.getD j false) m=oB vals q M (λ_=>true) m:=aA7 m (λk hk=>hall k hk);rw[e1,e2] at h;refine⟨h.env,h.mem.weaken λr hr=>⟨Nat.le_trans (tr.qge m) hr,λc h1 _ h2=>?_⟩,h.fr,h.defers,h.size,Nat.le_trans hlow (tr.qge m),h.pin,h.good⟩;have h3:=tr.qlt c h1 h2;have h4:q m<=r:=hr;omega
 intro fuel
 induction fuel with
 | zero=>
   intro U listed σ a w hl hnd hU hsz hcl hm h;refine done 0 U listed σ a w hl hnd hU hsz hcl hm h λj hj=>?_;have hU0:U=[]:=List.eq_nil_of_length_eq_zero hl;subst hU0
   cases h2:listed.getD j false with
   | true=>rfl
   | false=>
     have:=(hU j).2 ⟨Nat.lt_of_lt_of_le hj ok.le,h2⟩;simp at this
 | succ fuel ih=>
   intro U listed σ a w hl hnd hU hsz hcl hm h;by_cases hall:∀j,j<m->listed.getD j false=true
   ·exact done _ U listed σ a w hl hnd hU hsz hcl hm h hall
   ·have hle:=ok.le;refine⟨λhr=>?_,λi hi=>?_⟩
    ·exfalso;apply hall;intro j
     induction j using Nat.strongRecOn with
     | _ j ihj=>
       intro hj
       cases h2:listed.getD j false with
       | true=>rfl
       | false=>
         have hlt:j<ops.size:=ω;have:j∈Region.ready .any ops listed:=mem_ready.2 ⟨(unl listed j).2 ⟨ω,h2⟩,ops[j],Array.getElem?_eq_getElem hlt,λe he hb=>by
          have h8:=ok.wf j _ (Array.getElem?_eq_getElem hlt) e he hb;exact ihj e.on h8 ω⟩
         rw[hr] at this;simp at this
    ·obtain⟨h1,o,ho,h2⟩:=mem_ready.1 hi;obtain⟨h3,h4⟩:=(unl listed i).1 h1;have him:i<m:=by
      rcases Nat.lt_or_ge i m with h5 | h5
      ·exact h5
      ·exfalso;apply hall;intro j hj;exact oD (l:=λj=>listed.getD j false=true) ok.wf (λj o hj ho=>hcl j o hj ho) i (λo' ho'=>by rw[ho] at ho';cases ho';exact h2) (ok.tail i h5 ω j ω)
     have e0:(λj=>(listed.setIfInBounds i true).getD j false)=(λk=>if k=i then true else listed.getD k false):=by
      funext j;exact oN listed h3 j
     refine aIs hT tr (lf:=λj=>listed.getD j false) him ho h4 h2 hcl h λσ' a' w' hs=>?_;refine ih (U.erase i) _ σ' a' w' ?_ (hnd.erase i) ?_ (by simpa using hsz) ?_ ?_ ?_
     ·rw[List.length_erase_of_mem ((hU i).2 ⟨ω,h4⟩),hl];rfl
     ·intro j;rw[hnd.mem_erase_iff,hU,oN _ h3];by_cases hj:j=i
      ·simp[hj]
      ·simp[hj]
     ·rw[e0];intro j o' hj ho' e he hb;show(if e.on=i then true else listed.getD e.on false)=true;by_cases hji:j=i
      ·subst hji;rw[ho] at ho';cases ho';have:=h2 e he hb;simp only [this];split <;> rfl
      ·have hj':listed.getD j false=true:=by simpa [hji] using hj
       have:=hcl j o' hj' ho' e he hb;simp only at this;simp only [this];split <;> rfl
     ·intro j hj;rw[oN _ h3] at hj;by_cases hji:j=i
      ·omega
      ·rw[if_neg hji] at hj;exact hm j hj
     ·rw[e0];exact hs
theorem St.drawn (h:St B W w0 N σ E M nx a w):St B W w0 N σ E M nx a {w with drawn:=w.drawn+1}:=by
 have hk:bZ (Zof B σ M w) (Zof B σ M {w with drawn:=w.drawn+1}) w {w with drawn:=w.drawn+1}:=λb hb=>⟨hb,rfl⟩;exact h.go ⟨h.mem.newB,h.mem.fresh,λr R hr=>by
  obtain⟨L,e1,e2⟩:=h.mem.reg r R hr;exact⟨L,e1,e2.mono (λ_ _ h=>h) hk λb hb=>rfl⟩,h.mem.inj,h.mem.own⟩ ⟨rfl,rfl,rfl,Nat.le_refl _,Dr.same (Nat.le_succ _) rfl,λ_ _ _=>rfl⟩ hk (λt z hz=>SV.rel_mono (λ_ _ h=>h) hk _ _ hz) h.low λ_ _=>rfl
theorem bFj (hT:aX P T) (hm:P.follows .mixedOrders=true) {id:Nat} (m:Nat) (hok:tZ ops m=true) {Q:GQ}
 {nw:FuncId->Bool} (h:lE nw P T N ops (ops.toList.take m) E M nx (λE M nx=>oP P T N ops (ops.toList.drop m) E M nx (Q .normal))):GW P N (.region id ops true) E M nx Q:=by
 intro r hr B W w0 σ a w hs;have ok:=aFc hok;obtain⟨vals,h1,h2⟩:=sP _ _ _ _ h;have hlen:(ops.toList.take m).length=m:=by have:=ok.le;simp;omega
 have hget:∀k,k<m->(ops.toList.take m)[k]? =ops[k]?:=λk hk=>by
  rw[List.getElem?_take_of_lt hk];simp
 have hE:=λj hj=>aOw (E:=E) (M:=M) (nx:=nx) (ops:=ops) (l:=ops.toList.take m) (vals:=vals) (λk hk=>by rw[hget k ω]) j hj;have hM:=aOx (E:=E) (M:=M) (nx:=nx) (l:=ops.toList.take m) (vals:=vals);have tr:Tr P T N ops m vals (λk=>(SL (ops.toList.take m) vals E M nx k).2.2) E M nx:={
  ok:=ok
  step:=λk o hk ho=>by
   have:=h1 k o (by rw[hget k hk];exact ho);rw[hE k ω,hM k] at this;exact this
  qne:=λi j hne hi hj=>bI7 hne hi hj
  qfind:=λx j h1 h2=>aSz h1 h2
  qge:=λj=>aS0 (i:=0) (Nat.zero_le j)
  qlt:=λc hc hu=>bBg hc hu
  base:=λr hr=>by
   cases hM:M r with
   | none=>rfl
   | some R=>
     obtain⟨L,e1,_⟩:=hs.mem.reg r R hM;rw[hs.mem.fresh r hr] at e1
     cases e1}
 rw[hlen,hE m ω,hM m] at h2;refine kQ (hr.imp (λh=>h) λh=>h) hm ?_;have e0:(λj=>(Array.replicate ops.size false).getD j false)=λ_=>false:=by
  funext j;exact zG _ j
 have e1:∀m,qI ops vals E (λ_=>false) m=E:=by
  intro m;induction m with
  | zero=>rfl
  | succ m ih=>simp only [qI];exact ih
 have e2:∀q m,oB vals q M (λ_=>false) m=M:=by
  intro q m;induction m with
  | zero=>rfl
  | succ m ih=>simp only [oB];exact ih
 have hd:=hs.drawn;refine aNn hT tr hs.low h2 ops.size (List.range ops.size) _ σ a _ τ List.nodup_range (λj=>by rw[zG];simp) τ ?_ ?_ ?_
 ·rw[e0];intro j o hj;cases hj
 ·intro j hj;rw[zG] at hj;cases hj
 ·rw[e0,e1,e2];exact⟨hd.env,hd.mem.weaken λr hr=>hr.1,hd.fr,hd.defers,hd.size,λr hr=>Nat.le_trans hd.low hr.1,hd.pin,hd.good⟩
end
section
variable (nw:FuncId->Bool) (P:Program) (T:Tab) (N:cZ)
def jD (all:Array Oper) (l fin:List Oper) (k:List It) (Q:GQ) (E:Env) (M:Mem) (nx:Nat):Prop:=lE nw P T N all l E M nx λE M nx=>GO P T N all fin k Q E M nx
def vX (g:GR) (d:Option Tmp) (all:Array Oper) (rest fin:List Oper) (k:List It) (Q:GQ) (E:Env) (M:Mem) (nx:Nat):Prop:=
 match g with
 | .pure ob s=>ob/\jD nw P T N all rest fin k Q (aK E d s) M nx
 | .new ob R s=>ob/\jD nw P T N all rest fin k Q (aK E d s) (bH M nx (some R)) (nx+1)
 | .call f args=>cB nx args/\if nw f=true then ∃v R,aLm P nx f args v (some R)/\jD nw P T N all rest fin k Q (aK E d v) (bH M nx (some R)) (nx+1) else ∃v,aG7 P M f args v/\jD nw P T N all rest fin k Q (aK E d v) M nx
 | _=>False
def GDP (c x y:SV) (d:Option Tmp) (all:Array Oper) (rest fin:List Oper) (k:List It) (Q:GQ) (E:Env) (M:Mem) (nx:Nat):Prop:=
 match c with
 | .r (.v (.bool t))=>if t=true then jD nw P T N all rest fin k Q (aK E d x) M nx else jD nw P T N all rest fin k Q (aK E d y) M nx
 | _=>False
def GDG (s:SV) (dd:Nat) (want:Bool) (o:Oper) (all:Array Oper) (rest fin:List Oper) (k:List It) (Q:GQ) (E:Env) (M:Mem) (nx:Nat):Prop:=
 match s with
 | .r (.v (.bool t))=>
   if t=want then jD nw P T N all ({o with guard:=none}::rest) fin k Q (bH E dd (.b want)) M nx
   else dC N.n o.dst/\jD nw P T N all rest fin k Q (aK (bH E dd (.b (!want))) o.dst (.r (.v undef))) M nx
 | .r (.v x)=>dC N.n o.dst/\jD nw P T N all rest fin k Q (aK E o.dst (.r (.v undef))) M nx
 | _=>False
def bDy (j:Option Nat) (want:Bool) (o:Oper) (all:Array Oper) (rest fin:List Oper) (k:List It) (Q:GQ) (E:Env) (M:Mem) (nx:Nat):Prop:=
 match j with
 | none=>False
 | some d=>GDG nw P T N (E d) d want o all rest fin k Q E M nx
end
section
variable {nw:FuncId->Bool} {P:Program} {T:Tab} {N:cZ} {k:List It} {Q:GQ} {E:Env} {M:Mem} {nx:Nat} (all:Array Oper) (rest fin:List Oper) (d:Option Tmp) (ty:TypeId) (pos:String) (af:Array Edge)
theorem aA3 (nw:FuncId->Bool) (hT:aX P T) (hm:P.follows .mixedOrders=true) {id:Nat} {ops:List Oper} (m:Nat) (hok:tZ ops.toArray m=true) {l fin:List Oper} (hl:ops.take m=l) (hf:ops.drop m=fin) (h:jD nw P T N ops.toArray l fin k Q E M nx):iF P T N id ops.toArray k Q E M nx:=by
 subst hl;subst hf;exact bFj hT hm m hok h
theorem bE (hT:aX P T) (hm:P.follows .mixedOrders=true) {id:Nat} {ops:List Oper} (m:Nat) (hok:tZ ops.toArray m=true) {l fin:List Oper} (hl:ops.take m=l) (hf:ops.drop m=fin) (h:jD (λ_=>false) P T N ops.toArray l fin k Q E M nx):iF P T N id ops.toArray k Q E M nx:=aA3 (λ_=>false) hT hm m hok hl hf h
@[go_sem]theorem bHi:jD nw P T N all [] fin k Q E M nx=GO P T N all fin k Q E M nx:=(rfl)
@[go_sem]theorem bD0 (ob:Prop) (s:SV):vX nw P T N (.pure ob s) d all rest fin k Q E M nx=(ob/\jD nw P T N all rest fin k Q (aK E d s) M nx):=(rfl)
@[go_sem]theorem bHb (ob:Prop) (R:Reg) (s:SV):vX nw P T N (.new ob R s) d all rest fin k Q E M nx=(ob/\jD nw P T N all rest fin k Q (aK E d s) (bH M nx (some R)) (nx+1)):=(rfl)
@[go_sem]theorem bDz (f:FuncId) (args:List SV):vX nw P T N (.call f args) d all rest fin k Q E M nx=(cB nx args/\if nw f=true then ∃v R,aLm P nx f args v (some R)/\jD nw P T N all rest fin k Q (aK E d v) (bH M nx (some R)) (nx+1) else ∃v,aG7 P M f args v/\jD nw P T N all rest fin k Q (aK E d v) M nx):=(rfl)
@[go_sem]theorem bJ5 (t:Bool) (x y:SV):GDP nw P T N (.r (.v (.bool t))) x y d all rest fin k Q E M nx=if t=true then jD nw P T N all rest fin k Q (aK E d x) M nx else jD nw P T N all rest fin k Q (aK E d y) M nx:=(rfl)
@[go_sem]theorem bCi (j:Nat) (want:Bool) (o:Oper):bDy nw P T N (some j) want o all rest fin k Q E M nx=GDG nw P T N (E j) j want o all rest fin k Q E M nx:=(rfl)
@[go_sem]theorem bJ2 (t:Bool) (dd:Nat) (want:Bool) (op:Op) (g:Option (Nat × Bool)) :
   GDG nw P T N (.r (.v (.bool t))) dd want ⟨d,op,ty,pos,af,g⟩ all rest fin k Q E M nx =
    if t=want then jD nw P T N all (⟨d,op,ty,pos,af,none⟩::rest) fin k Q (bH E dd (.b want)) M nx else dC N.n d/\jD nw P T N all rest fin k Q (aK (bH E dd (.b (!want))) d (.r (.v undef))) M nx:=(rfl)
@[go_sem]theorem bJ3 (dd:Nat) (want:Bool) (op:Op) (g:Option (Nat × Bool)) :
   GDG nw P T N (.r (.v undef)) dd want ⟨d,op,ty,pos,af,g⟩ all rest fin k Q E M nx=(dC N.n d/\jD nw P T N all rest fin k Q (aK E d (.r (.v undef))) M nx):=(rfl)
theorem aLq (op:Op) (j:Nat) (want:Bool) :
 jD nw P T N all (⟨d,op,ty,pos,af,some (j,want)⟩::rest) fin k Q E M nx=bDy nw P T N ((all[j]?).bind (·.dst)) want ⟨d,op,ty,pos,af,some (j,want)⟩ all rest fin k Q E M nx:=(rfl)
@[go_sem]theorem bDk (q:Nat) (l:List SV):cB q l=∀s∈l,∀r∈s.refs,r<q:=(rfl)
@[go_sem]theorem bEe (x:Operand):jD nw P T N all (⟨d,.move x,ty,pos,af,none⟩::rest) fin k Q E M nx=(dC N.n d/\cB nx ((Op.move x).operands.toList.map (ev E))/\vX nw P T N (.pure True (ev E x)) d all rest fin k Q E M nx):=(rfl)
@[go_sem]theorem aY8 (x:Operand):jD nw P T N all (⟨d,.assign x,ty,pos,af,none⟩::rest) fin k Q E M nx=(dC N.n d/\cB nx ((Op.assign x).operands.toList.map (ev E))/\vX nw P T N (.pure True (ev E x)) d all rest fin k Q E M nx):=(rfl)
@[go_sem]theorem bCo (t:TypeId) (ps:List (Nat × Operand)):jD nw P T N all (⟨d,.build t ps.toArray,ty,pos,af,none⟩::rest) fin k Q E M nx=(dC N.n d/\cB nx ((Op.build t ps.toArray).operands.toList.map (ev E))/\vX nw P T N (rI T t (ps.map λp=>(p.1,ev E p.2))) d all rest fin k Q E M nx):=(rfl)
@[go_sem]theorem aOu (t:TypeId) (len:Nat) (ps:List (Nat × Operand)):jD nw P T N all (⟨d,.buildSlice t len ps.toArray,ty,pos,af,none⟩::rest) fin k Q E M nx=(dC N.n d/\cB nx ((Op.buildSlice t len ps.toArray).operands.toList.map (ev E))/\vX nw P T N (eW T t len nx (ps.map λp=>(p.1,ev E p.2))) d all rest fin k Q E M nx):=(rfl)
@[go_sem]theorem bEd (t:TypeId) (x:Operand):jD nw P T N all (⟨d,.load t x,ty,pos,af,none⟩::rest) fin k Q E M nx=(dC N.n d/\cB nx ((Op.load t x).operands.toList.map (ev E))/\vX nw P T N (oO T t M (ev E x)) d all rest fin k Q E M nx):=(rfl)
@[go_sem]theorem aUm (f:Fn) (fi ca:List Operand):jD nw P T N all (⟨d,.makeFunc f fi.toArray ca.toArray,ty,pos,af,none⟩::rest) fin k Q E M nx=(dC N.n d/\cB nx ((Op.makeFunc f fi.toArray ca.toArray).operands.toList.map (ev E))/\vX nw P T N (.pure True (.fn f (fi.map (ev E)) (ca.map (ev E)))) d all rest fin k Q E M nx):=(rfl)
@[go_sem]theorem bCq (t:TypeId) (x:Operand) (lo hi mx:Option Operand):jD nw P T N all (⟨d,.slice t x lo hi mx,ty,pos,af,none⟩::rest) fin k Q E M nx=(dC N.n d/\cB nx ((Op.slice t x lo hi mx).operands.toList.map (ev E))/\vX nw P T N (lF T M t (ev E x) (lo.map (ev E)) (hi.map (ev E)) (mx.map (ev E))) d all rest fin k Q E M nx):=(rfl)
@[go_sem]theorem aT6 (t:TypeId) (x:Operand) (f:Nat):jD nw P T N all (⟨d,.fieldAddr t x f,ty,pos,af,none⟩::rest) fin k Q E M nx=(dC N.n d/\cB nx ((Op.fieldAddr t x f).operands.toList.map (ev E))/\vX nw P T N (gE T t (ev E x) f) d all rest fin k Q E M nx):=(rfl)
@[go_sem]theorem aT7 (t:TypeId) (x i:Operand):jD nw P T N all (⟨d,.indexAddr t x i,ty,pos,af,none⟩::rest) fin k Q E M nx=(dC N.n d/\cB nx ((Op.indexAddr t x i).operands.toList.map (ev E))/\vX nw P T N (mO T t (ev E x) (ev E i)) d all rest fin k Q E M nx):=(rfl)
@[go_sem]theorem aYc (b:Builtin) (args:List Operand) (ts:List TypeId):jD nw P T N all (⟨d,.call ⟨.builtin b,args.toArray,ts.toArray⟩,ty,pos,af,none⟩::rest) fin k Q E M nx=(dC N.n d/\cB nx ((Op.call ⟨.builtin b,args.toArray,ts.toArray⟩).operands.toList.map (ev E))/\vX nw P T N (gC T b ts M nx (args.map (ev E))) d all rest fin k Q E M nx):=(rfl)
@[go_sem]theorem bHh (t:TypeId) (x:Operand):jD nw P T N all (⟨d,.box t x,ty,pos,af,none⟩::rest) fin k Q E M nx=(dC N.n d/\cB nx ((Op.box t x).operands.toList.map (ev E))/\vX nw P T N (aH5 T t nx (ev E x)) d all rest fin k Q E M nx):=(rfl)
@[go_sem]theorem bCm (t:TypeId):jD nw P T N all (⟨d,.alloc t,ty,pos,af,none⟩::rest) fin k Q E M nx=(dC N.n d/\cB nx ((Op.alloc t).operands.toList.map (ev E))/\vX nw P T N (xY T t nx) d all rest fin k Q E M nx):=(rfl)
@[go_sem]theorem aUn (x:Operand):jD nw P T N all (⟨d,.nilCheck x,ty,pos,af,none⟩::rest) fin k Q E M nx=(dC N.n d/\cB nx ((Op.nilCheck x).operands.toList.map (ev E))/\vX nw P T N (uD (ev E x)) d all rest fin k Q E M nx):=(rfl)
@[go_sem]theorem bCn (op:BinOp) (t:TypeId) (x y:Operand) (t2:TypeId):jD nw P T N all (⟨d,.binOp op t x y t2,ty,pos,af,none⟩::rest) fin k Q E M nx=(dC N.n d/\cB nx ((Op.binOp op t x y t2).operands.toList.map (ev E))/\vX nw P T N (lD T op t (ev E x) (ev E y)) d all rest fin k Q E M nx):=(rfl)
@[go_sem]theorem bEg (op:UnOp) (t:TypeId) (x:Operand):jD nw P T N all (⟨d,.unOp op t x,ty,pos,af,none⟩::rest) fin k Q E M nx=(dC N.n d/\cB nx ((Op.unOp op t x).operands.toList.map (ev E))/\vX nw P T N (aKn op (ev E x)) d all rest fin k Q E M nx):=(rfl)
@[go_sem]theorem aYd (t t2:TypeId) (x:Operand):jD nw P T N all (⟨d,.convert t t2 x,ty,pos,af,none⟩::rest) fin k Q E M nx=(dC N.n d/\cB nx ((Op.convert t t2 x).operands.toList.map (ev E))/\vX nw P T N (wC T t t2 (ev E x)) d all rest fin k Q E M nx):=(rfl)
@[go_sem]theorem aYe (x:Operand) (i:Nat):jD nw P T N all (⟨d,.extract x i,ty,pos,af,none⟩::rest) fin k Q E M nx=(dC N.n d/\cB nx ((Op.extract x i).operands.toList.map (ev E))/\vX nw P T N (aDm (ev E x) i) d all rest fin k Q E M nx):=(rfl)
@[go_sem]theorem bCp (f:Operand) (args:List Operand) (ts:Array TypeId):jD nw P T N all (⟨d,.call ⟨.value f,args.toArray,ts⟩,ty,pos,af,none⟩::rest) fin k Q E M nx=(dC N.n d/\cB nx ((Op.call ⟨.value f,args.toArray,ts⟩).operands.toList.map (ev E))/\vX nw P T N (wB (ev E f) (args.map (ev E))) d all rest fin k Q E M nx):=(rfl)
@[go_sem]theorem bEf (c x y:Operand):jD nw P T N all (⟨d,.pick c x y,ty,pos,af,none⟩::rest) fin k Q E M nx=(dC N.n d/\cB nx ((Op.pick c x y).operands.toList.map (ev E))/\GDP nw P T N (ev E c) (ev E x) (ev E y) d all rest fin k Q E M nx):=(rfl)
end
@[go_sem]theorem bAx (M:Mem) (q:Nat):kJ M q none=M:=rfl
@[go_sem]theorem bAy (M:Mem) (q:Nat) (R:Reg):kJ M q (some R)=bH M q (some R):=rfl
@[go_sem]theorem bDg (q:Nat):yT q none=q:=rfl
@[go_sem]theorem bDh (q:Nat) (R:Reg):yT q (some R)=q+1:=rfl
attribute [go_sem] aLq Op.operands Call.operands SV.refs SV.refsL
end Go.Gx
namespace Go.Gx
open Go.RowKit
section
variable {P:Program} {T:Tab} {N:cZ} {k:List It} {Q:GQ} {E:Env} {M:Mem} {nx:Nat}
def LQ (P:Program) (T:Tab) (N:cZ) {α:Type} (S:α->List (Nat × SV)) (Rs:α->List (Option Reg)) (n:Nat) (I:α->Prop) (μ:α->Nat) (x:α) (k:List It) (Q:GQ):GQ:=
 vR (λE' M' nx'=>∃x',I x'/\μ x'<μ x/\zN n E' (S x')/\aIv 0 (cT n M') (Rs x')) (GK P T N k Q)
section
variable {α:Type} {S:α->List (Nat × SV)} {Rs:α->List (Option Reg)} {n:Nat} {I:α->Prop} {μ:α->Nat} {x:α}
@[go_sem]theorem bC4:LQ P T N S Rs n I μ x k Q .normal E M nx=∃x',I x'/\μ x'<μ x/\zN n E (S x')/\aIv 0 (cT n M) (Rs x'):=rfl
@[go_sem]theorem bHp (i:Nat):LQ P T N S Rs n I μ x k Q (.exit i) E M nx=GK P T N k Q (.exit i) E M nx:=rfl
@[go_sem]theorem bIf:LQ P T N S Rs n I μ x k Q .ret E M nx=GK P T N k Q .ret E M nx:=rfl
end
theorem aH (hT:aX P T) {α:Type} {c:Code} (S:α->List (Nat × SV)) (Rs:α->List (Option Reg)) (n:Nat) (I:α->Prop) (μ:α->Nat) (x0:α)
 (hn:∀x,(Rs x).length=n) (h0:I x0) (hE:zN n E (S x0)) (hM:aIv 0 (cT n M) (Rs x0))
 (round:∀x J,I x->GC P T N c [] (LQ P T N S Rs n I μ x k Q) (iP J (S x)) (fD (Rs x)) n) (hnp:N.np<=n:=by first | exact Nat.zero_le _ | decide):rZ P T N c k Q E M nx:=by
 refine aQ5 S (λx=>fD (Rs x)) n I μ x0 h0 (Fit.of_slots hnp hE (aGv (hn x0) hM)) λx J hi=>?_;refine(dH hT c _ _ _ _ (round x J hi)).mono λe E M nx q=>?_
 cases e with
 | normal=>
   obtain⟨x',i1,i2,i3,i4⟩:=q;exact⟨x',i1,i2,Fit.of_slots hnp i3 (aGv (hn x') i4)⟩
 | _=>exact q
def LF (P:Program) (T:Tab) (N:cZ) {α:Type} (S:α->List (Nat × SV)) (Ms:α->Mem) (n:Nat) (I:α->Prop) (μ:α->Nat) (x:α) (k:List It) (Q:GQ):GQ:=
 vR (λE' M' nx'=>∃x',I x'/\μ x'<μ x/\Fit N E' M' nx' (S x') (Ms x') n) (GK P T N k Q)
section
variable {α:Type} {S:α->List (Nat × SV)} {Ms:α->Mem} {n:Nat} {I:α->Prop} {μ:α->Nat} {x:α}
@[go_sem]theorem bC3:LF P T N S Ms n I μ x k Q .normal E M nx=∃x',I x'/\μ x'<μ x/\Fit N E M nx (S x') (Ms x') n:=rfl
@[go_sem]theorem bHo (i:Nat):LF P T N S Ms n I μ x k Q (.exit i) E M nx=GK P T N k Q (.exit i) E M nx:=rfl
@[go_sem]theorem bId:LF P T N S Ms n I μ x k Q .ret E M nx=GK P T N k Q .ret E M nx:=rfl
end
theorem tT (hT:aX P T) {α:Type} {c:Code} (S:α->List (Nat × SV)) (Ms:α->Mem) (n:Nat) (I:α->Prop) (μ:α->Nat) (x0:α)
 (h0:I x0) (hE:Fit N E M nx (S x0) (Ms x0) n)
 (round:∀x J,I x->GC P T N c [] (LF P T N S Ms n I μ x k Q) (iP J (S x)) (Ms x) n):rZ P T N c k Q E M nx:=
 aQ5 S Ms n I μ x0 h0 hE λx J hi=>dH hT c _ _ _ _ (round x J hi)
theorem aA {N:cZ} {f:FuncId} {args:List SV} {v:SV} {K:SV->Mem->Nat->(SV->SV)->Prop} (hp:Pure P f args (· =v)) (hc:SV.closedL args=true) (hv:v.closed=true) (hK:K v M nx id):dV P N f args M nx K:=
 aHn hp hc (λs hs=>by rw[hs];exact hv) (λs hs=>by rw[hs];exact hK)
theorem aG {N:cZ} {f:FuncId} {args:List SV} {v:SV} {K:SV->Mem->Nat->(SV->SV)->Prop} (hp:fK M args λl=>Pure P f l (· =v)) (hv:v.flat=true) (hK:K v M nx id):dV P N f args M nx K:=
 aHl hp (λs hs=>by rw[hs];exact hv) (λs hs=>by rw[hs];exact hK)
theorem aB {f:FuncId} {args:List SV} {v:SV} (hp:Pure P f args (· =v)) (hc:SV.closedL args=true) (hv:v.closed=true):aG7 P M f args v:=.inl (.inr ⟨hc,hp,hv⟩)
theorem dL {f:FuncId} {args:List SV} {v:SV} (hp:oU M args λl=>Pure P f l (· =v)) (hv:v.flat=true):aG7 P M f args v:=.inl (.inl ⟨hp,hv⟩)
theorem jW {f:FuncId} {args:List SV} {v:SV} (hp:fK M args λl=>Pure P f l (· =v)) (hv:v.flat=true):aG7 P M f args v:=.inr ⟨hp,hv⟩
theorem Pure.mono {f:FuncId} {args:List SV} {φ ψ:SV->Prop} (h:Pure P f args φ) (hφ:∀s,φ s->ψ s):Pure P f args ψ:=by
 intro Z w vs hz ha;obtain⟨h1,h2⟩:=h Z w vs hz ha;exact⟨h1,h2.mono λe w' ⟨y,s,a,b,c,d⟩=>⟨y,s,a,hφ s b,c,d⟩⟩
end
attribute [go_sem] bEp
@[go_sem]theorem aD8 (x:RV):(SV.r x).toRV=x:=rfl
@[go_sem]theorem bGu (f:Fn):(SV.fn f [] []).toRV=.fn f 0 0 (λ_=>.any) (λ_=>.any):=rfl
def SV.le (s s':SV):Prop:=∀(Z:Nat->Prop) (w:World) (y:Value),s.rel (λ_=>none) Z w y->s'.rel (λ_=>none) Z w y
def leL:List SV->List SV->Prop
 | [],[]=>True
 | s::l,s'::l'=>s.le s'/\leL l l'
 | _,_=>False
theorem SV.le.rfl {s:SV}:s.le s:=λ_ _ _ h=>h
theorem vF {k n:Nat} {get get':Nat->Nat->RV} (h:∀i j,i<n->j<k->get i j=get' i j):(SV.r (.rs k n get)).le (.r (.rs k n get')):=by
 intro Z w y hy;obtain⟨A,c,h1,h2,h3⟩:=hy;refine⟨A,c,h1,h2,λh0=>?_⟩;obtain⟨b,o,h4,h5,h6⟩:=h3 h0;refine⟨b,o,h4,h5,λi j hi hj=>?_⟩;obtain⟨v,e1,e2,e3⟩:=h6 i j hi hj;exact⟨v,e1,e2,by rw[<- h i j hi hj];exact e3⟩
theorem pX {Z:Nat->Prop} {w:World}:∀(l l':List SV) (vs:List Value),leL l l'->SV.relL (λ_=>none) Z w l vs->SV.relL (λ_=>none) Z w l' vs
 | [],[],vs,_,h=>h
 | s::l,s'::l',vs,hl,h=>by
   obtain⟨v,vs',e,h1,h2⟩:=h;exact⟨v,vs',e,hl.1 _ _ _ h1,pX l l' vs' hl.2 h2⟩
 | [],_::_,_,hl,_=>hl.elim
 | _::_,[],_,hl,_=>hl.elim
theorem Pure.args {P:Program} {f:FuncId} {args args':List SV} {φ:SV->Prop} (hp:Pure P f args' φ) (h:leL args args'):Pure P f args φ:=λZ w vs hz ha=>hp Z w vs hz (pX _ _ _ h ha)
theorem Pure.val {P:Program} {f:FuncId} {args:List SV} {v v':SV} (hp:Pure P f args (· =v)) (h:v=v'):Pure P f args (· =v'):=by rw[<- h];exact hp
theorem lt1 {j:Nat} (h:j<1):j=0:=ω
@[go_sem]theorem bH4 (k:IntKind) (n:Int):(Value.int k n).oneCell'=true:=rfl
@[go_sem]theorem bFy (b:Bool):(Value.bool b).oneCell'=true:=rfl
@[go_sem]theorem bDi (a:Option Addr) (n c:Nat):(Value.slice a n c).oneCell'=true:=rfl
@[go_sem]theorem aYv:Value.nilFunc.oneCell'=true:=rfl
@[go_sem]theorem aWv:Value.nilIface.oneCell'=true:=rfl
@[go_sem]theorem bA8 (s:ByteArray):(Value.string s).oneCell'=true:=rfl
@[go_sem]theorem bH5 (r:Option Nat):(Value.map r).oneCell'=true:=rfl
@[go_sem]theorem aYw (a:Option Addr):(Value.pointer a).oneCell'=true:=rfl
end Go.Gx
namespace Go.Gx
open Go.RowKit
mutual
theorem SV.trim_closed (n:Nat):∀s:SV,s.closed=true->s.trim n=s
 | .r x,h=>rfl
 | .ptr ..,h=>by simp[SV.closed] at h
 | .sl ..,h=>by simp[SV.closed] at h
 | .mp ..,h=>by simp[SV.closed] at h
 | .fn f fi ca,h=>by
   simp[SV.closed] at h;simp[SV.trim,SV.trimL_closed n fi h.1,SV.trimL_closed n ca h.2]
 | .agg l,h=>by
   simp[SV.closed] at h;simp[SV.trim,SV.trimL_closed n l h]
 | .tup l,h=>by
   simp[SV.closed] at h;simp[SV.trim,SV.trimL_closed n l h]
theorem SV.trimL_closed (n:Nat):∀l:List SV,SV.closedL l=true->SV.trimL n l=l
 | [],h=>rfl
 | s::l,h=>by
   simp[SV.closedL] at h;simp[SV.trimL,SV.trim_closed n s h.1,SV.trimL_closed n l h.2]
end
abbrev GSt (N:cZ) (E:Env) (M:Mem) (nx:Nat) (E':Env) (M':Mem) (nx':Nat):Prop:=Vw N E M nx E' M' nx'
section
variable {P:Program} {T:Tab} {N:cZ} {k:List It} {Q:GQ} {E E' E'':Env} {M M' M'':Mem} {nx nx' nx'':Nat}
theorem GSt.refl:GSt N E M nx E M nx:=λB W w0 σ a w h=>⟨σ,h⟩
theorem GSt.trans (h:GSt N E M nx E' M' nx') (h':GSt N E' M' nx' E'' M'' nx''):GSt N E M nx E'' M'' nx'':=λB W w0 σ a w hs=>by
 obtain⟨σ',hs'⟩:=h B W w0 σ a w hs;exact h' B W w0 σ' a w hs'
theorem GW.pre {c:Code} {Q:Exit->Env->Mem->Nat->Prop} (h:GSt N E M nx E' M' nx') (g:GW P N c E' M' nx' Q):GW P N c E M nx Q:=λr hr B W w0 σ a w hs=>by
 obtain⟨σ',hs'⟩:=h B W w0 σ a w hs;exact g r hr B W w0 σ' a w hs'
theorem bK {c:Code} (h:GSt N E M nx E' M' nx') (g:rZ P T N c k Q E' M' nx'):rZ P T N c k Q E M nx:=GW.pre h g
theorem aLp {id:Nat} {ops:Array Oper} (h:GSt N E M nx E' M' nx') (g:iF P T N id ops k Q E' M' nx'):iF P T N id ops k Q E M nx:=GW.pre h g
theorem mG (hT:aX P T) {o:Oper} {K:Env->Mem->Nat->Prop} (h:GSt N E M nx E' M' nx') (g:yG P T N o E' M' nx' K):qZ P N o E M nx K:=λB W w0 σ a w hs next Q hK=>by
 obtain⟨σ',hs'⟩:=h B W w0 σ a w hs;exact kG hT hs' g hK
theorem GSt.adopt (t e k:Nat) (get:Nat->Nat->SV) (hE:E t=.r (.v (.slice none 0 0))):GSt N E M nx (bH E t (.sl nx k 0 0 none)) (bH M nx (some (.vec e k 0 get))) (nx+1):=by
 intro B W w0 σ a w h;obtain⟨e1,e2,e3⟩:=mW (w':=w) (L:=⟨none,0⟩) (R:=.vec e k 0 get) h.mem (Nat.le_refl nx) h.fr.size (Nat.le_refl _) (λ_ _=>rfl) (λb hb=>by cases hb) (λσ' Z' _ _=>⟨Nat.le_refl _,by simp[maxLen],.inl ⟨rfl,rfl⟩⟩);refine⟨_,?_,e1.weaken λr hr=>⟨Nat.le_of_succ_le hr,Nat.ne_of_gt hr⟩,h.fr,h.defers.keep e2,h.size,Nat.le_succ_of_le h.low,λr hr=>(aW _ _ (Nat.ne_of_lt (Nat.lt_of_lt_of_le hr h.low))).trans (h.pin r hr),h.good⟩;intro t';by_cases ht:t'=t
 ·subst ht;rw[aZ];have:=h.env t';rw[hE] at this;rw[show a.tmps.getD t' undef=.slice none 0 0 from this];exact⟨⟨none,0⟩,none,aZ ..,rfl,τ,τ,τ,λ_=>.inl rfl⟩
 ·rw[aW _ _ ht];exact SV.rel_mono e3 e2 _ _ (h.env t')
theorem aGg {σ:Sig} {Z:Nat->Prop} {w:World} {s:SV}:∀{l:List SV} {cs:List Value} (j:Nat),SV.relL σ Z w l cs->(∀v,cs[j]? =some v->s.rel σ Z w v)->SV.relL σ Z w (l.set j s) cs
 | [],cs,j,h,_=>by simpa using h
 | x::l,cs,0,h,hs=>by
   obtain⟨v,vs,rfl,h1,h2⟩:=h;exact⟨v,vs,rfl,hs v rfl,h2⟩
 | x::l,cs,j+1,h,hs=>by
   obtain⟨v,vs,rfl,h1,h2⟩:=h;exact⟨v,vs,rfl,h1,aGg j h2 λu hu=>hs u (by simpa using hu)⟩
theorem GSt.adoptBox (ref j e k:Nat) (get:Nat->Nat->SV) {l:List SV} (hM:M ref=some (.box l)) (hj:l[j]? =some (.r (.v (.slice none 0 0)))) (hr:ref<nx) :
 GSt N E M nx E (bH (bH M nx (some (.vec e k 0 get))) ref (some (.box (l.set j (.sl nx k 0 0 none))))) (nx+1):=by
 intro B W w0 σ a w h;obtain⟨e1,e2,e3⟩:=mW (w':=w) (L:=⟨none,0⟩) (R:=.vec e k 0 get) h.mem (Nat.le_refl nx) h.fr.size (Nat.le_refl _) (λ_ _=>rfl) (λb hb=>by cases hb) (λσ' Z' _ _=>⟨Nat.le_refl _,by simp[maxLen],.inl ⟨rfl,rfl⟩⟩);have hM':bH M nx (some (.vec e k 0 get)) ref=some (.box l):=by rw[aW _ _ ω];exact hM
 obtain⟨m1,m2⟩:=pI (R':=.box (l.set j (.sl nx k 0 0 none))) e1 hM' (λL Z w' hL hR=>by
  obtain⟨b,cs,ty,h1,h2,h3,h4⟩:=hR;refine⟨b,cs,ty,h1,h2,h3,aGg j h4 λv hv=>?_⟩;obtain⟨v',hv',hrel⟩:=SV.relL_get h4 j _ hj;rw[hv] at hv';cases hv'
  cases hrel
  exact⟨⟨none,0⟩,none,aZ ..,rfl,τ,τ,τ,λ_=>.inl rfl⟩)
 refine⟨_,?_,m1.weaken λr hr=>⟨Nat.le_of_succ_le hr,Nat.ne_of_gt hr⟩,h.fr,(h.defers.keep e2).keep m2,h.size,Nat.le_succ_of_le h.low,λr hr=>(aW _ _ (Nat.ne_of_lt (Nat.lt_of_lt_of_le hr h.low))).trans (h.pin r hr),h.good⟩;intro t';exact SV.rel_mono (λ_ _ h=>h) m2 _ _ (SV.rel_mono e3 e2 _ _ (h.env t'))
mutual
def SV.fz (ref:Nat) (R:Reg):SV->SV
 | .r x=>.r x
 | .ptr q row k fld=>if q=ref then (match R with
   | .vec e k' n g=>if k'=k then .r (.rp k n (λi j=>(g i j).toRV) row fld) else .r .any
   | .box l=>.r (.rp l.length 1 (mN l) 0 (row*k+fld))
   | _=>.r .any) else .ptr q row k fld
 | .sl q k lo n c=>if q=ref then (match R with
   | .vec e k' N g=>if k'=k/\lo+n<=N then .r (.rs k n λi j=>(g (lo+i) j).toRV) else .r .any
   | _=>.r .any) else .sl q k lo n c
 | .mp q=>if q=ref then (match R with
   | .map has val st=>.r (.mp has λa=>(val a).toRV)
   | _=>.r .any) else .mp q
 | .fn f fi ca=>.fn f (SV.fzL ref R fi) (SV.fzL ref R ca)
 | .agg l=>.agg (SV.fzL ref R l)
 | .tup l=>.tup (SV.fzL ref R l)
def SV.fzL (ref:Nat) (R:Reg):List SV->List SV
 | []=>[]
 | s::l=>s.fz ref R::SV.fzL ref R l
end
def Reg.fz (ref:Nat) (R:Reg):Reg->Reg
 | .box l=>.box (SV.fzL ref R l)
 | .vec e k n g=>.vec e k n λi j=>(g i j).fz ref R
 | .map has val st=>.map has (λa=>(val a).fz ref R) st
 | .iter m f c all left la=>.iter (m.fz ref R) f c all left la
def fzM (ref:Nat) (R:Reg) (M:Mem):Mem:=λr=>if r=ref then none else (M r).map (Reg.fz ref R)
section
variable {σ:Sig} {Z Z':Nat->Prop} {w:World} {ref:Nat} {R:Reg} {L:rY}
mutual
theorem SV.rel_fz (hσ:σ ref=some L) (hR:RegOK σ Z w L R) (hz:∀b,Z b->Z' b) (hb:∀b,L.at_=some b->Z' b):∀(s:SV) (y:Value),s.rel σ Z w y->(s.fz ref R).rel σ Z' w y
 | .r x,y,h=>by
   unfold SV.fz;exact RV.rel_mono (λb hb=>⟨hz b hb,rfl⟩) x y h
 | .ptr q row k fld,y,h=>by
   unfold SV.fz;split
   ·rename_i hq;subst hq;obtain⟨L',b,h1,h2,rfl⟩:=h;rw[hσ] at h1;cases h1
    cases R with
    | vec e k' n g=>
      dsimp only;split
      ·rename_i hk;subst hk;obtain⟨f0,fm,f | ⟨b',cs,f1,f2,f3,fo,f5⟩⟩:=hR
       ·rw[h2] at f;cases f.1
       rw[h2] at f1;cases f1;refine⟨b,0,τ,hb b h2,λi j hi hj=>?_⟩;obtain⟨v,v1,v0,v2⟩:=f5 i j hi hj;exact⟨v,by simp[World.cell?,f2,v1],v0,RV.rel_mono (λb hb=>⟨hz b hb,rfl⟩) _ _ (iO v2)⟩
      ·trivial
    | map=>trivial
    | iter=>trivial
    | box l=>
      obtain⟨b',cs,ty,f1,f2,f3,f4⟩:=hR;rw[h2] at f1;cases f1;refine⟨b,0,τ,hb b h2,λi j hi hj=>?_⟩;have hi0:i=0:=ω;subst hi0;obtain⟨v,v1,v2⟩:=SV.relL_get f4 j l[j] (List.getElem?_eq_getElem hj);refine⟨v,by simp[World.cell?,f2,v1],f3 v (List.mem_of_getElem? v1),?_⟩;unfold mN;rw[List.getElem?_eq_getElem hj];exact RV.rel_mono (λb hb=>⟨hz b hb,rfl⟩) _ _ (iO v2)
   ·obtain⟨L',b,h1,h2,h3⟩:=h;exact⟨L',b,h1,h2,h3⟩
 | .sl q k lo n c,y,h=>by
   unfold SV.fz;split
   ·rename_i hq;subst hq
    cases R with
    | vec e k' N g=>
      dsimp only;split
      ·rename_i hk;obtain⟨rfl,hle⟩:=hk;obtain⟨L',A,g1,rfl,g2,g3,g4,g5⟩:=h;rw[hσ] at g1;cases g1;refine⟨A,_,rfl,g2,λh0=>?_⟩;obtain⟨b,q1,rfl⟩:=g4 ω;obtain⟨f0,fm,f | ⟨b',cs,f1,f2,f3,fo,f5⟩⟩:=hR
       ·rw[q1] at f;cases f.1
       rw[q1] at f1;cases f1;refine⟨b,lo*k',rfl,hb b q1,λi j hi hj=>?_⟩;obtain⟨v,v1,v0,v2⟩:=f5 (lo+i) j ω hj;refine⟨v,?_,v0,RV.rel_mono (λb hb=>⟨hz b hb,rfl⟩) _ _ (iO v2)⟩;simp only [World.cell?,f2];rw[<- v1,Nat.add_mul,Nat.add_assoc];simp
      ·trivial
    | _=>trivial
   ·obtain⟨L',A,h1,h2⟩:=h;exact⟨L',A,h1,h2⟩
 | .mp q,y,h=>by
   unfold SV.fz;split
   ·rename_i hq;subst hq
    cases R with
    | map has val st=>
      obtain⟨L',b,g1,g2,rfl⟩:=h;rw[hσ] at g1;cases g1;obtain⟨b',es,ck,f1,f2,f3,f4⟩:=hR;rw[g2] at f1;cases f1;exact⟨b,es,ck,rfl,hb b g2,f2,f3.mono λa v _ hv=>RV.rel_mono (λb hb=>⟨hz b hb,rfl⟩) _ _ (iO hv)⟩
    | _=>trivial
   ·obtain⟨L',b,h1,h2,h3⟩:=h;exact⟨L',b,h1,h2,h3⟩
 | .fn f fi ca,y,h=>by
   obtain⟨vs,ws,e,h1,h2⟩:=h;exact⟨vs,ws,e,SV.relL_fz hσ hR hz hb _ _ h1,SV.relL_fz hσ hR hz hb _ _ h2⟩
 | .agg l,y,h=>by
   obtain⟨vs,e,h1,h2⟩:=h;exact⟨vs,e,h1,SV.relL_fz hσ hR hz hb _ _ h2⟩
 | .tup l,y,h=>by
   obtain⟨vs,e,h2⟩:=h;exact⟨vs,e,SV.relL_fz hσ hR hz hb _ _ h2⟩
theorem SV.relL_fz (hσ:σ ref=some L) (hR:RegOK σ Z w L R) (hz:∀b,Z b->Z' b) (hb:∀b,L.at_=some b->Z' b):∀(l:List SV) (ys:List Value),SV.relL σ Z w l ys->SV.relL σ Z' w (SV.fzL ref R l) ys
 | [],ys,h=>h
 | s::l,ys,h=>by
   obtain⟨v,vs',e,h1,h2⟩:=h;exact⟨v,vs',e,SV.rel_fz hσ hR hz hb s v h1,SV.relL_fz hσ hR hz hb l vs' h2⟩
end
end
theorem MOK.freeze {B W F:Nat->Prop} {n0:Nat} {σ:Sig} {w:World} (hm:MOK B W n0 σ M F w) {ref:Nat} {R:Reg} (hM:M ref=some R) :
 MOK B W n0 σ (fzM ref R M) F w/\∀s y,SV.rel σ (Zof B σ M w) w s y->(s.fz ref R).rel σ (Zof B σ (fzM ref R M) w) w y:=by
 obtain⟨L,hσ,hR⟩:=hm.reg ref R hM;have hk:∀r R',fzM ref R M r=some R'->r≠ref/\∃R1,M r=some R1/\R'=Reg.fz ref R R1:=by
  intro r R' h;unfold fzM at h;split at h
  ·cases h
  ·rename_i hne
   cases hq:M r with
   | none=>rw[hq] at h;cases h
   | some R1=>rw[hq] at h;cases h;exact⟨hne,R1,rfl,rfl⟩
 have hz:∀b,Zof B σ M w b->Zof B σ (fzM ref R M) w b:=λb hb=>⟨hb.1,λr R' L' h1 h2 h3=>by
  obtain⟨_,R1,e1,_⟩:=hk r R' h1;exact hb.2 r R1 L' e1 h2 h3⟩
 have hb:∀b,L.at_=some b->Zof B σ (fzM ref R M) w b:=λb h=>⟨⟨hR.block h,hm.newB b ((hm.own ref R L b hM hσ h).symm)⟩,λr R' L' h1 h2 h3=>by
  obtain⟨hne,R1,e1,_⟩:=hk r R' h1;exact hne (hm.inj r ref R1 R L' L b e1 hM h2 hσ h3 h)⟩
 refine⟨⟨hm.newB,hm.fresh,λr R' h=>?_,λr r' R1 R2 L1 L2 x h1 h2 h3 h4 h5 h6=>?_,λr R' L' x h1 h2 h3=>?_⟩,λs y h=>SV.rel_fz hσ hR hz hb s y h⟩
 ·obtain⟨hne,R1,e1,rfl⟩:=hk r R' h;obtain⟨L',g1,g2⟩:=hm.reg r R1 e1;refine⟨L',g1,?_⟩
  cases R1 with
  | box l=>
    obtain⟨b',cs,ty,h1,h2,h3,h4⟩:=g2;exact⟨b',cs,ty,h1,h2,h3,SV.relL_fz hσ hR hz hb _ _ h4⟩
  | vec e k n g=>
    obtain⟨q1,q2,q3⟩:=g2;exact⟨q1,q2,q3.imp id λ⟨b,cs,r1,r2,r3,r4,r5⟩=>⟨b,cs,r1,r2,r3,r4,λi j hi hj=>by
     obtain⟨v,v1,v0,v2⟩:=r5 i j hi hj;exact⟨v,v1,v0,SV.rel_fz hσ hR hz hb _ _ v2⟩⟩⟩
  | map has val st=>
    obtain⟨b',es,ck,h1,h2,h3,h4⟩:=g2;exact⟨b',es,ck,h1,h2,h3.mono λa v _ hv=>SV.rel_fz hσ hR hz hb _ _ hv,h4⟩
  | iter m f c all left la=>
    obtain⟨b',mo,seen,sp,h1,h2,h3,h4,h5⟩:=g2;exact⟨b',mo,seen,sp,h1,h2,h3,SV.rel_fz hσ hR hz hb _ _ h4,h5⟩
 ·obtain⟨_,R3,e1,_⟩:=hk r R1 h1;obtain⟨_,R4,e2,_⟩:=hk r' R2 h2;exact hm.inj r r' R3 R4 L1 L2 x e1 e2 h3 h4 h5 h6
 ·obtain⟨_,R3,e1,_⟩:=hk r R' h1;exact hm.own r R3 L' x e1 h2 h3
theorem GSt.freeze (ref:Nat) {R:Reg} (hM:M ref=some R):GSt N E M nx (λt=>(E t).fz ref R) (fzM ref R M) nx:=by
 intro B W w0 σ a w h;obtain⟨h1,h2⟩:=h.mem.freeze hM;refine⟨σ,λt=>h2 _ _ (h.env t),h1,h.fr,h.defers.keep (λb hb=>⟨⟨hb.1,λr R' L h3 h4=>?_⟩,rfl⟩),h.size,h.low,h.pin,h.good⟩;unfold fzM at h3;split at h3
 ·cases h3
 ·cases hr:M r with
  | none=>rw[hr] at h3;cases h3
  | some R3=>exact hb.2 r R3 L hr h4
def RV.sub:RV->RV->Prop
 | .rs k n g,.rs k' n' g'=>k=k'/\n=n'/\∀i j,i<n->j<k->g i j=g' i j
 | .v (.slice none 0 0),.rs k' n' g'=>n'=0
 | .mp has val,.mp has' val'=>(∀a,has a=has' a)/\∀a,has a=true->val a=val' a
 | _,.any=>True
 | a,b=>a=b
mutual
def SV.sub:SV->SV->Prop
 | .r a,.r b=>a.sub b
 | .agg l,.agg l'=>SV.subL l l'
 | .tup l,.tup l'=>SV.subL l l'
 | _,.r .any=>True
 | a,b=>a=b
def SV.subL:List SV->List SV->Prop
 | [],[]=>True
 | s::l,s'::l'=>s.sub s'/\SV.subL l l'
 | _,_=>False
end
def Reg.sub:Option Reg->Option Reg->Prop
 | some (.vec e k n g),some (.vec e' k' n' g')=>e=e'/\k=k'/\n'<=n/\∀i j,i<n'->j<k->g i j=g' i j
 | some (.box l),some (.box l')=>SV.subL l l'
 | some (.map has val st),some (.map has' val' st')=>(∀a,has a=has' a)/\(∀a,has a=true->val a=val' a)/\(st'=none\/st=st')
 | some (.iter m f c all left la),some (.iter m' f' c' all' left' la')=>m=m'/\f=f'/\c=c'/\la=la'/\(∀a,all' a=true->all a=true)/\∀a,all' a=true->left a=left' a
 | _,none=>True
 | _,_=>False
@[go_sem]theorem RV.sub_rfl (x:RV):x.sub x:=by
  cases x with
  | rs k n g=>exact⟨rfl,rfl,λ_ _ _ _=>rfl⟩
  | v x=>simp[RV.sub]
  | mp has val=>exact⟨λ_=>rfl,λ_ _=>rfl⟩
  | _=>simp[RV.sub]
mutual
theorem SV.sub_rfl:∀s:SV,s.sub s
 | .r x=>by simp only [SV.sub];exact RV.sub_rfl x
 | .agg l=>by simp only [SV.sub];exact SV.subL_rfl l
 | .tup l=>by simp only [SV.sub];exact SV.subL_rfl l
 | .ptr ..=>by simp[SV.sub]
 | .sl ..=>by simp[SV.sub]
 | .mp ..=>by simp[SV.sub]
 | .fn ..=>by simp[SV.sub]
theorem SV.subL_rfl:∀l:List SV,SV.subL l l
 | []=>trivial
 | s::l=>⟨SV.sub_rfl s,SV.subL_rfl l⟩
end
attribute [go_sem] SV.sub_rfl SV.subL_rfl
@[go_sem]theorem Reg.sub_rfl (R:Option Reg):Reg.sub R R:=by
  cases R with
  | none=>trivial
  | some R=>
    cases R with
    | box l=>exact SV.subL_rfl l
    | vec e k n g=>exact⟨rfl,rfl,Nat.le_refl _,λ_ _ _ _=>rfl⟩
    | map has val st=>exact⟨λ_=>rfl,λ_ _=>rfl,.inr rfl⟩
    | iter m f c all left la=>exact⟨rfl,rfl,rfl,rfl,λ_ h=>h,λ_ _=>rfl⟩
theorem RV.sub_rel {Z:Nat->Prop} {w:World} {x x':RV} {y:Value} (h:x.sub x') (hr:x.rel Z w y):x'.rel Z w y:=by
 unfold RV.sub at h;split at h
 ·obtain⟨rfl,rfl,hg⟩:=h;obtain⟨A,c,h1,h2,h3⟩:=hr;refine⟨A,c,h1,h2,λh0=>?_⟩;obtain⟨b,o,h4,h5,h6⟩:=h3 h0;refine⟨b,o,h4,h5,λi j hi hj=>?_⟩;obtain⟨v,e1,e2,e3⟩:=h6 i j hi hj;exact⟨v,e1,e2,by rw[<- hg i j hi hj];exact e3⟩
 ·subst h
  cases hr
  exact⟨none,0,rfl,Nat.le_refl _,λh=>ω⟩
 ·obtain⟨q1,q2⟩:=h;obtain⟨b,es,ck,h1,h2,h3,h4,h5,h6⟩:=hr;exact⟨b,es,ck,h1,h2,h3,λe he=>by
   obtain⟨a,r1,r2,r3,r4⟩:=h4 e he;exact⟨a,r1,by rw[<- q1];exact r2,r3,by dsimp only;rw[<- q2 a r2];exact r4⟩,λa ha=>h5 a (by rw[q1];exact ha),h6⟩
 ·trivial
 ·subst h;exact hr
mutual
theorem SV.sub_rel {σ:Sig} {Z:Nat->Prop} {w:World}:∀(s s':SV) (y:Value),s.sub s'->s.rel σ Z w y->s'.rel σ Z w y
 | .r a,s',y,h,hr=>by
   cases s' with
   | r b=>simp only [SV.sub] at h;exact RV.sub_rel (Z:=Z) (w:=w) h hr
   | _=>simp[SV.sub] at h
 | .agg l,s',y,h,hr=>by
   cases s' with
   | agg l'=>
     simp only [SV.sub] at h;obtain⟨vs,e,h1,h2⟩:=hr;exact⟨vs,e,h1,SV.subL_rel l l' vs h h2⟩
   | r b=>cases b <;> first | trivial | simp[SV.sub] at h
   | _=>simp[SV.sub] at h
 | .tup l,s',y,h,hr=>by
   cases s' with
   | tup l'=>
     simp only [SV.sub] at h;obtain⟨vs,e,h2⟩:=hr;exact⟨vs,e,SV.subL_rel l l' vs h h2⟩
   | r b=>cases b <;> first | trivial | simp[SV.sub] at h
   | _=>simp[SV.sub] at h
 | .ptr a b c d,s',y,h,hr=>by
   cases s' with
   | ptr=>simp only [SV.sub] at h;rw[<- h];exact hr
   | r b=>cases b <;> first | trivial | simp[SV.sub] at h
   | _=>simp[SV.sub] at h
 | .sl a b c d e,s',y,h,hr=>by
   cases s' with
   | sl=>simp only [SV.sub] at h;rw[<- h];exact hr
   | r b=>cases b <;> first | trivial | simp[SV.sub] at h
   | _=>simp[SV.sub] at h
 | .mp a,s',y,h,hr=>by
   cases s' with
   | mp=>simp only [SV.sub] at h;rw[<- h];exact hr
   | r b=>cases b <;> first | trivial | simp[SV.sub] at h
   | _=>simp[SV.sub] at h
 | .fn f a b,s',y,h,hr=>by
   cases s' with
   | fn=>simp only [SV.sub] at h;rw[<- h];exact hr
   | r b=>cases b <;> first | trivial | simp[SV.sub] at h
   | _=>simp[SV.sub] at h
theorem SV.subL_rel {σ:Sig} {Z:Nat->Prop} {w:World}:∀(l l':List SV) (ys:List Value),SV.subL l l'->SV.relL σ Z w l ys->SV.relL σ Z w l' ys
 | [],l',ys,h,hr=>by
   cases l' with
   | nil=>exact hr
   | cons=>simp[SV.subL] at h
 | s::l,l',ys,h,hr=>by
   cases l' with
   | nil=>simp[SV.subL] at h
   | cons s' l'=>
     simp only [SV.subL] at h;obtain⟨v,vs',e,h1,h2⟩:=hr;exact⟨v,vs',e,SV.sub_rel s s' v h.1 h1,SV.subL_rel l l' vs' h.2 h2⟩
end
theorem Reg.sub_ok {σ:Sig} {Z Z':Nat->Prop} {w:World} {L:rY} {R R':Reg} (h:Reg.sub (some R) (some R')) (hz:∀b,Z b->Z' b) (hr:RegOK σ Z w L R):RegOK σ Z' w L R':=by
 have hr':=hr.mono (λ_ _ h=>h) (λb hb=>⟨hz b hb,rfl⟩) (λ_ _=>rfl)
 cases R with
 | box l=>
   cases R' with
   | vec=>simp[Reg.sub] at h
   | map=>simp[Reg.sub] at h
   | iter=>simp[Reg.sub] at h
   | box l'=>
     obtain⟨b',cs,ty,h1,h2,h3,h4⟩:=hr';exact⟨b',cs,ty,h1,h2,h3,SV.subL_rel _ _ _ h h4⟩
 | vec e k n g=>
   cases R' with
   | box=>simp[Reg.sub] at h
   | map=>simp[Reg.sub] at h
   | iter=>simp[Reg.sub] at h
   | vec e' k' n' g'=>
     obtain⟨rfl,rfl,hn,hg⟩:=h;obtain⟨h0,hm,h⟩:=hr';refine⟨Nat.le_trans hn h0,hm,h.imp id λ⟨b,cs,h1,h2,h3,ho,h5⟩=>⟨b,cs,h1,h2,h3,ho,λi j hi hj=>?_⟩⟩;obtain⟨v,v1,v0,v2⟩:=h5 i j ω hj;exact⟨v,v1,v0,by rw[<- hg i j hi hj];exact v2⟩
 | map has val st=>
   cases R' with
   | map has' val' st'=>
     obtain⟨q1,q2,q3⟩:=h;obtain⟨b,es,ck,h1,h2,⟨h4,h5,h6⟩,h7⟩:=hr';refine⟨b,es,ck,h1,h2,⟨λe he=>?_,λa ha=>h5 a (by rw[q1];exact ha),h6⟩,λf c hc=>?_⟩
     ·obtain⟨a,r1,r2,r3,r4⟩:=h4 e he;exact⟨a,r1,by rw[<- q1];exact r2,r3,by dsimp only;rw[<- q2 a r2];exact r4⟩
     ·rcases q3 with rfl | rfl
      ·cases hc
      ·exact h7 f c hc
   | _=>simp[Reg.sub] at h
 | iter m f c all left la=>
   cases R' with
   | iter m' f' c' all' left' la'=>
     obtain⟨rfl,rfl,rfl,rfl,q1,q2⟩:=h;obtain⟨b,mo,seen,sp,h1,h2,h3,h4,h5,h6⟩:=hr';exact⟨b,mo,seen,sp,h1,h2,h3,h4,λa ha=>by rw[<- q2 a ha];exact h5 a (q1 a ha),h6⟩
   | _=>simp[Reg.sub] at h
theorem MOK.sub {B W F:Nat->Prop} {n0:Nat} {σ:Sig} {w:World} (hm:MOK B W n0 σ M F w) (hs:∀r,Reg.sub (M r) (M' r)):MOK B W n0 σ M' F w/\∀b,Zof B σ M w b->Zof B σ M' w b:=by
 have hk:∀r R',M' r=some R'->∃R1,M r=some R1/\Reg.sub (some R1) (some R'):=by
  intro r R' h;have:=hs r;rw[h] at this
  cases hq:M r with
  | none=>rw[hq] at this;simp[Reg.sub] at this
  | some R1=>rw[hq] at this;exact⟨R1,rfl,this⟩
 have hz:∀b,Zof B σ M w b->Zof B σ M' w b:=λb hb=>⟨hb.1,λr R' L' h1 h2 h3=>by
  obtain⟨R1,e1,_⟩:=hk r R' h1;exact hb.2 r R1 L' e1 h2 h3⟩
 refine⟨⟨hm.newB,hm.fresh,λr R' h=>?_,λr r' R1 R2 L1 L2 x h1 h2 h3 h4 h5 h6=>?_,λr R' L' x h1 h2 h3=>?_⟩,hz⟩
 ·obtain⟨R1,e1,e2⟩:=hk r R' h;obtain⟨L',g1,g2⟩:=hm.reg r R1 e1;exact⟨L',g1,Reg.sub_ok e2 hz g2⟩
 ·obtain⟨R3,e1,_⟩:=hk r R1 h1;obtain⟨R4,e2,_⟩:=hk r' R2 h2;exact hm.inj r r' R3 R4 L1 L2 x e1 e2 h3 h4 h5 h6
 ·obtain⟨R3,e1,_⟩:=hk r R' h1;exact hm.own r R3 L' x e1 h2 h3
def fQ (n:Nat) (E:Env):List (Nat × SV)->Prop
 | []=>True
 | p::l=>((E p.1).trim n).sub p.2/\fQ n E l
def jB:Nat->Mem->List (Option Reg)->Prop
 | _,_,[]=>True
 | i,M,R::l=>Reg.sub (M i) R/\jB (i+1) M l
theorem zO {n:Nat} {E:Env}:∀{l:List (Nat × SV)},fQ n E l->∀p∈l,(jC n E p.1).sub p.2
 | [],_,p,hp=>by simp at hp
 | q::l,h,p,hp=>by
   simp at hp;rcases hp with rfl | hp
   ·exact h.1
   ·exact zO h.2 p hp
theorem aGw {σ:Sig} {Z:Nat->Prop} {w:World} {a:Act}:∀(l:List (Nat × SV)) (E:Env),(∀p∈l,(E p.1).sub p.2)->EOK σ Z w E a->EOK σ Z w (iP E l) a
 | [],E,_,h=>h
 | p::l,E,hl,h=>by
   intro t;simp only [iP];by_cases ht:t=p.1
   ·subst ht;rw[aZ];exact SV.sub_rel _ _ _ (hl p τ) (h p.1)
   ·rw[aW _ _ ht];exact aGw l E (λq hq=>hl q (by simp[hq])) h t
theorem uP:∀(l:List (Option Reg)) (i:Nat) (M:Mem),jB i M l->∀r,r<l.length->Reg.sub (M (i+r)) ((l[r]?).getD none)
 | [],i,M,_,r,hr=>by simp at hr
 | R::l,i,M,h,r,hr=>by
   cases r with
   | zero=>simpa using h.1
   | succ r=>simpa [Nat.add_assoc,Nat.add_comm 1 r] using uP l (i+1) M h.2 r (by simpa using hr)
theorem kL {n:Nat} {l:List (Option Reg)} (hl:l.length=n) (h:jB 0 (cT n M) l) (r:Nat):Reg.sub (cT n M r) (fD l r):=by
 by_cases hr:r<n
 ·simpa [fD] using uP l 0 _ h r ω
 ·simp[cT,hr,fD,List.getElem?_eq_none (ω:l.length<=r),Reg.sub]
def LS (P:Program) (T:Tab) (N:cZ) {α:Type} (S:α->List (Nat × SV)) (Rs:α->List (Option Reg)) (n:Nat) (I:α->Prop) (μ:α->Nat) (x:α) (k:List It) (Q:GQ):GQ:=
 vR (λE' M' nx'=>∃x',I x'/\μ x'<μ x/\fQ n E' (S x')/\jB 0 (cT n M') (Rs x')) (GK P T N k Q)
section
variable {α:Type} {S:α->List (Nat × SV)} {Rs:α->List (Option Reg)} {n:Nat} {I:α->Prop} {μ:α->Nat} {x:α}
@[go_sem]theorem bC5:LS P T N S Rs n I μ x k Q .normal E M nx=∃x',I x'/\μ x'<μ x/\fQ n E (S x')/\jB 0 (cT n M) (Rs x'):=(rfl)
@[go_sem]theorem bHq (i:Nat):LS P T N S Rs n I μ x k Q (.exit i) E M nx=GK P T N k Q (.exit i) E M nx:=(rfl)
@[go_sem]theorem bIg:LS P T N S Rs n I μ x k Q .ret E M nx=GK P T N k Q .ret E M nx:=(rfl)
end
theorem Fit.of_slotsS {S:List (Nat × SV)} {M1:Mem} {n:Nat} (hn:N.np<=n) (h:fQ n E S) (hM:∀r,Reg.sub (cT n M r) (M1 r)):Fit N E M nx S M1 n:=by
 refine⟨jC n E,λB W w0 σ a w h3=>?_⟩;have h4:=h3.trim n hn;obtain⟨m1,m2⟩:=h4.mem.sub hM;exact⟨_,aGw _ _ (zO h) λt=>SV.rel_mono (λ_ _ h=>h) (λb hb=>⟨m2 b hb,rfl⟩) _ _ (h4.env t),m1,h4.fr,h4.defers.keep (λb hb=>⟨m2 b hb,rfl⟩),h4.size,h4.low,h4.pin,h4.good⟩
theorem bF (hT:aX P T) {α:Type} {c:Code} (S:α->List (Nat × SV)) (Rs:α->List (Option Reg)) (n:Nat) (I:α->Prop) (μ:α->Nat) (x0:α)
 (hn:∀x,(Rs x).length=n) (h0:I x0) (hE:fQ n E (S x0)) (hM:jB 0 (cT n M) (Rs x0))
 (round:∀x J,I x->GC P T N c [] (LS P T N S Rs n I μ x k Q) (iP J (S x)) (fD (Rs x)) n) (hnp:N.np<=n:=by first | exact Nat.zero_le _ | decide):rZ P T N c k Q E M nx:=by
 refine aQ5 S (λx=>fD (Rs x)) n I μ x0 h0 (Fit.of_slotsS hnp hE (kL (hn x0) hM)) λx J hi=>?_;refine(dH hT c _ _ _ _ (round x J hi)).mono λe E M nx q=>?_
 cases e with
 | normal=>
   obtain⟨x',i1,i2,i3,i4⟩:=q;exact⟨x',i1,i2,Fit.of_slotsS hnp i3 (kL (hn x') i4)⟩
 | _=>exact q
attribute [go_sem] fQ jB RV.sub SV.sub SV.subL Reg.sub SV.fz SV.fzL Reg.fz fzM
end
theorem aE {P:Program} {T:Tab} {N:cZ} {k:List It} {Q:GQ} {E:Env} {M:Mem} {nx:Nat} (hT:aX P T) (hm:P.follows .mixedOrders=true) {id:Nat} {ops:List Oper} (hok:tZ ops.toArray ops.length=true) (h:jD (λ_=>false) P T N ops.toArray ops [] k Q E M nx):iF P T N id ops.toArray k Q E M nx:=
 bE hT hm ops.length hok (List.take_length) (List.drop_length) h
def cQ {α:Type} (f:α->Nat->RV) (l:List α):Nat->Nat->RV:=λi j=>match l[i]? with | some a=>f a j | none=>.any
theorem bP {α:Type} {f:α->Nat->RV} {l:List α} {i:Nat} {a:α} (h:l[i]? =some a) (j:Nat):cQ f l i j=f a j:=by simp[cQ,h]
theorem mS {α:Type} {f:α->Nat->RV} {l:List α} {a:α} {n:Nat} (hn:n=l.length) {h:Nat->Nat->SV} {i j k:Nat} (hj:j<k) (hh:∀j,j<k->h 0 j=.r (f a j)) (hi:i<n+1) :
 aJ n 1 (λi j=>.r (cQ f l i j)) h i j=.r (cQ f (l++[a]) i j):=by
 subst hn;unfold aJ cQ;by_cases hlt:i<l.length
 ·rw[if_pos hlt,List.getElem?_append_left hlt]
 ·have:i=l.length:=ω;subst this;rw[if_neg hlt,if_pos hi];simp[hh j hj]
end Go.Gx
