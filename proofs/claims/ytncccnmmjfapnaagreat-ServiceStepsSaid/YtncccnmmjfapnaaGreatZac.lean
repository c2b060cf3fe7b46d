/-
 Texts of the walk, merged: K3.
-/
import Derived.Test.YtncccnmmjfapnaaGreatZab
import Derived.Deep.LoopGhost
import Derived.Laws.StructEq
import Derived.OrdersIn
import Derived.TacticsIn
import Derived.RangeFuncRecord
set_option linter.unusedVariables false
set_option linter.unusedSimpArgs false
set_option maxRecDepth 100000
set_option maxHeartbeats 4000000
namespace Go.Gx
open Go.RowKit
structure W0 extends World where
 pi:Sig
structure Gd where
 p:(Nat->Prop)->(Nat->Prop)->W0->Prop
 md:Bool
 u:Bool
structure cZ where
 n:Nat
 np:Nat
 good:Gd
def gG:Gd:=⟨λ_ _ _=>True,true,true⟩
def aTz:Gd:=⟨λ_ _ _=>True,true,false⟩
def aDx:Gd:=⟨λ_ _ _=>True,false,true⟩
instance:Coe W0 World:=⟨W0.toWorld⟩
def jU (uu:Bool) (np:Nat) (B W:Nat->Prop) (n0:Nat) (σ:Sig) (M:Mem) (w:World) (K:SV->Mem->Nat->(SV->SV)->Prop) (e:Ending) (w':World):Prop:=
 ∃y s M' nx' σ' up,e=.returned y/\K s M' nx' up/\MOK B W n0 σ' M' (eF nx') w'/\bZ (Zof B σ M w) (Zof B σ' M' w') w w'/\s.rel σ' (Zof B σ' M' w') w' y/\
  (∀t z,t.rel σ (Zof B σ M w) w z->(up t).rel σ' (Zof B σ' M' w') w' z)/\FrS uu W n0 w w'/\np<=nx'/\∀r,r<np->σ' r=σ r
def dV (P:Program) (N:cZ) (f:FuncId) (args:List SV) (M:Mem) (nx:Nat) (K:SV->Mem->Nat->(SV->SV)->Prop):Prop:=
 ∀(B W:Nat->Prop) (w0:W0) (σ:Sig) (w:World) (vs:List Value),MOK B W w0.heap.size σ M (eF nx) w->w0.heap.size<=w.heap.size->N.np<=nx->N.good.p B W w0->SV.relL σ (Zof B σ M w) w args vs->
  ((callFunc f vs.toArray).run P w=.ok (.enter f vs.toArray) w/\Calls P f vs.toArray w (jU N.good.u N.np B W w0.heap.size σ M w K))\/
  ∃y w',(callFunc f vs.toArray).run P w=.ok (.value y) w'/\jU N.good.u N.np B W w0.heap.size σ M w K (.returned y) w'
def aK (E:Env) (d:Option Tmp) (s:SV):Env:=match d with | some d=>bH E d s | none=>E
def dC (N:Nat) (d:Option Tmp):Prop:=match d with | some d=>d<N | none=>True
def Marks (md:Bool) (n0:Nat) (Z:Nat->Prop) (w:World) (ds:List Deferred):Prop:=
 (md=false->ds=[])/\∃l:List Nat,ds=l.map (λD=>({target:=.collected D,args:=#[]}:Deferred))/\l.Nodup/\∀D∈l,n0<=D/\Z D/\w.heap[D]? =some (.deferred (some []))
theorem Marks.nil (md:Bool) (n0:Nat) (Z:Nat->Prop) (w:World):Marks md n0 Z w []:=⟨λ_=>rfl,[],rfl,τ,τ⟩
theorem Marks.keep {md:Bool} {n0:Nat} {Z Z':Nat->Prop} {w w':World} {ds:List Deferred} (h:Marks md n0 Z w ds) (hk:bZ Z Z' w w'):Marks md n0 Z' w' ds:=by
 obtain⟨h0,l,h1,h2,h3⟩:=h;exact⟨h0,l,h1,h2,λD hD=>⟨(h3 D hD).1,(hk D (h3 D hD).2.1).1,(hk D (h3 D hD).2.1).2.trans (h3 D hD).2.2⟩⟩
structure St (B W:Nat->Prop) (w0:W0) (N:cZ) (σ:Sig) (E:Env) (M:Mem) (nx:Nat) (a:Act) (w:World):Prop where
 env:EOK σ (Zof B σ M w) w E a
 mem:MOK B W w0.heap.size σ M (eF nx) w
 fr:Fr N.good.u W w0 w
 defers:Marks N.good.md w0.heap.size (Zof B σ M w) w a.defers
 size:a.tmps.size=N.n
 low:N.np<=nx
 pin:∀r,r<N.np->σ r=w0.pi r
 good:N.good.p B W w0
def qZ (P:Program) (N:cZ) (o:Oper) (E:Env) (M:Mem) (nx:Nat) (K:Env->Mem->Nat->Prop):Prop:=
 ∀(B W:Nat->Prop) (w0:W0) (σ:Sig) (a:Act) (w:World),St B W w0 N σ E M nx a w->∀(next:Act->World->Prop) (Q:Exit->Act->World->Prop),
  (∀E' M' nx' σ' a' w',K E' M' nx'->St B W w0 N σ' E' M' nx' a' w'->next a' w')->o.wpIn Fence.wide 0 P a w next Q
theorem dO {P:Program} {o:Oper} {a:Act} {w:World} {next:Act->World->Prop} {Q:Exit->Act->World->Prop} (h:o.wp P a w next Q):o.wpIn Fence.wide 0 P a w next Q:=by
 refine⟨λ_ _=>trivial,?_⟩;show o.uponIn _ _ _ _ _ _ ((execOp a.eval o).run P w);unfold Oper.wp at h;generalize (execOp a.eval o).run P w=r at *;have hd:Fence.wide.depth.isSome=true->1<=0:=by simp[Fence.wide]
 cases r with
 | ok x w'=>
   cases x <;> simp only [Oper.upon,Oper.uponIn] at h ⊢ <;> first | exact h | exact⟨hd,callsIn_wide.2 h⟩ | skip
   ·exact⟨hd,λc cs _=>let ⟨v,w'',r,s⟩:=h c cs;⟨v,w'',r,stepsIn_wide.2 s⟩⟩
 | halt x w'=>cases x <;> simp only [Oper.upon,Oper.uponIn] at h ⊢ <;> exact h
def yG (P:Program) (T:Tab) (N:cZ) (o:Oper) (E:Env) (M:Mem) (nx:Nat) (K:Env->Mem->Nat->Prop):Prop:=
 dC N.n o.dst/\match o.op with
 | .pick c x y=>
   match ev E c with
   | .r (.v (.bool t))=>if t=true then K (aK E o.dst (ev E x)) M nx else K (aK E o.dst (ev E y)) M nx
   | _=>False
 | op=>
   match dU T op E M nx with
   | .bad=>qZ P N {o with guard:=none} E M nx K
   | .pure ob s=>ob/\K (aK E o.dst s) M nx
   | .new ob R s=>ob/\K (aK E o.dst s) (bH M nx (some R)) (nx+1)
   | .set ob ref R s=>ob/\K (aK E o.dst s) (bH M ref (some R)) nx
   | .app ob ref R s=>ob/\N.np<=ref/\K (aK (λt=>(E t).kill ref) o.dst s) (bH (nU ref M) ref (some R)) nx
   | .call f args=>dV P N f args M nx λs M' nx' up=>K (aK (λt=>up (E t)) o.dst s) M' nx'
def oP (P:Program) (T:Tab) (N:cZ) (ops:Array Oper):List Oper->Env->Mem->Nat->(Env->Mem->Nat->Prop)->Prop
 | [],E,M,nx,K=>K E M nx
 | o::rest,E,M,nx,K=>
   match o.guard with
   | none=>yG P T N o E M nx λE' M' nx'=>oP P T N ops rest E' M' nx' K
   | some (j,want)=>
     match (ops[j]?).bind (·.dst) with
     | none=>False
     | some d=>
       match E d with
       | .r (.v (.bool t))=>
         if t=want then yG P T N o (bH E d (.b want)) M nx λE' M' nx'=>oP P T N ops rest E' M' nx' K
         else dC N.n o.dst/\oP P T N ops rest (aK (bH E d (.b (!want))) o.dst (.r (.v undef))) M nx K
       | .r (.v x)=>dC N.n o.dst/\oP P T N ops rest (aK E o.dst (.r (.v undef))) M nx K
       | _=>False
section
variable {P:Program} {T:Tab} {B W:Nat->Prop} {w0:W0} {N:cZ} {σ:Sig} {M:Mem} {nx:Nat} {w:World} {a:Act} {E:Env}
theorem MOK.weaken {n0:Nat} {F F':Nat->Prop} (h:MOK B W n0 σ M F w) (hf:∀r,F' r->F r):MOK B W n0 σ M F' w:=⟨h.newB,λr hr=>h.fresh r (hf r hr),h.reg,h.inj,h.own⟩
theorem Fr.step {uu:Bool} {w':World} (h:Fr uu W w0 w) (k:FrS uu W w0.heap.size w w'):Fr uu W w0 w':=
 ⟨k.os.trans h.os,k.tape.trans h.tape,k.output.trans h.output,Nat.le_trans h.size k.size,h.drawn.trans k.drawn h.size,λb hb hw=>(k.block b hb hw).trans (h.block b hb hw)⟩
theorem EOK.put {Z:Nat->Prop} (h:EOK σ Z w E a) {d:Option Tmp} {s:SV} {y:Value} (hd:dC a.tmps.size d) (hs:s.rel σ Z w y):EOK σ Z w (aK E d s) (a.put d y):=by
 cases d with
 | none=>exact h
 | some d=>
   intro t;simp only [aK,Act.put];by_cases ht:t=d
   ·subst ht;rw[aZ];have:(a.tmps.setIfInBounds t y).getD t undef=y:=by
     have hd':t<a.tmps.size:=hd;simp[hd']
    rw[this];exact hs
   ·rw[aW _ _ ht];have:(a.tmps.setIfInBounds d y).getD t undef=a.tmps.getD t undef:=by
     simp[Array.getElem?_setIfInBounds,Ne.symm ht]
    rw[this];exact h t
theorem aGb (a:Act) (d:Option Tmp) (y:Value):(a.put d y).tmps.size=a.tmps.size:=by cases d <;> simp[Act.put]
theorem zD (a:Act) (d:Option Tmp) (y:Value):(a.put d y).defers=a.defers:=by cases d <;> rfl
theorem St.put (h:St B W w0 N σ E M nx a w) {d:Option Tmp} {s:SV} {y:Value} (hd:dC N.n d) (hs:s.rel σ (Zof B σ M w) w y):St B W w0 N σ (aK E d s) M nx (a.put d y) w:=
 ⟨h.env.put (by rw[h.size];exact hd) hs,h.mem,h.fr,by rw[zD];exact h.defers,by rw[aGb];exact h.size,h.low,h.pin,h.good⟩
theorem qE {Z:Nat->Prop}:(SV.r (.v undef)).rel σ Z w undef:=rfl
theorem St.go (h:St B W w0 N σ E M nx a w) {σ':Sig} {M':Mem} {nx':Nat} {w':World} {E':Env} (hm:MOK B W w0.heap.size σ' M' (eF nx') w') (hf:FrS N.good.u W w0.heap.size w w')
 (hk:bZ (Zof B σ M w) (Zof B σ' M' w') w w') (he:∀t z,(E t).rel σ (Zof B σ M w) w z->(E' t).rel σ' (Zof B σ' M' w') w' z) (hl:N.np<=nx') (hp:∀r,r<N.np->σ' r=σ r):St B W w0 N σ' E' M' nx' a w':=
 ⟨λt=>he t _ (h.env t),hm,h.fr.step hf,h.defers.keep hk,h.size,hl,λr hr=>(hp r hr).trans (h.pin r hr),h.good⟩
theorem kG (hT:aX P T) {o:Oper} {K:Env->Mem->Nat->Prop} {next:Act->World->Prop} {Q:Exit->Act->World->Prop} (h:St B W w0 N σ E M nx a w) (hg:yG P T N o E M nx K)
 (hK:∀E' M' nx' σ' a' w',K E' M' nx'->St B W w0 N σ' E' M' nx' a' w'->next a' w'):o.wpIn Fence.wide 0 P a w next Q:=by
 obtain⟨hd,hg⟩:=hg;by_cases hbad:(∃c x y,o.op=.pick c x y)\/dU T o.op E M nx≠.bad;rotate_left
 ·have h1:¬∃c x y,o.op=.pick c x y:=λh=>hbad (.inl h);have h2:dU T o.op E M nx=.bad:=by
   rcases Classical.em (dU T o.op E M nx=.bad) with h | h
   ·exact h
   ·exact absurd (.inr h) hbad
  split at hg
  ·rename_i c x y hop;exact absurd ⟨c,x,y,hop⟩ h1
  ·rw[h2] at hg;exact hg B W w0 σ a w h next Q hK
 refine dO ?_;have hs:=rV hT h.mem (nx:=nx) (Nat.le_refl nx) h.fr.size h.env o;unfold Oper.wp;generalize hr:(execOp a.eval o).run P w=r at hs;split at hg
 ·rename_i c x y hop;have hc:=bA h.env c;split at hg
  ·rename_i t heq;rw[heq] at hc;have e:r=.ok (.value (if t then a.eval x else a.eval y)) w:=by
    rw[<- hr];simp only [execOp,hop,show a.eval c=.bool t from hc,asBool];rfl
   rw[e]
   cases t
   ·exact hK _ _ _ _ _ _ (by simpa using hg) (h.put hd (bA h.env y))
   ·exact hK _ _ _ _ _ _ (by simpa using hg) (h.put hd (bA h.env x))
  ·exact hg.elim
 ·rename_i hnp;split at hg
  ·rename_i hgo;rcases hbad with ⟨c,x,y,hop⟩ | hne
   ·exact absurd hop (hnp c x y)
   ·exact absurd hgo hne
  ·rename_i ob s hgo;rw[hgo] at hs;obtain⟨y,hy | ⟨hy,rfl⟩,hrel⟩:=hs hg.1
   ·rw[hy];exact hK _ _ _ _ _ _ hg.2 (h.put hd hrel)
   ·rw[hy];exact hK _ _ _ _ _ _ hg.2 (h.put hd hrel)
  ·rename_i ob R s hgo;rw[hgo] at hs;obtain⟨y,w',L,hy,h1,h2,h3,h4⟩:=hs hg.1;rw[hy];refine hK _ _ _ _ _ _ hg.2 (St.put (h.go (h1.weaken λr hr=>⟨Nat.le_of_succ_le hr,Nat.ne_of_gt hr⟩) h4.to h2 (λt z hz=>SV.rel_mono (λr L' hL=>?_) h2 _ _ hz) (Nat.le_succ_of_le h.low) λr hr=>aW _ _ (Nat.ne_of_lt (Nat.lt_of_lt_of_le hr h.low))) hd h3);by_cases hr:r=nx
   ·subst hr;rw[h.mem.fresh r (Nat.le_refl r)] at hL;cases hL
   ·rw[aW _ _ hr];exact hL
  ·rename_i ob ref R s hgo;rw[hgo] at hs;obtain⟨y,w',hy,h1,h2,h3,h4⟩:=hs hg.1;have hst:=h.go h1 h4.to h2 (λt z hz=>SV.rel_mono (λr L' hL=>hL) h2 _ _ hz) h.low λ_ _=>rfl;rcases hy with hy | ⟨hy,rfl⟩
   ·rw[hy];exact hK _ _ _ _ _ _ hg.2 (St.put hst hd h3)
   ·rw[hy];exact hK _ _ _ _ _ _ hg.2 (St.put hst hd h3)
  ·rename_i ob ref R s hgo;rw[hgo] at hs;obtain⟨y,w',L,hy,h1,h2,h3,h4,h5⟩:=hs hg.1;rw[hy];exact hK _ _ _ _ _ _ hg.2.2 (St.put (h.go h1 h4.to h2 (λt z hz=>SV.rel_kill h5 h2 _ _ hz) h.low λr hr=>aW _ _ (Nat.ne_of_lt (Nat.lt_of_lt_of_le hr hg.2.1))) hd h3)
  ·rename_i f args hgo;rw[hgo] at hs;obtain⟨vs,h1,h2⟩:=hs;rcases hg B W w0 σ w vs h.mem h.fr.size h.low h.good h1 with ⟨c1,c2⟩ | ⟨y,w',c1,c2⟩
   ·rw[h2,c1];refine c2.mono λe w' hp=>?_;obtain⟨y,s,M',nx',σ',up,rfl,p1,p2,p3,p4,p5,p6,p7,p8⟩:=hp;exact hK _ _ _ _ _ _ p1 (St.put (h.go p2 p6 p3 (λt z hz=>p5 _ _ hz) p7 p8) hd p4)
   ·rw[h2,c1];obtain⟨y',s,M',nx',σ',up,he,p1,p2,p3,p4,p5,p6,p7,p8⟩:=c2
    cases he
    exact hK _ _ _ _ _ _ p1 (St.put (h.go p2 p6 p3 (λt z hz=>p5 _ _ hz) p7 p8) hd p4)
theorem rX {ops:Array Oper} {j d:Nat} {t:Bool} (hj:(ops[j]?).bind (·.dst)=some d) (he:(SV.b t).rel σ (Zof B σ M w) w (a.tmps.getD d undef)) (hd:d<a.tmps.size):yielded ops a.tmps j=some t:=by
 have h:a.tmps.getD d undef=.bool t:=he;have h2:a.tmps[d]? =some (.bool t):=by
  rw[<- h];simp[hd]
 simp[yielded,hj,h2]
theorem pP {ops:Array Oper} {j d:Nat} {x:Value} (hj:(ops[j]?).bind (·.dst)=some d) (he:(SV.r (.v x)).rel σ (Zof B σ M w) w (a.tmps.getD d undef)) (hx:∀t,x=.bool t->False):yielded ops a.tmps j=none:=by
 have h:a.tmps.getD d undef=x:=he
 cases h3:a.tmps[d]? with
 | none=>simp[yielded,hj,h3]
 | some y=>
   have:y=x:=by rw[<- h];simp[h3]
   subst this
   cases y <;> first | (simp[yielded,hj,h3];done) | exact(hx _ rfl).elim
theorem rO {d:Nat} {t:Bool} (he:(SV.b t).rel σ (Zof B σ M w) w (a.tmps.getD d undef)):d<a.tmps.size:=by
 rcases Nat.lt_or_ge d a.tmps.size with h | h
 ·exact h
 ·have h1:a.tmps.getD d undef=.bool t:=he;have h2:a.tmps.getD d undef=undef:=by simp[Array.getElem?_eq_none h]
  rw[h2] at h1;cases h1
theorem wS (h:St B W w0 N σ E M nx a w) {d:Nat} {s:SV} (hs:s.rel σ (Zof B σ M w) w (a.tmps.getD d undef)):St B W w0 N σ (bH E d s) M nx a w:=
 ⟨λt=>by
   by_cases ht:t=d
   ·subst ht;rw[aZ];exact hs
   ·rw[aW _ _ ht];exact h.env t,h.mem,h.fr,h.defers,h.size,h.low,h.pin,h.good⟩
theorem kF (hT:aX P T) {ops:Array Oper} {K:Env->Mem->Nat->Prop} {Q:Exit->Act->World->Prop}
 (hK:∀E' M' nx' σ' a' w',K E' M' nx'->St B W w0 N σ' E' M' nx' a' w'->Q .normal a' w') :
 ∀(l:List Oper) (E:Env) (M:Mem) (nx:Nat) (σ:Sig) (a:Act) (w:World),St B W w0 N σ E M nx a w->oP P T N ops l E M nx K->wpListIn Fence.wide 0 P ops Q l a w
 | [],E,M,nx,σ,a,w,h,hg=>hK _ _ _ _ _ _ hg h
 | o::rest,E,M,nx,σ,a,w,h,hg=>by
   unfold wpListIn;simp only [oP] at hg;split at hg
   ·rename_i hgd;rw[if_pos (by simp[Region.wanted,hgd])];exact(kG hT h hg λE' M' nx' σ' a' w' hk hs=>kF hT hK rest E' M' nx' σ' a' w' hs hk)
   ·rename_i j want hgd;split at hg
    ·exact hg.elim
    ·rename_i d hj;split at hg
     ·rename_i t heq;have he:=h.env d;rw[heq] at he;have hy:=rX hj he (rO he);by_cases ht:t=want
      ·subst ht;rw[if_pos rfl] at hg;rw[if_pos (by simp[Region.wanted,hgd,hy])];exact(kG hT (wS h he) hg λE' M' nx' σ' a' w' hk hs=>kF hT hK rest E' M' nx' σ' a' w' hs hk)
      ·rw[if_neg ht] at hg;have hb:t=!want:=by cases t <;> cases want <;> simp_all
       rw[if_neg (by simp[Region.wanted,hgd,hy,ht])];rw[hb] at he;exact⟨λ_ _=>trivial,kF hT hK rest _ _ _ _ _ _ (St.put (wS h he) hg.1 qE) hg.2⟩
     ·rename_i x hnb heq;have he:=h.env d;rw[heq] at he;rw[if_neg (by simp[Region.wanted,hgd,pP hj he hnb])];exact⟨λ_ _=>trivial,kF hT hK rest _ _ _ _ _ _ (St.put h hg.1 qE) hg.2⟩
     ·exact hg.elim
end
def ndO (o:Oper):Bool:=match o.op with | .defer _=>false | _=>true
def yR:Code->Bool
 | .seq x y | .cond _ x y=>yR x&&yR y
 | .block _ c | .loop c | .scope c=>yR c
 | .rangeFunc ..=>false
 | .region _ ops _=>ops.all ndO
 | _=>true
def fw (r:Option Nat):Fence:={Fence.wide with round:=r}
theorem aBy {o:Oper} (h:ndO o=true) (r:Option Nat) (ρ:Operand->Value):o.semAt r ρ=execOp ρ o:=by
 refine Oper.semAt_eq r ρ o λc hc=>?_;simp[ndO,hc] at h
theorem aLk {P:Program} {o:Oper} {a:Act} {w:World} {next:Act->World->Prop} {Q:Exit->Act->World->Prop} {r:Option Nat} (hr:r=none\/ndO o=true) (h:o.wpIn Fence.wide 0 P a w next Q):o.wpIn (fw r) 0 P a w next Q:=by
 rcases hr with rfl | hr
 ·exact h
 ·refine⟨h.1,?_⟩;have h2:=h.2;rw[show Fence.wide.round=none from rfl,aBy hr] at h2;rw[aBy hr];generalize (execOp a.eval o).run P w=x at *
  cases x with
  | ok x w'=>cases x <;> exact h2
  | halt x w'=>cases x <;> exact h2
theorem pN {P:Program} {ops:Array Oper} {Q:Exit->Act->World->Prop} {r:Option Nat}:∀(l:List Oper) (a:Act) (w:World),(r=none\/l.all ndO=true)->wpListIn Fence.wide 0 P ops Q l a w->wpListIn (fw r) 0 P ops Q l a w
 | [],a,w,_,h=>h
 | o::l,a,w,hr,h=>by
   have hr1:r=none\/ndO o=true:=hr.imp (λh=>h) λh=>by simp at h;exact h.1
   have hr2:r=none\/l.all ndO=true:=hr.imp (λh=>h) λh=>by simp at h ⊢;exact h.2
   unfold wpListIn at h ⊢;split
   ·rename_i hw;rw[if_pos hw] at h;exact aLk hr1 (Oper.wpIn_mono (λa w hh=>pN l a w hr2 hh) h)
   ·rename_i hw;rw[if_neg hw] at h;exact⟨h.1,pN l _ _ hr2 h.2⟩
theorem nQ {P:Program} {md:Region.Mode} {ops:Array Oper} {Q:Exit->Act->World->Prop} {r:Option Nat} (hr:r=none\/ops.all ndO=true):∀(fuel:Nat) (listed:Array Bool) (a:Act) (w:World),wpAnyIn Fence.wide 0 P md ops Q fuel listed a w->wpAnyIn (fw r) 0 P md ops Q fuel listed a w
 | 0,_,_,_,h=>h
 | fuel+1,listed,a,w,h=>by
   refine⟨h.1,λi hi=>?_⟩;have h1:=h.2 i hi;unfold wpOpIn at h1 ⊢
   cases ho:ops[i]? with
   | none=>rw[ho] at h1;exact nQ hr fuel _ _ _ h1
   | some o=>
     rw[ho] at h1;have hr1:r=none\/ndO o=true:=hr.imp (λh=>h) λh=>by
      obtain⟨hlt,he⟩:=Array.getElem?_eq_some_iff.1 ho;rw[Array.all_eq_true] at h;rw[<- he];exact h i hlt
     simp only [] at h1 ⊢;split
     ·rename_i hw;rw[if_pos hw] at h1;exact aLk hr1 (Oper.wpIn_mono (λa w hh=>nQ hr fuel _ a w hh) h1)
     ·rename_i hw;rw[if_neg hw] at h1;exact⟨h1.1,nQ hr fuel _ _ _ h1.2⟩
theorem kQ {P:Program} {id:Nat} {ops:Array Oper} {Q:Exit->Act->World->Prop} {a:Act} {w:World} {r:Option Nat} (hr:r=none\/yR (.region id ops true)=true) (hm:P.follows .mixedOrders=true)
 (h:wpAnyIn Fence.wide 0 P .any ops Q ops.size (Array.replicate ops.size false) a {w with drawn:=w.drawn+1}):(Code.region id ops true).wpIn (fw r) 0 P Q a w:=
 wpIn_region_any hm (nQ (hr.imp (λh=>h) λh=>h) _ _ _ _ h)
theorem rN (p:Nat->Prop) (h:∃n,p n):∃n,p n/\∀m,p m->n<=m:=by
 obtain⟨n,hn⟩:=h
 induction n using Nat.strongRecOn with
 | ind n ih=>
   rcases Classical.em (∃m,m<n/\p m) with ⟨m,hm,hp⟩ | hno
   ·exact ih m hm hp
   ·exact⟨n,hn,λm hp=>by
     rcases Nat.lt_or_ge m n with h | h
     ·exact absurd ⟨m,h,hp⟩ hno
     ·exact h⟩
theorem iY {F:Fence} {n:Nat} {P:Program} {Q:Exit->Act->World->Prop} {a:Act} {w:World} {c:Code} (I:Nat->Act->World->Prop) (n₀:Nat) (h₀:I n₀ a w)
 (round:∀k a w,I k a w->c.wpIn F n P (Exit.then (λa' w'=>∃k',k'<k/\I k' a' w') Q) a w):(Code.loop c).wpIn F n P Q a w:=by
 classical
 refine wpIn_loop (λa w=>∃k,I k a w) (λa w=>if h:∃k,I k a w then Classical.choose (rN (λk=>I k a w) h) else 0) ⟨n₀,h₀⟩ ?_;intro a w hI;have hc:=Classical.choose_spec (rN (λk=>I k a w) hI);refine wpIn_mono (round _ a w hc.1) ?_;intro e a' w' hq
 cases e with
 | normal=>
   obtain⟨k',h1,h2⟩:=hq;refine⟨⟨k',h2⟩,?_⟩;have h3:∃k,I k a' w':=⟨k',h2⟩;simp only [dif_pos hI,dif_pos h3];exact Nat.lt_of_le_of_lt ((Classical.choose_spec (rN (λk=>I k a' w') h3)).2 k' h2) h1
 | _=>exact hq
def GW (P:Program) (N:cZ) (c:Code) (E:Env) (M:Mem) (nx:Nat) (Q:Exit->Env->Mem->Nat->Prop):Prop:=
 ∀(r:Option Nat),(r=none\/yR c=true)->∀(B W:Nat->Prop) (w0:W0) (σ:Sig) (a:Act) (w:World),St B W w0 N σ E M nx a w->
  c.wpIn (fw r) 0 P (λe a' w'=>∃E' M' nx' σ',Q e E' M' nx'/\St B W w0 N σ' E' M' nx' a' w') a w
def vR (k:Env->Mem->Nat->Prop) (Q:Exit->Env->Mem->Nat->Prop):Exit->Env->Mem->Nat->Prop
 | .normal,E,M,nx=>k E M nx
 | e,E,M,nx=>Q e E M nx
def aH4 (id:Nat) (Q:Exit->Env->Mem->Nat->Prop):Exit->Env->Mem->Nat->Prop
 | .exit id',E,M,nx=>if id'=id then Q .normal E M nx else Q (.exit id') E M nx
 | e,E,M,nx=>Q e E M nx
def kD (P:Program) (T:Tab) (N:cZ):Code->Env->Mem->Nat->(Exit->Env->Mem->Nat->Prop)->Prop
 | .skip,E,M,nx,Q=>Q .normal E M nx
 | .region id ops false,E,M,nx,Q=>oP P T N ops ops.toList E M nx (Q .normal)
 | .seq x y,E,M,nx,Q=>kD P T N x E M nx (vR (λE M nx=>kD P T N y E M nx Q) Q)
 | .cond c x y,E,M,nx,Q=>
   match ev E c with
   | .r (.v (.bool t))=>if t=true then kD P T N x E M nx Q else kD P T N y E M nx Q
   | .r (.bx φ)=>(φ true->kD P T N x E M nx Q)/\(φ false->kD P T N y E M nx Q)
   | _=>False
 | .block id c,E,M,nx,Q=>kD P T N c E M nx (aH4 id Q)
 | .exit id,E,M,nx,Q=>Q (.exit id) E M nx
 | .ret,E,M,nx,Q=>Q .ret E M nx
 | c,E,M,nx,Q=>GW P N c E M nx Q
theorem GW.mono {P:Program} {N:cZ} {c:Code} {E:Env} {M:Mem} {nx:Nat} {Q Q':Exit->Env->Mem->Nat->Prop} (h:GW P N c E M nx Q) (hq:∀e E M nx,Q e E M nx->Q' e E M nx):GW P N c E M nx Q':=
 λr hr B W w0 σ a w hs=>wpIn_mono (h r hr B W w0 σ a w hs) (λe a' w' ⟨E',M',nx',σ',h1,h2⟩=>⟨E',M',nx',σ',hq _ _ _ _ h1,h2⟩)
theorem dH {P:Program} {T:Tab} {N:cZ} (hT:aX P T):∀(c:Code) (E:Env) (M:Mem) (nx:Nat) (Q:Exit->Env->Mem->Nat->Prop),kD P T N c E M nx Q->GW P N c E M nx Q:=by
 intro c
 induction c with
 | skip=>exact λE M nx Q h r hr B W w0 σ a w hs=>wpIn_skip ⟨E,M,nx,σ,h,hs⟩
 | region id ops draw=>
   intro E M nx Q h r hr B W w0 σ a w hs
   cases draw with
   | false=>exact wpIn_region_list (pN _ _ _ (hr.imp (λh=>h) λh=>by simpa [yR] using h) (kF hT (λE' M' nx' σ' a' w' hk hs'=>⟨E',M',nx',σ',hk,hs'⟩) _ _ _ _ _ _ _ hs h))
   | true=>exact h r hr B W w0 σ a w hs
 | seq x y ihx ihy=>
   intro E M nx Q h r hr B W w0 σ a w hs;have hr1:r=none\/yR x=true:=hr.imp (λh=>h) λh=>by simp[yR] at h;exact h.1
   have hr2:r=none\/yR y=true:=hr.imp (λh=>h) λh=>by simp[yR] at h;exact h.2
   refine wpIn_seq (Code.wpIn_mono (λe a' w' h'=>?_) (ihx _ _ _ _ h r hr1 B W w0 σ a w hs));obtain⟨E',M',nx',σ',h1,h2⟩:=h'
   cases e with
   | normal=>exact ihy _ _ _ _ h1 r hr2 B W w0 σ' a' w' h2
   | _=>exact⟨E',M',nx',σ',h1,h2⟩
 | cond c x y ihx ihy=>
   intro E M nx Q h r hr B W w0 σ a w hs;have hr1:r=none\/yR x=true:=hr.imp (λh=>h) λh=>by simp[yR] at h;exact h.1
   have hr2:r=none\/yR y=true:=hr.imp (λh=>h) λh=>by simp[yR] at h;exact h.2
   have hc:=bA hs.env c;simp only [kD] at h;split at h
   ·rename_i t heq;rw[heq] at hc;refine wpIn_cond (t:=t) hc ?_
    cases t
    ·simp at h;exact ihy _ _ _ _ h r hr2 B W w0 σ a w hs
    ·simp at h;exact ihx _ _ _ _ h r hr1 B W w0 σ a w hs
   ·rename_i φ heq;rw[heq] at hc;obtain⟨t,ht,hc⟩:=hc;refine wpIn_cond (t:=t) hc ?_
    cases t
    ·exact ihy _ _ _ _ (h.2 ht) r hr2 B W w0 σ a w hs
    ·exact ihx _ _ _ _ (h.1 ht) r hr1 B W w0 σ a w hs
   ·exact h.elim
 | block id c ih=>
   intro E M nx Q h r hr B W w0 σ a w hs;refine wpIn_block (Code.wpIn_mono (λe a' w' h'=>?_) (ih _ _ _ _ h r (hr.imp (λh=>h) λh=>by simpa [yR] using h) B W w0 σ a w hs));obtain⟨E',M',nx',σ',h1,h2⟩:=h'
   cases e with
   | exit id'=>
     simp only [aH4] at h1;simp only [Exit.inBlock];split
     ·rename_i he;rw[if_pos he] at h1;exact⟨E',M',nx',σ',h1,h2⟩
     ·rename_i he;rw[if_neg he] at h1;exact⟨E',M',nx',σ',h1,h2⟩
   | _=>exact⟨E',M',nx',σ',h1,h2⟩
 | exit id=>exact λE M nx Q h r hr B W w0 σ a w hs=>wpIn_exit ⟨E,M,nx,σ,h,hs⟩
 | ret=>exact λE M nx Q h r hr B W w0 σ a w hs=>wpIn_ret ⟨E,M,nx,σ,h,hs⟩
 | loop c ih=>exact λE M nx Q h=>h
 | rangeFunc f ps as b ih1 ih2=>exact λE M nx Q h=>h
 | scope c ih=>exact λE M nx Q h=>h
 | label l=>exact λE M nx Q h=>h
 | goto l=>exact λE M nx Q h=>h
 | refuse s=>exact λE M nx Q h=>h
end Go.Gx
namespace Go.Gx
open Go.RowKit
mutual
def SV.trim (n:Nat):SV->SV
 | .r x=>.r x
 | .ptr q row k fld=>if q<n then .ptr q row k fld else .r .any
 | .sl q k lo m c=>if q<n then .sl q k lo m c else .r .any
 | .mp q=>if q<n then .mp q else .r .any
 | .fn f fi ca=>.fn f (SV.trimL n fi) (SV.trimL n ca)
 | .agg l=>.agg (SV.trimL n l)
 | .tup l=>.tup (SV.trimL n l)
def SV.trimL (n:Nat):List SV->List SV
 | []=>[]
 | s::l=>s.trim n::SV.trimL n l
end
def Reg.trim (n:Nat):Reg->Reg
 | .box l=>.box (SV.trimL n l)
 | .vec e k m g=>.vec e k m λi j=>(g i j).trim n
 | .map has val st=>.map has (λa=>(val a).trim n) st
 | .iter m f c all left la=>.iter (m.trim n) f c all left la
def jC (n:Nat) (E:Env):Env:=λt=>(E t).trim n
def cT (n:Nat) (M:Mem):Mem:=λr=>if r<n then (M r).map (Reg.trim n) else none
section
variable {P:Program} {T:Tab} {B W:Nat->Prop} {w0:W0} {N:cZ} {σ σ':Sig} {M:Mem} {nx:Nat} {w w':World} {a:Act} {E:Env}
mutual
theorem SV.rel_trim {n:Nat} {Z Z':Nat->Prop} (hs:∀r L,r<n->σ r=some L->σ' r=some L) (hk:bZ Z Z' w w'):∀(s:SV) (y:Value),s.rel σ Z w y->(s.trim n).rel σ' Z' w' y
 | .r x,y,h=>by
   unfold SV.trim;exact RV.rel_mono hk x y h
 | .ptr q row k fld,y,h=>by
   unfold SV.trim;split
   ·rename_i hr;obtain⟨L,b,h1,h2,h3⟩:=h;exact⟨L,b,hs _ _ hr h1,h2,h3⟩
   ·trivial
 | .sl q k lo m c,y,h=>by
   unfold SV.trim;split
   ·rename_i hr;obtain⟨L,A,h1,h2⟩:=h;exact⟨L,A,hs _ _ hr h1,h2⟩
   ·trivial
 | .mp q,y,h=>by
   unfold SV.trim;split
   ·rename_i hr;obtain⟨L,b,h1,h2,h3⟩:=h;exact⟨L,b,hs _ _ hr h1,h2,h3⟩
   ·trivial
 | .fn f fi ca,y,h=>by
   obtain⟨vs,ws,e,h1,h2⟩:=h;exact⟨vs,ws,e,SV.relL_trim hs hk _ _ h1,SV.relL_trim hs hk _ _ h2⟩
 | .agg l,y,h=>by
   obtain⟨vs,e,h1,h2⟩:=h;exact⟨vs,e,h1,SV.relL_trim hs hk _ _ h2⟩
 | .tup l,y,h=>by
   obtain⟨vs,e,h2⟩:=h;exact⟨vs,e,SV.relL_trim hs hk _ _ h2⟩
theorem SV.relL_trim {n:Nat} {Z Z':Nat->Prop} (hs:∀r L,r<n->σ r=some L->σ' r=some L) (hk:bZ Z Z' w w'):∀(l:List SV) (ys:List Value),SV.relL σ Z w l ys->SV.relL σ' Z' w' (SV.trimL n l) ys
 | [],ys,h=>h
 | s::l,ys,h=>by
   obtain⟨v,vs',e,h1,h2⟩:=h;exact⟨v,vs',e,SV.rel_trim hs hk s v h1,SV.relL_trim hs hk l vs' h2⟩
end
theorem RegOK.trim {n:Nat} {Z Z':Nat->Prop} {L:rY} {R:Reg} (hs:∀r L,r<n->σ r=some L->σ' r=some L) (hk:bZ Z Z' w w) (h:RegOK σ Z w L R):RegOK σ' Z' w L (R.trim n):=by
 cases R with
 | box l=>
   obtain⟨b',cs,ty,h1,h2,h3,h4⟩:=h;exact⟨b',cs,ty,h1,h2,h3,SV.relL_trim hs hk _ _ h4⟩
 | vec e k m g=>
   obtain⟨h0,hm,h | ⟨b',cs,h1,h2,h3,ho,h5⟩⟩:=h
   ·exact⟨h0,hm,.inl h⟩
   ·refine⟨h0,hm,.inr ⟨b',cs,h1,h2,h3,ho,λi j hi hj=>?_⟩⟩;obtain⟨v,hv,ho,hr⟩:=h5 i j hi hj;exact⟨v,hv,ho,SV.rel_trim hs hk _ _ hr⟩
 | map has val st=>
   obtain⟨b',es,ck,h1,h2,h3,h4⟩:=h;exact⟨b',es,ck,h1,h2,h3.mono λa v _ hv=>SV.rel_trim hs hk _ _ hv,h4⟩
 | iter m f c all left la=>
   obtain⟨b',mo,seen,sp,h1,h2,h3,h4,h5⟩:=h;exact⟨b',mo,seen,sp,h1,h2,h3,SV.rel_trim hs hk _ _ h4,h5⟩
theorem MOK.trim {n0:Nat} (hm:MOK B W n0 σ M (eF nx) w) (n:Nat) :
 MOK B W n0 (λr=>if r<n then σ r else none) (cT n M) (eF n) w/\bZ (Zof B σ M w) (Zof B (λr=>if r<n then σ r else none) (cT n M) w) w w/\
 (∀r L,r<n->σ r=some L->(if r<n then σ r else none)=some L):=by
 have hs:∀r L,r<n->σ r=some L->(if r<n then σ r else none)=some L:=λr L hr h=>by rw[if_pos hr];exact h
 have hkm:∀r R',cT n M r=some R'->r<n/\∃R1,M r=some R1/\R'=R1.trim n:=by
  intro r R' h;unfold cT at h;split at h
  ·rename_i hr
   cases hq:M r with
   | none=>rw[hq] at h;cases h
   | some R1=>rw[hq] at h;cases h;exact⟨hr,R1,rfl,rfl⟩
  ·cases h
 have hk:bZ (Zof B σ M w) (Zof B (λr=>if r<n then σ r else none) (cT n M) w) w w:=by
  intro x hx;refine⟨⟨hx.1,λr R' L' h1 h2 h3=>?_⟩,rfl⟩;obtain⟨hr,R1,e1,_⟩:=hkm r R' h1;simp only [hr,if_true] at h2;exact hx.2 r R1 L' e1 h2 h3
 refine⟨⟨hm.newB,λr hr=>if_neg (Nat.not_lt.2 hr),λr R' h=>?_,λr r' R1 R2 L1 L2 x h1 h2 h3 h4 h5 h6=>?_,λr R' L' x h1 h2 h3=>?_⟩,hk,hs⟩
 ·obtain⟨hr,R1,e1,rfl⟩:=hkm r R' h;obtain⟨L',g1,g2⟩:=hm.reg r R1 e1;exact⟨L',hs r L' hr g1,g2.trim hs hk⟩
 ·obtain⟨hr,R3,e1,_⟩:=hkm r R1 h1;obtain⟨hr',R4,e2,_⟩:=hkm r' R2 h2;simp only [hr,hr',if_true] at h3 h4;exact hm.inj r r' R3 R4 L1 L2 x e1 e2 h3 h4 h5 h6
 ·obtain⟨hr,R3,e1,_⟩:=hkm r R' h1;simp only [hr,if_true] at h2;exact hm.own r R3 L' x e1 h2 h3
theorem St.trim (h:St B W w0 N σ E M nx a w) (n:Nat) (hn:N.np<=n):St B W w0 N (λr=>if r<n then σ r else none) (jC n E) (cT n M) n a w:=by
 obtain⟨h1,h2,h3⟩:=h.mem.trim n;exact⟨λt=>SV.rel_trim h3 h2 _ _ (h.env t),h1,h.fr,h.defers.keep h2,h.size,hn,λr hr=>(if_pos (Nat.lt_of_lt_of_le hr hn)).trans (h.pin r hr),h.good⟩
def iP (E:Env):List (Nat × SV)->Env
 | []=>E
 | p::l=>bH (iP E l) p.1 p.2
theorem uU (E:Env):∀l:List (Nat × SV),(∀p∈l,E p.1=p.2)->iP E l=E
 | [],_=>rfl
 | p::l,h=>by
   simp only [iP,uU E l (λq hq=>h q (by simp[hq]))];funext t;by_cases ht:t=p.1
   ·subst ht;rw[aZ];exact(h p τ).symm
   ·rw[aW _ _ ht]
def zN (n:Nat) (E:Env):List (Nat × SV)->Prop
 | []=>True
 | p::l=>(E p.1).trim n=p.2/\zN n E l
theorem aCg {n:Nat} {E:Env}:∀{l:List (Nat × SV)},zN n E l->∀p∈l,jC n E p.1=p.2
 | [],_,p,hp=>by simp at hp
 | q::l,h,p,hp=>by
   simp at hp;rcases hp with rfl | hp
   ·exact h.1
   ·exact aCg h.2 p hp
def aIv:(n:Nat)->Mem->List (Option Reg)->Prop
 | _,_,[]=>True
 | i,M,R::l=>M i=R/\aIv (i+1) M l
def fD (l:List (Option Reg)):Mem:=λr=>(l[r]?).getD none
theorem aB8:∀(l:List (Option Reg)) (i:Nat) (M:Mem),aIv i M l->∀r,r<l.length->M (i+r)=(l[r]?).getD none
 | [],i,M,_,r,hr=>by simp at hr
 | R::l,i,M,h,r,hr=>by
   cases r with
   | zero=>simpa using h.1
   | succ r=>simpa [Nat.add_assoc,Nat.add_comm 1 r] using aB8 l (i+1) M h.2 r (by simpa using hr)
theorem aGv {n:Nat} {l:List (Option Reg)} (hl:l.length=n) (h:aIv 0 (cT n M) l):cT n M=fD l:=by
 funext r;by_cases hr:r<n
 ·simpa [fD] using aB8 l 0 _ h r ω
 ·simp[cT,hr,fD,List.getElem?_eq_none (ω:l.length<=r)]
def Vw (N:cZ) (E:Env) (M:Mem) (nx:Nat) (E1:Env) (M1:Mem) (nx1:Nat):Prop:=
 ∀(B W:Nat->Prop) (w0:W0) (σ:Sig) (a:Act) (w:World),St B W w0 N σ E M nx a w->∃σ1,St B W w0 N σ1 E1 M1 nx1 a w
def Fit (N:cZ) (E:Env) (M:Mem) (nx:Nat) (S:List (Nat × SV)) (M1:Mem) (n:Nat):Prop:=∃J,Vw N E M nx (iP J S) M1 n
theorem Vw.trans {N:cZ} {E1 E2:Env} {M1 M2:Mem} {n1 n2:Nat} (h:Vw N E M nx E1 M1 n1) (k:Vw N E1 M1 n1 E2 M2 n2):Vw N E M nx E2 M2 n2:=λB W w0 σ a w hs=>by
 obtain⟨σ1,h1⟩:=h B W w0 σ a w hs;exact k B W w0 σ1 a w h1
theorem Vw.trim {N:cZ} (n:Nat) (hn:N.np<=n):Vw N E M nx (jC n E) (cT n M) n:=λB W w0 σ a w h=>⟨_,h.trim n hn⟩
theorem Fit.vw {N:cZ} {E1:Env} {M1 M2:Mem} {n1 n2:Nat} {S:List (Nat × SV)} (h:Vw N E M nx E1 M1 n1) (k:Fit N E1 M1 n1 S M2 n2):Fit N E M nx S M2 n2:=by
 obtain⟨J,k1⟩:=k;exact⟨J,h.trans k1⟩
theorem Fit.of_slots {N:cZ} {S:List (Nat × SV)} {M1:Mem} {n:Nat} (hn:N.np<=n) (h:zN n E S) (hM:cT n M=M1):Fit N E M nx S M1 n:=
 ⟨jC n E,by rw[uU _ _ (aCg h),<- hM];exact Vw.trim n hn⟩
theorem aQ5 {α:Type} {body:Code} {Q:Exit->Env->Mem->Nat->Prop} (S:α->List (Nat × SV)) (Ms:α->Mem) (n:Nat) (I:α->Prop) (μ:α->Nat) (x0:α)
 (h0:I x0) (hE:Fit N E M nx (S x0) (Ms x0) n)
 (round:∀x J,I x->GW P N body (iP J (S x)) (Ms x) n (vR (λE' M' nx'=>∃x',I x'/\μ x'<μ x/\Fit N E' M' nx' (S x') (Ms x') n) Q)) :
 GW P N (.loop body) E M nx Q:=by
 intro r hr B W w0 σ a w hs;have conv:∀{E M nx σ a w} (x:α),Fit N E M nx (S x) (Ms x) n->St B W w0 N σ E M nx a w->∃σ' J,St B W w0 N σ' (iP J (S x)) (Ms x) n a w:=by
  intro E M nx σ a w x h1 h3;obtain⟨J,v⟩:=h1;obtain⟨σ1,h4⟩:=v B W w0 σ a w h3;exact⟨_,_,h4⟩
 refine iY (λk a w=>∃x,μ x=k/\I x/\∃σ' J,St B W w0 N σ' (iP J (S x)) (Ms x) n a w) (μ x0) ⟨x0,rfl,h0,conv x0 hE hs⟩ λk a w h=>?_;obtain⟨x,rfl,hi,σ',J,hst⟩:=h;refine Code.wpIn_mono (λe a' w' h'=>?_) (round x J hi r (hr.imp (λh=>h) λh=>by simpa [yR] using h) B W w0 σ' a w hst);obtain⟨E',M',nx',σ'',q,hs'⟩:=h'
 cases e with
 | normal=>
   obtain⟨x',i1,i2,i3⟩:=q;exact⟨μ x',i2,x',rfl,i1,conv x' i3 hs'⟩
 | _=>exact⟨E',M',nx',σ'',q,hs'⟩
def kT (l:List SV):Env:=λt=>(l[t]?).getD (.r .any)
def lH:Mem:=λ_=>none
def nS (T:Tab) (E:Env) (M:Mem):List ResultVar->(List SV->Prop)->Prop
 | [],K=>K []
 | .tmp t::l,K=>nS T E M l λvs=>K (E t::vs)
 | .cell a t::l,K=>
   match oO T t M (E a) with
   | .pure ob s=>ob/\nS T E M l λvs=>K (s::vs)
   | _=>False
def aFn:List SV->SV
 | [s]=>s
 | l=>.tup l
def aFp (T:Tab) (rs:List ResultVar) (K:SV->Mem->Nat->Prop):Exit->Env->Mem->Nat->Prop
 | .ret,E,M,nx=>nS T E M rs λvs=>K (aFn vs) M nx
 | .normal,E,M,nx=>nS T E M rs λvs=>K (aFn vs) M nx
 | _,_,_,_=>False
def mQ (T:Tab) (rs:List ResultVar) (K:SV->Mem->Prop):Exit->Env->Mem->Nat->Prop
 | .ret,E,M,_=>nS T E M rs λvs=>K (aFn vs) M
 | .normal,E,M,_=>nS T E M rs λvs=>K (aFn vs) M
 | _,_,_,_=>False
theorem iA (hT:aX P T) (hm:MOK B W w0.heap.size σ M (eF nx) w) (he:EOK σ (Zof B σ M w) w E a):∀(rs:List ResultVar) (K:List SV->Prop),nS T E M rs K->
 ∃(l:List SV) (vs:List Value),(rs.mapM (fun | .tmp t=>pure (a.tmps.getD t undef) | .cell q t=>do loadVar t (<- asAddr (a.tmps.getD q undef)):ResultVar->Sem Value)).run P w=.ok vs w/\SV.relL σ (Zof B σ M w) w l vs/\K l
 | [],K,h=>⟨[],[],rfl,rfl,h⟩
 | .tmp t::rs,K,h=>by
   obtain⟨l,vs,h1,h2,h3⟩:=iA hT hm he rs _ h;refine⟨E t::l,a.tmps.getD t undef::vs,?_,⟨_,_,rfl,he t,h2⟩,h3⟩;rw[List.mapM_cons,Sem.run_bind,Sem.run_pure,Result.andThen_ok,Sem.run_bind,h1];rfl
 | .cell q t::rs,K,h=>by
   simp only [nS] at h;split at h
   ·rename_i ob s hg;obtain⟨l,vs,h1,h2,h3⟩:=iA hT hm he rs _ h.2;have hs:=aGs (P:=P) (nx:=nx) hT hm t (he q);rw[hg] at hs;obtain⟨y,hy,hrel⟩:=hs h.1;have hy':(Instr.loadAt t (a.tmps.getD q undef)).run P w=.ok y w:=by
     rcases hy with hy | ⟨hy,_⟩
     ·cases hq:(Instr.loadAt t (a.tmps.getD q undef)).run P w with
      | ok v w'=>rw[hq] at hy;cases hy;rfl
      | halt x w'=>rw[hq] at hy;cases hy
     ·cases hq:(Instr.loadAt t (a.tmps.getD q undef)).run P w with
      | ok v w'=>rw[hq] at hy;cases hy
      | halt x w'=>rw[hq] at hy;cases hy
    have hload:(do loadVar t (<- asAddr (a.tmps.getD q undef)):Sem Value).run P w=.ok y w:=by
     rw[<- hy'];unfold Instr.loadAt
     cases hv:a.tmps.getD q undef with
     | pointer p=>cases p with
       | some p=>rfl
       | none=>rw[hv] at hy';simp[Instr.loadAt,Instr.sureAddr] at hy'
     | _=>rw[hv] at hy';simp[Instr.loadAt,Instr.sureAddr] at hy'
    refine⟨s::l,y::vs,?_,⟨_,_,rfl,hrel,h2⟩,h3⟩;rw[List.mapM_cons,Sem.run_bind,hload,Result.andThen_ok,Sem.run_bind,h1];rfl
   ·exact h.elim
theorem vJ (hT:aX P T) {fn:Func} {K:SV->Prop} (hm:MOK B W w0.heap.size σ M (eF nx) w) (he:EOK σ (Zof B σ M w) w E a) (h:nS T E M fn.results.toList λvs=>K (aFn vs)) :
 ∃s y,(results fn a.tmps).run P w=.ok y w/\s.rel σ (Zof B σ M w) w y/\K s:=by
 obtain⟨l,vs,h1,h2,h3⟩:=iA hT hm he _ _ h;unfold results;rw[Sem.run_bind,Array.mapM_eq_mapM_toList,Sem.run_map]
 erw [h1]
 simp only [Result.andThen_ok,Sem.run_pure]
 match l,vs,h2,h3 with
 | [s],vs,h2,h3=>
   obtain⟨v,vs',rfl,g1,g2⟩:=h2
   cases g2
   exact⟨s,v,τ,g1,h3⟩
 | [],vs,h2,h3=>
   cases h2
   exact⟨.tup [],.tuple #[],τ,⟨[],rfl,rfl⟩,h3⟩
 | s::s'::l,vs,h2,h3=>
   have hlen:=SV.relL_length h2;refine⟨.tup (s::s'::l),.tuple vs.toArray,?_,⟨vs,rfl,h2⟩,h3⟩;simp at hlen;rw[dif_neg ι]
theorem aFf {Z:Nat->Prop} {l:List SV} {vs:List Value} (h:SV.relL σ Z w l vs) (m:Nat) (t:Nat):(kT l t).rel σ Z w ((vs.toArray++Array.replicate m undef).getD t undef):=by
 unfold kT
 cases hl:l[t]? with
 | none=>trivial
 | some s=>
   obtain⟨y,h1,h2⟩:=SV.relL_get h t s hl;have ht:t<vs.length:=by
    rcases Nat.lt_or_ge t vs.length with h | h
    ·exact h
    ·rw[List.getElem?_eq_none h] at h1;cases h1
   have:(vs.toArray++Array.replicate m undef).getD t undef=y:=by
    have h3:=List.getElem?_eq_getElem ht;rw[h1] at h3;simp[Array.getElem?_append,ht,<- Option.some.inj h3]
   rw[this];exact h2
def qJ (o:Option Obj):Prop:=∃o',o=some o'/\match o' with | .deferred _ | .loop _=>True | _=>False
structure Turn (n0:Nat) (w w':World):Prop where
 os:w'.os=w.os
 tape:w'.tape=w.tape
 output:w'.output=w.output
 drawn:w.drawn<=w'.drawn
 size:w'.heap.size=w.heap.size
 block:∀b,w'.heap[b]? =w.heap[b]?\/(n0<=b/\qJ w.heap[b]?/\qJ w'.heap[b]?)
theorem Turn.refl (n0:Nat) (w:World):Turn n0 w w:=⟨rfl,rfl,rfl,Nat.le_refl _,rfl,λ_=>.inl rfl⟩
theorem Turn.trans {n0:Nat} {a b c:World} (h:Turn n0 a b) (k:Turn n0 b c):Turn n0 a c:=
 ⟨k.os.trans h.os,k.tape.trans h.tape,k.output.trans h.output,Nat.le_trans h.drawn k.drawn,k.size.trans h.size,λx=>by
   rcases h.block x with h1 | ⟨h0,h1,h2⟩ <;> rcases k.block x with k1 | ⟨k0,k1,k2⟩
   ·exact .inl (k1.trans h1)
   ·exact .inr ⟨k0,h1▸k1,k2⟩
   ·exact .inr ⟨h0,h1,k1▸h2⟩
   ·exact .inr ⟨h0,h1,k2⟩⟩
theorem Turn.putObj {n0:Nat} {w:World} {b:Nat} {o o':Obj} (hb:n0<=b) (h:w.heap[b]? =some o) (ho:qJ (some o)) (ho':qJ (some o')):Turn n0 w (w.putObj b o'):=by
 refine⟨rfl,rfl,rfl,Nat.le_refl _,τ,λx=>?_⟩;by_cases hx:x=b
 ·subst hx;exact .inr ⟨hb,h▸ho,by rw[World.putObj_heap_same (fC h)];exact ho'⟩
 ·exact .inl (World.putObj_heap_other hx)
theorem Turn.same {n0:Nat} {w w':World} (h:Turn n0 w w') {b:Nat} {o:Obj} (hb:w.heap[b]? =some o) (ho:¬qJ (some o)):w'.heap[b]? =some o:=by
 rcases h.block b with h1 | ⟨_,h1,_⟩
 ·rw[h1,hb]
 ·exact absurd (hb▸h1) ho
theorem Turn.cell {n0:Nat} {w w':World} (h:Turn n0 w w') (b o:Nat):w'.cell? ⟨b,o,none⟩=w.cell? ⟨b,o,none⟩:=by
 rcases h.block b with h1 | ⟨_,⟨o1,h1,k1⟩,⟨o2,h2,k2⟩⟩
 ·exact cell?_of_heap h1 o
 ·simp only [World.cell?,h1,h2]
  cases o1 <;> cases o2 <;> simp_all
theorem eR {c:Array Value} {t:TypeId} {e:Nat × Nat}:¬qJ (some (.cells c t e)):=by rintro⟨o,h,k⟩;cases h;exact k
theorem Turn.dr {uu:Bool} {n0:Nat} {w w':World} (h:Turn n0 w w'):Dr uu w w':=⟨h.drawn,λb _ hb c t fr hc=>by
 rcases h.block b with h1 | ⟨_,_,h1⟩
 ·exact hb c t fr (h1▸hc)
 ·rw[hc] at h1;exact absurd h1 eR⟩
theorem lK {c:Array MapEntry} {n:Nat}:¬qJ (some (.map c n)):=by rintro⟨o,h,k⟩;cases h;exact k
theorem oW {a:Option Nat} {b:Nat} {c:Array Nat} {d:Nat}:¬qJ (some (.mapIter a b c d)):=by rintro⟨o,h,k⟩;cases h;exact k
theorem RV.rel_turn {n0:Nat} {Z Z':Nat->Prop} {w w':World} (hz:∀b,Z b->Z' b) (ht:Turn n0 w w'):∀(s:RV) (y:Value),s.rel Z w y->s.rel Z' w' y
 | .any,_,_=>trivial
 | .v x,_,h=>h
 | .bx _,_,h=>h
 | .rs k n get,y,h=>by
   obtain⟨A,c,e,hc,hn⟩:=h;refine⟨A,c,e,hc,λh0=>?_⟩;obtain⟨b,o,ha,hb,hg⟩:=hn h0;refine⟨b,o,ha,hz b hb,λi j hi hj=>?_⟩;obtain⟨v,h1,h2,h3⟩:=hg i j hi hj;exact⟨v,by rw[ht.cell];exact h1,h2,RV.rel_turn hz ht _ _ h3⟩
 | .rf k n get,y,h=>by
   obtain⟨A,e,hn⟩:=h;refine⟨A,e,λh0=>?_⟩;obtain⟨b,o,ha,hb,hg⟩:=hn h0;refine⟨b,o,ha,hz b hb,λi j hi hj=>?_⟩;obtain⟨v,h1,h2,h3⟩:=hg i j hi hj;exact⟨v,by rw[ht.cell];exact h1,h2,RV.rel_turn hz ht _ _ h3⟩
 | .rp k n get row fld,y,h=>by
   obtain⟨b,o,ha,hb,hg⟩:=h;refine⟨b,o,ha,hz b hb,λi j hi hj=>?_⟩;obtain⟨v,h1,h2,h3⟩:=hg i j hi hj;exact⟨v,by rw[ht.cell];exact h1,h2,RV.rel_turn hz ht _ _ h3⟩
 | .fn f nf nc fi ca,y,h=>by
   obtain⟨vs,ws,e,h1,h2,h3,h4⟩:=h;exact⟨vs,ws,e,h1,h2,λi v hv=>RV.rel_turn hz ht _ _ (h3 i v hv),λi v hv=>RV.rel_turn hz ht _ _ (h4 i v hv)⟩
 | .mp has val,y,h=>by
   obtain⟨b,es,ck,e,hb,hh,hm⟩:=h;exact⟨b,es,ck,e,hz b hb,ht.same hh lK,hm.mono λa v _ hv=>RV.rel_turn hz ht _ _ hv⟩
 | .tg h m x,y,hx=>RV.rel_turn (λb hb=>⟨hz b hb.1,(ht.dr (uu:=true)).tgc hb.2 (.inl rfl)⟩) ht x y hx
mutual
theorem SV.rel_turn {n0:Nat} {Z Z':Nat->Prop} (hz:∀b,Z b->Z' b) (ht:Turn n0 w w'):∀(s:SV) (y:Value),s.rel σ Z w y->s.rel σ Z' w' y
 | .r x,y,h=>RV.rel_turn hz ht x y h
 | .ptr ..,y,h=>h
 | .sl ..,y,h=>h
 | .mp ..,y,h=>h
 | .fn f fi ca,y,h=>by
   obtain⟨vs,ws,e,h1,h2⟩:=h;exact⟨vs,ws,e,SV.relL_turn hz ht _ _ h1,SV.relL_turn hz ht _ _ h2⟩
 | .agg l,y,h=>by
   obtain⟨vs,e,h1,h2⟩:=h;exact⟨vs,e,h1,SV.relL_turn hz ht _ _ h2⟩
 | .tup l,y,h=>by
   obtain⟨vs,e,h2⟩:=h;exact⟨vs,e,SV.relL_turn hz ht _ _ h2⟩
theorem SV.relL_turn {n0:Nat} {Z Z':Nat->Prop} (hz:∀b,Z b->Z' b) (ht:Turn n0 w w'):∀(l:List SV) (ys:List Value),SV.relL σ Z w l ys->SV.relL σ Z' w' l ys
 | [],ys,h=>h
 | s::l,ys,h=>by
   obtain⟨v,vs',e,h1,h2⟩:=h;exact⟨v,vs',e,SV.rel_turn hz ht s v h1,SV.relL_turn hz ht l vs' h2⟩
end
theorem RegOK.turn {n0:Nat} {Z Z':Nat->Prop} (hz:∀b,Z b->Z' b) (ht:Turn n0 w w') {L:rY} {R:Reg} (h:RegOK σ Z w L R):RegOK σ Z' w' L R:=by
 cases R with
 | box l=>
   obtain⟨b,cs,ty,h1,h2,h3,h4⟩:=h;exact⟨b,cs,ty,h1,ht.same h2 eR,h3,SV.relL_turn hz ht _ _ h4⟩
 | vec e k n get=>
   obtain⟨h1,h2,h3 | ⟨b,cs,h4,h5,h6,h7,h8⟩⟩:=h
   ·exact⟨h1,h2,.inl h3⟩
   ·refine⟨h1,h2,.inr ⟨b,cs,h4,ht.same h5 eR,h6,h7,λi j hi hj=>?_⟩⟩;obtain⟨v,g1,g2,g3⟩:=h8 i j hi hj;exact⟨v,g1,g2,SV.rel_turn hz ht _ _ g3⟩
 | map has val st=>
   obtain⟨b,es,ck,h1,h2,h3,h4⟩:=h;exact⟨b,es,ck,h1,ht.same h2 lK,h3.mono λa v _ hv=>SV.rel_turn hz ht _ _ hv,h4⟩
 | iter m f c all left la=>
   obtain⟨b,mo,seen,stepped,h1,h2,h3,h4,h5,h6⟩:=h;exact⟨b,mo,seen,stepped,h1,ht.same h2 oW,h3,SV.rel_turn hz ht _ _ h4,h5,h6⟩
theorem Zof.turn {n0:Nat} (ht:Turn n0 w w') (b:Nat) (h:Zof B σ M w b):Zof B σ M w' b:=⟨⟨by rw[ht.size];exact h.1.1,h.1.2⟩,h.2⟩
theorem MOK.turn {n0 n1:Nat} {F:Nat->Prop} (h:MOK B W n1 σ M F w) (ht:Turn n0 w w'):MOK B W n1 σ M F w':=
 ⟨h.newB,h.fresh,λr R hr=>let ⟨L,h1,h2⟩:=h.reg r R hr;⟨L,h1,h2.turn (Zof.turn ht) ht⟩,h.inj,h.own⟩
theorem EOK.turn {n0:Nat} (h:EOK σ (Zof B σ M w) w E a) (ht:Turn n0 w w'):EOK σ (Zof B σ M w') w' E a:=λt=>SV.rel_turn (Zof.turn ht) ht _ _ (h t)
theorem Fr.turn {uu:Bool} (h:Fr uu W w0 w) (ht:Turn w0.heap.size w w'):Fr uu W w0 w':=
 ⟨ht.os.trans h.os,ht.tape.trans h.tape,ht.output.trans h.output,by rw[ht.size];exact h.size,h.drawn.trans ht.dr h.size,λb hb hw=>by
   rcases ht.block b with h1 | ⟨h1,_⟩
   ·rw[h1];exact h.block b hb hw
   ·exact absurd h1 (Nat.not_le.2 hb)⟩
theorem aDq {fn:Func} {tmps:Array Value} {R:Ending->World->Prop} {n0:Nat}:∀(l:List Nat) (w:World),l.Nodup->(∀D∈l,n0<=D/\w.heap[D]? =some (.deferred (some [])))->
 (∀w',Turn n0 w w'->∃v,(results fn tmps).run P w'=.ok v w'/\R (.returned v) w')->LeavesInM Fence.wide 0 P fn tmps R (l.map λD=>({target:=.collected D,args:=#[]}:Deferred)) .returning w
 | [],w,_,_,h=>h w (Turn.refl _ w)
 | D::l,w,hn,hD,h=>by
   have h1:=hD D τ;have ht:Turn n0 w (w.putObj D (.deferred none)):=Turn.putObj h1.1 h1.2 ⟨_,rfl,trivial⟩ ⟨_,rfl,trivial⟩;refine⟨τ,.inl ⟨D,_,rfl,run_takeDeferred h1.2,aDq l _ (List.nodup_cons.1 hn).2 (λD' hD'=>?_) λw' hw'=>h w' (ht.trans hw')⟩⟩;have h2:=hD D' (by simp[hD']);refine⟨h2.1,?_⟩;have hne:D'≠D:=λe=>(List.nodup_cons.1 hn).1 (by rw[<- e];exact hD');rw[World.putObj_heap_other hne];exact h2.2
theorem eQ (hT:aX P T) {f:FuncId} {fn:Func} {c:Code} (hf:P.funcs[f]? =some fn) (hb:fn.body=some c) {args:List SV} {vs:List Value} (hlen:args.length<=fn.ntmps) {K:SV->Mem->Nat->Prop} {np:Nat} (hnp:np<=nx)
 {good:Gd} (hgood:good.p B W ⟨w,σ⟩)
 (hm:MOK B W w.heap.size σ M (eF nx) w) (ha:SV.relL σ (Zof B σ M w) w args vs) (h:kD P T ⟨fn.ntmps,np,good⟩ c (kT args) M nx (aFp T fn.results.toList K)) :
 Calls P f vs.toArray w λe w'=>∃s y σ' M' nx',e=.returned y/\K s M' nx'/\s.rel σ' (Zof B σ' M' w') w' y/\MOK B W w.heap.size σ' M' (eF nx') w'/\Fr good.u W w w'/\np<=nx'/\∀r,r<np->σ' r=σ r:=by
 have hl:=SV.relL_length ha;refine(callsIn_wide (n:=0)).1 (callsIn_of_wp_marks hf hb trivial (Code.wpIn_mono (λe a' w' h'=>?_) (dH hT c _ _ _ _ h none (.inl rfl) B W ⟨w,σ⟩ σ _ w ⟨λt=>aFf ha _ t,hm,Fr.refl W w,Marks.nil _ _ _ _,ι,hnp,λ_ _=>rfl,hgood⟩)));obtain⟨E',M',nx',σ',q,hs⟩:=h';have fin:∀h:nS T E' M' fn.results.toList (λvs=>K (aFn vs) M' nx'),LeavesInM Fence.wide 0 P fn a'.tmps (λe w'=>∃s y σ' M' nx',e=.returned y/\K s M' nx'/\s.rel σ' (Zof B σ' M' w') w' y/\MOK B W w.heap.size σ' M' (eF nx') w'/\Fr good.u W w w'/\np<=nx'/\∀r,r<np->σ' r=σ r) a'.defers .returning w':=by
  intro h;obtain⟨_,l,d1,d2,d3⟩:=hs.defers;rw[d1];refine aDq (n0:=w.heap.size) l w' d2 (λD hD=>⟨(d3 D hD).1,(d3 D hD).2.2⟩) λw'' ht=>?_;have hm2:=hs.mem.turn ht;obtain⟨s,y,h1,h2,h3⟩:=vJ (w0:=⟨w,σ⟩) hT (K:=λs=>K s M' nx') hm2 (hs.env.turn ht) h;exact⟨y,h1,s,y,σ',M',nx',rfl,h3,h2,hm2,hs.fr.turn ht,hs.low,hs.pin⟩
 cases e with
 | ret=>exact fin q
 | normal=>exact fin q
 | _=>exact q.elim
theorem sQ (T:Tab) (rs:List ResultVar) (K:SV->Mem->Prop):mQ T rs K=aFp T rs λs M _=>K s M:=by
 funext e E M nx
 cases e <;> rfl
theorem gA (hT:aX P T) {f:FuncId} {fn:Func} {c:Code} (hf:P.funcs[f]? =some fn) (hb:fn.body=some c) {args:List SV} {vs:List Value} (hlen:args.length<=fn.ntmps) {K:SV->Mem->Prop} {np:Nat} (hnp:np<=nx)
 (hm:MOK B W w.heap.size σ M (eF nx) w) (ha:SV.relL σ (Zof B σ M w) w args vs) (h:kD P T ⟨fn.ntmps,np,gG⟩ c (kT args) M nx (mQ T fn.results.toList K)) :
 Calls P f vs.toArray w λe w'=>∃s y σ' M' nx',e=.returned y/\K s M'/\s.rel σ' (Zof B σ' M' w') w' y/\MOK B W w.heap.size σ' M' (eF nx') w'/\Fr true W w w'/\∀r,r<np->σ' r=σ r:=by
 rw[sQ] at h;exact(eQ hT hf hb hlen hnp (good:=gG) trivial hm ha h).mono λe w' ⟨s,y,σ',M',nx',h1,h2,h3,h4,h5,_,h6⟩=>⟨s,y,σ',M',nx',h1,h2,h3,h4,h5,h6⟩
def aU (M:Mem):Nat->SV->RV
 | _,.r x=>x
 | d+1,.ptr ref row k fld=>
   match M ref with
   | some (.vec e k' n g)=>if k'=k then .rp k' n (λi j=>aU M d (g i j)) row fld else .any
   | some (.box l)=>.rp l.length 1 (λ_ j=>aU M d (l.getD j (.r .any))) 0 (row*k+fld)
   | _=>.any
 | d+1,.sl ref k lo n c=>
   match M ref with
   | some (.vec e k' N g)=>if k'=k/\lo+n<=N then .rs k n (λi j=>aU M d (g (lo+i) j)) else .any
   | _=>.any
 | d+1,.mp ref=>
   match M ref with
   | some (.map has val st)=>.mp has λa=>aU M d (val a)
   | _=>.any
 | d+1,.fn f fi ca=>.fn f fi.length ca.length (λi=>aU M d (fi.getD i (.r .any))) (λi=>aU M d (ca.getD i (.r .any)))
 | _,_=>.any
mutual
def fU (M:Mem):SV->(SV->Prop)->Prop
 | .r x,K=>K (.r x)
 | .ptr ref row k fld,K=>
   match M ref with
   | some (.vec e k' n g)=>k'=k/\K (.r (.rp k' n (λi j=>aU M 3 (g i j)) row fld))
   | some (.box l)=>K (.r (.rp l.length 1 (λ_ j=>aU M 3 (l.getD j (.r .any))) 0 (row*k+fld)))
   | _=>False
 | .sl ref k lo n c,K=>
   match M ref with
   | some (.vec e k' N g)=>(k'=k/\lo+n<=N)/\K (.r (.rs k n λi j=>aU M 3 (g (lo+i) j)))
   | _=>False
 | .mp ref,K=>
   match M ref with
   | some (.map has val st)=>K (.r (.mp has λa=>aU M 3 (val a)))
   | _=>False
 | .fn f fi ca,K=>fK M fi λfi'=>fK M ca λca'=>K (.fn f fi' ca')
 | .agg l,K=>fK M l λl'=>K (.agg l')
 | .tup l,K=>fK M l λl'=>K (.tup l')
def fK (M:Mem):List SV->(List SV->Prop)->Prop
 | [],K=>K []
 | s::l,K=>fU M s λs'=>fK M l λl'=>K (s'::l')
end
theorem zZ {F:Nat->Prop} {n0:Nat} {Z':Nat->Prop} (hm:MOK B W n0 σ M F w) {d:Nat}
 (hv:∀(s:SV) (y:Value),s.rel σ (Zof B σ M w) w y->(aU M d s).rel Z' w y) {ref:Nat} {e k n:Nat} {g:Nat->Nat->SV} (hM:M ref=some (.vec e k n g)) {L:rY} (h1:σ ref=some L) {b:Nat} (h2:L.at_=some b) :
 ∀i j,i<n->j<k->∃v,w.cell? ⟨b,i*k+j,none⟩=some v/\v.oneCell'=true/\(aU M d (g i j)).rel Z' w v:=by
 intro i j hi hj;obtain⟨L',e1,e2⟩:=hm.reg ref _ hM;rw[h1] at e1;cases e1;obtain⟨f0,fm,f | ⟨b',cs,f1,f2,f3,fo,f5⟩⟩:=e2
 ·rw[h2] at f;cases f.1
 rw[h2] at f1;cases f1;obtain⟨v,v1,v0,v2⟩:=f5 i j hi hj;exact⟨v,by simp[World.cell?,f2,v1],v0,hv _ _ v2⟩
theorem aG0 {F:Nat->Prop} {n0:Nat} {Z':Nat->Prop} (hm:MOK B W n0 σ M F w) {d:Nat}
 (hv:∀(s:SV) (y:Value),s.rel σ (Zof B σ M w) w y->(aU M d s).rel Z' w y) {ref:Nat} {l:List SV} (hM:M ref=some (.box l)) {L:rY} (h1:σ ref=some L) {b:Nat} (h2:L.at_=some b) :
 ∀i j,i<1->j<l.length->∃v,w.cell? ⟨b,0+(i*l.length+j),none⟩=some v/\v.oneCell'=true/\(aU M d (l.getD j (.r .any))).rel Z' w v:=by
 intro i j hi hj;have hi0:i=0:=ω;subst hi0;obtain⟨L',e1,e2⟩:=hm.reg ref _ hM;rw[h1] at e1;cases e1;obtain⟨b',cs,ty,f1,f2,f3,f4⟩:=e2;rw[h2] at f1;cases f1;obtain⟨v,v1,v2⟩:=SV.relL_get f4 j l[j] (List.getElem?_eq_getElem hj);refine⟨v,by simp[World.cell?,f2,v1],f3 v (List.mem_of_getElem? v1),?_⟩;rw[List.getD,List.getElem?_eq_getElem hj];exact hv _ _ v2
theorem aG1 {F:Nat->Prop} {n0:Nat} {Z':Nat->Prop} (hm:MOK B W n0 σ M F w) (ho:∀r R L b,M r=some R->σ r=some L->L.at_=some b->Z' b) {d:Nat}
 (hv:∀(s:SV) (y:Value),s.rel σ (Zof B σ M w) w y->(aU M d s).rel Z' w y) {ref:Nat} {has:Int->Bool} {val:Int->SV} {st:Option ((Int->Nat) × Nat)} (hM:M ref=some (.map has val st)) {y:Value} (h:(SV.mp ref).rel σ (Zof B σ M w) w y) :
 (RV.mp has λa=>aU M d (val a)).rel Z' w y:=by
 obtain⟨L,b,h1,h2,rfl⟩:=h;obtain⟨L',e1,b',es,ck,f1,f2,f3,f4⟩:=hm.reg ref _ hM;rw[h1] at e1;cases e1;rw[h2] at f1;cases f1;exact⟨b,es,ck,rfl,ho ref _ L b hM h1 h2,f2,f3.mono λa v _ h=>hv _ _ h⟩
theorem aLj {F:Nat->Prop} {n0:Nat} {Z':Nat->Prop} (hm:MOK B W n0 σ M F w) (ho:∀r R L b,M r=some R->σ r=some L->L.at_=some b->Z' b) {d:Nat}
 (hv:∀(s:SV) (y:Value),s.rel σ (Zof B σ M w) w y->(aU M d s).rel Z' w y) {ref:Nat} {e k N lo n:Nat} {c:Option Nat} {g:Nat->Nat->SV} (hM:M ref=some (.vec e k N g)) (hle:lo+n<=N) {y:Value} (h:(SV.sl ref k lo n c).rel σ (Zof B σ M w) w y) :
 (RV.rs k n λi j=>aU M d (g (lo+i) j)).rel Z' w y:=by
 obtain⟨L,A,g1,rfl,g2,g3,g4,g5⟩:=h;refine⟨A,_,rfl,g2,λh0=>?_⟩;obtain⟨b,q1,rfl⟩:=g4 ω;refine⟨b,lo*k,rfl,ho ref _ L b hM g1 q1,λi j hi hj=>?_⟩;obtain⟨v,v1,v2⟩:=zZ hm hv hM g1 q1 (lo+i) j ω hj;refine⟨v,?_,v2⟩;rw[<- v1,Nat.add_mul,Nat.add_assoc]
theorem nO {F:Nat->Prop} {n0:Nat} {Z':Nat->Prop} (hm:MOK B W n0 σ M F w) (hz:∀b,Zof B σ M w b->Z' b) (ho:∀r R L b,M r=some R->σ r=some L->L.at_=some b->Z' b) :
 ∀(d:Nat) (s:SV) (y:Value),s.rel σ (Zof B σ M w) w y->(aU M d s).rel Z' w y:=by
 intro d
 induction d with
 | zero=>
   intro s y h
   cases s with
   | r x=>exact RV.rel_mono (λb hb=>⟨hz b hb,rfl⟩) x y h
   | _=>trivial
 | succ d ih=>
   intro s y h
   cases s with
   | r x=>exact RV.rel_mono (λb hb=>⟨hz b hb,rfl⟩) x y h
   | ptr ref row k fld=>
     obtain⟨L,b,h1,h2,rfl⟩:=h;unfold aU;split
     ·rename_i e k' n g hM;split
      ·rename_i hk;subst hk;refine⟨b,0,τ,ho ref _ L b hM h1 h2,λi j hi hj=>?_⟩;simpa using zZ hm ih hM h1 h2 i j hi hj
      ·trivial
     ·rename_i l hM;exact⟨b,0,τ,ho ref _ L b hM h1 h2,aG0 hm ih hM h1 h2⟩
     ·trivial
   | sl ref k lo n c=>
     unfold aU;split
     ·rename_i e k' N g hM;split
      ·rename_i hk;obtain⟨rfl,hle⟩:=hk;exact aLj hm ho ih hM hle h
      ·trivial
     ·trivial
   | mp ref=>
     unfold aU;split
     ·rename_i has val st hM;exact aG1 hm ho ih hM h
     ·trivial
   | fn f fi ca=>
     obtain⟨vs,ws,rfl,h1,h2⟩:=h;have key:∀(l:List SV) (xs:List Value),SV.relL σ (Zof B σ M w) w l xs->∀i v,xs[i]? =some v->(aU M d (l.getD i (.r .any))).rel Z' w v:=by
      intro l xs hl i v hv;obtain⟨s,e1,e2⟩:=lY hl i v hv;rw[List.getD,e1];exact ih s v e2
     exact⟨vs,ws,rfl,SV.relL_length h1,SV.relL_length h2,key fi vs h1,key ca ws h2⟩
   | agg l=>trivial
   | tup l=>trivial
mutual
theorem yJ {F:Nat->Prop} {n0:Nat} {Z':Nat->Prop} (hm:MOK B W n0 σ M F w) (hz:∀b,Zof B σ M w b->Z' b) (ho:∀r R L b,M r=some R->σ r=some L->L.at_=some b->Z' b) :
 ∀(s:SV) (K:SV->Prop) (y:Value),fU M s K->s.rel σ (Zof B σ M w) w y->∃s',K s'/\s'.rel (λ_=>none) Z' w y
 | .r x,K,y,h,hr=>⟨.r x,h,RV.rel_mono (λb hb=>⟨hz b hb,rfl⟩) x y hr⟩
 | .ptr ref row k fld,K,y,h,hr=>by
   obtain⟨L,b,h1,h2,rfl⟩:=hr;unfold fU at h;split at h
   ·rename_i e k' n g hM;obtain⟨rfl,h⟩:=h;refine⟨_,h,b,0,τ,ho ref _ L b hM h1 h2,λi j hi hj=>?_⟩;simpa using zZ hm (nO hm hz ho 3) hM h1 h2 i j hi hj
   ·rename_i l hM;exact⟨_,h,b,0,τ,ho ref _ L b hM h1 h2,aG0 hm (nO hm hz ho 3) hM h1 h2⟩
   ·exact h.elim
 | .sl ref k lo n c,K,y,h,hr=>by
   unfold fU at h;split at h
   ·rename_i e k' N g hM;obtain⟨⟨rfl,hle⟩,h⟩:=h;exact⟨_,h,aLj hm ho (nO hm hz ho 3) hM hle hr⟩
   ·exact h.elim
 | .mp ref,K,y,h,hr=>by
   unfold fU at h;split at h
   ·rename_i has val st hM;exact⟨_,h,aG1 hm ho (nO hm hz ho 3) hM hr⟩
   ·exact h.elim
 | .fn f fi ca,K,y,h,hr=>by
   obtain⟨vs,ws,e,h1,h2⟩:=hr;obtain⟨fi',k1,r1⟩:=eZ hm hz ho fi _ vs h h1;obtain⟨ca',k2,r2⟩:=eZ hm hz ho ca _ ws k1 h2;exact⟨_,k2,vs,ws,e,r1,r2⟩
 | .agg l,K,y,h,hr=>by
   obtain⟨vs,e,h1,h2⟩:=hr;obtain⟨l',k1,r1⟩:=eZ hm hz ho l _ vs h h2;exact⟨_,k1,vs,e,h1,r1⟩
 | .tup l,K,y,h,hr=>by
   obtain⟨vs,e,h2⟩:=hr;obtain⟨l',k1,r1⟩:=eZ hm hz ho l _ vs h h2;exact⟨_,k1,vs,e,r1⟩
theorem eZ {F:Nat->Prop} {n0:Nat} {Z':Nat->Prop} (hm:MOK B W n0 σ M F w) (hz:∀b,Zof B σ M w b->Z' b) (ho:∀r R L b,M r=some R->σ r=some L->L.at_=some b->Z' b) :
 ∀(l:List SV) (K:List SV->Prop) (ys:List Value),fK M l K->SV.relL σ (Zof B σ M w) w l ys->∃l',K l'/\SV.relL (λ_=>none) Z' w l' ys
 | [],K,ys,h,hr=>⟨[],h,hr⟩
 | s::l,K,ys,h,hr=>by
   obtain⟨v,vs',rfl,h1,h2⟩:=hr;obtain⟨s',k1,r1⟩:=yJ hm hz ho s _ v h h1;obtain⟨l',k2,r2⟩:=eZ hm hz ho l _ vs' k1 h2;exact⟨_,k2,v,vs',rfl,r1,r2⟩
end
theorem lT {n0:Nat} {Z':Nat->Prop} (hm:MOK B W n0 σ M (eF nx) w) (hz:∀b,Zof B σ M w b->Z' b) (ho:∀r R L b,M r=some R->σ r=some L->L.at_=some b->Z' b) (s:SV) (K:SV->Prop) (y:Value) (h:fU M s K) (hr:s.rel σ (Zof B σ M w) w y):∃s',K s'/\s'.rel (λ_=>none) Z' w y:=yJ hm hz ho s K y h hr
theorem aH7 {n0:Nat} {Z':Nat->Prop} (hm:MOK B W n0 σ M (eF nx) w) (hz:∀b,Zof B σ M w b->Z' b) (ho:∀r R L b,M r=some R->σ r=some L->L.at_=some b->Z' b) (l:List SV) (K:List SV->Prop) (ys:List Value) (h:fK M l K) (hr:SV.relL σ (Zof B σ M w) w l ys):∃l',K l'/\SV.relL (λ_=>none) Z' w l' ys:=eZ hm hz ho l K ys h hr
def Pure (P:Program) (f:FuncId) (args:List SV) (φ:SV->Prop):Prop:=
 ∀(Z:Nat->Prop) (w:World) (vs:List Value),(∀b,Z b->b<w.heap.size)->SV.relL (λ_=>none) Z w args vs->
  (callFunc f vs.toArray).run P w=.ok (.enter f vs.toArray) w/\
  Calls P f vs.toArray w λe w'=>∃y s,e=.returned y/\φ s/\s.rel (λ_=>none) (λb=>Z b\/(w.heap.size<=b/\b<w'.heap.size)) w' y/\FrS true (λ_=>False) w.heap.size w w'
theorem fB {f:FuncId} {fn:Func} {c:Code} (hf:P.funcs[f]? =some fn) (hb:fn.body=some c) (hn:(fn.name== "runtime.NumGoroutine")=false) (vs:Array Value):(callFunc f vs).run P w=.ok (.enter f vs) w:=by
 have hn':¬fn.name= "runtime.NumGoroutine":=by simpa using hn
 simp[callFunc,hf,hb,hn']
theorem aAu (hT:aX P T) {f:FuncId} {fn:Func} {c:Code} (hf:P.funcs[f]? =some fn) (hb:fn.body=some c) (hn:(fn.name== "runtime.NumGoroutine")=false) {args:List SV} (hlen:args.length<=fn.ntmps) {φ:SV->Prop}
 (h:kD P T ⟨fn.ntmps,0,gG⟩ c (kT args) lH 0 (mQ T fn.results.toList λs M=>fU M s φ)):Pure P f args φ:=by
 intro Z w vs hZ ha;refine⟨fB hf hb hn _,?_⟩;have hm:MOK (λb=>Z b\/w.heap.size<=b) (λ_=>False) w.heap.size (λ_=>none) lH (eF 0) w:=
  ⟨λb hb=>.inr (hb.elim id False.elim),λ_ _=>rfl,λr R h=>(by cases h),λr r' R R' L L' b h=>(by cases h),λr R L b h=>(by cases h)⟩
 have hk:bZ Z (Zof (λb=>Z b\/w.heap.size<=b) (λ_=>none) lH w) w w:=λb hb=>⟨⟨⟨hZ b hb,.inl hb⟩,λr R L h=>(by cases h)⟩,rfl⟩;refine(gA hT hf hb hlen (Nat.le_refl 0) hm (SV.relL_mono (λ_ _ h=>h) hk _ _ ha) h).mono λe w' h'=>?_;obtain⟨s,y,σ',M',nx',rfl,hK,hrel,hm',hfr,_⟩:=h';obtain⟨s',k1,r1⟩:=lT (Z':=λb=>Z b\/(w.heap.size<=b/\b<w'.heap.size)) hm' (λb hb=>hb.1.2.imp id λh=>⟨h,hb.1.1⟩) (λr R L b h1 h2 h3=>.inr (by
  obtain⟨L',e1,e2⟩:=hm'.reg r R h1;rw[h2] at e1;cases e1;refine⟨?_,e2.block h3⟩;rcases hm'.own r R L b h1 h2 h3 with h | h
  ·exact h.elim
  ·exact h)) s φ y hK hrel
 exact⟨y,s',rfl,k1,r1,⟨hfr.os,hfr.tape,hfr.output,hfr.size,hfr.drawn,λb hb _=>hfr.block b hb (λh=>h)⟩⟩
mutual
def SV.closed:SV->Bool
 | .r _=>true
 | .ptr .. | .sl .. | .mp ..=>false
 | .fn _ fi ca=>SV.closedL fi&&SV.closedL ca
 | .agg l=>SV.closedL l
 | .tup l=>SV.closedL l
def SV.closedL:List SV->Bool
 | []=>true
 | s::l=>s.closed&&SV.closedL l
end
mutual
theorem SV.rel_closed {σ':Sig} {Z Z':Nat->Prop} (hk:bZ Z Z' w w'):∀(s:SV) (y:Value),s.closed=true->s.rel σ Z w y->s.rel σ' Z' w' y
 | .r x,y,_,h=>RV.rel_mono hk x y h
 | .ptr ..,y,hc,h=>by simp[SV.closed] at hc
 | .sl ..,y,hc,h=>by simp[SV.closed] at hc
 | .mp ..,y,hc,h=>by simp[SV.closed] at hc
 | .fn f fi ca,y,hc,h=>by
   simp only [SV.closed,Bool.and_eq_true] at hc;obtain⟨vs,ws,e,h1,h2⟩:=h;exact⟨vs,ws,e,SV.relL_closed hk fi vs hc.1 h1,SV.relL_closed hk ca ws hc.2 h2⟩
 | .agg l,y,hc,h=>by
   obtain⟨vs,e,h1,h2⟩:=h;exact⟨vs,e,h1,SV.relL_closed hk l vs hc h2⟩
 | .tup l,y,hc,h=>by
   obtain⟨vs,e,h2⟩:=h;exact⟨vs,e,SV.relL_closed hk l vs hc h2⟩
theorem SV.relL_closed {σ':Sig} {Z Z':Nat->Prop} (hk:bZ Z Z' w w'):∀(l:List SV) (ys:List Value),SV.closedL l=true->SV.relL σ Z w l ys->SV.relL σ' Z' w' l ys
 | [],ys,_,h=>h
 | s::l,ys,hc,h=>by
   simp only [SV.closedL,Bool.and_eq_true] at hc;obtain⟨v,vs',e,h1,h2⟩:=h;exact⟨v,vs',e,SV.rel_closed hk s v hc.1 h1,SV.relL_closed hk l vs' hc.2 h2⟩
end
def RV.flat:RV->Bool
 | .any | .v _ | .bx _=>true
 | _=>false
mutual
def SV.flat:SV->Bool
 | .r x=>x.flat
 | .ptr .. | .sl .. | .mp .. | .fn ..=>false
 | .agg l=>SV.flatL l
 | .tup l=>SV.flatL l
def SV.flatL:List SV->Bool
 | []=>true
 | s::l=>s.flat&&SV.flatL l
end
theorem RV.rel_flat {Z Z':Nat->Prop} {x:RV} {y:Value} (hf:x.flat=true) (h:x.rel Z w y):x.rel Z' w' y:=by
 cases x <;> simp[RV.flat] at hf <;> exact h
mutual
theorem SV.rel_flat {σ':Sig} {Z Z':Nat->Prop}:∀(s:SV) (y:Value),s.flat=true->s.rel σ Z w y->s.rel σ' Z' w' y
 | .r x,y,hc,h=>RV.rel_flat (Z:=Z) (w:=w) hc h
 | .ptr ..,y,hc,h=>by simp[SV.flat] at hc
 | .sl ..,y,hc,h=>by simp[SV.flat] at hc
 | .mp ..,y,hc,h=>by simp[SV.flat] at hc
 | .fn ..,y,hc,h=>by simp[SV.flat] at hc
 | .agg l,y,hc,h=>by
   obtain⟨vs,e,h1,h2⟩:=h;exact⟨vs,e,h1,SV.relL_flat l vs hc h2⟩
 | .tup l,y,hc,h=>by
   obtain⟨vs,e,h2⟩:=h;exact⟨vs,e,SV.relL_flat l vs hc h2⟩
theorem SV.relL_flat {σ':Sig} {Z Z':Nat->Prop}:∀(l:List SV) (ys:List Value),SV.flatL l=true->SV.relL σ Z w l ys->SV.relL σ' Z' w' l ys
 | [],ys,_,h=>h
 | s::l,ys,hc,h=>by
   simp only [SV.flatL,Bool.and_eq_true] at hc;obtain⟨v,vs',e,h1,h2⟩:=h;exact⟨v,vs',e,SV.rel_flat s v hc.1 h1,SV.relL_flat l vs' hc.2 h2⟩
end
theorem iD {uu:Bool} {np:Nat} {n0:Nat} {w':World} {y:Value} {s:SV} {K:SV->Mem->Nat->(SV->SV)->Prop} (hm:MOK B W n0 σ M (eF nx) w) (hn:n0<=w.heap.size) (hf:FrS uu (λ_=>False) w.heap.size w w') (hK:K s M nx id)
 (hs:s.rel σ (Zof B σ M w') w' y) (hl:np<=nx):jU uu np B W n0 σ M w K (.returned y) w':=by
 have hsame:∀b,b<w.heap.size->w'.heap[b]? =w.heap[b]?:=λb hb=>hf.block b hb (λh=>h);have hk:bZ (Zof B σ M w) (Zof B σ M w') w w':=λb hb=>⟨⟨⟨Nat.lt_of_lt_of_le hb.1.1 hf.size,hb.1.2⟩,hb.2⟩,hsame b hb.1.1⟩;refine⟨y,s,M,nx,σ,id,rfl,hK,⟨hm.newB,hm.fresh,λr R h=>?_,hm.inj,hm.own⟩,hk,hs,λt z hz=>SV.rel_mono (λ_ _ h=>h) hk _ _ hz,⟨hf.os,hf.tape,hf.output,hf.size,hf.drawn,λb hb _=>hsame b ω⟩,hl,λ_ _=>rfl⟩;obtain⟨L,e1,e2⟩:=hm.reg r R h;exact⟨L,e1,e2.mono (λ_ _ h=>h) hk λb hb=>hsame b (e2.block hb)⟩
theorem aHn {N:cZ} {f:FuncId} {args:List SV} {φ:SV->Prop} {K:SV->Mem->Nat->(SV->SV)->Prop} (hp:Pure P f args φ) (hc:SV.closedL args=true) (hcl:∀s,φ s->s.closed=true) (hK:∀s,φ s->K s M nx id):dV P N f args M nx K:=by
 intro B W w0 σ w vs hm hn hl hgd ha;obtain⟨h1,h2⟩:=hp (Zof B σ M w) w vs (λb hb=>hb.1.1) (SV.relL_closed (λb hb=>⟨hb,rfl⟩) _ _ hc ha);refine .inl ⟨h1,h2.mono λe w' h=>?_⟩;obtain⟨y,s,rfl,hφ,hr,hf⟩:=h;refine iD hm hn hf.to (hK s hφ) (SV.rel_closed (λb hb=>⟨?_,rfl⟩) s y (hcl s hφ) hr) hl;rcases hb with hb | hb
 ·exact⟨⟨Nat.lt_of_lt_of_le hb.1.1 hf.size,hb.1.2⟩,hb.2⟩
 ·refine⟨⟨hb.2,hm.newB b (.inl ω)⟩,λr R L h1 h2 h3=>?_⟩;obtain⟨L',e1,e2⟩:=hm.reg r R h1;rw[h2] at e1;cases e1;have:=e2.block h3;omega
theorem aHl {N:cZ} {f:FuncId} {args:List SV} {φ:SV->Prop} {K:SV->Mem->Nat->(SV->SV)->Prop} (hp:fK M args λl=>Pure P f l φ) (hcl:∀s,φ s->s.flat=true) (hK:∀s,φ s->K s M nx id):dV P N f args M nx K:=by
 intro B W w0 σ w vs hm hn hl hgd ha;obtain⟨l,hp',ha'⟩:=aH7 (Z':=λb=>b<w.heap.size) hm (λb hb=>hb.1.1) (λr R L b h1 h2 h3=>by
  obtain⟨L',e1,e2⟩:=hm.reg r R h1;rw[h2] at e1;cases e1;exact e2.block h3) args _ vs hp ha
 obtain⟨h1,h2⟩:=hp' (λb=>b<w.heap.size) w vs (λb hb=>hb) ha';refine .inl ⟨h1,h2.mono λe w' h=>?_⟩;obtain⟨y,s,rfl,hφ,hr,hf⟩:=h;exact iD hm hn hf.to (hK s hφ) (SV.rel_flat s y (hcl s hφ) hr) hl
end
end Go.Gx
namespace Go.Gx
open Go.RowKit
def vA (P:Program) (t:TypeId):CK->Bool
 | .int k=>match P.underlying t with | some (.int k')=>decide (k'=k) | _=>false
 | .bool=>match P.underlying t with | some .bool=>true | _=>false
def aHx (P:Program):List Field->List CK->Nat->Bool
 | [],[],_=>true
 | f::fs,c::cs,o=>decide (f.name≠ "_")&&decide (f.offset=o)&&vA P f.type c&&aHx P fs cs (o+1)
 | _,_,_=>false
def kU (P:Program) (t:TypeId) (cs:List CK):Bool:=
 (match P.underlying t with | some (.struct fa)=>aHx P fa.toList cs 0 | _=>false)&&!P.stoodInHeld t&&!P.eqGuardType P.depth t
theorem jO {P:Program} {t:TypeId} {k:IntKind} (h:vA P t (.int k)=true):P.underlying t=some (.int k):=by
 simp only [vA] at h
 cases hu:P.underlying t with
 | none=>rw[hu] at h;simp at h
 | some d=>rw[hu] at h;cases d <;> simp_all
theorem gS {P:Program} {t:TypeId} (h:vA P t .bool=true):P.underlying t=some .bool:=by
 simp only [vA] at h
 cases hu:P.underlying t with
 | none=>rw[hu] at h;simp at h
 | some d=>rw[hu] at h;cases d <;> simp_all
theorem mL {P:Program} (w:World) (d:Nat) (xs ys:List Value):∀(fs:List Field) (cs:List CK) (o:Nat),aHx P fs cs o=true->iU cs (xs.drop o)->iU cs (ys.drop o)->
 (Op.eqFields (d+1) xs.toArray ys.toArray fs).run P w=.ok (kB (xs.drop o) (ys.drop o)) w
 | [],[],o,_,hx,hy=>by
   simp only [iU] at hx hy;rw[hx,hy];rfl
 | [],_::_,o,h,_,_=>by simp[aHx] at h
 | _::_,[],o,h,_,_=>by simp[aHx] at h
 | f::fs,c::cs,o,h,hx,hy=>by
   simp only [aHx,Bool.and_eq_true,decide_eq_true_eq] at h;obtain⟨⟨⟨h1,h2⟩,h3⟩,h4⟩:=h;obtain⟨x,xs',ex,hx1,hx2⟩:=hx;obtain⟨y,ys',ey,hy1,hy2⟩:=hy;have ex':xs[o]? =some x:=by rw[<- List.head?_drop,ex];rfl
   have ey':ys[o]? =some y:=by rw[<- List.head?_drop,ey];rfl
   have dx:xs.drop (o+1)=xs':=by rw[<- List.drop_drop,ex];rfl
   have dy:ys.drop (o+1)=ys':=by rw[<- List.drop_drop,ey];rfl
   have ih:=mL w d xs ys fs cs (o+1) h4 (by rw[dx];exact hx2) (by rw[dy];exact hy2);have hag:(isAgg f.type).run P w=.ok false w:=by
    unfold isAgg;rw[Sem.run_bind]
    cases c with
    | int k=>rw[run_underlying (jO h3)];rfl
    | bool=>rw[run_underlying (gS h3)];rfl
   have px:(part f.type xs.toArray f.offset).run P w=.ok x w:=by
    unfold part;rw[Sem.run_bind,hag,h2];simp[ex']
   have py:(part f.type ys.toArray f.offset).run P w=.ok y w:=by
    unfold part;rw[Sem.run_bind,hag,h2];simp[ey']
   have he:(Op.equalIn (d+1) f.type x y).run P w=.ok (eqV x y) w:=by
    cases c with
    | int k=>
      obtain⟨n,rfl⟩:=hx1;obtain⟨m,rfl⟩:=hy1;rw[run_equalIn_int w d f.type k _ n m (jO h3)];rfl
    | bool=>
      obtain⟨n,rfl⟩:=hx1;obtain⟨m,rfl⟩:=hy1;rw[run_equalIn_bool w d f.type n m (gS h3)];rfl
   unfold Op.eqFields;rw[if_pos h1,Sem.run_bind,px,Result.andThen_ok,Sem.run_bind,py,Result.andThen_ok,Sem.run_bind,he,Result.andThen_ok];rw[ex,ey];simp only [kB]
   cases hq:eqV x y
   ·simp
   ·simp only [Bool.not_true,Bool.false_eq_true,if_false,Bool.true_and];rw[ih,dx,dy]
theorem dT {P:Program} {t:TypeId} {cs:List CK} (h:kU P t cs=true) (xs ys:List Value) (w:World) (hx:iU cs xs) (hy:iU cs ys) :
 (Op.equal t (.agg xs.toArray) (.agg ys.toArray)).run P w=.ok (kB xs ys) w/\(∀(op:BinOp) (x y:Operand),(eqGuard op t x y (.agg xs.toArray) (.agg ys.toArray)).run P w=.ok () w):=by
 unfold kU at h;simp only [Bool.and_eq_true,Bool.not_eq_true'] at h;obtain⟨⟨h1,h2⟩,h3⟩:=h;refine⟨?_,λop x y=>run_eqGuard_agg w op t x y _ _ h3⟩;split at h1
 ·rename_i fa hu;have hf:P.fieldsOf t=fa:=by unfold Program.fieldsOf;rw[hu]
  have:=run_equalIn_struct w 9999 t xs.toArray ys.toArray (by rw[hf];exact hu) h2;rw[hf,show(9999:Nat)=9998+1 from rfl,mL w 9998 xs ys fa.toList cs 0 h1 (by simpa using hx) (by simpa using hy)] at this;simpa [Op.equal,Op.maxDepth] using this
 ·cases h1
end Go.Gx
namespace Go.Gx
open Go.RowKit
abbrev GQ:=Exit->Env->Mem->Nat->Prop
inductive OT where
 | done
 | bad
 | nil
 | alt (i:Nat) (sub more:OT)
def aRe (P:Program) (T:Tab) (N:cZ) (all:Array Oper):OT->(Env->Mem->Nat->Prop)->Env->Mem->Nat->Prop
 | .done,K,E,M,nx=>K E M nx
 | .bad,_,_,_,_=>False
 | .nil,_,_,_,_=>True
 | .alt i sub more,K,E,M,nx=>(match all[i]? with | some o=>oP P T N all [o] E M nx (aRe P T N all sub K) | none=>False)/\aRe P T N all more K E M nx
inductive It where
 | code (c:Code)
 | blk (id:Nat)
 | tree (all:Array Oper) (t:OT)
section
variable (P:Program) (T:Tab) (N:cZ)
def GK:List It->GQ->GQ
 | [],Q=>Q
 | .code c::k,Q=>vR (λE M nx=>kD P T N c E M nx (GK k Q)) (GK k Q)
 | .blk id::k,Q=>aH4 id (GK k Q)
 | .tree all t::k,Q=>vR (λE M nx=>aRe P T N all t (GK k Q .normal) E M nx) (GK k Q)
def GC (c:Code) (k:List It) (Q:GQ) (E:Env) (M:Mem) (nx:Nat):Prop:=kD P T N c E M nx (GK P T N k Q)
def GO (all:Array Oper) (l:List Oper) (k:List It) (Q:GQ) (E:Env) (M:Mem) (nx:Nat):Prop:=oP P T N all l E M nx (GK P T N k Q .normal)
def KC (all:Array Oper) (rest:List Oper) (k:List It) (Q:GQ) (d:Option Tmp) (E:Env):SV->Mem->Nat->(SV->SV)->Prop:=
 λs M' nx' up=>GO P T N all rest k Q (aK (λt=>up (E t)) d s) M' nx'
def cO (o:Oper) (g:GR) (d:Option Tmp) (all:Array Oper) (rest:List Oper) (k:List It) (Q:GQ) (E:Env) (M:Mem) (nx:Nat):Prop:=
 match g with
 | .bad=>qZ P N o E M nx λE' M' nx'=>GO P T N all rest k Q E' M' nx'
 | .pure ob s=>ob/\GO P T N all rest k Q (aK E d s) M nx
 | .new ob R s=>ob/\GO P T N all rest k Q (aK E d s) (bH M nx (some R)) (nx+1)
 | .set ob ref R s=>ob/\GO P T N all rest k Q (aK E d s) (bH M ref (some R)) nx
 | .app ob ref R s=>ob/\N.np<=ref/\GO P T N all rest k Q (aK (λt=>(E t).kill ref) d s) (bH (nU ref M) ref (some R)) nx
 | .call f args=>dV P N f args M nx (KC P T N all rest k Q d E)
def aYf (c x y:SV) (d:Option Tmp) (all:Array Oper) (rest:List Oper) (k:List It) (Q:GQ) (E:Env) (M:Mem) (nx:Nat):Prop:=
 match c with
 | .r (.v (.bool t))=>if t=true then GO P T N all rest k Q (aK E d x) M nx else GO P T N all rest k Q (aK E d y) M nx
 | _=>False
def aCp (s:SV) (dd:Nat) (want:Bool) (o:Oper) (all:Array Oper) (rest:List Oper) (k:List It) (Q:GQ) (E:Env) (M:Mem) (nx:Nat):Prop:=
 match s with
 | .r (.v (.bool t))=>
   if t=want then GO P T N all ({o with guard:=none}::rest) k Q (bH E dd (.b want)) M nx
   else dC N.n o.dst/\GO P T N all rest k Q (aK (bH E dd (.b (!want))) o.dst (.r (.v undef))) M nx
 | .r (.v x)=>dC N.n o.dst/\GO P T N all rest k Q (aK E o.dst (.r (.v undef))) M nx
 | _=>False
def aJt (j:Option Nat) (want:Bool) (o:Oper) (all:Array Oper) (rest:List Oper) (k:List It) (Q:GQ) (E:Env) (M:Mem) (nx:Nat):Prop:=
 match j with
 | none=>False
 | some d=>aCp P T N (E d) d want o all rest k Q E M nx
def aOr (s:SV) (x y:Code) (k:List It) (Q:GQ) (E:Env) (M:Mem) (nx:Nat):Prop:=
 match s with
 | .r (.v (.bool t))=>if t=true then GC P T N x k Q E M nx else GC P T N y k Q E M nx
 | .r (.bx φ)=>(φ true->GC P T N x k Q E M nx)/\(φ false->GC P T N y k Q E M nx)
 | _=>False
def rZ (c:Code) (k:List It) (Q:GQ) (E:Env) (M:Mem) (nx:Nat):Prop:=GW P N (.loop c) E M nx (GK P T N k Q)
def iF (id:Nat) (ops:Array Oper) (k:List It) (Q:GQ) (E:Env) (M:Mem) (nx:Nat):Prop:=GW P N (.region id ops true) E M nx (GK P T N k Q)
end
section
variable {P:Program} {T:Tab} {N:cZ} {k:List It} {Q:GQ} {E:Env} {M:Mem} {nx:Nat}
@[go_sem]theorem bIa (e:Exit):GK P T N [] Q e E M nx=Q e E M nx:=(rfl)
@[go_sem]theorem aUf (c:Code):GK P T N (.code c::k) Q .normal E M nx=GC P T N c k Q E M nx:=(rfl)
@[go_sem]theorem aUg (c:Code) (i:Nat):GK P T N (.code c::k) Q (.exit i) E M nx=GK P T N k Q (.exit i) E M nx:=(rfl)
@[go_sem]theorem aX9 (c:Code):GK P T N (.code c::k) Q .ret E M nx=GK P T N k Q .ret E M nx:=(rfl)
@[go_sem]theorem bH9 (i:Nat):GK P T N (.blk i::k) Q .normal E M nx=GK P T N k Q .normal E M nx:=(rfl)
@[go_sem]theorem aX8 (i j:Nat):GK P T N (.blk i::k) Q (.exit j) E M nx=if j=i then GK P T N k Q .normal E M nx else GK P T N k Q (.exit j) E M nx:=(rfl)
@[go_sem]theorem aY3 (i:Nat):GK P T N (.blk i::k) Q .ret E M nx=GK P T N k Q .ret E M nx:=(rfl)
@[go_sem]theorem bG8:GC P T N .skip k Q E M nx=GK P T N k Q .normal E M nx:=(rfl)
@[go_sem]theorem aY2 (x y:Code):GC P T N (.seq x y) k Q E M nx=GC P T N x (.code y::k) Q E M nx:=(rfl)
@[go_sem]theorem bDv (i:Nat) (c:Code):GC P T N (.block i c) k Q E M nx=GC P T N c (.blk i::k) Q E M nx:=(rfl)
@[go_sem]theorem bG6 (i:Nat):GC P T N (.exit i) k Q E M nx=GK P T N k Q (.exit i) E M nx:=(rfl)
@[go_sem]theorem bH8:GC P T N .ret k Q E M nx=GK P T N k Q .ret E M nx:=(rfl)
@[go_sem]theorem bG4 (c:Operand) (x y:Code):GC P T N (.cond c x y) k Q E M nx=aOr P T N (ev E c) x y k Q E M nx:=(rfl)
@[go_sem]theorem bCh (id:Nat) (l:List Oper):GC P T N (.region id l.toArray false) k Q E M nx=GO P T N l.toArray l k Q E M nx:=by
  unfold GC GO;simp only [kD]
@[go_sem]theorem bG5 (id:Nat) (ops:Array Oper):GC P T N (.region id ops true) k Q E M nx=iF P T N id ops k Q E M nx:=(rfl)
@[go_sem]theorem bG7 (c:Code):GC P T N (.loop c) k Q E M nx=rZ P T N c k Q E M nx:=(rfl)
@[go_sem]theorem bG9 (t:Bool) (x y:Code):aOr P T N (.r (.v (.bool t))) x y k Q E M nx=if t=true then GC P T N x k Q E M nx else GC P T N y k Q E M nx:=(rfl)
@[go_sem]theorem bDx (φ:Bool->Prop) (x y:Code):aOr P T N (.r (.bx φ)) x y k Q E M nx=((φ true->GC P T N x k Q E M nx)/\(φ false->GC P T N y k Q E M nx)):=(rfl)
@[go_sem]theorem bIc (all:Array Oper):GO P T N all [] k Q E M nx=GK P T N k Q .normal E M nx:=(rfl)
@[go_sem]theorem bHf (all:Array Oper) (rest:List Oper) (d:Option Tmp) (c x y:Operand) (ty:TypeId) (pos:String) (af:Array Edge) :
   GO P T N all (⟨d,.pick c x y,ty,pos,af,none⟩::rest) k Q E M nx=(dC N.n d/\aYf P T N (ev E c) (ev E x) (ev E y) d all rest k Q E M nx):=by
  rfl
@[go_sem]theorem bD8 (all:Array Oper) (rest:List Oper) (d:Option Tmp) (op:Op) (ty:TypeId) (pos:String) (af:Array Edge) (j:Nat) (want:Bool) :
   GO P T N all (⟨d,op,ty,pos,af,some (j,want)⟩::rest) k Q E M nx=aJt P T N ((all[j]?).bind (·.dst)) want ⟨d,op,ty,pos,af,some (j,want)⟩ all rest k Q E M nx:=by
  rfl
@[go_sem]theorem aUe (d:Nat) (want:Bool) (o:Oper) (all:Array Oper) (rest:List Oper):aJt P T N (some d) want o all rest k Q E M nx=aCp P T N (E d) d want o all rest k Q E M nx:=(rfl)
@[go_sem]theorem bD1 (t:Bool) (d:Nat) (want:Bool) (d':Option Tmp) (op:Op) (ty:TypeId) (pos:String) (af:Array Edge) (g:Option (Nat × Bool)) (all:Array Oper) (rest:List Oper) :
   aCp P T N (.r (.v (.bool t))) d want ⟨d',op,ty,pos,af,g⟩ all rest k Q E M nx =
    if t=want then GO P T N all (⟨d',op,ty,pos,af,none⟩::rest) k Q (bH E d (.b want)) M nx else dC N.n d'/\GO P T N all rest k Q (aK (bH E d (.b (!want))) d' (.r (.v undef))) M nx:=(rfl)
@[go_sem]theorem bD2 (d:Nat) (want:Bool) (d':Option Tmp) (op:Op) (ty:TypeId) (pos:String) (af:Array Edge) (g:Option (Nat × Bool)) (all:Array Oper) (rest:List Oper) :
   aCp P T N (.r (.v undef)) d want ⟨d',op,ty,pos,af,g⟩ all rest k Q E M nx=(dC N.n d'/\GO P T N all rest k Q (aK E d' (.r (.v undef))) M nx):=(rfl)
@[go_sem]theorem bHj (t:Bool) (x y:SV) (d:Option Tmp) (all:Array Oper) (rest:List Oper) :
   aYf P T N (.r (.v (.bool t))) x y d all rest k Q E M nx=if t=true then GO P T N all rest k Q (aK E d x) M nx else GO P T N all rest k Q (aK E d y) M nx:=(rfl)
@[go_sem]theorem bCs (o:Oper) (d:Option Tmp) (all:Array Oper) (rest:List Oper):cO P T N o .bad d all rest k Q E M nx=qZ P N o E M nx λE' M' nx'=>GO P T N all rest k Q E' M' nx':=(rfl)
theorem aLr (c:Prop) [Decidable c] (g g':GR) (o:Oper) (d:Option Tmp) (all:Array Oper) (rest:List Oper):cO P T N o (if c then g else g') d all rest k Q E M nx=if c then cO P T N o g d all rest k Q E M nx else cO P T N o g' d all rest k Q E M nx:=by split <;> rfl
attribute [go_sem] aLr
@[go_sem]theorem aZc (o:Oper) (ob:Prop) (s:SV) (d:Option Tmp) (all:Array Oper) (rest:List Oper):cO P T N o (.pure ob s) d all rest k Q E M nx=(ob/\GO P T N all rest k Q (aK E d s) M nx):=(rfl)
@[go_sem]theorem bCt (o:Oper) (ob:Prop) (R:Reg) (s:SV) (d:Option Tmp) (all:Array Oper) (rest:List Oper):cO P T N o (.new ob R s) d all rest k Q E M nx=(ob/\GO P T N all rest k Q (aK E d s) (bH M nx (some R)) (nx+1)):=(rfl)
@[go_sem]theorem bCu (o:Oper) (ob:Prop) (ref:Nat) (R:Reg) (s:SV) (d:Option Tmp) (all:Array Oper) (rest:List Oper):cO P T N o (.set ob ref R s) d all rest k Q E M nx=(ob/\GO P T N all rest k Q (aK E d s) (bH M ref (some R)) nx):=(rfl)
@[go_sem]theorem bCr (o:Oper) (ob:Prop) (ref:Nat) (R:Reg) (s:SV) (d:Option Tmp) (all:Array Oper) (rest:List Oper):cO P T N o (.app ob ref R s) d all rest k Q E M nx=(ob/\N.np<=ref/\GO P T N all rest k Q (aK (λt=>(E t).kill ref) d s) (bH (nU ref M) ref (some R)) nx):=(rfl)
@[go_sem]theorem aZb (o:Oper) (f:FuncId) (args:List SV) (d:Option Tmp) (all:Array Oper) (rest:List Oper):cO P T N o (.call f args) d all rest k Q E M nx=dV P N f args M nx (KC P T N all rest k Q d E):=(rfl)
theorem bEp (all:Array Oper) (rest:List Oper) (d:Option Tmp) (s:SV) (M':Mem) (nx':Nat):KC P T N all rest k Q d E s M' nx' id=GO P T N all rest k Q (aK E d s) M' nx':=rfl
end
@[go_sem]theorem aYl (E:Env) (d:Nat) (s:SV):aK E (some d) s=bH E d s:=rfl
@[go_sem]theorem aYk (E:Env) (s:SV):aK E none s=E:=rfl
@[go_sem]theorem bE3 (N d:Nat):dC N (some d)=(d<N):=rfl
@[go_sem]theorem bE2 (N:Nat):dC N none=True:=rfl
@[go_sem]theorem aEa {α:Type} (f:Nat->α) (k:Nat) (v:α) (x:Nat):bH f k v x=if x=k then v else f x:=rfl
@[go_sem]theorem bIp (E:Env) (t:Nat):ev E (.tmp t)=E t:=rfl
@[go_sem]theorem bFa (E:Env) (v:Value):ev E (.const v)=.r (.v v):=rfl
@[go_sem]theorem bHw (E:Env) (f:Nat):ev E (.func f)=.fn (.func f) [] []:=rfl
@[go_sem]theorem bE6 (l:List SV) (t:Nat):kT l t=(l[t]?).getD (.r .any):=rfl
@[go_sem]theorem bFs (l:List (Option Reg)) (r:Nat):fD l r=(l[r]?).getD none:=rfl
@[go_sem]theorem bFr (r:Nat):lH r=none:=rfl
def aH5 (T:Tab) (t:TypeId) (nx:Nat) (s:SV):GR:=match T.ti t with
 | some i=>.new (iT s.cells=true/\s.cells.length=i.size) (.box s.cells) (.ptr nx 0 i.size 0)
 | none=>.bad
def xY (T:Tab) (t:TypeId) (nx:Nat):GR:=match T.ti t with
 | some i=>.new True (.box (i.zero.map λz=>.r (.v z.val))) (.ptr nx 0 i.size 0)
 | none=>.bad
def uD (s:SV):GR:=match s with
 | .ptr a b c d=>.pure True (.ptr a b c d)
 | .r (.rp a b c d e)=>.pure True (.r (.rp a b c d e))
 | .fn f a b=>match f with | .func _=>.pure True (.fn f a b) | _=>.bad
 | _=>.bad
def lD (T:Tab) (op:BinOp) (t:TypeId) (x y:SV):GR:=match mM op x y with
 | .bad=>match op with | .eql=>geq T t x y false | .neq=>geq T t x y true | _=>.bad
 | g=>g
def aKn (op:UnOp) (s:SV):GR:=match op,s with
 | .not,.r (.v (.bool t))=>.pure True (.b (!t))
 | .not,.r (.bx φ)=>.pure True (.r (.bx λt=>φ (!t)))
 | .neg,.r (.v (.int k n))=>.pure (inr k (0 - n)) (.r (.v (.int k (0 - n))))
 | _,_=>.bad
def wC (T:Tab) (s d:TypeId) (x:SV):GR:=match T.ti s,T.ti d,x with
 | some ⟨_,_,_,.int _⟩,some ⟨_,_,_,.int k⟩,.r (.v (.int _ n))=>.pure True (.r (.v (.int k (k.wrap n))))
 | _,_,_=>.bad
def aDm (s:SV) (i:Nat):GR:=match s with
 | .tup l=>match l[i]? with | some s=>.pure True s | none=>.bad
 | _=>.bad
def wB (f:SV) (args:List SV):GR:=match f with
 | .fn (.func g) fi ca=>.call g (fi++args++ca)
 | .r (.fn (.func g) nf nc fi ca)=>.call g (bL (λi=>.r (fi i)) 0 nf++args++bL (λi=>.r (ca i)) 0 nc)
 | _=>.bad
@[go_sem]theorem bAg (g:FuncId) (fi ca args:List SV):wB (.fn (.func g) fi ca) args=.call g (fi++args++ca):=rfl
@[go_sem]theorem aYn (g:FuncId) (nf nc:Nat) (fi ca:Nat->RV) (args:List SV):wB (.r (.fn (.func g) nf nc fi ca)) args=.call g (bL (λi=>.r (fi i)) 0 nf++args++bL (λi=>.r (ca i)) 0 nc):=rfl
section
variable {P:Program} {T:Tab} {N:cZ} {k:List It} {Q:GQ} {E:Env} {M:Mem} {nx:Nat} (all:Array Oper) (rest:List Oper) (d:Option Tmp) (ty:TypeId) (pos:String) (af:Array Edge)
@[go_sem]theorem bHd (x:Operand):GO P T N all (⟨d,.move x,ty,pos,af,none⟩::rest) k Q E M nx=(dC N.n d/\cO P T N ⟨d,.move x,ty,pos,af,none⟩ (.pure True (ev E x)) d all rest k Q E M nx):=(rfl)
@[go_sem]theorem bCj (x:Operand):GO P T N all (⟨d,.assign x,ty,pos,af,none⟩::rest) k Q E M nx=(dC N.n d/\cO P T N ⟨d,.assign x,ty,pos,af,none⟩ (.pure True (ev E x)) d all rest k Q E M nx):=(rfl)
@[go_sem]theorem bD5 (t:TypeId) (ps:List (Nat × Operand)):GO P T N all (⟨d,.build t ps.toArray,ty,pos,af,none⟩::rest) k Q E M nx=(dC N.n d/\cO P T N ⟨d,.build t ps.toArray,ty,pos,af,none⟩ (rI T t (ps.map λp=>(p.1,ev E p.2))) d all rest k Q E M nx):=(rfl)
@[go_sem]theorem aT5 (t:TypeId) (len:Nat) (ps:List (Nat × Operand)):GO P T N all (⟨d,.buildSlice t len ps.toArray,ty,pos,af,none⟩::rest) k Q E M nx=(dC N.n d/\cO P T N ⟨d,.buildSlice t len ps.toArray,ty,pos,af,none⟩ (eW T t len nx (ps.map λp=>(p.1,ev E p.2))) d all rest k Q E M nx):=(rfl)
@[go_sem]theorem bHc (t:TypeId) (x:Operand):GO P T N all (⟨d,.load t x,ty,pos,af,none⟩::rest) k Q E M nx=(dC N.n d/\cO P T N ⟨d,.load t x,ty,pos,af,none⟩ (oO T t M (ev E x)) d all rest k Q E M nx):=(rfl)
@[go_sem]theorem bEc (t:TypeId) (x y:Operand):GO P T N all (⟨d,.store t x y,ty,pos,af,none⟩::rest) k Q E M nx=(dC N.n d/\cO P T N ⟨d,.store t x y,ty,pos,af,none⟩ (oQ T t M (ev E x) (ev E y)) d all rest k Q E M nx):=(rfl)
@[go_sem]theorem aYa (f:Fn) (fi ca:List Operand):GO P T N all (⟨d,.makeFunc f fi.toArray ca.toArray,ty,pos,af,none⟩::rest) k Q E M nx=(dC N.n d/\cO P T N ⟨d,.makeFunc f fi.toArray ca.toArray,ty,pos,af,none⟩ (.pure True (.fn f (fi.map (ev E)) (ca.map (ev E)))) d all rest k Q E M nx):=(rfl)
@[go_sem]theorem bEb (t:TypeId) (x:Operand) (lo hi mx:Option Operand):GO P T N all (⟨d,.slice t x lo hi mx,ty,pos,af,none⟩::rest) k Q E M nx=(dC N.n d/\cO P T N ⟨d,.slice t x lo hi mx,ty,pos,af,none⟩ (lF T M t (ev E x) (lo.map (ev E)) (hi.map (ev E)) (mx.map (ev E))) d all rest k Q E M nx):=(rfl)
@[go_sem]theorem aUi (t:TypeId) (x:Operand) (f:Nat):GO P T N all (⟨d,.fieldAddr t x f,ty,pos,af,none⟩::rest) k Q E M nx=(dC N.n d/\cO P T N ⟨d,.fieldAddr t x f,ty,pos,af,none⟩ (gE T t (ev E x) f) d all rest k Q E M nx):=(rfl)
@[go_sem]theorem aUj (t:TypeId) (x i:Operand):GO P T N all (⟨d,.indexAddr t x i,ty,pos,af,none⟩::rest) k Q E M nx=(dC N.n d/\cO P T N ⟨d,.indexAddr t x i,ty,pos,af,none⟩ (mO T t (ev E x) (ev E i)) d all rest k Q E M nx):=(rfl)
@[go_sem]theorem aY4 (b:Builtin) (args:List Operand) (ts:List TypeId):GO P T N all (⟨d,.call ⟨.builtin b,args.toArray,ts.toArray⟩,ty,pos,af,none⟩::rest) k Q E M nx=(dC N.n d/\cO P T N ⟨d,.call ⟨.builtin b,args.toArray,ts.toArray⟩,ty,pos,af,none⟩ (gC T b ts M nx (args.map (ev E))) d all rest k Q E M nx):=(rfl)
@[go_sem]theorem bIb (t:TypeId) (x:Operand):GO P T N all (⟨d,.box t x,ty,pos,af,none⟩::rest) k Q E M nx=(dC N.n d/\cO P T N ⟨d,.box t x,ty,pos,af,none⟩ (aH5 T t nx (ev E x)) d all rest k Q E M nx):=(rfl)
@[go_sem]theorem bD3 (t:TypeId):GO P T N all (⟨d,.alloc t,ty,pos,af,none⟩::rest) k Q E M nx=(dC N.n d/\cO P T N ⟨d,.alloc t,ty,pos,af,none⟩ (xY T t nx) d all rest k Q E M nx):=(rfl)
@[go_sem]theorem aYb (x:Operand):GO P T N all (⟨d,.nilCheck x,ty,pos,af,none⟩::rest) k Q E M nx=(dC N.n d/\cO P T N ⟨d,.nilCheck x,ty,pos,af,none⟩ (uD (ev E x)) d all rest k Q E M nx):=(rfl)
@[go_sem]theorem bD4 (op:BinOp) (t:TypeId) (x y:Operand) (t2:TypeId):GO P T N all (⟨d,.binOp op t x y t2,ty,pos,af,none⟩::rest) k Q E M nx=(dC N.n d/\cO P T N ⟨d,.binOp op t x y t2,ty,pos,af,none⟩ (lD T op t (ev E x) (ev E y)) d all rest k Q E M nx):=(rfl)
@[go_sem]theorem bHg (op:UnOp) (t:TypeId) (x:Operand):GO P T N all (⟨d,.unOp op t x,ty,pos,af,none⟩::rest) k Q E M nx=(dC N.n d/\cO P T N ⟨d,.unOp op t x,ty,pos,af,none⟩ (aKn op (ev E x)) d all rest k Q E M nx):=(rfl)
@[go_sem]theorem aY5 (t t2:TypeId) (x:Operand):GO P T N all (⟨d,.convert t t2 x,ty,pos,af,none⟩::rest) k Q E M nx=(dC N.n d/\cO P T N ⟨d,.convert t t2 x,ty,pos,af,none⟩ (wC T t t2 (ev E x)) d all rest k Q E M nx):=(rfl)
@[go_sem]theorem aY6 (x:Operand) (i:Nat):GO P T N all (⟨d,.extract x i,ty,pos,af,none⟩::rest) k Q E M nx=(dC N.n d/\cO P T N ⟨d,.extract x i,ty,pos,af,none⟩ (aDm (ev E x) i) d all rest k Q E M nx):=(rfl)
@[go_sem]theorem bCl (t:TypeId) (m x:Operand) (ok:Bool):GO P T N all (⟨d,.lookup t m x ok,ty,pos,af,none⟩::rest) k Q E M nx=(dC N.n d/\cO P T N ⟨d,.lookup t m x ok,ty,pos,af,none⟩ (jH T M t (ev E m) (ev E x) ok) d all rest k Q E M nx):=(rfl)
@[go_sem]theorem aUl (t:TypeId) (m x y:Operand):GO P T N all (⟨d,.mapUpdate t m x y,ty,pos,af,none⟩::rest) k Q E M nx=(dC N.n d/\cO P T N ⟨d,.mapUpdate t m x y,ty,pos,af,none⟩ (eY T M t (ev E m) (ev E x) (ev E y)) d all rest k Q E M nx):=(rfl)
@[go_sem]theorem aY7 (t:TypeId) (r:Option Operand):GO P T N all (⟨d,.makeMap t r,ty,pos,af,none⟩::rest) k Q E M nx=(dC N.n d/\cO P T N ⟨d,.makeMap t r,ty,pos,af,none⟩ (lR T t (r.map (ev E)) nx) d all rest k Q E M nx):=(rfl)
@[go_sem]theorem aUk (t:TypeId) (l c:Operand):GO P T N all (⟨d,.makeSlice t l c,ty,pos,af,none⟩::rest) k Q E M nx=(dC N.n d/\cO P T N ⟨d,.makeSlice t l c,ty,pos,af,none⟩ (gU T t (ev E l) (ev E c) nx) d all rest k Q E M nx):=(rfl)
@[go_sem]theorem bD9 (t:TypeId) (x i:Operand):GO P T N all (⟨d,.index t x i,ty,pos,af,none⟩::rest) k Q E M nx=(dC N.n d/\cO P T N ⟨d,.index t x i,ty,pos,af,none⟩ (pU T t (ev E x) (ev E i)) d all rest k Q E M nx):=(rfl)
@[go_sem]theorem bEa (t:TypeId) (x:Operand):GO P T N all (⟨d,.range t x,ty,pos,af,none⟩::rest) k Q E M nx=(dC N.n d/\cO P T N ⟨d,.range t x,ty,pos,af,none⟩ .bad d all rest k Q E M nx):=(rfl)
@[go_sem]theorem bHe (x:Operand) (b:Bool):GO P T N all (⟨d,.next x b,ty,pos,af,none⟩::rest) k Q E M nx=(dC N.n d/\cO P T N ⟨d,.next x b,ty,pos,af,none⟩ .bad d all rest k Q E M nx):=(rfl)
@[go_sem]theorem bD7 (x:Operand):GO P T N all (⟨d,.entry x,ty,pos,af,none⟩::rest) k Q E M nx=(dC N.n d/\cO P T N ⟨d,.entry x,ty,pos,af,none⟩ .bad d all rest k Q E M nx):=(rfl)
@[go_sem]theorem bD6 (f:Operand) (args:List Operand) (ts:Array TypeId):GO P T N all (⟨d,.call ⟨.value f,args.toArray,ts⟩,ty,pos,af,none⟩::rest) k Q E M nx=(dC N.n d/\cO P T N ⟨d,.call ⟨.value f,args.toArray,ts⟩,ty,pos,af,none⟩ (wB (ev E f) (args.map (ev E))) d all rest k Q E M nx):=(rfl)
end
theorem aIt {P:Program} {T:Tab} (hT:aX P T) {f:FuncId} {fn:Func} (hf:P.funcs[f]? =some fn) {c:Code} (hb:fn.body=some c) (hn:(fn.name== "runtime.NumGoroutine")=false) {args:List SV} (hlen:args.length<=fn.ntmps) {φ:SV->Prop}
 {N:Nat} {rs:List ResultVar} (hN:fn.ntmps=N) (hrs:fn.results.toList=rs) (h:GC P T ⟨N,0,gG⟩ c [] (mQ T rs λs M=>fU M s φ) (kT args) lH 0):Pure P f args φ:=by
 subst hN;subst hrs;exact aAu hT hf hb hn hlen h
attribute [go_sem] uC iJ vH
attribute [go_sem] aH5 xY uD lD aKn wC aDm oO oQ mM geq lF aBv gE mO rI eW jA rep put gH kW yD rJ aQ4 mP gC SV.cells iT SV.one bL nG TI.agg ZK.val
 mQ nS aFn fU fK aU aFz yW aQ3 jH eY lR gU wE pU SV.kill SV.killL Reg.kill nU SV.trim SV.trimL Reg.trim jC cT zN aIv iP inr vR SV.closed SV.closedL SV.flat SV.flatL RV.flat eqV kB
end Go.Gx
