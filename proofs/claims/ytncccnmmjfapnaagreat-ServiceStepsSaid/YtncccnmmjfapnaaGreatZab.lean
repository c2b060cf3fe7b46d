/-
 Texts of the walk, merged: K2.
-/
import Derived.Test.YtncccnmmjfapnaaGreatZaa
set_option linter.unusedVariables false
set_option linter.unusedSimpArgs false
set_option maxRecDepth 100000
set_option maxHeartbeats 4000000
namespace Go.Gx
open Go.RowKit
section
variable {P:Program} {T:Tab} {B W F:Nat->Prop} {n0:Nat} {σ:Sig} {M:Mem} {nx:Nat} {w:World} {a:Act} {E:Env}
def Bd (o:Option Value) (d r:Nat):Prop:=(o=none/\r=d)\/∃k i,o=some (.int k i)/\0<=i/\r=i.toNat
theorem fF {k:IntKind} {i:Int} {y:Nat} (code:BoundsCode) (h0:0<=i) (h:i.toNat<=y):(Instr.sliceBound (.int k i) y code).run P w=.ok i.toNat w:=by
 have h1:i<=(y:Int):=ω;simp[Instr.sliceBound,asIntOf,h0,h1]
theorem aIz {len cap l h m:Nat} {lo hi mx:Option Value} (hl:Bd lo 0 l) (hh:Bd hi len h) (hm:Bd mx cap m) (h1:l<=h) (h2:h<=m) (h3:m<=cap) (h4:mx≠none->hi≠none) :
 (Instr.sliceBounds true len cap lo hi mx).run P w=.ok (l,h,m) w:=by
 unfold Instr.sliceBounds;rcases hm with ⟨rfl,rfl⟩ | ⟨km,im,rfl,hm0,rfl⟩
 ·rcases hh with ⟨rfl,rfl⟩ | ⟨kh,ih,rfl,hh0,rfl⟩
  ·rcases hl with ⟨rfl,rfl⟩ | ⟨kl,il,rfl,hl0,rfl⟩
   ·simp
   ·simp[fF _ hl0 h1]
  ·rcases hl with ⟨rfl,rfl⟩ | ⟨kl,il,rfl,hl0,rfl⟩
   ·simp[fF _ hh0 h2]
   ·simp[fF _ hh0 h2,fF _ hl0 h1]
 ·rcases hh with ⟨rfl,rfl⟩ | ⟨kh,ih,rfl,hh0,rfl⟩
  ·exact absurd rfl (h4 τ)
  ·rcases hl with ⟨rfl,rfl⟩ | ⟨kl,il,rfl,hl0,rfl⟩
   ·simp[fF _ hm0 h3,fF _ hh0 h2]
   ·simp[fF _ hm0 h3,fF _ hh0 h2,fF _ hl0 h1]
theorem fW {t e:TypeId} {s len cap l h m:Nat} {A:Option Addr} {lo hi mx:Option Value} (hu:P.underlying t=some (.slice e)) (hs:(sizeOf e).run P w=.ok s w)
 (hl:Bd lo 0 l) (hh:Bd hi len h) (hm:Bd mx cap m) (h1:l<=h) (h2:h<=m) (h3:m<=cap) (h4:mx≠none->hi≠none) :
 (Instr.sliceAt t (.slice A len cap) lo hi mx).run P w=.ok (.slice (if m=l then A else A.map (·.add (l*s))) (h - l) (m - l)) w:=by
 simp[Instr.sliceAt,Instr.slice,run_underlying hu,aIz hl hh hm h1 h2 h3 h4,hs]
theorem aBa {lo:Option SV} {vlo:Option Value} {l:Int} {Z:Nat->Prop} (hlo:(lo=none/\vlo=none)\/∃s v,lo=some s/\vlo=some v/\s.rel σ Z w v)
 (h:aBv lo=some l) (h0:0<=l):Bd vlo 0 l.toNat:=by
 rcases hlo with ⟨rfl,rfl⟩ | ⟨s,v,rfl,rfl,hr⟩
 ·simp[aBv] at h;subst h;exact .inl ⟨rfl,rfl⟩
 ·unfold aBv at h;split at h
  ·rename_i heq;cases heq
  ·rename_i k i heq
   cases heq
   cases h
   cases hr
   exact .inr ⟨k,_,rfl,h0,rfl⟩
  ·cases h
def aOv (σ:Sig) (Z:Nat->Prop) (w:World) (s:Option SV) (v:Option Value):Prop:=(s=none/\v=none)\/∃s' v',s=some s'/\v=some v'/\s'.rel σ Z w v'
theorem aW9 {i i' j j' k:Nat} (hj:j<k) (hj':j'<k) (h:i*k+j=i'*k+j'):i=i'/\j=j':=by
 have h1:(i*k+j) / k=i:=by rw[Nat.mul_comm,Nat.mul_add_div ω,Nat.div_eq_of_lt hj];omega
 have h2:(i'*k+j') / k=i':=by rw[Nat.mul_comm,Nat.mul_add_div ω,Nat.div_eq_of_lt hj'];omega
 have:i=i':=by rw[<- h1,<- h2,h]
 subst this;exact⟨rfl,ω⟩
theorem pD {i j k n:Nat} (hi:i<n) (hj:j<k):i*k+j<n*k:=by
 have:(i+1)*k<=n*k:=Nat.mul_le_mul_right k hi;rw[Nat.add_mul] at this;omega
theorem wO {i j lo cnt k:Nat} (hj:j<k):(lo*k<=i*k+j/\i*k+j<lo*k+cnt*k)↔(lo<=i/\i<lo+cnt):=by
 constructor
 ·rintro⟨h1,h2⟩;refine⟨?_,?_⟩
  ·rcases Nat.lt_or_ge i lo with h | h
   ·have:(i+1)*k<=lo*k:=Nat.mul_le_mul_right k h;rw[Nat.add_mul] at this;omega
   ·exact h
  ·rcases Nat.lt_or_ge i (lo+cnt) with h | h
   ·exact h
   ·have:(lo+cnt)*k<=i*k:=Nat.mul_le_mul_right k h;rw[Nat.add_mul] at this;omega
 ·rintro⟨h1,h2⟩;have e1:lo*k<=i*k:=Nat.mul_le_mul_right k h1;have e2:(i+1)*k<=(lo+cnt)*k:=Nat.mul_le_mul_right k h2;rw[Nat.add_mul,Nat.add_mul] at e2;omega
theorem pI (hm:MOK B W n0 σ M F w) {ref:Nat} {R R':Reg} (hM:M ref=some R) (hR:∀L Z w',σ ref=some L->RegOK σ Z w' L R->RegOK σ Z w' L R') :
 MOK B W n0 σ (bH M ref (some R')) F w/\bZ (Zof B σ M w) (Zof B σ (bH M ref (some R')) w) w w:=by
 have hz:∀b,Zof B σ M w b->Zof B σ (bH M ref (some R')) w b:=by
  intro b hb;refine⟨hb.1,λr R1 L h1 h2 h3=>?_⟩;by_cases hr:r=ref
  ·subst hr;exact hb.2 r R L hM h2 h3
  ·rw[aW _ _ hr] at h1;exact hb.2 r R1 L h1 h2 h3
 have hk:bZ (Zof B σ M w) (Zof B σ (bH M ref (some R')) w) w w:=λb hb=>⟨hz b hb,rfl⟩;refine⟨⟨hm.newB,hm.fresh,λr R1 h=>?_,λr r' R1 R2 L1 L2 x h1 h2 h3 h4 h5 h6=>?_,λr R1 L x h1 h2 h3=>?_⟩,hk⟩
 ·by_cases hr:r=ref
  ·subst hr;rw[aZ] at h;cases h;obtain⟨L,e1,e2⟩:=hm.reg r R hM;exact⟨L,e1,hR _ _ _ e1 (e2.mono (λ_ _ h=>h) hk (λ_ _=>rfl))⟩
  ·rw[aW _ _ hr] at h;obtain⟨L,e1,e2⟩:=hm.reg r R1 h;exact⟨L,e1,e2.mono (λ_ _ h=>h) hk (λ_ _=>rfl)⟩
 ·have ex:∀r R1,bH M ref (some R') r=some R1->∃R2,M r=some R2:=by
   intro r R1 h;by_cases hr:r=ref
   ·exact⟨R,by rw[hr];exact hM⟩
   ·rw[aW _ _ hr] at h;exact⟨_,h⟩
  obtain⟨q1,a1⟩:=ex _ _ h1;obtain⟨q2,a2⟩:=ex _ _ h2;exact hm.inj r r' q1 q2 L1 L2 x a1 a2 h3 h4 h5 h6
 ·by_cases hr:r=ref
  ·subst hr;exact hm.own r R L x hM h2 h3
  ·rw[aW _ _ hr] at h1;exact hm.own r R1 L x h1 h2 h3
theorem aN9 (hT:aX P T) (hm:MOK B W n0 σ M F w) (t:TypeId) {s:SV} {x:Value} (hx:s.rel σ (Zof B σ M w) w x) {lo hi mx:Option SV} {vlo vhi vmx:Option Value}
 (hlo:aOv σ (Zof B σ M w) w lo vlo) (hhi:aOv σ (Zof B σ M w) w hi vhi) (hmx:aOv σ (Zof B σ M w) w mx vmx) :
 rA P B W n0 σ M F nx w (cY ((Instr.sliceAt t x vlo vhi vmx).run P w)) (lF T M t s lo hi mx):=by
 unfold lF;split
 ·rename_i sz by_ ze e hti;have hc:=hT.ti t _ hti;have hu:=eK hc rfl;split
  ·trivial
  rename_i ei hei;have hs:=gI (hT.ti e ei hei) w;split
  ·trivial
  rename_i l hl;have hi_none:hi=none->vhi=none:=by rintro rfl;rcases hhi with ⟨_,h⟩ | ⟨_,_,h,_⟩;exact h;cases h
  have mx_none:mx=none->vmx=none:=by rintro rfl;rcases hmx with ⟨_,h⟩ | ⟨_,_,h,_⟩;exact h;cases h
  have hi_int:∀{kh h},hi=some (.r (.v (.int kh h)))->vhi=some (.int kh h):=by
   rintro kh h rfl;rcases hhi with ⟨h,_⟩ | ⟨s',v',h,h',hr⟩
   ·cases h
   ·cases h;cases hr;exact h'
  have mx_int:∀{kh h},mx=some (.r (.v (.int kh h)))->vmx=some (.int kh h):=by
   rintro kh h rfl;rcases hmx with ⟨h,_⟩ | ⟨s',v',h,h',hr⟩
   ·cases h
   ·cases h;cases hr;exact h'
  split
  ·rename_i k n get;obtain⟨A,c,rfl,hnc,hA⟩:=hx;have fin0:∀(h m:Nat),ei.size=k->0<=l->Bd vhi n h->Bd vmx c m->l.toNat<=h->h<=n->h<=m->m<=c->(vmx≠none->vhi≠none)->
    ∃A',cY ((Instr.sliceAt t (.slice A n c) vlo vhi vmx).run P w)=.ok (.value (.slice A' (h - l.toNat) (m - l.toNat))) w/\(0<h - l.toNat->∃b o,A'=some ⟨b,o,none⟩/\Zof B σ M w b/\∀i j,i<h - l.toNat->j<k->
   ∃v,w.cell? ⟨b,o+(i*k+j),none⟩=some v/\v.oneCell'=true/\(get (l.toNat+i) j).rel (Zof B σ M w) w v):=by
    intro h m hk h0 hh hmm h1 h2 h3 h4 h5;refine⟨_,by rw[fW hu hs (aBa hlo hl h0) hh hmm h1 h3 h4 h5];rfl,λhp=>?_⟩;obtain⟨b,o,rfl,hz,hcell⟩:=hA ω;refine⟨b,o+l.toNat*k,?_,hz,λi j hi hj=>?_⟩
    ·rw[if_neg ω,hk];simp[dI]
    ·obtain⟨v,g1,g2⟩:=hcell (l.toNat+i) j ω hj;refine⟨v,?_,g2⟩;rw[<- g1];congr 2;rw[Nat.add_mul];omega
   have fin:∀(h m:Nat),ei.size=k->0<=l->Bd vhi n h->Bd vmx c m->l.toNat<=h->h<=n->h<=m->m<=c->(vmx≠none->vhi≠none)->
    POut B σ M w (cY ((Instr.sliceAt t (.slice A n c) vlo vhi vmx).run P w)) (.r (.rs k (h - l.toNat) λi j=>get (l.toNat+i) j)):=by
    intro h m hk h0 hh hmm h1 h2 h3 h4 h5;obtain⟨A',e1,e2⟩:=fin0 h m hk h0 hh hmm h1 h2 h3 h4 h5;exact⟨_,.inl e1,A',_,rfl,ω,e2⟩
   split
   ·rintro⟨hk,h0,h1⟩;have e1:=hi_none rfl;have e2:=mx_none rfl;exact fin n c hk h0 (.inl ⟨e1,rfl⟩) (.inl ⟨e2,rfl⟩) ω (Nat.le_refl _) hnc (Nat.le_refl _) (by simp[e2])
   ·rename_i kh h;rintro⟨hk,h0,h1,h2⟩;have e2:=mx_none rfl;have e1:=hi_int rfl;exact fin h.toNat c hk h0 (.inr ⟨kh,h,e1,ω,rfl⟩) (.inl ⟨e2,rfl⟩) ω ω ω (Nat.le_refl _) (by simp[e2])
   ·rename_i kh h km m;rintro⟨hk,h0,h1,rfl,h2⟩;have e2:=mx_int rfl;have e1:=hi_int rfl;obtain⟨A',e1,e2⟩:=fin0 h.toNat h.toNat hk h0 (.inr ⟨kh,h,e1,ω,rfl⟩) (.inr ⟨km,h,e2,ω,rfl⟩) ω ω ω ω (by simp[e1]);exact⟨_,.inl e1,A',rfl,e2⟩
   ·trivial
  ·rename_i ref k l0 n;obtain⟨L,A,g1,rfl,g2,g3,g4,g5⟩:=hx;have hN:vH M ref<=L.cap:=by
    unfold vH;split
    ·rename_i hM;obtain⟨L',e1,e2⟩:=hm.reg ref _ hM;rw[g1] at e1;cases e1;exact e2.1
    ·exact Nat.zero_le _
   simp only [Option.getD_none] at g2 g3 g4;have fin:∀(h m:Nat) (c':Option Nat),ei.size=k->0<=l->Bd vhi n h->Bd vmx (L.cap - l0) m->l.toNat<=h->h<=m->m<=L.cap - l0->(vmx≠none->vhi≠none)->
    c'.getD (L.cap - (l0+l.toNat))=m - l.toNat->
    POut B σ M w (cY ((Instr.sliceAt t (.slice A n ((none:Option Nat).getD (L.cap - l0))) vlo vhi vmx).run P w)) (.sl ref k (l0+l.toNat) (h - l.toNat) c'):=by
    intro h m c' hk h0 hh hmm h1 h3 h4 h5 h6;refine POut.of (fW hu hs (aBa hlo hl h0) hh hmm h1 h3 h4 h5) ?_;refine⟨L,_,g1,by rw[h6],ω,ω,λhp=>?_,λhz=>?_⟩
    ·obtain⟨b,f1,rfl⟩:=g4 ω;refine⟨b,f1,?_⟩;rw[if_neg ω,hk];simp[dI,Nat.add_mul]
    ·have hl0:l0=0:=ω;have hl1:l.toNat=0:=ω;refine(g5 hl0).imp id λhA=>?_;rw[<- hA,hl1]
     cases A <;> simp[Addr.add]
   split
   ·rintro⟨hk,h0,h1⟩;have e1:=hi_none rfl;have e2:=mx_none rfl;exact fin n _ none hk h0 (.inl ⟨e1,rfl⟩) (.inl ⟨e2,rfl⟩) ω g2 (Nat.le_refl _) (by simp[e2]) ι
   ·rename_i kh h;rintro⟨hk,h0,h1,h2⟩;have e2:=mx_none rfl;have e1:=hi_int rfl;exact fin h.toNat _ none hk h0 (.inr ⟨kh,h,e1,ω,rfl⟩) (.inl ⟨e2,rfl⟩) ω ω (Nat.le_refl _) (by simp[e2]) ι
   ·rename_i kh h km m;rintro⟨hk,h0,h1,h2,h3⟩;have e2:=mx_int rfl;have e1:=hi_int rfl;exact fin h.toNat m.toNat _ hk h0 (.inr ⟨kh,h,e1,ω,rfl⟩) (.inr ⟨km,m,e2,ω,rfl⟩) ω ω ω (by simp[e1]) τ
   ·trivial
  ·rename_i ref k l0 n c;obtain⟨L,A,g1,rfl,g2,g3,g4,g5⟩:=hx;simp only [Option.getD_some] at g2 g3 g4;have fin0:∀(h m:Nat),ei.size=k->0<=l->Bd vhi n h->Bd vmx c m->l.toNat<=h->h<=m->m<=c->(vmx≠none->vhi≠none)->
    ∃y,cY ((Instr.sliceAt t (.slice A n ((some c).getD (L.cap - l0))) vlo vhi vmx).run P w)=.ok (.value y) w/\∀Z',(SV.sl ref k (l0+l.toNat) (h - l.toNat) (some (m - l.toNat))).rel σ Z' w y:=by
    intro h m hk h0 hh hmm h1 h3 h4 h5;refine⟨_,by rw[Option.getD_some,fW hu hs (aBa hlo hl h0) hh hmm h1 h3 h4 h5];rfl,λZ'=>?_⟩;refine⟨L,_,g1,by rfl,ι,ι,λhp=>?_,λhz=>?_⟩
    ·simp at hp;obtain⟨b,f1,rfl⟩:=g4 ω;refine⟨b,f1,?_⟩;rw[if_neg ω,hk];simp[dI,Nat.add_mul]
    ·have hl0:l0=0:=ω;have hl1:l.toNat=0:=ω;refine(g5 hl0).imp id λhA=>?_;rw[<- hA,hl1]
     cases A <;> simp[Addr.add]
   split
   ·rintro⟨hk,h0,h1⟩;have e1:=hi_none rfl;have e2:=mx_none rfl;obtain⟨y,q1,q2⟩:=fin0 n c hk h0 (.inl ⟨e1,rfl⟩) (.inl ⟨e2,rfl⟩) ω g2 (Nat.le_refl _) (by simp[e2]);exact⟨y,.inl q1,q2 _⟩
   ·rename_i kh h;have e2:=mx_none rfl;have e1:=hi_int rfl;split
    ·rintro⟨hk,h0,h1,h2⟩;obtain⟨y,q1,q2⟩:=fin0 h.toNat c hk h0 (.inr ⟨kh,h,e1,ω,rfl⟩) (.inl ⟨e2,rfl⟩) ω ω (Nat.le_refl _) (by simp[e2]);exact⟨y,.inl q1,q2 _⟩
    ·split
     ·rename_i e' k' N g hM;rintro⟨hk,rfl,h0,h1,h2,h3⟩;obtain⟨y,q1,q2⟩:=fin0 h.toNat c hk h0 (.inr ⟨kh,h,e1,ω,rfl⟩) (.inl ⟨e2,rfl⟩) ω ω (Nat.le_refl _) (by simp[e2]);obtain⟨m1,m2⟩:=pI (R':=.vec e' k' (l0+h.toNat) λi j=>if i<N then g i j else .r .any) hm hM (λL' Z w' hL hr=>by
       rw[g1] at hL;cases hL;obtain⟨q0,qm,q⟩:=hr;refine⟨ω,qm,?_⟩;rcases q with ⟨q,qc⟩ | ⟨b,cs,q1,q2,q3,qo,q4⟩
       ·exact .inl ⟨q,qc⟩
       ·refine .inr ⟨b,cs,q1,q2,q3,qo,λi j hi hj=>?_⟩;dsimp only;by_cases hiN:i<N
        ·rw[if_pos hiN];exact q4 i j hiN hj
        ·rw[if_neg hiN];have hlt:i*k'+j<cs.length:=by rw[q3];exact pD ω hj
         exact⟨cs[i*k'+j],List.getElem?_eq_getElem hlt,qo _ (List.getElem_mem hlt),trivial⟩)
      exact⟨y,w,.inl q1,m1,m2,q2 _,FrS.refl ..⟩
     ·trivial
   ·trivial
  ·cases hx
   split
   ·rintro h0;have e1:=hi_none rfl;have e2:=mx_none rfl;refine POut.of (fW hu hs (aBa hlo hl ω) (.inl ⟨e1,rfl⟩) (.inl ⟨e2,rfl⟩) ω (Nat.le_refl _) (Nat.le_refl _) (by simp[e2])) ?_;subst h0;rfl
   ·rename_i kh h;rintro⟨h0,h1⟩;have e2:=mx_none rfl;have e1:=hi_int rfl;subst h0;subst h1;exact POut.of (fW hu hs (aBa hlo hl ω) (.inr ⟨kh,0,e1,ω,rfl⟩) (.inl ⟨e2,rfl⟩) ω τ (Nat.le_refl _) (by simp[e2])) rfl
   ·rename_i kh h km m;rintro⟨h0,h1,h2⟩;have e2:=mx_int rfl;have e1:=hi_int rfl;subst h0;subst h1;subst h2;exact POut.of (fW hu hs (aBa hlo hl ω) (.inr ⟨kh,0,e1,ω,rfl⟩) (.inr ⟨km,0,e2,ω,rfl⟩) ω τ τ (by simp[e1])) rfl
   ·trivial
  ·trivial
 ·trivial
theorem aN7 (hT:aX P T) (t:TypeId) (f:Nat) {s:SV} {x:Value} (hx:s.rel σ (Zof B σ M w) w x) :
 rA P B W n0 σ M F nx w (cY ((Instr.fieldAt t x f).run P w)) (gE T t s f):=by
 unfold gE;split
 ·rename_i sz by_ ze fs hti;obtain⟨fa,hu,_,hg⟩:=nM (hT.ti t _ hti) rfl;split
  ·rename_i o sf g hf;obtain⟨fd,h1,h2,h3,_⟩:=hg f o sf g hf;have hrun:sf≠0->∀ad,(Instr.fieldAt t (.pointer (some ad)) f).run P w=.ok (.pointer (some (ad.add o))) w:=by
    intro hz ad;simp[Instr.fieldAt,run_underlying hu,h1,Instr.sureAddr,fieldPlace,fA h3,hz,h2]
   split
   ·rename_i ref row k fld;obtain⟨L,b,g1,g2,rfl⟩:=hx;intro hz;refine POut.of (hrun hz _) ⟨L,b,g1,g2,?_⟩;rw[dI];congr 3;omega
   ·rename_i k n get row fld;obtain⟨b,o',rfl,hz',hc⟩:=hx;intro hz;refine POut.of (hrun hz _) ⟨b,o',?_,hz',hc⟩;rw[dI];congr 3;omega
   ·trivial
  ·trivial
 ·trivial
theorem aN8 (hT:aX P T) (t:TypeId) {s s':SV} {x i:Value} (hx:s.rel σ (Zof B σ M w) w x) (hi:s'.rel σ (Zof B σ M w) w i) :
 rA P B W n0 σ M F nx w (cY ((Instr.indexAt t x i).run P w)) (mO T t s s'):=by
 unfold mO;split
 ·rename_i ki ix
  cases hi
  split
  ·rename_i sz by_ ze e hti;have hu:=eK (hT.ti t _ hti) rfl;split
   ·trivial
   rename_i ei hei;have hs:=gI (hT.ti e ei hei) w;split
   ·rename_i k n get;obtain⟨A,c,rfl,hnc,hA⟩:=hx;rintro⟨hk,h0,h1⟩;obtain⟨b,o,rfl,hz,hc⟩:=hA ω;refine POut.of (y:=.pointer (some ((⟨b,o,none⟩:Addr).add (ix.toNat*ei.size)))) (by simp[Instr.indexAt,asIntOf,run_underlying hu,h0,h1,hs]) ⟨b,o,?_,hz,hc⟩;rw[dI,hk];simp
   ·rename_i ref k lo n c;obtain⟨L,A,g1,rfl,g2,g3,g4,g5⟩:=hx;rintro⟨hk,h0,h1⟩;obtain⟨b,f1,rfl⟩:=g4 ω;refine POut.of (y:=.pointer (some ((⟨b,lo*k,none⟩:Addr).add (ix.toNat*ei.size)))) (by simp[Instr.indexAt,asIntOf,run_underlying hu,h0,h1,hs]) ⟨L,b,g1,f1,?_⟩;rw[dI,hk];simp[Nat.add_mul]
   ·trivial
  ·rename_i sz by_ ze n es g hti;obtain⟨e,hu,hes,_⟩:=qD (hT.ti t _ hti) rfl;have hs:=fA hes w;have hrun:∀ad,0<=ix->ix<n->(Instr.indexAt t (.pointer (some ad)) (.int ki ix)).run P w=.ok (.pointer (some (ad.add (ix.toNat*es)))) w:=by
    intro ad h0 h1;simp[Instr.indexAt,asIntOf,run_underlying hu,Instr.sureAddr,h0,h1,hs]
   split
   ·rename_i ref row k fld;obtain⟨L,b,g1,g2,rfl⟩:=hx;rintro⟨_,h0,h1⟩;refine POut.of (hrun _ h0 h1) ⟨L,b,g1,g2,?_⟩;rw[dI];congr 3;omega
   ·rename_i k m get row fld;obtain⟨b,o',rfl,hz',hc⟩:=hx;rintro⟨_,h0,h1⟩;refine POut.of (hrun _ h0 h1) ⟨b,o',?_,hz',hc⟩;rw[dI];congr 3;omega
   ·trivial
  ·trivial
 ·trivial
end
end Go.Gx
namespace Go.Gx
open Go.RowKit
section
variable {P:Program} {T:Tab} {B W F:Nat->Prop} {n0:Nat} {σ:Sig} {M:Mem} {nx:Nat} {w:World} {a:Act} {E:Env}
theorem kH (w:World) (o:Obj):(w.alloc o).heap[w.heap.size]? =some o:=Go.heap_alloc_new w o
theorem gF (w:World) (o:Obj) (b:Nat) (h:b<w.heap.size):(w.alloc o).heap[b]? =w.heap[b]?:=by
 show(w.heap.push o)[b]? =w.heap[b]?;rw[Array.getElem?_push,if_neg (Nat.ne_of_lt h)]
theorem Dr.alloc {uu:Bool} (w:World) (o:Obj) (ho:∀c t fr,o=Obj.cells c t fr->fr=(0,0)):Dr uu w (w.alloc o):=Dr.blocks (Nat.le_refl _) λb o' h=>by
 by_cases hb:b<w.heap.size
 ·rw[gF w o b hb] at h;exact .inl h
 ·by_cases e:b=w.heap.size
  ·subst e;rw[kH] at h;cases h;exact .inr λc t fr hc=>.inl (ho c t fr hc)
  ·have:(w.alloc o).heap[b]? =none:=Array.getElem?_eq_none (by show(w.heap.push o).size<=b;simp;omega);rw[this] at h;cases h
theorem Dr.drew {uu:Bool} (w:World):Dr uu w w.drew:=Dr.same (Nat.le_succ _) rfl
theorem Dr.setB {uu:Bool} (w:World) (b:Nat) (o':Obj) (ho:∀c t fr,o'=Obj.cells c t fr->fr=(0,0)):Dr uu w (Go.ChangeMaps.setBlock w b o'):=Dr.blocks (Nat.le_refl _) λx o h=>by
 by_cases e:b=x
 ·subst e;have h':(w.heap.setIfInBounds b o')[b]? =some o:=h;rw[Array.getElem?_setIfInBounds,if_pos rfl] at h';split at h'
  ·cases h';exact .inr λc t fr hc=>.inl (ho c t fr hc)
  ·cases h'
 ·have h':(w.heap.setIfInBounds b o')[x]? =some o:=h;rw[Array.getElem?_setIfInBounds,if_neg e] at h';exact .inl h'
theorem Dr.setRow {uu:Bool} (w:World) (b:Nat) (c:Array Value):Dr uu w (w.setRow b c):=Dr.blocks (Nat.le_refl _) λx o h=>by
 simp only [World.setRow,Array.getElem?_modify] at h;by_cases e:b=x
 ·subst e;rw[if_pos rfl] at h;refine .inr λc' t fr ho=>.inr ?_;subst ho
  cases hq:w.heap[b]? with
  | none=>simp[hq] at h
  | some o1=>
    cases o1 <;> simp[hq] at h
    obtain⟨_,rfl,rfl⟩:=h;exact⟨_,rfl⟩
 ·rw[if_neg e] at h;exact .inl h
theorem aKt (hm:MOK B W n0 σ M F w) (hq:F nx) (hn0:n0<=w.heap.size) (ty:TypeId) (k:Nat) {l:List SV} {cs:List Value} (h1:∀v∈cs,v.oneCell'=true) (h2:SV.relL σ (Zof B σ M w) w l cs)
 {run:Result Next} (hr:run=.ok (.value (.pointer (some ⟨w.heap.size,0,none⟩))) (w.alloc (.cells cs.toArray ty))) :
 ∃y w' L,run=.ok (.value y) w'/\MOK B W n0 (bH σ nx (some L)) (bH M nx (some (.box l))) (λr=>F r/\r≠nx) w'/\
  bZ (Zof B σ M w) (Zof B (bH σ nx (some L)) (bH M nx (some (.box l))) w') w w'/\(SV.ptr nx 0 k 0).rel (bH σ nx (some L)) (Zof B (bH σ nx (some L)) (bH M nx (some (.box l))) w') w' y/\FrS true W n0 w w':=by
 obtain⟨e1,e2,e3⟩:=mW (w':=w.alloc (.cells cs.toArray ty)) (L:=⟨some w.heap.size,1⟩) (R:=.box l) hm hq hn0 τ (λb hb=>gF w _ b hb) (λb hb=>by cases hb;exact Nat.le_refl _)
  (λσ' Z' hs hk=>⟨w.heap.size,cs,ty,rfl,kH w _,h1,SV.relL_mono hs hk _ _ h2⟩)
 exact⟨_,_,⟨some w.heap.size,1⟩,hr,e1,e2,⟨⟨some w.heap.size,1⟩,w.heap.size,aZ ..,rfl,τ⟩,⟨rfl,rfl,rfl,τ,Dr.alloc w _ (by intro c t fr h;cases h <;> rfl),λb hb _=>gF w _ b ω⟩⟩
theorem aXi (hT:aX P T) (hm:MOK B W n0 σ M F w) (hq:F nx) (hn0:n0<=w.heap.size) (t:TypeId) {i:TI} (hi:T.ti t=some i) {s:SV} {x:Value} (hx:s.rel σ (Zof B σ M w) w x) :
 rA P B W n0 σ M F nx w (cY ((Instr.box t x).run P w)) (.new (iT s.cells=true/\s.cells.length=i.size) (.box s.cells) (.ptr nx 0 i.size 0)):=by
 rintro⟨h1,h2⟩;obtain⟨e1,e2⟩:=lO hx h1;refine aKt hm hq hn0 t i.size e2 e1 ?_;simp[cY,Instr.box,newVar,newRow]
theorem iM {Z:Nat->Prop}:∀(l:List ZK),SV.relL σ Z w (l.map λz=>.r (.v z.val)) (l.map ZK.val)
 | []=>rfl
 | z::l=>⟨z.val,_,rfl,rfl,iM l⟩
theorem aN4 (hT:aX P T) (hm:MOK B W n0 σ M F w) (hq:F nx) (hn0:n0<=w.heap.size) (t:TypeId) {i:TI} (hi:T.ti t=some i) :
 rA P B W n0 σ M F nx w (cY ((Instr.alloc t true (.tuple #[])).run P w)) (.new True (.box (i.zero.map λz=>.r (.v z.val))) (.ptr nx 0 i.size 0)):=by
 intro _;have hc:=hT.ti t i hi;refine aKt (cs:=i.zero.map ZK.val) hm hq hn0 t i.size (λv hv=>?_) (iM _) ?_
 ·obtain⟨z,_,rfl⟩:=List.mem_map.1 hv;exact ZK.val_one z
 ·have:i.zeroV.cells=(i.zero.map ZK.val).toArray:=by rw[<- fY hc]
  simp[cY,Instr.alloc,mA hc,newVar,newRow,this]
theorem eL {Z:Nat->Prop}:∀{l l':List SV} {xs ys:List Value},SV.relL σ Z w l xs->SV.relL σ Z w l' ys->SV.relL σ Z w (l++l') (xs++ys)
 | [],l',xs,ys,h,h'=>by cases h;exact h'
 | s::l,l',xs,ys,h,h'=>by
   obtain⟨v,vs,rfl,h1,h2⟩:=h;exact⟨v,vs++ys,rfl,h1,eL h2 h'⟩
theorem aCa {Z:Nat->Prop}:∀(n:Nat) {l:List SV} {xs:List Value},SV.relL σ Z w l xs->SV.relL σ Z w (l.take n) (xs.take n)
 | 0,l,xs,h=>by simp[SV.relL]
 | n+1,[],xs,h=>by cases h;rfl
 | n+1,s::l,xs,h=>by
   obtain⟨v,vs,rfl,h1,h2⟩:=h;exact⟨v,_,rfl,h1,aCa n h2⟩
theorem aB9 {Z:Nat->Prop}:∀(n:Nat) {l:List SV} {xs:List Value},SV.relL σ Z w l xs->SV.relL σ Z w (l.drop n) (xs.drop n)
 | 0,l,xs,h=>by simpa using h
 | n+1,[],xs,h=>by cases h;rfl
 | n+1,s::l,xs,h=>by
   obtain⟨v,vs,rfl,h1,h2⟩:=h;exact aB9 n h2
def hY (cs:List Value) (o:Nat) (vs:List Value):List Value:=cs.take o++vs++cs.drop (o+vs.length)
theorem aGe {Z:Nat->Prop} {l x:List SV} {cs vs:List Value} (o:Nat) (h:SV.relL σ Z w l cs) (h':SV.relL σ Z w x vs):SV.relL σ Z w (put l o x) (hY cs o vs):=by
 unfold put hY;rw[<- SV.relL_length h'];exact eL (eL (aCa o h) h') (aB9 _ h)
theorem pB {cs vs:List Value} {o:Nat} (h:o+vs.length<=cs.length):(hY cs o vs).length=cs.length:=by
 simp[hY];omega
theorem pC {cs vs:List Value} {o:Nat} (h:∀v∈cs,v.oneCell'=true) (h':∀v∈vs,v.oneCell'=true):∀v∈hY cs o vs,v.oneCell'=true:=by
 intro v hv;simp only [hY,List.mem_append] at hv;rcases hv with (hv | hv) | hv
 ·exact h v (List.mem_of_mem_take hv)
 ·exact h' v hv
 ·exact h v (List.mem_of_mem_drop hv)
theorem aBm (off:Nat):∀(vs:List Value) (k:Nat) (cs:Array Value),off+k+vs.length<=cs.size->
 ((vs.zipIdx k).foldl (λcs (x:Value × Nat)=>cs.setIfInBounds (off+x.2) x.1) cs).toList=cs.toList.take (off+k)++vs++cs.toList.drop (off+k+vs.length)
 | [],k,cs,h=>τ
 | v::vs,k,cs,h=>by
   simp only [List.zipIdx_cons,List.foldl_cons];rw[aBm off vs (k+1) (cs.setIfInBounds (off+k) v) (by simp at h ⊢;omega)];have e:=list_seg_step cs.toList (off+k) v vs (by simp at h ⊢;omega);simpa [Array.toList_setIfInBounds,Nat.add_assoc] using e
theorem aMv (jA:Nat->Option (Nat × Nat)) (cells:Array Value) (i:Nat) (v:Value) (rest:List (Nat × Value)) {o s:Nat} (h:jA i=some (o,s)) (hs:v.cells.size=s) (hb:o+s<=cells.size) :
 Instr.fill jA cells ((i,v)::rest)=Instr.fill jA (hY cells.toList o v.cells.toList).toArray rest:=by
 subst hs
 conv=>lhs;unfold Instr.fill
 simp only [h];rw[if_neg ι];refine congrArg (λc=>Instr.fill jA c rest) ?_;apply Array.ext';have e:=aBm o v.cells.toList 0 cells (by simpa using hb);have e2:(v.cells.zipIdx.foldl (λcs x=>cs.setIfInBounds (o+x.2) x.1) cells)=((v.cells.toList.zipIdx 0).foldl (λcs (x:Value × Nat)=>cs.setIfInBounds (o+x.2) x.1) cells):=by
  rw[<- Array.foldl_toList];simp
 simp only [Nat.add_zero] at e;rw[show(v.cells.zipIdx.foldl (λcs (x:Value × Nat)=>match x with | (c,j)=>cs.setIfInBounds (o+j) c) cells)=(v.cells.zipIdx.foldl (λcs x=>cs.setIfInBounds (o+x.2) x.1) cells) from rfl,e2,e];rfl
def aCs (σ:Sig) (Z:Nat->Prop) (w:World):List (Nat × SV)->List (Nat × Value)->Prop
 | [],vs=>vs=[]
 | p::ps,vs=>∃v vs',vs=v::vs'/\(p.1=v.1/\p.2.rel σ Z w v.2)/\aCs σ Z w ps vs'
theorem nC {Z:Nat->Prop} (pl:Nat->Option (Nat × Nat)):∀(ps:List (Nat × SV)) (vs:List (Nat × Value)) (l:List SV) (cs:List Value) (out:List SV),SV.relL σ Z w l cs->(∀v∈cs,v.oneCell'=true)->
 aCs σ Z w ps vs->jA pl l ps=some out->∃cs',Instr.fill pl cs.toArray vs=some cs'.toArray/\SV.relL σ Z w out cs'/\(∀v∈cs',v.oneCell'=true)
 | [],vs,l,cs,out,h,h1,hp,he=>by
   cases hp
   simp[jA] at he;subst he;exact⟨cs,rfl,h,h1⟩
 | (i,x)::ps,vs,l,cs,out,h,h1,hp,he=>by
   ·obtain⟨⟨j,v⟩,vs,rfl,⟨hp0,hp1⟩,hp2⟩:=hp;simp only at hp0 hp1;subst hp0;simp only [jA] at he;split at he
    ·cases he
    rename_i o s hpl;split at he
    ·rename_i hc;obtain⟨c1,c2,c3⟩:=hc;obtain⟨e1,e2⟩:=lO hp1 c3;have hsz:v.cells.size=s:=by have:=SV.relL_length e1;simp at this;omega
     have hlen:=SV.relL_length h;have:=nC pl ps vs _ _ out (aGe o h e1) (pC h1 e2) hp2 he;obtain⟨cs',g1,g2,g3⟩:=this;refine⟨cs',?_,g2,g3⟩;rw[aMv pl _ i v vs hpl hsz ι];simpa using g1
    ·cases he
theorem qT {α β:Type} (f:α->Sem β) (g:α->β) (w:World):∀l:List α,(∀x∈l,(f x).run P w=.ok (g x) w)->(l.mapM f).run P w=.ok (l.map g) w
 | [],_=>τ
 | x::l,h=>by
   simp only [List.mapM_cons,Sem.run_bind,h x τ,Result.andThen_ok,qT f g w l (λy hy=>h y (by simp[hy]))];rfl
theorem aD1 {α β:Type} (f:α->Sem β) (g:α->β) (w:World) (l:Array α) (h:∀x∈l.toList,(f x).run P w=.ok (g x) w):(l.mapM f).run P w=.ok (l.map g) w:=by
 rw[Array.mapM_eq_mapM_toList,Sem.run_map,qT f g w l.toList h];simp only [Result.andThen_ok]
 congr 1
 apply Array.ext';simp
theorem lC {Z:Nat->Prop} (he:EOK σ Z w E a):∀(ps:List (Nat × Operand)),
 aCs σ Z w (ps.map λp=>(p.1,ev E p.2)) (ps.map λp=>(p.1,a.eval p.2))
 | []=>rfl
 | p::ps=>⟨_,_,rfl,⟨rfl,bA he p.2⟩,lC he ps⟩
theorem aN5 (hT:aX P T) (t:TypeId) (ps:Array (Nat × Operand)) (he:EOK σ (Zof B σ M w) w E a) :
 rA P B W n0 σ M F nx w (cY ((Instr.build t (ps.map λp=>(p.1,a.eval p.2))).run P w)) (rI T t (ps.toList.map λp=>(p.1,ev E p.2))):=by
 have hp:=lC he ps.toList;unfold rI;split
 ·rename_i sz by_ ze fs hti;have hc:=hT.ti t _ hti;obtain⟨fa,hu,hsz,hg⟩:=nM hc rfl;split
  ·rename_i cs hcs;intro _;have hz:=mA hc w;have hzc:=fY hc;obtain⟨cs',g1,g2,g3⟩:=nC _ _ _ _ _ cs (iM (σ:=σ) (w:=w) (Z:=Zof B σ M w) ze) (λv hv=>by obtain⟨z,_,rfl⟩:=List.mem_map.1 hv;exact ZK.val_one z) hp hcs;have hmap:(fa.mapM λf=>do pure (f.offset,<- sizeOf f.type):Sem (Array (Nat × Nat))).run P w=.ok (fs.map λx=>(x.1,x.2.1)).toArray w:=by
    rw[aD1 _ (λf=>(f.offset,((P.info? f.type).map (·.size)).getD 0)) w fa (λf hf=>?_)]
    ·congr 1
     apply Array.ext';simp only [Array.toList_map];apply List.ext_getElem?;intro j;simp only [List.getElem?_map]
     cases hj:fs[j]? with
     | none=>
       have:fa.toList[j]? =none:=by
        rw[List.getElem?_eq_none_iff] at hj ⊢;simp;omega
       simp[this]
     | some x=>
       obtain⟨o,s,g⟩:=x;obtain⟨f,f1,f2,f3,_⟩:=hg j o s g hj;have f1':fa.toList[j]? =some f:=by simpa using f1
       unfold kN at f3;split at f3
       ·rename_i ti hti';simp at f3;simp[f1',f2,hti',f3]
       ·simp at f3
    ·obtain⟨j,hj,hj2⟩:=List.getElem_of_mem hf;have hj':j<fs.length:=by simp at hj;omega
     rcases hfs:fs[j] with ⟨o,s,g⟩
     obtain⟨f',f1,f2,f3,_⟩:=hg j o s g (by rw[List.getElem?_eq_getElem hj',hfs]);have:f'=f:=by
      have e:fa.toList[j]? =some f':=by simpa using f1
      rw[List.getElem?_eq_getElem hj,hj2] at e
      cases e;rfl
     subst this;rw[Sem.run_bind,fA f3];unfold kN at f3;split at f3
     ·rename_i ti hti';simp at f3;simp[hti',f3]
     ·simp at f3
   refine POut.of (y:=.agg cs'.toArray) ?_ ⟨cs',rfl,g3,g2⟩;have hz2:TI.zeroV ⟨sz,by_,ze,.struct fs⟩=.agg (ze.map ZK.val).toArray:=rfl;rw[hz2] at hz;have hpl:(λi=>(fs.map λx=>(x.1,x.2.1)).toArray[i]?)=λ(i:Nat)=>(fs[i]?).map λ(x:Nat × Nat × Bool)=>match x with | (o,s,_)=>(o,s):=by
    funext i;simp
   unfold Instr.build;rw[Sem.run_bind,hz,Result.andThen_ok,Sem.run_bind,run_underlying hu,Result.andThen_ok];simp only [Value.cells];rw[Sem.run_bind,hmap,Result.andThen_ok];rw[hpl];rw[Array.toList_map,g1];rfl
  ·trivial
 ·rename_i sz by_ ze n es g hti;have hc:=hT.ti t _ hti;obtain⟨e,hu,hes,_⟩:=qD hc rfl;split
  ·rename_i cs hcs;intro _;have hz:=mA hc w;obtain⟨cs',g1,g2,g3⟩:=nC _ _ _ _ _ cs (iM (σ:=σ) (w:=w) (Z:=Zof B σ M w) ze) (λv hv=>by obtain⟨z,_,rfl⟩:=List.mem_map.1 hv;exact ZK.val_one z) hp hcs;refine POut.of (y:=.agg cs'.toArray) ?_ ⟨cs',rfl,g3,g2⟩;have hz2:TI.zeroV ⟨sz,by_,ze,.array n es g⟩=.agg (ze.map ZK.val).toArray:=rfl;rw[hz2] at hz;unfold Instr.build;rw[Sem.run_bind,hz,Result.andThen_ok,Sem.run_bind,run_underlying hu,Result.andThen_ok];simp only [Value.cells];rw[Sem.run_bind,fA hes,Result.andThen_ok];rw[Array.toList_map,g1];rfl
  ·trivial
 ·trivial
end
end Go.Gx
namespace Go.Gx
open Go.RowKit
section
variable {P:Program} {T:Tab} {B W F:Nat->Prop} {n0:Nat} {σ:Sig} {M:Mem} {nx:Nat} {w:World} {a:Act} {E:Env}
theorem lY {Z:Nat->Prop}:∀{l:List SV} {ys:List Value},SV.relL σ Z w l ys->∀(i:Nat) (y:Value),ys[i]? =some y->∃s,l[i]? =some s/\s.rel σ Z w y
 | [],ys,h,i,y,hy=>by cases h;simp at hy
 | s::l,ys,h,i,y,hy=>by
   obtain⟨v,vs',rfl,h1,h2⟩:=h
   cases i with
   | zero=>simp at hy;subst hy;exact⟨s,τ,h1⟩
   | succ i=>simpa using lY h2 i y (by simpa using hy)
theorem iO {Z:Nat->Prop} {s:SV} {y:Value} (h:s.rel σ Z w y):(s.toRV).rel Z w y:=by
 unfold SV.toRV;split
 ·exact h
 all_goals first
  | trivial
  | (obtain⟨vs,ws,rfl,h1,h2⟩:=h
     refine⟨vs,ws,rfl,by simpa using SV.relL_length h1,by simpa using SV.relL_length h2,λi v hv=>?_,λi v hv=>?_⟩
     ·obtain⟨s,e1,e2⟩:=lY h1 i v hv;rcases i with _ | i
      ·simp at e1 <;> (try subst e1) <;> first | exact e2 | trivial
      ·simp at e1
     ·obtain⟨s,e1,e2⟩:=lY h2 i v hv;rcases i with _ | _ | _ | i <;> simp at e1 <;> (try subst e1) <;> first | exact e2 | trivial)
theorem pH {t:TypeId} {i:TI} (h:dQ P t i=true) {b o:Nat} {cs vs:List Value} {ty:TypeId} {y:Value} (hb:w.heap[b]? =some (.cells cs.toArray ty (0,0))) (hy:y.cells.toList=vs) (hl:vs.length=i.size)
 (ho:o+i.size<=cs.length) (h1:∀v∈vs,v.oneCell'=true) :
 (Instr.storeAt t (.pointer (some ⟨b,o,none⟩)) y).run P w=.ok () (w.setRow b (hY cs o vs).toArray):=by
 have hst:=run_storeCells_at P b o ty vs 0 cs.toArray w hb ι h1;have hsz:y.cells.size=i.size:=by rw[<- Array.length_toList,hy,hl]
 simp only [Instr.storeAt,Instr.sureAddr,Sem.run_bind,Sem.run_pure,Result.andThen_ok,storeVar,gI h w];simp only [hsz,hy];simp only [ne_eq,not_true_eq_false,if_false,Sem.run_bind,Sem.run_pure,Result.andThen_ok];rw[hst];simp[hY,Nat.add_assoc]
theorem eM (b:Nat) (c:Array Value):(w.setRow b c).heap.size=w.heap.size:=by simp[World.setRow]
theorem dZ {b x:Nat} (c:Array Value) (h:x≠b):(w.setRow b c).heap[x]? =w.heap[x]?:=by
 simp only [World.setRow,Array.getElem?_modify];rw[if_neg ω]
theorem iN {b:Nat} {cur c:Array Value} {ty:TypeId} (h:w.heap[b]? =some (.cells cur ty (0,0))):(w.setRow b c).heap[b]? =some (.cells c ty (0,0)):=setRow_heap w b cur c ty _ h
theorem FrS.setRow {uu:Bool} (hm:MOK B W n0 σ M F w) {ref:Nat} {R:Reg} {L:rY} {b:Nat} (h1:M ref=some R) (h2:σ ref=some L) (h3:L.at_=some b) (c:Array Value):FrS uu W n0 w (w.setRow b c):=
 ⟨rfl,rfl,rfl,by rw[eM];exact Nat.le_refl _,Dr.setRow _ _ _,λx hx hw=>dZ c λe=>by
   subst e;rcases hm.own ref R L x h1 h2 h3 with h | h
   ·exact hw h
   ·omega⟩
theorem tC {cs vs:List Value} {o:Nat} (h:o+vs.length<=cs.length) (j:Nat):(hY cs o vs)[j]? =if o<=j/\j<o+vs.length then vs[j - o]? else cs[j]?:=by
 unfold hY;have hl:(cs.take o).length=o:=ι;by_cases h1:j<o
 ·rw[if_neg ω,List.append_assoc,List.getElem?_append_left ω,List.getElem?_take,if_pos h1]
 ·rw[List.append_assoc,List.getElem?_append_right ω,hl];by_cases h2:j<o+vs.length
  ·rw[if_pos ω,List.getElem?_append_left ω]
  ·rw[if_neg ω,List.getElem?_append_right ω,List.getElem?_drop]
   congr 1;omega
theorem aOa (hT:aX P T) (hm:MOK B W n0 σ M F w) (t:TypeId) {s s':SV} {x y:Value} (hx:s.rel σ (Zof B σ M w) w x) (hy:s'.rel σ (Zof B σ M w) w y) :
 rA P B W n0 σ M F nx w (((Instr.storeAt t x y).run P w).andThen λ_ w'=>.ok .skip w') (oQ T t M s s'):=by
 unfold oQ;split
 ·trivial
 rename_i i hti;have hc:=hT.ti t i hti;split
 ·rename_i ref row k fld;obtain⟨L,b,h1,h2,rfl⟩:=hx;split
  ·rename_i l hM;obtain⟨L',e1,e2⟩:=hm.reg ref _ hM;rw[h1] at e1;cases e1;obtain⟨b',cs,ty,f1,f2,f3,f4⟩:=e2;rw[h2] at f1;cases f1;rintro⟨o1,o2,o3⟩;obtain⟨c1,c2⟩:=lO hy o1;have hl:y.cells.toList.length=i.size:=by rw[SV.relL_length c1,o2]
   have hlen:=SV.relL_length f4;have hrun:=pH hc (o:=row*k+fld) f2 rfl hl ω c2;obtain⟨g1,g2⟩:=mX (w':=w.setRow b (hY cs (row*k+fld) y.cells.toList).toArray) (R:=.box (put l (row*k+fld) s'.cells)) hm hM h1 h2 (eM ..) (λx hx=>dZ _ hx)
    (λZ' hk=>⟨b,_,ty,h2,iN f2,pC f3 c2,SV.relL_mono (λ_ _ h=>h) hk _ _ (aGe _ f4 c1)⟩)
   exact⟨undef,_,.inr ⟨by rw[hrun];rfl,rfl⟩,g1,g2,trivial,FrS.setRow hm hM h1 h2 _⟩
  ·rename_i e k' n get hM;obtain⟨L',e1,e2⟩:=hm.reg ref _ hM;rw[h1] at e1;cases e1;obtain⟨f0,fm,f | ⟨b',cs,f1,f2,f3,fo,f5⟩⟩:=e2
   ·rw[h2] at f;cases f.1
   rw[h2] at f1;cases f1;rintro⟨o1,o2,rfl,o4,o5⟩;obtain⟨c1,c2⟩:=lO hy o1;have hl:y.cells.toList.length=i.size:=by rw[SV.relL_length c1,o2]
   have hrow:row*k'+k'<=cs.length:=by rw[f3];have:(row+1)*k'<=L.cap*k':=Nat.mul_le_mul_right k' ω;rw[Nat.add_mul] at this;omega
   have hrun:=pH hc (o:=row*k'+fld) f2 rfl hl ω c2;obtain⟨g1,g2⟩:=mX (w':=w.setRow b (hY cs (row*k'+fld) y.cells.toList).toArray)
    (R:=.vec e k' n λi' j'=>if i'=row/\fld<=j'/\j'<fld+i.size then s'.cells.getD (j' - fld) (.r .any) else get i' j') hm hM h1 h2 (eM ..) (λx hx=>dZ _ hx)
    (λZ' hk=>⟨f0,fm,.inr ⟨b,_,h2,iN f2,by rw[pB ω];exact f3,pC fo c2,λi' j' hi hj=>by
      rw[tC ω];by_cases hin:i'=row/\fld<=j'/\j'<fld+i.size
      ·obtain⟨rfl,q1,q2⟩:=hin;rw[if_pos ω];dsimp only;rw[if_pos ⟨rfl,q1,q2⟩];have hlt:j' - fld<s'.cells.length:=ω;obtain⟨v,v1,v2⟩:=SV.relL_get c1 (j' - fld) s'.cells[j' - fld] (List.getElem?_eq_getElem hlt);refine⟨v,?_,c2 v (List.mem_of_getElem? v1),?_⟩
       ·rw[<- v1];congr 1;omega
       ·rw[List.getD,List.getElem?_eq_getElem hlt];exact SV.rel_mono (σ:=σ) (σ':=σ) (λ_ _ h=>h) hk _ _ v2
      ·dsimp only;rw[if_neg hin];obtain⟨v,v1,v0,v2⟩:=f5 i' j' hi hj;refine⟨v,?_,v0,SV.rel_mono (λ_ _ h=>h) hk _ _ v2⟩;rw[if_neg λhq=>hin ?_]
       ·exact v1
       ·have hq':i'*k'+j'=row*k'+(i'*k'+j' - row*k'):=ω;obtain⟨q1,q2⟩:=aW9 (k:=k') hj ω hq';exact⟨q1,ω,ω⟩⟩⟩)
   exact⟨undef,_,.inr ⟨by rw[hrun];rfl,rfl⟩,g1,g2,trivial,FrS.setRow hm hM h1 h2 _⟩
  ·trivial
 ·trivial
end
end Go.Gx
namespace Go.Gx
open Go.RowKit
section
variable {P:Program} {T:Tab} {B W F:Nat->Prop} {n0:Nat} {σ:Sig} {M:Mem} {nx:Nat} {w:World} {a:Act} {E:Env}
theorem aB3 (pl:Nat->Option (Nat × Nat)):∀(ps:List (Nat × SV)) (l out:List SV),jA pl l ps=some out->out.length=l.length
 | [],l,out,h=>by simp[jA] at h;rw[h]
 | (i,x)::ps,l,out,h=>by
   simp only [jA] at h;split at h
   ·cases h
   ·split at h
    ·rename_i hc;rw[aB3 pl ps _ _ h];simp[put];omega
    ·cases h
theorem zH (l:List SV):∀n,(rep l n).length=n*l.length
 | 0=>by simp[rep]
 | n+1=>by simp[rep,zH l n,Nat.add_mul];omega
def fE (l:List Value):Nat->List Value
 | 0=>[]
 | n+1=>l++fE l n
theorem lZ (l:List Value):∀n j,j<n*l.length->(fE l n)[j]? =l[j % l.length]?
 | 0,j,h=>by simp at h
 | n+1,j,h=>by
   simp only [fE];by_cases hj:j<l.length
   ·rw[List.getElem?_append_left hj,Nat.mod_eq_of_lt hj]
   ·rw[List.getElem?_append_right ω,lZ l n _ (by rw[Nat.add_mul] at h;omega)];rw[<- Nat.mod_eq_sub_mod ω]
theorem dY (l:List Value):∀n,(fE l n).length=n*l.length
 | 0=>by simp[fE]
 | n+1=>by simp[fE,dY l n,Nat.add_mul];omega
theorem aGf {Z:Nat->Prop} {l:List SV} {vs:List Value} (h:SV.relL σ Z w l vs):∀n,SV.relL σ Z w (rep l n) (fE vs n)
 | 0=>rfl
 | n+1=>eL h (aGf h n)
theorem tO {ze:List ZK} (n:Nat) (hz:0<ze.length) (z:Array Value) (hze:z.toList=ze.map ZK.val) :
 (Array.range (n*ze.length)).map (λi=>z[i % z.size]!)=(fE (ze.map ZK.val) n).toArray:=by
 have hsz:z.size=ze.length:=by rw[<- Array.length_toList,hze];simp
 apply Array.ext';apply List.ext_getElem?;intro j;simp only [Array.toList_map,Array.toList_range,List.getElem?_map,hsz];by_cases hj:j<n*ze.length
 ·rw[List.getElem?_range hj,lZ _ _ _ (by simpa using hj)];have hm:j % ze.length<ze.length:=Nat.mod_lt _ hz;have:z.toList[j % ze.length]? =(ze.map ZK.val)[j % ze.length]?:=by rw[hze]
  simp only [List.length_map];rw[<- this];have hm2:j % ze.length<z.size:=ω;simp[getElem!_pos,hm2]
 ·have h1:(List.range (n*ze.length))[j]? =none:=by rw[List.getElem?_eq_none_iff];simp;omega
  rw[h1,List.getElem?_eq_none]
  ·rfl
  ·rw[dY];simp;omega
theorem aKu (hm:MOK B W n0 σ M F w) (hq:F nx) (hn0:n0<=w.heap.size) (e:TypeId) (k n cap:Nat) (get:Nat->Nat->SV) {cs:List Value} (hn:n<=cap) (hcm:cap<=maxLen) (hl:cs.length=cap*k) (h1:∀v∈cs,v.oneCell'=true)
 (h2:∀i j,i<n->j<k->∃v,cs[i*k+j]? =some v/\(get i j).rel σ (Zof B σ M w) w v) {w':World} (hf:FrS true (λ_=>False) w.heap.size w w') (hb:w'.heap[w.heap.size]? =some (.cells cs.toArray e (0,0)))
 {run:Result Next} (hr:run=.ok (.value (.slice (some ⟨w.heap.size,0,none⟩) n cap)) w') :
 ∃y w' L,run=.ok (.value y) w'/\MOK B W n0 (bH σ nx (some L)) (bH M nx (some (.vec e k n get))) (λr=>F r/\r≠nx) w'/\
  bZ (Zof B σ M w) (Zof B (bH σ nx (some L)) (bH M nx (some (.vec e k n get))) w') w w'/\(SV.sl nx k 0 n none).rel (bH σ nx (some L)) (Zof B (bH σ nx (some L)) (bH M nx (some (.vec e k n get))) w') w' y/\FrS true W n0 w w':=by
 have hold:∀b,b<w.heap.size->w'.heap[b]? =w.heap[b]?:=λb h=>hf.block b h λh=>h;obtain⟨e1,e2,e3⟩:=mW (w':=w') (L:=⟨some w.heap.size,cap⟩) (R:=.vec e k n get) hm hq hn0 hf.size hold (λb hb=>by cases hb;exact Nat.le_refl _)
  (λσ' Z' hs hk=>⟨hn,hcm,.inr ⟨w.heap.size,cs,rfl,hb,hl,h1,λi j hi hj=>by
    obtain⟨v,g1,g2⟩:=h2 i j hi hj;exact⟨v,g1,h1 v (List.mem_of_getElem? g1),SV.rel_mono hs hk _ _ g2⟩⟩⟩)
 exact⟨_,_,⟨some w.heap.size,cap⟩,hr,e1,e2,⟨⟨some w.heap.size,cap⟩,_,aZ ..,rfl,by simpa using hn,τ,λ_=>⟨w.heap.size,rfl,τ⟩,λ_=>.inr rfl⟩,⟨hf.os,hf.tape,hf.output,hf.size,hf.drawn,λb hb _=>hold b ω⟩⟩
theorem FrS.alloc {uu:Bool} (w:World) (o:Obj) (ho:∀c t fr,o=Obj.cells c t fr->fr=(0,0):=by intro c t fr h;cases h <;> rfl):FrS uu (λ_=>False) w.heap.size w (w.alloc o):=⟨rfl,rfl,rfl,τ,Dr.alloc w o ho,λb hb _=>gF w _ b hb⟩
theorem FrS.dalloc {uu:Bool} (w:World) (o:Obj) (ho:∀c t fr,o=Obj.cells c t fr->fr=(0,0):=by intro c t fr h;cases h <;> rfl):FrS uu (λ_=>False) w.heap.size w (w.drew.alloc o):=⟨rfl,rfl,rfl,τ,(Dr.drew w).trans (Dr.alloc w.drew o ho),λb hb _=>gF w.drew _ b hb⟩
theorem aKv (hm:MOK B W n0 σ M F w) (hq:F nx) (hn0:n0<=w.heap.size) (e:TypeId) (k n:Nat) (get:Nat->Nat->SV) {cs:List Value} (hn:n<=maxLen) (hl:cs.length=n*k) (h1:∀v∈cs,v.oneCell'=true)
 (h2:∀i j,i<n->j<k->∃v,cs[i*k+j]? =some v/\(get i j).rel σ (Zof B σ M w) w v)
 {run:Result Next} (hr:run=.ok (.value (.slice (some ⟨w.heap.size,0,none⟩) n n)) (w.alloc (.cells cs.toArray e))) :
 ∃y w' L,run=.ok (.value y) w'/\MOK B W n0 (bH σ nx (some L)) (bH M nx (some (.vec e k n get))) (λr=>F r/\r≠nx) w'/\
  bZ (Zof B σ M w) (Zof B (bH σ nx (some L)) (bH M nx (some (.vec e k n get))) w') w w'/\(SV.sl nx k 0 n none).rel (bH σ nx (some L)) (Zof B (bH σ nx (some L)) (bH M nx (some (.vec e k n get))) w') w' y/\FrS true W n0 w w':=
 aKu hm hq hn0 e k n n get (Nat.le_refl _) hn hl h1 h2 (FrS.alloc w _) (kH w _) hr
theorem zP (hT:aX P T) (hm:MOK B W n0 σ M F w) (hq:F nx) (hn0:n0<=w.heap.size) (t:TypeId) (len:Nat) (ps:Array (Nat × Operand)) (he:EOK σ (Zof B σ M w) w E a) :
 rA P B W n0 σ M F nx w (cY ((Instr.buildSlice t len (ps.map λp=>(p.1,a.eval p.2))).run P w)) (eW T t len nx (ps.toList.map λp=>(p.1,ev E p.2))):=by
 have hp:=lC he ps.toList;unfold eW;split
 ·rename_i sz by_ ze e hti;have hu:=eK (hT.ti t _ hti) rfl;split
  ·trivial
  rename_i ei hei;have hc:=hT.ti e ei hei;have hlen:=nK hc;split
  ·rename_i cs hcs;rintro⟨o1,o2⟩;have hz:=mA hc w;have hzc:=fY hc;obtain⟨cs',g1,g2,g3⟩:=nC _ _ _ _ _ cs (aGf (iM (σ:=σ) (w:=w) (Z:=Zof B σ M w) ei.zero) len) (λv hv=>by
    have:∀n,∀v∈fE (ei.zero.map ZK.val) n,v.oneCell'=true:=by
     intro n
     induction n with
     | zero=>simp[fE]
     | succ n ih=>
       intro v hv;simp only [fE,List.mem_append] at hv;rcases hv with hv | hv
       ·obtain⟨z,_,rfl⟩:=List.mem_map.1 hv;exact ZK.val_one z
       ·exact ih v hv
    exact this len v hv) hp hcs
   have hl':cs'.length=len*ei.size:=by
    rw[SV.relL_length g2,aB3 _ _ _ _ hcs,zH];simp[hlen]
   refine aKv hm hq hn0 e ei.size len _ (by unfold maxLen;have:len<=len*ei.size:=Nat.le_mul_of_pos_right _ o1;omega) hl' g3 (λi j hi hj=>?_) ?_
   ·have hlt:i*ei.size+j<cs.length:=by rw[<- SV.relL_length g2,hl'];exact pD hi hj
    obtain⟨v,v1,v2⟩:=SV.relL_get g2 _ _ (List.getElem?_eq_getElem hlt);refine⟨v,v1,?_⟩;rw[List.getD,List.getElem?_eq_getElem hlt];exact v2
   ·unfold Instr.buildSlice;rw[Sem.run_bind,run_underlying hu,Result.andThen_ok];dsimp only;rw[Sem.run_bind,gI hc,Result.andThen_ok];rw[if_neg ι];by_cases h0:len*ei.size=0
    ·have hl0:len=0:=by
      rcases Nat.mul_eq_zero.1 h0 with h | h <;> omega
     subst hl0;have hr0:(Array.range (0*ei.size)).map (λi=>(#[]:Array Value)[i % (#[]:Array Value).size]!)=(fE (ei.zero.map ZK.val) 0).toArray:=by simp[fE]
     simp only [Nat.zero_mul,if_true] at *;simp only [Sem.run_bind,Sem.run_pure,Result.andThen_ok];have hr1:(Array.range 0).map (λi=>(#[]:Array Value)[i % (#[]:Array Value).size]!)=(fE (ei.zero.map ZK.val) 0).toArray:=by simp[fE]
     rw[hr1,Array.toList_map,g1];simp[newRow,cY]
    ·rw[if_neg h0];rw[Sem.run_bind,hz,Result.andThen_ok];rw[pure_bind];have hzz:=tO len ω ei.zeroV.cells hzc;rw[hlen] at hzz;rw[hzz,Array.toList_map,g1];simp[newRow,cY]
  ·trivial
 ·trivial
end
end Go.Gx
namespace Go.Gx
open Go.RowKit
section
variable {P:Program} {T:Tab} {B W F:Nat->Prop} {n0:Nat} {σ:Sig} {M:Mem} {nx:Nat} {w:World} {a:Act} {E:Env}
theorem pF (hm:MOK B W n0 σ M F w) {k:Nat} {s:SV} {x:Value} (hx:s.rel σ (Zof B σ M w) w x) {ob:Prop} {m:Nat} {get:Nat->Nat->SV} (h:gH M k s=some (ob,m,get)) (hob:ob) :
 ∃(A:Option Addr) (c:Nat) (cs:List Value),x=.slice A m c/\cs.length=m*k/\(∀v∈cs,v.oneCell'=true)/\(0<m*k->∃b o,A=some ⟨b,o,none⟩/\∀j v,cs[j]? =some v->w.cell? ⟨b,o+j,none⟩=some v)/\
  (∀i j,i<m->j<k->∃v,cs[i*k+j]? =some v/\(get i j).rel σ (Zof B σ M w) w v):=by
 have key:∀(b o:Nat),(∀i j,i<m->j<k->∃v,w.cell? ⟨b,o+(i*k+j),none⟩=some v/\v.oneCell'=true/\(get i j).rel σ (Zof B σ M w) w v)->
  ∃cs:List Value,cs.length=m*k/\(∀v∈cs,v.oneCell'=true)/\(∀j v,cs[j]? =some v->w.cell? ⟨b,o+j,none⟩=some v)/\(∀i j,i<m->j<k->∃v,cs[i*k+j]? =some v/\(get i j).rel σ (Zof B σ M w) w v):=by
  intro b o hc;have hcell:∀q,q<m*k->∃v,w.cell? ⟨b,o+q,none⟩=some v/\v.oneCell'=true:=by
   intro q hq
   have hk:0<k:=by rcases Nat.eq_zero_or_pos k with h | h;· subst h;omega
                   ·exact h
   obtain⟨v,h1,h2,_⟩:=hc (q / k) (q % k) (Nat.div_lt_of_lt_mul (by rw[Nat.mul_comm];exact hq)) (Nat.mod_lt _ hk);refine⟨v,?_,h2⟩;rw[<- h1];congr 2;rw[Nat.mul_comm,Nat.div_add_mod]
  refine⟨(List.range (m*k)).map λq=>(w.cell? ⟨b,o+q,none⟩).getD undef,τ,λv hv=>?_,λj v hv=>?_,λi j hi hj=>?_⟩
  ·obtain⟨q,hq,rfl⟩:=List.mem_map.1 hv;obtain⟨u,h1,h2⟩:=hcell q (by simpa using hq);rw[h1];exact h2
  ·simp only [List.getElem?_map] at hv;by_cases hj:j<m*k
   ·obtain⟨u,h1,h2⟩:=hcell j hj;rw[List.getElem?_range hj] at hv;simp[h1] at hv;subst hv;exact h1
   ·rw[List.getElem?_eq_none ι] at hv;cases hv
  ·obtain⟨v,h1,h2,h3⟩:=hc i j hi hj;refine⟨v,?_,h3⟩;rw[List.getElem?_map,List.getElem?_range (pD hi hj)];simp[h1]
 unfold gH at h;split at h
 ·cases h
  cases hx
  exact⟨none,0,[],rfl,τ,τ,τ,ω⟩
 ·rename_i k' m' get'
  cases h
  obtain⟨A,c,rfl,hn,hA⟩:=hx;subst hob;by_cases h0:0<m
  ·obtain⟨b,o,rfl,hz,hc⟩:=hA h0;obtain⟨cs,h1,h2,h3,h4⟩:=key b o hc;exact⟨_,c,cs,rfl,h1,h2,λ_=>⟨b,o,rfl,h3⟩,h4⟩
  ·have:m=0:=ω;subst this;exact⟨A,c,[],rfl,τ,τ,τ,ω⟩
 ·rename_i k' m' get'
  cases h
  obtain⟨A,rfl,hA⟩:=hx;subst hob;by_cases h0:0<m
  ·obtain⟨b,o,rfl,hz,hc⟩:=hA h0;obtain⟨cs,h1,h2,h3,h4⟩:=key b o hc;exact⟨_,m,cs,rfl,h1,h2,λ_=>⟨b,o,rfl,h3⟩,h4⟩
  ·have:m=0:=ω;subst this;exact⟨A,0,[],rfl,τ,τ,τ,ω⟩
 ·rename_i ref k' lo m' c';split at h
  ·rename_i e k'' n get' hM
   cases h
   obtain⟨rfl,rfl,hle⟩:=hob;obtain⟨L,A,g1,rfl,g2,g3,g4,g5⟩:=hx;obtain⟨L',e1,e2⟩:=hm.reg ref _ hM;rw[g1] at e1;cases e1;obtain⟨f0,fm,f | ⟨b',cs',f1,f2,f3,fo,f5⟩⟩:=e2
   ·have hn0:n=0:=ω;have:m=0:=ω;subst this;exact⟨A,_,[],rfl,τ,τ,τ,ω⟩
   ·by_cases h0:0<m
    ·obtain⟨b,q1,rfl⟩:=g4 ω;rw[f1] at q1;cases q1;obtain⟨cs,h1,h2,h3,h4⟩:=key b' (lo*k'') (λi j hi hj=>by
      obtain⟨v,v1,v0,v2⟩:=f5 (lo+i) j ω hj;refine⟨v,?_,v0,v2⟩;simp only [World.cell?,f2];rw[<- v1,Nat.add_mul,Nat.add_assoc];simp)
     exact⟨_,_,cs,rfl,h1,h2,λ_=>⟨b',_,rfl,h3⟩,h4⟩
    ·have:m=0:=ω;subst this;exact⟨A,_,[],rfl,τ,τ,τ,ω⟩
  ·cases h
 ·cases h
theorem vW (t ty:TypeId) {e:TypeId} {ei:TI} (hu:P.underlying t=some (.slice e)) (hc:dQ P e ei=true) (A B:Option Addr) (n c c':Nat) (hn:n<=c) :
 (Builtin.append_ #[t,t] ty #[.slice A n c,.slice B 0 c']).run P w=.ok (.slice A n c) w:=by
 simp only [Builtin.append_];simp[run_underlying hu,gI hc,Builtin.lenOf,hn]
 cases B <;> cases A <;> simp[Builtin.firstCells,loadCells,loadCellsFrom,storeCells]
def Src (P:Program) (w:World) (e:TypeId) (ei:TI) (t:TypeId) (ts:Array TypeId) (x:Value) (m:Nat) (news:List Value):Prop:=
 news.length=m*ei.size/\(∀v∈news,v.oneCell'=true)/\
 (∀(ty:TypeId) (A:Option Addr) (n c:Nat) (olds:List Value),n<=c->olds.length=n*ei.size->(0<n*ei.size->∃b o,A=some ⟨b,o,none⟩/\∀j v,olds[j]? =some v->w.cell? ⟨b,o+j,none⟩=some v)->c<n+m->n+m<=maxLen->(n+m)*ei.bytes<=140737488355328->
   ∃cap,n+m<=cap/\cap<=maxLen/\(Builtin.append_ ts ty #[.slice A n c,x]).run P w=.ok (.slice (some ⟨w.heap.size,0,none⟩) (n+m) cap) (w.drew.alloc (.cells (olds++news++(Builtin.zeroCells ei.zeroV.cells (cap - (n+m))).toList).toArray e)))
theorem fP {size n:Nat} {A:Option Addr} {c len:Nat} {cs:List Value} (hl:cs.length=n*size) (hA:0<n*size->∃b o,A=some ⟨b,o,none⟩/\∀j u,cs[j]? =some u->w.cell? ⟨b,o+j,none⟩=some u) :
 (Builtin.firstCells size n (.slice A len c)).run P w=.ok cs.toArray w:=by
 by_cases h0:n*size=0
 ·have:cs=[]:=List.eq_nil_of_length_eq_zero ω;subst this
  cases A <;> simp[Builtin.firstCells,h0,loadCells,loadCellsFrom]
 ·obtain⟨b,o,rfl,hc⟩:=hA ω;exact run_firstCells_some w size n _ len c cs hl (λj v hv=>by rw[dI];exact hc j v hv)
theorem eU {t:TypeId} {i:TI} (h:dQ P t i=true) (n:Nat):(Builtin.zeroCells i.zeroV.cells n).toList=fE (i.zero.map ZK.val) n:=by
 have hzc:=fY h;unfold Builtin.zeroCells;rcases Nat.eq_zero_or_pos i.zero.length with h | h
 ·have h1:i.zeroV.cells.size=0:=by rw[<- Array.length_toList,hzc];simp[h]
  have h2:i.zero=[]:=List.eq_nil_of_length_eq_zero h;rw[h1,h2];have:∀n,fE ([]:List Value) n=[]:=by intro n;induction n with
   | zero=>rfl
   | succ n ih=>simp[fE,ih]
  simp[this]
 ·have:=tO n h i.zeroV.cells hzc;have h3:i.zeroV.cells.size=i.zero.length:=by rw[<- Array.length_toList,hzc];simp
  rw[h3,show(Array.range (n*i.zero.length)).map (λj=>i.zeroV.cells[j % i.zero.length]!)=(Array.range (n*i.zero.length)).map (λj=>i.zeroV.cells[j % i.zeroV.cells.size]!) from by rw[h3],this]
theorem tD (z:List ZK) (n:Nat):∀v∈fE (z.map ZK.val) n,v.oneCell'=true:=by
 intro v hv;obtain⟨j,hj,rfl⟩:=List.getElem_of_mem hv;have h1:=lZ (z.map ZK.val) n j (by rw[dY] at hj;exact hj);rw[List.getElem?_eq_getElem hj] at h1;have:=List.mem_of_getElem? h1.symm;obtain⟨z,_,hz⟩:=List.mem_map.1 this;rw[<- hz];exact ZK.val_one z
theorem aGh {t:TypeId} {i:TI} (h:dQ P t i=true) {n a b:Nat} (ha:a<n) (hb:b<i.size) (Z:Nat->Prop):∃v,(fE (i.zero.map ZK.val) n)[a*i.size+b]? =some v/\v.oneCell'=true/\(match i.zero[b]? with | some z=>SV.r (.v z.val) | none=>.r .any).rel σ Z w v:=by
 have hlz:=nK h;rw[lZ _ _ _ (by rw[List.length_map,hlz];exact pD ha hb)];have:(a*i.size+b) % i.size=b:=by rw[Nat.mul_comm,Nat.mul_add_mod];exact Nat.mod_eq_of_lt hb
 rw[List.length_map,hlz,this,List.getElem?_map];have hj':b<i.zero.length:=ω;rw[List.getElem?_eq_getElem hj'];exact⟨_,rfl,ZK.val_one _,rfl⟩
theorem aCk {t e:TypeId} {ei:TI} (hu:P.underlying t=some (.slice e)) (hc:dQ P e ei=true) {A':Option Addr} {m c':Nat} {news:List Value} (hl:news.length=m*ei.size) (h1:∀v∈news,v.oneCell'=true)
 (hA':0<m*ei.size->∃b o,A'=some ⟨b,o,none⟩/\∀j v,news[j]? =some v->w.cell? ⟨b,o+j,none⟩=some v):Src P w e ei t #[t,t] (.slice A' m c') m news:=by
 refine⟨hl,h1,λty A n c olds hnc hol hA hg h63 hby=>?_⟩;obtain⟨i,hi,hi2,hi3,hz⟩:=qB hc;have hsz:=hi2;refine⟨grownCap w (n+m) c e,grownCap_ge w (n+m) c e,grownCap_le_maxLen w (n+m) c e h63,?_⟩;have hn:¬(n+m<=c):=ω;have h63':¬(9223372036854775807<((n:Int)+(m:Int))):=by unfold maxLen at h63;omega
 have h48:=growslice_fits hg hby
 have h48':¬(281474976710656<Builtin.nextslicecap (n+m) c*i.bytes):=by rw[hi3];omega
 have hf:=fP (P:=P) (w:=w.drew) (len:=m) (c:=c') hl hA';have hfo:=fP (P:=P) (w:=w.drew) (len:=n) (c:=c) hol hA;rw[<- hi2] at hf hfo;simp[Builtin.append_,run_underlying hu,sizeOf,typeInfo,zeroValue,hi,hz,Builtin.lenOf,hn,h63',h48',Question.forced,hf,hfo,newRow,grownCap]
 congr 2
 apply Array.ext';simp[List.append_assoc]
theorem aOc {t tz e:TypeId} {ei:TI} {k:IntKind} (hu:P.underlying t=some (.slice e)) (huz:P.underlying tz=some (.int k)) (hc:dQ P e ei=true) (hsz:0<ei.size) {m:Nat} (hm:0<m) (hmb:m*ei.bytes<=140737488355328) (hm63:m<=9223372036854775807) :
 Src P w e ei t #[t,tz] (.int .i64 m) m (fE (ei.zero.map ZK.val) m):=by
 refine⟨by rw[dY,List.length_map,nK hc],tD _ _,λty A n c olds hnc hol hA hg h63 hby=>?_⟩;obtain⟨i,hi,hi2,hi3,hz⟩:=qB hc;refine⟨grownCap w (n+m) c e,grownCap_ge w (n+m) c e,grownCap_le_maxLen w (n+m) c e h63,?_⟩;have hn:¬(n+m<=c):=ω;have h63':¬(9223372036854775807<((n:Int)+(m:Int))):=by unfold maxLen at h63;omega
 have h48:=growslice_fits hg hby
 have h48':¬(281474976710656<Builtin.nextslicecap (n+m) c*i.bytes):=by rw[hi3];omega
 have hfo:=fP (P:=P) (w:=w.drew) (len:=n) (c:=c) hol hA;rw[<- hi2] at hfo;have hw:IntKind.i64.wrap (m:Int)=m:=bX (by simp only [inr];omega);have hb':¬(281474976710656<(m:Int)*(i.bytes:Int)):=by
  rw[hi3];have h1:(m:Int)*(ei.bytes:Int)=((m*ei.bytes:Nat):Int):=τ;rw[h1];omega
 have hne:¬(m*ei.size=0):=by
  have:=Nat.mul_pos hm hsz;omega
 have hzr:=eU hc m;have hneg:¬((m:Int)<0):=ω;have hne':¬(m*i.size=0):=by rw[hi2];exact hne
 clear hne;simp[Builtin.append_,run_underlying hu,run_underlying huz,sizeOf,typeInfo,zeroValue,hi,hz,hw,hneg,hb',hn,h63',h48',Question.forced,hfo,newRow,grownCap,asInt,asIntOf];rw[if_neg hne']
 congr 3
 apply Array.ext';simp[List.append_assoc,hzr]
theorem sT {Z:Nat->Prop} {k n m:Nat} {xs news rest:List Value} {g get:Nat->Nat->SV} (hx:xs.length=n*k) (h1:∀i j,i<n->j<k->∃v,xs[i*k+j]? =some v/\(g i j).rel σ Z w v)
 (hn:news.length=m*k) (h2:∀i j,i<m->j<k->∃v,news[i*k+j]? =some v/\(get i j).rel σ Z w v) :
 ∀i j,i<n+m->j<k->∃v,(xs++news++rest)[i*k+j]? =some v/\(aJ n m g get i j).rel σ Z w v:=by
 intro i j hi hj;unfold aJ;by_cases h:i<n
 ·rw[if_pos h,List.append_assoc,List.getElem?_append_left (by rw[hx];exact pD h hj)];exact h1 i j h hj
 ·rw[if_neg h,if_pos hi];obtain⟨v,v1,v2⟩:=h2 (i - n) j ω hj;refine⟨v,?_,v2⟩;have hle:n*k<=i*k:=Nat.mul_le_mul_right k ω;rw[List.append_assoc,List.getElem?_append_right ω,List.getElem?_append_left,<- v1,hx,Nat.sub_mul]
  ·congr 1;omega
  ·have:=pD (k:=k) (show i - n<m by omega) hj;rw[Nat.sub_mul] at this;omega
theorem aCz (hm:MOK B W n0 σ M F w) (hq:F nx) (hn0:n0<=w.heap.size) {t ty:TypeId} {ts:Array TypeId} {e:TypeId} {ei:TI} (hc:dQ P e ei=true) {x:Value} {m:Nat} {news:List Value} (hs:Src P w e ei t ts x m news)
 {A:Option Addr} {n c:Nat} {olds:List Value} (hnc:n<=c) (hol:olds.length=n*ei.size) (ho1:∀v∈olds,v.oneCell'=true) (hA:0<n*ei.size->∃b o,A=some ⟨b,o,none⟩/\∀j v,olds[j]? =some v->w.cell? ⟨b,o+j,none⟩=some v)
 (hg:c<n+m) (h63:n+m<=9223372036854775807) (hby:(n+m)*ei.bytes<=140737488355328) {g get:Nat->Nat->SV} (h1:∀i j,i<n->j<ei.size->∃v,olds[i*ei.size+j]? =some v/\(g i j).rel σ (Zof B σ M w) w v)
 (h2:∀i j,i<m->j<ei.size->∃v,news[i*ei.size+j]? =some v/\(get i j).rel σ (Zof B σ M w) w v) :
 ∃y w' L,cY ((Builtin.append_ ts ty #[.slice A n c,x]).run P w)=.ok (.value y) w'/\MOK B W n0 (bH σ nx (some L)) (bH M nx (some (.vec e ei.size (n+m) (aJ n m g get)))) (λr=>F r/\r≠nx) w'/\
  bZ (Zof B σ M w) (Zof B (bH σ nx (some L)) (bH M nx (some (.vec e ei.size (n+m) (aJ n m g get)))) w') w w'/\(SV.sl nx ei.size 0 (n+m) none).rel (bH σ nx (some L)) (Zof B (bH σ nx (some L)) (bH M nx (some (.vec e ei.size (n+m) (aJ n m g get)))) w') w' y/\FrS true W n0 w w':=by
 obtain⟨s1,s2,s3⟩:=hs;obtain⟨cap,c1,c2,hrun⟩:=s3 ty A n c olds hnc hol hA hg (by unfold maxLen;omega) hby
 refine aKu hm hq hn0 e ei.size (n+m) cap _ c1 c2 ?_ ?_ (sT hol h1 s1 h2) (FrS.dalloc w _) (kH w.drew _) (by rw[hrun];rfl)
 ·rw[List.length_append,List.length_append,hol,s1,eU hc,dY,List.length_map,nK hc,<- Nat.add_mul,<- Nat.add_mul]
  congr 1;omega
 ·intro v hv;simp only [List.mem_append] at hv;rcases hv with (hv | hv) | hv
  ·exact ho1 v hv
  ·exact s2 v hv
  ·rw[eU hc] at hv;exact tD _ _ v hv
theorem aGr (hT:aX P T) (hm:MOK B W n0 σ M F w) (hq:F nx) (hn0:n0<=w.heap.size) (t ty e:TypeId) {ei:TI} (hu:P.underlying t=some (.slice e)) (hc:dQ P e ei=true) {ts:Array TypeId} {s:SV} {x y:Value} {ob:Prop} {m:Nat} {get:Nat->Nat->SV} (hx:s.rel σ (Zof B σ M w) w x)
 (hsrc:ob->0<ei.size->∃news,Src P w e ei t ts y m news/\(∀i j,i<m->j<ei.size->∃v,news[i*ei.size+j]? =some v/\(get i j).rel σ (Zof B σ M w) w v))
 (hsame:(∃r k lo n c,s=.sl r k lo n (some c))/\(ob->0<m)\/ts=#[t,t]/\∃A' c',y=.slice A' m c'/\(ob->∃news:List Value,(news.length=m*ei.size/\(∀v∈news,v.oneCell'=true)/\(0<m*ei.size->∃b o,A'=some ⟨b,o,none⟩/\∀j v,news[j]? =some v->w.cell? ⟨b,o+j,none⟩=some v))/\∀i j,i<m->j<ei.size->∃v,news[i*ei.size+j]? =some v/\(get i j).rel σ (Zof B σ M w) w v)) :
 rA P B W n0 σ M F nx w (cY ((Builtin.append_ ts ty #[x,y]).run P w)) (uC e ei M nx s ob m get):=by
 have hzero:∀{A:Option Addr} {n c:Nat},n<=c->m=0->ts=#[t,t]->(∃A' c',y=.slice A' m c')->(Builtin.append_ ts ty #[.slice A n c,y]).run P w=.ok (.slice A n c) w:=by
  rintro A n c hnc rfl rfl ⟨A',c',rfl⟩;exact vW t ty hu hc A A' n c c' hnc
 have hem:∀(Z:Nat->Prop) (g:Nat->Nat->SV) i j,i<0->j<ei.size->∃v,([]:List Value)[i*ei.size+j]? =some v/\(g i j).rel σ Z w v:=λZ g i j hi=>ω;have nothing:∀(A:Option Addr) (R:Reg),(∃get',R=.vec e ei.size 0 get')->cY ((Builtin.append_ ts ty #[x,y]).run P w)=.ok (.value (.slice A 0 0)) w->∃y' w' L,cY ((Builtin.append_ ts ty #[x,y]).run P w)=.ok (.value y') w'/\MOK B W n0 (bH σ nx (some L)) (bH M nx (some R)) (λr=>F r/\r≠nx) w'/\
  bZ (Zof B σ M w) (Zof B (bH σ nx (some L)) (bH M nx (some R)) w') w w'/\(SV.sl nx ei.size 0 0 none).rel (bH σ nx (some L)) (Zof B (bH σ nx (some L)) (bH M nx (some R)) w') w' y'/\FrS true W n0 w w':=by
  rintro A R ⟨get',rfl⟩ hrun;obtain⟨e1,e2,e3⟩:=mW (w':=w) (L:=⟨none,0⟩) (R:=.vec e ei.size 0 get') hm hq hn0 (Nat.le_refl _) (λ_ _=>rfl) (λb hb=>by cases hb) (λσ' Z' _ _=>⟨Nat.le_refl _,by simp[maxLen],.inl ⟨rfl,rfl⟩⟩);exact⟨_,w,⟨none,0⟩,hrun,e1,e2,⟨⟨none,0⟩,A,aZ ..,rfl,τ,τ,τ,λ_=>.inl rfl⟩,FrS.refl ..⟩
 unfold uC;split
 ·cases hx
  rintro⟨o0,o1,o2,o3⟩;rcases hsame with ⟨⟨_,_,_,_,_,h⟩,_⟩ | ⟨ht,A',c',rfl,_⟩
  ·cases h
  by_cases h0:m=0
  ·subst h0;exact nothing none _ ⟨get,rfl⟩ (by rw[hzero (Nat.le_refl _) rfl ht ⟨_,_,rfl⟩];rfl)
  ·obtain⟨news,hs,h2⟩:=hsrc o0 o1;have:=aCz (ty:=ty) (A:=none) (n:=0) (c:=0) (olds:=[]) (g:=get) hm hq hn0 hc hs (Nat.le_refl _) τ τ ω ω ω ι (hem _ get) h2;have ej:aJ 0 m get get=λi j=>if i<m then get i j else get i j:=by
    funext i j;simp[aJ]
   simp only [Nat.zero_add,ej,ite_self] at this;exact this
 ·rename_i k n g;obtain⟨A,rfl,hA⟩:=hx;rintro⟨o0,o1,rfl,o2,o3,o4⟩;rcases hsame with ⟨⟨_,_,_,_,_,h⟩,_⟩ | ⟨ht,A',c',rfl,_⟩
  ·cases h
  by_cases h0:m=0
  ·subst h0;have hn:n=0:=ω;subst hn;exact nothing A _ ⟨_,rfl⟩ (by rw[hzero (Nat.le_refl _) rfl ht ⟨_,_,rfl⟩];rfl)
  ·obtain⟨news,hs,h2⟩:=hsrc o0 o1;have hro:gH M ei.size (.r (.rf ei.size n g))=some (ei.size=ei.size,n,λi j=>.r (g i j)):=rfl;obtain⟨A2,c2,olds,e1,e2,e3,e4,e5⟩:=pF (x:=.slice A n n) hm (s:=.r (.rf ei.size n g)) ⟨A,rfl,hA⟩ hro rfl
   cases e1
   exact aCz hm hq hn0 hc hs (Nat.le_refl _) e2 e3 e4 ω o4 o3 e5 h2
 ·rename_i ref k n;split
  ·rename_i e' k' N g hM;rintro⟨o0,o1,rfl,rfl,rfl,o2,o3,o4⟩;obtain⟨L,A,g1,rfl,g2,g3,g4,g5⟩:=hx;rcases hsame with ⟨⟨_,_,_,_,_,h⟩,_⟩ | ⟨ht,A',c',rfl,hsl⟩
   ·cases h
   obtain⟨news,⟨s1,s2,s3⟩,h2⟩:=hsl o0;obtain⟨L',e1,e2⟩:=hm.reg ref _ hM;rw[g1] at e1;cases e1;obtain⟨f0,fm,hf⟩:=e2;simp only [Option.getD_none,Nat.sub_zero] at g2 g3 g4 ⊢;have hkZ:∀w':World,(∀x,x<w.heap.size->L.at_≠some x->w'.heap[x]? =w.heap[x]?)->bZ (Zof B σ M w) (Zof B σ M w) w w':=λw' h b hb=>⟨hb,h b hb.1.1 λh=>hm.notZ hM g1 h hb⟩;by_cases h0:m=0
   ·
    subst h0;have hN:N+(n+0 - N)=N:=ω;rw[hN];obtain⟨m1,m2,m3⟩:=aDs (w':=w) (L:=L) (R:=.vec e' ei.size N λi j=>(aJ n 0 g get i j).kill ref) hm hn0 hM g1 (Nat.le_refl _) (λ_ _ _=>rfl) (λb hb=>.inl hb) (λσ' Z' hs hk=>⟨f0,fm,hf.imp id λ⟨b,cs,r1,r2,r3,ro,r4⟩=>⟨b,cs,r1,r2,r3,ro,λi j hi hj=>by
     obtain⟨v,v1,v0,v2⟩:=r4 i j hi hj;refine⟨v,v1,v0,?_⟩;have:aJ n 0 g get i j=g i j:=by unfold aJ;split;rfl;rw[if_neg ω]
     dsimp only;rw[this];exact SV.rel_kill hs hk _ _ v2⟩⟩)
    exact⟨_,w,L,by rw[hzero g2 rfl ht ⟨_,_,rfl⟩];rfl,m1,m2,⟨L,A,aZ ..,τ,by simpa using g2,τ,by simpa using g4,g5⟩,FrS.refl ..,m3⟩
   ·by_cases hfit:n+m<=L.cap
    ·
     obtain⟨b,b1,rfl⟩:=g4 ω;rcases hf with ⟨f1,_⟩ | ⟨b',cs,f1,f2,f3,fo,f5⟩
     ·rw[f1] at b1;cases b1
     rw[b1] at f1;cases f1;have hlen:n*ei.size+news.length<=cs.length:=by rw[s1,f3,<- Nat.add_mul];exact Nat.mul_le_mul_right _ hfit
     have hmp:0<m*ei.size:=Nat.mul_pos ω o1;obtain⟨b2,o2',rfl,hcell⟩:=s3 hmp;obtain⟨i,hi,hi2,hi3,hz⟩:=qB hc;have hrun:=run_append_room (P:=P) w t ty e' i hu hi b n L.cap cs.toArray f2 ⟨b2,o2',none⟩ m c' news (by rw[hi2];exact s1) (λj u hu=>by rw[dI];exact hcell j u hu) s2 hfit (by rw[hi2];simpa using hlen);rw[hi2] at hrun;have hpv:(cs.toArray.toList.take (n*ei.size)++news++cs.toArray.toList.drop (n*ei.size+news.length)).toArray=(hY cs (n*ei.size) news).toArray:=rfl;rw[hpv] at hrun;have hsm:∀x,x<w.heap.size->L.at_≠some x->(w.setRow b (hY cs (n*ei.size) news).toArray).heap[x]? =w.heap[x]?:=λx _ hx=>dZ _ λe=>hx (by rw[e];exact b1);obtain⟨m1,m2,m3⟩:=aDs (w':=w.setRow b (hY cs (n*ei.size) news).toArray) (L:=L) (R:=.vec e' ei.size (N+(n+m - N)) λi j=>(aJ n m g get i j).kill ref) hm hn0 hM g1 (by rw[eM];exact Nat.le_refl _) hsm (λb hb=>.inl hb)
      (λσ' Z' hs hk=>⟨ω,fm,.inr ⟨b,_,b1,iN f2,by rw[pB hlen];exact f3,pC fo s2,λi j hi hj=>by
        rw[tC hlen,s1];dsimp only;unfold aJ;by_cases hin:n<=i/\i<n+m
        ·rw[if_pos ((wO hj).2 hin),if_neg ω,if_pos hin.2];obtain⟨v,v1,v2⟩:=h2 (i - n) j ω hj;refine⟨v,?_,s2 v (List.mem_of_getElem? v1),SV.rel_kill hs hk _ _ v2⟩;rw[<- v1,Nat.sub_mul];have:n*ei.size<=i*ei.size:=Nat.mul_le_mul_right _ hin.1
         congr 1;omega
        ·rw[if_neg λh=>hin ((wO hj).1 h)];obtain⟨v,v1,v0,v2⟩:=f5 i j ω hj;refine⟨v,v1,v0,?_⟩;by_cases hlt:i<n
         ·rw[if_pos hlt];exact SV.rel_kill hs hk _ _ v2
         ·rw[if_neg hlt,if_neg ω];exact SV.rel_kill hs hk _ _ v2⟩⟩)
     refine⟨.slice (some ⟨b,0,none⟩) (n+m) L.cap,_,L,by rw[ht];simp only [Nat.zero_mul];rw[hrun];rfl,m1,m2,⟨L,some ⟨b,0,none⟩,aZ ..,τ,by simpa using hfit,τ,λ_=>⟨b,b1,τ⟩,λ_=>.inr (by rw[b1];rfl)⟩,⟨rfl,rfl,rfl,by rw[eM];exact Nat.le_refl _,Dr.setRow _ _ _,λx hx hw=>dZ _ λe=>?_⟩,m3⟩;subst e;rcases hm.own ref _ L x hM g1 b1 with h' | h'
     ·exact hw h'
     ·omega
    ·
     clear hf;have hnN:n=N:=ω;subst hnN;have hN:n+(n+m - n)=n+m:=ω;rw[hN];have hro:gH M ei.size (.sl ref ei.size 0 n none)=some (ei.size=ei.size/\ei.size=ei.size/\0+n<=n,n,λi j=>g (0+i) j):=by simp only [gH,hM]
     obtain⟨A2,c2,olds,q1,q2,q3,q4,q5⟩:=pF (x:=.slice A n L.cap) hm (s:=.sl ref ei.size 0 n none) ⟨L,A,g1,τ,by simpa using g2,τ,by simpa using g4,g5⟩ hro ⟨rfl,rfl,ω⟩
     cases q1
     obtain⟨cap,c1,c2,hrun⟩:=(aCk (P:=P) (c':=c') hu hc s1 s2 s3).2.2 ty A n L.cap olds g2 q2 q4 ω (by unfold maxLen;omega) o3;have hsm:∀o x,x<w.heap.size->L.at_≠some x->(w.drew.alloc o).heap[x]? =w.heap[x]?:=λo x hx _=>gF w.drew o x hx;have hjc:=λrest=>sT (Z:=Zof B σ M w) (w:=w) (rest:=rest) q2 q5 s1 h2;obtain⟨m1,m2,m3⟩:=aDs (w':=w.drew.alloc (.cells (olds++news++(Builtin.zeroCells ei.zeroV.cells (cap - (n+m))).toList).toArray e')) (L:=⟨some w.heap.size,cap⟩) (R:=.vec e' ei.size (n+m) λi j=>(aJ n m g get i j).kill ref) hm hn0 hM g1 τ (hsm _) (λb hb=>.inr (by cases hb;exact Nat.le_refl _))
      (λσ' Z' hs hk=>⟨c1,c2,.inr ⟨w.heap.size,_,rfl,kH w.drew _,by
        show _=cap*ei.size;rw[List.length_append,List.length_append,q2,s1,eU hc,dY,List.length_map,nK hc,<- Nat.add_mul,<- Nat.add_mul]
        congr 1;omega,by
        intro v hv;simp only [List.mem_append] at hv;rcases hv with (hv | hv) | hv
        ·exact q3 v hv
        ·exact s2 v hv
        ·rw[eU hc] at hv;exact tD _ _ v hv,λi j hi hj=>by
        obtain⟨v,v1,v2⟩:=hjc (Builtin.zeroCells ei.zeroV.cells (cap - (n+m))).toList i j hi hj;refine⟨v,v1,?_,?_⟩
        ·have hv:=List.mem_of_getElem? v1;simp only [List.mem_append] at hv;rcases hv with (hv | hv) | hv
         ·exact q3 v hv
         ·exact s2 v hv
         ·rw[eU hc] at hv;exact tD _ _ v hv
        ·have e:aJ n m g get i j=aJ n m (λi j=>g (0+i) j) get i j:=by simp only [Nat.zero_add]
         dsimp only;rw[e];exact SV.rel_kill hs hk _ _ v2⟩⟩)
     refine⟨_,_,⟨some w.heap.size,cap⟩,by rw[ht,hrun];rfl,m1,m2,⟨⟨some w.heap.size,cap⟩,_,aZ ..,τ,by simpa using c1,τ,λ_=>⟨w.heap.size,rfl,τ⟩,λ_=>.inr rfl⟩,⟨rfl,rfl,rfl,τ,(Dr.drew w).trans (Dr.alloc w.drew _ (by intro c t fr h;cases h <;> rfl)),λx hx _=>gF w.drew _ x (show x<w.heap.size by omega)⟩,m3⟩
  ·trivial
 ·rename_i ref k lo n c;split
  ·rename_i e' k' N g hM;rintro⟨o0,o1,rfl,rfl,o2,o3,o4,o5⟩;obtain⟨L,A,g1,rfl,g2,g3,g4,g5⟩:=hx;simp only [Option.getD_some] at g2 g3 g4 ⊢;by_cases h0:m=0
   ·subst h0;have hn:n=0:=ω;have hcz:c=0:=ω;subst hn;subst hcz;rcases hsame with ⟨_,h⟩ | ⟨ht,A',c',rfl,_⟩
    ·exact absurd (h o0) (Nat.lt_irrefl 0)
    simp only [Option.getD_some] at nothing;exact nothing A _ ⟨_,rfl⟩ (by rw[hzero (Nat.le_refl _) rfl ht ⟨_,_,rfl⟩];rfl)
   ·obtain⟨news,hs,h2⟩:=hsrc o0 o1;have hro:gH M ei.size (.sl ref ei.size lo n (some c))=some (ei.size=ei.size/\ei.size=ei.size/\lo+n<=N,n,λi j=>g (lo+i) j):=by simp only [gH,hM]
    obtain⟨A2,c2,olds,q1,q2,q3,q4,q5⟩:=pF (x:=.slice A n c) hm (s:=.sl ref ei.size lo n (some c)) ⟨L,A,g1,τ,by simpa using g2,by simpa using g3,by simpa using g4,g5⟩ hro ⟨rfl,rfl,o2⟩
    cases q1
    exact aCz hm hq hn0 hc hs g2 q2 q3 q4 ω o5 o4 q5 h2
  ·trivial
 ·trivial
theorem aI5 (hT:aX P T) (hm:MOK B W n0 σ M F w) (hq:F nx) (hn0:n0<=w.heap.size) (t ty:TypeId) {s s':SV} {x y:Value} (hx:s.rel σ (Zof B σ M w) w x) (hy:s'.rel σ (Zof B σ M w) w y) :
 rA P B W n0 σ M F nx w (cY ((Builtin.append_ #[t,t] ty #[x,y]).run P w)) (kW T t M nx s s'):=by
 unfold kW;split
 ·rename_i sz by_ ze e hti;have hu:=eK (hT.ti t _ hti) rfl;split
  ·trivial
  rename_i ei hei;have hc:=hT.ti e ei hei;split
  ·trivial
  rename_i ob m get hrows;by_cases hob:ob
  ·obtain⟨A,c,news,rfl,n1,n2,n3,n4⟩:=pF hm hy hrows hob;exact aGr hT hm hq hn0 t ty e hu hc hx (λ_ _=>⟨news,aCk hu hc n1 n2 n3,n4⟩) (.inr ⟨rfl,A,c,rfl,λ_=>⟨news,⟨n1,n2,n3⟩,n4⟩⟩)
  ·unfold uC
   repeat' split
   all_goals first | trivial | exact λh=>absurd h.1 hob
 ·trivial
theorem aGq (hT:aX P T) (hm:MOK B W n0 σ M F w) (hq:F nx) (hn0:n0<=w.heap.size) (t t' ty:TypeId) {s s':SV} {x y:Value} (hx:s.rel σ (Zof B σ M w) w x) (hy:s'.rel σ (Zof B σ M w) w y) :
 rA P B W n0 σ M F nx w (cY ((Builtin.append_ #[t,t'] ty #[x,y]).run P w)) (iJ T t t' M nx s s'):=by
 unfold iJ;split
 ·rename_i sz by_ ze e k m hti hti';have hu:=eK (hT.ti t _ hti) rfl
  cases hy
  have hz:∃i',T.ti t'=some i'/\i'.kind=.int k:=by
   cases hq:T.ti t' with
   | none=>rw[hq] at hti';cases hti'
   | some i'=>rw[hq] at hti';simp at hti';exact⟨i',rfl,hti'⟩
  obtain⟨i',hi',hk'⟩:=hz;have huz:=wR (hT.ti t' i' hi') hk';split
  ·trivial
  rename_i ei hei;have hc:=hT.ti e ei hei;split
  ·rename_i ref k0 lo n c;refine aGr hT hm hq hn0 t ty e hu hc hx (λhob hsz=>?_) (.inl ⟨⟨_,_,_,_,_,rfl⟩,λhob=>ω⟩);obtain⟨h1,h2,h3⟩:=hob;obtain⟨q,rfl⟩:∃q:Nat,m=q:=⟨m.toNat,ω⟩;simp only [Int.toNat_natCast];refine⟨fE (ei.zero.map ZK.val) q,aOc hu huz hc hsz ω (by rw[<- Int.natCast_mul] at h2;omega) ω,λi j hi hj=>?_⟩;obtain⟨v,v1,_,v2⟩:=aGh (w:=w) hc hi hj (Zof B σ M w);exact⟨v,v1,v2⟩
  ·trivial
 ·trivial
end
end Go.Gx
namespace Go.Gx
open Go.RowKit
section
variable {P:Program} {T:Tab} {B W F:Nat->Prop} {n0:Nat} {σ:Sig} {M:Mem} {nx:Nat} {w:World} {a:Act} {E:Env}
theorem aGm (hm:MOK B W n0 σ M F w) {ref:Nat} {e k N:Nat} {g:Nat->Nat->SV} (hM:M ref=some (.vec e k N g)) {L:rY} {b:Nat} (hσ:σ ref=some L) (hb:L.at_=some b) {cs:List Value} (hh:w.heap[b]? =some (.cells cs.toArray e (0,0)))
 (hcs:cs.length=L.cap*k) {lo cnt:Nat} {vs:List Value} (hv:vs.length=cnt*k) (hle:lo+cnt<=N) (h1:∀v∈vs,v.oneCell'=true) {h:Nat->Nat->SV}
 (hnew:∀i j,i<cnt->j<k->∃v,vs[i*k+j]? =some v/\v.oneCell'=true/\(h i j).rel σ (Zof B σ M w) w v) :
 MOK B W n0 σ (bH M ref (some (.vec e k N λi j=>if lo<=i/\i<lo+cnt then h (i - lo) j else g i j))) F (w.setRow b (hY cs (lo*k) vs).toArray)/\
  bZ (Zof B σ M w) (Zof B σ (bH M ref (some (.vec e k N λi j=>if lo<=i/\i<lo+cnt then h (i - lo) j else g i j))) (w.setRow b (hY cs (lo*k) vs).toArray)) w (w.setRow b (hY cs (lo*k) vs).toArray):=by
 obtain⟨L',e1,e2⟩:=hm.reg ref _ hM;rw[hσ] at e1;cases e1;obtain⟨f0,fm,f | ⟨b',cs',f1,f2,f3,fo,f5⟩⟩:=e2
 ·rw[hb] at f;cases f.1
 rw[hb] at f1;cases f1;rw[hh] at f2;cases f2;have hfit:lo*k+vs.length<=cs.length:=by rw[hv,hcs,<- Nat.add_mul];exact Nat.mul_le_mul_right k ω
 refine mX hm hM hσ hb (eM ..) (λx hx=>dZ _ hx) λZ' hk=>⟨f0,fm,.inr ⟨b,_,hb,iN hh,by rw[pB hfit];exact hcs,pC fo h1,λi j hi hj=>?_⟩⟩;rw[tC hfit,hv];by_cases hin:lo<=i/\i<lo+cnt
 ·rw[if_pos ((wO hj).2 hin)];dsimp only;rw[if_pos hin];obtain⟨v,v1,v0,v2⟩:=hnew (i - lo) j ω hj;refine⟨v,?_,v0,SV.rel_mono (λ_ _ h=>h) hk _ _ v2⟩;rw[<- v1,Nat.sub_mul];have:lo*k<=i*k:=Nat.mul_le_mul_right k hin.1
  congr 1;omega
 ·rw[if_neg λh=>hin ((wO hj).1 h)];dsimp only;rw[if_neg hin];obtain⟨v,v1,v0,v2⟩:=f5 i j hi hj;exact⟨v,v1,v0,SV.rel_mono (λ_ _ h=>h) hk _ _ v2⟩
theorem tG {b o:Nat} {cs vs:List Value} {ty:TypeId} (hb:w.heap[b]? =some (.cells cs.toArray ty (0,0))) (ho:o+vs.length<=cs.length) (h1:∀v∈vs,v.oneCell'=true) :
 (storeCells ⟨b,o,none⟩ vs).run P w=.ok () (w.setRow b (hY cs o vs).toArray):=by
 have:=run_storeCells_at P b o ty vs 0 cs.toArray w hb (by simpa using ho) h1;simpa [hY] using this
theorem aTh (hT:aX P T) (hm:MOK B W n0 σ M F w) (t t' ty:TypeId) {s s':SV} {x y:Value} (hx:s.rel σ (Zof B σ M w) w x) (hy:s'.rel σ (Zof B σ M w) w y) :
 rA P B W n0 σ M F nx w (cY ((Builtin.copy_ #[t,t'] ty #[x,y]).run P w)) (yD T t M s s'):=by
 unfold yD;split
 ·rename_i sz by_ ze e hti;have hu:=eK (hT.ti t _ hti) rfl;split
  ·trivial
  rename_i ei hei;have hc:=hT.ti e ei hei;split
  ·rename_i ob m get ref k lo n c hrows;split
   ·rename_i e' k' N g hM;rintro⟨o0,rfl,rfl,o3⟩;obtain⟨A,c2,news,rfl,n1,n2,n3,n4⟩:=pF hm hy hrows o0;obtain⟨L,A',g1,rfl,g2,g3,g4,g5⟩:=hx;obtain⟨L',e1,e2⟩:=hm.reg ref _ hM;rw[g1] at e1;cases e1;have hcnt:min m n<=m/\min m n<=n:=⟨Nat.min_le_left ..,Nat.min_le_right ..⟩;by_cases h0:min m n*ei.size=0
    ·
     have hrun:(Builtin.copy_ #[t,t'] ty #[.slice A' n (c.getD (L.cap - lo)),.slice A m c2]).run P w=.ok (goInt (min m n:Nat)) w:=by
      simp only [Builtin.copy_];simp[run_underlying hu,Builtin.lenOf,gI hc,h0]
      cases A <;> cases A' <;> simp[Builtin.firstCells,h0,loadCells,loadCellsFrom,storeCells]
     obtain⟨m1,m2⟩:=pI (R':=.vec e' ei.size N λi j=>if lo<=i/\i<lo+min m n then get (i - lo) j else g i j) hm hM (λL Z w' _ h=>by
      obtain⟨q0,qm,q⟩:=h;refine⟨q0,qm,q.imp id λ⟨b,cs,q1,q2,q3,qo,q4⟩=>⟨b,cs,q1,q2,q3,qo,λi j hi hj=>?_⟩⟩;have hz:min m n=0:=by
       rcases Nat.mul_eq_zero.1 h0 with h | h
       ·exact h
       ·omega
      dsimp only;rw[hz,if_neg ω];exact q4 i j hi hj)
     exact⟨_,w,.inl (by rw[hrun];rfl),m1,m2,rfl,FrS.refl ..⟩
    ·have hpos:0<min m n:=by
      rcases Nat.eq_zero_or_pos (min m n) with h | h
      ·rw[h] at h0;simp at h0
      ·exact h
     have hsz:0<ei.size:=by
      rcases Nat.eq_zero_or_pos ei.size with h | h
      ·rw[h] at h0;simp at h0
      ·exact h
     obtain⟨b,q1,rfl⟩:=g4 ω;obtain⟨b2,o2,rfl,hcell⟩:=n3 (Nat.mul_pos ω hsz);obtain⟨f0,fm,f | ⟨b',cs,f1,f2,f3,fo,f5⟩⟩:=e2
     ·rw[q1] at f;cases f.1
     rw[q1] at f1;cases f1;have hlen:(news.take (min m n*ei.size)).length=min m n*ei.size:=by
      rw[List.length_take,n1];exact Nat.min_eq_left (Nat.mul_le_mul_right _ hcnt.1)
     have hload:=run_loadCells_list (P:=P) w ⟨b2,o2,none⟩ (news.take (min m n*ei.size)) (λj v hv=>by
      rw[List.getElem?_take] at hv;split at hv
      ·rw[dI];exact hcell j v hv
      ·cases hv)
     rw[hlen] at hload;have hfit:lo*ei.size+(news.take (min m n*ei.size)).length<=cs.length:=by rw[hlen,f3,<- Nat.add_mul];exact Nat.mul_le_mul_right _ ω
     have hst:=tG (P:=P) f2 hfit (λv hv=>n2 v (List.mem_of_mem_take hv));have hrun:(Builtin.copy_ #[t,t'] ty #[.slice (some ⟨b,lo*ei.size,none⟩) n (c.getD (L.cap - lo)),.slice (some ⟨b2,o2,none⟩) m c2]).run P w=.ok (goInt (min m n:Nat)) (w.setRow b (hY cs (lo*ei.size) (news.take (min m n*ei.size))).toArray):=by
      simp only [Builtin.copy_];simp only [List.getElem?_toArray,List.getElem?_cons_zero,List.getElem?_cons_succ,Sem.run_bind,run_underlying hu,Result.andThen_ok,Builtin.lenOf,Sem.run_pure,gI hc,Builtin.firstCells];rw[show Nat.min m n=min m n from rfl,hload];simp only [Result.andThen_ok];rw[hst];rfl
     obtain⟨m1,m2⟩:=aGm (lo:=lo) (cnt:=min m n) (h:=get) hm hM g1 q1 f2 f3 hlen ω (λv hv=>n2 v (List.mem_of_mem_take hv)) (λi j hi hj=>by
      obtain⟨v,v1,v2⟩:=n4 i j ω hj;refine⟨v,?_,n2 v (List.mem_of_getElem? v1),v2⟩;rw[List.getElem?_take,if_pos (pD hi hj)];exact v1)
     exact⟨_,_,.inl (by rw[hrun];rfl),m1,m2,rfl,FrS.setRow hm hM g1 q1 _⟩
   ·trivial
  ·trivial
 ·trivial
theorem aN6 (hT:aX P T) (hm:MOK B W n0 σ M F w) (t ty:TypeId) {s:SV} {x:Value} (hx:s.rel σ (Zof B σ M w) w x) :
 rA P B W n0 σ M F nx w (cY ((Builtin.clear_ #[t] ty #[x]).run P w)) (rJ T t M s):=by
 unfold rJ;split
 ·rename_i sz by_ ze e hti;have hu:=eK (hT.ti t _ hti) rfl;split
  ·trivial
  rename_i ei hei;have hc:=hT.ti e ei hei;split
  ·rename_i ref k lo n c;split
   ·rename_i e' k' N g hM;rintro⟨rfl,rfl,o3⟩;obtain⟨L,A',g1,rfl,g2,g3,g4,g5⟩:=hx;obtain⟨L',e1,e2⟩:=hm.reg ref _ hM;rw[g1] at e1;cases e1;by_cases h0:n=0
    ·subst h0;have hrun:(Builtin.clear_ #[t] ty #[.slice A' 0 (c.getD (L.cap - lo))]).run P w=.ok (.tuple #[]) w:=by
      simp only [Builtin.clear_]
      cases A' <;> simp[run_underlying hu]
     obtain⟨m1,m2⟩:=pI (R':=.vec e' ei.size N λi j=>if lo<=i/\i<lo+0 then (match ei.zero[j]? with | some z=>.r (.v z.val) | none=>.r .any) else g i j) hm hM (λL Z w' _ h=>by
      obtain⟨q0,qm,q⟩:=h;refine⟨q0,qm,q.imp id λ⟨b,cs,q1,q2,q3,qo,q4⟩=>⟨b,cs,q1,q2,q3,qo,λi j hi hj=>?_⟩⟩;dsimp only;rw[if_neg ω];exact q4 i j hi hj)
     exact⟨_,w,.inl (by rw[hrun];rfl),m1,m2,⟨[],rfl,rfl⟩,FrS.refl ..⟩
    ·obtain⟨b,q1,rfl⟩:=g4 ω;obtain⟨f0,fm,f | ⟨b',cs,f1,f2,f3,fo,f5⟩⟩:=e2
     ·rw[q1] at f;cases f.1
     rw[q1] at f1;cases f1;have hzc:=fY hc;have hlz:=nK hc;have hze:(Builtin.zeroCells ei.zeroV.cells n).toList=fE (ei.zero.map ZK.val) n:=by
      unfold Builtin.zeroCells;rcases Nat.eq_zero_or_pos ei.zero.length with h | h
      ·have:ei.zeroV.cells.size=0:=by rw[<- Array.length_toList,hzc];simp[h]
       have h2:ei.zero=[]:=List.eq_nil_of_length_eq_zero h;rw[this,h2];have:∀n,fE ([]:List Value) n=[]:=by intro n;induction n with
        | zero=>rfl
        | succ n ih=>simp[fE,ih]
       simp[this]
      ·have:=tO n h ei.zeroV.cells hzc;have h3:ei.zeroV.cells.size=ei.zero.length:=by rw[<- Array.length_toList,hzc];simp
       rw[h3,show(Array.range (n*ei.zero.length)).map (λi=>ei.zeroV.cells[i % ei.zero.length]!)=(Array.range (n*ei.zero.length)).map (λi=>ei.zeroV.cells[i % ei.zeroV.cells.size]!) from by rw[h3],this]
     have hlen:(fE (ei.zero.map ZK.val) n).length=n*ei.size:=by rw[dY,List.length_map,hlz]
     have hfit:lo*ei.size+(fE (ei.zero.map ZK.val) n).length<=cs.length:=by rw[hlen,f3,<- Nat.add_mul];exact Nat.mul_le_mul_right _ ω
     have hone:∀v∈fE (ei.zero.map ZK.val) n,v.oneCell'=true:=by
      intro v hv;obtain⟨j,hj,rfl⟩:=List.getElem_of_mem hv;have h1:=lZ (ei.zero.map ZK.val) n j (by rw[dY] at hj;exact hj);rw[List.getElem?_eq_getElem hj] at h1;have:=List.mem_of_getElem? h1.symm;obtain⟨z,_,hz⟩:=List.mem_map.1 this;rw[<- hz];exact ZK.val_one z
     have hst:=tG (P:=P) f2 hfit hone;have hrun:(Builtin.clear_ #[t] ty #[.slice (some ⟨b,lo*ei.size,none⟩) n (c.getD (L.cap - lo))]).run P w=.ok (.tuple #[]) (w.setRow b (hY cs (lo*ei.size) (fE (ei.zero.map ZK.val) n)).toArray):=by
      simp only [Builtin.clear_];simp only [List.getElem?_toArray,List.getElem?_cons_zero,Sem.run_bind,run_underlying hu,Result.andThen_ok]
      cases n with
      | zero=>omega
      | succ n=>
        rw[mA hc,Result.andThen_ok];rw[hze,hst];rfl
     obtain⟨m1,m2⟩:=aGm (lo:=lo) (cnt:=n) (h:=λi j=>(match ei.zero[j]? with | some z=>SV.r (.v z.val) | none=>.r .any)) hm hM g1 q1 f2 f3 hlen ω hone (λi j hi hj=>by
      rw[lZ _ _ _ (by rw[List.length_map,hlz];exact pD hi hj)];have:(i*ei.size+j) % ei.size=j:=by rw[Nat.mul_comm,Nat.mul_add_mod];exact Nat.mod_eq_of_lt hj
      rw[List.length_map,hlz,this,List.getElem?_map];have hj':j<ei.zero.length:=ω;rw[List.getElem?_eq_getElem hj'];exact⟨_,rfl,ZK.val_one _,rfl⟩)
     exact⟨_,_,.inl (by rw[hrun];rfl),m1,m2,⟨[],rfl,rfl⟩,FrS.setRow hm hM g1 q1 _⟩
   ·trivial
  ·cases hx
   intro _;exact POut.of (y:=.tuple #[]) (by simp[Builtin.clear_,run_underlying hu]) ⟨[],rfl,rfl⟩
  ·trivial
 ·trivial
theorem aXj (hT:aX P T) (t ty:TypeId) {s:SV} {x:Value} (hx:s.rel σ (Zof B σ M w) w x) :
 rA P B W n0 σ M F nx w (cY ((Builtin.len_ #[t] ty #[x]).run P w)) (aQ4 T t s):=by
 unfold aQ4;split
 ·rename_i sz by_ ze e hti;have hu:=eK (hT.ti t _ hti) rfl;split
  ·obtain⟨A,c,rfl,_⟩:=hx;intro _;exact POut.of (by simp[Builtin.len_,run_underlying hu];rfl) rfl
  ·obtain⟨A,rfl,_⟩:=hx;intro _;exact POut.of (by simp[Builtin.len_,run_underlying hu];rfl) rfl
  ·obtain⟨L,A,_,rfl,_⟩:=hx;intro _;exact POut.of (by simp[Builtin.len_,run_underlying hu];rfl) rfl
  ·cases hx
   intro _;exact POut.of (by simp[Builtin.len_,run_underlying hu];rfl) rfl
  ·trivial
 ·rename_i sz by_ ze n es g hti;obtain⟨e,hu,_,_⟩:=qD (hT.ti t _ hti) rfl;intro _;exact POut.of (by simp[Builtin.len_,run_underlying hu];rfl) rfl
 ·trivial
theorem aXk (ts:Array TypeId) (ty:TypeId) {l:List SV} {vs:List Value} (hx:SV.relL σ (Zof B σ M w) w l vs) :
 rA P B W n0 σ M F nx w (cY ((Builtin.max_ ts ty vs.toArray).run P w)) (mP true l):=by
 unfold mP;split
 ·rename_i x y;obtain⟨_,_,rfl,e1,_,_,rfl,e2,e3⟩:=hx
  cases e1;cases e2;cases e3
  intro _;refine POut.of (y:=.int .i64 (max x y)) ?_ rfl;simp[Builtin.max_,Builtin.max2];split <;> omega
 ·rename_i x y z;obtain⟨_,_,rfl,e1,_,_,rfl,e2,_,_,rfl,e3,e4⟩:=hx
  cases e1;cases e2;cases e3;cases e4
  intro _;refine POut.of (y:=.int .i64 (max (max x y) z)) ?_ rfl;simp[Builtin.max_,Builtin.max2];split <;> split <;> omega
 ·trivial
theorem aXl (ts:Array TypeId) (ty:TypeId) {l:List SV} {vs:List Value} (hx:SV.relL σ (Zof B σ M w) w l vs) :
 rA P B W n0 σ M F nx w (cY ((Builtin.min_ ts ty vs.toArray).run P w)) (mP false l):=by
 unfold mP;split
 ·rename_i x y;obtain⟨_,_,rfl,e1,_,_,rfl,e2,e3⟩:=hx
  cases e1;cases e2;cases e3
  intro _;refine POut.of (y:=.int .i64 (min x y)) ?_ rfl;simp[Builtin.min_,Builtin.min2];split <;> omega
 ·rename_i x y z;obtain⟨_,_,rfl,e1,_,_,rfl,e2,_,_,rfl,e3,e4⟩:=hx
  cases e1;cases e2;cases e3;cases e4
  intro _;refine POut.of (y:=.int .i64 (min (min x y) z)) ?_ rfl;simp[Builtin.min_,Builtin.min2];split <;> split <;> omega
 ·trivial
end
end Go.Gx
namespace Go.Gx
open Go.RowKit Go.MapKept Go.ChangeMaps
section
variable {P:Program} {T:Tab} {B W F:Nat->Prop} {n0:Nat} {σ:Sig} {M:Mem} {nx:Nat} {w:World} {a:Act} {E:Env}
theorem lV (hT:aX P T) {t e:TypeId} (h:aFz T t=some e):∃k,P.underlying t=some (.map k e)/\P.underlying k=some (.int .i64):=by
 unfold aFz at h;split at h
 ·rename_i sz by_ ze k e' hti;split at h
  ·rename_i s1 b1 z1 hk
   cases h
   exact⟨k,aXx (hT.ti t _ hti) rfl,wR (hT.ti k _ hk) rfl⟩
  ·cases h
 ·cases h
theorem lU (a:Int):MapKept.IsKey (.int .i64) (.int .i64 a):=rfl
theorem MapOf.keys {has:Int->Bool} {R:Int->Value->Prop} {es:List MapEntry} {ck:Nat} (h:MapOf has R es ck):∀x∈es,MapKept.IsKey (.int .i64) x.key:=λx hx=>by
 obtain⟨a,h1,_⟩:=h.1 x hx;rw[h1];rfl
theorem MapOf.find {has:Int->Bool} {R:Int->Value->Prop} {es:List MapEntry} {ck:Nat} (h:MapOf has R es ck) {kt:TypeId} (hk:P.underlying kt=some (.int .i64)) (a:Int) :
 (has a=false/\(Instr.findKey kt (.int .i64 a) es).run P w=.ok none w/\∀e∈es,e.key≠.int .i64 a)\/
 (has a=true/\∃j e,(Instr.findKey kt (.int .i64 a) es).run P w=.ok (some (j,e.val)) w/\es[j]? =some e/\e.key=.int .i64 a/\e.val.oneCell'=true/\R a e.val):=by
 rcases MapKept.findNow_spec (d:=.int .i64) (k:=.int .i64 a) rfl es 0 h.keys with ⟨h1,h2⟩ | ⟨j,e,h1,h2,h3⟩
 ·refine .inl ⟨?_,MapKept.run_findKey hk h1,h2⟩
  cases hh:has a with
  | false=>rfl
  | true=>obtain⟨e,he,hk'⟩:=h.2.1 a hh;exact absurd hk' (h2 e he)
 ·obtain⟨a',e1,e2,e3,e4⟩:=h.1 e (List.mem_of_getElem? h2);rw[h3] at e1;cases e1;exact .inr ⟨e2,j,e,by rw[MapKept.run_findKey hk h1];simp,h2,h3,e3,e4⟩
theorem rQ {Z:Nat->Prop} {s:SV} {v:Value} (ok b:Bool) (h:s.rel σ Z w v):(yW ok s b).rel σ Z w (if ok then .tuple #[v,.bool b] else v):=by
 cases ok
 ·exact h
 ·exact⟨[v,.bool b],rfl,v,_,rfl,h,_,_,rfl,rfl,rfl⟩
theorem aI8 (hT:aX P T) (hm:MOK B W n0 σ M F w) (t:TypeId) (ok:Bool) {s s':SV} {x y:Value} (hx:s.rel σ (Zof B σ M w) w x) (hy:s'.rel σ (Zof B σ M w) w y) :
 rA P B W n0 σ M F nx w (cY ((Instr.lookup t x y ok).run P w)) (jH T M t s s' ok):=by
 unfold jH;split
 ·trivial
 rename_i e he;obtain⟨k,hu,hk⟩:=lV hT he;split
 ·trivial
 rename_i ei hei;have hz:=mA (hT.ti e ei hei) w;split
 ·trivial
 split
 ·rename_i a
  cases hy
  have key:∀(b:Nat) (es:Array MapEntry) (ck:Nat) (has:Int->Bool) (val:Int->SV),x=.map (some b)->w.heap[b]? =some (.map es ck)->MapOf has (λa v=>(val a).rel σ (Zof B σ M w) w v) es.toList ck->
   rA P B W n0 σ M F nx w (cY ((Instr.lookup t x (.int .i64 a) ok).run P w)) (aQ3 ok (has a) (val a) (.r (.v ei.zeroV))):=by
   intro b es ck has val ex hb hmo;subst ex;unfold aQ3;rcases hmo.find (P:=P) (w:=w) hk a with ⟨h1,h2,h3⟩ | ⟨h1,j,en,h2,h3,h4,h5,h6⟩
   ·rw[if_neg (by rw[h1];simp)];intro _;refine POut.of (y:=if ok then .tuple #[ei.zeroV,.bool false] else ei.zeroV) ?_ (rQ ok false rfl);simp[Instr.lookup,run_underlying hu,MapKept.run_getObj_map hb,MapKept.run_checkKey (d:=.int .i64) hk (lU a) _ 9999,h2,hz,Result.andThen]
   ·rw[if_pos h1];intro _;refine POut.of (y:=if ok then .tuple #[en.val,.bool true] else en.val) ?_ (rQ ok true h6);simp[Instr.lookup,run_underlying hu,MapKept.run_getObj_map hb,MapKept.run_checkKey (d:=.int .i64) hk (lU a) _ 9999,h2,Result.andThen]
  split
  ·rename_i ref;obtain⟨L,b,g1,g2,g3⟩:=hx;split
   ·rename_i has val st hM;obtain⟨L',e1,b',es,ck,f1,f2,f3,f4⟩:=hm.reg ref _ hM;rw[g1] at e1;cases e1;rw[g2] at f1;cases f1;exact key b es ck has val g3 f2 f3
   ·trivial
  ·rename_i has val;obtain⟨b,es,ck,g1,g2,g3,g4⟩:=hx;exact key b es ck has (λa=>.r (val a)) g1 g3 g4
  ·cases hx
   intro _;refine POut.of (y:=if ok then .tuple #[ei.zeroV,.bool false] else ei.zeroV) ?_ (rQ ok false rfl);have hf:(Instr.findKey k (.int .i64 a) []).run P w=.ok none w:=MapKept.run_findKey hk (by rfl);simp[Instr.lookup,run_underlying hu,MapKept.run_checkKey (d:=.int .i64) hk (lU a) _ 9999,hf,hz,Result.andThen]
  ·trivial
 ·trivial
theorem MapOf.put {has:Int->Bool} {R R':Int->Value->Prop} {es:List MapEntry} {ck:Nat} (h:MapOf has R es ck) {a:Int} {y:Value} {j:Nat} {e:MapEntry} (hj:es[j]? =some e) (hk:e.key=.int .i64 a) (h1:y.oneCell'=true) (hy:R' a y)
 (hr:∀b v,b≠a->R b v->R' b v):MapOf (λk=>if k=a then true else has k) R' (es.set j {e with key:=.int .i64 a,val:=y}) ck:=by
 obtain⟨q1,q2,q3,q4⟩:=h;have hlt:j<es.length:=(List.getElem?_eq_some_iff.1 hj).1;have hej:es[j]=e:=(List.getElem?_eq_some_iff.1 hj).2;refine⟨λe' he'=>?_,λb hb=>?_,?_,λe' he'=>?_⟩
 ·obtain⟨i,hi,rfl⟩:=List.getElem_of_mem he';rw[List.getElem_set];by_cases hij:j=i
  ·rw[if_pos hij];exact⟨a,rfl,τ,h1,hy⟩
  ·rw[if_neg hij];have hi':i<es.length:=by simpa using hi
   obtain⟨b,e1,e2,e3,e4⟩:=q1 es[i] (List.getElem_mem hi');have hne:b≠a:=by
    rintro rfl;have hp:=List.pairwise_iff_getElem.1 q3;rcases Nat.lt_or_ge i j with hlt' | hge
    ·exact(hp i j hi' hlt hlt').1 (by rw[e1,hej,hk])
    ·exact(hp j i hlt hi' ω).1 (by rw[e1,hej,hk])
   exact⟨b,e1,by dsimp only;rw[if_neg hne];exact e2,e3,hr b _ hne e4⟩
 ·dsimp only at hb;by_cases hba:b=a
  ·subst hba;exact⟨{e with key:=.int .i64 b,val:=y},List.mem_of_getElem? (i:=j) (by rw[List.getElem?_set,if_pos rfl,if_pos hlt]),rfl⟩
  ·rw[if_neg hba] at hb;obtain⟨e',m1,m2⟩:=q2 b hb;obtain⟨i,hi,rfl⟩:=List.getElem_of_mem m1;have hij:j≠i:=by
    rintro rfl;rw[hej,hk] at m2
    cases m2;exact hba rfl
   exact⟨es[i],List.mem_of_getElem? (i:=i) (by rw[List.getElem?_set,if_neg hij];exact List.getElem?_eq_getElem hi),m2⟩
 ·rw[List.pairwise_iff_getElem] at q3 ⊢;intro i i' hi hi' hlt';rw[List.length_set] at hi hi';have base:=q3 i i' hi hi' hlt';rw[List.getElem_set,List.getElem_set];by_cases c1:j=i
  ·subst c1;rw[if_pos rfl,if_neg ω];rw[hej] at base;exact⟨λh=>base.1 (by rw[hk];exact h),base.2⟩
  ·rw[if_neg c1];by_cases c2:j=i'
   ·subst c2;rw[if_pos rfl];rw[hej] at base;exact⟨λh=>base.1 (by rw[hk];exact h),base.2⟩
   ·rw[if_neg c2];exact base
 ·obtain⟨i,hi,rfl⟩:=List.getElem_of_mem he';rw[List.getElem_set];split
  ·exact q4 e (List.mem_of_getElem? hj)
  ·exact q4 _ (List.getElem_mem _)
theorem MapOf.add {has:Int->Bool} {R R':Int->Value->Prop} {es:List MapEntry} {ck:Nat} (h:MapOf has R es ck) {a:Int} {y:Value} (hn:∀e∈es,e.key≠.int .i64 a) (h1:y.oneCell'=true) (hy:R' a y)
 (hr:∀b v,b≠a->R b v->R' b v):MapOf (λk=>if k=a then true else has k) R' (es++[{key:=.int .i64 a,val:=y,born:=ck}]) (ck+1):=by
 obtain⟨q1,q2,q3,q4⟩:=h;refine⟨λe' he'=>?_,λb hb=>?_,?_,λe' he'=>?_⟩
 ·rcases List.mem_append.1 he' with h | h
  ·obtain⟨b,e1,e2,e3,e4⟩:=q1 e' h;have hne:b≠a:=by rintro rfl;exact hn e' h e1
   exact⟨b,e1,by dsimp only;rw[if_neg hne];exact e2,e3,hr b _ hne e4⟩
  ·simp at h;subst h;exact⟨a,rfl,τ,h1,hy⟩
 ·dsimp only at hb;by_cases hba:b=a
  ·subst hba;exact⟨_,List.mem_append.2 (.inr (List.mem_singleton.2 rfl)),rfl⟩
  ·rw[if_neg hba] at hb;obtain⟨e',m1,m2⟩:=q2 b hb;exact⟨e',List.mem_append.2 (.inl m1),m2⟩
 ·refine List.pairwise_append.2 ⟨q3,List.pairwise_singleton ..,λx hx y' hy'=>?_⟩;simp at hy';subst hy';exact⟨hn x hx,Nat.ne_of_lt (q4 x hx)⟩
 ·rcases List.mem_append.1 he' with h | h
  ·exact Nat.lt_succ_of_lt (q4 e' h)
  ·simp at h;subst h;exact Nat.lt_succ_self _
theorem pV {b:Nat} {o o':Obj} (hb:w.heap[b]? =some o):(setBlock w b o').heap[b]? =some o'/\(∀x,x≠b->(setBlock w b o').heap[x]? =w.heap[x]?)/\(setBlock w b o').heap.size=w.heap.size:=by
 obtain⟨h1,h2⟩:=MapKept.heap_set (o':=o') hb;exact⟨h1,h2,by simp[setBlock]⟩
theorem FrS.setB {uu:Bool} (hm:MOK B W n0 σ M F w) {ref:Nat} {R:Reg} {L:rY} {b:Nat} (h1:M ref=some R) (h2:σ ref=some L) (h3:L.at_=some b) {o:Obj} (hb:w.heap[b]? =some o) (o':Obj) (ho:∀c t fr,o'=Obj.cells c t fr->fr=(0,0):=by intro c t fr h;cases h <;> rfl):FrS uu W n0 w (setBlock w b o'):=by
 obtain⟨_,k2,k3⟩:=pV (o':=o') hb;refine⟨rfl,rfl,rfl,by rw[k3];exact Nat.le_refl _,Dr.setB w b o' ho,λx hx hw=>k2 x λe=>?_⟩;subst e;rcases hm.own ref R L x h1 h2 h3 with h' | h'
 ·exact hw h'
 ·omega
theorem qU (hT:aX P T) (hm:MOK B W n0 σ M F w) (t:TypeId) {s s' s'':SV} {x y z:Value} (hx:s.rel σ (Zof B σ M w) w x) (hy:s'.rel σ (Zof B σ M w) w y) (hz:s''.rel σ (Zof B σ M w) w z) :
 rA P B W n0 σ M F nx w (((Instr.mapUpdate t x y z).run P w).andThen λ_ w'=>.ok .skip w') (eY T M t s s' s''):=by
 unfold eY;split
 ·trivial
 rename_i e he;obtain⟨k,hu,hk⟩:=lV hT he;split
 ·rename_i a
  cases hy
  split
  ·rename_i ref;obtain⟨L,b,g1,g2,rfl⟩:=hx;split
   ·rename_i has val st hM;intro hone;have hz1:=SV.one_rel hone hz;obtain⟨L',e1,b',es,ck,f1,f2,f3,f4⟩:=hm.reg ref _ hM;rw[g1] at e1;cases e1;rw[g2] at f1;cases f1;rcases f3.find (P:=P) (w:=w) hk a with ⟨h1,h2,h3⟩ | ⟨h1,j,en,h2,h3,h4,h5,h6⟩
    ·have hrun:(Instr.mapUpdate t (.map (some b)) (.int .i64 a) z).run P w=.ok () (setBlock w b (.map (es.push {key:=.int .i64 a,val:=z,born:=ck}) (ck+1))):=by
      simp[Instr.mapUpdate,run_underlying hu,MapKept.run_getObj_map f2,MapKept.run_checkKey (d:=.int .i64) hk (lU a) _ 9999,h2,MapKept.run_setObj_map _ f2,Result.andThen,setBlock]
     obtain⟨k1,k2,k3⟩:=pV (o':=.map (es.push {key:=.int .i64 a,val:=z,born:=ck}) (ck+1)) f2;obtain⟨m1,m2⟩:=mX (w':=setBlock w b (.map (es.push {key:=.int .i64 a,val:=z,born:=ck}) (ck+1))) (R:=.map (λk=>if k=a then true else has k) (λk=>if k=a then s'' else val k) (if has a=true then st else none)) hm hM g1 g2 k3 k2
      (λZ' hkp=>⟨b,_,_,g2,k1,by
        rw[Array.toList_push];refine f3.add h3 hz1 (by simpa using SV.rel_mono (λ_ _ h=>h) hkp _ _ hz) λb v hb hv=>?_;simp only [if_neg hb];exact SV.rel_mono (λ_ _ h=>h) hkp _ _ hv,λf c hc=>by rw[h1] at hc;simp at hc⟩)
     exact⟨undef,_,.inr ⟨by rw[hrun];rfl,rfl⟩,m1,m2,trivial,FrS.setB hm hM g1 g2 f2 _⟩
    ·have hstay:=MapKept.run_keyThatStays (P:=P) (w:=w) (d:=.int .i64) (k:=.int .i64 a) rfl;have h3':es[j]? =some en:=by simpa using h3
     have hmod:(es.modify j λe=>{e with key:=.int .i64 a,val:=z}).toList=es.toList.set j {en with key:=.int .i64 a,val:=z}:=by
      rw[Array.toList_modify,modify_eq_set _ _ _ _ h3]
     have hrun:(Instr.mapUpdate t (.map (some b)) (.int .i64 a) z).run P w=.ok () (setBlock w b (.map (es.modify j λe=>{e with key:=.int .i64 a,val:=z}) ck)):=by
      simp[Instr.mapUpdate,run_underlying hu,MapKept.run_getObj_map f2,MapKept.run_checkKey (d:=.int .i64) hk (lU a) _ 9999,h2,h3',h4,hstay,MapKept.run_setObj_map _ f2,Result.andThen,setBlock]
     obtain⟨k1,k2,k3⟩:=pV (o':=.map (es.modify j λe=>{e with key:=.int .i64 a,val:=z}) ck) f2;obtain⟨m1,m2⟩:=mX (w':=setBlock w b (.map (es.modify j λe=>{e with key:=.int .i64 a,val:=z}) ck)) (R:=.map (λk=>if k=a then true else has k) (λk=>if k=a then s'' else val k) (if has a=true then st else none)) hm hM g1 g2 k3 k2
      (λZ' hkp=>⟨b,_,_,g2,k1,by
        rw[hmod];refine f3.put h3 h4 hz1 (by simpa using SV.rel_mono (λ_ _ h=>h) hkp _ _ hz) λb v hb hv=>?_;simp only [if_neg hb];exact SV.rel_mono (λ_ _ h=>h) hkp _ _ hv,λf c hc=>by
        rw[if_pos h1] at hc;obtain⟨r1,r2⟩:=f4 f c hc;refine⟨r1,λe' he' b' hb'=>?_⟩;rw[hmod] at he';rcases List.mem_or_eq_of_mem_set he' with hmem | rfl
        ·exact r2 e' hmem b' hb'
        ·cases hb'
         exact r2 en (List.mem_of_getElem? h3) a h4⟩)
     exact⟨undef,_,.inr ⟨by rw[hrun];rfl,rfl⟩,m1,m2,trivial,FrS.setB hm hM g1 g2 f2 _⟩
   ·trivial
  ·trivial
 ·trivial
theorem aGt (hT:aX P T) (hm:MOK B W n0 σ M F w) (hq:F nx) (hn0:n0<=w.heap.size) (t:TypeId) {s:Option SV} {x:Option Value} (hx:aOv σ (Zof B σ M w) w s x) :
 rA P B W n0 σ M F nx w (cY ((Instr.makeMap t x).run P w)) (lR T t s nx):=by
 unfold lR;split
 ·trivial
 rename_i e he;obtain⟨k,hu,hk⟩:=lV hT he;have key:(Instr.makeMap t x).run P w=.ok (.map (some w.heap.size)) (w.alloc (.map #[] 0))->rA P B W n0 σ M F nx w (cY ((Instr.makeMap t x).run P w)) (.new True (.map (λ_=>false) (λ_=>.r .any) none) (.mp nx)):=by
  intro hrun _;have hold:∀b,b<w.heap.size->(w.alloc (.map #[] 0)).heap[b]? =w.heap[b]?:=λb h=>gF w _ b h;obtain⟨e1,e2,e3⟩:=mW (w':=w.alloc (.map #[] 0)) (L:=⟨some w.heap.size,0⟩) (R:=.map (λ_=>false) (λ_=>.r .any) none) hm hq hn0 τ hold (λb hb=>by cases hb;exact Nat.le_refl _)
   (λσ' Z' hs hk=>⟨w.heap.size,#[],0,rfl,kH w _,⟨τ,τ,τ,τ⟩,τ⟩)
  exact⟨_,_,⟨some w.heap.size,0⟩,by rw[hrun];rfl,e1,e2,⟨_,w.heap.size,aZ ..,rfl,rfl⟩,⟨rfl,rfl,rfl,τ,Dr.alloc w _ (by intro c t fr h;cases h <;> rfl),λb hb _=>hold b ω⟩⟩
 split
 ·rcases hx with ⟨_,rfl⟩ | ⟨_,_,h,_⟩
  ·exact key rfl
  ·cases h
 ·rcases hx with ⟨h,_⟩ | ⟨s',v',h,rfl,hr⟩
  ·cases h
  ·cases h
   cases hr
   exact key (by simp[Instr.makeMap,run_underlying hu,asInt,asIntOf,newObj,Sem.run])
 ·trivial
theorem aAx (hT:aX P T) (hm:MOK B W n0 σ M F w) (hq:F nx) (hn0:n0<=w.heap.size) (t:TypeId) {s s':SV} {x y:Value} (hx:s.rel σ (Zof B σ M w) w x) (hy:s'.rel σ (Zof B σ M w) w y) :
 rA P B W n0 σ M F nx w (cY ((Instr.makeSlice t x y).run P w)) (gU T t s s' nx):=by
 unfold gU;split
 ·rename_i sz by_ ze e hti;have hu:=eK (hT.ti t _ hti) rfl;split
  ·trivial
  rename_i ei hei;have hc:=hT.ti e ei hei;split
  ·rename_i n m
   cases hx;cases hy
   rintro⟨rfl,h0,hsz,hby,hmax⟩;obtain⟨q,rfl⟩:∃q:Nat,n=q:=⟨n.toNat,ω⟩;simp only [Int.toNat_natCast];obtain⟨i,hi,hi2,hi3,hz⟩:=qB hc;have hw:IntKind.i64.wrap (q:Int)=q:=bX (by simp only [inr];omega);have hneg:¬((q:Int)<0):=ω;have hb':¬(281474976710656<(i.bytes:Int)*(q:Int)):=by
    rw[hi3];have h1:(ei.bytes:Int)*(q:Int)=((q*ei.bytes:Nat):Int):=by rw[Int.mul_comm];simp
    rw[h1];have h2:((q*ei.bytes:Nat):Int)<=140737488355328:=by simpa using hby
    omega
   refine aKv (cs:=fE (ei.zero.map ZK.val) q) hm hq hn0 e ei.size q _ (by unfold maxLen;omega) (by rw[dY,List.length_map,nK hc]) (tD _ _) (λi j hi hj=>?_) ?_
   ·obtain⟨v,v1,_,v2⟩:=aGh (σ:=σ) (w:=w) hc hi hj (Zof B σ M w);exact⟨v,v1,v2⟩
   ·have hcells:=fY hc;have hlz:=nK hc;have hrow:(Array.range (q*ei.size)).map (λj=>(if q*ei.size=0 then (#[]:Array Value) else ei.zeroV.cells)[j % (if q*ei.size=0 then (#[]:Array Value) else ei.zeroV.cells).size]!)=(fE (ei.zero.map ZK.val) q).toArray:=by
     by_cases hq0:q*ei.size=0
     ·have:q=0:=by rcases Nat.mul_eq_zero.1 hq0 with h | h <;> omega
      subst this;simp[fE]
     ·rw[if_neg hq0];have:=tO q ω ei.zeroV.cells hcells;rw[hlz] at this;exact this
    by_cases hq0:q*ei.size=0
    ·have hqz:q=0:=by rcases Nat.mul_eq_zero.1 hq0 with h | h <;> omega
     subst hqz;have hw0:IntKind.i64.wrap 0=0:=δ;simp[cY,Instr.makeSlice,run_underlying hu,sizeOf,typeInfo,zeroValue,hi,hz,asInt,asIntOf,newRow,askRoom,fE,hw0];rw[show Array.range 0=#[] from δ];simp
    ·rw[if_neg hq0] at hrow;have hne:¬(q*i.size=0):=by rw[hi2];exact hq0
     have hrow':(Array.range (q*i.size)).map (λj=>ei.zeroV.cells[j % ei.zeroV.cells.size]!)=(fE (ei.zero.map ZK.val) q).toArray:=by rw[hi2];exact hrow
     have hq1:q≠0:=λh=>hq0 (by rw[h];simp);have hs1:i.size≠0:=λh=>hne (by rw[h];simp);simp[cY,Instr.makeSlice,run_underlying hu,sizeOf,typeInfo,zeroValue,hi,hz,asInt,asIntOf,newRow,askRoom,hw,hneg,hb',hq1,hs1,-Array.map_map];rw[if_neg hne,hrow']
  ·trivial
 ·trivial
theorem aIp {Z:Nat->Prop} {l:List SV} {cs:List Value} (h:SV.relL σ Z w l cs) {o s:Nat} (hb:o+s<=l.length) :
 SV.relL σ Z w (bL (λj=>l.getD j (.r .any)) o s) ((cs.toArray.extract o (o+s)).toList):=by
 have hl:=SV.relL_length h;have e:(cs.toArray.extract o (o+s)).toList=(cs.drop o).take s:=by
  simp[List.extract_eq_take_drop]
 rw[e];refine SV.relL_mk ?_ λi t y h1 h2=>?_
 ·simp[gQ];omega
 ·have hi:i<s:=by
   have:=(List.getElem?_eq_some_iff.1 h1).1
   rwa [gQ] at this
  rw[qL _ _ _ _ hi] at h1
  cases h1
  rw[List.getElem?_take,if_pos hi,List.getElem?_drop] at h2;have hlt:o+i<l.length:=ω;obtain⟨y',g1,g2⟩:=SV.relL_get h (o+i) l[o+i] (List.getElem?_eq_getElem hlt);rw[g1] at h2;cases h2;simpa [List.getD,List.getElem?_eq_getElem hlt] using g2
theorem zQ {e:TypeId} {s:Nat} {g:Bool} (hs:kN P e s=true) (hg:uY P e g=true) {l:List SV} {x:Value} (hx:(SV.agg l).rel σ (Zof B σ M w) w x) (o:Nat) (k:Result Next) (hk:k=cY ((do part e (<- asAgg x) o:Sem Value).run P w)) :
 (g=true->o+s<=l.length->POut B σ M w k (.agg (bL (λj=>l.getD j (.r .any)) o s)))/\(g=false->o<l.length->POut B σ M w k (l.getD o (.r .any))):=by
 obtain⟨vs,rfl,h1,h2⟩:=hx;have hl:=SV.relL_length h2;refine⟨λhgt hb=>?_,λhgf hb=>?_⟩
 ·subst hgt;refine hk▸POut.of (y:=.agg (vs.toArray.extract o (o+s))) ?_ ⟨(vs.toArray.extract o (o+s)).toList,τ,λv hv=>h1 v ?_,aIp h2 hb⟩
  ·unfold part;simp only [asAgg,pure_bind];rw[Sem.run_bind,aCb hg w,Result.andThen_ok];simp only [if_true];rw[Sem.run_bind,fA hs w,Result.andThen_ok];simp
  ·have:(vs.toArray.extract o (o+s)).toList=(vs.drop o).take s:=by simp[List.extract_eq_take_drop]
   rw[this] at hv;exact List.mem_of_mem_drop (List.mem_of_mem_take hv)
 ·subst hgf;have hlt:o<vs.length:=ω;obtain⟨y,g1,g2⟩:=SV.relL_get h2 o l[o] (List.getElem?_eq_getElem hb);refine hk▸POut.of (y:=y) ?_ (by simpa [List.getD,List.getElem?_eq_getElem hb] using g2);unfold part;simp only [asAgg,pure_bind];rw[Sem.run_bind,aCb hg w,Result.andThen_ok];simp[g1]
theorem aI6 (hT:aX P T) (t:TypeId) (f:Nat) {s:SV} {x:Value} (hx:s.rel σ (Zof B σ M w) w x) :
 rA P B W n0 σ M F nx w (cY ((Instr.field t x f).run P w)) (wE T t s f):=by
 unfold wE;split
 ·rename_i sz by_ ze fs hti;obtain⟨fa,hu,hsz,hget⟩:=nM (hT.ti t _ hti) rfl;split
  ·rename_i o sz' g hf;obtain⟨fd,h1,rfl,h3,h4⟩:=hget f _ _ _ hf;split
   ·rename_i l;have hk:cY ((Instr.field t x f).run P w)=cY ((do part fd.type (<- asAgg x) fd.offset:Sem Value).run P w):=by
     congr 1
     unfold Instr.field;rw[Sem.run_bind,run_underlying hu,Result.andThen_ok];simp[h1]
    obtain⟨p1,p2⟩:=zQ h3 h4 hx fd.offset _ hk;split
    ·rename_i hg;exact p1 hg
    ·rename_i hg;exact p2 (by simpa using hg)
   ·trivial
  ·trivial
 ·trivial
theorem aI7 (hT:aX P T) (t:TypeId) {s s':SV} {x i:Value} (hx:s.rel σ (Zof B σ M w) w x) (hi:s'.rel σ (Zof B σ M w) w i) :
 rA P B W n0 σ M F nx w (cY ((Instr.index t x i).run P w)) (pU T t s s'):=by
 unfold pU;split
 ·rename_i k ix
  cases hi
  split
  ·rename_i sz by_ ze n es g hti;obtain⟨e,hu,h3,h4⟩:=qD (hT.ti t _ hti) rfl;split
   ·rename_i l;have hx':=hx;obtain⟨vs,rfl,_,_⟩:=hx';have hk:0<=ix->ix<n->cY ((Instr.index t (.agg vs.toArray) (.int k ix)).run P w)=cY ((do part e (<- asAgg (.agg vs.toArray)) (ix.toNat*es):Sem Value).run P w):=by
     intro q1 q2
     congr 1
     simp[Instr.index,asIntOf,run_underlying hu,q1,q2,fA h3,asAgg]
    split
    ·rename_i hg;rintro⟨q1,q2,q3⟩;exact(zQ h3 h4 hx (ix.toNat*es) _ (hk q1 q2)).1 hg q3
    ·rename_i hg;rintro⟨q1,q2,q3⟩;exact(zQ h3 h4 hx (ix.toNat*es) _ (hk q1 q2)).2 (by simpa using hg) q3
   ·trivial
  ·trivial
 ·trivial
end
end Go.Gx
namespace Go.Gx
open Go.RowKit
section
variable {P:Program} {T:Tab} {B W F:Nat->Prop} {n0:Nat} {σ:Sig} {M:Mem} {nx:Nat} {w:World} {a:Act} {E:Env}
theorem wA {Z:Nat->Prop} (he:EOK σ Z w E a):∀l:List Operand,SV.relL σ Z w (l.map (ev E)) (l.map a.eval)
 | []=>rfl
 | x::l=>⟨_,_,rfl,bA he x,wA he l⟩
theorem aW1 {Z:Nat->Prop} (he:EOK σ Z w E a) (o:Option Operand):aOv σ Z w (o.map (ev E)) (o.map a.eval):=by
 cases o with
 | none=>exact .inl ⟨rfl,rfl⟩
 | some x=>exact .inr ⟨_,_,rfl,rfl,bA he x⟩
theorem rR {Z:Nat->Prop} (f:Nat->RV):∀(n o:Nat) (vs:List Value),vs.length=n->(∀i v,vs[i]? =some v->(f (o+i)).rel Z w v)->SV.relL σ Z w (bL (λi=>.r (f i)) o n) vs
 | 0,o,vs,h,_=>by
   have:=List.eq_nil_of_length_eq_zero h;subst this;rfl
 | n+1,o,[],h,_=>by simp at h
 | n+1,o,v::vs,h,H=>⟨v,vs,rfl,H 0 v rfl,rR f n (o+1) vs (by simpa using h) λi u hu=>by
   have:=H (i+1) u (by simpa using hu)
   rwa [show o+1+i=o+(i+1) from ω]⟩
theorem cF (s:Sem Value):(do pure (.value (<- s)):Sem Next).run P w=cY (s.run P w):=by rw[Sem.run_bind];rfl
theorem kC {o:Oper} {r:Result Value} (h:(execOp a.eval o).run P w=cY r) {g:GR} (hs:rA P B W n0 σ M F nx w (cY r) g):rA P B W n0 σ M F nx w ((execOp a.eval o).run P w) g:=by rw[h];exact hs
theorem rV (hT:aX P T) (hm:MOK B W n0 σ M F w) (hq:F nx) (hn0:n0<=w.heap.size) (he:EOK σ (Zof B σ M w) w E a) (o:Oper) :
 rA P B W n0 σ M F nx w ((execOp a.eval o).run P w) (dU T o.op E M nx):=by
 obtain⟨dst,op,ty,pos,after,guard⟩:=o;show rA P B W n0 σ M F nx w ((execOp a.eval ⟨dst,op,ty,pos,after,guard⟩).run P w) (dU T op E M nx)
 cases op with
 | move x=>intro _;exact POut.val (bA he x)
 | assign x=>intro _;exact POut.val (bA he x)
 | box t x=>
   simp only [dU];split
   ·rename_i i hi;exact kC (r:=(Instr.box t (a.eval x)).run P w) (cF _) (aXi hT hm hq hn0 t hi (bA he x))
   ·trivial
 | alloc t=>
   simp only [dU];split
   ·rename_i i hi;exact kC (r:=(Instr.alloc t true (.tuple #[])).run P w) (cF _) (aN4 hT hm hq hn0 t hi)
   ·trivial
 | build t ps=>
   have h:=aN5 (P:=P) (B:=B) (W:=W) (n0:=n0) (F:=F) (nx:=nx) hT t ps he;have hps:(ps.map λp=>(p.1,a.eval p.2))=(ps.map λ(i,x)=>(i,a.eval x)):=rfl;rw[hps] at h;have e:(execOp a.eval ⟨dst,.build t ps,ty,pos,after,guard⟩).run P w=cY ((Instr.build t (ps.map λ(i,x)=>(i,a.eval x))).run P w):=cF _;rw[e];exact h
 | buildSlice t len ps=>
   have h:=zP (P:=P) hT hm hq hn0 t len ps he;have hps:(ps.map λp=>(p.1,a.eval p.2))=(ps.map λ(i,x)=>(i,a.eval x)):=rfl;rw[hps] at h;have e:(execOp a.eval ⟨dst,.buildSlice t len ps,ty,pos,after,guard⟩).run P w=cY ((Instr.buildSlice t len (ps.map λ(i,x)=>(i,a.eval x))).run P w):=cF _;rw[e];exact h
 | load t x=>
   simp only [dU];exact kC (r:=(Instr.loadAt t (a.eval x)).run P w) (cF _) (aGs hT hm t (bA he x))
 | store t x y=>
   have h:=aOa (nx:=nx) hT hm t (bA he x) (bA he y);have e:(execOp a.eval ⟨dst,.store t x y,ty,pos,after,guard⟩).run P w=((Instr.storeAt t (a.eval x) (a.eval y)).run P w).andThen λ_ w'=>.ok .skip w':=by simp only [execOp,Sem.run_bind];rfl
   rw[e];exact h
 | nilCheck x=>
   have h:=bA he x;simp only [dU];split
   ·rename_i q1 q2 q3 q4 heq;rw[heq] at h;obtain⟨L,b,h1,h2,h3⟩:=h;intro _;have e:(execOp a.eval ⟨dst,.nilCheck x,ty,pos,after,guard⟩).run P w=.ok (.value (.pointer (some ⟨b,q2*q3+q4,none⟩))) w:=by simp[execOp,h3]
    rw[e];exact POut.val ⟨L,b,h1,h2,rfl⟩
   ·rename_i q1 q2 q3 q4 q5 heq;rw[heq] at h;obtain⟨b,o,h1,h2⟩:=h;intro _;have e:(execOp a.eval ⟨dst,.nilCheck x,ty,pos,after,guard⟩).run P w=.ok (.value (a.eval x)) w:=by simp[execOp,h1]
    rw[e];exact POut.val ⟨b,o,h1,h2⟩
   ·rename_i f fi ca heq;rw[heq] at h;split
    ·rename_i g;obtain⟨vs,ws,h1,h2,h3⟩:=h;intro _;have e:(execOp a.eval ⟨dst,.nilCheck x,ty,pos,after,guard⟩).run P w=.ok (.value (a.eval x)) w:=by simp[execOp,h1]
     rw[e];exact POut.val ⟨vs,ws,h1,h2,h3⟩
    ·trivial
   ·trivial
 | binOp op t x y t'=>
   have hx:=bA he x;have hy:=bA he y;have e:(execOp a.eval ⟨dst,.binOp op t x y t',ty,pos,after,guard⟩).run P w=cY ((do eqGuard op t x y (a.eval x) (a.eval y);binOp op t (a.eval x) (a.eval y):Sem Value).run P w):=cF _;have h1:=aXh (P:=P) (B:=B) (W:=W) (n0:=n0) (F:=F) (nx:=nx) op t x y hx hy;rw[e];simp only [dU];split
   ·split
    ·exact aTi hT false .eql rfl t x y hx hy
    ·exact aTi hT true .neq rfl t x y hx hy
    ·trivial
   ·rename_i g hg;exact h1
 | unOp op t x=>
   have hx:=bA he x;have e:(execOp a.eval ⟨dst,.unOp op t x,ty,pos,after,guard⟩).run P w=cY ((Op.unary op (a.eval x)).run P w):=cF _;rw[e];simp only [dU];split
   ·rename_i b heq;rw[heq] at hx;rw[show a.eval x=.bool b from hx];intro _;exact POut.of rfl rfl
   ·rename_i φ heq;rw[heq] at hx;obtain⟨b,hb,hxb⟩:=hx;rw[hxb];intro _;exact POut.of (y:=.bool (!b)) rfl ⟨!b,by simpa using hb,rfl⟩
   ·rename_i k n heq;rw[heq] at hx;rw[show a.eval x=.int k n from hx];intro hi;exact POut.of (y:=.int k (0 - n)) (by simp only [Op.unary,Op.intArith,bX hi];rfl) rfl
   ·trivial
 | convert s d x=>
   have hx:=bA he x;have e:(execOp a.eval ⟨dst,.convert s d x,ty,pos,after,guard⟩).run P w=cY ((convert s d (a.eval x)).run P w):=cF _;rw[e];simp only [dU];split
   ·rename_i z1 z2 z3 k1 z4 z5 z6 k k2 n h1 h2 heq;rw[heq] at hx;rw[show a.eval x=.int k2 n from hx];have u1:=wR (hT.ti s _ h1) rfl;have u2:=wR (hT.ti d _ h2) rfl;intro _;exact POut.of (by simp[convert,run_underlying u1,run_underlying u2,Conv.intToInt]) rfl
   ·trivial
 | makeFunc f fi ca=>
   intro _;have e:(execOp a.eval ⟨dst,.makeFunc f fi ca,ty,pos,after,guard⟩).run P w=.ok (.value (.func f (fi.map a.eval) (ca.map a.eval))) w:=rfl;rw[e];exact POut.val ⟨fi.toList.map a.eval,ca.toList.map a.eval,by rw[show fi.map a.eval=(fi.toList.map a.eval).toArray from by apply Array.ext';simp,show ca.map a.eval=(ca.toList.map a.eval).toArray from by apply Array.ext';simp],wA he _,wA he _⟩
 | slice t x lo hi mx=>
   simp only [dU];exact kC (r:=(Instr.sliceAt t (a.eval x) (lo.map a.eval) (hi.map a.eval) (mx.map a.eval)).run P w) (cF _) (aN9 hT hm t (bA he x) (aW1 he lo) (aW1 he hi) (aW1 he mx))
 | fieldAddr t x f=>
   simp only [dU];exact kC (r:=(Instr.fieldAt t (a.eval x) f).run P w) (cF _) (aN7 hT t f (bA he x))
 | indexAddr t x i=>
   simp only [dU];exact kC (r:=(Instr.indexAt t (a.eval x) (a.eval i)).run P w) (cF _) (aN8 hT t (bA he x) (bA he i))
 | lookup t m x ok=>
   simp only [dU];exact kC (r:=(Instr.lookup t (a.eval m) (a.eval x) ok).run P w) (cF _) (aI8 hT hm t ok (bA he m) (bA he x))
 | mapUpdate t m x y=>
   have h:=qU (nx:=nx) hT hm t (bA he m) (bA he x) (bA he y);have e:(execOp a.eval ⟨dst,.mapUpdate t m x y,ty,pos,after,guard⟩).run P w=((Instr.mapUpdate t (a.eval m) (a.eval x) (a.eval y)).run P w).andThen λ_ w'=>.ok .skip w':=by simp only [execOp,Sem.run_bind];rfl
   rw[e];exact h
 | insert t m x y=>
   have h:=qU (nx:=nx) hT hm t (bA he m) (bA he x) (bA he y);have e:(execOp a.eval ⟨dst,.insert t m x y,ty,pos,after,guard⟩).run P w=((Instr.mapUpdate t (a.eval m) (a.eval x) (a.eval y)).run P w).andThen λ_ w'=>.ok .skip w':=by simp only [execOp,Sem.run_bind];rfl
   rw[e];exact h
 | makeMap t r=>
   simp only [dU];exact kC (r:=(Instr.makeMap t (r.map a.eval)).run P w) (cF _) (aGt hT hm hq hn0 t (aW1 he r))
 | makeSlice t l c=>
   simp only [dU];exact kC (r:=(Instr.makeSlice t (a.eval l) (a.eval c)).run P w) (cF _) (aAx hT hm hq hn0 t (bA he l) (bA he c))
 | field t x f=>
   simp only [dU];exact kC (r:=(Instr.field t (a.eval x) f).run P w) (cF _) (aI6 hT t f (bA he x))
 | index t x i=>
   simp only [dU];exact kC (r:=(Instr.index t (a.eval x) (a.eval i)).run P w) (cF _) (aI7 hT t (bA he x) (bA he i))
 | extract x i=>
   have hx:=bA he x;have e:(execOp a.eval ⟨dst,.extract x i,ty,pos,after,guard⟩).run P w=cY ((Instr.extract (a.eval x) i).run P w):=cF _;rw[e];simp only [dU];split
   ·rename_i l heq;rw[heq] at hx;obtain⟨vs,hv,hl⟩:=hx;split
    ·rename_i s hs;obtain⟨y,h1,h2⟩:=SV.relL_get hl i s hs;intro _;rw[hv];exact POut.of (by simp[Instr.extract,h1]) h2
    ·trivial
   ·trivial
 | call c=>
   obtain⟨callee,args,ts⟩:=c;have ha:=wA he args.toList;have hmap:args.map a.eval=(args.toList.map a.eval).toArray:=by apply Array.ext';simp
   simp only [dU]
   cases callee with
   | builtin b=>
     have e:(execOp a.eval ⟨dst,.call ⟨.builtin b,args,ts⟩,ty,pos,after,guard⟩).run P w=(builtin b ts ty (args.map fun | .const _=>true | _=>false) (args.toList.map a.eval).toArray).run P w:=by
      simp only [execOp,resolve,Sem.run_bind,Sem.run_pure,Result.andThen_ok,invoke,hmap];rfl
     rw[e];generalize args.toList.map a.eval=vs at *;generalize args.toList.map (ev E)=l at *;obtain⟨tl⟩:=ts;simp only;unfold gC;split
     ·obtain⟨y,_,rfl,h1,rfl⟩:=ha;have:=aXj (P:=P) (B:=B) (W:=W) (n0:=n0) (F:=F) (nx:=nx) hT (by assumption) ty h1;simp only [builtin,Sem.run_bind];exact this
     ·obtain⟨y,_,rfl,h1,y',_,rfl,h2,rfl⟩:=ha;split
      ·rename_i ht
       cases ht
       have:=aI5 (P:=P) hT hm hq hn0 (by assumption) ty h1 h2;simp only [builtin,Sem.run_bind];exact this
      ·simp only [builtin,Sem.run_bind];exact aGq (P:=P) hT hm hq hn0 _ _ ty h1 h2
     ·obtain⟨y,_,rfl,h1,y',_,rfl,h2,rfl⟩:=ha;simp only [builtin,Sem.run_bind];exact aTh (P:=P) (nx:=nx) hT hm _ _ ty h1 h2
     ·obtain⟨y,_,rfl,h1,rfl⟩:=ha;have:=aN6 (P:=P) (nx:=nx) hT hm (by assumption) ty h1;simp only [builtin,Sem.run_bind];exact this
     ·have:=aXk (P:=P) (B:=B) (W:=W) (n0:=n0) (F:=F) (nx:=nx) ⟨tl⟩ ty ha;simp only [builtin,Sem.run_bind];exact this
     ·have:=aXl (P:=P) (B:=B) (W:=W) (n0:=n0) (F:=F) (nx:=nx) ⟨tl⟩ ty ha;simp only [builtin,Sem.run_bind];exact this
     ·trivial
   | value f=>
     have hf:=bA he f;simp only;split
     ·rename_i g fi ca heq;rw[heq] at hf;obtain⟨vs,ws,h1,h2,h3⟩:=hf;refine⟨vs++args.toList.map a.eval++ws,eL (eL h2 ha) h3,?_⟩;simp only [execOp,resolve,Sem.run_bind,Sem.run_pure,Result.andThen_ok,h1,Deferred.ofValue,invoke,hmap]
      congr 2
      simp
     ·rename_i g nf nc fi ca heq;rw[heq] at hf;obtain⟨vs,ws,h1,h2,h3,h4,h5⟩:=hf;refine⟨vs++args.toList.map a.eval++ws,eL (eL (rR fi nf 0 vs h2 (by simpa using h4)) ha) (rR ca nc 0 ws h3 (by simpa using h5)),?_⟩;simp only [execOp,resolve,Sem.run_bind,Sem.run_pure,Result.andThen_ok,h1,Deferred.ofValue,invoke,hmap]
      congr 2
      simp
     ·trivial
   | invoke r m=>trivial
 | _=>trivial
end
end Go.Gx
