/-
  Texts of the walk, merged: Xe.
-/
import Derived.Test.YtncccnmmjfapnaaGreatZxc
import Derived.Test.YtncccnmmjfapnaaGreatZxd
set_option linter.unusedVariables false
set_option linter.unusedSimpArgs false
set_option maxRecDepth 100000
set_option maxHeartbeats 4000000
namespace Go.Gx.Sr
open Go.RowKit Go.Proofs Go.Proofs.YtncccnmmjfapnaaGreat Go.Gx.Ix
theorem tw_filter {hi:Int}:∀{l:List ChG},l.Pairwise (λx y=>x.t≤y.t)→l.takeWhile (λc=>decide (c.t≤hi))=l.filter λc=>decide (c.t≤hi)
 | [],_=>rfl
 | a::l,h=>by
   have h1:=List.pairwise_cons.1 h
   by_cases e:a.t≤hi
   ·rw[List.takeWhile_cons_of_pos (by simpa using e),List.filter_cons_of_pos (by simpa using e),tw_filter h1.2]
   ·rw[List.takeWhile_cons_of_neg (by simpa using e),List.filter_cons_of_neg (by simpa using e)]
    refine(List.filter_eq_nil_iff.2 λc hc=>?_).symm
    have:=h1.1 c hc
    simp;omega
theorem bwL_eq {l:List ChG} (h:l.Pairwise λx y=>x.t≤y.t) (lo hi:Int):bwL l lo hi=l.filter λc=>decide (lo<c.t)&&decide (c.t≤hi):=by
 unfold bwL
 rw[tw_filter h,List.filter_filter]
theorem putB_bit (s:W64) (c:ChG) {j:Nat} (hj:j<64):(putB s c).getLsbD j=if j=c.p.toNat then c.on else s.getLsbD j:=by
 unfold putB
 cases c.on
 ·rw[if_neg (by simp),bit_andn _ _ _ hj,bit_shl1 _ _ hj]
  by_cases e:j=c.p.toNat <;> simp[e]
 ·rw[if_pos rfl,bit_or,bit_andn _ _ _ hj,bit_shl1 _ _ hj]
  by_cases e:j=c.p.toNat <;> simp[e]
def onB (j:Nat) (b:Bool) (l:List ChG):Bool:=l.foldl (λb c=>if j=c.p.toNat then c.on else b) b
theorem setL_bit {j:Nat} (hj:j<64):∀(l:List ChG) (s:W64),(setL s l).getLsbD j=onB j (s.getLsbD j) l
 | [],s=>rfl
 | c::l,s=>by
   show(setL (putB s c) l).getLsbD j=onB j (if j=c.p.toNat then c.on else s.getLsbD j) l
   rw[setL_bit hj l,putB_bit _ _ hj]
theorem onB_none {j:Nat}:∀(l:List ChG) (b:Bool),(∀c∈l,¬j=c.p.toNat)→onB j b l=b
 | [],b,_=>rfl
 | c::l,b,h=>by
   show onB j (if j=c.p.toNat then c.on else b) l=b
   rw[if_neg (h c (List.mem_cons_self ..))]
   exact onB_none l b λd hd=>h d (List.mem_cons_of_mem _ hd)
theorem onB_filter {j:Nat} {q:ChG→Bool}:∀(l:List ChG) (b:Bool),(∀c∈l,q c=false→¬j=c.p.toNat)→onB j b (l.filter q)=onB j b l
 | [],b,_=>rfl
 | c::l,b,h=>by
   have ih:=λb=>onB_filter (j:=j) (q:=q) l b λd hd=>h d (List.mem_cons_of_mem _ hd)
   cases hq:q c
   ·rw[List.filter_cons_of_neg (by simp[hq]),ih]
    show _=onB j (if j=c.p.toNat then c.on else b) l
    rw[if_neg (h c (List.mem_cons_self ..) hq)]
   ·rw[List.filter_cons_of_pos hq]
    show onB j (if j=c.p.toNat then c.on else b) (l.filter q)=onB j (if j=c.p.toNat then c.on else b) l
    exact ih _
theorem lst_bit {l:List ChG} (h:chOK l=true) (t:Int) {j:Nat} (hj:j<64):(lstW l t).getLsbD j=onB j false (l.filter λc=>decide (-1<c.t)&&decide (c.t≤t)):=by
 unfold lstW
 rw[setL_bit hj,bwL_eq (chOK_iff.1 h).2.2]
 simp
theorem lst_rem {l:List ChG} (h:chOK l=true) {a:Int} (ha:0≤a) (t:Int):lstW (l.filter λc=>!decide (c.p=a)) t=andn64 (lstW l t) (shl64 1#64 a.toNat):=by
 refine BitVec.eq_of_getLsbD_eq λj hj=>?_
 rw[bit_andn _ _ _ hj,bit_shl1 _ _ hj,lst_bit (chOK_filter h _) t hj,lst_bit h t hj,List.filter_filter]
 have e:(l.filter λc=>(decide (-1<c.t)&&decide (c.t≤t))&&!decide (c.p=a))=(l.filter λc=>decide (-1<c.t)&&decide (c.t≤t)).filter λc=>!decide (c.p=a):=by
  rw[List.filter_filter]
  refine List.filter_congr λc _=>Bool.and_comm ..
 rw[e]
 by_cases ej:j=a.toNat
 ·subst ej
  rw[onB_none _ _ λc hc=>?_]
  ·simp
  have h1:=List.mem_filter.1 hc
  have h2:=(chOK_p h (List.mem_filter.1 h1.1).1).2.2.1
  have h3:¬c.p=a:=by simpa using h1.2
  omega
 ·rw[onB_filter _ _ λc hc hq=>?_]
  ·simp[ej]
  have h3:c.p=a:=by simpa using hq
  rw[h3];exact ej
theorem lst_snoc {l:List ChG} {c:ChG} (h:chOK l=true) (h':chOK (l++[c])=true) {t:Int} (ht:t<c.t):lstW (l++[c]) t=lstW l t:=by
 unfold lstW
 rw[bwL_eq (chOK_iff.1 h).2.2,bwL_eq (chOK_iff.1 h').2.2,List.filter_append]
 have:([c].filter λc=>decide (-1<c.t)&&decide (c.t≤t))=[]:=by
  refine List.filter_eq_nil_iff.2 λd hd=>?_
  rw[List.mem_singleton.1 hd]
  simp;omega
 rw[this,List.append_nil]
theorem lst_same {l:List ChG} (h:chOK l=true) {k:KsG} {n p:Int} (hn:k.a≤n) (hp:0≤p∧p≤63) (hl:lateL l k p n=[]):saidB (lstW l k.a) p=saidB (lstW l n) p:=by
 refine said_eq hp ?_
 rw[lst_bit h _ (by omega),lst_bit h _ (by omega)]
 have e:(l.filter λc=>decide (-1<c.t)&&decide (c.t≤k.a))=(l.filter λc=>decide (-1<c.t)&&decide (c.t≤n)).filter λc=>decide (c.t≤k.a):=by
  rw[List.filter_filter]
  refine List.filter_congr λc _=>?_
  by_cases h1:c.t≤k.a
  ·have h2:c.t≤n:=by omega
   simp[h1,h2]
  ·simp[h1]
 rw[e]
 refine onB_filter _ _ λc hc hq=>?_
 have h1:=List.mem_filter.1 hc
 have hq:¬c.t≤k.a:=by simpa using hq
 have h2:c.t≤n:=by
  have:=h1.2
  simp at this
  exact this.2
 have h3:=List.filter_eq_nil_iff.1 hl c (by
  rw[bwL_eq (chOK_iff.1 h).2.2]
  refine List.mem_filter.2 ⟨h1.1,?_⟩
  simp;omega)
 have h4:=(chOK_p h h1.1).2.2.1
 have h3:¬c.p=p:=by simpa using h3
 omega
def InvG (x:SvG):Prop:=∀k∈x.ks,k.s=lstW x.ch k.a
variable {x:SvG}
theorem invG_dec (i:InvG x) (k a:Int) (r:RsG) (s:W64):InvG (decM x k a r s).1:=by
 unfold decM;split <;> exact i
theorem invG_hit (o:OrG):∀(l:List Int) (x:SvG) (hs:List HtG),InvG x→InvG (hitM x o l hs).1
 | [],x,hs,i=>i
 | a::l,x,hs,i=>by
   unfold hitM
   simp only
   split
   ·split
    ·exact i
    ·exact invG_hit o l _ _ i
   ·exact invG_hit o l x hs i
theorem invG_do (h:x.Va) (i:InvG x) (o:OrG):InvG (doM x o).1:=by
 unfold Sr.doM
 by_cases h1:o.k=1
 ·rw[if_pos h1];unfold tickM;(repeat' split) <;> exact i
 rw[if_neg h1]
 by_cases h2:o.k=2
 ·rw[if_pos h2];unfold enrolM;(repeat' split) <;> exact i
 rw[if_neg h2]
 by_cases h3:o.k=3
 ·rw[if_pos h3];unfold voteM;(repeat' split) <;> exact i
 rw[if_neg h3]
 by_cases h4:o.k=4
 ·rw[if_pos h4];unfold wdM;(repeat' split) <;> exact i
 rw[if_neg h4]
 by_cases h5:o.k=5
 ·rw[if_pos h5];unfold remM
  split
  ·rename_i ht
   intro k hk
   obtain⟨y,hy,rfl⟩:=List.mem_map.1 hk
   show andn64 y.s _=lstW (x.ch.filter λc=>!decide (c.p=o.a)) y.a
   rw[lst_rem h.ch (EG.th_lt ht).1,i y hy]
  ·exact i
 rw[if_neg h5]
 by_cases h6:o.k=6
 ·rw[if_pos h6];unfold ruleM;(repeat' split) <;> exact i
 rw[if_neg h6]
 by_cases h7:o.k=7
 ·rw[if_pos h7];unfold warM;(repeat' split) <;> exact i
 rw[if_neg h7]
 by_cases h8:o.k=8
 ·rw[if_pos h8];unfold conM;(repeat' split) <;> exact i
 rw[if_neg h8]
 by_cases h9:o.k=9
 ·rw[if_pos h9];unfold putM;(repeat' split) <;> exact i
 rw[if_neg h9]
 by_cases h10:o.k=10
 ·rw[if_pos h10]
  have hv:=(va_chg h o).ch
  revert hv
  unfold chgM
  split
  ·split
   ·exact λ_=>i
   ·intro hv k hk
    show k.s=lstW (x.ch++[⟨x.now,o.a,o.f⟩]) k.a
    rw[lst_snoc h.ch hv (h.ks k hk).2.2.1]
    exact i k hk
  ·exact λ_=>i
 rw[if_neg h10]
 by_cases h11:o.k=11
 ·rw[if_pos h11];unfold synM
  split
  ·split
   ·exact i
   ·intro k hk
    have hk:k∈x.ks.take o.n.toNat++copG x.ch x.now x.mage x.key::x.ks.drop (o.n.toNat+1):=hk
    rcases List.mem_append.1 hk with hk | hk
    ·exact i k (List.mem_of_mem_take hk)
    ·rcases List.mem_cons.1 hk with rfl | hk
     ·rfl
     ·exact i k (List.mem_of_mem_drop hk)
  ·exact i
 rw[if_neg h11]
 by_cases h12:o.k=12
 ·rw[if_pos h12];unfold verM
  split
  ·split
   ·exact invG_dec i _ _ _ _
   ·exact i
  ·exact i
 rw[if_neg h12]
 by_cases h13:o.k=13
 ·rw[if_pos h13];unfold fndM'
  split
  ·split
   ·exact invG_hit o _ x [] i
   ·exact i
  ·exact i
 rw[if_neg h13]
 unfold gatM
 split
 ·split
  ·split
   ·simp only
    split
    ·exact invG_dec i _ _ _ _
    ·split
     ·exact invG_dec i _ _ _ _
     ·exact invG_dec i _ _ _ _
   ·exact i
  ·exact i
 ·exact i
structure RsOK (p q:Int) (e:EnG):Prop where
 un:unB e.d=true
 fol:(unG e.d).fol=true
 n:(unG e.d).n≤64
 m:(unG e.d).m≤64
 p:(unG e.d).p=p
 q:(unG e.d).q=q
 k:1≤e.k∧e.k≤5
 d3:(unG e.d).d=3↔e.k=5
 r0:0≤(unG e.d).r↔e.k=2
theorem RsOK.good {p q:Int} {e:EnG} (h:RsOK p q e):(unG e.d).good=true:=by
 have:=h.un
 unfold unB at this
 rw[Bool.and_eq_true] at this
 exact this.1
def InvR (x:SvG):Prop:=∀e∈x.lg,¬e.p=-1→RsOK x.num x.den e
structure RsG.May (p q k:Int) (r:RsG):Prop where
 good:r.good=true
 fol:r.fol=true
 n:r.n≤64
 m:r.m≤64
 p:r.p=p
 q:r.q=q
 kk:1≤k∧k≤5
 d3:r.d=3↔k=5
 r0:0≤r.r↔k=2
theorem InvR.put (i:InvR x) {k a:Int} {r:RsG} {s:W64} (hr:r.May x.num x.den k):InvR (x.put k a r s):=by
 intro e he
 have he:e∈x.lg++[wrX x.lg x.now k a r.pack s]:=he
 rcases List.mem_append.1 he with he | he
 ·exact i e he
 ·rw[List.mem_singleton.1 he]
  intro _
  have e1:unG (wrX x.lg x.now k a r.pack s).d=r:=unG_pack hr.good
  exact⟨unB_pack hr.good,by rw[e1];exact hr.fol,by rw[e1];exact hr.n,by rw[e1];exact hr.m,by rw[e1];exact hr.p,by rw[e1];exact hr.q,hr.kk,by rw[e1];exact hr.d3,by rw[e1];exact hr.r0⟩
theorem invR_dec (i:InvR x) {k a:Int} {r:RsG} {s:W64} (hr:r.May x.num x.den k):InvR (decM x k a r s).1:=by
 unfold decM
 split
 ·exact i
 ·exact i.put hr
theorem cmpR_may (hv:x.setB=true) (c p:IrG) {k:Int} (hk:k=1∨k=3∨k=4):(cmpR x c p).May x.num x.den k:=by
 obtain⟨h1,h2,h3,h4,h5,h6⟩:=cmpR_le x c p
 exact⟨cmpR_good hv c p,cmpR_fol hv c p,h4,h5,h2,h3,by omega,by omega,by omega⟩
theorem cmpR_find (hv:x.setB=true) (c p:IrG) {r:Int} (hr:0≤r∧r≤19):({cmpR x c p with r:=r}:RsG).May x.num x.den 2:=by
 obtain⟨h1,h2,h3,h4,h5,h6⟩:=cmpR_le x c p
 have hg:=cmpR_good hv c p
 have hf:=cmpR_fol hv c p
 obtain⟨q,hq⟩:∃q,cmpR x c p=q:=⟨_,rfl⟩
 rw[hq] at h1 h2 h3 h4 h5 h6 hg hf ⊢
 have hgi:=RsG.good_in hg
 refine⟨?_,hf,h4,h5,h2,h3,by omega,?_,?_⟩
 ·simp only [RsG.good,RsG.okd,b127,Ix.btw,Bool.and_eq_true,decide_eq_true_eq];omega
 ·show q.d=3↔_
  omega
 ·show 0≤r↔_
  omega
theorem invR_hit (o:OrG):∀(l:List Int) (x:SvG) (hs:List HtG),x.setB=true→x.r.nr≤20→InvR x→InvR (hitM x o l hs).1
 | [],x,hs,_,_,i=>i
 | a::l,x,hs,hv,hr,i=>by
   unfold hitM
   simp only
   split
   ·rename_i ha
    split
    ·exact i
    ·refine invR_hit o l _ _ hv hr (i.put ?_)
     obtain⟨k,l',e,hk⟩:=apq_one ha
     refine cmpR_find hv _ _ ?_
     rw[e]
     show 0≤(k:Int)∧(k:Int)≤19
     omega
   ·exact invR_hit o l x hs hv hr i
theorem invR_do (h:x.Va) (i:InvR x) (o:OrG):InvR (doM x o).1:=by
 have hset:=h.set
 unfold Sr.doM
 by_cases h1:o.k=1
 ·rw[if_pos h1];unfold tickM;(repeat' split) <;> exact i
 rw[if_neg h1]
 by_cases h2:o.k=2
 ·rw[if_pos h2];unfold enrolM;(repeat' split) <;> exact i
 rw[if_neg h2]
 by_cases h3:o.k=3
 ·rw[if_pos h3];unfold voteM;(repeat' split) <;> exact i
 rw[if_neg h3]
 by_cases h4:o.k=4
 ·rw[if_pos h4];unfold wdM;(repeat' split) <;> exact i
 rw[if_neg h4]
 by_cases h5:o.k=5
 ·rw[if_pos h5];unfold remM
  split
  ·intro e he hp
   obtain⟨y,hy,rfl⟩:=List.mem_map.1 he
   unfold EnG.er at hp ⊢
   split
   ·rename_i e;rw[if_pos e] at hp;exact absurd rfl hp
   ·rename_i e;rw[if_neg e] at hp;exact i y hy hp
  ·exact i
 rw[if_neg h5]
 by_cases h6:o.k=6
 ·rw[if_pos h6];unfold ruleM;(repeat' split) <;> exact i
 rw[if_neg h6]
 by_cases h7:o.k=7
 ·rw[if_pos h7];unfold warM;(repeat' split) <;> exact i
 rw[if_neg h7]
 by_cases h8:o.k=8
 ·rw[if_pos h8];unfold conM;(repeat' split) <;> exact i
 rw[if_neg h8]
 by_cases h9:o.k=9
 ·rw[if_pos h9];unfold putM;(repeat' split) <;> exact i
 rw[if_neg h9]
 by_cases h10:o.k=10
 ·rw[if_pos h10];unfold chgM;(repeat' split) <;> exact i
 rw[if_neg h10]
 by_cases h11:o.k=11
 ·rw[if_pos h11];unfold synM;(repeat' split) <;> exact i
 rw[if_neg h11]
 by_cases h12:o.k=12
 ·rw[if_pos h12];unfold verM
  split
  ·split
   ·exact invR_dec i (cmpR_may hset _ _ (.inl rfl))
   ·exact i
  ·exact i
 rw[if_neg h12]
 by_cases h13:o.k=13
 ·rw[if_pos h13];unfold fndM'
  split
  ·split
   ·exact invR_hit o _ x [] hset (Rg.RG.sizes h.r).1 i
   ·exact i
  ·exact i
 rw[if_neg h13]
 unfold gatM
 split
 ·split
  ·split
   ·simp only
    obtain⟨h1,h2,h3,h4,h5,h6⟩:=cmpR_le x (x.eye o.a) o.x
    have hg:=RsG.good_in (cmpR_good hset (x.eye o.a) o.x)
    have hd:=(cmp_in (SvG.va_iff.2 h)).1
    split
    ·rename_i e
     refine invR_dec i ⟨?_,?_,?_,?_,h2,h3,by decide,?_,?_⟩
     ·simp only [RsG.good,RsG.okd,b127,Ix.btw,Bool.and_eq_true,decide_eq_true_eq];omega
     ·unfold RsG.fol
      rw[if_neg (by show ¬decD _ _ _=1;omega),if_neg (by show ¬decD _ _ _=2;omega)]
     ·show(0:Int)≤64;decide
     ·show(0:Int)≤64;decide
     ·show decD _ _ _=3↔_;omega
     ·show 0≤(cmpR x (x.eye o.a) o.x).r↔_;omega
    ·split
     ·rename_i e
      refine invR_dec i ⟨?_,?_,?_,?_,h2,h3,by decide,?_,?_⟩
      ·simp only [RsG.good,RsG.okd,b127,Ix.btw,Bool.and_eq_true,decide_eq_true_eq];omega
      ·unfold RsG.fol RsG.alike
       rw[if_neg (by show ¬decD _ _ _=1;omega),if_pos (by show decD _ _ _=2;omega)]
       show(!decide (1*(cmpR x (x.eye o.a) o.x).q≤(cmpR x (x.eye o.a) o.x).p*0))=true
       rw[h3]
       simp;omega
      ·show(1:Int)≤64;decide
      ·show(0:Int)≤64;decide
      ·show decD _ _ _=3↔_;omega
      ·show 0≤(cmpR x (x.eye o.a) o.x).r↔_;omega
     ·exact invR_dec i (cmpR_may hset _ _ (.inr (.inl rfl)))
   ·exact i
  ·exact i
 ·exact i
theorem run_inv {P:SvG→Prop} (hP:∀x o,1≤o.k∧o.k≤14→x.Va→P x→P (doM x o).1):∀(l:List OrG) (x:SvG) (a:List AnG),(∀o∈l,ordE o=0)→x.Va→P x→(run x l a).1.Va∧P (run x l a).1
 | [],x,a,_,h,i=>⟨h,i⟩
 | o::l,x,a,ho,h,i=>by
   refine run_inv hP l (stX x o) _ (λy hy=>ho y (List.mem_cons_of_mem _ hy)) (h.stX o) ?_
   unfold Sr.stX
   split
   ·exact hP x o (ordE_in (ho o (List.mem_cons_self ..))) h i
   ·exact i
structure SetE (x y:SvG):Prop where
 num:y.num=x.num
 den:y.den=x.den
 turns:y.turns=x.turns
 mage:y.mage=x.mage
 key:y.key=x.key
theorem runE_ord {x:SvG} {l:List OrG} (h:runE x l=0):x.setB=true∧(∀o∈l,ordE o=0)∧l.length≤300:=by
 unfold runE at h
 obtain⟨h1,h2⟩:=orsE_zero h
 cases hs:x.setB with
 | false=>rw[hs] at h1;simp at h1
 | true=>
   rw[hs,if_pos rfl] at h1
   refine⟨rfl,h2,?_⟩
   split at h1
   ·cases h1
   ·omega
theorem run_end {x:SvG} {l:List OrG} (h:runE x l=0):(run x.new l []).1.Va∧SetE x (run x.new l []).1∧InvG (run x.new l []).1∧InvR (run x.new l []).1:=by
 obtain⟨h1,h2,_⟩:=runE_ord h
 have hn:=new_va h1
 obtain⟨a1,a2⟩:=run_inv (P:=λy=>SetE x y∧InvG y∧InvR y) (λy o hk hv hi=>by
  have hkp:=kp_do y o hk
  exact⟨⟨hkp.num.trans hi.1.num,hkp.den.trans hi.1.den,hkp.turns.trans hi.1.turns,hkp.mage.trans hi.1.mage,hkp.key.trans hi.1.key⟩,invG_do hv hi.2.1 o,invR_do hv hi.2.2 o⟩)
  l x.new [] h2 hn ⟨⟨rfl,rfl,rfl,rfl,rfl⟩,(λk hk=>absurd hk (List.not_mem_nil)),(λe he=>absurd he (List.not_mem_nil))⟩
 exact⟨a1,a2.1,a2.2.1,a2.2.2⟩
end Go.Gx.Sr
