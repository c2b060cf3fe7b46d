/-
  Texts of the walk, merged: Xg.
-/
import Derived.Test.YtncccnmmjfapnaaGreatZxd
set_option linter.unusedVariables false
set_option linter.unusedSimpArgs false
set_option maxRecDepth 100000
set_option maxHeartbeats 4000000
namespace Go.Gx.Sr
open Go.RowKit Go.Proofs Go.Proofs.YtncccnmmjfapnaaGreat Go.Gx.Ix
variable {x:SvG}
theorem SvG.mbs_SL (x:SvG):Ix.SL x.mbs:=by
 unfold SvG.mbs Ix.SL
 rw[List.pairwise_map]
 exact(List.Pairwise.filter _ List.pairwise_lt_range).imp fun {a b} h=>Int.ofNat_lt.2 h
def SvG.alK (x:SvG) (p:IrG) (k:Nat):List Int:=((x.mbK k).filter λa=>matB a.x p x.turns.toNat x.num x.den).map (·.id)
theorem SvG.alK_succ (x:SvG) (p:IrG) (k:Nat):x.alK p (k+1)=x.alK p k++if (x.g.th k&&matB (x.eye k) p x.turns.toNat x.num x.den)=true then [(k:Int)] else []:=by
 unfold SvG.alK
 rw[SvG.mbK_succ,List.filter_append,List.map_append]
 congr 1
 cases h:x.g.th (k:Int)
 ·simp
 ·cases h2:matB (x.eye k) p x.turns.toNat x.num x.den <;> simp[h2]
theorem SvG.alK_le (x:SvG) (p:IrG) (k:Nat):(x.alK p k).length≤k:=by
 unfold SvG.alK
 rw[List.length_map]
 exact Nat.le_trans (List.length_filter_le _ _) (x.mbK_le k)
theorem SvG.alK_pre (x:SvG) (p:IrG) {k n:Nat} (h:k≤n):∃r,x.alK p n=x.alK p k++r:=by
 obtain⟨d,rfl⟩:=Nat.exists_eq_add_of_le h
 induction d with
 | zero=>exact⟨[],by simp⟩
 | succ d ih=>
   obtain⟨r,hr⟩:=ih (by omega)
   rw[← Nat.add_assoc,x.alK_succ,hr]
   exact⟨_,List.append_assoc ..⟩
theorem fd_eq (h:x.Va) {p:IrG} (hp:p.ok=true):fdI x.mbs p x.turns x.num x.den=x.alK p x.ir.length:=by
 have hv:=SvG.va_iff.2 h
 obtain⟨c1,c2,c3,c4⟩:=cmp_in hv
 unfold fdI
 rw[if_pos (SvG.mE_ok hv hp)]
 unfold fndM SvG.alK
 rw[srt_id x.mbs_SL,Int.toNat_of_nonneg c2.1,Int.toNat_of_nonneg (by omega:0≤x.den)]
 rfl
def hitL (r:Rg.RG) (o:OrG) (t:Int) (l:List Int):List HtG:=
 (l.filter λa=>decide (r.aerr (qAt o.q a t)=0)).map λa=>⟨a,r.aL (qAt o.q a t),r.aO (qAt o.q a t),r.aS (qAt o.q a t),r.aN (qAt o.q a t)⟩
theorem hitL_app (r:Rg.RG) (o:OrG) (t:Int) (l l':List Int):hitL r o t (l++l')=hitL r o t l++hitL r o t l':=by
 unfold hitL;rw[List.filter_append,List.map_append]
theorem hitL_yes {r:Rg.RG} {o:OrG} {t a:Int} (h:r.aerr (qAt o.q a t)=0) (l:List Int):hitL r o t (a::l)=⟨a,r.aL (qAt o.q a t),r.aO (qAt o.q a t),r.aS (qAt o.q a t),r.aN (qAt o.q a t)⟩::hitL r o t l:=by
 unfold hitL;rw[List.filter_cons_of_pos (by simpa using h),List.map_cons]
theorem hitL_no {r:Rg.RG} {o:OrG} {t a:Int} (h:¬r.aerr (qAt o.q a t)=0) (l:List Int):hitL r o t (a::l)=hitL r o t l:=by
 unfold hitL;rw[List.filter_cons_of_neg (by simpa using h)]
theorem hit_res (o:OrG):∀(l:List Int) (x:SvG) (hs:List HtG),(hitM x o l hs).2.e=0→(hitM x o l hs).2=⟨0,((hs++hitL x.r o x.now l).length:Nat),hs++hitL x.r o x.now l⟩
 | [],x,hs,_=>by
   have e:hitL x.r o x.now []=[]:=rfl
   rw[e,List.append_nil];rfl
 | a::l,x,hs,h=>by
   unfold hitM at h ⊢
   simp only at h ⊢
   by_cases ha:x.r.aerr (qAt o.q a x.now)=0
   ·rw[if_pos ha] at h ⊢
    by_cases h60:x.lg.length=60
    ·rw[if_pos h60] at h
     exact absurd h (by show ¬(9:Int)=0;decide)
    ·rw[if_neg h60] at h ⊢
     rw[hit_res o l _ _ h,hitL_yes ha,List.append_assoc]
     rfl
   ·rw[if_neg ha] at h ⊢
    rw[hit_res o l x hs h,hitL_no ha]
theorem do_fnd {o:OrG} (hk:o.k=13):doM x o=fndM' x o:=by
 unfold Sr.doM
 rw[hk];rfl
theorem fnd_ok (h:x.Va) {o:OrG} (hk:o.k=13) (he:(stA x o).e=0) :
 o.x.ok=true∧o.q.err=0∧stA x o=⟨0,((hitL x.r o x.now (x.alK o.x x.ir.length)).length:Nat),hitL x.r o x.now (x.alK o.x x.ir.length)⟩:=by
 obtain⟨h0,h1,h2⟩:=st_ok he
 rw[h1]
 rw[do_fnd hk] at h0 ⊢
 unfold fndM' at h0 ⊢
 by_cases hx:o.x.ok=true
 ·rw[if_pos hx] at h0 ⊢
  by_cases hq:o.q.err=0
  ·rw[if_pos hq,fd_eq h hx] at h0 ⊢
   exact⟨hx,hq,hit_res o _ x [] h0⟩
  ·rw[if_neg hq] at h0
   exact absurd h0 hq
 ·rw[if_neg hx] at h0
  exact absurd h0 (by show ¬(30:Int)=0;decide)
theorem aerr_two (h:x.Va) {o:OrG} (hq:o.q.err=0) {a:Int} (ha:x.g.th a=true):x.r.aerr (qAt o.q a x.now)=0∨x.r.aerr (qAt o.q a x.now)=90:=by
 have hth:=SvG.th_in (SvG.va_iff.2 h) ha
 have hn:=h.now
 have e:Rg.ask x.r (qAt o.q a x.now)=0:=by
  unfold Rg.ask
  rw[if_pos h.r]
  unfold Rg.QG.err at hq ⊢
  have h1:o.q.c1=true:=by
   cases hc:o.q.c1
   ·rw[hc] at hq;simp at hq
   ·rfl
  rw[h1,if_pos rfl] at hq
  have h2:(qAt o.q a x.now).c1=true:=by
   unfold Rg.QG.c1 at h1 ⊢
   simp only [Bool.and_eq_true] at h1 ⊢
   refine⟨⟨h1.1.1,?_⟩,?_⟩
   ·show Rg.persB a=true
    simp[Rg.persB,Rg.btw];omega
   ·show Rg.timeB x.now=true
    simp only [maxT] at hn
    simp[Rg.timeB,Rg.btw];omega
  rw[h2,if_pos rfl]
  exact hq
 unfold Rg.RG.aerr
 rw[if_neg (by simp[e])]
 split
 ·exact .inr rfl
 ·exact .inl rfl
theorem hit_none (o:OrG) (hr:x.r.nr=0):∀(l:List Int) (hs:List HtG),hitM x o l hs=(x,⟨0,hs.length,hs⟩)
 | [],hs=>rfl
 | a::l,hs=>by
   unfold hitM
   simp only
   rw[if_neg λh=>?_]
   ·exact hit_none o hr l hs
   obtain⟨k,_,_,hk⟩:=apq_one h
   omega
theorem silent_st {o:OrG} (hk:o.k=13) (hr:x.r.nr=0) (he:(stA x o).e=0):(stA x o).n=0∧(stA x o).h=[]∧stX x o=x:=by
 obtain⟨h0,h1,h2⟩:=st_ok he
 rw[h1,h2]
 rw[do_fnd hk] at h0 ⊢
 unfold fndM' at h0 ⊢
 by_cases hx:o.x.ok=true
 ·rw[if_pos hx] at h0 ⊢
  by_cases hq:o.q.err=0
  ·rw[if_pos hq,hit_none o hr]
   exact⟨rfl,rfl,rfl⟩
  ·rw[if_neg hq] at h0
   exact absurd h0 hq
 ·rw[if_neg hx] at h0
  exact absurd h0 (by show ¬(30:Int)=0;decide)
end Go.Gx.Sr
