/-
 Texts of the walk, merged: Xg.
-/
import Derived.Test.YtncccnmmjfapnaaGreatZxd
set_option linter.unusedVariables false
set_option linter.unusedSimpArgs false
set_option maxRecDepth 100000
set_option maxHeartbeats 4000000
namespace Go.Gx.Sr
open Go.RowKit Go.Proofs Go.Proofs.YtncccnmmjfapnaaGreat Go.Gx.Ix
variable {x:SvG}
theorem SvG.mbs_SL (x:SvG):Ix.SL x.mbs:=by
 unfold SvG.mbs Ix.SL;rw[List.pairwise_map];exact(List.Pairwise.filter _ List.pairwise_lt_range).imp fun {a b} h=>Int.ofNat_lt.2 h
def SvG.alK (x:SvG) (p:IrG) (k:Nat):List Int:=((x.mbK k).filter λa=>qZ a.x p x.turns.toNat x.num x.den).map (·.id)
theorem SvG.alK_succ (x:SvG) (p:IrG) (k:Nat):x.alK p (k+1)=x.alK p k++if (x.g.th k&&qZ (x.eye k) p x.turns.toNat x.num x.den)=true then [(k:Int)] else []:=by
 unfold SvG.alK;rw[SvG.mbK_succ,List.filter_append,List.map_append]
 congr 1
 cases h:x.g.th (k:Int)
 ·simp
 ·cases h2:qZ (x.eye k) p x.turns.toNat x.num x.den <;> simp[h2]
theorem SvG.alK_le (x:SvG) (p:IrG) (k:Nat):(x.alK p k).length<=k:=by
 unfold SvG.alK;rw[List.length_map];exact Nat.le_trans (List.length_filter_le _ _) (x.mbK_le k)
theorem SvG.alK_pre (x:SvG) (p:IrG) {k n:Nat} (h:k<=n):∃r,x.alK p n=x.alK p k++r:=by
 obtain⟨d,rfl⟩:=Nat.exists_eq_add_of_le h
 induction d with
 | zero=>exact⟨[],τ⟩
 | succ d ih=>
   obtain⟨r,hr⟩:=ih ω;rw[<- Nat.add_assoc,x.alK_succ,hr];exact⟨_,List.append_assoc ..⟩
theorem aXv (h:x.Va) {p:IrG} (hp:p.ok=true):fdI x.mbs p x.turns x.num x.den=x.alK p x.ir.length:=by
 have hv:=SvG.va_iff.2 h;obtain⟨c1,c2,c3,c4⟩:=aEr hv;unfold fdI;rw[if_pos (SvG.mE_ok hv hp)];unfold aFi SvG.alK;rw[aIg x.mbs_SL,Int.toNat_of_nonneg c2.1,Int.toNat_of_nonneg (ω:0<=x.den)];rfl
def uX (r:Rg.RG) (o:OrG) (t:Int) (l:List Int):List HtG:=
 (l.filter λa=>decide (r.aerr (qAt o.q a t)=0)).map λa=>⟨a,r.aL (qAt o.q a t),r.aO (qAt o.q a t),r.aS (qAt o.q a t),r.aN (qAt o.q a t)⟩
theorem aPp {r:Rg.RG} {o:OrG} {t a:Int} (h:r.aerr (qAt o.q a t)=0) (l:List Int):uX r o t (a::l)=⟨a,r.aL (qAt o.q a t),r.aO (qAt o.q a t),r.aS (qAt o.q a t),r.aN (qAt o.q a t)⟩::uX r o t l:=by
 unfold uX;rw[List.filter_cons_of_pos (by simpa using h),List.map_cons]
theorem aV4 {r:Rg.RG} {o:OrG} {t a:Int} (h:¬r.aerr (qAt o.q a t)=0) (l:List Int):uX r o t (a::l)=uX r o t l:=by
 unfold uX;rw[List.filter_cons_of_neg (by simpa using h)]
theorem aEd (o:OrG):∀(l:List Int) (x:SvG) (hs:List HtG),(mF x o l hs).2.e=0->(mF x o l hs).2=⟨0,((hs++uX x.r o x.now l).length:Nat),hs++uX x.r o x.now l⟩
 | [],x,hs,_=>by
   have e:uX x.r o x.now []=[]:=rfl;rw[e,List.append_nil];rfl
 | a::l,x,hs,h=>by
   unfold mF at h ⊢;simp only at h ⊢;by_cases ha:x.r.aerr (qAt o.q a x.now)=0
   ·rw[if_pos ha] at h ⊢;by_cases h60:x.lg.length=60
    ·rw[if_pos h60] at h;exact absurd h (by show ¬(9:Int)=0;decide)
    ·rw[if_neg h60] at h ⊢;rw[aEd o l _ _ h,aPp ha,List.append_assoc];rfl
   ·rw[if_neg ha] at h ⊢;rw[aEd o l x hs h,aV4 ha]
theorem bBy {o:OrG} (hk:o.k=13):doM x o=lC x o:=by
 unfold Sr.doM;rw[hk];rfl
theorem bBk (h:x.Va) {o:OrG} (hk:o.k=13) (he:(nX x o).e=0) :
 o.x.ok=true/\o.q.err=0/\nX x o=⟨0,((uX x.r o x.now (x.alK o.x x.ir.length)).length:Nat),uX x.r o x.now (x.alK o.x x.ir.length)⟩:=by
 obtain⟨h0,h1,h2⟩:=aX6 he;rw[h1];rw[bBy hk] at h0 ⊢;unfold lC at h0 ⊢;by_cases hx:o.x.ok=true
 ·rw[if_pos hx] at h0 ⊢;by_cases hq:o.q.err=0
  ·rw[if_pos hq,aXv h hx] at h0 ⊢;exact⟨hx,hq,aEd o _ x [] h0⟩
  ·rw[if_neg hq] at h0;exact absurd h0 hq
 ·rw[if_neg hx] at h0;exact absurd h0 (by show ¬(30:Int)=0;decide)
end Go.Gx.Sr
