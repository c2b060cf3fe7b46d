/-
 Texts of the walk, merged: Xg.
-/
import Derived.Test.YtncccnmmjfapnaaGreatZxd
set_option linter.unusedVariables false
set_option linter.unusedSimpArgs false
set_option maxRecDepth 100000
set_option maxHeartbeats 4000000
namespace Go.Gx.Sr
open Go.RowKit Go.Proofs Go.Proofs.YtncccnmmjfapnaaGreat Go.Gx.Ix
variable {x:SvG}
theorem SvG.mbs_SL (x:SvG):Ix.SL x.mbs:=by
 unfold SvG.mbs Ix.SL;rw[List.pairwise_map];exact(List.Pairwise.filter _ List.pairwise_lt_range).imp fun {a b} h=>Int.ofNat_lt.2 h
def SvG.alK (x:SvG) (p:IrG) (k:Nat):List Int:=((x.mbK k).filter λa=>rP a.x p x.turns.toNat x.num x.den).map (·.id)
theorem SvG.alK_succ (x:SvG) (p:IrG) (k:Nat):x.alK p (k+1)=x.alK p k++if (x.g.th k&&rP (x.eye k) p x.turns.toNat x.num x.den)=true then [(k:Int)] else []:=by
 unfold SvG.alK;rw[SvG.mbK_succ,List.filter_append,List.map_append]
 congr 1
 cases h:x.g.th (k:Int)
 ·simp
 ·cases h2:rP (x.eye k) p x.turns.toNat x.num x.den <;> simp[h2]
theorem SvG.alK_pre (x:SvG) (p:IrG) {k n:Nat} (h:k<=n):∃r,x.alK p n=x.alK p k++r:=by
 obtain⟨d,rfl⟩:=Nat.exists_eq_add_of_le h
 induction d with
 | zero=>exact⟨[],τ⟩
 | succ d ih=>
   obtain⟨r,hr⟩:=ih ω;rw[<- Nat.add_assoc,x.alK_succ,hr];exact⟨_,List.append_assoc ..⟩
theorem bFf (h:x.Va) {p:IrG} (hp:p.ok=true):fdI x.mbs p x.turns x.num x.den=x.alK p x.ir.length:=by
 have hv:=SvG.va_iff.2 h;obtain⟨c1,c2,c3,c4⟩:=aHo hv;unfold fdI;rw[if_pos (SvG.mE_ok hv hp)];unfold aAl SvG.alK;rw[aJb x.mbs_SL,Int.toNat_of_nonneg c2.1,Int.toNat_of_nonneg (ω:0<=x.den)];rfl
end Go.Gx.Sr
