/-
 Texts of the walk, merged: Xn.
-/
import Derived.Test.YtncccnmmjfapnaaGreatZxm
import Derived.Test.YtncccnmmjfapnaaGreatZxg
import Derived.Test.YtncccnmmjfapnaaGreatZxe
set_option linter.unusedVariables false
set_option linter.unusedSimpArgs false
set_option maxRecDepth 100000
set_option maxHeartbeats 4000000
namespace Go.Gx.Sr
open Go.RowKit Go.Proofs Go.Proofs.YtncccnmmjfapnaaGreat Go.Gx.Ix
theorem aUz {x:SvG} {o:OrG} (h:x.Va) (hk:1<=o.k/\o.k<=14):(nX x o).h.length<1000000:=by
 by_cases he:(nX x o).e=0;rotate_left
 ·rw[(aW9 he).2.2];decide
 by_cases h13:o.k=13
 ·obtain⟨_,_,e⟩:=bBk h h13 he;rw[e];show(uX _ _ _ _).length<_;unfold uX;rw[List.length_map];have h1:=List.length_filter_le (λa=>decide (x.r.aerr (qAt o.q a x.now)=0)) (x.alK o.x x.ir.length);have h2:=x.alK_le o.x x.ir.length;have h3:=h.irn;have h4:=(EG.val_iff.1 h.g).nr;omega
 ·have key:(doM x o).2.h=[]:=by
   unfold Sr.doM;by_cases h1:o.k=1
   ·rw[if_pos h1];unfold oI;(repeat' split) <;> rfl
   rw[if_neg h1];by_cases h2:o.k=2
   ·rw[if_pos h2];unfold iS;(repeat' split) <;> rfl
   rw[if_neg h2];by_cases h3:o.k=3
   ·rw[if_pos h3];unfold oC;(repeat' split) <;> rfl
   rw[if_neg h3];by_cases h4:o.k=4
   ·rw[if_pos h4];unfold wdM;(repeat' split) <;> rfl
   rw[if_neg h4];by_cases h5:o.k=5
   ·rw[if_pos h5];unfold zO;(repeat' split) <;> rfl
   rw[if_neg h5];by_cases h6:o.k=6
   ·rw[if_pos h6];unfold nZ;(repeat' split) <;> rfl
   rw[if_neg h6];by_cases h7:o.k=7
   ·rw[if_pos h7];unfold vY;(repeat' split) <;> rfl
   rw[if_neg h7];by_cases h8:o.k=8
   ·rw[if_pos h8];unfold wC;(repeat' split) <;> rfl
   rw[if_neg h8];by_cases h9:o.k=9
   ·rw[if_pos h9];unfold putM;(repeat' split) <;> rfl
   rw[if_neg h9];by_cases h10:o.k=10
   ·rw[if_pos h10];unfold zR;(repeat' split) <;> rfl
   rw[if_neg h10];by_cases h11:o.k=11
   ·rw[if_pos h11];unfold vW;(repeat' split) <;> rfl
   rw[if_neg h11];by_cases h12:o.k=12
   ·rw[if_pos h12];unfold aAq rQ;(repeat' split) <;> rfl
   rw[if_neg h12,if_neg h13];unfold wB rQ
   (repeat' split) <;> first | rfl | (simp only;(repeat' split) <;> rfl)
  obtain⟨_,e,_⟩:=aX6 he;rw[e,key];decide
end Go.Gx.Sr
