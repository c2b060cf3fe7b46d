/-
  Texts of the walk, merged: Xn.
-/
import Derived.Test.YtncccnmmjfapnaaGreatZxm
import Derived.Test.YtncccnmmjfapnaaGreatZxg
import Derived.Test.YtncccnmmjfapnaaGreatZxe
set_option linter.unusedVariables false
set_option linter.unusedSimpArgs false
set_option maxRecDepth 100000
set_option maxHeartbeats 4000000
namespace Go.Gx.Sr
open Go.RowKit Go.Proofs Go.Proofs.YtncccnmmjfapnaaGreat Go.Gx.Ix
theorem hits_le {x:SvG} {o:OrG} (h:x.Va) (hk:1≤o.k∧o.k≤14):(stA x o).h.length<1000000:=by
 by_cases he:(stA x o).e=0
 rotate_left
 ·rw[(stA_err he).2.2];decide
 by_cases h13:o.k=13
 ·obtain⟨_,_,e⟩:=fnd_ok h h13 he
  rw[e]
  show(hitL _ _ _ _).length<_
  unfold hitL
  rw[List.length_map]
  have h1:=List.length_filter_le (λa=>decide (x.r.aerr (qAt o.q a x.now)=0)) (x.alK o.x x.ir.length)
  have h2:=x.alK_le o.x x.ir.length
  have h3:=h.irn
  have h4:=(EG.val_iff.1 h.g).nr
  omega
 ·have key:(doM x o).2.h=[]:=by
   unfold Sr.doM
   by_cases h1:o.k=1
   ·rw[if_pos h1];unfold tickM;(repeat' split) <;> rfl
   rw[if_neg h1]
   by_cases h2:o.k=2
   ·rw[if_pos h2];unfold enrolM;(repeat' split) <;> rfl
   rw[if_neg h2]
   by_cases h3:o.k=3
   ·rw[if_pos h3];unfold voteM;(repeat' split) <;> rfl
   rw[if_neg h3]
   by_cases h4:o.k=4
   ·rw[if_pos h4];unfold wdM;(repeat' split) <;> rfl
   rw[if_neg h4]
   by_cases h5:o.k=5
   ·rw[if_pos h5];unfold remM;(repeat' split) <;> rfl
   rw[if_neg h5]
   by_cases h6:o.k=6
   ·rw[if_pos h6];unfold ruleM;(repeat' split) <;> rfl
   rw[if_neg h6]
   by_cases h7:o.k=7
   ·rw[if_pos h7];unfold warM;(repeat' split) <;> rfl
   rw[if_neg h7]
   by_cases h8:o.k=8
   ·rw[if_pos h8];unfold conM;(repeat' split) <;> rfl
   rw[if_neg h8]
   by_cases h9:o.k=9
   ·rw[if_pos h9];unfold putM;(repeat' split) <;> rfl
   rw[if_neg h9]
   by_cases h10:o.k=10
   ·rw[if_pos h10];unfold chgM;(repeat' split) <;> rfl
   rw[if_neg h10]
   by_cases h11:o.k=11
   ·rw[if_pos h11];unfold synM;(repeat' split) <;> rfl
   rw[if_neg h11]
   by_cases h12:o.k=12
   ·rw[if_pos h12];unfold verM decM;(repeat' split) <;> rfl
   rw[if_neg h12,if_neg h13]
   unfold gatM decM
   (repeat' split) <;> first | rfl | (simp only;(repeat' split) <;> rfl)
  obtain⟨_,e,_⟩:=st_ok he
  rw[e,key];decide
theorem law13 (x:SvG) (l:List OrG) (hb:∀o∈l,o.rl.byte):Pure Tryz.prog 13 [x.ss,ords l] (· =.b true):=by
 refine pure_of_GC T_ok Tryz.func13 rfl (by kernel_rfl) (nb rfl) rfl rfl ?_
 simp[go_sem]
 refine call_val alive16 rfl rfl ?_
 simp[go_sem]
 refine call_val (long36 l) rfl rfl ?_
 cases hlo:longB l
 rotate_left
 ·simp[go_sem]
 by_cases h150:(150:Int)<l.length
 ·simp[go_sem,h150]
 have hsm:=long_sm hb hlo h150
 have hn:l.length<1000000:=by omega
 simp[go_sem,h150]
 by_cases hE:runE x l=0
 rotate_left
 ·refine call_val (run_bad hn hsm hE) rfl rfl ?_
  simp[go_sem]
  refine call_val (new25 x) rfl rfl ?_
  simp[go_sem,hE]
 obtain⟨hset,hor,_⟩:=runE_ord hE
 refine call_val (run_good hn hsm hE) rfl rfl ?_
 have hnw:=new25 x
 rw[hset,if_pos rfl,if_pos rfl] at hnw
 have hxv:=new_va hset
 obtain⟨z,hz⟩:∃z,x.new=z:=⟨_,rfl⟩
 rw[hz] at hnw hxv ⊢
 have hol:=outs_len l z
 have hog:=outs_get l z
 obtain⟨A,hA⟩:∃A,outs z l=A:=⟨_,rfl⟩
 simp only [hA] at hog
 rw[hA] at hol ⊢
 have hXv:=fold_va l z hxv
 obtain⟨X,hX⟩:∃X,l.foldl stX z=X:=⟨_,rfl⟩
 rw[hX] at hXv ⊢
 simp[go_sem]
 refine call_val hnw rfl rfl ?_
 simp[go_sem,hol]
 refine GLoop_p T_ok (α:=Nat) (λi=>[(1,ords l),(5,.b true),(6,.ptr 1 0 17 0),(7,ans A),(9,.ptr 2 0 17 0),(58,ords l),(59,.i l.length),(60,.i i)])
  (λi M nx=>i≤l.length∧3≤nx∧M 1=some (.box X.cells)∧M 2=some (.box ((l.take i).foldl stX z).cells)) (λi=>l.length - i) 0 ?_ ?_ ?_
 ·exact⟨Nat.zero_le _,by simp[go_sem]⟩
 ·simp[go_sem]
 rintro i J M nx _ ⟨hi,hnx,m1,m2⟩
 have b0:¬nx=0:=by omega
 have b1:¬nx=1:=by omega
 have b2:¬nx=2:=by omega
 have b1':¬1=nx:=by omega
 have b2':¬2=nx:=by omega
 by_cases hlt:i<l.length
 ·have hrow:=rowOf_get (f:=OrG.fc) hlt
  have hlt2:i<A.length:=by omega
  have hrow2:=rowOf_get (f:=AnG.f) hlt2
  have hg:=hog i hlt hlt2
  have hft:=fold_take hlt z
  have hyv:=fold_va (l.take i) z hxv
  have hoE:=hor _ (List.getElem_mem hlt)
  have hos:=hsm _ (List.getElem_mem hlt)
  obtain⟨y,hy⟩:∃y,(l.take i).foldl stX z=y:=⟨_,rfl⟩
  obtain⟨o,ho⟩:∃o,l[i]=o:=⟨_,rfl⟩
  rw[hy] at hg hft hyv m2
  rw[ho] at hrow hg hft hoE hos
  have hhl:=hits_le hyv (ordE_in hoE)
  have hst:=step_good hyv.ok hos (stpE_of hyv hoE)
  obtain⟨a,ha⟩:∃a,stA y o=a:=⟨_,rfl⟩
  obtain⟨y',hy'⟩:∃y',stX y o=y':=⟨_,rfl⟩
  rw[ha] at hg hst hhl
  rw[hy'] at hst hft
  rw[hg] at hrow2
  simp[go_sem,hlt,hrow,m1,m2,b0,b1,b2,b1',b2']
  refine call_val hst rfl rfl ?_
  simp[go_sem,m1,m2,b0,b1,b2,b1',b2']
  refine GDraw_all T_ok (by kernel_rfl) (by kernel_rfl) ?_
  simp[go_sem,hlt2,hrow2,m1,m2,b0,b1,b2,b1',b2']
  refine⟨_,dcall_val (sameAnswer43 a hhl) rfl rfl,?_⟩
  simp[go_sem,m1,m2,b0,b1,b2,b1',b2']
  refine⟨by omega,i+1,by omega,by omega,by omega,?_⟩
  rw[hft]
  simp
 obtain rfl:i=l.length:=by omega
 rw[List.take_length,hX] at m2
 simp[go_sem,m1,m2]
 refine call_val (same32 X X hXv.ok hXv.ok) rfl rfl ?_
 rw[SvG.same_rfl]
 simp[go_sem]
end Go.Gx.Sr
