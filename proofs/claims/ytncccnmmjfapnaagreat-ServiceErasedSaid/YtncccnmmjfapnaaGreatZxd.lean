/-
  Texts of the walk, merged: Xd.
-/
import Derived.Test.YtncccnmmjfapnaaGreatZap
set_option linter.unusedVariables false
set_option linter.unusedSimpArgs false
set_option maxRecDepth 100000
set_option maxHeartbeats 4000000
namespace Go.Gx.Sr
open Go.RowKit Go.Proofs Go.Proofs.YtncccnmmjfapnaaGreat Go.Gx.Ix
variable (x:SvG) (o:OrG)
end Go.Gx.Sr
namespace Go.Gx.Rg
open Go.RowKit Go.Proofs Go.Proofs.YtncccnmmjfapnaaGreat
theorem RG.same_of {g h:RG} (e1:g.nr=h.nr) (e2:g.nc=h.nc) (e3:g.nw=h.nw) (e4:g.nm=h.nm) (r:∀i,i<g.nr→g.r i=h.r i) (c:∀i,i<g.nc→g.c i=h.c i) (w:∀i,i<g.nw→g.w i=h.w i) (m:∀i,i<g.nm→g.m i=h.m i):g.same h=true:=by
 unfold RG.same RG.s1 RG.s2 RG.s3 RG.s4
 simp only [Bool.and_eq_true,decide_eq_true_eq,List.all_eq_true,List.mem_range]
 exact⟨⟨⟨⟨e1,λi hi=>by rw[r i hi];simp[RuleG.eqB]⟩,e2,λi hi=>by rw[c i hi];simp[ConG.eqB]⟩,e3,λi hi=>by rw[w i hi];simp[WarG.eqB]⟩,e4,λi hi=>by rw[m i hi];simp[MarkG.eqB]⟩
end Go.Gx.Rg
namespace Go.Gx.Sr
open Go.RowKit Go.Proofs Go.Proofs.YtncccnmmjfapnaaGreat Go.Gx.Ix
theorem st_ok {x:SvG} {o:OrG} (h:(stA x o).e=0):(doM x o).2.e=0∧stA x o=(doM x o).2∧stX x o=(doM x o).1:=by
 unfold stA stX at *
 by_cases e:(doM x o).2.e=0
 ·rw[if_pos e,if_pos e];exact⟨e,rfl,rfl⟩
 ·rw[if_neg e] at h
  exact absurd h e
theorem bad_e (e:Int):(bad e).e=e:=rfl
def ordR (a:Int):OrG:={OrG.z with k:=5,a:=a}
theorem ordR_ok (a:Int):ordE (ordR a)=0:=rfl
theorem ordR_sm (a:Int):(ordR a).Sm:=⟨⟨(by decide:(0:Int)≤0),(by decide:(0:Int)<256)⟩,(by decide:((0:Nat):Int)<2 ^ 61)⟩
theorem step_bad {x:SvG} {o:OrG} (hx:x.OK) (ho:o.Sm) (h:¬stpE x o=0):Pure Tryz.prog 18 [x.sv,o.sv] (· =.tup [SvG.zero.sv,AnG.zero.sv,.i (stpE x o)]):=by
 have hs:=step18 x o hx ho
 rw[if_neg h,if_neg h] at hs
 exact hs
theorem step_good {x:SvG} {o:OrG} (hx:x.OK) (ho:o.Sm) (h:stpE x o=0):Pure Tryz.prog 18 [x.sv,o.sv] (· =.tup [(stX x o).sv,(stA x o).sv,.i 0]):=by
 have hs:=step18 x o hx ho
 rw[if_pos h,if_pos h,h] at hs
 exact hs
theorem stpE_va {x:SvG} {o:OrG} (h:stpE x o=0):x.Va∧ordE o=0:=by
 unfold stpE at h
 by_cases hc:x.chkE=0
 ·rw[if_pos hc] at h
  exact⟨SvG.va_iff.1 (chkE_iff.1 hc),h⟩
 ·rw[if_neg hc] at h
  exact absurd h hc
theorem SV.le_of_sub {x y:SV} (h:x.sub y):x.le y:=λZ w v hr=>SV.sub_rel x y v h hr
end Go.Gx.Sr
