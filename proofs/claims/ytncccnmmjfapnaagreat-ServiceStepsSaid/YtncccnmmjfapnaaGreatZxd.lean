/-
 Texts of the walk, merged: Xd.
-/
import Derived.Test.YtncccnmmjfapnaaGreatZap
set_option linter.unusedVariables false
set_option linter.unusedSimpArgs false
set_option maxRecDepth 100000
set_option maxHeartbeats 4000000
namespace Go.Gx.Sr
open Go.RowKit Go.Proofs Go.Proofs.YtncccnmmjfapnaaGreat Go.Gx.Ix
variable (x:SvG) (o:OrG)
end Go.Gx.Sr
namespace Go.Gx.Rg
open Go.RowKit Go.Proofs Go.Proofs.YtncccnmmjfapnaaGreat
theorem RG.same_of {g h:RG} (e1:g.nr=h.nr) (e2:g.nc=h.nc) (e3:g.nw=h.nw) (e4:g.nm=h.nm) (r:∀i,i<g.nr->g.r i=h.r i) (c:∀i,i<g.nc->g.c i=h.c i) (w:∀i,i<g.nw->g.w i=h.w i) (m:∀i,i<g.nm->g.m i=h.m i):g.same h=true:=by
 unfold RG.same RG.s1 RG.s2 RG.s3 RG.s4;simp only [Bool.and_eq_true,decide_eq_true_eq,List.all_eq_true,List.mem_range];exact⟨⟨⟨⟨e1,λi hi=>by rw[r i hi];simp[RuleG.eqB]⟩,e2,λi hi=>by rw[c i hi];simp[ConG.eqB]⟩,e3,λi hi=>by rw[w i hi];simp[WarG.eqB]⟩,e4,λi hi=>by rw[m i hi];simp[MarkG.eqB]⟩
theorem RG.same_rfl (g:RG):g.same g=true:=RG.same_of rfl rfl rfl rfl (λ_ _=>rfl) (λ_ _=>rfl) (λ_ _=>rfl) (λ_ _=>rfl)
end Go.Gx.Rg
namespace Go.Gx.Sr
open Go.RowKit Go.Proofs Go.Proofs.YtncccnmmjfapnaaGreat Go.Gx.Ix
theorem SvG.same_rfl (x:SvG):x.same x=true:=by
 unfold SvG.same SvG.sm1 SvG.sm2;simp[EG.smB_rfl,Rg.RG.same_rfl]
theorem OrG.sm_of {o:OrG} (hb:o.rl.byte) (h:o.great=false):o.Sm:=by
 unfold OrG.great at h;exact⟨hb,by have:=of_decide_eq_false h;omega⟩
theorem SvG.zero_ok:SvG.zero.OK:=⟨⟨δ,δ,δ,λi hi=>absurd hi (Nat.not_lt_zero i)⟩,⟨δ,δ,δ,δ,λi hi=>absurd hi (Nat.not_lt_zero i)⟩,δ,δ,δ,δ,δ,δ,δ,δ⟩
end Go.Gx.Sr
