/-
  Texts of the walk, merged: Xw.
-/
import Derived.Test.YtncccnmmjfapnaaGreatZap
set_option linter.unusedVariables false
set_option linter.unusedSimpArgs false
set_option maxRecDepth 100000
set_option maxHeartbeats 4000000
namespace Go.Gx.Sr
open Go.RowKit Go.WideShapes Go.ChangeShapes Go.Proofs Go.Proofs.YtncccnmmjfapnaaGreat
abbrev wdF (w:W64):Nat→RV:=λ_=>.w w
abbrev wds (l:List W64):SV:=.r (.rs 1 l.length (rowOf wdF l))
theorem flatWs:flatT Tryz.prog 8 145=some [slOf [csW]]:=by kernel_rfl
section
variable {W:World}
theorem word_rows {v:Value} (h:CSok W (slOf [csW]) v):∃l:List W64,∀σ,(wds l).rel σ (ZW W) W v:=by
 obtain⟨l,_,hl⟩:=list_rows h wdF (λcv=>Ix.v64 (cv 0)) (λ_=>True) (λcv hc=>⟨trivial,λj hj=>by
  match j,hj,hc j hj with
  | 0,_,hc=>exact⟨one_vi hc,rel_w hc⟩
  | j+1,hj,_=>exact absurd hj (by simp)⟩)
 exact⟨l,hl⟩
section
variable {H:Type} {enc:TypeId × Value→H} {base:Nat} {spare:Nat→Bool} {held:Bool}
theorem words_arg {v:Value} {d:DataW H} {p:List MemPlace} {r:Reach} {b0:Nat} (hv:Value.okWide Tryz.prog W r b0 145 v) (h:DataW.Trod enc Tryz.prog W base spare held 145 v d p):∃l:List W64,∀σ,(wds l).rel σ (ZW W) W v:=by
 have hone:v.cells.toList=[v]:=by
  simp only [Value.okWide,Tryz.underlying145,Cell.okWide] at hv
  cases v <;> simp_all [Cell.ok,Value.cells]
 have hc:=open_flat flatWs h
 rw[hone] at hc
 obtain⟨v0,_,e,h0,rfl⟩:=hc
 cases e
 exact word_rows h0
end
end
end Go.Gx.Sr
