/-
 Texts of the walk, merged: Xm.
-/
import Derived.Test.YtncccnmmjfapnaaGreatZxd
set_option linter.unusedVariables false
set_option linter.unusedSimpArgs false
set_option maxRecDepth 100000
set_option maxHeartbeats 4000000
namespace Go.Gx.Sr
open Go.RowKit Go.Proofs Go.Proofs.YtncccnmmjfapnaaGreat Go.Gx.Ix
theorem HtG.row (x:HtG):x.f 0=.i x.a/\x.f 1=.i x.l/\x.f 2=.v (.bool x.o)/\x.f 3=.i x.s/\x.f 4=.i x.n:=⟨rfl,rfl,rfl,rfl,rfl⟩
theorem aD2 (a:AnG) (hn:a.h.length<1000000):Pure Tryz.prog 43 [a.sv,a.sv] (· =.b true):=by
 refine π Tryz.func43 ?_;simp[go_sem];refine aH aD (α:=Nat) (λi=>[(2,.ptr 0 0 3 0),(3,.ptr 1 0 3 0),(5,.i i)]) (λ_=>[some (.box [.i a.e,.i a.n,hts a.h]),some (.box [.i a.e,.i a.n,hts a.h])]) 2 (λi=>i<=a.h.length) (λi=>a.h.length - i) 0 (λ_=>rfl) (Nat.zero_le _) ζ ζ ?_;intro i J hi;by_cases hlt:i<a.h.length
 ·have hrow:=aI (f:=HtG.f) hlt;obtain⟨r0,r1,r2,r3,r4⟩:=HtG.row a.h[i];simp[go_sem,hlt];refine aE aD κ κ ?_;simp[go_sem,hlt,hrow,r0,r1,r2,r3,r4];exact⟨ω,i+1,ω,ω,ω⟩
 ·simp[go_sem,hlt]
end Go.Gx.Sr
