/-
  Texts of the walk, merged: Xt.
-/
import Derived.Test.YtncccnmmjfapnaaGreatZxi
set_option linter.unusedVariables false
set_option linter.unusedSimpArgs false
set_option maxRecDepth 100000
set_option maxHeartbeats 4000000
namespace Go.Gx
open Go.RowKit Go.Proofs Go.Proofs.YtncccnmmjfapnaaGreat
theorem twin25w (g:EG) (hr:g.nr≤1000000) (hl:g.nl≤1000000) (hc:g.nc≤1000000) (hv:∀i,i<g.nc→(g.c i).nv≤1000000):Own Tryz.prog 90 [] [g.sv] (.agg [.sl 0 2 0 g.nr none,.sl 1 3 0 g.nl none,.sl 2 3 0 g.nc none]) [.vec 116 2 g.nr λi j=>.r ((g.r i).c j),.vec 147 3 0 λ_ _=>.r .any,.vec 150 3 0 λ_ _=>.r .any]:=by
 refine own_of_GC T_ok Tryz.func90 rfl (by kernel_rfl) (nb rfl) rfl rfl ?_
 simp[go_sem]
 refine⟨by omega,by omega,by omega,?_⟩
 refine GLoop_p T_ok (α:=Nat) (λk=>[(1,.ptr 0 0 3 0),(2,.ptr 1 0 3 0),(3,.i k)])
  (λk M nx=>k≤g.nc∧5≤nx∧M 0=some (.box [.sl 2 2 0 g.nr none,.sl 3 3 0 g.nl none,.sl 4 3 0 g.nc none])∧M 1=some (.box [nilS,nilS,nilS])∧(∃G,M 2=some (.vec 116 2 g.nr G)∧∀i j,i<g.nr→j<2→G i j=.r ((g.r i).c j))∧(∃G,M 3=some (.vec 147 3 g.nl G))∧∃G,M 4=some (.vec 150 3 g.nc G)∧∀i j,k≤i→i<g.nc→j<3→G i j=.r ((g.c i).c j))
  (λk=>g.nc - k) 0 ?_ ?_ ?_
 ·simp[go_sem,joined]
  refine⟨λi j hi hj=>?_,λi j hi hj=>?_⟩
  ·exact λh=>absurd hi (by omega)
  ·exact λh=>absurd hi (by omega)
 ·simp[go_sem]
 rintro k J M nx _ ⟨hk,hnx,m0,m1,⟨G2,m2,hG2⟩,⟨G3,m3⟩,G4,m4,hG4⟩
 have b0:¬0=nx:=by omega
 have b1:¬1=nx:=by omega
 have b2:¬2=nx:=by omega
 have b3:¬3=nx:=by omega
 have c3:¬nx=3:=by omega
 have b4:¬4=nx:=by omega
 have c0:¬nx=0:=by omega
 have c1:¬nx=1:=by omega
 have c2:¬nx=2:=by omega
 have c4:¬nx=4:=by omega
 by_cases hlt:k<g.nc
 rotate_left
 ·simp[go_sem,hlt,m0,m1,m2,m3,m4]
  refine⟨[2,3,4],by simp,λN=>⟨by simp[go_sem],?_⟩⟩
  simp[go_sem,m2,m3,m4]
  exact hG2
 have hvk:=hv k hlt
 have h2:=hG4 k 2 (Nat.le_refl _) hlt (by decide)
 simp[go_sem,hlt,m0,m1,m2,m3,m4]
 refine GDraw_l (t:=(.take 0 (.take 1 (.take 2 (.take 4 (.take 5 (.take 6 (.take 7 (.take 8 (.take 9 (.alt 3 [9,8,7,6,5,4,2,1,0] (.alt 10 [9,8,7,6,5,4,2,1,0] (.take 11 (.take 12 (.alt 13 [12,11,8,7,6,5,4,2,1,0] (.done [11]) .nil))) .nil) .nil))))))))))) T_ok (by kernel_rfl) (by kernel_rfl) (by kernel_rfl) (λ_ _ _ _ h=>h) ?_
 simp[go_sem,hlt,m0,m1,m2,m3,m4,h2,b0,b1,b2,b3,b4,c0,c1,c2,c3,c4]
 exact⟨⟨by omega,by omega⟩,by omega,k+1,by omega,by omega,by omega,by omega,λi j hi hj=>by rw[hG2 i j hi hj];rfl,λi j h1 h2 hj=>by rw[if_neg (by omega),hG4 i j (by omega) h2 hj];rfl⟩
end Go.Gx
namespace Go.Gx.Sr
open Go.RowKit Go.Proofs Go.Proofs.YtncccnmmjfapnaaGreat Go.Gx.Ix
theorem twin17w (g:Rg.RG) (hr:g.nr≤1000000) (hc:g.nc≤1000000) (hw:g.nw≤1000000) (hm:g.nm≤1000000):Own Tryz.prog 91 [] [g.sv] (.agg [.sl 0 8 0 g.nr none,.sl 1 3 0 g.nc none,.sl 2 4 0 g.nw none,.sl 3 5 0 g.nm none]) [.vec 55 8 0 λ_ _=>.r .any,.vec 59 3 0 λ_ _=>.r .any,.vec 57 4 0 λ_ _=>.r .any,.vec 61 5 0 λ_ _=>.r .any]:=by
 refine own_of_GC T_ok Tryz.func91 rfl (by kernel_rfl) (nb rfl) rfl rfl ?_
 simp[go_sem]
 refine⟨⟨by omega,by omega⟩,⟨by omega,by omega⟩,⟨by omega,by omega⟩,⟨by omega,by omega⟩,[2,3,4,5],by decide,λN=>⟨?_,?_⟩⟩
 ·simp[go_sem]
 ·simp[go_sem,joined]
theorem twin33w (x:SvG) (hx:x.OK) (hs:x.ir.length≤30∧x.ch.length≤100∧x.ks.length≤10∧x.lg.length≤100):Own Tryz.prog 33 [] [x.sv]
 (.agg [.i x.num,.i x.den,.i x.turns,.i x.mage,.w x.key,.i x.now,.sl 0 2 0 x.g.nr none,.sl 1 3 0 x.g.nl none,.sl 2 3 0 x.g.nc none,.sl 3 2 0 x.ir.length none,.sl 4 8 0 x.r.nr none,.sl 5 3 0 x.r.nc none,.sl 6 4 0 x.r.nw none,.sl 7 5 0 x.r.nm none,.sl 8 3 0 x.ch.length none,.sl 9 4 0 x.ks.length none,.sl 10 7 0 x.lg.length none])
 [.vec 116 2 x.g.nr λi j=>.r ((x.g.r i).c j),.vec 147 3 0 λ_ _=>.r .any,.vec 150 3 0 λ_ _=>.r .any,.vec 45 2 x.ir.length λi j=>.r (rowOf IrG.f x.ir i j),.vec 55 8 0 λ_ _=>.r .any,.vec 59 3 0 λ_ _=>.r .any,.vec 57 4 0 λ_ _=>.r .any,.vec 61 5 0 λ_ _=>.r .any,.vec 114 3 0 λ_ _=>.r .any,.vec 100 4 x.ks.length λi j=>.r (rowOf KsG.f x.ks i j),.vec 73 7 x.lg.length λi j=>.r (rowOf EnG.f x.lg i j)]:=by
 refine own_of_GC T_ok Tryz.func33 rfl (by kernel_rfl) (nb rfl) rfl rfl ?_
 have h1:=hx.g.nr;have h2:=hx.g.nl;have h3:=hx.g.nc
 have r1:=hx.rn;have r2:=hx.rc;have r3:=hx.rw';have r4:=hx.rm
 obtain⟨s1,s2,s3,s4⟩:=hs
 simp[go_sem]
 refine callK_own [] (twin25w x.g (by omega) (by omega) (by omega) λi hi=>by have:=hx.g.nv i hi;omega) (by simp) rfl trivial ?_
 simp[go_sem]
 refine⟨by omega,?_⟩
 refine callK_own [] (twin17w x.r (by omega) (by omega) (by omega) (by omega)) (by simp) rfl trivial ?_
 simp[go_sem]
 refine⟨by omega,by omega,by omega,[2,3,4,5,6,7,8,9,10,11,12],by simp,λN=>⟨by simp[go_sem],?_⟩⟩
 simp[go_sem,joined]
 exact⟨λi j h1 h2 h3=>absurd h1 (by omega),λi j h1 h2 h3=>absurd h1 (by omega),λi j h1 h2 h3=>absurd h1 (by omega)⟩
end Go.Gx.Sr
