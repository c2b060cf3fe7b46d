/-
 Texts of the walk, merged: Yq Yr Ye Ys Yf Yg Yt Fy Fv Fz Ga Yu Yk Yo.
-/
import Derived.Test.YtncccnmmjfapnaaGreatZap
import Derived.Test.YtncccnmmjfapnaaGreatZxc
import Derived.Test.YtncccnmmjfapnaaGreatZam
import Derived.Test.YtncccnmmjfapnaaGreatZal
import Derived.Test.YtncccnmmjfapnaaGreatZae
set_option linter.unusedVariables false
set_option linter.unusedSimpArgs false
set_option maxRecDepth 100000
set_option maxHeartbeats 4000000
namespace Go.Gx.Sr
open Go.RowKit Go.Proofs Go.Proofs.YtncccnmmjfapnaaGreat Go.Gx.Ix
theorem aKp (l:List EnG) (hn:l.length<1000000):Pure Tryz.prog 427 [qO l] (· =.w (iK l).l):=by
 refine π Tryz.func427 ?_;unfold iK vT;by_cases h:l.length=0
 ·have h':(l.length:Int)=0:=ω;simp[go_sem,h,EnG.zero]
 ·have h':¬(l.length:Int)=0:=ω;have hlt:l.length - 1<l.length:=ω;have q:=aI (f:=EnG.f) hlt;have e:((l.length:Int) - 1)=((l.length - 1:Nat):Int):=ω;simp[go_sem,h,h',e,hlt,q];omega
theorem aNj (r:RsG) (h:r.good=true):Pure Tryz.prog 373 [r.sv] (· =.w r.pack):=by
 have hb:=RsG.good_in h;have hp:=aIo h;refine π Tryz.func373 ?_;simp[go_sem];have e8:IntKind.i64.wrap r.d=r.d:=bX ⟨ω,ω⟩;rw[e8];refine⟨ω,ω,ω,ω,ω,ω,ω,ω,ω,ω,ω,?_⟩;rw[hp,bX (by simp only [inr];omega)];omega
theorem aCh {l:List EnG} {x:EnG} {q q2 d:Nat} {M:Mem} {X new:Nat->Nat->SV} (h:∀j,j<7->new 0 j=.r (x.f j)) :
 ∀i j,i<l.length+1->j<7->aU M d (SV.kill q (aJ l.length 1 (λi j=>SV.kill q2 (aJ 0 l.length X (λi j=>SV.r (aY EnG.f l i j)) i j)) new i j))=aY EnG.f (l++[x]) i j:=by
 intro i j hi hj;unfold aJ;dsimp only;by_cases h1:i<l.length
 ·rw[if_pos h1,if_neg ω,if_pos ω];unfold aY;rw[List.getElem?_append_left h1]
  cases d <;> rfl
 ·obtain rfl:i=l.length:=ω;rw[if_neg h1,if_pos ω,Nat.sub_self,h j hj];unfold aY;rw[List.getElem?_concat_length]
  cases d <;> rfl
theorem aT3 (l:List EnG) {now:Int} (h:wZ l now) (k p:Int) (d s:W64) (hk:0<=k/\k<=7) (hp:0<=p/\p<=63):Pure Tryz.prog 372 [qO l,.i now,.i k,.i p,.w d,.w s] (· =.tup [qO (if l.length=60 then [] else l++[wrX l now k p d s]),.i (if l.length=60 then 9 else 0)]):=by
 have hok:=h.ok;have hn:l.length<=60:=by
  unfold hJ at hok;simp only [Bool.and_eq_true,decide_eq_true_eq] at hok;exact hok.1
 have h0:=h.now0;have h1:=h.now1;have hlt':=h.t;have e1:Ix.btw 0 maxT now=true:=by simp only [Ix.btw,Bool.and_eq_true,decide_eq_true_eq];exact⟨h0,h1⟩
 have e2:Ix.btw 0 7 k=true:=by simp only [Ix.btw,Bool.and_eq_true,decide_eq_true_eq];exact hk
 have e3:Ix.btw 0 63 p=true:=by simp only [Ix.btw,Bool.and_eq_true,decide_eq_true_eq];exact hp
 have hlk:=uJ (iK l).l (EnG.mk now k p d s (bY d s) 0#64);have hrow:∀j,j<7->[SV.i now,SV.i k,SV.i p,SV.w d,SV.w s,SV.w (bY d s),SV.w (EnG.lnk (iK l).l {t:=now,k:=k,p:=p,d:=d,a:=s,s:=bY d s,l:=0#64})][0*7+j]?.getD (SV.r RV.any)=.r ((wrX l now k p d s).f j):=by
  intro j hj;unfold wrX;rcases lt7 hj with rfl | rfl | rfl | rfl | rfl | rfl | rfl <;> rfl
 obtain⟨W,hW⟩:∃W,EnG.lnk (iK l).l (EnG.mk now k p d s (bY d s) 0#64)=W:=⟨_,rfl⟩;rw[hW] at hlk hrow;refine Pure.ofSub ?_;refine π Tryz.func372 ?_;simp[go_sem];refine aA (rC l ω) rfl rfl ?_;rw[hok];simp[go_sem];refine aA (fG now 0 maxT) rfl rfl ?_;rw[e1];by_cases hz:l.length=0
 ·obtain rfl:l=[]:=List.eq_nil_of_length_eq_zero hz;simp[go_sem];refine aA (fG k 0 7) rfl rfl ?_;rw[e2];simp[go_sem];refine aA (fG p 0 63) rfl rfl ?_;rw[e3];simp[go_sem];refine aM (t:=(.take 0 (.take 2 (.alt 1 [2,0] (.alt 3 [2] (.take 4 (.alt 5 [4] (.done []) .nil)) .nil) .nil)))) aD κ κ κ (λ_ _ _ _ h=>h) ?_;simp[go_sem];refine aA (aKp [] (by simp;try omega)) rfl rfl ?_;simp[go_sem];refine aA hlk rfl rfl ?_;simp[go_sem];refine aM (t:=(.take 1 (.take 3 (.alt 0 [3,1] (.alt 2 [3,1] (.alt 4 [3] (.alt 5 [] (.take 6 (.take 7 (.done [7,6]))) .nil) .nil) (.alt 4 [3,1] (.alt 2 [1] (.alt 5 [] (.take 6 (.take 7 (.done [7,6]))) .nil) .nil) .nil)) (.alt 4 [3,1] (.alt 0 [1] (.alt 2 [1] (.alt 5 [] (.take 6 (.take 7 (.done [7,6]))) .nil) .nil) .nil) .nil))))) aD κ κ κ (λ_ _ _ _ h=>h) ?_;simp[go_sem];have hk2:∀q j,j<7->SV.kill q ([SV.i now,SV.i k,SV.i p,SV.w d,SV.w s,SV.w (bY d s),SV.w W][0*7+j]?.getD (SV.r RV.any))=.r ((wrX [] now k p d s).f j):=λq j hj=>by rw[hrow j hj];rfl
  exact⟨⟨λi j hi hj=>aCh (l:=[]) hrow i j ι hj,λi j hi hj=>aCh (l:=[]) (hk2 _) i j ι hj⟩,λi j hi hj=>aCh (l:=[]) (hk2 _) i j ι hj⟩
 have hlt:l.length - 1<l.length:=ω;have q:=aI (f:=EnG.f) hlt;have e:((l.length:Int) - 1)=((l.length - 1:Nat):Int):=ω;have hl0:(0:Int)<l.length:=ω;have hl0':0<l.length:=ω;have hlast:iK l=l[l.length - 1]:=by
  unfold iK vT;rw[if_neg hz,List.getElem?_eq_getElem hlt];rfl
 have ht:¬now<l[l.length - 1].t:=by rw[<- hlast];omega
 simp[go_sem,hl0,hl0',e,hlt,q,ht];refine⟨ω,?_⟩;refine aA (fG k 0 7) rfl rfl ?_;rw[e2];simp[go_sem];refine aA (fG p 0 63) rfl rfl ?_;rw[e3];by_cases h60:l.length=60
 ·have h60':(l.length:Int)=60:=ω;simp[go_sem,h60,h60']
 have h60':¬(l.length:Int)=60:=ω;simp[go_sem,h60,h60'];refine aM (t:=(.take 0 (.take 2 (.alt 1 [2,0] (.alt 3 [2] (.take 4 (.alt 5 [4] (.done []) .nil)) .nil) .nil)))) aD κ κ κ (λ_ _ _ _ h=>h) ?_;simp[go_sem];refine aA (aKp l ω) rfl rfl ?_;simp[go_sem];refine aA hlk rfl rfl ?_;simp[go_sem];refine aM (t:=(.take 1 (.take 3 (.alt 0 [3,1] (.alt 2 [3,1] (.alt 4 [3] (.alt 5 [] (.take 6 (.take 7 (.done [7,6]))) .nil) .nil) (.alt 4 [3,1] (.alt 2 [1] (.alt 5 [] (.take 6 (.take 7 (.done [7,6]))) .nil) .nil) .nil)) (.alt 4 [3,1] (.alt 0 [1] (.alt 2 [1] (.alt 5 [] (.take 6 (.take 7 (.done [7,6]))) .nil) .nil) .nil) .nil))))) aD κ κ κ (λ_ _ _ _ h=>h) ?_;simp[go_sem];have hk2:∀q j,j<7->SV.kill q ([SV.i now,SV.i k,SV.i p,SV.w d,SV.w s,SV.w (bY d s),SV.w W][0*7+j]?.getD (SV.r RV.any))=.r ((wrX l now k p d s).f j):=λq j hj=>by rw[hrow j hj];rfl
 refine⟨⟨⟨⟨ω,ω⟩,⟨ω,ω⟩,aCh hrow⟩,⟨ω,ω⟩,⟨ω,ω⟩,aCh (hk2 _)⟩,⟨ω,ω⟩,⟨ω,ω⟩,aCh (hk2 _)⟩
theorem aQk (l:List EnG) (hok:hJ l=true) (p:Int) (hp:0<=p/\p<=63):Pure Tryz.prog 297 [qO l,.i p] (· =.tup [qO (erL l p),.i (erN l p),.i 0]):=by
 have hn:l.length<=60:=by
  unfold hJ at hok;simp only [Bool.and_eq_true,decide_eq_true_eq] at hok;exact hok.1
 have e3:Ix.btw 0 63 p=true:=by simp only [Ix.btw,Bool.and_eq_true,decide_eq_true_eq];exact hp
 refine Pure.ofSub ?_;refine π Tryz.func297 ?_;simp[go_sem];refine aA (rC l ω) rfl rfl ?_;rw[hok];simp[go_sem];refine aA (fG p 0 63) rfl rfl ?_;rw[e3];simp[go_sem];refine⟨ω,?_⟩;refine dW aD (α:=Nat) (λk=>[(0,qO l),(1,.i p),(7,.sl 0 7 0 l.length none),(8,.i (erC l p k)),(9,.i k)])
  (λk M nx=>k<=l.length/\1<=nx/\∃G,M 0=some (.vec 73 7 l.length G)/\∀i j,i<l.length->j<7->G i j=.r (erK l p k i j)) (λk=>l.length - k) 0 ?_ ?_ ?_
 ·refine⟨Nat.zero_le _,Nat.le_refl _,_,rfl,λi j hi hj=>?_⟩;simp only [aJ,erK];rw[if_neg (Nat.not_lt_zero _),if_pos ω,if_neg (Nat.not_lt_zero _)];rfl
 ·simp[go_sem,erC,erN]
 rintro k J M nx _ ⟨hk,hnx,G,h0,hG⟩;by_cases hlt:k<l.length
 ·have q:=aI (f:=EnG.f) hlt;have g2:=hG k 2 hlt δ;have e2:erK l p k k 2=.i l[k].p:=by unfold erK;rw[if_neg (Nat.lt_irrefl k),q];rfl
  rw[e2] at g2;have hcl:=aQi l p k;by_cases hp':l[k].p=p
  ·have hc:=xT (p:=p) hlt;rw[if_pos hp'] at hc;have hy:=aKf hlt hp';simp[go_sem,hlt,h0,g2,hp'];refine⟨⟨ω,ω⟩,⟨ω,ω⟩,k+1,ω,⟨ω,ω⟩,ω,hnx,λi j hi hj=>?_⟩;rw[<- hy];unfold erR;by_cases e:i=k
   ·subst e;rw[if_pos rfl];rcases lt7 hj with rfl | rfl | rfl | rfl | rfl | rfl | rfl <;> first | rfl | (simp;done) | (simp;exact hG _ _ hi δ)
   ·rw[if_neg e,if_neg λh=>e h.1,if_neg λh=>e h.1,if_neg λh=>e h.1];exact hG i j hi hj
  ·have hc:=xT (p:=p) hlt;rw[if_neg hp'] at hc;have hy:=aQj hlt hp';simp[go_sem,hlt,h0,g2,hp'];rw[hy] at hG;exact⟨⟨ω,ω⟩,k+1,ω,⟨ω,ω⟩,ω,hnx,hG⟩
 ·have hk':k=l.length:=ω;subst hk';simp[go_sem,h0];refine⟨⟨by simp[erL],λi j hi hj=>?_⟩,by simp[erC]⟩;rw[hG i j hi hj];unfold erK;rw[if_pos hi];rfl
end Go.Gx.Sr
namespace Go.Gx.Ix
open Go.RowKit Go.Proofs Go.Proofs.YtncccnmmjfapnaaGreat
theorem aEx (w:BitVec 64) (i:Nat) (hi:i<64):Pure Tryz.prog 429 [.w w,.i i] (· =.b (w.getLsbD i)):=by
 refine π Tryz.func429 ?_;simp[go_sem];have h1:(bJ (cA w i) 1#64).toNat=w.toNat / 2 ^ i % 2:=by
  rw[qV,mB];exact Nat.and_one_is_mod _
 have h2:w.getLsbD i=decide (w.toNat / 2 ^ i % 2=1):=by rw[BitVec.getLsbD,Nat.testBit_eq_decide_div_mod_eq]
 rw[h2,h1,decide_eq_decide];omega
def rG (t:Int) (i:Nat):Nat:=16*(i / 16)+((i % 16:Nat)+t+16).toNat % 16
def mvW (w:BitVec 64) (t:Int):Nat->BitVec 64
 | 0=>0#64
 | k+1=>if w.getLsbD k=true then iV (mvW w t k) (bT 1#64 (rG t k)) else mvW w t k
theorem bE5 {t:Int} (h1:-16<=t) (i:Nat):rG t i=16*(i / 16)+(i % 16+(t % 16).toNat) % 16:=by unfold rG;omega
theorem aZ7 {t:Int} {i:Nat} (hi:i<64):rG t i<64:=by unfold rG;omega
theorem aGn (n j:Nat) (hj:j<64):(bT 1#64 n).getLsbD j=decide (j=n):=by
 unfold bT;rw[BitVec.getLsbD_shiftLeft];by_cases h:j=n
 ·subst h;simp[hj]
 ·by_cases h2:j<n
  ·simp[h,h2]
  ·have h3:(1#64).getLsbD (j - n)=false:=by
    rw[BitVec.getLsbD_one];simp;omega
   simp[h,h2,h3]
theorem aSb (w:BitVec 64) (t:Int) (j:Nat) (hj:j<64):∀k,(mvW w t k).getLsbD j=(List.range k).any λi=>w.getLsbD i&&decide (rG t i=j)
 | 0=>by simp[mvW]
 | k+1=>by
   have ih:=aSb w t j hj k;rw[List.range_succ,List.any_append,<- ih];have e:mvW w t (k+1)=if w.getLsbD k=true then iV (mvW w t k) (bT 1#64 (rG t k)) else mvW w t k:=rfl
   rw[e]
   cases hb:w.getLsbD k
   ·simp[hb]
   ·rw[if_pos rfl,show iV (mvW w t k) (bT 1#64 (rG t k))=mvW w t k ||| bT 1#64 (rG t k) from rfl,BitVec.getLsbD_or,aGn _ _ hj];have:decide (j=rG t k)=decide (rG t k=j):=by rw[decide_eq_decide];exact eq_comm
    simp[hb,this]
theorem aWo (w:BitVec 64) {t:Int} (h1:-16<=t):mvW w t 64=cL w t:=by
 refine fZ λj hj=>?_;rw[aSb w t j hj,dD w t j hj,Bool.eq_iff_iff,List.any_eq_true];have hr:(t % 16).toNat<16:=ω;have hd:=bE5 h1;generalize (t % 16).toNat=r at hr hd ⊢;constructor
 ·rintro⟨i,hi,h⟩;rw[Bool.and_eq_true,decide_eq_true_eq,hd] at h;have:tIx r j=i:=by unfold tIx;have:=List.mem_range.1 hi;omega
  rw[this];exact h.1
 ·intro h;refine⟨tIx r j,List.mem_range.2 (aJe hj),?_⟩;rw[h,Bool.true_and,decide_eq_true_eq,hd];unfold tIx;omega
theorem aQf (X:Nat):∀k,ds 1 (k+1) X=ds 1 k X+X / 2 ^ k % 2
 | 0=>by simp[ds]
 | k+1=>by
   have h:=aQf (X / 2) k;have e1:ds 1 (k+1+1) X=X % 2 ^ 1+ds 1 (k+1) (X / 2 ^ 1):=rfl;have e2:ds 1 (k+1) X=X % 2 ^ 1+ds 1 k (X / 2 ^ 1):=rfl;have e3:X / 2 / 2 ^ k=X / 2 ^ (k+1):=by rw[Nat.div_div_eq_div_mul,Nat.pow_succ,Nat.mul_comm]
   rw[e1,e2,Nat.pow_one,h,e3];omega
def aAj (x:BitVec 64) (k:Nat):Nat:=ds 1 k x.toNat
theorem aBf (x:BitVec 64) (k:Nat):aAj x (k+1)=aAj x k+if x.getLsbD k=true then 1 else 0:=by
 unfold aAj;rw[aQf]
 congr 1
 have:x.getLsbD k=decide (x.toNat / 2 ^ k % 2=1):=by
  rw[BitVec.getLsbD,Nat.testBit_eq_decide_div_mod_eq]
 rw[this];by_cases h:x.toNat / 2 ^ k % 2=1 <;> simp[h]
 omega
theorem aP0 (x:BitVec 64):aAj x 64=cnt x:=rfl
theorem aKc (x:BitVec 64) (k:Nat):aAj x k<=k:=aHw k _
theorem aR9 (w:BitVec 64) (t:Int) (h1:-16<=t) (h2:t<=16):Pure Tryz.prog 450 [.w w,.i t] (· =.w (mvW w t 64)):=by
 refine π Tryz.func450 ?_;simp[go_sem];refine bF aD (α:=Nat) (λk=>[(0,.w w),(1,.i t),(5,.w (mvW w t k)),(6,.i k)]) (λ_=>[]) 0 (λk=>k<=64) (λk=>64 - k) 0 (λ_=>rfl) τ (by simp[go_sem,mvW]) ζ ?_;intro k J hk;by_cases hkl:k<64
 ·have hkl':(k:Int)<64:=ω;simp[go_sem,hkl'];refine aA (aEx w k hkl) rfl rfl ?_;have hsu:mvW w t (k+1)=if w.getLsbD k=true then iV (mvW w t k) (bT 1#64 (rG t k)) else mvW w t k:=rfl
  cases hb:w.getLsbD k
  ·rw[hb,if_neg τ] at hsu;simp[go_sem];refine⟨ω,k+1,ω,ω,?_,ω⟩;rw[hsu]
  ·rw[hb,if_pos rfl] at hsu;have hdl:=aZ7 (t:=t) hkl;have hkt:(k:Int).tmod 16=k % 16:=Int.tmod_eq_emod_of_nonneg ω;have hde:(k:Int) / 16*16+((k:Int).tmod 16+t+16).tmod 16=(rG t k:Nat):=by
    rw[hkt,Int.tmod_eq_emod_of_nonneg ω];unfold rG;omega
   generalize rG t k=n at *;have hsh:BitVec.ofInt 64 (IntKind.u64.wrap ((2:Int) ^ min n 64))=bT 1#64 n:=by
    rw[Nat.min_eq_left ω];have h4:2 ^ n<18446744073709551616:=Nat.pow_lt_pow_right (a:=2) ω hdl;have h5:((2:Int) ^ n)=((2 ^ n:Nat):Int):=τ;have h6:(bT 1#64 n).toNat=2 ^ n:=by
     unfold bT;rw[BitVec.toNat_shiftLeft,Nat.shiftLeft_eq];simp only [BitVec.toNat_ofNat,Nat.reducePow,Nat.reduceMod,Nat.one_mul];exact Nat.mod_eq_of_lt h4
    rw[h5];generalize 2 ^ n=q at *;rw[bX (by simp only [inr];omega)];apply BitVec.eq_of_toNat_eq;rw[h6,BitVec.ofInt_natCast,BitVec.toNat_ofNat];exact Nat.mod_eq_of_lt h4
   simp[go_sem,hde];rw[hkt];refine⟨ω,ω,ω,ω,ω,ω,k+1,ω,ω,?_,ω⟩;rw[hsu]
 ·have hke:k=64:=ω;subst hke;simp[go_sem]
theorem aKs (w:BitVec 64) (t:Int) (h1:-16<=t) (h2:t<=16):Pure Tryz.prog 450 [.w w,.i t] (· =.w (cL w t)):=by
 have:=aR9 w t h1 h2
 rwa [aWo w h1] at this
theorem aTq (x:IrG) (t:Int) (h1:-16<=t) (h2:t<=16):Pure Tryz.prog 428 [x.sv,.i t] (· =(x.tn t).sv):=by
 refine π Tryz.func428 ?_;simp[go_sem];refine aM (t:=(.take 0 (.take 1 (.take 2 (.take 4 (.take 5 (.take 6 (.alt 3 [6,5,4,2,1,0] (.alt 7 [6,5,4,0] (.take 8 (.alt 9 [8,4,0] (.done []) .nil)) .nil) .nil)))))))) aD κ κ κ (λ_ _ _ _ h=>h) ?_;simp[go_sem];refine aA (aKs x.c t h1 h2) rfl rfl ?_;simp[go_sem];refine aA (aKs x.m t h1 h2) rfl rfl ?_;simp[go_sem,IrG.tn]
theorem aHq (x y:IrG) (t:Int) (h1:-16<=t) (h2:t<=16):Pure Tryz.prog 374 [x.sv,y.sv,.i t] (· =.tup [.i (x.n y t),.i (x.d y t)]):=by
 refine π Tryz.func374 ?_;simp[go_sem];refine aA (aTq x t h1 h2) rfl rfl ?_;obtain⟨z,hz⟩:∃z,x.tn t=z:=⟨_,rfl⟩;have hn:x.n y t=cnt (bJ (bY z.c y.c) (bJ z.m y.m)):=by rw[<- hz];rfl
 have hd:x.d y t=cnt (bJ z.m y.m):=by rw[<- hz];rfl
 rw[hn,hd,hz];simp[go_sem];refine bF aD (α:=Nat) (λk=>[(3,.ptr 0 0 2 0),(4,.ptr 1 0 2 0),(8,.i (aAj (bJ (bY z.c y.c) (bJ z.m y.m)) k)),(9,.i (aAj (bJ z.m y.m) k)),(10,.i k)]) (λ_=>[some (.box [.w z.c,.w z.m]),some (.box [.w y.c,.w y.m])]) 2 (λk=>k<=64) (λk=>64 - k) 0 (λ_=>rfl) τ (by simp[go_sem,aAj,ds]) ζ ?_;intro k J hk;by_cases hkl:k<64
 ·have hkl':(k:Int)<64:=ω;have hs1:=aBf (bJ (bY z.c y.c) (bJ z.m y.m)) k;have hs2:=aBf (bJ z.m y.m) k;have hl1:=aKc (bJ (bY z.c y.c) (bJ z.m y.m)) k;have hl2:=aKc (bJ z.m y.m) k;have b1:(bJ (bY z.c y.c) (bJ z.m y.m)).getLsbD k=((z.c.getLsbD k ^^ y.c.getLsbD k)&&(z.m.getLsbD k&&y.m.getLsbD k)):=by
   unfold bJ bY;rw[BitVec.getLsbD_and,BitVec.getLsbD_xor,BitVec.getLsbD_and]
  have b2:(bJ z.m y.m).getLsbD k=(z.m.getLsbD k&&y.m.getLsbD k):=by unfold bJ;rw[BitVec.getLsbD_and]
  rw[b1] at hs1;rw[b2] at hs2;generalize aAj (bJ (bY z.c y.c) (bJ z.m y.m)) k=n1 at *;generalize aAj (bJ z.m y.m) k=n2 at *;simp[go_sem,hkl'];refine aA (aEx z.m k hkl) rfl rfl ?_
  cases e1:z.m.getLsbD k
  ·rw[e1] at hs1 hs2;simp at hs1 hs2;simp[go_sem];refine⟨ω,k+1,ω,ω,?_⟩;rw[hs1,hs2];exact⟨rfl,rfl,ω⟩
  simp[go_sem];refine aA (aEx y.m k hkl) rfl rfl ?_
  cases e2:y.m.getLsbD k
  ·rw[e1,e2] at hs1 hs2;simp at hs1 hs2;simp[go_sem];refine⟨ω,k+1,ω,ω,?_⟩;rw[hs1,hs2];exact⟨rfl,rfl,ω⟩
  rw[e1,e2] at hs1 hs2;simp at hs1 hs2;simp[go_sem];refine⟨ω,?_⟩;refine aM (t:=(.take 0 (.take 1 (.take 2 (.take 4 (.take 5 (.take 6 (.alt 3 [6,5,4,2,1,0] (.alt 7 [6,5,4,0] (.take 8 (.done [8,4,0])) .nil) .nil)))))))) aD κ κ κ (λ_ _ _ _ h=>h) ?_;simp[go_sem];refine aA (aEx z.c k hkl) rfl rfl ?_;simp[go_sem];refine aA (aEx y.c k hkl) rfl rfl ?_;simp[go_sem]
  cases e3:z.c.getLsbD k <;> cases e4:y.c.getLsbD k <;> rw[e3,e4] at hs1 <;> simp at hs1 <;> simp[go_sem]
  all_goals
   first
   | refine⟨ω,k+1,ω,ω,?_⟩
     rw[hs1,hs2];exact⟨rfl,ω,ω⟩
   | refine⟨ω,ω,k+1,ω,ω,?_⟩
     rw[hs1,hs2];exact⟨ω,ω,ω⟩
 ·have hke:k=64:=ω;subst hke;simp[go_sem,aP0]
def trn (i:Nat):Int:=if i % 2=1 then ((i+1) / 2:Nat) else -((i / 2:Nat):Int)
theorem bB1 (i:Nat) (hi:i<=100):Pure Tryz.prog 375 [.i i] (· =.i (trn i)):=by
 refine π Tryz.func375 ?_;simp[go_sem];have h1:(i:Int).tmod 2=((i % 2:Nat):Int):=by rw[Int.tmod_eq_emod_of_nonneg ω];simp
 unfold trn;by_cases h:i % 2=1
 ·rw[if_pos h,h1,if_pos ω];have h2:((i:Int)+1).tdiv 2=((i+1) / 2:Nat):=by rw[Int.tdiv_eq_ediv_of_nonneg ω];simp
  rw[h2];omega
 ·rw[if_neg h,h1,if_neg ω];have h2:(-(i:Int)).tdiv 2=-((i / 2:Nat):Int):=by rw[Int.neg_tdiv,Int.tdiv_eq_ediv_of_nonneg ω];simp
  omega
theorem aK0:∀n:Nat,hO (n+1)=(List.range (2*n+1)).map trn
 | 0=>rfl
 | n+1=>by
   have h:=aK0 n;have e:hO (n+1+1)=hO (n+1)++if n+1=0 then [0] else [((n+1:Nat):Int),-((n+1:Nat):Int)]:=rfl
   have er:List.range (2*(n+1)+1)=List.range (2*n+1)++[2*n+1,2*n+1+1]:=by
    rw[show 2*(n+1)+1=(2*n+1)+1+1 by omega,List.range_succ (n:=2*n+1+1),List.range_succ (n:=2*n+1),List.append_assoc];rfl
   rw[e,if_neg ω,h,er,List.map_append]
   congr 1
   have t1:trn (2*n+1)=((n+1:Nat):Int):=by unfold trn;rw[if_pos ω];omega
   have t2:trn (2*n+1+1)=-((n+1:Nat):Int):=by unfold trn;rw[if_neg ω];omega
   simp[t1,t2]
theorem aVt (x y:IrG) (l:List Int):∀b:Pt,(b.d=0->b=⟨0,0,0⟩)->(l.foldl (lX x y) b).d=0->l.foldl (lX x y) b=⟨0,0,0⟩:=by
 induction l with
 | nil=>intro b h;exact h
 | cons t l ih=>
   intro b h;rw[List.foldl_cons];refine ih _ λh2=>?_;unfold lX at h2 ⊢;split at h2
   ·rename_i h3;have:=h3.1;simp only at h2;omega
   ·rename_i h3;rw[if_neg h3];exact h h2
theorem aVh (x y:IrG) (l:List Int):(iI x y l).d=0->iI x y l=⟨0,0,0⟩:=aVt x y l _ λ_=>rfl
def bAc (b:Pt):SV:=.tup [.i b.n,.i (if b.d=0 then 1 else b.d:Nat),.i b.t,.b (decide (0<b.d))]
theorem bB0 {n k:Nat} (h:k<=2*n) (hn:n<=7):-16<=trn k/\trn k<=16:=by
 unfold trn;split <;> omega
def dK (x y:IrG) (k:Nat):Pt:=iI x y ((List.range k).map trn)
theorem aVf (x y:IrG) (k:Nat):dK x y (k+1)=lX x y (dK x y k) (trn k):=by
 unfold dK;rw[List.range_succ,List.map_append];exact rF x y _ _
theorem aVg (x y:IrG):dK x y 0=⟨0,0,0⟩:=rfl
theorem bFd (x y:IrG) (n:Nat) (hn:n<=7):Pure Tryz.prog 303 [x.sv,y.sv,.i n] (· =bAc (iH x y n)):=by
 refine π Tryz.func303 ?_;have hdi:iH x y n=dK x y (2*n+1):=by unfold iH dK;rw[aK0]
 rw[hdi];simp[go_sem];refine bF aD (α:=Nat) (λk=>[(2,.i n),(3,.ptr 0 0 2 0),(4,.ptr 1 0 2 0),(10,.i (dK x y k).n),(11,.i (if (dK x y k).d=0 then 1 else (dK x y k).d:Nat)),(12,.i (dK x y k).t),(13,.b (decide (0<(dK x y k).d))),(14,.i k)])
  (λ_=>[some (.box [.w x.c,.w x.m]),some (.box [.w y.c,.w y.m])]) 2 (λk=>k<=2*n+1) (λk=>2*n+1 - k) 0 (λ_=>rfl) τ (by simp[go_sem,aVg]) ζ ?_
 intro k J hk;by_cases hkl:k<2*n+1
 ·have hkl':(k:Int)<=2*n:=ω;obtain⟨t1,t2⟩:=bB0 (n:=n) (k:=k) ω hn;have hc:=aHq x y (trn k) t1 t2;have hsn:=aVf x y k;have hle:(dK x y k).Sm:=jX x y _;have hz:(dK x y k).d=0->dK x y k=⟨0,0,0⟩:=aVh x y _;have l1:=x.n_le y (trn k);have l2:=x.d_le y (trn k);have htu:=bB1 k ω;obtain⟨b,hb⟩:∃b,dK x y k=b:=⟨_,rfl⟩;rw[hb] at hsn hle hz ⊢;unfold lX at hsn;generalize x.n y (trn k)=a at *;generalize x.d y (trn k)=dd at *;generalize trn k=tt at *;have m1:=hle.n;have m2:=hle.d;simp[go_sem,hkl'];refine⟨ω,?_⟩;refine aM (t:=(.take 0 (.take 1 (.take 2 (.alt 3 [2,1,0] (.alt 4 [1,0] (.take 5 (.take 6 (.take 7 (.take 8 (.take 9 (.done [9,8,7,6,5])))))) .nil) .nil))))) aD κ κ κ (λ_ _ _ _ h=>h) ?_;simp[go_sem];refine aA htu rfl rfl ?_;simp[go_sem];refine aA hc rfl rfl ?_;by_cases h16:16<=dd;rotate_left
  ·have h16':¬(16:Int)<=dd:=ω;rw[if_neg (λh=>h16 h.1)] at hsn;simp[go_sem,h16,h16'];refine⟨ω,k+1,ω,ω,?_⟩;rw[hsn];exact⟨rfl,rfl,rfl,Iff.rfl,ω⟩
  have h16':(16:Int)<=dd:=ω;by_cases hb0:b.d=0
  ·have hbz:=hz hb0;subst hbz;have hl:Pt.less ⟨a,dd,tt⟩ ⟨0,0,0⟩=true:=by unfold Pt.less;simp;omega
   rw[if_pos ⟨h16,hl⟩] at hsn;simp[go_sem,h16'];refine aA htu rfl rfl ?_;have hd0:¬dd=0:=ω;have hd1:0<dd:=ω;simp[go_sem];refine⟨ω,k+1,ω,ω,?_⟩;rw[hsn];simp[hd0,hd1]
  ·have hb0':0<b.d:=ω;have m3:a*b.d<=64*64:=Nat.mul_le_mul l1 m2;have m4:b.n*dd<=64*64:=Nat.mul_le_mul m1 l2;have c1:(a:Int)*b.d=((a*b.d:Nat):Int):=τ;have c2:(b.n:Int)*dd=((b.n*dd:Nat):Int):=τ;have hl:Pt.less ⟨a,dd,tt⟩ b=decide (a*b.d<b.n*dd):=by unfold Pt.less;simp[hb0];omega
   simp[go_sem,h16',hb0,hb0'];rw[c1,c2];refine⟨ω,ω,?_⟩;by_cases hlt:a*b.d<b.n*dd
   ·rw[if_pos ω];rw[if_pos ⟨h16,by rw[hl];simpa using hlt⟩] at hsn;refine aA htu rfl rfl ?_;have hd0:¬dd=0:=ω;have hd1:0<dd:=ω;simp[go_sem];refine⟨ω,k+1,ω,ω,?_⟩;rw[hsn];simp[hd0,hd1]
   ·rw[if_neg ω];rw[if_neg (λh=>by rw[hl] at h;simp at h;omega)] at hsn;refine⟨ω,k+1,ω,ω,?_⟩;rw[hsn];simp[hb0,hb0']
 ·have hke:2*n+1=k:=ω;rw[hke];have hkl':¬(k:Int)<=2*n:=ω;simp[go_sem,hkl',bAc];omega
end Go.Gx.Ix
namespace Go.Gx.Sr
open Go.RowKit Go.Proofs Go.Proofs.YtncccnmmjfapnaaGreat Go.Gx.Ix
theorem aK9 (w:W64) (n:Nat):((cA w n).toNat:Int).tmod 2=1↔w.getLsbD n=true:=by
 have h:(cA w n).getLsbD 0=w.getLsbD n:=by
  unfold cA;rw[BitVec.getLsbD_ushiftRight];rfl
 rw[<- h];unfold BitVec.getLsbD;rw[Nat.testBit_zero,decide_eq_true_eq];show(((cA w n).toNat % 2:Nat):Int)=1↔_;omega
theorem bB9 {j:Nat} (h:j<64):(IntKind.u64.wrap (j:Int)).toNat=j:=by
 rw[rW];simp;omega
def kR (x:SvG) (k:KsG):Prop:=k.ok x.key=true/\k.m=x.mage/\k.a<x.now/\∀j,j<64->k.s.getLsbD j=true->x.g.th (j:Nat)=true
theorem aRz (x:SvG) (hx:x.OK) (k:KsG) (c:Bool) (hc:c=true↔kR x k):Pure Tryz.prog 180 [x.sv,k.sv] (· =.b c):=by
 have hno:¬kR x k->c=false:=λh=>by
  cases c
  ·rfl
  ·exact absurd (hc.1 rfl) h
 refine π Tryz.func180 ?_;simp[go_sem];refine aA (aCc k x.key) rfl rfl ?_
 cases h1:k.ok x.key
 ·have:=hno λh=>by have:=h.1;rw[h1] at this;cases this
  subst this;simp[go_sem]
 by_cases h2:k.m=x.mage;rotate_left
 ·have:=hno λh=>h2 h.2.1;subst this;simp[go_sem,h2]
 by_cases h3:k.a<x.now;rotate_left
 ·have:=hno λh=>h3 h.2.2.1;subst this;have h3':x.now<=k.a:=ω;simp[go_sem,h2,h3']
 have h3':¬x.now<=k.a:=ω;simp[go_sem,h2,h3'];refine aH aD (α:=Nat) (λj=>[(2,.ptr 0 0 17 0),(3,.ptr 1 0 4 0),(5,.i j)]) (λ_=>[some (.box x.cells),some (.box [.i k.a,.i k.m,.w k.s,.w k.z])]) 2 (λj=>j<=64/\∀i,i<j->k.s.getLsbD i=true->x.g.th (i:Nat)=true) (λj=>64 - j) 0 (λ_=>rfl) τ ζ (by simp[go_sem,h2]) ?_;intro j J hi;by_cases hlt:j<64;rotate_left
 ·have:c=true:=hc.2 ⟨h1,h2,h3,λi h hb=>hi.2 i ω hb⟩;subst this;simp[go_sem,hlt]
  try omega
 have ht:=eT x hx.g.ok j;have hj:(j:Int)<64:=ω;simp[go_sem,hj,bB9 hlt,aK9];by_cases hb:k.s.getLsbD j=true;rotate_left
 ·simp[hb];refine⟨ω,j+1,⟨ω,λi h hs=>?_⟩,ω,ω⟩;by_cases e:i=j
  ·subst e;exact absurd hs hb
  ·exact hi.2 i ω hs
 simp[hb];refine aA ht rfl rfl ?_
 cases h4:x.g.th (j:Nat)
 ·have:=hno λh=>by have:=h.2.2.2 j hlt hb;rw[h4] at this;cases this
  subst this;simp[go_sem]
 simp[go_sem];refine⟨ω,j+1,⟨ω,λi h hs=>?_⟩,ω,ω⟩;by_cases e:i=j
 ·subst e;exact h4
 ·exact hi.2 i ω hs
def aR (x:SvG):Prop:=(∀i,i<x.r.nc->x.g.th (x.r.c i).p=true)/\(∀i,i<x.r.nw->x.g.th (x.r.w i).p=true)/\(∀i,i<x.r.nm->x.g.th (x.r.m i).p=true)/\
 (∀i (h:i<x.ch.length),x.g.th x.ch[i].p=true/\x.ch[i].t<=x.now)/\∀i (h:i<x.lg.length),(x.lg[i].p<0\/x.g.th x.lg[i].p=true)/\x.lg[i].t<=x.now
theorem aOy (x:SvG) (hx:x.OK) (c:Bool) (hc:c=true↔aR x):Pure Tryz.prog 181 [x.sv] (· =.b c):=by
 have hno:¬aR x->c=false:=λh=>by
  cases c
  ·rfl
  ·exact absurd (hc.1 rfl) h
 have l1:=hx.rc;have l2:=hx.rw';have l3:=hx.rm;have l4:=hx.ch;have l5:=hx.lg;refine π Tryz.func181 ?_;simp[go_sem];refine aH aD (α:=Nat) (λk=>[(1,.ptr 0 0 17 0),(3,.i k)]) (λ_=>[some (.box x.cells)]) 1 (λk=>k<=x.r.nc/\∀i,i<k->x.g.th (x.r.c i).p=true) (λk=>x.r.nc - k) 0 (λ_=>rfl) τ ζ ζ ?_;intro k J hi;by_cases hlt:k<x.r.nc
 ·have ht:=eT x hx.g.ok (x.r.c k).p;simp[go_sem,hlt];refine aE aD κ κ ?_
  cases h4:x.g.th (x.r.c k).p
  ·have:=hno λh=>by have:=h.1 k hlt;rw[h4] at this;cases this
   subst this;have hv:=ht.val (v':=.b false) (by rw[h4]);simp[go_sem,hlt]
   first | refine⟨_,aB hv rfl rfl,?_⟩ | refine⟨ω,_,aB hv rfl rfl,?_⟩ | refine⟨⟨ω,ω⟩,_,aB hv rfl rfl,?_⟩ | refine⟨⟨ω,ω⟩,ω,_,aB hv rfl rfl,?_⟩
   simp[go_sem]
  have hv:=ht.val (v':=.b true) (by rw[h4]);simp[go_sem,hlt]
  first | refine⟨_,aB hv rfl rfl,?_⟩ | refine⟨ω,_,aB hv rfl rfl,?_⟩ | refine⟨⟨ω,ω⟩,_,aB hv rfl rfl,?_⟩ | refine⟨⟨ω,ω⟩,ω,_,aB hv rfl rfl,?_⟩
  simp[go_sem];refine⟨ω,k+1,⟨ω,λi h=>?_⟩,ω,ω⟩;by_cases e:i=k
  ·subst e;exact h4
  ·exact hi.2 i ω
 have r1:∀i,i<x.r.nc->x.g.th (x.r.c i).p=true:=λi h=>hi.2 i ω;clear hi;simp[go_sem,hlt];refine aH aD (α:=Nat) (λk=>[(1,.ptr 0 0 17 0),(4,.i k)]) (λ_=>[some (.box x.cells)]) 1 (λk=>k<=x.r.nw/\∀i,i<k->x.g.th (x.r.w i).p=true) (λk=>x.r.nw - k) 0 (λ_=>rfl) τ ζ ζ ?_;intro k J hi;by_cases hlt:k<x.r.nw
 ·have ht:=eT x hx.g.ok (x.r.w k).p;simp[go_sem,hlt];refine aE aD κ κ ?_
  cases h4:x.g.th (x.r.w k).p
  ·have:=hno λh=>by have:=h.2.1 k hlt;rw[h4] at this;cases this
   subst this;have hv:=ht.val (v':=.b false) (by rw[h4]);simp[go_sem,hlt]
   first | refine⟨_,aB hv rfl rfl,?_⟩ | refine⟨ω,_,aB hv rfl rfl,?_⟩ | refine⟨⟨ω,ω⟩,_,aB hv rfl rfl,?_⟩ | refine⟨⟨ω,ω⟩,ω,_,aB hv rfl rfl,?_⟩
   simp[go_sem]
  have hv:=ht.val (v':=.b true) (by rw[h4]);simp[go_sem,hlt]
  first | refine⟨_,aB hv rfl rfl,?_⟩ | refine⟨ω,_,aB hv rfl rfl,?_⟩ | refine⟨⟨ω,ω⟩,_,aB hv rfl rfl,?_⟩ | refine⟨⟨ω,ω⟩,ω,_,aB hv rfl rfl,?_⟩
  simp[go_sem];refine⟨ω,k+1,⟨ω,λi h=>?_⟩,ω,ω⟩;by_cases e:i=k
  ·subst e;exact h4
  ·exact hi.2 i ω
 have r2:∀i,i<x.r.nw->x.g.th (x.r.w i).p=true:=λi h=>hi.2 i ω;clear hi;simp[go_sem,hlt];refine aH aD (α:=Nat) (λk=>[(1,.ptr 0 0 17 0),(5,.i k)]) (λ_=>[some (.box x.cells)]) 1 (λk=>k<=x.r.nm/\∀i,i<k->x.g.th (x.r.m i).p=true) (λk=>x.r.nm - k) 0 (λ_=>rfl) τ ζ ζ ?_;intro k J hi;by_cases hlt:k<x.r.nm
 ·have ht:=eT x hx.g.ok (x.r.m k).p;simp[go_sem,hlt];refine aE aD κ κ ?_
  cases h4:x.g.th (x.r.m k).p
  ·have:=hno λh=>by have:=h.2.2.1 k hlt;rw[h4] at this;cases this
   subst this;have hv:=ht.val (v':=.b false) (by rw[h4]);simp[go_sem,hlt]
   first | refine⟨_,aB hv rfl rfl,?_⟩ | refine⟨ω,_,aB hv rfl rfl,?_⟩ | refine⟨⟨ω,ω⟩,_,aB hv rfl rfl,?_⟩ | refine⟨⟨ω,ω⟩,ω,_,aB hv rfl rfl,?_⟩
   simp[go_sem]
  have hv:=ht.val (v':=.b true) (by rw[h4]);simp[go_sem,hlt]
  first | refine⟨_,aB hv rfl rfl,?_⟩ | refine⟨ω,_,aB hv rfl rfl,?_⟩ | refine⟨⟨ω,ω⟩,_,aB hv rfl rfl,?_⟩ | refine⟨⟨ω,ω⟩,ω,_,aB hv rfl rfl,?_⟩
  simp[go_sem];refine⟨ω,k+1,⟨ω,λi h=>?_⟩,ω,ω⟩;by_cases e:i=k
  ·subst e;exact h4
  ·exact hi.2 i ω
 have r3:∀i,i<x.r.nm->x.g.th (x.r.m i).p=true:=λi h=>hi.2 i ω;clear hi;simp[go_sem,hlt];refine aH aD (α:=Nat) (λk=>[(1,.ptr 0 0 17 0),(6,.i k)]) (λ_=>[some (.box x.cells)]) 1 (λk=>k<=x.ch.length/\∀i (h:i<x.ch.length),i<k->x.g.th x.ch[i].p=true/\x.ch[i].t<=x.now) (λk=>x.ch.length - k) 0 (λ_=>rfl) τ ζ ζ ?_;intro k J hi;by_cases hlt:k<x.ch.length
 ·have ht:=eT x hx.g.ok x.ch[k].p;have q:=aI (f:=ChG.f) hlt;simp[go_sem,hlt];refine aE aD κ κ ?_
  cases h4:x.g.th x.ch[k].p
  ·have:=hno λh=>by have:=(h.2.2.2.1 k hlt).1;rw[h4] at this;cases this
   subst this;have hv:=ht.val (v':=.b false) (by rw[h4]);simp[go_sem,hlt,q]
   first | refine⟨_,aB hv rfl rfl,?_⟩ | refine⟨ω,_,aB hv rfl rfl,?_⟩ | refine⟨⟨ω,ω⟩,_,aB hv rfl rfl,?_⟩ | refine⟨⟨ω,ω⟩,ω,_,aB hv rfl rfl,?_⟩
   simp[go_sem,hlt,q]
  have hv:=ht.val (v':=.b true) (by rw[h4]);simp[go_sem,hlt,q]
  first | refine⟨_,aB hv rfl rfl,?_⟩ | refine⟨ω,_,aB hv rfl rfl,?_⟩ | refine⟨⟨ω,ω⟩,_,aB hv rfl rfl,?_⟩ | refine⟨⟨ω,ω⟩,ω,_,aB hv rfl rfl,?_⟩
  simp[go_sem,hlt,q];by_cases h5:x.now<x.ch[k].t
  ·have:=hno λh=>by have:=(h.2.2.2.1 k hlt).2;omega
   subst this;simp[h5]
  simp[h5];refine⟨ω,k+1,⟨ω,λi h hj=>?_⟩,ω,ω⟩;by_cases e:i=k
  ·subst e;exact⟨h4,ω⟩
  ·exact hi.2 i h ω
 have r4:∀i (h:i<x.ch.length),x.g.th x.ch[i].p=true/\x.ch[i].t<=x.now:=λi h=>hi.2 i h ω;clear hi;simp[go_sem,hlt];refine aH aD (α:=Nat) (λk=>[(1,.ptr 0 0 17 0),(7,.i k)]) (λ_=>[some (.box x.cells)]) 1 (λk=>k<=x.lg.length/\∀i (h:i<x.lg.length),i<k->(x.lg[i].p<0\/x.g.th x.lg[i].p=true)/\x.lg[i].t<=x.now) (λk=>x.lg.length - k) 0 (λ_=>rfl) τ ζ ζ ?_;intro k J hi;by_cases hlt:k<x.lg.length
 ·have ht:=eT x hx.g.ok x.lg[k].p;have q:=aI (f:=EnG.f) hlt;have hstep:(x.lg[k].p<0\/x.g.th x.lg[k].p=true)/\x.lg[k].t<=x.now->∀i (h:i<x.lg.length),i<k+1->(x.lg[i].p<0\/x.g.th x.lg[i].p=true)/\x.lg[i].t<=x.now:=λhk i h hj=>by
   by_cases e:i=k
   ·subst e;exact hk
   ·exact hi.2 i h ω
  simp[go_sem,hlt];refine aE aD κ κ ?_;by_cases h6:0<=x.lg[k].p;rotate_left
  ·simp[go_sem,hlt,q,h6];by_cases h5:x.now<x.lg[k].t
   ·have:=hno λh=>by have:=(h.2.2.2.2 k hlt).2;omega
    subst this;simp[h5]
   simp[h5];exact⟨ω,k+1,⟨ω,hstep ⟨.inl ω,ω⟩⟩,ω,ω⟩
  cases h4:x.g.th x.lg[k].p
  ·have:=hno λh=>by
    rcases(h.2.2.2.2 k hlt).1 with h | h
    ·omega
    ·rw[h4] at h;cases h
   subst this;have hv:=ht.val (v':=.b false) (by rw[h4]);simp[go_sem,hlt,q,h6]
   first | refine⟨_,aB hv rfl rfl,?_⟩ | refine⟨ω,_,aB hv rfl rfl,?_⟩ | refine⟨⟨ω,ω⟩,_,aB hv rfl rfl,?_⟩ | refine⟨⟨ω,ω⟩,ω,_,aB hv rfl rfl,?_⟩
   simp[go_sem,hlt,q]
  have hv:=ht.val (v':=.b true) (by rw[h4]);simp[go_sem,hlt,q,h6]
  first | refine⟨_,aB hv rfl rfl,?_⟩ | refine⟨ω,_,aB hv rfl rfl,?_⟩ | refine⟨⟨ω,ω⟩,_,aB hv rfl rfl,?_⟩ | refine⟨⟨ω,ω⟩,ω,_,aB hv rfl rfl,?_⟩
  simp[go_sem,hlt,q];by_cases h5:x.now<x.lg[k].t
  ·have:=hno λh=>by have:=(h.2.2.2.2 k hlt).2;omega
   subst this;simp[h5]
  simp[h5];exact⟨ω,k+1,⟨ω,hstep ⟨.inr h4,ω⟩⟩,ω,ω⟩
 have r5:∀i (h:i<x.lg.length),(x.lg[i].p<0\/x.g.th x.lg[i].p=true)/\x.lg[i].t<=x.now:=λi h=>hi.2 i h ω;clear hi;have:c=true:=hc.2 ⟨r1,r2,r3,r4,r5⟩;subst this;simp[go_sem,hlt]
def bwR (l:List ChG) (lo hi:Int):List ChG:=l.filter λc=>decide (lo<c.t)&&decide (c.t<=hi)
theorem aPn {l:List ChG} {lo hi:Int} {k:Nat} (hk:k<l.length):bwR (l.take (k+1)) lo hi=bwR (l.take k) lo hi++if lo<l[k].t/\l[k].t<=hi then [l[k]] else []:=by
 unfold bwR;rw[List.take_succ_eq_append_getElem hk,List.filter_append]
 congr 1
 by_cases h:lo<l[k].t/\l[k].t<=hi
 ·simp[h]
 ·rw[if_neg h,List.filter_cons_of_neg (by simpa using h)];rfl
theorem aZw (l:List ChG) (lo hi:Int) (k:Nat):(bwR (l.take k) lo hi).length<=k:=
 Nat.le_trans (List.length_filter_le _ _) (by rw[List.length_take];omega)
theorem aTr {l:List ChG} {hi:Int} (h:l.Pairwise λa b=>a.t<=b.t):l.takeWhile (λc=>decide (c.t<=hi))=l.filter λc=>decide (c.t<=hi):=by
 induction h with
 | nil=>rfl
 | @cons a l h _ ih=>
   by_cases ha:a.t<=hi
   ·rw[List.takeWhile_cons_of_pos (by simpa using ha),List.filter_cons_of_pos (by simpa using ha),ih]
   ·rw[List.takeWhile_cons_of_neg (by simpa using ha),List.filter_cons_of_neg (by simpa using ha)];refine(List.filter_eq_nil_iff.2 λb hb=>?_).symm;have:=h b hb;simp;omega
theorem aZv {l:List ChG} (h:fO l=true) (lo hi:Int):bwR l lo hi=bwL l lo hi:=by
 unfold bwR bwL;rw[aTr (oF.1 h).2.2,List.filter_filter]
theorem aHi (l:List ChG) (hn:l.length<1000000) (lo hi:Int):Pure Tryz.prog 426 [nY l,.i lo,.i hi] (· =nY (bwR l lo hi)):=by
 refine Pure.ofSub ?_;refine π Tryz.func426 ?_;simp[go_sem];refine bK (GSt.adopt 7 114 3 (λi j=>SV.r (aY ChG.f [] i j)) ζ) ?_;refine dW aD (α:=Nat) (λk=>[(0,nY l),(1,.i lo),(2,.i hi),(7,.sl 0 3 0 (bwR (l.take k) lo hi).length none),(8,.i k)])
  (λk M nx=>k<=l.length/\1<=nx/\∃G,M 0=some (.vec 114 3 (bwR (l.take k) lo hi).length G)/\∀i j,i<(bwR (l.take k) lo hi).length->j<3->G i j=.r (aY ChG.f (bwR (l.take k) lo hi) i j)) (λk=>l.length - k) 0 ?_ ?_ ?_
 ·refine⟨Nat.zero_le _,ζ,_,by simp[go_sem,bwR];rfl,λi j hi hj=>?_⟩;simp[bwR] at hi
 ·simp[go_sem,bwR]
 rintro k J M nx _ ⟨hk,hnx,G,h0,hG⟩;have hle:=aZw l lo hi k;by_cases hlt:k<l.length
 ·have q:=aI (f:=ChG.f) hlt;have hs:=aPn (lo:=lo) (hi:=hi) hlt;obtain⟨L,hL⟩:∃L,bwR (l.take k) lo hi=L:=⟨_,rfl⟩;rw[hL] at hs h0 hG hle ⊢;have e0:¬0=nx:=ω;have e0':¬nx=0:=ω;by_cases c1:lo<l[k].t
  ·by_cases c2:l[k].t<=hi
   ·rw[if_pos ⟨c1,c2⟩] at hs;simp[go_sem,hlt,h0,q,c1,c2,e0,e0'];refine⟨⟨ω,ω⟩,⟨ω,ω⟩,k+1,ω,?_⟩;rw[hs];refine⟨⟨τ,ω⟩,ω,_,⟨τ,rfl⟩,?_⟩;exact kO hG λj hj=>by rcases(ω:j=0\/j=1\/j=2) with rfl | rfl | rfl <;> rfl
   ·rw[if_neg λh=>c2 h.2,List.append_nil] at hs;simp[go_sem,hlt,h0,q,c1,c2,e0,e0'];refine⟨⟨ω,ω⟩,k+1,ω,?_⟩;rw[hs];exact⟨⟨rfl,ω⟩,ω,ω,_,⟨rfl,rfl⟩,hG⟩
  ·rw[if_neg λh=>c1 h.1,List.append_nil] at hs;simp[go_sem,hlt,h0,q,c1,e0,e0'];refine⟨⟨ω,ω⟩,k+1,ω,?_⟩;rw[hs];exact⟨⟨rfl,ω⟩,ω,ω,_,⟨rfl,rfl⟩,hG⟩
 ·have hk':k=l.length:=ω;subst hk';rw[List.take_length] at h0 hG;simp[go_sem,h0];intro i j hi hj;rw[hG i j hi hj];rfl
theorem aWy (s b:W64):iV (cR s b) b=iV s b:=by
 unfold iV cR;refine fZ λj hj=>?_;simp only [BitVec.getLsbD_or,BitVec.getLsbD_and,BitVec.getLsbD_not]
 cases s.getLsbD j <;> cases b.getLsbD j <;> simp[hj]
theorem aN3 {s:W64} {l:List ChG} {k:Nat} (hk:k<l.length):uQ s (l.take (k+1))=aW5 (uQ s (l.take k)) l[k]:=by
 unfold uQ;rw[List.take_succ_eq_append_getElem hk,List.foldl_append];rfl
theorem aJp {p:Int} (h:0<=p/\p<=63):(IntKind.u64.wrap p).toNat=p.toNat:=by
 rw[bX (by simp only [inr];omega)]
theorem aO2 (s:W64) (l:List ChG) (hn:l.length<1000000) (hp:∀c∈l,0<=c.p/\c.p<=63):Pure Tryz.prog 425 [.w s,nY l] (· =.w (uQ s l)):=by
 refine π Tryz.func425 ?_;simp[go_sem];refine bF aD (α:=Nat) (λk=>[(0,.w (uQ s (l.take k))),(1,nY l),(5,.i k)]) (λ_=>[]) 0 (λk=>k<=l.length) (λk=>l.length - k) 0 (λ_=>rfl) τ (by simp[go_sem,uQ]) ζ ?_;intro k J hk;by_cases hlt:k<l.length
 ·have q:=aI (f:=ChG.f) hlt;have hs:=aN3 (s:=s) hlt;have hpk:=hp l[k] (List.getElem_mem hlt);have w:=aJp hpk;unfold aW5 at hs;rw[aWy] at hs
  cases hon:l[k].on
  ·rw[hon,if_neg τ] at hs;simp[go_sem,hlt,q,hon,w];refine⟨⟨ω,ω⟩,k+1,ω,ω,?_,ω⟩;rw[hs]
  ·rw[hon,if_pos rfl] at hs;simp[go_sem,hlt,q,hon,w];refine⟨⟨ω,ω⟩,k+1,ω,ω,?_,ω⟩;rw[hs]
 ·have hk':k=l.length:=ω;subst hk';simp[go_sem]
theorem aNa (l:List ChG) (hn:l.length<1000000) (h:fO l=true) (t:Int):Pure Tryz.prog 371 [nY l,.i t] (· =.w (aFy l t)):=by
 refine π Tryz.func371 ?_;have hle:(bwL l (-1) t).length<=l.length:=Nat.le_trans (List.length_filter_le _ _) (List.takeWhile_sublist _).length_le;simp[go_sem];refine aA (aHi l hn (-1) t) rfl rfl ?_;rw[aZv h];simp[go_sem];refine aA (aO2 0#64 (bwL l (-1) t) ω λc hc=>(aPq h (aJ6 hc)).2.2) rfl rfl ?_;simp[go_sem,aFy]
theorem aVd (l:List ChG) (hn:l.length<1000000) (t m:Int) (key:W64) (h:vO l t m=0):Pure Tryz.prog 300 [nY l,.i t,.i m,.w key] (· =.tup [(aHr l t m key).sv,.i 0]):=by
 have h1:qH l t=0/\qC m=true:=by
  unfold vO at h;split at h
  ·rename_i h0;refine⟨h0,?_⟩;by_cases h2:qC m=true
   ·exact h2
   ·rw[if_neg h2] at h;cases h
  ·rename_i h0;exact absurd h h0
 have h2:fO l=true/\qC t=true:=by
  have:=h1.1;unfold qH at this;by_cases a:fO l=true
  ·refine⟨a,?_⟩;by_cases b:qC t=true
   ·exact b
   ·rw[if_pos a,if_neg b] at this;cases this
  ·rw[if_neg a] at this;cases this
 refine π Tryz.func300 ?_;simp[go_sem];refine aA (aGx l hn) rfl rfl ?_;rw[h2.1];simp[go_sem];refine aA (nP t) rfl rfl ?_;rw[h2.2];simp[go_sem];refine aA (nP m) rfl rfl ?_;rw[h1.2];simp[go_sem];refine aA (aNa l hn h2.1 t) rfl rfl ?_;simp[go_sem];refine aA (aD3 ⟨t,m,aFy l t,0#64⟩ key) rfl rfl ?_;simp[go_sem,aHr]
theorem aO7 (s:W64) {n:Nat} (hn:n<64):bJ s (bT 1#64 n)=0#64↔s.getLsbD n=false:=by
 have hb:∀j,j<64->(bJ s (bT 1#64 n)).getLsbD j=(s.getLsbD j&&decide (j=n)):=λj hj=>by
  unfold bJ;rw[BitVec.getLsbD_and,aGn n j hj]
 constructor
 ·intro h;have:=hb n hn;rw[h] at this;simpa using this.symm
 ·intro h;refine fZ λj hj=>?_;rw[hb j hj];by_cases e:j=n
  ·subst e;simp[h]
  ·simp[e]
theorem aXg (s:W64) (p:Int) (hp:0<=p/\p<=63):Pure Tryz.prog 380 [.w s,.i p] (· =.r (.v (.int .u8 (zL s p)))):=by
 refine π Tryz.func380 ?_;have w:=aJp hp;have hb:bJ s (bT 1#64 p.toNat)=0#64↔s.getLsbD p.toNat=false:=aO7 s ω;simp[go_sem,w,aK9];unfold zL
 cases e:s.getLsbD p.toNat
 ·rw[if_pos (hb.2 e)];simp
 ·have hne:¬bJ s (bT 1#64 p.toNat)=0#64:=λh=>by
   have:=hb.1 h;rw[e] at this;cases this
  rw[if_neg hne];simp
theorem aMo (k:KsG) (p n:Int) (key:W64) (h:xN k p n key=0):Pure Tryz.prog 307 [k.sv,.i p,.i n,.w key] (· =.tup [.r (.v (.int .u8 (aAk k p n))),.i 0]):=by
 have h1:k.ok key=true:=by
  unfold xN at h;by_cases a:k.ok key=true
  ·exact a
  ·rw[if_neg a] at h;cases h
 have h2:aC0 p n k.a=0:=by unfold xN at h;rwa [if_pos h1] at h
 have h3:=aJ0 h2;have hk:0<=k.m/\k.m<=maxT:=by
  unfold KsG.ok at h1;simp only [Bool.and_eq_true] at h1;exact kZ.1 h1.1.2
 simp only [maxT] at h3 hk;refine π Tryz.func307 ?_;simp[go_sem];refine aA (aCc k key) rfl rfl ?_;rw[h1];simp[go_sem];refine aA (uN p) rfl rfl ?_;rw[wK.2 ⟨h3.1,h3.2.1⟩];simp[go_sem];refine aA (nP n) rfl rfl ?_;rw[kZ.2 ⟨h3.2.2.1,h3.2.2.2.1⟩];have e1:¬n<k.a:=ω;simp[go_sem,e1];refine⟨ω,?_⟩;unfold aAk;by_cases c:k.m<n - k.a
 ·simp[go_sem,c]
 simp[go_sem,c];refine aA (aXg k.s p ⟨h3.1,h3.2.1⟩) rfl rfl ?_;simp[go_sem]
theorem aEc (x:SvG):Pure Tryz.prog 74 [x.ss] (· =.b x.setB):=by
 obtain⟨c,hc⟩:∃c,x.setB=c:=⟨_,rfl⟩;rw[hc];refine π Tryz.func74 ?_;have e:c=(vL x.num x.den&&decide (x.den<=127)&&Ix.btw 0 7 x.turns&&Ix.btw 0 maxT x.mage):=by
  rw[<- hc];unfold SvG.setB vL Ix.btw;rw[Bool.eq_iff_iff];simp only [Bool.and_eq_true,decide_eq_true_eq];omega
 simp[go_sem];refine aA (aWh x.num x.den) rfl rfl ?_
 cases h1:vL x.num x.den
 ·rw[h1] at e;simp[go_sem,e]
 by_cases h2:x.den<=127;rotate_left
 ·rw[decide_eq_false h2] at e;simp[go_sem,e,h2]
 simp[go_sem,h2];refine aA (jT x.turns 0 7) rfl rfl ?_
 cases h3:Ix.btw 0 7 x.turns
 ·rw[h3] at e;simp[go_sem,e]
 simp[go_sem];refine aA (jT x.mage 0 maxT) rfl rfl ?_;rw[h1,h3,decide_eq_true h2] at e;simp[go_sem,e]
theorem aXs {g:EG} {i:Nat} (h:i<g.nr):g.th (i:Nat)=!(g.r i).g:=by
 unfold EG.th;rw[show btw 0 ((g.nr:Int) - 1) (i:Nat)=true by simp[btw];omega];rfl
theorem aJ3 (P:Prop):∃c:Bool,c=true↔P:=by
 by_cases h:P
 ·exact⟨true,by simp[h]⟩
 ·exact⟨false,by simp[h]⟩
theorem aXz (x:SvG) (hx:x.OK) (hs:x.setB=true):Pure Tryz.prog 83 [x.sv] (· =.b x.valid):=by
 obtain⟨c,hcv⟩:∃c,x.valid=c:=⟨_,rfl⟩;rw[hcv];have hc:c=true↔x.Va:=by rw[<- hcv];exact SvG.va_iff
 have hno:¬x.Va->c=false:=λh=>by
  cases c
  ·rfl
  ·exact absurd (hc.1 rfl) h
 clear hcv;have l1:=hx.ir;have l2:=hx.ks;refine π Tryz.func83 ?_;simp[go_sem];refine aA (jT x.now 0 maxT) rfl rfl ?_
 cases hb0:Ix.btw 0 maxT x.now
 ·have:=hno λh=>by have:=h.now;simp only [Ix.btw,Bool.and_eq_false_iff,decide_eq_false_iff_not] at hb0;omega
  subst this;simp[go_sem]
 simp[go_sem];refine aA (gJ x.g hx.g.ok) rfl rfl ?_
 cases hb1:x.g.valid
 ·have:=hno λh=>by rw[h.g] at hb1;cases hb1
  subst this;simp[go_sem]
 simp[go_sem];refine aA (Rg.valid58 x.r hx.r) rfl rfl ?_
 cases hb2:x.r.valid
 ·have:=hno λh=>by rw[h.r] at hb2;cases hb2
  subst this;simp[go_sem]
 simp[go_sem];refine aA (aGx x.ch hx.ch) rfl rfl ?_
 cases hb3:fO x.ch
 ·have:=hno λh=>by rw[h.ch] at hb3;cases hb3
  subst this;simp[go_sem]
 simp[go_sem];refine aA (rC x.lg hx.lg) rfl rfl ?_
 cases hb4:hJ x.lg
 ·have:=hno λh=>by rw[h.lg] at hb4;cases hb4
  subst this;simp[go_sem]
 by_cases k4:(4:Int)<x.ks.length
 ·have:=hno λh=>by have:=h.k4;omega
  subst this;simp[go_sem,k4]
 by_cases kn:(x.ir.length:Int)=x.g.nr;rotate_left
 ·have:=hno λh=>by have:=h.irn;omega
  subst this;simp[go_sem,k4,kn]
 simp[go_sem,k4,kn];refine aH aD (α:=Nat) (λk=>[(1,.ptr 0 0 17 0),(3,.i k)]) (λ_=>[some (.box x.cells)]) 1 (λk=>k<=x.ir.length/\∀i,i<k->(x.eye (i:Nat)).ok=true/\(x.g.th (i:Nat)=true\/x.eye (i:Nat)=IrG.z)) (λk=>x.ir.length - k) 0 (λ_=>rfl) τ ζ ζ ?_;intro k J hi;by_cases hlt:k<x.ir.length
 ·have q:=aI (f:=IrG.f) hlt;have he:=SvG.eye_get hlt;have hth:x.g.th (k:Nat)=!(x.g.r k).g:=aXs ω;have hnk:k<x.g.nr:=ω;simp[go_sem,hlt,q];refine aA (tL x.ir[k].c x.ir[k].m) rfl rfl ?_
  cases h1:vI x.ir[k].c x.ir[k].m
  ·have:=hno λh=>by
    have:=(h.ir k hlt).1;rw[he] at this;unfold IrG.ok at this;rw[h1] at this;cases this
   subst this;simp[go_sem]
  have hok:(x.eye (k:Nat)).ok=true:=by rw[he];exact h1
  have hstep:x.g.th (k:Nat)=true\/x.eye (k:Nat)=IrG.z->∀i,i<k+1->(x.eye (i:Nat)).ok=true/\(x.g.th (i:Nat)=true\/x.eye (i:Nat)=IrG.z):=λhk i hj=>by
   by_cases e:i=k
   ·subst e;exact⟨hok,hk⟩
   ·exact hi.2 i ω
  cases h2:(x.g.r k).g
  ·simp[go_sem,hlt,q,hnk,h2];exact⟨⟨ω,ω⟩,k+1,⟨ω,hstep (.inl (by rw[hth,h2];rfl))⟩,ω,ω⟩
  by_cases h3:x.ir[k]=IrG.z
  ·simp[go_sem,hlt,q,hnk,h2,h3,IrG.z];exact⟨⟨ω,ω⟩,k+1,⟨ω,hstep (.inr (he.trans h3))⟩,ω,ω⟩
  ·have:=hno λh=>by
    rcases(h.ir k hlt).2 with h | h
    ·rw[hth,h2] at h;cases h
    ·exact h3 (he.symm.trans h)
   subst this;simp[go_sem,hlt,q,hnk,h2];exact λe1 e2=>absurd ((IrG.iff _ _).2 ⟨e1,e2⟩) h3
 have r1:∀i,i<x.ir.length->(x.eye (i:Nat)).ok=true/\(x.g.th (i:Nat)=true\/x.eye (i:Nat)=IrG.z):=λi h=>hi.2 i ω;clear hi;simp[go_sem,hlt];refine aH aD (α:=Nat) (λk=>[(1,.ptr 0 0 17 0),(4,.i k)]) (λ_=>[some (.box x.cells)]) 1 (λk=>k<=x.ks.length/\∀i (h:i<x.ks.length),i<k->kR x x.ks[i]) (λk=>x.ks.length - k) 0 (λ_=>rfl) τ ζ ζ ?_;intro k J hi;by_cases hlt:k<x.ks.length
 ·have q:=aI (f:=KsG.f) hlt;obtain⟨c1,hc1⟩:=aJ3 (kR x x.ks[k]);have ht:=aRz x hx x.ks[k] c1 hc1;simp[go_sem,hlt];refine aE aD κ κ ?_
  cases c1
  ·have:=hno λh=>by have:=hc1.2 (h.ks x.ks[k] (List.getElem_mem hlt));cases this
   subst this;simp[go_sem,hlt,q]
   first | refine⟨_,aB ht rfl rfl,?_⟩ | refine⟨ω,_,aB ht rfl rfl,?_⟩ | refine⟨⟨ω,ω⟩,_,aB ht rfl rfl,?_⟩ | refine⟨⟨ω,ω⟩,ω,_,aB ht rfl rfl,?_⟩
   simp[go_sem,hlt,q]
  simp[go_sem,hlt,q]
  first | refine⟨_,aB ht rfl rfl,?_⟩ | refine⟨ω,_,aB ht rfl rfl,?_⟩ | refine⟨⟨ω,ω⟩,_,aB ht rfl rfl,?_⟩ | refine⟨⟨ω,ω⟩,ω,_,aB ht rfl rfl,?_⟩
  simp[go_sem,hlt,q];refine⟨ω,k+1,⟨ω,λi h hj=>?_⟩,ω,ω⟩;by_cases e:i=k
  ·subst e;exact hc1.1 rfl
  ·exact hi.2 i h ω
 have r2:∀i (h:i<x.ks.length),kR x x.ks[i]:=λi h=>hi.2 i h ω;clear hi;simp[go_sem,hlt];obtain⟨c2,hc2⟩:=aJ3 (aR x);refine aA (aOy x hx c2 hc2) rfl rfl ?_;simp[go_sem];rw[Bool.eq_iff_iff,hc2,hc];constructor
 ·rintro⟨a1,a2,a3,a4,a5⟩;refine⟨hs,hb1,hb2,hb3,hb4,by simpa [Ix.btw] using hb0,ω,ω,r1,λe he=>?_,?_,?_,?_,λc hcm=>?_,λk hk=>?_,λc hcm=>?_,λe he=>?_⟩
  ·obtain⟨i,h,rfl⟩:=List.getElem_of_mem he;exact(a5 i h).1
  ·rintro a ⟨i,h,rfl⟩;exact a1 i h
  ·rintro a ⟨i,h,rfl⟩;exact a2 i h
  ·rintro a ⟨i,h,rfl⟩;exact a3 i h
  ·obtain⟨i,h,rfl⟩:=List.getElem_of_mem hcm;exact(a4 i h).1
  ·obtain⟨i,h,rfl⟩:=List.getElem_of_mem hk;exact r2 i h
  ·obtain⟨i,h,rfl⟩:=List.getElem_of_mem hcm;exact(a4 i h).2
  ·obtain⟨i,h,rfl⟩:=List.getElem_of_mem he;exact(a5 i h).2
 ·intro h;exact⟨λi hi=>h.cn _ ⟨i,hi,rfl⟩,λi hi=>h.wa _ ⟨i,hi,rfl⟩,λi hi=>h.ma _ ⟨i,hi,rfl⟩,λi hi=>⟨h.chp _ (List.getElem_mem hi),h.cht _ (List.getElem_mem hi)⟩,λi hi=>⟨h.lgp _ (List.getElem_mem hi),h.lgt _ (List.getElem_mem hi)⟩⟩
theorem aU3 (x:SvG):x.chkE=if x.setB=true then (if x.valid=true then 0 else 8) else 2:=by
 unfold SvG.chkE SvG.valid
 cases x.setB <;> simp
theorem aU2 (x:SvG) (hx:x.OK):Pure Tryz.prog 31 [x.sv] (· =.i x.chkE):=by
 rw[aU3];refine π Tryz.func31 ?_;simp[go_sem];refine aA (aEc x) rfl rfl ?_
 cases hs:x.setB
 ·simp[go_sem]
 simp[go_sem];refine aA (aXz x hx hs) rfl rfl ?_
 cases x.valid <;> simp[go_sem]
end Go.Gx.Sr
namespace Go.Gx.Rg
open Go.RowKit Go.Proofs Go.Proofs.YtncccnmmjfapnaaGreat
theorem aXf {n m:Nat} {e:Nat->Bool} (h:n=m) (ha:∀j,j<n->e j=true):(decide (n=m)&&(List.range n).all e)=true:=by
 simp[h];intro j hj;exact ha j ω
theorem aXe {n m:Nat} {e:Nat->Bool} {k:Nat} (hk:k<n) (h:¬e k=true):(decide (n=m)&&(List.range n).all e)=false:=by
 have:(List.range n).all e=false:=by
  rw[List.all_eq_false];exact⟨k,List.mem_range.2 hk,h⟩
 rw[this,Bool.and_false]
theorem same22 (g h:RG) (hg:g.OK) (hh:h.OK):Pure Tryz.prog 77 [g.sv,h.sv] (· =.b (g.same h)):=by
 refine π Tryz.func77 ?_;have o1:=hg.nr;have o2:=hg.nc;have o3:=hg.nw;have o4:=hg.nm;by_cases n1:g.nr=h.nr;rotate_left
 ·have m1:((g.nr:Int)=(h.nr:Int))=False:=eq_false ω;simp[go_sem,m1];simp[RG.same,RG.s1,n1]
 have m1:((g.nr:Int)=(h.nr:Int))=True:=eq_true ω;by_cases n2:g.nc=h.nc;rotate_left
 ·have m2:((g.nc:Int)=(h.nc:Int))=False:=eq_false ω;simp[go_sem,m1,m2];simp[RG.same,RG.s2,n2]
 have m2:((g.nc:Int)=(h.nc:Int))=True:=eq_true ω;by_cases n3:g.nw=h.nw;rotate_left
 ·have m3:((g.nw:Int)=(h.nw:Int))=False:=eq_false ω;simp[go_sem,m1,m2,m3];simp[RG.same,RG.s3,n3]
 have m3:((g.nw:Int)=(h.nw:Int))=True:=eq_true ω;by_cases n4:g.nm=h.nm;rotate_left
 ·have m4:((g.nm:Int)=(h.nm:Int))=False:=eq_false ω;simp[go_sem,m1,m2,m3,m4];simp[RG.same,RG.s4,n4]
 have m4:((g.nm:Int)=(h.nm:Int))=True:=eq_true ω;simp[go_sem,m1,m2,m3,m4];refine aH aD (α:=Nat) (λk=>[(2,.ptr 0 0 4 0),(3,.ptr 1 0 4 0),(5,.i k)]) (λ_=>g.box++h.box) 2 (λk=>k<=g.nr/\∀j,j<k->(g.r j).eqB (h.r j)=true) (λk=>g.nr - k) 0 (λ_=>rfl) τ ζ (by simp[go_sem,m1,m2,m3,m4]) ?_;intro k0 J0 hi;by_cases hlt:k0<g.nr
 ·simp[go_sem,hlt];refine aE aD κ κ ?_;have hlt':k0<h.nr:=ω;by_cases he:(g.r k0).eqB (h.r k0)=true
  ·have he':=he;simp[RuleG.eqB] at he';simp[go_sem,hlt,hlt',he'];refine⟨ω,k0+1,⟨ω,λj hj=>?_⟩,ω,τ⟩;by_cases hjk:j=k0
   ·subst hjk;exact he
   ·exact hi.2 j ω
  ·have hs:g.s1 h=false:=aXe hlt he;simp[go_sem,hlt,hlt'];rw[if_pos (Classical.byContradiction λhc=>he (by simp at hc;simp[RuleG.eqB,hc]))];simp[RG.same,hs]
 have hs1:g.s1 h=true:=aXf n1 λj hj=>hi.2 j ω;clear hi;simp[go_sem,hlt];clear hlt;refine aH aD (α:=Nat) (λk=>[(2,.ptr 0 0 4 0),(3,.ptr 1 0 4 0),(6,.i k)]) (λ_=>g.box++h.box) 2 (λk=>k<=g.nc/\∀j,j<k->(g.c j).eqB (h.c j)=true) (λk=>g.nc - k) 0 (λ_=>rfl) τ ζ (by simp[go_sem,m1,m2,m3,m4]) ?_;intro k1 J1 hi;by_cases hlt:k1<g.nc
 ·simp[go_sem,hlt];refine aE aD κ κ ?_;have hlt':k1<h.nc:=ω;by_cases he:(g.c k1).eqB (h.c k1)=true
  ·have he':=he;simp[ConG.eqB] at he';simp[go_sem,hlt,hlt',he'];refine⟨ω,k1+1,⟨ω,λj hj=>?_⟩,ω,τ⟩;by_cases hjk:j=k1
   ·subst hjk;exact he
   ·exact hi.2 j ω
  ·have hs:g.s2 h=false:=aXe hlt he;simp[go_sem,hlt,hlt'];rw[if_pos (Classical.byContradiction λhc=>he (by simp at hc;simp[ConG.eqB,hc]))];simp[RG.same,hs]
 have hs2:g.s2 h=true:=aXf n2 λj hj=>hi.2 j ω;clear hi;simp[go_sem,hlt];clear hlt;refine aH aD (α:=Nat) (λk=>[(2,.ptr 0 0 4 0),(3,.ptr 1 0 4 0),(7,.i k)]) (λ_=>g.box++h.box) 2 (λk=>k<=g.nw/\∀j,j<k->(g.w j).eqB (h.w j)=true) (λk=>g.nw - k) 0 (λ_=>rfl) τ ζ (by simp[go_sem,m1,m2,m3,m4]) ?_;intro k2 J2 hi;by_cases hlt:k2<g.nw
 ·simp[go_sem,hlt];refine aE aD κ κ ?_;have hlt':k2<h.nw:=ω;by_cases he:(g.w k2).eqB (h.w k2)=true
  ·have he':=he;simp[WarG.eqB] at he';simp[go_sem,hlt,hlt',he'];refine⟨ω,k2+1,⟨ω,λj hj=>?_⟩,ω,τ⟩;by_cases hjk:j=k2
   ·subst hjk;exact he
   ·exact hi.2 j ω
  ·have hs:g.s3 h=false:=aXe hlt he;simp[go_sem,hlt,hlt'];rw[if_pos (Classical.byContradiction λhc=>he (by simp at hc;simp[WarG.eqB,hc]))];simp[RG.same,hs]
 have hs3:g.s3 h=true:=aXf n3 λj hj=>hi.2 j ω;clear hi;simp[go_sem,hlt];clear hlt;refine aH aD (α:=Nat) (λk=>[(2,.ptr 0 0 4 0),(3,.ptr 1 0 4 0),(8,.i k)]) (λ_=>g.box++h.box) 2 (λk=>k<=g.nm/\∀j,j<k->(g.m j).eqB (h.m j)=true) (λk=>g.nm - k) 0 (λ_=>rfl) τ ζ (by simp[go_sem,m1,m2,m3,m4]) ?_;intro k3 J3 hi;by_cases hlt:k3<g.nm
 ·simp[go_sem,hlt];refine aE aD κ κ ?_;have hlt':k3<h.nm:=ω;by_cases he:(g.m k3).eqB (h.m k3)=true
  ·have he':=he;simp[MarkG.eqB] at he';simp[go_sem,hlt,hlt',he'];refine⟨ω,k3+1,⟨ω,λj hj=>?_⟩,ω,τ⟩;by_cases hjk:j=k3
   ·subst hjk;exact he
   ·exact hi.2 j ω
  ·have hs:g.s4 h=false:=aXe hlt he;simp[go_sem,hlt,hlt'];rw[if_pos (Classical.byContradiction λhc=>he (by simp at hc;simp[MarkG.eqB,hc]))];simp[RG.same,hs]
 have hs4:g.s4 h=true:=aXf n4 λj hj=>hi.2 j ω;clear hi;simp[go_sem,hlt];clear hlt;simp[RG.same,hs1,hs2,hs3,hs4]
end Go.Gx.Rg
namespace Go.Gx.Sr
open Go.RowKit Go.Proofs Go.Proofs.YtncccnmmjfapnaaGreat Go.Gx.Ix
def sR (x y:SvG):Prop:=x.num=y.num/\x.den=y.den/\x.turns=y.turns/\x.mage=y.mage/\x.key=y.key/\x.now=y.now/\x.g.smB y.g=true/\x.r.same y.r=true/\x.ch=y.ch/\x.lg=y.lg/\x.ir=y.ir/\x.ks=y.ks
theorem aTa {x y:SvG}:x.same y=true↔sR x y:=by
 unfold SvG.same SvG.sm1 SvG.sm2 sR;simp only [Bool.and_eq_true,decide_eq_true_eq];constructor
 ·rintro⟨⟨⟨⟨a1,a2⟩,a3⟩,a4⟩,⟨⟨⟨⟨⟨b1,b2⟩,b3⟩,b4⟩,b5⟩,b6⟩,c1,c2⟩;exact⟨b1,b2,b3,b4,b5,b6,c1,c2,a2,a4,a1,a3⟩
 ·rintro⟨b1,b2,b3,b4,b5,b6,c1,c2,a2,a4,a1,a3⟩;exact⟨⟨⟨⟨a1,a2⟩,a3⟩,a4⟩,⟨⟨⟨⟨⟨b1,b2⟩,b3⟩,b4⟩,b5⟩,b6⟩,c1,c2⟩
theorem aS9 (x y:SvG) (hx:x.OK) (hy:y.OK):Pure Tryz.prog 29 [x.sv,y.sv] (· =.b (x.same y)):=by
 obtain⟨c,hcv⟩:∃c,x.same y=c:=⟨_,rfl⟩;rw[hcv];have hc:c=true↔sR x y:=by rw[<- hcv];exact aTa
 have hno:¬sR x y->c=false:=λh=>by
  cases c
  ·rfl
  ·exact absurd (hc.1 rfl) h
 clear hcv;have a1:=hx.ir;have a2:=hx.ch;have a3:=hx.ks;have a4:=hx.lg;refine π Tryz.func29 ?_;simp[go_sem];by_cases c1:x.num=y.num/\x.den=y.den/\x.turns=y.turns/\x.mage=y.mage/\(x.key.toNat:Int)=(y.key.toNat:Int);rotate_left
 ·have:=hno λh=>c1 ⟨h.1,h.2.1,h.2.2.1,h.2.2.2.1,by rw[h.2.2.2.2.1]⟩;subst this;simp[go_sem,c1]
 have e5:x.key=y.key:=BitVec.eq_of_toNat_eq (Int.ofNat_inj.1 c1.2.2.2.2);by_cases c2:x.now=y.now;rotate_left
 ·have:=hno λh=>c2 h.2.2.2.2.2.1;subst this;simp[go_sem,c1,c2]
 simp[go_sem,c1,c2];refine aA (bBp x.g y.g hx.g.ok hy.g.ok) rfl rfl ?_
 cases h1:x.g.smB y.g
 ·have:=hno λh=>by have:=h.2.2.2.2.2.2.1;rw[h1] at this;cases this
  subst this;simp[go_sem]
 simp[go_sem];refine aA (Rg.same22 x.r y.r hx.r hy.r) rfl rfl ?_
 cases h2:x.r.same y.r
 ·have:=hno λh=>by have:=h.2.2.2.2.2.2.2.1;rw[h2] at this;cases this
  subst this;simp[go_sem]
 simp[go_sem];refine aA (bBr x.ch y.ch ω) rfl rfl ?_;by_cases h3:x.ch=y.ch;rotate_left
 ·have:=hno λh=>h3 h.2.2.2.2.2.2.2.2.1;subst this;simp[go_sem,h3]
 simp[go_sem,h3];refine aA (bBs x.lg y.lg ω) rfl rfl ?_;by_cases h4:x.lg=y.lg;rotate_left
 ·have:=hno λh=>h4 h.2.2.2.2.2.2.2.2.2.1;subst this;simp[go_sem,h4]
 by_cases n5:x.ir.length=y.ir.length;rotate_left
 ·have:=hno λh=>n5 (by rw[h.2.2.2.2.2.2.2.2.2.2.1]);subst this;have n5':¬(x.ir.length:Int)=y.ir.length:=ω;simp[go_sem,h4,n5']
 by_cases n6:x.ks.length=y.ks.length;rotate_left
 ·have:=hno λh=>n6 (by rw[h.2.2.2.2.2.2.2.2.2.2.2]);subst this;have n6':¬(x.ks.length:Int)=y.ks.length:=ω;simp[go_sem,h4,n5,n6']
 simp[go_sem,h4,n5,n6];refine aH aD (α:=Nat) (λk=>[(2,.ptr 0 0 17 0),(3,.ptr 1 0 17 0),(5,.i k)]) (λ_=>[some (.box x.cells),some (.box y.cells)]) 2 (λk=>k<=x.ir.length/\∀j,j<k->∀(h1:j<x.ir.length) (h2:j<y.ir.length),x.ir[j]=y.ir[j]) (λk=>x.ir.length - k) 0 (λ_=>rfl) τ ζ ζ ?_;intro k J hi;by_cases hlt:k<x.ir.length
 ·have hlt2:k<y.ir.length:=ω;have q:=aI (f:=IrG.f) hlt;have q2:=aI (f:=IrG.f) hlt2;simp[go_sem,hlt,hlt2];refine aE aD κ κ ?_;have hiff:=IrG.iff x.ir[k] y.ir[k];by_cases he:x.ir[k]=y.ir[k]
  ·simp[go_sem,hlt,hlt2,q,q2,he];refine⟨ω,k+1,⟨ω,λj hj h1 h2=>?_⟩,ω,ω⟩;by_cases hjk:j=k
   ·subst hjk;exact he
   ·exact hi.2 j ω h1 h2
  ·have he':=λq=>he (hiff.2 q);have:=hno λh=>he (by have:=h.2.2.2.2.2.2.2.2.2.2.1;simp[this]);subst this;simp[go_sem,hlt,hlt2,q,q2]
   try (intro e0 e1;exact absurd ⟨by first | exact e0 | exact Int.ofNat_inj.1 e0 | omega,by first | exact e1 | exact Int.ofNat_inj.1 e1 | omega⟩ he')
 have r1:x.ir=y.ir:=gT n5 λj h1 h2=>hi.2 j ω h1 h2;clear hi;simp[go_sem,hlt];refine aH aD (α:=Nat) (λk=>[(2,.ptr 0 0 17 0),(3,.ptr 1 0 17 0),(6,.i k)]) (λ_=>[some (.box x.cells),some (.box y.cells)]) 2 (λk=>k<=x.ks.length/\∀j,j<k->∀(h1:j<x.ks.length) (h2:j<y.ks.length),x.ks[j]=y.ks[j]) (λk=>x.ks.length - k) 0 (λ_=>rfl) τ ζ ζ ?_;intro k J hi;by_cases hlt:k<x.ks.length
 ·have hlt2:k<y.ks.length:=ω;have q:=aI (f:=KsG.f) hlt;have q2:=aI (f:=KsG.f) hlt2;simp[go_sem,hlt,hlt2];refine aE aD κ κ ?_;have hiff:=KsG.iff x.ks[k] y.ks[k];by_cases he:x.ks[k]=y.ks[k]
  ·simp[go_sem,hlt,hlt2,q,q2,he];refine⟨ω,k+1,⟨ω,λj hj h1 h2=>?_⟩,ω,ω⟩;by_cases hjk:j=k
   ·subst hjk;exact he
   ·exact hi.2 j ω h1 h2
  ·have he':=λq=>he (hiff.2 q);have:=hno λh=>he (by have:=h.2.2.2.2.2.2.2.2.2.2.2;simp[this]);subst this;simp[go_sem,hlt,hlt2,q,q2]
   try (intro e0 e1 e2 e3;exact absurd ⟨by first | exact e0 | exact Int.ofNat_inj.1 e0 | omega,by first | exact e1 | exact Int.ofNat_inj.1 e1 | omega,by first | exact e2 | exact Int.ofNat_inj.1 e2 | omega,by first | exact e3 | exact Int.ofNat_inj.1 e3 | omega⟩ he')
 have r2:x.ks=y.ks:=gT n6 λj h1 h2=>hi.2 j ω h1 h2;clear hi;simp[go_sem,hlt];have:c=true:=hc.2 ⟨c1.1,c1.2.1,c1.2.2.1,c1.2.2.2.1,e5,c2,h1,h2,h3,h4,r1,r2⟩;subst this;rfl
abbrev rT (r:SvG × AnG):SV:=.tup [r.1.sv,r.2.sv]
theorem bO (x:SvG) (e:Int):Pure Tryz.prog 200 [x.sv,.i e] (· =rT (x,bad e)):=by
 refine Pure.ofSub ?_;refine π Tryz.func200 ?_;simp[go_sem,bad]
theorem oI (x:SvG) (hv:x.setB=true) (a p:IrG):Pure Tryz.prog 208 [.agg [.i x.num,.i x.den,.i x.turns,.i x.mage,.w x.key],a.sv,p.sv] (· =(gR x a p).sv):=by
 refine π Tryz.func208 ?_;simp only [SvG.setB,Ix.btw,Bool.and_eq_true,decide_eq_true_eq] at hv;obtain⟨⟨⟨⟨d1,d2⟩,n1,n2⟩,t1,t2⟩,_⟩:=hv;obtain⟨n,hn⟩:∃n:Nat,x.turns=n:=⟨x.turns.toNat,ω⟩;have hd:=bFd a p n ω;have hsm:(iH a p n).Sm:=jX _ _ _;unfold gR;rw[hn,show((n:Int)).toNat=n from rfl];obtain⟨q,hq⟩:∃q,iH a p n=q:=⟨_,rfl⟩;rw[hq] at hd hsm ⊢;unfold bAc at hd;have s1:=hsm.n;have s2:=hsm.d;simp[go_sem];refine aA hd rfl rfl ?_;by_cases h0:q.d=0
 ·simp[go_sem,h0]
 ·have h0':0<q.d:=ω;have m1:=wI (a:=(q.n:Int)) (b:=x.den) (m:=64) (n:=127) ⟨ω,ω⟩ ⟨ω,d2⟩ δ;have m2:=wI (a:=x.num) (b:=(q.d:Int)) (m:=127) (n:=64) ⟨ω,ω⟩ ⟨ω,ω⟩ δ;simp[go_sem,h0,h0'];exact⟨⟨ω,ω⟩,ω,ω⟩
theorem aBw (x:SvG) (hx:wZ x.lg x.now) (k a:Int) (r:RsG) (s:W64) (hk:0<=k/\k<=7) (ha:0<=a/\a<=63) (hr:r.good=true) :
 Pure Tryz.prog 302 [x.sv,.i k,.i a,r.sv,.w s] (· =.tup [(if x.lg.length=60 then x else x.put k a r s).sv,.i (if x.lg.length=60 then 9 else 0)]):=by
 refine Pure.ofSub ?_;refine π Tryz.func302 ?_;simp[go_sem];refine aM (t:=(.take 0 (.take 1 (.take 2 (.take 3 (.take 4 (.take 5 (.take 6 (.take 8 (.alt 7 [8,6,5,4,3,2,1,0] (.alt 9 [8,5,4,3,2,1,0] (.take 10 (.take 11 (.take 12 (.take 13 (.take 14 (.done [14,13,12,11,10,2,0])))))) .nil) .nil)))))))))) aD κ κ κ (λ_ _ _ _ h=>h) ?_;simp[go_sem];refine aA (aNj r hr) rfl rfl ?_;simp[go_sem];refine aA (aT3 x.lg hx k a r.pack s hk ha) rfl rfl ?_;by_cases h60:x.lg.length=60
 ·simp[go_sem,h60]
 ·simp[go_sem,h60,SvG.put]
theorem mK (x:SvG) (hx:wZ x.lg x.now) (k a:Int) (r:RsG) (s:W64) (hk:0<=k/\k<=7) (ha:0<=a/\a<=63) (hr:r.good=true) :
 Pure Tryz.prog 207 [x.sv,.i k,.i a,r.sv,.w s] (· =rT (sJ x k a r s)):=by
 have hd:=(RsG.good_in hr).1;have e8:IntKind.i64.wrap r.d=r.d:=bX ⟨ω,ω⟩;refine Pure.ofSub ?_;refine π Tryz.func207 ?_;have hl:=aBw x hx k a r s hk ha hr;unfold sJ;simp[go_sem];refine aA hl rfl rfl ?_;by_cases h60:x.lg.length=60
 ·simp[go_sem,h60];refine aA (bO x 9) rfl rfl ?_;simp[go_sem,bad]
 ·obtain⟨y,hy⟩:∃y,x.put k a r s=y:=⟨_,rfl⟩;rw[hy];simp[go_sem,h60];refine aM (t:=(.take 0 (.take 1 (.take 2 (.take 3 (.take 4 (.alt 5 [4,3,2,1,0] (.alt 6 [4,3,2,1] (.done []) .nil) .nil))))))) aD κ κ κ (λ_ _ _ _ h=>h) ?_;simp[go_sem,e8,nW]
theorem aQ0 (x:SvG) (o:OrG) (hx:x.OK) (hv:x.valid=true):Pure Tryz.prog 210 [x.sv,o.sv] (· =rT (yB x o)):=by
 refine Pure.ofSub ?_;refine π Tryz.func210 ?_;have hks:=hx.ks;unfold yB;simp[go_sem];refine⟨ω,?_⟩;refine aA (jT o.n 0 ((x.ks.length:Int) - 1)) rfl rfl ?_;obtain⟨b,hb⟩:∃b,Ix.btw 0 ((x.ks.length:Int) - 1) o.n=b:=⟨_,rfl⟩;rw[hb]
 cases b
 ·simp[go_sem];refine aA (bO x 2) rfl rfl ?_;simp[go_sem]
 have hb':0<=o.n/\o.n<=(x.ks.length:Int) - 1:=by simpa [Ix.btw] using hb
 simp[go_sem];refine aA (eT x hx.g.ok o.a) rfl rfl ?_;by_cases ht:x.g.th o.a=true;rotate_left
 ·simp[go_sem,ht];refine aA (bO x 6) rfl rfl ?_;simp[go_sem]
 have hin:=SvG.th_in hv ht;simp[go_sem,ht];refine aA (tL o.x.c o.x.m) rfl rfl ?_;have e0:o.x.ok=vI o.x.c o.x.m:=rfl;rw[e0]
 cases hvi:vI o.x.c o.x.m
 ·simp[go_sem];refine aA (bO x 30) rfl rfl ?_;simp[go_sem]
 obtain⟨n,hn⟩:∃n:Nat,o.n=n:=⟨o.n.toNat,ω⟩;have hlt:n<x.ks.length:=ω;have hrow:=aI (f:=KsG.f) hlt;have hd0:=SvG.dec_ok hv hlt (a:=o.a) ω;have hdc:=aMo x.ks[n] o.a x.now x.key hd0;have hgt:(x.ks[o.n.toNat]?).getD KsG.zero=x.ks[n]:=by rw[hn,show((n:Int).toNat)=n from rfl,List.getElem?_eq_getElem hlt];rfl
 rw[hgt];obtain⟨q,hq⟩:∃q,x.ks[n]=q:=⟨_,rfl⟩;rw[hq] at hdc hrow ⊢;obtain⟨d,hd⟩:∃d,aAk q o.a x.now=d:=⟨_,rfl⟩;have hd3:d=3\/d=1\/d=2:=by rw[<- hd];unfold aAk zL;split;exact .inl rfl;split;exact .inr (.inl rfl);exact .inr (.inr rfl)
 rw[hd] at hdc ⊢;have hset:=(SvG.valid_iff.1 hv).1;obtain⟨a,ha⟩:∃a:Nat,o.a=a:=⟨o.a.toNat,ω⟩;have hal:a<x.ir.length:=ω;have hey:x.eye o.a=x.ir[a]:=by rw[ha];exact SvG.eye_get hal
 have hrw:=aI (f:=IrG.f) hal;rw[<- hey] at hrw;have hcm:=oI x hset (x.eye o.a) o.x;have hgood:=jN hset (x.eye o.a) o.x;obtain⟨c,hc⟩:∃c,x.eye o.a=c:=⟨_,rfl⟩;rw[hc] at hcm hgood hrw ⊢;obtain⟨r,hr⟩:∃r,gR x c o.x=r:=⟨_,rfl⟩;rw[hr] at hcm hgood ⊢;have hlog:=SvG.log_ok hv;simp[go_sem];refine aM (t:=(.take 0 (.take 1 (.take 2 (.take 3 (.take 4 (.take 5 (.take 6 (.take 7 (.take 8 (.take 9 (.take 10 (.take 11 (.take 12 (.alt 13 [12,11,10,9,8,7,6,5,4,3,2,1,0] (.take 14 (.take 15 (.take 16 (.take 17 (.take 18 (.done [18,17,16,15,14,11,10,8,6,4,3,2,1,0])))))) .nil))))))))))))))) aD κ κ κ (λ_ _ _ _ h=>h) ?_;simp[go_sem,hn,hlt,hrow];refine aA hdc rfl rfl ?_;simp[go_sem];refine⟨⟨hlt,hn.symm⟩,?_⟩;refine aM (t:=(.take 0 (.take 1 (.take 2 (.take 3 (.take 4 (.take 5 (.take 6 (.take 7 (.take 8 (.take 9 (.alt 10 [9,8,7,6,5,4,3,2,1,0] (.alt 11 [8,6,5,4,3,2,0] (.alt 12 [8,6,5,4,3,2,0] (.done []) .nil) .nil) (.alt 11 [9,8,7,6,5,4,3,2,1,0] (.alt 10 [9,8,7,6,5,4,3,2,1,0] (.alt 12 [8,6,5,4,3,2,0] (.done []) .nil) .nil) .nil))))))))))))) aD κ κ κ (λ_ _ _ _ h=>h) ?_;simp[go_sem,hn,ha,hal,hrw];have hgo:∀d n m:Int,1<=d/\d<=3->0<=n/\n<=127->0<=m/\m<=127->({r with d:=d,n:=n,m:=m}:RsG).good=true:=λd n m h1 h2 h3=>by
  have h4:=RsG.good_in hgood;simp only [RsG.good,RsG.okd,jE,Ix.btw,Bool.and_eq_true,decide_eq_true_eq];exact⟨⟨h1,h4.2.1⟩,⟨⟨h2,h3⟩,h4.2.2.2.2.1⟩,h4.2.2.2.2.2⟩
 refine⟨aA hcm rfl rfl ?_,aA hcm rfl rfl ?_⟩
 all_goals
  rcases hd3 with rfl | rfl | rfl
  ·simp[go_sem];refine⟨⟨hal,ha.symm⟩,?_⟩;refine aA (mK x hlog 5 o.a {r with d:=3,n:=0,m:=0} o.s δ ω (hgo 3 0 0 δ δ δ)) rfl rfl ?_;simp[go_sem,ha]
  ·simp[go_sem];refine⟨⟨hal,ha.symm⟩,?_⟩;refine aA (mK x hlog 3 o.a r o.s δ ω hgood) rfl rfl ?_;simp[go_sem,ha]
  ·simp[go_sem];refine⟨⟨hal,ha.symm⟩,?_⟩;refine aA (mK x hlog 4 o.a {r with d:=2,n:=1,m:=0} o.s δ ω (hgo 2 1 0 δ δ δ)) rfl rfl ?_;simp[go_sem,ha]
end Go.Gx.Sr
namespace Go.Gx
open Go.RowKit Go.Proofs Go.Proofs.YtncccnmmjfapnaaGreat
theorem vY {n k:Nat} {x y:Nat->Int} {p q:Int} (hs:∀a b,a<b->b<n->dJ (x a) (y a) (x b) (y b)=true) (hk:k<=n) (h1:∀j,j<k->dJ (x j) (y j) p q=true) (h2:k<n->dJ (x k) (y k) p q=false) :
 dF (λi=>dM (x i) (y i) p q) n=k:=by
 refine gP hk (λj hj=>eS.2 (h1 j hj)) λj hj hn=>?_;have h3:=h2 ω;have:¬dM (x j) (y j) p q<0:=λh=>by
  have h4:=eS.1 h;by_cases e:j=k
  ·subst e;rw[h4] at h3;cases h3
  ·have:=mI (hs k j ω hn) h4;rw[this] at h3;cases h3
 omega
theorem aJm (g:EG) (h:g.Sm) (hs:g.cos=true) (x:CsG) (hx:x.nv<=1000000000) :
 Pure Tryz.prog 369 [g.sv,.agg [.i x.a,.i x.b,.r (.rs 2 x.nv λi j=>(x.v i).c j)]] (· =(g.addC (g.cat x.a x.b) x).sv):=by
 refine Pure.ofSub ?_;refine π Tryz.func369 ?_;have hc:=h.nc;simp[go_sem];refine bK (GSt.adopt 5 150 3 (λi j=>.r ((g.c i).c j)) rfl) ?_;refine bF aD (α:=Nat) (λk=>[(2,.ptr 0 0 3 0),(3,.ptr 1 0 3 0),(4,.ptr 2 0 3 0),(5,.sl 3 3 0 k none),(6,.i k)])
  (λk=>[g.bx,some (.box [.i x.a,.i x.b,.r (.rs 2 x.nv λi j=>(x.v i).c j)]),some (.box [aP,aP,aP]),some (.vec 150 3 k λi j=>.r ((g.c i).c j))]) 4
  (λk=>k<=g.nc/\∀j,j<k->dJ (g.c j).a (g.c j).b x.a x.b=true) (λk=>g.nc - k) 0 (λ_=>rfl) τ ζ ζ ?_
 intro k J hi;have hk:=hi.1;by_cases hlt:k<g.nc;rotate_left
 ·have e:k=g.nc:=ω;subst e;have hcat:g.cat x.a x.b=g.nc:=vY (x:=λi=>(g.c i).a) (y:=λi=>(g.c i).b) (EG.cos_sorted hs) (Nat.le_refl _) hi.2 λh=>absurd h (Nat.lt_irrefl _);rw[hcat];simp[go_sem];refine aE aD κ κ ?_;simp[go_sem];refine⟨⟨ω,ω⟩,?_⟩;simp[EG.addC];intro i j hi2 hj;unfold aJ;by_cases e1:i<g.nc
  ·simp[e1,hi2,SV.kill,aU]
  ·have e2:i=g.nc:=ω;subst e2;rcases(ω:j=0\/j=1\/j=2) with rfl | rfl | rfl <;> simp[SV.kill,aU,go_sem]
 by_cases hb:dJ (g.c k).a (g.c k).b x.a x.b=true
 ·simp[go_sem,hlt];refine aE aD κ κ ?_;simp[go_sem,hlt];refine⟨_,aB ((fS _ _ _ _).val (v':=.b true) (by rw[hb])) rfl rfl,?_⟩;simp[go_sem,hlt];refine⟨⟨ω,ω⟩,⟨ω,ω⟩,k+1,⟨ω,λj hj=>?_⟩,ω,ω,ω,λi j hi2 hj=>?_⟩
  ·by_cases e:j=k
   ·subst e;exact hb
   ·exact hi.2 j ω
  ·unfold aJ;by_cases e1:i<k
   ·simp[e1,SV.kill,SV.trim]
   ·have e2:i=k:=ω;subst e2;rcases(ω:j=0\/j=1\/j=2) with rfl | rfl | rfl <;> simp[SV.kill,SV.trim,go_sem]
 ·have hb':dJ (g.c k).a (g.c k).b x.a x.b=false:=by simpa using hb
  have hcat:g.cat x.a x.b=k:=vY (x:=λi=>(g.c i).a) (y:=λi=>(g.c i).b) (EG.cos_sorted hs) hk hi.2 λ_=>hb';rw[hcat];simp[go_sem,hlt];refine aE aD κ κ ?_;simp[go_sem,hlt];refine⟨_,aB ((fS _ _ _ _).val (v':=.b false) (by rw[hb'])) rfl rfl,?_⟩;simp[go_sem,hlt];refine⟨⟨ω,ω⟩,hk,⟨ω,ω⟩,?_⟩;simp[EG.addC];refine⟨ω,λi j hi2 hj=>?_⟩;unfold aJ;by_cases e1:i<k
  ·have e3:i<k+1:=ω;simp[e1,e3,SV.kill,aU]
  ·by_cases e2:i=k
   ·subst e2;rcases(ω:j=0\/j=1\/j=2) with rfl | rfl | rfl <;> simp[SV.kill,aU,go_sem]
   ·have e3:¬i<k+1:=ω;have e4:i - (k+1)<g.nc - k:=ω;have e5:k+(i - (k+1))=i - 1:=ω;simp[e1,e2,e3,e5,hi2,SV.kill,aU]
theorem aJn (g:EG) (h:g.Sm) (hs:g.lks=true) (x:LkG) :
 Pure Tryz.prog 370 [g.sv,.agg [.i x.a,.i x.b,.b x.s]] (· =(g.addL (g.lat x.a x.b) x).sv):=by
 refine Pure.ofSub ?_;refine π Tryz.func370 ?_;have hl:=h.nl;simp[go_sem];refine bK (GSt.adopt 5 147 3 (λi j=>.r ((g.l i).c j)) rfl) ?_;refine bF aD (α:=Nat) (λk=>[(2,.ptr 0 0 3 0),(3,.ptr 1 0 3 0),(4,.ptr 2 0 3 0),(5,.sl 3 3 0 k none),(6,.i k)])
  (λk=>[g.bx,some (.box [.i x.a,.i x.b,.b x.s]),some (.box [aP,aP,aP]),some (.vec 147 3 k λi j=>.r ((g.l i).c j))]) 4
  (λk=>k<=g.nl/\∀j,j<k->dJ (g.l j).a (g.l j).b x.a x.b=true) (λk=>g.nl - k) 0 (λ_=>rfl) τ ζ ζ ?_
 intro k J hi;have hk:=hi.1;by_cases hlt:k<g.nl;rotate_left
 ·have e:k=g.nl:=ω;subst e;have hlat:g.lat x.a x.b=g.nl:=vY (x:=λi=>(g.l i).a) (y:=λi=>(g.l i).b) (EG.lks_sorted hs) (Nat.le_refl _) hi.2 λh=>absurd h (Nat.lt_irrefl _);rw[hlat];simp[go_sem];refine aE aD κ κ ?_;simp[go_sem];refine⟨⟨ω,ω⟩,?_⟩;simp[EG.addL];intro i j hi2 hj;unfold aJ;by_cases e1:i<g.nl
  ·simp[e1,hi2,SV.kill,aU]
  ·have e2:i=g.nl:=ω;subst e2;rcases(ω:j=0\/j=1\/j=2) with rfl | rfl | rfl <;> simp[SV.kill,aU,go_sem]
 by_cases hb:dJ (g.l k).a (g.l k).b x.a x.b=true
 ·simp[go_sem,hlt];refine aE aD κ κ ?_;simp[go_sem,hlt];refine⟨_,aB ((fS _ _ _ _).val (v':=.b true) (by rw[hb])) rfl rfl,?_⟩;simp[go_sem,hlt];refine⟨⟨ω,ω⟩,⟨ω,ω⟩,k+1,⟨ω,λj hj=>?_⟩,ω,ω,ω,λi j hi2 hj=>?_⟩
  ·by_cases e:j=k
   ·subst e;exact hb
   ·exact hi.2 j ω
  ·unfold aJ;by_cases e1:i<k
   ·simp[e1,SV.kill,SV.trim]
   ·have e2:i=k:=ω;subst e2;rcases(ω:j=0\/j=1\/j=2) with rfl | rfl | rfl <;> simp[SV.kill,SV.trim,go_sem]
 ·have hb':dJ (g.l k).a (g.l k).b x.a x.b=false:=by simpa using hb
  have hlat:g.lat x.a x.b=k:=vY (x:=λi=>(g.l i).a) (y:=λi=>(g.l i).b) (EG.lks_sorted hs) hk hi.2 λ_=>hb';rw[hlat];simp[go_sem,hlt];refine aE aD κ κ ?_;simp[go_sem,hlt];refine⟨_,aB ((fS _ _ _ _).val (v':=.b false) (by rw[hb'])) rfl rfl,?_⟩;simp[go_sem,hlt];refine⟨⟨ω,ω⟩,hk,⟨ω,ω⟩,?_⟩;simp[EG.addL];refine⟨ω,λi j hi2 hj=>?_⟩;unfold aJ;by_cases e1:i<k
  ·have e3:i<k+1:=ω;simp[e1,e3,SV.kill,aU]
  ·by_cases e2:i=k
   ·subst e2;rcases(ω:j=0\/j=1\/j=2) with rfl | rfl | rfl <;> simp[SV.kill,aU,go_sem]
   ·have e3:¬i<k+1:=ω;have e4:i - (k+1)<g.nl - k:=ω;have e5:k+(i - (k+1))=i - 1:=ω;simp[e1,e2,e3,e5,hi2,SV.kill,aU]
theorem EG.fd_lat {g:EG} (h:g.lks=true) {p q:Int} (hf:g.lin p q=true):g.fd p q=g.lat p q:=by
 obtain⟨j,hj,e1,e2⟩:=(pS (x:=λi=>(g.l i).a) (y:=λi=>(g.l i).b) (EG.lks_sorted h)).1 hf;have h2:=xC (x:=λi=>(g.l i).a) (y:=λi=>(g.l i).b) (EG.lks_sorted h) hj;subst e1 e2;have h3:g.lat (g.l j).a (g.l j).b=j:=h2;rw[h3];refine EG.fd_at hj rfl rfl λk hk e3 e4=>?_;have h4:=xC (x:=λi=>(g.l i).a) (y:=λi=>(g.l i).b) (EG.lks_sorted h) (show k<g.nl by omega);simp only [e3,e4] at h4;have h5:g.lat (g.l j).a (g.l j).b=k:=h4;omega
theorem vV {g:EG} (h:g.OK) (hv:g.valid=false) (a b:Int):Pure Tryz.prog 292 [g.sv,.i a,.i b] (· =.tup [lW,.i 8]):=by
 refine π Tryz.func292 ?_;simp[go_sem];refine aA (gJ g h) rfl rfl ?_;simp[go_sem,hv]
theorem zE {g:EG} (h:g.OK) (hv:g.valid=true) {a b:Int} (hf:g.lin (min a b) (max a b)=false):Pure Tryz.prog 292 [g.sv,.i a,.i b] (· =.tup [lW,.i 6]):=by
 refine π Tryz.func292 ?_;simp[go_sem];refine aA (gJ g h) rfl rfl ?_;simp[go_sem,hv];refine aA (aDg g h (min a b) (max a b)) rfl rfl ?_;have h0:¬0<=g.fd (min a b) (max a b):=by
  have:=EG.lin_fd (EG.valid_lks hv) (min a b) (max a b);rw[hf] at this;simpa using this.symm
 have h1:g.fd (min a b) (max a b)<0:=ω;simp[go_sem,h1]
def aBs (n m:Nat) (x y:Nat->Nat->RV):Nat->Nat->RV:=λi j=>if i<n then x i j else if i<n+m then y (i - n) j else x i j
theorem vE (r n m:Nat) (x y:Nat->Nat->RV) (i j:Nat):SV.kill r (aJ n m (λi j=>.r (x i j)) (λi j=>.r (y i j)) i j)=.r (aBs n m x y i j):=by
 unfold aJ aBs;split
 ·rfl
 ·split <;> rfl
theorem aAv {g:EG} (h:g.Sm) (hv:g.valid=true) {a b:Int} (hf:g.lin (min a b) (max a b)=true):Pure Tryz.prog 292 [g.sv,.i a,.i b] (· =.tup [(g.dropL (g.lat (min a b) (max a b))).sv,.i 0]):=by
 refine Pure.ofSub ?_;refine π Tryz.func292 ?_;have hr:=h.nr;have hl:=h.nl;have hc:=h.nc;have hlt:g.lat (min a b) (max a b)<g.nl:=by simp[EG.lin,dP] at hf;exact hf.1
 simp[go_sem];refine aA (gJ g h.ok) rfl rfl ?_;simp[go_sem,hv];refine aA (aDg g h.ok (min a b) (max a b)) rfl rfl ?_;rw[EG.fd_lat (EG.valid_lks hv) hf];generalize hk:g.lat (min a b) (max a b)=k at hlt;have k0:¬(k:Int)<0:=ω;simp[go_sem,k0];refine aA (tK g ω ω ω λi hi=>by have:=h.nv i hi;omega) rfl rfl ?_;simp[go_sem];refine aM (t:=(.take 1 (.take 2 (.take 3 (.take 4 (.take 6 (.take 7 (.take 8 (.take 9 (.take 10 (.alt 0 [10,9,8,7,6,4,3,2,1] (.alt 5 [10,9,8,7,6,4,3,2,1] (.alt 11 [10,9,8,7,6,3,2,1] (.take 12 (.alt 13 [12,9,8,7,6,3,2,1] (.done []) .nil)) .nil) .nil) .nil))))))))))) aD κ κ κ (λ_ _ _ _ h=>h) ?_;have k1:k+1<=g.nl:=hlt;have k2:k<=g.nl:=ω;have e1:k*24<=140737488355328:=ω;have e2:k<=9223372036854775807:=ω;have e3:(-9223372036854775808:Int)<=(k:Int)+1:=ω;have e4:(k:Int)+1<=9223372036854775807:=ω;have e5:0<=(k:Int)+1:=ω;have e6:(k:Int)+1<=g.nl:=ω;have e9:k+(g.nl - (k+1))=g.nl - 1:=ω;have e7:(g.nl - 1)*24<=140737488355328:=ω;have e8:g.nl - 1<=9223372036854775807:=ω;have fin:∀i j,i<g.nl - 1->j<3->aBs k (g.nl - (k+1)) (aBs 0 k (λ_ _=>.any) λi j=>(g.l i).c j) (λi j=>(g.l (k+1+i)).c j) i j=(if i<k then g.l i else g.l (i+1)).c j:=λi j hi hj=>by
  unfold aBs;by_cases h1:i<k
  ·simp[h1]
  ·have h2:i<k+(g.nl - (k+1)):=ω;have h3:k+1+(i - k)=i+1:=ω;simp[h1,h2,h3]
 simp(config:={maxSteps:=30000000}) [go_sem,k1,k2,e1,e2,e3,e4,e5,e6,e9,e7,e8,vE,EG.dropL];exact⟨ω,fin⟩
theorem EG.fd_no' {g:EG} (h:g.lks=true) {p q:Int} (hf:g.lin p q=false):g.fd p q<0:=by
 have:=EG.lin_fd h p q;rw[hf] at this;have:¬0<=g.fd p q:=by simpa using this.symm
 omega
theorem aNv {g:EG} (h:g.Sm) (o a b:Int) (s:Bool):Pure Tryz.prog 291 [g.sv,.i o,.i a,.i b,.b s] (· =g.voteV o a b s):=by
 refine Pure.ofSub ?_;refine π Tryz.func291 ?_;have hr:=h.nr;have hl:=h.nl;have hc:=h.nc;simp[go_sem];refine aA (gJ g h.ok) rfl rfl ?_;by_cases hv:g.valid=true;rotate_left
 ·have hv':g.valid=false:=by simpa using hv
  have e:g.voteE o a b s=8:=by simp[EG.voteE,hv']
  simp[go_sem,hv',EG.voteV,e]
 simp[go_sem,hv];refine aA (gK o 0 7) rfl rfl ?_;by_cases o3:0<=o/\o<=7;rotate_left
 ·have o0:btw 0 7 o=false:=by rw[btw,<- Bool.decide_and];exact decide_eq_false o3
  have e:g.voteE o a b s=2:=by simp[EG.voteE,hv,o3]
  simp[go_sem,o0,EG.voteV,e]
 have o0:btw 0 7 o=true:=by simp[btw,o3]
 simp[go_sem,o0];refine aA (nI g h.ok a) rfl rfl ?_;by_cases ta:g.th a=true;rotate_left
 ·have ta':g.th a=false:=by simpa using ta
  have e:g.voteE o a b s=6:=by simp[EG.voteE,hv,o3,ta']
  simp[go_sem,ta',EG.voteV,e]
 simp[go_sem,ta];refine aA (nI g h.ok b) rfl rfl ?_;by_cases tb:g.th b=true;rotate_left
 ·have tb':g.th b=false:=by simpa using tb
  have e:g.voteE o a b s=6:=by simp[EG.voteE,hv,o3,tb']
  simp[go_sem,tb',EG.voteV,e]
 by_cases hab:a=b
 ·have e:g.voteE o a b s=6:=by simp[EG.voteE,hv,o3,hab]
  subst hab;simp[go_sem,tb,EG.voteV,e]
 simp[go_sem,tb,hab];refine aA (aDg g h.ok (min a b) (max a b)) rfl rfl ?_;by_cases hf:g.lin (min a b) (max a b)=true
 ·have e:g.voteE o a b s=82:=by simp[EG.voteE,hv,o3,hab,ta,tb,hf]
  have f0:0<=g.fd (min a b) (max a b):=by rw[EG.fd_lat (EG.valid_lks hv) hf];omega
  simp[go_sem,f0,EG.voteV,e]
 have hf':g.lin (min a b) (max a b)=false:=by simpa using hf
 have f0:¬0<=g.fd (min a b) (max a b):=by have:=EG.fd_no' (EG.valid_lks hv) hf';omega
 simp[go_sem,f0];refine aA (bBa g h.ok (min a b) (max a b)) rfl rfl ?_;have tp:g.th (min a b)=true:=by
  rcases Int.le_total a b with h1 | h1
  ·rw[Int.min_eq_left h1];exact ta
  ·rw[Int.min_eq_right h1];exact tb
 have tq:g.th (max a b)=true:=by
  rcases Int.le_total a b with h1 | h1
  ·rw[Int.max_eq_right h1];exact tb
  ·rw[Int.max_eq_left h1];exact ta
 have bp:=EG.th_iff.1 tp;have bq:=EG.th_iff.1 tq;by_cases hci:g.cin (min a b) (max a b)=true;rotate_left
 ·have hci':g.cin (min a b) (max a b)=false:=by simpa using hci
  rw[EG.co_no (EG.valid_cos hv) hci'];have nil88:Pure Tryz.prog 366 [aP,.i o] (· =.b false):=(yL ⟨0,0,0,λ_=>⟨0,false⟩⟩ δ o).args ⟨pY ζ,SV.le.rfl,trivial⟩;have nil89:Pure Tryz.prog 367 [aP,.b s] (· =.b false):=(aBi ⟨0,0,0,λ_=>⟨0,false⟩⟩ δ s).args ⟨pY ζ,SV.le.rfl,trivial⟩;simp[go_sem];refine aA nil88 rfl rfl ?_;simp[go_sem];refine aA nil89 rfl rfl ?_;by_cases h40:g.nc=40
  ·have h40':(g.nc:Int)=40:=ω;have e:g.voteE o a b s=9:=by simp[EG.voteE,hv,o3,hab,ta,tb,hf',hci',h40]
   simp[go_sem,h40',EG.voteV,e]
  have h40':¬(g.nc:Int)=40:=ω;have e:g.voteE o a b s=0:=by simp[EG.voteE,hv,o3,hab,ta,tb,hf',hci',h40]
  have eG:g.voteG o a b s=g.addC (g.cat (min a b) (max a b)) ⟨min a b,max a b,1,λ_=>⟨o,s⟩⟩:=by simp[EG.voteG,hci']
  have eD:g.voteD a b s=false:=by simp[EG.voteD,hci']
  simp[go_sem,h40',EG.voteV,e,eG,eD];refine aA (tK g ω ω ω λi hi=>by have:=h.nv i hi;omega) rfl rfl ?_;simp[go_sem];refine aC 3 (R:=.vec 253 2 1 λi j=>[SV.i o,SV.b s][i*2+j]?.getD (.r .any)) ζ ?_;simp[go_sem];refine aA ((aJm g h (EG.valid_cos hv) ⟨min a b,max a b,1,λ_=>⟨o,s⟩⟩ (show(1:Nat)<=1000000000 by decide)).args ⟨SV.le.rfl,pY ?_,trivial⟩) rfl rfl ?_
  ·simp[go_sem];intro i j hi hj;subst hi;rcases(ω:j=0\/j=1) with rfl | rfl <;> rfl
  simp[go_sem]
 rw[EG.co_yes (EG.valid_cos hv) hci];generalize hk:g.cat (min a b) (max a b)=k;have hkc:k<g.nc:=by rw[<- hk];exact EG.cin_lt hci
 have hvk:=h.nv k hkc;simp[go_sem,hkc];refine aA (yL (g.c k) ω o) rfl rfl ?_;by_cases ho:(g.c k).has o=true
 ·have e:g.voteE o a b s=80:=by simp[EG.voteE,hv,o3,hab,ta,tb,hf',hci,hk,ho]
  simp[go_sem,ho,EG.voteV,e]
 have ho':(g.c k).has o=false:=by simpa using ho
 simp[go_sem,ho'];refine aA (aBi (g.c k) ω s) rfl rfl ?_;by_cases hs:(g.c k).says s=true;rotate_left
 ·have hs':(g.c k).says s=false:=by simpa using hs
  have e:g.voteE o a b s=0:=by simp[EG.voteE,hv,o3,hab,ta,tb,hf',hci,hk,ho',hs']
  have eG:g.voteG o a b s=g.addV k ⟨o,s⟩:=by simp[EG.voteG,hci,hk,hs']
  have eD:g.voteD a b s=false:=by simp[EG.voteD,hci,hk,hs']
  have k0:¬(k:Int)<0:=ω;simp[go_sem,hs',k0,EG.voteV,e,eG,eD];refine aF [] (zY g ω ω ω λi hi=>by have:=h.nv i hi;omega) τ rfl trivial ?_;obtain⟨B,hB⟩:∃B,B=2+(g.nc+1+1+1):=⟨_,rfl⟩;have b0:∀n,n<5->¬n=B:=λn _=>ω;have b1:∀n,n<5->¬B=n:=λn _=>ω;have b2:∀n,n<5->n<B:=λn _=>ω;have b3:¬B<g.nc+5:=ω;have b6:∀n,n<5->¬n=B+1:=λn _=>ω;have b7:∀n,n<5->¬B+1=n:=λn _=>ω;have b9:∀n,n<=5->¬k+n=B:=λn _=>ω;have b10:∀n,n<=5->¬k+n=B+1:=λn _=>ω;have b11:∀n,n<=5->¬B=k+n:=λn _=>ω;have b12:∀n,n<=5->¬B+1=k+n:=λn _=>ω;have c1:((g.c k).nv+1)*16<=140737488355328:=ω;have c2:(g.c k).nv<=9223372036854775806:=ω;simp[go_sem,<- hB,b0,b1,b2,b3,b6,b7];refine aOs (S:=[(5,.ptr 0 0 3 0),(10,.ptr 1 0 3 0)]) (l:=[some (.box [.sl 2 2 0 g.nr none,.sl 3 3 0 g.nl none,.sl 4 3 0 g.nc none]),some (.box [aP,aP,aP]),some g.vr,some g.vl,some (.vec 150 3 g.nc ((g.addV k ⟨o,s⟩).oc 5))]) (b:=5) (cnt:=g.nc) (R:=λi=>some ((g.addV k ⟨o,s⟩).ov i)) (n:=g.nc+5)
   (t:=(.take 0 (.take 1 (.take 2 (.take 3 (.take 4 (.take 5 (.take 6 (.take 7 (.take 8 (.take 9 (.alt 10 [9,8,7,6,5,4,3,2,1,0] (.alt 11 [8,7,6,5,4,3,2,1,0] (.take 12 (.take 13 (.alt 14 [13,12,7,6,5,4,3,2,1,0] (.done [12]) .nil))) .nil) .nil)))))))))))) aD κ κ κ (λ_ _ _ _ h=>h) rfl ?_ ?_
  ·simp[go_sem,hkc,b0,b1,b2,b3,b6,b7,b9,b10,b11,b12,c1,c2];refine⟨λi j hi hj=>?_,λi hi=>?_⟩
   ·by_cases e1:i=k
    ·subst e1;rcases(ω:j=0\/j=1\/j=2) with rfl | rfl | rfl <;> simp[go_sem,EG.addV,CsG.addV,hi]
    ·rw[if_neg λhh=>e1 hh.1,EG.oc_kill g ω,EG.oc_trim g ω];unfold EG.oc;simp[EG.addV,e1]
   ·have d1:¬i+4=B:=ω;have d2:¬i+5=B:=ω;by_cases e1:i=k
    ·subst e1;simp[go_sem,EG.addV,CsG.addV,hi];intro r j hr hj;unfold aJ;by_cases e2:r<(g.c i).nv
     ·simp[e2,SV.kill,SV.trim]
     ·have e3:r=(g.c i).nv:=ω;subst e3;rcases(ω:j=0\/j=1) with rfl | rfl <;> simp[go_sem,SV.kill,SV.trim]
    ·simp[go_sem,EG.addV,hi,e1,d1,d2,SV.kill,SV.trim]
  ·intro J;simp[go_sem];exact⟨⟨rfl,λ_ _ _ _=>rfl⟩,⟨rfl,λ_ _ _ _=>rfl⟩,rfl,λi j hi hj=>(g.addV k ⟨o,s⟩).view_oc (by simp[go_sem,hi]) hj⟩
 simp[go_sem,hs];refine aA (aU8 g h.ok (EG.valid_inl hv) (min a b) (max a b) s bp.1 bp.2.1 bq.1 bq.2.1) rfl rfl ?_;by_cases hl:g.clash (min a b) (max a b) s=true
 ·have e:g.voteE o a b s=81:=by simp[EG.voteE,hv,o3,hab,ta,tb,hf',hci,hk,ho',hs,hl]
  simp[go_sem,hl,EG.voteV,e]
 have hl':g.clash (min a b) (max a b) s=false:=by simpa using hl
 have e:g.voteE o a b s=0:=by simp[EG.voteE,hv,o3,hab,ta,tb,hf',hci,hk,ho',hs,hl']
 have eG:g.voteG o a b s=(g.dropC k).addL (g.lat (min a b) (max a b)) ⟨min a b,max a b,s⟩:=by simp[EG.voteG,hci,hk,hs]
 have eD:g.voteD a b s=true:=by simp[EG.voteD,hci,hk,hs]
 have k0:¬(k:Int)<0:=ω;simp[go_sem,hl',k0,EG.voteV,e,eG,eD];refine aA (tK g ω ω ω λi hi=>by have:=h.nv i hi;omega) rfl rfl ?_;have k2:k<=g.nc:=ω;have k1:k+1<=g.nc:=hkc;have e1:k*40<=140737488355328:=ω;have e2:k<=9223372036854775807:=ω;have e3:(-9223372036854775808:Int)<=(k:Int)+1:=ω;have e4:(k:Int)+1<=9223372036854775807:=ω;have e5:0<=(k:Int)+1:=ω;have e6:(k:Int)+1<=g.nc:=ω;have e9:k+(g.nc - (k+1))=g.nc - 1:=ω;have e7:(g.nc - 1)*40<=140737488355328:=ω;have e8:g.nc - 1<=9223372036854775807:=ω;simp[go_sem,k0];refine fM (S:=[(2,.i (min a b)),(3,.i (max a b)),(4,.b s),(5,.ptr 0 0 3 0),(10,.ptr 1 0 3 0)]) (l:=[some (.box [g.rr,g.ll,.sl 3 3 0 (g.nc - 1) none]),some (.box [aP,aP,aP]),none,some (.vec 150 3 (g.nc - 1) λi j=>.r (((g.dropC k).c i).c j))]) (n:=4)
  (t:=(.take 1 (.take 2 (.take 3 (.take 4 (.take 6 (.take 7 (.take 8 (.take 9 (.take 10 (.alt 0 [10,9,8,7,6,4,3,2,1] (.alt 5 [10,9,8,7,6,4,3,2,1] (.alt 11 [10,9,8,7,6,3,2,1] (.take 12 (.alt 13 [12,9,8,7,6,3,2,1] (.done []) .nil)) .nil) .nil) .nil))))))))))) aD κ κ κ (λ_ _ _ _ h=>h) rfl ?_ ?_
 ·simp(config:={maxSteps:=30000000}) [go_sem,k1,k2,e1,e2,e3,e4,e5,e6,e9,e7,e8,vE,EG.dropC];refine⟨ω,λi j hi hj=>?_⟩;unfold aBs;by_cases h1:i<k
  ·simp[h1]
  ·have h2:i<k+(g.nc - (k+1)):=ω;have h3:k+1+(i - k)=i+1:=ω;simp[h1,h2,h3]
 ·intro J;simp[go_sem];refine aC 3 (R:=.vec 150 3 (g.nc - 1) λi j=>.r (((g.dropC k).c i).c j)) ζ ?_;simp[go_sem];refine aA (aJn (g.dropC k) ⟨h.nr,h.nl,by show g.nc - 1<=1000;omega,λi hi=>?_⟩ (show g.lks=true from EG.valid_lks hv) ⟨min a b,max a b,s⟩) rfl rfl ?_
  ·have hi':i<g.nc - 1:=hi;show(if i<k then g.c i else g.c (i+1)).nv<=1000;split
   ·exact h.nv i ω
   ·exact h.nv (i+1) ω
  simp[go_sem,show(g.dropC k).lat (min a b) (max a b)=g.lat (min a b) (max a b) from rfl]
theorem aSe {f:FuncId} {args:List SV} {n:Int} (h:Pure Tryz.prog f args (· =.tup [lW,.i n])):Pure Tryz.prog f args (· =.tup [EG.zero.sv,.i n]):=Pure.ofSub (h.mono λs e=>by subst e;simp[go_sem,EG.zero])
theorem aDt {f:FuncId} {args:List SV} {m n:Int} (h:Pure Tryz.prog f args (· =.tup [lW,.i m,.i n])):Pure Tryz.prog f args (· =.tup [EG.zero.sv,.i m,.i n]):=Pure.ofSub (h.mono λs e=>by subst e;simp[go_sem,EG.zero])
theorem aWs {f:FuncId} {args:List SV} {d:Bool} {n:Int} (h:Pure Tryz.prog f args (· =.tup [lW,.b d,.i n])):Pure Tryz.prog f args (· =.tup [EG.zero.sv,.b d,.i n]):=Pure.ofSub (h.mono λs e=>by subst e;simp[go_sem,EG.zero])
theorem aW8 {g:EG} (h:g.Sm) (q:Int):Pure Tryz.prog 290 [g.sv,.i q] (· =.tup [(g.addX q).sv,.i (g.addN q),.i (g.addE q)]):=by
 unfold EG.addX EG.addN EG.addE;by_cases hv:g.valid=true;rotate_left
 ·have hv':g.valid=false:=by simpa using hv
  simpa [hv'] using aDt (aIu h.ok hv' q)
 by_cases h0:0<=q/\q<=100;rotate_left
 ·simpa [hv,h0] using aDt (aDy h.ok hv h0)
 by_cases hn:g.nr=24
 ·simpa [hv,h0,hn] using aDt (aGd h.ok hv h0 hn)
 have hr:=EG.valid_nr hv;simpa [hv,h0,hn] using aNt h hv h0.1 h0.2 ω
theorem aS4 {g:EG} (h:g.Sm) (o a b:Int) (s:Bool):Pure Tryz.prog 291 [g.sv,.i o,.i a,.i b,.b s] (· =.tup [(g.voteX o a b s).sv,.b (g.voteB o a b s),.i (g.voteE o a b s)]):=by
 have hv:=aNv h o a b s;unfold EG.voteX EG.voteB;unfold EG.voteV at hv;by_cases e:g.voteE o a b s=0
 ·rw[if_pos e] at hv;rw[if_pos e,if_pos e];simpa [e] using hv
 ·rw[if_neg e] at hv;rw[if_neg e,if_neg e];exact aWs hv
theorem bBh {g:EG} (h:g.Sm) (a b:Int):Pure Tryz.prog 292 [g.sv,.i a,.i b] (· =.tup [(g.wdX a b).sv,.i (g.wdE a b)]):=by
 unfold EG.wdX EG.wdE;by_cases hv:g.valid=true;rotate_left
 ·have hv':g.valid=false:=by simpa using hv
  simpa [hv'] using aSe (vV h.ok hv' a b)
 by_cases ht:g.lin (min a b) (max a b)=true;rotate_left
 ·have ht':g.lin (min a b) (max a b)=false:=by simpa using ht
  simpa [hv,ht'] using aSe (zE h.ok hv ht')
 simpa [hv,ht] using aAv h hv ht
end Go.Gx
namespace Go.Gx.Sr
open Go.RowKit Go.Proofs Go.Proofs.YtncccnmmjfapnaaGreat Go.Gx.Ix
abbrev irv (l:List IrG):Reg:=.vec 45 2 l.length λi j=>.r (aY IrG.f l i j)
abbrev ksv (l:List KsG):Reg:=.vec 100 4 l.length λi j=>.r (aY KsG.f l i j)
abbrev chv (l:List ChG):Reg:=.vec 114 3 l.length λi j=>.r (aY ChG.f l i j)
abbrev SvG.cW (x:SvG) (ir rl wa ch ks:SV):List SV:=[.i x.num,.i x.den,.i x.turns,.i x.mage,.w x.key,.i x.now,x.g.rr,x.g.ll,x.g.cc,ir,rl,Rg.ConG.rs x.r.nc x.r.c,wa,Rg.MarkG.rs x.r.nm x.r.m,ch,ks,qO x.lg]
abbrev SvG.rls (x:SvG):SV:=Rg.RuleG.rs x.r.nr x.r.r
abbrev SvG.was (x:SvG):SV:=Rg.WarG.rs x.r.nw x.r.w
abbrev SvG.eA (x:SvG):SV:=.agg (x.cW (.sl 0 2 0 x.ir.length none) x.rls x.was (nY x.ch) (kss x.ks))
theorem aHy (x:SvG) (o:OrG) (hx:x.OK) (hk:o.k=2):Own Tryz.prog 201 [irv x.ir] [x.eA,o.sv] (rT (jZ x o)) []:=by
 refine cM aD Tryz.func201 rfl κ ν rfl rfl ?_;have hn:=hx.ir;unfold jZ;simp[go_sem,hk];refine aA (tL o.x.c o.x.m) rfl rfl ?_;have e0:o.x.ok=vI o.x.c o.x.m:=rfl;rw[e0]
 cases hvi:vI o.x.c o.x.m
 ·simp[go_sem];refine aC 0 ξ ?_;simp[go_sem];refine aA (bO x 30) rfl rfl ?_;simp[go_sem];refine aT ?_;simp[go_sem];exact⟨[],τ,λN=>⟨ζ,ζ⟩⟩
 have hc:=aW8 hx.g o.n;obtain⟨e,he⟩:∃e,x.g.addE o.n=e:=⟨_,rfl⟩;obtain⟨y,hy⟩:∃y,x.g.addX o.n=y:=⟨_,rfl⟩;obtain⟨d,hd⟩:∃d,x.g.addN o.n=d:=⟨_,rfl⟩;rw[he,hy,hd] at hc;rw[he,hy,hd];simp[go_sem];refine aA hc rfl rfl ?_;by_cases he0:e=0;rotate_left
 ·simp[go_sem,he0];refine aC 0 ξ ?_;simp[go_sem];refine aA (bO x e) rfl rfl ?_;simp[go_sem];refine aT ?_;simp[go_sem];exact⟨[],τ,λN=>⟨ζ,ζ⟩⟩
 subst he0;simp[go_sem,nW];have hrow:∀j,j<2->([.w o.x.c,.w o.x.m]:List SV)[0*2+j]?.getD (SV.r .any)=.r (o.x.f j):=by
  intro j hj;rcases(ω:j=0\/j=1) with rfl | rfl <;> rfl
 refine⟨⟨ω,ω⟩,?_⟩;refine aV (GSt.freeze 0 ξ) (aT ?_);simp[go_sem];refine⟨[],τ,λN=>⟨?_,ζ⟩⟩;simp[go_sem];exact fR λj hj=>hrow j hj
theorem aHz (x:SvG) (o:OrG) (hx:x.OK) (hk:o.k=3):Own Tryz.prog 201 [irv x.ir] [x.eA,o.sv] (rT (pL x o)) []:=by
 refine cM aD Tryz.func201 rfl κ ν rfl rfl ?_;have hn:=hx.ir;have hc:=aS4 hx.g o.n o.a o.b o.f;unfold pL;obtain⟨e,he⟩:∃e,x.g.voteE o.n o.a o.b o.f=e:=⟨_,rfl⟩;obtain⟨y,hy⟩:∃y,x.g.voteX o.n o.a o.b o.f=y:=⟨_,rfl⟩;obtain⟨d,hd⟩:∃d,x.g.voteB o.n o.a o.b o.f=d:=⟨_,rfl⟩;rw[he,hy,hd] at hc;rw[he,hy,hd];simp[go_sem,hk];refine aA hc rfl rfl ?_;by_cases he0:e=0;rotate_left
 ·cases d
  all_goals
   simp[go_sem,he0];refine aC 0 ξ ?_;simp[go_sem];refine aA (bO x e) rfl rfl ?_;simp[go_sem];refine aT ?_;simp[go_sem];exact⟨[],τ,λN=>⟨ζ,ζ⟩⟩
 subst he0
 cases d
 all_goals
  simp[go_sem,nW];refine aV (GSt.freeze 0 ξ) (aT ?_);simp[go_sem];exact⟨[],τ,λN=>⟨ζ,ζ⟩⟩
theorem aH0 (x:SvG) (o:OrG) (hx:x.OK) (hk:o.k=4):Own Tryz.prog 201 [irv x.ir] [x.eA,o.sv] (rT (wdM x o)) []:=by
 refine cM aD Tryz.func201 rfl κ ν rfl rfl ?_;have hn:=hx.ir;have hc:=bBh hx.g o.a o.b;unfold wdM;obtain⟨e,he⟩:∃e,x.g.wdE o.a o.b=e:=⟨_,rfl⟩;obtain⟨y,hy⟩:∃y,x.g.wdX o.a o.b=y:=⟨_,rfl⟩;rw[he,hy] at hc;rw[he,hy];simp[go_sem,hk];refine aA hc rfl rfl ?_;by_cases he0:e=0;rotate_left
 ·simp[go_sem,he0];refine aC 0 ξ ?_;simp[go_sem];refine aA (bO x e) rfl rfl ?_;simp[go_sem];refine aT ?_;simp[go_sem];exact⟨[],τ,λN=>⟨ζ,ζ⟩⟩
 subst he0;simp[go_sem,nW];refine aV (GSt.freeze 0 ξ) (aT ?_);simp[go_sem];exact⟨[],τ,λN=>⟨ζ,ζ⟩⟩
theorem aXw (g:Rg.RG) (hr:g.nr<=1000000) (hc:g.nc<=1000000) (hw:g.nw<=1000000) (hm:g.nm<=1000000):Pure Tryz.prog 91 [g.sv] (· =g.sv):=by
 refine Pure.ofSub ?_;refine π Tryz.func91 ?_;simp[go_sem];refine⟨⟨ω,ω⟩,⟨ω,ω⟩,⟨ω,ω⟩,⟨ω,ω⟩,?_⟩
 repeat' apply And.intro
 all_goals (intro i j hi hj;simp[go_sem,aJ,hi,aU])
theorem aXv (x:SvG) (hx:x.OK):Pure Tryz.prog 33 [x.sv] (· =x.sv):=by
 refine Pure.ofSub ?_;refine π Tryz.func33 ?_;have c1:=hx.g.nr;have c2:=hx.g.nl;have c3:=hx.g.nc;have c4:=hx.g.nv;have d1:=hx.ir;have d2:=hx.rn;have d3:=hx.rc;have d4:=hx.rw';have d5:=hx.rm;have d6:=hx.ch;have d7:=hx.ks;have d8:=hx.lg;simp[go_sem];refine aA (tK x.g ω ω ω λi hi=>by have:=c4 i hi;omega) rfl rfl ?_;simp[go_sem];refine⟨ω,?_⟩;refine aA (aXw x.r ω ω ω ω) rfl rfl ?_;simp[go_sem];refine⟨⟨ω,ω⟩,⟨ω,ω⟩,⟨ω,ω⟩,?_⟩
 repeat' apply And.intro
 all_goals (intro i j hi hj;simp[go_sem,aJ,hi,aU])
end Go.Gx.Sr
namespace Go.Gx.Rg
open Go.RowKit Go.Proofs Go.Proofs.YtncccnmmjfapnaaGreat
abbrev nT {α:Type} (x:Nat->α) (c:α->Nat->RV) (l:List Nat):Nat->Nat->RV:=λi j=>c (x (l.getD i 0)) j
theorem uG {α:Type} {x:Nat->α} {c:α->Nat->RV} {l:List Nat} {k w:Nat} {h:Nat->Nat->SV} (hh:∀j,j<w->h 0 j=.r (c (x k) j)) {i j:Nat} (hi:i<l.length+1) (hj:j<w) :
 aJ l.length 1 (λi j=>.r (nT x c l i j)) h i j=.r (nT x c (l++[k]) i j):=by
 unfold aJ nT;by_cases h1:i<l.length
 ·rw[if_pos h1];simp[List.getD,List.getElem?_append_left h1]
 ·have:i=l.length:=ω;subst this;rw[if_neg h1,if_pos hi];simp[hh j hj]
theorem bBc {P:Program} {f:FuncId} {Rs Rs':List Reg} {args args':List SV} {S:SV} (h:Own P f Rs args' S Rs') (hs:SV.subL args args'):Own P f Rs args S Rs':=h.argsSub hs
theorem twin17f (g:RG) (hr:g.nr<=1000000) (hc:g.nc<=1000000) (hw:g.nw<=1000000) (hm:g.nm<=1000000):Own Tryz.prog 91 [] [g.sv] (.agg [.sl 0 8 0 g.nr none,.sl 1 3 0 g.nc none,.sl 2 4 0 g.nw none,.sl 3 5 0 g.nm none]) [.vec 55 8 g.nr λi j=>.r ((g.r i).c j),.vec 59 3 g.nc λi j=>.r ((g.c i).c j),.vec 57 4 g.nw λi j=>.r ((g.w i).c j),.vec 61 5 g.nm λi j=>.r ((g.m i).c j)]:=by
 refine γ Tryz.func91 ?_;simp[go_sem];refine⟨⟨ω,ω⟩,⟨ω,ω⟩,⟨ω,ω⟩,⟨ω,ω⟩,[2,3,4,5],δ,λN=>⟨?_,?_⟩⟩
 ·simp[go_sem]
 ·simp[go_sem,aJ]
  repeat' apply And.intro
  all_goals (intro i j hi hj h;exact absurd hi ω)
theorem ref21 (g:RG) (t:Int) (h:g.OK):Pure Tryz.prog 295 [g.sv,.i t] (· =.tup [(if g.foE t=0 then g.forget t else RG.nil).sv,.i (g.foE t)]):=by
 refine Pure.ofSub ?_;refine π Tryz.func295 ?_;simp[go_sem];refine aA (valid58 g h) rfl rfl ?_;by_cases hv:g.valid=true;rotate_left
 ·have hv':g.valid=false:=by simpa using hv
  have ha:g.foE t=8:=by unfold RG.foE;rw[if_neg hv]
  simp[go_sem,hv',ha,RG.nil]
 have hl:=RG.lim hv;rw[hv];simp[go_sem];refine aA (v:=.b (persB t)) (oZ t) rfl rfl ?_;by_cases ht:persB t=true;rotate_left
 ·have ht':persB t=false:=by simpa using ht
  have ha:g.foE t=2:=by unfold RG.foE;rw[if_pos hv,if_neg ht]
  simp[go_sem,ht',ha,RG.nil]
 have ha:g.foE t=0:=by unfold RG.foE;rw[if_pos hv,if_pos ht]
 rw[ht];simp[go_sem,ha];refine aF [] (bBc (twin17f ⟨g.nr,g.r,0,g.c,0,g.w,0,g.m⟩ (by dsimp only;omega) τ τ τ) (args:=[.agg [RuleG.rs g.nr g.r,aP,aP,aP]]) ζ) τ rfl trivial ?_;simp[go_sem];refine bF aD (α:=Nat) (λk=>[(1,.i t),(2,.ptr 0 0 4 0),(4,.ptr 1 0 4 0),(6,.ptr 6 0 4 0),(7,.i k)])
  (λk=>g.box++[some (.box [aP,aP,aP,aP]),some (.vec 55 8 g.nr λi j=>.r ((g.r i).c j)),some (.vec 59 3 (kept (λi=>decide ((g.c i).p=t)) k).length λi j=>.r (nT g.c ConG.c (kept (λi=>decide ((g.c i).p=t)) k) i j)),some (.vec 57 4 0 λi j=>.r (nT g.w WarG.c [] i j)),some (.vec 61 5 0 λi j=>.r (nT g.m MarkG.c [] i j)),some (.box [.sl 2 8 0 g.nr none,.sl 3 3 0 (kept (λi=>decide ((g.c i).p=t)) k).length none,.sl 4 4 0 0 none,.sl 5 5 0 0 none])]) 7 (λk=>k<=g.nc) (λk=>g.nc - k) 0 (λ_=>rfl) τ (by simp[go_sem,kept]) (by simp[go_sem,kept]) ?_
 intro k J hi;have hkl:=kept_le (λi=>decide ((g.c i).p=t)) k;by_cases hlt:k<g.nc
 ·by_cases hx:(g.c k).p=t
  ·have hs:(kept (λi=>decide ((g.c i).p=t)) (k+1))=(kept (λi=>decide ((g.c i).p=t)) k):=by rw[bB];simp[hx]
   simp[go_sem,hlt,hx];exact⟨ω,k+1,ω,ω,τ,by rw[hs];simp⟩
  ·have hs:(kept (λi=>decide ((g.c i).p=t)) (k+1))=(kept (λi=>decide ((g.c i).p=t)) k)++[k]:=by rw[bB];simp[hx]
   simp[go_sem,hlt,hx];refine bE aD κ 8 κ rfl rfl ?_;simp[go_sem,hlt];refine⟨⟨ω,ω⟩,ω,k+1,ω,ω,?_⟩;rw[hs];simp;exact λi j hi hj=>by rw[uG (w:=3) (λj hj=>by rcases(show j=0\/j=1\/j=2 by omega) with rfl | rfl | rfl <;> rfl) hi hj];rfl
 have hk:k=g.nc:=ω;subst hk;simp[go_sem,hlt];clear hi hlt hkl;refine bF aD (α:=Nat) (λk=>[(1,.i t),(2,.ptr 0 0 4 0),(4,.ptr 1 0 4 0),(6,.ptr 6 0 4 0),(8,.i k)])
  (λk=>g.box++[some (.box [aP,aP,aP,aP]),some (.vec 55 8 g.nr λi j=>.r ((g.r i).c j)),some (.vec 59 3 (kept (λi=>decide ((g.c i).p=t)) g.nc).length λi j=>.r (nT g.c ConG.c (kept (λi=>decide ((g.c i).p=t)) g.nc) i j)),some (.vec 57 4 (kept (λi=>decide ((g.w i).p=t)) k).length λi j=>.r (nT g.w WarG.c (kept (λi=>decide ((g.w i).p=t)) k) i j)),some (.vec 61 5 0 λi j=>.r (nT g.m MarkG.c [] i j)),some (.box [.sl 2 8 0 g.nr none,.sl 3 3 0 (kept (λi=>decide ((g.c i).p=t)) g.nc).length none,.sl 4 4 0 (kept (λi=>decide ((g.w i).p=t)) k).length none,.sl 5 5 0 0 none])]) 7 (λk=>k<=g.nw) (λk=>g.nw - k) 0 (λ_=>rfl) τ (by simp[go_sem,kept]) (by simp[go_sem,kept]) ?_
 intro k J hi;have hkl:=kept_le (λi=>decide ((g.w i).p=t)) k;by_cases hlt:k<g.nw
 ·by_cases hx:(g.w k).p=t
  ·have hs:(kept (λi=>decide ((g.w i).p=t)) (k+1))=(kept (λi=>decide ((g.w i).p=t)) k):=by rw[bB];simp[hx]
   simp[go_sem,hlt,hx];exact⟨ω,k+1,ω,ω,τ,by rw[hs];simp⟩
  ·have hs:(kept (λi=>decide ((g.w i).p=t)) (k+1))=(kept (λi=>decide ((g.w i).p=t)) k)++[k]:=by rw[bB];simp[hx]
   simp[go_sem,hlt,hx];refine bE aD κ 8 κ rfl rfl ?_;simp[go_sem,hlt];refine⟨⟨ω,ω⟩,ω,k+1,ω,ω,?_⟩;rw[hs];simp;exact λi j hi hj=>by rw[uG (w:=4) (λj hj=>by rcases(show j=0\/j=1\/j=2\/j=3 by omega) with rfl | rfl | rfl | rfl <;> rfl) hi hj];rfl
 have hk:k=g.nw:=ω;subst hk;simp[go_sem,hlt];clear hi hlt hkl;refine bF aD (α:=Nat) (λk=>[(1,.i t),(2,.ptr 0 0 4 0),(4,.ptr 1 0 4 0),(6,.ptr 6 0 4 0),(9,.i k)])
  (λk=>g.box++[some (.box [aP,aP,aP,aP]),some (.vec 55 8 g.nr λi j=>.r ((g.r i).c j)),some (.vec 59 3 (kept (λi=>decide ((g.c i).p=t)) g.nc).length λi j=>.r (nT g.c ConG.c (kept (λi=>decide ((g.c i).p=t)) g.nc) i j)),some (.vec 57 4 (kept (λi=>decide ((g.w i).p=t)) g.nw).length λi j=>.r (nT g.w WarG.c (kept (λi=>decide ((g.w i).p=t)) g.nw) i j)),some (.vec 61 5 (kept (λi=>decide ((g.m i).p=t)) k).length λi j=>.r (nT g.m MarkG.c (kept (λi=>decide ((g.m i).p=t)) k) i j)),some (.box [.sl 2 8 0 g.nr none,.sl 3 3 0 (kept (λi=>decide ((g.c i).p=t)) g.nc).length none,.sl 4 4 0 (kept (λi=>decide ((g.w i).p=t)) g.nw).length none,.sl 5 5 0 (kept (λi=>decide ((g.m i).p=t)) k).length none])]) 7 (λk=>k<=g.nm) (λk=>g.nm - k) 0 (λ_=>rfl) τ (by simp[go_sem,kept]) (by simp[go_sem,kept]) ?_
 intro k J hi;have hkl:=kept_le (λi=>decide ((g.m i).p=t)) k;by_cases hlt:k<g.nm
 ·by_cases hx:(g.m k).p=t
  ·have hs:(kept (λi=>decide ((g.m i).p=t)) (k+1))=(kept (λi=>decide ((g.m i).p=t)) k):=by rw[bB];simp[hx]
   simp[go_sem,hlt,hx];exact⟨ω,k+1,ω,ω,τ,by rw[hs];simp⟩
  ·have hs:(kept (λi=>decide ((g.m i).p=t)) (k+1))=(kept (λi=>decide ((g.m i).p=t)) k)++[k]:=by rw[bB];simp[hx]
   simp[go_sem,hlt,hx];refine bE aD κ 8 κ rfl rfl ?_;simp[go_sem,hlt];refine⟨⟨ω,ω⟩,ω,k+1,ω,ω,?_⟩;rw[hs];simp;exact λi j hi hj=>by rw[uG (w:=5) (λj hj=>by rcases(show j=0\/j=1\/j=2\/j=3\/j=4 by omega) with rfl | rfl | rfl | rfl | rfl <;> rfl) hi hj];rfl
 have hk:k=g.nm:=ω;subst hk;simp[go_sem,hlt];clear hi hlt hkl;exact⟨⟨rfl,λ_ _ _ _=>rfl⟩,⟨rfl,λ_ _ _ _=>rfl⟩,⟨rfl,λ_ _ _ _=>rfl⟩,rfl,λ_ _ _ _=>rfl⟩
end Go.Gx.Rg
