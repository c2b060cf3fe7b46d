/-
 Texts of the walk, merged: Qa.
-/
import Derived.Test.YtncccnmmjfapnaaGreatZaw
import Derived.Test.YtncccnmmjfapnaaGreatZxm
set_option linter.unusedVariables false
set_option linter.unusedSimpArgs false
set_option maxRecDepth 100000
set_option maxHeartbeats 4000000
namespace Go.Gx.Sr
open Go.RowKit Go.Proofs Go.Proofs.YtncccnmmjfapnaaGreat Go.Gx.Ix
theorem qG {e:Int} (h:¬e=0):∀l:List OrG,iP e l=e
 | []=>rfl
 | o::l=>by
   show iP (if e=0 then cQ o else e) l=e;rw[if_neg h];exact qG h l
theorem aGd:∀(l l':List OrG) (e:Int),iP e (l++l')=iP (iP e l) l'
 | [],_,_=>rfl
 | _::l,l',_=>aGd l l' _
theorem yZ:∀{l:List OrG},(∀o∈l,cQ o=0)->iP 0 l=0
 | [],_=>rfl
 | o::l,h=>by
   show iP (if (0:Int)=0 then cQ o else 0) l=0;rw[if_pos rfl,h o List.mem_cons_self];exact yZ λy hy=>h y (List.mem_cons_of_mem _ hy)
theorem aRf {l:List OrG} {k:Nat} (h:k<l.length) (h0:∀j (hj:j<l.length),j<k->cQ l[j]=0) (hk:¬cQ l[k]=0):iP 0 l=cQ l[k]:=by
 have e:l=l.take (k+1)++l.drop (k+1):=τ;have ha:iP 0 (l.take k)=0:=yZ λo ho=>by
  obtain⟨i,hi,rfl⟩:=List.getElem_of_mem ho;simp only [List.length_take] at hi;rw[List.getElem_take];exact h0 i ω ω
 have e2:iP 0 (l.take (k+1))=cQ l[k]:=by rw[aB9 h,ha,if_pos rfl]
 conv=>lhs;rw[e]
 rw[aGd,e2];exact qG hk _
theorem aFb {o:OrG} (h:cV o=false):cQ o=2:=by unfold cQ;rw[h];rfl
theorem aV0 {o:OrG} (h:cV o=true):cQ o=0:=by unfold cQ;rw[h];rfl
def B3 (x y z:SvG) (a:AnG) (G:Nat->Nat->SV) (n:Nat) (p:Nat × Nat) (M:Mem) (nx:Nat):Prop:=p.1≠p.2/\3<p.1/\3<p.2/\p.1<nx/\p.2<nx/\M 1=some aM0/\M 2=some (.box y.cells)/\M 3=some (.vec 51 3 n G)/\M p.1=some (.box z.cells)/\M p.2=some (.box [.i a.e,.i a.n,hts a.h])
theorem bG2 (x:SvG) (l:List OrG) (hn:l.length<1000000) (ho:∀o∈l,o.Sm):Pure Tryz.prog 40 [x.ss,oJ l] (· =.tup [(if jV x l=0 then (run x.new l []).1 else SvG.zero).sv,ans (if jV x l=0 then (run x.new l []).2 else []),.i (jV x l)]):=by
 refine Pure.ofSub ?_;refine π Tryz.func40 ?_;simp[go_sem];refine aA (bGq x) rfl rfl ?_
 cases hsb:x.setB
 ·have hE:jV x l=2:=by unfold jV;rw[hsb,if_neg δ];exact qG δ l
  rw[hE];simp[go_sem,SvG.zero,EG.zero,Rg.RG.nil]
 by_cases h3:300<l.length
 ·have h3':(300:Int)<l.length:=ω;have hE:jV x l=4:=by unfold jV;rw[hsb,if_pos rfl,if_pos h3];exact qG δ l
  rw[hE];simp[go_sem,h3',SvG.zero,EG.zero,Rg.RG.nil]
 have h3':¬(300:Int)<l.length:=ω;have hE0:jV x l=iP 0 l:=by unfold jV;rw[hsb,if_pos rfl,if_neg h3]
 rw[hE0];obtain⟨y,hy⟩:∃y,x.new=y:=⟨_,rfl⟩;have hyv:y.Va:=by rw[<- hy];exact aI1 hsb
 rw[hy];simp[go_sem,h3'];refine bF aD (α:=Nat) (λk=>[(1,oJ l),(4,.ptr 1 0 17 0),(7,.ptr 2 0 17 0),(9,.i k)]) (λ_=>[none,some aM0,some (.box y.cells)]) 3 (λk=>k<=l.length/\∀j (hj:j<l.length),j<k->cQ l[j]=0) (λk=>l.length - k) 0 (λ_=>rfl) ⟨Nat.zero_le _,λj hj h=>absurd h (Nat.not_lt_zero j)⟩ ζ ζ ?_;rintro k J ⟨hk,hok⟩;by_cases hlt:k<l.length
 ·have hrow:=aJ (f:=OrG.fc) hlt;have hmem:=ho _ (List.getElem_mem hlt);have hbad:=aRf hlt hok;have hok':cQ l[k]=0->∀j (hj:j<l.length),j<k+1->cQ l[j]=0:=λh0 j hj h=>by
   by_cases e:j=k
   ·subst e;exact h0
   ·exact hok j hj ω
  obtain⟨o,hoo⟩:∃o,l[k]=o:=⟨_,rfl⟩;rw[hoo] at hrow hmem hbad hok';simp[go_sem,hlt,hrow];refine aA (aEt o hmem.q) rfl rfl ?_
  cases hb:cV o
  ·have hE:iP 0 l=2:=by rw[hbad (by rw[aFb hb];decide),aFb hb]
   rw[hE];simp[go_sem,SvG.zero,EG.zero,Rg.RG.nil]
  ·simp[go_sem];exact⟨⟨ω,ω⟩,k+1,⟨ω,hok' (aV0 hb)⟩,ω,ω⟩
 obtain rfl:k=l.length:=ω;have hoE:∀o∈l,cQ o=0:=λo h=>by
  obtain⟨i,hi,rfl⟩:=List.getElem_of_mem h;exact hok i hi hi
 rw[yZ hoE];obtain⟨R,hR⟩:∃R,run y l []=R:=⟨_,rfl⟩;rw[hR];simp[go_sem];refine bH (GSt.adopt 10 51 3 (λi j=>.r (bA AnG.f [] i j)) ζ) ?_;refine bF aD (α:=Nat × SvG × List AnG) (λs=>[(1,oJ l),(4,.ptr 1 0 17 0),(7,.ptr 2 0 17 0),(10,.sl 3 3 0 s.2.2.length none),(11,.i s.1)]) (λs=>[none,some aM0,some (.box s.2.1.cells),some (.vec 51 3 s.2.2.length λi j=>.r (bA AnG.f s.2.2 i j))]) 4
  (λs=>s.1<=l.length/\s.2.1.Va/\s.2.2.length<=s.1/\R=run s.2.1 (l.drop s.1) s.2.2) (λs=>l.length - s.1) (0,y,[]) (λ_=>rfl) ⟨Nat.zero_le _,hyv,Nat.le_refl _,hR.symm⟩ ζ ζ ?_
 rintro⟨k,z,al⟩ J ⟨hk,hzv,hak,hM⟩;dsimp only at *;by_cases hlt:k<l.length
 ·have hrow:=aJ (f:=OrG.fc) hlt;have hmem:=ho _ (List.getElem_mem hlt);have hoE:=hoE _ (List.getElem_mem hlt);have hdrop:l.drop k=l[k]::l.drop (k+1):=List.drop_eq_getElem_cons hlt;obtain⟨o,hoo⟩:∃o,l[k]=o:=⟨_,rfl⟩;rw[hoo] at hrow hmem hdrop hoE;rw[hdrop] at hM;have hs:=bAk z o hzv.ok (SvG.va_iff.2 hzv) hmem (xC hoE);have ht:=aV2 z hzv.ok;obtain⟨z',hz'⟩:∃z',stX z o=z':=⟨_,rfl⟩;obtain⟨a,ha⟩:∃a,nX z o=a:=⟨_,rfl⟩;have hM:R=run (stX z o) (l.drop (k+1)) (al++[nX z o]):=hM;have hzv':=hzv.stX o;rw[hz',ha] at hs hM;rw[hz'] at hzv';have har:∀j,j<3->([.i a.e,.i a.n,hts a.h]:List SV)[0*3+j]?.getD (SV.r .any)=.r (a.f j):=by
   intro j hj;rcases(ω:j=0\/j=1\/j=2) with rfl | rfl | rfl <;> rfl
  simp[go_sem,hlt];refine aJ1 (α:=Nat × Nat) (λp=>[(1,oJ l),(4,.ptr 1 0 17 0),(7,.ptr 2 0 17 0),(10,.sl 3 3 0 al.length none),(11,.i k),(12,.ptr p.1 0 17 0),(13,.ptr p.2 0 3 0)]) (B3 x z z' a (λi j=>.r (bA AnG.f al i j)) al.length) ?_ ?_
  ·refine aP (t:=(.take 0 (.take 2 (.take 3 (.take 4 (.take 5 (.alt 1 [5,4,3,2,0] (.alt 6 [5,4,3,2] (.take 7 (.take 8 (.take 9 (.alt 10 [9,8,7,4,3,2] (.alt 11 [9,8,7,4,3,2] (.alt 12 [9,8,7,4,3,2] (.alt 13 [9] (.done []) .nil) .nil) .nil) (.alt 11 [9,8,7,4,3,2] (.alt 10 [9,8,7,4,3,2] (.alt 12 [9,8,7,4,3,2] (.alt 13 [9] (.done []) .nil) .nil) .nil) .nil))))) (.alt 10 [5,4,3,2] (.alt 6 [5,4,3,2] (.take 7 (.take 8 (.take 9 (.alt 11 [9,8,7,4,3,2] (.alt 12 [9,8,7,4,3,2] (.alt 13 [9] (.done []) .nil) .nil) .nil)))) (.alt 11 [5,4,3,2] (.alt 6 [5,4,3,2] (.take 7 (.take 8 (.take 9 (.alt 12 [9,8,7,4,3,2] (.alt 13 [9] (.done []) .nil) .nil)))) .nil) .nil)) (.alt 11 [5,4,3,2] (.alt 6 [5,4,3,2] (.take 7 (.take 8 (.take 9 (.alt 10 [9,8,7,4,3,2] (.alt 12 [9,8,7,4,3,2] (.alt 13 [9] (.done []) .nil) .nil) .nil)))) (.alt 10 [5,4,3,2] (.alt 6 [5,4,3,2] (.take 7 (.take 8 (.take 9 (.alt 12 [9,8,7,4,3,2] (.alt 13 [9] (.done []) .nil) .nil)))) .nil) .nil)) .nil))) (.alt 10 [5,4,3,2,0] (.alt 1 [5,4,3,2,0] (.alt 6 [5,4,3,2] (.take 7 (.take 8 (.take 9 (.alt 11 [9,8,7,4,3,2] (.alt 12 [9,8,7,4,3,2] (.alt 13 [9] (.done []) .nil) .nil) .nil)))) (.alt 11 [5,4,3,2] (.alt 6 [5,4,3,2] (.take 7 (.take 8 (.take 9 (.alt 12 [9,8,7,4,3,2] (.alt 13 [9] (.done []) .nil) .nil)))) .nil) .nil)) (.alt 11 [5,4,3,2,0] (.alt 1 [5,4,3,2,0] (.alt 6 [5,4,3,2] (.take 7 (.take 8 (.take 9 (.alt 12 [9,8,7,4,3,2] (.alt 13 [9] (.done []) .nil) .nil)))) .nil) .nil) .nil)) (.alt 11 [5,4,3,2,0] (.alt 1 [5,4,3,2,0] (.alt 6 [5,4,3,2] (.take 7 (.take 8 (.take 9 (.alt 10 [9,8,7,4,3,2] (.alt 12 [9,8,7,4,3,2] (.alt 13 [9] (.done []) .nil) .nil) .nil)))) (.alt 10 [5,4,3,2] (.alt 6 [5,4,3,2] (.take 7 (.take 8 (.take 9 (.alt 12 [9,8,7,4,3,2] (.alt 13 [9] (.done []) .nil) .nil)))) .nil) .nil)) (.alt 10 [5,4,3,2,0] (.alt 1 [5,4,3,2,0] (.alt 6 [5,4,3,2] (.take 7 (.take 8 (.take 9 (.alt 12 [9,8,7,4,3,2] (.alt 13 [9] (.done []) .nil) .nil)))) .nil) .nil) .nil)) .nil))))))))) aD κ κ κ (λ_ _ _ _ h=>h) ?_;simp[go_sem,hlt,hrow]
   repeat' (first | refine And.intro ?_ ?_ | (refine aF [] ht τ rfl trivial ?_;simp[go_sem,hlt,hrow]) | (refine aF [4,5,6,7,8] hs τ rfl ⟨rfl,rfl,rfl,rfl,rfl,trivial⟩ ?_;simp[go_sem]) | (refine aF [5,6,7,8,9] hs τ rfl ⟨rfl,rfl,rfl,rfl,rfl,trivial⟩ ?_;simp[go_sem]) | (refine aF [6,7,8,9,10] hs τ rfl ⟨rfl,rfl,rfl,rfl,rfl,trivial⟩ ?_;simp[go_sem]))
   all_goals first
    | exact hlt
    | (refine⟨_,_,⟨rfl,rfl⟩,δ,δ,δ,δ,δ,?_,?_,?_,?_,?_⟩
       all_goals simp[go_sem])
  rintro⟨p,q⟩ J M nx ⟨h1,h2,h3,h4,h5,m1,m2,m3,m4,m5⟩;dsimp only at *;have p2:¬p=2:=ω;have p3:¬p=3:=ω;have q2:¬q=2:=ω;have q3:¬q=3:=ω;have p2':¬2=p:=ω;have p3':¬3=p:=ω;have q2':¬2=q:=ω;have q3':¬3=q:=ω;have n1:¬1=nx:=ω;have n2:¬2=nx:=ω;have n3:¬3=nx:=ω;have n1':¬nx=1:=ω;have n2':¬nx=2:=ω;have n3':¬nx=3:=ω;simp[go_sem,m1,m2,m3,m4,m5,p2,p3,q2,q3,p2',p3',q2',q3',n1,n2,n3,n1',n2',n3'];refine⟨⟨ω,ω⟩,⟨ω,ω⟩,k+1,z',al++[a],⟨ω,hzv',ι,hM⟩,ω,⟨τ,ω⟩,τ,τ,λi j hi hj=>?_⟩;rw[fI (f:=AnG.f) (λi j _ _=>rfl) har i j hi hj];rfl
 obtain rfl:k=l.length:=ω;rw[List.drop_length] at hM;have hM:R=(z,al):=hM;rw[hM];simp[go_sem]
end Go.Gx.Sr
