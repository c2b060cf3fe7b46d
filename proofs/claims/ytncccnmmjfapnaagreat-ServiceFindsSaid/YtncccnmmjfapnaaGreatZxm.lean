/-
  Texts of the walk, merged: Xm.
-/
import Derived.Test.YtncccnmmjfapnaaGreatZxd
set_option linter.unusedVariables false
set_option linter.unusedSimpArgs false
set_option maxRecDepth 100000
set_option maxHeartbeats 4000000
namespace Go.Gx.Sr
open Go.RowKit Go.Proofs Go.Proofs.YtncccnmmjfapnaaGreat Go.Gx.Ix
def longB (l:List OrG):Bool:=(l.take 400).any OrG.great||(decide ((150:Int)<l.length)&&decide ((l.length:Int)≤300)||decide ((400:Int)<l.length))
theorem longB_yes {l:List OrG} {i:Nat} (h:i<l.length) (h4:i<400) (hg:l[i].great=true):longB l=true:=by
 unfold longB
 have:(l.take 400).any OrG.great=true:=List.any_eq_true.2 ⟨l[i],by
  have hi:i<(l.take 400).length:=by rw[List.length_take];omega
  have e:(l.take 400)[i]=l[i]:=List.getElem_take
  rw[← e];exact List.getElem_mem hi,hg⟩
 rw[this];rfl
theorem longB_no {l:List OrG} {i:Nat} (hi:i=l.length∨i=400) (h:∀j,(h:j<l.length)→j<i→l[j].great=false):longB l=(decide ((150:Int)<l.length)&&decide ((l.length:Int)≤300)||decide ((400:Int)<l.length)):=by
 unfold longB
 have:(l.take 400).any OrG.great=false:=List.any_eq_false.2 λo ho=>by
  obtain⟨j,hj,rfl⟩:=List.getElem_of_mem ho
  have hj':=hj
  rw[List.length_take] at hj'
  rw[List.getElem_take,h j (by omega) (by omega)]
  simp
 rw[this,Bool.false_or]
theorem long36 (l:List OrG):Pure Tryz.prog 36 [ords l] (· =.b (longB l)):=by
 refine pure_of_GC T_ok Tryz.func36 rfl (by kernel_rfl) (nb rfl) rfl rfl ?_
 simp[go_sem]
 refine GLoop_of T_ok (α:=Nat) (λi=>[(0,ords l),(3,.i i)]) (λ_=>[]) 0 (λi=>i≤l.length∧i≤400∧∀j,(h:j<l.length)→j<i→l[j].great=false) (λi=>l.length - i) 0 (λ_=>rfl) ⟨Nat.zero_le _,Nat.zero_le _,λj _ h=>absurd h (Nat.not_lt_zero j)⟩ (by simp[go_sem]) (by simp[go_sem]) ?_
 rintro i J ⟨h1,h2,h3⟩
 by_cases hlt:i<l.length
 ·by_cases h4:i<400
  ·have hrow:=rowOf_get (f:=OrG.fc) hlt
   have hyes:=longB_yes hlt h4
   have hno:l[i].great=false→∀j,(h:j<l.length)→j<i+1→l[j].great=false:=λhg j h hj=>by
    by_cases e:j=i
    ·subst e;exact hg
    ·exact h3 j h (by omega)
   obtain⟨o,ho⟩:∃o,l[i]=o:=⟨_,rfl⟩
   rw[ho] at hrow hyes hno
   have h4':(i:Int)<400:=by omega
   simp[go_sem,hlt,h4',hrow]
   refine call_val (great24 o) rfl rfl ?_
   cases hg:o.great
   ·simp[go_sem]
    exact⟨by omega,i+1,⟨by omega,by omega,hno hg⟩,by omega,by omega⟩
   ·have e:=hyes hg
    simp[go_sem,e]
  ·have e:=longB_no (.inr (by omega)) h3
   have h4':¬(i:Int)<400:=by omega
   rw[e]
   by_cases c1:(150:Int)<l.length <;> by_cases c2:(l.length:Int)≤300 <;> by_cases c3:(400:Int)<l.length <;> simp[go_sem,hlt,h4',c1,c2,c3]
 ·have e:=longB_no (.inl (by omega)) h3
  rw[e]
  by_cases c1:(150:Int)<l.length <;> by_cases c2:(l.length:Int)≤300 <;> by_cases c3:(400:Int)<l.length <;> simp[go_sem,hlt,c1,c2,c3]
theorem long_sm {l:List OrG} (hb:∀o∈l,o.rl.byte) (h:longB l=false) (hn:¬(150:Int)<l.length):∀o∈l,o.Sm:=by
 unfold longB at h
 rw[Bool.or_eq_false_iff,List.take_of_length_le (by omega)] at h
 intro o ho
 have h1:=List.any_eq_false.1 h.1 o ho
 exact OrG.sm_of (hb o ho) (by simpa using h1)
theorem HtG.row (x:HtG):x.f 0=.i x.a∧x.f 1=.i x.l∧x.f 2=.v (.bool x.o)∧x.f 3=.i x.s∧x.f 4=.i x.n:=⟨rfl,rfl,rfl,rfl,rfl⟩
theorem sameAnswer43 (a:AnG) (hn:a.h.length<1000000):Pure Tryz.prog 43 [a.sv,a.sv] (· =.b true):=by
 refine pure_of_GC T_ok Tryz.func43 rfl (by kernel_rfl) (nb rfl) rfl rfl ?_
 simp[go_sem]
 refine GLoop_of T_ok (α:=Nat) (λi=>[(2,.ptr 0 0 3 0),(3,.ptr 1 0 3 0),(5,.i i)]) (λ_=>[some (.box [.i a.e,.i a.n,hts a.h]),some (.box [.i a.e,.i a.n,hts a.h])]) 2 (λi=>i≤a.h.length) (λi=>a.h.length - i) 0 (λ_=>rfl) (Nat.zero_le _) (by simp[go_sem]) (by simp[go_sem]) ?_
 intro i J hi
 by_cases hlt:i<a.h.length
 ·have hrow:=rowOf_get (f:=HtG.f) hlt
  obtain⟨r0,r1,r2,r3,r4⟩:=HtG.row a.h[i]
  simp[go_sem,hlt]
  refine GDraw_all T_ok (by kernel_rfl) (by kernel_rfl) ?_
  simp[go_sem,hlt,hrow,r0,r1,r2,r3,r4]
  exact⟨by omega,i+1,by omega,by omega,by omega⟩
 ·simp[go_sem,hlt]
def outs:SvG→List OrG→List AnG
 | _,[]=>[]
 | x,o::l=>stA x o::outs (stX x o) l
theorem run_eq:∀(l:List OrG) (x:SvG) (a:List AnG),run x l a=(l.foldl stX x,a++outs x l)
 | [],x,a=>by simp[run,outs]
 | o::l,x,a=>by
   unfold run
   rw[run_eq l]
   simp[outs]
theorem outs_len:∀(l:List OrG) (x:SvG),(outs x l).length=l.length
 | [],x=>rfl
 | o::l,x=>by simp[outs,outs_len l]
theorem outs_get:∀(l:List OrG) (x:SvG) (i:Nat) (h:i<l.length) (h':i<(outs x l).length),(outs x l)[i]=stA ((l.take i).foldl stX x) l[i]
 | [],x,i,h,_=>absurd h (Nat.not_lt_zero i)
 | o::l,x,0,h,_=>rfl
 | o::l,x,i+1,h,h'=>by
   have hi:i<l.length:=by simpa using h
   have:=outs_get l (stX x o) i hi (by rw[outs_len];exact hi)
   simpa [outs] using this
theorem fold_va:∀(l:List OrG) (x:SvG),x.Va→(l.foldl stX x).Va
 | [],x,h=>h
 | o::l,x,h=>fold_va l (stX x o) (h.stX o)
theorem fold_take {l:List OrG} {i:Nat} (h:i<l.length) (x:SvG):(l.take (i+1)).foldl stX x=stX ((l.take i).foldl stX x) l[i]:=by
 rw[List.take_succ_eq_append_getElem h,List.foldl_append]
 rfl
theorem run_bad {x:SvG} {l:List OrG} (hn:l.length<1000000) (ho:∀o∈l,o.Sm) (h:¬runE x l=0):Pure Tryz.prog 37 [x.ss,ords l] (· =.tup [SvG.zero.sv,ans [],.i (runE x l)]):=by
 have hs:=run37 x l hn ho
 rw[if_neg h,if_neg h] at hs
 exact hs
theorem run_good {x:SvG} {l:List OrG} (hn:l.length<1000000) (ho:∀o∈l,o.Sm) (h:runE x l=0):Pure Tryz.prog 37 [x.ss,ords l] (· =.tup [(l.foldl stX x.new).sv,ans (outs x.new l),.i 0]):=by
 have hs:=run37 x l hn ho
 rw[if_pos h,if_pos h,h,run_eq] at hs
 exact hs
end Go.Gx.Sr
