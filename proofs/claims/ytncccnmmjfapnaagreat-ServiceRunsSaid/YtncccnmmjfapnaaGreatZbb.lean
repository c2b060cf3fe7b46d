/-
 Texts of the walk, merged: Qb.
-/
import Derived.Test.YtncccnmmjfapnaaGreatZay
import Derived.Test.YtncccnmmjfapnaaGreatZxn
set_option linter.unusedVariables false
set_option linter.unusedSimpArgs false
set_option maxRecDepth 100000
set_option maxHeartbeats 4000000
namespace Go.Gx.Sr
open Go.RowKit Go.Proofs Go.Proofs.YtncccnmmjfapnaaGreat Go.Gx.Ix
theorem aQq {l:List OrG} (hb:∀o∈l,o.rl.byte) (h:vJ l=false):(∀o∈l,o.Sm)/\l.length<=400:=by
 unfold vJ at h;simp only [Bool.or_eq_false_iff,decide_eq_false_iff_not] at h;have h4:l.length<=400:=ω;refine⟨λo ho=>OrG.sm_of (hb o ho) ?_,h4⟩;have:=List.any_eq_false.1 h.1 o (by rw[List.take_of_length_le h4];exact ho);simpa using this
theorem aA4 (l:List AnG) (hn:l.length<1000000) (hh:∀a∈l,a.h.length<1000000):Pure Tryz.prog 41 [ans l,ans l] (· =.b true):=by
 refine π Tryz.func41 ?_;simp[go_sem];refine aH aD (α:=Nat) (λk=>[(0,ans l),(1,ans l),(5,.i k)]) (λ_=>[]) 0 (λk=>k<=l.length) (λk=>l.length - k) 0 (λ_=>rfl) τ ζ ζ ?_;intro k J hk;by_cases hlt:k<l.length
 ·have q:=aJ (f:=AnG.f) hlt;have hs:=aDq l[k] (hh _ (List.getElem_mem hlt));simp[go_sem,hlt];refine aE aD κ κ ?_;simp[go_sem,hlt,q];refine⟨_,aB hs rfl rfl,?_⟩;simp[go_sem];exact⟨ω,k+1,ω,ω,ω⟩
 ·simp[go_sem,hlt]
theorem bJ5 (x:SvG) (l:List OrG) (hb:∀o∈l,o.rl.byte):Pure Tryz.prog 6 [x.ss,oJ l] (· =.b true):=by
 refine π Tryz.func6 ?_;simp[go_sem];refine aA (bB6 l) rfl rfl ?_
 cases hlo:vJ l
 rotate_left
 ·simp[go_sem]
 obtain⟨hsm,h4⟩:=aQq hb hlo;have hn:l.length<1000000:=ω;have r1:=bGt x l hn hsm;have r2:=bG2 x l hn hsm;have hX:(if jV x l=0 then (run x.new l []).1 else SvG.zero).OK/\(if jV x l=0 then (run x.new l []).2 else []).length<1000000/\∀a∈(if jV x l=0 then (run x.new l []).2 else []),a.h.length<1000000:=by
  by_cases hE:jV x l=0
  ·obtain⟨hset,hor,_⟩:=aQ6 hE;have hxv:=aI1 hset;rw[if_pos hE,if_pos hE,aTg];have hol:=yG l x.new;refine⟨(aC6 l x.new hxv).ok,?_,λa ha=>?_⟩
   ·show([]++zU x.new l).length<1000000;rw[List.nil_append,hol];exact hn
   ·have ha:a∈zU x.new l:=by simpa using ha
    obtain⟨i,hi,rfl⟩:=List.getElem_of_mem ha;rw[aFp l x.new i ω hi];exact aUz (aC6 _ x.new hxv) (xC (hor _ (List.getElem_mem _)))
  ·rw[if_neg hE,if_neg hE];exact⟨SvG.zero_ok,τ,λa ha=>absurd ha τ⟩
 obtain⟨X,hXe⟩:∃X,(if jV x l=0 then (run x.new l []).1 else SvG.zero)=X:=⟨_,rfl⟩;obtain⟨A,hAe⟩:∃A,(if jV x l=0 then (run x.new l []).2 else [])=A:=⟨_,rfl⟩;obtain⟨E,hEe⟩:∃E,jV x l=E:=⟨_,rfl⟩;rw[hXe,hAe] at hX;rw[hXe,hAe,hEe] at r1 r2;obtain⟨o1,o2,o3⟩:=hX;simp[go_sem];refine aA r1 rfl rfl ?_;simp[go_sem];refine aA r2 rfl rfl ?_;simp[go_sem];refine aA (bA8 X X o1 o1) rfl rfl ?_;rw[SvG.same_rfl];simp[go_sem];refine aA (aA4 A o2 o3) rfl rfl ?_;simp[go_sem]
end Go.Gx.Sr
