/-
  Texts of the walk, merged: Wd We Hk Hc Hl Hn Ho Sg Wf Wg Wh Wi Wj Wk Wl Ro Rp Xa Xb.
-/
import Derived.Test.YtncccnmmjfapnaaGreatZao
import Derived.Test.YtncccnmmjfapnaaGreatZam
import Derived.Test.YtncccnmmjfapnaaGreatZal
import Derived.Test.YtncccnmmjfapnaaGreatZan
import Derived.Test.YtncccnmmjfapnaaGreatZaj
import Derived.Test.YtncccnmmjfapnaaGreatZak
set_option linter.unusedVariables false
set_option linter.unusedSimpArgs false
set_option maxRecDepth 100000
set_option maxHeartbeats 4000000
namespace Go.Gx.Sr
open Go.RowKit Go.Proofs Go.Proofs.YtncccnmmjfapnaaGreat Go.Gx.Ix
abbrev wk (f:FuncId):SV:=.fn (.func f) [.ptr 0 0 17 0] []
abbrev works:List SV:=[.r (.v .nilFunc),wk 241,wk 242,wk 243,wk 244,wk 245,wk 246,wk 247,wk 248,wk 249,wk 250,wk 251,wk 252,wk 253,wk 254]
theorem works147 (x:SvG):OwnS Tryz.prog 1 147 [.box x.cells] [.ptr 0 0 17 0] (.agg works) [.box x.cells]:=by
 refine ownS_of_GC T_ok Tryz.func147 rfl (by kernel_rfl) (nb rfl) rfl rfl 1 (Nat.le_refl _) ?_
 simp[go_sem]
 exact⟨[0],⟨rfl,trivial⟩,by simp,λN=>⟨by simp[go_sem],by simp[go_sem]⟩⟩
structure OrG.OK (o:OrG):Prop where
 k1:1≤o.k
 k2:o.k≤14
 b:o.rl.byte
 q:(o.q.nk:Int)<2 ^ 61
theorem step66 (x:SvG) (o:OrG) (hx:x.OK) (hv:x.valid=true) (ho:o.OK):OwnS Tryz.prog 1 66 [.box x.cells] [.ptr 0 0 17 0,o.sv] (stA x o).sv [.box (stX x o).cells]:=by
 refine ownS_of_GC T_ok Tryz.func66 rfl (by kernel_rfl) (nb rfl) rfl rfl 1 (Nat.le_refl _) ?_
 simp[go_sem]
 refine GDraw_l (t:=(.take 0 (.take 2 (.take 3 (.take 5 (.alt 1 [5,3,2,0] (.take 4 (.alt 6 [4,5,3,2] (.take 7 (.take 8 (.take 9 (.take 10 (.take 11 (.take 12 (.take 13 (.done [13,12,11,10,9,8,7,3,2])))))))) .nil)) .nil)))))) T_ok (by kernel_rfl) (by kernel_rfl) (by kernel_rfl) (λ_ _ _ _ h=>h) ?_
 simp[go_sem]
 refine callK_ownS [0] (works147 x) (Nat.le_refl _) (by simp) rfl ⟨rfl,trivial⟩ ?_
 have h1:=ho.k1
 have h2:=ho.k2
 rcases(by omega:o.k=1∨o.k=2∨o.k=3∨o.k=4∨o.k=5∨o.k=6∨o.k=7∨o.k=8∨o.k=9∨o.k=10∨o.k=11∨o.k=12∨o.k=13∨o.k=14) with hk | hk | hk | hk | hk | hk | hk | hk | hk | hk | hk | hk | hk | hk
 ·have hd:=does_tick x o hv
  have e:doM x o=tickM x o:=by simp[doM,hk]
  unfold Does at hd
  rw[← e] at hd
  obtain⟨y,hy⟩:∃y,doM x o=y:=⟨_,rfl⟩
  unfold stX stA
  unfold OrG.sv OrG.cells at hd
  rw[hy,hk] at hd
  rw[hy]
  simp[go_sem,hk]
  refine callK_ownS [0] hd (Nat.le_refl _) (by simp) rfl ⟨rfl,trivial⟩ ?_
  by_cases he:y.2.e=0
  ·simp[go_sem,he]
   exact⟨hk.symm,[0],⟨rfl,trivial⟩,by simp,λN=>⟨by simp[go_sem,he],by simp[go_sem]⟩⟩
  ·simp[go_sem,he,bad]
   exact⟨hk.symm,[0],⟨rfl,trivial⟩,by simp,λN=>⟨by simp[go_sem],by simp[go_sem]⟩⟩
 ·have hd:=does_enrol x o hx
  have e:doM x o=enrolM x o:=by simp[doM,hk]
  unfold Does at hd
  rw[← e] at hd
  obtain⟨y,hy⟩:∃y,doM x o=y:=⟨_,rfl⟩
  unfold stX stA
  unfold OrG.sv OrG.cells at hd
  rw[hy,hk] at hd
  rw[hy]
  simp[go_sem,hk]
  refine callK_ownS [0] hd (Nat.le_refl _) (by simp) rfl ⟨rfl,trivial⟩ ?_
  by_cases he:y.2.e=0
  ·simp[go_sem,he]
   exact⟨hk.symm,[0],⟨rfl,trivial⟩,by simp,λN=>⟨by simp[go_sem,he],by simp[go_sem]⟩⟩
  ·simp[go_sem,he,bad]
   exact⟨hk.symm,[0],⟨rfl,trivial⟩,by simp,λN=>⟨by simp[go_sem],by simp[go_sem]⟩⟩
 ·have hd:=does_vote x o hx
  have e:doM x o=voteM x o:=by simp[doM,hk]
  unfold Does at hd
  rw[← e] at hd
  obtain⟨y,hy⟩:∃y,doM x o=y:=⟨_,rfl⟩
  unfold stX stA
  unfold OrG.sv OrG.cells at hd
  rw[hy,hk] at hd
  rw[hy]
  simp[go_sem,hk]
  refine callK_ownS [0] hd (Nat.le_refl _) (by simp) rfl ⟨rfl,trivial⟩ ?_
  by_cases he:y.2.e=0
  ·simp[go_sem,he]
   exact⟨hk.symm,[0],⟨rfl,trivial⟩,by simp,λN=>⟨by simp[go_sem,he],by simp[go_sem]⟩⟩
  ·simp[go_sem,he,bad]
   exact⟨hk.symm,[0],⟨rfl,trivial⟩,by simp,λN=>⟨by simp[go_sem],by simp[go_sem]⟩⟩
 ·have hd:=does_wd x o hx
  have e:doM x o=wdM x o:=by simp[doM,hk]
  unfold Does at hd
  rw[← e] at hd
  obtain⟨y,hy⟩:∃y,doM x o=y:=⟨_,rfl⟩
  unfold stX stA
  unfold OrG.sv OrG.cells at hd
  rw[hy,hk] at hd
  rw[hy]
  simp[go_sem,hk]
  refine callK_ownS [0] hd (Nat.le_refl _) (by simp) rfl ⟨rfl,trivial⟩ ?_
  by_cases he:y.2.e=0
  ·simp[go_sem,he]
   exact⟨hk.symm,[0],⟨rfl,trivial⟩,by simp,λN=>⟨by simp[go_sem,he],by simp[go_sem]⟩⟩
  ·simp[go_sem,he,bad]
   exact⟨hk.symm,[0],⟨rfl,trivial⟩,by simp,λN=>⟨by simp[go_sem],by simp[go_sem]⟩⟩
 ·have hd:=does_rem x o hx hv
  have e:doM x o=remM x o:=by simp[doM,hk]
  unfold Does at hd
  rw[← e] at hd
  obtain⟨y,hy⟩:∃y,doM x o=y:=⟨_,rfl⟩
  unfold stX stA
  unfold OrG.sv OrG.cells at hd
  rw[hy,hk] at hd
  rw[hy]
  simp[go_sem,hk]
  refine callK_ownS [0] hd (Nat.le_refl _) (by simp) rfl ⟨rfl,trivial⟩ ?_
  by_cases he:y.2.e=0
  ·simp[go_sem,he]
   exact⟨hk.symm,[0],⟨rfl,trivial⟩,by simp,λN=>⟨by simp[go_sem,he],by simp[go_sem]⟩⟩
  ·simp[go_sem,he,bad]
   exact⟨hk.symm,[0],⟨rfl,trivial⟩,by simp,λN=>⟨by simp[go_sem],by simp[go_sem]⟩⟩
 ·have hd:=does_rule x o hx ho.b
  have e:doM x o=ruleM x o:=by simp[doM,hk]
  unfold Does at hd
  rw[← e] at hd
  obtain⟨y,hy⟩:∃y,doM x o=y:=⟨_,rfl⟩
  unfold stX stA
  unfold OrG.sv OrG.cells at hd
  rw[hy,hk] at hd
  rw[hy]
  simp[go_sem,hk]
  refine callK_ownS [0] hd (Nat.le_refl _) (by simp) rfl ⟨rfl,trivial⟩ ?_
  by_cases he:y.2.e=0
  ·simp[go_sem,he]
   exact⟨hk.symm,[0],⟨rfl,trivial⟩,by simp,λN=>⟨by simp[go_sem,he],by simp[go_sem]⟩⟩
  ·simp[go_sem,he,bad]
   exact⟨hk.symm,[0],⟨rfl,trivial⟩,by simp,λN=>⟨by simp[go_sem],by simp[go_sem]⟩⟩
 ·have hd:=does_war x o hx
  have e:doM x o=warM x o:=by simp[doM,hk]
  unfold Does at hd
  rw[← e] at hd
  obtain⟨y,hy⟩:∃y,doM x o=y:=⟨_,rfl⟩
  unfold stX stA
  unfold OrG.sv OrG.cells at hd
  rw[hy,hk] at hd
  rw[hy]
  simp[go_sem,hk]
  refine callK_ownS [0] hd (Nat.le_refl _) (by simp) rfl ⟨rfl,trivial⟩ ?_
  by_cases he:y.2.e=0
  ·simp[go_sem,he]
   exact⟨hk.symm,[0],⟨rfl,trivial⟩,by simp,λN=>⟨by simp[go_sem,he],by simp[go_sem]⟩⟩
  ·simp[go_sem,he,bad]
   exact⟨hk.symm,[0],⟨rfl,trivial⟩,by simp,λN=>⟨by simp[go_sem],by simp[go_sem]⟩⟩
 ·have hd:=does_con x o hx
  have e:doM x o=conM x o:=by simp[doM,hk]
  unfold Does at hd
  rw[← e] at hd
  obtain⟨y,hy⟩:∃y,doM x o=y:=⟨_,rfl⟩
  unfold stX stA
  unfold OrG.sv OrG.cells at hd
  rw[hy,hk] at hd
  rw[hy]
  simp[go_sem,hk]
  refine callK_ownS [0] hd (Nat.le_refl _) (by simp) rfl ⟨rfl,trivial⟩ ?_
  by_cases he:y.2.e=0
  ·simp[go_sem,he]
   exact⟨hk.symm,[0],⟨rfl,trivial⟩,by simp,λN=>⟨by simp[go_sem,he],by simp[go_sem]⟩⟩
  ·simp[go_sem,he,bad]
   exact⟨hk.symm,[0],⟨rfl,trivial⟩,by simp,λN=>⟨by simp[go_sem],by simp[go_sem]⟩⟩
 ·have hd:=does_put x o hx
  have e:doM x o=putM x o:=by simp[doM,hk]
  unfold Does at hd
  rw[← e] at hd
  obtain⟨y,hy⟩:∃y,doM x o=y:=⟨_,rfl⟩
  unfold stX stA
  unfold OrG.sv OrG.cells at hd
  rw[hy,hk] at hd
  rw[hy]
  simp[go_sem,hk]
  refine callK_ownS [0] hd (Nat.le_refl _) (by simp) rfl ⟨rfl,trivial⟩ ?_
  by_cases he:y.2.e=0
  ·simp[go_sem,he]
   exact⟨hk.symm,[0],⟨rfl,trivial⟩,by simp,λN=>⟨by simp[go_sem,he],by simp[go_sem]⟩⟩
  ·simp[go_sem,he,bad]
   exact⟨hk.symm,[0],⟨rfl,trivial⟩,by simp,λN=>⟨by simp[go_sem],by simp[go_sem]⟩⟩
 ·have hd:=does_chg x o hx
  have e:doM x o=chgM x o:=by simp[doM,hk]
  unfold Does at hd
  rw[← e] at hd
  obtain⟨y,hy⟩:∃y,doM x o=y:=⟨_,rfl⟩
  unfold stX stA
  unfold OrG.sv OrG.cells at hd
  rw[hy,hk] at hd
  rw[hy]
  simp[go_sem,hk]
  refine callK_ownS [0] hd (Nat.le_refl _) (by simp) rfl ⟨rfl,trivial⟩ ?_
  by_cases he:y.2.e=0
  ·simp[go_sem,he]
   exact⟨hk.symm,[0],⟨rfl,trivial⟩,by simp,λN=>⟨by simp[go_sem,he],by simp[go_sem]⟩⟩
  ·simp[go_sem,he,bad]
   exact⟨hk.symm,[0],⟨rfl,trivial⟩,by simp,λN=>⟨by simp[go_sem],by simp[go_sem]⟩⟩
 ·have hd:=does_syn x o hx hv
  have e:doM x o=synM x o:=by simp[doM,hk]
  unfold Does at hd
  rw[← e] at hd
  obtain⟨y,hy⟩:∃y,doM x o=y:=⟨_,rfl⟩
  unfold stX stA
  unfold OrG.sv OrG.cells at hd
  rw[hy,hk] at hd
  rw[hy]
  simp[go_sem,hk]
  refine callK_ownS [0] hd (Nat.le_refl _) (by simp) rfl ⟨rfl,trivial⟩ ?_
  by_cases he:y.2.e=0
  ·simp[go_sem,he]
   exact⟨hk.symm,[0],⟨rfl,trivial⟩,by simp,λN=>⟨by simp[go_sem,he],by simp[go_sem]⟩⟩
  ·simp[go_sem,he,bad]
   exact⟨hk.symm,[0],⟨rfl,trivial⟩,by simp,λN=>⟨by simp[go_sem],by simp[go_sem]⟩⟩
 ·have hd:=does_ver x o hx hv
  have e:doM x o=verM x o:=by simp[doM,hk]
  unfold Does at hd
  rw[← e] at hd
  obtain⟨y,hy⟩:∃y,doM x o=y:=⟨_,rfl⟩
  unfold stX stA
  unfold OrG.sv OrG.cells at hd
  rw[hy,hk] at hd
  rw[hy]
  simp[go_sem,hk]
  refine callK_ownS [0] hd (Nat.le_refl _) (by simp) rfl ⟨rfl,trivial⟩ ?_
  by_cases he:y.2.e=0
  ·simp[go_sem,he]
   exact⟨hk.symm,[0],⟨rfl,trivial⟩,by simp,λN=>⟨by simp[go_sem,he],by simp[go_sem]⟩⟩
  ·simp[go_sem,he,bad]
   exact⟨hk.symm,[0],⟨rfl,trivial⟩,by simp,λN=>⟨by simp[go_sem],by simp[go_sem]⟩⟩
 ·have hd:=does_find x o hx hv ho.q
  have e:doM x o=fndM' x o:=by simp[doM,hk]
  unfold Does at hd
  rw[← e] at hd
  obtain⟨y,hy⟩:∃y,doM x o=y:=⟨_,rfl⟩
  unfold stX stA
  unfold OrG.sv OrG.cells at hd
  rw[hy,hk] at hd
  rw[hy]
  simp[go_sem,hk]
  refine callK_ownS [0] hd (Nat.le_refl _) (by simp) rfl ⟨rfl,trivial⟩ ?_
  by_cases he:y.2.e=0
  ·simp[go_sem,he]
   exact⟨hk.symm,[0],⟨rfl,trivial⟩,by simp,λN=>⟨by simp[go_sem,he],by simp[go_sem]⟩⟩
  ·simp[go_sem,he,bad]
   exact⟨hk.symm,[0],⟨rfl,trivial⟩,by simp,λN=>⟨by simp[go_sem],by simp[go_sem]⟩⟩
 ·have hd:=does_gat x o hx hv
  have e:doM x o=gatM x o:=by simp[doM,hk]
  unfold Does at hd
  rw[← e] at hd
  obtain⟨y,hy⟩:∃y,doM x o=y:=⟨_,rfl⟩
  unfold stX stA
  unfold OrG.sv OrG.cells at hd
  rw[hy,hk] at hd
  rw[hy]
  simp[go_sem,hk]
  refine callK_ownS [0] hd (Nat.le_refl _) (by simp) rfl ⟨rfl,trivial⟩ ?_
  by_cases he:y.2.e=0
  ·simp[go_sem,he]
   exact⟨hk.symm,[0],⟨rfl,trivial⟩,by simp,λN=>⟨by simp[go_sem,he],by simp[go_sem]⟩⟩
  ·simp[go_sem,he,bad]
   exact⟨hk.symm,[0],⟨rfl,trivial⟩,by simp,λN=>⟨by simp[go_sem],by simp[go_sem]⟩⟩
theorem ordE_in {o:OrG} (h:ordE o=0):1≤o.k∧o.k≤14:=by
 by_cases hk:1≤o.k∧o.k≤14
 ·exact hk
 have e:ordB o=false:=by
  unfold ordB
  rw[if_neg (by omega:¬o.k=1),if_neg (by omega:¬o.k=2),if_neg (by omega:¬o.k=3),if_neg (by omega:¬o.k=4),if_neg (by omega:¬o.k=5),if_neg (by omega:¬o.k=6),if_neg (by omega:¬o.k=7),if_neg (by omega:¬o.k=8),if_neg (by omega:¬o.k=9),if_neg (by omega:¬o.k=10),if_neg (by omega:¬o.k=11),if_neg (by omega:¬o.k=12),if_neg (by omega:¬o.k=13),if_neg (by omega:¬o.k=14)]
 unfold ordE at h
 rw[e] at h
 simp at h
theorem chkE_iff {x:SvG}:x.chkE=0↔x.valid=true:=by
 unfold SvG.chkE SvG.valid
 cases x.setB <;> cases (x.prtB&&x.peoB&&x.timB) <;> simp
def AnG.zero:AnG:=⟨0,0,[]⟩
def stpE (x:SvG) (o:OrG):Int:=if x.chkE=0 then ordE o else x.chkE
structure OrG.Sm (o:OrG):Prop where
 b:o.rl.byte
 q:(o.q.nk:Int)<2 ^ 61
theorem step18 (x:SvG) (o:OrG) (hx:x.OK) (ho:o.Sm):Pure Tryz.prog 18 [x.sv,o.sv] (· =.tup [(if stpE x o=0 then stX x o else SvG.zero).sv,(if stpE x o=0 then stA x o else AnG.zero).sv,.i (stpE x o)]):=by
 refine Pure.ofSub ?_
 refine pure_of_GC T_ok Tryz.func18 rfl (by kernel_rfl) (nb rfl) rfl rfl ?_
 unfold stpE
 simp[go_sem]
 refine call_val (check30s x hx) rfl rfl ?_
 by_cases hc:x.chkE=0
 rotate_left
 ·simp[go_sem,hc,SvG.zero,AnG.zero,EG.zero,Rg.RG.nil]
 simp[go_sem,hc]
 refine call_val (checkOrder34 o ho.q) rfl rfl ?_
 by_cases hoE:ordE o=0
 rotate_left
 ·simp[go_sem,hoE,SvG.zero,AnG.zero,EG.zero,Rg.RG.nil]
 have hk:=ordE_in hoE
 simp[go_sem,hoE]
 refine call_val (copied65 x hx) rfl rfl ?_
 simp[go_sem]
 have hs:=step66 x o hx (chkE_iff.1 hc) ⟨hk.1,hk.2,ho.b,ho.q⟩
 obtain⟨y,hy⟩:∃y,stX x o=y:=⟨_,rfl⟩
 obtain⟨z,hz⟩:∃z,stA x o=z:=⟨_,rfl⟩
 rw[hy,hz] at hs ⊢
 refine callK_ownS [4] hs (Nat.le_refl _) (by simp) rfl ⟨rfl,trivial⟩ ?_
 simp[go_sem]
 refine GDraw_l (t:=(.take 0 (.take 1 (.take 2 (.take 3 (.take 4 (.alt 5 [4,3,2,1,0] (.alt 6 [4] (.take 7 (.done [7])) .nil) .nil))))))) T_ok (by kernel_rfl) (by kernel_rfl) (by kernel_rfl) (λ_ _ _ _ h=>h) ?_
 simp[go_sem]
end Go.Gx.Sr
namespace Go.Gx
open Go.RowKit Go.Proofs Go.Proofs.YtncccnmmjfapnaaGreat
theorem ins_map {α β:Type} (f:α→β) (k:Nat) (v:α) (x:Nat→α):(λi=>f (ins k v x i))=ins k (f v) λi=>f (x i):=by
 funext i
 unfold ins
 split
 ·rfl
 ·split <;> rfl
theorem del_map {α β:Type} (f:α→β) (k:Nat) (x:Nat→α):(λi=>f (del k x i))=del k λi=>f (x i):=by
 funext i
 unfold del
 split <;> rfl
theorem votB_iff {n:Nat} {v:Nat→VtG}:votB n v=true↔(n=1∨n=2)∧(∀i,i<n→0≤(v i).o∧(v i).o≤7)∧(n=2→¬(v 0).o=(v 1).o∧¬(v 0).s=(v 1).s):=by
 simp only [votB,Bool.and_eq_true,Bool.or_eq_true,decide_eq_true_eq,Bool.not_eq_true',decide_eq_false_iff_not,List.all_eq_true,List.mem_range,btw]
 constructor
 ·rintro⟨⟨⟨h1,h2⟩,h3⟩,h4⟩
  refine⟨by omega,h3,λe=>?_⟩
  rcases h4 with h4 | h4
  ·omega
  ·exact h4
 ·rintro⟨h1,h3,h4⟩
  refine⟨⟨⟨by omega,by omega⟩,h3⟩,?_⟩
  rcases h1 with h1 | h1
  ·exact .inl h1
  ·exact .inr (h4 h1)
theorem adj_addL {g:EG} {k:Nat} {p q:Int} {s:Bool} (hk:k≤g.nl) {x y:Int}:(g.addL k ⟨p,q,s⟩).adj (g.nl+1) x y↔g.adj g.nl x y∨s=true∧(p=x∧q=y∨q=x∧p=y):=by
 constructor
 ·rintro⟨j,h1,h2,h3⟩
  simp only [EG.addL] at h2 h3
  by_cases a1:j<k
  ·rw[if_pos a1] at h2 h3
   exact .inl ⟨j,by omega,h2,h3⟩
  by_cases a2:j=k
  ·rw[if_neg a1,if_pos a2] at h2 h3
   exact .inr ⟨h2,h3⟩
  ·rw[if_neg a1,if_neg a2] at h2 h3
   exact .inl ⟨j - 1,by omega,h2,h3⟩
 ·rintro(⟨j,h1,h2,h3⟩ | ⟨h2,h3⟩)
  ·by_cases a1:j<k
   ·refine⟨j,by omega,?_,?_⟩ <;> simp only [EG.addL,if_pos a1]
    ·exact h2
    ·exact h3
   ·refine⟨j+1,by omega,?_,?_⟩ <;> simp only [EG.addL,if_neg (show ¬j+1<k by omega),if_neg (show ¬j+1=k by omega),Nat.add_sub_cancel]
    ·exact h2
    ·exact h3
  ·refine⟨k,by omega,?_,?_⟩ <;> simp only [EG.addL,if_neg (Nat.lt_irrefl k),if_true]
   ·exact h2
   ·exact h3
theorem con_addL {g:EG} {k:Nat} {p q:Int} {s:Bool} (hk:k≤g.nl) {x y:Int} :
 (g.addL k ⟨p,q,s⟩).Con (g.nl+1) x y↔g.Con g.nl x y∨s=true∧(g.Con g.nl x p∧g.Con g.nl q y∨g.Con g.nl x q∧g.Con g.nl p y):=by
 constructor
 ·intro h
  induction h with
  | refl=>exact .inl (.refl _)
  | step _ a ih=>
    rcases(adj_addL hk).1 a with a | ⟨hs,a⟩
    ·rcases ih with ih | ⟨hs,⟨i1,i2⟩ | ⟨i1,i2⟩⟩
     ·exact .inl (.step ih a)
     ·exact .inr ⟨hs,.inl ⟨i1,.step i2 a⟩⟩
     ·exact .inr ⟨hs,.inr ⟨i1,.step i2 a⟩⟩
    ·rcases a with ⟨rfl,rfl⟩ | ⟨rfl,rfl⟩
     ·rcases ih with ih | ⟨_,⟨i1,i2⟩ | ⟨i1,i2⟩⟩
      ·exact .inr ⟨hs,.inl ⟨ih,.refl _⟩⟩
      ·exact .inr ⟨hs,.inl ⟨i1,.refl _⟩⟩
      ·exact .inl i1
     ·rcases ih with ih | ⟨_,⟨i1,i2⟩ | ⟨i1,i2⟩⟩
      ·exact .inr ⟨hs,.inr ⟨ih,.refl _⟩⟩
      ·exact .inl i1
      ·exact .inr ⟨hs,.inr ⟨i1,.refl _⟩⟩
 ·have up:∀{x y},g.Con g.nl x y→(g.addL k ⟨p,q,s⟩).Con (g.nl+1) x y:=λh=>h.map λx y a=>(adj_addL hk).2 (.inl a)
  rintro(h | ⟨hs,⟨h1,h2⟩ | ⟨h1,h2⟩⟩)
  ·exact up h
  ·exact(EG.Con.step (up h1) ((adj_addL hk).2 (.inr ⟨hs,.inl ⟨rfl,rfl⟩⟩))).trans (up h2)
  ·exact(EG.Con.step (up h1) ((adj_addL hk).2 (.inr ⟨hs,.inr ⟨rfl,rfl⟩⟩))).trans (up h2)
theorem con_same {g h:EG} (hl:g.l=h.l) {n:Nat} {x y:Int}:g.Con n x y↔h.Con n x y:=
 ⟨λk=>k.map λx y ⟨j,a⟩=>⟨j,by rw[← hl];exact a⟩,λk=>k.map λx y ⟨j,a⟩=>⟨j,by rw[hl];exact a⟩⟩
theorem con_dropL {g:EG} {k:Nat} {x y:Int} (h:(g.dropL k).Con (g.nl - 1) x y):g.Con g.nl x y:=
 h.map λx y ⟨j,h1,h2,h3⟩=>by
  simp only [EG.dropL] at h2 h3
  by_cases a1:j<k
  ·rw[if_pos a1] at h2 h3;exact⟨j,by omega,h2,h3⟩
  ·rw[if_neg a1] at h2 h3;exact⟨j+1,by omega,h2,h3⟩
theorem EG.voteE_zero {g:EG} {o a b:Int} {s:Bool} (h:g.voteE o a b s=0):g.valid=true∧(0≤o∧o≤7)∧¬a=b∧g.th a=true∧g.th b=true∧g.lin (min a b) (max a b)=false∧
 (g.cin (min a b) (max a b)=false∧¬g.nc=40∨g.cin (min a b) (max a b)=true∧(g.c (g.cat (min a b) (max a b))).has o=false∧
   ((g.c (g.cat (min a b) (max a b))).says s=false∨(g.c (g.cat (min a b) (max a b))).says s=true∧g.clash (min a b) (max a b) s=false)):=by
 unfold EG.voteE at h
 split at h
 ·cases h
 rename_i h1
 split at h
 ·cases h
 rename_i h2
 split at h
 ·cases h
 rename_i h3
 split at h
 ·cases h
 rename_i h4
 have h3a:¬a=b:=λe=>h3 (.inl e)
 have h3b:g.th a=true:=by
  cases e:g.th a with
  | true=>rfl
  | false=>exact absurd (.inr (.inl e)) h3
 have h3c:g.th b=true:=by
  cases e:g.th b with
  | true=>rfl
  | false=>exact absurd (.inr (.inr e)) h3
 have h2:0≤o∧o≤7:=by omega
 refine⟨by simpa using h1,h2,h3a,h3b,h3c,by simpa using h4,?_⟩
 split at h
 ·rename_i h5
  split at h
  ·cases h
  ·rename_i h6;exact .inl ⟨h5,h6⟩
 rename_i h5
 split at h
 ·cases h
 rename_i h6
 refine .inr ⟨by simpa using h5,by simpa using h6,?_⟩
 split at h
 ·rename_i h7;exact .inl h7
 rename_i h7
 split at h
 ·cases h
 rename_i h8
 exact .inr ⟨by simpa using h7,by simpa using h8⟩
theorem EG.ap_no {g:EG} {p q:Int} (h:¬0≤g.ap p q):∀j,j<g.nl→(g.l j).s=false→¬(min (g.q (g.l j).a) (g.q (g.l j).b)=min (g.q p) (g.q q)∧max (g.q (g.l j).a) (g.q (g.l j).b)=max (g.q p) (g.q q)):=λj hj hs he=>by
 unfold EG.ap at h
 rcases ixB_cases (g.apB p q) g.nl with ⟨_,h2⟩ | ⟨i,_,_,_,h2⟩
 ·have:=h2 j hj
  simp[EG.apB,hs,he.1,he.2] at this
 ·rw[h2] at h;omega
theorem th_min' {g:EG} {a b:Int} (ha:g.th a=true) (hb:g.th b=true):g.th (min a b)=true∧g.th (max a b)=true:=by
 rcases Int.le_total a b with h | h
 ·rw[Int.min_eq_left h,Int.max_eq_right h];exact⟨ha,hb⟩
 ·rw[Int.min_eq_right h,Int.max_eq_left h];exact⟨hb,ha⟩
theorem EG.Val.addC {g:EG} (h:g.Val) {p q:Int} (hp:g.th p=true) (hq:g.th q=true) (hpq:p<q) (hl:g.lin p q=false) (hc:g.cin p q=false) (hn:g.nc<40) {nv:Nat} {v:Nat→VtG} (hv:votB nv v=true) :
 (g.addC (g.cat p q) ⟨p,q,nv,v⟩).Val:=by
 have hb:=bnd_new h.cs hc
 have hk:g.cat p q≤g.nc:=g.cat_le p q
 have e1:(λi=>((g.addC (g.cat p q) ⟨p,q,nv,v⟩).c i).a)=ins (g.cat p q) p λi=>(g.c i).a:=ins_map CsG.a _ _ _
 have e2:(λi=>((g.addC (g.cat p q) ⟨p,q,nv,v⟩).c i).b)=ins (g.cat p q) q λi=>(g.c i).b:=ins_map CsG.b _ _ _
 have el:∀(Q:CsG→Prop),Q ⟨p,q,nv,v⟩→(∀i,i<g.nc→Q (g.c i))→∀i,i<g.nc+1→Q ((g.addC (g.cat p q) ⟨p,q,nv,v⟩).c i):=λQ h0 h1 i hi=>by
  simp only [EG.addC]
  split
  ·exact h1 i (by omega)
  ·split
   ·exact h0
   ·exact h1 (i - 1) (by omega)
 refine⟨h.nr,hn,h.qu,h.ls,h.lp,?_,el (λc=>g.th c.a=true∧g.th c.b=true∧c.a<c.b) ⟨hp,hq,hpq⟩ h.cp,λi j hi hj=>?_,el (λc=>votB c.nv c.v=true) hv h.cv,λi hi hs hcn=>h.ld i hi hs ((con_same (g:=g.addC (g.cat p q) ⟨p,q,nv,v⟩) (h:=g) rfl).1 hcn)⟩
 ·rw[e1,e2];exact srtd_ins h.cs hk hb.1 hb.2
 ·refine el (λc=>¬((g.l j).a=c.a∧(g.l j).b=c.b)) (λhe=>?_) (λi hi=>h.cl i j hi hj) i hi
  have:g.lin p q=true:=(fnd_iff (x:=λi=>(g.l i).a) (y:=λi=>(g.l i).b) h.ls).2 ⟨j,hj,he.1,he.2⟩
  rw[hl] at this;cases this
theorem EG.Val.addV {g:EG} (h:g.Val) {k:Nat} (hk:k<g.nc) {o:Int} {s:Bool} (ho:0≤o∧o≤7) (hh:(g.c k).has o=false) (hs:(g.c k).says s=false):(g.addV k ⟨o,s⟩).Val:=by
 have ea:∀i,((g.addV k ⟨o,s⟩).c i).a=(g.c i).a:=λi=>by
  simp only [EG.addV]
  split
  ·rename_i e;rw[e];rfl
  ·rfl
 have eb:∀i,((g.addV k ⟨o,s⟩).c i).b=(g.c i).b:=λi=>by
  simp only [EG.addV]
  split
  ·rename_i e;rw[e];rfl
  ·rfl
 refine⟨h.nr,h.nc,h.qu,h.ls,h.lp,?_,λi hi=>?_,λi j hi hj=>?_,λi hi=>?_,λi hi hs hcn=>h.ld i hi hs ((con_same (g:=g.addV k ⟨o,s⟩) (h:=g) rfl).1 hcn)⟩
 ·simp only [ea,eb];exact h.cs
 ·rw[ea,eb];exact h.cp i hi
 ·rw[ea,eb];exact h.cl i j hi hj
 ·by_cases e:i=k
  ·subst e
   have hv:=votB_iff.1 (h.cv i hi)
   have hno:∀j,j<(g.c i).nv→¬((g.c i).v j).o=o:=λj hj=>by
    have:=List.any_eq_false.1 hh j (List.mem_range.2 hj);simpa using this
   have hns:∀j,j<(g.c i).nv→¬((g.c i).v j).s=s:=λj hj=>by
    have:=List.any_eq_false.1 hs j (List.mem_range.2 hj);simpa using this
   have h1:(g.c i).nv=1:=by
    rcases hv.1 with h1 | h1
    ·exact h1
    ·exfalso
     have d:=(hv.2.2 h1).2
     have d0:=hns 0 (by omega)
     have d1:=hns 1 (by omega)
     cases hx:((g.c i).v 0).s <;> cases hy:((g.c i).v 1).s <;> cases s <;> simp[hx,hy] at d d0 d1
   simp only [EG.addV,if_true]
   refine votB_iff.2 ⟨.inr (by simp only [CsG.addV];omega),λj hj=>?_,λ_=>?_⟩
   ·simp only [CsG.addV] at hj ⊢
    split
    ·exact hv.2.1 j (by assumption)
    ·exact ho
   ·simp only [CsG.addV,h1]
    exact⟨hno 0 (by omega),hns 0 (by omega)⟩
  ·simp only [EG.addV,if_neg e];exact h.cv i hi
theorem EG.Val.dropC {g:EG} (h:g.Val) (k:Nat):(g.dropC k).Val:=by
 have el:∀(Q:CsG→Prop),(∀i,i<g.nc→Q (g.c i))→∀i,i<g.nc - 1→Q ((g.dropC k).c i):=λQ h1 i hi=>by
  simp only [EG.dropC]
  split
  ·exact h1 i (by omega)
  ·exact h1 (i+1) (by omega)
 have e1:(λi=>((g.dropC k).c i).a)=del k λi=>(g.c i).a:=del_map CsG.a _ _
 have e2:(λi=>((g.dropC k).c i).b)=del k λi=>(g.c i).b:=del_map CsG.b _ _
 have hn:=h.nc
 refine⟨h.nr,by show g.nc - 1≤40;omega,h.qu,h.ls,h.lp,?_,el (λc=>g.th c.a=true∧g.th c.b=true∧c.a<c.b) h.cp,λi j hi hj=>el (λc=>¬((g.l j).a=c.a∧(g.l j).b=c.b)) (λi hi=>h.cl i j hi hj) i hi,
  el (λc=>votB c.nv c.v=true) h.cv,λi hi hs hcn=>h.ld i hi hs ((con_same (g:=g.dropC k) (h:=g) rfl).1 hcn)⟩
 rw[e1,e2];exact srtd_del h.cs
theorem EG.Val.addL {g:EG} (h:g.Val) {p q:Int} {s:Bool} (hp:g.th p=true) (hq:g.th q=true) (hpq:p<q) (hl:g.lin p q=false) (hc:∀i,i<g.nc→¬((g.c i).a=p∧(g.c i).b=q)) (hx:g.clash p q s=false) :
 (g.addL (g.lat p q) ⟨p,q,s⟩).Val:=by
 have hb:=bnd_new h.ls hl
 have hk:g.lat p q≤g.nl:=g.lat_le p q
 have e1:(λi=>((g.addL (g.lat p q) ⟨p,q,s⟩).l i).a)=ins (g.lat p q) p λi=>(g.l i).a:=ins_map LkG.a _ _ _
 have e2:(λi=>((g.addL (g.lat p q) ⟨p,q,s⟩).l i).b)=ins (g.lat p q) q λi=>(g.l i).b:=ins_map LkG.b _ _ _
 have el:∀(Q:LkG→Prop),Q ⟨p,q,s⟩→(∀i,i<g.nl→Q (g.l i))→∀i,i<g.nl+1→Q ((g.addL (g.lat p q) ⟨p,q,s⟩).l i):=λQ h0 h1 i hi=>by
  simp only [EG.addL]
  split
  ·exact h1 i (by omega)
  ·split
   ·exact h0
   ·exact h1 (i - 1) (by omega)
 refine⟨h.nr,h.nc,h.qu,?_,el (λl=>g.th l.a=true∧g.th l.b=true∧l.a<l.b) ⟨hp,hq,hpq⟩ h.lp,h.cs,h.cp,
  λi j hi hj=>el (λl=>¬(l.a=(g.c i).a∧l.b=(g.c i).b)) (λhe=>hc i hi ⟨he.1.symm,he.2.symm⟩) (λj hj=>h.cl i j hi hj) j hj,h.cv,?_⟩
 ·rw[e1,e2];exact srtd_ins h.ls hk hb.1 hb.2
 ·refine el (λl=>l.s=false→¬(g.addL (g.lat p q) ⟨p,q,s⟩).Con (g.nl+1) l.a l.b) (λhs hcn=>?_) (λi hi hs hcn=>?_)
  ·rcases(con_addL hk).1 hcn with h1 | ⟨h1,_⟩
   ·have hs:s=false:=hs
    subst hs
    simp only [EG.clash] at hx
    simp at hx
    exact hx (EG.con_iff.1 h1)
   ·have hs:s=false:=hs
    rw[hs] at h1;cases h1
  ·rcases(con_addL hk).1 hcn with h1 | ⟨h1,h2⟩
   ·exact h.ld i hi hs h1
   ·subst h1
    simp only [EG.clash,if_true,decide_eq_false_iff_not] at hx
    have:=EG.ap_no hx i hi hs
    rcases h2 with ⟨c1,c2⟩ | ⟨c1,c2⟩
    ·have c1:=EG.con_iff.1 c1
     have c2:=EG.con_iff.1 c2
     apply this
     show min (g.pm g.nl _) (g.pm g.nl _)=min (g.pm g.nl _) (g.pm g.nl _)∧max (g.pm g.nl _) (g.pm g.nl _)=max (g.pm g.nl _) (g.pm g.nl _)
     rw[c1,← c2]
     exact⟨rfl,rfl⟩
    ·have c1:=EG.con_iff.1 c1
     have c2:=EG.con_iff.1 c2
     apply this
     show min (g.pm g.nl _) (g.pm g.nl _)=min (g.pm g.nl _) (g.pm g.nl _)∧max (g.pm g.nl _) (g.pm g.nl _)=max (g.pm g.nl _) (g.pm g.nl _)
     rw[c1,← c2]
     exact⟨Int.min_comm _ _,Int.max_comm _ _⟩
theorem EG.clash_dropC (g:EG) (k:Nat) (p q:Int) (s:Bool):(g.dropC k).clash p q s=g.clash p q s:=by
 have hpm:∀n x,(g.dropC k).pm n x=g.pm n x:=λn=>by
  induction n with
  | zero=>intro x;rfl
  | succ n ih=>intro x;simp only [EG.pm,ih];rfl
 have hap:(g.dropC k).ap p q=g.ap p q:=by
  unfold EG.ap
  refine ixB_congr λi _=>?_
  unfold EG.apB EG.q
  simp only [hpm]
  rfl
 unfold EG.clash
 rw[hap]
 unfold EG.q
 simp only [hpm]
 rfl
theorem EG.Val.vote {g:EG} {o a b:Int} {s:Bool} (h:g.voteE o a b s=0):(g.voteG o a b s).Val:=by
 obtain⟨h1,h2,h3,h4,h5,h6,h7⟩:=EG.voteE_zero h
 have hv:=EG.val_iff.1 h1
 obtain⟨t1,t2⟩:=th_min' h4 h5
 have hlt:min a b<max a b:=by omega
 unfold EG.voteG
 rcases h7 with ⟨c1,c2⟩ | ⟨c1,c2,c3 | ⟨c3,c4⟩⟩
 ·rw[if_pos c1]
  have:=hv.nc
  exact hv.addC t1 t2 hlt h6 c1 (by omega) (votB_iff.2 ⟨.inl rfl,λ_ _=>h2,λe=>by cases e⟩)
 ·rw[if_neg (by rw[c1];simp),if_pos c3]
  exact hv.addV (EG.cin_lt c1) h2 c2 c3
 ·rw[if_neg (by rw[c1];simp),if_neg (by rw[c3];simp)]
  have hcos:=EG.valid_cos h1
  refine(hv.dropC _).addL (g:=g.dropC (g.cat (min a b) (max a b))) t1 t2 hlt h6 (λi hi he=>?_) (by rw[EG.clash_dropC];exact c4)
  have hi:i<g.nc - 1:=hi
  simp only [EG.dropC] at he
  split at he
  ·rename_i hlt2
   have:=EG.cat_at hcos (show i<g.nc by omega)
   rw[he.1,he.2] at this
   omega
  ·rename_i hlt2
   have:=EG.cat_at hcos (show i+1<g.nc by omega)
   rw[he.1,he.2] at this
   omega
theorem EG.Val.dropL {g:EG} (h:g.Val) (k:Nat):(g.dropL k).Val:=by
 have el:∀(Q:LkG→Prop),(∀i,i<g.nl→Q (g.l i))→∀i,i<g.nl - 1→Q ((g.dropL k).l i):=λQ h1 i hi=>by
  simp only [EG.dropL]
  split
  ·exact h1 i (by omega)
  ·exact h1 (i+1) (by omega)
 have e1:(λi=>((g.dropL k).l i).a)=del k λi=>(g.l i).a:=del_map LkG.a _ _
 have e2:(λi=>((g.dropL k).l i).b)=del k λi=>(g.l i).b:=del_map LkG.b _ _
 refine⟨h.nr,h.nc,h.qu,?_,el (λl=>g.th l.a=true∧g.th l.b=true∧l.a<l.b) h.lp,h.cs,h.cp,λi j hi hj=>el (λl=>¬(l.a=(g.c i).a∧l.b=(g.c i).b)) (λj hj=>h.cl i j hi hj) j hj,h.cv,
  el (λl=>l.s=false→¬(g.dropL k).Con (g.nl - 1) l.a l.b) λi hi hs hc=>h.ld i hi hs (con_dropL hc)⟩
 rw[e1,e2];exact srtd_del h.ls
theorem EG.vote_nr (g:EG) (o a b:Int) (s:Bool):(g.voteG o a b s).nr=g.nr∧(g.voteG o a b s).r=g.r:=by
 unfold EG.voteG
 split
 ·exact⟨rfl,rfl⟩
 ·split <;> exact⟨rfl,rfl⟩
end Go.Gx
namespace Go.Gx.Rg
open Go.RowKit Go.Proofs Go.Proofs.YtncccnmmjfapnaaGreat
theorem lex_gt {a b c d:Int}:0<lex (cmpI a c) (cmpI b d)↔c<a∨a=c∧d<b:=by unfold lex cmpI;repeat' split <;> omega
theorem bnd_lo {c:Nat→Int} {n j:Nat} (h:j<bnd c n):c j<0:=by
 unfold bnd at h
 cases hf:(List.range n).find? λi=>decide (0≤c i) with
 | none=>
   rw[hf] at h
   have:=List.find?_eq_none.1 hf j (List.mem_range.2 (by simpa using h))
   simpa using this
 | some i=>
   rw[hf] at h
   have:=(List.find?_range_eq_some.1 hf).2.2 j (by simpa using h)
   simpa using this
theorem bnd_hi {c:Nat→Int} {n j:Nat} (hm:∀a b,a<b→b<n→c b<0→c a<0) (h:bnd c n≤j) (hj:j<n):0≤c j:=by
 unfold bnd at h
 cases hf:(List.range n).find? λi=>decide (0≤c i) with
 | none=>
   rw[hf] at h
   simp at h;omega
 | some i=>
   rw[hf] at h
   have h1:0≤c i:=by simpa using (List.find?_range_eq_some.1 hf).1
   have h2:i≤j:=by simpa using h
   rcases Nat.lt_or_ge i j with h3 | h3
   ·rcases Int.lt_or_le (c j) 0 with h4 | h4
    ·have:=hm i j h3 hj h4;omega
    ·exact h4
   ·have:j=i:=by omega
    subst this;exact h1
theorem bnd_pos {c:Nat→Int} {n:Nat} (hm:∀a b,a<b→b<n→c b<0→c a<0) (hs:∀a b,a<b→b<n→0≤c a→0<c b) {j:Nat} (hj:j<n) :
 (j<bnd c n∧c j<0)∨(j=bnd c n∧fnd c n=true∧c j=0)∨(bnd c n≤j∧(fnd c n=true→bnd c n<j)∧0<c j):=by
 rcases Nat.lt_or_ge j (bnd c n) with h | h
 ·exact .inl ⟨h,bnd_lo h⟩
 right
 have h0:=bnd_hi hm h hj
 rcases Nat.lt_or_ge (bnd c n) j with h1 | h1
 ·exact .inr ⟨h,λ_=>h1,hs _ j h1 hj (bnd_hi hm (Nat.le_refl _) (by omega))⟩
 ·have h2:j=bnd c n:=by omega
  by_cases h3:c j=0
  ·exact .inl ⟨h2,by simp[fnd,← h2,hj,h3],h3⟩
  ·exact .inr ⟨h,λhf=>by simp[fnd,← h2,h3] at hf,by omega⟩
theorem fnd_at {c:Nat→Int} {n:Nat} (h:fnd c n=true):bnd c n<n∧c (bnd c n)=0:=by simpa [fnd] using h
theorem pl_cases {α:Type} {c:Nat→Int} {n:Nat} {y:Nat→α} {x:α} (hm:∀a b,a<b→b<n→c b<0→c a<0) (hs:∀a b,a<b→b<n→0≤c a→0<c b) {r:Nat} (hr:r<plN (fnd c n) n) :
 (r<bnd c n∧r<n∧plF (fnd c n) (bnd c n) y x r=y r∧c r<0)∨(r=bnd c n∧plF (fnd c n) (bnd c n) y x r=x)∨
 (bnd c n<r∧∃s,s=(if fnd c n=true then r else r - 1)∧s<n∧plF (fnd c n) (bnd c n) y x r=y s∧0<c s):=by
 have hb:bnd c n≤n:=bnd_le
 unfold plN at hr
 rcases Nat.lt_trichotomy r (bnd c n) with h | h | h
 ·exact .inl ⟨h,by omega,if_pos h,bnd_lo h⟩
 ·exact .inr (.inl ⟨h,by rw[plF,if_neg (by omega),if_pos h]⟩)
 ·refine .inr (.inr ⟨h,_,rfl,?_,by rw[plF,if_neg (by omega),if_neg (by omega)],?_⟩)
  ·split at hr
   ·rename_i hf;rw[if_pos hf];exact hr
   ·rename_i hf;rw[if_neg hf];omega
  ·have hsn:(if fnd c n=true then r else r - 1)<n:=by
    split at hr
    ·rename_i hf;rw[if_pos hf];exact hr
    ·rename_i hf;rw[if_neg hf];omega
   rcases bnd_pos hm hs hsn with ⟨h1,_⟩ | ⟨h1,h2,_⟩ | ⟨_,_,h3⟩
   ·exfalso
    split at h1 <;> omega
   ·exfalso
    rw[if_pos h2] at h1;omega
   ·exact h3
theorem pl_at {α:Type} {c:Nat→Int} {n:Nat} {y:Nat→α} {x:α}:bnd c n<plN (fnd c n) n∧plF (fnd c n) (bnd c n) y x (bnd c n)=x:=by
 refine⟨?_,by rw[plF,if_neg (by omega),if_pos rfl]⟩
 have hb:bnd c n≤n:=bnd_le
 unfold plN
 split
 ·rename_i hf;exact(fnd_at hf).1
 ·omega
theorem pl_in {α:Type} {c:Nat→Int} {n:Nat} {y:Nat→α} {x a:α} (hm:∀a b,a<b→b<n→c b<0→c a<0) (hs:∀a b,a<b→b<n→0≤c a→0<c b) :
 (∃r,r<plN (fnd c n) n∧plF (fnd c n) (bnd c n) y x r=a)↔a=x∨∃j,j<n∧y j=a∧c j≠0:=by
 constructor
 ·rintro⟨r,hr,rfl⟩
  rcases pl_cases (y:=y) (x:=x) hm hs hr with ⟨_,h1,h2,h3⟩ | ⟨_,h2⟩ | ⟨_,s,_,h1,h2,h3⟩
  ·exact .inr ⟨r,h1,h2.symm,by omega⟩
  ·exact .inl h2
  ·exact .inr ⟨s,h1,h2.symm,by omega⟩
 ·rintro(rfl | ⟨j,hj,rfl,h0⟩)
  ·exact⟨_,(pl_at (y:=y) (x:=a)).1,pl_at.2⟩
  ·rcases bnd_pos hm hs hj with ⟨h1,_⟩ | ⟨_,_,h2⟩ | ⟨h1,h2,_⟩
   ·refine⟨j,?_,if_pos h1⟩
    unfold plN;split <;> omega
   ·exact absurd h2 h0
   ·by_cases hf:fnd c n=true
    ·have:=h2 hf
     refine⟨j,by unfold plN;rw[if_pos hf];exact hj,?_⟩
     rw[plF,if_neg (by omega),if_neg (by omega),if_pos hf]
    ·refine⟨j+1,by unfold plN;rw[if_neg hf];omega,?_⟩
     rw[plF,if_neg (by omega),if_neg (by omega),if_neg hf]
     rfl
section
variable {g:RG} {x:ConG}
theorem RG.cmC_st {g:RG} (h:g.c5=true) (l p:Int):∀a b,a<b→b<g.nc→0≤g.cmC l p a→0<g.cmC l p b:=by
 intro a b hab hb hc
 have:=RG.sortC h hab hb
 have h1:¬g.cmC l p a<0:=by omega
 simp only [RG.cmC,lex_lt,lex_gt,ConG.ltP] at *
 omega
theorem RG.cmC_ne {l p:Int} {j:Nat}:g.cmC l p j≠0↔¬((g.c j).p=l∧(g.c j).q=p):=not_congr lex_eq
theorem RG.putC_in (h:g.valid=true) {a:ConG}:(g.putC x).InC a↔a=x∨g.InC a∧¬(a.p=x.p∧a.q=x.q):=by
 have h1:=pl_in (y:=g.c) (x:=x) (a:=a) (RG.cmC_mono (RG.v5 h) x.p x.q) (RG.cmC_st (RG.v5 h) x.p x.q)
 refine h1.trans (or_congr Iff.rfl ⟨?_,?_⟩)
 ·rintro⟨j,hj,rfl,h0⟩
  exact⟨⟨j,hj,rfl⟩,RG.cmC_ne.1 h0⟩
 ·rintro⟨⟨j,hj,rfl⟩,h0⟩
  exact⟨j,hj,rfl,RG.cmC_ne.2 h0⟩
theorem RG.putC_E (he:g.cnE x=0):g.valid=true∧x.good=true∧(fnd (g.cmC x.p x.q) g.nc=true∨g.nc<40):=by
 unfold RG.cnE at he
 by_cases h1:g.valid=true
 ·rw[if_pos h1] at he
  by_cases h2:x.good=true
  ·rw[if_pos h2] at he
   split at he
   ·rename_i h3
    have h4:fnd (g.cmC x.p x.q) g.nc=true∨(g.nc:Int)<40:=by simpa using h3
    exact⟨h1,h2,h4.imp id λh=>by omega⟩
   ·omega
  ·rw[if_neg h2] at he;omega
 ·rw[if_neg h1] at he;omega
theorem RG.putC_sort (h:g.valid=true) {i:Nat} (hi:i+1<(g.putC x).nc):((g.putC x).c i).ltP ((g.putC x).c (i+1)):=by
 have hm:=RG.cmC_mono (RG.v5 h) x.p x.q
 have hs:=RG.cmC_st (RG.v5 h) x.p x.q
 have sx:∀{j:Nat},g.cmC x.p x.q j<0→(g.c j).ltP x:=λh=>lex_lt.1 h
 have xs:∀{j:Nat},0<g.cmC x.p x.q j→ConG.ltP x (g.c j):=λh=>by
  have:=lex_gt.1 h
  unfold ConG.ltP;omega
 have hi':i+1<plN (fnd (g.cmC x.p x.q) g.nc) g.nc:=hi
 rcases pl_cases (y:=g.c) (x:=x) hm hs (show i<plN (fnd (g.cmC x.p x.q) g.nc) g.nc by omega) with ⟨h1,h2,h3,h4⟩ | ⟨h1,h2⟩ | ⟨h1,s,h2,h3,h4,h5⟩ <;>
 rcases pl_cases (y:=g.c) (x:=x) hm hs hi' with ⟨k1,k2,k3,k4⟩ | ⟨k1,k2⟩ | ⟨k1,u,k2,k3,k4,k5⟩
 ·show ConG.ltP (plF _ _ _ _ i) (plF _ _ _ _ (i+1))
  rw[h3,k3];exact RG.sortC (RG.v5 h) (by omega) k2
 ·show ConG.ltP (plF _ _ _ _ i) (plF _ _ _ _ (i+1))
  rw[h3,k2];exact sx h4
 ·omega
 ·omega
 ·omega
 ·show ConG.ltP (plF _ _ _ _ i) (plF _ _ _ _ (i+1))
  rw[h2,k4];exact xs k5
 ·omega
 ·omega
 ·show ConG.ltP (plF _ _ _ _ i) (plF _ _ _ _ (i+1))
  rw[h4,k4]
  refine RG.sortC (RG.v5 h) ?_ k3
  subst h2;subst k2
  split <;> omega
theorem RG.putC_n (he:g.cnE x=0):(g.putC x).nc≤40:=by
 obtain⟨h1,h2,h3⟩:=RG.putC_E he
 have hl:=RG.lim h1
 show plN _ _≤_
 unfold plN
 split
 ·omega
 ·rename_i hf
  rcases h3 with h3 | h3
  ·exact absurd h3 hf
  ·omega
theorem RG.putC_valid (he:g.cnE x=0):(g.putC x).valid=true:=by
 obtain⟨h,h2,h3⟩:=RG.putC_E he
 have hl:=RG.lim h
 have hn:=RG.putC_n he
 have hgood:∀a,(g.putC x).InC a→a.good=true:=λa ha=>by
  rcases(RG.putC_in h).1 ha with rfl | ⟨h1,_⟩
  ·exact h2
  ·exact RG.goodC h h1
 exact RG.valid_of hl.1 hn hl.2.2.1 hl.2.2.2 (λa ha=>RG.goodR h ha) hgood (λa ha=>RG.goodW h ha) (λa ha=>RG.goodM h ha) (λi hi=>RG.putC_sort h hi) (λi hi=>RG.sortM (RG.v6 h) (by omega) hi)
end
section
variable {g:RG} {x:MarkG}
theorem RG.cm_st {g:RG} (h:g.c6=true) (l p:Int):∀a b,a<b→b<g.nm→0≤g.cm l p a→0<g.cm l p b:=by
 intro a b hab hb hc
 have:=RG.sortM h hab hb
 have h1:¬g.cm l p a<0:=by omega
 simp only [RG.cm,lex_lt,lex_gt,MarkG.ltP] at *
 omega
theorem RG.cm_ne {l p:Int} {j:Nat}:g.cm l p j≠0↔¬((g.m j).l=l∧(g.m j).p=p):=not_congr lex_eq
theorem RG.putM_in (h:g.valid=true) {a:MarkG}:(g.putM x).InM a↔a=x∨g.InM a∧¬(a.l=x.l∧a.p=x.p):=by
 have h1:=pl_in (y:=g.m) (x:=x) (a:=a) (RG.cm_mono (RG.v6 h) x.l x.p) (RG.cm_st (RG.v6 h) x.l x.p)
 refine h1.trans (or_congr Iff.rfl ⟨?_,?_⟩)
 ·rintro⟨j,hj,rfl,h0⟩
  exact⟨⟨j,hj,rfl⟩,RG.cm_ne.1 h0⟩
 ·rintro⟨⟨j,hj,rfl⟩,h0⟩
  exact⟨j,hj,rfl,RG.cm_ne.2 h0⟩
theorem RG.putM_E (he:g.mkE x=0):g.valid=true∧x.good=true∧(fnd (g.cm x.l x.p) g.nm=true∨g.nm<40):=by
 unfold RG.mkE at he
 by_cases h1:g.valid=true
 ·rw[if_pos h1] at he
  by_cases h2:x.good=true
  ·rw[if_pos h2] at he
   split at he
   ·rename_i h3
    have h4:fnd (g.cm x.l x.p) g.nm=true∨(g.nm:Int)<40:=by simpa using h3
    exact⟨h1,h2,h4.imp id λh=>by omega⟩
   ·omega
  ·rw[if_neg h2] at he;omega
 ·rw[if_neg h1] at he;omega
theorem RG.putM_sort (h:g.valid=true) {i:Nat} (hi:i+1<(g.putM x).nm):((g.putM x).m i).ltP ((g.putM x).m (i+1)):=by
 have hm:=RG.cm_mono (RG.v6 h) x.l x.p
 have hs:=RG.cm_st (RG.v6 h) x.l x.p
 have sx:∀{j:Nat},g.cm x.l x.p j<0→(g.m j).ltP x:=λh=>lex_lt.1 h
 have xs:∀{j:Nat},0<g.cm x.l x.p j→MarkG.ltP x (g.m j):=λh=>by
  have:=lex_gt.1 h
  unfold MarkG.ltP;omega
 have hi':i+1<plN (fnd (g.cm x.l x.p) g.nm) g.nm:=hi
 rcases pl_cases (y:=g.m) (x:=x) hm hs (show i<plN (fnd (g.cm x.l x.p) g.nm) g.nm by omega) with ⟨h1,h2,h3,h4⟩ | ⟨h1,h2⟩ | ⟨h1,s,h2,h3,h4,h5⟩ <;>
 rcases pl_cases (y:=g.m) (x:=x) hm hs hi' with ⟨k1,k2,k3,k4⟩ | ⟨k1,k2⟩ | ⟨k1,u,k2,k3,k4,k5⟩
 ·show MarkG.ltP (plF _ _ _ _ i) (plF _ _ _ _ (i+1))
  rw[h3,k3];exact RG.sortM (RG.v6 h) (by omega) k2
 ·show MarkG.ltP (plF _ _ _ _ i) (plF _ _ _ _ (i+1))
  rw[h3,k2];exact sx h4
 ·omega
 ·omega
 ·omega
 ·show MarkG.ltP (plF _ _ _ _ i) (plF _ _ _ _ (i+1))
  rw[h2,k4];exact xs k5
 ·omega
 ·omega
 ·show MarkG.ltP (plF _ _ _ _ i) (plF _ _ _ _ (i+1))
  rw[h4,k4]
  refine RG.sortM (RG.v6 h) ?_ k3
  subst h2;subst k2
  split <;> omega
theorem RG.putM_n (he:g.mkE x=0):(g.putM x).nm≤40:=by
 obtain⟨h1,h2,h3⟩:=RG.putM_E he
 have hl:=RG.lim h1
 show plN _ _≤_
 unfold plN
 split
 ·omega
 ·rename_i hf
  rcases h3 with h3 | h3
  ·exact absurd h3 hf
  ·omega
theorem RG.putM_valid (he:g.mkE x=0):(g.putM x).valid=true:=by
 obtain⟨h,h2,h3⟩:=RG.putM_E he
 have hl:=RG.lim h
 have hn:=RG.putM_n he
 have hgood:∀a,(g.putM x).InM a→a.good=true:=λa ha=>by
  rcases(RG.putM_in h).1 ha with rfl | ⟨h1,_⟩
  ·exact h2
  ·exact RG.goodM h h1
 exact RG.valid_of hl.1 hl.2.1 hl.2.2.1 hn (λa ha=>RG.goodR h ha) (λa ha=>RG.goodC h ha) (λa ha=>RG.goodW h ha) hgood (λi hi=>RG.sortC (RG.v5 h) (by omega) hi) (λi hi=>RG.putM_sort h hi)
end
end Go.Gx.Rg
namespace Go.Gx.Sr
open Go.RowKit Go.Proofs Go.Proofs.YtncccnmmjfapnaaGreat Go.Gx.Ix
theorem bit_shl1 (a j:Nat) (hj:j<64):(shl64 1#64 a).getLsbD j=decide (j=a):=by
 unfold shl64
 rw[BitVec.getLsbD_shiftLeft]
 by_cases h:j<a
 ·simp[h];omega
 ·by_cases e:j=a
  ·subst e;simp[hj]
  ·have:¬j - a=0:=by omega
   simp[h,e,hj,BitVec.getLsbD_one,this]
theorem bit_or (x y:W64) (j:Nat):(or64 x y).getLsbD j=(x.getLsbD j||y.getLsbD j):=by unfold or64;simp
theorem bit_andn (x y:W64) (j:Nat) (hj:j<64):(andn64 x y).getLsbD j=(x.getLsbD j&&!y.getLsbD j):=by unfold andn64;simp[hj]
theorem bit_and (x y:W64) (j:Nat):(and64 x y).getLsbD j=(x.getLsbD j&&y.getLsbD j):=by unfold and64;simp
theorem w_zero {x:W64}:x=0#64↔∀j,j<64→x.getLsbD j=false:=by
 constructor
 ·rintro rfl;simp
 ·intro h
  apply BitVec.eq_of_getLsbD_eq
  intro i hi
  rw[h i hi];simp
theorem and1_zero {s:W64} {p:Nat} (hp:p<64):and64 s (shl64 1#64 p)=0#64↔s.getLsbD p=false:=by
 rw[w_zero]
 constructor
 ·intro h
  have:=h p hp
  rw[bit_and,bit_shl1 p p hp] at this
  simpa using this
 ·intro h j hj
  rw[bit_and,bit_shl1 p j hj]
  by_cases e:j=p
  ·subst e;simp[h]
  ·simp[e]
def thW (t:Int→Bool) (k:Nat):W64:=(List.range k).foldl (λ(s:W64) (i:Nat)=>if t i then or64 s (shl64 1#64 i) else s) 0#64
theorem bit_thW (t:Int→Bool) (j:Nat) (hj:j<64):∀k,(thW t k).getLsbD j=(decide (j<k)&&t j)
 | 0=>by simp[thW]
 | k+1=>by
   have ih:=bit_thW t j hj k
   unfold thW at ih ⊢
   rw[List.range_succ,List.foldl_append]
   simp only [List.foldl_cons,List.foldl_nil]
   by_cases hk:t k=true
   ·rw[if_pos hk,bit_or,ih,bit_shl1 k j hj]
    by_cases e:j=k
    ·subst e;simp[hk]
    ·have:j<k+1↔j<k:=by omega
     simp only [this,e,decide_false,Bool.or_false]
   ·rw[if_neg hk,ih]
    by_cases e:j=k
    ·subst e;simp[hk]
    ·have:j<k+1↔j<k:=by omega
     simp only [this]
theorem andn_knW {x:SvG} {s:W64} {k:Nat}:andn64 s (x.knW k)=0#64↔∀j,j<64→s.getLsbD j=true→j<k∧x.g.th j=true:=by
 rw[w_zero]
 constructor
 ·intro h j hj hs
  have:=h j hj
  rw[bit_andn _ _ _ hj,hs] at this
  have e:=bit_thW x.g.th j hj k
  rw[show x.knW k=thW x.g.th k from rfl,e] at this
  simpa using this
 ·intro h j hj
  rw[bit_andn _ _ _ hj,show x.knW k=thW x.g.th k from rfl,bit_thW x.g.th j hj k]
  cases hs:s.getLsbD j with
  | false=>rfl
  | true=>have:=h j hj hs;simp[this.1,this.2]
structure SvG.Va (x:SvG):Prop where
 set:x.setB=true
 g:x.g.valid=true
 r:x.r.valid=true
 ch:chOK x.ch=true
 lg:lgOK x.lg=true
 now:0≤x.now∧x.now≤maxT
 k4:x.ks.length≤4
 irn:x.ir.length=x.g.nr
 ir:∀i,i<x.ir.length→(x.eye (i:Nat)).ok=true∧(x.g.th (i:Nat)=true∨x.eye (i:Nat)=IrG.z)
 lgp:∀e∈x.lg,e.p<0∨x.g.th e.p=true
 cn:∀a,x.r.InC a→x.g.th a.p=true
 wa:∀a,x.r.InW a→x.g.th a.p=true
 ma:∀a,x.r.InM a→x.g.th a.p=true
 chp:∀c∈x.ch,x.g.th c.p=true
 ks:∀k∈x.ks,k.ok x.key=true∧k.m=x.mage∧k.a<x.now∧∀j,j<64→k.s.getLsbD j=true→x.g.th (j:Nat)=true
 cht:∀c∈x.ch,c.t≤x.now
 lgt:∀e∈x.lg,e.t≤x.now
theorem SvG.va_iff {x:SvG}:x.valid=true↔x.Va:=by
 rw[SvG.valid_iff]
 simp only [SvG.prtB,SvG.peoB,SvG.timB,SvG.irB,SvG.lgB,SvG.cnB,SvG.waB,SvG.maB,SvG.chB,SvG.kOK,Bool.and_eq_true,decide_eq_true_eq,List.all_eq_true,List.mem_range,Bool.or_eq_true,Bool.not_eq_true',List.any_eq_false,decide_eq_false_iff_not,Ix.btw,andn_knW,Int.not_lt]
 constructor
 ·rintro⟨h1,⟨⟨⟨⟨h2,h3⟩,h4⟩,h5⟩,⟨h6,h7⟩,h8⟩,⟨⟨h9,h10⟩,⟨⟨h11,h12⟩,h13⟩,h14⟩,⟨h15,h16⟩,h17⟩
  refine⟨h1,h2,h3,h4,h5,h6,h7,h8,h9,h10,?_,?_,?_,h14,λk hk=>?_,h16,h17⟩
  ·rintro a ⟨i,hi,rfl⟩;exact h11 i hi
  ·rintro a ⟨i,hi,rfl⟩;exact h12 i hi
  ·rintro a ⟨i,hi,rfl⟩;exact h13 i hi
  ·obtain⟨⟨⟨a1,a2⟩,a3⟩,a4⟩:=h15 k hk
   exact⟨a1,a2,a3,λj hj hs=>(a4 j hj hs).2⟩
 ·intro h
  have hth:∀j:Nat,x.g.th j=true→j<x.ir.length:=λj hj=>by
   have:=EG.th_iff.1 hj
   have e:=h.irn
   omega
  refine⟨h.set,⟨⟨⟨⟨h.g,h.r⟩,h.ch⟩,h.lg⟩,⟨h.now,h.k4⟩,h.irn⟩,⟨⟨h.ir,h.lgp⟩,⟨⟨λi hi=>h.cn _ ⟨i,hi,rfl⟩,λi hi=>h.wa _ ⟨i,hi,rfl⟩⟩,λi hi=>h.ma _ ⟨i,hi,rfl⟩⟩,h.chp⟩,⟨λk hk=>?_,h.cht⟩,h.lgt⟩
  obtain⟨a1,a2,a3,a4⟩:=h.ks k hk
  exact⟨⟨⟨a1,a2⟩,a3⟩,λj hj hs=>⟨hth j (a4 j hj hs),a4 j hj hs⟩⟩
end Go.Gx.Sr
namespace Go.Gx
open Go.RowKit Go.Proofs Go.Proofs.YtncccnmmjfapnaaGreat
theorem EG.th_lt {g:EG} {a:Int} (h:g.th a=true):0≤a∧a<g.nr:=by have:=EG.th_iff.1 h;omega
theorem EG.th_same {g h:EG} (e1:h.nr=g.nr) (e2:h.r=g.r) (a:Int):h.th a=g.th a:=by unfold EG.th;rw[e1,e2]
theorem EG.th_addG {g:EG} {q a:Int} (h:g.th a=true):(g.addG q).th a=true:=by
 have:=EG.th_iff.1 h
 refine EG.th_iff.2 ⟨this.1,by show a<((g.nr+1:Nat):Int);omega,?_⟩
 show(if a.toNat<g.nr then g.r a.toNat else ⟨q,false⟩).g=false
 rw[if_pos (by omega)]
 exact this.2.2
theorem EG.Val.addG {g:EG} (h:g.Val) {q:Int} (hq:0≤q∧q≤100) (hn:g.nr<24):(g.addG q).Val:=by
 refine⟨hn,h.nc,λi hi=>?_,h.ls,λi hi=>?_,h.cs,λi hi=>?_,h.cl,h.cv,λi hi hs hc=>h.ld i hi hs ((con_same (g:=g.addG q) (h:=g) rfl).1 hc)⟩
 ·show 0≤(if i<g.nr then g.r i else ⟨q,false⟩).q∧(if i<g.nr then g.r i else ⟨q,false⟩).q≤100
  split
  ·exact h.qu i (by assumption)
  ·exact hq
 ·have:=h.lp i hi
  exact⟨EG.th_addG this.1,EG.th_addG this.2.1,this.2.2⟩
 ·have:=h.cp i hi
  exact⟨EG.th_addG this.1,EG.th_addG this.2.1,this.2.2⟩
theorem EG.th_remG {g:EG} {a:Nat} {b:Int}:(g.remG a).th b=true↔g.th b=true∧¬b=a:=by
 rw[EG.th_iff,EG.th_iff]
 show(0≤b∧b<g.nr∧(if b.toNat=a then (⟨0,true⟩:RcG) else g.r b.toNat).g=false)↔_
 constructor
 ·rintro⟨h1,h2,h3⟩
  split at h3
  ·cases h3
  ·exact⟨⟨h1,h2,h3⟩,by omega⟩
 ·rintro⟨⟨h1,h2,h3⟩,h4⟩
  rw[if_neg (by omega)]
  exact⟨h1,h2,h3⟩
theorem EG.lp_iff {g:EG} {a i:Nat}:g.lp a i=false↔¬(g.l i).a=a∧¬(g.l i).b=a:=by
 unfold EG.lp;simp
theorem EG.cp_iff {g:EG} {a i:Nat}:g.cp a i=false↔¬(g.c i).a=a∧¬(g.c i).b=a:=by
 unfold EG.cp;simp
theorem EG.Val.remG {g:EG} (h:g.Val) (a:Nat):(g.remG a).Val:=by
 have hl:∀i,i<(kept (g.lp a) g.nl).length→(kept (g.lp a) g.nl)[i]?.getD 0<g.nl∧g.lp a ((kept (g.lp a) g.nl)[i]?.getD 0)=false:=λi hi=>kept_at hi
 have hc:∀i,i<(kept (g.cp a) g.nc).length→(kept (g.cp a) g.nc)[i]?.getD 0<g.nc∧g.cp a ((kept (g.cp a) g.nc)[i]?.getD 0)=false:=λi hi=>kept_at hi
 have hle:(kept (g.cp a) g.nc).length≤g.nc:=by
  have:=List.length_filter_le (λi=>!g.cp a i) (List.range g.nc)
  simpa [kept] using this
 refine⟨h.nr,Nat.le_trans hle h.nc,λi hi=>?_,srtd_kept h.ls,λi hi=>?_,srtd_kept h.cs,λi hi=>?_,λi j hi hj=>h.cl _ _ (hc i hi).1 (hl j hj).1,λi hi=>h.cv _ (hc i hi).1,λi hi hs hcn=>?_⟩
 ·show 0≤(if i=a then (⟨0,true⟩:RcG) else g.r i).q∧(if i=a then (⟨0,true⟩:RcG) else g.r i).q≤100
  split
  ·decide
  ·exact h.qu i hi
 ·have h1:=h.lp _ (hl i hi).1
  have h2:=EG.lp_iff.1 (hl i hi).2
  exact⟨EG.th_remG.2 ⟨h1.1,h2.1⟩,EG.th_remG.2 ⟨h1.2.1,h2.2⟩,h1.2.2⟩
 ·have h1:=h.cp _ (hc i hi).1
  have h2:=EG.cp_iff.1 (hc i hi).2
  exact⟨EG.th_remG.2 ⟨h1.1,h2.1⟩,EG.th_remG.2 ⟨h1.2.1,h2.2⟩,h1.2.2⟩
 ·refine h.ld _ (hl i hi).1 hs (hcn.map λx y ⟨j,h1,h2,h3⟩=>⟨_,(hl j h1).1,h2,h3⟩)
theorem EG.Val.nl {g:EG} (h:g.Val):g.nl≤1000:=by
 have hb:∀i,i<g.nl→(0≤(g.l i).a∧(g.l i).a<24)∧(0≤(g.l i).b∧(g.l i).b<24):=λi hi=>by
  have h1:=h.lp i hi
  have h2:=EG.th_lt h1.1
  have h3:=EG.th_lt h1.2.1
  have h4:=h.nr
  omega
 have hk:∀i,i<g.nl→(i:Int)≤(g.l i).a*24+(g.l i).b:=by
  intro i
  induction i with
  | zero=>intro hi;have:=hb 0 hi;omega
  | succ i ih=>
    intro hi
    have h1:=ih (by omega)
    have h2:(g.l i).a<(g.l (i+1)).a∨(g.l i).a=(g.l (i+1)).a∧(g.l i).b<(g.l (i+1)).b:=befB_iff'.1 (h.ls i (i+1) (by omega) hi)
    have h3:=hb i (by omega)
    have h4:=hb (i+1) hi
    omega
 rcases Nat.eq_zero_or_pos g.nl with e | e
 ·omega
 ·have h1:=hk (g.nl - 1) (by omega)
  have h2:=hb (g.nl - 1) (by omega)
  omega
theorem EG.Val.sm {g:EG} (h:g.Val):g.Sm:=
 ⟨by have:=h.nr;omega,h.nl,by have:=h.nc;omega,λi hi=>by have:=(votB_iff.1 (h.cv i hi)).1;omega⟩
end Go.Gx
namespace Go.Gx.Rg
open Go.RowKit Go.Proofs Go.Proofs.YtncccnmmjfapnaaGreat
theorem RG.sizes {g:RG} (h:g.valid=true):g.nr≤20∧g.nc≤40∧g.nw≤20∧g.nm≤40:=by
 simp only [RG.valid,RG.c1,RG.c2,RG.c3,RG.c4,Bool.and_eq_true,decide_eq_true_eq] at h
 obtain⟨⟨⟨⟨⟨⟨h1,_⟩,h2,_⟩,h3,_⟩,h4,_⟩,_⟩,_⟩:=h
 omega
theorem RG.sC {g:RG} (h:g.valid=true):∀i,i+1<g.nc→(g.c i).ltP (g.c (i+1)):=by
 simp only [RG.valid,RG.c5,Bool.and_eq_true,List.all_eq_true,List.mem_range,ConG.lt,lex_lt,decide_eq_true_eq] at h
 exact λi hi=>h.1.2 i (by omega)
theorem RG.sM {g:RG} (h:g.valid=true):∀i,i+1<g.nm→(g.m i).ltP (g.m (i+1)):=by
 simp only [RG.valid,RG.c6,Bool.and_eq_true,List.all_eq_true,List.mem_range,MarkG.lt,lex_lt,decide_eq_true_eq] at h
 exact λi hi=>h.2 i (by omega)
theorem RG.addR_in {g:RG} {y a:RuleG}:(g.addR y).InR a→g.InR a∨a=y:=by
 rintro⟨i,hi,rfl⟩
 show g.InR (if i<g.nr then g.r i else y)∨(if i<g.nr then g.r i else y)=y
 split
 ·exact .inl ⟨i,by assumption,rfl⟩
 ·exact .inr rfl
theorem RG.addW_in {g:RG} {y a:WarG}:(g.addW y).InW a→g.InW a∨a=y:=by
 rintro⟨i,hi,rfl⟩
 show g.InW (if i<g.nw then g.w i else y)∨(if i<g.nw then g.w i else y)=y
 split
 ·exact .inl ⟨i,by assumption,rfl⟩
 ·exact .inr rfl
theorem RG.addR_valid {g:RG} (h:g.valid=true) (hn:¬g.nr=20) {y:RuleG} (hy:y.good=true):(g.addR y).valid=true:=by
 have hs:=RG.sizes h
 refine RG.valid_of (by show g.nr+1≤20;omega) hs.2.1 hs.2.2.1 hs.2.2.2 (λa ha=>?_) (λa ha=>RG.goodC h ha) (λa ha=>RG.goodW h ha) (λa ha=>RG.goodM h ha) (RG.sC (g:=g) h) (RG.sM (g:=g) h)
 rcases RG.addR_in ha with ha | rfl
 ·exact RG.goodR h ha
 ·exact hy
theorem RG.addW_valid {g:RG} (h:g.valid=true) (hn:¬g.nw=20) {y:WarG} (hy:y.good=true):(g.addW y).valid=true:=by
 have hs:=RG.sizes h
 refine RG.valid_of hs.1 hs.2.1 (by show g.nw+1≤20;omega) hs.2.2.2 (λa ha=>RG.goodR h ha) (λa ha=>RG.goodC h ha) (λa ha=>?_) (λa ha=>RG.goodM h ha) (RG.sC (g:=g) h) (RG.sM (g:=g) h)
 rcases RG.addW_in ha with ha | rfl
 ·exact RG.goodW h ha
 ·exact hy
theorem RuleG.good_byte {y:RuleG} (h:y.good=true):y.byte:=by
 simp only [RuleG.good,Bool.and_eq_true] at h
 have:=h.2.2
 simp[btw] at this
 exact⟨by omega,by omega⟩
theorem RG.valid_OK {g:RG} (h:g.valid=true):g.OK:=by
 have hs:=RG.sizes h
 exact⟨by omega,by omega,by omega,by omega,λi hi=>RuleG.good_byte (RG.goodR h ⟨i,hi,rfl⟩)⟩
end Go.Gx.Rg
namespace Go.Gx.Sr
open Go.RowKit Go.Proofs Go.Proofs.YtncccnmmjfapnaaGreat Go.Gx.Ix
theorem srtB_pw {l:List ChG}:srtB l=true↔l.Pairwise λx y=>x.t≤y.t:=by
 rw[srtB_iff,List.pairwise_iff_getElem]
 constructor
 ·intro h i j hi hj hij
  induction j with
  | zero=>omega
  | succ j ih=>
    have h1:=h j hj
    rcases Nat.lt_or_ge i j with hl | hl
    ·have:=ih (by omega) hl;omega
    ·obtain rfl:i=j:=by omega
     exact h1
 ·intro h i h2
  exact h i (i+1) (by omega) h2 (by omega)
theorem chOK_iff {l:List ChG}:chOK l=true↔l.length≤60∧(∀c∈l,c.ok=true)∧l.Pairwise λx y=>x.t≤y.t:=by
 unfold chOK
 rw[Bool.and_eq_true,Bool.and_eq_true,srtB_pw,decide_eq_true_eq,List.all_eq_true,and_assoc]
theorem chOK_filter {l:List ChG} (h:chOK l=true) (p:ChG→Bool):chOK (l.filter p)=true:=by
 obtain⟨h1,h2,h3⟩:=chOK_iff.1 h
 exact chOK_iff.2 ⟨Nat.le_trans (List.length_filter_le _ _) h1,λc hc=>h2 c (List.mem_filter.1 hc).1,h3.filter _⟩
theorem chOK_snoc {l:List ChG} (h:chOK l=true) (hn:¬l.length=60) {c:ChG} (hc:c.ok=true) (ht:∀y∈l,y.t≤c.t):chOK (l++[c])=true:=by
 obtain⟨h1,h2,h3⟩:=chOK_iff.1 h
 refine chOK_iff.2 ⟨by simp;omega,λy hy=>?_,?_⟩
 ·rcases List.mem_append.1 hy with hy | hy
  ·exact h2 y hy
  ·rw[List.mem_singleton.1 hy];exact hc
 ·rw[List.pairwise_append]
  exact⟨h3,List.pairwise_singleton _ _,λa ha b hb=>by rw[List.mem_singleton.1 hb];exact ht a ha⟩
theorem bit_putB {s:W64} {c:ChG} {j:Nat} (hj:j<64) (hp:0≤c.p) (h:(putB s c).getLsbD j=true):s.getLsbD j=true∨c.p=j:=by
 unfold putB at h
 by_cases e:j=c.p.toNat
 ·exact .inr (by omega)
 ·refine .inl ?_
  split at h
  ·rw[bit_or,bit_andn _ _ _ hj,bit_shl1 _ _ hj] at h
   simpa [e] using h
  ·rw[bit_andn _ _ _ hj,bit_shl1 _ _ hj] at h
   simpa [e] using h
theorem bit_setL {j:Nat} (hj:j<64):∀(l:List ChG) (s:W64),(∀c∈l,0≤c.p)→(setL s l).getLsbD j=true→s.getLsbD j=true∨∃c∈l,c.p=j
 | [],s,_,h=>.inl h
 | c::l,s,hl,h=>by
   rcases bit_setL hj l (putB s c) (λy hy=>hl y (List.mem_cons_of_mem _ hy)) h with h1 | ⟨y,hy,e⟩
   ·rcases bit_putB hj (hl c (List.mem_cons_self ..)) h1 with h2 | h2
    ·exact .inl h2
    ·exact .inr ⟨c,List.mem_cons_self ..,h2⟩
   ·exact .inr ⟨y,List.mem_cons_of_mem _ hy,e⟩
theorem bit_lst {l:List ChG} (h:chOK l=true) {t:Int} {j:Nat} (hj:j<64) (hb:(lstW l t).getLsbD j=true):∃c∈l,c.p=j:=by
 rcases bit_setL hj _ _ (λc hc=>(chOK_p h (bwL_sub hc)).2.2.1) hb with h1 | ⟨c,hc,e⟩
 ·simp at h1
 ·exact⟨c,bwL_sub hc,e⟩
theorem seal_z (k:KsG) (key:W64) (z:W64):({k with z:=z}:KsG).seal key=k.seal key:=rfl
theorem copG_ok {l:List ChG} {t m:Int} {key:W64} (ht:tmB t=true) (hm:tmB m=true):(copG l t m key).ok key=true:=by
 unfold KsG.ok copG
 simp only [ht,hm,Bool.and_true,Bool.true_and,decide_eq_true_eq]
 rfl
theorem re_ok {k:KsG} {key:W64} (h:k.ok key=true) (a:Int):(k.re key a).ok key=true:=by
 unfold KsG.ok at h ⊢
 simp only [Bool.and_eq_true] at h
 unfold KsG.re
 simp only [h.1.1,h.1.2,Bool.and_true,Bool.true_and,decide_eq_true_eq]
 rfl
theorem erL_prv {l:List EnG} {p:Int} (j:Nat):(prv (erL l p) j).t=(prv l j).t∧(prv (erL l p) j).l=(prv l j).l:=by
 unfold prv
 split
 ·exact⟨rfl,rfl⟩
 ·unfold erL
  rw[List.getElem?_map]
  cases l[j - 1]? with
  | none=>exact⟨rfl,rfl⟩
  | some y=>
    simp only [Option.map_some,Option.getD_some,EnG.er]
    split <;> exact⟨rfl,rfl⟩
theorem er_stp {y y' x:EnG} {p:Int} (ht:y'.t=y.t) (hl:y'.l=y.l) (h:y.stp x=true):y'.stp (x.er p)=true:=by
 unfold EnG.stp at h ⊢
 simp only [Bool.and_eq_true,decide_eq_true_eq] at h ⊢
 unfold EnG.er
 split
 ·refine⟨⟨?_,by rw[ht];exact h.1.2⟩,by rw[hl];exact h.2⟩
  have h1:=h.1.1
  unfold EnG.fit EnG.rng at h1 ⊢
  simp only [Bool.and_eq_true] at h1 ⊢
  refine⟨⟨⟨h1.1.1.1,h1.1.1.2⟩,by decide⟩,?_⟩
  rw[if_pos (by decide)]
  simp[or64]
 ·exact⟨⟨h.1.1,by rw[ht];exact h.1.2⟩,by rw[hl];exact h.2⟩
theorem erL_ok {l:List EnG} (h:lgOK l=true) (p:Int):lgOK (erL l p)=true:=by
 unfold lgOK lgB at h ⊢
 simp only [Bool.and_eq_true,decide_eq_true_eq,List.all_eq_true,List.mem_range] at h ⊢
 have hlen:(erL l p).length=l.length:=by simp[erL]
 rw[hlen]
 refine⟨h.1,λj hj=>?_⟩
 have h1:=h.2 j hj
 unfold okAt at h1 ⊢
 have h2:=erL_prv (l:=l) (p:=p) j
 have e1:((erL l p)[j]?).getD EnG.zero=(l[j]).er p:=by unfold erL;rw[List.getElem?_map,List.getElem?_eq_getElem hj];rfl
 rw[List.getElem?_eq_getElem hj] at h1
 rw[e1]
 exact er_stp h2.1 h2.2 h1
theorem EG.addE_zero {g:EG} {q:Int} (h:g.addE q=0):g.valid=true∧(0≤q∧q≤100)∧g.nr<24:=by
 unfold EG.addE at h
 split at h
 ·cases h
 rename_i h1
 split at h
 ·cases h
 rename_i h2
 split at h
 ·cases h
 rename_i h3
 have h1:g.valid=true:=by simpa using h1
 have:=(EG.val_iff.1 h1).nr
 exact⟨h1,by omega,by omega⟩
variable {x:SvG}
theorem SvG.Va.put (h:x.Va) (hn:¬x.lg.length=60) {k a:Int} (hk:0≤k∧k≤7) (ha:x.g.th a=true) (r:RsG) (s:W64):(x.put k a r s).Va:=by
 have ht:=EG.th_lt ha
 have hr:=(EG.val_iff.1 h.g).nr
 have hl:=wrX_snoc (SvG.log_ok (SvG.va_iff.2 h)) hn hk (p:=a) (by omega) r.pack s
 refine⟨h.set,h.g,h.r,h.ch,hl.ok,h.now,h.k4,h.irn,h.ir,λe he=>?_,h.cn,h.wa,h.ma,h.chp,h.ks,h.cht,λe he=>?_⟩
 ·rcases List.mem_append.1 he with he | he
  ·exact h.lgp e he
  ·rw[List.mem_singleton.1 he];exact .inr ha
 ·rcases List.mem_append.1 he with he | he
  ·exact h.lgt e he
  ·rw[List.mem_singleton.1 he];exact Int.le_refl _
theorem va_tick (h:x.Va) (o:OrG):(tickM x o).1.Va:=by
 unfold tickM
 split
 rotate_left
 ·exact h
 rename_i hb
 split
 ·exact h
 rename_i hm
 have hb:1≤o.n∧o.n≤1000:=by simpa [Ix.btw] using hb
 have:=h.now
 exact⟨h.set,h.g,h.r,h.ch,h.lg,by show 0≤x.now+o.n∧x.now+o.n≤maxT;omega,h.k4,h.irn,h.ir,h.lgp,h.cn,h.wa,h.ma,h.chp,
  λk hk=>by have:=h.ks k hk;exact⟨this.1,this.2.1,by show k.a<x.now+o.n;omega,this.2.2.2⟩,λc hc=>by have:=h.cht c hc;show c.t≤x.now+o.n;omega,λc hc=>by have:=h.lgt c hc;show c.t≤x.now+o.n;omega⟩
theorem va_enrol (h:x.Va) (o:OrG):(enrolM x o).1.Va:=by
 unfold enrolM
 split
 rotate_left
 ·exact h
 rename_i hok
 split
 rotate_left
 ·exact h
 rename_i he
 obtain⟨h1,h2,h3⟩:=EG.addE_zero he
 have hX:x.g.addX o.n=x.g.addG o.n:=by unfold EG.addX;rw[if_pos he]
 have ht:∀{a:Int},x.g.th a=true→(x.g.addX o.n).th a=true:=λha=>by rw[hX];exact EG.th_addG ha
 refine⟨h.set,?_,h.r,h.ch,h.lg,h.now,h.k4,?_,λi hi=>?_,λe he=>(h.lgp e he).imp id ht,λa ha=>ht (h.cn a ha),λa ha=>ht (h.wa a ha),λa ha=>ht (h.ma a ha),λc hc=>ht (h.chp c hc),λk hk=>?_,h.cht,h.lgt⟩
 ·show(x.g.addX o.n).valid=true
  rw[hX];exact EG.val_iff.2 ((EG.val_iff.1 h1).addG h2 h3)
 ·show(x.ir++[o.x]).length=(x.g.addX o.n).nr
  rw[hX]
  show _=x.g.nr+1
  simp[h.irn]
 ·have hi:i<(x.ir++[o.x]).length:=hi
  rw[List.length_append,List.length_singleton] at hi
  by_cases e:i<x.ir.length
  ·have e1:SvG.eye {x with g:=x.g.addX o.n,ir:=x.ir++[o.x]} i=x.eye i:=by
    unfold SvG.eye
    show((x.ir++[o.x])[(i:Int).toNat]?).getD IrG.z=_
    rw[Int.toNat_natCast,List.getElem?_append_left e]
   rw[e1]
   exact⟨(h.ir i e).1,(h.ir i e).2.imp ht id⟩
  ·obtain rfl:i=x.ir.length:=by omega
   have e1:SvG.eye {x with g:=x.g.addX o.n,ir:=x.ir++[o.x]} x.ir.length=o.x:=by
    unfold SvG.eye
    show((x.ir++[o.x])[(x.ir.length:Int).toNat]?).getD IrG.z=_
    rw[Int.toNat_natCast,List.getElem?_concat_length];rfl
   rw[e1]
   refine⟨hok,.inl ?_⟩
   show(x.g.addX o.n).th _=true
   rw[hX]
   refine EG.th_iff.2 ⟨by omega,?_,?_⟩
   ·show _<((x.g.nr+1:Nat):Int)
    rw[h.irn];omega
   ·show(if _<x.g.nr then _ else (⟨o.n,false⟩:RcG)).g=false
    rw[if_neg (by rw[h.irn];omega)]
 ·have:=h.ks k hk
  exact⟨this.1,this.2.1,this.2.2.1,λj hj hs=>ht (this.2.2.2 j hj hs)⟩
theorem SvG.Va.reg (h:x.Va) {g:EG} (hv:g.valid=true) (e1:g.nr=x.g.nr) (e2:g.r=x.g.r):({x with g:=g}:SvG).Va:=by
 have ht:∀a,g.th a=x.g.th a:=λa=>EG.th_same e1 e2 a
 refine⟨h.set,hv,h.r,h.ch,h.lg,h.now,h.k4,h.irn.trans e1.symm,λi hi=>?_,λe he=>?_,λa ha=>?_,λa ha=>?_,λa ha=>?_,λc hc=>?_,λk hk=>?_,h.cht,h.lgt⟩
 ·have:=h.ir i hi
  show _∧(g.th i=true∨_)
  rw[ht];exact this
 ·show _∨g.th _=true
  rw[ht];exact h.lgp e he
 ·show g.th _=true
  rw[ht];exact h.cn a ha
 ·show g.th _=true
  rw[ht];exact h.wa a ha
 ·show g.th _=true
  rw[ht];exact h.ma a ha
 ·show g.th _=true
  rw[ht];exact h.chp c hc
 ·have:=h.ks k hk
  refine⟨this.1,this.2.1,this.2.2.1,λj hj hs=>?_⟩
  show g.th _=true
  rw[ht];exact this.2.2.2 j hj hs
theorem va_vote (h:x.Va) (o:OrG):(voteM x o).1.Va:=by
 unfold voteM
 split
 rotate_left
 ·exact h
 rename_i he
 have hX:x.g.voteX o.n o.a o.b o.f=x.g.voteG o.n o.a o.b o.f:=by unfold EG.voteX;rw[if_pos he]
 rw[hX]
 exact h.reg (EG.val_iff.2 (EG.Val.vote he)) (x.g.vote_nr o.n o.a o.b o.f).1 (x.g.vote_nr o.n o.a o.b o.f).2
theorem va_wd (h:x.Va) (o:OrG):(wdM x o).1.Va:=by
 unfold wdM
 split
 rotate_left
 ·exact h
 rename_i he
 have hX:x.g.wdX o.a o.b=x.g.dropL (x.g.lat (min o.a o.b) (max o.a o.b)):=by unfold EG.wdX;rw[if_pos he]
 rw[hX]
 exact h.reg (EG.val_iff.2 ((EG.val_iff.1 h.g).dropL _)) rfl rfl
theorem SvG.Va.rem (h:x.Va) {a:Int} (ha:x.g.th a=true):(x.rem a).Va:=by
 have hlt:=EG.th_lt ha
 have ha':((a.toNat:Nat):Int)=a:=by omega
 have ht:∀{b:Int},x.g.th b=true→¬b=a→(x.g.remG a.toNat).th b=true:=λhb hn=>EG.th_remG.2 ⟨hb,by omega⟩
 refine⟨h.set,EG.val_iff.2 ((EG.val_iff.1 h.g).remG _),Rg.RG.forget_valid h.r,chOK_filter h.ch _,erL_ok h.lg _,h.now,?_,?_,λi hi=>?_,λe he=>?_,λc hc=>?_,λc hc=>?_,λc hc=>?_,λc hc=>?_,λk hk=>?_,λc hc=>?_,λe he=>?_⟩
 ·show(x.ks.map _).length≤4
  rw[List.length_map];exact h.k4
 ·show(x.ir.set _ _).length=x.g.nr
  rw[List.length_set];exact h.irn
 ·have hi:i<(x.ir.set a.toNat IrG.z).length:=hi
  rw[List.length_set] at hi
  have e1:(x.rem a).eye i=if i=a.toNat then IrG.z else x.eye i:=by
   unfold SvG.eye SvG.rem
   simp only [Int.toNat_natCast]
   by_cases e:i=a.toNat
   ·subst e
    rw[List.getElem?_set_self hi,if_pos rfl];rfl
   ·rw[List.getElem?_set_ne (Ne.symm e),if_neg e]
  rw[e1]
  by_cases e:i=a.toNat
  ·rw[if_pos e];exact⟨by decide,.inr rfl⟩
  ·rw[if_neg e]
   have:=h.ir i hi
   exact⟨this.1,this.2.imp (λhb=>ht hb (by omega)) id⟩
 ·obtain⟨y,hy,rfl⟩:=List.mem_map.1 he
  unfold EnG.er
  split
  ·exact .inl (by show(-1:Int)<0;decide)
  ·exact(h.lgp y hy).imp id λhb=>ht hb (by assumption)
 ·have:=Rg.RG.forget_C.1 hc
  exact ht (h.cn c this.1) this.2
 ·have:=Rg.RG.forget_W.1 hc
  exact ht (h.wa c this.1) this.2
 ·have:=Rg.RG.forget_M.1 hc
  exact ht (h.ma c this.1) this.2
 ·have:=List.mem_filter.1 hc
  exact ht (h.chp c this.1) (by simpa using this.2)
 ·obtain⟨y,hy,rfl⟩:=List.mem_map.1 hk
  have:=h.ks y hy
  refine⟨re_ok this.1 a,this.2.1,this.2.2.1,λj hj hs=>?_⟩
  have hs:(andn64 y.s (shl64 1#64 a.toNat)).getLsbD j=true:=hs
  rw[bit_andn _ _ _ hj,bit_shl1 _ _ hj] at hs
  simp only [Bool.and_eq_true,Bool.not_eq_true',decide_eq_false_iff_not] at hs
  exact ht (this.2.2.2 j hj hs.1) (by omega)
 ·exact h.cht c (List.mem_filter.1 hc).1
 ·obtain⟨y,hy,rfl⟩:=List.mem_map.1 he
  have:=h.lgt y hy
  unfold EnG.er
  split <;> exact this
theorem va_rem (h:x.Va) (o:OrG):(remM x o).1.Va:=by
 unfold remM
 split
 ·exact h.rem (by assumption)
 ·exact h
theorem SvG.Va.rig (h:x.Va) {r:Rg.RG} (hv:r.valid=true) (hc:∀a,r.InC a→x.g.th a.p=true) (hw:∀a,r.InW a→x.g.th a.p=true) (hm:∀a,r.InM a→x.g.th a.p=true):({x with r:=r}:SvG).Va:=
 ⟨h.set,h.g,hv,h.ch,h.lg,h.now,h.k4,h.irn,h.ir,h.lgp,hc,hw,hm,h.chp,h.ks,h.cht,h.lgt⟩
theorem va_rule (h:x.Va) (o:OrG):(ruleM x o).1.Va:=by
 unfold ruleM
 split
 ·exact h
 split
 rotate_left
 ·exact h
 exact h.rig (Rg.RG.addR_valid h.r (by assumption) (by assumption)) h.cn h.wa h.ma
theorem va_war (h:x.Va) (o:OrG):(warM x o).1.Va:=by
 unfold warM
 split
 rotate_left
 ·exact h
 rename_i ht
 split
 ·exact h
 split
 rotate_left
 ·exact h
 refine h.rig (Rg.RG.addW_valid h.r (by assumption) (by assumption)) h.cn (λa ha=>?_) h.ma
 rcases Rg.RG.addW_in ha with ha | rfl
 ·exact h.wa a ha
 ·exact ht
theorem va_con (h:x.Va) (o:OrG):(conM x o).1.Va:=by
 unfold conM
 split
 rotate_left
 ·exact h
 rename_i ht
 split
 rotate_left
 ·exact h
 rename_i he
 refine h.rig (Rg.RG.putC_valid he) (λa ha=>?_) h.wa h.ma
 rcases(Rg.RG.putC_in h.r).1 ha with rfl | ha
 ·exact ht
 ·exact h.cn a ha.1
theorem va_put (h:x.Va) (o:OrG):(putM x o).1.Va:=by
 unfold putM
 split
 rotate_left
 ·exact h
 rename_i ht
 split
 rotate_left
 ·exact h
 rename_i he
 refine h.rig (Rg.RG.putM_valid he) h.cn h.wa (λa ha=>?_)
 rcases(Rg.RG.putM_in h.r).1 ha with rfl | ha
 ·exact ht
 ·exact h.ma a ha.1
theorem va_chg (h:x.Va) (o:OrG):(chgM x o).1.Va:=by
 unfold chgM
 split
 rotate_left
 ·exact h
 rename_i ht
 split
 ·exact h
 rename_i hn
 have hlt:=EG.th_lt ht
 have hnr:=(EG.val_iff.1 h.g).nr
 have hok:ChG.ok ⟨x.now,o.a,o.f⟩=true:=by
  unfold ChG.ok
  rw[Bool.and_eq_true]
  exact⟨tmB_iff.2 h.now,psB_iff.2 (by show 0≤o.a∧o.a≤63;omega)⟩
 refine⟨h.set,h.g,h.r,chOK_snoc h.ch hn hok h.cht,h.lg,h.now,h.k4,h.irn,h.ir,h.lgp,h.cn,h.wa,h.ma,λc hc=>?_,h.ks,λc hc=>?_,h.lgt⟩
 ·rcases List.mem_append.1 hc with hc | hc
  ·exact h.chp c hc
  ·rw[List.mem_singleton.1 hc];exact ht
 ·rcases List.mem_append.1 hc with hc | hc
  ·exact h.cht c hc
  ·rw[List.mem_singleton.1 hc];exact Int.le_refl _
theorem va_syn (h:x.Va) (o:OrG):(synM x o).1.Va:=by
 unfold synM
 split
 rotate_left
 ·exact h
 rename_i hb
 split
 ·exact h
 rename_i hn
 have hb:0≤o.n∧o.n≤min (x.ks.length:Int) 3:=by simpa [Ix.btw] using hb
 have hnow:=h.now
 have hage:=(cmp_in (SvG.va_iff.2 h)).2.2.2
 have hk4:=h.k4
 refine⟨h.set,h.g,h.r,h.ch,h.lg,by show 0≤x.now+1∧x.now+1≤maxT;omega,?_,h.irn,h.ir,h.lgp,h.cn,h.wa,h.ma,h.chp,λk hk=>?_,λc hc=>by have:=h.cht c hc;show c.t≤x.now+1;omega,λc hc=>by have:=h.lgt c hc;show c.t≤x.now+1;omega⟩
 ·show(x.ks.take _++_::x.ks.drop _).length≤4
  simp only [List.length_append,List.length_take,List.length_cons,List.length_drop]
  omega
 ·have hk:k∈x.ks.take o.n.toNat++copG x.ch x.now x.mage x.key::x.ks.drop (o.n.toNat+1):=hk
  have hold:k∈x.ks→k.ok x.key=true∧k.m=x.mage∧k.a<x.now+1∧∀j,j<64→k.s.getLsbD j=true→x.g.th (j:Nat)=true:=λhk=>by
   have:=h.ks k hk
   exact⟨this.1,this.2.1,by omega,this.2.2.2⟩
  rcases List.mem_append.1 hk with hk | hk
  ·exact hold (List.mem_of_mem_take hk)
  ·rcases List.mem_cons.1 hk with rfl | hk
   ·refine⟨copG_ok (tmB_iff.2 h.now) (tmB_iff.2 hage),rfl,by show x.now<x.now+1;omega,λj hj hs=>?_⟩
    obtain⟨c,hc,e⟩:=bit_lst h.ch hj hs
    have:=h.chp c hc
    rw[e] at this
    exact this
   ·exact hold (List.mem_of_mem_drop hk)
theorem va_dec (h:x.Va) {k a:Int} (hk:0≤k∧k≤7) (ha:x.g.th a=true) (r:RsG) (s:W64):(decM x k a r s).1.Va:=by
 unfold decM
 split
 ·exact h
 ·exact h.put (by assumption) hk ha r s
theorem va_ver (h:x.Va) (o:OrG):(verM x o).1.Va:=by
 unfold verM
 split
 rotate_left
 ·exact h
 split
 rotate_left
 ·exact h
 exact va_dec h (by decide) (by assumption) _ _
theorem va_hit (o:OrG):∀(l:List Int) (x:SvG) (hs:List HtG),x.Va→(∀a∈l,x.g.th a=true)→(hitM x o l hs).1.Va
 | [],x,hs,h,_=>h
 | a::l,x,hs,h,hl=>by
   unfold hitM
   simp only
   split
   ·split
    ·exact h
    ·exact va_hit o l _ _ (h.put (by assumption) (by decide) (hl a (List.mem_cons_self ..)) _ _) λb hb=>hl b (List.mem_cons_of_mem _ hb)
   ·exact va_hit o l x hs h λb hb=>hl b (List.mem_cons_of_mem _ hb)
theorem va_fnd (h:x.Va) (o:OrG):(fndM' x o).1.Va:=by
 unfold fndM'
 split
 rotate_left
 ·exact h
 split
 rotate_left
 ·exact h
 exact va_hit o _ x [] h λa ha=>SvG.fd_mem (SvG.va_iff.2 h) ha
theorem va_gat (h:x.Va) (o:OrG):(gatM x o).1.Va:=by
 unfold gatM
 split
 rotate_left
 ·exact h
 split
 rotate_left
 ·exact h
 split
 rotate_left
 ·exact h
 simp only
 split
 ·exact va_dec h (by decide) (by assumption) _ _
 split
 ·exact va_dec h (by decide) (by assumption) _ _
 ·exact va_dec h (by decide) (by assumption) _ _
theorem SvG.Va.doM (h:x.Va) (o:OrG):(doM x o).1.Va:=by
 unfold Sr.doM
 by_cases h1:o.k=1
 ·rw[if_pos h1];exact va_tick h o
 rw[if_neg h1]
 by_cases h2:o.k=2
 ·rw[if_pos h2];exact va_enrol h o
 rw[if_neg h2]
 by_cases h3:o.k=3
 ·rw[if_pos h3];exact va_vote h o
 rw[if_neg h3]
 by_cases h4:o.k=4
 ·rw[if_pos h4];exact va_wd h o
 rw[if_neg h4]
 by_cases h5:o.k=5
 ·rw[if_pos h5];exact va_rem h o
 rw[if_neg h5]
 by_cases h6:o.k=6
 ·rw[if_pos h6];exact va_rule h o
 rw[if_neg h6]
 by_cases h7:o.k=7
 ·rw[if_pos h7];exact va_war h o
 rw[if_neg h7]
 by_cases h8:o.k=8
 ·rw[if_pos h8];exact va_con h o
 rw[if_neg h8]
 by_cases h9:o.k=9
 ·rw[if_pos h9];exact va_put h o
 rw[if_neg h9]
 by_cases h10:o.k=10
 ·rw[if_pos h10];exact va_chg h o
 rw[if_neg h10]
 by_cases h11:o.k=11
 ·rw[if_pos h11];exact va_syn h o
 rw[if_neg h11]
 by_cases h12:o.k=12
 ·rw[if_pos h12];exact va_ver h o
 rw[if_neg h12]
 by_cases h13:o.k=13
 ·rw[if_pos h13];exact va_fnd h o
 rw[if_neg h13]
 exact va_gat h o
theorem SvG.Va.stX (h:x.Va) (o:OrG):(stX x o).Va:=by
 unfold Sr.stX
 split
 ·exact h.doM o
 ·exact h
theorem SvG.Va.ok (h:x.Va):x.OK:=by
 have hg:=EG.val_iff.1 h.g
 have hr:=Rg.RG.sizes h.r
 have h1:=(chOK_iff.1 h.ch).1
 have h2:=h.lg
 simp only [lgOK,Bool.and_eq_true,decide_eq_true_eq] at h2
 exact⟨hg.sm,Rg.RG.valid_OK h.r,by omega,by omega,by omega,by omega,by have:=h.irn;have:=hg.nr;omega,by omega,by have:=h.k4;omega,by omega⟩
end Go.Gx.Sr
namespace Go.Gx.Sr
open Go.RowKit Go.Proofs Go.Proofs.YtncccnmmjfapnaaGreat Go.Gx.Ix
def OrG.fc (o:OrG) (j:Nat):RV:=match o.cells[j]? with | some (.r v)=>v | _=>.any
@[go_sem]theorem OrG.fc0 (o:OrG):o.fc 0=.v (.int .u8 o.k):=rfl
@[go_sem]theorem OrG.fc1 (o:OrG):o.fc 1=.i o.n:=rfl
@[go_sem]theorem OrG.fc2 (o:OrG):o.fc 2=.i o.a:=rfl
@[go_sem]theorem OrG.fc3 (o:OrG):o.fc 3=.i o.b:=rfl
@[go_sem]theorem OrG.fc4 (o:OrG):o.fc 4=.v (.bool o.f):=rfl
@[go_sem]theorem OrG.fc5 (o:OrG):o.fc 5=.w o.x.c:=rfl
@[go_sem]theorem OrG.fc6 (o:OrG):o.fc 6=.w o.x.m:=rfl
@[go_sem]theorem OrG.fc7 (o:OrG):o.fc 7=.w o.s:=rfl
@[go_sem]theorem OrG.fc8 (o:OrG):o.fc 8=.i o.rl.p:=rfl
@[go_sem]theorem OrG.fc9 (o:OrG):o.fc 9=.i o.rl.r:=rfl
@[go_sem]theorem OrG.fc10 (o:OrG):o.fc 10=.i o.rl.l:=rfl
@[go_sem]theorem OrG.fc11 (o:OrG):o.fc 11=.i o.rl.f:=rfl
@[go_sem]theorem OrG.fc12 (o:OrG):o.fc 12=.i o.rl.t:=rfl
@[go_sem]theorem OrG.fc13 (o:OrG):o.fc 13=.i o.rl.k:=rfl
@[go_sem]theorem OrG.fc14 (o:OrG):o.fc 14=.i o.rl.s:=rfl
@[go_sem]theorem OrG.fc15 (o:OrG):o.fc 15=.v (.int .u8 o.rl.b):=rfl
@[go_sem]theorem OrG.fc16 (o:OrG):o.fc 16=.i o.w.l:=rfl
@[go_sem]theorem OrG.fc17 (o:OrG):o.fc 17=.i o.w.p:=rfl
@[go_sem]theorem OrG.fc18 (o:OrG):o.fc 18=.i o.w.f:=rfl
@[go_sem]theorem OrG.fc19 (o:OrG):o.fc 19=.i o.w.t:=rfl
@[go_sem]theorem OrG.fc20 (o:OrG):o.fc 20=.i o.c.p:=rfl
@[go_sem]theorem OrG.fc21 (o:OrG):o.fc 21=.i o.c.q:=rfl
@[go_sem]theorem OrG.fc22 (o:OrG):o.fc 22=.i o.c.u:=rfl
@[go_sem]theorem OrG.fc23 (o:OrG):o.fc 23=.i o.m.l:=rfl
@[go_sem]theorem OrG.fc24 (o:OrG):o.fc 24=.i o.m.p:=rfl
@[go_sem]theorem OrG.fc25 (o:OrG):o.fc 25=.i o.m.s:=rfl
@[go_sem]theorem OrG.fc26 (o:OrG):o.fc 26=.i o.m.u:=rfl
@[go_sem]theorem OrG.fc27 (o:OrG):o.fc 27=.i o.m.n:=rfl
@[go_sem]theorem OrG.fc28 (o:OrG):o.fc 28=.i o.q.p:=rfl
@[go_sem]theorem OrG.fc29 (o:OrG):o.fc 29=.i o.q.r:=rfl
@[go_sem]theorem OrG.fc30 (o:OrG):o.fc 30=.i o.q.l:=rfl
@[go_sem]theorem OrG.fc31 (o:OrG):o.fc 31=.i o.q.w:=rfl
@[go_sem]theorem OrG.fc32 (o:OrG):o.fc 32=.i o.q.t:=rfl
@[go_sem]theorem OrG.fc33 (o:OrG):o.fc 33=.rs 1 o.q.nk λi _=>.i (o.q.k i):=rfl
abbrev ords (l:List OrG):SV:=.r (.rs 34 l.length (rowOf OrG.fc l))
def AnG.f (a:AnG):Nat→RV
 | 0=>.i a.e
 | 1=>.i a.n
 | _=>.rs 5 a.h.length (rowOf HtG.f a.h)
@[go_sem]theorem AnG.f0 (x:AnG):x.f 0=.i x.e:=rfl
@[go_sem]theorem AnG.f1 (x:AnG):x.f 1=.i x.n:=rfl
@[go_sem]theorem AnG.f2 (x:AnG):x.f 2=.rs 5 x.h.length (rowOf HtG.f x.h):=rfl
abbrev ans (l:List AnG):SV:=.r (.rs 3 l.length (rowOf AnG.f l))
def orsE:Int→List OrG→Int
 | e,[]=>e
 | e,o::l=>orsE (if e=0 then ordE o else e) l
def run:SvG→List OrG→List AnG→SvG × List AnG
 | x,[],a=>(x,a)
 | x,o::l,a=>run (stX x o) l (a++[stA x o])
def runE (x:SvG) (l:List OrG):Int:=orsE (if x.setB then (if 300<l.length then 4 else 0) else 2) l
theorem orsE_snoc (o:OrG):∀(l:List OrG) (e:Int),orsE e (l++[o])=if orsE e l=0 then ordE o else orsE e l
 | [],e=>rfl
 | _::l,e=>orsE_snoc o l _
theorem orsE_take {l:List OrG} {i:Nat} (h:i<l.length) (e:Int):orsE e (l.take (i+1))=if orsE e (l.take i)=0 then ordE l[i] else orsE e (l.take i):=by
 rw[List.take_succ_eq_append_getElem h,orsE_snoc]
theorem orsE_zero:∀{l:List OrG} {e:Int},orsE e l=0→e=0∧∀o∈l,ordE o=0
 | [],e,h=>⟨h,λ_ h=>by cases h⟩
 | o::l,e,h=>by
   obtain⟨h1,h2⟩:=orsE_zero (l:=l) h
   by_cases e0:e=0
   ·rw[if_pos e0] at h1
    refine⟨e0,λy hy=>?_⟩
    rcases List.mem_cons.1 hy with rfl | hy
    ·exact h1
    ·exact h2 y hy
   ·rw[if_neg e0] at h1
    exact absurd h1 e0
theorem new_va {x:SvG} (h:x.setB=true):x.new.Va:=by
 have no:∀a:Int,x.new.g.th a=false:=λa=>by
  rw[Bool.eq_false_iff]
  intro ht
  have:=EG.th_lt ht
  have:a<((0:Nat):Int):=this.2
  omega
 refine⟨h,by show EG.zero.valid=true;decide,by show Rg.RG.nil.valid=true;decide,by show chOK []=true;decide,by show lgOK []=true;decide,by show(0:Int)≤0∧(0:Int)≤maxT;decide,by show[].length≤4;decide,rfl,λi hi=>absurd hi (Nat.not_lt_zero i),?_,?_,?_,?_,?_,?_,?_,?_⟩
 ·intro e he;cases he
 ·rintro a ⟨i,hi,_⟩;exact absurd hi (Nat.not_lt_zero i)
 ·rintro a ⟨i,hi,_⟩;exact absurd hi (Nat.not_lt_zero i)
 ·rintro a ⟨i,hi,_⟩;exact absurd hi (Nat.not_lt_zero i)
 ·intro e he;cases he
 ·intro e he;cases he
 ·intro e he;cases he
 ·intro e he;cases he
theorem with_key {A B:Prop} (h:A→B) (a:A):B:=h a
abbrev zbox:Reg:=.box [.i 0,.i 0,.i 0,.i 0,.r (.v (.int .u64 0)),.i 0,nilS,nilS,nilS,nilS,nilS,nilS,nilS,nilS,nilS,nilS,nilS]
theorem run37 (x:SvG) (l:List OrG) (hn:l.length<1000000) (ho:∀o∈l,o.Sm):Pure Tryz.prog 37 [x.ss,ords l] (· =.tup [(if runE x l=0 then (run x.new l []).1 else SvG.zero).sv,ans (if runE x l=0 then (run x.new l []).2 else []),.i (runE x l)]):=by
 refine Pure.ofSub ?_
 refine pure_of_GC T_ok Tryz.func37 rfl (by kernel_rfl) (nb rfl) rfl rfl ?_
 simp[go_sem]
 refine call_val (new25 x) rfl rfl ?_
 obtain⟨e0,he0⟩:∃e:Int,(if x.setB then (if 300<l.length then 4 else 0) else 2)=e:=⟨_,rfl⟩
 have hE:runE x l=orsE e0 l:=by unfold runE;rw[he0]
 rw[hE]
 obtain⟨sb,hsb⟩:∃b,x.setB=b:=⟨_,rfl⟩
 rw[hsb] at he0 ⊢
 obtain⟨y,hy⟩:∃y:SvG,(if sb=true then x.new else SvG.zero)=y:=⟨_,rfl⟩
 rw[hy]
 obtain⟨e1,he1⟩:∃e:Int,(if sb=true then (0:Int) else 2)=e:=⟨_,rfl⟩
 rw[he1]
 simp[go_sem]
 apply with_key (A:=∀E M nx,eqS E [(1,ords l),(4,.ptr 1 0 17 0),(7,.ptr 2 0 17 0),(8,.i e0),(27,ords l),(28,.i l.length),(29,.i 0)]→(3≤nx∧M 1=some zbox∧M 2=some (.box y.cells))→GLoop Tryz.prog T _ _ _ _ E M nx)
 ·intro key
  cases sb
  ·obtain rfl:e1=2:=he1.symm
   have e:e0=2:=he0.symm
   simp[go_sem]
   exact key _ _ _ (by simp[go_sem,e]) (by simp[go_sem])
  obtain rfl:e1=0:=he1.symm
  have he0:(if 300<l.length then 4 else 0)=e0:=he0
  by_cases h3:300<l.length
  ·have h3':(300:Int)<l.length:=by omega
   have e:e0=4:=by rw[← he0,if_pos h3]
   simp[go_sem,h3']
   exact key _ _ _ (by simp[go_sem,e]) (by simp[go_sem])
  ·have h3':¬(300:Int)<l.length:=by omega
   have e:e0=0:=by rw[← he0,if_neg h3]
   simp[go_sem,h3']
   exact key _ _ _ (by simp[go_sem,e]) (by simp[go_sem])
 intro E M nx hE hM
 refine GLoop_p T_ok (α:=Nat) (λi=>[(1,ords l),(4,.ptr 1 0 17 0),(7,.ptr 2 0 17 0),(8,.i (orsE e0 (l.take i))),(27,ords l),(28,.i l.length),(29,.i i)])
  (λi M nx=>i≤l.length∧3≤nx∧M 1=some zbox∧M 2=some (.box y.cells)) (λi=>l.length - i) 0 ?_ ?_ ?_
 ·exact⟨Nat.zero_le _,hM⟩
 ·exact hE
 clear hE hM
 rintro i J M nx _ ⟨hi,hnx,m1,m2⟩
 have b1:¬1=nx:=by omega
 have b2:¬2=nx:=by omega
 have b1':¬nx=1:=by omega
 have b2':¬nx=2:=by omega
 by_cases hlt:i<l.length
 ·have hrow:=rowOf_get (f:=OrG.fc) hlt
  have hs:=orsE_take hlt e0
  obtain⟨e,he⟩:∃e,orsE e0 (l.take i)=e:=⟨_,rfl⟩
  have hmem:=ho _ (List.getElem_mem hlt)
  obtain⟨o,hoo⟩:∃o,l[i]=o:=⟨_,rfl⟩
  rw[he] at hs
  rw[hoo] at hrow hs hmem
  by_cases e0':e=0
  ·rw[if_pos e0'] at hs
   simp[go_sem,hlt,hrow,he,e0',m1,m2,b1,b2,b1',b2']
   refine call_val (checkOrder34 o hmem.q) rfl rfl ?_
   simp[go_sem,hlt,hrow,he,e0',m1,m2,b1,b2,b1',b2']
   exact⟨⟨by omega,by omega⟩,i+1,by omega,⟨hs.symm,by omega⟩,by omega,by omega⟩
  ·rw[if_neg e0'] at hs
   simp[go_sem,hlt,hrow,he,e0',m1,m2,b1,b2,b1',b2']
   exact⟨⟨by omega,by omega⟩,i+1,by omega,⟨hs.symm,by omega⟩,by omega,by omega⟩
 obtain rfl:i=l.length:=by omega
 rw[List.take_length]
 have hfin:=λh=>orsE_zero (l:=l) (e:=e0) h
 obtain⟨E0,hE0⟩:∃e,orsE e0 l=e:=⟨_,rfl⟩
 rw[hE0] at hfin ⊢
 by_cases hz:E0=0
 rotate_left
 ·simp[go_sem,hz,m1,m2]
  exact⟨rfl,rfl,rfl,rfl,rfl,rfl,rfl,rfl,rfl,rfl,rfl,rfl,rfl,rfl,rfl,rfl,rfl⟩
 obtain⟨hz0,hoE⟩:=hfin hz
 have hsb':x.setB=true:=by
  cases sb with
  | true=>exact hsb
  | false=>rw[hz0] at he0;cases he0
 have hyy:y=x.new:=by rw[← hy,if_pos (hsb▸hsb')]
 have hyv:y.Va:=by rw[hyy];exact new_va hsb'
 rw[← hyy]
 obtain⟨R,hR⟩:∃R,run y l []=R:=⟨_,rfl⟩
 rw[hR]
 simp[go_sem,hz,m1,m2]
 refine GLoop_pre (GSt.adopt 12 51 3 (λ_ _=>.r .any) (by simp[go_sem])) ?_
 refine GLoop_pv T_ok (α:=Nat × SvG × List AnG) (λs=>[(1,ords l),(4,.ptr 1 0 17 0),(11,.ptr nx 0 17 0),(12,.sl (nx+1) 3 0 s.2.2.length none),(45,ords l),(46,.i l.length),(47,.i s.1)])
  (λs M nx'=>s.1≤l.length∧nx+2≤nx'∧M 1=some zbox∧M nx=some (.box s.2.1.cells)∧(∃G,M (nx+1)=some (.vec 51 3 s.2.2.length G)∧∀i j,i<s.2.2.length→j<3→G i j=.r (rowOf AnG.f s.2.2 i j))∧s.2.1.Va∧s.2.2.length≤s.1∧R=run s.2.1 (l.drop s.1) s.2.2) (λs=>l.length - s.1) (0,y,[]) ?_ ?_ ?_
 ·refine⟨Nat.zero_le _,Nat.le_refl _,?_,?_,⟨λ_ _=>.r .any,?_,λi j hi=>absurd hi (Nat.not_lt_zero i)⟩,hyv,Nat.le_refl _,hR.symm⟩
  ·have:¬1=nx+1:=by omega
   have t2:¬nx=0:=by omega
   simp[go_sem,this,b1,m1,t2]
  ·simp[go_sem]
  ·simp[go_sem]
 ·simp[go_sem]
 rintro⟨k,z,al⟩ J M nx' _ ⟨hk,hnx',m1,m3,⟨G,m4,hG⟩,hzv,hak,hM⟩
 dsimp only at *
 by_cases hlt:k<l.length
 ·have hrow:=rowOf_get (f:=OrG.fc) hlt
  have hmem:=ho _ (List.getElem_mem hlt)
  have hoE:=hoE _ (List.getElem_mem hlt)
  have hdrop:l.drop k=l[k]::l.drop (k+1):=List.drop_eq_getElem_cons hlt
  obtain⟨o,hoo⟩:∃o,l[k]=o:=⟨_,rfl⟩
  rw[hoo] at hrow hmem hdrop hoE
  rw[hdrop] at hM
  have d1:¬1=nx':=by omega
  have d2:¬nx=nx':=by omega
  have d3:¬nx+1=nx':=by omega
  have d1':¬nx'=1:=by omega
  have d2':¬nx'=nx:=by omega
  have d3':¬nx'=nx+1:=by omega
  have hstep:=step66 z o hzv.ok (SvG.va_iff.2 hzv) ⟨(ordE_in hoE).1,(ordE_in hoE).2,hmem.b,hmem.q⟩
  simp[go_sem,hlt,hrow,m1,m3,m4,d1,d2,d3,d1',d2',d3']
  obtain⟨z',hz'⟩:∃z',stX z o=z':=⟨_,rfl⟩
  obtain⟨a,ha⟩:∃a,stA z o=a:=⟨_,rfl⟩
  have hM:R=run (stX z o) (l.drop (k+1)) (al++[stA z o]):=hM
  have hzv':=hzv.stX o
  rw[hz',ha] at hstep hM
  rw[hz'] at hzv'
  have har:∀j,j<3→([.i a.e,.i a.n,hts a.h]:List SV)[0*3+j]?.getD (SV.r .any)=.r (a.f j):=by
   intro j hj
   rcases(by omega:j=0∨j=1∨j=2) with rfl | rfl | rfl <;> rfl
  refine callK_ownS [nx] hstep (Nat.le_refl _) (by simp) rfl ⟨?_,trivial⟩ ?_
  ·simp[go_sem,m3,d2]
  have c1:¬nx=nx'+1:=by omega
  have c2:¬nx+1=nx'+1:=by omega
  have c3:¬1=nx'+1:=by omega
  have c4:¬nx=nx'+1+1:=by omega
  have c5:¬nx+1=nx'+1+1:=by omega
  have c6:¬1=nx'+1+1:=by omega
  have c1':¬nx'+1=nx:=by omega
  have c2':¬nx'+1=nx+1:=by omega
  have c3':¬nx'+1=1:=by omega
  have c4':¬nx'+1+1=nx:=by omega
  have c5':¬nx'+1+1=nx+1:=by omega
  have c6':¬nx'+1+1=1:=by omega
  have c7:¬nx=0:=by omega
  simp[go_sem,m1,m3,m4,d1,d2,d3,d1',d2',d3',b1,b2,b1',b2',c1,c2,c3,c4,c5,c6,c1',c2',c3',c4',c5',c6',c7]
  refine⟨⟨by omega,by omega⟩,⟨by omega,by omega⟩,vq_done ?_⟩
  rw[LP_normal]
  refine⟨(k+1,z',al++[a]),(show l.length - (k+1)<l.length - k by omega),?_,(show k+1≤l.length by omega),(show nx+2≤nx'+1+1+1 by omega),?_,?_,⟨λi j=>SV.kill (nx+1) (joined al.length 1 G (λi j=>[.i a.e,.i a.n,hts a.h][i*3+j]?.getD (SV.r .any)) i j),?_,?_⟩,hzv',?_,hM⟩
  ·simp[go_sem]
  ·simp[go_sem,m1,m3,m4,d1,d2,d3,d1',d2',d3',b1,b2,b1',b2',c1,c2,c3,c4,c5,c6,c1',c2',c3',c4',c5',c6',c7]
  ·simp[go_sem,m1,m3,m4,d1,d2,d3,d1',d2',d3',b1,b2,b1',b2',c1,c2,c3,c4,c5,c6,c1',c2',c3',c4',c5',c6',c7]
  ·simp[go_sem]
  ·exact snoc_rowsG hG λj hj=>har j hj
  ·show(al++[a]).length≤k+1
   simp;omega
 obtain rfl:k=l.length:=by omega
 rw[List.drop_length] at hM
 have hM:R=(z,al):=hM
 rw[hM]
 simp[go_sem,m1,m3,m4]
 refine vq_step (GSt.freeze (nx+1) m4) (vq_done ?_)
 rw[LP_exit]
 have c7:¬nx=0:=by omega
 have c8:¬nx+1=nx:=by omega
 simp[go_sem,m1,m3,m4,b1,b2,b1',b2',c7,c8]
 intro i j hi hj
 rw[hG i j hi hj]
 rfl
def OrG.z:OrG:=⟨0,0,0,0,false,⟨0#64,0#64⟩,0#64,⟨0,0,0,0,0,0,0,0⟩,⟨0,0,0,0⟩,⟨0,0,0⟩,⟨0,0,0,0,0⟩,⟨0,0,0,0,0,0,λ_=>0⟩⟩
def eyeG (c:W64):IrG:=⟨c,4294967295#64⟩
def qtr:SvG:={SvG.zero with num:=1,den:=4,mage:=100,key:=77#64}
def enrO (n:Int) (c:W64):OrG:={OrG.z with k:=2,n:=n,x:=eyeG c}
def twoL:List OrG:=[enrO 50 0#64,enrO 60 255#64]
def rulO:OrG:={OrG.z with k:=6,rl:=⟨1,0,0,0,1000,1,1,3⟩}
def fndO (c:W64) (nk:Nat) (k:Nat→Int):OrG:={OrG.z with k:=13,x:=eyeG c,s:=5#64,q:=⟨1,0,0,0,0,nk,k⟩}
def verO (c:W64):OrG:={OrG.z with k:=12,x:=eyeG c,s:=9#64}
def synO:OrG:={OrG.z with k:=11}
def tckO (n:Int):OrG:={OrG.z with k:=1,n:=n}
def gatO:OrG:={OrG.z with k:=14,x:=eyeG 0#64}
def endE (l:List OrG):Int:=runE qtr (twoL++l)
def endX (l:List OrG):SvG:=if endE l=0 then (run qtr.new (twoL++l) []).1 else SvG.zero
def endA (l:List OrG):AnG:=if endE l=0 then ((run qtr.new (twoL++l) []).2)[l.length+1]?.getD AnG.zero else bad 8
deriving instance DecidableEq for AnG
theorem ex1:endA [verO 255#64]=okA 1:=by kernel_rfl
theorem ex1l:(endX [verO 255#64]).lg.length=1:=by kernel_rfl
theorem ex2:endA [verO 511#64]=okA 2:=by kernel_rfl
theorem ex3:endA [rulO,fndO 15#64 1 λ_=>3]=⟨0,2,[⟨0,1,false,0,0⟩,⟨1,1,false,0,0⟩]⟩:=by kernel_rfl
theorem ex4:endA [rulO,fndO 15#64 0 λ_=>0]=okA 0:=by kernel_rfl
theorem ex5:endA [synO,tckO 99,gatO]=okA 1:=by kernel_rfl
theorem ex6:endA [synO,tckO 99,tckO 1,gatO]=okA 3:=by kernel_rfl
theorem eye46 (c:W64):Pure Tryz.prog 46 [.w c] (· =(eyeG c).sv):=by
 refine pure_of_GC T_ok Tryz.func46 rfl (by kernel_rfl) (nb rfl) rfl rfl ?_
 simp[go_sem,eyeG]
theorem quarter48:Pure Tryz.prog 48 [] (· =qtr.ss):=by
 refine pure_of_GC T_ok Tryz.func48 rfl (by kernel_rfl) (nb rfl) rfl rfl ?_
 simp[go_sem,qtr,SvG.zero]
theorem rule61:Pure Tryz.prog 61 [] (· =rulO.sv):=by
 refine Pure.ofSub ?_
 refine pure_of_GC T_ok Tryz.func61 rfl (by kernel_rfl) (nb rfl) rfl rfl ?_
 simp[go_sem,rulO,OrG.z]
theorem find62 (c:W64) (nk:Nat) (k:Nat→Int):Pure Tryz.prog 62 [.w c,.r (.rs 1 nk λi _=>.i (k i))] (· =(fndO c nk k).sv):=by
 refine pure_of_GC T_ok Tryz.func62 rfl (by kernel_rfl) (nb rfl) rfl rfl ?_
 simp[go_sem]
 refine call_val (eye46 c) rfl rfl ?_
 simp[go_sem,fndO,OrG.z]
theorem RV.le_sub {x y:RV} (h:x.sub y):x.le y:=λZ w v hr=>RV.sub_rel h hr
def OrG.cn (o:OrG):List SV:=o.cells.take 33++[if o.q.nk=0 then nilS else o.q.ks]
theorem OrG.cn_le (o:OrG) {j:Nat} (hj:j<34):((o.cn[j]?).getD (SV.r .any)).toRV.le (o.fc j):=by
 rcases j with _ | _ | _ | _ | _ | _ | _ | _ | _ | _ | _ | _ | _ | _ | _ | _ | _ | _ | _ | _ | _ | _ | _ | _ | _ | _ | _ | _ | _ | _ | _ | _ | _ | _ | j
 iterate 33 exact RV.le_rfl
 ·show RV.le (SV.toRV (if o.q.nk=0 then nilS else o.q.ks)) (o.fc 33)
  split
  ·refine RV.le_sub ?_
   show o.q.nk=0
   assumption
  ·exact RV.le_rfl
 ·omega
theorem cn_rows:∀(l:List OrG) (i j:Nat),i<l.length→j<34→(((l.map OrG.cn).flatten)[i*34+j]?.getD (SV.r .any)).toRV.le (rowOf OrG.fc l i j)
 | [],i,j,h,_=>absurd h (Nat.not_lt_zero i)
 | o::l,0,j,_,hj=>by
   rw[List.map_cons,List.flatten_cons,Nat.zero_mul,Nat.zero_add,List.getElem?_append_left (by exact hj)]
   exact o.cn_le hj
 | o::l,i+1,j,hi,hj=>by
   rw[List.map_cons,List.flatten_cons,List.getElem?_append_right (by show 34≤_;omega)]
   have e:(i+1)*34+j - o.cn.length=i*34+j:=by show(i+1)*34+j - 34=_;omega
   rw[e]
   exact cn_rows l i j (by simpa using hi) hj
theorem le_ords {l:List OrG} {get:Nat→Nat→RV} (h:∀i j,i<l.length→j<34→(get i j).le (rowOf OrG.fc l i j)):(SV.r (.rs 34 l.length get)).le (ords l):=le_r (rle_rs h)
def cnR (l:List OrG) (i j:Nat):RV:=(((l.map OrG.cn).flatten)[i*34+j]?.getD (SV.r .any)).toRV
theorem two101:Own Tryz.prog 101 [] [] (.sl 0 34 0 2 none) [.vec 66 34 2 λi j=>.r (cnR twoL i j)]:=by
 refine own_of_GC T_ok Tryz.func101 rfl (by kernel_rfl) (nb rfl) rfl rfl ?_
 simp[go_sem]
 refine call_val (eye46 0#64) rfl rfl ?_
 simp[go_sem]
 refine call_val (eye46 255#64) rfl rfl ?_
 simp[go_sem]
 refine⟨[0],by simp,λN=>⟨by simp[go_sem],?_⟩⟩
 simp[go_sem]
 have key:∀n,n<68→(twoL.map OrG.cn).flatten[n]?.getD (SV.r .any)=SV.r (((twoL.map OrG.cn).flatten)[n]?.getD (SV.r .any)).toRV:=by
  intro n hn
  iterate 68 (rcases n with _ | n;rfl)
  omega
 intro i j hi hj
 exact key (i*34+j) (by omega)
theorem run_len:∀(l:List OrG) (x:SvG) (a:List AnG),(run x l a).2.length=a.length+l.length
 | [],x,a=>rfl
 | o::l,x,a=>by
   unfold run
   rw[run_len l]
   simp
   omega
theorem ends47 (l:List OrG) (hn:l.length<100000) (ho:∀o∈l,o.Sm):Pure Tryz.prog 47 [ords l] (· =.tup [(endX l).sv,(endA l).sv]):=by
 refine Pure.ofSub ?_
 refine pure_of_GC T_ok Tryz.func47 rfl (by kernel_rfl) (nb rfl) rfl rfl ?_
 simp[go_sem]
 refine call_val quarter48 rfl rfl ?_
 simp[go_sem]
 refine callK_own [] two101 (by simp) rfl trivial ?_
 simp[go_sem]
 refine⟨⟨by omega,by omega⟩,?_⟩
 refine callK_freeze 2 (by simp[go_sem];rfl) ?_
 simp[go_sem]
 have hr:=run37 qtr (twoL++l) (by simp[twoL];omega) (λo h=>by
  rcases List.mem_append.1 h with h | h
  ·simp only [twoL,List.mem_cons,List.not_mem_nil,or_false] at h
   rcases h with rfl | rfl <;> exact⟨⟨by decide,by decide⟩,by decide⟩
  ·exact ho o h)
 have hlen:(twoL++l).length=2+l.length:=by simp[twoL];omega
 rw[← hlen]
 refine call_val (hr.args ⟨SV.le.rfl,le_ords λi j hi hj=>?_,trivial⟩) rfl rfl ?_
 ·show RV.le (SV.toRV (SV.kill 2 (joined 2 l.length (λi j=>.r (cnR twoL i j)) (λi j=>.r (rowOf OrG.fc l i j)) i j))) _
  unfold joined
  by_cases h2:i<2
  ·rw[if_pos h2]
   have e:rowOf OrG.fc (twoL++l) i j=rowOf OrG.fc twoL i j:=by unfold rowOf;rw[List.getElem?_append_left (by simpa [twoL] using h2)]
   rw[e]
   exact cn_rows twoL i j (by simpa [twoL] using h2) hj
  ·rw[if_neg h2,if_pos (by omega)]
   have e:rowOf OrG.fc (twoL++l) i j=rowOf OrG.fc l (i - 2) j:=by
    unfold rowOf
    rw[List.getElem?_append_right (by simpa [twoL] using h2)]
    rfl
   rw[e]
   exact RV.le_rfl
 unfold endX endA
 obtain⟨E,hE⟩:∃e,runE qtr (twoL++l)=e:=⟨_,rfl⟩
 have hE':endE l=E:=hE
 obtain⟨R,hR⟩:∃R,run qtr.new (twoL++l) []=R:=⟨_,rfl⟩
 have hRl:=run_len (twoL++l) qtr.new []
 rw[hR,hlen] at hRl
 rw[hE,hE',hR]
 obtain⟨X,A⟩:=R
 have hRl:A.length=0+(2+l.length):=hRl
 by_cases he:E=0
 rotate_left
 ·simp[go_sem,he,bad,SvG.zero,EG.zero,Rg.RG.nil]
 have hget:(A[l.length+1]?).getD AnG.zero=A[l.length+1]:=by rw[List.getElem?_eq_getElem (by omega)];rfl
 have hrow:=rowOf_get (f:=AnG.f) (l:=A) (i:=l.length+1) (by omega)
 have h2:(2:Int)+l.length=l.length+2:=by omega
 have h3:(2:Int)+l.length - 1=((l.length+1:Nat):Int):=by omega
 rw[hget]
 obtain⟨a,ha⟩:∃a,A[l.length+1]=a:=⟨_,rfl⟩
 rw[ha] at hrow ⊢
 simp[go_sem,he,hRl,h2]
 refine⟨⟨by omega,by omega⟩,?_⟩
 refine GDraw_l (t:=(.take 0 (.take 1 (.take 2 (.take 3 (.take 4 (.take 5 (.take 6 (.alt 7 [6,5,4,3,2,1,0] (.alt 8 [6,5,4,3,2,1] (.done []) .nil) .nil))))))))) T_ok (by kernel_rfl) (by kernel_rfl) (by kernel_rfl) (λ_ _ _ _ h=>h) ?_
 have h4:(2+(l.length:Int)).toNat - 1=l.length+1:=by omega
 simp[go_sem,hRl,h4,hrow]
 omega
theorem sm_of {l:List OrG} (h:(l.all λo=>(decide (0≤o.rl.b)&&decide (o.rl.b<256))&&decide (o.q.nk<100))=true):∀o∈l,o.Sm:=λo ho=>by
 have:=List.all_eq_true.1 h o ho
 simp only [Bool.and_eq_true,decide_eq_true_eq] at this
 exact⟨⟨by omega,by omega⟩,by omega⟩
theorem ends_of (l:List OrG) (hn:l.length<100000) (hs:(l.all λo=>(decide (0≤o.rl.b)&&decide (o.rl.b<256))&&decide (o.q.nk<100))=true) {X:SvG} {A:AnG} (hX:endX l=X) (hA:endA l=A) {get:Nat→Nat→RV} {n:Nat} (hln:l.length=n)
 (h:∀i j,i<l.length→j<34→get i j=cnR l i j):Pure Tryz.prog 47 [.r (.rs 34 n get)] (· =.tup [X.sv,A.sv]):=by
 subst hln
 have:=ends47 l hn (sm_of hs)
 rw[hX,hA] at this
 exact this.args ⟨le_ords λi j hi hj=>by rw[h i j hi hj];exact cn_rows l i j hi hj,trivial⟩
theorem row_of {l:List OrG} {cs:List SV} (h:cs=(l.map OrG.cn).flatten) (i j:Nat):(cs[i*34+j]?.getD (SV.r .any)).toRV=cnR l i j:=by rw[h];rfl
def crR (l:List OrG) (i j:Nat):RV:=(((l.map OrG.cells).flatten)[i*34+j]?.getD (SV.r .any)).toRV
theorem cr_rows:∀(l:List OrG) (i j:Nat),i<l.length→j<34→crR l i j=rowOf OrG.fc l i j
 | [],i,j,h,_=>absurd h (Nat.not_lt_zero i)
 | o::l,0,j,_,hj=>by
   unfold crR
   rw[List.map_cons,List.flatten_cons,Nat.zero_mul,Nat.zero_add,List.getElem?_append_left (by exact hj)]
   show _=o.fc j
   have:∀j,j<34→((o.cells[j]?).getD (SV.r .any)).toRV=o.fc j:=λj hj=>by
    rcases j with _ | _ | _ | _ | _ | _ | _ | _ | _ | _ | _ | _ | _ | _ | _ | _ | _ | _ | _ | _ | _ | _ | _ | _ | _ | _ | _ | _ | _ | _ | _ | _ | _ | _ | j
    iterate 34 rfl
    omega
   exact this j hj
 | o::l,i+1,j,hi,hj=>by
   have ih:=cr_rows l i j (by simpa using hi) hj
   unfold crR at ih ⊢
   rw[List.map_cons,List.flatten_cons,List.getElem?_append_right (by show 34≤_;omega)]
   have e:(i+1)*34+j - o.cells.length=i*34+j:=by show(i+1)*34+j - 34=_;omega
   rw[e,ih]
   rfl
theorem ends_ofc (l:List OrG) (hn:l.length<100000) (hs:(l.all λo=>(decide (0≤o.rl.b)&&decide (o.rl.b<256))&&decide (o.q.nk<100))=true) {X:SvG} {A:AnG} (hX:endX l=X) (hA:endA l=A) {get:Nat→Nat→RV} {n:Nat} (hln:l.length=n)
 (h:∀i j,i<l.length→j<34→get i j=crR l i j):Pure Tryz.prog 47 [.r (.rs 34 n get)] (· =.tup [X.sv,A.sv]):=by
 subst hln
 have:=ends47 l hn (sm_of hs)
 rw[hX,hA] at this
 exact this.args ⟨le_ords λi j hi hj=>RV.le_eq (by rw[h i j hi hj];exact cr_rows l i j hi hj),trivial⟩
theorem row_ofc {l:List OrG} {cs:List SV} (h:cs=(l.map OrG.cells).flatten) (i j:Nat):(cs[i*34+j]?.getD (SV.r .any)).toRV=crR l i j:=by rw[h];rfl
theorem alive16:Pure Tryz.prog 16 [] (· =.b true):=by
 refine pure_of_GC T_ok Tryz.func16 rfl (by kernel_rfl) (nb rfl) rfl rfl ?_
 simp[go_sem]
 refine call_val (eye46 255#64) rfl rfl ?_
 simp[go_sem]
 refine callK_freeze 1 (by simp[go_sem];rfl) ?_
 simp[go_sem]
 obtain⟨X1,hX1⟩:∃X,endX [verO 255#64]=X:=⟨_,rfl⟩
 have hl1:X1.lg.length=1:=by rw[← hX1];exact ex1l
 refine call_val (ends_of [verO 255#64] (by decide) rfl hX1 ex1 rfl (λi j _ _=>row_of (l:=[verO 255#64]) rfl i j)) rfl rfl ?_
 clear hX1
 simp[go_sem]
 refine call_val (eye46 511#64) rfl rfl ?_
 simp[go_sem]
 refine callK_freeze 4 (by simp[go_sem];rfl) ?_
 simp[go_sem]
 obtain⟨X2,hX2⟩:∃X,endX [verO 511#64]=X:=⟨_,rfl⟩
 refine call_val (ends_of [verO 511#64] (by decide) rfl hX2 ex2 rfl (λi j _ _=>row_of (l:=[verO 511#64]) rfl i j)) rfl rfl ?_
 clear hX2
 simp[go_sem]
 refine call_val rule61 rfl rfl ?_
 simp[go_sem]
 refine callK_freeze 7 (by simp[go_sem];rfl) ?_
 simp[go_sem]
 refine call_val ((find62 15#64 1 λ_=>3).args ⟨SV.le.rfl,le_rs λi j hi hj=>?_,trivial⟩) rfl rfl ?_
 ·obtain rfl:i=0:=by omega
  obtain rfl:j=0:=by omega
  rfl
 simp[go_sem]
 refine callK_freeze 8 (by simp[go_sem];rfl) ?_
 simp[go_sem]
 obtain⟨X3,hX3⟩:∃X,endX [rulO,fndO 15#64 1 λ_=>3]=X:=⟨_,rfl⟩
 refine call_val (ends_ofc [rulO,fndO 15#64 1 λ_=>3] (by decide) rfl hX3 ex3 rfl (λi j _ _=>row_ofc (l:=[rulO,fndO 15#64 1 λ_=>3]) rfl i j)) rfl rfl ?_
 clear hX3
 simp[go_sem]
 refine call_val rule61 rfl rfl ?_
 simp[go_sem]
 refine call_val ((find62 15#64 0 λ_=>0).args ⟨SV.le.rfl,le_r (RV.le_sub rfl),trivial⟩) rfl rfl ?_
 simp[go_sem]
 refine callK_freeze 11 (by simp[go_sem];rfl) ?_
 simp[go_sem]
 obtain⟨X4,hX4⟩:∃X,endX [rulO,fndO 15#64 0 λ_=>0]=X:=⟨_,rfl⟩
 refine call_val (ends_ofc [rulO,fndO 15#64 0 λ_=>0] (by decide) rfl hX4 ex4 rfl (λi j _ _=>row_ofc (l:=[rulO,fndO 15#64 0 λ_=>0]) rfl i j)) rfl rfl ?_
 clear hX4
 simp[go_sem]
 refine call_val (eye46 0#64) rfl rfl ?_
 simp[go_sem]
 refine callK_freeze 17 (by simp[go_sem];rfl) ?_
 simp[go_sem]
 obtain⟨X5,hX5⟩:∃X,endX [synO,tckO 99,gatO]=X:=⟨_,rfl⟩
 refine call_val (ends_of [synO,tckO 99,gatO] (by decide) rfl hX5 ex5 rfl (λi j _ _=>row_of (l:=[synO,tckO 99,gatO]) rfl i j)) rfl rfl ?_
 clear hX5
 simp[go_sem]
 refine callK_freeze 20 (by simp[go_sem];rfl) ?_
 simp[go_sem]
 obtain⟨X6,hX6⟩:∃X,endX [synO,tckO 99,tckO 1,gatO]=X:=⟨_,rfl⟩
 refine call_val (ends_of [synO,tckO 99,tckO 1,gatO] (by decide) rfl hX6 ex6 rfl (λi j _ _=>row_of (l:=[synO,tckO 99,tckO 1,gatO]) rfl i j)) rfl rfl ?_
 clear hX6
 simp[go_sem]
 have r0:rowOf HtG.f [⟨0,1,false,0,0⟩,⟨1,1,false,0,0⟩] 1 0=.i 1:=rfl
 have r1:rowOf HtG.f [⟨0,1,false,0,0⟩,⟨1,1,false,0,0⟩] 1 1=.i 1:=rfl
 have r2:rowOf HtG.f [⟨0,1,false,0,0⟩,⟨1,1,false,0,0⟩] 1 2=.v (.bool false):=rfl
 have r3:rowOf HtG.f [⟨0,1,false,0,0⟩,⟨1,1,false,0,0⟩] 1 3=.i 0:=rfl
 have r4:rowOf HtG.f [⟨0,1,false,0,0⟩,⟨1,1,false,0,0⟩] 1 4=.i 0:=rfl
 simp[go_sem,hl1,okA,r0,r1,r2,r3,r4]
end Go.Gx.Sr
namespace Go.Gx.Rg
open Go.RowKit Go.Proofs Go.Proofs.YtncccnmmjfapnaaGreat
def RG.By (g:RG):Prop:=∀i,i<g.nr→(g.r i).byte
theorem OK_of {g:RG} (hb:g.By) (h:g.great=false):g.OK:=by
 simp[RG.great] at h
 exact⟨by omega,by omega,by omega,by omega,hb⟩
end Go.Gx.Rg
namespace Go.Gx.Rg
open Go.RowKit Go.WideShapes Go.ChangeShapes Go.Proofs Go.Proofs.YtncccnmmjfapnaaGreat
abbrev csI:CS:=.sc (.int .i64)
abbrev csRule:List CS:=[csI,csI,csI,csI,csI,csI,csI,.sc (.int .u8)]
abbrev csI3:List CS:=[csI,csI,csI]
abbrev csI4:List CS:=[csI,csI,csI,csI]
abbrev csI5:List CS:=[csI,csI,csI,csI,csI]
abbrev slOf (l:List CS):CS:=.sl l.length λj=>l.getD j (.sc .bool)
section
variable {W:World}
abbrev ZW (W:World):Nat→Prop:=λb=>b<W.heap.size
theorem one_vi {k:IntKind} {v:Value} (h:CSok W (.sc (.int k)) v):v.oneCell'=true:=by rw[ok_int h];rfl
theorem rel_vi {Z:Nat→Prop} {v:Value} (h:CSok W csI v):(RV.i (vi v)).rel Z W v:=ok_int h
theorem rel_vu {Z:Nat→Prop} {k:IntKind} {v:Value} (h:CSok W (.sc (.int k)) v):(RV.v (.int k (vi v))).rel Z W v:=ok_int h
def rowR (f:Nat→Value):RuleG:=⟨vi (f 0),vi (f 1),vi (f 2),vi (f 3),vi (f 4),vi (f 5),vi (f 6),vi (f 7)⟩
def rowC (f:Nat→Value):ConG:=⟨vi (f 0),vi (f 1),vi (f 2)⟩
def rowW (f:Nat→Value):WarG:=⟨vi (f 0),vi (f 1),vi (f 2),vi (f 3)⟩
def rowM (f:Nat→Value):MarkG:=⟨vi (f 0),vi (f 1),vi (f 2),vi (f 3),vi (f 4)⟩
theorem rule_rows {v:Value} (h:CSok W (slOf csRule) v):∃(n:Nat) (r:Nat→RuleG),(∀i,i<n→(r i).byte)∧∀σ,(RuleG.rs n r).rel σ (ZW W) W v:=by
 obtain⟨n,cv,_,h1,h2⟩:=rows_of h
 refine⟨n,λi=>rowR (cv i),λi hi=>ok_u8 (h1 i 7 hi (by decide)),λσ=>h2 _ (λi j hi hj=>?_) σ⟩
 have hc:=h1 i j hi hj
 match j,hj,hc with
 | 0,_,hc=>exact⟨one_vi hc,rel_vi hc⟩
 | 1,_,hc=>exact⟨one_vi hc,rel_vi hc⟩
 | 2,_,hc=>exact⟨one_vi hc,rel_vi hc⟩
 | 3,_,hc=>exact⟨one_vi hc,rel_vi hc⟩
 | 4,_,hc=>exact⟨one_vi hc,rel_vi hc⟩
 | 5,_,hc=>exact⟨one_vi hc,rel_vi hc⟩
 | 6,_,hc=>exact⟨one_vi hc,rel_vi hc⟩
 | 7,_,hc=>exact⟨one_vi hc,rel_vu hc⟩
 | j+8,hj,_=>exact absurd hj (by simp)
theorem con_rows {v:Value} (h:CSok W (slOf csI3) v):∃(n:Nat) (r:Nat→ConG),∀σ,(ConG.rs n r).rel σ (ZW W) W v:=by
 obtain⟨n,cv,_,h1,h2⟩:=rows_of h
 refine⟨n,λi=>rowC (cv i),λσ=>h2 _ (λi j hi hj=>?_) σ⟩
 have hc:=h1 i j hi hj
 match j,hj,hc with
 | 0,_,hc=>exact⟨one_vi hc,rel_vi hc⟩
 | 1,_,hc=>exact⟨one_vi hc,rel_vi hc⟩
 | 2,_,hc=>exact⟨one_vi hc,rel_vi hc⟩
 | j+3,hj,_=>exact absurd hj (by simp)
theorem war_rows {v:Value} (h:CSok W (slOf csI4) v):∃(n:Nat) (r:Nat→WarG),∀σ,(WarG.rs n r).rel σ (ZW W) W v:=by
 obtain⟨n,cv,_,h1,h2⟩:=rows_of h
 refine⟨n,λi=>rowW (cv i),λσ=>h2 _ (λi j hi hj=>?_) σ⟩
 have hc:=h1 i j hi hj
 match j,hj,hc with
 | 0,_,hc=>exact⟨one_vi hc,rel_vi hc⟩
 | 1,_,hc=>exact⟨one_vi hc,rel_vi hc⟩
 | 2,_,hc=>exact⟨one_vi hc,rel_vi hc⟩
 | 3,_,hc=>exact⟨one_vi hc,rel_vi hc⟩
 | j+4,hj,_=>exact absurd hj (by simp)
theorem mark_rows {v:Value} (h:CSok W (slOf csI5) v):∃(n:Nat) (r:Nat→MarkG),∀σ,(MarkG.rs n r).rel σ (ZW W) W v:=by
 obtain⟨n,cv,_,h1,h2⟩:=rows_of h
 refine⟨n,λi=>rowM (cv i),λσ=>h2 _ (λi j hi hj=>?_) σ⟩
 have hc:=h1 i j hi hj
 match j,hj,hc with
 | 0,_,hc=>exact⟨one_vi hc,rel_vi hc⟩
 | 1,_,hc=>exact⟨one_vi hc,rel_vi hc⟩
 | 2,_,hc=>exact⟨one_vi hc,rel_vi hc⟩
 | 3,_,hc=>exact⟨one_vi hc,rel_vi hc⟩
 | 4,_,hc=>exact⟨one_vi hc,rel_vi hc⟩
 | j+5,hj,_=>exact absurd hj (by simp)
theorem int_rows {v:Value} (h:CSok W (slOf [csI]) v):∃(n:Nat) (r:Nat→Int),∀σ,(SV.r (.rs 1 n λi _=>.i (r i))).rel σ (ZW W) W v:=by
 obtain⟨n,cv,_,h1,h2⟩:=rows_of h
 refine⟨n,λi=>vi (cv i 0),λσ=>h2 _ (λi j hi hj=>?_) σ⟩
 have hj0:j=0:=by simp at hj;omega
 subst hj0
 have hc:=h1 i 0 hi hj
 exact⟨one_vi hc,rel_vi hc⟩
section
variable {H:Type} {enc:TypeId × Value→H} {base:Nat} {spare:Nat→Bool} {held:Bool}
theorem int_arg {v:Value} {d:DataW H} {p:List MemPlace} {r:Reach} {b0:Nat} (hv:Value.okWide Tryz.prog W r b0 3 v) (h:DataW.Trod enc Tryz.prog W base spare held 3 v d p) :
 ∃n:Int,v=.int .i64 n∧-9223372036854775808≤n∧n≤9223372036854775807:=by
 obtain⟨n,rfl,_,_,hw⟩:=open_int Tryz.underlying3 hv h
 refine⟨n,rfl,?_⟩
 simp[Lit.wf,IntKind.min,IntKind.max,IntKind.bits,IntKind.signed] at hw
 omega
end
end
end Go.Gx.Rg
namespace Go.Gx.Sr
open Go.RowKit Go.WideShapes Go.ChangeShapes Go.Proofs Go.Proofs.YtncccnmmjfapnaaGreat
abbrev csW:CS:=.sc (.int .u64)
abbrev csY:CS:=.sc (.int .u8)
abbrev csO:List CS:=[csY,csI,csI,csI,csB,csW,csW,csW,csI,csI,csI,csI,csI,csI,csI,csY,csI,csI,csI,csI,csI,csI,csI,csI,csI,csI,csI,csI,csI,csI,csI,csI,csI,slOf [csI]]
abbrev csSet:List CS:=[csI,csI,csI,csI,csW]
abbrev csS:List CS:=[csI,csI,csI,csI,csW,csI,slOf [csI,csB],slOf [csI,csI,csB],slOf [csI,csI,slOf [csI,csB]],slOf [csW,csW],slOf Rg.csRule,slOf Rg.csI3,slOf Rg.csI4,slOf Rg.csI5,slOf [csI,csI,csB],slOf [csI,csI,csW,csW],slOf [csI,csI,csI,csW,csW,csW,csW]]
theorem flatO:flatT Tryz.prog 8 66=some csO:=by kernel_rfl
theorem flatSet:flatT Tryz.prog 8 26=some csSet:=by kernel_rfl
theorem flatS:flatT Tryz.prog 8 43=some csS:=by kernel_rfl
theorem flatOs:flatT Tryz.prog 8 94=some [slOf csO]:=by kernel_rfl
section
variable {W:World}
theorem rel_w {Z:Nat→Prop} {v:Value} (h:CSok W csW v):(RV.w (Ix.v64 v)).rel Z W v:=Ix.rel_v64 h
theorem rel_y {Z:Nat→Prop} {v:Value} (h:CSok W csY v):(RV.v (.int .u8 (vi v))).rel Z W v:=ok_int h
theorem list_rows {α:Type} {k:Nat} {fs:Nat→CS} {v:Value} (h:CSok W (.sl k fs) v) (f:α→Nat→RV) (mk:(Nat→Value)→α) (φ:α→Prop)
 (hf:∀cv:Nat→Value,(∀j,j<k→CSok W (fs j) (cv j))→φ (mk cv)∧∀j,j<k→(cv j).oneCell'=true∧(f (mk cv) j).rel (ZW W) W (cv j)) :
 ∃l:List α,(∀a∈l,φ a)∧∀σ,(SV.r (.rs k l.length (rowOf f l))).rel σ (ZW W) W v:=by
 obtain⟨n,cv,_,h1,h2⟩:=rows_of h
 have hl:((List.range n).map λi=>mk (cv i)).length=n:=by simp
 refine⟨(List.range n).map λi=>mk (cv i),λa ha=>?_,λσ=>?_⟩
 ·obtain⟨i,hi,rfl⟩:=List.mem_map.1 ha
  exact(hf (cv i) λj hj=>h1 i j (List.mem_range.1 hi) hj).1
 have:=h2 (rowOf f ((List.range n).map λi=>mk (cv i))) (λi j hi hj=>?_) σ
 ·rw[hl];exact this
 rw[rowOf_get (by rw[hl];exact hi),List.getElem_map,List.getElem_range]
 exact(hf (cv i) λj hj=>h1 i j hi hj).2 j hj
theorem iris_rows {v:Value} (h:CSok W (slOf [csW,csW]) v):∃l:List Ix.IrG,∀σ,(irs l).rel σ (ZW W) W v:=by
 obtain⟨l,_,hl⟩:=list_rows h Ix.IrG.f (λcv=>⟨Ix.v64 (cv 0),Ix.v64 (cv 1)⟩) (λ_=>True) (by
  intro cv hc
  refine⟨trivial,λj hj=>?_⟩
  match j,hj,hc j hj with
  | 0,_,hc=>exact⟨one_vi hc,rel_w hc⟩
  | 1,_,hc=>exact⟨one_vi hc,rel_w hc⟩
  | j+2,hj,_=>exact absurd hj (by simp))
 exact⟨l,hl⟩
theorem ch_rows {v:Value} (h:CSok W (slOf [csI,csI,csB]) v):∃l:List ChG,∀σ,(chs l).rel σ (ZW W) W v:=by
 obtain⟨l,_,hl⟩:=list_rows h ChG.f (λcv=>⟨vi (cv 0),vi (cv 1),vb (cv 2)⟩) (λ_=>True) (by
  intro cv hc
  refine⟨trivial,λj hj=>?_⟩
  match j,hj,hc j hj with
  | 0,_,hc=>exact⟨one_vi hc,rel_vi hc⟩
  | 1,_,hc=>exact⟨one_vi hc,rel_vi hc⟩
  | 2,_,hc=>exact⟨one_vb hc,rel_vb hc⟩
  | j+3,hj,_=>exact absurd hj (by simp))
 exact⟨l,hl⟩
theorem ks_rows {v:Value} (h:CSok W (slOf [csI,csI,csW,csW]) v):∃l:List KsG,∀σ,(kss l).rel σ (ZW W) W v:=by
 obtain⟨l,_,hl⟩:=list_rows h KsG.f (λcv=>⟨vi (cv 0),vi (cv 1),Ix.v64 (cv 2),Ix.v64 (cv 3)⟩) (λ_=>True) (by
  intro cv hc
  refine⟨trivial,λj hj=>?_⟩
  match j,hj,hc j hj with
  | 0,_,hc=>exact⟨one_vi hc,rel_vi hc⟩
  | 1,_,hc=>exact⟨one_vi hc,rel_vi hc⟩
  | 2,_,hc=>exact⟨one_vi hc,rel_w hc⟩
  | 3,_,hc=>exact⟨one_vi hc,rel_w hc⟩
  | j+4,hj,_=>exact absurd hj (by simp))
 exact⟨l,hl⟩
theorem lg_rows {v:Value} (h:CSok W (slOf [csI,csI,csI,csW,csW,csW,csW]) v):∃l:List EnG,∀σ,(lgs l).rel σ (ZW W) W v:=by
 obtain⟨l,_,hl⟩:=list_rows h EnG.f (λcv=>⟨vi (cv 0),vi (cv 1),vi (cv 2),Ix.v64 (cv 3),Ix.v64 (cv 4),Ix.v64 (cv 5),Ix.v64 (cv 6)⟩) (λ_=>True) (by
  intro cv hc
  refine⟨trivial,λj hj=>?_⟩
  match j,hj,hc j hj with
  | 0,_,hc=>exact⟨one_vi hc,rel_vi hc⟩
  | 1,_,hc=>exact⟨one_vi hc,rel_vi hc⟩
  | 2,_,hc=>exact⟨one_vi hc,rel_vi hc⟩
  | 3,_,hc=>exact⟨one_vi hc,rel_w hc⟩
  | 4,_,hc=>exact⟨one_vi hc,rel_w hc⟩
  | 5,_,hc=>exact⟨one_vi hc,rel_w hc⟩
  | 6,_,hc=>exact⟨one_vi hc,rel_w hc⟩
  | j+7,hj,_=>exact absurd hj (by simp))
 exact⟨l,hl⟩
theorem order_rows {v:Value} (h:CSok W (slOf csO) v):∃l:List OrG,(∀o∈l,o.rl.byte)∧∀σ,(ords l).rel σ (ZW W) W v:=by
 have hk:∀v:Value,∃p:Nat × (Nat→Int),CSok W (slOf [csI]) v→(RV.rs 1 p.1 λi _=>.i (p.2 i)).rel (ZW W) W v:=λv=>by
  by_cases hc:CSok W (slOf [csI]) v
  ·obtain⟨n,k,hr⟩:=Rg.int_rows hc
   exact⟨(n,k),λ_=>hr (λ_=>none)⟩
  ·exact⟨(0,λ_=>0),λh=>absurd h hc⟩
 obtain⟨f,hf⟩:=Classical.axiomOfChoice hk
 refine list_rows h OrG.fc (λcv=>⟨vi (cv 0),vi (cv 1),vi (cv 2),vi (cv 3),vb (cv 4),⟨Ix.v64 (cv 5),Ix.v64 (cv 6)⟩,Ix.v64 (cv 7),
  ⟨vi (cv 8),vi (cv 9),vi (cv 10),vi (cv 11),vi (cv 12),vi (cv 13),vi (cv 14),vi (cv 15)⟩,⟨vi (cv 16),vi (cv 17),vi (cv 18),vi (cv 19)⟩,⟨vi (cv 20),vi (cv 21),vi (cv 22)⟩,⟨vi (cv 23),vi (cv 24),vi (cv 25),vi (cv 26),vi (cv 27)⟩,
  ⟨vi (cv 28),vi (cv 29),vi (cv 30),vi (cv 31),vi (cv 32),(f (cv 33)).1,(f (cv 33)).2⟩⟩) (λo=>o.rl.byte) λcv hc=>⟨ok_u8 (hc 15 (by decide)),λj hj=>?_⟩
 match j,hj,hc j hj with
 | 0,_,hc=>exact⟨one_vi hc,rel_y hc⟩
 | 1,_,hc=>exact⟨one_vi hc,rel_vi hc⟩
 | 2,_,hc=>exact⟨one_vi hc,rel_vi hc⟩
 | 3,_,hc=>exact⟨one_vi hc,rel_vi hc⟩
 | 4,_,hc=>exact⟨one_vb hc,rel_vb hc⟩
 | 5,_,hc=>exact⟨one_vi hc,rel_w hc⟩
 | 6,_,hc=>exact⟨one_vi hc,rel_w hc⟩
 | 7,_,hc=>exact⟨one_vi hc,rel_w hc⟩
 | 8,_,hc=>exact⟨one_vi hc,rel_vi hc⟩
 | 9,_,hc=>exact⟨one_vi hc,rel_vi hc⟩
 | 10,_,hc=>exact⟨one_vi hc,rel_vi hc⟩
 | 11,_,hc=>exact⟨one_vi hc,rel_vi hc⟩
 | 12,_,hc=>exact⟨one_vi hc,rel_vi hc⟩
 | 13,_,hc=>exact⟨one_vi hc,rel_vi hc⟩
 | 14,_,hc=>exact⟨one_vi hc,rel_vi hc⟩
 | 15,_,hc=>exact⟨one_vi hc,rel_y hc⟩
 | 16,_,hc=>exact⟨one_vi hc,rel_vi hc⟩
 | 17,_,hc=>exact⟨one_vi hc,rel_vi hc⟩
 | 18,_,hc=>exact⟨one_vi hc,rel_vi hc⟩
 | 19,_,hc=>exact⟨one_vi hc,rel_vi hc⟩
 | 20,_,hc=>exact⟨one_vi hc,rel_vi hc⟩
 | 21,_,hc=>exact⟨one_vi hc,rel_vi hc⟩
 | 22,_,hc=>exact⟨one_vi hc,rel_vi hc⟩
 | 23,_,hc=>exact⟨one_vi hc,rel_vi hc⟩
 | 24,_,hc=>exact⟨one_vi hc,rel_vi hc⟩
 | 25,_,hc=>exact⟨one_vi hc,rel_vi hc⟩
 | 26,_,hc=>exact⟨one_vi hc,rel_vi hc⟩
 | 27,_,hc=>exact⟨one_vi hc,rel_vi hc⟩
 | 28,_,hc=>exact⟨one_vi hc,rel_vi hc⟩
 | 29,_,hc=>exact⟨one_vi hc,rel_vi hc⟩
 | 30,_,hc=>exact⟨one_vi hc,rel_vi hc⟩
 | 31,_,hc=>exact⟨one_vi hc,rel_vi hc⟩
 | 32,_,hc=>exact⟨one_vi hc,rel_vi hc⟩
 | 33,_,hc=>exact⟨sl_one hc,hf _ hc⟩
 | j+34,hj,_=>exact absurd hj (by simp)
section
variable {H:Type} {enc:TypeId × Value→H} {base:Nat} {spare:Nat→Bool} {held:Bool}
theorem service_arg {v:Value} {d:DataW H} {p:List MemPlace} {r:Reach} {b0:Nat} (hv:Value.okWide Tryz.prog W r b0 43 v) (h:DataW.Trod enc Tryz.prog W base spare held 43 v d p) :
 ∃x:SvG,x.r.By∧∀σ,x.sv.rel σ (ZW W) W v:=by
 obtain⟨cs,rfl,_⟩:=okWide_struct Tryz.underlying43 hv
 have hc:=open_flat flatS h
 obtain⟨cs⟩:=cs
 simp only [Value.cells] at hc
 obtain⟨v0,_,e,h0,v1,_,rfl,h1,v2,_,rfl,h2,v3,_,rfl,h3,v4,_,rfl,h4,v5,_,rfl,h5,v6,_,rfl,h6,v7,_,rfl,h7,v8,_,rfl,h8,v9,_,rfl,h9,v10,_,rfl,h10,v11,_,rfl,h11,v12,_,rfl,h12,v13,_,rfl,h13,v14,_,rfl,h14,v15,_,rfl,h15,v16,_,rfl,h16,rfl⟩:=hc
 cases e
 obtain⟨nr,r,hr⟩:=rec_rows h6
 obtain⟨nl,l,hl⟩:=link_rows h7
 obtain⟨nc,c,hc⟩:=case_rows h8
 obtain⟨ir,hir⟩:=iris_rows h9
 obtain⟨mr,rr,hb,hrr⟩:=Rg.rule_rows h10
 obtain⟨mc,rc,hrc⟩:=Rg.con_rows h11
 obtain⟨mw,rw',hrw⟩:=Rg.war_rows h12
 obtain⟨mm,rm,hrm⟩:=Rg.mark_rows h13
 obtain⟨ch,hch⟩:=ch_rows h14
 obtain⟨ks,hks⟩:=ks_rows h15
 obtain⟨lg,hlg⟩:=lg_rows h16
 refine⟨⟨vi v0,vi v1,vi v2,vi v3,Ix.v64 v4,vi v5,⟨nr,r,nl,l,nc,c⟩,ir,⟨mr,rr,mc,rc,mw,rw',mm,rm⟩,ch,ks,lg⟩,hb,λσ=>⟨[v0,v1,v2,v3,v4,v5,v6,v7,v8,v9,v10,v11,v12,v13,v14,v15,v16],rfl,λv hv=>?_,v0,_,rfl,ok_int h0,v1,_,rfl,ok_int h1,v2,_,rfl,ok_int h2,v3,_,rfl,ok_int h3,v4,_,rfl,rel_w (Z:=ZW W) h4,v5,_,rfl,ok_int h5,v6,_,rfl,hr σ,v7,_,rfl,hl σ,v8,_,rfl,hc σ,v9,_,rfl,hir σ,v10,_,rfl,hrr σ,v11,_,rfl,hrc σ,v12,_,rfl,hrw σ,v13,_,rfl,hrm σ,v14,_,rfl,hch σ,v15,_,rfl,hks σ,v16,_,rfl,hlg σ,rfl⟩⟩
 simp at hv
 rcases hv with rfl | rfl | rfl | rfl | rfl | rfl | rfl | rfl | rfl | rfl | rfl | rfl | rfl | rfl | rfl | rfl | rfl
 ·exact one_vi h0
 ·exact one_vi h1
 ·exact one_vi h2
 ·exact one_vi h3
 ·exact one_vi h4
 ·exact one_vi h5
 ·exact sl_one h6
 ·exact sl_one h7
 ·exact sl_one h8
 ·exact sl_one h9
 ·exact sl_one h10
 ·exact sl_one h11
 ·exact sl_one h12
 ·exact sl_one h13
 ·exact sl_one h14
 ·exact sl_one h15
 ·exact sl_one h16
theorem order_arg {v:Value} {d:DataW H} {p:List MemPlace} {r:Reach} {b0:Nat} (hv:Value.okWide Tryz.prog W r b0 66 v) (h:DataW.Trod enc Tryz.prog W base spare held 66 v d p) :
 ∃o:OrG,(o.rl.byte∧0≤o.k∧o.k<256)∧∀σ,o.sv.rel σ (ZW W) W v:=by
 obtain⟨cs,rfl,_⟩:=okWide_struct Tryz.underlying66 hv
 have hc:=open_flat flatO h
 obtain⟨cs⟩:=cs
 simp only [Value.cells] at hc
 obtain⟨v0,_,e,h0,v1,_,rfl,h1,v2,_,rfl,h2,v3,_,rfl,h3,v4,_,rfl,h4,v5,_,rfl,h5,v6,_,rfl,h6,v7,_,rfl,h7,v8,_,rfl,h8,v9,_,rfl,h9,v10,_,rfl,h10,v11,_,rfl,h11,v12,_,rfl,h12,v13,_,rfl,h13,v14,_,rfl,h14,v15,_,rfl,h15,v16,_,rfl,h16,v17,_,rfl,h17,v18,_,rfl,h18,v19,_,rfl,h19,v20,_,rfl,h20,v21,_,rfl,h21,v22,_,rfl,h22,v23,_,rfl,h23,v24,_,rfl,h24,v25,_,rfl,h25,v26,_,rfl,h26,v27,_,rfl,h27,v28,_,rfl,h28,v29,_,rfl,h29,v30,_,rfl,h30,v31,_,rfl,h31,v32,_,rfl,h32,v33,_,rfl,h33,rfl⟩:=hc
 cases e
 obtain⟨n,k,hk⟩:=Rg.int_rows h33
 refine⟨⟨vi v0,vi v1,vi v2,vi v3,vb v4,⟨Ix.v64 v5,Ix.v64 v6⟩,Ix.v64 v7,⟨vi v8,vi v9,vi v10,vi v11,vi v12,vi v13,vi v14,vi v15⟩,⟨vi v16,vi v17,vi v18,vi v19⟩,⟨vi v20,vi v21,vi v22⟩,⟨vi v23,vi v24,vi v25,vi v26,vi v27⟩,⟨vi v28,vi v29,vi v30,vi v31,vi v32,n,k⟩⟩,⟨ok_u8 h15,ok_u8 h0⟩,λσ=>⟨[v0,v1,v2,v3,v4,v5,v6,v7,v8,v9,v10,v11,v12,v13,v14,v15,v16,v17,v18,v19,v20,v21,v22,v23,v24,v25,v26,v27,v28,v29,v30,v31,v32,v33],rfl,λv hv=>?_,v0,_,rfl,ok_int h0,v1,_,rfl,ok_int h1,v2,_,rfl,ok_int h2,v3,_,rfl,ok_int h3,v4,_,rfl,rel_vb (Z:=ZW W) h4,v5,_,rfl,rel_w (Z:=ZW W) h5,v6,_,rfl,rel_w (Z:=ZW W) h6,v7,_,rfl,rel_w (Z:=ZW W) h7,v8,_,rfl,ok_int h8,v9,_,rfl,ok_int h9,v10,_,rfl,ok_int h10,v11,_,rfl,ok_int h11,v12,_,rfl,ok_int h12,v13,_,rfl,ok_int h13,v14,_,rfl,ok_int h14,v15,_,rfl,ok_int h15,v16,_,rfl,ok_int h16,v17,_,rfl,ok_int h17,v18,_,rfl,ok_int h18,v19,_,rfl,ok_int h19,v20,_,rfl,ok_int h20,v21,_,rfl,ok_int h21,v22,_,rfl,ok_int h22,v23,_,rfl,ok_int h23,v24,_,rfl,ok_int h24,v25,_,rfl,ok_int h25,v26,_,rfl,ok_int h26,v27,_,rfl,ok_int h27,v28,_,rfl,ok_int h28,v29,_,rfl,ok_int h29,v30,_,rfl,ok_int h30,v31,_,rfl,ok_int h31,v32,_,rfl,ok_int h32,v33,_,rfl,hk σ,rfl⟩⟩
 simp at hv
 rcases hv with rfl | rfl | rfl | rfl | rfl | rfl | rfl | rfl | rfl | rfl | rfl | rfl | rfl | rfl | rfl | rfl | rfl | rfl | rfl | rfl | rfl | rfl | rfl | rfl | rfl | rfl | rfl | rfl | rfl | rfl | rfl | rfl | rfl | rfl
 ·exact one_vi h0
 ·exact one_vi h1
 ·exact one_vi h2
 ·exact one_vi h3
 ·exact one_vb h4
 ·exact one_vi h5
 ·exact one_vi h6
 ·exact one_vi h7
 ·exact one_vi h8
 ·exact one_vi h9
 ·exact one_vi h10
 ·exact one_vi h11
 ·exact one_vi h12
 ·exact one_vi h13
 ·exact one_vi h14
 ·exact one_vi h15
 ·exact one_vi h16
 ·exact one_vi h17
 ·exact one_vi h18
 ·exact one_vi h19
 ·exact one_vi h20
 ·exact one_vi h21
 ·exact one_vi h22
 ·exact one_vi h23
 ·exact one_vi h24
 ·exact one_vi h25
 ·exact one_vi h26
 ·exact one_vi h27
 ·exact one_vi h28
 ·exact one_vi h29
 ·exact one_vi h30
 ·exact one_vi h31
 ·exact one_vi h32
 ·exact sl_one h33
theorem setup_arg {v:Value} {d:DataW H} {p:List MemPlace} {r:Reach} {b0:Nat} (hv:Value.okWide Tryz.prog W r b0 26 v) (h:DataW.Trod enc Tryz.prog W base spare held 26 v d p) :
 ∃x:SvG,∀σ,x.ss.rel σ (ZW W) W v:=by
 obtain⟨cs,rfl,_⟩:=okWide_struct Tryz.underlying26 hv
 have hc:=open_flat flatSet h
 obtain⟨cs⟩:=cs
 simp only [Value.cells] at hc
 obtain⟨v0,_,e,h0,v1,_,rfl,h1,v2,_,rfl,h2,v3,_,rfl,h3,v4,_,rfl,h4,rfl⟩:=hc
 cases e
 refine⟨{SvG.zero with num:=vi v0,den:=vi v1,turns:=vi v2,mage:=vi v3,key:=Ix.v64 v4},λσ=>⟨[v0,v1,v2,v3,v4],rfl,λv hv=>?_,v0,_,rfl,ok_int h0,v1,_,rfl,ok_int h1,v2,_,rfl,ok_int h2,v3,_,rfl,ok_int h3,v4,_,rfl,rel_w (Z:=ZW W) h4,rfl⟩⟩
 simp at hv
 rcases hv with rfl | rfl | rfl | rfl | rfl
 ·exact one_vi h0
 ·exact one_vi h1
 ·exact one_vi h2
 ·exact one_vi h3
 ·exact one_vi h4
theorem orders_arg {v:Value} {d:DataW H} {p:List MemPlace} {r:Reach} {b0:Nat} (hv:Value.okWide Tryz.prog W r b0 94 v) (h:DataW.Trod enc Tryz.prog W base spare held 94 v d p) :
 ∃l:List OrG,(∀o∈l,o.rl.byte)∧∀σ,(ords l).rel σ (ZW W) W v:=by
 have hone:v.cells.toList=[v]:=by
  simp only [Value.okWide,Tryz.underlying94,Cell.okWide] at hv
  cases v <;> simp_all [Cell.ok,Value.cells]
 have hc:=open_flat flatOs h
 rw[hone] at hc
 obtain⟨v0,_,e,h0,rfl⟩:=hc
 cases e
 exact order_rows h0
theorem flatW:flatT Tryz.prog 8 24=some [csW]:=by kernel_rfl
theorem word_arg {v:Value} {d:DataW H} {p:List MemPlace} {r:Reach} {b0:Nat} (hv:Value.okWide Tryz.prog W r b0 24 v) (h:DataW.Trod enc Tryz.prog W base spare held 24 v d p):∃x:W64,∀σ,(SV.w x).rel σ (ZW W) W v:=by
 have hone:v.cells.toList=[v]:=by
  simp only [Value.okWide,Tryz.underlying24,Cell.okWide] at hv
  cases v <;> simp_all [Cell.ok,Value.cells]
 have hc:=open_flat flatW h
 rw[hone] at hc
 obtain⟨v0,_,e,h0,rfl⟩:=hc
 cases e
 exact⟨_,λσ=>rel_w (Z:=ZW W) h0⟩
end
end
end Go.Gx.Sr
namespace Go.Gx.Sr
open Go.RowKit Go.Proofs Go.Proofs.YtncccnmmjfapnaaGreat Go.Gx.Ix
def SvG.great (x:SvG):Bool:=x.g.great||x.r.great||decide (30<(x.ir.length:Int))||decide (100<(x.ch.length:Int))||decide (10<(x.ks.length:Int))||decide (100<(x.lg.length:Int))
theorem great17 (x:SvG):Pure Tryz.prog 17 [x.sv] (· =.b x.great):=by
 refine pure_of_GC T_ok Tryz.func17 rfl (by kernel_rfl) (nb rfl) rfl rfl ?_
 unfold SvG.great
 simp[go_sem]
 refine call_val (great12' x.g) rfl rfl ?_
 cases x.g.great
 rotate_left
 ·simp[go_sem]
 simp[go_sem]
 refine call_val (Rg.great16 x.r) rfl rfl ?_
 cases x.r.great
 rotate_left
 ·simp[go_sem]
 by_cases h1:30<(x.ir.length:Int)
 ·simp[go_sem,h1]
 by_cases h2:100<(x.ch.length:Int)
 ·simp[go_sem,h1,h2]
 by_cases h3:10<(x.ks.length:Int)
 ·simp[go_sem,h1,h2,h3]
 simp[go_sem,h1,h2,h3]
theorem SvG.OK_of {x:SvG} (hb:x.r.By) (h:x.great=false):x.OK∧x.ir.length≤30∧x.ch.length≤100∧x.ks.length≤10∧x.lg.length≤100:=by
 unfold SvG.great at h
 simp only [Bool.or_eq_false_iff,decide_eq_false_iff_not] at h
 obtain⟨⟨⟨⟨⟨h1,h2⟩,h3⟩,h4⟩,h5⟩,h6⟩:=h
 obtain⟨g1,g2,g3,g4,g5⟩:=EG.OK_of h1
 have r1:=Rg.OK_of hb h2
 have r2:x.r.nr<1000000∧x.r.nc<1000000∧x.r.nw<1000000∧x.r.nm<1000000:=by
  simp[Rg.RG.great] at h2
  omega
 exact⟨⟨⟨by omega,by omega,by omega,λi hi=>by have:=g5 i hi;omega⟩,r1,r2.1,r2.2.1,r2.2.2.1,r2.2.2.2,by omega,by omega,by omega,by omega⟩,by omega,by omega,by omega,by omega⟩
def OrG.great (o:OrG):Bool:=decide (20<(o.q.nk:Int))
theorem great24 (o:OrG):Pure Tryz.prog 24 [o.sv] (· =.b o.great):=by
 refine pure_of_GC T_ok Tryz.func24 rfl (by kernel_rfl) (nb rfl) rfl rfl ?_
 unfold OrG.great
 simp[go_sem]
def SvG.isB (x:SvG) (a:Int):Bool:=x.g.th a&&decide (a<x.ir.length)
theorem there20 (x:SvG) (a:Int):Pure Tryz.prog 20 [x.sv,.i a] (· =.b (x.isB a)):=by
 refine pure_of_GC T_ok Tryz.func20 rfl (by kernel_rfl) (nb rfl) rfl rfl ?_
 unfold SvG.isB
 by_cases h0:0≤a
 rotate_left
 ·have e:x.g.th a=false:=by
   rw[Bool.eq_false_iff];intro ht;exact h0 (EG.th_iff.1 ht).1
  simp[go_sem,h0,e]
 obtain⟨n,rfl⟩:∃n:Nat,a=n:=⟨a.toNat,by omega⟩
 by_cases h1:n<x.g.nr
 rotate_left
 ·have e:x.g.th n=false:=by
   rw[Bool.eq_false_iff];intro ht;have:=(EG.th_iff.1 ht).2.1;omega
  simp[go_sem,h0,h1,e]
 cases hg:(x.g.r n).g
 ·have e:x.g.th n=true:=EG.th_iff.2 ⟨by omega,by omega,by simpa using hg⟩
  by_cases h2:n<x.ir.length
  ·simp[go_sem,h0,h1,h2,hg,e]
  ·simp[go_sem,h0,h1,h2,hg,e]
 ·have e:x.g.th n=false:=by
   rw[Bool.eq_false_iff];intro ht;have:=(EG.th_iff.1 ht).2.2;simp[hg] at this
  simp[go_sem,h0,h1,hg,e]
theorem SvG.isB_iff {x:SvG} (h:x.Va) (a:Int):x.isB a=x.g.th a:=by
 unfold SvG.isB
 cases ht:x.g.th a with
 | false=>rfl
 | true=>
   have:=EG.th_lt ht
   have e:=h.irn
   simp
   omega
end Go.Gx.Sr
