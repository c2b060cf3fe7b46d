/-
 Texts of the walk, merged: Vc Vd Ve Vf Rd Ru Vg Vh Vw Vi Ea Eb Ec Ed Ee Ef Eg.
-/
import Derived.Test.YtncccnmmjfapnaaGreatZaj
import Derived.Test.YtncccnmmjfapnaaGreatZae
import Derived.Test.YtncccnmmjfapnaaGreatZah
import Derived.Test.YtncccnmmjfapnaaGreatZag
set_option linter.unusedVariables false
set_option linter.unusedSimpArgs false
set_option maxRecDepth 100000
set_option maxHeartbeats 4000000
namespace Go.Gx.Sr
open Go.RowKit Go.Proofs Go.Proofs.YtncccnmmjfapnaaGreat Go.Gx.Ix
theorem aD9 {α:Type} {p:α->Bool}:∀{l:List α},(∀x∈l,p x=true)->l.takeWhile p=l
 | [],_=>rfl
 | a::l,h=>by rw[List.takeWhile_cons_of_pos (h a List.mem_cons_self),aD9 λx hx=>h x (List.mem_cons_of_mem _ hx)]
theorem bB3 (M:Mem) (n:Nat) (a b:Option Reg):bH (bH M n a) n b=bH M n b:=by
 funext r;by_cases h:r=n <;> simp[bH,h]
theorem aL2 (l:List ChG) (lo hi:Int):Own Tryz.prog 98 [] [nY l,.i lo,.i hi] (.fn (.func 199) [] [.ptr 0 0 1 0,.ptr 2 0 1 0,.ptr 1 0 1 0]) [.box [nY l],.box [.i lo],.box [.i hi]]:=by
 refine γ Tryz.func98 ?_;simp[go_sem];refine⟨[0,1,2],τ,λN=>⟨ζ,ζ⟩⟩
theorem aPl {l:List ChG} {lo hi:Int} {k:Nat} (hk:k<l.length) (hall:∀i (h:i<l.length),i<k->l[i].t<=hi) (h1:l[k].t<=hi) :
 bwL (l.take (k+1)) lo hi=bwL (l.take k) lo hi++(if lo<l[k].t then [l[k]] else []):=by
 have e:∀n,n<=k+1->(l.take n).takeWhile (λc=>decide (c.t<=hi))=l.take n:=λn hn=>by
  refine aD9 λx hx=>?_;obtain⟨i,hi',rfl⟩:=List.getElem_of_mem hx;simp only [List.length_take] at hi';simp only [List.getElem_take];by_cases hik:i=k
  ·subst hik;simpa using h1
  ·simpa using hall i ω ω
 unfold bwL;rw[e _ (Nat.le_refl _),e _ ω,List.take_succ_eq_append_getElem hk,List.filter_append]
 congr 1
 by_cases h:lo<l[k].t <;> simp[h]
theorem aPm {l:List ChG} {lo hi:Int} {k:Nat} (hk:k<l.length) (hall:∀i (h:i<l.length),i<k->l[i].t<=hi) (h1:hi<l[k].t):bwL l lo hi=bwL (l.take k) lo hi:=by
 unfold bwL
 congr 1
 have hl:l=l.take k++l[k]::l.drop (k+1):=τ;have e:∀x∈l.take k,decide (x.t<=hi)=true:=λx hx=>by
  obtain⟨i,hi',rfl⟩:=List.getElem_of_mem hx;simp only [List.length_take] at hi';simp only [List.getElem_take];simpa using hall i ω ω
 conv=>lhs;rw[hl]
 rw[List.takeWhile_append_of_pos e,List.takeWhile_cons_of_neg ι,List.append_nil,aD9 e]
theorem aUz {l:List ChG} {lo hi:Int} {k:Nat} (hall:∀i (h:i<l.length),i<k->l[i].t<=hi):bwL (l.take k) lo hi <+: bwL l lo hi:=by
 have e:∀x∈l.take k,decide (x.t<=hi)=true:=λx hx=>by
  obtain⟨i,hi',rfl⟩:=List.getElem_of_mem hx;simp only [List.length_take] at hi';simp only [List.getElem_take];simpa using hall i ω ω
 unfold bwL;rw[aD9 e]
 conv=>rhs;rw[<- List.take_append_drop k l]
 rw[List.takeWhile_append_of_pos e,List.filter_append];exact List.prefix_append _ _
theorem aHh (l:List ChG) (hn:l.length<1000000) (lo hi:Int) (g1 g2 g3:Nat->Nat->RV) (h1:g1 0 0=.rs 3 l.length (aY ChG.f l)) (h2:g2 0 0=.i hi) (h3:g3 0 0=.i lo) :
 aJu Tryz.prog T 199 [.r (.rp 1 1 g1 0 0),.r (.rp 1 1 g2 0 0),.r (.rp 1 1 g3 0 0)] (λc:ChG=>[c.sv]) (bwL l lo hi):=by
 refine⟨_,_,Tryz.func199,rfl,κ,Nat.le_of_ble_eq_true rfl,?_⟩;intro np good m I M nx hnx h0 hst hy;simp[go_sem,h1];refine dW aD (α:=Nat) (λk=>[(0,.fn (.yield m) [] []),(1,.r (.rp 1 1 g1 0 0)),(2,.r (.rp 1 1 g2 0 0)),(3,.r (.rp 1 1 g3 0 0)),(7,nY l),(8,.i l.length),(9,.i k)])
  (λk M nx=>k<=l.length/\(∀i (h:i<l.length),i<k->l[i].t<=hi)/\np<=nx/\I (bwL (l.take k) lo hi) M nx) (λk=>l.length - k) 0 ⟨Nat.zero_le _,λi _ h=>ω,hnx,by simpa [bwL] using h0⟩ ζ ?_
 rintro k J M nx _ ⟨k1,k2,k3,k4⟩;by_cases hk:k<l.length
 ·have hr:=aI (f:=ChG.f) hk;have k5:=hst _ M nx (.box [.r (.i l[k].t),.r (.i l[k].p),.r (.v (.bool l[k].on))]) k3 k4;have hk':(k:Int)<l.length:=ω;by_cases c1:l[k].t<=hi;rotate_left
  ·have c1':hi<l[k].t:=ω;simp[go_sem,hk,hr,h2,h3,c1,c1'];rw[aPm hk k2 c1',bB3];exact k5
  have c1':¬hi<l[k].t:=ω;have hs:=aPl (lo:=lo) hk k2 c1;have kk:∀i (h:i<l.length),i<k+1->l[i].t<=hi:=λi h hi'=>by
   by_cases e:i=k
   ·subst e;exact c1
   ·exact k2 i h ω
  by_cases c2:lo<l[k].t
  ·rw[if_pos c2] at hs;simp[go_sem,hk,hr,h2,h3,c1,c1',c2];rw[bB3];have hp:bwL (l.take k) lo hi++[l[k]] <+: bwL l lo hi:=hs▸aUz λi h hi'=>kk i h hi';refine hy _ l[k] hp _ _ _ _ _ _ _ _ _ _ _ ζ ζ (by simp[dC]) k5 λM' nx' hn' hI=>?_;rw[<- hs] at hI;simp[go_sem];exact⟨ω,k+1,ω,τ,ω,kk,hn',hI⟩
  ·rw[if_neg c2,List.append_nil] at hs;simp[go_sem,hk,hr,h2,h3,c1,c1',c2];rw[bB3];rw[<- hs] at k5;exact⟨ω,k+1,ω,τ,ω,kk,ω,k5⟩
 ·have:k=l.length:=ω;subst this;simp[go_sem];rw[List.take_length] at k4;exact k4
theorem aK4 (n:Nat):IntKind.u64.wrap (2 ^ min n 64)=((bT 1#64 n).toNat:Int):=by
 have h:GR.pure (0<=(n:Int)) (.r (.v (.int .u64 (IntKind.u64.wrap (((1#64).toNat:Int)*2 ^ min (n:Int).toNat 64)))))=.pure (0<=(n:Int)) (.w (bT 1#64 (n:Int).toNat)):=yH 1#64 .i64 (n:Int);injection h with _ h2
 injection h2 with h3
 injection h3 with h4
 injection h4 with _ h5
 simpa using h5
def uQ (s:W64) (l:List ChG):W64:=l.foldl aW5 s
theorem aO1 (s:W64) (vs:List ChG) (ca:List SV) (hca:SV.closedL ca=true) (hit:aJu Tryz.prog T 199 ca (λc:ChG=>[c.sv]) vs) (hp:∀c∈vs,0<=c.p) :
 Pure Tryz.prog 194 [.w s,.fn (.func 199) [] ca] (· =.w (uQ s vs)):=by
 refine π Tryz.func194 ?_;simp[go_sem];refine aEn aD (λc:ChG=>[c.sv]) vs 1 (λpre M nx=>M 0=some (.box [.w (uQ s pre)])/\1<=nx) (gf:=199) (ca:=ca) ?_ hit (λ_=>rfl) τ ⟨κ,κ⟩ rfl (Nat.zero_le _) δ ?_ ?_ ?_ ?_
 ·simp[go_sem]
 ·simp[go_sem,uQ]
 ·rintro pre M nx R hn ⟨h0,h1⟩;have e0:¬0=nx:=ω;simp[go_sem,e0,h0]
 ·rintro pre c hpre M nx hn ⟨h0,h1⟩;have e0:¬0=nx:=ω;have e1:¬nx=0:=ω;have hc:0<=c.p:=hp c (hpre.subset τ);have hs:uQ s (pre++[c])=aW5 (uQ s pre) c:=by simp[uQ]
  rw[hs];simp[go_sem,h0,e0,e1];refine bE aD κ 5 κ rfl rfl ?_;simp[go_sem,h0,e0,e1];refine⟨ω,?_⟩;obtain⟨t,p,on⟩:=c
  cases on
  ·simp[go_sem,h0,e0,e1];rw[aK4,aKx];rfl
  ·simp[go_sem,h0,e0,e1];refine bE aD κ 5 κ rfl rfl ?_;simp[go_sem,h0,e0,e1];refine⟨hc,?_⟩;rw[aK4,aKx];rfl
 ·rintro M nx hn ⟨h0,h1⟩;simp[go_sem,h0]
def qH (l:List ChG) (t:Int):Int:=if fO l then (if qC t then 0 else 2) else 8
def aFy (l:List ChG) (t:Int):W64:=uQ 0#64 (bwL l (-1) t)
theorem aJ6 {l:List ChG} {lo hi:Int} {c:ChG} (h:c∈bwL l lo hi):c∈l:=(List.takeWhile_sublist _).subset (List.mem_filter.1 h).1
theorem aPq {l:List ChG} (h:fO l=true) {c:ChG} (hc:c∈l):0<=c.t/\c.t<=maxT/\0<=c.p/\c.p<=63:=by
 simp only [fO,Bool.and_eq_true] at h;have:=List.all_eq_true.1 h.1.2 c hc;simp only [ChG.ok,Bool.and_eq_true] at this;have h1:=kZ.1 this.1;have h2:=wK.1 this.2;omega
theorem bAv (l:List ChG) (hn:l.length<1000000) (t:Int):Pure Tryz.prog 93 [nY l,.i t] (· =.tup [.w (if qH l t=0 then aFy l t else 0#64),.i (qH l t)]):=by
 refine π Tryz.func93 ?_;simp[go_sem];refine aA (oG l hn) rfl rfl ?_;by_cases hv:fO l=true;rotate_left
 ·have e:qH l t=8:=by unfold qH;rw[if_neg hv]
  simp[go_sem,hv,e]
 simp[go_sem,hv];refine aA (gX t) rfl rfl ?_;by_cases ht:qC t=true;rotate_left
 ·have e:qH l t=2:=by unfold qH;rw[if_pos hv,if_neg ht]
  simp[go_sem,ht,e]
 have e:qH l t=0:=by unfold qH;rw[if_pos hv,if_pos ht]
 simp[go_sem,ht,e];refine aF [] (aL2 l (-1) t) τ rfl trivial ?_;simp[go_sem];refine aC 0 ξ ?_;refine aC 1 ξ ?_;refine aC 2 ξ ?_;simp[go_sem];refine aA (aO1 0#64 (bwL l (-1) t) _ ?_ (aHh l hn (-1) t _ _ _ rfl rfl rfl) λc hc=>(aPq hv (aJ6 hc)).2.2.1) rfl rfl ?_
 ·rfl
 simp[go_sem,aFy]
theorem pO (n:Int):IntKind.u64.wrap n=((u64 n).toNat:Int):=by
 unfold u64;rw[BitVec.toNat_ofInt];simp only [IntKind.wrap,IntKind.bits,IntKind.signed];simp;omega
def KsG.acc (k:KsG) (key:W64):Nat->W64
 | 0=>key
 | 1=>vS key (u64 k.a)
 | 2=>vS (vS key (u64 k.a)) k.s
 | _=>vS (vS (vS key (u64 k.a)) k.s) (u64 k.m)
def KsG.seal (k:KsG) (key:W64):W64:=aYy k.a k.m k.s key
theorem aK7 (k:KsG) (key:W64) (gt:Nat->Nat->RV) (h0:gt 0 0=.i k.a) (h1:gt 0 1=.i k.m) (h2:gt 0 2=.w k.s) (h4:gt 0 4=.w key):Pure Tryz.prog 240 [.r (.rp 5 1 gt 0 0)] (· =.w (k.seal key)):=by
 refine π Tryz.func240 ?_;simp[go_sem,h4];refine aE aD κ κ ?_;simp[go_sem,h0,h1,h2];simp only [pO];refine aH aD (α:=Nat) (λi=>[(3,.w (k.acc key i)),(27,.sl 0 1 0 3 none),(28,.i 3),(29,.i i)]) (λ_=>[some (.vec 24 1 3 λi j=>[SV.w (u64 k.a),.w k.s,.w (u64 k.m)][i+j]?.getD (.r .any))]) 1 (λi=>i<=3) (λi=>3 - i) 0 (λ_=>rfl) τ (by simp[go_sem,KsG.acc]) (by simp[go_sem];funext i j;generalize i+j=n;rcases n with _ | _ | _ | n <;> rfl) ?_;intro i J hi;rcases(ω:i=3\/i=0\/i=1\/i=2) with rfl | rfl | rfl | rfl
 ·simp[go_sem];rfl
 ·simp[go_sem];refine aA (mZ _ _) rfl rfl ?_;simp[go_sem];refine⟨1,ω,ω,⟨⟨rfl,rfl⟩,?_⟩⟩;funext i j;generalize i+j=n;rcases n with _ | _ | _ | n <;> rfl
 ·simp[go_sem];refine aA (mZ _ _) rfl rfl ?_;simp[go_sem];refine⟨2,ω,ω,⟨⟨rfl,rfl⟩,?_⟩⟩;funext i j;generalize i+j=n;rcases n with _ | _ | _ | n <;> rfl
 ·simp[go_sem];refine aA (mZ _ _) rfl rfl ?_;simp[go_sem];refine⟨3,ω,ω,⟨⟨rfl,rfl⟩,?_⟩⟩;funext i j;generalize i+j=n;rcases n with _ | _ | _ | n <;> rfl
def KsG.ok (k:KsG) (key:W64):Bool:=qC k.a&&qC k.m&&decide (k.z=k.seal key)
theorem sF (k:KsG) (key:W64):Pure Tryz.prog 134 [k.sv,.w key] (· =.i (if k.ok key then 0 else 8)):=by
 obtain⟨c,hc⟩:∃c,k.ok key=c:=⟨_,rfl⟩;rw[hc];refine π Tryz.func134 ?_;unfold KsG.ok at hc;simp[go_sem];refine aE aD κ κ ?_;simp[go_sem];refine⟨_,aB (gX k.a) rfl rfl,?_⟩;obtain⟨a,ha⟩:∃a,qC k.a=a:=⟨_,rfl⟩;rw[ha] at hc ⊢
 cases a
 ·simp at hc;subst hc;simp[go_sem]
 simp[go_sem];refine⟨_,aB (gX k.m) rfl rfl,?_⟩;obtain⟨b,hb⟩:∃b,qC k.m=b:=⟨_,rfl⟩;rw[hb] at hc ⊢
 cases b
 ·simp at hc;subst hc;simp[go_sem]
 simp at hc;subst hc;simp[go_sem];refine⟨_,jW (v:=.w (k.seal key)) (by simp[go_sem];exact aK7 k key _ rfl rfl rfl rfl) rfl,?_⟩;by_cases hz:k.z=k.seal key
 ·simp[go_sem,hz]
 ·simp[go_sem,hz,toNat_inj]
def xN (k:KsG) (p n:Int) (key:W64):Int:=if k.ok key then aC0 p n k.a else 8
def aAk (k:KsG) (p n:Int):Int:=if k.m<n - k.a then 3 else zL k.s p
theorem aJ0 {p n a:Int} (h:aC0 p n a=0):0<=p/\p<=63/\0<=n/\n<=maxT/\0<=a/\a<=maxT/\a<=n:=by
 unfold aC0 at h;split at h
 ·rename_i hb;simp only [Bool.and_eq_true] at hb;have h1:=wK.1 hb.1.1;have h2:=kZ.1 hb.1.2;have h3:=kZ.1 hb.2;split at h
  ·omega
  ·omega
 ·omega
theorem aP2 (k:KsG) (p n:Int) (key:W64):Pure Tryz.prog 60 [k.sv,.i p,.i n,.w key] (· =.tup [.r (.v (.int .u8 (if xN k p n key=0 then aAk k p n else 0))),.i (xN k p n key)]):=by
 refine π Tryz.func60 ?_;simp[go_sem];refine aA (sF k key) rfl rfl ?_;by_cases hk:k.ok key=true;rotate_left
 ·have e:xN k p n key=8:=by unfold xN;rw[if_neg hk]
  simp[go_sem,hk,e]
 have e:xN k p n key=aC0 p n k.a:=by unfold xN;rw[if_pos hk]
 simp[go_sem,hk,e];refine aA (aUw p n k.a) rfl rfl ?_;by_cases ha:aC0 p n k.a=0;rotate_left
 ·simp[go_sem,ha]
 obtain⟨a1,a2,a3,a4,a5,a6,a7⟩:=aJ0 ha;simp only [maxT] at a4 a6;by_cases hm:k.m<n - k.a
 ·simp[go_sem,ha,hm,aAk];omega
 ·simp[go_sem,ha,hm,aAk];refine⟨ω,?_⟩;refine aA (bBo k.s p a1) rfl rfl ?_;simp[go_sem]
theorem aNx (k:KsG) (key:W64):Own Tryz.prog 420 [.box [.i k.a,.i k.m,.w k.s,.w k.z,.w key]] [.ptr 0 0 5 0,.fn (.func 240) [.ptr 0 0 5 0] []] (.agg [.i k.a,.i k.m,.w k.s,.w (k.seal key)]) []:=by
 refine γ Tryz.func420 ?_;simp[go_sem];refine aG (v:=.w (k.seal key)) (by simp[go_sem];exact aK7 k key _ rfl rfl rfl rfl) rfl ?_;simp[go_sem];refine⟨[],τ,λN=>⟨ζ,trivial⟩⟩
def aHr (l:List ChG) (t m:Int) (key:W64):KsG:=⟨t,m,aFy l t,(KsG.mk t m (aFy l t) 0#64).seal key⟩
def vO (l:List ChG) (t m:Int):Int:=if qH l t=0 then (if qC m then 0 else 2) else qH l t
def KsG.zero:KsG:=⟨0,0,0#64,0#64⟩
theorem aVe (l:List ChG) (hn:l.length<1000000) (t m:Int) (key:W64):Pure Tryz.prog 341 [nY l,.i t,.i m,.w key] (· =.tup [(if vO l t m=0 then aHr l t m key else KsG.zero).sv,.i (vO l t m)]):=by
 refine π Tryz.func341 ?_;simp[go_sem];refine aA (bAv l hn t) rfl rfl ?_;by_cases he:qH l t=0;rotate_left
 ·have e:vO l t m=qH l t:=by unfold vO;rw[if_neg he]
  simp[go_sem,he,e,KsG.zero]
 simp[go_sem,he];refine aA (gX m) rfl rfl ?_;by_cases hm:qC m=true;rotate_left
 ·have e:vO l t m=2:=by unfold vO;rw[if_pos he,if_neg hm]
  simp[go_sem,hm,e,KsG.zero]
 have e:vO l t m=0:=by unfold vO;rw[if_pos he,if_pos hm]
 simp[go_sem,hm,e];refine aF [1] (aNx ⟨t,m,aFy l t,0#64⟩ key) τ rfl ⟨rfl,trivial⟩ ?_;simp[go_sem,aHr,KsG.seal]
def bEs (b x y z:W64):Nat->W64
 | 0=>b
 | 1=>vS b x
 | 2=>vS (vS b x) y
 | _=>vS (vS (vS b x) y) z
theorem aR7 (b x y z:W64) (gt:Nat->Nat->RV) (h0:gt 0 0=.w x) (h1:gt 1 0=.w y) (h2:gt 2 0=.w z):Pure Tryz.prog 225 [.w b,.r (.rs 1 3 gt)] (· =.w (vS (vS (vS b x) y) z)):=by
 refine π Tryz.func225 ?_;simp[go_sem];refine aH aD (α:=Nat) (λi=>[(0,.w (bEs b x y z i)),(1,.r (.rs 1 3 gt)),(7,.r (.rs 1 3 gt)),(8,.i 3),(9,.i i)]) (λ_=>[]) 0 (λi=>i<=3) (λi=>3 - i) 0 (λ_=>rfl) τ (by simp[go_sem,bEs]) ζ ?_;intro i J hi;rcases(ω:i=3\/i=0\/i=1\/i=2) with rfl | rfl | rfl | rfl
 ·simp[go_sem];rfl
 ·simp[go_sem,h0];refine aA (mZ _ _) rfl rfl ?_;simp[go_sem];exact⟨1,ω,ω,rfl,rfl⟩
 ·simp[go_sem,h1];refine aA (mZ _ _) rfl rfl ?_;simp[go_sem];exact⟨2,ω,ω,rfl,rfl⟩
 ·simp[go_sem,h2];refine aA (mZ _ _) rfl rfl ?_;simp[go_sem];exact⟨3,ω,ω,rfl,rfl⟩
def EnG.lnk (b:W64) (x:EnG):W64:=vS (vS (vS b (u64 x.t)) (u64 x.k)) x.s
theorem aBu (b:W64) (x:EnG):Pure Tryz.prog 120 [.w b,x.sv] (· =.w (x.lnk b)):=by
 refine π Tryz.func120 ?_;simp[go_sem];simp only [pO];refine aG (v:=.w (x.lnk b)) (by simp[go_sem];exact aR7 b (u64 x.t) (u64 x.k) x.s _ rfl rfl rfl) rfl ?_;simp[go_sem]
theorem jG (lo hi n:Int):Pure Tryz.prog 157 [.i lo,.i hi,.i n] (· =.b (btw lo hi n)):=by
 refine π Tryz.func157 ?_;by_cases h:lo<=n <;> simp[go_sem,btw,h]
def EnG.rng (x:EnG):Bool:=btw 0 maxT x.t&&btw 0 7 x.k&&btw (-1) 63 x.p
def EnG.fit (x:EnG):Bool:=x.rng&&if x.p<0 then decide (iV x.d x.a=0#64) else decide (bY (bY x.s x.d) x.a=0#64)
theorem aVp (x:EnG):Pure Tryz.prog 119 [x.sv] (· =.b x.fit):=by
 obtain⟨c,hc⟩:∃c,x.fit=c:=⟨_,rfl⟩;rw[hc];unfold EnG.fit EnG.rng at hc;refine π Tryz.func119 ?_;simp[go_sem];refine aA (jG 0 maxT x.t) rfl rfl ?_;obtain⟨b1,h1⟩:∃b,btw 0 maxT x.t=b:=⟨_,rfl⟩;rw[h1] at hc ⊢
 cases b1
 ·simp at hc;subst hc;simp[go_sem]
 simp[go_sem];refine aA (jG 0 7 x.k) rfl rfl ?_;obtain⟨b2,h2⟩:∃b,btw 0 7 x.k=b:=⟨_,rfl⟩;rw[h2] at hc ⊢
 cases b2
 ·simp at hc;subst hc;simp[go_sem]
 simp[go_sem];refine aA (jG (-1) 63 x.p) rfl rfl ?_;obtain⟨b3,h3⟩:∃b,btw (-1) 63 x.p=b:=⟨_,rfl⟩;rw[h3] at hc ⊢
 cases b3
 ·simp at hc;subst hc;simp[go_sem]
 by_cases hp:x.p<0
 ·rw[if_pos hp] at hc;by_cases ho:iV x.d x.a=0#64
  ·simp[ho] at hc;subst hc;simp[go_sem,hp,ho]
  ·simp[ho] at hc;subst hc;simp[go_sem,hp,ho,kP]
 ·rw[if_neg hp] at hc;by_cases ho:bY (bY x.s x.d) x.a=0#64
  ·simp[ho] at hc;subst hc;simp[go_sem,hp,ho]
  ·simp[ho] at hc;subst hc;simp[go_sem,hp,ho,kP]
def EnG.zero:EnG:=⟨0,0,0,0#64,0#64,0#64,0#64⟩
def vT (l:List EnG) (j:Nat):EnG:=if j=0 then EnG.zero else (l[j - 1]?).getD EnG.zero
def EnG.stp (y x:EnG):Bool:=x.fit&&decide (y.t<=x.t)&&decide (x.l=x.lnk y.l)
def aAs (l:List EnG) (j:Nat):Bool:=(vT l j).stp ((l[j]?).getD EnG.zero)
def lgB (l:List EnG):Bool:=(List.range l.length).all (aAs l)
def hJ (l:List EnG):Bool:=decide (l.length<=60)&&lgB l
def iK (l:List EnG):EnG:=vT l l.length
theorem aV9 (l:List EnG) (hn:l.length<1000000):Pure Tryz.prog 130 [qO l] (· =(iK l).sv):=by
 refine π Tryz.func130 ?_;unfold iK vT;by_cases h:l.length=0
 ·have h':(l.length:Int)=0:=ω;simp[go_sem,h',h,EnG.zero]
 ·have h':¬(l.length:Int)=0:=ω;obtain⟨k,hk⟩:∃k,l.length=k+1:=⟨l.length - 1,ω⟩;have hr:=aI (f:=EnG.f) (l:=l) (i:=k) ω;have e:(l.length:Int) - 1=(k:Int):=ω;have e2:l[k]? =some l[k]:=List.getElem?_eq_getElem ω;rw[if_neg h,show l.length - 1=k from ω,e2];have hl:¬l=[]:=λe=>by simp[e] at h
  simp[go_sem,h',e,hl,hr];omega
def lgE (l:List EnG):Int:=if hJ l then 0 else 110
theorem aKq {l:List EnG} {k:Nat} (h:∀j,j<k->aAs l j=true) (hk:k=l.length):lgB l=true:=by
 unfold lgB;rw[List.all_eq_true];intro j hj;exact h j (by have:=List.mem_range.1 hj;omega)
theorem aR3 {l:List EnG} {k:Nat} (hk:k<l.length) (h:aAs l k=false):lgB l=false:=by
 unfold lgB;rw[List.all_eq_false];exact⟨k,List.mem_range.2 hk,by simp[h]⟩
theorem yV {l:List EnG} {k:Nat} (hk:k<l.length):aAs l k=(vT l k).stp l[k]:=by
 unfold aAs;rw[List.getElem?_eq_getElem hk];rfl
theorem zC {l:List EnG} {k:Nat} (hk:k<l.length):vT l (k+1)=l[k]:=by
 unfold vT;rw[if_neg ω,Nat.add_sub_cancel,List.getElem?_eq_getElem hk];rfl
abbrev EnG.bx (x:EnG):Option Reg:=some (.box [.i x.t,.i x.k,.i x.p,.w x.d,.w x.a,.w x.s,.w x.l])
theorem aC5 (l:List EnG) (hn:l.length<1000000):Pure Tryz.prog 53 [qO l] (· =.i (lgE l)):=by
 refine π Tryz.func53 ?_;by_cases h1:l.length<=60;rotate_left
 ·have h1':(60:Int)<l.length:=ω;have e:lgE l=110:=by unfold lgE hJ;rw[decide_eq_false h1];simp
  simp[go_sem,h1',e]
 have h1':¬(60:Int)<l.length:=ω;have eE:lgE l=if lgB l then 0 else 110:=by unfold lgE hJ;rw[decide_eq_true h1,Bool.true_and]
 rw[eE];simp[go_sem,h1'];refine aH aD (α:=Nat) (λk=>[(3,.ptr 0 0 7 0),(9,qO l),(10,.i l.length),(11,.i k)]) (λk=>[(vT l k).bx]) 1 (λk=>k<=l.length/\∀j,j<k->aAs l j=true) (λk=>l.length - k) 0 (λ_=>rfl) τ ζ (by simp[go_sem,vT,EnG.zero]) ?_;rintro k J ⟨hk,hi⟩;by_cases hlt:k<l.length;rotate_left
 ·have:k=l.length:=ω;have hb:=aKq hi this;subst this;simp[go_sem,hb]
 have hr:=aI (f:=EnG.f) hlt;have hok:=yV hlt;have hps:=zC hlt;obtain⟨y,hy⟩:∃y,vT l k=y:=⟨_,rfl⟩;obtain⟨x,hx⟩:∃x,l[k]=x:=⟨_,rfl⟩;have hno:(vT l k).stp l[k]=false->lgB l=false:=λh=>aR3 hlt (by rw[hok];exact h);rw[hy,hx] at hno hok;rw[hx] at hr hps;unfold EnG.stp at hno hok;simp[go_sem,hlt,hr,hy];refine aE aD κ κ ?_;simp[go_sem];refine⟨_,aB (aVp x) rfl rfl,?_⟩;obtain⟨f,hf⟩:∃f,x.fit=f:=⟨_,rfl⟩;rw[hf] at hno hok ⊢
 cases f
 ·have hb:=hno rfl;simp[go_sem,hb]
 by_cases ht:x.t<y.t
 ·have hb:=hno (by rw[decide_eq_false ω];rfl);simp[go_sem,ht,hb]
 simp[go_sem,ht];refine⟨_,aB (aBu y.l x) rfl rfl,?_⟩;by_cases hl:x.l=x.lnk y.l
 ·simp[go_sem,<- hl];refine⟨ω,k+1,⟨ω,λj hj=>?_⟩,ω,ω,by rw[hps],by rw[hps],by rw[hps],by rw[hps],by rw[hps],by rw[hps],by rw[hps]⟩;by_cases hjk:j=k
  ·subst hjk;rw[hok,decide_eq_true hl,decide_eq_true (ω:y.t<=x.t)];rfl
  ·exact hi j ω
 ·have hb:=hno (by rw[decide_eq_false hl];simp);simp[go_sem,hl,toNat_inj,hb]
end Go.Gx.Sr
namespace Go.Gx.Rg
open Go.RowKit Go.Proofs Go.Proofs.YtncccnmmjfapnaaGreat
theorem jM (a b c d:Int):Pure Tryz.prog 282 [.i a,.i b,.i c,.i d] (· =.b (decide (lex (bU a c) (bU b d)<0))):=by
 refine π Tryz.func282 ?_;simp[go_sem]
 repeat' split
 all_goals (simp only [lex,bU];grind)
def RG.great (g:RG):Bool:=decide (30<(g.nr:Int))||decide (50<(g.nc:Int))||decide (30<(g.nw:Int))||decide (50<(g.nm:Int))
theorem great16 (g:RG):Pure Tryz.prog 64 [g.sv] (· =.b g.great):=by
 refine π Tryz.func64 ?_;simp[go_sem]
 repeat' split
 all_goals grind [RG.great]
section
variable {g:RG}
theorem RG.no1 (h:g.c1=false):g.valid=false:=by simp[RG.valid,h]
theorem RG.no2 (h:g.c2=false):g.valid=false:=by simp[RG.valid,h]
theorem RG.no3 (h:g.c3=false):g.valid=false:=by simp[RG.valid,h]
theorem RG.no4 (h:g.c4=false):g.valid=false:=by simp[RG.valid,h]
theorem RG.no5 (h:g.c5=false):g.valid=false:=by simp[RG.valid,h]
theorem RG.no6 (h:g.c6=false):g.valid=false:=by simp[RG.valid,h]
theorem eN {n:Nat} {p:Nat->Bool} {i:Nat} (hi:i<n) (h:¬p i=true):(List.range n).all p=false:=by
 rw[List.all_eq_false];exact⟨i,List.mem_range.2 hi,h⟩
theorem cG {n:Nat} {p:Nat->Bool} (h:∀i,i<n->p i=true):(List.range n).all p=true:=by
 rw[List.all_eq_true];exact λi hi=>h i (List.mem_range.1 hi)
theorem RG.n1 {i:Nat} (hi:i<g.nr) (h:¬(g.r i).good=true):g.valid=false:=RG.no1 (by unfold RG.c1;rw[eN hi h,Bool.and_false])
theorem RG.n2 {i:Nat} (hi:i<g.nc) (h:¬(g.c i).good=true):g.valid=false:=RG.no2 (by unfold RG.c2;rw[eN hi h,Bool.and_false])
theorem RG.n3 {i:Nat} (hi:i<g.nw) (h:¬(g.w i).good=true):g.valid=false:=RG.no3 (by unfold RG.c3;rw[eN hi h,Bool.and_false])
theorem RG.n4 {i:Nat} (hi:i<g.nm) (h:¬(g.m i).good=true):g.valid=false:=RG.no4 (by unfold RG.c4;rw[eN hi h,Bool.and_false])
theorem RG.n5 {i:Nat} (hi:i+1<g.nc) (h:¬(g.c i).lt (g.c (i+1))=true):g.valid=false:=RG.no5 (by unfold RG.c5;exact eN (i:=i) ω h)
theorem RG.n6 {i:Nat} (hi:i+1<g.nm) (h:¬(g.m i).lt (g.m (i+1))=true):g.valid=false:=RG.no6 (by unfold RG.c6;exact eN (i:=i) ω h)
end
theorem eC {p:Nat->Prop} {k:Nat} (h:∀j,j<k->p j) (hk:p k):∀j,j<k+1->p j:=λj hj=>by
 by_cases e:j=k
 ·subst e;exact hk
 ·exact h j ω
abbrev RG.box (g:RG):List (Option Reg):=[some (.box [RuleG.rs g.nr g.r,ConG.rs g.nc g.c,WarG.rs g.nw g.w,MarkG.rs g.nm g.m])]
end Go.Gx.Rg
namespace Go.Gx.Rg
open Go.RowKit Go.Proofs Go.Proofs.YtncccnmmjfapnaaGreat
theorem clone105 (n:Nat) (hn:n<=1000000) (get:Nat->Nat->RV):Own Tryz.prog 139 [] [.r (.rs 8 n get)] (.sl 0 8 0 n none) [.vec 55 8 n λi j=>.r (get i j)]:=by
 refine χ Tryz.func139 ?_;simp[go_sem];refine⟨λh=>.inr (by subst h;simp),⟨ω,ω⟩,⟨[0],τ,λN=>⟨?_,?_⟩⟩⟩
 ·simp[go_sem]
 ·simp[go_sem,aJ];intros i j hi hj;rw[if_pos ω];rfl
theorem clone106 (n:Nat) (hn:n<=1000000) (get:Nat->Nat->RV):Own Tryz.prog 140 [] [.r (.rs 3 n get)] (.sl 0 3 0 n none) [.vec 59 3 n λi j=>.r (get i j)]:=by
 refine χ Tryz.func140 ?_;simp[go_sem];refine⟨λh=>.inr (by subst h;simp),⟨ω,ω⟩,⟨[0],τ,λN=>⟨?_,?_⟩⟩⟩
 ·simp[go_sem]
 ·simp[go_sem,aJ];intros i j hi hj;rw[if_pos ω];rfl
theorem clone107 (n:Nat) (hn:n<=1000000) (get:Nat->Nat->RV):Own Tryz.prog 141 [] [.r (.rs 4 n get)] (.sl 0 4 0 n none) [.vec 57 4 n λi j=>.r (get i j)]:=by
 refine χ Tryz.func141 ?_;simp[go_sem];refine⟨λh=>.inr (by subst h;simp),⟨ω,ω⟩,⟨[0],τ,λN=>⟨?_,?_⟩⟩⟩
 ·simp[go_sem]
 ·simp[go_sem,aJ];intros i j hi hj;rw[if_pos ω];rfl
theorem clone108 (n:Nat) (hn:n<=1000000) (get:Nat->Nat->RV):Own Tryz.prog 142 [] [.r (.rs 5 n get)] (.sl 0 5 0 n none) [.vec 61 5 n λi j=>.r (get i j)]:=by
 refine χ Tryz.func142 ?_;simp[go_sem];refine⟨λh=>.inr (by subst h;simp),⟨ω,ω⟩,⟨[0],τ,λN=>⟨?_,?_⟩⟩⟩
 ·simp[go_sem]
 ·simp[go_sem,aJ];intros i j hi hj;rw[if_pos ω];rfl
theorem xL (g:RG) (hr:g.nr<=1000000) (hc:g.nc<=1000000) (hw:g.nw<=1000000) (hm:g.nm<=1000000):Own Tryz.prog 123 [] [g.sv] (.agg [.sl 0 8 0 g.nr none,.sl 1 3 0 g.nc none,.sl 2 4 0 g.nw none,.sl 3 5 0 g.nm none])
 [.vec 55 8 g.nr λi j=>.r ((g.r i).c j),.vec 59 3 g.nc λi j=>.r ((g.c i).c j),.vec 57 4 g.nw λi j=>.r ((g.w i).c j),.vec 61 5 g.nm λi j=>.r ((g.m i).c j)]:=by
 refine γ Tryz.func123 ?_;simp[go_sem];refine aA3 (λf=>f==139||f==140||f==141||f==142) aD κ 12 κ rfl rfl ?_;simp[go_sem];refine⟨_,_,sK (clone105 _ hr _) rfl,_,_,sK (clone106 _ hc _) rfl,_,_,sK (clone107 _ hw _) rfl,_,_,sK (clone108 _ hm _) rfl,?_⟩;simp[go_sem];refine⟨[2,3,4,5],δ,λN=>⟨?_,?_⟩⟩
 ·simp[go_sem]
 ·simp[go_sem]
end Go.Gx.Rg
namespace Go.Gx.Sr
open Go.RowKit Go.Proofs Go.Proofs.YtncccnmmjfapnaaGreat Go.Gx.Ix
def knE (l:List EnG) (p:Int):Int:=if hJ l then (if btw 0 63 p then 0 else 2) else 110
theorem aR0 (l:List EnG) (hn:l.length<1000000) (p:Int):Pure Tryz.prog 131 [qO l,.i p] (· =.i (knE l p)):=by
 refine π Tryz.func131 ?_;simp[go_sem];refine aA (aC5 l hn) rfl rfl ?_;unfold knE lgE
 cases hJ l
 ·simp[go_sem]
 simp[go_sem];refine aA (jG 0 63 p) rfl rfl ?_
 cases btw 0 63 p <;> simp[go_sem]
theorem sI (n:Nat) (hn:n<=1000000) (get:Nat->Nat->RV):Own Tryz.prog 146 [] [.r (.rs 7 n get)] (.sl 0 7 0 n none) [.vec 73 7 n λi j=>.r (get i j)]:=by
 refine χ Tryz.func146 ?_;simp[go_sem];refine⟨λh=>.inr (by subst h;simp),⟨ω,ω⟩,⟨[0],τ,λN=>⟨?_,?_⟩⟩⟩
 ·simp[go_sem]
 ·simp[go_sem,aJ];intros i j hi hj;rw[if_pos ω];rfl
theorem aCi {α:Type} {f:α->Nat->RV} {l:List α} {x:α} {k q d:Nat} {M:Mem} {new:Nat->Nat->SV} (h:∀j,j<k->new 0 j=.r (f x j)) :
 ∀i j,i<l.length+1->j<k->aU M d (SV.kill q (aJ l.length 1 (λi j=>SV.r (aY f l i j)) new i j))=aY f (l++[x]) i j:=by
 intro i j hi hj;unfold aJ;by_cases hiL:i<l.length
 ·rw[if_pos hiL];unfold aY;rw[List.getElem?_append_left hiL]
  cases d <;> rfl
 ·obtain rfl:i=l.length:=ω;rw[if_neg hiL,if_pos ω,Nat.sub_self,h j hj];unfold aY;rw[List.getElem?_concat_length]
  cases d <;> rfl
theorem lt7 {j:Nat} (h:j<7):j=0\/j=1\/j=2\/j=3\/j=4\/j=5\/j=6:=ω
def wrE (l:List EnG) (t k p:Int):Int:=if hJ l then (if btw (iK l).t maxT t&&btw 0 7 k&&btw 0 63 p then (if l.length=60 then 9 else 0) else 2) else 110
def wrX (l:List EnG) (t k p:Int) (d s:W64):EnG:=⟨t,k,p,d,s,bY d s,(EnG.mk t k p d s (bY d s) 0#64).lnk (iK l).l⟩
theorem aT4 (l:List EnG) (hn:l.length<1000000) (t k p:Int) (d s:W64):Pure Tryz.prog 422 [qO l,.i t,.i k,.i p,.w d,.w s] (· =.tup [qO (if wrE l t k p=0 then l++[wrX l t k p d s] else []),.i (wrE l t k p)]):=by
 refine Pure.ofSub ?_;refine π Tryz.func422 ?_;simp[go_sem];refine aA (aC5 l hn) rfl rfl ?_;simp[go_sem];refine aA (aV9 l hn) rfl rfl ?_;unfold wrE lgE
 cases hk:hJ l
 ·simp[go_sem]
 obtain⟨y,hy⟩:∃y,iK l=y:=⟨_,rfl⟩;rw[hy];simp[go_sem];refine aA (jG y.t maxT t) rfl rfl ?_
 cases h1:btw y.t maxT t
 ·simp[go_sem]
 simp[go_sem];refine aA (jG 0 7 k) rfl rfl ?_
 cases h2:btw 0 7 k
 ·simp[go_sem]
 simp[go_sem];refine aA (jG 0 63 p) rfl rfl ?_
 cases h3:btw 0 63 p
 ·simp[go_sem]
 by_cases h4:l.length=60
 ·have h4':(l.length:Int)=60:=ω;simp[go_sem,h4,h4']
 have h4':¬(l.length:Int)=60:=ω;simp[go_sem,h4,h4'];refine aA (aBu y.l (EnG.mk t k p d s (bY d s) 0#64)) rfl rfl ?_;simp[go_sem];have hrow:∀j,j<7->[SV.i t,SV.i k,SV.i p,SV.w d,SV.w s,SV.w (bY d s),SV.w (EnG.lnk y.l {t:=t,k:=k,p:=p,d:=d,a:=s,s:=bY d s,l:=0#64})][0*7+j]?.getD (SV.r RV.any)=.r ((wrX l t k p d s).f j):=by
  intro j hj;unfold wrX;rw[hy];rcases lt7 hj with rfl | rfl | rfl | rfl | rfl | rfl | rfl <;> rfl
 refine aM (t:=(.take 0 (.take 2 (.alt 1 [2,0] (.alt 3 [2] (.alt 4 [] (.take 5 (.take 6 (.done [6,5]))) .nil) .nil) (.alt 3 [2,0] (.alt 1 [0] (.alt 4 [] (.take 5 (.take 6 (.done [6,5]))) .nil) .nil) .nil))))) aD κ κ κ (λ_ _ _ _ h=>h) ?_;simp[go_sem];refine⟨?_,?_⟩
 ·refine aF [] (sI l.length ω _) τ rfl trivial ?_;simp[go_sem];exact⟨⟨ω,ω⟩,aCi λj hj=>hrow j hj⟩
 ·refine aF [] (sI l.length ω _) τ rfl trivial ?_;simp[go_sem];exact⟨⟨ω,ω⟩,aCi λj hj=>hrow j hj⟩
def EnG.er (x:EnG) (p:Int):EnG:=if x.p=p then {x with p:=-1,d:=0#64,a:=0#64} else x
def erL (l:List EnG) (p:Int):List EnG:=l.map λx=>x.er p
def erN (l:List EnG) (p:Int):Nat:=(l.filter λx=>decide (x.p=p)).length
def erR (get:Nat->Nat->RV) (row:Nat):Nat->Nat->RV:=λi j=>if i=row then (if j=2 then .i (-1) else if j=3 then .w 0#64 else if j=4 then .w 0#64 else get i j) else get i j
theorem bE8 (n row:Nat) (hrow:row<n) (get:Nat->Nat->RV) (a m:Int) (h0:0<=m) (hm:m<1000000):OwnS Tryz.prog 2 417 [.vec 73 7 n λi j=>.r (get i j),.box [.i m]] [.i a,.ptr 0 row 7 0,.ptr 1 0 1 0] (.tup [])
 [.vec 73 7 n λi j=>.r (erR get row i j),.box [.i (m+1)]]:=by
 refine bG aD Tryz.func417 rfl κ ν rfl rfl 2 (Nat.le_refl _) ?_;simp[go_sem,hrow];refine⟨⟨ω,ω⟩,[0,1],⟨rfl,rfl,trivial⟩,τ,λN=>⟨ζ,?_⟩⟩;simp[go_sem];intro i j hi hj;unfold erR;by_cases hr:i=row
 ·subst hr;rcases lt7 hj with rfl | rfl | rfl | rfl | rfl | rfl | rfl <;> simp
 ·simp[hr]
def erK (l:List EnG) (p:Int) (k:Nat):Nat->Nat->RV:=λi j=>if i<k then aY EnG.f (erL l p) i j else aY EnG.f l i j
def erC (l:List EnG) (p:Int) (k:Nat):Nat:=erN (l.take k) p
theorem aQi (l:List EnG) (p:Int) (k:Nat):erC l p k<=l.length:=by
 unfold erC erN;exact Nat.le_trans (List.length_filter_le _ _) ι
theorem xT {l:List EnG} {p:Int} {k:Nat} (hk:k<l.length):erC l p (k+1)=erC l p k+if l[k].p=p then 1 else 0:=by
 unfold erC erN;rw[List.take_succ_eq_append_getElem hk,List.filter_append,List.length_append];by_cases h:l[k].p=p <;> simp[h]
theorem aKg {l:List EnG} {p:Int} {k:Nat} (hk:k<l.length) (j:Nat):aY EnG.f (erL l p) k j=(l[k].er p).f j:=by
 have hk':k<(erL l p).length:=by simpa [erL] using hk
 rw[aI hk'];simp[erL]
theorem aKf {l:List EnG} {p:Int} {k:Nat} (hk:k<l.length) (hp:l[k].p=p):erR (erK l p k) k=erK l p (k+1):=by
 funext i j;unfold erR erK;by_cases hi:i=k
 ·subst hi;rw[if_pos rfl,if_neg (Nat.lt_irrefl i),if_pos (Nat.lt_succ_self i),aKg hk,aI hk];unfold EnG.er;rw[if_pos hp];rcases j with _ | _ | _ | _ | _ | _ | j <;> rfl
 ·rw[if_neg hi];by_cases h:i<k
  ·rw[if_pos h,if_pos ω]
  ·rw[if_neg h,if_neg ω]
theorem aQj {l:List EnG} {p:Int} {k:Nat} (hk:k<l.length) (hp:¬l[k].p=p):erK l p k=erK l p (k+1):=by
 funext i j;unfold erK;by_cases hi:i=k
 ·subst hi;rw[if_neg (Nat.lt_irrefl i),if_pos (Nat.lt_succ_self i),aKg hk,aI hk];unfold EnG.er;rw[if_neg hp]
 ·by_cases h:i<k
  ·rw[if_pos h,if_pos ω]
  ·rw[if_neg h,if_neg ω]
theorem aQg (l:List EnG) (hn:l.length<1000000) (p:Int):OwnS Tryz.prog 2 132 [.vec 73 7 l.length λi j=>.r (aY EnG.f l i j),.box [.i 0]] [.sl 0 7 0 l.length none,.i p,.fn (.func 417) [] [.ptr 1 0 1 0]] (.tup [])
 [.vec 73 7 l.length λi j=>.r (aY EnG.f (erL l p) i j),.box [.i (erN l p)]]:=by
 refine bG aD Tryz.func132 rfl κ ν rfl rfl 2 (Nat.le_refl _) ?_;simp[go_sem];refine aH aD (α:=Nat) (λk=>[(0,.sl 0 7 0 l.length none),(1,.i p),(2,.fn (.func 417) [] [.ptr 1 0 1 0]),(8,.i l.length),(9,.i k)]) (λk=>[some (.vec 73 7 l.length λi j=>.r (erK l p k i j)),some (.box [.i (erC l p k)])]) 2
  (λk=>k<=l.length) (λk=>l.length - k) 0 (λ_=>rfl) τ ζ (by simp[go_sem,erK,erC,erN]) ?_
 intro k J hk;by_cases hlt:k<l.length;rotate_left
 ·have:k=l.length:=ω;subst this;simp[go_sem];refine⟨[0,1],⟨rfl,rfl,trivial⟩,τ,λN=>⟨ζ,?_⟩⟩;simp[go_sem,erC];intro i j hi hj;unfold erK;rw[if_pos hi]
 have hr:=aI (f:=EnG.f) hlt;have hle:=aQi l p k;have hs:=xT (p:=p) hlt;have h2:erK l p k k 2=.i l[k].p:=by unfold erK;rw[if_neg (Nat.lt_irrefl k),hr];rfl
 by_cases hp:l[k].p=p
 ·rw[if_pos hp] at hs;simp[go_sem,hlt,h2,hp];refine cC [0,1] (bE8 l.length k hlt (erK l p k) k (erC l p k) ω ω) (Nat.le_refl _) τ rfl ⟨rfl,rfl,trivial⟩ ?_;simp[go_sem];exact⟨⟨ω,ω⟩,k+1,ω,ω,ω,by rw[aKf hlt hp],ω⟩
 ·rw[if_neg hp,Nat.add_zero] at hs;simp[go_sem,hlt,h2,hp];exact⟨⟨ω,ω⟩,k+1,ω,ω,ω,by rw[aQj hlt hp],ω⟩
theorem aQl (l:List EnG) (hn:l.length<1000000) (p:Int):Pure Tryz.prog 330 [qO l,.i p] (· =.tup [qO (if knE l p=0 then erL l p else []),.i (if knE l p=0 then erN l p else 0),.i (knE l p)]):=by
 refine Pure.ofSub ?_;refine π Tryz.func330 ?_;simp[go_sem];refine aA (aR0 l hn p) rfl rfl ?_;by_cases hk:knE l p=0;rotate_left
 ·simp[go_sem,hk]
 simp[go_sem,hk];refine aF [] (sI l.length ω _) τ rfl trivial ?_;simp[go_sem];refine cC [0,1] (aQg l hn p) (Nat.le_refl _) τ rfl ⟨rfl,rfl,trivial⟩ ?_;simp[go_sem];refine aE aD κ κ ?_;simp[go_sem];simp[erL]
end Go.Gx.Sr
namespace Go.Gx.Ix
open Go.RowKit
def GBd (nw:FuncId->Bool) (P:Program) (T:Tab) (N:cZ) (op:BinOp) (t:TypeId) (x y:SV) (d:Option Tmp) (all:Array Oper) (rest fin:List Oper) (k:List It) (Q:GQ) (E:Env) (M:Mem) (nx:Nat):Prop:=
 vX nw P T N (lD T op t x y) d all rest fin k Q E M nx
section
variable {nw:FuncId->Bool} {P:Program} {T:Tab} {N:cZ} {t:TypeId} {d:Option Tmp} {all:Array Oper} {rest fin:List Oper} {k:List It} {Q:GQ} {E:Env} {M:Mem} {nx:Nat}
@[go_sem high]theorem aY9 (ty:TypeId) (pos:String) (af:Array Edge) (op:BinOp) (x y:Operand) (t2:TypeId) :
   jD nw P T N all (⟨d,.binOp op t x y t2,ty,pos,af,none⟩::rest) fin k Q E M nx=(dC N.n d/\cB nx ((Op.binOp op t x y t2).operands.toList.map (ev E))/\GBd nw P T N op t (ev E x) (ev E y) d all rest fin k Q E M nx):=(rfl)
@[go_sem low]theorem bG2 (op:BinOp) (x y:SV):GBd nw P T N op t x y d all rest fin k Q E M nx=vX nw P T N (lD T op t x y) d all rest fin k Q E M nx:=(rfl)
theorem aG8 {op:BinOp} {x y s:SV} {ob:Prop} (h:mM op x y=.pure ob s):GBd nw P T N op t x y d all rest fin k Q E M nx=(ob/\jD nw P T N all rest fin k Q (aK E d s) M nx):=by
 unfold GBd lD;rw[h];rfl
@[go_sem]theorem bDp (a b:Int):GBd nw P T N .or t (.r (.v (.int .u64 a))) (.r (.v (.int .u64 b))) d all rest fin k Q E M nx=jD nw P T N all rest fin k Q (aK E d (.w (iV (BitVec.ofInt 64 a) (BitVec.ofInt 64 b)))) M nx:=by rw[aG8 (aKm a b)];simp
@[go_sem]theorem aUc (a b:Int):GBd nw P T N .andNot t (.r (.v (.int .u64 a))) (.r (.v (.int .u64 b))) d all rest fin k Q E M nx=jD nw P T N all rest fin k Q (aK E d (.w (cR (BitVec.ofInt 64 a) (BitVec.ofInt 64 b)))) M nx:=by rw[aG8 (vC a b)];simp
@[go_sem]theorem aLn (x:BitVec 64) (kk:IntKind) (b:Int):GBd nw P T N .shl t (.r (.v (.int .u64 x.toNat))) (.r (.v (.int kk b))) d all rest fin k Q E M nx=(0<=b/\jD nw P T N all rest fin k Q (aK E d (.w (bT x b.toNat))) M nx):=aG8 (yH x kk b)
@[go_sem]theorem bDq (kk:IntKind) (b:Int):GBd nw P T N .shl t (.r (.v (.int .u64 1))) (.r (.v (.int kk b))) d all rest fin k Q E M nx=(0<=b/\jD nw P T N all rest fin k Q (aK E d (.w (bT 1#64 b.toNat))) M nx):=aLn 1#64 kk b
end
end Go.Gx.Ix
namespace Go.Gx.Sr
open Go.RowKit Go.Proofs Go.Proofs.YtncccnmmjfapnaaGreat Go.Gx.Ix
structure RsG where
 d:Int
 n:Int
 m:Int
 p:Int
 q:Int
 r:Int
deriving instance DecidableEq for RsG
abbrev RsG.sv (x:RsG):SV:=.agg [.r (.v (.int .u8 x.d)),.i x.n,.i x.m,.i x.p,.i x.q,.i x.r]
def RsG.okd (x:RsG):Bool:=btw 1 3 x.d&&btw (-1) 19 x.r
def jE (n:Int):Bool:=btw 0 127 n
def RsG.good (x:RsG):Bool:=x.okd&&(jE x.n&&jE x.m&&jE x.p&&jE x.q)
theorem aQs:Pure Tryz.prog 71 [] (· =.agg [.i 0,.i 2,.i 2,.i 7,.i 9,.i 7,.i 16,.i 7,.i 23,.i 7,.i 30,.i 5]):=by
 refine π Tryz.func71 ?_;simp[go_sem]
theorem aIi (x:RsG) (hd:0<=x.d/\x.d<=255) (hr:x.r<=1000) (hr2:-1000<=x.r):Pure Tryz.prog 156 [x.sv] (· =.agg [.i x.d,.i x.n,.i x.m,.i x.p,.i x.q,.i (x.r+1)]):=by
 refine π Tryz.func156 ?_;simp[go_sem];exact⟨⟨ω,ω⟩,bX ⟨ω,ω⟩⟩
def RsG.v4 (x:RsG):Nat->Int
 | 0=>x.n
 | 1=>x.m
 | 2=>x.p
 | _=>x.q
def RsG.c4 (x:RsG):Nat->SV
 | 0=>.i x.n
 | 1=>.i x.m
 | 2=>.i x.p
 | 3=>.i x.q
 | _=>.r .any
theorem RsG.c4_eq (x:RsG) (n:Nat):[SV.i x.n,SV.i x.m,SV.i x.p,SV.i x.q][n]?.getD (.r .any)=x.c4 n:=by rcases n with _ | _ | _ | _ | n <;> rfl
@[go_sem]theorem RsG.c4_trim (x:RsG) (n k:Nat):SV.trim n (x.c4 k)=x.c4 k:=by rcases k with _ | _ | _ | _ | k <;> rfl
def RsG.a4 (x:RsG):Bool:=jE x.n&&jE x.m&&jE x.p&&jE x.q
theorem RsG.a4_no {x:RsG} {k:Nat} (hk:k<4) (h:jE (x.v4 k)=false):x.a4=false:=by
 unfold RsG.a4;rcases(ω:k=0\/k=1\/k=2\/k=3) with rfl | rfl | rfl | rfl <;> simp only [RsG.v4] at h <;> simp[h]
theorem RsG.a4_yes {x:RsG} (h:∀j,j<4->jE (x.v4 j)=true):x.a4=true:=by
 have h0:=h 0 δ;have h1:=h 1 δ;have h2:=h 2 δ;have h3:=h 3 δ;simp only [RsG.v4] at h0 h1 h2 h3;simp[RsG.a4,h0,h1,h2,h3]
theorem bAi (x:RsG):Pure Tryz.prog 73 [x.sv] (· =.b x.good):=by
 refine π Tryz.func73 ?_;unfold RsG.good;obtain⟨c,hc⟩:∃c,x.okd=c:=⟨_,rfl⟩;rw[hc];unfold RsG.okd btw at hc;by_cases h1:x.d<1
 ·have:c=false:=by rw[<- hc];simp;omega
  subst this;simp[go_sem,h1]
 by_cases h2:3<x.d
 ·have:c=false:=by rw[<- hc];simp;omega
  subst this;simp[go_sem,h1,h2]
 simp[go_sem,h1,h2];refine aA (jG (-1) 19 x.r) rfl rfl ?_;have hc':c=btw (-1) 19 x.r:=by rw[<- hc];unfold btw;rw[decide_eq_true (show 1<=x.d by omega),decide_eq_true (show x.d<=3 by omega)];rfl
 rw[<- hc']
 cases c
 ·simp[go_sem]
 simp[go_sem];simp only [RsG.c4_eq];refine aH aD (α:=Nat) (λk=>[(27,.sl 1 1 0 4 none),(28,.i 4),(29,.i k)]) (λk=>[some (.box [.r (.v (.int .u8 x.d)),.i x.n,.i x.m,.i x.p,.i x.q,.i x.r]),some (.vec 3 1 4 λi j=>x.c4 (i+j))]) 2 (λk=>k<=4/\∀j,j<k->jE (x.v4 j)=true) (λk=>4 - k) 0 (λ_=>rfl) τ ζ ζ ?_;rintro k J ⟨hk,hi⟩;have e4:(jE x.n&&jE x.m&&jE x.p&&jE x.q)=x.a4:=rfl;rw[e4];by_cases h4:k=4
 ·subst h4;simp[go_sem];exact RsG.a4_yes hi
 have hlt:k<4:=ω;have hv:x.c4 k=.i (x.v4 k):=by
  rcases(ω:k=0\/k=1\/k=2\/k=3) with rfl | rfl | rfl | rfl <;> rfl
 have hlt':(k:Int)<4:=ω;simp[go_sem,hlt',hlt,hv];refine aA (jG 0 127 (x.v4 k)) rfl rfl ?_;obtain⟨b,hb⟩:∃b,jE (x.v4 k)=b:=⟨_,rfl⟩;have hb':btw 0 127 (x.v4 k)=b:=hb;rw[hb']
 cases b
 ·simp[go_sem];exact RsG.a4_no hlt hb
 ·simp[go_sem];refine⟨⟨ω,ω⟩,k+1,⟨ω,λj hj=>?_⟩,ω,ω⟩;by_cases e:j=k
  ·subst e;exact hb
  ·exact hi j ω
theorem RsG.good_in {x:RsG} (h:x.good=true):(1<=x.d/\x.d<=3)/\(-1<=x.r/\x.r<=19)/\(0<=x.n/\x.n<=127)/\(0<=x.m/\x.m<=127)/\(0<=x.p/\x.p<=127)/\(0<=x.q/\x.q<=127):=by
 simp only [RsG.good,RsG.okd,jE,btw,Bool.and_eq_true,decide_eq_true_eq] at h;omega
def RsG.vn (x:RsG):Nat->Int
 | 0=>x.d
 | 1=>x.n
 | 2=>x.m
 | 3=>x.p
 | 4=>x.q
 | _=>x.r+1
def fat:Nat->Nat
 | 0=>0
 | 1=>2
 | 2=>9
 | 3=>16
 | 4=>23
 | _=>30
def RsG.pkA (x:RsG):Nat->W64
 | 0=>0#64
 | k+1=>iV (x.pkA k) (bT (u64 (x.vn k)) (fat k))
def RsG.pack (x:RsG):W64:=x.pkA 6
theorem bBd (x:RsG):Pure Tryz.prog 72 [x.sv] (· =.tup [.w (if x.good then x.pack else 0#64),.i (if x.good then 0 else 2)]):=by
 refine π Tryz.func72 ?_;simp[go_sem];refine aA (bAi x) rfl rfl ?_;by_cases hg:x.good=true;rotate_left
 ·simp[go_sem,hg]
 have hb:=RsG.good_in hg;rw[hg];simp[go_sem];refine aA (aIi x ω ω ω) rfl rfl ?_;simp[go_sem];refine aA aQs rfl rfl ?_;simp[go_sem];refine aH aD (α:=Nat) (λk=>[(4,.w (x.pkA k)),(5,.ptr 1 0 6 0),(13,.agg [.i 0,.i 2,.i 2,.i 7,.i 9,.i 7,.i 16,.i 7,.i 23,.i 7,.i 30,.i 5]),(14,.i k)])
  (λk=>[some (.box [.r (.v (.int .u8 x.d)),.i x.n,.i x.m,.i x.p,.i x.q,.i x.r]),some (.box [.i x.d,.i x.n,.i x.m,.i x.p,.i x.q,.i (x.r+1)])]) 2 (λk=>k<=6) (λk=>6 - k) 0 (λ_=>rfl) τ ?_ ?_ ?_
 ·simp[go_sem];rfl
 ·simp[go_sem]
 intro k J hk;rcases(ω:k=6\/k=0\/k=1\/k=2\/k=3\/k=4\/k=5) with rfl | rfl | rfl | rfl | rfl | rfl | rfl
 ·simp[go_sem];rfl
 all_goals
  simp[go_sem];refine aE aD κ κ ?_;simp[go_sem,pO]
 ·exact⟨1,ω,ω,rfl,rfl⟩
 ·exact⟨2,ω,ω,rfl,rfl⟩
 ·exact⟨3,ω,ω,rfl,rfl⟩
 ·exact⟨4,ω,ω,rfl,rfl⟩
 ·exact⟨5,ω,ω,rfl,rfl⟩
 ·exact⟨6,ω,ω,rfl,rfl⟩
theorem sh2:bT 1#64 2=4#64:=rfl
theorem sh7:bT 1#64 7=128#64:=rfl
theorem sh5:bT 1#64 5=32#64:=rfl
end Go.Gx.Sr
namespace Go.Gx
open Go.RowKit Go.Proofs Go.Proofs.YtncccnmmjfapnaaGreat
structure RcG where
 q:Int
 g:Bool
structure LkG where
 a:Int
 b:Int
 s:Bool
structure VtG where
 o:Int
 s:Bool
structure CsG where
 a:Int
 b:Int
 nv:Nat
 v:Nat->VtG
structure EG where
 nr:Nat
 r:Nat->RcG
 nl:Nat
 l:Nat->LkG
 nc:Nat
 c:Nat->CsG
def RcG.c (x:RcG):Nat->RV
 | 0=>.i x.q
 | _=>.v (.bool x.g)
def LkG.c (x:LkG):Nat->RV
 | 0=>.i x.a
 | 1=>.i x.b
 | _=>.v (.bool x.s)
def VtG.c (x:VtG):Nat->RV
 | 0=>.i x.o
 | _=>.v (.bool x.s)
def CsG.c (x:CsG):Nat->RV
 | 0=>.i x.a
 | 1=>.i x.b
 | _=>.rs 2 x.nv λi j=>(x.v i).c j
@[go_sem]theorem RcG.c0 (x:RcG):x.c 0=.i x.q:=rfl
@[go_sem]theorem RcG.c1 (x:RcG):x.c 1=.v (.bool x.g):=rfl
@[go_sem]theorem LkG.c0 (x:LkG):x.c 0=.i x.a:=rfl
@[go_sem]theorem LkG.c1 (x:LkG):x.c 1=.i x.b:=rfl
@[go_sem]theorem LkG.c2 (x:LkG):x.c 2=.v (.bool x.s):=rfl
@[go_sem]theorem VtG.c0 (x:VtG):x.c 0=.i x.o:=rfl
@[go_sem]theorem VtG.c1 (x:VtG):x.c 1=.v (.bool x.s):=rfl
@[go_sem]theorem CsG.c0 (x:CsG):x.c 0=.i x.a:=rfl
@[go_sem]theorem CsG.c1 (x:CsG):x.c 1=.i x.b:=rfl
@[go_sem]theorem CsG.c2 (x:CsG):x.c 2=.rs 2 x.nv λi j=>(x.v i).c j:=rfl
abbrev EG.rr (g:EG):SV:=.r (.rs 2 g.nr λi j=>(g.r i).c j)
abbrev EG.ll (g:EG):SV:=.r (.rs 3 g.nl λi j=>(g.l i).c j)
abbrev EG.cc (g:EG):SV:=.r (.rs 3 g.nc λi j=>(g.c i).c j)
abbrev EG.sv (g:EG):SV:=.agg [g.rr,g.ll,g.cc]
abbrev EG.bx (g:EG):Option Reg:=some (.box [g.rr,g.ll,g.cc])
structure EG.OK (g:EG):Prop where
 nr:g.nr<=1000000000
 nl:g.nl<=1000000000
 nc:g.nc<=1000000000
 nv:∀i,i<g.nc->(g.c i).nv<=1000000000
def btw (lo hi n:Int):Bool:=decide (lo<=n)&&decide (n<=hi)
theorem gK (n lo hi:Int):Pure Tryz.prog 276 [.i n,.i lo,.i hi] (· =.b (btw lo hi n)):=by
 refine π Tryz.func276 ?_;by_cases h:lo<=n <;> simp[go_sem,btw,h]
def dJ (a b c d:Int):Bool:=decide (a<c)||decide (a=c)&&decide (b<d)
theorem fS (a b c d:Int):Pure Tryz.prog 354 [.i a,.i b,.i c,.i d] (· =.b (dJ a b c d)):=by
 refine π Tryz.func354 ?_;by_cases h:a<c
 ·simp[go_sem,dJ,h]
 ·by_cases h2:a=c <;> simp[go_sem,dJ,h,h2]
def EG.th (g:EG) (a:Int):Bool:=btw 0 (g.nr - 1) a&&!(g.r a.toNat).g
theorem EG.th_iff {g:EG} {a:Int}:g.th a=true↔0<=a/\a<g.nr/\(g.r a.toNat).g=false:=by
 simp only [EG.th,btw,Bool.and_eq_true,decide_eq_true_eq,Bool.not_eq_true'];constructor
 ·rintro⟨⟨h1,h2⟩,h3⟩;exact⟨h1,ω,h3⟩
 ·rintro⟨h1,h2,h3⟩;exact⟨⟨h1,ω⟩,h3⟩
theorem nI (g:EG) (h:g.OK) (a:Int):Pure Tryz.prog 293 [g.sv,.i a] (· =.b (g.th a)):=by
 refine π Tryz.func293 ?_;have:=h.nr;simp[go_sem];refine⟨ω,?_⟩;refine aA (gK a 0 (g.nr - 1)) rfl rfl ?_;by_cases hb:btw 0 (g.nr - 1) a=true
 ·have hb':=hb;simp[btw] at hb';simp[go_sem,hb,EG.th];omega
 ·simp[go_sem,hb,EG.th]
def EG.prB (g:EG) (a b:Int):Bool:=g.th a&&g.th b&&decide (a<b)
theorem wJ (g:EG) (h:g.OK) (a b:Int):Pure Tryz.prog 353 [g.sv,.i a,.i b] (· =.b (g.prB a b)):=by
 refine π Tryz.func353 ?_;simp[go_sem];refine aA (nI g h a) rfl rfl ?_;unfold EG.prB
 cases g.th a
 ·simp[go_sem]
 simp[go_sem];refine aA (nI g h b) rfl rfl ?_
 cases g.th b <;> simp[go_sem]
def EG.great (g:EG):Bool:=decide (30<g.nr)||decide (60<g.nl)||decide (45<g.nc)||(List.range g.nc).any λi=>decide (5<(g.c i).nv)
theorem cG {n:Nat} {p:Nat->Bool} (h:∀i,i<n->p i=true):(List.range n).all p=true:=List.all_eq_true.2 λi hi=>h i (List.mem_range.1 hi)
theorem eN {n k:Nat} {p:Nat->Bool} (hk:k<n) (h:p k=false):(List.range n).all p=false:=List.all_eq_false.2 ⟨k,List.mem_range.2 hk,by rw[h];simp⟩
theorem iC {n k:Nat} {p:Nat->Bool} (h:(List.range n).all p=true) (hk:k<n):p k=true:=List.all_eq_true.1 h k (List.mem_range.2 hk)
def EG.lk1 (g:EG) (i:Nat):Bool:=g.prB (g.l i).a (g.l i).b&&(decide (i=0)||dJ (g.l (i - 1)).a (g.l (i - 1)).b (g.l i).a (g.l i).b)
def EG.lks (g:EG):Bool:=(List.range g.nl).all g.lk1
theorem aFx (g:EG) (h:g.OK):Pure Tryz.prog 277 [g.sv] (· =.b g.lks):=by
 refine π Tryz.func277 ?_;have:=h.nl;simp[go_sem];refine aH aD (α:=Nat) (λk=>[(1,.ptr 0 0 3 0),(3,.i k)]) (λ_=>[g.bx]) 1 (λk=>k<=g.nl/\∀j,j<k->g.lk1 j=true) (λk=>g.nl - k) 0 (λ_=>rfl) τ ζ ζ ?_;intro k J hi;by_cases hlt:k<g.nl
 ·simp[go_sem,hlt];refine aE aD κ κ ?_;have no:g.lk1 k=false->g.lks=false:=λhf=>eN hlt hf;have yes:g.lk1 k=true->∃x',(x'<=g.nl/\∀j,j<x'->g.lk1 j=true)/\g.nl - x'<g.nl - k/\((k:Int)+1=(x':Int)):=λht=>
   ⟨k+1,⟨ω,λj hj=>by
     by_cases hjk:j=k
     ·subst hjk;exact ht
     ·exact hi.2 j ω⟩,ω,ω⟩
  by_cases hp:g.prB (g.l k).a (g.l k).b=true;rotate_left
  ·have hp':g.prB (g.l k).a (g.l k).b=false:=by simpa using hp
   have:=(wJ g h (g.l k).a (g.l k).b).val (v':=.b false) (by rw[hp']);simp[go_sem,hlt];refine⟨_,aB this rfl rfl,?_⟩;simp[go_sem];exact no (by simp[EG.lk1,hp'])
  have hpv:=(wJ g h (g.l k).a (g.l k).b).val (v':=.b true) (by rw[hp]);simp[go_sem,hlt];refine⟨_,aB hpv rfl rfl,?_⟩;by_cases h0:k=0
  ·subst h0;simp[go_sem];obtain⟨x',y1,y2,y3⟩:=yes (by simp[EG.lk1,hp]);exact⟨x',y1,ω,ω⟩
  have h0':0<k:=ω;have hk1:(k:Int) - 1=((k - 1:Nat):Int):=ω;have hk2:k - 1<g.nl:=ω;have hk3:((k - 1:Nat):Int)<=9223372036854775807:=ω;by_cases hb:dJ (g.l (k - 1)).a (g.l (k - 1)).b (g.l k).a (g.l k).b=true
  ·have hbv:=(fS (g.l (k - 1)).a (g.l (k - 1)).b (g.l k).a (g.l k).b).val (v':=.b true) (by rw[hb]);simp[go_sem,h0',hk1,hk2,hk3];refine⟨_,aB hbv rfl rfl,?_⟩;simp[go_sem];obtain⟨x',y1,y2,y3⟩:=yes (by simp[EG.lk1,hp,hb]);exact⟨ω,x',y1,ω,ω⟩
  ·have hb':dJ (g.l (k - 1)).a (g.l (k - 1)).b (g.l k).a (g.l k).b=false:=by simpa using hb
   have hbv:=(fS (g.l (k - 1)).a (g.l (k - 1)).b (g.l k).a (g.l k).b).val (v':=.b false) (by rw[hb']);simp[go_sem,h0',hk1,hk2,hk3];refine⟨_,aB hbv rfl rfl,?_⟩;simp[go_sem];exact no (by simp[EG.lk1,hb',h0])
 ·simp[go_sem,hlt];exact cG λj hj=>hi.2 j ω
def EG.fd (g:EG) (a b:Int):Int:=match (List.range g.nl).find? λi=>decide ((g.l i).a=a)&&decide ((g.l i).b=b) with | some i=>(i:Int) | none=>-1
theorem EG.fd_at {g:EG} {a b:Int} {k:Nat} (hk:k<g.nl) (h1:(g.l k).a=a) (h2:(g.l k).b=b) (h:∀j,j<k->((g.l j).a=a->¬(g.l j).b=b)):g.fd a b=k:=by
 have:(List.range g.nl).find? (λi=>decide ((g.l i).a=a)&&decide ((g.l i).b=b))=some k:=by
  rw[List.find?_eq_some_iff_getElem];refine⟨by simp[h1,h2],k,by simpa using hk,τ,λj hj=>?_⟩;have:=h j hj;simp;by_cases e:(g.l j).a=a
  ·exact .inr (this e)
  ·exact .inl e
 rw[EG.fd,this]
theorem EG.fd_no {g:EG} {a b:Int} (h:∀j,j<g.nl->((g.l j).a=a->¬(g.l j).b=b)):g.fd a b=-1:=by
 have:(List.range g.nl).find? (λi=>decide ((g.l i).a=a)&&decide ((g.l i).b=b))=none:=by
  rw[List.find?_eq_none];intro j hj;have:=h j (List.mem_range.1 hj);simpa using this
 rw[EG.fd,this]
theorem aDg (g:EG) (h:g.OK) (a b:Int):Pure Tryz.prog 355 [g.sv,.i a,.i b] (· =.i (g.fd a b)):=by
 refine π Tryz.func355 ?_;have:=h.nl;simp[go_sem];refine aH aD (α:=Nat) (λk=>[(1,.i a),(2,.i b),(3,.ptr 0 0 3 0),(7,.i k)]) (λ_=>[g.bx]) 1 (λk=>k<=g.nl/\∀j,j<k->((g.l j).a=a->¬(g.l j).b=b)) (λk=>g.nl - k) 0 (λ_=>rfl) τ ζ ζ ?_;intro k J hi;by_cases hlt:k<g.nl
 ·have step:((g.l k).a=a->¬(g.l k).b=b)->(k+1<=g.nl/\∀j,j<k+1->((g.l j).a=a->¬(g.l j).b=b)):=λhn=>⟨ω,λj hj=>by
   by_cases hjk:j=k
   ·subst hjk;exact hn
   ·exact hi.2 j ω⟩
  by_cases h1:(g.l k).a=a
  ·by_cases h2:(g.l k).b=b
   ·simp[go_sem,hlt,h1,h2];exact(EG.fd_at hlt h1 h2 hi.2).symm
   ·simp[go_sem,hlt,h1,h2];exact⟨ω,k+1,step (λ_=>h2),ω,ω⟩
  ·simp[go_sem,hlt,h1];exact⟨ω,k+1,step (λe=>absurd e h1),ω,ω⟩
 ·simp[go_sem,hlt];exact(EG.fd_no λj hj=>hi.2 j ω).symm
def jI (n:Nat) (v:Nat->VtG):Bool:=decide (1<=n)&&decide (n<=2)&&((List.range n).all λi=>btw 0 7 (v i).o)&&(decide (n=1)||!decide ((v 0).o=(v 1).o)&&!decide ((v 0).s=(v 1).s))
theorem aTw (n:Nat) (v:Nat->VtG) (hn:n<=1000000000):Pure Tryz.prog 356 [.r (.rs 2 n λi j=>(v i).c j)] (· =.b (jI n v)):=by
 refine π Tryz.func356 ?_;by_cases h1:n<1
 ·have h1':n=0:=ω;subst h1';simp[go_sem,jI]
 by_cases h2:2<n
 ·have h1':¬(n:Int)<1:=ω;have h2':2<(n:Int):=ω;have h3:¬n<=2:=ω;simp[go_sem,h1',h2',jI,h3]
 have h1':¬(n:Int)<1:=ω;have h2':¬2<(n:Int):=ω;have h3:1<=n:=ω;have h4:n<=2:=ω;simp[go_sem,h1',h2'];refine aH aD (α:=Nat) (λk=>[(0,.r (.rs 2 n λi j=>(v i).c j)),(3,.i k)]) (λ_=>[]) 0 (λk=>k<=n/\∀j,j<k->btw 0 7 (v j).o=true) (λk=>n - k) 0 (λ_=>rfl) τ ζ ζ ?_;intro k J hi;by_cases hlt:k<n
 ·simp[go_sem,hlt];by_cases hb:btw 0 7 (v k).o=true
  ·refine aA ((gK (v k).o 0 7).val (v':=.b true) (by rw[hb])) rfl rfl ?_;simp[go_sem];refine⟨ω,k+1,⟨ω,λj hj=>?_⟩,ω,ω⟩;by_cases hjk:j=k
   ·subst hjk;exact hb
   ·exact hi.2 j ω
  ·have hb':btw 0 7 (v k).o=false:=by simpa using hb
   refine aA ((gK (v k).o 0 7).val (v':=.b false) (by rw[hb'])) rfl rfl ?_;simp[go_sem];have:(List.range n).all (λi=>btw 0 7 (v i).o)=false:=eN hlt hb';simp[jI,this]
 ·have ha:(List.range n).all (λi=>btw 0 7 (v i).o)=true:=cG λj hj=>hi.2 j ω;have hk:k=n:=ω;subst hk;simp[go_sem];refine aE aD κ κ ?_;by_cases e1:k=1
  ·subst e1;simp[go_sem];simp[jI];simpa using ha
  ·have e2:k=2:=ω;subst e2;by_cases e3:(v 0).o=(v 1).o
   ·simp[go_sem,e3];simp[jI,e3]
   ·simp[go_sem,e3];simp[jI,e3,ha]
def EG.cs1 (g:EG) (i:Nat):Bool:=g.prB (g.c i).a (g.c i).b&&(decide (i=0)||dJ (g.c (i - 1)).a (g.c (i - 1)).b (g.c i).a (g.c i).b)&&!decide (0<=g.fd (g.c i).a (g.c i).b)&&jI (g.c i).nv (g.c i).v
def EG.css (g:EG):Bool:=decide (g.nc<=40)&&(List.range g.nc).all g.cs1
theorem aE1 (g:EG) (h:g.OK):Pure Tryz.prog 278 [g.sv] (· =.b g.css):=by
 refine π Tryz.func278 ?_;have:=h.nc;by_cases h40:40<g.nc
 ·have h40':40<(g.nc:Int):=ω;simp[go_sem,h40',EG.css];omega
 have h40':¬40<(g.nc:Int):=ω;simp[go_sem,h40'];refine aH aD (α:=Nat) (λk=>[(1,.ptr 0 0 3 0),(3,.i k)]) (λ_=>[g.bx]) 1 (λk=>k<=g.nc/\∀j,j<k->g.cs1 j=true) (λk=>g.nc - k) 0 (λ_=>rfl) τ ζ ζ ?_;intro k J hi;by_cases hlt:k<g.nc
 ·simp[go_sem,hlt];refine aE aD κ κ ?_;have no:g.cs1 k=false->g.css=false:=λhf=>by simp only [EG.css];rw[eN hlt hf];simp
  have yes:g.cs1 k=true->∃x',(x'<=g.nc/\∀j,j<x'->g.cs1 j=true)/\g.nc - x'<g.nc - k/\((k:Int)+1=(x':Int)):=λht=>
   ⟨k+1,⟨ω,λj hj=>by
     by_cases hjk:j=k
     ·subst hjk;exact ht
     ·exact hi.2 j ω⟩,ω,ω⟩
  by_cases hp:g.prB (g.c k).a (g.c k).b=true;rotate_left
  ·have hp':g.prB (g.c k).a (g.c k).b=false:=by simpa using hp
   have:=(wJ g h (g.c k).a (g.c k).b).val (v':=.b false) (by rw[hp']);simp[go_sem,hlt];refine⟨_,aB this rfl rfl,?_⟩;simp[go_sem];exact no (by simp[EG.cs1,hp'])
  have hpv:=(wJ g h (g.c k).a (g.c k).b).val (v':=.b true) (by rw[hp]);have rest:(decide (k=0)||dJ (g.c (k - 1)).a (g.c (k - 1)).b (g.c k).a (g.c k).b)=true->g.cs1 k=(!decide (0<=g.fd (g.c k).a (g.c k).b)&&jI (g.c k).nv (g.c k).v):=λhb=>by
   simp[EG.cs1,hp,hb]
  have hf:=aDg g h (g.c k).a (g.c k).b;have hvt:=aTw (g.c k).nv (g.c k).v (h.nv k hlt);by_cases h0:k=0
  ·subst h0;have rest:=rest τ;by_cases hfd:0<=g.fd (g.c 0).a (g.c 0).b
   ·simp[go_sem,hlt];refine⟨_,aB hpv rfl rfl,?_⟩;simp[go_sem];refine⟨_,aB hf rfl rfl,?_⟩;simp[go_sem,hfd];exact no (by simp[rest,hfd])
   ·by_cases hv:jI (g.c 0).nv (g.c 0).v=true
    ·simp[go_sem,hlt];refine⟨_,aB hpv rfl rfl,?_⟩;simp[go_sem];refine⟨_,aB hf rfl rfl,?_⟩;simp[go_sem,hfd];refine⟨_,aB (hvt.val (v':=.b true) (by rw[hv])) rfl rfl,?_⟩;simp[go_sem];obtain⟨x',y1,y2,y3⟩:=yes (by simp[rest,hfd,hv]);exact⟨x',y1,ω,ω⟩
    ·have hv':jI (g.c 0).nv (g.c 0).v=false:=by simpa using hv
     simp[go_sem,hlt];refine⟨_,aB hpv rfl rfl,?_⟩;simp[go_sem];refine⟨_,aB hf rfl rfl,?_⟩;simp[go_sem,hfd];refine⟨_,aB (hvt.val (v':=.b false) (by rw[hv'])) rfl rfl,?_⟩;simp[go_sem];exact no (by simp[rest,hv'])
  have h0':0<k:=ω;have hk1:(k:Int) - 1=((k - 1:Nat):Int):=ω;have hk2:k - 1<g.nc:=ω;have hk3:((k - 1:Nat):Int)<=9223372036854775807:=ω;by_cases hb:dJ (g.c (k - 1)).a (g.c (k - 1)).b (g.c k).a (g.c k).b=true;rotate_left
  ·have hb':dJ (g.c (k - 1)).a (g.c (k - 1)).b (g.c k).a (g.c k).b=false:=by simpa using hb
   have hbv:=(fS (g.c (k - 1)).a (g.c (k - 1)).b (g.c k).a (g.c k).b).val (v':=.b false) (by rw[hb']);simp[go_sem,hlt];refine⟨_,aB hpv rfl rfl,?_⟩;simp[go_sem,h0',hk1,hk2,hk3];refine⟨_,aB hbv rfl rfl,?_⟩;simp[go_sem];exact no (by simp[EG.cs1,hb',h0])
  have hbv:=(fS (g.c (k - 1)).a (g.c (k - 1)).b (g.c k).a (g.c k).b).val (v':=.b true) (by rw[hb]);have rest:=rest (by simp[hb]);by_cases hfd:0<=g.fd (g.c k).a (g.c k).b
  ·simp[go_sem,hlt];refine⟨_,aB hpv rfl rfl,?_⟩;simp[go_sem,h0',hk1,hk2,hk3];refine⟨_,aB hbv rfl rfl,?_⟩;simp[go_sem];refine⟨_,aB hf rfl rfl,?_⟩;simp[go_sem,hfd];exact no (by simp[rest,hfd])
  ·by_cases hv:jI (g.c k).nv (g.c k).v=true
   ·simp[go_sem,hlt];refine⟨_,aB hpv rfl rfl,?_⟩;simp[go_sem,h0',hk1,hk2,hk3];refine⟨_,aB hbv rfl rfl,?_⟩;simp[go_sem];refine⟨_,aB hf rfl rfl,?_⟩;simp[go_sem,hfd];refine⟨_,aB (hvt.val (v':=.b true) (by rw[hv])) rfl rfl,?_⟩;simp[go_sem];obtain⟨x',y1,y2,y3⟩:=yes (by simp[rest,hfd,hv]);exact⟨ω,x',y1,ω,ω⟩
   ·have hv':jI (g.c k).nv (g.c k).v=false:=by simpa using hv
    simp[go_sem,hlt];refine⟨_,aB hpv rfl rfl,?_⟩;simp[go_sem,h0',hk1,hk2,hk3];refine⟨_,aB hbv rfl rfl,?_⟩;simp[go_sem];refine⟨_,aB hf rfl rfl,?_⟩;simp[go_sem,hfd];refine⟨_,aB (hvt.val (v':=.b false) (by rw[hv'])) rfl rfl,?_⟩;simp[go_sem];exact no (by simp[rest,hv'])
 ·simp[go_sem,hlt];simp only [EG.css];rw[cG λj hj=>hi.2 j ω];simp;omega
theorem Fit.of_regs {N:cZ} {E:Env} {M:Mem} {nx:Nat} {S:List (Nat × SV)} {l:List (Option Reg)} {n:Nat} (hn:N.np<=n) (hl:l.length=n) (h:fQ n E S) (hM:jB 0 (cT n M) l):Fit N E M nx S (fD l) n:=
 Fit.of_slotsS hn h (kL hl hM)
@[go_sem]theorem SV.trim_ite (n:Nat) (c:Prop) [Decidable c] (x y:SV):SV.trim n (if c then x else y)=if c then x.trim n else y.trim n:=by split <;> rfl
@[go_sem]theorem SV.kill_ite (n:Nat) (c:Prop) [Decidable c] (x y:SV):SV.kill n (if c then x else y)=if c then x.kill n else y.kill n:=by split <;> rfl
@[go_sem]theorem SV.toRV_ite (c:Prop) [Decidable c] (x y:SV):(if c then x else y).toRV=if c then x.toRV else y.toRV:=by split <;> rfl
def EG.hit (g:EG) (S:Nat->Bool) (x j:Nat):Bool:=(g.l j).s&&(S (g.l j).a.toNat||S (g.l j).b.toNat)&&(decide ((g.l j).a=(x:Int))||decide ((g.l j).b=(x:Int)))
def EG.rpart (g:EG) (S:Nat->Bool) (i x:Nat):Bool:=S x||(List.range i).any (g.hit S x)
def EG.rc (g:EG) (a:Int):Nat->Nat->Bool
 | 0,x=>decide (a=(x:Int))
 | n+1,x=>g.rpart (g.rc a n) g.nl x
def EG.inl (g:EG):Prop:=∀i,i<g.nl->0<=(g.l i).a/\(g.l i).a<g.nr/\0<=(g.l i).b/\(g.l i).b<g.nr
abbrev EG.rcs (g:EG) (a:Int) (k:Nat):SV:=.r (.rs 1 g.nr λi _=>.v (.bool (g.rc a k i)))
theorem zI (g:EG) (S:Nat->Bool) (i x:Nat):g.rpart S (i+1) x=(g.rpart S i x||g.hit S x i):=by
 simp[EG.rpart,List.range_succ,Bool.or_assoc]
theorem nF (g:EG) (h:g.OK) (hl:g.inl) (a n:Int) (h0:0<=a) (h1:a<g.nr) (hn:n<=1000000000):Pure Tryz.prog 357 [g.sv,.i a,.i n] (· =g.rcs a n.toNat):=by
 refine Pure.ofSub ?_;refine π Tryz.func357 ?_;have:=h.nr;have:=h.nl;simp[go_sem];refine⟨ω,⟨h0,h1⟩,ω,?_⟩;refine bK (GSt.freeze 1 rfl) ?_;refine tT aD (α:=Nat) (λk=>[(1,.i a),(2,.i n),(3,.ptr 0 0 3 0),(7,g.rcs a k),(8,.i k)]) (λ_=>fD [g.bx]) 1 (λk=>k<=n.toNat) (λk=>n.toNat - k) 0 τ ?_ ?_
 ·refine Fit.of_regs δ rfl ?_ ζ;simp[go_sem];intro i hi;by_cases e:i=a.toNat
  ·rw[if_pos e];exact congrArg (λb=>RV.v (.bool b)) (decide_eq_true ω).symm
  ·rw[if_neg e];exact congrArg (λb=>RV.v (.bool b)) (decide_eq_false ω).symm
 intro k J hi;by_cases hlt:(k:Int)<n;rotate_left
 ·have hk:n.toNat=k:=ω;rw[hk];simp[go_sem,hlt]
 simp[go_sem,hlt];refine⟨⟨ω,ω⟩,?_⟩;refine bF aD (α:=Nat) (λi=>[(1,.i a),(2,.i n),(3,.ptr 0 0 3 0),(7,g.rcs a k),(8,.i k),(9,.sl 1 1 0 g.nr none),(10,.i i)])
  (λi=>[g.bx,some (.vec 4 1 g.nr λx _=>.b (g.rpart (g.rc a k) i x))]) 2 (λi=>i<=g.nl) (λi=>g.nl - i) 0 (λ_=>rfl) τ ζ ?_ ?_
 ·simp[go_sem];intro i hi;simp[aJ,go_sem,hi,EG.rpart]
 intro i J2 hi2;have nohit:(∀x,x<g.nr->g.hit (g.rc a k) x i=false)->∀x,x<g.nr->g.rpart (g.rc a k) i x=g.rpart (g.rc a k) (i+1) x:=λhh x hx=>by rw[zI,hh x hx,Bool.or_false]
 by_cases hli:i<g.nl;rotate_left
 ·simp[go_sem,hli];refine⟨ω,k+1,ω,ω,Fit.vw (GSt.freeze 1 rfl) (Fit.of_regs δ rfl ?_ ζ)⟩;have:i=g.nl:=ω;subst this;simp[go_sem];exact λ_ _=>rfl
 obtain⟨q1,q2,q3,q4⟩:=hl i hli;by_cases hs:(g.l i).s=true;rotate_left
 ·have hs':(g.l i).s=false:=by simpa using hs
  simp[go_sem,hli,hs'];exact⟨ω,i+1,ω,ω,ω,nohit λx _=>by simp[EG.hit,hs']⟩
 have hitting:(g.rc a k (g.l i).a.toNat||g.rc a k (g.l i).b.toNat)=true->∀x,x<g.nr->(if x=(g.l i).b.toNat then SV.r (RV.v (Value.bool true)) else if x=(g.l i).a.toNat then SV.r (RV.v (Value.bool true)) else SV.b (g.rpart (g.rc a k) i x))=SV.b (g.rpart (g.rc a k) (i+1) x):=λhh x hx=>by
  have e1:x=(g.l i).b.toNat↔(g.l i).b=(x:Int):=ω;have e2:x=(g.l i).a.toNat↔(g.l i).a=(x:Int):=ω;rw[zI];simp only [e1,e2];by_cases c1:(g.l i).b=(x:Int)
  ·have ht:g.hit (g.rc a k) x i=true:=by
    unfold EG.hit;rw[hh,hs,decide_eq_true c1];simp
   rw[ht,Bool.or_true,if_pos c1]
  ·by_cases c2:(g.l i).a=(x:Int)
   ·have ht:g.hit (g.rc a k) x i=true:=by
     unfold EG.hit;rw[hh,hs,decide_eq_true c2];simp
    rw[ht,Bool.or_true,if_neg c1,if_pos c2]
   ·simp[c1,c2,EG.hit]
 by_cases ha:g.rc a k (g.l i).a.toNat=true
 ·simp[go_sem,hli,hs,ha,q1,q2,q3,q4];exact⟨ω,i+1,ω,ω,ω,hitting (by simp[ha])⟩
 ·by_cases hb:g.rc a k (g.l i).b.toNat=true
  ·simp[go_sem,hli,hs,ha,hb,q1,q2,q3,q4];exact⟨ω,i+1,ω,ω,ω,hitting (by simp[hb])⟩
  ·simp[go_sem,hli,hs,ha,hb,q1,q2,q3,q4];exact⟨ω,i+1,ω,ω,ω,nohit λx _=>by simp[EG.hit,ha,hb]⟩
def EG.one (g:EG) (a b:Int):Bool:=g.rc a g.nr b.toNat
theorem aIj (g:EG) (h:g.OK) (hl:g.inl) (a b:Int) (h0:0<=a) (h1:a<g.nr) (h2:0<=b) (h3:b<g.nr):Pure Tryz.prog 279 [g.sv,.i a,.i b] (· =.b (g.one a b)):=by
 refine π Tryz.func279 ?_;have:=h.nr;simp[go_sem];refine aA (nF g h hl a g.nr h0 h1 ω) rfl rfl ?_;simp[go_sem,h2,h3];rfl
def EG.valid (g:EG):Bool:=decide (g.nr<=24)&&((List.range g.nr).all λi=>btw 0 100 (g.r i).q)&&g.lks&&g.css&&(List.range g.nl).all λi=>(g.l i).s||!g.one (g.l i).a (g.l i).b
theorem EG.inl_of {g:EG} (h:g.lks=true):g.inl:=λi hi=>by
 have:=iC h hi;simp only [EG.lk1,EG.prB,Bool.and_eq_true] at this;have h1:=EG.th_iff.1 this.1.1.1;have h2:=EG.th_iff.1 this.1.1.2;exact⟨h1.1,h1.2.1,h2.1,h2.2.1⟩
theorem gJ (g:EG) (h:g.OK):Pure Tryz.prog 175 [g.sv] (· =.b g.valid):=by
 refine π Tryz.func175 ?_;have:=h.nr;have:=h.nl;by_cases h24:24<g.nr
 ·have h24':24<(g.nr:Int):=ω;simp[go_sem,h24',EG.valid];omega
 have h24':¬24<(g.nr:Int):=ω;have h24b:decide (g.nr<=24)=true:=decide_eq_true ω;simp[go_sem,h24'];refine aH aD (α:=Nat) (λk=>[(1,.ptr 0 0 3 0),(3,.i k)]) (λ_=>[g.bx]) 1 (λk=>k<=g.nr/\∀j,j<k->btw 0 100 (g.r j).q=true) (λk=>g.nr - k) 0 (λ_=>rfl) τ ζ ζ ?_;intro k J hi;by_cases hlt:k<g.nr
 ·simp[go_sem,hlt];by_cases hb:btw 0 100 (g.r k).q=true
  ·refine aA ((gK (g.r k).q 0 100).val (v':=.b true) (by rw[hb])) rfl rfl ?_;simp[go_sem];refine⟨ω,k+1,⟨ω,λj hj=>?_⟩,ω,ω⟩;by_cases hjk:j=k
   ·subst hjk;exact hb
   ·exact hi.2 j ω
  ·have hb':btw 0 100 (g.r k).q=false:=by simpa using hb
   refine aA ((gK (g.r k).q 0 100).val (v':=.b false) (by rw[hb'])) rfl rfl ?_;simp[go_sem];simp[EG.valid,eN (p:=λi=>btw 0 100 (g.r i).q) hlt hb']
 have hq:((List.range g.nr).all λi=>btw 0 100 (g.r i).q)=true:=cG λj hj=>hi.2 j ω;have hk:k=g.nr:=ω;subst hk;simp[go_sem];by_cases hlk:g.lks=true;rotate_left
 ·have hlk':g.lks=false:=by simpa using hlk
  refine aA ((aFx g h).val (v':=.b false) (by rw[hlk'])) rfl rfl ?_;simp[go_sem];simp[EG.valid,hlk']
 refine aA ((aFx g h).val (v':=.b true) (by rw[hlk])) rfl rfl ?_;simp[go_sem];by_cases hcs:g.css=true;rotate_left
 ·have hcs':g.css=false:=by simpa using hcs
  refine aA ((aE1 g h).val (v':=.b false) (by rw[hcs'])) rfl rfl ?_;simp[go_sem];simp[EG.valid,hcs']
 refine aA ((aE1 g h).val (v':=.b true) (by rw[hcs])) rfl rfl ?_;simp[go_sem];have hin:=EG.inl_of hlk;refine aH aD (α:=Nat) (λk=>[(1,.ptr 0 0 3 0),(4,.i k)]) (λ_=>[g.bx]) 1 (λk=>k<=g.nl/\∀j,j<k->((g.l j).s||!g.one (g.l j).a (g.l j).b)=true) (λk=>g.nl - k) 0 (λ_=>rfl) τ ζ ζ ?_;clear hi hlt;intro k J2 hi;by_cases hlt:k<g.nl
 ·have step:((g.l k).s||!g.one (g.l k).a (g.l k).b)=true->(k+1<=g.nl/\∀j,j<k+1->((g.l j).s||!g.one (g.l j).a (g.l j).b)=true):=λht=>⟨ω,λj hj=>by
   by_cases hjk:j=k
   ·subst hjk;exact ht
   ·exact hi.2 j ω⟩
  obtain⟨q1,q2,q3,q4⟩:=hin k hlt;by_cases hs:(g.l k).s=true
  ·have step:=step (by simp[hs]);simp[go_sem,hlt];refine aE aD κ κ ?_;simp[go_sem,hlt,hs];exact⟨ω,k+1,by simpa using step,ω,ω⟩
  ·have hs':(g.l k).s=false:=by simpa using hs
   by_cases ho:g.one (g.l k).a (g.l k).b=true
   ·simp[go_sem,hlt];refine aE aD κ κ ?_;simp[go_sem,hlt,hs'];refine⟨_,aB ((aIj g h hin _ _ q1 q2 q3 q4).val (v':=.b true) (by rw[ho])) rfl rfl,?_⟩;simp[go_sem];simp only [EG.valid];rw[eN (p:=λi=>(g.l i).s||!g.one (g.l i).a (g.l i).b) hlt (by simp[hs',ho])];simp
   ·have ho':g.one (g.l k).a (g.l k).b=false:=by simpa using ho
    have step:=step (by simp[ho']);simp[go_sem,hlt];refine aE aD κ κ ?_;simp[go_sem,hlt,hs'];refine⟨_,aB ((aIj g h hin _ _ q1 q2 q3 q4).val (v':=.b false) (by rw[ho'])) rfl rfl,?_⟩;simp[go_sem];exact⟨ω,k+1,by simpa using step,ω,ω⟩
 ·simp[go_sem,hlt];simp only [EG.valid,h24b,hq,hlk,hcs];rw[cG (p:=λi=>(g.l i).s||!g.one (g.l i).a (g.l i).b) λj hj=>hi.2 j ω];rfl
attribute [go_sem] gvo oU mN
theorem aFu (x:Int):Pure Tryz.prog 310 [.i x] (· =.b false):=by
 refine π Tryz.func310 ?_;simp[go_sem]
def bU (a b:Int):Int:=if a<b then -1 else if b<a then 1 else 0
theorem xI (a b:Int):Pure Tryz.prog 213 [.i a,.i b] (· =.i (bU a b)):=by
 refine π Tryz.func213 ?_;simp[go_sem];refine aA (aFu a) rfl rfl ?_;simp[go_sem];refine aA (aFu b) rfl rfl ?_;by_cases h:a<b
 ·simp[go_sem,bU,h]
 ·by_cases h2:b<a <;> simp[go_sem,bU,h,h2]
theorem bF5 (get:Nat->Nat->RV) (x y:Int) (h0:get 0 0=.i x) (h1:get 1 0=.i y):Pure Tryz.prog 212 [.r (.rs 1 2 get)] (· =.i (if x=0 then y else x)):=by
 refine π Tryz.func212 ?_;simp[go_sem];refine aH aD (α:=Nat) (λk=>[(3,.i 0),(6,.r (.rs 1 2 get)),(7,.i 2),(8,.i k)]) (λ_=>[]) 0 (λk=>k<=2/\(1<=k->x=0)/\(2<=k->y=0)) (λk=>2 - k) 0 (λ_=>rfl) τ ζ ζ ?_;rintro k J ⟨hk,a1,a2⟩;rcases(show k=0\/k=1\/k=2 by omega) with rfl | rfl | rfl
 ·by_cases hx:x=0
  ·simp[go_sem,h0,hx];exact⟨1,⟨ω,λh=>absurd h ω⟩,ω,ω⟩
  ·simp[go_sem,h0,hx]
 ·have hx:=a1 ω;by_cases hy:y=0
  ·simp[go_sem,h1,hx,hy];exact⟨2,ω,ω,ω⟩
  ·simp[go_sem,h1,hx,hy]
 ·have hx:=a1 ω;have hy:=a2 ω;simp[go_sem,hx,hy]
def dM (a b c d:Int):Int:=if bU a c=0 then bU b d else bU a c
theorem eS {a b c d:Int}:dM a b c d<0↔dJ a b c d=true:=by
 unfold dM bU dJ;simp only [Bool.or_eq_true,Bool.and_eq_true,decide_eq_true_eq]
 repeat' split
 all_goals omega
theorem jQ {a b c d:Int}:dM a b c d=0↔a=c/\b=d:=by
 unfold dM bU
 repeat' split
 all_goals omega
theorem sY (a b c d:Int):Pure Tryz.prog 347 [.agg [.i a,.i b],.agg [.i c,.i d]] (· =.i (dM a b c d)):=by
 refine π Tryz.func347 ?_;simp[go_sem];refine aE aD κ κ ?_;simp[go_sem];refine⟨_,aB (xI a c) rfl rfl,?_⟩;simp[go_sem];refine⟨_,aB (xI b d) rfl rfl,?_⟩;simp[go_sem];refine⟨_,dL (v:=.i (dM a b c d)) (by simp[go_sem];exact bF5 _ (bU a c) (bU b d) rfl rfl) rfl,?_⟩;simp[go_sem]
theorem sV (x:LkG):Pure Tryz.prog 258 [.agg [.i x.a,.i x.b,.b x.s]] (· =.agg [.i x.a,.i x.b]):=by
 refine π Tryz.func258 ?_;simp[go_sem]
theorem oX (x:CsG):Pure Tryz.prog 183 [.agg [.i x.a,.i x.b,.r (x.c 2)]] (· =.agg [.i x.a,.i x.b]):=by
 refine π Tryz.func183 ?_;simp[go_sem]
theorem iL (a b:Int):Pure Tryz.prog 404 [.i a,.i b] (· =.agg [.i (min a b),.i (max a b)]):=by
 refine π Tryz.func404 ?_;simp[go_sem]
def rL (p:Nat->Bool) (n:Nat):Int:=match (List.range n).find? p with | some i=>(i:Int) | none=>-1
theorem gY {p:Nat->Bool} {n k:Nat} (hk:k<n) (h:p k=true) (hj:∀j,j<k->p j=false):rL p n=k:=by
 have:(List.range n).find? p=some k:=by
  rw[List.find?_range_eq_some];exact⟨h,List.mem_range.2 hk,λj a=>by rw[hj j a];rfl⟩
 rw[rL,this]
theorem gZ {p:Nat->Bool} {n:Nat} (h:∀j,j<n->p j=false):rL p n=-1:=by
 have:(List.range n).find? p=none:=by
  rw[List.find?_eq_none];intro j hj;rw[h j (List.mem_range.1 hj)];simp
 rw[rL,this]
theorem sS {p:Nat->Bool} {n:Nat}:decide (0<=rL p n)=(List.range n).any p:=by
 unfold rL
 cases h:(List.range n).find? p with
 | none=>
   have h':=List.find?_eq_none.1 h;have:(List.range n).any p=false:=by
    rw[List.any_eq_false];exact h'
   rw[this];rfl
 | some i=>
   have h1:=List.find?_range_eq_some.1 h;have:(List.range n).any p=true:=List.any_eq_true.2 ⟨i,h1.2.1,h1.1⟩;rw[this];simp
theorem aRq (n:Nat) (hn:n<=1000000000) (get:Nat->Nat->RV) (g:FuncId) (ca:List SV) (hca:SV.closedL ca=true) (p:Nat->Bool)
 (hp:∀i,i<n->Pure Tryz.prog g (.r (get i 0)::ca) (· =.b (p i))):Pure Tryz.prog 263 [.r (.rs 1 n get),.fn (.func g) [] ca] (· =.i (rL p n)):=by
 refine π Tryz.func263 ?_;simp[go_sem];refine aH aD (α:=Nat) (λx=>[(0,.r (.rs 1 n get)),(1,.fn (.func g) [] ca),(7,.i n),(8,.i x)]) (λ_=>[]) 0 (λx=>x<=n/\∀j,j<x->p j=false) (λx=>n - x) 0 (λ_=>rfl) τ (by simp[go_sem,SV.trimL_closed _ _ hca]) ζ ?_;intro x J hi;by_cases hlt:x<n
 ·simp[go_sem,hlt];refine aA (hp x hlt) (by simp[go_sem,hca]) rfl ?_;by_cases hb:p x=true
  ·simp[go_sem,hb];exact(gY hlt hb hi.2).symm
  ·have hb':p x=false:=by simpa using hb
   simp[go_sem,hb',SV.trimL_closed _ _ hca];refine⟨ω,x+1,⟨ω,λj hj=>?_⟩,ω,ω⟩;by_cases hjx:j=x
   ·subst hjx;exact hb'
   ·exact hi.2 j ω
 ·simp[go_sem,hlt];exact(gZ λj hj=>hi.2 j ω).symm
theorem aE8 (n:Nat) (hn:n<=1000000000) (get:Nat->Nat->RV) (g:FuncId) (ca:List SV) (hca:SV.closedL ca=true) (p:Nat->Bool)
 (hp:∀i,i<n->Pure Tryz.prog g (.r (get i 0)::ca) (· =.b (p i))):Pure Tryz.prog 149 [.r (.rs 1 n get),.fn (.func g) [] ca] (· =.b ((List.range n).any p)):=by
 refine π Tryz.func149 ?_;simp[go_sem];refine aA (aRq n hn get g ca hca p hp) (by simp[go_sem,hca]) rfl ?_;simp[go_sem,sS]
theorem aRr (n:Nat) (hn:n<=1000000000) (get:Nat->Nat->RV) (g:FuncId) (ca:List SV) (hca:SV.closedL ca=true) (p:Nat->Bool)
 (hp:∀i,i<n->Pure Tryz.prog g (.agg [.r (get i 0),.r (get i 1)]::ca) (· =.b (p i))):Pure Tryz.prog 346 [.r (.rs 2 n get),.fn (.func g) [] ca] (· =.i (rL p n)):=by
 refine π Tryz.func346 ?_;simp[go_sem];refine aH aD (α:=Nat) (λx=>[(0,.r (.rs 2 n get)),(1,.fn (.func g) [] ca),(7,.i n),(8,.i x)]) (λ_=>[]) 0 (λx=>x<=n/\∀j,j<x->p j=false) (λx=>n - x) 0 (λ_=>rfl) τ (by simp[go_sem,SV.trimL_closed _ _ hca]) ζ ?_;intro x J hi;by_cases hlt:x<n
 ·simp[go_sem,hlt];refine aA (hp x hlt) (by simp[go_sem,hca]) rfl ?_;by_cases hb:p x=true
  ·simp[go_sem,hb];exact(gY hlt hb hi.2).symm
  ·have hb':p x=false:=by simpa using hb
   simp[go_sem,hb',SV.trimL_closed _ _ hca];refine⟨ω,x+1,⟨ω,λj hj=>?_⟩,ω,ω⟩;by_cases hjx:j=x
   ·subst hjx;exact hb'
   ·exact hi.2 j ω
 ·simp[go_sem,hlt];exact(gZ λj hj=>hi.2 j ω).symm
theorem aE9 (n:Nat) (hn:n<=1000000000) (get:Nat->Nat->RV) (g:FuncId) (ca:List SV) (hca:SV.closedL ca=true) (p:Nat->Bool)
 (hp:∀i,i<n->Pure Tryz.prog g (.agg [.r (get i 0),.r (get i 1)]::ca) (· =.b (p i))):Pure Tryz.prog 256 [.r (.rs 2 n get),.fn (.func g) [] ca] (· =.b ((List.range n).any p)):=by
 refine π Tryz.func256 ?_;simp[go_sem];refine aA (aRr n hn get g ca hca p hp) (by simp[go_sem,hca]) rfl ?_;simp[go_sem,sS]
theorem aRp (n:Nat) (hn:n<=1000000000) (get:Nat->Nat->RV) (g:FuncId) (ca:List SV) (hca:SV.closedL ca=true) (p:Nat->Bool)
 (hp:∀i,i<n->Pure Tryz.prog g (.agg [.r (get i 0),.r (get i 1)]::ca) (· =.b (p i))):Pure Tryz.prog 423 [.r (.rs 2 n get),.fn (.func g) [] ca] (· =.i (rL p n)):=by
 refine π Tryz.func423 ?_;simp[go_sem];refine aH aD (α:=Nat) (λx=>[(0,.r (.rs 2 n get)),(1,.fn (.func g) [] ca),(7,.i n),(8,.i x)]) (λ_=>[]) 0 (λx=>x<=n/\∀j,j<x->p j=false) (λx=>n - x) 0 (λ_=>rfl) τ (by simp[go_sem,SV.trimL_closed _ _ hca]) ζ ?_;intro x J hi;by_cases hlt:x<n
 ·simp[go_sem,hlt];refine aA (hp x hlt) (by simp[go_sem,hca]) rfl ?_;by_cases hb:p x=true
  ·simp[go_sem,hb];exact(gY hlt hb hi.2).symm
  ·have hb':p x=false:=by simpa using hb
   simp[go_sem,hb',SV.trimL_closed _ _ hca];refine⟨ω,x+1,⟨ω,λj hj=>?_⟩,ω,ω⟩;by_cases hjx:j=x
   ·subst hjx;exact hb'
   ·exact hi.2 j ω
 ·simp[go_sem,hlt];exact(gZ λj hj=>hi.2 j ω).symm
theorem rE (n:Nat) (hn:n<=1000000000) (get:Nat->Nat->RV) (g:FuncId) (ca:List SV) (hca:SV.closedL ca=true) (p:Nat->Bool)
 (hp:∀i,i<n->Pure Tryz.prog g (.agg [.r (get i 0),.r (get i 1)]::ca) (· =.b (p i))):Pure Tryz.prog 351 [.r (.rs 2 n get),.fn (.func g) [] ca] (· =.b ((List.range n).any p)):=by
 refine π Tryz.func351 ?_;simp[go_sem];refine aA (aRp n hn get g ca hca p hp) (by simp[go_sem,hca]) rfl ?_;simp[go_sem,sS]
theorem aW4 (x:RcG):Pure Tryz.prog 255 [.agg [.i x.q,.b x.g]] (· =.b (!btw 0 100 x.q)):=by
 refine π Tryz.func255 ?_;by_cases h:x.q<0
 ·simp[go_sem,h,btw]
 ·by_cases h2:100<x.q <;> simp[go_sem,h,h2,btw] <;> omega
theorem aJc (x:VtG):Pure Tryz.prog 350 [.agg [.i x.o,.b x.s]] (· =.b (!btw 0 7 x.o)):=by
 refine π Tryz.func350 ?_;by_cases h:x.o<0
 ·simp[go_sem,h,btw]
 ·by_cases h2:8<=x.o <;> simp[go_sem,h,h2,btw] <;> omega
mutual
theorem SV.refs_closed:∀s:SV,s.closed=true->s.refs=[]
 | .r x,_=>by simp[SV.refs]
 | .ptr ..,h=>by simp[SV.closed] at h
 | .sl ..,h=>by simp[SV.closed] at h
 | .mp ..,h=>by simp[SV.closed] at h
 | .fn f fi ca,h=>by
   simp only [SV.closed,Bool.and_eq_true] at h;simp[SV.refs,SV.refsL_closed fi h.1,SV.refsL_closed ca h.2]
 | .agg l,h=>by simp[SV.refs,SV.refsL_closed l h]
 | .tup l,h=>by simp[SV.refs,SV.refsL_closed l h]
theorem SV.refsL_closed:∀l:List SV,SV.closedL l=true->SV.refsL l=[]
 | [],_=>by simp[SV.refsL]
 | s::l,h=>by
   simp only [SV.closedL,Bool.and_eq_true] at h;simp[SV.refsL,SV.refs_closed s h.1,SV.refsL_closed l h.2]
end
theorem SV.mem_closed {l:List SV} (h:SV.closedL l=true):∀a∈l,a.refs=[]:=by
 induction l with
 | nil=>intro a ha;cases ha
 | cons s l ih=>
   simp only [SV.closedL,Bool.and_eq_true] at h;intro a ha;rcases List.mem_cons.1 ha with rfl | ha
   ·exact SV.refs_closed _ h.1
   ·exact ih h.2 a ha
abbrev dk (D:Nat->Nat->RV):SV:=.r (.rp 4 1 D 0 0)
theorem eO (g:EG) (h:g.OK) (D:Nat->Nat->RV) (hD:D 0 0=.rs 2 g.nr λi j=>(g.r i).c j) (a:Int):Pure Tryz.prog 151 [dk D,.i a] (· =.b (g.th a)):=by
 refine π Tryz.func151 ?_;have:=h.nr;by_cases h0:0<=a
 ·by_cases h1:a<g.nr
  ·simp[go_sem,h0,h1,hD,EG.th,btw];omega
  ·simp[go_sem,h0,h1,hD,EG.th,btw];omega
 ·simp[go_sem,h0,hD,EG.th,btw]
def dF (c:Nat->Int) (n:Nat):Nat:=((List.range n).find? λi=>decide (0<=c i)).getD n
theorem gP {c:Nat->Int} {n i:Nat} (hi:i<=n) (h1:∀j,j<i->c j<0) (h2:∀j,i<=j->j<n->0<=c j):dF c n=i:=by
 unfold dF;rcases Nat.lt_or_ge i n with h | h
 ·rw[List.find?_range_eq_some.2 ⟨by simpa using h2 i (Nat.le_refl i) h,List.mem_range.2 h,λj hj=>by have:=h1 j hj;simp;omega⟩];rfl
 ·have:i=n:=ω;subst this;rw[List.find?_eq_none.2 λj hj=>by have:=h1 j (List.mem_range.1 hj);simp;omega];rfl
theorem bnd_le {c:Nat->Int} {n:Nat}:dF c n<=n:=by
 unfold dF
 cases h:(List.range n).find? λi=>decide (0<=c i) with
 | none=>exact Nat.le_refl n
 | some i=>have:=List.find?_range_eq_some.1 h;have:=List.mem_range.1 this.2.1;simp;omega
def dP (c:Nat->Int) (n:Nat):Bool:=decide (dF c n<n)&&decide (c (dF c n)=0)
theorem mY {i j:Nat} (h:i+j<9223372036854775808):IntKind.i64.wrap (Int.fdiv (IntKind.u64.wrap ((i:Int)+(j:Int))) 2)=(((i+j) / 2:Nat):Int):=by
 rw[bX (k:=.u64) (by simp only [inr];omega),Int.fdiv_eq_ediv_of_nonneg _ ω,bX (k:=.i64) (by simp only [inr];omega)];omega
theorem aNy (n:Nat) (hn:(n:Int)<2 ^ 61) (get:Nat->Nat->RV) (t0 t1:Int) (g:FuncId) (ca:List SV) (hca:SV.closedL ca=true) (c:Nat->Int) (hm:∀a b,a<b->b<n->c b<0->c a<0)
 (hp:∀i,i<n->Pure Tryz.prog g (.agg [.r (get i 0),.r (get i 1),.r (get i 2)]::.agg [.i t0,.i t1]::ca) (· =.i (c i))) :
 Pure Tryz.prog 348 [.r (.rs 3 n get),.agg [.i t0,.i t1],.fn (.func g) [] ca] (· =.tup [.i (dF c n:Nat),.b (dP c n)]):=by
 refine π Tryz.func348 ?_;simp[go_sem];refine aH aD (α:=Nat × Nat) (λx=>[(0,.r (.rs 3 n get)),(2,.fn (.func g) [] ca),(4,.ptr 0 0 2 0),(8,.i n),(9,.i x.1),(10,.i x.2)]) (λ_=>[some (.box [.i t0,.i t1])]) 1
  (λx=>x.1<=x.2/\x.2<=n/\(∀j,j<x.1->c j<0)/\∀j,x.2<=j->j<n->0<=c j) (λx=>x.2 - x.1) (0,n) (λ_=>rfl) ι (by simp[go_sem,SV.trimL_closed _ _ hca]) ζ ?_
 have hr:∀r,r∈SV.refsL ca->r=0:=λr h=>by rw[SV.refsL_closed _ hca] at h;cases h
 have hr2:∀a:SV,a∈ca->∀r:Nat,r∈a.refs->r=0:=λa ha r h=>by rw[SV.mem_closed hca a ha] at h;cases h
 rintro⟨i,j⟩ J ⟨h1,h2,h3,h4⟩;dsimp only at h1 h2 h3 h4;simp[go_sem];split
 ·rename_i hlt;refine⟨ω,?_⟩;rw[mY ω];generalize hh:(i+j) / 2=h;have hb:i<=h/\h<j:=ω;refine aE aD κ κ ?_;simp[go_sem];refine⟨hr,ω,hr,hr2,_,aB (hp h ω) (by simp[go_sem,hca]) rfl,?_⟩;simp[go_sem];split
  ·rename_i hc;refine⟨ω,h+1,j,⟨ω,h2,λk hk=>?_,h4⟩,ω,by simp[SV.trimL_closed _ _ hca]⟩;by_cases hkh:k=h
   ·subst hkh;exact hc
   ·exact hm k h ω ω hc
  ·rename_i hc;refine⟨i,h,⟨ω,ω,h3,λk hk hkn=>?_⟩,ω,by simp[SV.trimL_closed _ _ hca]⟩;by_cases hkh:k=h
   ·subst hkh;omega
   ·have h5:¬c k<0:=λh6=>hc (hm h k ω hkn h6);omega
 ·rename_i hge;have hij:i=j:=ω;subst hij;have hbd:=gP (c:=c) h2 h3 h4;refine aE aD κ κ ?_;by_cases hin:i<n
  ·simp[go_sem,hin];refine⟨hr,hr2,_,aB (hp i hin) (by simp[go_sem,hca]) rfl,?_⟩;simp[go_sem,dP,hbd,hin]
  ·simp[go_sem,hin,dP,hbd]
theorem aNz (n:Nat) (hn:(n:Int)<2 ^ 61) (get:Nat->Nat->RV) (t0 t1:Int) (g:FuncId) (ca:List SV) (hca:SV.closedL ca=true) (c:Nat->Int) (hm:∀a b,a<b->b<n->c b<0->c a<0)
 (hp:∀i,i<n->Pure Tryz.prog g (.agg [.r (get i 0),.r (get i 1),.r (get i 2)]::.agg [.i t0,.i t1]::ca) (· =.i (c i))) :
 Pure Tryz.prog 438 [.r (.rs 3 n get),.agg [.i t0,.i t1],.fn (.func g) [] ca] (· =.tup [.i (dF c n:Nat),.b (dP c n)]):=by
 refine π Tryz.func438 ?_;simp[go_sem];refine aH aD (α:=Nat × Nat) (λx=>[(0,.r (.rs 3 n get)),(2,.fn (.func g) [] ca),(4,.ptr 0 0 2 0),(8,.i n),(9,.i x.1),(10,.i x.2)]) (λ_=>[some (.box [.i t0,.i t1])]) 1
  (λx=>x.1<=x.2/\x.2<=n/\(∀j,j<x.1->c j<0)/\∀j,x.2<=j->j<n->0<=c j) (λx=>x.2 - x.1) (0,n) (λ_=>rfl) ι (by simp[go_sem,SV.trimL_closed _ _ hca]) ζ ?_
 have hr:∀r,r∈SV.refsL ca->r=0:=λr h=>by rw[SV.refsL_closed _ hca] at h;cases h
 have hr2:∀a:SV,a∈ca->∀r:Nat,r∈a.refs->r=0:=λa ha r h=>by rw[SV.mem_closed hca a ha] at h;cases h
 rintro⟨i,j⟩ J ⟨h1,h2,h3,h4⟩;dsimp only at h1 h2 h3 h4;simp[go_sem];split
 ·rename_i hlt;refine⟨ω,?_⟩;rw[mY ω];generalize hh:(i+j) / 2=h;have hb:i<=h/\h<j:=ω;refine aE aD κ κ ?_;simp[go_sem];refine⟨hr,ω,hr,hr2,_,aB (hp h ω) (by simp[go_sem,hca]) rfl,?_⟩;simp[go_sem];split
  ·rename_i hc;refine⟨ω,h+1,j,⟨ω,h2,λk hk=>?_,h4⟩,ω,by simp[SV.trimL_closed _ _ hca]⟩;by_cases hkh:k=h
   ·subst hkh;exact hc
   ·exact hm k h ω ω hc
  ·rename_i hc;refine⟨i,h,⟨ω,ω,h3,λk hk hkn=>?_⟩,ω,by simp[SV.trimL_closed _ _ hca]⟩;by_cases hkh:k=h
   ·subst hkh;omega
   ·have h5:¬c k<0:=λh6=>hc (hm h k ω hkn h6);omega
 ·rename_i hge;have hij:i=j:=ω;subst hij;have hbd:=gP (c:=c) h2 h3 h4;refine aE aD κ κ ?_;by_cases hin:i<n
  ·simp[go_sem,hin];refine⟨hr,hr2,_,aB (hp i hin) (by simp[go_sem,hca]) rfl,?_⟩;simp[go_sem,dP,hbd,hin]
  ·simp[go_sem,hin,dP,hbd]
theorem bEw (x:LkG) (p q:Int) (C:Nat->Nat->RV) (hC:∃fi ca,C 0 0=.fn (.func 258) 0 0 fi ca):Pure Tryz.prog 349 [.agg [.r (x.c 0),.r (x.c 1),.r (x.c 2)],.agg [.i p,.i q],.r (.rp 1 1 C 0 0)] (· =.i (dM x.a x.b p q)):=by
 obtain⟨fi,ca,hC⟩:=hC;refine π Tryz.func349 ?_;simp[go_sem];refine aE aD κ κ ?_;simp[go_sem,hC];refine⟨_,aB (sV x) rfl rfl,?_⟩;simp[go_sem];refine⟨_,aB (sY x.a x.b p q) rfl rfl,?_⟩;simp[go_sem]
theorem bEx (x:CsG) (p q:Int) (C:Nat->Nat->RV) (hC:∃fi ca,C 0 0=.fn (.func 183) 0 0 fi ca):Pure Tryz.prog 439 [.agg [.r (x.c 0),.r (x.c 1),.r (x.c 2)],.agg [.i p,.i q],.r (.rp 1 1 C 0 0)] (· =.i (dM x.a x.b p q)):=by
 obtain⟨fi,ca,hC⟩:=hC;refine π Tryz.func439 ?_;simp[go_sem];refine aE aD κ κ ?_;simp[go_sem,hC];refine⟨_,aB (oX x) rfl rfl,?_⟩;simp[go_sem];refine⟨_,aB (sY x.a x.b p q) rfl rfl,?_⟩;simp[go_sem]
end Go.Gx
namespace Go.Gx
open Go.RowKit Go.Proofs Go.Proofs.YtncccnmmjfapnaaGreat
theorem at76 (n:Nat) (hn:(n:Int)<2 ^ 61) (l:Nat->LkG) (p q:Int) (hm:∀a b,a<b->b<n->dM (l b).a (l b).b p q<0->dM (l a).a (l a).b p q<0) :
 Pure Tryz.prog 260 [.r (.rs 3 n λi j=>(l i).c j),.fn (.func 258) [] [],.agg [.i p,.i q]] (· =.tup [.i (dF (λi=>dM (l i).a (l i).b p q) n:Nat),.b (dP (λi=>dM (l i).a (l i).b p q) n)]):=by
 refine π Tryz.func260 ?_;simp[go_sem];refine aG (v:=.tup [.i (dF (λi=>dM (l i).a (l i).b p q) n:Nat),.b (dP (λi=>dM (l i).a (l i).b p q) n)]) (by simp[go_sem];exact aNy n hn _ p q 349 _ rfl _ hm λi hi=>bEw (l i) p q _ ⟨_,_,rfl⟩) rfl ?_;simp[go_sem]
theorem at78 (n:Nat) (hn:(n:Int)<2 ^ 61) (l:Nat->CsG) (p q:Int) (hm:∀a b,a<b->b<n->dM (l b).a (l b).b p q<0->dM (l a).a (l a).b p q<0) :
 Pure Tryz.prog 405 [.r (.rs 3 n λi j=>(l i).c j),.fn (.func 183) [] [],.agg [.i p,.i q]] (· =.tup [.i (dF (λi=>dM (l i).a (l i).b p q) n:Nat),.b (dP (λi=>dM (l i).a (l i).b p q) n)]):=by
 refine π Tryz.func405 ?_;simp[go_sem];refine aG (v:=.tup [.i (dF (λi=>dM (l i).a (l i).b p q) n:Nat),.b (dP (λi=>dM (l i).a (l i).b p q) n)]) (by simp[go_sem];exact aNz n hn _ p q 439 _ rfl _ hm λi hi=>bEx (l i) p q _ ⟨_,_,rfl⟩) rfl ?_;simp[go_sem]
theorem aIk (g:EG) (h:g.OK) (D:Nat->Nat->RV) (hD:D 0 0=.rs 2 g.nr λi j=>(g.r i).c j):Pure Tryz.prog 257 [dk D,g.ll,.fn (.func 258) [] []] (· =.b g.lks):=by
 refine π Tryz.func257 ?_;have:=h.nl;simp[go_sem];refine aH aD (α:=Nat) (λk=>[(0,dk D),(1,g.ll),(2,.fn (.func 258) [] []),(10,g.ll),(11,.i g.nl),(12,.i k)]) (λ_=>[]) 0 (λk=>k<=g.nl/\∀j,j<k->g.lk1 j=true) (λk=>g.nl - k) 0 (λ_=>rfl) τ ζ ζ ?_;intro k J hi;by_cases hlt:k<g.nl;rotate_left
 ·simp[go_sem,hlt];exact cG λj hj=>hi.2 j ω
 have no:g.lk1 k=false->g.lks=false:=λhf=>eN hlt hf;have yes:g.lk1 k=true->(k+1<=g.nl/\∀j,j<k+1->g.lk1 j=true):=λht=>
  ⟨ω,λj hj=>by
    by_cases hjk:j=k
    ·subst hjk;exact ht
    ·exact hi.2 j ω⟩
 simp[go_sem,hlt];refine aA (sV (g.l k)) rfl rfl ?_;simp[go_sem];refine aE aD κ κ ?_;by_cases h1:(g.l k).b<=(g.l k).a
 ·simp[go_sem,h1];exact no (by simp[EG.lk1,EG.prB];omega)
 have h1':decide ((g.l k).a<(g.l k).b)=true:=decide_eq_true ω;have ta:=eO g h D hD (g.l k).a;by_cases h2:g.th (g.l k).a=true;rotate_left
 ·have h2':g.th (g.l k).a=false:=by simpa using h2
  simp[go_sem,h1];refine⟨_,aB (ta.val (v':=.b false) (by rw[h2'])) rfl rfl,?_⟩;simp[go_sem];exact no (by simp[EG.lk1,EG.prB,h2'])
 have tb:=eO g h D hD (g.l k).b;by_cases h3:g.th (g.l k).b=true;rotate_left
 ·have h3':g.th (g.l k).b=false:=by simpa using h3
  simp[go_sem,h1];refine⟨_,aB (ta.val (v':=.b true) (by rw[h2])) rfl rfl,?_⟩;simp[go_sem];refine⟨_,aB (tb.val (v':=.b false) (by rw[h3'])) rfl rfl,?_⟩;simp[go_sem];exact no (by simp[EG.lk1,EG.prB,h3'])
 have hp:g.prB (g.l k).a (g.l k).b=true:=by simp[EG.prB,h2,h3];omega
 have ta:=ta.val (v':=.b true) (by rw[h2]);have tb:=tb.val (v':=.b true) (by rw[h3]);by_cases h0:k=0
 ·subst h0;simp[go_sem,h1];refine⟨_,aB ta rfl rfl,?_⟩;simp[go_sem];refine⟨_,aB tb rfl rfl,?_⟩;simp[go_sem];obtain⟨y1,y2⟩:=yes (by simp[EG.lk1,hp]);exact⟨1,⟨y1,y2⟩,ω,ω⟩
 have h0':0<k:=ω;have hk1:(k:Int) - 1=((k - 1:Nat):Int):=ω;have hk2:k - 1<g.nl:=ω;have hk3:((k - 1:Nat):Int)<=9223372036854775807:=ω;have ov:=sY (g.l (k - 1)).a (g.l (k - 1)).b (g.l k).a (g.l k).b;by_cases hb:0<=dM (g.l (k - 1)).a (g.l (k - 1)).b (g.l k).a (g.l k).b
 ·have hb':dJ (g.l (k - 1)).a (g.l (k - 1)).b (g.l k).a (g.l k).b=false:=by
   have:=eS (a:=(g.l (k - 1)).a) (b:=(g.l (k - 1)).b) (c:=(g.l k).a) (d:=(g.l k).b)
   cases hh:dJ (g.l (k - 1)).a (g.l (k - 1)).b (g.l k).a (g.l k).b with
   | false=>rfl
   | true=>have:=this.2 hh;omega
  simp[go_sem,h1];refine⟨_,aB ta rfl rfl,?_⟩;simp[go_sem];refine⟨_,aB tb rfl rfl,?_⟩;simp[go_sem,h0',hk1,hk2,hk3];refine⟨_,aB (sV (g.l (k - 1))) rfl rfl,?_⟩;simp[go_sem];refine⟨_,aB ov rfl rfl,?_⟩;simp[go_sem,hb];exact no (by simp[EG.lk1,hb',h0])
 ·have hb':dJ (g.l (k - 1)).a (g.l (k - 1)).b (g.l k).a (g.l k).b=true:=eS.1 ω;simp[go_sem,h1];refine⟨_,aB ta rfl rfl,?_⟩;simp[go_sem];refine⟨_,aB tb rfl rfl,?_⟩;simp[go_sem,h0',hk1,hk2,hk3];refine⟨_,aB (sV (g.l (k - 1))) rfl rfl,?_⟩;simp[go_sem];refine⟨_,aB ov rfl rfl,?_⟩;simp[go_sem,hb];exact⟨ω,k+1,yes (by simp[EG.lk1,hp,hb']),ω,ω⟩
def EG.co1 (g:EG) (i:Nat):Bool:=g.prB (g.c i).a (g.c i).b&&(decide (i=0)||dJ (g.c (i - 1)).a (g.c (i - 1)).b (g.c i).a (g.c i).b)
def EG.cos (g:EG):Bool:=(List.range g.nc).all g.co1
theorem aIl (g:EG) (h:g.OK) (D:Nat->Nat->RV) (hD:D 0 0=.rs 2 g.nr λi j=>(g.r i).c j):Pure Tryz.prog 259 [dk D,g.cc,.fn (.func 183) [] []] (· =.b g.cos):=by
 refine π Tryz.func259 ?_;have:=h.nc;simp[go_sem];refine aH aD (α:=Nat) (λk=>[(0,dk D),(1,g.cc),(2,.fn (.func 183) [] []),(10,g.cc),(11,.i g.nc),(12,.i k)]) (λ_=>[]) 0 (λk=>k<=g.nc/\∀j,j<k->g.co1 j=true) (λk=>g.nc - k) 0 (λ_=>rfl) τ ζ ζ ?_;intro k J hi;by_cases hlt:k<g.nc;rotate_left
 ·simp[go_sem,hlt];exact cG λj hj=>hi.2 j ω
 have no:g.co1 k=false->g.cos=false:=λhf=>eN hlt hf;have yes:g.co1 k=true->(k+1<=g.nc/\∀j,j<k+1->g.co1 j=true):=λht=>
  ⟨ω,λj hj=>by
    by_cases hjk:j=k
    ·subst hjk;exact ht
    ·exact hi.2 j ω⟩
 simp[go_sem,hlt];refine aA (oX (g.c k)) rfl rfl ?_;simp[go_sem];refine aE aD κ κ ?_;by_cases h1:(g.c k).b<=(g.c k).a
 ·simp[go_sem,h1];exact no (by simp[EG.co1,EG.prB];omega)
 have h1':decide ((g.c k).a<(g.c k).b)=true:=decide_eq_true ω;have ta:=eO g h D hD (g.c k).a;by_cases h2:g.th (g.c k).a=true;rotate_left
 ·have h2':g.th (g.c k).a=false:=by simpa using h2
  simp[go_sem,h1];refine⟨_,aB (ta.val (v':=.b false) (by rw[h2'])) rfl rfl,?_⟩;simp[go_sem];exact no (by simp[EG.co1,EG.prB,h2'])
 have tb:=eO g h D hD (g.c k).b;by_cases h3:g.th (g.c k).b=true;rotate_left
 ·have h3':g.th (g.c k).b=false:=by simpa using h3
  simp[go_sem,h1];refine⟨_,aB (ta.val (v':=.b true) (by rw[h2])) rfl rfl,?_⟩;simp[go_sem];refine⟨_,aB (tb.val (v':=.b false) (by rw[h3'])) rfl rfl,?_⟩;simp[go_sem];exact no (by simp[EG.co1,EG.prB,h3'])
 have hp:g.prB (g.c k).a (g.c k).b=true:=by simp[EG.prB,h2,h3];omega
 have ta:=ta.val (v':=.b true) (by rw[h2]);have tb:=tb.val (v':=.b true) (by rw[h3]);by_cases h0:k=0
 ·subst h0;simp[go_sem,h1];refine⟨_,aB ta rfl rfl,?_⟩;simp[go_sem];refine⟨_,aB tb rfl rfl,?_⟩;simp[go_sem];obtain⟨y1,y2⟩:=yes (by simp[EG.co1,hp]);exact⟨1,⟨y1,y2⟩,ω,ω⟩
 have h0':0<k:=ω;have hk1:(k:Int) - 1=((k - 1:Nat):Int):=ω;have hk2:k - 1<g.nc:=ω;have hk3:((k - 1:Nat):Int)<=9223372036854775807:=ω;have ov:=sY (g.c (k - 1)).a (g.c (k - 1)).b (g.c k).a (g.c k).b;by_cases hb:0<=dM (g.c (k - 1)).a (g.c (k - 1)).b (g.c k).a (g.c k).b
 ·have hb':dJ (g.c (k - 1)).a (g.c (k - 1)).b (g.c k).a (g.c k).b=false:=by
   have:=eS (a:=(g.c (k - 1)).a) (b:=(g.c (k - 1)).b) (c:=(g.c k).a) (d:=(g.c k).b)
   cases hh:dJ (g.c (k - 1)).a (g.c (k - 1)).b (g.c k).a (g.c k).b with
   | false=>rfl
   | true=>have:=this.2 hh;omega
  simp[go_sem,h1];refine⟨_,aB ta rfl rfl,?_⟩;simp[go_sem];refine⟨_,aB tb rfl rfl,?_⟩;simp[go_sem,h0',hk1,hk2,hk3];refine⟨_,aB (oX (g.c (k - 1))) rfl rfl,?_⟩;simp[go_sem];refine⟨_,aB ov rfl rfl,?_⟩;simp[go_sem,hb];exact no (by simp[EG.co1,hb',h0])
 ·have hb':dJ (g.c (k - 1)).a (g.c (k - 1)).b (g.c k).a (g.c k).b=true:=eS.1 ω;simp[go_sem,h1];refine⟨_,aB ta rfl rfl,?_⟩;simp[go_sem];refine⟨_,aB tb rfl rfl,?_⟩;simp[go_sem,h0',hk1,hk2,hk3];refine⟨_,aB (oX (g.c (k - 1))) rfl rfl,?_⟩;simp[go_sem];refine⟨_,aB ov rfl rfl,?_⟩;simp[go_sem,hb];exact⟨ω,k+1,yes (by simp[EG.co1,hp,hb']),ω,ω⟩
theorem aTv (n:Nat) (v:Nat->VtG) (hn:n<=1000000000):Pure Tryz.prog 261 [.r (.rs 2 n λi j=>(v i).c j)] (· =.b (jI n v)):=by
 refine π Tryz.func261 ?_;by_cases h1:n<1
 ·have h1':n=0:=ω;subst h1';simp[go_sem,jI]
 by_cases h2:2<n
 ·have h1':¬(n:Int)<1:=ω;have h2':2<(n:Int):=ω;have h3:¬n<=2:=ω;simp[go_sem,h1',h2',jI,h3]
 have h1':¬(n:Int)<1:=ω;have h2':¬2<(n:Int):=ω;have hc:=rE n hn (λi j=>(v i).c j) 350 [] rfl (λi=>!btw 0 7 (v i).o) λi _=>aJc (v i);have ha:(List.range n).any (λi=>!btw 0 7 (v i).o)=!((List.range n).all λi=>btw 0 7 (v i).o):=by
  rw[List.all_eq_not_any_not];simp
 rw[ha] at hc;simp[go_sem,h1',h2'];refine aA hc rfl rfl ?_
 cases hA:(List.range n).all λi=>btw 0 7 (v i).o with
 | false=>simp[go_sem,jI,hA]
 | true=>
   by_cases e1:n=1
   ·subst e1;simp[go_sem];simp only [jI,hA];simp
   ·have e2:n=2:=ω;subst e2;simp[go_sem];refine aE aD κ κ ?_;by_cases e3:(v 0).o=(v 1).o
    ·simp[go_sem,e3];simp[jI,e3]
    ·simp[go_sem,e3];simp only [jI,hA];simp[e3]
section
variable {nw:FuncId->Bool} {P:Program} {T:Tab} {N:cZ} {all:Array Oper} {rest fin:List Oper} {k:List It} {Q:GQ} {E:Env} {M:Mem} {nx:Nat} {d:Option Tmp} {ty:TypeId} {pos:String} {af:Array Edge}
@[go_sem]theorem aZa (t:TypeId) (m x:Operand) (ok:Bool):jD nw P T N all (⟨d,.lookup t m x ok,ty,pos,af,none⟩::rest) fin k Q E M nx=(dC N.n d/\cB nx ((Op.lookup t m x ok).operands.toList.map (ev E))/\vX nw P T N (jH T M t (ev E m) (ev E x) ok) d all rest fin k Q E M nx):=(rfl)
end
theorem cX (r:Nat):bD [] r=none:=by rw[cE];rfl
theorem Own.pure {P:Program} {f:FuncId} {args:List SV} {S:SV} {Rs':List Reg} {φ:SV->Prop} (h:Own P f [] args S Rs') (hv:fU (bD Rs') S φ):Pure P f args φ:=by
 intro Z w vs hZ ha;have hno:∀b,¬iS (λ_=>none) (bD []) b:=by
  rintro b ⟨r,R,L,h1,_⟩;rw[cX] at h1;cases h1
 have hm:MOK (λb=>Z b\/w.heap.size<=b) (iS (λ_=>none) (bD [])) w.heap.size (λ_=>none) (bD []) (eF ([]:List Reg).length) w:=
  ⟨λb hb=>.inr (hb.elim id λh=>(hno b h).elim),λ_ _=>rfl,λr R h=>(by rw[cX] at h;cases h),λr r' R R' L L' b h=>(by rw[cX] at h;cases h),λr R L b h=>(by rw[cX] at h;cases h)⟩
 have hk:bZ Z (Zof (λb=>Z b\/w.heap.size<=b) (λ_=>none) (bD []) w) w w:=λb hb=>⟨⟨⟨hZ b hb,.inl hb⟩,λr R L h=>(by rw[cX] at h;cases h)⟩,rfl⟩;obtain⟨h1,h2⟩:=h _ _ w vs hm (SV.relL_mono (λ_ _ h=>h) hk _ _ ha);refine⟨h1,h2.mono λe w' h'=>?_⟩;obtain⟨y,σ',rfl,hm',hrel,hfr,_⟩:=h';obtain⟨s',k1,r1⟩:=lT (Z':=λb=>Z b\/(w.heap.size<=b/\b<w'.heap.size)) hm' (λb hb=>hb.1.2.imp id λh=>⟨h,hb.1.1⟩) (λr R L b h1 h2 h3=>.inr (by
  obtain⟨L',e1,e2⟩:=hm'.reg r R h1;rw[h2] at e1;cases e1;refine⟨?_,e2.block h3⟩;rcases hm'.own r R L b h1 h2 h3 with h | h
  ·exact(hno _ h).elim
  ·exact h)) S φ y hv hrel
 exact⟨y,s',rfl,k1,r1,⟨hfr.os,hfr.tape,hfr.output,hfr.size,hfr.drawn,λb hb _=>hfr.block b hb (hno b)⟩⟩
theorem wF {n a:Nat} {p q:Nat->Bool} (ha:a<n) (hp:p a=true) (hq:q a=false) (hs:∀i,q i=true->p i=true):((List.range n).filter q).length<((List.range n).filter p).length:=by
 have e:(List.range n).filter q=((List.range n).filter p).filter q:=by
  rw[List.filter_filter];refine List.filter_congr λi _=>?_
  cases h:q i with
  | false=>rfl
  | true=>rw[hs i h];rfl
 rw[e,List.length_filter_lt_length_iff_exists];exact⟨a,List.mem_filter.2 ⟨List.mem_range.2 ha,hp⟩,by simp[hq]⟩
def EG.pm (g:EG):Nat->Int->Int
 | 0,a=>a
 | k+1,a=>
   if (g.l k).s&&!decide (g.pm k (g.l k).a=g.pm k (g.l k).b) then
    if g.pm k a=max (g.pm k (g.l k).a) (g.pm k (g.l k).b) then min (g.pm k (g.l k).a) (g.pm k (g.l k).b) else g.pm k a
   else g.pm k a
def EG.lth (g:EG):Prop:=∀i,i<g.nl->g.th (g.l i).a=true/\g.th (g.l i).b=true
theorem EG.pm_bd {g:EG} (hl:g.lth):∀(k:Nat) (a:Int),k<=g.nl->0<=a->a<g.nr->0<=g.pm k a/\g.pm k a<g.nr
 | 0,a,_,h0,h1=>⟨h0,h1⟩
 | k+1,a,hk,h0,h1=>by
   have t1:=EG.th_iff.1 (hl k ω).1;have t2:=EG.th_iff.1 (hl k ω).2;have i0:=EG.pm_bd hl k a ω h0 h1;have i1:=EG.pm_bd hl k (g.l k).a ω t1.1 t1.2.1;have i2:=EG.pm_bd hl k (g.l k).b ω t2.1 t2.2.1;simp only [EG.pm];split
   ·split
    ·omega
    ·exact i0
   ·exact i0
abbrev EG.pmS (g:EG) (k:Nat):Int->SV:=λa=>.i (g.pm k a)
abbrev EG.dbox (g:EG) (s:SV):Reg:=.box [g.rr,g.ll,g.cc,s]
abbrev EG.dmap (g:EG):Reg:=.map g.th (g.pmS g.nl) none
theorem aWk (g:EG) (h:g.OK) (hl:g.lth) (x:RV):OwnS Tryz.prog 1 262 [g.dbox (.r x)] [.ptr 0 0 4 0] (.tup []) [g.dbox (.mp 1),g.dmap]:=by
 refine bG aD Tryz.func262 rfl κ ν rfl rfl 1 (Nat.le_refl 1) ?_;have:=h.nr;have:=h.nl;simp[go_sem];refine bF aD (α:=Nat) (λk=>[(0,.ptr 0 0 4 0),(18,g.rr),(19,.i g.nr),(20,.i k)])
  (λk=>[some (g.dbox (.mp 1)),some (.map (λa=>g.th a&&decide (a<k)) (λa=>.i a) none)]) 2 (λk=>k<=g.nr) (λk=>g.nr - k) 0 (λ_=>rfl) τ ζ (by simp[go_sem];exact λa ha=>(EG.th_iff.1 ha).1) ?_
 intro k J hi;by_cases hlt:k<g.nr
 ·by_cases hg:(g.r k).g=true
  ·have hth:g.th k=false:=by
    cases e:g.th k with
    | false=>rfl
    | true=>have:=(EG.th_iff.1 e).2.2;simp[hg] at this
   simp[go_sem,hlt,hg];refine⟨ω,k+1,ω,ω,ω,λa=>?_⟩;by_cases e:a=k
   ·subst e;simp[hth]
   ·have:a<(k:Int)↔a<((k+1:Nat):Int):=ω;simp[this]
  ·have hg':(g.r k).g=false:=by simpa using hg
   have hth:g.th k=true:=EG.th_iff.2 ⟨ω,ω,by simpa using hg'⟩;simp[go_sem,hlt,hg'];refine⟨ω,k+1,ω,ω,ω,λa=>?_,λa _ _ e=>e.symm⟩;by_cases e:a=k
   ·subst e;simp[hth];omega
   ·have:a<(k:Int)↔a<((k+1:Nat):Int):=ω;simp[this,e]
 have hk:k=g.nr:=ω;subst hk;simp[go_sem];refine bF aD (α:=Nat) (λk=>[(0,.ptr 0 0 4 0),(39,g.ll),(40,.i g.nl),(41,.i k)])
  (λk=>[some (g.dbox (.mp 1)),some (.map g.th (g.pmS k) none)]) 2 (λk=>k<=g.nl) (λk=>g.nl - k) 0 (λ_=>rfl) τ ζ (by simp[go_sem,EG.pm];exact λa ha=>(EG.th_iff.1 ha).2.1) ?_
 clear hi hlt;intro k J2 hi;by_cases hlt:k<g.nl;rotate_left
 ·have hk:k=g.nl:=ω;subst hk;simp[go_sem];refine⟨[0,1],by simp[lG],τ,λN=>⟨ζ,?_⟩⟩;simp[go_sem]
 obtain⟨t1,t2⟩:=hl k hlt;simp[go_sem,hlt];refine aE aD κ κ ?_;by_cases hs:(g.l k).s=true;rotate_left
 ·have hs':(g.l k).s=false:=by simpa using hs
  simp[go_sem,hlt,hs',t1,t2];exact⟨ω,k+1,ω,ω,ω,λa _=>by simp[EG.pm,hs']⟩
 by_cases hq:g.pm k (g.l k).a=g.pm k (g.l k).b
 ·simp[go_sem,hlt,hs,t1,t2,hq];exact⟨ω,k+1,ω,ω,ω,λa _=>by simp[EG.pm,hq]⟩
 have hc:∀a,g.pm (k+1) a=if g.pm k a=max (g.pm k (g.l k).a) (g.pm k (g.l k).b) then min (g.pm k (g.l k).a) (g.pm k (g.l k).b) else g.pm k a:=λa=>by simp[EG.pm,hs,hq]
 simp[go_sem,hlt,hs,t1,t2,hq];refine aA5 aD (q:=1) (has:=g.th) (val:=g.pmS k) (st:=none) ζ ζ κ ζ λf c=>?_;simp[go_sem];refine bF aD (α:=(Int->Bool) × Option Int) (λx=>[(0,.ptr 0 0 4 0),(6,.i (g.pm k (g.l k).a)),(7,.i (g.pm k (g.l k).b)),(39,g.ll),(40,.i g.nl),(41,.i k),(71,.ptr 3 0 1 0)])
  (λx=>[some (g.dbox (.mp 1)),some (.map g.th (λa=>.i (if x.1 a then g.pm k a else g.pm (k+1) a)) (some (f,c))),none,some (.iter (.mp 1) f c g.th x.1 x.2)]) 4 (λx=>True) (λx=>((List.range g.nr).filter λi:Nat=>g.th (i:Int)&&x.1 (i:Int)).length) (g.th,none) (λ_=>rfl) trivial ζ (by simp[go_sem];exact λa ha=>by simp[ha]) ?_
 rintro⟨left,la⟩ J3 -;simp[go_sem];refine aEm (q:=1) (ref:=3) (kk:=1) (f:=f) (c:=c) (all:=g.th) (left:=left) (has:=g.th) (la:=la) (val:=λa=>.i (if left a then g.pm k a else g.pm (k+1) a)) ζ ζ ζ (λ_=>rfl) ζ (λa h1 h2=>?_) (λh0=>?_);rotate_left
 ·simp[go_sem];refine⟨ω,k+1,ω,ω,ω,λa ha=>?_⟩;simp[h0 a ha]
 simp[go_sem];refine aA4 (q:=1) (ref:=3) (kk:=1) (f:=f) (c:=c) (all:=g.th) (left:=λx=>left x&&!decide (x=a)) (has:=g.th) (k:=a) (val:=λa=>.i (if left a then g.pm k a else g.pm (k+1) a)) ζ ζ ζ h1 ζ ?_;have h0a:=(EG.th_iff.1 h1).1;have h1a:=(EG.th_iff.1 h1).2.1;have hlen:((List.range g.nr).filter λi:Nat=>g.th (i:Int)&&(left (i:Int)&&!decide ((i:Int)=a))).length<((List.range g.nr).filter λi:Nat=>g.th (i:Int)&&left (i:Int)).length:=by
  refine wF (a:=a.toNat) ω ?_ ?_ ?_
  ·have:(a.toNat:Int)=a:=ω;simp[this,h1,h2]
  ·have:(a.toNat:Int)=a:=ω;simp[this]
  ·intro i hi;simp only [Bool.and_eq_true] at hi ⊢;exact⟨hi.1,hi.2.1⟩
 by_cases hm:g.pm k a=max (g.pm k (g.l k).a) (g.pm k (g.l k).b)
 ·have hca:g.pm (k+1) a=min (g.pm k (g.l k).a) (g.pm k (g.l k).b):=by rw[hc a,if_pos hm]
  simp[go_sem,h2,hm];refine⟨λx=>left x&&!decide (x=a),hlen,some a,⟨h1,⟨by simp[hca],λb hb=>?_⟩,h1⟩,rfl,λ_ _=>rfl⟩;by_cases e:b=a
  ·subst e;simp[hca]
  ·simp[e]
 ·have hca:g.pm (k+1) a=g.pm k a:=by rw[hc a,if_neg hm]
  simp[go_sem,h2,hm];refine⟨λx=>left x&&!decide (x=a),hlen,some a,λb hb=>?_,rfl,λ_ _=>rfl⟩;by_cases e:b=a
  ·subst e;simp[hca]
  ·simp[e]
end Go.Gx
