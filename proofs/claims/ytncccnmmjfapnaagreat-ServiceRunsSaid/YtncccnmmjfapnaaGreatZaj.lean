/-
 Texts of the walk, merged: Ik Ks.
-/
import Derived.Test.YtncccnmmjfapnaaGreatZai
import Derived.Test.YtncccnmmjfapnaaGreatZah
set_option linter.unusedVariables false
set_option linter.unusedSimpArgs false
set_option maxRecDepth 100000
set_option maxHeartbeats 4000000
namespace Go.Gx.Ix
open Go.RowKit Go.Proofs Go.Proofs.YtncccnmmjfapnaaGreat
deriving instance DecidableEq for IrG
deriving instance DecidableEq for MbG
deriving instance DecidableEq for PsG
def okN (id:Int):Bool:=btw 0 1073741824 id
theorem aQ4 (id:Int):Pure Tryz.prog 108 [.i id] (· =.b (okN id)):=by
 refine π Tryz.func108 ?_;by_cases h:0<=id <;> simp[go_sem,okN,btw,h]
theorem aV5 (a:MbG):Pure Tryz.prog 107 [a.sv] (· =.b (!okN a.id)):=by
 refine π Tryz.func107 ?_;simp[go_sem];refine aA (aQ4 a.id) rfl rfl ?_;simp[go_sem]
theorem aWk (a:MbG):Pure Tryz.prog 109 [a.sv] (· =.b (!a.x.ok)):=by
 refine π Tryz.func109 ?_;simp[go_sem];refine aA (pO a.x.c a.x.m) rfl rfl ?_
 cases h:vI a.x.c a.x.m <;> simp[go_sem,IrG.ok,h]
def rN (p:Nat->Bool) (n:Nat):Int:=match (List.range n).find? p with | some i=>(i:Int) | none=>-1
theorem gU {p:Nat->Bool} {n k:Nat} (hk:k<n) (h:p k=true) (hj:∀j,j<k->p j=false):rN p n=k:=by
 have:(List.range n).find? p=some k:=by
  rw[List.find?_range_eq_some];exact⟨h,List.mem_range.2 hk,λj a=>by rw[hj j a];rfl⟩
 rw[rN,this]
theorem gT {p:Nat->Bool} {n:Nat} (h:∀j,j<n->p j=false):rN p n=-1:=by
 have:(List.range n).find? p=none:=by
  rw[List.find?_eq_none];intro j hj;rw[h j (List.mem_range.1 hj)];simp
 rw[rN,this]
theorem tC {p:Nat->Bool} {n:Nat}:decide (0<=rN p n)=(List.range n).any p:=by
 unfold rN
 cases h:(List.range n).find? p with
 | none=>
   have h':=List.find?_eq_none.1 h;have:(List.range n).any p=false:=by
    rw[List.any_eq_false];exact h'
   rw[this];rfl
 | some i=>
   have h1:=List.find?_range_eq_some.1 h;have:(List.range n).any p=true:=List.any_eq_true.2 ⟨i,h1.2.1,h1.1⟩;rw[this];simp
theorem aVx (n:Nat) (hn:n<=1000000000) (get:Nat->Nat->RV) (g:FuncId) (ca:List SV) (hca:SV.closedL ca=true) (p:Nat->Bool)
 (hp:∀i,i<n->Pure Tryz.prog g (.agg [.r (get i 0),.r (get i 1),.r (get i 2)]::ca) (· =.b (p i))):Pure Tryz.prog 215 [.r (.rs 3 n get),.fn (.func g) [] ca] (· =.i (rN p n)):=by
 refine π Tryz.func215 ?_;simp[go_sem];refine aH aD (α:=Nat) (λx=>[(0,.r (.rs 3 n get)),(1,.fn (.func g) [] ca),(7,.i n),(8,.i x)]) (λ_=>[]) 0 (λx=>x<=n/\∀j,j<x->p j=false) (λx=>n - x) 0 (λ_=>rfl) τ (by simp[go_sem,SV.trimL_closed _ _ hca]) ζ ?_;intro x J hi;by_cases hlt:x<n
 ·simp[go_sem,hlt];refine aA (hp x hlt) (by simp[go_sem,hca]) rfl ?_;by_cases hb:p x=true
  ·simp[go_sem,hb];exact(gU hlt hb hi.2).symm
  ·have hb':p x=false:=by simpa using hb
   simp[go_sem,hb',SV.trimL_closed _ _ hca];refine⟨ω,x+1,⟨ω,λj hj=>?_⟩,ω,ω⟩;by_cases hjx:j=x
   ·subst hjx;exact hb'
   ·exact hi.2 j ω
 ·simp[go_sem,hlt];exact(gT λj hj=>hi.2 j ω).symm
theorem aHd (n:Nat) (hn:n<=1000000000) (get:Nat->Nat->RV) (g:FuncId) (ca:List SV) (hca:SV.closedL ca=true) (p:Nat->Bool)
 (hp:∀i,i<n->Pure Tryz.prog g (.agg [.r (get i 0),.r (get i 1),.r (get i 2)]::ca) (· =.b (p i))):Pure Tryz.prog 106 [.r (.rs 3 n get),.fn (.func g) [] ca] (· =.b ((List.range n).any p)):=by
 refine π Tryz.func106 ?_;simp[go_sem];refine aA (aVx n hn get g ca hca p hp) (by simp[go_sem,hca]) rfl ?_;simp[go_sem,tC]
theorem aOi {α:Type} [Inhabited α] (l:List α) (q:α->Bool):((List.range l.length).any λi=>q l[i]!)=l.any q:=by
 rw[Bool.eq_iff_iff,List.any_eq_true,List.any_eq_true];constructor
 ·rintro⟨i,hi,h⟩;have hi:=List.mem_range.1 hi;rw[getElem!_pos l i hi] at h;exact⟨_,List.getElem_mem hi,h⟩
 ·rintro⟨a,ha,h⟩;obtain⟨i,hi,rfl⟩:=List.mem_iff_getElem.1 ha;exact⟨i,List.mem_range.2 hi,by rw[getElem!_pos l i hi];exact h⟩
theorem aAi (l:List MbG) (hn:l.length<=1000000000) (g:FuncId) (q:MbG->Bool) (hp:∀a:MbG,Pure Tryz.prog g [a.sv] (· =.b (q a))):Pure Tryz.prog 106 [xA l,.fn (.func g) [] []] (· =.b (l.any q)):=by
 rw[<- aOi l q];refine aHd l.length hn (gG l) g [] rfl (λi=>q l[i]!) λi hi=>?_;rw[mrow hi 0,mrow hi 1,mrow hi 2,getElem!_pos l i hi];exact hp l[i]
theorem gN {α:Type} {l l':List α} (h:l.length=l'.length) (e:∀j (h1:j<l.length) (h2:j<l'.length),l[j]=l'[j]):l=l':=List.ext_getElem h λj h1 h2=>e j h1 h2
theorem aVb (l l':List MbG) (hn:l.length<=1000000000):Pure Tryz.prog 220 [xA l,xA l'] (· =.b (decide (l=l'))):=by
 refine π Tryz.func220 ?_;simp[go_sem];by_cases h:l.length=l'.length;rotate_left
 ·have h':¬l=l':=λe=>h (by rw[e]);simp[go_sem,h,h']
  try omega
 simp[go_sem,h];have hn':l'.length<=1000000000:=ω;refine aH aD (α:=Nat) (λk=>[(0,.r (.rs 3 l'.length (gG l))),(1,xA l'),(12,.i l'.length),(13,.i k)]) (λ_=>[]) 0 (λk=>k<=l'.length/\∀j,j<k->∀(h1:j<l.length) (h2:j<l'.length),l[j]=l'[j]) (λk=>l'.length - k) 0 (λ_=>rfl) τ (by simp[go_sem,h]) ζ ?_;intro k J hi;by_cases hlt:k<l'.length
 ·simp[go_sem,hlt];have hlt1:k<l.length:=ω;have r0:=mrow hlt1 0;have r1:=mrow hlt1 1;have r2:=mrow hlt1 2;have q0:=mrow hlt 0;have q1:=mrow hlt 1;have q2:=mrow hlt 2;refine aE aD κ κ ?_;simp[go_sem,hlt,r0,r1,r2,q0,q1,q2];have hiff:l[k]=l'[k]↔l[k].id=l'[k].id/\l[k].x.c.toNat=l'[k].x.c.toNat/\l[k].x.m.toNat=l'[k].x.m.toNat:=by
   rw[BitVec.toNat_inj,BitVec.toNat_inj];obtain⟨a,c,m⟩:=l[k];obtain⟨a',c',m'⟩:=l'[k];simp
  by_cases he:l[k]=l'[k]
  ·have he':=hiff.1 he;simp[go_sem,he'.1,he'.2.1,he'.2.2];refine⟨ω,k+1,⟨ω,λj hj h1 h2=>?_⟩,ω,ω⟩;by_cases hjk:j=k
   ·subst hjk;exact he
   ·exact hi.2 j ω h1 h2
  ·have he':¬(l[k].id=l'[k].id/\l[k].x.c.toNat=l'[k].x.c.toNat/\l[k].x.m.toNat=l'[k].x.m.toNat):=λq=>he (hiff.2 q);have hne:¬l=l':=λe=>he (by simp[e]);simp[go_sem,hne];intro e1 e2 e3;exact absurd ⟨e1,ω,ω⟩ he'
 ·simp[go_sem,hlt];exact gN h λj h1 h2=>hi.2 j ω h1 h2
theorem aUv {l:List Int} {i:Nat} (h:i<l.length) (j:Nat):iZ l i j=.i l[i]:=by unfold iZ;rw[bL (List.getElem?_eq_getElem h)]
abbrev ils (l:List Int):SV:=.r (.rs 1 l.length (iZ l))
theorem aVj (l l':List Int) (hn:l.length<=1000000000):Pure Tryz.prog 317 [ils l,ils l'] (· =.b (decide (l=l'))):=by
 refine π Tryz.func317 ?_;simp[go_sem];by_cases h:l.length=l'.length;rotate_left
 ·have h':¬l=l':=λe=>h (by rw[e]);simp[go_sem,h,h']
  try omega
 simp[go_sem,h];have hn':l'.length<=1000000000:=ω;refine aH aD (α:=Nat) (λk=>[(0,.r (.rs 1 l'.length (iZ l))),(1,ils l'),(12,.i l'.length),(13,.i k)]) (λ_=>[]) 0 (λk=>k<=l'.length/\∀j,j<k->∀(h1:j<l.length) (h2:j<l'.length),l[j]=l'[j]) (λk=>l'.length - k) 0 (λ_=>rfl) τ (by simp[go_sem,h]) ζ ?_;intro k J hi;by_cases hlt:k<l'.length
 ·simp[go_sem,hlt];have hlt1:k<l.length:=ω;have r0:=aUv hlt1 0;have q0:=aUv hlt 0;refine aE aD κ κ ?_;simp[go_sem,hlt,r0,q0];by_cases he:l[k]=l'[k]
  ·simp[go_sem,he];refine⟨ω,k+1,⟨ω,λj hj h1 h2=>?_⟩,ω,ω⟩;by_cases hjk:j=k
   ·subst hjk;exact he
   ·exact hi.2 j ω h1 h2
  ·have hne:¬l=l':=λe=>he (by simp[e]);simp[go_sem,he,hne]
 ·simp[go_sem,hlt];exact gN h λj h1 h2=>hi.2 j ω h1 h2
abbrev PsG.sv (p:PsG):SV:=.agg [.y p.c,.y p.m,ils p.ids]
theorem aZd (p q:PsG) (hp:p.ids.length<=1000000000):Pure Tryz.prog 222 [p.sv,q.sv] (· =.b (decide (p=q))):=by
 refine π Tryz.func222 ?_;simp[go_sem];have hiff:p=q↔(p.m.toNat=q.m.toNat/\p.c.toNat=q.c.toNat)/\p.ids=q.ids:=by
  rw[BitVec.toNat_inj,BitVec.toNat_inj];obtain⟨a,b,c⟩:=p;obtain⟨a',b',c'⟩:=q;simp only [PsG.mk.injEq];constructor
  ·rintro⟨rfl,rfl,rfl⟩;exact⟨⟨rfl,rfl⟩,rfl⟩
  ·rintro⟨⟨rfl,rfl⟩,rfl⟩;exact⟨rfl,rfl,rfl⟩
 by_cases h1:p.m.toNat=q.m.toNat/\p.c.toNat=q.c.toNat
 ·simp[go_sem,h1.1,h1.2];refine aA (aVj p.ids q.ids hp) rfl rfl ?_;have:(p=q)↔p.ids=q.ids:=by rw[hiff];simp[h1.1,h1.2]
  simp[go_sem,this]
 ·have hne:¬p=q:=λe=>h1 (hiff.1 e).1;have h2:∀(_:p.m.toNat=q.m.toNat),¬p.c.toNat=q.c.toNat:=λa b=>h1 ⟨a,b⟩;by_cases h3:p.m.toNat=q.m.toNat
  ·simp[go_sem,hne,h3];intro e;exact absurd ω (h2 h3)
  ·simp[go_sem,hne];intro e;exact absurd ω h3
theorem lD (l l':List PsG) (hn:l.length<=1000000000) (hi:∀p∈l,p.ids.length<=1000000000):Pure Tryz.prog 221 [.r (.rs 3 l.length (cP l)),.r (.rs 3 l'.length (cP l')),.fn (.func 222) [] []] (· =.b (decide (l=l'))):=by
 refine π Tryz.func221 ?_;simp[go_sem];by_cases h:l.length=l'.length;rotate_left
 ·have h':¬l=l':=λe=>h (by rw[e]);simp[go_sem,h,h']
  try omega
 simp[go_sem,h];have hn':l'.length<=1000000000:=ω;refine aH aD (α:=Nat) (λk=>[(0,.r (.rs 3 l'.length (cP l))),(1,.r (.rs 3 l'.length (cP l'))),(2,.fn (.func 222) [] []),(15,.r (.rs 3 l'.length (cP l))),(16,.i l'.length),(17,.i k)]) (λ_=>[]) 0 (λk=>k<=l'.length/\∀j,j<k->∀(h1:j<l.length) (h2:j<l'.length),l[j]=l'[j]) (λk=>l'.length - k) 0 (λ_=>rfl) τ (by simp[go_sem,h]) ζ ?_;intro k J hj;by_cases hlt:k<l'.length
 ·simp[go_sem,hlt];have hlt1:k<l.length:=ω;have r0:=sQ hlt1 0;have r1:=sQ hlt1 1;have r2:=sQ hlt1 2;have q0:=sQ hlt 0;have q1:=sQ hlt 1;have q2:=sQ hlt 2;simp[go_sem,hlt,r0,r1,r2,q0,q1,q2];refine aA (aZd l[k] l'[k] (hi _ (List.getElem_mem hlt1))) rfl rfl ?_;by_cases he:l[k]=l'[k]
  ·simp[go_sem,he];refine⟨ω,k+1,⟨ω,λj hjk h1 h2=>?_⟩,ω,ω⟩;by_cases e:j=k
   ·subst e;exact he
   ·exact hj.2 j ω h1 h2
  ·have hne:¬l=l':=λe=>he (by simp[e]);simp[go_sem,he,hne]
 ·simp[go_sem,hlt];exact gN h λj h1 h2=>hj.2 j ω h1 h2
end Go.Gx.Ix
namespace Go.Gx
open Go.RowKit
section
variable {P:Program} {T:Tab} {N:dW} {E:Env} {M:Mem} {nx:Nat}
theorem MapOf.size {has:Int->Bool} {R:Int->Value->Prop} {es:List MapEntry} {ck:Nat} (h:MapOf has R es ck) {L:List Int} (hnd:L.Nodup) (hL:∀a,has a=true↔a∈L):es.length=L.length:=by
 obtain⟨h1,h2,h3,_⟩:=h
 let f:MapEntry->Int:=λe=>match e.key with | .int .i64 a=>a | _=>0
 have hf:∀e∈es,e.key=.int .i64 (f e):=λe he=>by
  obtain⟨a,h,_⟩:=h1 e he;show _=Value.int .i64 (match e.key with | .int .i64 a=>a | _=>0);rw[h]
 have hn:(es.map f).Nodup:=by
  rw[List.Nodup,List.pairwise_map];refine List.Pairwise.imp_of_mem (fun {x y} hx hy hxy e=>hxy.1 ?_) h3;rw[hf x hx,hf y hy,e]
 have hp:(es.map f).Perm L:=(List.perm_ext_iff_of_nodup hn hnd).2 λa=>by
  rw[<- hL,List.mem_map];constructor
  ·rintro⟨e,he,rfl⟩;obtain⟨a,k1,k2,_⟩:=h1 e he;rw[hf e he] at k1
   cases k1
   exact k2
  ·intro ha;obtain⟨e,he,k⟩:=h2 a ha;rw[hf e he] at k;exact⟨e,he,by cases k;rfl⟩
 have:=hp.length_eq;simpa using this
theorem aI0 (hT:aX P T) {K:Env->Mem->Nat->Prop} {d:Option Tmp} {t ty:TypeId} {pos:String} {af:Array Edge} {x:Operand} {q:Nat} {has:Int->Bool} {val:Int->SV} {st:Option ((Int->Nat) × Nat)}
 (hx:ev E x=.mp q) (hQ:M q=some (.map has val st)) (ht:(aG5 T t).isSome=true) (hd:dH N.n d) (L:List Int) (hnd:L.Nodup) (hL:∀a,has a=true↔a∈L)
 (h:K (aK E d (.i L.length)) M nx) :
 aA3 P N ⟨d,.call ⟨.builtin .len,#[x],#[t]⟩,ty,pos,af,none⟩ E M nx K:=by
 intro B W w0 σ a w hs next Q' hK;refine dY ?_;obtain⟨e,he⟩:=Option.isSome_iff_exists.1 ht;obtain⟨k,hu,hk⟩:=lV hT he;have hr:=aW hs.env x;rw[hx] at hr;obtain⟨Lc,b,h1,h2,h3⟩:=hr;obtain⟨es,ck,g1,g2,g3⟩:=xJ hs.mem hQ h1 h2;have hsz:es.size=L.length:=by have:=g2.size hnd hL;simpa using this
 have hrun:(execOp a.eval ⟨d,.call ⟨.builtin .len,#[x],#[t]⟩,ty,pos,af,none⟩).run P w=.ok (.value (.int .i64 L.length)) w:=by
  simp[execOp,resolve,invoke,builtin,Builtin.len_,h3,run_underlying hu,MapKept.run_getObj_map g1,hsz];rfl
 unfold Oper.wp;rw[hrun];exact hK _ _ _ _ _ _ h (St.put hs hd rfl)
end
end Go.Gx
