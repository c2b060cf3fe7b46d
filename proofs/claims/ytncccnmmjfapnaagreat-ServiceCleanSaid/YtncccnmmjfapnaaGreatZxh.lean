/-
  Texts of the walk, merged: Xh.
-/
import Derived.Test.YtncccnmmjfapnaaGreatZxd
set_option linter.unusedVariables false
set_option linter.unusedSimpArgs false
set_option maxRecDepth 100000
set_option maxHeartbeats 4000000
namespace Go.Gx.Sr
open Go.RowKit Go.Proofs Go.Proofs.YtncccnmmjfapnaaGreat Go.Gx.Ix
variable {x:SvG}
theorem rem_ok {a:Int} (he:(stA x (ordR a)).e=0):x.g.th a=true∧stX x (ordR a)=x.rem a∧(stA x (ordR a)).n=erN x.lg a:=by
 obtain⟨h0,h1,h2⟩:=st_ok he
 rw[h1,h2]
 have e:doM x (ordR a)=remM x (ordR a):=rfl
 rw[e] at h0 ⊢
 unfold remM at h0 ⊢
 by_cases ht:x.g.th a=true
 ·have ht':x.g.th (ordR a).a=true:=ht
  rw[if_pos ht'] at h0 ⊢
  exact⟨ht,rfl,rfl⟩
 ·have ht':¬x.g.th (ordR a).a=true:=ht
  rw[if_neg ht'] at h0
  exact absurd h0 (by show ¬(6:Int)=0;decide)
theorem rem_eye (h:x.Va) {a:Int} (ht:x.g.th a=true) (b:Int) (hb:0≤b∧b<x.ir.length):(x.rem a).eye b=if b=a then IrG.z else x.eye b:=by
 have hlt:=EG.th_lt ht
 unfold SvG.eye SvG.rem
 simp only
 by_cases e:b=a
 ·subst e
  rw[List.getElem?_set_self (by omega),if_pos rfl];rfl
 ·rw[List.getElem?_set_ne (by omega),if_neg e]
theorem rem_link {a:Int} (ha:0≤a) {i:Nat} (hi:i<(x.rem a).g.nl):¬((x.rem a).g.l i).a=a∧¬((x.rem a).g.l i).b=a:=by
 have h1:=EG.lp_iff.1 (kept_at (p:=x.g.lp a.toNat) (n:=x.g.nl) (i:=i) hi).2
 have e:=Int.toNat_of_nonneg ha
 exact⟨λc=>h1.1 (c.trans e.symm),λc=>h1.2 (c.trans e.symm)⟩
theorem rem_case {a:Int} (ha:0≤a) {i:Nat} (hi:i<(x.rem a).g.nc):¬((x.rem a).g.c i).a=a∧¬((x.rem a).g.c i).b=a:=by
 have h1:=EG.cp_iff.1 (kept_at (p:=x.g.cp a.toNat) (n:=x.g.nc) (i:=i) hi).2
 have e:=Int.toNat_of_nonneg ha
 exact⟨λc=>h1.1 (c.trans e.symm),λc=>h1.2 (c.trans e.symm)⟩
theorem rem_con {a:Int} {i:Nat} (hi:i<(x.rem a).r.nc):¬((x.rem a).r.c i).p=a:=(Rg.RG.forget_C.1 ⟨i,hi,rfl⟩).2
theorem rem_war {a:Int} {i:Nat} (hi:i<(x.rem a).r.nw):¬((x.rem a).r.w i).p=a:=(Rg.RG.forget_W.1 ⟨i,hi,rfl⟩).2
theorem rem_mark {a:Int} {i:Nat} (hi:i<(x.rem a).r.nm):¬((x.rem a).r.m i).p=a:=(Rg.RG.forget_M.1 ⟨i,hi,rfl⟩).2
theorem rem_ch {a:Int} {c:ChG} (hc:c∈(x.rem a).ch):¬c.p=a:=by
 have:=(List.mem_filter.1 hc).2
 simpa using this
theorem rem_lg {a:Int} (ha:0≤a) {e:EnG} (he:e∈(x.rem a).lg):¬e.p=a:=by
 obtain⟨y,hy,rfl⟩:=List.mem_map.1 he
 unfold EnG.er
 split
 ·show ¬(-1:Int)=a;omega
 ·assumption
theorem bit_shr (w:W64) (n j:Nat):(shr64 w n).getLsbD j=w.getLsbD (n+j):=by
 unfold shr64
 rw[BitVec.getLsbD_ushiftRight]
theorem and_one (w:W64):(and64 w 1#64).toNat=if w.getLsbD 0 then 1 else 0:=by
 unfold and64
 rw[BitVec.toNat_and]
 have e:(1#64).toNat=1:=rfl
 rw[e,Nat.and_one_is_mod,BitVec.getLsbD,Nat.testBit_zero]
 rcases Nat.mod_two_eq_zero_or_one w.toNat with h | h <;> simp[h]
theorem rem_bit {a:Int} {k:KsG} (hk:k∈(x.rem a).ks) (ha:0≤a∧a<64):k.s.getLsbD a.toNat=false:=by
 obtain⟨y,hy,rfl⟩:=List.mem_map.1 hk
 show(andn64 y.s (shl64 1#64 a.toNat)).getLsbD a.toNat=false
 rw[bit_andn _ _ _ (by omega),bit_shl1 _ _ (by omega)]
 simp
theorem rem_tip (h:x.Va) {a:Int}:tipW (x.rem a).lg=tipW x.lg:=by
 have hlen:(erL x.lg a).length=x.lg.length:=by simp[erL]
 show tipW (erL x.lg a)=_
 unfold tipW
 rw[if_pos h.lg,if_pos (erL_ok h.lg a)]
 unfold lstEn
 rw[hlen]
 exact(erL_prv (l:=x.lg) (p:=a) x.lg.length).2
theorem er_isP {l:List EnG} {a b:Int} (hb:0≤b) (hab:¬b=a) (i:Nat):isP (erL l a) b i=isP l b i:=by
 unfold isP erL
 rw[List.getElem?_map]
 cases l[i]? with
 | none=>rfl
 | some y=>
   simp only [Option.map_some]
   unfold EnG.er
   split
   ·rename_i e
    have h1:¬(-1:Int)=b:=by omega
    have h2:¬y.p=b:=by omega
    simp[h1,h2]
   ·rfl
theorem rem_about (h:x.Va) {a b:Int} (hb:0≤b) (hab:¬b=a):knE (x.rem a).lg b=knE x.lg b∧abK (x.rem a).lg b (x.rem a).lg.length=abK x.lg b x.lg.length:=by
 have hlen:(erL x.lg a).length=x.lg.length:=by simp[erL]
 refine⟨?_,?_⟩
 ·show knE (erL x.lg a) b=_
  unfold knE
  rw[if_pos h.lg,if_pos (erL_ok h.lg a)]
 ·show abK (erL x.lg a) b (erL x.lg a).length=_
  rw[hlen]
  unfold abK
  congr 1
  exact List.filter_congr λi _=>er_isP hb hab i
theorem rem_dec (h:x.Va) {k:KsG} (hk:k∈x.ks) {a b:Int} (ha:0≤a) (hb:0≤b∧b≤63) (hab:¬b=a) (t:Int):decE (k.re x.key a) b t x.key=decE k b t x.key∧decD (k.re x.key a) b t=decD k b t:=by
 have k1:=(h.ks k hk).1
 refine⟨?_,?_⟩
 ·unfold decE
  rw[if_pos k1,if_pos (re_ok k1 a)];rfl
 ·unfold decD
  have e:saidB (k.re x.key a).s b=saidB k.s b:=by
   refine said_eq hb ?_
   show(andn64 k.s (shl64 1#64 a.toNat)).getLsbD b.toNat=_
   rw[bit_andn _ _ _ (by omega),bit_shl1 _ _ (by omega)]
   have:¬b.toNat=a.toNat:=by omega
   simp[this]
  rw[e];rfl
theorem rem_row {a:Int} (ht:x.g.th a=true):(x.rem a).g.r a.toNat=⟨0,true⟩:=by
 show(if a.toNat=a.toNat then (⟨0,true⟩:RcG) else x.g.r a.toNat)=_
 rw[if_pos rfl]
theorem rem_th {a b:Int} (ha:0≤a) (hb:x.g.th b=true) (hab:¬b=a):(x.rem a).g.th b=true:=EG.th_remG.2 ⟨hb,by omega⟩
end Go.Gx.Sr
