/-
  Texts of the walk, merged: Xd.
-/
import Derived.Test.YtncccnmmjfapnaaGreatZap
set_option linter.unusedVariables false
set_option linter.unusedSimpArgs false
set_option maxRecDepth 100000
set_option maxHeartbeats 4000000
namespace Go.Gx.Sr
open Go.RowKit Go.Proofs Go.Proofs.YtncccnmmjfapnaaGreat Go.Gx.Ix
structure KpL (k:Int) (x y:SvG):Prop where
 num:y.num=x.num
 den:y.den=x.den
 turns:y.turns=x.turns
 mage:y.mage=x.mage
 key:y.key=x.key
 now:x.now≤y.now
 nowE:¬k=1→¬k=11→y.now=x.now
 lgE:k<12→¬k=5→y.lg=x.lg
 lgP:¬k=5→∃l,y.lg=x.lg++l
 lg5:k=5→∃f:EnG→EnG,y.lg=x.lg.map f∧∀e,(f e).l=e.l
theorem KpL.plain {k:Int} {x y:SvG} (e:y.num=x.num∧y.den=x.den∧y.turns=x.turns∧y.mage=x.mage∧y.key=x.key) (hn:y.now=x.now) (hl:y.lg=x.lg):KpL k x y:=
 ⟨e.1,e.2.1,e.2.2.1,e.2.2.2.1,e.2.2.2.2,by rw[hn];exact Int.le_refl _,λ_ _=>hn,λ_ _=>hl,λ_=>⟨[],by rw[hl];simp⟩,λ_=>⟨id,by rw[hl];simp,λ_=>rfl⟩⟩
theorem KpL.rfl' (k:Int) (x:SvG):KpL k x x:=.plain ⟨rfl,rfl,rfl,rfl,rfl⟩ rfl rfl
theorem KpL.more {k:Int} {x y:SvG} (hk:12≤k) (e:y.num=x.num∧y.den=x.den∧y.turns=x.turns∧y.mage=x.mage∧y.key=x.key) (hn:y.now=x.now) (hl:∃l,y.lg=x.lg++l):KpL k x y:=
 ⟨e.1,e.2.1,e.2.2.1,e.2.2.2.1,e.2.2.2.2,by rw[hn];exact Int.le_refl _,λ_ _=>hn,λh=>by omega,λ_=>hl,λh=>by omega⟩
theorem KpL.later {k:Int} {x y:SvG} (hk:k=1∨k=11) (e:y.num=x.num∧y.den=x.den∧y.turns=x.turns∧y.mage=x.mage∧y.key=x.key) (hn:x.now≤y.now) (hl:y.lg=x.lg):KpL k x y:=
 ⟨e.1,e.2.1,e.2.2.1,e.2.2.2.1,e.2.2.2.2,hn,λh1 h2=>absurd hk (by omega),λ_ _=>hl,λ_=>⟨[],by rw[hl];simp⟩,λh=>absurd hk (by omega)⟩
variable (x:SvG) (o:OrG)
theorem kp_tick {k:Int} (hk:k=1):KpL k x (tickM x o).1:=by
 unfold tickM
 split
 ·rename_i hb
  have hb:1≤o.n∧o.n≤1000:=by simpa [Ix.btw] using hb
  split
  ·exact .rfl' _ _
  ·exact .later (.inl hk) ⟨rfl,rfl,rfl,rfl,rfl⟩ (by show x.now≤x.now+o.n;omega) rfl
 ·exact .rfl' _ _
theorem kp_enrol (k:Int):KpL k x (enrolM x o).1:=by
 unfold enrolM;(repeat' split) <;> exact .plain ⟨rfl,rfl,rfl,rfl,rfl⟩ rfl rfl
theorem kp_vote (k:Int):KpL k x (voteM x o).1:=by
 unfold voteM;(repeat' split) <;> exact .plain ⟨rfl,rfl,rfl,rfl,rfl⟩ rfl rfl
theorem kp_wd (k:Int):KpL k x (wdM x o).1:=by
 unfold wdM;(repeat' split) <;> exact .plain ⟨rfl,rfl,rfl,rfl,rfl⟩ rfl rfl
theorem kp_rem {k:Int} (hk:k=5):KpL k x (remM x o).1:=by
 unfold remM
 split
 ·exact⟨rfl,rfl,rfl,rfl,rfl,Int.le_refl _,λ_ _=>rfl,λ_ h=>absurd hk h,λh=>absurd hk h,λ_=>⟨λe=>e.er o.a,rfl,λe=>by show(EnG.er e o.a).l=e.l;unfold EnG.er;split <;> rfl⟩⟩
 ·exact .rfl' _ _
theorem kp_rule (k:Int):KpL k x (ruleM x o).1:=by
 unfold ruleM;(repeat' split) <;> exact .plain ⟨rfl,rfl,rfl,rfl,rfl⟩ rfl rfl
theorem kp_war (k:Int):KpL k x (warM x o).1:=by
 unfold warM;(repeat' split) <;> exact .plain ⟨rfl,rfl,rfl,rfl,rfl⟩ rfl rfl
theorem kp_con (k:Int):KpL k x (conM x o).1:=by
 unfold conM;(repeat' split) <;> exact .plain ⟨rfl,rfl,rfl,rfl,rfl⟩ rfl rfl
theorem kp_put (k:Int):KpL k x (putM x o).1:=by
 unfold putM;(repeat' split) <;> exact .plain ⟨rfl,rfl,rfl,rfl,rfl⟩ rfl rfl
theorem kp_chg (k:Int):KpL k x (chgM x o).1:=by
 unfold chgM;(repeat' split) <;> exact .plain ⟨rfl,rfl,rfl,rfl,rfl⟩ rfl rfl
theorem kp_syn {k:Int} (hk:k=11):KpL k x (synM x o).1:=by
 unfold synM
 split
 ·split
  ·exact .rfl' _ _
  ·exact .later (.inr hk) ⟨rfl,rfl,rfl,rfl,rfl⟩ (by show x.now≤x.now+1;omega) rfl
 ·exact .rfl' _ _
theorem kp_dec {k:Int} (hk:12≤k) (q a:Int) (r:RsG) (s:W64):KpL k x (decM x q a r s).1:=by
 unfold decM
 split
 ·exact .rfl' _ _
 ·exact .more hk ⟨rfl,rfl,rfl,rfl,rfl⟩ rfl ⟨_,rfl⟩
theorem kp_ver {k:Int} (hk:12≤k):KpL k x (verM x o).1:=by
 unfold verM
 split
 ·split
  ·exact kp_dec x hk _ _ _ _
  ·exact .rfl' _ _
 ·exact .rfl' _ _
theorem KpL.trans12 {k:Int} {x y z:SvG} (hk:12≤k) (h:KpL k x y) (h':KpL k y z):KpL k x z:=by
 refine .more hk ⟨h'.num.trans h.num,h'.den.trans h.den,h'.turns.trans h.turns,h'.mage.trans h.mage,h'.key.trans h.key⟩ ((h'.nowE (by omega) (by omega)).trans (h.nowE (by omega) (by omega))) ?_
 obtain⟨l,e⟩:=h.lgP (by omega)
 obtain⟨l',e'⟩:=h'.lgP (by omega)
 exact⟨l++l',by rw[e',e,List.append_assoc]⟩
theorem kp_pt {k:Int} (hk:12≤k) (x:SvG) (q a:Int) (r:RsG) (s:W64):KpL k x (x.put q a r s):=.more hk ⟨rfl,rfl,rfl,rfl,rfl⟩ rfl ⟨_,rfl⟩
theorem kp_hit {k:Int} (hk:12≤k):∀(l:List Int) (x:SvG) (hs:List HtG),KpL k x (hitM x o l hs).1
 | [],x,hs=>.rfl' _ _
 | a::l,x,hs=>by
   unfold hitM
   simp only
   split
   ·split
    ·exact .rfl' _ _
    ·exact KpL.trans12 hk (kp_pt hk x _ _ _ _) (kp_hit hk l _ _)
   ·exact kp_hit hk l x hs
theorem kp_fnd {k:Int} (hk:12≤k):KpL k x (fndM' x o).1:=by
 unfold fndM'
 split
 ·split
  ·exact kp_hit o hk _ x []
  ·exact .rfl' _ _
 ·exact .rfl' _ _
theorem kp_gat {k:Int} (hk:12≤k):KpL k x (gatM x o).1:=by
 unfold gatM
 split
 ·split
  ·split
   ·simp only
    split
    ·exact kp_dec x hk _ _ _ _
    ·split
     ·exact kp_dec x hk _ _ _ _
     ·exact kp_dec x hk _ _ _ _
   ·exact .rfl' _ _
  ·exact .rfl' _ _
 ·exact .rfl' _ _
theorem kp_do (h:1≤o.k∧o.k≤14):KpL o.k x (doM x o).1:=by
 unfold Sr.doM
 by_cases h1:o.k=1
 ·rw[if_pos h1];exact kp_tick x o h1
 rw[if_neg h1]
 by_cases h2:o.k=2
 ·rw[if_pos h2];exact kp_enrol x o _
 rw[if_neg h2]
 by_cases h3:o.k=3
 ·rw[if_pos h3];exact kp_vote x o _
 rw[if_neg h3]
 by_cases h4:o.k=4
 ·rw[if_pos h4];exact kp_wd x o _
 rw[if_neg h4]
 by_cases h5:o.k=5
 ·rw[if_pos h5];exact kp_rem x o h5
 rw[if_neg h5]
 by_cases h6:o.k=6
 ·rw[if_pos h6];exact kp_rule x o _
 rw[if_neg h6]
 by_cases h7:o.k=7
 ·rw[if_pos h7];exact kp_war x o _
 rw[if_neg h7]
 by_cases h8:o.k=8
 ·rw[if_pos h8];exact kp_con x o _
 rw[if_neg h8]
 by_cases h9:o.k=9
 ·rw[if_pos h9];exact kp_put x o _
 rw[if_neg h9]
 by_cases h10:o.k=10
 ·rw[if_pos h10];exact kp_chg x o _
 rw[if_neg h10]
 by_cases h11:o.k=11
 ·rw[if_pos h11];exact kp_syn x o h11
 rw[if_neg h11]
 by_cases h12:o.k=12
 ·rw[if_pos h12];exact kp_ver x o (by omega)
 rw[if_neg h12]
 by_cases h13:o.k=13
 ·rw[if_pos h13];exact kp_fnd x o (by omega)
 rw[if_neg h13]
 exact kp_gat x o (by omega)
theorem kp_st (h:1≤o.k∧o.k≤14):KpL o.k x (stX x o):=by
 unfold Sr.stX
 split
 ·exact kp_do x o h
 ·exact .rfl' _ _
theorem stA_err {x:SvG} {o:OrG} (h:¬(stA x o).e=0):stX x o=x∧(stA x o).n=0∧(stA x o).h=[]:=by
 unfold stA stX at *
 split
 ·rename_i h0
  rw[if_pos h0] at h
  exact absurd h0 h
 ·exact⟨rfl,rfl,rfl⟩
end Go.Gx.Sr
namespace Go.Gx.Rg
open Go.RowKit Go.Proofs Go.Proofs.YtncccnmmjfapnaaGreat
theorem RG.same_of {g h:RG} (e1:g.nr=h.nr) (e2:g.nc=h.nc) (e3:g.nw=h.nw) (e4:g.nm=h.nm) (r:∀i,i<g.nr→g.r i=h.r i) (c:∀i,i<g.nc→g.c i=h.c i) (w:∀i,i<g.nw→g.w i=h.w i) (m:∀i,i<g.nm→g.m i=h.m i):g.same h=true:=by
 unfold RG.same RG.s1 RG.s2 RG.s3 RG.s4
 simp only [Bool.and_eq_true,decide_eq_true_eq,List.all_eq_true,List.mem_range]
 exact⟨⟨⟨⟨e1,λi hi=>by rw[r i hi];simp[RuleG.eqB]⟩,e2,λi hi=>by rw[c i hi];simp[ConG.eqB]⟩,e3,λi hi=>by rw[w i hi];simp[WarG.eqB]⟩,e4,λi hi=>by rw[m i hi];simp[MarkG.eqB]⟩
theorem RG.same_rfl (g:RG):g.same g=true:=RG.same_of rfl rfl rfl rfl (λ_ _=>rfl) (λ_ _=>rfl) (λ_ _=>rfl) (λ_ _=>rfl)
end Go.Gx.Rg
namespace Go.Gx.Sr
open Go.RowKit Go.Proofs Go.Proofs.YtncccnmmjfapnaaGreat Go.Gx.Ix
theorem SvG.same_rfl (x:SvG):x.same x=true:=by
 unfold SvG.same SvG.sm1 SvG.sm2
 simp[EG.smB_rfl,Rg.RG.same_rfl]
theorem said_eq {s s':W64} {p:Int} (hp:0≤p∧p≤63) (h:s.getLsbD p.toNat=s'.getLsbD p.toNat):saidB s p=saidB s' p:=by
 unfold saidB
 have h1:=and1_zero (s:=s) (p:=p.toNat) (by omega)
 have h2:=and1_zero (s:=s') (p:=p.toNat) (by omega)
 by_cases e:and64 s (shl64 1#64 p.toNat)=0#64
 ·rw[if_pos e,if_pos (h2.2 (h▸h1.1 e))]
 ·rw[if_neg e,if_neg λe'=>e (h1.2 (h▸h2.1 e'))]
theorem st_ok {x:SvG} {o:OrG} (h:(stA x o).e=0):(doM x o).2.e=0∧stA x o=(doM x o).2∧stX x o=(doM x o).1:=by
 unfold stA stX at *
 by_cases e:(doM x o).2.e=0
 ·rw[if_pos e,if_pos e];exact⟨e,rfl,rfl⟩
 ·rw[if_neg e] at h
  exact absurd h e
theorem bad_e (e:Int):(bad e).e=e:=rfl
def ordV (a:Int) (p:IrG) (s:W64):OrG:={OrG.z with k:=12,a:=a,x:=p,s:=s}
def ordG (n a:Int) (p:IrG) (s:W64):OrG:={OrG.z with k:=14,n:=n,a:=a,x:=p,s:=s}
def ordR (a:Int):OrG:={OrG.z with k:=5,a:=a}
theorem ordV_ok (a:Int) (p:IrG) (s:W64):ordE (ordV a p s)=0:=rfl
theorem ordG_ok (n a:Int) (p:IrG) (s:W64):ordE (ordG n a p s)=0:=rfl
theorem ordR_ok (a:Int):ordE (ordR a)=0:=rfl
theorem ordV_sm (a:Int) (p:IrG) (s:W64):(ordV a p s).Sm:=⟨⟨(by decide:(0:Int)≤0),(by decide:(0:Int)<256)⟩,(by decide:((0:Nat):Int)<2 ^ 61)⟩
theorem ordG_sm (n a:Int) (p:IrG) (s:W64):(ordG n a p s).Sm:=⟨⟨(by decide:(0:Int)≤0),(by decide:(0:Int)<256)⟩,(by decide:((0:Nat):Int)<2 ^ 61)⟩
theorem ordR_sm (a:Int):(ordR a).Sm:=⟨⟨(by decide:(0:Int)≤0),(by decide:(0:Int)<256)⟩,(by decide:((0:Nat):Int)<2 ^ 61)⟩
theorem dec_ok {x:SvG} {k a:Int} {r:RsG} {s:W64} (h:(decM x k a r s).2.e=0):(decM x k a r s).1=x.put k a r s∧(decM x k a r s).2.n=r.d:=by
 unfold decM at h ⊢
 split at h
 ·cases h
 ·rename_i e;rw[if_neg e];exact⟨rfl,rfl⟩
theorem OrG.sm_of {o:OrG} (hb:o.rl.byte) (h:o.great=false):o.Sm:=by
 unfold OrG.great at h
 exact⟨hb,by have:=of_decide_eq_false h;omega⟩
theorem step_bad {x:SvG} {o:OrG} (hx:x.OK) (ho:o.Sm) (h:¬stpE x o=0):Pure Tryz.prog 18 [x.sv,o.sv] (· =.tup [SvG.zero.sv,AnG.zero.sv,.i (stpE x o)]):=by
 have hs:=step18 x o hx ho
 rw[if_neg h,if_neg h] at hs
 exact hs
theorem step_good {x:SvG} {o:OrG} (hx:x.OK) (ho:o.Sm) (h:stpE x o=0):Pure Tryz.prog 18 [x.sv,o.sv] (· =.tup [(stX x o).sv,(stA x o).sv,.i 0]):=by
 have hs:=step18 x o hx ho
 rw[if_pos h,if_pos h,h] at hs
 exact hs
theorem stpE_va {x:SvG} {o:OrG} (h:stpE x o=0):x.Va∧ordE o=0:=by
 unfold stpE at h
 by_cases hc:x.chkE=0
 ·rw[if_pos hc] at h
  exact⟨SvG.va_iff.1 (chkE_iff.1 hc),h⟩
 ·rw[if_neg hc] at h
  exact absurd h hc
theorem SvG.zero_ok:SvG.zero.OK:=⟨⟨by decide,by decide,by decide,λi hi=>absurd hi (Nat.not_lt_zero i)⟩,⟨by decide,by decide,by decide,by decide,λi hi=>absurd hi (Nat.not_lt_zero i)⟩,by decide,by decide,by decide,by decide,by decide,by decide,by decide,by decide⟩
abbrev nilX':SV:=.agg [.i 0,.i 0,.i 0,.i 0,.r (.v (.int .u64 0)),.i 0,nilS,nilS,nilS,nilS,nilS,nilS,nilS,nilS,nilS,nilS,nilS]
theorem zero_le:nilX'.le SvG.zero.sv:=
 Ix.le_agg ⟨SV.le.rfl,SV.le.rfl,SV.le.rfl,SV.le.rfl,SV.le.rfl,SV.le.rfl,Ix.le_r (nil_rs 2 _),Ix.le_r (nil_rs 3 _),Ix.le_r (nil_rs 3 _),Ix.le_r (nil_rs 2 _),Ix.le_r (nil_rs 8 _),Ix.le_r (nil_rs 3 _),Ix.le_r (nil_rs 4 _),Ix.le_r (nil_rs 5 _),Ix.le_r (nil_rs 3 _),Ix.le_r (nil_rs 4 _),Ix.le_r (nil_rs 7 _),trivial⟩
theorem stpE_of {x:SvG} {o:OrG} (h:x.Va) (ho:ordE o=0):stpE x o=0:=by
 unfold stpE
 rw[if_pos (chkE_iff.2 (SvG.va_iff.2 h))]
 exact ho
theorem SV.le_of_sub {x y:SV} (h:x.sub y):x.le y:=λZ w v hr=>SV.sub_rel x y v h hr
end Go.Gx.Sr
