/-
 Texts of the walk, merged: Wh Wi Wj Wk Wl Ro Rp Xa Xb Ya Yb Yd.
-/
import Derived.Test.YtncccnmmjfapnaaGreatZap
import Derived.Test.YtncccnmmjfapnaaGreatZan
import Derived.Test.YtncccnmmjfapnaaGreatZaj
import Derived.Test.YtncccnmmjfapnaaGreatZao
import Derived.Test.YtncccnmmjfapnaaGreatZak
set_option linter.unusedVariables false
set_option linter.unusedSimpArgs false
set_option maxRecDepth 100000
set_option maxHeartbeats 4000000
namespace Go.Gx.Sr
open Go.RowKit Go.Proofs Go.Proofs.YtncccnmmjfapnaaGreat Go.Gx.Ix
theorem EG.addE_zero {g:EG} {q:Int} (h:g.addE q=0):g.valid=true/\(0<=q/\q<=100)/\g.nr<24:=by
 unfold EG.addE at h;split at h
 ·cases h
 rename_i h1;split at h
 ·cases h
 rename_i h2;split at h
 ·cases h
 rename_i h3;have h1:g.valid=true:=by simpa using h1
 have:=(EG.val_iff.1 h1).nr;exact⟨h1,ω,ω⟩
variable {x:SvG}
theorem SvG.Va.put (h:x.Va) (hn:¬x.lg.length=60) {k a:Int} (hk:0<=k/\k<=7) (ha:x.g.th a=true) (r:RsG) (s:W64):(x.put k a r s).Va:=by
 have ht:=EG.th_lt ha;have hr:=(EG.val_iff.1 h.g).nr;have hl:=yB (SvG.log_ok (SvG.va_iff.2 h)) hn hk (p:=a) ω r.pack s;refine⟨h.set,h.g,h.r,h.ch,hl.ok,h.now,h.k4,h.irn,h.ir,λe he=>?_,h.cn,h.wa,h.ma,h.chp,h.ks,h.cht,λe he=>?_⟩
 ·rcases List.mem_append.1 he with he | he
  ·exact h.lgp e he
  ·rw[List.mem_singleton.1 he];exact .inr ha
 ·rcases List.mem_append.1 he with he | he
  ·exact h.lgt e he
  ·rw[List.mem_singleton.1 he];exact Int.le_refl _
theorem aUf (h:x.Va) (o:OrG):(oI x o).1.Va:=by
 unfold oI;split;rotate_left
 ·exact h
 rename_i hb;split
 ·exact h
 rename_i hm;have hb:1<=o.n/\o.n<=1000:=by simpa [Ix.btw] using hb
 have:=h.now;exact⟨h.set,h.g,h.r,h.ch,h.lg,by show 0<=x.now+o.n/\x.now+o.n<=maxT;omega,h.k4,h.irn,h.ir,h.lgp,h.cn,h.wa,h.ma,h.chp,
  λk hk=>by have:=h.ks k hk;exact⟨this.1,this.2.1,by show k.a<x.now+o.n;omega,this.2.2.2⟩,λc hc=>by have:=h.cht c hc;show c.t<=x.now+o.n;omega,λc hc=>by have:=h.lgt c hc;show c.t<=x.now+o.n;omega⟩
theorem aQl (h:x.Va) (o:OrG):(iS x o).1.Va:=by
 unfold iS;split;rotate_left
 ·exact h
 rename_i hok;split;rotate_left
 ·exact h
 rename_i he;obtain⟨h1,h2,h3⟩:=EG.addE_zero he;have hX:x.g.addX o.n=x.g.addG o.n:=by unfold EG.addX;rw[if_pos he]
 have ht:∀{a:Int},x.g.th a=true->(x.g.addX o.n).th a=true:=λha=>by rw[hX];exact EG.th_addG ha
 refine⟨h.set,?_,h.r,h.ch,h.lg,h.now,h.k4,?_,λi hi=>?_,λe he=>(h.lgp e he).imp id ht,λa ha=>ht (h.cn a ha),λa ha=>ht (h.wa a ha),λa ha=>ht (h.ma a ha),λc hc=>ht (h.chp c hc),λk hk=>?_,h.cht,h.lgt⟩
 ·show(x.g.addX o.n).valid=true;rw[hX];exact EG.val_iff.2 ((EG.val_iff.1 h1).addG h2 h3)
 ·show(x.ir++[o.x]).length=(x.g.addX o.n).nr;rw[hX];show _=x.g.nr+1;simp[h.irn]
 ·have hi:i<(x.ir++[o.x]).length:=hi;rw[List.length_append,List.length_singleton] at hi;by_cases e:i<x.ir.length
  ·have e1:SvG.eye {x with g:=x.g.addX o.n,ir:=x.ir++[o.x]} i=x.eye i:=by
    unfold SvG.eye;show((x.ir++[o.x])[(i:Int).toNat]?).getD IrG.z=_;rw[Int.toNat_natCast,List.getElem?_append_left e]
   rw[e1];exact⟨(h.ir i e).1,(h.ir i e).2.imp ht id⟩
  ·obtain rfl:i=x.ir.length:=ω;have e1:SvG.eye {x with g:=x.g.addX o.n,ir:=x.ir++[o.x]} x.ir.length=o.x:=by
    unfold SvG.eye;show((x.ir++[o.x])[(x.ir.length:Int).toNat]?).getD IrG.z=_;rw[Int.toNat_natCast,List.getElem?_concat_length];rfl
   rw[e1];refine⟨hok,.inl ?_⟩;show(x.g.addX o.n).th _=true;rw[hX];refine EG.th_iff.2 ⟨ω,?_,?_⟩
   ·show _<((x.g.nr+1:Nat):Int);rw[h.irn];omega
   ·show(if _<x.g.nr then _ else (⟨o.n,false⟩:RcG)).g=false;rw[if_neg (by rw[h.irn];omega)]
 ·have:=h.ks k hk;exact⟨this.1,this.2.1,this.2.2.1,λj hj hs=>ht (this.2.2.2 j hj hs)⟩
theorem SvG.Va.reg (h:x.Va) {g:EG} (hv:g.valid=true) (e1:g.nr=x.g.nr) (e2:g.r=x.g.r):({x with g:=g}:SvG).Va:=by
 have ht:∀a,g.th a=x.g.th a:=λa=>EG.th_same e1 e2 a;refine⟨h.set,hv,h.r,h.ch,h.lg,h.now,h.k4,h.irn.trans e1.symm,λi hi=>?_,λe he=>?_,λa ha=>?_,λa ha=>?_,λa ha=>?_,λc hc=>?_,λk hk=>?_,h.cht,h.lgt⟩
 ·have:=h.ir i hi;show _/\(g.th i=true\/_);rw[ht];exact this
 ·show _\/g.th _=true;rw[ht];exact h.lgp e he
 ·show g.th _=true;rw[ht];exact h.cn a ha
 ·show g.th _=true;rw[ht];exact h.wa a ha
 ·show g.th _=true;rw[ht];exact h.ma a ha
 ·show g.th _=true;rw[ht];exact h.chp c hc
 ·have:=h.ks k hk;refine⟨this.1,this.2.1,this.2.2.1,λj hj hs=>?_⟩;show g.th _=true;rw[ht];exact this.2.2.2 j hj hs
theorem aVn (h:x.Va) (o:OrG):(oC x o).1.Va:=by
 unfold oC;split;rotate_left
 ·exact h
 rename_i he;have hX:x.g.voteX o.n o.a o.b o.f=x.g.voteG o.n o.a o.b o.f:=by unfold EG.voteX;rw[if_pos he]
 rw[hX];exact h.reg (EG.val_iff.2 (EG.Val.vote he)) (x.g.vote_nr o.n o.a o.b o.f).1 (x.g.vote_nr o.n o.a o.b o.f).2
theorem bEg (h:x.Va) (o:OrG):(wdM x o).1.Va:=by
 unfold wdM;split;rotate_left
 ·exact h
 rename_i he;have hX:x.g.wdX o.a o.b=x.g.dropL (x.g.lat (min o.a o.b) (max o.a o.b)):=by unfold EG.wdX;rw[if_pos he]
 rw[hX];exact h.reg (EG.val_iff.2 ((EG.val_iff.1 h.g).dropL _)) rfl rfl
theorem SvG.Va.rem (h:x.Va) {a:Int} (ha:x.g.th a=true):(x.rem a).Va:=by
 have hlt:=EG.th_lt ha;have ha':((a.toNat:Nat):Int)=a:=ω;have ht:∀{b:Int},x.g.th b=true->¬b=a->(x.g.remG a.toNat).th b=true:=λhb hn=>EG.th_remG.2 ⟨hb,ω⟩;refine⟨h.set,EG.val_iff.2 ((EG.val_iff.1 h.g).remG _),Rg.RG.forget_valid h.r,aGa h.ch _,aZu h.lg _,h.now,?_,?_,λi hi=>?_,λe he=>?_,λc hc=>?_,λc hc=>?_,λc hc=>?_,λc hc=>?_,λk hk=>?_,λc hc=>?_,λe he=>?_⟩
 ·show(x.ks.map _).length<=4;rw[List.length_map];exact h.k4
 ·show(x.ir.set _ _).length=x.g.nr;rw[List.length_set];exact h.irn
 ·have hi:i<(x.ir.set a.toNat IrG.z).length:=hi;rw[List.length_set] at hi;have e1:(x.rem a).eye i=if i=a.toNat then IrG.z else x.eye i:=by
   unfold SvG.eye SvG.rem;simp only [Int.toNat_natCast];by_cases e:i=a.toNat
   ·subst e;rw[List.getElem?_set_self hi,if_pos rfl];rfl
   ·rw[List.getElem?_set_ne (Ne.symm e),if_neg e]
  rw[e1];by_cases e:i=a.toNat
  ·rw[if_pos e];exact⟨δ,.inr rfl⟩
  ·rw[if_neg e];have:=h.ir i hi;exact⟨this.1,this.2.imp (λhb=>ht hb ω) id⟩
 ·obtain⟨y,hy,rfl⟩:=List.mem_map.1 he;unfold EnG.er;split
  ·exact .inl (by show(-1:Int)<0;decide)
  ·exact(h.lgp y hy).imp id λhb=>ht hb (by assumption)
 ·have:=Rg.RG.forget_C.1 hc;exact ht (h.cn c this.1) this.2
 ·have:=Rg.RG.forget_W.1 hc;exact ht (h.wa c this.1) this.2
 ·have:=Rg.RG.forget_M.1 hc;exact ht (h.ma c this.1) this.2
 ·have:=List.mem_filter.1 hc;exact ht (h.chp c this.1) (by simpa using this.2)
 ·obtain⟨y,hy,rfl⟩:=List.mem_map.1 hk;have:=h.ks y hy;refine⟨bFx this.1 a,this.2.1,this.2.2.1,λj hj hs=>?_⟩;have hs:(cX y.s (bP 1#64 a.toNat)).getLsbD j=true:=hs;rw[pA _ _ _ hj,sI _ _ hj] at hs;simp only [Bool.and_eq_true,Bool.not_eq_true',decide_eq_false_iff_not] at hs;exact ht (this.2.2.2 j hj hs.1) ω
 ·exact h.cht c (List.mem_filter.1 hc).1
 ·obtain⟨y,hy,rfl⟩:=List.mem_map.1 he;have:=h.lgt y hy;unfold EnG.er;split <;> exact this
theorem aZp (h:x.Va) (o:OrG):(zO x o).1.Va:=by
 unfold zO;split
 ·exact h.rem (by assumption)
 ·exact h
theorem SvG.Va.rig (h:x.Va) {r:Rg.RG} (hv:r.valid=true) (hc:∀a,r.InC a->x.g.th a.p=true) (hw:∀a,r.InW a->x.g.th a.p=true) (hm:∀a,r.InM a->x.g.th a.p=true):({x with r:=r}:SvG).Va:=
 ⟨h.set,h.g,hv,h.ch,h.lg,h.now,h.k4,h.irn,h.ir,h.lgp,hc,hw,hm,h.chp,h.ks,h.cht,h.lgt⟩
theorem aVo (h:x.Va) (o:OrG):(nZ x o).1.Va:=by
 unfold nZ;split
 ·exact h
 split;rotate_left
 ·exact h
 exact h.rig (Rg.RG.addR_valid h.r (by assumption) (by assumption)) h.cn h.wa h.ma
theorem bAo (h:x.Va) (o:OrG):(vY x o).1.Va:=by
 unfold vY;split;rotate_left
 ·exact h
 rename_i ht;split
 ·exact h
 split;rotate_left
 ·exact h
 refine h.rig (Rg.RG.addW_valid h.r (by assumption) (by assumption)) h.cn (λa ha=>?_) h.ma;rcases Rg.RG.addW_in ha with ha | rfl
 ·exact h.wa a ha
 ·exact ht
theorem aY2 (h:x.Va) (o:OrG):(wC x o).1.Va:=by
 unfold wC;split;rotate_left
 ·exact h
 rename_i ht;split;rotate_left
 ·exact h
 rename_i he;refine h.rig (Rg.RG.putC_valid he) (λa ha=>?_) h.wa h.ma;rcases(Rg.RG.putC_in h.r).1 ha with rfl | ha
 ·exact ht
 ·exact h.cn a ha.1
theorem bAr (h:x.Va) (o:OrG):(putM x o).1.Va:=by
 unfold putM;split;rotate_left
 ·exact h
 rename_i ht;split;rotate_left
 ·exact h
 rename_i he;refine h.rig (Rg.RG.putM_valid he) h.cn h.wa (λa ha=>?_);rcases(Rg.RG.putM_in h.r).1 ha with rfl | ha
 ·exact ht
 ·exact h.ma a ha.1
theorem bA3 (h:x.Va) (o:OrG):(zR x o).1.Va:=by
 unfold zR;split;rotate_left
 ·exact h
 rename_i ht;split
 ·exact h
 rename_i hn;have hlt:=EG.th_lt ht;have hnr:=(EG.val_iff.1 h.g).nr;have hok:ChG.ok ⟨x.now,o.a,o.f⟩=true:=by
  unfold ChG.ok;rw[Bool.and_eq_true];exact⟨gC.2 h.now,sJ.2 (by show 0<=o.a/\o.a<=63;omega)⟩
 refine⟨h.set,h.g,h.r,aMt h.ch hn hok h.cht,h.lg,h.now,h.k4,h.irn,h.ir,h.lgp,h.cn,h.wa,h.ma,λc hc=>?_,h.ks,λc hc=>?_,h.lgt⟩
 ·rcases List.mem_append.1 hc with hc | hc
  ·exact h.chp c hc
  ·rw[List.mem_singleton.1 hc];exact ht
 ·rcases List.mem_append.1 hc with hc | hc
  ·exact h.cht c hc
  ·rw[List.mem_singleton.1 hc];exact Int.le_refl _
theorem aZv (h:x.Va) (o:OrG):(vW x o).1.Va:=by
 unfold vW;split;rotate_left
 ·exact h
 rename_i hb;split
 ·exact h
 rename_i hn;have hb:0<=o.n/\o.n<=min (x.ks.length:Int) 3:=by simpa [Ix.btw] using hb
 have hnow:=h.now;have hage:=(aEr (SvG.va_iff.2 h)).2.2.2;have hk4:=h.k4;refine⟨h.set,h.g,h.r,h.ch,h.lg,by show 0<=x.now+1/\x.now+1<=maxT;omega,?_,h.irn,h.ir,h.lgp,h.cn,h.wa,h.ma,h.chp,λk hk=>?_,λc hc=>by have:=h.cht c hc;show c.t<=x.now+1;omega,λc hc=>by have:=h.lgt c hc;show c.t<=x.now+1;omega⟩
 ·show(x.ks.take _++_::x.ks.drop _).length<=4;simp only [List.length_append,List.length_take,List.length_cons,List.length_drop];omega
 ·have hk:k∈x.ks.take o.n.toNat++aBa x.ch x.now x.mage x.key::x.ks.drop (o.n.toNat+1):=hk;have hold:k∈x.ks->k.ok x.key=true/\k.m=x.mage/\k.a<x.now+1/\∀j,j<64->k.s.getLsbD j=true->x.g.th (j:Nat)=true:=λhk=>by
   have:=h.ks k hk;exact⟨this.1,this.2.1,ω,this.2.2.2⟩
  rcases List.mem_append.1 hk with hk | hk
  ·exact hold (List.mem_of_mem_take hk)
  ·rcases List.mem_cons.1 hk with rfl | hk
   ·refine⟨aXh (gC.2 h.now) (gC.2 hage),rfl,by show x.now<x.now+1;omega,λj hj hs=>?_⟩;obtain⟨c,hc,e⟩:=aV1 h.ch hj hs;have:=h.chp c hc;rw[e] at this;exact this
   ·exact hold (List.mem_of_mem_drop hk)
theorem aEl (h:x.Va) {k a:Int} (hk:0<=k/\k<=7) (ha:x.g.th a=true) (r:RsG) (s:W64):(rQ x k a r s).1.Va:=by
 unfold rQ;split
 ·exact h
 ·exact h.put (by assumption) hk ha r s
theorem bA7 (h:x.Va) (o:OrG):(aAq x o).1.Va:=by
 unfold aAq;split;rotate_left
 ·exact h
 split;rotate_left
 ·exact h
 exact aEl h δ (by assumption) _ _
theorem aHs (o:OrG):∀(l:List Int) (x:SvG) (hs:List HtG),x.Va->(∀a∈l,x.g.th a=true)->(mF x o l hs).1.Va
 | [],x,hs,h,_=>h
 | a::l,x,hs,h,hl=>by
   unfold mF;simp only;split
   ·split
    ·exact h
    ·exact aHs o l _ _ (h.put (by assumption) δ (hl a (List.mem_cons_self ..)) _ _) λb hb=>hl b (List.mem_cons_of_mem _ hb)
   ·exact aHs o l x hs h λb hb=>hl b (List.mem_cons_of_mem _ hb)
theorem bA4 (h:x.Va) (o:OrG):(lC x o).1.Va:=by
 unfold lC;split;rotate_left
 ·exact h
 split;rotate_left
 ·exact h
 exact aHs o _ x [] h λa ha=>SvG.fd_mem (SvG.va_iff.2 h) ha
theorem bAl (h:x.Va) (o:OrG):(wB x o).1.Va:=by
 unfold wB;split;rotate_left
 ·exact h
 split;rotate_left
 ·exact h
 split;rotate_left
 ·exact h
 simp only;split
 ·exact aEl h δ (by assumption) _ _
 split
 ·exact aEl h δ (by assumption) _ _
 ·exact aEl h δ (by assumption) _ _
theorem SvG.Va.doM (h:x.Va) (o:OrG):(doM x o).1.Va:=by
 unfold Sr.doM;by_cases h1:o.k=1
 ·rw[if_pos h1];exact aUf h o
 rw[if_neg h1];by_cases h2:o.k=2
 ·rw[if_pos h2];exact aQl h o
 rw[if_neg h2];by_cases h3:o.k=3
 ·rw[if_pos h3];exact aVn h o
 rw[if_neg h3];by_cases h4:o.k=4
 ·rw[if_pos h4];exact bEg h o
 rw[if_neg h4];by_cases h5:o.k=5
 ·rw[if_pos h5];exact aZp h o
 rw[if_neg h5];by_cases h6:o.k=6
 ·rw[if_pos h6];exact aVo h o
 rw[if_neg h6];by_cases h7:o.k=7
 ·rw[if_pos h7];exact bAo h o
 rw[if_neg h7];by_cases h8:o.k=8
 ·rw[if_pos h8];exact aY2 h o
 rw[if_neg h8];by_cases h9:o.k=9
 ·rw[if_pos h9];exact bAr h o
 rw[if_neg h9];by_cases h10:o.k=10
 ·rw[if_pos h10];exact bA3 h o
 rw[if_neg h10];by_cases h11:o.k=11
 ·rw[if_pos h11];exact aZv h o
 rw[if_neg h11];by_cases h12:o.k=12
 ·rw[if_pos h12];exact bA7 h o
 rw[if_neg h12];by_cases h13:o.k=13
 ·rw[if_pos h13];exact bA4 h o
 rw[if_neg h13];exact bAl h o
theorem SvG.Va.stX (h:x.Va) (o:OrG):(stX x o).Va:=by
 unfold Sr.stX;split
 ·exact h.doM o
 ·exact h
theorem SvG.Va.ok (h:x.Va):x.OK:=by
 have hg:=EG.val_iff.1 h.g;have hr:=Rg.RG.sizes h.r;have h1:=(fE.1 h.ch).1;have h2:=h.lg;simp only [fR,Bool.and_eq_true,decide_eq_true_eq] at h2;exact⟨hg.sm,Rg.RG.valid_OK h.r,ω,ω,ω,ω,by have:=h.irn;have:=hg.nr;omega,ω,by have:=h.k4;omega,ω⟩
end Go.Gx.Sr
namespace Go.Gx.Sr
open Go.RowKit Go.Proofs Go.Proofs.YtncccnmmjfapnaaGreat Go.Gx.Ix
def OrG.fc (o:OrG) (j:Nat):RV:=match o.cells[j]? with | some (.r v)=>v | _=>.any
@[go_sem]theorem OrG.fc0 (o:OrG):o.fc 0=.v (.int .u8 o.k):=rfl
@[go_sem]theorem OrG.fc1 (o:OrG):o.fc 1=.i o.n:=rfl
@[go_sem]theorem OrG.fc2 (o:OrG):o.fc 2=.i o.a:=rfl
@[go_sem]theorem OrG.fc3 (o:OrG):o.fc 3=.i o.b:=rfl
@[go_sem]theorem OrG.fc4 (o:OrG):o.fc 4=.v (.bool o.f):=rfl
@[go_sem]theorem OrG.fc5 (o:OrG):o.fc 5=.w o.x.c:=rfl
@[go_sem]theorem OrG.fc6 (o:OrG):o.fc 6=.w o.x.m:=rfl
@[go_sem]theorem OrG.fc7 (o:OrG):o.fc 7=.w o.s:=rfl
@[go_sem]theorem OrG.fc8 (o:OrG):o.fc 8=.i o.rl.p:=rfl
@[go_sem]theorem OrG.fc9 (o:OrG):o.fc 9=.i o.rl.r:=rfl
@[go_sem]theorem OrG.fc10 (o:OrG):o.fc 10=.i o.rl.l:=rfl
@[go_sem]theorem OrG.fc11 (o:OrG):o.fc 11=.i o.rl.f:=rfl
@[go_sem]theorem OrG.fc12 (o:OrG):o.fc 12=.i o.rl.t:=rfl
@[go_sem]theorem OrG.fc13 (o:OrG):o.fc 13=.i o.rl.k:=rfl
@[go_sem]theorem OrG.fc14 (o:OrG):o.fc 14=.i o.rl.s:=rfl
@[go_sem]theorem OrG.fc15 (o:OrG):o.fc 15=.v (.int .u8 o.rl.b):=rfl
@[go_sem]theorem OrG.fc16 (o:OrG):o.fc 16=.i o.w.l:=rfl
@[go_sem]theorem OrG.fc17 (o:OrG):o.fc 17=.i o.w.p:=rfl
@[go_sem]theorem OrG.fc18 (o:OrG):o.fc 18=.i o.w.f:=rfl
@[go_sem]theorem OrG.fc19 (o:OrG):o.fc 19=.i o.w.t:=rfl
@[go_sem]theorem OrG.fc20 (o:OrG):o.fc 20=.i o.c.p:=rfl
@[go_sem]theorem OrG.fc21 (o:OrG):o.fc 21=.i o.c.q:=rfl
@[go_sem]theorem OrG.fc22 (o:OrG):o.fc 22=.i o.c.u:=rfl
@[go_sem]theorem OrG.fc23 (o:OrG):o.fc 23=.i o.m.l:=rfl
@[go_sem]theorem OrG.fc24 (o:OrG):o.fc 24=.i o.m.p:=rfl
@[go_sem]theorem OrG.fc25 (o:OrG):o.fc 25=.i o.m.s:=rfl
@[go_sem]theorem OrG.fc26 (o:OrG):o.fc 26=.i o.m.u:=rfl
@[go_sem]theorem OrG.fc27 (o:OrG):o.fc 27=.i o.m.n:=rfl
@[go_sem]theorem OrG.fc28 (o:OrG):o.fc 28=.i o.q.p:=rfl
@[go_sem]theorem OrG.fc29 (o:OrG):o.fc 29=.i o.q.r:=rfl
@[go_sem]theorem OrG.fc30 (o:OrG):o.fc 30=.i o.q.l:=rfl
@[go_sem]theorem OrG.fc31 (o:OrG):o.fc 31=.i o.q.w:=rfl
@[go_sem]theorem OrG.fc32 (o:OrG):o.fc 32=.i o.q.t:=rfl
@[go_sem]theorem OrG.fc33 (o:OrG):o.fc 33=.rs 1 o.q.nk λi _=>.i (o.q.k i):=rfl
abbrev oJ (l:List OrG):SV:=.r (.rs 34 l.length (bA OrG.fc l))
def AnG.f (a:AnG):Nat->RV
 | 0=>.i a.e
 | 1=>.i a.n
 | _=>.rs 5 a.h.length (bA HtG.f a.h)
@[go_sem]theorem AnG.f0 (x:AnG):x.f 0=.i x.e:=rfl
@[go_sem]theorem AnG.f1 (x:AnG):x.f 1=.i x.n:=rfl
@[go_sem]theorem AnG.f2 (x:AnG):x.f 2=.rs 5 x.h.length (bA HtG.f x.h):=rfl
abbrev ans (l:List AnG):SV:=.r (.rs 3 l.length (bA AnG.f l))
def iP:Int->List OrG->Int
 | e,[]=>e
 | e,o::l=>iP (if e=0 then cQ o else e) l
def run:SvG->List OrG->List AnG->SvG × List AnG
 | x,[],a=>(x,a)
 | x,o::l,a=>run (stX x o) l (a++[nX x o])
def jV (x:SvG) (l:List OrG):Int:=iP (if x.setB then (if 300<l.length then 4 else 0) else 2) l
theorem aBw (o:OrG):∀(l:List OrG) (e:Int),iP e (l++[o])=if iP e l=0 then cQ o else iP e l
 | [],e=>rfl
 | _::l,e=>aBw o l _
theorem aB9 {l:List OrG} {i:Nat} (h:i<l.length) (e:Int):iP e (l.take (i+1))=if iP e (l.take i)=0 then cQ l[i] else iP e (l.take i):=by
 rw[List.take_succ_eq_append_getElem h,aBw]
theorem uT:∀{l:List OrG} {e:Int},iP e l=0->e=0/\∀o∈l,cQ o=0
 | [],e,h=>⟨h,λ_ h=>by cases h⟩
 | o::l,e,h=>by
   obtain⟨h1,h2⟩:=uT (l:=l) h;by_cases e0:e=0
   ·rw[if_pos e0] at h1;refine⟨e0,λy hy=>?_⟩;rcases List.mem_cons.1 hy with rfl | hy
    ·exact h1
    ·exact h2 y hy
   ·rw[if_neg e0] at h1;exact absurd h1 e0
theorem aI1 {x:SvG} (h:x.setB=true):x.new.Va:=by
 have no:∀a:Int,x.new.g.th a=false:=λa=>by
  rw[Bool.eq_false_iff];intro ht;have:=EG.th_lt ht;have:a<((0:Nat):Int):=this.2;omega
 refine⟨h,by show EG.zero.valid=true;decide,by show Rg.RG.nil.valid=true;decide,by show eS []=true;decide,by show fR []=true;decide,by show(0:Int)<=0/\(0:Int)<=maxT;decide,by show[].length<=4;decide,rfl,λi hi=>absurd hi (Nat.not_lt_zero i),?_,?_,?_,?_,?_,?_,?_,?_⟩
 ·intro e he;cases he
 ·rintro a ⟨i,hi,_⟩;exact absurd hi (Nat.not_lt_zero i)
 ·rintro a ⟨i,hi,_⟩;exact absurd hi (Nat.not_lt_zero i)
 ·rintro a ⟨i,hi,_⟩;exact absurd hi (Nat.not_lt_zero i)
 ·intro e he;cases he
 ·intro e he;cases he
 ·intro e he;cases he
 ·intro e he;cases he
theorem aO8 {A B:Prop} (h:A->B) (a:A):B:=h a
abbrev aM0:Reg:=.box [.i 0,.i 0,.i 0,.i 0,.r (.v (.int .u64 0)),.i 0,aM,aM,aM,aM,aM,aM,aM,aM,aM,aM,aM]
theorem bGt (x:SvG) (l:List OrG) (hn:l.length<1000000) (ho:∀o∈l,o.Sm):Pure Tryz.prog 37 [x.ss,oJ l] (· =.tup [(if jV x l=0 then (run x.new l []).1 else SvG.zero).sv,ans (if jV x l=0 then (run x.new l []).2 else []),.i (jV x l)]):=by
 refine Pure.ofSub ?_;refine π Tryz.func37 ?_;simp[go_sem];refine aA (bHb x) rfl rfl ?_;obtain⟨e0,he0⟩:∃e:Int,(if x.setB then (if 300<l.length then 4 else 0) else 2)=e:=⟨_,rfl⟩;have hE:jV x l=iP e0 l:=by unfold jV;rw[he0]
 rw[hE];obtain⟨sb,hsb⟩:∃b,x.setB=b:=⟨_,rfl⟩;rw[hsb] at he0 ⊢;obtain⟨y,hy⟩:∃y:SvG,(if sb=true then x.new else SvG.zero)=y:=⟨_,rfl⟩;rw[hy];obtain⟨e1,he1⟩:∃e:Int,(if sb=true then (0:Int) else 2)=e:=⟨_,rfl⟩;rw[he1];simp[go_sem];apply aO8 (A:=∀E M nx,eqS E [(1,oJ l),(4,.ptr 1 0 17 0),(7,.ptr 2 0 17 0),(8,.i e0),(27,oJ l),(28,.i l.length),(29,.i 0)]->(3<=nx/\M 1=some aM0/\M 2=some (.box y.cells))->qR Tryz.prog T _ _ _ _ E M nx)
 ·intro key
  cases sb
  ·obtain rfl:e1=2:=he1.symm;have e:e0=2:=he0.symm;simp[go_sem];exact key _ _ _ (by simp[go_sem,e]) ζ
  obtain rfl:e1=0:=he1.symm;have he0:(if 300<l.length then 4 else 0)=e0:=he0;by_cases h3:300<l.length
  ·have h3':(300:Int)<l.length:=ω;have e:e0=4:=by rw[<- he0,if_pos h3]
   simp[go_sem,h3'];exact key _ _ _ (by simp[go_sem,e]) ζ
  ·have h3':¬(300:Int)<l.length:=ω;have e:e0=0:=by rw[<- he0,if_neg h3]
   simp[go_sem,h3'];exact key _ _ _ (by simp[go_sem,e]) ζ
 intro E M nx hE hM;refine jE aD (α:=Nat) (λi=>[(1,oJ l),(4,.ptr 1 0 17 0),(7,.ptr 2 0 17 0),(8,.i (iP e0 (l.take i))),(27,oJ l),(28,.i l.length),(29,.i i)])
  (λi M nx=>i<=l.length/\3<=nx/\M 1=some aM0/\M 2=some (.box y.cells)) (λi=>l.length - i) 0 ?_ ?_ ?_
 ·exact⟨Nat.zero_le _,hM⟩
 ·exact hE
 clear hE hM;rintro i J M nx _ ⟨hi,hnx,m1,m2⟩;have b1:¬1=nx:=ω;have b2:¬2=nx:=ω;have b1':¬nx=1:=ω;have b2':¬nx=2:=ω;by_cases hlt:i<l.length
 ·have hrow:=aJ (f:=OrG.fc) hlt;have hs:=aB9 hlt e0;obtain⟨e,he⟩:∃e,iP e0 (l.take i)=e:=⟨_,rfl⟩;have hmem:=ho _ (List.getElem_mem hlt);obtain⟨o,hoo⟩:∃o,l[i]=o:=⟨_,rfl⟩;rw[he] at hs;rw[hoo] at hrow hs hmem;by_cases e0':e=0
  ·rw[if_pos e0'] at hs;simp[go_sem,hlt,hrow,he,e0',m1,m2,b1,b2,b1',b2'];refine aA (aDd o hmem.q) rfl rfl ?_;simp[go_sem,hlt,hrow,he,e0',m1,m2,b1,b2,b1',b2'];exact⟨⟨ω,ω⟩,i+1,ω,⟨hs.symm,ω⟩,ω,ω⟩
  ·rw[if_neg e0'] at hs;simp[go_sem,hlt,hrow,he,e0',m1,m2,b1,b2,b1',b2'];exact⟨⟨ω,ω⟩,i+1,ω,⟨hs.symm,ω⟩,ω,ω⟩
 obtain rfl:i=l.length:=ω;rw[List.take_length];have hfin:=λh=>uT (l:=l) (e:=e0) h;obtain⟨E0,hE0⟩:∃e,iP e0 l=e:=⟨_,rfl⟩;rw[hE0] at hfin ⊢;by_cases hz:E0=0;rotate_left
 ·simp[go_sem,hz,m1,m2];exact⟨rfl,rfl,rfl,rfl,rfl,rfl,rfl,rfl,rfl,rfl,rfl,rfl,rfl,rfl,rfl,rfl,rfl⟩
 obtain⟨hz0,hoE⟩:=hfin hz;have hsb':x.setB=true:=by
  cases sb with
  | true=>exact hsb
  | false=>rw[hz0] at he0;cases he0
 have hyy:y=x.new:=by rw[<- hy,if_pos (hsb▸hsb')]
 have hyv:y.Va:=by rw[hyy];exact aI1 hsb'
 rw[<- hyy];obtain⟨R,hR⟩:∃R,run y l []=R:=⟨_,rfl⟩;rw[hR];simp[go_sem,hz,m1,m2];refine bH (GSt.adopt 12 51 3 (λ_ _=>.r .any) ζ) ?_;refine yW aD (α:=Nat × SvG × List AnG) (λs=>[(1,oJ l),(4,.ptr 1 0 17 0),(11,.ptr nx 0 17 0),(12,.sl (nx+1) 3 0 s.2.2.length none),(45,oJ l),(46,.i l.length),(47,.i s.1)])
  (λs M nx'=>s.1<=l.length/\nx+2<=nx'/\M 1=some aM0/\M nx=some (.box s.2.1.cells)/\(∃G,M (nx+1)=some (.vec 51 3 s.2.2.length G)/\∀i j,i<s.2.2.length->j<3->G i j=.r (bA AnG.f s.2.2 i j))/\s.2.1.Va/\s.2.2.length<=s.1/\R=run s.2.1 (l.drop s.1) s.2.2) (λs=>l.length - s.1) (0,y,[]) ?_ ?_ ?_
 ·refine⟨Nat.zero_le _,Nat.le_refl _,?_,?_,⟨λ_ _=>.r .any,?_,λi j hi=>absurd hi (Nat.not_lt_zero i)⟩,hyv,Nat.le_refl _,hR.symm⟩
  ·have:¬1=nx+1:=ω;have t2:¬nx=0:=ω;simp[go_sem,this,b1,m1,t2]
  ·simp[go_sem]
  ·simp[go_sem]
 ·simp[go_sem]
 rintro⟨k,z,al⟩ J M nx' _ ⟨hk,hnx',m1,m3,⟨G,m4,hG⟩,hzv,hak,hM⟩;dsimp only at *;by_cases hlt:k<l.length
 ·have hrow:=aJ (f:=OrG.fc) hlt;have hmem:=ho _ (List.getElem_mem hlt);have hoE:=hoE _ (List.getElem_mem hlt);have hdrop:l.drop k=l[k]::l.drop (k+1):=List.drop_eq_getElem_cons hlt;obtain⟨o,hoo⟩:∃o,l[k]=o:=⟨_,rfl⟩;rw[hoo] at hrow hmem hdrop hoE;rw[hdrop] at hM;have d1:¬1=nx':=ω;have d2:¬nx=nx':=ω;have d3:¬nx+1=nx':=ω;have d1':¬nx'=1:=ω;have d2':¬nx'=nx:=ω;have d3':¬nx'=nx+1:=ω;have hstep:=bA5 z o hzv.ok (SvG.va_iff.2 hzv) ⟨(xC hoE).1,(xC hoE).2,hmem.b,hmem.q⟩;simp[go_sem,hlt,hrow,m1,m3,m4,d1,d2,d3,d1',d2',d3'];obtain⟨z',hz'⟩:∃z',stX z o=z':=⟨_,rfl⟩;obtain⟨a,ha⟩:∃a,nX z o=a:=⟨_,rfl⟩;have hM:R=run (stX z o) (l.drop (k+1)) (al++[nX z o]):=hM;have hzv':=hzv.stX o;rw[hz',ha] at hstep hM;rw[hz'] at hzv';have har:∀j,j<3->([.i a.e,.i a.n,hts a.h]:List SV)[0*3+j]?.getD (SV.r .any)=.r (a.f j):=by
   intro j hj;rcases(ω:j=0\/j=1\/j=2) with rfl | rfl | rfl <;> rfl
  refine aR [nx] hstep (Nat.le_refl _) τ rfl ⟨?_,trivial⟩ ?_
  ·simp[go_sem,m3,d2]
  have c1:¬nx=nx'+1:=ω;have c2:¬nx+1=nx'+1:=ω;have c3:¬1=nx'+1:=ω;have c4:¬nx=nx'+1+1:=ω;have c5:¬nx+1=nx'+1+1:=ω;have c6:¬1=nx'+1+1:=ω;have c1':¬nx'+1=nx:=ω;have c2':¬nx'+1=nx+1:=ω;have c3':¬nx'+1=1:=ω;have c4':¬nx'+1+1=nx:=ω;have c5':¬nx'+1+1=nx+1:=ω;have c6':¬nx'+1+1=1:=ω;have c7:¬nx=0:=ω;simp[go_sem,m1,m3,m4,d1,d2,d3,d1',d2',d3',b1,b2,b1',b2',c1,c2,c3,c4,c5,c6,c1',c2',c3',c4',c5',c6',c7];refine⟨⟨ω,ω⟩,⟨ω,ω⟩,aQ ?_⟩;rw[tW];refine⟨(k+1,z',al++[a]),(show l.length - (k+1)<l.length - k by omega),?_,(show k+1<=l.length by omega),(show nx+2<=nx'+1+1+1 by omega),?_,?_,⟨λi j=>SV.kill (nx+1) (aI al.length 1 G (λi j=>[.i a.e,.i a.n,hts a.h][i*3+j]?.getD (SV.r .any)) i j),?_,?_⟩,hzv',?_,hM⟩
  ·simp[go_sem]
  ·simp[go_sem,m1,m3,m4,d1,d2,d3,d1',d2',d3',b1,b2,b1',b2',c1,c2,c3,c4,c5,c6,c1',c2',c3',c4',c5',c6',c7]
  ·simp[go_sem,m1,m3,m4,d1,d2,d3,d1',d2',d3',b1,b2,b1',b2',c1,c2,c3,c4,c5,c6,c1',c2',c3',c4',c5',c6',c7]
  ·simp[go_sem]
  ·exact fI hG λj hj=>har j hj
  ·show(al++[a]).length<=k+1;simp;omega
 obtain rfl:k=l.length:=ω;rw[List.drop_length] at hM;have hM:R=(z,al):=hM;rw[hM];simp[go_sem,m1,m3,m4];refine aZ (GSt.freeze (nx+1) m4) (aQ ?_);rw[aLr];have c7:¬nx=0:=ω;have c8:¬nx+1=nx:=ω;simp[go_sem,m1,m3,m4,b1,b2,b1',b2',c7,c8];intro i j hi hj;rw[hG i j hi hj];rfl
deriving instance DecidableEq for AnG
end Go.Gx.Sr
namespace Go.Gx.Rg
open Go.RowKit Go.WideShapes Go.ChangeShapes Go.Proofs Go.Proofs.YtncccnmmjfapnaaGreat
abbrev oB:CS:=.sc (.int .i64)
abbrev aJw (l:List CS):CS:=.sl l.length λj=>l.getD j (.sc .bool)
section
variable {W:World}
abbrev ZW (W:World):Nat->Prop:=λb=>b<W.heap.size
theorem bN {k:IntKind} {v:Value} (h:jG W (.sc (.int k)) v):v.oneCell'=true:=by rw[mN h];rfl
theorem cH {Z:Nat->Prop} {v:Value} (h:jG W oB v):(RV.i (vi v)).rel Z W v:=mN h
theorem int_rows {v:Value} (h:jG W (aJw [oB]) v):∃(n:Nat) (r:Nat->Int),∀σ,(SV.r (.rs 1 n λi _=>.i (r i))).rel σ (ZW W) W v:=by
 obtain⟨n,cv,_,h1,h2⟩:=aLn h;refine⟨n,λi=>vi (cv i 0),λσ=>h2 _ (λi j hi hj=>?_) σ⟩;have hj0:j=0:=by simp at hj;omega
 subst hj0;have hc:=h1 i 0 hi hj;exact⟨bN hc,cH hc⟩
end
end Go.Gx.Rg
namespace Go.Gx.Sr
open Go.RowKit Go.WideShapes Go.ChangeShapes Go.Proofs Go.Proofs.YtncccnmmjfapnaaGreat
abbrev csW:CS:=.sc (.int .u64)
abbrev csY:CS:=.sc (.int .u8)
abbrev csO:List CS:=[csY,oB,oB,oB,csB,csW,csW,csW,oB,oB,oB,oB,oB,oB,oB,csY,oB,oB,oB,oB,oB,oB,oB,oB,oB,oB,oB,oB,oB,oB,oB,oB,oB,aJw [oB]]
abbrev csSet:List CS:=[oB,oB,oB,oB,csW]
theorem aW4:oK Tryz.prog 8 26=some csSet:=κ
theorem bB3:oK Tryz.prog 8 94=some [aJw csO]:=κ
section
variable {W:World}
theorem aK2 {Z:Nat->Prop} {v:Value} (h:jG W csW v):(RV.w (Ix.v64 v)).rel Z W v:=Ix.rel_v64 h
theorem aYb {Z:Nat->Prop} {v:Value} (h:jG W csY v):(RV.v (.int .u8 (vi v))).rel Z W v:=mN h
theorem aOd {α:Type} {k:Nat} {fs:Nat->CS} {v:Value} (h:jG W (.sl k fs) v) (f:α->Nat->RV) (mk:(Nat->Value)->α) (φ:α->Prop)
 (hf:∀cv:Nat->Value,(∀j,j<k->jG W (fs j) (cv j))->φ (mk cv)/\∀j,j<k->(cv j).oneCell'=true/\(f (mk cv) j).rel (ZW W) W (cv j)) :
 ∃l:List α,(∀a∈l,φ a)/\∀σ,(SV.r (.rs k l.length (bA f l))).rel σ (ZW W) W v:=by
 obtain⟨n,cv,_,h1,h2⟩:=aLn h;have hl:((List.range n).map λi=>mk (cv i)).length=n:=τ;refine⟨(List.range n).map λi=>mk (cv i),λa ha=>?_,λσ=>?_⟩
 ·obtain⟨i,hi,rfl⟩:=List.mem_map.1 ha;exact(hf (cv i) λj hj=>h1 i j (List.mem_range.1 hi) hj).1
 have:=h2 (bA f ((List.range n).map λi=>mk (cv i))) (λi j hi hj=>?_) σ
 ·rw[hl];exact this
 rw[aJ (by rw[hl];exact hi),List.getElem_map,List.getElem_range];exact(hf (cv i) λj hj=>h1 i j hi hj).2 j hj
theorem aIe {v:Value} (h:jG W (aJw csO) v):∃l:List OrG,(∀o∈l,o.rl.byte)/\∀σ,(oJ l).rel σ (ZW W) W v:=by
 have hk:∀v:Value,∃p:Nat × (Nat->Int),jG W (aJw [oB]) v->(RV.rs 1 p.1 λi _=>.i (p.2 i)).rel (ZW W) W v:=λv=>by
  by_cases hc:jG W (aJw [oB]) v
  ·obtain⟨n,k,hr⟩:=Rg.int_rows hc;exact⟨(n,k),λ_=>hr (λ_=>none)⟩
  ·exact⟨(0,λ_=>0),λh=>absurd h hc⟩
 obtain⟨f,hf⟩:=Classical.axiomOfChoice hk;refine aOd h OrG.fc (λcv=>⟨vi (cv 0),vi (cv 1),vi (cv 2),vi (cv 3),vb (cv 4),⟨Ix.v64 (cv 5),Ix.v64 (cv 6)⟩,Ix.v64 (cv 7),
  ⟨vi (cv 8),vi (cv 9),vi (cv 10),vi (cv 11),vi (cv 12),vi (cv 13),vi (cv 14),vi (cv 15)⟩,⟨vi (cv 16),vi (cv 17),vi (cv 18),vi (cv 19)⟩,⟨vi (cv 20),vi (cv 21),vi (cv 22)⟩,⟨vi (cv 23),vi (cv 24),vi (cv 25),vi (cv 26),vi (cv 27)⟩,
  ⟨vi (cv 28),vi (cv 29),vi (cv 30),vi (cv 31),vi (cv 32),(f (cv 33)).1,(f (cv 33)).2⟩⟩) (λo=>o.rl.byte) λcv hc=>⟨bG6 (hc 15 δ),λj hj=>?_⟩
 match j,hj,hc j hj with
 | 0,_,hc=>exact⟨bN hc,aYb hc⟩
 | 1,_,hc=>exact⟨bN hc,cH hc⟩
 | 2,_,hc=>exact⟨bN hc,cH hc⟩
 | 3,_,hc=>exact⟨bN hc,cH hc⟩
 | 4,_,hc=>exact⟨bAa hc,aY4 hc⟩
 | 5,_,hc=>exact⟨bN hc,aK2 hc⟩
 | 6,_,hc=>exact⟨bN hc,aK2 hc⟩
 | 7,_,hc=>exact⟨bN hc,aK2 hc⟩
 | 8,_,hc=>exact⟨bN hc,cH hc⟩
 | 9,_,hc=>exact⟨bN hc,cH hc⟩
 | 10,_,hc=>exact⟨bN hc,cH hc⟩
 | 11,_,hc=>exact⟨bN hc,cH hc⟩
 | 12,_,hc=>exact⟨bN hc,cH hc⟩
 | 13,_,hc=>exact⟨bN hc,cH hc⟩
 | 14,_,hc=>exact⟨bN hc,cH hc⟩
 | 15,_,hc=>exact⟨bN hc,aYb hc⟩
 | 16,_,hc=>exact⟨bN hc,cH hc⟩
 | 17,_,hc=>exact⟨bN hc,cH hc⟩
 | 18,_,hc=>exact⟨bN hc,cH hc⟩
 | 19,_,hc=>exact⟨bN hc,cH hc⟩
 | 20,_,hc=>exact⟨bN hc,cH hc⟩
 | 21,_,hc=>exact⟨bN hc,cH hc⟩
 | 22,_,hc=>exact⟨bN hc,cH hc⟩
 | 23,_,hc=>exact⟨bN hc,cH hc⟩
 | 24,_,hc=>exact⟨bN hc,cH hc⟩
 | 25,_,hc=>exact⟨bN hc,cH hc⟩
 | 26,_,hc=>exact⟨bN hc,cH hc⟩
 | 27,_,hc=>exact⟨bN hc,cH hc⟩
 | 28,_,hc=>exact⟨bN hc,cH hc⟩
 | 29,_,hc=>exact⟨bN hc,cH hc⟩
 | 30,_,hc=>exact⟨bN hc,cH hc⟩
 | 31,_,hc=>exact⟨bN hc,cH hc⟩
 | 32,_,hc=>exact⟨bN hc,cH hc⟩
 | 33,_,hc=>exact⟨aZg hc,hf _ hc⟩
 | j+34,hj,_=>exact absurd hj τ
section
variable {H:Type} {enc:TypeId × Value->H} {base:Nat} {spare:Nat->Bool} {held:Bool}
theorem aM9 {v:Value} {d:DataW H} {p:List MemPlace} {r:Reach} {b0:Nat} (hv:Value.okWide Tryz.prog W r b0 26 v) (h:DataW.Trod enc Tryz.prog W base spare held 26 v d p) :
 ∃x:SvG,∀σ,x.ss.rel σ (ZW W) W v:=by
 obtain⟨cs,rfl,_⟩:=okWide_struct Tryz.underlying26 hv;have hc:=aBp aW4 h;obtain⟨cs⟩:=cs;simp only [Value.cells] at hc;obtain⟨v0,_,e,h0,v1,_,rfl,h1,v2,_,rfl,h2,v3,_,rfl,h3,v4,_,rfl,h4,rfl⟩:=hc
 cases e
 refine⟨{SvG.zero with num:=vi v0,den:=vi v1,turns:=vi v2,mage:=vi v3,key:=Ix.v64 v4},λσ=>⟨[v0,v1,v2,v3,v4],rfl,λv hv=>?_,v0,_,rfl,mN h0,v1,_,rfl,mN h1,v2,_,rfl,mN h2,v3,_,rfl,mN h3,v4,_,rfl,aK2 (Z:=ZW W) h4,rfl⟩⟩;simp at hv;rcases hv with rfl | rfl | rfl | rfl | rfl
 ·exact bN h0
 ·exact bN h1
 ·exact bN h2
 ·exact bN h3
 ·exact bN h4
theorem aJ5 {v:Value} {d:DataW H} {p:List MemPlace} {r:Reach} {b0:Nat} (hv:Value.okWide Tryz.prog W r b0 94 v) (h:DataW.Trod enc Tryz.prog W base spare held 94 v d p) :
 ∃l:List OrG,(∀o∈l,o.rl.byte)/\∀σ,(oJ l).rel σ (ZW W) W v:=by
 have hone:v.cells.toList=[v]:=by
  simp only [Value.okWide,Tryz.underlying94,Cell.okWide] at hv
  cases v <;> simp_all [Cell.ok,Value.cells]
 have hc:=aBp bB3 h;rw[hone] at hc;obtain⟨v0,_,e,h0,rfl⟩:=hc
 cases e
 exact aIe h0
end
end
end Go.Gx.Sr
namespace Go.Gx.Sr
open Go.RowKit Go.Proofs Go.Proofs.YtncccnmmjfapnaaGreat Go.Gx.Ix
def OrG.great (o:OrG):Bool:=decide (20<(o.q.nk:Int))
theorem aUk (o:OrG):Pure Tryz.prog 24 [o.sv] (· =.b o.great):=by
 refine π Tryz.func24 ?_;unfold OrG.great;simp[go_sem]
theorem mG (n lo hi:Int):Pure Tryz.prog 159 [.i n,.i lo,.i hi] (· =.b (Ix.btw lo hi n)):=by
 refine π Tryz.func159 ?_;by_cases h:lo<=n <;> simp[go_sem,Ix.btw,h]
theorem aCn (n lo hi:Int):Pure Tryz.prog 362 [.i n,.i lo,.i hi] (· =.b (Ix.btw lo hi n)):=by
 refine π Tryz.func362 ?_;by_cases h:lo<=n <;> simp[go_sem,Ix.btw,h]
theorem eW (n lo hi:Int):Pure Tryz.prog 363 [.i n,.i lo,.i hi] (· =.b (Ix.btw lo hi n)):=by
 refine π Tryz.func363 ?_;by_cases h:lo<=n <;> simp[go_sem,Ix.btw,h]
theorem nG (n:Int):Pure Tryz.prog 285 [.i n] (· =.b (oF n)):=by
 refine π Tryz.func285 ?_;simp[go_sem];refine aA (aCn n 0 maxT) rfl rfl ?_;simp[go_sem,oF]
theorem uG (n:Int):Pure Tryz.prog 286 [.i n] (· =.b (psB n)):=by
 refine π Tryz.func286 ?_;simp[go_sem];refine aA (aCn n 0 63) rfl rfl ?_;simp[go_sem,psB]
theorem tT (a b:W64):Pure Tryz.prog 364 [.w a,.w b] (· =.w (vV a b)):=by
 refine π Tryz.func364 ?_;simp[go_sem];simp only [vV]
theorem tX (b:W64) (x:EnG):Pure Tryz.prog 288 [.w b,x.sv] (· =.w (x.lnk b)):=by
 refine π Tryz.func288 ?_;simp[go_sem];simp only [pG];refine aA (tT b (u64 x.t)) rfl rfl ?_;simp[go_sem];simp only [pG];refine aA (tT _ (u64 x.k)) rfl rfl ?_;simp[go_sem];refine aA (tT _ x.s) rfl rfl ?_;simp[go_sem,EnG.lnk]
theorem or0 (d a:W64):iO d a=0#64↔d.toNat=0/\a.toNat=0:=by
 unfold iO;rw[BitVec.or_eq_zero_iff];have h:∀x:W64,x=0#64↔x.toNat=0:=λx=>by rw[<- BitVec.toNat_inj];rfl
 rw[h,h]
theorem bJ3 (s d a:W64):bV (bV s d) a=0#64↔s=bV d a:=by
 unfold bV;rw[BitVec.xor_assoc];exact BitVec.xor_eq_zero_iff
theorem aCr (x:EnG):Pure Tryz.prog 287 [x.sv] (· =.b x.fit):=by
 obtain⟨c,hc⟩:∃c,x.fit=c:=⟨_,rfl⟩;rw[hc];unfold EnG.fit EnG.rng at hc;refine π Tryz.func287 ?_;simp[go_sem];refine aA (eW x.t 0 maxT) rfl rfl ?_
 cases h1:Ix.btw 0 maxT x.t
 ·rw[h1] at hc;simp[go_sem,<- hc]
 simp[go_sem];refine aA (eW x.k 0 7) rfl rfl ?_
 cases h2:Ix.btw 0 7 x.k
 ·rw[h1,h2] at hc;simp[go_sem,<- hc]
 simp[go_sem];refine aA (eW x.p (-1) 63) rfl rfl ?_
 cases h3:Ix.btw (-1) 63 x.p
 ·rw[h1,h2,h3] at hc;simp[go_sem,<- hc]
 rw[h1,h2,h3] at hc;have h4:-1<=x.p/\x.p<=63:=by simpa [Ix.btw] using h3
 by_cases hp:x.p=-1
 ·rw[if_pos ω] at hc;simp[go_sem,hp];simp only [Bool.true_and,or0] at hc;subst hc;split
  ·rename_i h;simp[h]
  ·rename_i h;simp[h]
 ·rw[if_neg ω] at hc;simp[go_sem,hp];simp only [Bool.true_and,bJ3] at hc;subst hc;rw[decide_eq_decide,Int.ofNat_inj,BitVec.toNat_inj]
theorem aDz (k:KsG) (key:W64):Pure Tryz.prog 296 [k.sv,.w key] (· =.w (k.seal key)):=by
 refine π Tryz.func296 ?_;simp[go_sem];refine aE aD κ κ ?_;simp[go_sem]
 try simp only [pG]
 refine⟨_,aB (tT key (u64 k.a)) rfl rfl,?_⟩;simp[go_sem];refine⟨_,aB (tT _ k.s) rfl rfl,?_⟩;simp[go_sem]
 try simp only [pG]
 refine⟨_,aB (tT _ (u64 k.m)) rfl rfl,?_⟩;simp[go_sem];rfl
theorem aNd (k:KsG) (key:W64):Pure Tryz.prog 289 [k.sv,.w key] (· =.b (k.ok key)):=by
 obtain⟨c,hc⟩:∃c,k.ok key=c:=⟨_,rfl⟩;rw[hc];unfold KsG.ok at hc;refine π Tryz.func289 ?_;simp[go_sem];refine aE aD κ κ ?_;simp[go_sem];refine⟨_,aB (nG k.a) rfl rfl,?_⟩;obtain⟨a,ha⟩:∃a,oF k.a=a:=⟨_,rfl⟩;rw[ha] at hc ⊢
 cases a
 ·simp at hc;subst hc;simp[go_sem]
 simp[go_sem];refine⟨_,aB (nG k.m) rfl rfl,?_⟩;obtain⟨b,hb⟩:∃b,oF k.m=b:=⟨_,rfl⟩;rw[hb] at hc ⊢
 cases b
 ·simp at hc;subst hc;simp[go_sem]
 simp at hc;subst hc;simp[go_sem];refine⟨_,aB (aDz k key) rfl rfl,?_⟩;simp[go_sem];rw[Int.ofNat_inj,BitVec.toNat_inj]
theorem lR (x:SvG) (h:x.g.OK) (a:Int):Pure Tryz.prog 202 [x.sv,.i a] (· =.b (x.g.th a)):=by
 refine π Tryz.func202 ?_;simp[go_sem];refine aA (mU x.g h a) rfl rfl ?_;simp[go_sem]
theorem aZi (l l':List ChG) (hn:l.length<=1000000):Pure Tryz.prog 78 [pZ l,pZ l'] (· =.b (decide (l=l'))):=by
 refine π Tryz.func78 ?_;simp[go_sem];by_cases h:l.length=l'.length;rotate_left
 ·have h':¬l=l':=λe=>h (by rw[e]);simp[go_sem,h,h']
  try omega
 simp[go_sem,h];have hn':l'.length<=1000000:=ω;refine aH aD (α:=Nat) (λk=>[(0,.r (.rs 3 l'.length (bA ChG.f l))),(1,pZ l'),(5,.i k)]) (λ_=>[]) 0 (λk=>k<=l'.length/\∀j,j<k->∀(h1:j<l.length) (h2:j<l'.length),l[j]=l'[j]) (λk=>l'.length - k) 0 (λ_=>rfl) τ (by simp[go_sem,h]) ζ ?_;intro k J hi;by_cases hlt:k<l'.length
 ·simp[go_sem,hlt];have hlt1:k<l.length:=ω;have r:=aJ (f:=ChG.f) hlt1;have q:=aJ (f:=ChG.f) hlt;refine aE aD κ κ ?_;simp[go_sem,hlt,r,q];have hiff:=ChG.iff l[k] l'[k];by_cases he:l[k]=l'[k]
  ·simp[go_sem,he];refine⟨ω,k+1,⟨ω,λj hj h1 h2=>?_⟩,ω,ω⟩;by_cases hjk:j=k
   ·subst hjk;exact he
   ·exact hi.2 j ω h1 h2
  ·have he':=λq=>he (hiff.2 q);have hne:¬l=l':=λe=>he (by simp[e]);simp[go_sem,hne];intro e0 e1 e2;exact absurd ⟨by first | exact e0 | exact Int.ofNat_inj.1 e0 | omega,by first | exact e1 | exact Int.ofNat_inj.1 e1 | omega,by first | exact e2 | exact Int.ofNat_inj.1 e2 | omega⟩ he'
 ·simp[go_sem,hlt];exact gN h λj h1 h2=>hi.2 j ω h1 h2
theorem bAm (l l':List EnG) (hn:l.length<=1000000):Pure Tryz.prog 79 [tL l,tL l'] (· =.b (decide (l=l'))):=by
 refine π Tryz.func79 ?_;simp[go_sem];by_cases h:l.length=l'.length;rotate_left
 ·have h':¬l=l':=λe=>h (by rw[e]);simp[go_sem,h,h']
  try omega
 simp[go_sem,h];have hn':l'.length<=1000000:=ω;refine aH aD (α:=Nat) (λk=>[(0,.r (.rs 7 l'.length (bA EnG.f l))),(1,tL l'),(5,.i k)]) (λ_=>[]) 0 (λk=>k<=l'.length/\∀j,j<k->∀(h1:j<l.length) (h2:j<l'.length),l[j]=l'[j]) (λk=>l'.length - k) 0 (λ_=>rfl) τ (by simp[go_sem,h]) ζ ?_;intro k J hi;by_cases hlt:k<l'.length
 ·simp[go_sem,hlt];have hlt1:k<l.length:=ω;have r:=aJ (f:=EnG.f) hlt1;have q:=aJ (f:=EnG.f) hlt;refine aE aD κ κ ?_;simp[go_sem,hlt,r,q];have hiff:=EnG.iff l[k] l'[k];by_cases he:l[k]=l'[k]
  ·simp[go_sem,he];refine⟨ω,k+1,⟨ω,λj hj h1 h2=>?_⟩,ω,ω⟩;by_cases hjk:j=k
   ·subst hjk;exact he
   ·exact hi.2 j ω h1 h2
  ·have he':=λq=>he (hiff.2 q);have hne:¬l=l':=λe=>he (by simp[e]);simp[go_sem,hne];intro e0 e1 e2 e3 e4 e5 e6;exact absurd ⟨by first | exact e0 | exact Int.ofNat_inj.1 e0 | omega,by first | exact e1 | exact Int.ofNat_inj.1 e1 | omega,by first | exact e2 | exact Int.ofNat_inj.1 e2 | omega,by first | exact e3 | exact Int.ofNat_inj.1 e3 | omega,by first | exact e4 | exact Int.ofNat_inj.1 e4 | omega,by first | exact e5 | exact Int.ofNat_inj.1 e5 | omega,by first | exact e6 | exact Int.ofNat_inj.1 e6 | omega⟩ he'
 ·simp[go_sem,hlt];exact gN h λj h1 h2=>hi.2 j ω h1 h2
end Go.Gx.Sr
namespace Go.Gx.Rg
open Go.RowKit Go.Proofs Go.Proofs.YtncccnmmjfapnaaGreat
theorem iT (x:ConG):Pure Tryz.prog 281 [x.sv] (· =.b x.good):=by
 obtain⟨c,hc⟩:∃c,x.good=c:=⟨_,rfl⟩;rw[hc];unfold ConG.good at hc;simp only [kindB,persB,timeB] at hc;refine π Tryz.func281 ?_;simp[go_sem];refine aA (pD x.p) rfl rfl ?_;obtain⟨b0,h0⟩:∃b,btw 0 63 x.p=b:=⟨_,rfl⟩;rw[h0] at hc ⊢
 cases b0
 ·simp at hc;subst hc;simp[go_sem]
 simp[go_sem];refine aA (nL x.q) rfl rfl ?_;obtain⟨b1,h1⟩:∃b,btw 0 7 x.q=b:=⟨_,rfl⟩;rw[h1] at hc ⊢
 cases b1
 ·simp at hc;subst hc;simp[go_sem]
 simp[go_sem];refine aA (oZ x.u) rfl rfl ?_;obtain⟨b2,h2⟩:∃b,btw 0 1099511627776 x.u=b:=⟨_,rfl⟩;rw[h2] at hc ⊢
 cases b2
 ·simp at hc;subst hc;simp[go_sem]
 simp at hc;subst hc;simp[go_sem]
theorem validWarrant114 (x:WarG):Pure Tryz.prog 283 [x.sv] (· =.b x.good):=by
 obtain⟨c,hc⟩:∃c,x.good=c:=⟨_,rfl⟩;rw[hc];unfold WarG.good at hc;simp only [kindB,persB,timeB] at hc;refine π Tryz.func283 ?_;simp[go_sem];refine aA (nL x.l) rfl rfl ?_;obtain⟨b0,h0⟩:∃b,btw 0 7 x.l=b:=⟨_,rfl⟩;rw[h0] at hc ⊢
 cases b0
 ·simp at hc;subst hc;simp[go_sem]
 simp[go_sem];refine aA (pD x.p) rfl rfl ?_;obtain⟨b1,h1⟩:∃b,btw 0 63 x.p=b:=⟨_,rfl⟩;rw[h1] at hc ⊢
 cases b1
 ·simp at hc;subst hc;simp[go_sem]
 simp[go_sem];refine aA (oZ x.f) rfl rfl ?_;obtain⟨b2,h2⟩:∃b,btw 0 1099511627776 x.f=b:=⟨_,rfl⟩;rw[h2] at hc ⊢
 cases b2
 ·simp at hc;subst hc;simp[go_sem]
 simp[go_sem];refine aA (oZ x.t) rfl rfl ?_;obtain⟨b3,h3⟩:∃b,btw 0 1099511627776 x.t=b:=⟨_,rfl⟩;rw[h3] at hc ⊢
 cases b3
 ·simp at hc;subst hc;simp[go_sem]
 by_cases l4:x.f<x.t;rotate_left
 ·simp[l4] at hc;subst hc;simp[go_sem,l4]
 simp[go_sem,l4];simp[l4] at hc
 try exact hc
theorem nO (x:MarkG):Pure Tryz.prog 284 [x.sv] (· =.b x.good):=by
 obtain⟨c,hc⟩:∃c,x.good=c:=⟨_,rfl⟩;rw[hc];unfold MarkG.good at hc;simp only [kindB,persB,timeB] at hc;refine π Tryz.func284 ?_;simp[go_sem];refine aA (nL x.l) rfl rfl ?_;obtain⟨b0,h0⟩:∃b,btw 0 7 x.l=b:=⟨_,rfl⟩;rw[h0] at hc ⊢
 cases b0
 ·simp at hc;subst hc;simp[go_sem]
 simp[go_sem];refine aA (pD x.p) rfl rfl ?_;obtain⟨b1,h1⟩:∃b,btw 0 63 x.p=b:=⟨_,rfl⟩;rw[h1] at hc ⊢
 cases b1
 ·simp at hc;subst hc;simp[go_sem]
 simp[go_sem];refine aA (oZ x.s) rfl rfl ?_;obtain⟨b2,h2⟩:∃b,btw 0 1099511627776 x.s=b:=⟨_,rfl⟩;rw[h2] at hc ⊢
 cases b2
 ·simp at hc;subst hc;simp[go_sem]
 simp[go_sem];refine aA (oZ x.u) rfl rfl ?_;obtain⟨b3,h3⟩:∃b,btw 0 1099511627776 x.u=b:=⟨_,rfl⟩;rw[h3] at hc ⊢
 cases b3
 ·simp at hc;subst hc;simp[go_sem]
 by_cases l4:x.s<x.u;rotate_left
 ·simp[l4] at hc;subst hc;simp[go_sem,l4]
 simp[go_sem,l4];refine aA (iI x.n 0 1000) rfl rfl ?_;obtain⟨b5,h5⟩:∃b,btw 0 1000 x.n=b:=⟨_,rfl⟩;rw[h5] at hc ⊢
 cases b5
 ·simp at hc;subst hc;simp[go_sem]
 simp[l4] at hc;subst hc;simp[go_sem]
theorem validRule113 (x:RuleG):Pure Tryz.prog 280 [x.sv] (· =.b x.good):=by
 obtain⟨c,hc⟩:∃c,x.good=c:=⟨_,rfl⟩;rw[hc];unfold RuleG.good at hc;simp only [kindB,persB,timeB] at hc;refine π Tryz.func280 ?_;simp[go_sem];refine aA (nL x.p) rfl rfl ?_;obtain⟨b0,h0⟩:∃b,btw 0 7 x.p=b:=⟨_,rfl⟩;rw[h0] at hc ⊢
 cases b0
 ·simp at hc;subst hc;simp[go_sem]
 simp[go_sem];refine aA (nL x.r) rfl rfl ?_;obtain⟨b1,h1⟩:∃b,btw 0 7 x.r=b:=⟨_,rfl⟩;rw[h1] at hc ⊢
 cases b1
 ·simp at hc;subst hc;simp[go_sem]
 simp[go_sem];refine aA (nL x.l) rfl rfl ?_;obtain⟨b2,h2⟩:∃b,btw 0 7 x.l=b:=⟨_,rfl⟩;rw[h2] at hc ⊢
 cases b2
 ·simp at hc;subst hc;simp[go_sem]
 simp[go_sem];refine aA (oZ x.f) rfl rfl ?_;obtain⟨b3,h3⟩:∃b,btw 0 1099511627776 x.f=b:=⟨_,rfl⟩;rw[h3] at hc ⊢
 cases b3
 ·simp at hc;subst hc;simp[go_sem]
 simp[go_sem];refine aA (oZ x.t) rfl rfl ?_;obtain⟨b4,h4⟩:∃b,btw 0 1099511627776 x.t=b:=⟨_,rfl⟩;rw[h4] at hc ⊢
 cases b4
 ·simp at hc;subst hc;simp[go_sem]
 by_cases l5:x.f<x.t;rotate_left
 ·simp[l5] at hc;subst hc;simp[go_sem,l5]
 simp[go_sem,l5];refine aA (iI x.k 1 2) rfl rfl ?_;obtain⟨b6,h6⟩:∃b,btw 1 2 x.k=b:=⟨_,rfl⟩;rw[h6] at hc ⊢
 cases b6
 ·simp at hc;subst hc;simp[go_sem]
 simp[go_sem];refine aA (iI x.s 1 3) rfl rfl ?_;obtain⟨b7,h7⟩:∃b,btw 1 3 x.s=b:=⟨_,rfl⟩;rw[h7] at hc ⊢
 cases b7
 ·simp at hc;subst hc;simp[go_sem]
 simp[l5] at hc;subst hc;simp[go_sem,btw];split <;> omega
theorem wO (g:RG) (h:g.OK):Pure Tryz.prog 176 [g.sv] (· =.b g.valid):=by
 refine π Tryz.func176 ?_;have h1:=h.nr;have h2:=h.nc;have h3:=h.nw;have h4:=h.nm;simp[go_sem];split;rotate_left
 ·rename_i a;exact RG.no1 (by unfold RG.c1;rw[decide_eq_false a];rfl)
 rename_i a1;split;rotate_left
 ·rename_i a;exact RG.no2 (by unfold RG.c2;rw[decide_eq_false a];rfl)
 rename_i a2;split;rotate_left
 ·rename_i a;exact RG.no3 (by unfold RG.c3;rw[decide_eq_false a];rfl)
 rename_i a3;split
 ·rename_i a;exact RG.no4 (by unfold RG.c4;rw[decide_eq_false ω];rfl)
 rename_i a4;refine aH aD (α:=Nat) (λk=>[(1,.ptr 0 0 4 0),(3,.i k)]) (λ_=>g.box) 1 (λk=>k<=g.nr/\∀j,j<k->(g.r j).good=true) (λk=>g.nr - k) 0 (λ_=>rfl) τ ζ ζ ?_;intro k J hi;simp[go_sem];split
 ·rename_i hlt;refine⟨hlt,?_⟩;refine aA (validRule113 (g.r k)) rfl rfl ?_;simp[go_sem];split
  ·rename_i hg;exact⟨ω,k+1,⟨ω,dO hi.2 hg⟩,ω,τ⟩
  ·rename_i hg;exact RG.n1 hlt hg
 rename_i hge;have r1:∀j,j<g.nr->(g.r j).good=true:=λj hj=>hi.2 j ω;clear hi;refine aH aD (α:=Nat) (λk=>[(1,.ptr 0 0 4 0),(4,.i k)]) (λ_=>g.box) 1 (λk=>k<=g.nc/\(∀j,j<k->(g.c j).good=true)/\∀j,j+1<k->(g.c j).lt (g.c (j+1))=true) (λk=>g.nc - k) 0 (λ_=>rfl) τ ζ ζ ?_;intro k J hi;simp[go_sem];split
 ·rename_i hlt;refine⟨hlt,?_⟩;refine aE aD κ κ ?_;by_cases hg:(g.c k).good=true
  ·have hv:=(iT (g.c k)).val (v':=.b true) (by rw[hg]);rcases k with _ | k
   ·simp[go_sem];refine⟨_,aB hv rfl rfl,?_⟩;simp[go_sem];exact⟨1,⟨ω,λj hj=>by rw[lt1 hj];exact hg,λj hj=>ω⟩,ω,rfl⟩
   ·simp[go_sem];refine⟨_,aB hv rfl rfl,?_⟩;simp[go_sem];refine⟨ω,ω,ω,ω,?_⟩;by_cases hl:(g.c k).lt (g.c (k+1))=true
    ·refine⟨_,aB ((jJ (g.c k).p (g.c k).q (g.c (k+1)).p (g.c (k+1)).q).val (v':=.b true) (by rw[<- hl];rfl)) rfl rfl,?_⟩;simp[go_sem];refine⟨ω,k+2,⟨ω,dO hi.2.1 hg,λj hj=>?_⟩,ω,ω⟩;by_cases hjk:j=k
     ·subst hjk;exact hl
     ·exact hi.2.2 j ω
    ·refine⟨_,aB ((jJ (g.c k).p (g.c k).q (g.c (k+1)).p (g.c (k+1)).q).val (v':=.b false) (by simp at hl;rw[<- hl];rfl)) rfl rfl,?_⟩;simp[go_sem];exact RG.n5 hlt hl
  ·have hv:=(iT (g.c k)).val (v':=.b false) (by simp at hg;rw[hg]);simp[go_sem];refine⟨_,aB hv rfl rfl,?_⟩;simp[go_sem];exact RG.n2 hlt hg
 rename_i hge2;have r2:∀j,j<g.nc->(g.c j).good=true:=λj hj=>hi.2.1 j ω;have r5:∀j,j+1<g.nc->(g.c j).lt (g.c (j+1))=true:=λj hj=>hi.2.2 j ω;clear hi;refine aH aD (α:=Nat) (λk=>[(1,.ptr 0 0 4 0),(6,.i k)]) (λ_=>g.box) 1 (λk=>k<=g.nw/\∀j,j<k->(g.w j).good=true) (λk=>g.nw - k) 0 (λ_=>rfl) τ ζ ζ ?_;intro k J hi;simp[go_sem];split
 ·rename_i hlt;refine⟨hlt,?_⟩;refine aA (validWarrant114 (g.w k)) rfl rfl ?_;simp[go_sem];split
  ·rename_i hg;exact⟨ω,k+1,⟨ω,dO hi.2 hg⟩,ω,τ⟩
  ·rename_i hg;exact RG.n3 hlt hg
 rename_i hge3;have r3:∀j,j<g.nw->(g.w j).good=true:=λj hj=>hi.2 j ω;clear hi;refine aH aD (α:=Nat) (λk=>[(1,.ptr 0 0 4 0),(7,.i k)]) (λ_=>g.box) 1 (λk=>k<=g.nm/\(∀j,j<k->(g.m j).good=true)/\∀j,j+1<k->(g.m j).lt (g.m (j+1))=true) (λk=>g.nm - k) 0 (λ_=>rfl) τ ζ ζ ?_;intro k J hi;simp[go_sem];split
 ·rename_i hlt;refine⟨hlt,?_⟩;refine aE aD κ κ ?_;by_cases hg:(g.m k).good=true
  ·have hv:=(nO (g.m k)).val (v':=.b true) (by rw[hg]);rcases k with _ | k
   ·simp[go_sem];refine⟨_,aB hv rfl rfl,?_⟩;simp[go_sem];exact⟨1,⟨ω,λj hj=>by rw[lt1 hj];exact hg,λj hj=>ω⟩,ω,rfl⟩
   ·simp[go_sem];refine⟨_,aB hv rfl rfl,?_⟩;simp[go_sem];refine⟨ω,ω,ω,ω,?_⟩;by_cases hl:(g.m k).lt (g.m (k+1))=true
    ·refine⟨_,aB ((jJ (g.m k).l (g.m k).p (g.m (k+1)).l (g.m (k+1)).p).val (v':=.b true) (by rw[<- hl];rfl)) rfl rfl,?_⟩;simp[go_sem];refine⟨ω,k+2,⟨ω,dO hi.2.1 hg,λj hj=>?_⟩,ω,ω⟩;by_cases hjk:j=k
     ·subst hjk;exact hl
     ·exact hi.2.2 j ω
    ·refine⟨_,aB ((jJ (g.m k).l (g.m k).p (g.m (k+1)).l (g.m (k+1)).p).val (v':=.b false) (by simp at hl;rw[<- hl];rfl)) rfl rfl,?_⟩;simp[go_sem];exact RG.n6 hlt hl
  ·have hv:=(nO (g.m k)).val (v':=.b false) (by simp at hg;rw[hg]);simp[go_sem];refine⟨_,aB hv rfl rfl,?_⟩;simp[go_sem];exact RG.n4 hlt hg
 rename_i hge4;have r4:∀j,j<g.nm->(g.m j).good=true:=λj hj=>hi.2.1 j ω;have r6:∀j,j+1<g.nm->(g.m j).lt (g.m (j+1))=true:=λj hj=>hi.2.2 j ω;have e1:g.c1=true:=by unfold RG.c1;rw[decide_eq_true a1,cE r1];rfl
 have e2:g.c2=true:=by unfold RG.c2;rw[decide_eq_true a2,cE r2];rfl
 have e3:g.c3=true:=by unfold RG.c3;rw[decide_eq_true a3,cE r3];rfl
 have e4:g.c4=true:=by unfold RG.c4;rw[decide_eq_true ω,cE r4];rfl
 have e5:g.c5=true:=by unfold RG.c5;exact cE λj hj=>r5 j ω
 have e6:g.c6=true:=by unfold RG.c6;exact cE λj hj=>r6 j ω
 simp[RG.valid,e1,e2,e3,e4,e5,e6]
end Go.Gx.Rg
namespace Go.Gx.Sr
open Go.RowKit Go.Proofs Go.Proofs.YtncccnmmjfapnaaGreat Go.Gx.Ix
theorem aGo {l:List ChG} {k:Nat} (h:k<l.length) (hn:l[k].ok=false):eS l=false:=by
 cases hc:eS l
 ·rfl
 ·have:=(fE.1 hc).2.1 l[k] (List.getElem_mem h);rw[hn] at this;cases this
theorem aPd {l:List ChG} {k:Nat} (h:k+1<l.length) (hn:l[k+1].t<l[k].t):eS l=false:=by
 cases hc:eS l
 ·rfl
 ·have:=oW.1 (aEq.2 (fE.1 hc).2.2) k h;omega
theorem aP4 (l:List ChG) (hn:l.length<1000000):Pure Tryz.prog 177 [pZ l] (· =.b (eS l)):=by
 obtain⟨c,hc⟩:∃c,eS l=c:=⟨_,rfl⟩;rw[hc];refine π Tryz.func177 ?_;simp[go_sem];by_cases h60:(60:Int)<l.length
 ·have:eS l=false:=by
   cases h:eS l
   ·rfl
   ·have:=(fE.1 h).1;omega
  rw[this] at hc;subst hc;simp[go_sem,h60]
 simp[go_sem,h60];refine aH aD (α:=Nat) (λk=>[(0,pZ l),(3,.i k)]) (λ_=>[]) 0 (λk=>k<=l.length/\(∀j (h:j<l.length),j<k->l[j].ok=true)/\∀j (h:j+1<l.length),j+1<k->l[j].t<=l[j+1].t) (λk=>l.length - k) 0 (λ_=>rfl) τ ζ ζ ?_;intro k J hi;by_cases hlt:k<l.length;rotate_left
 ·have:eS l=true:=fE.2 ⟨ω,λc hc=>by
   obtain⟨i,h,rfl⟩:=List.getElem_of_mem hc;exact hi.2.1 i h ω,aEq.1 (oW.2 λi h=>hi.2.2 i h ω)⟩
  rw[this] at hc;subst hc;simp[go_sem,hlt]
 have q:=aJ (f:=ChG.f) hlt;simp[go_sem,hlt];refine aE aD κ κ ?_
 cases h1:oF l[k].t
 ·have hv:=(nG l[k].t).val (v':=.b false) (by rw[h1]);have:eS l=false:=aGo hlt (by unfold ChG.ok;rw[h1];rfl);rw[this] at hc;subst hc;simp[go_sem,hlt,q]
  first | refine⟨_,aB hv rfl rfl,?_⟩ | refine⟨ω,_,aB hv rfl rfl,?_⟩ | refine⟨⟨ω,ω⟩,_,aB hv rfl rfl,?_⟩ | refine⟨⟨ω,ω⟩,ω,_,aB hv rfl rfl,?_⟩
  simp[go_sem,hlt,q]
 have hv:=(nG l[k].t).val (v':=.b true) (by rw[h1])
 cases h2:psB l[k].p
 ·have hw:=(uG l[k].p).val (v':=.b false) (by rw[h2]);have:eS l=false:=aGo hlt (by unfold ChG.ok;rw[h1,h2];rfl);rw[this] at hc;subst hc;simp[go_sem,hlt,q]
  first | refine⟨_,aB hv rfl rfl,?_⟩ | refine⟨ω,_,aB hv rfl rfl,?_⟩ | refine⟨⟨ω,ω⟩,_,aB hv rfl rfl,?_⟩ | refine⟨⟨ω,ω⟩,ω,_,aB hv rfl rfl,?_⟩
  simp[go_sem,hlt,q]
  first | refine⟨_,aB hw rfl rfl,?_⟩ | refine⟨ω,_,aB hw rfl rfl,?_⟩ | refine⟨⟨ω,ω⟩,_,aB hw rfl rfl,?_⟩ | refine⟨⟨ω,ω⟩,ω,_,aB hw rfl rfl,?_⟩
  simp[go_sem,hlt,q]
 have hw:=(uG l[k].p).val (v':=.b true) (by rw[h2]);have hok:l[k].ok=true:=by unfold ChG.ok;rw[h1,h2];rfl
 have hstep:∀j (h:j<l.length),j<k+1->l[j].ok=true:=λj h hj=>by
  by_cases e:j=k
  ·subst e;exact hok
  ·exact hi.2.1 j h ω
 rcases k with _ | k
 ·simp[go_sem,hlt,q]
  first | refine⟨_,aB hv rfl rfl,?_⟩ | refine⟨ω,_,aB hv rfl rfl,?_⟩ | refine⟨⟨ω,ω⟩,_,aB hv rfl rfl,?_⟩ | refine⟨⟨ω,ω⟩,ω,_,aB hv rfl rfl,?_⟩
  simp[go_sem,hlt,q]
  first | refine⟨_,aB hw rfl rfl,?_⟩ | refine⟨ω,_,aB hw rfl rfl,?_⟩ | refine⟨⟨ω,ω⟩,_,aB hw rfl rfl,?_⟩ | refine⟨⟨ω,ω⟩,ω,_,aB hw rfl rfl,?_⟩
  simp[go_sem,hlt,q];exact⟨1,⟨ω,hstep,λj h hj=>ω⟩,ω,rfl⟩
 have q':=aJ (f:=ChG.f) (show k<l.length by omega);simp[go_sem,hlt,q]
 first | refine⟨_,aB hv rfl rfl,?_⟩ | refine⟨ω,_,aB hv rfl rfl,?_⟩ | refine⟨⟨ω,ω⟩,_,aB hv rfl rfl,?_⟩ | refine⟨⟨ω,ω⟩,ω,_,aB hv rfl rfl,?_⟩
 simp[go_sem,hlt,q]
 first | refine⟨_,aB hw rfl rfl,?_⟩ | refine⟨ω,_,aB hw rfl rfl,?_⟩ | refine⟨⟨ω,ω⟩,_,aB hw rfl rfl,?_⟩ | refine⟨⟨ω,ω⟩,ω,_,aB hw rfl rfl,?_⟩
 simp[go_sem,hlt,q,q'];refine⟨⟨ω,ω⟩,ω,ω,?_⟩;by_cases ht:l[k+1].t<l[k].t
 ·rw[if_pos ht,<- hc];exact aPd hlt ht
 ·rw[if_neg ht];exact⟨⟨ω,ω⟩,k+2,⟨ω,hstep,λj h hj=>by
   by_cases e:j=k
   ·subst e;omega
   ·exact hi.2.2 j h ω⟩,ω,ω⟩
theorem aVc {l:List EnG} {k:Nat} (h:k<l.length) (hn:(rX l k).stp l[k]=false):fR l=false:=by
 unfold fR;rw[aTn h (by rw[aAj h];exact hn),Bool.and_false]
theorem zE (l:List EnG) (hn:l.length<1000000):Pure Tryz.prog 178 [tL l] (· =.b (fR l)):=by
 obtain⟨c,hc⟩:∃c,fR l=c:=⟨_,rfl⟩;rw[hc];refine π Tryz.func178 ?_;simp[go_sem];by_cases h60:(60:Int)<l.length
 ·have:fR l=false:=by
   unfold fR;rw[decide_eq_false ω];rfl
  rw[this] at hc;subst hc;simp[go_sem,h60]
 simp[go_sem,h60];refine aH aD (α:=Nat) (λk=>[(0,tL l),(3,.w (rX l k).l),(4,.i k)]) (λ_=>[]) 0 (λk=>k<=l.length/\∀j,j<k->aAo l j=true) (λk=>l.length - k) 0 (λ_=>rfl) τ (by simp[go_sem,rX,EnG.zero]) ζ ?_;intro k J hi;by_cases hlt:k<l.length;rotate_left
 ·have:fR l=true:=by
   unfold fR;rw[aL3 hi.2 ω,decide_eq_true ω];rfl
  rw[this] at hc;subst hc;simp[go_sem,hlt]
 have q:=aJ (f:=EnG.f) hlt;have hno:(rX l k).stp l[k]=false->c=false:=λh=>by rw[<- hc];exact aVc hlt h
 have hstep:(rX l k).stp l[k]=true->∀j,j<k+1->aAo l j=true:=λh j hj=>by
  by_cases e:j=k
  ·subst e;rw[aAj hlt];exact h
  ·exact hi.2 j ω
 obtain⟨P,hP⟩:∃P,rX l k=P:=⟨_,rfl⟩;have hps:rX l (k+1)=l[k]:=yC hlt;rw[hP] at hno hstep;simp only [hP];have hs:P.stp l[k]=(l[k].fit&&decide (P.t<=l[k].t)&&decide (l[k].l=l[k].lnk P.l)):=rfl;simp[go_sem,hlt];refine aE aD κ κ ?_
 cases h1:l[k].fit
 ·have hv:=(aCr l[k]).val (v':=.b false) (by rw[h1]);have:=hno (by rw[hs,h1];rfl);subst this;simp[go_sem,hlt,q]
  first | refine⟨_,aB hv rfl rfl,?_⟩ | refine⟨ω,_,aB hv rfl rfl,?_⟩ | refine⟨⟨ω,ω⟩,_,aB hv rfl rfl,?_⟩ | refine⟨⟨ω,ω⟩,ω,_,aB hv rfl rfl,?_⟩
  simp[go_sem,hlt,q]
 have hv:=(aCr l[k]).val (v':=.b true) (by rw[h1]);rcases k with _ | k
 ·simp[go_sem,hlt,q]
  first | refine⟨_,aB hv rfl rfl,?_⟩ | refine⟨ω,_,aB hv rfl rfl,?_⟩ | refine⟨⟨ω,ω⟩,_,aB hv rfl rfl,?_⟩ | refine⟨⟨ω,ω⟩,ω,_,aB hv rfl rfl,?_⟩
  simp[go_sem,hlt,q];have hPt:P.t<=l[0].t:=by
   have e:P.t=0:=by rw[<- hP];rfl
   have h2:=h1;unfold EnG.fit EnG.rng at h2;simp only [Bool.and_eq_true,Ix.btw,decide_eq_true_eq] at h2;omega
  refine aA (tX P.l l[0]) rfl rfl ?_;by_cases hl:l[0].l=l[0].lnk P.l
  ·have hst:P.stp l[0]=true:=by rw[hs,h1,decide_eq_true hPt,decide_eq_true hl];rfl
   simp[go_sem,hlt,q,hl];exact⟨1,⟨ω,hstep hst⟩,ω,by rw[show rX l 1=l[0] from hps,hl],rfl⟩
  ·have hl':¬l[0].l.toNat=(l[0].lnk P.l).toNat:=λe=>hl (BitVec.eq_of_toNat_eq e);have:=hno (by rw[hs,decide_eq_false hl,Bool.and_false]);subst this;simp[go_sem,hlt,q,hl'];exact λe=>absurd (Int.ofNat_inj.1 e) hl'
 have q':=aJ (f:=EnG.f) (show k<l.length by omega);simp[go_sem,hlt,q]
 first | refine⟨_,aB hv rfl rfl,?_⟩ | refine⟨ω,_,aB hv rfl rfl,?_⟩ | refine⟨⟨ω,ω⟩,_,aB hv rfl rfl,?_⟩ | refine⟨⟨ω,ω⟩,ω,_,aB hv rfl rfl,?_⟩
 simp[go_sem,hlt,q,q'];refine⟨⟨ω,ω⟩,ω,ω,?_⟩;have hPe:P=l[k]:=by rw[<- hP];exact yC ω
 by_cases ht:l[k+1].t<l[k].t
 ·rw[if_pos ht];exact hno (by rw[hs,hPe,decide_eq_false (ω:¬l[k].t<=l[k+1].t),Bool.and_false,Bool.false_and])
 rw[if_neg ht];have hPt:P.t<=l[k+1].t:=by rw[hPe];omega
 refine⟨⟨ω,ω⟩,?_⟩;refine aA (tX P.l l[k+1]) rfl rfl ?_;by_cases hl:l[k+1].l=l[k+1].lnk P.l
 ·have hst:P.stp l[k+1]=true:=by rw[hs,h1,decide_eq_true hPt,decide_eq_true hl];rfl
  simp[go_sem,hlt,q,hl];exact⟨⟨ω,ω⟩,⟨ω,ω⟩,k+1+1,⟨ω,hstep hst⟩,ω,by rw[hps,hl],ω⟩
 ·have hl':¬l[k+1].l.toNat=(l[k+1].lnk P.l).toNat:=λe=>hl (BitVec.eq_of_toNat_eq e);have:=hno (by rw[hs,decide_eq_false hl,Bool.and_false]);subst this;simp[go_sem,hlt,q,hl'];exact⟨⟨ω,ω⟩,λe=>absurd (Int.ofNat_inj.1 e) hl'⟩
end Go.Gx.Sr
