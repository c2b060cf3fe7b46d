/-
 Texts of the walk, merged: Kz.
-/
import Derived.Test.YtncccnmmjfapnaaGreatZao
set_option linter.unusedVariables false
set_option linter.unusedSimpArgs false
set_option maxRecDepth 100000
set_option maxHeartbeats 4000000
namespace Go.Gx
open Go.RowKit
section
variable {σ:Sig} {Z:Nat->Prop} {w:World} {m:Nat}
theorem RV.rel_fgt0 (x:RV) (y:Value) (h:x.rel Z w y):(x.fgt m).rel Z w y:=by
 unfold RV.fgt;split
 ·exact h
 ·exact h
 ·split
  ·exact h
  ·trivial
 ·obtain⟨A,c,e,hc,hn⟩:=h;refine⟨A,c,e,hc,λh0=>?_⟩;obtain⟨b,o,ha,hb,hg⟩:=hn h0;refine⟨b,o,ha,hb,λi j hi hj=>?_⟩;obtain⟨v,h1,h2,_⟩:=hg i j hi hj;exact⟨v,h1,h2,trivial⟩
 ·obtain⟨b,o,e,hb,hg⟩:=h;refine⟨b,o,e,hb,λi j hi hj=>?_⟩;obtain⟨v,h1,h2,_⟩:=hg i j hi hj;exact⟨v,h1,h2,trivial⟩
 ·trivial
mutual
theorem SV.rel_fgt0:∀(s:SV) (y:Value),s.rel σ Z w y->(s.fgt m).rel σ Z w y
 | .r x,y,hx=>RV.rel_fgt0 x y hx
 | .ptr ..,y,hx=>hx
 | .sl ..,y,hx=>hx
 | .mp ..,y,hx=>hx
 | .fn f fi ca,y,hx=>by
   obtain⟨vs,ws,e,h1,h2⟩:=hx;exact⟨vs,ws,e,SV.relL_fgt0 _ _ h1,SV.relL_fgt0 _ _ h2⟩
 | .agg l,y,hx=>by
   obtain⟨vs,e,h1,h2⟩:=hx;exact⟨vs,e,h1,SV.relL_fgt0 _ _ h2⟩
 | .tup l,y,hx=>by
   obtain⟨vs,e,h2⟩:=hx;exact⟨vs,e,SV.relL_fgt0 _ _ h2⟩
theorem SV.relL_fgt0:∀(l:List SV) (ys:List Value),SV.relL σ Z w l ys->SV.relL σ Z w (SV.fgtL m l) ys
 | [],ys,hx=>hx
 | s::l,ys,hx=>by
   obtain⟨v,vs,e,h1,h2⟩:=hx;exact⟨v,vs,e,SV.rel_fgt0 _ _ h1,SV.relL_fgt0 _ _ h2⟩
end
end
theorem aQm {h:Bool} {m:Nat} {E:Env} {x:Operand} {y:RV} (hx:ev E x=.r (.tg h m y)):ev (aAz h m E) x=.r y:=by
 cases x with
 | tmp t=>
   have hx:E t=.r (.tg h m y):=hx;simp[ev,aAz,hx]
 | _=>simp[ev] at hx
theorem aVl {h:Bool} {m:Nat} {E:Env} {x:Operand} {z:Value} (hx:ev E x=.r (.v z)):ev (aAz h m E) x=.r (.v z):=by
 cases x with
 | tmp t=>
   have hx:E t=.r (.v z):=hx;simp[ev,aAz,hx]
 | const v=>exact hx
 | _=>simp[ev] at hx
section
variable {P:Program} {T:Tab} {N:cZ} {E:Env} {M:Mem} {nx:Nat}
theorem jL (hT:aX P T) {K:Env->Mem->Nat->Prop} {d:Option Tmp} {t ty e:TypeId} {pos:String} {af:Array Edge} {x i:Operand} {m n k:Nat} {i1 i2:Nat} {i3:List ZK} {ei:TI} {get:Nat->Nat->RV} {kk:IntKind} {ix:Int}
 (hti:T.ti t=some ⟨i1,i2,i3,.slice e⟩) (hte:T.ti e=some ei) (hx:ev E x=.r (.tg true m (.rs k n get))) (hi:ev E i=.r (.v (.int kk ix))) (hk:ei.size=k) (h0:0<=ix) (hn:ix<n) (hd:dC N.n d)
 (h:K (aK E d (.r (.tg true m (.rp k n get ix.toNat 0)))) M nx):qZ P N ⟨d,.indexAddr t x i,ty,pos,af,none⟩ E M nx K:=by
 refine aOt hT true m (ob:=ei.size=k/\0<=ix/\ix<n) (s:=.r (.rp k n get ix.toNat 0)) ?_ ⟨hk,h0,hn⟩ hd rfl h;show mO T t (ev (aAz true m E) x) (ev (aAz true m E) i)=_;rw[aQm hx,aVl hi];simp[mO,hti,hte]
theorem jK (hT:aX P T) {K:Env->Mem->Nat->Prop} {d:Option Tmp} {t ty:TypeId} {pos:String} {af:Array Edge} {x:Operand} {f m n k row fld o s:Nat} {g:Bool} {i1 i2:Nat} {i3:List ZK} {fs:List (Nat × Nat × Bool)} {get:Nat->Nat->RV}
 (hti:T.ti t=some ⟨i1,i2,i3,.struct fs⟩) (hf:fs[f]? =some (o,s,g)) (hx:ev E x=.r (.tg true m (.rp k n get row fld))) (hs:s≠0) (hd:dC N.n d)
 (h:K (aK E d (.r (.tg true m (.rp k n get row (fld+o))))) M nx):qZ P N ⟨d,.fieldAddr t x f,ty,pos,af,none⟩ E M nx K:=by
 refine aOt hT true m (ob:=s≠0) (s:=.r (.rp k n get row (fld+o))) ?_ hs hd rfl h;show gE T t (ev (aAz true m E) x) f=_;rw[aQm hx];simp[gE,hti,hf]
end
theorem GSt.box {N:cZ} {E:Env} {M:Mem} {nx:Nat} (p:Nat) {l l':List SV} (hM:M p=some (.box l)) (h:∀(σ:Sig) (Z:Nat->Prop) (w:World) (ys:List Value),SV.relL σ Z w l ys->SV.relL σ Z w l' ys):GSt N E M nx E (bH M p (some (.box l'))) nx:=by
 intro B W w0 σ a w hs;have hdom:∀r R,bH M p (some (.box l')) r=some R->∃R1,M r=some R1/\(r≠p->R=R1):=λr R hr=>by
  by_cases e:r=p
  ·subst e;exact⟨_,hM,λh=>absurd rfl h⟩
  ·rw[aW _ _ e] at hr;exact⟨R,hr,λ_=>rfl⟩
 have hz:∀b,Zof B σ M w b->Zof B σ (bH M p (some (.box l'))) w b:=λb hb=>⟨hb.1,λr R L h1 h2 h3=>by
  obtain⟨R1,e1,_⟩:=hdom r R h1;exact hb.2 r R1 L e1 h2 h3⟩
 have hk:bZ (Zof B σ M w) (Zof B σ (bH M p (some (.box l'))) w) w w:=λb hb=>⟨hz b hb,rfl⟩;refine⟨σ,λt=>SV.rel_mono (λ_ _ h=>h) hk _ _ (hs.env t),⟨hs.mem.newB,hs.mem.fresh,λr R hr=>?_,λr r' R R' L L' b h1 h2 h3 h4 h5 h6=>?_,λr R L b h1 h2 h3=>?_⟩,hs.fr,hs.defers.keep hk,hs.size,hs.low,hs.pin,hs.good⟩
 ·by_cases e:r=p
  ·subst e;rw[aZ] at hr;cases hr;obtain⟨L,g1,b',cs,ty,q1,q2,q3,q4⟩:=hs.mem.reg r _ hM;exact⟨L,g1,b',cs,ty,q1,q2,q3,SV.relL_mono (λ_ _ h=>h) hk _ _ (h _ _ _ _ q4)⟩
  ·rw[aW _ _ e] at hr;obtain⟨L,g1,g2⟩:=hs.mem.reg r R hr;exact⟨L,g1,g2.mono (λ_ _ h=>h) hk λb hb=>rfl⟩
 ·obtain⟨R1,e1,_⟩:=hdom r R h1;obtain⟨R2,e2,_⟩:=hdom r' R' h2;exact hs.mem.inj r r' R1 R2 L L' b e1 e2 h3 h4 h5 h6
 ·obtain⟨R1,e1,_⟩:=hdom r R h1;exact hs.mem.own r R1 L b e1 h2 h3
theorem aL5 {P:Program} {N:cZ} {f:FuncId} {args:List SV} {M:Mem} {nx:Nat} {K:SV->Mem->Nat->(SV->SV)->Prop} (q:Nat) {R:Reg} (R':Reg) (hM:M q=some R) (hw:Reg.wk (some R) (some R')) (h:dV P N f args (bH M q (some R')) nx K):dV P N f args M nx K:=by
 refine xD (λr=>?_) h;unfold bH;by_cases e:r=q
 ·subst e;rw[if_pos rfl,hM];exact hw
 ·rw[if_neg e];exact Or.inl (Reg.sub_rfl _)
theorem RV.nil_tag {h:Bool} {m k:Nat} {g:Nat->Nat->RV} {Z:Nat->Prop} {w:World} {y:Value} (hy:(RV.v (.slice none 0 0)).rel Z w y):(RV.tg h m (.rs k 0 g)).rel Z w y:=by
 have hy:y=.slice none 0 0:=hy;subst hy;exact⟨none,0,rfl,Nat.le_refl _,λh=>absurd h (Nat.lt_irrefl 0)⟩
end Go.Gx
namespace Go.Gx
open Go.RowKit Go.WideShapes Go.ChangeShapes Go.Deep
variable {H:Type} {enc:TypeId × Value->H} {P:Program} {w:World} {base:Nat} {spare:Nat->Bool} {held:Bool}
theorem aAq {f:FuncId} {fn:Func} {s:ChangeSpec} {ts:List TypeId} {tb:TypeId} (hl:laidOutB P=true) (hts:fn.params.toList=ts) (hrec:∀t∈ts,P.readableRec t=true/\t<P.types.size)
 (hres:fn.resultTypes=#[tb]) (htb:P.underlying tb=some .bool) (hv:s.vars=[]) (hs:∀ds:List (DataW H),ds.length=ts.length->s.fn H (ds++[])={results:=[.lit (.bool true)],args:=ds})
 (K:∀(W:World) (vs:List Value),(∃base,∀(j:Nat) t v,ts[j]? =some t->vs[j]? =some v->Value.okWide P W .any base t v)->(∃ds p,DataW.TrodAll enc P W 0 (λ_=>true) true ts vs ds p)->
   ∃l,SV.relL (λ_=>none) (λb=>b<W.heap.size) W l vs/\PureK P f l (· =.b true)) :
 ∀(W:World) (base:Nat) (args:Array Value) (ds gs:List (DataW H)) (before:List MemPlace),(∀(j:Nat) t v,fn.params[j]? =some t->args[j]? =some v->Value.okWide P W .any base t v)->
  DataW.Whole enc P fn.params.toList s.vars false W args.toList ds gs before->Calls P f args W λe W'=>∃v,e=.returned v/\s.post enc P fn false true false false W args v W':=by
 intro W base args ds gs before hval hW;have hW0:=hW;obtain⟨p,q,hA,hV,rfl,hfz,hnd⟩:=hW;rw[hv] at hV;obtain⟨rfl,rfl⟩:=trodVars_none hV;rw[hts] at hA;simp only [List.append_nil] at hW0;obtain⟨l,hrel,hp⟩:=K W args.toList ⟨base,λj t v h1 h2=>hval j t v (by rw[<- Array.getElem?_toList,hts];exact h1) (by rw[<- Array.getElem?_toList];exact h2)⟩ ⟨ds,p,hA⟩;obtain⟨_,hc⟩:=hp (λb=>b<W.heap.size) W args.toList (λb hb=>hb) hrel;refine hc.mono λe W' h=>?_;obtain⟨y,s',rfl,rfl,hr,hf⟩:=h;have hy:y=.bool true:=hr;subst hy;exact⟨_,rfl,aSv hl hts hrec hres htb hv (hs ds (vN hA)) hW0 ⟨hf.os,hf.tape,hf.output,hf.size,λb hb=>hf.block b hb λh=>h⟩⟩
end Go.Gx
