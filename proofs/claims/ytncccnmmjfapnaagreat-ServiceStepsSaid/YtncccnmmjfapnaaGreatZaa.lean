/-
 Texts of the walk, merged: K1.
-/
import Derived.WalkKit
import Derived.WalkSpells
import Derived.Deep.Draws
import Derived.Maps.AppendAt
set_option linter.unusedVariables false
set_option linter.unusedSimpArgs false
set_option maxRecDepth 100000
set_option maxHeartbeats 4000000
theorem κ {p:Prop} (h:p:=by kernel_rfl):p:=h
theorem ω {p:Prop} (h:p:=by omega):p:=h
theorem ζ {p:Prop} (h:p:=by simp[go_sem]):p:=h
theorem ξ {p:Prop} (h:p:=by simp[go_sem];rfl):p:=h
theorem τ {p:Prop} (h:p:=by simp):p:=h
theorem δ {p:Prop} (h:p:=by decide):p:=h
theorem ι {p:Prop} (h:p:=by simp;omega):p:=h
theorem η {p:Prop} (h:p:=by trivial):p:=h
theorem ν {n m:Nat} (h:Nat.ble n m=true:=by exact rfl):n<=m:=Nat.le_of_ble_eq_true h
namespace Go.Gx
open Go.RowKit
inductive RV where
 | any
 | v (x:Value)
 | bx (φ:Bool->Prop)
 | rs (k n:Nat) (get:Nat->Nat->RV)
 | rf (k n:Nat) (get:Nat->Nat->RV)
 | rp (k n:Nat) (get:Nat->Nat->RV) (row fld:Nat)
 | fn (f:Fn) (nf nc:Nat) (fi ca:Nat->RV)
 | mp (has:Int->Bool) (val:Int->RV)
 | tg (h:Bool) (m:Nat) (x:RV)
def tgc (h:Bool) (m:Nat) (w:World) (b:Nat):Prop:=if h=true then m<=b/\∀c t fr,w.heap[b]? =some (Obj.cells c t fr)->fr=(0,0) else b<m
theorem aTn {h:Bool} {m b:Nat} {w w':World} (e:w'.heap[b]? =w.heap[b]?) (k:tgc h m w b):tgc h m w' b:=by
 unfold tgc at *;rw[e];exact k
inductive SV where
 | r (x:RV)
 | ptr (ref row k fld:Nat)
 | sl (ref k lo n:Nat) (cap:Option Nat)
 | mp (ref:Nat)
 | fn (f:Fn) (fi ca:List SV)
 | agg (l:List SV)
 | tup (l:List SV)
inductive Reg where
 | box (l:List SV)
 | vec (e:TypeId) (k n:Nat) (get:Nat->Nat->SV)
 | map (has:Int->Bool) (val:Int->SV) (st:Option ((Int->Nat) × Nat))
 | iter (m:SV) (st:Int->Nat) (ck:Nat) (all left:Int->Bool) (la:Option Int)
abbrev Mem:=Nat->Option Reg
abbrev Env:=Nat->SV
structure rY where
 at_:Option Nat
 cap:Nat
abbrev Sig:=Nat->Option rY
abbrev SV.i (n:Int):SV:=.r (.v (.int .i64 n))
abbrev SV.b (t:Bool):SV:=.r (.v (.bool t))
abbrev RV.i (n:Int):RV:=.v (.int .i64 n)
def MapOf (has:Int->Bool) (R:Int->Value->Prop) (es:List MapEntry) (ck:Nat):Prop:=
 (∀e∈es,∃a,e.key=.int .i64 a/\has a=true/\e.val.oneCell'=true/\R a e.val)/\(∀a,has a=true->∃e∈es,e.key=.int .i64 a)/\
 es.Pairwise (λx y=>x.key≠y.key/\x.born≠y.born)/\∀e∈es,e.born<ck
theorem MapOf.mono {has:Int->Bool} {R R':Int->Value->Prop} {es:List MapEntry} {ck:Nat} (h:MapOf has R es ck) (hr:∀a v,has a=true->R a v->R' a v):MapOf has R' es ck:=
 ⟨λe he=>let ⟨a,h1,h2,h3,h4⟩:=h.1 e he;⟨a,h1,h2,h3,hr a _ h2 h4⟩,h.2⟩
def RV.rel (Z:Nat->Prop) (w:World):RV->Value->Prop
 | .any,_=>True
 | .v x,y=>y=x
 | .bx φ,y=>∃b,φ b/\y=.bool b
 | .rs k n get,y=>∃A c,y=.slice A n c/\n<=c/\(0<n->∃b o,A=some ⟨b,o,none⟩/\Z b/\∀i j,i<n->j<k->
   ∃v,w.cell? ⟨b,o+(i*k+j),none⟩=some v/\v.oneCell'=true/\(get i j).rel Z w v)
 | .rf k n get,y=>∃A,y=.slice A n n/\(0<n->∃b o,A=some ⟨b,o,none⟩/\Z b/\∀i j,i<n->j<k->
   ∃v,w.cell? ⟨b,o+(i*k+j),none⟩=some v/\v.oneCell'=true/\(get i j).rel Z w v)
 | .rp k n get row fld,y=>∃b o,y=.pointer (some ⟨b,o+(row*k+fld),none⟩)/\Z b/\∀i j,i<n->j<k->
   ∃v,w.cell? ⟨b,o+(i*k+j),none⟩=some v/\v.oneCell'=true/\(get i j).rel Z w v
 | .fn f nf nc fi ca,y=>∃vs ws:List Value,y=.func f vs.toArray ws.toArray/\vs.length=nf/\ws.length=nc/\
   (∀i v,vs[i]? =some v->(fi i).rel Z w v)/\(∀i v,ws[i]? =some v->(ca i).rel Z w v)
 | .mp has val,y=>∃(b:Nat) (es:Array MapEntry) (ck:Nat),y=.map (some b)/\Z b/\w.heap[b]? =some (.map es ck)/\MapOf has (λa v=>(val a).rel Z w v) es.toList ck
 | .tg h m x,y=>x.rel (λb=>Z b/\tgc h m w b) w y
mutual
def SV.rel (σ:Sig) (Z:Nat->Prop) (w:World):SV->Value->Prop
 | .r x,y=>x.rel Z w y
 | .ptr ref row k fld,y=>∃L b,σ ref=some L/\L.at_=some b/\y=.pointer (some ⟨b,row*k+fld,none⟩)
 | .sl ref k lo n cap,y=>∃L A,σ ref=some L/\y=.slice A n (cap.getD (L.cap - lo))/\n<=cap.getD (L.cap - lo)/\lo+cap.getD (L.cap - lo)<=L.cap/\
   (0<cap.getD (L.cap - lo)->∃b,L.at_=some b/\A=some ⟨b,lo*k,none⟩)/\(lo=0->L.cap=0\/A=L.at_.map λb=>⟨b,0,none⟩)
 | .mp ref,y=>∃L b,σ ref=some L/\L.at_=some b/\y=.map (some b)
 | .fn f fi ca,y=>∃vs ws:List Value,y=.func f vs.toArray ws.toArray/\SV.relL σ Z w fi vs/\SV.relL σ Z w ca ws
 | .agg l,y=>∃vs:List Value,y=.agg vs.toArray/\(∀v∈vs,v.oneCell'=true)/\SV.relL σ Z w l vs
 | .tup l,y=>∃vs:List Value,y=.tuple vs.toArray/\SV.relL σ Z w l vs
def SV.relL (σ:Sig) (Z:Nat->Prop) (w:World):List SV->List Value->Prop
 | [],vs=>vs=[]
 | s::l,vs=>∃v vs',vs=v::vs'/\s.rel σ Z w v/\SV.relL σ Z w l vs'
end
def bZ (Z Z':Nat->Prop) (w w':World):Prop:=∀b,Z b->Z' b/\w'.heap[b]? =w.heap[b]?
theorem cell?_of_heap {w w':World} {b:Nat} (h:w'.heap[b]? =w.heap[b]?) (o:Nat):w'.cell? ⟨b,o,none⟩=w.cell? ⟨b,o,none⟩:=by
 simp only [World.cell?,h]
theorem RV.rel_mono {Z Z':Nat->Prop} {w w':World} (hk:bZ Z Z' w w'):∀(s:RV) (y:Value),s.rel Z w y->s.rel Z' w' y
 | .any,_,_=>trivial
 | .v x,_,h=>h
 | .bx _,_,h=>h
 | .rs k n get,y,h=>by
   obtain⟨A,c,e,hc,hn⟩:=h;refine⟨A,c,e,hc,λh0=>?_⟩;obtain⟨b,o,ha,hz,hg⟩:=hn h0;refine⟨b,o,ha,(hk b hz).1,λi j hi hj=>?_⟩;obtain⟨v,h1,h2,h3⟩:=hg i j hi hj;exact⟨v,by rw[cell?_of_heap (hk b hz).2];exact h1,h2,RV.rel_mono hk _ _ h3⟩
 | .rf k n get,y,h=>by
   obtain⟨A,e,hn⟩:=h;refine⟨A,e,λh0=>?_⟩;obtain⟨b,o,ha,hz,hg⟩:=hn h0;refine⟨b,o,ha,(hk b hz).1,λi j hi hj=>?_⟩;obtain⟨v,h1,h2,h3⟩:=hg i j hi hj;exact⟨v,by rw[cell?_of_heap (hk b hz).2];exact h1,h2,RV.rel_mono hk _ _ h3⟩
 | .rp k n get row fld,y,h=>by
   obtain⟨b,o,ha,hz,hg⟩:=h;refine⟨b,o,ha,(hk b hz).1,λi j hi hj=>?_⟩;obtain⟨v,h1,h2,h3⟩:=hg i j hi hj;exact⟨v,by rw[cell?_of_heap (hk b hz).2];exact h1,h2,RV.rel_mono hk _ _ h3⟩
 | .fn f nf nc fi ca,y,h=>by
   obtain⟨vs,ws,e,h1,h2,h3,h4⟩:=h;exact⟨vs,ws,e,h1,h2,λi v hv=>RV.rel_mono hk _ _ (h3 i v hv),λi v hv=>RV.rel_mono hk _ _ (h4 i v hv)⟩
 | .mp has val,y,h=>by
   obtain⟨b,es,ck,e,hz,hh,hm⟩:=h;exact⟨b,es,ck,e,(hk b hz).1,by rw[(hk b hz).2];exact hh,hm.mono λa v _ hv=>RV.rel_mono hk _ _ hv⟩
 | .tg h m x,y,hx=>RV.rel_mono (λb hb=>⟨⟨(hk b hb.1).1,aTn (hk b hb.1).2 hb.2⟩,(hk b hb.1).2⟩) x y hx
def oC (σ σ':Sig):Prop:=∀r L,σ r=some L->σ' r=some L
mutual
theorem SV.rel_mono {σ σ':Sig} {Z Z':Nat->Prop} {w w':World} (hs:oC σ σ') (hk:bZ Z Z' w w'):∀(s:SV) (y:Value),s.rel σ Z w y->s.rel σ' Z' w' y
 | .r x,y,h=>RV.rel_mono hk x y h
 | .ptr ..,y,h=>by
   obtain⟨L,b,h1,h2,h3⟩:=h;exact⟨L,b,hs _ _ h1,h2,h3⟩
 | .sl ..,y,h=>by
   obtain⟨L,A,h1,h2⟩:=h;exact⟨L,A,hs _ _ h1,h2⟩
 | .mp ..,y,h=>by
   obtain⟨L,b,h1,h2,h3⟩:=h;exact⟨L,b,hs _ _ h1,h2,h3⟩
 | .fn f fi ca,y,h=>by
   obtain⟨vs,ws,e,h1,h2⟩:=h;exact⟨vs,ws,e,SV.relL_mono hs hk _ _ h1,SV.relL_mono hs hk _ _ h2⟩
 | .agg l,y,h=>by
   obtain⟨vs,e,h1,h2⟩:=h;exact⟨vs,e,h1,SV.relL_mono hs hk _ _ h2⟩
 | .tup l,y,h=>by
   obtain⟨vs,e,h2⟩:=h;exact⟨vs,e,SV.relL_mono hs hk _ _ h2⟩
theorem SV.relL_mono {σ σ':Sig} {Z Z':Nat->Prop} {w w':World} (hs:oC σ σ') (hk:bZ Z Z' w w'):∀(l:List SV) (ys:List Value),SV.relL σ Z w l ys->SV.relL σ' Z' w' l ys
 | [],ys,h=>h
 | s::l,ys,h=>by
   obtain⟨v,vs',e,h1,h2⟩:=h;exact⟨v,vs',e,SV.rel_mono hs hk s v h1,SV.relL_mono hs hk l vs' h2⟩
end
theorem SV.relL_length {σ:Sig} {Z:Nat->Prop} {w:World}:∀{l:List SV} {ys:List Value},SV.relL σ Z w l ys->ys.length=l.length
 | [],ys,h=>by cases h;rfl
 | s::l,ys,h=>by
   obtain⟨v,vs',rfl,_,h2⟩:=h;simp[SV.relL_length h2]
theorem SV.relL_get {σ:Sig} {Z:Nat->Prop} {w:World}:∀{l:List SV} {ys:List Value},SV.relL σ Z w l ys->∀(i:Nat) (s:SV),l[i]? =some s->∃y,ys[i]? =some y/\s.rel σ Z w y
 | [],ys,h,i,s,hs=>by simp at hs
 | s::l,ys,h,i,t,ht=>by
   obtain⟨v,vs',rfl,h1,h2⟩:=h
   cases i with
   | zero=>simp at ht;subst ht;exact⟨v,τ,h1⟩
   | succ i=>simpa using SV.relL_get h2 i t (by simpa using ht)
theorem SV.relL_mk {σ:Sig} {Z:Nat->Prop} {w:World}:∀{l:List SV} {ys:List Value},ys.length=l.length->(∀(i:Nat) (s:SV) (y:Value),l[i]? =some s->ys[i]? =some y->s.rel σ Z w y)->SV.relL σ Z w l ys
 | [],ys,h,_=>by simpa [SV.relL] using h
 | s::l,[],h,_=>by simp at h
 | s::l,y::ys,h,H=>⟨y,ys,rfl,H 0 s y rfl rfl,SV.relL_mk (by simpa using h) λi s' y' h1 h2=>H (i+1) s' y' (by simpa using h1) (by simpa using h2)⟩
def Zof (B:Nat->Prop) (σ:Sig) (M:Mem) (w:World) (b:Nat):Prop:=(b<w.heap.size/\B b)/\∀r R L,M r=some R->σ r=some L->L.at_≠some b
def RegOK (σ:Sig) (Z:Nat->Prop) (w:World) (L:rY):Reg->Prop
 | .box l=>∃(b:Nat) (cs:List Value) (ty:TypeId),L.at_=some b/\w.heap[b]? =some (.cells cs.toArray ty (0,0))/\(∀v∈cs,v.oneCell'=true)/\SV.relL σ Z w l cs
 | .vec e k n get=>n<=L.cap/\L.cap<=maxLen/\((L.at_=none/\L.cap=0)\/∃(b:Nat) (cs:List Value),L.at_=some b/\w.heap[b]? =some (.cells cs.toArray e (0,0))/\
   cs.length=L.cap*k/\(∀v∈cs,v.oneCell'=true)/\∀i j,i<n->j<k->∃v,cs[i*k+j]? =some v/\v.oneCell'=true/\(get i j).rel σ Z w v)
 | .map has val st=>∃(b:Nat) (es:Array MapEntry) (ck:Nat),L.at_=some b/\w.heap[b]? =some (.map es ck)/\MapOf has (λa v=>(val a).rel σ Z w v) es.toList ck/\
   ∀f c,st=some (f,c)->ck=c/\∀e∈es.toList,∀a,e.key=.int .i64 a->e.born=f a
 | .iter m f c all left la=>∃(b:Nat) (mo:Option Nat) (seen:Array Nat) (stepped:Nat),L.at_=some b/\w.heap[b]? =some (.mapIter mo c seen stepped)/\c<=stepped/\m.rel σ Z w (.map mo)/\
   (∀a,all a=true->(left a=true↔f a ∉ seen.toList))/\∀a,la=some a->stepped=c/\seen.back? =some (f a)
def Unf (uu:Bool) (w w':World):Prop:=∀b:Nat,(uu=true\/b<w.heap.size)->(∀c t fr,w.heap[b]? =some (Obj.cells c t fr)->fr=(0,0))->∀c t fr,w'.heap[b]? =some (Obj.cells c t fr)->fr=(0,0)
structure Dr (uu:Bool) (w w':World):Prop where
 le:w.drawn<=w'.drawn
 unf:Unf uu w w'
variable {uu:Bool}
theorem Dr.refl (w:World):Dr uu w w:=⟨Nat.le_refl _,λ_ _ h=>h⟩
theorem Dr.trans {a b c:World} (h:Dr uu a b) (k:Dr uu b c) (hs:a.heap.size<=b.heap.size:=by first | exact Nat.le_refl _ | simp):Dr uu a c:=⟨Nat.le_trans h.le k.le,λx hx hb=>k.unf x (hx.imp id λh=>Nat.lt_of_lt_of_le h hs) (h.unf x hx hb)⟩
theorem Dr.as {vv:Bool} {w w':World} (h:Dr uu w w') (hu:vv=true->uu=true):Dr vv w w':=⟨h.le,λb hx hb=>h.unf b (hx.imp hu id) hb⟩
theorem Dr.to {w w':World} (h:Dr true w w'):Dr uu w w':=h.as λ_=>rfl
theorem Dr.blocks {w w':World} (h:w.drawn<=w'.drawn) (hh:∀(b:Nat) (o:Obj),w'.heap[b]? =some o->w.heap[b]? =some o\/∀c t fr,o=Obj.cells c t fr->fr=(0,0)\/∃c',w.heap[b]? =some (Obj.cells c' t fr)):Dr uu w w':=⟨h,λb _ hb c t fr hc=>by
 rcases hh b _ hc with h1 | h1
 ·exact hb _ _ _ h1
 ·rcases h1 c t fr rfl with h2 | ⟨c',h2⟩
  ·exact h2
  ·exact hb _ _ _ h2⟩
theorem Dr.same {w w':World} (h:w.drawn<=w'.drawn) (hh:w'.heap=w.heap):Dr uu w w':=⟨h,λb _ hb=>by rw[hh];exact hb⟩
theorem Dr.tgc {w w':World} (k:Dr uu w w') {h:Bool} {m b:Nat} (hb:Go.Gx.tgc h m w b) (hx:uu=true\/b<w.heap.size):Go.Gx.tgc h m w' b:=by
 cases h with
 | true=>exact⟨hb.1,k.unf b hx hb.2⟩
 | false=>exact hb
structure Fr (uu:Bool) (W:Nat->Prop) (w0 w:World):Prop where
 os:w.os=w0.os
 tape:w.tape=w0.tape
 output:w.output=w0.output
 size:w0.heap.size<=w.heap.size
 drawn:Dr uu w0 w
 block:∀b,b<w0.heap.size->¬W b->w.heap[b]? =w0.heap[b]?
def eF (nx:Nat):Nat->Prop:=λr=>nx<=r
structure MOK (B W:Nat->Prop) (n0:Nat) (σ:Sig) (M:Mem) (F:Nat->Prop) (w:World):Prop where
 newB:∀b,n0<=b\/W b->B b
 fresh:∀r,F r->σ r=none
 reg:∀r R,M r=some R->∃L,σ r=some L/\RegOK σ (Zof B σ M w) w L R
 inj:∀r r' R R' L L' b,M r=some R->M r'=some R'->σ r=some L->σ r'=some L'->L.at_=some b->L'.at_=some b->r=r'
 own:∀r R L b,M r=some R->σ r=some L->L.at_=some b->W b\/n0<=b
def EOK (σ:Sig) (Z:Nat->Prop) (w:World) (E:Env) (a:Act):Prop:=∀t,(E t).rel σ Z w (a.tmps.getD t undef)
theorem Fr.refl (W:Nat->Prop) (w:World):Fr uu W w w:=⟨rfl,rfl,rfl,Nat.le_refl _,Dr.refl _,λ_ _ _=>rfl⟩
end Go.Gx
namespace Go.Gx
open Go.RowKit
inductive ZK where
 | i (k:IntKind) | b | s | p | sl | m | f | ifc
def ZK.val:ZK->Value
 | .i k=>.int k 0 | .b=>.bool false | .s=>.string ByteArray.empty | .p=>.pointer none | .sl=>.slice none 0 0 | .m=>.map none | .f=>.nilFunc | .ifc=>.nilIface
inductive TK where
 | int (k:IntKind) | bool | other
 | struct (fs:List (Nat × Nat × Bool))
 | array (n esz:Nat) (eagg:Bool)
 | slice (e:TypeId)
 | map (k e:TypeId)
structure TI where
 size:Nat
 bytes:Nat
 zero:List ZK
 kind:TK
def TI.agg (i:TI):Bool:=match i.kind with | .struct _ | .array ..=>true | _=>false
def TI.zeroV (i:TI):Value:=if i.agg then .agg (i.zero.map ZK.val).toArray else match i.zero with | z::_=>z.val | []=>undef
def aX0:Value->Value->Bool
 | .int k n,.int k' n'=>decide (k=k')&&decide (n=n')
 | .bool a,.bool b=>decide (a=b)
 | .string s,.string t=>decide (s=t)
 | .pointer none,.pointer none=>true
 | .slice none a b,.slice none c d=>decide (a=c)&&decide (b=d)
 | .map none,.map none=>true
 | .nilFunc,.nilFunc=>true
 | .nilIface,.nilIface=>true
 | _,_=>false
theorem aLh {x y:Value} (h:aX0 x y=true):x=y:=by
 unfold aX0 at h;split at h <;> simp_all
def aOi:List Value->List Value->Bool
 | [],[]=>true
 | x::xs,y::ys=>aX0 x y&&aOi xs ys
 | _,_=>false
theorem aLi:∀{x y:List Value},aOi x y=true->x=y
 | [],[],_=>rfl
 | [],_::_,h=>by simp[aOi] at h
 | _::_,[],h=>by simp[aOi] at h
 | x::xs,y::ys,h=>by
   simp only [aOi,Bool.and_eq_true] at h;rw[aLh h.1,aLi h.2]
def veq:Value->Value->Bool
 | .agg xs,.agg ys=>aOi xs.toList ys.toList
 | x,y=>aX0 x y
theorem bB5 {x y:Value} (h:veq x y=true):x=y:=by
 unfold veq at h;split at h
 ·have:=aLi h
  congr 1
  exact Array.ext' this
 ·exact aLh h
def uY (P:Program) (t:TypeId) (g:Bool):Bool:=match P.underlying t with | some (.struct _) | some (.array ..)=>g | some _=>!g | none=>false
def kN (P:Program) (t:TypeId) (s:Nat):Bool:=match P.info? t with | some i=>i.size==s | none=>false
def aH1 (P:Program):List Field->List (Nat × Nat × Bool)->Bool
 | [],[]=>true
 | f::fs,(o,s,g)::l=>decide (f.offset=o)&&kN P f.type s&&uY P f.type g&&aH1 P fs l
 | _,_=>false
def aAp (P:Program):Option TypeDesc->TK->Bool
 | some (.int k),.int k'=>decide (k=k')
 | some .bool,.bool=>true
 | some (.struct fa),.struct fs=>aH1 P fa.toList fs
 | some (.array n e),.array n' s g=>decide (n=n')&&kN P e s&&uY P e g
 | some (.slice e),.slice e'=>decide (e=e')
 | some (.map k e),.map k' e'=>decide (k=k')&&decide (e=e')
 | some d,.other=>match d with | .struct _ | .array ..=>false | _=>true
 | _,_=>false
def dQ (P:Program) (t:TypeId) (i:TI):Bool:=
 (match P.info? t with
 | none=>false
 | some ti=>decide (ti.size=i.size)&&decide (ti.bytes=i.bytes)&&(match ti.zero with | some z=>veq z i.zeroV | none=>false))&&aAp P (P.underlying t) i.kind&&decide (i.zero.length=i.size)&&(i.agg||decide (i.size=1))
inductive CK where
 | int (k:IntKind) | bool
def CK.has:CK->Value->Prop
 | .int k,v=>∃n,v=.int k n
 | .bool,v=>∃b,v=.bool b
def iU:List CK->List Value->Prop
 | [],l=>l=[]
 | c::cs,l=>∃v l',l=v::l'/\c.has v/\iU cs l'
def eqV:Value->Value->Bool
 | .int _ a,.int _ b=>decide (a=b)
 | .bool a,.bool b=>decide (a=b)
 | _,_=>false
def kB:List Value->List Value->Bool
 | [],[]=>true
 | x::xs,y::ys=>eqV x y&&kB xs ys
 | _,_=>false
structure Tab where
 ti:TypeId->Option TI
 eq:TypeId->Option (List CK)
structure aX (P:Program) (T:Tab):Prop where
 ti:∀t i,T.ti t=some i->dQ P t i=true
 eq:∀t cs,T.eq t=some cs->∀(xs ys:List Value) (w:World),iU cs xs->iU cs ys->
  (Op.equal t (.agg xs.toArray) (.agg ys.toArray)).run P w=.ok (kB xs ys) w/\
  (∀(op:BinOp) (x y:Operand),(eqGuard op t x y (.agg xs.toArray) (.agg ys.toArray)).run P w=.ok () w)
section
variable {P:Program} {T:Tab} {t:TypeId} {i:TI}
theorem qB (h:dQ P t i=true):∃ti,P.info? t=some ti/\ti.size=i.size/\ti.bytes=i.bytes/\ti.zero=some i.zeroV:=by
 unfold dQ at h;simp only [Bool.and_eq_true] at h;obtain⟨⟨⟨h,_⟩,_⟩,_⟩:=h;split at h
 ·simp at h
 ·rename_i ti hti;simp only [Bool.and_eq_true,decide_eq_true_eq] at h;obtain⟨⟨h1,h2⟩,h3⟩:=h;split at h3
  ·rename_i z hz;exact⟨ti,hti,h1,h2,by rw[hz,bB5 h3]⟩
  ·simp at h3
theorem nJ (h:dQ P t i=true):aAp P (P.underlying t) i.kind=true:=by
 unfold dQ at h;simp only [Bool.and_eq_true] at h;exact h.1.1.2
theorem bBz (h:dQ P t i=true) (hg:i.agg=false):i.size=1:=by
 unfold dQ at h;simp only [Bool.and_eq_true,Bool.or_eq_true,decide_eq_true_eq,hg] at h;simpa using h.2
theorem nK (h:dQ P t i=true):i.zero.length=i.size:=by
 unfold dQ at h;simp only [Bool.and_eq_true,decide_eq_true_eq] at h;exact h.1.2
theorem ZK.val_one (z:ZK):z.val.oneCell'=true:=by cases z <;> rfl
theorem ZK.val_cells (z:ZK):z.val.cells=#[z.val]:=by cases z <;> rfl
theorem fY (h:dQ P t i=true):i.zeroV.cells.toList=i.zero.map ZK.val:=by
 unfold TI.zeroV;by_cases hg:i.agg=true
 ·simp[hg,Value.cells]
 ·have h1:=bBz h (by simpa using hg);have h2:=nK h;rw[h1] at h2
  match hz:i.zero,h2 with
  | [z],_=>simp[hg,ZK.val_cells]
theorem mA (h:dQ P t i=true) (w:World):(zeroValue t).run P w=.ok i.zeroV w:=by
 obtain⟨ti,h1,_,_,h4⟩:=qB h;simp[zeroValue,typeInfo,h1,h4]
theorem gI (h:dQ P t i=true) (w:World):(sizeOf t).run P w=.ok i.size w:=by
 obtain⟨ti,h1,h2,_⟩:=qB h;simp[sizeOf,typeInfo,h1,h2]
theorem fA {s:Nat} (h:kN P t s=true) (w:World):(sizeOf t).run P w=.ok s w:=by
 unfold kN at h;split at h
 ·rename_i ti hti;simp at h;simp[sizeOf,typeInfo,hti,h]
 ·simp at h
theorem aCb {g:Bool} (h:uY P t g=true) (w:World):(isAgg t).run P w=.ok g w:=by
 unfold uY at h;split at h
 ·rename_i hu;subst h;simp[isAgg,run_underlying hu]
 ·rename_i hu;subst h;simp[isAgg,run_underlying hu]
 ·rename_i d h1 h2 hu;have hg:g=false:=by simpa using h
  unfold isAgg;rw[Sem.run_bind,run_underlying ‹_›,hg]
  cases d <;> first | rfl | (exact absurd rfl (h1 _)) | (exact absurd rfl (h2 _ _))
 ·simp at h
theorem aK6 (h:dQ P t i=true) (w:World):(isAgg t).run P w=.ok i.agg w:=by
 have hk:=nJ h;unfold aAp at hk;split at hk
 ·rename_i hu hk';simp[isAgg,run_underlying hu,TI.agg,hk']
 ·rename_i hu hk';simp[isAgg,run_underlying hu,TI.agg,hk']
 ·rename_i hu hk';simp[isAgg,run_underlying hu,TI.agg,hk']
 ·rename_i hu hk';simp[isAgg,run_underlying hu,TI.agg,hk']
 ·rename_i hu hk';simp[isAgg,run_underlying hu,TI.agg,hk']
 ·rename_i hu hk';simp[isAgg,run_underlying hu,TI.agg,hk']
 ·rename_i d hu hk';have hu':P.underlying t=some d:=by assumption
  unfold isAgg;rw[Sem.run_bind,run_underlying hu']
  cases d <;> simp_all [TI.agg]
 ·simp at hk
theorem eK {e:TypeId} (h:dQ P t i=true) (hk:i.kind=.slice e):P.underlying t=some (.slice e):=by
 have:=nJ h;rw[hk] at this;unfold aAp at this;split at this <;> simp_all
theorem aXx {k e:TypeId} (h:dQ P t i=true) (hk:i.kind=.map k e):P.underlying t=some (.map k e):=by
 have:=nJ h;rw[hk] at this;unfold aAp at this;split at this <;> simp_all
theorem wR {k:IntKind} (h:dQ P t i=true) (hk:i.kind=.int k):P.underlying t=some (.int k):=by
 have:=nJ h;rw[hk] at this;unfold aAp at this;split at this <;> simp_all
theorem aTt (h:dQ P t i=true) (hk:i.kind=.bool):P.underlying t=some .bool:=by
 have:=nJ h;rw[hk] at this;unfold aAp at this;split at this <;> simp_all
theorem qD {n s:Nat} {g:Bool} (h:dQ P t i=true) (hk:i.kind=.array n s g):∃e,P.underlying t=some (.array n e)/\kN P e s=true/\uY P e g=true:=by
 have:=nJ h;rw[hk] at this;unfold aAp at this;split at this <;> simp_all
theorem aFi:∀{fs:List Field} {l:List (Nat × Nat × Bool)},aH1 P fs l=true->fs.length=l.length/\∀(j o s:Nat) (g:Bool),l[j]? =some (o,s,g)->∃f:Field,fs[j]? =some f/\f.offset=o/\kN P f.type s=true/\uY P f.type g=true
 | [],[],_=>⟨rfl,τ⟩
 | [],_::_,h=>by simp[aH1] at h
 | _::_,[],h=>by simp[aH1] at h
 | f::fs,(o,s,g)::l,h=>by
   simp only [aH1,Bool.and_eq_true,decide_eq_true_eq] at h;obtain⟨⟨⟨h1,h2⟩,h3⟩,h4⟩:=h;obtain⟨hl,hg⟩:=aFi h4;refine⟨by simp[hl],λj o' s' g' hj=>?_⟩
   cases j with
   | zero=>simp at hj;obtain⟨rfl,rfl,rfl⟩:=hj;exact⟨f,τ,h1,h2,h3⟩
   | succ j=>simpa using hg j o' s' g' (by simpa using hj)
theorem nM {fs:List (Nat × Nat × Bool)} (h:dQ P t i=true) (hk:i.kind=.struct fs):∃fa:Array Field,P.underlying t=some (.struct fa)/\fa.size=fs.length/\
 ∀(j o s:Nat) (g:Bool),fs[j]? =some (o,s,g)->∃f:Field,fa[j]? =some f/\f.offset=o/\kN P f.type s=true/\uY P f.type g=true:=by
 have:=nJ h;rw[hk] at this
 cases hu:P.underlying t with
 | none=>rw[hu] at this;simp[aAp] at this
 | some d=>
   rw[hu] at this
   cases d with
   | struct fa=>
     obtain⟨h1,h2⟩:=aFi (show aH1 P fa.toList fs=true from this);exact⟨fa,rfl,by simpa using h1,λj o s g hj=>by simpa using h2 j o s g hj⟩
   | _=>simp[aAp] at this
end
def inr (k:IntKind) (n:Int):Prop:=match k with
 | .i8=>-128<=n/\n<=127 | .i16=>-32768<=n/\n<=32767 | .i32=>-2147483648<=n/\n<=2147483647 | .i64=>-9223372036854775808<=n/\n<=9223372036854775807
 | .u8=>0<=n/\n<=255 | .u16=>0<=n/\n<=65535 | .u32=>0<=n/\n<=4294967295 | .u64=>0<=n/\n<=18446744073709551615
theorem bX {k:IntKind} {n:Int} (h:inr k n):k.wrap n=n:=by
 cases k <;> simp only [inr] at h <;> simp only [IntKind.wrap,IntKind.bits,IntKind.signed] <;> simp <;> omega
def ev (E:Env):Operand->SV
 | .tmp t=>E t
 | .const v=>.r (.v v)
 | .global _=>.r .any
 | .func f=>.fn (.func f) [] []
theorem bA {σ:Sig} {Z:Nat->Prop} {w:World} {E:Env} {a:Act} (he:EOK σ Z w E a) (x:Operand):(ev E x).rel σ Z w (a.eval x):=by
 cases x with
 | tmp t=>exact he t
 | const v=>rfl
 | global g=>trivial
 | func f=>exact⟨[],[],rfl,rfl,rfl⟩
def SV.one:SV->Bool
 | .r (.v x)=>x.oneCell'
 | .r .any=>false
 | .r (.tg _ _ (.rs ..))=>true
 | .r (.tg ..)=>false
 | .r _=>true
 | .agg _ | .tup _=>false
 | _=>true
theorem SV.one_rel {σ:Sig} {Z:Nat->Prop} {w:World} {s:SV} {y:Value} (h1:s.one=true) (h:s.rel σ Z w y):y.oneCell'=true:=by
 unfold SV.one at h1;split at h1
 ·cases h;exact h1
 ·simp at h1
 ·obtain⟨A,c,rfl,_⟩:=h;rfl
 ·simp at h1
 ·rename_i x _ _ _ _
  cases x with
  | any=>simp_all
  | v x=>simp_all
  | bx φ=>obtain⟨b,_,rfl⟩:=h;rfl
  | rs k n g=>obtain⟨A,c,rfl,_⟩:=h;rfl
  | rf k n g=>obtain⟨A,rfl,_⟩:=h;rfl
  | rp k n g r f=>obtain⟨b,o,rfl,_⟩:=h;rfl
  | fn f a b c d=>obtain⟨vs,ws,rfl,_⟩:=h;rfl
  | mp has val=>obtain⟨b,es,ck,rfl,_⟩:=h;rfl
  | tg a b c=>simp_all
 ·simp at h1
 ·simp at h1
 ·cases s with
  | r x=>simp_all
  | ptr=>obtain⟨L,b,_,_,rfl⟩:=h;rfl
  | sl=>obtain⟨L,b,_,rfl,_⟩:=h;rfl
  | mp=>obtain⟨L,b,_,_,rfl⟩:=h;rfl
  | fn=>obtain⟨vs,ws,rfl,_⟩:=h;rfl
  | agg=>simp_all
  | tup=>simp_all
def SV.cells:SV->List SV
 | .agg l=>l
 | s=>[s]
def iT:List SV->Bool
 | []=>true
 | s::l=>s.one&&iT l
theorem lO {σ:Sig} {Z:Nat->Prop} {w:World} {s:SV} {y:Value} (h:s.rel σ Z w y) (h1:iT s.cells=true) :
 SV.relL σ Z w s.cells y.cells.toList/\∀v∈y.cells.toList,v.oneCell'=true:=by
 cases s with
 | agg l=>
   obtain⟨vs,rfl,ho,hl⟩:=h;exact⟨by simpa [SV.cells,Value.cells] using hl,by simpa [Value.cells] using ho⟩
 | tup l=>simp[SV.cells,iT,SV.one] at h1
 | _=>
   have ho:=SV.one_rel (by simpa [SV.cells,iT] using h1) h;have hc:y.cells=#[y]:=by cases y <;> simp_all [Value.cells,Value.oneCell']
   rw[hc];exact⟨⟨y,[],rfl,h,rfl⟩,by simpa using ho⟩
def bL (g:Nat->SV) (o:Nat):Nat->List SV
 | 0=>[]
 | n+1=>g o::bL g (o+1) n
theorem gQ (g:Nat->SV):∀n o,(bL g o n).length=n
 | 0,_=>rfl
 | n+1,o=>by simp[bL,gQ g n]
theorem qL (g:Nat->SV):∀n o j,j<n->(bL g o n)[j]? =some (g (o+j))
 | 0,_,_,h=>ω
 | n+1,o,0,_=>by simp[bL]
 | n+1,o,j+1,h=>by
   simp only [bL,List.getElem?_cons_succ];rw[qL g n (o+1) j ω]
   congr 2;omega
end Go.Gx
namespace Go.Gx
open Go.RowKit
mutual
def SV.kill (ref:Nat):SV->SV
 | .r x=>.r x
 | .ptr q row k fld=>if q=ref then .r .any else .ptr q row k fld
 | .sl q k lo n c=>if q=ref then .r .any else .sl q k lo n c
 | .mp q=>if q=ref then .r .any else .mp q
 | .fn f fi ca=>.fn f (SV.killL ref fi) (SV.killL ref ca)
 | .agg l=>.agg (SV.killL ref l)
 | .tup l=>.tup (SV.killL ref l)
def SV.killL (ref:Nat):List SV->List SV
 | []=>[]
 | s::l=>s.kill ref::SV.killL ref l
end
def Reg.kill (ref:Nat):Reg->Reg
 | .box l=>.box (SV.killL ref l)
 | .vec e k n g=>.vec e k n λi j=>(g i j).kill ref
 | .map has val st=>.map has (λa=>(val a).kill ref) st
 | .iter m f c all left la=>.iter (m.kill ref) f c all left la
def nU (ref:Nat) (M:Mem):Mem:=λr=>(M r).map (Reg.kill ref)
inductive GR where
 | bad
 | pure (ob:Prop) (s:SV)
 | new (ob:Prop) (R:Reg) (s:SV)
 | set (ob:Prop) (ref:Nat) (R:Reg) (s:SV)
 | app (ob:Prop) (ref:Nat) (R:Reg) (s:SV)
 | call (f:FuncId) (args:List SV)
def SV.toRV:SV->RV
 | .r x=>x
 | .fn f [] []=>.fn f 0 0 (λ_=>.any) (λ_=>.any)
 | .fn f [] [.r a]=>.fn f 0 1 (λ_=>.any) (λ_=>a)
 | .fn f [] [.r a,.r b]=>.fn f 0 2 (λ_=>.any) (λi=>match i with | 0=>a | _=>b)
 | .fn f [] [.r a,.r b,.r c]=>.fn f 0 3 (λ_=>.any) (λi=>match i with | 0=>a | 1=>b | _=>c)
 | .fn f [.r a] []=>.fn f 1 0 (λ_=>a) (λ_=>.any)
 | _=>.any
def oO (T:Tab) (t:TypeId) (M:Mem) (s:SV):GR:=
 match T.ti t with
 | none=>.bad
 | some i=>
   match s with
   | .ptr ref row k fld=>
     match M ref with
     | some (.box l)=>
       if i.agg then .pure (row*k+fld+i.size<=l.length) (.agg (bL (λj=>l.getD j (.r .any)) (row*k+fld) i.size))
       else .pure (row*k+fld<l.length) (l.getD (row*k+fld) (.r .any))
     | some (.vec e k' n get)=>
       if i.agg then .pure (k'=k/\row<n/\fld+i.size<=k) (.agg (bL (λj=>get row j) fld i.size))
       else .pure (k'=k/\row<n/\fld<k) (get row fld)
     | _=>.bad
   | .r (.rp k n get row fld)=>
     if i.agg then .pure (row<n/\fld+i.size<=k) (.agg (bL (λj=>.r (get row j)) fld i.size))
     else .pure (row<n/\fld<k) (.r (get row fld))
   | _=>.bad
def put (l:List SV) (o:Nat) (cs:List SV):List SV:=l.take o++cs++l.drop (o+cs.length)
def oQ (T:Tab) (t:TypeId) (M:Mem) (s x:SV):GR:=
 match T.ti t with
 | none=>.bad
 | some i=>
   match s with
   | .ptr ref row k fld=>
     match M ref with
     | some (.box l)=>.set (iT x.cells=true/\x.cells.length=i.size/\row*k+fld+i.size<=l.length) ref (.box (put l (row*k+fld) x.cells)) (.r .any)
     | some (.vec e k' n get)=>.set (iT x.cells=true/\x.cells.length=i.size/\k'=k/\row<n/\fld+i.size<=k) ref
       (.vec e k' n λi' j'=>if i'=row/\fld<=j'/\j'<fld+i.size then x.cells.getD (j' - fld) (.r .any) else get i' j') (.r .any)
     | _=>.bad
   | _=>.bad
def mM (op:BinOp) (x y:SV):GR:=
 match op,x,y with
 | .shl,.r (.v (.int k a)),.r (.v (.int _ b))=>.pure (0<=b) (.r (.v (.int k (k.wrap (a*2 ^ (min b.toNat k.bits))))))
 | .shr,.r (.v (.int k a)),.r (.v (.int _ b))=>.pure (0<=b) (.r (.v (.int k (a.fdiv (2 ^ (min b.toNat k.bits))))))
 | .add,.r (.v (.int k a)),.r (.v (.int k' b))=>.pure (k=k'/\inr k (a+b)) (.r (.v (.int k (a+b))))
 | .sub,.r (.v (.int k a)),.r (.v (.int k' b))=>.pure (k=k'/\inr k (a - b)) (.r (.v (.int k (a - b))))
 | .mul,.r (.v (.int k a)),.r (.v (.int k' b))=>.pure (k=k'/\(k=.u64\/inr k (a*b))) (.r (.v (.int k (if k=.u64 then k.wrap (a*b) else a*b))))
 | .quo,.r (.v (.int k a)),.r (.v (.int k' b))=>.pure (k=k'/\b≠0/\inr k (a.tdiv b)) (.r (.v (.int k (a.tdiv b))))
 | .rem,.r (.v (.int k a)),.r (.v (.int k' b))=>.pure (k=k'/\b≠0) (.r (.v (.int k (a.tmod b))))
 | .and,.r (.v (.int k a)),.r (.v (.int k' b))=>.pure (k=k') (.r (.v (.int k (k.wrap (BitVec.ofInt k.bits a &&& BitVec.ofInt k.bits b).toNat))))
 | .or,.r (.v (.int k a)),.r (.v (.int k' b))=>.pure (k=k') (.r (.v (.int k (k.wrap (BitVec.ofInt k.bits a ||| BitVec.ofInt k.bits b).toNat))))
 | .xor,.r (.v (.int k a)),.r (.v (.int k' b))=>.pure (k=k') (.r (.v (.int k (k.wrap (BitVec.ofInt k.bits a ^^^ BitVec.ofInt k.bits b).toNat))))
 | .andNot,.r (.v (.int k a)),.r (.v (.int k' b))=>.pure (k=k') (.r (.v (.int k (k.wrap (BitVec.ofInt k.bits a &&& ~~~ BitVec.ofInt k.bits b).toNat))))
 | .eql,.r (.v (.int k a)),.r (.v (.int k' b))=>.pure (k=k') (.b (decide (a=b)))
 | .neq,.r (.v (.int k a)),.r (.v (.int k' b))=>.pure (k=k') (.b (!decide (a=b)))
 | .lss,.r (.v (.int k a)),.r (.v (.int k' b))=>.pure (k=k') (.b (decide (a<b)))
 | .leq,.r (.v (.int k a)),.r (.v (.int k' b))=>.pure (k=k') (.b (decide (a<=b)))
 | .gtr,.r (.v (.int k a)),.r (.v (.int k' b))=>.pure (k=k') (.b (decide (b<a)))
 | .geq,.r (.v (.int k a)),.r (.v (.int k' b))=>.pure (k=k') (.b (decide (b<=a)))
 | _,_,_=>.bad
def nG:List CK->List SV->Option (List Value)
 | [],[]=>some []
 | .int k::cs,.r (.v (.int k' n))::l=>if k=k' then (nG cs l).map (.int k n::·) else none
 | .bool::cs,.r (.v (.bool b))::l=>(nG cs l).map (.bool b::·)
 | _,_=>none
def geq (T:Tab) (t:TypeId) (x y:SV) (neg:Bool):GR:=
 match x,y with
 | .r (.v (.bool a)),.r (.v (.bool b))=>.pure ((T.ti t).map (·.kind)=some .bool) (.b (if neg then !decide (a=b) else decide (a=b)))
 | .agg xs,.agg ys=>
   match T.eq t with
   | some cs=>match nG cs xs,nG cs ys with
     | some us,some vs=>.pure True (.b (if neg then ! kB us vs else kB us vs))
     | _,_=>.bad
   | none=>.bad
 | .r (.rs k n get),.r (.v (.slice none 0 0))=>.pure (((T.ti t).map (·.kind)).any (fun | .slice _=>true | _=>false)=true) (.r (.bx λb=>((if neg then !b else b)=true->n=0)))
 | .sl ref k lo n c,.r (.v (.slice none 0 0))=>.pure (((T.ti t).map (·.kind)).any (fun | .slice _=>true | _=>false)=true) (.r (.bx λb=>((if neg then !b else b)=true->n=0)))
 | .r (.v (.slice none 0 0)),.r (.v (.slice none 0 0))=>.pure (((T.ti t).map (·.kind)).any (fun | .slice _=>true | _=>false)=true) (.b (!neg))
 | _,_=>.bad
def aBv:Option SV->Option Int
 | none=>some 0
 | some (.r (.v (.int _ i)))=>some i
 | _=>none
def vH (M:Mem) (ref:Nat):Nat:=match M ref with | some (.vec _ _ N _)=>N | _=>0
def lF (T:Tab) (M:Mem) (t:TypeId) (x:SV) (lo hi mx:Option SV):GR:=
 match T.ti t with
 | some ⟨_,_,_,.slice e⟩=>
   match T.ti e with
   | none=>.bad
   | some ei=>
   match aBv lo with
   | none=>.bad
   | some l=>
   match x with
   | .r (.rs k n get)=>
     match hi,mx with
     | none,none=>.pure (ei.size=k/\0<=l/\l<=n) (.r (.rs k (n - l.toNat) λi j=>get (l.toNat+i) j))
     | some (.r (.v (.int _ h))),none=>.pure (ei.size=k/\0<=l/\l<=h/\h<=n) (.r (.rs k (h.toNat - l.toNat) λi j=>get (l.toNat+i) j))
     | some (.r (.v (.int _ h))),some (.r (.v (.int _ m)))=>.pure (ei.size=k/\0<=l/\l<=h/\h=m/\m<=n) (.r (.rf k (h.toNat - l.toNat) λi j=>get (l.toNat+i) j))
     | _,_=>.bad
   | .sl ref k l0 n none=>
     match hi,mx with
     | none,none=>.pure (ei.size=k/\0<=l/\l<=n) (.sl ref k (l0+l.toNat) (n - l.toNat) none)
     | some (.r (.v (.int _ h))),none=>.pure (ei.size=k/\0<=l/\l<=h/\(h<=n\/l0+h<=vH M ref)) (.sl ref k (l0+l.toNat) (h.toNat - l.toNat) none)
     | some (.r (.v (.int _ h))),some (.r (.v (.int _ m)))=>.pure (ei.size=k/\0<=l/\l<=h/\h<=m/\(m<=n\/l0+m<=vH M ref)) (.sl ref k (l0+l.toNat) (h.toNat - l.toNat) (some (m.toNat - l.toNat)))
     | _,_=>.bad
   | .sl ref k l0 n (some c)=>
     match hi,mx with
     | none,none=>.pure (ei.size=k/\0<=l/\l<=n) (.sl ref k (l0+l.toNat) (n - l.toNat) (some (c - l.toNat)))
     | some (.r (.v (.int _ h))),none=>
       if h<=n then .pure (ei.size=k/\0<=l/\l<=h/\h<=n) (.sl ref k (l0+l.toNat) (h.toNat - l.toNat) (some (c - l.toNat)))
       else match M ref with
       | some (.vec e' k' N g)=>.set (ei.size=k/\k'=k/\0<=l/\l<=h/\h<=c/\N<=l0+h) ref (.vec e' k' (l0+h.toNat) λi j=>if i<N then g i j else .r .any) (.sl ref k (l0+l.toNat) (h.toNat - l.toNat) (some (c - l.toNat)))
       | _=>.bad
     | _,_=>.bad
   | .r (.v (.slice none 0 0))=>
     match hi,mx with
     | none,none=>.pure (l=0) (.r (.v (.slice none 0 0)))
     | some (.r (.v (.int _ h))),none=>.pure (l=0/\h=0) (.r (.v (.slice none 0 0)))
     | some (.r (.v (.int _ h))),some (.r (.v (.int _ m)))=>.pure (l=0/\h=0/\m=0) (.r (.v (.slice none 0 0)))
     | _,_=>.bad
   | _=>.bad
 | _=>.bad
def gE (T:Tab) (t:TypeId) (x:SV) (f:Nat):GR:=
 match T.ti t with
 | some ⟨_,_,_,.struct fs⟩=>
   match fs[f]? with
   | some (o,s,_)=>
     match x with
     | .ptr ref row k fld=>.pure (s≠0) (.ptr ref row k (fld+o))
     | .r (.rp k n get row fld)=>.pure (s≠0) (.r (.rp k n get row (fld+o)))
     | _=>.bad
   | none=>.bad
 | _=>.bad
def mO (T:Tab) (t:TypeId) (x i:SV):GR:=
 match i with
 | .r (.v (.int _ ix))=>
   match T.ti t with
   | some ⟨_,_,_,.slice e⟩=>
     match T.ti e with
     | none=>.bad
     | some ei=>
     match x with
     | .r (.rs k n get)=>.pure (ei.size=k/\0<=ix/\ix<n) (.r (.rp k n get ix.toNat 0))
     | .sl ref k lo n c=>.pure (ei.size=k/\0<=ix/\ix<n) (.ptr ref (lo+ix.toNat) k 0)
     | _=>.bad
   | some ⟨_,_,_,.array n es _⟩=>
     match x with
     | .ptr ref row k fld=>.pure (es≠0/\0<=ix/\ix<n) (.ptr ref row k (fld+ix.toNat*es))
     | .r (.rp k m get row fld)=>.pure (es≠0/\0<=ix/\ix<n) (.r (.rp k m get row (fld+ix.toNat*es)))
     | _=>.bad
   | _=>.bad
 | _=>.bad
def jA (pl:Nat->Option (Nat × Nat)) (cs:List SV):List (Nat × SV)->Option (List SV)
 | []=>some cs
 | (i,x)::rest=>
   match pl i with
   | none=>none
   | some (o,s)=>if x.cells.length=s/\o+s<=cs.length/\iT x.cells=true then jA pl (put cs o x.cells) rest else none
def rI (T:Tab) (t:TypeId) (parts:List (Nat × SV)):GR:=
 match T.ti t with
 | some ⟨sz,_,zero,.struct fs⟩=>
   match jA (λi=>(fs[i]?).map λ(o,s,_)=>(o,s)) (zero.map λz=>.r (.v z.val)) parts with
   | some cs=>.pure True (.agg cs)
   | none=>.bad
 | some ⟨sz,_,zero,.array n es _⟩=>
   match jA (λi=>some (i*es,es)) (zero.map λz=>.r (.v z.val)) parts with
   | some cs=>.pure True (.agg cs)
   | none=>.bad
 | _=>.bad
def rep (l:List SV):Nat->List SV
 | 0=>[]
 | n+1=>l++rep l n
def eW (T:Tab) (t:TypeId) (len nx:Nat) (parts:List (Nat × SV)):GR:=
 match T.ti t with
 | some ⟨_,_,_,.slice e⟩=>
   match T.ti e with
   | none=>.bad
   | some ei=>
     match jA (λi=>some (i*ei.size,ei.size)) (rep (ei.zero.map λz=>.r (.v z.val)) len) parts with
     | some cs=>.new (0<ei.size/\len*ei.size<=16777216) (.vec e ei.size len λi j=>cs.getD (i*ei.size+j) (.r .any)) (.sl nx ei.size 0 len none)
     | none=>.bad
 | _=>.bad
def gH (M:Mem) (k:Nat) (x:SV):Option (Prop × Nat × (Nat->Nat->SV)):=
 match x with
 | .r (.v (.slice none 0 0))=>some (True,0,λ_ _=>.r .any)
 | .r (.rs k' m get)=>some (k'=k,m,λi j=>.r (get i j))
 | .r (.rf k' m get)=>some (k'=k,m,λi j=>.r (get i j))
 | .sl ref k' lo m c=>
   match M ref with
   | some (.vec _ k'' n get)=>some (k'=k/\k''=k/\lo+m<=n,m,λi j=>get (lo+i) j)
   | _=>none
 | _=>none
def aJ (n m:Nat) (g:Nat->Nat->SV) (h:Nat->Nat->SV):Nat->Nat->SV:=λi j=>if i<n then g i j else if i<n+m then h (i - n) j else g i j
def uC (e:TypeId) (ei:TI) (M:Mem) (nx:Nat) (s:SV) (ob:Prop) (m:Nat) (get:Nat->Nat->SV):GR:=
 match s with
 | .r (.v (.slice none 0 0))=>.new (ob/\0<ei.size/\m*ei.bytes<=140737488355328/\m<=9223372036854775807) (.vec e ei.size m get) (.sl nx ei.size 0 m none)
 | .r (.rf k n g)=>.new (ob/\0<ei.size/\k=ei.size/\(n=0\/0<m)/\(n+m)*ei.bytes<=140737488355328/\n+m<=9223372036854775807) (.vec e ei.size (n+m) (aJ n m (λi j=>.r (g i j)) get)) (.sl nx ei.size 0 (n+m) none)
 | .sl ref k 0 n none=>
   match M ref with
   | some (.vec e' k' N g)=>.app (ob/\0<ei.size/\e'=e/\k=ei.size/\k'=ei.size/\(n=N\/n+m<=N)/\(n+m)*ei.bytes<=140737488355328/\n+m<=9223372036854775807) ref (.vec e ei.size (N+(n+m - N)) λi j=>(aJ n m g get i j).kill ref) (.sl ref ei.size 0 (n+m) none)
   | _=>.bad
 | .sl ref k lo n (some c)=>
   match M ref with
   | some (.vec e' k' N g)=>.new (ob/\0<ei.size/\k=ei.size/\k'=ei.size/\lo+n<=N/\(c<n+m\/(n=0/\c=0))/\(n+m)*ei.bytes<=140737488355328/\n+m<=9223372036854775807) (.vec e ei.size (n+m) (aJ n m (λi j=>g (lo+i) j) get)) (.sl nx ei.size 0 (n+m) none)
   | _=>.bad
 | _=>.bad
def kW (T:Tab) (t:TypeId) (M:Mem) (nx:Nat) (s x:SV):GR:=
 match T.ti t with
 | some ⟨_,_,_,.slice e⟩=>
   match T.ti e with
   | none=>.bad
   | some ei=>
     match gH M ei.size x with
     | none=>.bad
     | some (ob,m,get)=>uC e ei M nx s ob m get
 | _=>.bad
def iJ (T:Tab) (t t':TypeId) (M:Mem) (nx:Nat) (s x:SV):GR:=
 match T.ti t,(T.ti t').map TI.kind,x with
 | some ⟨_,_,_,.slice e⟩,some (.int _),.r (.v (.int .i64 m))=>
   match T.ti e with
   | none=>.bad
   | some ei=>match s with
     | .sl ref k lo n (some c)=>uC e ei M nx (.sl ref k lo n (some c)) (0<m/\m*ei.bytes<=140737488355328/\m<=9223372036854775807) m.toNat λ_ j=>(match ei.zero[j]? with | some z=>.r (.v z.val) | none=>.r .any)
     | _=>.bad
 | _,_,_=>.bad
def yD (T:Tab) (t:TypeId) (M:Mem) (s x:SV):GR:=
 match T.ti t with
 | some ⟨_,_,_,.slice e⟩=>
   match T.ti e with
   | none=>.bad
   | some ei=>
     match gH M ei.size x,s with
     | some (ob,m,get),.sl ref k lo n c=>
       match M ref with
       | some (.vec e' k' N g)=>.set (ob/\k=ei.size/\k'=ei.size/\lo+n<=N) ref (.vec e' k' N λi j=>if lo<=i/\i<lo+min m n then get (i - lo) j else g i j) (.i (min m n:Nat))
       | _=>.bad
     | _,_=>.bad
 | _=>.bad
def rJ (T:Tab) (t:TypeId) (M:Mem) (s:SV):GR:=
 match T.ti t with
 | some ⟨_,_,_,.slice e⟩=>
   match T.ti e with
   | none=>.bad
   | some ei=>
     match s with
     | .sl ref k lo n c=>
       match M ref with
       | some (.vec e' k' N g)=>.set (k=ei.size/\k'=ei.size/\lo+n<=N) ref (.vec e' k' N λi j=>if lo<=i/\i<lo+n then (match ei.zero[j]? with | some z=>.r (.v z.val) | none=>.r .any) else g i j) (.tup [])
       | _=>.bad
     | .r (.v (.slice none 0 0))=>.pure True (.tup [])
     | _=>.bad
 | _=>.bad
def aQ4 (T:Tab) (t:TypeId) (x:SV):GR:=
 match T.ti t with
 | some ⟨_,_,_,.slice e⟩=>
   match x with
   | .r (.rs k n get)=>.pure True (.i n)
   | .r (.rf k n get)=>.pure True (.i n)
   | .sl ref k lo n c=>.pure True (.i n)
   | .r (.v (.slice none 0 0))=>.pure True (.i 0)
   | _=>.bad
 | some ⟨_,_,_,.array n _ _⟩=>.pure True (.i n)
 | _=>.bad
def mP (mx:Bool):List SV->GR
 | [.r (.v (.int .i64 a)),.r (.v (.int .i64 b))]=>.pure True (.i (if mx then max a b else min a b))
 | [.r (.v (.int .i64 a)),.r (.v (.int .i64 b)),.r (.v (.int .i64 c))]=>.pure True (.i (if mx then max (max a b) c else min (min a b) c))
 | _=>.bad
def gC (T:Tab) (b:Builtin) (ts:List TypeId) (M:Mem) (nx:Nat) (args:List SV):GR:=
 match b,ts,args with
 | .len,[t],[x]=>aQ4 T t x
 | .append,[t,t'],[s,x]=>if t=t' then kW T t M nx s x else iJ T t t' M nx s x
 | .copy,[t,_],[s,x]=>yD T t M s x
 | .clear,[t],[s]=>rJ T t M s
 | .max,_,l=>mP true l
 | .min,_,l=>mP false l
 | _,_,_=>.bad
def aFz (T:Tab) (t:TypeId):Option TypeId:=
 match T.ti t with
 | some ⟨_,_,_,.map k e⟩=>match T.ti k with | some ⟨_,_,_,.int .i64⟩=>some e | _=>none
 | _=>none
def yW (ok:Bool) (s:SV) (b:Bool):SV:=if ok then .tup [s,.b b] else s
def aQ3 (ok h:Bool) (s z:SV):GR:=if h=true then .pure True (yW ok s true) else .pure True (yW ok z false)
def jH (T:Tab) (M:Mem) (t:TypeId) (m x:SV) (ok:Bool):GR:=
 match aFz T t with
 | none=>.bad
 | some e=>
   match T.ti e with
   | none=>.bad
   | some ei=>
     if ei.agg then .bad else
     match x with
     | .r (.v (.int .i64 a))=>
       match m with
       | .mp ref=>match M ref with
         | some (.map has val _)=>aQ3 ok (has a) (val a) (.r (.v ei.zeroV))
         | _=>.bad
       | .r (.mp has val)=>aQ3 ok (has a) (.r (val a)) (.r (.v ei.zeroV))
       | .r (.v (.map none))=>.pure True (yW ok (.r (.v ei.zeroV)) false)
       | _=>.bad
     | _=>.bad
def eY (T:Tab) (M:Mem) (t:TypeId) (m x y:SV):GR:=
 match aFz T t with
 | none=>.bad
 | some e=>
   match x with
   | .r (.v (.int .i64 a))=>
     match m with
     | .mp ref=>match M ref with
       | some (.map has val st)=>.set (y.one=true) ref (.map (λk=>if k=a then true else has k) (λk=>if k=a then y else val k) (if has a=true then st else none)) (.r .any)
       | _=>.bad
     | _=>.bad
   | _=>.bad
def lR (T:Tab) (t:TypeId) (r:Option SV) (nx:Nat):GR:=
 match aFz T t with
 | none=>.bad
 | some e=>match r with
   | none=>.new True (.map (λ_=>false) (λ_=>.r .any) none) (.mp nx)
   | some (.r (.v (.int _ _)))=>.new True (.map (λ_=>false) (λ_=>.r .any) none) (.mp nx)
   | _=>.bad
def gU (T:Tab) (t:TypeId) (l c:SV) (nx:Nat):GR:=
 match T.ti t with
 | some ⟨_,_,_,.slice e⟩=>
   match T.ti e with
   | none=>.bad
   | some ei=>match l,c with
     | .r (.v (.int .i64 n)),.r (.v (.int .i64 m))=>
       .new (n=m/\0<=n/\0<ei.size/\n*ei.bytes<=140737488355328/\n<=140737488355328) (.vec e ei.size n.toNat λ_ j=>(match ei.zero[j]? with | some z=>.r (.v z.val) | none=>.r .any)) (.sl nx ei.size 0 n.toNat none)
     | _,_=>.bad
 | _=>.bad
def wE (T:Tab) (t:TypeId) (x:SV) (f:Nat):GR:=
 match T.ti t with
 | some ⟨_,_,_,.struct fs⟩=>
   match fs[f]? with
   | some (o,s,g)=>
     match x with
     | .agg l=>if g then .pure (o+s<=l.length) (.agg (bL (λj=>l.getD j (.r .any)) o s)) else .pure (o<l.length) (l.getD o (.r .any))
     | _=>.bad
   | none=>.bad
 | _=>.bad
def pU (T:Tab) (t:TypeId) (x i:SV):GR:=
 match i with
 | .r (.v (.int _ ix))=>
   match T.ti t with
   | some ⟨_,_,_,.array n es g⟩=>
     match x with
     | .agg l=>if g then .pure (0<=ix/\ix<n/\ix.toNat*es+es<=l.length) (.agg (bL (λj=>l.getD j (.r .any)) (ix.toNat*es) es)) else .pure (0<=ix/\ix<n/\ix.toNat*es<l.length) (l.getD (ix.toNat*es) (.r .any))
     | _=>.bad
   | _=>.bad
 | _=>.bad
def dU (T:Tab) (op:Op) (E:Env) (M:Mem) (nx:Nat):GR:=
 match op with
 | .lookup t m x ok=>jH T M t (ev E m) (ev E x) ok
 | .mapUpdate t m x y | .insert t m x y=>eY T M t (ev E m) (ev E x) (ev E y)
 | .makeMap t r=>lR T t (r.map (ev E)) nx
 | .makeSlice t l c=>gU T t (ev E l) (ev E c) nx
 | .field t x f=>wE T t (ev E x) f
 | .index t x i=>pU T t (ev E x) (ev E i)
 | .move x | .assign x=>.pure True (ev E x)
 | .box t x=>match T.ti t with
   | some i=>.new (iT (ev E x).cells=true/\(ev E x).cells.length=i.size) (.box (ev E x).cells) (.ptr nx 0 i.size 0)
   | none=>.bad
 | .alloc t=>match T.ti t with
   | some i=>.new True (.box (i.zero.map λz=>.r (.v z.val))) (.ptr nx 0 i.size 0)
   | none=>.bad
 | .build t ps=>rI T t (ps.toList.map λp=>(p.1,ev E p.2))
 | .buildSlice t len ps=>eW T t len nx (ps.toList.map λp=>(p.1,ev E p.2))
 | .load t x=>oO T t M (ev E x)
 | .store t x y=>oQ T t M (ev E x) (ev E y)
 | .nilCheck x=>match ev E x with
   | .ptr a b c d=>.pure True (.ptr a b c d)
   | .r (.rp a b c d e)=>.pure True (.r (.rp a b c d e))
   | .fn f a b=>match f with | .func _=>.pure True (.fn f a b) | _=>.bad
   | _=>.bad
 | .binOp op t x y _=>match mM op (ev E x) (ev E y) with
   | .bad=>match op with | .eql=>geq T t (ev E x) (ev E y) false | .neq=>geq T t (ev E x) (ev E y) true | _=>.bad
   | g=>g
 | .unOp op _ x=>match op,ev E x with
   | .not,.r (.v (.bool t))=>.pure True (.b (!t))
   | .not,.r (.bx φ)=>.pure True (.r (.bx λt=>φ (!t)))
   | .neg,.r (.v (.int k n))=>.pure (inr k (0 - n)) (.r (.v (.int k (0 - n))))
   | _,_=>.bad
 | .convert s d x=>match T.ti s,T.ti d,ev E x with
   | some ⟨_,_,_,.int _⟩,some ⟨_,_,_,.int k⟩,.r (.v (.int _ n))=>.pure True (.r (.v (.int k (k.wrap n))))
   | _,_,_=>.bad
 | .makeFunc f fi ca=>.pure True (.fn f (fi.toList.map (ev E)) (ca.toList.map (ev E)))
 | .slice t x lo hi mx=>lF T M t (ev E x) (lo.map (ev E)) (hi.map (ev E)) (mx.map (ev E))
 | .fieldAddr t x f=>gE T t (ev E x) f
 | .indexAddr t x i=>mO T t (ev E x) (ev E i)
 | .extract x i=>match ev E x with
   | .tup l=>match l[i]? with | some s=>.pure True s | none=>.bad
   | _=>.bad
 | .call c=>match c.callee with
   | .builtin b=>gC T b c.argTypes.toList M nx (c.args.toList.map (ev E))
   | .value f=>match ev E f with
     | .fn (.func g) fi ca=>.call g (fi++c.args.toList.map (ev E)++ca)
     | .r (.fn (.func g) nf nc fi ca)=>.call g (bL (λi=>.r (fi i)) 0 nf++c.args.toList.map (ev E)++bL (λi=>.r (ca i)) 0 nc)
     | _=>.bad
   | _=>.bad
 | _=>.bad
end Go.Gx
namespace Go.Gx
open Go.RowKit
def bH {α:Type} (f:Nat->α) (k:Nat) (v:α):Nat->α:=λx=>if x=k then v else f x
theorem aZ {α:Type} (f:Nat->α) (k:Nat) (v:α):bH f k v k=v:=by simp[bH]
theorem aW {α:Type} (f:Nat->α) {k x:Nat} (v:α) (h:x≠k):bH f k v x=f x:=by simp[bH,h]
structure FrS (uu:Bool) (W:Nat->Prop) (n0:Nat) (w w':World):Prop where
 os:w'.os=w.os
 tape:w'.tape=w.tape
 output:w'.output=w.output
 size:w.heap.size<=w'.heap.size
 drawn:Dr uu w w'
 block:∀b,b<n0->¬W b->w'.heap[b]? =w.heap[b]?
variable {uu:Bool}
theorem FrS.refl (W:Nat->Prop) (n0:Nat) (w:World):FrS uu W n0 w w:=⟨rfl,rfl,rfl,Nat.le_refl _,Dr.refl _,λ_ _ _=>rfl⟩
theorem FrS.as {vv:Bool} {W:Nat->Prop} {n0:Nat} {w w':World} (h:FrS uu W n0 w w') (hu:vv=true->uu=true):FrS vv W n0 w w':=⟨h.os,h.tape,h.output,h.size,h.drawn.as hu,h.block⟩
theorem FrS.to {W:Nat->Prop} {n0:Nat} {w w':World} (h:FrS true W n0 w w'):FrS uu W n0 w w':=⟨h.os,h.tape,h.output,h.size,h.drawn.to,h.block⟩
section
variable {B W F:Nat->Prop} {n0:Nat} {σ σ':Sig} {M:Mem} {nx:Nat} {w w':World}
theorem fC {b:Nat} {o:Obj} (h:w.heap[b]? =some o):b<w.heap.size:=by
 rcases Nat.lt_or_ge b w.heap.size with h1 | h1
 ·exact h1
 ·rw[Array.getElem?_eq_none h1] at h;cases h
theorem RegOK.block {Z:Nat->Prop} {L:rY} {R:Reg} (h:RegOK σ Z w L R) {b:Nat} (hb:L.at_=some b):b<w.heap.size:=by
 cases R with
 | box l=>
   obtain⟨b',cs,ty,h1,h2,_⟩:=h;rw[hb] at h1;cases h1;exact fC h2
 | vec e k n g=>
   obtain⟨_,_,h | ⟨b',cs,h1,h2,_⟩⟩:=h
   ·rw[hb] at h;cases h.1
   ·rw[hb] at h1;cases h1;exact fC h2
 | map has val st=>
   obtain⟨b',es,ck,h1,h2,_⟩:=h;rw[hb] at h1;cases h1;exact fC h2
 | iter m f c all left la=>
   obtain⟨b',mo,seen,sp,h1,h2,_⟩:=h;rw[hb] at h1;cases h1;exact fC h2
theorem RegOK.mono {Z Z':Nat->Prop} {L:rY} {R:Reg} (hs:oC σ σ') (hk:bZ Z Z' w w') (hb:∀b,L.at_=some b->w'.heap[b]? =w.heap[b]?) (h:RegOK σ Z w L R):RegOK σ' Z' w' L R:=by
 cases R with
 | box l=>
   obtain⟨b',cs,ty,h1,h2,h3,h4⟩:=h;exact⟨b',cs,ty,h1,(hb _ h1).trans h2,h3,SV.relL_mono hs hk _ _ h4⟩
 | vec e k n g=>
   obtain⟨h0,hm,h | ⟨b',cs,h1,h2,h3,ho,h5⟩⟩:=h
   ·exact⟨h0,hm,.inl h⟩
   ·refine⟨h0,hm,.inr ⟨b',cs,h1,(hb _ h1).trans h2,h3,ho,λi j hi hj=>?_⟩⟩;obtain⟨v,hv,ho,hr⟩:=h5 i j hi hj;exact⟨v,hv,ho,SV.rel_mono hs hk _ _ hr⟩
 | map has val st=>
   obtain⟨b',es,ck,h1,h2,h3,h4⟩:=h;exact⟨b',es,ck,h1,(hb _ h1).trans h2,h3.mono λa v _ hv=>SV.rel_mono hs hk _ _ hv,h4⟩
 | iter m f c all left la=>
   obtain⟨b',mo,seen,sp,h1,h2,h3,h4,h5⟩:=h;exact⟨b',mo,seen,sp,h1,(hb _ h1).trans h2,h3,SV.rel_mono hs hk _ _ h4,h5⟩
theorem MOK.notZ (hm:MOK B W n0 σ M F w) {r:Nat} {R:Reg} {L:rY} {b:Nat} (h1:M r=some R) (h2:σ r=some L) (h3:L.at_=some b):¬Zof B σ M w b:=λh=>h.2 r R L h1 h2 h3
theorem mW (hm:MOK B W n0 σ M F w) (hq:F nx) (hn0:n0<=w.heap.size) (hsz:w.heap.size<=w'.heap.size) (hsame:∀b,b<w.heap.size->w'.heap[b]? =w.heap[b]?) {L:rY} {R:Reg}
 (hL:∀b,L.at_=some b->w.heap.size<=b)
 (hR:∀σ' Z',oC σ σ'->bZ (Zof B σ M w) Z' w w'->RegOK σ' Z' w' L R) :
 MOK B W n0 (bH σ nx (some L)) (bH M nx (some R)) (λr=>F r/\r≠nx) w'/\bZ (Zof B σ M w) (Zof B (bH σ nx (some L)) (bH M nx (some R)) w') w w'/\oC σ (bH σ nx (some L)):=by
 have hs:oC σ (bH σ nx (some L)):=by
  intro r L' h;by_cases hr:r=nx
  ·subst hr;rw[hm.fresh r hq] at h;cases h
  ·rw[aW _ _ hr];exact h
 have hk:bZ (Zof B σ M w) (Zof B (bH σ nx (some L)) (bH M nx (some R)) w') w w':=by
  intro b hb;refine⟨⟨⟨Nat.lt_of_lt_of_le hb.1.1 hsz,hb.1.2⟩,λr R' L' h1 h2 h3=>?_⟩,hsame b hb.1.1⟩;by_cases hr:r=nx
  ·subst hr;rw[aZ] at h1 h2
   cases h2
   have:=hL b h3;have:=hb.1.1;omega
  ·rw[aW _ _ hr] at h1 h2;exact hb.2 r R' L' h1 h2 h3
 refine⟨⟨hm.newB,λr hr=>?_,λr R' h=>?_,λr r' R1 R2 L1 L2 b h1 h2 h3 h4 h5 h6=>?_,λr R' L' b h1 h2 h3=>?_⟩,hk,hs⟩
 ·rw[aW _ _ hr.2];exact hm.fresh r hr.1
 ·by_cases hr:r=nx
  ·subst hr;rw[aZ] at h;cases h;exact⟨L,aZ ..,hR _ _ hs hk⟩
  ·rw[aW _ _ hr] at h;obtain⟨L',h1,h2⟩:=hm.reg r R' h;exact⟨L',hs _ _ h1,h2.mono hs hk λb hb=>hsame b (h2.block hb)⟩
 ·by_cases hr:r=nx
  ·by_cases hr':r'=nx
   ·omega
   ·subst hr;rw[aZ] at h3;cases h3;rw[aW _ _ hr'] at h2 h4;obtain⟨L',e1,e2⟩:=hm.reg r' R2 h2;rw[h4] at e1;cases e1;have h7:=e2.block h6;have:=hL b h5;omega
  ·by_cases hr':r'=nx
   ·subst hr';rw[aZ] at h4;cases h4;rw[aW _ _ hr] at h1 h3;obtain⟨L',e1,e2⟩:=hm.reg r R1 h1;rw[h3] at e1;cases e1;have h7:=e2.block h5;have:=hL b h6;omega
   ·rw[aW _ _ hr] at h1 h3;rw[aW _ _ hr'] at h2 h4;exact hm.inj r r' R1 R2 L1 L2 b h1 h2 h3 h4 h5 h6
 ·by_cases hr:r=nx
  ·subst hr;rw[aZ] at h2;cases h2;have:=hL b h3;omega
  ·rw[aW _ _ hr] at h1 h2;exact hm.own r R' L' b h1 h2 h3
theorem mX (hm:MOK B W n0 σ M F w) {ref:Nat} {R0 R:Reg} {L:rY} {b:Nat} (hM:M ref=some R0) (hσ:σ ref=some L) (hb:L.at_=some b)
 (hsz:w'.heap.size=w.heap.size) (hsame:∀x,x≠b->w'.heap[x]? =w.heap[x]?)
 (hR:∀Z',bZ (Zof B σ M w) Z' w w'->RegOK σ Z' w' L R) :
 MOK B W n0 σ (bH M ref (some R)) F w'/\bZ (Zof B σ M w) (Zof B σ (bH M ref (some R)) w') w w':=by
 have hs:oC σ σ:=λ_ _ h=>h;have hk:bZ (Zof B σ M w) (Zof B σ (bH M ref (some R)) w') w w':=by
  intro x hx;refine⟨⟨⟨by rw[hsz];exact hx.1.1,hx.1.2⟩,λr R' L' h1 h2 h3=>?_⟩,hsame x λe=>?_⟩
  ·by_cases hr:r=ref
   ·subst hr;exact hx.2 r R0 L' hM h2 h3
   ·rw[aW _ _ hr] at h1;exact hx.2 r R' L' h1 h2 h3
  ·subst e;exact hm.notZ hM hσ hb hx
 refine⟨⟨hm.newB,hm.fresh,λr R' h=>?_,λr r' R1 R2 L1 L2 x h1 h2 h3 h4 h5 h6=>?_,λr R' L' x h1 h2 h3=>?_⟩,hk⟩
 ·by_cases hr:r=ref
  ·subst hr;rw[aZ] at h;cases h;exact⟨L,hσ,hR _ hk⟩
  ·rw[aW _ _ hr] at h;obtain⟨L',h1,h2⟩:=hm.reg r R' h;refine⟨L',h1,h2.mono hs hk λx hx=>hsame x λe=>?_⟩;subst e;exact hr (hm.inj r ref R' R0 L' L x h hM h1 hσ hx hb)
 ·have a1:∃R',M r=some R':=by
   by_cases hr:r=ref
   ·exact⟨R0,by rw[hr];exact hM⟩
   ·rw[aW _ _ hr] at h1;exact⟨_,h1⟩
  have a2:∃R',M r'=some R':=by
   by_cases hr:r'=ref
   ·exact⟨R0,by rw[hr];exact hM⟩
   ·rw[aW _ _ hr] at h2;exact⟨_,h2⟩
  obtain⟨R1',a1⟩:=a1;obtain⟨R2',a2⟩:=a2;exact hm.inj r r' R1' R2' L1 L2 x a1 a2 h3 h4 h5 h6
 ·by_cases hr:r=ref
  ·subst hr;exact hm.own r R0 L' x hM h2 h3
  ·rw[aW _ _ hr] at h1;exact hm.own r R' L' x h1 h2 h3
mutual
theorem SV.rel_kill {ref:Nat} {Z Z':Nat->Prop} (hs:∀r L,r≠ref->σ r=some L->σ' r=some L) (hk:bZ Z Z' w w'):∀(s:SV) (y:Value),s.rel σ Z w y->(s.kill ref).rel σ' Z' w' y
 | .r x,y,h=>by
   unfold SV.kill;exact RV.rel_mono hk x y h
 | .ptr q row k fld,y,h=>by
   unfold SV.kill;split
   ·trivial
   ·rename_i hr;obtain⟨L,b,h1,h2,h3⟩:=h;exact⟨L,b,hs _ _ hr h1,h2,h3⟩
 | .sl q k lo n c,y,h=>by
   unfold SV.kill;split
   ·trivial
   ·rename_i hr;obtain⟨L,A,h1,h2⟩:=h;exact⟨L,A,hs _ _ hr h1,h2⟩
 | .mp q,y,h=>by
   unfold SV.kill;split
   ·trivial
   ·rename_i hr;obtain⟨L,b,h1,h2,h3⟩:=h;exact⟨L,b,hs _ _ hr h1,h2,h3⟩
 | .fn f fi ca,y,h=>by
   obtain⟨vs,ws,e,h1,h2⟩:=h;exact⟨vs,ws,e,SV.relL_kill hs hk _ _ h1,SV.relL_kill hs hk _ _ h2⟩
 | .agg l,y,h=>by
   obtain⟨vs,e,h1,h2⟩:=h;exact⟨vs,e,h1,SV.relL_kill hs hk _ _ h2⟩
 | .tup l,y,h=>by
   obtain⟨vs,e,h2⟩:=h;exact⟨vs,e,SV.relL_kill hs hk _ _ h2⟩
theorem SV.relL_kill {ref:Nat} {Z Z':Nat->Prop} (hs:∀r L,r≠ref->σ r=some L->σ' r=some L) (hk:bZ Z Z' w w'):∀(l:List SV) (ys:List Value),SV.relL σ Z w l ys->SV.relL σ' Z' w' (SV.killL ref l) ys
 | [],ys,h=>h
 | s::l,ys,h=>by
   obtain⟨v,vs',e,h1,h2⟩:=h;exact⟨v,vs',e,SV.rel_kill hs hk s v h1,SV.relL_kill hs hk l vs' h2⟩
end
theorem RegOK.kill {ref:Nat} {Z Z':Nat->Prop} {L:rY} {R:Reg} (hs:∀r L,r≠ref->σ r=some L->σ' r=some L) (hk:bZ Z Z' w w') (hb:∀b,L.at_=some b->w'.heap[b]? =w.heap[b]?) (h:RegOK σ Z w L R):RegOK σ' Z' w' L (R.kill ref):=by
 cases R with
 | box l=>
   obtain⟨b',cs,ty,h1,h2,h3,h4⟩:=h;exact⟨b',cs,ty,h1,(hb _ h1).trans h2,h3,SV.relL_kill hs hk _ _ h4⟩
 | vec e k n g=>
   obtain⟨h0,hm,h | ⟨b',cs,h1,h2,h3,ho,h5⟩⟩:=h
   ·exact⟨h0,hm,.inl h⟩
   ·refine⟨h0,hm,.inr ⟨b',cs,h1,(hb _ h1).trans h2,h3,ho,λi j hi hj=>?_⟩⟩;obtain⟨v,hv,ho,hr⟩:=h5 i j hi hj;exact⟨v,hv,ho,SV.rel_kill hs hk _ _ hr⟩
 | map has val st=>
   obtain⟨b',es,ck,h1,h2,h3,h4⟩:=h;exact⟨b',es,ck,h1,(hb _ h1).trans h2,h3.mono λa v _ hv=>SV.rel_kill hs hk _ _ hv,h4⟩
 | iter m f c all left la=>
   obtain⟨b',mo,seen,sp,h1,h2,h3,h4,h5⟩:=h;exact⟨b',mo,seen,sp,h1,(hb _ h1).trans h2,h3,SV.rel_kill hs hk _ _ h4,h5⟩
theorem aDs (hm:MOK B W n0 σ M F w) (hn0:n0<=w.heap.size) {ref:Nat} {R0 R:Reg} {L0 L:rY} (hM:M ref=some R0) (hσ:σ ref=some L0)
 (hsz:w.heap.size<=w'.heap.size) (hsame:∀x,x<w.heap.size->L0.at_≠some x->w'.heap[x]? =w.heap[x]?)
 (hL:∀b,L.at_=some b->L0.at_=some b\/w.heap.size<=b)
 (hR:∀σ' Z',(∀r L',r≠ref->σ r=some L'->σ' r=some L')->bZ (Zof B σ M w) Z' w w'->RegOK σ' Z' w' L R) :
 MOK B W n0 (bH σ ref (some L)) (bH (nU ref M) ref (some R)) F w'/\bZ (Zof B σ M w) (Zof B (bH σ ref (some L)) (bH (nU ref M) ref (some R)) w') w w'/\
 (∀r L',r≠ref->σ r=some L'->bH σ ref (some L) r=some L'):=by
 have hs:∀r L',r≠ref->σ r=some L'->bH σ ref (some L) r=some L':=λr L' hr h=>by rw[aW _ _ hr];exact h
 have hkm:∀r R',nU ref M r=some R'->∃R1,M r=some R1/\R'=R1.kill ref:=by
  intro r R' h;unfold nU at h
  cases hq:M r with
  | none=>rw[hq] at h;cases h
  | some R1=>rw[hq] at h;cases h;exact⟨R1,rfl,rfl⟩
 have hk:bZ (Zof B σ M w) (Zof B (bH σ ref (some L)) (bH (nU ref M) ref (some R)) w') w w':=by
  intro x hx;refine⟨⟨⟨Nat.lt_of_lt_of_le hx.1.1 hsz,hx.1.2⟩,λr R' L' h1 h2 h3=>?_⟩,hsame x hx.1.1 λe=>hm.notZ hM hσ e hx⟩;by_cases hr:r=ref
  ·subst hr;rw[aZ] at h2;cases h2;rcases hL x h3 with h | h
   ·exact hm.notZ hM hσ h hx
   ·have:=hx.1.1;omega
  ·rw[aW _ _ hr] at h1 h2;obtain⟨R1,e1,_⟩:=hkm r R' h1;exact hx.2 r R1 L' e1 h2 h3
 refine⟨⟨hm.newB,λr hr=>by rw[aW _ _ (λe=>by subst e;rw[hm.fresh _ hr] at hσ;cases hσ)];exact hm.fresh r hr,λr R' h=>?_,λr r' R1 R2 L1 L2 x h1 h2 h3 h4 h5 h6=>?_,λr R' L' x h1 h2 h3=>?_⟩,hk,hs⟩
 ·by_cases hr:r=ref
  ·subst hr;rw[aZ] at h;cases h;exact⟨L,aZ ..,hR _ _ hs hk⟩
  ·rw[aW _ _ hr] at h;obtain⟨R1,e1,rfl⟩:=hkm r R' h;obtain⟨L',h1,h2⟩:=hm.reg r R1 e1;refine⟨L',hs _ _ hr h1,h2.kill hs hk λx hx=>hsame x (h2.block hx) λe=>?_⟩;exact hr (hm.inj r ref R1 R0 L' L0 x e1 hM h1 hσ hx e)
 ·by_cases hr:r=ref
  ·by_cases hr':r'=ref
   ·omega
   ·subst hr;rw[aZ] at h3;cases h3;rw[aW _ _ hr'] at h2 h4;obtain⟨R3,e1,_⟩:=hkm r' R2 h2;rcases hL x h5 with h | h
    ·exact hm.inj r r' R0 R3 L0 L2 x hM e1 hσ h4 h h6
    ·obtain⟨L',e2,e3⟩:=hm.reg r' R3 e1;rw[h4] at e2;cases e2;have:=e3.block h6;omega
  ·by_cases hr':r'=ref
   ·subst hr';rw[aZ] at h4;cases h4;rw[aW _ _ hr] at h1 h3;obtain⟨R3,e1,_⟩:=hkm r R1 h1;rcases hL x h6 with h | h
    ·exact hm.inj r r' R3 R0 L1 L0 x e1 hM h3 hσ h5 h
    ·obtain⟨L',e2,e3⟩:=hm.reg r R3 e1;rw[h3] at e2;cases e2;have:=e3.block h5;omega
   ·rw[aW _ _ hr] at h1 h3;rw[aW _ _ hr'] at h2 h4;obtain⟨R3,e1,_⟩:=hkm r R1 h1;obtain⟨R4,e2,_⟩:=hkm r' R2 h2;exact hm.inj r r' R3 R4 L1 L2 x e1 e2 h3 h4 h5 h6
 ·by_cases hr:r=ref
  ·subst hr;rw[aZ] at h2;cases h2;rcases hL x h3 with h | h
   ·exact hm.own r R0 L0 x hM hσ h
   ·right;omega
  ·rw[aW _ _ hr] at h1 h2;obtain⟨R3,e1,_⟩:=hkm r R' h1;exact hm.own r R3 L' x e1 h2 h3
end
end Go.Gx
namespace Go.Gx
open Go.RowKit
def POut (B:Nat->Prop) (σ:Sig) (M:Mem) (w:World) (run:Result Next) (s:SV):Prop:=∃y,(run=.ok (.value y) w\/(run=.ok .skip w/\y=undef))/\s.rel σ (Zof B σ M w) w y
def rA (P:Program) (B W:Nat->Prop) (n0:Nat) (σ:Sig) (M:Mem) (F:Nat->Prop) (nx:Nat) (w:World) (run:Result Next):GR->Prop
 | .bad=>True
 | .pure ob s=>ob->POut B σ M w run s
 | .new ob R s=>ob->∃y w' L,run=.ok (.value y) w'/\MOK B W n0 (bH σ nx (some L)) (bH M nx (some R)) (λr=>F r/\r≠nx) w'/\
   bZ (Zof B σ M w) (Zof B (bH σ nx (some L)) (bH M nx (some R)) w') w w'/\s.rel (bH σ nx (some L)) (Zof B (bH σ nx (some L)) (bH M nx (some R)) w') w' y/\FrS true W n0 w w'
 | .set ob ref R s=>ob->∃y w',(run=.ok (.value y) w'\/(run=.ok .skip w'/\y=undef))/\MOK B W n0 σ (bH M ref (some R)) F w'/\
   bZ (Zof B σ M w) (Zof B σ (bH M ref (some R)) w') w w'/\s.rel σ (Zof B σ (bH M ref (some R)) w') w' y/\FrS true W n0 w w'
 | .app ob ref R s=>ob->∃y w' L,run=.ok (.value y) w'/\MOK B W n0 (bH σ ref (some L)) (bH (nU ref M) ref (some R)) F w'/\
   bZ (Zof B σ M w) (Zof B (bH σ ref (some L)) (bH (nU ref M) ref (some R)) w') w w'/\s.rel (bH σ ref (some L)) (Zof B (bH σ ref (some L)) (bH (nU ref M) ref (some R)) w') w' y/\FrS true W n0 w w'/\
   (∀r L',r≠ref->σ r=some L'->bH σ ref (some L) r=some L')
 | .call f args=>∃vs,SV.relL σ (Zof B σ M w) w args vs/\run=(callFunc f vs.toArray).run P w
section
variable {P:Program} {T:Tab} {B W F:Nat->Prop} {n0:Nat} {σ:Sig} {M:Mem} {nx:Nat} {w:World} {a:Act} {E:Env}
theorem dI (b o j:Nat):(⟨b,o,none⟩:Addr).add j=⟨b,o+j,none⟩:=by unfold Addr.add;split <;> simp_all
theorem zJ {t:TypeId} {i:TI} (h:dQ P t i=true) (hg:i.agg=true) {b o:Nat} {cs:List Value} (hl:cs.length=i.size) (hc:∀j v,cs[j]? =some v->w.cell? ⟨b,o+j,none⟩=some v) :
 (Instr.loadAt t (.pointer (some ⟨b,o,none⟩))).run P w=.ok (.agg cs.toArray) w:=by
 have h1:=run_loadCells_list (P:=P) w ⟨b,o,none⟩ cs (λj v hv=>by rw[dI];exact hc j v hv);rw[hl] at h1;simp[Instr.loadAt,Instr.sureAddr,loadVar,aK6 h w,hg,gI h w,h1]
theorem zK {t:TypeId} {i:TI} (h:dQ P t i=true) (hg:i.agg=false) {b o:Nat} {v:Value} (hc:w.cell? ⟨b,o,none⟩=some v) :
 (Instr.loadAt t (.pointer (some ⟨b,o,none⟩))).run P w=.ok v w:=by
 simp[Instr.loadAt,Instr.sureAddr,loadVar,aK6 h w,hg,hc]
theorem aKd {Z:Nat->Prop} {b:Nat} (g:Nat->SV):∀m o' o,(∀j,j<m->∃v,w.cell? ⟨b,o+j,none⟩=some v/\v.oneCell'=true/\(g (o'+j)).rel σ Z w v)->
 ∃cs:List Value,cs.length=m/\(∀j v,cs[j]? =some v->w.cell? ⟨b,o+j,none⟩=some v)/\(∀v∈cs,v.oneCell'=true)/\SV.relL σ Z w (bL g o' m) cs
 | 0,o',o,_=>⟨[],rfl,τ,τ,rfl⟩
 | m+1,o',o,h=>by
   obtain⟨v,h1,h2,h3⟩:=h 0 ω;obtain⟨cs,e1,e2,e3,e4⟩:=aKd g m (o'+1) (o+1) (λj hj=>by
    have:=h (j+1) ω
    rwa [show o+(j+1)=o+1+j from ω,show o'+(j+1)=o'+1+j from ω] at this)
   refine⟨v::cs,by simp[e1],λj u hu=>?_,λu hu=>?_,⟨v,cs,rfl,by simpa using h3,e4⟩⟩
   ·cases j with
    | zero=>simp at hu;subst hu;simpa using h1
    | succ j=>have:=e2 j u (by simpa using hu);rwa [show o+1+j=o+(j+1) from ω] at this
   ·simp at hu;rcases hu with rfl | hu
    ·exact h2
    ·exact e3 u hu
theorem aGs (hT:aX P T) (hm:MOK B W n0 σ M F w) (t:TypeId) {s:SV} {x:Value} (hx:s.rel σ (Zof B σ M w) w x) :
 rA P B W n0 σ M F nx w (((Instr.loadAt t x).run P w).andThen λv w'=>.ok (.value v) w') (oO T t M s):=by
 unfold oO;split
 ·trivial
 rename_i i hti;have hc:=hT.ti t i hti;have fin:∀(b o o':Nat) (g:Nat->SV),x=.pointer (some ⟨b,o,none⟩)->(∀j,j<i.size->∃v,w.cell? ⟨b,o+j,none⟩=some v/\v.oneCell'=true/\(g (o'+j)).rel σ (Zof B σ M w) w v)->
  i.agg=true->POut B σ M w (((Instr.loadAt t x).run P w).andThen λv w'=>.ok (.value v) w') (SV.agg (bL g o' i.size)):=by
  intro b o o' g e h hg;obtain⟨cs,h1,h2,h3,h4⟩:=aKd g i.size o' o h;refine⟨.agg cs.toArray,.inl ?_,cs,rfl,h3,h4⟩;rw[e,zJ hc hg h1 h2];rfl
 have fin1:∀(b o:Nat) (s':SV) ,x=.pointer (some ⟨b,o,none⟩)->(∃v,w.cell? ⟨b,o,none⟩=some v/\v.oneCell'=true/\s'.rel σ (Zof B σ M w) w v)->
  i.agg=false->POut B σ M w (((Instr.loadAt t x).run P w).andThen λv w'=>.ok (.value v) w') s':=by
  intro b o s' e h hg;obtain⟨v,h1,h2,h3⟩:=h;refine⟨v,.inl ?_,h3⟩;rw[e,zK hc hg h1];rfl
 split
 ·rename_i ref row k fld;obtain⟨L,b,h1,h2,hxx⟩:=hx;split
  ·rename_i l hM;obtain⟨L',e1,e2⟩:=hm.reg ref _ hM;rw[h1] at e1;cases e1;obtain⟨b',cs,ty,f1,f2,f3,f4⟩:=e2;rw[h2] at f1;cases f1;have hlen:=SV.relL_length f4;have cell:∀j,j<l.length->∃v,w.cell? ⟨b,j,none⟩=some v/\v.oneCell'=true/\(l.getD j (.r .any)).rel σ (Zof B σ M w) w v:=by
    intro j hj;obtain⟨v,g1,g2⟩:=SV.relL_get f4 j l[j] (List.getElem?_eq_getElem hj);refine⟨v,?_,f3 v (List.mem_of_getElem? g1),?_⟩
    ·simp[World.cell?,f2,g1]
    ·simpa [List.getD,List.getElem?_eq_getElem hj] using g2
   split
   ·rename_i hg;intro ob;exact fin b (row*k+fld) (row*k+fld) _ hxx (λj hj=>cell _ ω) hg
   ·rename_i hg;intro ob;exact fin1 b (row*k+fld) _ hxx (cell _ ob) (by simpa using hg)
  ·rename_i e k' n get hM;obtain⟨L',e1,e2⟩:=hm.reg ref _ hM;rw[h1] at e1;cases e1;obtain⟨f0,fm,f | ⟨b',cs,f1,f2,f3,fo,f5⟩⟩:=e2
   ·rw[h2] at f;cases f.1
   rw[h2] at f1;cases f1;have cell:∀i' j,i'<n->j<k'->∃v,w.cell? ⟨b,i'*k'+j,none⟩=some v/\v.oneCell'=true/\(get i' j).rel σ (Zof B σ M w) w v:=by
    intro i' j hi hj;obtain⟨v,g1,g0,g2⟩:=f5 i' j hi hj;exact⟨v,by simp[World.cell?,f2,g1],g0,g2⟩
   split
   ·rename_i hg;rintro⟨rfl,ob1,ob2⟩;refine fin b (row*k'+fld) fld _ hxx (λj hj=>?_) hg;have:=cell row (fld+j) ob1 ω
    rwa [<- Nat.add_assoc] at this
   ·rename_i hg;rintro⟨rfl,ob1,ob2⟩;exact fin1 b (row*k'+fld) _ hxx (cell row fld ob1 ob2) (by simpa using hg)
  ·trivial
 ·rename_i k n get row fld;obtain⟨b,o,hxx,hz,hcell⟩:=hx;split
  ·rename_i hg;rintro⟨ob1,ob2⟩;refine fin b (o+(row*k+fld)) fld _ hxx (λj hj=>?_) hg;have:=hcell row (fld+j) ob1 ω
   rwa [show o+(row*k+(fld+j))=o+(row*k+fld)+j from ω] at this
  ·rename_i hg;rintro⟨ob1,ob2⟩;exact fin1 b (o+(row*k+fld)) _ hxx (hcell row fld ob1 ob2) (by simpa using hg)
 ·trivial
end
end Go.Gx
namespace Go.Gx
open Go.RowKit
section
variable {P:Program} {T:Tab} {B W F:Nat->Prop} {n0:Nat} {σ:Sig} {M:Mem} {nx:Nat} {w:World} {a:Act} {E:Env}
def cY (r:Result Value):Result Next:=r.andThen λv w'=>.ok (.value v) w'
theorem bH7 (v:Value) (w:World):cY (.ok v w)=.ok (.value v) w:=rfl
theorem POut.val {s:SV} {y:Value} (h:s.rel σ (Zof B σ M w) w y):POut B σ M w (.ok (.value y) w) s:=⟨y,.inl rfl,h⟩
theorem POut.of {s:SV} {y:Value} {r:Result Value} (hr:r=.ok y w) (h:s.rel σ (Zof B σ M w) w y):POut B σ M w (cY r) s:=⟨y,.inl (by rw[hr];rfl),h⟩
theorem kA (op:BinOp) (t:TypeId) (x y:Operand) (u v:Value) (hu:∀c,u≠.agg c) (hn:u≠.nilIface):(eqGuard op t x y u v).run P w=.ok () w:=by
 unfold eqGuard;by_cases h:(op matches .eql | .neq)=true
 ·cases op <;> simp at h <;> (cases u <;> cases v <;> simp_all)
 ·cases op <;> simp_all
theorem aXh (op:BinOp) (t:TypeId) (ox oy:Operand) {s s':SV} {x y:Value} (hx:s.rel σ (Zof B σ M w) w x) (hy:s'.rel σ (Zof B σ M w) w y) :
 rA P B W n0 σ M F nx w (cY ((do eqGuard op t ox oy x y;binOp op t x y:Sem Value).run P w)) (mM op s s'):=by
 unfold mM;split
 all_goals first | trivial | skip
 all_goals (cases hx;cases hy)
 all_goals (intro ob;rw[Sem.run_bind,kA _ t ox oy _ _ τ τ,Result.andThen_ok])
 ·exact POut.of (by simp[binOp,Op.shift,ob,Int.not_lt.2 ob]) rfl
 ·exact POut.of (by simp[binOp,Op.shift,ob,Int.not_lt.2 ob]) rfl
 ·obtain⟨rfl,h⟩:=ob;exact POut.of (by simp[binOp,Op.intArith,bX h]) rfl
 ·obtain⟨rfl,h⟩:=ob;exact POut.of (by simp[binOp,Op.intArith,bX h]) rfl
 ·obtain⟨rfl,h⟩:=ob;refine POut.of (y:=.int _ (if _=IntKind.u64 then _ else _)) ?_ rfl;split
  ·simp[binOp,Op.intArith]
  ·rename_i hk;simp[binOp,Op.intArith,bX (h.resolve_left hk)]
 ·obtain⟨rfl,h0,h⟩:=ob;exact POut.of (by simp[binOp,Op.intDiv,h0,bX h]) rfl
 ·obtain⟨rfl,h0⟩:=ob;exact POut.of (by simp[binOp,Op.intDiv,h0]) rfl
 ·subst ob;exact POut.of (by simp[binOp,Op.intBits]) rfl
 ·subst ob;exact POut.of (by simp[binOp,Op.intBits]) rfl
 ·subst ob;exact POut.of (by simp[binOp,Op.intBits]) rfl
 ·subst ob;exact POut.of (by simp[binOp,Op.intBits]) rfl
 ·subst ob;exact POut.of (by simp[binOp,Op.intCmp];rfl) rfl
 ·subst ob;exact POut.of (by simp[binOp,Op.intCmp];rfl) rfl
 ·subst ob;exact POut.of (by simp[binOp,Op.intCmp]) rfl
 ·subst ob;exact POut.of (by simp[binOp,Op.intCmp]) rfl
 ·subst ob;exact POut.of (by simp[binOp,Op.intCmp]) rfl
 ·subst ob;exact POut.of (by simp[binOp,Op.intCmp]) rfl
theorem tH {Z:Nat->Prop}:∀{cs:List CK} {xs:List SV} {us vs:List Value},nG cs xs=some us->SV.relL σ Z w xs vs->us=vs/\iU cs vs
 | [],[],us,vs,h,hr=>by
   simp[nG] at h;subst h
   cases hr;exact⟨rfl,rfl⟩
 | [],_::_,us,vs,h,hr=>by simp[nG] at h
 | c::cs,[],us,vs,h,hr=>by cases c <;> simp[nG] at h
 | .int k::cs,x::xs,us,vs,h,hr=>by
   obtain⟨v,vs',rfl,h1,h2⟩:=hr
   cases x with
   | r x=>cases x with
     | v x=>cases x with
       | int k' n=>
         simp only [nG] at h;split at h
         ·rename_i hk;subst hk
          cases hq:nG cs xs with
          | none=>rw[hq] at h;simp at h
          | some l=>
            rw[hq] at h;simp at h;subst h;obtain⟨e1,e2⟩:=tH hq h2
            cases h1
            exact⟨by rw[e1],_,_,rfl,⟨n,rfl⟩,e2⟩
         ·simp at h
       | _=>simp[nG] at h
     | _=>simp[nG] at h
   | _=>simp[nG] at h
 | .bool::cs,x::xs,us,vs,h,hr=>by
   obtain⟨v,vs',rfl,h1,h2⟩:=hr
   cases x with
   | r x=>cases x with
     | v x=>cases x with
       | bool b=>
         simp only [nG] at h
         cases hq:nG cs xs with
         | none=>rw[hq] at h;simp at h
         | some l=>
           rw[hq] at h;simp at h;subst h;obtain⟨e1,e2⟩:=tH hq h2
           cases h1
           exact⟨by rw[e1],_,_,rfl,⟨b,rfl⟩,e2⟩
       | _=>simp[nG] at h
     | _=>simp[nG] at h
   | _=>simp[nG] at h
theorem nL (hT:aX P T) {t:TypeId} (ob:((T.ti t).map (·.kind)).any (fun | .slice _=>true | _=>false)=true):∃e,P.underlying t=some (.slice e):=by
 cases ht:T.ti t with
 | none=>rw[ht] at ob;simp at ob
 | some i=>
   rw[ht] at ob;simp only [Option.map_some,Option.any_some] at ob
   cases hk:i.kind with
   | slice e=>exact⟨e,eK (hT.ti t i ht) hk⟩
   | _=>rw[hk] at ob;simp at ob
theorem rU {t e:TypeId} (h:P.underlying t=some (.slice e)) (A:Option Addr) (n c:Nat):(Op.equal t (.slice A n c) (.slice none 0 0)).run P w=.ok A.isNone w:=by
 have key:∀d,(Op.equalIn (d+1) t (.slice A n c) (.slice none 0 0)).run P w=.ok A.isNone w:=by
  intro d
  cases A <;> simp[Op.equalIn,run_underlying h]
 exact key 9999
theorem lB (op:BinOp) (t:TypeId) (x y:Operand) (A:Option Addr) (n c:Nat) (v:Value):(eqGuard op t x y (.slice A n c) v).run P w=.ok () w:=
 kA op t x y _ _ τ τ
theorem aTi (hT:aX P T) (neg:Bool) (op:BinOp) (hop:op=if neg then .neq else .eql) (t:TypeId) (ox oy:Operand) {s s':SV} {x y:Value} (hx:s.rel σ (Zof B σ M w) w x) (hy:s'.rel σ (Zof B σ M w) w y) :
 rA P B W n0 σ M F nx w (cY ((do eqGuard op t ox oy x y;binOp op t x y:Sem Value).run P w)) (geq T t s s' neg):=by
 have hb:∀(b:Bool),(∀k n,x≠.int k n)->(∀k n,x≠.float k n)->(∀k n m,x≠.complex k n m)->(∀s,x≠.string s)->(Op.equal t x y).run P w=.ok b w->(eqGuard op t ox oy x y).run P w=.ok () w->
  (do eqGuard op t ox oy x y;binOp op t x y:Sem Value).run P w=.ok (.bool (if neg then !b else b)) w:=by
  intro b h1 h2 h3 h4 h5 h6;rw[Sem.run_bind,h6,Result.andThen_ok];subst hop
  cases neg <;> cases x <;> simp_all [binOp]
 unfold geq;split
 ·rename_i a b
  cases hx;cases hy
  intro ob;have hu:P.underlying t=some .bool:=by
   cases ht:T.ti t with
   | none=>rw[ht] at ob;simp at ob
   | some i=>rw[ht] at ob;simp at ob;exact aTt (hT.ti t i ht) ob
  refine POut.of (hb (a==b) τ τ τ τ (run_equal_bool w t a b hu) (kA _ _ _ _ _ _ τ τ)) ?_
  cases neg <;> simp[SV.rel,RV.rel] <;> rfl
 ·rename_i xs ys;obtain⟨us,rfl,_,hl⟩:=hx;obtain⟨vs,rfl,_,hl'⟩:=hy;split
  ·rename_i cs hcs;split
   ·rename_i us' vs' h1 h2;obtain⟨rfl,e1⟩:=tH h1 hl;obtain⟨rfl,e2⟩:=tH h2 hl';intro _;have h3:=hT.eq t cs hcs us' vs' w e1 e2;refine POut.of (hb (kB us' vs') τ τ τ τ h3.1 (h3.2 _ _ _)) ?_
    cases neg <;> rfl
   ·trivial
  ·trivial
 ·rename_i k n get
  cases hy
  obtain⟨A,c,rfl,hc,hA⟩:=hx;intro ob;obtain⟨e,hu⟩:=nL hT ob;refine POut.of (hb A.isNone τ τ τ τ (rU hu A n c) (lB ..)) ?_;refine⟨_,λh=>?_,rfl⟩;have h':A.isNone=true:=by cases neg <;> simpa using h
  rcases Nat.eq_zero_or_pos n with h0 | h0
  ·exact h0
  ·obtain⟨b,o,e1,_⟩:=hA h0;rw[e1] at h';simp at h'
 ·rename_i ref k lo n c
  cases hy
  obtain⟨L,A,h1,rfl,hc,_,hA,_⟩:=hx;intro ob;obtain⟨e,hu⟩:=nL hT ob;refine POut.of (hb A.isNone τ τ τ τ (rU hu A n _) (lB ..)) ?_;refine⟨_,λh=>?_,rfl⟩;have h':A.isNone=true:=by cases neg <;> simpa using h
  rcases Nat.eq_zero_or_pos n with h0 | h0
  ·exact h0
  ·obtain⟨b,e0,e1⟩:=hA ω;rw[e1] at h';simp at h'
 ·cases hx;cases hy
  intro ob;obtain⟨e,hu⟩:=nL hT ob;refine POut.of (hb true τ τ τ τ (rU hu none 0 0) (lB ..)) ?_
  cases neg <;> rfl
 ·trivial
end
end Go.Gx
