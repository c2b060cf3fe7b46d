/-
 Texts of the walk, merged: Ko.
-/
import Derived.Test.YtncccnmmjfapnaaGreatZae
set_option linter.unusedVariables false
set_option linter.unusedSimpArgs false
set_option maxRecDepth 100000
set_option maxHeartbeats 4000000
namespace Go.Gx
open Go.RowKit
def aYm (P:Program) (t:TypeId) (cs:List CK):Bool:=
 match P.underlying t with
 | some (.struct fa)=>aHx P fa.toList cs 0&&!P.stoodInHeld t&&kN P t cs.length
 | _=>match cs with | [c]=>vA P t c | _=>false
def xP (P:Program):List Field->List CK->List Nat->Nat->Bool
 | [],[],[],_=>true
 | f::fs,cs,n::ns,o=>decide (f.name≠ "_")&&decide (f.offset=o)&&aYm P f.type (cs.take n)&&decide (n<=cs.length)&&xP P fs (cs.drop n) ns (o+n)
 | _,_,_,_=>false
def xQ (P:Program) (t:TypeId) (cs:List CK) (ns:List Nat):Bool:=
 (match P.underlying t with | some (.struct fa)=>xP P fa.toList cs ns 0 | _=>false)&&!P.stoodInHeld t&&!P.eqGuardType P.depth t
theorem rK:∀{cs:List CK} {xs:List Value} (n:Nat),n<=cs.length->iU cs xs->iU (cs.take n) (xs.take n)/\iU (cs.drop n) (xs.drop n)
 | cs,xs,0,_,h=>⟨rfl,h⟩
 | [],xs,n+1,h,_=>by simp at h
 | c::cs,xs,n+1,hn,h=>by
   obtain⟨x,xs',rfl,h1,h2⟩:=h;obtain⟨a,b⟩:=rK n (by simpa using hn) h2;exact⟨⟨x,xs'.take n,rfl,h1,a⟩,b⟩
theorem xR:∀(n:Nat) (xs ys:List Value),xs.length=ys.length->kB xs ys=(kB (xs.take n) (ys.take n)&&kB (xs.drop n) (ys.drop n))
 | 0,xs,ys,_=>by simp[kB]
 | n+1,[],[],_=>by simp[kB]
 | n+1,x::xs,y::ys,h=>by
   simp only [kB,List.take_succ_cons,List.drop_succ_cons];rw[xR n xs ys (by simpa using h),Bool.and_assoc]
theorem qM {P:Program} (w:World) (d:Nat) (xs ys:List Value):∀(fs:List Field) (cs:List CK) (ns:List Nat) (o:Nat),xP P fs cs ns o=true->iU cs (xs.drop o)->iU cs (ys.drop o)->
 (Op.eqFields (d+2) xs.toArray ys.toArray fs).run P w=.ok (kB (xs.drop o) (ys.drop o)) w
 | [],[],[],o,_,hx,hy=>by
   simp only [iU] at hx hy;rw[hx,hy];rfl
 | [],_::_,_,o,h,_,_=>by simp[xP] at h
 | [],[],_::_,o,h,_,_=>by simp[xP] at h
 | _::_,_,[],o,h,_,_=>by simp[xP] at h
 | f::fs,cs,n::ns,o,h,hx,hy=>by
   simp only [xP,Bool.and_eq_true,decide_eq_true_eq] at h;obtain⟨⟨⟨⟨h1,h2⟩,h3⟩,hn⟩,h4⟩:=h;obtain⟨hx1,hx2⟩:=rK n hn hx;obtain⟨hy1,hy2⟩:=rK n hn hy;rw[List.drop_drop] at hx2 hy2;have ih:=qM w d xs ys fs (cs.drop n) ns (o+n) h4 hx2 hy2;have lx:=yK hx;have ly:=yK hy;have key:∃x y,(part f.type xs.toArray f.offset).run P w=.ok x w/\(part f.type ys.toArray f.offset).run P w=.ok y w/\(Op.equalIn (d+2) f.type x y).run P w=.ok (kB ((xs.drop o).take n) ((ys.drop o).take n)) w:=by
    unfold aYm at h3;split at h3
    ·rename_i fa hu;simp only [Bool.and_eq_true,Bool.not_eq_true'] at h3;obtain⟨⟨e1,e2⟩,e3⟩:=h3;have hl:(cs.take n).length=n:=ι;rw[hl] at e3;have hag:(isAgg f.type).run P w=.ok true w:=by
      unfold isAgg;rw[Sem.run_bind,run_underlying hu];rfl
     have hp:∀zs:List Value,(part f.type zs.toArray f.offset).run P w=.ok (.agg ((zs.drop o).take n).toArray) w:=λzs=>by
      unfold part;rw[Sem.run_bind,hag,h2];simp only [Result.andThen_ok,if_true];rw[Sem.run_bind,fA e3];simp only [Result.andThen_ok];rw[List.extract_toArray];show Result.ok _ _=_
      congr 3
      rw[List.extract_eq_take_drop]
      congr 1
      omega
     refine⟨_,_,hp xs,hp ys,?_⟩;have hf:P.fieldsOf f.type=fa:=by unfold Program.fieldsOf;rw[hu]
     have:=run_equalIn_struct w (d+1) f.type ((xs.drop o).take n).toArray ((ys.drop o).take n).toArray (by rw[hf];exact hu) e2;rw[this,hf];have e4:=mL w d ((xs.drop o).take n) ((ys.drop o).take n) fa.toList (cs.take n) 0 e1 (by simpa using hx1) (by simpa using hy1);simpa using e4
    ·rename_i hu;split at h3
     ·rename_i c hc;have h1n:n=1:=by
       have:=congrArg List.length hc;simp at this;omega
      subst h1n;rw[hc] at hx1 hy1;obtain⟨x,xs',ex,hx3,hx4⟩:=hx1;obtain⟨y,ys',ey,hy3,hy4⟩:=hy1;have ex':xs[o]? =some x:=by have:=congrArg List.head? ex;rw[List.head?_take,if_neg ω,List.head?_drop] at this;exact this
      have ey':ys[o]? =some y:=by have:=congrArg List.head? ey;rw[List.head?_take,if_neg ω,List.head?_drop] at this;exact this
      have hag:(isAgg f.type).run P w=.ok false w:=by
       unfold isAgg;rw[Sem.run_bind]
       cases c with
       | int k=>rw[run_underlying (jO h3)];rfl
       | bool=>rw[run_underlying (gS h3)];rfl
      have px:(part f.type xs.toArray f.offset).run P w=.ok x w:=by
       unfold part;rw[Sem.run_bind,hag,h2];simp[ex']
      have py:(part f.type ys.toArray f.offset).run P w=.ok y w:=by
       unfold part;rw[Sem.run_bind,hag,h2];simp[ey']
      have he:(Op.equalIn (d+2) f.type x y).run P w=.ok (eqV x y) w:=by
       cases c with
       | int k=>
         obtain⟨n,rfl⟩:=hx3;obtain⟨m,rfl⟩:=hy3;rw[run_equalIn_int w (d+1) f.type k _ n m (jO h3)];rfl
       | bool=>
         obtain⟨n,rfl⟩:=hx3;obtain⟨m,rfl⟩:=hy3;rw[run_equalIn_bool w (d+1) f.type n m (gS h3)];rfl
      refine⟨x,y,px,py,?_⟩;rw[he,ex,ey];simp only [iU] at hx4 hy4;rw[hx4,hy4];simp[kB]
     ·simp at h3
   obtain⟨x,y,px,py,he⟩:=key;unfold Op.eqFields;rw[if_pos h1,Sem.run_bind,px,Result.andThen_ok,Sem.run_bind,py,Result.andThen_ok,Sem.run_bind,he,Result.andThen_ok];rw[xR n (xs.drop o) (ys.drop o) ω,List.drop_drop,List.drop_drop]
   cases hq:kB ((xs.drop o).take n) ((ys.drop o).take n)
   ·simp
   ·simp only [Bool.not_true,Bool.false_eq_true,if_false,Bool.true_and];exact ih
theorem rH {P:Program} {t:TypeId} {cs:List CK} {ns:List Nat} (h:xQ P t cs ns=true) (xs ys:List Value) (w:World) (hx:iU cs xs) (hy:iU cs ys) :
 (Op.equal t (.agg xs.toArray) (.agg ys.toArray)).run P w=.ok (kB xs ys) w/\(∀(op:BinOp) (x y:Operand),(eqGuard op t x y (.agg xs.toArray) (.agg ys.toArray)).run P w=.ok () w):=by
 unfold xQ at h;simp only [Bool.and_eq_true,Bool.not_eq_true'] at h;obtain⟨⟨h1,h2⟩,h3⟩:=h;refine⟨?_,λop x y=>run_eqGuard_agg w op t x y _ _ h3⟩;split at h1
 ·rename_i fa hu;have hf:P.fieldsOf t=fa:=by unfold Program.fieldsOf;rw[hu]
  have:=run_equalIn_struct w 9999 t xs.toArray ys.toArray (by rw[hf];exact hu) h2;rw[hf,show(9999:Nat)=9997+2 from rfl,qM w 9997 xs ys fa.toList cs ns 0 h1 (by simpa using hx) (by simpa using hy)] at this;simpa [Op.equal,Op.maxDepth] using this
 ·cases h1
end Go.Gx
