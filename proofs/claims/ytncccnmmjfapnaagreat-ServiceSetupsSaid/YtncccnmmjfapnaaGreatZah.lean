/-
  Texts of the walk, merged: Kp Kq Kr.
-/
import Derived.Test.YtncccnmmjfapnaaGreatZae
set_option linter.unusedVariables false
set_option linter.unusedSimpArgs false
set_option maxRecDepth 100000
set_option maxHeartbeats 4000000
namespace Go.Gx
open Go.RowKit
attribute [go_sem] gretn
end Go.Gx
namespace Go.Gx
open Go.RowKit
def eqS (E:Env):List (Nat × SV)→Prop
 | []=>True
 | p::l=>E p.1=p.2∧eqS E l
@[go_sem]theorem eqS_nil (E:Env):eqS E []=True:=(rfl)
@[go_sem]theorem eqS_cons (E:Env) (t:Nat) (s:SV) (l:List (Nat × SV)):eqS E ((t,s)::l)=(E t=s∧eqS E l):=(rfl)
theorem eqS_all {E:Env}:∀{l:List (Nat × SV)},eqS E l→∀p∈l,E p.1=p.2
 | [],_,p,hp=>by simp at hp
 | q::l,h,p,hp=>by
   rcases List.mem_cons.1 hp with rfl | hp
   ·exact h.1
   ·exact eqS_all h.2 p hp
theorem eqS_upd {E:Env} {l:List (Nat × SV)} (h:eqS E l):updL E l=E:=updL_self E l (eqS_all h)
section
variable {P:Program} {T:Tab} {N:Cfg} {k:List It} {Q:GQ} {E:Env} {M:Mem} {nx:Nat}
def JP (S:List (Nat × SV)) (φ:Mem→Nat→Prop):GQ:=λe E M nx=>match e with
 | .normal=>eqS E S∧φ M nx
 | _=>False
@[go_sem]theorem JP_normal (S:List (Nat × SV)) (φ:Mem→Nat→Prop):JP S φ .normal E M nx=(eqS E S∧φ M nx):=(rfl)
end
section
variable {P:Program} {T:Tab} {N:Cfg} {k:List It} {Q:GQ} {E:Env} {M:Mem} {nx:Nat}
theorem GDraw_cut (S:List (Nat × SV)) (φ:Mem→Nat→Prop) {id:Nat} {all:Array Oper} (h:GDraw P T N id all [] (JP S φ) E M nx) (hk:∀J M nx,φ M nx→GK P T N k Q .normal (updL J S) M nx):GDraw P T N id all k Q E M nx:=by
 refine GW.mono h λe E M nx hq=>?_
 match e,hq with
 | .normal,hq=>
   have hq:eqS E S∧φ M nx:=hq
   have:=hk E M nx hq.2
   rwa [eqS_upd hq.1] at this
end
end Go.Gx
