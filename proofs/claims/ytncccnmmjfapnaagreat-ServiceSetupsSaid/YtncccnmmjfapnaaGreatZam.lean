/-
  Texts of the walk, merged: Yl.
-/
import Derived.Test.YtncccnmmjfapnaaGreatZak
import Derived.Test.YtncccnmmjfapnaaGreatZxd
set_option linter.unusedVariables false
set_option linter.unusedSimpArgs false
set_option maxRecDepth 100000
set_option maxHeartbeats 4000000
namespace Go.Gx.Sr
open Go.RowKit Go.Proofs Go.Proofs.YtncccnmmjfapnaaGreat Go.Gx.Ix
theorem law4 (s x y:SvG) (o:OrG) (hb:x.r.By) (hby:y.r.By) (ho:o.rl.byte∧0≤o.k∧o.k<256):Pure Tryz.prog 4 [s.ss,x.sv,y.sv,o.sv] (· =.b true):=by
 refine pure_of_GC T_ok Tryz.func4 rfl (by kernel_rfl) (nb rfl) rfl rfl ?_
 simp[go_sem]
 refine call_val (great17 x) rfl rfl ?_
 cases hg:x.great
 rotate_left
 ·simp[go_sem]
 simp[go_sem]
 refine call_val (great17 y) rfl rfl ?_
 cases hgy:y.great
 rotate_left
 ·simp[go_sem]
 simp[go_sem]
 refine call_val (great24 o) rfl rfl ?_
 cases hgo:o.great
 rotate_left
 ·simp[go_sem]
 simp[go_sem]
 have hx:=(SvG.OK_of hb hg).1
 have hy:=(SvG.OK_of hby hgy).1
 have hnk:(o.q.nk:Int)<2 ^ 61:=by
  unfold OrG.great at hgo
  simp at hgo
  omega
 have n25:=new25 s
 have n26:=new26 s
 have c27:=checkSetup27 s
 have c28:=checkSetup28 s
 have hA:(if s.setB=true then s.new else SvG.zero).OK:=by
  split
  ·have z:=SvG.zero_ok
   exact⟨z.g,z.r,z.rn,z.rc,z.rw',z.rm,z.ir,z.ch,z.ks,z.lg⟩
  ·exact SvG.zero_ok
 obtain⟨A,eA⟩:∃A,(if s.setB=true then s.new else SvG.zero)=A:=⟨_,rfl⟩
 obtain⟨e,ee⟩:∃e:Int,(if s.setB=true then 0 else 2)=e:=⟨_,rfl⟩
 rw[eA] at n25 n26 hA
 rw[ee] at n25 n26 c27 c28
 have sA:=same29 A A hA hA
 rw[SvG.same_rfl] at sA
 have c30:=check30s x hx
 have c31:=check31 x hx
 have s32:=same32 x y hx hy
 have s29:=same29 x y hx hy
 have sxx:=same32 x x hx hx
 rw[SvG.same_rfl] at sxx
 have t33:=twin33p x hx
 have c34:=checkOrder34 o hnk
 have c35:=checkOrder35 o hnk
 obtain⟨b1,hb1⟩:∃b,x.same y=b:=⟨_,rfl⟩
 rw[hb1] at s32 s29
 refine call_val n25 rfl rfl ?_
 simp[go_sem]
 refine call_val n26 rfl rfl ?_
 simp[go_sem]
 refine GDraw_all T_ok (by kernel_rfl) (by kernel_rfl) ?_
 simp[go_sem]
 refine⟨_,dcall_val c27 rfl rfl,?_⟩
 simp[go_sem]
 refine⟨_,dcall_val c28 rfl rfl,?_⟩
 simp[go_sem]
 refine⟨_,dcall_val sA rfl rfl,?_⟩
 simp[go_sem]
 refine⟨_,dcall_val c30 rfl rfl,?_⟩
 simp[go_sem]
 refine⟨_,dcall_val c31 rfl rfl,?_⟩
 simp[go_sem]
 refine⟨_,dcall_val s32 rfl rfl,?_⟩
 simp[go_sem]
 refine⟨_,dcall_val s29 rfl rfl,?_⟩
 cases b1
 ·simp[go_sem]
  refine⟨_,dcall_val t33 rfl rfl,?_⟩
  simp[go_sem]
  refine⟨_,dcall_val sxx rfl rfl,?_⟩
  simp[go_sem]
  refine⟨_,dcall_val c34 rfl rfl,?_⟩
  simp[go_sem]
  refine⟨_,dcall_val c35 rfl rfl,?_⟩
  simp[go_sem]
 simp[go_sem]
 refine⟨_,dcall_val t33 rfl rfl,?_⟩
 simp[go_sem]
 refine⟨_,dcall_val sxx rfl rfl,?_⟩
 simp[go_sem]
 refine⟨_,dcall_val c34 rfl rfl,?_⟩
 simp[go_sem]
 refine⟨_,dcall_val c35 rfl rfl,?_⟩
 simp[go_sem]
end Go.Gx.Sr
