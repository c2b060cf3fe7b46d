/-
  Texts of the walk, merged: Xu.
-/
import Derived.Test.YtncccnmmjfapnaaGreatZxm
set_option linter.unusedVariables false
set_option linter.unusedSimpArgs false
set_option maxRecDepth 100000
set_option maxHeartbeats 4000000
namespace Go.Gx
open Go.RowKit
section
variable {P:Program} {T:Tab} {N:Cfg} {k:List It} {Q:GQ} {E:Env} {M:Mem} {nx:Nat} {e:Exit}
theorem GSt.bump (n:Nat):GSt N E M nx E M (nx+n):=λB W w0 σ a w h=>
 ⟨σ,h.env,h.mem.weaken λr hr=>by have:nx+n≤r:=hr;show nx≤r;omega,h.fr,h.defers,h.size,Nat.le_trans h.low (Nat.le_add_right _ _),h.pin,h.good⟩
theorem vq_mvP (t q:Nat) {p row kk fld:Nat} (hE:E t=.ptr p row kk fld) (h:p≠q∧N.np≤p∧N.np≤q∧q<nx) (hn:vq N Q e (λt=>(E t).mv p q) (mvM p q M) nx):vq N Q e E M nx:=
 vq_step (GSt.move p q h.1 h.2.1 h.2.2.1 h.2.2.2) hn
theorem GDraw_inX {id:Nat} {ops:Array Oper} (S:List (Nat × SV)) (φ:Mem→Nat→Prop) (hE:eqS E S) (hφ:φ M nx)
 (h:∀J M nx,φ M nx→GDraw P T N id ops k Q (updL J S) M nx):GDraw P T N id ops k Q E M nx:=by
 have:=h E M nx hφ
 rwa [eqS_upd hE] at this
variable {all:Array Oper} {rest:List Oper} {d:Option Tmp} {ty:TypeId} {pos:String} {af:Array Edge}
@[go_sem high]theorem GO_makeSliceX (t:TypeId) (l c:Operand):GO P T N all (⟨d,.makeSlice t l c,ty,pos,af,none⟩::rest) k Q E M nx=(dOK N.n d∧GStep P T N ⟨d,.makeSlice t l c,ty,pos,af,none⟩ (gmakeSlice T t (ev E l) (ev E c) nx) d all rest k Q E M nx):=(rfl)
end
end Go.Gx
namespace Go.Gx.Sr
open Go.RowKit Go.Proofs Go.Proofs.YtncccnmmjfapnaaGreat Go.Gx.Ix
def chgO:OrG:={OrG.z with k:=10,f:=true}
def g1O:OrG:={OrG.z with k:=14,n:=1,x:=eyeG 0#64}
def v2O:OrG:={OrG.z with k:=12,a:=2}
def vbO:OrG:={OrG.z with k:=12,x:=⟨1#64,0#64⟩}
def r0O:OrG:={OrG.z with k:=5}
def k15O:OrG:={OrG.z with k:=15}
def t1O:OrG:={OrG.z with k:=1,s:=1#64}
def fqO:OrG:={OrG.z with k:=13,q:=⟨0,0,0,0,1,0,λ_=>0⟩}
def exL:List OrG:=[tckO 50,chgO,tckO 10,synO,gatO]
theorem fx1:endA exL=okA 2:=by kernel_rfl
theorem fx1b:((endX exL).lg.length==1&&((endX exL).lg.map λe=>e.k)==[4]&&((endX exL).lg.map λe=>unB e.d)==[true]&&((endX exL).lg.map λe=>unG e.d)==[⟨2,1,0,1,4,-1⟩])=true:=by kernel_rfl
theorem fx2:endA [g1O]=bad 2:=by kernel_rfl
theorem fx3:endA [gatO]=bad 2:=by kernel_rfl
theorem fx4:endA [v2O]=bad 6:=by kernel_rfl
theorem fx5:endA [vbO]=bad 30:=by kernel_rfl
theorem fx6:endA [tckO 0]=bad 2:=by kernel_rfl
theorem fx7:endA (exL++[r0O])=okA 1:=by kernel_rfl
theorem fx7b:((endX (exL++[r0O])).ch.length==0&&((endX (exL++[r0O])).ks.map λk=>k.s)==[0#64]&&((endX (exL++[r0O])).lg.map λe=>e.p)==[-1]&&(endX (exL++[r0O])).ir.length==2&&(endX (exL++[r0O])).eye 0==IrG.z&&(endX (exL++[r0O])).valid)=true:=by kernel_rfl
theorem fx8:runE qtr [k15O]=2:=by kernel_rfl
theorem fx9:runE SvG.zero []=2:=by kernel_rfl
theorem fx10:ordE t1O=2:=by kernel_rfl
theorem fx11:ordE fqO=2:=by kernel_rfl
theorem fx12:runE qtr (List.replicate 301 OrG.z)=4:=by kernel_rfl
theorem tick45 (n:Int):Pure Tryz.prog 45 [.i n] (· =(tckO n).sv):=by
 refine Pure.ofSub ?_
 refine pure_of_GC T_ok Tryz.func45 rfl (by kernel_rfl) (nb rfl) rfl rfl ?_
 simp[go_sem,tckO,OrG.z]
def OrG.cx (p:OrG × Bool):List SV:=if p.2 then p.1.cells else p.1.cn
theorem OrG.cx_len (p:OrG × Bool):(OrG.cx p).length=34:=by
 unfold OrG.cx;split <;> rfl
theorem OrG.cells_at (o:OrG) {j:Nat} (hj:j<34):((o.cells[j]?).getD (SV.r .any)).toRV=o.fc j:=by
 rcases j with _ | _ | _ | _ | _ | _ | _ | _ | _ | _ | _ | _ | _ | _ | _ | _ | _ | _ | _ | _ | _ | _ | _ | _ | _ | _ | _ | _ | _ | _ | _ | _ | _ | _ | j
 iterate 34 rfl
 omega
theorem OrG.cx_le (p:OrG × Bool) {j:Nat} (hj:j<34):(((OrG.cx p)[j]?).getD (SV.r .any)).toRV.le (p.1.fc j):=by
 unfold OrG.cx
 split
 ·exact RV.le_eq (p.1.cells_at hj)
 ·exact p.1.cn_le hj
theorem cx_rows:∀(l:List (OrG × Bool)) (i j:Nat),i<l.length→j<34→(((l.map OrG.cx).flatten)[i*34+j]?.getD (SV.r .any)).toRV.le (rowOf OrG.fc (l.map (·.1)) i j)
 | [],i,j,h,_=>absurd h (Nat.not_lt_zero i)
 | p::l,0,j,_,hj=>by
   rw[List.map_cons,List.flatten_cons,Nat.zero_mul,Nat.zero_add,List.getElem?_append_left (by rw[OrG.cx_len];exact hj)]
   exact OrG.cx_le p hj
 | p::l,i+1,j,hi,hj=>by
   rw[List.map_cons,List.flatten_cons,List.getElem?_append_right (by rw[OrG.cx_len];omega)]
   have e:(i+1)*34+j - (OrG.cx p).length=i*34+j:=by rw[OrG.cx_len];omega
   rw[e]
   exact cx_rows l i j (by simpa using hi) hj
theorem row_ofx {l:List (OrG × Bool)} {cs:List SV} (h:cs=(l.map OrG.cx).flatten) (i j:Nat):(cs[i*34+j]?.getD (SV.r .any)).toRV=(((l.map OrG.cx).flatten)[i*34+j]?.getD (SV.r .any)).toRV:=by rw[h]
theorem ends_ofx (l:List (OrG × Bool)) (hn:(l.map (·.1)).length<100000) (hs:((l.map (·.1)).all λo=>(decide (0≤o.rl.b)&&decide (o.rl.b<256))&&decide (o.q.nk<100))=true) {X:SvG} {A:AnG} (hX:endX (l.map (·.1))=X) (hA:endA (l.map (·.1))=A) {get:Nat→Nat→RV} {n:Nat} (hln:l.length=n)
 (h:∀i j,i<l.length→j<34→get i j=(((l.map OrG.cx).flatten)[i*34+j]?.getD (SV.r .any)).toRV):Pure Tryz.prog 47 [.r (.rs 34 n get)] (· =.tup [X.sv,A.sv]):=by
 subst hln
 have:=ends47 (l.map (·.1)) hn (sm_of hs)
 rw[hX,hA] at this
 have e:l.length=(l.map (·.1)).length:=by simp
 rw[e]
 refine this.args ⟨le_r (rle_rs λi j hi hj=>?_),trivial⟩
 have hi:i<l.length:=by simpa using hi
 rw[h i j hi hj];exact cx_rows l i j hi hj
def exQ:List (OrG × Bool):=[(tckO 50,true),(chgO,false),(tckO 10,true),(synO,false),(gatO,false),(r0O,false)]
def exP:List (OrG × Bool):=[(tckO 50,true),(chgO,false),(tckO 10,true),(synO,false),(gatO,false)]
theorem zeros_le {get:Nat→Nat→RV} (h:∀i j,i<301→j<34→(get i j).le (OrG.z.fc j)):(SV.r (.rs 34 301 get)).le (ords (List.replicate 301 OrG.z)):=by
 have e:(List.replicate 301 OrG.z).length=301:=List.length_replicate
 show(SV.r (.rs 34 301 get)).le (.r (.rs 34 (List.replicate 301 OrG.z).length (rowOf OrG.fc (List.replicate 301 OrG.z))))
 rw[e]
 refine le_r (rle_rs λi j hi hj=>?_)
 rw[rowOf_get (by rw[e];exact hi),List.getElem_replicate]
 exact h i j hi hj
theorem bad_zeros:Pure Tryz.prog 37 [qtr.ss,ords (List.replicate 301 OrG.z)] (· =.tup [SvG.zero.sv,ans [],.i 4]):=by
 have h:=run_bad (x:=qtr) (l:=List.replicate 301 OrG.z) (by rw[List.length_replicate];decide) (λo ho=>by rw[List.eq_of_mem_replicate ho];exact⟨⟨(by decide:(0:Int)≤0),(by decide:(0:Int)<256)⟩,(by decide:((0:Nat):Int)<2 ^ 61)⟩) (by rw[fx12];decide)
 rw[fx12] at h
 exact h
theorem bad_15:Pure Tryz.prog 37 [qtr.ss,ords [k15O]] (· =.tup [SvG.zero.sv,ans [],.i 2]):=by
 have h:=run_bad (x:=qtr) (l:=[k15O]) (by decide) (λo ho=>by rw[List.mem_singleton.1 ho];exact⟨⟨(by decide:(0:Int)≤0),(by decide:(0:Int)<256)⟩,(by decide:((0:Nat):Int)<2 ^ 61)⟩) (by rw[fx8];decide)
 rw[fx8] at h
 exact h
theorem bad_set:Pure Tryz.prog 37 [SvG.zero.ss,ords []] (· =.tup [SvG.zero.sv,ans [],.i 2]):=by
 have h:=run_bad (x:=SvG.zero) (l:=[]) (by decide) (λo ho=>absurd ho List.not_mem_nil) (by rw[fx9];decide)
 rw[fx9] at h
 exact h
theorem law8:Pure Tryz.prog 8 [] (· =.b true):=by
 refine pure_of_GC T_ok Tryz.func8 rfl (by kernel_rfl) (nb rfl) rfl rfl ?_
 simp[go_sem]
 refine call_val alive16 rfl rfl ?_
 simp[go_sem]
 refine call_val (eye46 0#64) rfl rfl ?_
 simp[go_sem]
 obtain⟨X1,hX1⟩:∃X,endX exL=X:=⟨_,rfl⟩
 have f1:=fx1b
 rw[hX1] at f1
 have hc1:∀{get:Nat→Nat→RV},(∀i j,i<5→j<34→get i j=(((exP.map OrG.cx).flatten)[i*34+j]?.getD (SV.r .any)).toRV)→Pure Tryz.prog 47 [.r (.rs 34 5 get)] (· =.tup [X1.sv,(okA 2).sv]):=λh=>ends_ofx exP (by decide) rfl hX1 fx1 rfl h
 clear hX1
 refine GDraw_cutv (S:=[(1,.fn (.func 45) [] []),(2,.ptr 0 0 34 0),(3,.ptr 40 0 17 0),(4,.ptr 41 0 3 0)]) (φ:=λM nx=>nx=60∧M 0=some (.box [.r (.v (.int .u8 14)),.i 0,.i 0,.i 0,.b false,.w (eyeG 0#64).c,.w (eyeG 0#64).m,.r (.v (.int .u64 0)),.i 0,.i 0,.i 0,.i 0,.i 0,.i 0,.i 0,.r (.v (.int .u8 0)),.i 0,.i 0,.i 0,.i 0,.i 0,.i 0,.i 0,.i 0,.i 0,.i 0,.i 0,.i 0,.i 0,.i 0,.i 0,.i 0,.i 0,nilS])∧M 40=some (.box X1.cells)∧M 41=some (.box [.i 0,.i 2,hts []])) ?_ ?_
 ·refine GDraw_l (t:=(.take 0 (.take 2 (.take 3 (.take 5 (.take 6 (.alt 1 [6,5,3,2,0] (.alt 4 [6,5,3,2] (.alt 7 [6,5,2] (.alt 8 [] (.take 9 (.take 10 (.take 11 (.alt 12 [11,10,9] (.alt 13 [11,10,9] (.alt 14 [11,10,9] (.alt 15 [11] (.done []) .nil) .nil) .nil) (.alt 13 [11,10,9] (.alt 12 [11,10,9] (.alt 14 [11,10,9] (.alt 15 [11] (.done []) .nil) .nil) .nil) .nil))))) (.alt 12 [] (.alt 8 [] (.take 9 (.take 10 (.take 11 (.alt 13 [11,10,9] (.alt 14 [11,10,9] (.alt 15 [11] (.done []) .nil) .nil) .nil)))) (.alt 13 [] (.alt 8 [] (.take 9 (.take 10 (.take 11 (.alt 14 [11,10,9] (.alt 15 [11] (.done []) .nil) .nil)))) .nil) .nil)) (.alt 13 [] (.alt 8 [] (.take 9 (.take 10 (.take 11 (.alt 12 [11,10,9] (.alt 14 [11,10,9] (.alt 15 [11] (.done []) .nil) .nil) .nil)))) (.alt 12 [] (.alt 8 [] (.take 9 (.take 10 (.take 11 (.alt 14 [11,10,9] (.alt 15 [11] (.done []) .nil) .nil)))) .nil) .nil)) .nil))) (.alt 12 [6,5,2] (.alt 7 [6,5,2] (.alt 8 [] (.take 9 (.take 10 (.take 11 (.alt 13 [11,10,9] (.alt 14 [11,10,9] (.alt 15 [11] (.done []) .nil) .nil) .nil)))) (.alt 13 [] (.alt 8 [] (.take 9 (.take 10 (.take 11 (.alt 14 [11,10,9] (.alt 15 [11] (.done []) .nil) .nil)))) .nil) .nil)) (.alt 13 [6,5,2] (.alt 7 [6,5,2] (.alt 8 [] (.take 9 (.take 10 (.take 11 (.alt 14 [11,10,9] (.alt 15 [11] (.done []) .nil) .nil)))) .nil) .nil) .nil)) (.alt 13 [6,5,2] (.alt 7 [6,5,2] (.alt 8 [] (.take 9 (.take 10 (.take 11 (.alt 12 [11,10,9] (.alt 14 [11,10,9] (.alt 15 [11] (.done []) .nil) .nil) .nil)))) (.alt 12 [] (.alt 8 [] (.take 9 (.take 10 (.take 11 (.alt 14 [11,10,9] (.alt 15 [11] (.done []) .nil) .nil)))) .nil) .nil)) (.alt 12 [6,5,2] (.alt 7 [6,5,2] (.alt 8 [] (.take 9 (.take 10 (.take 11 (.alt 14 [11,10,9] (.alt 15 [11] (.done []) .nil) .nil)))) .nil) .nil) .nil)) .nil))) (.alt 12 [6,5,3,2] (.alt 4 [6,5,3,2] (.alt 7 [6,5,2] (.alt 8 [] (.take 9 (.take 10 (.take 11 (.alt 13 [11,10,9] (.alt 14 [11,10,9] (.alt 15 [11] (.done []) .nil) .nil) .nil)))) (.alt 13 [] (.alt 8 [] (.take 9 (.take 10 (.take 11 (.alt 14 [11,10,9] (.alt 15 [11] (.done []) .nil) .nil)))) .nil) .nil)) (.alt 13 [6,5,2] (.alt 7 [6,5,2] (.alt 8 [] (.take 9 (.take 10 (.take 11 (.alt 14 [11,10,9] (.alt 15 [11] (.done []) .nil) .nil)))) .nil) .nil) .nil)) (.alt 13 [6,5,3,2] (.alt 4 [6,5,3,2] (.alt 7 [6,5,2] (.alt 8 [] (.take 9 (.take 10 (.take 11 (.alt 14 [11,10,9] (.alt 15 [11] (.done []) .nil) .nil)))) .nil) .nil) .nil) .nil)) (.alt 13 [6,5,3,2] (.alt 4 [6,5,3,2] (.alt 7 [6,5,2] (.alt 8 [] (.take 9 (.take 10 (.take 11 (.alt 12 [11,10,9] (.alt 14 [11,10,9] (.alt 15 [11] (.done []) .nil) .nil) .nil)))) (.alt 12 [] (.alt 8 [] (.take 9 (.take 10 (.take 11 (.alt 14 [11,10,9] (.alt 15 [11] (.done []) .nil) .nil)))) .nil) .nil)) (.alt 12 [6,5,2] (.alt 7 [6,5,2] (.alt 8 [] (.take 9 (.take 10 (.take 11 (.alt 14 [11,10,9] (.alt 15 [11] (.done []) .nil) .nil)))) .nil) .nil) .nil)) (.alt 12 [6,5,3,2] (.alt 4 [6,5,3,2] (.alt 7 [6,5,2] (.alt 8 [] (.take 9 (.take 10 (.take 11 (.alt 14 [11,10,9] (.alt 15 [11] (.done []) .nil) .nil)))) .nil) .nil) .nil) .nil)) .nil))) (.alt 12 [6,5,3,2,0] (.alt 1 [6,5,3,2,0] (.alt 4 [6,5,3,2] (.alt 7 [6,5,2] (.alt 8 [] (.take 9 (.take 10 (.take 11 (.alt 13 [11,10,9] (.alt 14 [11,10,9] (.alt 15 [11] (.done []) .nil) .nil) .nil)))) (.alt 13 [] (.alt 8 [] (.take 9 (.take 10 (.take 11 (.alt 14 [11,10,9] (.alt 15 [11] (.done []) .nil) .nil)))) .nil) .nil)) (.alt 13 [6,5,2] (.alt 7 [6,5,2] (.alt 8 [] (.take 9 (.take 10 (.take 11 (.alt 14 [11,10,9] (.alt 15 [11] (.done []) .nil) .nil)))) .nil) .nil) .nil)) (.alt 13 [6,5,3,2] (.alt 4 [6,5,3,2] (.alt 7 [6,5,2] (.alt 8 [] (.take 9 (.take 10 (.take 11 (.alt 14 [11,10,9] (.alt 15 [11] (.done []) .nil) .nil)))) .nil) .nil) .nil) .nil)) (.alt 13 [6,5,3,2,0] (.alt 1 [6,5,3,2,0] (.alt 4 [6,5,3,2] (.alt 7 [6,5,2] (.alt 8 [] (.take 9 (.take 10 (.take 11 (.alt 14 [11,10,9] (.alt 15 [11] (.done []) .nil) .nil)))) .nil) .nil) .nil) .nil) .nil)) (.alt 13 [6,5,3,2,0] (.alt 1 [6,5,3,2,0] (.alt 4 [6,5,3,2] (.alt 7 [6,5,2] (.alt 8 [] (.take 9 (.take 10 (.take 11 (.alt 12 [11,10,9] (.alt 14 [11,10,9] (.alt 15 [11] (.done []) .nil) .nil) .nil)))) (.alt 12 [] (.alt 8 [] (.take 9 (.take 10 (.take 11 (.alt 14 [11,10,9] (.alt 15 [11] (.done []) .nil) .nil)))) .nil) .nil)) (.alt 12 [6,5,2] (.alt 7 [6,5,2] (.alt 8 [] (.take 9 (.take 10 (.take 11 (.alt 14 [11,10,9] (.alt 15 [11] (.done []) .nil) .nil)))) .nil) .nil) .nil)) (.alt 12 [6,5,3,2] (.alt 4 [6,5,3,2] (.alt 7 [6,5,2] (.alt 8 [] (.take 9 (.take 10 (.take 11 (.alt 14 [11,10,9] (.alt 15 [11] (.done []) .nil) .nil)))) .nil) .nil) .nil) .nil)) (.alt 12 [6,5,3,2,0] (.alt 1 [6,5,3,2,0] (.alt 4 [6,5,3,2] (.alt 7 [6,5,2] (.alt 8 [] (.take 9 (.take 10 (.take 11 (.alt 14 [11,10,9] (.alt 15 [11] (.done []) .nil) .nil)))) .nil) .nil) .nil) .nil) .nil)) .nil))))))))) T_ok (by kernel_rfl) (by kernel_rfl) (by kernel_rfl) (λ_ _ _ _ h=>h.elim λ_ h=>h.elim λ_ h=>h.elim λ_ h=>h.2) ?_
  simp[go_sem]
  repeat' (first | apply And.intro | (refine call_val (tick45 50) rfl rfl ?_;simp[go_sem]) | (refine call_val (tick45 10) rfl rfl ?_;simp[go_sem]))
  all_goals
   first | refine callK_freeze 1 (R:=.vec 66 34 5 _) (by simp[go_sem];rfl) ?_ | refine callK_freeze 2 (R:=.vec 66 34 5 _) (by simp[go_sem];rfl) ?_ | refine callK_freeze 3 (R:=.vec 66 34 5 _) (by simp[go_sem];rfl) ?_
   simp[go_sem]
   refine call_val (hc1 λi j _ _=>row_ofx (l:=exP) rfl i j) rfl rfl ?_
   simp[go_sem]
  repeat' apply And.intro
  all_goals
   refine vq_step (GSt.bump 56) ?_
   refine vq_mvP 3 40 (by simp[go_sem];exact⟨rfl,rfl,rfl,rfl⟩) (by simp) ?_
   refine vq_mvP 4 41 (by simp[go_sem];exact⟨rfl,rfl,rfl,rfl⟩) (by simp) ?_
   refine vq_done ?_
   simp[go_sem,eqS,JP,okA]
 rintro J M nx ⟨rfl,m0,m40,m41⟩
 obtain⟨e,he1,he2,he3,he4⟩:∃e,X1.lg=[e]∧e.k=4∧unB e.d=true∧unG e.d=⟨2,1,0,1,4,-1⟩:=by
  simp only [Bool.and_eq_true,beq_iff_eq] at f1
  obtain⟨⟨⟨g1,g2⟩,g3⟩,g4⟩:=f1
  obtain⟨e,he⟩:=List.length_eq_one_iff.1 g1
  rw[he] at g2 g3 g4
  exact⟨e,he,by simpa using g2,by simpa using g3,by simpa using g4⟩
 clear f1 hc1
 simp[go_sem,m0,m40,m41]
 refine call_val (eye46 0#64) rfl rfl ?_
 simp[go_sem,m0,m40,m41]
 refine callK_freeze 60 (by simp[go_sem];rfl) ?_
 simp[go_sem,m0,m40,m41]
 obtain⟨X2,hX2⟩:∃X,endX [g1O]=X:=⟨_,rfl⟩
 refine call_val (ends_ofx [(g1O,false)] (by decide) rfl hX2 fx2 rfl λi j _ _=>row_ofx (l:=[(g1O,false)]) rfl i j) rfl rfl ?_
 clear hX2
 simp[go_sem,m0,m40,m41]
 refine call_val (eye46 0#64) rfl rfl ?_
 simp[go_sem,m0,m40,m41]
 refine callK_freeze 63 (by simp[go_sem];rfl) ?_
 simp[go_sem,m0,m40,m41]
 obtain⟨X3,hX3⟩:∃X,endX [gatO]=X:=⟨_,rfl⟩
 refine call_val (ends_ofx [(gatO,false)] (by decide) rfl hX3 fx3 rfl λi j _ _=>row_ofx (l:=[(gatO,false)]) rfl i j) rfl rfl ?_
 clear hX3
 simp[go_sem,m0,m40,m41]
 refine callK_freeze 66 (by simp[go_sem];rfl) ?_
 simp[go_sem,m0,m40,m41]
 obtain⟨X4,hX4⟩:∃X,endX [v2O]=X:=⟨_,rfl⟩
 refine call_val (ends_ofx [(v2O,false)] (by decide) rfl hX4 fx4 rfl λi j _ _=>row_ofx (l:=[(v2O,false)]) rfl i j) rfl rfl ?_
 clear hX4
 simp[go_sem,m0,m40,m41]
 refine callK_freeze 69 (by simp[go_sem];rfl) ?_
 simp[go_sem,m0,m40,m41]
 obtain⟨X5,hX5⟩:∃X,endX [vbO]=X:=⟨_,rfl⟩
 refine call_val (ends_ofx [(vbO,false)] (by decide) rfl hX5 fx5 rfl λi j _ _=>row_ofx (l:=[(vbO,false)]) rfl i j) rfl rfl ?_
 clear hX5
 simp[go_sem,m0,m40,m41]
 refine call_val (tick45 0) rfl rfl ?_
 simp[go_sem,m0,m40,m41]
 refine callK_freeze 72 (by simp[go_sem];rfl) ?_
 simp[go_sem,m0,m40,m41]
 obtain⟨X6,hX6⟩:∃X,endX [tckO 0]=X:=⟨_,rfl⟩
 refine call_val (ends_ofx [(tckO 0,true)] (by decide) rfl hX6 fx6 rfl λi j _ _=>row_ofx (l:=[(tckO 0,true)]) rfl i j) rfl rfl ?_
 clear hX6
 have row0:∀j,rowOf EnG.f X1.lg 0 j=e.f j:=λj=>by rw[he1];rfl
 have hl1:X1.lg.length=1:=by rw[he1];rfl
 have hu:=unpack22 e.d
 rw[he3,he4,if_pos rfl,if_pos rfl] at hu
 simp[go_sem,m0,m40,m41,row0,hl1,bad,okA,he2]
 refine call_val hu rfl rfl ?_
 simp[go_sem,m0,m40,m41]
 obtain⟨X7,hX7⟩:∃X,endX (exL++[r0O])=X:=⟨_,rfl⟩
 have f7:=fx7b
 rw[hX7] at f7
 have hc7:∀{get:Nat→Nat→RV},(∀i j,i<6→j<34→get i j=(((exQ.map OrG.cx).flatten)[i*34+j]?.getD (SV.r .any)).toRV)→Pure Tryz.prog 47 [.r (.rs 34 6 get)] (· =.tup [X7.sv,(okA 1).sv]):=λh=>ends_ofx exQ (by decide) rfl hX7 fx7 rfl h
 clear hX7
 refine GDraw_inX (S:=[(1,.fn (.func 45) [] []),(2,.ptr 0 0 34 0),(15,.ptr 75 0 6 0),(16,.i 0)]) (φ:=λM nx=>nx=76∧M 0=some (.box [.r (.v (.int .u8 14)),.i 0,.i 0,.i 0,.b false,.w (eyeG 0#64).c,.w (eyeG 0#64).m,.r (.v (.int .u64 0)),.i 0,.i 0,.i 0,.i 0,.i 0,.i 0,.i 0,.r (.v (.int .u8 0)),.i 0,.i 0,.i 0,.i 0,.i 0,.i 0,.i 0,.i 0,.i 0,.i 0,.i 0,.i 0,.i 0,.i 0,.i 0,.i 0,.i 0,nilS])∧M 75=some (.box [.r (.v (.int .u8 2)),.i 1,.i 0,.i 1,.i 4,.i (-1)])) ?_ ?_ ?_
 ·simp[go_sem]
 ·simp[go_sem,m0]
 clear m0 m40 m41
 rintro J M nx ⟨rfl,m0,m75⟩
 refine GDraw_cutv (S:=[(15,.ptr 75 0 6 0),(16,.i 0),(17,.ptr 120 0 17 0),(18,.ptr 121 0 3 0)]) (φ:=λM nx=>nx=140∧M 75=some (.box [.r (.v (.int .u8 2)),.i 1,.i 0,.i 1,.i 4,.i (-1)])∧M 120=some (.box X7.cells)∧M 121=some (.box [.i 0,.i 1,hts []])) ?_ ?_
 ·refine GDraw_l (t:=(.take 0 (.take 2 (.take 3 (.take 5 (.take 6 (.take 7 (.alt 1 [7,6,5,3,2,0] (.alt 4 [7,6,5,3,2] (.alt 8 [7,6,5,2] (.alt 9 [] (.take 10 (.take 11 (.take 12 (.alt 13 [12,11,10] (.alt 14 [12,11,10] (.alt 15 [12,11,10] (.alt 16 [12] (.done []) .nil) .nil) .nil) (.alt 14 [12,11,10] (.alt 13 [12,11,10] (.alt 15 [12,11,10] (.alt 16 [12] (.done []) .nil) .nil) .nil) .nil))))) (.alt 13 [] (.alt 9 [] (.take 10 (.take 11 (.take 12 (.alt 14 [12,11,10] (.alt 15 [12,11,10] (.alt 16 [12] (.done []) .nil) .nil) .nil)))) (.alt 14 [] (.alt 9 [] (.take 10 (.take 11 (.take 12 (.alt 15 [12,11,10] (.alt 16 [12] (.done []) .nil) .nil)))) .nil) .nil)) (.alt 14 [] (.alt 9 [] (.take 10 (.take 11 (.take 12 (.alt 13 [12,11,10] (.alt 15 [12,11,10] (.alt 16 [12] (.done []) .nil) .nil) .nil)))) (.alt 13 [] (.alt 9 [] (.take 10 (.take 11 (.take 12 (.alt 15 [12,11,10] (.alt 16 [12] (.done []) .nil) .nil)))) .nil) .nil)) .nil))) (.alt 13 [7,6,5,2] (.alt 8 [7,6,5,2] (.alt 9 [] (.take 10 (.take 11 (.take 12 (.alt 14 [12,11,10] (.alt 15 [12,11,10] (.alt 16 [12] (.done []) .nil) .nil) .nil)))) (.alt 14 [] (.alt 9 [] (.take 10 (.take 11 (.take 12 (.alt 15 [12,11,10] (.alt 16 [12] (.done []) .nil) .nil)))) .nil) .nil)) (.alt 14 [7,6,5,2] (.alt 8 [7,6,5,2] (.alt 9 [] (.take 10 (.take 11 (.take 12 (.alt 15 [12,11,10] (.alt 16 [12] (.done []) .nil) .nil)))) .nil) .nil) .nil)) (.alt 14 [7,6,5,2] (.alt 8 [7,6,5,2] (.alt 9 [] (.take 10 (.take 11 (.take 12 (.alt 13 [12,11,10] (.alt 15 [12,11,10] (.alt 16 [12] (.done []) .nil) .nil) .nil)))) (.alt 13 [] (.alt 9 [] (.take 10 (.take 11 (.take 12 (.alt 15 [12,11,10] (.alt 16 [12] (.done []) .nil) .nil)))) .nil) .nil)) (.alt 13 [7,6,5,2] (.alt 8 [7,6,5,2] (.alt 9 [] (.take 10 (.take 11 (.take 12 (.alt 15 [12,11,10] (.alt 16 [12] (.done []) .nil) .nil)))) .nil) .nil) .nil)) .nil))) (.alt 13 [7,6,5,3,2] (.alt 4 [7,6,5,3,2] (.alt 8 [7,6,5,2] (.alt 9 [] (.take 10 (.take 11 (.take 12 (.alt 14 [12,11,10] (.alt 15 [12,11,10] (.alt 16 [12] (.done []) .nil) .nil) .nil)))) (.alt 14 [] (.alt 9 [] (.take 10 (.take 11 (.take 12 (.alt 15 [12,11,10] (.alt 16 [12] (.done []) .nil) .nil)))) .nil) .nil)) (.alt 14 [7,6,5,2] (.alt 8 [7,6,5,2] (.alt 9 [] (.take 10 (.take 11 (.take 12 (.alt 15 [12,11,10] (.alt 16 [12] (.done []) .nil) .nil)))) .nil) .nil) .nil)) (.alt 14 [7,6,5,3,2] (.alt 4 [7,6,5,3,2] (.alt 8 [7,6,5,2] (.alt 9 [] (.take 10 (.take 11 (.take 12 (.alt 15 [12,11,10] (.alt 16 [12] (.done []) .nil) .nil)))) .nil) .nil) .nil) .nil)) (.alt 14 [7,6,5,3,2] (.alt 4 [7,6,5,3,2] (.alt 8 [7,6,5,2] (.alt 9 [] (.take 10 (.take 11 (.take 12 (.alt 13 [12,11,10] (.alt 15 [12,11,10] (.alt 16 [12] (.done []) .nil) .nil) .nil)))) (.alt 13 [] (.alt 9 [] (.take 10 (.take 11 (.take 12 (.alt 15 [12,11,10] (.alt 16 [12] (.done []) .nil) .nil)))) .nil) .nil)) (.alt 13 [7,6,5,2] (.alt 8 [7,6,5,2] (.alt 9 [] (.take 10 (.take 11 (.take 12 (.alt 15 [12,11,10] (.alt 16 [12] (.done []) .nil) .nil)))) .nil) .nil) .nil)) (.alt 13 [7,6,5,3,2] (.alt 4 [7,6,5,3,2] (.alt 8 [7,6,5,2] (.alt 9 [] (.take 10 (.take 11 (.take 12 (.alt 15 [12,11,10] (.alt 16 [12] (.done []) .nil) .nil)))) .nil) .nil) .nil) .nil)) .nil))) (.alt 13 [7,6,5,3,2,0] (.alt 1 [7,6,5,3,2,0] (.alt 4 [7,6,5,3,2] (.alt 8 [7,6,5,2] (.alt 9 [] (.take 10 (.take 11 (.take 12 (.alt 14 [12,11,10] (.alt 15 [12,11,10] (.alt 16 [12] (.done []) .nil) .nil) .nil)))) (.alt 14 [] (.alt 9 [] (.take 10 (.take 11 (.take 12 (.alt 15 [12,11,10] (.alt 16 [12] (.done []) .nil) .nil)))) .nil) .nil)) (.alt 14 [7,6,5,2] (.alt 8 [7,6,5,2] (.alt 9 [] (.take 10 (.take 11 (.take 12 (.alt 15 [12,11,10] (.alt 16 [12] (.done []) .nil) .nil)))) .nil) .nil) .nil)) (.alt 14 [7,6,5,3,2] (.alt 4 [7,6,5,3,2] (.alt 8 [7,6,5,2] (.alt 9 [] (.take 10 (.take 11 (.take 12 (.alt 15 [12,11,10] (.alt 16 [12] (.done []) .nil) .nil)))) .nil) .nil) .nil) .nil)) (.alt 14 [7,6,5,3,2,0] (.alt 1 [7,6,5,3,2,0] (.alt 4 [7,6,5,3,2] (.alt 8 [7,6,5,2] (.alt 9 [] (.take 10 (.take 11 (.take 12 (.alt 15 [12,11,10] (.alt 16 [12] (.done []) .nil) .nil)))) .nil) .nil) .nil) .nil) .nil)) (.alt 14 [7,6,5,3,2,0] (.alt 1 [7,6,5,3,2,0] (.alt 4 [7,6,5,3,2] (.alt 8 [7,6,5,2] (.alt 9 [] (.take 10 (.take 11 (.take 12 (.alt 13 [12,11,10] (.alt 15 [12,11,10] (.alt 16 [12] (.done []) .nil) .nil) .nil)))) (.alt 13 [] (.alt 9 [] (.take 10 (.take 11 (.take 12 (.alt 15 [12,11,10] (.alt 16 [12] (.done []) .nil) .nil)))) .nil) .nil)) (.alt 13 [7,6,5,2] (.alt 8 [7,6,5,2] (.alt 9 [] (.take 10 (.take 11 (.take 12 (.alt 15 [12,11,10] (.alt 16 [12] (.done []) .nil) .nil)))) .nil) .nil) .nil)) (.alt 13 [7,6,5,3,2] (.alt 4 [7,6,5,3,2] (.alt 8 [7,6,5,2] (.alt 9 [] (.take 10 (.take 11 (.take 12 (.alt 15 [12,11,10] (.alt 16 [12] (.done []) .nil) .nil)))) .nil) .nil) .nil) .nil)) (.alt 13 [7,6,5,3,2,0] (.alt 1 [7,6,5,3,2,0] (.alt 4 [7,6,5,3,2] (.alt 8 [7,6,5,2] (.alt 9 [] (.take 10 (.take 11 (.take 12 (.alt 15 [12,11,10] (.alt 16 [12] (.done []) .nil) .nil)))) .nil) .nil) .nil) .nil) .nil)) .nil)))))))))) T_ok (by kernel_rfl) (by kernel_rfl) (by kernel_rfl) (λ_ _ _ _ h=>h.elim λ_ h=>h.elim λ_ h=>h.elim λ_ h=>h.2) ?_
  simp[go_sem,m0]
  repeat' (first | apply And.intro | (refine call_val (tick45 50) rfl rfl ?_;simp[go_sem,m0]) | (refine call_val (tick45 10) rfl rfl ?_;simp[go_sem,m0]))
  all_goals
   first | refine callK_freeze 76 (R:=.vec 66 34 6 _) (by simp[go_sem];rfl) ?_ | refine callK_freeze 77 (R:=.vec 66 34 6 _) (by simp[go_sem];rfl) ?_ | refine callK_freeze 78 (R:=.vec 66 34 6 _) (by simp[go_sem];rfl) ?_
   simp[go_sem]
   refine call_val (hc7 λi j _ _=>row_ofx (l:=exQ) rfl i j) rfl rfl ?_
   simp[go_sem]
  repeat' apply And.intro
  all_goals
   refine vq_step (GSt.bump 61) ?_
   refine vq_mvP 17 120 (by simp[go_sem];exact⟨rfl,rfl,rfl,rfl⟩) (by simp) ?_
   refine vq_mvP 18 121 (by simp[go_sem];exact⟨rfl,rfl,rfl,rfl⟩) (by simp) ?_
   refine vq_done ?_
   simp[go_sem,eqS,JP,okA,m75]
 clear m0 m75
 rintro J M nx ⟨rfl,m75,m120,m121⟩
 obtain⟨q1,q2,q3,q4,q5,q6⟩:X7.ch.length=0∧(X7.ks.map λk=>k.s)=[0#64]∧(X7.lg.map λe=>e.p)=[-1]∧X7.ir.length=2∧X7.eye 0=IrG.z∧X7.valid=true:=by
  simp only [Bool.and_eq_true,beq_iff_eq] at f7
  obtain⟨⟨⟨⟨⟨g1,g2⟩,g3⟩,g4⟩,g5⟩,g6⟩:=f7
  exact⟨g1,g2,g3,g4,g5,g6⟩
 clear f7 hc7
 obtain⟨k,hk⟩:∃k,X7.ks=[k]:=by
  have:=congrArg List.length q2
  rw[List.length_map] at this
  exact List.length_eq_one_iff.1 this
 obtain⟨e',he'⟩:∃e,X7.lg=[e]:=by
  have:=congrArg List.length q3
  rw[List.length_map] at this
  exact List.length_eq_one_iff.1 this
 have hks:k.s=0#64:=by rw[hk] at q2;simpa using q2
 have hep:e'.p=-1:=by rw[he'] at q3;simpa using q3
 have rk:∀j,rowOf KsG.f X7.ks 0 j=k.f j:=λj=>by rw[hk];rfl
 have rl:∀j,rowOf EnG.f X7.lg 0 j=e'.f j:=λj=>by rw[he'];rfl
 have ri:∀j,rowOf IrG.f X7.ir 0 j=IrG.z.f j:=λj=>by
  have h0:0<X7.ir.length:=by omega
  have h1:X7.eye ((0:Nat):Int)=X7.ir[0]:=SvG.eye_get h0
  rw[rowOf_get h0,← h1]
  exact congrArg (λx=>IrG.f x j) q5
 have lk:X7.ks.length=1:=by rw[hk];rfl
 have ll:X7.lg.length=1:=by rw[he'];rfl
 have hch:X7.ch=[]:=List.length_eq_zero_iff.1 q1
 have hv7:=SvG.va_iff.1 q6
 simp[go_sem,m75,m120,m121,rk,rl,ri,lk,ll,hch,q4,hks,hep,IrG.z]
 have h30:=check30s X7 hv7.ok
 rw[chkE_iff.2 q6] at h30
 simp only [SvG.sv,SvG.cells,hch] at h30
 refine call_val h30 rfl rfl ?_
 simp[go_sem]
 refine GDraw_inX (S:=[]) (φ:=λM nx=>nx=140) ?_ ?_ ?_
 ·simp[go_sem]
 ·rfl
 clear m75 m120 m121
 rintro J M nx rfl
 refine GDraw_cutv (S:=[(21,.i 4)]) (φ:=λM nx=>nx=150) ?_ ?_
 ·refine GDraw_l (t:=(.alt 0 [] (.alt 1 [] (.alt 2 [] (.take 3 (.take 4 (.take 5 (.take 6 (.alt 7 [6,5,4,3] (.alt 8 [6,5,4,3] (.take 9 (.take 10 (.done [10,9,6,5]))) .nil) .nil))))) (.alt 7 [] (.alt 2 [] (.take 3 (.take 4 (.take 5 (.take 6 (.alt 8 [6,5,4,3] (.take 9 (.take 10 (.done [10,9,6,5]))) .nil))))) .nil) .nil)) (.alt 7 [] (.alt 1 [] (.alt 2 [] (.take 3 (.take 4 (.take 5 (.take 6 (.alt 8 [6,5,4,3] (.take 9 (.take 10 (.done [10,9,6,5]))) .nil))))) .nil) .nil) .nil)) (.alt 1 [] (.alt 0 [] (.alt 2 [] (.take 3 (.take 4 (.take 5 (.take 6 (.alt 7 [6,5,4,3] (.alt 8 [6,5,4,3] (.take 9 (.take 10 (.done [10,9,6,5]))) .nil) .nil))))) (.alt 7 [] (.alt 2 [] (.take 3 (.take 4 (.take 5 (.take 6 (.alt 8 [6,5,4,3] (.take 9 (.take 10 (.done [10,9,6,5]))) .nil))))) .nil) .nil)) (.alt 7 [] (.alt 0 [] (.alt 2 [] (.take 3 (.take 4 (.take 5 (.take 6 (.alt 8 [6,5,4,3] (.take 9 (.take 10 (.done [10,9,6,5]))) .nil))))) .nil) .nil) .nil)) (.alt 7 [] (.alt 0 [] (.alt 1 [] (.alt 2 [] (.take 3 (.take 4 (.take 5 (.take 6 (.alt 8 [6,5,4,3] (.take 9 (.take 10 (.done [10,9,6,5]))) .nil))))) .nil) .nil) (.alt 1 [] (.alt 0 [] (.alt 2 [] (.take 3 (.take 4 (.take 5 (.take 6 (.alt 8 [6,5,4,3] (.take 9 (.take 10 (.done [10,9,6,5]))) .nil))))) .nil) .nil) .nil)) .nil)))) T_ok (by kernel_rfl) (by kernel_rfl) (by kernel_rfl) (λ_ _ _ _ h=>h.elim λ_ h=>h.elim λ_ h=>h.elim λ_ h=>h.2) ?_
  simp[go_sem]
  repeat' (first | apply And.intro | (refine call_val quarter48 rfl rfl ?_;simp[go_sem]))
  all_goals
   first | refine callK_freeze 140 (R:=.vec 66 34 301 _) (by simp[go_sem];rfl) ?_ | refine callK_freeze 141 (R:=.vec 66 34 301 _) (by simp[go_sem];rfl) ?_
   simp[go_sem]
   refine call_val (bad_zeros.args ⟨SV.le.rfl,zeros_le λi j hi hj=>?_,trivial⟩) rfl rfl ?_
   ·rcases j with _ | _ | _ | _ | _ | _ | _ | _ | _ | _ | _ | _ | _ | _ | _ | _ | _ | _ | _ | _ | _ | _ | _ | _ | _ | _ | _ | _ | _ | _ | _ | _ | _ | _ | j
    iterate 33 exact RV.le_rfl
    ·exact RV.le_sub rfl
    ·omega
   simp[go_sem]
  repeat' apply And.intro
  all_goals
   refine vq_step (GSt.bump 8) (vq_done ?_)
   simp[go_sem,eqS,JP]
 rintro J M nx rfl
 simp[go_sem]
 refine call_val quarter48 rfl rfl ?_
 simp[go_sem]
 refine callK_freeze 150 (by simp[go_sem];rfl) ?_
 simp[go_sem]
 refine call_val (bad_15.args ⟨SV.le.rfl,le_ords (l:=[k15O]) λi j hi hj=>?_,trivial⟩) rfl rfl ?_
 ·have:=cx_rows [(k15O,false)] i j hi hj
  rw[← row_ofx (l:=[(k15O,false)]) rfl i j] at this
  exact this
 simp[go_sem]
 refine call_val (bad_set.args ⟨SV.le.rfl,Ix.le_r (nil_rs 34 _),trivial⟩) rfl rfl ?_
 simp[go_sem]
 have h1:=checkOrder34 t1O (by decide)
 have h2:=checkOrder34 fqO (by decide)
 rw[fx10] at h1
 rw[fx11] at h2
 refine call_val (h1.args ⟨SV.le_of_sub (by simp[go_sem,t1O,OrG.z]),trivial⟩) rfl rfl ?_
 simp[go_sem]
 refine call_val (h2.args ⟨SV.le_of_sub (by simp[go_sem,fqO,OrG.z]),trivial⟩) rfl rfl ?_
 simp[go_sem]
end Go.Gx.Sr
