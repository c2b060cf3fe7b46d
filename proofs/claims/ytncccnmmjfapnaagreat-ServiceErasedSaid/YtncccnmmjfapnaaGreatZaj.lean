/-
  Texts of the walk, merged: Ks.
-/
import Derived.Test.YtncccnmmjfapnaaGreatZah
set_option linter.unusedVariables false
set_option linter.unusedSimpArgs false
set_option maxRecDepth 100000
set_option maxHeartbeats 4000000
namespace Go.Gx
open Go.RowKit
section
variable {P:Program} {T:Tab} {N:Cfg} {E:Env} {M:Mem} {nx:Nat}
theorem MapOf.size {has:Int→Bool} {R:Int→Value→Prop} {es:List MapEntry} {ck:Nat} (h:MapOf has R es ck) {L:List Int} (hnd:L.Nodup) (hL:∀a,has a=true↔a∈L):es.length=L.length:=by
 obtain⟨h1,h2,h3,_⟩:=h
 let f:MapEntry→Int:=λe=>match e.key with | .int .i64 a=>a | _=>0
 have hf:∀e∈es,e.key=.int .i64 (f e):=λe he=>by
  obtain⟨a,h,_⟩:=h1 e he
  show _=Value.int .i64 (match e.key with | .int .i64 a=>a | _=>0)
  rw[h]
 have hn:(es.map f).Nodup:=by
  rw[List.Nodup,List.pairwise_map]
  refine List.Pairwise.imp_of_mem (fun {x y} hx hy hxy e=>hxy.1 ?_) h3
  rw[hf x hx,hf y hy,e]
 have hp:(es.map f).Perm L:=(List.perm_ext_iff_of_nodup hn hnd).2 λa=>by
  rw[← hL,List.mem_map]
  constructor
  ·rintro⟨e,he,rfl⟩
   obtain⟨a,k1,k2,_⟩:=h1 e he
   rw[hf e he] at k1
   cases k1
   exact k2
  ·intro ha
   obtain⟨e,he,k⟩:=h2 a ha
   rw[hf e he] at k
   exact⟨e,he,by cases k;rfl⟩
 have:=hp.length_eq
 simpa using this
theorem GOp_mapLen (hT:TabOK P T) {K:Env→Mem→Nat→Prop} {d:Option Tmp} {t ty:TypeId} {pos:String} {af:Array Edge} {x:Operand} {q:Nat} {has:Int→Bool} {val:Int→SV} {st:Option ((Int→Nat) × Nat)}
 (hx:ev E x=.mp q) (hQ:M q=some (.map has val st)) (ht:(mapE T t).isSome=true) (hd:dOK N.n d) (L:List Int) (hnd:L.Nodup) (hL:∀a,has a=true↔a∈L)
 (h:K (envPut E d (.i L.length)) M nx) :
 GOpW P N ⟨d,.call ⟨.builtin .len,#[x],#[t]⟩,ty,pos,af,none⟩ E M nx K:=by
 intro B W w0 σ a w hs next Q' hK
 refine wpIn_of_wp ?_
 obtain⟨e,he⟩:=Option.isSome_iff_exists.1 ht
 obtain⟨k,hu,hk⟩:=mapE_spec hT he
 have hr:=ev_rel hs.env x
 rw[hx] at hr
 obtain⟨Lc,b,h1,h2,h3⟩:=hr
 obtain⟨es,ck,g1,g2,g3⟩:=reg_map hs.mem hQ h1 h2
 have hsz:es.size=L.length:=by have:=g2.size hnd hL;simpa using this
 have hrun:(execOp a.eval ⟨d,.call ⟨.builtin .len,#[x],#[t]⟩,ty,pos,af,none⟩).run P w=.ok (.value (.int .i64 L.length)) w:=by
  simp[execOp,resolve,invoke,builtin,Builtin.len_,h3,run_underlying hu,MapKept.run_getObj_map g1,hsz]
  rfl
 unfold Oper.wp
 rw[hrun]
 exact hK _ _ _ _ _ _ h (St.put hs hd rfl)
end
end Go.Gx
namespace Go.Gx
open Go.RowKit
section
variable {P:Program} {T:Tab} {N:Cfg} {E:Env} {M:Mem} {nx:Nat}
end
end Go.Gx
