/-
  Law: RightsChecks.
-/
import Derived.Test.YtaggojedpkddjaaSw
import Derived.Test.YtaggojedpkddjaaSm
import Derived.Test.YtaggojedpkddjaaSt
set_option linter.unusedVariables false
set_option linter.unusedSimpArgs false
set_option maxRecDepth 20000
set_option maxHeartbeats 4000000
namespace Go.Gx
open Go.RowKit Go.Proofs Go.Proofs.Ytaggojedpkddjaa

theorem QG.ors_own (q : QG) : Reg.ownL q.ors := by
  refine ⟨fun i j _ hj => ?_, trivial⟩
  have : j = 0 := by omega
  subst this; rfl
theorem QG.own_tup {q : QG} {e : Int} : (SV.tup [q.osv, .i e]).own := ⟨⟨rfl, rfl, rfl, rfl, rfl, trivial, trivial⟩, rfl, trivial⟩
theorem QG.same_rfl (q : QG) : q.same q = true := by
  unfold QG.same QG.sk
  simp
theorem twin17p (g : RG) (hr : g.nr ≤ 1000000) (hc : g.nc ≤ 1000000) (hw : g.nw ≤ 1000000) (hm : g.nm ≤ 1000000) : Pure Try.prog 17 [g.sv] (· = g.sv) := by
  refine Pure.ofSub ?_
  refine pure_of_GC T_ok Try.func17 rfl (by kernel_rfl) (Nat.le_of_ble_eq_true rfl) rfl rfl ?_
  simp [go_sem]
  refine ⟨⟨by omega, by omega⟩, ⟨by omega, by omega⟩, ⟨by omega, by omega⟩, ⟨by omega, by omega⟩, ?_⟩
  simp [go_sem, joined]
  refine ⟨?_, ?_, ?_, ?_⟩ <;> (intros; omega)

theorem Pure.sub {P : Program} {f : FuncId} {args args' : List SV} {φ : SV → Prop} (h : Pure P f args' φ) (hs : SV.subL args args') : Pure P f args φ := fun Z w vs hz ha => h Z w vs hz (SV.subL_rel _ _ _ hs ha)

theorem law11 (g h : RG) (q : QG) (o : Int) (hb : g.By) (hb' : h.By) (_ : -9223372036854775808 ≤ o) (_ : o ≤ 9223372036854775807) : Pure Try.prog 11 [g.sv, h.sv, q.sv, .i o] (· = .b true) := by
  refine pure_of_GC T_ok Try.func11 rfl (by kernel_rfl) (Nat.le_of_ble_eq_true rfl) rfl rfl ?_
  simp [go_sem]
  refine call_val (great16 g) rfl rfl ?_
  generalize hg : g.great = a
  cases a
  rotate_left
  · simp [go_sem]
  have hG := OK_of hb hg
  have hsz : g.nr ≤ 30 ∧ g.nc ≤ 50 ∧ g.nw ≤ 30 ∧ g.nm ≤ 50 := by
    simp [RG.great] at hg
    omega
  simp [go_sem]
  refine call_val (great16 h) rfl rfl ?_
  generalize hh : h.great = a
  cases a
  rotate_left
  · simp [go_sem]
  have hH := OK_of hb' hh
  simp [go_sem]
  refine call_val (long25 q) rfl rfl ?_
  by_cases hq : 20 < (q.nk : Int)
  · simp [go_sem, hq]
  have hQ : q.OK := by unfold QG.OK; omega
  have o1 := own37 q o hQ
  have r1 := ref38 q o hQ
  have z1 : ((if q.sgE o = 0 then q.sg o else QG.nil).nk : Int) < 2 ^ 61 := by
    split
    · simp only [QG.sg]; omega
    · decide
  generalize (if q.sgE o = 0 then q.sg o else QG.nil) = y1 at *
  generalize q.sgE o = e1 at *
  simp [go_sem, hq]
  refine ⟨⟨by omega, by omega⟩, ?_⟩
  have hv : SV.subL [SV.agg [.i q.p, .i q.r, .i q.l, .i q.w, .i q.t, .r (.rs 1 q.nk (joined 0 q.nk (fun i j => RV.any) fun i x => RV.i (q.k i)))], .i o] [q.sv, .i o] := by
    simp [go_sem, joined]
  have hv' : SV.subL [SV.agg [.i q.p, .i q.r, .i q.l, .i q.w, .i q.t, .r (.rs 1 q.nk (joined 0 q.nk (fun i j => RV.any) fun i x => RV.i (q.k i)))]] [q.sv] := by
    simp [go_sem, joined]
  refine callK_lentOwn (by simp [go_sem]; exact Own.sub o1 hv) y1.own_tup y1.ors_own ?_
  simp [go_sem]
  refine call_val r1 rfl rfl ?_
  have f1 := check28 g hG
  have f2 := check39 g hG
  have f3 := (same35 g h hG hH).val (v' := .b (g.same h)) rfl
  have f4 := (same22 g h hG hH).val (v' := .b (g.same h)) rfl
  have f5 := twin17p g (by omega) (by omega) (by omega) (by omega)
  have f6 := (same35 g g hG hG).val (v' := .b true) (by rw [RG.same_rfl])
  have f7 := (checkQuery40 q hQ).sub hv'
  have f8 := checkQuery41 q hQ
  have f9 := (sameQuery42 y1 y1 z1 z1).val (v' := .b true) (by rw [QG.same_rfl])
  generalize (if g.valid then (0 : Int) else 8) = e2 at *
  generalize g.same h = b1 at *
  generalize q.err = e3 at *
  simp [go_sem]
  refine GDraw_all T_ok (by kernel_rfl) (by kernel_rfl) ?_
  simp [go_sem]
  refine ⟨_, dcall_val f1 rfl rfl, _, dcall_val f2 rfl rfl, ?_⟩
  simp [go_sem]
  refine ⟨_, dcall_val f3 rfl rfl, _, dcall_val f4 rfl rfl, ?_⟩
  simp [go_sem]
  refine ⟨_, dcall_val f5 rfl rfl, ?_⟩
  simp [go_sem]
  refine ⟨_, dcall_val f6 rfl rfl, ?_⟩
  simp [go_sem]
  refine ⟨_, dcall_lent (v := .i e3) (by simp [go_sem]; exact f7) rfl, ?_⟩
  simp [go_sem]
  refine ⟨_, dcall_val f8 rfl rfl, ?_⟩
  simp [go_sem]
  refine ⟨_, dcall_lent (v := .b true) (by simp [go_sem]; exact f9) rfl, ?_⟩
  simp [go_sem]
  refine GLoop_of T_ok (α := Nat × (Nat → Nat → RV)) (fun x => [(6, .ptr 2 0 6 0), (9, .ptr 3 0 6 0), (10, .ptr 6 0 6 0), (14, .b true), (83, .i y1.nk), (84, .i x.1)])
    (fun x => [some (.box [RuleG.rs g.nr g.r, ConG.rs g.nc g.c, WarG.rs g.nw g.w, MarkG.rs g.nm g.m]), some (.box [RuleG.rs h.nr h.r, ConG.rs h.nc h.c, WarG.rs h.nw h.w, MarkG.rs h.nm h.m]), some (.box [.i q.p, .i q.r, .i q.l, .i q.w, .i q.t, q.ks]), some (.box [.i q.p, .i q.r, .i q.l, .i q.w, .i q.t, .sl 4 1 0 q.nk none]), some (.vec 3 1 q.nk (joined 0 q.nk (fun i j => RV.any) fun i x => RV.i (q.k i))), some (.vec 3 1 y1.nk x.2), some (.box [.i y1.p, .i y1.r, .i y1.l, .i y1.w, .i y1.t, .sl 5 1 0 y1.nk none]), some (.box [.i y1.p, .i y1.r, .i y1.l, .i y1.w, .i y1.t, y1.ks])]) 8 (fun x => x.1 ≤ y1.nk) (fun x => y1.nk - x.1) (0, fun i j => .i (y1.k i)) (fun _ => rfl) (by simp) (by simp [go_sem]) (by simp [go_sem]) ?_
  rintro ⟨k, f⟩ J hi
  simp only at hi
  by_cases hlt : k < y1.nk
  · simp [go_sem, hlt]
    exact ⟨by omega, k + 1, by omega, by omega, by omega⟩
  simp [go_sem, hlt]
  have fA := ((sameQuery42 q q (by unfold QG.OK at hQ; omega) (by unfold QG.OK at hQ; omega)).val (v' := .b true) (by rw [QG.same_rfl])).sub (args := [SV.agg [.i q.p, .i q.r, .i q.l, .i q.w, .i q.t, .r (.rs 1 q.nk (joined 0 q.nk (fun i j => RV.any) fun i x => RV.i (q.k i)))], q.sv]) (by simp [go_sem, joined])
  refine call_lent (v := .b true) (by simp [go_sem]; exact fA) rfl ?_
  simp [go_sem]
end Go.Gx
