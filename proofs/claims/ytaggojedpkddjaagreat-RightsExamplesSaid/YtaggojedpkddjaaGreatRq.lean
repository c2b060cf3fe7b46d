/-
  The chapter's example; what covers a query.
-/
import Derived.Test.YtaggojedpkddjaaGreatRo
set_option linter.unusedVariables false
set_option linter.unusedSimpArgs false
set_option maxRecDepth 20000
set_option maxHeartbeats 2000000
namespace Go.Gx.Rg
open Go.RowKit Go.Proofs Go.Proofs.YtaggojedpkddjaaGreat

theorem SV.le_of_sub {s s' : SV} (h : s.sub s') : s.le s' := fun Z w y hr => SV.sub_rel _ _ _ h hr
/-- The rights of the chapter's example. -/
def exG : RG := ⟨2, fun i => if i = 0 then ⟨1, 2, 3, 0, 100, 1, 1, 3⟩ else ⟨1, 2, 3, 0, 100, 2, 3, 2⟩, 0, fun _ => ⟨0, 0, 0⟩, 1, fun _ => ⟨3, 5, 20, 40⟩, 1, fun _ => ⟨3, 5, 10, 50, 77⟩⟩
def exQ (t : Int) (n : Nat) (k : Nat → Int) : QG := ⟨1, 2, 3, 5, t, n, k⟩
theorem exQ_OK {t : Int} {n : Nat} {k : Nat → Int} (h : (n : Int) < 2 ^ 62) : (exQ t n k).OK := h
theorem exG_OK : exG.OK := by
  refine ⟨by decide, by decide, by decide, by decide, fun i hi => ?_⟩
  simp only [exG, RuleG.byte]
  split <;> simp
theorem some65 : Pure Tryz.prog 5 [] (· = exG.sv) := by
  refine Pure.ofSub ?_
  refine pure_of_GC T_ok Tryz.func5 rfl (by kernel_rfl) (Nat.le_of_ble_eq_true rfl) rfl rfl ?_
  simp [go_sem]
  refine ⟨⟨rfl, fun i j hi hj => ?_⟩, rfl, ⟨rfl, fun i j hi hj => ?_⟩, rfl, fun i j hi hj => ?_⟩
  · rcases (by omega : i = 0 ∨ i = 1) with rfl | rfl <;> rcases (by omega : j = 0 ∨ j = 1 ∨ j = 2 ∨ j = 3 ∨ j = 4 ∨ j = 5 ∨ j = 6 ∨ j = 7) with rfl | rfl | rfl | rfl | rfl | rfl | rfl | rfl <;> rfl
  · have : i = 0 := by omega
    subst this
    rcases (by omega : j = 0 ∨ j = 1 ∨ j = 2 ∨ j = 3) with rfl | rfl | rfl | rfl <;> rfl
  · have : i = 0 := by omega
    subst this
    rcases (by omega : j = 0 ∨ j = 1 ∨ j = 2 ∨ j = 3 ∨ j = 4) with rfl | rfl | rfl | rfl | rfl <;> rfl
theorem ask66 (t : Int) (n : Nat) (k : Nat → Int) : Pure Tryz.prog 6 [.i t, .r (.rs 1 n fun i _ => .i (k i))] (· = (exQ t n k).sv) := by
  refine pure_of_GC T_ok Tryz.func6 rfl (by kernel_rfl) (Nat.le_of_ble_eq_true rfl) rfl rfl ?_
  simp [go_sem]
  simp [exQ]
abbrev k1 (a : Int) : Nat → Int := fun i => match i with | _ => a
abbrev k2 (a b : Int) : Nat → Int := fun i => match i with | 0 => a | _ => b
theorem leCons {s : SV} {l l' : List SV} (h : leL l l') : leL (s :: l) (s :: l') := ⟨SV.le.rfl, h⟩
theorem ask0 (t : Int) : Pure Tryz.prog 6 [.i t, .r (.v (.slice none 0 0))] (· = (exQ t 0 (fun _ => 0)).sv) := (ask66 t 0 _).args (leCons ⟨SV.le_of_sub rfl, trivial⟩)
theorem ask1 {get : Nat → Nat → RV} {t a : Int} (h0 : get 0 0 = .i a) : Pure Tryz.prog 6 [.i t, .r (.rs 1 1 get)] (· = (exQ t 1 (k1 a)).sv) := (ask66 t 1 _).args (leCons (le1 h0))
theorem ask2 {get : Nat → Nat → RV} {t a b : Int} (h0 : get 0 0 = .i a) (h1 : get 1 0 = .i b) : Pure Tryz.prog 6 [.i t, .r (.rs 1 2 get)] (· = (exQ t 2 (k2 a b)).sv) := (ask66 t 2 _).args (leCons (le2 h0 h1))
theorem ex_ans (g : RG) (q : QG) (hg : g.OK) (hq : q.OK) {r1 : Int} {r2 : Bool} {r3 r4 r5 : Int} (h : g.aL q = r1 ∧ g.aO q = r2 ∧ g.aS q = r3 ∧ g.aN q = r4 ∧ g.aerr q = r5) : Pure Tryz.prog 4 [g.sv, q.sv] (· = .tup [.agg [.i r1, .b r2, .i r3, .i r4], .i r5]) := by
  obtain ⟨rfl, rfl, rfl, rfl, rfl⟩ := h
  exact answer26 g q hg hq

theorem alive24 : Pure Tryz.prog 9 [] (· = .b true) := by
  refine pure_of_GC T_ok Tryz.func9 rfl (by kernel_rfl) (Nat.le_of_ble_eq_true rfl) rfl rfl ?_
  simp [go_sem]
  refine call_val some65 rfl rfl ?_
  simp [go_sem]
  refine call_val (ask0 30) rfl rfl ?_
  simp [go_sem]
  refine call_val (ex_ans exG (exQ 30 0 (fun _ => 0)) exG_OK (exQ_OK (by decide)) (r1 := 0) (r2 := false) (r3 := 0) (r4 := 0) (r5 := 90) (by decide +kernel)) rfl rfl ?_
  simp [go_sem]
  refine call_val some65 rfl rfl ?_
  simp [go_sem]
  refine callK_freeze 1 (R := ?R1) ?h1 ?_
  case h1 => simp [go_sem]; rfl
  simp [go_sem]
  refine call_val (ask1 (a := 4) rfl) rfl rfl ?_
  simp [go_sem]
  refine call_val (ex_ans exG (exQ 30 1 (k1 4)) exG_OK (exQ_OK (by decide)) (r1 := 1) (r2 := true) (r3 := 0) (r4 := 0) (r5 := 0) (by decide +kernel)) rfl rfl ?_
  simp [go_sem]
  refine call_val some65 rfl rfl ?_
  simp [go_sem]
  refine callK_freeze 3 (R := ?R2) ?h2 ?_
  case h2 => simp [go_sem]; rfl
  simp [go_sem]
  refine call_val (ask2 (a := 4) (b := 6) rfl rfl) rfl rfl ?_
  simp [go_sem]
  refine call_val (ex_ans exG (exQ 30 2 (k2 4 6)) exG_OK (exQ_OK (by decide)) (r1 := 3) (r2 := true) (r3 := 10) (r4 := 77) (r5 := 0) (by decide +kernel)) rfl rfl ?_
  simp [go_sem]
  refine call_val some65 rfl rfl ?_
  simp [go_sem]
  refine callK_freeze 5 (R := ?R3) ?h3 ?_
  case h3 => simp [go_sem]; rfl
  simp [go_sem]
  refine call_val (ask2 (a := 4) (b := 6) rfl rfl) rfl rfl ?_
  simp [go_sem]
  refine call_val (ex_ans exG (exQ 60 2 (k2 4 6)) exG_OK (exQ_OK (by decide)) (r1 := 1) (r2 := false) (r3 := 0) (r4 := 0) (r5 := 0) (by decide +kernel)) rfl rfl ?_
  simp [go_sem]

def covB (g : RG) (q : QG) (b : Int) : Bool := decide (b = 1) && g.hasC q || decide (b = 2) && g.hasW q || decide (b = 3)
theorem cov_based {g : RG} {q : QG} {b : Int} (h : 1 ≤ b ∧ b ≤ 3) : covB g q b = based g q b := by
  rcases (by omega : b = 1 ∨ b = 2 ∨ b = 3) with rfl | rfl | rfl <;> simp [covB, based]
end Go.Gx.Rg
