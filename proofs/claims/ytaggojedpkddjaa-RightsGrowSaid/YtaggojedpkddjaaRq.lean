/-
  The chapter's example; what covers a query.
-/
import Derived.Test.YtaggojedpkddjaaRo
set_option linter.unusedVariables false
set_option linter.unusedSimpArgs false
set_option maxRecDepth 20000
set_option maxHeartbeats 2000000
namespace Go.Gx.Rg
open Go.RowKit Go.Proofs Go.Proofs.Ytaggojedpkddjaa

theorem SV.le_of_sub {s s' : SV} (h : s.sub s') : s.le s' := fun Z w y hr => SV.sub_rel _ _ _ h hr
/-- The rights of the chapter's example. -/
def exG : RG := ⟨2, fun i => if i = 0 then ⟨1, 2, 3, 0, 100, 1, 1, 3⟩ else ⟨1, 2, 3, 0, 100, 2, 3, 2⟩, 0, fun _ => ⟨0, 0, 0⟩, 1, fun _ => ⟨3, 5, 20, 40⟩, 1, fun _ => ⟨3, 5, 10, 50, 77⟩⟩
def exQ (t : Int) (n : Nat) (k : Nat → Int) : QG := ⟨1, 2, 3, 5, t, n, k⟩
theorem exQ_OK {t : Int} {n : Nat} {k : Nat → Int} (h : (n : Int) < 2 ^ 62) : (exQ t n k).OK := h
theorem exG_OK : exG.OK := by
  refine ⟨by decide, by decide, by decide, by decide, fun i hi => ?_⟩
  simp only [exG, RuleG.byte]
  split <;> simp
theorem some65 : Pure Try.prog 65 [] (· = exG.sv) := by
  refine Pure.ofSub ?_
  refine pure_of_GC T_ok Try.func65 rfl (by kernel_rfl) (Nat.le_of_ble_eq_true rfl) rfl rfl ?_
  simp [go_sem]
  refine ⟨⟨rfl, fun i j hi hj => ?_⟩, rfl, ⟨rfl, fun i j hi hj => ?_⟩, rfl, fun i j hi hj => ?_⟩
  · rcases (by omega : i = 0 ∨ i = 1) with rfl | rfl <;> rcases (by omega : j = 0 ∨ j = 1 ∨ j = 2 ∨ j = 3 ∨ j = 4 ∨ j = 5 ∨ j = 6 ∨ j = 7) with rfl | rfl | rfl | rfl | rfl | rfl | rfl | rfl <;> rfl
  · have : i = 0 := by omega
    subst this
    rcases (by omega : j = 0 ∨ j = 1 ∨ j = 2 ∨ j = 3) with rfl | rfl | rfl | rfl <;> rfl
  · have : i = 0 := by omega
    subst this
    rcases (by omega : j = 0 ∨ j = 1 ∨ j = 2 ∨ j = 3 ∨ j = 4) with rfl | rfl | rfl | rfl | rfl <;> rfl
theorem ask66 (t : Int) (n : Nat) (k : Nat → Int) : Pure Try.prog 66 [.i t, .r (.rs 1 n fun i _ => .i (k i))] (· = (exQ t n k).sv) := by
  refine pure_of_GC T_ok Try.func66 rfl (by kernel_rfl) (Nat.le_of_ble_eq_true rfl) rfl rfl ?_
  simp [go_sem]
  simp [exQ]
abbrev k1 (a : Int) : Nat → Int := fun i => match i with | _ => a
abbrev k2 (a b : Int) : Nat → Int := fun i => match i with | 0 => a | _ => b
theorem leCons {s : SV} {l l' : List SV} (h : leL l l') : leL (s :: l) (s :: l') := ⟨SV.le.rfl, h⟩
theorem ask0 (t : Int) : Pure Try.prog 66 [.i t, .r (.v (.slice none 0 0))] (· = (exQ t 0 (fun _ => 0)).sv) := (ask66 t 0 _).args (leCons ⟨SV.le_of_sub rfl, trivial⟩)
theorem ask1 {get : Nat → Nat → RV} {t a : Int} (h0 : get 0 0 = .i a) : Pure Try.prog 66 [.i t, .r (.rs 1 1 get)] (· = (exQ t 1 (k1 a)).sv) := (ask66 t 1 _).args (leCons (le1 h0))
theorem ask2 {get : Nat → Nat → RV} {t a b : Int} (h0 : get 0 0 = .i a) (h1 : get 1 0 = .i b) : Pure Try.prog 66 [.i t, .r (.rs 1 2 get)] (· = (exQ t 2 (k2 a b)).sv) := (ask66 t 2 _).args (leCons (le2 h0 h1))
theorem ex_ans (g : RG) (q : QG) (hg : g.OK) (hq : q.OK) {a : Int} {b : Bool} {c d e : Int} (h : g.aL q = a ∧ g.aO q = b ∧ g.aS q = c ∧ g.aN q = d ∧ g.aerr q = e) : Pure Try.prog 26 [g.sv, q.sv] (· = .tup [.agg [.i a, .b b, .i c, .i d], .i e]) := by
  obtain ⟨rfl, rfl, rfl, rfl, rfl⟩ := h
  exact answer26 g q hg hq

theorem alive24 : Pure Try.prog 24 [] (· = .b true) := by
  refine pure_of_GC T_ok Try.func24 rfl (by kernel_rfl) (Nat.le_of_ble_eq_true rfl) rfl rfl ?_
  simp [go_sem]
  refine call_val some65 rfl rfl ?_
  simp [go_sem]
  refine call_val (ask0 30) rfl rfl ?_
  simp [go_sem]
  refine call_val (ex_ans exG (exQ 30 0 (fun _ => 0)) exG_OK (exQ_OK (by decide)) (a := 0) (b := false) (c := 0) (d := 0) (e := 90) (by decide +kernel)) rfl rfl ?_
  simp [go_sem]
  refine call_val some65 rfl rfl ?_
  simp [go_sem]
  refine callK_freeze 1 (R := ?R1) ?h1 ?_
  case h1 => simp [go_sem]; rfl
  simp [go_sem]
  refine call_val (ask1 (a := 4) rfl) rfl rfl ?_
  simp [go_sem]
  refine call_val (ex_ans exG (exQ 30 1 (k1 4)) exG_OK (exQ_OK (by decide)) (a := 1) (b := true) (c := 0) (d := 0) (e := 0) (by decide +kernel)) rfl rfl ?_
  simp [go_sem]
  refine call_val some65 rfl rfl ?_
  simp [go_sem]
  refine callK_freeze 3 (R := ?R2) ?h2 ?_
  case h2 => simp [go_sem]; rfl
  simp [go_sem]
  refine call_val (ask2 (a := 4) (b := 6) rfl rfl) rfl rfl ?_
  simp [go_sem]
  refine call_val (ex_ans exG (exQ 30 2 (k2 4 6)) exG_OK (exQ_OK (by decide)) (a := 3) (b := true) (c := 10) (d := 77) (e := 0) (by decide +kernel)) rfl rfl ?_
  simp [go_sem]
  refine call_val some65 rfl rfl ?_
  simp [go_sem]
  refine callK_freeze 5 (R := ?R3) ?h3 ?_
  case h3 => simp [go_sem]; rfl
  simp [go_sem]
  refine call_val (ask2 (a := 4) (b := 6) rfl rfl) rfl rfl ?_
  simp [go_sem]
  refine call_val (ex_ans exG (exQ 60 2 (k2 4 6)) exG_OK (exQ_OK (by decide)) (a := 1) (b := false) (c := 0) (d := 0) (e := 0) (by decide +kernel)) rfl rfl ?_
  simp [go_sem]

def covB (g : RG) (q : QG) (b : Int) : Bool := decide (b = 1) && g.hasC q || decide (b = 2) && g.hasW q || decide (b = 3)
theorem covers27 (g : RG) (q : QG) (b : Int) (h : g.OK) : Pure Try.prog 27 [g.sv, q.sv, .r (.v (.int .u8 b))] (· = .b (covB g q b)) := by
  refine pure_of_GC T_ok Try.func27 rfl (by kernel_rfl) (Nat.le_of_ble_eq_true rfl) rfl rfl ?_
  have hc := h.nc
  have hw := h.nw
  simp [go_sem]
  refine GLoop_of T_ok (α := Nat) (fun k => [(2, .r (.v (.int .u8 b))), (3, .ptr 0 0 4 0), (4, .ptr 1 0 6 0), (12, ConG.rs g.nc g.c), (13, .i g.nc), (14, .i k)]) (fun _ => g.box ++ [q.bx]) 2 (fun k => k ≤ g.nc ∧ ∀ j, j < k → (decide (b = 1) && (g.c j).cov q) = false) (fun k => g.nc - k) 0 (fun _ => rfl) (by simp) (by simp [go_sem]) (by simp [go_sem]) ?_
  intro k J hi
  simp [go_sem]
  split
  · rename_i hlt
    refine ⟨by omega, ?_⟩
    by_cases e0 : b = 1
    rotate_left
    · simp [go_sem, e0]
      exact ⟨by omega, k + 1, by omega, by omega, by simp⟩
    by_cases e1 : (g.c k).p = q.w
    rotate_left
    · simp [go_sem, e0, e1]
      exact ⟨by omega, k + 1, ⟨by omega, fun j hj => by
        have := step_all hi.2 (show (decide (b = 1) && (g.c k).cov q) = false by simp [ConG.cov, e1]) j hj
        simpa [e0] using this⟩, by omega, by simp⟩
    by_cases e2 : (g.c k).q = q.p
    rotate_left
    · simp [go_sem, e0, e1, e2]
      exact ⟨by omega, k + 1, ⟨by omega, fun j hj => by
        have := step_all hi.2 (show (decide (b = 1) && (g.c k).cov q) = false by simp [ConG.cov, e2]) j hj
        simpa [e0] using this⟩, by omega, by simp⟩
    by_cases e3 : q.t < (g.c k).u
    rotate_left
    · simp [go_sem, e0, e1, e2, e3]
      exact ⟨by omega, k + 1, ⟨by omega, fun j hj => by
        have := step_all hi.2 (show (decide (b = 1) && (g.c k).cov q) = false by simp [ConG.cov, e3]) j hj
        simpa [e0] using this⟩, by omega, by simp⟩
    simp [go_sem, e0, e1, e2, e3]
    simp [covB, RG.hasC]
    exact ⟨k, hlt, by simp [ConG.cov, e1, e2, e3]⟩
  rename_i hge
  have hC : (decide (b = 1) && g.hasC q) = false := by
    by_cases e0 : b = 1
    · simp [e0, RG.hasC]
      intro j hj
      have := hi.2 j (by omega)
      simpa [e0] using this
    · simp [e0]
  clear hi
  refine GLoop_of T_ok (α := Nat) (fun k => [(2, .r (.v (.int .u8 b))), (3, .ptr 0 0 4 0), (4, .ptr 1 0 6 0), (43, WarG.rs g.nw g.w), (44, .i g.nw), (45, .i k)]) (fun _ => g.box ++ [q.bx]) 2 (fun k => k ≤ g.nw ∧ ∀ j, j < k → (decide (b = 2) && (g.w j).cov q) = false) (fun k => g.nw - k) 0 (fun _ => rfl) (by simp) (by simp [go_sem]) (by simp [go_sem]) ?_
  intro k J hi
  simp [go_sem]
  split
  · rename_i hlt
    refine ⟨by omega, ?_⟩
    by_cases e0 : b = 2
    rotate_left
    · simp [go_sem, e0]
      exact ⟨by omega, k + 1, by omega, by omega, by simp⟩
    have no : (g.w k).cov q = false → ∀ j, j < k + 1 → (g.w j).cov q = false := fun hn j hj => by
      have := step_all hi.2 (show (decide (b = 2) && (g.w k).cov q) = false by simp [hn]) j hj
      simpa [e0] using this
    by_cases e1 : (g.w k).l = q.l
    rotate_left
    · simp [go_sem, e0, e1]
      exact ⟨by omega, k + 1, ⟨by omega, no (by simp [WarG.cov, e1])⟩, by omega, by simp⟩
    by_cases e2 : (g.w k).p = q.w
    rotate_left
    · simp [go_sem, e0, e1, e2]
      exact ⟨by omega, k + 1, ⟨by omega, no (by simp [WarG.cov, e2])⟩, by omega, by simp⟩
    by_cases e3 : (g.w k).f ≤ q.t
    rotate_left
    · simp [go_sem, e0, e1, e2, e3]
      exact ⟨by omega, k + 1, ⟨by omega, no (by simp [WarG.cov_eq, WarG.cov', e3])⟩, by omega, by simp⟩
    by_cases e4 : q.t < (g.w k).t
    rotate_left
    · simp [go_sem, e0, e1, e2, e3, e4]
      exact ⟨by omega, k + 1, ⟨by omega, no (by simp [WarG.cov_eq, WarG.cov', e4])⟩, by omega, by simp⟩
    simp [go_sem, e0, e1, e2, e3, e4]
    simp [covB, RG.hasW]
    exact ⟨k, hlt, by simp [WarG.cov_eq, WarG.cov', e1, e2, e3, e4]⟩
  rename_i hge2
  have hW : (decide (b = 2) && g.hasW q) = false := by
    by_cases e0 : b = 2
    · simp [e0, RG.hasW]
      intro j hj
      have := hi.2 j (by omega)
      simpa [e0] using this
    · simp [e0]
  simp [covB, hC, hW]
theorem cov_based {g : RG} {q : QG} {b : Int} (h : 1 ≤ b ∧ b ≤ 3) : covB g q b = based g q b := by
  rcases (by omega : b = 1 ∨ b = 2 ∨ b = 3) with rfl | rfl | rfl <;> simp [covB, based]
end Go.Gx.Rg
