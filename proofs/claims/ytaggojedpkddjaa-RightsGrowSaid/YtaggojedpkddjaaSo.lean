/-
  The reference's SameQuery.
-/
import Derived.Test.YtaggojedpkddjaaRk
set_option linter.unusedVariables false
set_option linter.unusedSimpArgs false
set_option maxRecDepth 20000
set_option maxHeartbeats 2000000
namespace Go.Gx.Rg
open Go.RowKit Go.Proofs Go.Proofs.Ytaggojedpkddjaa

def QG.sk (a b : QG) : Bool := decide (a.nk = b.nk) && (List.range a.nk).all fun i => decide (a.k i = b.k i)
def QG.same (a b : QG) : Bool := decide (a.p = b.p) && decide (a.r = b.r) && decide (a.l = b.l) && decide (a.w = b.w) && decide (a.t = b.t) && a.sk b
theorem sameQuery42 (a b : QG) (ha : (a.nk : Int) < 2 ^ 61) (hb : (b.nk : Int) < 2 ^ 61) : Pure Try.prog 42 [a.sv, b.sv] (· = .b (a.same b)) := by
  refine pure_of_GC T_ok Try.func42 rfl (by kernel_rfl) (Nat.le_of_ble_eq_true rfl) rfl rfl ?_
  have hk := (sameInts34 a.nk b.nk ha hb (fun i _ => .i (a.k i)) (fun i _ => .i (b.k i)) a.k b.k (fun i _ => rfl) (fun i _ => rfl)).val (v' := .b (a.sk b)) rfl
  unfold QG.same
  by_cases h1 : a.p = b.p
  rotate_left
  · simp [go_sem, h1]
  by_cases h2 : a.r = b.r
  rotate_left
  · simp [go_sem, h1, h2]
  by_cases h3 : a.l = b.l
  rotate_left
  · simp [go_sem, h1, h2, h3]
  by_cases h4 : a.w = b.w
  rotate_left
  · simp [go_sem, h1, h2, h3, h4]
  by_cases h5 : a.t = b.t
  rotate_left
  · simp [go_sem, h1, h2, h3, h4, h5]
  simp [go_sem, h1, h2, h3, h4, h5]
  refine call_val hk rfl rfl ?_
  cases a.sk b <;> simp [go_sem]
end Go.Gx.Rg
