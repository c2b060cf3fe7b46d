/-
  Contracts: the rules that apply.
-/
import Derived.Test.YtaggojedpkddjaaRh
import Derived.Test.YtaggojedpkddjaaG5
set_option linter.unusedVariables false
set_option linter.unusedSimpArgs false
set_option maxRecDepth 20000
set_option maxHeartbeats 1000000
namespace Go.Gx
open Go.RowKit Go.Proofs Go.Proofs.Ytaggojedpkddjaa

def ruleB (g : RG) (q : QG) (r : RuleG) : Bool := decide (r.p = q.p) && decide (r.r = q.r) && decide (r.l = q.l) && decide (r.f ≤ q.t) && decide (q.t < r.t) && decide (r.k ≤ q.nk) && based g q r.b
theorem rule84 (g : RG) (q : QG) (r : RuleG) (h : g.OK) : Pure Try.prog 84 [g.sv, q.sv, r.sv] (· = .b (ruleB g q r)) := by
  refine pure_of_GC T_ok Try.func84 rfl (by kernel_rfl) (Nat.le_of_ble_eq_true rfl) rfl rfl ?_
  by_cases h1 : r.p = q.p
  rotate_left
  · simp [go_sem, h1]; simp [ruleB, h1]
  by_cases h2 : r.r = q.r
  rotate_left
  · simp [go_sem, h1, h2]; simp [ruleB, h1, h2]
  by_cases h3 : r.l = q.l
  rotate_left
  · simp [go_sem, h1, h2, h3]; simp [ruleB, h1, h2, h3]
  by_cases h4 : r.f ≤ q.t
  rotate_left
  · simp [go_sem, h1, h2, h3, h4]; simp [ruleB, h1, h2, h3, h4]
  by_cases h5 : q.t < r.t
  rotate_left
  · simp [go_sem, h1, h2, h3, h4, h5]; simp [ruleB, h1, h2, h3, h4, h5]
  by_cases h6 : r.k ≤ q.nk
  rotate_left
  · simp [go_sem, h1, h2, h3, h4, h5, h6]; simp [ruleB, h1, h2, h3, h4, h5, h6]
  simp [go_sem, h1, h2, h3, h4, h5, h6]
  refine call_val (based127 g q r.b h) rfl rfl ?_
  simp [go_sem]; simp [ruleB, h1, h2, h3, h4, h5, h6]

def RG.apl (g : RG) (q : QG) (n : Nat) : List Nat := (List.range n).filter fun i => ruleB g q (g.r i)
theorem RG.apl_yes {g : RG} {q : QG} {n : Nat} (h : ruleB g q (g.r n) = true) : g.apl q (n + 1) = g.apl q n ++ [n] := by simp [RG.apl, List.range_succ, h]
theorem RG.apl_no {g : RG} {q : QG} {n : Nat} (h : ruleB g q (g.r n) = false) : g.apl q (n + 1) = g.apl q n := by simp [RG.apl, List.range_succ, h]
theorem RG.apl_len (g : RG) (q : QG) (n : Nat) : (g.apl q n).length ≤ n := by
  have := List.length_filter_le (fun i => ruleB g q (g.r i)) (List.range n)
  simpa [RG.apl] using this
def RG.lev (g : RG) (q : QG) : Nat → Int
  | 0 => 0
  | n + 1 => if ruleB g q (g.r n) then max (g.lev q n) (g.r n).s else g.lev q n
theorem leveled83 (g : RG) (q : QG) (h : g.OK) : Pure Try.prog 83 [g.sv, q.sv] (· = .i (g.lev q g.nr)) := by
  refine pure_of_GC T_ok Try.func83 rfl (by kernel_rfl) (Nat.le_of_ble_eq_true rfl) rfl rfl ?_
  have hr := h.nr
  simp [go_sem]
  refine GLoop_of T_ok (α := Nat) (fun k => [(2, .ptr 0 0 4 0), (3, .ptr 1 0 6 0), (5, .i (g.lev q k)), (6, .i k)]) (fun _ => g.box ++ [some (.box [.i q.p, .i q.r, .i q.l, .i q.w, .i q.t, q.ks])]) 2 (fun k => k ≤ g.nr) (fun k => g.nr - k) 0 (fun _ => rfl) (by simp) (by simp [go_sem, RG.lev]) (by simp [go_sem]) ?_
  intro k J hi
  simp [go_sem]
  split
  · rename_i hlt
    refine GDraw_all T_ok (by kernel_rfl) (by kernel_rfl) ?_
    generalize hb : ruleB g q (g.r k) = b
    have hv := (rule84 g q (g.r k) h).val (v' := .b b) (by rw [hb])
    cases b
    · simp [go_sem]
      refine ⟨hlt, _, dcall_val hv rfl rfl, ?_⟩
      simp [go_sem]
      exact ⟨by omega, k + 1, by omega, by omega, by simp [RG.lev, hb], rfl⟩
    · simp [go_sem]
      refine ⟨hlt, _, dcall_val hv rfl rfl, ?_⟩
      simp [go_sem]
      exact ⟨by omega, by omega, k + 1, by omega, by omega, by simp [RG.lev, hb], rfl⟩
  · rename_i hge
    have : k = g.nr := by omega
    rw [this]
end Go.Gx
