/-
  Contracts: rights and queries together.
-/
import Derived.Test.YtaggojedpkddjaaGreatRg
set_option linter.unusedVariables false
set_option linter.unusedSimpArgs false
set_option maxRecDepth 20000
set_option maxHeartbeats 1000000
namespace Go.Gx.Rg
open Go.RowKit Go.Proofs Go.Proofs.YtaggojedpkddjaaGreat

def ask (g : RG) (q : QG) : Int := if g.valid then q.err else 8
/-! ### what covers a query -/
def ConG.cov (q : QG) (c : ConG) : Bool := decide (c.p = q.w) && decide (c.q = q.p) && decide (q.t < c.u)
def WarG.cov (q : QG) (w : WarG) : Bool := decide (w.l = q.l) && decide (w.p = q.w) && btw w.f (w.t - 1) q.t
def WarG.cov' (q : QG) (w : WarG) : Bool := decide (w.l = q.l) && decide (w.p = q.w) && decide (w.f ≤ q.t) && decide (q.t < w.t)
theorem WarG.cov_eq (q : QG) (w : WarG) : w.cov q = w.cov' q := by
  unfold WarG.cov WarG.cov' btw
  rw [show decide (q.t ≤ w.t - 1) = decide (q.t < w.t) from by congr 1; exact propext (by omega)]
  simp [Bool.and_assoc]
def RG.hasC (g : RG) (q : QG) : Bool := (List.range g.nc).any fun i => (g.c i).cov q
def RG.hasW (g : RG) (q : QG) : Bool := (List.range g.nw).any fun i => (g.w i).cov q
/-- A query's cells, handed by a pointer. -/
def QG.at6 (q : QG) (gt : Nat → Nat → RV) : Prop := gt 0 0 = .i q.p ∧ gt 0 1 = .i q.r ∧ gt 0 2 = .i q.l ∧ gt 0 3 = .i q.w ∧ gt 0 4 = .i q.t

theorem bases137 (q : QG) (c : ConG) (gt : Nat → Nat → RV) (hgt : q.at6 gt) : Pure Tryz.prog 93 [c.sv, .r (.rp 6 1 gt 0 0)] (· = .b (c.cov q)) := by
  refine pure_of_GC T_ok Tryz.func93 rfl (by kernel_rfl) (Nat.le_of_ble_eq_true rfl) rfl rfl ?_
  obtain ⟨g0, g1, g2, g3, g4⟩ := hgt
  by_cases h1 : c.p = q.w
  · by_cases h2 : c.q = q.p
    · simp [go_sem, g0, g1, g2, g3, g4, h1, h2]; simp [ConG.cov, h1, h2]
    · simp [go_sem, g0, g1, g2, g3, g4, h1, h2]; simp [ConG.cov, h1, h2]
  · simp [go_sem, g0, g1, g2, g3, g4, h1]; simp [ConG.cov, h1]
theorem bases136 (g : RG) (q : QG) (h : g.OK) : Pure Tryz.prog 92 [g.sv, q.sv] (· = .b (g.hasC q)) := by
  refine pure_of_GC T_ok Tryz.func92 rfl (by kernel_rfl) (Nat.le_of_ble_eq_true rfl) rfl rfl ?_
  simp [go_sem]
  refine call_lent (v := .b (g.hasC q)) ?_ rfl ?_
  · simp [go_sem]
    exact has120 g.nc (by have := h.nc; omega) _ (93 : FuncId) _ (fun i => (g.c i).cov q) rfl fun i hi => bases137 q (g.c i) _ ⟨rfl, rfl, rfl, rfl, rfl⟩
  · simp [go_sem]
/-- A time that is between. -/
theorem in69 {lo hi t : Int} {get : Nat → Nat → RV} (h0 : get 0 0 = .i t) : Pure Tryz.prog 22 [.i lo, .i hi, .r (.rs 1 1 get)] (· = .b (btw lo hi t)) := from1 h0
theorem bases139 (q : QG) (w : WarG) (gt : Nat → Nat → RV) (hgt : q.at6 gt) (hw : -(2 : Int) ^ 62 < w.t) (hw' : w.t < 2 ^ 62) : Pure Tryz.prog 95 [w.sv, .r (.rp 6 1 gt 0 0)] (· = .b (w.cov q)) := by
  refine pure_of_GC T_ok Tryz.func95 rfl (by kernel_rfl) (Nat.le_of_ble_eq_true rfl) rfl rfl ?_
  obtain ⟨g0, g1, g2, g3, g4⟩ := hgt
  by_cases h1 : w.l = q.l
  · by_cases h2 : w.p = q.w
    · simp [go_sem, g0, g1, g2, g3, g4, h1, h2]
      refine ⟨by omega, ?_⟩
      refine call_lent (v := .b (btw w.f (w.t - 1) q.t)) ?_ rfl ?_
      · simp [go_sem]; exact in69 rfl
      · simp [go_sem]; simp [WarG.cov, h1, h2]
    · simp [go_sem, g0, g1, g2, g3, g4, h1, h2]; simp [WarG.cov, h1, h2]
  · simp [go_sem, g0, g1, g2, g3, g4, h1]; simp [WarG.cov, h1]
structure RG.Mid (g : RG) : Prop where
  wt : ∀ i, i < g.nw → -(2 : Int) ^ 62 < (g.w i).t ∧ (g.w i).t < 2 ^ 62
  rt : ∀ i, i < g.nr → -(2 : Int) ^ 62 < (g.r i).t ∧ (g.r i).t < 2 ^ 62 ∧ 1 ≤ (g.r i).b ∧ (g.r i).b ≤ 3
theorem btw_iff {lo hi n : Int} : btw lo hi n = true ↔ lo ≤ n ∧ n ≤ hi := by simp [btw]
theorem RG.mid {g : RG} (h : g.valid = true) : g.Mid := by
  simp only [RG.valid, Bool.and_eq_true] at h
  obtain ⟨⟨⟨⟨⟨h1, _⟩, h3⟩, _⟩, _⟩, _⟩ := h
  simp only [RG.c1, RG.c3, Bool.and_eq_true, List.all_eq_true, List.mem_range] at h1 h3
  refine ⟨fun i hi => ?_, fun i hi => ?_⟩
  · have := h3.2 i hi
    simp only [WarG.good, Bool.and_eq_true, timeB, btw_iff] at this
    omega
  · have := h1.2 i hi
    simp only [RuleG.good, Bool.and_eq_true, timeB, btw_iff] at this
    omega
theorem bases138 (g : RG) (q : QG) (h : g.OK) (hm : g.Mid) : Pure Tryz.prog 94 [g.sv, q.sv] (· = .b (g.hasW q)) := by
  refine pure_of_GC T_ok Tryz.func94 rfl (by kernel_rfl) (Nat.le_of_ble_eq_true rfl) rfl rfl ?_
  simp [go_sem]
  refine call_lent (v := .b (g.hasW q)) ?_ rfl ?_
  · simp [go_sem]
    exact has122 g.nw (by have := h.nw; omega) _ (95 : FuncId) _ (fun i => (g.w i).cov q) rfl fun i hi => bases139 q (g.w i) _ ⟨rfl, rfl, rfl, rfl, rfl⟩ (hm.wt i hi).1 (hm.wt i hi).2
  · simp [go_sem]
theorem bases140 (g : RG) (q : QG) : Pure Tryz.prog 96 [g.sv, q.sv] (· = .b true) := by
  refine pure_of_GC T_ok Tryz.func96 rfl (by kernel_rfl) (Nat.le_of_ble_eq_true rfl) rfl rfl ?_
  simp [go_sem]
theorem bases126 : Pure Tryz.prog 70 [] (· = .agg [.r (.v .nilFunc), .fn (.func 92) [] [], .fn (.func 94) [] [], .fn (.func 96) [] []]) := by
  refine pure_of_GC T_ok Tryz.func70 rfl (by kernel_rfl) (Nat.le_of_ble_eq_true rfl) rfl rfl ?_
  simp [go_sem]

def based (g : RG) (q : QG) (b : Int) : Bool := if b = 3 then true else if b = 1 then g.hasC q else g.hasW q
theorem any_yes {n : Nat} {p : Nat → Bool} {i : Nat} (hi : i < n) (h : p i = true) : (List.range n).any p = true := by
  rw [List.any_eq_true]; exact ⟨i, List.mem_range.2 hi, h⟩
theorem any_no {n : Nat} {p : Nat → Bool} (h : ∀ i, i < n → p i = false) : (List.range n).any p = false := by
  rw [List.any_eq_false]; exact fun i hi => by simp [h i (List.mem_range.1 hi)]
end Go.Gx.Rg
