/-
  Contracts: rights and queries together.
-/
import Derived.Test.YtaggojedpkddjaaRg
set_option linter.unusedVariables false
set_option linter.unusedSimpArgs false
set_option maxRecDepth 20000
set_option maxHeartbeats 1000000
namespace Go.Gx
open Go.RowKit Go.Proofs Go.Proofs.Ytaggojedpkddjaa

theorem checkQuery41 (q : QG) (h : q.OK) : Pure Try.prog 41 [q.sv] (· = .i q.err) := by
  have hk : (q.nk : Int) < 2 ^ 62 := h
  refine pure_of_GC T_ok Try.func41 rfl (by kernel_rfl) (Nat.le_of_ble_eq_true rfl) rfl rfl ?_
  have fin : ∀ c : Bool, q.c1 = c → q.err = if c then (if q.cks then 0 else 91) else 2 := fun c hc => by rw [QG.err, hc]
  simp [go_sem]
  refine call_val (v := .b (kindB q.p)) (kind98 q.p) rfl rfl ?_
  generalize h1 : kindB q.p = a1
  cases a1
  · simp [go_sem]; simp [fin false (by simp [QG.c1, h1])]
  simp [go_sem]
  refine call_val (v := .b (kindB q.r)) (kind98 q.r) rfl rfl ?_
  generalize h2 : kindB q.r = a2
  cases a2
  · simp [go_sem]; simp [fin false (by simp [QG.c1, h1, h2])]
  simp [go_sem]
  refine call_val (v := .b (kindB q.l)) (kind98 q.l) rfl rfl ?_
  generalize h3 : kindB q.l = a3
  cases a3
  · simp [go_sem]; simp [fin false (by simp [QG.c1, h1, h2, h3])]
  simp [go_sem]
  refine call_val (v := .b (persB q.w)) (person64 q.w) rfl rfl ?_
  generalize h4 : persB q.w = a4
  cases a4
  · simp [go_sem]; simp [fin false (by simp [QG.c1, h1, h2, h3, h4])]
  simp [go_sem]
  refine call_val (v := .b (timeB q.t)) (when59 q.t) rfl rfl ?_
  generalize h5 : timeB q.t = a5
  cases a5
  · simp [go_sem]; simp [fin false (by simp [QG.c1, h1, h2, h3, h4, h5])]
  simp [go_sem]
  refine call_val ((keyed99 q.nk hk q.k).val (v' := .b q.cks) rfl) rfl rfl ?_
  have fin := fin true (by simp [QG.c1, h1, h2, h3, h4, h5])
  generalize h6 : q.cks = a6
  cases a6
  · simp [go_sem]; simp [fin, h6]
  · simp [go_sem]; simp [fin, h6]

def ask (g : RG) (q : QG) : Int := if g.valid then q.err else 8
theorem asked82 (g : RG) (q : QG) (h : g.OK) (hq : q.OK) : Pure Try.prog 82 [g.sv, q.sv] (· = .i (ask g q)) := by
  refine pure_of_GC T_ok Try.func82 rfl (by kernel_rfl) (Nat.le_of_ble_eq_true rfl) rfl rfl ?_
  simp [go_sem]
  refine call_val (valid58 g h) rfl rfl ?_
  generalize h1 : g.valid = a1
  cases a1
  · simp [go_sem]; simp [ask, h1]
  simp [go_sem]
  refine call_val (checkQuery41 q hq) rfl rfl ?_
  simp [go_sem]; simp [ask, h1]

/-! ### what covers a query -/
def ConG.cov (q : QG) (c : ConG) : Bool := decide (c.p = q.w) && decide (c.q = q.p) && decide (q.t < c.u)
def WarG.cov (q : QG) (w : WarG) : Bool := decide (w.l = q.l) && decide (w.p = q.w) && btw w.f (w.t - 1) q.t
def WarG.cov' (q : QG) (w : WarG) : Bool := decide (w.l = q.l) && decide (w.p = q.w) && decide (w.f ≤ q.t) && decide (q.t < w.t)
theorem WarG.cov_eq (q : QG) (w : WarG) : w.cov q = w.cov' q := by
  unfold WarG.cov WarG.cov' btw
  rw [show decide (q.t ≤ w.t - 1) = decide (q.t < w.t) from by congr 1; exact propext (by omega)]
  simp [Bool.and_assoc]
def RG.hasC (g : RG) (q : QG) : Bool := (List.range g.nc).any fun i => (g.c i).cov q
def RG.hasW (g : RG) (q : QG) : Bool := (List.range g.nw).any fun i => (g.w i).cov q
abbrev QG.cell (q : QG) : RV := .rp 6 1 (gbox [.i q.p, .i q.r, .i q.l, .i q.w, .i q.t, q.ks]) 0 0

theorem bases137 (q : QG) (c : ConG) : Pure Try.prog 137 [c.sv, .r q.cell] (· = .b (c.cov q)) := by
  refine pure_of_GC T_ok Try.func137 rfl (by kernel_rfl) (Nat.le_of_ble_eq_true rfl) rfl rfl ?_
  by_cases h1 : c.p = q.w
  · by_cases h2 : c.q = q.p
    · simp [go_sem, h1, h2]; simp [ConG.cov, h1, h2]
    · simp [go_sem, h1, h2]; simp [ConG.cov, h1, h2]
  · simp [go_sem, h1]; simp [ConG.cov, h1]
theorem bases136 (g : RG) (q : QG) (h : g.OK) : Pure Try.prog 136 [g.sv, q.sv] (· = .b (g.hasC q)) := by
  refine pure_of_GC T_ok Try.func136 rfl (by kernel_rfl) (Nat.le_of_ble_eq_true rfl) rfl rfl ?_
  simp [go_sem]
  refine call_lent (v := .b (g.hasC q)) ?_ rfl ?_
  · simp [go_sem]
    exact has120 g.nc (by have := h.nc; omega) _ 137 _ (fun i => (g.c i).cov q) rfl fun i hi => bases137 q (g.c i)
  · simp [go_sem]
/-- A time that is between. -/
theorem in69 {lo hi t : Int} {get : Nat → Nat → RV} (h0 : get 0 0 = .i t) : Pure Try.prog 69 [.i lo, .i hi, .r (.rs 1 1 get)] (· = .b (btw lo hi t)) := from1 h0
theorem bases139 (q : QG) (w : WarG) (hw : -(2 : Int) ^ 62 < w.t) (hw' : w.t < 2 ^ 62) : Pure Try.prog 139 [w.sv, .r q.cell] (· = .b (w.cov q)) := by
  refine pure_of_GC T_ok Try.func139 rfl (by kernel_rfl) (Nat.le_of_ble_eq_true rfl) rfl rfl ?_
  by_cases h1 : w.l = q.l
  · by_cases h2 : w.p = q.w
    · simp [go_sem, h1, h2]
      refine ⟨by omega, ?_⟩
      refine call_lent (v := .b (btw w.f (w.t - 1) q.t)) ?_ rfl ?_
      · simp [go_sem]; exact in69 rfl
      · simp [go_sem]; simp [WarG.cov, h1, h2]
    · simp [go_sem, h1, h2]; simp [WarG.cov, h1, h2]
  · simp [go_sem, h1]; simp [WarG.cov, h1]
structure RG.Mid (g : RG) : Prop where
  wt : ∀ i, i < g.nw → -(2 : Int) ^ 62 < (g.w i).t ∧ (g.w i).t < 2 ^ 62
  rt : ∀ i, i < g.nr → -(2 : Int) ^ 62 < (g.r i).t ∧ (g.r i).t < 2 ^ 62 ∧ 1 ≤ (g.r i).b ∧ (g.r i).b ≤ 3
theorem btw_iff {lo hi n : Int} : btw lo hi n = true ↔ lo ≤ n ∧ n ≤ hi := by simp [btw]
theorem RG.mid {g : RG} (h : g.valid = true) : g.Mid := by
  simp only [RG.valid, Bool.and_eq_true] at h
  obtain ⟨⟨⟨⟨⟨h1, _⟩, h3⟩, _⟩, _⟩, _⟩ := h
  simp only [RG.c1, RG.c3, Bool.and_eq_true, List.all_eq_true, List.mem_range] at h1 h3
  refine ⟨fun i hi => ?_, fun i hi => ?_⟩
  · have := h3.2 i hi
    simp only [WarG.good, Bool.and_eq_true, timeB, btw_iff] at this
    omega
  · have := h1.2 i hi
    simp only [RuleG.good, Bool.and_eq_true, timeB, btw_iff] at this
    omega
theorem bases138 (g : RG) (q : QG) (h : g.OK) (hm : g.Mid) : Pure Try.prog 138 [g.sv, q.sv] (· = .b (g.hasW q)) := by
  refine pure_of_GC T_ok Try.func138 rfl (by kernel_rfl) (Nat.le_of_ble_eq_true rfl) rfl rfl ?_
  simp [go_sem]
  refine call_lent (v := .b (g.hasW q)) ?_ rfl ?_
  · simp [go_sem]
    exact has122 g.nw (by have := h.nw; omega) _ 139 _ (fun i => (g.w i).cov q) rfl fun i hi => bases139 q (g.w i) (hm.wt i hi).1 (hm.wt i hi).2
  · simp [go_sem]
theorem bases140 (g : RG) (q : QG) : Pure Try.prog 140 [g.sv, q.sv] (· = .b true) := by
  refine pure_of_GC T_ok Try.func140 rfl (by kernel_rfl) (Nat.le_of_ble_eq_true rfl) rfl rfl ?_
  simp [go_sem]
theorem bases126 : Pure Try.prog 126 [] (· = .agg [.r (.v .nilFunc), .fn (.func 136) [] [], .fn (.func 138) [] [], .fn (.func 140) [] []]) := by
  refine pure_of_GC T_ok Try.func126 rfl (by kernel_rfl) (Nat.le_of_ble_eq_true rfl) rfl rfl ?_
  simp [go_sem]

def based (g : RG) (q : QG) (b : Int) : Bool := if b = 3 then true else if b = 1 then g.hasC q else g.hasW q
theorem any_yes {n : Nat} {p : Nat → Bool} {i : Nat} (hi : i < n) (h : p i = true) : (List.range n).any p = true := by
  rw [List.any_eq_true]; exact ⟨i, List.mem_range.2 hi, h⟩
theorem any_no {n : Nat} {p : Nat → Bool} (h : ∀ i, i < n → p i = false) : (List.range n).any p = false := by
  rw [List.any_eq_false]; exact fun i hi => by simp [h i (List.mem_range.1 hi)]
theorem based127 (g : RG) (q : QG) (b : Int) (h : g.OK) : Pure Try.prog 127 [g.sv, q.sv, .r (.v (.int .u8 b))] (· = .b (based g q b)) := by
  refine pure_of_GC T_ok Try.func127 rfl (by kernel_rfl) (Nat.le_of_ble_eq_true rfl) rfl rfl ?_
  have hc := h.nc
  have hw := h.nw
  by_cases h3 : b = 3
  · simp [go_sem, h3]; simp [based]
  by_cases h1 : b = 1
  · simp [go_sem, h1]
    refine GLoop_of T_ok (α := Nat) (fun k => [(3, .ptr 0 0 4 0), (4, .ptr 1 0 6 0), (7, .i k)]) (fun _ => g.box ++ [some (.box [.i q.p, .i q.r, .i q.l, .i q.w, .i q.t, q.ks])]) 2 (fun k => k ≤ g.nc ∧ ∀ j, j < k → (g.c j).cov q = false) (fun k => g.nc - k) 0 (fun _ => rfl) (by simp) (by simp [go_sem]) (by simp [go_sem]) ?_
    intro k J hi
    simp [go_sem]
    split
    · rename_i hlt
      refine ⟨by omega, ?_⟩
      have step : (g.c k).cov q = false → 0 ≤ (k : Int) ∧ ∃ x', (x' ≤ g.nc ∧ ∀ j, j < x' → (g.c j).cov q = false) ∧ g.nc - x' < g.nc - k ∧ k + 1 = x' := fun hk =>
        ⟨by omega, k + 1, ⟨by omega, step_all hi.2 hk⟩, by omega, rfl⟩
      by_cases e1 : (g.c k).p = q.w
      · by_cases e2 : (g.c k).q = q.p
        · by_cases e3 : q.t < (g.c k).u
          · simp [go_sem, e1, e2, e3]
            simp [based, h1]
            exact any_yes hlt (by simp [ConG.cov, e1, e2, e3])
          · simp [go_sem, e1, e2, e3]
            exact ⟨by omega, k + 1, ⟨by omega, step_all hi.2 (by simp [ConG.cov, e1, e2, e3])⟩, by omega, rfl⟩
        · simp [go_sem, e1, e2]
          exact ⟨by omega, k + 1, ⟨by omega, step_all hi.2 (by simp [ConG.cov, e1, e2])⟩, by omega, rfl⟩
      · simp [go_sem, e1]
        exact ⟨by omega, k + 1, ⟨by omega, step_all hi.2 (by simp [ConG.cov, e1])⟩, by omega, rfl⟩
    · rename_i hge
      simp [based, h1]
      exact any_no fun j hj => hi.2 j (by omega)
  · simp [go_sem, h1, h3]
    refine GLoop_of T_ok (α := Nat) (fun k => [(3, .ptr 0 0 4 0), (4, .ptr 1 0 6 0), (9, .i k)]) (fun _ => g.box ++ [some (.box [.i q.p, .i q.r, .i q.l, .i q.w, .i q.t, q.ks])]) 2 (fun k => k ≤ g.nw ∧ ∀ j, j < k → (g.w j).cov q = false) (fun k => g.nw - k) 0 (fun _ => rfl) (by simp) (by simp [go_sem]) (by simp [go_sem]) ?_
    intro k J hi
    simp [go_sem]
    split
    · rename_i hlt
      refine ⟨by omega, ?_⟩
      by_cases e1 : (g.w k).l = q.l
      · by_cases e2 : (g.w k).p = q.w
        · by_cases e3 : (g.w k).f ≤ q.t
          · by_cases e4 : q.t < (g.w k).t
            · simp [go_sem, e1, e2, e3, e4]
              simp [based, h1, h3]
              exact any_yes hlt (by simp [WarG.cov_eq, WarG.cov', e1, e2, e3, e4])
            · simp [go_sem, e1, e2, e3, e4]
              exact ⟨by omega, k + 1, ⟨by omega, step_all hi.2 (by simp [WarG.cov_eq, WarG.cov', e1, e2, e3, e4])⟩, by omega, rfl⟩
          · simp [go_sem, e1, e2, e3]
            exact ⟨by omega, k + 1, ⟨by omega, step_all hi.2 (by simp [WarG.cov_eq, WarG.cov', e1, e2, e3])⟩, by omega, rfl⟩
        · simp [go_sem, e1, e2]
          exact ⟨by omega, k + 1, ⟨by omega, step_all hi.2 (by simp [WarG.cov_eq, WarG.cov', e1, e2])⟩, by omega, rfl⟩
      · simp [go_sem, e1]
        exact ⟨by omega, k + 1, ⟨by omega, step_all hi.2 (by simp [WarG.cov_eq, WarG.cov', e1])⟩, by omega, rfl⟩
    · rename_i hge
      simp [based, h1, h3]
      exact any_no fun j hj => hi.2 j (by omega)
end Go.Gx
