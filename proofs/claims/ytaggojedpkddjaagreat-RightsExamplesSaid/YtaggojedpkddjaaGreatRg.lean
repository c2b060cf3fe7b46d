/-
  Contracts: queries.
-/
import Derived.Test.YtaggojedpkddjaaGreatRd
set_option linter.unusedVariables false
set_option linter.unusedSimpArgs false
set_option maxRecDepth 20000
set_option maxHeartbeats 1000000
namespace Go.Gx.Rg
open Go.RowKit Go.Proofs Go.Proofs.YtaggojedpkddjaaGreat

/-- A query, as it lies in memory. -/
structure QG where
  (p r l w t : Int) (nk : Nat) (k : Nat → Int)
abbrev QG.ks (q : QG) : SV := .r (.rs 1 q.nk fun i _ => .i (q.k i))
abbrev QG.sv (q : QG) : SV := .agg [.i q.p, .i q.r, .i q.l, .i q.w, .i q.t, q.ks]
def QG.OK (q : QG) : Prop := (q.nk : Int) < 2 ^ 62
def QG.c1 (q : QG) : Bool := kindB q.p && kindB q.r && kindB q.l && persB q.w && timeB q.t
def QG.c2 (q : QG) : Bool := (List.range q.nk).all fun i => decide (0 ≤ q.k i) && decide (q.k i ≤ 7)
def QG.c3 (q : QG) : Bool := (List.range (q.nk - 1)).all fun i => decide (q.k i < q.k (i + 1))
def QG.cks (q : QG) : Bool := decide ((q.nk : Int) ≤ 2) && q.c2 && q.c3
def QG.err (q : QG) : Int := if q.c1 then (if q.cks then 0 else 91) else 2

theorem cmpI_lt {x y : Int} : cmpI x y < 0 ↔ x < y := by unfold cmpI; repeat' split <;> omega
theorem rising96 (n : Nat) (hn : (n : Int) < 2 ^ 62) (x : Nat → Int) :
    Pure Tryz.prog 53 [.r (.rs 1 n fun i _ => .i (x i)), .fn (.func 54) [] []] (· = .b ((List.range (n - 1)).all fun i => decide (x i < x (i + 1)))) := by
  refine pure_of_GC T_ok Tryz.func53 rfl (by kernel_rfl) (Nat.le_of_ble_eq_true rfl) rfl rfl ?_
  simp [go_sem]
  refine GLoop_of T_ok (α := Nat) (fun k => [(0, .r (.rs 1 n fun i _ => .i (x i))), (1, .fn (.func 54) [] []), (5, .i ((k : Int) + 1))]) (fun _ => []) 0 (fun k => (k = 0 ∨ k + 1 ≤ n) ∧ ∀ j, j < k → x j < x (j + 1)) (fun k => n - k) 0 (fun _ => rfl) (by simp) (by simp [go_sem]) (by simp [go_sem]) ?_
  intro k J hi
  simp [go_sem]
  split
  · rename_i hlt
    refine GDraw_of T_ok (by kernel_rfl) 10 (by kernel_rfl) rfl rfl ?_
    simp [go_sem]
    refine ⟨by omega, by omega, ⟨by omega, by omega⟩, by omega, ?_⟩
    refine call_val (compare97 (x k) (x (k + 1))) rfl rfl ?_
    simp [go_sem]
    split
    · rename_i h0
      refine ⟨k, by omega, ?_⟩
      have := cmpI_lt (x := x k) (y := x (k + 1)); omega
    · rename_i h0
      refine ⟨by omega, k + 1, ⟨by omega, fun j hj => ?_⟩, by omega, by simp⟩
      by_cases hjk : j = k
      · subst hjk; exact cmpI_lt.1 (by omega)
      · exact hi.2 j (by omega)
  · rename_i hlt
    intro j hj
    exact hi.2 j (by omega)

theorem checkQuery40 (q : QG) (h : q.OK) : Pure Tryz.prog 17 [q.sv] (· = .i q.err) := by
  have hk : (q.nk : Int) < 2 ^ 62 := h
  refine pure_of_GC T_ok Tryz.func17 rfl (by kernel_rfl) (Nat.le_of_ble_eq_true rfl) rfl rfl ?_
  simp [go_sem]
  refine call_lent (v := .b (kindB q.p && kindB q.r && kindB q.l)) ?_ rfl ?_
  · simp [go_sem]; exact kinds3 rfl rfl rfl
  have fin : ∀ c : Bool, q.c1 = c → q.err = if c then (if q.cks then 0 else 91) else 2 := fun c hc => by rw [QG.err, hc]
  generalize ha : (kindB q.p && kindB q.r && kindB q.l) = a
  cases a
  · simp [go_sem]
    simp [fin false (by simp [QG.c1, ha])]
  simp [go_sem]
  refine call_lent (v := .b (persB q.w)) ?_ rfl ?_
  · simp [go_sem]; exact people1 rfl
  generalize hb : persB q.w = b
  cases b
  · simp [go_sem]
    simp [fin false (by simp [QG.c1, ha, hb])]
  simp [go_sem]
  refine call_lent (v := .b (timeB q.t)) ?_ rfl ?_
  · simp [go_sem]; exact times1 rfl
  generalize hc : timeB q.t = c
  cases c
  · simp [go_sem]
    simp [fin false (by simp [QG.c1, ha, hb, hc])]
  have fin := fin true (by simp [QG.c1, ha, hb, hc])
  by_cases h2 : (q.nk : Int) ≤ 2
  rotate_left
  · have h2' : 2 < (q.nk : Int) := by omega
    simp [go_sem, h2']
    simp [fin, QG.cks, h2]
  have h2' : ¬ 2 < (q.nk : Int) := by omega
  simp [go_sem, h2']
  refine call_val ((from69 0 7 q.nk (by omega) q.k).val (v' := .b q.c2) rfl) rfl rfl ?_
  generalize hd : q.c2 = d
  cases d
  · simp [go_sem]
    simp [fin, QG.cks, hd]
  simp [go_sem]
  refine call_val ((rising96 q.nk hk q.k).val (v' := .b q.c3) rfl) rfl rfl ?_
  generalize he : q.c3 = e
  cases e
  · simp [go_sem]
    simp [fin, QG.cks, he]
  · simp [go_sem]
    simp [fin, QG.cks, h2, hd, he]

end Go.Gx.Rg
