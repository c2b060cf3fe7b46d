/-
  Apart, of the program and of the reference.
-/
import Derived.Test.YtnajladibkpeaaaEl
set_option linter.unusedVariables false
set_option linter.unusedSimpArgs false
set_option maxRecDepth 20000
set_option maxHeartbeats 4000000
namespace Go.Gx
open Go.RowKit Go.Proofs Go.Proofs.Ytnajladibkpeaaa

abbrev EG.q (g : EG) (a : Int) : Int := g.pm g.nl a
/-- Link j makes the people of a and b known to be different. -/
def EG.apB (g : EG) (a b : Int) (j : Nat) : Bool := !(g.l j).s && (decide (min (g.q (g.l j).a) (g.q (g.l j).b) = min (g.q a) (g.q b)) && decide (max (g.q (g.l j).a) (g.q (g.l j).b) = max (g.q a) (g.q b)))
def EG.ap (g : EG) (a b : Int) : Int := ixB (g.apB a b) g.nl
def EG.lv (g : EG) (i : Int) : SV := if 0 ≤ i then .agg [.i (g.l i.toNat).a, .i (g.l i.toNat).b, .b (g.l i.toNat).s] else .agg [.i 0, .i 0, .b false]
theorem EG.lv_flat (g : EG) (i : Int) : (g.lv i).flat = true := by unfold EG.lv; split <;> rfl
theorem apart59 (g : EG) (h : g.OK) (hl : g.lth) (D : Nat → Nat → RV) (hD1 : D 0 1 = .rs 3 g.nl fun i j => (g.l i).c j) (hD3 : D 0 3 = .mp g.th fun a => .i (g.q a)) (a b : Int) (ha : g.th a = true) (hb : g.th b = true) :
    Pure Try.prog 59 [dk D, .i a, .i b] (· = .tup [g.lv (g.ap a b), .b (decide (0 ≤ g.ap a b))]) := by
  refine pure_of_GC T_ok Try.func59 rfl (by kernel_rfl) (Nat.le_of_ble_eq_true rfl) rfl rfl ?_
  have := h.nl
  simp [go_sem]
  refine GDraw_of T_ok (by kernel_rfl) 14 (by kernel_rfl) rfl rfl ?_
  simp [go_sem, hD1, hD3, ha, hb]
  refine ⟨_, dcall_val (pairOf75 (g.q a) (g.q b)) rfl rfl, ?_⟩
  simp [go_sem, hD1]
  refine GLoop_of T_ok (α := Nat) (fun k => [(0, dk D), (6, .ptr 0 0 3 0), (7, .b false), (8, .ptr 1 0 2 0), (28, g.ll), (29, .i g.nl), (30, .i k)]) (fun _ => [some (.box [.i 0, .i 0, .b false]), some (.box [.i (min (g.q a) (g.q b)), .i (max (g.q a) (g.q b))])]) 2
    (fun k => k ≤ g.nl ∧ ∀ j, j < k → g.apB a b j = false) (fun k => g.nl - k) 0 (fun _ => rfl) (by simp) (by simp [go_sem]) (by simp [go_sem]) ?_
  intro k J hi
  by_cases hlt : k < g.nl
  rotate_left
  · simp [go_sem, hlt]
    have e : g.ap a b = -1 := ixB_no fun j hj => hi.2 j (by omega)
    rw [e]
    exact ⟨rfl, by decide⟩
  obtain ⟨t1, t2⟩ := hl k hlt
  have step : g.apB a b k = false → (k + 1 ≤ g.nl ∧ ∀ j, j < k + 1 → g.apB a b j = false) := fun hf => ⟨by omega, fun j hj => by
    by_cases hjk : j = k
    · subst hjk; exact hf
    · exact hi.2 j (by omega)⟩
  by_cases hs : (g.l k).s = true
  · simp [go_sem, hlt]
    refine GDraw_all T_ok (by kernel_rfl) (by kernel_rfl) ?_
    simp [go_sem, hs]
    exact ⟨by omega, k + 1, step (by simp [EG.apB, hs]), by omega, by omega⟩
  have hs' : (g.l k).s = false := by simpa using hs
  simp [go_sem, hlt]
  refine GDraw_all T_ok (by kernel_rfl) (by kernel_rfl) ?_
  simp [go_sem, hs', hD3, t1, t2]
  refine ⟨_, dcall_val (pairOf75 (g.q (g.l k).a) (g.q (g.l k).b)) rfl rfl, ?_⟩
  by_cases hm : min (g.q (g.l k).a) (g.q (g.l k).b) = min (g.q a) (g.q b)
  · by_cases hx : max (g.q (g.l k).a) (g.q (g.l k).b) = max (g.q a) (g.q b)
    · have e : g.ap a b = k := ixB_at hlt (by simp [EG.apB, hs', hm, hx]) hi.2
      simp [go_sem, hm, hx]
      rw [e]
      simp [EG.lv, hs']
    · simp [go_sem, hm, hx]
      exact ⟨by omega, k + 1, step (by simp [EG.apB, hs', hm, hx]), by omega, by omega⟩
  · simp [go_sem, hm]
    exact ⟨by omega, k + 1, step (by simp [EG.apB, hs', hm]), by omega, by omega⟩
end Go.Gx
