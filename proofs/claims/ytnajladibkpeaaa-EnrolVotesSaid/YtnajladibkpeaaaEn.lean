/-
  Apart: what comes back.
-/
import Derived.Test.YtnajladibkpeaaaEm
set_option linter.unusedVariables false
set_option linter.unusedSimpArgs false
set_option maxRecDepth 20000
set_option maxHeartbeats 4000000
namespace Go.Gx
open Go.RowKit Go.Proofs Go.Proofs.Ytnajladibkpeaaa

def EG.apE (g : EG) (a b : Int) : Int := if g.pE2 a b = 0 then (if 0 ≤ g.ap a b then 0 else 6) else g.pE2 a b
def EG.apI (g : EG) (a b : Int) : Int := if g.pE2 a b = 0 then g.ap a b else -1
theorem EG.lv_neg {g : EG} {i : Int} (h : i < 0) : g.lv i = .agg [.i 0, .i 0, .b false] := by unfold EG.lv; rw [if_neg (by omega)]
theorem EG.lv_pos {g : EG} {i : Int} (h : 0 ≤ i) : g.lv i = .agg [.i (g.l i.toNat).a, .i (g.l i.toNat).b, .b (g.l i.toNat).s] := by unfold EG.lv; rw [if_pos h]
theorem Apart22 (g : EG) (h : g.OK) (a b : Int) : Pure Try.prog 22 [g.sv, .i a, .i b] (· = .tup [g.lv (g.apI a b), .i (g.apE a b)]) := by
  refine pure_of_GC T_ok Try.func22 rfl (by kernel_rfl) (Nat.le_of_ble_eq_true rfl) rfl rfl ?_
  simp [go_sem]
  have hk := fun get hg => known48 g h 2 (by decide) (fun i => if i = 0 then a else b) get hg
  rw [EG.kE2] at hk
  have hget : ∀ i, i < 2 → (fun i j => [SV.i a, SV.i b][i + j]?.getD (.r .any)) i 0 = SV.i (if i = 0 then a else b) := fun i hi => by
    rcases (show i = 0 ∨ i = 1 by omega) with rfl | rfl <;> rfl
  rcases g.pE2_cases a b with ⟨hv, ht, hu, he⟩ | he
  · simp only [EG.kS, EG.kR, if_pos he] at hk
    have ei : g.apI a b = g.ap a b := if_pos he
    refine callK_own [2] (hk (fun i j => [SV.i a, SV.i b][i + j]?.getD (.r .any)) hget) (by simp) rfl (by simp [go_sem]) ?_
    simp [go_sem]
    refine call_lent (v := .tup [g.lv (g.ap a b), .b (decide (0 ≤ g.ap a b))]) (by
      simp [go_sem]
      exact apart59 g h (EG.valid_lth hv) _ rfl rfl a b ht hu) (by simp [SV.flat, SV.flatL, RV.flat, EG.lv_flat]) ?_
    rw [ei]
    by_cases hp : 0 ≤ g.ap a b
    · have ee : g.apE a b = 0 := by unfold EG.apE; rw [if_pos he, if_pos hp]
      rw [EG.lv_pos hp]
      simp [go_sem, hp, ee]
    · have ee : g.apE a b = 6 := by unfold EG.apE; rw [if_pos he, if_neg hp]
      rw [EG.lv_neg (by omega)]
      simp [go_sem, hp, ee]
  · simp only [EG.kS, EG.kR, if_neg he] at hk
    have ei : g.apI a b = -1 := if_neg he
    have ee : g.apE a b = g.pE2 a b := by unfold EG.apE; rw [if_neg he]
    refine callK_own [2] (hk (fun i j => [SV.i a, SV.i b][i + j]?.getD (.r .any)) hget) (by simp) rfl (by simp [go_sem]) ?_
    rw [ei, EG.lv_neg (by decide)]
    simp [go_sem, he, ee]
/-- Link j makes the people of a and b known to be different: as the document says. -/
def EG.dfB (g : EG) (a b : Int) (j : Nat) : Bool := !(g.l j).s && (g.rc a g.nr (g.l j).a.toNat && g.rc b g.nr (g.l j).b.toNat || g.rc a g.nr (g.l j).b.toNat && g.rc b g.nr (g.l j).a.toNat)
theorem differ60 (g : EG) (h : g.OK) (hl : g.inl) (a b : Int) (h0 : 0 ≤ a) (h1 : a < g.nr) (h2 : 0 ≤ b) (h3 : b < g.nr) : Pure Try.prog 60 [g.sv, .i a, .i b] (· = .i (ixB (g.dfB a b) g.nl)) := by
  refine pure_of_GC T_ok Try.func60 rfl (by kernel_rfl) (Nat.le_of_ble_eq_true rfl) rfl rfl ?_
  have := h.nr
  have := h.nl
  simp [go_sem]
  refine GDraw_all T_ok (by kernel_rfl) (by kernel_rfl) ?_
  simp [go_sem]
  refine ⟨_, dcall_val (reached107 g h hl a g.nr h0 h1 (by omega)) rfl rfl, _, dcall_val (reached107 g h hl b g.nr h2 h3 (by omega)) rfl rfl, ?_⟩
  simp [go_sem]
  refine GLoop_of T_ok (α := Nat) (fun k => [(3, .ptr 0 0 3 0), (7, g.rcs a g.nr), (8, g.rcs b g.nr), (9, .i k)]) (fun _ => [g.bx]) 1 (fun k => k ≤ g.nl ∧ ∀ j, j < k → g.dfB a b j = false) (fun k => g.nl - k) 0 (fun _ => rfl) (by simp) (by simp [go_sem]) (by simp [go_sem]) ?_
  intro k J hi
  by_cases hlt : k < g.nl
  rotate_left
  · simp [go_sem, hlt]
    exact (ixB_no fun j hj => hi.2 j (by omega)).symm
  obtain ⟨q1, q2, q3, q4⟩ := hl k hlt
  have step : g.dfB a b k = false → (k + 1 ≤ g.nl ∧ ∀ j, j < k + 1 → g.dfB a b j = false) := fun hf => ⟨by omega, fun j hj => by
    by_cases hjk : j = k
    · subst hjk; exact hf
    · exact hi.2 j (by omega)⟩
  have no : g.dfB a b k = true → ixB (g.dfB a b) g.nl = k := fun ht => ixB_at hlt ht hi.2
  by_cases hs : (g.l k).s = true
  · simp [go_sem, hlt, hs]
    exact ⟨by omega, k + 1, step (by simp [EG.dfB, hs]), by omega, by omega⟩
  have hs' : (g.l k).s = false := by simpa using hs
  by_cases c1 : g.rc a g.nr (g.l k).a.toNat = true <;> by_cases c2 : g.rc b g.nr (g.l k).b.toNat = true <;> by_cases c3 : g.rc a g.nr (g.l k).b.toNat = true <;> by_cases c4 : g.rc b g.nr (g.l k).a.toNat = true <;>
  · simp [go_sem, hlt, hs', q1, q2, q3, q4, c1, c2, c3, c4]
    first
    | exact (no (by simp [EG.dfB, hs', c1, c2, c3, c4])).symm
    | exact ⟨by omega, k + 1, step (by simp [EG.dfB, hs', c1, c2, c3, c4]), by omega, by omega⟩
end Go.Gx
