/-
  The reference's Revoke.
-/
import Derived.Test.YtaggojedpkddjaaSj
set_option linter.unusedVariables false
set_option linter.unusedSimpArgs false
set_option maxRecDepth 20000
set_option maxHeartbeats 2000000
namespace Go.Gx
open Go.RowKit Go.Proofs Go.Proofs.Ytaggojedpkddjaa

/-- How many are left of the first k. -/
def lft (f : Bool) (b k : Nat) : Nat := if f = true ∧ b < k then k - 1 else k
def drF {α : Type} (f : Bool) (b : Nat) (y : Nat → α) : Nat → α := fun r => if f = true ∧ b ≤ r then y (r + 1) else y r
theorem ref45 (g : RG) (p q : Int) (h : g.OK) : Pure Try.prog 45 [g.sv, .i p, .i q] (· = .tup [(if g.rvE p q = 0 then g.revoke p q else RG.nil).sv, .i (g.rvE p q)]) := by
  refine Pure.ofSub ?_
  refine pure_of_GC T_ok Try.func45 rfl (by kernel_rfl) (Nat.le_of_ble_eq_true rfl) rfl rfl ?_
  simp [go_sem]
  refine call_val (valid58 g h) rfl rfl ?_
  by_cases hv : g.valid = true
  rotate_left
  · have hv' : g.valid = false := by simpa using hv
    have ha : g.rvE p q = 8 := by unfold RG.rvE; rw [if_neg hv]
    simp [go_sem, hv', ha, RG.nil]
  have hl := RG.lim hv
  rw [hv]
  simp [go_sem]
  have hE : g.rvE p q = if fnd (g.cmC p q) g.nc then 0 else 6 := by unfold RG.rvE; rw [if_pos hv]
  have hm := RG.cmC_mono (RG.v5 hv) p q
  have hs := RG.cmC_st (RG.v5 hv) p q
  have hat : ∀ {j : Nat}, j < g.nc → ((g.c j).p = p ∧ (g.c j).q = q ↔ fnd (g.cmC p q) g.nc = true ∧ j = bnd (g.cmC p q) g.nc) := fun {j} hj =>
    ⟨fun e => fnd_of hm hs hj (lex_eq.2 e), fun ⟨f1, f2⟩ => by rw [f2]; exact lex_eq.1 (fnd_at f1).2⟩
  have hput : g.revoke p q = { g with nc := g.nc - 1, c := fun r => if r < bnd (g.cmC p q) g.nc then g.c r else g.c (r + 1) } := rfl
  have hbn : fnd (g.cmC p q) g.nc = true → bnd (g.cmC p q) g.nc < g.nc := fun hf => (fnd_at hf).1
  generalize bnd (g.cmC p q) g.nc = b at *
  generalize fnd (g.cmC p q) g.nc = f at *
  refine GLoop_pre (GSt.adopt 8 65 3 (fun i j => (drF f b g.c i).c j) (by simp [go_sem])) ?_
  refine GLoop_s T_ok (α := Nat) (fun k => [(1, .i p), (2, .i q), (3, .ptr 0 0 4 0), (6, .ptr 1 0 4 0), (8, .sl 2 3 0 (lft f b k) none), (9, .i k)])
    (fun k => g.box ++ [some (.box [nilS, nilS, nilS, nilS]), some (.vec 65 3 (lft f b k) fun i j => (drF f b g.c i).c j)]) 3 (fun k => k ≤ g.nc) (fun k => g.nc - k) 0 (fun _ => rfl) (by simp) (by simp [go_sem, lft]) (by simp [go_sem, lft]) ?_
  intro k J hi
  by_cases hlt : k < g.nc
  rotate_left
  · have hk : k = g.nc := by omega
    subst hk
    cases f
    · have ha : g.rvE p q = 6 := hE
      simp [go_sem, lft, ha, RG.nil]
    · have ha : g.rvE p q = 0 := hE
      have hb := hbn rfl
      have hl1 : lft true b g.nc = g.nc - 1 := by simp [lft, hb]
      have hne : ¬ ((g.nc - 1 : Nat) : Int) = (g.nc : Int) := by omega
      simp [go_sem, hl1, hne]
      refine callK_own [] (twin17 g (by omega) (by omega) (by omega) (by omega)) (by simp) rfl trivial ?_
      simp [go_sem, ha]
      rw [hput]
      refine ⟨⟨rfl, fun _ _ _ _ => rfl⟩, ⟨rfl, fun r c hr hc => ?_⟩, ⟨rfl, fun _ _ _ _ => rfl⟩, rfl, fun _ _ _ _ => rfl⟩
      unfold drF
      by_cases hrb : r < b
      · have h2 : ¬ b ≤ r := by omega
        simp [hrb, h2]
      · have h2 : b ≤ r := by omega
        simp [hrb, h2]
  have hat' := hat hlt
  by_cases hx : (g.c k).p = p ∧ (g.c k).q = q
  · obtain ⟨f1, f2⟩ := hat'.1 hx
    subst f1
    have hl1 : lft true b (k + 1) = lft true b k := by simp [lft, f2]
    simp [go_sem, hlt, hx.1, hx.2]
    exact ⟨by omega, k + 1, by omega, by omega, by rw [hl1]; simp, by rw [hl1]; simp⟩
  · have hn : ¬ (f = true ∧ k = b) := fun e => hx (hat'.2 e)
    have hl1 : lft f b (k + 1) = lft f b k + 1 := by
      unfold lft
      by_cases e : f = true ∧ b < k
      · rw [if_pos e, if_pos ⟨e.1, by omega⟩]; omega
      · rw [if_neg e, if_neg (fun e' => e ⟨e'.1, by have : k ≠ b := fun h => hn ⟨e'.1, h⟩; omega⟩)]
    have hll : lft f b k ≤ k := by unfold lft; split <;> omega
    have hrow : drF f b g.c (lft f b k) = g.c k := by
      unfold drF lft
      by_cases e : f = true ∧ b < k
      · rw [if_pos e, if_pos ⟨e.1, by omega⟩, show k - 1 + 1 = k from by omega]
      · rw [if_neg e, if_neg (fun e' => e ⟨e'.1, by have : k ≠ b := fun h => hn ⟨e'.1, h⟩; omega⟩)]
    by_cases e1 : (g.c k).p = p
    · have e2 : ¬ (g.c k).q = q := fun h => hx ⟨e1, h⟩
      simp [go_sem, hlt, e1, e2]
      refine ⟨⟨by omega, by omega⟩, by omega, k + 1, by omega, by omega, ⟨by rw [hl1], by simp⟩, by rw [hl1]; omega, fun r c hr hc => ?_⟩
      rw [hl1] at hr
      unfold joined
      by_cases h1 : r < lft f b k
      · rw [if_pos h1]
      · rw [if_neg h1, if_pos hr]
        have h2 : r = lft f b k := by omega
        subst h2
        rw [hrow]
        have hcc : c = 0 ∨ c = 1 ∨ c = 2 := by omega
        simp only [Nat.sub_self]
        rcases hcc with rfl | rfl | rfl
        · show RV.i p = RV.i (g.c k).p
          rw [e1]
        · rfl
        · rfl
    · simp [go_sem, hlt, e1]
      refine ⟨⟨by omega, by omega⟩, by omega, k + 1, by omega, by omega, ⟨by rw [hl1], by simp⟩, by rw [hl1]; omega, fun r c hr hc => ?_⟩
      rw [hl1] at hr
      unfold joined
      by_cases h1 : r < lft f b k
      · rw [if_pos h1]
      · rw [if_neg h1, if_pos hr]
        have h2 : r = lft f b k := by omega
        subst h2
        rw [hrow]
        have hcc : c = 0 ∨ c = 1 ∨ c = 2 := by omega
        simp only [Nat.sub_self]
        rcases hcc with rfl | rfl | rfl <;> rfl
end Go.Gx
