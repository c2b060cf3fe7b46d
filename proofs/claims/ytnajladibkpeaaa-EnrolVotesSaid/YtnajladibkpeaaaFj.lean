/-
  The reference's Twin: a register in memory of its own.
-/
import Derived.Test.YtnajladibkpeaaaFi
import Derived.Test.YtnajladibkpeaaaK9
set_option linter.unusedVariables false
set_option linter.unusedSimpArgs false
set_option maxRecDepth 20000
set_option maxHeartbeats 4000000
namespace Go.Gx
open Go.RowKit Go.Proofs Go.Proofs.Ytnajladibkpeaaa

/-- The cells of cases whose votes lie in regions b, b + 1, .. -/
def EG.oc (g : EG) (b : Nat) : Nat → Nat → SV := fun i j => if j = 2 then .sl (i + b) 2 0 (g.c i).nv none else .r ((g.c i).c j)
theorem EG.oc_ren (g : EG) (a b i j : Nat) : (g.oc a i j).ren (fun i => b + i) = g.oc (b + a) i j := by
  unfold EG.oc
  split
  · simp only [SV.ren]
    congr 1; omega
  · rfl
theorem EG.oc_trim (g : EG) {a n i j : Nat} (h : i + a < n) : (g.oc a i j).trim n = g.oc a i j := by
  unfold EG.oc
  split
  · simp [SV.trim, h]
  · rfl
theorem EG.oc_kill (g : EG) {a r i j : Nat} (h : ¬ i + a = r) : (g.oc a i j).kill r = g.oc a i j := by
  unfold EG.oc
  split
  · simp [SV.kill, h]
  · rfl
attribute [go_sem] EG.oc_ren
@[go_sem] theorem EG.oc_0 (g : EG) (b i : Nat) : g.oc b i 0 = .i (g.c i).a := rfl
@[go_sem] theorem EG.oc_1 (g : EG) (b i : Nat) : g.oc b i 1 = .i (g.c i).b := rfl
@[go_sem] theorem EG.oc_2 (g : EG) (b i : Nat) : g.oc b i 2 = .sl (i + b) 2 0 (g.c i).nv none := rfl
abbrev EG.oS (g : EG) : SV := .agg [.sl 0 2 0 g.nr none, .sl 1 3 0 g.nl none, .sl 2 3 0 g.nc none]
abbrev EG.ov (g : EG) (i : Nat) : Reg := .vec 119 2 (g.c i).nv fun a j => .r (((g.c i).v a).c j)
abbrev EG.oR (g : EG) : List Reg := [.vec 85 2 g.nr fun i j => .r ((g.r i).c j), .vec 46 3 g.nl fun i j => .r ((g.l i).c j), .vec 93 3 g.nc (g.oc 3)] ++ (List.range g.nc).map g.ov
theorem twin25 (g : EG) (hr : g.nr ≤ 1000000) (hl : g.nl ≤ 1000000) (hc : g.nc ≤ 1000000) (hv : ∀ i, i < g.nc → (g.c i).nv ≤ 1000000) : Own Try.prog 25 [] [g.sv] g.oS g.oR := by
  refine own_of_GC T_ok Try.func25 rfl (by kernel_rfl) (Nat.le_of_ble_eq_true rfl) rfl rfl ?_
  simp [go_sem]
  refine ⟨by omega, by omega, by omega, ?_⟩
  refine GLoop_v T_ok (α := Nat) (fun k => [(1, .ptr 0 0 3 0), (2, .ptr 1 0 3 0), (3, .i k)])
    (fun k => famN (memL [some (.box [.sl 2 2 0 g.nr none, .sl 3 3 0 g.nl none, .sl 4 3 0 g.nc none]), some (.box [nilS, nilS, nilS]), some (.vec 85 2 g.nr fun i j => .r ((g.r i).c j)), some (.vec 46 3 g.nl fun i j => .r ((g.l i).c j)), some (.vec 93 3 g.nc fun i j => if i < k then g.oc 5 i j else .r ((g.c i).c j))]) 5 k fun i => some (g.ov i))
    (fun k => k + 5) (fun k => k ≤ g.nc) (fun k => g.nc - k) 0 (by simp) ?_ ?_
  · refine Fit.of_famN (by decide) ?_ rfl ?_ (fun i hi => by omega)
    · simp [go_sem]
    · simp [go_sem]
      refine ⟨fun i j hi hj => ?_, fun i j hi hj => ?_, fun i j hi hj => ?_⟩ <;> simp [joined, hi, SV.kill, SV.trim]
  intro k J hi
  by_cases hlt : k < g.nc
  rotate_left
  · have e : k = g.nc := by omega
    subst e
    simp [go_sem]
    refine ⟨famR [2, 3, 4] g.nc 5, famR_nodup (by simp) (by simp), fun N => ⟨by simp [go_sem, famR_lo], ?_⟩⟩
    refine gexpR_famN (l := [2, 3, 4]) (Rs := [.vec 85 2 g.nr fun i j => .r ((g.r i).c j), .vec 46 3 g.nl fun i j => .r ((g.l i).c j), .vec 93 3 g.nc (g.oc 3)]) ?_ fun i hi => ?_
    · simp [go_sem]
      intro i j hi hj
      rw [if_pos hi]
      unfold EG.oc
      split
      · simp only [SV.ren]
        have := famR_hi (l := [2, 3, 4]) (b := 5) (D := N) hi
        simp only [List.length_cons, List.length_nil] at this
        rw [this]
      · rfl
    · simp [go_sem, hi]
  simp [go_sem, hlt]
  refine GDraw_x (t := (.take 0 (.take 2 (.take 4 (.take 6 (.alt 1 (.alt 3 (.alt 5 (.alt 7 (.take 8 (.alt 9 (.alt 10 (.alt 11 (.take 12 (.alt 13 .done .nil)) .nil) .nil) .nil)) .nil) .nil) (.alt 5 (.alt 3 (.alt 7 (.take 8 (.alt 9 (.alt 10 (.alt 11 (.take 12 (.alt 13 .done .nil)) .nil) .nil) .nil)) .nil) (.alt 7 (.take 8 (.alt 3 (.alt 9 (.alt 10 (.alt 11 (.take 12 (.alt 13 .done .nil)) .nil) .nil) .nil) (.alt 9 (.alt 3 (.alt 10 (.alt 11 (.take 12 (.alt 13 .done .nil)) .nil) .nil) .nil) .nil))) .nil)) .nil)) (.alt 3 (.alt 1 (.alt 5 (.alt 7 (.take 8 (.alt 9 (.alt 10 (.alt 11 (.take 12 (.alt 13 .done .nil)) .nil) .nil) .nil)) .nil) .nil) (.alt 5 (.alt 1 (.alt 7 (.take 8 (.alt 9 (.alt 10 (.alt 11 (.take 12 (.alt 13 .done .nil)) .nil) .nil) .nil)) .nil) (.alt 7 (.take 8 (.alt 1 (.alt 9 (.alt 10 (.alt 11 (.take 12 (.alt 13 .done .nil)) .nil) .nil) .nil) (.alt 9 (.alt 1 (.alt 10 (.alt 11 (.take 12 (.alt 13 .done .nil)) .nil) .nil) (.alt 10 (.alt 1 (.alt 11 (.take 12 (.alt 13 .done .nil)) .nil) .nil) .nil)) .nil))) .nil)) .nil)) (.alt 5 (.alt 1 (.alt 3 (.alt 7 (.take 8 (.alt 9 (.alt 10 (.alt 11 (.take 12 (.alt 13 .done .nil)) .nil) .nil) .nil)) .nil) (.alt 7 (.take 8 (.alt 3 (.alt 9 (.alt 10 (.alt 11 (.take 12 (.alt 13 .done .nil)) .nil) .nil) .nil) (.alt 9 (.alt 3 (.alt 10 (.alt 11 (.take 12 (.alt 13 .done .nil)) .nil) .nil) .nil) .nil))) .nil)) (.alt 3 (.alt 1 (.alt 7 (.take 8 (.alt 9 (.alt 10 (.alt 11 (.take 12 (.alt 13 .done .nil)) .nil) .nil) .nil)) .nil) (.alt 7 (.take 8 (.alt 1 (.alt 9 (.alt 10 (.alt 11 (.take 12 (.alt 13 .done .nil)) .nil) .nil) .nil) (.alt 9 (.alt 1 (.alt 10 (.alt 11 (.take 12 (.alt 13 .done .nil)) .nil) .nil) (.alt 10 (.alt 1 (.alt 11 (.take 12 (.alt 13 .done .nil)) .nil) .nil) .nil)) .nil))) .nil)) (.alt 7 (.take 8 (.alt 1 (.alt 3 (.alt 9 (.alt 10 (.alt 11 (.take 12 (.alt 13 .done .nil)) .nil) .nil) .nil) (.alt 9 (.alt 3 (.alt 10 (.alt 11 (.take 12 (.alt 13 .done .nil)) .nil) .nil) .nil) .nil)) (.alt 3 (.alt 1 (.alt 9 (.alt 10 (.alt 11 (.take 12 (.alt 13 .done .nil)) .nil) .nil) .nil) (.alt 9 (.alt 1 (.alt 10 (.alt 11 (.take 12 (.alt 13 .done .nil)) .nil) .nil) (.alt 10 (.alt 1 (.alt 11 (.take 12 (.alt 13 .done .nil)) .nil) .nil) .nil)) .nil)) (.alt 9 (.alt 1 (.alt 3 (.alt 10 (.alt 11 (.take 12 (.alt 13 .done .nil)) .nil) .nil) .nil) (.alt 3 (.alt 1 (.alt 10 (.alt 11 (.take 12 (.alt 13 .done .nil)) .nil) .nil) (.alt 10 (.alt 1 (.alt 11 (.take 12 (.alt 13 .done .nil)) .nil) .nil) .nil)) .nil)) .nil)))) .nil))) .nil)))))))) T_ok (by kernel_rfl) (by kernel_rfl) (by kernel_rfl) (fun _ _ _ _ h => h) ?_
  simp [go_sem, hlt]
  have hvk := hv k hlt
  have hA : ∀ (i j : Nat), i < g.nc → j < 3 → (if i = k ∧ 2 ≤ j ∧ j < 3 then SV.trim (k + 1 + 5) ([SV.sl (k + 5) 2 0 (g.c k).nv none][j - 2]?.getD (SV.r RV.any))
      else if i < k then SV.trim (k + 1 + 5) (SV.kill (k + 5) (g.oc 5 i j)) else SV.r ((g.c i).c j)) = if i < k + 1 then g.oc 5 i j else SV.r ((g.c i).c j) := by
    intro i j hi hj
    by_cases e : i = k
    · subst e
      rw [if_pos (Nat.lt_succ_self i), if_neg (Nat.lt_irrefl i)]
      rcases (by omega : j = 0 ∨ j = 1 ∨ j = 2) with rfl | rfl | rfl
      · simp [go_sem]
      · simp [go_sem]
      · simp [go_sem]
    · rw [if_neg fun h => e h.1]
      by_cases h1 : i < k
      · rw [if_pos h1, if_pos (by omega), EG.oc_kill g (by omega), EG.oc_trim g (by omega)]
      · rw [if_neg h1, if_neg (by omega)]
  repeat' first
    | (refine ⟨⟨by omega, by omega⟩, by omega, k + 1, by omega, by omega, Fit.of_famN (by simp) ?_ rfl ?_ fun i hi2 => ?_⟩)
    | apply And.intro
  all_goals first
    | (simp [go_sem]; done)
    | (simp [go_sem]; exact hA)
    | (by_cases e : i = k
       · subst e
         simp [go_sem]
         intro a b ha hb
         simp [joined, ha, SV.kill, SV.trim]
       · have h1 : i < k := by omega
         simp [go_sem, e, h1, hi2])
theorem EG.view_oc (g : EG) {M : Mem} {b i j : Nat} (hM : M (i + b) = some (g.ov i)) (hj : j < 3) : viewRV M 3 (g.oc b i j) = (g.c i).c j := by
  rcases (by omega : j = 0 ∨ j = 1 ∨ j = 2) with rfl | rfl | rfl
  · rfl
  · rfl
  · simp only [EG.oc_2, viewRV, hM]
    simp
    rfl
theorem twin25p (g : EG) (hr : g.nr ≤ 1000000) (hl : g.nl ≤ 1000000) (hc : g.nc ≤ 1000000) (hv : ∀ i, i < g.nc → (g.c i).nv ≤ 1000000) : Pure Try.prog 25 [g.sv] (· = g.sv) := by
  refine Pure.ofSub ((twin25 g hr hl hc hv).pure ?_)
  unfold EG.oR
  rw [memR_famN]
  simp [go_sem]
  intro i j hi hj
  exact g.view_oc (by simp [go_sem, hi]) hj
end Go.Gx
