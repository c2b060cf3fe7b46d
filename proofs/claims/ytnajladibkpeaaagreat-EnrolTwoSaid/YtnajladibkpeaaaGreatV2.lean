/-
  Vote: the program's.
-/
import Derived.Test.YtnajladibkpeaaaGreatV1
set_option linter.unusedVariables false
set_option linter.unusedSimpArgs false
set_option maxRecDepth 20000
set_option maxHeartbeats 4000000
namespace Go.Gx
open Go.RowKit Go.Proofs Go.Proofs.YtnajladibkpeaaaGreat

theorem r3_toRV (x y z : RV) (n : Nat) : SV.r (([SV.r x, SV.r y, SV.r z][n]?.getD (.r .any)).toRV) = [SV.r x, SV.r y, SV.r z][n]?.getD (.r .any) := by
  match n with
  | 0 => rfl
  | 1 => rfl
  | 2 => rfl
  | n + 3 => rfl
theorem le_of_sub {s s' : SV} (h : s.sub s') : s.le s' := fun _ _ _ hr => SV.sub_rel _ _ _ h hr
theorem EG.at78v (g : EG) (h : g.OK) (hl : g.cos = true) {get : Nat → Nat → RV} (hget : ∀ i j, i < g.nc → j < 3 → get i j = (g.c i).c j) (p q : Int) :
    Pure Tryz.prog 46 [.r (.rs 3 g.nc get), .fn (.func 47) [] [], .agg [.i p, .i q]] (· = .tup [.i (g.cat p q), .b (g.cin p q)]) :=
  (EG.at78 g h hl p q).args ⟨le_of_sub (by simp [go_sem]; exact hget), SV.le.rfl, SV.le.rfl, trivial⟩
theorem vote35 {g : EG} (h : g.Sm) (o a b : Int) (s : Bool) : Own Tryz.prog 14 [] [g.sv, .i o, .i a, .i b, .b s] (g.voteS o a b s) (g.voteR o a b s) := by
  refine own_of_GC T_ok Tryz.func14 rfl (by kernel_rfl) (Nat.le_of_ble_eq_true rfl) rfl rfl ?_
  have hr := h.nr
  have hl := h.nl
  have hc := h.nc
  simp [go_sem]
  by_cases hv : g.valid = true
  rotate_left
  · have hv' : g.valid = false := by simpa using hv
    have e : g.voteE o a b s = 8 := by simp [EG.voteE, hv']
    refine callK_own [] (open_bad h.ok hv') (by simp) rfl trivial ?_
    simp [go_sem, EG.voteS, EG.voteR, e]
    exact ⟨[], by simp, fun N => ⟨by simp [go_sem], trivial⟩⟩
  refine callK_own [] (open61 h hv) (by simp) rfl trivial ?_
  by_cases o1 : o < 0
  · have e : g.voteE o a b s = 2 := by simp [EG.voteE, hv, show ¬ (0 ≤ o ∧ o ≤ 7) by omega]
    simp [go_sem, o1, EG.voteS, EG.voteR, e]
    exact ⟨[], by simp, fun N => ⟨by simp [go_sem], trivial⟩⟩
  by_cases o2 : 8 ≤ o
  · have e : g.voteE o a b s = 2 := by simp [EG.voteE, hv, show ¬ (0 ≤ o ∧ o ≤ 7) by omega]
    simp [go_sem, o1, o2, EG.voteS, EG.voteR, e]
    exact ⟨[], by simp, fun N => ⟨by simp [go_sem], trivial⟩⟩
  have o3 : 0 ≤ o ∧ o ≤ 7 := by omega
  obtain ⟨B, hB⟩ : ∃ B, B = 4 + (g.nc + 1 + 1 + 1 + 1 + 1) := ⟨_, rfl⟩
  by_cases hab : a = b
  · have e : g.voteE o a b s = 6 := by simp [EG.voteE, hv, o3, hab]
    subst hab
    simp [go_sem, o1, o2, EG.voteS, EG.voteR, e]
    exact ⟨[], by simp, fun N => ⟨by simp [go_sem], trivial⟩⟩
  simp [go_sem, o1, o2, hab]
  refine call_lent (v := .b (g.th a)) ?_ rfl ?_
  · simp [go_sem]
    exact there63 g h.ok _ (by simp [go_sem, viewRV]) a
  by_cases ta : g.th a = true
  rotate_left
  · have ta' : g.th a = false := by simpa using ta
    have e : g.voteE o a b s = 6 := by simp [EG.voteE, hv, o3, ta']
    simp [go_sem, ta', EG.voteS, EG.voteR, e]
    exact ⟨[], by simp, fun N => ⟨by simp [go_sem], trivial⟩⟩
  simp [go_sem, ta]
  refine call_lent (v := .b (g.th b)) ?_ rfl ?_
  · simp [go_sem]
    exact there63 g h.ok _ (by simp [go_sem, viewRV]) b
  by_cases tb : g.th b = true
  rotate_left
  · have tb' : g.th b = false := by simpa using tb
    have e : g.voteE o a b s = 6 := by simp [EG.voteE, hv, o3, tb']
    simp [go_sem, tb', EG.voteS, EG.voteR, e]
    exact ⟨[], by simp, fun N => ⟨by simp [go_sem], trivial⟩⟩
  simp [go_sem, tb]
  rw [← hB]
  have b0 : ∀ n, n < 9 → ¬ n = B := fun n _ => by omega
  have b1 : ∀ n, n < 9 → ¬ B = n := fun n _ => by omega
  have b2 : ∀ n, n < 9 → n < B := fun n _ => by omega
  have b3 : ¬ B < g.nc + 9 := by omega
  have b5 : ∀ i, i < g.nc → ¬ i + 9 = B := fun i _ => by omega
  have z0 : ¬ B = B + 1 := by omega
  have z1 : ¬ B = B + 1 + 1 := by omega
  have z2 : ¬ B = B + 1 + 1 + 1 := by omega
  have z3 : ¬ B = B + 1 + 1 + 1 + 1 := by omega
  have z4 : ¬ B + 1 = B := by omega
  have z5 : ¬ B + 1 + 1 = B := by omega
  have z6 : ¬ B + 1 + 1 + 1 = B := by omega
  have z7 : ¬ B + 1 + 1 + 1 + 1 = B := by omega
  have b6 : ∀ n, n < 9 → ¬ n = B + 1 := fun n _ => by omega
  have b7 : ∀ n, n < 9 → ¬ B + 1 = n := fun n _ => by omega
  have b8 : ∀ i, i < g.nc → ¬ i + 9 = B + 1 := fun i _ => by omega
  refine call_val (pairOf75 a b) rfl rfl ?_
  simp [go_sem, b0, b1, b2, b3]
  refine GDraw_all T_ok (by kernel_rfl) (by kernel_rfl) ?_
  simp [go_sem, b0, b1, b2, b3]
  have hat := EG.at76 g h.ok (EG.valid_lks hv) (min a b) (max a b)
  refine ⟨_, dcall_lent (v := .tup [.i (g.lat (min a b) (max a b)), .b (g.lin (min a b) (max a b))]) ?_ rfl, ?_⟩
  · simp [go_sem, b0, b1, b2, b3]
    exact hat
  by_cases hf : g.lin (min a b) (max a b) = true
  · have e : g.voteE o a b s = 82 := by simp [EG.voteE, hv, o3, hab, ta, tb, hf]
    simp [go_sem, hf, b0, b1, b2, b3, EG.voteS, EG.voteR, e]
    exact ⟨[], by simp, fun N => ⟨by simp [go_sem], trivial⟩⟩
  have hf' : g.lin (min a b) (max a b) = false := by simpa using hf
  simp [go_sem, hf', b0, b1, b2, b3]
  refine GDraw_all T_ok (by kernel_rfl) (by kernel_rfl) ?_
  simp [go_sem, b0, b1, b2, b3]
  refine ⟨_, dcall_deep (v := .tup [.i (g.cat (min a b) (max a b)), .b (g.cin (min a b) (max a b))]) ?_ rfl, ?_⟩
  · simp [go_sem, b0, b1, b2, b3]
    refine EG.at78v g h.ok (EG.valid_cos hv) (fun i j hi hj => g.view_oc ?_ hj) _ _
    have := b5 i hi
    simp [go_sem, hi, this]
  by_cases hci : g.cin (min a b) (max a b) = true
  rotate_left
  · have hci' : g.cin (min a b) (max a b) = false := by simpa using hci
    by_cases h40 : g.nc = 40
    · have h40' : (g.nc : Int) = 40 := by omega
      have e : g.voteE o a b s = 9 := by simp [EG.voteE, hv, o3, hab, ta, tb, hf', hci', h40]
      simp [go_sem, hci', h40', b0, b1, b2, b3, b6, b7, EG.voteS, EG.voteR, e]
      exact ⟨[], by simp, fun N => ⟨by simp [go_sem], trivial⟩⟩
    have h40' : ¬ (g.nc : Int) = 40 := by omega
    have e : g.voteE o a b s = 0 := by simp [EG.voteE, hv, o3, hab, ta, tb, hf', hci', h40]
    have eG : g.voteG o a b s = g.addC (g.cat (min a b) (max a b)) ⟨min a b, max a b, 1, fun _ => ⟨o, s⟩⟩ := by simp [EG.voteG, hci']
    have eD : g.voteD a b s = false := by simp [EG.voteD, hci']
    simp [go_sem, hci', h40', b0, b1, b2, b3, b6, b7, EG.voteS, EG.voteR, e, eG, eD]
    refine GDraw_mix (fun _ => false) T_ok (by kernel_rfl) [0] 15 (by kernel_rfl) (by kernel_rfl) (by kernel_rfl) (fun _ _ _ _ h => h) rfl rfl ?_
    simp [go_sem, b0, b1, b2, b3, b6, b7]
    refine ⟨by omega, insCaseK (q := 8) (p := B + 1 + 1 + 1) (cs := g.oc 9) (one := fun i j => [SV.i (min a b), SV.i (max a b), .sl (B + 1 + 1) 2 0 1 none][i * 3 + j]?.getD (.r .any)) (by omega) (EG.cat_le _ _ _) (by omega) (by simp [go_sem, b0, b1, b2, b3, b6, b7]) (by simp [go_sem, b0, b1, b2, b3, b6, b7]) ?_⟩
    simp [go_sem, b0, b1, b2, b3, b6, b7]
    have hcl := EG.cat_le g (min a b) (max a b)
    generalize g.cat (min a b) (max a b) = c at hcl
    have c0 : ∀ n, n < 9 → ¬ n = B + 1 + 1 := fun n _ => by omega
    have c1 : ∀ n, n < 9 → ¬ n = B + 1 + 1 + 1 := fun n _ => by omega
    have c2 : ∀ n, n < 9 → ¬ n = B + 1 + 1 + 1 + 1 := fun n _ => by omega
    have c3 : ∀ n, n < 9 → ¬ B + 1 + 1 = n := fun n _ => by omega
    have c4 : ∀ n, n < 9 → ¬ B + 1 + 1 + 1 = n := fun n _ => by omega
    have c5 : ∀ n, n < 9 → ¬ B + 1 + 1 + 1 + 1 = n := fun n _ => by omega
    have c6 : ∀ i, i < g.nc → ∀ n, n ≤ 9 → ¬ i + n = B := fun i _ n _ => by omega
    have c7 : ∀ i, i < g.nc → ∀ n, n ≤ 9 → ¬ i + n = B + 1 := fun i _ n _ => by omega
    refine EG.out (g.addC c ⟨min a b, max a b, 1, fun _ => ⟨o, s⟩⟩) (fun i => if i < c then i + 9 else if i = c then B + 1 + 1 else i - 1 + 9) (cs := fun r d => if r < c then g.oc 9 r d else if r = c then [SV.i (min a b), SV.i (max a b), .sl (B + 1 + 1) 2 0 1 none][d]?.getD (.r .any) else g.oc 9 (r - 1) d) (by omega) (fun i j hi hj h => ?_) (fun i hi => ?_) (by simp [go_sem, EG.addC, b0, b1, b2, b3, b6, b7, c0, c1, c2, c3, c4, c5]) (by simp [go_sem, EG.addC, b0, b1, b2, b3, b6, b7, c0, c1, c2, c3, c4, c5]) (by simp [go_sem, EG.addC, b0, b1, b2, b3, b6, b7, c0, c1, c2, c3, c4, c5]) (fun i hi => ?_) (fun i hi => ?_) (fun _ => rfl)
    · have hi' : i < g.nc + 1 := hi
      have hj' : j < g.nc + 1 := hj
      split at h <;> (try split at h) <;> (try split at h) <;> (try split at h) <;> omega
    · have hi' : i < g.nc + 1 := hi
      split
      · omega
      · split <;> omega
    · have hi' : i < g.nc + 1 := hi
      by_cases e1 : i < c
      · simp [go_sem, e1, EG.addC, b0, b1, c0, c3]
      · by_cases e2 : i = c
        · simp [go_sem, e2, EG.addC, b0, b1, c0, c3]
        · simp [go_sem, e1, e2, EG.addC, b0, b1, c0, c3]
    · have hi' : i < g.nc + 1 := hi
      by_cases e1 : i < c
      · have d1 := c6 i (by omega)
        have d2 := c7 i (by omega)
        have d3 : i < g.nc := by omega
        simp [go_sem, e1, EG.addC, d1, d2, d3, b0, b1, c0, c3]
      · by_cases e2 : i = c
        · simp [go_sem, e1, e2, EG.addC, b0, b1, c0, c3]
          intro i' j hi' hj
          subst hi'
          rcases (by omega : j = 0 ∨ j = 1) with rfl | rfl <;> rfl
        · have d1 := c6 (i - 1) (by omega)
          have d2 := c7 (i - 1) (by omega)
          have d3 : i - 1 < g.nc := by omega
          simp [go_sem, e1, e2, EG.addC, d1, d2, d3, b0, b1, c0, c3]
  simp [go_sem, hci, b0, b1, b2, b3, b6, b7]
  generalize hk : g.cat (min a b) (max a b) = k
  have hkc : k < g.nc := by rw [← hk]; exact EG.cin_lt hci
  have hvk := h.nv k hkc
  have b9 := b5 k hkc
  have b10 := b8 k hkc
  have b11 : ∀ n, n < 9 → ¬ k + n = B := fun n _ => by omega
  have b12 : ∀ n, n < 9 → ¬ k + n = B + 1 := fun n _ => by omega
  have b13 : ∀ n, n < 9 → ¬ B = k + n := fun n _ => by omega
  have b14 : ¬ B = k + 9 := by omega
  have b15 : ¬ B + 1 = k + 9 := by omega
  refine ⟨hkc, call_lent (v := .b ((g.c k).has o)) ?_ rfl ?_⟩
  · simp [go_sem, hkc, b0, b1, b2, b3, b6, b7, b9, b10]
    refine has81 (g.c k) (by omega) _ o ?_
    simp [go_sem, viewRV]
  by_cases ho : (g.c k).has o = true
  · have e : g.voteE o a b s = 80 := by simp [EG.voteE, hv, o3, hab, ta, tb, hf', hci, hk, ho]
    simp [go_sem, ho, b0, b1, b2, b3, b6, b7, EG.voteS, EG.voteR, e]
    exact ⟨[], by simp, fun N => ⟨by simp [go_sem], trivial⟩⟩
  have ho' : (g.c k).has o = false := by simpa using ho
  simp [go_sem, ho', b0, b1, b2, b3, b6, b7]
  refine call_lent (v := .b ((g.c k).says s)) ?_ rfl ?_
  · simp [go_sem, hkc, b0, b1, b2, b3, b6, b7, b9, b10]
    refine says82 (g.c k) (by omega) _ s ?_
    simp [go_sem, viewRV]
  by_cases hs : (g.c k).says s = true
  rotate_left
  · have hs' : (g.c k).says s = false := by simpa using hs
    have e : g.voteE o a b s = 0 := by simp [EG.voteE, hv, o3, hab, ta, tb, hf', hci, hk, ho', hs']
    have eG : g.voteG o a b s = g.addV k ⟨o, s⟩ := by simp [EG.voteG, hci, hk, hs']
    have eD : g.voteD a b s = false := by simp [EG.voteD, hci, hk, hs']
    simp [go_sem, hs', b0, b1, b2, b3, b6, b7, EG.voteS, EG.voteR, e, eG, eD]
    refine GDraw_x (t := (.take 0 (.take 1 (.take 2 (.take 3 (.take 5 (.take 6 (.alt 4 (.alt 7 (.alt 8 (.alt 9 (.alt 10 (.take 11 (.alt 12 .done .nil)) .nil) .nil) .nil) .nil) (.alt 7 (.alt 4 (.alt 8 (.alt 9 (.alt 10 (.take 11 (.alt 12 .done .nil)) .nil) .nil) .nil) (.alt 8 (.alt 4 (.alt 9 (.alt 10 (.take 11 (.alt 12 .done .nil)) .nil) .nil) (.alt 9 (.alt 4 (.alt 10 (.take 11 (.alt 12 .done .nil)) .nil) .nil) .nil)) .nil)) .nil))))))))) T_ok (by kernel_rfl) (by kernel_rfl) (by kernel_rfl) (fun _ _ _ _ h => h) ?_
    simp [go_sem, b0, b1, b2, b3, b6, b7, hkc, b9, b10, b11, b12, b13, b14, b15]
    refine ⟨⟨by omega, by omega⟩, EG.out' (g.addV k ⟨o, s⟩) (fun i => i + 9) (by omega) (fun i j hi hj h => by omega) (fun i hi => by omega) ?_ ?_ ?_ (fun i hi => ?_) (fun _ => rfl)⟩
    · simp [go_sem, EG.addV, b0, b1, b2, b3, b6, b7]
    · simp [go_sem, EG.addV, b0, b1, b2, b3, b6, b7]
    · simp [go_sem, EG.addV, b0, b1, b2, b3, b6, b7, b11, b12, b13, b14, b15]
      intro i hi
      by_cases e1 : i = k
      · subst e1
        simp [CsG.addV]
      · simp [e1]
    · have hi' : i < g.nc := hi
      have c6 : ∀ n, n ≤ 9 → ¬ i + n = B := fun n _ => by omega
      have c7 : ∀ n, n ≤ 9 → ¬ i + n = B + 1 := fun n _ => by omega
      have c8 : ∀ n, n ≤ 9 → ¬ i + n = B + 1 + 1 := fun n _ => by omega
      by_cases e1 : i = k
      · subst e1
        simp [go_sem, EG.addV, CsG.addV, b0, b1, b2, b3, b6, b7, c6, c7, c8]
        intro r j hr hj
        unfold joined
        by_cases e2 : r < (g.c i).nv
        · simp [e2, SV.kill]
        · have e3 : r = (g.c i).nv := by omega
          subst e3
          rcases (by omega : j = 0 ∨ j = 1) with rfl | rfl <;> simp [go_sem, SV.kill]
      · simp [go_sem, EG.addV, b0, b1, b2, b3, b6, b7, c6, c7, c8, e1, hi', SV.kill]
  simp [go_sem, hs, b0, b1, b2, b3, b6, b7]
  have tp : g.th (min a b) = true := by
    rcases Int.le_total a b with h1 | h1
    · rw [Int.min_eq_left h1]; exact ta
    · rw [Int.min_eq_right h1]; exact tb
  have tq : g.th (max a b) = true := by
    rcases Int.le_total a b with h1 | h1
    · rw [Int.max_eq_right h1]; exact tb
    · rw [Int.max_eq_left h1]; exact ta
  refine call_lent (v := .b (g.clash (min a b) (max a b) s)) ?_ rfl ?_
  · simp [go_sem, b0, b1, b2, b3, b6, b7]
    refine clashes83 g h.ok (EG.valid_lth hv) _ ?_ ?_ _ _ s tp tq
    · simp [go_sem, viewRV, b0, b1, b2, b3, b6, b7]
    · simp [go_sem, viewRV, b0, b1, b2, b3, b6, b7]
  by_cases hl : g.clash (min a b) (max a b) s = true
  · have e : g.voteE o a b s = 81 := by simp [EG.voteE, hv, o3, hab, ta, tb, hf', hci, hk, ho', hs, hl]
    simp [go_sem, hl, b0, b1, b2, b3, b6, b7, EG.voteS, EG.voteR, e]
    exact ⟨[], by simp, fun N => ⟨by simp [go_sem], trivial⟩⟩
  have hl' : g.clash (min a b) (max a b) s = false := by simpa using hl
  have e : g.voteE o a b s = 0 := by simp [EG.voteE, hv, o3, hab, ta, tb, hf', hci, hk, ho', hs, hl']
  have eG : g.voteG o a b s = (g.dropC k).addL (g.lat (min a b) (max a b)) ⟨min a b, max a b, s⟩ := by simp [EG.voteG, hci, hk, hs]
  have eD : g.voteD a b s = true := by simp [EG.voteD, hci, hk, hs]
  simp [go_sem, hl', b0, b1, b2, b3, b6, b7, EG.voteS, EG.voteR, e, eG, eD]
  refine ⟨⟨by omega, by omega⟩, delCaseK (by omega) hkc (q := 8) (cs := g.oc 9) (by simp [go_sem, b0, b1, b2, b3, b6, b7]) ?_⟩
  have c0 : ∀ n, n < 9 → ¬ n = B + 1 + 1 := fun n _ => by omega
  have c1 : ∀ n, n < 9 → ¬ n = B + 1 + 1 + 1 := fun n _ => by omega
  have c2 : ∀ n, n < 9 → ¬ n = B + 1 + 1 + 1 + 1 := fun n _ => by omega
  have c3 : ∀ n, n < 9 → ¬ B + 1 + 1 = n := fun n _ => by omega
  have c4 : ∀ n, n < 9 → ¬ B + 1 + 1 + 1 = n := fun n _ => by omega
  have c5 : ∀ n, n < 9 → ¬ B + 1 + 1 + 1 + 1 = n := fun n _ => by omega
  simp [go_sem, b0, b1, b2, b3, b6, b7, z0, z1, z2, z3, z4, z5, z6, z7, c0, c1, c2, c3, c4, c5]
  refine GDraw_mix (fun _ => false) T_ok (by kernel_rfl) [0] 14 (by kernel_rfl) (by kernel_rfl) (by kernel_rfl) (fun _ _ _ _ h => h) rfl rfl ?_
  simp [go_sem, b0, b1, b2, b3, b6, b7, z0, z1, z2, z3, z4, z5, z6, z7, c0, c1, c2, c3, c4, c5]
  have hll := EG.lat_le g (min a b) (max a b)
  generalize g.lat (min a b) (max a b) = l at hll
  refine ⟨by omega, callK_own [7, B + 1 + 1 + 1] (insert85 g.nl l (by omega) hll (fun i j => (g.l i).c j) (fun i j => ([SV.i (min a b), SV.i (max a b), SV.b s][i * 3 + j]?.getD (.r .any)).toRV)) (by simp; omega) rfl ⟨by simp [go_sem, b0, b1, b2, b3, b6, b7, z0, z1, z2, z3, z4, z5, z6, z7, c0, c1, c2, c3, c4, c5], ?_, trivial⟩ ?_⟩
  · show _ = some (Reg.vec 41 3 1 fun i j => SV.r _)
    simp only [r3_toRV]
    simp [go_sem, b0, b1, b2, b3, b6, b7, z0, z1, z2, z3, z4, z5, z6, z7, c0, c1, c2, c3, c4, c5]
  simp [go_sem, b0, b1, b2, b3, b6, b7, z0, z1, z2, z3, z4, z5, z6, z7, c0, c1, c2, c3, c4, c5]
  have c6 : ∀ i, i < g.nc → ∀ n, n ≤ 9 → ¬ i + n = B := fun i _ n _ => by omega
  have c7 : ∀ i, i < g.nc → ∀ n, n ≤ 9 → ¬ i + n = B + 1 := fun i _ n _ => by omega
  have c8 : ∀ i, i < g.nc → ∀ n, n ≤ 9 → ¬ i + n = B + 1 + 1 := fun i _ n _ => by omega
  have c9 : ∀ i, i < g.nc → ∀ n, n ≤ 9 → ¬ i + n = B + 1 + 1 + 1 := fun i _ n _ => by omega
  have c10 : ∀ i, i < g.nc → ∀ n, n ≤ 9 → ¬ i + n = B + 1 + 1 + 1 + 1 := fun i _ n _ => by omega
  refine EG.out ((g.dropC k).addL l ⟨min a b, max a b, s⟩) (fun i => if i < k then i + 9 else i + 1 + 9) (cs := fun r c => if r < k then g.oc 9 r c else g.oc 9 (r + 1) c) (by omega) (fun i j hi hj h => ?_) (fun i hi => ?_) ?_ ?_ ?_ (fun i hi => ?_) (fun i hi => ?_) (fun _ => rfl)
  · split at h <;> (try split at h) <;> omega
  · have hi' : i < g.nc - 1 := hi
    split <;> omega
  · simp [go_sem, EG.dropC, EG.addL, b0, b1, b2, b3, b6, b7, z0, z1, z2, z3, z4, z5, z6, z7, c0, c1, c2, c3, c4, c5]
  · simp [go_sem, EG.dropC, EG.addL, b0, b1, b2, b3, b6, b7, z0, z1, z2, z3, z4, z5, z6, z7, c0, c1, c2, c3, c4, c5]
    intro i j hi hj
    unfold insR
    by_cases e1 : i < l
    · simp [e1]
    · by_cases e2 : i = l
      · subst e2
        rcases (by omega : j = 0 ∨ j = 1 ∨ j = 2) with rfl | rfl | rfl <;> simp [go_sem]
      · simp [e1, e2]
  · simp [go_sem, EG.dropC, EG.addL, b0, b1, b2, b3, b6, b7, z0, z1, z2, z3, z4, z5, z6, z7, c0, c1, c2, c3, c4, c5]
  · have hi' : i < g.nc - 1 := hi
    by_cases e1 : i < k
    · simp [go_sem, e1, EG.dropC, EG.addL]
    · simp [go_sem, e1, EG.dropC, EG.addL]
  · have hi' : i < g.nc - 1 := hi
    by_cases e1 : i < k
    · have d1 := c6 i (by omega)
      have d2 := c7 i (by omega)
      have d3 : i < g.nc := by omega
      have d4 := c8 i (by omega)
      have d5 := c9 i (by omega)
      have d6 := c10 i (by omega)
      simp [go_sem, e1, EG.dropC, EG.addL, d1, d2, d3, d4, d5, d6]
    · have d1 := c6 (i + 1) (by omega)
      have d2 := c7 (i + 1) (by omega)
      have d3 : i + 1 < g.nc := by omega
      have d4 := c8 (i + 1) (by omega)
      have d5 := c9 (i + 1) (by omega)
      have d6 := c10 (i + 1) (by omega)
      simp [go_sem, e1, EG.dropC, EG.addL, d1, d2, d3, d4, d5, d6]
end Go.Gx
