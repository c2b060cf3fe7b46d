/-
  Vote: the reference's.
-/
import Derived.Test.YtnajladibkpeaaaV2
import Derived.Test.YtnajladibkpeaaaV1
import Derived.Test.YtnajladibkpeaaaFq
set_option linter.unusedVariables false
set_option linter.unusedSimpArgs false
set_option maxRecDepth 20000
set_option maxHeartbeats 40000000
namespace Go.Gx
open Go.RowKit Go.Proofs Go.Proofs.Ytnajladibkpeaaa

theorem EG.fd_no' {g : EG} (h : g.lks = true) {p q : Int} (hf : g.lin p q = false) : g.fd p q < 0 := by
  have := EG.lin_fd h p q
  rw [hf] at this
  have : ¬ 0 ≤ g.fd p q := by simpa using this.symm
  omega
theorem refVote36 {g : EG} (h : g.Sm) (o a b : Int) (s : Bool) : Pure Try.prog 36 [g.sv, .i o, .i a, .i b, .b s] (· = g.voteV o a b s) := by
  refine Pure.ofSub ?_
  refine pure_of_GC T_ok Try.func36 rfl (by kernel_rfl) (Nat.le_of_ble_eq_true rfl) rfl rfl ?_
  have hr := h.nr
  have hl := h.nl
  have hc := h.nc
  simp [go_sem]
  refine call_val (valid49 g h.ok) rfl rfl ?_
  by_cases hv : g.valid = true
  rotate_left
  · have hv' : g.valid = false := by simpa using hv
    have e : g.voteE o a b s = 8 := by simp [EG.voteE, hv']
    simp [go_sem, hv', EG.voteV, e]
  simp [go_sem, hv]
  refine call_val (within62 o 0 7) rfl rfl ?_
  by_cases o3 : 0 ≤ o ∧ o ≤ 7
  rotate_left
  · have o0 : btw 0 7 o = false := by rw [btw, ← Bool.decide_and]; exact decide_eq_false o3
    have e : g.voteE o a b s = 2 := by simp [EG.voteE, hv, o3]
    simp [go_sem, o0, EG.voteV, e]
  have o0 : btw 0 7 o = true := by simp [btw, o3]
  simp [go_sem, o0]
  refine call_val (there50 g h.ok a) rfl rfl ?_
  by_cases ta : g.th a = true
  rotate_left
  · have ta' : g.th a = false := by simpa using ta
    have e : g.voteE o a b s = 6 := by simp [EG.voteE, hv, o3, ta']
    simp [go_sem, ta', EG.voteV, e]
  simp [go_sem, ta]
  refine call_val (there50 g h.ok b) rfl rfl ?_
  by_cases tb : g.th b = true
  rotate_left
  · have tb' : g.th b = false := by simpa using tb
    have e : g.voteE o a b s = 6 := by simp [EG.voteE, hv, o3, tb']
    simp [go_sem, tb', EG.voteV, e]
  by_cases hab : a = b
  · have e : g.voteE o a b s = 6 := by simp [EG.voteE, hv, o3, hab]
    subst hab
    simp [go_sem, tb, EG.voteV, e]
  simp [go_sem, tb, hab]
  refine call_val (find86 g h.ok (min a b) (max a b)) rfl rfl ?_
  by_cases hf : g.lin (min a b) (max a b) = true
  · have e : g.voteE o a b s = 82 := by simp [EG.voteE, hv, o3, hab, ta, tb, hf]
    have f0 : 0 ≤ g.fd (min a b) (max a b) := by rw [EG.fd_lat (EG.valid_lks hv) hf]; omega
    simp [go_sem, f0, EG.voteV, e]
  have hf' : g.lin (min a b) (max a b) = false := by simpa using hf
  have f0 : ¬ 0 ≤ g.fd (min a b) (max a b) := by have := EG.fd_no' (EG.valid_lks hv) hf'; omega
  simp [go_sem, f0]
  refine call_val (open87 g h.ok (min a b) (max a b)) rfl rfl ?_
  have tp : g.th (min a b) = true := by
    rcases Int.le_total a b with h1 | h1
    · rw [Int.min_eq_left h1]; exact ta
    · rw [Int.min_eq_right h1]; exact tb
  have tq : g.th (max a b) = true := by
    rcases Int.le_total a b with h1 | h1
    · rw [Int.max_eq_right h1]; exact tb
    · rw [Int.max_eq_left h1]; exact ta
  have bp := EG.th_iff.1 tp
  have bq := EG.th_iff.1 tq
  by_cases hci : g.cin (min a b) (max a b) = true
  rotate_left
  · have hci' : g.cin (min a b) (max a b) = false := by simpa using hci
    rw [EG.co_no (EG.valid_cos hv) hci']
    have nil88 : Pure Try.prog 88 [nilS, .i o] (· = .b false) := (hasVoted88 ⟨0, 0, 0, fun _ => ⟨0, false⟩⟩ (by decide) o).args ⟨le_of_sub (by simp [go_sem]), SV.le.rfl, trivial⟩
    have nil89 : Pure Try.prog 89 [nilS, .b s] (· = .b false) := (decided89 ⟨0, 0, 0, fun _ => ⟨0, false⟩⟩ (by decide) s).args ⟨le_of_sub (by simp [go_sem]), SV.le.rfl, trivial⟩
    simp [go_sem]
    refine call_val nil88 rfl rfl ?_
    simp [go_sem]
    refine call_val nil89 rfl rfl ?_
    by_cases h40 : g.nc = 40
    · have h40' : (g.nc : Int) = 40 := by omega
      have e : g.voteE o a b s = 9 := by simp [EG.voteE, hv, o3, hab, ta, tb, hf', hci', h40]
      simp [go_sem, h40', EG.voteV, e]
    have h40' : ¬ (g.nc : Int) = 40 := by omega
    have e : g.voteE o a b s = 0 := by simp [EG.voteE, hv, o3, hab, ta, tb, hf', hci', h40]
    have eG : g.voteG o a b s = g.addC (g.cat (min a b) (max a b)) ⟨min a b, max a b, 1, fun _ => ⟨o, s⟩⟩ := by simp [EG.voteG, hci']
    have eD : g.voteD a b s = false := by simp [EG.voteD, hci']
    simp [go_sem, h40', EG.voteV, e, eG, eD]
    refine call_val (twin25p g (by omega) (by omega) (by omega) fun i hi => by have := h.nv i hi; omega) rfl rfl ?_
    simp [go_sem]
    refine callK_freeze 3 (R := .vec 119 2 1 fun i j => [SV.i o, SV.b s][i * 2 + j]?.getD (.r .any)) (by simp [go_sem]) ?_
    simp [go_sem]
    refine call_val ((withCase91 g h (EG.valid_cos hv) ⟨min a b, max a b, 1, fun _ => ⟨o, s⟩⟩ (show (1 : Nat) ≤ 1000000000 by decide)).args ⟨SV.le.rfl, le_of_sub ?_, trivial⟩) rfl rfl ?_
    · simp [go_sem]
      intro i j hi hj
      subst hi
      rcases (by omega : j = 0 ∨ j = 1) with rfl | rfl <;> rfl
    simp [go_sem]
  rw [EG.co_yes (EG.valid_cos hv) hci]
  generalize hk : g.cat (min a b) (max a b) = k
  have hkc : k < g.nc := by rw [← hk]; exact EG.cin_lt hci
  have hvk := h.nv k hkc
  simp [go_sem, hkc]
  refine call_val (hasVoted88 (g.c k) (by omega) o) rfl rfl ?_
  by_cases ho : (g.c k).has o = true
  · have e : g.voteE o a b s = 80 := by simp [EG.voteE, hv, o3, hab, ta, tb, hf', hci, hk, ho]
    simp [go_sem, ho, EG.voteV, e]
  have ho' : (g.c k).has o = false := by simpa using ho
  simp [go_sem, ho']
  refine call_val (decided89 (g.c k) (by omega) s) rfl rfl ?_
  by_cases hs : (g.c k).says s = true
  rotate_left
  · have hs' : (g.c k).says s = false := by simpa using hs
    have e : g.voteE o a b s = 0 := by simp [EG.voteE, hv, o3, hab, ta, tb, hf', hci, hk, ho', hs']
    have eG : g.voteG o a b s = g.addV k ⟨o, s⟩ := by simp [EG.voteG, hci, hk, hs']
    have eD : g.voteD a b s = false := by simp [EG.voteD, hci, hk, hs']
    have k0 : ¬ (k : Int) < 0 := by omega
    simp [go_sem, hs', k0, EG.voteV, e, eG, eD]
    refine callK_own [] (twin25 g (by omega) (by omega) (by omega) fun i hi => by have := h.nv i hi; omega) (by simp) rfl trivial ?_
    obtain ⟨B, hB⟩ : ∃ B, B = 2 + (g.nc + 1 + 1 + 1) := ⟨_, rfl⟩
    have b0 : ∀ n, n < 5 → ¬ n = B := fun n _ => by omega
    have b1 : ∀ n, n < 5 → ¬ B = n := fun n _ => by omega
    have b2 : ∀ n, n < 5 → n < B := fun n _ => by omega
    have b3 : ¬ B < g.nc + 5 := by omega
    have b6 : ∀ n, n < 5 → ¬ n = B + 1 := fun n _ => by omega
    have b7 : ∀ n, n < 5 → ¬ B + 1 = n := fun n _ => by omega
    have b9 : ∀ n, n ≤ 5 → ¬ k + n = B := fun n _ => by omega
    have b10 : ∀ n, n ≤ 5 → ¬ k + n = B + 1 := fun n _ => by omega
    have b11 : ∀ n, n ≤ 5 → ¬ B = k + n := fun n _ => by omega
    have b12 : ∀ n, n ≤ 5 → ¬ B + 1 = k + n := fun n _ => by omega
    have c1 : ((g.c k).nv + 1) * 16 ≤ 140737488355328 := by omega
    have c2 : (g.c k).nv ≤ 9223372036854775806 := by omega
    simp [go_sem, ← hB, b0, b1, b2, b3, b6, b7]
    refine GDraw_lf (S := [(5, .ptr 0 0 3 0), (10, .ptr 1 0 3 0)]) (l := [some (.box [.sl 2 2 0 g.nr none, .sl 3 3 0 g.nl none, .sl 4 3 0 g.nc none]), some (.box [nilS, nilS, nilS]), some g.vr, some g.vl, some (.vec 93 3 g.nc ((g.addV k ⟨o, s⟩).oc 5))]) (b := 5) (cnt := g.nc) (R := fun i => some ((g.addV k ⟨o, s⟩).ov i)) (n := g.nc + 5)
      (t := (.take 0 (.take 1 (.take 2 (.take 3 (.take 4 (.take 5 (.take 6 (.take 7 (.take 8 (.take 9 (.alt 10 [9, 8, 7, 6, 5, 4, 3, 2, 1, 0] (.alt 11 [8, 7, 6, 5, 4, 3, 2, 1, 0] (.take 12 (.take 13 (.alt 14 [13, 12, 7, 6, 5, 4, 3, 2, 1, 0] (.done [12]) .nil))) .nil) .nil)))))))))))) T_ok (by kernel_rfl) (by kernel_rfl) (by kernel_rfl) (fun _ _ _ _ h => h) rfl ?_ ?_
    · simp [go_sem, hkc, b0, b1, b2, b3, b6, b7, b9, b10, b11, b12, c1, c2]
      refine ⟨fun i j hi hj => ?_, fun i hi => ?_⟩
      · by_cases e1 : i = k
        · subst e1
          rcases (by omega : j = 0 ∨ j = 1 ∨ j = 2) with rfl | rfl | rfl <;> simp [go_sem, EG.addV, CsG.addV, hi]
        · rw [if_neg fun hh => e1 hh.1, EG.oc_kill g (by omega), EG.oc_trim g (by omega)]
          unfold EG.oc
          simp [EG.addV, e1]
      · have d1 : ¬ i + 4 = B := by omega
        have d2 : ¬ i + 5 = B := by omega
        by_cases e1 : i = k
        · subst e1
          simp [go_sem, EG.addV, CsG.addV, hi]
          intro r j hr hj
          unfold joined
          by_cases e2 : r < (g.c i).nv
          · simp [e2, SV.kill, SV.trim]
          · have e3 : r = (g.c i).nv := by omega
            subst e3
            rcases (by omega : j = 0 ∨ j = 1) with rfl | rfl <;> simp [go_sem, SV.kill, SV.trim]
        · simp [go_sem, EG.addV, hi, e1, d1, d2, SV.kill, SV.trim]
    · intro J
      simp [go_sem]
      exact ⟨⟨rfl, fun _ _ _ _ => rfl⟩, ⟨rfl, fun _ _ _ _ => rfl⟩, rfl, fun i j hi hj => (g.addV k ⟨o, s⟩).view_oc (by simp [go_sem, hi]) hj⟩
  simp [go_sem, hs]
  refine call_val (clash90 g h.ok (EG.valid_inl hv) (min a b) (max a b) s bp.1 bp.2.1 bq.1 bq.2.1) rfl rfl ?_
  by_cases hl : g.clash (min a b) (max a b) s = true
  · have e : g.voteE o a b s = 81 := by simp [EG.voteE, hv, o3, hab, ta, tb, hf', hci, hk, ho', hs, hl]
    simp [go_sem, hl, EG.voteV, e]
  have hl' : g.clash (min a b) (max a b) s = false := by simpa using hl
  have e : g.voteE o a b s = 0 := by simp [EG.voteE, hv, o3, hab, ta, tb, hf', hci, hk, ho', hs, hl']
  have eG : g.voteG o a b s = (g.dropC k).addL (g.lat (min a b) (max a b)) ⟨min a b, max a b, s⟩ := by simp [EG.voteG, hci, hk, hs]
  have eD : g.voteD a b s = true := by simp [EG.voteD, hci, hk, hs]
  have k0 : ¬ (k : Int) < 0 := by omega
  simp [go_sem, hl', k0, EG.voteV, e, eG, eD]
  refine call_val (twin25p g (by omega) (by omega) (by omega) fun i hi => by have := h.nv i hi; omega) rfl rfl ?_
  have k2 : k ≤ g.nc := by omega
  have k1 : k + 1 ≤ g.nc := hkc
  have e1 : k * 40 ≤ 140737488355328 := by omega
  have e2 : k ≤ 9223372036854775807 := by omega
  have e3 : (-9223372036854775808 : Int) ≤ (k : Int) + 1 := by omega
  have e4 : (k : Int) + 1 ≤ 9223372036854775807 := by omega
  have e5 : 0 ≤ (k : Int) + 1 := by omega
  have e6 : (k : Int) + 1 ≤ g.nc := by omega
  have e9 : k + (g.nc - (k + 1)) = g.nc - 1 := by omega
  have e7 : (g.nc - 1) * 40 ≤ 140737488355328 := by omega
  have e8 : g.nc - 1 ≤ 9223372036854775807 := by omega
  simp [go_sem, k0]
  refine GDraw_ls (S := [(2, .i (min a b)), (3, .i (max a b)), (4, .b s), (5, .ptr 0 0 3 0), (10, .ptr 1 0 3 0)]) (l := [some (.box [g.rr, g.ll, .sl 3 3 0 (g.nc - 1) none]), some (.box [nilS, nilS, nilS]), none, some (.vec 93 3 (g.nc - 1) fun i j => .r (((g.dropC k).c i).c j))]) (n := 4)
    (t := (.take 1 (.take 2 (.take 3 (.take 4 (.take 6 (.take 7 (.take 8 (.take 9 (.take 10 (.alt 0 [10, 9, 8, 7, 6, 4, 3, 2, 1] (.alt 5 [10, 9, 8, 7, 6, 4, 3, 2, 1] (.alt 11 [10, 9, 8, 7, 6, 3, 2, 1] (.take 12 (.alt 13 [12, 9, 8, 7, 6, 3, 2, 1] (.done []) .nil)) .nil) .nil) .nil))))))))))) T_ok (by kernel_rfl) (by kernel_rfl) (by kernel_rfl) (fun _ _ _ _ h => h) rfl ?_ ?_
  · simp (config := {maxSteps := 30000000}) [go_sem, k1, k2, e1, e2, e3, e4, e5, e6, e9, e7, e8, kill_joined, EG.dropC]
    refine ⟨by omega, fun i j hi hj => ?_⟩
    unfold joinR
    by_cases h1 : i < k
    · simp [h1]
    · have h2 : i < k + (g.nc - (k + 1)) := by omega
      have h3 : k + 1 + (i - k) = i + 1 := by omega
      simp [h1, h2, h3]
  · intro J
    simp [go_sem]
    refine callK_freeze 3 (R := .vec 93 3 (g.nc - 1) fun i j => .r (((g.dropC k).c i).c j)) (by simp [go_sem]) ?_
    simp [go_sem]
    refine call_val (withLink92 (g.dropC k) ⟨h.nr, h.nl, by show g.nc - 1 ≤ 1000; omega, fun i hi => ?_⟩ (show g.lks = true from EG.valid_lks hv) ⟨min a b, max a b, s⟩) rfl rfl ?_
    · have hi' : i < g.nc - 1 := hi
      show (if i < k then g.c i else g.c (i + 1)).nv ≤ 1000
      split
      · exact h.nv i (by omega)
      · exact h.nv (i + 1) (by omega)
    simp [go_sem, show (g.dropC k).lat (min a b) (max a b) = g.lat (min a b) (max a b) from rfl]
end Go.Gx
/-
  The law of Vote and Withdraw, in its four shapes.
-/
set_option linter.unusedVariables false
set_option linter.unusedSimpArgs false
set_option maxRecDepth 20000
set_option maxHeartbeats 8000000
namespace Go.Gx
open Go.RowKit Go.Proofs Go.Proofs.Ytnajladibkpeaaa

theorem law6nn (g : EG) (o a b : Int) (s d : Bool) (e1 e2 : Int) (hg : g.great = false)
    (A1 : Own Try.prog 35 [] [g.sv, .i o, .i a, .i b, .b s] (.tup [nilR, .b d, .i e1]) []) (A2 : Pure Try.prog 36 [g.sv, .i o, .i a, .i b, .b s] (· = .tup [nilR, .b d, .i e1]))
    (R1 : Own Try.prog 37 [] [g.sv, .i a, .i b] (.tup [nilR, .i e2]) []) (R2 : Pure Try.prog 38 [g.sv, .i a, .i b] (· = .tup [nilR, .i e2])) : Pure Try.prog 6 [g.sv, .i o, .i a, .i b, .b s] (· = .b true) := by
  refine pure_of_GC T_ok Try.func6 rfl (by kernel_rfl) (Nat.le_of_ble_eq_true rfl) rfl rfl ?_
  obtain ⟨h, hr, hl, hc, hv⟩ := EG.OK_of hg
  simp [go_sem]
  refine call_val (great12' g) rfl rfl ?_
  simp [go_sem, hg]
  refine call_val (twin25p g (by omega) (by omega) (by omega) fun i hi => by have := hv i hi; omega) rfl rfl ?_
  simp [go_sem]
  refine callK_own [] A1 (by simp) rfl trivial ?_
  simp [go_sem]
  refine call_val A2 rfl rfl ?_
  simp [go_sem]
  refine callK_own [] R1 (by simp) rfl trivial ?_
  simp [go_sem]
  refine call_val R2 rfl rfl ?_
  simp [go_sem]
  refine call_val same33nil rfl rfl ?_
  simp [go_sem]
  refine call_val same33nil rfl rfl ?_
  simp [go_sem]
  refine call_val spoilNil rfl rfl ?_
  simp [go_sem]
  refine call_val spoilNil rfl rfl ?_
  simp [go_sem]
  refine call_val (same33rfl g h) rfl rfl ?_
  simp [go_sem]
theorem law6no (g y : EG) (o a b : Int) (s d : Bool) (e1 e2 : Int) (hg : g.great = false) (hy : y.Sm)
    (A1 : Own Try.prog 35 [] [g.sv, .i o, .i a, .i b, .b s] (.tup [nilR, .b d, .i e1]) []) (A2 : Pure Try.prog 36 [g.sv, .i o, .i a, .i b, .b s] (· = .tup [nilR, .b d, .i e1]))
    (R1 : Own Try.prog 37 [] [g.sv, .i a, .i b] (.tup [y.oS, .i e2]) y.oR) (R2 : Pure Try.prog 38 [g.sv, .i a, .i b] (· = .tup [y.sv, .i e2])) : Pure Try.prog 6 [g.sv, .i o, .i a, .i b, .b s] (· = .b true) := by
  refine pure_of_GC T_ok Try.func6 rfl (by kernel_rfl) (Nat.le_of_ble_eq_true rfl) rfl rfl ?_
  obtain ⟨h, hr, hl, hc, hv⟩ := EG.OK_of hg
  simp [go_sem]
  refine call_val (great12' g) rfl rfl ?_
  simp [go_sem, hg]
  refine call_val (twin25p g (by omega) (by omega) (by omega) fun i hi => by have := hv i hi; omega) rfl rfl ?_
  simp [go_sem]
  refine callK_own [] A1 (by simp) rfl trivial ?_
  simp [go_sem]
  refine call_val A2 rfl rfl ?_
  simp [go_sem]
  refine callK_own [] R1 (by simp) rfl trivial ?_
  simp [go_sem]
  obtain ⟨D, hD⟩ : ∃ D, D = 4 + (y.nc + 1 + 1 + 1) := ⟨_, rfl⟩
  rw [← hD]
  have d0 : ∀ n, n < 7 → ¬ n = D := fun n _ => by omega
  have d1 : ∀ n, n < 7 → ¬ D = n := fun n _ => by omega
  have d2 : ∀ n, n < 7 → n < D := fun n _ => by omega
  have d3 : ∀ n, n < 7 → ¬ n = D + 1 := fun n _ => by omega
  have d4 : ∀ n, n < 7 → ¬ D + 1 = n := fun n _ => by omega
  have d5 : ∀ n, n ≤ 7 → ¬ D < y.nc + n := fun n _ => by omega
  have d6 : ∀ n, n ≤ 7 → ¬ D + 1 < y.nc + n := fun n _ => by omega
  refine call_val R2 rfl rfl ?_
  simp [go_sem, d0, d1, d2, d3, d4, d5, d6]
  refine call_val same33nil rfl rfl ?_
  simp [go_sem, d0, d1, d2, d3, d4, d5, d6]
  refine call_lent (v := .b true) ?_ rfl ?_
  · simp [go_sem, d0, d1, d2, d3, d4, d5, d6]
    refine same33view y hy.ok fun i j hi hj => y.view_oc ?_ hj
    simp only [upd_app, famN_app]
    repeat rw [if_neg (by omega)]
    rw [if_pos (by omega)]
    simp
  simp [go_sem, d0, d1, d2, d3, d4, d5, d6]
  refine call_val spoilNil rfl rfl ?_
  simp [go_sem, d0, d1, d2, d3, d4, d5, d6]
  refine spoilK y hy (p := 4) (by simp [go_sem, d0, d1, d2, d3, d4, d5, d6]) (by simp [go_sem, d0, d1, d2, d3, d4, d5, d6]) (by simp [go_sem, d0, d1, d2, d3, d4, d5, d6]) (fun i hi => ?_) fun M3 hM3 => ?_
  · simp only [upd_app, famN_app]
    repeat rw [if_neg (by omega)]
    rw [if_pos (by omega)]
    simp
  have l0 := hM3 0 (by omega)
  have l1 := hM3 1 (by omega)
  clear hM3
  simp [go_sem, d0, d1, d2, d3, d4, d5, d6] at l0 l1
  simp [go_sem, d0, d1, d2, d3, d4, d5, d6, l0, l1]
  refine call_val (same33rfl g h) rfl rfl ?_
  simp [go_sem]
theorem law6on (g x : EG) (o a b : Int) (s d : Bool) (e1 e2 : Int) (hg : g.great = false) (hx : x.Sm)
    (A1 : Own Try.prog 35 [] [g.sv, .i o, .i a, .i b, .b s] (.tup [x.oS, .b d, .i e1]) x.oR) (A2 : Pure Try.prog 36 [g.sv, .i o, .i a, .i b, .b s] (· = .tup [x.sv, .b d, .i e1]))
    (R1 : Own Try.prog 37 [] [g.sv, .i a, .i b] (.tup [nilR, .i e2]) []) (R2 : Pure Try.prog 38 [g.sv, .i a, .i b] (· = .tup [nilR, .i e2])) : Pure Try.prog 6 [g.sv, .i o, .i a, .i b, .b s] (· = .b true) := by
  refine pure_of_GC T_ok Try.func6 rfl (by kernel_rfl) (Nat.le_of_ble_eq_true rfl) rfl rfl ?_
  obtain ⟨h, hr, hl, hc, hv⟩ := EG.OK_of hg
  simp [go_sem]
  refine call_val (great12' g) rfl rfl ?_
  simp [go_sem, hg]
  refine call_val (twin25p g (by omega) (by omega) (by omega) fun i hi => by have := hv i hi; omega) rfl rfl ?_
  simp [go_sem]
  refine callK_own [] A1 (by simp) rfl trivial ?_
  simp [go_sem]
  obtain ⟨B, hB⟩ : ∃ B, B = 2 + (x.nc + 1 + 1 + 1) := ⟨_, rfl⟩
  rw [← hB]
  have b0 : ∀ n, n < 5 → ¬ n = B := fun n _ => by omega
  have b1 : ∀ n, n < 5 → ¬ B = n := fun n _ => by omega
  have b2 : ∀ n, n < 5 → n < B := fun n _ => by omega
  have b3 : ∀ n, n ≤ 5 → ¬ B < x.nc + n := fun n _ => by omega
  have b4 : ∀ n, n < 5 → ¬ n = B + 1 := fun n _ => by omega
  have b5 : ∀ n, n < 5 → ¬ B + 1 = n := fun n _ => by omega
  have b6 : ∀ n, n < 5 → n < B + 1 := fun n _ => by omega
  have b7 : ∀ n, n ≤ 5 → ¬ B + 1 < x.nc + n := fun n _ => by omega
  refine call_val A2 rfl rfl ?_
  simp [go_sem, b0, b1, b2, b3, b4, b5, b6, b7]
  obtain ⟨C, hC⟩ : ∃ C, C = B + 1 + 1 := ⟨_, rfl⟩
  rw [← hC]
  have c0 : ¬ B = C := by omega
  have c1 : ¬ B = C + 1 := by omega
  have c2 : ¬ B = C + 2 := by omega
  have c3 : ¬ B + 1 = C := by omega
  have c4 : ¬ C = B := by omega
  have c5 : ¬ C = B + 1 := by omega
  have c6 : ¬ C + 1 = B := by omega
  have c7 : ¬ C + 2 = B := by omega
  have c8 : ∀ n, n < 5 → ¬ n = C := fun n _ => by omega
  have c9 : ∀ n, n < 5 → ¬ C = n := fun n _ => by omega
  have c10 : ∀ n, n < 5 → n < C := fun n _ => by omega
  have c11 : ∀ n, n ≤ 5 → ¬ C < x.nc + n := fun n _ => by omega
  have c14 : ∀ n, n < 5 → ¬ C ≤ n := fun n _ => by omega
  have c15 : ¬ C + 3 ≤ B := by omega
  have c16 : ¬ C + 3 ≤ C := by omega
  have c17 : ¬ C + 2 ≤ C := by omega
  have c18 : ¬ C + 1 ≤ C := by omega
  have c19 : ¬ C + 2 ≤ B := by omega
  have c20 : B < C := by omega
  have c21 : B + 1 < C := by omega
  have c22 : ∀ n, n ≤ 5 → ¬ C + 1 < x.nc + n := fun n _ => by omega
  have c23 : ∀ n, n ≤ 5 → ¬ C + 2 < x.nc + n := fun n _ => by omega
  have c24 : ¬ B + 1 = C + 1 := by omega
  have c25 : ¬ B + 1 = C + 2 := by omega
  have c26 : ¬ C + 1 = B + 1 := by omega
  have c27 : ¬ C + 2 = B + 1 := by omega
  have c28 : ¬ C + 3 ≤ B + 1 := by omega
  have c29 : ∀ n, n < 5 → ¬ n = C + 1 := fun n _ => by omega
  have c30 : ∀ n, n < 5 → ¬ C + 1 = n := fun n _ => by omega
  refine callK_own [] R1 (by simp) rfl trivial ?_
  simp [go_sem, b0, b1, b2, b3, b4, b5, b6, b7, c0, c1, c2, c3, c4, c5, c6, c7, c8, c9, c10, c11, c14, c15, c16, c17, c18, c19, c20, c21, c22, c23, c24, c25, c26, c27, c28, c29, c30]
  refine call_val R2 rfl rfl ?_
  simp [go_sem, b0, b1, b2, b3, b4, b5, b6, b7, c0, c1, c2, c3, c4, c5, c6, c7, c8, c9, c10, c11, c14, c15, c16, c17, c18, c19, c20, c21, c22, c23, c24, c25, c26, c27, c28, c29, c30]
  refine call_lent (v := .b true) ?_ rfl ?_
  · simp [go_sem, b0, b1, b2, b3, b4, b5, b6, b7, c0, c1, c2, c3, c4, c5, c6, c7, c8, c9, c10, c11, c14, c15, c16, c17, c18, c19, c20, c21, c22, c23, c24, c25, c26, c27, c28, c29, c30]
    refine same33view x hx.ok fun i j hi hj => x.view_oc ?_ hj
    simp only [upd_app, famN_app]
    repeat rw [if_neg (by omega)]
    rw [if_pos (by omega)]
    simp
  simp [go_sem, b0, b1, b2, b3, b4, b5, b6, b7, c0, c1, c2, c3, c4, c5, c6, c7, c8, c9, c10, c11, c14, c15, c16, c17, c18, c19, c20, c21, c22, c23, c24, c25, c26, c27, c28, c29, c30]
  refine call_val same33nil rfl rfl ?_
  simp [go_sem, b0, b1, b2, b3, b4, b5, b6, b7, c0, c1, c2, c3, c4, c5, c6, c7, c8, c9, c10, c11, c14, c15, c16, c17, c18, c19, c20, c21, c22, c23, c24, c25, c26, c27, c28, c29, c30]
  refine spoilK x hx (p := 2) (by simp [go_sem, b0, b1, b2, b3, b4, b5, b6, b7, c0, c1, c2, c3, c4, c5, c6, c7, c8, c9, c10, c11, c14, c15, c16, c17, c18, c19, c20, c21, c22, c23, c24, c25, c26, c27, c28, c29, c30]) (by simp [go_sem, b0, b1, b2, b3, b4, b5, b6, b7, c0, c1, c2, c3, c4, c5, c6, c7, c8, c9, c10, c11, c14, c15, c16, c17, c18, c19, c20, c21, c22, c23, c24, c25, c26, c27, c28, c29, c30]) (by simp [go_sem, b0, b1, b2, b3, b4, b5, b6, b7, c0, c1, c2, c3, c4, c5, c6, c7, c8, c9, c10, c11, c14, c15, c16, c17, c18, c19, c20, c21, c22, c23, c24, c25, c26, c27, c28, c29, c30]) (fun i hi => ?_) fun M2 hM2 => ?_
  · simp only [upd_app, famN_app]
    repeat rw [if_neg (by omega)]
    rw [if_pos (by omega)]
    simp
  have m0 := hM2 0 (by omega)
  have m1 := hM2 1 (by omega)
  have m5 := hM2 C (by omega)
  clear hM2
  simp [go_sem, b0, b1, b2, b3, b4, b5, b6, b7, c0, c1, c2, c3, c4, c5, c6, c7, c8, c9, c10, c11, c14, c15, c16, c17, c18, c19, c20, c21, c22, c23, c24, c25, c26, c27, c28, c29, c30] at m0 m1 m5
  simp [go_sem, b0, b1, b2, b3, b4, b5, b6, b7, c0, c1, c2, c3, c4, c5, c6, c7, c8, c9, c10, c11, c14, c15, c16, c17, c18, c19, c20, c21, c22, c23, c24, c25, c26, c27, c28, c29, c30, m0, m1, m5]
  refine call_val spoilNil rfl rfl ?_
  simp [go_sem, b0, b1, b2, b3, b4, b5, b6, b7, c0, c1, c2, c3, c4, c5, c6, c7, c8, c9, c10, c11, c14, c15, c16, c17, c18, c19, c20, c21, c22, c23, c24, c25, c26, c27, c28, c29, c30, m0, m1]
  refine call_val (same33rfl g h) rfl rfl ?_
  simp [go_sem]
theorem law6oo (g x y : EG) (o a b : Int) (s d : Bool) (e1 e2 : Int) (hg : g.great = false) (hx : x.Sm) (hy : y.Sm)
    (A1 : Own Try.prog 35 [] [g.sv, .i o, .i a, .i b, .b s] (.tup [x.oS, .b d, .i e1]) x.oR) (A2 : Pure Try.prog 36 [g.sv, .i o, .i a, .i b, .b s] (· = .tup [x.sv, .b d, .i e1]))
    (R1 : Own Try.prog 37 [] [g.sv, .i a, .i b] (.tup [y.oS, .i e2]) y.oR) (R2 : Pure Try.prog 38 [g.sv, .i a, .i b] (· = .tup [y.sv, .i e2])) : Pure Try.prog 6 [g.sv, .i o, .i a, .i b, .b s] (· = .b true) := by
  refine pure_of_GC T_ok Try.func6 rfl (by kernel_rfl) (Nat.le_of_ble_eq_true rfl) rfl rfl ?_
  obtain ⟨h, hr, hl, hc, hv⟩ := EG.OK_of hg
  simp [go_sem]
  refine call_val (great12' g) rfl rfl ?_
  simp [go_sem, hg]
  refine call_val (twin25p g (by omega) (by omega) (by omega) fun i hi => by have := hv i hi; omega) rfl rfl ?_
  simp [go_sem]
  refine callK_own [] A1 (by simp) rfl trivial ?_
  simp [go_sem]
  obtain ⟨B, hB⟩ : ∃ B, B = 2 + (x.nc + 1 + 1 + 1) := ⟨_, rfl⟩
  rw [← hB]
  have b0 : ∀ n, n < 5 → ¬ n = B := fun n _ => by omega
  have b1 : ∀ n, n < 5 → ¬ B = n := fun n _ => by omega
  have b2 : ∀ n, n < 5 → n < B := fun n _ => by omega
  have b3 : ∀ n, n ≤ 5 → ¬ B < x.nc + n := fun n _ => by omega
  have b4 : ∀ n, n < 5 → ¬ n = B + 1 := fun n _ => by omega
  have b5 : ∀ n, n < 5 → ¬ B + 1 = n := fun n _ => by omega
  have b6 : ∀ n, n < 5 → n < B + 1 := fun n _ => by omega
  have b7 : ∀ n, n ≤ 5 → ¬ B + 1 < x.nc + n := fun n _ => by omega
  refine call_val A2 rfl rfl ?_
  simp [go_sem, b0, b1, b2, b3, b4, b5, b6, b7]
  obtain ⟨C, hC⟩ : ∃ C, C = B + 1 + 1 := ⟨_, rfl⟩
  rw [← hC]
  have c0 : ¬ B = C := by omega
  have c1 : ¬ B = C + 1 := by omega
  have c2 : ¬ B = C + 2 := by omega
  have c3 : ¬ B + 1 = C := by omega
  have c4 : ¬ C = B := by omega
  have c5 : ¬ C = B + 1 := by omega
  have c6 : ¬ C + 1 = B := by omega
  have c7 : ¬ C + 2 = B := by omega
  have c8 : ∀ n, n < 5 → ¬ n = C := fun n _ => by omega
  have c9 : ∀ n, n < 5 → ¬ C = n := fun n _ => by omega
  have c10 : ∀ n, n < 5 → n < C := fun n _ => by omega
  have c11 : ∀ n, n ≤ 5 → ¬ C < x.nc + n := fun n _ => by omega
  have c14 : ∀ n, n < 5 → ¬ C ≤ n := fun n _ => by omega
  have c15 : ¬ C + 3 ≤ B := by omega
  have c16 : ¬ C + 3 ≤ C := by omega
  have c17 : ¬ C + 2 ≤ C := by omega
  have c18 : ¬ C + 1 ≤ C := by omega
  have c19 : ¬ C + 2 ≤ B := by omega
  have c20 : B < C := by omega
  have c21 : B + 1 < C := by omega
  have c22 : ∀ n, n ≤ 5 → ¬ C + 1 < x.nc + n := fun n _ => by omega
  have c23 : ∀ n, n ≤ 5 → ¬ C + 2 < x.nc + n := fun n _ => by omega
  have c24 : ¬ B + 1 = C + 1 := by omega
  have c25 : ¬ B + 1 = C + 2 := by omega
  have c26 : ¬ C + 1 = B + 1 := by omega
  have c27 : ¬ C + 2 = B + 1 := by omega
  have c28 : ¬ C + 3 ≤ B + 1 := by omega
  have c29 : ∀ n, n < 5 → ¬ n = C + 1 := fun n _ => by omega
  have c30 : ∀ n, n < 5 → ¬ C + 1 = n := fun n _ => by omega
  refine callK_own [] R1 (by simp) rfl trivial ?_
  simp [go_sem, b0, b1, b2, b3, b4, b5, b6, b7, c0, c1, c2, c3, c4, c5, c6, c7, c8, c9, c10, c11, c14, c15, c16, c17, c18, c19, c20, c21, c22, c23, c24, c25, c26, c27, c28, c29, c30]
  obtain ⟨D, hD⟩ : ∃ D, D = C + (y.nc + 1 + 1 + 1) := ⟨_, rfl⟩
  rw [← hD]
  have d0 : ¬ B = D := by omega
  have d1 : ¬ B = D + 1 := by omega
  have d2 : ¬ B + 1 = D := by omega
  have d3 : ¬ C = D := by omega
  have d4 : ¬ C = D + 1 := by omega
  have d5 : ¬ C + 1 = D := by omega
  have d6 : ¬ C + 2 = D := by omega
  have d7 : ¬ D = B := by omega
  have d8 : ¬ D = B + 1 := by omega
  have d9 : ¬ D = C := by omega
  have d10 : ¬ D = C + 1 := by omega
  have d11 : ¬ D = C + 2 := by omega
  have d12 : ¬ D + 1 = B := by omega
  have d13 : ¬ D + 1 = C := by omega
  have d14 : ∀ n, n < 5 → ¬ n = D := fun n _ => by omega
  have d15 : ∀ n, n < 5 → ¬ D = n := fun n _ => by omega
  have d16 : ∀ n, n < 5 → n < D := fun n _ => by omega
  have d17 : ∀ n, n ≤ 5 → ¬ D < x.nc + n := fun n _ => by omega
  have d19 : ¬ D < y.nc + (C + 3) := by omega
  have d20 : ¬ D < y.nc + C + 3 := by omega
  have d21 : ¬ D + 1 < y.nc + (C + 3) := by omega
  have d22 : ¬ D < y.nc + (C + 2) := by omega
  have d23 : B < D := by omega
  have d24 : B + 1 < D := by omega
  have d25 : C < D := by omega
  have d26 : C + 1 < D := by omega
  have d27 : C + 2 < D := by omega
  have d28 : ¬ D + 1 = B + 1 := by omega
  have d29 : ¬ D + 1 = C + 1 := by omega
  have d30 : ¬ D + 1 = C + 2 := by omega
  have d31 : ¬ B + 1 = D + 1 := by omega
  have d32 : ∀ n, n < 5 → ¬ n = D + 1 := fun n _ => by omega
  have d33 : ∀ n, n < 5 → ¬ D + 1 = n := fun n _ => by omega
  refine call_val R2 rfl rfl ?_
  simp [go_sem, b0, b1, b2, b3, b4, b5, b6, b7, c0, c1, c2, c3, c4, c5, c6, c7, c8, c9, c10, c11, c14, c15, c16, c17, c18, c19, c20, c21, c22, c23, c24, c25, c26, c27, c28, c29, c30, d0, d1, d2, d3, d4, d5, d6, d7, d8, d9, d10, d11, d12, d13, d14, d15, d16, d17, d19, d20, d21, d22, d23, d24, d25, d26, d27, d28, d29, d30, d31, d32, d33]
  refine call_lent (v := .b true) ?_ rfl ?_
  · simp [go_sem, b0, b1, b2, b3, b4, b5, b6, b7, c0, c1, c2, c3, c4, c5, c6, c7, c8, c9, c10, c11, c14, c15, c16, c17, c18, c19, c20, c21, c22, c23, c24, c25, c26, c27, c28, c29, c30, d0, d1, d2, d3, d4, d5, d6, d7, d8, d9, d10, d11, d12, d13, d14, d15, d16, d17, d19, d20, d21, d22, d23, d24, d25, d26, d27, d28, d29, d30, d31, d32, d33]
    refine same33view x hx.ok fun i j hi hj => x.view_oc ?_ hj
    simp only [upd_app, famN_app]
    repeat rw [if_neg (by omega)]
    rw [if_pos (by omega)]
    simp
  simp [go_sem, b0, b1, b2, b3, b4, b5, b6, b7, c0, c1, c2, c3, c4, c5, c6, c7, c8, c9, c10, c11, c14, c15, c16, c17, c18, c19, c20, c21, c22, c23, c24, c25, c26, c27, c28, c29, c30, d0, d1, d2, d3, d4, d5, d6, d7, d8, d9, d10, d11, d12, d13, d14, d15, d16, d17, d19, d20, d21, d22, d23, d24, d25, d26, d27, d28, d29, d30, d31, d32, d33]
  refine call_lent (v := .b true) ?_ rfl ?_
  · simp [go_sem, b0, b1, b2, b3, b4, b5, b6, b7, c0, c1, c2, c3, c4, c5, c6, c7, c8, c9, c10, c11, c14, c15, c16, c17, c18, c19, c20, c21, c22, c23, c24, c25, c26, c27, c28, c29, c30, d0, d1, d2, d3, d4, d5, d6, d7, d8, d9, d10, d11, d12, d13, d14, d15, d16, d17, d19, d20, d21, d22, d23, d24, d25, d26, d27, d28, d29, d30, d31, d32, d33]
    refine same33view y hy.ok fun i j hi hj => y.view_oc ?_ hj
    simp only [upd_app, famN_app]
    repeat rw [if_neg (by omega)]
    rw [if_pos (by omega)]
    simp
  simp [go_sem, b0, b1, b2, b3, b4, b5, b6, b7, c0, c1, c2, c3, c4, c5, c6, c7, c8, c9, c10, c11, c14, c15, c16, c17, c18, c19, c20, c21, c22, c23, c24, c25, c26, c27, c28, c29, c30, d0, d1, d2, d3, d4, d5, d6, d7, d8, d9, d10, d11, d12, d13, d14, d15, d16, d17, d19, d20, d21, d22, d23, d24, d25, d26, d27, d28, d29, d30, d31, d32, d33]
  refine spoilK x hx (p := 2) (by simp [go_sem, b0, b1, b2, b3, b4, b5, b6, b7, c0, c1, c2, c3, c4, c5, c6, c7, c8, c9, c10, c11, c14, c15, c16, c17, c18, c19, c20, c21, c22, c23, c24, c25, c26, c27, c28, c29, c30, d0, d1, d2, d3, d4, d5, d6, d7, d8, d9, d10, d11, d12, d13, d14, d15, d16, d17, d19, d20, d21, d22, d23, d24, d25, d26, d27, d28, d29, d30, d31, d32, d33]) (by simp [go_sem, b0, b1, b2, b3, b4, b5, b6, b7, c0, c1, c2, c3, c4, c5, c6, c7, c8, c9, c10, c11, c14, c15, c16, c17, c18, c19, c20, c21, c22, c23, c24, c25, c26, c27, c28, c29, c30, d0, d1, d2, d3, d4, d5, d6, d7, d8, d9, d10, d11, d12, d13, d14, d15, d16, d17, d19, d20, d21, d22, d23, d24, d25, d26, d27, d28, d29, d30, d31, d32, d33]) (by simp [go_sem, b0, b1, b2, b3, b4, b5, b6, b7, c0, c1, c2, c3, c4, c5, c6, c7, c8, c9, c10, c11, c14, c15, c16, c17, c18, c19, c20, c21, c22, c23, c24, c25, c26, c27, c28, c29, c30, d0, d1, d2, d3, d4, d5, d6, d7, d8, d9, d10, d11, d12, d13, d14, d15, d16, d17, d19, d20, d21, d22, d23, d24, d25, d26, d27, d28, d29, d30, d31, d32, d33]) (fun i hi => ?_) fun M2 hM2 => ?_
  · simp only [upd_app, famN_app]
    repeat rw [if_neg (by omega)]
    rw [if_pos (by omega)]
    simp
  have m0 := hM2 0 (by omega)
  have m1 := hM2 1 (by omega)
  have m5 := hM2 D (by omega)
  have m2 := hM2 C (by omega)
  have m3 := hM2 (C + 1) (by omega)
  have m4 := hM2 (C + 2) (by omega)
  have m6 : ∀ i, i < y.nc → M2 (i + (C + 3)) = some (y.ov i) := fun i hi => by
    rw [hM2 _ (by omega)]
    simp only [upd_app, famN_app]
    repeat rw [if_neg (by omega)]
    rw [if_pos (by omega)]
    simp
  clear hM2
  simp [go_sem, b0, b1, b2, b3, b4, b5, b6, b7, c0, c1, c2, c3, c4, c5, c6, c7, c8, c9, c10, c11, c14, c15, c16, c17, c18, c19, c20, c21, c22, c23, c24, c25, c26, c27, c28, c29, c30, d0, d1, d2, d3, d4, d5, d6, d7, d8, d9, d10, d11, d12, d13, d14, d15, d16, d17, d19, d20, d21, d22, d23, d24, d25, d26, d27, d28, d29, d30, d31, d32, d33] at m0 m1 m5 m2 m3 m4
  simp [go_sem, b0, b1, b2, b3, b4, b5, b6, b7, c0, c1, c2, c3, c4, c5, c6, c7, c8, c9, c10, c11, c14, c15, c16, c17, c18, c19, c20, c21, c22, c23, c24, c25, c26, c27, c28, c29, c30, d0, d1, d2, d3, d4, d5, d6, d7, d8, d9, d10, d11, d12, d13, d14, d15, d16, d17, d19, d20, d21, d22, d23, d24, d25, d26, d27, d28, d29, d30, d31, d32, d33, m0, m1, m5]
  refine spoilK y hy (p := C) m2 m3 m4 m6 fun M3 hM3 => ?_
  have l0 := (hM3 0 (by omega)).trans m0
  have l1 := (hM3 1 (by omega)).trans m1
  clear hM3
  simp [go_sem, b0, b1, b2, b3, b4, b5, b6, b7, c0, c1, c2, c3, c4, c5, c6, c7, c8, c9, c10, c11, c14, c15, c16, c17, c18, c19, c20, c21, c22, c23, c24, c25, c26, c27, c28, c29, c30, d0, d1, d2, d3, d4, d5, d6, d7, d8, d9, d10, d11, d12, d13, d14, d15, d16, d17, d19, d20, d21, d22, d23, d24, d25, d26, d27, d28, d29, d30, d31, d32, d33, l0, l1]
  refine call_val (same33rfl g h) rfl rfl ?_
  simp [go_sem]
end Go.Gx
/-
  The law of Vote and Withdraw.
-/
set_option linter.unusedVariables false
set_option linter.unusedSimpArgs false
set_option maxRecDepth 20000
set_option maxHeartbeats 4000000
namespace Go.Gx
open Go.RowKit Go.Proofs Go.Proofs.Ytnajladibkpeaaa

theorem EG.voteG_Sm {g : EG} (hg : g.great = false) (o a b : Int) (s : Bool) : (g.voteG o a b s).Sm := by
  obtain ⟨h, hr, hl, hc, hv⟩ := EG.OK_of hg
  unfold EG.voteG
  split
  · refine ⟨by show g.nr ≤ _; omega, by show g.nl ≤ _; omega, by show g.nc + 1 ≤ _; omega, fun i hi => ?_⟩
    have hi' : i < g.nc + 1 := hi
    show (if i < g.cat (min a b) (max a b) then g.c i else if i = g.cat (min a b) (max a b) then (⟨min a b, max a b, 1, fun _ => ⟨o, s⟩⟩ : CsG) else g.c (i - 1)).nv ≤ 1000
    have hcl := EG.cat_le g (min a b) (max a b)
    split
    · have := hv i (by omega); omega
    · split
      · show (1 : Nat) ≤ 1000; decide
      · have := hv (i - 1) (by omega); omega
  · split
    · refine ⟨by show g.nr ≤ _; omega, by show g.nl ≤ _; omega, by show g.nc ≤ _; omega, fun i hi => ?_⟩
      have hi' : i < g.nc := hi
      show (if i = g.cat (min a b) (max a b) then (g.c (g.cat (min a b) (max a b))).addV ⟨o, s⟩ else g.c i).nv ≤ 1000
      split
      · rename_i e
        subst e
        have := hv _ hi'
        show (g.c _).nv + 1 ≤ 1000
        omega
      · have := hv i hi'; omega
    · refine ⟨by show g.nr ≤ _; omega, by show g.nl + 1 ≤ _; omega, by show g.nc - 1 ≤ _; omega, fun i hi => ?_⟩
      have hi' : i < g.nc - 1 := hi
      show (if i < g.cat (min a b) (max a b) then g.c i else g.c (i + 1)).nv ≤ 1000
      split
      · have := hv i (by omega); omega
      · have := hv (i + 1) (by omega); omega
theorem EG.dropL_Sm {g : EG} (hm : g.Sm) (k : Nat) : (g.dropL k).Sm := ⟨hm.nr, by show g.nl - 1 ≤ 1000; have := hm.nl; omega, hm.nc, hm.nv⟩
theorem law6 (g : EG) (o a b : Int) (s : Bool) (_ : -9223372036854775808 ≤ o) (_ : o ≤ 9223372036854775807) (_ : -9223372036854775808 ≤ a) (_ : a ≤ 9223372036854775807) (_ : -9223372036854775808 ≤ b) (_ : b ≤ 9223372036854775807) :
    Pure Try.prog 6 [g.sv, .i o, .i a, .i b, .b s] (· = .b true) := by
  by_cases hg : g.great = true
  · refine pure_of_GC T_ok Try.func6 rfl (by kernel_rfl) (Nat.le_of_ble_eq_true rfl) rfl rfl ?_
    simp [go_sem]
    refine call_val (great12' g) rfl rfl ?_
    simp [go_sem, hg]
  have hg : g.great = false := by simpa using hg
  have hm := EG.Sm_of hg
  have h := hm.ok
  have v1 := vote35 hm o a b s
  have v2 := refVote36 hm o a b s
  unfold EG.voteS EG.voteR at v1
  unfold EG.voteV at v2
  have hx := EG.voteG_Sm hg o a b s
  by_cases e : g.voteE o a b s = 0
  · rw [if_pos e, if_pos e] at v1
    rw [if_pos e] at v2
    by_cases hv : g.valid = true
    · by_cases hf : g.lin (min a b) (max a b) = true
      · exact law6oo g _ _ o a b s _ 0 0 hg hx (EG.dropL_Sm hm _) v1 v2 (withdraw37 hm hv hf) (refWithdraw38 hm hv hf)
      · have hf : g.lin (min a b) (max a b) = false := by simpa using hf
        exact law6on g _ o a b s _ 0 6 hg hx v1 v2 (withdraw_no hm hv hf) (refWithdraw_no h hv hf)
    · have hv : g.valid = false := by simpa using hv
      exact law6on g _ o a b s _ 0 8 hg hx v1 v2 (withdraw_bad h hv a b) (refWithdraw_bad h hv a b)
  · rw [if_neg e, if_neg e] at v1
    rw [if_neg e] at v2
    by_cases hv : g.valid = true
    · by_cases hf : g.lin (min a b) (max a b) = true
      · exact law6no g _ o a b s _ _ 0 hg (EG.dropL_Sm hm _) v1 v2 (withdraw37 hm hv hf) (refWithdraw38 hm hv hf)
      · have hf : g.lin (min a b) (max a b) = false := by simpa using hf
        exact law6nn g o a b s _ _ 6 hg v1 v2 (withdraw_no hm hv hf) (refWithdraw_no h hv hf)
    · have hv : g.valid = false := by simpa using hv
      exact law6nn g o a b s _ _ 8 hg v1 v2 (withdraw_bad h hv a b) (refWithdraw_bad h hv a b)
end Go.Gx
