/-
  The law of the partition.
-/
import Derived.Test.YtnajladibkpeaaaHh
import Derived.Test.YtnajladibkpeaaaW5
set_option linter.unusedVariables false
set_option linter.unusedSimpArgs false
set_option maxRecDepth 20000
set_option maxHeartbeats 4000000
namespace Go.Gx
open Go.RowKit Go.Proofs Go.Proofs.Ytnajladibkpeaaa

def EG.sN (g : EG) (i : Nat) : Nat := sumL (fun p => (g.cl p g.nr).length) ((g.rts g.nr).take i)
theorem EG.sN_succ (g : EG) {i : Nat} (hi : i < (g.rts g.nr).length) : g.sN (i + 1) = g.sN i + (g.row i).length := by
  unfold EG.sN EG.row
  rw [List.take_add_one, List.getElem?_eq_getElem hi, sumL_app, nth_get hi]
  rfl
theorem EG.sN_all {g : EG} (hl : g.lth) : g.sN (g.rts g.nr).length = g.cnt g.nr := by
  unfold EG.sN
  rw [List.take_length]
  exact EG.cl_sum hl g.nr (Nat.le_refl _)
theorem EG.sN_le (g : EG) : ∀ i, i ≤ (g.rts g.nr).length → g.sN i ≤ i * g.nr
  | 0, _ => by simp [EG.sN, sumL_nil]
  | i + 1, h => by
    have := EG.sN_le g i (by omega)
    rw [g.sN_succ (by omega), Nat.succ_mul]
    have h2 := g.cl_len (nth (g.rts g.nr) i : Nat) g.nr
    unfold EG.row
    omega
theorem EG.cnt_le (g : EG) (k : Nat) : g.cnt k ≤ k := by
  have := List.length_filter_le (fun b : Nat => !(g.r b).g) (List.range k)
  rwa [List.length_range] at this
theorem EG.cnt_mono {g : EG} {j : Nat} : ∀ {k}, j ≤ k → g.cnt j ≤ g.cnt k
  | 0, h => by have : j = 0 := by omega
               subst this; exact Nat.le_refl _
  | k + 1, h => by
    by_cases e : j = k + 1
    · subst e; exact Nat.le_refl _
    · have := EG.cnt_mono (g := g) (j := j) (k := k) (by omega)
      rw [EG.cnt_succ]; omega
theorem law9 (g : EG) : Pure Try.prog 9 [g.sv] (· = .b true) := by
  refine pure_of_GC T_ok Try.func9 rfl (by kernel_rfl) (Nat.le_of_ble_eq_true rfl) rfl rfl ?_
  simp [go_sem]
  refine call_val alive46 rfl rfl ?_
  simp [go_sem]
  refine call_val (great12' g) rfl rfl ?_
  cases hg : g.great
  rotate_left
  · simp [go_sem]
  have hb := EG.Bd.of_great hg
  have hok := (hb.sm (by decide)).ok
  have hnl := hb.nl
  have hnr := hb.nr
  simp [go_sem]
  have hp := people17 g hok
  unfold EG.ppS EG.ppE at hp
  cases hv : g.valid
  · simp [hv] at hp
    refine call_val hp rfl rfl ?_
    simp [go_sem]
  simp [hv] at hp
  have hth := EG.valid_lth hv
  have hlen : (g.ppl g.nr).length = (g.rts g.nr).length := by rw [EG.ppl_rts hth (EG.valid_inl hv), List.length_map]
  have hrows := fun i hi => EG.row_llR (g := g) hv (i := i) hi
  have hN := g.rts_len g.nr
  have hall := EG.sN_all hth
  generalize hL : g.ppl g.nr = L at *
  generalize hn : (g.rts g.nr).length = n at *
  refine call_val hp rfl rfl ?_
  simp [go_sem]
  refine GLoop_s T_ok (α := Nat) (fun i => [(1, .ptr 0 0 3 0), (3, .b true), (4, llS L), (6, .i (g.sN i)), (38, llS L), (39, .i n), (40, .i i)]) (fun _ => [g.bx]) 1
    (fun i => i ≤ n) (fun i => n - i) 0 (fun _ => rfl) (by simp) (by simp [go_sem, hlen, EG.sN, sumL_nil]) (by simp [go_sem]) ?_
  intro i J hi
  by_cases hlt : i < n
  rotate_left
  · have e : i = n := by omega
    subst e
    simp [go_sem, hall]
    refine GLoop_s T_ok (α := Nat) (fun j => [(1, .ptr 0 0 3 0), (3, .b true), (6, .i ((g.cnt g.nr : Int) - g.cnt j)), (152, g.rr), (153, .i g.nr), (154, .i j)]) (fun _ => [g.bx]) 1
      (fun j => j ≤ g.nr) (fun j => g.nr - j) 0 (fun _ => rfl) (by simp) (by simp [go_sem, EG.cnt]) (by simp [go_sem]) ?_
    intro j J hj
    by_cases hlt2 : j < g.nr
    rotate_left
    · have e : j = g.nr := by omega
      subst e
      simp [go_sem]
    have hcs := g.cnt_succ j
    have hc1 := g.cnt_le j
    have hc2 := g.cnt_le g.nr
    simp [go_sem, hlt2]
    cases hgo : (g.r j).g
    · rw [hgo] at hcs
      have hcs : g.cnt (j + 1) = g.cnt j + 1 := hcs
      simp [go_sem]
      exact ⟨by omega, by omega, j + 1, by omega, by omega, by omega, by omega⟩
    · rw [hgo] at hcs
      have hcs : g.cnt (j + 1) = g.cnt j := hcs
      simp [go_sem]
      exact ⟨by omega, j + 1, by omega, by omega, by omega, by omega⟩
  obtain ⟨hrow, hi2⟩ := hrows i (by omega)
  obtain ⟨f1, f2, f3⟩ := EG.row_ok hv (by omega : i < (g.rts g.nr).length)
  have hsn := g.sN_succ (i := i) (by omega)
  have hsl := g.sN_le i (by omega)
  have hrowA : lnR (L.getD i []) = .rs 1 (g.row i).length (intsR (g.row i)) := hrow
  have hrowB : lnR (L[i]?.getD []) = .rs 1 (g.row i).length (intsR (g.row i)) := by rw [← hrowA]; simp
  simp [go_sem, hlt, hlen, hrowA, hrowB]
  refine GDraw_cut [(1, .ptr 0 0 3 0), (3, .b true), (4, llS L), (6, .i (g.sN i)), (7, .i i), (8, .r (.rs 1 (g.row i).length (intsR (g.row i)))), (38, llS L), (39, .i n), (40, .i i), (64, .b false)] (fun M nx => M = memL [g.bx] ∧ nx = 1) ?_ ?_
  · refine GDraw_all T_ok (by kernel_rfl) (by kernel_rfl) ?_
    have r0 : ¬ (g.row i).length = 0 := by omega
    by_cases i0 : i = 0
    · subst i0
      simp [go_sem, r0]
    · have i1 : 0 < i := by omega
      obtain ⟨hr2, _⟩ := hrows (i - 1) (by omega)
      obtain ⟨q1, q2, _⟩ := EG.row_ok hv (by omega : i - 1 < (g.rts g.nr).length)
      have hrA : lnR (L.getD (i - 1) []) = .rs 1 (g.row (i - 1)).length (intsR (g.row (i - 1))) := hr2
      have hrB : lnR (L[i - 1]?.getD []) = .rs 1 (g.row (i - 1)).length (intsR (g.row (i - 1))) := by rw [← hrA]; simp
      have hlt3 : nth (g.rts g.nr) (i - 1) < nth (g.rts g.nr) i := filter_lt (by omega) (by have := hn; unfold EG.rts at this; omega)
      have it : ((i : Int) - 1).toNat = i - 1 := by omega
      simp [go_sem, r0, i1, it, hlen, hrA, hrB]
      exact ⟨f1, by omega, by omega, by omega, q1, by omega⟩
  rintro J M nx ⟨rfl, rfl⟩
  simp [go_sem]
  have hrl := g.cl_len (nth (g.rts g.nr) i : Nat) g.nr
  have hrl : (g.row i).length ≤ g.nr := hrl
  have hmul : i * g.nr ≤ 60 * 60 := Nat.mul_le_mul (by omega) hnr
  refine GLoop_s T_ok (α := Nat) (fun k => [(1, .ptr 0 0 3 0), (3, .b true), (4, llS L), (6, .i ((g.sN i : Int) + k)), (8, .r (.rs 1 (g.row i).length (intsR (g.row i)))), (38, llS L), (39, .i n), (40, .i i), (65, .r (.rs 1 (g.row i).length (intsR (g.row i)))), (66, .i (g.row i).length), (67, .i k)]) (fun _ => [g.bx]) 1
    (fun k => k ≤ (g.row i).length) (fun k => (g.row i).length - k) 0 (fun _ => rfl) (by simp) (by simp [go_sem]) (by simp [go_sem]) ?_
  intro k J hk
  by_cases hlt3 : k < (g.row i).length
  rotate_left
  · have e : k = (g.row i).length := by omega
    subst e
    simp [go_sem]
    exact ⟨by omega, i + 1, by omega, by omega, by omega, by omega⟩
  obtain ⟨a1, a2, a3⟩ := f3 k hlt3
  have hlt4 : 0 < k → nth (g.row i) (k - 1) < nth (g.row i) k := fun h0 => filter_lt (by omega) hlt3
  have hx0 : intsR (g.row i) k 0 = .i (nth (g.row i) k : Nat) := rfl
  have hxk : intsR (g.row i) (k - 1) 0 = .i (nth (g.row i) (k - 1) : Nat) := rfl
  have hf0 : intsR (g.row i) 0 0 = .i (nth (g.rts g.nr) i : Nat) := by show RV.i (nth (g.row i) 0 : Nat) = _; rw [f2]
  have hpe := person13 g hok (nth (g.row i) k : Nat)
  have hbe := best15 g hok (nth (g.row i) k : Nat)
  have eE : g.pE (nth (g.row i) k : Nat) = 0 := by unfold EG.pE; rw [if_pos hv, if_pos a2]
  rw [eE, if_pos rfl, a3] at hpe
  rw [eE, if_pos rfl] at hbe
  have hbd := EG.bp_bd hth (a := (nth (g.row i) k : Nat)) (by omega) (by omega) g.nr (Nat.le_refl _)
  have hbq := EG.bp_q (g := g) (a := nth (g.row i) k) (EG.th_iff.1 a2).2.2 g.nr a1
  generalize nth (g.row i) k = x at *
  generalize nth (g.row i) (k - 1) = y at *
  generalize nth (g.rts g.nr) i = z at *
  generalize g.bp (x : Nat) g.nr = b at *
  simp [go_sem, hlt3, hx0]
  refine call_val hpe rfl rfl ?_
  simp [go_sem]
  refine call_val hbe rfl rfl ?_
  simp [go_sem]
  refine GDraw_cut [(1, .ptr 0 0 3 0), (3, .b true), (4, llS L), (6, .i ((g.sN i : Int) + k)), (8, .r (.rs 1 (g.row i).length (intsR (g.row i)))), (38, llS L), (39, .i n), (40, .i i), (65, .r (.rs 1 (g.row i).length (intsR (g.row i)))), (66, .i (g.row i).length), (67, .i k), (146, .b false)] (fun M nx => M = memL [g.bx] ∧ nx = 1) ?_ ?_
  · refine GDraw_all T_ok (by kernel_rfl) (by kernel_rfl) ?_
    have c1 : ¬ ((x : Int) < 0) := by omega
    have c2 : ¬ ((g.nr : Int) ≤ x) := by omega
    have c3 : ¬ (b < 0) := by omega
    have c4 : ¬ ((g.nr : Int) ≤ b) := by omega
    have c5 : ¬ ((g.r b.toNat).q < (g.r x).q) := by omega
    by_cases k0 : k = 0
    · subst k0
      simp [go_sem, hf0, c1, c2, c3, c4, c5]
      exact ⟨f1, hbd, by omega, a1⟩
    · have k1 : 0 < k := by omega
      have it : ((k : Int) - 1).toNat = k - 1 := by omega
      have hyx : ¬ (x : Int) ≤ y := by have := hlt4 k1; omega
      simp [go_sem, hf0, hxk, k1, it, hyx, c1, c2, c3, c4, c5]
      exact ⟨f1, by omega, by omega, by omega, hbd, by omega, a1⟩
  rintro J M nx ⟨rfl, rfl⟩
  simp [go_sem]
  exact ⟨by omega, by omega, k + 1, by omega, by omega, by omega, by omega⟩
end Go.Gx
