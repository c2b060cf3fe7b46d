/-
  Law: RightsLevels.
-/
import Derived.Test.YtaggojedpkddjaaRq
set_option linter.unusedVariables false
set_option linter.unusedSimpArgs false
set_option maxRecDepth 20000
set_option maxHeartbeats 2000000
namespace Go.Gx
open Go.RowKit Go.Proofs Go.Proofs.Ytaggojedpkddjaa

theorem apq_inc (g : RG) (q : QG) : (g.apq q).Pairwise (· < ·) := by
  unfold RG.apq RG.apl
  split
  · exact List.Pairwise.filter _ List.pairwise_lt_range
  · exact List.Pairwise.nil
theorem law7 (g : RG) (q : QG) (hb : g.By) : Pure Try.prog 7 [g.sv, q.sv] (· = .b true) := by
  refine pure_of_GC T_ok Try.func7 rfl (by kernel_rfl) (Nat.le_of_ble_eq_true rfl) rfl rfl ?_
  simp [go_sem]
  refine call_val alive24 rfl rfl ?_
  simp [go_sem]
  refine call_val (great16 g) rfl rfl ?_
  generalize hg : g.great = a
  cases a
  rotate_left
  · simp [go_sem]
  have h := OK_of hb hg
  simp [go_sem]
  refine call_val (long25 q) rfl rfl ?_
  by_cases hl : 20 < (q.nk : Int)
  · simp [go_sem, hl]
  have hq : q.OK := by unfold QG.OK; omega
  simp [go_sem, hl]
  refine call_val (level29 g q h hq) rfl rfl ?_
  simp [go_sem]
  refine call_val (applies31 g q h hq) rfl rfl ?_
  simp [go_sem]
  refine call_val (answer26 g q h hq) rfl rfl ?_
  by_cases ha : ask g q = 0
  rotate_left
  · have he : g.aerr q = ask g q := by simp [RG.aerr, ha]
    have hp : g.apq q = [] := by simp [RG.apq, ha]
    simp [go_sem, ha, he, hp]
  have hlen := RG.apq_len g q
  have hsm := (RG.small (ask_valid ha).1).1
  have hlt := fun i => @RG.apq_lt g q i
  have hinc := apq_inc g q
  have hlv := RG.lvl_apq g q
  have hae : g.aerr q = if g.levq q = 0 then 90 else 0 := by simp [RG.aerr, ha, RG.levq]
  have haL : g.levq q ≠ 0 → g.aL q = g.levq q := fun h0 => by
    have : g.aerr q = 0 := by rw [hae, if_neg h0]
    simp [RG.aL, this, RG.levq, ha]
  generalize hLL : g.apq q = L at *
  simp [go_sem, ha]
  refine GLoop_of T_ok (α := Nat) (fun k => [(2, .ptr 0 0 4 0), (5, .b true), (6, .i (g.levq q)), (8, natS L), (9, .i 0), (10, .ptr 2 0 4 0), (11, .i (g.aerr q)), (12, .i (g.lvl (L.take k))), (63, natS L), (64, .i L.length), (65, .i k)])
    (fun _ => g.box ++ [q.bx, some (.box [.i (g.aL q), .b (g.aO q), .i (g.aS q), .i (g.aN q)])]) 3 (fun k => k ≤ L.length) (fun k => L.length - k) 0 (fun _ => rfl) (by simp) (by simp [go_sem]; rfl) (by simp [go_sem]) ?_
  intro k J hi
  simp [go_sem]
  split
  · rename_i hk
    have hm := hlt _ (List.getElem_mem hk)
    have hg0 : rowsL natRow L k 0 = .i (L[k] : Nat) := rowsL_get (List.getElem?_eq_getElem hk) 0
    have hn0 : ¬ ((L[k] : Nat) : Int) < 0 := by omega
    have hn1 : ¬ (g.nr : Int) ≤ ((L[k] : Nat) : Int) := by omega
    have hlv1 : g.lvl (L.take (k + 1)) = max (g.lvl (L.take k)) (g.r L[k]).s := by
      rw [List.take_succ_eq_append_getElem hk, RG.lvl, RG.lvl, List.foldl_append]
      rfl
    rcases Nat.eq_zero_or_pos k with h0 | h0
    · subst h0
      simp [go_sem, hg0, hn0, hn1]
      refine ⟨hk, by omega, ?_⟩
      exact ⟨1, by omega, by omega, by simpa using hlv1.symm, rfl⟩
    · have hpos : 0 < (k : Int) := by omega
      have hk1 : k - 1 < L.length := by omega
      have hg1 : rowsL natRow L (k - 1) 0 = .i (L[k - 1] : Nat) := rowsL_get (List.getElem?_eq_getElem hk1) 0
      have h0' : 0 < k := h0
      have hpw : L[k - 1] < L[k] := List.pairwise_iff_getElem.1 hinc (k - 1) k hk1 hk (by omega)
      have hn2 : ¬ ((L[k] : Nat) : Int) ≤ ((L[k - 1] : Nat) : Int) := by omega
      simp [go_sem, hg0, hg1, hn0, hn1, h0', hn2]
      exact ⟨hk, by omega, by omega, by omega, by omega, by omega, k + 1, by omega, by omega, hlv1.symm, rfl⟩
  · rename_i hk
    rw [List.take_of_length_le (by omega), hlv]
    by_cases h0 : g.levq q = 0
    · simp [go_sem, hae, h0]
    · simp [go_sem, hae, h0, haL h0]
end Go.Gx
