/-
  Contracts: Level, Applies.
-/
import Derived.Test.YtaggojedpkddjaaGreatRk
set_option linter.unusedVariables false
set_option linter.unusedSimpArgs false
set_option maxRecDepth 20000
set_option maxHeartbeats 2000000
namespace Go.Gx.Rg
open Go.RowKit Go.Proofs Go.Proofs.YtaggojedpkddjaaGreat

def RG.lvl (g : RG) (l : List Nat) : Int := l.foldl (fun a i => max a (g.r i).s) 0
theorem RG.lvl_apl (g : RG) (q : QG) : ∀ n, g.lvl (g.apl q n) = g.lev q n
  | 0 => rfl
  | n + 1 => by
    simp only [RG.lev]
    by_cases h : ruleB g q (g.r n) = true
    · rw [if_pos h, RG.apl_yes h, RG.lvl, List.foldl_append]
      show max (g.lvl (g.apl q n)) _ = _
      rw [RG.lvl_apl g q n]
    · rw [if_neg h, RG.apl_no (by simpa using h), RG.lvl_apl g q n]
def RG.levq (g : RG) (q : QG) : Int := if ask g q = 0 then g.lev q g.nr else 0
theorem RG.lvl_apq (g : RG) (q : QG) : g.lvl (g.apq q) = g.levq q := by
  unfold RG.apq RG.levq
  split
  · exact RG.lvl_apl g q _
  · rfl
theorem RG.apq_lt {g : RG} {q : QG} {i : Nat} (h : i ∈ g.apq q) : i < g.nr := by
  unfold RG.apq at h
  split at h
  · simp [RG.apl] at h; exact h.1
  · simp at h
theorem RG.apq_len (g : RG) (q : QG) : (g.apq q).length ≤ g.nr := by
  unfold RG.apq
  split
  · exact RG.apl_len g q _
  · simp
theorem level29 (g : RG) (q : QG) (h : g.OK) (hq : q.OK) : Pure Tryz.prog 19 [g.sv, q.sv] (· = .tup [.i (g.levq q), .i (ask g q)]) := by
  refine pure_of_GC T_ok Tryz.func19 rfl (by kernel_rfl) (Nat.le_of_ble_eq_true rfl) rfl rfl ?_
  have hr := h.nr
  have hlen := RG.apq_len g q
  simp [go_sem]
  refine call_val (applies81 g q h hq) rfl rfl ?_
  rw [← RG.lvl_apq]
  have hlt := fun i => @RG.apq_lt g q i
  generalize hL : g.apq q = L at *
  simp [go_sem]
  refine GLoop_of T_ok (α := Nat) (fun k => [(2, .ptr 0 0 4 0), (7, .i (ask g q)), (8, .i (g.lvl (L.take k))), (17, natS L), (18, .i L.length), (19, .i k)]) (fun _ => g.box) 1 (fun k => k ≤ L.length) (fun k => L.length - k) 0 (fun _ => rfl) (by simp) (by simp [go_sem]; rfl) (by simp [go_sem]) ?_
  intro k J hi
  simp [go_sem]
  split
  · rename_i hk
    have hm := hlt _ (List.getElem_mem hk)
    have hg : rowsL natRow L k 0 = .i (L[k] : Nat) := rowsL_get (List.getElem?_eq_getElem hk) 0
    simp [go_sem, hg]
    refine ⟨hk, hm, by omega, k + 1, by omega, by omega, ?_, by simp⟩
    rw [List.take_succ_eq_append_getElem hk, RG.lvl, RG.lvl, List.foldl_append]
    rfl
  · rename_i hk
    rw [List.take_of_length_le (by omega)]

theorem applies31 (g : RG) (q : QG) (h : g.OK) (hq : q.OK) : Pure Tryz.prog 8 [g.sv, q.sv] (· = .tup [natS (g.apq q), .i (ask g q)]) := by
  refine pure_of_GC T_ok Tryz.func8 rfl (by kernel_rfl) (Nat.le_of_ble_eq_true rfl) rfl rfl ?_
  simp [go_sem]
  refine call_val (applies81 g q h hq) rfl rfl ?_
  simp [go_sem]

end Go.Gx.Rg
