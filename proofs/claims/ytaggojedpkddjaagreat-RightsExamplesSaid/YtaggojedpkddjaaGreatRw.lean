/-
  rights.Prune and rights.Forget.
-/
import Derived.Test.YtaggojedpkddjaaGreatRv
set_option linter.unusedVariables false
set_option linter.unusedSimpArgs false
set_option maxRecDepth 20000
set_option maxHeartbeats 2000000
namespace Go.Gx.Rg
open Go.RowKit Go.Proofs Go.Proofs.YtaggojedpkddjaaGreat

def gcell (n : Int) : RV := .rp 1 1 (gbox [.i n]) 0 0
theorem cl51 (x : RuleG) (t : Int) : Pure Tryz.prog 35 [x.sv, .r (gcell t)] (· = .b (decide (x.t ≤ t))) := by
  refine pure_of_GC T_ok Tryz.func35 rfl (by kernel_rfl) (Nat.le_of_ble_eq_true rfl) rfl rfl ?_
  simp [go_sem, gcell, gbox]
theorem cl53 (x : ConG) (t : Int) : Pure Tryz.prog 37 [x.sv, .r (gcell t)] (· = .b (decide (x.u ≤ t))) := by
  refine pure_of_GC T_ok Tryz.func37 rfl (by kernel_rfl) (Nat.le_of_ble_eq_true rfl) rfl rfl ?_
  simp [go_sem, gcell, gbox]
theorem cl55 (x : WarG) (t : Int) : Pure Tryz.prog 39 [x.sv, .r (gcell t)] (· = .b (decide (x.t ≤ t))) := by
  refine pure_of_GC T_ok Tryz.func39 rfl (by kernel_rfl) (Nat.le_of_ble_eq_true rfl) rfl rfl ?_
  simp [go_sem, gcell, gbox]
theorem cl57 (x : MarkG) (t : Int) : Pure Tryz.prog 41 [x.sv, .r (gcell t)] (· = .b (decide (x.u ≤ t))) := by
  refine pure_of_GC T_ok Tryz.func41 rfl (by kernel_rfl) (Nat.le_of_ble_eq_true rfl) rfl rfl ?_
  simp [go_sem, gcell, gbox]
theorem cl61 (x : ConG) (t : Int) : Pure Tryz.prog 43 [x.sv, .r (gcell t)] (· = .b (decide (x.p = t))) := by
  refine pure_of_GC T_ok Tryz.func43 rfl (by kernel_rfl) (Nat.le_of_ble_eq_true rfl) rfl rfl ?_
  simp [go_sem, gcell, gbox]
theorem cl62 (x : WarG) (t : Int) : Pure Tryz.prog 44 [x.sv, .r (gcell t)] (· = .b (decide (x.p = t))) := by
  refine pure_of_GC T_ok Tryz.func44 rfl (by kernel_rfl) (Nat.le_of_ble_eq_true rfl) rfl rfl ?_
  simp [go_sem, gcell, gbox]
theorem cl63 (x : MarkG) (t : Int) : Pure Tryz.prog 45 [x.sv, .r (gcell t)] (· = .b (decide (x.p = t))) := by
  refine pure_of_GC T_ok Tryz.func45 rfl (by kernel_rfl) (Nat.le_of_ble_eq_true rfl) rfl rfl ?_
  simp [go_sem, gcell, gbox]

/-- Some of the entries. -/
def RG.sel (g : RG) (a b c d : List Nat) : RG := ⟨a.length, fun i => g.r (a.getD i 0), b.length, fun i => g.c (b.getD i 0), c.length, fun i => g.w (c.getD i 0), d.length, fun i => g.m (d.getD i 0)⟩
def RG.nil : RG := ⟨0, fun _ => ⟨0, 0, 0, 0, 0, 0, 0, 0⟩, 0, fun _ => ⟨0, 0, 0⟩, 0, fun _ => ⟨0, 0, 0, 0⟩, 0, fun _ => ⟨0, 0, 0, 0, 0⟩⟩
def RG.prune (g : RG) (t : Int) : RG := g.sel (kept (fun i => decide ((g.r i).t ≤ t)) g.nr) (kept (fun i => decide ((g.c i).u ≤ t)) g.nc) (kept (fun i => decide ((g.w i).t ≤ t)) g.nw) (kept (fun i => decide ((g.m i).u ≤ t)) g.nm)
def RG.forget (g : RG) (t : Int) : RG := { g.sel [] (kept (fun i => decide ((g.c i).p = t)) g.nc) (kept (fun i => decide ((g.w i).p = t)) g.nw) (kept (fun i => decide ((g.m i).p = t)) g.nm) with nr := g.nr, r := g.r }
def RG.prE (g : RG) (t : Int) : Int := if g.valid then (if timeB t then 0 else 2) else 8
def RG.foE (g : RG) (t : Int) : Int := if g.valid then (if persB t then 0 else 2) else 8
theorem RG.lim {g : RG} (h : g.valid = true) : g.nr ≤ 20 ∧ g.nc ≤ 40 ∧ g.nw ≤ 20 ∧ g.nm ≤ 40 := by
  simp only [RG.valid, RG.c1, RG.c2, RG.c3, RG.c4, Bool.and_eq_true, decide_eq_true_eq] at h
  omega
theorem sel_row {α : Type} {f : α → Nat → RV} {x : Nat → α} {l : List Nat} {i j : Nat} (hi : i < l.length) : rowsL (fun i j => f (x i) j) l i j = f (x (l.getD i 0)) j := by
  rw [rowsL_get (List.getElem?_eq_getElem hi), List.getD_eq_getElem?_getD, List.getElem?_eq_getElem hi]; rfl

theorem lt8 {j : Nat} (h : j < 8) : j = 0 ∨ j = 1 ∨ j = 2 ∨ j = 3 ∨ j = 4 ∨ j = 5 ∨ j = 6 ∨ j = 7 := by omega
theorem one_r {n : Nat} (x : Nat → RuleG) : ∀ i j, i < n → j < 8 → (SV.r ((x i).c j)).one = true := fun i j _ hj => by
  rcases lt8 hj with rfl | rfl | rfl | rfl | rfl | rfl | rfl | rfl <;> rfl
theorem one_c {n : Nat} (x : Nat → ConG) : ∀ i j, i < n → j < 3 → (SV.r ((x i).c j)).one = true := fun i j _ hj => by
  have : j = 0 ∨ j = 1 ∨ j = 2 := by omega
  rcases this with rfl | rfl | rfl <;> rfl
theorem one_w {n : Nat} (x : Nat → WarG) : ∀ i j, i < n → j < 4 → (SV.r ((x i).c j)).one = true := fun i j _ hj => by
  have : j = 0 ∨ j = 1 ∨ j = 2 ∨ j = 3 := by omega
  rcases this with rfl | rfl | rfl | rfl <;> rfl
theorem one_m {n : Nat} (x : Nat → MarkG) : ∀ i j, i < n → j < 5 → (SV.r ((x i).c j)).one = true := fun i j _ hj => by
  have : j = 0 ∨ j = 1 ∨ j = 2 ∨ j = 3 ∨ j = 4 := by omega
  rcases this with rfl | rfl | rfl | rfl | rfl <;> rfl

theorem prune18 (g : RG) (t : Int) (h : g.OK) : Pure Tryz.prog 13 [g.sv, .i t] (· = .tup [(if g.prE t = 0 then g.prune t else RG.nil).sv, .i (g.prE t)]) := by
  refine Pure.ofSub ?_
  refine pure_of_GC T_ok Tryz.func13 rfl (by kernel_rfl) (Nat.le_of_ble_eq_true rfl) rfl rfl ?_
  simp [go_sem]
  refine call_val (check28 g h) rfl rfl ?_
  by_cases hv : g.valid = true
  rotate_left
  · have ha : g.prE t = 8 := by unfold RG.prE; rw [if_neg hv]
    simp [go_sem, hv, ha, RG.nil]
  have hl := RG.lim hv
  simp [go_sem, hv]
  refine call_lent (v := .b (timeB t)) (by simp [go_sem]; exact times1 rfl) rfl ?_
  by_cases ht : timeB t = true
  rotate_left
  · have ha : g.prE t = 2 := by unfold RG.prE; rw [if_pos hv, if_neg ht]
    simp [go_sem, ht, ha, RG.nil]
  have ha : g.prE t = 0 := by unfold RG.prE; rw [if_pos hv, if_pos ht]
  simp [go_sem, ht, ha]
  refine callK_own [] (copied49 g (by omega) (by omega) (by omega) (by omega)) (by simp) rfl trivial ?_
  simp [go_sem]
  refine callK_freeze 1 (R := .box [.i t]) rfl ?_
  simp [go_sem]
  refine callK_own [4] (delf50 g.nr (by omega) (fun i j => (g.r i).c j) (35 : FuncId) (gcell t) (fun i => decide ((g.r i).t ≤ t)) (one_r g.r) (fun i _ => cl51 (g.r i) t)) (by simp) rfl ⟨rfl, trivial⟩ ?_
  simp [go_sem]
  refine callK_own [5] (delf52 g.nc (by omega) (fun i j => (g.c i).c j) (37 : FuncId) (gcell t) (fun i => decide ((g.c i).u ≤ t)) (one_c g.c) (fun i _ => cl53 (g.c i) t)) (by simp) rfl ⟨rfl, trivial⟩ ?_
  simp [go_sem]
  refine callK_own [6] (delf54 g.nw (by omega) (fun i j => (g.w i).c j) (39 : FuncId) (gcell t) (fun i => decide ((g.w i).t ≤ t)) (one_w g.w) (fun i _ => cl55 (g.w i) t)) (by simp) rfl ⟨rfl, trivial⟩ ?_
  simp [go_sem]
  refine callK_own [7] (delf56 g.nm (by omega) (fun i j => (g.m i).c j) (41 : FuncId) (gcell t) (fun i => decide ((g.m i).u ≤ t)) (one_m g.m) (fun i _ => cl57 (g.m i) t)) (by simp) rfl ⟨rfl, trivial⟩ ?_
  simp [go_sem]
  exact ⟨⟨rfl, fun i j hi _ => sel_row (f := RuleG.c) hi⟩, ⟨rfl, fun i j hi _ => sel_row (f := ConG.c) hi⟩, ⟨rfl, fun i j hi _ => sel_row (f := WarG.c) hi⟩, rfl, fun i j hi _ => sel_row (f := MarkG.c) hi⟩

theorem forget20 (g : RG) (t : Int) (h : g.OK) : Pure Tryz.prog 14 [g.sv, .i t] (· = .tup [(if g.foE t = 0 then g.forget t else RG.nil).sv, .i (g.foE t)]) := by
  refine Pure.ofSub ?_
  refine pure_of_GC T_ok Tryz.func14 rfl (by kernel_rfl) (Nat.le_of_ble_eq_true rfl) rfl rfl ?_
  simp [go_sem]
  refine call_val (check28 g h) rfl rfl ?_
  by_cases hv : g.valid = true
  rotate_left
  · have ha : g.foE t = 8 := by unfold RG.foE; rw [if_neg hv]
    simp [go_sem, hv, ha, RG.nil]
  have hl := RG.lim hv
  simp [go_sem, hv]
  refine call_lent (v := .b (persB t)) (by simp [go_sem]; exact people1 rfl) rfl ?_
  by_cases ht : persB t = true
  rotate_left
  · have ha : g.foE t = 2 := by unfold RG.foE; rw [if_pos hv, if_neg ht]
    simp [go_sem, ht, ha, RG.nil]
  have ha : g.foE t = 0 := by unfold RG.foE; rw [if_pos hv, if_pos ht]
  simp [go_sem, ht, ha]
  refine callK_own [] (copied49 g (by omega) (by omega) (by omega) (by omega)) (by simp) rfl trivial ?_
  simp [go_sem]
  refine callK_freeze 1 (R := .box [.i t]) rfl ?_
  simp [go_sem]
  refine callK_own [5] (delf52 g.nc (by omega) (fun i j => (g.c i).c j) (43 : FuncId) (gcell t) (fun i => decide ((g.c i).p = t)) (one_c g.c) (fun i _ => cl61 (g.c i) t)) (by simp) rfl ⟨rfl, trivial⟩ ?_
  simp [go_sem]
  refine callK_own [6] (delf54 g.nw (by omega) (fun i j => (g.w i).c j) (44 : FuncId) (gcell t) (fun i => decide ((g.w i).p = t)) (one_w g.w) (fun i _ => cl62 (g.w i) t)) (by simp) rfl ⟨rfl, trivial⟩ ?_
  simp [go_sem]
  refine callK_own [7] (delf56 g.nm (by omega) (fun i j => (g.m i).c j) (45 : FuncId) (gcell t) (fun i => decide ((g.m i).p = t)) (one_m g.m) (fun i _ => cl63 (g.m i) t)) (by simp) rfl ⟨rfl, trivial⟩ ?_
  simp [go_sem]
  exact ⟨⟨rfl, fun i j hi _ => rfl⟩, ⟨rfl, fun i j hi _ => sel_row (f := ConG.c) hi⟩, ⟨rfl, fun i j hi _ => sel_row (f := WarG.c) hi⟩, rfl, fun i j hi _ => sel_row (f := MarkG.c) hi⟩
end Go.Gx.Rg
