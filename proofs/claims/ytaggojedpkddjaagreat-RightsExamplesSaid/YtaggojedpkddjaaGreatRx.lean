/-
  slices.Equal and rights.Same.
-/
import Derived.Test.YtaggojedpkddjaaGreatRd
set_option linter.unusedVariables false
set_option linter.unusedSimpArgs false
set_option maxRecDepth 20000
set_option maxHeartbeats 2000000
namespace Go.Gx.Rg
open Go.RowKit Go.Proofs Go.Proofs.YtaggojedpkddjaaGreat

def RuleG.eqB (x y : RuleG) : Bool := decide (x.p = y.p) && decide (x.r = y.r) && decide (x.l = y.l) && decide (x.f = y.f) && decide (x.t = y.t) && decide (x.k = y.k) && decide (x.s = y.s) && decide (x.b = y.b)
theorem equal85 (n m : Nat) (hn : (n : Int) < 2 ^ 62) (hm : (m : Int) < 2 ^ 62) (x y : Nat → RuleG) : Pure Tryz.prog 48 [RuleG.rs n x, RuleG.rs m y] (· = .b (decide (n = m) && (List.range n).all fun i => (x i).eqB (y i))) := by
  refine pure_of_GC T_ok Tryz.func48 rfl (by kernel_rfl) (Nat.le_of_ble_eq_true rfl) rfl rfl ?_
  simp [go_sem]
  by_cases h : n = m
  rotate_left
  · simp [go_sem, h]
    try omega
  subst h
  simp [go_sem]
  refine GLoop_of T_ok (α := Nat) (fun k => [(0, RuleG.rs n x), (1, RuleG.rs n y), (12, .i n), (13, .i k)]) (fun _ => []) 0 (fun k => k ≤ n ∧ ∀ j, j < k → (x j).eqB (y j) = true) (fun k => n - k) 0 (fun _ => rfl) (by simp) (by simp [go_sem]) (by simp [go_sem]) ?_
  intro k J hi
  simp [go_sem]
  split
  · rename_i hlt
    refine GDraw_all T_ok (by kernel_rfl) (by kernel_rfl) ?_
    simp [go_sem]
    refine ⟨hlt, ?_⟩
    by_cases he : (x k).eqB (y k) = true
    · rw [if_neg (by simp [RuleG.eqB] at he; simp [he])]
      refine ⟨by omega, k + 1, ⟨by omega, fun j hj => ?_⟩, by omega, by omega⟩
      by_cases hjk : j = k
      · subst hjk; exact he
      · exact hi.2 j (by omega)
    · rw [if_pos (Classical.byContradiction fun hc => he (by simp at hc; simp [RuleG.eqB, hc]))]
      exact ⟨k, hlt, by simpa using he⟩
  · rename_i hlt
    intro j hj
    exact hi.2 j (by omega)
def ConG.eqB (x y : ConG) : Bool := decide (x.p = y.p) && decide (x.q = y.q) && decide (x.u = y.u)
theorem equal86 (n m : Nat) (hn : (n : Int) < 2 ^ 62) (hm : (m : Int) < 2 ^ 62) (x y : Nat → ConG) : Pure Tryz.prog 49 [ConG.rs n x, ConG.rs m y] (· = .b (decide (n = m) && (List.range n).all fun i => (x i).eqB (y i))) := by
  refine pure_of_GC T_ok Tryz.func49 rfl (by kernel_rfl) (Nat.le_of_ble_eq_true rfl) rfl rfl ?_
  simp [go_sem]
  by_cases h : n = m
  rotate_left
  · simp [go_sem, h]
    try omega
  subst h
  simp [go_sem]
  refine GLoop_of T_ok (α := Nat) (fun k => [(0, ConG.rs n x), (1, ConG.rs n y), (12, .i n), (13, .i k)]) (fun _ => []) 0 (fun k => k ≤ n ∧ ∀ j, j < k → (x j).eqB (y j) = true) (fun k => n - k) 0 (fun _ => rfl) (by simp) (by simp [go_sem]) (by simp [go_sem]) ?_
  intro k J hi
  simp [go_sem]
  split
  · rename_i hlt
    refine GDraw_all T_ok (by kernel_rfl) (by kernel_rfl) ?_
    simp [go_sem]
    refine ⟨hlt, ?_⟩
    by_cases he : (x k).eqB (y k) = true
    · rw [if_neg (by simp [ConG.eqB] at he; simp [he])]
      refine ⟨by omega, k + 1, ⟨by omega, fun j hj => ?_⟩, by omega, by omega⟩
      by_cases hjk : j = k
      · subst hjk; exact he
      · exact hi.2 j (by omega)
    · rw [if_pos (Classical.byContradiction fun hc => he (by simp at hc; simp [ConG.eqB, hc]))]
      exact ⟨k, hlt, by simpa using he⟩
  · rename_i hlt
    intro j hj
    exact hi.2 j (by omega)
def WarG.eqB (x y : WarG) : Bool := decide (x.l = y.l) && decide (x.p = y.p) && decide (x.f = y.f) && decide (x.t = y.t)
theorem equal87 (n m : Nat) (hn : (n : Int) < 2 ^ 62) (hm : (m : Int) < 2 ^ 62) (x y : Nat → WarG) : Pure Tryz.prog 50 [WarG.rs n x, WarG.rs m y] (· = .b (decide (n = m) && (List.range n).all fun i => (x i).eqB (y i))) := by
  refine pure_of_GC T_ok Tryz.func50 rfl (by kernel_rfl) (Nat.le_of_ble_eq_true rfl) rfl rfl ?_
  simp [go_sem]
  by_cases h : n = m
  rotate_left
  · simp [go_sem, h]
    try omega
  subst h
  simp [go_sem]
  refine GLoop_of T_ok (α := Nat) (fun k => [(0, WarG.rs n x), (1, WarG.rs n y), (12, .i n), (13, .i k)]) (fun _ => []) 0 (fun k => k ≤ n ∧ ∀ j, j < k → (x j).eqB (y j) = true) (fun k => n - k) 0 (fun _ => rfl) (by simp) (by simp [go_sem]) (by simp [go_sem]) ?_
  intro k J hi
  simp [go_sem]
  split
  · rename_i hlt
    refine GDraw_all T_ok (by kernel_rfl) (by kernel_rfl) ?_
    simp [go_sem]
    refine ⟨hlt, ?_⟩
    by_cases he : (x k).eqB (y k) = true
    · rw [if_neg (by simp [WarG.eqB] at he; simp [he])]
      refine ⟨by omega, k + 1, ⟨by omega, fun j hj => ?_⟩, by omega, by omega⟩
      by_cases hjk : j = k
      · subst hjk; exact he
      · exact hi.2 j (by omega)
    · rw [if_pos (Classical.byContradiction fun hc => he (by simp at hc; simp [WarG.eqB, hc]))]
      exact ⟨k, hlt, by simpa using he⟩
  · rename_i hlt
    intro j hj
    exact hi.2 j (by omega)
def MarkG.eqB (x y : MarkG) : Bool := decide (x.l = y.l) && decide (x.p = y.p) && decide (x.s = y.s) && decide (x.u = y.u) && decide (x.n = y.n)
theorem equal88 (n m : Nat) (hn : (n : Int) < 2 ^ 62) (hm : (m : Int) < 2 ^ 62) (x y : Nat → MarkG) : Pure Tryz.prog 51 [MarkG.rs n x, MarkG.rs m y] (· = .b (decide (n = m) && (List.range n).all fun i => (x i).eqB (y i))) := by
  refine pure_of_GC T_ok Tryz.func51 rfl (by kernel_rfl) (Nat.le_of_ble_eq_true rfl) rfl rfl ?_
  simp [go_sem]
  by_cases h : n = m
  rotate_left
  · simp [go_sem, h]
    try omega
  subst h
  simp [go_sem]
  refine GLoop_of T_ok (α := Nat) (fun k => [(0, MarkG.rs n x), (1, MarkG.rs n y), (12, .i n), (13, .i k)]) (fun _ => []) 0 (fun k => k ≤ n ∧ ∀ j, j < k → (x j).eqB (y j) = true) (fun k => n - k) 0 (fun _ => rfl) (by simp) (by simp [go_sem]) (by simp [go_sem]) ?_
  intro k J hi
  simp [go_sem]
  split
  · rename_i hlt
    refine GDraw_all T_ok (by kernel_rfl) (by kernel_rfl) ?_
    simp [go_sem]
    refine ⟨hlt, ?_⟩
    by_cases he : (x k).eqB (y k) = true
    · rw [if_neg (by simp [MarkG.eqB] at he; simp [he])]
      refine ⟨by omega, k + 1, ⟨by omega, fun j hj => ?_⟩, by omega, by omega⟩
      by_cases hjk : j = k
      · subst hjk; exact he
      · exact hi.2 j (by omega)
    · rw [if_pos (Classical.byContradiction fun hc => he (by simp at hc; simp [MarkG.eqB, hc]))]
      exact ⟨k, hlt, by simpa using he⟩
  · rename_i hlt
    intro j hj
    exact hi.2 j (by omega)

def RG.s1 (g h : RG) : Bool := decide (g.nr = h.nr) && (List.range g.nr).all fun i => (g.r i).eqB (h.r i)
def RG.s2 (g h : RG) : Bool := decide (g.nc = h.nc) && (List.range g.nc).all fun i => (g.c i).eqB (h.c i)
def RG.s3 (g h : RG) : Bool := decide (g.nw = h.nw) && (List.range g.nw).all fun i => (g.w i).eqB (h.w i)
def RG.s4 (g h : RG) : Bool := decide (g.nm = h.nm) && (List.range g.nm).all fun i => (g.m i).eqB (h.m i)
def RG.same (g h : RG) : Bool := g.s1 h && g.s2 h && g.s3 h && g.s4 h
theorem same35 (g h : RG) (hg : g.OK) (hh : h.OK) : Pure Tryz.prog 16 [g.sv, h.sv] (· = .b (g.same h)) := by
  refine pure_of_GC T_ok Tryz.func16 rfl (by kernel_rfl) (Nat.le_of_ble_eq_true rfl) rfl rfl ?_
  simp [go_sem]
  have e1 := (equal85 g.nr h.nr hg.nr hh.nr g.r h.r).val (v' := .b (g.s1 h)) rfl
  have e2 := (equal86 g.nc h.nc hg.nc hh.nc g.c h.c).val (v' := .b (g.s2 h)) rfl
  have e3 := (equal87 g.nw h.nw hg.nw hh.nw g.w h.w).val (v' := .b (g.s3 h)) rfl
  have e4 := (equal88 g.nm h.nm hg.nm hh.nm g.m h.m).val (v' := .b (g.s4 h)) rfl
  unfold RG.same
  refine call_val e1 rfl rfl ?_
  cases g.s1 h
  · simp [go_sem]
  simp [go_sem]
  refine call_val e2 rfl rfl ?_
  cases g.s2 h
  · simp [go_sem]
  simp [go_sem]
  refine call_val e3 rfl rfl ?_
  cases g.s3 h
  · simp [go_sem]
  simp [go_sem]
  refine call_val e4 rfl rfl ?_
  cases g.s4 h <;> simp [go_sem]
end Go.Gx.Rg
