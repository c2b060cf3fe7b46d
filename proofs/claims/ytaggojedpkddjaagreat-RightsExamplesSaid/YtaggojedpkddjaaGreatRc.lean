/-
  Contracts of rights: Check.
-/
import Derived.Test.YtaggojedpkddjaaGreatRb
set_option linter.unusedVariables false
set_option linter.unusedSimpArgs false
set_option maxRecDepth 20000
set_option maxHeartbeats 1000000
namespace Go.Gx.Rg
open Go.RowKit Go.Proofs Go.Proofs.YtaggojedpkddjaaGreat

def ConG.lt (x y : ConG) : Bool := decide (lex (cmpI x.p y.p) (cmpI x.q y.q) < 0)
def MarkG.lt (x y : MarkG) : Bool := decide (lex (cmpI x.l y.l) (cmpI x.p y.p) < 0)

theorem rising78 (n : Nat) (hn : (n : Int) < 2 ^ 62) (x : Nat → ConG) :
    Pure Tryz.prog 61 [ConG.rs n x, .fn (.func 30) [] []] (· = .b ((List.range (n - 1)).all fun i => (x i).lt (x (i + 1)))) := by
  refine pure_of_GC T_ok Tryz.func61 rfl (by kernel_rfl) (Nat.le_of_ble_eq_true rfl) rfl rfl ?_
  simp [go_sem]
  refine GLoop_of T_ok (α := Nat) (fun k => [(0, ConG.rs n x), (1, .fn (.func 30) [] []), (5, .i ((k : Int) + 1))]) (fun _ => []) 0 (fun k => (k = 0 ∨ k + 1 ≤ n) ∧ ∀ j, j < k → (x j).lt (x (j + 1)) = true) (fun k => n - k) 0 (fun _ => rfl) (by simp) (by simp [go_sem]) (by simp [go_sem]) ?_
  intro k J hi
  simp [go_sem]
  split
  · rename_i hlt
    refine GDraw_of T_ok (by kernel_rfl) 10 (by kernel_rfl) rfl rfl ?_
    simp [go_sem]
    refine ⟨by omega, by omega, ⟨by omega, by omega⟩, by omega, ?_⟩
    refine call_val (less79 (x k).p (x k).q (x k).u (x (k + 1)).p (x (k + 1)).q (x (k + 1)).u) rfl rfl ?_
    simp [go_sem]
    split
    · rename_i h0
      refine ⟨k, by omega, ?_⟩
      simp [ConG.lt]; omega
    · rename_i h0
      refine ⟨by omega, k + 1, ⟨by omega, fun j hj => ?_⟩, by omega, by simp⟩
      by_cases hjk : j = k
      · subst hjk; simp [ConG.lt]; omega
      · exact hi.2 j (by omega)
  · rename_i hlt
    intro j hj
    exact hi.2 j (by omega)

theorem rising80 (n : Nat) (hn : (n : Int) < 2 ^ 62) (x : Nat → MarkG) :
    Pure Tryz.prog 62 [MarkG.rs n x, .fn (.func 21) [] []] (· = .b ((List.range (n - 1)).all fun i => (x i).lt (x (i + 1)))) := by
  refine pure_of_GC T_ok Tryz.func62 rfl (by kernel_rfl) (Nat.le_of_ble_eq_true rfl) rfl rfl ?_
  simp [go_sem]
  refine GLoop_of T_ok (α := Nat) (fun k => [(0, MarkG.rs n x), (1, .fn (.func 21) [] []), (5, .i ((k : Int) + 1))]) (fun _ => []) 0 (fun k => (k = 0 ∨ k + 1 ≤ n) ∧ ∀ j, j < k → (x j).lt (x (j + 1)) = true) (fun k => n - k) 0 (fun _ => rfl) (by simp) (by simp [go_sem]) (by simp [go_sem]) ?_
  intro k J hi
  simp [go_sem]
  split
  · rename_i hlt
    refine GDraw_of T_ok (by kernel_rfl) 10 (by kernel_rfl) rfl rfl ?_
    simp [go_sem]
    refine ⟨by omega, by omega, ⟨by omega, by omega⟩, by omega, ?_⟩
    refine call_val (less68 (x k) (x (k + 1))) rfl rfl ?_
    simp [go_sem]
    split
    · rename_i h0
      refine ⟨k, by omega, ?_⟩
      simp [MarkG.lt]; omega
    · rename_i h0
      refine ⟨by omega, k + 1, ⟨by omega, fun j hj => ?_⟩, by omega, by simp⟩
      by_cases hjk : j = k
      · subst hjk; simp [MarkG.lt]; omega
      · exact hi.2 j (by omega)
  · rename_i hlt
    intro j hj
    exact hi.2 j (by omega)

/-- Rights, as they lie in memory. -/
structure RG where
  (nr : Nat) (r : Nat → RuleG) (nc : Nat) (c : Nat → ConG) (nw : Nat) (w : Nat → WarG) (nm : Nat) (m : Nat → MarkG)
abbrev RG.sv (g : RG) : SV := .agg [RuleG.rs g.nr g.r, ConG.rs g.nc g.c, WarG.rs g.nw g.w, MarkG.rs g.nm g.m]
structure RG.OK (g : RG) : Prop where
  nr : (g.nr : Int) < 2 ^ 62
  nc : (g.nc : Int) < 2 ^ 62
  nw : (g.nw : Int) < 2 ^ 62
  nm : (g.nm : Int) < 2 ^ 62
  by' : ∀ i, i < g.nr → (g.r i).byte
def RG.c1 (g : RG) : Bool := decide ((g.nr : Int) ≤ 20) && (List.range g.nr).all fun i => (g.r i).good
def RG.c2 (g : RG) : Bool := decide ((g.nc : Int) ≤ 40) && (List.range g.nc).all fun i => (g.c i).good
def RG.c3 (g : RG) : Bool := decide ((g.nw : Int) ≤ 20) && (List.range g.nw).all fun i => (g.w i).good
def RG.c4 (g : RG) : Bool := decide ((g.nm : Int) ≤ 40) && (List.range g.nm).all fun i => (g.m i).good
def RG.c5 (g : RG) : Bool := (List.range (g.nc - 1)).all fun i => (g.c i).lt (g.c (i + 1))
def RG.c6 (g : RG) : Bool := (List.range (g.nm - 1)).all fun i => (g.m i).lt (g.m (i + 1))
def RG.valid (g : RG) : Bool := g.c1 && g.c2 && g.c3 && g.c4 && g.c5 && g.c6
theorem check28 (g : RG) (h : g.OK) : Pure Tryz.prog 18 [g.sv] (· = .i (if g.valid then 0 else 8)) := by
  refine pure_of_GC T_ok Tryz.func18 rfl (by kernel_rfl) (Nat.le_of_ble_eq_true rfl) rfl rfl ?_
  have q0 := (allRule70 g.nr (by have := h.nr; omega) g.r 20 (56 : FuncId) (fun i => (g.r i).good) (fun i hi => goodRule71 _ (h.by' i hi))).val (v' := .b g.c1) rfl
  have q1 := (allConsent72 g.nc (by have := h.nc; omega) g.c 40 (27 : FuncId) (fun i => (g.c i).good) (fun i hi => goodConsent73 _)).val (v' := .b g.c2) rfl
  have q2 := (allWarrant74 g.nw (by have := h.nw; omega) g.w 20 (59 : FuncId) (fun i => (g.w i).good) (fun i hi => goodWarrant75 _)).val (v' := .b g.c3) rfl
  have q3 := (allMark76 g.nm (by have := h.nm; omega) g.m 40 (46 : FuncId) (fun i => (g.m i).good) (fun i hi => goodMark77 _)).val (v' := .b g.c4) rfl
  have q4 := (rising78 g.nc h.nc g.c).val (v' := .b g.c5) rfl
  have q5 := (rising80 g.nm h.nm g.m).val (v' := .b g.c6) rfl
  obtain ⟨a0, e0⟩ : ∃ a, g.c1 = a := ⟨_, rfl⟩
  rw [e0] at q0
  obtain ⟨a1, e1⟩ : ∃ a, g.c2 = a := ⟨_, rfl⟩
  rw [e1] at q1
  obtain ⟨a2, e2⟩ : ∃ a, g.c3 = a := ⟨_, rfl⟩
  rw [e2] at q2
  obtain ⟨a3, e3⟩ : ∃ a, g.c4 = a := ⟨_, rfl⟩
  rw [e3] at q3
  obtain ⟨a4, e4⟩ : ∃ a, g.c5 = a := ⟨_, rfl⟩
  rw [e4] at q4
  obtain ⟨a5, e5⟩ : ∃ a, g.c6 = a := ⟨_, rfl⟩
  rw [e5] at q5
  have hv : g.valid = (a0 && a1 && a2 && a3 && a4 && a5) := by rw [RG.valid, e0, e1, e2, e3, e4, e5]
  rw [hv]
  clear hv
  simp [go_sem]
  refine call_val q0 rfl rfl ?_
  cases a0
  · simp [go_sem]
  simp [go_sem]
  refine call_val q1 rfl rfl ?_
  cases a1
  · simp [go_sem]
  simp [go_sem]
  refine call_val q2 rfl rfl ?_
  cases a2
  · simp [go_sem]
  simp [go_sem]
  refine call_val q3 rfl rfl ?_
  cases a3
  · simp [go_sem]
  simp [go_sem]
  refine call_val q4 rfl rfl ?_
  cases a4
  · simp [go_sem]
  simp [go_sem]
  refine call_val q5 rfl rfl ?_
  cases a5
  · simp [go_sem]
  simp [go_sem]
end Go.Gx.Rg
