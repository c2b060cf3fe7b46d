/-
  The reference: links, Find, votes, cases.
-/
import Derived.Test.YtnajladibkpeaaaEa
set_option linter.unusedVariables false
set_option linter.unusedSimpArgs false
set_option maxRecDepth 20000
set_option maxHeartbeats 4000000
namespace Go.Gx
open Go.RowKit Go.Proofs Go.Proofs.Ytnajladibkpeaaa

theorem all_yes {n : Nat} {p : Nat → Bool} (h : ∀ i, i < n → p i = true) : (List.range n).all p = true := List.all_eq_true.2 fun i hi => h i (List.mem_range.1 hi)
theorem all_no {n k : Nat} {p : Nat → Bool} (hk : k < n) (h : p k = false) : (List.range n).all p = false := List.all_eq_false.2 ⟨k, List.mem_range.2 hk, by rw [h]; simp⟩
theorem all_get {n k : Nat} {p : Nat → Bool} (h : (List.range n).all p = true) (hk : k < n) : p k = true := List.all_eq_true.1 h k (List.mem_range.2 hk)
def LkG.lt (x y : LkG) : Bool := befB x.a x.b y.a y.b
/-- Link i is of a pair, and behind the one ahead of it. -/
def EG.lk1 (g : EG) (i : Nat) : Bool := g.prB (g.l i).a (g.l i).b && (decide (i = 0) || befB (g.l (i - 1)).a (g.l (i - 1)).b (g.l i).a (g.l i).b)
def EG.lks (g : EG) : Bool := (List.range g.nl).all g.lk1
theorem links104 (g : EG) (h : g.OK) : Pure Try.prog 104 [g.sv] (· = .b g.lks) := by
  refine pure_of_GC T_ok Try.func104 rfl (by kernel_rfl) (Nat.le_of_ble_eq_true rfl) rfl rfl ?_
  have := h.nl
  simp [go_sem]
  refine GLoop_of T_ok (α := Nat) (fun k => [(1, .ptr 0 0 3 0), (3, .i k)]) (fun _ => [g.bx]) 1 (fun k => k ≤ g.nl ∧ ∀ j, j < k → g.lk1 j = true) (fun k => g.nl - k) 0 (fun _ => rfl) (by simp) (by simp [go_sem]) (by simp [go_sem]) ?_
  intro k J hi
  by_cases hlt : k < g.nl
  · simp [go_sem, hlt]
    refine GDraw_all T_ok (by kernel_rfl) (by kernel_rfl) ?_
    have no : g.lk1 k = false → g.lks = false := fun hf => all_no hlt hf
    have yes : g.lk1 k = true → ∃ x', (x' ≤ g.nl ∧ ∀ j, j < x' → g.lk1 j = true) ∧ g.nl - x' < g.nl - k ∧ ((k : Int) + 1 = (x' : Int)) := fun ht =>
      ⟨k + 1, ⟨by omega, fun j hj => by
        by_cases hjk : j = k
        · subst hjk; exact ht
        · exact hi.2 j (by omega)⟩, by omega, by omega⟩
    by_cases hp : g.prB (g.l k).a (g.l k).b = true
    rotate_left
    · have hp' : g.prB (g.l k).a (g.l k).b = false := by simpa using hp
      have := (pair135 g h (g.l k).a (g.l k).b).val (v' := .b false) (by rw [hp'])
      simp [go_sem, hlt]
      refine ⟨_, dcall_val this rfl rfl, ?_⟩
      simp [go_sem]
      exact no (by simp [EG.lk1, hp'])
    have hpv := (pair135 g h (g.l k).a (g.l k).b).val (v' := .b true) (by rw [hp])
    simp [go_sem, hlt]
    refine ⟨_, dcall_val hpv rfl rfl, ?_⟩
    by_cases h0 : k = 0
    · subst h0
      simp [go_sem]
      obtain ⟨x', y1, y2, y3⟩ := yes (by simp [EG.lk1, hp])
      exact ⟨x', y1, by omega, by omega⟩
    have h0' : 0 < k := by omega
    have hk1 : (k : Int) - 1 = ((k - 1 : Nat) : Int) := by omega
    have hk2 : k - 1 < g.nl := by omega
    have hk3 : ((k - 1 : Nat) : Int) ≤ 9223372036854775807 := by omega
    by_cases hb : befB (g.l (k - 1)).a (g.l (k - 1)).b (g.l k).a (g.l k).b = true
    · have hbv := (before130 (g.l (k - 1)).a (g.l (k - 1)).b (g.l k).a (g.l k).b).val (v' := .b true) (by rw [hb])
      simp [go_sem, h0', hk1, hk2, hk3]
      refine ⟨_, dcall_val hbv rfl rfl, ?_⟩
      simp [go_sem]
      obtain ⟨x', y1, y2, y3⟩ := yes (by simp [EG.lk1, hp, hb])
      exact ⟨by omega, x', y1, by omega, by omega⟩
    · have hb' : befB (g.l (k - 1)).a (g.l (k - 1)).b (g.l k).a (g.l k).b = false := by simpa using hb
      have hbv := (before130 (g.l (k - 1)).a (g.l (k - 1)).b (g.l k).a (g.l k).b).val (v' := .b false) (by rw [hb'])
      simp [go_sem, h0', hk1, hk2, hk3]
      refine ⟨_, dcall_val hbv rfl rfl, ?_⟩
      simp [go_sem]
      exact no (by simp [EG.lk1, hb', h0])
  · simp [go_sem, hlt]
    exact all_yes fun j hj => hi.2 j (by omega)

/-- The index of the link of a pair, or -1. -/
def EG.fd (g : EG) (a b : Int) : Int := match (List.range g.nl).find? fun i => decide ((g.l i).a = a) && decide ((g.l i).b = b) with | some i => (i : Int) | none => -1
theorem EG.fd_at {g : EG} {a b : Int} {k : Nat} (hk : k < g.nl) (h1 : (g.l k).a = a) (h2 : (g.l k).b = b) (h : ∀ j, j < k → ((g.l j).a = a → ¬ (g.l j).b = b)) : g.fd a b = k := by
  have : (List.range g.nl).find? (fun i => decide ((g.l i).a = a) && decide ((g.l i).b = b)) = some k := by
    rw [List.find?_eq_some_iff_getElem]
    refine ⟨by simp [h1, h2], k, by simpa using hk, by simp, fun j hj => ?_⟩
    have := h j hj
    simp
    by_cases e : (g.l j).a = a
    · exact .inr (this e)
    · exact .inl e
  rw [EG.fd, this]
theorem EG.fd_no {g : EG} {a b : Int} (h : ∀ j, j < g.nl → ((g.l j).a = a → ¬ (g.l j).b = b)) : g.fd a b = -1 := by
  have : (List.range g.nl).find? (fun i => decide ((g.l i).a = a) && decide ((g.l i).b = b)) = none := by
    rw [List.find?_eq_none]
    intro j hj
    have := h j (List.mem_range.1 hj)
    simpa using this
  rw [EG.fd, this]
theorem find86 (g : EG) (h : g.OK) (a b : Int) : Pure Try.prog 86 [g.sv, .i a, .i b] (· = .i (g.fd a b)) := by
  refine pure_of_GC T_ok Try.func86 rfl (by kernel_rfl) (Nat.le_of_ble_eq_true rfl) rfl rfl ?_
  have := h.nl
  simp [go_sem]
  refine GLoop_of T_ok (α := Nat) (fun k => [(1, .i a), (2, .i b), (3, .ptr 0 0 3 0), (7, .i k)]) (fun _ => [g.bx]) 1 (fun k => k ≤ g.nl ∧ ∀ j, j < k → ((g.l j).a = a → ¬ (g.l j).b = b)) (fun k => g.nl - k) 0 (fun _ => rfl) (by simp) (by simp [go_sem]) (by simp [go_sem]) ?_
  intro k J hi
  by_cases hlt : k < g.nl
  · have step : ((g.l k).a = a → ¬ (g.l k).b = b) → (k + 1 ≤ g.nl ∧ ∀ j, j < k + 1 → ((g.l j).a = a → ¬ (g.l j).b = b)) := fun hn => ⟨by omega, fun j hj => by
      by_cases hjk : j = k
      · subst hjk; exact hn
      · exact hi.2 j (by omega)⟩
    by_cases h1 : (g.l k).a = a
    · by_cases h2 : (g.l k).b = b
      · simp [go_sem, hlt, h1, h2]
        exact (EG.fd_at hlt h1 h2 hi.2).symm
      · simp [go_sem, hlt, h1, h2]
        exact ⟨by omega, k + 1, step (fun _ => h2), by omega, by omega⟩
    · simp [go_sem, hlt, h1]
      exact ⟨by omega, k + 1, step (fun e => absurd e h1), by omega, by omega⟩
  · simp [go_sem, hlt]
    exact (EG.fd_no fun j hj => hi.2 j (by omega)).symm

/-- The votes of a case are valid. -/
def votB (n : Nat) (v : Nat → VtG) : Bool := decide (1 ≤ n) && decide (n ≤ 2) && ((List.range n).all fun i => btw 0 7 (v i).o) && (decide (n = 1) || !decide ((v 0).o = (v 1).o) && !decide ((v 0).s = (v 1).s))
theorem voted136 (n : Nat) (v : Nat → VtG) (hn : n ≤ 1000000000) : Pure Try.prog 136 [.r (.rs 2 n fun i j => (v i).c j)] (· = .b (votB n v)) := by
  refine pure_of_GC T_ok Try.func136 rfl (by kernel_rfl) (Nat.le_of_ble_eq_true rfl) rfl rfl ?_
  by_cases h1 : n < 1
  · have h1' : n = 0 := by omega
    subst h1'
    simp [go_sem, votB]
  by_cases h2 : 2 < n
  · have h1' : ¬ (n : Int) < 1 := by omega
    have h2' : 2 < (n : Int) := by omega
    have h3 : ¬ n ≤ 2 := by omega
    simp [go_sem, h1', h2', votB, h3]
  have h1' : ¬ (n : Int) < 1 := by omega
  have h2' : ¬ 2 < (n : Int) := by omega
  have h3 : 1 ≤ n := by omega
  have h4 : n ≤ 2 := by omega
  simp [go_sem, h1', h2']
  refine GLoop_of T_ok (α := Nat) (fun k => [(0, .r (.rs 2 n fun i j => (v i).c j)), (3, .i k)]) (fun _ => []) 0 (fun k => k ≤ n ∧ ∀ j, j < k → btw 0 7 (v j).o = true) (fun k => n - k) 0 (fun _ => rfl) (by simp) (by simp [go_sem]) (by simp [go_sem]) ?_
  intro k J hi
  by_cases hlt : k < n
  · simp [go_sem, hlt]
    by_cases hb : btw 0 7 (v k).o = true
    · refine call_val ((within62 (v k).o 0 7).val (v' := .b true) (by rw [hb])) rfl rfl ?_
      simp [go_sem]
      refine ⟨by omega, k + 1, ⟨by omega, fun j hj => ?_⟩, by omega, by omega⟩
      by_cases hjk : j = k
      · subst hjk; exact hb
      · exact hi.2 j (by omega)
    · have hb' : btw 0 7 (v k).o = false := by simpa using hb
      refine call_val ((within62 (v k).o 0 7).val (v' := .b false) (by rw [hb'])) rfl rfl ?_
      simp [go_sem]
      have : (List.range n).all (fun i => btw 0 7 (v i).o) = false := all_no hlt hb'
      simp [votB, this]
  · have ha : (List.range n).all (fun i => btw 0 7 (v i).o) = true := all_yes fun j hj => hi.2 j (by omega)
    have hk : k = n := by omega
    subst hk
    simp [go_sem]
    refine GDraw_all T_ok (by kernel_rfl) (by kernel_rfl) ?_
    by_cases e1 : k = 1
    · subst e1
      simp [go_sem]
      simp [votB]
      simpa using ha
    · have e2 : k = 2 := by omega
      subst e2
      by_cases e3 : (v 0).o = (v 1).o
      · simp [go_sem, e3]
        simp [votB, e3]
      · simp [go_sem, e3]
        simp [votB, e3, ha]
/-- Case i is valid, and behind the one ahead of it. -/
def EG.cs1 (g : EG) (i : Nat) : Bool := g.prB (g.c i).a (g.c i).b && (decide (i = 0) || befB (g.c (i - 1)).a (g.c (i - 1)).b (g.c i).a (g.c i).b) && !decide (0 ≤ g.fd (g.c i).a (g.c i).b) && votB (g.c i).nv (g.c i).v
def EG.css (g : EG) : Bool := decide (g.nc ≤ 40) && (List.range g.nc).all g.cs1
theorem cases105 (g : EG) (h : g.OK) : Pure Try.prog 105 [g.sv] (· = .b g.css) := by
  refine pure_of_GC T_ok Try.func105 rfl (by kernel_rfl) (Nat.le_of_ble_eq_true rfl) rfl rfl ?_
  have := h.nc
  by_cases h40 : 40 < g.nc
  · have h40' : 40 < (g.nc : Int) := by omega
    simp [go_sem, h40', EG.css]
    omega
  have h40' : ¬ 40 < (g.nc : Int) := by omega
  simp [go_sem, h40']
  refine GLoop_of T_ok (α := Nat) (fun k => [(1, .ptr 0 0 3 0), (3, .i k)]) (fun _ => [g.bx]) 1 (fun k => k ≤ g.nc ∧ ∀ j, j < k → g.cs1 j = true) (fun k => g.nc - k) 0 (fun _ => rfl) (by simp) (by simp [go_sem]) (by simp [go_sem]) ?_
  intro k J hi
  by_cases hlt : k < g.nc
  · simp [go_sem, hlt]
    refine GDraw_all T_ok (by kernel_rfl) (by kernel_rfl) ?_
    have no : g.cs1 k = false → g.css = false := fun hf => by simp only [EG.css]; rw [all_no hlt hf]; simp
    have yes : g.cs1 k = true → ∃ x', (x' ≤ g.nc ∧ ∀ j, j < x' → g.cs1 j = true) ∧ g.nc - x' < g.nc - k ∧ ((k : Int) + 1 = (x' : Int)) := fun ht =>
      ⟨k + 1, ⟨by omega, fun j hj => by
        by_cases hjk : j = k
        · subst hjk; exact ht
        · exact hi.2 j (by omega)⟩, by omega, by omega⟩
    by_cases hp : g.prB (g.c k).a (g.c k).b = true
    rotate_left
    · have hp' : g.prB (g.c k).a (g.c k).b = false := by simpa using hp
      have := (pair135 g h (g.c k).a (g.c k).b).val (v' := .b false) (by rw [hp'])
      simp [go_sem, hlt]
      refine ⟨_, dcall_val this rfl rfl, ?_⟩
      simp [go_sem]
      exact no (by simp [EG.cs1, hp'])
    have hpv := (pair135 g h (g.c k).a (g.c k).b).val (v' := .b true) (by rw [hp])
    have rest : (decide (k = 0) || befB (g.c (k - 1)).a (g.c (k - 1)).b (g.c k).a (g.c k).b) = true → g.cs1 k = (!decide (0 ≤ g.fd (g.c k).a (g.c k).b) && votB (g.c k).nv (g.c k).v) := fun hb => by
      simp [EG.cs1, hp, hb]
    have hf := find86 g h (g.c k).a (g.c k).b
    have hvt := voted136 (g.c k).nv (g.c k).v (h.nv k hlt)
    by_cases h0 : k = 0
    · subst h0
      have rest := rest (by simp)
      by_cases hfd : 0 ≤ g.fd (g.c 0).a (g.c 0).b
      · simp [go_sem, hlt]
        refine ⟨_, dcall_val hpv rfl rfl, ?_⟩
        simp [go_sem]
        refine ⟨_, dcall_val hf rfl rfl, ?_⟩
        simp [go_sem, hfd]
        exact no (by simp [rest, hfd])
      · by_cases hv : votB (g.c 0).nv (g.c 0).v = true
        · simp [go_sem, hlt]
          refine ⟨_, dcall_val hpv rfl rfl, ?_⟩
          simp [go_sem]
          refine ⟨_, dcall_val hf rfl rfl, ?_⟩
          simp [go_sem, hfd]
          refine ⟨_, dcall_val (hvt.val (v' := .b true) (by rw [hv])) rfl rfl, ?_⟩
          simp [go_sem]
          obtain ⟨x', y1, y2, y3⟩ := yes (by simp [rest, hfd, hv])
          exact ⟨x', y1, by omega, by omega⟩
        · have hv' : votB (g.c 0).nv (g.c 0).v = false := by simpa using hv
          simp [go_sem, hlt]
          refine ⟨_, dcall_val hpv rfl rfl, ?_⟩
          simp [go_sem]
          refine ⟨_, dcall_val hf rfl rfl, ?_⟩
          simp [go_sem, hfd]
          refine ⟨_, dcall_val (hvt.val (v' := .b false) (by rw [hv'])) rfl rfl, ?_⟩
          simp [go_sem]
          exact no (by simp [rest, hv'])
    have h0' : 0 < k := by omega
    have hk1 : (k : Int) - 1 = ((k - 1 : Nat) : Int) := by omega
    have hk2 : k - 1 < g.nc := by omega
    have hk3 : ((k - 1 : Nat) : Int) ≤ 9223372036854775807 := by omega
    by_cases hb : befB (g.c (k - 1)).a (g.c (k - 1)).b (g.c k).a (g.c k).b = true
    rotate_left
    · have hb' : befB (g.c (k - 1)).a (g.c (k - 1)).b (g.c k).a (g.c k).b = false := by simpa using hb
      have hbv := (before130 (g.c (k - 1)).a (g.c (k - 1)).b (g.c k).a (g.c k).b).val (v' := .b false) (by rw [hb'])
      simp [go_sem, hlt]
      refine ⟨_, dcall_val hpv rfl rfl, ?_⟩
      simp [go_sem, h0', hk1, hk2, hk3]
      refine ⟨_, dcall_val hbv rfl rfl, ?_⟩
      simp [go_sem]
      exact no (by simp [EG.cs1, hb', h0])
    have hbv := (before130 (g.c (k - 1)).a (g.c (k - 1)).b (g.c k).a (g.c k).b).val (v' := .b true) (by rw [hb])
    have rest := rest (by simp [hb])
    by_cases hfd : 0 ≤ g.fd (g.c k).a (g.c k).b
    · simp [go_sem, hlt]
      refine ⟨_, dcall_val hpv rfl rfl, ?_⟩
      simp [go_sem, h0', hk1, hk2, hk3]
      refine ⟨_, dcall_val hbv rfl rfl, ?_⟩
      simp [go_sem]
      refine ⟨_, dcall_val hf rfl rfl, ?_⟩
      simp [go_sem, hfd]
      exact no (by simp [rest, hfd])
    · by_cases hv : votB (g.c k).nv (g.c k).v = true
      · simp [go_sem, hlt]
        refine ⟨_, dcall_val hpv rfl rfl, ?_⟩
        simp [go_sem, h0', hk1, hk2, hk3]
        refine ⟨_, dcall_val hbv rfl rfl, ?_⟩
        simp [go_sem]
        refine ⟨_, dcall_val hf rfl rfl, ?_⟩
        simp [go_sem, hfd]
        refine ⟨_, dcall_val (hvt.val (v' := .b true) (by rw [hv])) rfl rfl, ?_⟩
        simp [go_sem]
        obtain ⟨x', y1, y2, y3⟩ := yes (by simp [rest, hfd, hv])
        exact ⟨by omega, x', y1, by omega, by omega⟩
      · have hv' : votB (g.c k).nv (g.c k).v = false := by simpa using hv
        simp [go_sem, hlt]
        refine ⟨_, dcall_val hpv rfl rfl, ?_⟩
        simp [go_sem, h0', hk1, hk2, hk3]
        refine ⟨_, dcall_val hbv rfl rfl, ?_⟩
        simp [go_sem]
        refine ⟨_, dcall_val hf rfl rfl, ?_⟩
        simp [go_sem, hfd]
        refine ⟨_, dcall_val (hvt.val (v' := .b false) (by rw [hv'])) rfl rfl, ?_⟩
        simp [go_sem]
        exact no (by simp [rest, hv'])
  · simp [go_sem, hlt]
    simp only [EG.css]
    rw [all_yes fun j hj => hi.2 j (by omega)]
    simp
    omega
end Go.Gx
