/-
  Registers compared: Same of the program and of the reference; Check.
-/
import Derived.Test.YtnajladibkpeaaaFh
set_option linter.unusedVariables false
set_option linter.unusedSimpArgs false
set_option maxRecDepth 20000
set_option maxHeartbeats 4000000
namespace Go.Gx
open Go.RowKit Go.Proofs Go.Proofs.Ytnajladibkpeaaa

def CsG.eqB (x y : CsG) : Bool := decide (x.a = y.a) && decide (x.b = y.b) && (decide (x.nv = y.nv) && (List.range x.nv).all fun i => (x.v i).eqB (y.v i))
theorem CsG.eqB_rfl (x : CsG) : x.eqB x = true := by simp [CsG.eqB, VtG.eqB_rfl]
abbrev CsG.sv (x : CsG) : SV := .agg [.i x.a, .i x.b, .r (.rs 2 x.nv fun i j => (x.v i).c j)]
/-- The two registers are the same. -/
def EG.smB (g h : EG) : Bool := (decide (g.nr = h.nr) && (List.range g.nr).all fun i => (g.r i).eqB (h.r i)) && (decide (g.nl = h.nl) && (List.range g.nl).all fun i => (g.l i).eqB (h.l i)) && (decide (g.nc = h.nc) && (List.range g.nc).all fun i => (g.c i).eqB (h.c i))
theorem EG.smB_rfl (g : EG) : g.smB g = true := by simp [EG.smB, RcG.eqB_rfl, LkG.eqB_rfl, CsG.eqB_rfl]
theorem cl68 (x y : CsG) (hx : x.nv ≤ 1000000000) (hy : y.nv ≤ 1000000000) : Pure Try.prog 68 [x.sv, y.sv] (· = .b (x.eqB y)) := by
  refine pure_of_GC T_ok Try.func68 rfl (by kernel_rfl) (Nat.le_of_ble_eq_true rfl) rfl rfl ?_
  have he := equal70 x.nv y.nv (by omega) (by omega) x.v y.v
  simp [go_sem]
  refine GDraw_all T_ok (by kernel_rfl) (by kernel_rfl) ?_
  by_cases h1 : x.a = y.a
  · by_cases h2 : x.b = y.b
    · have e : x.eqB y = (decide (x.nv = y.nv) && (List.range x.nv).all fun i => (x.v i).eqB (y.v i)) := by simp [CsG.eqB, h1, h2]
      rw [← e] at he
      simp [go_sem]
      refine ⟨_, dcall_val (ofCase69 x) rfl rfl, ?_⟩
      simp [go_sem]
      refine ⟨_, dcall_val (ofCase69 y) rfl rfl, ?_⟩
      simp [go_sem, h1, h2]
      refine ⟨_, dcall_val he rfl rfl, ?_⟩
      simp [go_sem]
    · have e : x.eqB y = false := by simp [CsG.eqB, h2]
      rw [e]
      simp [go_sem]
      refine ⟨_, dcall_val (ofCase69 x) rfl rfl, ?_⟩
      simp [go_sem]
      refine ⟨_, dcall_val (ofCase69 y) rfl rfl, ?_⟩
      simp [go_sem, h1, h2]
  · have e : x.eqB y = false := by simp [CsG.eqB, h1]
    rw [e]
    simp [go_sem]
    refine ⟨_, dcall_val (ofCase69 x) rfl rfl, ?_⟩
    simp [go_sem]
    refine ⟨_, dcall_val (ofCase69 y) rfl rfl, ?_⟩
    simp [go_sem, h1]
theorem equalF73 (n m : Nat) (hn : n ≤ 1000000000) (hm : m ≤ 1000000000) (x y : Nat → CsG) (hx : ∀ i, i < n → (x i).nv ≤ 1000000000) (hy : ∀ i, i < m → (y i).nv ≤ 1000000000) :
    Pure Try.prog 73 [.r (.rs 3 n fun i j => (x i).c j), .r (.rs 3 m fun i j => (y i).c j), .fn (.func 68) [] []] (· = .b (decide (n = m) && (List.range n).all fun i => (x i).eqB (y i))) := by
  refine pure_of_GC T_ok Try.func73 rfl (by kernel_rfl) (Nat.le_of_ble_eq_true rfl) rfl rfl ?_
  by_cases h : n = m
  rotate_left
  · have h' : ¬ (n : Int) = m := by omega
    simp [go_sem, h, h']
  subst h
  simp [go_sem]
  refine GLoop_of T_ok (α := Nat) (fun k => [(0, .r (.rs 3 n fun i j => (x i).c j)), (1, .r (.rs 3 n fun i j => (y i).c j)), (2, .fn (.func 68) [] []), (15, .r (.rs 3 n fun i j => (x i).c j)), (16, .i n), (17, .i k)]) (fun _ => []) 0 (fun k => k ≤ n ∧ ∀ j, j < k → (x j).eqB (y j) = true) (fun k => n - k) 0 (fun _ => rfl) (by simp) (by simp [go_sem]) (by simp [go_sem]) ?_
  intro k J hi
  by_cases hlt : k < n
  · have hc := cl68 (x k) (y k) (hx k hlt) (hy k hlt)
    simp [go_sem, hlt]
    by_cases he : (x k).eqB (y k) = true
    · rw [he] at hc
      refine call_val hc rfl rfl ?_
      simp [go_sem]
      refine ⟨by omega, k + 1, ⟨by omega, fun j hj => ?_⟩, by omega, by omega⟩
      by_cases hjk : j = k
      · subst hjk; exact he
      · exact hi.2 j (by omega)
    · have he' : (x k).eqB (y k) = false := by simpa using he
      rw [he'] at hc
      refine call_val hc rfl rfl ?_
      simp [go_sem]
      exact ⟨k, hlt, he'⟩
  · simp [go_sem, hlt]
    exact fun j hj => hi.2 j (by omega)
theorem same32 (g h : EG) (hg : g.OK) (hh : h.OK) : Pure Try.prog 32 [g.sv, h.sv] (· = .b (g.smB h)) := by
  refine pure_of_GC T_ok Try.func32 rfl (by kernel_rfl) (Nat.le_of_ble_eq_true rfl) rfl rfl ?_
  have := hg.nr; have := hg.nl; have := hg.nc; have := hh.nr; have := hh.nl; have := hh.nc
  have e1 := equal71 g.nr h.nr (by omega) (by omega) g.r h.r
  have e2 := equal72 g.nl h.nl (by omega) (by omega) g.l h.l
  have e3 := equalF73 g.nc h.nc (by omega) (by omega) g.c h.c hg.nv hh.nv
  have e : g.smB h = ((decide (g.nr = h.nr) && (List.range g.nr).all fun i => (g.r i).eqB (h.r i)) && (decide (g.nl = h.nl) && (List.range g.nl).all fun i => (g.l i).eqB (h.l i)) && (decide (g.nc = h.nc) && (List.range g.nc).all fun i => (g.c i).eqB (h.c i))) := rfl
  rw [e]
  generalize (decide (g.nr = h.nr) && (List.range g.nr).all fun i => (g.r i).eqB (h.r i)) = b1 at *
  generalize (decide (g.nl = h.nl) && (List.range g.nl).all fun i => (g.l i).eqB (h.l i)) = b2 at *
  generalize (decide (g.nc = h.nc) && (List.range g.nc).all fun i => (g.c i).eqB (h.c i)) = b3 at *
  simp [go_sem]
  refine call_val e1 rfl rfl ?_
  cases b1
  · simp [go_sem]
  simp [go_sem]
  refine call_val e2 rfl rfl ?_
  cases b2
  · simp [go_sem]
  simp [go_sem]
  refine call_val e3 rfl rfl ?_
  simp [go_sem]
theorem sameCase74 (x y : CsG) (hx : x.nv ≤ 1000000000) (hy : y.nv ≤ 1000000000) : Pure Try.prog 74 [x.sv, y.sv] (· = .b (x.eqB y)) := by
  refine pure_of_GC T_ok Try.func74 rfl (by kernel_rfl) (Nat.le_of_ble_eq_true rfl) rfl rfl ?_
  by_cases h1 : x.a = y.a
  rotate_left
  · have e : x.eqB y = false := by simp [CsG.eqB, h1]
    rw [e]
    simp [go_sem, h1]
  by_cases h2 : x.b = y.b
  rotate_left
  · have e : x.eqB y = false := by simp [CsG.eqB, h2]
    rw [e]
    simp [go_sem, h1, h2]
  by_cases h3 : x.nv = y.nv
  rotate_left
  · have e : x.eqB y = false := by simp [CsG.eqB, h3]
    have h3' : ¬ (x.nv : Int) = y.nv := by omega
    rw [e]
    simp [go_sem, h1, h2, h3, h3']
  have e : x.eqB y = (List.range x.nv).all fun i => (x.v i).eqB (y.v i) := by simp [CsG.eqB, h1, h2, h3]
  rw [e]
  simp [go_sem, h1, h2, h3]
  refine GLoop_of T_ok (α := Nat) (fun k => [(2, .ptr 0 0 3 0), (3, .ptr 1 0 3 0), (5, .i k)]) (fun _ => [some (.box x.sv.cells), some (.box y.sv.cells)]) 2 (fun k => k ≤ x.nv ∧ ∀ j, j < k → (x.v j).eqB (y.v j) = true) (fun k => x.nv - k) 0 (fun _ => rfl) (by simp) (by simp [go_sem]) (by simp [go_sem, SV.cells, h1, h2, h3]) ?_
  intro k J hi
  by_cases hlt : k < x.nv
  · have hlt' : k < y.nv := by omega
    simp [go_sem, hlt, SV.cells]
    refine GDraw_all T_ok (by kernel_rfl) (by kernel_rfl) ?_
    simp [go_sem, hlt, hlt', SV.cells]
    by_cases he : (x.v k).eqB (y.v k) = true
    · rw [if_neg (by simp [VtG.eqB] at he; simp [he])]
      refine ⟨by omega, k + 1, ⟨by omega, fun j hj => ?_⟩, by omega, by omega⟩
      by_cases hjk : j = k
      · subst hjk; exact he
      · exact hi.2 j (by omega)
    · rw [if_pos (Classical.byContradiction fun hc => he (by simp at hc; simp [VtG.eqB, hc]))]
      exact ⟨k, hlt', by simpa using he⟩
  · simp [go_sem, hlt, SV.cells]
    exact fun j hj => hi.2 j (by omega)
theorem same33 (g h : EG) (hg : g.OK) (hh : h.OK) : Pure Try.prog 33 [g.sv, h.sv] (· = .b (g.smB h)) := by
  refine pure_of_GC T_ok Try.func33 rfl (by kernel_rfl) (Nat.le_of_ble_eq_true rfl) rfl rfl ?_
  have := hg.nr; have := hg.nl; have := hg.nc; have := hh.nr; have := hh.nl; have := hh.nc
  by_cases h1 : g.nr = h.nr
  rotate_left
  · have e : g.smB h = false := by simp [EG.smB, h1]
    have h1' : ¬ (g.nr : Int) = h.nr := by omega
    rw [e]
    simp [go_sem, h1']
  by_cases h2 : g.nl = h.nl
  rotate_left
  · have e : g.smB h = false := by simp [EG.smB, h2]
    have h2' : ¬ (g.nl : Int) = h.nl := by omega
    rw [e]
    simp [go_sem, h1, h2']
  by_cases h3 : g.nc = h.nc
  rotate_left
  · have e : g.smB h = false := by simp [EG.smB, h3]
    have h3' : ¬ (g.nc : Int) = h.nc := by omega
    rw [e]
    simp [go_sem, h1, h2, h3']
  have h1' : (g.nr : Int) = h.nr := by omega
  have h2' : (g.nl : Int) = h.nl := by omega
  have h3' : (g.nc : Int) = h.nc := by omega
  simp [go_sem, h1', h2', h3']
  refine GLoop_of T_ok (α := Nat) (fun k => [(2, .ptr 0 0 3 0), (3, .ptr 1 0 3 0), (5, .i k)]) (fun _ => [g.bx, h.bx]) 2 (fun k => k ≤ g.nr ∧ ∀ j, j < k → (g.r j).eqB (h.r j) = true) (fun k => g.nr - k) 0 (fun _ => rfl) (by simp) (by simp [go_sem]) (by simp [go_sem]) ?_
  intro knr Jnr hinr
  by_cases hltnr : knr < g.nr
  · have hlt' : knr < h.nr := by omega
    have step : (g.r knr).eqB (h.r knr) = true → (knr + 1 ≤ g.nr ∧ ∀ j, j < knr + 1 → (g.r j).eqB (h.r j) = true) := fun ht => ⟨by omega, fun j hj => by
      by_cases hjk : j = knr
      · subst hjk; exact ht
      · exact hinr.2 j (by omega)⟩
    have no : (g.r knr).eqB (h.r knr) = false → g.smB h = false := fun hf => by
      unfold EG.smB
      rw [all_no (p := fun i => (g.r i).eqB (h.r i)) hltnr hf]
      simp
    simp [go_sem, hltnr]
    refine GDraw_all T_ok (by kernel_rfl) (by kernel_rfl) ?_
    simp [go_sem, hltnr, hlt']
    by_cases he : (g.r knr).eqB (h.r knr) = true
    · rw [if_neg (by simp [RcG.eqB] at he; simp [he])]
      exact ⟨by omega, knr + 1, by simpa using step he, by omega, by omega⟩
    · rw [if_pos (Classical.byContradiction fun hc => he (by simp at hc; simp [RcG.eqB, hc]))]
      exact no (by simpa using he)
  have hallnr : ((List.range g.nr).all fun i => (g.r i).eqB (h.r i)) = true := all_yes fun j hj => hinr.2 j (by omega)
  simp [go_sem, hltnr]
  refine GLoop_of T_ok (α := Nat) (fun k => [(2, .ptr 0 0 3 0), (3, .ptr 1 0 3 0), (6, .i k)]) (fun _ => [g.bx, h.bx]) 2 (fun k => k ≤ g.nl ∧ ∀ j, j < k → (g.l j).eqB (h.l j) = true) (fun k => g.nl - k) 0 (fun _ => rfl) (by simp) (by simp [go_sem]) (by simp [go_sem]) ?_
  intro knl Jnl hinl
  by_cases hltnl : knl < g.nl
  · have hlt' : knl < h.nl := by omega
    have step : (g.l knl).eqB (h.l knl) = true → (knl + 1 ≤ g.nl ∧ ∀ j, j < knl + 1 → (g.l j).eqB (h.l j) = true) := fun ht => ⟨by omega, fun j hj => by
      by_cases hjk : j = knl
      · subst hjk; exact ht
      · exact hinl.2 j (by omega)⟩
    have no : (g.l knl).eqB (h.l knl) = false → g.smB h = false := fun hf => by
      unfold EG.smB
      rw [all_no (p := fun i => (g.l i).eqB (h.l i)) hltnl hf]
      simp
    simp [go_sem, hltnl]
    refine GDraw_all T_ok (by kernel_rfl) (by kernel_rfl) ?_
    simp [go_sem, hltnl, hlt']
    by_cases he : (g.l knl).eqB (h.l knl) = true
    · rw [if_neg (by simp [LkG.eqB] at he; simp [he])]
      exact ⟨by omega, knl + 1, by simpa using step he, by omega, by omega⟩
    · rw [if_pos (Classical.byContradiction fun hc => he (by simp at hc; simp [LkG.eqB, hc]))]
      exact no (by simpa using he)
  have hallnl : ((List.range g.nl).all fun i => (g.l i).eqB (h.l i)) = true := all_yes fun j hj => hinl.2 j (by omega)
  simp [go_sem, hltnl]
  refine GLoop_of T_ok (α := Nat) (fun k => [(2, .ptr 0 0 3 0), (3, .ptr 1 0 3 0), (7, .i k)]) (fun _ => [g.bx, h.bx]) 2 (fun k => k ≤ g.nc ∧ ∀ j, j < k → (g.c j).eqB (h.c j) = true) (fun k => g.nc - k) 0 (fun _ => rfl) (by simp) (by simp [go_sem]) (by simp [go_sem]) ?_
  intro knc Jnc hinc
  by_cases hltnc : knc < g.nc
  · have hlt' : knc < h.nc := by omega
    have step : (g.c knc).eqB (h.c knc) = true → (knc + 1 ≤ g.nc ∧ ∀ j, j < knc + 1 → (g.c j).eqB (h.c j) = true) := fun ht => ⟨by omega, fun j hj => by
      by_cases hjk : j = knc
      · subst hjk; exact ht
      · exact hinc.2 j (by omega)⟩
    have no : (g.c knc).eqB (h.c knc) = false → g.smB h = false := fun hf => by
      unfold EG.smB
      rw [all_no (p := fun i => (g.c i).eqB (h.c i)) hltnc hf]
      simp
    simp [go_sem, hltnc]
    refine GDraw_all T_ok (by kernel_rfl) (by kernel_rfl) ?_
    simp [go_sem, hltnc, hlt']
    have hc := sameCase74 (g.c knc) (h.c knc) (hg.nv knc hltnc) (hh.nv knc hlt')
    by_cases he : (g.c knc).eqB (h.c knc) = true
    · rw [he] at hc
      refine ⟨_, dcall_val hc rfl rfl, ?_⟩
      simp [go_sem]
      exact ⟨by omega, knc + 1, by simpa using step he, by omega, by omega⟩
    · have he' : (g.c knc).eqB (h.c knc) = false := by simpa using he
      rw [he'] at hc
      refine ⟨_, dcall_val hc rfl rfl, ?_⟩
      simp [go_sem]
      exact no he'
  have hallnc : ((List.range g.nc).all fun i => (g.c i).eqB (h.c i)) = true := all_yes fun j hj => hinc.2 j (by omega)
  simp [go_sem, hltnc]
  unfold EG.smB
  rw [hallnr, hallnl, hallnc]
  simp [h1, h2, h3]
theorem check30 (g : EG) (h : g.OK) : Pure Try.prog 30 [g.sv] (· = .i (if g.valid then 0 else 8)) := by
  refine pure_of_GC T_ok Try.func30 rfl (by kernel_rfl) (Nat.le_of_ble_eq_true rfl) rfl rfl ?_
  simp [go_sem]
  by_cases hv : g.valid = true
  · refine callK_own [] (look_yes h hv) (by simp) rfl trivial ?_
    simp [go_sem, hv]
  · have hv' : g.valid = false := by simpa using hv
    refine callK_own [] (look_bad h hv') (by simp) rfl trivial ?_
    simp [go_sem, hv']
theorem refCheck31 (g : EG) (h : g.OK) : Pure Try.prog 31 [g.sv] (· = .i (if g.valid then 0 else 8)) := by
  refine pure_of_GC T_ok Try.func31 rfl (by kernel_rfl) (Nat.le_of_ble_eq_true rfl) rfl rfl ?_
  simp [go_sem]
  refine call_val (valid49 g h) rfl rfl ?_
  by_cases hv : g.valid = true
  · simp [go_sem, hv]
  · have hv' : g.valid = false := by simpa using hv
    simp [go_sem, hv']
end Go.Gx
