/-
  The program: known, Person. The reference: number, Person.
-/
import Derived.Test.YtnajladibkpeaaaEj
set_option linter.unusedVariables false
set_option linter.unusedSimpArgs false
set_option maxRecDepth 20000
set_option maxHeartbeats 4000000
namespace Go.Gx
open Go.RowKit Go.Proofs Go.Proofs.Ytnajladibkpeaaa

@[go_sem] theorem SV.ren_getD (ρ : Nat → Nat) (l : List SV) (k : Nat) : SV.ren ρ (l[k]?.getD (.r .any)) = (l.map (SV.ren ρ))[k]?.getD (.r .any) := by
  rw [List.getElem?_map]
  cases l[k]? <;> rfl
theorem look_yes {g : EG} (h : g.OK) (hv : g.valid = true) : Own Try.prog 53 [] [g.sv] (.tup [.ptr 0 0 4 0, .i 0]) [g.dbox (.mp 1), g.dmap] := by
  have := look53 g h
  unfold EG.lookS EG.lookR at this
  rw [EG.pval_eq, hv] at this
  exact this
theorem look_bad {g : EG} (h : g.OK) (hv : g.valid = false) : Own Try.prog 53 [] [g.sv] (.tup [nilP, .i 8]) [] := by
  have := look53 g h
  unfold EG.lookS EG.lookR at this
  rw [EG.pval_eq, hv] at this
  exact this
theorem EG.valid_lks {g : EG} (h : g.valid = true) : g.lks = true := by
  simp only [EG.valid, Bool.and_eq_true] at h
  exact h.1.1.2
theorem EG.valid_inl {g : EG} (h : g.valid = true) : g.inl := EG.inl_of (EG.valid_lks h)
theorem EG.valid_lth {g : EG} (h : g.valid = true) : g.lth := EG.lks_th (EG.valid_lks h)
theorem EG.valid_nr {g : EG} (h : g.valid = true) : g.nr ≤ 24 := by
  simp only [EG.valid, Bool.and_eq_true, decide_eq_true_eq] at h
  exact h.1.1.1.1
theorem cl103 (g : EG) (h : g.OK) (a : Int) (C D : Nat → Nat → RV) (hC : C 0 0 = .rp 4 1 D 0 0) (hD : D 0 0 = .rs 2 g.nr fun i j => (g.r i).c j) : Pure Try.prog 103 [.i a, .r (.rp 1 1 C 0 0)] (· = .b (!g.th a)) := by
  refine pure_of_GC T_ok Try.func103 rfl (by kernel_rfl) (Nat.le_of_ble_eq_true rfl) rfl rfl ?_
  simp [go_sem, hC]
  refine call_val (there63 g h D hD a) rfl rfl ?_
  simp [go_sem]
/-- The error of a register and records. -/
def EG.kE (g : EG) (n : Nat) (x : Nat → Int) : Int := if g.valid then (if (List.range n).all fun i => g.th (x i) then 0 else 6) else 8
def EG.kS (g : EG) (e : Int) : SV := if e = 0 then .tup [.ptr 0 0 4 0, .i 0] else .tup [nilP, .i e]
def EG.kR (g : EG) (e : Int) : List Reg := if e = 0 then [g.dbox (.mp 1), g.dmap] else []
theorem known48 (g : EG) (h : g.OK) (n : Nat) (hn : n ≤ 1000000000) (x : Nat → Int) (get : Nat → Nat → SV) (hget : ∀ i, i < n → get i 0 = .i (x i)) : Own Try.prog 48 [.vec 3 1 n get] [g.sv, .sl 0 1 0 n none] (g.kS (g.kE n x)) (g.kR (g.kE n x)) := by
  refine own_of_GC T_ok Try.func48 rfl (by kernel_rfl) (Nat.le_of_ble_eq_true rfl) rfl rfl ?_
  simp [go_sem]
  by_cases hv : g.valid = true
  rotate_left
  · have hv' : g.valid = false := by simpa using hv
    have e : g.kE n x = 8 := by simp [EG.kE, hv']
    refine callK_own [] (look_bad h hv') (by simp) rfl trivial ?_
    simp [go_sem]
    rw [e]
    exact ⟨[], by simp, fun N => ⟨by simp [go_sem, EG.kS], trivial⟩⟩
  refine callK_own [] (look_yes h hv) (by simp) rfl trivial ?_
  simp [go_sem]
  refine call_lent (v := .b ((List.range n).any fun i => !g.th (x i))) (by
    simp [go_sem]
    refine contains102 n hn _ 103 _ rfl (fun i => !g.th (x i)) fun i hi => ?_
    simp only [hget i hi, viewRV]
    exact cl103 g h (x i) _ _ rfl rfl) rfl ?_
  have ha : (List.range n).any (fun i => !g.th (x i)) = !((List.range n).all fun i => g.th (x i)) := by
    rw [List.all_eq_not_any_not]; simp
  rw [ha]
  by_cases ht : ((List.range n).all fun i => g.th (x i)) = true
  · have e : g.kE n x = 0 := by simp only [EG.kE, hv, ht]; rfl
    rw [e, ht]
    simp [go_sem]
    refine ⟨[2, 3], by simp, fun N => ⟨by simp [go_sem, EG.kS], ?_⟩⟩
    simp [go_sem, EG.kR]
  · have ht' : ((List.range n).all fun i => g.th (x i)) = false := by simpa using ht
    have e : g.kE n x = 6 := by simp only [EG.kE, hv, ht']; rfl
    rw [e, ht']
    simp [go_sem]
    exact ⟨[], by simp, fun N => ⟨by simp [go_sem, EG.kS], trivial⟩⟩
end Go.Gx
