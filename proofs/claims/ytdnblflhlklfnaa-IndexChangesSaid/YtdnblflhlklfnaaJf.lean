/-
  IndexTrace.
-/
import Derived.Test.YtdnblflhlklfnaaJd
set_option linter.unusedVariables false
set_option linter.unusedSimpArgs false
set_option maxRecDepth 20000
set_option maxHeartbeats 4000000
namespace Go.Gx.Ix
open Go.RowKit Go.Proofs Go.Proofs.Ytdnblflhlklfnaa

abbrev ixC (x : IxG) : List SV := [mrs x.ms, pls (x.ch 0), pls (x.ch 1), pls (x.ch 2), pls (x.ch 3), pls (x.ch 4), pls (x.ch 5), pls (x.ch 6), pls (x.ch 7)]
theorem sv_ixC (x : IxG) : x.sv = .agg (ixC x) := rfl
theorem add_of {l : List MbG} (h : VL l) (m : MbG) : Pure Try.prog 24 [(ofG l).sv, m.sv] (· = .tup [(addX (ofG l) m).sv, .i (addE (ofG l) m)]) := add24 (ofG l) (ofG_sm (by have := h.len; omega)) m
theorem rem_of {l : List MbG} (h : VL l) (t : Int) : Pure Try.prog 26 [(ofG l).sv, .i t] (· = .tup [(remX (ofG l) t).sv, .i (remE (ofG l) t)]) := remove26 (ofG l) (ofG_sm (by have := h.len; omega)) t
theorem same_of {l : List MbG} (h : VL l) : Pure Try.prog 18 [(ofG l).sv, (ofG l).sv] (· = .b true) := by
  have := same18 (ofG l) (ofG l) (ofG_sm (by have := h.len; omega))
  rwa [eqB_self] at this
theorem law8 (l : List MbG) (m o : MbG) : Pure Try.prog 8 [mrs l, m.sv, o.sv] (· = .b true) := by
  refine pure_of_GC T_ok Try.func8 rfl (by kernel_rfl) (Nat.le_of_ble_eq_true rfl) rfl rfl ?_
  simp [go_sem]
  refine call_val alive32 rfl rfl ?_
  simp [go_sem]
  by_cases hn : (l.length : Int) ≤ 250
  rotate_left
  · simp [go_sem, hn]
  by_cases hmo : m.id = o.id
  · simp [go_sem, hn, hmo]
  simp [go_sem, hn, hmo]
  obtain ⟨l', hv, hx, hx0, _⟩ := buildX_of l
  refine call_val (build16 l (by omega)) rfl rfl ?_
  rw [hx]
  have ha := add_of hv m
  have hI1 : buildE l = 0 → addE (ofG l') m = 0 → l' = l ∧ VL l ∧ VL (l ++ [m]) ∧ addX (ofG l') m = ofG (l ++ [m]) := fun h1 h2 => by
    obtain rfl := hx0 h1
    obtain ⟨h3, h4⟩ := addX_eq hv h2
    exact ⟨rfl, hv, h4, h3⟩
  obtain ⟨x, hxe⟩ : ∃ x, ofG l' = x := ⟨_, rfl⟩
  rw [hxe] at ha hI1 ⊢
  obtain ⟨y, hy⟩ : ∃ y, addX x m = y := ⟨_, rfl⟩
  rw [hy] at ha hI1
  generalize addE x m = f at *
  generalize buildE l = e at *
  simp [go_sem, sv_ixC] at ha ⊢
  refine call_val ha rfl rfl ?_
  simp [go_sem, sv_ixC]
  by_cases he : e = 0
  rotate_left
  · simp [go_sem, he]
  by_cases hf : f = 0
  rotate_left
  · simp [go_sem, he, hf]
  subst he hf
  obtain ⟨rfl, v1, v2, e1⟩ := hI1 rfl rfl
  have hr := rem_of v2 m.id
  have hrm := remX_eq v2 (t := m.id) (by simp)
  have htb := trace_back v2
  rw [hrm.1, hrm.2.1, htb] at hr
  have hs := same_of v1
  have ha1 := add_of v1 o
  have ha2 := add_of v2 o
  have hte := trace_err v2 (by omega) hmo
  have hI2 : addE (ofG l') o = 0 → ∃ v3 : VL (l' ++ [o]), ∃ v4 : VL (l' ++ [m] ++ [o]), addX (ofG l') o = ofG (l' ++ [o]) ∧ addX (ofG (l' ++ [m])) o = ofG (l' ++ [m] ++ [o]) := fun h => by
    obtain ⟨h1, h2⟩ := addX_eq v1 h
    obtain ⟨h3, h4⟩ := addX_eq v2 (hte.trans h)
    exact ⟨h2, h4, h1, h3⟩
  rw [hte] at ha2
  rw [← e1] at hr ha2 hI2
  rw [hxe] at hr hs ha1 hI2 ha2
  generalize addE x o = h at *
  obtain ⟨nv, hnv⟩ : ∃ nv, addX x o = nv := ⟨_, rfl⟩
  obtain ⟨bt, hbt⟩ : ∃ bt, addX y o = bt := ⟨_, rfl⟩
  rw [hnv] at ha1 hI2
  rw [hbt] at ha2 hI2
  simp [go_sem, sv_ixC] at hr hs ha1 ha2 ⊢
  refine call_val hr rfl rfl ?_
  simp [go_sem, sv_ixC]
  refine call_val hs rfl rfl ?_
  simp [go_sem, sv_ixC]
  refine call_val ha1 rfl rfl ?_
  simp [go_sem, sv_ixC]
  refine call_val ha2 rfl rfl ?_
  simp [go_sem, sv_ixC]
  by_cases hh : h = 0
  rotate_left
  · simp [go_sem, hh]
  subst hh
  obtain ⟨v3, v4, e3, e4⟩ := hI2 rfl
  have hr2 := rem_of v4 m.id
  have hrm2 := remX_eq v4 (t := m.id) (by simp)
  rw [hrm2.1, hrm2.2.1, trace_gone v2 v3 v4 hmo, ← e4, ← e3] at hr2
  have hs2 := same_of v3
  rw [← e3] at hs2
  simp [go_sem, sv_ixC] at hr2 hs2 ⊢
  refine call_val hr2 rfl rfl ?_
  simp [go_sem, sv_ixC]
  refine call_val hs2 rfl rfl ?_
  simp [go_sem, sv_ixC]
end Go.Gx.Ix
