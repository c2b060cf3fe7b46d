/-
  The reference: Why.
-/
import Derived.Test.YtnajladibkpeaaaEv
import Derived.Test.YtnajladibkpeaaaK9
set_option linter.unusedVariables false
set_option linter.unusedSimpArgs false
set_option maxRecDepth 20000
set_option maxHeartbeats 4000000
namespace Go.Gx
open Go.RowKit Go.Proofs Go.Proofs.Ytnajladibkpeaaa

theorem ixB_lt (p : Nat → Bool) (n : Nat) : -1 ≤ ixB p n ∧ ixB p n < n := by
  unfold ixB
  split
  · rename_i i h
    have := (List.find?_range_eq_some.1 h).2.1
    have := List.mem_range.1 this
    omega
  · omega
theorem EG.far_lt (g : EG) (a b : Int) : -1 ≤ g.far a b ∧ g.far a b < g.nr := ixB_lt _ _
/-- The error of a register and two records. -/
def EG.wE (g : EG) (a b : Int) : Int := if g.valid then (if g.th a && g.th b && decide (0 ≤ g.far a b) then 0 else 6) else 8
abbrev nilS : SV := .r (.v (.slice none 0 0))
def EG.wS (g : EG) (a b : Int) : SV := if g.wE a b = 0 then .r (.rs 1 ((g.far a b).toNat + 1) (intsR (g.way a.toNat b.toNat (g.far a b).toNat))) else nilS
theorem EG.wS_no {g : EG} {a b : Int} (h : g.wE a b ≠ 0) : g.wS a b = nilS := if_neg h
theorem EG.wS_yes {g : EG} {a b : Nat} {n : Nat} (h : g.wE a b = 0) (hn : g.far a b = n) : g.wS a b = .r (.rs 1 (n + 1) (intsR (g.way a b n))) := by
  unfold EG.wS
  rw [if_pos h, hn]
  simp
theorem way_row (g : EG) {a b k i : Nat} (hi : i < k + 1 + 1) : (if i < k + 1 then SV.i (nth (g.way a b k) i : Nat) else SV.i (g.cu b a (k + 1) : Nat)) = SV.i (nth (g.way a b (k + 1)) i : Nat) := by
  rw [EG.way_succ]
  have := ints_add (l := g.way a b k) (k := g.cu b a (k + 1)) (i := i) (by rw [EG.way_len]; exact hi)
  rw [EG.way_len] at this
  exact this
theorem refWhy21 (g : EG) (h : g.OK) (a b : Int) : Pure Try.prog 21 [g.sv, .i a, .i b] (· = .tup [g.wS a b, .i (g.wE a b)]) := by
  refine Pure.ofSub ?_
  refine pure_of_GC T_ok Try.func21 rfl (by kernel_rfl) (Nat.le_of_ble_eq_true rfl) rfl rfl ?_
  have := h.nr
  simp [go_sem]
  refine call_val (valid49 g h) rfl rfl ?_
  by_cases hv : g.valid = true
  rotate_left
  · have hv' : g.valid = false := by simpa using hv
    have e : g.wE a b = 8 := by simp [EG.wE, hv']
    rw [EG.wS_no (by rw [e]; decide), e]
    simp [go_sem, hv']
  have hl := EG.valid_inl hv
  simp [go_sem, hv]
  refine call_val (there50 g h a) rfl rfl ?_
  by_cases ha : g.th a = true
  rotate_left
  · have ha' : g.th a = false := by simpa using ha
    have e : g.wE a b = 6 := by simp [EG.wE, hv, ha']
    rw [EG.wS_no (by rw [e]; decide), e]
    simp [go_sem, ha']
  simp [go_sem, ha]
  refine call_val (there50 g h b) rfl rfl ?_
  by_cases hb : g.th b = true
  rotate_left
  · have hb' : g.th b = false := by simpa using hb
    have e : g.wE a b = 6 := by simp [EG.wE, hv, hb']
    rw [EG.wS_no (by rw [e]; decide), e]
    simp [go_sem, hb']
  have ia := EG.th_iff.1 ha
  have ib := EG.th_iff.1 hb
  obtain ⟨a, rfl⟩ : ∃ n : Nat, a = n := ⟨a.toNat, by omega⟩
  obtain ⟨b, rfl⟩ : ∃ n : Nat, b = n := ⟨b.toNat, by omega⟩
  have ha1 : a < g.nr := by omega
  have hb1 : b < g.nr := by omega
  simp [go_sem, hb]
  refine call_val (far57 g h hl a b ia.1 ia.2.1 ib.1 ib.2.1) rfl rfl ?_
  by_cases hf : g.far a b < 0
  · have e : g.wE a b = 6 := by
      have : ¬ 0 ≤ g.far a b := by omega
      simp [EG.wE, hv, ha, hb, this]
    rw [EG.wS_no (by rw [e]; decide), e]
    simp [go_sem, hf]
  have e : g.wE a b = 0 := by
    have : 0 ≤ g.far a b := by omega
    simp [EG.wE, hv, ha, hb, this]
  obtain ⟨n, hn⟩ : ∃ n : Nat, g.far a b = n := ⟨(g.far a b).toNat, by omega⟩
  rw [EG.wS_yes e hn, e]
  simp [go_sem, hf]
  have hnr := (g.far_lt a b).2
  rw [hn] at hnr
  refine GLoop_s T_ok (α := Nat) (fun k => [(1, .i (g.cu b a k : Nat)), (2, .i b), (3, .ptr 0 0 3 0), (8, .sl 1 1 0 (k + 1) none)]) (fun k => [g.bx, some (.vec 3 1 (k + 1) (ints (g.way a b k)))]) 2 (fun k => k ≤ n) (fun k => n - k) 0 (fun _ => rfl) (by simp) (by simp [go_sem, EG.cu]) (by
    simp [go_sem]
    simp [nth, EG.way, EG.cu]) ?_
  intro k J hi
  obtain ⟨c1, c2⟩ := EG.cu_ok hl ha1 hn k hi
  have ceq := EG.cu_eq hl ha1 hn hi
  generalize hx : g.cu b a k = x at *
  by_cases hk : k = n
  · have hxb : x = b := ceq.2 hk
    subst hk
    simp [go_sem, hxb]
  have hne : ¬ (x : Int) = (b : Int) := fun e => hk (ceq.1 (by omega))
  have hfx : g.far x b = ((n - (k + 1)) + 1 : Nat) := by rw [c2]; congr 1; omega
  obtain ⟨y1, y2, y3, y4, y5⟩ := EG.nx_ok hl c1 hfx
  have hcu : g.cu b a (k + 1) = g.nx b x := by simp only [EG.cu]; rw [hx]
  generalize hy : g.nx b x = T at *
  simp [go_sem, hne]
  refine call_val (far57 g h hl x b (by omega) (by omega) ib.1 ib.2.1) rfl rfl ?_
  simp [go_sem]
  refine GLoop_s T_ok (α := Nat) (fun y => [(1, .i x), (2, .i b), (3, .ptr 0 0 3 0), (8, .sl 1 1 0 (k + 1) none), (9, .i (g.far x b)), (10, .i y)]) (fun _ => [g.bx, some (.vec 3 1 (k + 1) (ints (g.way a b k)))]) 2 (fun y => y ≤ T) (fun y => T - y) 0 (fun _ => rfl) (by simp) (by simp [go_sem]) (by simp [go_sem]) ?_
  intro y J2 hy2
  simp [go_sem]
  have hlk := linked58 g h x y
  have hfar := far57 g h hl y b (by omega) (by omega) ib.1 ib.2.1
  have hfd : g.far x b = (n - (k + 1) : Nat) + 1 := by rw [hfx]; omega
  by_cases hyT : y = T
  · subst hyT
    refine call_val (hlk.val (v' := .b true) (by rw [← EG.lk, y3])) rfl rfl ?_
    simp [go_sem]
    refine call_val hfar rfl rfl ?_
    simp [go_sem, y4, hfd]
    refine ⟨by omega, by omega, k + 1, by omega, by omega, ⟨by rw [hcu], rfl⟩, by omega, fun i hi => ?_⟩
    unfold ints
    rw [← way_row g hi, hcu]
    unfold joined
    by_cases h5 : i < k + 1
    · rw [if_pos h5, if_pos h5]; rfl
    · have h6 : i - (k + 1) = 0 := by omega
      rw [if_neg h5, if_neg h5, if_pos (by omega), h6]; rfl
  have hyl : y < T := by omega
  have hno := y5 y hyl
  by_cases hc : g.lk x y = true
  · refine call_val (hlk.val (v' := .b true) (by rw [← EG.lk, hc])) rfl rfl ?_
    simp [go_sem]
    refine call_val hfar rfl rfl ?_
    have hd : ¬ g.far y b = g.far x b - 1 := by
      rw [hc] at hno
      simpa using hno
    have hfl := g.far_lt y b
    simp [go_sem, hd]
    exact ⟨by omega, by omega, y + 1, by omega, by omega, by omega⟩
  · have hc' : g.lk x y = false := by simpa using hc
    refine call_val (hlk.val (v' := .b false) (by rw [← EG.lk, hc'])) rfl rfl ?_
    simp [go_sem]
    exact ⟨by omega, y + 1, by omega, by omega, by omega⟩
end Go.Gx
