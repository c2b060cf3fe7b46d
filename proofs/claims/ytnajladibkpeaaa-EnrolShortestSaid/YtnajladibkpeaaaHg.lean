/-
  The law of shortest reasons.
-/
import Derived.Test.YtnajladibkpeaaaW7
set_option linter.unusedVariables false
set_option linter.unusedSimpArgs false
set_option maxRecDepth 20000
set_option maxHeartbeats 4000000
namespace Go.Gx
open Go.RowKit Go.Proofs Go.Proofs.Ytnajladibkpeaaa

theorem EG.near {g : EG} (hl : g.inl) {a b n y : Nat} (ha : a < g.nr) (hy : y < g.nr) (h : g.far a b = (n + 1 : Nat)) (hadj : g.adj g.nl a y) : ∃ m : Nat, g.far y b = m ∧ n ≤ m ∧ (m = n → g.nx b a ≤ y) := by
  obtain ⟨h1, h2⟩ := EG.far_rc h
  have h3 : g.rc y (n + 1 + 1) b = true := (EG.rc_left hl).2 (.inr ⟨a, EG.adj_symm hadj, h1⟩)
  obtain ⟨m, _, _, h5, h6, _⟩ := EG.far_ex hl hy h3
  refine ⟨m, h5, ?_, fun e => ?_⟩
  · have h7 : g.rc a (m + 1) b = true := (EG.rc_left hl).2 (.inr ⟨y, hadj, h6⟩)
    apply Classical.byContradiction
    intro h8
    have := h2 (m + 1) (by omega)
    rw [h7] at this
    cases this
  · apply Classical.byContradiction
    intro h8
    have := (EG.nx_ok hl ha h).2.2.2.2 y (by omega)
    rw [EG.lk_iff.2 hadj, h5, h, e] at this
    simp at this
theorem EG.cu_tail (g : EG) (a b : Nat) : ∀ k, g.cu b (g.cu b a 1) k = g.cu b a (k + 1)
  | 0 => rfl
  | k + 1 => by
    show g.nx b (g.cu b (g.cu b a 1) k) = g.nx b (g.cu b a (k + 1))
    rw [EG.cu_tail g a b k]
theorem EG.way_nth (g : EG) {a b k i : Nat} (hi : i < k + 1) : nth (g.way a b k) i = g.cu b a i := by
  unfold nth EG.way
  simp [List.getD, hi]
theorem EG.wE_zero {g : EG} {a b : Int} (h : g.wE a b = 0) : g.valid = true ∧ g.th a = true ∧ g.th b = true ∧ 0 ≤ g.far a b := by
  unfold EG.wE at h
  cases hv : g.valid
  · simp [hv] at h
  · cases ha : g.th a <;> cases hb : g.th b <;> simp [hv, ha, hb] at h ⊢
    exact h
theorem EG.wE_of {g : EG} {a b : Int} (hv : g.valid = true) (ha : g.th a = true) (hb : g.th b = true) (h : 0 ≤ g.far a b) : g.wE a b = 0 := by
  unfold EG.wE
  simp [hv, ha, hb, h]
theorem law8 (g : EG) (a b : Int) (_ : -9223372036854775808 ≤ a) (_ : a ≤ 9223372036854775807) (_ : -9223372036854775808 ≤ b) (_ : b ≤ 9223372036854775807) : Pure Try.prog 8 [g.sv, .i a, .i b] (· = .b true) := by
  refine pure_of_GC T_ok Try.func8 rfl (by kernel_rfl) (Nat.le_of_ble_eq_true rfl) rfl rfl ?_
  simp [go_sem]
  refine call_val alive46 rfl rfl ?_
  simp [go_sem]
  refine call_val (great12' g) rfl rfl ?_
  cases hg : g.great
  rotate_left
  · simp [go_sem]
  have hb := EG.Bd.of_great hg
  have hok := (hb.sm (by decide)).ok
  have hnl := hb.nl
  have hnr := hb.nr
  simp [go_sem]
  have hw := why20 g hok (by omega) a b
  by_cases hE : g.wE a b = 0
  rotate_left
  · rw [EG.wS_no hE] at hw
    refine call_val hw rfl rfl ?_
    simp [go_sem, hE]
  obtain ⟨hv, ta, tb, h0⟩ := EG.wE_zero hE
  have hl := EG.valid_inl hv
  have hth := EG.valid_lth hv
  have a1 := EG.th_iff.1 ta
  have b1 := EG.th_iff.1 tb
  obtain ⟨a, rfl⟩ : ∃ n : Nat, a = n := ⟨a.toNat, by omega⟩
  obtain ⟨b, rfl⟩ : ∃ n : Nat, b = n := ⟨b.toNat, by omega⟩
  obtain ⟨n, hn⟩ : ∃ n : Nat, g.far a b = n := ⟨(g.far a b).toNat, by omega⟩
  have hlt := (g.far_lt a b).2
  rw [EG.wS_yes hE hn, hE] at hw
  refine call_val hw rfl rfl ?_
  match n, hn, hw with
  | 0, hn, hw =>
    have e : a = b := EG.far_zero hn
    simp [go_sem, e]
  | n + 1, hn, hw =>
    have l1 : ¬ ((n : Int) + 1 + 1 < 2) := by omega
    obtain ⟨x1, x2, x3, x4, x5⟩ := EG.nx_ok hl (by omega) hn
    have tn : g.th (g.nx b a : Nat) = true := by
      obtain ⟨j, j1, j2, j3⟩ := EG.lk_iff.1 x3
      rcases j3 with ⟨_, e⟩ | ⟨_, e⟩
      · rw [← e]; exact (hth j j1).2
      · rw [← e]; exact (hth j j1).1
    have hE2 : g.wE (g.nx b a : Nat) b = 0 := EG.wE_of hv tn tb (by omega)
    have hw2 := why20 g hok (by omega) (g.nx b a : Nat) b
    rw [EG.wS_yes hE2 x4, hE2] at hw2
    have hrow : intsR (g.way a b (n + 1)) 1 0 = .i (g.nx b a : Nat) := by
      show RV.i (nth (g.way a b (n + 1)) 1 : Nat) = _
      rw [EG.way_nth g (by omega)]
      rfl
    simp [go_sem, l1]
    refine GDraw_all T_ok (by kernel_rfl) (by kernel_rfl) ?_
    have l2 : 1 < (n : Int) + 1 + 1 := by omega
    have l3 : 1 ≤ (n : Int) + 1 + 1 := by omega
    have hsame : Pure Try.prog 24 [.r (.rs 1 (n + 1) (intsR (g.way (g.nx b a) b n))), .r (.rs 1 (n + 1) fun i j => intsR (g.way a b (n + 1)) (1 + i) j)] (· = .b true) := by
      have h := sameInts24 (n + 1) (n + 1) (by omega) (by omega) (intsR (g.way (g.nx b a) b n)) (fun i j => intsR (g.way a b (n + 1)) (1 + i) j) (fun i => (g.cu b a (i + 1) : Nat)) (fun i => (g.cu b a (i + 1) : Nat)) (fun i hi => ?_) (fun i hi => ?_)
      · have e : (decide (n + 1 = n + 1) && (List.range (n + 1)).all fun i => decide (((g.cu b a (i + 1) : Nat) : Int) = (g.cu b a (i + 1) : Nat))) = true := by simp
        rw [e] at h
        exact h
      · show RV.i (nth (g.way (g.nx b a) b n) i : Nat) = _
        rw [EG.way_nth g hi]
        have := g.cu_tail a b i
        rw [← this]
        rfl
      · show RV.i (nth (g.way a b (n + 1)) (1 + i) : Nat) = _
        rw [EG.way_nth g (by omega), Nat.add_comm]
    simp [go_sem, hrow, l2]
    refine ⟨_, dcall_val hw2 rfl rfl, by simp [SV.refs, SV.refsL], ?_⟩
    simp [go_sem, l2, l3]
    refine call_val hsame rfl rfl ?_
    simp [go_sem]
    refine GLoop_s T_ok (α := Nat) (fun j => [(1, .i a), (2, .i b), (3, .ptr 0 0 3 0), (7, .b true), (8, .r (.rs 1 (n + 1 + 1) (intsR (g.way a b (n + 1))))), (73, g.ll), (74, .i g.nl), (75, .i j)]) (fun _ => [g.bx]) 1
      (fun j => j ≤ g.nl) (fun j => g.nl - j) 0 (fun _ => rfl) (by simp) (by simp [go_sem]) (by simp [go_sem]) ?_
    intro j J hj
    by_cases hlt2 : j < g.nl
    rotate_left
    · have e : j = g.nl := by omega
      subst e
      simp [go_sem]
    simp [go_sem, hlt2]
    by_cases ht : g.tch a j = true
    rotate_left
    · have ht' : (g.l j).s = false ∨ ¬ (g.l j).a = a ∧ ¬ (g.l j).b = a := by
        unfold EG.tch at ht
        cases hs : (g.l j).s <;> simp [hs] at ht ⊢
        exact ht
      cases hs : (g.l j).s
      · simp [go_sem]
        exact ⟨by omega, j + 1, by omega, by omega, by omega⟩
      · rw [hs] at ht'
        simp at ht'
        simp [go_sem, ht'.1, ht'.2]
        exact ⟨by omega, j + 1, by omega, by omega, by omega⟩
    have hy := EG.ot_eq hl hlt2 ht
    have hadj : g.adj g.nl a (g.ot a j : Nat) := (EG.tch_adj hl).2 ⟨j, hlt2, ht, rfl⟩
    have ht' : (g.l j).s = true ∧ ((g.l j).a = a ∨ ¬ (g.l j).a = a ∧ (g.l j).b = a) := by
      unfold EG.tch at ht
      cases hs : (g.l j).s <;> simp [hs] at ht ⊢
      by_cases e : (g.l j).a = a <;> simp [e] at ht ⊢
      exact ht
    have ty : g.th (g.ot a j : Nat) = true := by
      rw [hy]
      rcases ht'.2 with e | ⟨_, e⟩
      · rw [e, show (a : Int) + (g.l j).b - a = (g.l j).b by omega]; exact (hth j hlt2).2
      · rw [e, show (g.l j).a + (a : Int) - a = (g.l j).a by omega]; exact (hth j hlt2).1
    generalize g.ot a j = y at *
    have y1 := EG.th_iff.1 ty
    have bj := hl j hlt2
    obtain ⟨m, m1, m2, m3⟩ := EG.near hl (by omega) (by omega) hn hadj
    have hE3 : g.wE (y : Nat) b = 0 := EG.wE_of hv ty tb (by omega)
    have hw3 := why20 g hok (by omega) (y : Nat) b
    rw [EG.wS_yes hE3 m1, hE3] at hw3
    have c1 : ¬ ((m : Int) + 1 < (n : Int) + 1 + 1 - 1) := by omega
    have c2 : (m : Int) + 1 = (n : Int) + 1 + 1 - 1 → ¬ (y : Int) < (g.nx b a : Nat) := fun h => by have := m3 (by omega); omega
    have hmlt := (g.far_lt y b).2
    rcases ht' with ⟨hs, ea | ⟨ea, eb⟩⟩
    · rw [if_pos hs, if_pos ea]
      refine GDraw_all T_ok (by kernel_rfl) (by kernel_rfl) ?_
      simp [go_sem, hlt2, ← hy]
      refine ⟨⟨by omega, by omega⟩, by omega, ?_⟩
      refine call_val hw3 rfl rfl ?_
      simp [go_sem, hrow, c1]
      have fin : ∃ x', x' ≤ g.nl ∧ g.nl - x' < g.nl - j ∧ (j : Int) + 1 = (x' : Int) := ⟨j + 1, by omega, by omega, by omega⟩
      refine ⟨by omega, m2, by omega, ?_⟩
      split
      · exact ⟨by omega, m3 (by omega), by omega, fin⟩
      · exact ⟨by omega, fin⟩
    · rw [if_pos hs, if_neg ea, if_pos eb]
      refine GDraw_all T_ok (by kernel_rfl) (by kernel_rfl) ?_
      simp [go_sem, hlt2, ← hy]
      refine ⟨⟨by omega, by omega⟩, by omega, ?_⟩
      refine call_val hw3 rfl rfl ?_
      simp [go_sem, hrow, c1]
      have fin : ∃ x', x' ≤ g.nl ∧ g.nl - x' < g.nl - j ∧ (j : Int) + 1 = (x' : Int) := ⟨j + 1, by omega, by omega, by omega⟩
      refine ⟨by omega, m2, by omega, ?_⟩
      split
      · exact ⟨by omega, m3 (by omega), by omega, fin⟩
      · exact ⟨by omega, fin⟩
end Go.Gx
