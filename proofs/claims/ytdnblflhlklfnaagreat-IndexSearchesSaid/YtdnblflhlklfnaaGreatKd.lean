/-
  The reference's Valid, Check and Twin.
-/
import Derived.Test.YtdnblflhlklfnaaGreatKc
set_option linter.unusedVariables false
set_option linter.unusedSimpArgs false
set_option maxRecDepth 20000
set_option maxHeartbeats 4000000
namespace Go.Gx.Ix
open Go.RowKit Go.Proofs Go.Proofs.YtdnblflhlklfnaaGreat

theorem valid59 (x : IxG) (h : x.Sm) : Pure Tryz.prog 24 [x.sv] (· = .b (validX x)) := by
  refine pure_of_GC T_ok Tryz.func24 rfl (by kernel_rfl) (Nat.le_of_ble_eq_true rfl) rfl rfl ?_
  obtain ⟨e, he⟩ : ∃ e, validX x = e := ⟨_, rfl⟩
  have hms := h.ms
  have hv0 : e = true → VL x.ms ∧ SL x.ms := fun h => by
    rw [h] at he
    exact ⟨(valid_eq he).1, (valid_eq he).2.1⟩
  have hv1 : VL x.ms → x.eqB (ofG x.ms) = e := fun h1 => by
    rw [← he, Bool.eq_iff_iff]
    exact ⟨eqB_valid ((buildE_iff _).2 h1), valid_eqB⟩
  have hof := fun h1 : VL x.ms => of54 (l := x.ms) hms h1.nd
  have hsm := same18 x (ofG x.ms) h
  rw [he]
  simp [go_sem, sv_ixC]
  by_cases hl : (x.ms.length : Int) ≤ 256
  rotate_left
  · have e0 : e = false := by
      cases e
      · rfl
      · have := (hv0 rfl).1.len; omega
    subst e0
    simp [go_sem, hl]
    try omega
  rw [if_neg (by omega)]
  refine GLoop_s T_ok (α := Nat) (fun k => [(1, .ptr 0 0 9 0), (3, .i k)]) (fun k => [some (.box (ixC x))]) 1 (fun k => k ≤ x.ms.length ∧ (∀ a ∈ x.ms.take k, okN a.id = true ∧ a.x.ok = true) ∧ SL (x.ms.take k)) (fun k => x.ms.length - k) 0 (fun _ => rfl) ⟨by omega, by simp, by simp [SL]⟩ (by simp [go_sem]) (by simp [go_sem]) ?_
  rintro k J ⟨hk, hal, hsl⟩
  by_cases hkl : k < x.ms.length
  · have r0 := mrow hkl 0
    have r1 := mrow hkl 1
    have r2 := mrow hkl 2
    have hts := List.take_succ_eq_append_getElem hkl
    have hbad : (okN x.ms[k].id = false ∨ x.ms[k].x.ok = false ∨ ∃ b, 0 < k ∧ x.ms[k - 1]? = some b ∧ x.ms[k].id ≤ b.id) → e = false := fun hb => by
      cases e
      · rfl
      · obtain ⟨v1, v2⟩ := hv0 rfl
        have q1 := v1.num _ (List.getElem_mem hkl)
        have q2 := v1.ok _ (List.getElem_mem hkl)
        rcases hb with hb | hb | ⟨b, h0, hb1, hb⟩
        · rw [q1] at hb; cases hb
        · rw [q2] at hb; cases hb
        · have := List.pairwise_iff_getElem.1 v2 (k - 1) k (by omega) hkl (by omega)
          have this : (x.ms[k - 1]'(by omega)).id < x.ms[k].id := this
          rw [List.getElem?_eq_getElem (by omega)] at hb1
          rw [← Option.some.inj hb1] at hb
          omega
    have hgood : okN x.ms[k].id = true → x.ms[k].x.ok = true → (∀ b, 0 < k → x.ms[k - 1]? = some b → b.id < x.ms[k].id) → (∀ a ∈ x.ms.take (k + 1), okN a.id = true ∧ a.x.ok = true) ∧ SL (x.ms.take (k + 1)) := fun q1 q2 q3 => by
      rw [hts]
      refine ⟨fun a ha => ?_, ?_⟩
      · rcases List.mem_append.1 ha with ha | ha
        · exact hal a ha
        · rw [List.mem_singleton.1 ha]; exact ⟨q1, q2⟩
      · unfold SL
        rw [List.pairwise_append]
        refine ⟨hsl, List.pairwise_singleton _ _, fun a ha b hb => ?_⟩
        rw [List.mem_singleton.1 hb]
        obtain ⟨i, hi, rfl⟩ := List.mem_iff_getElem.1 ha
        rw [List.length_take] at hi
        rw [List.getElem_take]
        have h3 := q3 _ (by omega) (List.getElem?_eq_getElem (by omega))
        by_cases hik : i = k - 1
        · subst hik; exact h3
        · have := List.pairwise_iff_getElem.1 hsl i (k - 1) (by rw [List.length_take]; omega) (by rw [List.length_take]; omega) (by omega)
          rw [List.getElem_take, List.getElem_take] at this
          have this : x.ms[i].id < (x.ms[k - 1]'(by omega)).id := this
          omega
    by_cases hk0 : k = 0
    · subst hk0
      generalize x.ms[0] = a at *
      simp [go_sem, hkl, r0, r1, r2]
      refine GDraw_all T_ok (by kernel_rfl) (by kernel_rfl) ?_
      simp [go_sem]
      refine ⟨_, dcall_val (within53 a.id 0 1073741824) rfl rfl, by simp [SV.refs], ?_⟩
      have hok : btw 0 1073741824 a.id = okN a.id := rfl
      rw [hok]
      cases h1 : okN a.id
      · have e0 := hbad (.inl h1)
        subst e0
        simp [go_sem]
      simp [go_sem]
      refine ⟨_, dcall_val (valid34 a.x.c a.x.m) rfl rfl, by simp [SV.refs], ?_⟩
      have hvi : vI a.x.c a.x.m = a.x.ok := rfl
      rw [hvi]
      cases h2 : a.x.ok
      · have e0 := hbad (.inr (.inl h2))
        subst e0
        simp [go_sem]
      simp [go_sem]
      exact ⟨1, ⟨by omega, (hgood h1 h2 (fun b h => absurd h (Nat.lt_irrefl 0))).1, (hgood h1 h2 (fun b h => absurd h (Nat.lt_irrefl 0))).2⟩, by omega, rfl⟩
    · have hk1 : k - 1 < x.ms.length := by omega
      have s0 : mrows x.ms (k - 1) 0 = .i x.ms[k - 1].id := mrow hk1 0
      have hkt : ((k : Int) - 1).toNat = k - 1 := by omega
      have hk0' : 0 < k := by omega
      have hkm : (k : Int) - 1 < x.ms.length := by omega
      have hb? : x.ms[k - 1]? = some x.ms[k - 1] := List.getElem?_eq_getElem hk1
      generalize x.ms[k - 1] = b at *
      generalize x.ms[k] = a at *
      simp [go_sem, hkl, r0, r1, r2]
      refine GDraw_all T_ok (by kernel_rfl) (by kernel_rfl) ?_
      simp [go_sem]
      refine ⟨_, dcall_val (within53 a.id 0 1073741824) rfl rfl, by simp [SV.refs], ?_⟩
      have hok : btw 0 1073741824 a.id = okN a.id := rfl
      rw [hok]
      cases h1 : okN a.id
      · have e0 := hbad (.inl h1)
        subst e0
        simp [go_sem]
      simp [go_sem]
      refine ⟨_, dcall_val (valid34 a.x.c a.x.m) rfl rfl, by simp [SV.refs], ?_⟩
      have hvi : vI a.x.c a.x.m = a.x.ok := rfl
      rw [hvi]
      cases h2 : a.x.ok
      · have e0 := hbad (.inr (.inl h2))
        subst e0
        simp [go_sem]
      simp [go_sem, hkt, hk0', hk0, hkl, hk1, hkm, s0]
      refine ⟨by omega, by omega, ?_⟩
      by_cases hab : a.id ≤ b.id
      · rw [if_pos hab]
        exact hbad (.inr (.inr ⟨b, hk0', hb?, hab⟩))
      · rw [if_neg hab]
        obtain ⟨g1, g2⟩ := hgood h1 h2 fun b' _ hb' => by
          rw [hb?] at hb'
          rw [← Option.some.inj hb']
          omega
        exact ⟨by omega, k + 1, ⟨by omega, g1, g2⟩, by omega, by omega⟩
  · have hke : k = x.ms.length := by omega
    subst hke
    rw [List.take_length] at hal hsl
    have hvl : VL x.ms := ⟨by omega, fun a ha => (hal a ha).1, fun a ha => (hal a ha).2, hsl.nd⟩
    have h1 := hof hvl
    rw [hv1 hvl] at hsm
    generalize ofG x.ms = y at *
    simp [go_sem, sv_ixC] at h1 hsm ⊢
    refine GDraw_l (t := (.take 0 (.take 1 (.take 2 (.alt 3 [2, 1, 0] (.alt 4 [1, 0] (.take 5 (.done [5, 1])) .nil) .nil))))) T_ok (by kernel_rfl) (by kernel_rfl) (by kernel_rfl) (fun _ _ _ _ h => h) ?_
    simp [go_sem, sv_ixC]
    refine call_val h1 rfl rfl ?_
    simp [go_sem, sv_ixC]
    refine call_val hsm rfl rfl ?_
    simp [go_sem]
theorem joined0 {n : Nat} {g r : Nat → Nat → SV} {i j : Nat} (h : i < n) : joined 0 n g r i j = r i j := by
  unfold joined; rw [if_neg (by omega), if_pos (by omega)]; rfl
theorem twin23 (x : IxG) (h : x.Sm) : Pure Tryz.prog 5 [x.sv] (· = x.sv) := by
  refine pure_of_GC T_ok Tryz.func5 rfl (by kernel_rfl) (Nat.le_of_ble_eq_true rfl) rfl rfl ?_
  simp [go_sem, sv_ixC]
  have hms := h.ms
  refine ⟨by omega, ?_⟩
  refine GLoop_fit T_ok (α := Nat) (fun j => [(1, .ptr 0 0 9 0), (2, .ptr 1 0 9 0), (3, .i j)]) (fun j => memL [some (.box (ixC x)), some (.box [nilS, nilS, nilS, nilS, nilS, nilS, nilS, nilS, nilS])]) 2 (fun j => j ≤ 8) (fun j => 8 - j) 0 (by simp) ?_ ?_
  · refine Fit.vw (GSt.freeze 2 (by rfl)) (Fit_of_regs (Nat.zero_le _) rfl (by simp [go_sem]) ?_)
    simp [go_sem]
    intro i j hi hj
    rw [joined0 hi]; rfl
  intro j J hj
  by_cases hjl : j < 8
  · have hjl' : (j : Int) < 8 := by omega
    have hix := ixC_at x hjl
    obtain ⟨hL1, hL2⟩ := h.ch j hjl
    obtain ⟨L, hL⟩ : ∃ L, x.ch j = L := ⟨_, rfl⟩
    rw [hL] at hix hL1 hL2
    simp [go_sem, hjl, hjl', hix]
    refine ⟨by omega, by omega, ?_⟩
    refine GLoop_fit T_ok (α := Nat) (fun k => [(1, .ptr 0 0 9 0), (2, .ptr 1 0 9 0), (3, .i j), (4, .sl 2 3 0 L.length none), (5, .i k)]) (fun k => memL [some (.box (ixC x)), some (.box [nilS, nilS, nilS, nilS, nilS, nilS, nilS, nilS, nilS]), some (preg L)]) 3 (fun k => k ≤ L.length) (fun k => L.length - k) 0 (by simp) (Fit_of_regs (Nat.zero_le _) rfl (by simp [go_sem]) ?_) ?_
    · simp [go_sem]
      intro i j hi hj
      rw [joined0 hi]; rfl
    intro k J hk
    by_cases hkl : k < L.length
    · have q0 := prow hkl 0
      have q1 := prow hkl 1
      have q2 := prow hkl 2
      have hpi := hL2 L[k] (List.getElem_mem hkl)
      generalize L[k] = P at *
      simp [go_sem, hkl, q0, q1, q2]
      refine ⟨by omega, by omega, k + 1, by omega, by omega, Fit.vw (GSt.freeze 3 (by rfl)) (Fit_of_regs (Nat.zero_le _) rfl (by simp [go_sem]) ?_)⟩
      simp [go_sem]
      intro i c hi hc
      by_cases hik : i = k ∧ 2 ≤ c ∧ c < 3
      · obtain ⟨rfl, h2, h3⟩ := hik
        obtain rfl : c = 2 := by omega
        rw [if_pos ⟨rfl, h2, h3⟩, q2]
        have he : (fun i j => (SV.kill 3 (joined 0 P.ids.length (fun i j => SV.r RV.any) (fun i j => SV.r (irows P.ids i j)) (0 + i) j)).toRV) = irows P.ids := by
          funext i j
          rw [Nat.zero_add]
          by_cases hi : i < P.ids.length
          · rw [joined0 hi]; rfl
          · unfold joined irows rowsL
            rw [if_neg (by omega), if_neg (by omega), List.getElem?_eq_none (by omega)]; rfl
        simp only [Nat.zero_add] at he
        simp [SV.fz, SV.trim]
        rw [he]; rfl
      · rw [if_neg hik]; rfl
    · have hke : k = L.length := by omega
      subst hke
      simp [go_sem]
      refine ⟨by omega, by omega, by omega, j + 1, by omega, by omega, Fit.vw (GSt.freeze 2 (by rfl)) (Fit_of_regs (Nat.zero_le _) rfl (by simp [go_sem]) ?_)⟩
      rcases (show j = 0 ∨ j = 1 ∨ j = 2 ∨ j = 3 ∨ j = 4 ∨ j = 5 ∨ j = 6 ∨ j = 7 by omega) with rfl | rfl | rfl | rfl | rfl | rfl | rfl | rfl <;> simp [go_sem, hL]
  · have hj8 : j = 8 := by omega
    subst hj8
    simp [go_sem]
end Go.Gx.Ix
