/-
  IndexStrict.
-/
import Derived.Test.YtdnblflhlklfnaaJf
set_option linter.unusedVariables false
set_option linter.unusedSimpArgs false
set_option maxRecDepth 20000
set_option maxHeartbeats 4000000
namespace Go.Gx.Ix
open Go.RowKit Go.Proofs Go.Proofs.Ytdnblflhlklfnaa

theorem ixC_at (x : IxG) {j : Nat} (h : j < 8) : (ixC x)[1 + j]?.getD (SV.r RV.any) = pls (x.ch j) := by
  rcases (show j = 0 ∨ j = 1 ∨ j = 2 ∨ j = 3 ∨ j = 4 ∨ j = 5 ∨ j = 6 ∨ j = 7 by omega) with rfl | rfl | rfl | rfl | rfl | rfl | rfl | rfl <;> rfl
def grC (L : List PsG) : Bool := decide (300 < L.length) || L.any fun p => decide (300 < p.ids.length)
def grB (x : IxG) : Bool := decide (300 < x.ms.length) || (List.range 8).any fun j => grC (x.ch j)
theorem great15 (x : IxG) : Pure Try.prog 15 [x.sv] (· = .b (grB x)) := by
  refine pure_of_GC T_ok Try.func15 rfl (by kernel_rfl) (Nat.le_of_ble_eq_true rfl) rfl rfl ?_
  obtain ⟨e, he⟩ : ∃ e, grB x = e := ⟨_, rfl⟩
  rw [he]
  simp [go_sem, sv_ixC]
  by_cases h0 : 300 < x.ms.length
  · have e1 : e = true := by rw [← he, grB]; simp [h0]
    subst e1
    have h0' : ¬ (x.ms.length : Int) ≤ 300 := by omega
    simp [go_sem, h0, h0']
    try omega
  have h0' : (x.ms.length : Int) ≤ 300 := by omega
  rw [if_neg (by omega)]
  have hr : ∀ j, j < 8 → grC (x.ch j) = true → e = true := fun j hj h => by
    rw [← he, grB, Bool.or_eq_true]
    exact .inr (List.any_eq_true.2 ⟨j, List.mem_range.2 hj, h⟩)
  have hn : (∀ j, j < 8 → grC (x.ch j) = false) → e = false := fun h => by
    rw [← he, grB, Bool.or_eq_false_iff]
    exact ⟨by simpa using h0, List.any_eq_false.2 fun j hj => by rw [h j (List.mem_range.1 hj)]; simp⟩
  refine GLoop_s T_ok (α := Nat) (fun j => [(1, .ptr 0 0 9 0), (3, .i j)]) (fun _ => [some (.box (ixC x))]) 1 (fun j => j ≤ 8 ∧ ∀ i, i < j → grC (x.ch i) = false) (fun j => 8 - j) 0 (fun _ => rfl) (by simp) (by simp [go_sem]) (by simp [go_sem]) ?_
  rintro j J ⟨hj, hall⟩
  by_cases hjl : j < 8
  · have hjl' : (j : Int) < 8 := by omega
    have hix := ixC_at x hjl
    have hrj := hr j hjl
    obtain ⟨L, hL⟩ : ∃ L, x.ch j = L := ⟨_, rfl⟩
    rw [hL] at hix hrj
    simp [go_sem, hjl, hjl', hix]
    refine ⟨by omega, ?_⟩
    by_cases h1 : 300 < L.length
    · have e1 := hrj (by unfold grC; simp [h1])
      subst e1
      have h1' : ¬ (L.length : Int) ≤ 300 := by omega
      simp [go_sem, h1, h1']
      try omega
    have h1' : (L.length : Int) ≤ 300 := by omega
    have h1'' : L.length ≤ 300 := by omega
    rw [if_neg (by omega)]
    refine GLoop_s T_ok (α := Nat) (fun k => [(1, .ptr 0 0 9 0), (3, .i j), (4, .i k)]) (fun _ => [some (.box (ixC x))]) 1 (fun k => k ≤ L.length ∧ ∀ p ∈ L.take k, ¬ 300 < p.ids.length) (fun k => L.length - k) 0 (fun _ => rfl) (by simp) (by simp [go_sem]) (by simp [go_sem]) ?_
    rintro k J ⟨hk, hkall⟩
    by_cases hkl : k < L.length
    · have q2 := prow hkl 2
      have hmem := List.getElem_mem hkl
      have hts := List.take_succ_eq_append_getElem hkl
      generalize L[k] = P at *
      simp [go_sem, hkl, q2, hix]
      refine ⟨by omega, by omega, ?_⟩
      by_cases h2 : 300 < P.ids.length
      · have e1 := hrj (by unfold grC; rw [Bool.or_eq_true]; exact .inr (List.any_eq_true.2 ⟨P, hmem, by simpa using h2⟩))
        subst e1
        have h2' : ¬ (P.ids.length : Int) ≤ 300 := by omega
        simp [go_sem, h2, h2']
        try omega
      · have h2' : (P.ids.length : Int) ≤ 300 := by omega
        have h2'' : P.ids.length ≤ 300 := by omega
        rw [if_neg (by omega)]
        refine ⟨by omega, by omega, by omega, k + 1, ⟨by omega, fun p hp => ?_⟩, by omega, by omega⟩
        rw [hts] at hp
        rcases List.mem_append.1 hp with hp | hp
        · have := hkall p hp; omega
        · rw [List.mem_singleton.1 hp]; exact h2''
    · have hke : k = L.length := by omega
      subst hke
      rw [List.take_length] at hkall
      simp [go_sem, hix]
      refine ⟨by omega, by omega, by omega, j + 1, ⟨by omega, fun i hi => ?_⟩, by omega, by omega⟩
      by_cases hij : i = j
      · subst hij
        rw [hL, grC, Bool.or_eq_false_iff]
        exact ⟨by simpa using h1'', List.any_eq_false.2 fun p hp => by simpa using hkall p hp⟩
      · exact hall i (by omega)
  · have hj8 : j = 8 := by omega
    subst hj8
    have e1 := hn hall
    subst e1
    simp [go_sem]
theorem grB_sm {x : IxG} (h : grB x = false) : x.Sm := by
  unfold grB at h
  rw [Bool.or_eq_false_iff] at h
  obtain ⟨h1, h2⟩ := h
  have h1 : ¬ 300 < x.ms.length := by simpa using h1
  refine ⟨by omega, fun j hj => ?_⟩
  have h3 := List.any_eq_false.1 h2 j (List.mem_range.2 hj)
  rw [Bool.not_eq_true, grC, Bool.or_eq_false_iff] at h3
  obtain ⟨h4, h5⟩ := h3
  have h4 : ¬ 300 < (x.ch j).length := by simpa using h4
  refine ⟨by omega, fun p hp => ?_⟩
  have h6 := List.any_eq_false.1 h5 p hp
  have h6 : ¬ 300 < p.ids.length := by simpa using h6
  omega
theorem eqB_valid {x : IxG} (he : buildE x.ms = 0) (h : x.eqB (ofG x.ms) = true) : validX x = true := by
  unfold IxG.eqB at h
  unfold validX
  rw [Bool.and_eq_true] at h
  rw [h.1, h.2, he]
  rfl
theorem valid_eqB {x : IxG} (h : validX x = true) : x.eqB (ofG x.ms) = true := by
  unfold validX at h
  unfold IxG.eqB
  rw [Bool.and_eq_true, Bool.and_eq_true] at h
  rw [h.2, h.1.2]
  rfl
/-- How many numbers are in postings. -/
def idS (L : List PsG) : Nat := (L.map (·.ids.length)).sum
theorem law11 (x : IxG) : Pure Try.prog 11 [x.sv] (· = .b true) := by
  refine pure_of_GC T_ok Try.func11 rfl (by kernel_rfl) (Nat.le_of_ble_eq_true rfl) rfl rfl ?_
  have hg := great15 x
  simp [go_sem, sv_ixC] at hg ⊢
  refine call_val alive32 rfl rfl ?_
  simp [go_sem, sv_ixC]
  refine call_val hg rfl rfl ?_
  cases hgr : grB x
  rotate_left
  · simp [go_sem]
  have hsm := grB_sm hgr
  have hms := hsm.ms
  simp [go_sem]
  refine call_val (build16 x.ms (by omega)) rfl rfl ?_
  have hc := check19 x hsm
  have hs := same18 x (ofG x.ms) hsm
  have he1 : buildE x.ms = 0 → x.eqB (ofG x.ms) = validX x := fun h => by
    rw [Bool.eq_iff_iff]
    exact ⟨eqB_valid h, valid_eqB⟩
  have hv0 : validX x = true → buildE x.ms = 0 ∧ ∀ j, j < 8 → ((x.ch j).map (·.ids.length)).sum = x.ms.length := fun h => by
    obtain ⟨h1, h2, h3⟩ := valid_eq h
    refine ⟨(buildE_iff _).2 h1, fun j hj => ?_⟩
    rw [h3 j hj, (ofG_post x.ms j).sum, srt_len]
  have hbx : buildE x.ms = 0 → buildX x.ms = ofG x.ms := fun h => by unfold buildX; rw [if_pos h]
  obtain ⟨y, hy⟩ : ∃ y, buildX x.ms = y := ⟨_, rfl⟩
  rw [hy] at hbx ⊢
  by_cases he : buildE x.ms = 0
  rotate_left
  · have hcv : checkE x = 40 := by
      unfold checkE
      rw [if_neg]
      exact fun h => he (hv0 h).1
    rw [hcv] at hc
    generalize buildE x.ms = e at *
    simp [go_sem, sv_ixC] at hc ⊢
    refine call_val hc rfl rfl ?_
    simp [go_sem, he]
  rw [he1 he, ← hbx he] at hs
  rw [he]
  cases hv : validX x
  · have hcv : checkE x = 40 := by unfold checkE; rw [hv]; rfl
    rw [hcv] at hc
    rw [hv] at hs
    simp [go_sem, sv_ixC] at hc hs ⊢
    refine call_val hc rfl rfl ?_
    simp [go_sem]
    refine call_val hs rfl rfl ?_
    simp [go_sem]
  have hcv : checkE x = 0 := by unfold checkE; rw [hv]; rfl
  obtain ⟨_, hsum⟩ := hv0 hv
  rw [hcv] at hc
  rw [hv] at hs
  simp [go_sem, sv_ixC] at hc hs ⊢
  refine call_val hc rfl rfl ?_
  simp [go_sem]
  refine GLoop_s T_ok (α := Nat) (fun j => [(1, .ptr 0 0 9 0), (3, .b true), (4, .ptr 1 0 9 0), (5, .i 0), (6, .i (j * x.ms.length : Nat)), (35, .i j)]) (fun _ => [some (.box (ixC x)), some (.box (ixC y))]) 2 (fun j => j ≤ 8) (fun j => 8 - j) 0 (fun _ => rfl) (by simp) (by simp [go_sem]) (by simp [go_sem]) ?_
  rintro j J hj
  by_cases hjl : j < 8
  · have hjl' : (j : Int) < 8 := by omega
    have hix := ixC_at x hjl
    have hsj := hsum j hjl
    obtain ⟨hL1, hL2⟩ := hsm.ch j hjl
    obtain ⟨L, hL⟩ : ∃ L, x.ch j = L := ⟨_, rfl⟩
    rw [hL] at hix hsj hL1 hL2
    simp [go_sem, hjl, hjl', hix]
    refine ⟨by omega, ?_⟩
    have hx3 : (j : Int) * x.ms.length = ((j * x.ms.length : Nat) : Int) := by simp
    have hx4 : j * x.ms.length ≤ 8 * 1000 := Nat.mul_le_mul hj hms
    have hx5 : (j + 1) * x.ms.length = j * x.ms.length + x.ms.length := by rw [Nat.succ_mul]
    have hpre : ∀ k, idS (L.take k) ≤ idS L := fun k => by
      unfold idS
      conv => rhs; rw [← List.take_append_drop k L]
      rw [List.map_append, List.sum_append]
      omega
    have hsj : idS L = x.ms.length := hsj
    have hid0 : idS [] = 0 := rfl
    refine GLoop_s T_ok (α := Nat) (fun k => [(1, .ptr 0 0 9 0), (3, .b true), (4, .ptr 1 0 9 0), (5, .i 0), (6, .i (j * x.ms.length : Nat)), (8, .i (idS (L.take k) : Nat)), (35, .i j), (41, pls L), (42, .i L.length), (43, .i k)]) (fun _ => [some (.box (ixC x)), some (.box (ixC y))]) 2 (fun k => k ≤ L.length) (fun k => L.length - k) 0 (fun _ => rfl) (by simp) (by simp [go_sem, hid0]) (by simp [go_sem]) ?_
    rintro k J hk
    by_cases hkl : k < L.length
    · have q0 := prow hkl 0
      have q1 := prow hkl 1
      have q2 := prow hkl 2
      have hmem := List.getElem_mem hkl
      have hts := List.take_succ_eq_append_getElem hkl
      have hpk := hL2 L[k] hmem
      have h1 := hpre k
      have h2 : idS (L.take (k + 1)) = idS (L.take k) + L[k].ids.length := by rw [hts]; unfold idS; rw [List.map_append, List.sum_append]; simp
      generalize L[k] = P at *
      generalize idS (L.take k) = u at *
      simp [go_sem, hkl, q0, q1, q2]
      refine ⟨by omega, by omega, k + 1, by omega, by omega, ?_, by omega⟩
      rw [h2]
      try omega
    · have hke : k = L.length := by omega
      subst hke
      rw [List.take_length, hsj]
      simp [go_sem]
      rw [hx3]
      refine ⟨by omega, by omega, j + 1, by omega, by omega, ?_, by omega⟩
      have e : ((j + 1 : Nat) : Int) * x.ms.length = (((j + 1) * x.ms.length : Nat) : Int) := by simp
      rw [e, hx5]
      omega
  · have hj8 : j = 8 := by omega
    subst hj8
    simp [go_sem]
    refine call_val hs rfl rfl ?_
    simp [go_sem]
    omega
end Go.Gx.Ix
