/-
  IndexNearest.
-/
import Derived.Test.YtdnblflhlklfnaaJh
set_option linter.unusedVariables false
set_option linter.unusedSimpArgs false
set_option maxRecDepth 20000
set_option maxHeartbeats 4000000
namespace Go.Gx.Ix
open Go.RowKit Go.Proofs Go.Proofs.Ytdnblflhlklfnaa

theorem nearest_of {l : List MbG} (h : VL l) (b : IrG) (turns : Int) : Pure Try.prog 40 [(ofG l).sv, b.sv, .i turns] (· = .tup [.i (nrI (ofG l) b turns), .i (nrE (ofG l) b turns)]) :=
  nearest40 (ofG l) (ofG_sm (by have := h.len; omega)) (fun _ a ha => h.srt.ok a ha) b turns
theorem plI_at {l : List MbG} (h : SL l) {i : Nat} (hi : i < l.length) : plI l l[i].id = i := by
  unfold plI
  refine ixB_at hi (by rw [getElem!_pos l i hi]; simp) fun j hj => ?_
  rw [getElem!_pos l j (by omega)]
  have := List.pairwise_iff_getElem.1 h j i (by omega) hi hj
  have this : l[j].id < l[i].id := this
  simp; omega
/-- What Nearest answers for members in order. -/
theorem nrE_of {l : List MbG} (h : VL l) (b : IrG) (turns : Int) (ms : List MbG) (hms : srtM l = ms) :
    (nrE (ofG l) b turns = 0 → mE b b turns 0 1 = 0 ∧ ∃ P, ∃ hP : P < ms.length, nrI (ofG l) b turns = ms[P].id ∧ 0 < (dist ms[P].x b turns.toNat).d ∧
      ∀ j, (hj : j < ms.length) → 0 < (dist ms[j].x b turns.toNat).d → (dist ms[P].x b turns.toNat).le (dist ms[j].x b turns.toNat) ∧ (j < P → (dist ms[P].x b turns.toNat).lt (dist ms[j].x b turns.toNat))) ∧
    (nrE (ofG l) b turns = 6 → mE b b turns 0 1 = 0 ∧ ∀ j, (hj : j < ms.length) → (dist ms[j].x b turns.toNat).d = 0) := by
  have hx : (ofG l).ms = ms := hms
  have hnb := nr_nb ms b turns.toNat
  have hfr : ∀ j, (hj : j < ms.length) → fr ms b turns.toNat j = dist ms[j].x b turns.toNat := fun j hj => by unfold fr cdM; rw [getElem!_pos ms j hj]
  have hv := ofG_valid h
  have hne : nrE (ofG l) b turns = if mE b b turns 0 1 = 0 then if nrAt ms b turns.toNat < 0 then 6 else 0 else mE b b turns 0 1 := by
    unfold nrE; rw [if_neg (by rw [hv]; simp), hx]
  have hmv := mE_vals b b turns 0 1
  have hP : nrP ms b turns.toNat = if nrAt ms b turns.toNat < 0 then -1 else (((nrL ms b turns.toNat ((ms.length + 63) / 64))[(nrAt ms b turns.toNat).toNat]! : Nat) : Int) := rfl
  constructor
  · intro h0
    have hm : mE b b turns 0 1 = 0 := by
      by_cases hm : mE b b turns 0 1 = 0
      · exact hm
      · rw [hne, if_neg hm] at h0; exact h0
    have hat : ¬ nrAt ms b turns.toNat < 0 := fun h => by rw [hne, if_pos hm, if_pos h] at h0; cases h0
    have hI : nrI (ofG l) b turns = (ms[(nrL ms b turns.toNat ((ms.length + 63) / 64))[(nrAt ms b turns.toNat).toNat]!]!).id := by unfold nrI; rw [if_pos h0, hx]
    refine ⟨hm, ?_⟩
    rw [if_neg hat] at hP
    generalize (nrL ms b turns.toNat ((ms.length + 63) / 64))[(nrAt ms b turns.toNat).toNat]! = P at hP hI
    rw [hP] at hnb
    rcases hnb with ⟨k1, _⟩ | ⟨i, k1, k2, k3, k4⟩
    · omega
    · have e : P = i := by omega
      subst e
      refine ⟨P, k2, by rw [hI, getElem!_pos ms P k2], by rw [← hfr P k2]; exact k3, fun j hj hd => ?_⟩
      rw [← hfr P k2, ← hfr j hj]
      rw [← hfr j hj] at hd
      exact k4 j hj hd
  · intro h6
    have hm : mE b b turns 0 1 = 0 := by
      by_cases hm : mE b b turns 0 1 = 0
      · exact hm
      · rw [hne, if_neg hm] at h6; omega
    have hat : nrAt ms b turns.toNat < 0 := by
      by_cases h : nrAt ms b turns.toNat < 0
      · exact h
      · rw [hne, if_pos hm, if_neg h] at h6; cases h6
    refine ⟨hm, fun j hj => ?_⟩
    rw [if_pos hat] at hP
    rw [hP] at hnb
    rcases hnb with ⟨_, k2⟩ | ⟨i, k1, _⟩
    · rw [← hfr j hj]; exact k2 j hj
    · omega
theorem dE_ok {x y : IrG} {turns : Int} (hx : x.ok = true) (hy : y.ok = true) (h1 : 0 ≤ turns) (h2 : turns ≤ 7) : dE x y turns = if (dist x y turns.toNat).d = 0 then 6 else 0 := by
  unfold dE btw
  rw [hx, hy]
  simp [h1, h2]
theorem law12 (l : List MbG) (b : IrG) (turns : Int) (h1 : -9223372036854775808 ≤ turns) (h2 : turns ≤ 9223372036854775807) : Pure Try.prog 12 [mrs l, b.sv, .i turns] (· = .b true) := by
  refine pure_of_GC T_ok Try.func12 rfl (by kernel_rfl) (Nat.le_of_ble_eq_true rfl) rfl rfl ?_
  simp [go_sem]
  refine call_val alive32 rfl rfl ?_
  simp [go_sem]
  intro hn
  obtain ⟨l', hv, hx, hx0, _⟩ := buildX_of l
  refine call_val (build16 l (by omega)) rfl rfl ?_
  rw [hx]
  have hN := nearest_of hv b turns
  obtain ⟨ms, hms⟩ : ∃ ms, srtM l' = ms := ⟨_, rfl⟩
  obtain ⟨hE0, hE6⟩ := nrE_of hv b turns ms hms
  have hmx : (ofG l').ms = ms := hms
  have hsl : SL ms := hms ▸ srt_SL hv.nd
  have hvm : VL ms := hms ▸ hv.srt
  generalize ofG l' = x at *
  generalize nrE x b turns = f at *
  generalize nrI x b turns = id at *
  generalize buildE l = e at *
  simp [go_sem, sv_ixC] at hN ⊢
  refine call_val hN rfl rfl ?_
  simp [go_sem, sv_ixC]
  by_cases he : e = 0
  rotate_left
  · simp [go_sem, he]
  subst he
  have hlen := hvm.len
  by_cases hf0 : f = 0
  · subst hf0
    obtain ⟨hm, P, hP, rfl, hd0, hbest⟩ := hE0 rfl
    obtain ⟨hb, _, ht, _⟩ := mE_ok hm
    have hpl := place41 ms (by omega) ms[P].id
    rw [plI_at hsl hP] at hpl
    have hdis := distance42 ms[P].x b turns
    rw [dE_ok (hvm.ok _ (List.getElem_mem hP)) hb ht.1 ht.2, if_neg (Nat.ne_of_gt hd0)] at hdis
    have p0 := mrow hP 0
    have p1 := mrow hP 1
    have p2 := mrow hP 2
    obtain ⟨pt, hpt⟩ : ∃ pt, dist ms[P].x b turns.toNat = pt := ⟨_, rfl⟩
    have hsm : pt.Sm := hpt ▸ distL_le _ _ _
    rw [hpt] at hd0 hbest hdis
    simp [go_sem, sv_ixC, hmx]
    refine call_val hpl rfl rfl ?_
    simp [go_sem, hP, p0, p1, p2]
    refine GDraw_l (t := (.take 0 (.take 1 (.take 2 (.take 3 (.take 4 (.take 5 (.take 6 (.take 7 (.alt 8 [7, 6, 5, 4, 3, 2, 1, 0] (.take 9 (.take 10 (.take 11 (.take 12 (.take 13 (.take 14 (.take 15 (.take 16 (.take 17 (.done [17, 16, 15, 14, 13, 12, 11, 10, 9, 4, 3, 2, 1, 0])))))))))) .nil)))))))))) T_ok (by kernel_rfl) (by kernel_rfl) (by kernel_rfl) (fun _ _ _ _ h => h) ?_
    simp [go_sem, hP, p0, p1, p2, hmx]
    refine call_val hdis rfl rfl ?_
    simp [go_sem, hP, hmx]
    refine GLoop_s T_ok (α := Nat) (fun j => [(2, .i turns), (4, .ptr 0 0 2 0), (7, .b true), (10, .i ms[P].id), (11, .i 0), (12, .i pt.n), (13, .i pt.d), (80, mrs ms), (81, .i ms.length), (82, .i j)]) (fun _ => [some (.box [.w b.c, .w b.m])]) 1 (fun j => j ≤ ms.length) (fun j => ms.length - j) 0 (fun _ => rfl) (by simp) (by simp [go_sem]) (by simp [go_sem]) ?_
    intro j J hj
    by_cases hjl : j < ms.length
    · have r0 := mrow hjl 0
      have r1 := mrow hjl 1
      have r2 := mrow hjl 2
      have hdj := distance42 ms[j].x b turns
      rw [dE_ok (hvm.ok _ (List.getElem_mem hjl)) hb ht.1 ht.2] at hdj
      have hbj := hbest j hjl
      have hjP : ms[j].id < ms[P].id → j < P := fun h => by
        rcases Nat.lt_trichotomy j P with h3 | h3 | h3
        · exact h3
        · subst h3; omega
        · have := List.pairwise_iff_getElem.1 hsl P j hP hjl h3
          have this : ms[P].id < ms[j].id := this
          omega
      obtain ⟨q, hq⟩ : ∃ q, dist ms[j].x b turns.toNat = q := ⟨_, rfl⟩
      have hsq : q.Sm := hq ▸ distL_le _ _ _
      rw [hq] at hbj hdj
      simp [go_sem, hjl, r0, r1, r2]
      refine call_val hdj rfl rfl ?_
      by_cases hq0 : q.d = 0
      · simp [go_sem, hq0]
        exact ⟨by omega, j + 1, by omega, by omega, by omega⟩
      · obtain ⟨hle, hlt⟩ := hbj (by omega)
        unfold Pt.le at hle
        unfold Pt.lt at hlt
        have m1 : q.n * pt.d ≤ 64 * 64 := Nat.mul_le_mul hsq.n hsm.d
        have m2 : pt.n * q.d ≤ 64 * 64 := Nat.mul_le_mul hsm.n hsq.d
        have c1 : (q.n : Int) * pt.d = ((q.n * pt.d : Nat) : Int) := by simp
        have c2 : (pt.n : Int) * q.d = ((pt.n * q.d : Nat) : Int) := by simp
        generalize q.n * pt.d = u1 at *
        generalize pt.n * q.d = u2 at *
        simp [go_sem, hq0]
        rw [c1, c2]
        refine ⟨by omega, by omega, ?_⟩
        refine ⟨by omega, ?_⟩
        by_cases hid : ms[j].id < ms[P].id
        · rw [if_pos hid]
          have := hlt (hjP hid)
          exact ⟨by omega, by omega, by omega, by omega, j + 1, by omega, by omega, by omega⟩
        · rw [if_neg hid]
          exact ⟨by omega, j + 1, by omega, by omega, by omega⟩
    · have hje : j = ms.length := by omega
      subst hje
      simp [go_sem]
  by_cases hf6 : f = 6
  · subst hf6
    obtain ⟨hm, hall⟩ := hE6 rfl
    obtain ⟨hb, _, ht, _⟩ := mE_ok hm
    simp [go_sem, hmx]
    refine GLoop_s T_ok (α := Nat) (fun j => [(2, .i turns), (4, .ptr 0 0 2 0), (7, .b true), (80, mrs ms), (81, .i ms.length), (82, .i j)]) (fun _ => [some (.box [.w b.c, .w b.m])]) 1 (fun j => j ≤ ms.length) (fun j => ms.length - j) 0 (fun _ => rfl) (by simp) (by simp [go_sem]) (by simp [go_sem]) ?_
    intro j J hj
    by_cases hjl : j < ms.length
    · have r0 := mrow hjl 0
      have r1 := mrow hjl 1
      have r2 := mrow hjl 2
      have hdj := distance42 ms[j].x b turns
      rw [dE_ok (hvm.ok _ (List.getElem_mem hjl)) hb ht.1 ht.2, if_pos (hall j hjl)] at hdj
      simp [go_sem, hjl, r0, r1, r2]
      refine call_val hdj rfl rfl ?_
      simp [go_sem]
      exact ⟨by omega, j + 1, by omega, by omega, by omega⟩
    · have hje : j = ms.length := by omega
      subst hje
      simp [go_sem]
  · simp [go_sem, hf0, hf6]
end Go.Gx.Ix
