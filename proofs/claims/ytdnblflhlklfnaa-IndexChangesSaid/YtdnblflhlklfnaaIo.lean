/-
  The reference: Same, SameInts, SameMembers, Place.
-/
import Derived.Test.YtdnblflhlklfnaaIn
set_option linter.unusedVariables false
set_option linter.unusedSimpArgs false
set_option maxRecDepth 20000
set_option maxHeartbeats 4000000
namespace Go.Gx.Ix
open Go.RowKit Go.Proofs Go.Proofs.Ytdnblflhlklfnaa

theorem ints37 (l l' : List Int) (hn : l.length ≤ 1000000000) : Pure Try.prog 37 [.r (.rs 1 l.length (irows l)), .r (.rs 1 l'.length (irows l'))] (· = .b (decide (l = l'))) := by
  refine pure_of_GC T_ok Try.func37 rfl (by kernel_rfl) (Nat.le_of_ble_eq_true rfl) rfl rfl ?_
  simp [go_sem]
  by_cases h : l.length = l'.length
  rotate_left
  · have h' : ¬ l = l' := fun e => h (by rw [e])
    simp [go_sem, h, h']
    try omega
  simp [go_sem, h]
  have hn' : l'.length ≤ 1000000000 := by omega
  refine GLoop_of T_ok (α := Nat) (fun k => [(0, .r (.rs 1 l'.length (irows l))), (1, .r (.rs 1 l'.length (irows l'))), (5, .i k)]) (fun _ => []) 0 (fun k => k ≤ l'.length ∧ ∀ j, j < k → ∀ (h1 : j < l.length) (h2 : j < l'.length), l[j] = l'[j]) (fun k => l'.length - k) 0 (fun _ => rfl) (by simp) (by simp [go_sem, h]) (by simp [go_sem]) ?_
  intro k J hi
  by_cases hlt : k < l'.length
  · simp [go_sem, hlt]
    have hlt1 : k < l.length := by omega
    have r0 := irow hlt1 0
    have q0 := irow hlt 0
    refine GDraw_all T_ok (by kernel_rfl) (by kernel_rfl) ?_
    simp [go_sem, hlt, r0, q0]
    by_cases he : l[k] = l'[k]
    · simp [go_sem, he]
      refine ⟨by omega, k + 1, ⟨by omega, fun j hj h1 h2 => ?_⟩, by omega, by omega⟩
      by_cases hjk : j = k
      · subst hjk; exact he
      · exact hi.2 j (by omega) h1 h2
    · have hne : ¬ l = l' := fun e => he (by simp [e])
      simp [go_sem, he, hne]
  · simp [go_sem, hlt]
    exact eq_of_all h fun j h1 h2 => hi.2 j (by omega) h1 h2
theorem members22 (l l' : List MbG) (hn : l.length ≤ 1000000000) : Pure Try.prog 22 [.r (.rs 3 l.length (mrows l)), .r (.rs 3 l'.length (mrows l'))] (· = .b (decide (l = l'))) := by
  refine pure_of_GC T_ok Try.func22 rfl (by kernel_rfl) (Nat.le_of_ble_eq_true rfl) rfl rfl ?_
  simp [go_sem]
  by_cases h : l.length = l'.length
  rotate_left
  · have h' : ¬ l = l' := fun e => h (by rw [e])
    simp [go_sem, h, h']
    try omega
  simp [go_sem, h]
  have hn' : l'.length ≤ 1000000000 := by omega
  refine GLoop_of T_ok (α := Nat) (fun k => [(0, .r (.rs 3 l'.length (mrows l))), (1, .r (.rs 3 l'.length (mrows l'))), (5, .i k)]) (fun _ => []) 0 (fun k => k ≤ l'.length ∧ ∀ j, j < k → ∀ (h1 : j < l.length) (h2 : j < l'.length), l[j] = l'[j]) (fun k => l'.length - k) 0 (fun _ => rfl) (by simp) (by simp [go_sem, h]) (by simp [go_sem]) ?_
  intro k J hi
  by_cases hlt : k < l'.length
  · simp [go_sem, hlt]
    have hlt1 : k < l.length := by omega
    have r0 := mrow hlt1 0
    have q0 := mrow hlt 0
    have r1 := mrow hlt1 1
    have q1 := mrow hlt 1
    have r2 := mrow hlt1 2
    have q2 := mrow hlt 2
    have hiff : l[k] = l'[k] ↔ l[k].id = l'[k].id ∧ l[k].x.c.toNat = l'[k].x.c.toNat ∧ l[k].x.m.toNat = l'[k].x.m.toNat := by
      rw [BitVec.toNat_inj, BitVec.toNat_inj]
      obtain ⟨a, c, m⟩ := l[k]
      obtain ⟨a', c', m'⟩ := l'[k]
      simp
    refine GDraw_all T_ok (by kernel_rfl) (by kernel_rfl) ?_
    simp [go_sem, hlt, r0, q0, r1, q1, r2, q2]
    by_cases he : l[k] = l'[k]
    · have he' := hiff.1 he
      simp [go_sem, he'.1, he'.2.1, he'.2.2]
      refine ⟨by omega, k + 1, ⟨by omega, fun j hj h1 h2 => ?_⟩, by omega, by omega⟩
      by_cases hjk : j = k
      · subst hjk; exact he
      · exact hi.2 j (by omega) h1 h2
    · have hne : ¬ l = l' := fun e => he (by simp [e])
      have he' : ¬ (l[k].id = l'[k].id ∧ l[k].x.c.toNat = l'[k].x.c.toNat ∧ l[k].x.m.toNat = l'[k].x.m.toNat) := fun q => he (hiff.2 q)
      simp [go_sem, hne]
      intro e1 e2 e3
      exact absurd ⟨e1, by omega, by omega⟩ he'
  · simp [go_sem, hlt]
    exact eq_of_all h fun j h1 h2 => hi.2 j (by omega) h1 h2
theorem post55 (l l' : List PsG) (hn : l.length ≤ 1000000000) (hi' : ∀ p ∈ l, p.ids.length ≤ 1000000000) : Pure Try.prog 55 [.r (.rs 3 l.length (prows l)), .r (.rs 3 l'.length (prows l'))] (· = .b (decide (l = l'))) := by
  refine pure_of_GC T_ok Try.func55 rfl (by kernel_rfl) (Nat.le_of_ble_eq_true rfl) rfl rfl ?_
  simp [go_sem]
  by_cases h : l.length = l'.length
  rotate_left
  · have h' : ¬ l = l' := fun e => h (by rw [e])
    simp [go_sem, h, h']
    try omega
  simp [go_sem, h]
  have hn' : l'.length ≤ 1000000000 := by omega
  refine GLoop_of T_ok (α := Nat) (fun k => [(0, .r (.rs 3 l'.length (prows l))), (1, .r (.rs 3 l'.length (prows l'))), (5, .i k)]) (fun _ => []) 0 (fun k => k ≤ l'.length ∧ ∀ j, j < k → ∀ (h1 : j < l.length) (h2 : j < l'.length), l[j] = l'[j]) (fun k => l'.length - k) 0 (fun _ => rfl) (by simp) (by simp [go_sem, h]) (by simp [go_sem]) ?_
  intro k J hi
  by_cases hlt : k < l'.length
  · simp [go_sem, hlt]
    have hlt1 : k < l.length := by omega
    have r0 := prow hlt1 0
    have q0 := prow hlt 0
    have r1 := prow hlt1 1
    have q1 := prow hlt 1
    have r2 := prow hlt1 2
    have q2 := prow hlt 2
    have hiff : l[k] = l'[k] ↔ l[k].c.toNat = l'[k].c.toNat ∧ l[k].m.toNat = l'[k].m.toNat ∧ l[k].ids = l'[k].ids := by
      rw [BitVec.toNat_inj, BitVec.toNat_inj]
      obtain ⟨a, c, m⟩ := l[k]
      obtain ⟨a', c', m'⟩ := l'[k]
      simp
    refine GDraw_all T_ok (by kernel_rfl) (by kernel_rfl) ?_
    have hii := hi' l[k] (List.getElem_mem hlt1)
    by_cases hc : l[k].c.toNat = l'[k].c.toNat
    rotate_left
    · have hne : ¬ l = l' := fun e => hc (by simp [e])
      have hc' : ¬ (l[k].c.toNat : Int) = l'[k].c.toNat := by omega
      simp [go_sem, hlt, r0, q0, r1, q1, r2, q2, hc, hc', hne]
    by_cases hm : l[k].m.toNat = l'[k].m.toNat
    rotate_left
    · have hne : ¬ l = l' := fun e => hm (by simp [e])
      have hm' : ¬ (l[k].m.toNat : Int) = l'[k].m.toNat := by omega
      simp [go_sem, hlt, r0, q0, r1, q1, r2, q2, hc, hm, hm', hne]
    simp [go_sem, hlt, r0, q0, r1, q1, r2, q2, hc, hm]
    refine ⟨_, dcall_val (ints37 l[k].ids l'[k].ids hii) rfl rfl, ?_⟩
    by_cases he : l[k].ids = l'[k].ids
    · simp [go_sem, he]
      refine ⟨by omega, k + 1, ⟨by omega, fun j hj h1 h2 => ?_⟩, by omega, by omega⟩
      by_cases hjk : j = k
      · subst hjk; exact hiff.2 ⟨hc, hm, he⟩
      · exact hi.2 j (by omega) h1 h2
    · have hne : ¬ l = l' := fun e => he (by simp [e])
      simp [go_sem, he, hne]
  · simp [go_sem, hlt]
    exact eq_of_all h fun j h1 h2 => hi.2 j (by omega) h1 h2
def IxG.eqB (x y : IxG) : Bool := ((List.range 8).all fun j => decide (x.ch j = y.ch j)) && decide (x.ms = y.ms)
theorem same18 (x y : IxG) (h : x.Sm) : Pure Try.prog 18 [x.sv, y.sv] (· = .b (x.eqB y)) := by
  refine pure_of_GC T_ok Try.func18 rfl (by kernel_rfl) (Nat.le_of_ble_eq_true rfl) rfl rfl ?_
  obtain ⟨e, he⟩ : ∃ e, x.eqB y = e := ⟨_, rfl⟩
  rw [he]
  simp [go_sem, IxG.sv]
  have hbad : ∀ j, j < 8 → ¬ x.ch j = y.ch j → e = false := fun j hj hne => by
    rw [← he, IxG.eqB]
    rw [Bool.and_eq_false_iff]; left
    exact List.all_eq_false.2 ⟨j, List.mem_range.2 hj, by simpa using hne⟩
  refine GLoop_of T_ok (α := Nat) (fun k => [(2, .ptr 0 0 9 0), (3, .ptr 1 0 9 0), (5, .i k)])
    (fun k => [some (.box [mrs x.ms, pls (x.ch 0), pls (x.ch 1), pls (x.ch 2), pls (x.ch 3), pls (x.ch 4), pls (x.ch 5), pls (x.ch 6), pls (x.ch 7)]), some (.box [mrs y.ms, pls (y.ch 0), pls (y.ch 1), pls (y.ch 2), pls (y.ch 3), pls (y.ch 4), pls (y.ch 5), pls (y.ch 6), pls (y.ch 7)])]) 2
    (fun k => k ≤ 8 ∧ ∀ j, j < k → x.ch j = y.ch j) (fun k => 8 - k) 0 (fun _ => rfl) (by simp) (by simp [go_sem]) (by simp [go_sem]) ?_
  intro k J hk
  rcases (show k = 0 ∨ k = 1 ∨ k = 2 ∨ k = 3 ∨ k = 4 ∨ k = 5 ∨ k = 6 ∨ k = 7 ∨ k = 8 by omega) with rfl | rfl | rfl | rfl | rfl | rfl | rfl | rfl | rfl
  · simp [go_sem]
    refine GDraw_l (t := (.take 0 (.take 1 (.take 2 (.take 3 (.take 4 (.take 5 (.take 6 (.take 7 (.alt 8 [7, 6, 5, 4, 3, 2, 1, 0] (.take 9 (.done [9, 6, 5, 4, 2, 1, 0])) .nil)))))))))) T_ok (by kernel_rfl) (by kernel_rfl) (by kernel_rfl) (fun _ _ _ _ h => h) ?_
    simp [go_sem]
    refine call_val (post55 (x.ch 0) (y.ch 0) (by have := (h.ch 0 (by omega)).1; omega) fun p hp => by have := (h.ch 0 (by omega)).2 p hp; omega) rfl rfl ?_
    by_cases hc : x.ch 0 = y.ch 0
    · simp [go_sem, hc]
      refine ⟨1, ⟨by omega, fun j hj => ?_⟩, by omega, by omega⟩
      by_cases e : j = 0
      · subst e; exact hc
      · exact hk.2 j (by omega)
    · have e4 := hbad 0 (by omega) hc
      subst e4
      simp [go_sem, hc]
  · simp [go_sem]
    refine GDraw_l (t := (.take 0 (.take 1 (.take 2 (.take 3 (.take 4 (.take 5 (.take 6 (.take 7 (.alt 8 [7, 6, 5, 4, 3, 2, 1, 0] (.take 9 (.done [9, 6, 5, 4, 2, 1, 0])) .nil)))))))))) T_ok (by kernel_rfl) (by kernel_rfl) (by kernel_rfl) (fun _ _ _ _ h => h) ?_
    simp [go_sem]
    refine call_val (post55 (x.ch 1) (y.ch 1) (by have := (h.ch 1 (by omega)).1; omega) fun p hp => by have := (h.ch 1 (by omega)).2 p hp; omega) rfl rfl ?_
    by_cases hc : x.ch 1 = y.ch 1
    · simp [go_sem, hc]
      refine ⟨2, ⟨by omega, fun j hj => ?_⟩, by omega, by omega⟩
      by_cases e : j = 1
      · subst e; exact hc
      · exact hk.2 j (by omega)
    · have e4 := hbad 1 (by omega) hc
      subst e4
      simp [go_sem, hc]
  · simp [go_sem]
    refine GDraw_l (t := (.take 0 (.take 1 (.take 2 (.take 3 (.take 4 (.take 5 (.take 6 (.take 7 (.alt 8 [7, 6, 5, 4, 3, 2, 1, 0] (.take 9 (.done [9, 6, 5, 4, 2, 1, 0])) .nil)))))))))) T_ok (by kernel_rfl) (by kernel_rfl) (by kernel_rfl) (fun _ _ _ _ h => h) ?_
    simp [go_sem]
    refine call_val (post55 (x.ch 2) (y.ch 2) (by have := (h.ch 2 (by omega)).1; omega) fun p hp => by have := (h.ch 2 (by omega)).2 p hp; omega) rfl rfl ?_
    by_cases hc : x.ch 2 = y.ch 2
    · simp [go_sem, hc]
      refine ⟨3, ⟨by omega, fun j hj => ?_⟩, by omega, by omega⟩
      by_cases e : j = 2
      · subst e; exact hc
      · exact hk.2 j (by omega)
    · have e4 := hbad 2 (by omega) hc
      subst e4
      simp [go_sem, hc]
  · simp [go_sem]
    refine GDraw_l (t := (.take 0 (.take 1 (.take 2 (.take 3 (.take 4 (.take 5 (.take 6 (.take 7 (.alt 8 [7, 6, 5, 4, 3, 2, 1, 0] (.take 9 (.done [9, 6, 5, 4, 2, 1, 0])) .nil)))))))))) T_ok (by kernel_rfl) (by kernel_rfl) (by kernel_rfl) (fun _ _ _ _ h => h) ?_
    simp [go_sem]
    refine call_val (post55 (x.ch 3) (y.ch 3) (by have := (h.ch 3 (by omega)).1; omega) fun p hp => by have := (h.ch 3 (by omega)).2 p hp; omega) rfl rfl ?_
    by_cases hc : x.ch 3 = y.ch 3
    · simp [go_sem, hc]
      refine ⟨4, ⟨by omega, fun j hj => ?_⟩, by omega, by omega⟩
      by_cases e : j = 3
      · subst e; exact hc
      · exact hk.2 j (by omega)
    · have e4 := hbad 3 (by omega) hc
      subst e4
      simp [go_sem, hc]
  · simp [go_sem]
    refine GDraw_l (t := (.take 0 (.take 1 (.take 2 (.take 3 (.take 4 (.take 5 (.take 6 (.take 7 (.alt 8 [7, 6, 5, 4, 3, 2, 1, 0] (.take 9 (.done [9, 6, 5, 4, 2, 1, 0])) .nil)))))))))) T_ok (by kernel_rfl) (by kernel_rfl) (by kernel_rfl) (fun _ _ _ _ h => h) ?_
    simp [go_sem]
    refine call_val (post55 (x.ch 4) (y.ch 4) (by have := (h.ch 4 (by omega)).1; omega) fun p hp => by have := (h.ch 4 (by omega)).2 p hp; omega) rfl rfl ?_
    by_cases hc : x.ch 4 = y.ch 4
    · simp [go_sem, hc]
      refine ⟨5, ⟨by omega, fun j hj => ?_⟩, by omega, by omega⟩
      by_cases e : j = 4
      · subst e; exact hc
      · exact hk.2 j (by omega)
    · have e4 := hbad 4 (by omega) hc
      subst e4
      simp [go_sem, hc]
  · simp [go_sem]
    refine GDraw_l (t := (.take 0 (.take 1 (.take 2 (.take 3 (.take 4 (.take 5 (.take 6 (.take 7 (.alt 8 [7, 6, 5, 4, 3, 2, 1, 0] (.take 9 (.done [9, 6, 5, 4, 2, 1, 0])) .nil)))))))))) T_ok (by kernel_rfl) (by kernel_rfl) (by kernel_rfl) (fun _ _ _ _ h => h) ?_
    simp [go_sem]
    refine call_val (post55 (x.ch 5) (y.ch 5) (by have := (h.ch 5 (by omega)).1; omega) fun p hp => by have := (h.ch 5 (by omega)).2 p hp; omega) rfl rfl ?_
    by_cases hc : x.ch 5 = y.ch 5
    · simp [go_sem, hc]
      refine ⟨6, ⟨by omega, fun j hj => ?_⟩, by omega, by omega⟩
      by_cases e : j = 5
      · subst e; exact hc
      · exact hk.2 j (by omega)
    · have e4 := hbad 5 (by omega) hc
      subst e4
      simp [go_sem, hc]
  · simp [go_sem]
    refine GDraw_l (t := (.take 0 (.take 1 (.take 2 (.take 3 (.take 4 (.take 5 (.take 6 (.take 7 (.alt 8 [7, 6, 5, 4, 3, 2, 1, 0] (.take 9 (.done [9, 6, 5, 4, 2, 1, 0])) .nil)))))))))) T_ok (by kernel_rfl) (by kernel_rfl) (by kernel_rfl) (fun _ _ _ _ h => h) ?_
    simp [go_sem]
    refine call_val (post55 (x.ch 6) (y.ch 6) (by have := (h.ch 6 (by omega)).1; omega) fun p hp => by have := (h.ch 6 (by omega)).2 p hp; omega) rfl rfl ?_
    by_cases hc : x.ch 6 = y.ch 6
    · simp [go_sem, hc]
      refine ⟨7, ⟨by omega, fun j hj => ?_⟩, by omega, by omega⟩
      by_cases e : j = 6
      · subst e; exact hc
      · exact hk.2 j (by omega)
    · have e4 := hbad 6 (by omega) hc
      subst e4
      simp [go_sem, hc]
  · simp [go_sem]
    refine GDraw_l (t := (.take 0 (.take 1 (.take 2 (.take 3 (.take 4 (.take 5 (.take 6 (.take 7 (.alt 8 [7, 6, 5, 4, 3, 2, 1, 0] (.take 9 (.done [9, 6, 5, 4, 2, 1, 0])) .nil)))))))))) T_ok (by kernel_rfl) (by kernel_rfl) (by kernel_rfl) (fun _ _ _ _ h => h) ?_
    simp [go_sem]
    refine call_val (post55 (x.ch 7) (y.ch 7) (by have := (h.ch 7 (by omega)).1; omega) fun p hp => by have := (h.ch 7 (by omega)).2 p hp; omega) rfl rfl ?_
    by_cases hc : x.ch 7 = y.ch 7
    · simp [go_sem, hc]
      refine ⟨8, ⟨by omega, fun j hj => ?_⟩, by omega, by omega⟩
      by_cases e : j = 7
      · subst e; exact hc
      · exact hk.2 j (by omega)
    · have e4 := hbad 7 (by omega) hc
      subst e4
      simp [go_sem, hc]
  · have e0 : e = decide (x.ms = y.ms) := by
      rw [← he, IxG.eqB]
      have : ((List.range 8).all fun j => decide (x.ch j = y.ch j)) = true := List.all_eq_true.2 fun j hj => by simpa using hk.2 j (List.mem_range.1 hj)
      rw [this]; rfl
    subst e0
    simp [go_sem]
    refine call_val (members22 x.ms y.ms (by have := h.ms; omega)) rfl rfl ?_
    simp [go_sem]
/-- Where a number is, or -1. -/
def plI (l : List MbG) (t : Int) : Int := ixB (fun i => decide ((l[i]!).id = t)) l.length
theorem place41 (l : List MbG) (hn : l.length ≤ 1000000000) (t : Int) : Pure Try.prog 41 [mrs l, .i t] (· = .i (plI l t)) := by
  refine pure_of_GC T_ok Try.func41 rfl (by kernel_rfl) (Nat.le_of_ble_eq_true rfl) rfl rfl ?_
  simp [go_sem]
  refine GLoop_of T_ok (α := Nat) (fun k => [(0, mrs l), (1, .i t), (5, .i k)]) (fun _ => []) 0 (fun k => k ≤ l.length ∧ ∀ j, j < k → ∀ (h1 : j < l.length), ¬ l[j].id = t) (fun k => l.length - k) 0 (fun _ => rfl) (by simp) (by simp [go_sem]) (by simp [go_sem]) ?_
  intro k J hi
  by_cases hlt : k < l.length
  · have r0 := mrow hlt 0
    simp [go_sem, hlt, r0]
    by_cases he : l[k].id = t
    · simp [go_sem, he]
      unfold plI
      refine (ixB_at hlt (by rw [getElem!_pos l k hlt]; simpa using he) fun j hj => ?_).symm
      rw [getElem!_pos l j (by omega)]
      simpa using hi.2 j hj (by omega)
    · simp [go_sem, he]
      refine ⟨by omega, k + 1, ⟨by omega, fun j hj h1 => ?_⟩, by omega, by omega⟩
      by_cases hjk : j = k
      · subst hjk; exact he
      · exact hi.2 j (by omega) h1
  · simp [go_sem, hlt]
    unfold plI
    refine (ixB_no fun j hj => ?_).symm
    rw [getElem!_pos l j hj]
    simpa using hi.2 j (by omega) hj
end Go.Gx.Ix
