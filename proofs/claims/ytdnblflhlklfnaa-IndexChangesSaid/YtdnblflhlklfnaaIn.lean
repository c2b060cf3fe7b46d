/-
  Remove, Merge: frozen.
-/
import Derived.Test.YtdnblflhlklfnaaIm
set_option linter.unusedVariables false
set_option linter.unusedSimpArgs false
set_option maxRecDepth 20000
set_option maxHeartbeats 4000000
namespace Go.Gx.Ix
open Go.RowKit Go.Proofs Go.Proofs.Ytdnblflhlklfnaa

theorem isM_lt {l : List MbG} {t : Int} (h : isM l t = true) : plc l t < l.length := by
  unfold isM fnd at h
  simp only [Bool.and_eq_true, decide_eq_true_eq] at h
  exact h.1
def remL (l : List MbG) (t : Int) : List MbG := l.take (plc l t) ++ l.drop (plc l t + 1)
def remE (x : IxG) (t : Int) : Int := if validX x = false then 40 else if isM x.ms t = false then 6 else 0
def remX (x : IxG) (t : Int) : IxG := if remE x t = 0 then ofG (remL x.ms t) else IxG.zero
theorem remove26' (x : IxG) (h : x.Sm) (t : Int) : Pure Try.prog 26 [x.sv, .i t] (· = .tup [if remE x t = 0 then (ofG (remL x.ms t)).sv else nilX, .i (remE x t)]) := by
  obtain ⟨e, he⟩ : ∃ e, remE x t = e := ⟨_, rfl⟩
  rw [he]
  obtain ⟨y, hy⟩ : ∃ y, ofG (remL x.ms t) = y := ⟨_, rfl⟩
  rw [hy]
  refine pure_of_GC T_ok Try.func26 rfl (by kernel_rfl) (Nat.le_of_ble_eq_true rfl) rfl rfl ?_
  have hc := check19 x h
  have hms := h.ms
  simp [go_sem, IxG.sv] at hc ⊢
  refine call_val hc rfl rfl ?_
  cases hv : validX x
  · have e4 : e = 40 := by rw [← he, remE, if_pos hv]
    subst e4
    simp [go_sem, checkE, hv]
  simp [go_sem, checkE, hv]
  refine call_val (place60 x.ms (by omega) (validX_sorted hv) t) rfl rfl ?_
  cases hp : isM x.ms t
  · have e4 : e = 6 := by rw [← he, remE, if_neg (by rw [hv]; simp), if_pos hp]
    subst e4
    simp [go_sem]
  have e0 : e = 0 := by rw [← he, remE, if_neg (by rw [hv]; simp), if_neg (by rw [hp]; simp)]
  subst e0
  have hlt := isM_lt hp
  have hlen := validX_len hv
  have hof := of52p (remL x.ms t) (by unfold remL; rw [List.length_append, List.length_take, List.length_drop]; omega)
  rw [hy] at hof
  have hrl : (remL x.ms t).length = plc x.ms t + (x.ms.length - (plc x.ms t + 1)) := by unfold remL; rw [List.length_append, List.length_take, List.length_drop]; omega
  have key := concat61 (x.ms.take (plc x.ms t)) (x.ms.drop (plc x.ms t + 1)) (by simp; omega) (by simp; omega)
  have hrem : remL x.ms t = x.ms.take (plc x.ms t) ++ x.ms.drop (plc x.ms t + 1) := rfl
  rw [← hrem] at key
  have h1 : (x.ms.take (plc x.ms t)).length = plc x.ms t := by rw [List.length_take]; omega
  have h2 : (x.ms.drop (plc x.ms t + 1)).length = x.ms.length - (plc x.ms t + 1) := List.length_drop
  rw [h1, h2] at key
  have hr : ∀ i j, i < plc x.ms t → j < 3 → mrows x.ms i j = mrows (x.ms.take (plc x.ms t)) i j := fun i j hi hj => by
    unfold mrows rowsL; rw [List.getElem?_take_of_lt hi]
  have hr' : ∀ i j, i < x.ms.length - (plc x.ms t + 1) → j < 3 → mrows x.ms (plc x.ms t + 1 + i) j = mrows (x.ms.drop (plc x.ms t + 1)) i j := fun i j hi hj => by
    unfold mrows rowsL; rw [List.getElem?_drop]
  generalize hk : plc x.ms t = k at *
  have a1 : (k : Int) + 1 ≤ x.ms.length := by omega
  have a2 : (k : Int) ≤ x.ms.length := by omega
  simp [go_sem]
  refine GDraw_l (t := (.take 0 (.take 1 (.take 2 (.take 3 (.take 4 (.take 5 (.take 6 (.take 7 (.take 8 (.alt 9 [8, 7, 6, 5, 4, 3, 2, 1, 0] (.alt 10 [7, 6, 5, 4, 2, 1, 0] (.alt 11 [7, 6, 5, 4, 2, 1, 0] (.alt 12 [7, 6, 5, 4, 2, 1, 0] (.take 13 (.done [13])) .nil) .nil) .nil) .nil))))))))))) T_ok (by kernel_rfl) (by kernel_rfl) (by kernel_rfl) (fun _ _ _ _ h => h) ?_
  simp [go_sem, a1, a2]
  refine ⟨by omega, by omega, ⟨by omega, by omega, by omega⟩, ⟨by omega, by omega⟩, ?_⟩
  refine callK_lentOwn (S := .sl 0 3 0 (remL x.ms t).length none) (Rs' := [mreg (remL x.ms t)]) ?_ trivial ⟨fun i j hi hj => mflat hi hj, trivial⟩ ?_
  · simp [go_sem]
    refine key _ _ hr hr' _ rfl rfl
  simp [go_sem]
  refine ⟨by omega, callK_freeze 3 (R := mreg (remL x.ms t)) (by simp [go_sem]) ?_⟩
  simp [go_sem]
  refine call_val hof rfl rfl ?_
  simp [go_sem, IxG.sv]
  omega
theorem remove26 (x : IxG) (h : x.Sm) (t : Int) : Pure Try.prog 26 [x.sv, .i t] (· = .tup [(remX x t).sv, .i (remE x t)]) := by
  refine pure_le (remove26' x h t) (le_tup ⟨?_, SV.le.rfl, trivial⟩)
  unfold remX
  split
  · exact SV.le.rfl
  · exact nil_zero
def mrgE (x y : IxG) : Int := if (validX x && validX y) = false then 40 else if x.ms.any (fun a => isM y.ms a.id) then 41 else if 256 < x.ms.length + y.ms.length then 9 else 0
def mrgX (x y : IxG) : IxG := if mrgE x y = 0 then ofG (x.ms ++ y.ms) else IxG.zero
theorem merge28' (x y : IxG) (h : x.Sm) (h' : y.Sm) : Pure Try.prog 28 [x.sv, y.sv] (· = .tup [if mrgE x y = 0 then (ofG (x.ms ++ y.ms)).sv else nilX, .i (mrgE x y)]) := by
  obtain ⟨e, he⟩ : ∃ e, mrgE x y = e := ⟨_, rfl⟩
  rw [he]
  obtain ⟨z, hz⟩ : ∃ z, ofG (x.ms ++ y.ms) = z := ⟨_, rfl⟩
  rw [hz]
  refine pure_of_GC T_ok Try.func28 rfl (by kernel_rfl) (Nat.le_of_ble_eq_true rfl) rfl rfl ?_
  have hc := check19 x h
  have hc' := check19 y h'
  have hms := h.ms
  have hms' := h'.ms
  simp [go_sem, IxG.sv] at hc hc' ⊢
  refine call_val hc rfl rfl ?_
  cases hv : validX x
  · have e4 : e = 40 := by rw [← he, mrgE, hv]; rfl
    subst e4
    simp [go_sem, checkE, hv]
  simp [go_sem, checkE, hv]
  refine call_val hc' rfl rfl ?_
  cases hv' : validX y
  · have e4 : e = 40 := by rw [← he, mrgE, hv, hv']; rfl
    subst e4
    simp [go_sem, checkE, hv']
  simp [go_sem, checkE, hv']
  have hlen := validX_len hv
  have hlen' := validX_len hv'
  have he2 : e = if x.ms.any (fun a => isM y.ms a.id) then 41 else if 256 < x.ms.length + y.ms.length then 9 else 0 := by rw [← he, mrgE, hv, hv']; rfl
  refine GLoop_of T_ok (α := Nat) (fun k => [(2, .ptr 0 0 9 0), (3, .ptr 1 0 9 0), (4, .ptr 2 0 9 0), (5, .i 0), (20, mrs x.ms), (21, .i x.ms.length), (22, .i k)])
    (fun k => [some (.box [mrs x.ms, pls (x.ch 0), pls (x.ch 1), pls (x.ch 2), pls (x.ch 3), pls (x.ch 4), pls (x.ch 5), pls (x.ch 6), pls (x.ch 7)]), some (.box [mrs y.ms, pls (y.ch 0), pls (y.ch 1), pls (y.ch 2), pls (y.ch 3), pls (y.ch 4), pls (y.ch 5), pls (y.ch 6), pls (y.ch 7)]), some (.box [nilS, nilS, nilS, nilS, nilS, nilS, nilS, nilS, nilS])]) 3
    (fun k => k ≤ x.ms.length ∧ ∀ j, j < k → ∀ (h1 : j < x.ms.length), isM y.ms x.ms[j].id = false) (fun k => x.ms.length - k) 0 (fun _ => rfl) (by simp) (by simp [go_sem]) (by simp [go_sem]) ?_
  intro k J hk
  by_cases hlt : k < x.ms.length
  · have r0 := mrow hlt 0
    have r1 := mrow hlt 1
    have r2 := mrow hlt 2
    simp [go_sem, hlt, r0, r1, r2]
    refine call_val (place60 y.ms (by omega) (validX_sorted hv') x.ms[k].id) rfl rfl ?_
    cases hp : isM y.ms x.ms[k].id
    rotate_left
    · have e4 : e = 41 := by
        rw [he2, if_pos]
        exact List.any_eq_true.2 ⟨_, List.getElem_mem hlt, hp⟩
      subst e4
      simp [go_sem]
    · simp [go_sem]
      refine ⟨by omega, k + 1, ⟨by omega, fun j hj h1 => ?_⟩, by omega, by omega⟩
      by_cases e : j = k
      · subst e; exact hp
      · exact hk.2 j (by omega) h1
  have he3 : e = if 256 < x.ms.length + y.ms.length then 9 else 0 := by
    rw [he2, if_neg]
    intro hd
    obtain ⟨a, ha, hq⟩ := List.any_eq_true.1 hd
    obtain ⟨i, hi, rfl⟩ := List.mem_iff_getElem.1 ha
    have := hk.2 i (by omega) hi
    rw [this] at hq; cases hq
  simp [go_sem, hlt]
  by_cases hl : 256 < x.ms.length + y.ms.length
  · have hl' : (256 : Int) < x.ms.length + y.ms.length := by omega
    have e4 : e = 9 := by rw [he3, if_pos hl]
    subst e4
    simp [go_sem, hl, hl']
    try omega
  have hl' : ¬ (256 : Int) < x.ms.length + y.ms.length := by omega
  have e0 : e = 0 := by rw [he3, if_neg hl]
  subst e0
  simp [go_sem, hl, hl']
  have hof := of52p (x.ms ++ y.ms) (by rw [List.length_append]; omega)
  rw [hz] at hof
  simp only [mrs, List.length_append] at hof
  refine ⟨by omega, callK_lentOwn (S := .sl 0 3 0 (x.ms ++ y.ms).length none) (Rs' := [mreg (x.ms ++ y.ms)]) ?_ trivial ⟨fun i j hi hj => mflat hi hj, trivial⟩ ?_⟩
  · simp [go_sem]
    have key := concat61 x.ms y.ms (by omega) (by omega)
    rw [List.length_append] at key
    exact key _ _ (fun _ _ _ _ => rfl) (fun _ _ _ _ => rfl) _ rfl rfl
  simp [go_sem]
  refine callK_freeze 4 (R := .vec 43 3 (x.ms.length + y.ms.length) fun i j => .r (mrows (x.ms ++ y.ms) i j)) (by simp [go_sem]) ?_
  simp [go_sem]
  refine call_val hof rfl rfl ?_
  simp [go_sem, IxG.sv]
theorem merge28 (x y : IxG) (h : x.Sm) (h' : y.Sm) : Pure Try.prog 28 [x.sv, y.sv] (· = .tup [(mrgX x y).sv, .i (mrgE x y)]) := by
  refine pure_le (merge28' x y h h') (le_tup ⟨?_, SV.le.rfl, trivial⟩)
  unfold mrgX
  split
  · exact SV.le.rfl
  · exact nil_zero
end Go.Gx.Ix
