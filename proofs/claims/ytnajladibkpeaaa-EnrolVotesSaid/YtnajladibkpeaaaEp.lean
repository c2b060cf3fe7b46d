/-
  The reference: members, Best.
-/
import Derived.Test.YtnajladibkpeaaaEo
set_option linter.unusedVariables false
set_option linter.unusedSimpArgs false
set_option maxRecDepth 20000
set_option maxHeartbeats 4000000
namespace Go.Gx
open Go.RowKit Go.Proofs Go.Proofs.Ytnajladibkpeaaa

/-- The members below k of the person of a record. -/
def EG.mem (g : EG) (a : Int) (k : Nat) : List Nat := (List.range k).filter (g.rc a g.nr)
theorem EG.mem_succ (g : EG) (a : Int) (k : Nat) : g.mem a (k + 1) = if g.rc a g.nr k then g.mem a k ++ [k] else g.mem a k := by
  unfold EG.mem
  rw [List.range_succ, List.filter_append]
  split
  · rename_i h; simp [h]
  · rename_i h; simp [h]
theorem EG.mem_len (g : EG) (a : Int) (k : Nat) : (g.mem a k).length ≤ k := by
  have := List.length_filter_le (g.rc a g.nr) (List.range k)
  simpa [EG.mem] using this
def nth (l : List Nat) (k : Nat) : Nat := l.getD k 0
abbrev ints (l : List Nat) : Nat → Nat → SV := fun i _ => .i (nth l i : Nat)
abbrev intsR (l : List Nat) : Nat → Nat → RV := fun i _ => .i (nth l i : Nat)
theorem ints_add {l : List Nat} {k i : Nat} (hi : i < l.length + 1) : (if i < l.length then SV.i (nth l i : Nat) else SV.i (k : Nat)) = SV.i (nth (l ++ [k]) i : Nat) := by
  unfold nth
  by_cases h : i < l.length
  · rw [if_pos h]
    simp [List.getD, List.getElem?_append_left h]
  · have : i = l.length := by omega
    subst this
    rw [if_neg h]
    simp [List.getD]
theorem members52 (g : EG) (h : g.OK) (hl : g.inl) (a : Int) (h0 : 0 ≤ a) (h1 : a < g.nr) : Pure Try.prog 52 [g.sv, .i a] (· = .r (.rs 1 (g.mem a g.nr).length (intsR (g.mem a g.nr)))) := by
  refine Pure.ofSub ?_
  refine pure_of_GC T_ok Try.func52 rfl (by kernel_rfl) (Nat.le_of_ble_eq_true rfl) rfl rfl ?_
  have := h.nr
  simp [go_sem]
  refine call_val (reached107 g h hl a g.nr h0 h1 (by omega)) rfl rfl ?_
  simp [go_sem]
  refine GLoop_pre (GSt.adopt 6 3 1 (ints []) rfl) ?_
  refine GLoop_s T_ok (α := Nat) (fun k => [(5, g.rcs a g.nr), (6, .sl 1 1 0 (g.mem a k).length none), (7, .i k)]) (fun k => [g.bx, some (.vec 3 1 (g.mem a k).length (ints (g.mem a k)))]) 2 (fun k => k ≤ g.nr) (fun k => g.nr - k) 0 (fun _ => rfl) (by simp) (by simp [go_sem, EG.mem]) (by simp [go_sem, EG.mem]) ?_
  intro k J hi
  have hm := g.mem_len a k
  by_cases hlt : k < g.nr
  rotate_left
  · have hk : k = g.nr := by omega
    subst hk
    simp [go_sem]
  by_cases hc : g.rc a g.nr k = true
  · have e := g.mem_succ a k
    rw [if_pos hc] at e
    simp [go_sem, hlt, hc]
    refine ⟨by omega, by omega, k + 1, by omega, by omega, by rw [e]; simp, by rw [e]; simp, ?_⟩
    rw [e]
    intro i hi2
    have hi3 : i < (g.mem a k).length + 1 := by simpa using hi2
    unfold ints
    rw [← ints_add (k := k) hi3]
    unfold joined
    by_cases h5 : i < (g.mem a k).length
    · rw [if_pos h5, if_pos h5]; rfl
    · have h6 : i - (g.mem a k).length = 0 := by omega
      rw [if_neg h5, if_neg h5, if_pos (by omega), h6]; rfl
  · have hc' : g.rc a g.nr k = false := by simpa using hc
    have e := g.mem_succ a k
    rw [if_neg hc] at e
    simp [go_sem, hlt, hc']
    refine ⟨by omega, k + 1, by omega, by omega, ?_⟩
    rw [e]
    simp [go_sem]
end Go.Gx
