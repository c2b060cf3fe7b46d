/-
  The program's Why: the closure that looks for the next record.
-/
import Derived.Test.YtnajladibkpeaaaEy
set_option linter.unusedVariables false
set_option linter.unusedSimpArgs false
set_option maxRecDepth 20000
set_option maxHeartbeats 4000000
namespace Go.Gx
open Go.RowKit Go.Proofs Go.Proofs.Ytnajladibkpeaaa

abbrev stR (hs : Int → Bool) (v : Int → Int) (a s : Int) : List Reg := [.box [.mp 1], .map hs (fun a => .i (v a)) none, .box [.i a], .box [.i s]]
def stp (v : Int → Int) (a s d : Int) : Int := if v d = v a - 1 ∧ (s < 0 ∨ d < s) then d else s
theorem cl56 (hs : Int → Bool) (v : Int → Int) (a s d : Int) (ha : hs a = true) (hd : hs d = true) (hv : 0 ≤ v a ∧ v a ≤ 1000000000) :
    OwnS Try.prog 4 56 (stR hs v a s) [.i d, .ptr 0 0 1 0, .ptr 2 0 1 0, .ptr 3 0 1 0] (.tup []) (stR hs v a (stp v a s d)) := by
  refine ownS_of_GC T_ok Try.func56 rfl (by kernel_rfl) (Nat.le_of_ble_eq_true rfl) rfl rfl 4 (by simp) ?_
  have fin : ∀ s', s' = stp v a s d → ∀ M : Mem, (∀ N : Nat, gexpR M (fun i => ([0, 1, 2, 3][i]?).getD N) [0, 1, 2, 3] (stR hs v a s')) → ∃ ρl, keepsL 4 0 ρl ∧ gexp M (.tup []) ρl (.tup []) (stR hs v a (stp v a s d)) := by
    rintro s' rfl M hM
    exact ⟨[0, 1, 2, 3], by simp [keepsL], by simp, fun N => ⟨by simp [go_sem], hM N⟩⟩
  by_cases h1 : v d = v a - 1
  · by_cases h2 : s < 0
    · simp [go_sem, ha, hd, h1, h2]
      exact ⟨by omega, fin d (by simp [stp, h1, h2]) _ fun N => by simp [go_sem]⟩
    · by_cases h3 : d < s
      · simp [go_sem, ha, hd, h1, h2, h3]
        exact ⟨by omega, fin d (by simp [stp, h1, h3]) _ fun N => by simp [go_sem]⟩
      · simp [go_sem, ha, hd, h1, h2, h3]
        exact ⟨by omega, fin s (by simp [stp, h2, h3]) _ fun N => by simp [go_sem]⟩
  · simp [go_sem, ha, hd, h1]
    exact ⟨by omega, fin s (by simp [stp, h1]) _ fun N => by simp [go_sem]⟩
/-- s is the least other record of the first k links that is one nearer (or -1). -/
def EG.lst (g : EG) (v : Int → Int) (a : Int) (k : Nat) (s : Int) : Prop :=
  (s = -1 ∧ ∀ j, j < k → g.tch a j = true → v (g.ot a j) ≠ v a - 1) ∨
  (0 ≤ s ∧ (∃ j, j < k ∧ g.tch a j = true ∧ v (g.ot a j) = v a - 1 ∧ ((g.ot a j : Nat) : Int) = s) ∧ ∀ j, j < k → g.tch a j = true → v (g.ot a j) = v a - 1 → s ≤ g.ot a j)
theorem EG.lst_skip {g : EG} {v : Int → Int} {a : Int} {k : Nat} {s : Int} (h : g.lst v a k s) (hk : g.tch a k = true → v (g.ot a k) ≠ v a - 1) : g.lst v a (k + 1) s := by
  rcases h with ⟨rfl, h⟩ | ⟨h0, ⟨j, j1, j2⟩, h⟩
  · refine .inl ⟨rfl, fun i hi ht => ?_⟩
    by_cases e : i = k
    · subst e; exact hk ht
    · exact h i (by omega) ht
  · refine .inr ⟨h0, ⟨j, by omega, j2⟩, fun i hi ht hv => ?_⟩
    by_cases e : i = k
    · subst e; exact absurd hv (hk ht)
    · exact h i (by omega) ht hv
theorem EG.lst_go {g : EG} {v : Int → Int} {a : Int} {k : Nat} {s : Int} (h : g.lst v a k s) (ht : g.tch a k = true) : g.lst v a (k + 1) (stp v a s (g.ot a k)) := by
  by_cases hc : v (g.ot a k) = v a - 1
  rotate_left
  · have : stp v a s (g.ot a k) = s := by simp [stp, hc]
    rw [this]
    exact EG.lst_skip h fun _ => hc
  rcases h with ⟨rfl, h⟩ | ⟨h0, ⟨j, j1, j2, j3, j4⟩, h⟩
  · have : stp v a (-1) (g.ot a k) = (g.ot a k : Nat) := by simp [stp, hc]
    rw [this]
    refine .inr ⟨by omega, ⟨k, by omega, ht, hc, rfl⟩, fun i hi hti hvi => ?_⟩
    by_cases e : i = k
    · subst e; omega
    · exact absurd hvi (h i (by omega) hti)
  · by_cases hlt : ((g.ot a k : Nat) : Int) < s
    · have : stp v a s (g.ot a k) = (g.ot a k : Nat) := by simp [stp, hc, hlt]
      rw [this]
      refine .inr ⟨by omega, ⟨k, by omega, ht, hc, rfl⟩, fun i hi hti hvi => ?_⟩
      by_cases e : i = k
      · subst e; omega
      · have := h i (by omega) hti hvi; omega
    · have : stp v a s (g.ot a k) = s := by
        unfold stp
        rw [if_neg]
        omega
      rw [this]
      refine .inr ⟨h0, ⟨j, by omega, j2, j3, j4⟩, fun i hi hti hvi => ?_⟩
      by_cases e : i = k
      · subst e; omega
      · exact h i (by omega) hti hvi
theorem next54b (g : EG) (h : g.OK) (hl : g.inl) (a : Int) (C D : Nat → Nat → RV) (hC : C 0 0 = .rp 4 1 D 0 0) (hD : D 0 1 = .rs 3 g.nl fun i j => (g.l i).c j)
    (hs : Int → Bool) (v : Int → Int) (ha : 0 ≤ a ∧ a < g.nr) (hha : hs a = true) (hv : 0 ≤ v a ∧ v a ≤ 1000000000) (hho : ∀ j, j < g.nl → g.tch a j = true → hs (g.ot a j) = true) :
    OwnX Try.prog 4 54 (stR hs v a (-1)) [.i a, .fn (.func 56) [] [.ptr 0 0 1 0, .ptr 2 0 1 0, .ptr 3 0 1 0], .r (.rp 1 1 C 0 0)] fun S Rs' => S = .tup [] ∧ ∃ s, g.lst v a g.nl s ∧ Rs' = stR hs v a s := by
  refine ownX_of_GC T_ok Try.func54 rfl (by kernel_rfl) (Nat.le_of_ble_eq_true rfl) rfl rfl 4 (by simp) ?_
  have := h.nr
  have := h.nl
  simp [go_sem, hC, hD]
  refine GLoop_s T_ok (α := Nat × Int) (fun x => [(0, .i a), (1, .fn (.func 56) [] [.ptr 0 0 1 0, .ptr 2 0 1 0, .ptr 3 0 1 0]), (2, .r (.rp 1 1 C 0 0)), (11, g.ll), (12, .i g.nl), (13, .i x.1)]) (fun x => [some (.box [.mp 1]), some (.map hs (fun a => .i (v a)) none), some (.box [.i a]), some (.box [.i x.2])]) 4
    (fun x => x.1 ≤ g.nl ∧ g.lst v a x.1 x.2) (fun x => g.nl - x.1) (0, -1) (fun _ => rfl) ⟨by simp, .inl ⟨rfl, fun j hj => by omega⟩⟩ (by simp [go_sem]) (by simp [go_sem]) ?_
  rintro ⟨k, s⟩ J ⟨hk, hi⟩
  dsimp only at hk hi
  by_cases hlt : k < g.nl
  rotate_left
  · have e : k = g.nl := by omega
    subst e
    simp [go_sem]
    exact gxe.mk _ (stR hs v a s) [0, 1, 2, 3] ⟨rfl, s, hi, rfl⟩ (by simp [keepsL]) (by simp) (fun N => by simp [go_sem]) (fun N => by simp [go_sem])
  obtain ⟨q1, q2, q3, q4⟩ := hl k hlt
  have skp : g.tch a k = false → g.lst v a (k + 1) s := fun hf => EG.lst_skip hi fun ht => by rw [hf] at ht; cases ht
  by_cases hsm : (g.l k).s = true
  rotate_left
  · have hs' : (g.l k).s = false := by simpa using hsm
    simp [go_sem, hlt, hs']
    exact ⟨by omega, k + 1, s, ⟨by omega, skp (by simp [EG.tch, hs'])⟩, by omega, by omega, rfl⟩
  by_cases hA : (g.l k).a = a
  · have ht : g.tch a k = true := by simp [EG.tch, hsm, hA]
    have ho := EG.ot_eq hl hlt ht
    rw [hA] at ho
    simp [go_sem, hlt, hsm, hA]
    refine ⟨by omega, by omega, ?_⟩
    refine callK_ownS [0, 1, 2, 3] (cl56 hs v a s (g.ot a k) hha (hho k hlt ht) hv) (by simp) (by simp) (by simp [go_sem, ho]) (by simp [go_sem]) ?_
    simp [go_sem]
    exact ⟨by omega, k + 1, _, ⟨by omega, EG.lst_go hi ht⟩, by omega, by omega, rfl⟩
  by_cases hB : (g.l k).b = a
  · have ht : g.tch a k = true := by simp [EG.tch, hsm, hB]
    have ho := EG.ot_eq hl hlt ht
    rw [hB] at ho
    simp [go_sem, hlt, hsm, hA, hB]
    refine ⟨by omega, by omega, ?_⟩
    refine callK_ownS [0, 1, 2, 3] (cl56 hs v a s (g.ot a k) hha (hho k hlt ht) hv) (by simp) (by simp) (by simp [go_sem, ho]) (by simp [go_sem]) ?_
    simp [go_sem]
    exact ⟨by omega, k + 1, _, ⟨by omega, EG.lst_go hi ht⟩, by omega, by omega, rfl⟩
  · simp [go_sem, hlt, hsm, hA, hB]
    exact ⟨by omega, k + 1, s, ⟨by omega, skp (by simp [EG.tch, hA, hB])⟩, by omega, by omega, rfl⟩
end Go.Gx
