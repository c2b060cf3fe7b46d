/-
  Best, of the reference.
-/
import Derived.Test.YtnajladibkpeaaaEp
set_option linter.unusedVariables false
set_option linter.unusedSimpArgs false
set_option maxRecDepth 20000
set_option maxHeartbeats 4000000
namespace Go.Gx
open Go.RowKit Go.Proofs Go.Proofs.Ytnajladibkpeaaa

/-- The better of two records. -/
def EG.bt (g : EG) (b x : Nat) : Nat := if (g.r b).q < (g.r x).q then x else b
def EG.bst (g : EG) (l : List Nat) : Nat := l.foldl g.bt (nth l 0)
theorem take_succ' {l : List Nat} {k : Nat} (h : k < l.length) : l.take (k + 1) = l.take k ++ [nth l k] := by
  rw [List.take_add_one, List.getElem?_eq_getElem h]
  simp [nth, List.getD, h]
theorem EG.bt_in {g : EG} {n : Nat} : ∀ (l : List Nat) (b : Nat), b < n → (∀ x ∈ l, x < n) → l.foldl g.bt b < n
  | [], b, hb, _ => hb
  | x :: l, b, hb, h => by
    simp only [List.foldl_cons]
    refine EG.bt_in l _ ?_ fun y hy => h y (by simp [hy])
    unfold EG.bt
    split
    · exact h x (by simp)
    · exact hb
theorem EG.mem_lt {g : EG} {a : Int} {k x : Nat} (h : x ∈ g.mem a k) : x < k := List.mem_range.1 (List.mem_filter.1 h).1
theorem EG.mem_ne {g : EG} (hl : g.inl) {a : Int} (h0 : 0 ≤ a) (h1 : a < g.nr) : 0 < (g.mem a g.nr).length := by
  have : a.toNat ∈ g.mem a g.nr := List.mem_filter.2 ⟨List.mem_range.2 (by omega), (EG.con_rc hl h0 h1 (.refl a)).2.2⟩
  exact List.length_pos_of_mem this
theorem refBest16 (g : EG) (h : g.OK) (a : Int) : Pure Try.prog 16 [g.sv, .i a] (· = .tup [.i (if g.pE a = 0 then (g.bst (g.mem a g.nr) : Nat) else 0), .i (g.pE a)]) := by
  refine pure_of_GC T_ok Try.func16 rfl (by kernel_rfl) (Nat.le_of_ble_eq_true rfl) rfl rfl ?_
  have := h.nr
  simp [go_sem]
  refine call_val (valid49 g h) rfl rfl ?_
  by_cases hv : g.valid = true
  rotate_left
  · have hv' : g.valid = false := by simpa using hv
    have e : g.pE a = 8 := by simp [EG.pE, hv']
    simp [go_sem, hv', e]
  simp [go_sem, hv]
  refine call_val (there50 g h a) rfl rfl ?_
  by_cases ht : g.th a = true
  rotate_left
  · have ht' : g.th a = false := by simpa using ht
    have e : g.pE a = 6 := by simp [EG.pE, hv, ht']
    simp [go_sem, ht', e]
  have e : g.pE a = 0 := by simp [EG.pE, hv, ht]
  have h1 := EG.th_iff.1 ht
  have hin := EG.valid_inl hv
  simp [go_sem, ht, e]
  refine call_val (members52 g h hin a h1.1 h1.2.1) rfl rfl ?_
  have hne := EG.mem_ne hin h1.1 h1.2.1
  have hlen := g.mem_len a g.nr
  have hmm : ∀ x ∈ g.mem a g.nr, x < g.nr := fun x hx => EG.mem_lt hx
  unfold EG.bst
  generalize g.mem a g.nr = l at *
  have hget : ∀ k, k < l.length → nth l k < g.nr := fun k hk => hmm _ (by
    rw [nth, List.getD, List.getElem?_eq_getElem hk]
    exact List.getElem_mem hk)
  have hin2 : ∀ k, (l.take k).foldl g.bt (nth l 0) < g.nr := fun k => EG.bt_in _ _ (hget 0 hne) fun x hx => hmm x (List.mem_of_mem_take hx)
  simp [go_sem, hne]
  refine GLoop_of T_ok (α := Nat) (fun k => [(2, .ptr 0 0 3 0), (6, .r (.rs 1 l.length (intsR l))), (7, .i ((l.take k).foldl g.bt (nth l 0) : Nat)), (8, .i k)]) (fun _ => [g.bx]) 1 (fun k => k ≤ l.length) (fun k => l.length - k) 0 (fun _ => rfl) (by simp) (by simp [go_sem]) (by simp [go_sem]) ?_
  intro k J hi
  by_cases hlt : k < l.length
  · have hs := take_succ' hlt
    have ha := hget k hlt
    have hb := hin2 k
    have hf : (l.take (k + 1)).foldl g.bt (nth l 0) = g.bt ((l.take k).foldl g.bt (nth l 0)) (nth l k) := by rw [hs, List.foldl_append]; rfl
    generalize hx : (l.take k).foldl g.bt (nth l 0) = b at *
    generalize hy : nth l k = x at *
    simp [go_sem, hlt]
    refine GDraw_all T_ok (by kernel_rfl) (by kernel_rfl) ?_
    by_cases hc : (g.r b).q < (g.r x).q
    · have hf' : g.bt b x = x := by unfold EG.bt; rw [if_pos hc]
      simp [go_sem, hlt, hy, ha, hb, hc]
      exact ⟨by omega, k + 1, by omega, by omega, by rw [hf, hf'], by omega⟩
    · have hf' : g.bt b x = b := by unfold EG.bt; rw [if_neg hc]
      simp [go_sem, hlt, hy, ha, hb, hc]
      exact ⟨by omega, k + 1, by omega, by omega, by rw [hf, hf'], by omega⟩
  · have hk : k = l.length := by omega
    subst hk
    simp [go_sem]
end Go.Gx
