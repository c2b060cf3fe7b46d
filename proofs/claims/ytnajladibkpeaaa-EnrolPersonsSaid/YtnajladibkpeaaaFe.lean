/-
  The reference: People. Lists of lists compared.
-/
import Derived.Test.YtnajladibkpeaaaFc
set_option linter.unusedVariables false
set_option linter.unusedSimpArgs false
set_option maxRecDepth 20000
set_option maxHeartbeats 4000000
namespace Go.Gx
open Go.RowKit Go.Proofs Go.Proofs.Ytnajladibkpeaaa

/-- A list of lists of numbers. -/
def lnR (l : List Nat) : RV := .rs 1 l.length (intsR l)
abbrev llR (L : List (List Nat)) : Nat → Nat → RV := fun i _ => lnR (L.getD i [])
abbrev llS (L : List (List Nat)) : SV := .r (.rs 1 L.length (llR L))
theorem llR_app {L : List (List Nat)} {l : List Nat} {i : Nat} (hi : i < L.length + 1) : (if i < L.length then SV.r (llR L i 0) else SV.r (lnR l)) = SV.r (llR (L ++ [l]) i 0) := by
  unfold llR
  by_cases h : i < L.length
  · rw [if_pos h]
    simp [List.getD, List.getElem?_append_left h]
  · have : i = L.length := by omega
    subst this
    rw [if_neg h]
    simp [List.getD]
theorem sameLn24 (l : List Nat) (h : (l.length : Int) < 2 ^ 61) : Pure Try.prog 24 [.r (lnR l), .r (lnR l)] (· = .b true) :=
  (sameInts24 _ _ h h _ _ (fun i => nth l i) (fun i => nth l i) (fun i hi => rfl) (fun i hi => rfl)).val (by simp)
theorem sameLists19 (L : List (List Nat)) (hL : L.length ≤ 1000000) (hl : ∀ l ∈ L, l.length ≤ 1000000) : Pure Try.prog 19 [llS L, llS L] (· = .b true) := by
  refine pure_of_GC T_ok Try.func19 rfl (by kernel_rfl) (Nat.le_of_ble_eq_true rfl) rfl rfl ?_
  simp [go_sem]
  refine GLoop_of T_ok (α := Nat) (fun k => [(0, llS L), (1, llS L), (5, .i k)]) (fun _ => []) 0 (fun k => k ≤ L.length) (fun k => L.length - k) 0 (fun _ => rfl) (by simp) (by simp [go_sem]) (by simp [go_sem]) ?_
  intro k J hi
  by_cases hlt : k < L.length
  · have hm : L.getD k [] ∈ L := by simp [List.getD, hlt]
    have hs := sameLn24 (L.getD k []) (by have := hl _ hm; omega)
    simp [go_sem, hlt]
    refine GDraw_all T_ok (by kernel_rfl) (by kernel_rfl) ?_
    simp [go_sem, hlt]
    refine ⟨_, dcall_val hs rfl rfl, ?_⟩
    simp [go_sem]
    exact ⟨by omega, k + 1, by omega, by omega, by omega⟩
  · simp [go_sem, hlt]
theorem sameNil19 : Pure Try.prog 19 [nilS, nilS] (· = .b true) := by
  refine pure_of_GC T_ok Try.func19 rfl (by kernel_rfl) (Nat.le_of_ble_eq_true rfl) rfl rfl ?_
  simp [go_sem]
  refine GLoop_of T_ok (α := Unit) (fun k => [(0, nilS), (1, nilS), (5, .i 0)]) (fun _ => []) 0 (fun k => True) (fun k => 0) () (fun _ => rfl) trivial (by simp [go_sem]) (by simp [go_sem]) ?_
  intro k J hi
  simp [go_sem]
/-- A record that is there and the first of its person. -/
def EG.rt (g : EG) (a : Nat) : Bool := g.th a && decide (g.num a = a)
/-- The people below record k. -/
def EG.ppl (g : EG) (k : Nat) : List (List Nat) := ((List.range k).filter g.rt).map fun a : Nat => g.mem a g.nr
theorem EG.ppl_succ (g : EG) (k : Nat) : g.ppl (k + 1) = if g.rt k then g.ppl k ++ [g.mem k g.nr] else g.ppl k := by
  unfold EG.ppl
  rw [List.range_succ, List.filter_append]
  split
  · rename_i h; simp [h]
  · rename_i h; simp [h]
theorem EG.ppl_len (g : EG) (k : Nat) : (g.ppl k).length ≤ k := by
  have := List.length_filter_le g.rt (List.range k)
  simpa [EG.ppl] using this
def EG.ppS (g : EG) : SV := if g.valid then llS (g.ppl g.nr) else nilS
def EG.ppE (g : EG) : Int := if g.valid then 0 else 8
theorem refPeople18 (g : EG) (h : g.OK) : Pure Try.prog 18 [g.sv] (· = .tup [g.ppS, .i g.ppE]) := by
  refine Pure.ofSub ?_
  refine pure_of_GC T_ok Try.func18 rfl (by kernel_rfl) (Nat.le_of_ble_eq_true rfl) rfl rfl ?_
  have := h.nr
  simp [go_sem]
  refine call_val (valid49 g h) rfl rfl ?_
  by_cases hv : g.valid = true
  rotate_left
  · have hv' : g.valid = false := by simpa using hv
    have e1 : g.ppS = nilS := if_neg hv
    have e2 : g.ppE = 8 := if_neg hv
    rw [e1, e2]
    simp [go_sem, hv']
  have hl := EG.valid_inl hv
  have e1 : g.ppS = llS (g.ppl g.nr) := if_pos hv
  have e2 : g.ppE = 0 := if_pos hv
  rw [e1, e2]
  simp [go_sem, hv]
  refine GLoop_pre (GSt.adopt 4 40 1 (fun i j => .r (llR [] i j)) rfl) ?_
  refine GLoop_s T_ok (α := Nat) (fun k => [(1, .ptr 0 0 3 0), (4, .sl 1 1 0 (g.ppl k).length none), (5, .i k)]) (fun k => [g.bx, some (.vec 40 1 (g.ppl k).length fun i j => .r (llR (g.ppl k) i j))]) 2 (fun k => k ≤ g.nr) (fun k => g.nr - k) 0 (fun _ => rfl) (by simp) (by simp [go_sem, EG.ppl]) (by simp [go_sem, EG.ppl]) ?_
  intro k J hi
  have hpl := g.ppl_len k
  by_cases hlt : k < g.nr
  rotate_left
  · have hk : k = g.nr := by omega
    subst hk
    simp [go_sem]
  have no : g.rt k = false → g.ppl (k + 1) = g.ppl k := fun hf => by rw [EG.ppl_succ, hf]; rfl
  simp [go_sem, hlt]
  by_cases ht : g.th k = true
  rotate_left
  · have ht' : g.th k = false := by simpa using ht
    refine call_val ((there50 g h k).val (v' := .b false) (by rw [ht'])) rfl rfl ?_
    simp [go_sem]
    refine ⟨by omega, k + 1, by omega, by omega, ?_⟩
    rw [no (by simp [EG.rt, ht'])]
    simp [go_sem]
  refine call_val ((there50 g h k).val (v' := .b true) (by rw [ht])) rfl rfl ?_
  have hk := EG.th_iff.1 ht
  simp [go_sem]
  refine call_val (number51 g h hl k hk.1 hk.2.1) rfl rfl ?_
  by_cases hn : g.num k = k
  rotate_left
  · simp [go_sem, hn]
    refine ⟨by omega, k + 1, by omega, by omega, ?_⟩
    rw [no (by simp [EG.rt, hn])]
    simp [go_sem]
  simp [go_sem, hn]
  refine call_val (members52 g h hl k hk.1 hk.2.1) rfl rfl ?_
  have e : g.ppl (k + 1) = g.ppl k ++ [g.mem k g.nr] := by rw [EG.ppl_succ, if_pos (by simp [EG.rt, ht, hn])]
  simp [go_sem]
  refine ⟨by omega, by omega, k + 1, by omega, by omega, ?_⟩
  rw [e]
  refine ⟨⟨by simp, by omega⟩, by simp, fun i hi2 => ?_⟩
  have hi3 : i < (g.ppl k).length + 1 := by simpa using hi2
  rw [← llR_app hi3]
  unfold joined
  by_cases h5 : i < (g.ppl k).length
  · rw [if_pos h5, if_pos h5]; rfl
  · have h6 : i - (g.ppl k).length = 0 := by omega
    rw [if_neg h5, if_neg h5, if_pos (by omega), h6]; rfl
end Go.Gx
