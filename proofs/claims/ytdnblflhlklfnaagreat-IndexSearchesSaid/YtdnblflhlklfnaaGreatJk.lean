/-
  IndexTwins.
-/
import Derived.Test.YtdnblflhlklfnaaGreatJj
set_option linter.unusedVariables false
set_option linter.unusedSimpArgs false
set_option maxRecDepth 20000
set_option maxHeartbeats 4000000
namespace Go.Gx.Ix
open Go.RowKit Go.Proofs Go.Proofs.YtdnblflhlklfnaaGreat

theorem pairs_of {l : List MbG} (h : VL l) (turns num den : Int) : Pure Tryz.prog 11 [(ofG l).sv, .i turns, .agg [.i num, .i den]] (· = .tup [qls (if mE ⟨0, 0⟩ ⟨0, 0⟩ turns num den = 0 then prK (srtM l) turns.toNat num.toNat den.toNat (srtM l).length else []), .i (mE ⟨0, 0⟩ ⟨0, 0⟩ turns num den)]) := by
  have hs := pairs38 (ofG l) (ofG_sm (by have := h.len; omega)) turns num den
  have hE : prE (ofG l) turns num den = mE ⟨0, 0⟩ ⟨0, 0⟩ turns num den := by unfold prE; rw [if_neg (by rw [ofG_valid h]; simp)]
  unfold prL at hs
  rw [hE] at hs
  exact hs
/-- The pairs with the i-th member, up to the j-th. -/
def rwP (ms : List MbG) (n num den i j : Nat) : List (Int × Int) := (((ms.take j).drop (i + 1)).filter fun m => matB (ms[i]!).x m.x n num den).map fun m => ((ms[i]!).id, m.id)
def qP (ms : List MbG) (n num den i j : Nat) : List (Int × Int) := prK ms n num den i ++ rwP ms n num den i j
theorem rwP_zero (ms : List MbG) (n num den i : Nat) : rwP ms n num den i 0 = [] := by simp [rwP]
theorem rwP_succ (ms : List MbG) (n num den i : Nat) {j : Nat} (hj : j < ms.length) : rwP ms n num den i (j + 1) = rwP ms n num den i j ++ if i < j ∧ matB (ms[i]!).x ms[j].x n num den = true then [((ms[i]!).id, ms[j].id)] else [] := by
  unfold rwP
  rw [List.take_succ_eq_append_getElem hj, List.drop_append]
  by_cases h : i < j
  · have e : i + 1 - (ms.take j).length = 0 := by rw [List.length_take]; omega
    rw [e, List.drop_zero, List.filter_append, List.map_append]
    congr 1
    generalize ms[i]! = a
    by_cases hm : matB a.x ms[j].x n num den = true <;> simp [h, hm]
  · have e : 1 ≤ i + 1 - (ms.take j).length := by rw [List.length_take]; omega
    have e2 : [ms[j]].drop (i + 1 - (ms.take j).length) = [] := List.drop_eq_nil_of_le (by simpa using e)
    rw [e2, List.append_nil, if_neg (fun h' => h h'.1), List.append_nil]
theorem rwP_all {ms : List MbG} (h : SL ms) (n num den : Nat) {i : Nat} (hi : i < ms.length) : rwP ms n num den i ms.length = prI ms i (prF ms n num den i) := by
  unfold rwP
  rw [List.take_length, prI_eq h hi, getElem!_pos ms i hi]
  have e2 : ∀ m ∈ ms.drop (i + 1), matB ms[i].x m.x n num den = matB m.x ms[i].x n num den := fun m _ => mat_sym _ _ _ _ _
  rw [List.filter_congr e2]
theorem prK_pre (ms : List MbG) (n num den k : Nat) : ∀ d, prK ms n num den k <+: prK ms n num den (k + d)
  | 0 => List.prefix_refl _
  | d + 1 => by
    rw [show k + (d + 1) = (k + d) + 1 from rfl, prK_succ]
    exact (prK_pre ms n num den k d).trans (List.prefix_append _ _)
theorem rwP_pre (ms : List MbG) (n num den i j : Nat) : ∀ d, j + d ≤ ms.length → rwP ms n num den i j <+: rwP ms n num den i (j + d)
  | 0, _ => List.prefix_refl _
  | d + 1, h => by
    have := rwP_succ ms n num den i (j := j + d) (by omega)
    rw [show j + (d + 1) = (j + d) + 1 from rfl, this]
    exact (rwP_pre ms n num den i j d (by omega)).trans (List.prefix_append _ _)
theorem qP_pre {ms : List MbG} (h : SL ms) (n num den : Nat) {i j : Nat} (hi : i < ms.length) (hj : j ≤ ms.length) : qP ms n num den i j <+: prK ms n num den ms.length := by
  have h1 := rwP_pre ms n num den i j (ms.length - j) (by omega)
  rw [show j + (ms.length - j) = ms.length by omega, rwP_all h n num den hi] at h1
  have h2 := prK_pre ms n num den (i + 1) (ms.length - (i + 1))
  rw [show i + 1 + (ms.length - (i + 1)) = ms.length by omega, prK_succ] at h2
  exact (List.prefix_append_right_inj _ |>.2 h1).trans h2
theorem at_pre {α : Type} {a p : List α} {x : α} (h : a ++ [x] <+: p) : ∃ hk : a.length < p.length, p[a.length] = x := by
  obtain ⟨t, rfl⟩ := h
  refine ⟨by simp, ?_⟩
  simp
/-- Whether a number is found. -/
theorem has_mat {ms : List MbG} (h : (ms.map (·.id)).Nodup) {i j : Nat} (hi : i < ms.length) (hj : j < ms.length) (n num den : Nat) : (fndM ms ms[i].x n num den).contains ms[j].id = matB ms[i].x ms[j].x n num den := by
  rw [Bool.eq_iff_iff, List.contains_eq_mem, decide_eq_true_eq]
  unfold fndM
  rw [List.mem_map, mat_sym]
  constructor
  · rintro ⟨m, hm, e⟩
    rw [List.mem_filter] at hm
    have := id_inj h hm.1 (List.getElem_mem hj) e
    rw [← this]; exact hm.2
  · intro hm
    exact ⟨ms[j], List.mem_filter.2 ⟨List.getElem_mem hj, hm⟩, rfl⟩
def hasI (F : List Int) (b : Int) (w : Nat) : Bool := (F.take w).contains b
theorem hasI_zero (F : List Int) (b : Int) : hasI F b 0 = false := by simp [hasI]
theorem hasI_all (F : List Int) (b : Int) : hasI F b F.length = F.contains b := by simp [hasI]
theorem hasI_succ {F : List Int} {b : Int} {w : Nat} (h : w < F.length) : hasI F b (w + 1) = (hasI F b w || decide (F[w] = b)) := by
  unfold hasI
  rw [List.take_succ_eq_append_getElem h, Bool.eq_iff_iff]
  simp only [List.contains_eq_mem, List.mem_append, List.mem_singleton, Bool.or_eq_true, decide_eq_true_eq]
  constructor
  · rintro (h | h)
    · exact .inl h
    · exact .inr h.symm
  · rintro (h | h)
    · exact .inl h
    · exact .inr h.symm
end Go.Gx.Ix
