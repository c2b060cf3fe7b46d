/-
  IndexNearest.
-/
import Derived.Test.YtdnblflhlklfnaaGreatJh
set_option linter.unusedVariables false
set_option linter.unusedSimpArgs false
set_option maxRecDepth 20000
set_option maxHeartbeats 4000000
namespace Go.Gx.Ix
open Go.RowKit Go.Proofs Go.Proofs.YtdnblflhlklfnaaGreat

theorem nearest_of {l : List MbG} (h : VL l) (b : IrG) (turns : Int) : Pure Tryz.prog 9 [(ofG l).sv, b.sv, .i turns] (· = .tup [.i (nrI (ofG l) b turns), .i (nrE (ofG l) b turns)]) :=
  nearest40 (ofG l) (ofG_sm (by have := h.len; omega)) (fun _ a ha => h.srt.ok a ha) b turns
theorem plI_at {l : List MbG} (h : SL l) {i : Nat} (hi : i < l.length) : plI l l[i].id = i := by
  unfold plI
  refine ixB_at hi (by rw [getElem!_pos l i hi]; simp) fun j hj => ?_
  rw [getElem!_pos l j (by omega)]
  have := List.pairwise_iff_getElem.1 h j i (by omega) hi hj
  have this : l[j].id < l[i].id := this
  simp; omega
/-- What Nearest answers for members in order. -/
theorem nrE_of {l : List MbG} (h : VL l) (b : IrG) (turns : Int) (ms : List MbG) (hms : srtM l = ms) :
    (nrE (ofG l) b turns = 0 → mE b b turns 0 1 = 0 ∧ ∃ P, ∃ hP : P < ms.length, nrI (ofG l) b turns = ms[P].id ∧ 0 < (dist ms[P].x b turns.toNat).d ∧
      ∀ j, (hj : j < ms.length) → 0 < (dist ms[j].x b turns.toNat).d → (dist ms[P].x b turns.toNat).le (dist ms[j].x b turns.toNat) ∧ (j < P → (dist ms[P].x b turns.toNat).lt (dist ms[j].x b turns.toNat))) ∧
    (nrE (ofG l) b turns = 6 → mE b b turns 0 1 = 0 ∧ ∀ j, (hj : j < ms.length) → (dist ms[j].x b turns.toNat).d = 0) := by
  have hx : (ofG l).ms = ms := hms
  have hnb := nr_nb ms b turns.toNat
  have hfr : ∀ j, (hj : j < ms.length) → fr ms b turns.toNat j = dist ms[j].x b turns.toNat := fun j hj => by unfold fr cdM; rw [getElem!_pos ms j hj]
  have hv := ofG_valid h
  have hne : nrE (ofG l) b turns = if mE b b turns 0 1 = 0 then if nrAt ms b turns.toNat < 0 then 6 else 0 else mE b b turns 0 1 := by
    unfold nrE; rw [if_neg (by rw [hv]; simp), hx]
  have hmv := mE_vals b b turns 0 1
  have hP : nrP ms b turns.toNat = if nrAt ms b turns.toNat < 0 then -1 else (((nrL ms b turns.toNat ((ms.length + 63) / 64))[(nrAt ms b turns.toNat).toNat]! : Nat) : Int) := rfl
  constructor
  · intro h0
    have hm : mE b b turns 0 1 = 0 := by
      by_cases hm : mE b b turns 0 1 = 0
      · exact hm
      · rw [hne, if_neg hm] at h0; exact h0
    have hat : ¬ nrAt ms b turns.toNat < 0 := fun h => by rw [hne, if_pos hm, if_pos h] at h0; cases h0
    have hI : nrI (ofG l) b turns = (ms[(nrL ms b turns.toNat ((ms.length + 63) / 64))[(nrAt ms b turns.toNat).toNat]!]!).id := by unfold nrI; rw [if_pos h0, hx]
    refine ⟨hm, ?_⟩
    rw [if_neg hat] at hP
    generalize (nrL ms b turns.toNat ((ms.length + 63) / 64))[(nrAt ms b turns.toNat).toNat]! = P at hP hI
    rw [hP] at hnb
    rcases hnb with ⟨k1, _⟩ | ⟨i, k1, k2, k3, k4⟩
    · omega
    · have e : P = i := by omega
      subst e
      refine ⟨P, k2, by rw [hI, getElem!_pos ms P k2], by rw [← hfr P k2]; exact k3, fun j hj hd => ?_⟩
      rw [← hfr P k2, ← hfr j hj]
      rw [← hfr j hj] at hd
      exact k4 j hj hd
  · intro h6
    have hm : mE b b turns 0 1 = 0 := by
      by_cases hm : mE b b turns 0 1 = 0
      · exact hm
      · rw [hne, if_neg hm] at h6; omega
    have hat : nrAt ms b turns.toNat < 0 := by
      by_cases h : nrAt ms b turns.toNat < 0
      · exact h
      · rw [hne, if_pos hm, if_neg h] at h6; cases h6
    refine ⟨hm, fun j hj => ?_⟩
    rw [if_pos hat] at hP
    rw [hP] at hnb
    rcases hnb with ⟨_, k2⟩ | ⟨i, k1, _⟩
    · rw [← hfr j hj]; exact k2 j hj
    · omega
theorem dE_ok {x y : IrG} {turns : Int} (hx : x.ok = true) (hy : y.ok = true) (h1 : 0 ≤ turns) (h2 : turns ≤ 7) : dE x y turns = if (dist x y turns.toNat).d = 0 then 6 else 0 := by
  unfold dE btw
  rw [hx, hy]
  simp [h1, h2]
end Go.Gx.Ix
