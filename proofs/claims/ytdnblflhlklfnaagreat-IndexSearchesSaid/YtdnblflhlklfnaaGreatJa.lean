/-
  Plain: matching is symmetric; which pairs there are; the nearest of blocks is the nearest of all.
-/
import Derived.Test.YtdnblflhlklfnaaGreatIw
set_option linter.unusedVariables false
set_option linter.unusedSimpArgs false
set_option maxRecDepth 20000
set_option maxHeartbeats 2000000
namespace Go.Gx.Ix
open Go.RowKit Go.Proofs Go.Proofs.YtdnblflhlklfnaaGreat

theorem and64_comm (x y : BitVec 64) : and64 x y = and64 y x := BitVec.and_comm ..
theorem xor64_comm (x y : BitVec 64) : xor64 x y = xor64 y x := BitVec.xor_comm ..
theorem d_sym (a b : IrG) (t : Int) : b.d a (-t) = a.d b t := by
  unfold IrG.d cmpD
  rw [← cnt_turn _ t, turn_and, turn_back, and64_comm]
theorem n_sym (a b : IrG) (t : Int) : b.n a (-t) = a.n b t := by
  unfold IrG.n cmpN
  rw [← cnt_turn _ t, turn_and, turn_xor, turn_and, turn_back, turn_back, and64_comm b.m, xor64_comm b.c]
theorem mat_sym (a b : IrG) (n num den : Nat) : matB a b n num den = matB b a n num den := by
  rw [Bool.eq_iff_iff, mat_iff, mat_iff]
  constructor
  · rintro ⟨t, h1, h2, h3⟩
    exact ⟨-t, by omega, by rw [d_sym]; exact h2, by rw [d_sym, n_sym]; exact h3⟩
  · rintro ⟨t, h1, h2, h3⟩
    exact ⟨-t, by omega, by rw [d_sym]; exact h2, by rw [d_sym, n_sym]; exact h3⟩
theorem prI_eq {ms : List MbG} (h : SL ms) {i : Nat} (hi : i < ms.length) (n num den : Nat) : prI ms i (prF ms n num den i) = ((ms.drop (i + 1)).filter fun m => matB m.x ms[i].x n num den).map fun m => (ms[i].id, m.id) := by
  unfold prI prF fndM
  rw [getElem!_pos ms i hi, List.filter_map, List.map_map, List.filter_filter]
  have e : ms.filter (fun m => decide (i < plc ms m.id) && matB m.x ms[i].x n num den) = (ms.drop (i + 1)).filter fun m => matB m.x ms[i].x n num den := by
    have hp : ∀ j (hj : j < ms.length), plc ms ms[j].id = j := fun j hj => plc_at h hj
    have e1 : (ms.take (i + 1)).filter (fun m => decide (i < plc ms m.id) && matB m.x ms[i].x n num den) = [] := by
      refine List.filter_eq_nil_iff.2 fun m hm => ?_
      obtain ⟨j, hj, rfl⟩ := List.mem_iff_getElem.1 hm
      rw [List.length_take] at hj
      rw [List.getElem_take, hp j (by omega)]
      have : ¬ i < j := by omega
      simp [this]
    have e2 : (ms.drop (i + 1)).filter (fun m => decide (i < plc ms m.id) && matB m.x ms[i].x n num den) = (ms.drop (i + 1)).filter fun m => matB m.x ms[i].x n num den := by
      refine List.filter_congr fun m hm => ?_
      obtain ⟨j, hj, rfl⟩ := List.mem_iff_getElem.1 hm
      rw [List.length_drop] at hj
      rw [List.getElem_drop, hp (i + 1 + j) (by omega)]
      have : i < i + 1 + j := by omega
      simp [this]
    generalize hf : (fun m : MbG => decide (i < plc ms m.id) && matB m.x ms[i].x n num den) = f at *
    conv => lhs; rw [← List.take_append_drop (i + 1) ms]
    rw [List.filter_append, e1, e2, List.nil_append]
  exact congrArg (List.map _) e
/-- The pairs of members in order that match. -/
theorem prK_eq {ms : List MbG} (h : SL ms) (n num den : Nat) (k : Nat) (hk : k ≤ ms.length) : prK ms n num den k = (List.range k).flatMap fun i => ((ms.drop (i + 1)).filter fun m => matB (ms[i]!).x m.x n num den).map fun m => ((ms[i]!).id, m.id) := by
  have e : ∀ i ∈ List.range k, prI ms i (prF ms n num den i) = ((ms.drop (i + 1)).filter fun m => matB (ms[i]!).x m.x n num den).map fun m => ((ms[i]!).id, m.id) := fun i hi => by
    have hi := List.mem_range.1 hi
    have hil : i < ms.length := Nat.lt_of_lt_of_le hi hk
    have e2 : ∀ m ∈ ms.drop (i + 1), matB m.x ms[i].x n num den = matB ms[i].x m.x n num den := fun m _ => mat_sym _ _ _ _ _
    rw [prI_eq h hil, getElem!_pos ms i hil, List.filter_congr e2]
  have e3 := List.map_congr_left e
  have e4 : prK ms n num den k = (List.range k).flatMap fun i => prI ms i (prF ms n num den i) := rfl
  rw [e4, List.flatMap_def, List.flatMap_def, e3]

theorem mul3s {a b c d e f : Nat} (hf : 0 < f) (h1 : a * d < c * b) (h2 : c * f ≤ e * d) : a * f < e * b := by
  have h3 : a * d * f < c * b * f := Nat.mul_lt_mul_of_pos_right h1 hf
  have h4 : c * f * b ≤ e * d * b := Nat.mul_le_mul_right b h2
  have e1 : d * (a * f) = a * d * f := by ac_rfl
  have e2 : c * b * f = c * f * b := by ac_rfl
  have e3 : d * (e * b) = e * d * b := by ac_rfl
  exact Nat.lt_of_mul_lt_mul_left (a := d) (by omega)
theorem mul3t {a b c d e f : Nat} (hb : 0 < b) (h1 : a * d ≤ c * b) (h2 : c * f < e * d) : a * f < e * b := by
  have h3 : a * d * f ≤ c * b * f := Nat.mul_le_mul_right f h1
  have h4 : c * f * b < e * d * b := Nat.mul_lt_mul_of_pos_right h2 hb
  have e1 : d * (a * f) = a * d * f := by ac_rfl
  have e2 : c * b * f = c * f * b := by ac_rfl
  have e3 : d * (e * b) = e * d * b := by ac_rfl
  exact Nat.lt_of_mul_lt_mul_left (a := d) (by omega)
/-- No farther. -/
def Pt.le (p q : Pt) : Prop := p.n * q.d ≤ q.n * p.d
def Pt.lt (p q : Pt) : Prop := p.n * q.d < q.n * p.d
/-- The place of the first one that is nearest; less than 0 if there is none. -/
def NB (f : Nat → Pt) (N : Nat) (r : Int) : Prop := (r = -1 ∧ ∀ i, i < N → (f i).d = 0) ∨ ∃ i : Nat, r = i ∧ i < N ∧ 0 < (f i).d ∧ ∀ j, j < N → 0 < (f j).d → (f i).le (f j) ∧ (j < i → (f i).lt (f j))
theorem NB.uniq {f : Nat → Pt} {N : Nat} {r r' : Int} (h : NB f N r) (h' : NB f N r') : r = r' := by
  rcases h with ⟨h1, h2⟩ | ⟨i, h1, h2, h3, h4⟩ <;> rcases h' with ⟨k1, k2⟩ | ⟨j, k1, k2, k3, k4⟩
  · omega
  · have := h2 j k2; omega
  · have := k2 i h2; omega
  · rcases Nat.lt_trichotomy i j with h | h | h
    · have a := (h4 j k2 k3).1
      have b := (k4 i h2 h3).2 h
      unfold Pt.le at a; unfold Pt.lt at b; omega
    · omega
    · have a := (k4 i h2 h3).1
      have b := (h4 j k2 k3).2 h
      unfold Pt.le at a; unfold Pt.lt at b; omega
theorem nst_nb (g : Nat → IrG) (b : IrG) (n : Nat) : ∀ N, NB (fun i => dist (g i) b n) N (nst g b n N).2 ∧ (nst g b n N).1 = if (nst g b n N).2 < 0 then ⟨0, 0, 0⟩ else dist (g (nst g b n N).2.toNat) b n
  | 0 => ⟨.inl ⟨rfl, by simp⟩, rfl⟩
  | N + 1 => by
    obtain ⟨h1, h2⟩ := nst_nb g b n N
    obtain ⟨f, hf⟩ : ∃ f : Nat → Pt, (fun i => dist (g i) b n) = f := ⟨_, rfl⟩
    have hf' : ∀ i, dist (g i) b n = f i := fun i => congrFun hf i
    have e : nst g b n (N + 1) = if (dist (g N) b n).less (nst g b n N).1 = true then (dist (g N) b n, (N : Int)) else nst g b n N := rfl
    rw [e]
    simp only [hf'] at h1 h2 ⊢
    rw [show (fun i => f i) = f from rfl] at h1 ⊢
    obtain ⟨r, hr⟩ : ∃ r, nst g b n N = r := ⟨_, rfl⟩
    rw [hr] at h1 h2 ⊢
    have hless : (f N).less r.1 = true ↔ 0 < (f N).d ∧ (r.1.d = 0 ∨ (f N).n * r.1.d < r.1.n * (f N).d) := by unfold Pt.less; simp
    by_cases hl : (f N).less r.1 = true
    · rw [if_pos hl]
      obtain ⟨l1, l2⟩ := hless.1 hl
      refine ⟨.inr ⟨N, rfl, by omega, l1, fun j hj hd => ?_⟩, ?_⟩
      · by_cases hjN : j = N
        · subst hjN; exact ⟨Nat.le_refl _, fun h => absurd h (Nat.lt_irrefl _)⟩
        · have hs : (f N).lt (f j) := by
            rcases h1 with ⟨k1, k2⟩ | ⟨i, k1, k2, k3, k4⟩
            · have := k2 j (by omega); omega
            · rw [k1, if_neg (by omega), Int.toNat_natCast] at h2
              have hle := (k4 j (by omega) hd).1
              rw [h2] at l2
              exact mul3s hd (l2.resolve_left (by omega)) hle
          exact ⟨Nat.le_of_lt hs, fun _ => hs⟩
      · show f N = _
        rw [if_neg (by show ¬ (N : Int) < 0; omega)]
        show f N = f (Int.toNat (N : Int))
        rw [Int.toNat_natCast]
    · rw [if_neg hl]
      refine ⟨?_, h2⟩
      have hnl : ¬ (0 < (f N).d ∧ (r.1.d = 0 ∨ (f N).n * r.1.d < r.1.n * (f N).d)) := fun h => hl (hless.2 h)
      rcases h1 with ⟨k1, k2⟩ | ⟨i, k1, k2, k3, k4⟩
      · rw [k1, if_pos (by omega)] at h2
        refine .inl ⟨k1, fun i hi => ?_⟩
        by_cases hiN : i = N
        · subst hiN
          refine Nat.eq_zero_of_not_pos fun h => hnl ⟨h, .inl ?_⟩
          rw [h2]
        · exact k2 i (by omega)
      · rw [k1, if_neg (by omega), Int.toNat_natCast] at h2
        refine .inr ⟨i, k1, by omega, k3, fun j hj hd => ?_⟩
        by_cases hjN : j = N
        · subst hjN
          refine ⟨?_, fun h => absurd h (by omega)⟩
          refine Nat.le_of_not_lt fun h => hnl ⟨hd, .inr ?_⟩
          rw [h2]
          exact h
        · exact k4 j (by omega) hd
section
variable (ms : List MbG) (b : IrG) (n : Nat)
/-- How far a member is. -/
def fr (i : Nat) : Pt := dist (cdM ms i) b n
structure Blk (K : Nat) (L : List Nat) : Prop where
  inc : L.Pairwise (· < ·)
  lt : ∀ p ∈ L, p < 64 * K ∧ p < ms.length ∧ 0 < (fr ms b n p).d
  best : ∀ p ∈ L, ∀ j, j < ms.length → j / 64 = p / 64 → 0 < (fr ms b n j).d → (fr ms b n p).le (fr ms b n j) ∧ (j < p → (fr ms b n p).lt (fr ms b n j))
  all : ∀ j, j < ms.length → j < 64 * K → 0 < (fr ms b n j).d → ∃ p ∈ L, p / 64 = j / 64
theorem nrL_blk : ∀ K, Blk ms b n K (nrL ms b n K)
  | 0 => ⟨List.Pairwise.nil, fun p hp => (by cases hp), fun p hp => (by cases hp), fun j _ h => absurd h (by omega)⟩
  | K + 1 => by
    have h := nrL_blk K
    have hb : NB (fun i => fr ms b n (64 * K + i)) (min 64 (ms.length - 64 * K)) (blkN ms b n K) := (nst_nb (fun i => cdM ms (64 * K + i)) b n (min 64 (ms.length - 64 * K))).1
    have e : nrL ms b n (K + 1) = if blkN ms b n K < 0 then nrL ms b n K else nrL ms b n K ++ [64 * K + (blkN ms b n K).toNat] := rfl
    rw [e]
    rcases hb with ⟨k1, k2⟩ | ⟨i, k1, k2, k3, k4⟩
    · simp only at k2
      rw [if_pos (by omega)]
      refine ⟨h.inc, fun p hp => ⟨by have := (h.lt p hp).1; omega, (h.lt p hp).2⟩, h.best, fun j hj hK hd => ?_⟩
      by_cases hjK : j < 64 * K
      · exact h.all j hj hjK hd
      · have := k2 (j - 64 * K) (by omega)
        rw [show 64 * K + (j - 64 * K) = j by omega] at this
        omega
    · simp only at k3 k4
      rw [if_neg (by omega), k1, Int.toNat_natCast]
      refine ⟨?_, fun p hp => ?_, fun p hp j hj hjp hd => ?_, fun j hj hK hd => ?_⟩
      · rw [List.pairwise_append]
        refine ⟨h.inc, List.pairwise_singleton _ _, fun a ha c hc => ?_⟩
        have := (h.lt a ha).1
        simp at hc
        omega
      · rcases List.mem_append.1 hp with hp | hp
        · have := (h.lt p hp).1
          exact ⟨by omega, (h.lt p hp).2⟩
        · simp at hp
          subst hp
          exact ⟨by omega, by omega, k3⟩
      · rcases List.mem_append.1 hp with hp | hp
        · exact h.best p hp j hj hjp hd
        · simp at hp
          subst hp
          have hj2 : 64 * K ≤ j ∧ j < 64 * K + 64 := by omega
          have := k4 (j - 64 * K) (by omega)
          rw [show 64 * K + (j - 64 * K) = j by omega] at this
          refine ⟨(this hd).1, fun hlt => (this hd).2 (by omega)⟩
      · by_cases hjK : j < 64 * K
        · obtain ⟨p, hp, h1⟩ := h.all j hj hjK hd
          exact ⟨p, List.mem_append_left _ hp, h1⟩
        · exact ⟨64 * K + i, by simp, by omega⟩
/-- The place of the nearest member. -/
def nrP : Int := if nrAt ms b n < 0 then -1 else ((nrL ms b n ((ms.length + 63) / 64))[(nrAt ms b n).toNat]! : Nat)
theorem nr_nb : NB (fr ms b n) ms.length (nrP ms b n) := by
  have h := nrL_blk ms b n ((ms.length + 63) / 64)
  have h2 : NB (fun i => fr ms b n ((nrL ms b n ((ms.length + 63) / 64))[i]!)) (nrL ms b n ((ms.length + 63) / 64)).length (nrAt ms b n) := (nst_nb (fun i => cdM ms ((nrL ms b n ((ms.length + 63) / 64))[i]!)) b n _).1
  unfold nrP
  generalize nrL ms b n ((ms.length + 63) / 64) = L at h h2 ⊢
  generalize nrAt ms b n = r at h2 ⊢
  rcases h2 with ⟨k1, k2⟩ | ⟨i, k1, k2, k3, k4⟩
  · simp only at k2
    rw [if_pos (by omega)]
    refine .inl ⟨rfl, fun j hj => Nat.eq_zero_of_not_pos fun hd => ?_⟩
    obtain ⟨p, hp, h1⟩ := h.all j hj (by omega) hd
    obtain ⟨q, hq, rfl⟩ := List.mem_iff_getElem.1 hp
    have := k2 q hq
    rw [getElem!_pos L q hq] at this
    have := (h.lt _ hp).2.2
    omega
  · simp only at k3 k4
    rw [if_neg (by omega), k1, Int.toNat_natCast]
    have hi : L[i]! = L[i] := getElem!_pos L i k2
    rw [hi] at k3 k4 ⊢
    refine .inr ⟨L[i], rfl, (h.lt _ (List.getElem_mem k2)).2.1, k3, fun j hj hd => ?_⟩
    obtain ⟨p, hp, h1⟩ := h.all j hj (by omega) hd
    have hb := h.best p hp j hj h1.symm hd
    obtain ⟨q, hq, rfl⟩ := List.mem_iff_getElem.1 hp
    have hd2 := (h.lt _ hp).2.2
    have k5 := k4 q hq
    rw [getElem!_pos L q hq] at k5
    obtain ⟨a1, a2⟩ := k5 hd2
    refine ⟨mul3 hd2 a1 hb.1, fun hlt => ?_⟩
    rcases Nat.lt_trichotomy q i with hqi | hqi | hqi
    · exact mul3s hd (a2 hqi) hb.1
    · subst hqi
      exact hb.2 hlt
    · have := List.pairwise_iff_getElem.1 h.inc i q k2 hq hqi
      have hdiv : L[i] / 64 ≤ L[q] / 64 := Nat.div_le_div_right (Nat.le_of_lt this)
      have hdj : j / 64 ≤ L[i] / 64 := Nat.div_le_div_right (Nat.le_of_lt hlt)
      exact mul3t k3 a1 (hb.2 (by omega))
end
end Go.Gx.Ix
