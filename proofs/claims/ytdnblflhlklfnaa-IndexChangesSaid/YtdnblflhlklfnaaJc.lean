/-
  Plain: matching is symmetric; which pairs there are; the nearest of blocks is the nearest of all. The laws' small functions. The chapter's examples: alive.
-/
import Derived.Test.YtdnblflhlklfnaaIw
set_option linter.unusedVariables false
set_option linter.unusedSimpArgs false
set_option maxRecDepth 20000
set_option maxHeartbeats 2000000
namespace Go.Gx.Ix
open Go.RowKit Go.Proofs Go.Proofs.Ytdnblflhlklfnaa

theorem and64_comm (x y : BitVec 64) : and64 x y = and64 y x := BitVec.and_comm ..
theorem xor64_comm (x y : BitVec 64) : xor64 x y = xor64 y x := BitVec.xor_comm ..
theorem d_sym (a b : IrG) (t : Int) : b.d a (-t) = a.d b t := by
  unfold IrG.d cmpD
  rw [← cnt_turn _ t, turn_and, turn_back, and64_comm]
theorem n_sym (a b : IrG) (t : Int) : b.n a (-t) = a.n b t := by
  unfold IrG.n cmpN
  rw [← cnt_turn _ t, turn_and, turn_xor, turn_and, turn_back, turn_back, and64_comm b.m, xor64_comm b.c]
theorem mat_sym (a b : IrG) (n num den : Nat) : matB a b n num den = matB b a n num den := by
  rw [Bool.eq_iff_iff, mat_iff, mat_iff]
  constructor
  · rintro ⟨t, h1, h2, h3⟩
    exact ⟨-t, by omega, by rw [d_sym]; exact h2, by rw [d_sym, n_sym]; exact h3⟩
  · rintro ⟨t, h1, h2, h3⟩
    exact ⟨-t, by omega, by rw [d_sym]; exact h2, by rw [d_sym, n_sym]; exact h3⟩
theorem prI_eq {ms : List MbG} (h : SL ms) {i : Nat} (hi : i < ms.length) (n num den : Nat) : prI ms i (prF ms n num den i) = ((ms.drop (i + 1)).filter fun m => matB m.x ms[i].x n num den).map fun m => (ms[i].id, m.id) := by
  unfold prI prF fndM
  rw [getElem!_pos ms i hi, List.filter_map, List.map_map, List.filter_filter]
  have e : ms.filter (fun m => decide (i < plc ms m.id) && matB m.x ms[i].x n num den) = (ms.drop (i + 1)).filter fun m => matB m.x ms[i].x n num den := by
    have hp : ∀ j (hj : j < ms.length), plc ms ms[j].id = j := fun j hj => plc_at h hj
    have e1 : (ms.take (i + 1)).filter (fun m => decide (i < plc ms m.id) && matB m.x ms[i].x n num den) = [] := by
      refine List.filter_eq_nil_iff.2 fun m hm => ?_
      obtain ⟨j, hj, rfl⟩ := List.mem_iff_getElem.1 hm
      rw [List.length_take] at hj
      rw [List.getElem_take, hp j (by omega)]
      have : ¬ i < j := by omega
      simp [this]
    have e2 : (ms.drop (i + 1)).filter (fun m => decide (i < plc ms m.id) && matB m.x ms[i].x n num den) = (ms.drop (i + 1)).filter fun m => matB m.x ms[i].x n num den := by
      refine List.filter_congr fun m hm => ?_
      obtain ⟨j, hj, rfl⟩ := List.mem_iff_getElem.1 hm
      rw [List.length_drop] at hj
      rw [List.getElem_drop, hp (i + 1 + j) (by omega)]
      have : i < i + 1 + j := by omega
      simp [this]
    generalize hf : (fun m : MbG => decide (i < plc ms m.id) && matB m.x ms[i].x n num den) = f at *
    conv => lhs; rw [← List.take_append_drop (i + 1) ms]
    rw [List.filter_append, e1, e2, List.nil_append]
  exact congrArg (List.map _) e
/-- The pairs of members in order that match. -/
theorem prK_eq {ms : List MbG} (h : SL ms) (n num den : Nat) (k : Nat) (hk : k ≤ ms.length) : prK ms n num den k = (List.range k).flatMap fun i => ((ms.drop (i + 1)).filter fun m => matB (ms[i]!).x m.x n num den).map fun m => ((ms[i]!).id, m.id) := by
  have e : ∀ i ∈ List.range k, prI ms i (prF ms n num den i) = ((ms.drop (i + 1)).filter fun m => matB (ms[i]!).x m.x n num den).map fun m => ((ms[i]!).id, m.id) := fun i hi => by
    have hi := List.mem_range.1 hi
    have hil : i < ms.length := Nat.lt_of_lt_of_le hi hk
    have e2 : ∀ m ∈ ms.drop (i + 1), matB m.x ms[i].x n num den = matB ms[i].x m.x n num den := fun m _ => mat_sym _ _ _ _ _
    rw [prI_eq h hil, getElem!_pos ms i hil, List.filter_congr e2]
  have e3 := List.map_congr_left e
  have e4 : prK ms n num den k = (List.range k).flatMap fun i => prI ms i (prF ms n num den i) := rfl
  rw [e4, List.flatMap_def, List.flatMap_def, e3]

theorem mul3s {a b c d e f : Nat} (hf : 0 < f) (h1 : a * d < c * b) (h2 : c * f ≤ e * d) : a * f < e * b := by
  have h3 : a * d * f < c * b * f := Nat.mul_lt_mul_of_pos_right h1 hf
  have h4 : c * f * b ≤ e * d * b := Nat.mul_le_mul_right b h2
  have e1 : d * (a * f) = a * d * f := by ac_rfl
  have e2 : c * b * f = c * f * b := by ac_rfl
  have e3 : d * (e * b) = e * d * b := by ac_rfl
  exact Nat.lt_of_mul_lt_mul_left (a := d) (by omega)
theorem mul3t {a b c d e f : Nat} (hb : 0 < b) (h1 : a * d ≤ c * b) (h2 : c * f < e * d) : a * f < e * b := by
  have h3 : a * d * f ≤ c * b * f := Nat.mul_le_mul_right f h1
  have h4 : c * f * b < e * d * b := Nat.mul_lt_mul_of_pos_right h2 hb
  have e1 : d * (a * f) = a * d * f := by ac_rfl
  have e2 : c * b * f = c * f * b := by ac_rfl
  have e3 : d * (e * b) = e * d * b := by ac_rfl
  exact Nat.lt_of_mul_lt_mul_left (a := d) (by omega)
/-- No farther. -/
def Pt.le (p q : Pt) : Prop := p.n * q.d ≤ q.n * p.d
def Pt.lt (p q : Pt) : Prop := p.n * q.d < q.n * p.d
/-- The place of the first one that is nearest; less than 0 if there is none. -/
def NB (f : Nat → Pt) (N : Nat) (r : Int) : Prop := (r = -1 ∧ ∀ i, i < N → (f i).d = 0) ∨ ∃ i : Nat, r = i ∧ i < N ∧ 0 < (f i).d ∧ ∀ j, j < N → 0 < (f j).d → (f i).le (f j) ∧ (j < i → (f i).lt (f j))
theorem NB.uniq {f : Nat → Pt} {N : Nat} {r r' : Int} (h : NB f N r) (h' : NB f N r') : r = r' := by
  rcases h with ⟨h1, h2⟩ | ⟨i, h1, h2, h3, h4⟩ <;> rcases h' with ⟨k1, k2⟩ | ⟨j, k1, k2, k3, k4⟩
  · omega
  · have := h2 j k2; omega
  · have := k2 i h2; omega
  · rcases Nat.lt_trichotomy i j with h | h | h
    · have a := (h4 j k2 k3).1
      have b := (k4 i h2 h3).2 h
      unfold Pt.le at a; unfold Pt.lt at b; omega
    · omega
    · have a := (k4 i h2 h3).1
      have b := (h4 j k2 k3).2 h
      unfold Pt.le at a; unfold Pt.lt at b; omega
theorem nst_nb (g : Nat → IrG) (b : IrG) (n : Nat) : ∀ N, NB (fun i => dist (g i) b n) N (nst g b n N).2 ∧ (nst g b n N).1 = if (nst g b n N).2 < 0 then ⟨0, 0, 0⟩ else dist (g (nst g b n N).2.toNat) b n
  | 0 => ⟨.inl ⟨rfl, by simp⟩, rfl⟩
  | N + 1 => by
    obtain ⟨h1, h2⟩ := nst_nb g b n N
    obtain ⟨f, hf⟩ : ∃ f : Nat → Pt, (fun i => dist (g i) b n) = f := ⟨_, rfl⟩
    have hf' : ∀ i, dist (g i) b n = f i := fun i => congrFun hf i
    have e : nst g b n (N + 1) = if (dist (g N) b n).less (nst g b n N).1 = true then (dist (g N) b n, (N : Int)) else nst g b n N := rfl
    rw [e]
    simp only [hf'] at h1 h2 ⊢
    rw [show (fun i => f i) = f from rfl] at h1 ⊢
    obtain ⟨r, hr⟩ : ∃ r, nst g b n N = r := ⟨_, rfl⟩
    rw [hr] at h1 h2 ⊢
    have hless : (f N).less r.1 = true ↔ 0 < (f N).d ∧ (r.1.d = 0 ∨ (f N).n * r.1.d < r.1.n * (f N).d) := by unfold Pt.less; simp
    by_cases hl : (f N).less r.1 = true
    · rw [if_pos hl]
      obtain ⟨l1, l2⟩ := hless.1 hl
      refine ⟨.inr ⟨N, rfl, by omega, l1, fun j hj hd => ?_⟩, ?_⟩
      · by_cases hjN : j = N
        · subst hjN; exact ⟨Nat.le_refl _, fun h => absurd h (Nat.lt_irrefl _)⟩
        · have hs : (f N).lt (f j) := by
            rcases h1 with ⟨k1, k2⟩ | ⟨i, k1, k2, k3, k4⟩
            · have := k2 j (by omega); omega
            · rw [k1, if_neg (by omega), Int.toNat_natCast] at h2
              have hle := (k4 j (by omega) hd).1
              rw [h2] at l2
              exact mul3s hd (l2.resolve_left (by omega)) hle
          exact ⟨Nat.le_of_lt hs, fun _ => hs⟩
      · show f N = _
        rw [if_neg (by show ¬ (N : Int) < 0; omega)]
        show f N = f (Int.toNat (N : Int))
        rw [Int.toNat_natCast]
    · rw [if_neg hl]
      refine ⟨?_, h2⟩
      have hnl : ¬ (0 < (f N).d ∧ (r.1.d = 0 ∨ (f N).n * r.1.d < r.1.n * (f N).d)) := fun h => hl (hless.2 h)
      rcases h1 with ⟨k1, k2⟩ | ⟨i, k1, k2, k3, k4⟩
      · rw [k1, if_pos (by omega)] at h2
        refine .inl ⟨k1, fun i hi => ?_⟩
        by_cases hiN : i = N
        · subst hiN
          refine Nat.eq_zero_of_not_pos fun h => hnl ⟨h, .inl ?_⟩
          rw [h2]
        · exact k2 i (by omega)
      · rw [k1, if_neg (by omega), Int.toNat_natCast] at h2
        refine .inr ⟨i, k1, by omega, k3, fun j hj hd => ?_⟩
        by_cases hjN : j = N
        · subst hjN
          refine ⟨?_, fun h => absurd h (by omega)⟩
          refine Nat.le_of_not_lt fun h => hnl ⟨hd, .inr ?_⟩
          rw [h2]
          exact h
        · exact k4 j (by omega) hd
section
variable (ms : List MbG) (b : IrG) (n : Nat)
/-- How far a member is. -/
def fr (i : Nat) : Pt := dist (cdM ms i) b n
structure Blk (K : Nat) (L : List Nat) : Prop where
  inc : L.Pairwise (· < ·)
  lt : ∀ p ∈ L, p < 64 * K ∧ p < ms.length ∧ 0 < (fr ms b n p).d
  best : ∀ p ∈ L, ∀ j, j < ms.length → j / 64 = p / 64 → 0 < (fr ms b n j).d → (fr ms b n p).le (fr ms b n j) ∧ (j < p → (fr ms b n p).lt (fr ms b n j))
  all : ∀ j, j < ms.length → j < 64 * K → 0 < (fr ms b n j).d → ∃ p ∈ L, p / 64 = j / 64
theorem nrL_blk : ∀ K, Blk ms b n K (nrL ms b n K)
  | 0 => ⟨List.Pairwise.nil, fun p hp => (by cases hp), fun p hp => (by cases hp), fun j _ h => absurd h (by omega)⟩
  | K + 1 => by
    have h := nrL_blk K
    have hb : NB (fun i => fr ms b n (64 * K + i)) (min 64 (ms.length - 64 * K)) (blkN ms b n K) := (nst_nb (fun i => cdM ms (64 * K + i)) b n (min 64 (ms.length - 64 * K))).1
    have e : nrL ms b n (K + 1) = if blkN ms b n K < 0 then nrL ms b n K else nrL ms b n K ++ [64 * K + (blkN ms b n K).toNat] := rfl
    rw [e]
    rcases hb with ⟨k1, k2⟩ | ⟨i, k1, k2, k3, k4⟩
    · simp only at k2
      rw [if_pos (by omega)]
      refine ⟨h.inc, fun p hp => ⟨by have := (h.lt p hp).1; omega, (h.lt p hp).2⟩, h.best, fun j hj hK hd => ?_⟩
      by_cases hjK : j < 64 * K
      · exact h.all j hj hjK hd
      · have := k2 (j - 64 * K) (by omega)
        rw [show 64 * K + (j - 64 * K) = j by omega] at this
        omega
    · simp only at k3 k4
      rw [if_neg (by omega), k1, Int.toNat_natCast]
      refine ⟨?_, fun p hp => ?_, fun p hp j hj hjp hd => ?_, fun j hj hK hd => ?_⟩
      · rw [List.pairwise_append]
        refine ⟨h.inc, List.pairwise_singleton _ _, fun a ha c hc => ?_⟩
        have := (h.lt a ha).1
        simp at hc
        omega
      · rcases List.mem_append.1 hp with hp | hp
        · have := (h.lt p hp).1
          exact ⟨by omega, (h.lt p hp).2⟩
        · simp at hp
          subst hp
          exact ⟨by omega, by omega, k3⟩
      · rcases List.mem_append.1 hp with hp | hp
        · exact h.best p hp j hj hjp hd
        · simp at hp
          subst hp
          have hj2 : 64 * K ≤ j ∧ j < 64 * K + 64 := by omega
          have := k4 (j - 64 * K) (by omega)
          rw [show 64 * K + (j - 64 * K) = j by omega] at this
          refine ⟨(this hd).1, fun hlt => (this hd).2 (by omega)⟩
      · by_cases hjK : j < 64 * K
        · obtain ⟨p, hp, h1⟩ := h.all j hj hjK hd
          exact ⟨p, List.mem_append_left _ hp, h1⟩
        · exact ⟨64 * K + i, by simp, by omega⟩
/-- The place of the nearest member. -/
def nrP : Int := if nrAt ms b n < 0 then -1 else ((nrL ms b n ((ms.length + 63) / 64))[(nrAt ms b n).toNat]! : Nat)
theorem nr_nb : NB (fr ms b n) ms.length (nrP ms b n) := by
  have h := nrL_blk ms b n ((ms.length + 63) / 64)
  have h2 : NB (fun i => fr ms b n ((nrL ms b n ((ms.length + 63) / 64))[i]!)) (nrL ms b n ((ms.length + 63) / 64)).length (nrAt ms b n) := (nst_nb (fun i => cdM ms ((nrL ms b n ((ms.length + 63) / 64))[i]!)) b n _).1
  unfold nrP
  generalize nrL ms b n ((ms.length + 63) / 64) = L at h h2 ⊢
  generalize nrAt ms b n = r at h2 ⊢
  rcases h2 with ⟨k1, k2⟩ | ⟨i, k1, k2, k3, k4⟩
  · simp only at k2
    rw [if_pos (by omega)]
    refine .inl ⟨rfl, fun j hj => Nat.eq_zero_of_not_pos fun hd => ?_⟩
    obtain ⟨p, hp, h1⟩ := h.all j hj (by omega) hd
    obtain ⟨q, hq, rfl⟩ := List.mem_iff_getElem.1 hp
    have := k2 q hq
    rw [getElem!_pos L q hq] at this
    have := (h.lt _ hp).2.2
    omega
  · simp only at k3 k4
    rw [if_neg (by omega), k1, Int.toNat_natCast]
    have hi : L[i]! = L[i] := getElem!_pos L i k2
    rw [hi] at k3 k4 ⊢
    refine .inr ⟨L[i], rfl, (h.lt _ (List.getElem_mem k2)).2.1, k3, fun j hj hd => ?_⟩
    obtain ⟨p, hp, h1⟩ := h.all j hj (by omega) hd
    have hb := h.best p hp j hj h1.symm hd
    obtain ⟨q, hq, rfl⟩ := List.mem_iff_getElem.1 hp
    have hd2 := (h.lt _ hp).2.2
    have k5 := k4 q hq
    rw [getElem!_pos L q hq] at k5
    obtain ⟨a1, a2⟩ := k5 hd2
    refine ⟨mul3 hd2 a1 hb.1, fun hlt => ?_⟩
    rcases Nat.lt_trichotomy q i with hqi | hqi | hqi
    · exact mul3s hd (a2 hqi) hb.1
    · subst hqi
      exact hb.2 hlt
    · have := List.pairwise_iff_getElem.1 h.inc i q k2 hq hqi
      have hdiv : L[i] / 64 ≤ L[q] / 64 := Nat.div_le_div_right (Nat.le_of_lt this)
      have hdj : j / 64 ≤ L[i] / 64 := Nat.div_le_div_right (Nat.le_of_lt hlt)
      exact mul3t k3 a1 (hb.2 (by omega))
end
end Go.Gx.Ix
set_option linter.unusedVariables false
set_option linter.unusedSimpArgs false
set_option maxRecDepth 20000
set_option maxHeartbeats 4000000
namespace Go.Gx.Ix
open Go.RowKit Go.Proofs Go.Proofs.Ytdnblflhlklfnaa

def half (c : BitVec 64) : IrG := ⟨c, 65535#64⟩
theorem half45 (c : BitVec 64) : Pure Try.prog 45 [.w c] (· = (half c).sv) := by
  refine pure_of_GC T_ok Try.func45 rfl (by kernel_rfl) (Nat.le_of_ble_eq_true rfl) rfl rfl ?_
  simp [go_sem]
  exact ⟨rfl, rfl⟩
def thrL : List MbG := [⟨3, half 0#64⟩, ⟨5, half 255#64⟩, ⟨9, half 61455#64⟩]
theorem three43 : Own Try.prog 43 [] [] (.sl 0 3 0 3 none) [mreg thrL] := by
  refine own_of_GC T_ok Try.func43 rfl (by kernel_rfl) (Nat.le_of_ble_eq_true rfl) rfl rfl ?_
  simp [go_sem]
  refine call_val (half45 0#64) rfl rfl ?_
  simp [go_sem]
  refine call_val (half45 255#64) rfl rfl ?_
  simp [go_sem]
  refine call_val (half45 61455#64) rfl rfl ?_
  simp [go_sem]
  refine ⟨[0], by simp, fun N => ⟨by simp [go_sem], ?_⟩⟩
  simp [go_sem]
  refine ⟨by decide, fun i j hi hj => ?_⟩
  rcases (show i = 0 ∨ i = 1 ∨ i = 2 by have : thrL.length = 3 := rfl; omega) with rfl | rfl | rfl <;> rcases (show j = 0 ∨ j = 1 ∨ j = 2 by omega) with rfl | rfl | rfl <;> rfl
theorem posting44 (p : PsG) (hp : p.ids.length ≤ 1000000000) (c m : BitVec 8) (l : List Int) : Pure Try.prog 44 [p.sv, .y c, .y m, ils l] (· = .b (decide (p = ⟨c, m, l⟩))) := by
  refine pure_of_GC T_ok Try.func44 rfl (by kernel_rfl) (Nat.le_of_ble_eq_true rfl) rfl rfl ?_
  simp [go_sem]
  have hc := ints37 p.ids l hp
  obtain ⟨pc, pm, pl⟩ := p
  simp only at hc ⊢
  by_cases h1 : pc = c
  · subst h1
    by_cases h2 : pm = m
    · subst h2
      simp [go_sem]
      refine call_val hc rfl rfl ?_
      simp [go_sem]
    · have h2' : ¬ ((pm.toNat : Int) = m.toNat) := fun h => h2 (BitVec.toNat_inj.1 (by omega))
      simp [go_sem, h2, h2']
  · have h1' : ¬ ((pc.toNat : Int) = c.toNat) := fun h => h1 (BitVec.toNat_inj.1 (by omega))
    simp [go_sem, h1, h1']
theorem pairs46 (l l' : List (Int × Int)) (hn : l.length ≤ 1000000000) : Pure Try.prog 46 [qls l, qls l'] (· = .b (decide (l = l'))) := by
  refine pure_of_GC T_ok Try.func46 rfl (by kernel_rfl) (Nat.le_of_ble_eq_true rfl) rfl rfl ?_
  simp [go_sem]
  by_cases h : l.length = l'.length
  rotate_left
  · have h' : ¬ l = l' := fun e => h (by rw [e])
    simp [go_sem, h, h']
    try omega
  simp [go_sem, h]
  have hn' : l'.length ≤ 1000000000 := by omega
  refine GLoop_of T_ok (α := Nat) (fun k => [(0, .r (.rs 2 l'.length (qrows l))), (1, .r (.rs 2 l'.length (qrows l'))), (5, .i k)]) (fun _ => []) 0 (fun k => k ≤ l'.length ∧ ∀ j, j < k → ∀ (h1 : j < l.length) (h2 : j < l'.length), l[j] = l'[j]) (fun k => l'.length - k) 0 (fun _ => rfl) (by simp) (by simp [go_sem, h]) (by simp [go_sem]) ?_
  intro k J hi
  by_cases hlt : k < l'.length
  · simp [go_sem, hlt]
    have hlt1 : k < l.length := by omega
    have r0 := qrow hlt1 0
    have q0 := qrow hlt 0
    have r1 := qrow hlt1 1
    have q1 := qrow hlt 1
    simp only [qf] at r0 q0 r1 q1
    have hiff : l[k] = l'[k] ↔ l[k].1 = l'[k].1 ∧ l[k].2 = l'[k].2 := Prod.ext_iff
    refine GDraw_all T_ok (by kernel_rfl) (by kernel_rfl) ?_
    simp [go_sem, hlt, r0, q0, r1, q1]
    by_cases he : l[k] = l'[k]
    · have he' := hiff.1 he
      simp [go_sem, he'.1, he'.2]
      refine ⟨by omega, k + 1, ⟨by omega, fun j hj h1 h2 => ?_⟩, by omega, by omega⟩
      by_cases hjk : j = k
      · subst hjk; exact he
      · exact hi.2 j (by omega) h1 h2
    · have hne : ¬ l = l' := fun e => he (by simp [e])
      have he' : ¬ (l[k].1 = l'[k].1 ∧ l[k].2 = l'[k].2) := fun q => he (hiff.2 q)
      simp [go_sem, hne]
      intro e1 e2
      exact absurd ⟨e1, e2⟩ he'
  · simp [go_sem, hlt]
    exact eq_of_all h fun j h1 h2 => hi.2 j (by omega) h1 h2
theorem ijoin (np q : Nat) (R : List Int) (a : Int) (i : Nat) (hi : i < R.length + 1) : SV.trim np (SV.kill q (joined R.length 1 (fun i j => SV.r (irows R i j)) (fun i j => [SV.r (RV.i a)][i + j]?.getD (SV.r RV.any)) i 0)) = SV.r (irows (R ++ [a]) i 0) := by
  unfold joined irows rowsL
  by_cases h : i < R.length
  · rw [if_pos h, List.getElem?_append_left h]; rfl
  · obtain rfl : i = R.length := by omega
    rw [if_neg h, if_pos (by omega), List.getElem?_append_right (Nat.le_refl _), Nat.sub_self]; rfl
/-- Which members match, if all calls are right. -/
def mtE (ms : List MbG) (b : IrG) (turns num den : Int) : Bool := ms.all fun a => decide (mE a.x b turns num den = 0)
theorem matching36 (ms : List MbG) (hn : ms.length ≤ 1000) (b : IrG) (turns num den : Int) : Pure Try.prog 36 [mrs ms, b.sv, .i turns, .agg [.i num, .i den]] (· = .tup [ils (if mtE ms b turns num den then fndM ms b turns.toNat num.toNat den.toNat else []), .b (mtE ms b turns num den)]) := by
  refine pure_ofLe ?_
  refine pure_of_GC T_ok Try.func36 rfl (by kernel_rfl) (Nat.le_of_ble_eq_true rfl) rfl rfl ?_
  simp [go_sem]
  refine GLoop_pre (GSt.adopt 10 3 1 (fun i j => .r (irows [] i j)) (by rfl)) ?_
  refine GLoop_s T_ok (α := Nat) (fun k => [(2, .i turns), (5, .ptr 0 0 2 0), (7, .ptr 1 0 2 0), (10, .sl 2 1 0 (fndM (ms.take k) b turns.toNat num.toNat den.toNat).length none), (15, mrs ms), (16, .i ms.length), (17, .i k)])
    (fun k => [some (.box [.w b.c, .w b.m]), some (.box [.i num, .i den]), some (.vec 3 1 (fndM (ms.take k) b turns.toNat num.toNat den.toNat).length fun i j => .r (irows (fndM (ms.take k) b turns.toNat num.toNat den.toNat) i j))]) 3
    (fun k => k ≤ ms.length ∧ mtE (ms.take k) b turns num den = true) (fun k => ms.length - k) 0 (fun _ => rfl) (by simp [mtE]) (by simp [go_sem, fndM]) (by simp [go_sem, fndM]) ?_
  rintro k J ⟨hk, hall⟩
  by_cases hlt : k < ms.length
  · have r0 := mrow hlt 0
    have r1 := mrow hlt 1
    have r2 := mrow hlt 2
    have hm := match39 ms[k].x b turns num den
    simp [go_sem, hlt, r0, r1, r2]
    refine call_val hm rfl rfl ?_
    have hal : mtE (ms.take (k + 1)) b turns num den = decide (mE ms[k].x b turns num den = 0) := by
      unfold mtE at hall ⊢
      rw [List.take_succ_eq_append_getElem hlt, List.all_append, hall]; simp
    by_cases h0 : mE ms[k].x b turns num den = 0
    · have hsn : fndM (ms.take (k + 1)) b turns.toNat num.toNat den.toNat = fndM (ms.take k) b turns.toNat num.toNat den.toNat ++ if matB ms[k].x b turns.toNat num den = true then [ms[k].id] else [] := by
        obtain ⟨_, _, _, k3, k4⟩ := mE_ok h0
        unfold fndM
        rw [List.take_succ_eq_append_getElem hlt, List.filter_append, List.map_append]
        have e1 : ((num.toNat : Nat) : Int) = num := by omega
        have e2 : ((den.toNat : Nat) : Int) = den := by omega
        rw [e1, e2]
        congr 1
        cases hh : matB ms[k].x b turns.toNat num den <;> simp [hh]
      have hle := fndM_le (ms.take k) b turns.toNat num.toNat den.toNat
      rw [List.length_take] at hle
      rw [h0] at hal ⊢
      obtain ⟨R, hR⟩ : ∃ R, fndM (ms.take k) b turns.toNat num.toNat den.toNat = R := ⟨_, rfl⟩
      rw [hR] at hsn hle ⊢
      cases hb : matB ms[k].x b turns.toNat num den
      · rw [hb] at hsn
        simp only [Bool.false_eq_true, if_false, List.append_nil] at hsn
        simp [go_sem]
        refine ⟨by omega, k + 1, ⟨by omega, by rw [hal]; rfl⟩, by omega, ?_⟩
        rw [hsn]
        exact ⟨⟨rfl, by omega⟩, Nat.le_refl _, fun _ _ => rfl⟩
      · rw [hb] at hsn
        simp only [if_true] at hsn
        simp [go_sem]
        refine ⟨⟨by omega, by omega⟩, by omega, k + 1, ⟨by omega, by rw [hal]; rfl⟩, by omega, ?_⟩
        rw [hsn]
        refine ⟨⟨by rw [List.length_append, List.length_singleton], by omega⟩, by rw [List.length_append, List.length_singleton]; omega, fun i hi => ijoin 3 2 R _ i (by rw [List.length_append, List.length_singleton] at hi; exact hi)⟩
    · have hF : mtE ms b turns num den = false := by
        unfold mtE
        rw [List.all_eq_false]
        exact ⟨ms[k], List.getElem_mem hlt, by simpa using h0⟩
      rw [hF]
      simp [go_sem, h0]
      exact le_tup ⟨le_r (nil_rs 1 _), SV.le.rfl, trivial⟩
  · have hk3 : k = ms.length := by omega
    subst hk3
    rw [List.take_length] at hall ⊢
    rw [hall]
    simp [go_sem]
    exact SV.le.rfl
end Go.Gx.Ix
set_option linter.unusedVariables false
set_option linter.unusedSimpArgs false
set_option maxRecDepth 20000
set_option maxHeartbeats 4000000
namespace Go.Gx.Ix
open Go.RowKit Go.Proofs Go.Proofs.Ytdnblflhlklfnaa

def pL0 : List PsG := [⟨0, 255, [3]⟩, ⟨15, 255, [9]⟩, ⟨255, 255, [5]⟩]
def pL1 : List PsG := [⟨0, 255, [3, 5]⟩, ⟨240, 255, [9]⟩]
def pL2 : List PsG := [⟨0, 0, [3, 5, 9]⟩]
theorem vl_thr : VL thrL := ⟨by decide, by decide, by decide +kernel, by decide⟩
theorem sl_thr : SL thrL := by unfold SL; decide
theorem ms_thr : (ofG thrL).ms = thrL := ofG_ms sl_thr
theorem ch_thr (j : Nat) : (ofG thrL).ch j = cK thrL 3 j := by
  show cK (srtM thrL) thrL.length j = _
  rw [srt_id sl_thr]; rfl
theorem cK_thr0 : cK thrL 3 0 = pL0 := by decide +kernel
theorem cK_thr1 : cK thrL 3 1 = pL1 := by decide +kernel
theorem cK_thr2' : ∀ j : Fin 8, 2 ≤ j.val → cK thrL 3 j.val = pL2 := by decide +kernel
theorem cK_thr2 (j : Nat) (h : 2 ≤ j) (h8 : j < 8) : cK thrL 3 j = pL2 := cK_thr2' ⟨j, h8⟩ h
abbrev thrS : SV := .agg [mrs thrL, pls pL0, pls pL1, pls pL2, pls pL2, pls pL2, pls pL2, pls pL2, pls pL2]
theorem sv_thr : (ofG thrL).sv = thrS := by
  show SV.agg (mrs (ofG thrL).ms :: [pls ((ofG thrL).ch 0), pls ((ofG thrL).ch 1), pls ((ofG thrL).ch 2), pls ((ofG thrL).ch 3), pls ((ofG thrL).ch 4), pls ((ofG thrL).ch 5), pls ((ofG thrL).ch 6), pls ((ofG thrL).ch 7)]) = _
  rw [ms_thr]
  simp only [ch_thr, cK_thr0, cK_thr1, cK_thr2 2 (by decide) (by decide), cK_thr2 3 (by decide) (by decide), cK_thr2 4 (by decide) (by decide), cK_thr2 5 (by decide) (by decide), cK_thr2 6 (by decide) (by decide), cK_thr2 7 (by decide) (by decide)]
theorem va_thr : validX (ofG thrL) = true := ofG_valid vl_thr
theorem sm_thr : (ofG thrL).Sm := ofG_sm (by decide)
theorem be_thr : buildE thrL = 0 := (buildE_iff _).2 vl_thr
theorem build_thr : Pure Try.prog 16 [mrs thrL] (· = .tup [thrS, .i 0]) := by
  have h := build16 thrL (by decide)
  unfold buildX at h
  rw [be_thr, if_pos rfl, sv_thr] at h
  exact h
theorem srE_thr (b : IrG) (t n d : Int) (h : mE b b t n d = 0) : srE (ofG thrL) b t n d = 0 := by unfold srE; rw [va_thr]; simpa using h
theorem search_thr (b : IrG) (t n d : Int) (h : mE b b t n d = 0) (l : List Int) (k : Nat) (hl : fndM thrL b t.toNat n.toNat d.toNat = l) (hk : snM thrL b t.toNat n.toNat d.toNat = k) : Pure Try.prog 33 [thrS, b.sv, .i t, .agg [.i n, .i d]] (· = .tup [.agg [ils l, .i k], .i 0]) := by
  have hs := search33f (ofG thrL) sm_thr b t n d
  have h0 := srE_thr b t n d h
  have e1 : srIds (ofG thrL) b t n d = l := by unfold srIds; rw [if_pos h0, ms_thr]; exact hl
  have e2 : srSn (ofG thrL) b t n d = k := by unfold srSn; rw [if_pos h0, ms_thr]; exact hk
  rw [e1, e2, h0, sv_thr] at hs
  exact hs
theorem nrE_thr (b : IrG) (t : Int) (h : mE b b t 0 1 = 0) (e i : Int) (he : (if nrAt thrL b t.toNat < 0 then 6 else 0) = e) (hi : (if e = 0 then (thrL[(nrL thrL b t.toNat 1)[(nrAt thrL b t.toNat).toNat]!]!).id else 0) = i) : Pure Try.prog 40 [thrS, b.sv, .i t] (· = .tup [.i i, .i e]) := by
  have hs := nearest40 (ofG thrL) sm_thr (fun _ a ha => vl_thr.ok a (ms_thr ▸ ha)) b t
  have h0 : nrE (ofG thrL) b t = e := by
    unfold nrE
    rw [va_thr, if_neg (by simp), if_pos h, ms_thr]
    exact he
  have h1 : nrI (ofG thrL) b t = i := by
    unfold nrI
    rw [h0, ms_thr]
    exact hi
  rw [h0, h1, sv_thr] at hs
  exact hs
theorem pairs_thr (t n d : Int) (h : mE ⟨0, 0⟩ ⟨0, 0⟩ t n d = 0) (l : List (Int × Int)) (hl : prK thrL t.toNat n.toNat d.toNat 3 = l) : Pure Try.prog 38 [thrS, .i t, .agg [.i n, .i d]] (· = .tup [qls l, .i 0]) := by
  have hs := pairs38 (ofG thrL) sm_thr t n d
  have h0 : prE (ofG thrL) t n d = 0 := by unfold prE; rw [va_thr]; simpa using h
  have h1 : prL (ofG thrL) t n d = l := by unfold prL; rw [if_pos h0, ms_thr]; exact hl
  rw [h0, h1, sv_thr] at hs
  exact hs
theorem posting44' (p : PsG) (hp : p.ids.length ≤ 1000000000) (c m : BitVec 8) (l : List Int) (n : Nat) (hn : l.length = n) (get : Nat → Nat → RV) (h : ∀ i, (hi : i < l.length) → get i 0 = .i l[i]) : Pure Try.prog 44 [p.sv, .y c, .y m, .r (.rs 1 n get)] (· = .b (decide (p = ⟨c, m, l⟩))) := by
  subst hn
  exact (posting44 p hp c m l).args (⟨SV.le.rfl, SV.le.rfl, SV.le.rfl, le_rs fun i j hi hj => by
    obtain rfl : j = 0 := by omega
    rw [h i hi, irow hi 0], trivial⟩)
theorem ints37' (l' l : List Int) (hl : l'.length ≤ 1000000000) (n : Nat) (hn : l.length = n) (get : Nat → Nat → RV) (h : ∀ i, (hi : i < l.length) → get i 0 = .i l[i]) : Pure Try.prog 37 [ils l', .r (.rs 1 n get)] (· = .b (decide (l' = l))) := by
  subst hn
  exact (ints37 l' l hl).args (⟨SV.le.rfl, le_rs fun i j hi hj => by
    obtain rfl : j = 0 := by omega
    rw [h i hi, irow hi 0], trivial⟩)
theorem alive32 : Pure Try.prog 32 [] (· = .b true) := by
  refine pure_of_GC T_ok Try.func32 rfl (by kernel_rfl) (Nat.le_of_ble_eq_true rfl) rfl rfl ?_
  have hS1 := search_thr (half 1#64) 0 1 8 (by decide +kernel) [3] 3 (by decide +kernel) (by decide +kernel)
  have hS2 := search_thr (half 15#64) 4 4 16 (by decide +kernel) [3, 5, 9] 27 (by decide +kernel) (by decide +kernel)
  have hN := nrE_thr (half 4080#64) 4 (by decide +kernel) 0 5 (by decide +kernel) (by decide +kernel)
  have hP := pairs_thr 0 1 2 (by decide +kernel) [(3, 5), (3, 9), (5, 9)] (by decide +kernel)
  have hA := add24 (ofG thrL) sm_thr ⟨5, ⟨0, 0⟩⟩
  have hR := remove26 (ofG thrL) sm_thr 4
  have eA : addE (ofG thrL) ⟨5, ⟨0, 0⟩⟩ = 41 := by rw [addE_eq vl_thr]; decide +kernel
  have eR : remE (ofG thrL) 4 = 6 := remE_ne vl_thr (by decide)
  have eA2 : addX (ofG thrL) ⟨5, ⟨0, 0⟩⟩ = IxG.zero := by unfold addX; rw [eA, if_neg (by decide)]
  have eR2 : remX (ofG thrL) 4 = IxG.zero := by unfold remX; rw [eR, if_neg (by decide)]
  rw [eA, eA2, sv_thr] at hA
  rw [eR, eR2, sv_thr] at hR
  simp [go_sem]
  refine callK_own [] three43 (by simp) rfl trivial ?_
  simp [go_sem]
  refine callK_freeze 0 (by rfl) ?_
  simp [go_sem]
  refine call_val build_thr rfl rfl ?_
  have l0 : thrL.length = 3 := rfl
  have l1 : pL0.length = 3 := rfl
  have l2 : pL1.length = 2 := rfl
  have a0 : prows pL0 1 0 = .y 15#8 := rfl
  have a1 : prows pL0 1 1 = .y 255#8 := rfl
  have a2 : prows pL0 1 2 = .rs 1 1 (irows [9]) := rfl
  have b0 : prows pL1 0 0 = .y 0#8 := rfl
  have b1 : prows pL1 0 1 = .y 255#8 := rfl
  have b2 : prows pL1 0 2 = .rs 1 2 (irows [3, 5]) := rfl
  simp [go_sem, l0, l1, l2, a0, a1, a2, b0, b1, b2]
  refine call_lent (v := .b true) (by
    simp [go_sem]
    exact posting44' ⟨15#8, 255#8, [9]⟩ (by decide) 15#8 255#8 [9] 1 rfl _ fun i hi => by obtain rfl : i = 0 := by simpa using hi
                                                                                          rfl) rfl ?_
  simp [go_sem, l0, l1, l2, a0, a1, a2, b0, b1, b2]
  refine call_lent (v := .b true) (by
    simp [go_sem]
    exact posting44' ⟨0#8, 255#8, [3, 5]⟩ (by decide) 0#8 255#8 [3, 5] 2 rfl _ fun i hi => by rcases (show i = 0 ∨ i = 1 by simp at hi; omega) with rfl | rfl <;> rfl) rfl ?_
  simp [go_sem]
  refine GDraw_ls (S := [(1, .ptr 1 0 9 0), (2, .i 0), (3, .ptr 4 0 2 0)]) (l := [none, some (.box [mrs thrL, pls pL0, pls pL1, pls pL2, pls pL2, pls pL2, pls pL2, pls pL2, pls pL2]), none, none, some (.box [ils [3], .i 3])]) (n := 5)
    (t := (.take 0 (.take 2 (.alt 1 [2, 0] (.alt 3 [2, 0] (.take 4 (.take 5 (.take 6 (.alt 7 [6, 5, 4] (.alt 8 [6, 5, 4] (.take 9 (.done [9, 6])) .nil) .nil)))) (.alt 7 [2, 0] (.alt 3 [2, 0] (.take 4 (.take 5 (.take 6 (.alt 8 [6, 5, 4] (.take 9 (.done [9, 6])) .nil)))) .nil) .nil)) (.alt 7 [2, 0] (.alt 1 [2, 0] (.alt 3 [2, 0] (.take 4 (.take 5 (.take 6 (.alt 8 [6, 5, 4] (.take 9 (.done [9, 6])) .nil)))) .nil) .nil) .nil))))) T_ok (by kernel_rfl) (by kernel_rfl) (by kernel_rfl) (fun _ _ _ _ h => h) rfl ?_ ?_
  · simp [go_sem]
    refine ⟨call_val (half45 1#64) rfl rfl ?_, call_val (half45 1#64) rfl rfl ?_⟩
    · simp [go_sem]
      refine ⟨call_val hS1 rfl rfl ?_, call_val hS1 rfl rfl ?_⟩ <;> simp [go_sem]
    · simp [go_sem]
      refine call_val hS1 rfl rfl ?_
      simp [go_sem]
  intro J
  simp [go_sem]
  refine GDraw_ls (S := [(1, .ptr 1 0 9 0), (2, .i 0), (3, .ptr 4 0 2 0), (4, .ptr 5 0 2 0), (5, .i 0)]) (l := [none, some (.box [mrs thrL, pls pL0, pls pL1, pls pL2, pls pL2, pls pL2, pls pL2, pls pL2, pls pL2]), none, none, some (.box [ils [3], .i 3]), some (.box [ils [3, 5, 9], .i 27])]) (n := 6)
    (t := (.take 0 (.take 2 (.alt 1 [2, 0] (.alt 3 [2, 0] (.take 4 (.take 5 (.take 6 (.alt 7 [6, 5, 4] (.alt 8 [6, 5, 4] (.take 9 (.done [9, 6])) .nil) .nil)))) (.alt 7 [2, 0] (.alt 3 [2, 0] (.take 4 (.take 5 (.take 6 (.alt 8 [6, 5, 4] (.take 9 (.done [9, 6])) .nil)))) .nil) .nil)) (.alt 7 [2, 0] (.alt 1 [2, 0] (.alt 3 [2, 0] (.take 4 (.take 5 (.take 6 (.alt 8 [6, 5, 4] (.take 9 (.done [9, 6])) .nil)))) .nil) .nil) .nil))))) T_ok (by kernel_rfl) (by kernel_rfl) (by kernel_rfl) (fun _ _ _ _ h => h) rfl ?_ ?_
  · simp [go_sem]
    refine ⟨call_val (half45 15#64) rfl rfl ?_, call_val (half45 15#64) rfl rfl ?_⟩
    · simp [go_sem]
      refine ⟨call_val hS2 rfl rfl ?_, call_val hS2 rfl rfl ?_⟩ <;> simp [go_sem]
    · simp [go_sem]
      refine call_val hS2 rfl rfl ?_
      simp [go_sem]
  intro J
  simp [go_sem]
  refine GDraw_l (t := (.take 0 (.alt 1 [0] (.alt 2 [0] (.take 3 (.take 4 (.take 5 (.take 6 (.take 7 (.done [7, 6, 5, 4, 3])))))) .nil) .nil))) T_ok (by kernel_rfl) (by kernel_rfl) (by kernel_rfl) (fun _ _ _ _ h => h) ?_
  simp [go_sem]
  refine call_val (half45 4080#64) rfl rfl ?_
  simp [go_sem]
  refine call_val hN rfl rfl ?_
  simp [go_sem]
  refine call_val hP rfl rfl ?_
  simp [go_sem]
  refine call_val hA rfl rfl ?_
  simp [go_sem, IxG.sv]
  refine call_val hR rfl rfl ?_
  simp [go_sem, IxG.sv]
  refine call_lent (v := .b true) (by
    simp [go_sem]
    exact ints37' [3] [3] (by decide) 1 rfl _ fun i hi => by
      obtain rfl : i = 0 := by simpa using hi
      rfl) rfl ?_
  simp [go_sem, IxG.sv]
  refine call_lent (v := .b true) (by
    simp [go_sem]
    exact ints37' [3, 5, 9] [3, 5, 9] (by decide) 3 rfl _ fun i hi => by rcases (show i = 0 ∨ i = 1 ∨ i = 2 by simp at hi; omega) with rfl | rfl | rfl <;> rfl) rfl ?_
  simp [go_sem, IxG.sv]
end Go.Gx.Ix
