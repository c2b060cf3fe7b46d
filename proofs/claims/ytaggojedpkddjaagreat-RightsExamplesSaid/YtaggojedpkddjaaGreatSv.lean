/-
  Sign: a query with one more key.
-/
import Derived.Test.YtaggojedpkddjaaGreatSn
set_option linter.unusedVariables false
set_option linter.unusedSimpArgs false
set_option maxRecDepth 20000
set_option maxHeartbeats 2000000
namespace Go.Gx.Rg
open Go.RowKit Go.Proofs Go.Proofs.YtaggojedpkddjaaGreat

def QG.nil : QG := ⟨0, 0, 0, 0, 0, 0, fun _ => 0⟩
def QG.at' (q : QG) (o : Int) : Nat := bnd (fun i => q.k i - o) q.nk
def QG.sg (q : QG) (o : Int) : QG := { q with nk := q.nk + 1, k := fun i => if i < q.at' o then q.k i else if i = q.at' o then o else q.k (i - 1) }
def QG.sgE (q : QG) (o : Int) : Int := if q.err = 0 then (if btw 0 7 o then (if fnd (fun i => q.k i - o) q.nk || decide (q.nk = 2) then 91 else 0) else 2) else q.err
theorem row1 (a : RV) (k : Nat) : [SV.r a][k]?.getD (SV.r .any) = SV.r ([a][k]?.getD .any) := by
  rcases k with _ | k <;> rfl
theorem QG.keys (q : QG) (h : q.err = 0) : q.nk ≤ 2 ∧ ∀ a b, a < b → b < q.nk → q.k a < q.k b := by
  unfold QG.err at h
  split at h
  · split at h
    · rename_i h2
      simp only [QG.cks, Bool.and_eq_true, decide_eq_true_eq, QG.c3, List.all_eq_true, List.mem_range] at h2
      refine ⟨by omega, fun a b hab hb => ?_⟩
      have h3 := h2.2 0 (by omega)
      have : a = 0 ∧ b = 1 := by omega
      obtain ⟨rfl, rfl⟩ := this
      exact h3
    · omega
  · omega
theorem sign37 (q : QG) (o : Int) (h : q.OK) : Pure Tryz.prog 7 [q.sv, .i o] (· = .tup [(if q.sgE o = 0 then q.sg o else QG.nil).sv, .i (q.sgE o)]) := by
  refine Pure.ofSub ?_
  refine pure_of_GC T_ok Tryz.func7 rfl (by kernel_rfl) (Nat.le_of_ble_eq_true rfl) rfl rfl ?_
  simp [go_sem]
  refine call_val (checkQuery40 q h) rfl rfl ?_
  by_cases he : q.err = 0
  rotate_left
  · have ha : q.sgE o = q.err := by unfold QG.sgE; rw [if_neg he]
    simp [go_sem, he, ha, QG.nil]
  simp [go_sem, he]
  refine call_lent (v := .b (btw 0 7 o)) (by simp [go_sem]; exact from1 rfl) rfl ?_
  by_cases ho : btw 0 7 o = true
  rotate_left
  · have ha : q.sgE o = 2 := by unfold QG.sgE; rw [if_pos he, if_neg ho]
    simp [go_sem, ho, ha, QG.nil]
  obtain ⟨hk, hm⟩ := q.keys he
  have hE : q.sgE o = if fnd (fun i => q.k i - o) q.nk || decide (q.nk = 2) then 91 else 0 := by unfold QG.sgE; rw [if_pos he, if_pos ho]
  simp [go_sem, ho]
  refine call_val (search91 q.nk (by omega) q.k o hm) rfl rfl ?_
  by_cases hf : fnd (fun i => q.k i - o) q.nk = true
  · have ha : q.sgE o = 91 := by rw [hE, hf]; simp
    simp [go_sem, hf, ha, QG.nil]
  by_cases h2 : q.nk = 2
  · have ha : q.sgE o = 91 := by rw [hE, h2]; simp
    have h2' : (q.nk : Int) = 2 := by omega
    simp [go_sem, hf, h2', ha, QG.nil]
  have ha : q.sgE o = 0 := by rw [hE]; simp [hf, h2]
  have h2' : ¬ (q.nk : Int) = 2 := by omega
  simp [go_sem, hf, h2', ha]
  refine callK_own [] (clone93 q.nk (by omega) _) (by simp) rfl trivial ?_
  simp [go_sem]
  have hb := bnd_le (c := fun i => q.k i - o) (n := q.nk)
  simp only [row1]
  refine callK_own [3, 4] (insert92 q.nk (bnd (fun i => q.k i - o) q.nk) (by omega) (by omega) _ _) (by simp) rfl ⟨rfl, rfl, trivial⟩ ?_
  simp [go_sem]
  refine ⟨rfl, rfl, rfl, rfl, rfl, rfl, ?_⟩
  simp [go_sem, QG.sg, QG.at', insR]
  intro r hr
  rcases Nat.lt_trichotomy r (bnd (fun i => q.k i - o) q.nk) with h5 | h5 | h5
  · simp [h5]
  · have e1 : ¬ r < bnd (fun i => q.k i - o) q.nk := by omega
    simp only [e1, if_false, h5, if_true]
    simp
  · have e1 : ¬ r < bnd (fun i => q.k i - o) q.nk := by omega
    have e2 : ¬ r = bnd (fun i => q.k i - o) q.nk := by omega
    simp [e1, e2]
end Go.Gx.Rg
