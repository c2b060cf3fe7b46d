/-
  The laws' small functions.
-/
import Derived.Test.YtdnblflhlklfnaaGreatJa
set_option linter.unusedVariables false
set_option linter.unusedSimpArgs false
set_option maxRecDepth 20000
set_option maxHeartbeats 4000000
namespace Go.Gx.Ix
open Go.RowKit Go.Proofs Go.Proofs.YtdnblflhlklfnaaGreat

def half (c : BitVec 64) : IrG := ⟨c, 65535#64⟩
def thrL : List MbG := [⟨3, half 0#64⟩, ⟨5, half 255#64⟩, ⟨9, half 61455#64⟩]
theorem pairs46 (l l' : List (Int × Int)) (hn : l.length ≤ 1000000000) : Pure Tryz.prog 13 [qls l, qls l'] (· = .b (decide (l = l'))) := by
  refine pure_of_GC T_ok Tryz.func13 rfl (by kernel_rfl) (Nat.le_of_ble_eq_true rfl) rfl rfl ?_
  simp [go_sem]
  by_cases h : l.length = l'.length
  rotate_left
  · have h' : ¬ l = l' := fun e => h (by rw [e])
    simp [go_sem, h, h']
    try omega
  simp [go_sem, h]
  have hn' : l'.length ≤ 1000000000 := by omega
  refine GLoop_of T_ok (α := Nat) (fun k => [(0, .r (.rs 2 l'.length (qrows l))), (1, .r (.rs 2 l'.length (qrows l'))), (5, .i k)]) (fun _ => []) 0 (fun k => k ≤ l'.length ∧ ∀ j, j < k → ∀ (h1 : j < l.length) (h2 : j < l'.length), l[j] = l'[j]) (fun k => l'.length - k) 0 (fun _ => rfl) (by simp) (by simp [go_sem, h]) (by simp [go_sem]) ?_
  intro k J hi
  by_cases hlt : k < l'.length
  · simp [go_sem, hlt]
    have hlt1 : k < l.length := by omega
    have r0 := qrow hlt1 0
    have q0 := qrow hlt 0
    have r1 := qrow hlt1 1
    have q1 := qrow hlt 1
    simp only [qf] at r0 q0 r1 q1
    have hiff : l[k] = l'[k] ↔ l[k].1 = l'[k].1 ∧ l[k].2 = l'[k].2 := Prod.ext_iff
    refine GDraw_all T_ok (by kernel_rfl) (by kernel_rfl) ?_
    simp [go_sem, hlt, r0, q0, r1, q1]
    by_cases he : l[k] = l'[k]
    · have he' := hiff.1 he
      simp [go_sem, he'.1, he'.2]
      refine ⟨by omega, k + 1, ⟨by omega, fun j hj h1 h2 => ?_⟩, by omega, by omega⟩
      by_cases hjk : j = k
      · subst hjk; exact he
      · exact hi.2 j (by omega) h1 h2
    · have hne : ¬ l = l' := fun e => he (by simp [e])
      have he' : ¬ (l[k].1 = l'[k].1 ∧ l[k].2 = l'[k].2) := fun q => he (hiff.2 q)
      simp [go_sem, hne]
      intro e1 e2
      exact absurd ⟨e1, e2⟩ he'
  · simp [go_sem, hlt]
    exact eq_of_all h fun j h1 h2 => hi.2 j (by omega) h1 h2
theorem ijoin (np q : Nat) (R : List Int) (a : Int) (i : Nat) (hi : i < R.length + 1) : SV.trim np (SV.kill q (joined R.length 1 (fun i j => SV.r (irows R i j)) (fun i j => [SV.r (RV.i a)][i + j]?.getD (SV.r RV.any)) i 0)) = SV.r (irows (R ++ [a]) i 0) := by
  unfold joined irows rowsL
  by_cases h : i < R.length
  · rw [if_pos h, List.getElem?_append_left h]; rfl
  · obtain rfl : i = R.length := by omega
    rw [if_neg h, if_pos (by omega), List.getElem?_append_right (Nat.le_refl _), Nat.sub_self]; rfl
/-- Which members match, if all calls are right. -/
def mtE (ms : List MbG) (b : IrG) (turns num den : Int) : Bool := ms.all fun a => decide (mE a.x b turns num den = 0)
end Go.Gx.Ix
