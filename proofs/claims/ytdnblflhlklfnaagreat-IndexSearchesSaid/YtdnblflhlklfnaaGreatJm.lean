/-
  IndexShards.
-/
import Derived.Test.YtdnblflhlklfnaaGreatJl
set_option linter.unusedVariables false
set_option linter.unusedSimpArgs false
set_option maxRecDepth 20000
set_option maxHeartbeats 4000000
namespace Go.Gx.Ix
open Go.RowKit Go.Proofs Go.Proofs.YtdnblflhlklfnaaGreat

/-- The members whose number leaves a remainder below k. -/
def wlM (ms : List MbG) (S k : Nat) : List MbG := ms.filter fun a => decide (a.id.tmod (S : Int) < (k : Int))
abbrev ptA (ms : List MbG) (S j : Nat) : List MbG := ptM ms S ms.length j
theorem ptA_eq (ms : List MbG) (S j : Nat) : ptA ms S j = ms.filter fun a => decide (a.id.tmod (S : Int) = (j : Int)) := by unfold ptA ptM; rw [List.take_length]
theorem wl_perm (ms : List MbG) (S k : Nat) : (wlM ms S k ++ ptA ms S k).Perm (wlM ms S (k + 1)) := by
  have h := List.filter_append_perm (fun a : MbG => decide (a.id.tmod (S : Int) < (k : Int))) (wlM ms S (k + 1))
  have e1 : (wlM ms S (k + 1)).filter (fun a => decide (a.id.tmod (S : Int) < (k : Int))) = wlM ms S k := by
    unfold wlM
    rw [List.filter_filter]
    refine List.filter_congr fun a _ => ?_
    by_cases h : a.id.tmod (S : Int) < (k : Int)
    · have : a.id.tmod (S : Int) < (k : Int) + 1 := by omega
      simp [h, this]
    · simp [h]
  have e2 : (wlM ms S (k + 1)).filter (fun a => !decide (a.id.tmod (S : Int) < (k : Int))) = ptA ms S k := by
    rw [ptA_eq]
    unfold wlM
    rw [List.filter_filter]
    refine List.filter_congr fun a _ => ?_
    rw [Bool.eq_iff_iff]
    simp
    omega
  rw [e1, e2] at h
  exact h
theorem wlM_sub (ms : List MbG) (S k : Nat) : (wlM ms S k).Sublist ms := List.filter_sublist
theorem ptA_sub (ms : List MbG) (S k : Nat) : (ptA ms S k).Sublist ms := by rw [ptA_eq]; exact List.filter_sublist
theorem wlM_zero {ms : List MbG} (h : VL ms) (S : Nat) : wlM ms S 0 = [] := by
  unfold wlM
  refine List.filter_eq_nil_iff.2 fun a ha => ?_
  have h1 := h.num a ha
  have h2 : 0 ≤ a.id := by simp [okN, btw] at h1; omega
  have := Int.tmod_nonneg (S : Int) h2
  simp; omega
theorem wlM_all {ms : List MbG} (h : VL ms) {S : Nat} (hS : 0 < S) : wlM ms S S = ms := by
  unfold wlM
  refine List.filter_eq_self.2 fun a ha => ?_
  have := Int.tmod_lt_of_pos a.id (b := S) (by omega)
  simpa using this
theorem SL.sub {l l' : List MbG} (h : SL l) (p : l'.Sublist l) : SL l' := List.Pairwise.sublist p h
theorem sum_two (f g : Nat → Nat) : ∀ k, ((List.range k).map fun i => f i + g i).sum = ((List.range k).map f).sum + ((List.range k).map g).sum
  | 0 => rfl
  | k + 1 => by
    rw [List.range_succ, List.map_append, List.map_append, List.map_append, List.sum_append, List.sum_append, List.sum_append, sum_two f g k]
    simp; omega
theorem sn_app (l l' : List MbG) (b : IrG) (n num den : Nat) : snM (l ++ l') b n num den = snM l b n num den + snM l' b n num den := by
  unfold snM
  rw [← sum_two]
  congr 1
  refine List.map_congr_left fun i _ => ?_
  rw [List.filter_append, List.length_append]
theorem sn_perm {l l' : List MbG} (h : l.Perm l') (b : IrG) (n num den : Nat) : snM l b n num den = snM l' b n num den := by
  unfold snM
  congr 1
  exact List.map_congr_left fun i _ => (h.filter _).length_eq
theorem fnd_app (l l' : List MbG) (b : IrG) (n num den : Nat) : fndM (l ++ l') b n num den = fndM l b n num den ++ fndM l' b n num den := by
  unfold fndM
  rw [List.filter_append, List.map_append]
theorem fnd_perm {l l' : List MbG} (h : l.Perm l') (b : IrG) (n num den : Nat) : (fndM l b n num den).Perm (fndM l' b n num den) := (h.filter _).map _
section
variable {ms : List MbG} (hs : SL ms) (hv : VL ms) (S k : Nat) (b : IrG) (turns num den : Int)
include hs
theorem fdI_wl : (fdI (wlM ms S (k + 1)) b turns num den).Perm (fdI (wlM ms S k) b turns num den ++ fdI (ptA ms S k) b turns num den) := by
  unfold fdI
  rw [srt_id (hs.sub (wlM_sub ms S _)), srt_id (hs.sub (wlM_sub ms S _)), srt_id (hs.sub (ptA_sub ms S _))]
  split
  · rw [← fnd_app]
    exact (fnd_perm (wl_perm ms S k) _ _ _ _).symm
  · exact List.Perm.refl _
theorem fdS_wl : fdS (wlM ms S (k + 1)) b turns num den = fdS (wlM ms S k) b turns num den + fdS (ptA ms S k) b turns num den := by
  unfold fdS
  rw [srt_id (hs.sub (wlM_sub ms S _)), srt_id (hs.sub (wlM_sub ms S _)), srt_id (hs.sub (ptA_sub ms S _))]
  split
  · rw [← sn_app]
    exact (sn_perm (wl_perm ms S k) _ _ _ _).symm
  · rfl
end
theorem VL.wl {ms : List MbG} (h : VL ms) (S k : Nat) : VL (wlM ms S k ++ ptA ms S k) := (h.sub (wlM_sub ms S (k + 1))).perm (wl_perm ms S k).symm
theorem ofG_wl {ms : List MbG} (h : VL ms) (S k : Nat) : ofG (wlM ms S k ++ ptA ms S k) = ofG (wlM ms S (k + 1)) := ofG_eq (h.wl S k).nd (h.sub (wlM_sub ms S (k + 1))).nd fun a => (wl_perm ms S k).mem_iff
section
variable (x : IxG)
@[go_sem] theorem IxG.f_0 : x.f 0 = .rs 3 x.ms.length (mrows x.ms) := rfl
@[go_sem] theorem IxG.f_1 : x.f 1 = .rs 3 (x.ch 0).length (prows (x.ch 0)) := rfl
@[go_sem] theorem IxG.f_2 : x.f 2 = .rs 3 (x.ch 1).length (prows (x.ch 1)) := rfl
@[go_sem] theorem IxG.f_3 : x.f 3 = .rs 3 (x.ch 2).length (prows (x.ch 2)) := rfl
@[go_sem] theorem IxG.f_4 : x.f 4 = .rs 3 (x.ch 3).length (prows (x.ch 3)) := rfl
@[go_sem] theorem IxG.f_5 : x.f 5 = .rs 3 (x.ch 4).length (prows (x.ch 4)) := rfl
@[go_sem] theorem IxG.f_6 : x.f 6 = .rs 3 (x.ch 5).length (prows (x.ch 5)) := rfl
@[go_sem] theorem IxG.f_7 : x.f 7 = .rs 3 (x.ch 6).length (prows (x.ch 6)) := rfl
@[go_sem] theorem IxG.f_8 : x.f 8 = .rs 3 (x.ch 7).length (prows (x.ch 7)) := rfl
end
end Go.Gx.Ix
