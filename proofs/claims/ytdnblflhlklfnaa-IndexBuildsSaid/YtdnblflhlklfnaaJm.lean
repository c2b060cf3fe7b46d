/-
  IndexShards.
-/
import Derived.Test.YtdnblflhlklfnaaJl
set_option linter.unusedVariables false
set_option linter.unusedSimpArgs false
set_option maxRecDepth 20000
set_option maxHeartbeats 4000000
namespace Go.Gx.Ix
open Go.RowKit Go.Proofs Go.Proofs.Ytdnblflhlklfnaa

/-- The members whose number leaves a remainder below k. -/
def wlM (ms : List MbG) (S k : Nat) : List MbG := ms.filter fun a => decide (a.id.tmod (S : Int) < (k : Int))
abbrev ptA (ms : List MbG) (S j : Nat) : List MbG := ptM ms S ms.length j
theorem ptA_eq (ms : List MbG) (S j : Nat) : ptA ms S j = ms.filter fun a => decide (a.id.tmod (S : Int) = (j : Int)) := by unfold ptA ptM; rw [List.take_length]
theorem wl_perm (ms : List MbG) (S k : Nat) : (wlM ms S k ++ ptA ms S k).Perm (wlM ms S (k + 1)) := by
  have h := List.filter_append_perm (fun a : MbG => decide (a.id.tmod (S : Int) < (k : Int))) (wlM ms S (k + 1))
  have e1 : (wlM ms S (k + 1)).filter (fun a => decide (a.id.tmod (S : Int) < (k : Int))) = wlM ms S k := by
    unfold wlM
    rw [List.filter_filter]
    refine List.filter_congr fun a _ => ?_
    by_cases h : a.id.tmod (S : Int) < (k : Int)
    · have : a.id.tmod (S : Int) < (k : Int) + 1 := by omega
      simp [h, this]
    · simp [h]
  have e2 : (wlM ms S (k + 1)).filter (fun a => !decide (a.id.tmod (S : Int) < (k : Int))) = ptA ms S k := by
    rw [ptA_eq]
    unfold wlM
    rw [List.filter_filter]
    refine List.filter_congr fun a _ => ?_
    rw [Bool.eq_iff_iff]
    simp
    omega
  rw [e1, e2] at h
  exact h
theorem wlM_sub (ms : List MbG) (S k : Nat) : (wlM ms S k).Sublist ms := List.filter_sublist
theorem ptA_sub (ms : List MbG) (S k : Nat) : (ptA ms S k).Sublist ms := by rw [ptA_eq]; exact List.filter_sublist
theorem wlM_zero {ms : List MbG} (h : VL ms) (S : Nat) : wlM ms S 0 = [] := by
  unfold wlM
  refine List.filter_eq_nil_iff.2 fun a ha => ?_
  have h1 := h.num a ha
  have h2 : 0 ≤ a.id := by simp [okN, btw] at h1; omega
  have := Int.tmod_nonneg (S : Int) h2
  simp; omega
theorem wlM_all {ms : List MbG} (h : VL ms) {S : Nat} (hS : 0 < S) : wlM ms S S = ms := by
  unfold wlM
  refine List.filter_eq_self.2 fun a ha => ?_
  have := Int.tmod_lt_of_pos a.id (b := S) (by omega)
  simpa using this
theorem SL.sub {l l' : List MbG} (h : SL l) (p : l'.Sublist l) : SL l' := List.Pairwise.sublist p h
theorem sum_two (f g : Nat → Nat) : ∀ k, ((List.range k).map fun i => f i + g i).sum = ((List.range k).map f).sum + ((List.range k).map g).sum
  | 0 => rfl
  | k + 1 => by
    rw [List.range_succ, List.map_append, List.map_append, List.map_append, List.sum_append, List.sum_append, List.sum_append, sum_two f g k]
    simp; omega
theorem sn_app (l l' : List MbG) (b : IrG) (n num den : Nat) : snM (l ++ l') b n num den = snM l b n num den + snM l' b n num den := by
  unfold snM
  rw [← sum_two]
  congr 1
  refine List.map_congr_left fun i _ => ?_
  rw [List.filter_append, List.length_append]
theorem sn_perm {l l' : List MbG} (h : l.Perm l') (b : IrG) (n num den : Nat) : snM l b n num den = snM l' b n num den := by
  unfold snM
  congr 1
  exact List.map_congr_left fun i _ => (h.filter _).length_eq
theorem fnd_app (l l' : List MbG) (b : IrG) (n num den : Nat) : fndM (l ++ l') b n num den = fndM l b n num den ++ fndM l' b n num den := by
  unfold fndM
  rw [List.filter_append, List.map_append]
theorem fnd_perm {l l' : List MbG} (h : l.Perm l') (b : IrG) (n num den : Nat) : (fndM l b n num den).Perm (fndM l' b n num den) := (h.filter _).map _
section
variable {ms : List MbG} (hs : SL ms) (hv : VL ms) (S k : Nat) (b : IrG) (turns num den : Int)
include hs
theorem fdI_wl : (fdI (wlM ms S (k + 1)) b turns num den).Perm (fdI (wlM ms S k) b turns num den ++ fdI (ptA ms S k) b turns num den) := by
  unfold fdI
  rw [srt_id (hs.sub (wlM_sub ms S _)), srt_id (hs.sub (wlM_sub ms S _)), srt_id (hs.sub (ptA_sub ms S _))]
  split
  · rw [← fnd_app]
    exact (fnd_perm (wl_perm ms S k) _ _ _ _).symm
  · exact List.Perm.refl _
theorem fdS_wl : fdS (wlM ms S (k + 1)) b turns num den = fdS (wlM ms S k) b turns num den + fdS (ptA ms S k) b turns num den := by
  unfold fdS
  rw [srt_id (hs.sub (wlM_sub ms S _)), srt_id (hs.sub (wlM_sub ms S _)), srt_id (hs.sub (ptA_sub ms S _))]
  split
  · rw [← sn_app]
    exact (sn_perm (wl_perm ms S k) _ _ _ _).symm
  · rfl
end
theorem VL.wl {ms : List MbG} (h : VL ms) (S k : Nat) : VL (wlM ms S k ++ ptA ms S k) := (h.sub (wlM_sub ms S (k + 1))).perm (wl_perm ms S k).symm
theorem ofG_wl {ms : List MbG} (h : VL ms) (S k : Nat) : ofG (wlM ms S k ++ ptA ms S k) = ofG (wlM ms S (k + 1)) := ofG_eq (h.wl S k).nd (h.sub (wlM_sub ms S (k + 1))).nd fun a => (wl_perm ms S k).mem_iff
theorem merge_of {l l' : List MbG} (h : VL (l ++ l')) (h1 : VL l) (h2 : VL l') : Pure Try.prog 28 [(ofG l).sv, (ofG l').sv] (· = .tup [(ofG (l ++ l')).sv, .i 0]) := by
  have hm := merge28 (ofG l) (ofG l') (ofG_sm (by have := h1.len; omega)) (ofG_sm (by have := h2.len; omega))
  obtain ⟨e1, e2⟩ := mrg_eq h
  rw [e1, e2] at hm
  exact hm
theorem split_of {l : List MbG} (h : VL l) (shards : Int) : Pure Try.prog 30 [(ofG l).sv, .i shards] (· = .tup [xls (if spE (ofG l) shards = 0 then shards.toNat else 0) (fun i => ofG (ptA (srtM l) shards.toNat i)), .i (spE (ofG l) shards)]) := split30 (ofG l) (ofG_sm (by have := h.len; omega)) shards
section
variable (x : IxG)
@[go_sem] theorem IxG.f_0 : x.f 0 = .rs 3 x.ms.length (mrows x.ms) := rfl
@[go_sem] theorem IxG.f_1 : x.f 1 = .rs 3 (x.ch 0).length (prows (x.ch 0)) := rfl
@[go_sem] theorem IxG.f_2 : x.f 2 = .rs 3 (x.ch 1).length (prows (x.ch 1)) := rfl
@[go_sem] theorem IxG.f_3 : x.f 3 = .rs 3 (x.ch 2).length (prows (x.ch 2)) := rfl
@[go_sem] theorem IxG.f_4 : x.f 4 = .rs 3 (x.ch 3).length (prows (x.ch 3)) := rfl
@[go_sem] theorem IxG.f_5 : x.f 5 = .rs 3 (x.ch 4).length (prows (x.ch 4)) := rfl
@[go_sem] theorem IxG.f_6 : x.f 6 = .rs 3 (x.ch 5).length (prows (x.ch 5)) := rfl
@[go_sem] theorem IxG.f_7 : x.f 7 = .rs 3 (x.ch 6).length (prows (x.ch 6)) := rfl
@[go_sem] theorem IxG.f_8 : x.f 8 = .rs 3 (x.ch 7).length (prows (x.ch 7)) := rfl
end
theorem law14 (l : List MbG) (shards : Int) (b : IrG) (turns num den : Int) (h1 : -9223372036854775808 ≤ shards) (h2 : shards ≤ 9223372036854775807) (h3 : -9223372036854775808 ≤ turns) (h4 : turns ≤ 9223372036854775807) : Pure Try.prog 14 [mrs l, .i shards, b.sv, .i turns, .agg [.i num, .i den]] (· = .b true) := by
  refine pure_of_GC T_ok Try.func14 rfl (by kernel_rfl) (Nat.le_of_ble_eq_true rfl) rfl rfl ?_
  simp [go_sem]
  refine call_val alive32 rfl rfl ?_
  simp [go_sem]
  intro hn
  obtain ⟨l', hv, hx, hx0, _⟩ := buildX_of l
  refine call_val (build16 l (by omega)) rfl rfl ?_
  rw [hx]
  have hsp := split_of hv shards
  have hse := search_of hv b turns num den
  have hspE : spE (ofG l') shards = if shards < 1 ∨ 16 < shards then 2 else 0 := by unfold spE; rw [if_neg (by rw [ofG_valid hv]; simp)]
  have hsm := same_of hv
  obtain ⟨ms, hms⟩ : ∃ ms, srtM l' = ms := ⟨_, rfl⟩
  have hsl : SL ms := hms ▸ srt_SL hv.nd
  have hvm : VL ms := hms ▸ hv.srt
  have hor : ofG ms = ofG l' := hms ▸ ofG_srt hv.nd
  have hfi : fdI l' b turns num den = fdI ms b turns num den := by unfold fdI; rw [hms, srt_id hsl]
  have hfs : fdS l' b turns num den = fdS ms b turns num den := by unfold fdS; rw [hms, srt_id hsl]
  rw [hms] at hsp
  rw [hfi, hfs] at hse
  obtain ⟨x, hxe⟩ : ∃ x, ofG l' = x := ⟨_, rfl⟩
  rw [hxe] at hsp hse hspE hsm hor ⊢
  generalize buildE l = e at *
  obtain ⟨f, hf⟩ : ∃ f, mE b b turns num den = f := ⟨_, rfl⟩
  rw [hf] at hse
  obtain ⟨g, hg⟩ : ∃ g, spE x shards = g := ⟨_, rfl⟩
  rw [hg] at hsp hspE
  simp [go_sem, sv_ixC] at hsp hse hsm ⊢
  refine call_val hsp rfl rfl ?_
  simp [go_sem]
  by_cases he : e = 0
  rotate_left
  · simp [go_sem, he]
  by_cases hg0 : g = 0
  rotate_left
  · have hg2 : g = 2 := by rw [hspE]; rw [hspE] at hg0; split at hg0 <;> simp_all
    subst hg2
    simp [go_sem, he]
  subst he hg0
  have hS : 1 ≤ shards ∧ shards ≤ 16 := by
    by_cases h : shards < 1 ∨ 16 < shards
    · rw [if_pos h] at hspE; cases hspE
    · omega
  obtain ⟨S, rfl⟩ : ∃ S : Nat, shards = S := ⟨shards.toNat, by omega⟩
  rw [Int.toNat_natCast]
  simp [go_sem]
  refine call_val hse rfl rfl ?_
  have hmon : ∀ k, (fdI (wlM ms S k) b turns num den).length ≤ 256 := fun k => by
    have h1 := fdI_le (wlM ms S k) b turns num den
    have h2 := (hvm.sub (wlM_sub ms S k)).len
    omega
  have hm1 := fun k => fdI_wl hsl S k b turns num den
  have hm2 := fun k => fdS_wl hsl S k b turns num den
  have hA : fdI (wlM ms S S) b turns num den = fdI ms b turns num den := by rw [wlM_all hvm (by omega)]
  have hB : fdS (wlM ms S S) b turns num den = fdS ms b turns num den := by rw [wlM_all hvm (by omega)]
  have hw : ofG (wlM ms S S) = x := by rw [wlM_all hvm (by omega)]; exact hor
  have hA0 : fdI (wlM ms S 0) b turns num den = [] := by
    have h := fdI_le (wlM ms S 0) b turns num den
    rw [wlM_zero hvm] at h ⊢
    exact List.eq_nil_of_length_eq_zero (by simpa using h)
  have hB0 : fdS (wlM ms S 0) b turns num den = 0 := by
    rw [wlM_zero hvm]
    unfold fdS
    split
    · rw [srt_id (List.Pairwise.nil : SL [])]
      unfold snM
      exact (sum_const 0 _).trans (Nat.mul_zero _)
    · rfl
  have hz : ixC (ofG (wlM ms S 0)) = ixC IxG.zero := by rw [wlM_zero hvm, ofG_nil]
  have hml := fun k => (hvm.sub (wlM_sub ms S k)).len
  have hSs : ∀ k, fdS (wlM ms S k) b turns num den ≤ 1000000 := fun k => by
    unfold fdS
    split
    · rename_i h0
      have h5 := sn_le (srtM (wlM ms S k)) b turns.toNat num.toNat den.toNat
      have h6 := (mE_ok h0).2.2.1
      have h7 := hml k
      rw [srt_len] at h5
      have h8 : (2 * turns.toNat + 1) * (wlM ms S k).length ≤ 15 * 256 := Nat.mul_le_mul (by omega) h7
      omega
    · omega
  have hAl : (fdI ms b turns num den).length ≤ 256 := by rw [← hA]; exact hmon S
  generalize fdI ms b turns num den = A at *
  generalize fdS ms b turns num den = sa at *
  simp [go_sem]
  refine GLoop_s T_ok (α := Nat × (Int → Bool)) (fun s => [(1, .i S), (3, .i turns), (7, .ptr 0 0 2 0), (9, .ptr 1 0 2 0), (11, .b true), (12, .ptr 2 0 9 0), (16, .ptr 3 0 2 0), (17, .i f), (18, .ptr 4 0 9 0), (19, .mp 5), (20, .i (fdS (wlM ms S s.1) b turns num den)), (21, .i (fdI (wlM ms S s.1) b turns num den).length), (78, xls S fun i => ofG (ptA ms S i)), (79, .i S), (80, .i s.1)])
    (fun s => [some (.box [.w b.c, .w b.m]), some (.box [.i num, .i den]), some (.box (ixC x)), some (.box [ils A, .i sa]), some (.box (ixC (ofG (wlM ms S s.1)))), some (.map s.2 (fun _ => .b true) none)]) 6
    (fun s => s.1 ≤ S ∧ ∀ a, s.2 a = true ↔ a ∈ fdI (wlM ms S s.1) b turns num den) (fun s => S - s.1) (0, fun _ => false) (fun _ => rfl) ⟨by omega, fun a => by rw [hA0]; simp⟩ (by simp [go_sem, hA0, hB0]) (by simp [go_sem, hz, IxG.zero]) ?_
  rintro ⟨i, has⟩ J ⟨hi, hhas⟩
  dsimp only at hi hhas
  by_cases hil : i < S
  · simp [go_sem, hil]
    have hvw := hvm.wl S i
    have hvW := hvm.sub (wlM_sub ms S i)
    have hvP := hvm.sub (ptA_sub ms S i)
    have hmg := merge_of hvw hvW hvP
    rw [ofG_wl hvm] at hmg
    have hsP := search_of hvP b turns num den
    rw [hf] at hsP
    have hPm : ∀ a ∈ (ofG (ptA ms S i)).ms, a.id.tmod (S : Int) = i ∧ 0 ≤ a.id ∧ a.id ≤ 1073741824 := fun a ha => by
      have ha : a ∈ srtM (ptA ms S i) := ha
      rw [srt_mem, ptA_eq, List.mem_filter] at ha
      have := hvm.num a ha.1
      simp [okN, btw] at this
      exact ⟨by simpa using ha.2, this.1, this.2⟩
    have hPl : (ofG (ptA ms S i)).ms.length ≤ 256 := by
      have : (ofG (ptA ms S i)).ms.length = (ptA ms S i).length := srt_len _
      rw [this]; exact hvP.len
    have hi1 := hm1 i
    have hi2 := hm2 i
    have hl1 := hmon i
    have hl2 := hmon (i + 1)
    have hl3 := hSs i
    have hl4 := hSs (i + 1)
    have hl5 := hi1.length_eq
    rw [List.length_append] at hl5
    obtain ⟨yP, hyP⟩ : ∃ y, ofG (ptA ms S i) = y := ⟨_, rfl⟩
    obtain ⟨yW, hyW⟩ : ∃ y, ofG (wlM ms S i) = y := ⟨_, rfl⟩
    obtain ⟨yW2, hyW2⟩ : ∃ y, ofG (wlM ms S (i + 1)) = y := ⟨_, rfl⟩
    obtain ⟨nW, hnW⟩ : ∃ n, (fdI (wlM ms S i) b turns num den).length = n := ⟨_, rfl⟩
    obtain ⟨sW, hsW⟩ : ∃ n, fdS (wlM ms S i) b turns num den = n := ⟨_, rfl⟩
    rw [hyP] at hmg hsP hPm hPl
    rw [hyW, hyW2] at hmg
    rw [hnW] at hl1 hl5
    rw [hsW] at hl3 hi2
    rw [hnW, hsW, hyW]
    generalize fdI (ptA ms S i) b turns num den = L at *
    generalize fdS (ptA ms S i) b turns num den = sl at *
    have hL256 : L.length ≤ 256 := by omega
    simp [go_sem, sv_ixC] at hmg hsP
    simp [go_sem, hil, hyP]
    refine GLoop_s T_ok (α := Nat) (fun k => [(1, .i S), (3, .i turns), (7, .ptr 0 0 2 0), (9, .ptr 1 0 2 0), (11, .b true), (12, .ptr 2 0 9 0), (16, .ptr 3 0 2 0), (17, .i f), (18, .ptr 4 0 9 0), (19, .mp 5), (20, .i sW), (21, .i nW), (22, .i i), (23, .ptr 6 0 9 0), (78, xls S fun i => ofG (ptA ms S i)), (79, .i S), (80, .i i), (86, mrs yP.ms), (87, .i yP.ms.length), (88, .i k)])
      (fun _ => [some (.box [.w b.c, .w b.m]), some (.box [.i num, .i den]), some (.box (ixC x)), some (.box [ils A, .i sa]), some (.box (ixC yW)), some (.map has (fun _ => .b true) none), some (.box (ixC yP))]) 7 (fun k => k ≤ yP.ms.length) (fun k => yP.ms.length - k) 0 (fun _ => rfl) (by simp) (by simp [go_sem]) (by simp [go_sem]) ?_
    intro k J hk
    by_cases hkl : k < yP.ms.length
    · have r0 := mrow hkl 0
      have r1 := mrow hkl 1
      have r2 := mrow hkl 2
      obtain ⟨hmo, hp0, hp1⟩ := hPm _ (List.getElem_mem hkl)
      have hS0 : ¬ (S : Int) = 0 := by omega
      have hS0' : ¬ S = 0 := by omega
      generalize yP.ms[k] = a at *
      simp [go_sem, hkl, r0, r1, r2, hmo, hS0, hS0']
      refine ⟨by omega, k + 1, by omega, by omega, by omega⟩
    have hke : k = yP.ms.length := by omega
    subst hke
    simp [go_sem]
    refine call_val hmg rfl rfl ?_
    simp [go_sem]
    refine call_val hsP rfl rfl ?_
    simp [go_sem]
    refine GLoop_s T_ok (α := Nat × (Int → Bool)) (fun s => [(1, .i S), (3, .i turns), (7, .ptr 0 0 2 0), (9, .ptr 1 0 2 0), (11, .b true), (12, .ptr 2 0 9 0), (16, .ptr 3 0 2 0), (17, .i f), (18, .ptr 4 0 9 0), (19, .mp 5), (20, .i sW), (21, .i (nW + s.1 : Nat)), (22, .i i), (28, .ptr 8 0 2 0), (78, xls S fun i => ofG (ptA ms S i)), (79, .i S), (80, .i i), (120, ils L), (121, .i L.length), (122, .i s.1)])
      (fun s => [some (.box [.w b.c, .w b.m]), some (.box [.i num, .i den]), some (.box (ixC x)), some (.box [ils A, .i sa]), some (.box (ixC yW2)), some (.map s.2 (fun _ => .b true) none), none, none, some (.box [ils L, .i sl])]) 9 (fun s => s.1 ≤ L.length ∧ ∀ a, s.2 a = true ↔ has a = true ∨ a ∈ L.take s.1) (fun s => L.length - s.1) (0, has) (fun _ => rfl) ⟨by omega, fun a => by simp⟩ (by simp [go_sem]) (by simp [go_sem]) ?_
    rintro ⟨w, h2⟩ J ⟨hw, hh2⟩
    dsimp only at hw hh2
    by_cases hwl : w < L.length
    · have e0 := irow hwl 0
      have hts := List.take_succ_eq_append_getElem hwl
      generalize L[w] = u at *
      simp [go_sem, hwl, e0]
      refine ⟨by omega, by omega, w + 1, fun a => decide (a = u) || h2 a, ⟨by omega, fun a => ?_⟩, by omega, ⟨by omega, by omega⟩, fun _ => rfl⟩
      rw [hts, Bool.or_eq_true, decide_eq_true_eq, hh2 a, List.mem_append, List.mem_singleton]
      constructor
      · rintro (h | h | h)
        · exact .inr (.inr h)
        · exact .inl h
        · exact .inr (.inl h)
      · rintro (h | h | h)
        · exact .inr (.inl h)
        · exact .inr (.inr h)
        · exact .inl h
    · have hwe : w = L.length := by omega
      subst hwe
      rw [List.take_length] at hh2
      simp [go_sem]
      refine ⟨by omega, by omega, i + 1, h2, ⟨by omega, fun a => ?_⟩, by omega, ⟨by rw [hi2]; simp, by omega, by omega⟩, ?_, fun _ => rfl⟩
      · rw [hh2 a, hhas a, hi1.mem_iff, List.mem_append]
      · rw [hyW2]; simp
  · have hie : i = S := by omega
    subst hie
    rw [hA] at hhas
    rw [hw, hA, hB]
    simp [go_sem]
    refine call_val hsm rfl rfl ?_
    simp [go_sem]
    refine GLoop_s T_ok (α := Nat) (fun k => [(11, .b true), (19, .mp 5), (154, ils A), (155, .i A.length), (156, .i k)])
      (fun _ => [none, none, none, none, none, some (.map has (fun _ => .b true) none)]) 6 (fun k => k ≤ A.length) (fun k => A.length - k) 0 (fun _ => rfl) (by simp) (by simp [go_sem]) (by simp [go_sem]) ?_
    intro k J hk
    by_cases hkl : k < A.length
    · have e0 := irow hkl 0
      have hin := (hhas A[k]).2 (List.getElem_mem hkl)
      generalize A[k] = u at *
      simp [go_sem, hkl, e0, hin]
      exact ⟨by omega, k + 1, by omega, by omega, by omega⟩
    · have hke : k = A.length := by omega
      subst hke
      simp [go_sem]
end Go.Gx.Ix
