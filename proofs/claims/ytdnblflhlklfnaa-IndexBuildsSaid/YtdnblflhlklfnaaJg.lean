/-
  IndexGone.
-/
import Derived.Test.YtdnblflhlklfnaaJf
set_option linter.unusedVariables false
set_option linter.unusedSimpArgs false
set_option maxRecDepth 20000
set_option maxHeartbeats 4000000
namespace Go.Gx.Ix
open Go.RowKit Go.Proofs Go.Proofs.Ytdnblflhlklfnaa

theorem law9 (l : List MbG) (b : IrG) (turns num den at_ : Int) (h1 : -9223372036854775808 ≤ turns) (h2 : turns ≤ 9223372036854775807) (h3 : -9223372036854775808 ≤ at_) (h4 : at_ ≤ 9223372036854775807) : Pure Try.prog 9 [mrs l, b.sv, .i turns, .agg [.i num, .i den], .i at_] (· = .b true) := by
  refine pure_of_GC T_ok Try.func9 rfl (by kernel_rfl) (Nat.le_of_ble_eq_true rfl) rfl rfl ?_
  simp [go_sem]
  refine call_val alive32 rfl rfl ?_
  simp [go_sem]
  by_cases hn : (l.length : Int) ≤ 300
  rotate_left
  · simp [go_sem, hn]
  by_cases ha0 : 0 ≤ at_
  rotate_left
  · simp [go_sem, hn, ha0]
  by_cases ha1 : at_ < l.length
  rotate_left
  · simp [go_sem, hn, ha0, ha1]
  obtain ⟨i, rfl⟩ : ∃ n : Nat, at_ = n := ⟨at_.toNat, by omega⟩
  have hil : i < l.length := by omega
  simp [go_sem, hn, ha0, ha1]
  obtain ⟨l', hv, hx, hx0, _⟩ := buildX_of l
  refine call_val (build16 l (by omega)) rfl rfl ?_
  rw [hx]
  have hs1 := search_of hv b turns num den
  obtain ⟨x, hxe⟩ : ∃ x, ofG l' = x := ⟨_, rfl⟩
  rw [hxe] at hs1 ⊢
  obtain ⟨f, hf⟩ : ∃ f, mE b b turns num den = f := ⟨_, rfl⟩
  rw [hf] at hs1
  generalize buildE l = e at *
  simp [go_sem, sv_ixC] at hs1 ⊢
  refine call_val hs1 rfl rfl ?_
  simp [go_sem, sv_ixC]
  by_cases he : e = 0
  rotate_left
  · simp [go_sem, he]
  obtain rfl := hx0 he
  by_cases hf0 : f = 0
  rotate_left
  · simp [go_sem, he, hf0]
  subst he hf0
  have hr := rem_of hv l'[i].id
  obtain ⟨e1, e2, v2⟩ := remX_eq hv (t := l'[i].id) (List.mem_map.2 ⟨_, List.getElem_mem hil, rfl⟩)
  rw [e1, e2, hxe] at hr
  have hs2 := search_of v2 b turns num den
  rw [hf] at hs2
  have hp := post_no (l := dropM l' l'[i].id) (t := l'[i].id) (by
    intro h
    obtain ⟨a, h1, h2⟩ := List.mem_map.1 h
    exact (drop_mem.1 h1).2 h2)
  have hAB : fdI (dropM l' l'[i].id) b turns num den = (fdI l' b turns num den).filter fun a => !decide (a = l'[i].id) := by
    unfold fdI
    rw [if_pos hf, if_pos hf, srt_drop hv, fnd_drop]
  have hSS : fdS (dropM l' l'[i].id) b turns num den ≤ fdS l' b turns num den := by
    unfold fdS
    rw [if_pos hf, if_pos hf, srt_drop hv]
    exact sn_drop _ _ _ _ _ _
  have hA1 := fdI_le l' b turns num den
  have hysm : (ofG (dropM l' l'[i].id)).Sm := ofG_sm (by have := v2.len; omega)
  generalize ofG (dropM l' l'[i].id) = y at *
  generalize fdI (dropM l' l'[i].id) b turns num den = B at *
  generalize fdI l' b turns num den = A at *
  generalize fdS (dropM l' l'[i].id) b turns num den = sb at *
  generalize fdS l' b turns num den = sa at *
  have r0 : mrows l' i 0 = .i l'[i].id := mrow hil 0
  generalize l'[i].id = id at *
  have hss' : ¬ (sa : Int) < sb := by omega
  simp [go_sem, sv_ixC, r0, hil] at hr hs2 ⊢
  refine call_val hr rfl rfl ?_
  simp [go_sem, sv_ixC]
  refine call_val hs2 rfl rfl ?_
  simp [go_sem, sv_ixC, hSS]
  refine GLoop_s T_ok (α := Nat) (fun j => [(11, .b true), (14, .ptr 3 0 2 0), (16, .i id), (17, .ptr 4 0 9 0), (19, .ptr 5 0 2 0), (96, .i j)])
    (fun _ => [none, none, none, some (.box [ils A, .i sa]), some (.box (ixC y)), some (.box [ils B, .i sb])]) 6 (fun j => j ≤ 8) (fun j => 8 - j) 0 (fun _ => rfl) (by simp) (by simp [go_sem]) (by simp [go_sem]) ?_
  intro j J hj
  by_cases hjl : j < 8
  · have hjl' : (j : Int) < 8 := by omega
    have hidx : (ixC y)[1 + j]?.getD (SV.r RV.any) = pls (y.ch j) := by
      rcases (show j = 0 ∨ j = 1 ∨ j = 2 ∨ j = 3 ∨ j = 4 ∨ j = 5 ∨ j = 6 ∨ j = 7 by omega) with rfl | rfl | rfl | rfl | rfl | rfl | rfl | rfl <;> rfl
    have hpj := hp j
    have hsj := hysm.ch j hjl
    generalize y.ch j = L at *
    simp [go_sem, hjl, hjl', hidx]
    refine ⟨by omega, ?_⟩
    refine GLoop_s T_ok (α := Nat) (fun k => [(11, .b true), (14, .ptr 3 0 2 0), (16, .i id), (17, .ptr 4 0 9 0), (19, .ptr 5 0 2 0), (96, .i j), (102, pls L), (103, .i L.length), (104, .i k)])
      (fun _ => [none, none, none, some (.box [ils A, .i sa]), some (.box (ixC y)), some (.box [ils B, .i sb])]) 6 (fun k => k ≤ L.length) (fun k => L.length - k) 0 (fun _ => rfl) (by simp) (by simp [go_sem]) (by simp [go_sem]) ?_
    intro k J hk
    by_cases hkl : k < L.length
    · have hpk := hpj L[k] (List.getElem_mem hkl)
      have hsk := hsj.2 L[k] (List.getElem_mem hkl)
      have q0 := prow hkl 0
      have q1 := prow hkl 1
      have q2 := prow hkl 2
      generalize L[k] = P at *
      simp [go_sem, hkl, q0, q1, q2]
      refine GLoop_s T_ok (α := Nat) (fun q => [(11, .b true), (14, .ptr 3 0 2 0), (16, .i id), (17, .ptr 4 0 9 0), (19, .ptr 5 0 2 0), (96, .i j), (102, pls L), (103, .i L.length), (104, .i k), (109, ils P.ids), (110, .i P.ids.length), (111, .i q)])
        (fun _ => [none, none, none, some (.box [ils A, .i sa]), some (.box (ixC y)), some (.box [ils B, .i sb])]) 6 (fun q => q ≤ P.ids.length) (fun q => P.ids.length - q) 0 (fun _ => rfl) (by simp) (by simp [go_sem]) (by simp [go_sem]) ?_
      intro q J hq
      by_cases hql : q < P.ids.length
      · have e0 := irow hql 0
        have hne := hpk P.ids[q] (List.getElem_mem hql)
        generalize P.ids[q] = w at *
        simp [go_sem, hql, e0, hne]
        exact ⟨by omega, q + 1, by omega, by omega, by omega⟩
      · have hqe : q = P.ids.length := by omega
        subst hqe
        simp [go_sem]
        exact ⟨by omega, k + 1, by omega, by omega, by omega⟩
    · have hke : k = L.length := by omega
      subst hke
      simp [go_sem]
      exact ⟨by omega, j + 1, by omega, by omega, by omega⟩
  · have hj8 : j = 8 := by omega
    subst hj8
    simp [go_sem]
    refine GLoop_pre (GSt.adopt 26 3 1 (fun i j => .r (irows [] i j)) (by rfl)) ?_
    refine GLoop_s T_ok (α := Nat) (fun k => [(11, .b true), (16, .i id), (19, .ptr 5 0 2 0), (26, .sl 6 1 0 ((A.take k).filter fun a => !decide (a = id)).length none), (122, ils A), (123, .i A.length), (124, .i k)])
      (fun k => [none, none, none, none, none, some (.box [ils B, .i sb]), some (.vec 3 1 ((A.take k).filter fun a => !decide (a = id)).length fun i j => .r (irows ((A.take k).filter fun a => !decide (a = id)) i j))]) 7
      (fun k => k ≤ A.length) (fun k => A.length - k) 0 (fun _ => rfl) (by simp) (by simp [go_sem]) (by simp [go_sem]) ?_
    intro k J hk
    by_cases hkl : k < A.length
    · have e0 := irow hkl 0
      have hsn : (A.take (k + 1)).filter (fun a => !decide (a = id)) = (A.take k).filter (fun a => !decide (a = id)) ++ if A[k] = id then [] else [A[k]] := by
        rw [List.take_succ_eq_append_getElem hkl, List.filter_append]
        congr 1
        by_cases h : A[k] = id <;> simp [h]
      have hle : ((A.take k).filter fun a => !decide (a = id)).length ≤ A.length := Nat.le_trans (List.length_filter_le _ _) (by rw [List.length_take]; omega)
      obtain ⟨R, hR⟩ : ∃ R, (A.take k).filter (fun a => !decide (a = id)) = R := ⟨_, rfl⟩
      rw [hR] at hsn hle ⊢
      generalize A[k] = w at *
      simp [go_sem, hkl, e0]
      by_cases hw : w = id
      · rw [if_pos hw, List.append_nil] at hsn
        simp [go_sem, hw]
        refine ⟨by omega, k + 1, by omega, by omega, ?_⟩
        rw [hsn]
        exact ⟨⟨rfl, by omega⟩, Nat.le_refl _, fun _ _ => rfl⟩
      · rw [if_neg hw] at hsn
        simp [go_sem, hw]
        refine ⟨⟨by omega, by omega⟩, by omega, k + 1, by omega, by omega, ?_⟩
        rw [hsn]
        refine ⟨⟨by rw [List.length_append, List.length_singleton], by omega⟩, by rw [List.length_append, List.length_singleton]; omega, fun i hi => ijoin 7 6 R _ i (by rw [List.length_append, List.length_singleton] at hi; exact hi)⟩
    · have hke : k = A.length := by omega
      subst hke
      rw [List.take_length, ← hAB]
      simp [go_sem]
      refine call_lent (v := .b true) (by
        simp [go_sem]
        have h := ints37 B B (by have := congrArg List.length hAB; have h2 := List.length_filter_le (fun a => !decide (a = id)) A; omega)
        simpa using h) rfl ?_
      simp [go_sem]
end Go.Gx.Ix
