/-
  IndexBuilds.
-/
import Derived.Test.YtdnblflhlklfnaaKk
set_option linter.unusedVariables false
set_option linter.unusedSimpArgs false
set_option maxRecDepth 20000
set_option maxHeartbeats 4000000
namespace Go.Gx.Ix
open Go.RowKit Go.Proofs Go.Proofs.Ytdnblflhlklfnaa

theorem spoil21n : Pure Try.prog 21 [nilX] (· = .tup []) := by
  refine pure_of_GC T_ok Try.func21 rfl (by kernel_rfl) (Nat.le_of_ble_eq_true rfl) rfl rfl ?_
  simp [go_sem]
  refine GLoop_of T_ok (α := Nat) (fun k => [(1, .ptr 0 0 9 0), (2, .i k)]) (fun _ => [some nil9]) 1 (fun k => k = 0) (fun _ => 0) 0 (fun _ => rfl) rfl (by simp [go_sem]) (by simp [go_sem]) ?_
  rintro k J rfl
  simp [go_sem]
  refine GLoop_of T_ok (α := Nat) (fun k => [(1, .ptr 0 0 9 0), (3, .i k)]) (fun _ => [some nil9]) 1 (fun k => k ≤ 8) (fun k => 8 - k) 0 (fun _ => rfl) (by omega) (by simp [go_sem]) (by simp [go_sem]) ?_
  rintro j J hj
  rcases (show j = 0 ∨ j = 1 ∨ j = 2 ∨ j = 3 ∨ j = 4 ∨ j = 5 ∨ j = 6 ∨ j = 7 ∨ j = 8 by omega) with rfl | rfl | rfl | rfl | rfl | rfl | rfl | rfl | rfl
  all_goals simp [go_sem]
  all_goals
    refine GLoop_of T_ok (α := Nat) (fun k => [(1, .ptr 0 0 9 0), (3, _), (4, .i k)]) (fun _ => [some nil9]) 1 (fun k => k = 0) (fun _ => 0) 0 (fun _ => rfl) rfl (by simp [go_sem]; rfl) (by simp [go_sem]) ?_
    rintro k J rfl
    simp [go_sem]
    first | exact ⟨1, by omega, by omega, rfl⟩ | exact ⟨2, by omega, by omega, rfl⟩ | exact ⟨3, by omega, by omega, rfl⟩ | exact ⟨4, by omega, by omega, rfl⟩ | exact ⟨5, by omega, by omega, rfl⟩ | exact ⟨6, by omega, by omega, rfl⟩ | exact ⟨7, by omega, by omega, rfl⟩ | exact ⟨8, by omega, by omega, rfl⟩
theorem ofG_bd {l : List MbG} (h : buildE l = 0) : (ofG l).Bd := by
  have hv := (buildE_iff l).1 h
  have hms : ∀ a ∈ srtM l, 0 ≤ a.id ∧ a.id ≤ 1073741824 := fun a ha => by
    have := hv.num a ((srtM_spec l).1.mem_iff.1 ha)
    simpa [okN, btw] using this
  refine ⟨hms, fun j _ P hP v hv => ?_⟩
  obtain ⟨b, hb, rfl, _⟩ := (ofG_post l j).to P hP v hv
  exact hms b hb
theorem law3 (l : List MbG) (x : IxG) : Pure Try.prog 3 [mrs l, x.sv] (· = .b true) := by
  refine pure_of_GC T_ok Try.func3 rfl (by kernel_rfl) (Nat.le_of_ble_eq_true rfl) rfl rfl ?_
  have hg := great15 x
  simp [go_sem, sv_ixC] at hg ⊢
  by_cases hn : 300 < l.length
  · have hn' : ¬ (l.length : Int) ≤ 300 := by omega
    have hn'' : (300 : Int) < l.length := by omega
    simp [go_sem, hn, hn', hn'']
  have hn' : (l.length : Int) ≤ 300 := by omega
  have hn'' : ¬ (300 : Int) < l.length := by omega
  simp [go_sem, hn, hn', hn'']
  refine call_val hg rfl rfl ?_
  cases hgr : grB x
  rotate_left
  · simp [go_sem]
  have hsm := grB_sm hgr
  simp [go_sem]
  refine ⟨by omega, callK_wk (M' := upd (upd mem0 0 (some (.box (ixC x)))) 1 (some (mreg l))) (fun s => ?_) (callK_freeze 1 (R := mreg l) (upd_same ..) ?_)⟩
  · by_cases hs : s = 1
    · subst hs
      rw [upd_same, upd_same]
      refine Reg.wk_vec (Nat.le_refl _) fun i j hi hj => ?_
      simp [joined, hi, SV.kill]
      exact SV.sub_rfl _
    · rw [upd_ne _ _ hs, upd_ne _ _ hs]
      refine .inl ?_
      simp only [killM]
      rw [upd_ne _ _ hs]
      by_cases h0 : s = 0
      · subst h0; exact Reg.sub_rfl _
      · rw [upd_ne _ _ h0]; exact Reg.sub_rfl _
  simp [go_sem]
  refine build16K l (by omega) (Nat.zero_le _) ?_
  intro S M1 nx1 g1 g2 g3
  have hb0 : M1 0 = some (.box (ixC x)) := by
    have := g3 0 (by omega)
    exact this.eq (fun _ => rfl) (fun _ _ => rfl)
  have hm22 := members22 l l (by omega)
  have hc19 := check19 x hsm
  have hc20 := check20 x hsm
  have hr := build17' l (by omega)
  by_cases he : buildE l = 0
  · rw [if_pos he] at g2
    rw [he] at hr ⊢
    have hS := g2
    obtain ⟨rm, r, pos, rfl, q1, q2, q3, q4⟩ := g2.ex
    rw [if_pos rfl] at hr
    simp [go_sem]
    refine ⟨⟨rfl, rfl⟩, ?_⟩
    refine call_val hr rfl rfl ?_
    simp [go_sem, sv_ixC]
    rw [sv_ixC] at hc19 hc20
    have hbl := bxL_eq rm (ofG l).ms.length fun i => .sl (r i) 3 0 ((ofG l).ch i).length none
    have n1 : ¬ 0 = nx1 := by omega
    have n2 : ¬ 0 = nx1 + 1 := by omega
    have n3 : ¬ nx1 = nx1 + 1 := by omega
    have n4 : ¬ nx1 + 1 = nx1 := by omega
    refine GDraw_all T_ok (by kernel_rfl) (by kernel_rfl) ?_
    rw [hbl]
    simp [go_sem, n1, n2, n3, n4, hb0]
    have hr8 : ∀ j, j < 8 → r j < nx1 + 1 + 1 := fun j hj => by have := (q4.ra j hj).2; omega
    refine ⟨⟨by omega, hr8 0 (by omega), hr8 1 (by omega), hr8 2 (by omega), hr8 3 (by omega), hr8 4 (by omega), hr8 5 (by omega), hr8 6 (by omega), hr8 7 (by omega)⟩, _, dcall_deep (v := .b true) ?_ rfl, by simp [SV.refs], ?_⟩
    · have h18 := same18 (ofG l) (ofG l) (ofG_sm (by omega))
      rw [eqB_self] at h18
      refine IxO.view (x := ofG l) (lo := 2) (hi := nx1) (g2.mem fun q h1 h2 => ?_) fun s hs => ?_
      · simp only [upd_app]
        rw [if_neg (by omega), if_neg (by omega), if_neg (by omega), if_neg (by omega)]
      · simp only [gviewL, gview]
        exact h18.args ⟨hs, SV.le.rfl, trivial⟩
    simp [go_sem, n1, n2, n3, n4, hb0]
    refine ⟨_, dcall_val hc19 rfl rfl, _, dcall_val hc20 rfl rfl, ?_⟩
    simp [go_sem, n1, n2, n3, n4, hb0]
    refine spoil21K (x := ofG l) (lo := 2) (hi0 := nx1) (g2.mem fun q h1 h2 => ?_) (ofG_sm (by omega)) (ofG_bd he) (by omega) (Nat.zero_le _) ?_
    · simp only [upd_app]
      rw [if_neg (by omega), if_neg (by omega), if_neg (by omega), if_neg (by omega)]
    intro M2 nx2 k1 k2
    simp [go_sem, n1, n2, n3, n4, hb0]
    refine call_val hm22 rfl rfl ?_
    simp [go_sem]
  · rw [if_neg he] at g2
    subst g2
    rw [if_neg he] at hr
    generalize buildE l = e at *
    simp [go_sem]
    refine call_val hr rfl rfl ?_
    simp [go_sem]
    have n1 : ¬ 0 = nx1 := by omega
    have n2 : ¬ 0 = nx1 + 1 := by omega
    have n3 : ¬ nx1 = nx1 + 1 := by omega
    have n4 : ¬ nx1 + 1 = nx1 := by omega
    refine GDraw_all T_ok (by kernel_rfl) (by kernel_rfl) ?_
    simp [go_sem, n1, n2, n3, n4, hb0]
    have h18 := same18 IxG.zero IxG.zero ⟨by simp [IxG.zero], fun j _ => ⟨by simp [IxG.zero], fun p hp => by simp [IxG.zero] at hp⟩⟩
    rw [eqB_self] at h18
    refine ⟨_, dcall_val (h18.args ⟨nil_zero, nil_zero, trivial⟩) rfl rfl, by simp [SV.refs], ?_⟩
    simp [go_sem, n1, n2, n3, n4, hb0]
    refine ⟨_, dcall_val hc19 rfl rfl, _, dcall_val hc20 rfl rfl, ?_⟩
    simp [go_sem, n1, n2, n3, n4, hb0]
    refine call_val spoil21n rfl rfl ?_
    simp [go_sem, n1, n2, n3, n4, hb0]
    refine call_val hm22 rfl rfl ?_
    simp [go_sem]
end Go.Gx.Ix