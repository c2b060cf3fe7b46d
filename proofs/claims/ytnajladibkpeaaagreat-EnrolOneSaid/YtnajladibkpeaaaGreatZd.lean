/-
  The law of one person.
-/
import Derived.Test.YtnajladibkpeaaaGreatZc
import Derived.Test.YtnajladibkpeaaaGreatHg
set_option linter.unusedVariables false
set_option linter.unusedSimpArgs false
set_option maxRecDepth 20000
set_option maxHeartbeats 4000000
namespace Go.Gx
open Go.RowKit Go.Proofs Go.Proofs.YtnajladibkpeaaaGreat

theorem EG.far_le {g : EG} {a b : Nat} {n : Nat} (h : g.far a b = n) : n + 1 ≤ g.nr := by
  have := (g.far_lt a b).2
  omega
theorem lawOne (g : EG) (a b : Int) (_ : -9223372036854775808 ≤ a) (_ : a ≤ 9223372036854775807) (_ : -9223372036854775808 ≤ b) (_ : b ≤ 9223372036854775807) : Pure Tryz.prog 5 [g.sv, .i a, .i b] (· = .b true) := by
  refine pure_of_GC T_ok Tryz.func5 rfl (by kernel_rfl) (Nat.le_of_ble_eq_true rfl) rfl rfl ?_
  simp [go_sem]
  refine call_val alive46 rfl rfl ?_
  simp [go_sem]
  refine call_val (great12' g) rfl rfl ?_
  cases hg : g.great
  rotate_left
  · simp [go_sem]
  have hb := EG.Bd.of_great hg
  have hok := (hb.sm (by decide)).ok
  have hnl := hb.nl
  have hnr := hb.nr
  simp [go_sem]
  have hpa := person13 g hok a
  have hpb := person13 g hok b
  have hw := why20 g hok (by omega) a b
  have hap := Apart22 g hok a b
  by_cases hE : g.valid = true ∧ g.th a = true ∧ g.th b = true
  rotate_left
  · -- one of them is not there
    have e1 : ¬ g.wE a b = 0 := fun e => hE ⟨(EG.wE_zero e).1, (EG.wE_zero e).2.1, (EG.wE_zero e).2.2.1⟩
    have e2 : ¬ g.pE2 a b = 0 := fun e => hE (by
      rcases g.pE2_cases a b with ⟨h1, h2, h3, _⟩ | h
      · exact ⟨h1, h2, h3⟩
      · exact absurd e h)
    have e3 : ¬ g.apE a b = 0 := by unfold EG.apE; rw [if_neg e2]; exact e2
    have e4 : ¬ g.pE a = 0 ∨ ¬ g.pE b = 0 := by
      apply Classical.byContradiction
      intro hh
      have h1 : g.pE a = 0 := by omega
      have h2 : g.pE b = 0 := by omega
      apply hE
      unfold EG.pE at h1 h2
      cases hv : g.valid <;> cases ha : g.th a <;> cases hbb : g.th b <;> simp [hv, ha, hbb] at h1 h2 ⊢
    rw [EG.wS_no e1] at hw
    have hlv : g.lv (g.apI a b) = .agg [.i 0, .i 0, .b false] := by
      unfold EG.apI
      rw [if_neg e2]
      exact EG.lv_neg (by decide)
    rw [hlv] at hap
    refine call_val hpa rfl rfl ?_
    simp [go_sem]
    refine call_val hpb rfl rfl ?_
    simp [go_sem]
    refine call_val hw rfl rfl ?_
    simp [go_sem]
    refine call_val hap rfl rfl ?_
    by_cases k1 : g.pE a = 0
    · have k2 : ¬ g.pE b = 0 := by omega
      simp [go_sem, k1, k2, e1, e3]
    · simp [go_sem, k1, e1, e3]
  obtain ⟨hv, ta, tb⟩ := hE
  have hval := EG.val_iff.1 hv
  have hl := EG.valid_inl hv
  have hth := EG.valid_lth hv
  have a1 := EG.th_iff.1 ta
  have b1 := EG.th_iff.1 tb
  obtain ⟨a, rfl⟩ : ∃ n : Nat, a = n := ⟨a.toNat, by omega⟩
  obtain ⟨b, rfl⟩ : ∃ n : Nat, b = n := ⟨b.toNat, by omega⟩
  have pa : g.pE a = 0 := by unfold EG.pE; rw [if_pos hv, if_pos ta]
  have pb : g.pE b = 0 := by unfold EG.pE; rw [if_pos hv, if_pos tb]
  have p2 : g.pE2 a b = 0 := by unfold EG.pE2; rw [if_pos hv, ta, tb]; rfl
  rw [pa, if_pos rfl] at hpa
  rw [pb, if_pos rfl] at hpb
  have hq := EG.far_q hv ta tb
  have eE : g.apE a b = if 0 ≤ g.ap a b then 0 else 6 := by unfold EG.apE; rw [if_pos p2]
  have eI : g.apI a b = g.ap a b := by unfold EG.apI; rw [if_pos p2]
  rw [eE, eI] at hap
  refine call_val hpa rfl rfl ?_
  simp [go_sem]
  refine call_val hpb rfl rfl ?_
  simp [go_sem]
  by_cases hqq : g.pm g.nl a = g.pm g.nl b
  · -- one person
    have hfar := hq.1 hqq
    have hap0 : ¬ 0 ≤ g.ap a b := fun h => by
      obtain ⟨j, _, _, _, h1, _⟩ := EG.ap_ok hv h
      exact h1 hqq
    rw [if_neg hap0, EG.lv_neg (by omega)] at hap
    obtain ⟨n, hn⟩ : ∃ n : Nat, g.far a b = n := ⟨(g.far a b).toNat, by omega⟩
    have hE : g.wE a b = 0 := EG.wE_of hv ta tb hfar
    rw [EG.wS_yes hE hn, hE] at hw
    have hnn := EG.far_le hn
    refine call_val hw rfl rfl ?_
    simp [go_sem]
    refine call_val hap rfl rfl ?_
    simp [go_sem, hqq]
    have hrow : ∀ k, k < n + 1 → intsR (g.way a b n) k 0 = .i (g.cu b a k : Nat) := fun k hk => by
      show RV.i (nth (g.way a b n) k : Nat) = _
      rw [EG.way_nth g hk]
    refine GLoop_s T_ok (α := Nat) (fun i => [(1, .i a), (2, .i b), (3, .ptr 0 0 3 0), (7, .b true), (12, .r (.rs 1 (n + 1) (intsR (g.way a b n)))), (21, .i ((i : Int) + 1))]) (fun _ => [g.bx]) 1
      (fun i => i ≤ n) (fun i => n - i) 0 (fun _ => rfl) (by simp) (by simp [go_sem]) (by simp [go_sem]) ?_
    intro i J hi
    by_cases hlt : i < n
    rotate_left
    · have e : i = n := by omega
      subst e
      have r0 := hrow 0 (by omega)
      have rn := hrow i (by omega)
      have c0 : (g.cu b a 0 : Nat) = a := rfl
      have cn : g.cu b a i = b := (EG.cu_eq hl (by omega) hn (Nat.le_refl _)).2 rfl
      rw [c0] at r0
      rw [cn] at rn
      have n0 : nth (g.way a b i) 0 = a := by rw [EG.way_nth g (by omega)]; rfl
      have nn : nth (g.way a b i) i = b := by rw [EG.way_nth g (by omega), cn]
      simp [go_sem]
      exact ⟨by rw [n0], by omega, by omega, by rw [nn], by omega⟩
    have hadj := EG.cu_adj hl (by omega) hn hlt
    obtain ⟨j, j1, j2, j3⟩ := EG.fnl_adj hval hadj
    have hf := find17 g hok (g.cu b a i : Nat) (g.cu b a (i + 1) : Nat)
    rw [j1] at hf
    have r0 := hrow i (by omega)
    have r1 := hrow (i + 1) (by omega)
    simp [go_sem, hlt]
    refine GDraw_all T_ok (by kernel_rfl) (by kernel_rfl) ?_
    have it : ((i : Int) + 1).toNat = i + 1 := by omega
    have c1 : (i : Int) + 1 < (n : Int) + 1 := by omega
    simp [go_sem, r0, r1, it, c1]
    refine ⟨by omega, by omega, by omega, by omega, by omega, _, dcall_val hf rfl rfl, ?_⟩
    simp [go_sem, SV.refs, j2, j3]
    exact ⟨by omega, i + 1, by omega, by omega, by omega⟩
  · have hw0 : ¬ g.wE a b = 0 := fun e => hqq (hq.2 (EG.wE_zero e).2.2.2)
    rw [EG.wS_no hw0] at hw
    refine call_val hw rfl rfl ?_
    simp [go_sem]
    by_cases hap0 : 0 ≤ g.ap a b
    · obtain ⟨j, j1, j2, j3, j4, j5⟩ := EG.ap_ok hv hap0
      have jl := hval.lp j j2
      rw [if_pos hap0, EG.lv_pos hap0, j1] at hap
      simp only [Int.toNat_natCast, j3] at hap
      have hf := find17 g hok (g.l j).a (g.l j).b
      rw [EG.fnl_at hval j2 (by omega) (by omega)] at hf
      have hp1 := person13 g hok (g.l j).a
      have hp2 := person13 g hok (g.l j).b
      have z1 : g.pE (g.l j).a = 0 := by unfold EG.pE; rw [if_pos hv, if_pos jl.1]
      have z2 : g.pE (g.l j).b = 0 := by unfold EG.pE; rw [if_pos hv, if_pos jl.2.1]
      rw [z1, if_pos rfl] at hp1
      rw [z2, if_pos rfl] at hp2
      refine call_val hap rfl rfl ?_
      simp [go_sem, hqq, hw0]
      refine call_val hf rfl rfl ?_
      simp [go_sem]
      refine call_val hp1 rfl rfl ?_
      simp [go_sem]
      refine call_val hp2 rfl rfl ?_
      rcases j5 with ⟨u1, u2⟩ | ⟨u1, u2⟩
      · simp [go_sem, u1, u2, j2, j3]
        refine GDraw_all T_ok (by kernel_rfl) (by kernel_rfl) ?_
        simp [go_sem, u1, u2, j2, j3]
      · have hqq' : ¬ g.pm g.nl b = g.pm g.nl a := fun e => hqq e.symm
        simp [go_sem, u1, u2, j2, j3, hqq, hqq']
        refine GDraw_all T_ok (by kernel_rfl) (by kernel_rfl) ?_
        simp [go_sem, u1, u2, j2, j3, hqq, hqq']
    · rw [if_neg hap0, EG.lv_neg (by omega)] at hap
      refine call_val hap rfl rfl ?_
      simp [go_sem, hqq, hw0]
end Go.Gx
