/-
  Law: RightsKept.
-/
import Derived.Test.YtaggojedpkddjaaSg
set_option linter.unusedVariables false
set_option linter.unusedSimpArgs false
set_option maxRecDepth 20000
set_option maxHeartbeats 4000000
namespace Go.Gx
open Go.RowKit Go.Proofs Go.Proofs.Ytaggojedpkddjaa

def cnt (i k : Nat) : Int := if k ≤ i then 0 else 1
theorem law15 (g : RG) (c : ConG) (m : MarkG) (hb : g.By) : Pure Try.prog 15 [g.sv, c.sv, m.sv] (· = .b true) := by
  refine pure_of_GC T_ok Try.func15 rfl (by kernel_rfl) (Nat.le_of_ble_eq_true rfl) rfl rfl ?_
  simp [go_sem]
  refine call_val alive24 rfl rfl ?_
  simp [go_sem]
  refine call_val (great16 g) rfl rfl ?_
  generalize hg : g.great = a
  cases a
  rotate_left
  · simp [go_sem]
  have h := OK_of hb hg
  simp [go_sem]
  refine call_val (put43 g c h) rfl rfl ?_
  by_cases ec : g.cnE c = 0
  rotate_left
  · simp [go_sem, ec]
    refine call_val (put46 g m h) rfl rfl ?_
    by_cases em : g.mkE m = 0
    rotate_left
    · simp [go_sem, em]
    have hmw := RG.putM_valid em
    have hmo := RG.putM_OK h em
    have hmn := RG.putM_n em
    have hmb := (RG.putM_bd (g := g) (x := m)).1
    simp [go_sem, em]
    refine GLoop_of T_ok (α := Nat) (fun k => [(3, .ptr 0 0 4 0), (5, .ptr 2 0 5 0), (7, .b true), (15, .ptr 4 0 4 0), (17, .i (cnt (bnd (g.cm m.l m.p) g.nm) k)), (18, .i ((k : Int) - cnt (bnd (g.cm m.l m.p) g.nm) k)), (104, MarkG.rs (g.putM m).nm (g.putM m).m), (105, .i (g.putM m).nm), (106, .i k)])
      (fun _ => g.box ++ [some (.box [.i c.p, .i c.q, .i c.u]), some (.box [.i m.l, .i m.p, .i m.s, .i m.u, .i m.n]), some (.box [RuleG.rs RG.nil.nr RG.nil.r, ConG.rs RG.nil.nc RG.nil.c, WarG.rs RG.nil.nw RG.nil.w, MarkG.rs RG.nil.nm RG.nil.m]), some (.box [RuleG.rs (g.putM m).nr (g.putM m).r, ConG.rs (g.putM m).nc (g.putM m).c, WarG.rs (g.putM m).nw (g.putM m).w, MarkG.rs (g.putM m).nm (g.putM m).m])]) 5 (fun k => k ≤ (g.putM m).nm) (fun k => (g.putM m).nm - k) 0 (fun _ => rfl) (by simp) (by simp [go_sem, cnt]) (by simp [go_sem]) ?_
    · intro k J hi
      by_cases hlt : k < (g.putM m).nm
      · rcases RG.putM_at (RG.putM_E em).1 hlt with ⟨a1, a2⟩ | ⟨a1, a2⟩
        · have hcn : cnt (bnd (g.cm m.l m.p) g.nm) k = 0 := by unfold cnt; rw [if_pos (by omega)]
          have hcn' : cnt (bnd (g.cm m.l m.p) g.nm) (k + 1) = 1 := by unfold cnt; rw [if_neg (by omega)]
          simp [go_sem, hlt, a2, hcn]
          exact ⟨by omega, k + 1, by omega, by omega, by rw [hcn']; simp⟩
        · have hcn : cnt (bnd (g.cm m.l m.p) g.nm) (k + 1) = cnt (bnd (g.cm m.l m.p) g.nm) k := by
            unfold cnt
            by_cases q : k ≤ bnd (g.cm m.l m.p) g.nm
            · rw [if_pos q, if_pos (by omega)]
            · rw [if_neg q, if_neg (by omega)]
          have hcb : 0 ≤ cnt (bnd (g.cm m.l m.p) g.nm) k ∧ cnt (bnd (g.cm m.l m.p) g.nm) k ≤ 1 := by unfold cnt; split <;> omega
          by_cases e1 : ((g.putM m).m k).l = m.l
          · have e2 : ¬ ((g.putM m).m k).p = m.p := fun h => a2 ⟨e1, h⟩
            simp [go_sem, hlt, e1, e2]
            exact ⟨by omega, by omega, k + 1, by omega, by omega, by rw [hcn]; simp; omega⟩
          · simp [go_sem, hlt, e1]
            exact ⟨by omega, by omega, k + 1, by omega, by omega, by rw [hcn]; simp; omega⟩
      have hk : k = (g.putM m).nm := by omega
      subst hk
      have hc1 : cnt (bnd (g.cm m.l m.p) g.nm) (g.putM m).nm = 1 := by unfold cnt; rw [if_neg (by omega)]
      simp [go_sem, hc1]
      refine GLoop_of T_ok (α := Nat) (fun k => [(3, .ptr 0 0 4 0), (5, .ptr 2 0 5 0), (7, .b true), (15, .ptr 4 0 4 0), (17, .i 1), (18, .i (((g.putM m).nm : Int) - 1 - ((k : Int) - if fnd (g.cm m.l m.p) g.nm = true then cnt (bnd (g.cm m.l m.p) g.nm) k else 0))), (131, MarkG.rs g.nm g.m), (132, .i g.nm), (133, .i k)])
        (fun _ => g.box ++ [some (.box [.i c.p, .i c.q, .i c.u]), some (.box [.i m.l, .i m.p, .i m.s, .i m.u, .i m.n]), some (.box [RuleG.rs RG.nil.nr RG.nil.r, ConG.rs RG.nil.nc RG.nil.c, WarG.rs RG.nil.nw RG.nil.w, MarkG.rs RG.nil.nm RG.nil.m]), some (.box [RuleG.rs (g.putM m).nr (g.putM m).r, ConG.rs (g.putM m).nc (g.putM m).c, WarG.rs (g.putM m).nw (g.putM m).w, MarkG.rs (g.putM m).nm (g.putM m).m])]) 5 (fun k => k ≤ g.nm) (fun k => g.nm - k) 0 (fun _ => rfl) (by simp) (by simp [go_sem, cnt]) (by simp [go_sem]) ?_
      intro k J hi
      have hnm := (RG.lim (RG.putM_E em).1).2.2.2
      have hcb : 0 ≤ cnt (bnd (g.cm m.l m.p) g.nm) k ∧ cnt (bnd (g.cm m.l m.p) g.nm) k ≤ 1 := by unfold cnt; split <;> omega
      by_cases hlt : k < g.nm
      · have hv := (RG.putM_E em).1
        by_cases a2 : (g.m k).l = m.l ∧ (g.m k).p = m.p
        · obtain ⟨f1, f2⟩ := fnd_of (RG.cm_mono (RG.v6 hv) m.l m.p) (RG.cm_st (RG.v6 hv) m.l m.p) hlt (lex_eq.2 a2)
          have hcn : cnt (bnd (g.cm m.l m.p) g.nm) k = 0 := by unfold cnt; rw [if_pos (by omega)]
          have hcn' : cnt (bnd (g.cm m.l m.p) g.nm) (k + 1) = 1 := by unfold cnt; rw [if_neg (by omega)]
          simp [go_sem, hlt, a2.1, a2.2, hcn, f1]
          exact ⟨by omega, k + 1, by omega, by omega, by rw [hcn']; simp⟩
        · have hcn : (if fnd (g.cm m.l m.p) g.nm = true then cnt (bnd (g.cm m.l m.p) g.nm) (k + 1) else 0) = if fnd (g.cm m.l m.p) g.nm = true then cnt (bnd (g.cm m.l m.p) g.nm) k else 0 := by
            by_cases hf : fnd (g.cm m.l m.p) g.nm = true
            · rw [if_pos hf, if_pos hf]
              have hne : k ≠ bnd (g.cm m.l m.p) g.nm := fun e => a2 (by
                have := (fnd_at hf).2
                rw [← e] at this
                exact lex_eq.1 this)
              unfold cnt
              by_cases q : k ≤ bnd (g.cm m.l m.p) g.nm
              · rw [if_pos q, if_pos (by omega)]
              · rw [if_neg q, if_neg (by omega)]
            · rw [if_neg hf, if_neg hf]
          have hcc : 0 ≤ (if fnd (g.cm m.l m.p) g.nm = true then cnt (bnd (g.cm m.l m.p) g.nm) k else 0) ∧ (if fnd (g.cm m.l m.p) g.nm = true then cnt (bnd (g.cm m.l m.p) g.nm) k else 0) ≤ 1 := by split <;> omega
          generalize (if fnd (g.cm m.l m.p) g.nm = true then cnt (bnd (g.cm m.l m.p) g.nm) k else 0) = cc at *
          by_cases e1 : (g.m k).l = m.l
          · have e2 : ¬ (g.m k).p = m.p := fun h => a2 ⟨e1, h⟩
            simp [go_sem, hlt, e1, e2]
            exact ⟨by omega, by omega, k + 1, by omega, by omega, by rw [hcn]; simp; omega⟩
          · simp [go_sem, hlt, e1]
            exact ⟨by omega, by omega, k + 1, by omega, by omega, by rw [hcn]; simp; omega⟩
      have hk : k = g.nm := by omega
      subst hk
      have hfin : ((g.putM m).nm : Int) - 1 - ((g.nm : Int) - if fnd (g.cm m.l m.p) g.nm = true then cnt (bnd (g.cm m.l m.p) g.nm) g.nm else 0) = 0 := by
        have hw : (g.putM m).nm = plN (fnd (g.cm m.l m.p) g.nm) g.nm := rfl
        rw [hw]
        unfold plN
        by_cases hf : fnd (g.cm m.l m.p) g.nm = true
        · have := (fnd_at hf).1
          rw [if_pos hf, if_pos hf]
          unfold cnt
          rw [if_neg (by omega)]
          omega
        · rw [if_neg hf, if_neg hf]
          omega
      simp [go_sem, hfin]
      refine call_val (check28 _ hmo) rfl rfl ?_
      simp [go_sem, hmw]
  have hcv := RG.putC_valid ec
  have hco := RG.putC_OK h ec
  have hcn0 := RG.putC_n ec
  have hcb := (RG.putC_bd (g := g) (x := c))
  simp [go_sem, ec]
  refine GLoop_of T_ok (α := Nat) (fun k => [(3, .ptr 0 0 4 0), (4, .ptr 1 0 3 0), (5, .ptr 2 0 5 0), (7, .b true), (8, .ptr 3 0 4 0), (10, .i (cnt (bnd (g.cmC c.p c.q) g.nc) k)), (40, ConG.rs (g.putC c).nc (g.putC c).c), (41, .i (g.putC c).nc), (42, .i k)])
    (fun _ => g.box ++ [some (.box [.i c.p, .i c.q, .i c.u]), some (.box [.i m.l, .i m.p, .i m.s, .i m.u, .i m.n]), some (.box [RuleG.rs (g.putC c).nr (g.putC c).r, ConG.rs (g.putC c).nc (g.putC c).c, WarG.rs (g.putC c).nw (g.putC c).w, MarkG.rs (g.putC c).nm (g.putC c).m])]) 4 (fun k => k ≤ (g.putC c).nc) (fun k => (g.putC c).nc - k) 0 (fun _ => rfl) (by simp) (by simp [go_sem, cnt]) (by simp [go_sem]) ?_
  intro k J hi
  by_cases hlt : k < (g.putC c).nc
  · rcases RG.putC_at (RG.putC_E ec).1 hlt with ⟨a1, a2⟩ | ⟨a1, a2⟩
    · have hcn : cnt (bnd (g.cmC c.p c.q) g.nc) k = 0 := by unfold cnt; rw [if_pos (by omega)]
      have hcn' : cnt (bnd (g.cmC c.p c.q) g.nc) (k + 1) = 1 := by unfold cnt; rw [if_neg (by omega)]
      simp [go_sem, hlt, a2, hcn]
      exact ⟨by omega, k + 1, by omega, by omega, by rw [hcn']; simp⟩
    · have hcn : cnt (bnd (g.cmC c.p c.q) g.nc) (k + 1) = cnt (bnd (g.cmC c.p c.q) g.nc) k := by
        unfold cnt
        by_cases q : k ≤ bnd (g.cmC c.p c.q) g.nc
        · rw [if_pos q, if_pos (by omega)]
        · rw [if_neg q, if_neg (by omega)]
      by_cases e1 : ((g.putC c).c k).p = c.p
      · have e2 : ¬ ((g.putC c).c k).q = c.q := fun h => a2 ⟨e1, h⟩
        simp [go_sem, hlt, e1, e2]
        exact ⟨by omega, k + 1, by omega, by omega, by rw [hcn]; simp⟩
      · simp [go_sem, hlt, e1]
        exact ⟨by omega, k + 1, by omega, by omega, by rw [hcn]; simp⟩
  have hk : k = (g.putC c).nc := by omega
  subst hk
  have hc1 : cnt (bnd (g.cmC c.p c.q) g.nc) (g.putC c).nc = 1 := by unfold cnt; rw [if_neg (by omega)]
  have hrv : (g.putC c).rvE c.p c.q = 0 := by
    unfold RG.rvE
    rw [if_pos hcv, if_pos (RG.fndC hcv (a := c) ⟨_, hcb.1, hcb.2⟩)]
  have hzn : (((g.putC c).revoke c.p c.q).nc : Int) = ((g.putC c).nc : Int) - 1 := by
    show (((g.putC c).nc - 1 : Nat) : Int) = _
    omega
  simp [go_sem, hc1]
  refine call_val (revoke36 (g.putC c) c.p c.q hco) rfl rfl ?_
  simp [go_sem, hrv]
  refine call_val (check28 _ hco) rfl rfl ?_
  simp [go_sem, hcv, hzn]
  refine ⟨by omega, ?_⟩
  refine call_val (put46 g m h) rfl rfl ?_
  by_cases em : g.mkE m = 0
  rotate_left
  · simp [go_sem, em]
  have hmw := RG.putM_valid em
  have hmo := RG.putM_OK h em
  have hmn := RG.putM_n em
  have hmb := (RG.putM_bd (g := g) (x := m)).1
  simp [go_sem, em]
  refine GLoop_of T_ok (α := Nat) (fun k => [(3, .ptr 0 0 4 0), (5, .ptr 2 0 5 0), (7, .b true), (15, .ptr 5 0 4 0), (17, .i (cnt (bnd (g.cm m.l m.p) g.nm) k)), (18, .i ((k : Int) - cnt (bnd (g.cm m.l m.p) g.nm) k)), (104, MarkG.rs (g.putM m).nm (g.putM m).m), (105, .i (g.putM m).nm), (106, .i k)])
    (fun _ => g.box ++ [some (.box [.i c.p, .i c.q, .i c.u]), some (.box [.i m.l, .i m.p, .i m.s, .i m.u, .i m.n]), some (.box [RuleG.rs (g.putC c).nr (g.putC c).r, ConG.rs (g.putC c).nc (g.putC c).c, WarG.rs (g.putC c).nw (g.putC c).w, MarkG.rs (g.putC c).nm (g.putC c).m]), some (.box [RuleG.rs ((g.putC c).revoke c.p c.q).nr ((g.putC c).revoke c.p c.q).r, ConG.rs ((g.putC c).revoke c.p c.q).nc ((g.putC c).revoke c.p c.q).c, WarG.rs ((g.putC c).revoke c.p c.q).nw ((g.putC c).revoke c.p c.q).w, MarkG.rs ((g.putC c).revoke c.p c.q).nm ((g.putC c).revoke c.p c.q).m]), some (.box [RuleG.rs (g.putM m).nr (g.putM m).r, ConG.rs (g.putM m).nc (g.putM m).c, WarG.rs (g.putM m).nw (g.putM m).w, MarkG.rs (g.putM m).nm (g.putM m).m])]) 6 (fun k => k ≤ (g.putM m).nm) (fun k => (g.putM m).nm - k) 0 (fun _ => rfl) (by simp) (by simp [go_sem, cnt]) (by simp [go_sem]) ?_
  · intro k J hi
    by_cases hlt : k < (g.putM m).nm
    · rcases RG.putM_at (RG.putM_E em).1 hlt with ⟨a1, a2⟩ | ⟨a1, a2⟩
      · have hcn : cnt (bnd (g.cm m.l m.p) g.nm) k = 0 := by unfold cnt; rw [if_pos (by omega)]
        have hcn' : cnt (bnd (g.cm m.l m.p) g.nm) (k + 1) = 1 := by unfold cnt; rw [if_neg (by omega)]
        simp [go_sem, hlt, a2, hcn]
        exact ⟨by omega, k + 1, by omega, by omega, by rw [hcn']; simp⟩
      · have hcn : cnt (bnd (g.cm m.l m.p) g.nm) (k + 1) = cnt (bnd (g.cm m.l m.p) g.nm) k := by
          unfold cnt
          by_cases q : k ≤ bnd (g.cm m.l m.p) g.nm
          · rw [if_pos q, if_pos (by omega)]
          · rw [if_neg q, if_neg (by omega)]
        have hcb : 0 ≤ cnt (bnd (g.cm m.l m.p) g.nm) k ∧ cnt (bnd (g.cm m.l m.p) g.nm) k ≤ 1 := by unfold cnt; split <;> omega
        by_cases e1 : ((g.putM m).m k).l = m.l
        · have e2 : ¬ ((g.putM m).m k).p = m.p := fun h => a2 ⟨e1, h⟩
          simp [go_sem, hlt, e1, e2]
          exact ⟨by omega, by omega, k + 1, by omega, by omega, by rw [hcn]; simp; omega⟩
        · simp [go_sem, hlt, e1]
          exact ⟨by omega, by omega, k + 1, by omega, by omega, by rw [hcn]; simp; omega⟩
    have hk : k = (g.putM m).nm := by omega
    subst hk
    have hc1 : cnt (bnd (g.cm m.l m.p) g.nm) (g.putM m).nm = 1 := by unfold cnt; rw [if_neg (by omega)]
    simp [go_sem, hc1]
    refine GLoop_of T_ok (α := Nat) (fun k => [(3, .ptr 0 0 4 0), (5, .ptr 2 0 5 0), (7, .b true), (15, .ptr 5 0 4 0), (17, .i 1), (18, .i (((g.putM m).nm : Int) - 1 - ((k : Int) - if fnd (g.cm m.l m.p) g.nm = true then cnt (bnd (g.cm m.l m.p) g.nm) k else 0))), (131, MarkG.rs g.nm g.m), (132, .i g.nm), (133, .i k)])
      (fun _ => g.box ++ [some (.box [.i c.p, .i c.q, .i c.u]), some (.box [.i m.l, .i m.p, .i m.s, .i m.u, .i m.n]), some (.box [RuleG.rs (g.putC c).nr (g.putC c).r, ConG.rs (g.putC c).nc (g.putC c).c, WarG.rs (g.putC c).nw (g.putC c).w, MarkG.rs (g.putC c).nm (g.putC c).m]), some (.box [RuleG.rs ((g.putC c).revoke c.p c.q).nr ((g.putC c).revoke c.p c.q).r, ConG.rs ((g.putC c).revoke c.p c.q).nc ((g.putC c).revoke c.p c.q).c, WarG.rs ((g.putC c).revoke c.p c.q).nw ((g.putC c).revoke c.p c.q).w, MarkG.rs ((g.putC c).revoke c.p c.q).nm ((g.putC c).revoke c.p c.q).m]), some (.box [RuleG.rs (g.putM m).nr (g.putM m).r, ConG.rs (g.putM m).nc (g.putM m).c, WarG.rs (g.putM m).nw (g.putM m).w, MarkG.rs (g.putM m).nm (g.putM m).m])]) 6 (fun k => k ≤ g.nm) (fun k => g.nm - k) 0 (fun _ => rfl) (by simp) (by simp [go_sem, cnt]) (by simp [go_sem]) ?_
    intro k J hi
    have hnm := (RG.lim (RG.putM_E em).1).2.2.2
    have hcb : 0 ≤ cnt (bnd (g.cm m.l m.p) g.nm) k ∧ cnt (bnd (g.cm m.l m.p) g.nm) k ≤ 1 := by unfold cnt; split <;> omega
    by_cases hlt : k < g.nm
    · have hv := (RG.putM_E em).1
      by_cases a2 : (g.m k).l = m.l ∧ (g.m k).p = m.p
      · obtain ⟨f1, f2⟩ := fnd_of (RG.cm_mono (RG.v6 hv) m.l m.p) (RG.cm_st (RG.v6 hv) m.l m.p) hlt (lex_eq.2 a2)
        have hcn : cnt (bnd (g.cm m.l m.p) g.nm) k = 0 := by unfold cnt; rw [if_pos (by omega)]
        have hcn' : cnt (bnd (g.cm m.l m.p) g.nm) (k + 1) = 1 := by unfold cnt; rw [if_neg (by omega)]
        simp [go_sem, hlt, a2.1, a2.2, hcn, f1]
        exact ⟨by omega, k + 1, by omega, by omega, by rw [hcn']; simp⟩
      · have hcn : (if fnd (g.cm m.l m.p) g.nm = true then cnt (bnd (g.cm m.l m.p) g.nm) (k + 1) else 0) = if fnd (g.cm m.l m.p) g.nm = true then cnt (bnd (g.cm m.l m.p) g.nm) k else 0 := by
          by_cases hf : fnd (g.cm m.l m.p) g.nm = true
          · rw [if_pos hf, if_pos hf]
            have hne : k ≠ bnd (g.cm m.l m.p) g.nm := fun e => a2 (by
              have := (fnd_at hf).2
              rw [← e] at this
              exact lex_eq.1 this)
            unfold cnt
            by_cases q : k ≤ bnd (g.cm m.l m.p) g.nm
            · rw [if_pos q, if_pos (by omega)]
            · rw [if_neg q, if_neg (by omega)]
          · rw [if_neg hf, if_neg hf]
        have hcc : 0 ≤ (if fnd (g.cm m.l m.p) g.nm = true then cnt (bnd (g.cm m.l m.p) g.nm) k else 0) ∧ (if fnd (g.cm m.l m.p) g.nm = true then cnt (bnd (g.cm m.l m.p) g.nm) k else 0) ≤ 1 := by split <;> omega
        generalize (if fnd (g.cm m.l m.p) g.nm = true then cnt (bnd (g.cm m.l m.p) g.nm) k else 0) = cc at *
        by_cases e1 : (g.m k).l = m.l
        · have e2 : ¬ (g.m k).p = m.p := fun h => a2 ⟨e1, h⟩
          simp [go_sem, hlt, e1, e2]
          exact ⟨by omega, by omega, k + 1, by omega, by omega, by rw [hcn]; simp; omega⟩
        · simp [go_sem, hlt, e1]
          exact ⟨by omega, by omega, k + 1, by omega, by omega, by rw [hcn]; simp; omega⟩
    have hk : k = g.nm := by omega
    subst hk
    have hfin : ((g.putM m).nm : Int) - 1 - ((g.nm : Int) - if fnd (g.cm m.l m.p) g.nm = true then cnt (bnd (g.cm m.l m.p) g.nm) g.nm else 0) = 0 := by
      have hw : (g.putM m).nm = plN (fnd (g.cm m.l m.p) g.nm) g.nm := rfl
      rw [hw]
      unfold plN
      by_cases hf : fnd (g.cm m.l m.p) g.nm = true
      · have := (fnd_at hf).1
        rw [if_pos hf, if_pos hf]
        unfold cnt
        rw [if_neg (by omega)]
        omega
      · rw [if_neg hf, if_neg hf]
        omega
    simp [go_sem, hfin]
    refine call_val (check28 _ hmo) rfl rfl ?_
    simp [go_sem, hmw]
end Go.Gx
