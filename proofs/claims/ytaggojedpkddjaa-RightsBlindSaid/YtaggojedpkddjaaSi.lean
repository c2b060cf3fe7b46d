/-
  Law: RightsBlind.
-/
import Derived.Test.YtaggojedpkddjaaSg
set_option linter.unusedVariables false
set_option linter.unusedSimpArgs false
set_option maxRecDepth 20000
set_option maxHeartbeats 4000000
namespace Go.Gx
open Go.RowKit Go.Proofs Go.Proofs.Ytaggojedpkddjaa

section
variable {g : RG} {q : QG} {m : MarkG}
theorem RG.putM_lev : (g.putM m).lev q (g.putM m).nr = g.lev q g.nr :=
  Int.le_antisymm (RG.lev_le (g := g.putM m) (y := g) fun a h1 h2 => ⟨h1, ruleB_le (g := g.putM m) (y := g) (fun hc => hc) (fun hc => hc) h2⟩)
    (RG.lev_le (g := g) (y := g.putM m) fun a h1 h2 => ⟨h1, ruleB_le (g := g) (y := g.putM m) (fun hc => hc) (fun hc => hc) h2⟩)
theorem RG.putM_ask (he : g.mkE m = 0) : ask (g.putM m) q = ask g q := by simp [ask, RG.putM_valid he, (RG.putM_E he).1]
theorem RG.blind1 (he : g.mkE m = 0) (hk : ¬ (m.l = q.l ∧ m.p = q.w)) : (g.putM m).aerr q = g.aerr q ∧ (g.putM m).rep q = g.rep q := by
  have hv := (RG.putM_E he).1
  refine RG.ans_eq (RG.putM_ask he) RG.putM_lev fun _ => RG.onM_eq (RG.v6 (RG.putM_valid he)) (RG.v6 hv) fun a hb => ?_
  rw [RG.putM_in hv]
  simp only [onB, Bool.and_eq_true, decide_eq_true_eq] at hb
  constructor
  · rintro (rfl | h)
    · exact absurd ⟨hb.1.1.1, hb.1.1.2⟩ hk
    · exact h.1
  · intro h
    exact .inr ⟨h, fun h2 => hk ⟨by rw [← h2.1]; exact hb.1.1.1, by rw [← h2.2]; exact hb.1.1.2⟩⟩
theorem RG.uniqM (hv : g.valid = true) {a b : MarkG} (ha : g.InM a) (hb : g.InM b) (h1 : a.l = b.l) (h2 : a.p = b.p) : a = b := by
  obtain ⟨i, hi, rfl⟩ := ha
  obtain ⟨j, hj, rfl⟩ := hb
  rcases Nat.lt_trichotomy i j with h | h | h
  · have := RG.sortM (RG.v6 hv) h hj
    unfold MarkG.ltP at this; omega
  · rw [h]
  · have := RG.sortM (RG.v6 hv) h hi
    unfold MarkG.ltP at this; omega
theorem RG.blind2 {was now : MarkG} (hin : g.InM was) (hq : was.l = q.l ∧ was.p = q.w) (hk : now.l = was.l ∧ now.p = was.p) (hb : onB q now = onB q was) (he : g.mkE now = 0) (hs : 2 ≤ g.aL q → now.s = was.s) (hn : g.aL q = 3 → now.n = was.n) :
    (g.putM now).aerr q = g.aerr q ∧ (g.putM now).rep q = g.rep q := by
  have hv := (RG.putM_E he).1
  have hy := RG.putM_valid he
  have ha : (g.putM now).aerr q = g.aerr q := by unfold RG.aerr; rw [RG.putM_ask he, RG.putM_lev]
  refine ⟨ha, ?_⟩
  by_cases h0 : g.aerr q = 0
  rotate_left
  · rw [RG.ans_no h0, RG.ans_no (by rw [ha]; exact h0)]
  have hL : g.aL q = g.lev q g.nr := by simp [RG.aL, h0]
  rw [hL] at hs hn
  cases hbw : onB q was with
  | true =>
    rw [RG.ans_full h0 (RG.onM_mem (RG.v6 hv) hin hbw), RG.ans_full (by rw [ha]; exact h0) (RG.onM_mem (RG.v6 hy) ((RG.putM_in hv).2 (.inl rfl)) (by rw [hb]; exact hbw)), RG.putM_lev]
    by_cases h2 : 2 ≤ g.lev q g.nr
    · rw [hs h2]
      by_cases h3 : g.lev q g.nr = 3
      · rw [hn h3]
      · simp [h3]
    · have h3 : ¬ g.lev q g.nr = 3 := by omega
      simp [h2, h3]
  | false =>
    have n1 : g.onM q = none := RG.onM_none fun i hi => by
      cases hx : onB q (g.m i) with
      | false => rfl
      | true =>
        have hx' := hx
        simp only [onB, Bool.and_eq_true, decide_eq_true_eq] at hx'
        have := RG.uniqM hv ⟨i, hi, rfl⟩ hin (by rw [hq.1]; exact hx'.1.1.1) (by rw [hq.2]; exact hx'.1.1.2)
        rw [this, hbw] at hx; cases hx
    have n2 : (g.putM now).onM q = none := RG.onM_none fun i hi => by
      cases hx : onB q ((g.putM now).m i) with
      | false => rfl
      | true =>
        have hx' := hx
        simp only [onB, Bool.and_eq_true, decide_eq_true_eq] at hx'
        rcases (RG.putM_in hv).1 ⟨i, hi, rfl⟩ with h1 | ⟨_, h1⟩
        · rw [h1, hb, hbw] at hx; cases hx
        · exact absurd ⟨by rw [hk.1, hq.1]; exact hx'.1.1.1, by rw [hk.2, hq.2]; exact hx'.1.1.2⟩ h1
    rw [RG.ans_base h0 n1, RG.ans_base (by rw [ha]; exact h0) n2, RG.putM_lev]
end

def blS (g : RG) (q : QG) (t u : Int) (k : Nat) : List (Nat × SV) := [(3, .i t), (4, .i u), (5, .ptr 0 0 4 0), (6, .ptr 1 0 6 0), (11, .b true), (12, .ptr 3 0 4 0), (13, .i (g.aerr q)), (87, MarkG.rs g.nm g.m), (88, .i g.nm), (89, .i k)]
def blR (g : RG) (q : QG) : List (Option Reg) := g.box ++ [q.bx, none, some (.box [.i (g.aL q), .b (g.aO q), .i (g.aS q), .i (g.aN q)])]
theorem with_key {A B : Prop} (h : A → B) (a : A) : B := h a
theorem law13 (g : RG) (q : QG) (m : MarkG) (t u : Int) (hb : g.By) (ha : -9223372036854775808 ≤ t) (hz : t ≤ 9223372036854775807) (ha' : -9223372036854775808 ≤ u) (hz' : u ≤ 9223372036854775807) : Pure Try.prog 13 [g.sv, q.sv, m.sv, .i t, .i u] (· = .b true) := by
  refine pure_of_GC T_ok Try.func13 rfl (by kernel_rfl) (Nat.le_of_ble_eq_true rfl) rfl rfl ?_
  simp [go_sem]
  refine call_val alive24 rfl rfl ?_
  simp [go_sem]
  refine call_val (great16 g) rfl rfl ?_
  generalize hg : g.great = a
  cases a
  rotate_left
  · simp [go_sem]
  have h := OK_of hb hg
  simp [go_sem]
  refine call_val (long25 q) rfl rfl ?_
  by_cases hl : 20 < (q.nk : Int)
  · simp [go_sem, hl]
  have hq : q.OK := by unfold QG.OK; omega
  simp [go_sem, hl]
  refine call_val (answer26 g q h hq) rfl rfl ?_
  have hsm : g.nm ≤ 50 := by
    simp [RG.great] at hg
    omega
  apply with_key (A := ∀ E M nx, slotsS 4 E (blS g q t u 0) → regsS 0 (trimM 4 M) (blR g q) → GLoop Try.prog T 153 _ _ _ E M nx)
  · intro key
    by_cases h0 : g.aerr q = 0
    · simp [go_sem, h0]
      refine call_val (put46 g m h) rfl rfl ?_
      by_cases em : g.mkE m = 0 ∧ ¬ (m.l = q.l ∧ m.p = q.w)
      · obtain ⟨em, hk⟩ := em
        obtain ⟨f1, f2⟩ := RG.blind1 em hk
        simp [RG.rep] at f2
        by_cases k1 : m.l = q.l
        · have k2 : ¬ m.p = q.w := fun h => hk ⟨k1, h⟩
          simp [go_sem, em, k1, k2]
          refine call_val (answer26 _ q (RG.putM_OK h em) hq) rfl rfl ?_
          simp [go_sem, f1, f2, h0]
          exact key _ _ _ (by simp [go_sem, blS, h0]) (by simp [go_sem, blR])
        · simp [go_sem, em, k1]
          refine call_val (answer26 _ q (RG.putM_OK h em) hq) rfl rfl ?_
          simp [go_sem, f1, f2, h0]
          exact key _ _ _ (by simp [go_sem, blS, h0]) (by simp [go_sem, blR])
      · by_cases em' : g.mkE m = 0
        · have hk : m.l = q.l ∧ m.p = q.w := Classical.byContradiction fun h => em ⟨em', h⟩
          simp [go_sem, em', hk.1, hk.2]
          exact key _ _ _ (by simp [go_sem, blS, h0]) (by simp [go_sem, blR])
        · simp [go_sem, em']
          exact key _ _ _ (by simp [go_sem, blS, h0]) (by simp [go_sem, blR])
    by_cases h1 : g.aerr q = 90
    rotate_left
    · simp [go_sem, h0, h1]
    clear h0
    have h0 := h1
    simp [go_sem, h0]
    refine call_val (put46 g m h) rfl rfl ?_
    by_cases em : g.mkE m = 0 ∧ ¬ (m.l = q.l ∧ m.p = q.w)
    · obtain ⟨em, hk⟩ := em
      obtain ⟨f1, f2⟩ := RG.blind1 em hk
      simp [RG.rep] at f2
      by_cases k1 : m.l = q.l
      · have k2 : ¬ m.p = q.w := fun h => hk ⟨k1, h⟩
        simp [go_sem, em, k1, k2]
        refine call_val (answer26 _ q (RG.putM_OK h em) hq) rfl rfl ?_
        simp [go_sem, f1, f2, h0]
        exact key _ _ _ (by simp [go_sem, blS, h0]) (by simp [go_sem, blR])
      · simp [go_sem, em, k1]
        refine call_val (answer26 _ q (RG.putM_OK h em) hq) rfl rfl ?_
        simp [go_sem, f1, f2, h0]
        exact key _ _ _ (by simp [go_sem, blS, h0]) (by simp [go_sem, blR])
    · by_cases em' : g.mkE m = 0
      · have hk : m.l = q.l ∧ m.p = q.w := Classical.byContradiction fun h => em ⟨em', h⟩
        simp [go_sem, em', hk.1, hk.2]
        exact key _ _ _ (by simp [go_sem, blS, h0]) (by simp [go_sem, blR])
      · simp [go_sem, em']
        exact key _ _ _ (by simp [go_sem, blS, h0]) (by simp [go_sem, blR])
  · intro E M nx hE hM
    refine GLoop_s T_ok (α := Nat) (blS g q t u) (fun _ => blR g q) 4 (fun k => k ≤ g.nm) (fun k => g.nm - k) 0 (fun _ => rfl) (by simp) hE hM ?_
    intro k J hi
    by_cases hlt : k < g.nm
    rotate_left
    · simp [go_sem, blS, blR, hlt]
    by_cases e1 : (g.m k).l = q.l
    rotate_left
    · simp [go_sem, blS, blR, hlt, e1]
      exact ⟨by omega, k + 1, by omega, by omega, by simp⟩
    by_cases e2 : (g.m k).p = q.w
    rotate_left
    · simp [go_sem, blS, blR, hlt, e1, e2]
      exact ⟨by omega, k + 1, by omega, by omega, by simp⟩
    by_cases l3 : g.aL q < 3
    rotate_left
    · have l2 : ¬ g.aL q < 2 := by omega
      simp [go_sem, blS, blR, hlt, e1, e2, l3, l2]
      refine call_val (put46 g ⟨q.l, q.w, (g.m k).s, (g.m k).u, (g.m k).n⟩ h) rfl rfl ?_
      by_cases en : g.mkE ⟨q.l, q.w, (g.m k).s, (g.m k).u, (g.m k).n⟩ = 0
      rotate_left
      · simp [go_sem, blS, blR, en]
        exact ⟨by omega, k + 1, by omega, by omega, by simp⟩
      obtain ⟨f1, f2⟩ := RG.blind2 (was := g.m k) (now := ⟨q.l, q.w, (g.m k).s, (g.m k).u, (g.m k).n⟩) ⟨k, hlt, rfl⟩ ⟨e1, e2⟩ ⟨e1.symm, e2.symm⟩ (by simp [onB, e1, e2]) en (fun _ => rfl) (fun _ => rfl)
      simp [RG.rep] at f2
      simp [go_sem, blS, blR, en]
      refine call_val (answer26 _ q (RG.putM_OK h en) hq) rfl rfl ?_
      simp [go_sem, blS, blR, f1, f2]
      exact ⟨by omega, k + 1, by omega, by omega, by simp⟩
    by_cases l2 : g.aL q < 2
    rotate_left
    · simp [go_sem, blS, blR, hlt, e1, e2, l3, l2]
      refine call_val (put46 g ⟨q.l, q.w, (g.m k).s, (g.m k).u, u⟩ h) rfl rfl ?_
      by_cases en : g.mkE ⟨q.l, q.w, (g.m k).s, (g.m k).u, u⟩ = 0
      rotate_left
      · simp [go_sem, blS, blR, en]
        exact ⟨by omega, k + 1, by omega, by omega, by simp⟩
      obtain ⟨f1, f2⟩ := RG.blind2 (was := g.m k) (now := ⟨q.l, q.w, (g.m k).s, (g.m k).u, u⟩) ⟨k, hlt, rfl⟩ ⟨e1, e2⟩ ⟨e1.symm, e2.symm⟩ (by simp [onB, e1, e2]) en (fun _ => rfl) (fun h => by omega)
      simp [RG.rep] at f2
      simp [go_sem, blS, blR, en]
      refine call_val (answer26 _ q (RG.putM_OK h en) hq) rfl rfl ?_
      simp [go_sem, blS, blR, f1, f2]
      exact ⟨by omega, k + 1, by omega, by omega, by simp⟩
    by_cases e3 : (g.m k).s ≤ q.t
    rotate_left
    · simp [go_sem, blS, blR, hlt, e1, e2, l3, l2, e3]
      refine call_val (put46 g ⟨q.l, q.w, (g.m k).s, (g.m k).u, u⟩ h) rfl rfl ?_
      by_cases en : g.mkE ⟨q.l, q.w, (g.m k).s, (g.m k).u, u⟩ = 0
      rotate_left
      · simp [go_sem, blS, blR, en]
        exact ⟨by omega, k + 1, by omega, by omega, by simp⟩
      obtain ⟨f1, f2⟩ := RG.blind2 (was := g.m k) (now := ⟨q.l, q.w, (g.m k).s, (g.m k).u, u⟩) ⟨k, hlt, rfl⟩ ⟨e1, e2⟩ ⟨e1.symm, e2.symm⟩ (by simp [onB, e1, e2]) en (fun _ => rfl) (fun h => by omega)
      simp [RG.rep] at f2
      simp [go_sem, blS, blR, en]
      refine call_val (answer26 _ q (RG.putM_OK h en) hq) rfl rfl ?_
      simp [go_sem, blS, blR, f1, f2]
      exact ⟨by omega, k + 1, by omega, by omega, by simp⟩
    by_cases e4 : t ≤ q.t
    rotate_left
    · simp [go_sem, blS, blR, hlt, e1, e2, l3, l2, e3, e4]
      refine call_val (put46 g ⟨q.l, q.w, (g.m k).s, (g.m k).u, u⟩ h) rfl rfl ?_
      by_cases en : g.mkE ⟨q.l, q.w, (g.m k).s, (g.m k).u, u⟩ = 0
      rotate_left
      · simp [go_sem, blS, blR, en]
        exact ⟨by omega, k + 1, by omega, by omega, by simp⟩
      obtain ⟨f1, f2⟩ := RG.blind2 (was := g.m k) (now := ⟨q.l, q.w, (g.m k).s, (g.m k).u, u⟩) ⟨k, hlt, rfl⟩ ⟨e1, e2⟩ ⟨e1.symm, e2.symm⟩ (by simp [onB, e1, e2]) en (fun _ => rfl) (fun h => by omega)
      simp [RG.rep] at f2
      simp [go_sem, blS, blR, en]
      refine call_val (answer26 _ q (RG.putM_OK h en) hq) rfl rfl ?_
      simp [go_sem, blS, blR, f1, f2]
      exact ⟨by omega, k + 1, by omega, by omega, by simp⟩
    simp [go_sem, blS, blR, hlt, e1, e2, l3, l2, e3, e4]
    refine call_val (put46 g ⟨q.l, q.w, t, (g.m k).u, u⟩ h) rfl rfl ?_
    by_cases en : g.mkE ⟨q.l, q.w, t, (g.m k).u, u⟩ = 0
    rotate_left
    · simp [go_sem, blS, blR, en]
      exact ⟨by omega, k + 1, by omega, by omega, by simp⟩
    obtain ⟨f1, f2⟩ := RG.blind2 (was := g.m k) (now := ⟨q.l, q.w, t, (g.m k).u, u⟩) ⟨k, hlt, rfl⟩ ⟨e1, e2⟩ ⟨e1.symm, e2.symm⟩ (by simp [onB, e1, e2, e3, e4]) en (fun h => by omega) (fun h => by omega)
    simp [RG.rep] at f2
    simp [go_sem, blS, blR, en]
    refine call_val (answer26 _ q (RG.putM_OK h en) hq) rfl rfl ?_
    simp [go_sem, blS, blR, f1, f2]
    exact ⟨by omega, k + 1, by omega, by omega, by simp⟩
end Go.Gx
