/-
  Contracts: which rules apply.
-/
import Derived.Test.YtaggojedpkddjaaGreatRi
set_option linter.unusedVariables false
set_option linter.unusedSimpArgs false
set_option maxRecDepth 20000
set_option maxHeartbeats 2000000
namespace Go.Gx.Rg
open Go.RowKit Go.Proofs Go.Proofs.YtaggojedpkddjaaGreat

abbrev QG.bx (q : QG) : Option Reg := some (.box [.i q.p, .i q.r, .i q.l, .i q.w, .i q.t, q.ks])
abbrev basesBox : Option Reg := some (.box [.r (.v .nilFunc), .fn (.func 92) [] [], .fn (.func 94) [] [], .fn (.func 96) [] []])
def RG.apq (g : RG) (q : QG) : List Nat := if ask g q = 0 then g.apl q g.nr else []
theorem ask_valid {g : RG} {q : QG} (h : ask g q = 0) : g.valid = true ∧ q.err = 0 := by
  unfold ask at h
  split at h
  · exact ⟨by assumption, h⟩
  · omega
theorem btw_sub {f t x : Int} : btw f (t - 1) x = (decide (f ≤ x) && decide (x < t)) := by
  unfold btw; congr 2; exact propext (by omega)

theorem RG.small {g : RG} (h : g.valid = true) : g.nr ≤ 20 ∧ g.nc ≤ 40 ∧ g.nw ≤ 20 ∧ g.nm ≤ 40 := by
  simp only [RG.valid, RG.c1, RG.c2, RG.c3, RG.c4, Bool.and_eq_true, decide_eq_true_eq] at h
  omega
theorem natRow_app {l : List Nat} {k i : Nat} {h : Nat → Nat → SV} (hh : h 0 0 = .i (k : Int)) (hi : i < l.length + 1) : joined l.length 1 (fun i j => .r (rowsL natRow l i j)) h i 0 = .r (rowsL natRow (l ++ [k]) i 0) :=
  joined_rowsL (k := 1) rfl (by omega) (fun j hj => by obtain rfl : j = 0 := by omega
                                                       exact hh) hi

theorem applies81 (g : RG) (q : QG) (h : g.OK) (hq : q.OK) : Pure Tryz.prog 26 [g.sv, q.sv] (· = .tup [natS (g.apq q), .i (ask g q)]) := by
  refine Pure.ofSub ?_
  refine pure_of_GC T_ok Tryz.func26 rfl (by kernel_rfl) (Nat.le_of_ble_eq_true rfl) rfl rfl ?_
  have hr := h.nr
  simp [go_sem]
  refine call_val (check28 g h) rfl rfl ?_
  by_cases hv : g.valid = true
  rotate_left
  · have ha : ask g q = 8 := by unfold ask; rw [if_neg hv]
    simp [go_sem, hv]
    simp [RG.apq, ha]
  have ha : ask g q = q.err := by unfold ask; rw [if_pos hv]
  have hm := RG.mid hv
  have hsm := (RG.small hv).1
  simp [go_sem, hv]
  refine call_val (checkQuery40 q hq) rfl rfl ?_
  by_cases he : q.err = 0
  rotate_left
  · simp [go_sem, he]
    simp [RG.apq, ha, he]
  simp [go_sem, he]
  refine call_val bases126 rfl rfl ?_
  simp [go_sem]
  refine GLoop_pre (GSt.adopt 8 3 1 (fun i j => .r (rowsL natRow [] i j)) (by simp [go_sem])) ?_
  refine GLoop_s T_ok (α := Nat) (fun k => [(2, .ptr 0 0 4 0), (3, .ptr 1 0 6 0), (7, .ptr 2 0 4 0), (8, .sl 3 1 0 (g.apl q k).length none), (23, RuleG.rs g.nr g.r), (24, .i g.nr), (25, .i k)])
    (fun k => g.box ++ [q.bx, basesBox, some (.vec 3 1 (g.apl q k).length fun i j => .r ((rowsL natRow (g.apl q k)) i j))]) 4 (fun k => k ≤ g.nr) (fun k => g.nr - k) 0 (fun _ => rfl) (by simp) (by simp [go_sem, show g.apl q 0 = [] from rfl]) (by simp [go_sem, show g.apl q 0 = [] from rfl]) ?_
  intro k J hi
  simp [go_sem]
  split
  rotate_left
  · rename_i hge
    have hk : k = g.nr := by omega
    subst hk
    simp [RG.apq, ha, he]
  rename_i hlt
  refine ⟨hlt, ?_⟩
  have hmk := hm.rt k hlt
  have hal := RG.apl_len g q k
  have no : ruleB g q (g.r k) = false → k + 1 ≤ g.nr ∧ g.nr - (k + 1) < g.nr - k ∧ g.apl q (k + 1) = g.apl q k := fun h => ⟨by omega, by omega, RG.apl_no h⟩
  have yes : ruleB g q (g.r k) = true → k + 1 ≤ g.nr ∧ g.nr - (k + 1) < g.nr - k ∧ g.apl q (k + 1) = g.apl q k ++ [k] := fun h => ⟨by omega, by omega, RG.apl_yes h⟩
  by_cases e1 : (g.r k).p = q.p
  rotate_left
  · have hn := no (by simp [ruleB, e1])
    simp [go_sem, e1]
    refine GDraw_all T_ok (by kernel_rfl) (by kernel_rfl) ?_
    simp [go_sem]
    exact ⟨by omega, k + 1, hn.1, hn.2.1, by simp [hn.2.2], by simp [hn.2.2]⟩
  by_cases e2 : (g.r k).r = q.r
  rotate_left
  · have hn := no (by simp [ruleB, e1, e2])
    simp [go_sem, e1, e2]
    refine GDraw_all T_ok (by kernel_rfl) (by kernel_rfl) ?_
    simp [go_sem]
    exact ⟨by omega, k + 1, hn.1, hn.2.1, by simp [hn.2.2], by simp [hn.2.2]⟩
  by_cases e3 : (g.r k).l = q.l
  rotate_left
  · have hn := no (by simp [ruleB, e1, e2, e3])
    simp [go_sem, e1, e2, e3]
    refine GDraw_all T_ok (by kernel_rfl) (by kernel_rfl) ?_
    simp [go_sem]
    exact ⟨by omega, k + 1, hn.1, hn.2.1, by simp [hn.2.2], by simp [hn.2.2]⟩
  simp [go_sem, e1, e2, e3]
  refine GDraw_all T_ok (by kernel_rfl) (by kernel_rfl) ?_
  simp [go_sem]
  refine ⟨by omega, _, dcall_deep (v := .b (btw (g.r k).f ((g.r k).t - 1) q.t)) (by simp [go_sem]; exact in69 rfl) rfl, ?_⟩
  generalize hb : btw (g.r k).f ((g.r k).t - 1) q.t = b
  rw [btw_sub] at hb
  cases b
  · have hn := no (by
      simp only [ruleB]
      rw [show (decide ((g.r k).p = q.p) && decide ((g.r k).r = q.r) && decide ((g.r k).l = q.l) && decide ((g.r k).f ≤ q.t) && decide (q.t < (g.r k).t)) = (decide ((g.r k).p = q.p) && decide ((g.r k).r = q.r) && decide ((g.r k).l = q.l) && (decide ((g.r k).f ≤ q.t) && decide (q.t < (g.r k).t))) from by simp [Bool.and_assoc], hb]
      simp)
    simp [go_sem]
    exact ⟨by omega, k + 1, hn.1, hn.2.1, by simp [hn.2.2], by simp [hn.2.2]⟩
  simp only [Bool.and_eq_true, decide_eq_true_eq] at hb
  obtain ⟨e4, e5⟩ := hb
  by_cases e6 : (g.r k).k ≤ q.nk
  rotate_left
  · have hn := no (by simp [ruleB, e1, e2, e3, e4, e5, e6])
    simp [go_sem, e6]
    exact ⟨by omega, k + 1, hn.1, hn.2.1, by simp [hn.2.2], by simp [hn.2.2]⟩
  have hrb : ruleB g q (g.r k) = based g q (g.r k).b := by simp [ruleB, e1, e2, e3, e4, e5, e6]
  rcases (by omega : (g.r k).b = 1 ∨ (g.r k).b = 2 ∨ (g.r k).b = 3) with e7 | e7 | e7
  · simp [go_sem, e6, e7]
    refine ⟨_, dcall_val (bases136 g q h) rfl rfl, ?_⟩
    generalize hb : g.hasC q = b
    have hbs : based g q (g.r k).b = b := by simp [based, e7, hb]
    cases b
    · have hn := no (hrb.trans hbs)
      simp [go_sem]
      exact ⟨by omega, k + 1, hn.1, hn.2.1, by simp [hn.2.2], by simp [hn.2.2]⟩
    · have hn := yes (hrb.trans hbs)
      simp [go_sem]
      refine ⟨⟨by omega, by omega⟩, by omega, k + 1, hn.1, hn.2.1, by simp [hn.2.2], by simp [hn.2.2], fun i hi => ?_⟩
      rw [hn.2.2] at hi ⊢
      rw [natRow_app (k := k) rfl (by simp at hi; omega)]; rfl
  · simp [go_sem, e6, e7]
    refine ⟨_, dcall_val (bases138 g q h hm) rfl rfl, ?_⟩
    generalize hb : g.hasW q = b
    have hbs : based g q (g.r k).b = b := by simp [based, e7, hb]
    cases b
    · have hn := no (hrb.trans hbs)
      simp [go_sem]
      exact ⟨by omega, k + 1, hn.1, hn.2.1, by simp [hn.2.2], by simp [hn.2.2]⟩
    · have hn := yes (hrb.trans hbs)
      simp [go_sem]
      refine ⟨⟨by omega, by omega⟩, by omega, k + 1, hn.1, hn.2.1, by simp [hn.2.2], by simp [hn.2.2], fun i hi => ?_⟩
      rw [hn.2.2] at hi ⊢
      rw [natRow_app (k := k) rfl (by simp at hi; omega)]; rfl
  · simp [go_sem, e6, e7]
    refine ⟨_, dcall_val (bases140 g q) rfl rfl, ?_⟩
    have hn := yes (hrb.trans (by simp [based, e7]))
    simp [go_sem]
    refine ⟨⟨by omega, by omega⟩, by omega, k + 1, hn.1, hn.2.1, by simp [hn.2.2], by simp [hn.2.2], fun i hi => ?_⟩
    rw [hn.2.2] at hi ⊢
    rw [natRow_app (k := k) rfl (by simp at hi; omega)]; rfl
end Go.Gx.Rg
