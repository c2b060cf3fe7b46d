/-
  The reference: what is reached from a record.
-/
import Derived.Test.YtnajladibkpeaaaEb
set_option linter.unusedVariables false
set_option linter.unusedSimpArgs false
set_option maxRecDepth 20000
set_option maxHeartbeats 4000000
namespace Go.Gx
open Go.RowKit Go.Proofs Go.Proofs.Ytnajladibkpeaaa

theorem Fit.of_regs {N : Cfg} {E : Env} {M : Mem} {nx : Nat} {S : List (Nat × SV)} {l : List (Option Reg)} {n : Nat} (hn : N.np ≤ n) (hl : l.length = n) (h : slotsS n E S) (hM : regsS 0 (trimM n M) l) : Fit N E M nx S (memL l) n :=
  Fit.of_slotsS hn h (regsS_memL hl hM)
@[go_sem] theorem SV.trim_ite (n : Nat) (c : Prop) [Decidable c] (x y : SV) : SV.trim n (if c then x else y) = if c then x.trim n else y.trim n := by split <;> rfl
@[go_sem] theorem SV.kill_ite (n : Nat) (c : Prop) [Decidable c] (x y : SV) : SV.kill n (if c then x else y) = if c then x.kill n else y.kill n := by split <;> rfl
@[go_sem] theorem SV.toRV_ite (c : Prop) [Decidable c] (x y : SV) : (if c then x else y).toRV = if c then x.toRV else y.toRV := by split <;> rfl
/-- Link j touches what has been reached, and record x. -/
def EG.hit (g : EG) (S : Nat → Bool) (x j : Nat) : Bool := (g.l j).s && (S (g.l j).a.toNat || S (g.l j).b.toNat) && (decide ((g.l j).a = (x : Int)) || decide ((g.l j).b = (x : Int)))
def EG.rpart (g : EG) (S : Nat → Bool) (i x : Nat) : Bool := S x || (List.range i).any (g.hit S x)
def EG.rc (g : EG) (a : Int) : Nat → Nat → Bool
  | 0, x => decide (a = (x : Int))
  | n + 1, x => g.rpart (g.rc a n) g.nl x
/-- The links' records are records. -/
def EG.inl (g : EG) : Prop := ∀ i, i < g.nl → 0 ≤ (g.l i).a ∧ (g.l i).a < g.nr ∧ 0 ≤ (g.l i).b ∧ (g.l i).b < g.nr
abbrev EG.rcs (g : EG) (a : Int) (k : Nat) : SV := .r (.rs 1 g.nr fun i _ => .v (.bool (g.rc a k i)))
theorem rpart_succ (g : EG) (S : Nat → Bool) (i x : Nat) : g.rpart S (i + 1) x = (g.rpart S i x || g.hit S x i) := by
  simp [EG.rpart, List.range_succ, Bool.or_assoc]

theorem reached107 (g : EG) (h : g.OK) (hl : g.inl) (a n : Int) (h0 : 0 ≤ a) (h1 : a < g.nr) (hn : n ≤ 1000000000) : Pure Try.prog 107 [g.sv, .i a, .i n] (· = g.rcs a n.toNat) := by
  refine Pure.ofSub ?_
  refine pure_of_GC T_ok Try.func107 rfl (by kernel_rfl) (Nat.le_of_ble_eq_true rfl) rfl rfl ?_
  have := h.nr
  have := h.nl
  simp [go_sem]
  refine ⟨by omega, ⟨h0, h1⟩, by omega, ?_⟩
  refine GLoop_pre (GSt.freeze 1 rfl) ?_
  refine GLoop_fit T_ok (α := Nat) (fun k => [(1, .i a), (2, .i n), (3, .ptr 0 0 3 0), (7, g.rcs a k), (8, .i k)]) (fun _ => memL [g.bx]) 1 (fun k => k ≤ n.toNat) (fun k => n.toNat - k) 0 (by simp) ?_ ?_
  · refine Fit.of_regs (by decide) rfl ?_ (by simp [go_sem])
    simp [go_sem]
    intro i hi
    by_cases e : i = a.toNat
    · rw [if_pos e]
      exact congrArg (fun b => RV.v (.bool b)) (decide_eq_true (by omega)).symm
    · rw [if_neg e]
      exact congrArg (fun b => RV.v (.bool b)) (decide_eq_false (by omega)).symm
  intro k J hi
  by_cases hlt : (k : Int) < n
  rotate_left
  · have hk : n.toNat = k := by omega
    rw [hk]
    simp [go_sem, hlt]
  simp [go_sem, hlt]
  refine ⟨⟨by omega, by omega⟩, ?_⟩
  refine GLoop_s T_ok (α := Nat) (fun i => [(1, .i a), (2, .i n), (3, .ptr 0 0 3 0), (7, g.rcs a k), (8, .i k), (9, .sl 1 1 0 g.nr none), (10, .i i)])
    (fun i => [g.bx, some (.vec 4 1 g.nr fun x _ => .b (g.rpart (g.rc a k) i x))]) 2 (fun i => i ≤ g.nl) (fun i => g.nl - i) 0 (fun _ => rfl) (by simp) (by simp [go_sem]) ?_ ?_
  · simp [go_sem]
    intro i hi
    simp [joined, go_sem, hi, EG.rpart]
  intro i J2 hi2
  have nohit : (∀ x, x < g.nr → g.hit (g.rc a k) x i = false) → ∀ x, x < g.nr → g.rpart (g.rc a k) i x = g.rpart (g.rc a k) (i + 1) x := fun hh x hx => by rw [rpart_succ, hh x hx, Bool.or_false]
  by_cases hli : i < g.nl
  rotate_left
  · simp [go_sem, hli]
    refine ⟨by omega, k + 1, by omega, by omega, Fit.vw (GSt.freeze 1 rfl) (Fit.of_regs (by decide) rfl ?_ (by simp [go_sem]))⟩
    have : i = g.nl := by omega
    subst this
    simp [go_sem]
    exact fun _ _ => rfl
  obtain ⟨q1, q2, q3, q4⟩ := hl i hli
  by_cases hs : (g.l i).s = true
  rotate_left
  · have hs' : (g.l i).s = false := by simpa using hs
    simp [go_sem, hli, hs']
    exact ⟨by omega, i + 1, by omega, by omega, by omega, nohit fun x _ => by simp [EG.hit, hs']⟩
  have hitting : (g.rc a k (g.l i).a.toNat || g.rc a k (g.l i).b.toNat) = true → ∀ x, x < g.nr → (if x = (g.l i).b.toNat then SV.r (RV.v (Value.bool true)) else if x = (g.l i).a.toNat then SV.r (RV.v (Value.bool true)) else SV.b (g.rpart (g.rc a k) i x)) = SV.b (g.rpart (g.rc a k) (i + 1) x) := fun hh x hx => by
    have e1 : x = (g.l i).b.toNat ↔ (g.l i).b = (x : Int) := by omega
    have e2 : x = (g.l i).a.toNat ↔ (g.l i).a = (x : Int) := by omega
    rw [rpart_succ]
    simp only [e1, e2]
    by_cases c1 : (g.l i).b = (x : Int)
    · have ht : g.hit (g.rc a k) x i = true := by
        unfold EG.hit
        rw [hh, hs, decide_eq_true c1]; simp
      rw [ht, Bool.or_true, if_pos c1]
    · by_cases c2 : (g.l i).a = (x : Int)
      · have ht : g.hit (g.rc a k) x i = true := by
          unfold EG.hit
          rw [hh, hs, decide_eq_true c2]; simp
        rw [ht, Bool.or_true, if_neg c1, if_pos c2]
      · simp [c1, c2, EG.hit]
  by_cases ha : g.rc a k (g.l i).a.toNat = true
  · simp [go_sem, hli, hs, ha, q1, q2, q3, q4]
    exact ⟨by omega, i + 1, by omega, by omega, by omega, hitting (by simp [ha])⟩
  · by_cases hb : g.rc a k (g.l i).b.toNat = true
    · simp [go_sem, hli, hs, ha, hb, q1, q2, q3, q4]
      exact ⟨by omega, i + 1, by omega, by omega, by omega, hitting (by simp [hb])⟩
    · simp [go_sem, hli, hs, ha, hb, q1, q2, q3, q4]
      exact ⟨by omega, i + 1, by omega, by omega, by omega, nohit fun x _ => by simp [EG.hit, ha, hb]⟩

/-- Two records are one person. -/
def EG.one (g : EG) (a b : Int) : Bool := g.rc a g.nr b.toNat
theorem one106 (g : EG) (h : g.OK) (hl : g.inl) (a b : Int) (h0 : 0 ≤ a) (h1 : a < g.nr) (h2 : 0 ≤ b) (h3 : b < g.nr) : Pure Try.prog 106 [g.sv, .i a, .i b] (· = .b (g.one a b)) := by
  refine pure_of_GC T_ok Try.func106 rfl (by kernel_rfl) (Nat.le_of_ble_eq_true rfl) rfl rfl ?_
  have := h.nr
  simp [go_sem]
  refine call_val (reached107 g h hl a g.nr h0 h1 (by omega)) rfl rfl ?_
  simp [go_sem, h2, h3]
  rfl
/-- The register is valid. -/
def EG.valid (g : EG) : Bool := decide (g.nr ≤ 24) && ((List.range g.nr).all fun i => btw 0 100 (g.r i).q) && g.lks && g.css && (List.range g.nl).all fun i => (g.l i).s || !g.one (g.l i).a (g.l i).b
theorem EG.inl_of {g : EG} (h : g.lks = true) : g.inl := fun i hi => by
  have := all_get h hi
  simp only [EG.lk1, EG.prB, Bool.and_eq_true] at this
  have h1 := EG.th_iff.1 this.1.1.1
  have h2 := EG.th_iff.1 this.1.1.2
  exact ⟨h1.1, h1.2.1, h2.1, h2.2.1⟩
theorem valid49 (g : EG) (h : g.OK) : Pure Try.prog 49 [g.sv] (· = .b g.valid) := by
  refine pure_of_GC T_ok Try.func49 rfl (by kernel_rfl) (Nat.le_of_ble_eq_true rfl) rfl rfl ?_
  have := h.nr
  have := h.nl
  by_cases h24 : 24 < g.nr
  · have h24' : 24 < (g.nr : Int) := by omega
    simp [go_sem, h24', EG.valid]
    omega
  have h24' : ¬ 24 < (g.nr : Int) := by omega
  have h24b : decide (g.nr ≤ 24) = true := decide_eq_true (by omega)
  simp [go_sem, h24']
  refine GLoop_of T_ok (α := Nat) (fun k => [(1, .ptr 0 0 3 0), (3, .i k)]) (fun _ => [g.bx]) 1 (fun k => k ≤ g.nr ∧ ∀ j, j < k → btw 0 100 (g.r j).q = true) (fun k => g.nr - k) 0 (fun _ => rfl) (by simp) (by simp [go_sem]) (by simp [go_sem]) ?_
  intro k J hi
  by_cases hlt : k < g.nr
  · simp [go_sem, hlt]
    by_cases hb : btw 0 100 (g.r k).q = true
    · refine call_val ((within62 (g.r k).q 0 100).val (v' := .b true) (by rw [hb])) rfl rfl ?_
      simp [go_sem]
      refine ⟨by omega, k + 1, ⟨by omega, fun j hj => ?_⟩, by omega, by omega⟩
      by_cases hjk : j = k
      · subst hjk; exact hb
      · exact hi.2 j (by omega)
    · have hb' : btw 0 100 (g.r k).q = false := by simpa using hb
      refine call_val ((within62 (g.r k).q 0 100).val (v' := .b false) (by rw [hb'])) rfl rfl ?_
      simp [go_sem]
      simp [EG.valid, all_no (p := fun i => btw 0 100 (g.r i).q) hlt hb']
  have hq : ((List.range g.nr).all fun i => btw 0 100 (g.r i).q) = true := all_yes fun j hj => hi.2 j (by omega)
  have hk : k = g.nr := by omega
  subst hk
  simp [go_sem]
  by_cases hlk : g.lks = true
  rotate_left
  · have hlk' : g.lks = false := by simpa using hlk
    refine call_val ((links104 g h).val (v' := .b false) (by rw [hlk'])) rfl rfl ?_
    simp [go_sem]
    simp [EG.valid, hlk']
  refine call_val ((links104 g h).val (v' := .b true) (by rw [hlk])) rfl rfl ?_
  simp [go_sem]
  by_cases hcs : g.css = true
  rotate_left
  · have hcs' : g.css = false := by simpa using hcs
    refine call_val ((cases105 g h).val (v' := .b false) (by rw [hcs'])) rfl rfl ?_
    simp [go_sem]
    simp [EG.valid, hcs']
  refine call_val ((cases105 g h).val (v' := .b true) (by rw [hcs])) rfl rfl ?_
  simp [go_sem]
  have hin := EG.inl_of hlk
  refine GLoop_of T_ok (α := Nat) (fun k => [(1, .ptr 0 0 3 0), (4, .i k)]) (fun _ => [g.bx]) 1 (fun k => k ≤ g.nl ∧ ∀ j, j < k → ((g.l j).s || !g.one (g.l j).a (g.l j).b) = true) (fun k => g.nl - k) 0 (fun _ => rfl) (by simp) (by simp [go_sem]) (by simp [go_sem]) ?_
  clear hi hlt
  intro k J2 hi
  by_cases hlt : k < g.nl
  · have step : ((g.l k).s || !g.one (g.l k).a (g.l k).b) = true → (k + 1 ≤ g.nl ∧ ∀ j, j < k + 1 → ((g.l j).s || !g.one (g.l j).a (g.l j).b) = true) := fun ht => ⟨by omega, fun j hj => by
      by_cases hjk : j = k
      · subst hjk; exact ht
      · exact hi.2 j (by omega)⟩
    obtain ⟨q1, q2, q3, q4⟩ := hin k hlt
    by_cases hs : (g.l k).s = true
    · have step := step (by simp [hs])
      simp [go_sem, hlt]
      refine GDraw_all T_ok (by kernel_rfl) (by kernel_rfl) ?_
      simp [go_sem, hlt, hs]
      exact ⟨by omega, k + 1, by simpa using step, by omega, by omega⟩
    · have hs' : (g.l k).s = false := by simpa using hs
      by_cases ho : g.one (g.l k).a (g.l k).b = true
      · simp [go_sem, hlt]
        refine GDraw_all T_ok (by kernel_rfl) (by kernel_rfl) ?_
        simp [go_sem, hlt, hs']
        refine ⟨_, dcall_val ((one106 g h hin _ _ q1 q2 q3 q4).val (v' := .b true) (by rw [ho])) rfl rfl, ?_⟩
        simp [go_sem]
        simp only [EG.valid]
        rw [all_no (p := fun i => (g.l i).s || !g.one (g.l i).a (g.l i).b) hlt (by simp [hs', ho])]
        simp
      · have ho' : g.one (g.l k).a (g.l k).b = false := by simpa using ho
        have step := step (by simp [ho'])
        simp [go_sem, hlt]
        refine GDraw_all T_ok (by kernel_rfl) (by kernel_rfl) ?_
        simp [go_sem, hlt, hs']
        refine ⟨_, dcall_val ((one106 g h hin _ _ q1 q2 q3 q4).val (v' := .b false) (by rw [ho'])) rfl rfl, ?_⟩
        simp [go_sem]
        exact ⟨by omega, k + 1, by simpa using step, by omega, by omega⟩
  · simp [go_sem, hlt]
    simp only [EG.valid, h24b, hq, hlk, hcs]
    rw [all_yes (p := fun i => (g.l i).s || !g.one (g.l i).a (g.l i).b) fun j hj => hi.2 j (by omega)]
    rfl
end Go.Gx
