/-
  Plain facts for the statements on less, one, order and keeping.
-/
import Derived.Test.YtnajladibkpeaaaGreatW8
import Derived.Test.YtnajladibkpeaaaGreatW7
set_option linter.unusedVariables false
set_option linter.unusedSimpArgs false
set_option maxRecDepth 20000
set_option maxHeartbeats 4000000
namespace Go.Gx
open Go.RowKit Go.Proofs Go.Proofs.YtnajladibkpeaaaGreat

theorem EG.joB_valid {g : EG} {a b : Int} (h : g.joB a b = true) : g.valid = true := by
  unfold EG.joB at h
  simp only [Bool.and_eq_true] at h
  exact h.1.1.1
/-! ### less -/
theorem EG.wdE_zero {g : EG} {a b : Int} (h : g.wdE a b = 0) : g.valid = true ∧ g.lin (min a b) (max a b) = true := by
  unfold EG.wdE at h
  split at h
  · cases h
  rename_i h1
  split at h
  · cases h
  rename_i h2
  exact ⟨by simpa using h1, by simpa using h2⟩
theorem EG.remE_zero {g : EG} {a : Int} (h : g.remE a = 0) : g.valid = true ∧ g.th a = true := by
  unfold EG.remE at h
  split at h
  · cases h
  rename_i h1
  split at h
  · cases h
  rename_i h2
  exact ⟨by simpa using h1, by simpa using h2⟩
theorem EG.less_wd {g : EG} {a b c d : Int} (h : g.wdE a b = 0) (hj : (g.wdX a b).joB c d = true) : g.joB c d = true := by
  obtain ⟨hv, _⟩ := EG.wdE_zero h
  unfold EG.wdX at hj
  rw [if_pos h] at hj
  have hx := (EG.joB_iff (EG.joB_valid hj)).1 hj
  exact (EG.joB_iff hv).2 ⟨hx.1, hx.2.1, con_dropL hx.2.2⟩
theorem EG.th_rem {g : EG} {a : Nat} {x : Int} : (g.remG a).th x = true ↔ g.th x = true ∧ ¬ x = a := by
  rw [EG.th_iff, EG.th_iff]
  show 0 ≤ x ∧ x < g.nr ∧ (if x.toNat = a then (⟨0, true⟩ : RcG) else g.r x.toNat).g = false ↔ _
  constructor
  · rintro ⟨h1, h2, h3⟩
    split at h3
    · cases h3
    · exact ⟨⟨h1, h2, h3⟩, by omega⟩
  · rintro ⟨⟨h1, h2, h3⟩, h4⟩
    rw [if_neg (by omega)]
    exact ⟨h1, h2, h3⟩
theorem con_remG {g : EG} {a : Nat} {x y : Int} (h : (g.remG a).Con (g.remG a).nl x y) : g.Con g.nl x y :=
  h.map fun x y ⟨j, h1, h2, h3⟩ => ⟨_, (kept_at (p := g.lp a) h1).1, h2, h3⟩
theorem EG.less_rem {g : EG} {a c d : Int} (h : g.remE a = 0) : ((g.remX a).joB c d = true → g.joB c d = true) ∧ (g.remX a).joB a a = false := by
  obtain ⟨hv, ht⟩ := EG.remE_zero h
  unfold EG.remX
  rw [if_pos h]
  have ha := EG.th_iff.1 ht
  constructor
  · intro hj
    have hx := (EG.joB_iff (EG.joB_valid hj)).1 hj
    exact (EG.joB_iff hv).2 ⟨(EG.th_rem.1 hx.1).1, (EG.th_rem.1 hx.2.1).1, con_remG hx.2.2⟩
  · cases hj : (g.remG a.toNat).joB a a with
    | false => rfl
    | true =>
      have hx := (EG.joB_iff (EG.joB_valid hj)).1 hj
      exact absurd (by omega) (EG.th_rem.1 hx.1).2
/-! ### one -/
theorem EG.far_q {g : EG} (hv : g.valid = true) {a b : Nat} (ha : g.th a = true) (hb : g.th b = true) : g.pm g.nl a = g.pm g.nl b ↔ 0 ≤ g.far a b := by
  have ia := EG.th_iff.1 ha
  have hl := EG.valid_inl hv
  constructor
  · intro hq
    obtain ⟨n, _, _, hn, _⟩ := EG.far_ex hl (by omega) ((EG.rc_iff hl ia.1 ia.2.1 (x := b)).2 hq)
    omega
  · intro hf
    have h1 : g.far a b = ((g.far a b).toNat : Int) := by omega
    exact EG.con_iff.1 (EG.rc_con hl (EG.far_rc h1).1)
/-- The first link that tells two people apart. -/
theorem EG.ap_ok {g : EG} (hv : g.valid = true) {a b : Int} (h : 0 ≤ g.ap a b) : ∃ j : Nat, g.ap a b = j ∧ j < g.nl ∧ (g.l j).s = false ∧ ¬ g.pm g.nl a = g.pm g.nl b ∧
    (g.pm g.nl (g.l j).a = g.pm g.nl a ∧ g.pm g.nl (g.l j).b = g.pm g.nl b ∨ g.pm g.nl (g.l j).a = g.pm g.nl b ∧ g.pm g.nl (g.l j).b = g.pm g.nl a) := by
  unfold EG.ap at h ⊢
  rcases ixB_cases (g.apB a b) g.nl with ⟨h1, _⟩ | ⟨i, hi, hp, _, h1⟩
  · rw [h1] at h; omega
  refine ⟨i, h1, hi, ?_⟩
  simp only [EG.apB, Bool.and_eq_true, Bool.not_eq_true', decide_eq_true_eq] at hp
  have h2 := (EG.val_iff.1 hv).ld i hi hp.1
  have h3 : ¬ g.pm g.nl (g.l i).a = g.pm g.nl (g.l i).b := fun e => h2 (EG.con_iff.2 e)
  have e1 : min (g.pm g.nl (g.l i).a) (g.pm g.nl (g.l i).b) = min (g.pm g.nl a) (g.pm g.nl b) := hp.2.1
  have e2 : max (g.pm g.nl (g.l i).a) (g.pm g.nl (g.l i).b) = max (g.pm g.nl a) (g.pm g.nl b) := hp.2.2
  refine ⟨hp.1, ?_, ?_⟩
  · omega
  · omega
def EG.fnl (g : EG) (a b : Int) : Int := ixB (fun i => decide ((g.l i).a = min a b) && decide ((g.l i).b = max a b)) g.nl
theorem EG.fnl_at {g : EG} (h : g.Val) {j : Nat} (hj : j < g.nl) {a b : Int} (ha : (g.l j).a = min a b) (hb : (g.l j).b = max a b) : g.fnl a b = j := by
  refine ixB_at hj (by simp [ha, hb]) fun i hi => ?_
  cases hc : (decide ((g.l i).a = min a b) && decide ((g.l i).b = max a b)) with
  | false => rfl
  | true =>
    simp only [Bool.and_eq_true, decide_eq_true_eq] at hc
    have := h.ls.ne (i := i) (j := j) (by omega) hj (by show (g.l i).a = (g.l j).a; omega) (by show (g.l i).b = (g.l j).b; omega)
    omega
theorem EG.fnl_no {g : EG} {a b : Int} (h : ∀ j, j < g.nl → ¬ ((g.l j).a = min a b ∧ (g.l j).b = max a b)) : g.fnl a b = -1 := by
  refine ixB_no fun i hi => ?_
  have := h i hi
  cases hc : (decide ((g.l i).a = min a b) && decide ((g.l i).b = max a b)) with
  | false => rfl
  | true =>
    simp only [Bool.and_eq_true, decide_eq_true_eq] at hc
    exact absurd hc this
/-- Two records that a link says are the same. -/
theorem EG.fnl_adj {g : EG} (h : g.Val) {x y : Int} (ha : g.adj g.nl x y) : ∃ j : Nat, g.fnl x y = j ∧ j < g.nl ∧ (g.l j).s = true := by
  obtain ⟨j, h1, h2, h3⟩ := ha
  have := (h.lp j h1).2.2
  refine ⟨j, EG.fnl_at h h1 ?_ ?_, h1, h2⟩ <;> omega
theorem EG.cu_adj {g : EG} (hl : g.inl) {a b n : Nat} (ha : a < g.nr) (h : g.far a b = n) {k : Nat} (hk : k < n) : g.adj g.nl (g.cu b a k) (g.cu b a (k + 1)) := by
  obtain ⟨h1, h2⟩ := EG.cu_ok hl ha h k (by omega)
  have h3 : g.far (g.cu b a k) b = ((n - k - 1) + 1 : Nat) := by rw [h2]; omega
  exact EG.lk_iff.1 (EG.nx_ok hl h1 h3).2.2.1
end Go.Gx
