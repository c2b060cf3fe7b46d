/-
  Law: RightsGrow.
-/
import Derived.Test.YtaggojedpkddjaaSv
import Derived.Test.YtaggojedpkddjaaRq
set_option linter.unusedVariables false
set_option linter.unusedSimpArgs false
set_option maxRecDepth 20000
set_option maxHeartbeats 2000000
namespace Go.Gx.Rg
open Go.RowKit Go.Proofs Go.Proofs.Ytaggojedpkddjaa

def RG.addR (g : RG) (x : RuleG) : RG := { g with nr := g.nr + 1, r := fun i => if i < g.nr then g.r i else x }
def RG.addW (g : RG) (x : WarG) : RG := { g with nw := g.nw + 1, w := fun i => if i < g.nw then g.w i else x }
theorem RG.addR_in {g : RG} {x a : RuleG} : (g.addR x).InR a ↔ a = x ∨ g.InR a := by
  constructor
  · rintro ⟨i, hi, rfl⟩
    by_cases h : i < g.nr
    · exact .inr ⟨i, h, by simp [RG.addR, h]⟩
    · exact .inl (by simp [RG.addR, h])
  · rintro (rfl | ⟨i, hi, rfl⟩)
    · exact ⟨g.nr, by simp [RG.addR], by simp [RG.addR]⟩
    · exact ⟨i, by simp only [RG.addR]; omega, by simp [RG.addR, hi]⟩
theorem RG.addW_in {g : RG} {x a : WarG} : (g.addW x).InW a ↔ a = x ∨ g.InW a := by
  constructor
  · rintro ⟨i, hi, rfl⟩
    by_cases h : i < g.nw
    · exact .inr ⟨i, h, by simp [RG.addW, h]⟩
    · exact .inl (by simp [RG.addW, h])
  · rintro (rfl | ⟨i, hi, rfl⟩)
    · exact ⟨g.nw, by simp [RG.addW], by simp [RG.addW]⟩
    · exact ⟨i, by simp only [RG.addW]; omega, by simp [RG.addW, hi]⟩
theorem RG.addR_lev (g : RG) (x : RuleG) (q : QG) : g.lev q g.nr ≤ (g.addR x).lev q (g.addR x).nr :=
  RG.lev_le fun a ha hb => ⟨RG.addR_in.2 (.inr ha), hb⟩
theorem RG.addW_lev (g : RG) (x : WarG) (q : QG) : g.lev q g.nr ≤ (g.addW x).lev q (g.addW x).nr :=
  RG.lev_le fun a ha hb => ⟨ha, ruleB_le (g := g) (y := g.addW x) (fun h => h) (fun h => by
    obtain ⟨b, h1, h2⟩ := RG.hasW_iff.1 h
    exact RG.hasW_iff.2 ⟨b, RG.addW_in.2 (.inr h1), h2⟩) hb⟩
/-- The level of a query that may be asked, behind greater rights. -/
theorem grow_ok {g y : RG} {q : QG} (ha : ask g q = 0) (hl : g.lev q g.nr ≤ y.lev q y.nr) : (ask y q = 0 ∧ g.levq q ≤ y.levq q) ∨ ask y q = 8 := by
  unfold ask
  by_cases hv : y.valid = true
  · have h0 : ask y q = 0 := by unfold ask; rw [if_pos hv]; exact (ask_valid ha).2
    refine .inl ⟨by rw [if_pos hv]; exact (ask_valid ha).2, ?_⟩
    simp [RG.levq, ha, h0, hl]
  · exact .inr (by rw [if_neg hv])
theorem QG.sg_err {q : QG} {o : Int} (h : q.sgE o = 0) : q.err = 0 ∧ (q.sg o).err = 0 := by
  unfold QG.sgE at h
  by_cases he : q.err = 0
  rotate_left
  · rw [if_neg he] at h; exact absurd h he
  rw [if_pos he] at h
  by_cases hb : btw 0 7 o = true
  rotate_left
  · rw [if_neg hb] at h; omega
  rw [if_pos hb] at h
  by_cases hf : (fnd (fun i => q.k i - o) q.nk || decide (q.nk = 2)) = true
  · rw [if_pos hf] at h; omega
  simp at hf
  obtain ⟨hk, hm⟩ := q.keys he
  refine ⟨he, ?_⟩
  have hq := he
  unfold QG.err at hq ⊢
  have hc1 : (q.sg o).c1 = q.c1 := rfl
  rw [hc1]
  by_cases h1 : q.c1 = true
  rotate_left
  · rw [if_neg h1] at hq; omega
  rw [if_pos h1] at hq ⊢
  by_cases h2 : q.cks = true
  rotate_left
  · rw [if_neg h2] at hq; omega
  simp only [QG.cks, QG.c2, QG.c3, Bool.and_eq_true, decide_eq_true_eq, List.all_eq_true, List.mem_range] at h2
  simp only [btw, Bool.and_eq_true, decide_eq_true_eq] at hb
  have hn : q.nk = 0 ∨ q.nk = 1 := by omega
  have : (q.sg o).cks = true := by
    rcases hn with hn | hn
    · simp only [QG.cks, QG.c2, QG.c3, Bool.and_eq_true, decide_eq_true_eq, List.all_eq_true, List.mem_range]
      simp only [QG.sg, QG.at', hn]
      refine ⟨⟨by omega, fun i hi => ?_⟩, fun i hi => by omega⟩
      obtain rfl : i = 0 := by omega
      simp [bnd]; omega
    · have hne : q.k 0 ≠ o := fun e => by
        have : bnd (fun i => q.k i - o) 1 = 0 := bnd_eq (by omega) (fun j hj => by omega) (fun j a b => by rw [lt1 b]; omega)
        simp [fnd, hn, this, e] at hf
      have h20 := h2.1.2 0 (by omega)
      by_cases hlt : q.k 0 < o
      · have hb1 : bnd (fun i => q.k i - o) 1 = 1 := bnd_eq (by omega) (fun j hj => by rw [lt1 hj]; omega) (fun j a b => by omega)
        simp only [QG.cks, QG.c2, QG.c3, Bool.and_eq_true, decide_eq_true_eq, List.all_eq_true, List.mem_range]
        simp only [QG.sg, QG.at', hn, hb1]
        refine ⟨⟨by omega, fun i hi => ?_⟩, fun i hi => ?_⟩
        · rcases (by omega : i = 0 ∨ i = 1) with rfl | rfl
          · simp; omega
          · simp; omega
        · obtain rfl : i = 0 := by omega
          simp; omega
      · have hb1 : bnd (fun i => q.k i - o) 1 = 0 := bnd_eq (by omega) (fun j hj => by omega) (fun j a b => by rw [lt1 b]; omega)
        simp only [QG.cks, QG.c2, QG.c3, Bool.and_eq_true, decide_eq_true_eq, List.all_eq_true, List.mem_range]
        simp only [QG.sg, QG.at', hn, hb1]
        refine ⟨⟨by omega, fun i hi => ?_⟩, fun i hi => ?_⟩
        · rcases (by omega : i = 0 ∨ i = 1) with rfl | rfl
          · simp; omega
          · simp; omega
        · obtain rfl : i = 0 := by omega
          simp; omega
  rw [if_pos this]
theorem RG.sg_lev (g : RG) (q : QG) (o : Int) : g.lev q g.nr ≤ g.lev (q.sg o) g.nr :=
  RG.lev_le fun a ha hb => ⟨ha, by
    simp only [ruleB, Bool.and_eq_true, decide_eq_true_eq] at hb ⊢
    refine ⟨⟨hb.1.1, ?_⟩, ?_⟩
    · have := hb.1.2
      simp only [QG.sg]; omega
    · exact based_le (g := g) (y := g) (q := q) (p := q.sg o) (fun h => h) (fun h => h) hb.2⟩
theorem grow_sg {g : RG} {q : QG} {o : Int} (ha : ask g q = 0) (h : q.sgE o = 0) : ask g (q.sg o) = 0 ∧ g.levq q ≤ g.levq (q.sg o) := by
  have hv := (ask_valid ha).1
  have h0 : ask g (q.sg o) = 0 := by unfold ask; rw [if_pos hv]; exact (QG.sg_err h).2
  exact ⟨h0, by simp [RG.levq, ha, h0]; exact g.sg_lev q o⟩
/-- The last consent of a person for a purpose, of the first k. -/
def RG.unt (g : RG) (c : ConG) : Nat → Int
  | 0 => 0
  | k + 1 => if (g.c k).p = c.p ∧ (g.c k).q = c.q then (g.c k).u else g.unt c k
theorem RG.unt_of {g : RG} (h : g.c5 = true) {c : ConG} {i : Nat} (hi : i < g.nc) (he : (g.c i).p = c.p ∧ (g.c i).q = c.q) : g.unt c g.nc = (g.c i).u := by
  have key : ∀ k, i < k → k ≤ g.nc → g.unt c k = (g.c i).u := by
    intro k
    induction k with
    | zero => intro h; omega
    | succ k ih =>
      intro h1 h2
      unfold RG.unt
      by_cases hk : (g.c k).p = c.p ∧ (g.c k).q = c.q
      · rw [if_pos hk]
        have a1 : g.cmC c.p c.q k = 0 := lex_eq.2 hk
        have a2 : g.cmC c.p c.q i = 0 := lex_eq.2 he
        by_cases hik : i = k
        · rw [hik]
        · have := RG.cmC_st h c.p c.q i k (by omega) (by omega) (by omega)
          omega
      · rw [if_neg hk]
        have : i ≠ k := fun e => hk (by rw [← e]; exact he)
        exact ih (by omega) (by omega)
  exact key _ hi (Nat.le_refl _)
theorem grow_put {g : RG} {q : QG} {c : ConG} (ha : ask g q = 0) (he : g.cnE c = 0) (hu : ¬ c.u < g.unt c g.nc) : ask (g.putC c) q = 0 ∧ g.levq q ≤ (g.putC c).levq q := by
  have hv := (ask_valid ha).1
  have h0 : ask (g.putC c) q = 0 := by unfold ask; rw [if_pos (RG.putC_valid he)]; exact (ask_valid ha).2
  refine ⟨h0, ?_⟩
  simp only [RG.levq, ha, h0, if_true]
  refine RG.lev_le fun a hA hb => ⟨hA, ruleB_le (g := g) (y := g.putC c) (fun h => ?_) (fun h => h) hb⟩
  obtain ⟨b, ⟨i, hi, rfl⟩, h2⟩ := RG.hasC_iff.1 h
  by_cases hc : (g.c i).p = c.p ∧ (g.c i).q = c.q
  · refine RG.hasC_iff.2 ⟨c, (RG.putC_in hv).2 (.inl rfl), ?_⟩
    have := RG.unt_of (RG.v5 hv) hi hc
    simp only [ConG.cov, Bool.and_eq_true, decide_eq_true_eq] at h2 ⊢
    omega
  · exact RG.hasC_iff.2 ⟨_, (RG.putC_in hv).2 (.inr ⟨⟨i, hi, rfl⟩, hc⟩), h2⟩
end Go.Gx.Rg
