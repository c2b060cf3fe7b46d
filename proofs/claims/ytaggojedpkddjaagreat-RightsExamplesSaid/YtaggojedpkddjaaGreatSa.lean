/-
  Plain laws of rights: which entries there are, and what depends on that alone.
-/
import Derived.Test.YtaggojedpkddjaaGreatRm
import Derived.Test.YtaggojedpkddjaaGreatRw
import Derived.Test.YtaggojedpkddjaaGreatRx
set_option linter.unusedVariables false
set_option linter.unusedSimpArgs false
set_option maxRecDepth 20000
set_option maxHeartbeats 1000000
namespace Go.Gx.Rg
open Go.RowKit Go.Proofs Go.Proofs.YtaggojedpkddjaaGreat

/-! ### entries -/
def RG.InR (g : RG) (a : RuleG) : Prop := ∃ i, i < g.nr ∧ g.r i = a
def RG.InC (g : RG) (a : ConG) : Prop := ∃ i, i < g.nc ∧ g.c i = a
def RG.InW (g : RG) (a : WarG) : Prop := ∃ i, i < g.nw ∧ g.w i = a
def RG.InM (g : RG) (a : MarkG) : Prop := ∃ i, i < g.nm ∧ g.m i = a

theorem RG.goodR {g : RG} (h : g.valid = true) {a : RuleG} (ha : g.InR a) : a.good = true := by
  obtain ⟨i, hi, rfl⟩ := ha
  simp only [RG.valid, RG.c1, Bool.and_eq_true, List.all_eq_true, List.mem_range] at h
  exact h.1.1.1.1.1.2 i hi
theorem RG.goodC {g : RG} (h : g.valid = true) {a : ConG} (ha : g.InC a) : a.good = true := by
  obtain ⟨i, hi, rfl⟩ := ha
  simp only [RG.valid, RG.c2, Bool.and_eq_true, List.all_eq_true, List.mem_range] at h
  exact h.1.1.1.1.2.2 i hi
theorem RG.goodW {g : RG} (h : g.valid = true) {a : WarG} (ha : g.InW a) : a.good = true := by
  obtain ⟨i, hi, rfl⟩ := ha
  simp only [RG.valid, RG.c3, Bool.and_eq_true, List.all_eq_true, List.mem_range] at h
  exact h.1.1.1.2.2 i hi
theorem RG.goodM {g : RG} (h : g.valid = true) {a : MarkG} (ha : g.InM a) : a.good = true := by
  obtain ⟨i, hi, rfl⟩ := ha
  simp only [RG.valid, RG.c4, Bool.and_eq_true, List.all_eq_true, List.mem_range] at h
  exact h.1.1.2.2 i hi
theorem RG.valid_of {g : RG} (h1 : g.nr ≤ 20) (h2 : g.nc ≤ 40) (h3 : g.nw ≤ 20) (h4 : g.nm ≤ 40) (hr : ∀ a, g.InR a → a.good = true) (hc : ∀ a, g.InC a → a.good = true) (hw : ∀ a, g.InW a → a.good = true) (hm : ∀ a, g.InM a → a.good = true)
    (sc : ∀ i, i + 1 < g.nc → (g.c i).ltP (g.c (i + 1))) (sm : ∀ i, i + 1 < g.nm → (g.m i).ltP (g.m (i + 1))) : g.valid = true := by
  simp only [RG.valid, RG.c1, RG.c2, RG.c3, RG.c4, RG.c5, RG.c6, Bool.and_eq_true, decide_eq_true_eq, List.all_eq_true, List.mem_range, ConG.lt, MarkG.lt, lex_lt]
  exact ⟨⟨⟨⟨⟨⟨by omega, fun i hi => hr _ ⟨i, hi, rfl⟩⟩, by omega, fun i hi => hc _ ⟨i, hi, rfl⟩⟩, by omega, fun i hi => hw _ ⟨i, hi, rfl⟩⟩, by omega, fun i hi => hm _ ⟨i, hi, rfl⟩⟩, fun i hi => sc i (by omega)⟩, fun i hi => sm i (by omega)⟩

/-! ### what depends on the entries alone -/
theorem RG.hasC_iff {g : RG} {q : QG} : g.hasC q = true ↔ ∃ a, g.InC a ∧ a.cov q = true := by
  unfold RG.hasC
  rw [List.any_eq_true]
  exact ⟨fun ⟨i, h1, h2⟩ => ⟨_, ⟨i, List.mem_range.1 h1, rfl⟩, h2⟩, fun ⟨a, ⟨i, h1, h2⟩, h3⟩ => ⟨i, List.mem_range.2 h1, by rw [h2]; exact h3⟩⟩
theorem RG.hasW_iff {g : RG} {q : QG} : g.hasW q = true ↔ ∃ a, g.InW a ∧ a.cov q = true := by
  unfold RG.hasW
  rw [List.any_eq_true]
  exact ⟨fun ⟨i, h1, h2⟩ => ⟨_, ⟨i, List.mem_range.1 h1, rfl⟩, h2⟩, fun ⟨a, ⟨i, h1, h2⟩, h3⟩ => ⟨i, List.mem_range.2 h1, by rw [h2]; exact h3⟩⟩
theorem based_le {g y : RG} {q p : QG} {b : Int} (hc : g.hasC q = true → y.hasC p = true) (hw : g.hasW q = true → y.hasW p = true) (h : based g q b = true) : based y p b = true := by
  unfold based at *
  by_cases b3 : b = 3
  · rw [if_pos b3]
  rw [if_neg b3] at h ⊢
  by_cases b1 : b = 1
  · rw [if_pos b1] at h ⊢; exact hc h
  · rw [if_neg b1] at h ⊢; exact hw h
theorem RG.lev_ge0 (g : RG) (q : QG) : ∀ n, 0 ≤ g.lev q n
  | 0 => by simp [RG.lev]
  | n + 1 => by
    have := RG.lev_ge0 g q n
    simp only [RG.lev]; split <;> omega
theorem RG.lev_ub {g : RG} {q : QG} : ∀ {n i : Nat}, i < n → ruleB g q (g.r i) = true → (g.r i).s ≤ g.lev q n
  | 0, i, h, _ => by omega
  | n + 1, i, h, hb => by
    simp only [RG.lev]
    by_cases hi : i = n
    · subst hi; rw [if_pos hb]; omega
    · have := RG.lev_ub (n := n) (by omega) hb
      split <;> omega
theorem RG.lev_at {g : RG} {q : QG} : ∀ n, g.lev q n ≠ 0 → ∃ i, i < n ∧ ruleB g q (g.r i) = true ∧ (g.r i).s = g.lev q n
  | 0, h => absurd rfl h
  | n + 1, h => by
    simp only [RG.lev] at h ⊢
    have h0 := RG.lev_ge0 g q n
    by_cases hr : ruleB g q (g.r n) = true
    · rw [if_pos hr] at h ⊢
      by_cases hs : g.lev q n ≤ (g.r n).s
      · exact ⟨n, by omega, hr, by omega⟩
      · by_cases h0 : g.lev q n = 0
        · exact absurd (by omega : max (g.lev q n) (g.r n).s = 0) h
        · obtain ⟨i, h1, h2, h3⟩ := RG.lev_at n h0
          exact ⟨i, by omega, h2, by omega⟩
    · rw [if_neg hr] at h ⊢
      obtain ⟨i, h1, h2, h3⟩ := RG.lev_at n h
      exact ⟨i, by omega, h2, h3⟩
/-- More rules that apply: no lower level. -/
theorem RG.lev_le {g y : RG} {q p : QG} (h : ∀ a, g.InR a → ruleB g q a = true → y.InR a ∧ ruleB y p a = true) : g.lev q g.nr ≤ y.lev p y.nr := by
  by_cases h0 : g.lev q g.nr = 0
  · rw [h0]; exact RG.lev_ge0 y p _
  · obtain ⟨i, h1, h2, h3⟩ := RG.lev_at _ h0
    obtain ⟨⟨j, k1, k2⟩, k3⟩ := h _ ⟨i, h1, rfl⟩ h2
    rw [← h3, ← k2]
    exact RG.lev_ub k1 (by rw [k2]; exact k3)
theorem RG.onM_mem {g : RG} {q : QG} (h : g.c6 = true) {a : MarkG} (ha : g.InM a) (hb : onB q a = true) : g.onM q = some a := by
  obtain ⟨i, hi, rfl⟩ := ha
  exact RG.onM_some h hi hb
theorem RG.onM_eq {g y : RG} {q : QG} (h : g.c6 = true) (h' : y.c6 = true) (he : ∀ a, onB q a = true → (g.InM a ↔ y.InM a)) : g.onM q = y.onM q := by
  by_cases hx : ∃ a, g.InM a ∧ onB q a = true
  · obtain ⟨a, h1, h2⟩ := hx
    rw [RG.onM_mem h h1 h2, RG.onM_mem h' ((he a h2).1 h1) h2]
  · have n1 : ∀ i, i < g.nm → onB q (g.m i) = false := fun i hi => by
      cases hb : onB q (g.m i) with
      | false => rfl
      | true => exact absurd ⟨_, ⟨i, hi, rfl⟩, hb⟩ hx
    have n2 : ∀ i, i < y.nm → onB q (y.m i) = false := fun i hi => by
      cases hb : onB q (y.m i) with
      | false => rfl
      | true => exact absurd ⟨_, (he _ hb).2 ⟨i, hi, rfl⟩, hb⟩ hx
    rw [RG.onM_none n1, RG.onM_none n2]
/-- The answer. -/
theorem RG.ans_eq {g y : RG} {q : QG} (ha : ask g q = ask y q) (hl : g.lev q g.nr = y.lev q y.nr) (hm : ask g q = 0 → g.onM q = y.onM q) : g.aerr q = y.aerr q ∧ g.rep q = y.rep q := by
  have he : g.aerr q = y.aerr q := by unfold RG.aerr; rw [ha, hl]
  refine ⟨he, ?_⟩
  by_cases h0 : g.aerr q = 0
  · have h1 : ask g q = 0 := by
      unfold RG.aerr at h0
      split at h0
      · omega
      · rename_i h; simpa using h
    simp only [RG.rep, RG.aL, RG.aO, RG.aS, RG.aN, ← he, hl, hm h1]
  · rw [RG.ans_no h0, RG.ans_no (by rw [← he]; exact h0)]

/-! ### some of the entries -/
theorem kept_mem {p : Nat → Bool} {n i : Nat} : i ∈ kept p n ↔ i < n ∧ p i = false := by simp [kept]
structure Inc (l : List Nat) (n : Nat) : Prop where
  lt : ∀ i j, i < j → j < l.length → l.getD i 0 < l.getD j 0
  mem : ∀ i, i < l.length → l.getD i 0 < n
  len : l.length ≤ n
theorem kept_inc (p : Nat → Bool) (n : Nat) : Inc (kept p n) n := by
  refine ⟨fun i j hij hj => ?_, fun i hi => ?_, kept_le p n⟩
  · have hp : (kept p n).Pairwise (· < ·) := List.Pairwise.filter _ List.pairwise_lt_range
    have := List.pairwise_iff_getElem.1 hp i j (by omega) hj hij
    simpa [List.getD_eq_getElem?_getD, List.getElem?_eq_getElem hj, List.getElem?_eq_getElem (show i < (kept p n).length by omega)] using this
  · have h1 : (kept p n)[i] ∈ kept p n := List.getElem_mem hi
    have := (kept_mem.1 h1).1
    simpa [List.getD_eq_getElem?_getD, List.getElem?_eq_getElem hi] using this
theorem sel_in {α : Type} {x : Nat → α} {l : List Nat} {a : α} : (∃ i, i < l.length ∧ x (l.getD i 0) = a) ↔ ∃ j, j ∈ l ∧ x j = a := by
  constructor
  · rintro ⟨i, h1, h2⟩
    refine ⟨l[i], List.getElem_mem h1, ?_⟩
    rw [← h2, List.getD_eq_getElem?_getD, List.getElem?_eq_getElem h1]; rfl
  · rintro ⟨j, h1, h2⟩
    obtain ⟨i, hi, rfl⟩ := List.getElem_of_mem h1
    refine ⟨i, hi, ?_⟩
    rw [← h2, List.getD_eq_getElem?_getD, List.getElem?_eq_getElem hi]; rfl
theorem kept_in {α : Type} {x : Nat → α} {f : α → Bool} {n : Nat} {a : α} : (∃ i, i < (kept (fun i => f (x i)) n).length ∧ x ((kept (fun i => f (x i)) n).getD i 0) = a) ↔ (∃ i, i < n ∧ x i = a) ∧ f a = false := by
  rw [sel_in]
  constructor
  · rintro ⟨j, h1, rfl⟩
    exact ⟨⟨j, (kept_mem.1 h1).1, rfl⟩, (kept_mem.1 h1).2⟩
  · rintro ⟨⟨j, h1, rfl⟩, h2⟩
    exact ⟨j, kept_mem.2 ⟨h1, h2⟩, rfl⟩
theorem RG.sel_valid {g y : RG} (h : g.valid = true) (hr : y.nr ≤ g.nr) (hR : ∀ a, y.InR a → g.InR a) {b c d : List Nat} (hb : Inc b g.nc) (hc : Inc c g.nw) (hd : Inc d g.nm)
    (e1 : y.nc = b.length) (e2 : ∀ i, y.c i = g.c (b.getD i 0)) (e3 : y.nw = c.length) (e4 : ∀ i, y.w i = g.w (c.getD i 0)) (e5 : y.nm = d.length) (e6 : ∀ i, y.m i = g.m (d.getD i 0)) : y.valid = true := by
  have hl := RG.lim h
  have := hb.len; have := hc.len; have := hd.len
  refine RG.valid_of (by omega) (by omega) (by omega) (by omega) (fun a ha => RG.goodR h (hR a ha)) (fun a ha => ?_) (fun a ha => ?_) (fun a ha => ?_) (fun i hi => ?_) (fun i hi => ?_)
  · obtain ⟨i, h1, rfl⟩ := ha
    rw [e2]; exact RG.goodC h ⟨_, hb.mem i (by omega), rfl⟩
  · obtain ⟨i, h1, rfl⟩ := ha
    rw [e4]; exact RG.goodW h ⟨_, hc.mem i (by omega), rfl⟩
  · obtain ⟨i, h1, rfl⟩ := ha
    rw [e6]; exact RG.goodM h ⟨_, hd.mem i (by omega), rfl⟩
  · rw [e2, e2]
    exact RG.sortC (RG.v5 h) (hb.lt i (i + 1) (by omega) (by omega)) (hb.mem _ (by omega))
  · rw [e6, e6]
    exact RG.sortM (RG.v6 h) (hd.lt i (i + 1) (by omega) (by omega)) (hd.mem _ (by omega))

/-! ### Prune -/
section
variable {g : RG} {t : Int}
theorem RG.prune_R {a : RuleG} : (g.prune t).InR a ↔ g.InR a ∧ t < a.t := by
  have := kept_in (x := g.r) (f := fun a => decide (a.t ≤ t)) (n := g.nr) (a := a)
  simpa [RG.InR, RG.prune, RG.sel] using this
theorem RG.prune_C {a : ConG} : (g.prune t).InC a ↔ g.InC a ∧ t < a.u := by
  have := kept_in (x := g.c) (f := fun a => decide (a.u ≤ t)) (n := g.nc) (a := a)
  simpa [RG.InC, RG.prune, RG.sel] using this
theorem RG.prune_W {a : WarG} : (g.prune t).InW a ↔ g.InW a ∧ t < a.t := by
  have := kept_in (x := g.w) (f := fun a => decide (a.t ≤ t)) (n := g.nw) (a := a)
  simpa [RG.InW, RG.prune, RG.sel] using this
theorem RG.prune_M {a : MarkG} : (g.prune t).InM a ↔ g.InM a ∧ t < a.u := by
  have := kept_in (x := g.m) (f := fun a => decide (a.u ≤ t)) (n := g.nm) (a := a)
  simpa [RG.InM, RG.prune, RG.sel] using this
theorem RG.prune_valid (h : g.valid = true) : (g.prune t).valid = true :=
  RG.sel_valid h (kept_le _ _) (fun a ha => (RG.prune_R.1 ha).1) (kept_inc _ _) (kept_inc _ _) (kept_inc _ _) rfl (fun _ => rfl) rfl (fun _ => rfl) rfl (fun _ => rfl)
theorem same_all {α : Type} {x : Nat → α} {e : α → α → Bool} (he : ∀ a, e a a = true) {p : Nat → Bool} {n : Nat} (hp : ∀ i, i < n → p i = false) :
    (decide (n = (kept p n).length) && (List.range n).all fun i => e (x i) (x ((kept p n).getD i 0))) = true := by
  rw [kept_all hp]
  simp
  intro i hi
  simp [hi, he]
theorem RuleG.eqB_rfl (a : RuleG) : a.eqB a = true := by simp [RuleG.eqB]
theorem ConG.eqB_rfl (a : ConG) : a.eqB a = true := by simp [ConG.eqB]
theorem WarG.eqB_rfl (a : WarG) : a.eqB a = true := by simp [WarG.eqB]
theorem MarkG.eqB_rfl (a : MarkG) : a.eqB a = true := by simp [MarkG.eqB]
theorem RG.prune_same : (g.prune t).same ((g.prune t).prune t) = true := by
  unfold RG.same RG.s1 RG.s2 RG.s3 RG.s4
  rw [Bool.and_eq_true, Bool.and_eq_true, Bool.and_eq_true]
  refine ⟨⟨⟨?_, ?_⟩, ?_⟩, ?_⟩
  · exact same_all (x := (g.prune t).r) RuleG.eqB_rfl (p := fun i => decide (((g.prune t).r i).t ≤ t)) (fun i hi => by have := (RG.prune_R.1 ⟨i, hi, rfl⟩).2; simpa using this)
  · exact same_all (x := (g.prune t).c) ConG.eqB_rfl (p := fun i => decide (((g.prune t).c i).u ≤ t)) (fun i hi => by have := (RG.prune_C.1 ⟨i, hi, rfl⟩).2; simpa using this)
  · exact same_all (x := (g.prune t).w) WarG.eqB_rfl (p := fun i => decide (((g.prune t).w i).t ≤ t)) (fun i hi => by have := (RG.prune_W.1 ⟨i, hi, rfl⟩).2; simpa using this)
  · exact same_all (x := (g.prune t).m) MarkG.eqB_rfl (p := fun i => decide (((g.prune t).m i).u ≤ t)) (fun i hi => by have := (RG.prune_M.1 ⟨i, hi, rfl⟩).2; simpa using this)
theorem ruleB_t {q : QG} {a : RuleG} (h : ruleB g q a = true) : q.t < a.t := by
  simp only [ruleB, Bool.and_eq_true, decide_eq_true_eq] at h
  exact h.1.1.2
theorem ruleB_le {y : RG} {q : QG} {a : RuleG} (hc : g.hasC q = true → y.hasC q = true) (hw : g.hasW q = true → y.hasW q = true) (h : ruleB g q a = true) : ruleB y q a = true := by
  simp only [ruleB, Bool.and_eq_true] at h ⊢
  exact ⟨h.1, based_le hc hw h.2⟩
theorem RG.prune_ans (h : g.valid = true) {q : QG} (ht : t ≤ q.t) : g.aerr q = (g.prune t).aerr q ∧ g.rep q = (g.prune t).rep q := by
  have hv := RG.prune_valid (t := t) h
  have c1 : g.hasC q = true → (g.prune t).hasC q = true := fun hc => by
    obtain ⟨a, h1, h2⟩ := RG.hasC_iff.1 hc
    exact RG.hasC_iff.2 ⟨a, RG.prune_C.2 ⟨h1, by simp [ConG.cov] at h2; omega⟩, h2⟩
  have c2 : (g.prune t).hasC q = true → g.hasC q = true := fun hc => by
    obtain ⟨a, h1, h2⟩ := RG.hasC_iff.1 hc
    exact RG.hasC_iff.2 ⟨a, (RG.prune_C.1 h1).1, h2⟩
  have w1 : g.hasW q = true → (g.prune t).hasW q = true := fun hc => by
    obtain ⟨a, h1, h2⟩ := RG.hasW_iff.1 hc
    exact RG.hasW_iff.2 ⟨a, RG.prune_W.2 ⟨h1, by rw [WarG.cov_eq] at h2; simp [WarG.cov'] at h2; omega⟩, h2⟩
  have w2 : (g.prune t).hasW q = true → g.hasW q = true := fun hc => by
    obtain ⟨a, h1, h2⟩ := RG.hasW_iff.1 hc
    exact RG.hasW_iff.2 ⟨a, (RG.prune_W.1 h1).1, h2⟩
  refine RG.ans_eq (by simp [ask, h, hv]) (Int.le_antisymm (RG.lev_le fun a h1 h2 => ?_) (RG.lev_le fun a h1 h2 => ?_)) fun _ => RG.onM_eq (RG.v6 h) (RG.v6 hv) fun a hb => ?_
  · have := ruleB_t h2
    exact ⟨RG.prune_R.2 ⟨h1, by omega⟩, ruleB_le c1 w1 h2⟩
  · exact ⟨(RG.prune_R.1 h1).1, ruleB_le c2 w2 h2⟩
  · rw [RG.prune_M]
    simp [onB] at hb
    exact ⟨fun h => ⟨h, by omega⟩, fun h => h.1⟩
end
end Go.Gx.Rg
