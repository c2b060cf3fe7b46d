/-
  Plain laws of rights: an element in its place.
-/
import Derived.Test.YtaggojedpkddjaaGreatSf
set_option linter.unusedVariables false
set_option linter.unusedSimpArgs false
set_option maxRecDepth 20000
set_option maxHeartbeats 1000000
namespace Go.Gx.Rg
open Go.RowKit Go.Proofs Go.Proofs.YtaggojedpkddjaaGreat

theorem lex_gt {a b c d : Int} : 0 < lex (cmpI a c) (cmpI b d) ↔ c < a ∨ a = c ∧ d < b := by unfold lex cmpI; repeat' split <;> omega
theorem bnd_lo {c : Nat → Int} {n j : Nat} (h : j < bnd c n) : c j < 0 := by
  unfold bnd at h
  cases hf : (List.range n).find? fun i => decide (0 ≤ c i) with
  | none =>
    rw [hf] at h
    have := List.find?_eq_none.1 hf j (List.mem_range.2 (by simpa using h))
    simpa using this
  | some i =>
    rw [hf] at h
    have := (List.find?_range_eq_some.1 hf).2.2 j (by simpa using h)
    simpa using this
theorem bnd_hi {c : Nat → Int} {n j : Nat} (hm : ∀ a b, a < b → b < n → c b < 0 → c a < 0) (h : bnd c n ≤ j) (hj : j < n) : 0 ≤ c j := by
  unfold bnd at h
  cases hf : (List.range n).find? fun i => decide (0 ≤ c i) with
  | none =>
    rw [hf] at h
    simp at h; omega
  | some i =>
    rw [hf] at h
    have h1 : 0 ≤ c i := by simpa using (List.find?_range_eq_some.1 hf).1
    have h2 : i ≤ j := by simpa using h
    rcases Nat.lt_or_ge i j with h3 | h3
    · rcases Int.lt_or_le (c j) 0 with h4 | h4
      · have := hm i j h3 hj h4; omega
      · exact h4
    · have : j = i := by omega
      subst this; exact h1
theorem bnd_pos {c : Nat → Int} {n : Nat} (hm : ∀ a b, a < b → b < n → c b < 0 → c a < 0) (hs : ∀ a b, a < b → b < n → 0 ≤ c a → 0 < c b) {j : Nat} (hj : j < n) :
    (j < bnd c n ∧ c j < 0) ∨ (j = bnd c n ∧ fnd c n = true ∧ c j = 0) ∨ (bnd c n ≤ j ∧ (fnd c n = true → bnd c n < j) ∧ 0 < c j) := by
  rcases Nat.lt_or_ge j (bnd c n) with h | h
  · exact .inl ⟨h, bnd_lo h⟩
  right
  have h0 := bnd_hi hm h hj
  rcases Nat.lt_or_ge (bnd c n) j with h1 | h1
  · exact .inr ⟨h, fun _ => h1, hs _ j h1 hj (bnd_hi hm (Nat.le_refl _) (by omega))⟩
  · have h2 : j = bnd c n := by omega
    by_cases h3 : c j = 0
    · exact .inl ⟨h2, by simp [fnd, ← h2, hj, h3], h3⟩
    · exact .inr ⟨h, fun hf => by simp [fnd, ← h2, h3] at hf, by omega⟩
theorem fnd_at {c : Nat → Int} {n : Nat} (h : fnd c n = true) : bnd c n < n ∧ c (bnd c n) = 0 := by simpa [fnd] using h
theorem pl_cases {α : Type} {c : Nat → Int} {n : Nat} {y : Nat → α} {x : α} (hm : ∀ a b, a < b → b < n → c b < 0 → c a < 0) (hs : ∀ a b, a < b → b < n → 0 ≤ c a → 0 < c b) {r : Nat} (hr : r < plN (fnd c n) n) :
    (r < bnd c n ∧ r < n ∧ plF (fnd c n) (bnd c n) y x r = y r ∧ c r < 0) ∨ (r = bnd c n ∧ plF (fnd c n) (bnd c n) y x r = x) ∨
    (bnd c n < r ∧ ∃ s, s = (if fnd c n = true then r else r - 1) ∧ s < n ∧ plF (fnd c n) (bnd c n) y x r = y s ∧ 0 < c s) := by
  have hb : bnd c n ≤ n := bnd_le
  unfold plN at hr
  rcases Nat.lt_trichotomy r (bnd c n) with h | h | h
  · exact .inl ⟨h, by omega, if_pos h, bnd_lo h⟩
  · exact .inr (.inl ⟨h, by rw [plF, if_neg (by omega), if_pos h]⟩)
  · refine .inr (.inr ⟨h, _, rfl, ?_, by rw [plF, if_neg (by omega), if_neg (by omega)], ?_⟩)
    · split at hr
      · rename_i hf; rw [if_pos hf]; exact hr
      · rename_i hf; rw [if_neg hf]; omega
    · have hsn : (if fnd c n = true then r else r - 1) < n := by
        split at hr
        · rename_i hf; rw [if_pos hf]; exact hr
        · rename_i hf; rw [if_neg hf]; omega
      rcases bnd_pos hm hs hsn with ⟨h1, _⟩ | ⟨h1, h2, _⟩ | ⟨_, _, h3⟩
      · exfalso
        split at h1 <;> omega
      · exfalso
        rw [if_pos h2] at h1; omega
      · exact h3
theorem pl_at {α : Type} {c : Nat → Int} {n : Nat} {y : Nat → α} {x : α} : bnd c n < plN (fnd c n) n ∧ plF (fnd c n) (bnd c n) y x (bnd c n) = x := by
  refine ⟨?_, by rw [plF, if_neg (by omega), if_pos rfl]⟩
  have hb : bnd c n ≤ n := bnd_le
  unfold plN
  split
  · rename_i hf; exact (fnd_at hf).1
  · omega
theorem pl_in {α : Type} {c : Nat → Int} {n : Nat} {y : Nat → α} {x a : α} (hm : ∀ a b, a < b → b < n → c b < 0 → c a < 0) (hs : ∀ a b, a < b → b < n → 0 ≤ c a → 0 < c b) :
    (∃ r, r < plN (fnd c n) n ∧ plF (fnd c n) (bnd c n) y x r = a) ↔ a = x ∨ ∃ j, j < n ∧ y j = a ∧ c j ≠ 0 := by
  constructor
  · rintro ⟨r, hr, rfl⟩
    rcases pl_cases (y := y) (x := x) hm hs hr with ⟨_, h1, h2, h3⟩ | ⟨_, h2⟩ | ⟨_, s, _, h1, h2, h3⟩
    · exact .inr ⟨r, h1, h2.symm, by omega⟩
    · exact .inl h2
    · exact .inr ⟨s, h1, h2.symm, by omega⟩
  · rintro (rfl | ⟨j, hj, rfl, h0⟩)
    · exact ⟨_, (pl_at (y := y) (x := a)).1, pl_at.2⟩
    · rcases bnd_pos hm hs hj with ⟨h1, _⟩ | ⟨_, _, h2⟩ | ⟨h1, h2, _⟩
      · refine ⟨j, ?_, if_pos h1⟩
        unfold plN; split <;> omega
      · exact absurd h2 h0
      · by_cases hf : fnd c n = true
        · have := h2 hf
          refine ⟨j, by unfold plN; rw [if_pos hf]; exact hj, ?_⟩
          rw [plF, if_neg (by omega), if_neg (by omega), if_pos hf]
        · refine ⟨j + 1, by unfold plN; rw [if_neg hf]; omega, ?_⟩
          rw [plF, if_neg (by omega), if_neg (by omega), if_neg hf]
          rfl

section
variable {g : RG} {x : ConG}
theorem RG.cmC_st {g : RG} (h : g.c5 = true) (l p : Int) : ∀ a b, a < b → b < g.nc → 0 ≤ g.cmC l p a → 0 < g.cmC l p b := by
  intro a b hab hb hc
  have := RG.sortC h hab hb
  have h1 : ¬ g.cmC l p a < 0 := by omega
  simp only [RG.cmC, lex_lt, lex_gt, ConG.ltP] at *
  omega
theorem RG.cmC_ne {l p : Int} {j : Nat} : g.cmC l p j ≠ 0 ↔ ¬ ((g.c j).p = l ∧ (g.c j).q = p) := not_congr lex_eq
theorem RG.putC_in (h : g.valid = true) {a : ConG} : (g.putC x).InC a ↔ a = x ∨ g.InC a ∧ ¬ (a.p = x.p ∧ a.q = x.q) := by
  have h1 := pl_in (y := g.c) (x := x) (a := a) (RG.cmC_mono (RG.v5 h) x.p x.q) (RG.cmC_st (RG.v5 h) x.p x.q)
  refine h1.trans (or_congr Iff.rfl ⟨?_, ?_⟩)
  · rintro ⟨j, hj, rfl, h0⟩
    exact ⟨⟨j, hj, rfl⟩, RG.cmC_ne.1 h0⟩
  · rintro ⟨⟨j, hj, rfl⟩, h0⟩
    exact ⟨j, hj, rfl, RG.cmC_ne.2 h0⟩
theorem RG.putC_E (he : g.cnE x = 0) : g.valid = true ∧ x.good = true ∧ (fnd (g.cmC x.p x.q) g.nc = true ∨ g.nc < 40) := by
  unfold RG.cnE at he
  by_cases h1 : g.valid = true
  · rw [if_pos h1] at he
    by_cases h2 : x.good = true
    · rw [if_pos h2] at he
      split at he
      · rename_i h3
        have h4 : fnd (g.cmC x.p x.q) g.nc = true ∨ (g.nc : Int) < 40 := by simpa using h3
        exact ⟨h1, h2, h4.imp id fun h => by omega⟩
      · omega
    · rw [if_neg h2] at he; omega
  · rw [if_neg h1] at he; omega
theorem RG.putC_sort (h : g.valid = true) {i : Nat} (hi : i + 1 < (g.putC x).nc) : ((g.putC x).c i).ltP ((g.putC x).c (i + 1)) := by
  have hm := RG.cmC_mono (RG.v5 h) x.p x.q
  have hs := RG.cmC_st (RG.v5 h) x.p x.q
  have sx : ∀ {j : Nat}, g.cmC x.p x.q j < 0 → (g.c j).ltP x := fun h => lex_lt.1 h
  have xs : ∀ {j : Nat}, 0 < g.cmC x.p x.q j → ConG.ltP x (g.c j) := fun h => by
    have := lex_gt.1 h
    unfold ConG.ltP; omega
  have hi' : i + 1 < plN (fnd (g.cmC x.p x.q) g.nc) g.nc := hi
  rcases pl_cases (y := g.c) (x := x) hm hs (show i < plN (fnd (g.cmC x.p x.q) g.nc) g.nc by omega) with ⟨h1, h2, h3, h4⟩ | ⟨h1, h2⟩ | ⟨h1, s, h2, h3, h4, h5⟩ <;>
  rcases pl_cases (y := g.c) (x := x) hm hs hi' with ⟨k1, k2, k3, k4⟩ | ⟨k1, k2⟩ | ⟨k1, u, k2, k3, k4, k5⟩
  · show ConG.ltP (plF _ _ _ _ i) (plF _ _ _ _ (i + 1))
    rw [h3, k3]; exact RG.sortC (RG.v5 h) (by omega) k2
  · show ConG.ltP (plF _ _ _ _ i) (plF _ _ _ _ (i + 1))
    rw [h3, k2]; exact sx h4
  · omega
  · omega
  · omega
  · show ConG.ltP (plF _ _ _ _ i) (plF _ _ _ _ (i + 1))
    rw [h2, k4]; exact xs k5
  · omega
  · omega
  · show ConG.ltP (plF _ _ _ _ i) (plF _ _ _ _ (i + 1))
    rw [h4, k4]
    refine RG.sortC (RG.v5 h) ?_ k3
    subst h2; subst k2
    split <;> omega
theorem RG.putC_n (he : g.cnE x = 0) : (g.putC x).nc ≤ 40 := by
  obtain ⟨h1, h2, h3⟩ := RG.putC_E he
  have hl := RG.lim h1
  show plN _ _ ≤ _
  unfold plN
  split
  · omega
  · rename_i hf
    rcases h3 with h3 | h3
    · exact absurd h3 hf
    · omega
theorem RG.putC_valid (he : g.cnE x = 0) : (g.putC x).valid = true := by
  obtain ⟨h, h2, h3⟩ := RG.putC_E he
  have hl := RG.lim h
  have hn := RG.putC_n he
  have hgood : ∀ a, (g.putC x).InC a → a.good = true := fun a ha => by
    rcases (RG.putC_in h).1 ha with rfl | ⟨h1, _⟩
    · exact h2
    · exact RG.goodC h h1
  exact RG.valid_of hl.1 hn hl.2.2.1 hl.2.2.2 (fun a ha => RG.goodR h ha) hgood (fun a ha => RG.goodW h ha) (fun a ha => RG.goodM h ha) (fun i hi => RG.putC_sort h hi) (fun i hi => RG.sortM (RG.v6 h) (by omega) hi)
theorem RG.putC_OK (h : g.OK) (he : g.cnE x = 0) : (g.putC x).OK := by
  have hn := RG.putC_n he
  exact ⟨h.nr, by omega, h.nw, h.nm, h.by'⟩
/-- At its place it is x, elsewhere another key. -/
theorem RG.putC_at (h : g.valid = true) {i : Nat} (hi : i < (g.putC x).nc) : (i = bnd (g.cmC x.p x.q) g.nc ∧ (g.putC x).c i = x) ∨ (i ≠ bnd (g.cmC x.p x.q) g.nc ∧ ¬ (((g.putC x).c i).p = x.p ∧ ((g.putC x).c i).q = x.q)) := by
  have hm := RG.cmC_mono (RG.v5 h) x.p x.q
  have hs := RG.cmC_st (RG.v5 h) x.p x.q
  rcases pl_cases (y := g.c) (x := x) hm hs hi with ⟨h1, h2, h3, h4⟩ | ⟨h1, h2⟩ | ⟨h1, s, h2, h3, h4, h5⟩
  · right
    refine ⟨by omega, ?_⟩
    have e : (g.putC x).c i = g.c i := h3
    rw [e]; exact RG.cmC_ne.1 (by omega)
  · exact .inl ⟨h1, h2⟩
  · right
    refine ⟨by omega, ?_⟩
    have e : (g.putC x).c i = g.c s := h4
    rw [e]; exact RG.cmC_ne.1 (by omega)
theorem RG.putC_bd : bnd (g.cmC x.p x.q) g.nc < (g.putC x).nc ∧ (g.putC x).c (bnd (g.cmC x.p x.q) g.nc) = x := pl_at
end

section
variable {g : RG} {x : MarkG}
theorem RG.cm_st {g : RG} (h : g.c6 = true) (l p : Int) : ∀ a b, a < b → b < g.nm → 0 ≤ g.cm l p a → 0 < g.cm l p b := by
  intro a b hab hb hc
  have := RG.sortM h hab hb
  have h1 : ¬ g.cm l p a < 0 := by omega
  simp only [RG.cm, lex_lt, lex_gt, MarkG.ltP] at *
  omega
theorem RG.cm_ne {l p : Int} {j : Nat} : g.cm l p j ≠ 0 ↔ ¬ ((g.m j).l = l ∧ (g.m j).p = p) := not_congr lex_eq
theorem RG.putM_in (h : g.valid = true) {a : MarkG} : (g.putM x).InM a ↔ a = x ∨ g.InM a ∧ ¬ (a.l = x.l ∧ a.p = x.p) := by
  have h1 := pl_in (y := g.m) (x := x) (a := a) (RG.cm_mono (RG.v6 h) x.l x.p) (RG.cm_st (RG.v6 h) x.l x.p)
  refine h1.trans (or_congr Iff.rfl ⟨?_, ?_⟩)
  · rintro ⟨j, hj, rfl, h0⟩
    exact ⟨⟨j, hj, rfl⟩, RG.cm_ne.1 h0⟩
  · rintro ⟨⟨j, hj, rfl⟩, h0⟩
    exact ⟨j, hj, rfl, RG.cm_ne.2 h0⟩
theorem RG.putM_E (he : g.mkE x = 0) : g.valid = true ∧ x.good = true ∧ (fnd (g.cm x.l x.p) g.nm = true ∨ g.nm < 40) := by
  unfold RG.mkE at he
  by_cases h1 : g.valid = true
  · rw [if_pos h1] at he
    by_cases h2 : x.good = true
    · rw [if_pos h2] at he
      split at he
      · rename_i h3
        have h4 : fnd (g.cm x.l x.p) g.nm = true ∨ (g.nm : Int) < 40 := by simpa using h3
        exact ⟨h1, h2, h4.imp id fun h => by omega⟩
      · omega
    · rw [if_neg h2] at he; omega
  · rw [if_neg h1] at he; omega
theorem RG.putM_sort (h : g.valid = true) {i : Nat} (hi : i + 1 < (g.putM x).nm) : ((g.putM x).m i).ltP ((g.putM x).m (i + 1)) := by
  have hm := RG.cm_mono (RG.v6 h) x.l x.p
  have hs := RG.cm_st (RG.v6 h) x.l x.p
  have sx : ∀ {j : Nat}, g.cm x.l x.p j < 0 → (g.m j).ltP x := fun h => lex_lt.1 h
  have xs : ∀ {j : Nat}, 0 < g.cm x.l x.p j → MarkG.ltP x (g.m j) := fun h => by
    have := lex_gt.1 h
    unfold MarkG.ltP; omega
  have hi' : i + 1 < plN (fnd (g.cm x.l x.p) g.nm) g.nm := hi
  rcases pl_cases (y := g.m) (x := x) hm hs (show i < plN (fnd (g.cm x.l x.p) g.nm) g.nm by omega) with ⟨h1, h2, h3, h4⟩ | ⟨h1, h2⟩ | ⟨h1, s, h2, h3, h4, h5⟩ <;>
  rcases pl_cases (y := g.m) (x := x) hm hs hi' with ⟨k1, k2, k3, k4⟩ | ⟨k1, k2⟩ | ⟨k1, u, k2, k3, k4, k5⟩
  · show MarkG.ltP (plF _ _ _ _ i) (plF _ _ _ _ (i + 1))
    rw [h3, k3]; exact RG.sortM (RG.v6 h) (by omega) k2
  · show MarkG.ltP (plF _ _ _ _ i) (plF _ _ _ _ (i + 1))
    rw [h3, k2]; exact sx h4
  · omega
  · omega
  · omega
  · show MarkG.ltP (plF _ _ _ _ i) (plF _ _ _ _ (i + 1))
    rw [h2, k4]; exact xs k5
  · omega
  · omega
  · show MarkG.ltP (plF _ _ _ _ i) (plF _ _ _ _ (i + 1))
    rw [h4, k4]
    refine RG.sortM (RG.v6 h) ?_ k3
    subst h2; subst k2
    split <;> omega
theorem RG.putM_n (he : g.mkE x = 0) : (g.putM x).nm ≤ 40 := by
  obtain ⟨h1, h2, h3⟩ := RG.putM_E he
  have hl := RG.lim h1
  show plN _ _ ≤ _
  unfold plN
  split
  · omega
  · rename_i hf
    rcases h3 with h3 | h3
    · exact absurd h3 hf
    · omega
theorem RG.putM_valid (he : g.mkE x = 0) : (g.putM x).valid = true := by
  obtain ⟨h, h2, h3⟩ := RG.putM_E he
  have hl := RG.lim h
  have hn := RG.putM_n he
  have hgood : ∀ a, (g.putM x).InM a → a.good = true := fun a ha => by
    rcases (RG.putM_in h).1 ha with rfl | ⟨h1, _⟩
    · exact h2
    · exact RG.goodM h h1
  exact RG.valid_of hl.1 hl.2.1 hl.2.2.1 hn (fun a ha => RG.goodR h ha) (fun a ha => RG.goodC h ha) (fun a ha => RG.goodW h ha) hgood (fun i hi => RG.sortC (RG.v5 h) (by omega) hi) (fun i hi => RG.putM_sort h hi)
theorem RG.putM_OK (h : g.OK) (he : g.mkE x = 0) : (g.putM x).OK := by
  have hn := RG.putM_n he
  exact ⟨h.nr, h.nc, h.nw, by omega, h.by'⟩
/-- At its place it is x, elsewhere another key. -/
theorem RG.putM_at (h : g.valid = true) {i : Nat} (hi : i < (g.putM x).nm) : (i = bnd (g.cm x.l x.p) g.nm ∧ (g.putM x).m i = x) ∨ (i ≠ bnd (g.cm x.l x.p) g.nm ∧ ¬ (((g.putM x).m i).l = x.l ∧ ((g.putM x).m i).p = x.p)) := by
  have hm := RG.cm_mono (RG.v6 h) x.l x.p
  have hs := RG.cm_st (RG.v6 h) x.l x.p
  rcases pl_cases (y := g.m) (x := x) hm hs hi with ⟨h1, h2, h3, h4⟩ | ⟨h1, h2⟩ | ⟨h1, s, h2, h3, h4, h5⟩
  · right
    refine ⟨by omega, ?_⟩
    have e : (g.putM x).m i = g.m i := h3
    rw [e]; exact RG.cm_ne.1 (by omega)
  · exact .inl ⟨h1, h2⟩
  · right
    refine ⟨by omega, ?_⟩
    have e : (g.putM x).m i = g.m s := h4
    rw [e]; exact RG.cm_ne.1 (by omega)
theorem RG.putM_bd : bnd (g.cm x.l x.p) g.nm < (g.putM x).nm ∧ (g.putM x).m (bnd (g.cm x.l x.p) g.nm) = x := pl_at
end

theorem fnd_of {c : Nat → Int} {n : Nat} (hm : ∀ a b, a < b → b < n → c b < 0 → c a < 0) (hs : ∀ a b, a < b → b < n → 0 ≤ c a → 0 < c b) {j : Nat} (hj : j < n) (h : c j = 0) : fnd c n = true ∧ j = bnd c n := by
  rcases bnd_pos hm hs hj with ⟨_, h1⟩ | ⟨h1, h2, _⟩ | ⟨_, _, h1⟩
  · omega
  · exact ⟨h2, h1⟩
  · omega
theorem RG.fndC {g : RG} (h : g.valid = true) {a : ConG} (ha : g.InC a) : fnd (g.cmC a.p a.q) g.nc = true := by
  obtain ⟨j, hj, rfl⟩ := ha
  exact (fnd_of (RG.cmC_mono (RG.v5 h) _ _) (RG.cmC_st (RG.v5 h) _ _) hj (lex_eq.2 ⟨rfl, rfl⟩)).1
end Go.Gx.Rg
