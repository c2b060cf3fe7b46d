/-
  Valid registers, plainly: what valid says, and that votes and the rest keep it.
-/
import Derived.Test.YtnajladibkpeaaaGreatW6
import Derived.Test.YtnajladibkpeaaaGreatU9
set_option linter.unusedVariables false
set_option linter.unusedSimpArgs false
set_option maxRecDepth 20000
set_option maxHeartbeats 4000000
namespace Go.Gx
open Go.RowKit Go.Proofs Go.Proofs.YtnajladibkpeaaaGreat

theorem befB_iff' {a b c d : Int} : befB a b c d = true ↔ a < c ∨ a = c ∧ b < d := by simp [befB]
/-- Pairs in order. -/
def srtd (n : Nat) (x y : Nat → Int) : Prop := ∀ a b, a < b → b < n → befB (x a) (y a) (x b) (y b) = true
theorem srtd.ne {n : Nat} {x y : Nat → Int} (h : srtd n x y) {i j : Nat} (hi : i < n) (hj : j < n) (e1 : x i = x j) (e2 : y i = y j) : i = j := by
  rcases Nat.lt_trichotomy i j with hl | hl | hl
  · have := befB_iff'.1 (h i j hl hj); omega
  · exact hl
  · have := befB_iff'.1 (h j i hl hi); omega
def ins {α : Type} (k : Nat) (v : α) (x : Nat → α) : Nat → α := fun j => if j < k then x j else if j = k then v else x (j - 1)
theorem srtd_ins {n k : Nat} {x y : Nat → Int} {p q : Int} (h : srtd n x y) (hk : k ≤ n) (h1 : ∀ j, j < k → befB (x j) (y j) p q = true) (h2 : ∀ j, k ≤ j → j < n → befB p q (x j) (y j) = true) :
    srtd (n + 1) (ins k p x) (ins k q y) := by
  intro a b hab hb
  unfold ins
  by_cases b1 : b < k
  · rw [if_pos (by omega), if_pos (by omega), if_pos b1, if_pos b1]
    exact h a b hab (by omega)
  by_cases b2 : b = k
  · subst b2
    simp only [if_neg b1, if_true, if_pos hab]
    exact h1 a hab
  · simp only [if_neg b1, if_neg b2]
    by_cases a1 : a < k
    · simp only [if_pos a1]
      exact befB_trans (h1 a a1) (h2 (b - 1) (by omega) (by omega))
    by_cases a2 : a = k
    · subst a2
      simp only [if_neg a1, if_true]
      exact h2 (b - 1) (by omega) (by omega)
    · simp only [if_neg a1, if_neg a2]
      exact h (a - 1) (b - 1) (by omega) (by omega)
def del {α : Type} (k : Nat) (x : Nat → α) : Nat → α := fun j => if j < k then x j else x (j + 1)
theorem srtd_del {n k : Nat} {x y : Nat → Int} (h : srtd n x y) : srtd (n - 1) (del k x) (del k y) := by
  intro a b hab hb
  unfold del
  by_cases b1 : b < k
  · simp only [if_pos b1, if_pos (show a < k by omega)]
    exact h a b hab (by omega)
  · simp only [if_neg b1]
    by_cases a1 : a < k
    · simp only [if_pos a1]; exact h a (b + 1) (by omega) (by omega)
    · simp only [if_neg a1]; exact h (a + 1) (b + 1) (by omega) (by omega)
theorem kept_lt' {p : Nat → Bool} {n i j : Nat} (hij : i < j) (hj : j < (kept p n).length) : (kept p n)[i]?.getD 0 < (kept p n)[j]?.getD 0 := by
  have h : (kept p n).Pairwise (· < ·) := List.Pairwise.filter _ List.pairwise_lt_range
  rw [List.getElem?_eq_getElem hj, List.getElem?_eq_getElem (by omega : i < (kept p n).length)]
  exact List.pairwise_iff_getElem.1 h i j (by omega) hj hij
theorem kept_at {p : Nat → Bool} {n i : Nat} (hi : i < (kept p n).length) : (kept p n)[i]?.getD 0 < n ∧ p ((kept p n)[i]?.getD 0) = false := by
  rw [List.getElem?_eq_getElem hi, Option.getD_some]
  have := List.mem_filter.1 (List.getElem_mem hi)
  exact ⟨List.mem_range.1 this.1, by simpa using this.2⟩
theorem srtd_kept {n : Nat} {x y : Nat → Int} {p : Nat → Bool} (h : srtd n x y) : srtd (kept p n).length (fun i => x ((kept p n)[i]?.getD 0)) (fun i => y ((kept p n)[i]?.getD 0)) :=
  fun a b hab hb => h _ _ (kept_lt' hab hb) (kept_at hb).1
theorem bnd_lo {c : Nat → Int} {n j : Nat} (h : j < bnd c n) : c j < 0 := by
  unfold bnd at h
  cases hf : (List.range n).find? fun i => decide (0 ≤ c i) with
  | none =>
    rw [hf] at h
    have := List.find?_eq_none.1 hf j (List.mem_range.2 h)
    simp at this
    omega
  | some i =>
    rw [hf] at h
    have := (List.find?_range_eq_some.1 hf).2.2 j h
    simp at this
    omega
theorem bnd_hi {c : Nat → Int} {n : Nat} (h : bnd c n < n) : 0 ≤ c (bnd c n) := by
  unfold bnd at h ⊢
  cases hf : (List.range n).find? fun i => decide (0 ≤ c i) with
  | none => rw [hf] at h; simp at h
  | some i =>
    have := (List.find?_range_eq_some.1 hf).1
    simpa using this
/-- Where a pair that is not there would stand. -/
theorem bnd_new {n : Nat} {x y : Nat → Int} {p q : Int} (h : srtd n x y) (hf : fnd (fun i => ordI (x i) (y i) p q) n = false) :
    (∀ j, j < bnd (fun i => ordI (x i) (y i) p q) n → befB (x j) (y j) p q = true) ∧ ∀ j, bnd (fun i => ordI (x i) (y i) p q) n ≤ j → j < n → befB p q (x j) (y j) = true := by
  refine ⟨fun j hj => ordI_neg.1 (bnd_lo hj), fun j hj hn => ?_⟩
  have hno : ∀ j, j < n → ¬ (x j = p ∧ y j = q) := fun j hj he => by
    have := (fnd_iff (n := n) (x := x) (y := y) h).2 ⟨j, hj, he.1, he.2⟩
    rw [hf] at this; cases this
  have h0 := bnd_hi (c := fun i => ordI (x i) (y i) p q) (n := n) (by omega)
  have key : ∀ i, i < n → 0 ≤ ordI (x i) (y i) p q → befB p q (x i) (y i) = true := fun i hi h0 => by
    have e := hno i hi
    rw [befB_iff']
    have hneg : ¬ (x i < p ∨ x i = p ∧ y i < q) := fun hc => by
      have := ordI_neg.2 (befB_iff'.2 hc)
      omega
    omega
  rcases Nat.lt_or_ge (bnd (fun i => ordI (x i) (y i) p q) n) j with hl | hl
  · exact befB_trans (key _ (by omega) h0) (h _ _ hl hn)
  · have : j = bnd (fun i => ordI (x i) (y i) p q) n := by omega
    rw [this]; exact key _ (by omega) h0
structure EG.Val (g : EG) : Prop where
  nr : g.nr ≤ 24
  nc : g.nc ≤ 40
  qu : ∀ i, i < g.nr → 0 ≤ (g.r i).q ∧ (g.r i).q ≤ 100
  ls : srtd g.nl (fun i => (g.l i).a) (fun i => (g.l i).b)
  lp : ∀ i, i < g.nl → g.th (g.l i).a = true ∧ g.th (g.l i).b = true ∧ (g.l i).a < (g.l i).b
  cs : srtd g.nc (fun i => (g.c i).a) (fun i => (g.c i).b)
  cp : ∀ i, i < g.nc → g.th (g.c i).a = true ∧ g.th (g.c i).b = true ∧ (g.c i).a < (g.c i).b
  cl : ∀ i j, i < g.nc → j < g.nl → ¬ ((g.l j).a = (g.c i).a ∧ (g.l j).b = (g.c i).b)
  cv : ∀ i, i < g.nc → votB (g.c i).nv (g.c i).v = true
  ld : ∀ i, i < g.nl → (g.l i).s = false → ¬ g.Con g.nl (g.l i).a (g.l i).b
theorem EG.val_iff {g : EG} : g.valid = true ↔ g.Val := by
  rw [← EG.pval_eq]
  constructor
  · intro h
    simp only [EG.pval, Bool.and_eq_true, decide_eq_true_eq] at h
    obtain ⟨⟨⟨⟨⟨⟨h1, h2⟩, h3⟩, h4⟩, h5⟩, h6⟩, h7⟩ := h
    have hl := EG.lks_sorted h4
    refine ⟨h1, h2, fun i hi => ?_, hl, fun i hi => ?_, EG.cos_sorted h5, fun i hi => ?_, fun i j hi hj he => ?_, fun i hi => ?_, fun i hi hs hc => ?_⟩
    · have := all_get h3 hi
      simpa [btw] using this
    · have := all_get h4 hi
      simp only [EG.lk1, EG.prB, Bool.and_eq_true, decide_eq_true_eq] at this
      exact ⟨this.1.1.1, this.1.1.2, this.1.2⟩
    · have := all_get h5 hi
      simp only [EG.co1, EG.prB, Bool.and_eq_true, decide_eq_true_eq] at this
      exact ⟨this.1.1.1, this.1.1.2, this.1.2⟩
    · have := all_get h6 hi
      simp only [EG.cs2, Bool.and_eq_true, Bool.not_eq_true'] at this
      have h9 : g.lin (g.c i).a (g.c i).b = true := (fnd_iff (x := fun i => (g.l i).a) (y := fun i => (g.l i).b) hl).2 ⟨j, hj, he.1, he.2⟩
      rw [this.1] at h9; cases h9
    · have := all_get h6 hi
      simp only [EG.cs2, Bool.and_eq_true] at this
      exact this.2
    · have := all_get h7 hi
      simp only [EG.lk2, hs, Bool.false_or, Bool.not_eq_true', decide_eq_false_iff_not] at this
      exact this (EG.con_iff.1 hc)
  · intro h
    simp only [EG.pval, Bool.and_eq_true, decide_eq_true_eq]
    refine ⟨⟨⟨⟨⟨⟨h.nr, h.nc⟩, all_yes fun i hi => ?_⟩, all_yes fun i hi => ?_⟩, all_yes fun i hi => ?_⟩, all_yes fun i hi => ?_⟩, all_yes fun i hi => ?_⟩
    · have := h.qu i hi
      simpa [btw] using this
    · have := h.lp i hi
      simp only [EG.lk1, EG.prB, Bool.and_eq_true, Bool.or_eq_true, decide_eq_true_eq]
      refine ⟨⟨⟨this.1, this.2.1⟩, this.2.2⟩, ?_⟩
      by_cases e : i = 0
      · exact .inl e
      · exact .inr (h.ls (i - 1) i (by omega) hi)
    · have := h.cp i hi
      simp only [EG.co1, EG.prB, Bool.and_eq_true, Bool.or_eq_true, decide_eq_true_eq]
      refine ⟨⟨⟨this.1, this.2.1⟩, this.2.2⟩, ?_⟩
      by_cases e : i = 0
      · exact .inl e
      · exact .inr (h.cs (i - 1) i (by omega) hi)
    · simp only [EG.cs2, Bool.and_eq_true, Bool.not_eq_true']
      refine ⟨?_, h.cv i hi⟩
      cases hf : g.lin (g.c i).a (g.c i).b with
      | false => rfl
      | true =>
        obtain ⟨j, hj, e1, e2⟩ := (fnd_iff (x := fun i => (g.l i).a) (y := fun i => (g.l i).b) h.ls).1 hf
        exact absurd ⟨e1, e2⟩ (h.cl i j hi hj)
    · cases hs : (g.l i).s with
      | true => simp [EG.lk2, hs]
      | false =>
        simp only [EG.lk2, hs, Bool.false_or, Bool.not_eq_true', decide_eq_false_iff_not]
        exact fun e => h.ld i hi hs (EG.con_iff.2 e)
theorem EG.Con.map {g h : EG} {m n : Nat} (ha : ∀ x y, g.adj m x y → h.adj n x y) {x y : Int} (hc : g.Con m x y) : h.Con n x y := by
  induction hc with
  | refl => exact .refl _
  | step _ a ih => exact .step ih (ha _ _ a)
end Go.Gx
/-
  Votes and withdrawals keep a register valid; what they do to the people.
-/
set_option linter.unusedVariables false
set_option linter.unusedSimpArgs false
set_option maxRecDepth 20000
set_option maxHeartbeats 4000000
namespace Go.Gx
open Go.RowKit Go.Proofs Go.Proofs.YtnajladibkpeaaaGreat

theorem ins_map {α β : Type} (f : α → β) (k : Nat) (v : α) (x : Nat → α) : (fun i => f (ins k v x i)) = ins k (f v) fun i => f (x i) := by
  funext i
  unfold ins
  split
  · rfl
  · split <;> rfl
theorem del_map {α β : Type} (f : α → β) (k : Nat) (x : Nat → α) : (fun i => f (del k x i)) = del k fun i => f (x i) := by
  funext i
  unfold del
  split <;> rfl
theorem votB_iff {n : Nat} {v : Nat → VtG} : votB n v = true ↔ (n = 1 ∨ n = 2) ∧ (∀ i, i < n → 0 ≤ (v i).o ∧ (v i).o ≤ 7) ∧ (n = 2 → ¬ (v 0).o = (v 1).o ∧ ¬ (v 0).s = (v 1).s) := by
  simp only [votB, Bool.and_eq_true, Bool.or_eq_true, decide_eq_true_eq, Bool.not_eq_true', decide_eq_false_iff_not, List.all_eq_true, List.mem_range, btw]
  constructor
  · rintro ⟨⟨⟨h1, h2⟩, h3⟩, h4⟩
    refine ⟨by omega, h3, fun e => ?_⟩
    rcases h4 with h4 | h4
    · omega
    · exact h4
  · rintro ⟨h1, h3, h4⟩
    refine ⟨⟨⟨by omega, by omega⟩, h3⟩, ?_⟩
    rcases h1 with h1 | h1
    · exact .inl h1
    · exact .inr (h4 h1)
theorem adj_addL {g : EG} {k : Nat} {p q : Int} {s : Bool} (hk : k ≤ g.nl) {x y : Int} : (g.addL k ⟨p, q, s⟩).adj (g.nl + 1) x y ↔ g.adj g.nl x y ∨ s = true ∧ (p = x ∧ q = y ∨ q = x ∧ p = y) := by
  constructor
  · rintro ⟨j, h1, h2, h3⟩
    simp only [EG.addL] at h2 h3
    by_cases a1 : j < k
    · rw [if_pos a1] at h2 h3
      exact .inl ⟨j, by omega, h2, h3⟩
    by_cases a2 : j = k
    · rw [if_neg a1, if_pos a2] at h2 h3
      exact .inr ⟨h2, h3⟩
    · rw [if_neg a1, if_neg a2] at h2 h3
      exact .inl ⟨j - 1, by omega, h2, h3⟩
  · rintro (⟨j, h1, h2, h3⟩ | ⟨h2, h3⟩)
    · by_cases a1 : j < k
      · refine ⟨j, by omega, ?_, ?_⟩ <;> simp only [EG.addL, if_pos a1]
        · exact h2
        · exact h3
      · refine ⟨j + 1, by omega, ?_, ?_⟩ <;> simp only [EG.addL, if_neg (show ¬ j + 1 < k by omega), if_neg (show ¬ j + 1 = k by omega), Nat.add_sub_cancel]
        · exact h2
        · exact h3
    · refine ⟨k, by omega, ?_, ?_⟩ <;> simp only [EG.addL, if_neg (Nat.lt_irrefl k), if_true]
      · exact h2
      · exact h3
/-- A link more, of two records that are the same: their people are one now. -/
theorem con_addL {g : EG} {k : Nat} {p q : Int} {s : Bool} (hk : k ≤ g.nl) {x y : Int} :
    (g.addL k ⟨p, q, s⟩).Con (g.nl + 1) x y ↔ g.Con g.nl x y ∨ s = true ∧ (g.Con g.nl x p ∧ g.Con g.nl q y ∨ g.Con g.nl x q ∧ g.Con g.nl p y) := by
  constructor
  · intro h
    induction h with
    | refl => exact .inl (.refl _)
    | step _ a ih =>
      rcases (adj_addL hk).1 a with a | ⟨hs, a⟩
      · rcases ih with ih | ⟨hs, ⟨i1, i2⟩ | ⟨i1, i2⟩⟩
        · exact .inl (.step ih a)
        · exact .inr ⟨hs, .inl ⟨i1, .step i2 a⟩⟩
        · exact .inr ⟨hs, .inr ⟨i1, .step i2 a⟩⟩
      · rcases a with ⟨rfl, rfl⟩ | ⟨rfl, rfl⟩
        · rcases ih with ih | ⟨_, ⟨i1, i2⟩ | ⟨i1, i2⟩⟩
          · exact .inr ⟨hs, .inl ⟨ih, .refl _⟩⟩
          · exact .inr ⟨hs, .inl ⟨i1, .refl _⟩⟩
          · exact .inl i1
        · rcases ih with ih | ⟨_, ⟨i1, i2⟩ | ⟨i1, i2⟩⟩
          · exact .inr ⟨hs, .inr ⟨ih, .refl _⟩⟩
          · exact .inl i1
          · exact .inr ⟨hs, .inr ⟨i1, .refl _⟩⟩
  · have up : ∀ {x y}, g.Con g.nl x y → (g.addL k ⟨p, q, s⟩).Con (g.nl + 1) x y := fun h => h.map fun x y a => (adj_addL hk).2 (.inl a)
    rintro (h | ⟨hs, ⟨h1, h2⟩ | ⟨h1, h2⟩⟩)
    · exact up h
    · exact (EG.Con.step (up h1) ((adj_addL hk).2 (.inr ⟨hs, .inl ⟨rfl, rfl⟩⟩))).trans (up h2)
    · exact (EG.Con.step (up h1) ((adj_addL hk).2 (.inr ⟨hs, .inr ⟨rfl, rfl⟩⟩))).trans (up h2)
theorem con_same {g h : EG} (hl : g.l = h.l) {n : Nat} {x y : Int} : g.Con n x y ↔ h.Con n x y :=
  ⟨fun k => k.map fun x y ⟨j, a⟩ => ⟨j, by rw [← hl]; exact a⟩, fun k => k.map fun x y ⟨j, a⟩ => ⟨j, by rw [hl]; exact a⟩⟩
theorem con_dropL {g : EG} {k : Nat} {x y : Int} (h : (g.dropL k).Con (g.nl - 1) x y) : g.Con g.nl x y :=
  h.map fun x y ⟨j, h1, h2, h3⟩ => by
    simp only [EG.dropL] at h2 h3
    by_cases a1 : j < k
    · rw [if_pos a1] at h2 h3; exact ⟨j, by omega, h2, h3⟩
    · rw [if_neg a1] at h2 h3; exact ⟨j + 1, by omega, h2, h3⟩
theorem EG.voteE_zero {g : EG} {o a b : Int} {s : Bool} (h : g.voteE o a b s = 0) : g.valid = true ∧ (0 ≤ o ∧ o ≤ 7) ∧ ¬ a = b ∧ g.th a = true ∧ g.th b = true ∧ g.lin (min a b) (max a b) = false ∧
    (g.cin (min a b) (max a b) = false ∧ ¬ g.nc = 40 ∨ g.cin (min a b) (max a b) = true ∧ (g.c (g.cat (min a b) (max a b))).has o = false ∧
      ((g.c (g.cat (min a b) (max a b))).says s = false ∨ (g.c (g.cat (min a b) (max a b))).says s = true ∧ g.clash (min a b) (max a b) s = false)) := by
  unfold EG.voteE at h
  split at h
  · cases h
  rename_i h1
  split at h
  · cases h
  rename_i h2
  split at h
  · cases h
  rename_i h3
  split at h
  · cases h
  rename_i h4
  have h3a : ¬ a = b := fun e => h3 (.inl e)
  have h3b : g.th a = true := by
    cases e : g.th a with
    | true => rfl
    | false => exact absurd (.inr (.inl e)) h3
  have h3c : g.th b = true := by
    cases e : g.th b with
    | true => rfl
    | false => exact absurd (.inr (.inr e)) h3
  have h2 : 0 ≤ o ∧ o ≤ 7 := by omega
  refine ⟨by simpa using h1, h2, h3a, h3b, h3c, by simpa using h4, ?_⟩
  split at h
  · rename_i h5
    split at h
    · cases h
    · rename_i h6; exact .inl ⟨h5, h6⟩
  rename_i h5
  split at h
  · cases h
  rename_i h6
  refine .inr ⟨by simpa using h5, by simpa using h6, ?_⟩
  split at h
  · rename_i h7; exact .inl h7
  rename_i h7
  split at h
  · cases h
  rename_i h8
  exact .inr ⟨by simpa using h7, by simpa using h8⟩
theorem EG.ap_no {g : EG} {p q : Int} (h : ¬ 0 ≤ g.ap p q) : ∀ j, j < g.nl → (g.l j).s = false → ¬ (min (g.q (g.l j).a) (g.q (g.l j).b) = min (g.q p) (g.q q) ∧ max (g.q (g.l j).a) (g.q (g.l j).b) = max (g.q p) (g.q q)) := fun j hj hs he => by
  unfold EG.ap at h
  rcases ixB_cases (g.apB p q) g.nl with ⟨_, h2⟩ | ⟨i, _, _, _, h2⟩
  · have := h2 j hj
    simp [EG.apB, hs, he.1, he.2] at this
  · rw [h2] at h; omega
theorem th_min' {g : EG} {a b : Int} (ha : g.th a = true) (hb : g.th b = true) : g.th (min a b) = true ∧ g.th (max a b) = true := by
  rcases Int.le_total a b with h | h
  · rw [Int.min_eq_left h, Int.max_eq_right h]; exact ⟨ha, hb⟩
  · rw [Int.min_eq_right h, Int.max_eq_left h]; exact ⟨hb, ha⟩
theorem EG.Val.addC {g : EG} (h : g.Val) {p q : Int} (hp : g.th p = true) (hq : g.th q = true) (hpq : p < q) (hl : g.lin p q = false) (hc : g.cin p q = false) (hn : g.nc < 40) {nv : Nat} {v : Nat → VtG} (hv : votB nv v = true) :
    (g.addC (g.cat p q) ⟨p, q, nv, v⟩).Val := by
  have hb := bnd_new h.cs hc
  have hk : g.cat p q ≤ g.nc := g.cat_le p q
  have e1 : (fun i => ((g.addC (g.cat p q) ⟨p, q, nv, v⟩).c i).a) = ins (g.cat p q) p fun i => (g.c i).a := ins_map CsG.a _ _ _
  have e2 : (fun i => ((g.addC (g.cat p q) ⟨p, q, nv, v⟩).c i).b) = ins (g.cat p q) q fun i => (g.c i).b := ins_map CsG.b _ _ _
  have el : ∀ (Q : CsG → Prop), Q ⟨p, q, nv, v⟩ → (∀ i, i < g.nc → Q (g.c i)) → ∀ i, i < g.nc + 1 → Q ((g.addC (g.cat p q) ⟨p, q, nv, v⟩).c i) := fun Q h0 h1 i hi => by
    simp only [EG.addC]
    split
    · exact h1 i (by omega)
    · split
      · exact h0
      · exact h1 (i - 1) (by omega)
  refine ⟨h.nr, hn, h.qu, h.ls, h.lp, ?_, el (fun c => g.th c.a = true ∧ g.th c.b = true ∧ c.a < c.b) ⟨hp, hq, hpq⟩ h.cp, fun i j hi hj => ?_, el (fun c => votB c.nv c.v = true) hv h.cv, fun i hi hs hcn => h.ld i hi hs ((con_same (g := g.addC (g.cat p q) ⟨p, q, nv, v⟩) (h := g) rfl).1 hcn)⟩
  · rw [e1, e2]; exact srtd_ins h.cs hk hb.1 hb.2
  · refine el (fun c => ¬ ((g.l j).a = c.a ∧ (g.l j).b = c.b)) (fun he => ?_) (fun i hi => h.cl i j hi hj) i hi
    have : g.lin p q = true := (fnd_iff (x := fun i => (g.l i).a) (y := fun i => (g.l i).b) h.ls).2 ⟨j, hj, he.1, he.2⟩
    rw [hl] at this; cases this
theorem EG.Val.addV {g : EG} (h : g.Val) {k : Nat} (hk : k < g.nc) {o : Int} {s : Bool} (ho : 0 ≤ o ∧ o ≤ 7) (hh : (g.c k).has o = false) (hs : (g.c k).says s = false) : (g.addV k ⟨o, s⟩).Val := by
  have ea : ∀ i, ((g.addV k ⟨o, s⟩).c i).a = (g.c i).a := fun i => by
    simp only [EG.addV]
    split
    · rename_i e; rw [e]; rfl
    · rfl
  have eb : ∀ i, ((g.addV k ⟨o, s⟩).c i).b = (g.c i).b := fun i => by
    simp only [EG.addV]
    split
    · rename_i e; rw [e]; rfl
    · rfl
  refine ⟨h.nr, h.nc, h.qu, h.ls, h.lp, ?_, fun i hi => ?_, fun i j hi hj => ?_, fun i hi => ?_, fun i hi hs hcn => h.ld i hi hs ((con_same (g := g.addV k ⟨o, s⟩) (h := g) rfl).1 hcn)⟩
  · simp only [ea, eb]; exact h.cs
  · rw [ea, eb]; exact h.cp i hi
  · rw [ea, eb]; exact h.cl i j hi hj
  · by_cases e : i = k
    · subst e
      have hv := votB_iff.1 (h.cv i hi)
      have hno : ∀ j, j < (g.c i).nv → ¬ ((g.c i).v j).o = o := fun j hj => by
        have := List.any_eq_false.1 hh j (List.mem_range.2 hj); simpa using this
      have hns : ∀ j, j < (g.c i).nv → ¬ ((g.c i).v j).s = s := fun j hj => by
        have := List.any_eq_false.1 hs j (List.mem_range.2 hj); simpa using this
      have h1 : (g.c i).nv = 1 := by
        rcases hv.1 with h1 | h1
        · exact h1
        · exfalso
          have d := (hv.2.2 h1).2
          have d0 := hns 0 (by omega)
          have d1 := hns 1 (by omega)
          cases hx : ((g.c i).v 0).s <;> cases hy : ((g.c i).v 1).s <;> cases s <;> simp [hx, hy] at d d0 d1
      simp only [EG.addV, if_true]
      refine votB_iff.2 ⟨.inr (by simp only [CsG.addV]; omega), fun j hj => ?_, fun _ => ?_⟩
      · simp only [CsG.addV] at hj ⊢
        split
        · exact hv.2.1 j (by assumption)
        · exact ho
      · simp only [CsG.addV, h1]
        exact ⟨hno 0 (by omega), hns 0 (by omega)⟩
    · simp only [EG.addV, if_neg e]; exact h.cv i hi
theorem EG.Val.dropC {g : EG} (h : g.Val) (k : Nat) : (g.dropC k).Val := by
  have el : ∀ (Q : CsG → Prop), (∀ i, i < g.nc → Q (g.c i)) → ∀ i, i < g.nc - 1 → Q ((g.dropC k).c i) := fun Q h1 i hi => by
    simp only [EG.dropC]
    split
    · exact h1 i (by omega)
    · exact h1 (i + 1) (by omega)
  have e1 : (fun i => ((g.dropC k).c i).a) = del k fun i => (g.c i).a := del_map CsG.a _ _
  have e2 : (fun i => ((g.dropC k).c i).b) = del k fun i => (g.c i).b := del_map CsG.b _ _
  have hn := h.nc
  refine ⟨h.nr, by show g.nc - 1 ≤ 40; omega, h.qu, h.ls, h.lp, ?_, el (fun c => g.th c.a = true ∧ g.th c.b = true ∧ c.a < c.b) h.cp, fun i j hi hj => el (fun c => ¬ ((g.l j).a = c.a ∧ (g.l j).b = c.b)) (fun i hi => h.cl i j hi hj) i hi,
    el (fun c => votB c.nv c.v = true) h.cv, fun i hi hs hcn => h.ld i hi hs ((con_same (g := g.dropC k) (h := g) rfl).1 hcn)⟩
  rw [e1, e2]; exact srtd_del h.cs
theorem EG.Val.addL {g : EG} (h : g.Val) {p q : Int} {s : Bool} (hp : g.th p = true) (hq : g.th q = true) (hpq : p < q) (hl : g.lin p q = false) (hc : ∀ i, i < g.nc → ¬ ((g.c i).a = p ∧ (g.c i).b = q)) (hx : g.clash p q s = false) :
    (g.addL (g.lat p q) ⟨p, q, s⟩).Val := by
  have hb := bnd_new h.ls hl
  have hk : g.lat p q ≤ g.nl := g.lat_le p q
  have e1 : (fun i => ((g.addL (g.lat p q) ⟨p, q, s⟩).l i).a) = ins (g.lat p q) p fun i => (g.l i).a := ins_map LkG.a _ _ _
  have e2 : (fun i => ((g.addL (g.lat p q) ⟨p, q, s⟩).l i).b) = ins (g.lat p q) q fun i => (g.l i).b := ins_map LkG.b _ _ _
  have el : ∀ (Q : LkG → Prop), Q ⟨p, q, s⟩ → (∀ i, i < g.nl → Q (g.l i)) → ∀ i, i < g.nl + 1 → Q ((g.addL (g.lat p q) ⟨p, q, s⟩).l i) := fun Q h0 h1 i hi => by
    simp only [EG.addL]
    split
    · exact h1 i (by omega)
    · split
      · exact h0
      · exact h1 (i - 1) (by omega)
  refine ⟨h.nr, h.nc, h.qu, ?_, el (fun l => g.th l.a = true ∧ g.th l.b = true ∧ l.a < l.b) ⟨hp, hq, hpq⟩ h.lp, h.cs, h.cp,
    fun i j hi hj => el (fun l => ¬ (l.a = (g.c i).a ∧ l.b = (g.c i).b)) (fun he => hc i hi ⟨he.1.symm, he.2.symm⟩) (fun j hj => h.cl i j hi hj) j hj, h.cv, ?_⟩
  · rw [e1, e2]; exact srtd_ins h.ls hk hb.1 hb.2
  · refine el (fun l => l.s = false → ¬ (g.addL (g.lat p q) ⟨p, q, s⟩).Con (g.nl + 1) l.a l.b) (fun hs hcn => ?_) (fun i hi hs hcn => ?_)
    · rcases (con_addL hk).1 hcn with h1 | ⟨h1, _⟩
      · have hs : s = false := hs
        subst hs
        simp only [EG.clash] at hx
        simp at hx
        exact hx (EG.con_iff.1 h1)
      · have hs : s = false := hs
        rw [hs] at h1; cases h1
    · rcases (con_addL hk).1 hcn with h1 | ⟨h1, h2⟩
      · exact h.ld i hi hs h1
      · subst h1
        simp only [EG.clash, if_true, decide_eq_false_iff_not] at hx
        have := EG.ap_no hx i hi hs
        rcases h2 with ⟨c1, c2⟩ | ⟨c1, c2⟩
        · have c1 := EG.con_iff.1 c1
          have c2 := EG.con_iff.1 c2
          apply this
          show min (g.pm g.nl _) (g.pm g.nl _) = min (g.pm g.nl _) (g.pm g.nl _) ∧ max (g.pm g.nl _) (g.pm g.nl _) = max (g.pm g.nl _) (g.pm g.nl _)
          rw [c1, ← c2]
          exact ⟨rfl, rfl⟩
        · have c1 := EG.con_iff.1 c1
          have c2 := EG.con_iff.1 c2
          apply this
          show min (g.pm g.nl _) (g.pm g.nl _) = min (g.pm g.nl _) (g.pm g.nl _) ∧ max (g.pm g.nl _) (g.pm g.nl _) = max (g.pm g.nl _) (g.pm g.nl _)
          rw [c1, ← c2]
          exact ⟨Int.min_comm _ _, Int.max_comm _ _⟩
theorem EG.clash_dropC (g : EG) (k : Nat) (p q : Int) (s : Bool) : (g.dropC k).clash p q s = g.clash p q s := by
  have hpm : ∀ n x, (g.dropC k).pm n x = g.pm n x := fun n => by
    induction n with
    | zero => intro x; rfl
    | succ n ih => intro x; simp only [EG.pm, ih]; rfl
  have hap : (g.dropC k).ap p q = g.ap p q := by
    unfold EG.ap
    refine ixB_congr fun i _ => ?_
    unfold EG.apB EG.q
    simp only [hpm]
    rfl
  unfold EG.clash
  rw [hap]
  unfold EG.q
  simp only [hpm]
  rfl
theorem EG.Val.vote {g : EG} {o a b : Int} {s : Bool} (h : g.voteE o a b s = 0) : (g.voteG o a b s).Val := by
  obtain ⟨h1, h2, h3, h4, h5, h6, h7⟩ := EG.voteE_zero h
  have hv := EG.val_iff.1 h1
  obtain ⟨t1, t2⟩ := th_min' h4 h5
  have hlt : min a b < max a b := by omega
  unfold EG.voteG
  rcases h7 with ⟨c1, c2⟩ | ⟨c1, c2, c3 | ⟨c3, c4⟩⟩
  · rw [if_pos c1]
    have := hv.nc
    exact hv.addC t1 t2 hlt h6 c1 (by omega) (votB_iff.2 ⟨.inl rfl, fun _ _ => h2, fun e => by cases e⟩)
  · rw [if_neg (by rw [c1]; simp), if_pos c3]
    exact hv.addV (EG.cin_lt c1) h2 c2 c3
  · rw [if_neg (by rw [c1]; simp), if_neg (by rw [c3]; simp)]
    have hcos := EG.valid_cos h1
    refine (hv.dropC _).addL (g := g.dropC (g.cat (min a b) (max a b))) t1 t2 hlt h6 (fun i hi he => ?_) (by rw [EG.clash_dropC]; exact c4)
    have hi : i < g.nc - 1 := hi
    simp only [EG.dropC] at he
    split at he
    · rename_i hlt2
      have := EG.cat_at hcos (show i < g.nc by omega)
      rw [he.1, he.2] at this
      omega
    · rename_i hlt2
      have := EG.cat_at hcos (show i + 1 < g.nc by omega)
      rw [he.1, he.2] at this
      omega
theorem EG.Val.dropL {g : EG} (h : g.Val) (k : Nat) : (g.dropL k).Val := by
  have el : ∀ (Q : LkG → Prop), (∀ i, i < g.nl → Q (g.l i)) → ∀ i, i < g.nl - 1 → Q ((g.dropL k).l i) := fun Q h1 i hi => by
    simp only [EG.dropL]
    split
    · exact h1 i (by omega)
    · exact h1 (i + 1) (by omega)
  have e1 : (fun i => ((g.dropL k).l i).a) = del k fun i => (g.l i).a := del_map LkG.a _ _
  have e2 : (fun i => ((g.dropL k).l i).b) = del k fun i => (g.l i).b := del_map LkG.b _ _
  refine ⟨h.nr, h.nc, h.qu, ?_, el (fun l => g.th l.a = true ∧ g.th l.b = true ∧ l.a < l.b) h.lp, h.cs, h.cp, fun i j hi hj => el (fun l => ¬ (l.a = (g.c i).a ∧ l.b = (g.c i).b)) (fun j hj => h.cl i j hi hj) j hj, h.cv,
    el (fun l => l.s = false → ¬ (g.dropL k).Con (g.nl - 1) l.a l.b) fun i hi hs hc => h.ld i hi hs (con_dropL hc)⟩
  rw [e1, e2]; exact srtd_del h.ls
end Go.Gx
/-
  What a vote does to the people.
-/
set_option linter.unusedVariables false
set_option linter.unusedSimpArgs false
set_option maxRecDepth 20000
set_option maxHeartbeats 4000000
namespace Go.Gx
open Go.RowKit Go.Proofs Go.Proofs.YtnajladibkpeaaaGreat

theorem EG.vote_nr (g : EG) (o a b : Int) (s : Bool) : (g.voteG o a b s).nr = g.nr ∧ (g.voteG o a b s).r = g.r := by
  unfold EG.voteG
  split
  · exact ⟨rfl, rfl⟩
  · split <;> exact ⟨rfl, rfl⟩
theorem EG.th_of {g h : EG} (h1 : h.nr = g.nr) (h2 : h.r = g.r) (a : Int) : h.th a = g.th a := by
  unfold EG.th
  rw [h1, h2]
theorem con_addC {g : EG} {i : Nat} {c : CsG} {n : Nat} {x y : Int} : (g.addC i c).Con n x y ↔ g.Con n x y := con_same (g := g.addC i c) (h := g) rfl
theorem con_addV {g : EG} {i : Nat} {v : VtG} {n : Nat} {x y : Int} : (g.addV i v).Con n x y ↔ g.Con n x y := con_same (g := g.addV i v) (h := g) rfl
theorem con_dropC {g : EG} {i : Nat} {n : Nat} {x y : Int} : (g.dropC i).Con n x y ↔ g.Con n x y := con_same (g := g.dropC i) (h := g) rfl
theorem EG.vote_con {g : EG} {o a b : Int} {s : Bool} {x y : Int} : (g.voteG o a b s).Con (g.voteG o a b s).nl x y ↔
    g.Con g.nl x y ∨ (g.voteD a b s = true ∧ s = true) ∧ (g.Con g.nl x a ∧ g.Con g.nl b y ∨ g.Con g.nl x b ∧ g.Con g.nl a y) := by
  unfold EG.voteG EG.voteD
  by_cases c1 : g.cin (min a b) (max a b) = false
  · rw [if_pos c1, c1]
    refine ⟨fun h => .inl (con_addC.1 h), fun h => ?_⟩
    rcases h with h | ⟨⟨h, _⟩, _⟩
    · exact con_addC.2 h
    · cases h
  have c1' : g.cin (min a b) (max a b) = true := by simpa using c1
  rw [if_neg c1]
  by_cases c2 : (g.c (g.cat (min a b) (max a b))).says s = false
  · rw [if_pos c2, c2]
    refine ⟨fun h => .inl (con_addV.1 h), fun h => ?_⟩
    rcases h with h | ⟨⟨h, _⟩, _⟩
    · exact con_addV.2 h
    · rw [Bool.and_false] at h; cases h
  have c2' : (g.c (g.cat (min a b) (max a b))).says s = true := by simpa using c2
  rw [if_neg c2, c1', c2']
  have hd : ∀ {x y}, (g.dropC (g.cat (min a b) (max a b))).Con (g.dropC (g.cat (min a b) (max a b))).nl x y ↔ g.Con g.nl x y := con_dropC
  have hk : g.lat (min a b) (max a b) ≤ (g.dropC (g.cat (min a b) (max a b))).nl := g.lat_le _ _
  have key := con_addL (g := g.dropC (g.cat (min a b) (max a b))) (p := min a b) (q := max a b) (s := s) hk (x := x) (y := y)
  simp only [hd] at key
  rw [show ((g.dropC (g.cat (min a b) (max a b))).addL (g.lat (min a b) (max a b)) ⟨min a b, max a b, s⟩).nl = (g.dropC (g.cat (min a b) (max a b))).nl + 1 from rfl, key]
  rcases Int.le_total a b with h | h
  · rw [Int.min_eq_left h, Int.max_eq_right h]; simp
  · rw [Int.min_eq_right h, Int.max_eq_left h]; simp only [Bool.and_self, true_and]; exact or_congr Iff.rfl (and_congr Iff.rfl Or.comm)
theorem EG.hc_root {g : EG} (hl : g.lth) {a : Nat} (ha : a < g.nr) : g.hc g.nr a = true ↔ g.th a = true ∧ ∀ y, g.Con g.nl a y → (a : Int) ≤ y := by
  rw [EG.hc_iff]
  constructor
  · rintro ⟨b, b1, b2, b3⟩
    refine ⟨by rw [← b3]; exact EG.pm_th hl b2, fun y hy => ?_⟩
    have h1 := g.pm_pm b
    rw [b3] at h1
    have h2 := EG.con_iff.1 hy
    have h3 := g.pm_le g.nl y
    omega
  · rintro ⟨h1, h2⟩
    refine ⟨a, ha, h1, ?_⟩
    have h3 := h2 _ (g.con_pm g.nl a)
    have h4 := g.pm_le g.nl a
    omega
theorem EG.ppN_eq {g : EG} (hv : g.valid = true) : g.ppN = ((List.range g.nr).filter fun a : Nat => g.hc g.nr a).length := by
  unfold EG.ppN
  rw [if_pos hv, EG.ppl_rts (EG.valid_lth hv) (EG.valid_inl hv), List.length_map]
  rfl
theorem EG.ppN_same {g h : EG} (hg : g.valid = true) (hh : h.valid = true) (h1 : h.nr = g.nr) (h2 : h.r = g.r) (hc : ∀ x y, h.Con h.nl x y ↔ g.Con g.nl x y) : h.ppN = g.ppN := by
  rw [EG.ppN_eq hg, EG.ppN_eq hh, h1]
  congr 1
  refine List.filter_congr fun a ha => ?_
  have ha := List.mem_range.1 ha
  rw [Bool.eq_iff_iff]
  have e := EG.hc_root (g := h) (EG.valid_lth hh) (a := a) (by omega)
  rw [h1] at e
  rw [e, EG.hc_root (EG.valid_lth hg) ha, EG.th_of h1 h2]
  simp only [hc]
theorem filter_less {P P' : Nat → Bool} {r : Nat} (hr : P r = true) (h : ∀ a, P' a = (P a && !decide (a = r))) : ∀ n, ((List.range n).filter P).length = ((List.range n).filter P').length + if r < n then 1 else 0
  | 0 => by simp
  | n + 1 => by
    rw [List.range_succ, List.filter_append, List.filter_append, List.length_append, List.length_append, filter_less hr h n]
    by_cases e : n = r
    · subst e
      have h1 := h n
      simp only [decide_true, Bool.not_true, Bool.and_false] at h1
      simp [hr, h1]
    · have h1 := h n
      simp only [e, decide_false, Bool.not_false, Bool.and_true] at h1
      have e2 : (r < n + 1) = (r < n) := by rw [eq_iff_iff]; omega
      simp only [e2, List.filter_cons, List.filter_nil, h1]
      split <;> split <;> simp <;> omega
theorem EG.ppN_join {g h : EG} {p q : Int} (hg : g.valid = true) (hh : h.valid = true) (h1 : h.nr = g.nr) (h2 : h.r = g.r) (tp : g.th p = true) (tq : g.th q = true) (hne : ¬ g.Con g.nl p q)
    (hc : ∀ x y, h.Con h.nl x y ↔ g.Con g.nl x y ∨ (g.Con g.nl x p ∧ g.Con g.nl q y ∨ g.Con g.nl x q ∧ g.Con g.nl p y)) : g.ppN = h.ppN + 1 := by
  have hl := EG.valid_lth hg
  have bp := EG.th_iff.1 tp
  have bq := EG.th_iff.1 tq
  have b1 := EG.pm_bd hl g.nl p (Nat.le_refl _) (by omega) (by omega)
  have b2 := EG.pm_bd hl g.nl q (Nat.le_refl _) (by omega) (by omega)
  have hn : ¬ g.pm g.nl p = g.pm g.nl q := fun e => hne (EG.con_iff.2 e)
  have tq1 := EG.pm_th hl tp
  have tq2 := EG.pm_th hl tq
  have pp1 := g.pm_pm p
  have pp2 := g.pm_pm q
  obtain ⟨r, hr⟩ : ∃ r : Nat, max (g.pm g.nl p) (g.pm g.nl q) = r := ⟨(max (g.pm g.nl p) (g.pm g.nl q)).toNat, by omega⟩
  have hrn : r < g.nr := by omega
  have root : ∀ a : Nat, a < g.nr → (g.hc g.nr a = true ↔ g.th a = true ∧ g.pm g.nl a = a) := fun a ha => by
    rw [EG.hc_root hl ha]
    refine and_congr Iff.rfl ⟨fun k => ?_, fun e y hy => ?_⟩
    · have k1 := k _ (g.con_pm g.nl a)
      have k2 := g.pm_le g.nl a
      omega
    · have k1 := EG.con_iff.1 hy
      have k2 := g.pm_le g.nl y
      omega
  have rr : g.hc g.nr r = true := (root r hrn).2 (by
    rcases Int.le_total (g.pm g.nl p) (g.pm g.nl q) with hle | hle
    · rw [Int.max_eq_right hle] at hr; rw [← hr]; exact ⟨tq2, pp2⟩
    · rw [Int.max_eq_left hle] at hr; rw [← hr]; exact ⟨tq1, pp1⟩)
  rw [EG.ppN_eq hg, EG.ppN_eq hh, h1]
  have key : ∀ a : Nat, a < g.nr → h.hc g.nr a = (g.hc g.nr a && !decide (a = r)) := fun a ha => by
    rw [Bool.eq_iff_iff]
    have e := EG.hc_root (g := h) (EG.valid_lth hh) (a := a) (by omega)
    rw [h1] at e
    rw [e, EG.th_of h1 h2, Bool.and_eq_true, root a ha, Bool.not_eq_true', decide_eq_false_iff_not]
    constructor
    · rintro ⟨k1, k2⟩
      have k3 := k2 _ ((hc _ _).2 (.inl (g.con_pm g.nl a)))
      have k4 := g.pm_le g.nl a
      have k5 : g.pm g.nl a = a := by omega
      refine ⟨⟨k1, k5⟩, fun e => ?_⟩
      subst e
      rcases Int.le_total (g.pm g.nl p) (g.pm g.nl q) with hle | hle
      · rw [Int.max_eq_right hle] at hr
        have := k2 (g.pm g.nl p) ((hc _ _).2 (.inr (.inr ⟨EG.con_iff.2 (by omega), g.con_pm g.nl p⟩)))
        omega
      · rw [Int.max_eq_left hle] at hr
        have := k2 (g.pm g.nl q) ((hc _ _).2 (.inr (.inl ⟨EG.con_iff.2 (by omega), g.con_pm g.nl q⟩)))
        omega
    · rintro ⟨⟨k1, k2⟩, k3⟩
      refine ⟨k1, fun y hy => ?_⟩
      have k4 := g.pm_le g.nl y
      rcases (hc _ _).1 hy with k5 | ⟨k5, k6⟩ | ⟨k5, k6⟩
      · have := EG.con_iff.1 k5; omega
      · have e1 := EG.con_iff.1 k5
        have e2 := EG.con_iff.1 k6
        omega
      · have e1 := EG.con_iff.1 k5
        have e2 := EG.con_iff.1 k6
        omega
  have e : (List.range g.nr).filter (fun a : Nat => h.hc g.nr a) = (List.range g.nr).filter (fun a : Nat => g.hc g.nr a && !decide (a = r)) := List.filter_congr fun a ha => key a (List.mem_range.1 ha)
  rw [e, filter_less (P := fun a : Nat => g.hc g.nr a) (P' := fun a : Nat => g.hc g.nr a && !decide (a = r)) rr (fun _ => rfl) g.nr, if_pos hrn]
theorem EG.joB_iff {g : EG} (hv : g.valid = true) {a b : Int} : g.joB a b = true ↔ g.th a = true ∧ g.th b = true ∧ g.Con g.nl a b := by
  unfold EG.joB
  rw [hv]
  simp only [Bool.true_and, Bool.and_eq_true, decide_eq_true_eq, and_assoc]
  exact and_congr Iff.rfl (and_congr Iff.rfl EG.con_iff.symm)
end Go.Gx
