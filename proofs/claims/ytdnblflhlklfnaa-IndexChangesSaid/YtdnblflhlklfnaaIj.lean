/-
  Of, plainly: chunks stay in order; the index in frozen memory.
-/
import Derived.Test.YtdnblflhlklfnaaIi
set_option linter.unusedVariables false
set_option linter.unusedSimpArgs false
set_option maxRecDepth 20000
set_option maxHeartbeats 4000000
namespace Go.Gx.Ix
open Go.RowKit Go.Proofs Go.Proofs.Ytdnblflhlklfnaa

theorem gD {l : List Int} {i : Nat} (h : i < l.length) : l.getD i 0 = l[i] := by simp [List.getD, h]
theorem memR_nil (r : Nat) : memR [] r = none := by rw [memR_get]; rfl
/-- What comes back in new memory, read alone. -/
theorem own_pure {P : Program} {f : FuncId} {args : List SV} {S : SV} {Rs' : List Reg} {φ : SV → Prop} (h : Own P f [] args S Rs') (hv : gview (memR Rs') S φ) : Pure P f args φ := by
  intro Z w vs hZ ha
  have hno : ∀ b, ¬ Wof (fun _ => none) (memR []) b := by
    rintro b ⟨r, R, L, h1, _⟩
    rw [memR_nil] at h1; cases h1
  have hm : MOK (fun b => Z b ∨ w.heap.size ≤ b) (Wof (fun _ => none) (memR [])) w.heap.size (fun _ => none) (memR []) (From ([] : List Reg).length) w :=
    ⟨fun b hb => .inr (hb.elim id fun h => (hno b h).elim), fun _ _ => rfl, fun r R h => (by rw [memR_nil] at h; cases h), fun r r' R R' L L' b h => (by rw [memR_nil] at h; cases h), fun r R L b h => (by rw [memR_nil] at h; cases h)⟩
  have hk : Keep Z (Zof (fun b => Z b ∨ w.heap.size ≤ b) (fun _ => none) (memR []) w) w w := fun b hb => ⟨⟨⟨hZ b hb, .inl hb⟩, fun r R L h => (by rw [memR_nil] at h; cases h)⟩, rfl⟩
  obtain ⟨h1, h2⟩ := h _ _ w vs hm (SV.relL_mono (fun _ _ h => h) hk _ _ ha)
  refine ⟨h1, h2.mono fun e w' h' => ?_⟩
  obtain ⟨y, σ', rfl, hm', hrel, hfr, _⟩ := h'
  obtain ⟨s', k1, r1⟩ := gview_rel (Z' := fun b => Z b ∨ (w.heap.size ≤ b ∧ b < w'.heap.size)) hm' (fun b hb => hb.1.2.imp id fun h => ⟨h, hb.1.1⟩) (fun r R L b h1 h2 h3 => .inr (by
    obtain ⟨L', e1, e2⟩ := hm'.reg r R h1
    rw [h2] at e1; cases e1
    refine ⟨?_, e2.block h3⟩
    rcases hm'.own r R L b h1 h2 h3 with h | h
    · exact (hno _ h).elim
    · exact h)) S φ y hv hrel
  exact ⟨y, s', rfl, k1, r1, ⟨hfr.os, hfr.tape, hfr.output, hfr.size, hfr.drawn, fun b hb _ => hfr.block b hb (hno b)⟩⟩

/-- Posting p lies ahead of q. -/
def bef (p q : PsG) : Prop := p.m.toNat < q.m.toNat ∨ p.m.toNat = q.m.toNat ∧ p.c.toNat < q.c.toNat
structure Inv (L : List PsG) (k : Nat) : Prop where
  len : L.length ≤ k
  cells : L.Pairwise bef
  ids : ∀ p ∈ L, p.ids.length ≤ k ∧ p.ids.Pairwise (· ≤ ·)
theorem ordI_lt {a b c d : Nat} : ordI a b c d < 0 ↔ a < c ∨ a = c ∧ b < d := by
  rw [ordI_neg]; unfold befB; simp; omega
theorem pcm_neg {L : List PsG} {m c : BitVec 8} {i : Nat} (h : i < L.length) : pcm L m c i < 0 ↔ L[i].m.toNat < m.toNat ∨ L[i].m.toNat = m.toNat ∧ L[i].c.toNat < c.toNat := by
  rw [pcm_at h, ordI_lt]
theorem Inv.mono {L : List PsG} {k : Nat} (h : Inv L k) {m c : BitVec 8} : ∀ a b, a < b → b < L.length → pcm L m c b < 0 → pcm L m c a < 0 := by
  intro a b hab hb
  rw [pcm_neg hb, pcm_neg (by omega : a < L.length)]
  have := List.pairwise_iff_getElem.1 h.cells a b (by omega) hb hab
  unfold bef at this
  omega
theorem sorted_mono {l : List Int} (h : l.Pairwise (· ≤ ·)) {id : Int} : ∀ a b, a < b → b < l.length → l.getD b 0 < id → l.getD a 0 < id := by
  intro a b hab hb
  have := List.pairwise_iff_getElem.1 h a b (by omega) hb hab
  rw [gD hb, gD (by omega : a < l.length)]
  omega
theorem Inv.srt {L : List PsG} {k : Nat} (h : Inv L k) (hk : k ≤ 1000) (m c : BitVec 8) (id : Int) : Srt L m c id :=
  ⟨Nat.le_trans h.len hk, h.mono, fun p hp => ⟨Nat.le_trans (h.ids p hp).1 hk, sorted_mono (h.ids p hp).2⟩⟩
/-- The bound splits. -/
theorem bnd_split {c : Nat → Int} {n : Nat} (hm : ∀ a b, a < b → b < n → c b < 0 → c a < 0) : (∀ j, j < bnd c n → c j < 0) ∧ ∀ j, bnd c n ≤ j → j < n → 0 ≤ c j := by
  have h0 : ∀ j, j < bnd c n → c j < 0 := by
    intro j hj
    unfold bnd at hj
    cases h : (List.range n).find? fun i => decide (0 ≤ c i) with
    | none =>
      rw [h] at hj
      have := List.find?_eq_none.1 h j (List.mem_range.2 hj)
      simp at this; omega
    | some i =>
      rw [h] at hj
      have := (List.find?_range_eq_some.1 h).2.2 j hj
      simp at this; omega
  refine ⟨h0, fun j h1 h2 => ?_⟩
  have hb : bnd c n < n := by omega
  have h3 : 0 ≤ c (bnd c n) := by
    unfold bnd at hb ⊢
    cases h : (List.range n).find? fun i => decide (0 ≤ c i) with
    | none => rw [h] at hb; simp at hb
    | some i =>
      have := (List.find?_range_eq_some.1 h).1
      simpa using this
  by_cases e : j = bnd c n
  · rw [e]; exact h3
  · by_cases h4 : c j < 0
    · have := hm _ j (by omega : bnd c n < j) h2 h4
      omega
    · omega
theorem insI_sorted {l : List Int} (h : l.Pairwise (· ≤ ·)) (id : Int) : (insI l id).Pairwise (· ≤ ·) ∧ (insI l id).length = l.length + 1 ∧ (insI l id).Perm (id :: l) := by
  unfold insI
  have hm : ∀ a b, a < b → b < l.length → l.getD b 0 - id < 0 → l.getD a 0 - id < 0 := fun a b h1 h2 h3 => by
    have := sorted_mono h (id := id) a b h1 h2 (by omega); omega
  obtain ⟨h1, h2⟩ := bnd_split (c := fun i => l.getD i 0 - id) (n := l.length) hm
  have hle : bnd (fun i => l.getD i 0 - id) l.length ≤ l.length := bnd_le
  generalize bnd (fun i => l.getD i 0 - id) l.length = k at *
  refine ⟨?_, by simp; omega, ?_⟩
  · rw [List.pairwise_append]
    refine ⟨h.sublist (List.take_sublist k l), ?_, ?_⟩
    · rw [List.pairwise_cons]
      refine ⟨fun a ha => ?_, h.sublist (List.drop_sublist k l)⟩
      obtain ⟨i, hi, rfl⟩ := List.mem_iff_getElem.1 ha
      have hi' : k + i < l.length := by simp at hi; omega
      have := h2 (k + i) (by omega) hi'
      rw [List.getElem_drop]
      rw [gD hi'] at this
      omega
    · intro a ha b hb
      obtain ⟨i, hi, rfl⟩ := List.mem_iff_getElem.1 ha
      have hi' : i < k ∧ i < l.length := by simp at hi; omega
      have h3 := h1 i hi'.1
      rw [gD hi'.2] at h3
      rw [List.getElem_take]
      rcases List.mem_cons.1 hb with rfl | hb
      · omega
      · obtain ⟨j, hj, rfl⟩ := List.mem_iff_getElem.1 hb
        have hj' : k + j < l.length := by simp at hj; omega
        have := h2 (k + j) (by omega) hj'
        rw [List.getElem_drop]
        rw [gD hj'] at this
        omega
  · exact (List.perm_middle.trans (by rw [List.take_append_drop]))
theorem addL_inv {L : List PsG} {k : Nat} (h : Inv L k) (m c : BitVec 8) : Inv (addL L m c) (k + 1) ∧ (∀ hk : pat L m c < (addL L m c).length, (addL L m c)[pat L m c].m = m ∧ (addL L m c)[pat L m c].c = c) := by
  obtain ⟨h1, h2⟩ := bnd_split (c := pcm L m c) (n := L.length) h.mono
  have hle : bnd (pcm L m c) L.length ≤ L.length := bnd_le
  have hz : ∀ i, (hi : i < L.length) → (pcm L m c i = 0 ↔ L[i].m = m ∧ L[i].c = c) := fun i hi => by
    rw [pcm_at hi, ordI_zero, ← BitVec.toNat_inj, ← BitVec.toNat_inj]
    omega
  unfold addL pis pat fnd
  generalize bnd (pcm L m c) L.length = k0 at *
  by_cases hf : (decide (k0 < L.length) && decide (pcm L m c k0 = 0)) = true
  · simp only [hf, if_true]
    refine ⟨⟨by have := h.len; omega, h.cells, fun p hp => ⟨by have := (h.ids p hp).1; omega, (h.ids p hp).2⟩⟩, fun hk => ?_⟩
    simp at hf
    exact (hz k0 hk).1 hf.2
  · rw [if_neg hf]
    have hf' : ∀ hk : k0 < L.length, ¬ pcm L m c k0 = 0 := fun hk e => hf (by simp [hk, e])
    refine ⟨⟨by have := h.len; simp; omega, ?_, fun p hp => ?_⟩, fun hk => ?_⟩
    · rw [List.pairwise_append]
      have up : ∀ j, k0 ≤ j → (hj : j < L.length) → m.toNat < L[j].m.toNat ∨ m.toNat = L[j].m.toNat ∧ c.toNat < L[j].c.toNat := by
        intro j hj hjl
        have g1 := h2 j hj hjl
        have g2 : ¬ pcm L m c j < 0 := by omega
        rw [pcm_neg hjl] at g2
        have g3 : ¬ (L[k0]'(by omega)).m = m ∨ ¬ (L[k0]'(by omega)).c = c := by
          have := hf' (by omega)
          rw [hz _ (by omega)] at this
          exact Decidable.not_and_iff_not_or_not.1 this
        by_cases e : j = k0
        · subst e
          rw [← BitVec.toNat_inj, ← BitVec.toNat_inj] at g3
          omega
        · have g4 := List.pairwise_iff_getElem.1 h.cells k0 j (by omega) hjl (by omega)
          unfold bef at g4
          have g5 := h2 k0 (Nat.le_refl _) (by omega)
          have g6 : ¬ pcm L m c k0 < 0 := by omega
          rw [pcm_neg (by omega : k0 < L.length)] at g6
          omega
      refine ⟨h.cells.sublist (List.take_sublist k0 L), ?_, ?_⟩
      · rw [List.pairwise_cons]
        refine ⟨fun a ha => ?_, h.cells.sublist (List.drop_sublist k0 L)⟩
        obtain ⟨i, hi, rfl⟩ := List.mem_iff_getElem.1 ha
        have hi' : k0 + i < L.length := by simp at hi; omega
        rw [List.getElem_drop]
        exact up _ (by omega) hi'
      · intro a ha b hb
        obtain ⟨i, hi, rfl⟩ := List.mem_iff_getElem.1 ha
        have hi' : i < k0 ∧ i < L.length := by simp at hi; omega
        have h3 := h1 i hi'.1
        rw [pcm_neg hi'.2] at h3
        rw [List.getElem_take]
        rcases List.mem_cons.1 hb with rfl | hb
        · exact h3
        · obtain ⟨j, hj, rfl⟩ := List.mem_iff_getElem.1 hb
          have hj' : k0 + j < L.length := by simp at hj; omega
          rw [List.getElem_drop]
          exact List.pairwise_iff_getElem.1 h.cells i (k0 + j) hi'.2 hj' (by omega)
    · rcases List.mem_append.1 hp with hp | hp
      · have := h.ids p (List.mem_of_mem_take hp); exact ⟨by omega, this.2⟩
      · rcases List.mem_cons.1 hp with rfl | hp
        · exact ⟨by simp, .nil⟩
        · have := h.ids p (List.mem_of_mem_drop hp); exact ⟨by omega, this.2⟩
    · have hlt : (L.take k0).length = k0 := by simp; omega
      rw [List.getElem_append_right (by omega)]
      simp [hlt]
theorem addP_inv {L : List PsG} {k : Nat} (h : Inv L k) (m c : BitVec 8) (id : Int) : Inv (addP L m c id) (k + 1) := by
  obtain ⟨⟨i1, i2, i3⟩, _⟩ := addL_inv h m c
  unfold addP
  generalize pat L m c = q
  generalize hL : addL L m c = L2 at *
  have hids : ∀ p ∈ L2, p.ids.length ≤ k ∧ p.ids.Pairwise (· ≤ ·) := by
    intro p hp
    rw [← hL] at hp
    unfold addL at hp
    split at hp
    · exact h.ids p hp
    · rcases List.mem_append.1 hp with hp | hp
      · exact h.ids p (List.mem_of_mem_take hp)
      · rcases List.mem_cons.1 hp with rfl | hp
        · exact ⟨Nat.zero_le _, .nil⟩
        · exact h.ids p (List.mem_of_mem_drop hp)
  refine ⟨by simpa using i1, ?_, fun p hp => ?_⟩
  · rw [List.pairwise_iff_getElem] at i2 ⊢
    intro i j hi hj hij
    simp only [List.length_modify] at hi hj
    have := i2 i j hi hj hij
    simp only [List.getElem_modify, bef] at this ⊢
    repeat' split
    all_goals exact this
  · obtain ⟨i, hi, rfl⟩ := List.mem_iff_getElem.1 hp
    simp only [List.length_modify] at hi
    have h1 := hids L2[i] (List.getElem_mem hi)
    rw [List.getElem_modify]
    split
    · have h2 := insI_sorted h1.2 id
      exact ⟨by simp only; omega, h2.1⟩
    · exact ⟨by omega, h1.2⟩
theorem cK_inv (ms : List MbG) (j : Nat) : ∀ k, k ≤ ms.length → Inv (cK ms k j) k
  | 0, _ => ⟨Nat.le_refl _, .nil, fun p hp => by cases hp⟩
  | k + 1, h => by
    rw [cK_succ (by omega : k < ms.length)]
    exact addP_inv (cK_inv ms j k (by omega)) _ _ _
/-- An index: members, and eight lists of postings. -/
structure IxG where
  ms : List MbG
  ch : Nat → List PsG
abbrev pls (l : List PsG) : SV := .r (.rs 3 l.length (prows l))
def IxG.sv (x : IxG) : SV := .agg (mrs x.ms :: (List.range 8).map fun j => pls (x.ch j))
def ofG (l : List MbG) : IxG := ⟨srtM l, fun j => cK (srtM l) l.length j⟩
theorem of52' (l : List MbG) (hn : l.length ≤ 1000) : Own Try.prog 52 [] [mrs l] (.agg (.sl 0 3 0 l.length none :: (List.range 8).map fun j => .sl (j + 1) 3 0 ((ofG l).ch j).length none)) (mreg (ofG l).ms :: (List.range 8).map fun j => preg ((ofG l).ch j)) :=
  of52 l hn fun k j hk _ => (cK_inv (srtM l) j k (by omega)).srt (by have := (srtM_spec l).2.1; omega) _ _ _
theorem of52p (l : List MbG) (hn : l.length ≤ 1000) : Pure Try.prog 52 [mrs l] (· = (ofG l).sv) := by
  refine Pure.ofSub (own_pure (of52' l hn) ?_)
  have e : (ofG l).ms.length = l.length := (srtM_spec l).2.1
  unfold IxG.sv
  simp [go_sem, e]
end Go.Gx.Ix
