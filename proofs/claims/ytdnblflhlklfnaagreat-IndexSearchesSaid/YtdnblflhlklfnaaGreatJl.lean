/-
  Split.
-/
import Derived.Test.YtdnblflhlklfnaaGreatJk
set_option linter.unusedVariables false
set_option linter.unusedSimpArgs false
set_option maxRecDepth 20000
set_option maxHeartbeats 4000000
namespace Go.Gx.Ix
open Go.RowKit Go.Proofs Go.Proofs.YtdnblflhlklfnaaGreat

/-- The members of the first k that fall to a part. -/
def ptM (ms : List MbG) (S k j : Nat) : List MbG := (ms.take k).filter fun a => decide (a.id.tmod S = j)
theorem ptM_zero (ms : List MbG) (S j : Nat) : ptM ms S 0 j = [] := by simp [ptM]
theorem ptM_succ (ms : List MbG) (S j : Nat) {k : Nat} (hk : k < ms.length) : ptM ms S (k + 1) j = ptM ms S k j ++ if ms[k].id.tmod S = j then [ms[k]] else [] := by
  unfold ptM
  rw [List.take_succ_eq_append_getElem hk, List.filter_append]
  congr 1
  by_cases h : ms[k].id.tmod S = j <;> simp [h]
theorem ptM_len (ms : List MbG) (S k j : Nat) : (ptM ms S k j).length ≤ ms.length := by
  unfold ptM
  refine Nat.le_trans (List.length_filter_le _ _) ?_
  rw [List.length_take]; omega
def isMr (R : Option Reg) (l : List MbG) : Prop := ∃ f, R = some (.vec 74 3 l.length f) ∧ ∀ i j, i < l.length → j < 3 → f i j = .r (mrows l i j)
theorem isMr_kill {R : Option Reg} {l : List MbG} (r : Nat) (h : isMr R l) : isMr (R.map (Reg.kill r)) l := by
  obtain ⟨f, rfl, h2⟩ := h
  exact ⟨_, rfl, fun i j hi hj => by rw [h2 i j hi hj]; rfl⟩
theorem isMr_fz {R : Option Reg} {l : List MbG} (r : Nat) (R' : Reg) (h : isMr R l) : isMr (R.map (Reg.fz r R')) l := by
  obtain ⟨f, rfl, h2⟩ := h
  exact ⟨_, rfl, fun i j hi hj => by rw [h2 i j hi hj]; rfl⟩
structure SpI (x : IxG) (S k : Nat) (M : Mem) (nx : Nat) (pos : Nat → Nat) : Prop where
  h0 : M 0 = some (.box (ixC x))
  hn : 2 ≤ nx
  hv : ∃ f, M 1 = some (.vec 22 1 S f) ∧ ∀ j, j < S → f j 0 = if ptM x.ms S k j = [] then nilS else .sl (pos j) 3 0 (ptM x.ms S k j).length none
  hl : ∀ j, j < S → ptM x.ms S k j ≠ [] → 2 ≤ pos j ∧ pos j < nx ∧ isMr (M (pos j)) (ptM x.ms S k j)
  hi : ∀ i j, i < S → j < S → ptM x.ms S k i ≠ [] → ptM x.ms S k j ≠ [] → pos i = pos j → i = j
theorem SpI.grow {x : IxG} {S k nx nx' r j : Nat} {M M' : Mem} {pos : Nat → Nat} (h : SpI x S k M nx pos) {a : MbG} (hj : j < S)
    (hs : ∀ i, ptM x.ms S (k + 1) i = ptM x.ms S k i ++ if i = j then [a] else [])
    (h0 : M' 0 = some (.box (ixC x))) (hn : nx ≤ nx') {f' : Nat → Nat → SV} (h1 : M' 1 = some (.vec 22 1 S f')) (h1j : f' j 0 = .sl r 3 0 ((ptM x.ms S k j).length + 1) none)
    (h1o : ∀ i, i < S → i ≠ j → f' i 0 = if ptM x.ms S k i = [] then nilS else .sl (pos i) 3 0 (ptM x.ms S k i).length none)
    (hr : 2 ≤ r ∧ r < nx') (hlr : isMr (M' r) (ptM x.ms S k j ++ [a])) (ho : ∀ i, i < S → i ≠ j → ptM x.ms S k i ≠ [] → pos i ≠ r ∧ isMr (M' (pos i)) (ptM x.ms S k i)) :
    SpI x S (k + 1) M' nx' (fun i => if i = j then r else pos i) := by
  have sj : ptM x.ms S (k + 1) j = ptM x.ms S k j ++ [a] := by rw [hs j, if_pos rfl]
  have so : ∀ i, i ≠ j → ptM x.ms S (k + 1) i = ptM x.ms S k i := fun i hi => by rw [hs i, if_neg hi, List.append_nil]
  refine ⟨h0, Nat.le_trans h.hn hn, ⟨f', h1, fun i hi => ?_⟩, fun i hi hne => ?_, fun i i' hi hi' hne hne' e => ?_⟩
  · by_cases e : i = j
    · subst e
      rw [h1j, sj, if_neg (by simp)]; simp
    · rw [so i e, h1o i hi e]; simp [e]
  · by_cases e : i = j
    · subst e
      simp only [if_true]
      rw [sj]
      exact ⟨hr.1, hr.2, hlr⟩
    · simp only [if_neg e]
      rw [so i e] at hne ⊢
      obtain ⟨q1, q2, q3⟩ := h.hl i hi hne
      exact ⟨q1, by omega, (ho i hi e hne).2⟩
  · by_cases e1 : i = j
    · by_cases e2 : i' = j
      · omega
      · simp only [if_pos e1, if_neg e2] at e
        rw [so i' e2] at hne'
        exact absurd e.symm (ho i' hi' e2 hne').1
    · by_cases e2 : i' = j
      · simp only [if_pos e2, if_neg e1] at e
        rw [so i e1] at hne
        exact absurd e (ho i hi e1 hne).1
      · simp only [if_neg e1, if_neg e2] at e
        rw [so i e1] at hne
        rw [so i' e2] at hne'
        exact h.hi i i' hi hi' hne hne' e
def IxG.f (x : IxG) : Nat → RV
  | 0 => .rs 3 x.ms.length (mrows x.ms)
  | j + 1 => .rs 3 (x.ch j).length (prows (x.ch j))
structure TpI (x : IxG) (S po k : Nat) (M : Mem) (nx : Nat) (pos : Nat → Nat) : Prop where
  hp : 2 ≤ po ∧ po < nx
  hv : ∃ f, M 1 = some (.vec 22 1 S f) ∧ ∀ j, j < S → k ≤ j → f j 0 = if ptM x.ms S x.ms.length j = [] then nilS else .sl (pos j) 3 0 (ptM x.ms S x.ms.length j).length none
  hl : ∀ j, j < S → k ≤ j → ptM x.ms S x.ms.length j ≠ [] → 2 ≤ pos j ∧ pos j < nx ∧ pos j ≠ po ∧ isMr (M (pos j)) (ptM x.ms S x.ms.length j)
  hi : ∀ i j, i < S → j < S → ptM x.ms S x.ms.length i ≠ [] → ptM x.ms S x.ms.length j ≠ [] → pos i = pos j → i = j
  ho : ∃ g, M po = some (.vec 26 9 k g) ∧ ∀ i c, i < k → c < 9 → g i c = .r ((ofG (ptM x.ms S x.ms.length i)).f c)
theorem TpI.step {x : IxG} {S po k nx' : Nat} {M M2 : Mem} {pos : Nat → Nat} (h : TpI x S po k M nx' pos) (h1 : ∃ f2, M2 1 = some (.vec 22 1 S f2) ∧ ∀ j, j < S → k + 1 ≤ j → f2 j 0 = if ptM x.ms S x.ms.length j = [] then nilS else .sl (pos j) 3 0 (ptM x.ms S x.ms.length j).length none)
    (h2 : ∀ j, j < S → k + 1 ≤ j → ptM x.ms S x.ms.length j ≠ [] → isMr (M2 (pos j)) (ptM x.ms S x.ms.length j))
    (h3 : ∃ g, M2 po = some (.vec 26 9 (k + 1) g) ∧ ∀ i c, i < k + 1 → c < 9 → g i c = .r ((ofG (ptM x.ms S x.ms.length i)).f c)) : TpI x S po (k + 1) M2 (nx' + 1) pos := by
  refine ⟨⟨h.hp.1, by have := h.hp.2; omega⟩, h1, fun j hj hk hne => ?_, h.hi, h3⟩
  obtain ⟨q1, q2, q3, _⟩ := h.hl j hj (by omega) hne
  exact ⟨q1, by omega, q3, h2 j hj hk hne⟩
theorem xjoin (q k : Nat) (g : Nat → Nat → SV) (F : Nat → IxG) (hg : ∀ i c, i < k → c < 9 → g i c = .r ((F i).f c)) (y : IxG) (hy : F k = y) (i c : Nat) (hi : i < k + 1) (hc : c < 9) :
    SV.kill q (joined k 1 g (fun i j => [mrs y.ms, pls (y.ch 0), pls (y.ch 1), pls (y.ch 2), pls (y.ch 3), pls (y.ch 4), pls (y.ch 5), pls (y.ch 6), pls (y.ch 7)][i * 9 + j]?.getD (SV.r RV.any)) i c) = .r ((F i).f c) := by
  unfold joined
  by_cases h : i < k
  · rw [if_pos h, hg i c h hc]; rfl
  · obtain rfl : i = k := by omega
    rw [if_neg h, if_pos (by omega), Nat.sub_self, hy]
    rcases (show c = 0 ∨ c = 1 ∨ c = 2 ∨ c = 3 ∨ c = 4 ∨ c = 5 ∨ c = 6 ∨ c = 7 ∨ c = 8 by omega) with rfl | rfl | rfl | rfl | rfl | rfl | rfl | rfl | rfl <;> rfl
def spE (x : IxG) (shards : Int) : Int := if validX x = false then 40 else if shards < 1 ∨ 16 < shards then 2 else 0
abbrev xls (n : Nat) (g : Nat → IxG) : SV := .r (.rs 9 n fun i c => (g i).f c)
theorem mone (a : MbG) (i j : Nat) (hi : i < 1) (hj : j < 3) : [SV.r (RV.i a.id), SV.r (RV.w a.x.c), SV.r (RV.w a.x.m)][i * 3 + j]?.getD (SV.r RV.any) = .r (mrows [a] i j) := by
  obtain rfl : i = 0 := by omega
  rcases (show j = 0 ∨ j = 1 ∨ j = 2 by omega) with rfl | rfl | rfl <;> rfl
theorem mjoin (p : Nat) (L : List MbG) (a : MbG) (g : Nat → Nat → SV) (hg : ∀ i j, i < L.length → j < 3 → g i j = .r (mrows L i j)) (i j : Nat) (hi : i < L.length + 1) (hj : j < 3) :
    SV.kill p (joined L.length 1 g (fun i j => [SV.r (RV.i a.id), SV.r (RV.w a.x.c), SV.r (RV.w a.x.m)][i * 3 + j]?.getD (SV.r RV.any)) i j) = .r (mrows (L ++ [a]) i j) := by
  unfold joined
  by_cases h : i < L.length
  · rw [if_pos h, hg i j h hj, mrow h, mrow (by rw [List.length_append]; omega), List.getElem_append_left h]; rfl
  · obtain rfl : i = L.length := by omega
    rw [if_neg h, if_pos (by omega), Nat.sub_self]
    have hm : (fun i j => [SV.r (RV.i a.id), SV.r (RV.w a.x.c), SV.r (RV.w a.x.m)][i * 3 + j]?.getD (SV.r RV.any)) 0 j = SV.r (mrows [a] 0 j) := mone a 0 j (by omega) hj
    rw [hm, mrow (l := L ++ [a]) (by rw [List.length_append, List.length_singleton]; omega), List.getElem_append_right (Nat.le_refl _), mrow (l := [a]) (by simp)]
    simp [SV.kill]
theorem nil_xls (e : Int) (g : Nat → IxG) : (SV.tup [nilS, .i e]).le (.tup [xls 0 g, .i e]) := le_tup ⟨le_r (nil_rs 9 _), SV.le.rfl, trivial⟩
end Go.Gx.Ix
