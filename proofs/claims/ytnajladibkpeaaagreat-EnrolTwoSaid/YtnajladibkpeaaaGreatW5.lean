/-
  (What stood here is Kr now.)
-/
import Derived.Test.YtnajladibkpeaaaGreatU2
import Derived.Test.YtnajladibkpeaaaGreatKr
import Derived.Test.YtnajladibkpeaaaGreatW2
import Derived.Test.YtnajladibkpeaaaGreatW4
import Derived.Test.YtnajladibkpeaaaGreatU9

/-
  Morphs: the program's.
-/
set_option linter.unusedVariables false
set_option linter.unusedSimpArgs false
set_option maxRecDepth 20000
set_option maxHeartbeats 4000000
namespace Go.Gx
open Go.RowKit Go.Proofs Go.Proofs.YtnajladibkpeaaaGreat

theorem EG.looks_succ (g : EG) (m : MG) (a : Nat) {k : Nat} (hk : k < m.l.length) : g.looks m a (k + 1) = g.looks m a k ++ (if g.q m.l[k].a = g.q m.l[k].b then [] else if m.l[k].a = (a : Int) then [m.l[k].b.toNat] else if m.l[k].b = (a : Int) then [m.l[k].a.toNat] else []) := by
  unfold EG.looks
  rw [List.take_add_one, List.filterMap_append, List.getElem?_eq_getElem hk]
  congr 1
  simp only [Option.toList, List.filterMap_cons, List.filterMap_nil]
  by_cases h1 : g.q m.l[k].a = g.q m.l[k].b
  · simp [h1]
  by_cases h2 : m.l[k].a = (a : Int)
  · simp only [if_neg h1, if_pos h2]
  by_cases h3 : m.l[k].b = (a : Int)
  · simp only [if_neg h1, if_neg h2, if_pos h3]
  · simp only [if_neg h1, if_neg h2, if_neg h3]
theorem EG.looks_len (g : EG) (m : MG) (a k : Nat) : (g.looks m a k).length ≤ k := by
  unfold EG.looks
  have h := List.length_filterMap_le (fun p : PrG => if g.q p.a = g.q p.b then none else if p.a = (a : Int) then some p.b.toNat else if p.b = (a : Int) then some p.a.toNat else none) (m.l.take k)
  rw [List.length_take] at h
  omega
/-- A region with a list of numbers. -/
def isL (R : Option Reg) (l : List Nat) : Prop := ∃ f, R = some (.vec 3 1 l.length f) ∧ ∀ i, i < l.length → f i 0 = SV.i (nth l i : Nat)
theorem isL_app {l : List Nat} {x ref : Nat} {f gt : Nat → Nat → SV} (hf : ∀ i, i < l.length → f i 0 = SV.i (nth l i : Nat)) (hg : gt 0 0 = SV.i (x : Nat)) {n : Nat} (hn : n = l.length + 1) :
    isL (some (.vec 3 1 n fun i j => SV.kill ref (joined l.length 1 f gt i j))) (l ++ [x]) := by
  subst hn
  refine ⟨_, by rw [List.length_append]; rfl, fun i hi => ?_⟩
  rw [List.length_append] at hi
  have hi : i < l.length + 1 := hi
  unfold joined
  by_cases h : i < l.length
  · simp only [h, if_true, hf i h]
    rw [nth_app (by omega), if_pos h]
    rfl
  · have e : i = l.length := by omega
    subst e
    simp only [Nat.lt_irrefl, if_false, Nat.sub_self]
    rw [if_pos (by omega), hg, nth_app (by omega), if_neg (by omega)]
    rfl
theorem isL_one {x : Nat} {f : Nat → Nat → SV} (h : f 0 0 = SV.i (x : Nat)) {n : Nat} (hn : n = 1) : isL (some (.vec 3 1 n f)) ([] ++ [x]) := by
  subst hn
  refine ⟨f, rfl, fun i hi => ?_⟩
  have hi : i < 1 := hi
  have e : i = 0 := by omega
  subst e
  exact h
theorem isL_kill {R : Option Reg} {l : List Nat} (ref : Nat) (h : isL R l) : isL (R.map (Reg.kill ref)) l := by
  obtain ⟨f, rfl, h2⟩ := h
  exact ⟨_, rfl, fun i hi => by rw [h2 i hi]; rfl⟩
/-- The lists of looks, as they lie in the memory. -/
structure LkI (g : EG) (m : MG) (k : Nat) (M : Mem) (nx : Nat) (has : Int → Bool) (val : Int → SV) (pos : Nat → Nat) : Prop where
  h0 : M 0 = g.bx
  hn : 2 ≤ nx
  hm : ∃ st, M 1 = some (.map has val st)
  hh : ∀ x, has x = true ↔ ∃ c : Nat, x = c ∧ c < g.nr ∧ g.looks m c k ≠ []
  hv : ∀ c : Nat, has c = true → val c = .sl (pos c) 1 0 (g.looks m c k).length none ∧ 2 ≤ pos c ∧ pos c < nx ∧ isL (M (pos c)) (g.looks m c k)
  hi : ∀ c d : Nat, has c = true → has d = true → pos c = pos d → c = d
theorem LkI.no {g : EG} {m : MG} {k nx : Nat} {M : Mem} {has : Int → Bool} {val : Int → SV} {pos : Nat → Nat} (h : LkI g m k M nx has val pos) {c : Nat} (e : g.looks m c k = []) : has c = false := by
  cases hc : has c with
  | false => rfl
  | true =>
    obtain ⟨d, h1, _, h3⟩ := (h.hh c).1 hc
    have : d = c := by omega
    subst this
    exact absurd e h3
theorem LkI.yes {g : EG} {m : MG} {k nx : Nat} {M : Mem} {has : Int → Bool} {val : Int → SV} {pos : Nat → Nat} (h : LkI g m k M nx has val pos) {c : Nat} (hc : c < g.nr) (e : ¬ g.looks m c k = []) : has c = true := (h.hh c).2 ⟨c, rfl, hc, e⟩
/-- Two lists have grown. -/
theorem LkI.grow {g : EG} {m : MG} {k a b nx nx' ra rb : Nat} {M M' : Mem} {has : Int → Bool} {val : Int → SV} {pos : Nat → Nat} (h : LkI g m k M nx has val pos) (hab : ¬ a = b) (ha : a < g.nr) (hb : b < g.nr)
    (hs : ∀ c : Nat, g.looks m c (k + 1) = g.looks m c k ++ if (a : Int) = (c : Int) then [b] else if (b : Int) = (c : Int) then [a] else [])
    (h0 : M' 0 = g.bx) (hn : nx ≤ nx') {has' : Int → Bool} {val' : Int → SV} {st'} (hm : M' 1 = some (.map has' val' st')) (hh : ∀ x, has' x = (decide (x = (b : Int)) || (decide (x = (a : Int)) || has x)))
    (hva : val' a = .sl ra 1 0 ((g.looks m a k).length + 1) none) (hvb : val' b = .sl rb 1 0 ((g.looks m b k).length + 1) none) (hvo : ∀ c : Nat, ¬ c = a → ¬ c = b → has c = true → val' c = .sl (pos c) 1 0 (g.looks m c k).length none)
    (hra : 2 ≤ ra ∧ ra < nx') (hrb : 2 ≤ rb ∧ rb < nx') (hla : isL (M' ra) (g.looks m a k ++ [b])) (hlb : isL (M' rb) (g.looks m b k ++ [a])) (hne : ¬ ra = rb)
    (ho : ∀ c : Nat, ¬ c = a → ¬ c = b → has c = true → ¬ pos c = ra ∧ ¬ pos c = rb ∧ isL (M' (pos c)) (g.looks m c k)) :
    LkI g m (k + 1) M' nx' has' val' (fun c => if c = a then ra else if c = b then rb else pos c) := by
  have sa : g.looks m a (k + 1) = g.looks m a k ++ [b] := by rw [hs a, if_pos rfl]
  have sb : g.looks m b (k + 1) = g.looks m b k ++ [a] := by rw [hs b, if_neg (by omega), if_pos rfl]
  have so : ∀ c : Nat, ¬ c = a → ¬ c = b → g.looks m c (k + 1) = g.looks m c k := fun c h1 h2 => by rw [hs c, if_neg (by omega), if_neg (by omega), List.append_nil]
  have ho' : ∀ c : Nat, ¬ c = a → ¬ c = b → has' c = true → has c = true := fun c h1 h2 h3 => by
    rw [hh c] at h3
    simpa [show ¬ (c : Int) = b by omega, show ¬ (c : Int) = a by omega] using h3
  refine ⟨h0, Nat.le_trans h.hn hn, ⟨st', hm⟩, fun x => ?_, fun c hc => ?_, fun c d hc hd e => ?_⟩
  · rw [hh x]
    constructor
    · intro hx
      by_cases e1 : x = b
      · exact ⟨b, e1, hb, by rw [sb]; simp⟩
      by_cases e2 : x = a
      · exact ⟨a, e2, ha, by rw [sa]; simp⟩
      · simp [e1, e2] at hx
        obtain ⟨c, h1, h2, h3⟩ := (h.hh x).1 hx
        exact ⟨c, h1, h2, by rw [so c (by omega) (by omega)]; exact h3⟩
    · rintro ⟨c, h1, h2, h3⟩
      by_cases e1 : c = b
      · simp [h1, e1]
      by_cases e2 : c = a
      · simp [h1, e2]
      · rw [so c e2 e1] at h3
        rw [(h.hh x).2 ⟨c, h1, h2, h3⟩]
        simp
  · by_cases e1 : c = a
    · subst e1
      simp only [if_true]
      rw [sa, hva]
      exact ⟨by simp, hra.1, hra.2, hla⟩
    by_cases e2 : c = b
    · subst e2
      simp only [if_neg e1, if_true]
      rw [sb, hvb]
      exact ⟨by simp, hrb.1, hrb.2, hlb⟩
    · simp only [if_neg e1, if_neg e2]
      have hc' := ho' c e1 e2 hc
      obtain ⟨q1, q2, q3, q4⟩ := h.hv c hc'
      rw [so c e1 e2]
      exact ⟨hvo c e1 e2 hc', q2, by omega, (ho c e1 e2 hc').2.2⟩
  · by_cases e1 : c = a
    · by_cases e2 : d = a
      · omega
      by_cases e3 : d = b
      · simp only [e1, e2, e3, if_true] at e
        simp [show ¬ b = a by omega] at e
        omega
      · simp only [e1, e2, e3, if_true, if_false] at e
        have := (ho d e2 e3 (ho' d e2 e3 hd)).1
        omega
    by_cases e2 : c = b
    · by_cases e3 : d = b
      · omega
      by_cases e4 : d = a
      · simp only [e1, e2, e3, e4, if_true] at e
        simp [show ¬ b = a by omega] at e
        omega
      · simp only [e2, e3, e4, if_true, if_false] at e
        simp [show ¬ b = a by omega] at e
        have := (ho d e4 e3 (ho' d e4 e3 hd)).2.1
        omega
    · by_cases e3 : d = a
      · simp only [e1, e2, e3, if_true, if_false] at e
        have := (ho c e1 e2 (ho' c e1 e2 hc)).1
        omega
      by_cases e4 : d = b
      · simp only [e1, e2, e3, e4, if_true, if_false] at e
        simp [show ¬ b = a by omega] at e
        have := (ho c e1 e2 (ho' c e1 e2 hc)).2.1
        omega
      · simp only [e1, e2, e3, e4, if_false] at e
        exact h.hi c d (ho' c e1 e2 hc) (ho' d e3 e4 hd) e
theorem LkI.same {g : EG} {m : MG} {k nx nx' : Nat} {M M' : Mem} {has : Int → Bool} {val : Int → SV} {pos : Nat → Nat} (h : LkI g m k M nx has val pos) {k' : Nat} (hs : ∀ c : Nat, g.looks m c k' = g.looks m c k) (hn : nx ≤ nx') (hM : ∀ r, r < nx → M' r = M r) : LkI g m k' M' nx' has val pos := by
  have := h.hn
  refine ⟨by rw [hM 0 (by omega)]; exact h.h0, by omega, by rw [hM 1 (by omega)]; exact h.hm, fun x => by simp only [hs]; exact h.hh x, fun c hc => ?_, h.hi⟩
  obtain ⟨q1, q2, q3, q4⟩ := h.hv c hc
  rw [hs c, hM _ q3]
  exact ⟨q1, q2, by omega, q4⟩
/-- Less is known of what lies at r; none of the lists lies there. -/
theorem LkI.kills {g : EG} {m : MG} {k nx nx' r : Nat} {M M' : Mem} {has : Int → Bool} {val : Int → SV} {pos : Nat → Nat} (h : LkI g m k M nx has val pos) (r2 : 2 ≤ r) (hne : ∀ c : Nat, has c = true → ¬ pos c = r) (hn : nx ≤ nx')
    (hM : ∀ q, q < nx → ¬ q = r → M' q = (M q).map (Reg.kill r)) : LkI g m k M' nx' has (fun x => (val x).kill r) pos := by
  have h2 := h.hn
  obtain ⟨st, h1⟩ := h.hm
  refine ⟨by rw [hM 0 (by omega) (by omega), h.h0]; rfl, by omega, ⟨st, by rw [hM 1 (by omega) (by omega), h1]; rfl⟩, h.hh, fun c hc => ?_, h.hi⟩
  obtain ⟨q1, q2, q3, q4⟩ := h.hv c hc
  have q5 := hne c hc
  refine ⟨?_, q2, by omega, ?_⟩
  · show (val c).kill r = _
    rw [q1]
    simp only [SV.kill, if_neg q5]
  · rw [hM _ q3 q5]
    exact isL_kill r q4
end Go.Gx
