/-
  slices.SortFunc of pairs: the comparison, as the kit's contract asks it.
-/
import Derived.Test.YtnajladibkpeaaaGreatU2
import Derived.Shelf.SlSortCmp.InsertionK
import Derived.Shelf.Lay
import Derived.Ground.SlsfProg
import Derived.Ground.NamesProg
set_option linter.unusedVariables false
set_option linter.unusedSimpArgs false
set_option maxRecDepth 20000
set_option maxHeartbeats 4000000
namespace Go.Proofs.YtnajladibkpeaaaGreat
open Go.Shelf Go.RowKit Go.Lib Go.Sort Go.Proofs
shelf_lay_g SlLaysF0.n6 Slsf 6 at Tryz 94 as Tryz.sortPr
end Go.Proofs.YtnajladibkpeaaaGreat
namespace Go.Gx
open Go.RowKit Go.Proofs Go.Proofs.YtnajladibkpeaaaGreat Go.Sort

def encP (p : Int × Int) : List Value := [.int .i64 p.1, .int .i64 p.2]
/-- What a function that gives up nothing and reads alone leaves: draws and new blocks. -/
theorem grown_of {w w' : World} (h : FrS (fun _ => False) w.heap.size w w') : ∃ q os, w' = grow (w.drewN q) os := by
  refine ⟨w'.drawn - w.drawn, w'.heap.extract w.heap.size w'.heap.size, ?_⟩
  have h1 := h.drawn
  obtain ⟨heap', tape', drawn', os', output'⟩ := w'
  have e1 : os' = w.os := h.os
  have e2 : tape' = w.tape := h.tape
  have e3 : output' = w.output := h.output
  have h1' : w.drawn ≤ drawn' := h1
  subst e1 e2 e3
  unfold grow World.drewN
  simp only [World.mk.injEq, true_and, and_true]
  refine ⟨?_, by show drawn' = w.drawn + (drawn' - w.drawn); omega⟩
  have hs : w.heap.size ≤ heap'.size := h.size
  refine Array.ext_getElem? fun i => ?_
  by_cases hi : i < w.heap.size
  · rw [Array.getElem?_append_left hi]
    exact h.block i hi fun h => h
  · rw [Array.getElem?_append_right (by omega)]
    rw [Array.getElem?_extract]
    have : w.heap.size + (i - w.heap.size) = i := by omega
    simp only [this]
    split
    · rfl
    · rename_i h9
      exact Array.getElem?_eq_none (by show heap'.size ≤ i; omega)
theorem cmpLays122 (blk off size : Nat) (w : World) : CmpLays Tryz.prog 84 #[] encP 2 (fun p q => ordI p.1 p.2 q.1 q.2) blk off size w := fun m os dk _ x y => by
  have hp := order122 x.1 x.2 y.1 y.2
  obtain ⟨_, hc⟩ := hp (fun _ => False) (sortWorldK encP 2 w blk off m dk os) [.agg #[.int .i64 x.1, .int .i64 x.2], .agg #[.int .i64 y.1, .int .i64 y.2]] (fun b h => h.elim)
    ⟨_, _, rfl, ⟨[.int .i64 x.1, .int .i64 x.2], rfl, fun v hv => by simp at hv; rcases hv with rfl | rfl <;> rfl, _, _, rfl, rfl, _, _, rfl, rfl, rfl⟩, _, _, rfl, ⟨[.int .i64 y.1, .int .i64 y.2], rfl, fun v hv => by simp at hv; rcases hv with rfl | rfl <;> rfl, _, _, rfl, rfl, _, _, rfl, rfl, rfl⟩, rfl⟩
  refine Calls.mono hc fun e w' ⟨v, s, h1, h2, h3, h4⟩ => ?_
  subst h2
  have hv : v = .int .i64 (ordI x.1 x.2 y.1 y.2) := h3
  subst hv
  exact ⟨h1, grown_of h4⟩
theorem ordI_lt {a b c d : Int} : ordI a b c d < 0 ↔ a < c ∨ a = c ∧ b < d := by rw [ordI_neg]; simp [befB]
theorem ltOf_iff {p q : Int × Int} : ltOf (fun p q : Int × Int => ordI p.1 p.2 q.1 q.2) p q = true ↔ p.1 < q.1 ∨ p.1 = q.1 ∧ p.2 < q.2 := by
  unfold ltOf
  rw [decide_eq_true_eq, ordI_lt]
theorem swo122 : SWO (ltOf fun p q : Int × Int => ordI p.1 p.2 q.1 q.2) where
  irrefl x := by
    cases h : ltOf (fun p q : Int × Int => ordI p.1 p.2 q.1 q.2) x x with
    | false => rfl
    | true => rw [ltOf_iff] at h; omega
  trans x y z h1 h2 := by rw [ltOf_iff] at *; omega
  ntrans x y z h1 h2 := by
    have g1 : ¬ ltOf (fun p q : Int × Int => ordI p.1 p.2 q.1 q.2) x y = true := by rw [h1]; simp
    have g2 : ¬ ltOf (fun p q : Int × Int => ordI p.1 p.2 q.1 q.2) y z = true := by rw [h2]; simp
    cases h : ltOf (fun p q : Int × Int => ordI p.1 p.2 q.1 q.2) x z with
    | false => rfl
    | true => rw [ltOf_iff] at *; omega
theorem tot122 (x y : Int × Int) (h1 : ltOf (fun p q : Int × Int => ordI p.1 p.2 q.1 q.2) x y = false) (h2 : ltOf (fun p q : Int × Int => ordI p.1 p.2 q.1 q.2) y x = false) : x = y := by
  have g1 : ¬ ltOf (fun p q : Int × Int => ordI p.1 p.2 q.1 q.2) x y = true := by rw [h1]; simp
  have g2 : ¬ ltOf (fun p q : Int × Int => ordI p.1 p.2 q.1 q.2) y x = true := by rw [h2]; simp
  rw [ltOf_iff] at g1 g2
  exact Prod.ext (by omega) (by omega)
end Go.Gx
/-
  slices.SortFunc of pairs as a contract on a region of the callee's own (given the kit's contract as a premise).
-/
set_option linter.unusedVariables false
set_option linter.unusedSimpArgs false
set_option maxRecDepth 20000
set_option maxHeartbeats 4000000
namespace Go.Gx
open Go.RowKit Go.Proofs Go.Proofs.YtnajladibkpeaaaGreat Go.Sort

def celP (p : Int × Int) (j : Nat) : RV := .v (.int .i64 (if j = 0 then p.1 else p.2))
def ltP : Int × Int → Int × Int → Bool := ltOf fun p q : Int × Int => ordI p.1 p.2 q.1 q.2
def srtP (d : List (Int × Int)) : List (Int × Int) := d.mergeSort fun x y => !ltP y x
/-- What the kit says of the sort. -/
structure KitSort : Prop where
  none : ∀ (p : Option Addr) (cap : Nat) (fv : Value) (w : World), Calls Tryz.prog 94 #[.slice p 0 cap, fv] w fun e w' => e = .returned (.tuple #[]) ∧ w' = w
  row : ∀ (blk cap : Nat) (d : Array (Int × Int)) (w : World), HoldsK encP 2 w blk 0 d → blk < w.heap.size → d.size ≤ 1000000 →
    Calls Tryz.prog 94 #[.slice (some ⟨blk, 0, .none⟩) d.size cap, .func (.func 84) #[] #[]] w fun e w' => e = .returned (.tuple #[]) ∧ ∃ q os, w' = sortWorldK encP 2 w blk 0 q (srtP d.toList).toArray os
theorem mok_grow {B W : Nat → Prop} {n0 : Nat} {σ : Sig} {M : Mem} {F : Nat → Prop} {w w' : World} (hm : MOK B W n0 σ M F w) (hsz : w.heap.size ≤ w'.heap.size) (hsame : ∀ b, b < w.heap.size → w'.heap[b]? = w.heap[b]?) : MOK B W n0 σ M F w' := by
  have hk : Keep (Zof B σ M w) (Zof B σ M w') w w' := fun b hb => ⟨⟨⟨Nat.lt_of_lt_of_le hb.1.1 hsz, hb.1.2⟩, hb.2⟩, hsame b hb.1.1⟩
  refine ⟨hm.newB, hm.fresh, fun r R h => ?_, hm.inj, hm.own⟩
  obtain ⟨L, e1, e2⟩ := hm.reg r R h
  exact ⟨L, e1, e2.mono (fun _ _ h => h) hk fun b hb => hsame b (e2.block hb)⟩
theorem flatP_get {d : Array (Int × Int)} {i j : Nat} (hi : i < d.size) (hj : j < 2) : (flatK encP 2 d)[i * 2 + j]! = .int .i64 (if j = 0 then d[i]!.1 else d[i]!.2) := by
  rw [get_flatK _ _ _ _ (by omega)]
  rw [show (i * 2 + j) / 2 = i by omega, show (i * 2 + j) % 2 = j by omega]
  match j, hj with
  | 0, _ => rfl
  | 1, _ => rfl
theorem flatP_one {d : Array (Int × Int)} {t : Nat} (h : t < d.size * 2) : (flatK encP 2 d)[t]!.oneCell' = true := by
  have h2 := flatP_get (d := d) (i := t / 2) (j := t % 2) (by omega) (by omega)
  rw [show t / 2 * 2 + t % 2 = t by omega] at h2
  rw [h2]; rfl
theorem sort_own (H : KitSort) (n : Nat) (x : Nat → Int × Int) (hn : n ≤ 1000000) :
    OwnS Tryz.prog 1 94 [.vec 92 2 n fun i j => .r (celP (x i) j)] [.sl 0 2 0 n none, .fn (.func 84) [] []] (.tup [])
      [.vec 92 2 n fun i j => .r (celP ((srtP ((List.range n).map x))[i]!) j)] := by
  intro B σ w vs hm ha
  obtain ⟨v0, vs', rfl, h0, v1, vs'', rfl, h1, h2⟩ := ha
  subst h2
  obtain ⟨L, A, hσ, rfl, hnc, _, hA, hA0⟩ := h0
  obtain ⟨us, ws, rfl, rfl, rfl⟩ := h1
  refine ⟨enters_of Tryz.func94 (by kernel_rfl) rfl _ w, ?_⟩
  obtain ⟨L', hσ', hR⟩ := hm.reg 0 (.vec 92 2 n fun i j => .r (celP (x i) j)) rfl
  rw [hσ] at hσ'; cases hσ'
  have hM : ∀ R', upd (memR [.vec 92 2 n fun i j => .r (celP (x i) j)]) 0 (some R') = memR [R'] := fun R' => by
    funext r
    match r with
    | 0 => rfl
    | r + 1 => rfl
  by_cases hz : n = 0
  · subst hz
    refine (H.none A _ _ w).mono ?_
    rintro e w' ⟨rfl, rfl⟩
    refine ⟨_, σ, rfl, ?_, ⟨[], rfl, rfl⟩, FrS.refl _ _ _, fun _ _ => rfl⟩
    have e : (fun i j => SV.r (celP (x i) j)) = fun i j => SV.r (celP (x i) j) := rfl
    refine ⟨hm.newB, hm.fresh, fun r R h => ?_, fun r r' R R' L1 L2 b h1 h2 h3 h4 h5 h6 => ?_, fun r R L1 b h1 h2 h3 => ?_⟩
    · match r, h with
      | 0, h => 
        cases h
        refine ⟨L, hσ, ?_⟩
        obtain ⟨q1, q2, q3⟩ := hR
        refine ⟨q1, q2, q3.imp id fun ⟨b, cs, k1, k2, k3, k4, k5⟩ => ⟨b, cs, k1, k2, k3, k4, fun i j hi => absurd hi (by omega)⟩⟩
    · match r, r', h1, h2 with
      | 0, 0, _, _ => rfl
    · match r, h1 with
      | 0, h1 => exact hm.own 0 _ L1 b rfl h2 h3
  obtain ⟨hnL, hLm, hR | ⟨b, cs, hb, hh, hl, ho, hc⟩⟩ := hR
  · omega
  have hbl : b < w.heap.size := heap_lt hh
  obtain ⟨b', hb', rfl⟩ := hA (by simp only [Option.getD]; omega)
  rw [hb] at hb'; cases hb'
  have hd : (Array.ofFn fun i : Fin n => x i).size = n := by simp
  have hK : HoldsK encP 2 w b 0 (Array.ofFn fun i : Fin n => x i) := fun t ht => by
    rw [size_flatK, hd] at ht
    obtain ⟨v, g1, g2, g3⟩ := hc (t / 2) (t % 2) (by omega) (by omega)
    rw [show t / 2 * 2 + t % 2 = t by omega] at g1
    have g4 := flatP_get (d := Array.ofFn fun i : Fin n => x i) (i := t / 2) (j := t % 2) (by omega) (by omega)
    rw [show t / 2 * 2 + t % 2 = t by omega] at g4
    have g5 : v = .int .i64 (if t % 2 = 0 then (x (t / 2)).1 else (x (t / 2)).2) := g3
    refine ⟨?_, ?_⟩
    · rw [g4]
      simp only [World.cell?, hh, Nat.zero_add]
      rw [List.getElem?_toArray, g1, g5]
      rw [getElem!_pos _ _ (by omega), Array.getElem_ofFn]
      rfl
    · simp [World.frozen?, hh]
  have hcall := H.row b (none.getD (L.cap - 0)) _ w hK hbl (by omega)
  rw [hd, Array.toList_ofFn] at hcall
  have hL : List.ofFn (fun i : Fin n => x i) = (List.range n).map x := by
    apply List.ext_getElem?
    intro i
    by_cases h : i < n
    · simp [h]
    · simp [h]
  rw [hL] at hcall
  refine hcall.mono ?_
  rintro e w' ⟨rfl, q, os, rfl⟩
  have hsl : (srtP ((List.range n).map x)).length = n := by simp [srtP]
  generalize hs : srtP ((List.range n).map x) = l at hsl ⊢
  have hw1 := mem_set (w' := putRowK encP 2 (Sort.ahead w q) b 0 l.toArray) (R := .vec 92 2 n fun i j => .r (celP l[i]! j)) hm (ref := 0) rfl hσ hb (by simp [putRowK]) (fun y hy => by
      simp [putRowK, putRow, mapBlock, Array.getElem?_modify, Ne.symm hy]) fun Z' hk' => by
    refine ⟨hnL, hLm, .inr ⟨b, (putCells id 0 (flatK encP 2 l.toArray) cs.toArray).toList, hb, ?_, ?_, ?_, ?_⟩⟩
    · simp [putRowK, putRow, mapBlock, Array.getElem?_modify, hh, onCells]
    · simp [putCells, hl]
    · intro v hv
      obtain ⟨t, ht⟩ := List.getElem?_of_mem hv
      rw [Array.getElem?_toList] at ht
      simp only [putCells, Array.getElem?_mapIdx, List.getElem?_toArray, Option.map_eq_some_iff] at ht
      obtain ⟨u, hu, e⟩ := ht
      split at e
      · rename_i hr
        rw [← e]
        exact flatP_one (by have := hr.2; rw [size_flatK] at this; simpa using this)
      · rw [← e]; exact ho u (List.mem_of_getElem? hu)
    · intro i j hi hj
      have g := flatP_get (d := l.toArray) (i := i) (j := j) (by simpa [hsl] using hi) hj
      obtain ⟨v, g1, _, _⟩ := hc i j hi hj
      refine ⟨_, ?_, ?_, rfl⟩
      · rw [Array.getElem?_toList]
        simp only [putCells, Array.getElem?_mapIdx, List.getElem?_toArray, g1, Option.map_some]
        rw [if_pos ⟨Nat.zero_le _, by rw [size_flatK]; simp [hsl]; omega⟩]
        simp only [Nat.sub_zero, id, g]
        simp
      · rfl
  rw [hM] at hw1
  have hsz : (putRowK encP 2 (Sort.ahead w q) b 0 l.toArray).heap.size = w.heap.size := by simp [putRowK]
  refine ⟨_, σ, rfl, mok_grow hw1.1 (by simp [sortWorldK]) (fun y hy => by unfold sortWorldK; exact heap_grow_old _ _ hy), ⟨[], rfl, rfl⟩, ⟨rfl, rfl, rfl, ?_, ?_, ?_⟩, fun _ _ => rfl⟩
  · simp [sortWorldK, hsz]
  · simp [sortWorldK, grow, putRowK, putRow, mapBlock, Sort.ahead]
  · intro y hy hW
    unfold sortWorldK
    rw [heap_grow_old _ _ (by omega)]
    have : y ≠ b := fun e => hW ⟨0, _, L, rfl, hσ, by rw [e]; exact hb⟩
    simp [putRowK, putRow, mapBlock, Array.getElem?_modify, Ne.symm this]
end Go.Gx
