/-
  slices.SortFunc of members by their numbers, as a contract on a region of the callee's own.
-/
import Derived.Test.YtdnblflhlklfnaaIg
import Derived.Shelf.SlSortCmp.WholeK
import Derived.Shelf.SlSortCmp.NoneTotal
import Derived.Shelf.Lay
import Derived.Ground.SlsfProg
import Derived.Ground.NamesProg
import Derived.Sort.AssemblyPlain
set_option linter.unusedVariables false
set_option linter.unusedSimpArgs false
set_option maxRecDepth 20000
set_option maxHeartbeats 4000000
namespace Go.Proofs.Ytdnblflhlklfnaa
open Go.Shelf Go.RowKit Go.Lib Go.Sort Go.Proofs
shelf_lay_g SlLaysF0.n6 Slsf 6 at Try 77 as Try.sortPr
end Go.Proofs.Ytdnblflhlklfnaa
namespace Go.Gx.Ix
open Go.RowKit Go.Proofs Go.Proofs.Ytdnblflhlklfnaa Go.Sort

instance : Inhabited IrG := ⟨⟨0, 0⟩⟩
instance : Inhabited MbG := ⟨⟨0, default⟩⟩
theorem of78 (a b : MbG) : Pure Try.prog 78 [a.sv, b.sv] (· = .i (cmpI a.id b.id)) := by
  refine pure_of_GC T_ok Try.func78 rfl (by kernel_rfl) (Nat.le_of_ble_eq_true rfl) rfl rfl ?_
  simp [go_sem]
  refine call_val (compare79 a.id b.id) rfl rfl ?_
  simp [go_sem]

def encM (a : MbG) : List Value := [.int .i64 a.id, .int .u64 a.x.c.toNat, .int .u64 a.x.m.toNat]
def idM (a b : MbG) : Int := cmpI a.id b.id
def ltM : MbG → MbG → Bool := ltOf idM
/-- What the program's sort makes of members (the order of equal numbers is its own). -/
def srtM (l : List MbG) : List MbG := (pdq ltM l.toArray 0 l.length (Lib.bitLen l.length) true true).toList
theorem ltM_iff {a b : MbG} : ltM a b = true ↔ a.id < b.id := by
  unfold ltM ltOf idM cmpI
  rw [decide_eq_true_eq]
  repeat' split
  all_goals omega
theorem swoM : SWO ltM where
  irrefl x := by
    cases h : ltM x x with
    | false => rfl
    | true => rw [ltM_iff] at h; omega
  trans x y z h1 h2 := by rw [ltM_iff] at *; omega
  ntrans x y z h1 h2 := by
    have g1 : ¬ ltM x y = true := by rw [h1]; simp
    have g2 : ¬ ltM y z = true := by rw [h2]; simp
    cases h : ltM x z with
    | false => rfl
    | true => rw [ltM_iff] at *; omega
theorem srtM_spec (l : List MbG) : (srtM l).Perm l ∧ (srtM l).length = l.length ∧ ∀ i j, i < j → (hj : j < (srtM l).length) → ∀ hi : i < (srtM l).length, (srtM l)[i].id ≤ (srtM l)[j].id := by
  have h := pdq_sorts ltM swoM l.toArray 0 l.toArray.size (Lib.bitLen l.toArray.size) true true (Nat.zero_le _) (Nat.le_refl _) (Or.inl rfl)
  obtain ⟨⟨h1, h2, h3⟩, h4⟩ := h
  have hs : (pdq ltM l.toArray 0 l.length (Lib.bitLen l.length) true true).size = l.length := by simpa using h1
  have hl : (srtM l).length = l.length := by simp [srtM, hs]
  refine ⟨?_, hl, fun i j hij hj hi => ?_⟩
  · simp only [List.size_toArray] at h3
    have e : ∀ a : Array MbG, a.size = l.length → a.extract 0 l.length = a := fun a ha => by rw [← ha]; exact Array.extract_size
    rw [e _ hs, e _ (by simp)] at h3
    simpa [srtM] using h3
  · have h5 := h4 i j (Nat.zero_le _) hij (by rw [hl] at hj; simpa using hj)
    simp only [List.size_toArray] at h5
    rw [getElem!_pos _ _ (by rw [hs, ← hl]; exact hj), getElem!_pos _ _ (by rw [hs, ← hl]; exact hi)] at h5
    have h6 : ¬ (srtM l)[j].id < (srtM l)[i].id := fun h => by
      rw [← ltM_iff] at h
      simp only [srtM, Array.getElem_toList] at h
      rw [h] at h5; simp at h5
    omega

theorem grown_of {w w' : World} (h : FrS (fun _ => False) w.heap.size w w') : ∃ q os, w' = grow (w.drewN q) os := by
  refine ⟨w'.drawn - w.drawn, w'.heap.extract w.heap.size w'.heap.size, ?_⟩
  have h1 := h.drawn
  obtain ⟨heap', tape', drawn', os', output'⟩ := w'
  have e1 : os' = w.os := h.os
  have e2 : tape' = w.tape := h.tape
  have e3 : output' = w.output := h.output
  have h1' : w.drawn ≤ drawn' := h1
  subst e1 e2 e3
  unfold grow World.drewN
  simp only [World.mk.injEq, true_and, and_true]
  refine ⟨?_, by show drawn' = w.drawn + (drawn' - w.drawn); omega⟩
  have hs : w.heap.size ≤ heap'.size := h.size
  refine Array.ext_getElem? fun i => ?_
  by_cases hi : i < w.heap.size
  · rw [Array.getElem?_append_left hi]
    exact h.block i hi fun h => h
  · rw [Array.getElem?_append_right (by omega)]
    rw [Array.getElem?_extract]
    have : w.heap.size + (i - w.heap.size) = i := by omega
    simp only [this]
    split
    · rfl
    · rename_i h9
      exact Array.getElem?_eq_none (by show heap'.size ≤ i; omega)
theorem cmpLays78 (blk off size : Nat) (w : World) : CmpLays Try.prog 78 #[] encM 3 idM blk off size w := fun m os dk _ x y => by
  obtain ⟨_, hc⟩ := of78 x y (fun _ => False) (sortWorldK encM 3 w blk off m dk os) [.agg (encM x).toArray, .agg (encM y).toArray] (fun b h => h.elim)
    ⟨_, _, rfl, ⟨encM x, rfl, fun v hv => by simp [encM] at hv; rcases hv with rfl | rfl | rfl <;> rfl, _, _, rfl, rfl, _, _, rfl, rfl, _, _, rfl, rfl, rfl⟩, _, _, rfl, ⟨encM y, rfl, fun v hv => by simp [encM] at hv; rcases hv with rfl | rfl | rfl <;> rfl, _, _, rfl, rfl, _, _, rfl, rfl, _, _, rfl, rfl, rfl⟩, rfl⟩
  refine Calls.mono hc fun e w' ⟨v, s, h1, h2, h3, h4⟩ => ?_
  subst h2
  have hv : v = .int .i64 (idM x y) := h3
  subst hv
  exact ⟨h1, grown_of h4⟩
theorem mok_grow {B W : Nat → Prop} {n0 : Nat} {σ : Sig} {M : Mem} {F : Nat → Prop} {w w' : World} (hm : MOK B W n0 σ M F w) (hsz : w.heap.size ≤ w'.heap.size) (hsame : ∀ b, b < w.heap.size → w'.heap[b]? = w.heap[b]?) : MOK B W n0 σ M F w' := by
  have hk : Keep (Zof B σ M w) (Zof B σ M w') w w' := fun b hb => ⟨⟨⟨Nat.lt_of_lt_of_le hb.1.1 hsz, hb.1.2⟩, hb.2⟩, hsame b hb.1.1⟩
  refine ⟨hm.newB, hm.fresh, fun r R h => ?_, hm.inj, hm.own⟩
  obtain ⟨L, e1, e2⟩ := hm.reg r R h
  exact ⟨L, e1, e2.mono (fun _ _ h => h) hk fun b hb => hsame b (e2.block hb)⟩
theorem encM_len (a : MbG) : (encM a).length = 3 := rfl
def celV (a : MbG) (j : Nat) : Value := if j = 0 then .int .i64 a.id else if j = 1 then .int .u64 a.x.c.toNat else .int .u64 a.x.m.toNat
theorem celV_eq (a : MbG) {j : Nat} (h : j < 3) : a.f j = .v (celV a j) := by
  match j, h with
  | 0, _ => rfl
  | 1, _ => rfl
  | 2, _ => rfl
theorem flatM_get {d : Array MbG} {i j : Nat} (hi : i < d.size) (hj : j < 3) : (flatK encM 3 d)[i * 3 + j]! = celV d[i]! j := by
  rw [get_flatK _ _ _ _ (by omega)]
  rw [show (i * 3 + j) / 3 = i by omega, show (i * 3 + j) % 3 = j by omega]
  match j, hj with
  | 0, _ => rfl
  | 1, _ => rfl
  | 2, _ => rfl
theorem flatM_one {d : Array MbG} {t : Nat} (h : t < d.size * 3) : (flatK encM 3 d)[t]!.oneCell' = true := by
  have h2 := flatM_get (d := d) (i := t / 3) (j := t % 3) (by omega) (by omega)
  rw [show t / 3 * 3 + t % 3 = t by omega] at h2
  rw [h2]
  unfold celV
  repeat' split
  all_goals rfl
abbrev mreg (l : List MbG) : Reg := .vec 43 3 l.length fun i j => .r (mrows l i j)
theorem sort77 (l : List MbG) (hn : l.length ≤ 1000000) :
    OwnS Try.prog 1 77 [mreg l] [.sl 0 3 0 l.length none, .fn (.func 78) [] []] (.tup []) [mreg (srtM l)] := by
  intro B σ w vs hm ha
  obtain ⟨v0, vs', rfl, h0, v1, vs'', rfl, h1, h2⟩ := ha
  subst h2
  obtain ⟨L, A, hσ, rfl, hnc, _, hA, hA0⟩ := h0
  obtain ⟨us, ws, rfl, rfl, rfl⟩ := h1
  refine ⟨enters_of Try.func77 (by kernel_rfl) rfl _ w, ?_⟩
  obtain ⟨L', hσ', hR⟩ := hm.reg 0 (mreg l) rfl
  rw [hσ] at hσ'; cases hσ'
  have hM : ∀ R', upd (memR [mreg l]) 0 (some R') = memR [R'] := fun R' => by
    funext r
    match r with
    | 0 => rfl
    | r + 1 => rfl
  obtain ⟨n, hnl⟩ : ∃ n, l.length = n := ⟨_, rfl⟩
  by_cases hz : l = []
  · subst hz
    refine (AnyF.slices_SortFunc_none Try.sortPr A _ _ w).mono ?_
    rintro e w' ⟨rfl, rfl⟩
    refine ⟨_, σ, rfl, ?_, ⟨[], rfl, rfl⟩, FrS.refl _ _ _, fun _ _ => rfl⟩
    have e : srtM [] = [] := List.length_eq_zero_iff.1 (srtM_spec []).2.1
    rw [e]
    exact hm
  have hpos : 0 < l.length := List.length_pos_iff.2 hz
  obtain ⟨hnL, hLm, hR | ⟨b, cs, hb, hh, hl, ho, hc⟩⟩ := hR
  · omega
  have hbl : b < w.heap.size := heap_lt hh
  obtain ⟨b', hb', rfl⟩ := hA (by simp only [Option.getD]; omega)
  rw [hb] at hb'; cases hb'
  have hd : l.toArray.size = l.length := by simp
  have hK : HoldsK encM 3 w b 0 l.toArray := fun t ht => by
    rw [size_flatK, hd] at ht
    obtain ⟨v, g1, g2, g3⟩ := hc (t / 3) (t % 3) (by omega) (by omega)
    rw [show t / 3 * 3 + t % 3 = t by omega] at g1
    have g4 := flatM_get (d := l.toArray) (i := t / 3) (j := t % 3) (by rw [hd]; omega) (by omega)
    rw [show t / 3 * 3 + t % 3 = t by omega] at g4
    have g6 : mrows l (t / 3) (t % 3) = .v (celV (l[t / 3]'(by omega)) (t % 3)) := by rw [mrow (by omega) _, celV_eq _ (by omega)]
    simp only [g6] at g3
    have g5 : v = celV (l[t / 3]'(by omega)) (t % 3) := g3
    refine ⟨?_, ?_⟩
    · rw [g4]
      simp only [World.cell?, hh, Nat.zero_add]
      rw [List.getElem?_toArray, g1, g5]
      rw [getElem!_pos _ _ (by rw [hd]; omega)]
      rfl
    · simp [World.frozen?, hh]
  have eg : ∀ args w, (callFunc 78 args).run Try.prog w = .ok (.enter 78 args) w := enters_of Try.func78 (by kernel_rfl) rfl
  have hcall := AnyQ.slices_SortFunc_eq Try.sortPr 3 Try.isAgg43 Try.sizeOf43 encM encM_len (fun x v hv => by simp [encM] at hv; rcases hv with rfl | rfl | rfl <;> rfl) idM swoM 78 #[] b 0 (none.getD (L.cap - 0)) l.toArray w eg (cmpLays78 b 0 _ w) hK hbl (by omega)
  rw [hd] at hcall
  refine hcall.mono ?_
  rintro e w' ⟨rfl, q, os, rfl⟩
  have hsl : (srtM l).length = l.length := (srtM_spec l).2.1
  have hs : pdq (ltOf idM) l.toArray 0 l.length (Lib.bitLen l.length) true true = (srtM l).toArray := by simp [srtM, ltM]
  rw [hs]
  generalize srtM l = l2 at hsl ⊢
  have hw1 := mem_set (w' := putRowK encM 3 (Sort.ahead w q) b 0 l2.toArray) (R := mreg l2) hm (ref := 0) rfl hσ hb (by simp [putRowK]) (fun y hy => by
      simp [putRowK, putRow, mapBlock, Array.getElem?_modify, Ne.symm hy]) fun Z' hk' => by
    refine ⟨by rw [hsl]; exact hnL, hLm, .inr ⟨b, (putCells id 0 (flatK encM 3 l2.toArray) cs.toArray).toList, hb, ?_, ?_, ?_, ?_⟩⟩
    · simp [putRowK, putRow, mapBlock, Array.getElem?_modify, hh, onCells]
    · simp [putCells, hl]
    · intro v hv
      obtain ⟨t, ht⟩ := List.getElem?_of_mem hv
      rw [Array.getElem?_toList] at ht
      simp only [putCells, Array.getElem?_mapIdx, List.getElem?_toArray, Option.map_eq_some_iff] at ht
      obtain ⟨u, hu, e⟩ := ht
      split at e
      · rename_i hr
        rw [← e]
        exact flatM_one (by have := hr.2; rw [size_flatK] at this; simpa using this)
      · rw [← e]; exact ho u (List.mem_of_getElem? hu)
    · intro i j hi hj
      have hi2 : i < l2.length := hi
      have g := flatM_get (d := l2.toArray) (i := i) (j := j) (by simpa using hi2) hj
      obtain ⟨v, g1, _, _⟩ := hc i j (by omega) hj
      refine ⟨celV (l2[i]'hi2) j, ?_, ?_, ?_⟩
      · rw [Array.getElem?_toList]
        simp only [putCells, Array.getElem?_mapIdx, List.getElem?_toArray, g1, Option.map_some]
        rw [if_pos ⟨Nat.zero_le _, by rw [size_flatK]; simp; omega⟩]
        simp only [Nat.sub_zero, id, g]
        rw [getElem!_pos _ _ (by simpa using hi2)]
        rfl
      · unfold celV
        repeat' split
        all_goals rfl
      · have g6 : mrows l2 i j = .v (celV l2[i] j) := by rw [mrow hi2, celV_eq _ hj]
        simp only [g6]
        rfl
  rw [hM] at hw1
  have hsz : (putRowK encM 3 (Sort.ahead w q) b 0 l2.toArray).heap.size = w.heap.size := by simp [putRowK]
  refine ⟨_, σ, rfl, mok_grow hw1.1 (by simp [sortWorldK]) (fun y hy => by unfold sortWorldK; exact heap_grow_old _ _ hy), ⟨[], rfl, rfl⟩, ⟨rfl, rfl, rfl, ?_, ?_, ?_⟩, fun _ _ => rfl⟩
  · simp [sortWorldK, hsz]
  · simp [sortWorldK, grow, putRowK, putRow, mapBlock, Sort.ahead]
  · intro y hy hW
    unfold sortWorldK
    rw [heap_grow_old _ _ (by omega)]
    have : y ≠ b := fun e => hW ⟨0, _, L, rfl, hσ, by rw [e]; exact hb⟩
    simp [putRowK, putRow, mapBlock, Array.getElem?_modify, Ne.symm this]
end Go.Gx.Ix
