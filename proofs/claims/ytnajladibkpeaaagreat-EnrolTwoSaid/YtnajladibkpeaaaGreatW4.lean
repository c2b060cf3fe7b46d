/-
  SortOK of Gg from the kit's contract (Gt).
-/
import Derived.Test.YtnajladibkpeaaaGreatW3
import Derived.Test.YtnajladibkpeaaaGreatW1
import Derived.Shelf.SlSortCmp.NoneTotal
set_option linter.unusedVariables false
set_option linter.unusedSimpArgs false
set_option maxRecDepth 20000
set_option maxHeartbeats 4000000
namespace Go.Gx
open Go.RowKit Go.Proofs Go.Proofs.YtnajladibkpeaaaGreat Go.Sort

def PrG.pair (p : PrG) : Int × Int := (p.a, p.b)
def PrG.ofPair (p : Int × Int) : PrG := ⟨p.1, p.2⟩
theorem PrG.cel (p : PrG) (j : Nat) : celP p.pair j = p.c j := by
  match j with
  | 0 => rfl
  | j + 1 => rfl
theorem srtP_map (x : Nat → PrG) (n : Nat) : srtP ((List.range n).map fun i => (x i).pair) = (srtL x n).map PrG.pair := by
  unfold srtP srtL
  rw [List.map_mergeSort (s := fun a b => !ltP b a), List.map_map]
  · rfl
  · intro p _ q _
    show (!befB q.a q.b p.a p.b) = !decide (ordI q.a q.b p.a p.b < 0)
    rw [Bool.eq_iff_iff]
    simp [ordI_neg]
theorem sortOK' (H : KitSort) : SortOK := by
  intro n x hn
  have h := sort_own H n (fun i => (x i).pair) hn
  have hl : (srtL x n).length = n := by simp [srtL]
  have e1 : (fun i j => SV.r (celP (x i).pair j)) = fun i j => .r (prR x i j) := by
    funext i j; rw [PrG.cel]
  have e2 : (fun i j => SV.r (celP ((srtL x n).map PrG.pair)[i]! j)) = fun i j => .r (prR (srtX x n) i j) := by
    funext i j
    show SV.r (celP _ j) = SV.r ((srtX x n i).c j)
    rw [← PrG.cel]
    congr 2
    rw [List.getElem!_eq_getElem?_getD, List.getElem?_map]
    unfold srtX
    cases (srtL x n)[i]? <;> rfl
  rw [e1, srtP_map, e2] at h
  exact h
end Go.Gx
/-
  The kit's contract of slices.SortFunc at this seat.
-/
set_option linter.unusedVariables false
set_option linter.unusedSimpArgs false
set_option maxRecDepth 20000
set_option maxHeartbeats 4000000
namespace Go.Gx
open Go.RowKit Go.Proofs Go.Proofs.YtnajladibkpeaaaGreat Go.Sort

theorem kitSort : KitSort where
  none p cap fv w := AnyF.slices_SortFunc_none Tryz.sortPr p cap fv w
  row blk cap d w hH hb hd := by
    have eg : ∀ args w, (callFunc 84 args).run Tryz.prog w = .ok (.enter 84 args) w := enters_of Tryz.func84 (by kernel_rfl) rfl
    exact AnyQ.slices_SortFunc_total Tryz.sortPr 2 Tryz.isAgg92 Tryz.sizeOf92 encP (fun _ => rfl) (fun x v hv => by simp [encP] at hv; rcases hv with rfl | rfl <;> rfl) (fun p q => ordI p.1 p.2 q.1 q.2) swo122 84 #[] blk 0 cap d w eg (cmpLays122 blk 0 d.size w) hH hb (by omega) tot122
theorem sortOK : SortOK := sortOK' kitSort
end Go.Gx
