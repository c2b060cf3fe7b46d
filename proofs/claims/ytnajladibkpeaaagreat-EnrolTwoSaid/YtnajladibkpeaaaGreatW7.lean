/-
  The chapter's examples, plain.
-/
import Derived.Test.YtnajladibkpeaaaGreatW6
import Derived.Test.YtnajladibkpeaaaGreatGx
import Derived.Test.YtnajladibkpeaaaGreatU6
set_option linter.unusedVariables false
set_option linter.unusedSimpArgs false
set_option maxRecDepth 20000
set_option maxHeartbeats 4000000
namespace Go.Gx
open Go.RowKit Go.Proofs Go.Proofs.YtnajladibkpeaaaGreat

deriving instance DecidableEq for PrG
theorem leP_trans (a b c : PrG) (h1 : leP a b = true) (h2 : leP b c = true) : leP a c = true := by
  simp only [leP, befB, Bool.not_eq_true', Bool.or_eq_false_iff, Bool.and_eq_false_iff, decide_eq_false_iff_not] at *
  omega
theorem leP_total (a b : PrG) : (leP a b || leP b a) = true := by
  simp only [leP, befB, Bool.or_eq_true, Bool.not_eq_true', Bool.or_eq_false_iff, Bool.and_eq_false_iff, decide_eq_false_iff_not]
  omega
theorem leP_anti (a b : PrG) (h1 : leP a b = true) (h2 : leP b a = true) : a = b := by
  obtain ⟨a1, a2⟩ := a; obtain ⟨b1, b2⟩ := b
  simp only [leP, befB, Bool.not_eq_true', Bool.or_eq_false_iff, Bool.and_eq_false_iff, decide_eq_false_iff_not] at *
  have e1 : a1 = b1 := by omega
  have e2 : a2 = b2 := by omega
  rw [e1, e2]
theorem srtL_eq {x : Nat → PrG} {n : Nat} {l : List PrG} (hp : ((List.range n).map x).Perm l) (hs : l.Pairwise fun p q => leP p q = true) : srtL x n = l :=
  List.Perm.eq_of_pairwise (le := fun p q => leP p q = true) (fun a b _ _ => leP_anti a b) (List.pairwise_mergeSort leP_trans leP_total _) hs ((List.mergeSort_perm _ _).trans hp)
def fiveM : MG := ⟨4, fun i => [⟨4, 1⟩, ⟨2, 0⟩, ⟨0, 1⟩, ⟨4, 2⟩][i]?.getD ⟨0, 0⟩⟩
def fiveL : List PrG := [⟨0, 1⟩, ⟨0, 2⟩, ⟨1, 4⟩, ⟨2, 4⟩]
theorem five_l : fiveM.l = fiveL := by
  have h : srtL fiveM.q 4 = fiveL := srtL_eq (by decide) (by decide)
  have e : srtX fiveM.q fiveM.n = fun i => fiveL[i]?.getD ⟨0, 0⟩ := by
    funext i
    show (srtL fiveM.q 4)[i]?.getD ⟨0, 0⟩ = _
    rw [h]
  unfold MG.l
  rw [e]
  decide
theorem five_valid : five.valid = true := by rw [← EG.pval_eq]; kernel_rfl
theorem five_ask : five.askE fiveM = 0 := EG.askE_good five_valid (by decide) (by decide)
theorem five_sus : five.som fiveM false fiveM.l.length = [⟨1, 4⟩, ⟨2, 4⟩] := by rw [five_l]; unfold EG.som; rw [five_l]; kernel_rfl
theorem five_twn : five.som fiveM true fiveM.l.length = [⟨0, 2⟩] := by rw [five_l]; unfold EG.som; rw [five_l]; kernel_rfl
theorem five_mor : five.morL fiveM five.nr = [4] := by
  rw [← EG.mrs_eq five_ask]
  unfold EG.mrs EG.looks
  rw [five_l]
  kernel_rfl
theorem five_ppl : five.ppl five.nr = [[0, 1, 3], [2], [4]] := by
  rw [EG.ppl_rts (EG.valid_lth five_valid) (EG.valid_inl five_valid)]
  kernel_rfl
theorem five_far : five.far 0 1 = 2 := by kernel_rfl
theorem five_way : five.way 0 1 2 = [0, 3, 1] := by kernel_rfl
theorem five_best : five.bp 0 five.nr = 1 := by kernel_rfl
theorem five_clash : five.boB 1 2 true = false := by kernel_rfl
theorem five_rem : five.remE 3 = 0 := by kernel_rfl
theorem five_free : (five.remX 3).boB 1 2 true = true := by kernel_rfl
end Go.Gx
/-
  alive: some of the chapter's examples.
-/
set_option linter.unusedVariables false
set_option linter.unusedSimpArgs false
set_option maxRecDepth 20000
set_option maxHeartbeats 4000000
namespace Go.Gx
open Go.RowKit Go.Proofs Go.Proofs.YtnajladibkpeaaaGreat

theorem five_bd : five.Bd 5 := ⟨Nat.le_refl _, by decide, Nat.zero_le _, fun i hi => absurd hi (Nat.not_lt_zero _)⟩
theorem five_ok : five.OK := (five_bd.sm (by decide)).ok
theorem f5people : Pure Tryz.prog 29 [five.sv] (· = .tup [llS [[0, 1, 3], [2], [4]], .i 0]) := by
  have h := people17 five five_ok
  unfold EG.ppS EG.ppE at h
  rw [if_pos five_valid, if_pos five_valid, five_ppl] at h
  exact h
theorem f5why : Pure Tryz.prog 12 [five.sv, .i 0, .i 1] (· = .tup [.r (.rs 1 3 (intsR [0, 3, 1])), .i 0]) := by
  have h := why20 five five_ok (by decide) 0 1
  have e : five.wE 0 1 = 0 := by unfold EG.wE; rw [if_pos five_valid, five_far]; rfl
  unfold EG.wS at h
  rw [e, if_pos rfl, five_far] at h
  have e2 : five.way (0 : Int).toNat (1 : Int).toNat (2 : Int).toNat = [0, 3, 1] := five_way
  rw [e2] at h
  exact h
theorem f5best : Pure Tryz.prog 30 [five.sv, .i 0] (· = .tup [.i 1, .i 0]) := by
  have h := best15 five five_ok 0
  have e : five.pE 0 = 0 := by unfold EG.pE; rw [if_pos five_valid]; rfl
  rw [e, if_pos rfl, five_best] at h
  exact h
theorem f5both : Pure Tryz.prog 31 [five.sv, .i 1, .i 2, .b true] (· = .tup [(five.boX 1 2 true).sv, .b false]) := by
  have h := both101 (five_bd.mono (by decide)) 1 2 true
  rw [five_clash] at h
  exact h
theorem f5sus : Pure Tryz.prog 27 [five.sv, fiveM.sv] (· = .tup [prs [⟨1, 4⟩, ⟨2, 4⟩], .i 0]) := by
  have h := suspects39 sortOK five five_ok fiveM (by decide)
  unfold EG.somS at h
  rw [if_pos five_ask, five_sus] at h
  exact h
theorem f5twn : Pure Tryz.prog 33 [five.sv, fiveM.sv] (· = .tup [prs [⟨0, 2⟩], .i 0]) := by
  have h := twins41 sortOK five five_ok fiveM (by decide)
  unfold EG.somS at h
  rw [if_pos five_ask, five_twn] at h
  exact h
theorem f5mor : Pure Tryz.prog 34 [five.sv, fiveM.sv] (· = .tup [.r (.rs 1 1 (intsR [4])), .i 0]) := by
  have h := morphs43 five (five_bd.sm (by decide)) fiveM (by decide)
  unfold EG.morS at h
  rw [if_pos five_ask, five_mor] at h
  exact h
theorem f5rem : Pure Tryz.prog 22 [five.sv, .i 3] (· = .tup [(five.remX 3).sv, .i 0]) := by
  have h := rem28p (five_bd.sm (by decide)) 3
  rw [five_rem] at h
  exact h
theorem f5free : Pure Tryz.prog 31 [(five.remX 3).sv, .i 1, .i 2, .b true] (· = .tup [((five.remX 3).boX 1 2 true).sv, .b true]) := by
  have h := both101 ((five_bd.rem 3).mono (by decide)) 1 2 true
  rw [five_free] at h
  exact h
theorem rle_ints {l : List Nat} {n : Nat} (hn : n = l.length) {get : Nat → Nat → RV} (h : ∀ i, i < l.length → get i 0 = .i (nth l i : Nat)) : (RV.rs 1 n get).le (.rs 1 l.length (intsR l)) := by
  subst hn
  refine rle_rs fun i j hi hj => RV.le_eq ?_
  have : j = 0 := by omega
  subst this
  exact h i hi
theorem alive46 : Pure Tryz.prog 9 [] (· = .b true) := by
  refine pure_of_GC T_ok Tryz.func9 rfl (by kernel_rfl) (Nat.le_of_ble_eq_true rfl) rfl rfl ?_
  simp [go_sem]
  refine call_val five100 rfl rfl ?_
  simp [go_sem]
  refine call_val f5people rfl rfl ?_
  simp [go_sem]
  refine call_val f5why rfl rfl ?_
  simp [go_sem]
  refine call_val f5best rfl rfl ?_
  simp [go_sem]
  refine call_val f5both rfl rfl ?_
  simp [go_sem]
  refine call_lent (v := .b true) ?_ rfl ?_
  · simp [go_sem]
    refine (sameLists19 [[0, 1, 3], [2], [4]] (by decide) (by decide)).args ⟨SV.le.rfl, le_r (rle_rs fun i j hi hj => ?_), trivial⟩
    have : j = 0 := by omega
    subst this
    rcases (by omega : i = 0 ∨ i = 1 ∨ i = 2) with rfl | rfl | rfl
    · simp [go_sem, viewRV]
      refine rle_ints (l := [0, 1, 3]) rfl fun i hi => ?_
      rcases (by simp at hi; omega : i = 0 ∨ i = 1 ∨ i = 2) with rfl | rfl | rfl <;> rfl
    · simp [go_sem, viewRV]
      refine rle_ints (l := [2]) rfl fun i hi => ?_
      rcases (by simp at hi; omega : i = 0) with rfl
      rfl
    · simp [go_sem, viewRV]
      refine rle_ints (l := [4]) rfl fun i hi => ?_
      rcases (by simp at hi; omega : i = 0) with rfl
      rfl
  simp [go_sem]
  refine call_lent (v := .b true) ?_ rfl ?_
  · simp [go_sem]
    refine (ints_rfl [0, 3, 1] (by decide)).args ⟨SV.le.rfl, le_r (rle_ints (l := [0, 3, 1]) rfl fun i hi => ?_), trivial⟩
    rcases (by simp at hi; omega : i = 0 ∨ i = 1 ∨ i = 2) with rfl | rfl | rfl <;> rfl
  simp [go_sem]
  refine callK_wk (M' := memL [five.bx, none, none, none, none, none, none, some (.vec 34 2 4 fun i j => .r ((fiveM.p i).c j))]) (fun r => ?_) ?_
  · match r with
    | 0 => simp [go_sem, Reg.wk]
    | 7 =>
      refine Reg.wk_vec (Nat.le_refl _) fun i j hi hj => ?_
      rcases (by omega : i = 0 ∨ i = 1 ∨ i = 2 ∨ i = 3) with rfl | rfl | rfl | rfl <;> rcases (by omega : j = 0 ∨ j = 1) with rfl | rfl <;> rfl
    | 1 => exact .inl (Reg.sub_none _)
    | 2 => exact .inl (Reg.sub_none _)
    | 3 => exact .inl (Reg.sub_none _)
    | 4 => exact .inl (Reg.sub_none _)
    | 5 => exact .inl (Reg.sub_none _)
    | 6 => exact .inl (Reg.sub_none _)
    | r + 8 => exact .inl (Reg.sub_none _)
  refine callK_freeze 7 (R := .vec 34 2 4 fun i j => .r ((fiveM.p i).c j)) rfl ?_
  simp [go_sem]
  refine call_val f5sus rfl rfl ?_
  simp [go_sem]
  refine call_val f5twn rfl rfl ?_
  simp [go_sem]
  refine call_val f5mor rfl rfl ?_
  simp [go_sem]
  refine call_val f5rem rfl rfl ?_
  simp [go_sem]
  refine call_val f5free rfl rfl ?_
  simp [go_sem]
  refine call_lent (v := .b true) ?_ rfl ?_
  · simp [go_sem]
    refine (samePairs_rfl [⟨1, 4⟩, ⟨2, 4⟩] (by decide)).args ⟨SV.le.rfl, le_r (rle_rs fun i j hi hj => RV.le_eq ?_), trivial⟩
    rcases (by omega : i = 0 ∨ i = 1) with rfl | rfl <;> rcases (by omega : j = 0 ∨ j = 1) with rfl | rfl <;> rfl
  simp [go_sem]
  refine call_lent (v := .b true) ?_ rfl ?_
  · simp [go_sem]
    refine (samePairs_rfl [⟨0, 2⟩] (by decide)).args ⟨SV.le.rfl, le_r (rle_rs fun i j hi hj => RV.le_eq ?_), trivial⟩
    rcases (by omega : i = 0) with rfl
    rcases (by omega : j = 0 ∨ j = 1) with rfl | rfl <;> rfl
  simp [go_sem]
  refine call_lent (v := .b true) ?_ rfl ?_
  · simp [go_sem]
    refine (ints_rfl [4] (by decide)).args ⟨SV.le.rfl, le_r (rle_ints (l := [4]) rfl fun i hi => ?_), trivial⟩
    rcases (by simp at hi; omega : i = 0) with rfl
    rfl
  simp [go_sem]
end Go.Gx
