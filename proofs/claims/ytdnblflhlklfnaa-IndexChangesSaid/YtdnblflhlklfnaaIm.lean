/-
  place; slices.Grow and Concat of members; Add, Remove, Merge: frozen.
-/
import Derived.Test.YtdnblflhlklfnaaIl
set_option linter.unusedVariables false
set_option linter.unusedSimpArgs false
set_option maxRecDepth 20000
set_option maxHeartbeats 4000000
namespace Go.Gx.Ix
open Go.RowKit Go.Proofs Go.Proofs.Ytdnblflhlklfnaa

def plc (l : List MbG) (t : Int) : Nat := bnd (fun i => cmpI (l[i]!).id t) l.length
def isM (l : List MbG) (t : Int) : Bool := fnd (fun i => cmpI (l[i]!).id t) l.length
theorem place60 (l : List MbG) (hn : l.length ≤ 1000000) (hs : l.Pairwise fun a b => a.id ≤ b.id) (t : Int) : Pure Try.prog 60 [mrs l, .i t] (· = .tup [.i (plc l t : Nat), .b (isM l t)]) := by
  refine pure_of_GC T_ok Try.func60 rfl (by kernel_rfl) (Nat.le_of_ble_eq_true rfl) rfl rfl ?_
  simp [go_sem]
  refine call_val (search84 l (by omega) t (fun a b hab hb h ha => ?_) (fun i => cmpI (l[i]!).id t) fun i hi => by rw [getElem!_pos l i hi]) rfl rfl ?_
  · have := List.pairwise_iff_getElem.1 hs a b ha hb hab
    omega
  simp [go_sem, plc, isM]
theorem grow86 (m : Nat) (hm : m ≤ 1000000) : Own Try.prog 86 [] [nilS, .i m] (.sl 0 3 0 0 none) [.vec 43 3 0 fun _ _ => .r .any] := by
  refine own_of_GC0 T_ok Try.func86 rfl (by kernel_rfl) (Nat.le_of_ble_eq_true rfl) rfl rfl ?_
  simp [go_sem]
  refine GOp_capNil T_ok (by simp [go_sem]) (by kernel_rfl) (by simp [go_sem]) ?_
  simp [go_sem]
  refine ⟨by omega, fun hpos => ?_⟩
  refine GOp_capNil T_ok (by simp [go_sem]) (by kernel_rfl) (by simp [go_sem]) ?_
  simp [go_sem]
  refine GOp_pre T_ok (GSt.adoptC 20 43 3 (fun _ _ => .r .any) (by simp [go_sem])) ?_
  simp [go_sem, grun, gop, gappendZ, gapp, hpos]
  refine ⟨⟨⟨by omega, by omega⟩, by omega, by omega⟩, [1], by simp, fun N => ⟨by simp [go_sem], by simp [go_sem]⟩⟩
theorem mflat {l : List MbG} {i j : Nat} (hi : i < l.length) (hj : j < 3) : (mrows l i j).flat = true := by
  rw [mrow hi, celV_eq _ hj]; unfold celV
  repeat' split
  all_goals rfl
theorem joined_rows (l l' : List MbG) (r' : Nat → Nat → RV) (hr : ∀ i j, i < l'.length → j < 3 → r' i j = mrows l' i j) (i j : Nat) (h : i < l.length + l'.length) (hj : j < 3) : joined l.length l'.length (fun i j => SV.r (mrows l i j)) (fun i j => SV.r (r' i j)) i j = .r (mrows (l ++ l') i j) := by
  unfold joined
  by_cases h1 : i < l.length
  · rw [if_pos h1]; unfold mrows rowsL; rw [List.getElem?_append_left h1]
  · rw [if_neg h1, if_pos (by omega)]
    simp only [hr (i - l.length) j (by omega) hj]
    unfold mrows rowsL; rw [List.getElem?_append_right (by omega)]
theorem concat61 (l l' : List MbG) (hn : l.length ≤ 1000) (hn' : l'.length ≤ 1000) (r r' : Nat → Nat → RV) (hr : ∀ i j, i < l.length → j < 3 → r i j = mrows l i j) (hr' : ∀ i j, i < l'.length → j < 3 → r' i j = mrows l' i j) (get : Nat → Nat → RV) (g0 : get 0 0 = .rs 3 l.length r) (g1 : get 1 0 = .rs 3 l'.length r') :
    Own Try.prog 61 [] [.r (.rs 1 2 get)] (.sl 0 3 0 (l ++ l').length none) [mreg (l ++ l')] := by
  refine own_of_GC T_ok Try.func61 rfl (by kernel_rfl) (Nat.le_of_ble_eq_true rfl) rfl rfl ?_
  simp [go_sem]
  refine GLoop_of T_ok (α := Nat) (fun k => [(0, .r (.rs 1 2 get)), (3, .i (if k = 0 then 0 else if k = 1 then l.length else l.length + l'.length : Nat)), (9, .r (.rs 1 2 get)), (10, .i 2), (11, .i k)]) (fun _ => []) 0 (fun k => k ≤ 2) (fun k => 2 - k) 0 (fun _ => rfl) (by simp) (by simp [go_sem]) (by simp [go_sem]) ?_
  intro k J hk
  rcases (show k = 0 ∨ k = 1 ∨ k = 2 by omega) with rfl | rfl | rfl
  · have h0 : ¬ (l.length : Int) < 0 := by omega
    simp [go_sem, g0, h0]
    exact ⟨by omega, 1, by omega, by omega, by simp, by simp⟩
  · have h0 : ¬ (l.length : Int) + (l'.length : Int) < 0 := by omega
    simp [go_sem, g1, h0]
    exact ⟨by omega, 2, by omega, by omega, by simp, by simp⟩
  simp [go_sem]
  refine callK_own [] (grow86 (l.length + l'.length) (by omega)) (by simp) rfl ?_ ?_
  · simp [go_sem]
  simp [go_sem]
  refine GLoop_s T_ok (α := Nat) (fun k => [(6, .sl 0 3 0 (if k = 0 then [] else if k = 1 then l else l ++ l').length none), (25, .r (.rs 1 2 get)), (26, .i 2), (27, .i k)]) (fun k => [some (mreg (if k = 0 then [] else if k = 1 then l else l ++ l'))]) 1 (fun k => k ≤ 2) (fun k => 2 - k) 0 (fun _ => rfl) (by simp) (by simp [go_sem]) (by simp [go_sem]) ?_
  intro k J hk
  rcases (show k = 0 ∨ k = 1 ∨ k = 2 by omega) with rfl | rfl | rfl
  · simp [go_sem, g0]
    refine ⟨by omega, 1, by omega, by omega, ⟨by simp, by simp⟩, by simp, fun i j hi hj => ?_⟩
    have := joined_rows [] l r hr i j (by simpa using hi) hj
    simp only [List.length_nil, List.nil_append] at this
    rw [this]
    rfl
  · simp [go_sem, g1]
    refine ⟨by omega, 2, by omega, by omega, ⟨by simp, by simp⟩, by simp, fun i j hi hj => ?_⟩
    rw [joined_rows l l' r' hr' i j (by simpa using hi) hj]
    rfl
  · simp [go_sem]
    refine ⟨[0], by simp, fun N => ⟨by simp [go_sem], by simp [go_sem]⟩⟩
theorem validX_sorted {x : IxG} (h : validX x = true) : x.ms.Pairwise fun a b => a.id ≤ b.id := by
  simp only [validX, Bool.and_eq_true, decide_eq_true_eq] at h
  rw [h.1.2]
  rw [List.pairwise_iff_getElem]
  intro i j hi hj hij
  exact (srtM_spec x.ms).2.2 i j hij hj hi
theorem buildE_len {l : List MbG} (h : buildE l = 0) : l.length ≤ 256 := by
  unfold buildE at h
  by_cases h1 : 256 < l.length
  · rw [if_pos h1] at h; cases h
  · omega
theorem validX_len {x : IxG} (h : validX x = true) : x.ms.length ≤ 256 := by
  simp only [validX, Bool.and_eq_true, decide_eq_true_eq] at h
  exact buildE_len h.1.1
def addE (x : IxG) (m : MbG) : Int := if validX x = false then 40 else if okN m.id = false then 2 else if m.x.ok = false then 30 else if isM x.ms m.id then 41 else if x.ms.length = 256 then 9 else 0
def addX (x : IxG) (m : MbG) : IxG := if addE x m = 0 then ofG (x.ms ++ [m]) else IxG.zero
theorem add24' (x : IxG) (h : x.Sm) (m : MbG) : Pure Try.prog 24 [x.sv, m.sv] (· = .tup [if addE x m = 0 then (ofG (x.ms ++ [m])).sv else nilX, .i (addE x m)]) := by
  obtain ⟨e, he⟩ : ∃ e, addE x m = e := ⟨_, rfl⟩
  rw [he]
  obtain ⟨y, hy⟩ : ∃ y, ofG (x.ms ++ [m]) = y := ⟨_, rfl⟩
  rw [hy]
  refine pure_of_GC T_ok Try.func24 rfl (by kernel_rfl) (Nat.le_of_ble_eq_true rfl) rfl rfl ?_
  have hc := check19 x h
  have hms := h.ms
  simp [go_sem, IxG.sv] at hc ⊢
  refine call_val hc rfl rfl ?_
  cases hv : validX x
  · have e4 : e = 40 := by rw [← he, addE, if_pos hv]
    subst e4
    simp [go_sem, checkE, hv]
  simp [go_sem, checkE, hv]
  refine call_val (number49 m.id) rfl rfl ?_
  cases ho : okN m.id
  · have e4 : e = 2 := by rw [← he, addE, if_neg (by rw [hv]; simp), if_pos ho]
    subst e4
    simp [go_sem]
  simp [go_sem]
  refine call_val (check51 m.x.c m.x.m) rfl rfl ?_
  cases hi : vI m.x.c m.x.m
  · have e4 : e = 30 := by rw [← he, addE, if_neg (by rw [hv]; simp), if_neg (by rw [ho]; simp), if_pos (show m.x.ok = false from hi)]
    subst e4
    simp [go_sem]
  have hi' : ¬ m.x.ok = false := by unfold IrG.ok; rw [hi]; simp
  simp [go_sem]
  refine call_val (place60 x.ms (by omega) (validX_sorted hv) m.id) rfl rfl ?_
  cases hp : isM x.ms m.id
  rotate_left
  · have e4 : e = 41 := by rw [← he, addE, if_neg (by rw [hv]; simp), if_neg (by rw [ho]; simp), if_neg hi', if_pos hp]
    subst e4
    simp [go_sem]
  by_cases hl : x.ms.length = 256
  · have e4 : e = 9 := by rw [← he, addE, if_neg (by rw [hv]; simp), if_neg (by rw [ho]; simp), if_neg hi', if_neg (by rw [hp]; simp), if_pos hl]
    subst e4
    simp [go_sem, hl]
  have e0 : e = 0 := by rw [← he, addE, if_neg (by rw [hv]; simp), if_neg (by rw [ho]; simp), if_neg hi', if_neg (by rw [hp]; simp), if_neg hl]
  subst e0
  have hl' : ¬ (x.ms.length : Int) = 256 := by omega
  simp [go_sem, hl, hl']
  refine callK_lentOwn (S := .sl 0 3 0 (x.ms ++ [m]).length none) (Rs' := [mreg (x.ms ++ [m])]) ?_ trivial ⟨fun i j hi hj => mflat hi hj, trivial⟩ ?_
  · simp [go_sem]
    have key := concat61 x.ms [m] (by omega) (by simp)
    simp only [List.length_append, List.length_cons, List.length_nil, Nat.zero_add] at key
    refine key _ ?_ (fun _ _ _ _ => rfl) ?_ _ rfl ?_
    rotate_left
    rotate_left
    · simp [go_sem]
      exact rfl
    · intro i j hi hj
      obtain rfl : i = 0 := by omega
      rcases (show j = 0 ∨ j = 1 ∨ j = 2 by omega) with rfl | rfl | rfl <;> rfl
  simp [go_sem]
  have hlen := validX_len hv
  have hof := of52p (x.ms ++ [m]) (by rw [List.length_append, List.length_cons, List.length_nil]; omega)
  rw [hy] at hof
  simp only [mrs, List.length_append, List.length_cons, List.length_nil, Nat.zero_add] at hof
  refine callK_freeze 5 (R := .vec 43 3 (x.ms.length + 1) fun i j => .r (mrows (x.ms ++ [m]) i j)) (by simp [go_sem]) ?_
  simp [go_sem]
  refine call_val hof rfl rfl ?_
  simp [go_sem, IxG.sv]
theorem add24 (x : IxG) (h : x.Sm) (m : MbG) : Pure Try.prog 24 [x.sv, m.sv] (· = .tup [(addX x m).sv, .i (addE x m)]) := by
  refine pure_le (add24' x h m) (le_tup ⟨?_, SV.le.rfl, trivial⟩)
  unfold addX
  split
  · exact SV.le.rfl
  · exact nil_zero
end Go.Gx.Ix
