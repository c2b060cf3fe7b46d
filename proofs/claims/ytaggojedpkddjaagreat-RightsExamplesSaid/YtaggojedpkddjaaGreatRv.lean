/-
  slices.DeleteFunc.
-/
import Derived.Test.YtaggojedpkddjaaGreatRu
set_option linter.unusedVariables false
set_option linter.unusedSimpArgs false
set_option maxRecDepth 20000
set_option maxHeartbeats 1000000
namespace Go.Gx.Rg
open Go.RowKit Go.Proofs Go.Proofs.YtaggojedpkddjaaGreat

theorem idx_cases (p : Nat → Bool) (n : Nat) : (idx p n = -1 ∧ ∀ j, j < n → p j = false) ∨ ∃ i, i < n ∧ p i = true ∧ (∀ j, j < i → p j = false) ∧ idx p n = i := by
  unfold idx
  cases h : (List.range n).find? p with
  | none =>
    have := List.find?_eq_none.1 h
    exact .inl ⟨rfl, fun j hj => by simpa using this j (List.mem_range.2 hj)⟩
  | some i =>
    obtain ⟨h1, h2, h3⟩ := List.find?_range_eq_some.1 h
    exact .inr ⟨i, List.mem_range.1 h2, h1, fun j hj => by simpa using h3 j hj, rfl⟩

/-- The places that stay. -/
def kept (p : Nat → Bool) (n : Nat) : List Nat := (List.range n).filter fun i => !p i
theorem kept_succ (p : Nat → Bool) (n : Nat) : kept p (n + 1) = kept p n ++ if p n then [] else [n] := by
  unfold kept
  rw [List.range_succ, List.filter_append]
  cases h : p n <;> simp [h]
theorem kept_le (p : Nat → Bool) (n : Nat) : (kept p n).length ≤ n := by
  unfold kept
  exact Nat.le_trans (List.length_filter_le _ _) (by simp)
theorem kept_all {p : Nat → Bool} {n : Nat} (h : ∀ j, j < n → p j = false) : kept p n = List.range n := by
  unfold kept
  exact List.filter_eq_self.2 fun a ha => by simp [h a (List.mem_range.1 ha)]
theorem kept_lt {p : Nat → Bool} {n i : Nat} (hi : i < n) (hp : p i = true) : (kept p n).length < n := by
  induction n with
  | zero => omega
  | succ n ih =>
    rw [kept_succ]
    have := kept_le p n
    by_cases h : i = n
    · subst h; simp [hp]; omega
    · have := ih (by omega)
      cases hq : p n <;> simp <;> omega
/-- The memory after the first j are looked at. -/
def keptR (get : Nat → Nat → RV) (p : Nat → Bool) (j : Nat) : Nat → Nat → RV := fun i c => if i < (kept p j).length then rowsL get (kept p j) i c else get i c
theorem keptR_ge {get : Nat → Nat → RV} {p : Nat → Bool} {j i c : Nat} (h : (kept p j).length ≤ i) : keptR get p j i c = get i c := if_neg (by omega)
theorem keptR_put {get : Nat → Nat → RV} {p : Nat → Bool} {j i c : Nat} (h : p j = false) : keptR get p (j + 1) i c = if i = (kept p j).length then get j c else keptR get p j i c := by
  have hs : kept p (j + 1) = kept p j ++ [j] := by rw [kept_succ, h]; simp
  unfold keptR rowsL
  rw [hs]
  by_cases h1 : i = (kept p j).length
  · subst h1; simp
  · rw [if_neg h1]
    by_cases h2 : i < (kept p j).length
    · rw [if_pos h2, if_pos (by simp; omega), List.getElem?_append_left h2]
    · rw [if_neg h2, if_neg (by simp; omega)]

theorem delf50 (n : Nat) (hn : n ≤ 1000000) (get : Nat → Nat → RV) (g : FuncId) (c : RV) (p : Nat → Bool) (ho : ∀ i j, i < n → j < 8 → (SV.r (get i j)).one = true) (hp : ∀ i, i < n → Pure Tryz.prog g [.agg [.r (get i 0), .r (get i 1), .r (get i 2), .r (get i 3), .r (get i 4), .r (get i 5), .r (get i 6), .r (get i 7)], .r c] (· = .b (p i))) :
    Own Tryz.prog 34 [.vec 45 8 n fun i j => .r (get i j)] [.sl 0 8 0 n none, .fn (.func g) [] [.r c]] (.sl 0 8 0 (kept p n).length none) [.vec 45 8 (kept p n).length fun i j => .r ((rowsL get (kept p n)) i j)] := by
  refine own_of_GC T_ok Tryz.func34 rfl (by kernel_rfl) (Nat.le_of_ble_eq_true rfl) rfl rfl ?_
  simp [go_sem]
  refine call_lent (v := .i (idx p n)) ?_ rfl ?_
  · simp [go_sem]
    exact idx109 n (by omega) get g [.r c] p rfl hp
  rcases idx_cases p n with ⟨h1, h2⟩ | ⟨i0, h1, h2, h3, h4⟩
  · rw [h1]
    simp [go_sem]
    refine ⟨[0], by simp, fun N => ⟨?_, ?_⟩⟩
    · simp [go_sem, kept_all h2]
    · simp [go_sem, kept_all h2]
      intro i j hi hj
      exact (rowsL_get (by simp [hi]) j).symm
  rw [h4]
  simp [go_sem]
  have hk0 : kept p i0 = List.range i0 := kept_all h3
  have hk1 : kept p (i0 + 1) = List.range i0 := by rw [kept_succ, hk0, h2]; simp
  refine ⟨by omega, ?_⟩
  refine GLoop_s T_ok (α := Nat) (fun j => [(0, .sl 0 8 0 n none), (1, .fn (.func g) [] [.r c]), (5, .i (kept p j).length), (6, .i j)]) (fun j => [some (.vec 45 8 n fun i' j' => .r ((keptR get p j) i' j'))]) 1 (fun j => j ≤ n ∧ (kept p j).length < j) (fun j => n - j) (i0 + 1) (fun _ => rfl) ⟨by omega, by rw [hk1]; simp⟩ (by simp [go_sem, hk1]) (by
    simp [go_sem]
    intro i j hi hj
    unfold keptR
    rw [hk1]
    split
    · rename_i h
      exact (rowsL_get (by simp at h; simp [h]) j).symm
    · rfl) ?_
  intro j J hi
  have hkn := kept_le p j
  have hq : ∀ c, keptR get p j j c = get j c := fun c => keptR_ge hkn
  simp [go_sem, hq]
  split
  · rename_i hlt
    refine ⟨by omega, ⟨by simpa [SV.one] using ho j 0 hlt (by decide), by simpa [SV.one] using ho j 1 hlt (by decide), by simpa [SV.one] using ho j 2 hlt (by decide), by simpa [SV.one] using ho j 3 hlt (by decide), by simpa [SV.one] using ho j 4 hlt (by decide), by simpa [SV.one] using ho j 5 hlt (by decide), by simpa [SV.one] using ho j 6 hlt (by decide), by simpa [SV.one] using ho j 7 hlt (by decide)⟩, ?_⟩
    refine call_val (hp j hlt) rfl rfl ?_
    simp [go_sem]
    cases hpj : p j
    · simp [go_sem]
      have hs : kept p (j + 1) = kept p j ++ [j] := by rw [kept_succ, hpj]; simp
      refine ⟨by omega, ⟨⟨by simpa [SV.one] using ho j 0 hlt (by decide), by simpa [SV.one] using ho j 1 hlt (by decide), by simpa [SV.one] using ho j 2 hlt (by decide), by simpa [SV.one] using ho j 3 hlt (by decide), by simpa [SV.one] using ho j 4 hlt (by decide), by simpa [SV.one] using ho j 5 hlt (by decide), by simpa [SV.one] using ho j 6 hlt (by decide), by simpa [SV.one] using ho j 7 hlt (by decide)⟩, by omega⟩, by omega, by omega, j + 1, ⟨by omega, by rw [hs]; simp; omega⟩, by omega, ⟨by rw [hs]; simp, by omega⟩, fun i c hi hc => ?_⟩
      rw [keptR_put hpj]
      by_cases hil : i = (kept p j).length
      · rw [if_pos ⟨hil, hc⟩, if_pos hil]
        have hcc : c = 0 ∨ c = 1 ∨ c = 2 ∨ c = 3 ∨ c = 4 ∨ c = 5 ∨ c = 6 ∨ c = 7 := by omega
        rcases hcc with rfl | rfl | rfl | rfl | rfl | rfl | rfl | rfl <;> simp [toRV_r, SV.trim]
      · rw [if_neg (fun h => hil h.1), if_neg hil]; rfl
    · simp [go_sem]
      have hs : kept p (j + 1) = kept p j := by rw [kept_succ, hpj]; simp
      refine ⟨by omega, j + 1, ⟨by omega, by rw [hs]; omega⟩, by omega, ⟨by rw [hs], by omega⟩, fun i c hi hc => ?_⟩
      unfold keptR
      rw [hs]
  · rename_i hlt
    have hjn : j = n := by omega
    subst hjn
    refine ⟨by omega, by omega, by omega, [0], by simp, fun N => ⟨?_, ?_⟩⟩
    · simp [go_sem]
    · simp [go_sem]
      refine ⟨by omega, fun i c hi hc => ?_⟩
      rw [if_neg (by omega)]
      exact congrArg SV.r (if_pos hi)
theorem delf52 (n : Nat) (hn : n ≤ 1000000) (get : Nat → Nat → RV) (g : FuncId) (c : RV) (p : Nat → Bool) (ho : ∀ i j, i < n → j < 3 → (SV.r (get i j)).one = true) (hp : ∀ i, i < n → Pure Tryz.prog g [.agg [.r (get i 0), .r (get i 1), .r (get i 2)], .r c] (· = .b (p i))) :
    Own Tryz.prog 36 [.vec 49 3 n fun i j => .r (get i j)] [.sl 0 3 0 n none, .fn (.func g) [] [.r c]] (.sl 0 3 0 (kept p n).length none) [.vec 49 3 (kept p n).length fun i j => .r ((rowsL get (kept p n)) i j)] := by
  refine own_of_GC T_ok Tryz.func36 rfl (by kernel_rfl) (Nat.le_of_ble_eq_true rfl) rfl rfl ?_
  simp [go_sem]
  refine call_lent (v := .i (idx p n)) ?_ rfl ?_
  · simp [go_sem]
    exact idx110 n (by omega) get g [.r c] p rfl hp
  rcases idx_cases p n with ⟨h1, h2⟩ | ⟨i0, h1, h2, h3, h4⟩
  · rw [h1]
    simp [go_sem]
    refine ⟨[0], by simp, fun N => ⟨?_, ?_⟩⟩
    · simp [go_sem, kept_all h2]
    · simp [go_sem, kept_all h2]
      intro i j hi hj
      exact (rowsL_get (by simp [hi]) j).symm
  rw [h4]
  simp [go_sem]
  have hk0 : kept p i0 = List.range i0 := kept_all h3
  have hk1 : kept p (i0 + 1) = List.range i0 := by rw [kept_succ, hk0, h2]; simp
  refine ⟨by omega, ?_⟩
  refine GLoop_s T_ok (α := Nat) (fun j => [(0, .sl 0 3 0 n none), (1, .fn (.func g) [] [.r c]), (5, .i (kept p j).length), (6, .i j)]) (fun j => [some (.vec 49 3 n fun i' j' => .r ((keptR get p j) i' j'))]) 1 (fun j => j ≤ n ∧ (kept p j).length < j) (fun j => n - j) (i0 + 1) (fun _ => rfl) ⟨by omega, by rw [hk1]; simp⟩ (by simp [go_sem, hk1]) (by
    simp [go_sem]
    intro i j hi hj
    unfold keptR
    rw [hk1]
    split
    · rename_i h
      exact (rowsL_get (by simp at h; simp [h]) j).symm
    · rfl) ?_
  intro j J hi
  have hkn := kept_le p j
  have hq : ∀ c, keptR get p j j c = get j c := fun c => keptR_ge hkn
  simp [go_sem, hq]
  split
  · rename_i hlt
    refine ⟨by omega, ⟨by simpa [SV.one] using ho j 0 hlt (by decide), by simpa [SV.one] using ho j 1 hlt (by decide), by simpa [SV.one] using ho j 2 hlt (by decide)⟩, ?_⟩
    refine call_val (hp j hlt) rfl rfl ?_
    simp [go_sem]
    cases hpj : p j
    · simp [go_sem]
      have hs : kept p (j + 1) = kept p j ++ [j] := by rw [kept_succ, hpj]; simp
      refine ⟨by omega, ⟨⟨by simpa [SV.one] using ho j 0 hlt (by decide), by simpa [SV.one] using ho j 1 hlt (by decide), by simpa [SV.one] using ho j 2 hlt (by decide)⟩, by omega⟩, by omega, by omega, j + 1, ⟨by omega, by rw [hs]; simp; omega⟩, by omega, ⟨by rw [hs]; simp, by omega⟩, fun i c hi hc => ?_⟩
      rw [keptR_put hpj]
      by_cases hil : i = (kept p j).length
      · rw [if_pos ⟨hil, hc⟩, if_pos hil]
        have hcc : c = 0 ∨ c = 1 ∨ c = 2 := by omega
        rcases hcc with rfl | rfl | rfl <;> simp [toRV_r, SV.trim]
      · rw [if_neg (fun h => hil h.1), if_neg hil]; rfl
    · simp [go_sem]
      have hs : kept p (j + 1) = kept p j := by rw [kept_succ, hpj]; simp
      refine ⟨by omega, j + 1, ⟨by omega, by rw [hs]; omega⟩, by omega, ⟨by rw [hs], by omega⟩, fun i c hi hc => ?_⟩
      unfold keptR
      rw [hs]
  · rename_i hlt
    have hjn : j = n := by omega
    subst hjn
    refine ⟨by omega, by omega, by omega, [0], by simp, fun N => ⟨?_, ?_⟩⟩
    · simp [go_sem]
    · simp [go_sem]
      refine ⟨by omega, fun i c hi hc => ?_⟩
      rw [if_neg (by omega)]
      exact congrArg SV.r (if_pos hi)
theorem delf54 (n : Nat) (hn : n ≤ 1000000) (get : Nat → Nat → RV) (g : FuncId) (c : RV) (p : Nat → Bool) (ho : ∀ i j, i < n → j < 4 → (SV.r (get i j)).one = true) (hp : ∀ i, i < n → Pure Tryz.prog g [.agg [.r (get i 0), .r (get i 1), .r (get i 2), .r (get i 3)], .r c] (· = .b (p i))) :
    Own Tryz.prog 38 [.vec 65 4 n fun i j => .r (get i j)] [.sl 0 4 0 n none, .fn (.func g) [] [.r c]] (.sl 0 4 0 (kept p n).length none) [.vec 65 4 (kept p n).length fun i j => .r ((rowsL get (kept p n)) i j)] := by
  refine own_of_GC T_ok Tryz.func38 rfl (by kernel_rfl) (Nat.le_of_ble_eq_true rfl) rfl rfl ?_
  simp [go_sem]
  refine call_lent (v := .i (idx p n)) ?_ rfl ?_
  · simp [go_sem]
    exact idx111 n (by omega) get g [.r c] p rfl hp
  rcases idx_cases p n with ⟨h1, h2⟩ | ⟨i0, h1, h2, h3, h4⟩
  · rw [h1]
    simp [go_sem]
    refine ⟨[0], by simp, fun N => ⟨?_, ?_⟩⟩
    · simp [go_sem, kept_all h2]
    · simp [go_sem, kept_all h2]
      intro i j hi hj
      exact (rowsL_get (by simp [hi]) j).symm
  rw [h4]
  simp [go_sem]
  have hk0 : kept p i0 = List.range i0 := kept_all h3
  have hk1 : kept p (i0 + 1) = List.range i0 := by rw [kept_succ, hk0, h2]; simp
  refine ⟨by omega, ?_⟩
  refine GLoop_s T_ok (α := Nat) (fun j => [(0, .sl 0 4 0 n none), (1, .fn (.func g) [] [.r c]), (5, .i (kept p j).length), (6, .i j)]) (fun j => [some (.vec 65 4 n fun i' j' => .r ((keptR get p j) i' j'))]) 1 (fun j => j ≤ n ∧ (kept p j).length < j) (fun j => n - j) (i0 + 1) (fun _ => rfl) ⟨by omega, by rw [hk1]; simp⟩ (by simp [go_sem, hk1]) (by
    simp [go_sem]
    intro i j hi hj
    unfold keptR
    rw [hk1]
    split
    · rename_i h
      exact (rowsL_get (by simp at h; simp [h]) j).symm
    · rfl) ?_
  intro j J hi
  have hkn := kept_le p j
  have hq : ∀ c, keptR get p j j c = get j c := fun c => keptR_ge hkn
  simp [go_sem, hq]
  split
  · rename_i hlt
    refine ⟨by omega, ⟨by simpa [SV.one] using ho j 0 hlt (by decide), by simpa [SV.one] using ho j 1 hlt (by decide), by simpa [SV.one] using ho j 2 hlt (by decide), by simpa [SV.one] using ho j 3 hlt (by decide)⟩, ?_⟩
    refine call_val (hp j hlt) rfl rfl ?_
    simp [go_sem]
    cases hpj : p j
    · simp [go_sem]
      have hs : kept p (j + 1) = kept p j ++ [j] := by rw [kept_succ, hpj]; simp
      refine ⟨by omega, ⟨⟨by simpa [SV.one] using ho j 0 hlt (by decide), by simpa [SV.one] using ho j 1 hlt (by decide), by simpa [SV.one] using ho j 2 hlt (by decide), by simpa [SV.one] using ho j 3 hlt (by decide)⟩, by omega⟩, by omega, by omega, j + 1, ⟨by omega, by rw [hs]; simp; omega⟩, by omega, ⟨by rw [hs]; simp, by omega⟩, fun i c hi hc => ?_⟩
      rw [keptR_put hpj]
      by_cases hil : i = (kept p j).length
      · rw [if_pos ⟨hil, hc⟩, if_pos hil]
        have hcc : c = 0 ∨ c = 1 ∨ c = 2 ∨ c = 3 := by omega
        rcases hcc with rfl | rfl | rfl | rfl <;> simp [toRV_r, SV.trim]
      · rw [if_neg (fun h => hil h.1), if_neg hil]; rfl
    · simp [go_sem]
      have hs : kept p (j + 1) = kept p j := by rw [kept_succ, hpj]; simp
      refine ⟨by omega, j + 1, ⟨by omega, by rw [hs]; omega⟩, by omega, ⟨by rw [hs], by omega⟩, fun i c hi hc => ?_⟩
      unfold keptR
      rw [hs]
  · rename_i hlt
    have hjn : j = n := by omega
    subst hjn
    refine ⟨by omega, by omega, by omega, [0], by simp, fun N => ⟨?_, ?_⟩⟩
    · simp [go_sem]
    · simp [go_sem]
      refine ⟨by omega, fun i c hi hc => ?_⟩
      rw [if_neg (by omega)]
      exact congrArg SV.r (if_pos hi)
theorem delf56 (n : Nat) (hn : n ≤ 1000000) (get : Nat → Nat → RV) (g : FuncId) (c : RV) (p : Nat → Bool) (ho : ∀ i j, i < n → j < 5 → (SV.r (get i j)).one = true) (hp : ∀ i, i < n → Pure Tryz.prog g [.agg [.r (get i 0), .r (get i 1), .r (get i 2), .r (get i 3), .r (get i 4)], .r c] (· = .b (p i))) :
    Own Tryz.prog 40 [.vec 54 5 n fun i j => .r (get i j)] [.sl 0 5 0 n none, .fn (.func g) [] [.r c]] (.sl 0 5 0 (kept p n).length none) [.vec 54 5 (kept p n).length fun i j => .r ((rowsL get (kept p n)) i j)] := by
  refine own_of_GC T_ok Tryz.func40 rfl (by kernel_rfl) (Nat.le_of_ble_eq_true rfl) rfl rfl ?_
  simp [go_sem]
  refine call_lent (v := .i (idx p n)) ?_ rfl ?_
  · simp [go_sem]
    exact idx112 n (by omega) get g [.r c] p rfl hp
  rcases idx_cases p n with ⟨h1, h2⟩ | ⟨i0, h1, h2, h3, h4⟩
  · rw [h1]
    simp [go_sem]
    refine ⟨[0], by simp, fun N => ⟨?_, ?_⟩⟩
    · simp [go_sem, kept_all h2]
    · simp [go_sem, kept_all h2]
      intro i j hi hj
      exact (rowsL_get (by simp [hi]) j).symm
  rw [h4]
  simp [go_sem]
  have hk0 : kept p i0 = List.range i0 := kept_all h3
  have hk1 : kept p (i0 + 1) = List.range i0 := by rw [kept_succ, hk0, h2]; simp
  refine ⟨by omega, ?_⟩
  refine GLoop_s T_ok (α := Nat) (fun j => [(0, .sl 0 5 0 n none), (1, .fn (.func g) [] [.r c]), (5, .i (kept p j).length), (6, .i j)]) (fun j => [some (.vec 54 5 n fun i' j' => .r ((keptR get p j) i' j'))]) 1 (fun j => j ≤ n ∧ (kept p j).length < j) (fun j => n - j) (i0 + 1) (fun _ => rfl) ⟨by omega, by rw [hk1]; simp⟩ (by simp [go_sem, hk1]) (by
    simp [go_sem]
    intro i j hi hj
    unfold keptR
    rw [hk1]
    split
    · rename_i h
      exact (rowsL_get (by simp at h; simp [h]) j).symm
    · rfl) ?_
  intro j J hi
  have hkn := kept_le p j
  have hq : ∀ c, keptR get p j j c = get j c := fun c => keptR_ge hkn
  simp [go_sem, hq]
  split
  · rename_i hlt
    refine ⟨by omega, ⟨by simpa [SV.one] using ho j 0 hlt (by decide), by simpa [SV.one] using ho j 1 hlt (by decide), by simpa [SV.one] using ho j 2 hlt (by decide), by simpa [SV.one] using ho j 3 hlt (by decide), by simpa [SV.one] using ho j 4 hlt (by decide)⟩, ?_⟩
    refine call_val (hp j hlt) rfl rfl ?_
    simp [go_sem]
    cases hpj : p j
    · simp [go_sem]
      have hs : kept p (j + 1) = kept p j ++ [j] := by rw [kept_succ, hpj]; simp
      refine ⟨by omega, ⟨⟨by simpa [SV.one] using ho j 0 hlt (by decide), by simpa [SV.one] using ho j 1 hlt (by decide), by simpa [SV.one] using ho j 2 hlt (by decide), by simpa [SV.one] using ho j 3 hlt (by decide), by simpa [SV.one] using ho j 4 hlt (by decide)⟩, by omega⟩, by omega, by omega, j + 1, ⟨by omega, by rw [hs]; simp; omega⟩, by omega, ⟨by rw [hs]; simp, by omega⟩, fun i c hi hc => ?_⟩
      rw [keptR_put hpj]
      by_cases hil : i = (kept p j).length
      · rw [if_pos ⟨hil, hc⟩, if_pos hil]
        have hcc : c = 0 ∨ c = 1 ∨ c = 2 ∨ c = 3 ∨ c = 4 := by omega
        rcases hcc with rfl | rfl | rfl | rfl | rfl <;> simp [toRV_r, SV.trim]
      · rw [if_neg (fun h => hil h.1), if_neg hil]; rfl
    · simp [go_sem]
      have hs : kept p (j + 1) = kept p j := by rw [kept_succ, hpj]; simp
      refine ⟨by omega, j + 1, ⟨by omega, by rw [hs]; omega⟩, by omega, ⟨by rw [hs], by omega⟩, fun i c hi hc => ?_⟩
      unfold keptR
      rw [hs]
  · rename_i hlt
    have hjn : j = n := by omega
    subst hjn
    refine ⟨by omega, by omega, by omega, [0], by simp, fun N => ⟨?_, ?_⟩⟩
    · simp [go_sem]
    · simp [go_sem]
      refine ⟨by omega, fun i c hi hc => ?_⟩
      rw [if_neg (by omega)]
      exact congrArg SV.r (if_pos hi)

end Go.Gx.Rg
