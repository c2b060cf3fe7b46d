/-
  slices.Clone, slices.Equal, slices.DeleteFunc.
-/
import Derived.Test.YtnajladibkpeaaaFc
import Derived.Test.YtnajladibkpeaaaK9
set_option linter.unusedVariables false
set_option linter.unusedSimpArgs false
set_option maxRecDepth 20000
set_option maxHeartbeats 4000000
namespace Go.Gx
open Go.RowKit Go.Proofs Go.Proofs.Ytnajladibkpeaaa

theorem clone114 (n : Nat) (hn : n ≤ 1000000) (get : Nat → Nat → RV) : Own Try.prog 114 [] [.r (.rs 2 n get)] (.sl 0 2 0 n none) [.vec 85 2 n fun i j => .r (get i j)] := by
  refine own_of_GC0 T_ok Try.func114 rfl (by kernel_rfl) (Nat.le_of_ble_eq_true rfl) rfl rfl ?_
  simp [go_sem]
  refine ⟨fun h => .inr (by subst h; simp), ⟨by omega, by omega⟩, ⟨[0], by simp, fun N => ⟨?_, ?_⟩⟩⟩
  · simp [go_sem]
  · simp [go_sem, joined]
    intros; omega
theorem clone115 (n : Nat) (hn : n ≤ 1000000) (get : Nat → Nat → RV) : Own Try.prog 115 [] [.r (.rs 3 n get)] (.sl 0 3 0 n none) [.vec 46 3 n fun i j => .r (get i j)] := by
  refine own_of_GC0 T_ok Try.func115 rfl (by kernel_rfl) (Nat.le_of_ble_eq_true rfl) rfl rfl ?_
  simp [go_sem]
  refine ⟨fun h => .inr (by subst h; simp), ⟨by omega, by omega⟩, ⟨[0], by simp, fun N => ⟨?_, ?_⟩⟩⟩
  · simp [go_sem]
  · simp [go_sem, joined]
    intros; omega
theorem clone116 (n : Nat) (hn : n ≤ 1000000) (get : Nat → Nat → RV) : Own Try.prog 116 [] [.r (.rs 3 n get)] (.sl 0 3 0 n none) [.vec 93 3 n fun i j => .r (get i j)] := by
  refine own_of_GC0 T_ok Try.func116 rfl (by kernel_rfl) (Nat.le_of_ble_eq_true rfl) rfl rfl ?_
  simp [go_sem]
  refine ⟨fun h => .inr (by subst h; simp), ⟨by omega, by omega⟩, ⟨[0], by simp, fun N => ⟨?_, ?_⟩⟩⟩
  · simp [go_sem]
  · simp [go_sem, joined]
    intros; omega
theorem clone117 (n : Nat) (hn : n ≤ 1000000) (get : Nat → Nat → RV) : Own Try.prog 117 [] [.r (.rs 2 n get)] (.sl 0 2 0 n none) [.vec 119 2 n fun i j => .r (get i j)] := by
  refine own_of_GC0 T_ok Try.func117 rfl (by kernel_rfl) (Nat.le_of_ble_eq_true rfl) rfl rfl ?_
  simp [go_sem]
  refine ⟨fun h => .inr (by subst h; simp), ⟨by omega, by omega⟩, ⟨[0], by simp, fun N => ⟨?_, ?_⟩⟩⟩
  · simp [go_sem]
  · simp [go_sem, joined]
    intros; omega
def VtG.eqB (x y : VtG) : Bool := decide (x.o = y.o) && decide (x.s = y.s)
theorem VtG.eqB_rfl (x : VtG) : x.eqB x = true := by simp [VtG.eqB]
theorem equal70 (n m : Nat) (hn : (n : Int) < 2 ^ 62) (hm : (m : Int) < 2 ^ 62) (x y : Nat → VtG) : Pure Try.prog 70 [.r (.rs 2 n fun i j => (x i).c j), .r (.rs 2 m fun i j => (y i).c j)] (· = .b (decide (n = m) && (List.range n).all fun i => (x i).eqB (y i))) := by
  refine pure_of_GC T_ok Try.func70 rfl (by kernel_rfl) (Nat.le_of_ble_eq_true rfl) rfl rfl ?_
  simp [go_sem]
  by_cases h : n = m
  rotate_left
  · simp [go_sem, h]
    try omega
  subst h
  simp [go_sem]
  refine GLoop_of T_ok (α := Nat) (fun k => [(0, .r (.rs 2 n fun i j => (x i).c j)), (1, .r (.rs 2 n fun i j => (y i).c j)), (12, .i n), (13, .i k)]) (fun _ => []) 0 (fun k => k ≤ n ∧ ∀ j, j < k → (x j).eqB (y j) = true) (fun k => n - k) 0 (fun _ => rfl) (by simp) (by simp [go_sem]) (by simp [go_sem]) ?_
  intro k J hi
  by_cases hlt : k < n
  · simp [go_sem, hlt]
    refine GDraw_all T_ok (by kernel_rfl) (by kernel_rfl) ?_
    simp [go_sem, hlt]
    by_cases he : (x k).eqB (y k) = true
    · rw [if_neg (by simp [VtG.eqB] at he; simp [he])]
      refine ⟨by omega, k + 1, ⟨by omega, fun j hj => ?_⟩, by omega, by omega⟩
      by_cases hjk : j = k
      · subst hjk; exact he
      · exact hi.2 j (by omega)
    · rw [if_pos (Classical.byContradiction fun hc => he (by simp at hc; simp [VtG.eqB, hc]))]
      exact ⟨k, hlt, by simpa using he⟩
  · simp [go_sem, hlt]
    intro j hj
    exact hi.2 j (by omega)
def RcG.eqB (x y : RcG) : Bool := decide (x.q = y.q) && decide (x.g = y.g)
theorem RcG.eqB_rfl (x : RcG) : x.eqB x = true := by simp [RcG.eqB]
theorem equal71 (n m : Nat) (hn : (n : Int) < 2 ^ 62) (hm : (m : Int) < 2 ^ 62) (x y : Nat → RcG) : Pure Try.prog 71 [.r (.rs 2 n fun i j => (x i).c j), .r (.rs 2 m fun i j => (y i).c j)] (· = .b (decide (n = m) && (List.range n).all fun i => (x i).eqB (y i))) := by
  refine pure_of_GC T_ok Try.func71 rfl (by kernel_rfl) (Nat.le_of_ble_eq_true rfl) rfl rfl ?_
  simp [go_sem]
  by_cases h : n = m
  rotate_left
  · simp [go_sem, h]
    try omega
  subst h
  simp [go_sem]
  refine GLoop_of T_ok (α := Nat) (fun k => [(0, .r (.rs 2 n fun i j => (x i).c j)), (1, .r (.rs 2 n fun i j => (y i).c j)), (12, .i n), (13, .i k)]) (fun _ => []) 0 (fun k => k ≤ n ∧ ∀ j, j < k → (x j).eqB (y j) = true) (fun k => n - k) 0 (fun _ => rfl) (by simp) (by simp [go_sem]) (by simp [go_sem]) ?_
  intro k J hi
  by_cases hlt : k < n
  · simp [go_sem, hlt]
    refine GDraw_all T_ok (by kernel_rfl) (by kernel_rfl) ?_
    simp [go_sem, hlt]
    by_cases he : (x k).eqB (y k) = true
    · rw [if_neg (by simp [RcG.eqB] at he; simp [he])]
      refine ⟨by omega, k + 1, ⟨by omega, fun j hj => ?_⟩, by omega, by omega⟩
      by_cases hjk : j = k
      · subst hjk; exact he
      · exact hi.2 j (by omega)
    · rw [if_pos (Classical.byContradiction fun hc => he (by simp at hc; simp [RcG.eqB, hc]))]
      exact ⟨k, hlt, by simpa using he⟩
  · simp [go_sem, hlt]
    intro j hj
    exact hi.2 j (by omega)
def LkG.eqB (x y : LkG) : Bool := decide (x.a = y.a) && decide (x.b = y.b) && decide (x.s = y.s)
theorem LkG.eqB_rfl (x : LkG) : x.eqB x = true := by simp [LkG.eqB]
theorem equal72 (n m : Nat) (hn : (n : Int) < 2 ^ 62) (hm : (m : Int) < 2 ^ 62) (x y : Nat → LkG) : Pure Try.prog 72 [.r (.rs 3 n fun i j => (x i).c j), .r (.rs 3 m fun i j => (y i).c j)] (· = .b (decide (n = m) && (List.range n).all fun i => (x i).eqB (y i))) := by
  refine pure_of_GC T_ok Try.func72 rfl (by kernel_rfl) (Nat.le_of_ble_eq_true rfl) rfl rfl ?_
  simp [go_sem]
  by_cases h : n = m
  rotate_left
  · simp [go_sem, h]
    try omega
  subst h
  simp [go_sem]
  refine GLoop_of T_ok (α := Nat) (fun k => [(0, .r (.rs 3 n fun i j => (x i).c j)), (1, .r (.rs 3 n fun i j => (y i).c j)), (12, .i n), (13, .i k)]) (fun _ => []) 0 (fun k => k ≤ n ∧ ∀ j, j < k → (x j).eqB (y j) = true) (fun k => n - k) 0 (fun _ => rfl) (by simp) (by simp [go_sem]) (by simp [go_sem]) ?_
  intro k J hi
  by_cases hlt : k < n
  · simp [go_sem, hlt]
    refine GDraw_all T_ok (by kernel_rfl) (by kernel_rfl) ?_
    simp [go_sem, hlt]
    by_cases he : (x k).eqB (y k) = true
    · rw [if_neg (by simp [LkG.eqB] at he; simp [he])]
      refine ⟨by omega, k + 1, ⟨by omega, fun j hj => ?_⟩, by omega, by omega⟩
      by_cases hjk : j = k
      · subst hjk; exact he
      · exact hi.2 j (by omega)
    · rw [if_pos (Classical.byContradiction fun hc => he (by simp at hc; simp [LkG.eqB, hc]))]
      exact ⟨k, hlt, by simpa using he⟩
  · simp [go_sem, hlt]
    intro j hj
    exact hi.2 j (by omega)
theorem index118 (n : Nat) (hn : n ≤ 1000000000) (get : Nat → Nat → RV) (g : FuncId) (ca : List SV) (hca : SV.closedL ca = true) (p : Nat → Bool)
    (hp : ∀ i, i < n → Pure Try.prog g (.agg [.r (get i 0), .r (get i 1), .r (get i 2)] :: ca) (· = .b (p i))) : Pure Try.prog 118 [.r (.rs 3 n get), .fn (.func g) [] ca] (· = .i (ixB p n)) := by
  refine pure_of_GC T_ok Try.func118 rfl (by kernel_rfl) (Nat.le_of_ble_eq_true rfl) rfl rfl ?_
  simp [go_sem]
  refine GLoop_of T_ok (α := Nat) (fun x => [(0, .r (.rs 3 n get)), (1, .fn (.func g) [] ca), (7, .i n), (8, .i x)]) (fun _ => []) 0 (fun x => x ≤ n ∧ ∀ j, j < x → p j = false) (fun x => n - x) 0 (fun _ => rfl) (by simp) (by simp [go_sem, SV.trimL_closed _ _ hca]) (by simp [go_sem]) ?_
  intro x J hi
  by_cases hlt : x < n
  · simp [go_sem, hlt]
    refine call_val (hp x hlt) (by simp [go_sem, hca]) rfl ?_
    by_cases hb : p x = true
    · simp [go_sem, hb]
      exact (ixB_at hlt hb hi.2).symm
    · have hb' : p x = false := by simpa using hb
      simp [go_sem, hb', SV.trimL_closed _ _ hca]
      refine ⟨by omega, x + 1, ⟨by omega, fun j hj => ?_⟩, by omega, by omega⟩
      by_cases hjx : j = x
      · subst hjx; exact hb'
      · exact hi.2 j (by omega)
  · simp [go_sem, hlt]
    exact (ixB_no fun j hj => hi.2 j (by omega)).symm
theorem index119 (n : Nat) (hn : n ≤ 1000000000) (get : Nat → Nat → RV) (g : FuncId) (ca : List SV) (hca : SV.closedL ca = true) (p : Nat → Bool)
    (hp : ∀ i, i < n → Pure Try.prog g (.agg [.r (get i 0), .r (get i 1), .r (get i 2)] :: ca) (· = .b (p i))) : Pure Try.prog 119 [.r (.rs 3 n get), .fn (.func g) [] ca] (· = .i (ixB p n)) := by
  refine pure_of_GC T_ok Try.func119 rfl (by kernel_rfl) (Nat.le_of_ble_eq_true rfl) rfl rfl ?_
  simp [go_sem]
  refine GLoop_of T_ok (α := Nat) (fun x => [(0, .r (.rs 3 n get)), (1, .fn (.func g) [] ca), (7, .i n), (8, .i x)]) (fun _ => []) 0 (fun x => x ≤ n ∧ ∀ j, j < x → p j = false) (fun x => n - x) 0 (fun _ => rfl) (by simp) (by simp [go_sem, SV.trimL_closed _ _ hca]) (by simp [go_sem]) ?_
  intro x J hi
  by_cases hlt : x < n
  · simp [go_sem, hlt]
    refine call_val (hp x hlt) (by simp [go_sem, hca]) rfl ?_
    by_cases hb : p x = true
    · simp [go_sem, hb]
      exact (ixB_at hlt hb hi.2).symm
    · have hb' : p x = false := by simpa using hb
      simp [go_sem, hb', SV.trimL_closed _ _ hca]
      refine ⟨by omega, x + 1, ⟨by omega, fun j hj => ?_⟩, by omega, by omega⟩
      by_cases hjx : j = x
      · subst hjx; exact hb'
      · exact hi.2 j (by omega)
  · simp [go_sem, hlt]
    exact (ixB_no fun j hj => hi.2 j (by omega)).symm
theorem ixB_cases (p : Nat → Bool) (n : Nat) : (ixB p n = -1 ∧ ∀ j, j < n → p j = false) ∨ ∃ i, i < n ∧ p i = true ∧ (∀ j, j < i → p j = false) ∧ ixB p n = i := by
  unfold ixB
  cases h : (List.range n).find? p with
  | none =>
    have := List.find?_eq_none.1 h
    exact .inl ⟨rfl, fun j hj => by simpa using this j (List.mem_range.2 hj)⟩
  | some i =>
    obtain ⟨h1, h2, h3⟩ := List.find?_range_eq_some.1 h
    exact .inr ⟨i, List.mem_range.1 h2, h1, fun j hj => by simpa using h3 j hj, rfl⟩

/-- The places that stay. -/
def kept (p : Nat → Bool) (n : Nat) : List Nat := (List.range n).filter fun i => !p i
theorem kept_succ (p : Nat → Bool) (n : Nat) : kept p (n + 1) = kept p n ++ if p n then [] else [n] := by
  unfold kept
  rw [List.range_succ, List.filter_append]
  cases h : p n <;> simp [h]
theorem kept_le (p : Nat → Bool) (n : Nat) : (kept p n).length ≤ n := by
  unfold kept
  exact Nat.le_trans (List.length_filter_le _ _) (by simp)
theorem kept_all {p : Nat → Bool} {n : Nat} (h : ∀ j, j < n → p j = false) : kept p n = List.range n := by
  unfold kept
  exact List.filter_eq_self.2 fun a ha => by simp [h a (List.mem_range.1 ha)]
theorem kept_lt {p : Nat → Bool} {n i : Nat} (hi : i < n) (hp : p i = true) : (kept p n).length < n := by
  induction n with
  | zero => omega
  | succ n ih =>
    rw [kept_succ]
    have := kept_le p n
    by_cases h : i = n
    · subst h; simp [hp]; omega
    · have := ih (by omega)
      cases hq : p n <;> simp <;> omega
/-- The memory after the first j are looked at. -/
def keptR (get : Nat → Nat → RV) (p : Nat → Bool) (j : Nat) : Nat → Nat → RV := fun i c => if i < (kept p j).length then rowsL get (kept p j) i c else get i c
theorem keptR_ge {get : Nat → Nat → RV} {p : Nat → Bool} {j i c : Nat} (h : (kept p j).length ≤ i) : keptR get p j i c = get i c := if_neg (by omega)
theorem keptR_put {get : Nat → Nat → RV} {p : Nat → Bool} {j i c : Nat} (h : p j = false) : keptR get p (j + 1) i c = if i = (kept p j).length then get j c else keptR get p j i c := by
  have hs : kept p (j + 1) = kept p j ++ [j] := by rw [kept_succ, h]; simp
  unfold keptR rowsL
  rw [hs]
  by_cases h1 : i = (kept p j).length
  · subst h1; simp
  · rw [if_neg h1]
    by_cases h2 : i < (kept p j).length
    · rw [if_pos h2, if_pos (by simp; omega), List.getElem?_append_left h2]
    · rw [if_neg h2, if_neg (by simp; omega)]

theorem delf64 (n : Nat) (hn : n ≤ 1000000) (get : Nat → Nat → RV) (g : FuncId) (c : RV) (p : Nat → Bool) (ho : ∀ i j, i < n → j < 3 → (SV.r (get i j)).one = true) (hp : ∀ i, i < n → Pure Try.prog g [.agg [.r (get i 0), .r (get i 1), .r (get i 2)], .r c] (· = .b (p i))) :
    Own Try.prog 64 [.vec 46 3 n fun i j => .r (get i j)] [.sl 0 3 0 n none, .fn (.func g) [] [.r c]] (.sl 0 3 0 (kept p n).length none) [.vec 46 3 (kept p n).length fun i j => .r (rowsL get (kept p n) i j)] := by
  refine own_of_GC T_ok Try.func64 rfl (by kernel_rfl) (Nat.le_of_ble_eq_true rfl) rfl rfl ?_
  simp [go_sem]
  refine call_lent (v := .i (ixB p n)) ?_ rfl ?_
  · simp [go_sem]
    exact index118 n (by omega) get g [.r c] rfl p hp
  rcases ixB_cases p n with ⟨h1, h2⟩ | ⟨i0, h1, h2, h3, h4⟩
  · rw [h1]
    simp [go_sem]
    refine ⟨[0], by simp, fun N => ⟨?_, ?_⟩⟩
    · simp [go_sem, kept_all h2]
    · simp [go_sem, kept_all h2]
      intro i j hi hj
      exact (rowsL_get (by simp [hi]) j).symm
  rw [h4]
  simp [go_sem]
  have hk0 : kept p i0 = List.range i0 := kept_all h3
  have hk1 : kept p (i0 + 1) = List.range i0 := by rw [kept_succ, hk0, h2]; simp
  refine ⟨by omega, ?_⟩
  refine GLoop_s T_ok (α := Nat) (fun j => [(0, .sl 0 3 0 n none), (1, .fn (.func g) [] [.r c]), (5, .i (kept p j).length), (6, .i j)]) (fun j => [some (.vec 46 3 n fun i c => .r (keptR get p j i c))]) 1 (fun j => j ≤ n ∧ (kept p j).length < j) (fun j => n - j) (i0 + 1) (fun _ => rfl) ⟨by omega, by rw [hk1]; simp⟩ (by simp [go_sem, hk1]) (by
    simp [go_sem]
    intro i j hi hj
    unfold keptR
    rw [hk1]
    split
    · rename_i h
      exact (rowsL_get (by simp at h; simp [h]) j).symm
    · rfl) ?_
  intro j J hi
  have hkn := kept_le p j
  have hq : ∀ c, keptR get p j j c = get j c := fun c => keptR_ge hkn
  by_cases hlt : j < n
  · simp [go_sem, hlt, hq]
    refine ⟨⟨by simpa [SV.one] using ho j 0 hlt (by decide), by simpa [SV.one] using ho j 1 hlt (by decide), by simpa [SV.one] using ho j 2 hlt (by decide)⟩, ?_⟩
    refine call_val (hp j hlt) rfl rfl ?_
    cases hpj : p j
    · simp [go_sem]
      have hs : kept p (j + 1) = kept p j ++ [j] := by rw [kept_succ, hpj]; simp
      refine ⟨by omega, ⟨⟨by simpa [SV.one] using ho j 0 hlt (by decide), by simpa [SV.one] using ho j 1 hlt (by decide), by simpa [SV.one] using ho j 2 hlt (by decide)⟩, by omega⟩, by omega, by omega, j + 1, ⟨by omega, by rw [hs]; simp; omega⟩, by omega, ⟨by rw [hs]; simp, by omega⟩, fun i c hi hc => ?_⟩
      rw [keptR_put hpj]
      by_cases hil : i = (kept p j).length
      · rw [if_pos ⟨hil, hc⟩, if_pos hil]
        have hcc : c = 0 ∨ c = 1 ∨ c = 2 := by omega
        rcases hcc with rfl | rfl | rfl <;> simp [SV.trim]
      · rw [if_neg (fun h => hil h.1), if_neg hil]
    · simp [go_sem]
      have hs : kept p (j + 1) = kept p j := by rw [kept_succ, hpj]; simp
      refine ⟨by omega, j + 1, ⟨by omega, by rw [hs]; omega⟩, by omega, ⟨by rw [hs], by omega⟩, fun i c hi hc => ?_⟩
      unfold keptR
      rw [hs]
  · have hjn : j = n := by omega
    subst hjn
    simp [go_sem]
    refine ⟨by omega, by omega, by omega, [0], by simp, fun N => ⟨?_, ?_⟩⟩
    · simp [go_sem]
    · simp [go_sem]
      refine ⟨by omega, fun i c hi hc => ?_⟩
      rw [if_neg (by omega)]
      unfold keptR
      rw [if_pos hi]
theorem delf66 (n : Nat) (hn : n ≤ 1000000) (get : Nat → Nat → RV) (g : FuncId) (c : RV) (p : Nat → Bool) (ho : ∀ i j, i < n → j < 3 → (SV.r (get i j)).one = true) (hp : ∀ i, i < n → Pure Try.prog g [.agg [.r (get i 0), .r (get i 1), .r (get i 2)], .r c] (· = .b (p i))) :
    Own Try.prog 66 [.vec 93 3 n fun i j => .r (get i j)] [.sl 0 3 0 n none, .fn (.func g) [] [.r c]] (.sl 0 3 0 (kept p n).length none) [.vec 93 3 (kept p n).length fun i j => .r (rowsL get (kept p n) i j)] := by
  refine own_of_GC T_ok Try.func66 rfl (by kernel_rfl) (Nat.le_of_ble_eq_true rfl) rfl rfl ?_
  simp [go_sem]
  refine call_lent (v := .i (ixB p n)) ?_ rfl ?_
  · simp [go_sem]
    exact index119 n (by omega) get g [.r c] rfl p hp
  rcases ixB_cases p n with ⟨h1, h2⟩ | ⟨i0, h1, h2, h3, h4⟩
  · rw [h1]
    simp [go_sem]
    refine ⟨[0], by simp, fun N => ⟨?_, ?_⟩⟩
    · simp [go_sem, kept_all h2]
    · simp [go_sem, kept_all h2]
      intro i j hi hj
      exact (rowsL_get (by simp [hi]) j).symm
  rw [h4]
  simp [go_sem]
  have hk0 : kept p i0 = List.range i0 := kept_all h3
  have hk1 : kept p (i0 + 1) = List.range i0 := by rw [kept_succ, hk0, h2]; simp
  refine ⟨by omega, ?_⟩
  refine GLoop_s T_ok (α := Nat) (fun j => [(0, .sl 0 3 0 n none), (1, .fn (.func g) [] [.r c]), (5, .i (kept p j).length), (6, .i j)]) (fun j => [some (.vec 93 3 n fun i c => .r (keptR get p j i c))]) 1 (fun j => j ≤ n ∧ (kept p j).length < j) (fun j => n - j) (i0 + 1) (fun _ => rfl) ⟨by omega, by rw [hk1]; simp⟩ (by simp [go_sem, hk1]) (by
    simp [go_sem]
    intro i j hi hj
    unfold keptR
    rw [hk1]
    split
    · rename_i h
      exact (rowsL_get (by simp at h; simp [h]) j).symm
    · rfl) ?_
  intro j J hi
  have hkn := kept_le p j
  have hq : ∀ c, keptR get p j j c = get j c := fun c => keptR_ge hkn
  by_cases hlt : j < n
  · simp [go_sem, hlt, hq]
    refine ⟨⟨by simpa [SV.one] using ho j 0 hlt (by decide), by simpa [SV.one] using ho j 1 hlt (by decide), by simpa [SV.one] using ho j 2 hlt (by decide)⟩, ?_⟩
    refine call_val (hp j hlt) rfl rfl ?_
    cases hpj : p j
    · simp [go_sem]
      have hs : kept p (j + 1) = kept p j ++ [j] := by rw [kept_succ, hpj]; simp
      refine ⟨by omega, ⟨⟨by simpa [SV.one] using ho j 0 hlt (by decide), by simpa [SV.one] using ho j 1 hlt (by decide), by simpa [SV.one] using ho j 2 hlt (by decide)⟩, by omega⟩, by omega, by omega, j + 1, ⟨by omega, by rw [hs]; simp; omega⟩, by omega, ⟨by rw [hs]; simp, by omega⟩, fun i c hi hc => ?_⟩
      rw [keptR_put hpj]
      by_cases hil : i = (kept p j).length
      · rw [if_pos ⟨hil, hc⟩, if_pos hil]
        have hcc : c = 0 ∨ c = 1 ∨ c = 2 := by omega
        rcases hcc with rfl | rfl | rfl <;> simp [SV.trim]
      · rw [if_neg (fun h => hil h.1), if_neg hil]
    · simp [go_sem]
      have hs : kept p (j + 1) = kept p j := by rw [kept_succ, hpj]; simp
      refine ⟨by omega, j + 1, ⟨by omega, by rw [hs]; omega⟩, by omega, ⟨by rw [hs], by omega⟩, fun i c hi hc => ?_⟩
      unfold keptR
      rw [hs]
  · have hjn : j = n := by omega
    subst hjn
    simp [go_sem]
    refine ⟨by omega, by omega, by omega, [0], by simp, fun N => ⟨?_, ?_⟩⟩
    · simp [go_sem]
    · simp [go_sem]
      refine ⟨by omega, fun i c hi hc => ?_⟩
      rw [if_neg (by omega)]
      unfold keptR
      rw [if_pos hi]
end Go.Gx
