/-
  slices.Clone, slices.Equal, slices.DeleteFunc.
-/
import Derived.Test.YtnajladibkpeaaaGreatU6
import Derived.Test.YtnajladibkpeaaaGreatK5
set_option linter.unusedVariables false
set_option linter.unusedSimpArgs false
set_option maxRecDepth 20000
set_option maxHeartbeats 4000000
namespace Go.Gx
open Go.RowKit Go.Proofs Go.Proofs.YtnajladibkpeaaaGreat

theorem clone114 (n : Nat) (hn : n ≤ 1000000) (get : Nat → Nat → RV) : Own Tryz.prog 78 [] [.r (.rs 2 n get)] (.sl 0 2 0 n none) [.vec 105 2 n fun i j => .r (get i j)] := by
  refine own_of_GC0 T_ok Tryz.func78 rfl (by kernel_rfl) (Nat.le_of_ble_eq_true rfl) rfl rfl ?_
  simp [go_sem]
  refine ⟨fun h => .inr (by subst h; simp), ⟨by omega, by omega⟩, ⟨[0], by simp, fun N => ⟨?_, ?_⟩⟩⟩
  · simp [go_sem]
  · simp [go_sem, joined]
    intros; omega
theorem clone115 (n : Nat) (hn : n ≤ 1000000) (get : Nat → Nat → RV) : Own Tryz.prog 79 [] [.r (.rs 3 n get)] (.sl 0 3 0 n none) [.vec 41 3 n fun i j => .r (get i j)] := by
  refine own_of_GC0 T_ok Tryz.func79 rfl (by kernel_rfl) (Nat.le_of_ble_eq_true rfl) rfl rfl ?_
  simp [go_sem]
  refine ⟨fun h => .inr (by subst h; simp), ⟨by omega, by omega⟩, ⟨[0], by simp, fun N => ⟨?_, ?_⟩⟩⟩
  · simp [go_sem]
  · simp [go_sem, joined]
    intros; omega
theorem clone116 (n : Nat) (hn : n ≤ 1000000) (get : Nat → Nat → RV) : Own Tryz.prog 80 [] [.r (.rs 3 n get)] (.sl 0 3 0 n none) [.vec 52 3 n fun i j => .r (get i j)] := by
  refine own_of_GC0 T_ok Tryz.func80 rfl (by kernel_rfl) (Nat.le_of_ble_eq_true rfl) rfl rfl ?_
  simp [go_sem]
  refine ⟨fun h => .inr (by subst h; simp), ⟨by omega, by omega⟩, ⟨[0], by simp, fun N => ⟨?_, ?_⟩⟩⟩
  · simp [go_sem]
  · simp [go_sem, joined]
    intros; omega
theorem clone117 (n : Nat) (hn : n ≤ 1000000) (get : Nat → Nat → RV) : Own Tryz.prog 81 [] [.r (.rs 2 n get)] (.sl 0 2 0 n none) [.vec 37 2 n fun i j => .r (get i j)] := by
  refine own_of_GC0 T_ok Tryz.func81 rfl (by kernel_rfl) (Nat.le_of_ble_eq_true rfl) rfl rfl ?_
  simp [go_sem]
  refine ⟨fun h => .inr (by subst h; simp), ⟨by omega, by omega⟩, ⟨[0], by simp, fun N => ⟨?_, ?_⟩⟩⟩
  · simp [go_sem]
  · simp [go_sem, joined]
    intros; omega
def VtG.eqB (x y : VtG) : Bool := decide (x.o = y.o) && decide (x.s = y.s)
theorem VtG.eqB_rfl (x : VtG) : x.eqB x = true := by simp [VtG.eqB]
theorem equal70 (n m : Nat) (hn : (n : Int) < 2 ^ 62) (hm : (m : Int) < 2 ^ 62) (x y : Nat → VtG) : Pure Tryz.prog 63 [.r (.rs 2 n fun i j => (x i).c j), .r (.rs 2 m fun i j => (y i).c j)] (· = .b (decide (n = m) && (List.range n).all fun i => (x i).eqB (y i))) := by
  refine pure_of_GC T_ok Tryz.func63 rfl (by kernel_rfl) (Nat.le_of_ble_eq_true rfl) rfl rfl ?_
  simp [go_sem]
  by_cases h : n = m
  rotate_left
  · simp [go_sem, h]
    try omega
  subst h
  simp [go_sem]
  refine GLoop_of T_ok (α := Nat) (fun k => [(0, .r (.rs 2 n fun i j => (x i).c j)), (1, .r (.rs 2 n fun i j => (y i).c j)), (12, .i n), (13, .i k)]) (fun _ => []) 0 (fun k => k ≤ n ∧ ∀ j, j < k → (x j).eqB (y j) = true) (fun k => n - k) 0 (fun _ => rfl) (by simp) (by simp [go_sem]) (by simp [go_sem]) ?_
  intro k J hi
  by_cases hlt : k < n
  · simp [go_sem, hlt]
    refine GDraw_all T_ok (by kernel_rfl) (by kernel_rfl) ?_
    simp [go_sem, hlt]
    by_cases he : (x k).eqB (y k) = true
    · rw [if_neg (by simp [VtG.eqB] at he; simp [he])]
      refine ⟨by omega, k + 1, ⟨by omega, fun j hj => ?_⟩, by omega, by omega⟩
      by_cases hjk : j = k
      · subst hjk; exact he
      · exact hi.2 j (by omega)
    · rw [if_pos (Classical.byContradiction fun hc => he (by simp at hc; simp [VtG.eqB, hc]))]
      exact ⟨k, hlt, by simpa using he⟩
  · simp [go_sem, hlt]
    intro j hj
    exact hi.2 j (by omega)
def RcG.eqB (x y : RcG) : Bool := decide (x.q = y.q) && decide (x.g = y.g)
theorem RcG.eqB_rfl (x : RcG) : x.eqB x = true := by simp [RcG.eqB]
theorem equal71 (n m : Nat) (hn : (n : Int) < 2 ^ 62) (hm : (m : Int) < 2 ^ 62) (x y : Nat → RcG) : Pure Tryz.prog 64 [.r (.rs 2 n fun i j => (x i).c j), .r (.rs 2 m fun i j => (y i).c j)] (· = .b (decide (n = m) && (List.range n).all fun i => (x i).eqB (y i))) := by
  refine pure_of_GC T_ok Tryz.func64 rfl (by kernel_rfl) (Nat.le_of_ble_eq_true rfl) rfl rfl ?_
  simp [go_sem]
  by_cases h : n = m
  rotate_left
  · simp [go_sem, h]
    try omega
  subst h
  simp [go_sem]
  refine GLoop_of T_ok (α := Nat) (fun k => [(0, .r (.rs 2 n fun i j => (x i).c j)), (1, .r (.rs 2 n fun i j => (y i).c j)), (12, .i n), (13, .i k)]) (fun _ => []) 0 (fun k => k ≤ n ∧ ∀ j, j < k → (x j).eqB (y j) = true) (fun k => n - k) 0 (fun _ => rfl) (by simp) (by simp [go_sem]) (by simp [go_sem]) ?_
  intro k J hi
  by_cases hlt : k < n
  · simp [go_sem, hlt]
    refine GDraw_all T_ok (by kernel_rfl) (by kernel_rfl) ?_
    simp [go_sem, hlt]
    by_cases he : (x k).eqB (y k) = true
    · rw [if_neg (by simp [RcG.eqB] at he; simp [he])]
      refine ⟨by omega, k + 1, ⟨by omega, fun j hj => ?_⟩, by omega, by omega⟩
      by_cases hjk : j = k
      · subst hjk; exact he
      · exact hi.2 j (by omega)
    · rw [if_pos (Classical.byContradiction fun hc => he (by simp at hc; simp [RcG.eqB, hc]))]
      exact ⟨k, hlt, by simpa using he⟩
  · simp [go_sem, hlt]
    intro j hj
    exact hi.2 j (by omega)
def LkG.eqB (x y : LkG) : Bool := decide (x.a = y.a) && decide (x.b = y.b) && decide (x.s = y.s)
theorem LkG.eqB_rfl (x : LkG) : x.eqB x = true := by simp [LkG.eqB]
theorem equal72 (n m : Nat) (hn : (n : Int) < 2 ^ 62) (hm : (m : Int) < 2 ^ 62) (x y : Nat → LkG) : Pure Tryz.prog 65 [.r (.rs 3 n fun i j => (x i).c j), .r (.rs 3 m fun i j => (y i).c j)] (· = .b (decide (n = m) && (List.range n).all fun i => (x i).eqB (y i))) := by
  refine pure_of_GC T_ok Tryz.func65 rfl (by kernel_rfl) (Nat.le_of_ble_eq_true rfl) rfl rfl ?_
  simp [go_sem]
  by_cases h : n = m
  rotate_left
  · simp [go_sem, h]
    try omega
  subst h
  simp [go_sem]
  refine GLoop_of T_ok (α := Nat) (fun k => [(0, .r (.rs 3 n fun i j => (x i).c j)), (1, .r (.rs 3 n fun i j => (y i).c j)), (12, .i n), (13, .i k)]) (fun _ => []) 0 (fun k => k ≤ n ∧ ∀ j, j < k → (x j).eqB (y j) = true) (fun k => n - k) 0 (fun _ => rfl) (by simp) (by simp [go_sem]) (by simp [go_sem]) ?_
  intro k J hi
  by_cases hlt : k < n
  · simp [go_sem, hlt]
    refine GDraw_all T_ok (by kernel_rfl) (by kernel_rfl) ?_
    simp [go_sem, hlt]
    by_cases he : (x k).eqB (y k) = true
    · rw [if_neg (by simp [LkG.eqB] at he; simp [he])]
      refine ⟨by omega, k + 1, ⟨by omega, fun j hj => ?_⟩, by omega, by omega⟩
      by_cases hjk : j = k
      · subst hjk; exact he
      · exact hi.2 j (by omega)
    · rw [if_pos (Classical.byContradiction fun hc => he (by simp at hc; simp [LkG.eqB, hc]))]
      exact ⟨k, hlt, by simpa using he⟩
  · simp [go_sem, hlt]
    intro j hj
    exact hi.2 j (by omega)
theorem index118 (n : Nat) (hn : n ≤ 1000000000) (get : Nat → Nat → RV) (g : FuncId) (ca : List SV) (hca : SV.closedL ca = true) (p : Nat → Bool)
    (hp : ∀ i, i < n → Pure Tryz.prog g (.agg [.r (get i 0), .r (get i 1), .r (get i 2)] :: ca) (· = .b (p i))) : Pure Tryz.prog 92 [.r (.rs 3 n get), .fn (.func g) [] ca] (· = .i (ixB p n)) := by
  refine pure_of_GC T_ok Tryz.func92 rfl (by kernel_rfl) (Nat.le_of_ble_eq_true rfl) rfl rfl ?_
  simp [go_sem]
  refine GLoop_of T_ok (α := Nat) (fun x => [(0, .r (.rs 3 n get)), (1, .fn (.func g) [] ca), (7, .i n), (8, .i x)]) (fun _ => []) 0 (fun x => x ≤ n ∧ ∀ j, j < x → p j = false) (fun x => n - x) 0 (fun _ => rfl) (by simp) (by simp [go_sem, SV.trimL_closed _ _ hca]) (by simp [go_sem]) ?_
  intro x J hi
  by_cases hlt : x < n
  · simp [go_sem, hlt]
    refine call_val (hp x hlt) (by simp [go_sem, hca]) rfl ?_
    by_cases hb : p x = true
    · simp [go_sem, hb]
      exact (ixB_at hlt hb hi.2).symm
    · have hb' : p x = false := by simpa using hb
      simp [go_sem, hb', SV.trimL_closed _ _ hca]
      refine ⟨by omega, x + 1, ⟨by omega, fun j hj => ?_⟩, by omega, by omega⟩
      by_cases hjx : j = x
      · subst hjx; exact hb'
      · exact hi.2 j (by omega)
  · simp [go_sem, hlt]
    exact (ixB_no fun j hj => hi.2 j (by omega)).symm
theorem index119 (n : Nat) (hn : n ≤ 1000000000) (get : Nat → Nat → RV) (g : FuncId) (ca : List SV) (hca : SV.closedL ca = true) (p : Nat → Bool)
    (hp : ∀ i, i < n → Pure Tryz.prog g (.agg [.r (get i 0), .r (get i 1), .r (get i 2)] :: ca) (· = .b (p i))) : Pure Tryz.prog 93 [.r (.rs 3 n get), .fn (.func g) [] ca] (· = .i (ixB p n)) := by
  refine pure_of_GC T_ok Tryz.func93 rfl (by kernel_rfl) (Nat.le_of_ble_eq_true rfl) rfl rfl ?_
  simp [go_sem]
  refine GLoop_of T_ok (α := Nat) (fun x => [(0, .r (.rs 3 n get)), (1, .fn (.func g) [] ca), (7, .i n), (8, .i x)]) (fun _ => []) 0 (fun x => x ≤ n ∧ ∀ j, j < x → p j = false) (fun x => n - x) 0 (fun _ => rfl) (by simp) (by simp [go_sem, SV.trimL_closed _ _ hca]) (by simp [go_sem]) ?_
  intro x J hi
  by_cases hlt : x < n
  · simp [go_sem, hlt]
    refine call_val (hp x hlt) (by simp [go_sem, hca]) rfl ?_
    by_cases hb : p x = true
    · simp [go_sem, hb]
      exact (ixB_at hlt hb hi.2).symm
    · have hb' : p x = false := by simpa using hb
      simp [go_sem, hb', SV.trimL_closed _ _ hca]
      refine ⟨by omega, x + 1, ⟨by omega, fun j hj => ?_⟩, by omega, by omega⟩
      by_cases hjx : j = x
      · subst hjx; exact hb'
      · exact hi.2 j (by omega)
  · simp [go_sem, hlt]
    exact (ixB_no fun j hj => hi.2 j (by omega)).symm
theorem ixB_cases (p : Nat → Bool) (n : Nat) : (ixB p n = -1 ∧ ∀ j, j < n → p j = false) ∨ ∃ i, i < n ∧ p i = true ∧ (∀ j, j < i → p j = false) ∧ ixB p n = i := by
  unfold ixB
  cases h : (List.range n).find? p with
  | none =>
    have := List.find?_eq_none.1 h
    exact .inl ⟨rfl, fun j hj => by simpa using this j (List.mem_range.2 hj)⟩
  | some i =>
    obtain ⟨h1, h2, h3⟩ := List.find?_range_eq_some.1 h
    exact .inr ⟨i, List.mem_range.1 h2, h1, fun j hj => by simpa using h3 j hj, rfl⟩

/-- The places that stay. -/
def kept (p : Nat → Bool) (n : Nat) : List Nat := (List.range n).filter fun i => !p i
theorem kept_succ (p : Nat → Bool) (n : Nat) : kept p (n + 1) = kept p n ++ if p n then [] else [n] := by
  unfold kept
  rw [List.range_succ, List.filter_append]
  cases h : p n <;> simp [h]
theorem kept_le (p : Nat → Bool) (n : Nat) : (kept p n).length ≤ n := by
  unfold kept
  exact Nat.le_trans (List.length_filter_le _ _) (by simp)
theorem kept_all {p : Nat → Bool} {n : Nat} (h : ∀ j, j < n → p j = false) : kept p n = List.range n := by
  unfold kept
  exact List.filter_eq_self.2 fun a ha => by simp [h a (List.mem_range.1 ha)]
theorem kept_lt {p : Nat → Bool} {n i : Nat} (hi : i < n) (hp : p i = true) : (kept p n).length < n := by
  induction n with
  | zero => omega
  | succ n ih =>
    rw [kept_succ]
    have := kept_le p n
    by_cases h : i = n
    · subst h; simp [hp]; omega
    · have := ih (by omega)
      cases hq : p n <;> simp <;> omega
/-- The memory after the first j are looked at. -/
def keptR (get : Nat → Nat → RV) (p : Nat → Bool) (j : Nat) : Nat → Nat → RV := fun i c => if i < (kept p j).length then rowsL get (kept p j) i c else get i c
theorem keptR_ge {get : Nat → Nat → RV} {p : Nat → Bool} {j i c : Nat} (h : (kept p j).length ≤ i) : keptR get p j i c = get i c := if_neg (by omega)
theorem keptR_put {get : Nat → Nat → RV} {p : Nat → Bool} {j i c : Nat} (h : p j = false) : keptR get p (j + 1) i c = if i = (kept p j).length then get j c else keptR get p j i c := by
  have hs : kept p (j + 1) = kept p j ++ [j] := by rw [kept_succ, h]; simp
  unfold keptR rowsL
  rw [hs]
  by_cases h1 : i = (kept p j).length
  · subst h1; simp
  · rw [if_neg h1]
    by_cases h2 : i < (kept p j).length
    · rw [if_pos h2, if_pos (by simp; omega), List.getElem?_append_left h2]
    · rw [if_neg h2, if_neg (by simp; omega)]

theorem delf64 (n : Nat) (hn : n ≤ 1000000) (get : Nat → Nat → RV) (g : FuncId) (c : RV) (p : Nat → Bool) (ho : ∀ i j, i < n → j < 3 → (SV.r (get i j)).one = true) (hp : ∀ i, i < n → Pure Tryz.prog g [.agg [.r (get i 0), .r (get i 1), .r (get i 2)], .r c] (· = .b (p i))) :
    Own Tryz.prog 58 [.vec 41 3 n fun i j => .r (get i j)] [.sl 0 3 0 n none, .fn (.func g) [] [.r c]] (.sl 0 3 0 (kept p n).length none) [.vec 41 3 (kept p n).length fun i j => .r (rowsL get (kept p n) i j)] := by
  refine own_of_GC T_ok Tryz.func58 rfl (by kernel_rfl) (Nat.le_of_ble_eq_true rfl) rfl rfl ?_
  simp [go_sem]
  refine call_lent (v := .i (ixB p n)) ?_ rfl ?_
  · simp [go_sem]
    exact index118 n (by omega) get g [.r c] rfl p hp
  rcases ixB_cases p n with ⟨h1, h2⟩ | ⟨i0, h1, h2, h3, h4⟩
  · rw [h1]
    simp [go_sem]
    refine ⟨[0], by simp, fun N => ⟨?_, ?_⟩⟩
    · simp [go_sem, kept_all h2]
    · simp [go_sem, kept_all h2]
      intro i j hi hj
      exact (rowsL_get (by simp [hi]) j).symm
  rw [h4]
  simp [go_sem]
  have hk0 : kept p i0 = List.range i0 := kept_all h3
  have hk1 : kept p (i0 + 1) = List.range i0 := by rw [kept_succ, hk0, h2]; simp
  refine ⟨by omega, ?_⟩
  refine GLoop_s T_ok (α := Nat) (fun j => [(0, .sl 0 3 0 n none), (1, .fn (.func g) [] [.r c]), (5, .i (kept p j).length), (6, .i j)]) (fun j => [some (.vec 41 3 n fun i c => .r (keptR get p j i c))]) 1 (fun j => j ≤ n ∧ (kept p j).length < j) (fun j => n - j) (i0 + 1) (fun _ => rfl) ⟨by omega, by rw [hk1]; simp⟩ (by simp [go_sem, hk1]) (by
    simp [go_sem]
    intro i j hi hj
    unfold keptR
    rw [hk1]
    split
    · rename_i h
      exact (rowsL_get (by simp at h; simp [h]) j).symm
    · rfl) ?_
  intro j J hi
  have hkn := kept_le p j
  have hq : ∀ c, keptR get p j j c = get j c := fun c => keptR_ge hkn
  by_cases hlt : j < n
  · simp [go_sem, hlt, hq]
    refine ⟨⟨by simpa [SV.one] using ho j 0 hlt (by decide), by simpa [SV.one] using ho j 1 hlt (by decide), by simpa [SV.one] using ho j 2 hlt (by decide)⟩, ?_⟩
    refine call_val (hp j hlt) rfl rfl ?_
    cases hpj : p j
    · simp [go_sem]
      have hs : kept p (j + 1) = kept p j ++ [j] := by rw [kept_succ, hpj]; simp
      refine ⟨by omega, ⟨⟨by simpa [SV.one] using ho j 0 hlt (by decide), by simpa [SV.one] using ho j 1 hlt (by decide), by simpa [SV.one] using ho j 2 hlt (by decide)⟩, by omega⟩, by omega, by omega, j + 1, ⟨by omega, by rw [hs]; simp; omega⟩, by omega, ⟨by rw [hs]; simp, by omega⟩, fun i c hi hc => ?_⟩
      rw [keptR_put hpj]
      by_cases hil : i = (kept p j).length
      · rw [if_pos ⟨hil, hc⟩, if_pos hil]
        have hcc : c = 0 ∨ c = 1 ∨ c = 2 := by omega
        rcases hcc with rfl | rfl | rfl <;> simp [SV.trim]
      · rw [if_neg (fun h => hil h.1), if_neg hil]
    · simp [go_sem]
      have hs : kept p (j + 1) = kept p j := by rw [kept_succ, hpj]; simp
      refine ⟨by omega, j + 1, ⟨by omega, by rw [hs]; omega⟩, by omega, ⟨by rw [hs], by omega⟩, fun i c hi hc => ?_⟩
      unfold keptR
      rw [hs]
  · have hjn : j = n := by omega
    subst hjn
    simp [go_sem]
    refine ⟨by omega, by omega, by omega, [0], by simp, fun N => ⟨?_, ?_⟩⟩
    · simp [go_sem]
    · simp [go_sem]
      refine ⟨by omega, fun i c hi hc => ?_⟩
      rw [if_neg (by omega)]
      unfold keptR
      rw [if_pos hi]
theorem delf66 (n : Nat) (hn : n ≤ 1000000) (get : Nat → Nat → RV) (g : FuncId) (c : RV) (p : Nat → Bool) (ho : ∀ i j, i < n → j < 3 → (SV.r (get i j)).one = true) (hp : ∀ i, i < n → Pure Tryz.prog g [.agg [.r (get i 0), .r (get i 1), .r (get i 2)], .r c] (· = .b (p i))) :
    Own Tryz.prog 60 [.vec 52 3 n fun i j => .r (get i j)] [.sl 0 3 0 n none, .fn (.func g) [] [.r c]] (.sl 0 3 0 (kept p n).length none) [.vec 52 3 (kept p n).length fun i j => .r (rowsL get (kept p n) i j)] := by
  refine own_of_GC T_ok Tryz.func60 rfl (by kernel_rfl) (Nat.le_of_ble_eq_true rfl) rfl rfl ?_
  simp [go_sem]
  refine call_lent (v := .i (ixB p n)) ?_ rfl ?_
  · simp [go_sem]
    exact index119 n (by omega) get g [.r c] rfl p hp
  rcases ixB_cases p n with ⟨h1, h2⟩ | ⟨i0, h1, h2, h3, h4⟩
  · rw [h1]
    simp [go_sem]
    refine ⟨[0], by simp, fun N => ⟨?_, ?_⟩⟩
    · simp [go_sem, kept_all h2]
    · simp [go_sem, kept_all h2]
      intro i j hi hj
      exact (rowsL_get (by simp [hi]) j).symm
  rw [h4]
  simp [go_sem]
  have hk0 : kept p i0 = List.range i0 := kept_all h3
  have hk1 : kept p (i0 + 1) = List.range i0 := by rw [kept_succ, hk0, h2]; simp
  refine ⟨by omega, ?_⟩
  refine GLoop_s T_ok (α := Nat) (fun j => [(0, .sl 0 3 0 n none), (1, .fn (.func g) [] [.r c]), (5, .i (kept p j).length), (6, .i j)]) (fun j => [some (.vec 52 3 n fun i c => .r (keptR get p j i c))]) 1 (fun j => j ≤ n ∧ (kept p j).length < j) (fun j => n - j) (i0 + 1) (fun _ => rfl) ⟨by omega, by rw [hk1]; simp⟩ (by simp [go_sem, hk1]) (by
    simp [go_sem]
    intro i j hi hj
    unfold keptR
    rw [hk1]
    split
    · rename_i h
      exact (rowsL_get (by simp at h; simp [h]) j).symm
    · rfl) ?_
  intro j J hi
  have hkn := kept_le p j
  have hq : ∀ c, keptR get p j j c = get j c := fun c => keptR_ge hkn
  by_cases hlt : j < n
  · simp [go_sem, hlt, hq]
    refine ⟨⟨by simpa [SV.one] using ho j 0 hlt (by decide), by simpa [SV.one] using ho j 1 hlt (by decide), by simpa [SV.one] using ho j 2 hlt (by decide)⟩, ?_⟩
    refine call_val (hp j hlt) rfl rfl ?_
    cases hpj : p j
    · simp [go_sem]
      have hs : kept p (j + 1) = kept p j ++ [j] := by rw [kept_succ, hpj]; simp
      refine ⟨by omega, ⟨⟨by simpa [SV.one] using ho j 0 hlt (by decide), by simpa [SV.one] using ho j 1 hlt (by decide), by simpa [SV.one] using ho j 2 hlt (by decide)⟩, by omega⟩, by omega, by omega, j + 1, ⟨by omega, by rw [hs]; simp; omega⟩, by omega, ⟨by rw [hs]; simp, by omega⟩, fun i c hi hc => ?_⟩
      rw [keptR_put hpj]
      by_cases hil : i = (kept p j).length
      · rw [if_pos ⟨hil, hc⟩, if_pos hil]
        have hcc : c = 0 ∨ c = 1 ∨ c = 2 := by omega
        rcases hcc with rfl | rfl | rfl <;> simp [SV.trim]
      · rw [if_neg (fun h => hil h.1), if_neg hil]
    · simp [go_sem]
      have hs : kept p (j + 1) = kept p j := by rw [kept_succ, hpj]; simp
      refine ⟨by omega, j + 1, ⟨by omega, by rw [hs]; omega⟩, by omega, ⟨by rw [hs], by omega⟩, fun i c hi hc => ?_⟩
      unfold keptR
      rw [hs]
  · have hjn : j = n := by omega
    subst hjn
    simp [go_sem]
    refine ⟨by omega, by omega, by omega, [0], by simp, fun N => ⟨?_, ?_⟩⟩
    · simp [go_sem]
    · simp [go_sem]
      refine ⟨by omega, fun i c hi hc => ?_⟩
      rw [if_neg (by omega)]
      unfold keptR
      rw [if_pos hi]
end Go.Gx
/-
  Registers compared: Same of the program and of the reference; Check.
-/
set_option linter.unusedVariables false
set_option linter.unusedSimpArgs false
set_option maxRecDepth 20000
set_option maxHeartbeats 4000000
namespace Go.Gx
open Go.RowKit Go.Proofs Go.Proofs.YtnajladibkpeaaaGreat

def CsG.eqB (x y : CsG) : Bool := decide (x.a = y.a) && decide (x.b = y.b) && (decide (x.nv = y.nv) && (List.range x.nv).all fun i => (x.v i).eqB (y.v i))
theorem CsG.eqB_rfl (x : CsG) : x.eqB x = true := by simp [CsG.eqB, VtG.eqB_rfl]
abbrev CsG.sv (x : CsG) : SV := .agg [.i x.a, .i x.b, .r (.rs 2 x.nv fun i j => (x.v i).c j)]
/-- The two registers are the same. -/
def EG.smB (g h : EG) : Bool := (decide (g.nr = h.nr) && (List.range g.nr).all fun i => (g.r i).eqB (h.r i)) && (decide (g.nl = h.nl) && (List.range g.nl).all fun i => (g.l i).eqB (h.l i)) && (decide (g.nc = h.nc) && (List.range g.nc).all fun i => (g.c i).eqB (h.c i))
theorem EG.smB_rfl (g : EG) : g.smB g = true := by simp [EG.smB, RcG.eqB_rfl, LkG.eqB_rfl, CsG.eqB_rfl]
theorem cl68 (x y : CsG) (hx : x.nv ≤ 1000000000) (hy : y.nv ≤ 1000000000) : Pure Tryz.prog 62 [x.sv, y.sv] (· = .b (x.eqB y)) := by
  refine pure_of_GC T_ok Tryz.func62 rfl (by kernel_rfl) (Nat.le_of_ble_eq_true rfl) rfl rfl ?_
  have he := equal70 x.nv y.nv (by omega) (by omega) x.v y.v
  simp [go_sem]
  refine GDraw_all T_ok (by kernel_rfl) (by kernel_rfl) ?_
  by_cases h1 : x.a = y.a
  · by_cases h2 : x.b = y.b
    · have e : x.eqB y = (decide (x.nv = y.nv) && (List.range x.nv).all fun i => (x.v i).eqB (y.v i)) := by simp [CsG.eqB, h1, h2]
      rw [← e] at he
      simp [go_sem]
      refine ⟨_, dcall_val (ofCase69 x) rfl rfl, ?_⟩
      simp [go_sem]
      refine ⟨_, dcall_val (ofCase69 y) rfl rfl, ?_⟩
      simp [go_sem, h1, h2]
      refine ⟨_, dcall_val he rfl rfl, ?_⟩
      simp [go_sem]
    · have e : x.eqB y = false := by simp [CsG.eqB, h2]
      rw [e]
      simp [go_sem]
      refine ⟨_, dcall_val (ofCase69 x) rfl rfl, ?_⟩
      simp [go_sem]
      refine ⟨_, dcall_val (ofCase69 y) rfl rfl, ?_⟩
      simp [go_sem, h1, h2]
  · have e : x.eqB y = false := by simp [CsG.eqB, h1]
    rw [e]
    simp [go_sem]
    refine ⟨_, dcall_val (ofCase69 x) rfl rfl, ?_⟩
    simp [go_sem]
    refine ⟨_, dcall_val (ofCase69 y) rfl rfl, ?_⟩
    simp [go_sem, h1]
theorem equalF73 (n m : Nat) (hn : n ≤ 1000000000) (hm : m ≤ 1000000000) (x y : Nat → CsG) (hx : ∀ i, i < n → (x i).nv ≤ 1000000000) (hy : ∀ i, i < m → (y i).nv ≤ 1000000000) :
    Pure Tryz.prog 66 [.r (.rs 3 n fun i j => (x i).c j), .r (.rs 3 m fun i j => (y i).c j), .fn (.func 62) [] []] (· = .b (decide (n = m) && (List.range n).all fun i => (x i).eqB (y i))) := by
  refine pure_of_GC T_ok Tryz.func66 rfl (by kernel_rfl) (Nat.le_of_ble_eq_true rfl) rfl rfl ?_
  by_cases h : n = m
  rotate_left
  · have h' : ¬ (n : Int) = m := by omega
    simp [go_sem, h, h']
  subst h
  simp [go_sem]
  refine GLoop_of T_ok (α := Nat) (fun k => [(0, .r (.rs 3 n fun i j => (x i).c j)), (1, .r (.rs 3 n fun i j => (y i).c j)), (2, .fn (.func 62) [] []), (15, .r (.rs 3 n fun i j => (x i).c j)), (16, .i n), (17, .i k)]) (fun _ => []) 0 (fun k => k ≤ n ∧ ∀ j, j < k → (x j).eqB (y j) = true) (fun k => n - k) 0 (fun _ => rfl) (by simp) (by simp [go_sem]) (by simp [go_sem]) ?_
  intro k J hi
  by_cases hlt : k < n
  · have hc := cl68 (x k) (y k) (hx k hlt) (hy k hlt)
    simp [go_sem, hlt]
    by_cases he : (x k).eqB (y k) = true
    · rw [he] at hc
      refine call_val hc rfl rfl ?_
      simp [go_sem]
      refine ⟨by omega, k + 1, ⟨by omega, fun j hj => ?_⟩, by omega, by omega⟩
      by_cases hjk : j = k
      · subst hjk; exact he
      · exact hi.2 j (by omega)
    · have he' : (x k).eqB (y k) = false := by simpa using he
      rw [he'] at hc
      refine call_val hc rfl rfl ?_
      simp [go_sem]
      exact ⟨k, hlt, he'⟩
  · simp [go_sem, hlt]
    exact fun j hj => hi.2 j (by omega)
theorem same32 (g h : EG) (hg : g.OK) (hh : h.OK) : Pure Tryz.prog 24 [g.sv, h.sv] (· = .b (g.smB h)) := by
  refine pure_of_GC T_ok Tryz.func24 rfl (by kernel_rfl) (Nat.le_of_ble_eq_true rfl) rfl rfl ?_
  have := hg.nr; have := hg.nl; have := hg.nc; have := hh.nr; have := hh.nl; have := hh.nc
  have e1 := equal71 g.nr h.nr (by omega) (by omega) g.r h.r
  have e2 := equal72 g.nl h.nl (by omega) (by omega) g.l h.l
  have e3 := equalF73 g.nc h.nc (by omega) (by omega) g.c h.c hg.nv hh.nv
  have e : g.smB h = ((decide (g.nr = h.nr) && (List.range g.nr).all fun i => (g.r i).eqB (h.r i)) && (decide (g.nl = h.nl) && (List.range g.nl).all fun i => (g.l i).eqB (h.l i)) && (decide (g.nc = h.nc) && (List.range g.nc).all fun i => (g.c i).eqB (h.c i))) := rfl
  rw [e]
  generalize (decide (g.nr = h.nr) && (List.range g.nr).all fun i => (g.r i).eqB (h.r i)) = b1 at *
  generalize (decide (g.nl = h.nl) && (List.range g.nl).all fun i => (g.l i).eqB (h.l i)) = b2 at *
  generalize (decide (g.nc = h.nc) && (List.range g.nc).all fun i => (g.c i).eqB (h.c i)) = b3 at *
  simp [go_sem]
  refine call_val e1 rfl rfl ?_
  cases b1
  · simp [go_sem]
  simp [go_sem]
  refine call_val e2 rfl rfl ?_
  cases b2
  · simp [go_sem]
  simp [go_sem]
  refine call_val e3 rfl rfl ?_
  simp [go_sem]
theorem sameCase74 (x y : CsG) (hx : x.nv ≤ 1000000000) (hy : y.nv ≤ 1000000000) : Pure Tryz.prog 55 [x.sv, y.sv] (· = .b (x.eqB y)) := by
  refine pure_of_GC T_ok Tryz.func55 rfl (by kernel_rfl) (Nat.le_of_ble_eq_true rfl) rfl rfl ?_
  by_cases h1 : x.a = y.a
  rotate_left
  · have e : x.eqB y = false := by simp [CsG.eqB, h1]
    rw [e]
    simp [go_sem, h1]
  by_cases h2 : x.b = y.b
  rotate_left
  · have e : x.eqB y = false := by simp [CsG.eqB, h2]
    rw [e]
    simp [go_sem, h1, h2]
  by_cases h3 : x.nv = y.nv
  rotate_left
  · have e : x.eqB y = false := by simp [CsG.eqB, h3]
    have h3' : ¬ (x.nv : Int) = y.nv := by omega
    rw [e]
    simp [go_sem, h1, h2, h3, h3']
  have e : x.eqB y = (List.range x.nv).all fun i => (x.v i).eqB (y.v i) := by simp [CsG.eqB, h1, h2, h3]
  rw [e]
  simp [go_sem, h1, h2, h3]
  refine GLoop_of T_ok (α := Nat) (fun k => [(2, .ptr 0 0 3 0), (3, .ptr 1 0 3 0), (5, .i k)]) (fun _ => [some (.box x.sv.cells), some (.box y.sv.cells)]) 2 (fun k => k ≤ x.nv ∧ ∀ j, j < k → (x.v j).eqB (y.v j) = true) (fun k => x.nv - k) 0 (fun _ => rfl) (by simp) (by simp [go_sem]) (by simp [go_sem, SV.cells, h1, h2, h3]) ?_
  intro k J hi
  by_cases hlt : k < x.nv
  · have hlt' : k < y.nv := by omega
    simp [go_sem, hlt, SV.cells]
    refine GDraw_all T_ok (by kernel_rfl) (by kernel_rfl) ?_
    simp [go_sem, hlt, hlt', SV.cells]
    by_cases he : (x.v k).eqB (y.v k) = true
    · rw [if_neg (by simp [VtG.eqB] at he; simp [he])]
      refine ⟨by omega, k + 1, ⟨by omega, fun j hj => ?_⟩, by omega, by omega⟩
      by_cases hjk : j = k
      · subst hjk; exact he
      · exact hi.2 j (by omega)
    · rw [if_pos (Classical.byContradiction fun hc => he (by simp at hc; simp [VtG.eqB, hc]))]
      exact ⟨k, hlt', by simpa using he⟩
  · simp [go_sem, hlt, SV.cells]
    exact fun j hj => hi.2 j (by omega)
theorem same33 (g h : EG) (hg : g.OK) (hh : h.OK) : Pure Tryz.prog 15 [g.sv, h.sv] (· = .b (g.smB h)) := by
  refine pure_of_GC T_ok Tryz.func15 rfl (by kernel_rfl) (Nat.le_of_ble_eq_true rfl) rfl rfl ?_
  have := hg.nr; have := hg.nl; have := hg.nc; have := hh.nr; have := hh.nl; have := hh.nc
  by_cases h1 : g.nr = h.nr
  rotate_left
  · have e : g.smB h = false := by simp [EG.smB, h1]
    have h1' : ¬ (g.nr : Int) = h.nr := by omega
    rw [e]
    simp [go_sem, h1']
  by_cases h2 : g.nl = h.nl
  rotate_left
  · have e : g.smB h = false := by simp [EG.smB, h2]
    have h2' : ¬ (g.nl : Int) = h.nl := by omega
    rw [e]
    simp [go_sem, h1, h2']
  by_cases h3 : g.nc = h.nc
  rotate_left
  · have e : g.smB h = false := by simp [EG.smB, h3]
    have h3' : ¬ (g.nc : Int) = h.nc := by omega
    rw [e]
    simp [go_sem, h1, h2, h3']
  have h1' : (g.nr : Int) = h.nr := by omega
  have h2' : (g.nl : Int) = h.nl := by omega
  have h3' : (g.nc : Int) = h.nc := by omega
  simp [go_sem, h1', h2', h3']
  refine GLoop_of T_ok (α := Nat) (fun k => [(2, .ptr 0 0 3 0), (3, .ptr 1 0 3 0), (5, .i k)]) (fun _ => [g.bx, h.bx]) 2 (fun k => k ≤ g.nr ∧ ∀ j, j < k → (g.r j).eqB (h.r j) = true) (fun k => g.nr - k) 0 (fun _ => rfl) (by simp) (by simp [go_sem]) (by simp [go_sem]) ?_
  intro knr Jnr hinr
  by_cases hltnr : knr < g.nr
  · have hlt' : knr < h.nr := by omega
    have step : (g.r knr).eqB (h.r knr) = true → (knr + 1 ≤ g.nr ∧ ∀ j, j < knr + 1 → (g.r j).eqB (h.r j) = true) := fun ht => ⟨by omega, fun j hj => by
      by_cases hjk : j = knr
      · subst hjk; exact ht
      · exact hinr.2 j (by omega)⟩
    have no : (g.r knr).eqB (h.r knr) = false → g.smB h = false := fun hf => by
      unfold EG.smB
      rw [all_no (p := fun i => (g.r i).eqB (h.r i)) hltnr hf]
      simp
    simp [go_sem, hltnr]
    refine GDraw_all T_ok (by kernel_rfl) (by kernel_rfl) ?_
    simp [go_sem, hltnr, hlt']
    by_cases he : (g.r knr).eqB (h.r knr) = true
    · rw [if_neg (by simp [RcG.eqB] at he; simp [he])]
      exact ⟨by omega, knr + 1, by simpa using step he, by omega, by omega⟩
    · rw [if_pos (Classical.byContradiction fun hc => he (by simp at hc; simp [RcG.eqB, hc]))]
      exact no (by simpa using he)
  have hallnr : ((List.range g.nr).all fun i => (g.r i).eqB (h.r i)) = true := all_yes fun j hj => hinr.2 j (by omega)
  simp [go_sem, hltnr]
  refine GLoop_of T_ok (α := Nat) (fun k => [(2, .ptr 0 0 3 0), (3, .ptr 1 0 3 0), (6, .i k)]) (fun _ => [g.bx, h.bx]) 2 (fun k => k ≤ g.nl ∧ ∀ j, j < k → (g.l j).eqB (h.l j) = true) (fun k => g.nl - k) 0 (fun _ => rfl) (by simp) (by simp [go_sem]) (by simp [go_sem]) ?_
  intro knl Jnl hinl
  by_cases hltnl : knl < g.nl
  · have hlt' : knl < h.nl := by omega
    have step : (g.l knl).eqB (h.l knl) = true → (knl + 1 ≤ g.nl ∧ ∀ j, j < knl + 1 → (g.l j).eqB (h.l j) = true) := fun ht => ⟨by omega, fun j hj => by
      by_cases hjk : j = knl
      · subst hjk; exact ht
      · exact hinl.2 j (by omega)⟩
    have no : (g.l knl).eqB (h.l knl) = false → g.smB h = false := fun hf => by
      unfold EG.smB
      rw [all_no (p := fun i => (g.l i).eqB (h.l i)) hltnl hf]
      simp
    simp [go_sem, hltnl]
    refine GDraw_all T_ok (by kernel_rfl) (by kernel_rfl) ?_
    simp [go_sem, hltnl, hlt']
    by_cases he : (g.l knl).eqB (h.l knl) = true
    · rw [if_neg (by simp [LkG.eqB] at he; simp [he])]
      exact ⟨by omega, knl + 1, by simpa using step he, by omega, by omega⟩
    · rw [if_pos (Classical.byContradiction fun hc => he (by simp at hc; simp [LkG.eqB, hc]))]
      exact no (by simpa using he)
  have hallnl : ((List.range g.nl).all fun i => (g.l i).eqB (h.l i)) = true := all_yes fun j hj => hinl.2 j (by omega)
  simp [go_sem, hltnl]
  refine GLoop_of T_ok (α := Nat) (fun k => [(2, .ptr 0 0 3 0), (3, .ptr 1 0 3 0), (7, .i k)]) (fun _ => [g.bx, h.bx]) 2 (fun k => k ≤ g.nc ∧ ∀ j, j < k → (g.c j).eqB (h.c j) = true) (fun k => g.nc - k) 0 (fun _ => rfl) (by simp) (by simp [go_sem]) (by simp [go_sem]) ?_
  intro knc Jnc hinc
  by_cases hltnc : knc < g.nc
  · have hlt' : knc < h.nc := by omega
    have step : (g.c knc).eqB (h.c knc) = true → (knc + 1 ≤ g.nc ∧ ∀ j, j < knc + 1 → (g.c j).eqB (h.c j) = true) := fun ht => ⟨by omega, fun j hj => by
      by_cases hjk : j = knc
      · subst hjk; exact ht
      · exact hinc.2 j (by omega)⟩
    have no : (g.c knc).eqB (h.c knc) = false → g.smB h = false := fun hf => by
      unfold EG.smB
      rw [all_no (p := fun i => (g.c i).eqB (h.c i)) hltnc hf]
      simp
    simp [go_sem, hltnc]
    refine GDraw_all T_ok (by kernel_rfl) (by kernel_rfl) ?_
    simp [go_sem, hltnc, hlt']
    have hc := sameCase74 (g.c knc) (h.c knc) (hg.nv knc hltnc) (hh.nv knc hlt')
    by_cases he : (g.c knc).eqB (h.c knc) = true
    · rw [he] at hc
      refine ⟨_, dcall_val hc rfl rfl, ?_⟩
      simp [go_sem]
      exact ⟨by omega, knc + 1, by simpa using step he, by omega, by omega⟩
    · have he' : (g.c knc).eqB (h.c knc) = false := by simpa using he
      rw [he'] at hc
      refine ⟨_, dcall_val hc rfl rfl, ?_⟩
      simp [go_sem]
      exact no he'
  have hallnc : ((List.range g.nc).all fun i => (g.c i).eqB (h.c i)) = true := all_yes fun j hj => hinc.2 j (by omega)
  simp [go_sem, hltnc]
  unfold EG.smB
  rw [hallnr, hallnl, hallnc]
  simp [h1, h2, h3]
theorem check30 (g : EG) (h : g.OK) : Pure Tryz.prog 11 [g.sv] (· = .i (if g.valid then 0 else 8)) := by
  refine pure_of_GC T_ok Tryz.func11 rfl (by kernel_rfl) (Nat.le_of_ble_eq_true rfl) rfl rfl ?_
  simp [go_sem]
  by_cases hv : g.valid = true
  · refine callK_own [] (look_yes h hv) (by simp) rfl trivial ?_
    simp [go_sem, hv]
  · have hv' : g.valid = false := by simpa using hv
    refine callK_own [] (look_bad h hv') (by simp) rfl trivial ?_
    simp [go_sem, hv']
end Go.Gx
/-
  The reference's Twin: a register in memory of its own.
-/
set_option linter.unusedVariables false
set_option linter.unusedSimpArgs false
set_option maxRecDepth 20000
set_option maxHeartbeats 4000000
namespace Go.Gx
open Go.RowKit Go.Proofs Go.Proofs.YtnajladibkpeaaaGreat

/-- The cells of cases whose votes lie in regions b, b + 1, .. -/
def EG.oc (g : EG) (b : Nat) : Nat → Nat → SV := fun i j => if j = 2 then .sl (i + b) 2 0 (g.c i).nv none else .r ((g.c i).c j)
theorem EG.oc_ren (g : EG) (a b i j : Nat) : (g.oc a i j).ren (fun i => b + i) = g.oc (b + a) i j := by
  unfold EG.oc
  split
  · simp only [SV.ren]
    congr 1; omega
  · rfl
theorem EG.oc_trim (g : EG) {a n i j : Nat} (h : i + a < n) : (g.oc a i j).trim n = g.oc a i j := by
  unfold EG.oc
  split
  · simp [SV.trim, h]
  · rfl
theorem EG.oc_kill (g : EG) {a r i j : Nat} (h : ¬ i + a = r) : (g.oc a i j).kill r = g.oc a i j := by
  unfold EG.oc
  split
  · simp [SV.kill, h]
  · rfl
attribute [go_sem] EG.oc_ren
@[go_sem] theorem EG.oc_0 (g : EG) (b i : Nat) : g.oc b i 0 = .i (g.c i).a := rfl
@[go_sem] theorem EG.oc_1 (g : EG) (b i : Nat) : g.oc b i 1 = .i (g.c i).b := rfl
@[go_sem] theorem EG.oc_2 (g : EG) (b i : Nat) : g.oc b i 2 = .sl (i + b) 2 0 (g.c i).nv none := rfl
abbrev EG.oS (g : EG) : SV := .agg [.sl 0 2 0 g.nr none, .sl 1 3 0 g.nl none, .sl 2 3 0 g.nc none]
abbrev EG.ov (g : EG) (i : Nat) : Reg := .vec 37 2 (g.c i).nv fun a j => .r (((g.c i).v a).c j)
abbrev EG.oR (g : EG) : List Reg := [.vec 105 2 g.nr fun i j => .r ((g.r i).c j), .vec 41 3 g.nl fun i j => .r ((g.l i).c j), .vec 52 3 g.nc (g.oc 3)] ++ (List.range g.nc).map g.ov
theorem EG.view_oc (g : EG) {M : Mem} {b i j : Nat} (hM : M (i + b) = some (g.ov i)) (hj : j < 3) : viewRV M 3 (g.oc b i j) = (g.c i).c j := by
  rcases (by omega : j = 0 ∨ j = 1 ∨ j = 2) with rfl | rfl | rfl
  · rfl
  · rfl
  · simp only [EG.oc_2, viewRV, hM]
    simp
    rfl
end Go.Gx
/-
  The law's spoil: it writes over a register's memory.
-/
set_option linter.unusedVariables false
set_option linter.unusedSimpArgs false
set_option maxRecDepth 20000
set_option maxHeartbeats 4000000
namespace Go.Gx
open Go.RowKit Go.Proofs Go.Proofs.YtnajladibkpeaaaGreat

abbrev anyC : Nat → Nat → SV := fun _ _ => .r .any
/-- Cells of cases of which the votes alone are known. -/
def spC (nv : Nat → Nat) (b : Nat) : Nat → Nat → SV := fun i j => if j = 2 then .sl (i + b) 2 0 (nv i) none else .r .any
@[go_sem] theorem spC_0 (nv : Nat → Nat) (b i : Nat) : spC nv b i 0 = .r .any := rfl
@[go_sem] theorem spC_1 (nv : Nat → Nat) (b i : Nat) : spC nv b i 1 = .r .any := rfl
@[go_sem] theorem spC_2 (nv : Nat → Nat) (b i : Nat) : spC nv b i 2 = .sl (i + b) 2 0 (nv i) none := rfl
abbrev spR (nr nl nc : Nat) (nv : Nat → Nat) : List Reg := [.vec 105 2 nr anyC, .vec 41 3 nl anyC, .vec 52 3 nc (spC nv 3)] ++ (List.range nc).map fun i => .vec 37 2 (nv i) anyC
abbrev spW (nr nl nc : Nat) (nv : Nat → Nat) : Mem := upd (famN (memL [some (.vec 105 2 nr anyC), some (.vec 41 3 nl anyC), some (.vec 52 3 nc (spC nv 3))]) 3 nc fun i => some (.vec 37 2 (nv i) anyC)) (nc + 3) (some (.box [.sl 0 2 0 nr none, .sl 1 3 0 nl none, .sl 2 3 0 nc none]))
theorem RV.sub_any (x : RV) : x.sub .any := by
  cases x with
  | v y =>
    unfold RV.sub
    split <;> first | trivial | simp_all
  | _ => simp [RV.sub]
theorem SV.sub_any {x : SV} : (∃ y, x = .r y) → x.sub (.r .any) := by
  rintro ⟨y, rfl⟩
  simp only [SV.sub]
  exact RV.sub_any y
theorem one7 (n j : Nat) (x : RV) : ∃ y, SV.trim n ([SV.r x][j]?.getD (SV.r .any)) = .r y := by
  cases j with
  | zero => exact ⟨_, rfl⟩
  | succ j => exact ⟨_, rfl⟩
theorem spC_sub {nv : Nat → Nat} {n i j : Nat} (h : i + 3 < n) : (SV.trim n (spC nv 3 i j)).sub (spC nv 3 i j) := by
  unfold spC
  split
  · simp [SV.trim, h, SV.sub]
  · exact SV.sub_any ⟨_, rfl⟩
theorem sp_keep {nr nl nc : Nat} {nv : Nat → Nat} (r : Nat) : Reg.wk (trimM (nc + 4) (spW nr nl nc nv) r) (spW nr nl nc nv r) := by
  unfold trimM
  by_cases hr : r < nc + 4
  · rw [if_pos hr]
    by_cases h3 : r < 3
    · rcases (by omega : r = 0 ∨ r = 1 ∨ r = 2) with rfl | rfl | rfl
      · simp [go_sem, Reg.wk]
      · simp [go_sem, Reg.wk]
      · have : spW nr nl nc nv 2 = some (.vec 52 3 nc (spC nv 3)) := by simp [go_sem]
        rw [this]
        exact Reg.wk_vec (Nat.le_refl _) fun i j hi hj => spC_sub (by omega)
    · by_cases h4 : r = nc + 3
      · subst h4
        have s1 : 1 < nc + 4 := by omega
        have s2 : 2 < nc + 4 := by omega
        simp [go_sem, Reg.wk, s1, s2]
      · have : spW nr nl nc nv r = some (.vec 37 2 (nv (r - 3)) anyC) := by
          show upd _ _ _ _ = _
          rw [upd_ne _ _ h4, famN_app, if_pos ⟨by omega, by omega⟩]
        rw [this]
        simp [go_sem, Reg.wk]
  · have : spW nr nl nc nv r = none := by
      show upd _ _ _ _ = _
      rw [upd_ne _ _ (by omega), famN_app, if_neg (by omega)]
      simp [memL, List.getElem?_eq_none (show [some (Reg.vec 105 2 nr anyC), some (.vec 41 3 nl anyC), some (.vec 52 3 nc (spC nv 3))].length ≤ r by simp; omega)]
    rw [if_neg hr, this]
    exact .inl (Reg.sub_none _)
/-- A region's rows are written to. -/
theorem sp_upd {nr nl nc : Nat} {nv : Nat → Nat} {q e k n : Nat} {g g' : Nat → Nat → SV} (hq : q < nc + 4) (hW : spW nr nl nc nv q = some (.vec e k n g')) (hg : ∀ i j, i < n → j < k → ((g i j).trim (nc + 4)).sub (g' i j)) (r : Nat) :
    Reg.wk (trimM (nc + 4) (upd (spW nr nl nc nv) q (some (.vec e k n g))) r) (spW nr nl nc nv r) := by
  by_cases hr : r = q
  · subst hr
    unfold trimM
    rw [if_pos hq, upd_same, hW]
    exact Reg.wk_vec (Nat.le_refl _) hg
  · have := sp_keep (nr := nr) (nl := nl) (nc := nc) (nv := nv) r
    unfold trimM at this ⊢
    rw [upd_ne _ _ hr]
    exact this
end Go.Gx
