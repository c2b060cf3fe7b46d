/-
  The program: there, binary search for a pair, ordered lists, valid votes.
-/
import Derived.Test.YtnajladibkpeaaaEd
set_option linter.unusedVariables false
set_option linter.unusedSimpArgs false
set_option maxRecDepth 20000
set_option maxHeartbeats 4000000
namespace Go.Gx
open Go.RowKit Go.Proofs Go.Proofs.Ytnajladibkpeaaa

mutual
theorem SV.refs_closed : ∀ s : SV, s.closed = true → s.refs = []
  | .r x, _ => by simp [SV.refs]
  | .ptr .., h => by simp [SV.closed] at h
  | .sl .., h => by simp [SV.closed] at h
  | .mp .., h => by simp [SV.closed] at h
  | .fn f fi ca, h => by
    simp only [SV.closed, Bool.and_eq_true] at h
    simp [SV.refs, SV.refsL_closed fi h.1, SV.refsL_closed ca h.2]
  | .agg l, h => by simp [SV.refs, SV.refsL_closed l h]
  | .tup l, h => by simp [SV.refs, SV.refsL_closed l h]
theorem SV.refsL_closed : ∀ l : List SV, SV.closedL l = true → SV.refsL l = []
  | [], _ => by simp [SV.refsL]
  | s :: l, h => by
    simp only [SV.closedL, Bool.and_eq_true] at h
    simp [SV.refsL, SV.refs_closed s h.1, SV.refsL_closed l h.2]
end
theorem SV.mem_closed {l : List SV} (h : SV.closedL l = true) : ∀ a ∈ l, a.refs = [] := by
  induction l with
  | nil => intro a ha; cases ha
  | cons s l ih =>
    simp only [SV.closedL, Bool.and_eq_true] at h
    intro a ha
    rcases List.mem_cons.1 ha with rfl | ha
    · exact SV.refs_closed _ h.1
    · exact ih h.2 a ha
/-- A desk, read only. -/
abbrev dk (D : Nat → Nat → RV) : SV := .r (.rp 4 1 D 0 0)
theorem there63 (g : EG) (h : g.OK) (D : Nat → Nat → RV) (hD : D 0 0 = .rs 2 g.nr fun i j => (g.r i).c j) (a : Int) : Pure Try.prog 63 [dk D, .i a] (· = .b (g.th a)) := by
  refine pure_of_GC T_ok Try.func63 rfl (by kernel_rfl) (Nat.le_of_ble_eq_true rfl) rfl rfl ?_
  have := h.nr
  by_cases h0 : 0 ≤ a
  · by_cases h1 : a < g.nr
    · simp [go_sem, h0, h1, hD, EG.th, btw]
      omega
    · simp [go_sem, h0, h1, hD, EG.th, btw]
      omega
  · simp [go_sem, h0, hD, EG.th, btw]

/-- The first place that is not less. -/
def bnd (c : Nat → Int) (n : Nat) : Nat := ((List.range n).find? fun i => decide (0 ≤ c i)).getD n
theorem bnd_eq {c : Nat → Int} {n i : Nat} (hi : i ≤ n) (h1 : ∀ j, j < i → c j < 0) (h2 : ∀ j, i ≤ j → j < n → 0 ≤ c j) : bnd c n = i := by
  unfold bnd
  rcases Nat.lt_or_ge i n with h | h
  · rw [List.find?_range_eq_some.2 ⟨by simpa using h2 i (Nat.le_refl i) h, List.mem_range.2 h, fun j hj => by have := h1 j hj; simp; omega⟩]; rfl
  · have : i = n := by omega
    subst this
    rw [List.find?_eq_none.2 fun j hj => by have := h1 j (List.mem_range.1 hj); simp; omega]; rfl
theorem bnd_le {c : Nat → Int} {n : Nat} : bnd c n ≤ n := by
  unfold bnd
  cases h : (List.range n).find? fun i => decide (0 ≤ c i) with
  | none => exact Nat.le_refl n
  | some i => have := List.find?_range_eq_some.1 h; have := List.mem_range.1 this.2.1; simp; omega
def fnd (c : Nat → Int) (n : Nat) : Bool := decide (bnd c n < n) && decide (c (bnd c n) = 0)
theorem mid_eq {i j : Nat} (h : i + j < 9223372036854775808) : IntKind.i64.wrap (Int.fdiv (IntKind.u64.wrap ((i : Int) + (j : Int))) 2) = (((i + j) / 2 : Nat) : Int) := by
  rw [wrap_inr (k := .u64) (by simp only [inr]; omega), Int.fdiv_eq_ediv_of_nonneg _ (by omega), wrap_inr (k := .i64) (by simp only [inr]; omega)]
  omega

theorem search120 (n : Nat) (hn : (n : Int) < 2 ^ 61) (get : Nat → Nat → RV) (t0 t1 : Int) (g : FuncId) (ca : List SV) (hca : SV.closedL ca = true) (c : Nat → Int) (hm : ∀ a b, a < b → b < n → c b < 0 → c a < 0)
    (hp : ∀ i, i < n → Pure Try.prog g (.agg [.r (get i 0), .r (get i 1), .r (get i 2)] :: .agg [.i t0, .i t1] :: ca) (· = .i (c i))) :
    Pure Try.prog 120 [.r (.rs 3 n get), .agg [.i t0, .i t1], .fn (.func g) [] ca] (· = .tup [.i (bnd c n : Nat), .b (fnd c n)]) := by
  refine pure_of_GC T_ok Try.func120 rfl (by kernel_rfl) (Nat.le_of_ble_eq_true rfl) rfl rfl ?_
  simp [go_sem]
  refine GLoop_of T_ok (α := Nat × Nat) (fun x => [(0, .r (.rs 3 n get)), (2, .fn (.func g) [] ca), (4, .ptr 0 0 2 0), (8, .i n), (9, .i x.1), (10, .i x.2)]) (fun _ => [some (.box [.i t0, .i t1])]) 1
    (fun x => x.1 ≤ x.2 ∧ x.2 ≤ n ∧ (∀ j, j < x.1 → c j < 0) ∧ ∀ j, x.2 ≤ j → j < n → 0 ≤ c j) (fun x => x.2 - x.1) (0, n) (fun _ => rfl) (by simp; omega) (by simp [go_sem, SV.trimL_closed _ _ hca]) (by simp [go_sem]) ?_
  have hr : ∀ r, r ∈ SV.refsL ca → r = 0 := fun r h => by rw [SV.refsL_closed _ hca] at h; cases h
  have hr2 : ∀ a : SV, a ∈ ca → ∀ r : Nat, r ∈ a.refs → r = 0 := fun a ha r h => by rw [SV.mem_closed hca a ha] at h; cases h
  rintro ⟨i, j⟩ J ⟨h1, h2, h3, h4⟩
  dsimp only at h1 h2 h3 h4
  simp [go_sem]
  split
  · rename_i hlt
    refine ⟨by omega, ?_⟩
    rw [mid_eq (by omega)]
    generalize hh : (i + j) / 2 = h
    have hb : i ≤ h ∧ h < j := by omega
    refine GDraw_all T_ok (by kernel_rfl) (by kernel_rfl) ?_
    simp [go_sem]
    refine ⟨hr, by omega, hr, hr2, _, dcall_val (hp h (by omega)) (by simp [go_sem, hca]) rfl, ?_⟩
    simp [go_sem]
    split
    · rename_i hc
      refine ⟨by omega, h + 1, j, ⟨by omega, h2, fun k hk => ?_, h4⟩, by omega, by simp [SV.trimL_closed _ _ hca]⟩
      by_cases hkh : k = h
      · subst hkh; exact hc
      · exact hm k h (by omega) (by omega) hc
    · rename_i hc
      refine ⟨i, h, ⟨by omega, by omega, h3, fun k hk hkn => ?_⟩, by omega, by simp [SV.trimL_closed _ _ hca]⟩
      by_cases hkh : k = h
      · subst hkh; omega
      · have h5 : ¬ c k < 0 := fun h6 => hc (hm h k (by omega) hkn h6)
        omega
  · rename_i hge
    have hij : i = j := by omega
    subst hij
    have hbd := bnd_eq (c := c) h2 h3 h4
    refine GDraw_all T_ok (by kernel_rfl) (by kernel_rfl) ?_
    by_cases hin : i < n
    · simp [go_sem, hin]
      refine ⟨hr, hr2, _, dcall_val (hp i hin) (by simp [go_sem, hca]) rfl, ?_⟩
      simp [go_sem, fnd, hbd, hin]
    · simp [go_sem, hin, fnd, hbd]

theorem search123 (n : Nat) (hn : (n : Int) < 2 ^ 61) (get : Nat → Nat → RV) (t0 t1 : Int) (g : FuncId) (ca : List SV) (hca : SV.closedL ca = true) (c : Nat → Int) (hm : ∀ a b, a < b → b < n → c b < 0 → c a < 0)
    (hp : ∀ i, i < n → Pure Try.prog g (.agg [.r (get i 0), .r (get i 1), .r (get i 2)] :: .agg [.i t0, .i t1] :: ca) (· = .i (c i))) :
    Pure Try.prog 123 [.r (.rs 3 n get), .agg [.i t0, .i t1], .fn (.func g) [] ca] (· = .tup [.i (bnd c n : Nat), .b (fnd c n)]) := by
  refine pure_of_GC T_ok Try.func123 rfl (by kernel_rfl) (Nat.le_of_ble_eq_true rfl) rfl rfl ?_
  simp [go_sem]
  refine GLoop_of T_ok (α := Nat × Nat) (fun x => [(0, .r (.rs 3 n get)), (2, .fn (.func g) [] ca), (4, .ptr 0 0 2 0), (8, .i n), (9, .i x.1), (10, .i x.2)]) (fun _ => [some (.box [.i t0, .i t1])]) 1
    (fun x => x.1 ≤ x.2 ∧ x.2 ≤ n ∧ (∀ j, j < x.1 → c j < 0) ∧ ∀ j, x.2 ≤ j → j < n → 0 ≤ c j) (fun x => x.2 - x.1) (0, n) (fun _ => rfl) (by simp; omega) (by simp [go_sem, SV.trimL_closed _ _ hca]) (by simp [go_sem]) ?_
  have hr : ∀ r, r ∈ SV.refsL ca → r = 0 := fun r h => by rw [SV.refsL_closed _ hca] at h; cases h
  have hr2 : ∀ a : SV, a ∈ ca → ∀ r : Nat, r ∈ a.refs → r = 0 := fun a ha r h => by rw [SV.mem_closed hca a ha] at h; cases h
  rintro ⟨i, j⟩ J ⟨h1, h2, h3, h4⟩
  dsimp only at h1 h2 h3 h4
  simp [go_sem]
  split
  · rename_i hlt
    refine ⟨by omega, ?_⟩
    rw [mid_eq (by omega)]
    generalize hh : (i + j) / 2 = h
    have hb : i ≤ h ∧ h < j := by omega
    refine GDraw_all T_ok (by kernel_rfl) (by kernel_rfl) ?_
    simp [go_sem]
    refine ⟨hr, by omega, hr, hr2, _, dcall_val (hp h (by omega)) (by simp [go_sem, hca]) rfl, ?_⟩
    simp [go_sem]
    split
    · rename_i hc
      refine ⟨by omega, h + 1, j, ⟨by omega, h2, fun k hk => ?_, h4⟩, by omega, by simp [SV.trimL_closed _ _ hca]⟩
      by_cases hkh : k = h
      · subst hkh; exact hc
      · exact hm k h (by omega) (by omega) hc
    · rename_i hc
      refine ⟨i, h, ⟨by omega, by omega, h3, fun k hk hkn => ?_⟩, by omega, by simp [SV.trimL_closed _ _ hca]⟩
      by_cases hkh : k = h
      · subst hkh; omega
      · have h5 : ¬ c k < 0 := fun h6 => hc (hm h k (by omega) hkn h6)
        omega
  · rename_i hge
    have hij : i = j := by omega
    subst hij
    have hbd := bnd_eq (c := c) h2 h3 h4
    refine GDraw_all T_ok (by kernel_rfl) (by kernel_rfl) ?_
    by_cases hin : i < n
    · simp [go_sem, hin]
      refine ⟨hr, hr2, _, dcall_val (hp i hin) (by simp [go_sem, hca]) rfl, ?_⟩
      simp [go_sem, fnd, hbd, hin]
    · simp [go_sem, hin, fnd, hbd]

theorem cl121 (x : LkG) (p q : Int) (C : Nat → Nat → RV) (hC : ∃ fi ca, C 0 0 = .fn (.func 77) 0 0 fi ca) : Pure Try.prog 121 [.agg [.r (x.c 0), .r (x.c 1), .r (x.c 2)], .agg [.i p, .i q], .r (.rp 1 1 C 0 0)] (· = .i (ordI x.a x.b p q)) := by
  obtain ⟨fi, ca, hC⟩ := hC
  refine pure_of_GC T_ok Try.func121 rfl (by kernel_rfl) (Nat.le_of_ble_eq_true rfl) rfl rfl ?_
  simp [go_sem]
  refine GDraw_all T_ok (by kernel_rfl) (by kernel_rfl) ?_
  simp [go_sem, hC]
  refine ⟨_, dcall_val (ofLink77 x) rfl rfl, ?_⟩
  simp [go_sem]
  refine ⟨_, dcall_val (order122 x.a x.b p q) rfl rfl, ?_⟩
  simp [go_sem]

theorem cl124 (x : CsG) (p q : Int) (C : Nat → Nat → RV) (hC : ∃ fi ca, C 0 0 = .fn (.func 69) 0 0 fi ca) : Pure Try.prog 124 [.agg [.r (x.c 0), .r (x.c 1), .r (x.c 2)], .agg [.i p, .i q], .r (.rp 1 1 C 0 0)] (· = .i (ordI x.a x.b p q)) := by
  obtain ⟨fi, ca, hC⟩ := hC
  refine pure_of_GC T_ok Try.func124 rfl (by kernel_rfl) (Nat.le_of_ble_eq_true rfl) rfl rfl ?_
  simp [go_sem]
  refine GDraw_all T_ok (by kernel_rfl) (by kernel_rfl) ?_
  simp [go_sem, hC]
  refine ⟨_, dcall_val (ofCase69 x) rfl rfl, ?_⟩
  simp [go_sem]
  refine ⟨_, dcall_val (order122 x.a x.b p q) rfl rfl, ?_⟩
  simp [go_sem]

end Go.Gx
