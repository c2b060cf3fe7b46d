/-
  The program: there, binary search for a pair, ordered lists, valid votes.
-/
import Derived.Test.YtnajladibkpeaaaGreatU1
set_option linter.unusedVariables false
set_option linter.unusedSimpArgs false
set_option maxRecDepth 20000
set_option maxHeartbeats 4000000
namespace Go.Gx
open Go.RowKit Go.Proofs Go.Proofs.YtnajladibkpeaaaGreat

mutual
theorem SV.refs_closed : ∀ s : SV, s.closed = true → s.refs = []
  | .r x, _ => by simp [SV.refs]
  | .ptr .., h => by simp [SV.closed] at h
  | .sl .., h => by simp [SV.closed] at h
  | .mp .., h => by simp [SV.closed] at h
  | .fn f fi ca, h => by
    simp only [SV.closed, Bool.and_eq_true] at h
    simp [SV.refs, SV.refsL_closed fi h.1, SV.refsL_closed ca h.2]
  | .agg l, h => by simp [SV.refs, SV.refsL_closed l h]
  | .tup l, h => by simp [SV.refs, SV.refsL_closed l h]
theorem SV.refsL_closed : ∀ l : List SV, SV.closedL l = true → SV.refsL l = []
  | [], _ => by simp [SV.refsL]
  | s :: l, h => by
    simp only [SV.closedL, Bool.and_eq_true] at h
    simp [SV.refsL, SV.refs_closed s h.1, SV.refsL_closed l h.2]
end
theorem SV.mem_closed {l : List SV} (h : SV.closedL l = true) : ∀ a ∈ l, a.refs = [] := by
  induction l with
  | nil => intro a ha; cases ha
  | cons s l ih =>
    simp only [SV.closedL, Bool.and_eq_true] at h
    intro a ha
    rcases List.mem_cons.1 ha with rfl | ha
    · exact SV.refs_closed _ h.1
    · exact ih h.2 a ha
/-- A desk, read only. -/
abbrev dk (D : Nat → Nat → RV) : SV := .r (.rp 4 1 D 0 0)
theorem there63 (g : EG) (h : g.OK) (D : Nat → Nat → RV) (hD : D 0 0 = .rs 2 g.nr fun i j => (g.r i).c j) (a : Int) : Pure Tryz.prog 42 [dk D, .i a] (· = .b (g.th a)) := by
  refine pure_of_GC T_ok Tryz.func42 rfl (by kernel_rfl) (Nat.le_of_ble_eq_true rfl) rfl rfl ?_
  have := h.nr
  by_cases h0 : 0 ≤ a
  · by_cases h1 : a < g.nr
    · simp [go_sem, h0, h1, hD, EG.th, btw]
      omega
    · simp [go_sem, h0, h1, hD, EG.th, btw]
      omega
  · simp [go_sem, h0, hD, EG.th, btw]

/-- The first place that is not less. -/
def bnd (c : Nat → Int) (n : Nat) : Nat := ((List.range n).find? fun i => decide (0 ≤ c i)).getD n
theorem bnd_eq {c : Nat → Int} {n i : Nat} (hi : i ≤ n) (h1 : ∀ j, j < i → c j < 0) (h2 : ∀ j, i ≤ j → j < n → 0 ≤ c j) : bnd c n = i := by
  unfold bnd
  rcases Nat.lt_or_ge i n with h | h
  · rw [List.find?_range_eq_some.2 ⟨by simpa using h2 i (Nat.le_refl i) h, List.mem_range.2 h, fun j hj => by have := h1 j hj; simp; omega⟩]; rfl
  · have : i = n := by omega
    subst this
    rw [List.find?_eq_none.2 fun j hj => by have := h1 j (List.mem_range.1 hj); simp; omega]; rfl
theorem bnd_le {c : Nat → Int} {n : Nat} : bnd c n ≤ n := by
  unfold bnd
  cases h : (List.range n).find? fun i => decide (0 ≤ c i) with
  | none => exact Nat.le_refl n
  | some i => have := List.find?_range_eq_some.1 h; have := List.mem_range.1 this.2.1; simp; omega
def fnd (c : Nat → Int) (n : Nat) : Bool := decide (bnd c n < n) && decide (c (bnd c n) = 0)
theorem mid_eq {i j : Nat} (h : i + j < 9223372036854775808) : IntKind.i64.wrap (Int.fdiv (IntKind.u64.wrap ((i : Int) + (j : Int))) 2) = (((i + j) / 2 : Nat) : Int) := by
  rw [wrap_inr (k := .u64) (by simp only [inr]; omega), Int.fdiv_eq_ediv_of_nonneg _ (by omega), wrap_inr (k := .i64) (by simp only [inr]; omega)]
  omega

theorem search120 (n : Nat) (hn : (n : Int) < 2 ^ 61) (get : Nat → Nat → RV) (t0 t1 : Int) (g : FuncId) (ca : List SV) (hca : SV.closedL ca = true) (c : Nat → Int) (hm : ∀ a b, a < b → b < n → c b < 0 → c a < 0)
    (hp : ∀ i, i < n → Pure Tryz.prog g (.agg [.r (get i 0), .r (get i 1), .r (get i 2)] :: .agg [.i t0, .i t1] :: ca) (· = .i (c i))) :
    Pure Tryz.prog 82 [.r (.rs 3 n get), .agg [.i t0, .i t1], .fn (.func g) [] ca] (· = .tup [.i (bnd c n : Nat), .b (fnd c n)]) := by
  refine pure_of_GC T_ok Tryz.func82 rfl (by kernel_rfl) (Nat.le_of_ble_eq_true rfl) rfl rfl ?_
  simp [go_sem]
  refine GLoop_of T_ok (α := Nat × Nat) (fun x => [(0, .r (.rs 3 n get)), (2, .fn (.func g) [] ca), (4, .ptr 0 0 2 0), (8, .i n), (9, .i x.1), (10, .i x.2)]) (fun _ => [some (.box [.i t0, .i t1])]) 1
    (fun x => x.1 ≤ x.2 ∧ x.2 ≤ n ∧ (∀ j, j < x.1 → c j < 0) ∧ ∀ j, x.2 ≤ j → j < n → 0 ≤ c j) (fun x => x.2 - x.1) (0, n) (fun _ => rfl) (by simp; omega) (by simp [go_sem, SV.trimL_closed _ _ hca]) (by simp [go_sem]) ?_
  have hr : ∀ r, r ∈ SV.refsL ca → r = 0 := fun r h => by rw [SV.refsL_closed _ hca] at h; cases h
  have hr2 : ∀ a : SV, a ∈ ca → ∀ r : Nat, r ∈ a.refs → r = 0 := fun a ha r h => by rw [SV.mem_closed hca a ha] at h; cases h
  rintro ⟨i, j⟩ J ⟨h1, h2, h3, h4⟩
  dsimp only at h1 h2 h3 h4
  simp [go_sem]
  split
  · rename_i hlt
    refine ⟨by omega, ?_⟩
    rw [mid_eq (by omega)]
    generalize hh : (i + j) / 2 = h
    have hb : i ≤ h ∧ h < j := by omega
    refine GDraw_all T_ok (by kernel_rfl) (by kernel_rfl) ?_
    simp [go_sem]
    refine ⟨hr, by omega, hr, hr2, _, dcall_val (hp h (by omega)) (by simp [go_sem, hca]) rfl, ?_⟩
    simp [go_sem]
    split
    · rename_i hc
      refine ⟨by omega, h + 1, j, ⟨by omega, h2, fun k hk => ?_, h4⟩, by omega, by simp [SV.trimL_closed _ _ hca]⟩
      by_cases hkh : k = h
      · subst hkh; exact hc
      · exact hm k h (by omega) (by omega) hc
    · rename_i hc
      refine ⟨i, h, ⟨by omega, by omega, h3, fun k hk hkn => ?_⟩, by omega, by simp [SV.trimL_closed _ _ hca]⟩
      by_cases hkh : k = h
      · subst hkh; omega
      · have h5 : ¬ c k < 0 := fun h6 => hc (hm h k (by omega) hkn h6)
        omega
  · rename_i hge
    have hij : i = j := by omega
    subst hij
    have hbd := bnd_eq (c := c) h2 h3 h4
    refine GDraw_all T_ok (by kernel_rfl) (by kernel_rfl) ?_
    by_cases hin : i < n
    · simp [go_sem, hin]
      refine ⟨hr, hr2, _, dcall_val (hp i hin) (by simp [go_sem, hca]) rfl, ?_⟩
      simp [go_sem, fnd, hbd, hin]
    · simp [go_sem, hin, fnd, hbd]

theorem search123 (n : Nat) (hn : (n : Int) < 2 ^ 61) (get : Nat → Nat → RV) (t0 t1 : Int) (g : FuncId) (ca : List SV) (hca : SV.closedL ca = true) (c : Nat → Int) (hm : ∀ a b, a < b → b < n → c b < 0 → c a < 0)
    (hp : ∀ i, i < n → Pure Tryz.prog g (.agg [.r (get i 0), .r (get i 1), .r (get i 2)] :: .agg [.i t0, .i t1] :: ca) (· = .i (c i))) :
    Pure Tryz.prog 85 [.r (.rs 3 n get), .agg [.i t0, .i t1], .fn (.func g) [] ca] (· = .tup [.i (bnd c n : Nat), .b (fnd c n)]) := by
  refine pure_of_GC T_ok Tryz.func85 rfl (by kernel_rfl) (Nat.le_of_ble_eq_true rfl) rfl rfl ?_
  simp [go_sem]
  refine GLoop_of T_ok (α := Nat × Nat) (fun x => [(0, .r (.rs 3 n get)), (2, .fn (.func g) [] ca), (4, .ptr 0 0 2 0), (8, .i n), (9, .i x.1), (10, .i x.2)]) (fun _ => [some (.box [.i t0, .i t1])]) 1
    (fun x => x.1 ≤ x.2 ∧ x.2 ≤ n ∧ (∀ j, j < x.1 → c j < 0) ∧ ∀ j, x.2 ≤ j → j < n → 0 ≤ c j) (fun x => x.2 - x.1) (0, n) (fun _ => rfl) (by simp; omega) (by simp [go_sem, SV.trimL_closed _ _ hca]) (by simp [go_sem]) ?_
  have hr : ∀ r, r ∈ SV.refsL ca → r = 0 := fun r h => by rw [SV.refsL_closed _ hca] at h; cases h
  have hr2 : ∀ a : SV, a ∈ ca → ∀ r : Nat, r ∈ a.refs → r = 0 := fun a ha r h => by rw [SV.mem_closed hca a ha] at h; cases h
  rintro ⟨i, j⟩ J ⟨h1, h2, h3, h4⟩
  dsimp only at h1 h2 h3 h4
  simp [go_sem]
  split
  · rename_i hlt
    refine ⟨by omega, ?_⟩
    rw [mid_eq (by omega)]
    generalize hh : (i + j) / 2 = h
    have hb : i ≤ h ∧ h < j := by omega
    refine GDraw_all T_ok (by kernel_rfl) (by kernel_rfl) ?_
    simp [go_sem]
    refine ⟨hr, by omega, hr, hr2, _, dcall_val (hp h (by omega)) (by simp [go_sem, hca]) rfl, ?_⟩
    simp [go_sem]
    split
    · rename_i hc
      refine ⟨by omega, h + 1, j, ⟨by omega, h2, fun k hk => ?_, h4⟩, by omega, by simp [SV.trimL_closed _ _ hca]⟩
      by_cases hkh : k = h
      · subst hkh; exact hc
      · exact hm k h (by omega) (by omega) hc
    · rename_i hc
      refine ⟨i, h, ⟨by omega, by omega, h3, fun k hk hkn => ?_⟩, by omega, by simp [SV.trimL_closed _ _ hca]⟩
      by_cases hkh : k = h
      · subst hkh; omega
      · have h5 : ¬ c k < 0 := fun h6 => hc (hm h k (by omega) hkn h6)
        omega
  · rename_i hge
    have hij : i = j := by omega
    subst hij
    have hbd := bnd_eq (c := c) h2 h3 h4
    refine GDraw_all T_ok (by kernel_rfl) (by kernel_rfl) ?_
    by_cases hin : i < n
    · simp [go_sem, hin]
      refine ⟨hr, hr2, _, dcall_val (hp i hin) (by simp [go_sem, hca]) rfl, ?_⟩
      simp [go_sem, fnd, hbd, hin]
    · simp [go_sem, hin, fnd, hbd]

theorem cl121 (x : LkG) (p q : Int) (C : Nat → Nat → RV) (hC : ∃ fi ca, C 0 0 = .fn (.func 45) 0 0 fi ca) : Pure Tryz.prog 83 [.agg [.r (x.c 0), .r (x.c 1), .r (x.c 2)], .agg [.i p, .i q], .r (.rp 1 1 C 0 0)] (· = .i (ordI x.a x.b p q)) := by
  obtain ⟨fi, ca, hC⟩ := hC
  refine pure_of_GC T_ok Tryz.func83 rfl (by kernel_rfl) (Nat.le_of_ble_eq_true rfl) rfl rfl ?_
  simp [go_sem]
  refine GDraw_all T_ok (by kernel_rfl) (by kernel_rfl) ?_
  simp [go_sem, hC]
  refine ⟨_, dcall_val (ofLink77 x) rfl rfl, ?_⟩
  simp [go_sem]
  refine ⟨_, dcall_val (order122 x.a x.b p q) rfl rfl, ?_⟩
  simp [go_sem]

theorem cl124 (x : CsG) (p q : Int) (C : Nat → Nat → RV) (hC : ∃ fi ca, C 0 0 = .fn (.func 47) 0 0 fi ca) : Pure Tryz.prog 86 [.agg [.r (x.c 0), .r (x.c 1), .r (x.c 2)], .agg [.i p, .i q], .r (.rp 1 1 C 0 0)] (· = .i (ordI x.a x.b p q)) := by
  obtain ⟨fi, ca, hC⟩ := hC
  refine pure_of_GC T_ok Tryz.func86 rfl (by kernel_rfl) (Nat.le_of_ble_eq_true rfl) rfl rfl ?_
  simp [go_sem]
  refine GDraw_all T_ok (by kernel_rfl) (by kernel_rfl) ?_
  simp [go_sem, hC]
  refine ⟨_, dcall_val (ofCase69 x) rfl rfl, ?_⟩
  simp [go_sem]
  refine ⟨_, dcall_val (order122 x.a x.b p q) rfl rfl, ?_⟩
  simp [go_sem]

end Go.Gx
/-
  The program: where a pair is; ordered lists; valid votes.
-/
set_option linter.unusedVariables false
set_option linter.unusedSimpArgs false
set_option maxRecDepth 20000
set_option maxHeartbeats 4000000
namespace Go.Gx
open Go.RowKit Go.Proofs Go.Proofs.YtnajladibkpeaaaGreat

theorem at76 (n : Nat) (hn : (n : Int) < 2 ^ 61) (l : Nat → LkG) (p q : Int) (hm : ∀ a b, a < b → b < n → ordI (l b).a (l b).b p q < 0 → ordI (l a).a (l a).b p q < 0) :
    Pure Tryz.prog 44 [.r (.rs 3 n fun i j => (l i).c j), .fn (.func 45) [] [], .agg [.i p, .i q]] (· = .tup [.i (bnd (fun i => ordI (l i).a (l i).b p q) n : Nat), .b (fnd (fun i => ordI (l i).a (l i).b p q) n)]) := by
  refine pure_of_GC T_ok Tryz.func44 rfl (by kernel_rfl) (Nat.le_of_ble_eq_true rfl) rfl rfl ?_
  simp [go_sem]
  refine call_lent (v := .tup [.i (bnd (fun i => ordI (l i).a (l i).b p q) n : Nat), .b (fnd (fun i => ordI (l i).a (l i).b p q) n)]) (by simp [go_sem]; exact search120 n hn _ p q 83 _ rfl _ hm fun i hi => cl121 (l i) p q _ ⟨_, _, rfl⟩) rfl ?_
  simp [go_sem]

theorem at78 (n : Nat) (hn : (n : Int) < 2 ^ 61) (l : Nat → CsG) (p q : Int) (hm : ∀ a b, a < b → b < n → ordI (l b).a (l b).b p q < 0 → ordI (l a).a (l a).b p q < 0) :
    Pure Tryz.prog 46 [.r (.rs 3 n fun i j => (l i).c j), .fn (.func 47) [] [], .agg [.i p, .i q]] (· = .tup [.i (bnd (fun i => ordI (l i).a (l i).b p q) n : Nat), .b (fnd (fun i => ordI (l i).a (l i).b p q) n)]) := by
  refine pure_of_GC T_ok Tryz.func46 rfl (by kernel_rfl) (Nat.le_of_ble_eq_true rfl) rfl rfl ?_
  simp [go_sem]
  refine call_lent (v := .tup [.i (bnd (fun i => ordI (l i).a (l i).b p q) n : Nat), .b (fnd (fun i => ordI (l i).a (l i).b p q) n)]) (by simp [go_sem]; exact search123 n hn _ p q 86 _ rfl _ hm fun i hi => cl124 (l i) p q _ ⟨_, _, rfl⟩) rfl ?_
  simp [go_sem]

theorem ordered110 (g : EG) (h : g.OK) (D : Nat → Nat → RV) (hD : D 0 0 = .rs 2 g.nr fun i j => (g.r i).c j) : Pure Tryz.prog 72 [dk D, g.ll, .fn (.func 45) [] []] (· = .b g.lks) := by
  refine pure_of_GC T_ok Tryz.func72 rfl (by kernel_rfl) (Nat.le_of_ble_eq_true rfl) rfl rfl ?_
  have := h.nl
  simp [go_sem]
  refine GLoop_of T_ok (α := Nat) (fun k => [(0, dk D), (1, g.ll), (2, .fn (.func 45) [] []), (10, g.ll), (11, .i g.nl), (12, .i k)]) (fun _ => []) 0 (fun k => k ≤ g.nl ∧ ∀ j, j < k → g.lk1 j = true) (fun k => g.nl - k) 0 (fun _ => rfl) (by simp) (by simp [go_sem]) (by simp [go_sem]) ?_
  intro k J hi
  by_cases hlt : k < g.nl
  rotate_left
  · simp [go_sem, hlt]
    exact all_yes fun j hj => hi.2 j (by omega)
  have no : g.lk1 k = false → g.lks = false := fun hf => all_no hlt hf
  have yes : g.lk1 k = true → (k + 1 ≤ g.nl ∧ ∀ j, j < k + 1 → g.lk1 j = true) := fun ht =>
    ⟨by omega, fun j hj => by
      by_cases hjk : j = k
      · subst hjk; exact ht
      · exact hi.2 j (by omega)⟩
  simp [go_sem, hlt]
  refine call_val (ofLink77 (g.l k)) rfl rfl ?_
  simp [go_sem]
  refine GDraw_all T_ok (by kernel_rfl) (by kernel_rfl) ?_
  by_cases h1 : (g.l k).b ≤ (g.l k).a
  · simp [go_sem, h1]
    exact no (by simp [EG.lk1, EG.prB]; omega)
  have h1' : decide ((g.l k).a < (g.l k).b) = true := decide_eq_true (by omega)
  have ta := there63 g h D hD (g.l k).a
  by_cases h2 : g.th (g.l k).a = true
  rotate_left
  · have h2' : g.th (g.l k).a = false := by simpa using h2
    simp [go_sem, h1]
    refine ⟨_, dcall_val (ta.val (v' := .b false) (by rw [h2'])) rfl rfl, ?_⟩
    simp [go_sem]
    exact no (by simp [EG.lk1, EG.prB, h2'])
  have tb := there63 g h D hD (g.l k).b
  by_cases h3 : g.th (g.l k).b = true
  rotate_left
  · have h3' : g.th (g.l k).b = false := by simpa using h3
    simp [go_sem, h1]
    refine ⟨_, dcall_val (ta.val (v' := .b true) (by rw [h2])) rfl rfl, ?_⟩
    simp [go_sem]
    refine ⟨_, dcall_val (tb.val (v' := .b false) (by rw [h3'])) rfl rfl, ?_⟩
    simp [go_sem]
    exact no (by simp [EG.lk1, EG.prB, h3'])
  have hp : g.prB (g.l k).a (g.l k).b = true := by simp [EG.prB, h2, h3]; omega
  have ta := ta.val (v' := .b true) (by rw [h2])
  have tb := tb.val (v' := .b true) (by rw [h3])
  by_cases h0 : k = 0
  · subst h0
    simp [go_sem, h1]
    refine ⟨_, dcall_val ta rfl rfl, ?_⟩
    simp [go_sem]
    refine ⟨_, dcall_val tb rfl rfl, ?_⟩
    simp [go_sem]
    obtain ⟨y1, y2⟩ := yes (by simp [EG.lk1, hp])
    exact ⟨1, ⟨y1, y2⟩, by omega, by omega⟩
  have h0' : 0 < k := by omega
  have hk1 : (k : Int) - 1 = ((k - 1 : Nat) : Int) := by omega
  have hk2 : k - 1 < g.nl := by omega
  have hk3 : ((k - 1 : Nat) : Int) ≤ 9223372036854775807 := by omega
  have ov := order122 (g.l (k - 1)).a (g.l (k - 1)).b (g.l k).a (g.l k).b
  by_cases hb : 0 ≤ ordI (g.l (k - 1)).a (g.l (k - 1)).b (g.l k).a (g.l k).b
  · have hb' : befB (g.l (k - 1)).a (g.l (k - 1)).b (g.l k).a (g.l k).b = false := by
      have := ordI_neg (a := (g.l (k - 1)).a) (b := (g.l (k - 1)).b) (c := (g.l k).a) (d := (g.l k).b)
      cases hh : befB (g.l (k - 1)).a (g.l (k - 1)).b (g.l k).a (g.l k).b with
      | false => rfl
      | true => have := this.2 hh; omega
    simp [go_sem, h1]
    refine ⟨_, dcall_val ta rfl rfl, ?_⟩
    simp [go_sem]
    refine ⟨_, dcall_val tb rfl rfl, ?_⟩
    simp [go_sem, h0', hk1, hk2, hk3]
    refine ⟨_, dcall_val (ofLink77 (g.l (k - 1))) rfl rfl, ?_⟩
    simp [go_sem]
    refine ⟨_, dcall_val ov rfl rfl, ?_⟩
    simp [go_sem, hb]
    exact no (by simp [EG.lk1, hb', h0])
  · have hb' : befB (g.l (k - 1)).a (g.l (k - 1)).b (g.l k).a (g.l k).b = true := ordI_neg.1 (by omega)
    simp [go_sem, h1]
    refine ⟨_, dcall_val ta rfl rfl, ?_⟩
    simp [go_sem]
    refine ⟨_, dcall_val tb rfl rfl, ?_⟩
    simp [go_sem, h0', hk1, hk2, hk3]
    refine ⟨_, dcall_val (ofLink77 (g.l (k - 1))) rfl rfl, ?_⟩
    simp [go_sem]
    refine ⟨_, dcall_val ov rfl rfl, ?_⟩
    simp [go_sem, hb]
    exact ⟨by omega, k + 1, yes (by simp [EG.lk1, hp, hb']), by omega, by omega⟩

/-- Element i is of a pair, and behind the one ahead of it. -/
def EG.co1 (g : EG) (i : Nat) : Bool := g.prB (g.c i).a (g.c i).b && (decide (i = 0) || befB (g.c (i - 1)).a (g.c (i - 1)).b (g.c i).a (g.c i).b)
def EG.cos (g : EG) : Bool := (List.range g.nc).all g.co1
theorem ordered111 (g : EG) (h : g.OK) (D : Nat → Nat → RV) (hD : D 0 0 = .rs 2 g.nr fun i j => (g.r i).c j) : Pure Tryz.prog 73 [dk D, g.cc, .fn (.func 47) [] []] (· = .b g.cos) := by
  refine pure_of_GC T_ok Tryz.func73 rfl (by kernel_rfl) (Nat.le_of_ble_eq_true rfl) rfl rfl ?_
  have := h.nc
  simp [go_sem]
  refine GLoop_of T_ok (α := Nat) (fun k => [(0, dk D), (1, g.cc), (2, .fn (.func 47) [] []), (10, g.cc), (11, .i g.nc), (12, .i k)]) (fun _ => []) 0 (fun k => k ≤ g.nc ∧ ∀ j, j < k → g.co1 j = true) (fun k => g.nc - k) 0 (fun _ => rfl) (by simp) (by simp [go_sem]) (by simp [go_sem]) ?_
  intro k J hi
  by_cases hlt : k < g.nc
  rotate_left
  · simp [go_sem, hlt]
    exact all_yes fun j hj => hi.2 j (by omega)
  have no : g.co1 k = false → g.cos = false := fun hf => all_no hlt hf
  have yes : g.co1 k = true → (k + 1 ≤ g.nc ∧ ∀ j, j < k + 1 → g.co1 j = true) := fun ht =>
    ⟨by omega, fun j hj => by
      by_cases hjk : j = k
      · subst hjk; exact ht
      · exact hi.2 j (by omega)⟩
  simp [go_sem, hlt]
  refine call_val (ofCase69 (g.c k)) rfl rfl ?_
  simp [go_sem]
  refine GDraw_all T_ok (by kernel_rfl) (by kernel_rfl) ?_
  by_cases h1 : (g.c k).b ≤ (g.c k).a
  · simp [go_sem, h1]
    exact no (by simp [EG.co1, EG.prB]; omega)
  have h1' : decide ((g.c k).a < (g.c k).b) = true := decide_eq_true (by omega)
  have ta := there63 g h D hD (g.c k).a
  by_cases h2 : g.th (g.c k).a = true
  rotate_left
  · have h2' : g.th (g.c k).a = false := by simpa using h2
    simp [go_sem, h1]
    refine ⟨_, dcall_val (ta.val (v' := .b false) (by rw [h2'])) rfl rfl, ?_⟩
    simp [go_sem]
    exact no (by simp [EG.co1, EG.prB, h2'])
  have tb := there63 g h D hD (g.c k).b
  by_cases h3 : g.th (g.c k).b = true
  rotate_left
  · have h3' : g.th (g.c k).b = false := by simpa using h3
    simp [go_sem, h1]
    refine ⟨_, dcall_val (ta.val (v' := .b true) (by rw [h2])) rfl rfl, ?_⟩
    simp [go_sem]
    refine ⟨_, dcall_val (tb.val (v' := .b false) (by rw [h3'])) rfl rfl, ?_⟩
    simp [go_sem]
    exact no (by simp [EG.co1, EG.prB, h3'])
  have hp : g.prB (g.c k).a (g.c k).b = true := by simp [EG.prB, h2, h3]; omega
  have ta := ta.val (v' := .b true) (by rw [h2])
  have tb := tb.val (v' := .b true) (by rw [h3])
  by_cases h0 : k = 0
  · subst h0
    simp [go_sem, h1]
    refine ⟨_, dcall_val ta rfl rfl, ?_⟩
    simp [go_sem]
    refine ⟨_, dcall_val tb rfl rfl, ?_⟩
    simp [go_sem]
    obtain ⟨y1, y2⟩ := yes (by simp [EG.co1, hp])
    exact ⟨1, ⟨y1, y2⟩, by omega, by omega⟩
  have h0' : 0 < k := by omega
  have hk1 : (k : Int) - 1 = ((k - 1 : Nat) : Int) := by omega
  have hk2 : k - 1 < g.nc := by omega
  have hk3 : ((k - 1 : Nat) : Int) ≤ 9223372036854775807 := by omega
  have ov := order122 (g.c (k - 1)).a (g.c (k - 1)).b (g.c k).a (g.c k).b
  by_cases hb : 0 ≤ ordI (g.c (k - 1)).a (g.c (k - 1)).b (g.c k).a (g.c k).b
  · have hb' : befB (g.c (k - 1)).a (g.c (k - 1)).b (g.c k).a (g.c k).b = false := by
      have := ordI_neg (a := (g.c (k - 1)).a) (b := (g.c (k - 1)).b) (c := (g.c k).a) (d := (g.c k).b)
      cases hh : befB (g.c (k - 1)).a (g.c (k - 1)).b (g.c k).a (g.c k).b with
      | false => rfl
      | true => have := this.2 hh; omega
    simp [go_sem, h1]
    refine ⟨_, dcall_val ta rfl rfl, ?_⟩
    simp [go_sem]
    refine ⟨_, dcall_val tb rfl rfl, ?_⟩
    simp [go_sem, h0', hk1, hk2, hk3]
    refine ⟨_, dcall_val (ofCase69 (g.c (k - 1))) rfl rfl, ?_⟩
    simp [go_sem]
    refine ⟨_, dcall_val ov rfl rfl, ?_⟩
    simp [go_sem, hb]
    exact no (by simp [EG.co1, hb', h0])
  · have hb' : befB (g.c (k - 1)).a (g.c (k - 1)).b (g.c k).a (g.c k).b = true := ordI_neg.1 (by omega)
    simp [go_sem, h1]
    refine ⟨_, dcall_val ta rfl rfl, ?_⟩
    simp [go_sem]
    refine ⟨_, dcall_val tb rfl rfl, ?_⟩
    simp [go_sem, h0', hk1, hk2, hk3]
    refine ⟨_, dcall_val (ofCase69 (g.c (k - 1))) rfl rfl, ?_⟩
    simp [go_sem]
    refine ⟨_, dcall_val ov rfl rfl, ?_⟩
    simp [go_sem, hb]
    exact ⟨by omega, k + 1, yes (by simp [EG.co1, hp, hb']), by omega, by omega⟩

theorem valid112 (n : Nat) (v : Nat → VtG) (hn : n ≤ 1000000000) : Pure Tryz.prog 74 [.r (.rs 2 n fun i j => (v i).c j)] (· = .b (votB n v)) := by
  refine pure_of_GC T_ok Tryz.func74 rfl (by kernel_rfl) (Nat.le_of_ble_eq_true rfl) rfl rfl ?_
  by_cases h1 : n < 1
  · have h1' : n = 0 := by omega
    subst h1'
    simp [go_sem, votB]
  by_cases h2 : 2 < n
  · have h1' : ¬ (n : Int) < 1 := by omega
    have h2' : 2 < (n : Int) := by omega
    have h3 : ¬ n ≤ 2 := by omega
    simp [go_sem, h1', h2', votB, h3]
  have h1' : ¬ (n : Int) < 1 := by omega
  have h2' : ¬ 2 < (n : Int) := by omega
  have hc := contains80 n hn (fun i j => (v i).c j) 97 [] rfl (fun i => !btw 0 7 (v i).o) fun i _ => strange138 (v i)
  have ha : (List.range n).any (fun i => !btw 0 7 (v i).o) = !((List.range n).all fun i => btw 0 7 (v i).o) := by
    rw [List.all_eq_not_any_not]; simp
  rw [ha] at hc
  simp [go_sem, h1', h2']
  refine call_val hc rfl rfl ?_
  cases hA : (List.range n).all fun i => btw 0 7 (v i).o with
  | false => simp [go_sem, votB, hA]
  | true =>
    by_cases e1 : n = 1
    · subst e1
      simp [go_sem]
      simp only [votB, hA]
      simp
    · have e2 : n = 2 := by omega
      subst e2
      simp [go_sem]
      refine GDraw_all T_ok (by kernel_rfl) (by kernel_rfl) ?_
      by_cases e3 : (v 0).o = (v 1).o
      · simp [go_sem, e3]
        simp [votB, e3]
      · simp [go_sem, e3]
        simp only [votB, hA]
        simp [e3]
end Go.Gx
/-
  The program: meet (who is one person).
-/
set_option linter.unusedVariables false
set_option linter.unusedSimpArgs false
set_option maxRecDepth 20000
set_option maxHeartbeats 4000000
namespace Go.Gx
open Go.RowKit Go.Proofs Go.Proofs.YtnajladibkpeaaaGreat

section
variable {nw : FuncId → Bool} {P : Program} {T : Tab} {N : Cfg} {all : Array Oper} {rest fin : List Oper} {k : List It} {Q : GQ} {E : Env} {M : Mem} {nx : Nat} {d : Option Tmp} {ty : TypeId} {pos : String} {af : Array Edge}
@[go_sem] theorem GPh_lookup (t : TypeId) (m x : Operand) (ok : Bool) : GPh nw P T N all (⟨d, .lookup t m x ok, ty, pos, af, none⟩ :: rest) fin k Q E M nx = (dOK N.n d ∧ underL nx ((Op.lookup t m x ok).operands.toList.map (ev E)) ∧ GDS nw P T N (glookup T M t (ev E m) (ev E x) ok) d all rest fin k Q E M nx) := (rfl)
@[go_sem] theorem GPh_field (t : TypeId) (x : Operand) (f : Nat) : GPh nw P T N all (⟨d, .field t x f, ty, pos, af, none⟩ :: rest) fin k Q E M nx = (dOK N.n d ∧ underL nx ((Op.field t x f).operands.toList.map (ev E)) ∧ GDS nw P T N (gfieldV T t (ev E x) f) d all rest fin k Q E M nx) := (rfl)
@[go_sem] theorem GPh_index (t : TypeId) (x i : Operand) : GPh nw P T N all (⟨d, .index t x i, ty, pos, af, none⟩ :: rest) fin k Q E M nx = (dOK N.n d ∧ underL nx ((Op.index t x i).operands.toList.map (ev E)) ∧ GDS nw P T N (gindexV T t (ev E x) (ev E i)) d all rest fin k Q E M nx) := (rfl)
end
theorem memR_nil (r : Nat) : memR [] r = none := by rw [memR_get]; rfl
/-- What comes back in new memory, read alone. -/
theorem Own.pure {P : Program} {f : FuncId} {args : List SV} {S : SV} {Rs' : List Reg} {φ : SV → Prop} (h : Own P f [] args S Rs') (hv : gview (memR Rs') S φ) : Pure P f args φ := by
  intro Z w vs hZ ha
  have hno : ∀ b, ¬ Wof (fun _ => none) (memR []) b := by
    rintro b ⟨r, R, L, h1, _⟩
    rw [memR_nil] at h1; cases h1
  have hm : MOK (fun b => Z b ∨ w.heap.size ≤ b) (Wof (fun _ => none) (memR [])) w.heap.size (fun _ => none) (memR []) (From ([] : List Reg).length) w :=
    ⟨fun b hb => .inr (hb.elim id fun h => (hno b h).elim), fun _ _ => rfl, fun r R h => (by rw [memR_nil] at h; cases h), fun r r' R R' L L' b h => (by rw [memR_nil] at h; cases h), fun r R L b h => (by rw [memR_nil] at h; cases h)⟩
  have hk : Keep Z (Zof (fun b => Z b ∨ w.heap.size ≤ b) (fun _ => none) (memR []) w) w w := fun b hb => ⟨⟨⟨hZ b hb, .inl hb⟩, fun r R L h => (by rw [memR_nil] at h; cases h)⟩, rfl⟩
  obtain ⟨h1, h2⟩ := h _ _ w vs hm (SV.relL_mono (fun _ _ h => h) hk _ _ ha)
  refine ⟨h1, h2.mono fun e w' h' => ?_⟩
  obtain ⟨y, σ', rfl, hm', hrel, hfr, _⟩ := h'
  obtain ⟨s', k1, r1⟩ := gview_rel (Z' := fun b => Z b ∨ (w.heap.size ≤ b ∧ b < w'.heap.size)) hm' (fun b hb => hb.1.2.imp id fun h => ⟨h, hb.1.1⟩) (fun r R L b h1 h2 h3 => .inr (by
    obtain ⟨L', e1, e2⟩ := hm'.reg r R h1
    rw [h2] at e1; cases e1
    refine ⟨?_, e2.block h3⟩
    rcases hm'.own r R L b h1 h2 h3 with h | h
    · exact (hno _ h).elim
    · exact h)) S φ y hv hrel
  exact ⟨y, s', rfl, k1, r1, ⟨hfr.os, hfr.tape, hfr.output, hfr.size, hfr.drawn, fun b hb _ => hfr.block b hb (hno b)⟩⟩

theorem left_lt {n a : Nat} {p q : Nat → Bool} (ha : a < n) (hp : p a = true) (hq : q a = false) (hs : ∀ i, q i = true → p i = true) : ((List.range n).filter q).length < ((List.range n).filter p).length := by
  have e : (List.range n).filter q = ((List.range n).filter p).filter q := by
    rw [List.filter_filter]
    refine List.filter_congr fun i _ => ?_
    cases h : q i with
    | false => rfl
    | true => rw [hs i h]; rfl
  rw [e, List.length_filter_lt_length_iff_exists]
  exact ⟨a, List.mem_filter.2 ⟨List.mem_range.2 ha, hp⟩, by simp [hq]⟩
/-- The person of a record after k links. -/
def EG.pm (g : EG) : Nat → Int → Int
  | 0, a => a
  | k + 1, a =>
    if (g.l k).s && !decide (g.pm k (g.l k).a = g.pm k (g.l k).b) then
      if g.pm k a = max (g.pm k (g.l k).a) (g.pm k (g.l k).b) then min (g.pm k (g.l k).a) (g.pm k (g.l k).b) else g.pm k a
    else g.pm k a
/-- The links' records are there. -/
def EG.lth (g : EG) : Prop := ∀ i, i < g.nl → g.th (g.l i).a = true ∧ g.th (g.l i).b = true
theorem EG.pm_bd {g : EG} (hl : g.lth) : ∀ (k : Nat) (a : Int), k ≤ g.nl → 0 ≤ a → a < g.nr → 0 ≤ g.pm k a ∧ g.pm k a < g.nr
  | 0, a, _, h0, h1 => ⟨h0, h1⟩
  | k + 1, a, hk, h0, h1 => by
    have t1 := EG.th_iff.1 (hl k (by omega)).1
    have t2 := EG.th_iff.1 (hl k (by omega)).2
    have i0 := EG.pm_bd hl k a (by omega) h0 h1
    have i1 := EG.pm_bd hl k (g.l k).a (by omega) t1.1 t1.2.1
    have i2 := EG.pm_bd hl k (g.l k).b (by omega) t2.1 t2.2.1
    simp only [EG.pm]
    split
    · split
      · omega
      · exact i0
    · exact i0
abbrev EG.pmS (g : EG) (k : Nat) : Int → SV := fun a => .i (g.pm k a)
abbrev EG.dbox (g : EG) (s : SV) : Reg := .box [g.rr, g.ll, g.cc, s]
abbrev EG.dmap (g : EG) : Reg := .map g.th (g.pmS g.nl) none
theorem meet113 (g : EG) (h : g.OK) (hl : g.lth) (x : RV) : OwnS Tryz.prog 1 75 [g.dbox (.r x)] [.ptr 0 0 4 0] (.tup []) [g.dbox (.mp 1), g.dmap] := by
  refine ownS_of_GC T_ok Tryz.func75 rfl (by kernel_rfl) (Nat.le_of_ble_eq_true rfl) rfl rfl 1 (Nat.le_refl 1) ?_
  have := h.nr
  have := h.nl
  simp [go_sem]
  refine GLoop_s T_ok (α := Nat) (fun k => [(0, .ptr 0 0 4 0), (18, g.rr), (19, .i g.nr), (20, .i k)])
    (fun k => [some (g.dbox (.mp 1)), some (.map (fun a => g.th a && decide (a < k)) (fun a => .i a) none)]) 2 (fun k => k ≤ g.nr) (fun k => g.nr - k) 0 (fun _ => rfl) (by simp) (by simp [go_sem]) (by simp [go_sem]; exact fun a ha => (EG.th_iff.1 ha).1) ?_
  intro k J hi
  by_cases hlt : k < g.nr
  · by_cases hg : (g.r k).g = true
    · have hth : g.th k = false := by
        cases e : g.th k with
        | false => rfl
        | true => have := (EG.th_iff.1 e).2.2; simp [hg] at this
      simp [go_sem, hlt, hg]
      refine ⟨by omega, k + 1, by omega, by omega, by omega, fun a => ?_⟩
      by_cases e : a = k
      · subst e; simp [hth]
      · have : a < (k : Int) ↔ a < ((k + 1 : Nat) : Int) := by omega
        simp [this]
    · have hg' : (g.r k).g = false := by simpa using hg
      have hth : g.th k = true := EG.th_iff.2 ⟨by omega, by omega, by simpa using hg'⟩
      simp [go_sem, hlt, hg']
      refine ⟨by omega, k + 1, by omega, by omega, by omega, fun a => ?_, fun a _ _ e => e.symm⟩
      by_cases e : a = k
      · subst e; simp [hth]
        omega
      · have : a < (k : Int) ↔ a < ((k + 1 : Nat) : Int) := by omega
        simp [this, e]
  have hk : k = g.nr := by omega
  subst hk
  simp [go_sem]
  refine GLoop_s T_ok (α := Nat) (fun k => [(0, .ptr 0 0 4 0), (39, g.ll), (40, .i g.nl), (41, .i k)])
    (fun k => [some (g.dbox (.mp 1)), some (.map g.th (g.pmS k) none)]) 2 (fun k => k ≤ g.nl) (fun k => g.nl - k) 0 (fun _ => rfl) (by simp) (by simp [go_sem]) (by simp [go_sem, EG.pm]; exact fun a ha => (EG.th_iff.1 ha).2.1) ?_
  clear hi hlt
  intro k J2 hi
  by_cases hlt : k < g.nl
  rotate_left
  · have hk : k = g.nl := by omega
    subst hk
    simp [go_sem]
    refine ⟨[0, 1], by simp [keepsL], by simp, fun N => ⟨by simp [go_sem], ?_⟩⟩
    simp [go_sem]
  obtain ⟨t1, t2⟩ := hl k hlt
  simp [go_sem, hlt]
  refine GDraw_all T_ok (by kernel_rfl) (by kernel_rfl) ?_
  by_cases hs : (g.l k).s = true
  rotate_left
  · have hs' : (g.l k).s = false := by simpa using hs
    simp [go_sem, hlt, hs', t1, t2]
    exact ⟨by omega, k + 1, by omega, by omega, by omega, fun a _ => by simp [EG.pm, hs']⟩
  by_cases hq : g.pm k (g.l k).a = g.pm k (g.l k).b
  · simp [go_sem, hlt, hs, t1, t2, hq]
    exact ⟨by omega, k + 1, by omega, by omega, by omega, fun a _ => by simp [EG.pm, hq]⟩
  have hc : ∀ a, g.pm (k + 1) a = if g.pm k a = max (g.pm k (g.l k).a) (g.pm k (g.l k).b) then min (g.pm k (g.l k).a) (g.pm k (g.l k).b) else g.pm k a := fun a => by simp [EG.pm, hs, hq]
  simp [go_sem, hlt, hs, t1, t2, hq]
  refine GOp_range T_ok (q := 1) (has := g.th) (val := g.pmS k) (st := none) (by simp [go_sem]) (by simp [go_sem]) (by kernel_rfl) (by simp [go_sem]) fun f c => ?_
  simp [go_sem]
  refine GLoop_s T_ok (α := (Int → Bool) × Option Int) (fun x => [(0, .ptr 0 0 4 0), (6, .i (g.pm k (g.l k).a)), (7, .i (g.pm k (g.l k).b)), (39, g.ll), (40, .i g.nl), (41, .i k), (71, .ptr 3 0 1 0)])
    (fun x => [some (g.dbox (.mp 1)), some (.map g.th (fun a => .i (if x.1 a then g.pm k a else g.pm (k + 1) a)) (some (f, c))), none, some (.iter (.mp 1) f c g.th x.1 x.2)]) 4 (fun x => True) (fun x => ((List.range g.nr).filter fun i : Nat => g.th (i : Int) && x.1 (i : Int)).length) (g.th, none) (fun _ => rfl) trivial (by simp [go_sem]) (by simp [go_sem]; exact fun a ha => by simp [ha]) ?_
  rintro ⟨left, la⟩ J3 -
  simp [go_sem]
  refine GOp_next (q := 1) (ref := 3) (kk := 1) (f := f) (c := c) (all := g.th) (left := left) (has := g.th) (la := la) (val := fun a => .i (if left a then g.pm k a else g.pm (k + 1) a)) (by simp [go_sem]) (by simp [go_sem]) (by simp [go_sem]) (fun _ => rfl) (by simp [go_sem]) (fun a h1 h2 => ?_) (fun h0 => ?_)
  rotate_left
  · simp [go_sem]
    refine ⟨by omega, k + 1, by omega, by omega, by omega, fun a ha => ?_⟩
    simp [h0 a ha]
  simp [go_sem]
  refine GOp_entry (q := 1) (ref := 3) (kk := 1) (f := f) (c := c) (all := g.th) (left := fun x => left x && !decide (x = a)) (has := g.th) (k := a) (val := fun a => .i (if left a then g.pm k a else g.pm (k + 1) a)) (by simp [go_sem]) (by simp [go_sem]) (by simp [go_sem]) h1 (by simp [go_sem]) ?_
  have h0a := (EG.th_iff.1 h1).1
  have h1a := (EG.th_iff.1 h1).2.1
  have hlen : ((List.range g.nr).filter fun i : Nat => g.th (i : Int) && (left (i : Int) && !decide ((i : Int) = a))).length < ((List.range g.nr).filter fun i : Nat => g.th (i : Int) && left (i : Int)).length := by
    refine left_lt (a := a.toNat) (by omega) ?_ ?_ ?_
    · have : (a.toNat : Int) = a := by omega
      simp [this, h1, h2]
    · have : (a.toNat : Int) = a := by omega
      simp [this]
    · intro i hi
      simp only [Bool.and_eq_true] at hi ⊢
      exact ⟨hi.1, hi.2.1⟩
  by_cases hm : g.pm k a = max (g.pm k (g.l k).a) (g.pm k (g.l k).b)
  · have hca : g.pm (k + 1) a = min (g.pm k (g.l k).a) (g.pm k (g.l k).b) := by rw [hc a, if_pos hm]
    simp [go_sem, h2, hm]
    refine ⟨fun x => left x && !decide (x = a), hlen, some a, ⟨h1, ⟨by simp [hca], fun b hb => ?_⟩, h1⟩, rfl, fun _ _ => rfl⟩
    by_cases e : b = a
    · subst e; simp [hca]
    · simp [e]
  · have hca : g.pm (k + 1) a = g.pm k a := by rw [hc a, if_neg hm]
    simp [go_sem, h2, hm]
    refine ⟨fun x => left x && !decide (x = a), hlen, some a, fun b hb => ?_, rfl, fun _ _ => rfl⟩
    by_cases e : b = a
    · subst e; simp [hca]
    · simp [e]
end Go.Gx
/-
  The program: look.
-/
set_option linter.unusedVariables false
set_option linter.unusedSimpArgs false
set_option maxRecDepth 20000
set_option maxHeartbeats 4000000
namespace Go.Gx
open Go.RowKit Go.Proofs Go.Proofs.YtnajladibkpeaaaGreat

theorem befB_trans {a b c d e f : Int} (h1 : befB a b c d = true) (h2 : befB c d e f = true) : befB a b e f = true := by
  simp only [befB, Bool.or_eq_true, Bool.and_eq_true, decide_eq_true_eq] at *
  omega
theorem sorted_of {n : Nat} {x y : Nat → Int} (h : ∀ i, i < n → i = 0 ∨ befB (x (i - 1)) (y (i - 1)) (x i) (y i) = true) : ∀ a b, a < b → b < n → befB (x a) (y a) (x b) (y b) = true := by
  intro a b hab
  induction b with
  | zero => omega
  | succ b ih =>
    intro hb
    have h1 := (h (b + 1) hb).resolve_left (by omega)
    simp only [Nat.add_sub_cancel] at h1
    by_cases e : a = b
    · subst e; exact h1
    · exact befB_trans (ih (by omega) (by omega)) h1
theorem EG.lks_sorted {g : EG} (h : g.lks = true) : ∀ a b, a < b → b < g.nl → befB (g.l a).a (g.l a).b (g.l b).a (g.l b).b = true :=
  sorted_of (x := fun i => (g.l i).a) (y := fun i => (g.l i).b) fun i hi => by
    have := all_get h hi
    simp only [EG.lk1, Bool.and_eq_true, Bool.or_eq_true, decide_eq_true_eq] at this
    exact this.2
theorem EG.cos_sorted {g : EG} (h : g.cos = true) : ∀ a b, a < b → b < g.nc → befB (g.c a).a (g.c a).b (g.c b).a (g.c b).b = true :=
  sorted_of (x := fun i => (g.c i).a) (y := fun i => (g.c i).b) fun i hi => by
    have := all_get h hi
    simp only [EG.co1, Bool.and_eq_true, Bool.or_eq_true, decide_eq_true_eq] at this
    exact this.2
theorem ord_mono {n : Nat} {x y : Nat → Int} (h : ∀ a b, a < b → b < n → befB (x a) (y a) (x b) (y b) = true) (p q : Int) : ∀ a b, a < b → b < n → ordI (x b) (y b) p q < 0 → ordI (x a) (y a) p q < 0 := fun a b hab hb h2 =>
  ordI_neg.2 (befB_trans (h a b hab hb) (ordI_neg.1 h2))
theorem EG.lks_th {g : EG} (h : g.lks = true) : g.lth := fun i hi => by
  have := all_get h hi
  simp only [EG.lk1, EG.prB, Bool.and_eq_true] at this
  exact ⟨this.1.1.1, this.1.1.2⟩
/-- Where the pair (p, q) is among the links, and whether it is there. -/
def EG.lat (g : EG) (p q : Int) : Nat := bnd (fun i => ordI (g.l i).a (g.l i).b p q) g.nl
def EG.lin (g : EG) (p q : Int) : Bool := fnd (fun i => ordI (g.l i).a (g.l i).b p q) g.nl
def EG.cat (g : EG) (p q : Int) : Nat := bnd (fun i => ordI (g.c i).a (g.c i).b p q) g.nc
def EG.cin (g : EG) (p q : Int) : Bool := fnd (fun i => ordI (g.c i).a (g.c i).b p q) g.nc
theorem EG.at76 (g : EG) (h : g.OK) (hl : g.lks = true) (p q : Int) : Pure Tryz.prog 44 [g.ll, .fn (.func 45) [] [], .agg [.i p, .i q]] (· = .tup [.i (g.lat p q), .b (g.lin p q)]) :=
  Go.Gx.at76 g.nl (by have := h.nl; omega) g.l p q (ord_mono (EG.lks_sorted hl) p q)
theorem EG.at78 (g : EG) (h : g.OK) (hl : g.cos = true) (p q : Int) : Pure Tryz.prog 46 [g.cc, .fn (.func 47) [] [], .agg [.i p, .i q]] (· = .tup [.i (g.cat p q), .b (g.cin p q)]) :=
  Go.Gx.at78 g.nc (by have := h.nc; omega) g.c p q (ord_mono (EG.cos_sorted hl) p q)
def EG.qual (g : EG) : Bool := (List.range g.nr).all fun i => btw 0 100 (g.r i).q
def EG.cs2 (g : EG) (i : Nat) : Bool := !g.lin (g.c i).a (g.c i).b && votB (g.c i).nv (g.c i).v
def EG.lk2 (g : EG) (i : Nat) : Bool := (g.l i).s || !decide (g.pm g.nl (g.l i).a = g.pm g.nl (g.l i).b)
/-- The register is valid: as the program says. -/
def EG.pval (g : EG) : Bool := decide (g.nr ≤ 24) && decide (g.nc ≤ 40) && g.qual && g.lks && g.cos && ((List.range g.nc).all g.cs2) && (List.range g.nl).all g.lk2
abbrev nilP : SV := .r (.v (.pointer none))
def EG.lookS (g : EG) : SV := if g.pval then .tup [.ptr 0 0 4 0, .i 0] else .tup [nilP, .i 8]
def EG.lookR (g : EG) : List Reg := if g.pval then [g.dbox (.mp 1), g.dmap] else []
theorem look_no {g : EG} {M : Mem} (e : g.pval = false) : ∃ ρl, gexp M (.tup [nilP, .i 8]) ρl g.lookS g.lookR := by
  unfold EG.lookS EG.lookR
  rw [e]
  exact ⟨[], by simp, fun N => ⟨by simp [go_sem], trivial⟩⟩
theorem look53 (g : EG) (h : g.OK) : Own Tryz.prog 36 [] [g.sv] g.lookS g.lookR := by
  have := h.nr
  have := h.nl
  have := h.nc
  refine own_of_GC T_ok Tryz.func36 rfl (by kernel_rfl) (Nat.le_of_ble_eq_true rfl) rfl rfl ?_
  by_cases h1 : g.nr ≤ 24
  rotate_left
  · have e : g.pval = false := by simp [EG.pval, h1]
    have h1' : 24 < (g.nr : Int) := by omega
    simp [go_sem, h1']
    exact look_no e
  have h1' : ¬ 24 < (g.nr : Int) := by omega
  by_cases h2 : g.nc ≤ 40
  rotate_left
  · have e : g.pval = false := by simp [EG.pval, h2]
    have h2' : 40 < (g.nc : Int) := by omega
    simp [go_sem, h1', h2']
    exact look_no e
  have h2' : ¬ 40 < (g.nc : Int) := by omega
  have hq := contains109 g.nr (by omega) (fun i j => (g.r i).c j) 70 [] rfl (fun i => !btw 0 100 (g.r i).q) fun i _ => poor108 (g.r i)
  have ha : (List.range g.nr).any (fun i => !btw 0 100 (g.r i).q) = !g.qual := by
    unfold EG.qual
    rw [List.all_eq_not_any_not]; simp
  rw [ha] at hq
  simp [go_sem, h1', h2']
  refine call_val hq rfl rfl ?_
  by_cases h3 : g.qual = true
  rotate_left
  · have h3' : g.qual = false := by simpa using h3
    simp [go_sem, h3']
    exact look_no (by simp [EG.pval, h3'])
  simp [go_sem, h3]
  refine call_lent (v := .b g.lks) (by simp [go_sem]; exact ordered110 g h _ rfl) rfl ?_
  by_cases h4 : g.lks = true
  rotate_left
  · have h4' : g.lks = false := by simpa using h4
    simp [go_sem, h4']
    exact look_no (by simp [EG.pval, h4'])
  simp [go_sem, h4]
  refine call_lent (v := .b g.cos) (by simp [go_sem]; exact ordered111 g h _ rfl) rfl ?_
  by_cases h5 : g.cos = true
  rotate_left
  · have h5' : g.cos = false := by simpa using h5
    simp [go_sem, h5']
    exact look_no (by simp [EG.pval, h5'])
  simp [go_sem, h5]
  refine GLoop_s T_ok (α := Nat) (fun k => [(1, .ptr 0 0 3 0), (4, .ptr 1 0 4 0), (46, g.cc), (47, .i g.nc), (48, .i k)])
    (fun k => [g.bx, some (g.dbox (.r .any))]) 2 (fun k => k ≤ g.nc ∧ ∀ j, j < k → g.cs2 j = true) (fun k => g.nc - k) 0 (fun _ => rfl) (by simp) (by simp [go_sem]) (by simp [go_sem]) ?_
  intro k J hi
  by_cases hlt : k < g.nc
  · have no : g.cs2 k = false → g.pval = false := fun hf => by simp [EG.pval, all_no hlt hf]
    have yes : g.cs2 k = true → (k + 1 ≤ g.nc ∧ ∀ j, j < k + 1 → g.cs2 j = true) := fun ht =>
      ⟨by omega, fun j hj => by
        by_cases hjk : j = k
        · subst hjk; exact ht
        · exact hi.2 j (by omega)⟩
    have hat := EG.at76 g h h4 (g.c k).a (g.c k).b
    simp [go_sem, hlt]
    refine GDraw_all T_ok (by kernel_rfl) (by kernel_rfl) ?_
    simp [go_sem]
    refine ⟨_, dcall_val (ofCase69 (g.c k)) rfl rfl, ?_⟩
    simp [go_sem]
    refine ⟨_, dcall_val hat rfl rfl, ?_⟩
    by_cases c1 : g.lin (g.c k).a (g.c k).b = true
    · simp [go_sem, c1]
      exact look_no (no (by simp [EG.cs2, c1]))
    have c1' : g.lin (g.c k).a (g.c k).b = false := by simpa using c1
    simp [go_sem, c1']
    refine call_val (valid112 (g.c k).nv (g.c k).v (h.nv k hlt)) rfl rfl ?_
    by_cases c2 : votB (g.c k).nv (g.c k).v = true
    · simp [go_sem, c2]
      exact ⟨by omega, k + 1, yes (by simp [EG.cs2, c1', c2]), by omega, by omega⟩
    · have c2' : votB (g.c k).nv (g.c k).v = false := by simpa using c2
      simp [go_sem, c2']
      exact look_no (no (by simp [EG.cs2, c2']))
  have h6 : (List.range g.nc).all g.cs2 = true := all_yes fun j hj => hi.2 j (by omega)
  have hk : k = g.nc := by omega
  subst hk
  simp [go_sem]
  refine callK_ownS [1] (meet113 g h (EG.lks_th h4) .any) (Nat.le_refl 1) (by decide) rfl ?_ ?_
  · simp [go_sem]
  simp [go_sem, renS]
  refine GLoop_s T_ok (α := Nat) (fun k => [(1, .ptr 0 0 3 0), (4, .ptr 1 0 4 0), (71, g.ll), (72, .i g.nl), (73, .i k)])
    (fun k => [g.bx, some (g.dbox (.mp 3)), none, some g.dmap]) 4 (fun k => k ≤ g.nl ∧ ∀ j, j < k → g.lk2 j = true) (fun k => g.nl - k) 0 (fun _ => rfl) (by simp) (by simp [go_sem]) (by simp [go_sem]) ?_
  clear hi hlt
  intro k J2 hi
  have hth := EG.lks_th h4
  by_cases hlt : k < g.nl
  · have no : g.lk2 k = false → g.pval = false := fun hf => by simp [EG.pval, all_no hlt hf]
    have yes : g.lk2 k = true → (k + 1 ≤ g.nl ∧ ∀ j, j < k + 1 → g.lk2 j = true) := fun ht =>
      ⟨by omega, fun j hj => by
        by_cases hjk : j = k
        · subst hjk; exact ht
        · exact hi.2 j (by omega)⟩
    obtain ⟨t1, t2⟩ := hth k hlt
    simp [go_sem, hlt]
    refine GDraw_all T_ok (by kernel_rfl) (by kernel_rfl) ?_
    by_cases hs : (g.l k).s = true
    · simp [go_sem, hs]
      exact ⟨by omega, k + 1, yes (by simp [EG.lk2, hs]), by omega, by omega⟩
    have hs' : (g.l k).s = false := by simpa using hs
    by_cases hp : g.pm g.nl (g.l k).a = g.pm g.nl (g.l k).b
    · simp [go_sem, hs', t1, t2, hp]
      exact look_no (no (by simp [EG.lk2, hs', hp]))
    · simp [go_sem, hs', t1, t2, hp]
      exact ⟨by omega, k + 1, yes (by simp [EG.lk2, hp]), by omega, by omega⟩
  have h7 : (List.range g.nl).all g.lk2 = true := all_yes fun j hj => hi.2 j (by omega)
  have hk : k = g.nl := by omega
  subst hk
  simp [go_sem]
  have hv : g.pval = true := by simp [EG.pval, h1, h2, h3, h4, h5, h6, h7]
  unfold EG.lookS EG.lookR
  rw [hv]
  refine ⟨[1, 3], by simp, fun N => ⟨by simp [go_sem], ?_⟩⟩
  simp [go_sem]
end Go.Gx
