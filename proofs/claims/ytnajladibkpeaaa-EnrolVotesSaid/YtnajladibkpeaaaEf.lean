/-
  The program: where a pair is; ordered lists; valid votes.
-/
import Derived.Test.YtnajladibkpeaaaEe
set_option linter.unusedVariables false
set_option linter.unusedSimpArgs false
set_option maxRecDepth 20000
set_option maxHeartbeats 4000000
namespace Go.Gx
open Go.RowKit Go.Proofs Go.Proofs.Ytnajladibkpeaaa

theorem at76 (n : Nat) (hn : (n : Int) < 2 ^ 61) (l : Nat → LkG) (p q : Int) (hm : ∀ a b, a < b → b < n → ordI (l b).a (l b).b p q < 0 → ordI (l a).a (l a).b p q < 0) :
    Pure Try.prog 76 [.r (.rs 3 n fun i j => (l i).c j), .fn (.func 77) [] [], .agg [.i p, .i q]] (· = .tup [.i (bnd (fun i => ordI (l i).a (l i).b p q) n : Nat), .b (fnd (fun i => ordI (l i).a (l i).b p q) n)]) := by
  refine pure_of_GC T_ok Try.func76 rfl (by kernel_rfl) (Nat.le_of_ble_eq_true rfl) rfl rfl ?_
  simp [go_sem]
  refine call_lent (v := .tup [.i (bnd (fun i => ordI (l i).a (l i).b p q) n : Nat), .b (fnd (fun i => ordI (l i).a (l i).b p q) n)]) (by simp [go_sem]; exact search120 n hn _ p q 121 _ rfl _ hm fun i hi => cl121 (l i) p q _ ⟨_, _, rfl⟩) rfl ?_
  simp [go_sem]

theorem at78 (n : Nat) (hn : (n : Int) < 2 ^ 61) (l : Nat → CsG) (p q : Int) (hm : ∀ a b, a < b → b < n → ordI (l b).a (l b).b p q < 0 → ordI (l a).a (l a).b p q < 0) :
    Pure Try.prog 78 [.r (.rs 3 n fun i j => (l i).c j), .fn (.func 69) [] [], .agg [.i p, .i q]] (· = .tup [.i (bnd (fun i => ordI (l i).a (l i).b p q) n : Nat), .b (fnd (fun i => ordI (l i).a (l i).b p q) n)]) := by
  refine pure_of_GC T_ok Try.func78 rfl (by kernel_rfl) (Nat.le_of_ble_eq_true rfl) rfl rfl ?_
  simp [go_sem]
  refine call_lent (v := .tup [.i (bnd (fun i => ordI (l i).a (l i).b p q) n : Nat), .b (fnd (fun i => ordI (l i).a (l i).b p q) n)]) (by simp [go_sem]; exact search123 n hn _ p q 124 _ rfl _ hm fun i hi => cl124 (l i) p q _ ⟨_, _, rfl⟩) rfl ?_
  simp [go_sem]

theorem ordered110 (g : EG) (h : g.OK) (D : Nat → Nat → RV) (hD : D 0 0 = .rs 2 g.nr fun i j => (g.r i).c j) : Pure Try.prog 110 [dk D, g.ll, .fn (.func 77) [] []] (· = .b g.lks) := by
  refine pure_of_GC T_ok Try.func110 rfl (by kernel_rfl) (Nat.le_of_ble_eq_true rfl) rfl rfl ?_
  have := h.nl
  simp [go_sem]
  refine GLoop_of T_ok (α := Nat) (fun k => [(0, dk D), (1, g.ll), (2, .fn (.func 77) [] []), (10, g.ll), (11, .i g.nl), (12, .i k)]) (fun _ => []) 0 (fun k => k ≤ g.nl ∧ ∀ j, j < k → g.lk1 j = true) (fun k => g.nl - k) 0 (fun _ => rfl) (by simp) (by simp [go_sem]) (by simp [go_sem]) ?_
  intro k J hi
  by_cases hlt : k < g.nl
  rotate_left
  · simp [go_sem, hlt]
    exact all_yes fun j hj => hi.2 j (by omega)
  have no : g.lk1 k = false → g.lks = false := fun hf => all_no hlt hf
  have yes : g.lk1 k = true → (k + 1 ≤ g.nl ∧ ∀ j, j < k + 1 → g.lk1 j = true) := fun ht =>
    ⟨by omega, fun j hj => by
      by_cases hjk : j = k
      · subst hjk; exact ht
      · exact hi.2 j (by omega)⟩
  simp [go_sem, hlt]
  refine call_val (ofLink77 (g.l k)) rfl rfl ?_
  simp [go_sem]
  refine GDraw_all T_ok (by kernel_rfl) (by kernel_rfl) ?_
  by_cases h1 : (g.l k).b ≤ (g.l k).a
  · simp [go_sem, h1]
    exact no (by simp [EG.lk1, EG.prB]; omega)
  have h1' : decide ((g.l k).a < (g.l k).b) = true := decide_eq_true (by omega)
  have ta := there63 g h D hD (g.l k).a
  by_cases h2 : g.th (g.l k).a = true
  rotate_left
  · have h2' : g.th (g.l k).a = false := by simpa using h2
    simp [go_sem, h1]
    refine ⟨_, dcall_val (ta.val (v' := .b false) (by rw [h2'])) rfl rfl, ?_⟩
    simp [go_sem]
    exact no (by simp [EG.lk1, EG.prB, h2'])
  have tb := there63 g h D hD (g.l k).b
  by_cases h3 : g.th (g.l k).b = true
  rotate_left
  · have h3' : g.th (g.l k).b = false := by simpa using h3
    simp [go_sem, h1]
    refine ⟨_, dcall_val (ta.val (v' := .b true) (by rw [h2])) rfl rfl, ?_⟩
    simp [go_sem]
    refine ⟨_, dcall_val (tb.val (v' := .b false) (by rw [h3'])) rfl rfl, ?_⟩
    simp [go_sem]
    exact no (by simp [EG.lk1, EG.prB, h3'])
  have hp : g.prB (g.l k).a (g.l k).b = true := by simp [EG.prB, h2, h3]; omega
  have ta := ta.val (v' := .b true) (by rw [h2])
  have tb := tb.val (v' := .b true) (by rw [h3])
  by_cases h0 : k = 0
  · subst h0
    simp [go_sem, h1]
    refine ⟨_, dcall_val ta rfl rfl, ?_⟩
    simp [go_sem]
    refine ⟨_, dcall_val tb rfl rfl, ?_⟩
    simp [go_sem]
    obtain ⟨y1, y2⟩ := yes (by simp [EG.lk1, hp])
    exact ⟨1, ⟨y1, y2⟩, by omega, by omega⟩
  have h0' : 0 < k := by omega
  have hk1 : (k : Int) - 1 = ((k - 1 : Nat) : Int) := by omega
  have hk2 : k - 1 < g.nl := by omega
  have hk3 : ((k - 1 : Nat) : Int) ≤ 9223372036854775807 := by omega
  have ov := order122 (g.l (k - 1)).a (g.l (k - 1)).b (g.l k).a (g.l k).b
  by_cases hb : 0 ≤ ordI (g.l (k - 1)).a (g.l (k - 1)).b (g.l k).a (g.l k).b
  · have hb' : befB (g.l (k - 1)).a (g.l (k - 1)).b (g.l k).a (g.l k).b = false := by
      have := ordI_neg (a := (g.l (k - 1)).a) (b := (g.l (k - 1)).b) (c := (g.l k).a) (d := (g.l k).b)
      cases hh : befB (g.l (k - 1)).a (g.l (k - 1)).b (g.l k).a (g.l k).b with
      | false => rfl
      | true => have := this.2 hh; omega
    simp [go_sem, h1]
    refine ⟨_, dcall_val ta rfl rfl, ?_⟩
    simp [go_sem]
    refine ⟨_, dcall_val tb rfl rfl, ?_⟩
    simp [go_sem, h0', hk1, hk2, hk3]
    refine ⟨_, dcall_val (ofLink77 (g.l (k - 1))) rfl rfl, ?_⟩
    simp [go_sem]
    refine ⟨_, dcall_val ov rfl rfl, ?_⟩
    simp [go_sem, hb]
    exact no (by simp [EG.lk1, hb', h0])
  · have hb' : befB (g.l (k - 1)).a (g.l (k - 1)).b (g.l k).a (g.l k).b = true := ordI_neg.1 (by omega)
    simp [go_sem, h1]
    refine ⟨_, dcall_val ta rfl rfl, ?_⟩
    simp [go_sem]
    refine ⟨_, dcall_val tb rfl rfl, ?_⟩
    simp [go_sem, h0', hk1, hk2, hk3]
    refine ⟨_, dcall_val (ofLink77 (g.l (k - 1))) rfl rfl, ?_⟩
    simp [go_sem]
    refine ⟨_, dcall_val ov rfl rfl, ?_⟩
    simp [go_sem, hb]
    exact ⟨by omega, k + 1, yes (by simp [EG.lk1, hp, hb']), by omega, by omega⟩

/-- Element i is of a pair, and behind the one ahead of it. -/
def EG.co1 (g : EG) (i : Nat) : Bool := g.prB (g.c i).a (g.c i).b && (decide (i = 0) || befB (g.c (i - 1)).a (g.c (i - 1)).b (g.c i).a (g.c i).b)
def EG.cos (g : EG) : Bool := (List.range g.nc).all g.co1
theorem ordered111 (g : EG) (h : g.OK) (D : Nat → Nat → RV) (hD : D 0 0 = .rs 2 g.nr fun i j => (g.r i).c j) : Pure Try.prog 111 [dk D, g.cc, .fn (.func 69) [] []] (· = .b g.cos) := by
  refine pure_of_GC T_ok Try.func111 rfl (by kernel_rfl) (Nat.le_of_ble_eq_true rfl) rfl rfl ?_
  have := h.nc
  simp [go_sem]
  refine GLoop_of T_ok (α := Nat) (fun k => [(0, dk D), (1, g.cc), (2, .fn (.func 69) [] []), (10, g.cc), (11, .i g.nc), (12, .i k)]) (fun _ => []) 0 (fun k => k ≤ g.nc ∧ ∀ j, j < k → g.co1 j = true) (fun k => g.nc - k) 0 (fun _ => rfl) (by simp) (by simp [go_sem]) (by simp [go_sem]) ?_
  intro k J hi
  by_cases hlt : k < g.nc
  rotate_left
  · simp [go_sem, hlt]
    exact all_yes fun j hj => hi.2 j (by omega)
  have no : g.co1 k = false → g.cos = false := fun hf => all_no hlt hf
  have yes : g.co1 k = true → (k + 1 ≤ g.nc ∧ ∀ j, j < k + 1 → g.co1 j = true) := fun ht =>
    ⟨by omega, fun j hj => by
      by_cases hjk : j = k
      · subst hjk; exact ht
      · exact hi.2 j (by omega)⟩
  simp [go_sem, hlt]
  refine call_val (ofCase69 (g.c k)) rfl rfl ?_
  simp [go_sem]
  refine GDraw_all T_ok (by kernel_rfl) (by kernel_rfl) ?_
  by_cases h1 : (g.c k).b ≤ (g.c k).a
  · simp [go_sem, h1]
    exact no (by simp [EG.co1, EG.prB]; omega)
  have h1' : decide ((g.c k).a < (g.c k).b) = true := decide_eq_true (by omega)
  have ta := there63 g h D hD (g.c k).a
  by_cases h2 : g.th (g.c k).a = true
  rotate_left
  · have h2' : g.th (g.c k).a = false := by simpa using h2
    simp [go_sem, h1]
    refine ⟨_, dcall_val (ta.val (v' := .b false) (by rw [h2'])) rfl rfl, ?_⟩
    simp [go_sem]
    exact no (by simp [EG.co1, EG.prB, h2'])
  have tb := there63 g h D hD (g.c k).b
  by_cases h3 : g.th (g.c k).b = true
  rotate_left
  · have h3' : g.th (g.c k).b = false := by simpa using h3
    simp [go_sem, h1]
    refine ⟨_, dcall_val (ta.val (v' := .b true) (by rw [h2])) rfl rfl, ?_⟩
    simp [go_sem]
    refine ⟨_, dcall_val (tb.val (v' := .b false) (by rw [h3'])) rfl rfl, ?_⟩
    simp [go_sem]
    exact no (by simp [EG.co1, EG.prB, h3'])
  have hp : g.prB (g.c k).a (g.c k).b = true := by simp [EG.prB, h2, h3]; omega
  have ta := ta.val (v' := .b true) (by rw [h2])
  have tb := tb.val (v' := .b true) (by rw [h3])
  by_cases h0 : k = 0
  · subst h0
    simp [go_sem, h1]
    refine ⟨_, dcall_val ta rfl rfl, ?_⟩
    simp [go_sem]
    refine ⟨_, dcall_val tb rfl rfl, ?_⟩
    simp [go_sem]
    obtain ⟨y1, y2⟩ := yes (by simp [EG.co1, hp])
    exact ⟨1, ⟨y1, y2⟩, by omega, by omega⟩
  have h0' : 0 < k := by omega
  have hk1 : (k : Int) - 1 = ((k - 1 : Nat) : Int) := by omega
  have hk2 : k - 1 < g.nc := by omega
  have hk3 : ((k - 1 : Nat) : Int) ≤ 9223372036854775807 := by omega
  have ov := order122 (g.c (k - 1)).a (g.c (k - 1)).b (g.c k).a (g.c k).b
  by_cases hb : 0 ≤ ordI (g.c (k - 1)).a (g.c (k - 1)).b (g.c k).a (g.c k).b
  · have hb' : befB (g.c (k - 1)).a (g.c (k - 1)).b (g.c k).a (g.c k).b = false := by
      have := ordI_neg (a := (g.c (k - 1)).a) (b := (g.c (k - 1)).b) (c := (g.c k).a) (d := (g.c k).b)
      cases hh : befB (g.c (k - 1)).a (g.c (k - 1)).b (g.c k).a (g.c k).b with
      | false => rfl
      | true => have := this.2 hh; omega
    simp [go_sem, h1]
    refine ⟨_, dcall_val ta rfl rfl, ?_⟩
    simp [go_sem]
    refine ⟨_, dcall_val tb rfl rfl, ?_⟩
    simp [go_sem, h0', hk1, hk2, hk3]
    refine ⟨_, dcall_val (ofCase69 (g.c (k - 1))) rfl rfl, ?_⟩
    simp [go_sem]
    refine ⟨_, dcall_val ov rfl rfl, ?_⟩
    simp [go_sem, hb]
    exact no (by simp [EG.co1, hb', h0])
  · have hb' : befB (g.c (k - 1)).a (g.c (k - 1)).b (g.c k).a (g.c k).b = true := ordI_neg.1 (by omega)
    simp [go_sem, h1]
    refine ⟨_, dcall_val ta rfl rfl, ?_⟩
    simp [go_sem]
    refine ⟨_, dcall_val tb rfl rfl, ?_⟩
    simp [go_sem, h0', hk1, hk2, hk3]
    refine ⟨_, dcall_val (ofCase69 (g.c (k - 1))) rfl rfl, ?_⟩
    simp [go_sem]
    refine ⟨_, dcall_val ov rfl rfl, ?_⟩
    simp [go_sem, hb]
    exact ⟨by omega, k + 1, yes (by simp [EG.co1, hp, hb']), by omega, by omega⟩

theorem valid112 (n : Nat) (v : Nat → VtG) (hn : n ≤ 1000000000) : Pure Try.prog 112 [.r (.rs 2 n fun i j => (v i).c j)] (· = .b (votB n v)) := by
  refine pure_of_GC T_ok Try.func112 rfl (by kernel_rfl) (Nat.le_of_ble_eq_true rfl) rfl rfl ?_
  by_cases h1 : n < 1
  · have h1' : n = 0 := by omega
    subst h1'
    simp [go_sem, votB]
  by_cases h2 : 2 < n
  · have h1' : ¬ (n : Int) < 1 := by omega
    have h2' : 2 < (n : Int) := by omega
    have h3 : ¬ n ≤ 2 := by omega
    simp [go_sem, h1', h2', votB, h3]
  have h1' : ¬ (n : Int) < 1 := by omega
  have h2' : ¬ 2 < (n : Int) := by omega
  have hc := contains80 n hn (fun i j => (v i).c j) 138 [] rfl (fun i => !btw 0 7 (v i).o) fun i _ => strange138 (v i)
  have ha : (List.range n).any (fun i => !btw 0 7 (v i).o) = !((List.range n).all fun i => btw 0 7 (v i).o) := by
    rw [List.all_eq_not_any_not]; simp
  rw [ha] at hc
  simp [go_sem, h1', h2']
  refine call_val hc rfl rfl ?_
  cases hA : (List.range n).all fun i => btw 0 7 (v i).o with
  | false => simp [go_sem, votB, hA]
  | true =>
    by_cases e1 : n = 1
    · subst e1
      simp [go_sem]
      simp only [votB, hA]
      simp
    · have e2 : n = 2 := by omega
      subst e2
      simp [go_sem]
      refine GDraw_all T_ok (by kernel_rfl) (by kernel_rfl) ?_
      by_cases e3 : (v 0).o = (v 1).o
      · simp [go_sem, e3]
        simp [votB, e3]
      · simp [go_sem, e3]
        simp only [votB, hA]
        simp [e3]
end Go.Gx
