/-
  Contracts of the small functions of rights and of its reference.
-/
import Derived.Test.YtaggojedpkddjaaGreatTt
import Derived.Test.YtaggojedpkddjaaGreatKs
set_option linter.unusedVariables false
set_option linter.unusedSimpArgs false
namespace Go.Gx.Rg
open Go.RowKit Go.Proofs Go.Proofs.YtaggojedpkddjaaGreat

theorem isNaN132 (x : Int) : Pure Tryz.prog 81 [.i x] (· = .b false) := by
  refine pure_of_GC T_ok Tryz.func81 rfl (by kernel_rfl) (Nat.le_of_ble_eq_true rfl) rfl rfl ?_
  simp [go_sem]
def cmpI (x y : Int) : Int := if x < y then -1 else if y < x then 1 else 0
theorem compare97 (x y : Int) : Pure Tryz.prog 54 [.i x, .i y] (· = .i (cmpI x y)) := by
  refine pure_of_GC T_ok Tryz.func54 rfl (by kernel_rfl) (Nat.le_of_ble_eq_true rfl) rfl rfl ?_
  simp [go_sem]
  refine call_val (isNaN132 x) rfl rfl ?_
  simp [go_sem]
  refine call_val (isNaN132 y) rfl rfl ?_
  simp [go_sem, cmpI]
  split
  · intro h; omega
  · split <;> rfl
theorem from117 (n lo hi : Int) (g g' : Nat → Nat → RV) (h : g 0 0 = .i lo) (h' : g' 0 0 = .i hi) : Pure Tryz.prog 65 [.i n, .r (.rp 1 1 g 0 0), .r (.rp 1 1 g' 0 0)] (· = .b (decide (n < lo) || decide (hi < n))) := by
  refine pure_of_GC T_ok Tryz.func65 rfl (by kernel_rfl) (Nat.le_of_ble_eq_true rfl) rfl rfl ?_
  simp [go_sem, h, h']
  split
  · intro h; omega
  · left; omega

def idx (p : Nat → Bool) (n : Nat) : Int := match (List.range n).find? p with | some i => i | none => -1
theorem idx_found {p : Nat → Bool} {n i : Nat} (h : i < n) (hp : p i = true) (hj : ∀ j, j < i → p j = false) : idx p n = i := by
  have : (List.range n).find? p = some i := List.find?_range_eq_some.2 ⟨hp, List.mem_range.2 h, fun j hj' => by simp [hj j hj']⟩
  simp [idx, this]
theorem idx_none {p : Nat → Bool} {n : Nat} (hj : ∀ j, j < n → p j = false) : idx p n = -1 := by
  have : (List.range n).find? p = none := List.find?_eq_none.2 fun j hj' => by simp [hj j (List.mem_range.1 hj')]
  simp [idx, this]
theorem idx_any {p : Nat → Bool} {n : Nat} : decide (0 ≤ idx p n) = (List.range n).any p := by
  unfold idx
  cases h : (List.range n).find? p with
  | none =>
    have := List.find?_eq_none.1 h
    simp
    intro x hx
    simpa using this x (List.mem_range.2 hx)
  | some i =>
    have := List.find?_range_eq_some.1 h
    simp
    exact ⟨i, List.mem_range.1 this.2.1, this.1⟩

theorem idx135 (n : Nat) (hn : (n : Int) < 2 ^ 63) (get : Nat → Nat → RV) (g : FuncId) (ca : List SV) (p : Nat → Bool) (hca : SV.closedL ca = true) (hp : ∀ i, i < n → Pure Tryz.prog g (.r (get i 0) :: ca) (· = .b (p i))) :
    Pure Tryz.prog 90 [.r (.rs 1 n get), .fn (.func g) [] ca] (· = .i (idx p n)) := by
  refine pure_of_GC T_ok Tryz.func90 rfl (by kernel_rfl) (Nat.le_of_ble_eq_true rfl) rfl rfl ?_
  simp [go_sem]
  refine GLoop_of T_ok (α := Nat) (fun i => [(0, .r (.rs 1 n get)), (1, .fn (.func g) [] ca), (7, .i n), (8, .i i)]) (fun _ => []) 0 (fun i => i ≤ n ∧ ∀ j, j < i → p j = false) (fun i => n - i) 0 (fun _ => rfl) (by simp) (by simp [go_sem, SV.trimL_closed 0 ca hca]) (by simp [go_sem]) ?_
  intro i J hi
  simp [go_sem]
  split
  · rename_i hlt
    refine ⟨hlt, ?_⟩
    refine call_val (hp i hlt) (by simp [SV.closedL, SV.closed, hca]) rfl ?_
    simp [go_sem]
    split
    · rename_i hpi
      rw [idx_found hlt hpi hi.2]
    · rename_i hpi
      refine ⟨by omega, i + 1, ⟨by omega, fun j hj => ?_⟩, by omega, ?_⟩
      · by_cases hji : j = i
        · subst hji; simpa using hpi
        · exact hi.2 j (by omega)
      · simp [SV.trimL_closed 0 ca hca]
  · rename_i hlt
    rw [idx_none fun j hj => hi.2 j (by omega)]
theorem has116 (n : Nat) (hn : (n : Int) < 2 ^ 63) (get : Nat → Nat → RV) (g : FuncId) (ca : List SV) (p : Nat → Bool) (hca : SV.closedL ca = true) (hp : ∀ i, i < n → Pure Tryz.prog g (.r (get i 0) :: ca) (· = .b (p i))) :
    Pure Tryz.prog 64 [.r (.rs 1 n get), .fn (.func g) [] ca] (· = .b ((List.range n).any p)) := by
  refine pure_of_GC T_ok Tryz.func64 rfl (by kernel_rfl) (Nat.le_of_ble_eq_true rfl) rfl rfl ?_
  simp [go_sem]
  refine call_val (idx135 n hn get g ca p hca hp) (by simp [SV.closedL, SV.closed, hca]) rfl ?_
  simp [go_sem]
  exact idx_any

theorem idx109 (n : Nat) (hn : (n : Int) < 2 ^ 63) (get : Nat → Nat → RV) (g : FuncId) (ca : List SV) (p : Nat → Bool) (hca : SV.closedL ca = true) (hp : ∀ i, i < n → Pure Tryz.prog g (.agg [.r (get i 0), .r (get i 1), .r (get i 2), .r (get i 3), .r (get i 4), .r (get i 5), .r (get i 6), .r (get i 7)] :: ca) (· = .b (p i))) :
    Pure Tryz.prog 76 [.r (.rs 8 n get), .fn (.func g) [] ca] (· = .i (idx p n)) := by
  refine pure_of_GC T_ok Tryz.func76 rfl (by kernel_rfl) (Nat.le_of_ble_eq_true rfl) rfl rfl ?_
  simp [go_sem]
  refine GLoop_of T_ok (α := Nat) (fun i => [(0, .r (.rs 8 n get)), (1, .fn (.func g) [] ca), (7, .i n), (8, .i i)]) (fun _ => []) 0 (fun i => i ≤ n ∧ ∀ j, j < i → p j = false) (fun i => n - i) 0 (fun _ => rfl) (by simp) (by simp [go_sem, SV.trimL_closed 0 ca hca]) (by simp [go_sem]) ?_
  intro i J hi
  simp [go_sem]
  split
  · rename_i hlt
    refine ⟨hlt, ?_⟩
    refine call_val (hp i hlt) (by simp [SV.closedL, SV.closed, hca]) rfl ?_
    simp [go_sem]
    split
    · rename_i hpi
      rw [idx_found hlt hpi hi.2]
    · rename_i hpi
      refine ⟨by omega, i + 1, ⟨by omega, fun j hj => ?_⟩, by omega, ?_⟩
      · by_cases hji : j = i
        · subst hji; simpa using hpi
        · exact hi.2 j (by omega)
      · simp [SV.trimL_closed 0 ca hca]
  · rename_i hlt
    rw [idx_none fun j hj => hi.2 j (by omega)]
theorem has118 (n : Nat) (hn : (n : Int) < 2 ^ 63) (get : Nat → Nat → RV) (g : FuncId) (ca : List SV) (p : Nat → Bool) (hca : SV.closedL ca = true) (hp : ∀ i, i < n → Pure Tryz.prog g (.agg [.r (get i 0), .r (get i 1), .r (get i 2), .r (get i 3), .r (get i 4), .r (get i 5), .r (get i 6), .r (get i 7)] :: ca) (· = .b (p i))) :
    Pure Tryz.prog 82 [.r (.rs 8 n get), .fn (.func g) [] ca] (· = .b ((List.range n).any p)) := by
  refine pure_of_GC T_ok Tryz.func82 rfl (by kernel_rfl) (Nat.le_of_ble_eq_true rfl) rfl rfl ?_
  simp [go_sem]
  refine call_val (idx109 n hn get g ca p hca hp) (by simp [SV.closedL, SV.closed, hca]) rfl ?_
  simp [go_sem]
  exact idx_any

theorem idx110 (n : Nat) (hn : (n : Int) < 2 ^ 63) (get : Nat → Nat → RV) (g : FuncId) (ca : List SV) (p : Nat → Bool) (hca : SV.closedL ca = true) (hp : ∀ i, i < n → Pure Tryz.prog g (.agg [.r (get i 0), .r (get i 1), .r (get i 2)] :: ca) (· = .b (p i))) :
    Pure Tryz.prog 77 [.r (.rs 3 n get), .fn (.func g) [] ca] (· = .i (idx p n)) := by
  refine pure_of_GC T_ok Tryz.func77 rfl (by kernel_rfl) (Nat.le_of_ble_eq_true rfl) rfl rfl ?_
  simp [go_sem]
  refine GLoop_of T_ok (α := Nat) (fun i => [(0, .r (.rs 3 n get)), (1, .fn (.func g) [] ca), (7, .i n), (8, .i i)]) (fun _ => []) 0 (fun i => i ≤ n ∧ ∀ j, j < i → p j = false) (fun i => n - i) 0 (fun _ => rfl) (by simp) (by simp [go_sem, SV.trimL_closed 0 ca hca]) (by simp [go_sem]) ?_
  intro i J hi
  simp [go_sem]
  split
  · rename_i hlt
    refine ⟨hlt, ?_⟩
    refine call_val (hp i hlt) (by simp [SV.closedL, SV.closed, hca]) rfl ?_
    simp [go_sem]
    split
    · rename_i hpi
      rw [idx_found hlt hpi hi.2]
    · rename_i hpi
      refine ⟨by omega, i + 1, ⟨by omega, fun j hj => ?_⟩, by omega, ?_⟩
      · by_cases hji : j = i
        · subst hji; simpa using hpi
        · exact hi.2 j (by omega)
      · simp [SV.trimL_closed 0 ca hca]
  · rename_i hlt
    rw [idx_none fun j hj => hi.2 j (by omega)]
theorem has120 (n : Nat) (hn : (n : Int) < 2 ^ 63) (get : Nat → Nat → RV) (g : FuncId) (ca : List SV) (p : Nat → Bool) (hca : SV.closedL ca = true) (hp : ∀ i, i < n → Pure Tryz.prog g (.agg [.r (get i 0), .r (get i 1), .r (get i 2)] :: ca) (· = .b (p i))) :
    Pure Tryz.prog 84 [.r (.rs 3 n get), .fn (.func g) [] ca] (· = .b ((List.range n).any p)) := by
  refine pure_of_GC T_ok Tryz.func84 rfl (by kernel_rfl) (Nat.le_of_ble_eq_true rfl) rfl rfl ?_
  simp [go_sem]
  refine call_val (idx110 n hn get g ca p hca hp) (by simp [SV.closedL, SV.closed, hca]) rfl ?_
  simp [go_sem]
  exact idx_any

theorem idx111 (n : Nat) (hn : (n : Int) < 2 ^ 63) (get : Nat → Nat → RV) (g : FuncId) (ca : List SV) (p : Nat → Bool) (hca : SV.closedL ca = true) (hp : ∀ i, i < n → Pure Tryz.prog g (.agg [.r (get i 0), .r (get i 1), .r (get i 2), .r (get i 3)] :: ca) (· = .b (p i))) :
    Pure Tryz.prog 78 [.r (.rs 4 n get), .fn (.func g) [] ca] (· = .i (idx p n)) := by
  refine pure_of_GC T_ok Tryz.func78 rfl (by kernel_rfl) (Nat.le_of_ble_eq_true rfl) rfl rfl ?_
  simp [go_sem]
  refine GLoop_of T_ok (α := Nat) (fun i => [(0, .r (.rs 4 n get)), (1, .fn (.func g) [] ca), (7, .i n), (8, .i i)]) (fun _ => []) 0 (fun i => i ≤ n ∧ ∀ j, j < i → p j = false) (fun i => n - i) 0 (fun _ => rfl) (by simp) (by simp [go_sem, SV.trimL_closed 0 ca hca]) (by simp [go_sem]) ?_
  intro i J hi
  simp [go_sem]
  split
  · rename_i hlt
    refine ⟨hlt, ?_⟩
    refine call_val (hp i hlt) (by simp [SV.closedL, SV.closed, hca]) rfl ?_
    simp [go_sem]
    split
    · rename_i hpi
      rw [idx_found hlt hpi hi.2]
    · rename_i hpi
      refine ⟨by omega, i + 1, ⟨by omega, fun j hj => ?_⟩, by omega, ?_⟩
      · by_cases hji : j = i
        · subst hji; simpa using hpi
        · exact hi.2 j (by omega)
      · simp [SV.trimL_closed 0 ca hca]
  · rename_i hlt
    rw [idx_none fun j hj => hi.2 j (by omega)]
theorem has122 (n : Nat) (hn : (n : Int) < 2 ^ 63) (get : Nat → Nat → RV) (g : FuncId) (ca : List SV) (p : Nat → Bool) (hca : SV.closedL ca = true) (hp : ∀ i, i < n → Pure Tryz.prog g (.agg [.r (get i 0), .r (get i 1), .r (get i 2), .r (get i 3)] :: ca) (· = .b (p i))) :
    Pure Tryz.prog 86 [.r (.rs 4 n get), .fn (.func g) [] ca] (· = .b ((List.range n).any p)) := by
  refine pure_of_GC T_ok Tryz.func86 rfl (by kernel_rfl) (Nat.le_of_ble_eq_true rfl) rfl rfl ?_
  simp [go_sem]
  refine call_val (idx111 n hn get g ca p hca hp) (by simp [SV.closedL, SV.closed, hca]) rfl ?_
  simp [go_sem]
  exact idx_any

theorem idx112 (n : Nat) (hn : (n : Int) < 2 ^ 63) (get : Nat → Nat → RV) (g : FuncId) (ca : List SV) (p : Nat → Bool) (hca : SV.closedL ca = true) (hp : ∀ i, i < n → Pure Tryz.prog g (.agg [.r (get i 0), .r (get i 1), .r (get i 2), .r (get i 3), .r (get i 4)] :: ca) (· = .b (p i))) :
    Pure Tryz.prog 79 [.r (.rs 5 n get), .fn (.func g) [] ca] (· = .i (idx p n)) := by
  refine pure_of_GC T_ok Tryz.func79 rfl (by kernel_rfl) (Nat.le_of_ble_eq_true rfl) rfl rfl ?_
  simp [go_sem]
  refine GLoop_of T_ok (α := Nat) (fun i => [(0, .r (.rs 5 n get)), (1, .fn (.func g) [] ca), (7, .i n), (8, .i i)]) (fun _ => []) 0 (fun i => i ≤ n ∧ ∀ j, j < i → p j = false) (fun i => n - i) 0 (fun _ => rfl) (by simp) (by simp [go_sem, SV.trimL_closed 0 ca hca]) (by simp [go_sem]) ?_
  intro i J hi
  simp [go_sem]
  split
  · rename_i hlt
    refine ⟨hlt, ?_⟩
    refine call_val (hp i hlt) (by simp [SV.closedL, SV.closed, hca]) rfl ?_
    simp [go_sem]
    split
    · rename_i hpi
      rw [idx_found hlt hpi hi.2]
    · rename_i hpi
      refine ⟨by omega, i + 1, ⟨by omega, fun j hj => ?_⟩, by omega, ?_⟩
      · by_cases hji : j = i
        · subst hji; simpa using hpi
        · exact hi.2 j (by omega)
      · simp [SV.trimL_closed 0 ca hca]
  · rename_i hlt
    rw [idx_none fun j hj => hi.2 j (by omega)]
theorem has124 (n : Nat) (hn : (n : Int) < 2 ^ 63) (get : Nat → Nat → RV) (g : FuncId) (ca : List SV) (p : Nat → Bool) (hca : SV.closedL ca = true) (hp : ∀ i, i < n → Pure Tryz.prog g (.agg [.r (get i 0), .r (get i 1), .r (get i 2), .r (get i 3), .r (get i 4)] :: ca) (· = .b (p i))) :
    Pure Tryz.prog 88 [.r (.rs 5 n get), .fn (.func g) [] ca] (· = .b ((List.range n).any p)) := by
  refine pure_of_GC T_ok Tryz.func88 rfl (by kernel_rfl) (Nat.le_of_ble_eq_true rfl) rfl rfl ?_
  simp [go_sem]
  refine call_val (idx112 n hn get g ca p hca hp) (by simp [SV.closedL, SV.closed, hca]) rfl ?_
  simp [go_sem]
  exact idx_any

theorem from69 (lo hi : Int) (n : Nat) (hn : (n : Int) < 2 ^ 63) (x : Nat → Int) :
    Pure Tryz.prog 22 [.i lo, .i hi, .r (.rs 1 n fun i _ => .i (x i))] (· = .b ((List.range n).all fun i => decide (lo ≤ x i) && decide (x i ≤ hi))) := by
  refine pure_of_GC T_ok Tryz.func22 rfl (by kernel_rfl) (Nat.le_of_ble_eq_true rfl) rfl rfl ?_
  simp [go_sem]
  refine call_lent (v := .b ((List.range n).any fun i => decide (x i < lo) || decide (hi < x i))) ?_ rfl ?_
  · simp [go_sem]
    refine has116 n hn _ (65 : FuncId) _ _ rfl fun i hi' => ?_
    exact from117 (x i) lo hi _ _ rfl rfl
  · simp [go_sem]
    rw [List.not_all_eq_any_not]
    congr 1; funext i
    by_cases h1 : lo ≤ x i <;> by_cases h2 : x i ≤ hi <;> simp [h1, h2] <;> omega
theorem kinds95 (n : Nat) (hn : (n : Int) < 2 ^ 63) (x : Nat → Int) :
    Pure Tryz.prog 52 [.r (.rs 1 n fun i _ => .i (x i))] (· = .b ((List.range n).all fun i => decide (0 ≤ x i) && decide (x i ≤ 7))) := by
  refine pure_of_GC T_ok Tryz.func52 rfl (by kernel_rfl) (Nat.le_of_ble_eq_true rfl) rfl rfl ?_
  simp [go_sem]
  refine call_val (from69 0 7 n hn x) rfl rfl ?_
  simp [go_sem]
theorem times48 (n : Nat) (hn : (n : Int) < 2 ^ 63) (x : Nat → Int) :
    Pure Tryz.prog 33 [.r (.rs 1 n fun i _ => .i (x i))] (· = .b ((List.range n).all fun i => decide (0 ≤ x i) && decide (x i ≤ 1099511627776))) := by
  refine pure_of_GC T_ok Tryz.func33 rfl (by kernel_rfl) (Nat.le_of_ble_eq_true rfl) rfl rfl ?_
  simp [go_sem]
  refine call_val (from69 0 1099511627776 n hn x) rfl rfl ?_
  simp [go_sem]
theorem people60 (n : Nat) (hn : (n : Int) < 2 ^ 63) (x : Nat → Int) :
    Pure Tryz.prog 42 [.r (.rs 1 n fun i _ => .i (x i))] (· = .b ((List.range n).all fun i => decide (0 ≤ x i) && decide (x i ≤ 63))) := by
  refine pure_of_GC T_ok Tryz.func42 rfl (by kernel_rfl) (Nat.le_of_ble_eq_true rfl) rfl rfl ?_
  simp [go_sem]
  refine call_val (from69 0 63 n hn x) rfl rfl ?_
  simp [go_sem]
def btw (lo hi n : Int) : Bool := decide (lo ≤ n) && decide (n ≤ hi)
abbrev kindB := btw 0 7
abbrev timeB := btw 0 1099511627776
abbrev persB := btw 0 63
section
variable {get : Nat → Nat → RV} {a b c lo hi : Int}
theorem leL2 {s s' : SV} {l l' : List SV} (h : leL l l') : leL (s :: s' :: l) (s :: s' :: l') := ⟨SV.le.rfl, SV.le.rfl, h⟩
theorem le1 (h0 : get 0 0 = .i a) : leL [.r (.rs 1 1 get)] [.r (.rs 1 1 fun i _ => .i (match i with | _ => a))] :=
  ⟨le_rs fun i j hi hj => by have := lt1 hi; have := lt1 hj; subst_vars; exact h0, trivial⟩
theorem le2 (h0 : get 0 0 = .i a) (h1 : get 1 0 = .i b) : leL [.r (.rs 1 2 get)] [.r (.rs 1 2 fun i _ => .i (match i with | 0 => a | _ => b))] :=
  ⟨le_rs fun i j hi hj => by
    have := lt1 hj
    rcases (by omega : i = 0 ∨ i = 1) with h | h <;> subst_vars
    · exact h0
    · exact h1, trivial⟩
theorem le3 (h0 : get 0 0 = .i a) (h1 : get 1 0 = .i b) (h2 : get 2 0 = .i c) : leL [.r (.rs 1 3 get)] [.r (.rs 1 3 fun i _ => .i (match i with | 0 => a | 1 => b | _ => c))] :=
  ⟨le_rs fun i j hi hj => by
    have := lt1 hj
    rcases (by omega : i = 0 ∨ i = 1 ∨ i = 2) with h | h | h <;> subst_vars
    · exact h0
    · exact h1
    · exact h2, trivial⟩
theorem kinds1 (h0 : get 0 0 = .i a) : Pure Tryz.prog 52 [.r (.rs 1 1 get)] (· = .b (kindB a)) := ((kinds95 1 (by decide) _).args (le1 h0)).val (by simp [List.range_succ, btw])
theorem kinds3 (h0 : get 0 0 = .i a) (h1 : get 1 0 = .i b) (h2 : get 2 0 = .i c) : Pure Tryz.prog 52 [.r (.rs 1 3 get)] (· = .b (kindB a && kindB b && kindB c)) := ((kinds95 3 (by decide) _).args (le3 h0 h1 h2)).val (by simp [List.range_succ, btw, Bool.and_assoc])
theorem times1 (h0 : get 0 0 = .i a) : Pure Tryz.prog 33 [.r (.rs 1 1 get)] (· = .b (timeB a)) := ((times48 1 (by decide) _).args (le1 h0)).val (by simp [List.range_succ, btw])
theorem times2 (h0 : get 0 0 = .i a) (h1 : get 1 0 = .i b) : Pure Tryz.prog 33 [.r (.rs 1 2 get)] (· = .b (timeB a && timeB b)) := ((times48 2 (by decide) _).args (le2 h0 h1)).val (by simp [List.range_succ, btw])
theorem people1 (h0 : get 0 0 = .i a) : Pure Tryz.prog 42 [.r (.rs 1 1 get)] (· = .b (persB a)) := ((people60 1 (by decide) _).args (le1 h0)).val (by simp [List.range_succ, btw])
theorem from1 (h0 : get 0 0 = .i a) : Pure Tryz.prog 22 [.i lo, .i hi, .r (.rs 1 1 get)] (· = .b (btw lo hi a)) := ((from69 lo hi 1 (by decide) _).args (leL2 (le1 h0))).val (by simp [List.range_succ, btw])
theorem from2 (h0 : get 0 0 = .i a) (h1 : get 1 0 = .i b) : Pure Tryz.prog 22 [.i lo, .i hi, .r (.rs 1 2 get)] (· = .b (btw lo hi a && btw lo hi b)) := ((from69 lo hi 2 (by decide) _).args (leL2 (le2 h0 h1))).val (by simp [List.range_succ, btw])
end
theorem or115 (n : Nat) (hn : (n : Int) < 2 ^ 63) (x : Nat → Int) :
    Pure Tryz.prog 63 [.r (.rs 1 n fun i _ => .i (x i))] (· = .i (((List.range n).find? fun i => decide (x i ≠ 0)).elim 0 x)) := by
  refine pure_of_GC T_ok Tryz.func63 rfl (by kernel_rfl) (Nat.le_of_ble_eq_true rfl) rfl rfl ?_
  simp [go_sem]
  refine GLoop_of T_ok (α := Nat) (fun i => [(3, .i 0), (6, .r (.rs 1 n fun i _ => .i (x i))), (7, .i n), (8, .i i)]) (fun _ => []) 0 (fun i => i ≤ n ∧ ∀ j, j < i → x j = 0) (fun i => n - i) 0 (fun _ => rfl) (by simp) (by simp [go_sem]) (by simp [go_sem]) ?_
  intro i J hi
  simp [go_sem]
  split
  · rename_i hlt
    refine ⟨hlt, ?_⟩
    split
    · rename_i h0
      exact ⟨by omega, i + 1, ⟨by omega, fun j hj => by
        by_cases hji : j = i
        · subst hji; exact h0
        · exact hi.2 j (by omega)⟩, by omega, by simp⟩
    · rename_i h0
      have : (List.range n).find? (fun i => !decide (x i = 0)) = some i := List.find?_range_eq_some.2 ⟨by simpa using h0, List.mem_range.2 hlt, fun j hj => by simp [hi.2 j hj]⟩
      rw [this]; rfl
  · rename_i hlt
    have : (List.range n).find? (fun i => !decide (x i = 0)) = none := List.find?_eq_none.2 fun j hj => by simp [hi.2 j (by have := List.mem_range.1 hj; omega)]
    rw [this]; rfl
def lex (a b : Int) : Int := if a = 0 then b else a
theorem or2 {get : Nat → Nat → RV} {a b : Int} (h0 : get 0 0 = .i a) (h1 : get 1 0 = .i b) : Pure Tryz.prog 63 [.r (.rs 1 2 get)] (· = .i (lex a b)) :=
  ((or115 2 (by decide) _).args (le2 h0 h1)).val (by
    by_cases ha : a = 0 <;> by_cases hb : b = 0 <;> simp [List.range_succ, lex, ha, hb])
set_option maxRecDepth 20000
set_option maxHeartbeats 1000000
theorem less79 (a b c d e f : Int) : Pure Tryz.prog 30 [.agg [.i a, .i b, .i c], .agg [.i d, .i e, .i f]] (· = .i (lex (cmpI a d) (cmpI b e))) := by
  refine pure_of_GC T_ok Tryz.func30 rfl (by kernel_rfl) (Nat.le_of_ble_eq_true rfl) rfl rfl ?_
  simp [go_sem]
  refine GDraw_of T_ok (by kernel_rfl) 10 (by kernel_rfl) rfl rfl ?_
  simp [go_sem]
  refine ⟨_, dcall_val (compare97 a d) rfl rfl, _, dcall_val (compare97 b e) rfl rfl, ?_⟩
  simp [go_sem]
  refine call_lent (v := .i (lex (cmpI a d) (cmpI b e))) ?_ rfl ?_
  · simp [go_sem]
    exact or2 rfl rfl
  · simp [go_sem]
end Go.Gx.Rg
