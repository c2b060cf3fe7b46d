/-
  Contracts of rights: what is good.
-/
import Derived.Test.YtaggojedpkddjaaGreatRa
set_option linter.unusedVariables false
set_option linter.unusedSimpArgs false
set_option maxRecDepth 20000
set_option maxHeartbeats 1000000
namespace Go.Gx.Rg
open Go.RowKit Go.Proofs Go.Proofs.YtaggojedpkddjaaGreat

/-! ### the rows, as they lie in memory -/
structure RuleG where
  (p r l f t k s b : Int)
structure ConG where
  (p q u : Int)
structure WarG where
  (l p f t : Int)
structure MarkG where
  (l p s u n : Int)
def RuleG.c (x : RuleG) : Nat → RV
  | 0 => .i x.p
  | 1 => .i x.r
  | 2 => .i x.l
  | 3 => .i x.f
  | 4 => .i x.t
  | 5 => .i x.k
  | 6 => .i x.s
  | 7 => .v (.int .u8 x.b)
  | _ => .any
@[go_sem] theorem RuleG.c0 (x : RuleG) : x.c 0 = .i x.p := rfl
@[go_sem] theorem RuleG.c1 (x : RuleG) : x.c 1 = .i x.r := rfl
@[go_sem] theorem RuleG.c2 (x : RuleG) : x.c 2 = .i x.l := rfl
@[go_sem] theorem RuleG.c3 (x : RuleG) : x.c 3 = .i x.f := rfl
@[go_sem] theorem RuleG.c4 (x : RuleG) : x.c 4 = .i x.t := rfl
@[go_sem] theorem RuleG.c5 (x : RuleG) : x.c 5 = .i x.k := rfl
@[go_sem] theorem RuleG.c6 (x : RuleG) : x.c 6 = .i x.s := rfl
@[go_sem] theorem RuleG.c7 (x : RuleG) : x.c 7 = .v (.int .u8 x.b) := rfl
abbrev RuleG.sv (x : RuleG) : SV := .agg [.i x.p, .i x.r, .i x.l, .i x.f, .i x.t, .i x.k, .i x.s, .r (.v (.int .u8 x.b))]
abbrev RuleG.rs (n : Nat) (x : Nat → RuleG) : SV := .r (.rs 8 n fun i j => (x i).c j)
def ConG.c (x : ConG) : Nat → RV
  | 0 => .i x.p
  | 1 => .i x.q
  | 2 => .i x.u
  | _ => .any
@[go_sem] theorem ConG.c0 (x : ConG) : x.c 0 = .i x.p := rfl
@[go_sem] theorem ConG.c1 (x : ConG) : x.c 1 = .i x.q := rfl
@[go_sem] theorem ConG.c2 (x : ConG) : x.c 2 = .i x.u := rfl
abbrev ConG.sv (x : ConG) : SV := .agg [.i x.p, .i x.q, .i x.u]
abbrev ConG.rs (n : Nat) (x : Nat → ConG) : SV := .r (.rs 3 n fun i j => (x i).c j)
def WarG.c (x : WarG) : Nat → RV
  | 0 => .i x.l
  | 1 => .i x.p
  | 2 => .i x.f
  | 3 => .i x.t
  | _ => .any
@[go_sem] theorem WarG.c0 (x : WarG) : x.c 0 = .i x.l := rfl
@[go_sem] theorem WarG.c1 (x : WarG) : x.c 1 = .i x.p := rfl
@[go_sem] theorem WarG.c2 (x : WarG) : x.c 2 = .i x.f := rfl
@[go_sem] theorem WarG.c3 (x : WarG) : x.c 3 = .i x.t := rfl
abbrev WarG.sv (x : WarG) : SV := .agg [.i x.l, .i x.p, .i x.f, .i x.t]
abbrev WarG.rs (n : Nat) (x : Nat → WarG) : SV := .r (.rs 4 n fun i j => (x i).c j)
def MarkG.c (x : MarkG) : Nat → RV
  | 0 => .i x.l
  | 1 => .i x.p
  | 2 => .i x.s
  | 3 => .i x.u
  | 4 => .i x.n
  | _ => .any
@[go_sem] theorem MarkG.c0 (x : MarkG) : x.c 0 = .i x.l := rfl
@[go_sem] theorem MarkG.c1 (x : MarkG) : x.c 1 = .i x.p := rfl
@[go_sem] theorem MarkG.c2 (x : MarkG) : x.c 2 = .i x.s := rfl
@[go_sem] theorem MarkG.c3 (x : MarkG) : x.c 3 = .i x.u := rfl
@[go_sem] theorem MarkG.c4 (x : MarkG) : x.c 4 = .i x.n := rfl
abbrev MarkG.sv (x : MarkG) : SV := .agg [.i x.l, .i x.p, .i x.s, .i x.u, .i x.n]
abbrev MarkG.rs (n : Nat) (x : Nat → MarkG) : SV := .r (.rs 5 n fun i j => (x i).c j)

def RuleG.good (x : RuleG) : Bool := kindB x.p && kindB x.r && kindB x.l && (timeB x.f && timeB x.t) && decide (x.f < x.t) && btw 1 2 x.k && (btw 1 3 x.s && btw 1 3 x.b)
def ConG.good (x : ConG) : Bool := persB x.p && kindB x.q && timeB x.u
def WarG.good (x : WarG) : Bool := kindB x.l && persB x.p && (timeB x.f && timeB x.t) && decide (x.f < x.t)
def MarkG.good (x : MarkG) : Bool := kindB x.l && persB x.p && (timeB x.s && timeB x.u) && decide (x.s < x.u) && btw 0 1000 x.n
def RuleG.byte (x : RuleG) : Prop := 0 ≤ x.b ∧ x.b < 256

theorem wrap_u8 (h : Int) (hh : 0 ≤ h ∧ h < 256) : IntKind.i64.wrap h = h := by
  unfold IntKind.wrap; simp [IntKind.bits]; omega
theorem goodConsent73 (x : ConG) : Pure Tryz.prog 27 [x.sv] (· = .b x.good) := by
  refine pure_of_GC T_ok Tryz.func27 rfl (by kernel_rfl) (Nat.le_of_ble_eq_true rfl) rfl rfl ?_
  obtain ⟨a0, h0⟩ : ∃ a, (persB x.p) = a := ⟨_, rfl⟩
  obtain ⟨a1, h1⟩ : ∃ a, (kindB x.q) = a := ⟨_, rfl⟩
  obtain ⟨a2, h2⟩ : ∃ a, (timeB x.u) = a := ⟨_, rfl⟩
  have hg : x.good = (a0 && a1 && a2) := by rw [ConG.good, h0, h1, h2]
  rw [hg]
  clear hg
  simp [go_sem]
  refine call_lent (v := .b a0) (by simp [go_sem]; rw [← h0]; exact people1 rfl) rfl ?_
  cases a0
  · simp [go_sem]
  simp [go_sem]
  refine call_lent (v := .b a1) (by simp [go_sem]; rw [← h1]; exact kinds1 rfl) rfl ?_
  cases a1
  · simp [go_sem]
  simp [go_sem]
  refine call_lent (v := .b a2) (by simp [go_sem]; rw [← h2]; exact times1 rfl) rfl ?_
  cases a2
  · simp [go_sem]
  simp [go_sem]
theorem goodRule71 (x : RuleG) (hh : x.byte) : Pure Tryz.prog 56 [x.sv] (· = .b x.good) := by
  refine pure_of_GC T_ok Tryz.func56 rfl (by kernel_rfl) (Nat.le_of_ble_eq_true rfl) rfl rfl ?_
  obtain ⟨a0, h0⟩ : ∃ a, (kindB x.p && kindB x.r && kindB x.l) = a := ⟨_, rfl⟩
  obtain ⟨a1, h1⟩ : ∃ a, (timeB x.f && timeB x.t) = a := ⟨_, rfl⟩
  obtain ⟨a3, h3⟩ : ∃ a, (btw 1 2 x.k) = a := ⟨_, rfl⟩
  obtain ⟨a4, h4⟩ : ∃ a, (btw 1 3 x.s && btw 1 3 x.b) = a := ⟨_, rfl⟩
  have hg : x.good = (a0 && a1 && decide (x.f < x.t) && a3 && a4) := by rw [RuleG.good, h0, h1, h3, h4]
  rw [hg]
  clear hg
  simp [go_sem]
  refine call_lent (v := .b a0) (by simp [go_sem, wrap_u8 x.b hh]; rw [← h0]; exact kinds3 rfl rfl rfl) rfl ?_
  cases a0
  · simp [go_sem]
  simp [go_sem]
  refine call_lent (v := .b a1) (by simp [go_sem, wrap_u8 x.b hh]; rw [← h1]; exact times2 rfl rfl) rfl ?_
  cases a1
  · simp [go_sem]
  simp [go_sem]
  by_cases hc : x.f < x.t
  rotate_left
  · simp [go_sem, hc]
  simp [go_sem, hc]
  refine call_lent (v := .b a3) (by simp [go_sem, wrap_u8 x.b hh]; rw [← h3]; exact from1 rfl) rfl ?_
  cases a3
  · simp [go_sem]
  simp [go_sem]
  refine call_lent (v := .b a4) (by simp [go_sem, wrap_u8 x.b hh]; rw [← h4]; exact from2 rfl rfl) rfl ?_
  cases a4
  · simp [go_sem]
  simp [go_sem]
theorem goodWarrant75 (x : WarG) : Pure Tryz.prog 59 [x.sv] (· = .b x.good) := by
  refine pure_of_GC T_ok Tryz.func59 rfl (by kernel_rfl) (Nat.le_of_ble_eq_true rfl) rfl rfl ?_
  obtain ⟨a0, h0⟩ : ∃ a, (kindB x.l) = a := ⟨_, rfl⟩
  obtain ⟨a1, h1⟩ : ∃ a, (persB x.p) = a := ⟨_, rfl⟩
  obtain ⟨a2, h2⟩ : ∃ a, (timeB x.f && timeB x.t) = a := ⟨_, rfl⟩
  have hg : x.good = (a0 && a1 && a2 && decide (x.f < x.t)) := by rw [WarG.good, h0, h1, h2]
  rw [hg]
  clear hg
  simp [go_sem]
  refine call_lent (v := .b a0) (by simp [go_sem]; rw [← h0]; exact kinds1 rfl) rfl ?_
  cases a0
  · simp [go_sem]
  simp [go_sem]
  refine call_lent (v := .b a1) (by simp [go_sem]; rw [← h1]; exact people1 rfl) rfl ?_
  cases a1
  · simp [go_sem]
  simp [go_sem]
  refine call_lent (v := .b a2) (by simp [go_sem]; rw [← h2]; exact times2 rfl rfl) rfl ?_
  cases a2
  · simp [go_sem]
  simp [go_sem]
theorem goodMark77 (x : MarkG) : Pure Tryz.prog 46 [x.sv] (· = .b x.good) := by
  refine pure_of_GC T_ok Tryz.func46 rfl (by kernel_rfl) (Nat.le_of_ble_eq_true rfl) rfl rfl ?_
  obtain ⟨a0, h0⟩ : ∃ a, (kindB x.l) = a := ⟨_, rfl⟩
  obtain ⟨a1, h1⟩ : ∃ a, (persB x.p) = a := ⟨_, rfl⟩
  obtain ⟨a2, h2⟩ : ∃ a, (timeB x.s && timeB x.u) = a := ⟨_, rfl⟩
  obtain ⟨a4, h4⟩ : ∃ a, (btw 0 1000 x.n) = a := ⟨_, rfl⟩
  have hg : x.good = (a0 && a1 && a2 && decide (x.s < x.u) && a4) := by rw [MarkG.good, h0, h1, h2, h4]
  rw [hg]
  clear hg
  simp [go_sem]
  refine call_lent (v := .b a0) (by simp [go_sem]; rw [← h0]; exact kinds1 rfl) rfl ?_
  cases a0
  · simp [go_sem]
  simp [go_sem]
  refine call_lent (v := .b a1) (by simp [go_sem]; rw [← h1]; exact people1 rfl) rfl ?_
  cases a1
  · simp [go_sem]
  simp [go_sem]
  refine call_lent (v := .b a2) (by simp [go_sem]; rw [← h2]; exact times2 rfl rfl) rfl ?_
  cases a2
  · simp [go_sem]
  simp [go_sem]
  by_cases hc : x.s < x.u
  rotate_left
  · simp [go_sem, hc]
  simp [go_sem, hc]
  refine call_lent (v := .b a4) (by simp [go_sem]; rw [← h4]; exact from1 rfl) rfl ?_
  cases a4
  · simp [go_sem]
  simp [go_sem]
theorem not119 (g : FuncId) (x : RuleG) (p : Bool) (hp : Pure Tryz.prog g [x.sv] (· = .b p)) (gt : Nat → Nat → RV) (h : gt 0 0 = .fn (.func g) 0 0 (fun _ => .any) fun _ => .any) : Pure Tryz.prog 83 [x.sv, .r (.rp 1 1 gt 0 0)] (· = .b (!p)) := by
  refine pure_of_GC T_ok Tryz.func83 rfl (by kernel_rfl) (Nat.le_of_ble_eq_true rfl) rfl rfl ?_
  simp [go_sem, h]
  refine call_val hp rfl rfl ?_
  simp [go_sem]
theorem allRule70 (n : Nat) (hn : (n : Int) < 2 ^ 63) (x : Nat → RuleG) (most : Int) (g : FuncId) (p : Nat → Bool) (hp : ∀ i, i < n → Pure Tryz.prog g [(x i).sv] (· = .b (p i))) :
    Pure Tryz.prog 55 [RuleG.rs n x, .i most, .fn (.func g) [] []] (· = .b (decide ((n : Int) ≤ most) && (List.range n).all p)) := by
  refine pure_of_GC T_ok Tryz.func55 rfl (by kernel_rfl) (Nat.le_of_ble_eq_true rfl) rfl rfl ?_
  simp [go_sem]
  split
  · rename_i hle
    refine call_lent (v := .b ((List.range n).any fun i => !p i)) ?_ rfl ?_
    · simp [go_sem]
      exact has118 n hn (fun i j => (x i).c j) (83 : FuncId) _ _ rfl fun i hi' => not119 g (x i) (p i) (hp i hi') _ rfl
    · simp [go_sem]
      simp [hle, List.not_all_eq_any_not]
  · rename_i hle
    simp [hle]

theorem not121 (g : FuncId) (x : ConG) (p : Bool) (hp : Pure Tryz.prog g [x.sv] (· = .b p)) (gt : Nat → Nat → RV) (h : gt 0 0 = .fn (.func g) 0 0 (fun _ => .any) fun _ => .any) : Pure Tryz.prog 85 [x.sv, .r (.rp 1 1 gt 0 0)] (· = .b (!p)) := by
  refine pure_of_GC T_ok Tryz.func85 rfl (by kernel_rfl) (Nat.le_of_ble_eq_true rfl) rfl rfl ?_
  simp [go_sem, h]
  refine call_val hp rfl rfl ?_
  simp [go_sem]
theorem allConsent72 (n : Nat) (hn : (n : Int) < 2 ^ 63) (x : Nat → ConG) (most : Int) (g : FuncId) (p : Nat → Bool) (hp : ∀ i, i < n → Pure Tryz.prog g [(x i).sv] (· = .b (p i))) :
    Pure Tryz.prog 57 [ConG.rs n x, .i most, .fn (.func g) [] []] (· = .b (decide ((n : Int) ≤ most) && (List.range n).all p)) := by
  refine pure_of_GC T_ok Tryz.func57 rfl (by kernel_rfl) (Nat.le_of_ble_eq_true rfl) rfl rfl ?_
  simp [go_sem]
  split
  · rename_i hle
    refine call_lent (v := .b ((List.range n).any fun i => !p i)) ?_ rfl ?_
    · simp [go_sem]
      exact has120 n hn (fun i j => (x i).c j) (85 : FuncId) _ _ rfl fun i hi' => not121 g (x i) (p i) (hp i hi') _ rfl
    · simp [go_sem]
      simp [hle, List.not_all_eq_any_not]
  · rename_i hle
    simp [hle]

theorem not123 (g : FuncId) (x : WarG) (p : Bool) (hp : Pure Tryz.prog g [x.sv] (· = .b p)) (gt : Nat → Nat → RV) (h : gt 0 0 = .fn (.func g) 0 0 (fun _ => .any) fun _ => .any) : Pure Tryz.prog 87 [x.sv, .r (.rp 1 1 gt 0 0)] (· = .b (!p)) := by
  refine pure_of_GC T_ok Tryz.func87 rfl (by kernel_rfl) (Nat.le_of_ble_eq_true rfl) rfl rfl ?_
  simp [go_sem, h]
  refine call_val hp rfl rfl ?_
  simp [go_sem]
theorem allWarrant74 (n : Nat) (hn : (n : Int) < 2 ^ 63) (x : Nat → WarG) (most : Int) (g : FuncId) (p : Nat → Bool) (hp : ∀ i, i < n → Pure Tryz.prog g [(x i).sv] (· = .b (p i))) :
    Pure Tryz.prog 58 [WarG.rs n x, .i most, .fn (.func g) [] []] (· = .b (decide ((n : Int) ≤ most) && (List.range n).all p)) := by
  refine pure_of_GC T_ok Tryz.func58 rfl (by kernel_rfl) (Nat.le_of_ble_eq_true rfl) rfl rfl ?_
  simp [go_sem]
  split
  · rename_i hle
    refine call_lent (v := .b ((List.range n).any fun i => !p i)) ?_ rfl ?_
    · simp [go_sem]
      exact has122 n hn (fun i j => (x i).c j) (87 : FuncId) _ _ rfl fun i hi' => not123 g (x i) (p i) (hp i hi') _ rfl
    · simp [go_sem]
      simp [hle, List.not_all_eq_any_not]
  · rename_i hle
    simp [hle]

theorem not125 (g : FuncId) (x : MarkG) (p : Bool) (hp : Pure Tryz.prog g [x.sv] (· = .b p)) (gt : Nat → Nat → RV) (h : gt 0 0 = .fn (.func g) 0 0 (fun _ => .any) fun _ => .any) : Pure Tryz.prog 89 [x.sv, .r (.rp 1 1 gt 0 0)] (· = .b (!p)) := by
  refine pure_of_GC T_ok Tryz.func89 rfl (by kernel_rfl) (Nat.le_of_ble_eq_true rfl) rfl rfl ?_
  simp [go_sem, h]
  refine call_val hp rfl rfl ?_
  simp [go_sem]
theorem allMark76 (n : Nat) (hn : (n : Int) < 2 ^ 63) (x : Nat → MarkG) (most : Int) (g : FuncId) (p : Nat → Bool) (hp : ∀ i, i < n → Pure Tryz.prog g [(x i).sv] (· = .b (p i))) :
    Pure Tryz.prog 60 [MarkG.rs n x, .i most, .fn (.func g) [] []] (· = .b (decide ((n : Int) ≤ most) && (List.range n).all p)) := by
  refine pure_of_GC T_ok Tryz.func60 rfl (by kernel_rfl) (Nat.le_of_ble_eq_true rfl) rfl rfl ?_
  simp [go_sem]
  split
  · rename_i hle
    refine call_lent (v := .b ((List.range n).any fun i => !p i)) ?_ rfl ?_
    · simp [go_sem]
      exact has124 n hn (fun i j => (x i).c j) (89 : FuncId) _ _ rfl fun i hi' => not125 g (x i) (p i) (hp i hi') _ rfl
    · simp [go_sem]
      simp [hle, List.not_all_eq_any_not]
  · rename_i hle
    simp [hle]

theorem less68 (x y : MarkG) : Pure Tryz.prog 21 [x.sv, y.sv] (· = .i (lex (cmpI x.l y.l) (cmpI x.p y.p))) := by
  refine pure_of_GC T_ok Tryz.func21 rfl (by kernel_rfl) (Nat.le_of_ble_eq_true rfl) rfl rfl ?_
  simp [go_sem]
  refine GDraw_of T_ok (by kernel_rfl) 10 (by kernel_rfl) rfl rfl ?_
  simp [go_sem]
  refine ⟨_, dcall_val (compare97 x.l y.l) rfl rfl, _, dcall_val (compare97 x.p y.p) rfl rfl, ?_⟩
  simp [go_sem]
  refine call_lent (v := .i (lex (cmpI x.l y.l) (cmpI x.p y.p))) ?_ rfl ?_
  · simp [go_sem]
    exact or2 rfl rfl
  · simp [go_sem]
end Go.Gx.Rg
