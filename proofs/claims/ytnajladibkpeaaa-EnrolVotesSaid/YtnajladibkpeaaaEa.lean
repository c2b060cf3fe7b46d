/-
  Registers: what they read as; the reference's There, pair, Before.
-/
import Derived.Test.YtnajladibkpeaaaTt
import Derived.Test.YtnajladibkpeaaaK6
set_option linter.unusedVariables false
set_option linter.unusedSimpArgs false
set_option maxRecDepth 20000
set_option maxHeartbeats 2000000
namespace Go.Gx
open Go.RowKit Go.Proofs Go.Proofs.Ytnajladibkpeaaa

structure RcG where
  q : Int
  g : Bool
structure LkG where
  a : Int
  b : Int
  s : Bool
structure VtG where
  o : Int
  s : Bool
structure CsG where
  a : Int
  b : Int
  nv : Nat
  v : Nat → VtG
structure EG where
  nr : Nat
  r : Nat → RcG
  nl : Nat
  l : Nat → LkG
  nc : Nat
  c : Nat → CsG
def RcG.c (x : RcG) : Nat → RV
  | 0 => .i x.q
  | _ => .v (.bool x.g)
def LkG.c (x : LkG) : Nat → RV
  | 0 => .i x.a
  | 1 => .i x.b
  | _ => .v (.bool x.s)
def VtG.c (x : VtG) : Nat → RV
  | 0 => .i x.o
  | _ => .v (.bool x.s)
def CsG.c (x : CsG) : Nat → RV
  | 0 => .i x.a
  | 1 => .i x.b
  | _ => .rs 2 x.nv fun i j => (x.v i).c j
@[go_sem] theorem RcG.c0 (x : RcG) : x.c 0 = .i x.q := rfl
@[go_sem] theorem RcG.c1 (x : RcG) : x.c 1 = .v (.bool x.g) := rfl
@[go_sem] theorem LkG.c0 (x : LkG) : x.c 0 = .i x.a := rfl
@[go_sem] theorem LkG.c1 (x : LkG) : x.c 1 = .i x.b := rfl
@[go_sem] theorem LkG.c2 (x : LkG) : x.c 2 = .v (.bool x.s) := rfl
@[go_sem] theorem VtG.c0 (x : VtG) : x.c 0 = .i x.o := rfl
@[go_sem] theorem VtG.c1 (x : VtG) : x.c 1 = .v (.bool x.s) := rfl
@[go_sem] theorem CsG.c0 (x : CsG) : x.c 0 = .i x.a := rfl
@[go_sem] theorem CsG.c1 (x : CsG) : x.c 1 = .i x.b := rfl
@[go_sem] theorem CsG.c2 (x : CsG) : x.c 2 = .rs 2 x.nv fun i j => (x.v i).c j := rfl
abbrev EG.rr (g : EG) : SV := .r (.rs 2 g.nr fun i j => (g.r i).c j)
abbrev EG.ll (g : EG) : SV := .r (.rs 3 g.nl fun i j => (g.l i).c j)
abbrev EG.cc (g : EG) : SV := .r (.rs 3 g.nc fun i j => (g.c i).c j)
abbrev EG.sv (g : EG) : SV := .agg [g.rr, g.ll, g.cc]
abbrev EG.bx (g : EG) : Option Reg := some (.box [g.rr, g.ll, g.cc])
structure EG.OK (g : EG) : Prop where
  nr : g.nr ≤ 1000000000
  nl : g.nl ≤ 1000000000
  nc : g.nc ≤ 1000000000
  nv : ∀ i, i < g.nc → (g.c i).nv ≤ 1000000000

def btw (lo hi n : Int) : Bool := decide (lo ≤ n) && decide (n ≤ hi)
theorem within62 (n lo hi : Int) : Pure Try.prog 62 [.i n, .i lo, .i hi] (· = .b (btw lo hi n)) := by
  refine pure_of_GC T_ok Try.func62 rfl (by kernel_rfl) (Nat.le_of_ble_eq_true rfl) rfl rfl ?_
  by_cases h : lo ≤ n <;> simp [go_sem, btw, h]
def befB (a b c d : Int) : Bool := decide (a < c) || decide (a = c) && decide (b < d)
theorem before130 (a b c d : Int) : Pure Try.prog 130 [.i a, .i b, .i c, .i d] (· = .b (befB a b c d)) := by
  refine pure_of_GC T_ok Try.func130 rfl (by kernel_rfl) (Nat.le_of_ble_eq_true rfl) rfl rfl ?_
  by_cases h : a < c
  · simp [go_sem, befB, h]
  · by_cases h2 : a = c <;> simp [go_sem, befB, h, h2]

/-- A record is there. -/
def EG.th (g : EG) (a : Int) : Bool := btw 0 (g.nr - 1) a && !(g.r a.toNat).g
theorem EG.th_iff {g : EG} {a : Int} : g.th a = true ↔ 0 ≤ a ∧ a < g.nr ∧ (g.r a.toNat).g = false := by
  simp only [EG.th, btw, Bool.and_eq_true, decide_eq_true_eq, Bool.not_eq_true']
  constructor
  · rintro ⟨⟨h1, h2⟩, h3⟩; exact ⟨h1, by omega, h3⟩
  · rintro ⟨h1, h2, h3⟩; exact ⟨⟨h1, by omega⟩, h3⟩
theorem there50 (g : EG) (h : g.OK) (a : Int) : Pure Try.prog 50 [g.sv, .i a] (· = .b (g.th a)) := by
  refine pure_of_GC T_ok Try.func50 rfl (by kernel_rfl) (Nat.le_of_ble_eq_true rfl) rfl rfl ?_
  have := h.nr
  simp [go_sem]
  refine ⟨by omega, ?_⟩
  refine call_val (within62 a 0 (g.nr - 1)) rfl rfl ?_
  by_cases hb : btw 0 (g.nr - 1) a = true
  · have hb' := hb
    simp [btw] at hb'
    simp [go_sem, hb, EG.th]
    omega
  · simp [go_sem, hb, EG.th]
def EG.prB (g : EG) (a b : Int) : Bool := g.th a && g.th b && decide (a < b)
theorem pair135 (g : EG) (h : g.OK) (a b : Int) : Pure Try.prog 135 [g.sv, .i a, .i b] (· = .b (g.prB a b)) := by
  refine pure_of_GC T_ok Try.func135 rfl (by kernel_rfl) (Nat.le_of_ble_eq_true rfl) rfl rfl ?_
  simp [go_sem]
  refine call_val (there50 g h a) rfl rfl ?_
  unfold EG.prB
  cases g.th a
  · simp [go_sem]
  simp [go_sem]
  refine call_val (there50 g h b) rfl rfl ?_
  cases g.th b <;> simp [go_sem]
def EG.great (g : EG) : Bool := decide (30 < g.nr) || decide (60 < g.nl) || decide (45 < g.nc) || (List.range g.nc).any fun i => decide (5 < (g.c i).nv)
theorem great12 (g : EG) (h : g.OK) : Pure Try.prog 12 [g.sv] (· = .b g.great) := by
  refine pure_of_GC T_ok Try.func12 rfl (by kernel_rfl) (Nat.le_of_ble_eq_true rfl) rfl rfl ?_
  by_cases h1 : 30 < g.nr
  · have h1' : 30 < (g.nr : Int) := by omega
    simp [go_sem, h1', EG.great, h1]
  have h1' : ¬ 30 < (g.nr : Int) := by omega
  by_cases h2 : 60 < g.nl
  · have h2' : 60 < (g.nl : Int) := by omega
    simp [go_sem, h1', h2', EG.great, h2]
  have h2' : ¬ 60 < (g.nl : Int) := by omega
  by_cases h3 : 45 < g.nc
  · have h3' : 45 < (g.nc : Int) := by omega
    simp [go_sem, h1', h2', h3', EG.great, h3]
  have h3' : ¬ 45 < (g.nc : Int) := by omega
  simp [go_sem, h1', h2', h3']
  refine GLoop_of T_ok (α := Nat) (fun k => [(1, .ptr 0 0 3 0), (3, .i k)]) (fun _ => [g.bx]) 1 (fun k => k ≤ g.nc ∧ ∀ j, j < k → ¬ 5 < (g.c j).nv) (fun k => g.nc - k) 0 (fun _ => rfl) (by simp) (by simp [go_sem]) (by simp [go_sem]) ?_
  intro k J hi
  by_cases hlt : k < g.nc
  · by_cases h5 : 5 < (g.c k).nv
    · have h5' : 5 < ((g.c k).nv : Int) := by omega
      simp [go_sem, hlt, h5']
      simp [EG.great]
      exact .inr ⟨k, hlt, h5⟩
    · have h5' : ¬ 5 < ((g.c k).nv : Int) := by omega
      simp [go_sem, hlt, h5']
      refine ⟨by omega, k + 1, ⟨by omega, fun j hj => ?_⟩, by omega, by simp⟩
      by_cases hjk : j = k
      · subst hjk; omega
      · have := hi.2 j (by omega)
        omega
  · simp [go_sem, hlt]
    simp only [EG.great, h1, h2, h3]
    simp
    intro x hx
    have := hi.2 x (by omega)
    omega
end Go.Gx
