/-
  Registers: what they read as; the reference's There, pair, Before.
-/
import Derived.Test.YtnajladibkpeaaaGreatTt
import Derived.Test.YtnajladibkpeaaaGreatK5
set_option linter.unusedVariables false
set_option linter.unusedSimpArgs false
set_option maxRecDepth 20000
set_option maxHeartbeats 2000000
namespace Go.Gx
open Go.RowKit Go.Proofs Go.Proofs.YtnajladibkpeaaaGreat

structure RcG where
  q : Int
  g : Bool
structure LkG where
  a : Int
  b : Int
  s : Bool
structure VtG where
  o : Int
  s : Bool
structure CsG where
  a : Int
  b : Int
  nv : Nat
  v : Nat → VtG
structure EG where
  nr : Nat
  r : Nat → RcG
  nl : Nat
  l : Nat → LkG
  nc : Nat
  c : Nat → CsG
def RcG.c (x : RcG) : Nat → RV
  | 0 => .i x.q
  | _ => .v (.bool x.g)
def LkG.c (x : LkG) : Nat → RV
  | 0 => .i x.a
  | 1 => .i x.b
  | _ => .v (.bool x.s)
def VtG.c (x : VtG) : Nat → RV
  | 0 => .i x.o
  | _ => .v (.bool x.s)
def CsG.c (x : CsG) : Nat → RV
  | 0 => .i x.a
  | 1 => .i x.b
  | _ => .rs 2 x.nv fun i j => (x.v i).c j
@[go_sem] theorem RcG.c0 (x : RcG) : x.c 0 = .i x.q := rfl
@[go_sem] theorem RcG.c1 (x : RcG) : x.c 1 = .v (.bool x.g) := rfl
@[go_sem] theorem LkG.c0 (x : LkG) : x.c 0 = .i x.a := rfl
@[go_sem] theorem LkG.c1 (x : LkG) : x.c 1 = .i x.b := rfl
@[go_sem] theorem LkG.c2 (x : LkG) : x.c 2 = .v (.bool x.s) := rfl
@[go_sem] theorem VtG.c0 (x : VtG) : x.c 0 = .i x.o := rfl
@[go_sem] theorem VtG.c1 (x : VtG) : x.c 1 = .v (.bool x.s) := rfl
@[go_sem] theorem CsG.c0 (x : CsG) : x.c 0 = .i x.a := rfl
@[go_sem] theorem CsG.c1 (x : CsG) : x.c 1 = .i x.b := rfl
@[go_sem] theorem CsG.c2 (x : CsG) : x.c 2 = .rs 2 x.nv fun i j => (x.v i).c j := rfl
abbrev EG.rr (g : EG) : SV := .r (.rs 2 g.nr fun i j => (g.r i).c j)
abbrev EG.ll (g : EG) : SV := .r (.rs 3 g.nl fun i j => (g.l i).c j)
abbrev EG.cc (g : EG) : SV := .r (.rs 3 g.nc fun i j => (g.c i).c j)
abbrev EG.sv (g : EG) : SV := .agg [g.rr, g.ll, g.cc]
abbrev EG.bx (g : EG) : Option Reg := some (.box [g.rr, g.ll, g.cc])
structure EG.OK (g : EG) : Prop where
  nr : g.nr ≤ 1000000000
  nl : g.nl ≤ 1000000000
  nc : g.nc ≤ 1000000000
  nv : ∀ i, i < g.nc → (g.c i).nv ≤ 1000000000

def btw (lo hi n : Int) : Bool := decide (lo ≤ n) && decide (n ≤ hi)
def befB (a b c d : Int) : Bool := decide (a < c) || decide (a = c) && decide (b < d)
def EG.th (g : EG) (a : Int) : Bool := btw 0 (g.nr - 1) a && !(g.r a.toNat).g
theorem EG.th_iff {g : EG} {a : Int} : g.th a = true ↔ 0 ≤ a ∧ a < g.nr ∧ (g.r a.toNat).g = false := by
  simp only [EG.th, btw, Bool.and_eq_true, decide_eq_true_eq, Bool.not_eq_true']
  constructor
  · rintro ⟨⟨h1, h2⟩, h3⟩; exact ⟨h1, by omega, h3⟩
  · rintro ⟨h1, h2, h3⟩; exact ⟨⟨h1, by omega⟩, h3⟩
def EG.prB (g : EG) (a b : Int) : Bool := g.th a && g.th b && decide (a < b)
def EG.great (g : EG) : Bool := decide (30 < g.nr) || decide (60 < g.nl) || decide (45 < g.nc) || (List.range g.nc).any fun i => decide (5 < (g.c i).nv)
theorem great12 (g : EG) (h : g.OK) : Pure Tryz.prog 13 [g.sv] (· = .b g.great) := by
  refine pure_of_GC T_ok Tryz.func13 rfl (by kernel_rfl) (Nat.le_of_ble_eq_true rfl) rfl rfl ?_
  by_cases h1 : 30 < g.nr
  · have h1' : 30 < (g.nr : Int) := by omega
    simp [go_sem, h1', EG.great, h1]
  have h1' : ¬ 30 < (g.nr : Int) := by omega
  by_cases h2 : 60 < g.nl
  · have h2' : 60 < (g.nl : Int) := by omega
    simp [go_sem, h1', h2', EG.great, h2]
  have h2' : ¬ 60 < (g.nl : Int) := by omega
  by_cases h3 : 45 < g.nc
  · have h3' : 45 < (g.nc : Int) := by omega
    simp [go_sem, h1', h2', h3', EG.great, h3]
  have h3' : ¬ 45 < (g.nc : Int) := by omega
  simp [go_sem, h1', h2', h3']
  refine GLoop_of T_ok (α := Nat) (fun k => [(1, .ptr 0 0 3 0), (3, .i k)]) (fun _ => [g.bx]) 1 (fun k => k ≤ g.nc ∧ ∀ j, j < k → ¬ 5 < (g.c j).nv) (fun k => g.nc - k) 0 (fun _ => rfl) (by simp) (by simp [go_sem]) (by simp [go_sem]) ?_
  intro k J hi
  by_cases hlt : k < g.nc
  · by_cases h5 : 5 < (g.c k).nv
    · have h5' : 5 < ((g.c k).nv : Int) := by omega
      simp [go_sem, hlt, h5']
      simp [EG.great]
      exact .inr ⟨k, hlt, h5⟩
    · have h5' : ¬ 5 < ((g.c k).nv : Int) := by omega
      simp [go_sem, hlt, h5']
      refine ⟨by omega, k + 1, ⟨by omega, fun j hj => ?_⟩, by omega, by simp⟩
      by_cases hjk : j = k
      · subst hjk; omega
      · have := hi.2 j (by omega)
        omega
  · simp [go_sem, hlt]
    simp only [EG.great, h1, h2, h3]
    simp
    intro x hx
    have := hi.2 x (by omega)
    omega
end Go.Gx
/-
  The reference: links, Find, votes, cases.
-/
set_option linter.unusedVariables false
set_option linter.unusedSimpArgs false
set_option maxRecDepth 20000
set_option maxHeartbeats 4000000
namespace Go.Gx
open Go.RowKit Go.Proofs Go.Proofs.YtnajladibkpeaaaGreat

theorem all_yes {n : Nat} {p : Nat → Bool} (h : ∀ i, i < n → p i = true) : (List.range n).all p = true := List.all_eq_true.2 fun i hi => h i (List.mem_range.1 hi)
theorem all_no {n k : Nat} {p : Nat → Bool} (hk : k < n) (h : p k = false) : (List.range n).all p = false := List.all_eq_false.2 ⟨k, List.mem_range.2 hk, by rw [h]; simp⟩
theorem all_get {n k : Nat} {p : Nat → Bool} (h : (List.range n).all p = true) (hk : k < n) : p k = true := List.all_eq_true.1 h k (List.mem_range.2 hk)
def LkG.lt (x y : LkG) : Bool := befB x.a x.b y.a y.b
/-- Link i is of a pair, and behind the one ahead of it. -/
def EG.lk1 (g : EG) (i : Nat) : Bool := g.prB (g.l i).a (g.l i).b && (decide (i = 0) || befB (g.l (i - 1)).a (g.l (i - 1)).b (g.l i).a (g.l i).b)
def EG.lks (g : EG) : Bool := (List.range g.nl).all g.lk1
def EG.fd (g : EG) (a b : Int) : Int := match (List.range g.nl).find? fun i => decide ((g.l i).a = a) && decide ((g.l i).b = b) with | some i => (i : Int) | none => -1
theorem EG.fd_at {g : EG} {a b : Int} {k : Nat} (hk : k < g.nl) (h1 : (g.l k).a = a) (h2 : (g.l k).b = b) (h : ∀ j, j < k → ((g.l j).a = a → ¬ (g.l j).b = b)) : g.fd a b = k := by
  have : (List.range g.nl).find? (fun i => decide ((g.l i).a = a) && decide ((g.l i).b = b)) = some k := by
    rw [List.find?_eq_some_iff_getElem]
    refine ⟨by simp [h1, h2], k, by simpa using hk, by simp, fun j hj => ?_⟩
    have := h j hj
    simp
    by_cases e : (g.l j).a = a
    · exact .inr (this e)
    · exact .inl e
  rw [EG.fd, this]
theorem EG.fd_no {g : EG} {a b : Int} (h : ∀ j, j < g.nl → ((g.l j).a = a → ¬ (g.l j).b = b)) : g.fd a b = -1 := by
  have : (List.range g.nl).find? (fun i => decide ((g.l i).a = a) && decide ((g.l i).b = b)) = none := by
    rw [List.find?_eq_none]
    intro j hj
    have := h j (List.mem_range.1 hj)
    simpa using this
  rw [EG.fd, this]
def votB (n : Nat) (v : Nat → VtG) : Bool := decide (1 ≤ n) && decide (n ≤ 2) && ((List.range n).all fun i => btw 0 7 (v i).o) && (decide (n = 1) || !decide ((v 0).o = (v 1).o) && !decide ((v 0).s = (v 1).s))
def EG.cs1 (g : EG) (i : Nat) : Bool := g.prB (g.c i).a (g.c i).b && (decide (i = 0) || befB (g.c (i - 1)).a (g.c (i - 1)).b (g.c i).a (g.c i).b) && !decide (0 ≤ g.fd (g.c i).a (g.c i).b) && votB (g.c i).nv (g.c i).v
def EG.css (g : EG) : Bool := decide (g.nc ≤ 40) && (List.range g.nc).all g.cs1
end Go.Gx
/-
  The reference: what is reached from a record.
-/
set_option linter.unusedVariables false
set_option linter.unusedSimpArgs false
set_option maxRecDepth 20000
set_option maxHeartbeats 4000000
namespace Go.Gx
open Go.RowKit Go.Proofs Go.Proofs.YtnajladibkpeaaaGreat

theorem Fit.of_regs {N : Cfg} {E : Env} {M : Mem} {nx : Nat} {S : List (Nat × SV)} {l : List (Option Reg)} {n : Nat} (hn : N.np ≤ n) (hl : l.length = n) (h : slotsS n E S) (hM : regsS 0 (trimM n M) l) : Fit N E M nx S (memL l) n :=
  Fit.of_slotsS hn h (regsS_memL hl hM)
@[go_sem] theorem SV.trim_ite (n : Nat) (c : Prop) [Decidable c] (x y : SV) : SV.trim n (if c then x else y) = if c then x.trim n else y.trim n := by split <;> rfl
@[go_sem] theorem SV.kill_ite (n : Nat) (c : Prop) [Decidable c] (x y : SV) : SV.kill n (if c then x else y) = if c then x.kill n else y.kill n := by split <;> rfl
@[go_sem] theorem SV.toRV_ite (c : Prop) [Decidable c] (x y : SV) : (if c then x else y).toRV = if c then x.toRV else y.toRV := by split <;> rfl
/-- Link j touches what has been reached, and record x. -/
def EG.hit (g : EG) (S : Nat → Bool) (x j : Nat) : Bool := (g.l j).s && (S (g.l j).a.toNat || S (g.l j).b.toNat) && (decide ((g.l j).a = (x : Int)) || decide ((g.l j).b = (x : Int)))
def EG.rpart (g : EG) (S : Nat → Bool) (i x : Nat) : Bool := S x || (List.range i).any (g.hit S x)
def EG.rc (g : EG) (a : Int) : Nat → Nat → Bool
  | 0, x => decide (a = (x : Int))
  | n + 1, x => g.rpart (g.rc a n) g.nl x
/-- The links' records are records. -/
def EG.inl (g : EG) : Prop := ∀ i, i < g.nl → 0 ≤ (g.l i).a ∧ (g.l i).a < g.nr ∧ 0 ≤ (g.l i).b ∧ (g.l i).b < g.nr
abbrev EG.rcs (g : EG) (a : Int) (k : Nat) : SV := .r (.rs 1 g.nr fun i _ => .v (.bool (g.rc a k i)))
theorem rpart_succ (g : EG) (S : Nat → Bool) (i x : Nat) : g.rpart S (i + 1) x = (g.rpart S i x || g.hit S x i) := by
  simp [EG.rpart, List.range_succ, Bool.or_assoc]

def EG.one (g : EG) (a b : Int) : Bool := g.rc a g.nr b.toNat
def EG.valid (g : EG) : Bool := decide (g.nr ≤ 24) && ((List.range g.nr).all fun i => btw 0 100 (g.r i).q) && g.lks && g.css && (List.range g.nl).all fun i => (g.l i).s || !g.one (g.l i).a (g.l i).b
theorem EG.inl_of {g : EG} (h : g.lks = true) : g.inl := fun i hi => by
  have := all_get h hi
  simp only [EG.lk1, EG.prB, Bool.and_eq_true] at this
  have h1 := EG.th_iff.1 this.1.1.1
  have h2 := EG.th_iff.1 this.1.1.2
  exact ⟨h1.1, h1.2.1, h2.1, h2.2.1⟩
end Go.Gx
/-
  The program: pairs, order, ContainsFunc, what is there, votes, binary search, ordered lists.
-/
set_option linter.unusedVariables false
set_option linter.unusedSimpArgs false
set_option maxRecDepth 20000
set_option maxHeartbeats 4000000
namespace Go.Gx
open Go.RowKit Go.Proofs Go.Proofs.YtnajladibkpeaaaGreat

attribute [go_sem] gvo gvoL gbox
theorem isNaN145 (x : Int) : Pure Tryz.prog 105 [.i x] (· = .b false) := by
  refine pure_of_GC T_ok Tryz.func105 rfl (by kernel_rfl) (Nat.le_of_ble_eq_true rfl) rfl rfl ?_
  simp [go_sem]
def cmpI (a b : Int) : Int := if a < b then -1 else if b < a then 1 else 0
theorem compare140 (a b : Int) : Pure Tryz.prog 100 [.i a, .i b] (· = .i (cmpI a b)) := by
  refine pure_of_GC T_ok Tryz.func100 rfl (by kernel_rfl) (Nat.le_of_ble_eq_true rfl) rfl rfl ?_
  simp [go_sem]
  refine call_val (isNaN145 a) rfl rfl ?_
  simp [go_sem]
  refine call_val (isNaN145 b) rfl rfl ?_
  by_cases h : a < b
  · simp [go_sem, cmpI, h]
  · by_cases h2 : b < a <;> simp [go_sem, cmpI, h, h2]
theorem or139 (get : Nat → Nat → RV) (x y : Int) (h0 : get 0 0 = .i x) (h1 : get 1 0 = .i y) : Pure Tryz.prog 99 [.r (.rs 1 2 get)] (· = .i (if x = 0 then y else x)) := by
  refine pure_of_GC T_ok Tryz.func99 rfl (by kernel_rfl) (Nat.le_of_ble_eq_true rfl) rfl rfl ?_
  simp [go_sem]
  refine GLoop_of T_ok (α := Nat) (fun k => [(3, .i 0), (6, .r (.rs 1 2 get)), (7, .i 2), (8, .i k)]) (fun _ => []) 0 (fun k => k ≤ 2 ∧ (1 ≤ k → x = 0) ∧ (2 ≤ k → y = 0)) (fun k => 2 - k) 0 (fun _ => rfl) (by simp) (by simp [go_sem]) (by simp [go_sem]) ?_
  rintro k J ⟨hk, a1, a2⟩
  rcases (show k = 0 ∨ k = 1 ∨ k = 2 by omega) with rfl | rfl | rfl
  · by_cases hx : x = 0
    · simp [go_sem, h0, hx]
      exact ⟨1, ⟨by omega, fun h => absurd h (by omega)⟩, by omega, by omega⟩
    · simp [go_sem, h0, hx]
  · have hx := a1 (by omega)
    by_cases hy : y = 0
    · simp [go_sem, h1, hx, hy]
      exact ⟨2, by omega, by omega, by omega⟩
    · simp [go_sem, h1, hx, hy]
  · have hx := a1 (by omega)
    have hy := a2 (by omega)
    simp [go_sem, hx, hy]
/-- How two pairs compare. -/
def ordI (a b c d : Int) : Int := if cmpI a c = 0 then cmpI b d else cmpI a c
theorem ordI_neg {a b c d : Int} : ordI a b c d < 0 ↔ befB a b c d = true := by
  unfold ordI cmpI befB
  simp only [Bool.or_eq_true, Bool.and_eq_true, decide_eq_true_eq]
  repeat' split
  all_goals omega
theorem ordI_zero {a b c d : Int} : ordI a b c d = 0 ↔ a = c ∧ b = d := by
  unfold ordI cmpI
  repeat' split
  all_goals omega
theorem order122 (a b c d : Int) : Pure Tryz.prog 84 [.agg [.i a, .i b], .agg [.i c, .i d]] (· = .i (ordI a b c d)) := by
  refine pure_of_GC T_ok Tryz.func84 rfl (by kernel_rfl) (Nat.le_of_ble_eq_true rfl) rfl rfl ?_
  simp [go_sem]
  refine GDraw_all T_ok (by kernel_rfl) (by kernel_rfl) ?_
  simp [go_sem]
  refine ⟨_, dcall_val (compare140 a c) rfl rfl, ?_⟩
  simp [go_sem]
  refine ⟨_, dcall_val (compare140 b d) rfl rfl, ?_⟩
  simp [go_sem]
  refine ⟨_, dcall_lent (v := .i (ordI a b c d)) (by simp [go_sem]; exact or139 _ (cmpI a c) (cmpI b d) rfl rfl) rfl, ?_⟩
  simp [go_sem]
theorem ofLink77 (x : LkG) : Pure Tryz.prog 45 [.agg [.i x.a, .i x.b, .b x.s]] (· = .agg [.i x.a, .i x.b]) := by
  refine pure_of_GC T_ok Tryz.func45 rfl (by kernel_rfl) (Nat.le_of_ble_eq_true rfl) rfl rfl ?_
  simp [go_sem]
theorem ofCase69 (x : CsG) : Pure Tryz.prog 47 [.agg [.i x.a, .i x.b, .r (x.c 2)]] (· = .agg [.i x.a, .i x.b]) := by
  refine pure_of_GC T_ok Tryz.func47 rfl (by kernel_rfl) (Nat.le_of_ble_eq_true rfl) rfl rfl ?_
  simp [go_sem]
theorem pairOf75 (a b : Int) : Pure Tryz.prog 43 [.i a, .i b] (· = .agg [.i (min a b), .i (max a b)]) := by
  refine pure_of_GC T_ok Tryz.func43 rfl (by kernel_rfl) (Nat.le_of_ble_eq_true rfl) rfl rfl ?_
  simp [go_sem]

/-- Where the first is, or -1. -/
def ixB (p : Nat → Bool) (n : Nat) : Int := match (List.range n).find? p with | some i => (i : Int) | none => -1
theorem ixB_at {p : Nat → Bool} {n k : Nat} (hk : k < n) (h : p k = true) (hj : ∀ j, j < k → p j = false) : ixB p n = k := by
  have : (List.range n).find? p = some k := by
    rw [List.find?_range_eq_some]
    exact ⟨h, List.mem_range.2 hk, fun j a => by rw [hj j a]; rfl⟩
  rw [ixB, this]
theorem ixB_no {p : Nat → Bool} {n : Nat} (h : ∀ j, j < n → p j = false) : ixB p n = -1 := by
  have : (List.range n).find? p = none := by
    rw [List.find?_eq_none]
    intro j hj
    rw [h j (List.mem_range.1 hj)]; simp
  rw [ixB, this]
theorem ixB_any {p : Nat → Bool} {n : Nat} : decide (0 ≤ ixB p n) = (List.range n).any p := by
  unfold ixB
  cases h : (List.range n).find? p with
  | none =>
    have h' := List.find?_eq_none.1 h
    have : (List.range n).any p = false := by
      rw [List.any_eq_false]; exact h'
    rw [this]; rfl
  | some i =>
    have h1 := List.find?_range_eq_some.1 h
    have : (List.range n).any p = true := List.any_eq_true.2 ⟨i, h1.2.1, h1.1⟩
    rw [this]; simp

theorem index134 (n : Nat) (hn : n ≤ 1000000000) (get : Nat → Nat → RV) (g : FuncId) (ca : List SV) (hca : SV.closedL ca = true) (p : Nat → Bool)
    (hp : ∀ i, i < n → Pure Tryz.prog g (.r (get i 0) :: ca) (· = .b (p i))) : Pure Tryz.prog 98 [.r (.rs 1 n get), .fn (.func g) [] ca] (· = .i (ixB p n)) := by
  refine pure_of_GC T_ok Tryz.func98 rfl (by kernel_rfl) (Nat.le_of_ble_eq_true rfl) rfl rfl ?_
  simp [go_sem]
  refine GLoop_of T_ok (α := Nat) (fun x => [(0, .r (.rs 1 n get)), (1, .fn (.func g) [] ca), (7, .i n), (8, .i x)]) (fun _ => []) 0 (fun x => x ≤ n ∧ ∀ j, j < x → p j = false) (fun x => n - x) 0 (fun _ => rfl) (by simp) (by simp [go_sem, SV.trimL_closed _ _ hca]) (by simp [go_sem]) ?_
  intro x J hi
  by_cases hlt : x < n
  · simp [go_sem, hlt]
    refine call_val (hp x hlt) (by simp [go_sem, hca]) rfl ?_
    by_cases hb : p x = true
    · simp [go_sem, hb]
      exact (ixB_at hlt hb hi.2).symm
    · have hb' : p x = false := by simpa using hb
      simp [go_sem, hb', SV.trimL_closed _ _ hca]
      refine ⟨by omega, x + 1, ⟨by omega, fun j hj => ?_⟩, by omega, by omega⟩
      by_cases hjx : j = x
      · subst hjx; exact hb'
      · exact hi.2 j (by omega)
  · simp [go_sem, hlt]
    exact (ixB_no fun j hj => hi.2 j (by omega)).symm
theorem contains102 (n : Nat) (hn : n ≤ 1000000000) (get : Nat → Nat → RV) (g : FuncId) (ca : List SV) (hca : SV.closedL ca = true) (p : Nat → Bool)
    (hp : ∀ i, i < n → Pure Tryz.prog g (.r (get i 0) :: ca) (· = .b (p i))) : Pure Tryz.prog 76 [.r (.rs 1 n get), .fn (.func g) [] ca] (· = .b ((List.range n).any p)) := by
  refine pure_of_GC T_ok Tryz.func76 rfl (by kernel_rfl) (Nat.le_of_ble_eq_true rfl) rfl rfl ?_
  simp [go_sem]
  refine call_val (index134 n hn get g ca hca p hp) (by simp [go_sem, hca]) rfl ?_
  simp [go_sem, ixB_any]

theorem index137 (n : Nat) (hn : n ≤ 1000000000) (get : Nat → Nat → RV) (g : FuncId) (ca : List SV) (hca : SV.closedL ca = true) (p : Nat → Bool)
    (hp : ∀ i, i < n → Pure Tryz.prog g (.agg [.r (get i 0), .r (get i 1)] :: ca) (· = .b (p i))) : Pure Tryz.prog 96 [.r (.rs 2 n get), .fn (.func g) [] ca] (· = .i (ixB p n)) := by
  refine pure_of_GC T_ok Tryz.func96 rfl (by kernel_rfl) (Nat.le_of_ble_eq_true rfl) rfl rfl ?_
  simp [go_sem]
  refine GLoop_of T_ok (α := Nat) (fun x => [(0, .r (.rs 2 n get)), (1, .fn (.func g) [] ca), (7, .i n), (8, .i x)]) (fun _ => []) 0 (fun x => x ≤ n ∧ ∀ j, j < x → p j = false) (fun x => n - x) 0 (fun _ => rfl) (by simp) (by simp [go_sem, SV.trimL_closed _ _ hca]) (by simp [go_sem]) ?_
  intro x J hi
  by_cases hlt : x < n
  · simp [go_sem, hlt]
    refine call_val (hp x hlt) (by simp [go_sem, hca]) rfl ?_
    by_cases hb : p x = true
    · simp [go_sem, hb]
      exact (ixB_at hlt hb hi.2).symm
    · have hb' : p x = false := by simpa using hb
      simp [go_sem, hb', SV.trimL_closed _ _ hca]
      refine ⟨by omega, x + 1, ⟨by omega, fun j hj => ?_⟩, by omega, by omega⟩
      by_cases hjx : j = x
      · subst hjx; exact hb'
      · exact hi.2 j (by omega)
  · simp [go_sem, hlt]
    exact (ixB_no fun j hj => hi.2 j (by omega)).symm
theorem contains109 (n : Nat) (hn : n ≤ 1000000000) (get : Nat → Nat → RV) (g : FuncId) (ca : List SV) (hca : SV.closedL ca = true) (p : Nat → Bool)
    (hp : ∀ i, i < n → Pure Tryz.prog g (.agg [.r (get i 0), .r (get i 1)] :: ca) (· = .b (p i))) : Pure Tryz.prog 71 [.r (.rs 2 n get), .fn (.func g) [] ca] (· = .b ((List.range n).any p)) := by
  refine pure_of_GC T_ok Tryz.func71 rfl (by kernel_rfl) (Nat.le_of_ble_eq_true rfl) rfl rfl ?_
  simp [go_sem]
  refine call_val (index137 n hn get g ca hca p hp) (by simp [go_sem, hca]) rfl ?_
  simp [go_sem, ixB_any]

theorem index127 (n : Nat) (hn : n ≤ 1000000000) (get : Nat → Nat → RV) (g : FuncId) (ca : List SV) (hca : SV.closedL ca = true) (p : Nat → Bool)
    (hp : ∀ i, i < n → Pure Tryz.prog g (.agg [.r (get i 0), .r (get i 1)] :: ca) (· = .b (p i))) : Pure Tryz.prog 89 [.r (.rs 2 n get), .fn (.func g) [] ca] (· = .i (ixB p n)) := by
  refine pure_of_GC T_ok Tryz.func89 rfl (by kernel_rfl) (Nat.le_of_ble_eq_true rfl) rfl rfl ?_
  simp [go_sem]
  refine GLoop_of T_ok (α := Nat) (fun x => [(0, .r (.rs 2 n get)), (1, .fn (.func g) [] ca), (7, .i n), (8, .i x)]) (fun _ => []) 0 (fun x => x ≤ n ∧ ∀ j, j < x → p j = false) (fun x => n - x) 0 (fun _ => rfl) (by simp) (by simp [go_sem, SV.trimL_closed _ _ hca]) (by simp [go_sem]) ?_
  intro x J hi
  by_cases hlt : x < n
  · simp [go_sem, hlt]
    refine call_val (hp x hlt) (by simp [go_sem, hca]) rfl ?_
    by_cases hb : p x = true
    · simp [go_sem, hb]
      exact (ixB_at hlt hb hi.2).symm
    · have hb' : p x = false := by simpa using hb
      simp [go_sem, hb', SV.trimL_closed _ _ hca]
      refine ⟨by omega, x + 1, ⟨by omega, fun j hj => ?_⟩, by omega, by omega⟩
      by_cases hjx : j = x
      · subst hjx; exact hb'
      · exact hi.2 j (by omega)
  · simp [go_sem, hlt]
    exact (ixB_no fun j hj => hi.2 j (by omega)).symm
theorem contains80 (n : Nat) (hn : n ≤ 1000000000) (get : Nat → Nat → RV) (g : FuncId) (ca : List SV) (hca : SV.closedL ca = true) (p : Nat → Bool)
    (hp : ∀ i, i < n → Pure Tryz.prog g (.agg [.r (get i 0), .r (get i 1)] :: ca) (· = .b (p i))) : Pure Tryz.prog 49 [.r (.rs 2 n get), .fn (.func g) [] ca] (· = .b ((List.range n).any p)) := by
  refine pure_of_GC T_ok Tryz.func49 rfl (by kernel_rfl) (Nat.le_of_ble_eq_true rfl) rfl rfl ?_
  simp [go_sem]
  refine call_val (index127 n hn get g ca hca p hp) (by simp [go_sem, hca]) rfl ?_
  simp [go_sem, ixB_any]

theorem poor108 (x : RcG) : Pure Tryz.prog 70 [.agg [.i x.q, .b x.g]] (· = .b (!btw 0 100 x.q)) := by
  refine pure_of_GC T_ok Tryz.func70 rfl (by kernel_rfl) (Nat.le_of_ble_eq_true rfl) rfl rfl ?_
  by_cases h : x.q < 0
  · simp [go_sem, h, btw]
  · by_cases h2 : 100 < x.q <;> simp [go_sem, h, h2, btw] <;> omega
theorem strange138 (x : VtG) : Pure Tryz.prog 97 [.agg [.i x.o, .b x.s]] (· = .b (!btw 0 7 x.o)) := by
  refine pure_of_GC T_ok Tryz.func97 rfl (by kernel_rfl) (Nat.le_of_ble_eq_true rfl) rfl rfl ?_
  by_cases h : x.o < 0
  · simp [go_sem, h, btw]
  · by_cases h2 : 8 ≤ x.o <;> simp [go_sem, h, h2, btw] <;> omega
end Go.Gx
