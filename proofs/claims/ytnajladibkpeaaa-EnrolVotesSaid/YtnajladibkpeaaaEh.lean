/-
  The program: look.
-/
import Derived.Test.YtnajladibkpeaaaEg
set_option linter.unusedVariables false
set_option linter.unusedSimpArgs false
set_option maxRecDepth 20000
set_option maxHeartbeats 4000000
namespace Go.Gx
open Go.RowKit Go.Proofs Go.Proofs.Ytnajladibkpeaaa

theorem befB_trans {a b c d e f : Int} (h1 : befB a b c d = true) (h2 : befB c d e f = true) : befB a b e f = true := by
  simp only [befB, Bool.or_eq_true, Bool.and_eq_true, decide_eq_true_eq] at *
  omega
theorem sorted_of {n : Nat} {x y : Nat → Int} (h : ∀ i, i < n → i = 0 ∨ befB (x (i - 1)) (y (i - 1)) (x i) (y i) = true) : ∀ a b, a < b → b < n → befB (x a) (y a) (x b) (y b) = true := by
  intro a b hab
  induction b with
  | zero => omega
  | succ b ih =>
    intro hb
    have h1 := (h (b + 1) hb).resolve_left (by omega)
    simp only [Nat.add_sub_cancel] at h1
    by_cases e : a = b
    · subst e; exact h1
    · exact befB_trans (ih (by omega) (by omega)) h1
theorem EG.lks_sorted {g : EG} (h : g.lks = true) : ∀ a b, a < b → b < g.nl → befB (g.l a).a (g.l a).b (g.l b).a (g.l b).b = true :=
  sorted_of (x := fun i => (g.l i).a) (y := fun i => (g.l i).b) fun i hi => by
    have := all_get h hi
    simp only [EG.lk1, Bool.and_eq_true, Bool.or_eq_true, decide_eq_true_eq] at this
    exact this.2
theorem EG.cos_sorted {g : EG} (h : g.cos = true) : ∀ a b, a < b → b < g.nc → befB (g.c a).a (g.c a).b (g.c b).a (g.c b).b = true :=
  sorted_of (x := fun i => (g.c i).a) (y := fun i => (g.c i).b) fun i hi => by
    have := all_get h hi
    simp only [EG.co1, Bool.and_eq_true, Bool.or_eq_true, decide_eq_true_eq] at this
    exact this.2
theorem ord_mono {n : Nat} {x y : Nat → Int} (h : ∀ a b, a < b → b < n → befB (x a) (y a) (x b) (y b) = true) (p q : Int) : ∀ a b, a < b → b < n → ordI (x b) (y b) p q < 0 → ordI (x a) (y a) p q < 0 := fun a b hab hb h2 =>
  ordI_neg.2 (befB_trans (h a b hab hb) (ordI_neg.1 h2))
theorem EG.lks_th {g : EG} (h : g.lks = true) : g.lth := fun i hi => by
  have := all_get h hi
  simp only [EG.lk1, EG.prB, Bool.and_eq_true] at this
  exact ⟨this.1.1.1, this.1.1.2⟩
/-- Where the pair (p, q) is among the links, and whether it is there. -/
def EG.lat (g : EG) (p q : Int) : Nat := bnd (fun i => ordI (g.l i).a (g.l i).b p q) g.nl
def EG.lin (g : EG) (p q : Int) : Bool := fnd (fun i => ordI (g.l i).a (g.l i).b p q) g.nl
def EG.cat (g : EG) (p q : Int) : Nat := bnd (fun i => ordI (g.c i).a (g.c i).b p q) g.nc
def EG.cin (g : EG) (p q : Int) : Bool := fnd (fun i => ordI (g.c i).a (g.c i).b p q) g.nc
theorem EG.at76 (g : EG) (h : g.OK) (hl : g.lks = true) (p q : Int) : Pure Try.prog 76 [g.ll, .fn (.func 77) [] [], .agg [.i p, .i q]] (· = .tup [.i (g.lat p q), .b (g.lin p q)]) :=
  Go.Gx.at76 g.nl (by have := h.nl; omega) g.l p q (ord_mono (EG.lks_sorted hl) p q)
theorem EG.at78 (g : EG) (h : g.OK) (hl : g.cos = true) (p q : Int) : Pure Try.prog 78 [g.cc, .fn (.func 69) [] [], .agg [.i p, .i q]] (· = .tup [.i (g.cat p q), .b (g.cin p q)]) :=
  Go.Gx.at78 g.nc (by have := h.nc; omega) g.c p q (ord_mono (EG.cos_sorted hl) p q)
def EG.qual (g : EG) : Bool := (List.range g.nr).all fun i => btw 0 100 (g.r i).q
def EG.cs2 (g : EG) (i : Nat) : Bool := !g.lin (g.c i).a (g.c i).b && votB (g.c i).nv (g.c i).v
def EG.lk2 (g : EG) (i : Nat) : Bool := (g.l i).s || !decide (g.pm g.nl (g.l i).a = g.pm g.nl (g.l i).b)
/-- The register is valid: as the program says. -/
def EG.pval (g : EG) : Bool := decide (g.nr ≤ 24) && decide (g.nc ≤ 40) && g.qual && g.lks && g.cos && ((List.range g.nc).all g.cs2) && (List.range g.nl).all g.lk2
abbrev nilP : SV := .r (.v (.pointer none))
def EG.lookS (g : EG) : SV := if g.pval then .tup [.ptr 0 0 4 0, .i 0] else .tup [nilP, .i 8]
def EG.lookR (g : EG) : List Reg := if g.pval then [g.dbox (.mp 1), g.dmap] else []
theorem look_no {g : EG} {M : Mem} (e : g.pval = false) : ∃ ρl, gexp M (.tup [nilP, .i 8]) ρl g.lookS g.lookR := by
  unfold EG.lookS EG.lookR
  rw [e]
  exact ⟨[], by simp, fun N => ⟨by simp [go_sem], trivial⟩⟩
theorem look53 (g : EG) (h : g.OK) : Own Try.prog 53 [] [g.sv] g.lookS g.lookR := by
  have := h.nr
  have := h.nl
  have := h.nc
  refine own_of_GC T_ok Try.func53 rfl (by kernel_rfl) (Nat.le_of_ble_eq_true rfl) rfl rfl ?_
  by_cases h1 : g.nr ≤ 24
  rotate_left
  · have e : g.pval = false := by simp [EG.pval, h1]
    have h1' : 24 < (g.nr : Int) := by omega
    simp [go_sem, h1']
    exact look_no e
  have h1' : ¬ 24 < (g.nr : Int) := by omega
  by_cases h2 : g.nc ≤ 40
  rotate_left
  · have e : g.pval = false := by simp [EG.pval, h2]
    have h2' : 40 < (g.nc : Int) := by omega
    simp [go_sem, h1', h2']
    exact look_no e
  have h2' : ¬ 40 < (g.nc : Int) := by omega
  have hq := contains109 g.nr (by omega) (fun i j => (g.r i).c j) 108 [] rfl (fun i => !btw 0 100 (g.r i).q) fun i _ => poor108 (g.r i)
  have ha : (List.range g.nr).any (fun i => !btw 0 100 (g.r i).q) = !g.qual := by
    unfold EG.qual
    rw [List.all_eq_not_any_not]; simp
  rw [ha] at hq
  simp [go_sem, h1', h2']
  refine call_val hq rfl rfl ?_
  by_cases h3 : g.qual = true
  rotate_left
  · have h3' : g.qual = false := by simpa using h3
    simp [go_sem, h3']
    exact look_no (by simp [EG.pval, h3'])
  simp [go_sem, h3]
  refine call_lent (v := .b g.lks) (by simp [go_sem]; exact ordered110 g h _ rfl) rfl ?_
  by_cases h4 : g.lks = true
  rotate_left
  · have h4' : g.lks = false := by simpa using h4
    simp [go_sem, h4']
    exact look_no (by simp [EG.pval, h4'])
  simp [go_sem, h4]
  refine call_lent (v := .b g.cos) (by simp [go_sem]; exact ordered111 g h _ rfl) rfl ?_
  by_cases h5 : g.cos = true
  rotate_left
  · have h5' : g.cos = false := by simpa using h5
    simp [go_sem, h5']
    exact look_no (by simp [EG.pval, h5'])
  simp [go_sem, h5]
  refine GLoop_s T_ok (α := Nat) (fun k => [(1, .ptr 0 0 3 0), (4, .ptr 1 0 4 0), (46, g.cc), (47, .i g.nc), (48, .i k)])
    (fun k => [g.bx, some (g.dbox (.r .any))]) 2 (fun k => k ≤ g.nc ∧ ∀ j, j < k → g.cs2 j = true) (fun k => g.nc - k) 0 (fun _ => rfl) (by simp) (by simp [go_sem]) (by simp [go_sem]) ?_
  intro k J hi
  by_cases hlt : k < g.nc
  · have no : g.cs2 k = false → g.pval = false := fun hf => by simp [EG.pval, all_no hlt hf]
    have yes : g.cs2 k = true → (k + 1 ≤ g.nc ∧ ∀ j, j < k + 1 → g.cs2 j = true) := fun ht =>
      ⟨by omega, fun j hj => by
        by_cases hjk : j = k
        · subst hjk; exact ht
        · exact hi.2 j (by omega)⟩
    have hat := EG.at76 g h h4 (g.c k).a (g.c k).b
    simp [go_sem, hlt]
    refine GDraw_all T_ok (by kernel_rfl) (by kernel_rfl) ?_
    simp [go_sem]
    refine ⟨_, dcall_val (ofCase69 (g.c k)) rfl rfl, ?_⟩
    simp [go_sem]
    refine ⟨_, dcall_val hat rfl rfl, ?_⟩
    by_cases c1 : g.lin (g.c k).a (g.c k).b = true
    · simp [go_sem, c1]
      exact look_no (no (by simp [EG.cs2, c1]))
    have c1' : g.lin (g.c k).a (g.c k).b = false := by simpa using c1
    simp [go_sem, c1']
    refine call_val (valid112 (g.c k).nv (g.c k).v (h.nv k hlt)) rfl rfl ?_
    by_cases c2 : votB (g.c k).nv (g.c k).v = true
    · simp [go_sem, c2]
      exact ⟨by omega, k + 1, yes (by simp [EG.cs2, c1', c2]), by omega, by omega⟩
    · have c2' : votB (g.c k).nv (g.c k).v = false := by simpa using c2
      simp [go_sem, c2']
      exact look_no (no (by simp [EG.cs2, c2']))
  have h6 : (List.range g.nc).all g.cs2 = true := all_yes fun j hj => hi.2 j (by omega)
  have hk : k = g.nc := by omega
  subst hk
  simp [go_sem]
  refine callK_ownS [1] (meet113 g h (EG.lks_th h4) .any) (Nat.le_refl 1) (by decide) rfl ?_ ?_
  · simp [go_sem]
  simp [go_sem, renS]
  refine GLoop_s T_ok (α := Nat) (fun k => [(1, .ptr 0 0 3 0), (4, .ptr 1 0 4 0), (71, g.ll), (72, .i g.nl), (73, .i k)])
    (fun k => [g.bx, some (g.dbox (.mp 3)), none, some g.dmap]) 4 (fun k => k ≤ g.nl ∧ ∀ j, j < k → g.lk2 j = true) (fun k => g.nl - k) 0 (fun _ => rfl) (by simp) (by simp [go_sem]) (by simp [go_sem]) ?_
  clear hi hlt
  intro k J2 hi
  have hth := EG.lks_th h4
  by_cases hlt : k < g.nl
  · have no : g.lk2 k = false → g.pval = false := fun hf => by simp [EG.pval, all_no hlt hf]
    have yes : g.lk2 k = true → (k + 1 ≤ g.nl ∧ ∀ j, j < k + 1 → g.lk2 j = true) := fun ht =>
      ⟨by omega, fun j hj => by
        by_cases hjk : j = k
        · subst hjk; exact ht
        · exact hi.2 j (by omega)⟩
    obtain ⟨t1, t2⟩ := hth k hlt
    simp [go_sem, hlt]
    refine GDraw_all T_ok (by kernel_rfl) (by kernel_rfl) ?_
    by_cases hs : (g.l k).s = true
    · simp [go_sem, hs]
      exact ⟨by omega, k + 1, yes (by simp [EG.lk2, hs]), by omega, by omega⟩
    have hs' : (g.l k).s = false := by simpa using hs
    by_cases hp : g.pm g.nl (g.l k).a = g.pm g.nl (g.l k).b
    · simp [go_sem, hs', t1, t2, hp]
      exact look_no (no (by simp [EG.lk2, hs', hp]))
    · simp [go_sem, hs', t1, t2, hp]
      exact ⟨by omega, k + 1, yes (by simp [EG.lk2, hp]), by omega, by omega⟩
  have h7 : (List.range g.nl).all g.lk2 = true := all_yes fun j hj => hi.2 j (by omega)
  have hk : k = g.nl := by omega
  subst hk
  simp [go_sem]
  have hv : g.pval = true := by simp [EG.pval, h1, h2, h3, h4, h5, h6, h7]
  unfold EG.lookS EG.lookR
  rw [hv]
  refine ⟨[1, 3], by simp, fun N => ⟨by simp [go_sem], ?_⟩⟩
  simp [go_sem]
end Go.Gx
