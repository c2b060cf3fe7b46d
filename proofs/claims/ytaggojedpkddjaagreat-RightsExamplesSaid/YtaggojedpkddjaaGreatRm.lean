/-
  Contracts: Answer.
-/
import Derived.Test.YtaggojedpkddjaaGreatRl
set_option linter.unusedVariables false
set_option linter.unusedSimpArgs false
set_option maxRecDepth 20000
set_option maxHeartbeats 2000000
namespace Go.Gx.Rg
open Go.RowKit Go.Proofs Go.Proofs.YtaggojedpkddjaaGreat

theorem lex_lt {a b c d : Int} : lex (cmpI a c) (cmpI b d) < 0 ↔ a < c ∨ a = c ∧ b < d := by unfold lex cmpI; repeat' split <;> omega
theorem lex_eq {a b c d : Int} : lex (cmpI a c) (cmpI b d) = 0 ↔ a = c ∧ b = d := by unfold lex cmpI; repeat' split <;> omega
theorem chain {n : Nat} {R : Nat → Nat → Prop} (tr : ∀ a b c, R a b → R b c → R a c) (h : ∀ i, i + 1 < n → R i (i + 1)) : ∀ d i, i + d + 1 < n → R i (i + d + 1)
  | 0, i, hi => h i hi
  | d + 1, i, hi => tr _ _ _ (chain tr h d i (by omega)) (h (i + d + 1) (by omega))
theorem chain' {n : Nat} {R : Nat → Nat → Prop} (tr : ∀ a b c, R a b → R b c → R a c) (h : ∀ i, i + 1 < n → R i (i + 1)) {i j : Nat} (hij : i < j) (hj : j < n) : R i j := by
  have := chain tr h (j - i - 1) i (by omega)
  rwa [show i + (j - i - 1) + 1 = j from by omega] at this
def ConG.ltP (x y : ConG) : Prop := x.p < y.p ∨ x.p = y.p ∧ x.q < y.q
def MarkG.ltP (x y : MarkG) : Prop := x.l < y.l ∨ x.l = y.l ∧ x.p < y.p
theorem RG.sortM {g : RG} (h : g.c6 = true) {i j : Nat} (hij : i < j) (hj : j < g.nm) : (g.m i).ltP (g.m j) := by
  simp only [RG.c6, List.all_eq_true, List.mem_range, MarkG.lt, decide_eq_true_eq, lex_lt] at h
  refine chain' (n := g.nm) (R := fun i j => (g.m i).ltP (g.m j)) (fun a b c h1 h2 => ?_) (fun i hi => h i (by omega)) hij hj
  unfold MarkG.ltP at *; omega
theorem RG.sortC {g : RG} (h : g.c5 = true) {i j : Nat} (hij : i < j) (hj : j < g.nc) : (g.c i).ltP (g.c j) := by
  simp only [RG.c5, List.all_eq_true, List.mem_range, ConG.lt, decide_eq_true_eq, lex_lt] at h
  refine chain' (n := g.nc) (R := fun i j => (g.c i).ltP (g.c j)) (fun a b c h1 h2 => ?_) (fun i hi => h i (by omega)) hij hj
  unfold ConG.ltP at *; omega
theorem RG.v5 {g : RG} (h : g.valid = true) : g.c5 = true := by simp only [RG.valid, Bool.and_eq_true] at h; exact h.1.2
theorem RG.v6 {g : RG} (h : g.valid = true) : g.c6 = true := by simp only [RG.valid, Bool.and_eq_true] at h; exact h.2

/-- Where a list and a person would be among the marks. -/
def RG.cm (g : RG) (l p : Int) (i : Nat) : Int := lex (cmpI (g.m i).l l) (cmpI (g.m i).p p)
theorem RG.cm_mono {g : RG} (h : g.c6 = true) (l p : Int) : ∀ a b, a < b → b < g.nm → g.cm l p b < 0 → g.cm l p a < 0 := by
  intro a b hab hb hc
  have := RG.sortM h hab hb
  simp only [RG.cm, lex_lt, MarkG.ltP] at *
  omega
theorem RG.cm_at {g : RG} (h : g.c6 = true) {l p : Int} {i : Nat} (hi : i < g.nm) (h1 : (g.m i).l = l) (h2 : (g.m i).p = p) : bnd (g.cm l p) g.nm = i := by
  refine bnd_eq (by omega) (fun j hj => ?_) (fun j hj hn => ?_)
  · have := RG.sortM h hj hi
    simp only [RG.cm, lex_lt, MarkG.ltP] at *
    omega
  · rcases Nat.lt_or_ge i j with hij | hij
    · have := RG.sortM h hij hn
      rcases Int.lt_or_le (g.cm l p j) 0 with hc | hc
      · simp only [RG.cm, lex_lt, MarkG.ltP] at *
        omega
      · exact hc
    · have : j = i := by omega
      subst this
      have : g.cm l p j = 0 := lex_eq.2 ⟨h1, h2⟩
      omega
theorem RG.cm_fnd {g : RG} {l p : Int} (h : fnd (g.cm l p) g.nm = true) : bnd (g.cm l p) g.nm < g.nm ∧ (g.m (bnd (g.cm l p) g.nm)).l = l ∧ (g.m (bnd (g.cm l p) g.nm)).p = p := by
  simp only [fnd, Bool.and_eq_true, decide_eq_true_eq] at h
  exact ⟨h.1, lex_eq.1 h.2⟩

/-- The mark that counts. -/
def onB (q : QG) (m : MarkG) : Bool := decide (m.l = q.l) && decide (m.p = q.w) && decide (m.s ≤ q.t) && decide (q.t < m.u)
def RG.onM (g : RG) (q : QG) : Option MarkG := ((List.range g.nm).find? fun i => onB q (g.m i)).map g.m
theorem RG.onM_some {g : RG} {q : QG} (h : g.c6 = true) {i : Nat} (hi : i < g.nm) (hb : onB q (g.m i) = true) : g.onM q = some (g.m i) := by
  unfold RG.onM
  rw [List.find?_range_eq_some.2 ⟨hb, List.mem_range.2 hi, fun j hj => ?_⟩]
  · rfl
  · have := RG.sortM h hj hi
    simp [onB] at hb ⊢
    unfold MarkG.ltP at this
    omega
theorem RG.onM_none {g : RG} {q : QG} (h : ∀ i, i < g.nm → onB q (g.m i) = false) : g.onM q = none := by
  unfold RG.onM
  rw [List.find?_eq_none.2 fun i hi => by simp [h i (List.mem_range.1 hi)]]
  rfl
def RG.aerr (g : RG) (q : QG) : Int := if ask g q ≠ 0 then ask g q else if g.lev q g.nr = 0 then 90 else 0
def RG.aL (g : RG) (q : QG) : Int := if g.aerr q = 0 then g.lev q g.nr else 0
def RG.aO (g : RG) (q : QG) : Bool := decide (g.aerr q = 0) && (g.onM q).isSome
def RG.aS (g : RG) (q : QG) : Int := if g.aerr q = 0 ∧ 2 ≤ g.lev q g.nr then (g.onM q).elim 0 (·.s) else 0
def RG.aN (g : RG) (q : QG) : Int := if g.aerr q = 0 ∧ g.lev q g.nr = 3 then (g.onM q).elim 0 (·.n) else 0
abbrev RG.rep (g : RG) (q : QG) : SV := .agg [.i (g.aL q), .b (g.aO q), .i (g.aS q), .i (g.aN q)]
theorem RG.lev_bd {g : RG} (h : g.valid = true) (q : QG) : ∀ n, n ≤ g.nr → 0 ≤ g.lev q n ∧ g.lev q n ≤ 3
  | 0, _ => by simp [RG.lev]
  | n + 1, hn => by
    have ih := RG.lev_bd h q n (by omega)
    have hs : 1 ≤ (g.r n).s ∧ (g.r n).s ≤ 3 := by
      simp only [RG.valid, RG.c1, Bool.and_eq_true, List.all_eq_true, List.mem_range] at h
      have := h.1.1.1.1.1.2 n (by omega)
      simp only [RuleG.good, Bool.and_eq_true, btw_iff] at this
      omega
    simp only [RG.lev]
    split <;> omega
theorem RG.ans_no {g : RG} {q : QG} (h : g.aerr q ≠ 0) : g.rep q = .agg [.i 0, .b false, .i 0, .i 0] := by simp [RG.rep, RG.aL, RG.aO, RG.aS, RG.aN, h]
theorem RG.ans_base {g : RG} {q : QG} (h : g.aerr q = 0) (hm : g.onM q = none) : g.rep q = .agg [.i (g.lev q g.nr), .b false, .i 0, .i 0] := by simp [RG.rep, RG.aL, RG.aO, RG.aS, RG.aN, h, hm]
theorem RG.ans_full {g : RG} {q : QG} {m : MarkG} (h : g.aerr q = 0) (hm : g.onM q = some m) : g.rep q = .agg [.i (g.lev q g.nr), .b true, .i (if 2 ≤ g.lev q g.nr then m.s else 0), .i (if g.lev q g.nr = 3 then m.n else 0)] := by
  simp [RG.rep, RG.aL, RG.aO, RG.aS, RG.aN, h, hm]

theorem answer26 (g : RG) (q : QG) (h : g.OK) (hq : q.OK) : Pure Tryz.prog 4 [g.sv, q.sv] (· = .tup [g.rep q, .i (g.aerr q)]) := by
  refine pure_of_GC T_ok Tryz.func4 rfl (by kernel_rfl) (Nat.le_of_ble_eq_true rfl) rfl rfl ?_
  simp [go_sem]
  refine call_val (level29 g q h hq) rfl rfl ?_
  by_cases ha : ask g q = 0
  rotate_left
  · have he : g.aerr q = ask g q := by simp [RG.aerr, ha]
    have hr : g.rep q = _ := RG.ans_no (by rw [he]; exact ha)
    have hl : g.levq q = 0 := by simp [RG.levq, ha]
    simp [go_sem, ha, hl]
    rw [← he]
    simp [RG.rep] at hr
    simp [hr]
  have hl : g.levq q = g.lev q g.nr := by simp [RG.levq, ha]
  have hv := (ask_valid ha).1
  have hbd := RG.lev_bd hv q g.nr (by omega)
  rw [hl]
  by_cases h0 : g.lev q g.nr = 0
  · have he : g.aerr q = 90 := by simp [RG.aerr, ha, h0]
    have hr : g.rep q = _ := RG.ans_no (by rw [he]; decide)
    simp [go_sem, ha, h0]
    simp [RG.rep] at hr
    simp [he, hr]
  have he : g.aerr q = 0 := by simp [RG.aerr, ha, h0]
  have h6 := RG.v6 hv
  have hsm := (RG.small hv).2.2.2
  have hgood : ∀ i, i < g.nm → -(2 : Int) ^ 62 < (g.m i).u ∧ (g.m i).u < 2 ^ 62 := by
    intro i hi
    simp only [RG.valid, RG.c4, Bool.and_eq_true, List.all_eq_true, List.mem_range] at hv
    have := hv.1.1.2.2 i hi
    simp only [MarkG.good, Bool.and_eq_true, timeB, btw_iff] at this
    omega
  simp [go_sem, ha, h0]
  refine call_val (search67 g.nm (by omega) _ q.l q.w 0 0 0 (21 : FuncId) (g.cm q.l q.w) (RG.cm_mono h6 _ _) (fun i hi => less68 (g.m i) ⟨q.l, q.w, 0, 0, 0⟩)) rfl rfl ?_
  generalize hf : fnd (g.cm q.l q.w) g.nm = f
  generalize hp : bnd (g.cm q.l q.w) g.nm = p
  have base : g.onM q = none → g.rep q = _ := RG.ans_base he
  cases f
  · have hn : g.onM q = none := RG.onM_none fun i hi => by
      cases hb : onB q (g.m i) with
      | false => rfl
      | true =>
        exfalso
        simp [onB] at hb
        have := RG.cm_at h6 hi hb.1.1.1 hb.1.1.2
        have h2 : g.cm q.l q.w i = 0 := lex_eq.2 ⟨hb.1.1.1, hb.1.1.2⟩
        simp [fnd, this, hi, h2] at hf
    have hr := base hn
    simp [RG.rep] at hr
    simp [go_sem]
    refine GDraw_all T_ok (by kernel_rfl) (by kernel_rfl) ?_
    simp [go_sem]
    simp [he, hr]
  obtain ⟨f1, f2, f3⟩ := RG.cm_fnd hf
  rw [hp] at f1 f2 f3
  have hg := hgood p f1
  simp [go_sem]
  refine GDraw_all T_ok (by kernel_rfl) (by kernel_rfl) ?_
  simp [go_sem]
  refine ⟨f1, by omega, _, dcall_deep (v := .b (btw (g.m p).s ((g.m p).u - 1) q.t)) (by simp [go_sem]; exact in69 rfl) rfl, ?_⟩
  generalize hb : btw (g.m p).s ((g.m p).u - 1) q.t = b
  rw [btw_sub] at hb
  cases b
  · have hn : g.onM q = none := RG.onM_none fun i hi => by
      cases hb' : onB q (g.m i) with
      | false => rfl
      | true =>
        exfalso
        simp [onB] at hb'
        have := RG.cm_at h6 hi hb'.1.1.1 hb'.1.1.2
        rw [hp] at this
        subst this
        simp at hb
        omega
    have hr := base hn
    simp [RG.rep] at hr
    simp [go_sem]
    simp [he, hr]
  have hs : g.onM q = some (g.m p) := RG.onM_some h6 f1 (by simp at hb; simp [onB, f2, f3, hb])
  have hr := RG.ans_full he hs
  simp [RG.rep] at hr
  simp [go_sem, f1]
  rcases (by omega : g.lev q g.nr = 1 ∨ g.lev q g.nr = 2 ∨ g.lev q g.nr = 3) with hl | hl | hl
  · simp [go_sem, hl, f1]; simp [he, hr, hl]
  · simp [go_sem, hl, f1]; simp [he, hr, hl]
  · simp [go_sem, hl, f1]; simp [he, hr, hl]
end Go.Gx.Rg
