/-
  The chapter's examples: what they build.
-/
import Derived.Test.YtaggojedpkddjaaGreatSv
import Derived.Test.YtaggojedpkddjaaGreatRq
set_option linter.unusedVariables false
set_option linter.unusedSimpArgs false
set_option maxRecDepth 20000
set_option maxHeartbeats 4000000
namespace Go.Gx
open Go.RowKit
section
variable {P : Program} {T : Tab} {N : Cfg} {k : List It} {Q : GQ} {E : Env} {M : Mem} {nx : Nat} {e : Exit}
/-- Some refs are left out. -/
theorem GSt.bump (n : Nat) : GSt N E M nx E M (nx + n) := fun B W w0 σ a w h =>
  ⟨σ, h.env, h.mem.weaken fun r hr => by have : nx + n ≤ r := hr; show nx ≤ r; omega, h.fr, h.defers, h.size, Nat.le_trans h.low (Nat.le_add_right _ _), h.pin, h.good⟩
/-- A region of open order, told behind it by slots and a property, in other words. -/
theorem GDraw_cutv (S : List (Nat × SV)) (φ : Mem → Nat → Prop) {id : Nat} {all : Array Oper} (h : GDraw P T N id all [] (vq N (JP S φ)) E M nx) (hk : ∀ J M nx, φ M nx → GK P T N k Q .normal (updL J S) M nx) : GDraw P T N id all k Q E M nx :=
  GDraw_cut S φ (GW.vq h) hk
/-- A slot's region gets a number. -/
theorem vq_mvP (t q : Nat) {p row kk fld : Nat} (hE : E t = .ptr p row kk fld) (h : p ≠ q ∧ N.np ≤ p ∧ N.np ≤ q ∧ q < nx) (hn : vq N Q e (fun t => (E t).mv p q) (mvM p q M) nx) : vq N Q e E M nx :=
  vq_step (GSt.move p q h.1 h.2.1 h.2.2.1 h.2.2.2) hn
/-- The region of a slice in a box gets a number. -/
theorem vq_mvB (b j q : Nat) {l : List SV} {p kk lo n : Nat} {c : Option Nat} (hM : M b = some (.box l)) (hl : l[j]? = some (.sl p kk lo n c)) (h : p ≠ q ∧ N.np ≤ p ∧ N.np ≤ q ∧ q < nx) (hn : vq N Q e (fun t => (E t).mv p q) (mvM p q M) nx) : vq N Q e E M nx :=
  vq_step (GSt.move p q h.1 h.2.1 h.2.2.1 h.2.2.2) hn
end
end Go.Gx
namespace Go.Gx.Rg
open Go.RowKit Go.Proofs Go.Proofs.YtaggojedpkddjaaGreat

/-- The rights of the chapter's example, in own memory. -/
theorem some_own : Own Tryz.prog 5 [] [] (.agg [.sl 0 8 0 2 none, .r (.v (.slice none 0 0)), .sl 1 4 0 1 none, .sl 2 5 0 1 none])
    [.vec 45 8 2 fun i j => .r ((exG.r i).c j), .vec 65 4 1 fun i j => .r ((exG.w i).c j), .vec 54 5 1 fun i j => .r ((exG.m i).c j)] := by
  refine own_of_GC T_ok Tryz.func5 rfl (by kernel_rfl) (Nat.le_of_ble_eq_true rfl) rfl rfl ?_
  simp [go_sem]
  refine ⟨[1, 2, 3], by simp, fun N => ⟨by simp [go_sem], ?_⟩⟩
  simp [go_sem]
  refine ⟨fun i j hi hj => ?_, fun i j hi hj => ?_, fun i j hi hj => ?_⟩
  · rcases (by omega : i = 0 ∨ i = 1) with rfl | rfl <;> rcases lt8 hj with rfl | rfl | rfl | rfl | rfl | rfl | rfl | rfl <;> rfl
  · subst hi
    rcases (by omega : j = 0 ∨ j = 1 ∨ j = 2 ∨ j = 3) with rfl | rfl | rfl | rfl <;> rfl
  · subst hi
    rcases (by omega : j = 0 ∨ j = 1 ∨ j = 2 ∨ j = 3 ∨ j = 4) with rfl | rfl | rfl | rfl | rfl <;> rfl
def exQ1 : QG := (exQ 30 1 (k1 4)).sg 2
theorem ex_sign (q : QG) (hq : q.OK) (o : Int) {r1 : Int} {r2 : QG} (h1 : q.sgE o = r1) (h2 : (if r1 = 0 then q.sg o else QG.nil) = r2) : Pure Tryz.prog 7 [q.sv, .i o] (· = .tup [r2.sv, .i r1]) := by
  subst h1; subst h2
  exact sign37 q o hq
theorem ex_applies (g : RG) (q : QG) (hg : g.OK) (hq : q.OK) {r1 : List Nat} {r2 : Int} (h1 : g.apq q = r1) (h2 : ask g q = r2) : Pure Tryz.prog 8 [g.sv, q.sv] (· = .tup [natS r1, .i r2]) := by
  subst h1; subst h2
  exact applies31 g q hg hq
def exQ2 : QG := ⟨2, 2, 3, 5, 30, 1, k1 4⟩
theorem ex8 : Pure Tryz.prog 4 [exG.sv, exQ2.sv] (· = .tup [.agg [.i 0, .b false, .i 0, .i 0], .i 90]) :=
  ex_ans exG exQ2 exG_OK (exQ_OK (t := 30) (k := k1 4) (n := 1) (by decide)) (r1 := 0) (r2 := false) (r3 := 0) (r4 := 0) (r5 := 90) (by decide +kernel)
def exG1 : RG := { exG with r := fun i => if i = 0 then ⟨1, 2, 3, 0, 100, 1, 1, 1⟩ else ⟨1, 2, 3, 0, 100, 2, 3, 2⟩ }
def exG2 : RG := exG1.putC ⟨5, 1, 31⟩
def exG3 : RG := exG2.revoke 5 1
def exG4 : RG := exG.prune 45
def exG5 : RG := exG.forget 5
theorem exG1_OK : exG1.OK := ⟨by decide, by decide, by decide, by decide, fun i hi => by
  simp only [exG1, RuleG.byte]
  split <;> simp⟩
theorem exG2_OK : exG2.OK := RG.putC_OK exG1_OK (by decide +kernel)
theorem ex_put (g : RG) (hg : g.OK) (x : ConG) {r1 : Int} {r2 : RG} (h1 : g.cnE x = r1) (h2 : (if r1 = 0 then g.putC x else RG.nil) = r2) : Pure Tryz.prog 11 [g.sv, x.sv] (· = .tup [r2.sv, .i r1]) := by
  subst h1; subst h2
  exact put43 g x hg
theorem ex_rev (g : RG) (hg : g.OK) (a b : Int) {r1 : Int} {r2 : RG} (h1 : g.rvE a b = r1) (h2 : (if r1 = 0 then g.revoke a b else RG.nil) = r2) : Pure Tryz.prog 12 [g.sv, .i a, .i b] (· = .tup [r2.sv, .i r1]) := by
  subst h1; subst h2
  exact revoke36 g a b hg
theorem ex_prune (g : RG) (hg : g.OK) (a : Int) {r1 : Int} {r2 : RG} (h1 : g.prE a = r1) (h2 : (if r1 = 0 then g.prune a else RG.nil) = r2) : Pure Tryz.prog 13 [g.sv, .i a] (· = .tup [r2.sv, .i r1]) := by
  subst h1; subst h2
  exact prune18 g a hg
theorem ex_forget (g : RG) (hg : g.OK) (a : Int) {r1 : Int} {r2 : RG} (h1 : g.foE a = r1) (h2 : (if r1 = 0 then g.forget a else RG.nil) = r2) : Pure Tryz.prog 14 [g.sv, .i a] (· = .tup [r2.sv, .i r1]) := by
  subst h1; subst h2
  exact forget20 g a hg
theorem ex_mark (g : RG) (hg : g.OK) (x : MarkG) {r1 : Int} {r2 : RG} (h1 : g.mkE x = r1) (h2 : (if r1 = 0 then g.putM x else RG.nil) = r2) : Pure Tryz.prog 15 [g.sv, x.sv] (· = .tup [r2.sv, .i r1]) := by
  subst h1; subst h2
  exact put46 g x hg
/-- A box told in other words. -/
theorem GSt.wkBox {N : Cfg} {E : Env} {M : Mem} {nx : Nat} (p : Nat) {l l' : List SV} (hM : M p = some (.box l)) (h : SV.subL l l') : GSt N E M nx E (upd M p (some (.box l'))) nx :=
  GSt.wk fun r => by
    by_cases e : r = p
    · subst e
      rw [hM]
      simp only [upd, if_pos]
      exact .inl h
    · simp only [upd, if_neg e]
      cases M r with
      | none => exact .inl trivial
      | some R => exact .inl (Reg.sub_rfl _)
theorem ex15 : Pure Tryz.prog 4 [exG2.sv, (exQ 30 1 (k1 4)).sv] (· = .tup [.agg [.i 1, .b true, .i 0, .i 0], .i 0]) :=
  ex_ans exG2 (exQ 30 1 (k1 4)) exG2_OK (exQ_OK (by decide)) (r1 := 1) (r2 := true) (r3 := 0) (r4 := 0) (r5 := 0) (by decide +kernel)
theorem ex_same : Pure Tryz.prog 16 [exG3.sv, exG1.sv] (· = .b true) :=
  (same35 exG3 exG1 (RG.revoke_OK exG2_OK) exG1_OK).val (congrArg SV.b (by decide +kernel))
theorem ex_bad : Pure Tryz.prog 17 [(exQ 30 2 (k2 4 4)).sv] (· = .i 91) :=
  (checkQuery40 (exQ 30 2 (k2 4 4)) (exQ_OK (by decide))).val (congrArg SV.i (by decide +kernel))
theorem ex_time : Pure Tryz.prog 17 [(exQ (-1) 0 (fun _ => 0)).sv] (· = .i 2) :=
  (checkQuery40 (exQ (-1) 0 (fun _ => 0)) (exQ_OK (by decide))).val (congrArg SV.i (by decide +kernel))
def exB : RG := ⟨1, fun _ => ⟨0, 0, 0, 0, 0, 0, 0, 0⟩, 0, fun _ => ⟨0, 0, 0⟩, 0, fun _ => ⟨0, 0, 0, 0⟩, 0, fun _ => ⟨0, 0, 0, 0, 0⟩⟩
theorem exB_OK : exB.OK := ⟨by decide, by decide, by decide, by decide, fun i hi => by simp [exB, RuleG.byte]⟩
theorem le_aggZ {l l' : List SV} (h : leL l l') : (SV.agg l).le (.agg l') := fun Z w y hy => by
  obtain ⟨vs, e, h1, h2⟩ := hy
  exact ⟨vs, e, h1, leL_rel _ _ _ h h2⟩
theorem law3 : Pure Tryz.prog 3 [] (· = .b true) := by
  refine pure_of_GC T_ok Tryz.func3 rfl (by kernel_rfl) (Nat.le_of_ble_eq_true rfl) rfl rfl ?_
  simp [go_sem]
  refine call_val some65 rfl rfl ?_
  simp [go_sem]
  refine callK_freeze 0 (R := ?R1) ?h1 ?_
  case h1 => simp [go_sem]; rfl
  simp [go_sem]
  refine call_val (ask2 (a := 4) (b := 6) rfl rfl) rfl rfl ?_
  simp [go_sem]
  refine call_val (ex_ans exG (exQ 45 2 (k2 4 6)) exG_OK (exQ_OK (by decide)) (r1 := 1) (r2 := true) (r3 := 0) (r4 := 0) (r5 := 0) (by decide +kernel)) rfl rfl ?_
  simp [go_sem]
  refine callK_freeze 2 (R := ?R2) ?h2 ?_
  case h2 => simp [go_sem]; rfl
  simp [go_sem]
  refine call_val (ask1 (a := 4) rfl) rfl rfl ?_
  simp [go_sem]
  refine call_val (ex_sign (exQ 30 1 (k1 4)) (exQ_OK (by decide)) 2 (r1 := 0) (r2 := exQ1) (by decide +kernel) rfl) rfl rfl ?_
  simp [go_sem]
  refine callK_freeze 4 (R := ?R3) ?h3 ?_
  case h3 => simp [go_sem]; rfl
  simp [go_sem]
  refine call_val (ask1 (a := 4) rfl) rfl rfl ?_
  simp [go_sem]
  refine call_val (ex_sign (exQ 30 1 (k1 4)) (exQ_OK (by decide)) 4 (r1 := 91) (r2 := QG.nil) (by decide +kernel) rfl) rfl rfl ?_
  simp [go_sem]
  refine call_val (ex_sign exQ1 (exQ_OK (t := 30) (k := k1 4) (n := 2) (by decide)) 5 (r1 := 91) (r2 := QG.nil) (by decide +kernel) rfl) rfl rfl ?_
  simp [go_sem]
  refine call_val some65 rfl rfl ?_
  simp [go_sem]
  refine callK_freeze 7 (R := ?R4) ?h4 ?_
  case h4 => simp [go_sem]; rfl
  simp [go_sem]
  refine call_val (ask2 (a := 4) (b := 6) rfl rfl) rfl rfl ?_
  simp [go_sem]
  refine call_val (ex_applies exG (exQ 30 2 (k2 4 6)) exG_OK (exQ_OK (by decide)) (r1 := [0, 1]) (r2 := 0) (by decide +kernel) (by decide +kernel)) rfl rfl ?_
  simp [go_sem]
  refine callK_freeze 8 (R := ?R5) ?h5 ?_
  case h5 => simp [go_sem]; rfl
  simp [go_sem]
  refine call_val (ask1 (a := 4) rfl) rfl rfl ?_
  simp [go_sem]
  refine GDraw_cut [(0, .b false), (1, .ptr 1 0 4 0), (2, .i 0), (3, .ptr 3 0 6 0), (4, .i 0), (6, .i 91), (8, .i 91), (9, natS [0, 1]), (10, .i 0), (13, .i 90)]
    (fun M nx => M 1 = some (.box [.i 1, .b true, .i 0, .i 0]) ∧ M 3 = some (.box [.i exQ1.p, .i exQ1.r, .i exQ1.l, .i exQ1.w, .i exQ1.t, exQ1.ks]) ∧ nx = 11) ?_ ?_
  · refine GDraw_l (t := (.take 1 (.alt 0 [1] (.alt 2 [1] (.take 3 (.take 4 (.take 5 (.alt 6 [5, 4, 3] (.alt 7 [5, 4, 3] (.take 8 (.done [8, 5])) .nil) .nil)))) (.alt 6 [1] (.alt 2 [1] (.take 3 (.take 4 (.take 5 (.alt 7 [5, 4, 3] (.take 8 (.done [8, 5])) .nil)))) .nil) .nil)) (.alt 6 [1] (.alt 0 [1] (.alt 2 [1] (.take 3 (.take 4 (.take 5 (.alt 7 [5, 4, 3] (.take 8 (.done [8, 5])) .nil)))) .nil) .nil) .nil)))) T_ok (by kernel_rfl) (by kernel_rfl) (by kernel_rfl) (fun _ _ _ _ h => h) ?_
    simp [go_sem]
    repeat' (first | apply And.intro | (refine call_val some65 rfl rfl ?_; simp [go_sem]) | (refine call_val ex8 rfl rfl ?_; simp [go_sem, eqS]))
  rintro J M nx ⟨m1, m3, rfl⟩
  simp [go_sem]
  refine call_val alive24 rfl rfl ?_
  simp [go_sem, m1, m3]
  refine call_lent (v := .b true) ?_ rfl ?_
  · simp [go_sem]
    exact (sameInts34 exQ1.nk 2 (by decide +kernel) (by decide) (fun i _ => .i (exQ1.k i)) _ exQ1.k (k2 2 4) (fun i _ => rfl) (fun i hi => by rcases (by omega : i = 0 ∨ i = 1) with rfl | rfl <;> rfl)).val (congrArg SV.b (by decide +kernel))
  simp [go_sem, m1, m3]
  refine call_lent (v := .b true) ?_ rfl ?_
  · simp [go_sem]
    exact (sameInts34 2 2 (by decide) (by decide) _ _ (k2 0 1) (k2 0 1) (fun i hi => by rcases (by omega : i = 0 ∨ i = 1) with rfl | rfl <;> rfl) (fun i hi => by rcases (by omega : i = 0 ∨ i = 1) with rfl | rfl <;> rfl)).val (congrArg SV.b (by decide +kernel))
  simp [go_sem, m1, m3]
  refine callK_own [] some_own (by simp) rfl trivial ?_
  simp [go_sem]
  refine GDraw_pre (GSt.freeze 13 (R := ?R13) ?h13) ?_
  case h13 => simp [go_sem]; rfl
  refine GDraw_pre (GSt.freeze 14 (R := ?R14) ?h14) ?_
  case h14 => simp [go_sem]; rfl
  refine GDraw_pre (GSt.freeze 15 (R := ?R15) ?h15) ?_
  case h15 => simp [go_sem]; rfl
  simp [go_sem]
  refine GDraw_pre (GSt.wkBox 16 (l' := [RuleG.rs 2 exG1.r, ConG.rs 0 exG1.c, WarG.rs 1 exG1.w, MarkG.rs 1 exG1.m]) (by simp [go_sem]; rfl) ?_) ?_
  · simp [go_sem]
    refine ⟨fun i j hi hj => ?_, fun i j hi hj => rfl, fun i j hi hj => rfl⟩
    rcases (by omega : i = 0 ∨ i = 1) with rfl | rfl <;> rcases lt8 hj with rfl | rfl | rfl | rfl | rfl | rfl | rfl | rfl <;> rfl
  refine GDraw_l (t := (.take 0 (.alt 1 [0] (.alt 2 [0] (.alt 3 [0] (.take 4 (.take 5 (.take 6 (.take 7 (.done [7, 6, 5, 4]))))) .nil) .nil) .nil))) T_ok (by kernel_rfl) (by kernel_rfl) (by kernel_rfl) (fun _ _ _ _ h => h) ?_
  simp [go_sem]
  refine callK_freeze 17 (R := ?R17) ?h17 ?_
  case h17 => simp [go_sem]; rfl
  simp [go_sem]
  refine call_val (ask1 (a := 4) rfl) rfl rfl ?_
  simp [go_sem]
  refine call_val (ex_ans exG1 (exQ 30 1 (k1 4)) exG1_OK (exQ_OK (by decide)) (r1 := 0) (r2 := false) (r3 := 0) (r4 := 0) (r5 := 90) (by decide +kernel)) rfl rfl ?_
  simp [go_sem]
  refine call_val (ex_put exG1 exG1_OK ⟨5, 1, 31⟩ (r1 := 0) (r2 := exG2) (by decide +kernel) rfl) rfl rfl ?_
  simp [go_sem]
  refine GDraw_cutv [(0, .b false), (2, .i 90), (4, .i 0), (14, .ptr 16 0 4 0), (15, .ptr 18 0 4 0), (16, .ptr 60 0 4 0), (6, .i 0)]
    (fun M nx => M 16 = some (.box [RuleG.rs 2 exG1.r, ConG.rs 0 exG1.c, WarG.rs 1 exG1.w, MarkG.rs 1 exG1.m]) ∧ M 18 = some (.box [RuleG.rs exG2.nr exG2.r, ConG.rs exG2.nc exG2.c, WarG.rs exG2.nw exG2.w, MarkG.rs exG2.nm exG2.m]) ∧
      M 60 = some (.box [.i 1, .b true, .i 0, .i 0]) ∧ nx = 61) ?_ ?_
  · refine GDraw_l (t := (.take 0 (.alt 1 [0] (.alt 2 [0] (.alt 3 [0] (.take 4 (.take 5 (.take 6 (.alt 7 [6, 5, 4] (.alt 8 [6, 5, 4] (.take 9 (.done [9, 6])) .nil) .nil)))) (.alt 7 [0] (.alt 3 [0] (.take 4 (.take 5 (.take 6 (.alt 8 [6, 5, 4] (.take 9 (.done [9, 6])) .nil)))) .nil) .nil)) (.alt 7 [0] (.alt 2 [0] (.alt 3 [0] (.take 4 (.take 5 (.take 6 (.alt 8 [6, 5, 4] (.take 9 (.done [9, 6])) .nil)))) .nil) .nil) .nil)) (.alt 7 [0] (.alt 1 [0] (.alt 2 [0] (.alt 3 [0] (.take 4 (.take 5 (.take 6 (.alt 8 [6, 5, 4] (.take 9 (.done [9, 6])) .nil)))) .nil) .nil) .nil) .nil)))) T_ok (by kernel_rfl) (by kernel_rfl) (by kernel_rfl) (fun _ _ _ _ ⟨_, _, _, _, h⟩ => h) ?_
    simp [go_sem]
    repeat' (first | apply And.intro | (refine call_val ex15 rfl rfl ?_; simp [go_sem]) |
      (refine callK_freeze 19 (by simp [go_sem]; rfl) ?_; simp [go_sem]; refine call_val (ask1 (a := 4) rfl) rfl rfl ?_; simp [go_sem]) |
      (refine callK_freeze 20 (by simp [go_sem]; rfl) ?_; simp [go_sem]; refine call_val (ask1 (a := 4) rfl) rfl rfl ?_; simp [go_sem]))
    all_goals
      refine vq_step (GSt.bump 40) ?_
      refine vq_mvP 16 60 (by simp [go_sem]; exact ⟨rfl, rfl, rfl, rfl⟩) (by simp) ?_
      refine vq_done ?_
      simp [go_sem, eqS, JP]
  rintro J M nx ⟨m16, m18, m60, rfl⟩
  simp [go_sem]
  refine GDraw_l (t := (.take 0 (.alt 1 [0] (.alt 2 [0] (.alt 3 [0] (.take 4 (.take 5 (.take 6 (.take 7 (.done [7, 6, 5, 4]))))) .nil) .nil) .nil))) T_ok (by kernel_rfl) (by kernel_rfl) (by kernel_rfl) (fun _ _ _ _ h => h) ?_
  simp [go_sem, m16, m18]
  refine callK_freeze 61 (by simp [go_sem]; rfl) ?_
  simp [go_sem]
  refine call_val (ask1 (a := 4) rfl) rfl rfl ?_
  simp [go_sem, m16, m18]
  refine call_val (ex_ans exG2 (exQ 31 1 (k1 4)) exG2_OK (exQ_OK (by decide)) (r1 := 0) (r2 := false) (r3 := 0) (r4 := 0) (r5 := 90) (by decide +kernel)) rfl rfl ?_
  simp [go_sem, m16, m18]
  refine call_val (ex_rev exG2 exG2_OK 5 1 (r1 := 0) (r2 := exG3) (by decide +kernel) rfl) rfl rfl ?_
  simp [go_sem, m16, m18]
  refine call_val (ex_rev exG1 exG1_OK 5 1 (r1 := 6) (r2 := RG.nil) (by decide +kernel) rfl) rfl rfl ?_
  simp [go_sem, m16, m18]
  refine call_val some65 rfl rfl ?_
  simp [go_sem]
  refine call_val (ex_prune exG exG_OK 45 (r1 := 0) (r2 := exG4) (by decide +kernel) rfl) rfl rfl ?_
  simp [go_sem]
  refine call_val some65 rfl rfl ?_
  simp [go_sem]
  refine call_val (ex_forget exG exG_OK 5 (r1 := 0) (r2 := exG5) (by decide +kernel) rfl) rfl rfl ?_
  simp [go_sem]
  refine call_val some65 rfl rfl ?_
  simp [go_sem]
  refine call_val (ex_mark exG exG_OK ⟨8, 0, 0, 1, 0⟩ (r1 := 2) (r2 := RG.nil) (by decide +kernel) rfl) rfl rfl ?_
  simp [go_sem]
  refine callK_freeze 66 (by simp [go_sem]; rfl) ?_
  simp [go_sem]
  refine call_val (ask2 (a := 4) (b := 4) rfl rfl) rfl rfl ?_
  simp [go_sem, m16, m18, m60]
  refine call_val ex_same rfl rfl ?_
  have n1 : exG4.nw = 0 := by decide +kernel
  have n2 : exG4.nm = 1 := by decide +kernel
  have n3 : exG4.nr = 2 := by decide +kernel
  have n4 : exG5.nm = 0 := by decide +kernel
  have n5 : exG5.nw = 0 := by decide +kernel
  simp [go_sem, m16, m18, m60, n1, n2, n3, n4, n5]
  refine call_val ex_bad rfl rfl ?_
  simp [go_sem, m16, m18, m60]
  refine call_val (ask0 (-1)) rfl rfl ?_
  simp [go_sem, m16, m18, m60]
  refine call_val ex_time rfl rfl ?_
  simp [go_sem, m16, m18, m60]
  refine call_lent (v := .i 8) ?_ rfl ?_
  · simp [go_sem]
    refine (check28 exB exB_OK).val (v' := .i 8) (congrArg SV.i (by decide +kernel)) |>.args ⟨le_aggZ ⟨le_rs fun i j hi hj => ?_, SV.le_of_sub rfl, SV.le_of_sub rfl, SV.le_of_sub rfl, trivial⟩, trivial⟩
    have hi0 : i = 0 := by omega
    subst hi0
    rcases lt8 hj with rfl | rfl | rfl | rfl | rfl | rfl | rfl | rfl <;> rfl
  simp [go_sem]
end Go.Gx.Rg
