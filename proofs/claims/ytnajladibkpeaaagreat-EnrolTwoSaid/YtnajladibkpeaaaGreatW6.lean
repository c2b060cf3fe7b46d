/-
  Registers that read alike; the same told of less.
-/
import Derived.Test.YtnajladibkpeaaaGreatU7
import Derived.Test.YtnajladibkpeaaaGreatV2
import Derived.Test.YtnajladibkpeaaaGreatU8
import Derived.Test.YtnajladibkpeaaaGreatV1
import Derived.Test.YtnajladibkpeaaaGreatU9
import Derived.Test.YtnajladibkpeaaaGreatU3
import Derived.Test.YtnajladibkpeaaaGreatU4
set_option linter.unusedVariables false
set_option linter.unusedSimpArgs false
set_option maxRecDepth 20000
set_option maxHeartbeats 4000000
namespace Go.Gx
open Go.RowKit Go.Proofs Go.Proofs.YtnajladibkpeaaaGreat

def RV.le (x y : RV) : Prop := ∀ (Z : Nat → Prop) (w : World) (v : Value), x.rel Z w v → y.rel Z w v
theorem RV.le_rfl {x : RV} : x.le x := fun _ _ _ h => h
theorem RV.le_eq {x y : RV} (h : x = y) : x.le y := h ▸ RV.le_rfl
theorem rle_rs {k n : Nat} {get get' : Nat → Nat → RV} (h : ∀ i j, i < n → j < k → (get i j).le (get' i j)) : (RV.rs k n get).le (.rs k n get') := by
  intro Z w y hy
  obtain ⟨A, c, h1, h2, h3⟩ := hy
  refine ⟨A, c, h1, h2, fun h0 => ?_⟩
  obtain ⟨b, o, h4, h5, h6⟩ := h3 h0
  refine ⟨b, o, h4, h5, fun i j hi hj => ?_⟩
  obtain ⟨v, e1, e2, e3⟩ := h6 i j hi hj
  exact ⟨v, e1, e2, h i j hi hj _ _ _ e3⟩
theorem le_r {x y : RV} (h : x.le y) : (SV.r x).le (.r y) := fun Z w v hv => h Z w v hv
theorem le_agg {l l' : List SV} (h : leL l l') : (SV.agg l).le (.agg l') := fun Z w y hy => by
  obtain ⟨vs, e, h1, h2⟩ := hy
  exact ⟨vs, e, h1, leL_rel _ _ _ h h2⟩
theorem le_tup {l l' : List SV} (h : leL l l') : (SV.tup l).le (.tup l') := fun Z w y hy => by
  obtain ⟨vs, e, h2⟩ := hy
  exact ⟨vs, e, leL_rel _ _ _ h h2⟩
theorem Pure.ofLe {P : Program} {f : FuncId} {args : List SV} {v : SV} (h : Pure P f args fun s => s.le v) : Pure P f args (· = v) := by
  intro Z w vs hz ha
  obtain ⟨h1, h2⟩ := h Z w vs hz ha
  refine ⟨h1, h2.mono fun e w' h => ?_⟩
  obtain ⟨y, s, a, b, c, d⟩ := h
  exact ⟨y, v, a, rfl, b _ _ _ c, d⟩
theorem Pure.le {P : Program} {f : FuncId} {args : List SV} {u v : SV} (h : Pure P f args (· = u)) (hl : u.le v) : Pure P f args (· = v) := Pure.ofLe (h.mono fun s e => e ▸ hl)
theorem RcG.eqB_eq {x y : RcG} (h : x.eqB y = true) : x = y := by
  obtain ⟨a, b⟩ := x; obtain ⟨c, d⟩ := y
  simp [RcG.eqB] at h; simp [h]
theorem LkG.eqB_eq {x y : LkG} (h : x.eqB y = true) : x = y := by
  obtain ⟨a, b, e⟩ := x; obtain ⟨c, d, f⟩ := y
  simp [LkG.eqB] at h; simp [h]
theorem VtG.eqB_eq {x y : VtG} (h : x.eqB y = true) : x = y := by
  obtain ⟨a, b⟩ := x; obtain ⟨c, d⟩ := y
  simp [VtG.eqB] at h; simp [h]
theorem CsG.le_c {x y : CsG} (h : x.eqB y = true) (j : Nat) : (x.c j).le (y.c j) := by
  simp only [CsG.eqB, Bool.and_eq_true, decide_eq_true_eq] at h
  obtain ⟨⟨h1, h2⟩, h3, h4⟩ := h
  match j with
  | 0 => exact RV.le_eq (by simp [go_sem, h1])
  | 1 => exact RV.le_eq (by simp [go_sem, h2])
  | j + 2 =>
    show (RV.rs 2 x.nv fun i j => (x.v i).c j).le (.rs 2 y.nv fun i j => (y.v i).c j)
    rw [← h3]
    refine rle_rs fun i j hi _ => RV.le_eq ?_
    rw [VtG.eqB_eq (List.all_eq_true.1 h4 i (List.mem_range.2 hi))]
theorem EG.le_sm {g k : EG} (h : g.smB k = true) : g.sv.le k.sv := by
  simp only [EG.smB, Bool.and_eq_true, decide_eq_true_eq] at h
  obtain ⟨⟨⟨h1, h2⟩, h3, h4⟩, h5, h6⟩ := h
  refine le_agg ⟨?_, ?_, ?_, trivial⟩
  · unfold EG.rr; rw [← h1]; exact le_r (rle_rs fun i j hi _ => RV.le_eq (by rw [RcG.eqB_eq (List.all_eq_true.1 h2 i (List.mem_range.2 hi))]))
  · unfold EG.ll; rw [← h3]; exact le_r (rle_rs fun i j hi _ => RV.le_eq (by rw [LkG.eqB_eq (List.all_eq_true.1 h4 i (List.mem_range.2 hi))]))
  · unfold EG.cc; rw [← h5]; exact le_r (rle_rs fun i j hi _ => CsG.le_c (List.all_eq_true.1 h6 i (List.mem_range.2 hi)) j)
end Go.Gx
/-
  Add, Remove, Vote, Withdraw, as they read: no memory of the caller's own.
-/
set_option linter.unusedVariables false
set_option linter.unusedSimpArgs false
set_option maxRecDepth 20000
set_option maxHeartbeats 4000000
namespace Go.Gx
open Go.RowKit Go.Proofs Go.Proofs.YtnajladibkpeaaaGreat

theorem pure_i {f : FuncId} {args : List SV} {g : EG} {n : Int} (h : Own Tryz.prog f [] args (.tup [g.oS, .i n]) g.oR) : Pure Tryz.prog f args (· = .tup [g.sv, .i n]) := by
  refine Pure.ofSub (h.pure ?_)
  unfold EG.oR
  rw [memR_famN]
  simp [go_sem]
  intro i j hi hj
  exact g.view_oc (by simp [go_sem, hi]) hj
theorem pure_ii {f : FuncId} {args : List SV} {g : EG} {m n : Int} (h : Own Tryz.prog f [] args (.tup [g.oS, .i m, .i n]) g.oR) : Pure Tryz.prog f args (· = .tup [g.sv, .i m, .i n]) := by
  refine Pure.ofSub (h.pure ?_)
  unfold EG.oR
  rw [memR_famN]
  simp [go_sem]
  intro i j hi hj
  exact g.view_oc (by simp [go_sem, hi]) hj
theorem pure_bi {f : FuncId} {args : List SV} {g : EG} {d : Bool} {n : Int} (h : Own Tryz.prog f [] args (.tup [g.oS, .b d, .i n]) g.oR) : Pure Tryz.prog f args (· = .tup [g.sv, .b d, .i n]) := by
  refine Pure.ofSub (h.pure ?_)
  unfold EG.oR
  rw [memR_famN]
  simp [go_sem]
  intro i j hi hj
  exact g.view_oc (by simp [go_sem, hi]) hj
def EG.zero : EG := ⟨0, fun _ => ⟨0, false⟩, 0, fun _ => ⟨0, 0, false⟩, 0, fun _ => ⟨0, 0, 0, fun _ => ⟨0, false⟩⟩⟩
theorem nil_i {f : FuncId} {args : List SV} {n : Int} (h : Own Tryz.prog f [] args (.tup [nilR, .i n]) []) : Pure Tryz.prog f args (· = .tup [EG.zero.sv, .i n]) := by
  refine Pure.ofSub (h.pure ?_)
  simp [go_sem, EG.zero]
theorem nil_ii {f : FuncId} {args : List SV} {m n : Int} (h : Own Tryz.prog f [] args (.tup [nilR, .i m, .i n]) []) : Pure Tryz.prog f args (· = .tup [EG.zero.sv, .i m, .i n]) := by
  refine Pure.ofSub (h.pure ?_)
  simp [go_sem, EG.zero]
theorem nil_bi {f : FuncId} {args : List SV} {d : Bool} {n : Int} (h : Own Tryz.prog f [] args (.tup [nilR, .b d, .i n]) []) : Pure Tryz.prog f args (· = .tup [EG.zero.sv, .b d, .i n]) := by
  refine Pure.ofSub (h.pure ?_)
  simp [go_sem, EG.zero]
def EG.addE (g : EG) (q : Int) : Int := if g.valid = false then 8 else if ¬ (0 ≤ q ∧ q ≤ 100) then 2 else if g.nr = 24 then 9 else 0
def EG.addX (g : EG) (q : Int) : EG := if g.addE q = 0 then g.addG q else EG.zero
def EG.addN (g : EG) (q : Int) : Int := if g.addE q = 0 then g.nr else 0
theorem add26p {g : EG} (h : g.Sm) (q : Int) : Pure Tryz.prog 26 [g.sv, .i q] (· = .tup [(g.addX q).sv, .i (g.addN q), .i (g.addE q)]) := by
  unfold EG.addX EG.addN EG.addE
  by_cases hv : g.valid = true
  rotate_left
  · have hv' : g.valid = false := by simpa using hv
    simpa [hv'] using nil_ii (add_bad h.ok hv' q)
  by_cases h0 : 0 ≤ q ∧ q ≤ 100
  rotate_left
  · simpa [hv, h0] using nil_ii (add_range h hv h0)
  by_cases hn : g.nr = 24
  · simpa [hv, h0, hn] using nil_ii (add_full h hv h0 hn)
  have hr := EG.valid_nr hv
  simpa [hv, h0, hn] using pure_ii (add26 h hv h0.1 h0.2 (by omega))
def EG.remE (g : EG) (a : Int) : Int := if g.valid = false then 8 else if g.th a = false then 6 else 0
def EG.remX (g : EG) (a : Int) : EG := if g.remE a = 0 then g.remG a.toNat else EG.zero
theorem rem28p {g : EG} (h : g.Sm) (a : Int) : Pure Tryz.prog 22 [g.sv, .i a] (· = .tup [(g.remX a).sv, .i (g.remE a)]) := by
  unfold EG.remX EG.remE
  by_cases hv : g.valid = true
  rotate_left
  · have hv' : g.valid = false := by simpa using hv
    simpa [hv'] using nil_i (remove_bad h.ok hv' a)
  by_cases ht : g.th a = true
  rotate_left
  · have ht' : g.th a = false := by simpa using ht
    simpa [hv, ht'] using nil_i (remove_no h hv ht')
  obtain ⟨n, rfl⟩ : ∃ n : Nat, a = n := ⟨a.toNat, by have := EG.th_iff.1 ht; omega⟩
  simpa [hv, ht] using pure_i (remove28 h hv ht)
def EG.wdE (g : EG) (a b : Int) : Int := if g.valid = false then 8 else if g.lin (min a b) (max a b) = false then 6 else 0
def EG.wdX (g : EG) (a b : Int) : EG := if g.wdE a b = 0 then g.dropL (g.lat (min a b) (max a b)) else EG.zero
theorem wd37p {g : EG} (h : g.Sm) (a b : Int) : Pure Tryz.prog 18 [g.sv, .i a, .i b] (· = .tup [(g.wdX a b).sv, .i (g.wdE a b)]) := by
  unfold EG.wdX EG.wdE
  by_cases hv : g.valid = true
  rotate_left
  · have hv' : g.valid = false := by simpa using hv
    simpa [hv'] using nil_i (withdraw_bad h.ok hv' a b)
  by_cases ht : g.lin (min a b) (max a b) = true
  rotate_left
  · have ht' : g.lin (min a b) (max a b) = false := by simpa using ht
    simpa [hv, ht'] using nil_i (withdraw_no h hv ht')
  simpa [hv, ht] using pure_i (withdraw37 h hv ht)
def EG.voteX (g : EG) (o a b : Int) (s : Bool) : EG := if g.voteE o a b s = 0 then g.voteG o a b s else EG.zero
def EG.voteB (g : EG) (o a b : Int) (s : Bool) : Bool := if g.voteE o a b s = 0 then g.voteD a b s else false
theorem vote35p {g : EG} (h : g.Sm) (o a b : Int) (s : Bool) : Pure Tryz.prog 14 [g.sv, .i o, .i a, .i b, .b s] (· = .tup [(g.voteX o a b s).sv, .b (g.voteB o a b s), .i (g.voteE o a b s)]) := by
  have hv := vote35 h o a b s
  unfold EG.voteX EG.voteB
  unfold EG.voteS EG.voteR at hv
  by_cases e : g.voteE o a b s = 0
  · rw [if_pos e, if_pos e] at hv
    rw [if_pos e, if_pos e]
    simpa [e] using pure_bi hv
  · rw [if_neg e, if_neg e] at hv
    rw [if_neg e, if_neg e]
    exact nil_bi hv
end Go.Gx
/-
  both, five, joined; small registers.
-/
set_option linter.unusedVariables false
set_option linter.unusedSimpArgs false
set_option maxRecDepth 20000
set_option maxHeartbeats 4000000
namespace Go.Gx
open Go.RowKit Go.Proofs Go.Proofs.YtnajladibkpeaaaGreat

/-- No number of it is above k. -/
structure EG.Bd (g : EG) (k : Nat) : Prop where
  nr : g.nr ≤ k
  nl : g.nl ≤ k
  nc : g.nc ≤ k
  nv : ∀ i, i < g.nc → (g.c i).nv ≤ k
theorem EG.Bd.sm {g : EG} {k : Nat} (h : g.Bd k) (hk : k ≤ 1000) : g.Sm := ⟨Nat.le_trans h.nr hk, Nat.le_trans h.nl hk, Nat.le_trans h.nc hk, fun i hi => Nat.le_trans (h.nv i hi) hk⟩
theorem EG.Bd.mono {g : EG} {k n : Nat} (h : g.Bd k) (hk : k ≤ n) : g.Bd n := ⟨Nat.le_trans h.nr hk, Nat.le_trans h.nl hk, Nat.le_trans h.nc hk, fun i hi => Nat.le_trans (h.nv i hi) hk⟩
theorem EG.Bd.of_great {g : EG} (h : g.great = false) : g.Bd 60 := by
  obtain ⟨_, h1, h2, h3, h4⟩ := EG.OK_of h
  exact ⟨by omega, by omega, by omega, fun i hi => by have := h4 i hi; omega⟩
theorem EG.Bd.zero : EG.zero.Bd 0 := ⟨Nat.le_refl _, Nat.le_refl _, Nat.le_refl _, fun i hi => Nat.le_refl _⟩
theorem EG.Bd.add {g : EG} {k : Nat} (h : g.Bd k) (q : Int) : (g.addX q).Bd (k + 1) := by
  unfold EG.addX
  split
  · exact ⟨Nat.succ_le_succ h.nr, Nat.le_succ_of_le h.nl, Nat.le_succ_of_le h.nc, fun i hi => Nat.le_succ_of_le (h.nv i hi)⟩
  · exact EG.Bd.zero.mono (Nat.zero_le _)
theorem kept_get {p : Nat → Bool} {n i : Nat} (hi : i < (kept p n).length) : (kept p n)[i]?.getD 0 < n := by
  rw [List.getElem?_eq_getElem hi, Option.getD_some]
  exact List.mem_range.1 (List.mem_filter.1 (List.getElem_mem hi)).1
theorem EG.Bd.rem {g : EG} {k : Nat} (h : g.Bd k) (a : Int) : (g.remX a).Bd k := by
  unfold EG.remX
  split
  · exact ⟨h.nr, Nat.le_trans (kept_le _ _) h.nl, Nat.le_trans (kept_le _ _) h.nc, fun i hi => h.nv _ (kept_get hi)⟩
  · exact EG.Bd.zero.mono (Nat.zero_le _)
theorem EG.Bd.wd {g : EG} {k : Nat} (h : g.Bd k) (a b : Int) : (g.wdX a b).Bd k := by
  unfold EG.wdX
  split
  · exact ⟨h.nr, Nat.le_trans (Nat.sub_le _ _) h.nl, h.nc, h.nv⟩
  · exact EG.Bd.zero.mono (Nat.zero_le _)
theorem EG.Bd.vote {g : EG} {k : Nat} (h : g.Bd k) (o a b : Int) (s : Bool) : (g.voteX o a b s).Bd (k + 1) := by
  unfold EG.voteX
  split
  · unfold EG.voteG
    split
    · refine ⟨Nat.le_succ_of_le h.nr, Nat.le_succ_of_le h.nl, Nat.succ_le_succ h.nc, fun i hi => ?_⟩
      simp only [EG.addC] at hi ⊢
      split
      · exact Nat.le_succ_of_le (h.nv _ (by have := g.cat_le (min a b) (max a b); omega))
      · split
        · exact Nat.succ_le_succ (Nat.zero_le _)
        · exact Nat.le_succ_of_le (h.nv _ (by omega))
    · split
      · refine ⟨Nat.le_succ_of_le h.nr, Nat.le_succ_of_le h.nl, Nat.le_succ_of_le h.nc, fun i hi => ?_⟩
        simp only [EG.addV] at hi ⊢
        have hi' : i < g.nc := hi
        split
        · rename_i e
          rw [← e]
          exact Nat.succ_le_succ (h.nv _ hi')
        · exact Nat.le_succ_of_le (h.nv _ hi')
      · refine ⟨Nat.le_succ_of_le h.nr, Nat.succ_le_succ h.nl, ?_, fun i hi => ?_⟩
        · have := h.nc
          show g.nc - 1 ≤ k + 1
          omega
        · have hi' : i < g.nc - 1 := hi
          simp only [EG.addL, EG.dropC]
          split
          · exact Nat.le_succ_of_le (h.nv _ (by omega))
          · exact Nat.le_succ_of_le (h.nv _ (by omega))
  · exact EG.Bd.zero.mono (Nat.zero_le _)

def EG.boX (g : EG) (a b : Int) (s : Bool) : EG := (g.voteX 1 a b s).voteX 2 b a s
def EG.boB (g : EG) (a b : Int) (s : Bool) : Bool := decide (g.voteE 1 a b s = 0) && decide ((g.voteX 1 a b s).voteE 2 b a s = 0) && !g.voteB 1 a b s && (g.voteX 1 a b s).voteB 2 b a s
theorem both101 {g : EG} (h : g.Bd 900) (a b : Int) (s : Bool) : Pure Tryz.prog 31 [g.sv, .i a, .i b, .b s] (· = .tup [(g.boX a b s).sv, .b (g.boB a b s)]) := by
  refine pure_of_GC T_ok Tryz.func31 rfl (by kernel_rfl) (Nat.le_of_ble_eq_true rfl) rfl rfl ?_
  simp [go_sem]
  refine call_val (vote35p (h.sm (by decide)) 1 a b s) rfl rfl ?_
  simp [go_sem]
  refine call_val (vote35p ((h.vote 1 a b s).sm (by decide)) 2 b a s) rfl rfl ?_
  unfold EG.boX EG.boB
  generalize g.voteX 1 a b s = x
  generalize x.voteX 2 b a s = y
  generalize g.voteE 1 a b s = e1
  generalize x.voteE 2 b a s = e2
  generalize g.voteB 1 a b s = b1
  generalize x.voteB 2 b a s = b2
  by_cases h1 : e1 = 0 <;> by_cases h2 : e2 = 0 <;> cases b1 <;> cases b2 <;> simp [go_sem, h1, h2]
/-- The number of the people; whether two records are one person. -/
def EG.ppN (g : EG) : Nat := if g.valid then (g.ppl g.nr).length else 0
def EG.joB (g : EG) (a b : Int) : Bool := g.valid && g.th a && g.th b && decide (g.q a = g.q b)
theorem EG.ppS_len (g : EG) : (g.valid = true ∧ g.ppS = llS (g.ppl g.nr) ∧ g.ppN = (g.ppl g.nr).length) ∨ (g.valid = false ∧ g.ppS = nilS ∧ g.ppN = 0) := by
  unfold EG.ppS EG.ppN
  cases h : g.valid <;> simp
theorem EG.pE_q {g : EG} {a : Int} : (if g.pE a = 0 then g.pm g.nl a else 0) = if g.valid && g.th a then g.q a else 0 := by
  unfold EG.pE
  cases g.valid <;> cases g.th a <;> simp [EG.q]
theorem joined47 {g : EG} (h : g.Sm) (a b : Int) : Pure Tryz.prog 21 [g.sv, .i a, .i b] (· = .tup [.i g.ppN, .b (g.joB a b)]) := by
  refine pure_of_GC T_ok Tryz.func21 rfl (by kernel_rfl) (Nat.le_of_ble_eq_true rfl) rfl rfl ?_
  simp [go_sem]
  have hp := people17 g h.ok
  have ha := person13 g h.ok a
  have hb := person13 g h.ok b
  have hn : (g.ppl g.nr).length ≤ 1000 := Nat.le_trans (g.ppl_len _) h.nr
  unfold EG.joB
  rcases g.ppS_len with ⟨hv, e1, e2⟩ | ⟨hv, e1, e2⟩
  · rw [e1] at hp
    rw [e2]
    refine call_val hp rfl rfl ?_
    simp [go_sem]
    refine call_val ha rfl rfl ?_
    simp [go_sem]
    refine call_val hb rfl rfl ?_
    unfold EG.pE EG.q
    cases h1 : g.th a <;> cases h2 : g.th b <;> simp [go_sem, hv]
  · rw [e1] at hp
    rw [e2]
    refine call_val hp rfl rfl ?_
    simp [go_sem]
    refine call_val ha rfl rfl ?_
    simp [go_sem]
    refine call_val hb rfl rfl ?_
    unfold EG.pE
    simp [go_sem, hv]
end Go.Gx
/-
  five: the register of the chapter's examples.
-/
set_option linter.unusedVariables false
set_option linter.unusedSimpArgs false
set_option maxRecDepth 20000
set_option maxHeartbeats 4000000
namespace Go.Gx
open Go.RowKit Go.Proofs Go.Proofs.YtnajladibkpeaaaGreat

def fiveQ : List Int := [50, 80, 80, 10, 90]
/-- A register without cases. -/
def litR (n : Nat) (L : List LkG) : EG := ⟨n, fun i => ⟨fiveQ[i]?.getD 0, false⟩, L.length, fun i => L[i]?.getD ⟨0, 0, false⟩, 0, fun _ => ⟨0, 0, 0, fun _ => ⟨0, false⟩⟩⟩
def five : EG := litR 5 [⟨0, 3, true⟩, ⟨1, 3, true⟩, ⟨2, 3, false⟩]
theorem litR_bd (n : Nat) (hn : n ≤ 5) (L : List LkG) (hL : L.length ≤ 5) : (litR n L).Bd 900 := ⟨by show n ≤ 900; omega, by show L.length ≤ 900; omega, Nat.zero_le _, fun i hi => absurd hi (Nat.not_lt_zero _)⟩
theorem add_lit (k : Nat) (hk : k < 5) : Pure Tryz.prog 26 [(litR k []).sv, .i (fiveQ[k]?.getD 0)] (· = .tup [(litR (k + 1) []).sv, .i k, .i 0]) := by
  have h := add26p ((litR_bd k (by omega) [] (by decide)).sm (by decide)) (fiveQ[k]?.getD 0)
  have e : (litR k []).addE (fiveQ[k]?.getD 0) = 0 ∧ (litR k []).addN (fiveQ[k]?.getD 0) = k ∧ ((litR k []).addX (fiveQ[k]?.getD 0)).smB (litR (k + 1) []) = true := by
    rcases (by omega : k = 0 ∨ k = 1 ∨ k = 2 ∨ k = 3 ∨ k = 4) with rfl | rfl | rfl | rfl | rfl <;> decide
  rw [e.1, e.2.1] at h
  exact h.le (le_tup ⟨EG.le_sm e.2.2, SV.le.rfl, SV.le.rfl, trivial⟩)
theorem both_lit {L L' : List LkG} (hL : L.length ≤ 5) (a b : Int) (s d : Bool) (e1 : (litR 5 L).boB a b s = d) (e2 : ((litR 5 L).boX a b s).smB (litR 5 L') = true) :
    Pure Tryz.prog 31 [(litR 5 L).sv, .i a, .i b, .b s] (· = .tup [(litR 5 L').sv, .b d]) := by
  have h := both101 (litR_bd 5 (by decide) L hL) a b s
  rw [e1] at h
  exact h.le (le_tup ⟨EG.le_sm e2, SV.le.rfl, trivial⟩)
theorem b1 : Pure Tryz.prog 31 [(litR 5 []).sv, .i 0, .i 3, .b true] (· = .tup [(litR 5 [⟨0, 3, true⟩]).sv, .b true]) := both_lit (by decide) 0 3 true true (by kernel_rfl) (by kernel_rfl)
theorem b2 : Pure Tryz.prog 31 [(litR 5 [⟨0, 3, true⟩]).sv, .i 1, .i 3, .b true] (· = .tup [(litR 5 [⟨0, 3, true⟩, ⟨1, 3, true⟩]).sv, .b true]) := both_lit (by decide) 1 3 true true (by kernel_rfl) (by kernel_rfl)
theorem b3 : Pure Tryz.prog 31 [(litR 5 [⟨0, 3, true⟩, ⟨1, 3, true⟩]).sv, .i 2, .i 3, .b false] (· = .tup [five.sv, .b true]) := both_lit (by decide) 2 3 false true (by kernel_rfl) (by kernel_rfl)
theorem five100 : Pure Tryz.prog 25 [] (· = .tup [five.sv, .b true]) := by
  refine pure_of_GC T_ok Tryz.func25 rfl (by kernel_rfl) (Nat.le_of_ble_eq_true rfl) rfl rfl ?_
  simp [go_sem]
  refine GLoop_s T_ok (α := Nat) (fun k => [(0, .ptr 0 0 3 0), (2, .ptr 1 0 3 0), (3, .b true), (12, .sl 2 1 0 5 none), (13, .i 5), (14, .i k)]) (fun k => [some (.box [nilS, nilS, nilS]), (litR k []).bx, some (.vec 3 1 5 fun i j => .i (fiveQ[i]?.getD 0))]) 3
    (fun k => k ≤ 5) (fun k => 5 - k) 0 (fun _ => rfl) (by simp) (by simp [go_sem]) ?_ ?_
  · simp [go_sem, litR]
    intro i hi
    rcases (by omega : i = 0 ∨ i = 1 ∨ i = 2 ∨ i = 3 ∨ i = 4) with rfl | rfl | rfl | rfl | rfl <;> rfl
  intro k J hk
  by_cases hlt : k < 5
  · have hlt' : (k : Int) < 5 := by omega
    simp [go_sem, hlt, hlt']
    refine call_val (add_lit k hlt) rfl rfl ?_
    simp [go_sem]
    exact ⟨by omega, k + 1, by omega, by omega, by omega, ⟨rfl, fun _ _ _ _ => rfl⟩, ⟨rfl, fun _ _ _ _ => rfl⟩, rfl, fun _ _ _ _ => rfl⟩
  · have e : k = 5 := by omega
    subst e
    simp [go_sem]
    refine call_val b1 rfl rfl ?_
    simp [go_sem]
    refine call_val b2 rfl rfl ?_
    simp [go_sem]
    refine call_val b3 rfl rfl ?_
    simp [go_sem]
end Go.Gx
