/-
  Acts, and what has been said (plain).
-/
import Derived.Test.YtnajladibkpeaaaGreatX1
import Derived.Test.YtnajladibkpeaaaGreatW6
import Derived.Test.YtnajladibkpeaaaGreatW7
import Derived.Test.YtnajladibkpeaaaGreatFd
set_option linter.unusedVariables false
set_option linter.unusedSimpArgs false
set_option maxRecDepth 20000
set_option maxHeartbeats 4000000
namespace Go.Gx
open Go.RowKit Go.Proofs Go.Proofs.YtnajladibkpeaaaGreat

structure AcG where
  k : Nat
  a : Nat
  b : Nat
  o : Nat
  s : Bool
def AcG.c (x : AcG) : Nat → RV
  | 0 => .v (.int .u8 x.k)
  | 1 => .v (.int .u8 x.a)
  | 2 => .v (.int .u8 x.b)
  | 3 => .v (.int .u8 x.o)
  | _ => .v (.bool x.s)
@[go_sem] theorem AcG.c0 (x : AcG) : x.c 0 = .v (.int .u8 x.k) := rfl
@[go_sem] theorem AcG.c1 (x : AcG) : x.c 1 = .v (.int .u8 x.a) := rfl
@[go_sem] theorem AcG.c2 (x : AcG) : x.c 2 = .v (.int .u8 x.b) := rfl
@[go_sem] theorem AcG.c3 (x : AcG) : x.c 3 = .v (.int .u8 x.o) := rfl
@[go_sem] theorem AcG.c4 (x : AcG) : x.c 4 = .v (.bool x.s) := rfl
structure AcG.OK (x : AcG) : Prop where
  k : x.k < 256
  a : x.a < 256
  b : x.b < 256
  o : x.o < 256
def EG.ax (g : EG) (v : Nat) : Int := if 0 < g.nr then ((v % g.nr : Nat) : Int) else v
def EG.acE (g : EG) (x : AcG) : Int :=
  if x.k % 6 = 0 then g.addE ((x.a % 101 : Nat) : Int) else if x.k % 6 = 1 then g.remE (g.ax x.a) else if x.k % 6 = 5 then g.wdE (g.ax x.a) (g.ax x.b) else g.voteE ((x.o % 8 : Nat) : Int) (g.ax x.a) (g.ax x.b) x.s
def EG.acX (g : EG) (x : AcG) : EG :=
  if x.k % 6 = 0 then g.addX ((x.a % 101 : Nat) : Int) else if x.k % 6 = 1 then g.remX (g.ax x.a) else if x.k % 6 = 5 then g.wdX (g.ax x.a) (g.ax x.b) else g.voteX ((x.o % 8 : Nat) : Int) (g.ax x.a) (g.ax x.b) x.s
def pcode (a b : Int) : Int := a * 4294967296 + b
def vcode (o : Int) (s : Bool) : Int := o * 2 + (if s = true then 1 else 0)
theorem pcode_inj {a b c d : Int} (h0 : 0 ≤ b) (h1 : b < 4294967296) (k0 : 0 ≤ d) (k1 : d < 4294967296) (h : pcode a b = pcode c d) : a = c ∧ b = d := by
  unfold pcode at h
  omega

/-- The register, and what has been said. -/
structure TS where
  g : EG
  H : Int → Bool
  S : Int → Int → Bool
def TS.D (t : TS) (a b o : Int) (s : Bool) : Prop := t.H (pcode a b) = true ∧ t.S (pcode a b) (vcode o s) = true
def TS.pc (t : TS) (x : AcG) : Int := pcode (min (t.g.ax x.a) (t.g.ax x.b)) (max (t.g.ax x.a) (t.g.ax x.b))
def AcG.vc (x : AcG) : Int := vcode ((x.o % 8 : Nat) : Int) x.s
def TS.step (t : TS) (x : AcG) : TS :=
  if t.g.acE x = 0 then
    if t.g.nr = 0 then ⟨t.g.acX x, t.H, t.S⟩ else
    if x.k % 6 = 2 ∨ x.k % 6 = 3 ∨ x.k % 6 = 4 then
      ⟨t.g.acX x, fun c => if c = t.pc x then true else t.H c, fun c v => if c = t.pc x then (if v = x.vc then true else t.H c && t.S c v) else t.S c v⟩
    else if x.k % 6 = 5 then ⟨t.g.acX x, fun c => if c = t.pc x then false else t.H c, t.S⟩
    else ⟨t.g.acX x, t.H, t.S⟩
  else t
def TS.run (l : Nat → AcG) : Nat → TS
  | 0 => ⟨EG.zero, fun _ => false, fun _ _ => false⟩
  | k + 1 => (TS.run l k).step (l k)
structure TS.OK (t : TS) (k : Nat) : Prop where
  val : t.g.Val
  bd : t.g.Bd k
  sd : SaidI t.g t.D
  vb : ∀ c v, t.H c = true → t.S c v = true → 0 ≤ v ∧ v < 16
theorem EG.ax_th {g : EG} {v : Nat} (h : g.th (g.ax v) = true) : 0 < g.nr := by
  have := EG.th_iff.1 h
  omega
theorem TS.ok_zero : (⟨EG.zero, fun _ => false, fun _ _ => false⟩ : TS).OK 0 := by
  refine ⟨⟨by decide, by decide, fun i hi => absurd hi (Nat.not_lt_zero _), fun a b _ hb => absurd hb (Nat.not_lt_zero _), fun i hi => absurd hi (Nat.not_lt_zero _), fun a b _ hb => absurd hb (Nat.not_lt_zero _), fun i hi => absurd hi (Nat.not_lt_zero _), fun i j hi => absurd hi (Nat.not_lt_zero _), fun i hi => absurd hi (Nat.not_lt_zero _), fun i hi => absurd hi (Nat.not_lt_zero _)⟩, EG.Bd.zero, ⟨fun i hi => absurd hi (Nat.not_lt_zero _), fun i hi => absurd hi (Nat.not_lt_zero _)⟩, fun c v h => by cases h⟩
theorem TS.OK.step {t : TS} {k : Nat} (h : t.OK k) (x : AcG) : (t.step x).OK (k + 1) := by
  unfold TS.step
  by_cases hE : t.g.acE x = 0
  rotate_left
  · rw [if_neg hE]
    exact ⟨h.val, h.bd.mono (Nat.le_succ k), h.sd, h.vb⟩
  rw [if_pos hE]
  have hr : x.k % 6 < 6 := Nat.mod_lt _ (by decide)
  have hvv := EG.val_iff.2 h.val
  unfold EG.acE at hE
  by_cases c0 : x.k % 6 = 0
  · -- a record more
    rw [if_pos c0] at hE
    have hX : t.g.acX x = t.g.addX ((x.a % 101 : Nat) : Int) := if_pos c0
    have hbd := h.bd.add ((x.a % 101 : Nat) : Int)
    have hG : t.g.addX ((x.a % 101 : Nat) : Int) = t.g.addG ((x.a % 101 : Nat) : Int) := if_pos hE
    have ok : (⟨t.g.acX x, t.H, t.S⟩ : TS).OK (k + 1) := by
      rw [hX]
      refine ⟨?_, hbd, ?_, h.vb⟩
      · show (t.g.addX _).Val
        rw [hG]
        unfold EG.addE at hE
        split at hE
        · cases hE
        split at hE
        · cases hE
        rename_i h1
        split at hE
        · cases hE
        rename_i h2
        have := h.val.nr
        exact h.val.addG (by omega) (by omega)
      · show SaidI (t.g.addX _) _
        rw [hG]
        exact h.sd.add _
    split
    · exact ok
    · rw [if_neg (by omega), if_neg (by omega)]; exact ok
  rw [if_neg c0] at hE
  by_cases c1 : x.k % 6 = 1
  · -- a record less
    rw [if_pos c1] at hE
    have hX : t.g.acX x = t.g.remX (t.g.ax x.a) := by unfold EG.acX; rw [if_neg c0, if_pos c1]
    have hbd := (h.bd.rem (t.g.ax x.a)).mono (Nat.le_succ k)
    have hG : t.g.remX (t.g.ax x.a) = t.g.remG (t.g.ax x.a).toNat := if_pos hE
    have ok : (⟨t.g.acX x, t.H, t.S⟩ : TS).OK (k + 1) := by
      rw [hX]
      refine ⟨?_, hbd, ?_, h.vb⟩
      · show (t.g.remX _).Val
        rw [hG]
        exact h.val.remG _
      · show SaidI (t.g.remX _) _
        rw [hG]
        exact h.sd.rem _
    split
    · exact ok
    · rw [if_neg (by omega), if_neg (by omega)]; exact ok
  rw [if_neg c1] at hE
  by_cases c5 : x.k % 6 = 5
  · -- a decision less
    rw [if_pos c5] at hE
    have hX : t.g.acX x = t.g.wdX (t.g.ax x.a) (t.g.ax x.b) := by unfold EG.acX; rw [if_neg c0, if_neg c1, if_pos c5]
    have hbd := (h.bd.wd (t.g.ax x.a) (t.g.ax x.b)).mono (Nat.le_succ k)
    have hl := (EG.wdE_zero hE).2
    obtain ⟨k1, k2, k3⟩ := EG.lin_some h.val hl
    have hlp := h.val.lp _ k1
    rw [k2, k3] at hlp
    have hn : ¬ t.g.nr = 0 := by
      have := EG.th_iff.1 hlp.1
      omega
    have b2 := th_bd h.val hlp.2.1
    rw [if_neg hn, if_neg (by omega), if_pos c5, hX]
    refine ⟨?_, hbd, ?_, ?_⟩
    · show (t.g.wdX _ _).Val
      rw [show t.g.wdX (t.g.ax x.a) (t.g.ax x.b) = t.g.dropL _ from if_pos hE]
      exact h.val.dropL _
    · show SaidI (t.g.wdX _ _) _
      rw [show t.g.wdX (t.g.ax x.a) (t.g.ax x.b) = t.g.dropL _ from if_pos hE]
      refine h.sd.wd h.val hl fun u v o s v0 v1 hne hD => ?_
      have hne' : ¬ pcode u v = t.pc x := fun e => hne (pcode_inj v0 (by omega) (by omega) (by omega) e)
      exact ⟨by show (if pcode u v = t.pc x then false else t.H (pcode u v)) = true; rw [if_neg hne']; exact hD.1, hD.2⟩
    · intro c v hc hs
      have hc : (if c = t.pc x then false else t.H c) = true := hc
      by_cases e : c = t.pc x
      · rw [if_pos e] at hc; cases hc
      · rw [if_neg e] at hc; exact h.vb c v hc hs
  rw [if_neg c5] at hE
  -- a vote
  have hX : t.g.acX x = t.g.voteX ((x.o % 8 : Nat) : Int) (t.g.ax x.a) (t.g.ax x.b) x.s := by unfold EG.acX; rw [if_neg c0, if_neg c1, if_neg c5]
  have hbd := h.bd.vote ((x.o % 8 : Nat) : Int) (t.g.ax x.a) (t.g.ax x.b) x.s
  obtain ⟨_, ho, _, ta, _⟩ := EG.voteE_zero hE
  have hn : ¬ t.g.nr = 0 := by
    have := EG.th_iff.1 ta
    omega
  rw [if_neg hn, if_pos (by omega), hX]
  have hG : t.g.voteX ((x.o % 8 : Nat) : Int) (t.g.ax x.a) (t.g.ax x.b) x.s = t.g.voteG ((x.o % 8 : Nat) : Int) (t.g.ax x.a) (t.g.ax x.b) x.s := if_pos hE
  refine ⟨?_, hbd, ?_, ?_⟩
  · show (t.g.voteX _ _ _ _).Val
    rw [hG]
    exact EG.Val.vote hE
  · show SaidI (t.g.voteX _ _ _ _) _
    rw [hG]
    refine h.sd.vote hE (fun u v o s hD => ?_) ?_
    · refine ⟨?_, ?_⟩
      · show (if pcode u v = t.pc x then true else t.H (pcode u v)) = true
        split
        · rfl
        · exact hD.1
      · show (if pcode u v = t.pc x then (if vcode o s = x.vc then true else t.H (pcode u v) && t.S (pcode u v) (vcode o s)) else t.S (pcode u v) (vcode o s)) = true
        split
        · split
          · rfl
          · rw [hD.1, hD.2]; rfl
        · exact hD.2
    · refine ⟨?_, ?_⟩
      · show (if t.pc x = t.pc x then true else t.H (t.pc x)) = true
        rw [if_pos rfl]
      · show (if t.pc x = t.pc x then (if x.vc = x.vc then true else _) else _) = true
        rw [if_pos rfl, if_pos rfl]
  · intro c v hc hs
    have hc : (if c = t.pc x then true else t.H c) = true := hc
    have hs : (if c = t.pc x then (if v = x.vc then true else t.H c && t.S c v) else t.S c v) = true := hs
    by_cases e : c = t.pc x
    · rw [if_pos e] at hs
      by_cases e2 : v = x.vc
      · subst e2
        unfold AcG.vc vcode
        split <;> omega
      · rw [if_neg e2, Bool.and_eq_true] at hs
        exact h.vb c v hs.1 hs.2
    · rw [if_neg e] at hc hs
      exact h.vb c v hc hs
theorem TS.run_ok (l : Nat → AcG) : ∀ k, (TS.run l k).OK k
  | 0 => TS.ok_zero
  | k + 1 => (TS.run_ok l k).step (l k)
/-- The votes that say s. -/
def saysC (s : Bool) (v : Int) : Bool := decide (decide (v % 2 = 1) = s)
def TS.cnt (t : TS) (c : Int) (s : Bool) (left : Int → Bool) : Nat := (((List.range 16).map fun i : Nat => (i : Int)).filter fun v => t.S c v && saysC s v && !left v).length
def TS.lef (t : TS) (c : Int) (left : Int → Bool) : Nat := (((List.range 16).map fun i : Nat => (i : Int)).filter fun v => t.S c v && left v).length
theorem filt_more {l : List Int} {a : Int} {p q : Int → Bool} (hn : l.Nodup) (ha : a ∈ l) (h : ∀ c, c ≠ a → q c = p c) (h0 : p a = false) (h1 : q a = true) : (l.filter q).length = (l.filter p).length + 1 := by
  induction l with
  | nil => simp at ha
  | cons x l ih =>
    obtain ⟨n1, n2⟩ := List.nodup_cons.1 hn
    by_cases hx : x = a
    · subst hx
      have e : l.filter q = l.filter p := List.filter_congr fun c hc => h c fun e => n1 (e ▸ hc)
      rw [List.filter_cons, List.filter_cons, h1, h0, e]
      simp
    · have := ih n2 ((List.mem_cons.1 ha).resolve_left fun e => hx e.symm)
      rw [List.filter_cons, List.filter_cons, h x hx]
      cases p x <;> simp [this]
theorem r16_nodup : ((List.range 16).map fun i : Nat => (i : Int)).Nodup := by decide
theorem r16_mem {v : Int} (h : 0 ≤ v ∧ v < 16) : v ∈ (List.range 16).map fun i : Nat => (i : Int) := List.mem_map.2 ⟨v.toNat, List.mem_range.2 (by omega), by show ((v.toNat : Nat) : Int) = v; omega⟩
theorem two_in {α : Type} {l : List α} {x y : α} (hx : x ∈ l) (hy : y ∈ l) (hne : x ≠ y) : 2 ≤ l.length := by
  match l, hx, hy with
  | [], h, _ => simp at h
  | [z], h1, h2 =>
    rw [List.mem_singleton] at h1 h2
    exact absurd (h1.trans h2.symm) hne
  | _ :: _ :: _, _, _ => simp
theorem TS.cnt_le (t : TS) (c : Int) (s : Bool) (left : Int → Bool) : t.cnt c s left ≤ 16 := by
  unfold TS.cnt
  exact Nat.le_trans (List.length_filter_le _ _) (by simp)
theorem TS.cnt_zero (t : TS) (c : Int) (s : Bool) : t.cnt c s (t.S c) = 0 := by
  unfold TS.cnt
  rw [List.length_eq_zero_iff, List.filter_eq_nil_iff]
  intro v _
  cases t.S c v <;> simp
theorem TS.cnt_hit {t : TS} {c v : Int} {s : Bool} {left : Int → Bool} (hb : 0 ≤ v ∧ v < 16) (hs : t.S c v = true) (hl : left v = true) (hh : saysC s v = true) : t.cnt c s (fun y => left y && !decide (y = v)) = t.cnt c s left + 1 :=
  filt_more r16_nodup (r16_mem hb) (fun y hy => by simp [hy]) (by simp [hl]) (by simp [hs, hh])
theorem TS.cnt_no {t : TS} {c v : Int} {s : Bool} {left : Int → Bool} (hh : saysC s v = false) : t.cnt c s (fun y => left y && !decide (y = v)) = t.cnt c s left := by
  unfold TS.cnt
  congr 1
  refine List.filter_congr fun y hy => ?_
  by_cases e : y = v
  · subst e; simp [hh]
  · simp [e]
theorem TS.lef_less {t : TS} {c v : Int} {left : Int → Bool} (hb : 0 ≤ v ∧ v < 16) (hs : t.S c v = true) (hl : left v = true) : t.lef c (fun y => left y && !decide (y = v)) < t.lef c left := by
  have := filt_more (p := fun y => t.S c y && (left y && !decide (y = v))) (q := fun y => t.S c y && left y) r16_nodup (r16_mem hb) (fun y hy => by simp [hy]) (by simp) (by simp [hs, hl])
  unfold TS.lef
  rw [this]
  exact Nat.lt_succ_self _
/-- Two officers have said it. -/
theorem TS.cnt_two {t : TS} {k : Nat} (h : t.OK k) {i : Nat} (hi : i < t.g.nl) {left : Int → Bool} (h0 : ∀ v, t.S (pcode (t.g.l i).a (t.g.l i).b) v = true → left v = false) : 2 ≤ t.cnt (pcode (t.g.l i).a (t.g.l i).b) (t.g.l i).s left := by
  obtain ⟨o, p, hne, ⟨d1, d2⟩, ⟨_, d4⟩⟩ := h.sd.ls i hi
  have key : ∀ o : Int, t.S (pcode (t.g.l i).a (t.g.l i).b) (vcode o (t.g.l i).s) = true → vcode o (t.g.l i).s ∈ ((List.range 16).map fun i : Nat => (i : Int)).filter fun v => t.S (pcode (t.g.l i).a (t.g.l i).b) v && saysC (t.g.l i).s v && !left v := fun o ho => by
    refine List.mem_filter.2 ⟨r16_mem (h.vb _ _ d1 ho), ?_⟩
    rw [ho, h0 _ ho]
    have : saysC (t.g.l i).s (vcode o (t.g.l i).s) = true := by
      unfold saysC vcode
      cases (t.g.l i).s <;> simp <;> omega
    rw [this]; rfl
  refine two_in (key o d2) (key p d4) fun e => hne ?_
  unfold vcode at e
  omega
end Go.Gx
/-
  act: the register after an act.
-/
set_option linter.unusedVariables false
set_option linter.unusedSimpArgs false
set_option maxRecDepth 20000
set_option maxHeartbeats 4000000
namespace Go.Gx
open Go.RowKit Go.Proofs Go.Proofs.YtnajladibkpeaaaGreat

abbrev AcG.sv (x : AcG) : SV := .agg [.r (.v (.int .u8 x.k)), .r (.v (.int .u8 x.a)), .r (.v (.int .u8 x.b)), .r (.v (.int .u8 x.o)), .r (.v (.bool x.s))]
theorem tmodN (a b : Nat) : ((a : Int)).tmod (b : Int) = ((a % b : Nat) : Int) := by
  rw [Int.tmod_eq_emod_of_nonneg (Int.natCast_nonneg a)]
  simp
theorem act10 {g : EG} (h : g.Sm) (x : AcG) (hx : x.OK) : Pure Tryz.prog 10 [g.sv, x.sv] (· = .tup [(g.acX x).sv, .b (decide (g.acE x = 0))]) := by
  obtain ⟨x0, x1, x2, x3⟩ := hx
  have hr := h.nr
  have wa : IntKind.i64.wrap (x.a : Int) = x.a := wrap_inr (k := .i64) (by simp only [inr]; omega)
  have wb : IntKind.i64.wrap (x.b : Int) = x.b := wrap_inr (k := .i64) (by simp only [inr]; omega)
  have wo : IntKind.i64.wrap (x.o : Int) = x.o := wrap_inr (k := .i64) (by simp only [inr]; omega)
  have hk6 : x.k % 6 < 6 := Nat.mod_lt _ (by decide)
  have tk0 : (x.k : Int).tmod 6 = ((x.k % 6 : Nat) : Int) := tmodN x.k 6
  have tq : (x.a : Int).tmod 101 = ((x.a % 101 : Nat) : Int) := tmodN x.a 101
  have to : (x.o : Int).tmod 8 = ((x.o % 8 : Nat) : Int) := tmodN x.o 8
  generalize hQ : ((x.a % 101 : Nat) : Int) = q at tq
  generalize hO : ((x.o % 8 : Nat) : Int) = o at to
  refine pure_of_GC T_ok Tryz.func10 rfl (by kernel_rfl) (Nat.le_of_ble_eq_true rfl) rfl rfl ?_
  simp [go_sem]
  refine GDraw_all T_ok (by kernel_rfl) (by kernel_rfl) ?_
  by_cases hn : 0 < g.nr
  · have ta : (x.a : Int).tmod (g.nr : Int) = g.ax x.a := by rw [tmodN]; unfold EG.ax; rw [if_pos hn]
    have tb : (x.b : Int).tmod (g.nr : Int) = g.ax x.b := by rw [tmodN]; unfold EG.ax; rw [if_pos hn]
    have n0 : ¬ g.nr = 0 := by omega
    simp [go_sem, wa, wb, hn]
    refine GDraw_all T_ok (by kernel_rfl) (by kernel_rfl) ?_
    simp [go_sem, wa, wb, ta, tb, n0]
    by_cases c0 : x.k % 6 = 0
    · have eX : g.acX x = g.addX q := by unfold EG.acX; rw [if_pos c0, hQ]
      have eE : g.acE x = g.addE q := by unfold EG.acE; rw [if_pos c0, hQ]
      rw [eX, eE]
      have tk : (x.k : Int).tmod 6 = 0 := by rw [tk0, c0]; rfl
      simp [go_sem, tk, tq, to, wa, wb, wo]
      refine call_val (add26p h q) rfl rfl ?_
      simp [go_sem]
    by_cases c1 : x.k % 6 = 1
    · have eX : g.acX x = g.remX (g.ax x.a) := by unfold EG.acX; rw [if_neg c0, if_pos c1]
      have eE : g.acE x = g.remE (g.ax x.a) := by unfold EG.acE; rw [if_neg c0, if_pos c1]
      rw [eX, eE]
      have tk : (x.k : Int).tmod 6 = 1 := by rw [tk0, c1]; rfl
      simp [go_sem, tk, tq, to, wa, wb, wo]
      refine call_val (rem28p h (g.ax x.a)) rfl rfl ?_
      simp [go_sem]
    by_cases c5 : x.k % 6 = 5
    · have eX : g.acX x = g.wdX (g.ax x.a) (g.ax x.b) := by unfold EG.acX; rw [if_neg c0, if_neg c1, if_pos c5]
      have eE : g.acE x = g.wdE (g.ax x.a) (g.ax x.b) := by unfold EG.acE; rw [if_neg c0, if_neg c1, if_pos c5]
      rw [eX, eE]
      have tk : (x.k : Int).tmod 6 = 5 := by rw [tk0, c5]; rfl
      simp [go_sem, tk, tq, to, wa, wb, wo]
      refine call_val (wd37p h (g.ax x.a) (g.ax x.b)) rfl rfl ?_
      simp [go_sem]
    · have eX : g.acX x = g.voteX o (g.ax x.a) (g.ax x.b) x.s := by unfold EG.acX; rw [if_neg c0, if_neg c1, if_neg c5, hO]
      have eE : g.acE x = g.voteE o (g.ax x.a) (g.ax x.b) x.s := by unfold EG.acE; rw [if_neg c0, if_neg c1, if_neg c5, hO]
      rw [eX, eE]
      have k0 : ¬ (x.k : Int).tmod 6 = 0 := by rw [tk0]; omega
      have k1 : ¬ (x.k : Int).tmod 6 = 1 := by rw [tk0]; omega
      have k5 : ¬ (x.k : Int).tmod 6 = 5 := by rw [tk0]; omega
      simp [go_sem, k0, k1, k5, tq, to, wa, wb, wo]
      refine call_val (vote35p h o (g.ax x.a) (g.ax x.b) x.s) rfl rfl ?_
      simp [go_sem]
  · have ea : g.ax x.a = (x.a : Int) := if_neg hn
    have eb : g.ax x.b = (x.b : Int) := if_neg hn
    simp [go_sem, wa, wb, hn]
    by_cases c0 : x.k % 6 = 0
    · have eX : g.acX x = g.addX q := by unfold EG.acX; rw [if_pos c0, hQ]
      have eE : g.acE x = g.addE q := by unfold EG.acE; rw [if_pos c0, hQ]
      rw [eX, eE]
      have tk : (x.k : Int).tmod 6 = 0 := by rw [tk0, c0]; rfl
      simp [go_sem, tk, tq, to, wa, wb, wo]
      refine call_val (add26p h q) rfl rfl ?_
      simp [go_sem]
    by_cases c1 : x.k % 6 = 1
    · have eX : g.acX x = g.remX (x.a : Int) := by unfold EG.acX; rw [if_neg c0, if_pos c1, ea]
      have eE : g.acE x = g.remE (x.a : Int) := by unfold EG.acE; rw [if_neg c0, if_pos c1, ea]
      rw [eX, eE]
      have tk : (x.k : Int).tmod 6 = 1 := by rw [tk0, c1]; rfl
      simp [go_sem, tk, tq, to, wa, wb, wo]
      refine call_val (rem28p h (x.a : Int)) rfl rfl ?_
      simp [go_sem]
    by_cases c5 : x.k % 6 = 5
    · have eX : g.acX x = g.wdX (x.a : Int) (x.b : Int) := by unfold EG.acX; rw [if_neg c0, if_neg c1, if_pos c5, ea, eb]
      have eE : g.acE x = g.wdE (x.a : Int) (x.b : Int) := by unfold EG.acE; rw [if_neg c0, if_neg c1, if_pos c5, ea, eb]
      rw [eX, eE]
      have tk : (x.k : Int).tmod 6 = 5 := by rw [tk0, c5]; rfl
      simp [go_sem, tk, tq, to, wa, wb, wo]
      refine call_val (wd37p h (x.a : Int) (x.b : Int)) rfl rfl ?_
      simp [go_sem]
    · have eX : g.acX x = g.voteX o (x.a : Int) (x.b : Int) x.s := by unfold EG.acX; rw [if_neg c0, if_neg c1, if_neg c5, hO, ea, eb]
      have eE : g.acE x = g.voteE o (x.a : Int) (x.b : Int) x.s := by unfold EG.acE; rw [if_neg c0, if_neg c1, if_neg c5, hO, ea, eb]
      rw [eX, eE]
      have k0 : ¬ (x.k : Int).tmod 6 = 0 := by rw [tk0]; omega
      have k1 : ¬ (x.k : Int).tmod 6 = 1 := by rw [tk0]; omega
      have k5 : ¬ (x.k : Int).tmod 6 = 5 := by rw [tk0]; omega
      simp [go_sem, k0, k1, k5, tq, to, wa, wb, wo]
      refine call_val (vote35p h o (x.a : Int) (x.b : Int) x.s) rfl rfl ?_
      simp [go_sem]
end Go.Gx
/-
  The law of two officers.
-/
set_option linter.unusedVariables false
set_option linter.unusedSimpArgs false
set_option maxRecDepth 20000
set_option maxHeartbeats 4000000
namespace Go.Gx
open Go.RowKit Go.Proofs Go.Proofs.YtnajladibkpeaaaGreat

/-- The register in its box, and the maps of what has been said. -/
structure TwI (t : TS) (M : Mem) (nx : Nat) (val : Int → SV) (pos : Int → Nat) : Prop where
  h0 : M 0 = t.g.bx
  hn : 2 ≤ nx
  hm : ∃ st, M 1 = some (.kmap .p t.H val st)
  hv : ∀ c, t.H c = true → val c = .mp (pos c) ∧ 2 ≤ pos c ∧ pos c < nx ∧ ∃ f st, M (pos c) = some (.kmap .v (t.S c) f st)
  hi : ∀ c d, t.H c = true → t.H d = true → pos c = pos d → c = d
theorem TwI.ext {t t' : TS} {M M' : Mem} {nx nx' : Nat} {val : Int → SV} {pos : Int → Nat} (h : TwI t M nx val pos) (eH : t'.H = t.H) (eS : t'.S = t.S) (h0 : M' 0 = t'.g.bx) (hM : ∀ r, 1 ≤ r → r < nx → M' r = M r) (hx : nx ≤ nx') : TwI t' M' nx' val pos := by
  have := h.hn
  refine ⟨h0, by omega, ?_, fun c hc => ?_, fun c d hc hd => h.hi c d (by rw [← eH]; exact hc) (by rw [← eH]; exact hd)⟩
  · obtain ⟨st, hs⟩ := h.hm
    exact ⟨st, by rw [hM 1 (by omega) (by omega), eH]; exact hs⟩
  · rw [eH] at hc
    obtain ⟨v1, v2, v3, f, st, v4⟩ := h.hv c hc
    exact ⟨v1, v2, by omega, f, st, by rw [hM _ (by omega) v3, eS]; exact v4⟩
/-- A vote more in a map that is there. -/
theorem TwI.vote {t t' : TS} {M M' : Mem} {nx nx' : Nat} {val : Int → SV} {pos : Int → Nat} {c v : Int} (h : TwI t M nx val pos) (hc : t.H c = true) (eH : t'.H = fun y => if y = c then true else t.H y) (eS : t'.S = fun y u => if y = c then (if u = v then true else t.H y && t.S y u) else t.S y u)
    (h0 : M' 0 = t'.g.bx) (hM : ∀ r, 1 ≤ r → r < nx → ¬ r = pos c → M' r = M r) (hq : ∃ f st, M' (pos c) = some (.kmap .v (fun u => if u = v then true else t.S c u) f st)) (hx : nx ≤ nx') : TwI t' M' nx' val pos := by
  have := h.hn
  have eH' : t'.H = t.H := by
    rw [eH]
    funext y
    by_cases e : y = c
    · rw [if_pos e, e, hc]
    · rw [if_neg e]
  refine ⟨h0, by omega, ?_, fun d hd => ?_, fun d e hd he => h.hi d e (by rw [← eH']; exact hd) (by rw [← eH']; exact he)⟩
  · obtain ⟨st, hs⟩ := h.hm
    have := (h.hv c hc).2.1
    exact ⟨st, by rw [hM 1 (by omega) (by omega) (by omega), eH']; exact hs⟩
  · rw [eH'] at hd
    obtain ⟨v1, v2, v3, f, st, v4⟩ := h.hv d hd
    refine ⟨v1, v2, by omega, ?_⟩
    by_cases e : d = c
    · subst e
      obtain ⟨f', st', h'⟩ := hq
      refine ⟨f', st', ?_⟩
      rw [h', eS]
      simp [hd]
    · exact ⟨f, st, by rw [hM _ (by omega) v3 (fun e' => e (h.hi d c hd hc e')), eS]; simp only [if_neg e]; exact v4⟩
/-- A vote in a new map. -/
theorem TwI.first {t t' : TS} {M M' : Mem} {nx nx' p : Nat} {val : Int → SV} {pos : Int → Nat} {c v : Int} (h : TwI t M nx val pos) (hc : t.H c = false) (eH : t'.H = fun y => if y = c then true else t.H y) (eS : t'.S = fun y u => if y = c then (if u = v then true else t.H y && t.S y u) else t.S y u)
    (h0 : M' 0 = t'.g.bx) (h1 : ∃ st, M' 1 = some (.kmap .p (fun y => if y = c then true else t.H y) (fun y => if y = c then .mp p else val y) st)) (hM : ∀ r, 2 ≤ r → r < nx → M' r = M r) (hp : nx ≤ p ∧ p < nx') (hq : ∃ f st, M' p = some (.kmap .v (fun u => if u = v then true else false) f st)) :
    TwI t' M' nx' (fun y => if y = c then .mp p else val y) (fun y => if y = c then p else pos y) := by
  have := h.hn
  refine ⟨h0, by omega, by rw [eH]; exact h1, fun d hd => ?_, fun d e hd he hde => ?_⟩
  · rw [eH] at hd
    by_cases e : d = c
    · subst e
      obtain ⟨f', st', h'⟩ := hq
      simp only [if_pos]
      refine ⟨trivial, by omega, hp.2, f', st', ?_⟩
      rw [h', eS]
      simp [hc]
    · simp only [if_neg e] at hd ⊢
      obtain ⟨v1, v2, v3, f, st, v4⟩ := h.hv d hd
      exact ⟨v1, v2, by omega, f, st, by rw [hM _ v2 v3, eS]; simp only [if_neg e]; exact v4⟩
  · rw [eH] at hd he
    have hlt : ∀ d, t.H d = true → pos d < nx := fun d hd => (h.hv d hd).2.2.1
    by_cases e1 : d = c
    · by_cases e2 : e = c
      · rw [e1, e2]
      · simp only [if_pos e1, if_neg e2] at hde he
        have := hlt e he
        omega
    · by_cases e2 : e = c
      · simp only [if_neg e1, if_pos e2] at hde hd
        have := hlt d hd
        omega
      · simp only [if_neg e1, if_neg e2] at hde hd he
        exact h.hi d e hd he hde
/-- A map less. -/
theorem TwI.gone {t t' : TS} {M M' : Mem} {nx nx' : Nat} {val : Int → SV} {pos : Int → Nat} {c : Int} (h : TwI t M nx val pos) (eH : t'.H = fun y => if y = c then false else t.H y) (eS : t'.S = t.S)
    (h0 : M' 0 = t'.g.bx) (h1 : ∃ st, M' 1 = some (.kmap .p (fun y => if y = c then false else t.H y) val st)) (hM : ∀ r, 2 ≤ r → r < nx → M' r = M r) (hx : nx ≤ nx') : TwI t' M' nx' val pos := by
  have := h.hn
  have hs : ∀ d, t'.H d = true → t.H d = true := fun d hd => by
    rw [eH] at hd
    by_cases e : d = c
    · simp [e] at hd
    · simpa [e] using hd
  refine ⟨h0, by omega, by rw [eH]; exact h1, fun d hd => ?_, fun d e hd he => h.hi d e (hs d hd) (hs e he)⟩
  obtain ⟨v1, v2, v3, f, st, v4⟩ := h.hv d (hs d hd)
  exact ⟨v1, v2, by omega, f, st, by rw [hM _ v2 v3, eS]; exact v4⟩
theorem GSt.wkBox {N : Cfg} {E : Env} {M : Mem} {nx : Nat} (p : Nat) {l l' : List SV} (hM : M p = some (.box l)) (h : SV.subL l l') : GSt N E M nx E (upd M p (some (.box l'))) nx :=
  GSt.wk fun r => by
    by_cases e : r = p
    · subst e
      rw [hM]
      simp only [upd, if_pos]
      exact .inl h
    · simp only [upd, if_neg e]
      cases M r with
      | none => exact .inl trivial
      | some R => exact .inl (Reg.sub_rfl _)
abbrev acts (n : Nat) (l : Nat → AcG) : SV := .r (.rs 5 n fun i j => (l i).c j)
theorem law3 (n : Nat) (l : Nat → AcG) (hl : ∀ i, (l i).OK) : Pure Tryz.prog 3 [acts n l] (· = .b true) := by
  refine pure_of_GC T_ok Tryz.func3 rfl (by kernel_rfl) (Nat.le_of_ble_eq_true rfl) rfl rfl ?_
  simp [go_sem]
  refine call_val alive46 rfl rfl ?_
  by_cases hn : 150 < n
  · have hn' : 150 < (n : Int) := by omega
    simp [go_sem, hn']
  have hn' : ¬ 150 < (n : Int) := by omega
  simp [go_sem, hn']
  refine GLoop_pre (GSt.wkBox 0 (l' := [EG.zero.rr, EG.zero.ll, EG.zero.cc]) (by simp [go_sem]; rfl) (by simp [go_sem, EG.zero])) ?_
  refine GLoop_p T_ok (α := Nat) (fun k => [(3, .b true), (4, .ptr 0 0 3 0), (5, .mp 1), (30, acts n l), (31, .i n), (32, .i k)])
    (fun k M nx => k ≤ n ∧ ∃ val pos, TwI (TS.run l k) M nx val pos) (fun k => n - k) 0 ?_ (by simp [go_sem]) ?_
  · refine ⟨Nat.zero_le _, fun _ => .r .any, fun _ => 0, ⟨?_, by decide, ⟨none, by simp [go_sem, TS.run]⟩, fun c hc => Bool.noConfusion hc, fun c d hc => Bool.noConfusion hc⟩⟩
    simp [go_sem, TS.run]
  rintro k J M nx hnx ⟨hk, val, pos, hI⟩
  have htok := TS.run_ok l k
  by_cases hlt : k < n
  rotate_left
  · have e : k = n := by omega
    subst e
    clear hlt hk
    generalize TS.run l k = t at *
    have hsm := htok.bd.sm (by omega)
    have hM0 := hI.h0
    have hnl := htok.bd.nl
    have hvv := EG.val_iff.2 htok.val
    have hc := check30 t.g hsm.ok
    rw [if_pos hvv] at hc
    simp [go_sem, hM0]
    refine call_val hc rfl rfl ?_
    simp [go_sem, hM0]
    refine GLoop_p T_ok (α := Nat) (fun i => [(3, .b true), (4, .ptr 0 0 3 0), (5, .mp 1), (100, t.g.ll), (101, .i t.g.nl), (102, .i i)])
      (fun i M nx => i ≤ t.g.nl ∧ ∃ val pos, TwI t M nx val pos) (fun i => t.g.nl - i) 0 ⟨Nat.zero_le _, val, pos, hI⟩ (by simp [go_sem]) ?_
    clear hI hM0
    rintro i J1 M nx hnx1 ⟨hi, val, pos, hI⟩
    by_cases hlt : i < t.g.nl
    rotate_left
    · simp [go_sem, hlt]
    obtain ⟨st, hM1⟩ := hI.hm
    have hM0 := hI.h0
    have n2 := hI.hn
    have e02 : ¬ 0 = nx := by omega
    have e03 : ¬ 0 = nx + 1 := by omega
    have e04 : ¬ 0 = nx + 1 + 1 := by omega
    have e05 : ¬ 0 = nx + 1 + 1 + 1 := by omega
    have e12 : ¬ 1 = nx := by omega
    have e13 : ¬ 1 = nx + 1 := by omega
    have e14 : ¬ 1 = nx + 1 + 1 := by omega
    have e15 : ¬ 1 = nx + 1 + 1 + 1 := by omega
    have e20 : ¬ nx = 0 := by omega
    have e21 : ¬ nx = 1 := by omega
    have e23 : ¬ nx = nx + 1 := by omega
    have e24 : ¬ nx = nx + 1 + 1 := by omega
    have e25 : ¬ nx = nx + 1 + 1 + 1 := by omega
    have e30 : ¬ nx + 1 = 0 := by omega
    have e31 : ¬ nx + 1 = 1 := by omega
    have e32 : ¬ nx + 1 = nx := by omega
    have e34 : ¬ nx + 1 = nx + 1 + 1 := by omega
    have e35 : ¬ nx + 1 = nx + 1 + 1 + 1 := by omega
    have e40 : ¬ nx + 1 + 1 = 0 := by omega
    have e41 : ¬ nx + 1 + 1 = 1 := by omega
    have e42 : ¬ nx + 1 + 1 = nx := by omega
    have e43 : ¬ nx + 1 + 1 = nx + 1 := by omega
    have e45 : ¬ nx + 1 + 1 = nx + 1 + 1 + 1 := by omega
    have e50 : ¬ nx + 1 + 1 + 1 = 0 := by omega
    have e51 : ¬ nx + 1 + 1 + 1 = 1 := by omega
    have e52 : ¬ nx + 1 + 1 + 1 = nx := by omega
    have e53 : ¬ nx + 1 + 1 + 1 = nx + 1 := by omega
    have e54 : ¬ nx + 1 + 1 + 1 = nx + 1 + 1 := by omega
    obtain ⟨_, _, _, ⟨hH, _⟩, _⟩ := htok.sd.ls i hlt
    have hlp := htok.val.lp i hlt
    have b1 := th_bd htok.val hlp.1
    have b2 := th_bd htok.val hlp.2.1
    have g0 := b2.1
    have g1 : (t.g.l i).b < 4294967296 := by omega
    have hwE := EG.link_wE htok.val hlt
    have htwo := fun left h0 => TS.cnt_two htok hlt (left := left) h0
    obtain ⟨v1, v2, v3, f0, st0, v4⟩ := hI.hv _ hH
    have hw := why20 t.g hsm.ok (by omega) (t.g.l i).a (t.g.l i).b
    generalize hq : pos (pcode (t.g.l i).a (t.g.l i).b) = q at v1 v2 v3 v4
    have q0 : ¬ q = 0 := by omega
    have q1 : ¬ q = 1 := by omega
    have q2 : ¬ q = nx := by omega
    have q3 : ¬ q = nx + 1 := by omega
    have q4 : ¬ q = nx + 1 + 1 := by omega
    have q5 : ¬ q = nx + 1 + 1 + 1 := by omega
    have p0 : ¬ 0 = q := by omega
    have p1 : ¬ 1 = q := by omega
    have p2 : ¬ nx = q := by omega
    have p3 : ¬ nx + 1 = q := by omega
    have p4 : ¬ nx + 1 + 1 = q := by omega
    have p5 : ¬ nx + 1 + 1 + 1 = q := by omega
    have hpc : pcode (t.g.l i).a (t.g.l i).b = (t.g.l i).a * 4294967296 + (t.g.l i).b := rfl
    have vb := fun v hv => htok.vb (pcode (t.g.l i).a (t.g.l i).b) v hH hv
    have cl := fun left => t.cnt_le (pcode (t.g.l i).a (t.g.l i).b) (t.g.l i).s left
    have cz := t.cnt_zero (pcode (t.g.l i).a (t.g.l i).b) (t.g.l i).s
    rw [hpc] at hH v1
    generalize hcc : pcode (t.g.l i).a (t.g.l i).b = c at *
    simp [go_sem, hlt, hM0, hM1, g0, g1, v1, v4, hH, q0, q1, q2, q3, q4, q5, p0, p1, p2, p3, p4, p5, e02, e03, e04, e05, e12, e13, e14, e15, e20, e21, e23, e24, e25, e30, e31, e32, e34, e35, e40, e41, e42, e43, e45, e50, e51, e52, e53, e54]
    have hHc : t.H c = true := by rw [hpc]; exact hH
    refine GOp_krange T_ok (kd := .v) (q := q) (has := t.S c) (val := f0) (st := st0) (by simp [go_sem]) (by simp [upd, v4, q0, q1, q2, q3, q4, q5, p0, p1, p2, p3, p4, p5, e02, e03, e04, e05, e12, e13, e14, e15, e20, e21, e23, e24, e25, e30, e31, e32, e34, e35, e40, e41, e42, e43, e45, e50, e51, e52, e53, e54]) (by kernel_rfl) (by simp [go_sem]) fun f' cl' => ?_
    simp [go_sem]
    generalize (t.g.l i).s = s at *
    generalize (t.g.l i).a = a at *
    generalize (t.g.l i).b = b at *
    refine GLoop_p T_ok (α := (Int → Bool) × Option Int) (fun x => [(3, .b true), (4, .ptr 0 0 3 0), (5, .mp 1), (15, .ptr nx 0 3 0), (16, .i (t.cnt c s x.1)), (100, t.g.ll), (101, .i t.g.nl), (102, .i i), (113, .ptr (nx + 1) 0 1 0)])
      (fun x M' nx' => nx + 2 ≤ nx' ∧ (∃ val pos, TwI t M' nx' val pos) ∧ M' q = some (.kmap .v (t.S c) f0 (some (f', cl'))) ∧ M' (nx + 1) = some (.iter (.mp q) f' cl' (t.S c) x.1 x.2) ∧ M' nx = some (.box [.i a, .i b, .b s]))
      (fun x => t.lef c x.1) (t.S c, none) ⟨by omega, ⟨val, pos, ?_⟩, ?_, ?_, ?_⟩ (by simp [go_sem, cz]) ?_
    · refine ⟨by simp [upd, hM0, q0, q1, q2, q3, q4, q5, p0, p1, p2, p3, p4, p5, e02, e03, e04, e05, e12, e13, e14, e15, e20, e21, e23, e24, e25, e30, e31, e32, e34, e35, e40, e41, e42, e43, e45, e50, e51, e52, e53, e54], by omega, ⟨st, by simp [upd, hM1, q0, q1, q2, q3, q4, q5, p0, p1, p2, p3, p4, p5, e02, e03, e04, e05, e12, e13, e14, e15, e20, e21, e23, e24, e25, e30, e31, e32, e34, e35, e40, e41, e42, e43, e45, e50, e51, e52, e53, e54]⟩, fun d hd => ?_, hI.hi⟩
      obtain ⟨w1, w2, w3, f1, st1, w4⟩ := hI.hv d hd
      refine ⟨w1, w2, by omega, ?_⟩
      by_cases e : pos d = q
      · have : d = c := hI.hi d c hd hHc (e.trans hq.symm)
        subst this
        rw [e]
        simp [upd, q0, q1, q2, q3, q4, q5, p0, p1, p2, p3, p4, p5, e02, e03, e04, e05, e12, e13, e14, e15, e20, e21, e23, e24, e25, e30, e31, e32, e34, e35, e40, e41, e42, e43, e45, e50, e51, e52, e53, e54]
      · have r2 : ¬ pos d = nx := by omega
        have r3 : ¬ pos d = nx + 1 := by omega
        exact ⟨f1, st1, by simp [upd, e, r2, r3, w4]⟩
    · simp [upd, q0, q1, q2, q3, q4, q5, p0, p1, p2, p3, p4, p5, e02, e03, e04, e05, e12, e13, e14, e15, e20, e21, e23, e24, e25, e30, e31, e32, e34, e35, e40, e41, e42, e43, e45, e50, e51, e52, e53, e54]
    · simp [upd, q0, q1, q2, q3, q4, q5, p0, p1, p2, p3, p4, p5, e02, e03, e04, e05, e12, e13, e14, e15, e20, e21, e23, e24, e25, e30, e31, e32, e34, e35, e40, e41, e42, e43, e45, e50, e51, e52, e53, e54]
    · simp [upd, q0, q1, q2, q3, q4, q5, p0, p1, p2, p3, p4, p5, e02, e03, e04, e05, e12, e13, e14, e15, e20, e21, e23, e24, e25, e30, e31, e32, e34, e35, e40, e41, e42, e43, e45, e50, e51, e52, e53, e54]
    clear hI hM0 hM1 v4
    rintro ⟨left, la⟩ J4 M4 nx4 hnx4 ⟨k1, ⟨val4, pos4, k2⟩, k3, k4, k5⟩
    have k0 := k2.h0
    have z0 : ¬ nx4 = 0 := by omega
    have z1 : ¬ nx4 = 1 := by omega
    have z2 : ¬ nx4 = nx := by omega
    have z3 : ¬ nx4 = nx + 1 := by omega
    have zq : ¬ nx4 = q := by omega
    have y0 : ¬ 0 = nx4 := by omega
    have y1 : ¬ 1 = nx4 := by omega
    have y2 : ¬ nx = nx4 := by omega
    have y3 : ¬ nx + 1 = nx4 := by omega
    have yq : ¬ q = nx4 := by omega
    have hcb := cl left
    simp [go_sem]
    refine GOp_knext (kd := .v) (q := q) (ref := nx + 1) (kk := 1) (f := f') (c := cl') (all := t.S c) (left := left) (has := t.S c) (la := la) (val := f0) (by simp [go_sem]) k4 k3 (fun _ => rfl) (by simp [go_sem]) (fun v h1 h2 => ?_) (fun h0 => ?_)
    rotate_left
    · have hge : ¬ (t.cnt c s left : Int) < 2 := by have := htwo left h0; omega
      simp [go_sem, hge, k0, k5, q0, q1, q2, q3, q4, q5, p0, p1, p2, p3, p4, p5, e02, e03, e04, e05, e12, e13, e14, e15, e20, e21, e23, e24, e25, e30, e31, e32, e34, e35, e40, e41, e42, e43, e45, e50, e51, e52, e53, e54]
      by_cases hs : s = true
      · have hw0 := hwE.2 hs
        have ew : t.g.wS a b = .r (.rs 1 ((t.g.far a b).toNat + 1) (intsR (t.g.way a.toNat b.toNat (t.g.far a b).toNat))) := if_pos hw0
        rw [ew] at hw
        refine call_val hw rfl rfl ?_
        subst hs
        simp [go_sem, hw0, k0, k5, q0, q1, q2, q3, q4, q5, p0, p1, p2, p3, p4, p5, e02, e03, e04, e05, e12, e13, e14, e15, e20, e21, e23, e24, e25, e30, e31, e32, e34, e35, e40, e41, e42, e43, e45, e50, e51, e52, e53, e54]
        exact ⟨by omega, i + 1, by omega, by omega, by omega, val4, pos4, k2⟩
      · have hw0 : ¬ t.g.wE a b = 0 := fun e => hs (hwE.1 e)
        have hs : s = false := by simpa using hs
        rw [EG.wS_no hw0] at hw
        refine call_val hw rfl rfl ?_
        subst hs
        simp [go_sem, hw0, k0, k5, q0, q1, q2, q3, q4, q5, p0, p1, p2, p3, p4, p5, e02, e03, e04, e05, e12, e13, e14, e15, e20, e21, e23, e24, e25, e30, e31, e32, e34, e35, e40, e41, e42, e43, e45, e50, e51, e52, e53, e54]
        exact ⟨by omega, i + 1, by omega, by omega, by omega, val4, pos4, k2⟩
    simp [go_sem]
    refine GOp_kentry (kd := .v) (q := q) (ref := nx + 1) (kk := 1) (f := f') (c := cl') (all := t.S c) (left := fun y => left y && !decide (y = v)) (has := t.S c) (k := v) (val := f0) (by simp [go_sem]) (by simp [upd]) (by simp [upd, k3, q0, q1, q2, q3, q4, q5, p0, p1, p2, p3, p4, p5, e02, e03, e04, e05, e12, e13, e14, e15, e20, e21, e23, e24, e25, e30, e31, e32, e34, e35, e40, e41, e42, e43, e45, e50, e51, e52, e53, e54]) h1 (by simp [go_sem]) ?_
    have hv16 := vb v h1
    have hless := TS.lef_less hv16 h1 h2
    have hT : ∀ (Rg Rh : Reg), TwI t (upd (upd (upd M4 (nx + 1) (some (.iter (.mp q) f' cl' (t.S c) (fun y => left y && !decide (y = v)) (some v)))) nx4 (some Rg)) nx4 (some Rh)) (nx4 + 1) val4 pos4 := fun Rg Rh => by
      have n4 := k2.hn
      refine ⟨by simp [upd, k0, z0, z1, z2, z3, zq, y0, y1, y2, y3, yq, q0, q1, q2, q3, q4, q5, p0, p1, p2, p3, p4, p5, e02, e03, e04, e05, e12, e13, e14, e15, e20, e21, e23, e24, e25, e30, e31, e32, e34, e35, e40, e41, e42, e43, e45, e50, e51, e52, e53, e54], by omega, ?_, fun d hd => ?_, k2.hi⟩
      · obtain ⟨st', hs'⟩ := k2.hm
        exact ⟨st', by simp [upd, hs', z0, z1, z2, z3, zq, y0, y1, y2, y3, yq, q0, q1, q2, q3, q4, q5, p0, p1, p2, p3, p4, p5, e02, e03, e04, e05, e12, e13, e14, e15, e20, e21, e23, e24, e25, e30, e31, e32, e34, e35, e40, e41, e42, e43, e45, e50, e51, e52, e53, e54]⟩
      · obtain ⟨w1, w2, w3, f1, st1, w4⟩ := k2.hv d hd
        have r2 : ¬ pos4 d = nx + 1 := fun e => by rw [e, k4] at w4; cases w4
        have r3 : ¬ pos4 d = nx4 := by omega
        exact ⟨w1, w2, by omega, f1, st1, by simp [upd, r2, r3, w4]⟩
    by_cases h5 : v % 2 = 1 <;> cases s
    · have hc1 := TS.cnt_no (t := t) (c := c) (v := v) (s := false) (left := left) (by simp [saysC, h5])
      simp [go_sem, h5, k0, k5, z0, z1, z2, z3, zq, y0, y1, y2, y3, yq, q0, q1, q2, q3, q4, q5, p0, p1, p2, p3, p4, p5, e02, e03, e04, e05, e12, e13, e14, e15, e20, e21, e23, e24, e25, e30, e31, e32, e34, e35, e40, e41, e42, e43, e45, e50, e51, e52, e53, e54]
      exact ⟨fun y => left y && !decide (y = v), hless, by rw [hc1], by omega, ⟨val4, pos4, hT _ _⟩, k3, rfl⟩
    · have hc1 := TS.cnt_hit (t := t) (c := c) (v := v) (s := true) (left := left) hv16 h1 h2 (by simp [saysC, h5])
      simp [go_sem, h5, k0, k5, z0, z1, z2, z3, zq, y0, y1, y2, y3, yq, q0, q1, q2, q3, q4, q5, p0, p1, p2, p3, p4, p5, e02, e03, e04, e05, e12, e13, e14, e15, e20, e21, e23, e24, e25, e30, e31, e32, e34, e35, e40, e41, e42, e43, e45, e50, e51, e52, e53, e54]
      exact ⟨by omega, fun y => left y && !decide (y = v), hless, by rw [hc1]; simp, by omega, ⟨val4, pos4, hT _ _⟩, k3, rfl⟩
    · have hc1 := TS.cnt_hit (t := t) (c := c) (v := v) (s := false) (left := left) hv16 h1 h2 (by simp [saysC, h5])
      simp [go_sem, h5, k0, k5, z0, z1, z2, z3, zq, y0, y1, y2, y3, yq, q0, q1, q2, q3, q4, q5, p0, p1, p2, p3, p4, p5, e02, e03, e04, e05, e12, e13, e14, e15, e20, e21, e23, e24, e25, e30, e31, e32, e34, e35, e40, e41, e42, e43, e45, e50, e51, e52, e53, e54]
      exact ⟨by omega, fun y => left y && !decide (y = v), hless, by rw [hc1]; simp, by omega, ⟨val4, pos4, hT _ _⟩, k3, rfl⟩
    · have hc1 := TS.cnt_no (t := t) (c := c) (v := v) (s := true) (left := left) (by simp [saysC, h5])
      simp [go_sem, h5, k0, k5, z0, z1, z2, z3, zq, y0, y1, y2, y3, yq, q0, q1, q2, q3, q4, q5, p0, p1, p2, p3, p4, p5, e02, e03, e04, e05, e12, e13, e14, e15, e20, e21, e23, e24, e25, e30, e31, e32, e34, e35, e40, e41, e42, e43, e45, e50, e51, e52, e53, e54]
      exact ⟨fun y => left y && !decide (y = v), hless, by rw [hc1], by omega, ⟨val4, pos4, hT _ _⟩, k3, rfl⟩
  have hstep : TS.run l (k + 1) = (TS.run l k).step (l k) := rfl
  have hx := hl k
  generalize TS.run l k = t at *
  obtain ⟨st, hM1⟩ := hI.hm
  have hM0 := hI.h0
  have n2 := hI.hn
  have e02 : ¬ 0 = nx := by omega
  have e03 : ¬ 0 = nx + 1 := by omega
  have e04 : ¬ 0 = nx + 1 + 1 := by omega
  have e05 : ¬ 0 = nx + 1 + 1 + 1 := by omega
  have e12 : ¬ 1 = nx := by omega
  have e13 : ¬ 1 = nx + 1 := by omega
  have e14 : ¬ 1 = nx + 1 + 1 := by omega
  have e15 : ¬ 1 = nx + 1 + 1 + 1 := by omega
  have e20 : ¬ nx = 0 := by omega
  have e21 : ¬ nx = 1 := by omega
  have e23 : ¬ nx = nx + 1 := by omega
  have e24 : ¬ nx = nx + 1 + 1 := by omega
  have e25 : ¬ nx = nx + 1 + 1 + 1 := by omega
  have e30 : ¬ nx + 1 = 0 := by omega
  have e31 : ¬ nx + 1 = 1 := by omega
  have e32 : ¬ nx + 1 = nx := by omega
  have e34 : ¬ nx + 1 = nx + 1 + 1 := by omega
  have e35 : ¬ nx + 1 = nx + 1 + 1 + 1 := by omega
  have e40 : ¬ nx + 1 + 1 = 0 := by omega
  have e41 : ¬ nx + 1 + 1 = 1 := by omega
  have e42 : ¬ nx + 1 + 1 = nx := by omega
  have e43 : ¬ nx + 1 + 1 = nx + 1 := by omega
  have e45 : ¬ nx + 1 + 1 = nx + 1 + 1 + 1 := by omega
  have e50 : ¬ nx + 1 + 1 + 1 = 0 := by omega
  have e51 : ¬ nx + 1 + 1 + 1 = 1 := by omega
  have e52 : ¬ nx + 1 + 1 + 1 = nx := by omega
  have e53 : ¬ nx + 1 + 1 + 1 = nx + 1 := by omega
  have e54 : ¬ nx + 1 + 1 + 1 = nx + 1 + 1 := by omega
  have hsm := htok.bd.sm (by omega)
  have hnr := htok.val.nr
  have hact := act10 hsm (l k) hx
  obtain ⟨x0, x1, x2, x3⟩ := hx
  simp [go_sem, hlt, hM0, hM1, e02, e03, e04, e05, e12, e13, e14, e15, e20, e21, e23, e24, e25, e30, e31, e32, e34, e35, e40, e41, e42, e43, e45, e50, e51, e52, e53, e54]
  refine call_val hact rfl rfl ?_
  by_cases hE : t.g.acE (l k) = 0
  rotate_left
  · have hs : t.step (l k) = t := if_neg hE
    simp [go_sem, hE, hM0, hM1, e02, e03, e04, e05, e12, e13, e14, e15, e20, e21, e23, e24, e25, e30, e31, e32, e34, e35, e40, e41, e42, e43, e45, e50, e51, e52, e53, e54]
    refine ⟨by omega, k + 1, by omega, by omega, by omega, val, pos, ?_⟩
    rw [hstep, hs]
    refine hI.ext rfl rfl ?_ (fun r h1 h2 => by
      have r0 : ¬ r = 0 := by omega
      have r2 : ¬ r = nx := by omega
      have r3 : ¬ r = nx + 1 := by omega
      have r4 : ¬ r = nx + 1 + 1 := by omega
      have r5 : ¬ r = nx + 1 + 1 + 1 := by omega
      simp [upd, r0, r2, r3, r4, r5]) (by omega)
    simp [upd, hM0, e02, e03, e04, e05, e12, e13, e14, e15, e20, e21, e23, e24, e25, e30, e31, e32, e34, e35, e40, e41, e42, e43, e45, e50, e51, e52, e53, e54]
  by_cases n0 : t.g.nr = 0
  · have hs : t.step (l k) = ⟨t.g.acX (l k), t.H, t.S⟩ := by unfold TS.step; rw [if_pos hE, if_pos n0]
    simp [go_sem, hE, n0, hM0, hM1, e02, e03, e04, e05, e12, e13, e14, e15, e20, e21, e23, e24, e25, e30, e31, e32, e34, e35, e40, e41, e42, e43, e45, e50, e51, e52, e53, e54]
    refine ⟨by omega, k + 1, by omega, by omega, by omega, val, pos, ?_⟩
    rw [hstep, hs]
    refine hI.ext rfl rfl ?_ (fun r h1 h2 => by
      have r0 : ¬ r = 0 := by omega
      have r2 : ¬ r = nx := by omega
      have r3 : ¬ r = nx + 1 := by omega
      have r4 : ¬ r = nx + 1 + 1 := by omega
      have r5 : ¬ r = nx + 1 + 1 + 1 := by omega
      simp [upd, r0, r2, r3, r4, r5]) (by omega)
    simp [upd, hM0, e02, e03, e04, e05, e12, e13, e14, e15, e20, e21, e23, e24, e25, e30, e31, e32, e34, e35, e40, e41, e42, e43, e45, e50, e51, e52, e53, e54]
  have hn0 : 0 < t.g.nr := by omega
  have wa : IntKind.i64.wrap ((l k).a : Int) = (l k).a := wrap_inr (k := .i64) (by simp only [inr]; omega)
  have wb : IntKind.i64.wrap ((l k).b : Int) = (l k).b := wrap_inr (k := .i64) (by simp only [inr]; omega)
  have wo : IntKind.i64.wrap ((l k).o : Int) = (l k).o := wrap_inr (k := .i64) (by simp only [inr]; omega)
  have ta : ((l k).a : Int).tmod (t.g.nr : Int) = t.g.ax (l k).a := by rw [tmodN]; unfold EG.ax; rw [if_pos hn0]
  have tb : ((l k).b : Int).tmod (t.g.nr : Int) = t.g.ax (l k).b := by rw [tmodN]; unfold EG.ax; rw [if_pos hn0]
  have to : ((l k).o : Int).tmod 8 = (((l k).o % 8 : Nat) : Int) := tmodN (l k).o 8
  have tk0 : ((l k).k : Int).tmod 6 = (((l k).k % 6 : Nat) : Int) := tmodN (l k).k 6
  have hk6 : (l k).k % 6 < 6 := Nat.mod_lt _ (by decide)
  have ba : 0 ≤ t.g.ax (l k).a ∧ t.g.ax (l k).a < 24 := by unfold EG.ax; rw [if_pos hn0]; have := Nat.mod_lt (l k).a hn0; omega
  have bb : 0 ≤ t.g.ax (l k).b ∧ t.g.ax (l k).b < 24 := by unfold EG.ax; rw [if_pos hn0]; have := Nat.mod_lt (l k).b hn0; omega
  have hpc : t.pc (l k) = min (t.g.ax (l k).a) (t.g.ax (l k).b) * 4294967296 + max (t.g.ax (l k).a) (t.g.ax (l k).b) := rfl
  have hvc : (l k).vc = (((l k).o % 8 : Nat) : Int) * 2 + (if (l k).s = true then 1 else 0) := rfl
  generalize t.g.ax (l k).a = a at *
  generalize t.g.ax (l k).b = b at *
  generalize (((l k).o % 8 : Nat) : Int) = o at *
  have g0 : 0 ≤ max a b := by omega
  have g1 : max a b < 4294967296 := by omega
  simp [go_sem, hE, n0, hM0, hM1, e02, e03, e04, e05, e12, e13, e14, e15, e20, e21, e23, e24, e25, e30, e31, e32, e34, e35, e40, e41, e42, e43, e45, e50, e51, e52, e53, e54]
  refine GDraw_all T_ok (by kernel_rfl) (by kernel_rfl) ?_
  by_cases c5 : (l k).k % 6 = 5
  · have tk : ((l k).k : Int).tmod 6 = 5 := by rw [tk0, c5]; rfl
    have hs : t.step (l k) = ⟨t.g.acX (l k), fun c => if c = t.pc (l k) then false else t.H c, t.S⟩ := by unfold TS.step; rw [if_pos hE, if_neg n0, if_neg (by omega), if_pos c5]
    simp [go_sem, tk, wa, wb, wo, ta, tb, to, g0, g1, n0, hM0, hM1, e02, e03, e04, e05, e12, e13, e14, e15, e20, e21, e23, e24, e25, e30, e31, e32, e34, e35, e40, e41, e42, e43, e45, e50, e51, e52, e53, e54]
    refine ⟨by omega, k + 1, by omega, by omega, by omega, val, pos, ?_⟩
    rw [hstep, hs]
    refine hI.gone (c := t.pc (l k)) rfl rfl ?_ ⟨none, ?_⟩ (fun r h1 h2 => by
      have r0 : ¬ r = 0 := by omega
      have r1 : ¬ r = 1 := by omega
      have r2 : ¬ r = nx := by omega
      have r3 : ¬ r = nx + 1 := by omega
      have r4 : ¬ r = nx + 1 + 1 := by omega
      have r5 : ¬ r = nx + 1 + 1 + 1 := by omega
      simp [upd, r0, r1, r2, r3, r4, r5]) (by omega)
    · simp [upd, e02, e03, e04, e05, e12, e13, e14, e15, e20, e21, e23, e24, e25, e30, e31, e32, e34, e35, e40, e41, e42, e43, e45, e50, e51, e52, e53, e54]
    · simp [upd, hpc, e02, e03, e04, e05, e12, e13, e14, e15, e20, e21, e23, e24, e25, e30, e31, e32, e34, e35, e40, e41, e42, e43, e45, e50, e51, e52, e53, e54]
  by_cases cv : (l k).k % 6 = 2 ∨ (l k).k % 6 = 3 ∨ (l k).k % 6 = 4
  · have hs : t.step (l k) = ⟨t.g.acX (l k), fun c => if c = t.pc (l k) then true else t.H c, fun c v => if c = t.pc (l k) then (if v = (l k).vc then true else t.H c && t.S c v) else t.S c v⟩ := by unfold TS.step; rw [if_pos hE, if_neg n0, if_pos cv]
    by_cases hH : t.H (min a b * 4294967296 + max a b) = true
    · obtain ⟨v1, v2, v3, f0, st0, v4⟩ := hI.hv _ hH
      generalize hq : pos (min a b * 4294967296 + max a b) = q at v1 v2 v3 v4
      have q0 : ¬ q = 0 := by omega
      have q1 : ¬ q = 1 := by omega
      have q2 : ¬ q = nx := by omega
      have q3 : ¬ q = nx + 1 := by omega
      have q4 : ¬ q = nx + 1 + 1 := by omega
      have q5 : ¬ q = nx + 1 + 1 + 1 := by omega
      have p0 : ¬ 0 = q := by omega
      have p1 : ¬ 1 = q := by omega
      have p2 : ¬ nx = q := by omega
      have p3 : ¬ nx + 1 = q := by omega
      have p4 : ¬ nx + 1 + 1 = q := by omega
      have p5 : ¬ nx + 1 + 1 + 1 = q := by omega
      rcases cv with cv | cv | cv
      · have tk : ((l k).k : Int).tmod 6 = 2 := by rw [tk0, cv]; rfl
        simp [go_sem, tk, wa, wb, wo, ta, tb, to, g0, g1, n0, hM0, hM1, hH, v1, v4, q0, q1, q2, q3, q4, q5, p0, p1, p2, p3, p4, p5, e02, e03, e04, e05, e12, e13, e14, e15, e20, e21, e23, e24, e25, e30, e31, e32, e34, e35, e40, e41, e42, e43, e45, e50, e51, e52, e53, e54]
        refine GDraw_l (t := (.take 0 (.take 1 (.take 2 (.take 3 (.take 4 (.take 5 (.take 6 (.take 7 (.take 8 (.take 9 (.alt 10 [9, 8, 7, 6, 5, 4, 3, 2, 1, 0] (.done []) .nil)))))))))))) T_ok (by kernel_rfl) (by kernel_rfl) (by kernel_rfl) (fun _ _ _ _ h => h) ?_
        simp [go_sem, tk, wa, wb, wo, ta, tb, to, g0, g1, n0, hM0, hM1, hH, v1, v4, q0, q1, q2, q3, q4, q5, p0, p1, p2, p3, p4, p5, e02, e03, e04, e05, e12, e13, e14, e15, e20, e21, e23, e24, e25, e30, e31, e32, e34, e35, e40, e41, e42, e43, e45, e50, e51, e52, e53, e54]
        refine ⟨by omega, k + 1, by omega, by omega, by omega, val, pos, ?_⟩
        rw [hstep, hs]
        refine hI.vote (c := t.pc (l k)) (v := (l k).vc) (by rw [hpc]; exact hH) rfl rfl ?_ (fun r h1 h2 h3 => ?_) ?_ (by omega)
        · simp [upd, q0, q1, q2, q3, q4, q5, p0, p1, p2, p3, p4, p5, e02, e03, e04, e05, e12, e13, e14, e15, e20, e21, e23, e24, e25, e30, e31, e32, e34, e35, e40, e41, e42, e43, e45, e50, e51, e52, e53, e54]
        · have r0 : ¬ r = 0 := by omega
          have r2 : ¬ r = nx := by omega
          have r3 : ¬ r = nx + 1 := by omega
          have r4 : ¬ r = nx + 1 + 1 := by omega
          have r5 : ¬ r = nx + 1 + 1 + 1 := by omega
          rw [hpc, hq] at h3
          simp [upd, r0, r2, r3, r4, r5, h3]
        · rw [hpc, hq]
          simp [upd, hvc, q0, q1, q2, q3, q4, q5, p0, p1, p2, p3, p4, p5, e02, e03, e04, e05, e12, e13, e14, e15, e20, e21, e23, e24, e25, e30, e31, e32, e34, e35, e40, e41, e42, e43, e45, e50, e51, e52, e53, e54]
      · have tk : ((l k).k : Int).tmod 6 = 3 := by rw [tk0, cv]; rfl
        simp [go_sem, tk, wa, wb, wo, ta, tb, to, g0, g1, n0, hM0, hM1, hH, v1, v4, q0, q1, q2, q3, q4, q5, p0, p1, p2, p3, p4, p5, e02, e03, e04, e05, e12, e13, e14, e15, e20, e21, e23, e24, e25, e30, e31, e32, e34, e35, e40, e41, e42, e43, e45, e50, e51, e52, e53, e54]
        refine GDraw_l (t := (.take 0 (.take 1 (.take 2 (.take 3 (.take 4 (.take 5 (.take 6 (.take 7 (.take 8 (.take 9 (.alt 10 [9, 8, 7, 6, 5, 4, 3, 2, 1, 0] (.done []) .nil)))))))))))) T_ok (by kernel_rfl) (by kernel_rfl) (by kernel_rfl) (fun _ _ _ _ h => h) ?_
        simp [go_sem, tk, wa, wb, wo, ta, tb, to, g0, g1, n0, hM0, hM1, hH, v1, v4, q0, q1, q2, q3, q4, q5, p0, p1, p2, p3, p4, p5, e02, e03, e04, e05, e12, e13, e14, e15, e20, e21, e23, e24, e25, e30, e31, e32, e34, e35, e40, e41, e42, e43, e45, e50, e51, e52, e53, e54]
        refine ⟨by omega, k + 1, by omega, by omega, by omega, val, pos, ?_⟩
        rw [hstep, hs]
        refine hI.vote (c := t.pc (l k)) (v := (l k).vc) (by rw [hpc]; exact hH) rfl rfl ?_ (fun r h1 h2 h3 => ?_) ?_ (by omega)
        · simp [upd, q0, q1, q2, q3, q4, q5, p0, p1, p2, p3, p4, p5, e02, e03, e04, e05, e12, e13, e14, e15, e20, e21, e23, e24, e25, e30, e31, e32, e34, e35, e40, e41, e42, e43, e45, e50, e51, e52, e53, e54]
        · have r0 : ¬ r = 0 := by omega
          have r2 : ¬ r = nx := by omega
          have r3 : ¬ r = nx + 1 := by omega
          have r4 : ¬ r = nx + 1 + 1 := by omega
          have r5 : ¬ r = nx + 1 + 1 + 1 := by omega
          rw [hpc, hq] at h3
          simp [upd, r0, r2, r3, r4, r5, h3]
        · rw [hpc, hq]
          simp [upd, hvc, q0, q1, q2, q3, q4, q5, p0, p1, p2, p3, p4, p5, e02, e03, e04, e05, e12, e13, e14, e15, e20, e21, e23, e24, e25, e30, e31, e32, e34, e35, e40, e41, e42, e43, e45, e50, e51, e52, e53, e54]
      · have tk : ((l k).k : Int).tmod 6 = 4 := by rw [tk0, cv]; rfl
        simp [go_sem, tk, wa, wb, wo, ta, tb, to, g0, g1, n0, hM0, hM1, hH, v1, v4, q0, q1, q2, q3, q4, q5, p0, p1, p2, p3, p4, p5, e02, e03, e04, e05, e12, e13, e14, e15, e20, e21, e23, e24, e25, e30, e31, e32, e34, e35, e40, e41, e42, e43, e45, e50, e51, e52, e53, e54]
        refine GDraw_l (t := (.take 0 (.take 1 (.take 2 (.take 3 (.take 4 (.take 5 (.take 6 (.take 7 (.take 8 (.take 9 (.alt 10 [9, 8, 7, 6, 5, 4, 3, 2, 1, 0] (.done []) .nil)))))))))))) T_ok (by kernel_rfl) (by kernel_rfl) (by kernel_rfl) (fun _ _ _ _ h => h) ?_
        simp [go_sem, tk, wa, wb, wo, ta, tb, to, g0, g1, n0, hM0, hM1, hH, v1, v4, q0, q1, q2, q3, q4, q5, p0, p1, p2, p3, p4, p5, e02, e03, e04, e05, e12, e13, e14, e15, e20, e21, e23, e24, e25, e30, e31, e32, e34, e35, e40, e41, e42, e43, e45, e50, e51, e52, e53, e54]
        refine ⟨by omega, k + 1, by omega, by omega, by omega, val, pos, ?_⟩
        rw [hstep, hs]
        refine hI.vote (c := t.pc (l k)) (v := (l k).vc) (by rw [hpc]; exact hH) rfl rfl ?_ (fun r h1 h2 h3 => ?_) ?_ (by omega)
        · simp [upd, q0, q1, q2, q3, q4, q5, p0, p1, p2, p3, p4, p5, e02, e03, e04, e05, e12, e13, e14, e15, e20, e21, e23, e24, e25, e30, e31, e32, e34, e35, e40, e41, e42, e43, e45, e50, e51, e52, e53, e54]
        · have r0 : ¬ r = 0 := by omega
          have r2 : ¬ r = nx := by omega
          have r3 : ¬ r = nx + 1 := by omega
          have r4 : ¬ r = nx + 1 + 1 := by omega
          have r5 : ¬ r = nx + 1 + 1 + 1 := by omega
          rw [hpc, hq] at h3
          simp [upd, r0, r2, r3, r4, r5, h3]
        · rw [hpc, hq]
          simp [upd, hvc, q0, q1, q2, q3, q4, q5, p0, p1, p2, p3, p4, p5, e02, e03, e04, e05, e12, e13, e14, e15, e20, e21, e23, e24, e25, e30, e31, e32, e34, e35, e40, e41, e42, e43, e45, e50, e51, e52, e53, e54]
    · have hH' : t.H (min a b * 4294967296 + max a b) = false := by simpa using hH
      have hz : (⟨1, 8, [.m], .map 37 4⟩ : TI).zeroV = .map none := rfl
      rcases cv with cv | cv | cv
      · have tk : ((l k).k : Int).tmod 6 = 2 := by rw [tk0, cv]; rfl
        simp [go_sem, tk, wa, wb, wo, ta, tb, to, g0, g1, n0, hM0, hM1, hH', hz, e02, e03, e04, e05, e12, e13, e14, e15, e20, e21, e23, e24, e25, e30, e31, e32, e34, e35, e40, e41, e42, e43, e45, e50, e51, e52, e53, e54]
        refine GDraw_l (t := (.take 0 (.take 1 (.take 2 (.take 3 (.take 4 (.take 5 (.take 6 (.take 7 (.take 8 (.take 9 (.alt 10 [9, 8, 7, 6, 5, 4, 3, 2, 1, 0] (.done []) .nil)))))))))))) T_ok (by kernel_rfl) (by kernel_rfl) (by kernel_rfl) (fun _ _ _ _ h => h) ?_
        simp [go_sem, tk, wa, wb, wo, ta, tb, to, g0, g1, n0, hM0, hM1, hH', hz, e02, e03, e04, e05, e12, e13, e14, e15, e20, e21, e23, e24, e25, e30, e31, e32, e34, e35, e40, e41, e42, e43, e45, e50, e51, e52, e53, e54]
        refine ⟨by omega, k + 1, by omega, by omega, by omega, fun y => if y = t.pc (l k) then .mp (nx + 1 + 1 + 1) else val y, fun y => if y = t.pc (l k) then nx + 1 + 1 + 1 else pos y, ?_⟩
        rw [hstep, hs]
        refine hI.first (c := t.pc (l k)) (v := (l k).vc) (p := nx + 1 + 1 + 1) (by rw [hpc]; exact hH') rfl rfl ?_ ?_ (fun r h1 h2 => ?_) ⟨by omega, by omega⟩ ?_
        · simp [upd, e02, e03, e04, e05, e12, e13, e14, e15, e20, e21, e23, e24, e25, e30, e31, e32, e34, e35, e40, e41, e42, e43, e45, e50, e51, e52, e53, e54]
        · simp [upd, hpc, e02, e03, e04, e05, e12, e13, e14, e15, e20, e21, e23, e24, e25, e30, e31, e32, e34, e35, e40, e41, e42, e43, e45, e50, e51, e52, e53, e54]
        · have r0 : ¬ r = 0 := by omega
          have r1 : ¬ r = 1 := by omega
          have r2 : ¬ r = nx := by omega
          have r3 : ¬ r = nx + 1 := by omega
          have r4 : ¬ r = nx + 1 + 1 := by omega
          have r5 : ¬ r = nx + 1 + 1 + 1 := by omega
          simp [upd, r0, r1, r2, r3, r4, r5]
        · simp [upd, hvc, e02, e03, e04, e05, e12, e13, e14, e15, e20, e21, e23, e24, e25, e30, e31, e32, e34, e35, e40, e41, e42, e43, e45, e50, e51, e52, e53, e54]
      · have tk : ((l k).k : Int).tmod 6 = 3 := by rw [tk0, cv]; rfl
        simp [go_sem, tk, wa, wb, wo, ta, tb, to, g0, g1, n0, hM0, hM1, hH', hz, e02, e03, e04, e05, e12, e13, e14, e15, e20, e21, e23, e24, e25, e30, e31, e32, e34, e35, e40, e41, e42, e43, e45, e50, e51, e52, e53, e54]
        refine GDraw_l (t := (.take 0 (.take 1 (.take 2 (.take 3 (.take 4 (.take 5 (.take 6 (.take 7 (.take 8 (.take 9 (.alt 10 [9, 8, 7, 6, 5, 4, 3, 2, 1, 0] (.done []) .nil)))))))))))) T_ok (by kernel_rfl) (by kernel_rfl) (by kernel_rfl) (fun _ _ _ _ h => h) ?_
        simp [go_sem, tk, wa, wb, wo, ta, tb, to, g0, g1, n0, hM0, hM1, hH', hz, e02, e03, e04, e05, e12, e13, e14, e15, e20, e21, e23, e24, e25, e30, e31, e32, e34, e35, e40, e41, e42, e43, e45, e50, e51, e52, e53, e54]
        refine ⟨by omega, k + 1, by omega, by omega, by omega, fun y => if y = t.pc (l k) then .mp (nx + 1 + 1 + 1) else val y, fun y => if y = t.pc (l k) then nx + 1 + 1 + 1 else pos y, ?_⟩
        rw [hstep, hs]
        refine hI.first (c := t.pc (l k)) (v := (l k).vc) (p := nx + 1 + 1 + 1) (by rw [hpc]; exact hH') rfl rfl ?_ ?_ (fun r h1 h2 => ?_) ⟨by omega, by omega⟩ ?_
        · simp [upd, e02, e03, e04, e05, e12, e13, e14, e15, e20, e21, e23, e24, e25, e30, e31, e32, e34, e35, e40, e41, e42, e43, e45, e50, e51, e52, e53, e54]
        · simp [upd, hpc, e02, e03, e04, e05, e12, e13, e14, e15, e20, e21, e23, e24, e25, e30, e31, e32, e34, e35, e40, e41, e42, e43, e45, e50, e51, e52, e53, e54]
        · have r0 : ¬ r = 0 := by omega
          have r1 : ¬ r = 1 := by omega
          have r2 : ¬ r = nx := by omega
          have r3 : ¬ r = nx + 1 := by omega
          have r4 : ¬ r = nx + 1 + 1 := by omega
          have r5 : ¬ r = nx + 1 + 1 + 1 := by omega
          simp [upd, r0, r1, r2, r3, r4, r5]
        · simp [upd, hvc, e02, e03, e04, e05, e12, e13, e14, e15, e20, e21, e23, e24, e25, e30, e31, e32, e34, e35, e40, e41, e42, e43, e45, e50, e51, e52, e53, e54]
      · have tk : ((l k).k : Int).tmod 6 = 4 := by rw [tk0, cv]; rfl
        simp [go_sem, tk, wa, wb, wo, ta, tb, to, g0, g1, n0, hM0, hM1, hH', hz, e02, e03, e04, e05, e12, e13, e14, e15, e20, e21, e23, e24, e25, e30, e31, e32, e34, e35, e40, e41, e42, e43, e45, e50, e51, e52, e53, e54]
        refine GDraw_l (t := (.take 0 (.take 1 (.take 2 (.take 3 (.take 4 (.take 5 (.take 6 (.take 7 (.take 8 (.take 9 (.alt 10 [9, 8, 7, 6, 5, 4, 3, 2, 1, 0] (.done []) .nil)))))))))))) T_ok (by kernel_rfl) (by kernel_rfl) (by kernel_rfl) (fun _ _ _ _ h => h) ?_
        simp [go_sem, tk, wa, wb, wo, ta, tb, to, g0, g1, n0, hM0, hM1, hH', hz, e02, e03, e04, e05, e12, e13, e14, e15, e20, e21, e23, e24, e25, e30, e31, e32, e34, e35, e40, e41, e42, e43, e45, e50, e51, e52, e53, e54]
        refine ⟨by omega, k + 1, by omega, by omega, by omega, fun y => if y = t.pc (l k) then .mp (nx + 1 + 1 + 1) else val y, fun y => if y = t.pc (l k) then nx + 1 + 1 + 1 else pos y, ?_⟩
        rw [hstep, hs]
        refine hI.first (c := t.pc (l k)) (v := (l k).vc) (p := nx + 1 + 1 + 1) (by rw [hpc]; exact hH') rfl rfl ?_ ?_ (fun r h1 h2 => ?_) ⟨by omega, by omega⟩ ?_
        · simp [upd, e02, e03, e04, e05, e12, e13, e14, e15, e20, e21, e23, e24, e25, e30, e31, e32, e34, e35, e40, e41, e42, e43, e45, e50, e51, e52, e53, e54]
        · simp [upd, hpc, e02, e03, e04, e05, e12, e13, e14, e15, e20, e21, e23, e24, e25, e30, e31, e32, e34, e35, e40, e41, e42, e43, e45, e50, e51, e52, e53, e54]
        · have r0 : ¬ r = 0 := by omega
          have r1 : ¬ r = 1 := by omega
          have r2 : ¬ r = nx := by omega
          have r3 : ¬ r = nx + 1 := by omega
          have r4 : ¬ r = nx + 1 + 1 := by omega
          have r5 : ¬ r = nx + 1 + 1 + 1 := by omega
          simp [upd, r0, r1, r2, r3, r4, r5]
        · simp [upd, hvc, e02, e03, e04, e05, e12, e13, e14, e15, e20, e21, e23, e24, e25, e30, e31, e32, e34, e35, e40, e41, e42, e43, e45, e50, e51, e52, e53, e54]
  · have k2 : ¬ ((l k).k : Int).tmod 6 = 2 := by rw [tk0]; omega
    have k3 : ¬ ((l k).k : Int).tmod 6 = 3 := by rw [tk0]; omega
    have k4 : ¬ ((l k).k : Int).tmod 6 = 4 := by rw [tk0]; omega
    have k5 : ¬ ((l k).k : Int).tmod 6 = 5 := by rw [tk0]; omega
    have hs : t.step (l k) = ⟨t.g.acX (l k), t.H, t.S⟩ := by unfold TS.step; rw [if_pos hE, if_neg n0, if_neg cv, if_neg c5]
    simp [go_sem, k2, k3, k4, k5, wa, wb, wo, ta, tb, to, g0, g1, n0, hM0, hM1, e02, e03, e04, e05, e12, e13, e14, e15, e20, e21, e23, e24, e25, e30, e31, e32, e34, e35, e40, e41, e42, e43, e45, e50, e51, e52, e53, e54]
    refine ⟨by omega, k + 1, by omega, by omega, by omega, val, pos, ?_⟩
    rw [hstep, hs]
    refine hI.ext rfl rfl ?_ (fun r h1 h2 => by
      have r0 : ¬ r = 0 := by omega
      have r2 : ¬ r = nx := by omega
      have r3 : ¬ r = nx + 1 := by omega
      have r4 : ¬ r = nx + 1 + 1 := by omega
      have r5 : ¬ r = nx + 1 + 1 + 1 := by omega
      simp [upd, r0, r2, r3, r4, r5]) (by omega)
    simp [upd, hM0, e02, e03, e04, e05, e12, e13, e14, e15, e20, e21, e23, e24, e25, e30, e31, e32, e34, e35, e40, e41, e42, e43, e45, e50, e51, e52, e53, e54]
end Go.Gx
/-
  Acts as an argument.
-/
set_option linter.unusedVariables false
set_option linter.unusedSimpArgs false
set_option maxRecDepth 20000
set_option maxHeartbeats 2000000
namespace Go.Gx
open Go.RowKit Go.WideShapes Go.ChangeShapes Go.Proofs Go.Proofs.YtnajladibkpeaaaGreat

abbrev csY : CS := .sc (.int .u8)
theorem flatA : flatT Tryz.prog 8 22 = some [slOf [csY, csY, csY, csY, csB]] := by kernel_rfl
section
variable {W : World}
theorem ok_y {v : Value} (h : CSok W csY v) : v = .int .u8 ((vi v).toNat : Nat) ∧ (vi v).toNat < 256 := by
  obtain ⟨n, rfl, hw⟩ := h
  simp [Lit.wf, IntKind.min, IntKind.max, IntKind.bits, IntKind.signed] at hw
  show Value.int .u8 n = .int .u8 ((n.toNat : Nat) : Int) ∧ n.toNat < 256
  rw [show ((n.toNat : Nat) : Int) = n by omega]
  exact ⟨rfl, by omega⟩
theorem act_rows {v : Value} (h : CSok W (slOf [csY, csY, csY, csY, csB]) v) : ∃ (n : Nat) (l : Nat → AcG), (∀ i, (l i).OK) ∧ ∀ σ, (acts n l).rel σ (ZW W) W v := by
  obtain ⟨n, cv, _, h1, h2⟩ := rows_of h
  refine ⟨n, fun i => if i < n then ⟨(vi (cv i 0)).toNat, (vi (cv i 1)).toNat, (vi (cv i 2)).toNat, (vi (cv i 3)).toNat, vb (cv i 4)⟩ else ⟨0, 0, 0, 0, false⟩, fun i => ?_, fun σ => h2 _ (fun i j hi hj => ?_) σ⟩
  · dsimp only
    by_cases hi : i < n
    · rw [if_pos hi]
      exact ⟨(ok_y (h1 i 0 hi (by decide))).2, (ok_y (h1 i 1 hi (by decide))).2, (ok_y (h1 i 2 hi (by decide))).2, (ok_y (h1 i 3 hi (by decide))).2⟩
    · rw [if_neg hi]
      exact ⟨by decide, by decide, by decide, by decide⟩
  · have hc := h1 i j hi hj
    simp only [if_pos hi]
    match j, hj, hc with
    | 0, _, hc => exact ⟨one_vi hc, (ok_y hc).1⟩
    | 1, _, hc => exact ⟨one_vi hc, (ok_y hc).1⟩
    | 2, _, hc => exact ⟨one_vi hc, (ok_y hc).1⟩
    | 3, _, hc => exact ⟨one_vi hc, (ok_y hc).1⟩
    | 4, _, hc => exact ⟨one_vb hc, rel_vb hc⟩
    | j + 5, hj, _ => exact absurd hj (by simp)
section
variable {H : Type} {enc : TypeId × Value → H} {base : Nat} {spare : Nat → Bool} {held : Bool}
theorem acts_arg {v : Value} {d : DataW H} {p : List MemPlace} {r : Reach} {b0 : Nat} (hv : Value.okWide Tryz.prog W r b0 22 v) (h : DataW.Trod enc Tryz.prog W base spare held 22 v d p) : ∃ (n : Nat) (l : Nat → AcG), (∀ i, (l i).OK) ∧ ∀ σ, (acts n l).rel σ (ZW W) W v := by
  have hone : v.cells.toList = [v] := by
    simp only [Value.okWide, Tryz.underlying22, Cell.okWide] at hv
    cases v <;> simp_all [Cell.ok, Value.cells]
  have hc := open_flat flatA h
  rw [hone] at hc
  obtain ⟨v0, _, e, h0, rfl⟩ := hc
  cases e
  exact act_rows h0
end
end
end Go.Gx
