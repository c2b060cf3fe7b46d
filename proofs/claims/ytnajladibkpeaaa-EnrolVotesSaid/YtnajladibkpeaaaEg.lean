/-
  The program: meet (who is one person).
-/
import Derived.Test.YtnajladibkpeaaaEf
set_option linter.unusedVariables false
set_option linter.unusedSimpArgs false
set_option maxRecDepth 20000
set_option maxHeartbeats 4000000
namespace Go.Gx
open Go.RowKit Go.Proofs Go.Proofs.Ytnajladibkpeaaa

section
variable {nw : FuncId → Bool} {P : Program} {T : Tab} {N : Cfg} {all : Array Oper} {rest fin : List Oper} {k : List It} {Q : GQ} {E : Env} {M : Mem} {nx : Nat} {d : Option Tmp} {ty : TypeId} {pos : String} {af : Array Edge}
@[go_sem] theorem GPh_lookup (t : TypeId) (m x : Operand) (ok : Bool) : GPh nw P T N all (⟨d, .lookup t m x ok, ty, pos, af, none⟩ :: rest) fin k Q E M nx = (dOK N.n d ∧ underL nx ((Op.lookup t m x ok).operands.toList.map (ev E)) ∧ GDS nw P T N (glookup T M t (ev E m) (ev E x) ok) d all rest fin k Q E M nx) := (rfl)
@[go_sem] theorem GPh_field (t : TypeId) (x : Operand) (f : Nat) : GPh nw P T N all (⟨d, .field t x f, ty, pos, af, none⟩ :: rest) fin k Q E M nx = (dOK N.n d ∧ underL nx ((Op.field t x f).operands.toList.map (ev E)) ∧ GDS nw P T N (gfieldV T t (ev E x) f) d all rest fin k Q E M nx) := (rfl)
@[go_sem] theorem GPh_index (t : TypeId) (x i : Operand) : GPh nw P T N all (⟨d, .index t x i, ty, pos, af, none⟩ :: rest) fin k Q E M nx = (dOK N.n d ∧ underL nx ((Op.index t x i).operands.toList.map (ev E)) ∧ GDS nw P T N (gindexV T t (ev E x) (ev E i)) d all rest fin k Q E M nx) := (rfl)
end
theorem memR_nil (r : Nat) : memR [] r = none := by rw [memR_get]; rfl
/-- What comes back in new memory, read alone. -/
theorem Own.pure {P : Program} {f : FuncId} {args : List SV} {S : SV} {Rs' : List Reg} {φ : SV → Prop} (h : Own P f [] args S Rs') (hv : gview (memR Rs') S φ) : Pure P f args φ := by
  intro Z w vs hZ ha
  have hno : ∀ b, ¬ Wof (fun _ => none) (memR []) b := by
    rintro b ⟨r, R, L, h1, _⟩
    rw [memR_nil] at h1; cases h1
  have hm : MOK (fun b => Z b ∨ w.heap.size ≤ b) (Wof (fun _ => none) (memR [])) w.heap.size (fun _ => none) (memR []) (From ([] : List Reg).length) w :=
    ⟨fun b hb => .inr (hb.elim id fun h => (hno b h).elim), fun _ _ => rfl, fun r R h => (by rw [memR_nil] at h; cases h), fun r r' R R' L L' b h => (by rw [memR_nil] at h; cases h), fun r R L b h => (by rw [memR_nil] at h; cases h)⟩
  have hk : Keep Z (Zof (fun b => Z b ∨ w.heap.size ≤ b) (fun _ => none) (memR []) w) w w := fun b hb => ⟨⟨⟨hZ b hb, .inl hb⟩, fun r R L h => (by rw [memR_nil] at h; cases h)⟩, rfl⟩
  obtain ⟨h1, h2⟩ := h _ _ w vs hm (SV.relL_mono (fun _ _ h => h) hk _ _ ha)
  refine ⟨h1, h2.mono fun e w' h' => ?_⟩
  obtain ⟨y, σ', rfl, hm', hrel, hfr, _⟩ := h'
  obtain ⟨s', k1, r1⟩ := gview_rel (Z' := fun b => Z b ∨ (w.heap.size ≤ b ∧ b < w'.heap.size)) hm' (fun b hb => hb.1.2.imp id fun h => ⟨h, hb.1.1⟩) (fun r R L b h1 h2 h3 => .inr (by
    obtain ⟨L', e1, e2⟩ := hm'.reg r R h1
    rw [h2] at e1; cases e1
    refine ⟨?_, e2.block h3⟩
    rcases hm'.own r R L b h1 h2 h3 with h | h
    · exact (hno _ h).elim
    · exact h)) S φ y hv hrel
  exact ⟨y, s', rfl, k1, r1, ⟨hfr.os, hfr.tape, hfr.output, hfr.size, fun b hb _ => hfr.block b hb (hno b)⟩⟩

theorem left_lt {n a : Nat} {p q : Nat → Bool} (ha : a < n) (hp : p a = true) (hq : q a = false) (hs : ∀ i, q i = true → p i = true) : ((List.range n).filter q).length < ((List.range n).filter p).length := by
  have e : (List.range n).filter q = ((List.range n).filter p).filter q := by
    rw [List.filter_filter]
    refine List.filter_congr fun i _ => ?_
    cases h : q i with
    | false => rfl
    | true => rw [hs i h]; rfl
  rw [e, List.length_filter_lt_length_iff_exists]
  exact ⟨a, List.mem_filter.2 ⟨List.mem_range.2 ha, hp⟩, by simp [hq]⟩
/-- The person of a record after k links. -/
def EG.pm (g : EG) : Nat → Int → Int
  | 0, a => a
  | k + 1, a =>
    if (g.l k).s && !decide (g.pm k (g.l k).a = g.pm k (g.l k).b) then
      if g.pm k a = max (g.pm k (g.l k).a) (g.pm k (g.l k).b) then min (g.pm k (g.l k).a) (g.pm k (g.l k).b) else g.pm k a
    else g.pm k a
/-- The links' records are there. -/
def EG.lth (g : EG) : Prop := ∀ i, i < g.nl → g.th (g.l i).a = true ∧ g.th (g.l i).b = true
theorem EG.pm_bd {g : EG} (hl : g.lth) : ∀ (k : Nat) (a : Int), k ≤ g.nl → 0 ≤ a → a < g.nr → 0 ≤ g.pm k a ∧ g.pm k a < g.nr
  | 0, a, _, h0, h1 => ⟨h0, h1⟩
  | k + 1, a, hk, h0, h1 => by
    have t1 := EG.th_iff.1 (hl k (by omega)).1
    have t2 := EG.th_iff.1 (hl k (by omega)).2
    have i0 := EG.pm_bd hl k a (by omega) h0 h1
    have i1 := EG.pm_bd hl k (g.l k).a (by omega) t1.1 t1.2.1
    have i2 := EG.pm_bd hl k (g.l k).b (by omega) t2.1 t2.2.1
    simp only [EG.pm]
    split
    · split
      · omega
      · exact i0
    · exact i0
abbrev EG.pmS (g : EG) (k : Nat) : Int → SV := fun a => .i (g.pm k a)
abbrev EG.dbox (g : EG) (s : SV) : Reg := .box [g.rr, g.ll, g.cc, s]
abbrev EG.dmap (g : EG) : Reg := .map g.th (g.pmS g.nl) none
theorem meet113 (g : EG) (h : g.OK) (hl : g.lth) (x : RV) : OwnS Try.prog 1 113 [g.dbox (.r x)] [.ptr 0 0 4 0] (.tup []) [g.dbox (.mp 1), g.dmap] := by
  refine ownS_of_GC T_ok Try.func113 rfl (by kernel_rfl) (Nat.le_of_ble_eq_true rfl) rfl rfl 1 (Nat.le_refl 1) ?_
  have := h.nr
  have := h.nl
  simp [go_sem]
  refine GLoop_s T_ok (α := Nat) (fun k => [(0, .ptr 0 0 4 0), (18, g.rr), (19, .i g.nr), (20, .i k)])
    (fun k => [some (g.dbox (.mp 1)), some (.map (fun a => g.th a && decide (a < k)) (fun a => .i a) none)]) 2 (fun k => k ≤ g.nr) (fun k => g.nr - k) 0 (fun _ => rfl) (by simp) (by simp [go_sem]) (by simp [go_sem]; exact fun a ha => (EG.th_iff.1 ha).1) ?_
  intro k J hi
  by_cases hlt : k < g.nr
  · by_cases hg : (g.r k).g = true
    · have hth : g.th k = false := by
        cases e : g.th k with
        | false => rfl
        | true => have := (EG.th_iff.1 e).2.2; simp [hg] at this
      simp [go_sem, hlt, hg]
      refine ⟨by omega, k + 1, by omega, by omega, by omega, fun a => ?_⟩
      by_cases e : a = k
      · subst e; simp [hth]
      · have : a < (k : Int) ↔ a < ((k + 1 : Nat) : Int) := by omega
        simp [this]
    · have hg' : (g.r k).g = false := by simpa using hg
      have hth : g.th k = true := EG.th_iff.2 ⟨by omega, by omega, by simpa using hg'⟩
      simp [go_sem, hlt, hg']
      refine ⟨by omega, k + 1, by omega, by omega, by omega, fun a => ?_, fun a _ _ e => e.symm⟩
      by_cases e : a = k
      · subst e; simp [hth]
        omega
      · have : a < (k : Int) ↔ a < ((k + 1 : Nat) : Int) := by omega
        simp [this, e]
  have hk : k = g.nr := by omega
  subst hk
  simp [go_sem]
  refine GLoop_s T_ok (α := Nat) (fun k => [(0, .ptr 0 0 4 0), (39, g.ll), (40, .i g.nl), (41, .i k)])
    (fun k => [some (g.dbox (.mp 1)), some (.map g.th (g.pmS k) none)]) 2 (fun k => k ≤ g.nl) (fun k => g.nl - k) 0 (fun _ => rfl) (by simp) (by simp [go_sem]) (by simp [go_sem, EG.pm]; exact fun a ha => (EG.th_iff.1 ha).2.1) ?_
  clear hi hlt
  intro k J2 hi
  by_cases hlt : k < g.nl
  rotate_left
  · have hk : k = g.nl := by omega
    subst hk
    simp [go_sem]
    refine ⟨[0, 1], by simp [keepsL], by simp, fun N => ⟨by simp [go_sem], ?_⟩⟩
    simp [go_sem]
  obtain ⟨t1, t2⟩ := hl k hlt
  simp [go_sem, hlt]
  refine GDraw_all T_ok (by kernel_rfl) (by kernel_rfl) ?_
  by_cases hs : (g.l k).s = true
  rotate_left
  · have hs' : (g.l k).s = false := by simpa using hs
    simp [go_sem, hlt, hs', t1, t2]
    exact ⟨by omega, k + 1, by omega, by omega, by omega, fun a _ => by simp [EG.pm, hs']⟩
  by_cases hq : g.pm k (g.l k).a = g.pm k (g.l k).b
  · simp [go_sem, hlt, hs, t1, t2, hq]
    exact ⟨by omega, k + 1, by omega, by omega, by omega, fun a _ => by simp [EG.pm, hq]⟩
  have hc : ∀ a, g.pm (k + 1) a = if g.pm k a = max (g.pm k (g.l k).a) (g.pm k (g.l k).b) then min (g.pm k (g.l k).a) (g.pm k (g.l k).b) else g.pm k a := fun a => by simp [EG.pm, hs, hq]
  simp [go_sem, hlt, hs, t1, t2, hq]
  refine GOp_range T_ok (q := 1) (has := g.th) (val := g.pmS k) (st := none) (by simp [go_sem]) (by simp [go_sem]) (by kernel_rfl) (by simp [go_sem]) fun f c => ?_
  simp [go_sem]
  refine GLoop_s T_ok (α := (Int → Bool) × Option Int) (fun x => [(0, .ptr 0 0 4 0), (6, .i (g.pm k (g.l k).a)), (7, .i (g.pm k (g.l k).b)), (39, g.ll), (40, .i g.nl), (41, .i k), (71, .ptr 3 0 1 0)])
    (fun x => [some (g.dbox (.mp 1)), some (.map g.th (fun a => .i (if x.1 a then g.pm k a else g.pm (k + 1) a)) (some (f, c))), none, some (.iter (.mp 1) f c g.th x.1 x.2)]) 4 (fun x => True) (fun x => ((List.range g.nr).filter fun i : Nat => g.th (i : Int) && x.1 (i : Int)).length) (g.th, none) (fun _ => rfl) trivial (by simp [go_sem]) (by simp [go_sem]; exact fun a ha => by simp [ha]) ?_
  rintro ⟨left, la⟩ J3 -
  simp [go_sem]
  refine GOp_next (q := 1) (ref := 3) (kk := 1) (f := f) (c := c) (all := g.th) (left := left) (has := g.th) (la := la) (val := fun a => .i (if left a then g.pm k a else g.pm (k + 1) a)) (by simp [go_sem]) (by simp [go_sem]) (by simp [go_sem]) (fun _ => rfl) (by simp [go_sem]) (fun a h1 h2 => ?_) (fun h0 => ?_)
  rotate_left
  · simp [go_sem]
    refine ⟨by omega, k + 1, by omega, by omega, by omega, fun a ha => ?_⟩
    simp [h0 a ha]
  simp [go_sem]
  refine GOp_entry (q := 1) (ref := 3) (kk := 1) (f := f) (c := c) (all := g.th) (left := fun x => left x && !decide (x = a)) (has := g.th) (k := a) (val := fun a => .i (if left a then g.pm k a else g.pm (k + 1) a)) (by simp [go_sem]) (by simp [go_sem]) (by simp [go_sem]) h1 (by simp [go_sem]) ?_
  have h0a := (EG.th_iff.1 h1).1
  have h1a := (EG.th_iff.1 h1).2.1
  have hlen : ((List.range g.nr).filter fun i : Nat => g.th (i : Int) && (left (i : Int) && !decide ((i : Int) = a))).length < ((List.range g.nr).filter fun i : Nat => g.th (i : Int) && left (i : Int)).length := by
    refine left_lt (a := a.toNat) (by omega) ?_ ?_ ?_
    · have : (a.toNat : Int) = a := by omega
      simp [this, h1, h2]
    · have : (a.toNat : Int) = a := by omega
      simp [this]
    · intro i hi
      simp only [Bool.and_eq_true] at hi ⊢
      exact ⟨hi.1, hi.2.1⟩
  by_cases hm : g.pm k a = max (g.pm k (g.l k).a) (g.pm k (g.l k).b)
  · have hca : g.pm (k + 1) a = min (g.pm k (g.l k).a) (g.pm k (g.l k).b) := by rw [hc a, if_pos hm]
    simp [go_sem, h2, hm]
    refine ⟨fun x => left x && !decide (x = a), hlen, some a, ⟨h1, ⟨by simp [hca], fun b hb => ?_⟩, h1⟩, rfl, fun _ _ => rfl⟩
    by_cases e : b = a
    · subst e; simp [hca]
    · simp [e]
  · have hca : g.pm (k + 1) a = g.pm k a := by rw [hc a, if_neg hm]
    simp [go_sem, h2, hm]
    refine ⟨fun x => left x && !decide (x = a), hlen, some a, fun b hb => ?_, rfl, fun _ _ => rfl⟩
    by_cases e : b = a
    · subst e; simp [hca]
    · simp [e]
end Go.Gx
