/-
  The reference's Apart; the two are one.
-/
import Derived.Test.YtnajladibkpeaaaGreatU3
set_option linter.unusedVariables false
set_option linter.unusedSimpArgs false
set_option maxRecDepth 20000
set_option maxHeartbeats 4000000
namespace Go.Gx
open Go.RowKit Go.Proofs Go.Proofs.YtnajladibkpeaaaGreat

theorem ixB_congr {p q : Nat → Bool} {n : Nat} (h : ∀ i, i < n → p i = q i) : ixB p n = ixB q n := by
  by_cases e : ∃ k, k < n ∧ p k = true
  · have : ∃ k, (k < n ∧ p k = true) ∧ ∀ j, j < k → ¬ (j < n ∧ p j = true) := by
      obtain ⟨k, hk⟩ := e
      induction k using Nat.strongRecOn with
      | ind k ih =>
        by_cases e2 : ∃ j, j < k ∧ j < n ∧ p j = true
        · obtain ⟨j, h1, h2⟩ := e2; exact ih j h1 h2
        · exact ⟨k, hk, fun j hj hc => e2 ⟨j, hj, hc⟩⟩
    obtain ⟨k, ⟨hk, hp⟩, hj⟩ := this
    have hj' : ∀ j, j < k → p j = false := fun j hjk => by
      cases hh : p j with
      | false => rfl
      | true => exact absurd ⟨by omega, hh⟩ (hj j hjk)
    rw [ixB_at hk hp hj', ixB_at hk (by rw [← h k hk]; exact hp) fun j hjk => by rw [← h j (by omega)]; exact hj' j hjk]
  · have hj : ∀ j, j < n → p j = false := fun j hjn => by
      cases hh : p j with
      | false => rfl
      | true => exact absurd ⟨j, hjn, hh⟩ e
    rw [ixB_no hj, ixB_no fun j hjn => by rw [← h j hjn]; exact hj j hjn]
theorem EG.df_eq {g : EG} (hl : g.inl) {a b : Int} (h0 : 0 ≤ a) (h1 : a < g.nr) (h2 : 0 ≤ b) (h3 : b < g.nr) : ixB (g.dfB a b) g.nl = g.ap a b := by
  refine ixB_congr fun j hj => ?_
  obtain ⟨q1, q2, q3, q4⟩ := hl j hj
  have ra := fun (x : Int) (hx : 0 ≤ x) => EG.rc_iff hl h0 h1 (x := x.toNat)
  have rb := fun (x : Int) (hx : 0 ≤ x) => EG.rc_iff hl h2 h3 (x := x.toNat)
  have e : ∀ x : Int, 0 ≤ x → ((x.toNat : Nat) : Int) = x := fun x hx => by omega
  have a1 := ra _ q1; have a2 := ra _ q3; have b1 := rb _ q1; have b2 := rb _ q3
  rw [e _ q1] at a1 b1
  rw [e _ q3] at a2 b2
  unfold EG.dfB EG.apB
  congr 1
  rw [Bool.eq_iff_iff]
  simp only [Bool.or_eq_true, Bool.and_eq_true, decide_eq_true_eq, a1, a2, b1, b2]
  show _ ↔ min (g.pm g.nl (g.l j).a) (g.pm g.nl (g.l j).b) = min (g.pm g.nl a) (g.pm g.nl b) ∧ max (g.pm g.nl (g.l j).a) (g.pm g.nl (g.l j).b) = max (g.pm g.nl a) (g.pm g.nl b)
  omega
end Go.Gx
/-
  The reference: members, Best.
-/
set_option linter.unusedVariables false
set_option linter.unusedSimpArgs false
set_option maxRecDepth 20000
set_option maxHeartbeats 4000000
namespace Go.Gx
open Go.RowKit Go.Proofs Go.Proofs.YtnajladibkpeaaaGreat

/-- The members below k of the person of a record. -/
def EG.mem (g : EG) (a : Int) (k : Nat) : List Nat := (List.range k).filter (g.rc a g.nr)
theorem EG.mem_succ (g : EG) (a : Int) (k : Nat) : g.mem a (k + 1) = if g.rc a g.nr k then g.mem a k ++ [k] else g.mem a k := by
  unfold EG.mem
  rw [List.range_succ, List.filter_append]
  split
  · rename_i h; simp [h]
  · rename_i h; simp [h]
theorem EG.mem_len (g : EG) (a : Int) (k : Nat) : (g.mem a k).length ≤ k := by
  have := List.length_filter_le (g.rc a g.nr) (List.range k)
  simpa [EG.mem] using this
def nth (l : List Nat) (k : Nat) : Nat := l.getD k 0
abbrev ints (l : List Nat) : Nat → Nat → SV := fun i _ => .i (nth l i : Nat)
abbrev intsR (l : List Nat) : Nat → Nat → RV := fun i _ => .i (nth l i : Nat)
theorem ints_add {l : List Nat} {k i : Nat} (hi : i < l.length + 1) : (if i < l.length then SV.i (nth l i : Nat) else SV.i (k : Nat)) = SV.i (nth (l ++ [k]) i : Nat) := by
  unfold nth
  by_cases h : i < l.length
  · rw [if_pos h]
    simp [List.getD, List.getElem?_append_left h]
  · have : i = l.length := by omega
    subst this
    rw [if_neg h]
    simp [List.getD]
end Go.Gx
/-
  Best, of the reference.
-/
set_option linter.unusedVariables false
set_option linter.unusedSimpArgs false
set_option maxRecDepth 20000
set_option maxHeartbeats 4000000
namespace Go.Gx
open Go.RowKit Go.Proofs Go.Proofs.YtnajladibkpeaaaGreat

/-- The better of two records. -/
def EG.bt (g : EG) (b x : Nat) : Nat := if (g.r b).q < (g.r x).q then x else b
def EG.bst (g : EG) (l : List Nat) : Nat := l.foldl g.bt (nth l 0)
theorem take_succ' {l : List Nat} {k : Nat} (h : k < l.length) : l.take (k + 1) = l.take k ++ [nth l k] := by
  rw [List.take_add_one, List.getElem?_eq_getElem h]
  simp [nth, List.getD, h]
theorem EG.bt_in {g : EG} {n : Nat} : ∀ (l : List Nat) (b : Nat), b < n → (∀ x ∈ l, x < n) → l.foldl g.bt b < n
  | [], b, hb, _ => hb
  | x :: l, b, hb, h => by
    simp only [List.foldl_cons]
    refine EG.bt_in l _ ?_ fun y hy => h y (by simp [hy])
    unfold EG.bt
    split
    · exact h x (by simp)
    · exact hb
theorem EG.mem_lt {g : EG} {a : Int} {k x : Nat} (h : x ∈ g.mem a k) : x < k := List.mem_range.1 (List.mem_filter.1 h).1
theorem EG.mem_ne {g : EG} (hl : g.inl) {a : Int} (h0 : 0 ≤ a) (h1 : a < g.nr) : 0 < (g.mem a g.nr).length := by
  have : a.toNat ∈ g.mem a g.nr := List.mem_filter.2 ⟨List.mem_range.2 (by omega), (EG.con_rc hl h0 h1 (.refl a)).2.2⟩
  exact List.length_pos_of_mem this
end Go.Gx
/-
  Best, of the program.
-/
set_option linter.unusedVariables false
set_option linter.unusedSimpArgs false
set_option maxRecDepth 20000
set_option maxHeartbeats 4000000
namespace Go.Gx
open Go.RowKit Go.Proofs Go.Proofs.YtnajladibkpeaaaGreat

/-- The best record below k. -/
def EG.bp (g : EG) (a : Int) : Nat → Int
  | 0 => g.q a
  | k + 1 => if (!(g.r k).g && decide (g.q k = g.q a)) && decide ((g.r (g.bp a k).toNat).q < (g.r k).q) then (k : Int) else g.bp a k
theorem EG.bp_bd {g : EG} (hl : g.lth) {a : Int} (h0 : 0 ≤ a) (h1 : a < g.nr) : ∀ k, k ≤ g.nr → 0 ≤ g.bp a k ∧ g.bp a k < g.nr
  | 0, _ => EG.pm_bd hl g.nl a (Nat.le_refl _) h0 h1
  | k + 1, hk => by
    have ih := EG.bp_bd hl h0 h1 k (by omega)
    simp only [EG.bp]
    split
    · omega
    · exact ih
theorem best15 (g : EG) (h : g.OK) (a : Int) : Pure Tryz.prog 30 [g.sv, .i a] (· = .tup [.i (if g.pE a = 0 then g.bp a g.nr else 0), .i (g.pE a)]) := by
  refine pure_of_GC T_ok Tryz.func30 rfl (by kernel_rfl) (Nat.le_of_ble_eq_true rfl) rfl rfl ?_
  have := h.nr
  simp [go_sem]
  have hk := fun get hg => known48 g h 1 (by decide) (fun _ => a) get hg
  rw [EG.kE1] at hk
  rcases g.pE_cases a with ⟨hv, ht, he⟩ | he
  rotate_left
  · simp only [EG.kS, EG.kR, if_neg he] at hk
    refine callK_own [1] (hk (fun i j => [SV.i a][i + j]?.getD (.r .any)) fun i hi => ?_) (by simp) rfl (by simp [go_sem]) ?_
    · have : i = 0 := by omega
      subst this; rfl
    simp [go_sem, he]
  simp only [EG.kS, EG.kR, if_pos he] at hk
  refine callK_own [1] (hk (fun i j => [SV.i a][i + j]?.getD (.r .any)) fun i hi => ?_) (by simp) rfl (by simp [go_sem]) ?_
  · have : i = 0 := by omega
    subst this; rfl
  have ha := EG.th_iff.1 ht
  have hth := EG.valid_lth hv
  simp [go_sem, he, ht]
  refine GLoop_s T_ok (α := Nat) (fun k => [(1, .i a), (6, .ptr 2 0 4 0), (8, .i (g.bp a k)), (31, g.rr), (32, .i g.nr), (33, .i k)]) (fun _ => [g.bx, none, some (g.dbox (.mp 3)), some g.dmap]) 4 (fun k => k ≤ g.nr) (fun k => g.nr - k) 0 (fun _ => rfl) (by simp) (by simp [go_sem, EG.bp]) (by simp [go_sem]) ?_
  intro k J hi
  by_cases hlt : k < g.nr
  rotate_left
  · have hk : k = g.nr := by omega
    subst hk
    simp [go_sem]
  obtain ⟨b0, b1⟩ := EG.bp_bd hth ha.1 ha.2.1 k hi
  simp [go_sem, hlt]
  refine GDraw_all T_ok (by kernel_rfl) (by kernel_rfl) ?_
  by_cases hg : (g.r k).g = true
  · simp [go_sem, hg]
    exact ⟨by omega, k + 1, by omega, by omega, by simp [EG.bp, hg], by omega⟩
  have hg' : (g.r k).g = false := by simpa using hg
  have hk : g.th k = true := EG.th_iff.2 ⟨by omega, by omega, by simpa using hg'⟩
  by_cases hp : g.q k = g.q a
  rotate_left
  · simp [go_sem, hg', hk, ht, hp]
    exact ⟨by omega, k + 1, by omega, by omega, by simp [EG.bp, hp], by omega⟩
  by_cases hc : (g.r (g.bp a k).toNat).q < (g.r k).q
  · simp [go_sem, hg', hk, ht, hp, b0, b1, hc]
    exact ⟨by omega, k + 1, by omega, by omega, by simp [EG.bp, hg', hp, hc], by omega⟩
  · simp [go_sem, hg', hk, ht, hp, b0, b1, hc]
    exact ⟨by omega, k + 1, by omega, by omega, by simp [EG.bp, hg', hp, hc], by omega⟩
end Go.Gx
/-
  Plain law: the two bests are one.
-/
set_option linter.unusedVariables false
set_option linter.unusedSimpArgs false
set_option maxRecDepth 20000
set_option maxHeartbeats 2000000
namespace Go.Gx
open Go.RowKit Go.Proofs Go.Proofs.YtnajladibkpeaaaGreat

theorem EG.con_gone {g : EG} (hl : g.lth) {a b : Int} (hb : g.th b = false) (h : g.Con g.nl a b) : a = b := by
  cases h with
  | refl => rfl
  | step _ hz =>
    obtain ⟨j, h1, _, h3⟩ := hz
    obtain ⟨t1, t2⟩ := hl j h1
    rcases h3 with ⟨_, e⟩ | ⟨_, e⟩
    · rw [e] at t2; rw [t2] at hb; cases hb
    · rw [e] at t1; rw [t1] at hb; cases hb
theorem EG.rc_th {g : EG} (hl : g.lth) (hi : g.inl) {a : Int} (ha : g.th a = true) {k : Nat} (hk : k < g.nr) : g.rc a g.nr k = (!(g.r k).g && decide (g.q k = g.q a)) := by
  have e := EG.th_iff.1 ha
  have hr := EG.rc_iff hi e.1 e.2.1 (x := k)
  rw [Bool.eq_iff_iff, hr]
  simp only [Bool.and_eq_true, Bool.not_eq_true', decide_eq_true_eq]
  constructor
  · intro h
    refine ⟨?_, h.symm⟩
    cases hg : (g.r k).g with
    | false => rfl
    | true =>
      have hf : g.th k = false := by
        cases ht : g.th k with
        | false => rfl
        | true => have := (EG.th_iff.1 ht).2.2; simp [hg] at this
      have := EG.con_gone hl hf (EG.con_iff.2 h)
      rw [this] at ha; rw [ha] at hf; cases hf
  · exact fun h => h.2.symm
theorem EG.bp_eq {g : EG} (hl : g.lth) (hi : g.inl) {a : Int} (ha : g.th a = true) : g.bp a g.nr = (g.bst (g.mem a g.nr) : Nat) := by
  have e := EG.th_iff.1 ha
  have key : ∀ k, k ≤ g.nr → g.bp a k = ((g.mem a k).foldl g.bt (g.q a).toNat : Nat) := by
    intro k
    induction k with
    | zero =>
      intro _
      have := EG.pm_bd hl g.nl a (Nat.le_refl _) e.1 e.2.1
      show g.pm g.nl a = (((g.pm g.nl a).toNat : Nat) : Int)
      omega
    | succ k ih =>
      intro hk
      have ih := ih (by omega)
      rw [EG.mem_succ, EG.rc_th hl hi ha (by omega)]
      simp only [EG.bp]
      by_cases hc : (!(g.r k).g && decide (g.q k = g.q a)) = true
      · rw [if_pos hc, List.foldl_append, ih]
        simp only [hc, Bool.true_and, decide_eq_true_eq, Int.toNat_natCast, List.foldl_cons, List.foldl_nil, EG.bt]
        split <;> rfl
      · rw [if_neg hc, ih, if_neg (by simp only [Bool.and_eq_true] at hc ⊢; exact fun h => hc h.1)]
  rw [key g.nr (Nat.le_refl _)]
  have hc := EG.con_pm g g.nl a
  have hr := EG.con_rc hi e.1 e.2.1 hc
  have hf : (List.range g.nr).find? (g.rc a g.nr) = some (g.pm g.nl a).toNat := by
    rw [List.find?_range_eq_some]
    refine ⟨hr.2.2, List.mem_range.2 (by omega), fun j hj => ?_⟩
    cases h : g.rc a g.nr j with
    | false => rfl
    | true =>
      have := EG.pm_min (EG.rc_con hi h)
      omega
  have hn : nth (g.mem a g.nr) 0 = (g.q a).toNat := by
    unfold nth EG.mem
    rw [List.getD_eq_getElem?_getD, ← List.head?_eq_getElem?, List.head?_filter, hf]
    rfl
  unfold EG.bst
  rw [hn]
end Go.Gx
