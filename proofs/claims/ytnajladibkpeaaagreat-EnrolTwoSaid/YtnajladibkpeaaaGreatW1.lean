/-
  Matches: what they read as; the reference's has, asked.
-/
import Derived.Test.YtnajladibkpeaaaGreatV1
import Derived.Test.YtnajladibkpeaaaGreatV2
import Derived.Test.YtnajladibkpeaaaGreatK5
set_option linter.unusedVariables false
set_option linter.unusedSimpArgs false
set_option maxRecDepth 20000
set_option maxHeartbeats 4000000
namespace Go.Gx
open Go.RowKit Go.Proofs Go.Proofs.YtnajladibkpeaaaGreat

structure PrG where
  a : Int
  b : Int
def PrG.c (p : PrG) : Nat → RV
  | 0 => .i p.a
  | _ => .i p.b
@[go_sem] theorem PrG.c0 (p : PrG) : p.c 0 = .i p.a := rfl
@[go_sem] theorem PrG.c1 (p : PrG) : p.c 1 = .i p.b := rfl
structure MG where
  n : Nat
  p : Nat → PrG
abbrev MG.sv (m : MG) : SV := .r (.rs 2 m.n fun i j => (m.p i).c j)
def MG.hit (m : MG) (a b : Int) (i : Nat) : Bool := decide ((m.p i).a = a) && decide ((m.p i).b = b) || decide ((m.p i).a = b) && decide ((m.p i).b = a)
def MG.has (m : MG) (a b : Int) : Bool := (List.range m.n).any (m.hit a b)
def EG.okm (g : EG) (p : PrG) : Bool := g.th p.a && g.th p.b && !decide (p.a = p.b)
def EG.askE (g : EG) (m : MG) : Int := if g.valid = false then 8 else if 60 < m.n then 4 else if (List.range m.n).all (fun i => g.okm (m.p i)) then 0 else 2
theorem all_no' {n k : Nat} {p : Nat → Bool} (h : k < n) (hp : p k = false) : (List.range n).all p = false := by
  rw [List.all_eq_false]
  exact ⟨k, List.mem_range.2 h, by rw [hp]; simp⟩
theorem all_yes' {n : Nat} {p : Nat → Bool} (h : ∀ j, j < n → p j = true) : (List.range n).all p = true := List.all_eq_true.2 fun x hx => h x (List.mem_range.1 hx)
def rowsP (l : List PrG) : Nat → Nat → RV := fun i j => (l[i]?.getD ⟨0, 0⟩).c j
def EG.keep (g : EG) (m : MG) (d : Bool) (a b : Nat) : Bool := m.has a b && !g.one a b && (decide (0 ≤ ixB (g.dfB a b) g.nl) == d)
def EG.srow (g : EG) (m : MG) (d : Bool) (a k : Nat) : List PrG := ((List.range k).filter fun b => decide (a < b) && g.keep m d a b).map fun b : Nat => (⟨(a : Int), (b : Int)⟩ : PrG)
def EG.srt (g : EG) (m : MG) (d : Bool) (k : Nat) : List PrG := (List.range k).flatMap fun a => g.srow m d a g.nr
theorem EG.srow_succ (g : EG) (m : MG) (d : Bool) (a k : Nat) : g.srow m d a (k + 1) = g.srow m d a k ++ if decide (a < k) && g.keep m d a k then [⟨a, k⟩] else [] := by
  unfold EG.srow
  rw [List.range_succ, List.filter_append, List.map_append]
  congr 1
  cases h : decide (a < k) && g.keep m d a k <;> simp [h]
theorem EG.srow_low (g : EG) (m : MG) (d : Bool) {a k : Nat} (h : k ≤ a + 1) : g.srow m d a k = [] := by
  unfold EG.srow
  rw [List.map_eq_nil_iff, List.filter_eq_nil_iff]
  intro b hb
  have := List.mem_range.1 hb
  simp only [Bool.and_eq_true, decide_eq_true_eq, not_and]
  intro hh; omega
theorem EG.srt_succ (g : EG) (m : MG) (d : Bool) (k : Nat) : g.srt m d (k + 1) = g.srt m d k ++ g.srow m d k g.nr := by
  unfold EG.srt
  rw [List.range_succ, List.flatMap_append]
  simp
theorem EG.srow_len (g : EG) (m : MG) (d : Bool) (a k : Nat) : (g.srow m d a k).length ≤ k := by
  unfold EG.srow
  rw [List.length_map]
  exact Nat.le_trans (List.length_filter_le _ _) (by simp)
theorem EG.srt_len (g : EG) (m : MG) (d : Bool) (k : Nat) : (g.srt m d k).length ≤ k * g.nr := by
  induction k with
  | zero => simp [EG.srt]
  | succ k ih =>
    rw [EG.srt_succ, List.length_append, Nat.succ_mul]
    have := g.srow_len m d k g.nr
    omega
theorem rowsP_add {l : List PrG} {x : PrG} {i j : Nat} (hi : i < l.length + 1) : rowsP (l ++ [x]) i j = if i < l.length then rowsP l i j else x.c j := by
  unfold rowsP
  by_cases h : i < l.length
  · rw [if_pos h, List.getElem?_append_left h]
  · have e : i = l.length := by omega
    rw [if_neg h, e, List.getElem?_append_right (Nat.le_refl _)]
    simp
end Go.Gx
/-
  The reference's Suspects, Twins, Morphs; SamePairs.
-/
set_option linter.unusedVariables false
set_option linter.unusedSimpArgs false
set_option maxRecDepth 20000
set_option maxHeartbeats 4000000
namespace Go.Gx
open Go.RowKit Go.Proofs Go.Proofs.YtnajladibkpeaaaGreat

abbrev prs (l : List PrG) : SV := .r (.rs 2 l.length (rowsP l))
theorem EG.ask_cases (g : EG) (m : MG) : (g.valid = true ∧ m.n ≤ 60 ∧ (∀ i, i < m.n → g.okm (m.p i) = true) ∧ g.askE m = 0) ∨ g.askE m ≠ 0 := by
  unfold EG.askE
  cases hv : g.valid with
  | false => exact .inr (by simp)
  | true =>
    by_cases h : 60 < m.n
    · exact .inr (by simp [h])
    · by_cases ha : (List.range m.n).all (fun i => g.okm (m.p i)) = true
      · refine .inl ⟨rfl, by omega, fun i hi => List.all_eq_true.1 ha i (List.mem_range.2 hi), ?_⟩
        rw [if_neg (by simp), if_neg h, if_pos ha]
      · right
        rw [if_neg (by simp), if_neg h, if_neg ha]
        decide
def EG.susS (g : EG) (m : MG) (d : Bool) : SV := if g.askE m = 0 then .tup [prs (g.srt m d g.nr), .i 0] else .tup [nilS, .i (g.askE m)]
def PrG.eqB (x y : PrG) : Bool := decide (x.a = y.a) && decide (x.b = y.b)
theorem samePairs45 (n k : Nat) (hn : n ≤ 1000000) (hk : k ≤ 1000000) (x y : Nat → PrG) : Pure Tryz.prog 35 [.r (.rs 2 n fun i j => (x i).c j), .r (.rs 2 k fun i j => (y i).c j)] (· = .b (decide (n = k) && (List.range n).all fun i => (x i).eqB (y i))) := by
  refine pure_of_GC T_ok Tryz.func35 rfl (by kernel_rfl) (Nat.le_of_ble_eq_true rfl) rfl rfl ?_
  by_cases hnk : n = k
  rotate_left
  · have hnk' : ¬ (n : Int) = k := by omega
    simp [go_sem, hnk, hnk']
  subst hnk
  simp [go_sem]
  refine GLoop_of T_ok (α := Nat) (fun i => [(0, .r (.rs 2 n fun i j => (x i).c j)), (1, .r (.rs 2 n fun i j => (y i).c j)), (5, .i i)]) (fun _ => []) 0 (fun i => i ≤ n ∧ ∀ j, j < i → (x j).eqB (y j) = true) (fun i => n - i) 0 (fun _ => rfl) (by simp) (by simp [go_sem]) (by simp [go_sem]) ?_
  intro i J hi
  by_cases hlt : i < n
  · simp [go_sem, hlt]
    refine GDraw_all T_ok (by kernel_rfl) (by kernel_rfl) ?_
    simp [go_sem, hlt]
    by_cases e : (x i).a = (y i).a ∧ (x i).b = (y i).b
    · simp [go_sem, e.1, e.2]
      refine ⟨by omega, i + 1, ⟨by omega, fun j hj => ?_⟩, by omega, by omega⟩
      by_cases hji : j = i
      · subst hji; simp [PrG.eqB, e.1, e.2]
      · exact hi.2 j (by omega)
    · have e' : ¬ (x i).a = (y i).a ∨ ¬ (x i).b = (y i).b := by
        by_cases q : (x i).a = (y i).a
        · exact .inr fun h => e ⟨q, h⟩
        · exact .inl q
      rw [if_pos e']
      refine ⟨i, hlt, ?_⟩
      cases hh : (x i).eqB (y i) with
      | false => rfl
      | true => exact absurd (by simpa [PrG.eqB] using hh) e
  · simp [go_sem, hlt]
    exact fun j hj => hi.2 j (by omega)
def EG.mor (g : EG) (m : MG) (a b c : Nat) : Bool := m.has a b && m.has a c && !g.one a b && !g.one a c && decide (0 ≤ ixB (g.dfB b c) g.nl)
def EG.morph (g : EG) (m : MG) (a : Nat) : Bool := (List.range g.nr).any fun b => (List.range g.nr).any fun c => g.mor m a b c
def EG.morL (g : EG) (m : MG) (k : Nat) : List Nat := (List.range k).filter fun a => g.th a && g.morph m a
theorem EG.morL_succ (g : EG) (m : MG) (k : Nat) : g.morL m (k + 1) = if g.th k && g.morph m k then g.morL m k ++ [k] else g.morL m k := by
  unfold EG.morL
  rw [List.range_succ, List.filter_append]
  cases h : g.th k && g.morph m k <;> simp [h]
theorem EG.morL_len (g : EG) (m : MG) (k : Nat) : (g.morL m k).length ≤ k := by
  have := List.length_filter_le (fun a : Nat => g.th a && g.morph m a) (List.range k)
  simpa [EG.morL] using this
def EG.morS (g : EG) (m : MG) : SV := if g.askE m = 0 then .tup [.r (.rs 1 (g.morL m g.nr).length (intsR (g.morL m g.nr))), .i 0] else .tup [nilS, .i (g.askE m)]
end Go.Gx
/-
  slices.Compact of pairs.
-/
set_option linter.unusedVariables false
set_option linter.unusedSimpArgs false
set_option maxRecDepth 20000
set_option maxHeartbeats 4000000
namespace Go.Gx
open Go.RowKit Go.Proofs Go.Proofs.YtnajladibkpeaaaGreat

/-- The row at place i is the one before it. -/
def dup (x : Nat → PrG) (i : Nat) : Bool := decide (0 < i) && (x i).eqB (x (i - 1))
theorem dup_iff {x : Nat → PrG} {i : Nat} (hi : 0 < i) : dup x i = true ↔ (x i).a = (x (i - 1)).a ∧ (x i).b = (x (i - 1)).b := by
  simp [dup, hi, PrG.eqB]
abbrev prR (x : Nat → PrG) : Nat → Nat → RV := fun i j => (x i).c j
theorem compact133 (n : Nat) (hn : n ≤ 1000000) (x : Nat → PrG) :
    Own Tryz.prog 95 [.vec 92 2 n fun i j => .r (prR x i j)] [.sl 0 2 0 n none] (.sl 0 2 0 (kept (dup x) n).length none) [.vec 92 2 (kept (dup x) n).length fun i j => .r (rowsL (prR x) (kept (dup x) n) i j)] := by
  refine own_of_GC T_ok Tryz.func95 rfl (by kernel_rfl) (Nat.le_of_ble_eq_true rfl) rfl rfl ?_
  have all0 : (∀ j, j < n → dup x j = false) → ∃ ρl, gexp (memR [Reg.vec 92 2 n fun i j => .r (prR x i j)]) (.sl 0 2 0 n none) ρl (.sl 0 2 0 (kept (dup x) n).length none) [.vec 92 2 (kept (dup x) n).length fun i j => .r (rowsL (prR x) (kept (dup x) n) i j)] := fun h2 => by
    refine ⟨[0], by simp, fun N => ⟨?_, ?_⟩⟩
    · simp [go_sem, kept_all h2]
    · simp [go_sem, kept_all h2]
      intro i j hi hj
      exact (rowsL_get (by simp [hi]) j).symm
  by_cases h2 : n < 2
  · have h2' : (n : Int) < 2 := by omega
    simp [go_sem, h2']
    exact all0 fun j hj => by simp [dup, show ¬ 0 < j by omega]
  have h2' : ¬ (n : Int) < 2 := by omega
  simp [go_sem, h2']
  refine GLoop_s T_ok (α := Nat) (fun k => [(0, .sl 0 2 0 n none), (3, .i k)]) (fun _ => [some (.vec 92 2 n fun i c => .r (prR x i c))]) 1 (fun k => k ≤ n ∧ 1 ≤ k ∧ ∀ j, j < k → dup x j = false) (fun k => n - k) 1 (fun _ => rfl) ⟨by omega, by omega, fun j hj => by simp [dup, show ¬ 0 < j by omega]⟩ (by simp [go_sem]) (by simp [go_sem]) ?_
  intro k J hk
  obtain ⟨hk1, hk2, hk3⟩ := hk
  by_cases hlt : k < n
  rotate_left
  · have e : k = n := by omega
    subst e
    simp [go_sem]
    exact all0 hk3
  have k0 : 0 ≤ (k : Int) - 1 := by omega
  have k1 : (k : Int) - 1 < n := by omega
  have kc : ((k : Int) - 1).toNat = k - 1 := by omega
  have kl : k - 1 < n := by omega
  simp [go_sem, hlt]
  refine GDraw_all T_ok (by kernel_rfl) (by kernel_rfl) ?_
  simp [go_sem, hlt, k0, k1, kc, kl]
  refine ⟨⟨by omega, by omega⟩, by omega, ?_⟩
  by_cases e : dup x k = true
  rotate_left
  · have e' : dup x k = false := by simpa using e
    rw [if_neg fun h => e ((dup_iff (by omega)).2 h)]
    refine ⟨⟨by omega, by omega⟩, k + 1, ⟨by omega, by omega, fun j hj => ?_⟩, by omega, by omega⟩
    by_cases hjk : j = k
    · subst hjk; exact e'
    · exact hk3 j (by omega)
  rw [if_pos ((dup_iff (by omega)).1 e)]
  have q0 : kept (dup x) k = List.range k := kept_all hk3
  have q1 : kept (dup x) (k + 1) = List.range k := by rw [kept_succ, q0, e]; simp
  refine ⟨by omega, ?_⟩
  refine GLoop_s T_ok (α := Nat) (fun j => [(0, .sl 0 2 0 n none), (3, .i (kept (dup x) (k + j)).length), (4, .sl 0 2 k (n - k) none), (5, .i j)]) (fun j => [some (.vec 92 2 n fun i c => .r (keptR (prR x) (dup x) (k + j) i c))]) 1
    (fun j => j ≤ n - k ∧ 1 ≤ j ∧ (kept (dup x) (k + j)).length < k + j) (fun j => n - k - j) 1 (fun _ => rfl) ⟨by omega, by omega, by rw [q1]; simp⟩ (by simp [go_sem, q1]) (by
      simp [go_sem]
      intro i j hi hj
      unfold keptR
      rw [q1]
      split
      · rename_i h
        exact (rowsL_get (by simp at h; simp [h]) j).symm
      · rfl) ?_
  intro j J hj
  obtain ⟨hj1, hj2, hj3⟩ := hj
  have hkn := kept_le (dup x) (k + j)
  have r1 : ∀ c, keptR (prR x) (dup x) (k + j) (k + j) c = (x (k + j)).c c := fun c => keptR_ge hkn
  have r2 : ∀ c, keptR (prR x) (dup x) (k + j) (k + (j - 1)) c = (x (k + j - 1)).c c := fun c => by
    rw [show k + (j - 1) = k + j - 1 by omega]
    exact keptR_ge (by omega)
  by_cases hlt2 : j < n - k
  rotate_left
  · have ej : j = n - k := by omega
    have ek : k + j = n := by omega
    simp [go_sem, hlt2, ek]
    have hkn2 := kept_le (dup x) n
    refine ⟨by omega, by omega, by omega, [0], by simp, fun N => ⟨by simp [go_sem], ?_⟩⟩
    simp [go_sem]
    refine ⟨by omega, fun i c hi hc => ?_⟩
    rw [if_neg (by omega)]
    unfold keptR
    rw [if_pos hi]
  have hj4 : (j : Int) < ((n - k : Nat) : Int) := by omega
  have j0 : 0 ≤ (j : Int) - 1 := by omega
  have j1 : (j : Int) - 1 < ((n - k : Nat) : Int) := by omega
  have jc : ((j : Int) - 1).toNat = j - 1 := by omega
  have jl : k + j < n := by omega
  have jl2 : k + (j - 1) < n := by omega
  simp [go_sem, hlt2, hj4]
  refine GDraw_all T_ok (by kernel_rfl) (by kernel_rfl) ?_
  simp [go_sem, hlt2, hj4, j0, j1, jc, jl, jl2, r1, r2]
  refine ⟨⟨by omega, by omega⟩, by omega, ?_⟩
  have hs := kept_succ (dup x) (k + j)
  cases hd : dup x (k + j)
  · have hne : ¬ (x (k + j)).a = (x (k + j - 1)).a ∨ ¬ (x (k + j)).b = (x (k + j - 1)).b := by
      by_cases q : (x (k + j)).a = (x (k + j - 1)).a
      · exact .inr fun h => by rw [(dup_iff (by omega)).2 ⟨q, h⟩] at hd; cases hd
      · exact .inl q
    rw [if_pos hne]
    have hs1 : kept (dup x) (k + j + 1) = kept (dup x) (k + j) ++ [k + j] := by rw [hs, hd]; simp
    have hs2 : (kept (dup x) (k + (j + 1))).length = (kept (dup x) (k + j)).length + 1 := by
      rw [show k + (j + 1) = k + j + 1 by omega, hs1]; simp
    refine ⟨by omega, ⟨by omega, by omega⟩, ⟨by omega, by omega⟩, j + 1, ⟨by omega, by omega, by omega⟩, by omega, ⟨by omega, by omega⟩, fun i c hi hc => ?_⟩
    rw [show k + (j + 1) = k + j + 1 by omega, keptR_put hd]
    by_cases hil : i = (kept (dup x) (k + j)).length
    · rw [if_pos ⟨hil, hc⟩, if_pos hil]
      rcases (by omega : c = 0 ∨ c = 1) with rfl | rfl <;> simp [SV.trim, go_sem]
    · rw [if_neg (fun h => hil h.1), if_neg hil]
  · have heq := (dup_iff (x := x) (i := k + j) (by omega)).1 hd
    rw [if_neg fun h => h.elim (fun h => h heq.1) fun h => h heq.2]
    have hs1 : kept (dup x) (k + j + 1) = kept (dup x) (k + j) := by rw [hs, hd]; simp
    have hs2 : (kept (dup x) (k + (j + 1))).length = (kept (dup x) (k + j)).length := by
      rw [show k + (j + 1) = k + j + 1 by omega, hs1]
    refine ⟨⟨by omega, by omega⟩, j + 1, ⟨by omega, by omega, by omega⟩, by omega, ⟨by omega, by omega⟩, fun i c hi hc => ?_⟩
    unfold keptR
    rw [show k + (j + 1) = k + j + 1 by omega, hs1]
end Go.Gx
/-
  The program's matched: a desk, and the matches as pairs, each once, in order.
-/
set_option linter.unusedVariables false
set_option linter.unusedSimpArgs false
set_option maxRecDepth 20000
set_option maxHeartbeats 4000000
namespace Go.Gx
open Go.RowKit Go.Proofs Go.Proofs.YtnajladibkpeaaaGreat

def leP (p q : PrG) : Bool := !befB q.a q.b p.a p.b
def srtL (x : Nat → PrG) (n : Nat) : List PrG := ((List.range n).map x).mergeSort leP
def srtX (x : Nat → PrG) (n : Nat) : Nat → PrG := fun i => (srtL x n)[i]?.getD ⟨0, 0⟩
/-- What the sort does (see Gh). -/
def SortOK : Prop := ∀ (n : Nat) (x : Nat → PrG), n ≤ 1000000 → OwnS Tryz.prog 1 94 [.vec 92 2 n fun i j => .r (prR x i j)] [.sl 0 2 0 n none, .fn (.func 84) [] []] (.tup []) [.vec 92 2 n fun i j => .r (prR (srtX x n) i j)]
def MG.q (m : MG) (i : Nat) : PrG := ⟨min (m.p i).a (m.p i).b, max (m.p i).a (m.p i).b⟩
/-- The pairs of matches, each once, in order. -/
def MG.l (m : MG) : List PrG := (kept (dup (srtX m.q m.n)) m.n).map (srtX m.q m.n)
def EG.matS (g : EG) (m : MG) : SV := if g.askE m = 0 then .tup [.ptr 0 0 4 0, .sl 2 2 0 m.l.length none, .i 0] else .tup [nilP, nilS, .i (g.askE m)]
def EG.matR (g : EG) (m : MG) : List Reg := if g.askE m = 0 then [g.dbox (.mp 1), g.dmap, .vec 92 2 m.l.length fun i j => .r (rowsP m.l i j)] else []
theorem EG.askE_bad {g : EG} {m : MG} (hv : g.valid = true) (h60 : ¬ 60 < m.n) {k : Nat} (hk : k < m.n) (hb : g.okm (m.p k) = false) : g.askE m = 2 := by
  unfold EG.askE
  rw [if_neg (by simp [hv]), if_neg h60, all_no' (p := fun i => g.okm (m.p i)) hk hb]
  rfl
theorem EG.askE_good {g : EG} {m : MG} (hv : g.valid = true) (h60 : ¬ 60 < m.n) (hb : ∀ k, k < m.n → g.okm (m.p k) = true) : g.askE m = 0 := by
  unfold EG.askE
  rw [if_neg (by simp [hv]), if_neg h60, all_yes' (p := fun i => g.okm (m.p i)) hb]
  rfl
theorem th_min {g : EG} {a b : Int} (ha : g.th a = true) (hb : g.th b = true) : g.th (min a b) = true ∧ g.th (max a b) = true := by
  rcases Int.le_total a b with h1 | h1
  · rw [Int.min_eq_left h1, Int.max_eq_right h1]; exact ⟨ha, hb⟩
  · rw [Int.min_eq_right h1, Int.max_eq_left h1]; exact ⟨hb, ha⟩
theorem matched97 (HS : SortOK) (g : EG) (h : g.OK) (m : MG) (hn : m.n ≤ 1000000) : Own Tryz.prog 68 [] [g.sv, m.sv] (g.matS m) (g.matR m) := by
  refine own_of_GC T_ok Tryz.func68 rfl (by kernel_rfl) (Nat.le_of_ble_eq_true rfl) rfl rfl ?_
  simp [go_sem]
  by_cases hv : g.valid = true
  rotate_left
  · have hv' : g.valid = false := by simpa using hv
    have e : g.askE m = 8 := by simp [EG.askE, hv']
    refine callK_own [] (look_bad h hv') (by simp) rfl trivial ?_
    simp [go_sem, EG.matS, EG.matR, e]
    exact ⟨[], by simp, fun N => ⟨by simp [go_sem], trivial⟩⟩
  refine callK_own [] (look_yes h hv) (by simp) rfl trivial ?_
  by_cases h60 : 60 < m.n
  · have h60' : 60 < (m.n : Int) := by omega
    have e : g.askE m = 4 := by simp [EG.askE, hv, h60]
    simp [go_sem, h60', EG.matS, EG.matR, e]
    exact ⟨[], by simp, fun N => ⟨by simp [go_sem], trivial⟩⟩
  have h60' : ¬ 60 < (m.n : Int) := by omega
  simp [go_sem, h60']
  refine GLoop_pre (GSt.adopt 9 92 2 (fun i j => .r (prR m.q i j)) rfl) ?_
  refine GLoop_s T_ok (α := Nat) (fun k => [(7, .ptr 1 0 4 0), (9, .sl 3 2 0 k none), (24, m.sv), (25, .i m.n), (26, .i k)]) (fun k => [g.bx, some (g.dbox (.mp 2)), some g.dmap, some (.vec 92 2 k fun i j => .r (prR m.q i j))]) 4
    (fun k => k ≤ m.n ∧ ∀ j, j < k → g.okm (m.p j) = true) (fun k => m.n - k) 0 (fun _ => rfl) (by simp) (by simp [go_sem]) (by simp [go_sem]) ?_
  intro k J hi
  obtain ⟨hk, hok⟩ := hi
  by_cases hlt : k < m.n
  · simp [go_sem, hlt]
    refine call_val (pairOf75 _ _) rfl rfl ?_
    simp [go_sem]
    by_cases hab : (m.p k).a = (m.p k).b
    · have e := EG.askE_bad hv h60 hlt (show g.okm (m.p k) = false by simp [EG.okm, hab])
      have hx : max (m.p k).a (m.p k).b = (m.p k).b := by rw [hab]; exact Int.max_self _
      have hy : min (m.p k).a (m.p k).b = (m.p k).b := by rw [hab]; exact Int.min_self _
      simp [go_sem, hab, EG.matS, EG.matR, e]
      exact ⟨[], by simp, fun N => ⟨by simp [go_sem], trivial⟩⟩
    rw [if_pos fun h1 h2 => hab (by omega)]
    refine call_lent (v := .b (g.th (min (m.p k).a (m.p k).b))) ?_ rfl ?_
    · simp [go_sem]
      exact there63 g h _ (by simp [go_sem, viewRV]) _
    by_cases tp : g.th (min (m.p k).a (m.p k).b) = true
    rotate_left
    · have tp' : g.th (min (m.p k).a (m.p k).b) = false := by simpa using tp
      have e := EG.askE_bad hv h60 hlt (show g.okm (m.p k) = false by
        cases ho : g.okm (m.p k) with
        | false => rfl
        | true =>
          simp only [EG.okm, Bool.and_eq_true] at ho
          exact absurd (th_min ho.1.1 ho.1.2).1 tp)
      simp [go_sem, tp', EG.matS, EG.matR, e]
      exact ⟨[], by simp, fun N => ⟨by simp [go_sem], trivial⟩⟩
    simp [go_sem, tp]
    refine call_lent (v := .b (g.th (max (m.p k).a (m.p k).b))) ?_ rfl ?_
    · simp [go_sem]
      exact there63 g h _ (by simp [go_sem, viewRV]) _
    by_cases tq : g.th (max (m.p k).a (m.p k).b) = true
    rotate_left
    · have tq' : g.th (max (m.p k).a (m.p k).b) = false := by simpa using tq
      have e := EG.askE_bad hv h60 hlt (show g.okm (m.p k) = false by
        cases ho : g.okm (m.p k) with
        | false => rfl
        | true =>
          simp only [EG.okm, Bool.and_eq_true] at ho
          exact absurd (th_min ho.1.1 ho.1.2).2 tq)
      simp [go_sem, tq', EG.matS, EG.matR, e]
      exact ⟨[], by simp, fun N => ⟨by simp [go_sem], trivial⟩⟩
    have hokk : g.okm (m.p k) = true := by
      simp only [EG.okm, Bool.and_eq_true]
      rcases Int.le_total (m.p k).a (m.p k).b with h1 | h1
      · rw [Int.min_eq_left h1] at tp
        rw [Int.max_eq_right h1] at tq
        exact ⟨⟨tp, tq⟩, by simp [hab]⟩
      · rw [Int.min_eq_right h1] at tp
        rw [Int.max_eq_left h1] at tq
        exact ⟨⟨tq, tp⟩, by simp [hab]⟩
    simp [go_sem, tq]
    refine ⟨⟨by omega, by omega⟩, ⟨by omega, by omega⟩, k + 1, ⟨by omega, fun j hj => ?_⟩, by omega, ⟨by omega, by omega⟩, by omega, fun i j hi2 hj => ?_⟩
    · by_cases e : j = k
      · subst e; exact hokk
      · exact hok j (by omega)
    unfold joined
    by_cases h5 : i < k
    · simp [h5, SV.kill, SV.trim]
    · have h6 : i = k := by omega
      subst h6
      rcases (by omega : j = 0 ∨ j = 1) with rfl | rfl <;> simp [SV.kill, SV.trim, MG.q, prR, go_sem]
  · have e : k = m.n := by omega
    subst e
    simp [go_sem]
    refine callK_ownS [3] (HS m.n m.q hn) (by simp) (by simp) rfl ⟨rfl, trivial⟩ ?_
    simp [go_sem]
    refine callK_own [3] (compact133 m.n (by omega) (srtX m.q m.n)) (by simp) rfl ⟨by simp [go_sem], trivial⟩ ?_
    have e0 := EG.askE_good hv h60 hok
    have el : m.l.length = (kept (dup (srtX m.q m.n)) m.n).length := by simp [MG.l]
    simp [go_sem, EG.matS, EG.matR, e0]
    refine ⟨[1, 2, 5], by simp, fun N => ⟨by simp [go_sem, el], ?_⟩⟩
    simp [go_sem, el]
    intro i j hi hj
    rw [rowsL_get (List.getElem?_eq_getElem hi)]
    unfold rowsP MG.l
    rw [List.getElem?_map, List.getElem?_eq_getElem hi]
    rfl
end Go.Gx
