/-
  The program's Why: the closure that marks what is next (a search by breadth).
-/
import Derived.Test.YtnajladibkpeaaaGreatU5
set_option linter.unusedVariables false
set_option linter.unusedSimpArgs false
set_option maxRecDepth 20000
set_option maxHeartbeats 4000000
namespace Go.Gx
open Go.RowKit Go.Proofs Go.Proofs.YtnajladibkpeaaaGreat

/-- What a search by breadth knows: which records it has met, how far they are, the line of those to be gone from (behind the first lo of L). -/
structure BF where
  h : Int → Bool
  v : Int → Int
  lo : Nat
  L : List Nat
abbrev BF.Rs (s : BF) (c : Int) : List Reg := [.box [.mp 1], .map s.h (fun a => .i (s.v a)) none, .box [.i c], .box [.sl 4 1 s.lo (s.L.length - s.lo) none], .vec 3 1 s.L.length (ints s.L)]
structure BF.st (c : Int) (d : Nat) (s t : BF) : Prop where
  lo : t.lo ≤ t.L.length
  q : t.L.drop t.lo = s.L.drop s.lo ++ (if s.h d then [] else [d])
  len : t.L.length ≤ s.L.length + (if s.h d = true then 0 else 1)
  h : ∀ a, t.h a = (s.h a || decide (a = (d : Int)))
  v : ∀ a, s.h a = true → t.v a = s.v a
  vd : s.h d = false → t.v d = s.v c + 1
theorem BF.st_yes {s : BF} {c : Int} {d : Nat} (hlo : s.lo ≤ s.L.length) (h : s.h d = true) : BF.st c d s s :=
  ⟨hlo, by simp [h], by simp [h], fun a => by
    by_cases e : a = (d : Int)
    · subst e; simp [h]
    · simp [e], fun _ _ => rfl, fun h' => by rw [h] at h'; cases h'⟩
theorem nth_app {l : List Nat} {k i : Nat} (hi : i < l.length + 1) : nth (l ++ [k]) i = if i < l.length then nth l i else k := by
  unfold nth
  by_cases h : i < l.length
  · rw [if_pos h]
    simp [List.getD, List.getElem?_append_left h]
  · have : i = l.length := by omega
    subst this
    simp [List.getD]
theorem nth_drop (l : List Nat) (lo i : Nat) : nth (l.drop lo) i = nth l (lo + i) := by
  unfold nth
  simp [List.getD, List.getElem?_drop]
theorem joined_ints {L : List Nat} {d i : Nat} {get : Nat → Nat → SV} (hi : i < L.length + 1) (h0 : get 0 0 = .i d) : joined L.length 1 (ints L) get i 0 = .i (nth (L ++ [d]) i : Nat) := by
  unfold joined
  rw [nth_app hi]
  by_cases h : i < L.length
  · rw [if_pos h, if_pos h]
  · have : i - L.length = 0 := by omega
    rw [if_neg h, if_neg h, if_pos hi, this, h0]
theorem cl55 (s : BF) (c : Int) (d : Nat) (hc : s.h c = true) (hv : 0 ≤ s.v c ∧ s.v c ≤ 1000000000) (hlo : s.lo ≤ s.L.length) (hL : s.L.length ≤ 1000000000) :
    OwnX Tryz.prog 4 39 (s.Rs c) [.i d, .ptr 0 0 1 0, .ptr 2 0 1 0, .ptr 3 0 1 0] fun S Rs' => S = .tup [] ∧ ∃ t, BF.st c d s t ∧ Rs' = BF.Rs t c := by
  refine ownX_of_GC T_ok Tryz.func39 rfl (by kernel_rfl) (Nat.le_of_ble_eq_true rfl) rfl rfl 4 (by simp) ?_
  obtain ⟨sh, sv, lo, L⟩ := s
  dsimp only at hc hv hlo hL
  by_cases hd : sh d = true
  · simp [go_sem, hd]
    exact gxe.mk _ _ [0, 1, 2, 3, 4] ⟨rfl, _, BF.st_yes hlo hd, rfl⟩ (by simp [keepsL]) (by simp) (fun N => by simp [go_sem]) (fun N => by simp [go_sem])
  have hd' : sh d = false := by simpa using hd
  simp [go_sem, hd', hc]
  refine ⟨by omega, ?_⟩
  have st0 : ∀ (lo' : Nat) (L' : List Nat), lo' ≤ L'.length → L'.drop lo' = L.drop lo ++ [d] → L'.length ≤ L.length + 1 →
      BF.st c d ⟨sh, sv, lo, L⟩ ⟨fun k => decide (k = (d : Int)) || sh k, fun k => if k = (d : Int) then sv c + 1 else sv k, lo', L'⟩ := fun lo' L' h1 h2 h3 =>
    ⟨h1, by simp only [h2, hd']; simp, by simpa only [hd', Bool.false_eq_true, if_false] using h3, fun a => by dsimp only; rw [Bool.or_comm], fun a ha => (by
      dsimp only at ha ⊢
      rw [if_neg]
      intro e; subst e; rw [hd'] at ha; cases ha), fun _ => by simp⟩
  cases lo with
  | zero =>
    simp [go_sem]
    refine ⟨by omega, gxe.mk _ (BF.Rs ⟨fun k => decide (k = (d : Int)) || sh k, fun k => if k = (d : Int) then sv c + 1 else sv k, 0, L ++ [d]⟩ c) [0, 1, 2, 3, 4] ⟨rfl, _, st0 0 (L ++ [d]) (by omega) (by simp) (by simp), rfl⟩ (by simp [keepsL]) (by simp) (fun N => by simp [go_sem]) (fun N => ?_)⟩
    simp [go_sem]
    refine ⟨fun a _ => by split <;> rfl, fun i hi => ?_⟩
    rw [joined_ints hi rfl]
    rfl
  | succ lo =>
    simp [go_sem]
    refine GOp_appLo T_ok (ref := 4) (lo := lo + 1) (n := L.length - (lo + 1)) (m := 1) (e := 3) (g := ints L) (by simp [go_sem]) (by simp [go_sem]; omega) rfl rfl rfl (by decide) rfl ⟨rfl, rfl, Nat.le_refl _⟩ (by decide) ?_ ?_ (by simp [go_sem]) (by decide) ?_ ?_
    · simp; omega
    · omega
    · simp [go_sem]
      refine gxe.mk _ (BF.Rs ⟨fun k => decide (k = (d : Int)) || sh k, fun k => if k = (d : Int) then sv c + 1 else sv k, lo + 1, L ++ [d]⟩ c) [0, 1, 2, 3, 4] ⟨rfl, _, st0 (lo + 1) (L ++ [d]) (by simp; omega) (by rw [List.drop_append_of_le_length hlo]) (by simp), rfl⟩ (by simp [keepsL]) (by simp) (fun N => by simp [go_sem]) (fun N => ?_)
      simp [go_sem]
      refine ⟨fun a _ => by split <;> rfl, by omega, by omega, fun i hi => ?_⟩
      have e : lo + 1 + (L.length - (lo + 1)) = L.length := by omega
      rw [e, joined_ints hi rfl]
      rfl
    · simp [go_sem]
      refine gxe.mk _ (BF.Rs ⟨fun k => decide (k = (d : Int)) || sh k, fun k => if k = (d : Int) then sv c + 1 else sv k, 0, L.drop (lo + 1) ++ [d]⟩ c) [0, 1, 2, 3, 4] ⟨rfl, _, st0 0 (L.drop (lo + 1) ++ [d]) (by simp) (by simp) (by simp), rfl⟩ (by simp [keepsL]) (by simp) (fun N => by simp [go_sem]) (fun N => ?_)
      simp [go_sem]
      refine ⟨fun a _ => by split <;> rfl, fun i hi => ?_⟩
      have e : (fun i j => ints L (lo + 1 + i) j) = ints (L.drop (lo + 1)) := by
        funext i j
        simp [ints, nth_drop]
      have e2 : L.length - (lo + 1) = (L.drop (lo + 1)).length := by simp
      rw [e, e2, joined_ints (by rw [← e2]; exact hi) rfl]
      rfl
end Go.Gx
/-
  The program's Why: going through the links of a record.
-/
set_option linter.unusedVariables false
set_option linter.unusedSimpArgs false
set_option maxRecDepth 20000
set_option maxHeartbeats 4000000
namespace Go.Gx
open Go.RowKit Go.Proofs Go.Proofs.YtnajladibkpeaaaGreat

/-- Link j touches record a; the other record of it. -/
def EG.tch (g : EG) (a : Int) (j : Nat) : Bool := (g.l j).s && (decide ((g.l j).a = a) || decide ((g.l j).b = a))
def EG.ot (g : EG) (a : Int) (j : Nat) : Nat := ((g.l j).a + (g.l j).b - a).toNat
theorem EG.ot_eq {g : EG} (hl : g.inl) {a : Int} {j : Nat} (hj : j < g.nl) (h : g.tch a j = true) : ((g.ot a j : Nat) : Int) = (g.l j).a + (g.l j).b - a := by
  obtain ⟨q1, q2, q3, q4⟩ := hl j hj
  simp only [EG.tch, Bool.and_eq_true, Bool.or_eq_true, decide_eq_true_eq] at h
  unfold EG.ot
  omega
inductive BF.sts (g : EG) (a c : Int) : Nat → BF → BF → Prop
  | zero (s : BF) : BF.sts g a c 0 s s
  | skip {k : Nat} {s t : BF} : BF.sts g a c k s t → g.tch a k = false → BF.sts g a c (k + 1) s t
  | go {k : Nat} {s t u : BF} : BF.sts g a c k s t → g.tch a k = true → BF.st c (g.ot a k) t u → BF.sts g a c (k + 1) s u
theorem BF.sts_bd {g : EG} {a c : Int} {k : Nat} {s t : BF} (h : BF.sts g a c k s t) (hc : s.h c = true) (hlo : s.lo ≤ s.L.length) : t.h c = true ∧ t.v c = s.v c ∧ t.lo ≤ t.L.length ∧ t.L.length ≤ s.L.length + k := by
  induction h with
  | zero => exact ⟨hc, rfl, hlo, by omega⟩
  | skip _ _ ih => obtain ⟨h1, h2, h3, h4⟩ := ih hc hlo; exact ⟨h1, h2, h3, by omega⟩
  | go _ _ hs ih =>
    obtain ⟨h1, h2, h3, h4⟩ := ih hc hlo
    refine ⟨by rw [hs.h, h1]; rfl, by rw [hs.v _ h1]; exact h2, hs.lo, ?_⟩
    have := hs.len
    split at this <;> omega
theorem next54a (g : EG) (h : g.OK) (hl : g.inl) (a c : Int) (ha : 0 ≤ a ∧ a < g.nr) (C D : Nat → Nat → RV) (hC : C 0 0 = .rp 4 1 D 0 0) (hD : D 0 1 = .rs 3 g.nl fun i j => (g.l i).c j)
    (s : BF) (hc : s.h c = true) (hv : 0 ≤ s.v c ∧ s.v c ≤ 1000000000) (hlo : s.lo ≤ s.L.length) (hL : s.L.length ≤ 1000) (hnl : g.nl ≤ 1000) :
    OwnX Tryz.prog 4 38 (s.Rs c) [.i a, .fn (.func 39) [] [.ptr 0 0 1 0, .ptr 2 0 1 0, .ptr 3 0 1 0], .r (.rp 1 1 C 0 0)] fun S Rs' => S = .tup [] ∧ ∃ t, BF.sts g a c g.nl s t ∧ Rs' = BF.Rs t c := by
  refine ownX_of_GC T_ok Tryz.func38 rfl (by kernel_rfl) (Nat.le_of_ble_eq_true rfl) rfl rfl 4 (by simp) ?_
  have := h.nr
  simp [go_sem, hC, hD]
  refine GLoop_fit T_ok (α := Nat × BF) (fun x => [(0, .i a), (1, .fn (.func 39) [] [.ptr 0 0 1 0, .ptr 2 0 1 0, .ptr 3 0 1 0]), (2, .r (.rp 1 1 C 0 0)), (11, g.ll), (12, .i g.nl), (13, .i x.1)]) (fun x => memL [some (.box [.mp 1]), some (.map x.2.h (fun a => .i (x.2.v a)) none), some (.box [.i c]), some (.box [.sl 4 1 x.2.lo (x.2.L.length - x.2.lo) none]), some (.vec 3 1 x.2.L.length (ints x.2.L))]) 5
    (fun x => x.1 ≤ g.nl ∧ BF.sts g a c x.1 s x.2) (fun x => g.nl - x.1) (0, s) ⟨by simp, .zero s⟩ ?_ ?_
  · exact Fit.of_regs (by decide) rfl (by simp [go_sem]) (by simp [go_sem])
  rintro ⟨k, t⟩ J ⟨hk, hs⟩
  dsimp only at hk hs
  obtain ⟨b1, b2, b3, b4⟩ := BF.sts_bd hs hc hlo
  by_cases hlt : k < g.nl
  rotate_left
  · have e : k = g.nl := by omega
    subst e
    simp [go_sem]
    exact gxe.mk _ (BF.Rs t c) [0, 1, 2, 3, 4] ⟨rfl, t, hs, rfl⟩ (by simp [keepsL]) (by simp) (fun N => by simp [go_sem]) (fun N => by simp [go_sem])
  have skp : g.tch a k = false → BF.sts g a c (k + 1) s t := fun hf => .skip hs hf
  obtain ⟨q1, q2, q3, q4⟩ := hl k hlt
  by_cases hsm : (g.l k).s = true
  rotate_left
  · have hs' : (g.l k).s = false := by simpa using hsm
    simp [go_sem, hlt, hs']
    exact ⟨by omega, k + 1, t, ⟨by omega, skp (by simp [EG.tch, hs'])⟩, by omega, Fit.of_regs (by decide) rfl (by simp [go_sem]) (by simp [go_sem])⟩
  by_cases hA : (g.l k).a = a
  · have ht : g.tch a k = true := by simp [EG.tch, hsm, hA]
    have ho := EG.ot_eq hl hlt ht
    rw [hA] at ho
    simp [go_sem, hlt, hsm, hA]
    refine ⟨by omega, by omega, ?_⟩
    refine callK_ownX [0, 1, 2, 3, 4] (cl55 t c (g.ot a k) b1 (by omega) b3 (by omega)) (by simp) (by simp) (by simp [go_sem, ho]) (by simp [go_sem]) ?_
    rintro S Rs' ⟨rfl, u, hu, rfl⟩
    simp [go_sem]
    exact ⟨by omega, k + 1, u, ⟨by omega, .go hs ht hu⟩, by omega, Fit.vw (GSt.move 10 4 (by decide) (by decide) (by decide) (by decide)) (Fit.of_regs (by decide) rfl (by simp [go_sem]) (by simp [go_sem]))⟩
  by_cases hB : (g.l k).b = a
  · have ht : g.tch a k = true := by simp [EG.tch, hsm, hB]
    have ho := EG.ot_eq hl hlt ht
    rw [hB] at ho
    simp [go_sem, hlt, hsm, hA, hB]
    refine ⟨by omega, by omega, ?_⟩
    refine callK_ownX [0, 1, 2, 3, 4] (cl55 t c (g.ot a k) b1 (by omega) b3 (by omega)) (by simp) (by simp) (by simp [go_sem, ho]) (by simp [go_sem]) ?_
    rintro S Rs' ⟨rfl, u, hu, rfl⟩
    simp [go_sem]
    exact ⟨by omega, k + 1, u, ⟨by omega, .go hs ht hu⟩, by omega, Fit.vw (GSt.move 10 4 (by decide) (by decide) (by decide) (by decide)) (Fit.of_regs (by decide) rfl (by simp [go_sem]) (by simp [go_sem]))⟩
  · simp [go_sem, hlt, hsm, hA, hB]
    exact ⟨by omega, k + 1, t, ⟨by omega, skp (by simp [EG.tch, hA, hB])⟩, by omega, Fit.of_regs (by decide) rfl (by simp [go_sem]) (by simp [go_sem])⟩
end Go.Gx
/-
  The program's Why: the closure that looks for the next record.
-/
set_option linter.unusedVariables false
set_option linter.unusedSimpArgs false
set_option maxRecDepth 20000
set_option maxHeartbeats 4000000
namespace Go.Gx
open Go.RowKit Go.Proofs Go.Proofs.YtnajladibkpeaaaGreat

abbrev stR (hs : Int → Bool) (v : Int → Int) (a s : Int) : List Reg := [.box [.mp 1], .map hs (fun a => .i (v a)) none, .box [.i a], .box [.i s]]
def stp (v : Int → Int) (a s d : Int) : Int := if v d = v a - 1 ∧ (s < 0 ∨ d < s) then d else s
theorem cl56 (hs : Int → Bool) (v : Int → Int) (a s d : Int) (ha : hs a = true) (hd : hs d = true) (hv : 0 ≤ v a ∧ v a ≤ 1000000000) :
    OwnS Tryz.prog 4 40 (stR hs v a s) [.i d, .ptr 0 0 1 0, .ptr 2 0 1 0, .ptr 3 0 1 0] (.tup []) (stR hs v a (stp v a s d)) := by
  refine ownS_of_GC T_ok Tryz.func40 rfl (by kernel_rfl) (Nat.le_of_ble_eq_true rfl) rfl rfl 4 (by simp) ?_
  have fin : ∀ s', s' = stp v a s d → ∀ M : Mem, (∀ N : Nat, gexpR M (fun i => ([0, 1, 2, 3][i]?).getD N) [0, 1, 2, 3] (stR hs v a s')) → ∃ ρl, keepsL 4 0 ρl ∧ gexp M (.tup []) ρl (.tup []) (stR hs v a (stp v a s d)) := by
    rintro s' rfl M hM
    exact ⟨[0, 1, 2, 3], by simp [keepsL], by simp, fun N => ⟨by simp [go_sem], hM N⟩⟩
  by_cases h1 : v d = v a - 1
  · by_cases h2 : s < 0
    · simp [go_sem, ha, hd, h1, h2]
      exact ⟨by omega, fin d (by simp [stp, h1, h2]) _ fun N => by simp [go_sem]⟩
    · by_cases h3 : d < s
      · simp [go_sem, ha, hd, h1, h2, h3]
        exact ⟨by omega, fin d (by simp [stp, h1, h3]) _ fun N => by simp [go_sem]⟩
      · simp [go_sem, ha, hd, h1, h2, h3]
        exact ⟨by omega, fin s (by simp [stp, h2, h3]) _ fun N => by simp [go_sem]⟩
  · simp [go_sem, ha, hd, h1]
    exact ⟨by omega, fin s (by simp [stp, h1]) _ fun N => by simp [go_sem]⟩
/-- s is the least other record of the first k links that is one nearer (or -1). -/
def EG.lst (g : EG) (v : Int → Int) (a : Int) (k : Nat) (s : Int) : Prop :=
  (s = -1 ∧ ∀ j, j < k → g.tch a j = true → v (g.ot a j) ≠ v a - 1) ∨
  (0 ≤ s ∧ (∃ j, j < k ∧ g.tch a j = true ∧ v (g.ot a j) = v a - 1 ∧ ((g.ot a j : Nat) : Int) = s) ∧ ∀ j, j < k → g.tch a j = true → v (g.ot a j) = v a - 1 → s ≤ g.ot a j)
theorem EG.lst_skip {g : EG} {v : Int → Int} {a : Int} {k : Nat} {s : Int} (h : g.lst v a k s) (hk : g.tch a k = true → v (g.ot a k) ≠ v a - 1) : g.lst v a (k + 1) s := by
  rcases h with ⟨rfl, h⟩ | ⟨h0, ⟨j, j1, j2⟩, h⟩
  · refine .inl ⟨rfl, fun i hi ht => ?_⟩
    by_cases e : i = k
    · subst e; exact hk ht
    · exact h i (by omega) ht
  · refine .inr ⟨h0, ⟨j, by omega, j2⟩, fun i hi ht hv => ?_⟩
    by_cases e : i = k
    · subst e; exact absurd hv (hk ht)
    · exact h i (by omega) ht hv
theorem EG.lst_go {g : EG} {v : Int → Int} {a : Int} {k : Nat} {s : Int} (h : g.lst v a k s) (ht : g.tch a k = true) : g.lst v a (k + 1) (stp v a s (g.ot a k)) := by
  by_cases hc : v (g.ot a k) = v a - 1
  rotate_left
  · have : stp v a s (g.ot a k) = s := by simp [stp, hc]
    rw [this]
    exact EG.lst_skip h fun _ => hc
  rcases h with ⟨rfl, h⟩ | ⟨h0, ⟨j, j1, j2, j3, j4⟩, h⟩
  · have : stp v a (-1) (g.ot a k) = (g.ot a k : Nat) := by simp [stp, hc]
    rw [this]
    refine .inr ⟨by omega, ⟨k, by omega, ht, hc, rfl⟩, fun i hi hti hvi => ?_⟩
    by_cases e : i = k
    · subst e; omega
    · exact absurd hvi (h i (by omega) hti)
  · by_cases hlt : ((g.ot a k : Nat) : Int) < s
    · have : stp v a s (g.ot a k) = (g.ot a k : Nat) := by simp [stp, hc, hlt]
      rw [this]
      refine .inr ⟨by omega, ⟨k, by omega, ht, hc, rfl⟩, fun i hi hti hvi => ?_⟩
      by_cases e : i = k
      · subst e; omega
      · have := h i (by omega) hti hvi; omega
    · have : stp v a s (g.ot a k) = s := by
        unfold stp
        rw [if_neg]
        omega
      rw [this]
      refine .inr ⟨h0, ⟨j, by omega, j2, j3, j4⟩, fun i hi hti hvi => ?_⟩
      by_cases e : i = k
      · subst e; omega
      · exact h i (by omega) hti hvi
theorem next54b (g : EG) (h : g.OK) (hl : g.inl) (a : Int) (C D : Nat → Nat → RV) (hC : C 0 0 = .rp 4 1 D 0 0) (hD : D 0 1 = .rs 3 g.nl fun i j => (g.l i).c j)
    (hs : Int → Bool) (v : Int → Int) (ha : 0 ≤ a ∧ a < g.nr) (hha : hs a = true) (hv : 0 ≤ v a ∧ v a ≤ 1000000000) (hho : ∀ j, j < g.nl → g.tch a j = true → hs (g.ot a j) = true) :
    OwnX Tryz.prog 4 38 (stR hs v a (-1)) [.i a, .fn (.func 40) [] [.ptr 0 0 1 0, .ptr 2 0 1 0, .ptr 3 0 1 0], .r (.rp 1 1 C 0 0)] fun S Rs' => S = .tup [] ∧ ∃ s, g.lst v a g.nl s ∧ Rs' = stR hs v a s := by
  refine ownX_of_GC T_ok Tryz.func38 rfl (by kernel_rfl) (Nat.le_of_ble_eq_true rfl) rfl rfl 4 (by simp) ?_
  have := h.nr
  have := h.nl
  simp [go_sem, hC, hD]
  refine GLoop_s T_ok (α := Nat × Int) (fun x => [(0, .i a), (1, .fn (.func 40) [] [.ptr 0 0 1 0, .ptr 2 0 1 0, .ptr 3 0 1 0]), (2, .r (.rp 1 1 C 0 0)), (11, g.ll), (12, .i g.nl), (13, .i x.1)]) (fun x => [some (.box [.mp 1]), some (.map hs (fun a => .i (v a)) none), some (.box [.i a]), some (.box [.i x.2])]) 4
    (fun x => x.1 ≤ g.nl ∧ g.lst v a x.1 x.2) (fun x => g.nl - x.1) (0, -1) (fun _ => rfl) ⟨by simp, .inl ⟨rfl, fun j hj => by omega⟩⟩ (by simp [go_sem]) (by simp [go_sem]) ?_
  rintro ⟨k, s⟩ J ⟨hk, hi⟩
  dsimp only at hk hi
  by_cases hlt : k < g.nl
  rotate_left
  · have e : k = g.nl := by omega
    subst e
    simp [go_sem]
    exact gxe.mk _ (stR hs v a s) [0, 1, 2, 3] ⟨rfl, s, hi, rfl⟩ (by simp [keepsL]) (by simp) (fun N => by simp [go_sem]) (fun N => by simp [go_sem])
  obtain ⟨q1, q2, q3, q4⟩ := hl k hlt
  have skp : g.tch a k = false → g.lst v a (k + 1) s := fun hf => EG.lst_skip hi fun ht => by rw [hf] at ht; cases ht
  by_cases hsm : (g.l k).s = true
  rotate_left
  · have hs' : (g.l k).s = false := by simpa using hsm
    simp [go_sem, hlt, hs']
    exact ⟨by omega, k + 1, s, ⟨by omega, skp (by simp [EG.tch, hs'])⟩, by omega, by omega, rfl⟩
  by_cases hA : (g.l k).a = a
  · have ht : g.tch a k = true := by simp [EG.tch, hsm, hA]
    have ho := EG.ot_eq hl hlt ht
    rw [hA] at ho
    simp [go_sem, hlt, hsm, hA]
    refine ⟨by omega, by omega, ?_⟩
    refine callK_ownS [0, 1, 2, 3] (cl56 hs v a s (g.ot a k) hha (hho k hlt ht) hv) (by simp) (by simp) (by simp [go_sem, ho]) (by simp [go_sem]) ?_
    simp [go_sem]
    exact ⟨by omega, k + 1, _, ⟨by omega, EG.lst_go hi ht⟩, by omega, by omega, rfl⟩
  by_cases hB : (g.l k).b = a
  · have ht : g.tch a k = true := by simp [EG.tch, hsm, hB]
    have ho := EG.ot_eq hl hlt ht
    rw [hB] at ho
    simp [go_sem, hlt, hsm, hA, hB]
    refine ⟨by omega, by omega, ?_⟩
    refine callK_ownS [0, 1, 2, 3] (cl56 hs v a s (g.ot a k) hha (hho k hlt ht) hv) (by simp) (by simp) (by simp [go_sem, ho]) (by simp [go_sem]) ?_
    simp [go_sem]
    exact ⟨by omega, k + 1, _, ⟨by omega, EG.lst_go hi ht⟩, by omega, by omega, rfl⟩
  · simp [go_sem, hlt, hsm, hA, hB]
    exact ⟨by omega, k + 1, s, ⟨by omega, skp (by simp [EG.tch, hA, hB])⟩, by omega, by omega, rfl⟩
end Go.Gx
/-
  Plain law: the search by breadth finds how far each record is.
-/
set_option linter.unusedVariables false
set_option linter.unusedSimpArgs false
set_option maxRecDepth 20000
set_option maxHeartbeats 4000000
namespace Go.Gx
open Go.RowKit Go.Proofs Go.Proofs.YtnajladibkpeaaaGreat

theorem EG.tch_adj {g : EG} (hl : g.inl) {a : Int} {y : Nat} : g.adj g.nl a y ↔ ∃ j, j < g.nl ∧ g.tch a j = true ∧ g.ot a j = y := by
  constructor
  · rintro ⟨j, h1, h2, h3⟩
    have ht : g.tch a j = true := by
      simp only [EG.tch, Bool.and_eq_true, Bool.or_eq_true, decide_eq_true_eq]
      exact ⟨h2, h3.imp (·.1) (·.1)⟩
    have := EG.ot_eq hl h1 ht
    exact ⟨j, h1, ht, by omega⟩
  · rintro ⟨j, h1, ht, h2⟩
    have := EG.ot_eq hl h1 ht
    simp only [EG.tch, Bool.and_eq_true, Bool.or_eq_true, decide_eq_true_eq] at ht
    refine ⟨j, h1, ht.1, ?_⟩
    rcases ht.2 with h | h
    · exact .inl ⟨h, by omega⟩
    · exact .inr ⟨h, by omega⟩
structure BInv (g : EG) (b : Nat) (h : Int → Bool) (v : Int → Int) (Q : List Nat) : Prop where
  hb : h b = true
  vb : v b = 0
  rng : ∀ a, h a = true → 0 ≤ a ∧ a < g.nr
  wk : ∀ x : Nat, h x = true → ∃ n : Nat, v x = n ∧ g.rc b n x = true
  inq : ∀ x ∈ Q, h (x : Nat) = true
  srt : Q.Pairwise fun x y => v (x : Nat) ≤ v (y : Nat) ∧ v (y : Nat) ≤ v (x : Nat) + 1
  old : ∀ x : Nat, h x = true → x ∉ Q → (∀ y ∈ Q, v x ≤ v (y : Nat)) ∧ ∀ y : Nat, g.adj g.nl x y → h y = true ∧ v y ≤ v x + 1
theorem BInv.init {g : EG} {b : Nat} (hb : b < g.nr) : BInv g b (fun a => decide (a = (b : Int))) (fun _ => 0) [b] :=
  ⟨by simp, rfl, fun a h => by simp only [decide_eq_true_eq] at h; omega, fun x h => ⟨0, rfl, by simp only [decide_eq_true_eq] at h; simp only [EG.rc, decide_eq_true_eq]; exact h.symm⟩,
    fun x h => by simp at h; simp [h], by simp, fun x h h' => by
      simp only [decide_eq_true_eq] at h
      simp at h'
      omega⟩
theorem BInv.st {g : EG} (hl : g.inl) {b c d : Nat} {s t : BF} {Q0 : List Nat} (hs : BF.st c d s t) (hQ : s.L.drop s.lo = c :: Q0) (hi : BInv g b s.h s.v (s.L.drop s.lo)) (ha : g.adj g.nl c d) : BInv g b t.h t.v (t.L.drop t.lo) := by
  have hc : s.h c = true := hi.inq c (by rw [hQ]; simp)
  have hm : ∀ a, s.h a = true → t.h a = true := fun a h => by rw [hs.h, h]; rfl
  cases hd : s.h d with
  | true =>
    have e1 : t.L.drop t.lo = s.L.drop s.lo := by rw [hs.q]; simp [hd]
    have e2 : ∀ a, t.h a = true ↔ s.h a = true := fun a => by
      rw [hs.h]
      by_cases e : a = (d : Int)
      · subst e; simp [hd]
      · simp [e]
    rw [e1]
    refine ⟨(e2 _).2 hi.hb, by rw [hs.v _ hi.hb]; exact hi.vb, fun a h => hi.rng a ((e2 a).1 h), fun x h => by rw [hs.v _ ((e2 x).1 h)]; exact hi.wk x ((e2 x).1 h), fun x h => hm _ (hi.inq x h), ?_, fun x h hx => ?_⟩
    · refine hi.srt.imp_of_mem fun {x y} hx hy hxy => ?_
      rw [hs.v _ (hi.inq x hx), hs.v _ (hi.inq y hy)]; exact hxy
    · obtain ⟨o1, o2⟩ := hi.old x ((e2 x).1 h) hx
      refine ⟨fun y hy => by rw [hs.v _ ((e2 x).1 h), hs.v _ (hi.inq y hy)]; exact o1 y hy, fun y hy => ?_⟩
      obtain ⟨o3, o4⟩ := o2 y hy
      exact ⟨hm _ o3, by rw [hs.v _ o3, hs.v _ ((e2 x).1 h)]; exact o4⟩
  | false =>
    have e1 : t.L.drop t.lo = s.L.drop s.lo ++ [d] := by rw [hs.q]; simp [hd]
    have e2 : ∀ x : Nat, t.h x = true ↔ s.h x = true ∨ x = d := fun x => by
      rw [hs.h]
      by_cases e : x = d
      · subst e; simp
      · have : ¬ (x : Int) = (d : Int) := by omega
        simp [e, this]
    have hvd := hs.vd hd
    have hsrt : ∀ x ∈ s.L.drop s.lo, s.v c ≤ s.v (x : Nat) ∧ s.v (x : Nat) ≤ s.v c + 1 := by
      intro x hx
      have := hi.srt
      rw [hQ] at this hx
      rcases List.mem_cons.1 hx with rfl | hx
      · omega
      · exact (List.pairwise_cons.1 this).1 x hx
    have hdr : (d : Int) < g.nr := by
      have := adj_in hl ha; omega
    rw [e1]
    refine ⟨hm _ hi.hb, by rw [hs.v _ hi.hb]; exact hi.vb, fun a h => ?_, fun x h => ?_, fun x h => ?_, ?_, fun x h hx => ?_⟩
    · rw [hs.h] at h
      by_cases e : a = (d : Int)
      · subst e; exact ⟨by omega, hdr⟩
      · have h' : s.h a = true := by simpa [e] using h
        exact hi.rng a h'
    · rcases (e2 x).1 h with h | rfl
      · rw [hs.v _ h]; exact hi.wk x h
      · obtain ⟨n, n1, n2⟩ := hi.wk c hc
        exact ⟨n + 1, by rw [hvd, n1]; rfl, (EG.rc_step hl).2 (.inr ⟨c, n2, ha⟩)⟩
    · rcases List.mem_append.1 h with h | h
      · exact hm _ (hi.inq x h)
      · simp at h; subst h; exact (e2 _).2 (.inr rfl)
    · rw [List.pairwise_append]
      refine ⟨?_, by simp, fun x hx y hy => ?_⟩
      · refine hi.srt.imp_of_mem fun {x y} hx hy hxy => ?_
        rw [hs.v _ (hi.inq x hx), hs.v _ (hi.inq y hy)]; exact hxy
      · simp at hy; subst hy
        have := hsrt x hx
        rw [hs.v _ (hi.inq x hx), hvd]
        omega
    · simp only [List.mem_append, List.mem_singleton, not_or] at hx
      have hx' : s.h x = true := ((e2 x).1 h).resolve_right hx.2
      obtain ⟨o1, o2⟩ := hi.old x hx' hx.1
      refine ⟨fun y hy => ?_, fun y hy => ?_⟩
      · rw [hs.v _ hx']
        rcases List.mem_append.1 hy with hy | hy
        · rw [hs.v _ (hi.inq y hy)]; exact o1 y hy
        · simp at hy; subst hy
          have := o1 c (by rw [hQ]; simp)
          omega
      · obtain ⟨o3, o4⟩ := o2 y hy
        exact ⟨hm _ o3, by rw [hs.v _ o3, hs.v _ hx']; exact o4⟩
/-- How many have been met. -/
def BF.cn (g : EG) (s : BF) : Nat := ((List.range g.nr).filter fun i : Nat => s.h i).length
theorem BF.cn_le (g : EG) (s : BF) : s.cn g ≤ g.nr := by
  have := List.length_filter_le (fun i : Nat => s.h i) (List.range g.nr)
  simpa [BF.cn] using this
theorem BF.st_cn {g : EG} {c : Int} {d : Nat} {s t : BF} (h : BF.st c d s t) (hd : d < g.nr) : s.cn g + (if s.h d = true then 0 else 1) ≤ t.cn g := by
  unfold BF.cn
  split
  · rename_i hh
    have : (List.range g.nr).filter (fun i : Nat => t.h i) = (List.range g.nr).filter fun i : Nat => s.h i := by
      refine List.filter_congr fun i _ => ?_
      rw [h.h]
      by_cases e : i = d
      · subst e; simp [hh]
      · have : ¬ (i : Int) = (d : Int) := by omega
        simp [this]
    rw [this]
    exact Nat.le_refl _
  · rename_i hh
    have hh' : s.h d = false := by simpa using hh
    exact left_lt hd (p := fun i : Nat => t.h i) (q := fun i : Nat => s.h i) (by rw [h.h]; simp) hh' fun i hi => by rw [h.h, hi]; rfl
structure BSc (g : EG) (b c : Nat) (s t : BF) (k : Nat) : Prop where
  inv : BInv g b t.h t.v (t.L.drop t.lo)
  hd : ∃ Q0, t.L.drop t.lo = c :: Q0
  met : ∀ j, j < k → g.tch c j = true → t.h (g.ot c j) = true
  mono : ∀ a, s.h a = true → t.h a = true
  len : t.L.length ≤ t.cn g
  vlt : ∀ x : Nat, t.h x = true → t.v x < t.cn g
  mu : 2 * (g.nr - t.cn g) + (t.L.drop t.lo).length ≤ 2 * (g.nr - s.cn g) + (s.L.drop s.lo).length
theorem BSc.of_sts {g : EG} (hl : g.inl) {b c : Nat} {s t : BF} {k : Nat} (hk : k ≤ g.nl) (h : BF.sts g c c k s t) (hi : BInv g b s.h s.v (s.L.drop s.lo)) {Q0 : List Nat} (hQ : s.L.drop s.lo = c :: Q0) (hlen : s.L.length ≤ s.cn g) (hvl : ∀ x : Nat, s.h x = true → s.v x < s.cn g) : BSc g b c s t k := by
  induction h with
  | zero => exact ⟨hi, ⟨Q0, hQ⟩, fun j hj => by omega, fun _ h => h, hlen, hvl, Nat.le_refl _⟩
  | @skip k s t _ hf ih =>
    obtain ⟨i1, i2, i3, i4, i5, i7, i6⟩ := ih (by omega) hi hQ hlen hvl
    refine ⟨i1, i2, fun j hj ht => ?_, i4, i5, i7, i6⟩
    by_cases e : j = k
    · subst e; rw [hf] at ht; cases ht
    · exact i3 j (by omega) ht
  | @go k s t u _ ht hst ih =>
    obtain ⟨i1, ⟨Q1, i2⟩, i3, i4, i5, i7, i6⟩ := ih (by omega) hi hQ hlen hvl
    have ha : g.adj g.nl c (g.ot c k : Nat) := (EG.tch_adj hl).2 ⟨k, by omega, ht, rfl⟩
    have hdr : g.ot c k < g.nr := by have := adj_in hl ha; omega
    have hm : ∀ a, t.h a = true → u.h a = true := fun a h => by rw [hst.h, h]; rfl
    have hcn := BF.st_cn hst hdr
    have hln := hst.len
    refine ⟨BInv.st hl hst i2 i1 ha, ⟨Q1 ++ (if t.h (g.ot c k) then [] else [g.ot c k]), by rw [hst.q, i2]; rfl⟩, fun j hj htj => ?_, fun a h => hm a (i4 a h), by omega, fun x hx => ?_, ?_⟩
    · by_cases e : j = k
      · subst e; rw [hst.h]; simp
      · exact hm _ (i3 j (by omega) htj)
    · by_cases e : t.h x = true
      · have := i7 x e
        rw [hst.v _ e]
        split at hcn <;> omega
      · have e' : x = g.ot c k := by
          rw [hst.h] at hx
          simp only [Bool.not_eq_true] at e
          rw [e] at hx
          simp only [Bool.false_or, decide_eq_true_eq] at hx
          omega
        subst e'
        have e2 : t.h (g.ot c k) = false := by simpa using e
        have := i7 c (i1.inq c (by rw [i2]; simp))
        rw [hst.vd e2]
        rw [if_neg (by simp [e2])] at hcn
        omega
    · refine Nat.le_trans ?_ i6
      rw [hst.q, List.length_append]
      have := u.cn_le g
      have := t.cn_le g
      by_cases e : t.h (g.ot c k) = true
      · simp [e] at hcn ⊢; omega
      · simp [e] at hcn ⊢; omega
/-- The first of the line is done. -/
theorem BSc.pop {g : EG} (hl : g.inl) {b c : Nat} {s t : BF} (h : BSc g b c s t g.nl) {Q0 : List Nat} (hQ : t.L.drop t.lo = c :: Q0) : BInv g b t.h t.v Q0 := by
  have hi := h.inv
  rw [hQ] at hi
  have hp := List.pairwise_cons.1 hi.srt
  refine ⟨hi.hb, hi.vb, hi.rng, hi.wk, fun x hx => hi.inq x (by simp [hx]), hp.2, fun x hx hxQ => ?_⟩
  by_cases e : x = c
  · subst e
    refine ⟨fun y hy => (hp.1 y hy).1, fun y hy => ?_⟩
    obtain ⟨j, j1, j2, j3⟩ := (EG.tch_adj hl).1 hy
    have hyh := h.met j j1 j2
    rw [j3] at hyh
    refine ⟨hyh, ?_⟩
    by_cases hyQ : y ∈ x :: Q0
    · rcases List.mem_cons.1 hyQ with rfl | hyQ
      · omega
      · exact (hp.1 y hyQ).2
    · have := (hi.old y hyh hyQ).1 x (by simp)
      omega
  · obtain ⟨o1, o2⟩ := hi.old x hx (by simp [e, hxQ])
    exact ⟨fun y hy => o1 y (by simp [hy]), o2⟩
theorem BInv.done {g : EG} (hl : g.inl) {b : Nat} (hb : b < g.nr) {h : Int → Bool} {v : Int → Int} (hi : BInv g b h v []) : (∀ (n x : Nat), g.rc b n x = true → h x = true ∧ v x ≤ n) ∧ ∀ x : Nat, h x = true → v x = g.far x b := by
  have key : ∀ (n x : Nat), g.rc b n x = true → h x = true ∧ v x ≤ n := by
    intro n
    induction n with
    | zero =>
      intro x hx
      simp only [EG.rc, decide_eq_true_eq] at hx
      have : x = b := by omega
      subst this
      exact ⟨hi.hb, by rw [hi.vb]; exact Int.le_refl _⟩
    | succ n ih =>
      intro x hx
      rcases (EG.rc_step hl).1 hx with hx | ⟨y, y1, y2⟩
      · obtain ⟨i1, i2⟩ := ih x hx; exact ⟨i1, by omega⟩
      · obtain ⟨i1, i2⟩ := ih y y1
        obtain ⟨i3, i4⟩ := (hi.old y i1 (by simp)).2 x y2
        exact ⟨i3, by omega⟩
  refine ⟨key, fun x hx => ?_⟩
  have hxr := hi.rng x hx
  obtain ⟨n, n1, n2⟩ := hi.wk x hx
  obtain ⟨m, m1, m2, m3, m4, m5⟩ := EG.far_ex hl hb n2
  have := (key m x m4).2
  rw [EG.far_symm hl (show x < g.nr by omega) hb, m3]
  omega
/-- The least record that is one nearer is the next one. -/
theorem EG.lst_nx {g : EG} (hl : g.inl) {b a n : Nat} (ha : a < g.nr) (hn : g.far a b = (n + 1 : Nat)) {v : Int → Int} {s : Int} (hva : v a = g.far a b) (hv : ∀ j, j < g.nl → g.tch a j = true → v (g.ot a j) = g.far (g.ot a j : Nat) b) (h : g.lst v a g.nl s) : s = (g.nx b a : Nat) := by
  obtain ⟨y1, y2, y3, y4, y5⟩ := EG.nx_ok hl ha hn
  obtain ⟨j0, j1, j2, j3⟩ := (EG.tch_adj hl).1 (EG.lk_iff.1 y3)
  have hc0 : v (g.ot a j0) = v a - 1 := by rw [hv j0 j1 j2, j3, hva, hn, y4]; omega
  rcases h with ⟨rfl, h⟩ | ⟨h0, ⟨j, k1, k2, k3, k4⟩, h⟩
  · exact absurd hc0 (h j0 j1 j2)
  · have h1 := h j0 j1 j2 hc0
    rw [j3] at h1
    have h2 : ¬ g.ot a j < g.nx b a := fun hlt => by
      have := y5 _ hlt
      rw [EG.lk_iff.2 ((EG.tch_adj hl).2 ⟨j, k1, k2, rfl⟩), ← hv j k1 k2, k3, hva] at this
      simp at this
    omega
end Go.Gx
/-
  The program: Why.
-/
set_option linter.unusedVariables false
set_option linter.unusedSimpArgs false
set_option maxRecDepth 20000
set_option maxHeartbeats 4000000
namespace Go.Gx
open Go.RowKit Go.Proofs Go.Proofs.YtnajladibkpeaaaGreat

theorem why20 (g : EG) (h : g.OK) (hnl : g.nl ≤ 1000) (a b : Int) : Pure Tryz.prog 12 [g.sv, .i a, .i b] (· = .tup [g.wS a b, .i (g.wE a b)]) := by
  refine Pure.ofSub ?_
  refine pure_of_GC T_ok Tryz.func12 rfl (by kernel_rfl) (Nat.le_of_ble_eq_true rfl) rfl rfl ?_
  have := h.nr
  simp [go_sem]
  have hk := fun get hg => known48 g h 2 (by decide) (fun i => if i = 0 then a else b) get hg
  rw [EG.kE2] at hk
  have harg : ∀ i, i < 2 → (fun i j => [SV.i a, SV.i b][i + j]?.getD (.r .any)) i 0 = SV.i (if i = 0 then a else b) := fun i hi => by
    rcases (by omega : i = 0 ∨ i = 1) with rfl | rfl <;> rfl
  rcases g.pE2_cases a b with ⟨hv, ta, tb, he⟩ | he
  rotate_left
  · simp only [EG.kS, EG.kR, if_neg he] at hk
    have e : g.wE a b = g.pE2 a b := by
      by_cases hv : g.valid = true
      · by_cases ht : (g.th a && g.th b) = true
        · exact absurd (show g.pE2 a b = 0 by unfold EG.pE2; rw [if_pos hv, if_pos ht]) he
        · unfold EG.wE EG.pE2
          rw [if_pos hv, if_pos hv, if_neg ht, if_neg]
          intro hh
          simp only [Bool.and_eq_true] at hh ht
          exact ht hh.1
      · unfold EG.wE EG.pE2
        rw [if_neg hv, if_neg hv]
    rw [EG.wS_no (by rw [e]; exact he), e]
    refine callK_own [2] (hk (fun i j => [SV.i a, SV.i b][i + j]?.getD (.r .any)) harg) (by simp) rfl (by simp [go_sem]) ?_
    simp [go_sem, he]
  simp only [EG.kS, EG.kR, if_pos he] at hk
  refine callK_own [2] (hk (fun i j => [SV.i a, SV.i b][i + j]?.getD (.r .any)) harg) (by simp) rfl (by simp [go_sem]) ?_
  have ia := EG.th_iff.1 ta
  have ib := EG.th_iff.1 tb
  have hth := EG.valid_lth hv
  have hl := EG.valid_inl hv
  obtain ⟨a, rfl⟩ : ∃ n : Nat, a = n := ⟨a.toNat, by omega⟩
  obtain ⟨b, rfl⟩ : ∃ n : Nat, b = n := ⟨b.toNat, by omega⟩
  have ha1 : a < g.nr := by omega
  have hb1 : b < g.nr := by omega
  have hcon : g.pm g.nl a = g.pm g.nl b ↔ 0 ≤ g.far a b := by
    constructor
    · intro hq
      obtain ⟨n, _, _, hn, _⟩ := EG.far_ex hl ha1 ((EG.rc_iff hl ia.1 ia.2.1 (x := b)).2 hq)
      omega
    · intro hf
      have h1 : g.far a b = ((g.far a b).toNat : Int) := by omega
      exact EG.con_iff.1 (EG.rc_con hl (EG.far_rc h1).1)
  simp [go_sem]
  refine GDraw_all T_ok (by kernel_rfl) (by kernel_rfl) ?_
  by_cases hq : g.pm g.nl a = g.pm g.nl b
  rotate_left
  · have e : g.wE a b = 6 := by
      have : ¬ 0 ≤ g.far a b := fun h => hq (hcon.2 h)
      simp [EG.wE, hv, this]
    rw [EG.wS_no (by rw [e]; decide), e]
    simp [go_sem, ta, tb, hq]
  have h0 := hcon.1 hq
  have e : g.wE a b = 0 := by simp [EG.wE, hv, ta, tb, h0]
  obtain ⟨n, hn⟩ : ∃ n : Nat, g.far a b = n := ⟨(g.far a b).toNat, by omega⟩
  have hnr := (g.far_lt a b).2
  rw [hn] at hnr
  rw [EG.wS_yes e hn, e]
  simp [go_sem, ta, tb, hq]
  refine GLoop_pre (GSt.freeze 4 rfl) ?_
  refine GLoop_pre (GSt.freeze 3 rfl) ?_
  refine GLoop_pre (GSt.freeze 5 rfl) ?_
  let D : Nat → Nat → RV := gbox [g.rr, g.ll, g.cc, .r (.mp g.th fun a => .i (g.pm g.nl a))]
  let C : Nat → Nat → RV := gbox [.r (.rp 4 1 D 0 0)]
  have hC : C 0 0 = .rp 4 1 D 0 0 := rfl
  have hD : D 0 1 = .rs 3 g.nl fun i j => (g.l i).c j := rfl
  refine GLoop_fit T_ok (α := BF) (fun t => [(2, .i b), (4, .ptr 1 0 1 0), (10, .ptr 7 0 1 0), (11, .fn (.func 38) [] [.r (.rp 1 1 C 0 0)]), (12, .ptr 9 0 1 0)])
    (fun t => memL [g.bx, some (.box [.i a]), none, none, none, none, some (.map t.h (fun a => .i (t.v a)) none), some (.box [.mp 6]), some (.vec 3 1 t.L.length (ints t.L)), some (.box [.sl 8 1 t.lo (t.L.length - t.lo) none])]) 10
    (fun t => t.lo ≤ t.L.length ∧ BInv g b t.h t.v (t.L.drop t.lo) ∧ t.L.length ≤ t.cn g ∧ ∀ x : Nat, t.h x = true → t.v x < t.cn g) (fun t => 2 * (g.nr - t.cn g) + (t.L.drop t.lo).length) ⟨fun a => decide (a = (b : Int)), fun _ => 0, 0, [b]⟩ ?_ ?_ ?_
  · refine ⟨by simp, BInv.init hb1, ?_, ?_⟩
    · have : b ∈ (List.range g.nr).filter fun i : Nat => decide ((i : Int) = (b : Int)) := List.mem_filter.2 ⟨List.mem_range.2 hb1, by simp⟩
      have := List.length_pos_of_mem this
      exact this
    · intro x hx
      have : b ∈ (List.range g.nr).filter fun i : Nat => decide ((i : Int) = (b : Int)) := List.mem_filter.2 ⟨List.mem_range.2 hb1, by simp⟩
      have := List.length_pos_of_mem this
      simp only [BF.cn]
      omega
  · refine Fit.of_regs (by decide) rfl ?_ ?_
    · simp [go_sem]
      rfl
    · simp [go_sem]
      rfl
  rintro t J ⟨tlo, tinv, tlen, tvl⟩
  have hcnr := t.cn_le g
  by_cases hQe : t.lo = t.L.length
  · -- the line is empty
    have hQ : t.L.drop t.lo = [] := by rw [hQe]; simp
    rw [hQ] at tinv
    obtain ⟨d1, d2⟩ := BInv.done hl hb1 tinv
    simp [go_sem, hQe]
    refine GLoop_s T_ok (α := Nat) (fun k => [(2, .i b), (4, .ptr 1 0 1 0), (10, .ptr 7 0 1 0), (11, .fn (.func 38) [] [.r (.rp 1 1 C 0 0)]), (14, .sl 10 1 0 (k + 1) none)])
      (fun k => [g.bx, some (.box [.i (g.cu b a k : Nat)]), none, none, none, none, some (.map t.h (fun a => .i (t.v a)) none), some (.box [.mp 6]), none, none, some (.vec 3 1 (k + 1) (ints (g.way a b k)))]) 11 (fun k => k ≤ n) (fun k => n - k) 0 (fun _ => rfl) (by simp) (by simp [go_sem]) (by
        simp [go_sem, EG.cu]
        simp [nth, EG.way, EG.cu]) ?_
    intro k J2 hi
    obtain ⟨c1, c2⟩ := EG.cu_ok hl ha1 hn k hi
    have ceq := EG.cu_eq hl ha1 hn hi
    generalize hx : g.cu b a k = x at *
    by_cases hk : k = n
    · have hxb : x = b := ceq.2 hk
      subst hk
      simp [go_sem, hxb]
    have hne : ¬ (x : Int) = (b : Int) := fun e => hk (ceq.1 (by omega))
    have hfx : g.far x b = ((n - (k + 1)) + 1 : Nat) := by rw [c2]; congr 1; omega
    have hcu : g.cu b a (k + 1) = g.nx b x := by simp only [EG.cu]; rw [hx]
    -- what is known of x and its neighbours
    have hrx : g.rc b (n - k) x = true := EG.rc_symm hl (EG.far_rc c2).1
    obtain ⟨hx1, _⟩ := d1 _ x hrx
    have hvx := d2 x hx1
    have hnb : ∀ j, j < g.nl → g.tch x j = true → t.h (g.ot x j) = true := fun j hj ht =>
      ((tinv.old x hx1 (by simp)).2 (g.ot x j) ((EG.tch_adj hl).2 ⟨j, hj, ht, rfl⟩)).1
    simp [go_sem, hne]
    refine callK_ownX [7, 6, 1, 11] (next54b g h hl x C D hC hD t.h t.v ⟨by omega, by omega⟩ hx1 ⟨by omega, by omega⟩ hnb) (by simp) (by simp) (by simp [go_sem]) (by simp [go_sem]) ?_
    rintro S Rs' ⟨rfl, s', hs', rfl⟩
    have hs2 : s' = (g.nx b x : Nat) := EG.lst_nx hl c1 hfx hvx (fun j hj ht => d2 _ (hnb j hj ht)) hs'
    subst hs2
    simp [go_sem]
    refine ⟨by omega, k + 1, by omega, by omega, rfl, by rw [hcu], by omega, fun i hi => ?_⟩
    unfold ints
    rw [← way_row g hi, hcu]
    unfold joined
    by_cases h5 : i < k + 1
    · rw [if_pos h5, if_pos h5]; rfl
    · have h6 : i - (k + 1) = 0 := by omega
      rw [if_neg h5, if_neg h5, if_pos (by omega), h6]; rfl
  have hlt : t.lo < t.L.length := by omega
  have hQ : t.L.drop t.lo = nth t.L t.lo :: t.L.drop (t.lo + 1) := by
    rw [List.drop_eq_getElem_cons hlt]
    simp [nth, List.getD, List.getElem?_eq_getElem hlt]
  generalize hcc : nth t.L t.lo = c at *
  have hch : t.h c = true := tinv.inq c (by rw [hQ]; simp)
  have hcr := tinv.rng c hch
  obtain ⟨vn, hvn, _⟩ := tinv.wk c hch
  have hvc := tvl c hch
  have hnr24 := EG.valid_nr hv
  have hci : ints t.L t.lo 0 = SV.i (c : Int) := by simp only [ints, hcc]
  have hsub : 0 < t.L.length - t.lo := by omega
  simp [go_sem, hsub, hci]
  refine ⟨hlt, ?_⟩
  refine callK_ownX [7, 6, 10, 9, 8] (next54a g h hl c c hcr C D hC hD t hch ⟨by omega, by omega⟩ tlo (by omega) hnl) (by simp) (by simp) (by simp [go_sem]) (by simp [go_sem]) ?_
  rintro S Rs' ⟨rfl, u, hu, rfl⟩
  have hb := BSc.of_sts hl (Nat.le_refl _) hu tinv hQ tlen tvl
  obtain ⟨Q1, hQ1⟩ := hb.hd
  have hul : u.lo < u.L.length := by
    rcases Nat.lt_or_ge u.lo u.L.length with h1 | h1
    · exact h1
    · rw [List.drop_eq_nil_of_le h1] at hQ1; cases hQ1
  have hQ2 : u.L.drop (u.lo + 1) = Q1 := by
    rw [List.drop_eq_getElem_cons hul] at hQ1
    exact (List.cons.inj hQ1).2
  have hpop := hb.pop hl hQ1
  have hmu := hb.mu
  rw [hQ1] at hmu
  have hQl : Q1.length = u.L.length - (u.lo + 1) := by rw [← hQ2]; simp
  have htl : (t.L.drop t.lo).length = t.L.length - t.lo := by simp
  rw [htl] at hmu
  simp only [List.length_cons, hQl] at hmu
  simp [go_sem]
  refine ⟨by omega, ⟨u.h, u.v, u.lo + 1, u.L⟩, ⟨by show u.lo + 1 ≤ u.L.length; omega, by show BInv g b u.h u.v (u.L.drop (u.lo + 1)); rw [hQ2]; exact hpop, hb.len, hb.vlt⟩, ?_, Fit.vw (GSt.move 15 8 (by decide) (by decide) (by decide) (by decide)) (Fit.vw (GSt.move 16 9 (by decide) (by decide) (by decide) (by decide)) (Fit.of_regs (by decide) rfl ?_ ?_))⟩
  · show 2 * (g.nr - u.cn g) + (u.L.length - (u.lo + 1)) < _
    omega
  · simp [go_sem]
  · simp [go_sem]
    omega
end Go.Gx
/-
  Lists of numbers compared; what is not great is small; the law EnrolReasons.
-/
set_option linter.unusedVariables false
set_option linter.unusedSimpArgs false
set_option maxRecDepth 20000
set_option maxHeartbeats 4000000
namespace Go.Gx
open Go.RowKit Go.Proofs Go.Proofs.YtnajladibkpeaaaGreat

theorem sameInts24 (n m : Nat) (hn : (n : Int) < 2 ^ 61) (hm : (m : Int) < 2 ^ 61) (x y : Nat → Nat → RV) (u v : Nat → Int) (hx : ∀ i, i < n → x i 0 = .i (u i)) (hy : ∀ i, i < m → y i 0 = .i (v i)) :
    Pure Tryz.prog 28 [.r (.rs 1 n x), .r (.rs 1 m y)] (· = .b (decide (n = m) && (List.range n).all fun i => decide (u i = v i))) := by
  refine pure_of_GC T_ok Tryz.func28 rfl (by kernel_rfl) (Nat.le_of_ble_eq_true rfl) rfl rfl ?_
  by_cases h : (n : Int) = m
  rotate_left
  · have : ¬ n = m := by omega
    simp [go_sem, h]; simp [this]
  have h' : n = m := by omega
  subst h'
  simp [go_sem]
  refine GLoop_of T_ok (α := Nat) (fun k => [(0, .r (.rs 1 n x)), (1, .r (.rs 1 n y)), (5, .i k)]) (fun _ => []) 0 (fun k => k ≤ n ∧ ∀ j, j < k → u j = v j) (fun k => n - k) 0 (fun _ => rfl) (by simp) (by simp [go_sem]) (by simp [go_sem]) ?_
  intro k J hi
  by_cases hlt : k < n
  · simp [go_sem, hlt]
    refine GDraw_all T_ok (by kernel_rfl) (by kernel_rfl) ?_
    by_cases he : u k = v k
    · simp [go_sem, hx k hlt, hy k hlt, he]
      refine ⟨hlt, by omega, k + 1, ⟨by omega, fun j hj => ?_⟩, by omega, by omega⟩
      by_cases e : j = k
      · subst e; exact he
      · exact hi.2 j (by omega)
    · simp [go_sem, hx k hlt, hy k hlt, he]
      exact ⟨hlt, k, hlt, he⟩
  · simp [go_sem, hlt]
    exact fun j hj => hi.2 j (by omega)
theorem sameNil24 : Pure Tryz.prog 28 [nilS, nilS] (· = .b true) := by
  refine pure_of_GC T_ok Tryz.func28 rfl (by kernel_rfl) (Nat.le_of_ble_eq_true rfl) rfl rfl ?_
  simp [go_sem]
  refine GLoop_of T_ok (α := Unit) (fun k => [(0, nilS), (1, nilS), (5, .i 0)]) (fun _ => []) 0 (fun k => True) (fun k => 0) () (fun _ => rfl) trivial (by simp [go_sem]) (by simp [go_sem]) ?_
  intro k J hi
  simp [go_sem]
theorem great12' (g : EG) : Pure Tryz.prog 13 [g.sv] (· = .b g.great) := by
  refine pure_of_GC T_ok Tryz.func13 rfl (by kernel_rfl) (Nat.le_of_ble_eq_true rfl) rfl rfl ?_
  by_cases h1 : 30 < g.nr
  · have h1' : 30 < (g.nr : Int) := by omega
    simp [go_sem, h1', EG.great, h1]
  have h1' : ¬ 30 < (g.nr : Int) := by omega
  by_cases h2 : 60 < g.nl
  · have h2' : 60 < (g.nl : Int) := by omega
    simp [go_sem, h1', h2', EG.great, h2]
  have h2' : ¬ 60 < (g.nl : Int) := by omega
  by_cases h3 : 45 < g.nc
  · have h3' : 45 < (g.nc : Int) := by omega
    simp [go_sem, h1', h2', h3', EG.great, h3]
  have h3' : ¬ 45 < (g.nc : Int) := by omega
  simp [go_sem, h1', h2', h3']
  refine GLoop_of T_ok (α := Nat) (fun k => [(1, .ptr 0 0 3 0), (3, .i k)]) (fun _ => [g.bx]) 1 (fun k => k ≤ g.nc ∧ ∀ j, j < k → ¬ 5 < (g.c j).nv) (fun k => g.nc - k) 0 (fun _ => rfl) (by simp) (by simp [go_sem]) (by simp [go_sem]) ?_
  intro k J hi
  by_cases hlt : k < g.nc
  · by_cases h5 : 5 < (g.c k).nv
    · have h5' : 5 < ((g.c k).nv : Int) := by omega
      simp [go_sem, hlt, h5']
      simp [EG.great]
      exact .inr ⟨k, hlt, h5⟩
    · have h5' : ¬ 5 < ((g.c k).nv : Int) := by omega
      simp [go_sem, hlt, h5']
      refine ⟨by omega, k + 1, ⟨by omega, fun j hj => ?_⟩, by omega, by simp⟩
      by_cases hjk : j = k
      · subst hjk; omega
      · have := hi.2 j (by omega)
        omega
  · simp [go_sem, hlt]
    simp only [EG.great, h1, h2, h3]
    simp
    intro x hx
    have := hi.2 x (by omega)
    omega
theorem EG.OK_of {g : EG} (h : g.great = false) : g.OK ∧ g.nr ≤ 30 ∧ g.nl ≤ 60 ∧ g.nc ≤ 45 ∧ ∀ i, i < g.nc → (g.c i).nv ≤ 5 := by
  simp [EG.great] at h
  obtain ⟨⟨⟨h1, h2⟩, h3⟩, h4⟩ := h
  exact ⟨⟨by omega, by omega, by omega, fun i hi => by have := h4 i hi; omega⟩, h1, h2, h3, h4⟩
end Go.Gx
