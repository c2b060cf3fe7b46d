/-
  The program's Why: the closure that marks what is next (a search by breadth).
-/
import Derived.Test.YtnajladibkpeaaaEw
set_option linter.unusedVariables false
set_option linter.unusedSimpArgs false
set_option maxRecDepth 20000
set_option maxHeartbeats 4000000
namespace Go.Gx
open Go.RowKit Go.Proofs Go.Proofs.Ytnajladibkpeaaa

/-- What a search by breadth knows: which records it has met, how far they are, the line of those to be gone from (behind the first lo of L). -/
structure BF where
  h : Int → Bool
  v : Int → Int
  lo : Nat
  L : List Nat
abbrev BF.Rs (s : BF) (c : Int) : List Reg := [.box [.mp 1], .map s.h (fun a => .i (s.v a)) none, .box [.i c], .box [.sl 4 1 s.lo (s.L.length - s.lo) none], .vec 3 1 s.L.length (ints s.L)]
structure BF.st (c : Int) (d : Nat) (s t : BF) : Prop where
  lo : t.lo ≤ t.L.length
  q : t.L.drop t.lo = s.L.drop s.lo ++ (if s.h d then [] else [d])
  len : t.L.length ≤ s.L.length + (if s.h d = true then 0 else 1)
  h : ∀ a, t.h a = (s.h a || decide (a = (d : Int)))
  v : ∀ a, s.h a = true → t.v a = s.v a
  vd : s.h d = false → t.v d = s.v c + 1
theorem BF.st_yes {s : BF} {c : Int} {d : Nat} (hlo : s.lo ≤ s.L.length) (h : s.h d = true) : BF.st c d s s :=
  ⟨hlo, by simp [h], by simp [h], fun a => by
    by_cases e : a = (d : Int)
    · subst e; simp [h]
    · simp [e], fun _ _ => rfl, fun h' => by rw [h] at h'; cases h'⟩
theorem nth_app {l : List Nat} {k i : Nat} (hi : i < l.length + 1) : nth (l ++ [k]) i = if i < l.length then nth l i else k := by
  unfold nth
  by_cases h : i < l.length
  · rw [if_pos h]
    simp [List.getD, List.getElem?_append_left h]
  · have : i = l.length := by omega
    subst this
    simp [List.getD]
theorem nth_drop (l : List Nat) (lo i : Nat) : nth (l.drop lo) i = nth l (lo + i) := by
  unfold nth
  simp [List.getD, List.getElem?_drop]
theorem joined_ints {L : List Nat} {d i : Nat} {get : Nat → Nat → SV} (hi : i < L.length + 1) (h0 : get 0 0 = .i d) : joined L.length 1 (ints L) get i 0 = .i (nth (L ++ [d]) i : Nat) := by
  unfold joined
  rw [nth_app hi]
  by_cases h : i < L.length
  · rw [if_pos h, if_pos h]
  · have : i - L.length = 0 := by omega
    rw [if_neg h, if_neg h, if_pos hi, this, h0]
theorem cl55 (s : BF) (c : Int) (d : Nat) (hc : s.h c = true) (hv : 0 ≤ s.v c ∧ s.v c ≤ 1000000000) (hlo : s.lo ≤ s.L.length) (hL : s.L.length ≤ 1000000000) :
    OwnX Try.prog 4 55 (s.Rs c) [.i d, .ptr 0 0 1 0, .ptr 2 0 1 0, .ptr 3 0 1 0] fun S Rs' => S = .tup [] ∧ ∃ t, BF.st c d s t ∧ Rs' = BF.Rs t c := by
  refine ownX_of_GC T_ok Try.func55 rfl (by kernel_rfl) (Nat.le_of_ble_eq_true rfl) rfl rfl 4 (by simp) ?_
  obtain ⟨sh, sv, lo, L⟩ := s
  dsimp only at hc hv hlo hL
  by_cases hd : sh d = true
  · simp [go_sem, hd]
    exact gxe.mk _ _ [0, 1, 2, 3, 4] ⟨rfl, _, BF.st_yes hlo hd, rfl⟩ (by simp [keepsL]) (by simp) (fun N => by simp [go_sem]) (fun N => by simp [go_sem])
  have hd' : sh d = false := by simpa using hd
  simp [go_sem, hd', hc]
  refine ⟨by omega, ?_⟩
  have st0 : ∀ (lo' : Nat) (L' : List Nat), lo' ≤ L'.length → L'.drop lo' = L.drop lo ++ [d] → L'.length ≤ L.length + 1 →
      BF.st c d ⟨sh, sv, lo, L⟩ ⟨fun k => decide (k = (d : Int)) || sh k, fun k => if k = (d : Int) then sv c + 1 else sv k, lo', L'⟩ := fun lo' L' h1 h2 h3 =>
    ⟨h1, by simp only [h2, hd']; simp, by simpa only [hd', Bool.false_eq_true, if_false] using h3, fun a => by dsimp only; rw [Bool.or_comm], fun a ha => (by
      dsimp only at ha ⊢
      rw [if_neg]
      intro e; subst e; rw [hd'] at ha; cases ha), fun _ => by simp⟩
  cases lo with
  | zero =>
    simp [go_sem]
    refine ⟨by omega, gxe.mk _ (BF.Rs ⟨fun k => decide (k = (d : Int)) || sh k, fun k => if k = (d : Int) then sv c + 1 else sv k, 0, L ++ [d]⟩ c) [0, 1, 2, 3, 4] ⟨rfl, _, st0 0 (L ++ [d]) (by omega) (by simp) (by simp), rfl⟩ (by simp [keepsL]) (by simp) (fun N => by simp [go_sem]) (fun N => ?_)⟩
    simp [go_sem]
    refine ⟨fun a _ => by split <;> rfl, fun i hi => ?_⟩
    rw [joined_ints hi rfl]
    rfl
  | succ lo =>
    simp [go_sem]
    refine GOp_appLo T_ok (ref := 4) (lo := lo + 1) (n := L.length - (lo + 1)) (m := 1) (e := 3) (g := ints L) (by simp [go_sem]) (by simp [go_sem]; omega) rfl rfl rfl (by decide) rfl ⟨rfl, rfl, Nat.le_refl _⟩ (by decide) ?_ ?_ (by simp [go_sem]) (by decide) ?_ ?_
    · simp; omega
    · omega
    · simp [go_sem]
      refine gxe.mk _ (BF.Rs ⟨fun k => decide (k = (d : Int)) || sh k, fun k => if k = (d : Int) then sv c + 1 else sv k, lo + 1, L ++ [d]⟩ c) [0, 1, 2, 3, 4] ⟨rfl, _, st0 (lo + 1) (L ++ [d]) (by simp; omega) (by rw [List.drop_append_of_le_length hlo]) (by simp), rfl⟩ (by simp [keepsL]) (by simp) (fun N => by simp [go_sem]) (fun N => ?_)
      simp [go_sem]
      refine ⟨fun a _ => by split <;> rfl, by omega, by omega, fun i hi => ?_⟩
      have e : lo + 1 + (L.length - (lo + 1)) = L.length := by omega
      rw [e, joined_ints hi rfl]
      rfl
    · simp [go_sem]
      refine gxe.mk _ (BF.Rs ⟨fun k => decide (k = (d : Int)) || sh k, fun k => if k = (d : Int) then sv c + 1 else sv k, 0, L.drop (lo + 1) ++ [d]⟩ c) [0, 1, 2, 3, 4] ⟨rfl, _, st0 0 (L.drop (lo + 1) ++ [d]) (by simp) (by simp) (by simp), rfl⟩ (by simp [keepsL]) (by simp) (fun N => by simp [go_sem]) (fun N => ?_)
      simp [go_sem]
      refine ⟨fun a _ => by split <;> rfl, fun i hi => ?_⟩
      have e : (fun i j => ints L (lo + 1 + i) j) = ints (L.drop (lo + 1)) := by
        funext i j
        simp [ints, nth_drop]
      have e2 : L.length - (lo + 1) = (L.drop (lo + 1)).length := by simp
      rw [e, e2, joined_ints (by rw [← e2]; exact hi) rfl]
      rfl
end Go.Gx
