/-
  Add, Remove, Merge, in the memory of the caller. Split, in the memory of the caller.
-/
import Derived.Test.YtdnblflhlklfnaaKk
set_option linter.unusedVariables false
set_option linter.unusedSimpArgs false
set_option maxRecDepth 20000
set_option maxHeartbeats 4000000
namespace Go.Gx.Ix
open Go.RowKit Go.Proofs Go.Proofs.Ytdnblflhlklfnaa

/-- What a caller may lean on: the index in new memory, or the zero index. -/
def XP (K : SV → Mem → Nat → (SV → SV) → Prop) (M : Mem) (nx : Nat) (E : Int) (X : IxG) : Prop :=
  ∀ S M' nx', nx ≤ nx' → (if E = 0 then IxO nx M' nx' X S else S = nilX) → (∀ q, q < nx → Kept (nx ≤ ·) (M q) (M' q)) → K (.tup [S, .i E]) M' nx' (SV.trim nx)
theorem XP.nil {K : SV → Mem → Nat → (SV → SV) → Prop} {M M' : Mem} {nx nx' : Nat} {E : Int} {X : IxG} (h : XP K M nx E X) (hE : E ≠ 0) (hn : nx ≤ nx') (hM : ∀ q, q < nx → M' q = M q) : K (.tup [nilX, .i E]) M' nx' (SV.trim nx) :=
  h _ _ _ hn (by rw [if_neg hE]) fun q hq => by rw [hM q hq]; exact Kept.refl
theorem add24K (x : IxG) (h : x.Sm) (m : MbG) {np nx : Nat} {M : Mem} {K : SV → Mem → Nat → (SV → SV) → Prop} (hnp : np ≤ nx) (hK : XP K M nx (addE x m) (ofG (x.ms ++ [m]))) : CallK Try.prog np 24 [x.sv, m.sv] M nx K := by
  obtain ⟨e, he⟩ : ∃ e, addE x m = e := ⟨_, rfl⟩
  rw [he] at hK
  refine callK_in T_ok Try.func24 rfl (by kernel_rfl) (Nat.le_of_ble_eq_true rfl) rfl rfl nx hnp (Nat.le_refl _) ?_
  have d01 : ¬ nx = nx + 1 := by omega
  have d02 : ¬ nx = nx + 1 + 1 := by omega
  have d03 : ¬ nx = nx + 1 + 1 + 1 := by omega
  have d04 : ¬ nx = nx + 1 + 1 + 1 + 1 := by omega
  have d05 : ¬ nx = nx + 1 + 1 + 1 + 1 + 1 := by omega
  have d06 : ¬ nx = nx + 1 + 1 + 1 + 1 + 1 + 1 := by omega
  have d10 : ¬ nx + 1 = nx := by omega
  have d12 : ¬ nx + 1 = nx + 1 + 1 := by omega
  have d13 : ¬ nx + 1 = nx + 1 + 1 + 1 := by omega
  have d14 : ¬ nx + 1 = nx + 1 + 1 + 1 + 1 := by omega
  have d15 : ¬ nx + 1 = nx + 1 + 1 + 1 + 1 + 1 := by omega
  have d16 : ¬ nx + 1 = nx + 1 + 1 + 1 + 1 + 1 + 1 := by omega
  have d20 : ¬ nx + 1 + 1 = nx := by omega
  have d21 : ¬ nx + 1 + 1 = nx + 1 := by omega
  have d23 : ¬ nx + 1 + 1 = nx + 1 + 1 + 1 := by omega
  have d24 : ¬ nx + 1 + 1 = nx + 1 + 1 + 1 + 1 := by omega
  have d25 : ¬ nx + 1 + 1 = nx + 1 + 1 + 1 + 1 + 1 := by omega
  have d26 : ¬ nx + 1 + 1 = nx + 1 + 1 + 1 + 1 + 1 + 1 := by omega
  have d30 : ¬ nx + 1 + 1 + 1 = nx := by omega
  have d31 : ¬ nx + 1 + 1 + 1 = nx + 1 := by omega
  have d32 : ¬ nx + 1 + 1 + 1 = nx + 1 + 1 := by omega
  have d34 : ¬ nx + 1 + 1 + 1 = nx + 1 + 1 + 1 + 1 := by omega
  have d35 : ¬ nx + 1 + 1 + 1 = nx + 1 + 1 + 1 + 1 + 1 := by omega
  have d36 : ¬ nx + 1 + 1 + 1 = nx + 1 + 1 + 1 + 1 + 1 + 1 := by omega
  have d40 : ¬ nx + 1 + 1 + 1 + 1 = nx := by omega
  have d41 : ¬ nx + 1 + 1 + 1 + 1 = nx + 1 := by omega
  have d42 : ¬ nx + 1 + 1 + 1 + 1 = nx + 1 + 1 := by omega
  have d43 : ¬ nx + 1 + 1 + 1 + 1 = nx + 1 + 1 + 1 := by omega
  have d45 : ¬ nx + 1 + 1 + 1 + 1 = nx + 1 + 1 + 1 + 1 + 1 := by omega
  have d46 : ¬ nx + 1 + 1 + 1 + 1 = nx + 1 + 1 + 1 + 1 + 1 + 1 := by omega
  have d50 : ¬ nx + 1 + 1 + 1 + 1 + 1 = nx := by omega
  have d51 : ¬ nx + 1 + 1 + 1 + 1 + 1 = nx + 1 := by omega
  have d52 : ¬ nx + 1 + 1 + 1 + 1 + 1 = nx + 1 + 1 := by omega
  have d53 : ¬ nx + 1 + 1 + 1 + 1 + 1 = nx + 1 + 1 + 1 := by omega
  have d54 : ¬ nx + 1 + 1 + 1 + 1 + 1 = nx + 1 + 1 + 1 + 1 := by omega
  have d56 : ¬ nx + 1 + 1 + 1 + 1 + 1 = nx + 1 + 1 + 1 + 1 + 1 + 1 := by omega
  have d60 : ¬ nx + 1 + 1 + 1 + 1 + 1 + 1 = nx := by omega
  have d61 : ¬ nx + 1 + 1 + 1 + 1 + 1 + 1 = nx + 1 := by omega
  have d62 : ¬ nx + 1 + 1 + 1 + 1 + 1 + 1 = nx + 1 + 1 := by omega
  have d63 : ¬ nx + 1 + 1 + 1 + 1 + 1 + 1 = nx + 1 + 1 + 1 := by omega
  have d64 : ¬ nx + 1 + 1 + 1 + 1 + 1 + 1 = nx + 1 + 1 + 1 + 1 := by omega
  have d65 : ¬ nx + 1 + 1 + 1 + 1 + 1 + 1 = nx + 1 + 1 + 1 + 1 + 1 := by omega
  have hc := check19 x h
  have hms := h.ms
  simp [go_sem, IxG.sv] at hc
  simp [go_sem, IxG.sv, d01, d02, d03, d04, d05, d06, d10, d12, d13, d14, d15, d16, d20, d21, d23, d24, d25, d26, d30, d31, d32, d34, d35, d36, d40, d41, d42, d43, d45, d46, d50, d51, d52, d53, d54, d56, d60, d61, d62, d63, d64, d65]
  refine call_val hc rfl rfl ?_
  cases hv : validX x
  · have e4 : e = 40 := by rw [← he, addE, if_pos hv]
    subst e4
    simp [go_sem, checkE, hv, d01, d02, d03, d04, d05, d06, d10, d12, d13, d14, d15, d16, d20, d21, d23, d24, d25, d26, d30, d31, d32, d34, d35, d36, d40, d41, d42, d43, d45, d46, d50, d51, d52, d53, d54, d56, d60, d61, d62, d63, d64, d65]
    exact hK.nil (by decide) (by omega) fun q hq => by simp only [upd_app]; repeat (first | rw [if_neg (by omega)] | rfl)
  simp [go_sem, checkE, hv, d01, d02, d03, d04, d05, d06, d10, d12, d13, d14, d15, d16, d20, d21, d23, d24, d25, d26, d30, d31, d32, d34, d35, d36, d40, d41, d42, d43, d45, d46, d50, d51, d52, d53, d54, d56, d60, d61, d62, d63, d64, d65]
  refine call_val (number49 m.id) rfl rfl ?_
  cases ho : okN m.id
  · have e4 : e = 2 := by rw [← he, addE, if_neg (by rw [hv]; simp), if_pos ho]
    subst e4
    simp [go_sem, d01, d02, d03, d04, d05, d06, d10, d12, d13, d14, d15, d16, d20, d21, d23, d24, d25, d26, d30, d31, d32, d34, d35, d36, d40, d41, d42, d43, d45, d46, d50, d51, d52, d53, d54, d56, d60, d61, d62, d63, d64, d65]
    exact hK.nil (by decide) (by omega) fun q hq => by simp only [upd_app]; repeat (first | rw [if_neg (by omega)] | rfl)
  simp [go_sem, d01, d02, d03, d04, d05, d06, d10, d12, d13, d14, d15, d16, d20, d21, d23, d24, d25, d26, d30, d31, d32, d34, d35, d36, d40, d41, d42, d43, d45, d46, d50, d51, d52, d53, d54, d56, d60, d61, d62, d63, d64, d65]
  refine call_val (check51 m.x.c m.x.m) rfl rfl ?_
  cases hi : vI m.x.c m.x.m
  · have e4 : e = 30 := by rw [← he, addE, if_neg (by rw [hv]; simp), if_neg (by rw [ho]; simp), if_pos (show m.x.ok = false from hi)]
    subst e4
    simp [go_sem, d01, d02, d03, d04, d05, d06, d10, d12, d13, d14, d15, d16, d20, d21, d23, d24, d25, d26, d30, d31, d32, d34, d35, d36, d40, d41, d42, d43, d45, d46, d50, d51, d52, d53, d54, d56, d60, d61, d62, d63, d64, d65]
    exact hK.nil (by decide) (by omega) fun q hq => by simp only [upd_app]; repeat (first | rw [if_neg (by omega)] | rfl)
  have hi' : ¬ m.x.ok = false := by unfold IrG.ok; rw [hi]; simp
  simp [go_sem, d01, d02, d03, d04, d05, d06, d10, d12, d13, d14, d15, d16, d20, d21, d23, d24, d25, d26, d30, d31, d32, d34, d35, d36, d40, d41, d42, d43, d45, d46, d50, d51, d52, d53, d54, d56, d60, d61, d62, d63, d64, d65]
  refine call_val (place60 x.ms (by omega) (validX_sorted hv) m.id) rfl rfl ?_
  cases hp : isM x.ms m.id
  rotate_left
  · have e4 : e = 41 := by rw [← he, addE, if_neg (by rw [hv]; simp), if_neg (by rw [ho]; simp), if_neg hi', if_pos hp]
    subst e4
    simp [go_sem, d01, d02, d03, d04, d05, d06, d10, d12, d13, d14, d15, d16, d20, d21, d23, d24, d25, d26, d30, d31, d32, d34, d35, d36, d40, d41, d42, d43, d45, d46, d50, d51, d52, d53, d54, d56, d60, d61, d62, d63, d64, d65]
    exact hK.nil (by decide) (by omega) fun q hq => by simp only [upd_app]; repeat (first | rw [if_neg (by omega)] | rfl)
  by_cases hl : x.ms.length = 256
  · have e4 : e = 9 := by rw [← he, addE, if_neg (by rw [hv]; simp), if_neg (by rw [ho]; simp), if_neg hi', if_neg (by rw [hp]; simp), if_pos hl]
    subst e4
    simp [go_sem, hl, d01, d02, d03, d04, d05, d06, d10, d12, d13, d14, d15, d16, d20, d21, d23, d24, d25, d26, d30, d31, d32, d34, d35, d36, d40, d41, d42, d43, d45, d46, d50, d51, d52, d53, d54, d56, d60, d61, d62, d63, d64, d65]
    exact hK.nil (by decide) (by omega) fun q hq => by simp only [upd_app]; repeat (first | rw [if_neg (by omega)] | rfl)
  have e0 : e = 0 := by rw [← he, addE, if_neg (by rw [hv]; simp), if_neg (by rw [ho]; simp), if_neg hi', if_neg (by rw [hp]; simp), if_neg hl]
  subst e0
  have hl' : ¬ (x.ms.length : Int) = 256 := by omega
  simp [go_sem, hl, hl', d01, d02, d03, d04, d05, d06, d10, d12, d13, d14, d15, d16, d20, d21, d23, d24, d25, d26, d30, d31, d32, d34, d35, d36, d40, d41, d42, d43, d45, d46, d50, d51, d52, d53, d54, d56, d60, d61, d62, d63, d64, d65]
  refine callK_lentOwn (S := .sl 0 3 0 (x.ms ++ [m]).length none) (Rs' := [mreg (x.ms ++ [m])]) ?_ trivial ⟨fun i j hi hj => mflat hi hj, trivial⟩ ?_
  · simp [go_sem, d01, d02, d03, d04, d05, d06, d10, d12, d13, d14, d15, d16, d20, d21, d23, d24, d25, d26, d30, d31, d32, d34, d35, d36, d40, d41, d42, d43, d45, d46, d50, d51, d52, d53, d54, d56, d60, d61, d62, d63, d64, d65]
    have key := concat61 x.ms [m] (by omega) (by simp)
    simp only [List.length_append, List.length_cons, List.length_nil, Nat.zero_add] at key
    refine key _ ?_ (fun _ _ _ _ => rfl) ?_ _ rfl ?_
    rotate_left
    rotate_left
    · simp [go_sem, d01, d02, d03, d04, d05, d06, d10, d12, d13, d14, d15, d16, d20, d21, d23, d24, d25, d26, d30, d31, d32, d34, d35, d36, d40, d41, d42, d43, d45, d46, d50, d51, d52, d53, d54, d56, d60, d61, d62, d63, d64, d65]
      exact rfl
    · intro i j hi hj
      obtain rfl : i = 0 := by omega
      rcases (show j = 0 ∨ j = 1 ∨ j = 2 by omega) with rfl | rfl | rfl <;> rfl
  simp [go_sem, d01, d02, d03, d04, d05, d06, d10, d12, d13, d14, d15, d16, d20, d21, d23, d24, d25, d26, d30, d31, d32, d34, d35, d36, d40, d41, d42, d43, d45, d46, d50, d51, d52, d53, d54, d56, d60, d61, d62, d63, d64, d65]
  have hlen := validX_len hv
  refine callK_freeze (nx + 1 + 1 + 1 + 1 + 1) (R := .vec 43 3 (x.ms.length + 1) fun i j => .r (mrows (x.ms ++ [m]) i j)) (by simp [go_sem, d01, d02, d03, d04, d05, d06, d10, d12, d13, d14, d15, d16, d20, d21, d23, d24, d25, d26, d30, d31, d32, d34, d35, d36, d40, d41, d42, d43, d45, d46, d50, d51, d52, d53, d54, d56, d60, d61, d62, d63, d64, d65]) ?_
  simp [go_sem, d01, d02, d03, d04, d05, d06, d10, d12, d13, d14, d15, d16, d20, d21, d23, d24, d25, d26, d30, d31, d32, d34, d35, d36, d40, d41, d42, d43, d45, d46, d50, d51, d52, d53, d54, d56, d60, d61, d62, d63, d64, d65]
  have hml : mrs (x.ms ++ [m]) = .r (.rs 3 (x.ms.length + 1) (mrows (x.ms ++ [m]))) := by simp [mrs]
  rw [← hml]
  refine of52K (x.ms ++ [m]) (by rw [List.length_append, List.length_cons, List.length_nil]; omega) (by omega) ?_
  intro S M1 nx1 g1 g2 g3
  have kq : ∀ q, q < nx → Kept (nx ≤ ·) (M q) (M1 q) := fun q hq => by
    have h1 := g3 q (by omega)
    refine Kept.trans ?_ (h1.mono fun s hs => by omega)
    simp only [fzM]
    rw [if_neg (by omega)]
    refine Kept.fz _ ?_ (by omega)
    simp only [upd_app]
    repeat (first | rw [if_neg (by omega)] | exact Kept.refl)
  have u2 := g3 (nx + 1 + 1) (by omega)
  simp [go_sem, d01, d02, d03, d04, d05, d06, d10, d12, d13, d14, d15, d16, d20, d21, d23, d24, d25, d26, d30, d31, d32, d34, d35, d36, d40, d41, d42, d43, d45, d46, d50, d51, d52, d53, d54, d56, d60, d61, d62, d63, d64, d65] at u2
  have u2 : M1 (nx + 1 + 1) = some nil9 := u2.eq (fun _ => rfl) (fun _ _ => rfl)
  obtain ⟨rm, r, pos, rfl, q1, q2, q3, q4⟩ := g2.ex
  rw [bxL_eq]
  simp [go_sem, d01, d02, d03, d04, d05, d06, d10, d12, d13, d14, d15, d16, d20, d21, d23, d24, d25, d26, d30, d31, d32, d34, d35, d36, d40, d41, d42, d43, d45, d46, d50, d51, d52, d53, d54, d56, d60, d61, d62, d63, d64, d65, u2]
  refine hK _ _ nx1 (by omega) ?_ fun q hq => by rw [upd_ne _ _ (by omega)]; exact kq q hq
  rw [if_pos rfl]
  exact (g2.mem fun q h1 h2 => upd_ne _ _ (by omega)).lo (by omega)
theorem remove26K (x : IxG) (h : x.Sm) (t : Int) {np nx : Nat} {M : Mem} {K : SV → Mem → Nat → (SV → SV) → Prop} (hnp : np ≤ nx) (hK : XP K M nx (remE x t) (ofG (remL x.ms t))) : CallK Try.prog np 26 [x.sv, .i t] M nx K := by
  obtain ⟨e, he⟩ : ∃ e, remE x t = e := ⟨_, rfl⟩
  rw [he] at hK
  refine callK_in T_ok Try.func26 rfl (by kernel_rfl) (Nat.le_of_ble_eq_true rfl) rfl rfl nx hnp (Nat.le_refl _) ?_
  have d01 : ¬ nx = nx + 1 := by omega
  have d02 : ¬ nx = nx + 1 + 1 := by omega
  have d03 : ¬ nx = nx + 1 + 1 + 1 := by omega
  have d04 : ¬ nx = nx + 1 + 1 + 1 + 1 := by omega
  have d05 : ¬ nx = nx + 1 + 1 + 1 + 1 + 1 := by omega
  have d06 : ¬ nx = nx + 1 + 1 + 1 + 1 + 1 + 1 := by omega
  have d10 : ¬ nx + 1 = nx := by omega
  have d12 : ¬ nx + 1 = nx + 1 + 1 := by omega
  have d13 : ¬ nx + 1 = nx + 1 + 1 + 1 := by omega
  have d14 : ¬ nx + 1 = nx + 1 + 1 + 1 + 1 := by omega
  have d15 : ¬ nx + 1 = nx + 1 + 1 + 1 + 1 + 1 := by omega
  have d16 : ¬ nx + 1 = nx + 1 + 1 + 1 + 1 + 1 + 1 := by omega
  have d20 : ¬ nx + 1 + 1 = nx := by omega
  have d21 : ¬ nx + 1 + 1 = nx + 1 := by omega
  have d23 : ¬ nx + 1 + 1 = nx + 1 + 1 + 1 := by omega
  have d24 : ¬ nx + 1 + 1 = nx + 1 + 1 + 1 + 1 := by omega
  have d25 : ¬ nx + 1 + 1 = nx + 1 + 1 + 1 + 1 + 1 := by omega
  have d26 : ¬ nx + 1 + 1 = nx + 1 + 1 + 1 + 1 + 1 + 1 := by omega
  have d30 : ¬ nx + 1 + 1 + 1 = nx := by omega
  have d31 : ¬ nx + 1 + 1 + 1 = nx + 1 := by omega
  have d32 : ¬ nx + 1 + 1 + 1 = nx + 1 + 1 := by omega
  have d34 : ¬ nx + 1 + 1 + 1 = nx + 1 + 1 + 1 + 1 := by omega
  have d35 : ¬ nx + 1 + 1 + 1 = nx + 1 + 1 + 1 + 1 + 1 := by omega
  have d36 : ¬ nx + 1 + 1 + 1 = nx + 1 + 1 + 1 + 1 + 1 + 1 := by omega
  have d40 : ¬ nx + 1 + 1 + 1 + 1 = nx := by omega
  have d41 : ¬ nx + 1 + 1 + 1 + 1 = nx + 1 := by omega
  have d42 : ¬ nx + 1 + 1 + 1 + 1 = nx + 1 + 1 := by omega
  have d43 : ¬ nx + 1 + 1 + 1 + 1 = nx + 1 + 1 + 1 := by omega
  have d45 : ¬ nx + 1 + 1 + 1 + 1 = nx + 1 + 1 + 1 + 1 + 1 := by omega
  have d46 : ¬ nx + 1 + 1 + 1 + 1 = nx + 1 + 1 + 1 + 1 + 1 + 1 := by omega
  have d50 : ¬ nx + 1 + 1 + 1 + 1 + 1 = nx := by omega
  have d51 : ¬ nx + 1 + 1 + 1 + 1 + 1 = nx + 1 := by omega
  have d52 : ¬ nx + 1 + 1 + 1 + 1 + 1 = nx + 1 + 1 := by omega
  have d53 : ¬ nx + 1 + 1 + 1 + 1 + 1 = nx + 1 + 1 + 1 := by omega
  have d54 : ¬ nx + 1 + 1 + 1 + 1 + 1 = nx + 1 + 1 + 1 + 1 := by omega
  have d56 : ¬ nx + 1 + 1 + 1 + 1 + 1 = nx + 1 + 1 + 1 + 1 + 1 + 1 := by omega
  have d60 : ¬ nx + 1 + 1 + 1 + 1 + 1 + 1 = nx := by omega
  have d61 : ¬ nx + 1 + 1 + 1 + 1 + 1 + 1 = nx + 1 := by omega
  have d62 : ¬ nx + 1 + 1 + 1 + 1 + 1 + 1 = nx + 1 + 1 := by omega
  have d63 : ¬ nx + 1 + 1 + 1 + 1 + 1 + 1 = nx + 1 + 1 + 1 := by omega
  have d64 : ¬ nx + 1 + 1 + 1 + 1 + 1 + 1 = nx + 1 + 1 + 1 + 1 := by omega
  have d65 : ¬ nx + 1 + 1 + 1 + 1 + 1 + 1 = nx + 1 + 1 + 1 + 1 + 1 := by omega
  have hc := check19 x h
  have hms := h.ms
  simp [go_sem, IxG.sv] at hc
  simp [go_sem, IxG.sv, d01, d02, d03, d04, d05, d06, d10, d12, d13, d14, d15, d16, d20, d21, d23, d24, d25, d26, d30, d31, d32, d34, d35, d36, d40, d41, d42, d43, d45, d46, d50, d51, d52, d53, d54, d56, d60, d61, d62, d63, d64, d65]
  refine call_val hc rfl rfl ?_
  cases hv : validX x
  · have e4 : e = 40 := by rw [← he, remE, if_pos hv]
    subst e4
    simp [go_sem, checkE, hv, d01, d02, d03, d04, d05, d06, d10, d12, d13, d14, d15, d16, d20, d21, d23, d24, d25, d26, d30, d31, d32, d34, d35, d36, d40, d41, d42, d43, d45, d46, d50, d51, d52, d53, d54, d56, d60, d61, d62, d63, d64, d65]
    exact hK.nil (by decide) (by omega) fun q hq => by simp only [upd_app]; repeat (first | rw [if_neg (by omega)] | rfl)
  simp [go_sem, checkE, hv, d01, d02, d03, d04, d05, d06, d10, d12, d13, d14, d15, d16, d20, d21, d23, d24, d25, d26, d30, d31, d32, d34, d35, d36, d40, d41, d42, d43, d45, d46, d50, d51, d52, d53, d54, d56, d60, d61, d62, d63, d64, d65]
  refine call_val (place60 x.ms (by omega) (validX_sorted hv) t) rfl rfl ?_
  cases hp : isM x.ms t
  · have e4 : e = 6 := by rw [← he, remE, if_neg (by rw [hv]; simp), if_pos hp]
    subst e4
    simp [go_sem, d01, d02, d03, d04, d05, d06, d10, d12, d13, d14, d15, d16, d20, d21, d23, d24, d25, d26, d30, d31, d32, d34, d35, d36, d40, d41, d42, d43, d45, d46, d50, d51, d52, d53, d54, d56, d60, d61, d62, d63, d64, d65]
    exact hK.nil (by decide) (by omega) fun q hq => by simp only [upd_app]; repeat (first | rw [if_neg (by omega)] | rfl)
  have e0 : e = 0 := by rw [← he, remE, if_neg (by rw [hv]; simp), if_neg (by rw [hp]; simp)]
  subst e0
  have hlt := isM_lt hp
  have hlen := validX_len hv
  have hrl : (remL x.ms t).length = plc x.ms t + (x.ms.length - (plc x.ms t + 1)) := by unfold remL; rw [List.length_append, List.length_take, List.length_drop]; omega
  have key := concat61 (x.ms.take (plc x.ms t)) (x.ms.drop (plc x.ms t + 1)) (by simp; omega) (by simp; omega)
  have hrem : remL x.ms t = x.ms.take (plc x.ms t) ++ x.ms.drop (plc x.ms t + 1) := rfl
  rw [← hrem] at key
  have h1 : (x.ms.take (plc x.ms t)).length = plc x.ms t := by rw [List.length_take]; omega
  have h2 : (x.ms.drop (plc x.ms t + 1)).length = x.ms.length - (plc x.ms t + 1) := List.length_drop
  rw [h1, h2] at key
  have hr : ∀ i j, i < plc x.ms t → j < 3 → mrows x.ms i j = mrows (x.ms.take (plc x.ms t)) i j := fun i j hi hj => by
    unfold mrows rowsL; rw [List.getElem?_take_of_lt hi]
  have hr' : ∀ i j, i < x.ms.length - (plc x.ms t + 1) → j < 3 → mrows x.ms (plc x.ms t + 1 + i) j = mrows (x.ms.drop (plc x.ms t + 1)) i j := fun i j hi hj => by
    unfold mrows rowsL; rw [List.getElem?_drop]
  generalize hk : plc x.ms t = k at *
  have a1 : (k : Int) + 1 ≤ x.ms.length := by omega
  have a2 : (k : Int) ≤ x.ms.length := by omega
  simp [go_sem, d01, d02, d03, d04, d05, d06, d10, d12, d13, d14, d15, d16, d20, d21, d23, d24, d25, d26, d30, d31, d32, d34, d35, d36, d40, d41, d42, d43, d45, d46, d50, d51, d52, d53, d54, d56, d60, d61, d62, d63, d64, d65]
  refine GDraw_l (t := (.take 0 (.take 1 (.take 2 (.take 3 (.take 4 (.take 5 (.take 6 (.take 7 (.take 8 (.alt 9 [8, 7, 6, 5, 4, 3, 2, 1, 0] (.alt 10 [7, 6, 5, 4, 2, 1, 0] (.alt 11 [7, 6, 5, 4, 2, 1, 0] (.alt 12 [7, 6, 5, 4, 2, 1, 0] (.take 13 (.done [13])) .nil) .nil) .nil) .nil))))))))))) T_ok (by kernel_rfl) (by kernel_rfl) (by kernel_rfl) (fun _ _ _ _ h => h) ?_
  simp [go_sem, a1, a2, d01, d02, d03, d04, d05, d06, d10, d12, d13, d14, d15, d16, d20, d21, d23, d24, d25, d26, d30, d31, d32, d34, d35, d36, d40, d41, d42, d43, d45, d46, d50, d51, d52, d53, d54, d56, d60, d61, d62, d63, d64, d65]
  refine ⟨by omega, by omega, ⟨by omega, by omega, by omega⟩, ⟨by omega, by omega⟩, ?_⟩
  refine callK_lentOwn (S := .sl 0 3 0 (remL x.ms t).length none) (Rs' := [mreg (remL x.ms t)]) ?_ trivial ⟨fun i j hi hj => mflat hi hj, trivial⟩ ?_
  · simp [go_sem, d01, d02, d03, d04, d05, d06, d10, d12, d13, d14, d15, d16, d20, d21, d23, d24, d25, d26, d30, d31, d32, d34, d35, d36, d40, d41, d42, d43, d45, d46, d50, d51, d52, d53, d54, d56, d60, d61, d62, d63, d64, d65]
    refine key _ _ hr hr' _ rfl rfl
  simp [go_sem, d01, d02, d03, d04, d05, d06, d10, d12, d13, d14, d15, d16, d20, d21, d23, d24, d25, d26, d30, d31, d32, d34, d35, d36, d40, d41, d42, d43, d45, d46, d50, d51, d52, d53, d54, d56, d60, d61, d62, d63, d64, d65]
  refine ⟨by omega, callK_freeze (nx + 1 + 1 + 1) (R := mreg (remL x.ms t)) (by simp [go_sem, d01, d02, d03, d04, d05, d06, d10, d12, d13, d14, d15, d16, d20, d21, d23, d24, d25, d26, d30, d31, d32, d34, d35, d36, d40, d41, d42, d43, d45, d46, d50, d51, d52, d53, d54, d56, d60, d61, d62, d63, d64, d65]) ?_⟩
  simp [go_sem, d01, d02, d03, d04, d05, d06, d10, d12, d13, d14, d15, d16, d20, d21, d23, d24, d25, d26, d30, d31, d32, d34, d35, d36, d40, d41, d42, d43, d45, d46, d50, d51, d52, d53, d54, d56, d60, d61, d62, d63, d64, d65]
  refine of52K (remL x.ms t) (by omega) (by omega) ?_
  intro S M1 nx1 g1 g2 g3
  have kq : ∀ q, q < nx → Kept (nx ≤ ·) (M q) (M1 q) := fun q hq => by
    have h1 := g3 q (by omega)
    refine Kept.trans ?_ (h1.mono fun s hs => by omega)
    simp only [fzM]
    rw [if_neg (by omega)]
    refine Kept.fz _ ?_ (by omega)
    simp only [upd_app]
    repeat (first | rw [if_neg (by omega)] | exact Kept.refl)
  have u2 := g3 (nx + 1) (by omega)
  simp [go_sem, d01, d02, d03, d04, d05, d06, d10, d12, d13, d14, d15, d16, d20, d21, d23, d24, d25, d26, d30, d31, d32, d34, d35, d36, d40, d41, d42, d43, d45, d46, d50, d51, d52, d53, d54, d56, d60, d61, d62, d63, d64, d65] at u2
  have u2 : M1 (nx + 1) = some nil9 := u2.eq (fun _ => rfl) (fun _ _ => rfl)
  have u0 := g3 nx (by omega)
  simp [go_sem, d01, d02, d03, d04, d05, d06, d10, d12, d13, d14, d15, d16, d20, d21, d23, d24, d25, d26, d30, d31, d32, d34, d35, d36, d40, d41, d42, d43, d45, d46, d50, d51, d52, d53, d54, d56, d60, d61, d62, d63, d64, d65] at u0
  have u0 : M1 nx = some (.box (ixC x)) := u0.eq (fun _ => rfl) (fun _ _ => rfl)
  have l0 : nx < nx + 1 + 1 + 1 + 1 := by omega
  have l1 : nx + 1 < nx + 1 + 1 + 1 + 1 := by omega
  obtain ⟨rm, r, pos, rfl, q1, q2, q3, q4⟩ := g2.ex
  rw [bxL_eq]
  simp [go_sem, d01, d02, d03, d04, d05, d06, d10, d12, d13, d14, d15, d16, d20, d21, d23, d24, d25, d26, d30, d31, d32, d34, d35, d36, d40, d41, d42, d43, d45, d46, d50, d51, d52, d53, d54, d56, d60, d61, d62, d63, d64, d65, u2, u0, l0, l1]
  refine ⟨by omega, hK _ _ nx1 (by omega) ?_ fun q hq => by rw [upd_ne _ _ (by omega)]; exact kq q hq⟩
  rw [if_pos rfl]
  exact (g2.mem fun q h1 h2 => upd_ne _ _ (by omega)).lo (by omega)
theorem merge28K (x y : IxG) (h : x.Sm) (h' : y.Sm) {np nx : Nat} {M : Mem} {K : SV → Mem → Nat → (SV → SV) → Prop} (hnp : np ≤ nx) (hK : XP K M nx (mrgE x y) (ofG (x.ms ++ y.ms))) : CallK Try.prog np 28 [x.sv, y.sv] M nx K := by
  obtain ⟨e, he⟩ : ∃ e, mrgE x y = e := ⟨_, rfl⟩
  rw [he] at hK
  refine callK_in T_ok Try.func28 rfl (by kernel_rfl) (Nat.le_of_ble_eq_true rfl) rfl rfl nx hnp (Nat.le_refl _) ?_
  have d01 : ¬ nx = nx + 1 := by omega
  have d02 : ¬ nx = nx + 1 + 1 := by omega
  have d03 : ¬ nx = nx + 1 + 1 + 1 := by omega
  have d04 : ¬ nx = nx + 1 + 1 + 1 + 1 := by omega
  have d05 : ¬ nx = nx + 1 + 1 + 1 + 1 + 1 := by omega
  have d06 : ¬ nx = nx + 1 + 1 + 1 + 1 + 1 + 1 := by omega
  have d10 : ¬ nx + 1 = nx := by omega
  have d12 : ¬ nx + 1 = nx + 1 + 1 := by omega
  have d13 : ¬ nx + 1 = nx + 1 + 1 + 1 := by omega
  have d14 : ¬ nx + 1 = nx + 1 + 1 + 1 + 1 := by omega
  have d15 : ¬ nx + 1 = nx + 1 + 1 + 1 + 1 + 1 := by omega
  have d16 : ¬ nx + 1 = nx + 1 + 1 + 1 + 1 + 1 + 1 := by omega
  have d20 : ¬ nx + 1 + 1 = nx := by omega
  have d21 : ¬ nx + 1 + 1 = nx + 1 := by omega
  have d23 : ¬ nx + 1 + 1 = nx + 1 + 1 + 1 := by omega
  have d24 : ¬ nx + 1 + 1 = nx + 1 + 1 + 1 + 1 := by omega
  have d25 : ¬ nx + 1 + 1 = nx + 1 + 1 + 1 + 1 + 1 := by omega
  have d26 : ¬ nx + 1 + 1 = nx + 1 + 1 + 1 + 1 + 1 + 1 := by omega
  have d30 : ¬ nx + 1 + 1 + 1 = nx := by omega
  have d31 : ¬ nx + 1 + 1 + 1 = nx + 1 := by omega
  have d32 : ¬ nx + 1 + 1 + 1 = nx + 1 + 1 := by omega
  have d34 : ¬ nx + 1 + 1 + 1 = nx + 1 + 1 + 1 + 1 := by omega
  have d35 : ¬ nx + 1 + 1 + 1 = nx + 1 + 1 + 1 + 1 + 1 := by omega
  have d36 : ¬ nx + 1 + 1 + 1 = nx + 1 + 1 + 1 + 1 + 1 + 1 := by omega
  have d40 : ¬ nx + 1 + 1 + 1 + 1 = nx := by omega
  have d41 : ¬ nx + 1 + 1 + 1 + 1 = nx + 1 := by omega
  have d42 : ¬ nx + 1 + 1 + 1 + 1 = nx + 1 + 1 := by omega
  have d43 : ¬ nx + 1 + 1 + 1 + 1 = nx + 1 + 1 + 1 := by omega
  have d45 : ¬ nx + 1 + 1 + 1 + 1 = nx + 1 + 1 + 1 + 1 + 1 := by omega
  have d46 : ¬ nx + 1 + 1 + 1 + 1 = nx + 1 + 1 + 1 + 1 + 1 + 1 := by omega
  have d50 : ¬ nx + 1 + 1 + 1 + 1 + 1 = nx := by omega
  have d51 : ¬ nx + 1 + 1 + 1 + 1 + 1 = nx + 1 := by omega
  have d52 : ¬ nx + 1 + 1 + 1 + 1 + 1 = nx + 1 + 1 := by omega
  have d53 : ¬ nx + 1 + 1 + 1 + 1 + 1 = nx + 1 + 1 + 1 := by omega
  have d54 : ¬ nx + 1 + 1 + 1 + 1 + 1 = nx + 1 + 1 + 1 + 1 := by omega
  have d56 : ¬ nx + 1 + 1 + 1 + 1 + 1 = nx + 1 + 1 + 1 + 1 + 1 + 1 := by omega
  have d60 : ¬ nx + 1 + 1 + 1 + 1 + 1 + 1 = nx := by omega
  have d61 : ¬ nx + 1 + 1 + 1 + 1 + 1 + 1 = nx + 1 := by omega
  have d62 : ¬ nx + 1 + 1 + 1 + 1 + 1 + 1 = nx + 1 + 1 := by omega
  have d63 : ¬ nx + 1 + 1 + 1 + 1 + 1 + 1 = nx + 1 + 1 + 1 := by omega
  have d64 : ¬ nx + 1 + 1 + 1 + 1 + 1 + 1 = nx + 1 + 1 + 1 + 1 := by omega
  have d65 : ¬ nx + 1 + 1 + 1 + 1 + 1 + 1 = nx + 1 + 1 + 1 + 1 + 1 := by omega
  have hc := check19 x h
  have hc' := check19 y h'
  have hms := h.ms
  have hms' := h'.ms
  simp [go_sem, IxG.sv] at hc hc'
  simp [go_sem, IxG.sv, d01, d02, d03, d04, d05, d06, d10, d12, d13, d14, d15, d16, d20, d21, d23, d24, d25, d26, d30, d31, d32, d34, d35, d36, d40, d41, d42, d43, d45, d46, d50, d51, d52, d53, d54, d56, d60, d61, d62, d63, d64, d65]
  refine call_val hc rfl rfl ?_
  cases hv : validX x
  · have e4 : e = 40 := by rw [← he, mrgE, hv]; rfl
    subst e4
    simp [go_sem, checkE, hv, d01, d02, d03, d04, d05, d06, d10, d12, d13, d14, d15, d16, d20, d21, d23, d24, d25, d26, d30, d31, d32, d34, d35, d36, d40, d41, d42, d43, d45, d46, d50, d51, d52, d53, d54, d56, d60, d61, d62, d63, d64, d65]
    exact hK.nil (by decide) (by omega) fun q hq => by simp only [upd_app]; repeat (first | rw [if_neg (by omega)] | rfl)
  simp [go_sem, checkE, hv, d01, d02, d03, d04, d05, d06, d10, d12, d13, d14, d15, d16, d20, d21, d23, d24, d25, d26, d30, d31, d32, d34, d35, d36, d40, d41, d42, d43, d45, d46, d50, d51, d52, d53, d54, d56, d60, d61, d62, d63, d64, d65]
  refine call_val hc' rfl rfl ?_
  cases hv' : validX y
  · have e4 : e = 40 := by rw [← he, mrgE, hv, hv']; rfl
    subst e4
    simp [go_sem, checkE, hv', d01, d02, d03, d04, d05, d06, d10, d12, d13, d14, d15, d16, d20, d21, d23, d24, d25, d26, d30, d31, d32, d34, d35, d36, d40, d41, d42, d43, d45, d46, d50, d51, d52, d53, d54, d56, d60, d61, d62, d63, d64, d65]
    exact hK.nil (by decide) (by omega) fun q hq => by simp only [upd_app]; repeat (first | rw [if_neg (by omega)] | rfl)
  simp [go_sem, checkE, hv', d01, d02, d03, d04, d05, d06, d10, d12, d13, d14, d15, d16, d20, d21, d23, d24, d25, d26, d30, d31, d32, d34, d35, d36, d40, d41, d42, d43, d45, d46, d50, d51, d52, d53, d54, d56, d60, d61, d62, d63, d64, d65]
  have hlen := validX_len hv
  have hlen' := validX_len hv'
  have he2 : e = if x.ms.any (fun a => isM y.ms a.id) then 41 else if 256 < x.ms.length + y.ms.length then 9 else 0 := by rw [← he, mrgE, hv, hv']; rfl
  refine GLoop_p T_ok (α := Nat) (fun k => [(2, .ptr nx 0 9 0), (3, .ptr (nx + 1) 0 9 0), (4, .ptr (nx + 1 + 1) 0 9 0), (5, .i 0), (20, mrs x.ms), (21, .i x.ms.length), (22, .i k)])
    (fun k M' nx' => (k ≤ x.ms.length ∧ ∀ j, j < k → ∀ (h1 : j < x.ms.length), isM y.ms x.ms[j].id = false) ∧ nx + 3 ≤ nx' ∧ M' nx = some (.box (ixC x)) ∧ M' (nx + 1) = some (.box (ixC y)) ∧ M' (nx + 1 + 1) = some nil9 ∧ ∀ q, q < nx → M' q = M q) (fun k => x.ms.length - k) 0
    ⟨⟨Nat.zero_le _, fun j hj => absurd hj (Nat.not_lt_zero j)⟩, Nat.le_refl _, by simp [go_sem, d01, d02, d03, d04, d05, d06, d10, d12, d13, d14, d15, d16, d20, d21, d23, d24, d25, d26, d30, d31, d32, d34, d35, d36, d40, d41, d42, d43, d45, d46, d50, d51, d52, d53, d54, d56, d60, d61, d62, d63, d64, d65], by simp [go_sem, d01, d02, d03, d04, d05, d06, d10, d12, d13, d14, d15, d16, d20, d21, d23, d24, d25, d26, d30, d31, d32, d34, d35, d36, d40, d41, d42, d43, d45, d46, d50, d51, d52, d53, d54, d56, d60, d61, d62, d63, d64, d65], by simp [go_sem, d01, d02, d03, d04, d05, d06, d10, d12, d13, d14, d15, d16, d20, d21, d23, d24, d25, d26, d30, d31, d32, d34, d35, d36, d40, d41, d42, d43, d45, d46, d50, d51, d52, d53, d54, d56, d60, d61, d62, d63, d64, d65], fun q hq => by simp only [upd_app]; repeat (first | rw [if_neg (by omega)] | rfl)⟩ (by simp [go_sem]) ?_
  rintro k J M1 nx1 hN ⟨hk, hnx, w0, w1, w2, w3⟩
  have e0 : ¬ nx = nx1 := by omega
  have f0 : ¬ nx1 = nx := by omega
  have e1 : ¬ nx + 1 = nx1 := by omega
  have f1 : ¬ nx1 = nx + 1 := by omega
  have e2 : ¬ nx + 1 + 1 = nx1 := by omega
  have f2 : ¬ nx1 = nx + 1 + 1 := by omega
  have g0 : ¬ nx = nx1 + 1 := by omega
  have h0 : ¬ nx1 + 1 = nx := by omega
  have g1 : ¬ nx + 1 = nx1 + 1 := by omega
  have h1 : ¬ nx1 + 1 = nx + 1 := by omega
  have g2 : ¬ nx + 1 + 1 = nx1 + 1 := by omega
  have h2 : ¬ nx1 + 1 = nx + 1 + 1 := by omega
  by_cases hlt : k < x.ms.length
  · have r0 := mrow hlt 0
    have r1 := mrow hlt 1
    have r2 := mrow hlt 2
    simp [go_sem, hlt, r0, r1, r2, w0, w1, w2, d01, d02, d03, d04, d05, d06, d10, d12, d13, d14, d15, d16, d20, d21, d23, d24, d25, d26, d30, d31, d32, d34, d35, d36, d40, d41, d42, d43, d45, d46, d50, d51, d52, d53, d54, d56, d60, d61, d62, d63, d64, d65, e0, f0, g0, h0, e1, f1, g1, h1, e2, f2, g2, h2]
    refine call_val (place60 y.ms (by omega) (validX_sorted hv') x.ms[k].id) rfl rfl ?_
    cases hp : isM y.ms x.ms[k].id
    rotate_left
    · have e4 : e = 41 := by
        rw [he2, if_pos]
        exact List.any_eq_true.2 ⟨_, List.getElem_mem hlt, hp⟩
      subst e4
      simp [go_sem, w0, w1, w2, d01, d02, d03, d04, d05, d06, d10, d12, d13, d14, d15, d16, d20, d21, d23, d24, d25, d26, d30, d31, d32, d34, d35, d36, d40, d41, d42, d43, d45, d46, d50, d51, d52, d53, d54, d56, d60, d61, d62, d63, d64, d65, e0, f0, g0, h0, e1, f1, g1, h1, e2, f2, g2, h2]
      exact hK.nil (by decide) (by omega) fun q hq => by (try simp only [upd_app]); repeat (first | rw [if_neg (by omega)] | exact w3 q hq)
    · simp [go_sem, w0, w1, w2, d01, d02, d03, d04, d05, d06, d10, d12, d13, d14, d15, d16, d20, d21, d23, d24, d25, d26, d30, d31, d32, d34, d35, d36, d40, d41, d42, d43, d45, d46, d50, d51, d52, d53, d54, d56, d60, d61, d62, d63, d64, d65, e0, f0, g0, h0, e1, f1, g1, h1, e2, f2, g2, h2]
      refine ⟨by omega, k + 1, by omega, by omega, ⟨by omega, fun j hj h1 => ?_⟩, by omega, fun q hq => by (try simp only [upd_app]); repeat (first | rw [if_neg (by omega)] | exact w3 q hq)⟩
      by_cases e : j = k
      · subst e; exact hp
      · exact hk.2 j (by omega) h1
  have he3 : e = if 256 < x.ms.length + y.ms.length then 9 else 0 := by
    rw [he2, if_neg]
    intro hd
    obtain ⟨a, ha, hq⟩ := List.any_eq_true.1 hd
    obtain ⟨i, hi, rfl⟩ := List.mem_iff_getElem.1 ha
    have := hk.2 i (by omega) hi
    rw [this] at hq; cases hq
  simp [go_sem, hlt, w0, w1, w2, d01, d02, d03, d04, d05, d06, d10, d12, d13, d14, d15, d16, d20, d21, d23, d24, d25, d26, d30, d31, d32, d34, d35, d36, d40, d41, d42, d43, d45, d46, d50, d51, d52, d53, d54, d56, d60, d61, d62, d63, d64, d65, e0, f0, g0, h0, e1, f1, g1, h1, e2, f2, g2, h2]
  by_cases hl : 256 < x.ms.length + y.ms.length
  · have hl' : (256 : Int) < x.ms.length + y.ms.length := by omega
    have e4 : e = 9 := by rw [he3, if_pos hl]
    subst e4
    simp [go_sem, hl, hl', w0, w1, w2, d01, d02, d03, d04, d05, d06, d10, d12, d13, d14, d15, d16, d20, d21, d23, d24, d25, d26, d30, d31, d32, d34, d35, d36, d40, d41, d42, d43, d45, d46, d50, d51, d52, d53, d54, d56, d60, d61, d62, d63, d64, d65, e0, f0, g0, h0, e1, f1, g1, h1, e2, f2, g2, h2]
    refine ⟨by omega, ?_⟩
    exact hK.nil (by decide) (by omega) fun q hq => by (try simp only [upd_app]); repeat (first | rw [if_neg (by omega)] | exact w3 q hq)
  have hl' : ¬ (256 : Int) < x.ms.length + y.ms.length := by omega
  have e0 : e = 0 := by rw [he3, if_neg hl]
  subst e0
  simp [go_sem, hl, hl', w0, w1, w2, d01, d02, d03, d04, d05, d06, d10, d12, d13, d14, d15, d16, d20, d21, d23, d24, d25, d26, d30, d31, d32, d34, d35, d36, d40, d41, d42, d43, d45, d46, d50, d51, d52, d53, d54, d56, d60, d61, d62, d63, d64, d65, e0, f0, g0, h0, e1, f1, g1, h1, e2, f2, g2, h2]
  have key := concat61 x.ms y.ms (by omega) (by omega)
  simp only [List.length_append] at key
  refine ⟨by omega, callK_lentOwn (S := .sl 0 3 0 (x.ms ++ y.ms).length none) (Rs' := [mreg (x.ms ++ y.ms)]) ?_ trivial ⟨fun i j hi hj => mflat hi hj, trivial⟩ ?_⟩
  · simp [go_sem]
    exact key _ _ (fun _ _ _ _ => rfl) (fun _ _ _ _ => rfl) _ rfl rfl
  simp [go_sem, w0, w1, w2, d01, d02, d03, d04, d05, d06, d10, d12, d13, d14, d15, d16, d20, d21, d23, d24, d25, d26, d30, d31, d32, d34, d35, d36, d40, d41, d42, d43, d45, d46, d50, d51, d52, d53, d54, d56, d60, d61, d62, d63, d64, d65, e0, f0, g0, h0, e1, f1, g1, h1, e2, f2, g2, h2]
  refine callK_freeze (nx1 + 1) (R := .vec 43 3 (x.ms.length + y.ms.length) fun i j => .r (mrows (x.ms ++ y.ms) i j)) (by simp [go_sem]) ?_
  simp [go_sem]
  have hml : mrs (x.ms ++ y.ms) = .r (.rs 3 (x.ms.length + y.ms.length) (mrows (x.ms ++ y.ms))) := by simp [mrs]
  rw [← hml]
  refine of52K (x.ms ++ y.ms) (by rw [List.length_append]; omega) (by omega) ?_
  intro S M2 nx2 g1 g2 g3
  have kq : ∀ q, q < nx → Kept (nx ≤ ·) (M q) (M2 q) := fun q hq => by
    have h1 := g3 q (by omega)
    refine Kept.trans ?_ (h1.mono fun s hs => by omega)
    simp only [fzM]
    rw [if_neg (by omega)]
    refine Kept.fz _ ?_ (by omega)
    simp only [upd_app]
    rw [if_neg (by omega), if_neg (by omega), w3 q hq]
    exact Kept.refl
  have u2 := g3 (nx + 1 + 1) (by omega)
  simp [go_sem, e0, f0, g0, h0, e1, f1, g1, h1, e2, f2, g2, h2, w2] at u2
  have u2 : M2 (nx + 1 + 1) = some nil9 := u2.eq (fun _ => rfl) (fun _ _ => rfl)
  have l2 : nx + 1 + 1 < nx1 + 1 + 1 := by omega
  obtain ⟨rm, r, pos, rfl, q1, q2, q3, q4⟩ := g2.ex
  rw [bxL_eq]
  simp [go_sem, d01, d02, d03, d04, d05, d06, d10, d12, d13, d14, d15, d16, d20, d21, d23, d24, d25, d26, d30, d31, d32, d34, d35, d36, d40, d41, d42, d43, d45, d46, d50, d51, d52, d53, d54, d56, d60, d61, d62, d63, d64, d65, e0, f0, g0, h0, e1, f1, g1, h1, e2, f2, g2, h2, u2, l2]
  refine hK _ _ nx2 (by omega) ?_ fun q hq => by rw [upd_ne _ _ (by omega)]; exact kq q hq
  rw [if_pos rfl]
  exact (g2.mem fun q h1 h2 => upd_ne _ _ (by omega)).lo (by omega)
end Go.Gx.Ix
set_option linter.unusedVariables false
set_option linter.unusedSimpArgs false
set_option maxRecDepth 20000
set_option maxHeartbeats 4000000
namespace Go.Gx.Ix
open Go.RowKit Go.Proofs Go.Proofs.Ytdnblflhlklfnaa

theorem IxO.kept {A : Nat → Prop} {lo hi : Nat} {M M' : Mem} {x : IxG} {S : SV} (h : IxO lo M hi x S) (hk : ∀ q, lo ≤ q → q < hi → Kept A (M q) (M' q)) (hA : ∀ s, A s → s < lo ∨ hi ≤ s) : IxO lo M' hi x S := by
  obtain ⟨rm, r, pos, h0, h1, h2, h3, h4⟩ := h.ex
  have hnA : ∀ q, lo ≤ q → q < hi → ¬ A q := fun q a b c => by have := hA q c; omega
  have hlo : ∀ q, ¬ (q < lo ∨ q = rm) → lo ≤ q := fun q hq => by omega
  refine ⟨rm, r, pos, h0, h1, h2, ?_, ⟨h4.ra, h4.ri, h4.pa, h4.pi, fun j hj => ?_, fun j hj P hP => ?_⟩⟩
  · have := hk rm h1 h2
    rw [h3] at this
    exact this.eq (fun _ => rfl) (fun _ _ => rfl)
  · have h5 := h4.ra j hj
    exact (hk _ (hlo _ h5.1) h5.2).ps (fun P hP => hnA _ (hlo _ (h4.pa j hj P hP).1) (h4.pa j hj P hP).2.1) (h4.ps j hj)
  · have h5 := h4.pa j hj P hP
    exact (hk _ (hlo _ h5.1) h5.2.1).nu (h4.nu j hj P hP)
/-- The parts, in own memory: a row each. -/
structure PtO (lo : Nat) (M : Mem) (hi po m n : Nat) (F : Nat → IxG) (lo' hi' : Nat → Nat) (g : Nat → Nat → SV) : Prop where
  p1 : lo ≤ po ∧ po < hi
  row : M po = some (.vec 26 9 n g)
  at_ : ∀ i, m ≤ i → i < n → po < lo' i ∧ lo' i ≤ hi' i ∧ hi' i ≤ hi ∧ ∃ l, (∀ c, c < 9 → g i c = (l[c]?).getD (.r .any)) ∧ IxO (lo' i) M (hi' i) (F i) (.agg l)
  dis : ∀ i j, m ≤ i → i < j → j < n → hi' i ≤ lo' j
structure SpJ (b : Nat) (M0 : Mem) (x : IxG) (S k : Nat) (M : Mem) (nx : Nat) (pos : Nat → Nat) : Prop where
  h0 : M b = some (.box (ixC x))
  hn : b + 2 ≤ nx
  hv : ∃ f, M (b + 1) = some (.vec 22 1 S f) ∧ ∀ j, j < S → f j 0 = if ptM x.ms S k j = [] then nilS else .sl (pos j) 3 0 (ptM x.ms S k j).length none
  hl : ∀ j, j < S → ptM x.ms S k j ≠ [] → b + 2 ≤ pos j ∧ pos j < nx ∧ isMr (M (pos j)) (ptM x.ms S k j)
  hi : ∀ i j, i < S → j < S → ptM x.ms S k i ≠ [] → ptM x.ms S k j ≠ [] → pos i = pos j → i = j
  kp : ∀ q, q < b → Kept (b ≤ ·) (M0 q) (M q)
theorem SpJ.grow {x : IxG} {S k nx nx' r j : Nat} {M M' : Mem} {b : Nat} {M0 : Mem} {pos : Nat → Nat} (h : SpJ b M0 x S k M nx pos) {a : MbG} (hj : j < S)
    (hs : ∀ i, ptM x.ms S (k + 1) i = ptM x.ms S k i ++ if i = j then [a] else [])
    (h0 : M' b = some (.box (ixC x))) (hn : nx ≤ nx') {f' : Nat → Nat → SV} (h1 : M' (b + 1) = some (.vec 22 1 S f')) (h1j : f' j 0 = .sl r 3 0 ((ptM x.ms S k j).length + 1) none)
    (h1o : ∀ i, i < S → i ≠ j → f' i 0 = if ptM x.ms S k i = [] then nilS else .sl (pos i) 3 0 (ptM x.ms S k i).length none)
    (hr : b + 2 ≤ r ∧ r < nx') (hkp : ∀ q, q < b → Kept (b ≤ ·) (M0 q) (M' q)) (hlr : isMr (M' r) (ptM x.ms S k j ++ [a])) (ho : ∀ i, i < S → i ≠ j → ptM x.ms S k i ≠ [] → pos i ≠ r ∧ isMr (M' (pos i)) (ptM x.ms S k i)) :
    SpJ b M0 x S (k + 1) M' nx' (fun i => if i = j then r else pos i) := by
  have sj : ptM x.ms S (k + 1) j = ptM x.ms S k j ++ [a] := by rw [hs j, if_pos rfl]
  have so : ∀ i, i ≠ j → ptM x.ms S (k + 1) i = ptM x.ms S k i := fun i hi => by rw [hs i, if_neg hi, List.append_nil]
  refine ⟨h0, Nat.le_trans h.hn hn, ⟨f', h1, fun i hi => ?_⟩, fun i hi hne => ?_, fun i i' hi hi' hne hne' e => ?_, hkp⟩
  · by_cases e : i = j
    · subst e
      rw [h1j, sj, if_neg (by simp)]; simp
    · rw [so i e, h1o i hi e]; simp [e]
  · by_cases e : i = j
    · subst e
      simp only [if_true]
      rw [sj]
      exact ⟨hr.1, hr.2, hlr⟩
    · simp only [if_neg e]
      rw [so i e] at hne ⊢
      obtain ⟨q1, q2, q3⟩ := h.hl i hi hne
      exact ⟨q1, by omega, (ho i hi e hne).2⟩
  · by_cases e1 : i = j
    · by_cases e2 : i' = j
      · omega
      · simp only [if_pos e1, if_neg e2] at e
        rw [so i' e2] at hne'
        exact absurd e.symm (ho i' hi' e2 hne').1
    · by_cases e2 : i' = j
      · simp only [if_pos e2, if_neg e1] at e
        rw [so i e1] at hne
        exact absurd e (ho i hi e1 hne).1
      · simp only [if_neg e1, if_neg e2] at e
        rw [so i e1] at hne
        rw [so i' e2] at hne'
        exact h.hi i i' hi hi' hne hne' e
/-- The parts' loop: members of the parts to come, the parts that are there. -/
structure TpJ (b : Nat) (M0 : Mem) (x : IxG) (S po k : Nat) (M : Mem) (nx : Nat) (pos lo hi : Nat → Nat) (g : Nat → Nat → SV) : Prop where
  hp : b + 2 ≤ po ∧ po < nx
  hv : ∃ f, M (b + 1) = some (.vec 22 1 S f) ∧ ∀ j, j < S → k ≤ j → f j 0 = if ptM x.ms S x.ms.length j = [] then nilS else .sl (pos j) 3 0 (ptM x.ms S x.ms.length j).length none
  hl : ∀ j, j < S → k ≤ j → ptM x.ms S x.ms.length j ≠ [] → b + 2 ≤ pos j ∧ pos j < po ∧ isMr (M (pos j)) (ptM x.ms S x.ms.length j)
  hinj : ∀ i j, i < S → j < S → ptM x.ms S x.ms.length i ≠ [] → ptM x.ms S x.ms.length j ≠ [] → pos i = pos j → i = j
  pt : PtO (b + 2) M nx po 0 k (fun i => ofG (ptM x.ms S x.ms.length i)) lo hi g
  kp : ∀ q, q < b → Kept (b ≤ ·) (M0 q) (M q)
theorem Kept.pos1 {A : Nat → Prop} {S k : Nat} {pt : Nat → List MbG} {pos : Nat → Nat} {R R' : Option Reg} (h : Kept A R R') (hA : ∀ j, j < S → k ≤ j → pt j ≠ [] → ¬ A (pos j))
    (hR : ∃ f, R = some (.vec 22 1 S f) ∧ ∀ j, j < S → k ≤ j → f j 0 = if pt j = [] then nilS else .sl (pos j) 3 0 (pt j).length none) : ∃ f, R' = some (.vec 22 1 S f) ∧ ∀ j, j < S → k ≤ j → f j 0 = if pt j = [] then nilS else .sl (pos j) 3 0 (pt j).length none := by
  refine h (fun R => ∃ f, R = some (.vec 22 1 S f) ∧ ∀ j, j < S → k ≤ j → f j 0 = if pt j = [] then nilS else .sl (pos j) 3 0 (pt j).length none) ?_ ?_ hR
  · rintro s R hs ⟨f, rfl, hf⟩
    refine ⟨_, rfl, fun j hj hk => ?_⟩
    show (f j 0).kill s = _
    rw [hf j hj hk]
    by_cases e : pt j = []
    · rw [if_pos e]; rfl
    · rw [if_neg e]
      have : ¬ pos j = s := fun q => hA j hj hk e (q ▸ hs)
      simp [SV.kill, this]
  · rintro s Rf R hs ⟨f, rfl, hf⟩
    refine ⟨_, rfl, fun j hj hk => ?_⟩
    show (f j 0).fz s Rf = _
    rw [hf j hj hk]
    by_cases e : pt j = []
    · rw [if_pos e]; rfl
    · rw [if_neg e]
      have : ¬ pos j = s := fun q => hA j hj hk e (q ▸ hs)
      simp [SV.fz, this]
theorem Kept.isMr {A : Nat → Prop} {R R' : Option Reg} {l : List MbG} (h : Kept A R R') (hR : Go.Gx.Ix.isMr R l) : Go.Gx.Ix.isMr R' l := h (fun R => Go.Gx.Ix.isMr R l) (fun s R _ => isMr_kill s) (fun s Rf R _ => isMr_fz s Rf) hR
/-- Cells that name no region of A. -/
theorem Kept.rows {A : Nat → Prop} {R R' : Option Reg} {e : TypeId} {w n : Nat} {g : Nat → Nat → SV} (h : Kept A R R') (hA : ∀ i c, i < n → c < w → (∀ s, A s → (g i c).kill s = g i c) ∧ ∀ s Rf, A s → (g i c).fz s Rf = g i c) (hR : R = some (.vec e w n g)) :
    ∃ g', R' = some (.vec e w n g') ∧ ∀ i c, i < n → c < w → g' i c = g i c := by
  refine h (fun R => ∃ g', R = some (.vec e w n g') ∧ ∀ i c, i < n → c < w → g' i c = g i c) ?_ ?_ ⟨g, hR, fun _ _ _ _ => rfl⟩
  · rintro s R hs ⟨g', rfl, hg⟩
    exact ⟨_, rfl, fun i c hi hc => by show (g' i c).kill s = _; rw [hg i c hi hc]; exact (hA i c hi hc).1 s hs⟩
  · rintro s Rf R hs ⟨g', rfl, hg⟩
    exact ⟨_, rfl, fun i c hi hc => by show (g' i c).fz s Rf = _; rw [hg i c hi hc]; exact (hA i c hi hc).2 s Rf hs⟩
/-- The cells of an index in own memory name regions of its own. -/
theorem IxO.cell {lo hi : Nat} {M : Mem} {x : IxG} {l : List SV} (h : IxO lo M hi x (.agg l)) {c : Nat} (hc : c < 9) : ∃ q n, (l[c]?).getD (.r .any) = .sl q 3 0 n none ∧ lo ≤ q ∧ q < hi := by
  obtain ⟨rm, r, pos, h0, h1, h2, h3, h4⟩ := h.ex
  injection h0 with h0
  subst h0
  rcases (show c = 0 ∨ ∃ j, j < 8 ∧ c = 1 + j by by_cases e : c = 0; exact .inl e; exact .inr ⟨c - 1, by omega, by omega⟩) with rfl | ⟨j, hj, rfl⟩
  · exact ⟨rm, _, rfl, h1, h2⟩
  · have := h4.ra j hj
    exact ⟨r j, _, by rw [bxL_at _ _ _ hj], by omega, this.2⟩
theorem TpJ.step {b : Nat} {M0 : Mem} {x : IxG} {S po k : Nat} {M M1 : Mem} {nx' nx1 p : Nat} {pos lo hi : Nat → Nat} {g : Nat → Nat → SV} {l : List SV} (h : TpJ b M0 x S po k M nx' pos lo hi g) (hk : k < S) (hpb : b ≤ p ∧ p ≤ po) (hpb1 : b + 1 ≠ p)
    (hp : ∀ j, j < S → k + 1 ≤ j → ptM x.ms S x.ms.length j ≠ [] → pos j ≠ p) (hn1 : nx' ≤ nx1) (hx : IxO nx' M1 nx1 (ofG (ptM x.ms S x.ms.length k)) (.agg l)) (hM : ∀ q, q < nx' → (q ≠ p ∨ q = po) → Kept (fun s => (s = p ∧ p ≠ po) ∨ nx' ≤ s) (M q) (M1 q)) :
    (∃ f, M1 (b + 1) = some (.vec 22 1 S f) ∧ ∀ j, j < S → k + 1 ≤ j → f j 0 = if ptM x.ms S x.ms.length j = [] then nilS else .sl (pos j) 3 0 (ptM x.ms S x.ms.length j).length none) ∧
    ∃ g', M1 po = some (.vec 26 9 k g') ∧ ∀ M2 nx2, nx1 ≤ nx2 → (∀ q, q < nx1 → q ≠ po → M2 q = (M1 q).map (Reg.kill po)) → M2 po = some (.vec 26 9 (k + 1) fun i j => SV.kill po (joined k 1 g' (fun i j => l[i * 9 + j]?.getD (.r .any)) i j)) →
      ∃ lo hi g, TpJ b M0 x S po (k + 1) M2 nx2 pos lo hi g := by
  have hp0 := h.hp
  have hposA : ∀ j, j < S → k + 1 ≤ j → ptM x.ms S x.ms.length j ≠ [] → pos j ≠ p ∧ b + 2 ≤ pos j ∧ pos j < po := fun j hj hk' hne => by
    have := h.hl j hj (by omega) hne
    exact ⟨hp j hj hk' hne, this.1, this.2.1⟩
  have hb1 : ∃ f, M1 (b + 1) = some (.vec 22 1 S f) ∧ ∀ j, j < S → k + 1 ≤ j → f j 0 = if ptM x.ms S x.ms.length j = [] then nilS else .sl (pos j) 3 0 (ptM x.ms S x.ms.length j).length none := by
    obtain ⟨f, f1, f2⟩ := h.hv
    refine (hM (b + 1) (by omega) (.inl hpb1)).pos1 (pt := ptM x.ms S x.ms.length) (fun j hj hk' hne => ?_) ⟨f, f1, fun j hj hk' => f2 j hj (by omega)⟩
    have := hposA j hj hk' hne
    omega
  refine ⟨hb1, ?_⟩
  have hrow : ∀ i c, i < k → c < 9 → ∃ q n, g i c = .sl q 3 0 n none ∧ po < q ∧ q < nx' := fun i c hi' hc => by
    obtain ⟨a1, a2, a3, l', hl, hl2⟩ := h.pt.at_ i (Nat.zero_le _) hi'
    obtain ⟨q, n, e1, e2, e3⟩ := hl2.cell hc
    exact ⟨q, n, by rw [hl c hc, e1], by omega, by omega⟩
  obtain ⟨g', hg1, hg2⟩ := (hM po hp0.2 (.inr rfl)).rows (fun i c hi' hc => by
    obtain ⟨q, n, e1, e2, e3⟩ := hrow i c hi' hc
    rw [e1]
    refine ⟨fun s hs => ?_, fun s Rf hs => ?_⟩
    · have : ¬ q = s := by omega
      simp [SV.kill, this]
    · have : ¬ q = s := by omega
      simp [SV.fz, this]) h.pt.row
  refine ⟨g', hg1, fun M2 nx2 hn2 hM2 hpo => ?_⟩
  have hK2 : ∀ q, q < nx' → (q ≠ p) → q ≠ po → Kept (fun s => s = p ∨ s = po ∨ nx' ≤ s) (M q) (M2 q) := fun q hq hqp hqo => by
    rw [hM2 q (by omega) hqo]
    exact ((hM q hq (.inl hqp)).mono fun s hs => by omega).kill (.inr (.inl rfl))
  refine ⟨fun i => if i = k then nx' else lo i, fun i => if i = k then nx1 else hi i, _, ⟨⟨hp0.1, by omega⟩, ?_, fun j hj hk' hne => ?_, h.hinj, ⟨⟨h.pt.p1.1, by omega⟩, hpo, fun i _ hi' => ?_, fun i j _ hij hj => ?_⟩, fun q hq => ?_⟩⟩
  · obtain ⟨f, f1, f2⟩ := hb1
    rw [hM2 (b + 1) (by omega) (by omega), f1]
    refine ⟨_, rfl, fun j hj hk' => ?_⟩
    show (f j 0).kill po = _
    rw [f2 j hj hk']
    by_cases e : ptM x.ms S x.ms.length j = []
    · rw [if_pos e]; rfl
    · rw [if_neg e]
      have := hposA j hj hk' e
      have : ¬ pos j = po := by omega
      simp [SV.kill, this]
  · have h1 := hposA j hj hk' hne
    exact ⟨h1.2.1, h1.2.2, (hK2 _ (by omega) h1.1 (by omega)).isMr (h.hl j hj (by omega) hne).2.2⟩
  · by_cases e : i = k
    · subst e
      simp only [if_true]
      refine ⟨by omega, hn1, hn2, l, fun c hc => ?_, ?_⟩
      · show SV.kill po (joined i 1 g' (fun i j => l[i * 9 + j]?.getD (.r .any)) i c) = _
        unfold joined
        rw [if_neg (Nat.lt_irrefl _), if_pos (by omega)]
        simp only [Nat.sub_self, Nat.zero_mul, Nat.zero_add]
        obtain ⟨q, n, e1, e2, e3⟩ := hx.cell hc
        rw [e1]
        have : ¬ q = po := by omega
        simp [SV.kill, this]
      · refine hx.kept (A := (· = po)) (fun q h1 h2 => ?_) fun s hs => by omega
        rw [hM2 q h2 (by omega)]
        exact Kept.refl.kill rfl
    · simp only [e, if_false]
      obtain ⟨a1, a2, a3, l', hl, hl2⟩ := h.pt.at_ i (Nat.zero_le _) (by omega)
      refine ⟨a1, a2, by omega, l', fun c hc => ?_, ?_⟩
      · show SV.kill po (joined k 1 g' (fun i j => l[i * 9 + j]?.getD (.r .any)) i c) = _
        unfold joined
        rw [if_pos (by omega), hg2 i c (by omega) hc]
        obtain ⟨q, n, e1, e2, e3⟩ := hrow i c (by omega) hc
        rw [← hl c hc, e1]
        have : ¬ q = po := by omega
        simp [SV.kill, this]
      · exact hl2.kept (fun q h1 h2 => hK2 q (by omega) (by omega) (by omega)) fun s hs => by omega
  · by_cases e : j = k
    · subst e
      have e2 : ¬ i = j := by omega
      simp only [e2, if_true, if_false]
      exact (h.pt.at_ i (Nat.zero_le _) (by omega)).2.2.1
    · have e2 : ¬ i = k := by omega
      simp only [e, e2, if_false]
      exact h.pt.dis i j (Nat.zero_le _) hij (by omega)
  · rw [hM2 q (by omega) (by omega)]
    have h1 : Kept (b ≤ ·) (M q) (M1 q) := (hM q (by omega) (.inl (by omega))).mono fun s hs => by omega
    exact ((h.kp q hq).trans h1).kill (by omega)
theorem callK_rle {P : Program} {np nx : Nat} {f : FuncId} {M : Mem} {K : SV → Mem → Nat → (SV → SV) → Prop} {x y : RV} (h : RLe x y) (hc : CallK P np f [.r y] M nx K) : CallK P np f [.r x] M nx K := by
  intro B W n0 σ w vs hm hn hl ha
  obtain ⟨v, vs', rfl, h1, h2⟩ := ha
  exact hc _ _ _ _ _ _ hm hn hl ⟨v, vs', rfl, h _ _ _ h1, h2⟩
/-- What a caller of Split may lean on. -/
def XPs (K : SV → Mem → Nat → (SV → SV) → Prop) (M : Mem) (nx : Nat) (E : Int) (n : Nat) (F : Nat → IxG) : Prop :=
  ∀ S M' nx', nx ≤ nx' → (if E = 0 then ∃ po lo hi g, S = .sl po 9 0 n none ∧ PtO nx M' nx' po 0 n F lo hi g else S = nilS) → (∀ q, q < nx → Kept (nx ≤ ·) (M q) (M' q)) → K (.tup [S, .i E]) M' nx' (SV.trim nx)
theorem split30K (x : IxG) (h : x.Sm) (shards : Int) {np b : Nat} {M0 : Mem} {K : SV → Mem → Nat → (SV → SV) → Prop} (hnp : np ≤ b) (hK : XPs K M0 b (spE x shards) shards.toNat fun i => ofG (ptM x.ms shards.toNat x.ms.length i)) : CallK Try.prog np 30 [x.sv, .i shards] M0 b K := by
  obtain ⟨e, he⟩ : ∃ e, spE x shards = e := ⟨_, rfl⟩
  rw [he] at hK
  refine callK_in T_ok Try.func30 rfl (by kernel_rfl) (Nat.le_of_ble_eq_true rfl) rfl rfl b hnp (Nat.le_refl _) ?_
  have hc := check19 x h
  simp [go_sem, sv_ixC] at hc ⊢
  refine call_val hc rfl rfl ?_
  cases hv : validX x
  · have e1 : e = 40 := by rw [← he, spE, if_pos hv]
    subst e1
    simp [go_sem, checkE, hv]
    exact hK nilS _ _ (by omega) (by rw [if_neg (by decide)]) fun q hq => by (try simp only [upd_app]); repeat (first | rw [if_neg (by omega)] | exact Kept.refl)
  simp [go_sem, checkE, hv]
  by_cases hs1 : shards < 1
  · have e1 : e = 2 := by rw [← he, spE, if_neg (by rw [hv]; simp), if_pos (.inl hs1)]
    subst e1
    rw [if_neg (by omega)]
    exact hK nilS _ _ (by omega) (by rw [if_neg (by decide)]) fun q hq => by (try simp only [upd_app]); repeat (first | rw [if_neg (by omega)] | exact Kept.refl)
  by_cases hs2 : 16 < shards
  · have e1 : e = 2 := by rw [← he, spE, if_neg (by rw [hv]; simp), if_pos (.inr hs2)]
    subst e1
    rw [if_pos (by omega), if_pos hs2]
    exact hK nilS _ _ (by omega) (by rw [if_neg (by decide)]) fun q hq => by (try simp only [upd_app]); repeat (first | rw [if_neg (by omega)] | exact Kept.refl)
  have e1 : e = 0 := by rw [← he, spE, if_neg (by rw [hv]; simp), if_neg (by omega)]
  subst e1
  obtain ⟨S, rfl⟩ : ∃ S : Nat, shards = S := ⟨shards.toNat, by omega⟩
  rw [Int.toNat_natCast] at hK
  obtain ⟨v1, v2, v3⟩ := valid_eq hv
  have hlen := v1.len
  simp [go_sem, hs1, hs2]
  rw [if_pos (by omega)]
  refine ⟨by omega, ?_⟩
  refine GLoop_p T_ok (α := Nat) (fun k => [(1, .i S), (2, .ptr b 0 9 0), (4, nilS), (5, .i 0), (7, .sl (b + 1) 1 0 S none), (28, mrs x.ms), (29, .i x.ms.length), (30, .i k)])
    (fun k M nx => k ≤ x.ms.length ∧ ∃ pos, SpJ b M0 x S k M nx pos) (fun k => x.ms.length - k) 0 ?_ (by simp [go_sem]) ?_
  · refine ⟨Nat.zero_le _, fun _ => 0, ⟨by simp [go_sem], Nat.le_refl _, ⟨_, by simp [go_sem]; rfl, fun j hj => by rw [ptM_zero]; rfl⟩, fun j _ hne => absurd (ptM_zero ..) hne, fun i _ _ _ hne => absurd (ptM_zero ..) hne, fun q hq => by simp only [upd_app]; repeat (first | rw [if_neg (by omega)] | exact Kept.refl)⟩⟩
  rintro k J M nx hN ⟨hk, pos, hI⟩
  by_cases hkl : k < x.ms.length
  · have r0 := mrow hkl 0
    have r1 := mrow hkl 1
    have r2 := mrow hkl 2
    have hok := v1.num _ (List.getElem_mem hkl)
    have hss := fun i => ptM_succ x.ms S i hkl
    generalize x.ms[k] = a at *
    have hid : 0 ≤ a.id ∧ a.id ≤ 1073741824 := by simpa [okN, btw] using hok
    obtain ⟨j, hj⟩ : ∃ j : Nat, a.id.tmod S = j := ⟨(a.id.tmod S).toNat, by have := Int.tmod_nonneg (S : Int) hid.1; omega⟩
    have hjS : j < S := by
      have := Int.tmod_lt_of_pos a.id (b := S) (by omega)
      omega
    have hs : ∀ i, ptM x.ms S (k + 1) i = ptM x.ms S k i ++ if i = j then [a] else [] := fun i => by
      rw [hss i, hj]
      by_cases h : i = j
      · subst h; simp
      · rw [if_neg h, if_neg (by omega)]
    have hm0 := hI.h0
    have hnx := hI.hn
    obtain ⟨f, hm1, hf⟩ := hI.hv
    have hfj := hf j hjS
    have hlk := ptM_len x.ms S k j
    have n0 : ¬ b = nx := by omega
    have n1 : ¬ b + 1 = nx := by omega
    have n0' : ¬ nx = b := by omega
    have n1' : ¬ nx = b + 1 := by omega
    have hS0 : ¬ (S : Int) = 0 := by omega
    have hS0' : ¬ S = 0 := by omega
    simp [go_sem, hkl, r0, r1, r2, n0, n1, n0', n1', hm0, hm1, hj, hS0, hS0']
    have nn01 : ¬ nx = nx + 1 := by omega
    have nn02 : ¬ nx = nx + 1 + 1 := by omega
    have nn10 : ¬ nx + 1 = nx := by omega
    have nn12 : ¬ nx + 1 = nx + 1 + 1 := by omega
    have nn20 : ¬ nx + 1 + 1 = nx := by omega
    have nn21 : ¬ nx + 1 + 1 = nx + 1 := by omega
    have m01 : ¬ b = nx + 1 := by omega
    have m02 : ¬ b = nx + 1 + 1 := by omega
    have m11 : ¬ b + 1 = nx + 1 := by omega
    have m12 : ¬ b + 1 = nx + 1 + 1 := by omega
    have m01' : ¬ nx + 1 = b := by omega
    have m02' : ¬ nx + 1 + 1 = b := by omega
    have m11' : ¬ nx + 1 = b + 1 := by omega
    have m12' : ¬ nx + 1 + 1 = b + 1 := by omega
    refine GDraw_l (t := (.take 0 (.take 1 (.take 2 (.take 3 (.take 4 (.take 5 (.take 6 (.alt 7 [6, 5, 4, 3, 2, 1, 0] (.alt 8 [5, 4, 3, 2, 1, 0] (.take 9 (.alt 10 [9, 4, 3, 2, 1, 0] (.done []) .nil)) .nil) .nil))))))))) T_ok (by kernel_rfl) (by kernel_rfl) (by kernel_rfl) (fun _ _ _ _ h => h) ?_
    by_cases hL : ptM x.ms S k j = []
    · rw [if_pos hL] at hfj
      simp [go_sem, hm0, hm1, hfj, n0, n1, n0', n1', hjS, nn01, nn02, nn10, nn12, nn20, nn21, m01, m02, m11, m12, m01', m02', m11', m12']
      refine ⟨by omega, k + 1, by omega, by omega, by omega, _, hI.grow (r := nx + 1 + 1) (a := a) hjS hs ?_ (by omega) (upd_same ..) ?_ ?_ (by omega) (fun q hq => (hI.kp q hq).trans (by simp only [upd_app, killM, fzM]; repeat (first | rw [if_neg (by omega)] | exact Kept.refl | refine Kept.kill ?_ (by omega) | refine Kept.fz _ ?_ (by omega)))) ?_ ?_⟩
      · simp [go_sem, n0, n1, n0', n1', nn01, nn02, nn10, nn12, nn20, nn21, m01, m02, m11, m12, m01', m02', m11', m12', hm0]
      · simp [hL]
      · intro i hi hne
        simp only [hne, false_and, if_false]
        exact hf i hi
      · rw [hL]
        exact ⟨_, by simp [go_sem, n0, n1, n0', n1', nn01, nn02, nn10, nn12, nn20, nn21, m01, m02, m11, m12, m01', m02', m11', m12'], fun i j hi hj => mone a i j hi hj⟩
      · intro i hi hne hnn
        obtain ⟨u1, u2, u3⟩ := hI.hl i hi hnn
        have w1 : ¬ pos i = b + 1 := by omega
        have w2 : ¬ pos i = nx := by omega
        have w3 : ¬ pos i = nx + 1 := by omega
        have w4 : ¬ pos i = nx + 1 + 1 := by omega
        refine ⟨w4, ?_⟩
        simpa [go_sem, w1, w2, w3, w4] using u3
    · rw [if_neg hL] at hfj
      obtain ⟨p2, pn, g, hg, hgg⟩ := hI.hl j hjS hL
      generalize hp : pos j = p at *
      have p0 : ¬ b = p := by omega
      have p0' : ¬ p = b := by omega
      have p1 : ¬ b + 1 = p := by omega
      have p1' : ¬ p = b + 1 := by omega
      have q0 : ¬ nx = p := by omega
      have q0' : ¬ p = nx := by omega
      have q1 : ¬ nx + 1 = p := by omega
      have q1' : ¬ p = nx + 1 := by omega
      simp [go_sem, hm0, hm1, hfj, hg, n0, n1, n0', n1', hjS, nn01, nn02, nn10, nn12, nn20, nn21, m01, m02, m11, m12, m01', m02', m11', m12', p0, p0', p1, p1', q0, q0', q1, q1']
      refine ⟨by omega, by omega, by omega, k + 1, by omega, by omega, by omega, _, hI.grow (r := p) (a := a) hjS hs ?_ (by omega) (upd_same ..) ?_ ?_ (by omega) (fun q hq => (hI.kp q hq).trans (by simp only [upd_app, killM, fzM]; repeat (first | rw [if_neg (by omega)] | exact Kept.refl | refine Kept.kill ?_ (by omega) | refine Kept.fz _ ?_ (by omega)))) ?_ ?_⟩
      · simp [go_sem, n0, n1, n0', n1', nn01, nn02, nn10, nn12, nn20, nn21, m01, m02, m11, m12, m01', m02', m11', m12', p0, p0', p1, p1', q0, q0', q1, q1', hm0, killM, Reg.kill, SV.kill, SV.killL]
      · simp
      · intro i hi hne
        simp only [hne, false_and, if_false]
        rw [hf i hi]
        by_cases hnn : ptM x.ms S k i = []
        · rw [if_pos hnn]; rfl
        · rw [if_neg hnn]
          have : ¬ pos i = p := fun e => hne (hI.hi i j hi hjS hnn hL (by omega))
          simp [SV.kill, this]
      · refine ⟨_, by simp [go_sem, n0, n1, n0', n1', nn01, nn02, nn10, nn12, nn20, nn21, m01, m02, m11, m12, m01', m02', m11', m12', p0, p0', p1, p1', q0, q0', q1, q1'], fun i j hi hj => mjoin p _ a g hgg i j (by simpa using hi) hj⟩
      · intro i hi hne hnn
        obtain ⟨u1, u2, u3⟩ := hI.hl i hi hnn
        have w0 : ¬ pos i = p := fun e => hne (hI.hi i j hi hjS hnn hL (by omega))
        have w1 : ¬ pos i = b + 1 := by omega
        have w2 : ¬ pos i = nx := by omega
        have w3 : ¬ pos i = nx + 1 := by omega
        refine ⟨w0, ?_⟩
        have := isMr_kill p u3
        simpa [go_sem, killM, w0, w1, w2, w3] using this
  · have hke : k = x.ms.length := by omega
    subst hke
    simp [go_sem]
    have hm1 := hI.hv
    have hnx := hI.hn
    refine GLoop_pre (GSt.adopt 11 26 9 (fun i c => .r .any) (by rfl)) ?_
    refine GLoop_p T_ok (α := Nat) (fun k => [(4, nilS), (5, .i 0), (11, .sl nx 9 0 k none), (49, .sl (b + 1) 1 0 S none), (50, .i S), (51, .i k)])
      (fun k M nx' => k ≤ S ∧ ∃ lo hi g, TpJ b M0 x S nx k M nx' pos lo hi g) (fun k => S - k) 0 ?_ (by simp [go_sem]) ?_
    · obtain ⟨f, hm1, hf⟩ := hm1
      have n1 : ¬ b + 1 = nx := by omega
      refine ⟨Nat.zero_le _, fun _ => 0, fun _ => 0, _, ⟨⟨hnx, by omega⟩, ⟨f, by simp [go_sem, n1, hm1], fun j hj _ => hf j hj⟩, fun j hj _ hne => ?_, hI.hi, ⟨⟨hnx, by omega⟩, upd_same .., fun i _ hi => absurd hi (Nat.not_lt_zero _), fun i j _ _ hj => absurd hj (Nat.not_lt_zero _)⟩, fun q hq => by rw [upd_ne _ _ (by omega)]; exact hI.kp q hq⟩⟩
      obtain ⟨q1, q2, q3⟩ := hI.hl j hj hne
      exact ⟨q1, q2, by rw [upd_ne _ _ (by omega)]; exact q3⟩
    clear hm1
    rintro k J M' nx' hN' ⟨hkS, lo, hi, g, hT⟩
    have hmo := hT.pt.row
    obtain ⟨po2, ponx⟩ := hT.hp
    have n1 : ¬ b + 1 = nx := by omega
    have n1' : ¬ nx = b + 1 := by omega
    by_cases hkl : k < S
    · obtain ⟨f, hm1, hf⟩ := hT.hv
      have hfk := hf k hkl (Nat.le_refl _)
      have hlk := ptM_len x.ms S x.ms.length k
      have hst := fun M1 nx1 p l => hT.step (M1 := M1) (nx1 := nx1) (p := p) (l := l) hkl
      have hlp := hT.hl k hkl (Nat.le_refl _)
      have hinj := fun j hj hne => hT.hinj j k hj hkl hne
      obtain ⟨L, hL⟩ : ∃ L, ptM x.ms S x.ms.length k = L := ⟨_, rfl⟩
      rw [hL] at hfk hlk hst hlp hinj
      simp [go_sem, hkl, hm1, hfk]
      by_cases hL0 : L = []
      · rw [if_pos hL0]
        subst hL0
        refine callK_rle (nil_rs 3 (mrows [])) (of52K [] (by simp) (by omega) ?_)
        intro S1 M1 nx1 g1 g2 g3
        obtain ⟨rm, r, ps, rfl, q1, q2, q3, q4⟩ := g2.ex
        obtain ⟨t1, g', t2, t3⟩ := hst M1 nx1 nx _ ⟨by omega, Nat.le_refl _⟩ n1 (fun j hj hk' hne => by have := (hT.hl j hj (by omega) hne).2.1; omega) g1 g2 fun q hq _ => (g3 q hq).mono fun s hs => .inr hs
        obtain ⟨f', t4, t5⟩ := t1
        have v1 : ¬ nx = nx1 := by omega
        have v2 : ¬ b + 1 = nx1 := by omega
        have v3 : ¬ nx1 = nx := by omega
        have v4 : nx < nx' := by omega
        have v5 : b + 1 < nx' := by omega
        rw [bxL_eq]
        simp [go_sem, t2, t4, v1, v2, v3, v4, v5, n1, n1']
        exact ⟨by omega, by omega, by omega, k + 1, by omega, ⟨rfl, by omega⟩, by omega, t3 _ (nx1 + 1) (by omega) (fun q hq hne => by rw [upd_ne _ _ hne]; simp only [killM]; rw [upd_ne _ _ (by omega)]) (upd_same ..)⟩
      · rw [if_neg hL0]
        obtain ⟨p2, pn, gg, hgg, hg3⟩ := hlp hL0
        refine callK_freeze (pos k) hgg ?_
        have hinj2 := fun j hj hne e => hinj j hj hne hL0 e
        generalize hp : pos k = p at *
        simp [go_sem]
        refine callK_rle (rle_rs fun i j hi hj => RLe_eq (by rw [hg3 i j hi hj]; rfl)) (of52K L (by omega) (by omega) ?_)
        intro S1 M1 nx1 g1 g2 g3
        obtain ⟨rm, r, ps, rfl, q1, q2, q3, q4⟩ := g2.ex
        obtain ⟨t1, g', t2, t3⟩ := hst M1 nx1 p _ ⟨by omega, by omega⟩ (by omega) (fun j hj hk' hne e => by have := hinj2 j hj hne e; omega) g1 g2 fun q hq hqp => by
          have h1 := g3 q hq
          simp only [fzM] at h1
          rw [if_neg (by omega)] at h1
          exact (Kept.refl.fz _ (.inl ⟨rfl, by omega⟩)).trans (h1.mono fun s hs => .inr hs)
        obtain ⟨f', t4, t5⟩ := t1
        have v1 : ¬ nx = nx1 := by omega
        have v2 : ¬ b + 1 = nx1 := by omega
        have v3 : ¬ nx1 = nx := by omega
        have v4 : nx < nx' := by omega
        have v5 : b + 1 < nx' := by omega
        have v6 : ¬ nx = p := by omega
        have v7 : ¬ b + 1 = p := by omega
        rw [bxL_eq]
        simp [go_sem, t2, t4, v1, v2, v3, v4, v5, v6, v7, n1, n1']
        exact ⟨by omega, by omega, by omega, k + 1, by omega, ⟨rfl, by omega⟩, by omega, t3 _ (nx1 + 1) (by omega) (fun q hq hne => by rw [upd_ne _ _ hne]; simp only [killM]; rw [upd_ne _ _ (by omega)]) (upd_same ..)⟩
    · have hke : k = S := by omega
      subst hke
      simp [go_sem, hmo]
      exact hK _ _ nx' (by omega) (by rw [if_pos rfl]; exact ⟨nx, lo, hi, g, rfl, ⟨⟨by omega, ponx⟩, hT.pt.row, hT.pt.at_, hT.pt.dis⟩⟩) hT.kp
end Go.Gx.Ix
