/-
  The program's Why: going through the links of a record.
-/
import Derived.Test.YtnajladibkpeaaaEx
set_option linter.unusedVariables false
set_option linter.unusedSimpArgs false
set_option maxRecDepth 20000
set_option maxHeartbeats 4000000
namespace Go.Gx
open Go.RowKit Go.Proofs Go.Proofs.Ytnajladibkpeaaa

/-- Link j touches record a; the other record of it. -/
def EG.tch (g : EG) (a : Int) (j : Nat) : Bool := (g.l j).s && (decide ((g.l j).a = a) || decide ((g.l j).b = a))
def EG.ot (g : EG) (a : Int) (j : Nat) : Nat := ((g.l j).a + (g.l j).b - a).toNat
theorem EG.ot_eq {g : EG} (hl : g.inl) {a : Int} {j : Nat} (hj : j < g.nl) (h : g.tch a j = true) : ((g.ot a j : Nat) : Int) = (g.l j).a + (g.l j).b - a := by
  obtain ⟨q1, q2, q3, q4⟩ := hl j hj
  simp only [EG.tch, Bool.and_eq_true, Bool.or_eq_true, decide_eq_true_eq] at h
  unfold EG.ot
  omega
inductive BF.sts (g : EG) (a c : Int) : Nat → BF → BF → Prop
  | zero (s : BF) : BF.sts g a c 0 s s
  | skip {k : Nat} {s t : BF} : BF.sts g a c k s t → g.tch a k = false → BF.sts g a c (k + 1) s t
  | go {k : Nat} {s t u : BF} : BF.sts g a c k s t → g.tch a k = true → BF.st c (g.ot a k) t u → BF.sts g a c (k + 1) s u
theorem BF.sts_bd {g : EG} {a c : Int} {k : Nat} {s t : BF} (h : BF.sts g a c k s t) (hc : s.h c = true) (hlo : s.lo ≤ s.L.length) : t.h c = true ∧ t.v c = s.v c ∧ t.lo ≤ t.L.length ∧ t.L.length ≤ s.L.length + k := by
  induction h with
  | zero => exact ⟨hc, rfl, hlo, by omega⟩
  | skip _ _ ih => obtain ⟨h1, h2, h3, h4⟩ := ih hc hlo; exact ⟨h1, h2, h3, by omega⟩
  | go _ _ hs ih =>
    obtain ⟨h1, h2, h3, h4⟩ := ih hc hlo
    refine ⟨by rw [hs.h, h1]; rfl, by rw [hs.v _ h1]; exact h2, hs.lo, ?_⟩
    have := hs.len
    split at this <;> omega
theorem next54a (g : EG) (h : g.OK) (hl : g.inl) (a c : Int) (ha : 0 ≤ a ∧ a < g.nr) (C D : Nat → Nat → RV) (hC : C 0 0 = .rp 4 1 D 0 0) (hD : D 0 1 = .rs 3 g.nl fun i j => (g.l i).c j)
    (s : BF) (hc : s.h c = true) (hv : 0 ≤ s.v c ∧ s.v c ≤ 1000000000) (hlo : s.lo ≤ s.L.length) (hL : s.L.length ≤ 1000) (hnl : g.nl ≤ 1000) :
    OwnX Try.prog 4 54 (s.Rs c) [.i a, .fn (.func 55) [] [.ptr 0 0 1 0, .ptr 2 0 1 0, .ptr 3 0 1 0], .r (.rp 1 1 C 0 0)] fun S Rs' => S = .tup [] ∧ ∃ t, BF.sts g a c g.nl s t ∧ Rs' = BF.Rs t c := by
  refine ownX_of_GC T_ok Try.func54 rfl (by kernel_rfl) (Nat.le_of_ble_eq_true rfl) rfl rfl 4 (by simp) ?_
  have := h.nr
  simp [go_sem, hC, hD]
  refine GLoop_fit T_ok (α := Nat × BF) (fun x => [(0, .i a), (1, .fn (.func 55) [] [.ptr 0 0 1 0, .ptr 2 0 1 0, .ptr 3 0 1 0]), (2, .r (.rp 1 1 C 0 0)), (11, g.ll), (12, .i g.nl), (13, .i x.1)]) (fun x => memL [some (.box [.mp 1]), some (.map x.2.h (fun a => .i (x.2.v a)) none), some (.box [.i c]), some (.box [.sl 4 1 x.2.lo (x.2.L.length - x.2.lo) none]), some (.vec 3 1 x.2.L.length (ints x.2.L))]) 5
    (fun x => x.1 ≤ g.nl ∧ BF.sts g a c x.1 s x.2) (fun x => g.nl - x.1) (0, s) ⟨by simp, .zero s⟩ ?_ ?_
  · exact Fit.of_regs (by decide) rfl (by simp [go_sem]) (by simp [go_sem])
  rintro ⟨k, t⟩ J ⟨hk, hs⟩
  dsimp only at hk hs
  obtain ⟨b1, b2, b3, b4⟩ := BF.sts_bd hs hc hlo
  by_cases hlt : k < g.nl
  rotate_left
  · have e : k = g.nl := by omega
    subst e
    simp [go_sem]
    exact gxe.mk _ (BF.Rs t c) [0, 1, 2, 3, 4] ⟨rfl, t, hs, rfl⟩ (by simp [keepsL]) (by simp) (fun N => by simp [go_sem]) (fun N => by simp [go_sem])
  have skp : g.tch a k = false → BF.sts g a c (k + 1) s t := fun hf => .skip hs hf
  obtain ⟨q1, q2, q3, q4⟩ := hl k hlt
  by_cases hsm : (g.l k).s = true
  rotate_left
  · have hs' : (g.l k).s = false := by simpa using hsm
    simp [go_sem, hlt, hs']
    exact ⟨by omega, k + 1, t, ⟨by omega, skp (by simp [EG.tch, hs'])⟩, by omega, Fit.of_regs (by decide) rfl (by simp [go_sem]) (by simp [go_sem])⟩
  by_cases hA : (g.l k).a = a
  · have ht : g.tch a k = true := by simp [EG.tch, hsm, hA]
    have ho := EG.ot_eq hl hlt ht
    rw [hA] at ho
    simp [go_sem, hlt, hsm, hA]
    refine ⟨by omega, by omega, ?_⟩
    refine callK_ownX [0, 1, 2, 3, 4] (cl55 t c (g.ot a k) b1 (by omega) b3 (by omega)) (by simp) (by simp) (by simp [go_sem, ho]) (by simp [go_sem]) ?_
    rintro S Rs' ⟨rfl, u, hu, rfl⟩
    simp [go_sem]
    exact ⟨by omega, k + 1, u, ⟨by omega, .go hs ht hu⟩, by omega, Fit.vw (GSt.move 10 4 (by decide) (by decide) (by decide) (by decide)) (Fit.of_regs (by decide) rfl (by simp [go_sem]) (by simp [go_sem]))⟩
  by_cases hB : (g.l k).b = a
  · have ht : g.tch a k = true := by simp [EG.tch, hsm, hB]
    have ho := EG.ot_eq hl hlt ht
    rw [hB] at ho
    simp [go_sem, hlt, hsm, hA, hB]
    refine ⟨by omega, by omega, ?_⟩
    refine callK_ownX [0, 1, 2, 3, 4] (cl55 t c (g.ot a k) b1 (by omega) b3 (by omega)) (by simp) (by simp) (by simp [go_sem, ho]) (by simp [go_sem]) ?_
    rintro S Rs' ⟨rfl, u, hu, rfl⟩
    simp [go_sem]
    exact ⟨by omega, k + 1, u, ⟨by omega, .go hs ht hu⟩, by omega, Fit.vw (GSt.move 10 4 (by decide) (by decide) (by decide) (by decide)) (Fit.of_regs (by decide) rfl (by simp [go_sem]) (by simp [go_sem]))⟩
  · simp [go_sem, hlt, hsm, hA, hB]
    exact ⟨by omega, k + 1, t, ⟨by omega, skp (by simp [EG.tch, hA, hB])⟩, by omega, Fit.of_regs (by decide) rfl (by simp [go_sem]) (by simp [go_sem])⟩
end Go.Gx
