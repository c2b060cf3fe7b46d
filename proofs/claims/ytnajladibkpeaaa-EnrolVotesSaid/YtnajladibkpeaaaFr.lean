/-
  spoil at a call: a register's memory is given up.
-/
import Derived.Test.YtnajladibkpeaaaFp
set_option linter.unusedVariables false
set_option linter.unusedSimpArgs false
set_option maxRecDepth 20000
set_option maxHeartbeats 4000000
namespace Go.Gx
open Go.RowKit Go.Proofs Go.Proofs.Ytnajladibkpeaaa

theorem atM_of {M : Mem} {ρ : Nat → Nat} : ∀ {l : List Nat} {Rs : List Reg}, l.length = Rs.length → (∀ (i q : Nat) (R : Reg), l[i]? = some q → Rs[i]? = some R → M q = some (R.ren ρ)) → atM M ρ l Rs
  | [], [], _, _ => trivial
  | q :: l, R :: Rs, hl, h => ⟨h 0 q R rfl rfl, atM_of (by simpa using hl) fun i q' R' h1 h2 => h (i + 1) q' R' (by simpa using h1) (by simpa using h2)⟩
  | [], _ :: _, hl, _ => by simp at hl
  | _ :: _, [], hl, _ => by simp at hl
theorem RcG.c_one (x : RcG) (ρ : Nat → Nat) (j : Nat) : ((SV.r (x.c j)).ren ρ) = .r (x.c j) := rfl
theorem spoilK (x : EG) (hx : x.Sm) {M : Mem} {nx p : Nat} {K : SV → Mem → Nat → (SV → SV) → Prop} (h1 : M p = some x.vr) (h2 : M (p + 1) = some x.vl) (h3 : M (p + 2) = some (.vec 93 3 x.nc (x.oc (p + 3))))
    (hf : ∀ i, i < x.nc → M (i + (p + 3)) = some (x.ov i)) (hK : ∀ M2, (∀ r, r < p ∨ x.nc + 3 + p ≤ r → M2 r = M r) → K (.tup []) M2 nx id) :
    CallK Try.prog 0 34 [.agg [.sl p 2 0 x.nr none, .sl (p + 1) 3 0 x.nl none, .sl (p + 2) 3 0 x.nc none]] M nx K := by
  have hr := hx.nr
  have hl := hx.nl
  have hc := hx.nc
  let rl : List Nat := (List.range (x.nc + 3)).map fun i => i + p
  let ρ : Nat → Nat := fun i => (rl[i]?).getD nx
  let Rs : List Reg := spR x.nr x.nl x.nc fun i => (x.c i).nv
  let W : Mem := fun r => if p ≤ r ∧ r < x.nc + 3 + p then (Rs[r - p]?).map (Reg.ren ρ) else M r
  have hρ : ∀ i, i < x.nc + 3 → ρ i = i + p := fun i hi => by
    show ((rl[i]?).getD nx) = _
    simp [rl, hi]
  have hlen : Rs.length = x.nc + 3 := by simp [Rs]
  refine callK_wk (M' := W) (fun r => ?_) (callK_own rl (spoil34 x.nr x.nl x.nc (fun i => (x.c i).nv) (by omega) (by omega) (by omega) fun i hi => by have := hx.nv i hi; omega) ?_ ?_ (atM_of ?_ fun i q R e1 e2 => ?_) (hK _ fun r hr => ?_))
  · show Reg.wk (M r) (if p ≤ r ∧ r < x.nc + 3 + p then (Rs[r - p]?).map (Reg.ren ρ) else M r)
    split
    · rename_i hh
      by_cases e0 : r = p
      · subst e0
        rw [h1]
        simp only [Nat.sub_self]
        exact Reg.wk_vec (Nat.le_refl _) fun i j _ _ => SV.sub_any ⟨_, rfl⟩
      by_cases e1 : r = p + 1
      · subst e1
        rw [h2, show p + 1 - p = 1 by omega]
        exact Reg.wk_vec (Nat.le_refl _) fun i j _ _ => SV.sub_any ⟨_, rfl⟩
      by_cases e2 : r = p + 2
      · subst e2
        rw [h3, show p + 2 - p = 2 by omega]
        refine Reg.wk_vec (Nat.le_refl _) fun i j hi hj => ?_
        rcases (by omega : j = 0 ∨ j = 1 ∨ j = 2) with rfl | rfl | rfl
        · exact SV.sub_any ⟨_, rfl⟩
        · exact SV.sub_any ⟨_, rfl⟩
        · simp only [EG.oc_2, spC_2, SV.ren]
          rw [hρ (i + 3) (by omega), show i + 3 + p = i + (p + 3) by omega]
          simp [SV.sub]
      · have e : r = (r - p - 3) + (p + 3) := by omega
        rw [e, hf _ (by omega)]
        have : Rs[r - p - 3 + (p + 3) - p]? = some (.vec 119 2 (x.c (r - p - 3)).nv anyC) := by
          rw [show r - p - 3 + (p + 3) - p = (r - p - 3) + 3 by omega]
          simp [Rs, show r - p - 3 < x.nc by omega]
        rw [this]
        exact Reg.wk_vec (Nat.le_refl _) fun i j _ _ => SV.sub_any ⟨_, rfl⟩
    · exact .inl (Reg.sub_rfl _)
  · exact (List.nodup_range).map _ fun a b h e => h (by omega)
  · have a0 := hρ 0 (by omega)
    have a1 := hρ 1 (by omega)
    have a2 := hρ 2 (by omega)
    show _ = [SV.agg [.sl (ρ 0) _ _ _ _, .sl (ρ 1) _ _ _ _, .sl (ρ 2) _ _ _ _]]
    rw [a0, a1, a2, Nat.zero_add, Nat.add_comm 1, Nat.add_comm 2]
  · rw [show (spR x.nr x.nl x.nc fun i => (x.c i).nv).length = x.nc + 3 from hlen]; simp [rl]
  · have hi : i < x.nc + 3 := by
      have := List.getElem?_eq_some_iff.1 e2
      obtain ⟨h, _⟩ := this
      have h : i < Rs.length := h
      omega
    have : q = i + p := by simp [rl, hi] at e1; omega
    subst this
    show (if p ≤ i + p ∧ i + p < x.nc + 3 + p then (Rs[i + p - p]?).map (Reg.ren ρ) else M (i + p)) = _
    rw [if_pos (by omega), show i + p - p = i by omega, show Rs[i]? = some R from e2]
    rfl
  · simp only [addS, dropM_at]
    rw [if_neg (by simp [rl]; omega)]
    show (if p ≤ r ∧ r < x.nc + 3 + p then (Rs[r - p]?).map (Reg.ren ρ) else M r) = M r
    rw [if_neg (by omega)]
end Go.Gx
