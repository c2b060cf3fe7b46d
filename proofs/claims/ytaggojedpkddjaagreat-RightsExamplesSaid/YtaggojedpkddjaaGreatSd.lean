/-
  slices.Delete, rights.Revoke, and the law RightsLess.
-/
import Derived.Test.YtaggojedpkddjaaGreatRq
import Derived.Test.YtaggojedpkddjaaGreatSc
set_option linter.unusedVariables false
set_option linter.unusedSimpArgs false
set_option maxRecDepth 20000
set_option maxHeartbeats 2000000
namespace Go.Gx.Rg
open Go.RowKit Go.Proofs Go.Proofs.YtaggojedpkddjaaGreat

theorem delete90 (n i : Nat) (hn : n ≤ 1000000) (hi : i < n) (get : Nat → Nat → RV) :
    Own Tryz.prog 32 [.vec 49 3 n fun i j => .r (get i j)] [.sl 0 3 0 n none, .i i, .i ((i : Int) + 1)] (.sl 0 3 0 (n - 1) none) [.vec 49 3 (n - 1) fun r c => .r (if r < i then get r c else get (r + 1) c)] := by
  refine own_of_GC T_ok Tryz.func32 rfl (by kernel_rfl) (Nat.le_of_ble_eq_true rfl) rfl rfl ?_
  simp [go_sem]
  refine ⟨by omega, ?_⟩
  split
  · omega
  refine GDraw_of T_ok (by kernel_rfl) 6 (by kernel_rfl) rfl rfl ?_
  simp [go_sem]
  have e1 : i + (n - (i + 1)) = n - 1 := by omega
  refine ⟨by omega, ⟨by omega, by omega⟩, ⟨by omega, by omega, by omega, by omega⟩, ⟨by omega, by omega, by omega⟩, by omega, [0], by simp, fun N => ⟨?_, ?_⟩⟩
  · simp [go_sem, e1]
  · simp [go_sem]
    refine ⟨by omega, fun r c hr hc => ?_⟩
    rw [if_neg (by omega)]
    unfold joined
    by_cases h : r < i
    · simp [h, SV.kill]
    · rw [if_neg h, if_pos (by omega), if_neg h]
      show SV.r (get (i + 1 + (r - i)) c) = _
      rw [show i + 1 + (r - i) = r + 1 from by omega]

/-- Where a person and a purpose would be among the consents. -/
def RG.cmC (g : RG) (p q : Int) (i : Nat) : Int := lex (cmpI (g.c i).p p) (cmpI (g.c i).q q)
theorem RG.cmC_mono {g : RG} (h : g.c5 = true) (l p : Int) : ∀ a b, a < b → b < g.nc → g.cmC l p b < 0 → g.cmC l p a < 0 := by
  intro a b hab hb hc
  have := RG.sortC h hab hb
  simp only [RG.cmC, lex_lt, ConG.ltP] at *
  omega
def RG.rvE (g : RG) (p q : Int) : Int := if g.valid then (if fnd (g.cmC p q) g.nc then 0 else 6) else 8
def RG.drop (g : RG) (i : Nat) : RG := { g with nc := g.nc - 1, c := fun r => if r < i then g.c r else g.c (r + 1) }
def RG.revoke (g : RG) (p q : Int) : RG := g.drop (bnd (g.cmC p q) g.nc)
theorem revoke36 (g : RG) (p q : Int) (h : g.OK) : Pure Tryz.prog 12 [g.sv, .i p, .i q] (· = .tup [(if g.rvE p q = 0 then g.revoke p q else RG.nil).sv, .i (g.rvE p q)]) := by
  refine Pure.ofSub ?_
  refine pure_of_GC T_ok Tryz.func12 rfl (by kernel_rfl) (Nat.le_of_ble_eq_true rfl) rfl rfl ?_
  simp [go_sem]
  refine call_val (check28 g h) rfl rfl ?_
  by_cases hv : g.valid = true
  rotate_left
  · have ha : g.rvE p q = 8 := by unfold RG.rvE; rw [if_neg hv]
    simp [go_sem, hv, ha, RG.nil]
  have hl := RG.lim hv
  simp [go_sem, hv]
  refine callK_own [] (copied49 g (by omega) (by omega) (by omega) (by omega)) (by simp) rfl trivial ?_
  simp [go_sem]
  refine call_lent (v := .tup [.i (bnd (g.cmC p q) g.nc : Nat), .b (fnd (g.cmC p q) g.nc)]) (by
    simp [go_sem]
    exact search89 g.nc (by omega) _ p q 0 (30 : FuncId) (g.cmC p q) (RG.cmC_mono (RG.v5 hv) _ _) (fun i hi => less79 (g.c i).p (g.c i).q (g.c i).u p q 0)) rfl ?_
  by_cases hf : fnd (g.cmC p q) g.nc = true
  rotate_left
  · have ha : g.rvE p q = 6 := by unfold RG.rvE; rw [if_pos hv, if_neg hf]
    simp [go_sem, hf, ha, RG.nil]
  have ha : g.rvE p q = 0 := by unfold RG.rvE; rw [if_pos hv, if_pos hf]
  have hb : bnd (g.cmC p q) g.nc < g.nc := by simp [fnd] at hf; exact hf.1
  simp [go_sem, hf, ha]
  refine ⟨by omega, callK_own [3] (delete90 g.nc (bnd (g.cmC p q) g.nc) (by omega) hb (fun i j => (g.c i).c j)) (by simp) rfl ⟨rfl, trivial⟩ ?_⟩
  simp [go_sem]
  refine ⟨⟨rfl, fun _ _ _ _ => rfl⟩, ⟨rfl, fun r c hr hc => ?_⟩, ⟨rfl, fun _ _ _ _ => rfl⟩, rfl, fun _ _ _ _ => rfl⟩
  simp only [RG.revoke, RG.drop]
  split <;> rfl

theorem RG.revoke_C {g : RG} {p q : Int} {a : ConG} (hf : fnd (g.cmC p q) g.nc = true) (h : (g.revoke p q).InC a) : g.InC a := by
  have hb : bnd (g.cmC p q) g.nc < g.nc := by simp [fnd] at hf; exact hf.1
  obtain ⟨i, hi, rfl⟩ := h
  simp only [RG.revoke, RG.drop] at hi ⊢
  split
  · exact ⟨i, by omega, rfl⟩
  · exact ⟨i + 1, by omega, rfl⟩
theorem RG.revoke_valid {g : RG} {p q : Int} (h : g.valid = true) (hf : fnd (g.cmC p q) g.nc = true) : (g.revoke p q).valid = true := by
  have hl := RG.lim h
  have hb : bnd (g.cmC p q) g.nc < g.nc := by simp [fnd] at hf; exact hf.1
  refine RG.valid_of hl.1 (by simp only [RG.revoke, RG.drop]; omega) hl.2.2.1 hl.2.2.2 (fun a ha => RG.goodR h ha) (fun a ha => RG.goodC h (RG.revoke_C hf ha)) (fun a ha => RG.goodW h ha) (fun a ha => RG.goodM h ha) (fun i hi => ?_) (fun i hi => RG.sortM (RG.v6 h) (by omega) hi)
  simp only [RG.revoke, RG.drop] at hi ⊢
  repeat' split
  all_goals exact RG.sortC (RG.v5 h) (by omega) (by omega)
theorem RG.revoke_OK {g : RG} {p q : Int} (h : g.OK) : (g.revoke p q).OK :=
  ⟨h.nr, by have := h.nc; simp only [RG.revoke, RG.drop]; omega, h.nw, h.nm, h.by'⟩
theorem RG.revoke_lev {g : RG} {p r : Int} {q : QG} (hf : fnd (g.cmC p r) g.nc = true) : (g.revoke p r).lev q (g.revoke p r).nr ≤ g.lev q g.nr :=
  RG.lev_le fun a h1 h2 => ⟨h1, ruleB_le (g := g.revoke p r) (y := g) (fun hc => by
    obtain ⟨a, h1, h2⟩ := RG.hasC_iff.1 hc
    exact RG.hasC_iff.2 ⟨a, RG.revoke_C hf h1, h2⟩) (fun hc => hc) h2⟩

end Go.Gx.Rg
