/-
  The law's spoil: it writes over a register's memory.
-/
import Derived.Test.YtnajladibkpeaaaFj
import Derived.Test.YtnajladibkpeaaaK9
set_option linter.unusedVariables false
set_option linter.unusedSimpArgs false
set_option maxRecDepth 20000
set_option maxHeartbeats 4000000
namespace Go.Gx
open Go.RowKit Go.Proofs Go.Proofs.Ytnajladibkpeaaa

abbrev anyC : Nat → Nat → SV := fun _ _ => .r .any
/-- Cells of cases of which the votes alone are known. -/
def spC (nv : Nat → Nat) (b : Nat) : Nat → Nat → SV := fun i j => if j = 2 then .sl (i + b) 2 0 (nv i) none else .r .any
@[go_sem] theorem spC_0 (nv : Nat → Nat) (b i : Nat) : spC nv b i 0 = .r .any := rfl
@[go_sem] theorem spC_1 (nv : Nat → Nat) (b i : Nat) : spC nv b i 1 = .r .any := rfl
@[go_sem] theorem spC_2 (nv : Nat → Nat) (b i : Nat) : spC nv b i 2 = .sl (i + b) 2 0 (nv i) none := rfl
abbrev spR (nr nl nc : Nat) (nv : Nat → Nat) : List Reg := [.vec 85 2 nr anyC, .vec 46 3 nl anyC, .vec 93 3 nc (spC nv 3)] ++ (List.range nc).map fun i => .vec 119 2 (nv i) anyC
abbrev spW (nr nl nc : Nat) (nv : Nat → Nat) : Mem := upd (famN (memL [some (.vec 85 2 nr anyC), some (.vec 46 3 nl anyC), some (.vec 93 3 nc (spC nv 3))]) 3 nc fun i => some (.vec 119 2 (nv i) anyC)) (nc + 3) (some (.box [.sl 0 2 0 nr none, .sl 1 3 0 nl none, .sl 2 3 0 nc none]))
theorem RV.sub_any (x : RV) : x.sub .any := by
  cases x with
  | v y =>
    unfold RV.sub
    split <;> first | trivial | simp_all
  | _ => simp [RV.sub]
theorem SV.sub_any {x : SV} : (∃ y, x = .r y) → x.sub (.r .any) := by
  rintro ⟨y, rfl⟩
  simp only [SV.sub]
  exact RV.sub_any y
theorem one7 (n j : Nat) (x : RV) : ∃ y, SV.trim n ([SV.r x][j]?.getD (SV.r .any)) = .r y := by
  cases j with
  | zero => exact ⟨_, rfl⟩
  | succ j => exact ⟨_, rfl⟩
theorem spC_sub {nv : Nat → Nat} {n i j : Nat} (h : i + 3 < n) : (SV.trim n (spC nv 3 i j)).sub (spC nv 3 i j) := by
  unfold spC
  split
  · simp [SV.trim, h, SV.sub]
  · exact SV.sub_any ⟨_, rfl⟩
theorem sp_keep {nr nl nc : Nat} {nv : Nat → Nat} (r : Nat) : Reg.wk (trimM (nc + 4) (spW nr nl nc nv) r) (spW nr nl nc nv r) := by
  unfold trimM
  by_cases hr : r < nc + 4
  · rw [if_pos hr]
    by_cases h3 : r < 3
    · rcases (by omega : r = 0 ∨ r = 1 ∨ r = 2) with rfl | rfl | rfl
      · simp [go_sem, Reg.wk]
      · simp [go_sem, Reg.wk]
      · have : spW nr nl nc nv 2 = some (.vec 93 3 nc (spC nv 3)) := by simp [go_sem]
        rw [this]
        exact Reg.wk_vec (Nat.le_refl _) fun i j hi hj => spC_sub (by omega)
    · by_cases h4 : r = nc + 3
      · subst h4
        have s1 : 1 < nc + 4 := by omega
        have s2 : 2 < nc + 4 := by omega
        simp [go_sem, Reg.wk, s1, s2]
      · have : spW nr nl nc nv r = some (.vec 119 2 (nv (r - 3)) anyC) := by
          show upd _ _ _ _ = _
          rw [upd_ne _ _ h4, famN_app, if_pos ⟨by omega, by omega⟩]
        rw [this]
        simp [go_sem, Reg.wk]
  · have : spW nr nl nc nv r = none := by
      show upd _ _ _ _ = _
      rw [upd_ne _ _ (by omega), famN_app, if_neg (by omega)]
      simp [memL, List.getElem?_eq_none (show [some (Reg.vec 85 2 nr anyC), some (.vec 46 3 nl anyC), some (.vec 93 3 nc (spC nv 3))].length ≤ r by simp; omega)]
    rw [if_neg hr, this]
    exact .inl (Reg.sub_none _)
/-- A region's rows are written to. -/
theorem sp_upd {nr nl nc : Nat} {nv : Nat → Nat} {q e k n : Nat} {g g' : Nat → Nat → SV} (hq : q < nc + 4) (hW : spW nr nl nc nv q = some (.vec e k n g')) (hg : ∀ i j, i < n → j < k → ((g i j).trim (nc + 4)).sub (g' i j)) (r : Nat) :
    Reg.wk (trimM (nc + 4) (upd (spW nr nl nc nv) q (some (.vec e k n g))) r) (spW nr nl nc nv r) := by
  by_cases hr : r = q
  · subst hr
    unfold trimM
    rw [if_pos hq, upd_same, hW]
    exact Reg.wk_vec (Nat.le_refl _) hg
  · have := sp_keep (nr := nr) (nl := nl) (nc := nc) (nv := nv) r
    unfold trimM at this ⊢
    rw [upd_ne _ _ hr]
    exact this
theorem spoil34 (nr nl nc : Nat) (nv : Nat → Nat) (h1 : nr ≤ 1000000) (h2 : nl ≤ 1000000) (h3 : nc ≤ 1000000) (h4 : ∀ i, i < nc → nv i ≤ 1000000) :
    Own Try.prog 34 (spR nr nl nc nv) [.agg [.sl 0 2 0 nr none, .sl 1 3 0 nl none, .sl 2 3 0 nc none]] (.tup []) [] := by
  refine own_of_GC T_ok Try.func34 rfl (by kernel_rfl) (Nat.le_of_ble_eq_true rfl) rfl rfl ?_
  have hlen : (spR nr nl nc nv).length = nc + 3 := by simp
  rw [hlen, spR, memR_famN]
  simp [go_sem]
  refine GLoop_fit T_ok (α := Nat) (fun k => [(1, .ptr (nc + 3) 0 3 0), (8, .i nr), (9, .i k)]) (fun _ => spW nr nl nc nv) (nc + 4) (fun k => k ≤ nr) (fun k => nr - k) 0 (by simp) ?_ ?_
  · exact Fit.of_wk (by simp) (by simp [go_sem]) sp_keep
  intro k1 J1 hi1
  by_cases hlt1 : k1 < nr
  · simp [go_sem, hlt1]
    refine ⟨by omega, k1 + 1, by omega, by omega, Fit.of_wk (by simp) (by simp [go_sem]) (sp_upd (q := 0) (g' := anyC) (by omega) (by simp [go_sem]) fun i j hi hj => ?_)⟩
    split
    · exact SV.sub_any (one7 _ _ _)
    · exact SV.sub_any ⟨_, rfl⟩
  simp [go_sem, hlt1]
  refine GLoop_fit T_ok (α := Nat) (fun k => [(1, .ptr (nc + 3) 0 3 0), (20, .i nl), (21, .i k)]) (fun _ => spW nr nl nc nv) (nc + 4) (fun k => k ≤ nl) (fun k => nl - k) 0 (by simp) ?_ ?_
  · exact Fit.of_wk (by simp) (by simp [go_sem]) sp_keep
  intro k2 J2 hi2
  by_cases hlt2 : k2 < nl
  · simp [go_sem, hlt2]
    refine ⟨by omega, k2 + 1, by omega, by omega, Fit.of_wk (by simp) (by simp [go_sem]) (sp_upd (q := 1) (g' := anyC) (by omega) (by simp [go_sem]) fun i j hi hj => ?_)⟩
    split
    · exact SV.sub_any (one7 _ _ _)
    · exact SV.sub_any ⟨_, rfl⟩
  simp [go_sem, hlt2]
  refine GLoop_fit T_ok (α := Nat) (fun k => [(1, .ptr (nc + 3) 0 3 0), (32, .i nc), (33, .i k)]) (fun _ => spW nr nl nc nv) (nc + 4) (fun k => k ≤ nc) (fun k => nc - k) 0 (by simp) ?_ ?_
  · exact Fit.of_wk (by simp) (by simp [go_sem]) sp_keep
  intro k3 J3 hi3
  by_cases hlt3 : k3 < nc
  rotate_left
  · simp [go_sem, hlt3]
    exact ⟨[], by simp, fun N => ⟨by simp [go_sem], trivial⟩⟩
  have hv := h4 k3 hlt3
  have hne : ¬ k3 = nc := by omega
  simp [go_sem, hlt3]
  refine GLoop_fit T_ok (α := Nat) (fun k => [(1, .ptr (nc + 3) 0 3 0), (4, .i k3), (32, .i nc), (33, .i k3), (42, .i (nv k3)), (43, .i k)]) (fun _ => spW nr nl nc nv) (nc + 4) (fun k => k ≤ nv k3) (fun k => nv k3 - k) 0 (by simp) ?_ ?_
  · exact Fit.of_wk (by simp) (by simp [go_sem]) sp_keep
  intro k4 J4 hi4
  by_cases hlt4 : k4 < nv k3
  · simp [go_sem, hlt3, hlt4, hne]
    refine ⟨by omega, k4 + 1, by omega, by omega, Fit.of_wk (by simp) (by simp [go_sem]) (sp_upd (q := k3 + 3) (g' := anyC) (by omega) (by simp [go_sem, hlt3, hne]) fun i j hi hj => ?_)⟩
    split
    · exact SV.sub_any (one7 _ _ _)
    · exact SV.sub_any ⟨_, rfl⟩
  · simp [go_sem, hlt3, hlt4]
    refine ⟨by omega, k3 + 1, by omega, by omega, Fit.of_wk (by simp) (by simp [go_sem]) (sp_upd (q := 2) (g' := spC nv 3) (by omega) (by simp [go_sem]) fun i j hi hj => ?_)⟩
    split
    · rename_i hc
      unfold spC
      rw [if_neg (by omega)]
      exact SV.sub_any (one7 _ _ _)
    · exact spC_sub (by omega)
end Go.Gx
