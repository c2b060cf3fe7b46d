/-
  slices.Insert and slices.Delete of cases and of links.
-/
import Derived.Test.YtnajladibkpeaaaGreatU8
set_option linter.unusedVariables false
set_option linter.unusedSimpArgs false
set_option maxRecDepth 20000
set_option maxHeartbeats 4000000
namespace Go.Gx
open Go.RowKit Go.Proofs Go.Proofs.YtnajladibkpeaaaGreat

def insR (get one : Nat → Nat → RV) (i : Nat) : Nat → Nat → RV := fun r c => if r < i then get r c else if r = i then one 0 c else get (r - 1) c
theorem insert79 (n i : Nat) (hn : n ≤ 1000000) (hi : i ≤ n) (get one : Nat → Nat → RV) :
    Own Tryz.prog 48 [.vec 52 3 n fun r c => .r (get r c), .vec 52 3 1 fun r c => .r (one r c)] [.sl 0 3 0 n none, .i i, .sl 1 3 0 1 none] (.sl 0 3 0 (n + 1) none) [.vec 52 3 (n + 1) fun r c => .r (insR get one i r c)] := by
  refine own_of_GC T_ok Tryz.func48 rfl (by kernel_rfl) (Nat.le_of_ble_eq_true rfl) rfl rfl ?_
  simp [go_sem]
  refine ⟨hi, ?_⟩
  by_cases hin : i = n
  · subst hin
    rw [if_pos rfl]
    refine ⟨by omega, [0], by simp, fun N => ⟨?_, ?_⟩⟩
    · simp [go_sem]
    · simp [go_sem]
      intro r c hr hc
      unfold joined insR
      by_cases h : r < i
      · rw [if_pos h, if_pos h]; rfl
      · rw [if_neg h, if_pos hr, if_neg h, if_pos (by omega), show r - i = 0 from by omega]; rfl
  rw [if_neg (by omega)]
  refine ⟨by omega, ?_⟩
  refine GOp_cap T_ok (ref := 0) (kk := 3) (n := n) (by simp [go_sem]) (M := memR _) rfl rfl (by simp [dOK]) ?_
  intro C hC _ hC2
  simp only [maxLen] at hC2
  by_cases hc : C < n + 1
  · have hc' : (C : Int) < (n : Int) + 1 := by omega
    left
    simp [go_sem, hc', hi]
    refine ⟨by omega, by omega, ⟨by omega, by omega, by omega⟩, by omega, ?_⟩
    refine GDraw_of T_ok (by kernel_rfl) 8 (by kernel_rfl) rfl rfl ?_
    simp [go_sem, hi]
    have e1 : i + (n + 1 - i) = n + 1 := by omega
    refine ⟨by omega, ⟨by omega, by omega⟩, by omega, [2], by simp, fun N => ⟨?_, ?_⟩⟩
    · simp [go_sem, e1]
    · simp [go_sem]
      refine ⟨by omega, fun r c hr hc => ?_⟩
      unfold insR joined
      repeat' split
      all_goals first | (exfalso; omega) | rfl | exact congrArg SV.r (congrFun (congrArg get (by omega)) _) | exact congrArg SV.r (congrFun (congrArg one (by omega)) _)
  · have hc' : ¬ (C : Int) < (n : Int) + 1 := by omega
    have hn1 : ¬ (n : Int) + 1 ≤ (n : Int) := by omega
    right
    simp [go_sem, hc', hi, hn1]
    refine ⟨by omega, ⟨by omega, by omega⟩, by omega, by omega, ?_⟩
    refine callK_apart T_ok Tryz.func87 (by kernel_rfl) (by kernel_rfl) (by kernel_rfl) (tS := 26) (tR := 4) (by kernel_rfl) (el := 52) rfl rfl (q := 1) (r := 0) (hq := rfl) (hr := rfl) (by decide) (by omega) (by omega) (by omega) ?_
    simp [go_sem, hi, hc']
    refine GDraw_of T_ok (by kernel_rfl) 8 (by kernel_rfl) rfl rfl ?_
    simp [go_sem, hi]
    refine ⟨by omega, by omega, by omega, ⟨by omega, by omega⟩, by omega, by omega, [0], by simp, fun N => ⟨?_, ?_⟩⟩
    · simp [go_sem]
    · simp [go_sem]
      refine ⟨by omega, fun r c hr hc => ?_⟩
      unfold insR
      repeat' split
      all_goals first | (exfalso; omega) | rfl | exact congrArg SV.r (congrFun (congrArg get (by omega)) _) | exact congrArg SV.r (congrFun (congrArg one (by omega)) _)
theorem insert85 (n i : Nat) (hn : n ≤ 1000000) (hi : i ≤ n) (get one : Nat → Nat → RV) :
    Own Tryz.prog 54 [.vec 41 3 n fun r c => .r (get r c), .vec 41 3 1 fun r c => .r (one r c)] [.sl 0 3 0 n none, .i i, .sl 1 3 0 1 none] (.sl 0 3 0 (n + 1) none) [.vec 41 3 (n + 1) fun r c => .r (insR get one i r c)] := by
  refine own_of_GC T_ok Tryz.func54 rfl (by kernel_rfl) (Nat.le_of_ble_eq_true rfl) rfl rfl ?_
  simp [go_sem]
  refine ⟨hi, ?_⟩
  by_cases hin : i = n
  · subst hin
    rw [if_pos rfl]
    refine ⟨by omega, [0], by simp, fun N => ⟨?_, ?_⟩⟩
    · simp [go_sem]
    · simp [go_sem]
      intro r c hr hc
      unfold joined insR
      by_cases h : r < i
      · rw [if_pos h, if_pos h]; rfl
      · rw [if_neg h, if_pos hr, if_neg h, if_pos (by omega), show r - i = 0 from by omega]; rfl
  rw [if_neg (by omega)]
  refine ⟨by omega, ?_⟩
  refine GOp_cap T_ok (ref := 0) (kk := 3) (n := n) (by simp [go_sem]) (M := memR _) rfl rfl (by simp [dOK]) ?_
  intro C hC _ hC2
  simp only [maxLen] at hC2
  by_cases hc : C < n + 1
  · have hc' : (C : Int) < (n : Int) + 1 := by omega
    left
    simp [go_sem, hc', hi]
    refine ⟨by omega, by omega, ⟨by omega, by omega, by omega⟩, by omega, ?_⟩
    refine GDraw_of T_ok (by kernel_rfl) 8 (by kernel_rfl) rfl rfl ?_
    simp [go_sem, hi]
    have e1 : i + (n + 1 - i) = n + 1 := by omega
    refine ⟨by omega, ⟨by omega, by omega⟩, by omega, [2], by simp, fun N => ⟨?_, ?_⟩⟩
    · simp [go_sem, e1]
    · simp [go_sem]
      refine ⟨by omega, fun r c hr hc => ?_⟩
      unfold insR joined
      repeat' split
      all_goals first | (exfalso; omega) | rfl | exact congrArg SV.r (congrFun (congrArg get (by omega)) _) | exact congrArg SV.r (congrFun (congrArg one (by omega)) _)
  · have hc' : ¬ (C : Int) < (n : Int) + 1 := by omega
    have hn1 : ¬ (n : Int) + 1 ≤ (n : Int) := by omega
    right
    simp [go_sem, hc', hi, hn1]
    refine ⟨by omega, ⟨by omega, by omega⟩, by omega, by omega, ?_⟩
    refine callK_apart T_ok Tryz.func90 (by kernel_rfl) (by kernel_rfl) (by kernel_rfl) (tS := 25) (tR := 4) (by kernel_rfl) (el := 41) rfl rfl (q := 1) (r := 0) (hq := rfl) (hr := rfl) (by decide) (by omega) (by omega) (by omega) ?_
    simp [go_sem, hi, hc']
    refine GDraw_of T_ok (by kernel_rfl) 8 (by kernel_rfl) rfl rfl ?_
    simp [go_sem, hi]
    refine ⟨by omega, by omega, by omega, ⟨by omega, by omega⟩, by omega, by omega, [0], by simp, fun N => ⟨?_, ?_⟩⟩
    · simp [go_sem]
    · simp [go_sem]
      refine ⟨by omega, fun r c hr hc => ?_⟩
      unfold insR
      repeat' split
      all_goals first | (exfalso; omega) | rfl | exact congrArg SV.r (congrFun (congrArg get (by omega)) _) | exact congrArg SV.r (congrFun (congrArg one (by omega)) _)
theorem delete84 (n i : Nat) (hn : n ≤ 1000000) (hi : i < n) (get : Nat → Nat → RV) :
    Own Tryz.prog 53 [.vec 52 3 n fun r c => .r (get r c)] [.sl 0 3 0 n none, .i i, .i ((i : Int) + 1)] (.sl 0 3 0 (n - 1) none) [.vec 52 3 (n - 1) fun r c => .r (if r < i then get r c else get (r + 1) c)] := by
  refine own_of_GC T_ok Tryz.func53 rfl (by kernel_rfl) (Nat.le_of_ble_eq_true rfl) rfl rfl ?_
  simp [go_sem]
  refine ⟨by omega, ?_⟩
  split
  · omega
  refine GDraw_of T_ok (by kernel_rfl) 6 (by kernel_rfl) rfl rfl ?_
  simp [go_sem]
  have e1 : i + (n - (i + 1)) = n - 1 := by omega
  refine ⟨by omega, ⟨by omega, by omega⟩, ⟨by omega, by omega, by omega, by omega⟩, ⟨by omega, by omega, by omega⟩, by omega, [0], by simp, fun N => ⟨?_, ?_⟩⟩
  · simp [go_sem, e1]
  · simp [go_sem]
    refine ⟨by omega, fun r c hr hc => ?_⟩
    rw [if_neg (by omega)]
    unfold joined
    by_cases h : r < i
    · simp [h, SV.kill]
    · rw [if_neg h, if_pos (by omega), if_neg h]
      show SV.r (get (i + 1 + (r - i)) c) = _
      rw [show i + 1 + (r - i) = r + 1 from by omega]
theorem delete93 (n i : Nat) (hn : n ≤ 1000000) (hi : i < n) (get : Nat → Nat → RV) :
    Own Tryz.prog 56 [.vec 41 3 n fun r c => .r (get r c)] [.sl 0 3 0 n none, .i i, .i ((i : Int) + 1)] (.sl 0 3 0 (n - 1) none) [.vec 41 3 (n - 1) fun r c => .r (if r < i then get r c else get (r + 1) c)] := by
  refine own_of_GC T_ok Tryz.func56 rfl (by kernel_rfl) (Nat.le_of_ble_eq_true rfl) rfl rfl ?_
  simp [go_sem]
  refine ⟨by omega, ?_⟩
  split
  · omega
  refine GDraw_of T_ok (by kernel_rfl) 6 (by kernel_rfl) rfl rfl ?_
  simp [go_sem]
  have e1 : i + (n - (i + 1)) = n - 1 := by omega
  refine ⟨by omega, ⟨by omega, by omega⟩, ⟨by omega, by omega, by omega, by omega⟩, ⟨by omega, by omega, by omega⟩, by omega, [0], by simp, fun N => ⟨?_, ?_⟩⟩
  · simp [go_sem, e1]
  · simp [go_sem]
    refine ⟨by omega, fun r c hr hc => ?_⟩
    rw [if_neg (by omega)]
    unfold joined
    by_cases h : r < i
    · simp [h, SV.kill]
    · rw [if_neg h, if_pos (by omega), if_neg h]
      show SV.r (get (i + 1 + (r - i)) c) = _
      rw [show i + 1 + (r - i) = r + 1 from by omega]
end Go.Gx
/-
  Insert and Delete of cases whose votes lie in memory of their own.
-/
set_option linter.unusedVariables false
set_option linter.unusedSimpArgs false
set_option maxRecDepth 20000
set_option maxHeartbeats 4000000
namespace Go.Gx
open Go.RowKit Go.Proofs Go.Proofs.YtnajladibkpeaaaGreat

theorem delCaseK {i n : Nat} {M : Mem} {nx q : Nat} {cs : Nat → Nat → SV} {K : SV → Mem → Nat → (SV → SV) → Prop} (hn : n ≤ 1000000) (hi : i < n) (hM : M q = some (.vec 52 3 n cs))
    (hK : K (.sl nx 3 0 (n - 1) none) (upd (upd M q none) nx (some (.vec 52 3 (n - 1) fun r c => if r < i then cs r c else cs (r + 1) c))) (nx + 1) id) :
    CallK Tryz.prog 0 53 [.sl q 3 0 n none, .i i, .i ((i : Int) + 1)] M nx K := by
  refine callK_opq2 (S := .sl nx 3 0 (n - 1) none) (M2 := upd M q none) (q := nx) (k := 3) (m := n - 1) (nx' := nx + 1) (e' := 52) (get' := fun r c => if r < i then cs r c else cs (r + 1) c) [q] (fun r hr => ?_) (fun Nm hNm M1 hM1 => ?_) hK
  · simp at hr; subst hr; exact ⟨_, _, _, _, hM⟩
  obtain ⟨c, h7, hcell⟩ := hM1.2 q (by simp) _ _ _ _ hM
  refine callK_own [q] (delete84 n i hn hi fun r j => .v (c r j)) (by simp) rfl ⟨h7, trivial⟩ ⟨rfl, rfl, rfl, fun r j => if r < i then c r j else c (r + 1) j, fun r j hr hj => ?_, ?_⟩
  · by_cases h : r < i
    · simp only [h, if_true]; exact (hcell r j (by omega) hj).1
    · simp only [h, if_false]; exact (hcell (r + 1) j (by omega) hj).1
  · funext r
    simp only [addS, dropM, upd_app]
    by_cases h1 : r = nx
    · simp only [h1, Nat.add_zero, if_true, Reg.ren, SV.ren]
      congr 2
      funext a b
      by_cases h : a < i <;> simp [h]
    · by_cases h2 : r = q
      · subst h2
        simp [h1]
      · simp [h1, h2, hM1.1 r (by simpa using h2)]
theorem insCaseK {i n : Nat} {M : Mem} {nx q p : Nat} {cs one : Nat → Nat → SV} {K : SV → Mem → Nat → (SV → SV) → Prop} (hn : n ≤ 1000000) (hi : i ≤ n) (hqp : q ≠ p) (hM : M q = some (.vec 52 3 n cs)) (hM2 : M p = some (.vec 52 3 1 one))
    (hK : K (.sl nx 3 0 (n + 1) none) (upd (upd (upd M q none) p none) nx (some (.vec 52 3 (n + 1) fun r c => if r < i then cs r c else if r = i then one 0 c else cs (r - 1) c))) (nx + 1) id) :
    CallK Tryz.prog 0 48 [.sl q 3 0 n none, .i i, .sl p 3 0 1 none] M nx K := by
  refine callK_opq2 (S := .sl nx 3 0 (n + 1) none) (M2 := upd (upd M q none) p none) (q := nx) (k := 3) (m := n + 1) (nx' := nx + 1) (e' := 52) (get' := fun r c => if r < i then cs r c else if r = i then one 0 c else cs (r - 1) c) [q, p] (fun r hr => ?_) (fun Nm hNm M1 hM1 => ?_) hK
  · simp at hr
    rcases hr with rfl | rfl
    · exact ⟨_, _, _, _, hM⟩
    · exact ⟨_, _, _, _, hM2⟩
  obtain ⟨c, h7, hcell⟩ := hM1.2 q (by simp) _ _ _ _ hM
  obtain ⟨d, h8, hdell⟩ := hM1.2 p (by simp) _ _ _ _ hM2
  refine callK_own [q, p] (insert79 n i hn hi (fun r j => .v (c r j)) fun r j => .v (d r j)) (by simpa using hqp) rfl ⟨h7, h8, trivial⟩ ⟨rfl, rfl, rfl, fun r j => if r < i then c r j else if r = i then d 0 j else c (r - 1) j, fun r j hr hj => ?_, ?_⟩
  · by_cases h : r < i
    · simp only [h, if_true]; exact (hcell r j (by omega) hj).1
    · by_cases h' : r = i
      · simp only [h, h', if_true, if_false, Nat.lt_irrefl]; exact (hdell 0 j (by omega) hj).1
      · simp only [h, h', if_false]; exact (hcell (r - 1) j (by omega) hj).1
  · funext r
    simp only [addS, dropM, upd_app]
    by_cases h1 : r = nx
    · simp only [h1, Nat.add_zero, if_true, Reg.ren, SV.ren]
      congr 2
      funext a b
      unfold insR
      by_cases h : a < i
      · simp [h]
      · by_cases h' : a = i <;> simp [h, h']
    · by_cases h2 : r = q
      · subst h2
        simp [h1]
      · by_cases h3 : r = p
        · subst h3
          simp [h1]
        · simp [h1, h2, h3, hM1.1 r (by simp [h2, h3])]
end Go.Gx
/-
  Withdraw: the program's.
-/
set_option linter.unusedVariables false
set_option linter.unusedSimpArgs false
set_option maxRecDepth 20000
set_option maxHeartbeats 4000000
namespace Go.Gx
open Go.RowKit Go.Proofs Go.Proofs.YtnajladibkpeaaaGreat

/-- The register with one link less. -/
def EG.dropL (g : EG) (k : Nat) : EG := { g with nl := g.nl - 1, l := fun i => if i < k then g.l i else g.l (i + 1) }
theorem withdraw_bad {g : EG} (h : g.OK) (hv : g.valid = false) (a b : Int) : Own Tryz.prog 18 [] [g.sv, .i a, .i b] (.tup [nilR, .i 8]) [] := by
  refine own_of_GC T_ok Tryz.func18 rfl (by kernel_rfl) (Nat.le_of_ble_eq_true rfl) rfl rfl ?_
  simp [go_sem]
  refine callK_own [] (open_bad h hv) (by simp) rfl trivial ?_
  simp [go_sem]
  exact ⟨[], by simp, fun N => ⟨by simp [go_sem], trivial⟩⟩
theorem withdraw37 {g : EG} (h : g.Sm) (hv : g.valid = true) {a b : Int} (hf : g.lin (min a b) (max a b) = true) : Own Tryz.prog 18 [] [g.sv, .i a, .i b] (.tup [(g.dropL (g.lat (min a b) (max a b))).oS, .i 0]) (g.dropL (g.lat (min a b) (max a b))).oR := by
  refine own_of_GC T_ok Tryz.func18 rfl (by kernel_rfl) (Nat.le_of_ble_eq_true rfl) rfl rfl ?_
  have hr := h.nr
  have hl := h.nl
  have hc := h.nc
  have hat := EG.at76 g h.ok (EG.valid_lks hv) (min a b) (max a b)
  have hlt : g.lat (min a b) (max a b) < g.nl := by simp [EG.lin, fnd] at hf; exact hf.1
  simp [go_sem]
  refine callK_own [] (open61 h hv) (by simp) rfl trivial ?_
  simp [go_sem]
  refine GDraw_all T_ok (by kernel_rfl) (by kernel_rfl) ?_
  simp [go_sem]
  refine ⟨_, dcall_val (pairOf75 a b) rfl rfl, ?_⟩
  simp [go_sem]
  have q4 : ∀ n, n < 7 → ¬ (n = 2 + (g.nc + 1 + 1 + 1 + 1 + 1)) := fun n _ => by omega
  have q6 : ∀ n, n < 7 → ¬ (2 + (g.nc + 1 + 1 + 1 + 1 + 1) = n) := fun n _ => by omega
  have q8 : ∀ i, i < g.nc → ¬ (i + 7 = 2 + (g.nc + 1 + 1 + 1 + 1 + 1)) := fun i _ => by omega
  refine ⟨by omega, _, dcall_lent (v := .tup [.i (g.lat (min a b) (max a b)), .b (g.lin (min a b) (max a b))]) ?_ rfl, ?_⟩
  · simp [go_sem]
    exact hat
  simp [go_sem, hf]
  generalize hk : g.lat (min a b) (max a b) = k at hlt
  refine ⟨by omega, ?_⟩
  refine callK_own [5] (delete93 g.nl k (by omega) hlt fun i j => (g.l i).c j) (by simp) rfl ⟨rfl, trivial⟩ ?_
  simp [go_sem, q4, q6]
  refine ⟨famR [4, 2 + (g.nc + 1 + 1 + 1 + 1 + 1), 6] g.nc 7, nodup_fam (by simp [q4, q6]) (fun i j _ _ h => by omega) (fun x hx i hi => by simp at hx; omega), fun N => ⟨by simp [go_sem, famR_lo, EG.dropL], ?_⟩⟩
  refine gexpR_famN (l := [4, 2 + (g.nc + 1 + 1 + 1 + 1 + 1), 6]) (Rs := [.vec 105 2 (g.dropL k).nr fun i j => .r (((g.dropL k).r i).c j), .vec 41 3 (g.dropL k).nl fun i j => .r (((g.dropL k).l i).c j), .vec 52 3 (g.dropL k).nc ((g.dropL k).oc 3)]) ?_ fun i hi => ?_
  · simp [go_sem, famR_lo, q4, q6, EG.dropL]
    refine ⟨fun i j hi hj => ?_, fun i j hi hj => (g.oc_famR rfl hi).symm⟩
    split <;> rfl
  · simp [go_sem, hi, q8 i hi, EG.dropL]
theorem withdraw_no {g : EG} (h : g.Sm) (hv : g.valid = true) {a b : Int} (hf : g.lin (min a b) (max a b) = false) : Own Tryz.prog 18 [] [g.sv, .i a, .i b] (.tup [nilR, .i 6]) [] := by
  refine own_of_GC T_ok Tryz.func18 rfl (by kernel_rfl) (Nat.le_of_ble_eq_true rfl) rfl rfl ?_
  have hr := h.nr
  have hl := h.nl
  have hc := h.nc
  have hat := EG.at76 g h.ok (EG.valid_lks hv) (min a b) (max a b)
  simp [go_sem]
  refine callK_own [] (open61 h hv) (by simp) rfl trivial ?_
  simp [go_sem]
  refine GDraw_all T_ok (by kernel_rfl) (by kernel_rfl) ?_
  simp [go_sem]
  refine ⟨_, dcall_val (pairOf75 a b) rfl rfl, ?_⟩
  simp [go_sem]
  refine ⟨by omega, _, dcall_lent (v := .tup [.i (g.lat (min a b) (max a b)), .b (g.lin (min a b) (max a b))]) ?_ rfl, ?_⟩
  · simp [go_sem]
    exact hat
  simp [go_sem, hf]
  exact ⟨[], by simp, fun N => ⟨by simp [go_sem], trivial⟩⟩
end Go.Gx
/-
  Withdraw: the reference's.
-/
set_option linter.unusedVariables false
set_option linter.unusedSimpArgs false
set_option maxRecDepth 20000
set_option maxHeartbeats 4000000
namespace Go.Gx
open Go.RowKit Go.Proofs Go.Proofs.YtnajladibkpeaaaGreat

theorem EG.fd_lat {g : EG} (h : g.lks = true) {p q : Int} (hf : g.lin p q = true) : g.fd p q = g.lat p q := by
  obtain ⟨j, hj, e1, e2⟩ := (fnd_iff (x := fun i => (g.l i).a) (y := fun i => (g.l i).b) (EG.lks_sorted h)).1 hf
  have h2 := bnd_at (x := fun i => (g.l i).a) (y := fun i => (g.l i).b) (EG.lks_sorted h) hj
  subst e1 e2
  have h3 : g.lat (g.l j).a (g.l j).b = j := h2
  rw [h3]
  refine EG.fd_at hj rfl rfl fun k hk e3 e4 => ?_
  have h4 := bnd_at (x := fun i => (g.l i).a) (y := fun i => (g.l i).b) (EG.lks_sorted h) (show k < g.nl by omega)
  simp only [e3, e4] at h4
  have h5 : g.lat (g.l j).a (g.l j).b = k := h4
  omega
end Go.Gx
/-
  Vote: what it changes; clashes; the reference's open, hasVoted, decided, clash.
-/
set_option linter.unusedVariables false
set_option linter.unusedSimpArgs false
set_option maxRecDepth 20000
set_option maxHeartbeats 4000000
namespace Go.Gx
open Go.RowKit Go.Proofs Go.Proofs.YtnajladibkpeaaaGreat

def EG.addC (g : EG) (i : Nat) (x : CsG) : EG := { g with nc := g.nc + 1, c := fun j => if j < i then g.c j else if j = i then x else g.c (j - 1) }
def EG.addL (g : EG) (i : Nat) (x : LkG) : EG := { g with nl := g.nl + 1, l := fun j => if j < i then g.l j else if j = i then x else g.l (j - 1) }
def EG.dropC (g : EG) (i : Nat) : EG := { g with nc := g.nc - 1, c := fun j => if j < i then g.c j else g.c (j + 1) }
def CsG.addV (x : CsG) (v : VtG) : CsG := { x with nv := x.nv + 1, v := fun k => if k < x.nv then x.v k else v }
def EG.addV (g : EG) (i : Nat) (v : VtG) : EG := { g with c := fun j => if j = i then (g.c i).addV v else g.c j }
def CsG.has (x : CsG) (o : Int) : Bool := (List.range x.nv).any fun i => decide ((x.v i).o = o)
def CsG.says (x : CsG) (s : Bool) : Bool := (List.range x.nv).any fun i => decide ((x.v i).s = s)
def EG.clash (g : EG) (p q : Int) (s : Bool) : Bool := if s = true then decide (0 ≤ g.ap p q) else decide (g.q p = g.q q)
theorem clashes83 (g : EG) (h : g.OK) (hl : g.lth) (D : Nat → Nat → RV) (hD1 : D 0 1 = .rs 3 g.nl fun i j => (g.l i).c j) (hD3 : D 0 3 = .mp g.th fun a => .i (g.q a)) (p q : Int) (s : Bool) (hp : g.th p = true) (hq : g.th q = true) :
    Pure Tryz.prog 52 [dk D, .agg [.i p, .i q], .b s] (· = .b (g.clash p q s)) := by
  refine pure_of_GC T_ok Tryz.func52 rfl (by kernel_rfl) (Nat.le_of_ble_eq_true rfl) rfl rfl ?_
  have ha := apart59 g h hl D hD1 hD3 p q hp hq
  cases s
  · simp [go_sem]
    refine GDraw_of T_ok (by kernel_rfl) 15 (by kernel_rfl) rfl rfl ?_
    simp [go_sem, hD3, hp, hq, EG.clash]
  · simp [go_sem]
    by_cases hx : 0 ≤ g.ap p q
    · rw [EG.lv_pos hx] at ha
      refine call_val ha rfl rfl ?_
      simp [go_sem, EG.clash, hx]
    · rw [EG.lv_neg (by omega)] at ha
      refine call_val ha rfl rfl ?_
      simp [go_sem, EG.clash, hx]
abbrev abx (x : RV) : RV := .rp 1 1 (gbox [.r x]) 0 0
theorem cl81 (x : VtG) (C : Nat → Nat → RV) (o : Int) (hC : C 0 0 = .i o) : Pure Tryz.prog 50 [.agg [.i x.o, .b x.s], .r (.rp 1 1 C 0 0)] (· = .b (decide (x.o = o))) := by
  refine pure_of_GC T_ok Tryz.func50 rfl (by kernel_rfl) (Nat.le_of_ble_eq_true rfl) rfl rfl ?_
  simp [go_sem, hC]
theorem cl82 (x : VtG) (C : Nat → Nat → RV) (s : Bool) (hC : C 0 0 = .v (.bool s)) : Pure Tryz.prog 51 [.agg [.i x.o, .b x.s], .r (.rp 1 1 C 0 0)] (· = .b (decide (x.s = s))) := by
  refine pure_of_GC T_ok Tryz.func51 rfl (by kernel_rfl) (Nat.le_of_ble_eq_true rfl) rfl rfl ?_
  simp [go_sem, hC]
theorem has81 (x : CsG) (hn : x.nv ≤ 1000000000) (C : Nat → Nat → RV) (o : Int) (hC : C 0 0 = .i o) : Pure Tryz.prog 49 [.r (.rs 2 x.nv fun i j => (x.v i).c j), .fn (.func 50) [] [.r (.rp 1 1 C 0 0)]] (· = .b (x.has o)) :=
  contains80 x.nv hn (fun i j => (x.v i).c j) 50 [.r (.rp 1 1 C 0 0)] rfl (fun i => decide ((x.v i).o = o)) fun i _ => cl81 (x.v i) C o hC
theorem says82 (x : CsG) (hn : x.nv ≤ 1000000000) (C : Nat → Nat → RV) (s : Bool) (hC : C 0 0 = .v (.bool s)) : Pure Tryz.prog 49 [.r (.rs 2 x.nv fun i j => (x.v i).c j), .fn (.func 51) [] [.r (.rp 1 1 C 0 0)]] (· = .b (x.says s)) :=
  contains80 x.nv hn (fun i j => (x.v i).c j) 51 [.r (.rp 1 1 C 0 0)] rfl (fun i => decide ((x.v i).s = s)) fun i _ => cl82 (x.v i) C s hC
/-- The case of a pair. -/
def EG.co (g : EG) (a b : Int) : Int := ixB (fun i => decide ((g.c i).a = a) && decide ((g.c i).b = b)) g.nc
theorem any_no {n : Nat} {p : Nat → Bool} (h : ∀ j, j < n → p j = false) : (List.range n).any p = false := by
  rw [List.any_eq_false]
  exact fun x hx => by rw [h x (List.mem_range.1 hx)]; simp
theorem any_yes {n k : Nat} {p : Nat → Bool} (h : k < n) (hp : p k = true) : (List.range n).any p = true := List.any_eq_true.2 ⟨k, List.mem_range.2 h, hp⟩
theorem EG.valid_cos {g : EG} (h : g.valid = true) : g.cos = true := by
  rw [← EG.pval_eq] at h
  simp only [EG.pval, Bool.and_eq_true] at h
  exact h.1.1.2
theorem EG.valid_nc {g : EG} (h : g.valid = true) : g.nc ≤ 40 := by
  rw [← EG.pval_eq] at h
  simp only [EG.pval, Bool.and_eq_true, decide_eq_true_eq] at h
  exact h.1.1.1.1.1.2
theorem EG.cin_iff {g : EG} (h : g.cos = true) {p q : Int} : g.cin p q = true ↔ ∃ j, j < g.nc ∧ (g.c j).a = p ∧ (g.c j).b = q :=
  fnd_iff (x := fun i => (g.c i).a) (y := fun i => (g.c i).b) (EG.cos_sorted h)
theorem EG.cat_at {g : EG} (h : g.cos = true) {j : Nat} (hj : j < g.nc) : g.cat (g.c j).a (g.c j).b = j :=
  bnd_at (x := fun i => (g.c i).a) (y := fun i => (g.c i).b) (EG.cos_sorted h) hj
theorem EG.co_yes {g : EG} (h : g.cos = true) {p q : Int} (hc : g.cin p q = true) : g.co p q = (g.cat p q : Nat) := by
  obtain ⟨j, hj, rfl, rfl⟩ := (EG.cin_iff h).1 hc
  rw [EG.cat_at h hj]
  refine ixB_at hj (by simp) fun k hk => ?_
  by_cases e : (g.c k).a = (g.c j).a
  · by_cases e2 : (g.c k).b = (g.c j).b
    · have h1 := EG.cat_at h (show k < g.nc by omega)
      rw [e, e2, EG.cat_at h hj] at h1
      omega
    · simp [e2]
  · simp [e]
theorem EG.co_no {g : EG} (h : g.cos = true) {p q : Int} (hc : g.cin p q = false) : g.co p q = -1 := by
  refine ixB_no fun k hk => ?_
  by_cases e : (g.c k).a = p
  · by_cases e2 : (g.c k).b = q
    · have := (EG.cin_iff h).2 ⟨k, hk, e, e2⟩
      rw [hc] at this
      cases this
    · simp [e2]
  · simp [e]
theorem EG.cat_le (g : EG) (p q : Int) : g.cat p q ≤ g.nc := by
  unfold EG.cat bnd
  cases h : (List.range g.nc).find? fun i => decide (0 ≤ ordI (g.c i).a (g.c i).b p q) with
  | none => exact Nat.le_refl _
  | some i => exact Nat.le_of_lt (List.mem_range.1 (List.find?_range_eq_some.1 h).2.1)
theorem EG.lat_le (g : EG) (p q : Int) : g.lat p q ≤ g.nl := by
  unfold EG.lat bnd
  cases h : (List.range g.nl).find? fun i => decide (0 ≤ ordI (g.l i).a (g.l i).b p q) with
  | none => exact Nat.le_refl _
  | some i => exact Nat.le_of_lt (List.mem_range.1 (List.find?_range_eq_some.1 h).2.1)
theorem EG.cin_lt {g : EG} {p q : Int} (hc : g.cin p q = true) : g.cat p q < g.nc := by
  simp only [EG.cin, fnd, Bool.and_eq_true, decide_eq_true_eq] at hc
  exact hc.1
/-- The error of a vote, what it leads to, and whether the case is decided. -/
def EG.voteE (g : EG) (o a b : Int) (s : Bool) : Int :=
  if g.valid = false then 8 else if ¬ (0 ≤ o ∧ o ≤ 7) then 2 else if a = b ∨ g.th a = false ∨ g.th b = false then 6 else
  if g.lin (min a b) (max a b) = true then 82 else
  if g.cin (min a b) (max a b) = false then (if g.nc = 40 then 9 else 0) else
  if (g.c (g.cat (min a b) (max a b))).has o = true then 80 else
  if (g.c (g.cat (min a b) (max a b))).says s = false then 0 else if g.clash (min a b) (max a b) s = true then 81 else 0
def EG.voteG (g : EG) (o a b : Int) (s : Bool) : EG :=
  if g.cin (min a b) (max a b) = false then g.addC (g.cat (min a b) (max a b)) ⟨min a b, max a b, 1, fun _ => ⟨o, s⟩⟩ else
  if (g.c (g.cat (min a b) (max a b))).says s = false then g.addV (g.cat (min a b) (max a b)) ⟨o, s⟩ else
  (g.dropC (g.cat (min a b) (max a b))).addL (g.lat (min a b) (max a b)) ⟨min a b, max a b, s⟩
def EG.voteD (g : EG) (a b : Int) (s : Bool) : Bool := g.cin (min a b) (max a b) && (g.c (g.cat (min a b) (max a b))).says s
def EG.voteS (g : EG) (o a b : Int) (s : Bool) : SV := if g.voteE o a b s = 0 then .tup [(g.voteG o a b s).oS, .b (g.voteD a b s), .i 0] else .tup [nilR, .b false, .i (g.voteE o a b s)]
def EG.voteR (g : EG) (o a b : Int) (s : Bool) : List Reg := if g.voteE o a b s = 0 then (g.voteG o a b s).oR else []
def EG.voteV (g : EG) (o a b : Int) (s : Bool) : SV := if g.voteE o a b s = 0 then .tup [(g.voteG o a b s).sv, .b (g.voteD a b s), .i 0] else .tup [nilR, .b false, .i (g.voteE o a b s)]
end Go.Gx
/-
  A register in memory of its own, handed back.
-/
set_option linter.unusedVariables false
set_option linter.unusedSimpArgs false
set_option maxRecDepth 20000
set_option maxHeartbeats 4000000
namespace Go.Gx
open Go.RowKit Go.Proofs Go.Proofs.YtnajladibkpeaaaGreat

theorem EG.out {M : Mem} (g : EG) {R L C : Nat} (p : Nat → Nat) {cs : Nat → Nat → SV} {rest : List SV} (hd : R ≠ L ∧ R ≠ C ∧ L ≠ C) (hp : ∀ i j, i < g.nc → j < g.nc → p i = p j → i = j)
    (hx : ∀ i, i < g.nc → p i ≠ R ∧ p i ≠ L ∧ p i ≠ C) (hR : Reg.sub (M R) (some g.vr)) (hL : Reg.sub (M L) (some g.vl)) (hC : M C = some (.vec 52 3 g.nc cs))
    (h0 : ∀ i, i < g.nc → cs i 0 = .i (g.c i).a ∧ cs i 1 = .i (g.c i).b ∧ cs i 2 = .sl (p i) 2 0 (g.c i).nv none) (hV : ∀ i, i < g.nc → Reg.sub (M (p i)) (some (g.ov i))) (hr : ∀ ρ, SV.renL ρ rest = rest) :
    ∃ ρl, gexp M (.tup (.agg [.sl R 2 0 g.nr none, .sl L 3 0 g.nl none, .sl C 3 0 g.nc none] :: rest)) ρl (.tup (g.oS :: rest)) g.oR := by
  refine ⟨[R, L, C] ++ (List.range g.nc).map p, nodup_fam (by simp; exact ⟨⟨hd.1, hd.2.1⟩, hd.2.2⟩) hp (fun x hx2 i hi => ?_), fun N => ⟨?_, gexpR_fam (Rs := [g.vr, g.vl, .vec 52 3 g.nc (g.oc 3)]) (f := g.ov) ⟨?_, ?_, ?_, trivial⟩ fun i hi => ?_⟩⟩
  · obtain ⟨h1, h2, h3⟩ := hx i hi
    simp at hx2
    rcases hx2 with rfl | rfl | rfl <;> assumption
  · simp only [SV.ren, SV.renL, hr]
    exact SV.sub_rfl _
  · exact hR
  · exact hL
  · rw [hC]
    refine ⟨rfl, rfl, Nat.le_refl _, fun i j hi hj => ?_⟩
    obtain ⟨q0, q1, q2⟩ := h0 i hi
    rcases (by omega : j = 0 ∨ j = 1 ∨ j = 2) with rfl | rfl | rfl
    · exact q0
    · exact q1
    · rw [q2]
      simp only [EG.oc_2, SV.ren]
      have : ([R, L, C] ++ (List.range g.nc).map p)[i + 3]? = some (p i) := by
        rw [List.getElem?_append_right (by simp)]
        simp [hi]
      rw [this]
      rfl
  · exact hV i hi
theorem EG.out' {M : Mem} (g : EG) {R L C : Nat} (p : Nat → Nat) {rest : List SV} (hd : R ≠ L ∧ R ≠ C ∧ L ≠ C) (hp : ∀ i j, i < g.nc → j < g.nc → p i = p j → i = j)
    (hx : ∀ i, i < g.nc → p i ≠ R ∧ p i ≠ L ∧ p i ≠ C) (hR : Reg.sub (M R) (some g.vr)) (hL : Reg.sub (M L) (some g.vl)) (hC : ∃ cs, M C = some (.vec 52 3 g.nc cs) ∧
    ∀ i, i < g.nc → cs i 0 = .i (g.c i).a ∧ cs i 1 = .i (g.c i).b ∧ cs i 2 = .sl (p i) 2 0 (g.c i).nv none) (hV : ∀ i, i < g.nc → Reg.sub (M (p i)) (some (g.ov i))) (hr : ∀ ρ, SV.renL ρ rest = rest) :
    ∃ ρl, gexp M (.tup (.agg [.sl R 2 0 g.nr none, .sl L 3 0 g.nl none, .sl C 3 0 g.nc none] :: rest)) ρl (.tup (g.oS :: rest)) g.oR := by
  obtain ⟨cs, h1, h2⟩ := hC
  exact EG.out g p hd hp hx hR hL h1 h2 hV hr
end Go.Gx
