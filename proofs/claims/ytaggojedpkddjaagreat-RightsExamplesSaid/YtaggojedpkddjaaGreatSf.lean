/-
  rights.Consent and rights.Put.
-/
import Derived.Test.YtaggojedpkddjaaGreatSe
import Derived.Test.YtaggojedpkddjaaGreatSd
set_option linter.unusedVariables false
set_option linter.unusedSimpArgs false
set_option maxRecDepth 20000
set_option maxHeartbeats 2000000
namespace Go.Gx.Rg
open Go.RowKit Go.Proofs Go.Proofs.YtaggojedpkddjaaGreat

theorem row3 (a b c : RV) (k : Nat) : [SV.r a, SV.r b, SV.r c][k]?.getD (SV.r .any) = SV.r ([a, b, c][k]?.getD .any) := by
  rcases k with _ | _ | _ | k <;> rfl
theorem row5 (a b c d e : RV) (k : Nat) : [SV.r a, SV.r b, SV.r c, SV.r d, SV.r e][k]?.getD (SV.r .any) = SV.r ([a, b, c, d, e][k]?.getD .any) := by
  rcases k with _ | _ | _ | _ | _ | k <;> rfl
/-- A list with an element in its place. -/
def plN (f : Bool) (n : Nat) : Nat := if f then n else n + 1
def plF {α : Type} (f : Bool) (i : Nat) (y : Nat → α) (x : α) : Nat → α := fun r => if r < i then y r else if r = i then x else y (if f then r else r - 1)
theorem placed100 (n : Nat) (hn : n ≤ 1000000) (y : Nat → ConG) (x : ConG) (most : Int) (cm : Nat → Int) (hc : cm = fun i => lex (cmpI (y i).p x.p) (cmpI (y i).q x.q)) (hm : ∀ a b, a < b → b < n → cm b < 0 → cm a < 0) :
    Own Tryz.prog 29 [.vec 49 3 n fun i j => .r ((y i).c j)] [.sl 0 3 0 n none, x.sv, .i most, .fn (.func 30) [] []] (.tup [.sl 0 3 0 (plN (fnd cm n) n) none, .b (fnd cm n || decide ((n : Int) < most))])
      [.vec 49 3 (plN (fnd cm n) n) fun i j => .r ((plF (fnd cm n) (bnd cm n) y x i).c j)] := by
  refine own_of_GC T_ok Tryz.func29 rfl (by kernel_rfl) (Nat.le_of_ble_eq_true rfl) rfl rfl ?_
  simp [go_sem]
  refine call_lent (v := .tup [.i (bnd cm n : Nat), .b (fnd cm n)]) (by
    simp [go_sem]
    exact search89 n (by omega) _ x.p x.q x.u (30 : FuncId) cm hm (fun i hi => by rw [hc]; exact less79 (y i).p (y i).q (y i).u x.p x.q x.u)) rfl ?_
  have hle : bnd cm n ≤ n := bnd_le
  by_cases hf : fnd cm n = true
  · have hb : bnd cm n < n := by simp [fnd] at hf; exact hf.1
    generalize bnd cm n = i at *
    generalize fnd cm n = f at *
    subst hf
    simp [go_sem]
    refine ⟨hb, [0], by simp, fun N => ⟨by simp [go_sem, plN], ?_⟩⟩
    simp [go_sem, plN]
    intro r c hr hc
    by_cases hri : r = i
    · subst hri
      rw [if_pos ⟨rfl, hc⟩]
      have hcc : c = 0 ∨ c = 1 ∨ c = 2 := by omega
      simp only [plF, if_neg (Nat.lt_irrefl _), if_pos]
      rcases hcc with rfl | rfl | rfl <;> rfl
    · rw [if_neg (fun h => hri h.1)]
      simp only [plF, if_neg hri, if_true]
      split <;> rfl
  · have hf : fnd cm n = false := by simpa using hf
    generalize bnd cm n = i at *
    generalize fnd cm n = f at *
    subst hf
    simp [go_sem]
    simp only [row3]
    refine callK_own [0, 2] (insert133 n i hn hle _ _) (by simp) rfl ⟨rfl, rfl, trivial⟩ ?_
    simp [go_sem]
    refine ⟨[3], by simp, fun N => ⟨by simp [go_sem, plN], ?_⟩⟩
    simp [go_sem, plN]
    intro r c hr hc
    unfold insR
    by_cases hri : r = i
    · subst hri
      have hcc : c = 0 ∨ c = 1 ∨ c = 2 := by omega
      simp only [plF, if_neg (Nat.lt_irrefl _), if_pos]
      rcases hcc with rfl | rfl | rfl <;> rfl
    · simp only [plF, if_neg hri]
      split <;> rfl
theorem placed103 (n : Nat) (hn : n ≤ 1000000) (y : Nat → MarkG) (x : MarkG) (most : Int) (cm : Nat → Int) (hc : cm = fun i => lex (cmpI (y i).l x.l) (cmpI (y i).p x.p)) (hm : ∀ a b, a < b → b < n → cm b < 0 → cm a < 0) :
    Own Tryz.prog 47 [.vec 54 5 n fun i j => .r ((y i).c j)] [.sl 0 5 0 n none, x.sv, .i most, .fn (.func 21) [] []] (.tup [.sl 0 5 0 (plN (fnd cm n) n) none, .b (fnd cm n || decide ((n : Int) < most))])
      [.vec 54 5 (plN (fnd cm n) n) fun i j => .r ((plF (fnd cm n) (bnd cm n) y x i).c j)] := by
  refine own_of_GC T_ok Tryz.func47 rfl (by kernel_rfl) (Nat.le_of_ble_eq_true rfl) rfl rfl ?_
  simp [go_sem]
  refine call_lent (v := .tup [.i (bnd cm n : Nat), .b (fnd cm n)]) (by
    simp [go_sem]
    exact search67 n (by omega) _ x.l x.p x.s x.u x.n (21 : FuncId) cm hm (fun i hi => by rw [hc]; exact less68 (y i) x)) rfl ?_
  have hle : bnd cm n ≤ n := bnd_le
  by_cases hf : fnd cm n = true
  · have hb : bnd cm n < n := by simp [fnd] at hf; exact hf.1
    generalize bnd cm n = i at *
    generalize fnd cm n = f at *
    subst hf
    simp [go_sem]
    refine ⟨hb, [0], by simp, fun N => ⟨by simp [go_sem, plN], ?_⟩⟩
    simp [go_sem, plN]
    intro r c hr hc
    by_cases hri : r = i
    · subst hri
      rw [if_pos ⟨rfl, hc⟩]
      have hcc : c = 0 ∨ c = 1 ∨ c = 2 ∨ c = 3 ∨ c = 4 := by omega
      simp only [plF, if_neg (Nat.lt_irrefl _), if_pos]
      rcases hcc with rfl | rfl | rfl | rfl | rfl <;> rfl
    · rw [if_neg (fun h => hri h.1)]
      simp only [plF, if_neg hri, if_true]
      split <;> rfl
  · have hf : fnd cm n = false := by simpa using hf
    generalize bnd cm n = i at *
    generalize fnd cm n = f at *
    subst hf
    simp [go_sem]
    simp only [row5]
    refine callK_own [0, 2] (insert134 n i hn hle _ _) (by simp) rfl ⟨rfl, rfl, trivial⟩ ?_
    simp [go_sem]
    refine ⟨[3], by simp, fun N => ⟨by simp [go_sem, plN], ?_⟩⟩
    simp [go_sem, plN]
    intro r c hr hc
    unfold insR
    by_cases hri : r = i
    · subst hri
      have hcc : c = 0 ∨ c = 1 ∨ c = 2 ∨ c = 3 ∨ c = 4 := by omega
      simp only [plF, if_neg (Nat.lt_irrefl _), if_pos]
      rcases hcc with rfl | rfl | rfl | rfl | rfl <;> rfl
    · simp only [plF, if_neg hri]
      split <;> rfl

def RG.cnE (g : RG) (x : ConG) : Int := if g.valid then (if x.good then (if fnd (g.cmC x.p x.q) g.nc || decide ((g.nc : Int) < 40) then 0 else 9) else 2) else 8
def RG.putC (g : RG) (x : ConG) : RG := { g with nc := plN (fnd (g.cmC x.p x.q) g.nc) g.nc, c := plF (fnd (g.cmC x.p x.q) g.nc) (bnd (g.cmC x.p x.q) g.nc) g.c x }
def RG.mkE (g : RG) (x : MarkG) : Int := if g.valid then (if x.good then (if fnd (g.cm x.l x.p) g.nm || decide ((g.nm : Int) < 40) then 0 else 9) else 2) else 8
def RG.putM (g : RG) (x : MarkG) : RG := { g with nm := plN (fnd (g.cm x.l x.p) g.nm) g.nm, m := plF (fnd (g.cm x.l x.p) g.nm) (bnd (g.cm x.l x.p) g.nm) g.m x }
theorem put43 (g : RG) (x : ConG) (h : g.OK) : Pure Tryz.prog 11 [g.sv, x.sv] (· = .tup [(if g.cnE x = 0 then g.putC x else RG.nil).sv, .i (g.cnE x)]) := by
  refine Pure.ofSub ?_
  refine pure_of_GC T_ok Tryz.func11 rfl (by kernel_rfl) (Nat.le_of_ble_eq_true rfl) rfl rfl ?_
  simp [go_sem]
  refine call_val (check28 g h) rfl rfl ?_
  by_cases hv : g.valid = true
  rotate_left
  · have ha : g.cnE x = 8 := by unfold RG.cnE; rw [if_neg hv]
    simp [go_sem, hv, ha, RG.nil]
  have hl := RG.lim hv
  simp [go_sem, hv]
  refine call_val (goodConsent73 x) rfl rfl ?_
  by_cases hx : x.good = true
  rotate_left
  · have ha : g.cnE x = 2 := by unfold RG.cnE; rw [if_pos hv, if_neg hx]
    simp [go_sem, hx, ha, RG.nil]
  simp [go_sem, hx]
  refine callK_own [] (copied49 g (by omega) (by omega) (by omega) (by omega)) (by simp) rfl trivial ?_
  simp [go_sem]
  refine callK_own [4] (placed100 g.nc (by omega) g.c x 40 (g.cmC x.p x.q) rfl (RG.cmC_mono (RG.v5 hv) _ _)) (by simp) rfl ⟨rfl, trivial⟩ ?_
  have hE : g.cnE x = if fnd (g.cmC x.p x.q) g.nc || decide ((g.nc : Int) < 40) then 0 else 9 := by unfold RG.cnE; rw [if_pos hv, if_pos hx]
  generalize hf : (fnd (g.cmC x.p x.q) g.nc || decide ((g.nc : Int) < 40)) = f at *
  cases f
  · have ha : g.cnE x = 9 := hE
    simp [go_sem, ha, RG.nil]
  · have ha : g.cnE x = 0 := hE
    simp [go_sem, ha]
    exact ⟨⟨rfl, fun _ _ _ _ => rfl⟩, ⟨rfl, fun _ _ _ _ => rfl⟩, ⟨rfl, fun _ _ _ _ => rfl⟩, rfl, fun _ _ _ _ => rfl⟩
theorem put46 (g : RG) (x : MarkG) (h : g.OK) : Pure Tryz.prog 15 [g.sv, x.sv] (· = .tup [(if g.mkE x = 0 then g.putM x else RG.nil).sv, .i (g.mkE x)]) := by
  refine Pure.ofSub ?_
  refine pure_of_GC T_ok Tryz.func15 rfl (by kernel_rfl) (Nat.le_of_ble_eq_true rfl) rfl rfl ?_
  simp [go_sem]
  refine call_val (check28 g h) rfl rfl ?_
  by_cases hv : g.valid = true
  rotate_left
  · have ha : g.mkE x = 8 := by unfold RG.mkE; rw [if_neg hv]
    simp [go_sem, hv, ha, RG.nil]
  have hl := RG.lim hv
  simp [go_sem, hv]
  refine call_val (goodMark77 x) rfl rfl ?_
  by_cases hx : x.good = true
  rotate_left
  · have ha : g.mkE x = 2 := by unfold RG.mkE; rw [if_pos hv, if_neg hx]
    simp [go_sem, hx, ha, RG.nil]
  simp [go_sem, hx]
  refine callK_own [] (copied49 g (by omega) (by omega) (by omega) (by omega)) (by simp) rfl trivial ?_
  simp [go_sem]
  refine callK_own [6] (placed103 g.nm (by omega) g.m x 40 (g.cm x.l x.p) rfl (RG.cm_mono (RG.v6 hv) _ _)) (by simp) rfl ⟨rfl, trivial⟩ ?_
  have hE : g.mkE x = if fnd (g.cm x.l x.p) g.nm || decide ((g.nm : Int) < 40) then 0 else 9 := by unfold RG.mkE; rw [if_pos hv, if_pos hx]
  generalize hf : (fnd (g.cm x.l x.p) g.nm || decide ((g.nm : Int) < 40)) = f at *
  cases f
  · have ha : g.mkE x = 9 := hE
    simp [go_sem, ha, RG.nil]
  · have ha : g.mkE x = 0 := hE
    simp [go_sem, ha]
    exact ⟨⟨rfl, fun _ _ _ _ => rfl⟩, ⟨rfl, fun _ _ _ _ => rfl⟩, ⟨rfl, fun _ _ _ _ => rfl⟩, rfl, fun _ _ _ _ => rfl⟩

end Go.Gx.Rg
