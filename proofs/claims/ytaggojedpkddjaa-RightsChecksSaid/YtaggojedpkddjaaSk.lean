/-
  The reference's Consent and Put.
-/
import Derived.Test.YtaggojedpkddjaaSj
set_option linter.unusedVariables false
set_option linter.unusedSimpArgs false
set_option maxRecDepth 20000
set_option maxHeartbeats 2000000
namespace Go.Gx
open Go.RowKit Go.Proofs Go.Proofs.Ytaggojedpkddjaa

theorem plrowf44 {y : Nat → ConG} {x : ConG} {k m r c : Nat} (hr : r < k + 1 + m) (hc : c < 3) :
    joined (k + 1) m (joined k 1 (fun i j => (y i).c j) fun i j => ([.i x.p, .i x.q, .i x.u][i * 3 + j]?.getD (SV.r RV.any)).toRV) (fun i j => (y (k + i)).c j) r c = (plF false k y x r).c c := by
  unfold joined plF
  by_cases h1 : r < k
  · rw [if_pos (by omega), if_pos h1, if_pos h1]
  by_cases h2 : r = k
  · subst h2
    rw [if_pos (by omega), if_neg h1, if_pos (by omega), if_neg h1, if_pos rfl]
    have hcc : c = 0 ∨ c = 1 ∨ c = 2 := by omega
    simp only [Nat.sub_self]
    rcases hcc with rfl | rfl | rfl <;> rfl
  · rw [if_neg (by omega), if_pos (by omega), if_neg h1, if_neg h2]
    simp only [show k + (r - (k + 1)) = r - 1 from by omega]
    rfl
theorem plrowt44 {y : Nat → ConG} {x : ConG} {k m r c : Nat} (hr : r < k + 1 + m) (hc : c < 3) :
    joined (k + 1) m (joined k 1 (fun i j => (y i).c j) fun i j => ([.i x.p, .i x.q, .i x.u][i * 3 + j]?.getD (SV.r RV.any)).toRV) (fun i j => (y (k + 1 + i)).c j) r c = (plF true k y x r).c c := by
  unfold joined plF
  by_cases h1 : r < k
  · rw [if_pos (by omega), if_pos h1, if_pos h1]
  by_cases h2 : r = k
  · subst h2
    rw [if_pos (by omega), if_neg h1, if_pos (by omega), if_neg h1, if_pos rfl]
    have hcc : c = 0 ∨ c = 1 ∨ c = 2 := by omega
    simp only [Nat.sub_self]
    rcases hcc with rfl | rfl | rfl <;> rfl
  · rw [if_neg (by omega), if_pos (by omega), if_neg h1, if_neg h2]
    simp only [show k + 1 + (r - (k + 1)) = r from by omega]
    rfl
theorem ref44 (g : RG) (x : ConG) (h : g.OK) : Pure Try.prog 44 [g.sv, x.sv] (· = .tup [(if g.cnE x = 0 then g.putC x else RG.nil).sv, .i (g.cnE x)]) := by
  refine Pure.ofSub ?_
  refine pure_of_GC T_ok Try.func44 rfl (by kernel_rfl) (Nat.le_of_ble_eq_true rfl) rfl rfl ?_
  simp [go_sem]
  refine call_val (valid58 g h) rfl rfl ?_
  by_cases hv : g.valid = true
  rotate_left
  · have hv' : g.valid = false := by simpa using hv
    have ha : g.cnE x = 8 := by unfold RG.cnE; rw [if_neg hv]
    simp [go_sem, hv', ha, RG.nil]
  have hl := RG.lim hv
  rw [hv]
  simp [go_sem]
  refine call_val (validConsent101 x) rfl rfl ?_
  by_cases hx : x.good = true
  rotate_left
  · have hx' : x.good = false := by simpa using hx
    have ha : g.cnE x = 2 := by unfold RG.cnE; rw [if_pos hv, if_neg hx]
    simp [go_sem, hx', ha, RG.nil]
  rw [hx]
  simp [go_sem]
  have hm := RG.cmC_mono (RG.v5 hv) x.p x.q
  have hbl : bnd (g.cmC x.p x.q) g.nc ≤ g.nc := bnd_le
  have lo : ∀ {j : Nat}, j < bnd (g.cmC x.p x.q) g.nc → g.cmC x.p x.q j < 0 := fun h => bnd_lo h
  have hi' : ∀ {j : Nat}, bnd (g.cmC x.p x.q) g.nc ≤ j → j < g.nc → 0 ≤ g.cmC x.p x.q j := fun h1 h2 => bnd_hi hm h1 h2
  have hE : g.cnE x = if fnd (g.cmC x.p x.q) g.nc || decide ((g.nc : Int) < 40) then 0 else 9 := by unfold RG.cnE; rw [if_pos hv, if_pos hx]
  have hfd : fnd (g.cmC x.p x.q) g.nc = (decide (bnd (g.cmC x.p x.q) g.nc < g.nc) && decide (g.cmC x.p x.q (bnd (g.cmC x.p x.q) g.nc) = 0)) := rfl
  have hput : g.putC x = { g with nc := plN (fnd (g.cmC x.p x.q) g.nc) g.nc, c := plF (fnd (g.cmC x.p x.q) g.nc) (bnd (g.cmC x.p x.q) g.nc) g.c x } := rfl
  refine GLoop_pre (GSt.adopt 6 65 3 (fun i j => (g.c i).c j) (by simp [go_sem])) ?_
  refine GLoop_s T_ok (α := Nat) (fun k => [(2, .ptr 0 0 4 0), (3, .ptr 1 0 3 0), (4, .ptr 2 0 4 0), (6, .sl 3 3 0 k none), (7, .i k)])
    (fun k => g.box ++ [some (.box [.i x.p, .i x.q, .i x.u]), some (.box [nilS, nilS, nilS, nilS]), some (.vec 65 3 k fun i j => (g.c i).c j)]) 4 (fun k => k ≤ bnd (g.cmC x.p x.q) g.nc) (fun k => g.nc - k) 0 (fun _ => rfl) (by simp) (by simp [go_sem]) (by simp [go_sem]) ?_
  intro k J hi
  generalize bnd (g.cmC x.p x.q) g.nc = b at *
  simp [go_sem]
  refine GDraw_all T_ok (by kernel_rfl) (by kernel_rfl) ?_
  by_cases hlt : k < g.nc
  rotate_left
  · have hkb : k = b := by omega
    have hF : fnd (g.cmC x.p x.q) g.nc = false := by rw [hfd]; simp; omega
    rw [hF] at hE hput
    simp [go_sem, hlt]
    refine ⟨⟨by omega, by omega⟩, ?_⟩
    refine GDraw_all T_ok (by kernel_rfl) (by kernel_rfl) ?_
    simp [go_sem, hlt]
    refine ⟨by omega, ⟨by omega, by omega⟩, ?_⟩
    by_cases hbig : (g.nc : Int) < 40
    rotate_left
    · have ha : g.cnE x = 9 := by rw [hE]; simp [hbig]
      rw [if_pos (by omega)]
      simp [ha, RG.nil]
    have ha : g.cnE x = 0 := by rw [hE]; simp [hbig]
    rw [if_neg (by omega)]
    refine callK_own [] (twin17 g (by omega) (by omega) (by omega) (by omega)) (by simp) rfl trivial ?_
    simp [go_sem, ha]
    rw [hput]
    exact ⟨⟨rfl, fun _ _ _ _ => rfl⟩, ⟨by show _ = g.nc + 1; omega, fun r c hr hc => by subst hkb; exact plrowf44 hr hc⟩, ⟨rfl, fun _ _ _ _ => rfl⟩, rfl, fun _ _ _ _ => rfl⟩
  have hbf := before102 (g.c k).p (g.c k).q x.p x.q
  by_cases hc : g.cmC x.p x.q k < 0
  · have hbt := hbf.val (v' := .b true) (by simp [RG.cmC] at hc; simp [hc])
    have hkb : k < b := by
      rcases Nat.lt_or_ge k b with h1 | h1
      · exact h1
      · have := hi' h1 hlt; omega
    simp [go_sem, hlt]
    refine ⟨_, dcall_val hbt rfl rfl, ?_⟩
    simp [go_sem, hlt]
    refine ⟨⟨by omega, by omega⟩, by omega, k + 1, by omega, by omega, ⟨rfl, by omega⟩, by omega, fun r c hr hc => ?_⟩
    unfold joined
    by_cases h1 : r < k
    · rw [if_pos h1]
    · rw [if_neg h1, if_pos (by omega)]
      have h2 : r = k := by omega
      subst h2
      have hcc : c = 0 ∨ c = 1 ∨ c = 2 := by omega
      simp only [Nat.sub_self]
      rcases hcc with rfl | rfl | rfl <;> rfl
  · have hbt := hbf.val (v' := .b false) (by simp [RG.cmC] at hc; simp; omega)
    have hkb : k = b := by
      rcases Nat.lt_or_ge k b with h1 | h1
      · exact absurd (lo h1) hc
      · omega
    simp [go_sem, hlt]
    refine ⟨_, dcall_val hbt rfl rfl, ?_⟩
    simp [go_sem, hlt]
    refine ⟨⟨by omega, by omega⟩, ?_⟩
    refine GDraw_all T_ok (by kernel_rfl) (by kernel_rfl) ?_
    by_cases e1 : (g.c k).p = x.p
    rotate_left
    · have hF : fnd (g.cmC x.p x.q) g.nc = false := by rw [hfd, ← hkb]; simp [RG.cmC, lex_eq, e1]
      rw [hF] at hE hput
      simp [go_sem, hlt, e1]
      refine ⟨by omega, ⟨by omega, by omega⟩, ?_⟩
      by_cases hbig : (g.nc : Int) < 40
      rotate_left
      · have ha : g.cnE x = 9 := by rw [hE]; simp [hbig]
        rw [if_pos (by omega)]
        simp [ha, RG.nil]
      have ha : g.cnE x = 0 := by rw [hE]; simp [hbig]
      rw [if_neg (by omega)]
      refine callK_own [] (twin17 g (by omega) (by omega) (by omega) (by omega)) (by simp) rfl trivial ?_
      simp [go_sem, ha]
      rw [hput]
      exact ⟨⟨rfl, fun _ _ _ _ => rfl⟩, ⟨by show _ = g.nc + 1; omega, fun r c hr hc => by subst hkb; exact plrowf44 hr hc⟩, ⟨rfl, fun _ _ _ _ => rfl⟩, rfl, fun _ _ _ _ => rfl⟩
    by_cases e2 : (g.c k).q = x.q
    rotate_left
    · have hF : fnd (g.cmC x.p x.q) g.nc = false := by rw [hfd, ← hkb]; simp [RG.cmC, lex_eq, e2]
      rw [hF] at hE hput
      simp [go_sem, hlt, e1, e2]
      refine ⟨by omega, ⟨by omega, by omega⟩, ?_⟩
      by_cases hbig : (g.nc : Int) < 40
      rotate_left
      · have ha : g.cnE x = 9 := by rw [hE]; simp [hbig]
        rw [if_pos (by omega)]
        simp [ha, RG.nil]
      have ha : g.cnE x = 0 := by rw [hE]; simp [hbig]
      rw [if_neg (by omega)]
      refine callK_own [] (twin17 g (by omega) (by omega) (by omega) (by omega)) (by simp) rfl trivial ?_
      simp [go_sem, ha]
      rw [hput]
      exact ⟨⟨rfl, fun _ _ _ _ => rfl⟩, ⟨by show _ = g.nc + 1; omega, fun r c hr hc => by subst hkb; exact plrowf44 hr hc⟩, ⟨rfl, fun _ _ _ _ => rfl⟩, rfl, fun _ _ _ _ => rfl⟩
    have hF : fnd (g.cmC x.p x.q) g.nc = true := by rw [hfd, ← hkb]; simp [RG.cmC, lex_eq, e1, e2, hlt]
    rw [hF] at hE hput
    simp [go_sem, hlt, e1, e2]
    refine ⟨by omega, ⟨by omega, by omega⟩, ⟨by omega, by omega⟩, ?_⟩
    have ha : g.cnE x = 0 := by rw [hE]; simp
    rw [if_neg (by omega)]
    refine callK_own [] (twin17 g (by omega) (by omega) (by omega) (by omega)) (by simp) rfl trivial ?_
    simp [go_sem, ha]
    rw [hput]
    exact ⟨⟨rfl, fun _ _ _ _ => rfl⟩, ⟨by show _ = g.nc; omega, fun r c hr hc => by subst hkb; exact plrowt44 hr hc⟩, ⟨rfl, fun _ _ _ _ => rfl⟩, rfl, fun _ _ _ _ => rfl⟩
theorem plrowf47 {y : Nat → MarkG} {x : MarkG} {k m r c : Nat} (hr : r < k + 1 + m) (hc : c < 5) :
    joined (k + 1) m (joined k 1 (fun i j => (y i).c j) fun i j => ([.i x.l, .i x.p, .i x.s, .i x.u, .i x.n][i * 5 + j]?.getD (SV.r RV.any)).toRV) (fun i j => (y (k + i)).c j) r c = (plF false k y x r).c c := by
  unfold joined plF
  by_cases h1 : r < k
  · rw [if_pos (by omega), if_pos h1, if_pos h1]
  by_cases h2 : r = k
  · subst h2
    rw [if_pos (by omega), if_neg h1, if_pos (by omega), if_neg h1, if_pos rfl]
    have hcc : c = 0 ∨ c = 1 ∨ c = 2 ∨ c = 3 ∨ c = 4 := by omega
    simp only [Nat.sub_self]
    rcases hcc with rfl | rfl | rfl | rfl | rfl <;> rfl
  · rw [if_neg (by omega), if_pos (by omega), if_neg h1, if_neg h2]
    simp only [show k + (r - (k + 1)) = r - 1 from by omega]
    rfl
theorem plrowt47 {y : Nat → MarkG} {x : MarkG} {k m r c : Nat} (hr : r < k + 1 + m) (hc : c < 5) :
    joined (k + 1) m (joined k 1 (fun i j => (y i).c j) fun i j => ([.i x.l, .i x.p, .i x.s, .i x.u, .i x.n][i * 5 + j]?.getD (SV.r RV.any)).toRV) (fun i j => (y (k + 1 + i)).c j) r c = (plF true k y x r).c c := by
  unfold joined plF
  by_cases h1 : r < k
  · rw [if_pos (by omega), if_pos h1, if_pos h1]
  by_cases h2 : r = k
  · subst h2
    rw [if_pos (by omega), if_neg h1, if_pos (by omega), if_neg h1, if_pos rfl]
    have hcc : c = 0 ∨ c = 1 ∨ c = 2 ∨ c = 3 ∨ c = 4 := by omega
    simp only [Nat.sub_self]
    rcases hcc with rfl | rfl | rfl | rfl | rfl <;> rfl
  · rw [if_neg (by omega), if_pos (by omega), if_neg h1, if_neg h2]
    simp only [show k + 1 + (r - (k + 1)) = r from by omega]
    rfl
theorem ref47 (g : RG) (x : MarkG) (h : g.OK) : Pure Try.prog 47 [g.sv, x.sv] (· = .tup [(if g.mkE x = 0 then g.putM x else RG.nil).sv, .i (g.mkE x)]) := by
  refine Pure.ofSub ?_
  refine pure_of_GC T_ok Try.func47 rfl (by kernel_rfl) (Nat.le_of_ble_eq_true rfl) rfl rfl ?_
  simp [go_sem]
  refine call_val (valid58 g h) rfl rfl ?_
  by_cases hv : g.valid = true
  rotate_left
  · have hv' : g.valid = false := by simpa using hv
    have ha : g.mkE x = 8 := by unfold RG.mkE; rw [if_neg hv]
    simp [go_sem, hv', ha, RG.nil]
  have hl := RG.lim hv
  rw [hv]
  simp [go_sem]
  refine call_val (validMark104 x) rfl rfl ?_
  by_cases hx : x.good = true
  rotate_left
  · have hx' : x.good = false := by simpa using hx
    have ha : g.mkE x = 2 := by unfold RG.mkE; rw [if_pos hv, if_neg hx]
    simp [go_sem, hx', ha, RG.nil]
  rw [hx]
  simp [go_sem]
  have hm := RG.cm_mono (RG.v6 hv) x.l x.p
  have hbl : bnd (g.cm x.l x.p) g.nm ≤ g.nm := bnd_le
  have lo : ∀ {j : Nat}, j < bnd (g.cm x.l x.p) g.nm → g.cm x.l x.p j < 0 := fun h => bnd_lo h
  have hi' : ∀ {j : Nat}, bnd (g.cm x.l x.p) g.nm ≤ j → j < g.nm → 0 ≤ g.cm x.l x.p j := fun h1 h2 => bnd_hi hm h1 h2
  have hE : g.mkE x = if fnd (g.cm x.l x.p) g.nm || decide ((g.nm : Int) < 40) then 0 else 9 := by unfold RG.mkE; rw [if_pos hv, if_pos hx]
  have hfd : fnd (g.cm x.l x.p) g.nm = (decide (bnd (g.cm x.l x.p) g.nm < g.nm) && decide (g.cm x.l x.p (bnd (g.cm x.l x.p) g.nm) = 0)) := rfl
  have hput : g.putM x = { g with nm := plN (fnd (g.cm x.l x.p) g.nm) g.nm, m := plF (fnd (g.cm x.l x.p) g.nm) (bnd (g.cm x.l x.p) g.nm) g.m x } := rfl
  refine GLoop_pre (GSt.adopt 6 69 5 (fun i j => (g.m i).c j) (by simp [go_sem])) ?_
  refine GLoop_s T_ok (α := Nat) (fun k => [(2, .ptr 0 0 4 0), (3, .ptr 1 0 5 0), (4, .ptr 2 0 4 0), (6, .sl 3 5 0 k none), (7, .i k)])
    (fun k => g.box ++ [some (.box [.i x.l, .i x.p, .i x.s, .i x.u, .i x.n]), some (.box [nilS, nilS, nilS, nilS]), some (.vec 69 5 k fun i j => (g.m i).c j)]) 4 (fun k => k ≤ bnd (g.cm x.l x.p) g.nm) (fun k => g.nm - k) 0 (fun _ => rfl) (by simp) (by simp [go_sem]) (by simp [go_sem]) ?_
  intro k J hi
  generalize bnd (g.cm x.l x.p) g.nm = b at *
  simp [go_sem]
  refine GDraw_all T_ok (by kernel_rfl) (by kernel_rfl) ?_
  by_cases hlt : k < g.nm
  rotate_left
  · have hkb : k = b := by omega
    have hF : fnd (g.cm x.l x.p) g.nm = false := by rw [hfd]; simp; omega
    rw [hF] at hE hput
    simp [go_sem, hlt]
    refine ⟨⟨by omega, by omega⟩, ?_⟩
    refine GDraw_all T_ok (by kernel_rfl) (by kernel_rfl) ?_
    simp [go_sem, hlt]
    refine ⟨by omega, ⟨by omega, by omega⟩, ?_⟩
    by_cases hbig : (g.nm : Int) < 40
    rotate_left
    · have ha : g.mkE x = 9 := by rw [hE]; simp [hbig]
      rw [if_pos (by omega)]
      simp [ha, RG.nil]
    have ha : g.mkE x = 0 := by rw [hE]; simp [hbig]
    rw [if_neg (by omega)]
    refine callK_own [] (twin17 g (by omega) (by omega) (by omega) (by omega)) (by simp) rfl trivial ?_
    simp [go_sem, ha]
    rw [hput]
    exact ⟨⟨rfl, fun _ _ _ _ => rfl⟩, ⟨rfl, fun _ _ _ _ => rfl⟩, ⟨rfl, fun _ _ _ _ => rfl⟩, by show _ = g.nm + 1; omega, fun r c hr hc => by subst hkb; exact plrowf47 hr hc⟩
  have hbf := before102 (g.m k).l (g.m k).p x.l x.p
  by_cases hc : g.cm x.l x.p k < 0
  · have hbt := hbf.val (v' := .b true) (by simp [RG.cm] at hc; simp [hc])
    have hkb : k < b := by
      rcases Nat.lt_or_ge k b with h1 | h1
      · exact h1
      · have := hi' h1 hlt; omega
    simp [go_sem, hlt]
    refine ⟨_, dcall_val hbt rfl rfl, ?_⟩
    simp [go_sem, hlt]
    refine ⟨⟨by omega, by omega⟩, by omega, k + 1, by omega, by omega, ⟨rfl, by omega⟩, by omega, fun r c hr hc => ?_⟩
    unfold joined
    by_cases h1 : r < k
    · rw [if_pos h1]
    · rw [if_neg h1, if_pos (by omega)]
      have h2 : r = k := by omega
      subst h2
      have hcc : c = 0 ∨ c = 1 ∨ c = 2 ∨ c = 3 ∨ c = 4 := by omega
      simp only [Nat.sub_self]
      rcases hcc with rfl | rfl | rfl | rfl | rfl <;> rfl
  · have hbt := hbf.val (v' := .b false) (by simp [RG.cm] at hc; simp; omega)
    have hkb : k = b := by
      rcases Nat.lt_or_ge k b with h1 | h1
      · exact absurd (lo h1) hc
      · omega
    simp [go_sem, hlt]
    refine ⟨_, dcall_val hbt rfl rfl, ?_⟩
    simp [go_sem, hlt]
    refine ⟨⟨by omega, by omega⟩, ?_⟩
    refine GDraw_all T_ok (by kernel_rfl) (by kernel_rfl) ?_
    by_cases e1 : (g.m k).l = x.l
    rotate_left
    · have hF : fnd (g.cm x.l x.p) g.nm = false := by rw [hfd, ← hkb]; simp [RG.cm, lex_eq, e1]
      rw [hF] at hE hput
      simp [go_sem, hlt, e1]
      refine ⟨by omega, ⟨by omega, by omega⟩, ?_⟩
      by_cases hbig : (g.nm : Int) < 40
      rotate_left
      · have ha : g.mkE x = 9 := by rw [hE]; simp [hbig]
        rw [if_pos (by omega)]
        simp [ha, RG.nil]
      have ha : g.mkE x = 0 := by rw [hE]; simp [hbig]
      rw [if_neg (by omega)]
      refine callK_own [] (twin17 g (by omega) (by omega) (by omega) (by omega)) (by simp) rfl trivial ?_
      simp [go_sem, ha]
      rw [hput]
      exact ⟨⟨rfl, fun _ _ _ _ => rfl⟩, ⟨rfl, fun _ _ _ _ => rfl⟩, ⟨rfl, fun _ _ _ _ => rfl⟩, by show _ = g.nm + 1; omega, fun r c hr hc => by subst hkb; exact plrowf47 hr hc⟩
    by_cases e2 : (g.m k).p = x.p
    rotate_left
    · have hF : fnd (g.cm x.l x.p) g.nm = false := by rw [hfd, ← hkb]; simp [RG.cm, lex_eq, e2]
      rw [hF] at hE hput
      simp [go_sem, hlt, e1, e2]
      refine ⟨by omega, ⟨by omega, by omega⟩, ?_⟩
      by_cases hbig : (g.nm : Int) < 40
      rotate_left
      · have ha : g.mkE x = 9 := by rw [hE]; simp [hbig]
        rw [if_pos (by omega)]
        simp [ha, RG.nil]
      have ha : g.mkE x = 0 := by rw [hE]; simp [hbig]
      rw [if_neg (by omega)]
      refine callK_own [] (twin17 g (by omega) (by omega) (by omega) (by omega)) (by simp) rfl trivial ?_
      simp [go_sem, ha]
      rw [hput]
      exact ⟨⟨rfl, fun _ _ _ _ => rfl⟩, ⟨rfl, fun _ _ _ _ => rfl⟩, ⟨rfl, fun _ _ _ _ => rfl⟩, by show _ = g.nm + 1; omega, fun r c hr hc => by subst hkb; exact plrowf47 hr hc⟩
    have hF : fnd (g.cm x.l x.p) g.nm = true := by rw [hfd, ← hkb]; simp [RG.cm, lex_eq, e1, e2, hlt]
    rw [hF] at hE hput
    simp [go_sem, hlt, e1, e2]
    refine ⟨by omega, ⟨by omega, by omega⟩, ⟨by omega, by omega⟩, ?_⟩
    have ha : g.mkE x = 0 := by rw [hE]; simp
    rw [if_neg (by omega)]
    refine callK_own [] (twin17 g (by omega) (by omega) (by omega) (by omega)) (by simp) rfl trivial ?_
    simp [go_sem, ha]
    rw [hput]
    exact ⟨⟨rfl, fun _ _ _ _ => rfl⟩, ⟨rfl, fun _ _ _ _ => rfl⟩, ⟨rfl, fun _ _ _ _ => rfl⟩, by show _ = g.nm; omega, fun r c hr hc => by subst hkb; exact plrowt47 hr hc⟩
end Go.Gx
