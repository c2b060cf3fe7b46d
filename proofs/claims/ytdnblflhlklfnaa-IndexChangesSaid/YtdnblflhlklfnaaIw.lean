/-
  Search for any index, probe, turns and limit; Pairs.
-/
import Derived.Test.YtdnblflhlklfnaaIt
import Derived.Test.YtdnblflhlklfnaaIv
set_option linter.unusedVariables false
set_option linter.unusedSimpArgs false
set_option maxRecDepth 20000
set_option maxHeartbeats 4000000
namespace Go.Gx.Ix
open Go.RowKit Go.Proofs Go.Proofs.Ytdnblflhlklfnaa

theorem mE_ok {x y : IrG} {turns num den : Int} (h : mE x y turns num den = 0) : x.ok = true ∧ y.ok = true ∧ (0 ≤ turns ∧ turns ≤ 7) ∧ (1 ≤ den ∧ den ≤ 1000) ∧ 0 ≤ num ∧ num ≤ den := by
  unfold mE at h
  split at h
  · rename_i h1
    split at h
    · rename_i h2
      simp only [Bool.and_eq_true, vL, btw, decide_eq_true_eq] at h1 h2
      exact ⟨h1.1, h1.2, by omega, by omega, by omega, by omega⟩
    · cases h
  · cases h
/-- What Search answers. -/
def srE (x : IxG) (b : IrG) (turns num den : Int) : Int := if validX x = false then 40 else mE b b turns num den
def srIds (x : IxG) (b : IrG) (turns num den : Int) : List Int := if srE x b turns num den = 0 then fndM x.ms b turns.toNat num.toNat den.toNat else []
def srSn (x : IxG) (b : IrG) (turns num den : Int) : Nat := if srE x b turns num den = 0 then snM x.ms b turns.toNat num.toNat den.toNat else 0
theorem sv_ofG {x : IxG} (h : validX x = true) : x.sv = (ofG x.ms).sv := by
  obtain ⟨h1, h2, h3⟩ := valid_eq h
  unfold IxG.sv
  rw [ofG_ms h2]
  congr 2
  refine List.map_congr_left fun j hj => ?_
  rw [h3 j (List.mem_range.1 hj)]
theorem search33e (x : IxG) (h : x.Sm) (b : IrG) (turns num den : Int) (hne : srE x b turns num den ≠ 0) : Pure Try.prog 33 [x.sv, b.sv, .i turns, .agg [.i num, .i den]] (· = .tup [.agg [nilS, .i 0], .i (srE x b turns num den)]) := by
  refine pure_of_GC T_ok Try.func33 rfl (by kernel_rfl) (Nat.le_of_ble_eq_true rfl) rfl rfl ?_
  have hc := check19 x h
  cases hv : validX x
  · have e : srE x b turns num den = 40 := by unfold srE; rw [if_pos hv]
    rw [e]
    simp [go_sem, IxG.sv] at hc ⊢
    refine call_val hc rfl rfl ?_
    simp [go_sem, checkE, hv]
  · have e : srE x b turns num den = mE b b turns num den := by unfold srE; rw [if_neg (by rw [hv]; simp)]
    rw [e] at hne ⊢
    simp [go_sem, IxG.sv] at hc ⊢
    refine call_val hc rfl rfl ?_
    simp [go_sem, checkE, hv]
    refine call_val (match39 b b turns num den) rfl rfl ?_
    generalize mE b b turns num den = e at hne
    simp [go_sem, hne]
theorem search33f (x : IxG) (h : x.Sm) (b : IrG) (turns num den : Int) : Pure Try.prog 33 [x.sv, b.sv, .i turns, .agg [.i num, .i den]] (· = .tup [.agg [ils (srIds x b turns num den), .i (srSn x b turns num den)], .i (srE x b turns num den)]) := by
  by_cases h0 : srE x b turns num den = 0
  · have hv : validX x = true := by
      cases hv : validX x
      · unfold srE at h0; rw [if_pos hv] at h0; cases h0
      · rfl
    have hm : mE b b turns num den = 0 := by unfold srE at h0; rwa [if_neg (by rw [hv]; simp)] at h0
    obtain ⟨h1, h2, h3⟩ := valid_eq hv
    obtain ⟨k1, _, k2, k3, k4⟩ := mE_ok hm
    have e1 : srIds x b turns num den = fndM x.ms b turns.toNat num.toNat den.toNat := by unfold srIds; rw [if_pos h0]
    have e2 : srSn x b turns num den = snM x.ms b turns.toNat num.toNat den.toNat := by unfold srSn; rw [if_pos h0]
    rw [e1, e2, h0, sv_ofG hv]
    obtain ⟨n, rfl⟩ : ∃ n : Nat, turns = n := ⟨turns.toNat, by omega⟩
    obtain ⟨nm, rfl⟩ : ∃ n : Nat, num = n := ⟨num.toNat, by omega⟩
    obtain ⟨d, rfl⟩ : ∃ n : Nat, den = n := ⟨den.toNat, by omega⟩
    have hs := search33 (ofG x.ms) (ofG_valS h1) b n nm d hm (fun i => tn_ok _ k1)
    rw [found_eq h1 b n nm d (by omega), seenN_eq h1, srt_id h2] at hs
    exact hs
  · have e1 : srIds x b turns num den = [] := by unfold srIds; rw [if_neg h0]
    have e2 : srSn x b turns num den = 0 := by unfold srSn; rw [if_neg h0]
    rw [e1, e2]
    exact pure_le (search33e x h b turns num den h0) (le_tup ⟨le_agg ⟨le_r (nil_rs 1 _), SV.le.rfl, trivial⟩, SV.le.rfl, trivial⟩)

/-- Pairs in rows. -/
abbrev qf (p : Int × Int) : Nat → RV := fun j => match j with | 0 => .i p.1 | _ => .i p.2
abbrev qrows (l : List (Int × Int)) : Nat → Nat → RV := rowsL qf l
abbrev qls (l : List (Int × Int)) : SV := .r (.rs 2 l.length (qrows l))
theorem qrow {l : List (Int × Int)} {i : Nat} (h : i < l.length) (j : Nat) : qrows l i j = qf l[i] j := rowsL_get (List.getElem?_eq_getElem h) j
/-- The pairs with the member at a place, out of some numbers. -/
def prI (ms : List MbG) (i : Nat) (l : List Int) : List (Int × Int) := (l.filter fun a => decide (i < plc ms a)).map fun a => ((ms[i]!).id, a)
def prF (ms : List MbG) (n num den i : Nat) : List Int := fndM ms (ms[i]!).x n num den
def prK (ms : List MbG) (n num den k : Nat) : List (Int × Int) := (List.range k).flatMap fun i => prI ms i (prF ms n num den i)
theorem prK_succ (ms : List MbG) (n num den k : Nat) : prK ms n num den (k + 1) = prK ms n num den k ++ prI ms k (prF ms n num den k) := by
  unfold prK; rw [List.range_succ, List.flatMap_append]; simp
theorem prI_le (ms : List MbG) (i : Nat) (l : List Int) : (prI ms i l).length ≤ l.length := by
  unfold prI; rw [List.length_map]; exact List.length_filter_le _ _
theorem fndM_le (l : List MbG) (b : IrG) (n num den : Nat) : (fndM l b n num den).length ≤ l.length := by
  unfold fndM; rw [List.length_map]; exact List.length_filter_le _ _
theorem prK_le (ms : List MbG) (n num den : Nat) : ∀ k, (prK ms n num den k).length ≤ k * ms.length
  | 0 => by simp [prK]
  | k + 1 => by
    rw [prK_succ, List.length_append, Nat.succ_mul]
    have h1 := prK_le ms n num den k
    have h2 := prI_le ms k (prF ms n num den k)
    have h3 := fndM_le ms (ms[k]!).x n num den
    unfold prF at h2 ⊢
    omega
theorem prI_snoc (ms : List MbG) (i : Nat) (l : List Int) (a : Int) : prI ms i (l ++ [a]) = prI ms i l ++ if i < plc ms a then [((ms[i]!).id, a)] else [] := by
  unfold prI
  rw [List.filter_append, List.map_append]
  congr 1
  by_cases h : i < plc ms a <;> simp [h]
theorem qjoin (Q : List (Int × Int)) (p : Int × Int) (i j : Nat) (hi : i < Q.length + 1) (hj : j < 2) : SV.r (qrows (Q ++ [p]) i j) = SV.trim 4 (SV.kill 2 (joined Q.length 1 (fun a b => SV.r (qrows Q a b)) (fun i j => [SV.i p.1, SV.i p.2][i * 2 + j]?.getD (SV.r RV.any)) i j)) := by
  unfold joined qrows rowsL
  by_cases h : i < Q.length
  · rw [if_pos h, List.getElem?_append_left h]; rfl
  · obtain rfl : i = Q.length := by omega
    rw [if_neg h, if_pos (by omega), List.getElem?_append_right (Nat.le_refl _), Nat.sub_self]
    rcases (show j = 0 ∨ j = 1 by omega) with rfl | rfl <;> rfl
def prE (x : IxG) (turns num den : Int) : Int := if validX x = false then 40 else mE ⟨0, 0⟩ ⟨0, 0⟩ turns num den
def prL (x : IxG) (turns num den : Int) : List (Int × Int) := if prE x turns num den = 0 then prK x.ms turns.toNat num.toNat den.toNat x.ms.length else []
theorem mE_any {a b c d : IrG} (ha : a.ok = true) (hb : b.ok = true) (hc : c.ok = true) (hd : d.ok = true) (turns num den : Int) : mE a b turns num den = mE c d turns num den := by
  unfold mE; rw [ha, hb, hc, hd]
theorem zero_ok : (IrG.mk 0 0).ok = true := by decide
theorem pairs38 (x : IxG) (h : x.Sm) (turns num den : Int) : Pure Try.prog 38 [x.sv, .i turns, .agg [.i num, .i den]] (· = .tup [qls (prL x turns num den), .i (prE x turns num den)]) := by
  obtain ⟨e, he⟩ : ∃ e, prE x turns num den = e := ⟨_, rfl⟩
  obtain ⟨F, hF⟩ : ∃ F, prL x turns num den = F := ⟨_, rfl⟩
  rw [he, hF]
  refine pure_ofLe ?_
  refine pure_of_GC T_ok Try.func38 rfl (by kernel_rfl) (Nat.le_of_ble_eq_true rfl) rfl rfl ?_
  have hc := check19 x h
  cases hv : validX x
  · have e1 : e = 40 := by rw [← he, prE, if_pos hv]
    have e2 : F = [] := by rw [← hF, prL, he, e1]; rfl
    subst e1 e2
    simp [go_sem, IxG.sv] at hc ⊢
    refine call_val hc rfl rfl ?_
    simp [go_sem, checkE, hv]
    exact le_tup ⟨le_r (nil_rs 2 _), SV.le.rfl, trivial⟩
  have e1 : e = mE ⟨0, 0⟩ ⟨0, 0⟩ turns num den := by rw [← he, prE, if_neg (by rw [hv]; simp)]
  have hsf := search33f x h
  simp [go_sem, IxG.sv] at hc hsf ⊢
  refine call_val hc rfl rfl ?_
  simp [go_sem, checkE, hv]
  refine call_val (match39 ⟨0, 0⟩ ⟨0, 0⟩ turns num den) rfl rfl ?_
  rw [← e1]
  by_cases h0 : e = 0
  rotate_left
  · have e2 : F = [] := by rw [← hF, prL, he, if_neg h0]
    subst e2
    simp [go_sem, h0]
    exact le_tup ⟨le_r (nil_rs 2 _), SV.le.rfl, trivial⟩
  rw [h0] at e1 he
  subst h0
  obtain ⟨k1, _, k2, k3, k4⟩ := mE_ok e1.symm
  obtain ⟨v1, v2, v3⟩ := valid_eq hv
  have e2 : F = prK x.ms turns.toNat num.toNat den.toNat x.ms.length := by rw [← hF, prL, if_pos he]
  have hlen := v1.len
  simp [go_sem]
  refine GLoop_pre (GSt.adopt 11 83 2 (fun i j => .r (qrows [] i j)) (by rfl)) ?_
  refine GLoop_s T_ok (α := Nat) (fun k => [(1, .i turns), (3, .ptr 0 0 9 0), (5, .ptr 1 0 2 0), (11, .sl 2 2 0 (prK x.ms turns.toNat num.toNat den.toNat k).length none), (37, mrs x.ms), (38, .i x.ms.length), (39, .i k)])
    (fun k => [some (.box [mrs x.ms, pls (x.ch 0), pls (x.ch 1), pls (x.ch 2), pls (x.ch 3), pls (x.ch 4), pls (x.ch 5), pls (x.ch 6), pls (x.ch 7)]), some (.box [.i num, .i den]), some (.vec 83 2 (prK x.ms turns.toNat num.toNat den.toNat k).length fun i j => .r (qrows (prK x.ms turns.toNat num.toNat den.toNat k) i j))]) 3
    (fun k => k ≤ x.ms.length) (fun k => x.ms.length - k) 0 (fun _ => rfl) (by simp) (by simp [go_sem, prK]) (by simp [go_sem, prK]) ?_
  intro k J hk
  by_cases hlt : k < x.ms.length
  · have r0 := mrow hlt 0
    have r1 := mrow hlt 1
    have r2 := mrow hlt 2
    have hsr := hsf x.ms[k].x turns num den
    have hsE : srE x x.ms[k].x turns num den = 0 := by
      unfold srE; rw [if_neg (by rw [hv]; simp), e1]
      exact mE_any (v1.ok _ (List.getElem_mem hlt)) (v1.ok _ (List.getElem_mem hlt)) zero_ok zero_ok _ _ _
    have hsI : srIds x x.ms[k].x turns num den = prF x.ms turns.toNat num.toNat den.toNat k := by
      unfold srIds prF; rw [if_pos hsE, getElem!_pos x.ms k hlt]
    rw [hsE, hsI] at hsr
    have hsu := prK_succ x.ms turns.toNat num.toNat den.toNat k
    have hfl : (prF x.ms turns.toNat num.toNat den.toNat k).length ≤ x.ms.length := fndM_le ..
    have hpl := prK_le x.ms turns.toNat num.toNat den.toNat k
    have hkl : k * x.ms.length ≤ 256 * 256 := Nat.mul_le_mul (by omega) hlen
    generalize prK x.ms turns.toNat num.toNat den.toNat k = Q at *
    obtain ⟨Q', hsQ⟩ : ∃ Q', prK x.ms turns.toNat num.toNat den.toNat (k + 1) = Q' := ⟨_, rfl⟩
    rw [hsQ] at hsu
    generalize prF x.ms turns.toNat num.toNat den.toNat k = L at *
    generalize srSn x x.ms[k].x turns num den = sn at *
    simp [go_sem, hlt, r0, r1, r2]
    refine call_val hsr rfl rfl ?_
    simp [go_sem]
    refine GLoop_s T_ok (α := Nat) (fun j => [(1, .i turns), (3, .ptr 0 0 9 0), (5, .ptr 1 0 2 0), (11, .sl 2 2 0 (Q ++ prI x.ms k (L.take j)).length none), (12, .i k), (13, .ptr 3 0 3 0), (37, mrs x.ms), (38, .i x.ms.length), (39, .i k), (54, ils L), (55, .i L.length), (56, .i j)])
      (fun j => [some (.box [mrs x.ms, pls (x.ch 0), pls (x.ch 1), pls (x.ch 2), pls (x.ch 3), pls (x.ch 4), pls (x.ch 5), pls (x.ch 6), pls (x.ch 7)]), some (.box [.i num, .i den]), some (.vec 83 2 (Q ++ prI x.ms k (L.take j)).length fun a b => .r (qrows (Q ++ prI x.ms k (L.take j)) a b)), some (.box [.i x.ms[k].id, .w x.ms[k].x.c, .w x.ms[k].x.m])]) 4
      (fun j => j ≤ L.length) (fun j => L.length - j) 0 (fun _ => rfl) (by simp) (by simp [go_sem, prI]) (by simp [go_sem, prI]) ?_
    intro j J hj
    by_cases hjl : j < L.length
    · have e0 := irow hjl 0
      have hpc := place60 x.ms (by omega) (validX_sorted hv) L[j]
      have hsn := prI_snoc x.ms k (L.take j) L[j]
      rw [← List.take_succ_eq_append_getElem hjl, getElem!_pos x.ms k hlt] at hsn
      have hple := prI_le x.ms k (L.take j)
      rw [List.length_take] at hple
      generalize plc x.ms L[j] = pc at *
      generalize isM x.ms L[j] = ib at *
      generalize prI x.ms k (L.take j) = R at *
      simp [go_sem, hjl, e0]
      refine call_val hpc rfl rfl ?_
      simp [go_sem]
      by_cases hkp : k < pc
      · rw [if_pos hkp] at hsn ⊢
        refine ⟨⟨by omega, by omega⟩, by omega, j + 1, by omega, by omega, ?_⟩
        rw [hsn]
        refine ⟨⟨by rw [List.length_append, List.length_singleton]; omega, by omega⟩, by rw [List.length_append, List.length_singleton]; omega, fun a b ha hb => ?_⟩
        rw [← List.append_assoc, qjoin _ _ _ _ (by rw [List.length_append, List.length_singleton] at ha; rw [List.length_append]; omega) hb, ← List.length_append]
      · rw [if_neg hkp] at hsn ⊢
        rw [List.append_nil] at hsn
        refine ⟨by omega, j + 1, by omega, by omega, ?_⟩
        rw [hsn]
        exact ⟨⟨rfl, by omega⟩, Nat.le_refl _, fun _ _ _ _ => rfl⟩
    · have hk3 : j = L.length := by omega
      subst hk3
      rw [List.take_length, ← hsu]
      simp [go_sem]
      refine ⟨by omega, k + 1, by omega, by omega, ?_⟩
      rw [hsQ]
      exact ⟨⟨rfl, by omega⟩, Nat.le_refl _, fun _ _ _ _ => rfl⟩
  · have hk3 : k = x.ms.length := by omega
    subst hk3
    rw [← e2]
    simp [go_sem]
    exact SV.le.rfl
end Go.Gx.Ix
