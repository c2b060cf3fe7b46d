/-
  The laws' small functions.
-/
import Derived.Test.YtdnblflhlklfnaaJa
set_option linter.unusedVariables false
set_option linter.unusedSimpArgs false
set_option maxRecDepth 20000
set_option maxHeartbeats 4000000
namespace Go.Gx.Ix
open Go.RowKit Go.Proofs Go.Proofs.Ytdnblflhlklfnaa

def half (c : BitVec 64) : IrG := ⟨c, 65535#64⟩
theorem half45 (c : BitVec 64) : Pure Try.prog 45 [.w c] (· = (half c).sv) := by
  refine pure_of_GC T_ok Try.func45 rfl (by kernel_rfl) (Nat.le_of_ble_eq_true rfl) rfl rfl ?_
  simp [go_sem]
  exact ⟨rfl, rfl⟩
def thrL : List MbG := [⟨3, half 0#64⟩, ⟨5, half 255#64⟩, ⟨9, half 61455#64⟩]
theorem three43 : Own Try.prog 43 [] [] (.sl 0 3 0 3 none) [mreg thrL] := by
  refine own_of_GC T_ok Try.func43 rfl (by kernel_rfl) (Nat.le_of_ble_eq_true rfl) rfl rfl ?_
  simp [go_sem]
  refine call_val (half45 0#64) rfl rfl ?_
  simp [go_sem]
  refine call_val (half45 255#64) rfl rfl ?_
  simp [go_sem]
  refine call_val (half45 61455#64) rfl rfl ?_
  simp [go_sem]
  refine ⟨[0], by simp, fun N => ⟨by simp [go_sem], ?_⟩⟩
  simp [go_sem]
  refine ⟨by decide, fun i j hi hj => ?_⟩
  rcases (show i = 0 ∨ i = 1 ∨ i = 2 by have : thrL.length = 3 := rfl; omega) with rfl | rfl | rfl <;> rcases (show j = 0 ∨ j = 1 ∨ j = 2 by omega) with rfl | rfl | rfl <;> rfl
theorem posting44 (p : PsG) (hp : p.ids.length ≤ 1000000000) (c m : BitVec 8) (l : List Int) : Pure Try.prog 44 [p.sv, .y c, .y m, ils l] (· = .b (decide (p = ⟨c, m, l⟩))) := by
  refine pure_of_GC T_ok Try.func44 rfl (by kernel_rfl) (Nat.le_of_ble_eq_true rfl) rfl rfl ?_
  simp [go_sem]
  have hc := ints37 p.ids l hp
  obtain ⟨pc, pm, pl⟩ := p
  simp only at hc ⊢
  by_cases h1 : pc = c
  · subst h1
    by_cases h2 : pm = m
    · subst h2
      simp [go_sem]
      refine call_val hc rfl rfl ?_
      simp [go_sem]
    · have h2' : ¬ ((pm.toNat : Int) = m.toNat) := fun h => h2 (BitVec.toNat_inj.1 (by omega))
      simp [go_sem, h2, h2']
  · have h1' : ¬ ((pc.toNat : Int) = c.toNat) := fun h => h1 (BitVec.toNat_inj.1 (by omega))
    simp [go_sem, h1, h1']
theorem pairs46 (l l' : List (Int × Int)) (hn : l.length ≤ 1000000000) : Pure Try.prog 46 [qls l, qls l'] (· = .b (decide (l = l'))) := by
  refine pure_of_GC T_ok Try.func46 rfl (by kernel_rfl) (Nat.le_of_ble_eq_true rfl) rfl rfl ?_
  simp [go_sem]
  by_cases h : l.length = l'.length
  rotate_left
  · have h' : ¬ l = l' := fun e => h (by rw [e])
    simp [go_sem, h, h']
    try omega
  simp [go_sem, h]
  have hn' : l'.length ≤ 1000000000 := by omega
  refine GLoop_of T_ok (α := Nat) (fun k => [(0, .r (.rs 2 l'.length (qrows l))), (1, .r (.rs 2 l'.length (qrows l'))), (5, .i k)]) (fun _ => []) 0 (fun k => k ≤ l'.length ∧ ∀ j, j < k → ∀ (h1 : j < l.length) (h2 : j < l'.length), l[j] = l'[j]) (fun k => l'.length - k) 0 (fun _ => rfl) (by simp) (by simp [go_sem, h]) (by simp [go_sem]) ?_
  intro k J hi
  by_cases hlt : k < l'.length
  · simp [go_sem, hlt]
    have hlt1 : k < l.length := by omega
    have r0 := qrow hlt1 0
    have q0 := qrow hlt 0
    have r1 := qrow hlt1 1
    have q1 := qrow hlt 1
    simp only [qf] at r0 q0 r1 q1
    have hiff : l[k] = l'[k] ↔ l[k].1 = l'[k].1 ∧ l[k].2 = l'[k].2 := Prod.ext_iff
    refine GDraw_all T_ok (by kernel_rfl) (by kernel_rfl) ?_
    simp [go_sem, hlt, r0, q0, r1, q1]
    by_cases he : l[k] = l'[k]
    · have he' := hiff.1 he
      simp [go_sem, he'.1, he'.2]
      refine ⟨by omega, k + 1, ⟨by omega, fun j hj h1 h2 => ?_⟩, by omega, by omega⟩
      by_cases hjk : j = k
      · subst hjk; exact he
      · exact hi.2 j (by omega) h1 h2
    · have hne : ¬ l = l' := fun e => he (by simp [e])
      have he' : ¬ (l[k].1 = l'[k].1 ∧ l[k].2 = l'[k].2) := fun q => he (hiff.2 q)
      simp [go_sem, hne]
      intro e1 e2
      exact absurd ⟨e1, e2⟩ he'
  · simp [go_sem, hlt]
    exact eq_of_all h fun j h1 h2 => hi.2 j (by omega) h1 h2
theorem ijoin (np q : Nat) (R : List Int) (a : Int) (i : Nat) (hi : i < R.length + 1) : SV.trim np (SV.kill q (joined R.length 1 (fun i j => SV.r (irows R i j)) (fun i j => [SV.r (RV.i a)][i + j]?.getD (SV.r RV.any)) i 0)) = SV.r (irows (R ++ [a]) i 0) := by
  unfold joined irows rowsL
  by_cases h : i < R.length
  · rw [if_pos h, List.getElem?_append_left h]; rfl
  · obtain rfl : i = R.length := by omega
    rw [if_neg h, if_pos (by omega), List.getElem?_append_right (Nat.le_refl _), Nat.sub_self]; rfl
/-- Which members match, if all calls are right. -/
def mtE (ms : List MbG) (b : IrG) (turns num den : Int) : Bool := ms.all fun a => decide (mE a.x b turns num den = 0)
theorem matching36 (ms : List MbG) (hn : ms.length ≤ 1000) (b : IrG) (turns num den : Int) : Pure Try.prog 36 [mrs ms, b.sv, .i turns, .agg [.i num, .i den]] (· = .tup [ils (if mtE ms b turns num den then fndM ms b turns.toNat num.toNat den.toNat else []), .b (mtE ms b turns num den)]) := by
  refine pure_ofLe ?_
  refine pure_of_GC T_ok Try.func36 rfl (by kernel_rfl) (Nat.le_of_ble_eq_true rfl) rfl rfl ?_
  simp [go_sem]
  refine GLoop_pre (GSt.adopt 10 3 1 (fun i j => .r (irows [] i j)) (by rfl)) ?_
  refine GLoop_s T_ok (α := Nat) (fun k => [(2, .i turns), (5, .ptr 0 0 2 0), (7, .ptr 1 0 2 0), (10, .sl 2 1 0 (fndM (ms.take k) b turns.toNat num.toNat den.toNat).length none), (15, mrs ms), (16, .i ms.length), (17, .i k)])
    (fun k => [some (.box [.w b.c, .w b.m]), some (.box [.i num, .i den]), some (.vec 3 1 (fndM (ms.take k) b turns.toNat num.toNat den.toNat).length fun i j => .r (irows (fndM (ms.take k) b turns.toNat num.toNat den.toNat) i j))]) 3
    (fun k => k ≤ ms.length ∧ mtE (ms.take k) b turns num den = true) (fun k => ms.length - k) 0 (fun _ => rfl) (by simp [mtE]) (by simp [go_sem, fndM]) (by simp [go_sem, fndM]) ?_
  rintro k J ⟨hk, hall⟩
  by_cases hlt : k < ms.length
  · have r0 := mrow hlt 0
    have r1 := mrow hlt 1
    have r2 := mrow hlt 2
    have hm := match39 ms[k].x b turns num den
    simp [go_sem, hlt, r0, r1, r2]
    refine call_val hm rfl rfl ?_
    have hal : mtE (ms.take (k + 1)) b turns num den = decide (mE ms[k].x b turns num den = 0) := by
      unfold mtE at hall ⊢
      rw [List.take_succ_eq_append_getElem hlt, List.all_append, hall]; simp
    by_cases h0 : mE ms[k].x b turns num den = 0
    · have hsn : fndM (ms.take (k + 1)) b turns.toNat num.toNat den.toNat = fndM (ms.take k) b turns.toNat num.toNat den.toNat ++ if matB ms[k].x b turns.toNat num den = true then [ms[k].id] else [] := by
        obtain ⟨_, _, _, k3, k4⟩ := mE_ok h0
        unfold fndM
        rw [List.take_succ_eq_append_getElem hlt, List.filter_append, List.map_append]
        have e1 : ((num.toNat : Nat) : Int) = num := by omega
        have e2 : ((den.toNat : Nat) : Int) = den := by omega
        rw [e1, e2]
        congr 1
        cases hh : matB ms[k].x b turns.toNat num den <;> simp [hh]
      have hle := fndM_le (ms.take k) b turns.toNat num.toNat den.toNat
      rw [List.length_take] at hle
      rw [h0] at hal ⊢
      obtain ⟨R, hR⟩ : ∃ R, fndM (ms.take k) b turns.toNat num.toNat den.toNat = R := ⟨_, rfl⟩
      rw [hR] at hsn hle ⊢
      cases hb : matB ms[k].x b turns.toNat num den
      · rw [hb] at hsn
        simp only [Bool.false_eq_true, if_false, List.append_nil] at hsn
        simp [go_sem]
        refine ⟨by omega, k + 1, ⟨by omega, by rw [hal]; rfl⟩, by omega, ?_⟩
        rw [hsn]
        exact ⟨⟨rfl, by omega⟩, Nat.le_refl _, fun _ _ => rfl⟩
      · rw [hb] at hsn
        simp only [if_true] at hsn
        simp [go_sem]
        refine ⟨⟨by omega, by omega⟩, by omega, k + 1, ⟨by omega, by rw [hal]; rfl⟩, by omega, ?_⟩
        rw [hsn]
        refine ⟨⟨by rw [List.length_append, List.length_singleton], by omega⟩, by rw [List.length_append, List.length_singleton]; omega, fun i hi => ijoin 3 2 R _ i (by rw [List.length_append, List.length_singleton] at hi; exact hi)⟩
    · have hF : mtE ms b turns num den = false := by
        unfold mtE
        rw [List.all_eq_false]
        exact ⟨ms[k], List.getElem_mem hlt, by simpa using h0⟩
      rw [hF]
      simp [go_sem, h0]
      exact le_tup ⟨le_r (nil_rs 1 _), SV.le.rfl, trivial⟩
  · have hk3 : k = ms.length := by omega
    subst hk3
    rw [List.take_length] at hall ⊢
    rw [hall]
    simp [go_sem]
    exact SV.le.rfl
end Go.Gx.Ix
