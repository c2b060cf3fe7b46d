/-
  IndexComplete.
-/
import Derived.Test.YtdnblflhlklfnaaJc
set_option linter.unusedVariables false
set_option linter.unusedSimpArgs false
set_option maxRecDepth 20000
set_option maxHeartbeats 4000000
namespace Go.Gx.Ix
open Go.RowKit Go.Proofs Go.Proofs.Ytdnblflhlklfnaa

theorem mE_vals (x y : IrG) (turns num den : Int) : mE x y turns num den = 0 ∨ mE x y turns num den = 2 ∨ mE x y turns num den = 30 := by
  unfold mE
  split
  · split
    · exact .inl rfl
    · exact .inr (.inl rfl)
  · exact .inr (.inr rfl)
theorem mE_iff (b : IrG) (turns num den : Int) : mE b b turns num den = 0 ↔ b.ok = true ∧ 0 ≤ turns ∧ turns ≤ 7 ∧ vL num den = true := by
  unfold mE btw
  cases b.ok <;> simp
theorem law5 (l : List MbG) (b : IrG) (turns num den : Int) (h1 : -9223372036854775808 ≤ turns) (h2 : turns ≤ 9223372036854775807) : Pure Try.prog 5 [mrs l, b.sv, .i turns, .agg [.i num, .i den]] (· = .b true) := by
  refine pure_of_GC T_ok Try.func5 rfl (by kernel_rfl) (Nat.le_of_ble_eq_true rfl) rfl rfl ?_
  simp [go_sem]
  refine call_val alive32 rfl rfl ?_
  simp [go_sem]
  intro hn
  refine call_val (build16 l (by omega)) rfl rfl ?_
  by_cases he : buildE l = 0
  rotate_left
  · have e0 : buildX l = IxG.zero := by unfold buildX; rw [if_neg he]
    rw [e0]
    generalize buildE l = e at he
    simp [go_sem, IxG.sv, IxG.zero, he]
  have hv := (buildE_iff l).1 he
  have hsm : (ofG l).Sm := ofG_sm (by omega)
  have hva := ofG_valid hv
  have e0 : buildX l = ofG l := by unfold buildX; rw [if_pos he]
  rw [e0, he]
  have hs := search33f (ofG l) hsm b turns num den
  have hmt := matching36 (ofG l).ms (hsm.ms) b turns num den
  have hsE : srE (ofG l) b turns num den = mE b b turns num den := by unfold srE; rw [if_neg (by rw [hva]; simp)]
  have hlen : (ofG l).ms.length = l.length := srt_len l
  have hmv := mE_vals b b turns num den
  have hmi := mE_iff b turns num den
  have hI : srE (ofG l) b turns num den = 0 → srIds (ofG l) b turns num den = fndM (ofG l).ms b turns.toNat num.toNat den.toNat ∧ srSn (ofG l) b turns num den = snM (ofG l).ms b turns.toNat num.toNat den.toNat := fun h => ⟨by unfold srIds; rw [if_pos h], by unfold srSn; rw [if_pos h]⟩
  have hmt2 : mE b b turns num den = 0 → mtE (ofG l).ms b turns num den = true := fun h => by
    unfold mtE
    refine List.all_eq_true.2 fun a ha => ?_
    rw [mE_any (hv.srt.ok a ha) (mE_ok h).1 (mE_ok h).1 (mE_ok h).1]
    simpa using h
  rw [hsE] at hs hI
  generalize ofG l = x at *
  simp [go_sem, IxG.sv] at hs ⊢
  refine call_val hs rfl rfl ?_
  simp [go_sem]
  refine call_val (valid34 b.c b.m) rfl rfl ?_
  have hok : vI b.c b.m = b.ok := rfl
  rw [hok]
  by_cases h0 : mE b b turns num den = 0
  rotate_left
  · have hbad : ¬ (b.ok = true ∧ 0 ≤ turns ∧ turns ≤ 7 ∧ vL num den = true) := fun h => h0 (hmi.2 h)
    have hr : mE b b turns num den = 30 ∨ mE b b turns num den = 2 := by omega
    generalize mE b b turns num den = e at *
    cases hb : b.ok
    · simp [go_sem]
      rcases hr with rfl | rfl <;> simp [go_sem]
    rcases hr with rfl | rfl
    all_goals
      simp [go_sem]
      by_cases ht0 : 0 ≤ turns
      rotate_left
      · simp [go_sem, ht0]
      by_cases ht7 : turns ≤ 7
      rotate_left
      · simp [go_sem, ht0, ht7]
      simp [go_sem, ht0, ht7]
      refine call_val (limit35 num den) rfl rfl ?_
      cases hl : vL num den
      · simp [go_sem]
      · exact absurd ⟨hb, by omega, by omega, hl⟩ hbad
  obtain ⟨hb, ht0, ht7, hl⟩ := hmi.1 h0
  obtain ⟨hI1, hI2⟩ := hI h0
  have hm2 := hmt2 h0
  obtain ⟨_, _, _, k3, k4⟩ := mE_ok h0
  have hle := fnd_le_sn x.ms b turns.toNat num.toNat den.toNat (by omega)
  have hsl := sn_le x.ms b turns.toNat num.toNat den.toNat
  rw [hI1, hI2, h0] at hs
  rw [hm2, if_pos rfl] at hmt
  rw [hb, h0, hI1, hI2]
  have hin := ints37 (fndM x.ms b turns.toNat num.toNat den.toNat) (fndM x.ms b turns.toNat num.toNat den.toNat) (by have := fndM_le x.ms b turns.toNat num.toNat den.toNat; omega)
  generalize fndM x.ms b turns.toNat num.toNat den.toNat = F at *
  generalize snM x.ms b turns.toNat num.toNat den.toNat = sn at *
  have ht0' : ¬ turns < 0 := by omega
  have ht7' : ¬ 7 < turns := by omega
  simp [go_sem, ht0', ht7']
  refine call_val (limit35 num den) rfl rfl ?_
  rw [hl]
  simp [go_sem]
  refine call_val hmt rfl rfl ?_
  simp [go_sem]
  refine call_val hin rfl rfl ?_
  simp [go_sem]
  obtain ⟨n, rfl⟩ : ∃ n : Nat, turns = n := ⟨turns.toNat, by omega⟩
  rw [Int.toNat_natCast, hlen, Nat.mul_comm] at hsl
  have hm1 : (l.length : Int) * (2 * (n : Int) + 1) = ((l.length * (2 * n + 1) : Nat) : Int) := by simp
  have hm2 : l.length * (2 * n + 1) ≤ 300 * 15 := Nat.mul_le_mul (by omega) (by omega)
  rw [hm1]
  generalize l.length * (2 * n + 1) = q at *
  omega
end Go.Gx.Ix
