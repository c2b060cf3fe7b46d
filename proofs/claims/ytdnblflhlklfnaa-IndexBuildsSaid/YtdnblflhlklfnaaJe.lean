/-
  IndexGrows.
-/
import Derived.Test.YtdnblflhlklfnaaJd
set_option linter.unusedVariables false
set_option linter.unusedSimpArgs false
set_option maxRecDepth 20000
set_option maxHeartbeats 4000000
namespace Go.Gx.Ix
open Go.RowKit Go.Proofs Go.Proofs.Ytdnblflhlklfnaa

def fdI (l : List MbG) (b : IrG) (turns num den : Int) : List Int := if mE b b turns num den = 0 then fndM (srtM l) b turns.toNat num.toNat den.toNat else []
def fdS (l : List MbG) (b : IrG) (turns num den : Int) : Nat := if mE b b turns num den = 0 then snM (srtM l) b turns.toNat num.toNat den.toNat else 0
theorem search_of {l : List MbG} (h : VL l) (b : IrG) (turns num den : Int) : Pure Try.prog 33 [(ofG l).sv, b.sv, .i turns, .agg [.i num, .i den]] (· = .tup [.agg [ils (fdI l b turns num den), .i (fdS l b turns num den)], .i (mE b b turns num den)]) := by
  have hs := search33f (ofG l) (ofG_sm (by have := h.len; omega)) b turns num den
  have hsE : srE (ofG l) b turns num den = mE b b turns num den := by unfold srE; rw [if_neg (by rw [ofG_valid h]; simp)]
  have e1 : srIds (ofG l) b turns num den = fdI l b turns num den := by unfold srIds fdI; rw [hsE]; rfl
  have e2 : srSn (ofG l) b turns num den = fdS l b turns num den := by unfold srSn fdS; rw [hsE]; rfl
  rw [hsE, e1, e2] at hs
  exact hs
theorem fdI_le (l : List MbG) (b : IrG) (turns num den : Int) : (fdI l b turns num den).length ≤ l.length := by
  unfold fdI
  split
  · have := fndM_le (srtM l) b turns.toNat num.toNat den.toNat
    rw [srt_len] at this
    exact this
  · exact Nat.zero_le _
theorem law6 (l : List MbG) (b : IrG) (turns more num den num' den' : Int) (h1 : -9223372036854775808 ≤ turns) (h2 : turns ≤ 9223372036854775807) (h3 : -9223372036854775808 ≤ more) (h4 : more ≤ 9223372036854775807) : Pure Try.prog 6 [mrs l, b.sv, .i turns, .i more, .agg [.i num, .i den], .agg [.i num', .i den']] (· = .b true) := by
  refine pure_of_GC T_ok Try.func6 rfl (by kernel_rfl) (Nat.le_of_ble_eq_true rfl) rfl rfl ?_
  simp [go_sem]
  refine call_val alive32 rfl rfl ?_
  simp [go_sem]
  by_cases hn : (l.length : Int) ≤ 300
  rotate_left
  · simp [go_sem, hn]
  by_cases hmt : turns ≤ more
  rotate_left
  · simp [go_sem, hn, hmt]
  simp [go_sem, hn, hmt]
  refine call_val (limit35 num den) rfl rfl ?_
  cases hl1 : vL num den
  · simp [go_sem]
  simp [go_sem]
  refine call_val (limit35 num' den') rfl rfl ?_
  cases hl2 : vL num' den'
  · simp [go_sem]
  simp only [vL, btw, Bool.and_eq_true, decide_eq_true_eq] at hl1 hl2
  obtain ⟨n1, rfl⟩ : ∃ n : Nat, num = n := ⟨num.toNat, by omega⟩
  obtain ⟨d1, rfl⟩ : ∃ n : Nat, den = n := ⟨den.toNat, by omega⟩
  obtain ⟨n2, rfl⟩ : ∃ n : Nat, num' = n := ⟨num'.toNat, by omega⟩
  obtain ⟨d2, rfl⟩ : ∃ n : Nat, den' = n := ⟨den'.toNat, by omega⟩
  have q1 : n1 * d2 ≤ 1000 * 1000 := Nat.mul_le_mul (by omega) (by omega)
  have q2 : n2 * d1 ≤ 1000 * 1000 := Nat.mul_le_mul (by omega) (by omega)
  have c1 : (n1 : Int) * d2 = ((n1 * d2 : Nat) : Int) := by simp
  have c2 : (n2 : Int) * d1 = ((n2 * d1 : Nat) : Int) := by simp
  simp [go_sem]
  rw [c1, c2]
  refine ⟨by omega, by omega, fun hlim => ?_⟩
  have hlim' : n1 * d2 ≤ n2 * d1 := by omega
  obtain ⟨l', hv, hx, _, _⟩ := buildX_of l
  refine call_val (build16 l (by omega)) rfl rfl ?_
  rw [hx]
  have hs1 := search_of hv b turns n1 d1
  have hs2 := search_of hv b more n2 d2
  have hA : mE b b turns n1 d1 = 0 → mE b b more n2 d2 = 0 → (fdI l' b turns n1 d1).Sublist (fdI l' b more n2 d2) ∧ fdS l' b turns n1 d1 ≤ fdS l' b more n2 d2 := fun e1 e2 => by
    have k1 := (mE_ok e1).2.2.1
    unfold fdI fdS
    rw [if_pos e1, if_pos e2, if_pos e1, if_pos e2, Int.toNat_natCast, Int.toNat_natCast, Int.toNat_natCast, Int.toNat_natCast]
    exact ⟨fnd_mono (by omega) hlim' (by omega), sn_mono (by omega) hlim' (by omega) (by omega)⟩
  have hA1 := fdI_le l' b turns n1 d1
  have hB1 := fdI_le l' b more n2 d2
  have hl256 := hv.len
  generalize ofG l' = x at *
  generalize fdI l' b turns n1 d1 = A at *
  generalize fdI l' b more n2 d2 = B at *
  generalize fdS l' b turns n1 d1 = sa at *
  generalize fdS l' b more n2 d2 = sb at *
  generalize mE b b turns n1 d1 = f at *
  generalize mE b b more n2 d2 = g at *
  generalize buildE l = e at *
  simp [go_sem, IxG.sv] at hs1 hs2 ⊢
  refine call_val hs1 rfl rfl ?_
  simp [go_sem]
  refine call_val hs2 rfl rfl ?_
  simp [go_sem]
  by_cases he : e = 0
  rotate_left
  · simp [go_sem, he]
  by_cases hf : f = 0
  rotate_left
  · simp [go_sem, he, hf]
  by_cases hg : g = 0
  rotate_left
  · simp [go_sem, he, hf, hg]
  subst he hf hg
  obtain ⟨hA2, hA3⟩ := hA rfl rfl
  simp [go_sem]
  refine GLoop_s T_ok (α := Nat × Nat) (fun s => [(13, .b true), (16, .ptr 4 0 2 0), (18, .ptr 5 0 2 0), (20, .i s.2), (89, ils B), (90, .i B.length), (91, .i s.1)])
    (fun s => [none, none, none, none, some (.box [ils A, .i sa]), some (.box [ils B, .i sb])]) 6
    (fun s => s.1 ≤ B.length ∧ s.2 ≤ A.length ∧ (A.drop s.2).Sublist (B.drop s.1)) (fun s => B.length - s.1) (0, 0) (fun _ => rfl) ⟨by omega, by omega, by simpa using hA2⟩ (by simp [go_sem]) (by simp [go_sem]) ?_
  rintro ⟨i, k⟩ J ⟨hi, hk, hsub⟩
  dsimp only at hi hk hsub
  by_cases hlt : i < B.length
  · have e0 := irow hlt 0
    have hst := sub_step hlt hsub
    simp [go_sem, hlt, e0]
    by_cases hka : k < A.length
    · have e1 := irow hka 0
      simp [go_sem, hka, e1]
      rw [gD hka] at hst
      by_cases hq : A[k] = B[i]
      · rw [if_pos ⟨hka, hq⟩] at hst
        rw [if_pos hq]
        exact ⟨by omega, by omega, i + 1, k + 1, ⟨by omega, by omega, hst⟩, by omega, by omega, by omega⟩
      · rw [if_neg (fun h => hq h.2)] at hst
        rw [if_neg hq]
        exact ⟨by omega, i + 1, k, ⟨by omega, by omega, hst⟩, by omega, by omega, by omega⟩
    · simp [go_sem, hka]
      rw [if_neg (fun h => hka h.1)] at hst
      exact ⟨by omega, i + 1, k, ⟨by omega, by omega, hst⟩, by omega, by omega, by omega⟩
  · have hil : i = B.length := by omega
    subst hil
    have hkA : k = A.length := by
      rw [List.drop_length] at hsub
      have := hsub.length_le
      rw [List.length_drop] at this
      simp at this
      omega
    subst hkA
    simp [go_sem]
    exact hA3
end Go.Gx.Ix
