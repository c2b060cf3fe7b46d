/-
  iris.Nearest; codes; Chunk.
-/
import Derived.Test.YtdnblflhlklfnaaIo
set_option linter.unusedVariables false
set_option linter.unusedSimpArgs false
set_option maxRecDepth 20000
set_option maxHeartbeats 4000000
namespace Go.Gx.Ix
open Go.RowKit Go.Proofs Go.Proofs.Ytdnblflhlklfnaa

theorem rf_rs (k n : Nat) (get : Nat → Nat → RV) : RLe (.rf k n get) (.rs k n get) := fun Z w y ⟨A, e, h⟩ => ⟨A, n, e, Nat.le_refl _, h⟩
theorem GSt.slot {N : Cfg} {E : Env} {M : Mem} {nx : Nat} {t : Nat} {a b : RV} (hE : E t = .r a) (h : RLe a b) : GSt N E M nx (upd E t (.r b)) M nx := fun B W w0 σ ac w hs => by
  refine ⟨σ, { hs with env := fun t' => ?_ }⟩
  by_cases ht : t' = t
  · subst ht
    rw [upd_same]
    have := hs.env t'
    rw [hE] at this
    exact h _ _ _ this
  · rw [upd_ne _ _ ht]; exact hs.env t'
/-- Ahead of a region: what is known of slots and memory is all that is needed. -/
theorem GDraw_in {P : Program} {T : Tab} {N : Cfg} {id : Nat} {ops : Array Oper} {k : List It} {Q : GQ} {E : Env} {M : Mem} {nx : Nat} (S : List (Nat × SV)) (φ : Mem → Nat → Prop) (hE : eqS E S) (hφ : φ M nx)
    (h : ∀ J M nx, φ M nx → GDraw P T N id ops k Q (updL J S) M nx) : GDraw P T N id ops k Q E M nx := by
  have := h E M nx hφ
  rwa [eqS_upd hE] at this
/-- The nearest of the first k. -/
def nst (g : Nat → IrG) (b : IrG) (n : Nat) : Nat → Pt × Int
  | 0 => (⟨0, 0, 0⟩, -1)
  | k + 1 => if (dist (g k) b n).less (nst g b n k).1 = true then (dist (g k) b n, (k : Int)) else nst g b n k
theorem nst_sm (g : Nat → IrG) (b : IrG) (n : Nat) : ∀ k, (nst g b n k).1.Sm
  | 0 => ⟨Nat.zero_le _, Nat.zero_le _⟩
  | k + 1 => by
    unfold nst
    split
    · exact distL_le _ _ _
    · exact nst_sm g b n k
theorem nst_lt (g : Nat → IrG) (b : IrG) (n : Nat) : ∀ k, (nst g b n k).2 < k ∧ -1 ≤ (nst g b n k).2
  | 0 => by simp [nst]
  | k + 1 => by
    have := nst_lt g b n k
    unfold nst
    by_cases h : (dist (g k) b n).less (nst g b n k).1 = true
    · rw [if_pos h]
      exact ⟨by show (k : Int) < ((k + 1 : Nat) : Int); omega, by show -1 ≤ (k : Int); omega⟩
    · rw [if_neg h]; omega
def nearE (g : Nat → IrG) (N : Nat) (b : IrG) (turns : Int) : Int := if 64 < N then 4 else if (allI N g && b.ok) = false then 30 else if btw 0 7 turns = false then 2 else if (nst g b turns.toNat N).2 < 0 then 6 else 0
theorem nearest73 (g : Nat → IrG) (N : Nat) (hN : N ≤ 1000000000) (b : IrG) (turns : Int) : Pure Try.prog 73 [.r (.rs 2 N fun i j => (g i).f j), b.sv, .i turns] (· = .tup [.i (if nearE g N b turns = 0 then (nst g b turns.toNat N).2 else 0), .i (nearE g N b turns)]) := by
  obtain ⟨e, he⟩ : ∃ e, nearE g N b turns = e := ⟨_, rfl⟩
  rw [he]
  refine pure_of_GC T_ok Try.func73 rfl (by kernel_rfl) (Nat.le_of_ble_eq_true rfl) rfl rfl ?_
  simp [go_sem]
  by_cases h64 : 64 < N
  · have e4 : e = 4 := by rw [← he, nearE, if_pos h64]
    subst e4
    have h64' : (64 : Int) < N := by omega
    simp [go_sem, h64, h64']
  have h64' : ¬ (64 : Int) < N := by omega
  simp [go_sem, h64, h64']
  refine call_val (valid69 N hN g) rfl rfl ?_
  cases ha : allI N g
  · have e4 : e = 30 := by rw [← he, nearE, if_neg h64, ha]; rfl
    subst e4
    simp [go_sem]
  simp [go_sem]
  refine call_lent (v := .b b.ok) (by simp [go_sem]; refine valid1 b _ fun j hj => ?_; rcases (show j = 0 ∨ j = 1 by omega) with rfl | rfl <;> rfl) rfl ?_
  cases hb : b.ok
  · have e4 : e = 30 := by rw [← he, nearE, if_neg h64, ha, hb]; rfl
    subst e4
    simp [go_sem]
  simp [go_sem]
  refine call_val (within70 turns 0 7) rfl rfl ?_
  cases ht : btw 0 7 turns
  · have e4 : e = 2 := by rw [← he, nearE, if_neg h64, ha, hb, ht]; rfl
    subst e4
    simp [go_sem]
  have he2 : e = if (nst g b turns.toNat N).2 < 0 then 6 else 0 := by rw [← he, nearE, if_neg h64, ha, hb, ht]; rfl
  simp only [btw, Bool.and_eq_true, decide_eq_true_eq] at ht
  obtain ⟨n, rfl⟩ : ∃ n : Nat, turns = n := ⟨turns.toNat, by omega⟩
  rw [Int.toNat_natCast] at he2 ⊢
  simp [go_sem]
  refine GLoop_s T_ok (α := Nat) (fun k => [(0, .r (.rs 2 N fun i j => (g i).f j)), (2, .i n), (4, .ptr 0 0 2 0), (8, .ptr 2 0 3 0), (9, .i (nst g b n k).2), (28, .r (.rs 2 N fun i j => (g i).f j)), (29, .i N), (30, .i k)]) (fun k => [some (.box [.w b.c, .w b.m]), none, some (.box [.i (nst g b n k).1.n, .i (nst g b n k).1.d, .i (nst g b n k).1.t])]) 3 (fun k => k ≤ N) (fun k => N - k) 0 (fun _ => rfl) (by simp) (by simp [go_sem, nst]) (by simp [go_sem, nst]) ?_
  intro k J hk
  by_cases hlt : k < N
  · simp [go_sem, hlt]
    have hd := distance71 (g k) b n (by omega)
    have hsn : nst g b n (k + 1) = if (dist (g k) b n).less (nst g b n k).1 = true then (dist (g k) b n, (k : Int)) else nst g b n k := rfl
    have s1 : (dist (g k) b n).Sm := distL_le _ _ _
    have s2 := nst_sm g b n k
    refine call_val hd rfl rfl ?_
    have hl := less90 (dist (g k) b n).n (dist (g k) b n).d (dist (g k) b n).t (nst g b n k).1.n (nst g b n k).1.d (nst g b n k).1.t (mul_le64 s1.n s2.d) (mul_le64 s2.n s1.d)
    rw [← Pt.less_iff] at hl
    generalize dist (g k) b n = p at *
    generalize nst g b n k = q at *
    simp [go_sem]
    refine call_val hl rfl rfl ?_
    cases hb : p.less q.1
    · rw [hb, if_neg (by decide)] at hsn
      simp [go_sem]
      refine ⟨by omega, k + 1, by omega, by omega, ?_⟩
      rw [hsn]
      exact ⟨⟨rfl, by omega⟩, rfl, rfl, rfl⟩
    · rw [hb, if_pos rfl] at hsn
      simp [go_sem]
      refine ⟨by omega, k + 1, by omega, by omega, ?_⟩
      rw [hsn]
      exact ⟨⟨rfl, by omega⟩, rfl, rfl, rfl⟩
  · have hkN : k = N := by omega
    subst hkN
    by_cases h0 : (nst g b n k).2 < 0
    · rw [if_pos h0] at he2
      subst he2
      simp [go_sem, h0]
    · rw [if_neg h0] at he2
      subst he2
      simp [go_sem, h0]
theorem codes74 (m : Nat) (hn : m ≤ 1000) (get : Nat → Nat → RV) (g : Nat → IrG) (z : Nat → Int) (h0 : ∀ i, i < m → get i 0 = .i (z i)) (h1 : ∀ i, i < m → get i 1 = .w (g i).c) (h2 : ∀ i, i < m → get i 2 = .w (g i).m) : Own Try.prog 74 [] [.r (.rs 3 m get)] (.sl 0 2 0 m none) [.vec 41 2 m fun i j => .r ((g i).f j)] := by
  refine own_of_GC0 T_ok Try.func74 rfl (by kernel_rfl) (Nat.le_of_ble_eq_true rfl) rfl rfl ?_
  simp [go_sem]
  refine GLoop_pre (GSt.adopt 3 41 2 (fun i j => .r ((g i).f j)) (by rfl)) ?_
  refine GLoop_s T_ok (α := Nat) (fun k => [(3, .sl 0 2 0 k none), (6, .r (.rs 3 m get)), (7, .i m), (8, .i k)]) (fun k => [some (.vec 41 2 k fun i j => .r ((g i).f j))]) 1 (fun k => k ≤ m) (fun k => m - k) 0 (fun _ => rfl) (by simp) (by simp [go_sem]) (by simp [go_sem]) ?_
  intro k J hk
  by_cases hlt : k < m
  · have r0 := h0 k hlt
    have r1 := h1 k hlt
    have r2 := h2 k hlt
    simp [go_sem, hlt, r0, r1, r2]
    refine ⟨⟨by omega, by omega⟩, ⟨by omega, by omega⟩, k + 1, by omega, by omega, ⟨rfl, by omega⟩, by omega, fun i j hi hj => ?_⟩
    unfold joined
    by_cases h : i < k
    · simp [h, SV.kill, SV.trim]
    · obtain rfl : i = k := by omega
      rcases (show j = 0 ∨ j = 1 by omega) with rfl | rfl <;> simp [hlt, SV.kill, SV.trim] <;> rfl
  · have hkl : k = m := by omega
    subst hkl
    simp [go_sem]
    exact ⟨[0], by simp, fun N => ⟨by simp [go_sem], by simp [go_sem]⟩⟩
section
variable {T : Tab} {E : Env} {M : Mem} {nx : Nat}
@[go_sem] theorem gop_len (x : Operand) (t : TypeId) : gop T (.call ⟨.builtin .len, #[x], #[t]⟩) E M nx = glen T t (ev E x) := (rfl)
@[go_sem] theorem gop_min (x y : Operand) (t t2 : TypeId) : gop T (.call ⟨.builtin .min, #[x, y], #[t, t2]⟩) E M nx = gminmax false [ev E x, ev E y] := (rfl)
end
theorem chunk91 (ms : List MbG) (get get2 : Nat → Nat → RV) (g1 : get 0 0 = .rs 3 ms.length (mrows ms)) (g2 : get2 0 0 = .i 64) (hn : ms.length ≤ 1000) : IterC Try.prog T 91 [.r (.rp 1 1 get 0 0), .r (.rp 1 1 get2 0 0)] (fun k : Nat => [SV.r (.rf 3 (min 64 (ms.length - 64 * k)) fun i j => mrows ms (64 * k + i) j)]) (List.range ((ms.length + 63) / 64)) := by
  refine ⟨_, _, Try.func91, rfl, by kernel_rfl, Nat.le_of_ble_eq_true rfl, ?_⟩
  intro np good l I M nx hnx h0 hst hy
  simp [go_sem]
  refine GLoop_p T_ok (α := Nat) (fun k => [(0, .fn (.yield l) [] []), (1, .r (.rp 1 1 get 0 0)), (2, .r (.rp 1 1 get2 0 0)), (4, .i (64 * k : Nat))]) (fun k M nx => 64 * k < ms.length + 64 ∧ np ≤ nx ∧ I (List.range k) M nx) (fun k => ms.length + 64 - 64 * k) 0 ⟨by omega, hnx, by simpa using h0⟩ (by simp [go_sem]) ?_
  intro k J M nx _ hi
  obtain ⟨h1, h2, h3⟩ := hi
  by_cases hk : 64 * k < ms.length
  · have hk' : (64 : Int) * k < ms.length := by omega
    simp [go_sem, g1, g2, hk, hk']
    refine GDraw_l (t := (.take 0 (.take 1 (.take 2 (.take 3 (.take 4 (.alt 5 [4, 3, 2, 1, 0] (.take 6 (.done [6, 3, 2, 1])) .nil))))))) T_ok (by kernel_rfl) (by kernel_rfl) (by kernel_rfl) (fun _ _ _ _ h => h) ?_
    have e1 : ((64 : Int) * k).toNat = 64 * k := by omega
    have e2 : ((64 : Int) * k + min 64 ((ms.length - 64 * k : Nat) : Int)).toNat - 64 * k = min 64 (ms.length - 64 * k) := by omega
    have hp : List.range k ++ [k] <+: List.range ((ms.length + 63) / 64) := by
      rw [← List.range_succ]
      obtain ⟨d, hd⟩ : ∃ d, (ms.length + 63) / 64 = (k + 1) + d := ⟨(ms.length + 63) / 64 - (k + 1), by omega⟩
      rw [hd, List.range_add]
      exact List.prefix_append _ _
    simp [go_sem, g1, g2, hk, hk', e1, e2]
    refine ⟨by omega, by omega, by omega, ?_⟩
    refine hy (List.range k) k hp _ _ _ _ _ _ _ _ _ _ _ (by simp [go_sem]) (by simp [go_sem]) (by simp [dOK]) h3 fun M' nx' hn' hI => ?_
    rw [← List.range_succ] at hI
    simp [go_sem, g2]
    exact ⟨by omega, k + 1, by omega, by omega, by omega, hn', hI⟩
  · have hk' : ¬ (64 : Int) * k < ms.length := by omega
    simp [go_sem, g1, g2, hk, hk']
    have e : (ms.length + 63) / 64 = k := by omega
    rw [e]; exact h3
theorem chunk72 (l : List MbG) (hn : l.length ≤ 1000) : Own Try.prog 72 [] [mrs l, .i 64] (.fn (.func 91) [] [.ptr 0 0 1 0, .ptr 1 0 1 0]) [.box [mrs l], .box [.i 64]] := by
  refine own_of_GC T_ok Try.func72 rfl (by kernel_rfl) (Nat.le_of_ble_eq_true rfl) rfl rfl ?_
  simp [go_sem]
  refine ⟨[0, 1], by simp, fun N => ⟨by simp [go_sem], by simp [go_sem]⟩⟩
end Go.Gx.Ix
