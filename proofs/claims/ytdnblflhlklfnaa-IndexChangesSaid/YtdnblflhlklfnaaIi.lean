/-
  Of: the index of members.
-/
import Derived.Test.YtdnblflhlklfnaaIh
set_option linter.unusedVariables false
set_option linter.unusedSimpArgs false
set_option maxRecDepth 20000
set_option maxHeartbeats 4000000
namespace Go.Gx.Ix
open Go.RowKit Go.Proofs Go.Proofs.Ytdnblflhlklfnaa

theorem Fit_of_regs {N : Cfg} {E : Env} {M : Mem} {nx : Nat} {S : List (Nat × SV)} {l : List (Option Reg)} {n : Nat} (hn : N.np ≤ n) (hl : l.length = n) (h : slotsS n E S) (hM : regsS 0 (trimM n M) l) : Fit N E M nx S (memL l) n :=
  Fit.of_slotsS hn h (regsS_memL hl hM)
theorem clone76 (n : Nat) (hn : n ≤ 1000000) (get : Nat → Nat → RV) : Own Try.prog 76 [] [.r (.rs 3 n get)] (.sl 0 3 0 n none) [.vec 43 3 n fun i j => .r (get i j)] := by
  refine own_of_GC0 T_ok Try.func76 rfl (by kernel_rfl) (Nat.le_of_ble_eq_true rfl) rfl rfl ?_
  simp [go_sem]
  refine ⟨fun h => .inr (by subst h; simp), ⟨by omega, by omega⟩, ⟨[0], by simp, fun N => ⟨?_, ?_⟩⟩⟩
  · simp [go_sem]
  · simp [go_sem, joined]
    intros i j hi hj
    rw [if_pos (by omega)]; rfl
/-- What the first k members make of chunk j. -/
def cK (ms : List MbG) (k j : Nat) : List PsG := (ms.take k).foldl (fun L a => addP L (chk a.x.m j) (chk a.x.c j) a.id) []
theorem cK_succ {ms : List MbG} {k : Nat} (h : k < ms.length) (j : Nat) : cK ms (k + 1) j = addP (cK ms k j) (chk ms[k].x.m j) (chk ms[k].x.c j) ms[k].id := by
  unfold cK
  rw [List.take_succ_eq_append_getElem h, List.foldl_append]
  rfl
theorem cK0 (ms : List MbG) (j : Nat) : cK ms 0 j = [] := rfl
def cIn (ms : List MbG) (k j i : Nat) : List PsG := cK ms (if i < j then k + 1 else k) i
abbrev nilS : SV := .r (.v (.slice none 0 0))
abbrev ixM (ms : List MbG) (c : Nat → List PsG) (k : Nat) : List (Option Reg) :=
  [some (.box [nilS, nilS, nilS, nilS, nilS, nilS, nilS, nilS, nilS]), some (.box [.sl 2 3 0 ms.length none, .sl 4 3 0 (c 0).length none, .sl 5 3 0 (c 1).length none, .sl 6 3 0 (c 2).length none, .sl 7 3 0 (c 3).length none, .sl 8 3 0 (c 4).length none, .sl 9 3 0 (c 5).length none, .sl 10 3 0 (c 6).length none, .sl 11 3 0 (c 7).length none]), some (mreg ms), none, some (preg (c 0)), some (preg (c 1)), some (preg (c 2)), some (preg (c 3)), some (preg (c 4)), some (preg (c 5)), some (preg (c 6)), some (preg (c 7))]
theorem of52 (l : List MbG) (hn : l.length ≤ 1000) (hs : ∀ k j, (h : k < (srtM l).length) → j < 8 → Srt (cK (srtM l) k j) (chk (srtM l)[k].x.m j) (chk (srtM l)[k].x.c j) (srtM l)[k].id) : Own Try.prog 52 [] [mrs l] (.agg (.sl 0 3 0 l.length none :: (List.range 8).map fun j => .sl (j + 1) 3 0 (cK (srtM l) l.length j).length none)) (mreg (srtM l) :: (List.range 8).map fun j => preg (cK (srtM l) l.length j)) := by
  refine own_of_GC T_ok Try.func52 rfl (by kernel_rfl) (Nat.le_of_ble_eq_true rfl) rfl rfl ?_
  simp [go_sem]
  refine callK_own [] (clone76 l.length (by omega) (mrows l)) (by simp) rfl ?_ ?_
  · simp [go_sem]
  simp [go_sem]
  refine callK_ownS [2] (sort77 l (by omega)) (by simp) (by simp) rfl ?_ ?_
  · simp [go_sem]
  simp [go_sem]
  have hl := (srtM_spec l).2.1
  obtain ⟨ms, hms⟩ : ∃ ms, srtM l = ms := ⟨_, rfl⟩
  rw [hms] at hs hl ⊢
  rw [← hl]
  have hl3 : ms.length ≤ 1000 := by omega
  have hk0 : (fun j => cK ms 0 j) = fun _ => [] := rfl
  refine GLoop_pre ((GSt.adoptBox 1 1 75 3 (fun i j => .r (prows [] i j)) (by rfl) (by rfl) (by decide)).trans ((GSt.adoptBox 1 2 75 3 (fun i j => .r (prows [] i j)) (by rfl) (by rfl) (by decide)).trans ((GSt.adoptBox 1 3 75 3 (fun i j => .r (prows [] i j)) (by rfl) (by rfl) (by decide)).trans ((GSt.adoptBox 1 4 75 3 (fun i j => .r (prows [] i j)) (by rfl) (by rfl) (by decide)).trans ((GSt.adoptBox 1 5 75 3 (fun i j => .r (prows [] i j)) (by rfl) (by rfl) (by decide)).trans ((GSt.adoptBox 1 6 75 3 (fun i j => .r (prows [] i j)) (by rfl) (by rfl) (by decide)).trans ((GSt.adoptBox 1 7 75 3 (fun i j => .r (prows [] i j)) (by rfl) (by rfl) (by decide)).trans (GSt.adoptBox 1 8 75 3 (fun i j => .r (prows [] i j)) (by rfl) (by rfl) (by decide))))))))) ?_
  refine GLoop_fit T_ok (α := Nat) (fun k => [(2, .ptr 0 0 9 0), (3, .ptr 1 0 9 0), (14, .sl 2 3 0 ms.length none), (15, .i ms.length), (16, .i k)]) (fun k => memL (ixM ms (cK ms k) k)) 12 (fun k => k ≤ ms.length) (fun k => ms.length - k) 0 (by simp) (Fit_of_regs (Nat.zero_le _) rfl (by simp [go_sem]) (by simp [go_sem, cK0])) ?_
  intro k J hk
  simp [go_sem]
  split
  · rename_i hlt
    have hlt : k < ms.length := hlt
    obtain ⟨a, ha⟩ : ∃ a, ms[k] = a := ⟨_, rfl⟩
    have r0 : mrows ms k 0 = a.f 0 := by rw [mrow hlt, ha]
    have r1 : mrows ms k 1 = a.f 1 := by rw [mrow hlt, ha]
    have r2 : mrows ms k 2 = a.f 2 := by rw [mrow hlt, ha]
    have hc : ∀ j, cK ms (k + 1) j = addP (cK ms k j) (chk a.x.m j) (chk a.x.c j) a.id := fun j => by rw [cK_succ hlt, ha]
    have hsk : ∀ j, j < 8 → Srt (cK ms k j) (chk a.x.m j) (chk a.x.c j) a.id := fun j h => by have := hs k j hlt h; rwa [ha] at this
    simp [go_sem, r0, r1, r2]
    refine ⟨hlt, ?_⟩
    refine GLoop_fit T_ok (α := Nat) (fun j => [(2, .ptr 0 0 9 0), (3, .ptr 1 0 9 0), (14, .sl 2 3 0 ms.length none), (15, .i ms.length), (16, .i k), (5, .ptr 12 0 3 0), (20, .i j)]) (fun j => memL (ixM ms (cIn ms k j) k ++ [some (.box [.i a.id, .w a.x.c, .w a.x.m])])) 13 (fun j => j ≤ 8) (fun j => 8 - j) 0 (by simp) (Fit_of_regs (Nat.zero_le _) rfl (by simp [go_sem]) (by simp [go_sem, cIn])) ?_
    intro j J hj
    rcases (show j = 0 ∨ j = 1 ∨ j = 2 ∨ j = 3 ∨ j = 4 ∨ j = 5 ∨ j = 6 ∨ j = 7 ∨ j = 8 by omega) with rfl | rfl | rfl | rfl | rfl | rfl | rfl | rfl | rfl
    · simp [go_sem]
      refine GDraw_l (t := (.take 0 (.take 1 (.take 2 (.take 3 (.take 4 (.take 5 (.take 6 (.take 7 (.take 9 (.take 10 (.take 12 (.alt 8 [12, 10, 9, 7, 6, 5, 4, 3, 2, 1, 0] (.alt 11 [12, 10, 9, 5, 4, 3, 2, 1, 0] (.take 13 (.alt 14 [13, 12, 9, 5, 3, 2, 1, 0] (.done [12]) .nil)) .nil) .nil))))))))))))) T_ok (by kernel_rfl) (by kernel_rfl) (by kernel_rfl) (fun _ _ _ _ h => h) ?_
      simp [go_sem]
      refine call_val (cellOf66 a.x 0 (by omega)) rfl rfl ?_
      simp [go_sem]
      refine callK_own [4] (add80 (cK ms k 0) (chk a.x.m 0) (chk a.x.c 0) a.id (hsk 0 (by omega))) (by simp) rfl ?_ ?_
      · simp [go_sem, cIn]
      rw [← hc 0]
      simp [go_sem]
      refine ⟨1, by omega, by omega, Fit.vw (GSt.move 13 4 (by decide) (Nat.zero_le _) (Nat.zero_le _) (by decide)) (Fit_of_regs (Nat.zero_le _) rfl (by simp [go_sem]) ?_)⟩
      simp [go_sem, cIn]
    · simp [go_sem]
      refine GDraw_l (t := (.take 0 (.take 1 (.take 2 (.take 3 (.take 4 (.take 5 (.take 6 (.take 7 (.take 9 (.take 10 (.take 12 (.alt 8 [12, 10, 9, 7, 6, 5, 4, 3, 2, 1, 0] (.alt 11 [12, 10, 9, 5, 4, 3, 2, 1, 0] (.take 13 (.alt 14 [13, 12, 9, 5, 3, 2, 1, 0] (.done [12]) .nil)) .nil) .nil))))))))))))) T_ok (by kernel_rfl) (by kernel_rfl) (by kernel_rfl) (fun _ _ _ _ h => h) ?_
      simp [go_sem]
      refine call_val (cellOf66 a.x 1 (by omega)) rfl rfl ?_
      simp [go_sem]
      refine callK_own [5] (add80 (cK ms k 1) (chk a.x.m 1) (chk a.x.c 1) a.id (hsk 1 (by omega))) (by simp) rfl ?_ ?_
      · simp [go_sem, cIn]
      rw [← hc 1]
      simp [go_sem]
      refine ⟨2, by omega, by omega, Fit.vw (GSt.move 13 5 (by decide) (Nat.zero_le _) (Nat.zero_le _) (by decide)) (Fit_of_regs (Nat.zero_le _) rfl (by simp [go_sem]) ?_)⟩
      simp [go_sem, cIn]
    · simp [go_sem]
      refine GDraw_l (t := (.take 0 (.take 1 (.take 2 (.take 3 (.take 4 (.take 5 (.take 6 (.take 7 (.take 9 (.take 10 (.take 12 (.alt 8 [12, 10, 9, 7, 6, 5, 4, 3, 2, 1, 0] (.alt 11 [12, 10, 9, 5, 4, 3, 2, 1, 0] (.take 13 (.alt 14 [13, 12, 9, 5, 3, 2, 1, 0] (.done [12]) .nil)) .nil) .nil))))))))))))) T_ok (by kernel_rfl) (by kernel_rfl) (by kernel_rfl) (fun _ _ _ _ h => h) ?_
      simp [go_sem]
      refine call_val (cellOf66 a.x 2 (by omega)) rfl rfl ?_
      simp [go_sem]
      refine callK_own [6] (add80 (cK ms k 2) (chk a.x.m 2) (chk a.x.c 2) a.id (hsk 2 (by omega))) (by simp) rfl ?_ ?_
      · simp [go_sem, cIn]
      rw [← hc 2]
      simp [go_sem]
      refine ⟨3, by omega, by omega, Fit.vw (GSt.move 13 6 (by decide) (Nat.zero_le _) (Nat.zero_le _) (by decide)) (Fit_of_regs (Nat.zero_le _) rfl (by simp [go_sem]) ?_)⟩
      simp [go_sem, cIn]
    · simp [go_sem]
      refine GDraw_l (t := (.take 0 (.take 1 (.take 2 (.take 3 (.take 4 (.take 5 (.take 6 (.take 7 (.take 9 (.take 10 (.take 12 (.alt 8 [12, 10, 9, 7, 6, 5, 4, 3, 2, 1, 0] (.alt 11 [12, 10, 9, 5, 4, 3, 2, 1, 0] (.take 13 (.alt 14 [13, 12, 9, 5, 3, 2, 1, 0] (.done [12]) .nil)) .nil) .nil))))))))))))) T_ok (by kernel_rfl) (by kernel_rfl) (by kernel_rfl) (fun _ _ _ _ h => h) ?_
      simp [go_sem]
      refine call_val (cellOf66 a.x 3 (by omega)) rfl rfl ?_
      simp [go_sem]
      refine callK_own [7] (add80 (cK ms k 3) (chk a.x.m 3) (chk a.x.c 3) a.id (hsk 3 (by omega))) (by simp) rfl ?_ ?_
      · simp [go_sem, cIn]
      rw [← hc 3]
      simp [go_sem]
      refine ⟨4, by omega, by omega, Fit.vw (GSt.move 13 7 (by decide) (Nat.zero_le _) (Nat.zero_le _) (by decide)) (Fit_of_regs (Nat.zero_le _) rfl (by simp [go_sem]) ?_)⟩
      simp [go_sem, cIn]
    · simp [go_sem]
      refine GDraw_l (t := (.take 0 (.take 1 (.take 2 (.take 3 (.take 4 (.take 5 (.take 6 (.take 7 (.take 9 (.take 10 (.take 12 (.alt 8 [12, 10, 9, 7, 6, 5, 4, 3, 2, 1, 0] (.alt 11 [12, 10, 9, 5, 4, 3, 2, 1, 0] (.take 13 (.alt 14 [13, 12, 9, 5, 3, 2, 1, 0] (.done [12]) .nil)) .nil) .nil))))))))))))) T_ok (by kernel_rfl) (by kernel_rfl) (by kernel_rfl) (fun _ _ _ _ h => h) ?_
      simp [go_sem]
      refine call_val (cellOf66 a.x 4 (by omega)) rfl rfl ?_
      simp [go_sem]
      refine callK_own [8] (add80 (cK ms k 4) (chk a.x.m 4) (chk a.x.c 4) a.id (hsk 4 (by omega))) (by simp) rfl ?_ ?_
      · simp [go_sem, cIn]
      rw [← hc 4]
      simp [go_sem]
      refine ⟨5, by omega, by omega, Fit.vw (GSt.move 13 8 (by decide) (Nat.zero_le _) (Nat.zero_le _) (by decide)) (Fit_of_regs (Nat.zero_le _) rfl (by simp [go_sem]) ?_)⟩
      simp [go_sem, cIn]
    · simp [go_sem]
      refine GDraw_l (t := (.take 0 (.take 1 (.take 2 (.take 3 (.take 4 (.take 5 (.take 6 (.take 7 (.take 9 (.take 10 (.take 12 (.alt 8 [12, 10, 9, 7, 6, 5, 4, 3, 2, 1, 0] (.alt 11 [12, 10, 9, 5, 4, 3, 2, 1, 0] (.take 13 (.alt 14 [13, 12, 9, 5, 3, 2, 1, 0] (.done [12]) .nil)) .nil) .nil))))))))))))) T_ok (by kernel_rfl) (by kernel_rfl) (by kernel_rfl) (fun _ _ _ _ h => h) ?_
      simp [go_sem]
      refine call_val (cellOf66 a.x 5 (by omega)) rfl rfl ?_
      simp [go_sem]
      refine callK_own [9] (add80 (cK ms k 5) (chk a.x.m 5) (chk a.x.c 5) a.id (hsk 5 (by omega))) (by simp) rfl ?_ ?_
      · simp [go_sem, cIn]
      rw [← hc 5]
      simp [go_sem]
      refine ⟨6, by omega, by omega, Fit.vw (GSt.move 13 9 (by decide) (Nat.zero_le _) (Nat.zero_le _) (by decide)) (Fit_of_regs (Nat.zero_le _) rfl (by simp [go_sem]) ?_)⟩
      simp [go_sem, cIn]
    · simp [go_sem]
      refine GDraw_l (t := (.take 0 (.take 1 (.take 2 (.take 3 (.take 4 (.take 5 (.take 6 (.take 7 (.take 9 (.take 10 (.take 12 (.alt 8 [12, 10, 9, 7, 6, 5, 4, 3, 2, 1, 0] (.alt 11 [12, 10, 9, 5, 4, 3, 2, 1, 0] (.take 13 (.alt 14 [13, 12, 9, 5, 3, 2, 1, 0] (.done [12]) .nil)) .nil) .nil))))))))))))) T_ok (by kernel_rfl) (by kernel_rfl) (by kernel_rfl) (fun _ _ _ _ h => h) ?_
      simp [go_sem]
      refine call_val (cellOf66 a.x 6 (by omega)) rfl rfl ?_
      simp [go_sem]
      refine callK_own [10] (add80 (cK ms k 6) (chk a.x.m 6) (chk a.x.c 6) a.id (hsk 6 (by omega))) (by simp) rfl ?_ ?_
      · simp [go_sem, cIn]
      rw [← hc 6]
      simp [go_sem]
      refine ⟨7, by omega, by omega, Fit.vw (GSt.move 13 10 (by decide) (Nat.zero_le _) (Nat.zero_le _) (by decide)) (Fit_of_regs (Nat.zero_le _) rfl (by simp [go_sem]) ?_)⟩
      simp [go_sem, cIn]
    · simp [go_sem]
      refine GDraw_l (t := (.take 0 (.take 1 (.take 2 (.take 3 (.take 4 (.take 5 (.take 6 (.take 7 (.take 9 (.take 10 (.take 12 (.alt 8 [12, 10, 9, 7, 6, 5, 4, 3, 2, 1, 0] (.alt 11 [12, 10, 9, 5, 4, 3, 2, 1, 0] (.take 13 (.alt 14 [13, 12, 9, 5, 3, 2, 1, 0] (.done [12]) .nil)) .nil) .nil))))))))))))) T_ok (by kernel_rfl) (by kernel_rfl) (by kernel_rfl) (fun _ _ _ _ h => h) ?_
      simp [go_sem]
      refine call_val (cellOf66 a.x 7 (by omega)) rfl rfl ?_
      simp [go_sem]
      refine callK_own [11] (add80 (cK ms k 7) (chk a.x.m 7) (chk a.x.c 7) a.id (hsk 7 (by omega))) (by simp) rfl ?_ ?_
      · simp [go_sem, cIn]
      rw [← hc 7]
      simp [go_sem]
      refine ⟨8, by omega, by omega, Fit.vw (GSt.move 13 11 (by decide) (Nat.zero_le _) (Nat.zero_le _) (by decide)) (Fit_of_regs (Nat.zero_le _) rfl (by simp [go_sem]) ?_)⟩
      simp [go_sem, cIn]
    · simp [go_sem]
      refine ⟨by omega, k + 1, by omega, by omega, Fit_of_regs (Nat.zero_le _) rfl (by simp [go_sem]) (by simp [go_sem, cIn])⟩
  · have hkl : k = ms.length := by omega
    subst hkl
    refine ⟨[2, 4, 5, 6, 7, 8, 9, 10, 11], by simp, fun N => ⟨?_, ?_⟩⟩
    · simp [go_sem]
    · simp [go_sem]
end Go.Gx.Ix
