/-
  The reference's lists: Chunk, used, List.
-/
import Derived.Test.YtdnblflhlklfnaaGreatJm
set_option linter.unusedVariables false
set_option linter.unusedSimpArgs false
set_option maxRecDepth 20000
set_option maxHeartbeats 4000000
namespace Go.Gx.Ix
open Go.RowKit Go.Proofs Go.Proofs.YtdnblflhlklfnaaGreat

theorem chunk100 (w : BitVec 64) (j : Nat) (hj : j < 8) : Pure Tryz.prog 69 [.w w, .i j] (· = .y (chk w j)) := by
  refine pure_of_GC T_ok Tryz.func69 rfl (by kernel_rfl) (Nat.le_of_ble_eq_true rfl) rfl rfl ?_
  have h1 : ((8 : Int) * j).toNat = 8 * j := by omega
  simp [go_sem, h1, fdiv_w, chk]
  omega
/-- The pair of a chunk's mask and code, as one number. -/
def pcN (a : MbG) (j : Nat) : Nat := 256 * (chk a.x.m j).toNat + (chk a.x.c j).toNat
def usedB (ms : List MbG) (j p : Nat) : Bool := ms.any fun a => decide (pcN a j = p)
theorem used99 (ms : List MbG) (hn : ms.length ≤ 1000) (j : Nat) (hj : j < 8) : Pure Tryz.prog 78 [mrs ms, .i j] (· = .r (.rs 1 65536 fun i _ => .v (.bool (usedB ms j i)))) := by
  refine pure_ofLe ?_
  refine pure_of_GC T_ok Tryz.func78 rfl (by kernel_rfl) (Nat.le_of_ble_eq_true rfl) rfl rfl ?_
  simp [go_sem]
  refine GLoop_s T_ok (α := Nat) (fun k => [(0, mrs ms), (1, .i j), (5, .sl 0 1 0 65536 none), (6, .i k)]) (fun k => [some (.vec 4 1 65536 fun i _ => .b (usedB (ms.take k) j i))]) 1 (fun k => k ≤ ms.length) (fun k => ms.length - k) 0 (fun _ => rfl) (by simp) (by simp [go_sem]) (by simp [go_sem]; intro i hi; rfl) ?_
  intro k J hk
  by_cases hkl : k < ms.length
  · have r0 := mrow hkl 0
    have r1 := mrow hkl 1
    have r2 := mrow hkl 2
    have hts := List.take_succ_eq_append_getElem hkl
    generalize ms[k] = a at *
    have hm := (chk a.x.m j).isLt
    have hc := (chk a.x.c j).isLt
    have hpc : pcN a j = 256 * (chk a.x.m j).toNat + (chk a.x.c j).toNat := rfl
    have hus : ∀ i, usedB (ms.take (k + 1)) j i = (usedB (ms.take k) j i || decide (pcN a j = i)) := fun i => by unfold usedB; rw [hts, List.any_append]; simp
    simp [go_sem, hkl, r0, r1, r2]
    refine GDraw_l (t := (.take 0 (.take 1 (.take 2 (.take 3 (.take 4 (.take 5 (.take 6 (.take 7 (.take 11 (.take 12 (.take 13 (.take 14 (.take 15 (.take 16 (.take 17 (.alt 8 [17, 16, 15, 14, 13, 12, 11, 7, 6, 5, 4, 3, 2, 1, 0] (.take 9 (.take 10 (.alt 18 [10, 9, 17, 16, 15, 14, 13, 12, 11, 5, 4, 3, 2, 1, 0] (.take 19 (.take 20 (.take 21 (.alt 22 [21, 20, 19, 10, 9, 15, 14, 13, 12, 11, 5, 4, 3, 2, 1, 0] (.done []) .nil)))) .nil))) .nil))))))))))))))))) T_ok (by kernel_rfl) (by kernel_rfl) (by kernel_rfl) (fun _ _ _ _ h => h) ?_
    simp [go_sem, hkl, r0, r1, r2]
    refine call_val (chunk100 a.x.m j hj) rfl rfl ?_
    simp [go_sem]
    refine ⟨by omega, ⟨by omega, ⟨hkl, r1.symm⟩, hkl⟩, call_val (chunk100 a.x.c j hj) rfl rfl ?_⟩
    simp [go_sem]
    have hpi : (256 : Int) * (chk a.x.m j).toNat + (chk a.x.c j).toNat = (pcN a j : Nat) := by rw [hpc]; simp
    rw [hpi, Int.toNat_natCast]
    have hpl : pcN a j < 65536 := by omega
    refine ⟨by omega, by omega, ⟨by omega, by omega, by omega, by omega⟩, by omega, by omega, k + 1, by omega, by omega, by omega, fun i hi => ?_⟩
    rw [hus i]
    by_cases h : i = pcN a j
    · subst h; simp [SV.trim]
    · rw [if_neg h]
      have : ¬ pcN a j = i := fun e => h e.symm
      simp [SV.trim, this]
  · have hke : k = ms.length := by omega
    subst hke
    rw [List.take_length]
    simp [go_sem]
    exact SV.le.rfl
def lsP (ms : List MbG) (j p : Nat) : PsG := ⟨BitVec.ofNat 8 (p % 256), BitVec.ofNat 8 (p / 256), (ms.filter fun a => decide (pcN a j = p)).map (·.id)⟩
/-- The postings of the pairs below a number. -/
def lsR (ms : List MbG) (j k : Nat) : List PsG := ((List.range k).filter (usedB ms j)).map (lsP ms j)
theorem lsR_zero (ms : List MbG) (j : Nat) : lsR ms j 0 = [] := rfl
theorem lsR_succ (ms : List MbG) (j k : Nat) : lsR ms j (k + 1) = lsR ms j k ++ if usedB ms j k = true then [lsP ms j k] else [] := by
  unfold lsR
  rw [List.range_succ, List.filter_append, List.map_append]
  congr 1
  by_cases h : usedB ms j k = true <;> simp [h]
theorem lsR_len (ms : List MbG) (j k : Nat) : (lsR ms j k).length ≤ k := by
  unfold lsR
  rw [List.length_map]
  have := List.length_filter_le (usedB ms j) (List.range k)
  rwa [List.length_range] at this
/-- The numbers of the members of a posting, of the first ones. -/
def idR (ms : List MbG) (j p i : Nat) : List Int := ((ms.take i).filter fun a => decide (pcN a j = p)).map (·.id)
theorem idR_zero (ms : List MbG) (j p : Nat) : idR ms j p 0 = [] := rfl
theorem idR_succ (ms : List MbG) (j p : Nat) {i : Nat} (hi : i < ms.length) : idR ms j p (i + 1) = idR ms j p i ++ if pcN ms[i] j = p then [ms[i].id] else [] := by
  unfold idR
  rw [List.take_succ_eq_append_getElem hi, List.filter_append, List.map_append]
  congr 1
  by_cases h : pcN ms[i] j = p <;> simp [h]
theorem idR_len (ms : List MbG) (j p i : Nat) : (idR ms j p i).length ≤ ms.length := by
  unfold idR
  rw [List.length_map]
  refine Nat.le_trans (List.length_filter_le _ _) ?_
  rw [List.length_take]; omega
theorem pjoin (Q : List PsG) (P : PsG) (i c : Nat) (hi : i < Q.length + 1) (hc : c < 3) :
    SV.trim 1 (SV.fz 2 (Reg.vec 3 1 P.ids.length fun a b => SV.r (irows P.ids a b)) (SV.kill 0 (joined Q.length 1 (fun i j => SV.r (prows Q i j)) (fun i j => [SV.y P.c, SV.y P.m, SV.sl 2 1 0 P.ids.length none][i * 3 + j]?.getD (SV.r RV.any)) i c))) = SV.r (prows (Q ++ [P]) i c) := by
  unfold joined
  by_cases h : i < Q.length
  · rw [if_pos h, prow (by rw [List.length_append]; omega), List.getElem_append_left h, ← prow h]; rfl
  · obtain rfl : i = Q.length := by omega
    rw [if_neg h, if_pos (by omega), Nat.sub_self, prow (by rw [List.length_append, List.length_singleton]; omega), List.getElem_append_right (Nat.le_refl _)]
    simp only [Nat.sub_self, List.getElem_cons_zero]
    rcases (show c = 0 ∨ c = 1 ∨ c = 2 by omega) with rfl | rfl | rfl
    · rfl
    · rfl
    · simp [SV.kill, SV.fz, SV.trim, SV.toRV]
      rfl
theorem list82 (ms : List MbG) (hn : ms.length ≤ 1000) (j : Nat) (hj : j < 8) : Pure Tryz.prog 67 [mrs ms, .i j] (· = pls (lsR ms j 65536)) := by
  refine pure_of_GC T_ok Tryz.func67 rfl (by kernel_rfl) (Nat.le_of_ble_eq_true rfl) rfl rfl ?_
  simp [go_sem]
  refine call_val (used99 ms hn j hj) rfl rfl ?_
  simp [go_sem]
  refine GLoop_pre (GSt.adopt 5 56 3 (fun i c => .r (prows [] i c)) (by rfl)) ?_
  refine GLoop_fit T_ok (α := Nat) (fun p => [(0, mrs ms), (1, .i j), (5, .sl 0 3 0 (lsR ms j p).length none), (6, .r (.rs 1 65536 fun i _ => .v (.bool (usedB ms j i)))), (7, .i p)]) (fun p => memL [some (preg (lsR ms j p))]) 1 (fun p => p ≤ 65536) (fun p => 65536 - p) 0 (by simp) (Fit_of_regs (Nat.zero_le _) rfl (by simp [go_sem, lsR_zero]) (by simp [go_sem, lsR_zero])) ?_
  intro p J hp
  by_cases hpl : p < 65536
  · have hpl' : (p : Int) < 65536 := by omega
    have hsu := lsR_succ ms j p
    have hll := lsR_len ms j p
    simp [go_sem, hpl, hpl']
    cases hu : usedB ms j p
    · rw [hu] at hsu
      simp only [Bool.false_eq_true, if_false, List.append_nil] at hsu
      simp
      refine ⟨by omega, p + 1, by omega, by omega, ?_⟩
      rw [hsu]
      exact Fit_of_regs (Nat.zero_le _) rfl (by simp [go_sem, hsu]) (by simp [go_sem])
    · rw [hu] at hsu
      simp only [if_true] at hsu
      simp
      refine ⟨by omega, ?_⟩
      have hb1 : (BitVec.ofNat 8 (p % 256)).toNat = p % 256 := by simp
      have hb2 : (BitVec.ofNat 8 (p / 256)).toNat = p / 256 := by rw [BitVec.toNat_ofNat]; omega
      have w1 : IntKind.u8.wrap ((p : Int).tmod 256) = ((lsP ms j p).c.toNat : Int) := by
        have e : (p : Int).tmod 256 = ((p % 256 : Nat) : Int) := by simp [Int.tmod_eq_emod_of_nonneg]
        rw [e, wrap_inr (by simp only [inr]; omega)]
        exact (congrArg Int.ofNat hb1).symm
      have w2 : IntKind.u8.wrap ((p : Int) / 256) = ((lsP ms j p).m.toNat : Int) := by
        have e : (p : Int) / 256 = ((p / 256 : Nat) : Int) := by simp
        rw [e, wrap_inr (by simp only [inr]; omega)]
        exact (congrArg Int.ofNat hb2).symm
      have hid : (lsP ms j p).ids = idR ms j p ms.length := by unfold lsP idR; rw [List.take_length]
      refine GLoop_pre (GSt.adoptBox 1 2 3 1 (fun a b => .r (irows [] a b)) (by rfl) (by rfl) (by decide)) ?_
      generalize lsR ms j p = Q at *
      refine GLoop_s T_ok (α := Nat) (fun i => [(0, mrs ms), (1, .i j), (5, .sl 0 3 0 Q.length none), (6, .r (.rs 1 65536 fun i _ => .v (.bool (usedB ms j i)))), (7, .i p), (8, .ptr 1 0 3 0), (9, .i i)])
        (fun i => [some (preg Q), some (.box [.y (lsP ms j p).c, .y (lsP ms j p).m, .sl 2 1 0 (idR ms j p i).length none]), some (.vec 3 1 (idR ms j p i).length fun a b => .r (irows (idR ms j p i) a b))]) 3
        (fun i => i ≤ ms.length) (fun i => ms.length - i) 0 (fun _ => rfl) (by simp) (by simp [go_sem, idR_zero]) (by simp [go_sem, w1, w2, idR_zero]) ?_
      intro i J hi
      by_cases hil : i < ms.length
      · have r0 := mrow hil 0
        have r1 := mrow hil 1
        have r2 := mrow hil 2
        have hsn := idR_succ ms j p hil
        have hle := idR_len ms j p i
        generalize ms[i] = a at *
        generalize idR ms j p i = R at *
        simp [go_sem, hil, r0, r1, r2]
        refine GDraw_all T_ok (by kernel_rfl) (by kernel_rfl) ?_
        simp [go_sem, hil, r0, r1, r2]
        refine ⟨_, dcall_val (chunk100 a.x.m j hj) rfl rfl, by simp [SV.refs], ?_⟩
        have hmb := (chk a.x.m j).isLt
        have hcb := (chk a.x.c j).isLt
        have hpc : pcN a j = 256 * (chk a.x.m j).toNat + (chk a.x.c j).toNat := rfl
        have hm1 : (lsP ms j p).m.toNat = p / 256 := hb2
        have hc1 : (lsP ms j p).c.toNat = p % 256 := hb1
        simp [go_sem]
        by_cases hmm : (chk a.x.m j).toNat = (lsP ms j p).m.toNat
        · rw [if_pos (by omega)]
          refine ⟨hil, _, by rw [r1]; exact dcall_val (chunk100 a.x.c j hj) rfl rfl, by simp [SV.refs], ?_⟩
          simp [go_sem, hil]
          by_cases hcc : (chk a.x.c j).toNat = (lsP ms j p).c.toNat
          · rw [if_pos (by omega)]
            rw [if_pos (by omega)] at hsn
            refine GDraw_l (t := (.take 0 (.take 1 (.take 2 (.take 3 (.take 4 (.take 5 (.take 6 (.alt 7 [6, 5, 4, 3, 2, 1, 0] (.alt 8 [5, 4, 3, 2, 1, 0] (.take 9 (.alt 10 [9, 5, 4, 3, 2, 0] (.done []) .nil)) .nil) .nil))))))))) T_ok (by kernel_rfl) (by kernel_rfl) (by kernel_rfl) (fun _ _ _ _ h => h) ?_
            simp [go_sem, hil, r0]
            refine ⟨⟨by omega, by omega⟩, by omega, i + 1, by omega, by omega, by omega, ?_⟩
            rw [hsn]
            refine ⟨by rw [List.length_append, List.length_singleton], by rw [List.length_append, List.length_singleton]; omega, fun i hi => ijoin 3 2 R _ i (by rw [List.length_append, List.length_singleton] at hi; exact hi)⟩
          · rw [if_neg (by omega)]
            rw [if_neg (by omega), List.append_nil] at hsn
            refine ⟨by omega, i + 1, by omega, by omega, by omega, ?_⟩
            rw [hsn]
            exact ⟨rfl, Nat.le_refl _, fun _ _ => rfl⟩
        · rw [if_neg (by omega)]
          rw [if_neg (by omega), List.append_nil] at hsn
          refine ⟨by omega, i + 1, by omega, by omega, by omega, ?_⟩
          rw [hsn]
          exact ⟨rfl, Nat.le_refl _, fun _ _ => rfl⟩
      · have hie : i = ms.length := by omega
        subst hie
        rw [← hid]
        simp [go_sem]
        refine ⟨⟨by omega, by omega⟩, by omega, p + 1, by omega, by omega, ?_⟩
        rw [hsu]
        refine Fit.vw (GSt.freeze 2 (by rfl)) (Fit_of_regs (Nat.zero_le _) rfl (by simp [go_sem, hsu]) ?_)
        simp [go_sem, hsu]
        exact fun i c hi hc => pjoin Q (lsP ms j p) i c hi hc
  · have hpe : p = 65536 := by omega
    subst hpe
    simp [go_sem]
end Go.Gx.Ix
