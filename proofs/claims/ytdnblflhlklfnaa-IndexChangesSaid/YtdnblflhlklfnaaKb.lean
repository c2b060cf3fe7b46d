/-
  The reference's lists: Chunk, used, List. The reference's Sorted and Of.
-/
import Derived.Test.YtdnblflhlklfnaaJl
set_option linter.unusedVariables false
set_option linter.unusedSimpArgs false
set_option maxRecDepth 20000
set_option maxHeartbeats 4000000
namespace Go.Gx.Ix
open Go.RowKit Go.Proofs Go.Proofs.Ytdnblflhlklfnaa

theorem chunk100 (w : BitVec 64) (j : Nat) (hj : j < 8) : Pure Try.prog 100 [.w w, .i j] (· = .y (chk w j)) := by
  refine pure_of_GC T_ok Try.func100 rfl (by kernel_rfl) (Nat.le_of_ble_eq_true rfl) rfl rfl ?_
  have h1 : ((8 : Int) * j).toNat = 8 * j := by omega
  simp [go_sem, h1, fdiv_w, chk]
  omega
/-- The pair of a chunk's mask and code, as one number. -/
def pcN (a : MbG) (j : Nat) : Nat := 256 * (chk a.x.m j).toNat + (chk a.x.c j).toNat
def usedB (ms : List MbG) (j p : Nat) : Bool := ms.any fun a => decide (pcN a j = p)
theorem used99 (ms : List MbG) (hn : ms.length ≤ 1000) (j : Nat) (hj : j < 8) : Pure Try.prog 99 [mrs ms, .i j] (· = .r (.rs 1 65536 fun i _ => .v (.bool (usedB ms j i)))) := by
  refine pure_ofLe ?_
  refine pure_of_GC T_ok Try.func99 rfl (by kernel_rfl) (Nat.le_of_ble_eq_true rfl) rfl rfl ?_
  simp [go_sem]
  refine GLoop_s T_ok (α := Nat) (fun k => [(0, mrs ms), (1, .i j), (5, .sl 0 1 0 65536 none), (6, .i k)]) (fun k => [some (.vec 4 1 65536 fun i _ => .b (usedB (ms.take k) j i))]) 1 (fun k => k ≤ ms.length) (fun k => ms.length - k) 0 (fun _ => rfl) (by simp) (by simp [go_sem]) (by simp [go_sem]; intro i hi; rfl) ?_
  intro k J hk
  by_cases hkl : k < ms.length
  · have r0 := mrow hkl 0
    have r1 := mrow hkl 1
    have r2 := mrow hkl 2
    have hts := List.take_succ_eq_append_getElem hkl
    generalize ms[k] = a at *
    have hm := (chk a.x.m j).isLt
    have hc := (chk a.x.c j).isLt
    have hpc : pcN a j = 256 * (chk a.x.m j).toNat + (chk a.x.c j).toNat := rfl
    have hus : ∀ i, usedB (ms.take (k + 1)) j i = (usedB (ms.take k) j i || decide (pcN a j = i)) := fun i => by unfold usedB; rw [hts, List.any_append]; simp
    simp [go_sem, hkl, r0, r1, r2]
    refine GDraw_l (t := (.take 0 (.take 1 (.take 2 (.take 3 (.take 4 (.take 5 (.take 6 (.take 7 (.take 11 (.take 12 (.take 13 (.take 14 (.take 15 (.take 16 (.take 17 (.alt 8 [17, 16, 15, 14, 13, 12, 11, 7, 6, 5, 4, 3, 2, 1, 0] (.take 9 (.take 10 (.alt 18 [10, 9, 17, 16, 15, 14, 13, 12, 11, 5, 4, 3, 2, 1, 0] (.take 19 (.take 20 (.take 21 (.alt 22 [21, 20, 19, 10, 9, 15, 14, 13, 12, 11, 5, 4, 3, 2, 1, 0] (.done []) .nil)))) .nil))) .nil))))))))))))))))) T_ok (by kernel_rfl) (by kernel_rfl) (by kernel_rfl) (fun _ _ _ _ h => h) ?_
    simp [go_sem, hkl, r0, r1, r2]
    refine call_val (chunk100 a.x.m j hj) rfl rfl ?_
    simp [go_sem]
    refine ⟨by omega, ⟨by omega, ⟨hkl, r1.symm⟩, hkl⟩, call_val (chunk100 a.x.c j hj) rfl rfl ?_⟩
    simp [go_sem]
    have hpi : (256 : Int) * (chk a.x.m j).toNat + (chk a.x.c j).toNat = (pcN a j : Nat) := by rw [hpc]; simp
    rw [hpi, Int.toNat_natCast]
    have hpl : pcN a j < 65536 := by omega
    refine ⟨by omega, by omega, ⟨by omega, by omega, by omega, by omega⟩, by omega, by omega, k + 1, by omega, by omega, by omega, fun i hi => ?_⟩
    rw [hus i]
    by_cases h : i = pcN a j
    · subst h; simp [SV.trim]
    · rw [if_neg h]
      have : ¬ pcN a j = i := fun e => h e.symm
      simp [SV.trim, this]
  · have hke : k = ms.length := by omega
    subst hke
    rw [List.take_length]
    simp [go_sem]
    exact SV.le.rfl
def lsP (ms : List MbG) (j p : Nat) : PsG := ⟨BitVec.ofNat 8 (p % 256), BitVec.ofNat 8 (p / 256), (ms.filter fun a => decide (pcN a j = p)).map (·.id)⟩
/-- The postings of the pairs below a number. -/
def lsR (ms : List MbG) (j k : Nat) : List PsG := ((List.range k).filter (usedB ms j)).map (lsP ms j)
theorem lsR_zero (ms : List MbG) (j : Nat) : lsR ms j 0 = [] := rfl
theorem lsR_succ (ms : List MbG) (j k : Nat) : lsR ms j (k + 1) = lsR ms j k ++ if usedB ms j k = true then [lsP ms j k] else [] := by
  unfold lsR
  rw [List.range_succ, List.filter_append, List.map_append]
  congr 1
  by_cases h : usedB ms j k = true <;> simp [h]
theorem lsR_len (ms : List MbG) (j k : Nat) : (lsR ms j k).length ≤ k := by
  unfold lsR
  rw [List.length_map]
  have := List.length_filter_le (usedB ms j) (List.range k)
  rwa [List.length_range] at this
/-- The numbers of the members of a posting, of the first ones. -/
def idR (ms : List MbG) (j p i : Nat) : List Int := ((ms.take i).filter fun a => decide (pcN a j = p)).map (·.id)
theorem idR_zero (ms : List MbG) (j p : Nat) : idR ms j p 0 = [] := rfl
theorem idR_succ (ms : List MbG) (j p : Nat) {i : Nat} (hi : i < ms.length) : idR ms j p (i + 1) = idR ms j p i ++ if pcN ms[i] j = p then [ms[i].id] else [] := by
  unfold idR
  rw [List.take_succ_eq_append_getElem hi, List.filter_append, List.map_append]
  congr 1
  by_cases h : pcN ms[i] j = p <;> simp [h]
theorem idR_len (ms : List MbG) (j p i : Nat) : (idR ms j p i).length ≤ ms.length := by
  unfold idR
  rw [List.length_map]
  refine Nat.le_trans (List.length_filter_le _ _) ?_
  rw [List.length_take]; omega
theorem pjoin (Q : List PsG) (P : PsG) (i c : Nat) (hi : i < Q.length + 1) (hc : c < 3) :
    SV.trim 1 (SV.fz 2 (Reg.vec 3 1 P.ids.length fun a b => SV.r (irows P.ids a b)) (SV.kill 0 (joined Q.length 1 (fun i j => SV.r (prows Q i j)) (fun i j => [SV.y P.c, SV.y P.m, SV.sl 2 1 0 P.ids.length none][i * 3 + j]?.getD (SV.r RV.any)) i c))) = SV.r (prows (Q ++ [P]) i c) := by
  unfold joined
  by_cases h : i < Q.length
  · rw [if_pos h, prow (by rw [List.length_append]; omega), List.getElem_append_left h, ← prow h]; rfl
  · obtain rfl : i = Q.length := by omega
    rw [if_neg h, if_pos (by omega), Nat.sub_self, prow (by rw [List.length_append, List.length_singleton]; omega), List.getElem_append_right (Nat.le_refl _)]
    simp only [Nat.sub_self, List.getElem_cons_zero]
    rcases (show c = 0 ∨ c = 1 ∨ c = 2 by omega) with rfl | rfl | rfl
    · rfl
    · rfl
    · simp [SV.kill, SV.fz, SV.trim, SV.toRV]
      rfl
theorem list82 (ms : List MbG) (hn : ms.length ≤ 1000) (j : Nat) (hj : j < 8) : Pure Try.prog 82 [mrs ms, .i j] (· = pls (lsR ms j 65536)) := by
  refine pure_of_GC T_ok Try.func82 rfl (by kernel_rfl) (Nat.le_of_ble_eq_true rfl) rfl rfl ?_
  simp [go_sem]
  refine call_val (used99 ms hn j hj) rfl rfl ?_
  simp [go_sem]
  refine GLoop_pre (GSt.adopt 5 75 3 (fun i c => .r (prows [] i c)) (by rfl)) ?_
  refine GLoop_fit T_ok (α := Nat) (fun p => [(0, mrs ms), (1, .i j), (5, .sl 0 3 0 (lsR ms j p).length none), (6, .r (.rs 1 65536 fun i _ => .v (.bool (usedB ms j i)))), (7, .i p)]) (fun p => memL [some (preg (lsR ms j p))]) 1 (fun p => p ≤ 65536) (fun p => 65536 - p) 0 (by simp) (Fit_of_regs (Nat.zero_le _) rfl (by simp [go_sem, lsR_zero]) (by simp [go_sem, lsR_zero])) ?_
  intro p J hp
  by_cases hpl : p < 65536
  · have hpl' : (p : Int) < 65536 := by omega
    have hsu := lsR_succ ms j p
    have hll := lsR_len ms j p
    simp [go_sem, hpl, hpl']
    cases hu : usedB ms j p
    · rw [hu] at hsu
      simp only [Bool.false_eq_true, if_false, List.append_nil] at hsu
      simp
      refine ⟨by omega, p + 1, by omega, by omega, ?_⟩
      rw [hsu]
      exact Fit_of_regs (Nat.zero_le _) rfl (by simp [go_sem, hsu]) (by simp [go_sem])
    · rw [hu] at hsu
      simp only [if_true] at hsu
      simp
      refine ⟨by omega, ?_⟩
      have hb1 : (BitVec.ofNat 8 (p % 256)).toNat = p % 256 := by simp
      have hb2 : (BitVec.ofNat 8 (p / 256)).toNat = p / 256 := by rw [BitVec.toNat_ofNat]; omega
      have w1 : IntKind.u8.wrap ((p : Int).tmod 256) = ((lsP ms j p).c.toNat : Int) := by
        have e : (p : Int).tmod 256 = ((p % 256 : Nat) : Int) := by simp [Int.tmod_eq_emod_of_nonneg]
        rw [e, wrap_inr (by simp only [inr]; omega)]
        exact (congrArg Int.ofNat hb1).symm
      have w2 : IntKind.u8.wrap ((p : Int) / 256) = ((lsP ms j p).m.toNat : Int) := by
        have e : (p : Int) / 256 = ((p / 256 : Nat) : Int) := by simp
        rw [e, wrap_inr (by simp only [inr]; omega)]
        exact (congrArg Int.ofNat hb2).symm
      have hid : (lsP ms j p).ids = idR ms j p ms.length := by unfold lsP idR; rw [List.take_length]
      refine GLoop_pre (GSt.adoptBox 1 2 3 1 (fun a b => .r (irows [] a b)) (by rfl) (by rfl) (by decide)) ?_
      generalize lsR ms j p = Q at *
      refine GLoop_s T_ok (α := Nat) (fun i => [(0, mrs ms), (1, .i j), (5, .sl 0 3 0 Q.length none), (6, .r (.rs 1 65536 fun i _ => .v (.bool (usedB ms j i)))), (7, .i p), (8, .ptr 1 0 3 0), (9, .i i)])
        (fun i => [some (preg Q), some (.box [.y (lsP ms j p).c, .y (lsP ms j p).m, .sl 2 1 0 (idR ms j p i).length none]), some (.vec 3 1 (idR ms j p i).length fun a b => .r (irows (idR ms j p i) a b))]) 3
        (fun i => i ≤ ms.length) (fun i => ms.length - i) 0 (fun _ => rfl) (by simp) (by simp [go_sem, idR_zero]) (by simp [go_sem, w1, w2, idR_zero]) ?_
      intro i J hi
      by_cases hil : i < ms.length
      · have r0 := mrow hil 0
        have r1 := mrow hil 1
        have r2 := mrow hil 2
        have hsn := idR_succ ms j p hil
        have hle := idR_len ms j p i
        generalize ms[i] = a at *
        generalize idR ms j p i = R at *
        simp [go_sem, hil, r0, r1, r2]
        refine GDraw_all T_ok (by kernel_rfl) (by kernel_rfl) ?_
        simp [go_sem, hil, r0, r1, r2]
        refine ⟨_, dcall_val (chunk100 a.x.m j hj) rfl rfl, by simp [SV.refs], ?_⟩
        have hmb := (chk a.x.m j).isLt
        have hcb := (chk a.x.c j).isLt
        have hpc : pcN a j = 256 * (chk a.x.m j).toNat + (chk a.x.c j).toNat := rfl
        have hm1 : (lsP ms j p).m.toNat = p / 256 := hb2
        have hc1 : (lsP ms j p).c.toNat = p % 256 := hb1
        simp [go_sem]
        by_cases hmm : (chk a.x.m j).toNat = (lsP ms j p).m.toNat
        · rw [if_pos (by omega)]
          refine ⟨hil, _, by rw [r1]; exact dcall_val (chunk100 a.x.c j hj) rfl rfl, by simp [SV.refs], ?_⟩
          simp [go_sem, hil]
          by_cases hcc : (chk a.x.c j).toNat = (lsP ms j p).c.toNat
          · rw [if_pos (by omega)]
            rw [if_pos (by omega)] at hsn
            refine GDraw_l (t := (.take 0 (.take 1 (.take 2 (.take 3 (.take 4 (.take 5 (.take 6 (.alt 7 [6, 5, 4, 3, 2, 1, 0] (.alt 8 [5, 4, 3, 2, 1, 0] (.take 9 (.alt 10 [9, 5, 4, 3, 2, 0] (.done []) .nil)) .nil) .nil))))))))) T_ok (by kernel_rfl) (by kernel_rfl) (by kernel_rfl) (fun _ _ _ _ h => h) ?_
            simp [go_sem, hil, r0]
            refine ⟨⟨by omega, by omega⟩, by omega, i + 1, by omega, by omega, by omega, ?_⟩
            rw [hsn]
            refine ⟨by rw [List.length_append, List.length_singleton], by rw [List.length_append, List.length_singleton]; omega, fun i hi => ijoin 3 2 R _ i (by rw [List.length_append, List.length_singleton] at hi; exact hi)⟩
          · rw [if_neg (by omega)]
            rw [if_neg (by omega), List.append_nil] at hsn
            refine ⟨by omega, i + 1, by omega, by omega, by omega, ?_⟩
            rw [hsn]
            exact ⟨rfl, Nat.le_refl _, fun _ _ => rfl⟩
        · rw [if_neg (by omega)]
          rw [if_neg (by omega), List.append_nil] at hsn
          refine ⟨by omega, i + 1, by omega, by omega, by omega, ?_⟩
          rw [hsn]
          exact ⟨rfl, Nat.le_refl _, fun _ _ => rfl⟩
      · have hie : i = ms.length := by omega
        subst hie
        rw [← hid]
        simp [go_sem]
        refine ⟨⟨by omega, by omega⟩, by omega, p + 1, by omega, by omega, ?_⟩
        rw [hsu]
        refine Fit.vw (GSt.freeze 2 (by rfl)) (Fit_of_regs (Nat.zero_le _) rfl (by simp [go_sem, hsu]) ?_)
        simp [go_sem, hsu]
        exact fun i c hi hc => pjoin Q (lsP ms j p) i c hi hc
  · have hpe : p = 65536 := by omega
    subst hpe
    simp [go_sem]
end Go.Gx.Ix
set_option linter.unusedVariables false
set_option linter.unusedSimpArgs false
set_option maxRecDepth 20000
set_option maxHeartbeats 4000000
namespace Go.Gx.Ix
open Go.RowKit Go.Proofs Go.Proofs.Ytdnblflhlklfnaa

def xl (P R : List MbG) (a : MbG) (k : Nat) : List MbG := P.take k ++ a :: (P.drop k ++ R)
theorem xl_len (P R : List MbG) (a : MbG) (k : Nat) (hk : k ≤ P.length) : (xl P R a k).length = P.length + 1 + R.length := by
  unfold xl; simp; omega
theorem xl_get (P R : List MbG) (a : MbG) (k : Nat) (hk : k ≤ P.length) (i : Nat) : (xl P R a k)[i]? = if i < k then P[i]? else if i = k then some a else if i ≤ P.length then P[i - 1]? else R[i - (P.length + 1)]? := by
  unfold xl
  have hl : (P.take k).length = k := by simp; omega
  rw [List.getElem?_append, hl]
  by_cases h1 : i < k
  · rw [if_pos h1, if_pos h1, List.getElem?_take_of_lt h1]
  rw [if_neg h1, if_neg h1]
  by_cases h2 : i = k
  · subst h2; simp
  rw [if_neg h2]
  obtain ⟨d, rfl⟩ : ∃ d, i = k + 1 + d := ⟨i - (k + 1), by omega⟩
  rw [show k + 1 + d - k = d + 1 by omega, List.getElem?_cons_succ, List.getElem?_append, List.length_drop, List.getElem?_drop]
  by_cases h3 : k + 1 + d ≤ P.length
  · rw [if_pos (by omega), if_pos h3, show k + 1 + d - 1 = k + d by omega]
  · rw [if_neg (by omega), if_neg h3]
    congr 1; omega
theorem xl_swap (P R : List MbG) (a : MbG) (k : Nat) (hk : k + 1 ≤ P.length) (i c : Nat) : mrows (xl P R a k) i c = if i = k then a.f c else if i = k + 1 then (P[k]'hk).f c else mrows (xl P R a (k + 1)) i c := by
  unfold mrows rowsL
  rw [xl_get P R a k (by omega), xl_get P R a (k + 1) hk]
  by_cases h1 : i < k
  · rw [if_pos h1, if_neg (by omega), if_neg (by omega), if_pos (by omega)]
  rw [if_neg h1]
  by_cases h2 : i = k
  · rw [if_pos h2, if_pos h2]
  rw [if_neg h2, if_neg h2]
  by_cases h3 : i = k + 1
  · subst h3
    rw [if_pos rfl, if_pos (by omega), show k + 1 - 1 = k by omega, List.getElem?_eq_getElem (by omega)]
  have e1 : ¬ i < k + 1 := by omega
  simp only [h3, e1, if_false]
theorem sorted81 (l : List MbG) (hn : l.length ≤ 1000) (hd : (l.map (·.id)).Nodup) : Pure Try.prog 81 [mrs l] (· = mrs (srtM l)) := by
  refine pure_of_GC T_ok Try.func81 rfl (by kernel_rfl) (Nat.le_of_ble_eq_true rfl) rfl rfl ?_
  simp [go_sem]
  refine ⟨by omega, ?_⟩
  refine GLoop_s T_ok (α := Nat × List MbG) (fun s => [(3, .sl 0 3 0 l.length none), (4, .i s.1)]) (fun s => [some (.vec 43 3 l.length fun i c => .r (mrows (s.2 ++ l.drop s.1) i c))]) 1
    (fun s => s.1 ≤ l.length ∧ s.2.Perm (l.take s.1) ∧ s.2.Pairwise fun a b => a.id ≤ b.id) (fun s => l.length - s.1) (0, []) (fun _ => rfl) (by simp) (by simp [go_sem]) (by simp [go_sem]; exact fun i j hi hj => by unfold joined; rw [if_neg (by omega), if_pos (by omega)]; rfl) ?_
  rintro ⟨i, P⟩ J ⟨hi, hP, hS⟩
  dsimp only at hi hP hS
  have hPl : P.length = i := by rw [hP.length_eq, List.length_take]; omega
  by_cases hil : i < l.length
  · have hdr : l.drop i = l[i] :: l.drop (i + 1) := List.drop_eq_getElem_cons hil
    have hts := List.take_succ_eq_append_getElem hil
    generalize l[i] = a at *
    obtain ⟨R, hR⟩ : ∃ R, l.drop (i + 1) = R := ⟨_, rfl⟩
    have hRl : R.length = l.length - (i + 1) := by rw [← hR, List.length_drop]
    have hx0 : P ++ l.drop i = xl P R a i := by
      unfold xl
      rw [hdr, hR, ← hPl, List.take_length, List.drop_length, List.nil_append]
    rw [hx0]
    simp [go_sem, hil]
    refine GLoop_s T_ok (α := Nat) (fun k => [(3, .sl 0 3 0 l.length none), (4, .i i), (5, .i k)]) (fun k => [some (.vec 43 3 l.length fun i c => .r (mrows (xl P R a k) i c))]) 1
      (fun k => k ≤ i ∧ ∀ b ∈ P.drop k, a.id < b.id) (fun k => k) i (fun _ => rfl) ⟨Nat.le_refl _, by rw [← hPl, List.drop_length]; simp⟩ (by simp [go_sem]) (by simp [go_sem]) ?_
    rintro k J ⟨hk, hlt⟩
    have fin : (∀ b ∈ P.take k, b.id ≤ a.id) → (P.take k ++ a :: P.drop k).Perm (l.take (i + 1)) ∧ (P.take k ++ a :: P.drop k).Pairwise (fun a b => a.id ≤ b.id) ∧ xl P R a k = (P.take k ++ a :: P.drop k) ++ l.drop (i + 1) := fun hle => by
      refine ⟨?_, ?_, ?_⟩
      · rw [hts]
        refine List.perm_middle.trans ?_
        rw [List.take_append_drop]
        exact (List.Perm.cons a hP).trans (List.perm_append_singleton a _).symm
      · rw [List.pairwise_append, List.pairwise_cons]
        have h1 : (P.take k ++ P.drop k).Pairwise fun a b => a.id ≤ b.id := by rw [List.take_append_drop]; exact hS
        rw [List.pairwise_append] at h1
        refine ⟨h1.1, ⟨fun b hb => by have := hlt b hb; omega, h1.2.1⟩, fun b hb c hc => ?_⟩
        rcases List.mem_cons.1 hc with rfl | hc
        · exact hle b hb
        · exact h1.2.2 b hb c hc
      · unfold xl; rw [hR]; simp
    simp [go_sem]
    refine GDraw_all T_ok (by kernel_rfl) (by kernel_rfl) ?_
    by_cases hk0 : k = 0
    · subst hk0
      simp [go_sem]
      obtain ⟨f1, f2, f3⟩ := fin (by simp)
      refine ⟨by omega, i + 1, _, ⟨by omega, f1, f2⟩, by omega, by omega, fun i j hi hj => by rw [f3]⟩
    · obtain ⟨k, rfl⟩ : ∃ q, k = q + 1 := ⟨k - 1, by omega⟩
      have hkP : k < P.length := by omega
      have x1 : ∀ c, mrows (xl P R a (k + 1)) (k + 1) c = a.f c := fun c => by unfold mrows rowsL; rw [xl_get P R a (k + 1) (by omega), if_neg (by omega), if_pos rfl]
      have x0 : ∀ c, mrows (xl P R a (k + 1)) k c = P[k].f c := fun c => by unfold mrows rowsL; rw [xl_get P R a (k + 1) (by omega), if_pos (by omega), List.getElem?_eq_getElem hkP]
      have hdk : P.drop k = P[k] :: P.drop (k + 1) := List.drop_eq_getElem_cons hkP
      have htk : P.take (k + 1) = P.take k ++ [P[k]] := List.take_succ_eq_append_getElem hkP
      have hsw := fun i c => xl_swap P R a k (by omega) i c
      have hle1 : ∀ b ∈ P.take k, b.id ≤ P[k].id := fun b hb => by
        have h1 : (P.take (k + 1)).Pairwise fun a b => a.id ≤ b.id := hS.sublist (List.take_sublist _ _)
        rw [htk, List.pairwise_append] at h1
        exact h1.2.2 b hb _ (by simp)
      generalize P[k] = q at *
      have hkl : k + 1 < l.length := by omega
      simp [go_sem, x1, x0, hkl]
      refine ⟨by omega, by omega, by omega, ?_⟩
      by_cases hlq : a.id < q.id
      · rw [if_pos hlq]
        refine GDraw_l (t := (.take 0 (.take 1 (.take 2 (.take 3 (.take 4 (.take 5 (.take 6 (.take 7 (.take 8 (.take 9 (.take 10 (.take 11 (.take 12 (.take 13 (.take 14 (.alt 15 [14, 13, 12, 11, 10, 9, 8, 7, 6, 5, 4, 3, 2, 1, 0] (.take 16 (.alt 17 [16, 12, 11, 10, 4, 3, 2] (.done []) .nil)) .nil))))))))))))))))) T_ok (by kernel_rfl) (by kernel_rfl) (by kernel_rfl) (fun _ _ _ _ h => h) ?_
        have hkl' : (k : Int) + 1 < l.length := by omega
        have hkl2 : k < l.length := by omega
        simp [go_sem, x1, x0, hkl, hkl', hkl2]
        refine ⟨by omega, by omega, by omega, by omega, k, ⟨by omega, fun b hb => ?_⟩, by omega, rfl, fun i' j' hi hj => ?_⟩
        · rw [hdk] at hb
          rcases List.mem_cons.1 hb with rfl | hb
          · exact hlq
          · exact hlt b hb
        · rw [hsw]
          by_cases h1 : i' = k
          · rw [if_pos ⟨h1, hj⟩, if_pos h1]
            rcases (show j' = 0 ∨ j' = 1 ∨ j' = 2 by omega) with rfl | rfl | rfl <;> rfl
          · rw [if_neg (fun h => h1 h.1), if_neg h1]
            by_cases h2 : i' = k + 1
            · rw [if_pos ⟨h2, hj⟩, if_pos h2]
              rcases (show j' = 0 ∨ j' = 1 ∨ j' = 2 by omega) with rfl | rfl | rfl <;> rfl
            · rw [if_neg (fun h => h2 h.1), if_neg h2]; rfl
      · rw [if_neg hlq]
        obtain ⟨f1, f2, f3⟩ := fin (fun b hb => by
          rw [htk] at hb
          rcases List.mem_append.1 hb with hb | hb
          · have := hle1 b hb; omega
          · rw [List.mem_singleton.1 hb]; omega)
        refine ⟨by omega, i + 1, _, ⟨by omega, f1, f2⟩, by omega, by omega, fun i j hi hj => by rw [f3]⟩
  · have hie : i = l.length := by omega
    subst hie
    rw [List.take_length] at hP
    rw [List.drop_length, List.append_nil]
    have hsr : P = srtM l := by
      have hnd : (P.map (·.id)).Nodup := ((hP.map _).nodup_iff).2 hd
      have hsl : SL P := by
        refine List.pairwise_iff_getElem.2 fun a b ha hb hab => ?_
        have h1 := List.pairwise_iff_getElem.1 hS a b ha hb hab
        have h2 : P[a].id ≠ P[b].id := fun e => by
          have := List.pairwise_iff_getElem.1 hnd a b (by simpa using ha) (by simpa using hb) hab
          simp at this
          exact this e
        have h1 : P[a].id ≤ P[b].id := h1
        show P[a].id < P[b].id
        omega
      exact SL_uniq hsl (srt_SL hd) fun a => by rw [srt_mem, hP.mem_iff]
    rw [hsr]
    simp [go_sem]
    exact srt_len l ▸ rfl
def celC (ms : List MbG) (j : Nat) : List SV := mrs ms :: (List.range 8).map fun i => if i < j then pls (lsR ms i 65536) else nilS
theorem of54' (l : List MbG) (hn : l.length ≤ 1000) (hd : (l.map (·.id)).Nodup) : Pure Try.prog 54 [mrs l] (· = .agg (mrs (srtM l) :: (List.range 8).map fun j => pls (lsR (srtM l) j 65536))) := by
  refine pure_of_GC T_ok Try.func54 rfl (by kernel_rfl) (Nat.le_of_ble_eq_true rfl) rfl rfl ?_
  have hs := sorted81 l hn hd
  have hlen := srt_len l
  have hls := fun j hj => list82 (srtM l) (by omega) j hj
  generalize srtM l = ms at *
  simp [go_sem]
  refine call_val hs rfl rfl ?_
  simp [go_sem]
  refine GLoop_p T_ok (α := Nat) (fun j => [(2, .ptr 0 0 9 0), (3, .ptr 1 0 9 0), (4, .i j)]) (fun j M nx => j ≤ 8 ∧ M 0 = some (.box [nilS, nilS, nilS, nilS, nilS, nilS, nilS, nilS, nilS]) ∧ M 1 = some (.box (celC ms j))) (fun j => 8 - j) 0 ⟨by omega, by simp [go_sem], by simp [go_sem]; rfl⟩ (by simp [go_sem]) ?_
  rintro j J M nx _ ⟨hj, hm0, hm1⟩
  rcases (show j = 0 ∨ j = 1 ∨ j = 2 ∨ j = 3 ∨ j = 4 ∨ j = 5 ∨ j = 6 ∨ j = 7 ∨ j = 8 by omega) with rfl | rfl | rfl | rfl | rfl | rfl | rfl | rfl | rfl
  · have hm1 : M 1 = some (.box [mrs ms, nilS, nilS, nilS, nilS, nilS, nilS, nilS, nilS]) := hm1
    simp [go_sem, hm0, hm1]
    refine call_val (hls 0 (by omega)) rfl rfl ?_
    simp [go_sem, hm0, hm1]
    exact ⟨1, by omega, rfl, by omega, rfl⟩
  · have hm1 : M 1 = some (.box [mrs ms, pls (lsR ms 0 65536), nilS, nilS, nilS, nilS, nilS, nilS, nilS]) := hm1
    simp [go_sem, hm0, hm1]
    refine call_val (hls 1 (by omega)) rfl rfl ?_
    simp [go_sem, hm0, hm1]
    exact ⟨2, by omega, rfl, by omega, rfl⟩
  · have hm1 : M 1 = some (.box [mrs ms, pls (lsR ms 0 65536), pls (lsR ms 1 65536), nilS, nilS, nilS, nilS, nilS, nilS]) := hm1
    simp [go_sem, hm0, hm1]
    refine call_val (hls 2 (by omega)) rfl rfl ?_
    simp [go_sem, hm0, hm1]
    exact ⟨3, by omega, rfl, by omega, rfl⟩
  · have hm1 : M 1 = some (.box [mrs ms, pls (lsR ms 0 65536), pls (lsR ms 1 65536), pls (lsR ms 2 65536), nilS, nilS, nilS, nilS, nilS]) := hm1
    simp [go_sem, hm0, hm1]
    refine call_val (hls 3 (by omega)) rfl rfl ?_
    simp [go_sem, hm0, hm1]
    exact ⟨4, by omega, rfl, by omega, rfl⟩
  · have hm1 : M 1 = some (.box [mrs ms, pls (lsR ms 0 65536), pls (lsR ms 1 65536), pls (lsR ms 2 65536), pls (lsR ms 3 65536), nilS, nilS, nilS, nilS]) := hm1
    simp [go_sem, hm0, hm1]
    refine call_val (hls 4 (by omega)) rfl rfl ?_
    simp [go_sem, hm0, hm1]
    exact ⟨5, by omega, rfl, by omega, rfl⟩
  · have hm1 : M 1 = some (.box [mrs ms, pls (lsR ms 0 65536), pls (lsR ms 1 65536), pls (lsR ms 2 65536), pls (lsR ms 3 65536), pls (lsR ms 4 65536), nilS, nilS, nilS]) := hm1
    simp [go_sem, hm0, hm1]
    refine call_val (hls 5 (by omega)) rfl rfl ?_
    simp [go_sem, hm0, hm1]
    exact ⟨6, by omega, rfl, by omega, rfl⟩
  · have hm1 : M 1 = some (.box [mrs ms, pls (lsR ms 0 65536), pls (lsR ms 1 65536), pls (lsR ms 2 65536), pls (lsR ms 3 65536), pls (lsR ms 4 65536), pls (lsR ms 5 65536), nilS, nilS]) := hm1
    simp [go_sem, hm0, hm1]
    refine call_val (hls 6 (by omega)) rfl rfl ?_
    simp [go_sem, hm0, hm1]
    exact ⟨7, by omega, rfl, by omega, rfl⟩
  · have hm1 : M 1 = some (.box [mrs ms, pls (lsR ms 0 65536), pls (lsR ms 1 65536), pls (lsR ms 2 65536), pls (lsR ms 3 65536), pls (lsR ms 4 65536), pls (lsR ms 5 65536), pls (lsR ms 6 65536), nilS]) := hm1
    simp [go_sem, hm0, hm1]
    refine call_val (hls 7 (by omega)) rfl rfl ?_
    simp [go_sem, hm0, hm1]
    exact ⟨8, by omega, rfl, by omega, rfl⟩
  · have hm1 : M 1 = some (.box [mrs ms, pls (lsR ms 0 65536), pls (lsR ms 1 65536), pls (lsR ms 2 65536), pls (lsR ms 3 65536), pls (lsR ms 4 65536), pls (lsR ms 5 65536), pls (lsR ms 6 65536), pls (lsR ms 7 65536)]) := hm1
    simp [go_sem, hm0, hm1]
end Go.Gx.Ix
