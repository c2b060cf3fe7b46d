/-
  Seat Z of Index: Matched, Sees, searched.
-/
import Derived.Test.YtdnblflhlklfnaaGreatZb
set_option linter.unusedVariables false
set_option linter.unusedSimpArgs false
set_option maxRecDepth 20000
set_option maxHeartbeats 4000000
namespace Go.Gx.Ix
open Go.RowKit Go.Proofs Go.Proofs.YtdnblflhlklfnaaGreat

theorem matched33 (x y : IrG) (n : Nat) (hn : n ≤ 7) (num den : Nat) (h1 : num ≤ 1000) (h2 : den ≤ 1000) : Pure Tryz.prog 33 [x.sv, y.sv, .i n, .agg [.i num, .i den]] (· = .b (matB x y n num den)) := by
  refine pure_of_GC T_ok Tryz.func33 rfl (by kernel_rfl) (Nat.le_of_ble_eq_true rfl) rfl rfl ?_
  have hf := far32 x y n hn
  unfold farS at hf
  have hm : matB x y n num den = (decide (0 < (dist x y n).d) && decide ((dist x y n).n * den ≤ num * (dist x y n).d)) := by
    unfold matB
    congr 1
    rw [decide_eq_decide, ← Int.natCast_mul, ← Int.natCast_mul, Int.ofNat_le]
  have hle : (dist x y n).Sm := distL_le x y _
  rw [hm]
  obtain ⟨b, hb⟩ : ∃ b, dist x y n = b := ⟨_, rfl⟩
  rw [hb] at hf hle ⊢
  simp [go_sem]
  refine call_val hf rfl rfl ?_
  have m3 : b.n * den ≤ 64 * 1000 := Nat.mul_le_mul hle.n h2
  have m4 : num * b.d ≤ 1000 * 64 := Nat.mul_le_mul h1 hle.d
  have c1 : (b.n : Int) * den = ((b.n * den : Nat) : Int) := by simp
  have c2 : (num : Int) * b.d = ((num * b.d : Nat) : Int) := by simp
  by_cases h0 : b.d = 0
  · have h0' : ¬ 0 < b.d := by omega
    simp [go_sem, h0, h0']
  · have h0' : 0 < b.d := by omega
    simp [go_sem, h0, h0']
    rw [c1, c2]
    omega
theorem ds_zero : ∀ n, ds 1 n 0 = 0
  | 0 => rfl
  | n + 1 => by show 0 % 2 ^ 1 + ds 1 n (0 / 2 ^ 1) = 0; simp [ds_zero n]
theorem cnt_small (z : BitVec 64) (v : BitVec 8) (h : z.toNat = v.toNat) : cnt z = cnt8 v := by
  unfold cnt cnt8
  rw [h, ds_split 8 56 v.toNat, Nat.mod_eq_of_lt v.isLt, Nat.div_eq_of_lt v.isLt, ds_zero]
  rfl
theorem sees51 (a b : IrG) (t : Int) (h1 : -16 ≤ t) (h2 : t ≤ 16) (rad : Nat) (hr : rad ≤ 1000000) : Pure Tryz.prog 51 [a.sv, b.sv, .i t, .i rad] (· = .b (nearB rad a (b.tn (-t)))) := by
  refine pure_of_GC T_ok Tryz.func51 rfl (by kernel_rfl) (Nat.le_of_ble_eq_true rfl) rfl rfl ?_
  obtain ⟨e, he⟩ : ∃ e, nearB rad a (b.tn (-t)) = e := ⟨_, rfl⟩
  rw [he]
  have ht := turned68 b (-t) (by omega) (by omega)
  obtain ⟨bk, hbk⟩ : ∃ bk, b.tn (-t) = bk := ⟨_, rfl⟩
  rw [hbk] at ht he
  simp [go_sem]
  refine ⟨by omega, call_val ht rfl rfl ?_⟩
  simp [go_sem]
  obtain ⟨w, hw⟩ : ∃ w, and64 (and64 (xor64 a.c bk.c) a.m) bk.m = w := ⟨_, rfl⟩
  have hck : ∀ j, chk w j = and8 (and8 (xor8 (chk a.c j) (chk bk.c j)) (chk a.m j)) (chk bk.m j) := fun j => by
    rw [← hw, chk_and, chk_and, chk_xor]
  have hyes : ∀ j, j < 8 → cnt8 (chk w j) ≤ rad / 8 → e = true := fun j hj h => by
    rw [← he]
    exact List.any_eq_true.2 ⟨j, List.mem_range.2 hj, by rw [← hck]; simp; omega⟩
  have hno : (∀ j, j < 8 → ¬ cnt8 (chk w j) ≤ rad / 8) → e = false := fun h => by
    rw [← he]
    exact List.any_eq_false.2 fun j hj => by rw [← hck]; have := h j (List.mem_range.1 hj); simp; omega
  rw [hw]
  refine GLoop_s T_ok (α := Nat) (fun k => [(3, .i rad), (10, .w w), (11, .i k)]) (fun _ => []) 0 (fun k => k ≤ 8 ∧ ∀ j, j < k → ¬ cnt8 (chk w j) ≤ rad / 8) (fun k => 8 - k) 0 (fun _ => rfl) (by simp) (by simp [go_sem]) (by simp [go_sem]) ?_
  rintro k J ⟨hk, hall⟩
  by_cases hkl : k < 8
  · have hkl' : (k : Int) < 8 := by omega
    simp [go_sem, hkl']
    refine call_val (chunk100 w k hkl) rfl rfl ?_
    simp [go_sem]
    have hv := (chk w k).isLt
    have hz : (BitVec.ofNat 64 (chk w k).toNat).toNat = (chk w k).toNat := by rw [BitVec.toNat_ofNat]; omega
    have hc := count50 (BitVec.ofNat 64 (chk w k).toNat)
    rw [cnt_small _ (chk w k) hz] at hc
    have hwz : IntKind.u64.wrap ((chk w k).toNat : Int) = ((BitVec.ofNat 64 (chk w k).toNat).toNat : Int) := by
      rw [hz, wrap_inr (by simp only [inr]; omega)]
    rw [hwz]
    refine call_val hc rfl rfl ?_
    simp [go_sem]
    refine ⟨by omega, ?_⟩
    by_cases hle : cnt8 (chk w k) ≤ rad / 8
    · have e1 := hyes k hkl hle
      subst e1
      rw [if_pos (by omega)]
    · rw [if_neg (by omega)]
      refine ⟨by omega, k + 1, ⟨by omega, fun j hj => ?_⟩, by omega, by omega⟩
      by_cases hjk : j = k
      · subst hjk; omega
      · have := hall j (by omega); omega
  · have hke : k = 8 := by omega
    subst hke
    have e0 := hno hall
    subst e0
    simp [go_sem]
section
variable (rad n num den : Nat) (a b : IrG)
def snA (m : Nat) : Nat := ((List.range m).filter fun i => nearB rad a (bkS b n i)).length
def mtA (m : Nat) : Bool := (List.range m).any fun i => mt1 a (bkS b n i) num den
theorem snA_succ (m : Nat) : snA rad n a b (m + 1) = snA rad n a b m + if nearB rad a (bkS b n m) = true then 1 else 0 := by
  unfold snA
  rw [List.range_succ, List.filter_append, List.length_append]
  congr 1
  by_cases h : nearB rad a (bkS b n m) = true <;> simp [h]
theorem snA_le (m : Nat) : snA rad n a b m ≤ m := by
  have := List.length_filter_le (fun i => nearB rad a (bkS b n i)) (List.range m)
  rwa [List.length_range] at this
theorem mtA_succ (m : Nat) : mtA n num den a b (m + 1) = (mtA n num den a b m || mt1 a (bkS b n m) num den) := by
  unfold mtA
  rw [List.range_succ, List.any_append]
  simp
end
theorem sum_ite (p : Nat → Bool) : ∀ k, ((List.range k).map fun i => if p i = true then 1 else 0).sum = ((List.range k).filter p).length
  | 0 => rfl
  | k + 1 => by
    rw [List.range_succ, List.map_append, List.sum_append, List.filter_append, List.length_append, sum_ite p k]
    congr 1
    by_cases h : p k = true <;> simp [h]
theorem sn_one (a : MbG) (b : IrG) (n num den : Nat) : snM [a] b n num den = snA (radS b num den) n a.x b (2 * n + 1) := by
  unfold snM snA
  rw [← sum_ite]
  congr 1
  refine List.map_congr_left fun i _ => ?_
  by_cases h : nearB (radS b num den) a.x (bkS b n i) = true <;> simp [h]
theorem fnd_nil (b : IrG) (n num den : Nat) : fndM [] b n num den = [] := rfl
theorem sn_nil (b : IrG) (n num den : Nat) : snM [] b n num den = 0 := (sum_const 0 _).trans (Nat.mul_zero _)
theorem searched28 (ms : List MbG) (hn : ms.length ≤ 256) (b : IrG) (n : Nat) (h7 : n ≤ 7) (num den : Nat) (hd1 : 1 ≤ den) (hd2 : den ≤ 1000) (hn2 : num ≤ den) : Pure Tryz.prog 28 [mrs ms, b.sv, .i n, .agg [.i num, .i den]] (· = .agg [ils (fndM ms b n num den), .i (snM ms b n num den)]) := by
  refine pure_of_GC T_ok Tryz.func28 rfl (by kernel_rfl) (Nat.le_of_ble_eq_true rfl) rfl rfl ?_
  have hcl := cnt_le b.m
  have hmul : cnt b.m * num ≤ 64000 := Nat.le_trans (Nat.mul_le_mul hcl (by omega : num ≤ 1000)) (by omega)
  have hrad : radS b num den = cnt b.m * num / den := by simp [radS]
  have hr : radS b num den ≤ 64000 := by rw [hrad]; exact Nat.le_trans (Nat.div_le_self _ _) hmul
  have hm1 : (cnt b.m : Int) * num = ((cnt b.m * num : Nat) : Int) := by simp
  have hq : ((cnt b.m : Int) * num).tdiv den = (radS b num den : Nat) := by rw [hm1, Int.tdiv_eq_ediv_of_nonneg (by omega), hrad]; simp
  have hden : ¬ (den : Int) = 0 := by omega
  have hden' : ¬ den = 0 := by omega
  simp [go_sem]
  refine GDraw_l (t := (.take 0 (.take 1 (.take 3 (.take 4 (.take 6 (.take 7 (.alt 2 [7, 6, 4, 3, 1, 0] (.take 5 (.take 8 (.take 9 (.done [9, 8, 5, 7, 6, 4, 3, 0])))) .nil)))))))) T_ok (by kernel_rfl) (by kernel_rfl) (by kernel_rfl) (fun _ _ _ _ h => h) ?_
  simp [go_sem]
  refine call_val (count50 b.m) rfl rfl ?_
  simp [go_sem, hden, hden']
  rw [hq]
  refine ⟨by omega, by omega, by omega, ?_⟩
  obtain ⟨rad, hrd⟩ : ∃ rad, radS b num den = rad := ⟨_, rfl⟩
  rw [hrd] at hr ⊢
  refine GLoop_pre (GSt.adoptBox 3 0 3 1 (fun i j => .r (irows [] i j)) (by rfl) (by rfl) (by decide)) ?_
  refine GLoop_s T_ok (α := Nat) (fun k => [(0, mrs ms), (2, .i n), (5, .ptr 0 0 2 0), (7, .ptr 1 0 2 0), (8, .ptr 2 0 2 0), (9, .ptr 3 0 2 0), (10, .i rad), (11, .i k)])
    (fun k => [some (.box [.w b.c, .w b.m]), some (.box [.i num, .i den]), some (.box [nilS, .i 0]), some (.box [.sl 4 1 0 (fndM (ms.take k) b n num den).length none, .i (snM (ms.take k) b n num den)]), some (.vec 3 1 (fndM (ms.take k) b n num den).length fun i j => .r (irows (fndM (ms.take k) b n num den) i j))]) 5
    (fun k => k ≤ ms.length) (fun k => ms.length - k) 0 (fun _ => rfl) (by simp) (by simp [go_sem, fnd_nil]) (by simp [go_sem, fnd_nil, sn_nil]) ?_
  intro k J hk
  by_cases hkl : k < ms.length
  · have r0 := mrow hkl 0
    have r1 := mrow hkl 1
    have r2 := mrow hkl 2
    have hts := List.take_succ_eq_append_getElem hkl
    have hfs : fndM (ms.take (k + 1)) b n num den = fndM (ms.take k) b n num den ++ if matB ms[k].x b n num den = true then [ms[k].id] else [] := by
      rw [hts, fnd_app]
      congr 1
      unfold fndM
      by_cases h : matB ms[k].x b n num den = true <;> simp [h]
    have hss : snM (ms.take (k + 1)) b n num den = snM (ms.take k) b n num den + snA rad n ms[k].x b (2 * n + 1) := by
      rw [hts, sn_app, sn_one, hrd]
    have hfl := fndM_le (ms.take k) b n num den
    have hsl := sn_le (ms.take k) b n num den
    rw [List.length_take] at hfl hsl
    have hsl2 : (2 * n + 1) * min k ms.length ≤ 15 * 256 := Nat.mul_le_mul (by omega) (by omega)
    have hma := mat_any ms[k].x b n num den
    have hma2 : mtA n num den ms[k].x b (2 * n + 1) = matB ms[k].x b n num den := hma.symm
    generalize ms[k] = a at *
    generalize snM (ms.take k) b n num den = sn at *
    obtain ⟨Q, hQ⟩ : ∃ Q, fndM (ms.take k) b n num den = Q := ⟨_, rfl⟩
    rw [hQ] at hfs hfl ⊢
    simp [go_sem, hkl]
    refine ⟨by omega, ?_⟩
    refine GLoop_s T_ok (α := Nat) (fun i => [(0, mrs ms), (2, .i n), (5, .ptr 0 0 2 0), (7, .ptr 1 0 2 0), (8, .ptr 2 0 2 0), (9, .ptr 3 0 2 0), (10, .i rad), (11, .i k), (12, .b (mtA n num den a.x b i)), (13, .i ((i : Int) - n))])
      (fun i => [some (.box [.w b.c, .w b.m]), some (.box [.i num, .i den]), some (.box [nilS, .i 0]), some (.box [.sl 4 1 0 Q.length none, .i (sn + snA rad n a.x b i : Nat)]), some (.vec 3 1 Q.length fun i j => .r (irows Q i j))]) 5
      (fun i => i ≤ 2 * n + 1) (fun i => 2 * n + 1 - i) 0 (fun _ => rfl) (by simp) (by simp [go_sem, mtA]) (by simp [go_sem, snA]) ?_
    intro i J hi
    by_cases hil : i < 2 * n + 1
    · have hil' : (i : Int) - n ≤ n := by omega
      have hs := sees51 a.x b ((i : Int) - n) (by omega) (by omega) rad (by omega)
      have hc := compared52 a.x b ((i : Int) - n) (by omega) (by omega)
      have hbk : b.tn (-((i : Int) - n)) = bkS b n i := by unfold bkS; congr 1; omega
      have hm := mtA_succ n num den a.x b i
      have hsA := snA_succ rad n a.x b i
      have hsAl := snA_le rad n a.x b i
      have hmt : mt1 a.x (bkS b n i) num den = (decide (16 ≤ a.x.d b ((i : Int) - n)) && decide (a.x.n b ((i : Int) - n) * den ≤ num * a.x.d b ((i : Int) - n))) := by
        unfold mt1
        rw [← hbk, n_back, d_back]
      have hnear : mt1 a.x (bkS b n i) num den = true → nearB rad a.x (bkS b n i) = true := fun h => by
        have := near_of a.x b num den hd1 ((n : Int) - i) h
        rw [hrd] at this
        exact this
      rw [hbk] at hs
      have hx1 := a.x.n_le b ((i : Int) - n)
      have hx2 := a.x.d_le b ((i : Int) - n)
      generalize a.x.n b ((i : Int) - n) = aa at *
      generalize a.x.d b ((i : Int) - n) = dd at *
      generalize mt1 a.x (bkS b n i) num den = m1 at *
      generalize nearB rad a.x (bkS b n i) = nb at *
      generalize snA rad n a.x b i = s1 at *
      generalize mtA n num den a.x b i = mm at *
      simp [go_sem, hil']
      refine GDraw_l (t := (.take 0 (.take 1 (.take 2 (.take 3 (.take 4 (.take 5 (.take 6 (.take 7 (.alt 8 [7, 6, 5, 4, 3, 2, 1, 0] (.take 9 (.done [9, 3, 2, 1, 0])) .nil)))))))))) T_ok (by kernel_rfl) (by kernel_rfl) (by kernel_rfl) (fun _ _ _ _ h => h) ?_
      simp [go_sem, hkl, r0, r1, r2]
      refine call_val hs rfl rfl ?_
      cases nb
      · have hm0 : m1 = false := by
          cases m1
          · rfl
          · exact absurd (hnear rfl) (by simp)
        rw [hm0, Bool.or_false] at hm
        simp at hsA
        simp [go_sem, hkl]
        refine ⟨by omega, i + 1, by omega, by omega, ⟨by rw [hm], by omega⟩, by rw [hsA]⟩
      simp at hsA
      simp [go_sem, hkl]
      refine ⟨by omega, ?_⟩
      refine GDraw_l (t := (.take 0 (.take 1 (.take 2 (.take 3 (.take 4 (.take 5 (.take 6 (.alt 7 [6, 5, 4, 3, 2, 1, 0] (.take 8 (.take 9 (.take 10 (.take 11 (.take 12 (.done [12, 11, 10, 9, 8, 3, 2, 1, 0])))))) .nil))))))))) T_ok (by kernel_rfl) (by kernel_rfl) (by kernel_rfl) (fun _ _ _ _ h => h) ?_
      simp [go_sem, hkl, r0, r1, r2]
      refine call_val hc rfl rfl ?_
      have m3 : aa * den ≤ 64 * 1000 := Nat.mul_le_mul hx1 hd2
      have m4 : num * dd ≤ 1000 * 64 := Nat.mul_le_mul (by omega) hx2
      have c1 : (aa : Int) * den = ((aa * den : Nat) : Int) := by simp
      have c2 : (num : Int) * dd = ((num * dd : Nat) : Int) := by simp
      simp [go_sem]
      cases mm
      rotate_left
      · simp [go_sem]
        refine ⟨by omega, by omega, i + 1, by omega, by omega, ⟨by rw [hm]; rfl, by omega⟩, by rw [hsA]; omega⟩
      simp [go_sem]
      rw [Bool.false_or] at hm
      by_cases h16 : 16 ≤ dd
      · have h16' : (16 : Int) ≤ dd := by omega
        have hmt2 : m1 = decide (aa * den ≤ num * dd) := by rw [hmt]; simp [h16]
        simp [go_sem, h16']
        rw [c1, c2]
        refine ⟨hkl, by omega, by omega, by omega, i + 1, by omega, by omega, ⟨?_, by omega⟩, by rw [hsA]; omega⟩
        rw [hm, hmt2, decide_eq_decide]
        omega
      · have h16' : ¬ (16 : Int) ≤ dd := by omega
        have hmt2 : m1 = false := by rw [hmt]; simp [h16]
        simp [go_sem, h16']
        refine ⟨by omega, by omega, i + 1, by omega, by omega, ⟨by rw [hm, hmt2], by omega⟩, by rw [hsA]; omega⟩
    · have hie : 2 * n + 1 = i := by omega
      rw [hie] at hma2 hss
      have hil' : ¬ (i : Int) - n ≤ n := by omega
      rw [hma2]
      simp [go_sem, hil']
      cases hmB : matB a.x b n num den
      · rw [hmB, if_neg (by simp), List.append_nil] at hfs
        simp [go_sem]
        refine ⟨by omega, k + 1, by omega, by omega, by omega, ?_⟩
        rw [hfs, hss]
        exact ⟨⟨rfl, by omega⟩, Nat.le_refl _, fun _ _ => rfl⟩
      · rw [hmB, if_pos rfl] at hfs
        simp only [if_true]
        refine GDraw_l (t := (.take 0 (.take 1 (.take 2 (.take 3 (.take 4 (.take 5 (.take 6 (.alt 7 [6, 5, 4, 3, 2, 1, 0] (.alt 8 [5, 4, 3, 2, 1, 0] (.take 9 (.alt 10 [9, 5, 4, 3, 2, 0] (.done []) .nil)) .nil) .nil))))))))) T_ok (by kernel_rfl) (by kernel_rfl) (by kernel_rfl) (fun _ _ _ _ h => h) ?_
        simp [go_sem, hkl, r0, r1, r2]
        refine ⟨⟨by omega, by omega⟩, by omega, k + 1, by omega, by omega, by omega, ?_⟩
        rw [hfs, hss]
        refine ⟨⟨by rw [List.length_append, List.length_singleton], by omega⟩, by rw [List.length_append, List.length_singleton]; omega, fun i hi => ijoin 5 4 Q _ i (by rw [List.length_append, List.length_singleton] at hi; exact hi)⟩
  · have hke : k = ms.length := by omega
    subst hke
    rw [List.take_length]
    simp [go_sem]
end Go.Gx.Ix
