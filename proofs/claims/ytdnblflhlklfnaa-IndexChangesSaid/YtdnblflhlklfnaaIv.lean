/-
  Nearest.
-/
import Derived.Test.YtdnblflhlklfnaaIs
set_option linter.unusedVariables false
set_option linter.unusedSimpArgs false
set_option maxRecDepth 20000
set_option maxHeartbeats 4000000
namespace Go.Gx.Ix
open Go.RowKit Go.Proofs Go.Proofs.Ytdnblflhlklfnaa

theorem range_pre {pre : List Nat} {k K : Nat} (h : pre ++ [k] <+: List.range K) : pre = List.range k ∧ k < K := by
  have h1 := List.prefix_iff_eq_take.1 h
  have hl := h.length_le
  rw [List.length_append, List.length_singleton, List.length_range] at hl
  rw [List.length_append, List.length_singleton, List.take_range, Nat.min_eq_left hl, List.range_succ] at h1
  obtain ⟨h2, h3⟩ := List.append_inj' h1 rfl
  have h4 : k = pre.length := by simpa using h3
  rw [← h4] at h2
  exact ⟨h2, by omega⟩
/-- The code at a place. -/
def cdM (ms : List MbG) (i : Nat) : IrG := (ms[i]!).x
/-- The nearest of a block: its place in the block, or less than 0. -/
def blkN (ms : List MbG) (b : IrG) (n k : Nat) : Int := (nst (fun i => cdM ms (64 * k + i)) b n (min 64 (ms.length - 64 * k))).2
/-- The places of the nearest ones of the first blocks. -/
def nrL (ms : List MbG) (b : IrG) (n : Nat) : Nat → List Nat
  | 0 => []
  | k + 1 => if blkN ms b n k < 0 then nrL ms b n k else nrL ms b n k ++ [64 * k + (blkN ms b n k).toNat]
theorem nrL_len (ms : List MbG) (b : IrG) (n : Nat) : ∀ k, (nrL ms b n k).length ≤ k
  | 0 => Nat.le_refl _
  | k + 1 => by
    have := nrL_len ms b n k
    unfold nrL
    split
    · omega
    · simp; omega
theorem nrL_lt (ms : List MbG) (b : IrG) (n : Nat) : ∀ k, ∀ a ∈ nrL ms b n k, a < ms.length
  | 0, a, h => by cases h
  | k + 1, a, h => by
    unfold nrL at h
    by_cases h0 : blkN ms b n k < 0
    · rw [if_pos h0] at h; exact nrL_lt ms b n k a h
    · rw [if_neg h0] at h
      rcases List.mem_append.1 h with h | h
      · exact nrL_lt ms b n k a h
      · simp at h
        have := nst_lt (fun i => cdM ms (64 * k + i)) b n (min 64 (ms.length - 64 * k))
        have e : (nst (fun i => cdM ms (64 * k + i)) b n (min 64 (ms.length - 64 * k))).2 = blkN ms b n k := rfl
        rw [e] at this
        omega
/-- The nearest of these. -/
def nrAt (ms : List MbG) (b : IrG) (n : Nat) : Int := (nst (fun i => cdM ms ((nrL ms b n ((ms.length + 63) / 64))[i]!)) b n (nrL ms b n ((ms.length + 63) / 64)).length).2
def nrE (x : IxG) (b : IrG) (turns : Int) : Int := if validX x = false then 40 else if mE b b turns 0 1 = 0 then if nrAt x.ms b turns.toNat < 0 then 6 else 0 else mE b b turns 0 1
def nrI (x : IxG) (b : IrG) (turns : Int) : Int := if nrE x b turns = 0 then (x.ms[(nrL x.ms b turns.toNat ((x.ms.length + 63) / 64))[(nrAt x.ms b turns.toNat).toNat]!]!).id else 0
theorem nearest40 (x : IxG) (h : x.Sm) (hok : validX x = true → ∀ a ∈ x.ms, a.x.ok = true) (b : IrG) (turns : Int) : Pure Try.prog 40 [x.sv, b.sv, .i turns] (· = .tup [.i (nrI x b turns), .i (nrE x b turns)]) := by
  obtain ⟨e, he⟩ : ∃ e, nrE x b turns = e := ⟨_, rfl⟩
  obtain ⟨r, hr⟩ : ∃ r, nrI x b turns = r := ⟨_, rfl⟩
  rw [he, hr]
  refine pure_of_GC T_ok Try.func40 rfl (by kernel_rfl) (Nat.le_of_ble_eq_true rfl) rfl rfl ?_
  have hc := check19 x h
  have hms := h.ms
  simp [go_sem, IxG.sv] at hc ⊢
  refine call_val hc rfl rfl ?_
  cases hv : validX x
  · have e4 : e = 40 := by rw [← he, nrE, if_pos hv]
    have r4 : r = 0 := by rw [← hr, nrI, he, e4]; rfl
    subst e4 r4
    simp [go_sem, checkE, hv]
  simp [go_sem, checkE, hv]
  refine call_val (match39 b b turns 0 1) rfl rfl ?_
  have he2 : e = if mE b b turns 0 1 = 0 then if nrAt x.ms b turns.toNat < 0 then 6 else 0 else mE b b turns 0 1 := by rw [← he, nrE, hv]; rfl
  by_cases hm : mE b b turns 0 1 = 0
  rotate_left
  · rw [if_neg hm] at he2
    have r4 : r = 0 := by rw [← hr, nrI, he, if_neg (by rw [he2]; exact hm)]
    subst he2 r4
    simp [go_sem, hm]
  rw [if_pos hm] at he2
  have hlen := validX_len hv
  obtain ⟨hb, hn⟩ : b.ok = true ∧ 0 ≤ turns ∧ turns ≤ 7 := by
    unfold mE at hm
    split at hm
    · rename_i h1
      split at hm
      · rename_i h2
        simp only [Bool.and_eq_true, Bool.and_self, vL, btw, decide_eq_true_eq] at h1 h2
        exact ⟨h1, by omega, by omega⟩
      · cases hm
    · cases hm
  obtain ⟨n, rfl⟩ : ∃ n : Nat, turns = n := ⟨turns.toNat, by omega⟩
  rw [Int.toNat_natCast] at he2
  have hr2 : r = if nrAt x.ms b n < 0 then 0 else (x.ms[(nrL x.ms b n ((x.ms.length + 63) / 64))[(nrAt x.ms b n).toNat]!]!).id := by
    rw [← hr, nrI, he, he2, Int.toNat_natCast]
    by_cases h : nrAt x.ms b n < 0
    · rw [if_pos h, if_pos h]; rfl
    · rw [if_neg h, if_neg h]; rfl
  clear hr he
  simp [go_sem, hm]
  refine callK_own [] (chunk72 x.ms (by omega)) (by simp) rfl ?_ ?_
  · simp [go_sem]
  simp [go_sem]
  refine GRange_pre (GSt.freeze 5 rfl) ?_
  refine GRange_pre (GSt.freeze 6 rfl) ?_
  refine GRange_pre (GSt.adoptBox 3 0 3 1 (fun _ _ => .r .any) (by rfl) (by rfl) (by decide)) ?_
  refine GRange_pre (GSt.adoptBox 4 0 41 2 (fun _ _ => .r .any) (by rfl) (by rfl) (by decide)) ?_
  refine GRange_p T_ok (fun k : Nat => [SV.r (.rf 3 (min 64 (x.ms.length - 64 * k)) fun i j => mrows x.ms (64 * k + i) j)]) (List.range ((x.ms.length + 63) / 64)) 7
    (fun pre M nx => M 0 = some (.box [mrs x.ms, pls (x.ch 0), pls (x.ch 1), pls (x.ch 2), pls (x.ch 3), pls (x.ch 4), pls (x.ch 5), pls (x.ch 6), pls (x.ch 7)]) ∧ M 1 = some (.box [.w b.c, .w b.m]) ∧ M 2 = some (.box [.i n]) ∧
      M 3 = some (.box [.sl 7 1 0 (nrL x.ms b n pre.length).length none]) ∧ M 4 = some (.box [.sl 8 2 0 (nrL x.ms b n pre.length).length none]) ∧
      (∃ get, M 7 = some (.vec 3 1 (nrL x.ms b n pre.length).length get) ∧ ∀ i, i < (nrL x.ms b n pre.length).length → get i 0 = .i (x.ms[(nrL x.ms b n pre.length)[i]!]!).id) ∧
      (∃ get, M 8 = some (.vec 41 2 (nrL x.ms b n pre.length).length get) ∧ ∀ i j, i < (nrL x.ms b n pre.length).length → j < 2 → get i j = .r ((cdM x.ms (nrL x.ms b n pre.length)[i]!).f j)) ∧ 9 ≤ nx)
    (gf := 91) (ca := [.r (.rp 1 1 (gbox [mrs x.ms]) 0 0), .r (.rp 1 1 (gbox [.i 64]) 0 0)]) ?_ (chunk91 x.ms _ _ rfl rfl (by omega)) (fun _ => rfl) (by simp) ⟨by kernel_rfl, by kernel_rfl⟩ rfl (Nat.zero_le _) (by decide) ?_ ?_ ?_ ?_
  · simp [go_sem]
  · simp [go_sem, nrL]
  · rintro pre M nx R hn ⟨h0, h1, h2, h3, h4, ⟨g7, h7, h7'⟩, ⟨g8, h8, h8'⟩, h9⟩
    have e0 : ¬ 0 = nx := by omega
    have e1 : ¬ 1 = nx := by omega
    have e2 : ¬ 2 = nx := by omega
    have e3 : ¬ 3 = nx := by omega
    have e4 : ¬ 4 = nx := by omega
    have e7 : ¬ 7 = nx := by omega
    have e8 : ¬ 8 = nx := by omega
    refine ⟨?_, ?_, ?_, ?_, ?_, ⟨g7, ?_, h7'⟩, ⟨g8, ?_, h8'⟩, by omega⟩ <;> rw [upd_ne _ _ (by omega)] <;> assumption
  · rintro pre k hpre M nx hn ⟨h0, h1, h2, h3, h4, ⟨g7, h7, h7'⟩, ⟨g8, h8, h8'⟩, h9⟩
    have hkp : pre = List.range k ∧ 64 * k < x.ms.length := by
      obtain ⟨h1, h2⟩ := range_pre hpre
      exact ⟨h1, by omega⟩
    obtain ⟨rfl, hk⟩ := hkp
    rw [List.length_append, List.length_range, List.length_singleton]
    rw [List.length_range] at h3 h4 h7 h7' h8 h8'
    have hL := nrL_len x.ms b n k
    have hLs : nrL x.ms b n (k + 1) = if blkN x.ms b n k < 0 then nrL x.ms b n k else nrL x.ms b n k ++ [64 * k + (blkN x.ms b n k).toNat] := rfl
    generalize nrL x.ms b n k = L at *
    generalize nrL x.ms b n (k + 1) = L2 at *
    have e0 : ¬ 0 = nx := by omega
    have e1 : ¬ 1 = nx := by omega
    have e2 : ¬ 2 = nx := by omega
    have e3 : ¬ 3 = nx := by omega
    have e4 : ¬ 4 = nx := by omega
    have e7 : ¬ 7 = nx := by omega
    have e8 : ¬ 8 = nx := by omega
    simp [go_sem]
    have hblk : blkN x.ms b n k = (nst (fun i => cdM x.ms (64 * k + i)) b n (min 64 (x.ms.length - 64 * k))).2 := rfl
    refine GDraw_pre (GSt.slot (t := 13) (a := .rf 3 (min 64 (x.ms.length - 64 * k)) fun i j => mrows x.ms (64 * k + i) j) (b := .rs 3 (min 64 (x.ms.length - 64 * k)) fun i j => mrows x.ms (64 * k + i) j) (by simp [go_sem]) (rf_rs _ _ _)) ?_
    have hmm : min 64 (x.ms.length - 64 * k) ≤ 64 ∧ ∀ i, i < min 64 (x.ms.length - 64 * k) → 64 * k + i < x.ms.length := ⟨by omega, fun i hi => by omega⟩
    generalize min 64 (x.ms.length - 64 * k) = m at *
    have hcd : ∀ i, i < m → ∃ hi : 64 * k + i < x.ms.length, cdM x.ms (64 * k + i) = x.ms[64 * k + i].x := fun i hi => ⟨hmm.2 i hi, by unfold cdM; rw [getElem!_pos x.ms _ (hmm.2 i hi)]⟩
    have hc74 := codes74 m (by omega) (fun i j => mrows x.ms (64 * k + i) j) (fun i => cdM x.ms (64 * k + i)) (fun i => (x.ms[64 * k + i]!).id)
      (fun i hi => by obtain ⟨h, e⟩ := hcd i hi; show mrows x.ms (64 * k + i) 0 = _; rw [mrow h, getElem!_pos x.ms _ h]; rfl)
      (fun i hi => by obtain ⟨h, e⟩ := hcd i hi; show mrows x.ms (64 * k + i) 1 = _; rw [mrow h, e]; rfl)
      (fun i hi => by obtain ⟨h, e⟩ := hcd i hi; show mrows x.ms (64 * k + i) 2 = _; rw [mrow h, e]; rfl)
    have hall : allI m (fun i => cdM x.ms (64 * k + i)) = true := allI_iff.2 fun i hi => by
      obtain ⟨h, e⟩ := hcd i hi
      rw [e]; exact hok hv _ (List.getElem_mem h)
    have hnr := nearest73 (fun i => cdM x.ms (64 * k + i)) m (by omega) b n
    have hne : nearE (fun i => cdM x.ms (64 * k + i)) m b n = if (nst (fun i => cdM x.ms (64 * k + i)) b n m).2 < 0 then 6 else 0 := by
      unfold nearE
      rw [if_neg (by omega), hall, hb, if_neg (by decide), if_neg (by unfold btw; simp; omega), Int.toNat_natCast]
    have hlt := nst_lt (fun i => cdM x.ms (64 * k + i)) b n m
    rw [hne, Int.toNat_natCast] at hnr
    rw [← hblk] at hnr hlt
    generalize blkN x.ms b n k = at_ at *
    refine GDraw_l (t := (.take 0 (.take 2 (.take 3 (.alt 1 [3, 2, 0] (.alt 4 [3, 2] (.take 5 (.take 6 (.take 7 (.take 8 (.take 9 (.done [9, 8, 7, 6, 5])))))) .nil) .nil))))) T_ok (by kernel_rfl) (by kernel_rfl) (by kernel_rfl) (fun _ _ _ _ h => h) ?_
    simp [go_sem, h1, h2]
    refine callK_own [] hc74 (by simp) rfl ?_ ?_
    · simp [go_sem]
    simp [go_sem, h1, h2, e0, e1, e2, e3, e4, e7, e8]
    refine callK_freeze nx (R := .vec 41 2 m fun i j => .r ((cdM x.ms (64 * k + i)).f j)) (by simp [go_sem]) ?_
    simp [go_sem, h1, h2, e0, e1, e2, e3, e4, e7, e8]
    refine call_val hnr rfl rfl ?_
    by_cases hat : at_ < 0
    · rw [if_pos hat] at hLs
      subst hLs
      simp [go_sem, hat, e0, e1, e2, e3, e4, e7, e8, h0, h1, h2, h3, h4, h7, h8]
      refine ⟨fun i hi => ?_, fun i j hi hj => ?_, by omega⟩
      · rw [h7' i hi]; simp [go_sem]
      · rw [h8' i j hi hj]; simp [go_sem]
    · rw [if_neg hat] at hLs
      obtain ⟨a, rfl⟩ : ∃ a : Nat, at_ = a := ⟨at_.toNat, by omega⟩
      rw [Int.toNat_natCast] at hLs
      have ham : a < m := by omega
      have hia := hmm.2 a ham
      obtain ⟨c, hc⟩ : ∃ c, x.ms[64 * k + a] = c := ⟨_, rfl⟩
      have q0 : mrows x.ms (64 * k + a) 0 = c.f 0 := by rw [mrow hia, hc]
      have q1 : mrows x.ms (64 * k + a) 1 = c.f 1 := by rw [mrow hia, hc]
      have q2 : mrows x.ms (64 * k + a) 2 = c.f 2 := by rw [mrow hia, hc]
      simp [go_sem, hat, e0, e1, e2, e3, e4, e7, e8]
      refine GDraw_in [(11, .ptr 3 0 1 0), (12, .ptr 4 0 1 0), (13, .r (.rs 3 m fun i j => mrows x.ms (64 * k + i) j)), (14, .i a)] (fun M nx => M 0 = some (.box [mrs x.ms, pls (x.ch 0), pls (x.ch 1), pls (x.ch 2), pls (x.ch 3), pls (x.ch 4), pls (x.ch 5), pls (x.ch 6), pls (x.ch 7)]) ∧ M 1 = some (.box [.w b.c, .w b.m]) ∧ M 2 = some (.box [.i n]) ∧
        M 3 = some (.box [.sl 7 1 0 L.length none]) ∧ M 4 = some (.box [.sl 8 2 0 L.length none]) ∧
        (∃ get, M 7 = some (.vec 3 1 L.length get) ∧ ∀ i, i < L.length → get i 0 = .i (x.ms[L[i]!]!).id) ∧
        (∃ get, M 8 = some (.vec 41 2 L.length get) ∧ ∀ i j, i < L.length → j < 2 → get i j = .r ((cdM x.ms L[i]!).f j)) ∧ 9 ≤ nx) (by simp [go_sem]; exact ⟨e3, e4⟩) ?_ ?_
      · simp [go_sem, hat, e0, e1, e2, e3, e4, e7, e8, h0, h1, h2, h3, h4, h7, h8]
        refine ⟨fun i hi => ?_, fun i j hi hj => ?_, by omega⟩
        · rw [h7' i hi]; simp [go_sem]
        · rw [h8' i j hi hj]; simp [go_sem]
      clear h0 h1 h2 h3 h4 h7 h7' h8 h8' g7 g8 e0 e1 e2 e3 e4 e7 e8 hnr hne hc74 hall
      rintro J M nx ⟨h0, h1, h2, h3, h4, ⟨g7, h7, h7'⟩, ⟨g8, h8, h8'⟩, h9⟩
      have e0 : ¬ 0 = nx := by omega
      have e1 : ¬ 1 = nx := by omega
      have e2 : ¬ 2 = nx := by omega
      have e3 : ¬ 3 = nx := by omega
      have e4 : ¬ 4 = nx := by omega
      have e7 : ¬ 7 = nx := by omega
      have e8 : ¬ 8 = nx := by omega
      refine GDraw_l (t := (.take 0 (.take 1 (.take 2 (.take 3 (.take 4 (.take 5 (.take 8 (.take 9 (.take 10 (.take 11 (.take 12 (.take 13 (.alt 6 [13, 12, 11, 10, 9, 8, 5, 4, 3, 2, 1, 0] (.alt 7 [13, 12, 11, 10, 9, 8, 4, 3, 2, 1, 0] (.alt 14 [13, 12, 11, 10, 9, 8, 4, 3, 2, 1] (.alt 15 [12, 11, 10, 9, 8, 4, 3, 2, 1] (.alt 16 [12, 11, 10, 9, 4, 3, 2, 1] (.alt 17 [12, 11, 10, 9] (.done []) .nil) .nil) .nil) .nil) (.alt 14 [13, 12, 11, 10, 9, 8, 4, 3, 2, 1, 0] (.alt 7 [12, 11, 10, 9, 8, 4, 3, 2, 1, 0] (.alt 15 [12, 11, 10, 9, 8, 4, 3, 2, 1] (.alt 16 [12, 11, 10, 9, 4, 3, 2, 1] (.alt 17 [12, 11, 10, 9] (.done []) .nil) .nil) .nil) .nil) .nil)) (.alt 14 [13, 12, 11, 10, 9, 8, 5, 4, 3, 2, 1, 0] (.alt 6 [12, 11, 10, 9, 8, 5, 4, 3, 2, 1, 0] (.alt 7 [12, 11, 10, 9, 8, 4, 3, 2, 1, 0] (.alt 15 [12, 11, 10, 9, 8, 4, 3, 2, 1] (.alt 16 [12, 11, 10, 9, 4, 3, 2, 1] (.alt 17 [12, 11, 10, 9] (.done []) .nil) .nil) .nil) .nil) .nil) .nil))))))))))))))) T_ok (by kernel_rfl) (by kernel_rfl) (by kernel_rfl) (fun _ _ _ _ h => h) ?_
      have f0 : ¬ nx = 0 := by omega
      have f1 : ¬ nx = 1 := by omega
      have f2 : ¬ nx = 2 := by omega
      have f3 : ¬ nx = 3 := by omega
      have f4 : ¬ nx = 4 := by omega
      have f6 : ¬ nx = 6 := by omega
      have f7 : ¬ nx = 7 := by omega
      have f8 : ¬ nx = 8 := by omega
      simp [go_sem, e0, e1, e2, e3, e4, e7, e8, f0, f1, f2, f3, f4, f6, f7, f8, h0, h1, h2, h3, h4, h7, h8, ham, q0, q1, q2]
      have hL2 : L2.length = L.length + 1 := by rw [hLs]; simp
      have old : ∀ i, i < L.length → L2[i]?.getD 0 = L[i]! := fun i hi => by rw [hLs, List.getElem?_append_left hi, getElem!_pos L i hi]; simp [hi]
      have new : L2[L.length]?.getD 0 = 64 * k + a := by rw [hLs, List.getElem?_append_right (Nat.le_refl _)]; simp
      have hcx : x.ms[64 * k + a]?.getD default = c := by rw [List.getElem?_eq_getElem hia, hc]; rfl
      have hcd2 : cdM x.ms (64 * k + a) = c.x := by unfold cdM; rw [getElem!_pos x.ms _ hia, hc]
      have key7 : ∀ i, i < L2.length → SV.kill 8 (SV.kill 7 (joined L.length 1 g7 (fun i j => [SV.r (RV.i c.id)][i + j]?.getD (SV.r RV.any)) i 0)) = SV.i (x.ms[L2[i]?.getD 0]?.getD default).id := fun i hi => by
        unfold joined
        by_cases h : i < L.length
        · rw [if_pos h, h7' i h, old i h]; simp [SV.kill]
        · obtain rfl : i = L.length := by omega
          rw [if_neg h, if_pos (by omega), new, hcx, Nat.sub_self]; rfl
      have key8 : ∀ i j, i < L2.length → j < 2 → SV.kill 8 (joined L.length 1 (fun i j => SV.kill 7 (g8 i j)) (fun i j => [SV.r (RV.w c.x.c), SV.r (RV.w c.x.m)][i * 2 + j]?.getD (SV.r RV.any)) i j) = SV.r ((cdM x.ms (L2[i]?.getD 0)).f j) := fun i j hi hj => by
        unfold joined
        by_cases h : i < L.length
        · rw [if_pos h]
          show SV.kill 8 (SV.kill 7 (g8 i j)) = _
          rw [h8' i j h hj, old i h]; simp [SV.kill]
        · obtain rfl : i = L.length := by omega
          rw [if_neg h, if_pos (by omega), new, hcd2, Nat.sub_self]
          rcases (show j = 0 ∨ j = 1 by omega) with rfl | rfl <;> rfl
      have key9 : ∀ i j, i < L2.length → j < 2 → SV.kill 8 (joined L.length 1 (fun i j => SV.kill 7 (g8 i j)) (fun i j => SV.kill 7 ([SV.r (RV.w c.x.c), SV.r (RV.w c.x.m)][i * 2 + j]?.getD (SV.r RV.any))) i j) = SV.r ((cdM x.ms (L2[i]?.getD 0)).f j) := fun i j hi hj => by
        unfold joined
        by_cases h : i < L.length
        · rw [if_pos h]
          show SV.kill 8 (SV.kill 7 (g8 i j)) = _
          rw [h8' i j h hj, old i h]; simp [SV.kill]
        · obtain rfl : i = L.length := by omega
          rw [if_neg h, if_pos (by omega), new, hcd2, Nat.sub_self]
          rcases (show j = 0 ∨ j = 1 by omega) with rfl | rfl <;> rfl
      exact ⟨⟨by omega, by omega, by omega, ⟨_, ⟨by omega, rfl⟩, key7⟩, ⟨_, ⟨by omega, rfl⟩, key8⟩, by omega⟩, by omega, by omega, by omega, ⟨_, ⟨by omega, rfl⟩, key7⟩, ⟨_, ⟨by omega, rfl⟩, key9⟩, by omega⟩
  · rintro M nx hn ⟨h0, h1, h2, h3, h4, ⟨g7, h7, h7'⟩, ⟨g8, h8, h8'⟩, h9⟩
    rw [List.length_range] at h3 h4 h7 h7' h8 h8'
    have hA : nrAt x.ms b n = (nst (fun i => cdM x.ms ((nrL x.ms b n ((x.ms.length + 63) / 64))[i]!)) b n (nrL x.ms b n ((x.ms.length + 63) / 64)).length).2 := rfl
    have hL := nrL_len x.ms b n ((x.ms.length + 63) / 64)
    have hLm : ∀ i, i < (nrL x.ms b n ((x.ms.length + 63) / 64)).length → (nrL x.ms b n ((x.ms.length + 63) / 64))[i]! < x.ms.length := fun i hi => by
      rw [getElem!_pos _ i hi]
      exact nrL_lt x.ms b n _ _ (List.getElem_mem hi)
    generalize nrL x.ms b n ((x.ms.length + 63) / 64) = L at *
    have hall : allI L.length (fun i => cdM x.ms (L[i]!)) = true := allI_iff.2 fun i hi => by
      have h := hLm i hi
      unfold cdM
      rw [getElem!_pos x.ms _ h]
      exact hok hv _ (List.getElem_mem h)
    have hnr := nearest73 (fun i => cdM x.ms (L[i]!)) L.length (by omega) b n
    have hne : nearE (fun i => cdM x.ms (L[i]!)) L.length b n = if (nst (fun i => cdM x.ms (L[i]!)) b n L.length).2 < 0 then 6 else 0 := by
      unfold nearE
      rw [if_neg (by omega), hall, hb, if_neg (by decide), if_neg (by unfold btw; simp; omega), Int.toNat_natCast]
    have hlt := nst_lt (fun i => cdM x.ms (L[i]!)) b n L.length
    rw [hne, Int.toNat_natCast] at hnr
    rw [← hA] at hnr hlt
    have hnr' : Pure Try.prog 73 [.r (.rs 2 L.length fun i j => (g8 i j).toRV), b.sv, .i n] (· = .tup [.i (if (if nrAt x.ms b n < 0 then (6 : Int) else 0) = 0 then nrAt x.ms b n else 0), .i (if nrAt x.ms b n < 0 then 6 else 0)]) := by
      refine hnr.args ⟨le_rs fun i j hi hj => ?_, SV.le.rfl, SV.le.rfl, trivial⟩
      rw [h8' i j hi hj]; rfl
    generalize nrAt x.ms b n = at_ at *
    simp [go_sem, h1, h2, h4]
    refine callK_freeze 8 (R := .vec 41 2 L.length g8) h8 ?_
    simp [go_sem]
    refine call_val hnr' rfl rfl ?_
    by_cases hat : at_ < 0
    · rw [if_pos hat] at he2 hr2
      subst he2 hr2
      simp [go_sem, hat]
    · rw [if_neg hat] at he2 hr2
      subst he2 hr2
      obtain ⟨a, rfl⟩ : ∃ a : Nat, at_ = a := ⟨at_.toNat, by omega⟩
      have hal : a < L.length := by omega
      have h7a := h7' a hal
      simp [go_sem, hat, h3, h7, hal, h7a]
end Go.Gx.Ix
