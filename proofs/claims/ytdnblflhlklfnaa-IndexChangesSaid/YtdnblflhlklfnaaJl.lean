/-
  Split.
-/
import Derived.Test.YtdnblflhlklfnaaJi
set_option linter.unusedVariables false
set_option linter.unusedSimpArgs false
set_option maxRecDepth 20000
set_option maxHeartbeats 4000000
namespace Go.Gx.Ix
open Go.RowKit Go.Proofs Go.Proofs.Ytdnblflhlklfnaa

/-- The members of the first k that fall to a part. -/
def ptM (ms : List MbG) (S k j : Nat) : List MbG := (ms.take k).filter fun a => decide (a.id.tmod S = j)
theorem ptM_zero (ms : List MbG) (S j : Nat) : ptM ms S 0 j = [] := by simp [ptM]
theorem ptM_succ (ms : List MbG) (S j : Nat) {k : Nat} (hk : k < ms.length) : ptM ms S (k + 1) j = ptM ms S k j ++ if ms[k].id.tmod S = j then [ms[k]] else [] := by
  unfold ptM
  rw [List.take_succ_eq_append_getElem hk, List.filter_append]
  congr 1
  by_cases h : ms[k].id.tmod S = j <;> simp [h]
theorem ptM_len (ms : List MbG) (S k j : Nat) : (ptM ms S k j).length ≤ ms.length := by
  unfold ptM
  refine Nat.le_trans (List.length_filter_le _ _) ?_
  rw [List.length_take]; omega
def isMr (R : Option Reg) (l : List MbG) : Prop := ∃ f, R = some (.vec 43 3 l.length f) ∧ ∀ i j, i < l.length → j < 3 → f i j = .r (mrows l i j)
theorem isMr_kill {R : Option Reg} {l : List MbG} (r : Nat) (h : isMr R l) : isMr (R.map (Reg.kill r)) l := by
  obtain ⟨f, rfl, h2⟩ := h
  exact ⟨_, rfl, fun i j hi hj => by rw [h2 i j hi hj]; rfl⟩
theorem isMr_fz {R : Option Reg} {l : List MbG} (r : Nat) (R' : Reg) (h : isMr R l) : isMr (R.map (Reg.fz r R')) l := by
  obtain ⟨f, rfl, h2⟩ := h
  exact ⟨_, rfl, fun i j hi hj => by rw [h2 i j hi hj]; rfl⟩
structure SpI (x : IxG) (S k : Nat) (M : Mem) (nx : Nat) (pos : Nat → Nat) : Prop where
  h0 : M 0 = some (.box (ixC x))
  hn : 2 ≤ nx
  hv : ∃ f, M 1 = some (.vec 22 1 S f) ∧ ∀ j, j < S → f j 0 = if ptM x.ms S k j = [] then nilS else .sl (pos j) 3 0 (ptM x.ms S k j).length none
  hl : ∀ j, j < S → ptM x.ms S k j ≠ [] → 2 ≤ pos j ∧ pos j < nx ∧ isMr (M (pos j)) (ptM x.ms S k j)
  hi : ∀ i j, i < S → j < S → ptM x.ms S k i ≠ [] → ptM x.ms S k j ≠ [] → pos i = pos j → i = j
theorem SpI.grow {x : IxG} {S k nx nx' r j : Nat} {M M' : Mem} {pos : Nat → Nat} (h : SpI x S k M nx pos) {a : MbG} (hj : j < S)
    (hs : ∀ i, ptM x.ms S (k + 1) i = ptM x.ms S k i ++ if i = j then [a] else [])
    (h0 : M' 0 = some (.box (ixC x))) (hn : nx ≤ nx') {f' : Nat → Nat → SV} (h1 : M' 1 = some (.vec 22 1 S f')) (h1j : f' j 0 = .sl r 3 0 ((ptM x.ms S k j).length + 1) none)
    (h1o : ∀ i, i < S → i ≠ j → f' i 0 = if ptM x.ms S k i = [] then nilS else .sl (pos i) 3 0 (ptM x.ms S k i).length none)
    (hr : 2 ≤ r ∧ r < nx') (hlr : isMr (M' r) (ptM x.ms S k j ++ [a])) (ho : ∀ i, i < S → i ≠ j → ptM x.ms S k i ≠ [] → pos i ≠ r ∧ isMr (M' (pos i)) (ptM x.ms S k i)) :
    SpI x S (k + 1) M' nx' (fun i => if i = j then r else pos i) := by
  have sj : ptM x.ms S (k + 1) j = ptM x.ms S k j ++ [a] := by rw [hs j, if_pos rfl]
  have so : ∀ i, i ≠ j → ptM x.ms S (k + 1) i = ptM x.ms S k i := fun i hi => by rw [hs i, if_neg hi, List.append_nil]
  refine ⟨h0, Nat.le_trans h.hn hn, ⟨f', h1, fun i hi => ?_⟩, fun i hi hne => ?_, fun i i' hi hi' hne hne' e => ?_⟩
  · by_cases e : i = j
    · subst e
      rw [h1j, sj, if_neg (by simp)]; simp
    · rw [so i e, h1o i hi e]; simp [e]
  · by_cases e : i = j
    · subst e
      simp only [if_true]
      rw [sj]
      exact ⟨hr.1, hr.2, hlr⟩
    · simp only [if_neg e]
      rw [so i e] at hne ⊢
      obtain ⟨q1, q2, q3⟩ := h.hl i hi hne
      exact ⟨q1, by omega, (ho i hi e hne).2⟩
  · by_cases e1 : i = j
    · by_cases e2 : i' = j
      · omega
      · simp only [if_pos e1, if_neg e2] at e
        rw [so i' e2] at hne'
        exact absurd e.symm (ho i' hi' e2 hne').1
    · by_cases e2 : i' = j
      · simp only [if_pos e2, if_neg e1] at e
        rw [so i e1] at hne
        exact absurd e (ho i hi e1 hne).1
      · simp only [if_neg e1, if_neg e2] at e
        rw [so i e1] at hne
        rw [so i' e2] at hne'
        exact h.hi i i' hi hi' hne hne' e
def IxG.f (x : IxG) : Nat → RV
  | 0 => .rs 3 x.ms.length (mrows x.ms)
  | j + 1 => .rs 3 (x.ch j).length (prows (x.ch j))
structure TpI (x : IxG) (S po k : Nat) (M : Mem) (nx : Nat) (pos : Nat → Nat) : Prop where
  hp : 2 ≤ po ∧ po < nx
  hv : ∃ f, M 1 = some (.vec 22 1 S f) ∧ ∀ j, j < S → k ≤ j → f j 0 = if ptM x.ms S x.ms.length j = [] then nilS else .sl (pos j) 3 0 (ptM x.ms S x.ms.length j).length none
  hl : ∀ j, j < S → k ≤ j → ptM x.ms S x.ms.length j ≠ [] → 2 ≤ pos j ∧ pos j < nx ∧ pos j ≠ po ∧ isMr (M (pos j)) (ptM x.ms S x.ms.length j)
  hi : ∀ i j, i < S → j < S → ptM x.ms S x.ms.length i ≠ [] → ptM x.ms S x.ms.length j ≠ [] → pos i = pos j → i = j
  ho : ∃ g, M po = some (.vec 26 9 k g) ∧ ∀ i c, i < k → c < 9 → g i c = .r ((ofG (ptM x.ms S x.ms.length i)).f c)
theorem TpI.step {x : IxG} {S po k nx' : Nat} {M M2 : Mem} {pos : Nat → Nat} (h : TpI x S po k M nx' pos) (h1 : ∃ f2, M2 1 = some (.vec 22 1 S f2) ∧ ∀ j, j < S → k + 1 ≤ j → f2 j 0 = if ptM x.ms S x.ms.length j = [] then nilS else .sl (pos j) 3 0 (ptM x.ms S x.ms.length j).length none)
    (h2 : ∀ j, j < S → k + 1 ≤ j → ptM x.ms S x.ms.length j ≠ [] → isMr (M2 (pos j)) (ptM x.ms S x.ms.length j))
    (h3 : ∃ g, M2 po = some (.vec 26 9 (k + 1) g) ∧ ∀ i c, i < k + 1 → c < 9 → g i c = .r ((ofG (ptM x.ms S x.ms.length i)).f c)) : TpI x S po (k + 1) M2 (nx' + 1) pos := by
  refine ⟨⟨h.hp.1, by have := h.hp.2; omega⟩, h1, fun j hj hk hne => ?_, h.hi, h3⟩
  obtain ⟨q1, q2, q3, _⟩ := h.hl j hj (by omega) hne
  exact ⟨q1, by omega, q3, h2 j hj hk hne⟩
theorem xjoin (q k : Nat) (g : Nat → Nat → SV) (F : Nat → IxG) (hg : ∀ i c, i < k → c < 9 → g i c = .r ((F i).f c)) (y : IxG) (hy : F k = y) (i c : Nat) (hi : i < k + 1) (hc : c < 9) :
    SV.kill q (joined k 1 g (fun i j => [mrs y.ms, pls (y.ch 0), pls (y.ch 1), pls (y.ch 2), pls (y.ch 3), pls (y.ch 4), pls (y.ch 5), pls (y.ch 6), pls (y.ch 7)][i * 9 + j]?.getD (SV.r RV.any)) i c) = .r ((F i).f c) := by
  unfold joined
  by_cases h : i < k
  · rw [if_pos h, hg i c h hc]; rfl
  · obtain rfl : i = k := by omega
    rw [if_neg h, if_pos (by omega), Nat.sub_self, hy]
    rcases (show c = 0 ∨ c = 1 ∨ c = 2 ∨ c = 3 ∨ c = 4 ∨ c = 5 ∨ c = 6 ∨ c = 7 ∨ c = 8 by omega) with rfl | rfl | rfl | rfl | rfl | rfl | rfl | rfl | rfl <;> rfl
def spE (x : IxG) (shards : Int) : Int := if validX x = false then 40 else if shards < 1 ∨ 16 < shards then 2 else 0
abbrev xls (n : Nat) (g : Nat → IxG) : SV := .r (.rs 9 n fun i c => (g i).f c)
theorem mone (a : MbG) (i j : Nat) (hi : i < 1) (hj : j < 3) : [SV.r (RV.i a.id), SV.r (RV.w a.x.c), SV.r (RV.w a.x.m)][i * 3 + j]?.getD (SV.r RV.any) = .r (mrows [a] i j) := by
  obtain rfl : i = 0 := by omega
  rcases (show j = 0 ∨ j = 1 ∨ j = 2 by omega) with rfl | rfl | rfl <;> rfl
theorem mjoin (p : Nat) (L : List MbG) (a : MbG) (g : Nat → Nat → SV) (hg : ∀ i j, i < L.length → j < 3 → g i j = .r (mrows L i j)) (i j : Nat) (hi : i < L.length + 1) (hj : j < 3) :
    SV.kill p (joined L.length 1 g (fun i j => [SV.r (RV.i a.id), SV.r (RV.w a.x.c), SV.r (RV.w a.x.m)][i * 3 + j]?.getD (SV.r RV.any)) i j) = .r (mrows (L ++ [a]) i j) := by
  unfold joined
  by_cases h : i < L.length
  · rw [if_pos h, hg i j h hj, mrow h, mrow (by rw [List.length_append]; omega), List.getElem_append_left h]; rfl
  · obtain rfl : i = L.length := by omega
    rw [if_neg h, if_pos (by omega), Nat.sub_self]
    have hm : (fun i j => [SV.r (RV.i a.id), SV.r (RV.w a.x.c), SV.r (RV.w a.x.m)][i * 3 + j]?.getD (SV.r RV.any)) 0 j = SV.r (mrows [a] 0 j) := mone a 0 j (by omega) hj
    rw [hm, mrow (l := L ++ [a]) (by rw [List.length_append, List.length_singleton]; omega), List.getElem_append_right (Nat.le_refl _), mrow (l := [a]) (by simp)]
    simp [SV.kill]
theorem nil_xls (e : Int) (g : Nat → IxG) : (SV.tup [nilS, .i e]).le (.tup [xls 0 g, .i e]) := le_tup ⟨le_r (nil_rs 9 _), SV.le.rfl, trivial⟩
theorem split30 (x : IxG) (h : x.Sm) (shards : Int) : Pure Try.prog 30 [x.sv, .i shards] (· = .tup [xls (if spE x shards = 0 then shards.toNat else 0) (fun i => ofG (ptM x.ms shards.toNat x.ms.length i)), .i (spE x shards)]) := by
  obtain ⟨e, he⟩ : ∃ e, spE x shards = e := ⟨_, rfl⟩
  rw [he]
  refine pure_ofLe ?_
  refine pure_of_GC T_ok Try.func30 rfl (by kernel_rfl) (Nat.le_of_ble_eq_true rfl) rfl rfl ?_
  have hc := check19 x h
  simp [go_sem, sv_ixC] at hc ⊢
  refine call_val hc rfl rfl ?_
  cases hv : validX x
  · have e1 : e = 40 := by rw [← he, spE, if_pos hv]
    subst e1
    simp [go_sem, checkE, hv]
    exact nil_xls _ _
  simp [go_sem, checkE, hv]
  by_cases hs1 : shards < 1
  · have e1 : e = 2 := by rw [← he, spE, if_neg (by rw [hv]; simp), if_pos (.inl hs1)]
    subst e1
    simp [go_sem]
    rw [if_neg (by omega)]
    exact nil_xls _ _
  by_cases hs2 : 16 < shards
  · have e1 : e = 2 := by rw [← he, spE, if_neg (by rw [hv]; simp), if_pos (.inr hs2)]
    subst e1
    simp [go_sem]
    rw [if_pos (by omega), if_pos hs2]
    exact nil_xls _ _
  have e1 : e = 0 := by rw [← he, spE, if_neg (by rw [hv]; simp), if_neg (by omega)]
  subst e1
  obtain ⟨S, rfl⟩ : ∃ S : Nat, shards = S := ⟨shards.toNat, by omega⟩
  rw [if_pos rfl, Int.toNat_natCast]
  obtain ⟨v1, v2, v3⟩ := valid_eq hv
  have hlen := v1.len
  simp [go_sem, hs1, hs2]
  rw [if_pos (by omega)]
  refine ⟨by omega, ?_⟩
  refine GLoop_p T_ok (α := Nat) (fun k => [(1, .i S), (2, .ptr 0 0 9 0), (4, nilS), (5, .i 0), (7, .sl 1 1 0 S none), (28, mrs x.ms), (29, .i x.ms.length), (30, .i k)])
    (fun k M nx => k ≤ x.ms.length ∧ ∃ pos, SpI x S k M nx pos) (fun k => x.ms.length - k) 0 ?_ (by simp [go_sem]) ?_
  · refine ⟨Nat.zero_le _, fun _ => 0, ⟨by simp [go_sem], Nat.le_refl _, ⟨_, by simp [go_sem]; rfl, fun j hj => by rw [ptM_zero]; rfl⟩, fun j _ hne => absurd (ptM_zero ..) hne, fun i _ _ _ hne => absurd (ptM_zero ..) hne⟩⟩
  rintro k J M nx hN ⟨hk, pos, hI⟩
  by_cases hkl : k < x.ms.length
  · have r0 := mrow hkl 0
    have r1 := mrow hkl 1
    have r2 := mrow hkl 2
    have hok := v1.num _ (List.getElem_mem hkl)
    have hss := fun i => ptM_succ x.ms S i hkl
    generalize x.ms[k] = a at *
    have hid : 0 ≤ a.id ∧ a.id ≤ 1073741824 := by simpa [okN, btw] using hok
    obtain ⟨j, hj⟩ : ∃ j : Nat, a.id.tmod S = j := ⟨(a.id.tmod S).toNat, by have := Int.tmod_nonneg (S : Int) hid.1; omega⟩
    have hjS : j < S := by
      have := Int.tmod_lt_of_pos a.id (b := S) (by omega)
      omega
    have hs : ∀ i, ptM x.ms S (k + 1) i = ptM x.ms S k i ++ if i = j then [a] else [] := fun i => by
      rw [hss i, hj]
      by_cases h : i = j
      · subst h; simp
      · rw [if_neg h, if_neg (by omega)]
    have hm0 := hI.h0
    have hnx := hI.hn
    obtain ⟨f, hm1, hf⟩ := hI.hv
    have hfj := hf j hjS
    have hlk := ptM_len x.ms S k j
    have n0 : ¬ 0 = nx := by omega
    have n1 : ¬ 1 = nx := by omega
    have n0' : ¬ nx = 0 := by omega
    have n1' : ¬ nx = 1 := by omega
    have hS0 : ¬ (S : Int) = 0 := by omega
    have hS0' : ¬ S = 0 := by omega
    simp [go_sem, hkl, r0, r1, r2, n0, n1, n0', n1', hm0, hm1, hj, hS0, hS0']
    have nn01 : ¬ nx = nx + 1 := by omega
    have nn02 : ¬ nx = nx + 1 + 1 := by omega
    have nn10 : ¬ nx + 1 = nx := by omega
    have nn12 : ¬ nx + 1 = nx + 1 + 1 := by omega
    have nn20 : ¬ nx + 1 + 1 = nx := by omega
    have nn21 : ¬ nx + 1 + 1 = nx + 1 := by omega
    have m01 : ¬ 0 = nx + 1 := by omega
    have m02 : ¬ 0 = nx + 1 + 1 := by omega
    have m11 : ¬ 1 = nx + 1 := by omega
    have m12 : ¬ 1 = nx + 1 + 1 := by omega
    have m01' : ¬ nx + 1 = 0 := by omega
    have m02' : ¬ nx + 1 + 1 = 0 := by omega
    have m11' : ¬ nx + 1 = 1 := by omega
    have m12' : ¬ nx + 1 + 1 = 1 := by omega
    refine GDraw_l (t := (.take 0 (.take 1 (.take 2 (.take 3 (.take 4 (.take 5 (.take 6 (.alt 7 [6, 5, 4, 3, 2, 1, 0] (.alt 8 [5, 4, 3, 2, 1, 0] (.take 9 (.alt 10 [9, 4, 3, 2, 1, 0] (.done []) .nil)) .nil) .nil))))))))) T_ok (by kernel_rfl) (by kernel_rfl) (by kernel_rfl) (fun _ _ _ _ h => h) ?_
    by_cases hL : ptM x.ms S k j = []
    · rw [if_pos hL] at hfj
      simp [go_sem, hm0, hm1, hfj, n0, n1, n0', n1', hjS, nn01, nn02, nn10, nn12, nn20, nn21, m01, m02, m11, m12, m01', m02', m11', m12']
      refine ⟨by omega, k + 1, by omega, by omega, by omega, _, hI.grow (r := nx + 1 + 1) (a := a) hjS hs ?_ (by omega) (upd_same ..) ?_ ?_ (by omega) ?_ ?_⟩
      · simp [go_sem, n0, n1, n0', n1', nn01, nn02, nn10, nn12, nn20, nn21, m01, m02, m11, m12, m01', m02', m11', m12', hm0]
      · simp [hL]
      · intro i hi hne
        simp only [hne, false_and, if_false]
        exact hf i hi
      · rw [hL]
        exact ⟨_, by simp [go_sem, n0, n1, n0', n1', nn01, nn02, nn10, nn12, nn20, nn21, m01, m02, m11, m12, m01', m02', m11', m12'], fun i j hi hj => mone a i j hi hj⟩
      · intro i hi hne hnn
        obtain ⟨u1, u2, u3⟩ := hI.hl i hi hnn
        have w1 : ¬ pos i = 1 := by omega
        have w2 : ¬ pos i = nx := by omega
        have w3 : ¬ pos i = nx + 1 := by omega
        have w4 : ¬ pos i = nx + 1 + 1 := by omega
        refine ⟨w4, ?_⟩
        simpa [go_sem, w1, w2, w3, w4] using u3
    · rw [if_neg hL] at hfj
      obtain ⟨p2, pn, g, hg, hgg⟩ := hI.hl j hjS hL
      generalize hp : pos j = p at *
      have p0 : ¬ 0 = p := by omega
      have p0' : ¬ p = 0 := by omega
      have p1 : ¬ 1 = p := by omega
      have p1' : ¬ p = 1 := by omega
      have q0 : ¬ nx = p := by omega
      have q0' : ¬ p = nx := by omega
      have q1 : ¬ nx + 1 = p := by omega
      have q1' : ¬ p = nx + 1 := by omega
      simp [go_sem, hm0, hm1, hfj, hg, n0, n1, n0', n1', hjS, nn01, nn02, nn10, nn12, nn20, nn21, m01, m02, m11, m12, m01', m02', m11', m12', p0, p0', p1, p1', q0, q0', q1, q1']
      refine ⟨by omega, by omega, k + 1, by omega, by omega, by omega, _, hI.grow (r := p) (a := a) hjS hs ?_ (by omega) (upd_same ..) ?_ ?_ (by omega) ?_ ?_⟩
      · simp [go_sem, n0, n1, n0', n1', nn01, nn02, nn10, nn12, nn20, nn21, m01, m02, m11, m12, m01', m02', m11', m12', p0, p0', p1, p1', q0, q0', q1, q1', hm0, killM, Reg.kill, SV.kill, SV.killL]
      · simp
      · intro i hi hne
        simp only [hne, false_and, if_false]
        rw [hf i hi]
        by_cases hnn : ptM x.ms S k i = []
        · rw [if_pos hnn]; rfl
        · rw [if_neg hnn]
          have : ¬ pos i = p := fun e => hne (hI.hi i j hi hjS hnn hL (by omega))
          simp [SV.kill, this]
      · refine ⟨_, by simp [go_sem, n0, n1, n0', n1', nn01, nn02, nn10, nn12, nn20, nn21, m01, m02, m11, m12, m01', m02', m11', m12', p0, p0', p1, p1', q0, q0', q1, q1'], fun i j hi hj => mjoin p _ a g hgg i j (by simpa using hi) hj⟩
      · intro i hi hne hnn
        obtain ⟨u1, u2, u3⟩ := hI.hl i hi hnn
        have w0 : ¬ pos i = p := fun e => hne (hI.hi i j hi hjS hnn hL (by omega))
        have w1 : ¬ pos i = 1 := by omega
        have w2 : ¬ pos i = nx := by omega
        have w3 : ¬ pos i = nx + 1 := by omega
        refine ⟨w0, ?_⟩
        have := isMr_kill p u3
        simpa [go_sem, killM, w0, w1, w2, w3] using this
  · have hke : k = x.ms.length := by omega
    subst hke
    simp [go_sem]
    have hm1 := hI.hv
    have hnx := hI.hn
    refine GLoop_pre (GSt.adopt 11 26 9 (fun i c => .r ((ofG (ptM x.ms S x.ms.length i)).f c)) (by rfl)) ?_
    refine GLoop_p T_ok (α := Nat) (fun k => [(4, nilS), (5, .i 0), (11, .sl nx 9 0 k none), (49, .sl 1 1 0 S none), (50, .i S), (51, .i k)])
      (fun k M nx' => k ≤ S ∧ TpI x S nx k M nx' pos) (fun k => S - k) 0 ?_ (by simp [go_sem]) ?_
    · obtain ⟨f, hm1, hf⟩ := hm1
      have n1 : ¬ 1 = nx := by omega
      refine ⟨Nat.zero_le _, ⟨hnx, Nat.lt_succ_self _⟩, ⟨f, by simp [go_sem, n1, hm1], fun j hj _ => hf j hj⟩, fun j hj _ hne => ?_, hI.hi, ⟨_, upd_same .., fun i c hi => absurd hi (Nat.not_lt_zero _)⟩⟩
      obtain ⟨q1, q2, q3⟩ := hI.hl j hj hne
      have n2 : ¬ pos j = nx := by omega
      refine ⟨q1, by omega, n2, ?_⟩
      simpa [go_sem, n2] using q3
    clear hm1
    rintro k J M' nx' hN' ⟨hkS, hT⟩
    by_cases hkl : k < S
    · obtain ⟨f, hm1, hf⟩ := hT.hv
      obtain ⟨g, hmo, hg⟩ := hT.ho
      obtain ⟨po2, ponx⟩ := hT.hp
      have hfk := hf k hkl (Nat.le_refl _)
      have hlk := ptM_len x.ms S x.ms.length k
      obtain ⟨L, hL⟩ : ∃ L, ptM x.ms S x.ms.length k = L := ⟨_, rfl⟩
      rw [hL] at hfk hlk
      have hof := of52p L (by omega)
      simp [go_sem, hkl, hm1, hfk]
      have n1 : ¬ 1 = nx := by omega
      have n1' : ¬ nx = 1 := by omega
      have n2 : ¬ nx = nx' := by omega
      have n2' : ¬ nx' = nx := by omega
      have n3 : ¬ 1 = nx' := by omega
      have n3' : ¬ nx' = 1 := by omega
      by_cases hL0 : L = []
      · rw [if_pos hL0]
        rw [hL0] at hof hL
        refine call_val (hof.args (⟨le_r (nil_rs 3 _), trivial⟩)) rfl rfl ?_
        simp [go_sem, IxG.sv, hmo, n1, n1', n2, n2', n3, n3']
        refine ⟨⟨by omega, by omega⟩, by omega, k + 1, by omega, ⟨rfl, by omega⟩, by omega, hT.step ⟨fun i j => (f i j).kill nx, ?_, fun j hj hkj => ?_⟩ (fun j hj hkj hne => ?_) ⟨_, upd_same .., fun i c hi hc => xjoin nx k g _ hg _ (by rw [hL]) i c hi hc⟩⟩
        · simp [go_sem, killM, hm1, n1, n1', n3, n3', Reg.kill]
        · show (f j 0).kill nx = _
          rw [hf j hj (by omega)]
          by_cases hnn : ptM x.ms S x.ms.length j = []
          · rw [if_pos hnn]; rfl
          · rw [if_neg hnn]
            obtain ⟨_, _, q3, _⟩ := hT.hl j hj (by omega) hnn
            simp [SV.kill, q3]
        · obtain ⟨q1, q2, q3, q4⟩ := hT.hl j hj (by omega) hne
          have w4 : ¬ pos j = nx' := by omega
          have := isMr_kill nx q4
          simpa [go_sem, killM, q3, w4] using this
      · rw [if_neg hL0]
        obtain ⟨p2, pn, pne, gg, hgg, hg3⟩ := hT.hl k hkl (Nat.le_refl _) (hL ▸ hL0)
        rw [hL] at hgg hg3
        refine callK_freeze (pos k) hgg ?_
        have hinj := fun j hj hne => hT.hi j k hj hkl hne (hL ▸ hL0)
        generalize hp : pos k = p at *
        have p1 : ¬ 1 = p := by omega
        have p1' : ¬ p = 1 := by omega
        have p3 : ¬ nx = p := by omega
        have p4 : ¬ p = nx' := by omega
        have p4' : ¬ nx' = p := by omega
        have hca : Pure Try.prog 52 [.r (.rs 3 L.length fun i j => (gg i j).toRV)] (· = (ofG L).sv) := hof.args (⟨le_rs fun i j hi hj => by rw [hg3 i j hi hj]; rfl, trivial⟩)
        simp [go_sem]
        refine call_val hca rfl rfl ?_
        simp [go_sem, IxG.sv, hmo, n1, n1', n2, n2', n3, n3', p1, p1', p3, p4, p4', pne]
        have hfr : ∀ j, j < S → k + 1 ≤ j → ptM x.ms S x.ms.length j ≠ [] → ¬ pos j = p := fun j hj hkj hne e => by
          have := hinj j hj hne e
          omega
        refine ⟨⟨by omega, by omega⟩, by omega, k + 1, by omega, ⟨rfl, by omega⟩, by omega, hT.step ⟨fun i j => ((f i j).fz p (Reg.vec 43 3 L.length gg)).kill nx, ?_, fun j hj hkj => ?_⟩ (fun j hj hkj hne => ?_) ⟨_, upd_same .., fun i c hi hc => xjoin nx k (fun i j => SV.fz p (Reg.vec 43 3 L.length gg) (g i j)) (fun i => ofG (ptM x.ms S x.ms.length i)) (fun i c hi hc => by rw [hg i c hi hc]; rfl) (ofG L) (by rw [hL]) i c hi hc⟩⟩
        · simp [go_sem, killM, fzM, Reg.fz, hm1, n1, n1', n3, n3', p1, p1', Reg.kill]
        · show ((f j 0).fz p (Reg.vec 43 3 L.length gg)).kill nx = _
          rw [hf j hj (by omega)]
          by_cases hnn : ptM x.ms S x.ms.length j = []
          · rw [if_pos hnn]; rfl
          · rw [if_neg hnn]
            obtain ⟨_, _, q3, _⟩ := hT.hl j hj (by omega) hnn
            simp [SV.kill, SV.fz, q3, hfr j hj hkj hnn]
        · obtain ⟨q1, q2, q3, q4⟩ := hT.hl j hj (by omega) hne
          have w4 : ¬ pos j = nx' := by omega
          have := isMr_kill nx (isMr_fz p (Reg.vec 43 3 L.length gg) q4)
          simpa [go_sem, killM, fzM, q3, w4, hfr j hj hkj hne] using this
    · have hke : k = S := by omega
      subst hke
      obtain ⟨g, hmo, hg⟩ := hT.ho
      simp [go_sem, hmo]
      exact le_tup ⟨le_rs fun i c hi hc => by rw [hg i c hi hc]; simp [viewRV], SV.le.rfl, trivial⟩
end Go.Gx.Ix
