/-
  An index in own memory is read; spoil writes it. Build, in the memory of the caller; the law of Build.
-/
import Derived.Test.YtdnblflhlklfnaaKi
set_option linter.unusedVariables false
set_option linter.unusedSimpArgs false
set_option maxRecDepth 20000
set_option maxHeartbeats 4000000
namespace Go.Gx.Ix
open Go.RowKit Go.Proofs Go.Proofs.Ytdnblflhlklfnaa

theorem viewRV_sl {M : Mem} {d ref k lo n N : Nat} {c : Option Nat} {e : TypeId} {g : Nat → Nat → SV} (h : M ref = some (.vec e k N g)) (hn : lo + n ≤ N) : viewRV M (d + 1) (.sl ref k lo n c) = .rs k n fun i j => viewRV M d (g (lo + i) j) := by
  simp only [viewRV, h]
  rw [if_pos ⟨trivial, hn⟩]
/-- What a reader sees of a list of postings in own memory. -/
theorem ps_view {M : Mem} {L : List PsG} {pos : Nat → Nat} {f : Nat → Nat → SV} (hf : ∀ i, (h : i < L.length) → f i 0 = .r (.y L[i].c) ∧ f i 1 = .r (.y L[i].m) ∧ f i 2 = .sl (pos L[i].k) 1 0 L[i].ids.length none) (hn : ∀ P ∈ L, nuM (M (pos P.k)) P.ids) :
    (SV.r (.rs 3 L.length fun i j => viewRV M 3 (f i j))).le (pls L) := by
  refine le_r (rle_rs fun i j hi hj => ?_)
  obtain ⟨f0, f1, f2⟩ := hf i hi
  rw [prow hi]
  rcases (show j = 0 ∨ j = 1 ∨ j = 2 by omega) with rfl | rfl | rfl
  · rw [f0]; exact RLe_rfl
  · rw [f1]; exact RLe_rfl
  · rw [f2]
    obtain ⟨g, hg, hgg⟩ := hn _ (List.getElem_mem hi)
    rw [viewRV_sl hg (by omega)]
    show RLe _ (RV.rs 1 L[i].ids.length (irows L[i].ids))
    refine rle_rs fun a b ha hb => ?_
    obtain rfl : b = 0 := by omega
    rw [Nat.zero_add, hgg a ha]
    exact RLe_rfl
theorem gview_sl {M : Mem} {ref k n N : Nat} {e : TypeId} {g : Nat → Nat → SV} {K : SV → Prop} (h : M ref = some (.vec e k N g)) (hn : n ≤ N) (hK : K (.r (.rs k n fun i j => viewRV M 3 (g i j)))) : gview M (.sl ref k 0 n none) K := by
  simp only [gview, h, Nat.zero_add]
  exact ⟨⟨trivial, hn⟩, hK⟩
/-- What a reader sees of an index in own memory. -/
theorem IxO.view {lo hi : Nat} {M : Mem} {x : IxG} {S : SV} (h : IxO lo M hi x S) {K : SV → Prop} (hK : ∀ s, s.le x.sv → K s) : gview M S K := by
  obtain ⟨rm, r, pos, rfl, h1, h2, h3, h4⟩ := h.ex
  have key : ∀ j, j < 8 → ∃ f, M (r j) = some (.vec 75 3 (x.ch j).length f) ∧ (SV.r (.rs 3 (x.ch j).length fun i j => viewRV M 3 (f i j))).le (pls (x.ch j)) := fun j hj => by
    obtain ⟨f, q1, q2⟩ := h4.ps j hj
    exact ⟨f, q1, ps_view q2 (h4.nu j hj)⟩
  obtain ⟨f0, a0, b0⟩ := key 0 (by omega)
  obtain ⟨f1, a1, b1⟩ := key 1 (by omega)
  obtain ⟨f2, a2, b2⟩ := key 2 (by omega)
  obtain ⟨f3, a3, b3⟩ := key 3 (by omega)
  obtain ⟨f4, a4, b4⟩ := key 4 (by omega)
  obtain ⟨f5, a5, b5⟩ := key 5 (by omega)
  obtain ⟨f6, a6, b6⟩ := key 6 (by omega)
  obtain ⟨f7, a7, b7⟩ := key 7 (by omega)
  rw [bxL_eq]
  unfold gview
  refine gview_sl h3 (Nat.le_refl _) (gview_sl a0 (Nat.le_refl _) (gview_sl a1 (Nat.le_refl _) (gview_sl a2 (Nat.le_refl _) (gview_sl a3 (Nat.le_refl _) (gview_sl a4 (Nat.le_refl _) (gview_sl a5 (Nat.le_refl _) (gview_sl a6 (Nat.le_refl _) (gview_sl a7 (Nat.le_refl _) ?_))))))))
  exact hK _ (le_agg ⟨SV.le.rfl, b0, b1, b2, b3, b4, b5, b6, b7, trivial⟩)
theorem bxL_at (rm n : Nat) (g : Nat → SV) {j : Nat} (h : j < 8) : (bxL rm n g)[1 + j]?.getD (SV.r RV.any) = g j := by
  unfold bxL
  rw [Nat.add_comm, List.getElem?_cons_succ, List.getElem?_map, List.getElem?_range h]; rfl
theorem bxL_g (rm n : Nat) (g : Nat → SV) {j : Nat} (hj : j < 8) (h : 1 + j < (bxL rm n g).length) : (bxL rm n g)[1 + j]'h = g j := by
  have := bxL_at rm n g hj
  rwa [List.getElem?_eq_getElem h] at this
theorem bxL_g0 (rm n : Nat) (g : Nat → SV) (h : 0 < (bxL rm n g).length) : (bxL rm n g)[0]'h = .sl rm 3 0 n none := rfl
theorem bxL_len (rm n : Nat) (g : Nat → SV) : (bxL rm n g).length = 9 := rfl
theorem bxL_0 (rm n : Nat) (g : Nat → SV) : (bxL rm n g)[0]?.getD (SV.r RV.any) = .sl rm 3 0 n none := rfl
/-- An index in own memory, whatever its numbers are. -/
structure SpF (B b lo hi rm n : Nat) (r len : Nat → Nat) (pos nid : Nat → Nat → Nat) (M0 M : Mem) : Prop where
  hb : hi ≤ b
  rm1 : lo ≤ rm ∧ rm < hi
  r1 : ∀ j, j < 8 → lo ≤ r j ∧ r j < hi ∧ r j ≠ rm
  rr : ∀ i j, i < 8 → j < 8 → r i = r j → i = j
  p1 : ∀ j i, j < 8 → i < len j → lo ≤ pos j i ∧ pos j i < hi ∧ pos j i ≠ rm ∧ ∀ j', j' < 8 → pos j i ≠ r j'
  bx : M b = some (.box (bxL rm n fun j => .sl (r j) 3 0 (len j) none))
  ms : ∃ f, M rm = some (.vec 43 3 n f) ∧ ∀ i, i < n → ∃ v, f i 0 = .i v ∧ 0 ≤ v ∧ v ≤ 1099511627776 + B
  ps : ∀ j, j < 8 → ∃ f, M (r j) = some (.vec 75 3 (len j) f) ∧ ∀ i, i < len j → (∃ m, f i 1 = .r (.y m)) ∧ f i 2 = .sl (pos j i) 1 0 (nid j i) none
  nu : ∀ j i, j < 8 → i < len j → ∃ g, M (pos j i) = some (.vec 3 1 (nid j i) g) ∧ ∀ a, a < nid j i → ∃ v, g a 0 = .i v ∧ 0 ≤ v ∧ v ≤ 1099511627776 + B
  fr : ∀ q, q < b → q < lo ∨ hi ≤ q → M q = M0 q
theorem SpF.up {B B' b lo hi rm n : Nat} {r len : Nat → Nat} {pos nid : Nat → Nat → Nat} {M0 M : Mem} (h : SpF B b lo hi rm n r len pos nid M0 M) (hB : B ≤ B') : SpF B' b lo hi rm n r len pos nid M0 M :=
  ⟨h.hb, h.rm1, h.r1, h.rr, h.p1, h.bx, let ⟨f, h1, h2⟩ := h.ms; ⟨f, h1, fun i hi => let ⟨v, a1, a2, a3⟩ := h2 i hi; ⟨v, a1, a2, by omega⟩⟩, h.ps, fun j i hj hi => let ⟨f, h1, h2⟩ := h.nu j i hj hi; ⟨f, h1, fun i hi => let ⟨v, a1, a2, a3⟩ := h2 i hi; ⟨v, a1, a2, by omega⟩⟩, h.fr⟩
theorem SpF.setM {B b lo hi rm n : Nat} {r len : Nat → Nat} {pos nid : Nat → Nat → Nat} {M0 M : Mem} (h : SpF B b lo hi rm n r len pos nid M0 M) {f : Nat → Nat → SV} (hf : ∀ i, i < n → ∃ v, f i 0 = .i v ∧ 0 ≤ v ∧ v ≤ 1099511627776 + B) : SpF B b lo hi rm n r len pos nid M0 (upd M rm (some (.vec 43 3 n f))) := by
  have h1 := h.rm1
  have h2 := h.hb
  exact ⟨h.hb, h.rm1, h.r1, h.rr, h.p1, by rw [upd_ne _ _ (by omega)]; exact h.bx, ⟨f, upd_same .., hf⟩, fun j hj => by rw [upd_ne _ _ (h.r1 j hj).2.2]; exact h.ps j hj, fun j i hj hi => by rw [upd_ne _ _ (h.p1 j i hj hi).2.2.1]; exact h.nu j i hj hi,
    fun q hq hq2 => by rw [upd_ne _ _ (by omega)]; exact h.fr q hq hq2⟩
theorem SpF.setR {B b lo hi rm n : Nat} {r len : Nat → Nat} {pos nid : Nat → Nat → Nat} {M0 M : Mem} (h : SpF B b lo hi rm n r len pos nid M0 M) {j : Nat} (hj : j < 8) {f : Nat → Nat → SV} (hf : ∀ i, i < len j → (∃ m, f i 1 = .r (.y m)) ∧ f i 2 = .sl (pos j i) 1 0 (nid j i) none) :
    SpF B b lo hi rm n r len pos nid M0 (upd M (r j) (some (.vec 75 3 (len j) f))) := by
  have h1 := h.r1 j hj
  have h2 := h.hb
  refine ⟨h.hb, h.rm1, h.r1, h.rr, h.p1, by rw [upd_ne _ _ (by omega)]; exact h.bx, by rw [upd_ne _ _ (fun e => h1.2.2 e.symm)]; exact h.ms, fun j' hj' => ?_, fun j' i hj' hi => by rw [upd_ne _ _ ((h.p1 j' i hj' hi).2.2.2 j hj)]; exact h.nu j' i hj' hi,
    fun q hq hq2 => by rw [upd_ne _ _ (by omega)]; exact h.fr q hq hq2⟩
  by_cases e : j' = j
  · subst e; exact ⟨f, upd_same .., hf⟩
  · rw [upd_ne _ _ (fun q => e (h.rr _ _ hj' hj q))]; exact h.ps j' hj'
theorem SpF.setP {B b lo hi rm n : Nat} {r len : Nat → Nat} {pos nid : Nat → Nat → Nat} {M0 M : Mem} (h : SpF B b lo hi rm n r len pos nid M0 M) {j i : Nat} (hj : j < 8) (hi' : i < len j) {f : Nat → Nat → SV} (hf : ∀ a, a < nid j i → ∃ v, f a 0 = .i v ∧ 0 ≤ v ∧ v ≤ 1099511627776 + B) :
    SpF B b lo hi rm n r len pos nid M0 (upd M (pos j i) (some (.vec 3 1 (nid j i) f))) := by
  have h1 := h.p1 j i hj hi'
  have h2 := h.hb
  refine ⟨h.hb, h.rm1, h.r1, h.rr, h.p1, by rw [upd_ne _ _ (by omega)]; exact h.bx, by rw [upd_ne _ _ (fun e => h1.2.2.1 e.symm)]; exact h.ms, fun j' hj' => by rw [upd_ne _ _ (fun q => h1.2.2.2 j' hj' q.symm)]; exact h.ps j' hj', fun j' i' hj' hi2 => ?_,
    fun q hq hq2 => by rw [upd_ne _ _ (by omega)]; exact h.fr q hq hq2⟩
  by_cases e : pos j' i' = pos j i
  · obtain ⟨g, hg, _⟩ := h.nu j' i' hj' hi2
    obtain ⟨g', hg', _⟩ := h.nu j i hj hi'
    rw [e, hg'] at hg
    have en : nid j i = nid j' i' := by injection hg with hg; injection hg
    rw [e, upd_same]
    exact ⟨f, by rw [en], fun a ha => hf a (by omega)⟩
  · rw [upd_ne _ _ e]; exact h.nu j' i' hj' hi2
/-- Numbers of an index are not great. -/
structure IxG.Bd (x : IxG) : Prop where
  ms : ∀ a ∈ x.ms, 0 ≤ a.id ∧ a.id ≤ 1073741824
  ch : ∀ j, j < 8 → ∀ P ∈ x.ch j, ∀ v ∈ P.ids, 0 ≤ v ∧ v ≤ 1073741824
theorem IxO.sp {lo hi b : Nat} {M : Mem} {x : IxG} {S : SV} (h : IxO lo M hi x S) (hsm : x.Sm) (hbd : x.Bd) (hb : hi ≤ b) : ∃ rm n r len pos nid, S = .agg (bxL rm n fun j => .sl (r j) 3 0 (len j) none) ∧ n ≤ 1000 ∧ (∀ j, j < 8 → len j ≤ 1000000 ∧ ∀ i, nid j i ≤ 1000000) ∧ SpF 0 b lo hi rm n r len pos nid M (upd M b (some (.box (bxL rm n fun j => .sl (r j) 3 0 (len j) none)))) := by
  obtain ⟨rm, r, pos, rfl, h1, h2, h3, h4⟩ := h.ex
  refine ⟨rm, x.ms.length, r, fun j => (x.ch j).length, fun j i => if h : i < (x.ch j).length then pos j (x.ch j)[i].k else 0, fun j i => if h : i < (x.ch j).length then (x.ch j)[i].ids.length else 0, rfl, hsm.ms, fun j hj => ⟨(hsm.ch j hj).1, fun i => ?_⟩, ?_⟩
  · by_cases hi' : i < (x.ch j).length
    · simp only [hi', dif_pos]; exact (hsm.ch j hj).2 _ (List.getElem_mem hi')
    · simp only [hi']; simp
  refine ⟨hb, ⟨h1, h2⟩, fun j hj => ?_, h4.ri, fun j i hj hi' => ?_, upd_same .., ?_, fun j hj => ?_, fun j i hj hi' => ?_, fun q hq _ => upd_ne _ _ (by omega)⟩
  · have := h4.ra j hj
    omega
  · rw [dif_pos hi']
    obtain ⟨a1, a2, a3⟩ := h4.pa j hj _ (List.getElem_mem hi')
    exact ⟨by omega, a2, fun e => a1 (.inr e), a3⟩
  · rw [upd_ne _ _ (by omega)]
    refine ⟨_, h3, fun i hi' => ?_⟩
    have := hbd.ms _ (List.getElem_mem hi')
    exact ⟨x.ms[i].id, by rw [mrow hi']; rfl, by omega, by omega⟩
  · have := h4.ra j hj
    rw [upd_ne _ _ (by omega)]
    obtain ⟨f, q1, q2⟩ := h4.ps j hj
    refine ⟨f, q1, fun i hi' => ?_⟩
    obtain ⟨f0, f1, f2⟩ := q2 i hi'
    rw [dif_pos hi', dif_pos hi']
    exact ⟨⟨_, f1⟩, f2⟩
  · rw [dif_pos hi', dif_pos hi']
    have := h4.pa j hj _ (List.getElem_mem hi')
    rw [upd_ne _ _ (by omega)]
    obtain ⟨g, q1, q2⟩ := h4.nu j hj _ (List.getElem_mem hi')
    refine ⟨g, q1, fun a ha => ?_⟩
    rw [q2 a ha]
    have := hbd.ch j hj _ (List.getElem_mem hi') _ (List.getElem_mem ha)
    exact ⟨_, by rw [irow ha], by omega, by omega⟩
theorem spoil21K {lo hi0 np nx : Nat} {M : Mem} {x : IxG} {S : SV} (h : IxO lo M hi0 x S) (hsm : x.Sm) (hbd : x.Bd) (hi' : hi0 ≤ nx) (hnp : np ≤ nx) {K : SV → Mem → Nat → (SV → SV) → Prop}
    (hK : ∀ M' nx', nx ≤ nx' → (∀ q, q < nx → q < lo ∨ hi0 ≤ q → M' q = M q) → K (.tup []) M' nx' (SV.trim nx)) : CallK Try.prog np 21 [S] M nx K := by
  refine callK_in T_ok Try.func21 rfl (by kernel_rfl) (Nat.le_of_ble_eq_true rfl) rfl rfl nx hnp (Nat.le_refl _) ?_
  obtain ⟨rm, n, r, len, pos, nid, rfl, hn, hlen, hsp⟩ := h.sp hsm hbd hi'
  simp [go_sem]
  refine ⟨⟨rfl, rfl⟩, ?_⟩
  refine GLoop_p T_ok (α := Nat) (fun k => [(1, .ptr nx 0 9 0), (2, .i k)]) (fun k M' nx' => k ≤ n ∧ nx' = nx + 1 ∧ SpF k nx lo hi0 rm n r len pos nid M M') (fun k => n - k) 0 ⟨Nat.zero_le _, rfl, hsp⟩ (by simp [go_sem, bxL_len]) ?_
  rintro k J M1 nx1 hN ⟨hk, rfl, h1⟩
  have hb0 := bxL_g0 rm n fun j => .sl (r j) 3 0 (len j) none
  have hb9 := bxL_len rm n fun j => .sl (r j) 3 0 (len j) none
  have hbx := h1.bx
  have hrm := h1.rm1
  by_cases hkn : k < n
  · obtain ⟨f, hm, hf⟩ := h1.ms
    obtain ⟨v, hv, hv1, hv2⟩ := hf k hkn
    have hkn' : (k : Int) < n := by omega
    simp [go_sem, hbx, hb0, hb9, hkn, hkn', hm, hv]
    refine ⟨by omega, by omega, k + 1, by omega, by omega, by omega, (h1.up (by omega)).setM fun i hi => ?_⟩
    by_cases e : i = k
    · subst e; exact ⟨_, by simp; rfl, by omega, by omega⟩
    · obtain ⟨u, hu, hu1, hu2⟩ := hf i hi
      exact ⟨u, by simp [e, hu], by omega, by omega⟩
  have hkn' : ¬ (k : Int) < n := by omega
  simp [go_sem, hbx, hb0, hb9, hkn, hkn']
  refine GLoop_p T_ok (α := Nat) (fun j => [(1, .ptr nx 0 9 0), (3, .i j)]) (fun j M' nx' => j ≤ 8 ∧ nx' = nx + 1 ∧ SpF (n + j * 1000000000000) nx lo hi0 rm n r len pos nid M M') (fun j => 8 - j) 0 ⟨Nat.zero_le _, rfl, h1.up (by omega)⟩ (by simp [go_sem]) ?_
  clear h1 hbx J hN hb0 hkn hkn' hk
  rintro j J M2 nx2 hN ⟨hj, rfl, h2⟩
  by_cases hj8 : j < 8
  rotate_left
  · have e : j = 8 := by omega
    subst e
    simp [go_sem]
    exact hK _ _ (by omega) fun q hq hq2 => h2.fr q hq hq2
  have hj8' : (j : Int) < 8 := by omega
  have hbj := bxL_g rm n (fun j => .sl (r j) 3 0 (len j) none) hj8
  have hbk := bxL_at rm n (fun j => .sl (r j) 3 0 (len j) none) hj8
  simp [go_sem, hj8, hj8']
  refine GLoop_p T_ok (α := Nat) (fun i => [(1, .ptr nx 0 9 0), (3, .i j), (4, .i i)]) (fun i M' nx' => i ≤ len j ∧ nx' = nx + 1 ∧ SpF (n + j * 1000000000000 + i * 1000000) nx lo hi0 rm n r len pos nid M M') (fun i => len j - i) 0 ⟨Nat.zero_le _, rfl, h2.up (by omega)⟩ (by simp [go_sem]) ?_
  clear h2 J hN
  rintro i J M3 nx3 hN ⟨hi, rfl, h3⟩
  have hbx := h3.bx
  obtain ⟨f, hm, hf⟩ := h3.ps j hj8
  have hll := hlen j hj8
  by_cases hil : i < len j
  rotate_left
  · have hil' : ¬ (i : Int) < len j := by omega
    simp [go_sem, hbx, hbj, hbk, hb9, hj8, hj8', hil, hil', hm]
    have hie : i = len j := by omega
    exact ⟨by omega, by omega, j + 1, by omega, by omega, by omega, h3.up (by omega)⟩
  have hil' : (i : Int) < len j := by omega
  obtain ⟨⟨m, hm1⟩, hm2⟩ := hf i hil
  simp [go_sem, hbx, hbj, hbk, hb9, hj8, hj8', hil, hil', hm, hm1, hm2]
  refine ⟨by omega, ?_⟩
  refine GLoop_p T_ok (α := Nat) (fun k => [(1, .ptr nx 0 9 0), (3, .i j), (4, .i i), (5, .i k)]) (fun k M' nx' => k ≤ nid j i ∧ nx' = nx + 1 ∧ SpF (n + j * 1000000000000 + i * 1000000 + k) nx lo hi0 rm n r len pos nid M M') (fun k => nid j i - k) 0 ⟨Nat.zero_le _, rfl, h3.setR hj8 fun a ha => ?_⟩ (by simp [go_sem]) ?_
  · obtain ⟨⟨m', hm1'⟩, hm2'⟩ := hf a ha
    by_cases e : a = i
    · subst e
      exact ⟨⟨_, by simp; rfl⟩, by simp [hm2']⟩
    · exact ⟨⟨m', by simp [e, hm1']⟩, by simp [e, hm2']⟩
  clear h3 hbx hm hm1 hm2 J hN
  clear hf
  rintro k J M4 nx4 hN ⟨hk, rfl, h4⟩
  have hbx := h4.bx
  obtain ⟨f, hm, hf⟩ := h4.ps j hj8
  obtain ⟨⟨m, hm1⟩, hm2⟩ := hf i hil
  obtain ⟨g, hg, hgg⟩ := h4.nu j i hj8 hil
  have hp1 := h4.p1 j i hj8 hil
  have hll2 := hll.2 i
  by_cases hkn : k < nid j i
  · have hkn' : (k : Int) < nid j i := by omega
    obtain ⟨v, hv, hv1, hv2⟩ := hgg k hkn
    simp [go_sem, hbx, hbj, hbk, hb9, hj8, hj8', hil, hil', hm, hm1, hm2, hg, hkn, hkn', hv]
    refine ⟨by omega, by omega, by omega, k + 1, by omega, by omega, by omega, (h4.up (by omega)).setP hj8 hil fun a ha => ?_⟩
    by_cases e : a = k
    · subst e; exact ⟨_, by simp; rfl, by omega, by omega⟩
    · obtain ⟨u, hu, hu1, hu2⟩ := hgg a ha
      exact ⟨u, by simp [e, hu], by omega, by omega⟩
  · have hkn' : ¬ (k : Int) < nid j i := by omega
    simp [go_sem, hbx, hbj, hbk, hb9, hj8, hj8', hil, hil', hm, hm1, hm2, hkn, hkn']
    have hke : k = nid j i := by omega
    exact ⟨by omega, by omega, i + 1, by omega, by omega, by omega, h4.up (by omega)⟩
end Go.Gx.Ix
set_option linter.unusedVariables false
set_option linter.unusedSimpArgs false
set_option maxRecDepth 20000
set_option maxHeartbeats 4000000
namespace Go.Gx.Ix
open Go.RowKit Go.Proofs Go.Proofs.Ytdnblflhlklfnaa

theorem IxO.mem {lo hi : Nat} {M M' : Mem} {x : IxG} {S : SV} (h : IxO lo M hi x S) (hM : ∀ q, lo ≤ q → q < hi → M' q = M q) : IxO lo M' hi x S := by
  obtain ⟨rm, r, pos, h0, h1, h2, h3, h4⟩ := h.ex
  exact ⟨rm, r, pos, h0, h1, h2, by rw [hM _ h1 h2]; exact h3, h4.mem (Nat.le_refl _) fun q hq hnq => hM q (Nat.le_of_not_lt fun e => hnq (.inl e)) hq⟩
theorem IxO.hi {lo hi hi' : Nat} {M : Mem} {x : IxG} {S : SV} (h : IxO lo M hi x S) (hh : hi ≤ hi') : IxO lo M hi' x S := by
  obtain ⟨rm, r, pos, h0, h1, h2, h3, h4⟩ := h.ex
  exact ⟨rm, r, pos, h0, h1, Nat.lt_of_lt_of_le h2 hh, h3, h4.mem hh fun q hq hnq => rfl⟩
theorem IxO.lo {lo lo' hi : Nat} {M : Mem} {x : IxG} {S : SV} (h : IxO lo M hi x S) (hh : lo' ≤ lo) : IxO lo' M hi x S := by
  obtain ⟨rm, r, pos, h0, h1, h2, h3, h4⟩ := h.ex
  exact ⟨rm, r, pos, h0, Nat.le_trans hh h1, h2, h3, h4.wk fun q hq ha => ha.imp (fun e => by omega) id⟩
theorem Kept.eqM {A : Nat → Prop} {R R' : Option Reg} (h : Kept A R R') (h1 : ∀ s, A s → R.map (Reg.kill s) = R) (h2 : ∀ s Rf, A s → R.map (Reg.fz s Rf) = R) : R' = R :=
  h (fun Q => Q = R) (fun s Q hs e => by rw [e, h1 s hs]) (fun s Rf Q hs e => by rw [e, h2 s Rf hs]) rfl
theorem build16K (l : List MbG) (hn : l.length ≤ 1000) {np nx : Nat} {M : Mem} {K : SV → Mem → Nat → (SV → SV) → Prop} (hnp : np ≤ nx)
    (hK : ∀ S M' nx', nx ≤ nx' → (if buildE l = 0 then IxO nx M' nx' (ofG l) S else S = nilX) → (∀ q, q < nx → Kept (nx ≤ ·) (M q) (M' q)) → K (.tup [S, .i (buildE l)]) M' nx' (SV.trim nx)) : CallK Try.prog np 16 [mrs l] M nx K := by
  obtain ⟨e, he⟩ : ∃ e, buildE l = e := ⟨_, rfl⟩
  rw [he] at hK
  refine callK_in T_ok Try.func16 rfl (by kernel_rfl) (Nat.le_of_ble_eq_true rfl) rfl rfl nx hnp (Nat.le_refl _) ?_
  simp [go_sem]
  have hup : ∀ R (q : Nat), q < nx → Kept (nx ≤ ·) (M q) (upd M nx R q) := fun R q hq => by rw [upd_ne _ _ (by omega)]; exact Kept.refl
  by_cases h1 : 256 < l.length
  · have h1' : (256 : Int) < l.length := by omega
    have e4 : e = 4 := by rw [← he, buildE, if_pos h1]
    subst e4
    simp [go_sem, h1, h1']
    exact hK _ _ _ (by omega) rfl fun q hq => by rw [upd_ne _ _ (by omega), upd_ne _ _ (by omega)]; exact Kept.refl
  have h1' : ¬ (256 : Int) < l.length := by omega
  simp [go_sem, h1, h1']
  refine call_val (contains47 l (by omega) 48 (fun a => !okN a.id) build48) rfl rfl ?_
  cases h2 : l.any fun a => !okN a.id
  rotate_left
  · have e4 : e = 2 := by rw [← he, buildE, if_neg h1, if_pos h2]
    subst e4
    simp [go_sem]
    exact hK _ _ _ (by omega) rfl fun q hq => by rw [upd_ne _ _ (by omega), upd_ne _ _ (by omega)]; exact Kept.refl
  simp [go_sem]
  refine call_val (contains47 l (by omega) 50 (fun a => !a.x.ok) build50) rfl rfl ?_
  cases h3 : l.any fun a => !a.x.ok
  rotate_left
  · have e4 : e = 30 := by rw [← he, buildE, if_neg h1, if_neg (by rw [h2]; simp), if_pos h3]
    subst e4
    simp [go_sem]
    exact hK _ _ _ (by omega) rfl fun q hq => by rw [upd_ne _ _ (by omega), upd_ne _ _ (by omega)]; exact Kept.refl
  simp [go_sem]
  refine of52K l hn (by omega) ?_
  intro S M1 nx1 g1 g2 g3
  have hl := (srtM_spec l).2.1
  obtain ⟨x, hx⟩ : ∃ x, ofG l = x := ⟨_, rfl⟩
  have hms : x.ms = srtM l := by rw [← hx]; rfl
  have he2 : e = if dupM x.ms then 41 else 0 := by rw [← he, buildE, if_neg h1, if_neg (by rw [h2]; simp), if_neg (by rw [h3]; simp), hms]
  rw [hx] at g2 hK
  rw [← hms] at hl
  obtain ⟨rm, r, pos, hS, q1, q2, q3, q4⟩ := g2.ex
  subst hS
  have u0 : M1 nx = some nil9 := by
    have := g3 nx (by omega)
    rw [upd_same] at this
    exact this.eq (fun _ => rfl) (fun _ _ => rfl)
  simp [go_sem]
  refine ⟨⟨rfl, rfl⟩, ?_⟩
  have hbl := bxL_eq rm x.ms.length fun i => .sl (r i) 3 0 (x.ch i).length none
  rw [hbl]
  refine GLoop_p T_ok (α := Nat) (fun k => [(2, .ptr nx 0 9 0), (3, .i 0), (4, .ptr nx1 0 9 0), (5, .i ((k : Int) + 1))])
    (fun k Mx nx' => (k ≤ x.ms.length ∧ ∀ j, j < k → ∀ (h1 : j + 1 < x.ms.length), ¬ x.ms[j + 1].id = x.ms[j].id) ∧ (∀ q, q < nx1 → Mx q = M1 q) ∧ Mx nx1 = some (.box (bxL rm x.ms.length fun i => .sl (r i) 3 0 (x.ch i).length none)) ∧ nx' = nx1 + 1) (fun k => x.ms.length - k) 0
    ⟨⟨by omega, fun j hj => absurd hj (Nat.not_lt_zero j)⟩, fun q hq => by rw [upd_ne _ _ (by omega), upd_ne _ _ (by omega)], upd_same .., rfl⟩ (by simp [go_sem]) ?_
  rintro k J Mx nx2 hN ⟨hk, w1, w2, rfl⟩
  have w0 : Mx nx = some nil9 := by rw [w1 nx (by omega)]; exact u0
  have w3 : Mx rm = some (mreg x.ms) := by rw [w1 rm (by omega)]; exact q3
  rw [hbl] at w2
  have kq : ∀ R (q : Nat), q < nx → Kept (nx ≤ ·) (M q) (upd Mx nx R q) := fun R q hq => by
    rw [upd_ne _ _ (by omega), w1 q (by omega)]
    have := g3 q (by omega)
    rw [upd_ne _ _ (by omega)] at this
    exact this.mono fun s hs => by omega
  have m1 : ¬ nx = nx1 := by omega
  have m2 : ¬ nx1 = nx := by omega
  by_cases hlt : k + 1 < x.ms.length
  · have hlt' : (k : Int) + 1 < x.ms.length := by omega
    have r0 := mrow hlt 0
    have q0 := mrow (by omega : k < x.ms.length) 0
    simp [go_sem, w0, w2, w3, hlt, hlt']
    refine GDraw_all T_ok (by kernel_rfl) (by kernel_rfl) ?_
    simp [go_sem, w0, w2, w3, hlt, hlt', r0, q0, m1, m2]
    refine ⟨by omega, by omega, by omega, ?_⟩
    by_cases heq : x.ms[k + 1].id = x.ms[k].id
    · rw [if_pos heq]
      have e4 : e = 41 := by
        rw [he2, if_pos]
        refine List.any_eq_true.2 ⟨k + 1, List.mem_range.2 hlt, ?_⟩
        rw [getElem!_pos x.ms (k + 1) hlt, getElem!_pos x.ms (k + 1 - 1) (by omega)]
        simpa using heq
      subst e4
      exact ⟨by omega, by omega, by omega, by omega, by omega, hK _ _ _ (by omega) rfl (kq _)⟩
    · rw [if_neg heq]
      refine ⟨by omega, by omega, by omega, by omega, by omega, by omega, k + 1, by omega, by omega, ⟨by omega, fun j hj h1 => ?_⟩, w1, hbl.symm⟩
      by_cases e : j = k
      · subst e; exact heq
      · exact hk.2 j (by omega) h1
  · have hlt' : ¬ (k : Int) + 1 < x.ms.length := by omega
    have e0 : e = 0 := by
      rw [he2, if_neg]
      intro hd
      obtain ⟨i, hi, hq⟩ := List.any_eq_true.1 hd
      have hi := List.mem_range.1 hi
      simp only [Bool.and_eq_true, decide_eq_true_eq] at hq
      obtain ⟨h1, h2⟩ := hq
      obtain ⟨i, rfl⟩ : ∃ i', i = i' + 1 := ⟨i - 1, by omega⟩
      rw [getElem!_pos x.ms (i + 1) hi, getElem!_pos x.ms (i + 1 - 1) (by omega)] at h2
      exact hk.2 i (by omega) hi (by simpa using h2)
    subst e0
    simp [go_sem, w0, w2, w3, hlt, hlt', m1, m2]
    refine hK _ _ _ (by omega) ?_ (kq _)
    rw [if_pos rfl]
    exact ((g2.mem fun q h1 h2 => by rw [upd_ne _ _ (by omega), w1 q h2]).lo (by omega)).hi (by omega)
end Go.Gx.Ix
