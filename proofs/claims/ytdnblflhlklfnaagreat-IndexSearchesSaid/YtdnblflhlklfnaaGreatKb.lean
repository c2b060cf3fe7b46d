/-
  The reference's Sorted and Of.
-/
import Derived.Test.YtdnblflhlklfnaaGreatKa
set_option linter.unusedVariables false
set_option linter.unusedSimpArgs false
set_option maxRecDepth 20000
set_option maxHeartbeats 4000000
namespace Go.Gx.Ix
open Go.RowKit Go.Proofs Go.Proofs.YtdnblflhlklfnaaGreat

def xl (P R : List MbG) (a : MbG) (k : Nat) : List MbG := P.take k ++ a :: (P.drop k ++ R)
theorem xl_len (P R : List MbG) (a : MbG) (k : Nat) (hk : k ≤ P.length) : (xl P R a k).length = P.length + 1 + R.length := by
  unfold xl; simp; omega
theorem xl_get (P R : List MbG) (a : MbG) (k : Nat) (hk : k ≤ P.length) (i : Nat) : (xl P R a k)[i]? = if i < k then P[i]? else if i = k then some a else if i ≤ P.length then P[i - 1]? else R[i - (P.length + 1)]? := by
  unfold xl
  have hl : (P.take k).length = k := by simp; omega
  rw [List.getElem?_append, hl]
  by_cases h1 : i < k
  · rw [if_pos h1, if_pos h1, List.getElem?_take_of_lt h1]
  rw [if_neg h1, if_neg h1]
  by_cases h2 : i = k
  · subst h2; simp
  rw [if_neg h2]
  obtain ⟨d, rfl⟩ : ∃ d, i = k + 1 + d := ⟨i - (k + 1), by omega⟩
  rw [show k + 1 + d - k = d + 1 by omega, List.getElem?_cons_succ, List.getElem?_append, List.length_drop, List.getElem?_drop]
  by_cases h3 : k + 1 + d ≤ P.length
  · rw [if_pos (by omega), if_pos h3, show k + 1 + d - 1 = k + d by omega]
  · rw [if_neg (by omega), if_neg h3]
    congr 1; omega
theorem xl_swap (P R : List MbG) (a : MbG) (k : Nat) (hk : k + 1 ≤ P.length) (i c : Nat) : mrows (xl P R a k) i c = if i = k then a.f c else if i = k + 1 then (P[k]'hk).f c else mrows (xl P R a (k + 1)) i c := by
  unfold mrows rowsL
  rw [xl_get P R a k (by omega), xl_get P R a (k + 1) hk]
  by_cases h1 : i < k
  · rw [if_pos h1, if_neg (by omega), if_neg (by omega), if_pos (by omega)]
  rw [if_neg h1]
  by_cases h2 : i = k
  · rw [if_pos h2, if_pos h2]
  rw [if_neg h2, if_neg h2]
  by_cases h3 : i = k + 1
  · subst h3
    rw [if_pos rfl, if_pos (by omega), show k + 1 - 1 = k by omega, List.getElem?_eq_getElem (by omega)]
  have e1 : ¬ i < k + 1 := by omega
  simp only [h3, e1, if_false]
theorem sorted81 (l : List MbG) (hn : l.length ≤ 1000) (hd : (l.map (·.id)).Nodup) : Pure Tryz.prog 66 [mrs l] (· = mrs (srtM l)) := by
  refine pure_of_GC T_ok Tryz.func66 rfl (by kernel_rfl) (Nat.le_of_ble_eq_true rfl) rfl rfl ?_
  simp [go_sem]
  refine ⟨by omega, ?_⟩
  refine GLoop_s T_ok (α := Nat × List MbG) (fun s => [(3, .sl 0 3 0 l.length none), (4, .i s.1)]) (fun s => [some (.vec 74 3 l.length fun i c => .r (mrows (s.2 ++ l.drop s.1) i c))]) 1
    (fun s => s.1 ≤ l.length ∧ s.2.Perm (l.take s.1) ∧ s.2.Pairwise fun a b => a.id ≤ b.id) (fun s => l.length - s.1) (0, []) (fun _ => rfl) (by simp) (by simp [go_sem]) (by simp [go_sem]; exact fun i j hi hj => by unfold joined; rw [if_neg (by omega), if_pos (by omega)]; rfl) ?_
  rintro ⟨i, P⟩ J ⟨hi, hP, hS⟩
  dsimp only at hi hP hS
  have hPl : P.length = i := by rw [hP.length_eq, List.length_take]; omega
  by_cases hil : i < l.length
  · have hdr : l.drop i = l[i] :: l.drop (i + 1) := List.drop_eq_getElem_cons hil
    have hts := List.take_succ_eq_append_getElem hil
    generalize l[i] = a at *
    obtain ⟨R, hR⟩ : ∃ R, l.drop (i + 1) = R := ⟨_, rfl⟩
    have hRl : R.length = l.length - (i + 1) := by rw [← hR, List.length_drop]
    have hx0 : P ++ l.drop i = xl P R a i := by
      unfold xl
      rw [hdr, hR, ← hPl, List.take_length, List.drop_length, List.nil_append]
    rw [hx0]
    simp [go_sem, hil]
    refine GLoop_s T_ok (α := Nat) (fun k => [(3, .sl 0 3 0 l.length none), (4, .i i), (5, .i k)]) (fun k => [some (.vec 74 3 l.length fun i c => .r (mrows (xl P R a k) i c))]) 1
      (fun k => k ≤ i ∧ ∀ b ∈ P.drop k, a.id < b.id) (fun k => k) i (fun _ => rfl) ⟨Nat.le_refl _, by rw [← hPl, List.drop_length]; simp⟩ (by simp [go_sem]) (by simp [go_sem]) ?_
    rintro k J ⟨hk, hlt⟩
    have fin : (∀ b ∈ P.take k, b.id ≤ a.id) → (P.take k ++ a :: P.drop k).Perm (l.take (i + 1)) ∧ (P.take k ++ a :: P.drop k).Pairwise (fun a b => a.id ≤ b.id) ∧ xl P R a k = (P.take k ++ a :: P.drop k) ++ l.drop (i + 1) := fun hle => by
      refine ⟨?_, ?_, ?_⟩
      · rw [hts]
        refine List.perm_middle.trans ?_
        rw [List.take_append_drop]
        exact (List.Perm.cons a hP).trans (List.perm_append_singleton a _).symm
      · rw [List.pairwise_append, List.pairwise_cons]
        have h1 : (P.take k ++ P.drop k).Pairwise fun a b => a.id ≤ b.id := by rw [List.take_append_drop]; exact hS
        rw [List.pairwise_append] at h1
        refine ⟨h1.1, ⟨fun b hb => by have := hlt b hb; omega, h1.2.1⟩, fun b hb c hc => ?_⟩
        rcases List.mem_cons.1 hc with rfl | hc
        · exact hle b hb
        · exact h1.2.2 b hb c hc
      · unfold xl; rw [hR]; simp
    simp [go_sem]
    refine GDraw_all T_ok (by kernel_rfl) (by kernel_rfl) ?_
    by_cases hk0 : k = 0
    · subst hk0
      simp [go_sem]
      obtain ⟨f1, f2, f3⟩ := fin (by simp)
      refine ⟨by omega, i + 1, _, ⟨by omega, f1, f2⟩, by omega, by omega, fun i j hi hj => by rw [f3]⟩
    · obtain ⟨k, rfl⟩ : ∃ q, k = q + 1 := ⟨k - 1, by omega⟩
      have hkP : k < P.length := by omega
      have x1 : ∀ c, mrows (xl P R a (k + 1)) (k + 1) c = a.f c := fun c => by unfold mrows rowsL; rw [xl_get P R a (k + 1) (by omega), if_neg (by omega), if_pos rfl]
      have x0 : ∀ c, mrows (xl P R a (k + 1)) k c = P[k].f c := fun c => by unfold mrows rowsL; rw [xl_get P R a (k + 1) (by omega), if_pos (by omega), List.getElem?_eq_getElem hkP]
      have hdk : P.drop k = P[k] :: P.drop (k + 1) := List.drop_eq_getElem_cons hkP
      have htk : P.take (k + 1) = P.take k ++ [P[k]] := List.take_succ_eq_append_getElem hkP
      have hsw := fun i c => xl_swap P R a k (by omega) i c
      have hle1 : ∀ b ∈ P.take k, b.id ≤ P[k].id := fun b hb => by
        have h1 : (P.take (k + 1)).Pairwise fun a b => a.id ≤ b.id := hS.sublist (List.take_sublist _ _)
        rw [htk, List.pairwise_append] at h1
        exact h1.2.2 b hb _ (by simp)
      generalize P[k] = q at *
      have hkl : k + 1 < l.length := by omega
      simp [go_sem, x1, x0, hkl]
      refine ⟨by omega, by omega, by omega, ?_⟩
      by_cases hlq : a.id < q.id
      · rw [if_pos hlq]
        refine GDraw_l (t := (.take 0 (.take 1 (.take 2 (.take 3 (.take 4 (.take 5 (.take 6 (.take 7 (.take 8 (.take 9 (.take 10 (.take 11 (.take 12 (.take 13 (.take 14 (.alt 15 [14, 13, 12, 11, 10, 9, 8, 7, 6, 5, 4, 3, 2, 1, 0] (.take 16 (.alt 17 [16, 12, 11, 10, 4, 3, 2] (.done []) .nil)) .nil))))))))))))))))) T_ok (by kernel_rfl) (by kernel_rfl) (by kernel_rfl) (fun _ _ _ _ h => h) ?_
        have hkl' : (k : Int) + 1 < l.length := by omega
        have hkl2 : k < l.length := by omega
        simp [go_sem, x1, x0, hkl, hkl', hkl2]
        refine ⟨by omega, by omega, by omega, by omega, k, ⟨by omega, fun b hb => ?_⟩, by omega, rfl, fun i' j' hi hj => ?_⟩
        · rw [hdk] at hb
          rcases List.mem_cons.1 hb with rfl | hb
          · exact hlq
          · exact hlt b hb
        · rw [hsw]
          by_cases h1 : i' = k
          · rw [if_pos ⟨h1, hj⟩, if_pos h1]
            rcases (show j' = 0 ∨ j' = 1 ∨ j' = 2 by omega) with rfl | rfl | rfl <;> rfl
          · rw [if_neg (fun h => h1 h.1), if_neg h1]
            by_cases h2 : i' = k + 1
            · rw [if_pos ⟨h2, hj⟩, if_pos h2]
              rcases (show j' = 0 ∨ j' = 1 ∨ j' = 2 by omega) with rfl | rfl | rfl <;> rfl
            · rw [if_neg (fun h => h2 h.1), if_neg h2]; rfl
      · rw [if_neg hlq]
        obtain ⟨f1, f2, f3⟩ := fin (fun b hb => by
          rw [htk] at hb
          rcases List.mem_append.1 hb with hb | hb
          · have := hle1 b hb; omega
          · rw [List.mem_singleton.1 hb]; omega)
        refine ⟨by omega, i + 1, _, ⟨by omega, f1, f2⟩, by omega, by omega, fun i j hi hj => by rw [f3]⟩
  · have hie : i = l.length := by omega
    subst hie
    rw [List.take_length] at hP
    rw [List.drop_length, List.append_nil]
    have hsr : P = srtM l := by
      have hnd : (P.map (·.id)).Nodup := ((hP.map _).nodup_iff).2 hd
      have hsl : SL P := by
        refine List.pairwise_iff_getElem.2 fun a b ha hb hab => ?_
        have h1 := List.pairwise_iff_getElem.1 hS a b ha hb hab
        have h2 : P[a].id ≠ P[b].id := fun e => by
          have := List.pairwise_iff_getElem.1 hnd a b (by simpa using ha) (by simpa using hb) hab
          simp at this
          exact this e
        have h1 : P[a].id ≤ P[b].id := h1
        show P[a].id < P[b].id
        omega
      exact SL_uniq hsl (srt_SL hd) fun a => by rw [srt_mem, hP.mem_iff]
    rw [hsr]
    simp [go_sem]
    exact srt_len l ▸ rfl
def celC (ms : List MbG) (j : Nat) : List SV := mrs ms :: (List.range 8).map fun i => if i < j then pls (lsR ms i 65536) else nilS
theorem of54' (l : List MbG) (hn : l.length ≤ 1000) (hd : (l.map (·.id)).Nodup) : Pure Tryz.prog 48 [mrs l] (· = .agg (mrs (srtM l) :: (List.range 8).map fun j => pls (lsR (srtM l) j 65536))) := by
  refine pure_of_GC T_ok Tryz.func48 rfl (by kernel_rfl) (Nat.le_of_ble_eq_true rfl) rfl rfl ?_
  have hs := sorted81 l hn hd
  have hlen := srt_len l
  have hls := fun j hj => list82 (srtM l) (by omega) j hj
  generalize srtM l = ms at *
  simp [go_sem]
  refine call_val hs rfl rfl ?_
  simp [go_sem]
  refine GLoop_p T_ok (α := Nat) (fun j => [(2, .ptr 0 0 9 0), (3, .ptr 1 0 9 0), (4, .i j)]) (fun j M nx => j ≤ 8 ∧ M 0 = some (.box [nilS, nilS, nilS, nilS, nilS, nilS, nilS, nilS, nilS]) ∧ M 1 = some (.box (celC ms j))) (fun j => 8 - j) 0 ⟨by omega, by simp [go_sem], by simp [go_sem]; rfl⟩ (by simp [go_sem]) ?_
  rintro j J M nx _ ⟨hj, hm0, hm1⟩
  rcases (show j = 0 ∨ j = 1 ∨ j = 2 ∨ j = 3 ∨ j = 4 ∨ j = 5 ∨ j = 6 ∨ j = 7 ∨ j = 8 by omega) with rfl | rfl | rfl | rfl | rfl | rfl | rfl | rfl | rfl
  · have hm1 : M 1 = some (.box [mrs ms, nilS, nilS, nilS, nilS, nilS, nilS, nilS, nilS]) := hm1
    simp [go_sem, hm0, hm1]
    refine call_val (hls 0 (by omega)) rfl rfl ?_
    simp [go_sem, hm0, hm1]
    exact ⟨1, by omega, rfl, by omega, rfl⟩
  · have hm1 : M 1 = some (.box [mrs ms, pls (lsR ms 0 65536), nilS, nilS, nilS, nilS, nilS, nilS, nilS]) := hm1
    simp [go_sem, hm0, hm1]
    refine call_val (hls 1 (by omega)) rfl rfl ?_
    simp [go_sem, hm0, hm1]
    exact ⟨2, by omega, rfl, by omega, rfl⟩
  · have hm1 : M 1 = some (.box [mrs ms, pls (lsR ms 0 65536), pls (lsR ms 1 65536), nilS, nilS, nilS, nilS, nilS, nilS]) := hm1
    simp [go_sem, hm0, hm1]
    refine call_val (hls 2 (by omega)) rfl rfl ?_
    simp [go_sem, hm0, hm1]
    exact ⟨3, by omega, rfl, by omega, rfl⟩
  · have hm1 : M 1 = some (.box [mrs ms, pls (lsR ms 0 65536), pls (lsR ms 1 65536), pls (lsR ms 2 65536), nilS, nilS, nilS, nilS, nilS]) := hm1
    simp [go_sem, hm0, hm1]
    refine call_val (hls 3 (by omega)) rfl rfl ?_
    simp [go_sem, hm0, hm1]
    exact ⟨4, by omega, rfl, by omega, rfl⟩
  · have hm1 : M 1 = some (.box [mrs ms, pls (lsR ms 0 65536), pls (lsR ms 1 65536), pls (lsR ms 2 65536), pls (lsR ms 3 65536), nilS, nilS, nilS, nilS]) := hm1
    simp [go_sem, hm0, hm1]
    refine call_val (hls 4 (by omega)) rfl rfl ?_
    simp [go_sem, hm0, hm1]
    exact ⟨5, by omega, rfl, by omega, rfl⟩
  · have hm1 : M 1 = some (.box [mrs ms, pls (lsR ms 0 65536), pls (lsR ms 1 65536), pls (lsR ms 2 65536), pls (lsR ms 3 65536), pls (lsR ms 4 65536), nilS, nilS, nilS]) := hm1
    simp [go_sem, hm0, hm1]
    refine call_val (hls 5 (by omega)) rfl rfl ?_
    simp [go_sem, hm0, hm1]
    exact ⟨6, by omega, rfl, by omega, rfl⟩
  · have hm1 : M 1 = some (.box [mrs ms, pls (lsR ms 0 65536), pls (lsR ms 1 65536), pls (lsR ms 2 65536), pls (lsR ms 3 65536), pls (lsR ms 4 65536), pls (lsR ms 5 65536), nilS, nilS]) := hm1
    simp [go_sem, hm0, hm1]
    refine call_val (hls 6 (by omega)) rfl rfl ?_
    simp [go_sem, hm0, hm1]
    exact ⟨7, by omega, rfl, by omega, rfl⟩
  · have hm1 : M 1 = some (.box [mrs ms, pls (lsR ms 0 65536), pls (lsR ms 1 65536), pls (lsR ms 2 65536), pls (lsR ms 3 65536), pls (lsR ms 4 65536), pls (lsR ms 5 65536), pls (lsR ms 6 65536), nilS]) := hm1
    simp [go_sem, hm0, hm1]
    refine call_val (hls 7 (by omega)) rfl rfl ?_
    simp [go_sem, hm0, hm1]
    exact ⟨8, by omega, rfl, by omega, rfl⟩
  · have hm1 : M 1 = some (.box [mrs ms, pls (lsR ms 0 65536), pls (lsR ms 1 65536), pls (lsR ms 2 65536), pls (lsR ms 3 65536), pls (lsR ms 4 65536), pls (lsR ms 5 65536), pls (lsR ms 6 65536), pls (lsR ms 7 65536)]) := hm1
    simp [go_sem, hm0, hm1]
end Go.Gx.Ix
