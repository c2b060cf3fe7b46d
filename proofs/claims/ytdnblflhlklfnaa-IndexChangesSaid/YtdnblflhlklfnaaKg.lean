/-
  The reference's Build. The reference's Add, Remove. The reference's Split.
-/
import Derived.Test.YtdnblflhlklfnaaKd
set_option linter.unusedVariables false
set_option linter.unusedSimpArgs false
set_option maxRecDepth 20000
set_option maxHeartbeats 4000000
namespace Go.Gx.Ix
open Go.RowKit Go.Proofs Go.Proofs.Ytdnblflhlklfnaa

theorem buildE_nd {l : List MbG} (h1 : l.length ≤ 256) (h2 : ∀ a ∈ l, okN a.id = true) (h3 : ∀ a ∈ l, a.x.ok = true) : buildE l = if (l.map (·.id)).Nodup then 0 else 41 := by
  by_cases h : (l.map (·.id)).Nodup
  · rw [if_pos h]; exact (buildE_iff _).2 ⟨h1, h2, h3, h⟩
  · rw [if_neg h]
    have h0 : ¬ buildE l = 0 := fun e => h ((buildE_iff _).1 e).nd
    have q2 : (l.any fun a => !okN a.id) = false := List.any_eq_false.2 fun a ha => by simp [h2 a ha]
    have q3 : (l.any fun a => !a.x.ok) = false := List.any_eq_false.2 fun a ha => by simp [h3 a ha]
    unfold buildE at h0 ⊢
    rw [if_neg (by omega), if_neg (by rw [q2]; simp), if_neg (by rw [q3]; simp)] at h0 ⊢
    by_cases hd : dupM (srtM l) = true
    · rw [if_pos hd]
    · rw [if_neg hd] at h0; exact absurd rfl h0
theorem nd_take {l : List MbG} {i : Nat} (hi : i < l.length) (h : ((l.take i).map (·.id)).Nodup) (hk : ∀ j, (hj : j < i) → ¬ l[i].id = l[j].id) : ((l.take (i + 1)).map (·.id)).Nodup := by
  rw [List.take_succ_eq_append_getElem hi, List.map_append, List.nodup_append]
  refine ⟨h, by simp, fun a ha b hb => ?_⟩
  simp only [List.map_cons, List.map_nil, List.mem_singleton] at hb
  subst hb
  obtain ⟨c, hc, rfl⟩ := List.mem_map.1 ha
  obtain ⟨j, hj, rfl⟩ := List.mem_iff_getElem.1 hc
  have hj' : j < i := by simp at hj; omega
  rw [List.getElem_take]
  exact fun e => hk j hj' e.symm
theorem build17' (l : List MbG) (hn : l.length ≤ 1000) : Pure Try.prog 17 [mrs l] (· = .tup [if buildE l = 0 then (ofG l).sv else nilX, .i (buildE l)]) := by
  obtain ⟨e, he⟩ : ∃ e, buildE l = e := ⟨_, rfl⟩
  rw [he]
  refine pure_of_GC T_ok Try.func17 rfl (by kernel_rfl) (Nat.le_of_ble_eq_true rfl) rfl rfl ?_
  simp [go_sem]
  by_cases h1 : 256 < l.length
  · have h1' : (256 : Int) < l.length := by omega
    have e4 : e = 4 := by rw [← he, buildE, if_pos h1]
    subst e4
    simp [go_sem, h1, h1']
  have h1' : ¬ (256 : Int) < l.length := by omega
  simp [go_sem, h1, h1']
  refine GLoop_of T_ok (α := Nat) (fun k => [(0, mrs l), (2, .ptr 0 0 9 0), (3, .i 0), (4, .i k)]) (fun k => [some (.box [nilS, nilS, nilS, nilS, nilS, nilS, nilS, nilS, nilS])]) 1
    (fun k => k ≤ l.length ∧ ∀ a ∈ l.take k, okN a.id = true) (fun k => l.length - k) 0 (fun _ => rfl) (by simp) (by simp [go_sem]) (by simp [go_sem]) ?_
  rintro k J ⟨hk, hal⟩
  by_cases hkl : k < l.length
  · have r0 := mrow hkl 0
    simp [go_sem, hkl, r0]
    refine call_val (within53 _ 0 1073741824) rfl rfl ?_
    by_cases hok : okN l[k].id = true
    · have hb : btw 0 1073741824 l[k].id = true := hok
      simp [go_sem, hb]
      refine ⟨by omega, k + 1, ⟨by omega, fun a ha => ?_⟩, by omega, by omega⟩
      rw [List.take_succ_eq_append_getElem hkl] at ha
      rcases List.mem_append.1 ha with ha | ha
      · exact hal a ha
      · rw [List.mem_singleton.1 ha]; exact hok
    · have hb : btw 0 1073741824 l[k].id = false := by have := hok; simp only [Bool.not_eq_true] at this; exact this
      have e2 : e = 2 := by
        rw [← he, buildE, if_neg h1, if_pos]
        exact List.any_eq_true.2 ⟨l[k], List.getElem_mem hkl, by simpa using hok⟩
      subst e2
      simp [go_sem, hb]
  have hke : k = l.length := by omega
  subst hke
  rw [List.take_length] at hal
  have q2 : (l.any fun a => !okN a.id) = false := List.any_eq_false.2 fun a ha => by simp [hal a ha]
  simp [go_sem]
  refine GLoop_of T_ok (α := Nat) (fun k => [(0, mrs l), (2, .ptr 0 0 9 0), (3, .i 0), (5, .i k)]) (fun k => [some (.box [nilS, nilS, nilS, nilS, nilS, nilS, nilS, nilS, nilS])]) 1
    (fun k => k ≤ l.length ∧ ∀ a ∈ l.take k, a.x.ok = true) (fun k => l.length - k) 0 (fun _ => rfl) (by simp) (by simp [go_sem]) (by simp [go_sem]) ?_
  rintro k J ⟨hk, hal3⟩
  by_cases hkl : k < l.length
  · have r1 := mrow hkl 1
    have r2 := mrow hkl 2
    simp [go_sem, hkl, r1, r2]
    refine call_val (valid34 l[k].x.c l[k].x.m) rfl rfl ?_
    by_cases hok : l[k].x.ok = true
    · have hb : vI l[k].x.c l[k].x.m = true := hok
      simp [go_sem, hb]
      refine ⟨by omega, k + 1, ⟨by omega, fun a ha => ?_⟩, by omega, by omega⟩
      rw [List.take_succ_eq_append_getElem hkl] at ha
      rcases List.mem_append.1 ha with ha | ha
      · exact hal3 a ha
      · rw [List.mem_singleton.1 ha]; exact hok
    · have e2 : e = 30 := by
        rw [← he, buildE, if_neg h1, if_neg (by rw [q2]; simp), if_pos]
        exact List.any_eq_true.2 ⟨l[k], List.getElem_mem hkl, by simpa using hok⟩
      subst e2
      have hb : vI l[k].x.c l[k].x.m = false := by simpa [IrG.ok] using hok
      simp [go_sem, hb]
  have hke : k = l.length := by omega
  subst hke
  rw [List.take_length] at hal3
  have hE := buildE_nd (by omega) hal hal3
  simp [go_sem]
  refine GLoop_of T_ok (α := Nat) (fun k => [(0, mrs l), (2, .ptr 0 0 9 0), (3, .i 0), (6, .i k)]) (fun k => [some (.box [nilS, nilS, nilS, nilS, nilS, nilS, nilS, nilS, nilS])]) 1
    (fun k => k ≤ l.length ∧ ((l.take k).map (·.id)).Nodup) (fun k => l.length - k) 0 (fun _ => rfl) (by simp) (by simp [go_sem]) (by simp [go_sem]) ?_
  rintro i J ⟨hi, hnd⟩
  by_cases hil : i < l.length
  · simp [go_sem, hil]
    refine GLoop_of T_ok (α := Nat) (fun k => [(0, mrs l), (2, .ptr 0 0 9 0), (3, .i 0), (6, .i i), (7, .i k)]) (fun k => [some (.box [nilS, nilS, nilS, nilS, nilS, nilS, nilS, nilS, nilS])]) 1
      (fun k => k ≤ i ∧ ∀ j, (hj : j < k) → (h : j < l.length) → ¬ l[i].id = l[j].id) (fun k => i - k) 0 (fun _ => rfl) (by simp) (by simp [go_sem]) (by simp [go_sem]) ?_
    rintro k J ⟨hk, hne⟩
    by_cases hki : k < i
    · have r0 := mrow hil 0
      have q0 := mrow (by omega : k < l.length) 0
      have hkl : k < l.length := by omega
      simp [go_sem, hki, hil, hkl]
      refine GDraw_all T_ok (by kernel_rfl) (by kernel_rfl) ?_
      simp [go_sem, hil, hkl, r0, q0]
      by_cases heq : l[i].id = l[k].id
      · rw [if_pos heq]
        have e2 : e = 41 := by
          rw [← he, hE, if_neg]
          intro hd
          have := List.pairwise_iff_getElem.1 hd k i (by simpa using hkl) (by simpa using hil) hki
          rw [List.getElem_map, List.getElem_map] at this
          exact this heq.symm
        subst e2
        simp
      · rw [if_neg heq]
        refine ⟨by omega, k + 1, ⟨by omega, fun j hj h => ?_⟩, by omega, by omega⟩
        by_cases e : j = k
        · subst e; exact heq
        · exact hne j (by omega) h
    · have hke : k = i := by omega
      subst hke
      simp [go_sem]
      refine ⟨by omega, k + 1, ⟨by omega, ?_⟩, by omega, by omega⟩
      simpa using nd_take hil (by simpa using hnd) fun j hj => hne j hj (by omega)
  have hke : i = l.length := by omega
  subst hke
  rw [List.take_length] at hnd
  have e0 : e = 0 := by rw [← he, hE, if_pos hnd]
  subst e0
  simp [go_sem]
  refine call_val (of54 hn hnd) rfl rfl ?_
  simp [go_sem, IxG.sv]
theorem build17 (l : List MbG) (hn : l.length ≤ 1000) : Pure Try.prog 17 [mrs l] (· = .tup [(buildX l).sv, .i (buildE l)]) := by
  refine pure_le (build17' l hn) (le_tup ⟨?_, SV.le.rfl, trivial⟩)
  unfold buildX
  split
  · exact SV.le.rfl
  · exact nil_zero
end Go.Gx.Ix
set_option linter.unusedVariables false
set_option linter.unusedSimpArgs false
set_option maxRecDepth 20000
set_option maxHeartbeats 4000000
namespace Go.Gx.Ix
open Go.RowKit Go.Proofs Go.Proofs.Ytdnblflhlklfnaa

theorem ixB_pos {p : Nat → Bool} {n : Nat} : 0 ≤ ixB p n ↔ (List.range n).any p = true := by
  unfold ixB
  cases h : (List.range n).find? p with
  | none =>
    have := List.find?_eq_none.1 h
    simp only [List.any_eq_true, List.mem_range]
    constructor
    · intro h; omega
    · rintro ⟨x, hx, hp⟩
      exact absurd hp (this x (List.mem_range.2 hx))
  | some i =>
    have := List.find?_range_eq_some.1 h
    simp only [List.any_eq_true, List.mem_range]
    exact ⟨fun _ => ⟨i, List.mem_range.1 this.2.1, this.1⟩, fun _ => by omega⟩
theorem plI_pos {l : List MbG} {t : Int} : 0 ≤ plI l t ↔ t ∈ l.map (·.id) := by
  unfold plI
  rw [ixB_pos]
  simp only [List.any_eq_true, List.mem_range, decide_eq_true_eq, List.mem_map]
  constructor
  · rintro ⟨i, hi, h⟩
    rw [getElem!_pos l i hi] at h
    exact ⟨l[i], List.getElem_mem hi, h⟩
  · rintro ⟨a, ha, rfl⟩
    obtain ⟨i, hi, rfl⟩ := List.mem_iff_getElem.1 ha
    exact ⟨i, hi, by rw [getElem!_pos l i hi]⟩
theorem nd_snoc {l : List MbG} {m : MbG} (h : (l.map (·.id)).Nodup) (hm : ¬ m.id ∈ l.map (·.id)) : ((l ++ [m]).map (·.id)).Nodup := by
  rw [List.map_append, List.nodup_append]
  refine ⟨h, by simp, fun a ha b hb => ?_⟩
  simp only [List.map_cons, List.map_nil, List.mem_singleton] at hb
  subst hb
  exact fun e => hm (e ▸ ha)
theorem le_joined (l l' : List MbG) (p a b n : Nat) (ha : l.length = a) (hb : l'.length = b) (hn : n = a + b) (g g' : Nat → Nat → SV) (hg : ∀ i j, i < l.length → j < 3 → g i j = .r (mrows l i j)) (hg' : ∀ i j, i < l'.length → j < 3 → g' i j = .r (mrows l' i j)) :
    leL [.r (.rs 3 n fun i j => (SV.kill p (joined a b g g' i j)).toRV)] [mrs (l ++ l')] := by
  subst hn ha hb
  rw [show l.length + l'.length = (l ++ l').length from (List.length_append).symm]
  refine ⟨le_rs fun i j hi hj => ?_, trivial⟩
  rw [List.length_append] at hi
  rw [mrow (by rw [List.length_append]; exact hi)]
  unfold joined
  by_cases h : i < l.length
  · rw [if_pos h, hg i j h hj, mrow h, List.getElem_append_left h]; rfl
  · rw [if_neg h, if_pos (by omega), hg' (i - l.length) j (by omega) hj, mrow (by omega), List.getElem_append_right (by omega)]; rfl
theorem add25' (x : IxG) (h : x.Sm) (m : MbG) : Pure Try.prog 25 [x.sv, m.sv] (· = .tup [if addE x m = 0 then (ofG (x.ms ++ [m])).sv else nilX, .i (addE x m)]) := by
  obtain ⟨e, he⟩ : ∃ e, addE x m = e := ⟨_, rfl⟩
  rw [he]
  obtain ⟨y, hy⟩ : ∃ y, ofG (x.ms ++ [m]) = y := ⟨_, rfl⟩
  rw [hy]
  refine pure_of_GC T_ok Try.func25 rfl (by kernel_rfl) (Nat.le_of_ble_eq_true rfl) rfl rfl ?_
  have hc := valid59 x h
  have hms := h.ms
  simp [go_sem, IxG.sv] at hc ⊢
  refine call_val hc rfl rfl ?_
  cases hv : validX x
  · have e4 : e = 40 := by rw [← he, addE, if_pos hv]
    subst e4
    simp [go_sem, hv]
  obtain ⟨v1, v2, v3⟩ := valid_eq hv
  simp [go_sem, hv]
  refine call_val (within53 m.id 0 1073741824) rfl rfl ?_
  cases ho : okN m.id
  · have hb : btw 0 1073741824 m.id = false := ho
    have e4 : e = 2 := by rw [← he, addE, if_neg (by rw [hv]; simp), if_pos ho]
    subst e4
    simp [go_sem, hb]
  have hb : btw 0 1073741824 m.id = true := ho
  simp [go_sem, hb]
  refine call_val (valid34 m.x.c m.x.m) rfl rfl ?_
  cases hi : m.x.ok
  · have hb : vI m.x.c m.x.m = false := hi
    have e4 : e = 30 := by rw [← he, addE, if_neg (by rw [hv]; simp), if_neg (by rw [ho]; simp), if_pos hi]
    subst e4
    simp [go_sem, hb]
  have hb : vI m.x.c m.x.m = true := hi
  simp [go_sem, hb]
  refine call_val (place41 x.ms (by omega) m.id) rfl rfl ?_
  simp [go_sem]
  have hp := plI_pos (l := x.ms) (t := m.id)
  have hm := isM_iff v2 m.id
  by_cases hin : m.id ∈ x.ms.map (·.id)
  · have e4 : e = 41 := by rw [← he, addE, if_neg (by rw [hv]; simp), if_neg (by rw [ho]; simp), if_neg (by rw [hi]; simp), if_pos (hm.2 hin)]
    subst e4
    rw [if_pos (hp.2 hin)]
    simp [go_sem]
  rw [if_neg (fun q => hin (hp.1 q))]
  have hlen := v1.len
  by_cases hfull : x.ms.length = 256
  · have e4 : e = 9 := by rw [← he, addE, if_neg (by rw [hv]; simp), if_neg (by rw [ho]; simp), if_neg (by rw [hi]; simp), if_neg (fun q => hin (hm.1 q)), if_pos hfull]
    subst e4
    simp [go_sem, hfull]
  have hfull' : ¬ (x.ms.length : Int) = 256 := by omega
  have e4 : e = 0 := by rw [← he, addE, if_neg (by rw [hv]; simp), if_neg (by rw [ho]; simp), if_neg (by rw [hi]; simp), if_neg (fun q => hin (hm.1 q)), if_neg hfull]
  subst e4
  have hof := of54 (l := x.ms ++ [m]) (by simp; omega) (nd_snoc v1.nd hin)
  rw [hy] at hof
  simp [go_sem, hfull']
  refine GDraw_l (t := (.take 1 (.take 2 (.take 4 (.alt 0 [4, 2, 1] (.alt 3 [4, 2, 1] (.alt 5 [4, 1] (.alt 6 [1] (.alt 7 [1] (.alt 8 [1] (.take 9 (.done [9])) .nil) .nil) .nil) .nil) (.alt 5 [4, 2, 1] (.alt 3 [2, 1] (.alt 6 [1] (.alt 7 [1] (.alt 8 [1] (.take 9 (.done [9])) .nil) .nil) .nil) .nil) .nil)) (.alt 5 [4, 2, 1] (.alt 0 [2, 1] (.alt 3 [2, 1] (.alt 6 [1] (.alt 7 [1] (.alt 8 [1] (.take 9 (.done [9])) .nil) .nil) .nil) .nil) .nil) .nil)))))) T_ok (by kernel_rfl) (by kernel_rfl) (by kernel_rfl) (fun _ _ _ _ h => h) ?_
  simp [go_sem, sv_ixC]
  refine ⟨⟨⟨by omega, by omega, callK_freeze 3 (by rfl) ?_⟩, ⟨by omega, by omega, callK_freeze 3 (by rfl) ?_⟩⟩, ⟨by omega, by omega, callK_freeze 4 (by rfl) ?_⟩⟩
  all_goals
    simp [go_sem]
    refine call_val (hof.args ?_) rfl rfl ?_
    · exact le_joined x.ms [m] _ _ _ _ rfl rfl rfl _ _ (fun i j hi hj => by rw [joined0 hi]; rfl) fun i j hi hj => by
        obtain rfl : i = 0 := by simpa using hi
        rcases (show j = 0 ∨ j = 1 ∨ j = 2 by omega) with rfl | rfl | rfl <;> rfl
    simp [go_sem, IxG.sv]
theorem add25 (x : IxG) (h : x.Sm) (m : MbG) : Pure Try.prog 25 [x.sv, m.sv] (· = .tup [(addX x m).sv, .i (addE x m)]) := by
  refine pure_le (add25' x h m) (le_tup ⟨?_, SV.le.rfl, trivial⟩)
  unfold addX
  split
  · exact SV.le.rfl
  · exact nil_zero
theorem mrows_take (l : List MbG) (k : Nat) (hk : k ≤ l.length) (i j : Nat) (hi : i < (l.take k).length) : mrows (l.take k) i j = mrows l i j := by
  have h2 : i < l.length := by rw [List.length_take] at hi; omega
  rw [mrow hi, mrow h2, List.getElem_take]
theorem mrows_drop (l : List MbG) (k : Nat) (i j : Nat) (hi : i < (l.drop k).length) : mrows (l.drop k) i j = mrows l (k + i) j := by
  have h2 : k + i < l.length := by rw [List.length_drop] at hi; omega
  rw [mrow hi, mrow h2, List.getElem_drop]
theorem remove27' (x : IxG) (h : x.Sm) (t : Int) : Pure Try.prog 27 [x.sv, .i t] (· = .tup [if remE x t = 0 then (ofG (remL x.ms t)).sv else nilX, .i (remE x t)]) := by
  obtain ⟨e, he⟩ : ∃ e, remE x t = e := ⟨_, rfl⟩
  rw [he]
  obtain ⟨y, hy⟩ : ∃ y, ofG (remL x.ms t) = y := ⟨_, rfl⟩
  rw [hy]
  refine pure_of_GC T_ok Try.func27 rfl (by kernel_rfl) (Nat.le_of_ble_eq_true rfl) rfl rfl ?_
  have hc := valid59 x h
  have hms := h.ms
  simp [go_sem, IxG.sv] at hc ⊢
  refine call_val hc rfl rfl ?_
  cases hv : validX x
  · have e4 : e = 40 := by rw [← he, remE, if_pos hv]
    subst e4
    simp [go_sem, hv]
  obtain ⟨v1, v2, v3⟩ := valid_eq hv
  simp [go_sem, hv]
  refine call_val (place41 x.ms (by omega) t) rfl rfl ?_
  simp [go_sem]
  have hp := plI_pos (l := x.ms) (t := t)
  have hm := isM_iff v2 t
  by_cases hin : t ∈ x.ms.map (·.id)
  rotate_left
  · have e4 : e = 6 := by rw [← he, remE, if_neg (by rw [hv]; simp), if_pos (by simpa using fun q => hin (hm.1 q))]
    subst e4
    have : plI x.ms t < 0 := by
      rcases Int.lt_or_le (plI x.ms t) 0 with q | q
      · exact q
      · exact absurd (hp.1 q) hin
    rw [if_pos this]
    simp [go_sem]
  have e4 : e = 0 := by rw [← he, remE, if_neg (by rw [hv]; simp), if_neg (by rw [hm.2 hin]; simp)]
  subst e4
  obtain ⟨k, hk, hpk, hck⟩ : ∃ k, k < x.ms.length ∧ plI x.ms t = (k : Nat) ∧ plc x.ms t = k := by
    obtain ⟨a, ha, rfl⟩ := List.mem_map.1 hin
    obtain ⟨i, hi, rfl⟩ := List.mem_iff_getElem.1 ha
    exact ⟨i, hi, plI_at v2 hi, plc_at v2 hi⟩
  rw [hpk, if_neg (by omega)]
  have hnd : ((remL x.ms t).map (·.id)).Nodup := by
    show ((x.ms.take (plc x.ms t) ++ x.ms.drop (plc x.ms t + 1)).map (·.id)).Nodup
    rw [rem_eq v2 hin]
    exact v1.nd.sublist (List.filter_sublist.map _)
  have hln : (remL x.ms t).length = k + (x.ms.length - (k + 1)) := by
    show (x.ms.take (plc x.ms t) ++ x.ms.drop (plc x.ms t + 1)).length = _
    rw [hck, List.length_append, List.length_take, List.length_drop]; omega
  have hof := of54 (l := remL x.ms t) (by omega) hnd
  rw [hy] at hof
  have hk1 : (k : Int) ≤ x.ms.length := by omega
  have hk2 : (k : Int) + 1 ≤ x.ms.length := by omega
  have hk3 : ((k : Int) + 1).toNat = k + 1 := by omega
  have hk4 : (x.ms.length : Int) - (k + 1) = ((x.ms.length - (k + 1) : Nat) : Int) := by omega
  simp [go_sem]
  refine GDraw_l (t := (.take 1 (.take 2 (.take 3 (.take 4 (.take 6 (.take 7 (.take 8 (.take 9 (.take 10 (.alt 0 [10, 9, 8, 7, 6, 4, 3, 2, 1] (.alt 5 [10, 9, 8, 7, 6, 4, 3, 2, 1] (.alt 11 [10, 9, 8, 7, 6, 3, 2, 1] (.alt 12 [9, 8, 7, 6, 3, 2, 1] (.alt 13 [9, 8, 7, 6, 3, 2, 1] (.take 14 (.done [14])) .nil) .nil) .nil) .nil) .nil)))))))))) ) T_ok (by kernel_rfl) (by kernel_rfl) (by kernel_rfl) (fun _ _ _ _ h => h) ?_
  simp [go_sem, sv_ixC, hk1, hk2, hk3, hk4]
  refine ⟨by omega, by omega, by omega, by omega, by omega, by omega, by omega, callK_freeze 2 (by rfl) ?_⟩
  simp [go_sem]
  refine call_val (hof.args ?_) rfl rfl ?_
  · refine le_joined (x.ms.take (plc x.ms t)) (x.ms.drop (plc x.ms t + 1)) _ _ _ _ (by rw [hck, List.length_take]; omega) (by rw [hck, List.length_drop]) rfl _ _ (fun i j hi hj => ?_) fun i j hi hj => ?_
    · have hi' : i < k := by rw [hck, List.length_take] at hi; omega
      rw [joined0 hi', mrows_take _ _ (by omega) _ _ hi]; rfl
    · rw [mrows_drop _ _ _ _ hi, hck]
  simp [go_sem, IxG.sv]
  omega
theorem merge29' (x y : IxG) (h : x.Sm) (h' : y.Sm) : Pure Try.prog 29 [x.sv, y.sv] (· = .tup [if mrgE x y = 0 then (ofG (x.ms ++ y.ms)).sv else nilX, .i (mrgE x y)]) := by
  obtain ⟨e, he⟩ : ∃ e, mrgE x y = e := ⟨_, rfl⟩
  rw [he]
  obtain ⟨z, hz⟩ : ∃ z, ofG (x.ms ++ y.ms) = z := ⟨_, rfl⟩
  rw [hz]
  refine pure_of_GC T_ok Try.func29 rfl (by kernel_rfl) (Nat.le_of_ble_eq_true rfl) rfl rfl ?_
  have hc := valid59 x h
  have hc' := valid59 y h'
  have hms := h.ms
  have hms' := h'.ms
  simp [go_sem, IxG.sv] at hc hc' ⊢
  have nodup : validX x = true → validX y = true → (∀ a ∈ x.ms, ¬ a.id ∈ y.ms.map (·.id)) → ((x.ms ++ y.ms).map (·.id)).Nodup := fun hv hw hn => by
    rw [List.map_append, List.nodup_append]
    refine ⟨(valid_eq hv).1.nd, (valid_eq hw).1.nd, fun a ha b hb e => ?_⟩
    obtain ⟨c, hc, rfl⟩ := List.mem_map.1 ha
    exact hn c hc (e ▸ hb)
  refine call_val hc rfl rfl ?_
  cases hv : validX x
  · have e4 : e = 40 := by rw [← he, mrgE, if_pos (by rw [hv]; simp)]
    subst e4
    simp [go_sem, hv]
  simp [go_sem, hv]
  refine call_val hc' rfl rfl ?_
  cases hw : validX y
  · have e4 : e = 40 := by rw [← he, mrgE, if_pos (by rw [hw]; simp)]
    subst e4
    simp [go_sem, hw]
  have hvw : ¬ (validX x && validX y) = false := by rw [hv, hw]; simp
  obtain ⟨v1, v2, v3⟩ := valid_eq hv
  obtain ⟨w1, w2, w3⟩ := valid_eq hw
  have hlx := v1.len
  have hly := w1.len
  simp [go_sem, hw]
  refine GLoop_of T_ok (α := Nat) (fun k => [(2, .ptr 0 0 9 0), (3, .ptr 1 0 9 0), (4, .ptr 2 0 9 0), (5, .i 0), (6, .i k)])
    (fun k => [some (.box (ixC x)), some (.box (ixC y)), some (.box [nilS, nilS, nilS, nilS, nilS, nilS, nilS, nilS, nilS])]) 3
    (fun k => k ≤ x.ms.length ∧ ∀ a ∈ x.ms.take k, ¬ a.id ∈ y.ms.map (·.id)) (fun k => x.ms.length - k) 0 (fun _ => rfl) (by simp) (by simp [go_sem]) (by simp [go_sem]) ?_
  rintro k J ⟨hk, hal⟩
  by_cases hkl : k < x.ms.length
  · have r0 := mrow hkl 0
    have hts := List.take_succ_eq_append_getElem hkl
    have hmem := List.getElem_mem hkl
    generalize x.ms[k] = a at *
    have hp := plI_pos (l := y.ms) (t := a.id)
    have hm := isM_iff w2 a.id
    simp [go_sem, hkl, sv_ixC]
    refine GDraw_all T_ok (by kernel_rfl) (by kernel_rfl) ?_
    simp [go_sem, hkl, r0]
    refine ⟨_, dcall_val (place41 y.ms (by omega) a.id) rfl rfl, by simp [SV.refs], ?_⟩
    simp [go_sem]
    by_cases hin : a.id ∈ y.ms.map (·.id)
    · have e4 : e = 41 := by rw [← he, mrgE, if_neg hvw, if_pos]; exact List.any_eq_true.2 ⟨a, hmem, hm.2 hin⟩
      subst e4
      rw [if_pos (hp.2 hin)]
      simp [go_sem]
    · rw [if_neg (fun q => hin (hp.1 q))]
      refine ⟨by omega, k + 1, ⟨by omega, fun b hb => ?_⟩, by omega, by omega⟩
      rw [hts] at hb
      rcases List.mem_append.1 hb with hb | hb
      · exact fun c hc e => hal b hb (List.mem_map.2 ⟨c, hc, e⟩)
      · rw [List.mem_singleton.1 hb]; exact fun c hc e => hin (List.mem_map.2 ⟨c, hc, e⟩)
  have hke : k = x.ms.length := by omega
  subst hke
  rw [List.take_length] at hal
  have hany : ¬ (x.ms.any fun a => isM y.ms a.id) = true := fun q => by
    obtain ⟨a, ha, hq⟩ := List.any_eq_true.1 q
    exact hal a ha ((isM_iff w2 a.id).1 hq)
  simp [go_sem]
  by_cases hfull : 256 < x.ms.length + y.ms.length
  · have hfull' : (256 : Int) < x.ms.length + y.ms.length := by omega
    have e4 : e = 9 := by rw [← he, mrgE, if_neg hvw, if_neg hany, if_pos hfull]
    subst e4
    simp [go_sem, hfull']
    try omega
  have hfull' : ¬ (256 : Int) < x.ms.length + y.ms.length := by omega
  have e4 : e = 0 := by rw [← he, mrgE, if_neg hvw, if_neg hany, if_neg hfull]
  subst e4
  have hof := of54 (l := x.ms ++ y.ms) (by rw [List.length_append]; omega) (nodup hv hw hal)
  rw [hz] at hof
  simp [go_sem, hfull']
  refine ⟨by omega, ?_⟩
  refine GDraw_l (t := (.take 1 (.take 2 (.take 4 (.take 5 (.alt 0 [5, 4, 2, 1] (.alt 3 [5, 4, 2, 1] (.alt 6 [5, 4, 1] (.alt 7 [4, 1] (.alt 8 [4, 1] (.take 9 (.done [9])) .nil) .nil) .nil) .nil) .nil)))))) T_ok (by kernel_rfl) (by kernel_rfl) (by kernel_rfl) (fun _ _ _ _ h => h) ?_
  simp [go_sem, sv_ixC]
  refine ⟨by omega, by omega, callK_freeze 3 (by rfl) ?_⟩
  simp [go_sem]
  refine call_val (hof.args ?_) rfl rfl ?_
  · exact le_joined x.ms y.ms _ _ _ _ rfl rfl rfl _ _ (fun i j hi hj => by rw [joined0 hi]; rfl) fun i j hi hj => rfl
  simp [go_sem, IxG.sv]
theorem remove27 (x : IxG) (h : x.Sm) (t : Int) : Pure Try.prog 27 [x.sv, .i t] (· = .tup [(remX x t).sv, .i (remE x t)]) := by
  refine pure_le (remove27' x h t) (le_tup ⟨?_, SV.le.rfl, trivial⟩)
  unfold remX
  split
  · exact SV.le.rfl
  · exact nil_zero
theorem merge29 (x y : IxG) (h : x.Sm) (h' : y.Sm) : Pure Try.prog 29 [x.sv, y.sv] (· = .tup [(mrgX x y).sv, .i (mrgE x y)]) := by
  refine pure_le (merge29' x y h h') (le_tup ⟨?_, SV.le.rfl, trivial⟩)
  unfold mrgX
  split
  · exact SV.le.rfl
  · exact nil_zero
end Go.Gx.Ix
set_option linter.unusedVariables false
set_option linter.unusedSimpArgs false
set_option maxRecDepth 20000
set_option maxHeartbeats 4000000
namespace Go.Gx.Ix
open Go.RowKit Go.Proofs Go.Proofs.Ytdnblflhlklfnaa

theorem ptM_nd {x : List MbG} (h : (x.map (·.id)).Nodup) (S k j : Nat) : ((ptM x S k j).map (·.id)).Nodup :=
  h.sublist ((List.filter_sublist.trans (List.take_sublist _ _)).map _)
theorem split31 (x : IxG) (h : x.Sm) (shards : Int) : Pure Try.prog 31 [x.sv, .i shards] (· = .tup [xls (if spE x shards = 0 then shards.toNat else 0) (fun i => ofG (ptM x.ms shards.toNat x.ms.length i)), .i (spE x shards)]) := by
  obtain ⟨e, he⟩ : ∃ e, spE x shards = e := ⟨_, rfl⟩
  rw [he]
  refine pure_ofLe ?_
  refine pure_of_GC T_ok Try.func31 rfl (by kernel_rfl) (Nat.le_of_ble_eq_true rfl) rfl rfl ?_
  have hc := valid59 x h
  simp [go_sem, sv_ixC] at hc ⊢
  refine call_val hc rfl rfl ?_
  cases hv : validX x
  · have e1 : e = 40 := by rw [← he, spE, if_pos hv]
    subst e1
    simp [go_sem, hv]
    exact nil_xls _ _
  simp [go_sem, hv]
  refine call_val (within53 shards 1 16) rfl rfl ?_
  by_cases hs : btw 1 16 shards = true
  rotate_left
  · have e1 : e = 2 := by
      rw [← he, spE, if_neg (by rw [hv]; simp), if_pos]
      unfold btw at hs
      simp only [Bool.and_eq_true, decide_eq_true_eq] at hs
      omega
    subst e1
    simp [go_sem, hs]
    exact nil_xls _ _
  have hs' : 1 ≤ shards ∧ shards ≤ 16 := by simpa [btw] using hs
  have e1 : e = 0 := by rw [← he, spE, if_neg (by rw [hv]; simp), if_neg (by omega)]
  subst e1
  obtain ⟨S, rfl⟩ : ∃ S : Nat, shards = S := ⟨shards.toNat, by omega⟩
  rw [if_pos rfl, Int.toNat_natCast]
  obtain ⟨v1, v2, v3⟩ := valid_eq hv
  have hlen := v1.len
  have hnd := fun k j => ptM_nd v1.nd S k j
  simp [go_sem, hs]
  refine GLoop_pre (GSt.adopt 6 26 9 (fun i c => .r ((ofG (ptM x.ms S x.ms.length i)).f c)) (by rfl)) ?_
  refine GLoop_fit T_ok (α := Nat) (fun k => [(1, .i S), (2, .ptr 0 0 9 0), (4, nilS), (5, .i 0), (6, .sl 1 9 0 k none), (7, .i k)])
    (fun k => memL [some (.box (ixC x)), some (.vec 26 9 k fun i c => .r ((ofG (ptM x.ms S x.ms.length i)).f c))]) 2 (fun k => k ≤ S) (fun k => S - k) 0 (by omega) (Fit_of_regs (Nat.zero_le _) rfl (by simp [go_sem]) (by simp [go_sem])) ?_
  intro k J hk
  by_cases hkS : k < S
  · simp [go_sem, hkS]
    refine GLoop_pre (GSt.adopt 8 43 3 (fun i c => .r (mrows [] i c)) (by rfl)) ?_
    refine GLoop_fit T_ok (α := Nat) (fun i => [(1, .i S), (2, .ptr 0 0 9 0), (4, nilS), (5, .i 0), (6, .sl 1 9 0 k none), (7, .i k), (8, .sl 2 3 0 (ptM x.ms S i k).length none), (9, .i i)])
      (fun i => memL [some (.box (ixC x)), some (.vec 26 9 k fun i c => .r ((ofG (ptM x.ms S x.ms.length i)).f c)), some (mreg (ptM x.ms S i k))]) 3 (fun i => i ≤ x.ms.length) (fun i => x.ms.length - i) 0 (by simp) (Fit_of_regs (Nat.zero_le _) rfl (by simp [go_sem, ptM_zero]) (by simp [go_sem, ptM_zero])) ?_
    intro i J hi
    by_cases hil : i < x.ms.length
    · have r0 := mrow hil 0
      have r1 := mrow hil 1
      have r2 := mrow hil 2
      have hok := v1.num _ (List.getElem_mem hil)
      have hss := ptM_succ x.ms S k hil
      have hle := ptM_len x.ms S i k
      generalize x.ms[i] = a at *
      generalize ptM x.ms S i k = R at *
      have hid : 0 ≤ a.id ∧ a.id ≤ 1073741824 := by simpa [okN, btw] using hok
      have hS0 : ¬ (S : Int) = 0 := by omega
      have hS0' : ¬ S = 0 := by omega
      simp [go_sem, sv_ixC, hil, r0, r1, r2, hS0, hS0']
      by_cases hj : a.id.tmod S = k
      · rw [if_pos hj] at hss
        simp [go_sem, hj]
        refine ⟨by omega, by omega, i + 1, by omega, by omega, ?_⟩
        refine Fit_of_regs (Nat.zero_le _) rfl (by simp [go_sem, hss]) ?_
        simp [go_sem, hss]
        intro i j hi hj
        rw [mjoin 2 R a _ (fun _ _ _ _ => rfl) i j hi hj]; rfl
      · rw [if_neg hj, List.append_nil] at hss
        simp [go_sem, hj]
        refine ⟨by omega, i + 1, by omega, by omega, ?_⟩
        exact Fit_of_regs (Nat.zero_le _) rfl (by simp [go_sem, hss]) (by simp [go_sem, hss])
    · have hie : i = x.ms.length := by omega
      subst hie
      have hle := ptM_len x.ms S x.ms.length k
      have hof := of54 (l := ptM x.ms S x.ms.length k) (by omega) (hnd _ _)
      simp [go_sem]
      refine callK_freeze 2 (by rfl) ?_
      simp [go_sem]
      refine call_val hof rfl rfl ?_
      simp [go_sem, IxG.sv]
      refine ⟨by omega, by omega, k + 1, by omega, by omega, ?_⟩
      refine Fit_of_regs (Nat.zero_le _) rfl (by simp [go_sem]) ?_
      simp [go_sem]
      intro i j hi hj
      rw [xjoin 1 k _ (fun i => ofG (ptM x.ms S x.ms.length i)) (fun _ _ _ _ => rfl) _ rfl i j hi hj]; rfl
  · have hke : k = S := by omega
    subst hke
    simp [go_sem]
    exact SV.le.rfl
end Go.Gx.Ix
