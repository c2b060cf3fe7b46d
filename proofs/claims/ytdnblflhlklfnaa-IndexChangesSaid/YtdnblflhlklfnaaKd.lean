/-
  Plain: the reference's lists are the program's. The reference's Valid, Check and Twin.
-/
import Derived.Test.YtdnblflhlklfnaaKb
set_option linter.unusedVariables false
set_option linter.unusedSimpArgs false
set_option maxRecDepth 20000
set_option maxHeartbeats 2000000
namespace Go.Gx.Ix
open Go.RowKit Go.Proofs Go.Proofs.Ytdnblflhlklfnaa

theorem insI_snoc {l : List Int} {id : Int} (h : ∀ a ∈ l, a < id) : insI l id = l ++ [id] := by
  have hc : ∀ i, i < l.length → l.getD i 0 - id < 0 := fun i hi => by
    rw [gD hi]
    have := h _ (List.getElem_mem hi)
    omega
  obtain ⟨_, h2⟩ := bnd_split (c := fun i => l.getD i 0 - id) (n := l.length) (fun a b hab hb _ => hc a (by omega))
  have hle : bnd (fun i => l.getD i 0 - id) l.length ≤ l.length := bnd_le
  have he : bnd (fun i => l.getD i 0 - id) l.length = l.length := by
    rcases Nat.lt_or_ge (bnd (fun i => l.getD i 0 - id) l.length) l.length with h3 | h3
    · have h4 := h2 _ (Nat.le_refl _) h3
      have h5 := hc _ h3
      omega
    · omega
  unfold insI
  rw [he, List.take_length, List.drop_length]
/-- The numbers of the members with a chunk. -/
def idC (l : List MbG) (j : Nat) (c m : BitVec 8) : List Int := (l.filter fun a => decide (chk a.x.c j = c) && decide (chk a.x.m j = m)).map (·.id)
theorem idC_snoc (l : List MbG) (j : Nat) (c m : BitVec 8) (b : MbG) : idC (l ++ [b]) j c m = idC l j c m ++ if chk b.x.c j = c ∧ chk b.x.m j = m then [b.id] else [] := by
  unfold idC
  rw [List.filter_append, List.map_append]
  congr 1
  by_cases h1 : chk b.x.c j = c <;> by_cases h2 : chk b.x.m j = m <;> simp [h1, h2]
theorem bef_ne {p q : PsG} (h : bef p q) : ¬ (p.m = q.m ∧ p.c = q.c) := by
  rintro ⟨h1, h2⟩
  unfold bef at h
  rw [h1, h2] at h
  omega
theorem cell_uniq {L : List PsG} (h : L.Pairwise bef) {i i' : Nat} (hi : i < L.length) (hi' : i' < L.length) (h1 : L[i].m = L[i'].m) (h2 : L[i].c = L[i'].c) : i = i' := by
  rcases Nat.lt_trichotomy i i' with h3 | h3 | h3
  · exact absurd ⟨h1, h2⟩ (bef_ne (List.pairwise_iff_getElem.1 h i i' hi hi' h3))
  · exact h3
  · exact absurd ⟨h1.symm, h2.symm⟩ (bef_ne (List.pairwise_iff_getElem.1 h i' i hi' hi h3))
theorem addP_eq {l : List MbG} {j k : Nat} {L : List PsG} (hi : Inv L k) (h : Post l j L) (he : ∀ p ∈ L, p.ids = idC l j p.c p.m) (b : MbG) (hb : ∀ a ∈ l, a.id < b.id) :
    ∀ p ∈ addP L (chk b.x.m j) (chk b.x.c j) b.id, p.ids = idC (l ++ [b]) j p.c p.m := by
  obtain ⟨hinv, hat⟩ := addL_inv hi (chk b.x.m j) (chk b.x.c j)
  have hq := addL_at L (chk b.x.m j) (chk b.x.c j)
  obtain ⟨hm, hc⟩ := hat hq
  have h2 : ∀ p ∈ addL L (chk b.x.m j) (chk b.x.c j), p.ids = idC l j p.c p.m := by
    have hpw := hinv.cells
    unfold addL at hpw ⊢
    split
    · exact he
    · rename_i hp0
      rw [if_neg hp0] at hpw
      intro p hp
      have hnew : idC l j (chk b.x.c j) (chk b.x.m j) = [] := by
        unfold idC
        rw [List.map_eq_nil_iff, List.filter_eq_nil_iff]
        intro a ha hd
        simp only [Bool.and_eq_true, decide_eq_true_eq] at hd
        obtain ⟨q, hq, h1, h3, _⟩ := h.fro a ha
        rw [← List.take_append_drop (pat L (chk b.x.m j) (chk b.x.c j)) L, List.mem_append] at hq
        rw [List.pairwise_append, List.pairwise_cons] at hpw
        rcases hq with hq | hq
        · exact bef_ne (hpw.2.2 q hq _ List.mem_cons_self) ⟨by rw [h3]; exact hd.2, by rw [h1]; exact hd.1⟩
        · exact bef_ne (hpw.2.1.1 q hq) ⟨by rw [h3]; exact hd.2.symm, by rw [h1]; exact hd.1.symm⟩
      rcases List.mem_append.1 hp with hp | hp
      · exact he p (List.mem_of_mem_take hp)
      · rcases List.mem_cons.1 hp with rfl | hp
        · exact hnew.symm
        · exact he p (List.mem_of_mem_drop hp)
  unfold addP
  generalize pat L (chk b.x.m j) (chk b.x.c j) = q at *
  generalize addL L (chk b.x.m j) (chk b.x.c j) = L2 at *
  intro p hp
  obtain ⟨i, hi, rfl⟩ := List.mem_iff_getElem.1 hp
  simp only [List.length_modify] at hi
  rw [List.getElem_modify]
  by_cases e : q = i
  · subst e
    rw [if_pos rfl]
    show insI L2[q].ids b.id = idC (l ++ [b]) j L2[q].c L2[q].m
    have h3 := h2 _ (List.getElem_mem hq)
    rw [insI_snoc, idC_snoc, if_pos ⟨hc.symm, hm.symm⟩, h3]
    intro a ha
    rw [h3] at ha
    obtain ⟨d, hd, rfl⟩ := List.mem_map.1 ha
    exact hb d (List.mem_filter.1 hd).1
  · rw [if_neg e, idC_snoc, if_neg, List.append_nil]
    · exact h2 _ (List.getElem_mem hi)
    · rintro ⟨h4, h5⟩
      exact e (cell_uniq hinv.cells hq hi (by rw [hm]; exact h5) (by rw [hc]; exact h4))
theorem cK_eq {ms : List MbG} (h : SL ms) (j : Nat) : ∀ k, k ≤ ms.length → ∀ p ∈ cK ms k j, p.ids = idC (ms.take k) j p.c p.m
  | 0, _ => by rw [cK0]; simp
  | k + 1, hk => by
    have ih := cK_eq h j k (by omega)
    have hlt : k < ms.length := hk
    rw [cK_succ hlt j, List.take_succ_eq_append_getElem hlt]
    refine addP_eq (cK_inv ms j k (by omega)) (cK_post ms j k (by omega)) ih ms[k] fun a ha => ?_
    have h1 : (ms.take (k + 1)).Pairwise fun a b => a.id < b.id := List.Pairwise.sublist (List.take_sublist _ _) h
    rw [List.take_succ_eq_append_getElem hlt, List.pairwise_append] at h1
    exact h1.2.2 a ha _ (by simp)
theorem addP_ne {L : List PsG} (h : ∀ p ∈ L, p.ids ≠ []) (m c : BitVec 8) (id : Int) : ∀ p ∈ addP L m c id, p.ids ≠ [] := by
  intro p hp
  unfold addP at hp
  obtain ⟨i, hi, rfl⟩ := List.mem_iff_getElem.1 hp
  simp only [List.length_modify] at hi
  rw [List.getElem_modify]
  by_cases e : pat L m c = i
  · rw [if_pos e]
    show insI _ id ≠ []
    unfold insI
    simp
  · rw [if_neg e]
    have hle : pat L m c ≤ L.length := bnd_le
    have hmem : (addL L m c)[i] ∈ L := by
      unfold addL at hi
      rcases Bool.eq_false_or_eq_true (pis L m c) with hp | hp
      · have e2 : addL L m c = L := by unfold addL; rw [if_pos hp]
        simp only [e2]
        exact List.getElem_mem _
      · have e2 : addL L m c = L.take (pat L m c) ++ ⟨c, m, []⟩ :: L.drop (pat L m c) := by unfold addL; rw [if_neg (by rw [hp]; simp)]
        have hl : (L.take (pat L m c)).length = pat L m c := by rw [List.length_take]; omega
        have e3 : (addL L m c)[i]? = if i < pat L m c then (L.take (pat L m c))[i]? else (L.drop (pat L m c))[i - pat L m c - 1]? := by
          rw [e2, List.getElem?_append, hl]
          by_cases h3 : i < pat L m c
          · rw [if_pos h3, if_pos h3]
          · rw [if_neg h3, if_neg h3]
            obtain ⟨d, hd⟩ : ∃ d, i - pat L m c = d + 1 := ⟨i - pat L m c - 1, by omega⟩
            rw [hd, List.getElem?_cons_succ, Nat.add_sub_cancel]
        have e4 : (addL L m c)[i]? = some (addL L m c)[i] := List.getElem?_eq_getElem _
        rw [e3] at e4
        split at e4
        · exact List.mem_of_mem_take (List.mem_of_getElem? e4)
        · exact List.mem_of_mem_drop (List.mem_of_getElem? e4)
    exact h _ hmem
theorem cK_ne (ms : List MbG) (j : Nat) : ∀ k, k ≤ ms.length → ∀ p ∈ cK ms k j, p.ids ≠ []
  | 0, _ => by rw [cK0]; simp
  | k + 1, hk => by
    rw [cK_succ hk j]
    exact addP_ne (cK_ne ms j k (by omega)) _ _ _
theorem bef_trans {p q r : PsG} (h : bef p q) (k : bef q r) : bef p r := by unfold bef at *; omega
theorem bef_irr {p : PsG} (h : bef p p) : False := by unfold bef at h; omega
/-- Two lists in order with the same postings are one. -/
theorem PL_uniq {l l' : List PsG} (h : l.Pairwise bef) (h' : l'.Pairwise bef) (e : ∀ a, a ∈ l ↔ a ∈ l') : l = l' := by
  induction l generalizing l' with
  | nil =>
    cases l' with
    | nil => rfl
    | cons b r => exact absurd ((e b).2 (List.mem_cons_self)) (by simp)
  | cons a r ih =>
    cases l' with
    | nil => exact absurd ((e a).1 (List.mem_cons_self)) (by simp)
    | cons b r' =>
      have h1 := List.pairwise_cons.1 h
      have h2 := List.pairwise_cons.1 h'
      have hab : a = b := by
        rcases List.mem_cons.1 ((e a).1 List.mem_cons_self) with q | q
        · exact q
        rcases List.mem_cons.1 ((e b).2 List.mem_cons_self) with q' | q'
        · exact q'.symm
        exact absurd (bef_trans (h1.1 b q') (h2.1 a q)) bef_irr
      subst hab
      congr 1
      refine ih h1.2 h2.2 fun c => ?_
      constructor
      · intro hc
        rcases List.mem_cons.1 ((e c).1 (List.mem_cons_of_mem _ hc)) with rfl | q
        · exact absurd (h1.1 c hc) bef_irr
        · exact q
      · intro hc
        rcases List.mem_cons.1 ((e c).2 (List.mem_cons_of_mem _ hc)) with rfl | q
        · exact absurd (h2.1 c hc) bef_irr
        · exact q
theorem lsP_c (ms : List MbG) (j p : Nat) : (lsP ms j p).c.toNat = p % 256 := by show (BitVec.ofNat 8 (p % 256)).toNat = _; rw [BitVec.toNat_ofNat]; omega
theorem lsP_m (ms : List MbG) (j p : Nat) (h : p < 65536) : (lsP ms j p).m.toNat = p / 256 := by show (BitVec.ofNat 8 (p / 256)).toNat = _; rw [BitVec.toNat_ofNat]; omega
theorem pcN_lt (a : MbG) (j : Nat) : pcN a j < 65536 := by
  have h1 := (chk a.x.m j).isLt
  have h2 := (chk a.x.c j).isLt
  unfold pcN; omega
theorem pcN_iff (ms : List MbG) (a : MbG) (j p : Nat) (h : p < 65536) : pcN a j = p ↔ chk a.x.c j = (lsP ms j p).c ∧ chk a.x.m j = (lsP ms j p).m := by
  rw [← BitVec.toNat_inj, ← BitVec.toNat_inj, lsP_c, lsP_m _ _ _ h]
  have h1 := (chk a.x.m j).isLt
  have h2 := (chk a.x.c j).isLt
  unfold pcN; omega
theorem lsP_ids (ms : List MbG) (j p : Nat) (h : p < 65536) : (lsP ms j p).ids = idC ms j (lsP ms j p).c (lsP ms j p).m := by
  show (ms.filter fun a => decide (pcN a j = p)).map (·.id) = _
  unfold idC
  congr 1
  refine List.filter_congr fun a _ => ?_
  rw [Bool.eq_iff_iff, decide_eq_true_eq, Bool.and_eq_true, decide_eq_true_eq, decide_eq_true_eq]
  exact pcN_iff ms a j p h
theorem lsR_bef (ms : List MbG) (j : Nat) : (lsR ms j 65536).Pairwise bef := by
  unfold lsR
  rw [List.pairwise_map]
  have h1 : ((List.range 65536).filter (usedB ms j)).Pairwise (· < ·) := List.Pairwise.sublist List.filter_sublist List.pairwise_lt_range
  refine List.Pairwise.imp_of_mem (fun {p q} hp hq hpq => ?_) h1
  have hp := List.mem_range.1 (List.mem_filter.1 hp).1
  have hq := List.mem_range.1 (List.mem_filter.1 hq).1
  unfold bef
  rw [lsP_c, lsP_c, lsP_m _ _ _ hp, lsP_m _ _ _ hq]
  omega
theorem lsR_cK {ms : List MbG} (h : SL ms) (j : Nat) : lsR ms j 65536 = cK ms ms.length j := by
  have hp := cK_post ms j ms.length (Nat.le_refl _)
  have hi := cK_inv ms j ms.length (Nat.le_refl _)
  have he := cK_eq h j ms.length (Nat.le_refl _)
  rw [List.take_length] at hp he
  have psg : ∀ p q : PsG, p.c = q.c → p.m = q.m → p.ids = q.ids → p = q := fun ⟨_, _, _⟩ ⟨_, _, _⟩ h1 h2 h3 => by cases h1; cases h2; cases h3; rfl
  refine PL_uniq (lsR_bef ms j) hi.cells fun q => ?_
  constructor
  · intro hq
    unfold lsR at hq
    obtain ⟨p, hpm, rfl⟩ := List.mem_map.1 hq
    obtain ⟨h1, h2⟩ := List.mem_filter.1 hpm
    have h1 := List.mem_range.1 h1
    obtain ⟨a, ha, h3⟩ := List.any_eq_true.1 h2
    have h3 := (pcN_iff ms a j p h1).1 (by simpa using h3)
    obtain ⟨d, hd, d1, d2, _⟩ := hp.fro a ha
    have hde := he d hd
    have : lsP ms j p = d := psg _ _ (by rw [d1]; exact h3.1.symm) (by rw [d2]; exact h3.2.symm) (by rw [lsP_ids ms j p h1, hde, d1, d2, h3.1, h3.2])
    rw [this]
    exact hd
  · intro hq
    have hne := he q hq
    have hex : ∃ a ∈ ms, chk a.x.c j = q.c ∧ chk a.x.m j = q.m := by
      obtain ⟨a, ha⟩ : ∃ a, a ∈ q.ids := List.exists_mem_of_ne_nil _ (cK_ne ms j ms.length (Nat.le_refl _) q hq)
      obtain ⟨d, hd, _, d1, d2⟩ := hp.to q hq a ha
      exact ⟨d, hd, d1, d2⟩
    obtain ⟨a, ha, a1, a2⟩ := hex
    have hlt := pcN_lt a j
    obtain ⟨b1, b2⟩ := (pcN_iff ms a j (pcN a j) hlt).1 rfl
    have : lsP ms j (pcN a j) = q := psg _ _ (by rw [← b1, a1]) (by rw [← b2, a2]) (by rw [lsP_ids ms j _ hlt, hne, ← b1, ← b2, a1, a2])
    rw [← this]
    unfold lsR
    refine List.mem_map.2 ⟨_, List.mem_filter.2 ⟨List.mem_range.2 hlt, ?_⟩, rfl⟩
    exact List.any_eq_true.2 ⟨a, ha, by simp⟩
theorem of54 {l : List MbG} (hn : l.length ≤ 1000) (hd : (l.map (·.id)).Nodup) : Pure Try.prog 54 [mrs l] (· = (ofG l).sv) := by
  have h := of54' l hn hd
  have e : (ofG l).sv = .agg (mrs (srtM l) :: (List.range 8).map fun j => pls (lsR (srtM l) j 65536)) := by
    have e2 : ∀ j, lsR (srtM l) j 65536 = (ofG l).ch j := fun j => by
      rw [lsR_cK (srt_SL hd) j, srt_len]; rfl
    simp only [e2]
    rfl
  rw [e]
  exact h
end Go.Gx.Ix
set_option linter.unusedVariables false
set_option linter.unusedSimpArgs false
set_option maxRecDepth 20000
set_option maxHeartbeats 4000000
namespace Go.Gx.Ix
open Go.RowKit Go.Proofs Go.Proofs.Ytdnblflhlklfnaa

theorem valid59 (x : IxG) (h : x.Sm) : Pure Try.prog 59 [x.sv] (· = .b (validX x)) := by
  refine pure_of_GC T_ok Try.func59 rfl (by kernel_rfl) (Nat.le_of_ble_eq_true rfl) rfl rfl ?_
  obtain ⟨e, he⟩ : ∃ e, validX x = e := ⟨_, rfl⟩
  have hms := h.ms
  have hv0 : e = true → VL x.ms ∧ SL x.ms := fun h => by
    rw [h] at he
    exact ⟨(valid_eq he).1, (valid_eq he).2.1⟩
  have hv1 : VL x.ms → x.eqB (ofG x.ms) = e := fun h1 => by
    rw [← he, Bool.eq_iff_iff]
    exact ⟨eqB_valid ((buildE_iff _).2 h1), valid_eqB⟩
  have hof := fun h1 : VL x.ms => of54 (l := x.ms) hms h1.nd
  have hsm := same18 x (ofG x.ms) h
  rw [he]
  simp [go_sem, sv_ixC]
  by_cases hl : (x.ms.length : Int) ≤ 256
  rotate_left
  · have e0 : e = false := by
      cases e
      · rfl
      · have := (hv0 rfl).1.len; omega
    subst e0
    simp [go_sem, hl]
    try omega
  rw [if_neg (by omega)]
  refine GLoop_s T_ok (α := Nat) (fun k => [(1, .ptr 0 0 9 0), (3, .i k)]) (fun k => [some (.box (ixC x))]) 1 (fun k => k ≤ x.ms.length ∧ (∀ a ∈ x.ms.take k, okN a.id = true ∧ a.x.ok = true) ∧ SL (x.ms.take k)) (fun k => x.ms.length - k) 0 (fun _ => rfl) ⟨by omega, by simp, by simp [SL]⟩ (by simp [go_sem]) (by simp [go_sem]) ?_
  rintro k J ⟨hk, hal, hsl⟩
  by_cases hkl : k < x.ms.length
  · have r0 := mrow hkl 0
    have r1 := mrow hkl 1
    have r2 := mrow hkl 2
    have hts := List.take_succ_eq_append_getElem hkl
    have hbad : (okN x.ms[k].id = false ∨ x.ms[k].x.ok = false ∨ ∃ b, 0 < k ∧ x.ms[k - 1]? = some b ∧ x.ms[k].id ≤ b.id) → e = false := fun hb => by
      cases e
      · rfl
      · obtain ⟨v1, v2⟩ := hv0 rfl
        have q1 := v1.num _ (List.getElem_mem hkl)
        have q2 := v1.ok _ (List.getElem_mem hkl)
        rcases hb with hb | hb | ⟨b, h0, hb1, hb⟩
        · rw [q1] at hb; cases hb
        · rw [q2] at hb; cases hb
        · have := List.pairwise_iff_getElem.1 v2 (k - 1) k (by omega) hkl (by omega)
          have this : (x.ms[k - 1]'(by omega)).id < x.ms[k].id := this
          rw [List.getElem?_eq_getElem (by omega)] at hb1
          rw [← Option.some.inj hb1] at hb
          omega
    have hgood : okN x.ms[k].id = true → x.ms[k].x.ok = true → (∀ b, 0 < k → x.ms[k - 1]? = some b → b.id < x.ms[k].id) → (∀ a ∈ x.ms.take (k + 1), okN a.id = true ∧ a.x.ok = true) ∧ SL (x.ms.take (k + 1)) := fun q1 q2 q3 => by
      rw [hts]
      refine ⟨fun a ha => ?_, ?_⟩
      · rcases List.mem_append.1 ha with ha | ha
        · exact hal a ha
        · rw [List.mem_singleton.1 ha]; exact ⟨q1, q2⟩
      · unfold SL
        rw [List.pairwise_append]
        refine ⟨hsl, List.pairwise_singleton _ _, fun a ha b hb => ?_⟩
        rw [List.mem_singleton.1 hb]
        obtain ⟨i, hi, rfl⟩ := List.mem_iff_getElem.1 ha
        rw [List.length_take] at hi
        rw [List.getElem_take]
        have h3 := q3 _ (by omega) (List.getElem?_eq_getElem (by omega))
        by_cases hik : i = k - 1
        · subst hik; exact h3
        · have := List.pairwise_iff_getElem.1 hsl i (k - 1) (by rw [List.length_take]; omega) (by rw [List.length_take]; omega) (by omega)
          rw [List.getElem_take, List.getElem_take] at this
          have this : x.ms[i].id < (x.ms[k - 1]'(by omega)).id := this
          omega
    by_cases hk0 : k = 0
    · subst hk0
      generalize x.ms[0] = a at *
      simp [go_sem, hkl, r0, r1, r2]
      refine GDraw_all T_ok (by kernel_rfl) (by kernel_rfl) ?_
      simp [go_sem]
      refine ⟨_, dcall_val (within53 a.id 0 1073741824) rfl rfl, by simp [SV.refs], ?_⟩
      have hok : btw 0 1073741824 a.id = okN a.id := rfl
      rw [hok]
      cases h1 : okN a.id
      · have e0 := hbad (.inl h1)
        subst e0
        simp [go_sem]
      simp [go_sem]
      refine ⟨_, dcall_val (valid34 a.x.c a.x.m) rfl rfl, by simp [SV.refs], ?_⟩
      have hvi : vI a.x.c a.x.m = a.x.ok := rfl
      rw [hvi]
      cases h2 : a.x.ok
      · have e0 := hbad (.inr (.inl h2))
        subst e0
        simp [go_sem]
      simp [go_sem]
      exact ⟨1, ⟨by omega, (hgood h1 h2 (fun b h => absurd h (Nat.lt_irrefl 0))).1, (hgood h1 h2 (fun b h => absurd h (Nat.lt_irrefl 0))).2⟩, by omega, rfl⟩
    · have hk1 : k - 1 < x.ms.length := by omega
      have s0 : mrows x.ms (k - 1) 0 = .i x.ms[k - 1].id := mrow hk1 0
      have hkt : ((k : Int) - 1).toNat = k - 1 := by omega
      have hk0' : 0 < k := by omega
      have hkm : (k : Int) - 1 < x.ms.length := by omega
      have hb? : x.ms[k - 1]? = some x.ms[k - 1] := List.getElem?_eq_getElem hk1
      generalize x.ms[k - 1] = b at *
      generalize x.ms[k] = a at *
      simp [go_sem, hkl, r0, r1, r2]
      refine GDraw_all T_ok (by kernel_rfl) (by kernel_rfl) ?_
      simp [go_sem]
      refine ⟨_, dcall_val (within53 a.id 0 1073741824) rfl rfl, by simp [SV.refs], ?_⟩
      have hok : btw 0 1073741824 a.id = okN a.id := rfl
      rw [hok]
      cases h1 : okN a.id
      · have e0 := hbad (.inl h1)
        subst e0
        simp [go_sem]
      simp [go_sem]
      refine ⟨_, dcall_val (valid34 a.x.c a.x.m) rfl rfl, by simp [SV.refs], ?_⟩
      have hvi : vI a.x.c a.x.m = a.x.ok := rfl
      rw [hvi]
      cases h2 : a.x.ok
      · have e0 := hbad (.inr (.inl h2))
        subst e0
        simp [go_sem]
      simp [go_sem, hkt, hk0', hk0, hkl, hk1, hkm, s0]
      refine ⟨by omega, by omega, ?_⟩
      by_cases hab : a.id ≤ b.id
      · rw [if_pos hab]
        exact hbad (.inr (.inr ⟨b, hk0', hb?, hab⟩))
      · rw [if_neg hab]
        obtain ⟨g1, g2⟩ := hgood h1 h2 fun b' _ hb' => by
          rw [hb?] at hb'
          rw [← Option.some.inj hb']
          omega
        exact ⟨by omega, k + 1, ⟨by omega, g1, g2⟩, by omega, by omega⟩
  · have hke : k = x.ms.length := by omega
    subst hke
    rw [List.take_length] at hal hsl
    have hvl : VL x.ms := ⟨by omega, fun a ha => (hal a ha).1, fun a ha => (hal a ha).2, hsl.nd⟩
    have h1 := hof hvl
    rw [hv1 hvl] at hsm
    generalize ofG x.ms = y at *
    simp [go_sem, sv_ixC] at h1 hsm ⊢
    refine GDraw_l (t := (.take 0 (.take 1 (.take 2 (.alt 3 [2, 1, 0] (.alt 4 [1, 0] (.take 5 (.done [5, 1])) .nil) .nil))))) T_ok (by kernel_rfl) (by kernel_rfl) (by kernel_rfl) (fun _ _ _ _ h => h) ?_
    simp [go_sem, sv_ixC]
    refine call_val h1 rfl rfl ?_
    simp [go_sem, sv_ixC]
    refine call_val hsm rfl rfl ?_
    simp [go_sem]
theorem check20 (x : IxG) (h : x.Sm) : Pure Try.prog 20 [x.sv] (· = .i (checkE x)) := by
  refine pure_of_GC T_ok Try.func20 rfl (by kernel_rfl) (Nat.le_of_ble_eq_true rfl) rfl rfl ?_
  have hv := valid59 x h
  obtain ⟨e, he⟩ : ∃ e, checkE x = e := ⟨_, rfl⟩
  rw [he]
  simp [go_sem, sv_ixC] at hv ⊢
  refine call_val hv rfl rfl ?_
  cases hx : validX x
  · have e1 : e = 40 := by rw [← he, checkE, hx]; rfl
    subst e1
    simp [go_sem]
  · have e1 : e = 0 := by rw [← he, checkE, hx]; rfl
    subst e1
    simp [go_sem]
theorem joined0 {n : Nat} {g r : Nat → Nat → SV} {i j : Nat} (h : i < n) : joined 0 n g r i j = r i j := by
  unfold joined; rw [if_neg (by omega), if_pos (by omega)]; rfl
theorem twin23 (x : IxG) (h : x.Sm) : Pure Try.prog 23 [x.sv] (· = x.sv) := by
  refine pure_of_GC T_ok Try.func23 rfl (by kernel_rfl) (Nat.le_of_ble_eq_true rfl) rfl rfl ?_
  simp [go_sem, sv_ixC]
  have hms := h.ms
  refine ⟨by omega, ?_⟩
  refine GLoop_fit T_ok (α := Nat) (fun j => [(1, .ptr 0 0 9 0), (2, .ptr 1 0 9 0), (3, .i j)]) (fun j => memL [some (.box (ixC x)), some (.box [nilS, nilS, nilS, nilS, nilS, nilS, nilS, nilS, nilS])]) 2 (fun j => j ≤ 8) (fun j => 8 - j) 0 (by simp) ?_ ?_
  · refine Fit.vw (GSt.freeze 2 (by rfl)) (Fit_of_regs (Nat.zero_le _) rfl (by simp [go_sem]) ?_)
    simp [go_sem]
    intro i j hi hj
    rw [joined0 hi]; rfl
  intro j J hj
  by_cases hjl : j < 8
  · have hjl' : (j : Int) < 8 := by omega
    have hix := ixC_at x hjl
    obtain ⟨hL1, hL2⟩ := h.ch j hjl
    obtain ⟨L, hL⟩ : ∃ L, x.ch j = L := ⟨_, rfl⟩
    rw [hL] at hix hL1 hL2
    simp [go_sem, hjl, hjl', hix]
    refine ⟨by omega, by omega, ?_⟩
    refine GLoop_fit T_ok (α := Nat) (fun k => [(1, .ptr 0 0 9 0), (2, .ptr 1 0 9 0), (3, .i j), (4, .sl 2 3 0 L.length none), (5, .i k)]) (fun k => memL [some (.box (ixC x)), some (.box [nilS, nilS, nilS, nilS, nilS, nilS, nilS, nilS, nilS]), some (preg L)]) 3 (fun k => k ≤ L.length) (fun k => L.length - k) 0 (by simp) (Fit_of_regs (Nat.zero_le _) rfl (by simp [go_sem]) ?_) ?_
    · simp [go_sem]
      intro i j hi hj
      rw [joined0 hi]; rfl
    intro k J hk
    by_cases hkl : k < L.length
    · have q0 := prow hkl 0
      have q1 := prow hkl 1
      have q2 := prow hkl 2
      have hpi := hL2 L[k] (List.getElem_mem hkl)
      generalize L[k] = P at *
      simp [go_sem, hkl, q0, q1, q2]
      refine ⟨by omega, by omega, k + 1, by omega, by omega, Fit.vw (GSt.freeze 3 (by rfl)) (Fit_of_regs (Nat.zero_le _) rfl (by simp [go_sem]) ?_)⟩
      simp [go_sem]
      intro i c hi hc
      by_cases hik : i = k ∧ 2 ≤ c ∧ c < 3
      · obtain ⟨rfl, h2, h3⟩ := hik
        obtain rfl : c = 2 := by omega
        rw [if_pos ⟨rfl, h2, h3⟩, q2]
        have he : (fun i j => (SV.kill 3 (joined 0 P.ids.length (fun i j => SV.r RV.any) (fun i j => SV.r (irows P.ids i j)) (0 + i) j)).toRV) = irows P.ids := by
          funext i j
          rw [Nat.zero_add]
          by_cases hi : i < P.ids.length
          · rw [joined0 hi]; rfl
          · unfold joined irows rowsL
            rw [if_neg (by omega), if_neg (by omega), List.getElem?_eq_none (by omega)]; rfl
        simp only [Nat.zero_add] at he
        simp [SV.fz, SV.trim]
        rw [he]; rfl
      · rw [if_neg hik]; rfl
    · have hke : k = L.length := by omega
      subst hke
      simp [go_sem]
      refine ⟨by omega, by omega, by omega, j + 1, by omega, by omega, Fit.vw (GSt.freeze 2 (by rfl)) (Fit_of_regs (Nat.zero_le _) rfl (by simp [go_sem]) ?_)⟩
      rcases (show j = 0 ∨ j = 1 ∨ j = 2 ∨ j = 3 ∨ j = 4 ∨ j = 5 ∨ j = 6 ∨ j = 7 by omega) with rfl | rfl | rfl | rfl | rfl | rfl | rfl | rfl <;> simp [go_sem, hL]
  · have hj8 : j = 8 := by omega
    subst hj8
    simp [go_sem]
end Go.Gx.Ix
