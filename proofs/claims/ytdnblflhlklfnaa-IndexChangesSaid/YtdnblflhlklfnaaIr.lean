/-
  Plainly: indexes of members; what stands in the postings; what a search sees and finds.
-/
import Derived.Test.YtdnblflhlklfnaaIq
set_option linter.unusedVariables false
set_option linter.unusedSimpArgs false
set_option maxRecDepth 20000
set_option maxHeartbeats 4000000
namespace Go.Gx.Ix
open Go.RowKit Go.Proofs Go.Proofs.Ytdnblflhlklfnaa

/-- Members in order, without twins. -/
def SL (l : List MbG) : Prop := l.Pairwise fun a b => a.id < b.id
/-- Members of which an index can be built. -/
structure VL (l : List MbG) : Prop where
  len : l.length ≤ 256
  num : ∀ a ∈ l, okN a.id = true
  ok : ∀ a ∈ l, a.x.ok = true
  nd : (l.map (·.id)).Nodup
theorem VL.perm {l l' : List MbG} (h : VL l) (p : l.Perm l') : VL l' :=
  ⟨by rw [← p.length_eq]; exact h.len, fun a ha => h.num a (p.mem_iff.2 ha), fun a ha => h.ok a (p.mem_iff.2 ha), (p.map _).nodup_iff.1 h.nd⟩
theorem VL.sub {l l' : List MbG} (h : VL l) (p : l'.Sublist l) : VL l' :=
  ⟨Nat.le_trans p.length_le h.len, fun a ha => h.num a (p.subset ha), fun a ha => h.ok a (p.subset ha), (p.map _).nodup h.nd⟩
theorem SL.nd {l : List MbG} (h : SL l) : (l.map (·.id)).Nodup := by
  unfold List.Nodup
  rw [List.pairwise_map]
  exact h.imp fun h => Int.ne_of_lt h
theorem srt_SL {l : List MbG} (h : (l.map (·.id)).Nodup) : SL (srtM l) := by
  obtain ⟨p, _, s⟩ := srtM_spec l
  have h2 := (p.map (·.id)).nodup_iff.2 h
  unfold List.Nodup at h2
  rw [List.pairwise_map, List.pairwise_iff_getElem] at h2
  unfold SL
  rw [List.pairwise_iff_getElem]
  intro i j hi hj hij
  have h3 := s i j hij hj hi
  have h4 := h2 i j hi hj hij
  omega
theorem SL_dup {l : List MbG} (h : SL l) : dupM l = false := by
  unfold dupM
  rw [List.any_eq_false]
  intro i hi
  have hi := List.mem_range.1 hi
  simp only [Bool.and_eq_true, decide_eq_true_eq, not_and]
  intro h1 h2
  have h3 := List.pairwise_iff_getElem.1 h (i - 1) i (by omega) hi (by omega)
  rw [getElem!_pos l i hi, getElem!_pos l (i - 1) (by omega)] at h2
  omega
theorem dup_SL {l : List MbG} (s : ∀ i j, i < j → (hj : j < l.length) → ∀ hi : i < l.length, l[i].id ≤ l[j].id) (h : dupM l = false) : SL l := by
  unfold SL
  rw [List.pairwise_iff_getElem]
  intro i j hi hj hij
  unfold dupM at h
  rw [List.any_eq_false] at h
  have h1 := h (i + 1) (List.mem_range.2 (by omega))
  simp only [Bool.and_eq_true, decide_eq_true_eq, not_and] at h1
  have h1 := h1 (by omega)
  rw [getElem!_pos l (i + 1) (by omega), getElem!_pos l (i + 1 - 1) (by omega)] at h1
  have h2 := s i (i + 1) (by omega) (by omega) hi
  have h3 : l[i + 1 - 1].id = l[i].id := by simp
  by_cases e : i + 1 = j
  · subst e; omega
  · have h4 := s (i + 1) j (by omega) hj (by omega)
    omega
theorem buildE_iff (l : List MbG) : buildE l = 0 ↔ VL l := by
  unfold buildE
  by_cases h1 : 256 < l.length
  · rw [if_pos h1]
    exact ⟨fun h => (by cases h), fun h => absurd h.len (by omega)⟩
  rw [if_neg h1]
  by_cases h2 : l.any (fun a => !okN a.id) = true
  · rw [if_pos h2]
    refine ⟨fun h => (by cases h), fun h => ?_⟩
    obtain ⟨a, ha, h3⟩ := List.any_eq_true.1 h2
    rw [h.num a ha] at h3; cases h3
  rw [if_neg h2]
  by_cases h3 : l.any (fun a => !a.x.ok) = true
  · rw [if_pos h3]
    refine ⟨fun h => (by cases h), fun h => ?_⟩
    obtain ⟨a, ha, h3⟩ := List.any_eq_true.1 h3
    rw [h.ok a ha] at h3; cases h3
  rw [if_neg h3]
  by_cases h4 : dupM (srtM l) = true
  · rw [if_pos h4]
    refine ⟨fun h => (by cases h), fun h => ?_⟩
    rw [SL_dup (srt_SL h.nd)] at h4; cases h4
  rw [if_neg h4]
  refine ⟨fun _ => ⟨by omega, fun a ha => ?_, fun a ha => ?_, ?_⟩, fun _ => rfl⟩
  · have h2' : l.any (fun a => !okN a.id) = false := by simpa using h2
    have := List.any_eq_false.1 h2' a ha
    simpa using this
  · have h2' : l.any (fun a => !a.x.ok) = false := by simpa using h3
    have := List.any_eq_false.1 h2' a ha
    simpa using this
  · have h5 : dupM (srtM l) = false := by simpa using h4
    obtain ⟨p, _, s⟩ := srtM_spec l
    exact (p.map (·.id)).nodup_iff.1 (dup_SL s h5).nd
/-- Two lists in order with the same members are one. -/
theorem SL_uniq {l l' : List MbG} (h : SL l) (h' : SL l') (e : ∀ a, a ∈ l ↔ a ∈ l') : l = l' := by
  induction l generalizing l' with
  | nil =>
    cases l' with
    | nil => rfl
    | cons b r => exact absurd ((e b).2 (List.mem_cons_self)) (by simp)
  | cons a r ih =>
    cases l' with
    | nil => exact absurd ((e a).1 (List.mem_cons_self)) (by simp)
    | cons b r' =>
      have h1 := List.pairwise_cons.1 h
      have h2 := List.pairwise_cons.1 h'
      have hab : a = b := by
        rcases List.mem_cons.1 ((e a).1 List.mem_cons_self) with q | q
        · exact q
        rcases List.mem_cons.1 ((e b).2 List.mem_cons_self) with q2 | q2
        · exact q2.symm
        have := h1.1 b q2
        have := h2.1 a q
        omega
      subst hab
      have : r = r' := ih h1.2 h2.2 fun c => by
        constructor
        · intro hc
          rcases List.mem_cons.1 ((e c).1 (List.mem_cons_of_mem _ hc)) with q | q
          · subst q; have := h1.1 c hc; omega
          · exact q
        · intro hc
          rcases List.mem_cons.1 ((e c).2 (List.mem_cons_of_mem _ hc)) with q | q
          · subst q; have := h2.1 c hc; omega
          · exact q
      rw [this]
theorem srt_mem (l : List MbG) (a : MbG) : a ∈ srtM l ↔ a ∈ l := (srtM_spec l).1.mem_iff
theorem srt_len (l : List MbG) : (srtM l).length = l.length := (srtM_spec l).2.1
theorem srt_eq {l l' : List MbG} (h : (l.map (·.id)).Nodup) (h' : (l'.map (·.id)).Nodup) (e : ∀ a, a ∈ l ↔ a ∈ l') : srtM l = srtM l' :=
  SL_uniq (srt_SL h) (srt_SL h') fun a => by rw [srt_mem, srt_mem, e]
theorem srt_id {l : List MbG} (h : SL l) : srtM l = l := SL_uniq (srt_SL h.nd) h fun a => srt_mem l a
theorem ofG_eq {l l' : List MbG} (h : (l.map (·.id)).Nodup) (h' : (l'.map (·.id)).Nodup) (e : ∀ a, a ∈ l ↔ a ∈ l') : ofG l = ofG l' := by
  have hs := srt_eq h h' e
  have hl : l.length = l'.length := by rw [← srt_len l, ← srt_len l', hs]
  unfold ofG; rw [hs, hl]
theorem ofG_srt {l : List MbG} (h : (l.map (·.id)).Nodup) : ofG (srtM l) = ofG l := ofG_eq (srt_SL h).nd h (srt_mem l)
theorem VL.srt {l : List MbG} (h : VL l) : VL (srtM l) := h.perm (srtM_spec l).1.symm
theorem ofG_ms {l : List MbG} (h : SL l) : (ofG l).ms = l := srt_id h
/-- Where members are. -/
theorem bnd_at {l : List MbG} (h : SL l) (t : Int) : (∀ j, j < plc l t → ∀ hj : j < l.length, l[j].id < t) ∧ plc l t ≤ l.length ∧ ∀ j, plc l t ≤ j → ∀ hj : j < l.length, t ≤ l[j].id := by
  have key : ∃ i, i ≤ l.length ∧ (∀ j, j < i → ∀ hj : j < l.length, l[j].id < t) ∧ ∀ j, i ≤ j → ∀ hj : j < l.length, t ≤ l[j].id := by
    induction l with
    | nil => exact ⟨0, Nat.le_refl _, fun j hj => absurd hj (by omega), fun j _ hj => absurd hj (by simp)⟩
    | cons a r ih =>
      have h1 := List.pairwise_cons.1 h
      by_cases ha : a.id < t
      · obtain ⟨i, i1, i2, i3⟩ := ih h1.2
        refine ⟨i + 1, by simp; omega, fun j hj hjl => ?_, fun j hj hjl => ?_⟩
        · cases j with
          | zero => exact ha
          | succ j => exact i2 j (by omega) (by simpa using hjl)
        · cases j with
          | zero => omega
          | succ j => exact i3 j (by omega) (by simpa using hjl)
      · refine ⟨0, by simp, fun j hj => absurd hj (by omega), fun j _ hjl => ?_⟩
        cases j with
        | zero => show t ≤ a.id; omega
        | succ j =>
          have hjl' : j < r.length := by simpa using hjl
          have := h1.1 r[j] (List.getElem_mem hjl')
          show t ≤ r[j].id
          omega
  obtain ⟨i, h1, h2, h3⟩ := key
  have e : plc l t = i := by
    unfold plc
    refine bnd_eq h1 (fun j hj => ?_) fun j hj hjl => ?_
    · rw [getElem!_pos l j (by omega)]
      have := h2 j hj (by omega)
      unfold cmpI; rw [if_pos this]; decide
    · rw [getElem!_pos l j hjl]
      have := h3 j hj hjl
      unfold cmpI
      repeat' split
      all_goals omega
  rw [e]; exact ⟨h2, h1, h3⟩
theorem plc_at {l : List MbG} (h : SL l) {i : Nat} (hi : i < l.length) : plc l l[i].id = i := by
  obtain ⟨h1, h2, h3⟩ := bnd_at h l[i].id
  have hp := List.pairwise_iff_getElem.1 h
  rcases Nat.lt_trichotomy (plc l l[i].id) i with q | q | q
  · have := h3 _ (Nat.le_refl _) (by omega)
    have := hp _ i (by omega) hi q
    omega
  · exact q
  · have := h1 i q hi; omega
theorem isM_iff {l : List MbG} (h : SL l) (t : Int) : isM l t = true ↔ t ∈ l.map (·.id) := by
  rw [List.mem_map]
  constructor
  · intro hm
    have hlt := isM_lt hm
    refine ⟨l[plc l t], List.getElem_mem hlt, ?_⟩
    unfold isM fnd at hm
    simp only [Bool.and_eq_true, decide_eq_true_eq] at hm
    have h2 := hm.2
    have e : bnd (fun i => cmpI (l[i]!).id t) l.length = plc l t := rfl
    rw [e] at h2
    rw [getElem!_pos l (plc l t) hlt] at h2
    unfold cmpI at h2
    repeat' split at h2
    all_goals omega
  · rintro ⟨a, ha, rfl⟩
    obtain ⟨i, hi, rfl⟩ := List.mem_iff_getElem.1 ha
    unfold isM fnd
    have e : bnd (fun j => cmpI (l[j]!).id l[i].id) l.length = i := plc_at h hi
    rw [e]
    simp only [getElem!_pos l i hi, hi]
    unfold cmpI; simp
theorem id_inj {l : List MbG} (h : (l.map (·.id)).Nodup) {a b : MbG} (ha : a ∈ l) (hb : b ∈ l) (e : a.id = b.id) : a = b := by
  unfold List.Nodup at h
  rw [List.pairwise_map, List.pairwise_iff_getElem] at h
  obtain ⟨i, hi, rfl⟩ := List.mem_iff_getElem.1 ha
  obtain ⟨j, hj, rfl⟩ := List.mem_iff_getElem.1 hb
  rcases Nat.lt_trichotomy i j with q | q | q
  · exact absurd e (h i j hi hj q)
  · subst q; rfl
  · exact absurd e.symm (h j i hj hi q)
/-- Which numbers stand in which postings. -/
structure Post (l : List MbG) (j : Nat) (L : List PsG) : Prop where
  to : ∀ p ∈ L, ∀ a ∈ p.ids, ∃ b ∈ l, b.id = a ∧ chk b.x.c j = p.c ∧ chk b.x.m j = p.m
  fro : ∀ b ∈ l, ∃ p ∈ L, p.c = chk b.x.c j ∧ p.m = chk b.x.m j ∧ b.id ∈ p.ids
  sum : (L.map (·.ids.length)).sum = l.length
theorem sum_modify {α : Type} (g : α → Nat) (f : α → α) : ∀ (L : List α) (q : Nat) (hq : q < L.length), g (f L[q]) = g L[q] + 1 → ((L.modify q f).map g).sum = (L.map g).sum + 1
  | [], q, hq, _ => absurd hq (by simp)
  | a :: r, 0, hq, h => by simp at h ⊢; omega
  | a :: r, q + 1, hq, h => by
    have := sum_modify g f r q (by simpa using hq) (by simpa using h)
    simp; omega
theorem addP_post {l : List MbG} {j k : Nat} {L : List PsG} (hi : Inv L k) (h : Post l j L) (b : MbG) : Post (l ++ [b]) j (addP L (chk b.x.m j) (chk b.x.c j) b.id) := by
  obtain ⟨hinv, hat⟩ := addL_inv hi (chk b.x.m j) (chk b.x.c j)
  have hq := addL_at L (chk b.x.m j) (chk b.x.c j)
  obtain ⟨hm, hc⟩ := hat hq
  have h2 : Post l j (addL L (chk b.x.m j) (chk b.x.c j)) := by
    unfold addL
    split
    · exact h
    · refine ⟨fun p hp a ha => ?_, fun b hb => ?_, ?_⟩
      · rcases List.mem_append.1 hp with q | q
        · exact h.to p (List.mem_of_mem_take q) a ha
        · rcases List.mem_cons.1 q with rfl | q
          · simp at ha
          · exact h.to p (List.mem_of_mem_drop q) a ha
      · obtain ⟨p, hp, h1⟩ := h.fro b hb
        refine ⟨p, ?_, h1⟩
        rw [← List.take_append_drop (pat L (chk _ j) (chk _ j)) L, List.mem_append] at hp
        rw [List.mem_append]
        exact hp.imp id fun q => List.mem_cons_of_mem _ q
      · rw [List.map_append, List.sum_append, List.map_cons, List.sum_cons]
        have := h.sum
        rw [← List.take_append_drop (pat L (chk b.x.m j) (chk b.x.c j)) L, List.map_append, List.sum_append] at this
        simp only [List.length_nil] at this ⊢
        omega
  unfold addP
  generalize pat L (chk b.x.m j) (chk b.x.c j) = q at *
  generalize addL L (chk b.x.m j) (chk b.x.c j) = L2 at *
  have hids := insI_sorted (hinv.ids L2[q] (List.getElem_mem hq)).2 b.id
  refine ⟨fun p hp a ha => ?_, fun d hd => ?_, ?_⟩
  · obtain ⟨i, hi, rfl⟩ := List.mem_iff_getElem.1 hp
    simp only [List.length_modify] at hi
    rw [List.getElem_modify] at ha ⊢
    split at ha
    · rename_i e
      subst e
      rw [if_pos rfl]
      rcases List.mem_cons.1 (hids.2.2.mem_iff.1 ha) with rfl | ha
      · exact ⟨b, by simp, rfl, hc.symm, hm.symm⟩
      · obtain ⟨d, h1, h3⟩ := h2.to _ (List.getElem_mem hq) a ha
        exact ⟨d, by simp [h1], h3⟩
    · rename_i e
      rw [if_neg e]
      obtain ⟨d, h1, h3⟩ := h2.to _ (List.getElem_mem hi) a ha
      exact ⟨d, by simp [h1], h3⟩
  · have hql : q < (L2.modify q fun p => { p with ids := insI p.ids b.id }).length := by simpa using hq
    have hqe : (L2.modify q fun p => { p with ids := insI p.ids b.id })[q] = { L2[q] with ids := insI L2[q].ids b.id } := by rw [List.getElem_modify, if_pos rfl]
    rcases List.mem_append.1 hd with hd | hd
    · obtain ⟨p, hp, h3, h4, h5⟩ := h2.fro d hd
      obtain ⟨i, hi, rfl⟩ := List.mem_iff_getElem.1 hp
      by_cases e : i = q
      · subst e
        refine ⟨_, List.getElem_mem hql, ?_⟩
        rw [hqe]
        exact ⟨h3, h4, hids.2.2.mem_iff.2 (List.mem_cons_of_mem _ h5)⟩
      · have hil : i < (L2.modify q fun p => { p with ids := insI p.ids b.id }).length := by simpa using hi
        refine ⟨_, List.getElem_mem hil, ?_⟩
        rw [List.getElem_modify, if_neg (fun h => e h.symm)]
        exact ⟨h3, h4, h5⟩
    · simp at hd; subst hd
      refine ⟨_, List.getElem_mem hql, ?_⟩
      rw [hqe]
      exact ⟨hc, hm, hids.2.2.mem_iff.2 List.mem_cons_self⟩
  · rw [sum_modify (fun p : PsG => p.ids.length) (fun p => { p with ids := insI p.ids b.id }) L2 q hq hids.2.1, h2.sum]; simp
theorem cK_post (ms : List MbG) (j : Nat) : ∀ k, k ≤ ms.length → Post (ms.take k) j (cK ms k j)
  | 0, _ => ⟨fun p hp => (by cases hp), fun b hb => (by simp at hb), rfl⟩
  | k + 1, h => by
    rw [cK_succ (by omega : k < ms.length), List.take_succ_eq_append_getElem (by omega : k < ms.length)]
    exact addP_post (cK_inv ms j k (by omega)) (cK_post ms j k (by omega)) _
theorem ofG_post (l : List MbG) (j : Nat) : Post (srtM l) j ((ofG l).ch j) := by
  have h := cK_post (srtM l) j l.length (by rw [srt_len]; exact Nat.le_refl _)
  rw [← srt_len l, List.take_length] at h
  show Post _ _ (cK (srtM l) l.length j)
  rw [← srt_len l]; exact h
theorem ofG_sm {l : List MbG} (h : l.length ≤ 1000) : (ofG l).Sm := by
  refine ⟨by show (srtM l).length ≤ 1000; rw [srt_len]; exact h, fun j _ => ?_⟩
  have hi := cK_inv (srtM l) j l.length (by rw [srt_len]; exact Nat.le_refl _)
  exact ⟨Nat.le_trans hi.len (by omega), fun p hp => Nat.le_trans (hi.ids p hp).1 (by omega)⟩
theorem ofG_valid {l : List MbG} (h : VL l) : validX (ofG l) = true := by
  unfold validX
  have e : (ofG l).ms = srtM l := rfl
  have h2 : ofG (srtM l) = ofG l := ofG_srt h.nd
  rw [e, h2, (buildE_iff _).2 h.srt, e]
  simp
theorem ofG_valS {l : List MbG} (h : VL l) : ValS (ofG l) := by
  refine ⟨ofG_valid h, (srt_SL h.nd).nd, fun j _ p hp a ha => ?_, fun a ha => h.srt.ok a ha, ofG_sm (by have := h.len; omega)⟩
  obtain ⟨b, hb, h1, _⟩ := (ofG_post l j).to p hp a ha
  obtain ⟨i, hi, rfl⟩ := List.mem_iff_getElem.1 hb
  exact ⟨i, hi, h1, by rw [← h1]; exact plc_at (srt_SL h.nd) hi⟩
theorem valid_eq {x : IxG} (h : validX x = true) : VL x.ms ∧ SL x.ms ∧ ∀ j, j < 8 → x.ch j = (ofG x.ms).ch j := by
  unfold validX at h
  simp only [Bool.and_eq_true, decide_eq_true_eq, List.all_eq_true, List.mem_range] at h
  obtain ⟨⟨h1, h2⟩, h3⟩ := h
  have hv := (buildE_iff _).1 h1
  refine ⟨hv, ?_, h3⟩
  rw [h2]; exact srt_SL hv.nd
/-- What is seen and what is found, plainly. -/
def fndM (l : List MbG) (b : IrG) (n num den : Nat) : List Int := (l.filter fun a => matB a.x b n num den).map (·.id)
def snM (l : List MbG) (b : IrG) (n num den : Nat) : Nat := ((List.range (2 * n + 1)).map fun i => (l.filter fun a => nearB (radS b num den) a.x (bkS b n i)).length).sum
theorem seen_near {l : List MbG} (h : VL l) (rad : Nat) (bk : IrG) {a : MbG} (ha : a ∈ srtM l) : seenI (ofG l) rad bk a.id = nearB rad a.x bk := by
  rw [Bool.eq_iff_iff]
  unfold seenI nearB
  rw [List.any_eq_true, List.any_eq_true]
  constructor
  · rintro ⟨j, hj, h1⟩
    obtain ⟨p, hp, h2⟩ := List.any_eq_true.1 h1
    rw [Bool.and_eq_true] at h2
    obtain ⟨b, hb, h3, h4, h5⟩ := (ofG_post l j).to p hp a.id (by simpa using h2.2)
    have e := id_inj h.srt.nd hb ha h3
    subst e
    refine ⟨j, hj, ?_⟩
    rw [h4, h5]; exact h2.1
  · rintro ⟨j, hj, h1⟩
    obtain ⟨p, hp, h3, h4, h5⟩ := (ofG_post l j).fro a ha
    refine ⟨j, hj, List.any_eq_true.2 ⟨p, hp, ?_⟩⟩
    rw [Bool.and_eq_true]
    refine ⟨?_, by simpa using h5⟩
    unfold farB farN
    rw [h3, h4]; exact h1
theorem mtI_eq {l : List MbG} (h : VL l) (num den : Nat) (bk : IrG) {a : MbG} (ha : a ∈ srtM l) : mtI (ofG l) num den bk a.id = mt1 a.x bk num den := by
  obtain ⟨i, hi, rfl⟩ := List.mem_iff_getElem.1 ha
  unfold mtI mt1
  have e : (ofG l).ms = srtM l := rfl
  rw [e, plc_at (srt_SL h.nd) hi, getElem!_pos _ i hi]
  have hc : (((srtM l)[i].x.n bk 0 : Int) * den ≤ num * (srtM l)[i].x.d bk 0) ↔ (srtM l)[i].x.n bk 0 * den ≤ num * (srtM l)[i].x.d bk 0 := by
    rw [← Int.natCast_mul, ← Int.natCast_mul, Int.ofNat_le]
  simp only [hc]
theorem found_eq {l : List MbG} (h : VL l) (b : IrG) (n num den : Nat) (hden : 0 < den) : foundL (ofG l) b n num den = fndM (srtM l) b n num den := by
  unfold foundL fndM
  have e : (ofG l).ms = srtM l := rfl
  rw [e, List.filter_map]
  congr 1
  refine List.filter_congr fun a ha => ?_
  show hitI (ofG l) b n num den (radS b num den) (2 * n + 1) a.id = _
  rw [mat_any]
  unfold hitI
  refine Bool.eq_iff_iff.2 ?_
  rw [List.any_eq_true, List.any_eq_true]
  have key : ∀ i, (seenI (ofG l) (radS b num den) (bkS b n i) a.id && mtI (ofG l) num den (bkS b n i) a.id) = mt1 a.x (bkS b n i) num den := fun i => by
    rw [seen_near h _ _ ha, mtI_eq h _ _ _ ha]
    cases hm : mt1 a.x (bkS b n i) num den
    · simp
    · rw [show bkS b n i = b.tn ((n : Int) - i) from rfl] at hm ⊢
      rw [near_of _ _ _ _ hden _ hm]; rfl
  simp only [key]
theorem seenN_eq {l : List MbG} (h : VL l) (b : IrG) (n num den : Nat) : seenN (ofG l) b n num den (2 * n + 1) = snM (srtM l) b n num den := by
  unfold seenN snM
  congr 1
  refine List.map_congr_left fun i _ => ?_
  unfold seenL
  have e : (ofG l).ms = srtM l := rfl
  rw [e, List.filter_map, List.length_map]
  congr 1
  refine List.filter_congr fun a ha => ?_
  exact seen_near h _ _ ha
end Go.Gx.Ix
