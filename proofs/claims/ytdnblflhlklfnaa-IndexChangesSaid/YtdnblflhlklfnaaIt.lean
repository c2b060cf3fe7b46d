/-
  Plainly: what the laws say of what is seen and found.
-/
import Derived.Test.YtdnblflhlklfnaaIr
set_option linter.unusedVariables false
set_option linter.unusedSimpArgs false
set_option maxRecDepth 20000
set_option maxHeartbeats 4000000
namespace Go.Gx.Ix
open Go.RowKit Go.Proofs Go.Proofs.Ytdnblflhlklfnaa

/-- Of marks by rounds: those with a mark in some round are at most all marks. -/
theorem any_le {α : Type} (p : α → Nat → Bool) (l : List α) : ∀ k, (l.filter fun a => (List.range k).any (p a)).length ≤ ((List.range k).map fun i => (l.filter fun a => p a i).length).sum
  | 0 => by simp
  | k + 1 => by
    have ih := any_le p l k
    rw [List.range_succ, List.map_append, List.sum_append]
    simp only [List.map_cons, List.map_nil, List.sum_cons, List.sum_nil, Nat.add_zero, List.any_append, List.any_cons, List.any_nil, Bool.or_false]
    have h : (l.filter fun a => (List.range k).any (p a) || p a k).length ≤ (l.filter fun a => (List.range k).any (p a)).length + (l.filter fun a => p a k).length := by
      clear ih
      induction l with
      | nil => simp
      | cons a r ih =>
        simp only [List.filter_cons]
        cases h1 : (List.range k).any (p a) <;> cases h2 : p a k <;> simp <;> omega
    omega
theorem filter_le {α : Type} {p q : α → Bool} {l : List α} (h : ∀ a ∈ l, p a = true → q a = true) : (l.filter p).Sublist (l.filter q) := by
  have e : l.filter p = (l.filter q).filter p := by
    rw [List.filter_filter]
    refine List.filter_congr fun a ha => ?_
    cases hp : p a
    · rfl
    · rw [h a ha hp]; rfl
  rw [e]; exact List.filter_sublist
theorem mat_near {a b : IrG} {n num den : Nat} (hden : 0 < den) (h : matB a b n num den = true) : ((List.range (2 * n + 1)).any fun i => nearB (radS b num den) a (bkS b n i)) = true := by
  rw [mat_any] at h
  rw [List.any_eq_true] at h ⊢
  obtain ⟨i, h1, h2⟩ := h
  exact ⟨i, h1, near_of a b num den hden _ h2⟩
theorem fnd_le_sn (l : List MbG) (b : IrG) (n num den : Nat) (hden : 0 < den) : (fndM l b n num den).length ≤ snM l b n num den := by
  unfold fndM snM
  rw [List.length_map]
  refine Nat.le_trans ?_ (any_le (fun a i => nearB (radS b num den) a.x (bkS b n i)) l (2 * n + 1))
  exact (filter_le fun a _ h => mat_near hden h).length_le
theorem sum_le {f g : Nat → Nat} : ∀ k, (∀ i, i < k → f i ≤ g i) → ((List.range k).map f).sum ≤ ((List.range k).map g).sum
  | 0, _ => by simp
  | k + 1, h => by
    have := sum_le k fun i hi => h i (by omega)
    have := h k (by omega)
    rw [List.range_succ, List.map_append, List.map_append, List.sum_append, List.sum_append]
    simp; omega
theorem sum_const (c : Nat) : ∀ k, ((List.range k).map fun _ => c).sum = k * c
  | 0 => by simp
  | k + 1 => by
    rw [List.range_succ, List.map_append, List.sum_append, sum_const c k, Nat.succ_mul]; simp
theorem sn_le (l : List MbG) (b : IrG) (n num den : Nat) : snM l b n num den ≤ (2 * n + 1) * l.length := by
  unfold snM
  rw [← sum_const l.length]
  exact sum_le _ fun i _ => List.length_filter_le _ _
theorem sum_add (f : Nat → Nat) (s : Nat) : ∀ k, ((List.range (s + k)).map f).sum = ((List.range s).map f).sum + ((List.range k).map fun i => f (s + i)).sum
  | 0 => by simp
  | k + 1 => by
    have := sum_add f s k
    rw [← Nat.add_assoc, List.range_succ, List.range_succ (n := k), List.map_append, List.map_append, List.sum_append, List.sum_append]
    simp; omega
/-- A sum over a window. -/
theorem sum_win {f g : Nat → Nat} (s k K : Nat) (h : s + k ≤ K) (hle : ∀ i, i < k → f i ≤ g (s + i)) : ((List.range k).map f).sum ≤ ((List.range K).map g).sum := by
  have h1 := sum_add g (s + k) (K - (s + k))
  rw [show s + k + (K - (s + k)) = K by omega] at h1
  have h2 := sum_add g s k
  have h3 := sum_le (f := f) (g := fun i => g (s + i)) k hle
  omega
/-- The second limit is not less. -/
theorem rad_mono {b : IrG} {num den num' den' : Nat} (h : num * den' ≤ num' * den) (h1 : 0 < den) (h2 : 0 < den') : radS b num den ≤ radS b num' den' := by
  unfold radS
  simp only [Int.toNat_natCast]
  rw [Nat.le_div_iff_mul_le h2]
  have h3 : cnt b.m * num / den * den ≤ cnt b.m * num := Nat.div_mul_le_self _ _
  refine Nat.le_of_mul_le_mul_right (c := den) ?_ h1
  generalize cnt b.m * num / den = q at h3
  calc q * den' * den = q * den * den' := by rw [Nat.mul_assoc, Nat.mul_comm den' den, ← Nat.mul_assoc]
    _ ≤ cnt b.m * num * den' := Nat.mul_le_mul_right _ h3
    _ = cnt b.m * (num * den') := Nat.mul_assoc ..
    _ ≤ cnt b.m * (num' * den) := Nat.mul_le_mul_left _ h
    _ = cnt b.m * num' * den := (Nat.mul_assoc ..).symm
theorem mat_mono {a b : IrG} {n n' num den num' den' : Nat} (hn : n ≤ n') (h : num * den' ≤ num' * den) (h1 : 0 < den) (hm : matB a b n num den = true) : matB a b n' num' den' = true := by
  rw [mat_iff] at hm ⊢
  obtain ⟨t, h2, h3, h4⟩ := hm
  exact ⟨t, by omega, h3, mul3 h1 h4 h⟩
theorem fnd_mono {l : List MbG} {b : IrG} {n n' num den num' den' : Nat} (hn : n ≤ n') (h : num * den' ≤ num' * den) (h1 : 0 < den) : (fndM l b n num den).Sublist (fndM l b n' num' den') :=
  (filter_le fun _ _ hm => mat_mono hn h h1 hm).map _
theorem sn_mono {l : List MbG} {b : IrG} {n n' num den num' den' : Nat} (hn : n ≤ n') (h : num * den' ≤ num' * den) (h1 : 0 < den) (h2 : 0 < den') : snM l b n num den ≤ snM l b n' num' den' := by
  unfold snM
  refine sum_win (n' - n) _ _ (by omega) fun i hi => ?_
  have e : bkS b n' (n' - n + i) = bkS b n i := by unfold bkS; congr 1; omega
  rw [e]
  exact (filter_le fun a _ hm => near_mono (rad_mono h h1 h2) hm).length_le
/-- The step of a walk along a list that another one lies in. -/
theorem sub_step {a b : List Int} {k i : Nat} (hi : i < b.length) (h : (a.drop k).Sublist (b.drop i)) : (a.drop (if k < a.length ∧ a.getD k 0 = b[i] then k + 1 else k)).Sublist (b.drop (i + 1)) := by
  rw [List.drop_eq_getElem_cons hi] at h
  by_cases hk : k < a.length
  · rw [List.drop_eq_getElem_cons hk] at h
    have e : a.getD k 0 = a[k] := by simp [List.getD, hk]
    rw [e]
    by_cases he : a[k] = b[i]
    · rw [if_pos ⟨hk, he⟩]
      rw [he] at h
      exact List.cons_sublist_cons.1 h
    · rw [if_neg fun h => he h.2]
      rw [List.drop_eq_getElem_cons hk]
      revert h he
      generalize a[k] = u
      generalize b[i] = v
      intro h he
      cases h with
      | cons _ h => exact h
      | cons_cons _ h => exact absurd rfl he
  · rw [if_neg fun h => hk h.1, List.drop_eq_nil_of_le (by omega)]
    exact List.nil_sublist _
/-- Members without a number. -/
def dropM (l : List MbG) (t : Int) : List MbG := l.filter fun a => !decide (a.id = t)
theorem rem_eq {l : List MbG} (h : SL l) {t : Int} (ht : t ∈ l.map (·.id)) : l.take (plc l t) ++ l.drop (plc l t + 1) = dropM l t := by
  obtain ⟨a, ha, rfl⟩ := List.mem_map.1 ht
  obtain ⟨i, hi, rfl⟩ := List.mem_iff_getElem.1 ha
  rw [plc_at h hi]
  have hp := List.pairwise_iff_getElem.1 h
  unfold dropM
  have e : l = l.take i ++ l[i] :: l.drop (i + 1) := by rw [← List.drop_eq_getElem_cons hi, List.take_append_drop]
  have f1 : (l.take i).filter (fun a => !decide (a.id = l[i].id)) = l.take i := by
    rw [List.filter_eq_self]
    intro a ha
    obtain ⟨j, hj, rfl⟩ := List.mem_iff_getElem.1 ha
    have hj' : j < i := by simp at hj; omega
    have := hp j i (by omega) hi hj'
    rw [List.getElem_take]; simp; omega
  have f2 : (l.drop (i + 1)).filter (fun a => !decide (a.id = l[i].id)) = l.drop (i + 1) := by
    rw [List.filter_eq_self]
    intro a ha
    obtain ⟨j, hj, rfl⟩ := List.mem_iff_getElem.1 ha
    have hj' : i + 1 + j < l.length := by simp at hj; omega
    have := hp i (i + 1 + j) hi hj' (by omega)
    rw [List.getElem_drop]; simp; omega
  have key : l.filter (fun a => !decide (a.id = l[i].id)) = (l.take i ++ l[i] :: l.drop (i + 1)).filter (fun a => !decide (a.id = l[i].id)) := congrArg _ e
  rw [key, List.filter_append, List.filter_cons, f1, f2]
  simp
theorem fnd_drop (l : List MbG) (t : Int) (b : IrG) (n num den : Nat) : fndM (dropM l t) b n num den = (fndM l b n num den).filter fun a => !decide (a = t) := by
  unfold fndM dropM
  rw [List.filter_map, List.filter_filter, List.filter_filter]
  congr 1
  refine List.filter_congr fun a _ => ?_
  show _ = (!decide (a.id = t) && matB a.x b n num den)
  exact Bool.and_comm ..
theorem sn_drop (l : List MbG) (t : Int) (b : IrG) (n num den : Nat) : snM (dropM l t) b n num den ≤ snM l b n num den := by
  unfold snM dropM
  refine sum_le _ fun i _ => ?_
  rw [List.filter_filter]
  exact (filter_le fun a _ h => (Bool.and_eq_true_iff.1 h).1).length_le
theorem eqB_self (x : IxG) : x.eqB x = true := by unfold IxG.eqB; simp
theorem VL.nil : VL [] := ⟨by decide, fun a ha => (by cases ha), fun a ha => (by cases ha), List.nodup_nil⟩
theorem ofG_nil : ofG [] = IxG.zero := by
  have h : srtM [] = [] := List.eq_nil_of_length_eq_zero (srt_len [])
  unfold ofG IxG.zero
  rw [h]; rfl
theorem buildX_of (l : List MbG) : ∃ l', VL l' ∧ buildX l = ofG l' ∧ (buildE l = 0 → l' = l) ∧ (buildE l ≠ 0 → l' = []) := by
  unfold buildX
  by_cases h : buildE l = 0
  · rw [if_pos h]
    exact ⟨l, (buildE_iff l).1 h, rfl, fun _ => rfl, fun h' => absurd h h'⟩
  · rw [if_neg h]
    exact ⟨[], VL.nil, ofG_nil.symm, fun h' => absurd h' h, fun _ => rfl⟩
theorem srt_ids {l : List MbG} (t : Int) : t ∈ (srtM l).map (·.id) ↔ t ∈ l.map (·.id) := ((srtM_spec l).1.map (·.id)).mem_iff
theorem isM_srt {l : List MbG} (h : VL l) (t : Int) : isM (srtM l) t = decide (t ∈ l.map (·.id)) := by
  rw [Bool.eq_iff_iff, isM_iff (srt_SL h.nd), srt_ids]; simp
theorem addE_eq {l : List MbG} (h : VL l) (m : MbG) : addE (ofG l) m = if okN m.id = false then 2 else if m.x.ok = false then 30 else if m.id ∈ l.map (·.id) then 41 else if l.length = 256 then 9 else 0 := by
  have e : (ofG l).ms = srtM l := rfl
  unfold addE
  rw [ofG_valid h, if_neg (by decide), e, srt_len, isM_srt h]
  simp only [decide_eq_true_eq]
theorem VL.snoc {l : List MbG} {m : MbG} (h : VL (l ++ [m])) : VL l ∧ okN m.id = true ∧ m.x.ok = true ∧ ¬ m.id ∈ l.map (·.id) ∧ l.length + 1 ≤ 256 := by
  refine ⟨h.sub (List.sublist_append_left _ _), h.num m (by simp), h.ok m (by simp), fun hm => ?_, by have := h.len; simpa using this⟩
  have := h.nd
  rw [List.map_append, List.nodup_append] at this
  exact this.2.2 _ hm m.id (by simp) rfl
theorem addX_eq {l : List MbG} {m : MbG} (h : VL l) (h0 : addE (ofG l) m = 0) : addX (ofG l) m = ofG (l ++ [m]) ∧ VL (l ++ [m]) := by
  have h1 := h0
  rw [addE_eq h] at h1
  have hv : VL (l ++ [m]) := by
    by_cases c1 : okN m.id = false
    · rw [if_pos c1] at h1; cases h1
    rw [if_neg c1] at h1
    by_cases c2 : m.x.ok = false
    · rw [if_pos c2] at h1; cases h1
    rw [if_neg c2] at h1
    by_cases c3 : m.id ∈ l.map (·.id)
    · rw [if_pos c3] at h1; cases h1
    rw [if_neg c3] at h1
    by_cases c4 : l.length = 256
    · rw [if_pos c4] at h1; cases h1
    have := h.len
    refine ⟨by rw [List.length_append, List.length_cons, List.length_nil]; omega, fun a ha => ?_, fun a ha => ?_, ?_⟩
    · rcases List.mem_append.1 ha with ha | ha
      · exact h.num a ha
      · simp at ha; subst ha; simpa using c1
    · rcases List.mem_append.1 ha with ha | ha
      · exact h.ok a ha
      · simp at ha; subst ha; simpa using c2
    · rw [List.map_append, List.nodup_append]
      refine ⟨h.nd, by simp, fun a ha b hb e => ?_⟩
      simp at hb; subst hb; subst e; exact c3 ha
  refine ⟨?_, hv⟩
  unfold addX
  rw [if_pos h0]
  have e : (ofG l).ms = srtM l := rfl
  rw [e]
  refine ofG_eq ?_ hv.nd fun a => ?_
  · exact ((((srtM_spec l).1.append_right [m]).map (·.id)).nodup_iff).2 hv.nd
  · rw [List.mem_append, List.mem_append, srt_mem]
theorem addE_zero {l : List MbG} {m : MbG} (h : VL (l ++ [m])) : addE (ofG l) m = 0 := by
  obtain ⟨h1, h2, h3, h4, h5⟩ := h.snoc
  rw [addE_eq h1, if_neg (by rw [h2]; decide), if_neg (by rw [h3]; decide), if_neg h4, if_neg (by omega)]
theorem drop_len {l : List MbG} {t : Int} : (dropM l t).Sublist l := List.filter_sublist
theorem remX_eq {l : List MbG} (h : VL l) {t : Int} (ht : t ∈ l.map (·.id)) : remE (ofG l) t = 0 ∧ remX (ofG l) t = ofG (dropM l t) ∧ VL (dropM l t) := by
  have e : (ofG l).ms = srtM l := rfl
  have h0 : remE (ofG l) t = 0 := by
    unfold remE
    rw [ofG_valid h, if_neg (by decide), e, isM_srt h, if_neg (by simpa using ht)]
  refine ⟨h0, ?_, h.sub drop_len⟩
  unfold remX
  rw [if_pos h0, e]
  unfold remL
  rw [rem_eq (srt_SL h.nd) ((srt_ids t).2 ht)]
  refine ofG_eq (h.srt.sub drop_len).nd (h.sub drop_len).nd fun a => ?_
  unfold dropM
  rw [List.mem_filter, List.mem_filter, srt_mem]
theorem remE_ne {l : List MbG} (h : VL l) {t : Int} (ht : ¬ t ∈ l.map (·.id)) : remE (ofG l) t = 6 := by
  have e : (ofG l).ms = srtM l := rfl
  unfold remE
  rw [ofG_valid h, if_neg (by decide), e, isM_srt h, if_pos (by simpa using ht)]
theorem srt_drop {l : List MbG} (h : VL l) (t : Int) : srtM (dropM l t) = dropM (srtM l) t := by
  have h1 : SL (dropM (srtM l) t) := (srt_SL h.nd).sublist drop_len
  rw [← srt_id h1]
  refine srt_eq (h.sub drop_len).nd h1.nd fun a => ?_
  unfold dropM
  rw [List.mem_filter, List.mem_filter, srt_mem]
theorem drop_mem {l : List MbG} {t : Int} {a : MbG} : a ∈ dropM l t ↔ a ∈ l ∧ ¬ a.id = t := by
  unfold dropM; rw [List.mem_filter]; simp
/-- No posting has a number that no member has. -/
theorem post_no {l : List MbG} {t : Int} (h : ¬ t ∈ l.map (·.id)) (j : Nat) : ∀ p ∈ (ofG l).ch j, ∀ a ∈ p.ids, ¬ a = t := by
  intro p hp a ha e
  obtain ⟨b, hb, h1, _⟩ := (ofG_post l j).to p hp a ha
  refine h ((srt_ids t).1 ?_)
  rw [← e, ← h1]
  exact List.mem_map.2 ⟨b, hb, rfl⟩
theorem trace_back {l : List MbG} {m : MbG} (h : VL (l ++ [m])) : ofG (dropM (l ++ [m]) m.id) = ofG l := by
  obtain ⟨h1, _, _, h4, _⟩ := h.snoc
  refine ofG_eq (h.sub drop_len).nd h1.nd fun a => ?_
  rw [drop_mem, List.mem_append]
  constructor
  · rintro ⟨ha | ha, hn⟩
    · exact ha
    · simp at ha; subst ha; exact absurd rfl hn
  · intro ha
    refine ⟨.inl ha, fun e => h4 (e ▸ List.mem_map.2 ⟨a, ha, rfl⟩)⟩
theorem trace_err {l : List MbG} {m o : MbG} (h : VL (l ++ [m])) (hl : l.length ≤ 250) (hne : ¬ m.id = o.id) : addE (ofG (l ++ [m])) o = addE (ofG l) o := by
  obtain ⟨h1, _⟩ := h.snoc
  rw [addE_eq h, addE_eq h1]
  have e : (o.id ∈ (l ++ [m]).map (·.id)) ↔ o.id ∈ l.map (·.id) := by
    rw [List.map_append, List.mem_append]
    constructor
    · rintro (h | h)
      · exact h
      · simp at h; exact absurd h.symm hne
    · exact .inl
  have e1 : ¬ (l ++ [m]).length = 256 := by rw [List.length_append, List.length_cons, List.length_nil]; omega
  have e2 : ¬ l.length = 256 := by omega
  simp only [e, if_neg e1, if_neg e2]
theorem trace_gone {l : List MbG} {m o : MbG} (h : VL (l ++ [m])) (h2 : VL (l ++ [o])) (h3 : VL (l ++ [m] ++ [o])) (hne : ¬ m.id = o.id) : ofG (dropM (l ++ [m] ++ [o]) m.id) = ofG (l ++ [o]) := by
  obtain ⟨h1, _, _, h4, _⟩ := h.snoc
  refine ofG_eq (h3.sub drop_len).nd h2.nd fun a => ?_
  rw [drop_mem, List.mem_append, List.mem_append, List.mem_append]
  constructor
  · rintro ⟨(ha | ha) | ha, hn⟩
    · exact .inl ha
    · simp at ha; subst ha; exact absurd rfl hn
    · exact .inr ha
  · rintro (ha | ha)
    · exact ⟨.inl (.inl ha), fun e => h4 (e ▸ List.mem_map.2 ⟨a, ha, rfl⟩)⟩
    · refine ⟨.inr ha, fun e => hne ?_⟩
      simp at ha; subst ha; exact e.symm
theorem mrg_eq {l l' : List MbG} (h : VL (l ++ l')) : mrgE (ofG l) (ofG l') = 0 ∧ mrgX (ofG l) (ofG l') = ofG (l ++ l') := by
  have h1 : VL l := h.sub (List.sublist_append_left _ _)
  have h2 : VL l' := h.sub (List.sublist_append_right _ _)
  have e : (ofG l).ms = srtM l := rfl
  have e' : (ofG l').ms = srtM l' := rfl
  have h0 : mrgE (ofG l) (ofG l') = 0 := by
    unfold mrgE
    have hl := h.len
    rw [List.length_append] at hl
    rw [ofG_valid h1, ofG_valid h2, if_neg (by decide), e, e', srt_len, srt_len, if_neg, if_neg (by omega)]
    intro ha
    obtain ⟨a, ha, hm⟩ := List.any_eq_true.1 ha
    rw [isM_srt h2] at hm
    have hn := h.nd
    rw [List.map_append, List.nodup_append] at hn
    exact hn.2.2 a.id (List.mem_map.2 ⟨a, (srt_mem l a).1 ha, rfl⟩) a.id (by simpa using hm) rfl
  refine ⟨h0, ?_⟩
  unfold mrgX
  rw [if_pos h0, e, e']
  have hp : (srtM l ++ srtM l').Perm (l ++ l') := (srtM_spec l).1.append (srtM_spec l').1
  exact ofG_eq (((hp.map (·.id)).nodup_iff).2 h.nd) h.nd fun a => hp.mem_iff
end Go.Gx.Ix
