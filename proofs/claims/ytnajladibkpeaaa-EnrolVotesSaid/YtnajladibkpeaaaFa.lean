/-
  Plain law: the search by breadth finds how far each record is.
-/
import Derived.Test.YtnajladibkpeaaaEz
set_option linter.unusedVariables false
set_option linter.unusedSimpArgs false
set_option maxRecDepth 20000
set_option maxHeartbeats 4000000
namespace Go.Gx
open Go.RowKit Go.Proofs Go.Proofs.Ytnajladibkpeaaa

theorem EG.tch_adj {g : EG} (hl : g.inl) {a : Int} {y : Nat} : g.adj g.nl a y ↔ ∃ j, j < g.nl ∧ g.tch a j = true ∧ g.ot a j = y := by
  constructor
  · rintro ⟨j, h1, h2, h3⟩
    have ht : g.tch a j = true := by
      simp only [EG.tch, Bool.and_eq_true, Bool.or_eq_true, decide_eq_true_eq]
      exact ⟨h2, h3.imp (·.1) (·.1)⟩
    have := EG.ot_eq hl h1 ht
    exact ⟨j, h1, ht, by omega⟩
  · rintro ⟨j, h1, ht, h2⟩
    have := EG.ot_eq hl h1 ht
    simp only [EG.tch, Bool.and_eq_true, Bool.or_eq_true, decide_eq_true_eq] at ht
    refine ⟨j, h1, ht.1, ?_⟩
    rcases ht.2 with h | h
    · exact .inl ⟨h, by omega⟩
    · exact .inr ⟨h, by omega⟩
structure BInv (g : EG) (b : Nat) (h : Int → Bool) (v : Int → Int) (Q : List Nat) : Prop where
  hb : h b = true
  vb : v b = 0
  rng : ∀ a, h a = true → 0 ≤ a ∧ a < g.nr
  wk : ∀ x : Nat, h x = true → ∃ n : Nat, v x = n ∧ g.rc b n x = true
  inq : ∀ x ∈ Q, h (x : Nat) = true
  srt : Q.Pairwise fun x y => v (x : Nat) ≤ v (y : Nat) ∧ v (y : Nat) ≤ v (x : Nat) + 1
  old : ∀ x : Nat, h x = true → x ∉ Q → (∀ y ∈ Q, v x ≤ v (y : Nat)) ∧ ∀ y : Nat, g.adj g.nl x y → h y = true ∧ v y ≤ v x + 1
theorem BInv.init {g : EG} {b : Nat} (hb : b < g.nr) : BInv g b (fun a => decide (a = (b : Int))) (fun _ => 0) [b] :=
  ⟨by simp, rfl, fun a h => by simp only [decide_eq_true_eq] at h; omega, fun x h => ⟨0, rfl, by simp only [decide_eq_true_eq] at h; simp only [EG.rc, decide_eq_true_eq]; exact h.symm⟩,
    fun x h => by simp at h; simp [h], by simp, fun x h h' => by
      simp only [decide_eq_true_eq] at h
      simp at h'
      omega⟩
theorem BInv.st {g : EG} (hl : g.inl) {b c d : Nat} {s t : BF} {Q0 : List Nat} (hs : BF.st c d s t) (hQ : s.L.drop s.lo = c :: Q0) (hi : BInv g b s.h s.v (s.L.drop s.lo)) (ha : g.adj g.nl c d) : BInv g b t.h t.v (t.L.drop t.lo) := by
  have hc : s.h c = true := hi.inq c (by rw [hQ]; simp)
  have hm : ∀ a, s.h a = true → t.h a = true := fun a h => by rw [hs.h, h]; rfl
  cases hd : s.h d with
  | true =>
    have e1 : t.L.drop t.lo = s.L.drop s.lo := by rw [hs.q]; simp [hd]
    have e2 : ∀ a, t.h a = true ↔ s.h a = true := fun a => by
      rw [hs.h]
      by_cases e : a = (d : Int)
      · subst e; simp [hd]
      · simp [e]
    rw [e1]
    refine ⟨(e2 _).2 hi.hb, by rw [hs.v _ hi.hb]; exact hi.vb, fun a h => hi.rng a ((e2 a).1 h), fun x h => by rw [hs.v _ ((e2 x).1 h)]; exact hi.wk x ((e2 x).1 h), fun x h => hm _ (hi.inq x h), ?_, fun x h hx => ?_⟩
    · refine hi.srt.imp_of_mem fun {x y} hx hy hxy => ?_
      rw [hs.v _ (hi.inq x hx), hs.v _ (hi.inq y hy)]; exact hxy
    · obtain ⟨o1, o2⟩ := hi.old x ((e2 x).1 h) hx
      refine ⟨fun y hy => by rw [hs.v _ ((e2 x).1 h), hs.v _ (hi.inq y hy)]; exact o1 y hy, fun y hy => ?_⟩
      obtain ⟨o3, o4⟩ := o2 y hy
      exact ⟨hm _ o3, by rw [hs.v _ o3, hs.v _ ((e2 x).1 h)]; exact o4⟩
  | false =>
    have e1 : t.L.drop t.lo = s.L.drop s.lo ++ [d] := by rw [hs.q]; simp [hd]
    have e2 : ∀ x : Nat, t.h x = true ↔ s.h x = true ∨ x = d := fun x => by
      rw [hs.h]
      by_cases e : x = d
      · subst e; simp
      · have : ¬ (x : Int) = (d : Int) := by omega
        simp [e, this]
    have hvd := hs.vd hd
    have hsrt : ∀ x ∈ s.L.drop s.lo, s.v c ≤ s.v (x : Nat) ∧ s.v (x : Nat) ≤ s.v c + 1 := by
      intro x hx
      have := hi.srt
      rw [hQ] at this hx
      rcases List.mem_cons.1 hx with rfl | hx
      · omega
      · exact (List.pairwise_cons.1 this).1 x hx
    have hdr : (d : Int) < g.nr := by
      have := adj_in hl ha; omega
    rw [e1]
    refine ⟨hm _ hi.hb, by rw [hs.v _ hi.hb]; exact hi.vb, fun a h => ?_, fun x h => ?_, fun x h => ?_, ?_, fun x h hx => ?_⟩
    · rw [hs.h] at h
      by_cases e : a = (d : Int)
      · subst e; exact ⟨by omega, hdr⟩
      · have h' : s.h a = true := by simpa [e] using h
        exact hi.rng a h'
    · rcases (e2 x).1 h with h | rfl
      · rw [hs.v _ h]; exact hi.wk x h
      · obtain ⟨n, n1, n2⟩ := hi.wk c hc
        exact ⟨n + 1, by rw [hvd, n1]; rfl, (EG.rc_step hl).2 (.inr ⟨c, n2, ha⟩)⟩
    · rcases List.mem_append.1 h with h | h
      · exact hm _ (hi.inq x h)
      · simp at h; subst h; exact (e2 _).2 (.inr rfl)
    · rw [List.pairwise_append]
      refine ⟨?_, by simp, fun x hx y hy => ?_⟩
      · refine hi.srt.imp_of_mem fun {x y} hx hy hxy => ?_
        rw [hs.v _ (hi.inq x hx), hs.v _ (hi.inq y hy)]; exact hxy
      · simp at hy; subst hy
        have := hsrt x hx
        rw [hs.v _ (hi.inq x hx), hvd]
        omega
    · simp only [List.mem_append, List.mem_singleton, not_or] at hx
      have hx' : s.h x = true := ((e2 x).1 h).resolve_right hx.2
      obtain ⟨o1, o2⟩ := hi.old x hx' hx.1
      refine ⟨fun y hy => ?_, fun y hy => ?_⟩
      · rw [hs.v _ hx']
        rcases List.mem_append.1 hy with hy | hy
        · rw [hs.v _ (hi.inq y hy)]; exact o1 y hy
        · simp at hy; subst hy
          have := o1 c (by rw [hQ]; simp)
          omega
      · obtain ⟨o3, o4⟩ := o2 y hy
        exact ⟨hm _ o3, by rw [hs.v _ o3, hs.v _ hx']; exact o4⟩
/-- How many have been met. -/
def BF.cn (g : EG) (s : BF) : Nat := ((List.range g.nr).filter fun i : Nat => s.h i).length
theorem BF.cn_le (g : EG) (s : BF) : s.cn g ≤ g.nr := by
  have := List.length_filter_le (fun i : Nat => s.h i) (List.range g.nr)
  simpa [BF.cn] using this
theorem BF.st_cn {g : EG} {c : Int} {d : Nat} {s t : BF} (h : BF.st c d s t) (hd : d < g.nr) : s.cn g + (if s.h d = true then 0 else 1) ≤ t.cn g := by
  unfold BF.cn
  split
  · rename_i hh
    have : (List.range g.nr).filter (fun i : Nat => t.h i) = (List.range g.nr).filter fun i : Nat => s.h i := by
      refine List.filter_congr fun i _ => ?_
      rw [h.h]
      by_cases e : i = d
      · subst e; simp [hh]
      · have : ¬ (i : Int) = (d : Int) := by omega
        simp [this]
    rw [this]
    exact Nat.le_refl _
  · rename_i hh
    have hh' : s.h d = false := by simpa using hh
    exact left_lt hd (p := fun i : Nat => t.h i) (q := fun i : Nat => s.h i) (by rw [h.h]; simp) hh' fun i hi => by rw [h.h, hi]; rfl
structure BSc (g : EG) (b c : Nat) (s t : BF) (k : Nat) : Prop where
  inv : BInv g b t.h t.v (t.L.drop t.lo)
  hd : ∃ Q0, t.L.drop t.lo = c :: Q0
  met : ∀ j, j < k → g.tch c j = true → t.h (g.ot c j) = true
  mono : ∀ a, s.h a = true → t.h a = true
  len : t.L.length ≤ t.cn g
  vlt : ∀ x : Nat, t.h x = true → t.v x < t.cn g
  mu : 2 * (g.nr - t.cn g) + (t.L.drop t.lo).length ≤ 2 * (g.nr - s.cn g) + (s.L.drop s.lo).length
theorem BSc.of_sts {g : EG} (hl : g.inl) {b c : Nat} {s t : BF} {k : Nat} (hk : k ≤ g.nl) (h : BF.sts g c c k s t) (hi : BInv g b s.h s.v (s.L.drop s.lo)) {Q0 : List Nat} (hQ : s.L.drop s.lo = c :: Q0) (hlen : s.L.length ≤ s.cn g) (hvl : ∀ x : Nat, s.h x = true → s.v x < s.cn g) : BSc g b c s t k := by
  induction h with
  | zero => exact ⟨hi, ⟨Q0, hQ⟩, fun j hj => by omega, fun _ h => h, hlen, hvl, Nat.le_refl _⟩
  | @skip k s t _ hf ih =>
    obtain ⟨i1, i2, i3, i4, i5, i7, i6⟩ := ih (by omega) hi hQ hlen hvl
    refine ⟨i1, i2, fun j hj ht => ?_, i4, i5, i7, i6⟩
    by_cases e : j = k
    · subst e; rw [hf] at ht; cases ht
    · exact i3 j (by omega) ht
  | @go k s t u _ ht hst ih =>
    obtain ⟨i1, ⟨Q1, i2⟩, i3, i4, i5, i7, i6⟩ := ih (by omega) hi hQ hlen hvl
    have ha : g.adj g.nl c (g.ot c k : Nat) := (EG.tch_adj hl).2 ⟨k, by omega, ht, rfl⟩
    have hdr : g.ot c k < g.nr := by have := adj_in hl ha; omega
    have hm : ∀ a, t.h a = true → u.h a = true := fun a h => by rw [hst.h, h]; rfl
    have hcn := BF.st_cn hst hdr
    have hln := hst.len
    refine ⟨BInv.st hl hst i2 i1 ha, ⟨Q1 ++ (if t.h (g.ot c k) then [] else [g.ot c k]), by rw [hst.q, i2]; rfl⟩, fun j hj htj => ?_, fun a h => hm a (i4 a h), by omega, fun x hx => ?_, ?_⟩
    · by_cases e : j = k
      · subst e; rw [hst.h]; simp
      · exact hm _ (i3 j (by omega) htj)
    · by_cases e : t.h x = true
      · have := i7 x e
        rw [hst.v _ e]
        split at hcn <;> omega
      · have e' : x = g.ot c k := by
          rw [hst.h] at hx
          simp only [Bool.not_eq_true] at e
          rw [e] at hx
          simp only [Bool.false_or, decide_eq_true_eq] at hx
          omega
        subst e'
        have e2 : t.h (g.ot c k) = false := by simpa using e
        have := i7 c (i1.inq c (by rw [i2]; simp))
        rw [hst.vd e2]
        rw [if_neg (by simp [e2])] at hcn
        omega
    · refine Nat.le_trans ?_ i6
      rw [hst.q, List.length_append]
      have := u.cn_le g
      have := t.cn_le g
      by_cases e : t.h (g.ot c k) = true
      · simp [e] at hcn ⊢; omega
      · simp [e] at hcn ⊢; omega
/-- The first of the line is done. -/
theorem BSc.pop {g : EG} (hl : g.inl) {b c : Nat} {s t : BF} (h : BSc g b c s t g.nl) {Q0 : List Nat} (hQ : t.L.drop t.lo = c :: Q0) : BInv g b t.h t.v Q0 := by
  have hi := h.inv
  rw [hQ] at hi
  have hp := List.pairwise_cons.1 hi.srt
  refine ⟨hi.hb, hi.vb, hi.rng, hi.wk, fun x hx => hi.inq x (by simp [hx]), hp.2, fun x hx hxQ => ?_⟩
  by_cases e : x = c
  · subst e
    refine ⟨fun y hy => (hp.1 y hy).1, fun y hy => ?_⟩
    obtain ⟨j, j1, j2, j3⟩ := (EG.tch_adj hl).1 hy
    have hyh := h.met j j1 j2
    rw [j3] at hyh
    refine ⟨hyh, ?_⟩
    by_cases hyQ : y ∈ x :: Q0
    · rcases List.mem_cons.1 hyQ with rfl | hyQ
      · omega
      · exact (hp.1 y hyQ).2
    · have := (hi.old y hyh hyQ).1 x (by simp)
      omega
  · obtain ⟨o1, o2⟩ := hi.old x hx (by simp [e, hxQ])
    exact ⟨fun y hy => o1 y (by simp [hy]), o2⟩
theorem BInv.done {g : EG} (hl : g.inl) {b : Nat} (hb : b < g.nr) {h : Int → Bool} {v : Int → Int} (hi : BInv g b h v []) : (∀ (n x : Nat), g.rc b n x = true → h x = true ∧ v x ≤ n) ∧ ∀ x : Nat, h x = true → v x = g.far x b := by
  have key : ∀ (n x : Nat), g.rc b n x = true → h x = true ∧ v x ≤ n := by
    intro n
    induction n with
    | zero =>
      intro x hx
      simp only [EG.rc, decide_eq_true_eq] at hx
      have : x = b := by omega
      subst this
      exact ⟨hi.hb, by rw [hi.vb]; exact Int.le_refl _⟩
    | succ n ih =>
      intro x hx
      rcases (EG.rc_step hl).1 hx with hx | ⟨y, y1, y2⟩
      · obtain ⟨i1, i2⟩ := ih x hx; exact ⟨i1, by omega⟩
      · obtain ⟨i1, i2⟩ := ih y y1
        obtain ⟨i3, i4⟩ := (hi.old y i1 (by simp)).2 x y2
        exact ⟨i3, by omega⟩
  refine ⟨key, fun x hx => ?_⟩
  have hxr := hi.rng x hx
  obtain ⟨n, n1, n2⟩ := hi.wk x hx
  obtain ⟨m, m1, m2, m3, m4, m5⟩ := EG.far_ex hl hb n2
  have := (key m x m4).2
  rw [EG.far_symm hl (show x < g.nr by omega) hb, m3]
  omega
/-- The least record that is one nearer is the next one. -/
theorem EG.lst_nx {g : EG} (hl : g.inl) {b a n : Nat} (ha : a < g.nr) (hn : g.far a b = (n + 1 : Nat)) {v : Int → Int} {s : Int} (hva : v a = g.far a b) (hv : ∀ j, j < g.nl → g.tch a j = true → v (g.ot a j) = g.far (g.ot a j : Nat) b) (h : g.lst v a g.nl s) : s = (g.nx b a : Nat) := by
  obtain ⟨y1, y2, y3, y4, y5⟩ := EG.nx_ok hl ha hn
  obtain ⟨j0, j1, j2, j3⟩ := (EG.tch_adj hl).1 (EG.lk_iff.1 y3)
  have hc0 : v (g.ot a j0) = v a - 1 := by rw [hv j0 j1 j2, j3, hva, hn, y4]; omega
  rcases h with ⟨rfl, h⟩ | ⟨h0, ⟨j, k1, k2, k3, k4⟩, h⟩
  · exact absurd hc0 (h j0 j1 j2)
  · have h1 := h j0 j1 j2 hc0
    rw [j3] at h1
    have h2 : ¬ g.ot a j < g.nx b a := fun hlt => by
      have := y5 _ hlt
      rw [EG.lk_iff.2 ((EG.tch_adj hl).2 ⟨j, k1, k2, rfl⟩), ← hv j k1 k2, k3, hva] at this
      simp at this
    omega
end Go.Gx
