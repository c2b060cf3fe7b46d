/-
  Plain facts for the statements on less, one, order and keeping.
-/
import Derived.Test.YtnajladibkpeaaaGreatW8
import Derived.Test.YtnajladibkpeaaaGreatW7
import Derived.Test.YtnajladibkpeaaaGreatHg
set_option linter.unusedVariables false
set_option linter.unusedSimpArgs false
set_option maxRecDepth 20000
set_option maxHeartbeats 4000000
namespace Go.Gx
open Go.RowKit Go.Proofs Go.Proofs.YtnajladibkpeaaaGreat

theorem EG.joB_valid {g : EG} {a b : Int} (h : g.joB a b = true) : g.valid = true := by
  unfold EG.joB at h
  simp only [Bool.and_eq_true] at h
  exact h.1.1.1
/-! ### less -/
theorem EG.wdE_zero {g : EG} {a b : Int} (h : g.wdE a b = 0) : g.valid = true ∧ g.lin (min a b) (max a b) = true := by
  unfold EG.wdE at h
  split at h
  · cases h
  rename_i h1
  split at h
  · cases h
  rename_i h2
  exact ⟨by simpa using h1, by simpa using h2⟩
theorem EG.remE_zero {g : EG} {a : Int} (h : g.remE a = 0) : g.valid = true ∧ g.th a = true := by
  unfold EG.remE at h
  split at h
  · cases h
  rename_i h1
  split at h
  · cases h
  rename_i h2
  exact ⟨by simpa using h1, by simpa using h2⟩
theorem EG.less_wd {g : EG} {a b c d : Int} (h : g.wdE a b = 0) (hj : (g.wdX a b).joB c d = true) : g.joB c d = true := by
  obtain ⟨hv, _⟩ := EG.wdE_zero h
  unfold EG.wdX at hj
  rw [if_pos h] at hj
  have hx := (EG.joB_iff (EG.joB_valid hj)).1 hj
  exact (EG.joB_iff hv).2 ⟨hx.1, hx.2.1, con_dropL hx.2.2⟩
theorem EG.th_rem {g : EG} {a : Nat} {x : Int} : (g.remG a).th x = true ↔ g.th x = true ∧ ¬ x = a := by
  rw [EG.th_iff, EG.th_iff]
  show 0 ≤ x ∧ x < g.nr ∧ (if x.toNat = a then (⟨0, true⟩ : RcG) else g.r x.toNat).g = false ↔ _
  constructor
  · rintro ⟨h1, h2, h3⟩
    split at h3
    · cases h3
    · exact ⟨⟨h1, h2, h3⟩, by omega⟩
  · rintro ⟨⟨h1, h2, h3⟩, h4⟩
    rw [if_neg (by omega)]
    exact ⟨h1, h2, h3⟩
theorem con_remG {g : EG} {a : Nat} {x y : Int} (h : (g.remG a).Con (g.remG a).nl x y) : g.Con g.nl x y :=
  h.map fun x y ⟨j, h1, h2, h3⟩ => ⟨_, (kept_at (p := g.lp a) h1).1, h2, h3⟩
theorem EG.less_rem {g : EG} {a c d : Int} (h : g.remE a = 0) : ((g.remX a).joB c d = true → g.joB c d = true) ∧ (g.remX a).joB a a = false := by
  obtain ⟨hv, ht⟩ := EG.remE_zero h
  unfold EG.remX
  rw [if_pos h]
  have ha := EG.th_iff.1 ht
  constructor
  · intro hj
    have hx := (EG.joB_iff (EG.joB_valid hj)).1 hj
    exact (EG.joB_iff hv).2 ⟨(EG.th_rem.1 hx.1).1, (EG.th_rem.1 hx.2.1).1, con_remG hx.2.2⟩
  · cases hj : (g.remG a.toNat).joB a a with
    | false => rfl
    | true =>
      have hx := (EG.joB_iff (EG.joB_valid hj)).1 hj
      exact absurd (by omega) (EG.th_rem.1 hx.1).2
/-! ### one -/
theorem EG.far_q {g : EG} (hv : g.valid = true) {a b : Nat} (ha : g.th a = true) (hb : g.th b = true) : g.pm g.nl a = g.pm g.nl b ↔ 0 ≤ g.far a b := by
  have ia := EG.th_iff.1 ha
  have hl := EG.valid_inl hv
  constructor
  · intro hq
    obtain ⟨n, _, _, hn, _⟩ := EG.far_ex hl (by omega) ((EG.rc_iff hl ia.1 ia.2.1 (x := b)).2 hq)
    omega
  · intro hf
    have h1 : g.far a b = ((g.far a b).toNat : Int) := by omega
    exact EG.con_iff.1 (EG.rc_con hl (EG.far_rc h1).1)
/-- The first link that tells two people apart. -/
theorem EG.ap_ok {g : EG} (hv : g.valid = true) {a b : Int} (h : 0 ≤ g.ap a b) : ∃ j : Nat, g.ap a b = j ∧ j < g.nl ∧ (g.l j).s = false ∧ ¬ g.pm g.nl a = g.pm g.nl b ∧
    (g.pm g.nl (g.l j).a = g.pm g.nl a ∧ g.pm g.nl (g.l j).b = g.pm g.nl b ∨ g.pm g.nl (g.l j).a = g.pm g.nl b ∧ g.pm g.nl (g.l j).b = g.pm g.nl a) := by
  unfold EG.ap at h ⊢
  rcases ixB_cases (g.apB a b) g.nl with ⟨h1, _⟩ | ⟨i, hi, hp, _, h1⟩
  · rw [h1] at h; omega
  refine ⟨i, h1, hi, ?_⟩
  simp only [EG.apB, Bool.and_eq_true, Bool.not_eq_true', decide_eq_true_eq] at hp
  have h2 := (EG.val_iff.1 hv).ld i hi hp.1
  have h3 : ¬ g.pm g.nl (g.l i).a = g.pm g.nl (g.l i).b := fun e => h2 (EG.con_iff.2 e)
  have e1 : min (g.pm g.nl (g.l i).a) (g.pm g.nl (g.l i).b) = min (g.pm g.nl a) (g.pm g.nl b) := hp.2.1
  have e2 : max (g.pm g.nl (g.l i).a) (g.pm g.nl (g.l i).b) = max (g.pm g.nl a) (g.pm g.nl b) := hp.2.2
  refine ⟨hp.1, ?_, ?_⟩
  · omega
  · omega
def EG.fnl (g : EG) (a b : Int) : Int := ixB (fun i => decide ((g.l i).a = min a b) && decide ((g.l i).b = max a b)) g.nl
theorem EG.fnl_at {g : EG} (h : g.Val) {j : Nat} (hj : j < g.nl) {a b : Int} (ha : (g.l j).a = min a b) (hb : (g.l j).b = max a b) : g.fnl a b = j := by
  refine ixB_at hj (by simp [ha, hb]) fun i hi => ?_
  cases hc : (decide ((g.l i).a = min a b) && decide ((g.l i).b = max a b)) with
  | false => rfl
  | true =>
    simp only [Bool.and_eq_true, decide_eq_true_eq] at hc
    have := h.ls.ne (i := i) (j := j) (by omega) hj (by show (g.l i).a = (g.l j).a; omega) (by show (g.l i).b = (g.l j).b; omega)
    omega
theorem EG.fnl_no {g : EG} {a b : Int} (h : ∀ j, j < g.nl → ¬ ((g.l j).a = min a b ∧ (g.l j).b = max a b)) : g.fnl a b = -1 := by
  refine ixB_no fun i hi => ?_
  have := h i hi
  cases hc : (decide ((g.l i).a = min a b) && decide ((g.l i).b = max a b)) with
  | false => rfl
  | true =>
    simp only [Bool.and_eq_true, decide_eq_true_eq] at hc
    exact absurd hc this
/-- Two records that a link says are the same. -/
theorem EG.fnl_adj {g : EG} (h : g.Val) {x y : Int} (ha : g.adj g.nl x y) : ∃ j : Nat, g.fnl x y = j ∧ j < g.nl ∧ (g.l j).s = true := by
  obtain ⟨j, h1, h2, h3⟩ := ha
  have := (h.lp j h1).2.2
  refine ⟨j, EG.fnl_at h h1 ?_ ?_, h1, h2⟩ <;> omega
theorem EG.cu_adj {g : EG} (hl : g.inl) {a b n : Nat} (ha : a < g.nr) (h : g.far a b = n) {k : Nat} (hk : k < n) : g.adj g.nl (g.cu b a k) (g.cu b a (k + 1)) := by
  obtain ⟨h1, h2⟩ := EG.cu_ok hl ha h k (by omega)
  have h3 : g.far (g.cu b a k) b = ((n - k - 1) + 1 : Nat) := by rw [h2]; omega
  exact EG.lk_iff.1 (EG.nx_ok hl h1 h3).2.2.1
end Go.Gx
/-
  Plain facts: two decisions in either order; what a vote keeps.
-/
set_option linter.unusedVariables false
set_option linter.unusedSimpArgs false
set_option maxRecDepth 20000
set_option maxHeartbeats 4000000
namespace Go.Gx
open Go.RowKit Go.Proofs Go.Proofs.YtnajladibkpeaaaGreat

/-! ### order -/
theorem ins_perm {α : Type} {k : Nat} {v : α} {x : Nat → α} : ∀ n, k ≤ n → ((List.range (n + 1)).map (ins k v x)).Perm (v :: (List.range n).map x)
  | 0, h => by
    have : k = 0 := by omega
    subst this
    simp [ins]
  | n + 1, h => by
    rw [List.range_succ, List.map_append]
    by_cases e : k = n + 1
    · subst e
      have e1 : (List.range (n + 1)).map (ins (n + 1) v x) = (List.range (n + 1)).map x := List.map_congr_left fun i hi => by
        have := List.mem_range.1 hi
        simp only [ins, if_pos this]
      rw [e1]
      simp only [List.map_cons, List.map_nil, ins, Nat.lt_irrefl, if_false, if_true]
      exact List.perm_append_comm
    · have ih := ins_perm (k := k) (v := v) (x := x) n (by omega)
      have e2 : ins k v x (n + 1) = x n := by simp only [ins, if_neg (show ¬ n + 1 < k by omega), if_neg (show ¬ n + 1 = k by omega), Nat.add_sub_cancel]
      have e3 : (List.range (n + 1)).map x = (List.range n).map x ++ [x n] := by rw [List.range_succ, List.map_append]; rfl
      rw [e3]
      simp only [List.map_cons, List.map_nil, e2]
      exact (ih.append_right [x n])
def EG.links (g : EG) : List LkG := (List.range g.nl).map g.l
theorem EG.links_srt {g : EG} (h : g.Val) : g.links.Pairwise fun x y => befB x.a x.b y.a y.b = true := by
  unfold EG.links
  rw [List.pairwise_map]
  refine List.Pairwise.imp_of_mem (fun {i j} hi hj hij => ?_) List.pairwise_lt_range
  exact h.ls i j hij (List.mem_range.1 hj)
theorem EG.links_eq {g h : EG} (hg : g.Val) (hh : h.Val) (hp : g.links.Perm h.links) : g.nl = h.nl ∧ ∀ i, i < g.nl → g.l i = h.l i := by
  have e : g.links = h.links := List.Perm.eq_of_pairwise (le := fun x y : LkG => befB x.a x.b y.a y.b = true) (fun x y _ _ h1 h2 => by
    have h1 := befB_iff'.1 h1
    have h2 := befB_iff'.1 h2
    omega) (EG.links_srt hg) (EG.links_srt hh) hp
  have e1 : g.nl = h.nl := by
    have := congrArg List.length e
    simpa [EG.links] using this
  refine ⟨e1, fun i hi => ?_⟩
  have := congrArg (fun l : List LkG => l[i]?) e
  simpa [EG.links, hi, e1 ▸ hi] using this
theorem EG.two_ok {g : EG} {a b : Int} {s : Bool} (h0 : g.nc = 0) (h1 : g.voteE 0 a b s = 0) (h2 : (g.voteG 0 a b s).voteE 1 a b s = 0) (h3 : (g.voteG 0 a b s).voteD a b s = true) :
    let y := (g.voteG 0 a b s).voteG 1 a b s
    y.nr = g.nr ∧ y.r = g.r ∧ y.nc = 0 ∧ y.Val ∧ y.nl = g.nl + 1 ∧ y.links.Perm (⟨min a b, max a b, s⟩ :: g.links) := by
  intro y
  have hy : y.Val := EG.Val.vote h2
  have hc : g.cin (min a b) (max a b) = false := by
    unfold EG.cin fnd
    rw [h0]
    simp
  have ex : g.voteG 0 a b s = g.addC (g.cat (min a b) (max a b)) ⟨min a b, max a b, 1, fun _ => ⟨0, s⟩⟩ := by unfold EG.voteG; rw [if_pos hc]
  have ey0 : y = (g.voteG 0 a b s).voteG 1 a b s := rfl
  clear_value y
  generalize hx : g.voteG 0 a b s = x at *
  have xl : x.nl = g.nl ∧ x.l = g.l ∧ x.nr = g.nr ∧ x.r = g.r ∧ x.nc = 1 := by rw [ex]; exact ⟨rfl, rfl, rfl, rfl, by show g.nc + 1 = 1; omega⟩
  unfold EG.voteD at h3
  simp only [Bool.and_eq_true] at h3
  have ey : y = (x.dropC (x.cat (min a b) (max a b))).addL (x.lat (min a b) (max a b)) ⟨min a b, max a b, s⟩ := by
    rw [ey0]
    unfold EG.voteG
    rw [if_neg (by rw [h3.1]; simp), if_neg (by rw [h3.2]; simp)]
  refine ⟨?_, ?_, ?_, hy, ?_, ?_⟩
  · rw [ey]; exact xl.2.2.1
  · rw [ey]; exact xl.2.2.2.1
  · rw [ey]; show x.nc - 1 = 0; omega
  · rw [ey]; show x.nl + 1 = _; rw [xl.1]
  · rw [ey]
    have := ins_perm (k := x.lat (min a b) (max a b)) (v := (⟨min a b, max a b, s⟩ : LkG)) (x := x.l) x.nl (x.lat_le _ _)
    show ((List.range (x.nl + 1)).map (ins (x.lat (min a b) (max a b)) _ x.l)).Perm _
    unfold EG.links
    rw [← xl.1, ← xl.2.1]
    exact this
theorem EG.order {g y u v w : EG} (hy : y.Val) (hv : w.Val) {a b : LkG} (y1 : y.links.Perm (b :: u.links)) (y2 : u.links.Perm (a :: g.links)) (w1 : w.links.Perm (a :: v.links)) (w2 : v.links.Perm (b :: g.links))
    (hr : y.nr = w.nr) (hr2 : y.r = w.r) (hc : y.nc = 0) (hc2 : w.nc = 0) : y.smB w = true := by
  have hp : y.links.Perm w.links := (y1.trans (y2.cons b)).trans ((List.Perm.swap a b _).trans ((w2.symm.cons a).trans w1.symm))
  obtain ⟨e1, e2⟩ := EG.links_eq hy hv hp
  unfold EG.smB
  simp only [Bool.and_eq_true, decide_eq_true_eq]
  refine ⟨⟨⟨hr, all_yes fun i hi => by rw [hr2]; exact RcG.eqB_rfl _⟩, e1, all_yes fun i hi => by rw [e2 i hi]; exact LkG.eqB_rfl _⟩, by omega, all_yes fun i hi => by omega⟩
/-! ### what a vote keeps -/
def sumR (f : Nat → Nat) : Nat → Nat
  | 0 => 0
  | n + 1 => sumR f n + f n
theorem sumR_congr {f h : Nat → Nat} : ∀ n, (∀ i, i < n → f i = h i) → sumR f n = sumR h n
  | 0, _ => rfl
  | n + 1, e => by simp only [sumR, sumR_congr n fun i hi => e i (by omega), e n (by omega)]
theorem sumR_ins {k v : Nat} {x : Nat → Nat} : ∀ n, k ≤ n → sumR (ins k v x) (n + 1) = sumR x n + v
  | 0, h => by
    have : k = 0 := by omega
    subst this
    simp [sumR, ins]
  | n + 1, h => by
    show sumR (ins k v x) (n + 1) + ins k v x (n + 1) = sumR x n + x n + v
    by_cases e : k = n + 1
    · subst e
      have e1 : sumR (ins (n + 1) v x) (n + 1) = sumR x (n + 1) := sumR_congr (n + 1) fun i hi => if_pos hi
      rw [e1]
      simp only [ins, Nat.lt_irrefl, if_false, if_true, sumR]
    · rw [sumR_ins (k := k) (v := v) (x := x) n (by omega)]
      have e2 : ins k v x (n + 1) = x n := by simp only [ins, if_neg (show ¬ n + 1 < k by omega), if_neg (show ¬ n + 1 = k by omega), Nat.add_sub_cancel]
      rw [e2]
      omega
theorem sumR_del {k : Nat} {x : Nat → Nat} : ∀ n, k ≤ n → sumR x (n + 1) = sumR (del k x) n + x k
  | 0, h => by
    have : k = 0 := by omega
    subst this
    simp [sumR]
  | n + 1, h => by
    show sumR x (n + 1) + x (n + 1) = sumR (del k x) n + del k x n + x k
    by_cases e : k = n + 1
    · subst e
      have e1 : sumR (del (n + 1) x) n = sumR x n := sumR_congr n fun i hi => if_pos (show i < n + 1 by omega)
      rw [e1]
      simp only [del, if_pos (Nat.lt_succ_self n), sumR]
    · rw [sumR_del (k := k) (x := x) n (by omega)]
      simp only [del, if_neg (show ¬ n < k by omega)]
      omega
theorem sumR_one {k d : Nat} {x y : Nat → Nat} : ∀ n, k < n → (∀ i, i < n → y i = if i = k then x i + d else x i) → sumR y n = sumR x n + d
  | 0, h, _ => by omega
  | n + 1, h, e => by
    simp only [sumR]
    rw [e n (by omega)]
    by_cases hk : n = k
    · subst hk
      rw [if_pos rfl, sumR_congr (h := x) n fun i hi => by rw [e i (by omega), if_neg (by omega)]]
      omega
    · rw [if_neg hk, sumR_one n (by omega) fun i hi => e i (by omega)]
      omega
/-- The number of votes. -/
def EG.vts (g : EG) : Nat := sumR (fun i => (g.c i).nv) g.nc
theorem EG.keeps {g : EG} {o a b : Int} {s : Bool} (h : g.voteE o a b s = 0) :
    let x := g.voteG o a b s
    x.valid = true ∧ x.nr = g.nr ∧ (g.voteD a b s = false → x.vts = g.vts + 1 ∧ x.nl = g.nl) ∧
    (g.voteD a b s = true → (∃ i : Nat, x.fnl a b = i ∧ i < x.nl ∧ (x.l i).s = s) ∧ x.nl = g.nl + 1 ∧ g.nc = x.nc + 1 ∧ x.vts < g.vts ∧
      x.wdE b a = 0 ∧ (x.wdX b a).nl = g.nl ∧ (x.wdX b a).valid = true ∧ (x.wdX b a).fnl a b = -1) := by
  intro x
  have hxv : x.Val := EG.Val.vote h
  obtain ⟨hv, _, hab, ta, tb, hl, hcase⟩ := EG.voteE_zero h
  have hg := EG.val_iff.1 hv
  have hcos := EG.valid_cos hv
  refine ⟨EG.val_iff.2 hxv, (g.vote_nr o a b s).1, fun hD => ?_, fun hD => ?_⟩
  · unfold EG.voteD at hD
    by_cases c1 : g.cin (min a b) (max a b) = false
    · have ex : x = g.addC (g.cat (min a b) (max a b)) ⟨min a b, max a b, 1, fun _ => ⟨o, s⟩⟩ := by show g.voteG o a b s = _; unfold EG.voteG; rw [if_pos c1]
      rw [ex]
      refine ⟨?_, rfl⟩
      have := sumR_ins (k := g.cat (min a b) (max a b)) (v := 1) (x := fun i => (g.c i).nv) g.nc (g.cat_le _ _)
      unfold EG.vts
      rw [← this]
      exact sumR_congr (g.nc + 1) fun i hi => by
        have := congrFun (ins_map CsG.nv (g.cat (min a b) (max a b)) ⟨min a b, max a b, 1, fun _ => ⟨o, s⟩⟩ g.c) i
        exact this
    · have c1' : g.cin (min a b) (max a b) = true := by simpa using c1
      rw [c1', Bool.true_and] at hD
      have ex : x = g.addV (g.cat (min a b) (max a b)) ⟨o, s⟩ := by show g.voteG o a b s = _; unfold EG.voteG; rw [if_neg c1, if_pos hD]
      rw [ex]
      refine ⟨?_, rfl⟩
      unfold EG.vts
      refine sumR_one (k := g.cat (min a b) (max a b)) g.nc (EG.cin_lt c1') fun i hi => ?_
      simp only [EG.addV]
      split
      · rename_i e; rw [e]; rfl
      · rfl
  · unfold EG.voteD at hD
    simp only [Bool.and_eq_true] at hD
    have ex : x = (g.dropC (g.cat (min a b) (max a b))).addL (g.lat (min a b) (max a b)) ⟨min a b, max a b, s⟩ := by
      show g.voteG o a b s = _; unfold EG.voteG
      rw [if_neg (by rw [hD.1]; simp), if_neg (by rw [hD.2]; simp)]
    have hk := g.lat_le (min a b) (max a b)
    have hlt := EG.cin_lt hD.1
    have xnl : x.nl = g.nl + 1 := by rw [ex]; rfl
    have xlk : x.l (g.lat (min a b) (max a b)) = ⟨min a b, max a b, s⟩ := by
      rw [ex]; simp only [EG.addL, Nat.lt_irrefl, if_false, if_true]
    have hkx : g.lat (min a b) (max a b) < x.nl := by omega
    have hfn : x.fnl a b = (g.lat (min a b) (max a b) : Nat) := EG.fnl_at hxv hkx (by rw [xlk]) (by rw [xlk])
    have hlin : x.lin (min b a) (max b a) = true := (fnd_iff (x := fun i => (x.l i).a) (y := fun i => (x.l i).b) hxv.ls).2 ⟨_, hkx, by show (x.l _).a = _; rw [xlk]; exact Int.min_comm _ _, by show (x.l _).b = _; rw [xlk]; exact Int.max_comm _ _⟩
    have hwd : x.wdE b a = 0 := by unfold EG.wdE; rw [if_neg (by rw [EG.val_iff.2 hxv]; simp), if_neg (by rw [hlin]; simp)]
    have hlat : x.lat (min b a) (max b a) = g.lat (min a b) (max a b) := by
      rw [Int.min_comm b a, Int.max_comm b a]
      have := bnd_at (x := fun i => (x.l i).a) (y := fun i => (x.l i).b) hxv.ls hkx
      rw [xlk] at this
      exact this
    have ew : x.wdX b a = x.dropL (g.lat (min a b) (max a b)) := by unfold EG.wdX; rw [if_pos hwd, hlat]
    refine ⟨⟨_, hfn, hkx, by rw [xlk]⟩, xnl, ?_, ?_, hwd, ?_, ?_, ?_⟩
    · rw [ex]; show g.nc = g.nc - 1 + 1; omega
    · have h1 := sumR_del (k := g.cat (min a b) (max a b)) (x := fun i => (g.c i).nv) (g.nc - 1) (by omega)
      have h2 := (votB_iff.1 (hg.cv _ hlt)).1
      have h3 : x.vts = sumR (del (g.cat (min a b) (max a b)) fun i => (g.c i).nv) (g.nc - 1) := by
        rw [ex]
        show sumR (fun i => ((g.dropC (g.cat (min a b) (max a b))).c i).nv) (g.nc - 1) = _
        exact sumR_congr _ fun i hi => congrFun (del_map CsG.nv (g.cat (min a b) (max a b)) g.c) i
      unfold EG.vts at *
      rw [show g.nc - 1 + 1 = g.nc by omega] at h1
      omega
    · rw [ew]; show x.nl - 1 = g.nl; omega
    · rw [ew]; exact EG.val_iff.2 (hxv.dropL _)
    · rw [ew]
      refine EG.fnl_no fun j hj he => ?_
      have hj : j < x.nl - 1 := hj
      simp only [EG.dropL] at he
      split at he
      · have := hxv.ls.ne (i := j) (j := g.lat (min a b) (max a b)) (by omega) hkx (by show (x.l j).a = (x.l _).a; rw [xlk, he.1]) (by show (x.l j).b = (x.l _).b; rw [xlk, he.2])
        omega
      · have := hxv.ls.ne (i := j + 1) (j := g.lat (min a b) (max a b)) (by omega) hkx (by show (x.l (j + 1)).a = (x.l _).a; rw [xlk, he.1]) (by show (x.l (j + 1)).b = (x.l _).b; rw [xlk, he.2])
        omega
end Go.Gx
/-
  Each decision has two officers who said just that (plain).
-/
set_option linter.unusedVariables false
set_option linter.unusedSimpArgs false
set_option maxRecDepth 20000
set_option maxHeartbeats 4000000
namespace Go.Gx
open Go.RowKit Go.Proofs Go.Proofs.YtnajladibkpeaaaGreat

theorem EG.Val.addG {g : EG} (h : g.Val) {q : Int} (h0 : 0 ≤ q ∧ q ≤ 100) (hn : g.nr < 24) : (g.addG q).Val := by
  have hth : ∀ a, g.th a = true → (g.addG q).th a = true := fun a ha => by
    obtain ⟨t1, t2, t3⟩ := EG.th_iff.1 ha
    refine EG.th_iff.2 ⟨t1, by show a < ((g.nr + 1 : Nat) : Int); omega, ?_⟩
    show (if a.toNat < g.nr then g.r a.toNat else ⟨q, false⟩ : RcG).g = false
    rw [if_pos (by omega)]
    exact t3
  refine ⟨by show g.nr + 1 ≤ 24; omega, h.nc, fun i hi => ?_, h.ls, fun i hi => ⟨hth _ (h.lp i hi).1, hth _ (h.lp i hi).2.1, (h.lp i hi).2.2⟩, h.cs, fun i hi => ⟨hth _ (h.cp i hi).1, hth _ (h.cp i hi).2.1, (h.cp i hi).2.2⟩, h.cl, h.cv,
    fun i hi hs hc => h.ld i hi hs ((con_same (g := g.addG q) (h := g) rfl).1 hc)⟩
  show 0 ≤ (if i < g.nr then g.r i else ⟨q, false⟩ : RcG).q ∧ (if i < g.nr then g.r i else ⟨q, false⟩ : RcG).q ≤ 100
  by_cases hlt : i < g.nr
  · rw [if_pos hlt]; exact h.qu i hlt
  · rw [if_neg hlt]; exact h0
theorem EG.Val.remG {g : EG} (h : g.Val) (a : Nat) : (g.remG a).Val := by
  refine ⟨h.nr, Nat.le_trans (kept_le _ _) h.nc, fun i hi => ?_, srtd_kept h.ls, fun i hi => ?_, srtd_kept h.cs, fun i hi => ?_, fun i j hi hj => h.cl _ _ (kept_at hi).1 (kept_at hj).1, fun i hi => h.cv _ (kept_at hi).1, fun i hi hs hc => h.ld _ (kept_at hi).1 hs (con_remG hc)⟩
  · show 0 ≤ (if i = a then ⟨0, true⟩ else g.r i : RcG).q ∧ (if i = a then ⟨0, true⟩ else g.r i : RcG).q ≤ 100
    by_cases e : i = a
    · rw [if_pos e]; exact ⟨by decide, by decide⟩
    · rw [if_neg e]; exact h.qu i hi
  · obtain ⟨k1, k2⟩ := kept_at hi
    obtain ⟨t1, t2, t3⟩ := h.lp _ k1
    simp only [EG.lp, Bool.or_eq_false_iff, decide_eq_false_iff_not] at k2
    exact ⟨EG.th_rem.2 ⟨t1, k2.1⟩, EG.th_rem.2 ⟨t2, k2.2⟩, t3⟩
  · obtain ⟨k1, k2⟩ := kept_at hi
    obtain ⟨t1, t2, t3⟩ := h.cp _ k1
    simp only [EG.cp, Bool.or_eq_false_iff, decide_eq_false_iff_not] at k2
    exact ⟨EG.th_rem.2 ⟨t1, k2.1⟩, EG.th_rem.2 ⟨t2, k2.2⟩, t3⟩
theorem EG.lin_some {g : EG} (h : g.Val) {p q : Int} (hf : g.lin p q = true) : g.lat p q < g.nl ∧ (g.l (g.lat p q)).a = p ∧ (g.l (g.lat p q)).b = q := by
  obtain ⟨j, hj, e1, e2⟩ := (fnd_iff (x := fun i => (g.l i).a) (y := fun i => (g.l i).b) h.ls).1 hf
  have h2 : g.lat (g.l j).a (g.l j).b = j := bnd_at (x := fun i => (g.l i).a) (y := fun i => (g.l i).b) h.ls hj
  subst e1 e2
  rw [h2]
  exact ⟨hj, rfl, rfl⟩
theorem EG.cin_some {g : EG} (h : g.Val) {p q : Int} (hf : g.cin p q = true) : g.cat p q < g.nc ∧ (g.c (g.cat p q)).a = p ∧ (g.c (g.cat p q)).b = q := by
  obtain ⟨j, hj, e1, e2⟩ := (fnd_iff (x := fun i => (g.c i).a) (y := fun i => (g.c i).b) h.cs).1 hf
  have h2 : g.cat (g.c j).a (g.c j).b = j := bnd_at (x := fun i => (g.c i).a) (y := fun i => (g.c i).b) h.cs hj
  subst e1 e2
  rw [h2]
  exact ⟨hj, rfl, rfl⟩

/-- What is in the register has been said: D a b o s, of the pair a, b officer o said s. -/
structure SaidI (g : EG) (D : Int → Int → Int → Bool → Prop) : Prop where
  cs : ∀ i, i < g.nc → ∀ j, j < (g.c i).nv → D (g.c i).a (g.c i).b ((g.c i).v j).o ((g.c i).v j).s
  ls : ∀ i, i < g.nl → ∃ o p : Int, ¬ o = p ∧ D (g.l i).a (g.l i).b o (g.l i).s ∧ D (g.l i).a (g.l i).b p (g.l i).s
theorem SaidI.add {g : EG} {D : Int → Int → Int → Bool → Prop} (h : SaidI g D) (q : Int) : SaidI (g.addG q) D := ⟨h.cs, h.ls⟩
theorem SaidI.rem {g : EG} {D : Int → Int → Int → Bool → Prop} (h : SaidI g D) (a : Nat) : SaidI (g.remG a) D :=
  ⟨fun i hi j hj => h.cs _ (kept_at hi).1 j hj, fun i hi => h.ls _ (kept_at hi).1⟩
theorem th_bd {g : EG} (h : g.Val) {a : Int} (ha : g.th a = true) : 0 ≤ a ∧ a < 24 := by
  have := EG.th_iff.1 ha
  have := h.nr
  omega
theorem SaidI.wd {g : EG} {D D' : Int → Int → Int → Bool → Prop} (h : SaidI g D) (hv : g.Val) {p q : Int} (hf : g.lin p q = true) (hD : ∀ x y o s, 0 ≤ y → y < 24 → ¬ (x = p ∧ y = q) → D x y o s → D' x y o s) : SaidI (g.dropL (g.lat p q)) D' := by
  obtain ⟨k1, k2, k3⟩ := EG.lin_some hv hf
  generalize g.lat p q = k at *
  refine ⟨fun i hi j hj => ?_, fun i hi => ?_⟩
  · have b1 := th_bd hv (hv.cp i hi).2.1
    refine hD _ _ _ _ b1.1 b1.2 ?_ (h.cs i hi j hj)
    have := hv.cl i k hi k1
    rw [k2, k3] at this
    exact fun e => this ⟨e.1.symm, e.2.symm⟩
  · have key : ∀ m, m < g.nl → ¬ m = k → ∃ o p : Int, ¬ o = p ∧ D' (g.l m).a (g.l m).b o (g.l m).s ∧ D' (g.l m).a (g.l m).b p (g.l m).s := fun m hm hne => by
      obtain ⟨o1, o2, e0, e1, e2⟩ := h.ls m hm
      have b1 := th_bd hv (hv.lp m hm).2.1
      have hn : ¬ ((g.l m).a = p ∧ (g.l m).b = q) := fun e => hne (hv.ls.ne hm k1 (by show (g.l m).a = (g.l k).a; rw [e.1, k2]) (by show (g.l m).b = (g.l k).b; rw [e.2, k3]))
      exact ⟨o1, o2, e0, hD _ _ _ _ b1.1 b1.2 hn e1, hD _ _ _ _ b1.1 b1.2 hn e2⟩
    have hi : i < g.nl - 1 := hi
    show ∃ o p : Int, ¬ o = p ∧ D' (if i < k then g.l i else g.l (i + 1)).a (if i < k then g.l i else g.l (i + 1)).b o (if i < k then g.l i else g.l (i + 1)).s ∧ D' (if i < k then g.l i else g.l (i + 1)).a (if i < k then g.l i else g.l (i + 1)).b p (if i < k then g.l i else g.l (i + 1)).s
    by_cases e : i < k
    · rw [if_pos e]; exact key i (by omega) (by omega)
    · rw [if_neg e]; exact key (i + 1) (by omega) (by omega)
theorem SaidI.vote {g : EG} {D D' : Int → Int → Int → Bool → Prop} (h : SaidI g D) {o a b : Int} {s : Bool} (hE : g.voteE o a b s = 0) (hD : ∀ x y o s, D x y o s → D' x y o s) (hn : D' (min a b) (max a b) o s) : SaidI (g.voteG o a b s) D' := by
  obtain ⟨hv, ho, hab, ta, tb, hl, hcase⟩ := EG.voteE_zero hE
  have hval := EG.val_iff.1 hv
  have hls : ∀ i, i < g.nl → ∃ o p : Int, ¬ o = p ∧ D' (g.l i).a (g.l i).b o (g.l i).s ∧ D' (g.l i).a (g.l i).b p (g.l i).s := fun i hi => by
    obtain ⟨o1, o2, e0, e1, e2⟩ := h.ls i hi
    exact ⟨o1, o2, e0, hD _ _ _ _ e1, hD _ _ _ _ e2⟩
  have hcs : ∀ i, i < g.nc → ∀ j, j < (g.c i).nv → D' (g.c i).a (g.c i).b ((g.c i).v j).o ((g.c i).v j).s := fun i hi j hj => hD _ _ _ _ (h.cs i hi j hj)
  unfold EG.voteG
  rcases hcase with ⟨c1, _⟩ | ⟨c1, c2, c3⟩
  · rw [if_pos c1]
    refine ⟨fun i hi => ?_, hls⟩
    have hi : i < g.nc + 1 := hi
    generalize hx : (⟨min a b, max a b, 1, fun _ => ⟨o, s⟩⟩ : CsG) = x
    have hQ : ∀ j, j < x.nv → D' x.a x.b (x.v j).o (x.v j).s := fun j _ => by subst hx; exact hn
    have hk := g.cat_le (min a b) (max a b)
    generalize g.cat (min a b) (max a b) = k at *
    show ∀ j, j < (if i < k then g.c i else if i = k then x else g.c (i - 1)).nv → D' (if i < k then g.c i else if i = k then x else g.c (i - 1)).a (if i < k then g.c i else if i = k then x else g.c (i - 1)).b ((if i < k then g.c i else if i = k then x else g.c (i - 1)).v j).o ((if i < k then g.c i else if i = k then x else g.c (i - 1)).v j).s
    by_cases e1 : i < k
    · rw [if_pos e1]; exact hcs i (by omega)
    · rw [if_neg e1]
      by_cases e2 : i = k
      · rw [if_pos e2]; exact hQ
      · rw [if_neg e2]; exact hcs (i - 1) (by omega)
  rw [if_neg (by rw [c1]; simp)]
  obtain ⟨k1, k2, k3⟩ := EG.cin_some hval c1
  generalize g.cat (min a b) (max a b) = k at *
  rcases c3 with c3 | ⟨c3, _⟩
  · rw [if_pos c3]
    refine ⟨fun i hi => ?_, hls⟩
    have hi : i < g.nc := hi
    show ∀ j, j < (if i = k then (g.c k).addV ⟨o, s⟩ else g.c i).nv → D' (if i = k then (g.c k).addV ⟨o, s⟩ else g.c i).a (if i = k then (g.c k).addV ⟨o, s⟩ else g.c i).b ((if i = k then (g.c k).addV ⟨o, s⟩ else g.c i).v j).o ((if i = k then (g.c k).addV ⟨o, s⟩ else g.c i).v j).s
    by_cases e : i = k
    · rw [if_pos e]
      intro j hj
      show D' (g.c k).a (g.c k).b (if j < (g.c k).nv then (g.c k).v j else ⟨o, s⟩ : VtG).o (if j < (g.c k).nv then (g.c k).v j else ⟨o, s⟩ : VtG).s
      by_cases e2 : j < (g.c k).nv
      · rw [if_pos e2]; exact hcs k k1 j e2
      · rw [if_neg e2, k2, k3]; exact hn
    · rw [if_neg e]; exact hcs i hi
  · rw [if_neg (by rw [c3]; simp)]
    refine ⟨fun i hi => ?_, fun i hi => ?_⟩
    · have hi : i < g.nc - 1 := hi
      show ∀ j, j < (if i < k then g.c i else g.c (i + 1)).nv → D' (if i < k then g.c i else g.c (i + 1)).a (if i < k then g.c i else g.c (i + 1)).b ((if i < k then g.c i else g.c (i + 1)).v j).o ((if i < k then g.c i else g.c (i + 1)).v j).s
      by_cases e : i < k
      · rw [if_pos e]; exact hcs i (by omega)
      · rw [if_neg e]; exact hcs (i + 1) (by omega)
    · have hi : i < g.nl + 1 := hi
      obtain ⟨j, hj, hs⟩ : ∃ j, j < (g.c k).nv ∧ ((g.c k).v j).s = s := by
        simp only [CsG.says, List.any_eq_true, List.mem_range, decide_eq_true_eq] at c3
        exact c3
      have hoj : ¬ ((g.c k).v j).o = o := fun e => by
        have : (g.c k).has o = true := by
          simp only [CsG.has, List.any_eq_true, List.mem_range, decide_eq_true_eq]
          exact ⟨j, hj, e⟩
        rw [c2] at this; cases this
      have hQ : ∃ o1 p : Int, ¬ o1 = p ∧ D' (min a b) (max a b) o1 s ∧ D' (min a b) (max a b) p s := ⟨_, _, hoj, by
        have := hcs k k1 j hj
        rw [k2, k3, hs] at this
        exact this, hn⟩
      have hk := g.lat_le (min a b) (max a b)
      generalize g.lat (min a b) (max a b) = n at *
      show ∃ o1 p : Int, ¬ o1 = p ∧ D' (if i < n then g.l i else if i = n then ⟨min a b, max a b, s⟩ else g.l (i - 1) : LkG).a (if i < n then g.l i else if i = n then ⟨min a b, max a b, s⟩ else g.l (i - 1) : LkG).b o1 (if i < n then g.l i else if i = n then ⟨min a b, max a b, s⟩ else g.l (i - 1) : LkG).s ∧ D' (if i < n then g.l i else if i = n then ⟨min a b, max a b, s⟩ else g.l (i - 1) : LkG).a (if i < n then g.l i else if i = n then ⟨min a b, max a b, s⟩ else g.l (i - 1) : LkG).b p (if i < n then g.l i else if i = n then ⟨min a b, max a b, s⟩ else g.l (i - 1) : LkG).s
      by_cases e1 : i < n
      · rw [if_pos e1]; exact hls i (by omega)
      · rw [if_neg e1]
        by_cases e2 : i = n
        · rw [if_pos e2]; exact hQ
        · rw [if_neg e2]; exact hls (i - 1) (by omega)
/-- A reason is there exactly if the link says so. -/
theorem EG.link_wE {g : EG} (hv : g.Val) {i : Nat} (hi : i < g.nl) : g.wE (g.l i).a (g.l i).b = 0 ↔ (g.l i).s = true := by
  have hvv := EG.val_iff.2 hv
  obtain ⟨t1, t2, t3⟩ := hv.lp i hi
  have b1 := EG.th_iff.1 t1
  have b2 := EG.th_iff.1 t2
  have hj : ∀ x y : Int, g.th x = true → g.th y = true → (g.q x = g.q y ↔ g.Con g.nl x y) := fun x y hx hy => by
    have := EG.joB_iff hvv (a := x) (b := y)
    simp only [EG.joB, hvv, hx, hy, Bool.true_and, decide_eq_true_eq, true_and] at this
    exact this
  have hw : g.wE (g.l i).a (g.l i).b = 0 ↔ g.q (g.l i).a = g.q (g.l i).b := by
    have e1 : (((g.l i).a.toNat : Nat) : Int) = (g.l i).a := by omega
    have e2 : (((g.l i).b.toNat : Nat) : Int) = (g.l i).b := by omega
    have hq := EG.far_q hvv (a := (g.l i).a.toNat) (b := (g.l i).b.toNat) (by rw [e1]; exact t1) (by rw [e2]; exact t2)
    rw [e1, e2] at hq
    exact ⟨fun e => hq.2 (EG.wE_zero e).2.2.2, fun e => EG.wE_of hvv t1 t2 (hq.1 e)⟩
  rw [hw, hj _ _ t1 t2]
  constructor
  · intro hc
    cases hs : (g.l i).s with
    | true => rfl
    | false => exact absurd hc (hv.ld i hi hs)
  · exact fun hs => .step (.refl _) ⟨i, hi, hs, .inl ⟨rfl, rfl⟩⟩
end Go.Gx
