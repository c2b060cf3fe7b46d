/-
  Plain facts: two decisions in either order; what a vote keeps.
-/
import Derived.Test.YtnajladibkpeaaaGreatHn
set_option linter.unusedVariables false
set_option linter.unusedSimpArgs false
set_option maxRecDepth 20000
set_option maxHeartbeats 4000000
namespace Go.Gx
open Go.RowKit Go.Proofs Go.Proofs.YtnajladibkpeaaaGreat

/-! ### order -/
theorem ins_perm {α : Type} {k : Nat} {v : α} {x : Nat → α} : ∀ n, k ≤ n → ((List.range (n + 1)).map (ins k v x)).Perm (v :: (List.range n).map x)
  | 0, h => by
    have : k = 0 := by omega
    subst this
    simp [ins]
  | n + 1, h => by
    rw [List.range_succ, List.map_append]
    by_cases e : k = n + 1
    · subst e
      have e1 : (List.range (n + 1)).map (ins (n + 1) v x) = (List.range (n + 1)).map x := List.map_congr_left fun i hi => by
        have := List.mem_range.1 hi
        simp only [ins, if_pos this]
      rw [e1]
      simp only [List.map_cons, List.map_nil, ins, Nat.lt_irrefl, if_false, if_true]
      exact List.perm_append_comm
    · have ih := ins_perm (k := k) (v := v) (x := x) n (by omega)
      have e2 : ins k v x (n + 1) = x n := by simp only [ins, if_neg (show ¬ n + 1 < k by omega), if_neg (show ¬ n + 1 = k by omega), Nat.add_sub_cancel]
      have e3 : (List.range (n + 1)).map x = (List.range n).map x ++ [x n] := by rw [List.range_succ, List.map_append]; rfl
      rw [e3]
      simp only [List.map_cons, List.map_nil, e2]
      exact (ih.append_right [x n])
def EG.links (g : EG) : List LkG := (List.range g.nl).map g.l
theorem EG.links_srt {g : EG} (h : g.Val) : g.links.Pairwise fun x y => befB x.a x.b y.a y.b = true := by
  unfold EG.links
  rw [List.pairwise_map]
  refine List.Pairwise.imp_of_mem (fun {i j} hi hj hij => ?_) List.pairwise_lt_range
  exact h.ls i j hij (List.mem_range.1 hj)
theorem EG.links_eq {g h : EG} (hg : g.Val) (hh : h.Val) (hp : g.links.Perm h.links) : g.nl = h.nl ∧ ∀ i, i < g.nl → g.l i = h.l i := by
  have e : g.links = h.links := List.Perm.eq_of_pairwise (le := fun x y : LkG => befB x.a x.b y.a y.b = true) (fun x y _ _ h1 h2 => by
    have h1 := befB_iff'.1 h1
    have h2 := befB_iff'.1 h2
    omega) (EG.links_srt hg) (EG.links_srt hh) hp
  have e1 : g.nl = h.nl := by
    have := congrArg List.length e
    simpa [EG.links] using this
  refine ⟨e1, fun i hi => ?_⟩
  have := congrArg (fun l : List LkG => l[i]?) e
  simpa [EG.links, hi, e1 ▸ hi] using this
theorem EG.two_ok {g : EG} {a b : Int} {s : Bool} (h0 : g.nc = 0) (h1 : g.voteE 0 a b s = 0) (h2 : (g.voteG 0 a b s).voteE 1 a b s = 0) (h3 : (g.voteG 0 a b s).voteD a b s = true) :
    let y := (g.voteG 0 a b s).voteG 1 a b s
    y.nr = g.nr ∧ y.r = g.r ∧ y.nc = 0 ∧ y.Val ∧ y.nl = g.nl + 1 ∧ y.links.Perm (⟨min a b, max a b, s⟩ :: g.links) := by
  intro y
  have hy : y.Val := EG.Val.vote h2
  have hc : g.cin (min a b) (max a b) = false := by
    unfold EG.cin fnd
    rw [h0]
    simp
  have ex : g.voteG 0 a b s = g.addC (g.cat (min a b) (max a b)) ⟨min a b, max a b, 1, fun _ => ⟨0, s⟩⟩ := by unfold EG.voteG; rw [if_pos hc]
  have ey0 : y = (g.voteG 0 a b s).voteG 1 a b s := rfl
  clear_value y
  generalize hx : g.voteG 0 a b s = x at *
  have xl : x.nl = g.nl ∧ x.l = g.l ∧ x.nr = g.nr ∧ x.r = g.r ∧ x.nc = 1 := by rw [ex]; exact ⟨rfl, rfl, rfl, rfl, by show g.nc + 1 = 1; omega⟩
  unfold EG.voteD at h3
  simp only [Bool.and_eq_true] at h3
  have ey : y = (x.dropC (x.cat (min a b) (max a b))).addL (x.lat (min a b) (max a b)) ⟨min a b, max a b, s⟩ := by
    rw [ey0]
    unfold EG.voteG
    rw [if_neg (by rw [h3.1]; simp), if_neg (by rw [h3.2]; simp)]
  refine ⟨?_, ?_, ?_, hy, ?_, ?_⟩
  · rw [ey]; exact xl.2.2.1
  · rw [ey]; exact xl.2.2.2.1
  · rw [ey]; show x.nc - 1 = 0; omega
  · rw [ey]; show x.nl + 1 = _; rw [xl.1]
  · rw [ey]
    have := ins_perm (k := x.lat (min a b) (max a b)) (v := (⟨min a b, max a b, s⟩ : LkG)) (x := x.l) x.nl (x.lat_le _ _)
    show ((List.range (x.nl + 1)).map (ins (x.lat (min a b) (max a b)) _ x.l)).Perm _
    unfold EG.links
    rw [← xl.1, ← xl.2.1]
    exact this
theorem EG.order {g y u v w : EG} (hy : y.Val) (hv : w.Val) {a b : LkG} (y1 : y.links.Perm (b :: u.links)) (y2 : u.links.Perm (a :: g.links)) (w1 : w.links.Perm (a :: v.links)) (w2 : v.links.Perm (b :: g.links))
    (hr : y.nr = w.nr) (hr2 : y.r = w.r) (hc : y.nc = 0) (hc2 : w.nc = 0) : y.smB w = true := by
  have hp : y.links.Perm w.links := (y1.trans (y2.cons b)).trans ((List.Perm.swap a b _).trans ((w2.symm.cons a).trans w1.symm))
  obtain ⟨e1, e2⟩ := EG.links_eq hy hv hp
  unfold EG.smB
  simp only [Bool.and_eq_true, decide_eq_true_eq]
  refine ⟨⟨⟨hr, all_yes fun i hi => by rw [hr2]; exact RcG.eqB_rfl _⟩, e1, all_yes fun i hi => by rw [e2 i hi]; exact LkG.eqB_rfl _⟩, by omega, all_yes fun i hi => by omega⟩
/-! ### what a vote keeps -/
def sumR (f : Nat → Nat) : Nat → Nat
  | 0 => 0
  | n + 1 => sumR f n + f n
theorem sumR_congr {f h : Nat → Nat} : ∀ n, (∀ i, i < n → f i = h i) → sumR f n = sumR h n
  | 0, _ => rfl
  | n + 1, e => by simp only [sumR, sumR_congr n fun i hi => e i (by omega), e n (by omega)]
theorem sumR_ins {k v : Nat} {x : Nat → Nat} : ∀ n, k ≤ n → sumR (ins k v x) (n + 1) = sumR x n + v
  | 0, h => by
    have : k = 0 := by omega
    subst this
    simp [sumR, ins]
  | n + 1, h => by
    show sumR (ins k v x) (n + 1) + ins k v x (n + 1) = sumR x n + x n + v
    by_cases e : k = n + 1
    · subst e
      have e1 : sumR (ins (n + 1) v x) (n + 1) = sumR x (n + 1) := sumR_congr (n + 1) fun i hi => if_pos hi
      rw [e1]
      simp only [ins, Nat.lt_irrefl, if_false, if_true, sumR]
    · rw [sumR_ins (k := k) (v := v) (x := x) n (by omega)]
      have e2 : ins k v x (n + 1) = x n := by simp only [ins, if_neg (show ¬ n + 1 < k by omega), if_neg (show ¬ n + 1 = k by omega), Nat.add_sub_cancel]
      rw [e2]
      omega
theorem sumR_del {k : Nat} {x : Nat → Nat} : ∀ n, k ≤ n → sumR x (n + 1) = sumR (del k x) n + x k
  | 0, h => by
    have : k = 0 := by omega
    subst this
    simp [sumR]
  | n + 1, h => by
    show sumR x (n + 1) + x (n + 1) = sumR (del k x) n + del k x n + x k
    by_cases e : k = n + 1
    · subst e
      have e1 : sumR (del (n + 1) x) n = sumR x n := sumR_congr n fun i hi => if_pos (show i < n + 1 by omega)
      rw [e1]
      simp only [del, if_pos (Nat.lt_succ_self n), sumR]
    · rw [sumR_del (k := k) (x := x) n (by omega)]
      simp only [del, if_neg (show ¬ n < k by omega)]
      omega
theorem sumR_one {k d : Nat} {x y : Nat → Nat} : ∀ n, k < n → (∀ i, i < n → y i = if i = k then x i + d else x i) → sumR y n = sumR x n + d
  | 0, h, _ => by omega
  | n + 1, h, e => by
    simp only [sumR]
    rw [e n (by omega)]
    by_cases hk : n = k
    · subst hk
      rw [if_pos rfl, sumR_congr (h := x) n fun i hi => by rw [e i (by omega), if_neg (by omega)]]
      omega
    · rw [if_neg hk, sumR_one n (by omega) fun i hi => e i (by omega)]
      omega
/-- The number of votes. -/
def EG.vts (g : EG) : Nat := sumR (fun i => (g.c i).nv) g.nc
theorem EG.keeps {g : EG} {o a b : Int} {s : Bool} (h : g.voteE o a b s = 0) :
    let x := g.voteG o a b s
    x.valid = true ∧ x.nr = g.nr ∧ (g.voteD a b s = false → x.vts = g.vts + 1 ∧ x.nl = g.nl) ∧
    (g.voteD a b s = true → (∃ i : Nat, x.fnl a b = i ∧ i < x.nl ∧ (x.l i).s = s) ∧ x.nl = g.nl + 1 ∧ g.nc = x.nc + 1 ∧ x.vts < g.vts ∧
      x.wdE b a = 0 ∧ (x.wdX b a).nl = g.nl ∧ (x.wdX b a).valid = true ∧ (x.wdX b a).fnl a b = -1) := by
  intro x
  have hxv : x.Val := EG.Val.vote h
  obtain ⟨hv, _, hab, ta, tb, hl, hcase⟩ := EG.voteE_zero h
  have hg := EG.val_iff.1 hv
  have hcos := EG.valid_cos hv
  refine ⟨EG.val_iff.2 hxv, (g.vote_nr o a b s).1, fun hD => ?_, fun hD => ?_⟩
  · unfold EG.voteD at hD
    by_cases c1 : g.cin (min a b) (max a b) = false
    · have ex : x = g.addC (g.cat (min a b) (max a b)) ⟨min a b, max a b, 1, fun _ => ⟨o, s⟩⟩ := by show g.voteG o a b s = _; unfold EG.voteG; rw [if_pos c1]
      rw [ex]
      refine ⟨?_, rfl⟩
      have := sumR_ins (k := g.cat (min a b) (max a b)) (v := 1) (x := fun i => (g.c i).nv) g.nc (g.cat_le _ _)
      unfold EG.vts
      rw [← this]
      exact sumR_congr (g.nc + 1) fun i hi => by
        have := congrFun (ins_map CsG.nv (g.cat (min a b) (max a b)) ⟨min a b, max a b, 1, fun _ => ⟨o, s⟩⟩ g.c) i
        exact this
    · have c1' : g.cin (min a b) (max a b) = true := by simpa using c1
      rw [c1', Bool.true_and] at hD
      have ex : x = g.addV (g.cat (min a b) (max a b)) ⟨o, s⟩ := by show g.voteG o a b s = _; unfold EG.voteG; rw [if_neg c1, if_pos hD]
      rw [ex]
      refine ⟨?_, rfl⟩
      unfold EG.vts
      refine sumR_one (k := g.cat (min a b) (max a b)) g.nc (EG.cin_lt c1') fun i hi => ?_
      simp only [EG.addV]
      split
      · rename_i e; rw [e]; rfl
      · rfl
  · unfold EG.voteD at hD
    simp only [Bool.and_eq_true] at hD
    have ex : x = (g.dropC (g.cat (min a b) (max a b))).addL (g.lat (min a b) (max a b)) ⟨min a b, max a b, s⟩ := by
      show g.voteG o a b s = _; unfold EG.voteG
      rw [if_neg (by rw [hD.1]; simp), if_neg (by rw [hD.2]; simp)]
    have hk := g.lat_le (min a b) (max a b)
    have hlt := EG.cin_lt hD.1
    have xnl : x.nl = g.nl + 1 := by rw [ex]; rfl
    have xlk : x.l (g.lat (min a b) (max a b)) = ⟨min a b, max a b, s⟩ := by
      rw [ex]; simp only [EG.addL, Nat.lt_irrefl, if_false, if_true]
    have hkx : g.lat (min a b) (max a b) < x.nl := by omega
    have hfn : x.fnl a b = (g.lat (min a b) (max a b) : Nat) := EG.fnl_at hxv hkx (by rw [xlk]) (by rw [xlk])
    have hlin : x.lin (min b a) (max b a) = true := (fnd_iff (x := fun i => (x.l i).a) (y := fun i => (x.l i).b) hxv.ls).2 ⟨_, hkx, by show (x.l _).a = _; rw [xlk]; exact Int.min_comm _ _, by show (x.l _).b = _; rw [xlk]; exact Int.max_comm _ _⟩
    have hwd : x.wdE b a = 0 := by unfold EG.wdE; rw [if_neg (by rw [EG.val_iff.2 hxv]; simp), if_neg (by rw [hlin]; simp)]
    have hlat : x.lat (min b a) (max b a) = g.lat (min a b) (max a b) := by
      rw [Int.min_comm b a, Int.max_comm b a]
      have := bnd_at (x := fun i => (x.l i).a) (y := fun i => (x.l i).b) hxv.ls hkx
      rw [xlk] at this
      exact this
    have ew : x.wdX b a = x.dropL (g.lat (min a b) (max a b)) := by unfold EG.wdX; rw [if_pos hwd, hlat]
    refine ⟨⟨_, hfn, hkx, by rw [xlk]⟩, xnl, ?_, ?_, hwd, ?_, ?_, ?_⟩
    · rw [ex]; show g.nc = g.nc - 1 + 1; omega
    · have h1 := sumR_del (k := g.cat (min a b) (max a b)) (x := fun i => (g.c i).nv) (g.nc - 1) (by omega)
      have h2 := (votB_iff.1 (hg.cv _ hlt)).1
      have h3 : x.vts = sumR (del (g.cat (min a b) (max a b)) fun i => (g.c i).nv) (g.nc - 1) := by
        rw [ex]
        show sumR (fun i => ((g.dropC (g.cat (min a b) (max a b))).c i).nv) (g.nc - 1) = _
        exact sumR_congr _ fun i hi => congrFun (del_map CsG.nv (g.cat (min a b) (max a b)) g.c) i
      unfold EG.vts at *
      rw [show g.nc - 1 + 1 = g.nc by omega] at h1
      omega
    · rw [ew]; show x.nl - 1 = g.nl; omega
    · rw [ew]; exact EG.val_iff.2 (hxv.dropL _)
    · rw [ew]
      refine EG.fnl_no fun j hj he => ?_
      have hj : j < x.nl - 1 := hj
      simp only [EG.dropL] at he
      split at he
      · have := hxv.ls.ne (i := j) (j := g.lat (min a b) (max a b)) (by omega) hkx (by show (x.l j).a = (x.l _).a; rw [xlk, he.1]) (by show (x.l j).b = (x.l _).b; rw [xlk, he.2])
        omega
      · have := hxv.ls.ne (i := j + 1) (j := g.lat (min a b) (max a b)) (by omega) hkx (by show (x.l (j + 1)).a = (x.l _).a; rw [xlk, he.1]) (by show (x.l (j + 1)).b = (x.l _).b; rw [xlk, he.2])
        omega
end Go.Gx
