/-
  The people as lists: plain facts.
-/
import Derived.Test.YtnajladibkpeaaaW7
set_option linter.unusedVariables false
set_option linter.unusedSimpArgs false
set_option maxRecDepth 20000
set_option maxHeartbeats 4000000
namespace Go.Gx
open Go.RowKit Go.Proofs Go.Proofs.Ytnajladibkpeaaa

theorem nth_get {l : List Nat} {i : Nat} (hi : i < l.length) : nth l i = l[i] := by simp [nth, List.getD, hi]
/-- A part of the numbers below n, in order. -/
theorem filter_nth {n : Nat} {p : Nat → Bool} {i : Nat} (hi : i < ((List.range n).filter p).length) : nth ((List.range n).filter p) i < n ∧ p (nth ((List.range n).filter p) i) = true := by
  rw [nth_get hi]
  have := List.mem_filter.1 (List.getElem_mem hi)
  exact ⟨List.mem_range.1 this.1, this.2⟩
theorem filter_lt {n : Nat} {p : Nat → Bool} {i j : Nat} (hij : i < j) (hj : j < ((List.range n).filter p).length) : nth ((List.range n).filter p) i < nth ((List.range n).filter p) j := by
  rw [nth_get hj, nth_get (by omega)]
  have h : ((List.range n).filter p).Pairwise (· < ·) := List.Pairwise.filter _ List.pairwise_lt_range
  exact List.pairwise_iff_getElem.1 h i j (by omega) hj hij
theorem filter_first {n : Nat} {p : Nat → Bool} {a : Nat} (ha : a < n) (hp : p a = true) (hmin : ∀ b, b < n → p b = true → a ≤ b) : 0 < ((List.range n).filter p).length ∧ nth ((List.range n).filter p) 0 = a := by
  have hm : a ∈ (List.range n).filter p := List.mem_filter.2 ⟨List.mem_range.2 ha, hp⟩
  have h0 : 0 < ((List.range n).filter p).length := List.length_pos_of_mem hm
  refine ⟨h0, ?_⟩
  obtain ⟨i, hi, e⟩ := List.getElem_of_mem hm
  have h1 := filter_nth h0
  have h2 := hmin _ h1.1 h1.2
  by_cases hz : i = 0
  · subst hz
    rw [nth_get h0]; exact e
  · have h3 := filter_lt (p := p) (by omega : 0 < i) hi
    rw [nth_get hi, e] at h3
    omega
def sumL (f : Nat → Nat) (l : List Nat) : Nat := (l.map f).foldr (· + ·) 0
theorem sumL_nil (f : Nat → Nat) : sumL f [] = 0 := rfl
theorem sumL_cons (f : Nat → Nat) (x : Nat) (l : List Nat) : sumL f (x :: l) = f x + sumL f l := rfl
theorem sumL_add (f h : Nat → Nat) : ∀ l, sumL (fun x => f x + h x) l = sumL f l + sumL h l
  | [] => rfl
  | x :: l => by rw [sumL_cons, sumL_cons, sumL_cons, sumL_add f h l]; omega
theorem sumL_congr {f h : Nat → Nat} : ∀ {l : List Nat}, (∀ x ∈ l, f x = h x) → sumL f l = sumL h l
  | [], _ => rfl
  | x :: l, e => by rw [sumL_cons, sumL_cons, e x (by simp), sumL_congr fun y hy => e y (by simp [hy])]
theorem sumL_zero : ∀ l, sumL (fun _ => 0) l = 0
  | [] => rfl
  | x :: l => by rw [sumL_cons, sumL_zero l]
theorem sumL_app (f : Nat → Nat) : ∀ l l', sumL f (l ++ l') = sumL f l + sumL f l'
  | [], l' => by simp [sumL_nil]
  | x :: l, l' => by rw [List.cons_append, sumL_cons, sumL_cons, sumL_app f l l']; omega
theorem sumL_one {a : Nat} : ∀ {l : List Nat}, l.Nodup → a ∈ l → sumL (fun x => if x = a then 1 else 0) l = 1
  | [], _, h => by simp at h
  | x :: l, hd, h => by
    rw [sumL_cons]
    have hd := List.nodup_cons.1 hd
    by_cases e : x = a
    · subst e
      rw [if_pos rfl, sumL_congr (h := fun _ => 0) fun y hy => if_neg fun e' => hd.1 (by rw [← e']; exact hy), sumL_zero]
    · rw [if_neg e, sumL_one hd.2 (by simpa [Ne.symm e] using h)]
/-- How many records are there. -/
def EG.cnt (g : EG) (k : Nat) : Nat := ((List.range k).filter fun b : Nat => !(g.r b).g).length
theorem EG.cnt_succ (g : EG) (k : Nat) : g.cnt (k + 1) = g.cnt k + if (g.r k).g then 0 else 1 := by
  unfold EG.cnt
  rw [List.range_succ, List.filter_append, List.length_append]
  cases h : (g.r k).g <;> simp [h]
theorem EG.th_nat {g : EG} {k : Nat} (hk : k < g.nr) : g.th k = !(g.r k).g := by
  rw [Bool.eq_iff_iff, EG.th_iff]
  simp [hk]
theorem EG.cl_sum {g : EG} (hl : g.lth) : ∀ k, k ≤ g.nr → sumL (fun p => (g.cl p k).length) (g.rts g.nr) = g.cnt k
  | 0, _ => sumL_congr (h := fun _ => 0) (fun x _ => by simp [EG.cl]) |>.trans (sumL_zero _)
  | k + 1, hk => by
    have ih := EG.cl_sum hl k (by omega)
    have ht := EG.th_nat (g := g) (k := k) (by omega)
    rw [EG.cnt_succ]
    cases hg : (g.r k).g
    · rw [hg] at ht
      have ht : g.th k = true := ht
      have hp0 := EG.pm_bd hl g.nl k (Nat.le_refl _) (by omega) (by omega)
      obtain ⟨p, hp⟩ : ∃ p : Nat, g.pm g.nl k = p := ⟨(g.pm g.nl k).toNat, by omega⟩
      have hm : p ∈ g.rts g.nr := List.mem_filter.2 ⟨List.mem_range.2 (by omega), EG.hc_iff.2 ⟨k, by omega, ht, hp⟩⟩
      have hnd : (g.rts g.nr).Nodup := List.Nodup.sublist List.filter_sublist List.nodup_range
      have e : ∀ x ∈ g.rts g.nr, (g.cl x (k + 1)).length = (g.cl x k).length + if x = p then 1 else 0 := fun x _ => by
        rw [EG.cl_succ, ht, hp]
        by_cases e : x = p
        · subst e; simp
        · rw [if_neg (by simp; omega), if_neg e]; rfl
      rw [sumL_congr e, sumL_add, ih, sumL_one hnd hm]
      simp
    · rw [hg] at ht
      have ht : g.th k = false := ht
      have e : ∀ x ∈ g.rts g.nr, (g.cl x (k + 1)).length = (g.cl x k).length := fun x _ => by
        rw [EG.cl_succ, ht]; simp
      rw [sumL_congr e, ih]
      simp
/-- The rows of People. -/
def EG.row (g : EG) (i : Nat) : List Nat := g.cl (nth (g.rts g.nr) i) g.nr
theorem EG.row_llR {g : EG} (hv : g.valid = true) {i : Nat} (hi : i < (g.ppl g.nr).length) : llR (g.ppl g.nr) i 0 = .rs 1 (g.row i).length (intsR (g.row i)) ∧ i < (g.rts g.nr).length := by
  have h := EG.ppl_rts (EG.valid_lth hv) (EG.valid_inl hv)
  have hi' : i < (g.rts g.nr).length := by rw [h, List.length_map] at hi; exact hi
  refine ⟨?_, hi'⟩
  rw [h]
  simp [llR, List.getD, hi', EG.row, nth]
  rfl
theorem EG.row_ok {g : EG} (hv : g.valid = true) {i : Nat} (hi : i < (g.rts g.nr).length) :
    0 < (g.row i).length ∧ nth (g.row i) 0 = nth (g.rts g.nr) i ∧ ∀ k, k < (g.row i).length → nth (g.row i) k < g.nr ∧ g.th (nth (g.row i) k) = true ∧ g.pm g.nl (nth (g.row i) k) = nth (g.rts g.nr) i := by
  have hl := EG.valid_lth hv
  have h1 := filter_nth hi
  obtain ⟨b, b1, b2, b3⟩ := EG.hc_iff.1 h1.2
  have e1 := EG.pm_th hl b2
  have e2 := g.pm_pm b
  rw [b3] at e1 e2
  have h2 := filter_first (n := g.nr) (p := fun b : Nat => g.th b && decide (g.pm g.nl b = (nth (g.rts g.nr) i : Nat))) h1.1 (by simp only [Bool.and_eq_true, decide_eq_true_eq]; exact ⟨e1, e2⟩) fun c hc hp => by
    simp only [Bool.and_eq_true, decide_eq_true_eq] at hp
    have := g.pm_le g.nl c
    have hp2 : g.pm g.nl c = (nth (g.rts g.nr) i : Nat) := hp.2
    show nth (g.rts g.nr) i ≤ c
    omega
  refine ⟨h2.1, h2.2, fun k hk => ?_⟩
  have h3 := filter_nth hk
  simp only [Bool.and_eq_true, decide_eq_true_eq] at h3
  exact ⟨h3.1, h3.2.1, h3.2.2⟩
theorem EG.bp_q {g : EG} {a : Nat} (ha : (g.r a).g = false) : ∀ k, a < k → (g.r a).q ≤ (g.r (g.bp a k).toNat).q
  | 0, h => by omega
  | k + 1, h => by
    unfold EG.bp
    by_cases e : k = a
    · subst e
      split
      · simp
      · rename_i hn
        simp [ha] at hn
        omega
    · have ih := EG.bp_q ha k (by omega)
      split
      · rename_i hy
        simp at hy
        show (g.r a).q ≤ (g.r (k : Int).toNat).q
        simp only [Int.toNat_natCast]
        omega
      · exact ih
end Go.Gx
