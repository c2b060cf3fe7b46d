/-
  The program's Suspects and Twins.
-/
import Derived.Test.YtnajladibkpeaaaGreatW1
import Derived.Test.YtnajladibkpeaaaGreatU6
set_option linter.unusedVariables false
set_option linter.unusedSimpArgs false
set_option maxRecDepth 20000
set_option maxHeartbeats 4000000
namespace Go.Gx
open Go.RowKit Go.Proofs Go.Proofs.YtnajladibkpeaaaGreat

/-- A desk, as it reads. -/
def EG.dD (g : EG) : Nat → Nat → RV := fun _ j => if j = 0 then .rs 2 g.nr fun i j => (g.r i).c j else if j = 1 then .rs 3 g.nl fun i j => (g.l i).c j else if j = 2 then .rs 3 g.nc fun i j => (g.c i).c j else if j = 3 then .mp g.th fun a => .i (g.q a) else .any
def EG.matP (g : EG) (m : MG) : SV := if g.askE m = 0 then .tup [dk g.dD, prs m.l, .i 0] else .tup [nilP, nilS, .i (g.askE m)]
theorem matched97p (HS : SortOK) (g : EG) (h : g.OK) (m : MG) (hn : m.n ≤ 1000000) : Pure Tryz.prog 68 [g.sv, m.sv] (· = g.matP m) := by
  refine Pure.ofSub ((matched97 HS g h m hn).pure ?_)
  unfold EG.matS EG.matR EG.matP
  by_cases e : g.askE m = 0
  · simp only [e, if_true]
    simp [go_sem]
    funext x j
    match j with
    | 0 => rfl
    | 1 => rfl
    | 2 => rfl
    | 3 => rfl
    | j + 4 => rfl
  · simp only [e, if_false]
    simp [go_sem]
theorem MG.l_len (m : MG) : m.l.length ≤ m.n := by
  unfold MG.l
  rw [List.length_map]
  exact kept_le _ _
theorem srtL_mem {x : Nat → PrG} {n : Nat} {p : PrG} : p ∈ srtL x n ↔ ∃ i, i < n ∧ x i = p := by
  unfold srtL
  rw [List.mem_mergeSort, List.mem_map]
  simp only [List.mem_range]
theorem srtL_len (x : Nat → PrG) (n : Nat) : (srtL x n).length = n := by simp [srtL]
theorem srtX_mem {x : Nat → PrG} {n i : Nat} (hi : i < n) : srtX x n i ∈ srtL x n := by
  unfold srtX
  have : i < (srtL x n).length := by rw [srtL_len]; exact hi
  rw [List.getElem?_eq_getElem this]
  exact List.getElem_mem this
theorem MG.l_of {m : MG} {p : PrG} (h : p ∈ m.l) : ∃ i, i < m.n ∧ m.q i = p := by
  unfold MG.l at h
  obtain ⟨i, hi, rfl⟩ := List.mem_map.1 h
  exact srtL_mem.1 (srtX_mem (List.mem_range.1 (List.mem_filter.1 hi).1))
theorem EG.okm_q {g : EG} {m : MG} {i : Nat} (h : g.okm (m.p i) = true) : g.th (m.q i).a = true ∧ g.th (m.q i).b = true ∧ (m.q i).a < (m.q i).b := by
  simp only [EG.okm, Bool.and_eq_true, Bool.not_eq_true', decide_eq_false_iff_not] at h
  have := th_min h.1.1 h.1.2
  refine ⟨this.1, this.2, ?_⟩
  show min _ _ < max _ _
  omega
/-- A pair that goes with Suspects (false), with Twins (true). -/
def EG.go (g : EG) (d : Bool) (p : PrG) : Bool := (decide (0 ≤ g.ap p.a p.b) == d) && !decide (g.q p.a = g.q p.b)
def EG.som (g : EG) (m : MG) (d : Bool) (k : Nat) : List PrG := (m.l.take k).filter (g.go d)
theorem EG.som_succ (g : EG) (m : MG) (d : Bool) {k : Nat} (hk : k < m.l.length) : g.som m d (k + 1) = g.som m d k ++ if g.go d (m.l[k]?.getD ⟨0, 0⟩) then [m.l[k]?.getD ⟨0, 0⟩] else [] := by
  unfold EG.som
  rw [List.take_add_one, List.getElem?_eq_getElem hk]
  simp only [Option.toList, Option.getD_some, List.filter_append]
  congr 1
  cases hh : g.go d m.l[k] <;> simp [hh]
theorem EG.som_len (g : EG) (m : MG) (d : Bool) (k : Nat) : (g.som m d k).length ≤ k := by
  unfold EG.som
  exact Nat.le_trans (List.length_filter_le _ _) (List.length_take_le _ _)
def EG.somS (g : EG) (m : MG) (d : Bool) : SV := if g.askE m = 0 then .tup [prs (g.som m d m.l.length), .i 0] else .tup [nilS, .i (g.askE m)]
@[go_sem] theorem rowsP_0 (l : List PrG) (k : Nat) : rowsP l k 0 = .i (l[k]?.getD ⟨0, 0⟩).a := rfl
@[go_sem] theorem rowsP_1 (l : List PrG) (k : Nat) : rowsP l k 1 = .i (l[k]?.getD ⟨0, 0⟩).b := rfl
theorem some94 (HS : SortOK) (g : EG) (h : g.OK) (m : MG) (hn : m.n ≤ 1000000) (d : Bool) : Pure Tryz.prog 67 [g.sv, m.sv, .b d] (· = g.somS m d) := by
  refine Pure.ofSub ?_
  refine pure_of_GC T_ok Tryz.func67 rfl (by kernel_rfl) (Nat.le_of_ble_eq_true rfl) rfl rfl ?_
  simp [go_sem]
  have hm := matched97p HS g h m hn
  unfold EG.matP at hm
  rcases g.ask_cases m with ⟨hv, h60, hok, he⟩ | he
  rotate_left
  · rw [if_neg he] at hm
    refine call_val hm rfl rfl ?_
    simp [go_sem, he, EG.somS]
  rw [if_pos he] at hm
  refine call_val hm rfl rfl ?_
  simp [go_sem, EG.somS, he]
  have hll := m.l_len
  refine GLoop_pre (GSt.adopt 11 34 2 (fun i j => .r (rowsP [] i j)) rfl) ?_
  refine GLoop_s T_ok (α := Nat) (fun k => [(2, .b d), (8, dk g.dD), (11, .sl 1 2 0 (g.som m d k).length none), (26, prs m.l), (27, .i m.l.length), (28, .i k)]) (fun k => [g.bx, some (.vec 34 2 (g.som m d k).length fun i j => .r (rowsP (g.som m d k) i j))]) 2
    (fun k => k ≤ m.l.length) (fun k => m.l.length - k) 0 (fun _ => rfl) (by simp) (by simp [go_sem, EG.som]) (by simp [go_sem, EG.som]) ?_
  intro k J hk
  by_cases hlt : k < m.l.length
  rotate_left
  · have e : k = m.l.length := by omega
    subst e
    simp [go_sem]
  have hmem : m.l[k] ∈ m.l := List.getElem_mem hlt
  have hs := g.som_succ m d hlt
  rw [List.getElem?_eq_getElem hlt, Option.getD_some] at hs
  have hsl := g.som_len m d k
  simp [go_sem, hlt]
  generalize m.l[k] = p at hmem hs
  obtain ⟨i0, hi0, hq⟩ := MG.l_of hmem
  obtain ⟨t1, t2, t3⟩ := EG.okm_q (hok i0 hi0)
  rw [hq] at t1 t2 t3
  have ha := apart59 g h (EG.valid_lth hv) g.dD rfl rfl p.a p.b t1 t2
  have hd3 : ∀ r, g.dD r 3 = .mp g.th fun a => .i (g.q a) := fun _ => rfl
  have fin : g.go d p = false → g.som m d (k + 1) = g.som m d k := fun hf => by rw [hs, hf]; simp
  have finy : g.go d p = true → g.som m d (k + 1) = g.som m d k ++ [p] := fun hf => by rw [hs, hf]; simp
  have skip : g.go d p = false → ((-9223372036854775808 ≤ (k : Int) + 1 ∧ (k : Int) + 1 ≤ 9223372036854775807) ∧
    ∃ x', x' ≤ m.l.length ∧ m.l.length - x' < m.l.length - k ∧ ((g.som m d k).length = (g.som m d x').length ∧ (k : Int) + 1 = (x' : Int)) ∧ (g.som m d x').length ≤ (g.som m d k).length ∧
      ∀ (i j : Nat), i < (g.som m d x').length → j < 2 → rowsP (g.som m d k) i j = rowsP (g.som m d x') i j) := fun hf => by
    refine ⟨by omega, k + 1, by omega, by omega, ?_⟩
    rw [fin hf]
    exact ⟨⟨rfl, by omega⟩, Nat.le_refl _, fun _ _ _ _ => rfl⟩
  have hit : g.go d p = true → ∀ i j, i < (g.som m d k).length + 1 → j < 2 → SV.trim 2 (SV.kill 1 (joined (g.som m d k).length 1 (fun i j => SV.r (rowsP (g.som m d k) i j)) (fun i j => [SV.i p.a, SV.i p.b][i * 2 + j]?.getD (.r .any)) i j)) = SV.r (rowsP (g.som m d (k + 1)) i j) := fun hf i j hi hj => by
    rw [finy hf, rowsP_add hi]
    unfold joined
    by_cases h5 : i < (g.som m d k).length
    · simp [h5, SV.kill, SV.trim]
    · have h6 : i = (g.som m d k).length := by omega
      subst h6
      rcases (by omega : j = 0 ∨ j = 1) with rfl | rfl <;> simp [SV.kill, SV.trim, go_sem]
  have hlen : g.go d p = true → (g.som m d (k + 1)).length = (g.som m d k).length + 1 := fun hf => by rw [finy hf]; simp
  by_cases hx : 0 ≤ g.ap p.a p.b
  · rw [EG.lv_pos hx] at ha
    refine call_val ha rfl rfl ?_
    simp [go_sem, hx]
    refine GDraw_all T_ok (by kernel_rfl) (by kernel_rfl) ?_
    cases d
    · simp [go_sem]
      exact skip (by simp [EG.go, hx])
    · by_cases hqq : g.q p.a = g.q p.b
      · simp [go_sem, hd3, t1, t2, hqq]
        exact skip (by simp [EG.go, hqq])
      · simp [go_sem, hd3, t1, t2, hqq]
        have hg : g.go true p = true := by simp [EG.go, hx, hqq]
        have hl2 := hlen hg
        exact ⟨⟨by omega, by omega⟩, ⟨by omega, by omega⟩, k + 1, by omega, by omega, ⟨by omega, by omega⟩, by omega, fun i j hi hj => hit hg i j (by omega) hj⟩
  · rw [EG.lv_neg (by omega)] at ha
    refine call_val ha rfl rfl ?_
    simp [go_sem, hx]
    refine GDraw_all T_ok (by kernel_rfl) (by kernel_rfl) ?_
    cases d
    · by_cases hqq : g.q p.a = g.q p.b
      · simp [go_sem, hd3, t1, t2, hqq]
        exact skip (by simp [EG.go, hqq])
      · simp [go_sem, hd3, t1, t2, hqq]
        have hg : g.go false p = true := by simp [EG.go, hx, hqq]
        have hl2 := hlen hg
        exact ⟨⟨by omega, by omega⟩, ⟨by omega, by omega⟩, k + 1, by omega, by omega, ⟨by omega, by omega⟩, by omega, fun i j hi hj => hit hg i j (by omega) hj⟩
    · simp [go_sem]
      exact skip (by simp [EG.go, hx])
theorem suspects39 (HS : SortOK) (g : EG) (h : g.OK) (m : MG) (hn : m.n ≤ 1000000) : Pure Tryz.prog 27 [g.sv, m.sv] (· = g.somS m false) := by
  refine pure_of_GC T_ok Tryz.func27 rfl (by kernel_rfl) (Nat.le_of_ble_eq_true rfl) rfl rfl ?_
  have hs := some94 HS g h m hn false
  unfold EG.somS at *
  simp [go_sem]
  by_cases e : g.askE m = 0
  · rw [if_pos e] at hs ⊢
    refine call_val hs rfl rfl ?_
    simp [go_sem]
  · rw [if_neg e] at hs ⊢
    refine call_val hs rfl rfl ?_
    simp [go_sem]
theorem twins41 (HS : SortOK) (g : EG) (h : g.OK) (m : MG) (hn : m.n ≤ 1000000) : Pure Tryz.prog 33 [g.sv, m.sv] (· = g.somS m true) := by
  refine pure_of_GC T_ok Tryz.func33 rfl (by kernel_rfl) (Nat.le_of_ble_eq_true rfl) rfl rfl ?_
  have hs := some94 HS g h m hn true
  unfold EG.somS at *
  simp [go_sem]
  by_cases e : g.askE m = 0
  · rw [if_pos e] at hs ⊢
    refine call_val hs rfl rfl ?_
    simp [go_sem]
  · rw [if_neg e] at hs ⊢
    refine call_val hs rfl rfl ?_
    simp [go_sem]
end Go.Gx
/-
  The program's morph: two records of a list are of people known to be different.
-/
set_option linter.unusedVariables false
set_option linter.unusedSimpArgs false
set_option maxRecDepth 20000
set_option maxHeartbeats 4000000
namespace Go.Gx
open Go.RowKit Go.Proofs Go.Proofs.YtnajladibkpeaaaGreat

def EG.morB (g : EG) (l : List Nat) (i j : Nat) : Bool := decide (0 ≤ g.ap (nth l i) (nth l j))
def EG.morA (g : EG) (l : List Nat) : Bool := (List.range l.length).any fun i => (List.range i).any fun j => g.morB l i j
theorem morph98 (g : EG) (h : g.OK) (hl : g.lth) (D : Nat → Nat → RV) (hD1 : D 0 1 = .rs 3 g.nl fun i j => (g.l i).c j) (hD3 : D 0 3 = .mp g.th fun a => .i (g.q a)) (l : List Nat) (hn : l.length ≤ 1000000) (ht : ∀ i, i < l.length → g.th (nth l i) = true) :
    Pure Tryz.prog 69 [dk D, .r (.rs 1 l.length (intsR l))] (· = .b (g.morA l)) := by
  refine pure_of_GC T_ok Tryz.func69 rfl (by kernel_rfl) (Nat.le_of_ble_eq_true rfl) rfl rfl ?_
  simp [go_sem]
  refine GLoop_of T_ok (α := Nat) (fun i => [(0, dk D), (1, .r (.rs 1 l.length (intsR l))), (11, .r (.rs 1 l.length (intsR l))), (12, .i l.length), (13, .i i)]) (fun _ => []) 0 (fun i => i ≤ l.length ∧ ∀ k, k < i → ((List.range k).any fun j => g.morB l k j) = false) (fun i => l.length - i) 0 (fun _ => rfl) (by simp) (by simp [go_sem]) (by simp [go_sem]) ?_
  intro i J hi
  by_cases hlt : i < l.length
  rotate_left
  · simp [go_sem, hlt]
    have : g.morA l = false := any_no fun k hk => hi.2 k (by omega)
    rw [this]
  simp [go_sem, hlt]
  refine ⟨by omega, ?_⟩
  refine GLoop_of T_ok (α := Nat) (fun j => [(0, dk D), (1, .r (.rs 1 l.length (intsR l))), (6, .i (nth l i)), (11, .r (.rs 1 l.length (intsR l))), (12, .i l.length), (13, .i i), (20, .r (.rs 1 i (intsR l))), (21, .i i), (22, .i j)]) (fun _ => []) 0 (fun j => j ≤ i ∧ ∀ k, k < j → g.morB l i k = false) (fun j => i - j) 0 (fun _ => rfl) (by simp) (by simp [go_sem]) (by simp [go_sem]) ?_
  intro j J hj
  by_cases hlt2 : j < i
  rotate_left
  · simp [go_sem, hlt2]
    refine ⟨by omega, i + 1, ⟨by omega, fun k hk => ?_⟩, by omega, by omega⟩
    by_cases e : k = i
    · subst e; exact fun x hx => hj.2 x (by omega)
    · have := hi.2 k (by omega); simpa using this
  have ha := apart59 g h hl D hD1 hD3 (nth l i) (nth l j) (ht i hlt) (ht j (by omega))
  simp [go_sem, hlt2]
  by_cases hx : 0 ≤ g.ap (nth l i) (nth l j)
  · rw [EG.lv_pos hx] at ha
    refine call_val ha rfl rfl ?_
    simp [go_sem, hx]
    exact any_yes (p := fun i => (List.range i).any fun j => g.morB l i j) hlt (any_yes (p := fun j => g.morB l i j) hlt2 (by simp [EG.morB, hx]))
  · rw [EG.lv_neg (by omega)] at ha
    refine call_val ha rfl rfl ?_
    simp [go_sem, hx]
    refine ⟨by omega, j + 1, ⟨by omega, fun k hk => ?_⟩, by omega, by omega⟩
    by_cases e : k = j
    · subst e; simp [EG.morB, hx]
    · exact hj.2 k (by omega)
end Go.Gx
/-
  The lists of Suspects and of Twins, the program's and the document's, are one.
-/
set_option linter.unusedVariables false
set_option linter.unusedSimpArgs false
set_option maxRecDepth 20000
set_option maxHeartbeats 4000000
namespace Go.Gx
open Go.RowKit Go.Proofs Go.Proofs.YtnajladibkpeaaaGreat

theorem sorted_ext {α : Type} {R : α → α → Prop} (has : ∀ a b, R a b → ¬ R b a) : ∀ (l1 l2 : List α), l1.Pairwise R → l2.Pairwise R → (∀ x, x ∈ l1 ↔ x ∈ l2) → l1 = l2
  | [], [], _, _, _ => rfl
  | [], b :: s, _, _, h => by have := (h b).2 (by simp); simp at this
  | a :: t, [], _, _, h => by have := (h a).1 (by simp); simp at this
  | a :: t, b :: s, h1, h2, h => by
    obtain ⟨p1, p2⟩ := List.pairwise_cons.1 h1
    obtain ⟨q1, q2⟩ := List.pairwise_cons.1 h2
    have hab : a = b := by
      rcases List.mem_cons.1 ((h a).1 (by simp)) with e | e
      · exact e
      · rcases List.mem_cons.1 ((h b).2 (by simp)) with e2 | e2
        · exact e2.symm
        · exact absurd (q1 a e) (has _ _ (p1 b e2))
    subst hab
    have irr : ∀ x, ¬ R x x := fun x hx => has x x hx hx
    rw [sorted_ext has t s p2 q2 fun x => ⟨fun hx => by
      rcases List.mem_cons.1 ((h x).1 (List.mem_cons_of_mem _ hx)) with e | e
      · exact absurd (e ▸ p1 x hx) (irr _)
      · exact e, fun hx => by
      rcases List.mem_cons.1 ((h x).2 (List.mem_cons_of_mem _ hx)) with e | e
      · exact absurd (e ▸ q1 x hx) (irr _)
      · exact e⟩]
def PrG.lt (p q : PrG) : Prop := befB p.a p.b q.a q.b = true
theorem befB_iff {a b c d : Int} : befB a b c d = true ↔ a < c ∨ a = c ∧ b < d := by simp [befB]
theorem PrG.lt_iff {p q : PrG} : p.lt q ↔ p.a < q.a ∨ p.a = q.a ∧ p.b < q.b := befB_iff
theorem PrG.asymm (p q : PrG) (h : p.lt q) : ¬ q.lt p := by
  rw [PrG.lt_iff] at *
  omega
theorem leP_iff {p q : PrG} : leP p q = true ↔ ¬ q.lt p := by
  unfold leP PrG.lt
  cases befB q.a q.b p.a p.b <;> simp
theorem PrG.ext' {p q : PrG} (h1 : p.a = q.a) (h2 : p.b = q.b) : p = q := by
  cases p; cases q; simp only at h1 h2; subst h1; subst h2; rfl
theorem srtL_sorted (x : Nat → PrG) (n : Nat) : (srtL x n).Pairwise fun p q => leP p q = true :=
  List.pairwise_mergeSort (le := leP) (fun a b c h1 h2 => by rw [leP_iff, PrG.lt_iff] at *; omega) (fun a b => by
    rw [Bool.or_eq_true, leP_iff, leP_iff, PrG.lt_iff, PrG.lt_iff]; omega) _
theorem srtX_le {x : Nat → PrG} {n i j : Nat} (hij : i < j) (hj : j < n) : leP (srtX x n i) (srtX x n j) = true := by
  have h := List.pairwise_iff_getElem.1 (srtL_sorted x n) i j (by rw [srtL_len]; omega) (by rw [srtL_len]; exact hj) hij
  unfold srtX
  rw [List.getElem?_eq_getElem (by rw [srtL_len]; omega), List.getElem?_eq_getElem (by rw [srtL_len]; exact hj)]
  exact h
theorem kept_sorted (p : Nat → Bool) (n : Nat) : (kept p n).Pairwise (· < ·) := List.Pairwise.filter _ List.pairwise_lt_range
theorem MG.l_sorted (m : MG) : m.l.Pairwise PrG.lt := by
  unfold MG.l
  rw [List.pairwise_map]
  refine List.Pairwise.imp_of_mem (fun {i j} hi hj hij => ?_) (kept_sorted _ _)
  have hj1 := List.mem_filter.1 hj
  have hjn := List.mem_range.1 hj1.1
  have hd : dup (srtX m.q m.n) j = false := by simpa using hj1.2
  have h1 := srtX_le (x := m.q) hij hjn
  have h2 : leP (srtX m.q m.n (j - 1)) (srtX m.q m.n j) = true := srtX_le (by omega) hjn
  have h3 : i = j - 1 ∨ leP (srtX m.q m.n i) (srtX m.q m.n (j - 1)) = true := by
    by_cases e : i = j - 1
    · exact .inl e
    · exact .inr (srtX_le (by omega) (by omega))
  have hne : ¬ ((srtX m.q m.n j).a = (srtX m.q m.n (j - 1)).a ∧ (srtX m.q m.n j).b = (srtX m.q m.n (j - 1)).b) := fun h => by
    rw [(dup_iff (by omega)).2 h] at hd; cases hd
  rw [leP_iff, PrG.lt_iff] at h1 h2
  rw [PrG.lt_iff]
  rcases h3 with e | h3
  · subst e
    omega
  · rw [leP_iff, PrG.lt_iff] at h3
    omega
theorem kept_some (x : Nat → PrG) (n : Nat) : ∀ i, i < n → ∃ k, k ∈ kept (dup x) n ∧ x k = x i := by
  intro i
  induction i with
  | zero => exact fun h => ⟨0, List.mem_filter.2 ⟨List.mem_range.2 h, by simp [dup]⟩, rfl⟩
  | succ i ih =>
    intro h
    cases hd : dup x (i + 1) with
    | false => exact ⟨i + 1, List.mem_filter.2 ⟨List.mem_range.2 h, by simp [hd]⟩, rfl⟩
    | true =>
      obtain ⟨k, h1, h2⟩ := ih (by omega)
      have := (dup_iff (by omega)).1 hd
      exact ⟨k, h1, h2.trans (PrG.ext' this.1.symm this.2.symm)⟩
theorem MG.l_iff {m : MG} {p : PrG} : p ∈ m.l ↔ ∃ i, i < m.n ∧ m.q i = p := by
  refine ⟨MG.l_of, fun ⟨i, hi, hp⟩ => ?_⟩
  have h1 : p ∈ srtL m.q m.n := srtL_mem.2 ⟨i, hi, hp⟩
  obtain ⟨j, hj, hje⟩ := List.getElem_of_mem h1
  have hjn : j < m.n := by rw [srtL_len] at hj; exact hj
  have h2 : srtX m.q m.n j = p := by unfold srtX; rw [List.getElem?_eq_getElem hj]; exact hje
  obtain ⟨k, h3, h4⟩ := kept_some (srtX m.q m.n) m.n j hjn
  exact List.mem_map.2 ⟨k, h3, h4.trans h2⟩
theorem EG.srow_iff {g : EG} {m : MG} {d : Bool} {a k : Nat} {p : PrG} : p ∈ g.srow m d a k ↔ ∃ b : Nat, b < k ∧ a < b ∧ g.keep m d a b = true ∧ p = ⟨a, b⟩ := by
  unfold EG.srow
  simp only [List.mem_map, List.mem_filter, List.mem_range, Bool.and_eq_true, decide_eq_true_eq]
  exact ⟨fun ⟨b, ⟨h1, h2, h3⟩, h4⟩ => ⟨b, h1, h2, h3, h4.symm⟩, fun ⟨b, h1, h2, h3, h4⟩ => ⟨b, ⟨h1, h2, h3⟩, h4.symm⟩⟩
theorem EG.srt_iff {g : EG} {m : MG} {d : Bool} {k : Nat} {p : PrG} : p ∈ g.srt m d k ↔ ∃ a b : Nat, a < k ∧ b < g.nr ∧ a < b ∧ g.keep m d a b = true ∧ p = ⟨a, b⟩ := by
  unfold EG.srt
  simp only [List.mem_flatMap, List.mem_range, EG.srow_iff]
  exact ⟨fun ⟨a, h1, b, h2, h3, h4, h5⟩ => ⟨a, b, h1, h2, h3, h4, h5⟩, fun ⟨a, b, h1, h2, h3, h4, h5⟩ => ⟨a, h1, b, h2, h3, h4, h5⟩⟩
theorem EG.srow_sorted (g : EG) (m : MG) (d : Bool) (a k : Nat) : (g.srow m d a k).Pairwise PrG.lt := by
  unfold EG.srow
  rw [List.pairwise_map]
  refine List.Pairwise.imp (fun {i j} hij => ?_) (List.Pairwise.filter _ List.pairwise_lt_range)
  rw [PrG.lt_iff]
  right
  exact ⟨rfl, by show (i : Int) < j; omega⟩
theorem EG.srt_sorted (g : EG) (m : MG) (d : Bool) (k : Nat) : (g.srt m d k).Pairwise PrG.lt := by
  induction k with
  | zero => simp [EG.srt]
  | succ k ih =>
    rw [EG.srt_succ, List.pairwise_append]
    refine ⟨ih, g.srow_sorted m d k g.nr, fun p hp q hq => ?_⟩
    obtain ⟨a, b, h1, _, _, _, rfl⟩ := EG.srt_iff.1 hp
    obtain ⟨c, _, _, _, rfl⟩ := EG.srow_iff.1 hq
    rw [PrG.lt_iff]
    left
    show (a : Int) < k
    omega
theorem MG.hit_iff {m : MG} {a b : Int} {i : Nat} : m.hit a b i = true ↔ (m.p i).a = a ∧ (m.p i).b = b ∨ (m.p i).a = b ∧ (m.p i).b = a := by simp [MG.hit]
theorem EG.som_srt {g : EG} {m : MG} {d : Bool} (he : g.askE m = 0) : g.som m d m.l.length = g.srt m d g.nr := by
  rcases g.ask_cases m with ⟨hv, h60, hok, _⟩ | h
  rotate_left
  · exact absurd he h
  have hl := EG.valid_inl hv
  have hkeep : ∀ a b : Nat, a < g.nr → b < g.nr → g.keep m d a b = (m.has a b && g.go d ⟨a, b⟩) := fun a b ha hb => by
    unfold EG.keep EG.go
    rw [EG.one_eq hl (by omega) (by omega) (by omega), EG.df_eq hl (by omega) (by omega) (by omega) (by omega)]
    simp only [Bool.and_assoc]
    congr 1
    exact Bool.and_comm _ _
  refine sorted_ext PrG.asymm _ _ ?_ (g.srt_sorted m d g.nr) fun p => ?_
  · unfold EG.som
    rw [List.take_length]
    exact List.Pairwise.filter _ m.l_sorted
  · unfold EG.som
    rw [List.take_length, List.mem_filter, MG.l_iff, EG.srt_iff]
    constructor
    · rintro ⟨⟨i, hi, rfl⟩, hg⟩
      obtain ⟨t1, t2, t3⟩ := EG.okm_q (hok i hi)
      have b1 := EG.th_iff.1 t1
      have b2 := EG.th_iff.1 t2
      have e1 : (((m.q i).a.toNat : Nat) : Int) = (m.q i).a := by omega
      have e2 : (((m.q i).b.toNat : Nat) : Int) = (m.q i).b := by omega
      refine ⟨(m.q i).a.toNat, (m.q i).b.toNat, by omega, by omega, by omega, ?_, ?_⟩
      · rw [hkeep _ _ (by omega) (by omega), e1, e2, Bool.and_eq_true]
        refine ⟨any_yes hi ?_, hg⟩
        refine MG.hit_iff.2 ?_
        show (m.p i).a = min (m.p i).a (m.p i).b ∧ (m.p i).b = max (m.p i).a (m.p i).b ∨ (m.p i).a = max (m.p i).a (m.p i).b ∧ (m.p i).b = min (m.p i).a (m.p i).b
        omega
      · exact PrG.ext' e1.symm e2.symm
    · rintro ⟨a, b, ha, hb, hab, hk, rfl⟩
      rw [hkeep a b ha hb, Bool.and_eq_true] at hk
      refine ⟨?_, hk.2⟩
      obtain ⟨i, hi, hh⟩ := List.any_eq_true.1 hk.1
      refine ⟨i, List.mem_range.1 hi, ?_⟩
      have hh := MG.hit_iff.1 hh
      refine PrG.ext' ?_ ?_
      · show min (m.p i).a (m.p i).b = (a : Int)
        omega
      · show max (m.p i).a (m.p i).b = (b : Int)
        omega
theorem EG.som_sus (g : EG) (m : MG) (d : Bool) : g.somS m d = g.susS m d := by
  unfold EG.somS EG.susS
  by_cases e : g.askE m = 0
  · rw [if_pos e, if_pos e, EG.som_srt e]
  · rw [if_neg e, if_neg e]
end Go.Gx
/-
  Morphs: the program's and the document's are one (plain).
-/
set_option linter.unusedVariables false
set_option linter.unusedSimpArgs false
set_option maxRecDepth 20000
set_option maxHeartbeats 4000000
namespace Go.Gx
open Go.RowKit Go.Proofs Go.Proofs.YtnajladibkpeaaaGreat

theorem EG.ap_symm (g : EG) (a b : Int) : g.ap a b = g.ap b a := by
  unfold EG.ap
  refine ixB_congr fun j _ => ?_
  unfold EG.apB
  rw [Int.min_comm (g.q a), Int.max_comm (g.q a)]
theorem EG.ap_irr {g : EG} (hv : g.valid = true) (b : Int) : g.ap b b < 0 := by
  rcases ixB_cases (g.apB b b) g.nl with ⟨h, _⟩ | ⟨i, hi, hp, _, _⟩
  · unfold EG.ap; rw [h]; decide
  · exfalso
    rw [← EG.pval_eq] at hv
    simp only [EG.pval, Bool.and_eq_true] at hv
    have h2 := all_get hv.2 hi
    simp only [EG.apB, Bool.and_eq_true, Bool.not_eq_true', decide_eq_true_eq] at hp
    simp only [EG.lk2, hp.1, Bool.false_or, Bool.not_eq_true', decide_eq_false_iff_not] at h2
    have e1 := hp.2.1
    have e2 := hp.2.2
    apply h2
    show g.q (g.l i).a = g.q (g.l i).b
    omega
/-- The records of other people that record a looks like. -/
def EG.looks (g : EG) (m : MG) (a : Nat) (k : Nat) : List Nat := (m.l.take k).filterMap fun p => if g.q p.a = g.q p.b then none else if p.a = (a : Int) then some p.b.toNat else if p.b = (a : Int) then some p.a.toNat else none
theorem EG.looks_iff {g : EG} {m : MG} (hok : ∀ i, i < m.n → g.okm (m.p i) = true) {a b : Nat} : b ∈ g.looks m a m.l.length ↔ m.has a b = true ∧ ¬ g.q a = g.q b := by
  unfold EG.looks
  rw [List.take_length, List.mem_filterMap]
  constructor
  · rintro ⟨p, hp, he⟩
    obtain ⟨i, hi, rfl⟩ := MG.l_iff.1 hp
    obtain ⟨t1, t2, t3⟩ := EG.okm_q (hok i hi)
    have b1 := EG.th_iff.1 t1
    have b2 := EG.th_iff.1 t2
    by_cases e0 : g.q (m.q i).a = g.q (m.q i).b
    · rw [if_pos e0] at he; cases he
    by_cases e1 : (m.q i).a = a
    · rw [if_neg e0, if_pos e1] at he
      have he := Option.some.inj he
      have e2 : (m.q i).b = b := by omega
      refine ⟨any_yes hi (MG.hit_iff.2 ?_), ?_⟩
      · have f1 : min (m.p i).a (m.p i).b = (a : Int) := e1
        have f2 : max (m.p i).a (m.p i).b = (b : Int) := e2
        omega
      · rw [← e1, ← e2]; exact e0
    · by_cases e2 : (m.q i).b = a
      · rw [if_neg e0, if_neg e1, if_pos e2] at he
        have he := Option.some.inj he
        have e3 : (m.q i).a = b := by omega
        refine ⟨any_yes hi (MG.hit_iff.2 ?_), ?_⟩
        · have f1 : min (m.p i).a (m.p i).b = (b : Int) := e3
          have f2 : max (m.p i).a (m.p i).b = (a : Int) := e2
          omega
        · rw [← e3, ← e2]; exact fun h => e0 h.symm
      · rw [if_neg e0, if_neg e1, if_neg e2] at he; cases he
  · rintro ⟨h1, h2⟩
    obtain ⟨i, hi, hh⟩ := List.any_eq_true.1 h1
    have hi := List.mem_range.1 hi
    have hh := MG.hit_iff.1 hh
    obtain ⟨t1, t2, t3⟩ := EG.okm_q (hok i hi)
    refine ⟨m.q i, MG.l_iff.2 ⟨i, hi, rfl⟩, ?_⟩
    have f1 : (m.q i).a = min (m.p i).a (m.p i).b := rfl
    have f2 : (m.q i).b = max (m.p i).a (m.p i).b := rfl
    by_cases hab : a < b
    · have e1 : (m.q i).a = a := by omega
      have e2 : (m.q i).b = b := by omega
      rw [e1, e2, if_neg h2, if_pos rfl]
      simp
    · have e1 : (m.q i).a = b := by omega
      have e2 : (m.q i).b = a := by omega
      rw [e1, e2, if_neg fun h => h2 h.symm, if_neg (by omega), if_pos rfl]
      simp
theorem EG.morA_iff {g : EG} (hv : g.valid = true) {l : List Nat} : g.morA l = true ↔ ∃ b c, b ∈ l ∧ c ∈ l ∧ 0 ≤ g.ap b c := by
  unfold EG.morA
  simp only [List.any_eq_true, List.mem_range, EG.morB, decide_eq_true_eq]
  have hn : ∀ i, i < l.length → nth l i = l[i]! := fun i hi => by simp [nth, hi]
  constructor
  · rintro ⟨i, hi, j, hj, h⟩
    refine ⟨nth l i, nth l j, ?_, ?_, h⟩
    · unfold nth; rw [List.getD_eq_getElem?_getD, List.getElem?_eq_getElem hi]; exact List.getElem_mem hi
    · unfold nth; rw [List.getD_eq_getElem?_getD, List.getElem?_eq_getElem (by omega)]; exact List.getElem_mem (by omega)
  · rintro ⟨b, c, hb, hc, h⟩
    obtain ⟨i, hi, rfl⟩ := List.getElem_of_mem hb
    obtain ⟨j, hj, rfl⟩ := List.getElem_of_mem hc
    have ni : nth l i = l[i] := by unfold nth; rw [List.getD_eq_getElem?_getD, List.getElem?_eq_getElem hi]; rfl
    have nj : nth l j = l[j] := by unfold nth; rw [List.getD_eq_getElem?_getD, List.getElem?_eq_getElem hj]; rfl
    rcases Nat.lt_trichotomy i j with h1 | h1 | h1
    · exact ⟨j, hj, i, h1, by rw [ni, nj, EG.ap_symm]; exact h⟩
    · subst h1
      have := EG.ap_irr hv (l[i] : Nat)
      omega
    · exact ⟨i, hi, j, h1, by rw [ni, nj]; exact h⟩
theorem EG.morph_lk {g : EG} {m : MG} (he : g.askE m = 0) {a : Nat} (ha : a < g.nr) : g.morph m a = g.morA (g.looks m a m.l.length) := by
  rcases g.ask_cases m with ⟨hv, h60, hok, _⟩ | h
  rotate_left
  · exact absurd he h
  have hl := EG.valid_inl hv
  rw [Bool.eq_iff_iff, EG.morA_iff hv]
  unfold EG.morph
  simp only [List.any_eq_true, List.mem_range, EG.looks_iff hok]
  have hbd : ∀ b : Nat, m.has a b = true → b < g.nr := fun b hb => by
    obtain ⟨i, hi, hh⟩ := List.any_eq_true.1 hb
    have hi := List.mem_range.1 hi
    have hh := MG.hit_iff.1 hh
    have ho := hok i hi
    simp only [EG.okm, Bool.and_eq_true] at ho
    have q1 := EG.th_iff.1 ho.1.1
    have q2 := EG.th_iff.1 ho.1.2
    omega
  have key : ∀ b c : Nat, b < g.nr → c < g.nr → (g.mor m a b c = true ↔ m.has a b = true ∧ m.has a c = true ∧ ¬ g.q a = g.q b ∧ ¬ g.q a = g.q c ∧ 0 ≤ g.ap b c) := fun b c hb hc => by
    unfold EG.mor
    rw [EG.one_eq hl (by omega) (by omega) (by omega), EG.one_eq hl (by omega) (by omega) (by omega), EG.df_eq hl (by omega) (by omega) (by omega) (by omega)]
    simp only [Bool.and_eq_true, Bool.not_eq_true', decide_eq_false_iff_not, decide_eq_true_eq, and_assoc]
  constructor
  · rintro ⟨b, hb, c, hc, h⟩
    obtain ⟨h1, h2, h3, h4, h5⟩ := (key b c hb hc).1 h
    exact ⟨b, c, ⟨h1, h3⟩, ⟨h2, h4⟩, h5⟩
  · rintro ⟨b, c, ⟨h1, h3⟩, ⟨h2, h4⟩, h5⟩
    exact ⟨b, hbd b h1, c, hbd c h2, (key b c (hbd b h1) (hbd c h2)).2 ⟨h1, h2, h3, h4, h5⟩⟩
end Go.Gx
/-
  The law of matches (premises: the sort, Morphs).
-/
set_option linter.unusedVariables false
set_option linter.unusedSimpArgs false
set_option maxRecDepth 20000
set_option maxHeartbeats 4000000
namespace Go.Gx
open Go.RowKit Go.Proofs Go.Proofs.YtnajladibkpeaaaGreat

def MorOK : Prop := ∀ (g : EG) (m : MG), g.Sm → m.n ≤ 1000000 → Pure Tryz.prog 34 [g.sv, m.sv] (· = g.morS m)
theorem samePairs_rfl (l : List PrG) (hl : l.length ≤ 1000000) : Pure Tryz.prog 35 [prs l, prs l] (· = .b true) := by
  have h := samePairs45 l.length l.length hl hl (fun i => l[i]?.getD ⟨0, 0⟩) (fun i => l[i]?.getD ⟨0, 0⟩)
  have e : (decide (l.length = l.length) && (List.range l.length).all fun i => (l[i]?.getD ⟨0, 0⟩).eqB (l[i]?.getD ⟨0, 0⟩)) = true := by simp [PrG.eqB]
  rw [e] at h
  exact h
theorem samePairs_nil : Pure Tryz.prog 35 [nilS, nilS] (· = .b true) := by
  have h := (samePairs_rfl [] (by decide)).args (args := [nilS, nilS]) ⟨le_of_sub (by simp [go_sem]), le_of_sub (by simp [go_sem]), trivial⟩
  exact h
theorem ints_rfl (l : List Nat) (hl : l.length ≤ 1000000) : Pure Tryz.prog 28 [.r (.rs 1 l.length (intsR l)), .r (.rs 1 l.length (intsR l))] (· = .b true) := by
  have h := sameInts24 l.length l.length (by omega) (by omega) (intsR l) (intsR l) (fun i => (nth l i : Nat)) (fun i => (nth l i : Nat)) (fun i _ => rfl) (fun i _ => rfl)
  have e : (decide (l.length = l.length) && (List.range l.length).all fun i => decide (((nth l i : Nat) : Int) = (nth l i : Nat))) = true := by simp
  rw [e] at h
  exact h
theorem ints_nil : Pure Tryz.prog 28 [nilS, nilS] (· = .b true) :=
  (ints_rfl [] (by decide)).args (args := [nilS, nilS]) ⟨le_of_sub (by simp [go_sem]), le_of_sub (by simp [go_sem]), trivial⟩
end Go.Gx
