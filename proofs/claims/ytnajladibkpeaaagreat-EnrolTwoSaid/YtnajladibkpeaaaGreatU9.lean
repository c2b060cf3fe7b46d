/-
  The reference: People. Lists of lists compared.
-/
import Derived.Test.YtnajladibkpeaaaGreatU6
import Derived.Test.YtnajladibkpeaaaGreatK5
set_option linter.unusedVariables false
set_option linter.unusedSimpArgs false
set_option maxRecDepth 20000
set_option maxHeartbeats 4000000
namespace Go.Gx
open Go.RowKit Go.Proofs Go.Proofs.YtnajladibkpeaaaGreat

/-- A list of lists of numbers. -/
def lnR (l : List Nat) : RV := .rs 1 l.length (intsR l)
abbrev llR (L : List (List Nat)) : Nat → Nat → RV := fun i _ => lnR (L.getD i [])
abbrev llS (L : List (List Nat)) : SV := .r (.rs 1 L.length (llR L))
theorem llR_app {L : List (List Nat)} {l : List Nat} {i : Nat} (hi : i < L.length + 1) : (if i < L.length then SV.r (llR L i 0) else SV.r (lnR l)) = SV.r (llR (L ++ [l]) i 0) := by
  unfold llR
  by_cases h : i < L.length
  · rw [if_pos h]
    simp [List.getD, List.getElem?_append_left h]
  · have : i = L.length := by omega
    subst this
    rw [if_neg h]
    simp [List.getD]
theorem sameLn24 (l : List Nat) (h : (l.length : Int) < 2 ^ 61) : Pure Tryz.prog 28 [.r (lnR l), .r (lnR l)] (· = .b true) :=
  (sameInts24 _ _ h h _ _ (fun i => nth l i) (fun i => nth l i) (fun i hi => rfl) (fun i hi => rfl)).val (by simp)
theorem sameLists19 (L : List (List Nat)) (hL : L.length ≤ 1000000) (hl : ∀ l ∈ L, l.length ≤ 1000000) : Pure Tryz.prog 32 [llS L, llS L] (· = .b true) := by
  refine pure_of_GC T_ok Tryz.func32 rfl (by kernel_rfl) (Nat.le_of_ble_eq_true rfl) rfl rfl ?_
  simp [go_sem]
  refine GLoop_of T_ok (α := Nat) (fun k => [(0, llS L), (1, llS L), (5, .i k)]) (fun _ => []) 0 (fun k => k ≤ L.length) (fun k => L.length - k) 0 (fun _ => rfl) (by simp) (by simp [go_sem]) (by simp [go_sem]) ?_
  intro k J hi
  by_cases hlt : k < L.length
  · have hm : L.getD k [] ∈ L := by simp [List.getD, hlt]
    have hs := sameLn24 (L.getD k []) (by have := hl _ hm; omega)
    simp [go_sem, hlt]
    refine GDraw_all T_ok (by kernel_rfl) (by kernel_rfl) ?_
    simp [go_sem, hlt]
    refine ⟨_, dcall_val hs rfl rfl, ?_⟩
    simp [go_sem]
    exact ⟨by omega, k + 1, by omega, by omega, by omega⟩
  · simp [go_sem, hlt]
theorem sameNil19 : Pure Tryz.prog 32 [nilS, nilS] (· = .b true) := by
  refine pure_of_GC T_ok Tryz.func32 rfl (by kernel_rfl) (Nat.le_of_ble_eq_true rfl) rfl rfl ?_
  simp [go_sem]
  refine GLoop_of T_ok (α := Unit) (fun k => [(0, nilS), (1, nilS), (5, .i 0)]) (fun _ => []) 0 (fun k => True) (fun k => 0) () (fun _ => rfl) trivial (by simp [go_sem]) (by simp [go_sem]) ?_
  intro k J hi
  simp [go_sem]
/-- A record that is there and the first of its person. -/
def EG.rt (g : EG) (a : Nat) : Bool := g.th a && decide (g.num a = a)
/-- The people below record k. -/
def EG.ppl (g : EG) (k : Nat) : List (List Nat) := ((List.range k).filter g.rt).map fun a : Nat => g.mem a g.nr
theorem EG.ppl_succ (g : EG) (k : Nat) : g.ppl (k + 1) = if g.rt k then g.ppl k ++ [g.mem k g.nr] else g.ppl k := by
  unfold EG.ppl
  rw [List.range_succ, List.filter_append]
  split
  · rename_i h; simp [h]
  · rename_i h; simp [h]
theorem EG.ppl_len (g : EG) (k : Nat) : (g.ppl k).length ≤ k := by
  have := List.length_filter_le g.rt (List.range k)
  simpa [EG.ppl] using this
def EG.ppS (g : EG) : SV := if g.valid then llS (g.ppl g.nr) else nilS
def EG.ppE (g : EG) : Int := if g.valid then 0 else 8
end Go.Gx
/-
  The program: People.
-/
set_option linter.unusedVariables false
set_option linter.unusedSimpArgs false
set_option maxRecDepth 20000
set_option maxHeartbeats 4000000
namespace Go.Gx
open Go.RowKit Go.Proofs Go.Proofs.YtnajladibkpeaaaGreat

@[go_sem] theorem zeroV_sl (b : Nat) (e : TypeId) : TI.zeroV ⟨1, b, [.sl], .slice e⟩ = .slice none 0 0 := rfl
@[go_sem] theorem zeroV_int (b : Nat) (k : IntKind) : TI.zeroV ⟨1, b, [.i k], .int k⟩ = .int k 0 := rfl
/-- The records below k that are there and of person p. -/
def EG.cl (g : EG) (p : Int) (k : Nat) : List Nat := (List.range k).filter fun b : Nat => g.th b && decide (g.pm g.nl b = p)
theorem EG.cl_succ (g : EG) (p : Int) (k : Nat) : g.cl p (k + 1) = if g.th k && decide (g.pm g.nl k = p) then g.cl p k ++ [k] else g.cl p k := by
  unfold EG.cl
  rw [List.range_succ, List.filter_append]
  split
  · rename_i h; simp [h]
  · rename_i h; simp [h]
theorem EG.cl_len (g : EG) (p : Int) (k : Nat) : (g.cl p k).length ≤ k := by
  have := List.length_filter_le (fun b : Nat => g.th b && decide (g.pm g.nl b = p)) (List.range k)
  simpa [EG.cl] using this
def EG.hc (g : EG) (k : Nat) (p : Int) : Bool := !(g.cl p k).isEmpty
theorem EG.hc_iff {g : EG} {k : Nat} {p : Int} : g.hc k p = true ↔ ∃ b : Nat, b < k ∧ g.th b = true ∧ g.pm g.nl b = p := by
  unfold EG.hc EG.cl
  simp only [Bool.not_eq_true', List.isEmpty_eq_false_iff_exists_mem, List.mem_filter, List.mem_range, Bool.and_eq_true, decide_eq_true_eq]
theorem EG.con_th {g : EG} (hl : g.lth) {a x : Int} (h : g.Con g.nl a x) (ha : g.th a = true) : g.th x = true := by
  induction h with
  | refl => exact ha
  | step _ hz _ =>
    obtain ⟨j, h1, h2, h3⟩ := hz
    obtain ⟨t1, t2⟩ := hl j h1
    rcases h3 with ⟨rfl, rfl⟩ | ⟨rfl, rfl⟩
    · exact t2
    · exact t1
theorem EG.pm_th {g : EG} (hl : g.lth) {a : Int} (ha : g.th a = true) : g.th (g.pm g.nl a) = true := EG.con_th hl (EG.con_pm g g.nl a) ha
theorem EG.pm_pm (g : EG) (a : Int) : g.pm g.nl (g.pm g.nl a) = g.pm g.nl a := (EG.con_iff.1 (EG.con_pm g g.nl a)).symm
/-- Where the list of a person lies, in memory. -/
def pq (p : Int) : Nat := 4 + 2 * p.toNat + 1
abbrev EG.pv (g : EG) (k : Nat) (p : Int) : SV := .sl (pq p) 1 0 (g.cl p k).length none
def EG.pf (g : EG) (k d : Nat) : Option Reg := if d % 2 = 1 ∧ g.hc k (d / 2 : Nat) = true then some (.vec 3 1 (g.cl (d / 2 : Nat) k).length (ints (g.cl (d / 2 : Nat) k))) else none
theorem EG.pf_at {g : EG} {k j : Nat} (h : g.hc k j = true) : g.pf k (2 * j + 1) = some (.vec 3 1 (g.cl j k).length (ints (g.cl j k))) := by
  have h1 : (2 * j + 1) % 2 = 1 := by omega
  have h2 : (2 * j + 1) / 2 = j := by omega
  unfold EG.pf
  rw [h2, if_pos ⟨h1, h⟩]
theorem EG.pf_no {g : EG} {k d : Nat} (h : ¬ (d % 2 = 1 ∧ g.hc k (d / 2 : Nat) = true)) : g.pf k d = none := if_neg h
abbrev EG.pM (g : EG) (k : Nat) : Mem := famM (memL [g.bx, some (g.dbox (.mp 2)), some g.dmap, some (.map (g.hc k) (g.pv k) none)]) 4 (2 * k) (g.pf k)
theorem EG.hc_lt {g : EG} {k j : Nat} (h : g.hc k j = true) : j < k := by
  obtain ⟨b, h1, h2, h3⟩ := EG.hc_iff.1 h
  have := EG.pm_le g g.nl b
  omega
theorem EG.pM_at {g : EG} {k j : Nat} (h : g.hc k j = true) : g.pM k (4 + 2 * j + 1) = some (.vec 3 1 (g.cl j k).length (ints (g.cl j k))) := by
  have := EG.hc_lt h
  show famM _ _ _ _ _ = _
  rw [famM_app, if_pos ⟨by omega, by omega⟩, show 4 + 2 * j + 1 - 4 = 2 * j + 1 from by omega, EG.pf_at h]
theorem EG.pM_lo {g : EG} {k r : Nat} (h : r < 4) : g.pM k r = memL [g.bx, some (g.dbox (.mp 2)), some g.dmap, some (.map (g.hc k) (g.pv k) none)] r := by
  show famM _ _ _ _ _ = _
  rw [famM_app, if_neg (by omega)]
theorem EG.hc_pq {g : EG} (hl : g.lth) {k : Nat} (hk : k ≤ g.nr) {a : Int} (h : g.hc k a = true) : 5 ≤ pq a ∧ pq a < 4 + 2 * k ∧ 0 ≤ a ∧ a < k := by
  obtain ⟨b, h1, h2, h3⟩ := EG.hc_iff.1 h
  have := EG.pm_bd hl g.nl b (Nat.le_refl _) (by omega) (by omega)
  have := EG.pm_le g g.nl b
  unfold pq
  omega
theorem EG.pf_sub {g : EG} {k : Nat} {M' : Mem} (h : ∀ j : Nat, j < k → g.hc k j = true → Reg.sub (M' (4 + (2 * j + 1))) (some (.vec 3 1 (g.cl j k).length (ints (g.cl j k))))) : ∀ i, i < 2 * k → Reg.sub (M' (4 + i)) (g.pf k i) := by
  intro i hi
  by_cases hc : i % 2 = 1 ∧ g.hc k (i / 2 : Nat) = true
  · have e : i = 2 * (i / 2) + 1 := by omega
    have := h (i / 2) (by omega) hc.2
    unfold EG.pf
    rw [if_pos hc]
    rw [← e] at this
    exact this
  · rw [EG.pf_no hc]; exact Reg.sub_none _
theorem EG.cl_ne {g : EG} {k : Nat} {p : Int} (h : g.th k = false ∨ g.pm g.nl k ≠ p) : g.cl p (k + 1) = g.cl p k := by
  rw [EG.cl_succ, if_neg]
  simp only [Bool.and_eq_true, decide_eq_true_eq]
  rintro ⟨h1, h2⟩
  rcases h with h | h
  · rw [h] at h1; cases h1
  · exact h h2
theorem EG.cl_at {g : EG} {k : Nat} (h : g.th k = true) : g.cl (g.pm g.nl k) (k + 1) = g.cl (g.pm g.nl k) k ++ [k] := by
  rw [EG.cl_succ, if_pos]
  simp [h]
theorem EG.hc_ne {g : EG} {k : Nat} {p : Int} (h : g.th k = false ∨ g.pm g.nl k ≠ p) : g.hc (k + 1) p = g.hc k p := by
  unfold EG.hc; rw [EG.cl_ne h]
theorem EG.hc_at {g : EG} {k : Nat} (h : g.th k = true) : g.hc (k + 1) (g.pm g.nl k) = true := by
  unfold EG.hc; rw [EG.cl_at h]; simp
/-- The first records of the people, below k. -/
def EG.rts (g : EG) (k : Nat) : List Nat := (List.range k).filter fun a : Nat => g.hc g.nr a
theorem EG.rts_succ (g : EG) (k : Nat) : g.rts (k + 1) = if g.hc g.nr k then g.rts k ++ [k] else g.rts k := by
  unfold EG.rts
  rw [List.range_succ, List.filter_append]
  split
  · rename_i h; simp [h]
  · rename_i h; simp [h]
theorem EG.rts_len (g : EG) (k : Nat) : (g.rts k).length ≤ k := by
  have := List.length_filter_le (fun a : Nat => g.hc g.nr a) (List.range k)
  simpa [EG.rts] using this
theorem EG.rts_at {g : EG} {k i : Nat} (hi : i < (g.rts k).length) : nth (g.rts k) i < k ∧ g.hc g.nr (nth (g.rts k) i : Nat) = true := by
  have : nth (g.rts k) i ∈ g.rts k := by
    unfold nth
    rw [List.getD_eq_getElem?_getD, List.getElem?_eq_getElem hi]
    exact List.getElem_mem hi
  unfold EG.rts at this
  rw [List.mem_filter, List.mem_range] at this
  exact this
abbrev EG.rg (g : EG) (k : Nat) : Nat → Nat → SV := fun i _ => g.pv g.nr (nth (g.rts k) i : Nat)
theorem EG.pM_keep {g : EG} (hl : g.lth) {N : Nat} (hN : 4 + 2 * g.nr ≤ N) (f : Reg → Reg) (hf : f = Reg.trim N ∨ f = fun R => (R.kill (4 + 2 * g.nr)).trim N) : ∀ r, Reg.sub ((g.pM g.nr r).map f) (g.pM g.nr r) := by
  intro r
  have hlt : ∀ x : Nat, x < 4 → x < N := fun x hx => by omega
  by_cases hr : r < 4
  · rw [EG.pM_lo hr]
    have t0 := hlt 0 (by omega)
    have t1 := hlt 1 (by omega)
    have t2 := hlt 2 (by omega)
    have t3 := hlt 3 (by omega)
    have n0 : ¬ 2 = 4 + 2 * g.nr := by omega
    rcases (by omega : r = 0 ∨ r = 1 ∨ r = 2 ∨ r = 3) with rfl | rfl | rfl | rfl <;> rcases hf with rfl | rfl
    · simp [go_sem, t0]
    · simp [go_sem, t0]
    · simp [go_sem, t2]
    · simp [go_sem, t2, n0]
    · simp [go_sem]
    · simp [go_sem]
    · simp [go_sem]
      intro a ha
      have := EG.hc_pq hl (Nat.le_refl _) ha
      omega
    · simp [go_sem]
      intro a ha
      have := EG.hc_pq hl (Nat.le_refl _) ha
      rw [if_neg (by omega), if_pos (by omega)]
  · have : g.pM g.nr r = if r < 4 + 2 * g.nr then g.pf g.nr (r - 4) else none := by
      show famM _ _ _ _ _ = _
      rw [famM_app]
      by_cases h1 : r < 4 + 2 * g.nr
      · rw [if_pos ⟨by omega, h1⟩, if_pos h1]
      · rw [if_neg (by omega), if_neg h1]
        simp [memL, List.getElem?_eq_none (show [g.bx, some (g.dbox (.mp 2)), some g.dmap, some (.map (g.hc g.nr) (g.pv g.nr) none)].length ≤ r by simp; omega)]
    rw [this]
    split
    · unfold EG.pf
      split
      · rcases hf with rfl | rfl <;> simp [go_sem]
      · exact Reg.sub_none _
    · exact Reg.sub_none _
theorem EG.pM_hi {g : EG} {r : Nat} (hr : 4 + 2 * g.nr ≤ r) : g.pM g.nr r = none := by
  show famM _ _ _ _ _ = _
  rw [famM_app, if_neg (by omega)]
  simp [memL, List.getElem?_eq_none (show [g.bx, some (g.dbox (.mp 2)), some g.dmap, some (.map (g.hc g.nr) (g.pv g.nr) none)].length ≤ r by simp; omega)]
theorem EG.rt_hc {g : EG} (hl : g.lth) (hi : g.inl) {a : Nat} (ha : a < g.nr) : g.rt a = g.hc g.nr a := by
  have hn := EG.num_eq hi (show (0 : Int) ≤ a by omega) (show (a : Int) < g.nr by omega)
  have key : g.rt a = true ↔ g.hc g.nr a = true := by
    unfold EG.rt
    rw [Bool.and_eq_true, decide_eq_true_eq, hn]
    constructor
    · rintro ⟨h1, h2⟩
      exact EG.hc_iff.2 ⟨a, ha, h1, h2⟩
    · intro h
      obtain ⟨b, h1, h2, h3⟩ := EG.hc_iff.1 h
      rw [← h3]
      exact ⟨EG.pm_th hl h2, EG.pm_pm g b⟩
  cases h1 : g.rt a with
  | true => rw [key.1 h1]
  | false =>
    cases h2 : g.hc g.nr a with
    | false => rfl
    | true => rw [key.2 h2] at h1; cases h1
theorem EG.mem_cl {g : EG} (hl : g.lth) (hi : g.inl) {a : Nat} (h : g.rt a = true) (ha : a < g.nr) : g.mem a g.nr = g.cl a g.nr := by
  unfold EG.rt at h
  rw [Bool.and_eq_true, decide_eq_true_eq, EG.num_eq hi (show (0 : Int) ≤ a by omega) (show (a : Int) < g.nr by omega)] at h
  unfold EG.mem EG.cl
  refine List.filter_congr fun k hk => ?_
  have hk' := List.mem_range.1 hk
  rw [EG.rc_th hl hi h.1 hk']
  have e1 : g.th (k : Int) = !(g.r k).g := by
    cases hg : (g.r k).g with
    | true =>
      cases ht : g.th (k : Int) with
      | false => rfl
      | true => have := (EG.th_iff.1 ht).2.2; simp [hg] at this
    | false => exact EG.th_iff.2 ⟨by omega, by omega, by simpa using hg⟩
  have e2 : g.q (a : Int) = a := h.2
  rw [e1, e2]
theorem EG.ppl_rts {g : EG} (hl : g.lth) (hi : g.inl) : g.ppl g.nr = (g.rts g.nr).map fun a : Nat => g.cl a g.nr := by
  unfold EG.ppl EG.rts
  have e1 : (List.range g.nr).filter g.rt = (List.range g.nr).filter fun a : Nat => g.hc g.nr a := List.filter_congr fun a ha => EG.rt_hc hl hi (List.mem_range.1 ha)
  rw [← e1]
  refine List.map_congr_left fun a ha => ?_
  rw [List.mem_filter, List.mem_range] at ha
  exact EG.mem_cl hl hi ha.2 ha.1
theorem people17 (g : EG) (h : g.OK) : Pure Tryz.prog 29 [g.sv] (· = .tup [g.ppS, .i g.ppE]) := by
  refine Pure.ofSub ?_
  refine pure_of_GC T_ok Tryz.func29 rfl (by kernel_rfl) (Nat.le_of_ble_eq_true rfl) rfl rfl ?_
  have := h.nr
  simp [go_sem]
  by_cases hv : g.valid = true
  rotate_left
  · have hv' : g.valid = false := by simpa using hv
    have e1 : g.ppS = nilS := if_neg hv
    have e2 : g.ppE = 8 := if_neg hv
    rw [e1, e2]
    refine callK_own [] (look_bad h hv') (by simp) rfl trivial ?_
    simp [go_sem]
  have e1 : g.ppS = llS (g.ppl g.nr) := if_pos hv
  have e2 : g.ppE = 0 := if_pos hv
  rw [e1, e2]
  have hth := EG.valid_lth hv
  refine callK_own [] (look_yes h hv) (by simp) rfl trivial ?_
  simp [go_sem]
  refine GLoop_v T_ok (α := Nat) (fun k => [(4, .ptr 1 0 4 0), (6, .mp 3), (27, .i g.nr), (28, .i k)]) g.pM (fun k => 4 + 2 * k) (fun k => k ≤ g.nr) (fun k => g.nr - k) 0 (by simp) ?_ ?_
  · refine Fit.of_fam (by decide) ?_ rfl ?_ (fun i hi => by omega)
    · simp [go_sem]
    · simp [go_sem, EG.hc, EG.cl]
  intro k J hi
  by_cases hlt : k < g.nr
  rotate_left
  · have e : k = g.nr := by omega
    subst e
    simp [go_sem]
    refine GLoop_pre (GSt.adopt 10 42 1 (fun _ _ => .r .any) rfl) ?_
    refine GLoop_fit T_ok (α := Nat) (fun k => [(6, .mp 3), (10, .sl (4 + 2 * g.nr) 1 0 (g.rts k).length none), (55, .i g.nr), (56, .i k)]) (fun k => upd (g.pM g.nr) (4 + 2 * g.nr) (some (.vec 42 1 (g.rts k).length (g.rg k)))) (4 + 2 * g.nr + 1) (fun k => k ≤ g.nr) (fun k => g.nr - k) 0 (by simp) ?_ ?_
    · refine Fit.of_slotsS (by simp) ?_ fun r => ?_
      · have s3 : 3 < 4 + 2 * g.nr + 1 := by omega
        simp [go_sem, s3, EG.rts]
      · unfold trimM
        simp only [upd_app]
        by_cases hr : r = 4 + 2 * g.nr
        · subst hr
          simp [go_sem, EG.rts]
        · rw [if_neg hr, if_neg hr]
          split
          · exact EG.pM_keep hth (by omega) _ (.inl rfl) r
          · rw [EG.pM_hi (by omega)]; exact Reg.sub_none _
    intro k J2 hi2
    by_cases hlt2 : k < g.nr
    rotate_left
    · have e : k = g.nr := by omega
      subst e
      simp [go_sem]
      have hpl := EG.ppl_rts hth (EG.valid_inl hv)
      refine ⟨by rw [hpl]; simp, fun i hi3 => ?_⟩
      obtain ⟨z1, z2⟩ := EG.rts_at hi3
      have hq1 : nth (g.rts g.nr) i = (g.rts g.nr)[i] := by simp [nth, List.getD, hi3]
      have hll : llR (g.ppl g.nr) i 0 = lnR (g.cl (nth (g.rts g.nr) i : Nat) g.nr) := by
        rw [hpl, hq1]
        simp [llR, List.getD, hi3]
      rw [hll]
      generalize nth (g.rts g.nr) i = a at *
      have hb := EG.hc_pq hth (Nat.le_refl _) z2
      have hpf : g.pf g.nr (pq a - 4) = some (.vec 3 1 (g.cl a g.nr).length (ints (g.cl a g.nr))) := by
        rw [show pq a - 4 = 2 * a + 1 from by simp [pq]; omega]
        exact EG.pf_at z2
      have y1 : ¬ pq a = 4 + 2 * g.nr := by omega
      have y2 : 4 ≤ pq a := by omega
      have y3 := hb.2.1
      simp [y1, y2, y3, hpf]
      rfl
    have n3 : ¬ 3 = 4 + 2 * g.nr := by omega
    have s3 : 3 < 4 + 2 * g.nr + 1 := by omega
    by_cases hh : g.hc g.nr k = true
    · have e : g.rts (k + 1) = g.rts k ++ [k] := by rw [EG.rts_succ, if_pos hh]
      have hpos : 0 < (g.cl k g.nr).length := by
        unfold EG.hc at hh
        cases hcl : g.cl k g.nr with
        | nil => rw [hcl] at hh; simp at hh
        | cons => simp
      have hrl := g.rts_len k
      simp [go_sem, hlt2, hh, n3, hpos]
      refine ⟨by omega, by omega, k + 1, by omega, by omega, Fit.of_slotsS (by simp) ?_ fun r => ?_⟩
      · rw [e]
        simp [go_sem, s3]
      · unfold trimM
        simp only [upd_app]
        by_cases hr : r = 4 + 2 * g.nr
        · subst hr
          rw [e]
          simp [go_sem]
          intro i hi3
          show _ = g.pv g.nr (nth (g.rts (k + 1)) i : Nat)
          rw [e, nth_app hi3]
          unfold joined
          by_cases h5 : i < (g.rts k).length
          · obtain ⟨z1, z2⟩ := EG.rts_at h5
            have hb := EG.hc_pq hth (Nat.le_refl _) z2
            rw [if_pos h5, if_pos h5]
            have y1 : ¬ pq (nth (g.rts k) i : Nat) = 4 + 2 * g.nr := by omega
            have y2 : pq (nth (g.rts k) i : Nat) < 4 + 2 * g.nr + 1 := by omega
            simp [go_sem, y1, y2]
          · have hb := EG.hc_pq hth (Nat.le_refl _) hh
            have h6 : i - (g.rts k).length = 0 := by omega
            rw [if_neg h5, if_neg h5, if_pos (by omega), h6]
            have y1 : ¬ pq (k : Nat) = 4 + 2 * g.nr := by omega
            have y2 : pq (k : Nat) < 4 + 2 * g.nr + 1 := by omega
            simp [go_sem, y1, y2]
        · simp only [if_neg hr]
          by_cases hlt3 : r < 4 + 2 * g.nr + 1
          · have hr1 : ¬ r = 4 + 2 * g.nr + 1 := by omega
            have := EG.pM_keep hth (N := 4 + 2 * g.nr + 1) (by omega) _ (.inr rfl) r
            rw [if_pos hlt3]
            simp only [killM, upd_app, if_neg hr, if_neg hr1, Option.map_map]
            exact this
          · rw [EG.pM_hi (by omega)]; exact Reg.sub_none _
    · have hh' : g.hc g.nr k = false := by simpa using hh
      have e : g.rts (k + 1) = g.rts k := by rw [EG.rts_succ, if_neg hh]
      simp [go_sem, hlt2, hh', n3]
      refine ⟨by omega, k + 1, by omega, by omega, Fit.of_slotsS (by simp) ?_ fun r => ?_⟩
      · rw [e]
        simp [go_sem, s3]
      · have eg : g.rg (k + 1) = g.rg k := by unfold EG.rg; rw [e]
        rw [e, eg]
        unfold trimM
        simp only [upd_app]
        by_cases hr : r = 4 + 2 * g.nr
        · subst hr
          simp [go_sem]
          intro i hi3
          obtain ⟨z1, z2⟩ := EG.rts_at hi3
          have hb := EG.hc_pq hth (Nat.le_refl _) z2
          omega
        · simp only [if_neg hr]
          split
          · exact EG.pM_keep hth (by omega) _ (.inl rfl) r
          · rw [EG.pM_hi (by omega)]; exact Reg.sub_none _
  by_cases ht : g.th k = true
  rotate_left
  · have ht' : g.th k = false := by simpa using ht
    have s1 : 1 < 4 + 2 * (k + 1) := by omega
    have s2 : 2 < 4 + 2 * (k + 1) := by omega
    have s3 : 3 < 4 + 2 * (k + 1) := by omega
    have s0 : 0 < 4 + 2 * (k + 1) := by omega
    simp [go_sem, hlt, ht']
    refine ⟨by omega, k + 1, by omega, by omega, Fit.of_fam (by simp) ?_ rfl ?_ (EG.pf_sub fun j hj hjc => ?_)⟩
    · simp [go_sem, s0, s1, s2, s3]
    · simp [go_sem, s0, s1, s2, s3]
      refine ⟨fun a => (EG.hc_ne (.inl ht')).symm, fun a ha => ?_⟩
      have := EG.hc_pq hth hi ha
      rw [if_pos (by omega : pq a < 4 + 2 * (k + 1))]
      show SV.sl _ _ _ _ _ = SV.sl _ _ _ _ _
      rw [EG.cl_ne (.inl ht')]
    · rw [EG.hc_ne (.inl ht')] at hjc
      rw [EG.cl_ne (.inl ht')]
      have h1 := EG.hc_lt hjc
      have h2 := g.pM_at hjc
      unfold trimM
      rw [if_pos (by omega), show 4 + (2 * j + 1) = 4 + 2 * j + 1 from rfl, h2]
      simp [Reg.trim, Reg.sub, SV.trim]
  have hp0 := EG.pm_bd hth g.nl k (Nat.le_refl _) (by omega) (by omega)
  have hple := EG.pm_le g g.nl k
  obtain ⟨p, hp⟩ : ∃ p : Nat, g.pm g.nl k = p := ⟨(g.pm g.nl k).toNat, by omega⟩
  have hpk : p ≤ k := by omega
  have hcl := EG.cl_at ht
  have hcat := EG.hc_at ht
  have hln := g.cl_len p k
  rw [hp] at hcl hcat
  by_cases hh : g.hc k p = true
  · have hlt2 := EG.hc_lt hh
    have hq : pq p = 4 + 2 * p + 1 := by simp [pq]
    have q3 : g.pf k (pq p - 4) = some (.vec 3 1 (g.cl p k).length (ints (g.cl p k))) := by
      rw [hq, show 4 + 2 * p + 1 - 4 = 2 * p + 1 from by omega]
      exact EG.pf_at hh
    generalize hQ : pq p = q at *
    have q1 : ¬ q = 4 + 2 * k := by omega
    have q2 : 4 ≤ q := by omega
    have q4 : q < 4 + 2 * k := by omega
    have q5 : ¬ q = 3 := by omega
    have q6 : ¬ 3 = q := by omega
    have r1 : ¬ 1 = 4 + 2 * k := by omega
    have r2 : ¬ 2 = 4 + 2 * k := by omega
    have r3 : ¬ 3 = 4 + 2 * k := by omega
    have s1 : 1 < 4 + 2 * (k + 1) := by omega
    have s2 : 2 < 4 + 2 * (k + 1) := by omega
    have s3 : 3 < 4 + 2 * (k + 1) := by omega
    have u1 : ¬ 1 = q := by omega
    have u2 : ¬ 2 = q := by omega
    have u0 : ¬ 0 = q := by omega
    have u4 : q < 4 + 2 * (k + 1) := by omega
    simp [go_sem, hlt, ht, hp, hh, hQ, q1, q2, q3, q4, q5, q6, r1, r2, r3]
    refine ⟨by omega, by omega, k + 1, by omega, by omega, Fit.of_fam (by simp) ?_ rfl ?_ (EG.pf_sub fun j hj hjc => ?_)⟩
    · simp [go_sem, s1, s2, s3, q6, u1, u2, u0]
    · have r0 : ¬ 0 = 4 + 2 * k := by omega
      have s0 : 0 < 4 + 2 * (k + 1) := by omega
      simp [go_sem, s0, s1, s2, s3, q6, u1, u2, u0, q2, q3, q4, r0, r1, r2, r3, u4]
      have hpqp : pq p = q := hQ
      refine ⟨fun a => ?_, ⟨hQ.symm, by rw [hcl]; simp⟩, fun a ha => ?_⟩
      · by_cases e : a = p
        · subst e; simp [hcat]
        · rw [EG.hc_ne (.inr (by rw [hp]; exact fun h => e h.symm))]; simp [e]
      · have hb := EG.hc_pq hth hi ha
        by_cases e : a = p
        · subst e
          rw [if_pos rfl]
          show _ = SV.sl _ _ _ _ _
          rw [hcl, hQ]; simp
        · have e2 : ¬ pq a = q := by
            rw [hq]; unfold pq; omega
          rw [if_neg e, if_neg e2, if_pos (by omega)]
          show _ = SV.sl _ _ _ _ _
          rw [EG.cl_ne (.inr (by rw [hp]; exact fun h => e h.symm))]
    · by_cases e : j = p
      · subst e
        have e1 : 4 + (2 * j + 1) = q := by omega
        rw [e1]
        simp [go_sem, q5, u4, hcl]
        intro i hi2
        rw [joined_ints hi2 rfl]; rfl
      · have e1 : ¬ (j : Int) = p := by omega
        have e2 : g.th k = false ∨ g.pm g.nl k ≠ (j : Int) := .inr (by rw [hp]; exact fun h => e1 h.symm)
        rw [EG.hc_ne e2] at hjc
        rw [EG.cl_ne e2]
        have h1 := EG.hc_lt hjc
        have h2 : g.pf k (4 + (2 * j + 1) - 4) = some (.vec 3 1 (g.cl j k).length (ints (g.cl j k))) := by
          rw [show 4 + (2 * j + 1) - 4 = 2 * j + 1 from by omega]; exact EG.pf_at hjc
        have h3 : 4 + (2 * j + 1) < 4 + 2 * k := by omega
        have h4 : ¬ 4 + (2 * j + 1) = q := by omega
        have h5 : 4 ≤ 4 + (2 * j + 1) := by omega
        generalize 4 + (2 * j + 1) = r at *
        have h6 : ¬ r = 3 := by omega
        have h7 : ¬ r = 4 + 2 * k := by omega
        have h8 : r < 4 + 2 * (k + 1) := by omega
        simp [go_sem, h2, h3, h4, h5, h6, h7, h8, killM]
  · have hh' : g.hc k p = false := by simpa using hh
    have hpk' : p = k := by
      apply Classical.byContradiction
      intro hne
      refine hh (EG.hc_iff.2 ⟨p, by omega, ?_, ?_⟩)
      · rw [← hp]; exact EG.pm_th hth ht
      · rw [← hp]; exact EG.pm_pm g k
    subst hpk'
    have r1 : ¬ 1 = 4 + 2 * p := by omega
    have r2 : ¬ 2 = 4 + 2 * p := by omega
    have r3 : ¬ 3 = 4 + 2 * p := by omega
    have r4 : ¬ 4 + 2 * p = 2 := by omega
    have s1 : 1 < 4 + 2 * (p + 1) := by omega
    have s2 : 2 < 4 + 2 * (p + 1) := by omega
    have s3 : 3 < 4 + 2 * (p + 1) := by omega
    simp [go_sem, hlt, ht, hp, hh', r1, r2, r3, r4]
    refine ⟨by omega, p + 1, by omega, by omega, Fit.of_fam (by simp) ?_ rfl ?_ (EG.pf_sub fun j hj hjc => ?_)⟩
    · simp [go_sem, s1, s2, s3]
    · have r0 : ¬ 0 = 4 + 2 * p := by omega
      have s0 : 0 < 4 + 2 * (p + 1) := by omega
      have r5 : ¬ 4 + 2 * p = 1 := by omega
      have r6 : ¬ 4 + 2 * p = 0 := by omega
      simp [go_sem, s0, s1, s2, s3, r0, r1, r2, r3, r4, r5, r6]
      have hln0 : (g.cl p p).length = 0 := by
        unfold EG.hc at hh'
        simpa using hh'
      refine ⟨fun a => ?_, ?_, fun a ha => ?_⟩
      · by_cases e : a = p
        · subst e; simp [hcat]
        · rw [EG.hc_ne (.inr (by rw [hp]; exact fun h => e h.symm))]; simp [e]
      · rw [if_pos (by omega)]
        show SV.sl _ _ _ _ _ = SV.sl (pq p) _ _ _ _
        rw [hcl, List.length_append, hln0]
        rfl
      · by_cases e : a = p
        · subst e
          rw [if_pos rfl, if_pos (by omega)]
          show SV.sl _ _ _ _ _ = SV.sl (pq p) _ _ _ _
          rw [hcl, List.length_append, hln0]
          rfl
        · have ha' : g.hc p a = true := by
            simpa [e] using ha
          have hb := EG.hc_pq hth hi ha'
          rw [if_neg e, if_pos (by omega)]
          show SV.sl _ _ _ _ _ = SV.sl _ _ _ _ _
          rw [EG.cl_ne (.inr (by rw [hp]; exact fun h => e h.symm))]
    · have hln0 : (g.cl p p).length = 0 := by
        unfold EG.hc at hh'
        simpa using hh'
      by_cases e : j = p
      · subst e
        have e1 : 4 + (2 * j + 1) = 4 + 2 * j + 1 := rfl
        have hnil : g.cl j j = [] := List.eq_nil_of_length_eq_zero hln0
        have s4 : 4 + 2 * j + 1 < 4 + 2 * (j + 1) := by omega
        rw [e1, hcl, hnil]
        simp [go_sem, r4, s4]
        rfl
      · have e1 : ¬ (j : Int) = p := by omega
        have e2 : g.th p = false ∨ g.pm g.nl p ≠ (j : Int) := .inr (by rw [hp]; exact fun h => e1 h.symm)
        rw [EG.hc_ne e2] at hjc
        rw [EG.cl_ne e2]
        have h1 := EG.hc_lt hjc
        have h2 : g.pf p (4 + (2 * j + 1) - 4) = some (.vec 3 1 (g.cl j p).length (ints (g.cl j p))) := by
          rw [show 4 + (2 * j + 1) - 4 = 2 * j + 1 from by omega]; exact EG.pf_at hjc
        have h3 : 4 + (2 * j + 1) < 4 + 2 * p := by omega
        have h5 : 4 ≤ 4 + (2 * j + 1) := by omega
        generalize 4 + (2 * j + 1) = r at *
        have h6 : ¬ r = 3 := by omega
        have h7 : ¬ r = 4 + 2 * p := by omega
        have h9 : ¬ r = 4 + 2 * p + 1 := by omega
        have h8 : r < 4 + 2 * (p + 1) := by omega
        simp [go_sem, h2, h3, h5, h6, h7, h8, h9]
end Go.Gx
