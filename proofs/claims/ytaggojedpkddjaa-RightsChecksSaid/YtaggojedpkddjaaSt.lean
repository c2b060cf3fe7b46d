/-
  The reference's Prune and Forget.
-/
import Derived.Test.YtaggojedpkddjaaSj
set_option linter.unusedVariables false
set_option linter.unusedSimpArgs false
set_option maxRecDepth 20000
set_option maxHeartbeats 4000000
namespace Go.Gx
open Go.RowKit Go.Proofs Go.Proofs.Ytaggojedpkddjaa

/-- Rows that were chosen. -/
abbrev keptV {α : Type} (x : Nat → α) (c : α → Nat → RV) (l : List Nat) : Nat → Nat → RV := fun i j => c (x (l.getD i 0)) j
theorem keptV_add {α : Type} {x : Nat → α} {c : α → Nat → RV} {l : List Nat} {k w : Nat} {h : Nat → Nat → RV} (hh : ∀ j, j < w → h 0 j = c (x k) j) {i j : Nat} (hi : i < l.length + 1) (hj : j < w) :
    joined l.length 1 (keptV x c l) h i j = keptV x c (l ++ [k]) i j := by
  unfold joined keptV
  by_cases h1 : i < l.length
  · rw [if_pos h1]
    simp [List.getD, List.getElem?_append_left h1]
  · have : i = l.length := by omega
    subst this
    rw [if_neg h1, if_pos hi]
    simp [hh j hj]

theorem ref19 (g : RG) (t : Int) (h : g.OK) : Pure Try.prog 19 [g.sv, .i t] (· = .tup [(if g.prE t = 0 then g.prune t else RG.nil).sv, .i (g.prE t)]) := by
  refine Pure.ofSub ?_
  refine pure_of_GC T_ok Try.func19 rfl (by kernel_rfl) (Nat.le_of_ble_eq_true rfl) rfl rfl ?_
  simp [go_sem]
  refine call_val (valid58 g h) rfl rfl ?_
  by_cases hv : g.valid = true
  rotate_left
  · have hv' : g.valid = false := by simpa using hv
    have ha : g.prE t = 8 := by unfold RG.prE; rw [if_neg hv]
    simp [go_sem, hv', ha, RG.nil]
  have hl := RG.lim hv
  rw [hv]
  simp [go_sem]
  refine call_val (v := .b (timeB t)) (when59 t) rfl rfl ?_
  by_cases ht : timeB t = true
  rotate_left
  · have ht' : timeB t = false := by simpa using ht
    have ha : g.prE t = 2 := by unfold RG.prE; rw [if_pos hv, if_neg ht]
    simp [go_sem, ht', ha, RG.nil]
  have ha : g.prE t = 0 := by unfold RG.prE; rw [if_pos hv, if_pos ht]
  rw [ht]
  simp [go_sem, ha]
  refine GLoop_pre (GSt.adoptBox 2 0 48 8 (keptV g.r RuleG.c []) (by simp [go_sem]; rfl) rfl (by omega)) ?_
  refine GLoop_s T_ok (α := Nat) (fun k => [(1, .i t), (2, .ptr 0 0 4 0), (4, .ptr 1 0 4 0), (6, .ptr 2 0 4 0), (7, .i k)])
    (fun k => g.box ++ [some (.box [nilS, nilS, nilS, nilS]), some (.box [.sl 3 8 0 (kept (fun i => decide ((g.r i).t ≤ t)) k).length none, nilS, nilS, nilS]), some (.vec 48 8 (kept (fun i => decide ((g.r i).t ≤ t)) k).length (keptV g.r RuleG.c (kept (fun i => decide ((g.r i).t ≤ t)) k)))]) 4 (fun k => k ≤ g.nr) (fun k => g.nr - k) 0 (fun _ => rfl) (by simp) (by simp [go_sem, kept]) (by simp [go_sem, kept]) ?_
  intro k J hi
  have hkl := kept_le (fun i => decide ((g.r i).t ≤ t)) k
  by_cases hlt : k < g.nr
  · by_cases hx : (g.r k).t ≤ t
    · have hs : (kept (fun i => decide ((g.r i).t ≤ t)) (k + 1)) = (kept (fun i => decide ((g.r i).t ≤ t)) k) := by rw [kept_succ]; simp [hx]
      simp [go_sem, hlt, Int.not_lt.2 hx]
      exact ⟨by omega, k + 1, by omega, by omega, by simp, by rw [hs]; simp⟩
    · have hs : (kept (fun i => decide ((g.r i).t ≤ t)) (k + 1)) = (kept (fun i => decide ((g.r i).t ≤ t)) k) ++ [k] := by rw [kept_succ]; simp [hx]
      have hx' : t < (g.r k).t := by omega
      simp [go_sem, hlt, hx']
      refine GDraw_of T_ok (by kernel_rfl) 8 (by kernel_rfl) rfl rfl ?_
      simp [go_sem, hlt]
      refine ⟨⟨by omega, by omega⟩, by omega, k + 1, by omega, by omega, ?_⟩
      rw [hs]
      simp
      exact fun i j hi hj => keptV_add (w := 8) (fun j hj => by rcases (show j = 0 ∨ j = 1 ∨ j = 2 ∨ j = 3 ∨ j = 4 ∨ j = 5 ∨ j = 6 ∨ j = 7 by omega) with rfl | rfl | rfl | rfl | rfl | rfl | rfl | rfl <;> rfl) hi hj
  have hk : k = g.nr := by omega
  subst hk
  simp [go_sem, hlt]
  clear hi hlt hkl
  refine GLoop_pre (GSt.adoptBox 2 1 65 3 (keptV g.c ConG.c []) (by simp [go_sem]; rfl) rfl (by omega)) ?_
  refine GLoop_s T_ok (α := Nat) (fun k => [(1, .i t), (2, .ptr 0 0 4 0), (4, .ptr 1 0 4 0), (6, .ptr 2 0 4 0), (8, .i k)])
    (fun k => g.box ++ [some (.box [nilS, nilS, nilS, nilS]), some (.box [.sl 3 8 0 (kept (fun i => decide ((g.r i).t ≤ t)) g.nr).length none, .sl 4 3 0 (kept (fun i => decide ((g.c i).u ≤ t)) k).length none, nilS, nilS]), some (.vec 48 8 (kept (fun i => decide ((g.r i).t ≤ t)) g.nr).length (keptV g.r RuleG.c (kept (fun i => decide ((g.r i).t ≤ t)) g.nr))), some (.vec 65 3 (kept (fun i => decide ((g.c i).u ≤ t)) k).length (keptV g.c ConG.c (kept (fun i => decide ((g.c i).u ≤ t)) k)))]) 5 (fun k => k ≤ g.nc) (fun k => g.nc - k) 0 (fun _ => rfl) (by simp) (by simp [go_sem, kept]) (by simp [go_sem, kept]) ?_
  intro k J hi
  have hkl := kept_le (fun i => decide ((g.c i).u ≤ t)) k
  by_cases hlt : k < g.nc
  · by_cases hx : (g.c k).u ≤ t
    · have hs : (kept (fun i => decide ((g.c i).u ≤ t)) (k + 1)) = (kept (fun i => decide ((g.c i).u ≤ t)) k) := by rw [kept_succ]; simp [hx]
      simp [go_sem, hlt, Int.not_lt.2 hx]
      exact ⟨by omega, k + 1, by omega, by omega, by simp, by rw [hs]; simp⟩
    · have hs : (kept (fun i => decide ((g.c i).u ≤ t)) (k + 1)) = (kept (fun i => decide ((g.c i).u ≤ t)) k) ++ [k] := by rw [kept_succ]; simp [hx]
      have hx' : t < (g.c k).u := by omega
      simp [go_sem, hlt, hx']
      refine GDraw_of T_ok (by kernel_rfl) 8 (by kernel_rfl) rfl rfl ?_
      simp [go_sem, hlt]
      refine ⟨⟨by omega, by omega⟩, by omega, k + 1, by omega, by omega, ?_⟩
      rw [hs]
      simp
      exact fun i j hi hj => keptV_add (w := 3) (fun j hj => by rcases (show j = 0 ∨ j = 1 ∨ j = 2 by omega) with rfl | rfl | rfl <;> rfl) hi hj
  have hk : k = g.nc := by omega
  subst hk
  simp [go_sem, hlt]
  clear hi hlt hkl
  refine GLoop_pre (GSt.adoptBox 2 2 67 4 (keptV g.w WarG.c []) (by simp [go_sem]; rfl) rfl (by omega)) ?_
  refine GLoop_s T_ok (α := Nat) (fun k => [(1, .i t), (2, .ptr 0 0 4 0), (4, .ptr 1 0 4 0), (6, .ptr 2 0 4 0), (9, .i k)])
    (fun k => g.box ++ [some (.box [nilS, nilS, nilS, nilS]), some (.box [.sl 3 8 0 (kept (fun i => decide ((g.r i).t ≤ t)) g.nr).length none, .sl 4 3 0 (kept (fun i => decide ((g.c i).u ≤ t)) g.nc).length none, .sl 5 4 0 (kept (fun i => decide ((g.w i).t ≤ t)) k).length none, nilS]), some (.vec 48 8 (kept (fun i => decide ((g.r i).t ≤ t)) g.nr).length (keptV g.r RuleG.c (kept (fun i => decide ((g.r i).t ≤ t)) g.nr))), some (.vec 65 3 (kept (fun i => decide ((g.c i).u ≤ t)) g.nc).length (keptV g.c ConG.c (kept (fun i => decide ((g.c i).u ≤ t)) g.nc))), some (.vec 67 4 (kept (fun i => decide ((g.w i).t ≤ t)) k).length (keptV g.w WarG.c (kept (fun i => decide ((g.w i).t ≤ t)) k)))]) 6 (fun k => k ≤ g.nw) (fun k => g.nw - k) 0 (fun _ => rfl) (by simp) (by simp [go_sem, kept]) (by simp [go_sem, kept]) ?_
  intro k J hi
  have hkl := kept_le (fun i => decide ((g.w i).t ≤ t)) k
  by_cases hlt : k < g.nw
  · by_cases hx : (g.w k).t ≤ t
    · have hs : (kept (fun i => decide ((g.w i).t ≤ t)) (k + 1)) = (kept (fun i => decide ((g.w i).t ≤ t)) k) := by rw [kept_succ]; simp [hx]
      simp [go_sem, hlt, Int.not_lt.2 hx]
      exact ⟨by omega, k + 1, by omega, by omega, by simp, by rw [hs]; simp⟩
    · have hs : (kept (fun i => decide ((g.w i).t ≤ t)) (k + 1)) = (kept (fun i => decide ((g.w i).t ≤ t)) k) ++ [k] := by rw [kept_succ]; simp [hx]
      have hx' : t < (g.w k).t := by omega
      simp [go_sem, hlt, hx']
      refine GDraw_of T_ok (by kernel_rfl) 8 (by kernel_rfl) rfl rfl ?_
      simp [go_sem, hlt]
      refine ⟨⟨by omega, by omega⟩, by omega, k + 1, by omega, by omega, ?_⟩
      rw [hs]
      simp
      exact fun i j hi hj => keptV_add (w := 4) (fun j hj => by rcases (show j = 0 ∨ j = 1 ∨ j = 2 ∨ j = 3 by omega) with rfl | rfl | rfl | rfl <;> rfl) hi hj
  have hk : k = g.nw := by omega
  subst hk
  simp [go_sem, hlt]
  clear hi hlt hkl
  refine GLoop_pre (GSt.adoptBox 2 3 69 5 (keptV g.m MarkG.c []) (by simp [go_sem]; rfl) rfl (by omega)) ?_
  refine GLoop_s T_ok (α := Nat) (fun k => [(1, .i t), (2, .ptr 0 0 4 0), (4, .ptr 1 0 4 0), (6, .ptr 2 0 4 0), (10, .i k)])
    (fun k => g.box ++ [some (.box [nilS, nilS, nilS, nilS]), some (.box [.sl 3 8 0 (kept (fun i => decide ((g.r i).t ≤ t)) g.nr).length none, .sl 4 3 0 (kept (fun i => decide ((g.c i).u ≤ t)) g.nc).length none, .sl 5 4 0 (kept (fun i => decide ((g.w i).t ≤ t)) g.nw).length none, .sl 6 5 0 (kept (fun i => decide ((g.m i).u ≤ t)) k).length none]), some (.vec 48 8 (kept (fun i => decide ((g.r i).t ≤ t)) g.nr).length (keptV g.r RuleG.c (kept (fun i => decide ((g.r i).t ≤ t)) g.nr))), some (.vec 65 3 (kept (fun i => decide ((g.c i).u ≤ t)) g.nc).length (keptV g.c ConG.c (kept (fun i => decide ((g.c i).u ≤ t)) g.nc))), some (.vec 67 4 (kept (fun i => decide ((g.w i).t ≤ t)) g.nw).length (keptV g.w WarG.c (kept (fun i => decide ((g.w i).t ≤ t)) g.nw))), some (.vec 69 5 (kept (fun i => decide ((g.m i).u ≤ t)) k).length (keptV g.m MarkG.c (kept (fun i => decide ((g.m i).u ≤ t)) k)))]) 7 (fun k => k ≤ g.nm) (fun k => g.nm - k) 0 (fun _ => rfl) (by simp) (by simp [go_sem, kept]) (by simp [go_sem, kept]) ?_
  intro k J hi
  have hkl := kept_le (fun i => decide ((g.m i).u ≤ t)) k
  by_cases hlt : k < g.nm
  · by_cases hx : (g.m k).u ≤ t
    · have hs : (kept (fun i => decide ((g.m i).u ≤ t)) (k + 1)) = (kept (fun i => decide ((g.m i).u ≤ t)) k) := by rw [kept_succ]; simp [hx]
      simp [go_sem, hlt, Int.not_lt.2 hx]
      exact ⟨by omega, k + 1, by omega, by omega, by simp, by rw [hs]; simp⟩
    · have hs : (kept (fun i => decide ((g.m i).u ≤ t)) (k + 1)) = (kept (fun i => decide ((g.m i).u ≤ t)) k) ++ [k] := by rw [kept_succ]; simp [hx]
      have hx' : t < (g.m k).u := by omega
      simp [go_sem, hlt, hx']
      refine GDraw_of T_ok (by kernel_rfl) 8 (by kernel_rfl) rfl rfl ?_
      simp [go_sem, hlt]
      refine ⟨⟨by omega, by omega⟩, by omega, k + 1, by omega, by omega, ?_⟩
      rw [hs]
      simp
      exact fun i j hi hj => keptV_add (w := 5) (fun j hj => by rcases (show j = 0 ∨ j = 1 ∨ j = 2 ∨ j = 3 ∨ j = 4 by omega) with rfl | rfl | rfl | rfl | rfl <;> rfl) hi hj
  have hk : k = g.nm := by omega
  subst hk
  simp [go_sem, hlt]
  clear hi hlt hkl
  exact ⟨⟨rfl, fun _ _ _ _ => rfl⟩, ⟨rfl, fun _ _ _ _ => rfl⟩, ⟨rfl, fun _ _ _ _ => rfl⟩, rfl, fun _ _ _ _ => rfl⟩
theorem Own.sub {P : Program} {f : FuncId} {Rs Rs' : List Reg} {args args' : List SV} {S : SV} (h : Own P f Rs args' S Rs') (hs : SV.subL args args') : Own P f Rs args S Rs' := fun B σ w vs hm ha => h B σ w vs hm (SV.subL_rel _ _ _ hs ha)
theorem ref21 (g : RG) (t : Int) (h : g.OK) : Pure Try.prog 21 [g.sv, .i t] (· = .tup [(if g.foE t = 0 then g.forget t else RG.nil).sv, .i (g.foE t)]) := by
  refine Pure.ofSub ?_
  refine pure_of_GC T_ok Try.func21 rfl (by kernel_rfl) (Nat.le_of_ble_eq_true rfl) rfl rfl ?_
  simp [go_sem]
  refine call_val (valid58 g h) rfl rfl ?_
  by_cases hv : g.valid = true
  rotate_left
  · have hv' : g.valid = false := by simpa using hv
    have ha : g.foE t = 8 := by unfold RG.foE; rw [if_neg hv]
    simp [go_sem, hv', ha, RG.nil]
  have hl := RG.lim hv
  rw [hv]
  simp [go_sem]
  refine call_val (v := .b (persB t)) (person64 t) rfl rfl ?_
  by_cases ht : persB t = true
  rotate_left
  · have ht' : persB t = false := by simpa using ht
    have ha : g.foE t = 2 := by unfold RG.foE; rw [if_pos hv, if_neg ht]
    simp [go_sem, ht', ha, RG.nil]
  have ha : g.foE t = 0 := by unfold RG.foE; rw [if_pos hv, if_pos ht]
  rw [ht]
  simp [go_sem, ha]
  refine callK_own [] (Own.sub (twin17 ⟨g.nr, g.r, 0, g.c, 0, g.w, 0, g.m⟩ (by dsimp only; omega) (by simp) (by simp) (by simp)) (args := [.agg [RuleG.rs g.nr g.r, nilS, nilS, nilS]]) (by simp [go_sem])) (by simp) rfl trivial ?_
  simp [go_sem]
  refine GLoop_s T_ok (α := Nat) (fun k => [(1, .i t), (2, .ptr 0 0 4 0), (4, .ptr 1 0 4 0), (6, .ptr 6 0 4 0), (7, .i k)])
    (fun k => g.box ++ [some (.box [nilS, nilS, nilS, nilS]), some (.vec 48 8 g.nr fun i j => (g.r i).c j), some (.vec 65 3 (kept (fun i => decide ((g.c i).p = t)) k).length (keptV g.c ConG.c (kept (fun i => decide ((g.c i).p = t)) k))), some (.vec 67 4 0 (keptV g.w WarG.c [])), some (.vec 69 5 0 (keptV g.m MarkG.c [])), some (.box [.sl 2 8 0 g.nr none, .sl 3 3 0 (kept (fun i => decide ((g.c i).p = t)) k).length none, .sl 4 4 0 0 none, .sl 5 5 0 0 none])]) 7 (fun k => k ≤ g.nc) (fun k => g.nc - k) 0 (fun _ => rfl) (by simp) (by simp [go_sem, kept]) (by simp [go_sem, kept]) ?_
  intro k J hi
  have hkl := kept_le (fun i => decide ((g.c i).p = t)) k
  by_cases hlt : k < g.nc
  · by_cases hx : (g.c k).p = t
    · have hs : (kept (fun i => decide ((g.c i).p = t)) (k + 1)) = (kept (fun i => decide ((g.c i).p = t)) k) := by rw [kept_succ]; simp [hx]
      simp [go_sem, hlt, hx]
      exact ⟨by omega, k + 1, by omega, by omega, by simp, by rw [hs]; simp⟩
    · have hs : (kept (fun i => decide ((g.c i).p = t)) (k + 1)) = (kept (fun i => decide ((g.c i).p = t)) k) ++ [k] := by rw [kept_succ]; simp [hx]
      simp [go_sem, hlt, hx]
      refine GDraw_of T_ok (by kernel_rfl) 8 (by kernel_rfl) rfl rfl ?_
      simp [go_sem, hlt]
      refine ⟨⟨by omega, by omega⟩, by omega, k + 1, by omega, by omega, ?_⟩
      rw [hs]
      simp
      exact fun i j hi hj => keptV_add (w := 3) (fun j hj => by rcases (show j = 0 ∨ j = 1 ∨ j = 2 by omega) with rfl | rfl | rfl <;> rfl) hi hj
  have hk : k = g.nc := by omega
  subst hk
  simp [go_sem, hlt]
  clear hi hlt hkl
  refine GLoop_s T_ok (α := Nat) (fun k => [(1, .i t), (2, .ptr 0 0 4 0), (4, .ptr 1 0 4 0), (6, .ptr 6 0 4 0), (8, .i k)])
    (fun k => g.box ++ [some (.box [nilS, nilS, nilS, nilS]), some (.vec 48 8 g.nr fun i j => (g.r i).c j), some (.vec 65 3 (kept (fun i => decide ((g.c i).p = t)) g.nc).length (keptV g.c ConG.c (kept (fun i => decide ((g.c i).p = t)) g.nc))), some (.vec 67 4 (kept (fun i => decide ((g.w i).p = t)) k).length (keptV g.w WarG.c (kept (fun i => decide ((g.w i).p = t)) k))), some (.vec 69 5 0 (keptV g.m MarkG.c [])), some (.box [.sl 2 8 0 g.nr none, .sl 3 3 0 (kept (fun i => decide ((g.c i).p = t)) g.nc).length none, .sl 4 4 0 (kept (fun i => decide ((g.w i).p = t)) k).length none, .sl 5 5 0 0 none])]) 7 (fun k => k ≤ g.nw) (fun k => g.nw - k) 0 (fun _ => rfl) (by simp) (by simp [go_sem, kept]) (by simp [go_sem, kept]) ?_
  intro k J hi
  have hkl := kept_le (fun i => decide ((g.w i).p = t)) k
  by_cases hlt : k < g.nw
  · by_cases hx : (g.w k).p = t
    · have hs : (kept (fun i => decide ((g.w i).p = t)) (k + 1)) = (kept (fun i => decide ((g.w i).p = t)) k) := by rw [kept_succ]; simp [hx]
      simp [go_sem, hlt, hx]
      exact ⟨by omega, k + 1, by omega, by omega, by simp, by rw [hs]; simp⟩
    · have hs : (kept (fun i => decide ((g.w i).p = t)) (k + 1)) = (kept (fun i => decide ((g.w i).p = t)) k) ++ [k] := by rw [kept_succ]; simp [hx]
      simp [go_sem, hlt, hx]
      refine GDraw_of T_ok (by kernel_rfl) 8 (by kernel_rfl) rfl rfl ?_
      simp [go_sem, hlt]
      refine ⟨⟨by omega, by omega⟩, by omega, k + 1, by omega, by omega, ?_⟩
      rw [hs]
      simp
      exact fun i j hi hj => keptV_add (w := 4) (fun j hj => by rcases (show j = 0 ∨ j = 1 ∨ j = 2 ∨ j = 3 by omega) with rfl | rfl | rfl | rfl <;> rfl) hi hj
  have hk : k = g.nw := by omega
  subst hk
  simp [go_sem, hlt]
  clear hi hlt hkl
  refine GLoop_s T_ok (α := Nat) (fun k => [(1, .i t), (2, .ptr 0 0 4 0), (4, .ptr 1 0 4 0), (6, .ptr 6 0 4 0), (9, .i k)])
    (fun k => g.box ++ [some (.box [nilS, nilS, nilS, nilS]), some (.vec 48 8 g.nr fun i j => (g.r i).c j), some (.vec 65 3 (kept (fun i => decide ((g.c i).p = t)) g.nc).length (keptV g.c ConG.c (kept (fun i => decide ((g.c i).p = t)) g.nc))), some (.vec 67 4 (kept (fun i => decide ((g.w i).p = t)) g.nw).length (keptV g.w WarG.c (kept (fun i => decide ((g.w i).p = t)) g.nw))), some (.vec 69 5 (kept (fun i => decide ((g.m i).p = t)) k).length (keptV g.m MarkG.c (kept (fun i => decide ((g.m i).p = t)) k))), some (.box [.sl 2 8 0 g.nr none, .sl 3 3 0 (kept (fun i => decide ((g.c i).p = t)) g.nc).length none, .sl 4 4 0 (kept (fun i => decide ((g.w i).p = t)) g.nw).length none, .sl 5 5 0 (kept (fun i => decide ((g.m i).p = t)) k).length none])]) 7 (fun k => k ≤ g.nm) (fun k => g.nm - k) 0 (fun _ => rfl) (by simp) (by simp [go_sem, kept]) (by simp [go_sem, kept]) ?_
  intro k J hi
  have hkl := kept_le (fun i => decide ((g.m i).p = t)) k
  by_cases hlt : k < g.nm
  · by_cases hx : (g.m k).p = t
    · have hs : (kept (fun i => decide ((g.m i).p = t)) (k + 1)) = (kept (fun i => decide ((g.m i).p = t)) k) := by rw [kept_succ]; simp [hx]
      simp [go_sem, hlt, hx]
      exact ⟨by omega, k + 1, by omega, by omega, by simp, by rw [hs]; simp⟩
    · have hs : (kept (fun i => decide ((g.m i).p = t)) (k + 1)) = (kept (fun i => decide ((g.m i).p = t)) k) ++ [k] := by rw [kept_succ]; simp [hx]
      simp [go_sem, hlt, hx]
      refine GDraw_of T_ok (by kernel_rfl) 8 (by kernel_rfl) rfl rfl ?_
      simp [go_sem, hlt]
      refine ⟨⟨by omega, by omega⟩, by omega, k + 1, by omega, by omega, ?_⟩
      rw [hs]
      simp
      exact fun i j hi hj => keptV_add (w := 5) (fun j hj => by rcases (show j = 0 ∨ j = 1 ∨ j = 2 ∨ j = 3 ∨ j = 4 by omega) with rfl | rfl | rfl | rfl | rfl <;> rfl) hi hj
  have hk : k = g.nm := by omega
  subst hk
  simp [go_sem, hlt]
  clear hi hlt hkl
  exact ⟨⟨rfl, fun _ _ _ _ => rfl⟩, ⟨rfl, fun _ _ _ _ => rfl⟩, ⟨rfl, fun _ _ _ _ => rfl⟩, rfl, fun _ _ _ _ => rfl⟩
end Go.Gx
