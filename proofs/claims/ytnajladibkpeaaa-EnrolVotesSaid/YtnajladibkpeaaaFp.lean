/-
  Remove: the reference's.
-/
import Derived.Test.YtnajladibkpeaaaFo
set_option linter.unusedVariables false
set_option linter.unusedSimpArgs false
set_option maxRecDepth 20000
set_option maxHeartbeats 4000000
namespace Go.Gx
open Go.RowKit Go.Proofs Go.Proofs.Ytnajladibkpeaaa

theorem OwnS.argsSub {P : Program} {np : Nat} {f : FuncId} {Rs Rs' : List Reg} {args args' : List SV} {S : SV} (h : OwnS P np f Rs args' S Rs') (hl : SV.subL args args') : OwnS P np f Rs args S Rs' :=
  fun B σ w vs hm ha => h B σ w vs hm (SV.subL_rel _ _ _ hl ha)
def EG.rec0 (g : EG) : EG := ⟨g.nr, g.r, 0, g.l, 0, g.c⟩
theorem twin_rec (g : EG) (hr : g.nr ≤ 1000000) : Own Try.prog 25 [] [.agg [g.rr, nilS, nilS]] (.agg [.sl 0 2 0 g.nr none, .sl 1 3 0 0 none, .sl 2 3 0 0 none]) [.vec 85 2 g.nr fun i j => .r ((g.r i).c j), .vec 46 3 0 fun i j => .r ((g.l i).c j), .vec 93 3 0 (g.oc 3)] :=
  (twin25 g.rec0 hr (Nat.zero_le _) (Nat.zero_le _) (fun i hi => absurd hi (Nat.not_lt_zero _))).argsSub (by simp [go_sem, EG.rec0])
theorem Reg.ownL_map {f : Nat → Reg} (h : ∀ i, (f i).own) : ∀ l : List Nat, Reg.ownL (l.map f)
  | [] => trivial
  | i :: l => ⟨h i, Reg.ownL_map h l⟩
theorem EG.oR_own (g : EG) : Reg.ownL g.oR := by
  refine ⟨fun i j _ hj => ?_, fun i j _ hj => ?_, fun i j _ hj => ?_, Reg.ownL_map (f := g.ov) (fun i => ?_) _⟩
  · rcases (by omega : j = 0 ∨ j = 1) with rfl | rfl <;> rfl
  · rcases (by omega : j = 0 ∨ j = 1 ∨ j = 2) with rfl | rfl | rfl <;> rfl
  · rcases (by omega : j = 0 ∨ j = 1 ∨ j = 2) with rfl | rfl | rfl
    · rfl
    · rfl
    · trivial
  · intro a j _ hj
    rcases (by omega : j = 0 ∨ j = 1) with rfl | rfl <;> rfl
@[go_sem] theorem addM_famN (ρ : Nat → Nat) (i n : Nat) (f : Nat → Reg) (M : Mem) : addM i ((List.range n).map f) ρ M = famN M i n fun j => some ((f j).ren ρ) := by
  funext r
  rw [addM_at, famN_app]
  simp only [List.length_map, List.length_range]
  by_cases h : i ≤ r ∧ r < i + n
  · rw [if_pos h, if_pos (by omega)]
    simp [show r - i < n by omega]
  · rw [if_neg h, if_neg (by omega)]
theorem refRem_bad {g : EG} (h : g.OK) (hv : g.valid = false) (a : Int) : Pure Try.prog 29 [g.sv, .i a] (· = .tup [nilR, .i 8]) := by
  refine pure_of_GC T_ok Try.func29 rfl (by kernel_rfl) (Nat.le_of_ble_eq_true rfl) rfl rfl ?_
  simp [go_sem]
  refine call_val (valid49 g h) rfl rfl ?_
  simp [go_sem, hv]
theorem refRem_no {g : EG} (h : g.OK) (hv : g.valid = true) {a : Int} (ha : g.th a = false) : Pure Try.prog 29 [g.sv, .i a] (· = .tup [nilR, .i 6]) := by
  refine pure_of_GC T_ok Try.func29 rfl (by kernel_rfl) (Nat.le_of_ble_eq_true rfl) rfl rfl ?_
  simp [go_sem]
  refine call_val (valid49 g h) rfl rfl ?_
  simp [go_sem, hv]
  refine call_val (there50 g h a) rfl rfl ?_
  simp [go_sem, ha]
theorem refRem29 {g : EG} (h : g.Sm) (hv : g.valid = true) {a : Nat} (ha : g.th a = true) : Pure Try.prog 29 [g.sv, .i a] (· = .tup [(g.remG a).sv, .i 0]) := by
  refine Pure.ofSub ?_
  refine pure_of_GC T_ok Try.func29 rfl (by kernel_rfl) (Nat.le_of_ble_eq_true rfl) rfl rfl ?_
  have hr := h.nr
  have hl := h.nl
  have hc := h.nc
  have hk : a < g.nr := by simp [EG.th, btw] at ha; omega
  simp [go_sem]
  refine call_val (valid49 g h.ok) rfl rfl ?_
  simp [go_sem, hv]
  refine call_val (there50 g h.ok a) rfl rfl ?_
  simp [go_sem, ha]
  refine callK_own [] (twin_rec g (by omega)) (by simp) rfl trivial ?_
  simp [go_sem, hk]
  have el : ∀ k, (kept (g.lp a) k).length ≤ k := fun k => kept_le _ _
  have ec : ∀ k, (kept (g.cp a) k).length ≤ k := fun k => kept_le _ _
  refine GLoop_s T_ok (α := Nat) (fun k => [(1, .i a), (2, .ptr 0 0 3 0), (4, .ptr 1 0 3 0), (6, .ptr 5 0 3 0), (7, .i k)])
    (fun k => [g.bx, some (.box [nilS, nilS, nilS]), some (.vec 85 2 g.nr fun i j => .r (((g.remG a).r i).c j)), some (.vec 46 3 (kept (g.lp a) k).length fun i j => .r (rowsL (fun i j => (g.l i).c j) (kept (g.lp a) k) i j)), some (.vec 93 3 0 (g.oc 5)), some (.box [.sl 2 2 0 g.nr none, .sl 3 3 0 (kept (g.lp a) k).length none, .sl 4 3 0 0 none])]) 6
    (fun k => k ≤ g.nl) (fun k => g.nl - k) 0 (fun _ => rfl) (by simp) (by simp [go_sem, kept]) ?_ ?_
  · simp [go_sem, kept]
    intro i j hi hj
    by_cases e : i = a
    · subst e
      rcases (by omega : j = 0 ∨ j = 1) with rfl | rfl <;> simp [go_sem, EG.remG]
    · simp [e, EG.remG]
  intro k J hi
  have hm := el k
  by_cases hlt : k < g.nl
  rotate_left
  · have e : k = g.nl := by omega
    subst e
    simp [go_sem]
    refine GLoop_s T_ok (α := Nat) (fun k => [(1, .i a), (2, .ptr 0 0 3 0), (4, .ptr 1 0 3 0), (6, .ptr 5 0 3 0), (8, .i k)])
      (fun k => [g.bx, some (.box [nilS, nilS, nilS]), some (.vec 85 2 g.nr fun i j => .r (((g.remG a).r i).c j)), some (.vec 46 3 (kept (g.lp a) g.nl).length fun i j => .r (rowsL (fun i j => (g.l i).c j) (kept (g.lp a) g.nl) i j)), some (.vec 93 3 (kept (g.cp a) k).length fun i j => .r (rowsL (fun i j => (g.c i).c j) (kept (g.cp a) k) i j)), some (.box [.sl 2 2 0 g.nr none, .sl 3 3 0 (kept (g.lp a) g.nl).length none, .sl 4 3 0 (kept (g.cp a) k).length none])]) 6
      (fun k => k ≤ g.nc) (fun k => g.nc - k) 0 (fun _ => rfl) (by simp) (by simp [go_sem, kept]) (by simp [go_sem, kept]) ?_
    intro k J hi
    have hm := ec k
    by_cases hlt : k < g.nc
    rotate_left
    · have e : k = g.nc := by omega
      subst e
      have hml := el g.nl
      simp [go_sem]
      refine callK_lentOwn (S := (g.remG a).oS) (Rs' := (g.remG a).oR) ?_ (by simp [go_sem, SV.own]) (g.remG a).oR_own ?_
      · simp [go_sem]
        refine (twin25 (g.remG a) (by show g.nr ≤ _; omega) (by show (kept _ _).length ≤ _; omega) (by show (kept _ _).length ≤ _; omega) (fun i hi => ?_)).argsSub ?_
        · have := h.nv _ (kept_mem (p := g.cp a) hi)
          show (g.c _).nv ≤ _
          omega
        · simp [go_sem, EG.remG]
          refine ⟨fun i j hi hj => ?_, fun i j hi hj => ?_⟩ <;>
          · rw [rowsL_get (List.getElem?_eq_getElem hi), List.getElem?_eq_getElem hi]
            rfl
      simp [go_sem]
      intro i j hi hj
      exact (g.remG a).view_oc (by simp [go_sem, hi]) hj
    have hs : kept (g.cp a) (k + 1) = kept (g.cp a) k ++ if g.cp a k then [] else [k] := kept_succ _ _
    by_cases h1 : (g.c k).a = a
    · have e : kept (g.cp a) (k + 1) = kept (g.cp a) k := by rw [hs]; simp [EG.cp, h1]
      simp [go_sem, hlt, h1]
      refine ⟨by omega, k + 1, by omega, by omega, ?_⟩
      rw [e]
      simp [go_sem]
    by_cases h2 : (g.c k).b = a
    · have e : kept (g.cp a) (k + 1) = kept (g.cp a) k := by rw [hs]; simp [EG.cp, h2]
      simp [go_sem, hlt, h1, h2]
      refine ⟨by omega, k + 1, by omega, by omega, ?_⟩
      rw [e]
      simp [go_sem]
    have e : kept (g.cp a) (k + 1) = kept (g.cp a) k ++ [k] := by rw [hs]; simp [EG.cp, h1, h2]
    simp [go_sem, hlt, h1, h2]
    refine GDraw_of T_ok (by kernel_rfl) 8 (by kernel_rfl) rfl rfl ?_
    simp [go_sem, hlt, h1, h2]
    refine ⟨⟨by omega, by omega⟩, by omega, k + 1, by omega, by omega, by omega, ⟨by rw [e]; simp, fun i j hi2 hj => ?_⟩, by rw [e]; simp⟩
    rw [e] at hi2 ⊢
    rw [joined_rowsL (a := k) rfl hj (fun j hj => by rcases (by omega : j = 0 ∨ j = 1 ∨ j = 2) with rfl | rfl | rfl <;> simp [go_sem]) (by simpa using hi2)]
    rfl
  have hs : kept (g.lp a) (k + 1) = kept (g.lp a) k ++ if g.lp a k then [] else [k] := kept_succ _ _
  by_cases h1 : (g.l k).a = a
  · have e : kept (g.lp a) (k + 1) = kept (g.lp a) k := by rw [hs]; simp [EG.lp, h1]
    simp [go_sem, hlt, h1]
    refine ⟨by omega, k + 1, by omega, by omega, ?_⟩
    rw [e]
    simp [go_sem]
  by_cases h2 : (g.l k).b = a
  · have e : kept (g.lp a) (k + 1) = kept (g.lp a) k := by rw [hs]; simp [EG.lp, h2]
    simp [go_sem, hlt, h1, h2]
    refine ⟨by omega, k + 1, by omega, by omega, ?_⟩
    rw [e]
    simp [go_sem]
  have e : kept (g.lp a) (k + 1) = kept (g.lp a) k ++ [k] := by rw [hs]; simp [EG.lp, h1, h2]
  simp [go_sem, hlt, h1, h2]
  refine GDraw_of T_ok (by kernel_rfl) 8 (by kernel_rfl) rfl rfl ?_
  simp [go_sem, hlt, h1, h2]
  refine ⟨⟨by omega, by omega⟩, by omega, k + 1, by omega, by omega, by omega, ⟨by rw [e]; simp, fun i j hi2 hj => ?_⟩, by rw [e]; simp⟩
  rw [e] at hi2 ⊢
  rw [joined_rowsL (a := k) rfl hj (fun j hj => by rcases (by omega : j = 0 ∨ j = 1 ∨ j = 2) with rfl | rfl | rfl <;> simp [go_sem]) (by simpa using hi2)]
  rfl
end Go.Gx
