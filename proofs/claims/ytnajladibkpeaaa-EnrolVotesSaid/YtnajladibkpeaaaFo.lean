/-
  Remove: the program's.
-/
import Derived.Test.YtnajladibkpeaaaFn
import Derived.Test.YtnajladibkpeaaaK9
set_option linter.unusedVariables false
set_option linter.unusedSimpArgs false
set_option maxRecDepth 20000
set_option maxHeartbeats 4000000
namespace Go.Gx
open Go.RowKit Go.Proofs Go.Proofs.Ytnajladibkpeaaa

/-- What DeleteFunc leaves of rows, as ghosts. -/
def EG.lp (g : EG) (a : Int) (i : Nat) : Bool := decide ((g.l i).a = a) || decide ((g.l i).b = a)
def EG.cp (g : EG) (a : Int) (i : Nat) : Bool := decide ((g.c i).a = a) || decide ((g.c i).b = a)
def EG.remG (g : EG) (a : Nat) : EG := ⟨g.nr, fun i => if i = a then ⟨0, true⟩ else g.r i, (kept (g.lp a) g.nl).length, fun i => g.l ((kept (g.lp a) g.nl)[i]?.getD 0), (kept (g.cp a) g.nc).length, fun i => g.c ((kept (g.cp a) g.nc)[i]?.getD 0)⟩
abbrev abox (a : Int) : RV := .rp 1 1 (gbox [.i a]) 0 0
theorem cl65 (x : LkG) (a : Int) : Pure Try.prog 65 [.agg [.r (x.c 0), .r (x.c 1), .r (x.c 2)], .r (abox a)] (· = .b (decide (x.a = a) || decide (x.b = a))) := by
  refine pure_of_GC T_ok Try.func65 rfl (by kernel_rfl) (Nat.le_of_ble_eq_true rfl) rfl rfl ?_
  by_cases h1 : x.a = a
  · simp [go_sem, h1, gbox]
  · by_cases h2 : x.b = a
    · simp [go_sem, h1, h2, gbox]
    · simp [go_sem, h1, h2, gbox]
theorem cl67 (x y a : Int) (v : Value) (hv : v.oneCell' = true) : Pure Try.prog 67 [.agg [.i x, .i y, .r (.v v)], .r (abox a)] (· = .b (decide (x = a) || decide (y = a))) := by
  refine pure_of_GC T_ok Try.func67 rfl (by kernel_rfl) (Nat.le_of_ble_eq_true rfl) rfl rfl ?_
  by_cases h1 : x = a
  · simp [go_sem, h1, gbox, hv]
  · by_cases h2 : y = a
    · simp [go_sem, h1, h2, gbox, hv]
    · simp [go_sem, h1, h2, gbox, hv]
theorem remove_bad {g : EG} (h : g.OK) (hv : g.valid = false) (a : Int) : Own Try.prog 28 [] [g.sv, .i a] (.tup [nilR, .i 8]) [] := by
  refine own_of_GC T_ok Try.func28 rfl (by kernel_rfl) (Nat.le_of_ble_eq_true rfl) rfl rfl ?_
  simp [go_sem]
  refine callK_own [] (open_bad h hv) (by simp) rfl trivial ?_
  simp [go_sem]
  exact ⟨[], by simp, fun N => ⟨by simp [go_sem], trivial⟩⟩
theorem remove_no {g : EG} (h : g.Sm) (hv : g.valid = true) {a : Int} (ha : g.th a = false) : Own Try.prog 28 [] [g.sv, .i a] (.tup [nilR, .i 6]) [] := by
  refine own_of_GC T_ok Try.func28 rfl (by kernel_rfl) (Nat.le_of_ble_eq_true rfl) rfl rfl ?_
  simp [go_sem]
  refine callK_own [] (open61 h hv) (by simp) rfl trivial ?_
  simp [go_sem]
  refine call_lent (v := .b (g.th a)) ?_ rfl ?_
  · simp [go_sem]
    exact there63 g h.ok _ (by simp [go_sem, viewRV]) a
  simp [go_sem, ha]
  exact ⟨[], by simp, fun N => ⟨by simp [go_sem], trivial⟩⟩
theorem delf66' (n : Nat) (hn : n ≤ 1000000) (c : Nat → Nat → Value) (ho : ∀ i j, i < n → j < 3 → (c i j).oneCell' = true) (a : Int) (p : Nat → Bool) (hp : ∀ i, i < n → Pure Try.prog 67 [.agg [.r (.v (c i 0)), .r (.v (c i 1)), .r (.v (c i 2))], .r (abox a)] (· = .b (p i))) :
    Own Try.prog 66 [.vec 93 3 n fun i j => .r (.v (c i j))] [.sl 0 3 0 n none, .fn (.func 67) [] [.r (abox a)]] (.sl 0 3 0 (kept p n).length none) [.vec 93 3 (kept p n).length fun i j => .r (.v (c ((kept p n)[i]?.getD 0) j))] := by
  refine OwnS.less (delf66 n hn (fun i j => .v (c i j)) 67 (abox a) p (fun i j hi hj => by simp [SV.one, ho i j hi hj]) hp) rfl fun r => ?_
  match r with
  | 0 =>
    refine ⟨rfl, rfl, Nat.le_refl _, fun i j hi hj => ?_⟩
    show SV.r (rowsL _ _ i j) = .r (.v _)
    rw [rowsL_get (List.getElem?_eq_getElem hi)]
    simp [List.getElem?_eq_getElem hi]
  | r + 1 => exact Reg.sub_none _
theorem remCases {g : EG} {a : Int} {M : Mem} {nx q b : Nat} {K : SV → Mem → Nat → (SV → SV) → Prop} (hc : g.nc ≤ 1000000) (hM : M q = some (.vec 93 3 g.nc (g.oc b)))
    (hK : K (.sl nx 3 0 (kept (g.cp a) g.nc).length none) (upd (upd M q none) nx (some (.vec 93 3 (kept (g.cp a) g.nc).length fun i j => g.oc b ((kept (g.cp a) g.nc)[i]?.getD 0) j))) (nx + 1) id) :
    CallK Try.prog 0 66 [.sl q 3 0 g.nc none, .fn (.func 67) [] [.r (abox a)]] M nx K := by
  refine callK_opq2 (S := .sl nx 3 0 (kept (g.cp a) g.nc).length none) (M2 := upd M q none) (q := nx) (k := 3) (m := (kept (g.cp a) g.nc).length) (nx' := nx + 1) (e' := 93) (get' := fun i j => g.oc b ((kept (g.cp a) g.nc)[i]?.getD 0) j) [q] (fun r hr => ?_) (fun Nm hNm M1 hM1 => ?_) hK
  · simp at hr; subst hr; exact ⟨_, _, _, _, hM⟩
  obtain ⟨c, h7, hcell⟩ := hM1.2 q (by simp) _ _ _ _ hM
  have c0 : ∀ i, i < g.nc → c i 0 = .int .i64 (g.c i).a := fun i hi => (hNm _ _).1 (hcell i 0 hi (by omega)).1
  have c1 : ∀ i, i < g.nc → c i 1 = .int .i64 (g.c i).b := fun i hi => (hNm _ _).1 (hcell i 1 hi (by omega)).1
  refine callK_own [q] (delf66' g.nc hc c (fun i j hi hj => (hcell i j hi hj).2) a (g.cp a) fun i hi => ?_) (by simp) rfl ⟨h7, trivial⟩ ⟨rfl, rfl, rfl, fun i j => c ((kept (g.cp a) g.nc)[i]?.getD 0) j, fun i j hi hj => ?_, ?_⟩
  · rw [c0 i hi, c1 i hi]
    exact cl67 _ _ a _ (hcell i 2 hi (by omega)).2
  · have hm : (kept (g.cp a) g.nc)[i]?.getD 0 < g.nc := by
      rw [List.getElem?_eq_getElem hi]
      exact List.mem_range.1 (List.mem_filter.1 (List.getElem_mem hi)).1
    exact (hcell _ j hm hj).1
  · funext r
    simp only [addS, dropM, upd_app]
    by_cases h1 : r = nx
    · simp [h1, Reg.ren, SV.ren]
    · by_cases h2 : r = q
      · subst h2
        simp [h1]
      · simp [h1, h2, hM1.1 r (by simpa using h2)]
theorem EG.oc_fz (g : EG) {b i j ref : Nat} {R : Reg} (h : ¬ i + b = ref) : (g.oc b i j).fz ref R = g.oc b i j := by
  unfold EG.oc
  split
  · simp [SV.fz, h]
  · rfl
theorem kept_mem {p : Nat → Bool} {n i : Nat} (hi : i < (kept p n).length) : (kept p n)[i]?.getD 0 < n := by
  rw [List.getElem?_eq_getElem hi]
  exact List.mem_range.1 (List.mem_filter.1 (List.getElem_mem hi)).1
theorem kept_inj {p : Nat → Bool} {n i j : Nat} (hi : i < (kept p n).length) (hj : j < (kept p n).length) (h : (kept p n)[i]?.getD 0 = (kept p n)[j]?.getD 0) : i = j := by
  rw [List.getElem?_eq_getElem hi, List.getElem?_eq_getElem hj] at h
  have hn : (kept p n).Nodup := List.Pairwise.filter _ List.nodup_range
  exact (List.getElem_inj hn).1 h
theorem remove28 {g : EG} (h : g.Sm) (hv : g.valid = true) {a : Nat} (ha : g.th a = true) : Own Try.prog 28 [] [g.sv, .i a] (.tup [(g.remG a).oS, .i 0]) (g.remG a).oR := by
  refine own_of_GC T_ok Try.func28 rfl (by kernel_rfl) (Nat.le_of_ble_eq_true rfl) rfl rfl ?_
  have hr := h.nr
  have hl := h.nl
  have hc := h.nc
  simp [go_sem]
  refine callK_own [] (open61 h hv) (by simp) rfl trivial ?_
  simp [go_sem]
  refine call_lent (v := .b (g.th a)) ?_ rfl ?_
  · simp [go_sem]
    exact there63 g h.ok _ (by simp [go_sem, viewRV]) a
  have hk : a < g.nr := by simp [EG.th, btw] at ha; omega
  simp [go_sem, ha, hk]
  refine GDraw_of T_ok (by kernel_rfl) 7 (by kernel_rfl) rfl rfl ?_
  simp [go_sem, hk]
  refine ⟨by omega, callK_freeze 1 (R := .box [.i a]) (by simp [go_sem]) ?_⟩
  simp [go_sem, hk]
  refine callK_own [6] (delf64 g.nl (by omega) (fun i j => (g.l i).c j) 65 (abox a) (g.lp a) (fun i j hi hj => ?_) fun i hi => cl65 (g.l i) a) (by simp) rfl ⟨rfl, trivial⟩ ?_
  · rcases (by omega : j = 0 ∨ j = 1 ∨ j = 2) with rfl | rfl | rfl <;> rfl
  simp [go_sem, hk]
  have q4 : ∀ n, n < 8 → ¬ (n = 3 + (g.nc + 1 + 1 + 1 + 1 + 1)) := fun n _ => by omega
  have q6 : ∀ n, n < 8 → ¬ (3 + (g.nc + 1 + 1 + 1 + 1 + 1) = n) := fun n _ => by omega
  have q7 : ∀ n, n < 8 → ¬ (n = 3 + (g.nc + 1 + 1 + 1 + 1 + 1) + 1) := fun n _ => by omega
  have q8 : ∀ n, n < 8 → ¬ (3 + (g.nc + 1 + 1 + 1 + 1 + 1) + 1 = n) := fun n _ => by omega
  have e1 : ∀ i j, SV.fz 1 (Reg.box [SV.i a]) (g.oc 8 i j) = g.oc 8 i j := fun i j => g.oc_fz (by omega)
  refine remCases (by omega) (b := 8) (by simp [go_sem, q4, e1]) ?_
  simp [go_sem, hk, q4, q6, q7, q8]
  have hX : 3 + (g.nc + 1 + 1 + 1 + 1 + 1) = g.nc + 8 := by omega
  refine ⟨[5, 3 + (g.nc + 1 + 1 + 1 + 1 + 1), 3 + (g.nc + 1 + 1 + 1 + 1 + 1) + 1] ++ (List.range (kept (g.cp a) g.nc).length).map (fun i => (kept (g.cp a) g.nc)[i]?.getD 0 + 8), nodup_fam (by simp; omega) (fun i j hi hj h => kept_inj hi hj (by omega)) (fun x hx i hi => ?_), fun N => ⟨by simp [go_sem, EG.remG], ?_⟩⟩
  · have := kept_mem hi
    simp at hx
    omega
  refine gexpR_fam (Rs := [.vec 85 2 (g.remG a).nr fun i j => .r (((g.remG a).r i).c j), .vec 46 3 (g.remG a).nl fun i j => .r (((g.remG a).l i).c j), .vec 93 3 (g.remG a).nc ((g.remG a).oc 3)]) (n := (kept (g.cp a) g.nc).length) (f := (g.remG a).ov) ?_ fun i hi => ?_
  · simp [go_sem, q4, q6, q7, q8, EG.remG]
    refine ⟨fun i j hi hj => ?_, fun i j hi hj => ?_, fun i j hi hj => ?_⟩
    · by_cases e : i = a
      · subst e
        rcases (by omega : j = 0 ∨ j = 1) with rfl | rfl <;> simp [go_sem]
      · simp [e, SV.fz]
    · rw [rowsL_get (List.getElem?_eq_getElem hi), List.getElem?_eq_getElem hi]
      rfl
    · simp only [EG.oc]
      split
      · simp [SV.ren, hi]
      · simp [SV.ren]
  · have hm := kept_mem hi
    have f1 : ¬ (kept (g.cp a) g.nc)[i]?.getD 0 + 8 = 3 + (g.nc + 1 + 1 + 1 + 1 + 1) := by omega
    have f2 : ¬ (kept (g.cp a) g.nc)[i]?.getD 0 + 8 = 3 + (g.nc + 1 + 1 + 1 + 1 + 1) + 1 := by omega
    simp [go_sem, hm, f1, f2, EG.remG]
end Go.Gx
