/-
  The program's open: a desk in memory of its own.
-/
import Derived.Test.YtnajladibkpeaaaGreatU7
import Derived.Test.YtnajladibkpeaaaGreatK5
set_option linter.unusedVariables false
set_option linter.unusedSimpArgs false
set_option maxRecDepth 20000
set_option maxHeartbeats 4000000
namespace Go.Gx
open Go.RowKit Go.Proofs Go.Proofs.YtnajladibkpeaaaGreat

theorem EG.oc_mv (g : EG) {a p q i j : Nat} (h1 : ¬ i + a = p) (h2 : ¬ i + a = q) : (g.oc a i j).mv p q = g.oc a i j := by
  unfold EG.oc
  split
  · simp [SV.mv, h1, h2]
  · rfl
/-- Small enough for everything. -/
structure EG.Sm (g : EG) : Prop where
  nr : g.nr ≤ 1000
  nl : g.nl ≤ 1000
  nc : g.nc ≤ 1000
  nv : ∀ i, i < g.nc → (g.c i).nv ≤ 1000
theorem EG.Sm.ok {g : EG} (h : g.Sm) : g.OK := ⟨by have := h.nr; omega, by have := h.nl; omega, by have := h.nc; omega, fun i hi => by have := h.nv i hi; omega⟩
abbrev EG.kbox (g : EG) (r l c m : Nat) : Reg := .box [.sl r 2 0 g.nr none, .sl l 3 0 g.nl none, .sl c 3 0 g.nc none, .mp m]
abbrev EG.vr (g : EG) : Reg := .vec 105 2 g.nr fun i j => .r ((g.r i).c j)
abbrev EG.vl (g : EG) : Reg := .vec 41 3 g.nl fun i j => .r ((g.l i).c j)
abbrev EG.kR6 (g : EG) : List Reg := [g.kbox 2 3 4 1, g.dmap, g.vr, g.vl, .vec 52 3 g.nc (g.oc 5)] ++ (List.range g.nc).map g.ov
theorem open_bad {g : EG} (h : g.OK) (hv : g.valid = false) : Own Tryz.prog 41 [] [g.sv] (.tup [nilP, .i 8]) [] := by
  refine own_of_GC T_ok Tryz.func41 rfl (by kernel_rfl) (Nat.le_of_ble_eq_true rfl) rfl rfl ?_
  simp [go_sem]
  refine callK_own [] (look_bad h hv) (by simp) rfl trivial ?_
  simp [go_sem]
  exact ⟨[], by simp, fun N => ⟨by simp [go_sem], trivial⟩⟩
theorem open61 {g : EG} (h : g.Sm) (hv : g.valid = true) : Own Tryz.prog 41 [] [g.sv] (.tup [.ptr 0 0 4 0, .i 0]) g.kR6 := by
  refine own_of_GC T_ok Tryz.func41 rfl (by kernel_rfl) (Nat.le_of_ble_eq_true rfl) rfl rfl ?_
  have hr := h.nr
  have hl := h.nl
  have hc := h.nc
  simp [go_sem]
  refine callK_own [] (look_yes h.ok hv) (by simp) rfl trivial ?_
  simp [go_sem]
  refine GDraw_mix (fun f => f == 78 || f == 79 || f == 80) T_ok (by kernel_rfl) [1, 2] 12 (by kernel_rfl) (by kernel_rfl) (by kernel_rfl) (fun _ _ _ _ h => h) rfl rfl ?_
  simp [go_sem]
  refine ⟨_, _, dnew_own (clone114 g.nr (by omega) fun i j => (g.r i).c j) rfl, _, _, dnew_own (clone115 g.nl (by omega) fun i j => (g.l i).c j) rfl, _, _, dnew_own (clone116 g.nc (by omega) fun i j => (g.c i).c j) rfl, ?_⟩
  simp [go_sem]
  refine GLoop_v T_ok (α := Nat) (fun k => [(4, .ptr 1 0 4 0), (41, .sl 5 3 0 g.nc none), (42, .i g.nc), (43, .i k)])
    (fun k => famN (memL [g.bx, some (g.kbox 3 4 5 2), some g.dmap, some g.vr, some g.vl, some (.vec 52 3 g.nc fun i j => if i < k then g.oc 6 i j else .r ((g.c i).c j))]) 6 k fun i => some (g.ov i))
    (fun k => k + 6) (fun k => k ≤ g.nc) (fun k => g.nc - k) 0 (by simp) ?_ ?_
  · refine Fit.of_famN (by decide) ?_ rfl ?_ (fun i hi => by omega)
    · simp [go_sem]
    · simp [go_sem]
  intro k J hi
  by_cases hlt : k < g.nc
  rotate_left
  · have e : k = g.nc := by omega
    subst e
    simp [go_sem]
    refine ⟨famR [1, 2, 3, 4, 5] g.nc 6, famR_nodup (by simp) (by simp), fun N => ⟨by simp [go_sem, famR_lo], ?_⟩⟩
    refine gexpR_famN (l := [1, 2, 3, 4, 5]) (Rs := [g.kbox 2 3 4 1, g.dmap, g.vr, g.vl, .vec 52 3 g.nc (g.oc 5)]) ?_ fun i hi => ?_
    · simp [go_sem, famR_lo]
      intro i j hi hj
      rw [if_pos hi]
      unfold EG.oc
      split
      · simp only [SV.ren]
        have := famR_hi (l := [1, 2, 3, 4, 5]) (b := 6) (D := N) hi
        simp only [List.length_cons, List.length_nil] at this
        rw [this]
      · rfl
    · simp [go_sem, hi]
  have hvk := h.nv k hlt
  simp [go_sem, hlt]
  refine GDraw_new (fun f => f == 81) T_ok (by kernel_rfl) 9 (by kernel_rfl) rfl rfl ?_
  simp [go_sem, hlt]
  refine ⟨_, _, dnew_own (clone117 (g.c k).nv (by omega) fun i j => ((g.c k).v i).c j) rfl, ?_⟩
  simp [go_sem, hlt]
  have e7 : ∀ i, i ≤ k → ¬ i + 6 = k + 7 := fun i _ => by omega
  refine ⟨by omega, k + 1, by omega, by omega, Fit.vw (GSt.move (k + 7) (k + 6) (by omega) (Nat.zero_le _) (Nat.zero_le _) (by omega)) (Fit.of_famN (by simp) ?_ rfl ?_ fun i hi2 => ?_)⟩
  · simp [go_sem]
  · simp [go_sem]
    intro i j hi1 hj
    by_cases e : i = k
    · subst e
      rcases (by omega : j = 0 ∨ j = 1 ∨ j = 2) with e | e | e <;> subst e <;> simp [go_sem]
    · by_cases e2 : i < k
      · have e3 : i < k + 1 := by omega
        rw [if_neg (by omega), if_pos e2, if_pos e3, g.oc_mv (e7 i (by omega)) (by omega)]
        unfold EG.oc
        split
        · simp [SV.trim, show i + 6 < k + 1 + 6 by omega]
        · rfl
      · have e3 : ¬ i < k + 1 := by omega
        rw [if_neg (by omega), if_neg e2, if_neg e3]
  · by_cases e : i = k
    · subst e
      simp [go_sem]
    · have e2 : i < k := by omega
      have e4 : ¬ i = k + 1 := by omega
      simp [go_sem, e, e2, e4, e7 i (by omega), EG.ov]
end Go.Gx
/-
  Add: the program's and the reference's.
-/
set_option linter.unusedVariables false
set_option linter.unusedSimpArgs false
set_option maxRecDepth 20000
set_option maxHeartbeats 4000000
namespace Go.Gx
open Go.RowKit Go.Proofs Go.Proofs.YtnajladibkpeaaaGreat

theorem EG.oc_famR (g : EG) {l : List Nat} {n b D i j k : Nat} (hk : k = l.length) (h : i < n) : (g.oc k i j).ren (fun r => ((famR l n b)[r]?).getD D) = g.oc b i j := by
  unfold EG.oc
  split
  · simp only [SV.ren]
    have := famR_hi (l := l) (b := b) (D := D) h
    rw [← hk] at this
    rw [this]
  · rfl
/-- The register with one record more. -/
def EG.addG (g : EG) (q : Int) : EG := { g with nr := g.nr + 1, r := fun i => if i < g.nr then g.r i else ⟨q, false⟩ }
abbrev nilR : SV := .agg [nilS, nilS, nilS]
theorem add26 {g : EG} (h : g.Sm) (hv : g.valid = true) {q : Int} (h0 : 0 ≤ q) (h1 : q ≤ 100) (hn : g.nr < 24) : Own Tryz.prog 26 [] [g.sv, .i q] (.tup [(g.addG q).oS, .i g.nr, .i 0]) (g.addG q).oR := by
  refine own_of_GC T_ok Tryz.func26 rfl (by kernel_rfl) (Nat.le_of_ble_eq_true rfl) rfl rfl ?_
  have hr := h.nr
  have hl := h.nl
  have hc := h.nc
  simp [go_sem]
  refine callK_own [] (open61 h hv) (by simp) rfl trivial ?_
  have q0 : ¬ q < 0 := by omega
  have q1 : ¬ 100 < q := by omega
  have q2 : ¬ (g.nr : Int) = 24 := by omega
  have q4 : ∀ n, n < 7 → ¬ (n = 2 + (g.nc + 1 + 1 + 1 + 1 + 1)) := fun n _ => by omega
  have q6 : ∀ n, n < 7 → ¬ (2 + (g.nc + 1 + 1 + 1 + 1 + 1) = n) := fun n _ => by omega
  have q7 : (g.nr : Int) ≤ 9223372036854775807 := by omega
  have q5 : g.nr + (g.nr + 1 - g.nr) = g.nr + 1 := by omega
  simp [go_sem, q0, q1, q2, q4, q5, q6, q7]
  refine ⟨by omega, ?_⟩
  refine GDraw_x (t := (.take 0 (.take 1 (.take 2 (.take 4 (.take 5 (.take 6 (.take 7 (.alt 3 (.alt 8 (.alt 9 (.alt 10 (.alt 11 (.take 12 (.take 13 .done)) .nil) (.alt 11 (.alt 10 (.take 12 (.take 13 .done)) .nil) .nil)) (.alt 11 (.alt 9 (.alt 10 (.take 12 (.take 13 .done)) .nil) .nil) .nil)) (.alt 11 (.alt 8 (.alt 9 (.alt 10 (.take 12 (.take 13 .done)) .nil) .nil) .nil) .nil)) (.alt 8 (.alt 3 (.alt 9 (.alt 10 (.alt 11 (.take 12 (.take 13 .done)) .nil) (.alt 11 (.alt 10 (.take 12 (.take 13 .done)) .nil) .nil)) (.alt 11 (.alt 9 (.alt 10 (.take 12 (.take 13 .done)) .nil) .nil) .nil)) (.alt 9 (.alt 3 (.alt 10 (.alt 11 (.take 12 (.take 13 .done)) .nil) (.alt 11 (.alt 10 (.take 12 (.take 13 .done)) .nil) .nil)) (.alt 10 (.alt 3 (.alt 11 (.take 12 (.take 13 .done)) .nil) .nil) .nil)) .nil)) .nil)))))))))) T_ok (by kernel_rfl) (by kernel_rfl) (by kernel_rfl) (fun _ _ _ _ h => h) ?_
  simp [go_sem, q0, q1, q2, q4, q5, q6, q7]
  have q8 : ∀ i, i < g.nc → ¬ (i + 7 = 2 + (g.nc + 1 + 1 + 1 + 1 + 1)) := fun i _ => by omega
  refine ⟨famR [4, 5, 6] g.nc 7, famR_nodup (by simp) (by simp), fun N => ⟨by simp [go_sem, famR_lo, EG.addG], ?_⟩⟩
  refine gexpR_famN (l := [4, 5, 6]) (Rs := [.vec 105 2 (g.addG q).nr fun i j => .r (((g.addG q).r i).c j), .vec 41 3 (g.addG q).nl fun i j => .r (((g.addG q).l i).c j), .vec 52 3 (g.addG q).nc ((g.addG q).oc 3)]) ?_ fun i hi => ?_
  · simp [go_sem, famR_lo, q4, q6, EG.addG]
    refine ⟨fun i j hi hj => ?_, fun i j hi hj => ?_⟩
    · by_cases e : i < g.nr
      · simp [joined, e, SV.kill]
      · have e2 : i = g.nr := by omega
        subst e2
        rcases (by omega : j = 0 ∨ j = 1) with rfl | rfl <;> simp [joined, SV.kill, go_sem]
    · rw [g.oc_kill (by omega)]
      exact (g.oc_famR rfl hi).symm
  · simp [go_sem, hi, q8 i hi, EG.addG]
theorem add_bad {g : EG} (h : g.OK) (hv : g.valid = false) (q : Int) : Own Tryz.prog 26 [] [g.sv, .i q] (.tup [nilR, .i 0, .i 8]) [] := by
  refine own_of_GC T_ok Tryz.func26 rfl (by kernel_rfl) (Nat.le_of_ble_eq_true rfl) rfl rfl ?_
  simp [go_sem]
  refine callK_own [] (open_bad h hv) (by simp) rfl trivial ?_
  simp [go_sem]
  exact ⟨[], by simp, fun N => ⟨by simp [go_sem], trivial⟩⟩
theorem add_range {g : EG} (h : g.Sm) (hv : g.valid = true) {q : Int} (h0 : ¬ (0 ≤ q ∧ q ≤ 100)) : Own Tryz.prog 26 [] [g.sv, .i q] (.tup [nilR, .i 0, .i 2]) [] := by
  refine own_of_GC T_ok Tryz.func26 rfl (by kernel_rfl) (Nat.le_of_ble_eq_true rfl) rfl rfl ?_
  simp [go_sem]
  refine callK_own [] (open61 h hv) (by simp) rfl trivial ?_
  have q4 : ∀ n, n < 7 → ¬ (n = 2 + (g.nc + 1 + 1 + 1 + 1 + 1)) := fun n _ => by omega
  by_cases q0 : q < 0
  · simp [go_sem, q0, q4]
    exact ⟨[], by simp, fun N => ⟨by simp [go_sem], trivial⟩⟩
  · have q1 : 100 < q := by omega
    simp [go_sem, q0, q1, q4]
    exact ⟨[], by simp, fun N => ⟨by simp [go_sem], trivial⟩⟩
theorem add_full {g : EG} (h : g.Sm) (hv : g.valid = true) {q : Int} (h0 : 0 ≤ q ∧ q ≤ 100) (hn : g.nr = 24) : Own Tryz.prog 26 [] [g.sv, .i q] (.tup [nilR, .i 0, .i 9]) [] := by
  refine own_of_GC T_ok Tryz.func26 rfl (by kernel_rfl) (Nat.le_of_ble_eq_true rfl) rfl rfl ?_
  simp [go_sem]
  refine callK_own [] (open61 h hv) (by simp) rfl trivial ?_
  have q0 : ¬ q < 0 := by omega
  have q1 : ¬ 100 < q := by omega
  have q2 : (g.nr : Int) = 24 := by omega
  simp [go_sem, q0, q1, q2]
  exact ⟨[], by simp, fun N => ⟨by simp [go_sem], trivial⟩⟩
end Go.Gx
/-
  The reference's Add.
-/
set_option linter.unusedVariables false
set_option linter.unusedSimpArgs false
set_option maxRecDepth 20000
set_option maxHeartbeats 4000000
namespace Go.Gx
open Go.RowKit Go.Proofs Go.Proofs.YtnajladibkpeaaaGreat

end Go.Gx
/-
  Remove: the program's.
-/
set_option linter.unusedVariables false
set_option linter.unusedSimpArgs false
set_option maxRecDepth 20000
set_option maxHeartbeats 4000000
namespace Go.Gx
open Go.RowKit Go.Proofs Go.Proofs.YtnajladibkpeaaaGreat

/-- What DeleteFunc leaves of rows, as ghosts. -/
def EG.lp (g : EG) (a : Int) (i : Nat) : Bool := decide ((g.l i).a = a) || decide ((g.l i).b = a)
def EG.cp (g : EG) (a : Int) (i : Nat) : Bool := decide ((g.c i).a = a) || decide ((g.c i).b = a)
def EG.remG (g : EG) (a : Nat) : EG := ⟨g.nr, fun i => if i = a then ⟨0, true⟩ else g.r i, (kept (g.lp a) g.nl).length, fun i => g.l ((kept (g.lp a) g.nl)[i]?.getD 0), (kept (g.cp a) g.nc).length, fun i => g.c ((kept (g.cp a) g.nc)[i]?.getD 0)⟩
abbrev abox (a : Int) : RV := .rp 1 1 (gbox [.i a]) 0 0
theorem cl65 (x : LkG) (a : Int) : Pure Tryz.prog 59 [.agg [.r (x.c 0), .r (x.c 1), .r (x.c 2)], .r (abox a)] (· = .b (decide (x.a = a) || decide (x.b = a))) := by
  refine pure_of_GC T_ok Tryz.func59 rfl (by kernel_rfl) (Nat.le_of_ble_eq_true rfl) rfl rfl ?_
  by_cases h1 : x.a = a
  · simp [go_sem, h1, gbox]
  · by_cases h2 : x.b = a
    · simp [go_sem, h1, h2, gbox]
    · simp [go_sem, h1, h2, gbox]
theorem cl67 (x y a : Int) (v : Value) (hv : v.oneCell' = true) : Pure Tryz.prog 61 [.agg [.i x, .i y, .r (.v v)], .r (abox a)] (· = .b (decide (x = a) || decide (y = a))) := by
  refine pure_of_GC T_ok Tryz.func61 rfl (by kernel_rfl) (Nat.le_of_ble_eq_true rfl) rfl rfl ?_
  by_cases h1 : x = a
  · simp [go_sem, h1, gbox, hv]
  · by_cases h2 : y = a
    · simp [go_sem, h1, h2, gbox, hv]
    · simp [go_sem, h1, h2, gbox, hv]
theorem remove_bad {g : EG} (h : g.OK) (hv : g.valid = false) (a : Int) : Own Tryz.prog 22 [] [g.sv, .i a] (.tup [nilR, .i 8]) [] := by
  refine own_of_GC T_ok Tryz.func22 rfl (by kernel_rfl) (Nat.le_of_ble_eq_true rfl) rfl rfl ?_
  simp [go_sem]
  refine callK_own [] (open_bad h hv) (by simp) rfl trivial ?_
  simp [go_sem]
  exact ⟨[], by simp, fun N => ⟨by simp [go_sem], trivial⟩⟩
theorem remove_no {g : EG} (h : g.Sm) (hv : g.valid = true) {a : Int} (ha : g.th a = false) : Own Tryz.prog 22 [] [g.sv, .i a] (.tup [nilR, .i 6]) [] := by
  refine own_of_GC T_ok Tryz.func22 rfl (by kernel_rfl) (Nat.le_of_ble_eq_true rfl) rfl rfl ?_
  simp [go_sem]
  refine callK_own [] (open61 h hv) (by simp) rfl trivial ?_
  simp [go_sem]
  refine call_lent (v := .b (g.th a)) ?_ rfl ?_
  · simp [go_sem]
    exact there63 g h.ok _ (by simp [go_sem, viewRV]) a
  simp [go_sem, ha]
  exact ⟨[], by simp, fun N => ⟨by simp [go_sem], trivial⟩⟩
theorem delf66' (n : Nat) (hn : n ≤ 1000000) (c : Nat → Nat → Value) (ho : ∀ i j, i < n → j < 3 → (c i j).oneCell' = true) (a : Int) (p : Nat → Bool) (hp : ∀ i, i < n → Pure Tryz.prog 61 [.agg [.r (.v (c i 0)), .r (.v (c i 1)), .r (.v (c i 2))], .r (abox a)] (· = .b (p i))) :
    Own Tryz.prog 60 [.vec 52 3 n fun i j => .r (.v (c i j))] [.sl 0 3 0 n none, .fn (.func 61) [] [.r (abox a)]] (.sl 0 3 0 (kept p n).length none) [.vec 52 3 (kept p n).length fun i j => .r (.v (c ((kept p n)[i]?.getD 0) j))] := by
  refine OwnS.less (delf66 n hn (fun i j => .v (c i j)) 61 (abox a) p (fun i j hi hj => by simp [SV.one, ho i j hi hj]) hp) rfl fun r => ?_
  match r with
  | 0 =>
    refine ⟨rfl, rfl, Nat.le_refl _, fun i j hi hj => ?_⟩
    show SV.r (rowsL _ _ i j) = .r (.v _)
    rw [rowsL_get (List.getElem?_eq_getElem hi)]
    simp [List.getElem?_eq_getElem hi]
  | r + 1 => exact Reg.sub_none _
theorem remCases {g : EG} {a : Int} {M : Mem} {nx q b : Nat} {K : SV → Mem → Nat → (SV → SV) → Prop} (hc : g.nc ≤ 1000000) (hM : M q = some (.vec 52 3 g.nc (g.oc b)))
    (hK : K (.sl nx 3 0 (kept (g.cp a) g.nc).length none) (upd (upd M q none) nx (some (.vec 52 3 (kept (g.cp a) g.nc).length fun i j => g.oc b ((kept (g.cp a) g.nc)[i]?.getD 0) j))) (nx + 1) id) :
    CallK Tryz.prog 0 60 [.sl q 3 0 g.nc none, .fn (.func 61) [] [.r (abox a)]] M nx K := by
  refine callK_opq2 (S := .sl nx 3 0 (kept (g.cp a) g.nc).length none) (M2 := upd M q none) (q := nx) (k := 3) (m := (kept (g.cp a) g.nc).length) (nx' := nx + 1) (e' := 52) (get' := fun i j => g.oc b ((kept (g.cp a) g.nc)[i]?.getD 0) j) [q] (fun r hr => ?_) (fun Nm hNm M1 hM1 => ?_) hK
  · simp at hr; subst hr; exact ⟨_, _, _, _, hM⟩
  obtain ⟨c, h7, hcell⟩ := hM1.2 q (by simp) _ _ _ _ hM
  have c0 : ∀ i, i < g.nc → c i 0 = .int .i64 (g.c i).a := fun i hi => (hNm _ _).1 (hcell i 0 hi (by omega)).1
  have c1 : ∀ i, i < g.nc → c i 1 = .int .i64 (g.c i).b := fun i hi => (hNm _ _).1 (hcell i 1 hi (by omega)).1
  refine callK_own [q] (delf66' g.nc hc c (fun i j hi hj => (hcell i j hi hj).2) a (g.cp a) fun i hi => ?_) (by simp) rfl ⟨h7, trivial⟩ ⟨rfl, rfl, rfl, fun i j => c ((kept (g.cp a) g.nc)[i]?.getD 0) j, fun i j hi hj => ?_, ?_⟩
  · rw [c0 i hi, c1 i hi]
    exact cl67 _ _ a _ (hcell i 2 hi (by omega)).2
  · have hm : (kept (g.cp a) g.nc)[i]?.getD 0 < g.nc := by
      rw [List.getElem?_eq_getElem hi]
      exact List.mem_range.1 (List.mem_filter.1 (List.getElem_mem hi)).1
    exact (hcell _ j hm hj).1
  · funext r
    simp only [addS, dropM, upd_app]
    by_cases h1 : r = nx
    · simp [h1, Reg.ren, SV.ren]
    · by_cases h2 : r = q
      · subst h2
        simp [h1]
      · simp [h1, h2, hM1.1 r (by simpa using h2)]
theorem EG.oc_fz (g : EG) {b i j ref : Nat} {R : Reg} (h : ¬ i + b = ref) : (g.oc b i j).fz ref R = g.oc b i j := by
  unfold EG.oc
  split
  · simp [SV.fz, h]
  · rfl
theorem kept_mem {p : Nat → Bool} {n i : Nat} (hi : i < (kept p n).length) : (kept p n)[i]?.getD 0 < n := by
  rw [List.getElem?_eq_getElem hi]
  exact List.mem_range.1 (List.mem_filter.1 (List.getElem_mem hi)).1
theorem kept_inj {p : Nat → Bool} {n i j : Nat} (hi : i < (kept p n).length) (hj : j < (kept p n).length) (h : (kept p n)[i]?.getD 0 = (kept p n)[j]?.getD 0) : i = j := by
  rw [List.getElem?_eq_getElem hi, List.getElem?_eq_getElem hj] at h
  have hn : (kept p n).Nodup := List.Pairwise.filter _ List.nodup_range
  exact (List.getElem_inj hn).1 h
theorem remove28 {g : EG} (h : g.Sm) (hv : g.valid = true) {a : Nat} (ha : g.th a = true) : Own Tryz.prog 22 [] [g.sv, .i a] (.tup [(g.remG a).oS, .i 0]) (g.remG a).oR := by
  refine own_of_GC T_ok Tryz.func22 rfl (by kernel_rfl) (Nat.le_of_ble_eq_true rfl) rfl rfl ?_
  have hr := h.nr
  have hl := h.nl
  have hc := h.nc
  simp [go_sem]
  refine callK_own [] (open61 h hv) (by simp) rfl trivial ?_
  simp [go_sem]
  refine call_lent (v := .b (g.th a)) ?_ rfl ?_
  · simp [go_sem]
    exact there63 g h.ok _ (by simp [go_sem, viewRV]) a
  have hk : a < g.nr := by simp [EG.th, btw] at ha; omega
  simp [go_sem, ha, hk]
  refine GDraw_of T_ok (by kernel_rfl) 7 (by kernel_rfl) rfl rfl ?_
  simp [go_sem, hk]
  refine ⟨by omega, callK_freeze 1 (R := .box [.i a]) (by simp [go_sem]) ?_⟩
  simp [go_sem, hk]
  refine callK_own [6] (delf64 g.nl (by omega) (fun i j => (g.l i).c j) 59 (abox a) (g.lp a) (fun i j hi hj => ?_) fun i hi => cl65 (g.l i) a) (by simp) rfl ⟨rfl, trivial⟩ ?_
  · rcases (by omega : j = 0 ∨ j = 1 ∨ j = 2) with rfl | rfl | rfl <;> rfl
  simp [go_sem, hk]
  have q4 : ∀ n, n < 8 → ¬ (n = 3 + (g.nc + 1 + 1 + 1 + 1 + 1)) := fun n _ => by omega
  have q6 : ∀ n, n < 8 → ¬ (3 + (g.nc + 1 + 1 + 1 + 1 + 1) = n) := fun n _ => by omega
  have q7 : ∀ n, n < 8 → ¬ (n = 3 + (g.nc + 1 + 1 + 1 + 1 + 1) + 1) := fun n _ => by omega
  have q8 : ∀ n, n < 8 → ¬ (3 + (g.nc + 1 + 1 + 1 + 1 + 1) + 1 = n) := fun n _ => by omega
  have e1 : ∀ i j, SV.fz 1 (Reg.box [SV.i a]) (g.oc 8 i j) = g.oc 8 i j := fun i j => g.oc_fz (by omega)
  refine remCases (by omega) (b := 8) (by simp [go_sem, q4, e1]) ?_
  simp [go_sem, hk, q4, q6, q7, q8]
  have hX : 3 + (g.nc + 1 + 1 + 1 + 1 + 1) = g.nc + 8 := by omega
  refine ⟨[5, 3 + (g.nc + 1 + 1 + 1 + 1 + 1), 3 + (g.nc + 1 + 1 + 1 + 1 + 1) + 1] ++ (List.range (kept (g.cp a) g.nc).length).map (fun i => (kept (g.cp a) g.nc)[i]?.getD 0 + 8), nodup_fam (by simp; omega) (fun i j hi hj h => kept_inj hi hj (by omega)) (fun x hx i hi => ?_), fun N => ⟨by simp [go_sem, EG.remG], ?_⟩⟩
  · have := kept_mem hi
    simp at hx
    omega
  refine gexpR_fam (Rs := [.vec 105 2 (g.remG a).nr fun i j => .r (((g.remG a).r i).c j), .vec 41 3 (g.remG a).nl fun i j => .r (((g.remG a).l i).c j), .vec 52 3 (g.remG a).nc ((g.remG a).oc 3)]) (n := (kept (g.cp a) g.nc).length) (f := (g.remG a).ov) ?_ fun i hi => ?_
  · simp [go_sem, q4, q6, q7, q8, EG.remG]
    refine ⟨fun i j hi hj => ?_, fun i j hi hj => ?_, fun i j hi hj => ?_⟩
    · by_cases e : i = a
      · subst e
        rcases (by omega : j = 0 ∨ j = 1) with rfl | rfl <;> simp [go_sem]
      · simp [e, SV.fz]
    · rw [rowsL_get (List.getElem?_eq_getElem hi), List.getElem?_eq_getElem hi]
      rfl
    · simp only [EG.oc]
      split
      · simp [SV.ren, hi]
      · simp [SV.ren]
  · have hm := kept_mem hi
    have f1 : ¬ (kept (g.cp a) g.nc)[i]?.getD 0 + 8 = 3 + (g.nc + 1 + 1 + 1 + 1 + 1) := by omega
    have f2 : ¬ (kept (g.cp a) g.nc)[i]?.getD 0 + 8 = 3 + (g.nc + 1 + 1 + 1 + 1 + 1) + 1 := by omega
    simp [go_sem, hm, f1, f2, EG.remG]
end Go.Gx
/-
  Remove: the reference's.
-/
set_option linter.unusedVariables false
set_option linter.unusedSimpArgs false
set_option maxRecDepth 20000
set_option maxHeartbeats 4000000
namespace Go.Gx
open Go.RowKit Go.Proofs Go.Proofs.YtnajladibkpeaaaGreat

theorem OwnS.argsSub {P : Program} {np : Nat} {f : FuncId} {Rs Rs' : List Reg} {args args' : List SV} {S : SV} (h : OwnS P np f Rs args' S Rs') (hl : SV.subL args args') : OwnS P np f Rs args S Rs' :=
  fun B σ w vs hm ha => h B σ w vs hm (SV.subL_rel _ _ _ hl ha)
def EG.rec0 (g : EG) : EG := ⟨g.nr, g.r, 0, g.l, 0, g.c⟩
theorem Reg.ownL_map {f : Nat → Reg} (h : ∀ i, (f i).own) : ∀ l : List Nat, Reg.ownL (l.map f)
  | [] => trivial
  | i :: l => ⟨h i, Reg.ownL_map h l⟩
theorem EG.oR_own (g : EG) : Reg.ownL g.oR := by
  refine ⟨fun i j _ hj => ?_, fun i j _ hj => ?_, fun i j _ hj => ?_, Reg.ownL_map (f := g.ov) (fun i => ?_) _⟩
  · rcases (by omega : j = 0 ∨ j = 1) with rfl | rfl <;> rfl
  · rcases (by omega : j = 0 ∨ j = 1 ∨ j = 2) with rfl | rfl | rfl <;> rfl
  · rcases (by omega : j = 0 ∨ j = 1 ∨ j = 2) with rfl | rfl | rfl
    · rfl
    · rfl
    · trivial
  · intro a j _ hj
    rcases (by omega : j = 0 ∨ j = 1) with rfl | rfl <;> rfl
@[go_sem] theorem addM_famN (ρ : Nat → Nat) (i n : Nat) (f : Nat → Reg) (M : Mem) : addM i ((List.range n).map f) ρ M = famN M i n fun j => some ((f j).ren ρ) := by
  funext r
  rw [addM_at, famN_app]
  simp only [List.length_map, List.length_range]
  by_cases h : i ≤ r ∧ r < i + n
  · rw [if_pos h, if_pos (by omega)]
    simp [show r - i < n by omega]
  · rw [if_neg h, if_neg (by omega)]
end Go.Gx
