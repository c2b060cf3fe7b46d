/-
  Rights in new memory; memory that is written over; the reference's Same.
-/
import Derived.Test.YtaggojedpkddjaaHd
import Derived.Test.YtaggojedpkddjaaSg
set_option linter.unusedVariables false
set_option linter.unusedSimpArgs false
set_option maxRecDepth 20000
set_option maxHeartbeats 2000000
namespace Go.Gx
open Go.RowKit Go.Proofs Go.Proofs.Ytaggojedpkddjaa

abbrev RG.osv (g : RG) : SV := .agg [.sl 0 8 0 g.nr none, .sl 1 3 0 g.nc none, .sl 2 4 0 g.nw none, .sl 3 5 0 g.nm none]
abbrev RG.ors (g : RG) : List Reg := [.vec 48 8 g.nr fun i j => (g.r i).c j, .vec 65 3 g.nc fun i j => (g.c i).c j, .vec 67 4 g.nw fun i j => (g.w i).c j, .vec 69 5 g.nm fun i j => (g.m i).c j]
abbrev nilS : SV := .r (.v (.slice none 0 0))
theorem RG.ors_own (g : RG) : Reg.ownL g.ors := by
  refine ⟨fun i j _ hj => ?_, fun i j _ hj => ?_, fun i j _ hj => ?_, fun i j _ hj => ?_, trivial⟩
  · rcases lt8 hj with rfl | rfl | rfl | rfl | rfl | rfl | rfl | rfl <;> rfl
  · have : j = 0 ∨ j = 1 ∨ j = 2 := by omega
    rcases this with rfl | rfl | rfl <;> rfl
  · have : j = 0 ∨ j = 1 ∨ j = 2 ∨ j = 3 := by omega
    rcases this with rfl | rfl | rfl | rfl <;> rfl
  · have : j = 0 ∨ j = 1 ∨ j = 2 ∨ j = 3 ∨ j = 4 := by omega
    rcases this with rfl | rfl | rfl | rfl | rfl <;> rfl

theorem own_rights {P : Program} {T : Tab} (hT : TabOK P T) {f : FuncId} {fn : Func} (hf : P.funcs[f]? = some fn) {c : Code} (hb : fn.body = some c) (hn : (fn.name == "runtime.NumGoroutine") = false) {args : List SV} (hlen : args.length ≤ fn.ntmps) {Rs Rs' : List Reg} {S : SV}
    {N : Nat} {rs : List ResultVar} (hN : fn.ntmps = N) (hrs : fn.results.toList = rs)
    (h : GC P T N c [] (gret T rs fun s M => (∃ ρl, gexp M s ρl S Rs') ∨ (∃ e : SV, e.flat = true ∧ s = .tup [.agg [nilS, nilS, nilS, nilS], e] ∧ S = .tup [RG.nil.osv, e] ∧ Rs' = RG.nil.ors)) (env0 args) (memR Rs) Rs.length) : Own P f Rs args S Rs' := by
  subst hN; subst hrs
  intro B σ w vs hm ha
  refine ⟨enter_run hf hb hn _, ?_⟩
  refine (calls_of_gexec hT hf hb hlen hm ha h).mono fun e w' h' => ?_
  obtain ⟨s, y, σ', M', nx', rfl, h', hrel, hm', hfr⟩ := h'
  rcases h' with ⟨ρl, h1, h2⟩ | ⟨e, he, rfl, rfl, rfl⟩
  · obtain ⟨h3, h4⟩ := h2 nx'
    obtain ⟨m1, m2⟩ := hm'.export (hm'.fresh nx' (Nat.le_refl nx')) h1 h4
    exact ⟨y, _, rfl, m1, SV.rel_mono (fun _ _ h => h) (fun b hb => ⟨m2 b hb, rfl⟩) _ _ ((SV.rel_ren _ _).1 (SV.sub_rel _ _ _ h3 hrel)), hfr.os, hfr.tape, hfr.output, hfr.size, hfr.block⟩
  · obtain ⟨_, rfl, v0, _, rfl, ⟨_, rfl, ho, a0, _, rfl, e0, a1, _, rfl, e1, a2, _, rfl, e2, a3, _, rfl, e3, rfl⟩, v1, _, rfl, h1, rfl⟩ := hrel
    cases e0; cases e1; cases e2; cases e3
    have hσ : ∀ r, r < 4 → (fun r => if r < 4 then some (⟨none, 0⟩ : Loc) else none) r = some ⟨none, 0⟩ := fun r h => if_pos h
    refine ⟨_, fun r => if r < 4 then some ⟨none, 0⟩ else none, rfl, ⟨hm'.newB, fun r hr => if_neg (by have : 4 ≤ r := hr; omega), fun r R hR => ?_, fun r r' R R' L L' b h1 h2 h3 h4 h5 h6 => ?_, fun r R L b h1 h2 h3 => ?_⟩, ?_, hfr.os, hfr.tape, hfr.output, hfr.size, hfr.block⟩
    · rw [memR_get] at hR
      have hr4 : r < 4 := by
        rcases Nat.lt_or_ge r 4 with h | h
        · exact h
        · rw [List.getElem?_eq_none (by simpa [RG.ors] using h)] at hR; cases hR
      refine ⟨_, hσ r hr4, ?_⟩
      have : r = 0 ∨ r = 1 ∨ r = 2 ∨ r = 3 := by omega
      rcases this with rfl | rfl | rfl | rfl <;> (simp [RG.nil] at hR; subst hR; exact ⟨Nat.le_refl _, by simp [maxLen], .inl ⟨rfl, rfl⟩⟩)
    · split at h3
      · cases h3; cases h5
      · cases h3
    · split at h2
      · cases h2; cases h3
      · cases h2
    · have hsl : ∀ (r k : Nat), r < 4 → (SV.sl r k 0 0 none).rel (fun r => if r < 4 then some (⟨none, 0⟩ : Loc) else none) (Zof B (fun r => if r < 4 then some (⟨none, 0⟩ : Loc) else none) (memR RG.nil.ors) w') w' (.slice none 0 0) :=
        fun r k h => ⟨⟨none, 0⟩, none, hσ r h, rfl, by simp, by simp, by simp, fun _ => .inl rfl⟩
      exact ⟨_, rfl, _, _, rfl, ⟨_, rfl, ho, _, _, rfl, hsl 0 8 (by decide), _, _, rfl, hsl 1 3 (by decide), _, _, rfl, hsl 2 4 (by decide), _, _, rfl, hsl 3 5 (by decide), rfl⟩, _, _, rfl, SV.rel_flat _ _ he h1, rfl⟩

theorem twin17 (g : RG) (hr : g.nr ≤ 1000000) (hc : g.nc ≤ 1000000) (hw : g.nw ≤ 1000000) (hm : g.nm ≤ 1000000) : Own Try.prog 17 [] [g.sv] g.osv g.ors := by
  refine own_of_GC T_ok Try.func17 rfl (by kernel_rfl) (Nat.le_of_ble_eq_true rfl) rfl rfl ?_
  simp [go_sem]
  refine ⟨⟨by omega, by omega⟩, ⟨by omega, by omega⟩, ⟨by omega, by omega⟩, ⟨by omega, by omega⟩, [2, 3, 4, 5], by decide, fun N => ⟨?_, ?_⟩⟩
  · simp [go_sem]
  · simp [go_sem, joined]
    repeat' apply And.intro
    all_goals (intros; omega)
theorem spoil23 (g : RG) (hr : g.nr ≤ 1000000) (hc : g.nc ≤ 1000000) (hw : g.nw ≤ 1000000) (hm : g.nm ≤ 1000000) : Own Try.prog 23 g.ors [g.osv] (.tup []) [] := by
  refine own_of_GC T_ok Try.func23 rfl (by kernel_rfl) (Nat.le_of_ble_eq_true rfl) rfl rfl ?_
  simp [go_sem]
  refine GLoop_of T_ok (α := Nat × (Nat → Nat → RV)) (fun x => [(1, .ptr 4 0 4 0), (7, .sl 0 8 0 g.nr none), (8, .i g.nr), (9, .i x.1)])
    (fun x => [some (.vec 48 8 g.nr x.2), some (.vec 65 3 g.nc (fun i j => (g.c i).c j)), some (.vec 67 4 g.nw (fun i j => (g.w i).c j)), some (.vec 69 5 g.nm (fun i j => (g.m i).c j)), some (.box [.sl 0 8 0 g.nr none, .sl 1 3 0 g.nc none, .sl 2 4 0 g.nw none, .sl 3 5 0 g.nm none])]) 5 (fun x => x.1 ≤ g.nr) (fun x => g.nr - x.1) (0, fun i j => (g.r i).c j) (fun _ => rfl) (by simp) (by simp [go_sem]) (by simp [go_sem]) ?_
  rintro ⟨k0, x0⟩ J0 hi
  simp only at hi
  by_cases hlt : k0 < g.nr
  · simp [go_sem, hlt]
    exact ⟨by omega, k0 + 1, by omega, by omega, by omega⟩
  simp [go_sem, hlt]
  clear hi hlt
  refine GLoop_of T_ok (α := Nat × (Nat → Nat → RV)) (fun x => [(1, .ptr 4 0 4 0), (19, .sl 1 3 0 g.nc none), (20, .i g.nc), (21, .i x.1)])
    (fun x => [some (.vec 48 8 g.nr (x0)), some (.vec 65 3 g.nc x.2), some (.vec 67 4 g.nw (fun i j => (g.w i).c j)), some (.vec 69 5 g.nm (fun i j => (g.m i).c j)), some (.box [.sl 0 8 0 g.nr none, .sl 1 3 0 g.nc none, .sl 2 4 0 g.nw none, .sl 3 5 0 g.nm none])]) 5 (fun x => x.1 ≤ g.nc) (fun x => g.nc - x.1) (0, fun i j => (g.c i).c j) (fun _ => rfl) (by simp) (by simp [go_sem]) (by simp [go_sem]) ?_
  rintro ⟨k1, x1⟩ J1 hi
  simp only at hi
  by_cases hlt : k1 < g.nc
  · simp [go_sem, hlt]
    exact ⟨by omega, k1 + 1, by omega, by omega, by omega⟩
  simp [go_sem, hlt]
  clear hi hlt
  refine GLoop_of T_ok (α := Nat × (Nat → Nat → RV)) (fun x => [(1, .ptr 4 0 4 0), (31, .sl 2 4 0 g.nw none), (32, .i g.nw), (33, .i x.1)])
    (fun x => [some (.vec 48 8 g.nr (x0)), some (.vec 65 3 g.nc (x1)), some (.vec 67 4 g.nw x.2), some (.vec 69 5 g.nm (fun i j => (g.m i).c j)), some (.box [.sl 0 8 0 g.nr none, .sl 1 3 0 g.nc none, .sl 2 4 0 g.nw none, .sl 3 5 0 g.nm none])]) 5 (fun x => x.1 ≤ g.nw) (fun x => g.nw - x.1) (0, fun i j => (g.w i).c j) (fun _ => rfl) (by simp) (by simp [go_sem]) (by simp [go_sem]) ?_
  rintro ⟨k2, x2⟩ J2 hi
  simp only at hi
  by_cases hlt : k2 < g.nw
  · simp [go_sem, hlt]
    exact ⟨by omega, k2 + 1, by omega, by omega, by omega⟩
  simp [go_sem, hlt]
  clear hi hlt
  refine GLoop_of T_ok (α := Nat × (Nat → Nat → RV)) (fun x => [(1, .ptr 4 0 4 0), (43, .sl 3 5 0 g.nm none), (44, .i g.nm), (45, .i x.1)])
    (fun x => [some (.vec 48 8 g.nr (x0)), some (.vec 65 3 g.nc (x1)), some (.vec 67 4 g.nw (x2)), some (.vec 69 5 g.nm x.2), some (.box [.sl 0 8 0 g.nr none, .sl 1 3 0 g.nc none, .sl 2 4 0 g.nw none, .sl 3 5 0 g.nm none])]) 5 (fun x => x.1 ≤ g.nm) (fun x => g.nm - x.1) (0, fun i j => (g.m i).c j) (fun _ => rfl) (by simp) (by simp [go_sem]) (by simp [go_sem]) ?_
  rintro ⟨k3, x3⟩ J3 hi
  simp only at hi
  by_cases hlt : k3 < g.nm
  · simp [go_sem, hlt]
    exact ⟨by omega, k3 + 1, by omega, by omega, by omega⟩
  simp [go_sem, hlt]
  clear hi hlt
  exact ⟨[], by simp, fun N => ⟨by simp [go_sem], trivial⟩⟩
theorem own43 (g : RG) (x : ConG) (h : g.OK) : Own Try.prog 43 [] [g.sv, x.sv] (.tup [(if g.cnE x = 0 then g.putC x else RG.nil).osv, .i (g.cnE x)]) (if g.cnE x = 0 then g.putC x else RG.nil).ors := by
  refine own_rights T_ok Try.func43 rfl (by kernel_rfl) (Nat.le_of_ble_eq_true rfl) rfl rfl ?_
  simp [go_sem]
  refine call_val (check28 g h) rfl rfl ?_
  by_cases hv : g.valid = true
  rotate_left
  · have ha : g.cnE x = 8 := by unfold RG.cnE; rw [if_neg hv]
    simp [go_sem, hv, ha]
  have hl := RG.lim hv
  simp [go_sem, hv]
  refine call_val (goodConsent73 x) rfl rfl ?_
  by_cases hx : x.good = true
  rotate_left
  · have ha : g.cnE x = 2 := by unfold RG.cnE; rw [if_pos hv, if_neg hx]
    simp [go_sem, hx, ha]
  simp [go_sem, hx]
  refine callK_own [] (copied49 g (by omega) (by omega) (by omega) (by omega)) (by simp) rfl trivial ?_
  simp [go_sem]
  refine callK_own [4] (placed100 g.nc (by omega) g.c x 40 (g.cmC x.p x.q) rfl (RG.cmC_mono (RG.v5 hv) _ _)) (by simp) rfl ⟨rfl, trivial⟩ ?_
  have hE : g.cnE x = if fnd (g.cmC x.p x.q) g.nc || decide ((g.nc : Int) < 40) then 0 else 9 := by unfold RG.cnE; rw [if_pos hv, if_pos hx]
  generalize hf : (fnd (g.cmC x.p x.q) g.nc || decide ((g.nc : Int) < 40)) = f at *
  cases f
  · have ha : g.cnE x = 9 := hE
    simp [go_sem, ha]
  · have ha : g.cnE x = 0 := hE
    simp [go_sem, ha]
    refine ⟨[3, 7, 5, 6], by decide, fun N => ⟨?_, ?_⟩⟩
    · simp [go_sem, RG.putC]
    · simp [go_sem, RG.putC]
theorem own46 (g : RG) (x : MarkG) (h : g.OK) : Own Try.prog 46 [] [g.sv, x.sv] (.tup [(if g.mkE x = 0 then g.putM x else RG.nil).osv, .i (g.mkE x)]) (if g.mkE x = 0 then g.putM x else RG.nil).ors := by
  refine own_rights T_ok Try.func46 rfl (by kernel_rfl) (Nat.le_of_ble_eq_true rfl) rfl rfl ?_
  simp [go_sem]
  refine call_val (check28 g h) rfl rfl ?_
  by_cases hv : g.valid = true
  rotate_left
  · have ha : g.mkE x = 8 := by unfold RG.mkE; rw [if_neg hv]
    simp [go_sem, hv, ha]
  have hl := RG.lim hv
  simp [go_sem, hv]
  refine call_val (goodMark77 x) rfl rfl ?_
  by_cases hx : x.good = true
  rotate_left
  · have ha : g.mkE x = 2 := by unfold RG.mkE; rw [if_pos hv, if_neg hx]
    simp [go_sem, hx, ha]
  simp [go_sem, hx]
  refine callK_own [] (copied49 g (by omega) (by omega) (by omega) (by omega)) (by simp) rfl trivial ?_
  simp [go_sem]
  refine callK_own [6] (placed103 g.nm (by omega) g.m x 40 (g.cm x.l x.p) rfl (RG.cm_mono (RG.v6 hv) _ _)) (by simp) rfl ⟨rfl, trivial⟩ ?_
  have hE : g.mkE x = if fnd (g.cm x.l x.p) g.nm || decide ((g.nm : Int) < 40) then 0 else 9 := by unfold RG.mkE; rw [if_pos hv, if_pos hx]
  generalize hf : (fnd (g.cm x.l x.p) g.nm || decide ((g.nm : Int) < 40)) = f at *
  cases f
  · have ha : g.mkE x = 9 := hE
    simp [go_sem, ha]
  · have ha : g.mkE x = 0 := hE
    simp [go_sem, ha]
    refine ⟨[3, 4, 5, 7], by decide, fun N => ⟨?_, ?_⟩⟩
    · simp [go_sem, RG.putM]
    · simp [go_sem, RG.putM]
theorem own18 (g : RG) (t : Int) (h : g.OK) : Own Try.prog 18 [] [g.sv, .i t] (.tup [(if g.prE t = 0 then g.prune t else RG.nil).osv, .i (g.prE t)]) (if g.prE t = 0 then g.prune t else RG.nil).ors := by
  refine own_rights T_ok Try.func18 rfl (by kernel_rfl) (Nat.le_of_ble_eq_true rfl) rfl rfl ?_
  simp [go_sem]
  refine call_val (check28 g h) rfl rfl ?_
  by_cases hv : g.valid = true
  rotate_left
  · have ha : g.prE t = 8 := by unfold RG.prE; rw [if_neg hv]
    simp [go_sem, hv, ha]
  have hl := RG.lim hv
  simp [go_sem, hv]
  refine call_lent (v := .b (timeB t)) (by simp [go_sem]; exact times1 rfl) rfl ?_
  by_cases ht : timeB t = true
  rotate_left
  · have ha : g.prE t = 2 := by unfold RG.prE; rw [if_pos hv, if_neg ht]
    simp [go_sem, ht, ha]
  have ha : g.prE t = 0 := by unfold RG.prE; rw [if_pos hv, if_pos ht]
  simp [go_sem, ht, ha]
  refine callK_own [] (copied49 g (by omega) (by omega) (by omega) (by omega)) (by simp) rfl trivial ?_
  simp [go_sem]
  refine callK_freeze 1 (R := .box [.i t]) rfl ?_
  simp [go_sem]
  refine callK_own [4] (delf50 g.nr (by omega) (fun i j => (g.r i).c j) 51 (gcell t) (fun i => decide ((g.r i).t ≤ t)) (one_r g.r) (fun i _ => cl51 (g.r i) t)) (by simp) rfl ⟨rfl, trivial⟩ ?_
  simp [go_sem]
  refine callK_own [5] (delf52 g.nc (by omega) (fun i j => (g.c i).c j) 53 (gcell t) (fun i => decide ((g.c i).u ≤ t)) (one_c g.c) (fun i _ => cl53 (g.c i) t)) (by simp) rfl ⟨rfl, trivial⟩ ?_
  simp [go_sem]
  refine callK_own [6] (delf54 g.nw (by omega) (fun i j => (g.w i).c j) 55 (gcell t) (fun i => decide ((g.w i).t ≤ t)) (one_w g.w) (fun i _ => cl55 (g.w i) t)) (by simp) rfl ⟨rfl, trivial⟩ ?_
  simp [go_sem]
  refine callK_own [7] (delf56 g.nm (by omega) (fun i j => (g.m i).c j) 57 (gcell t) (fun i => decide ((g.m i).u ≤ t)) (one_m g.m) (fun i _ => cl57 (g.m i) t)) (by simp) rfl ⟨rfl, trivial⟩ ?_
  simp [go_sem]
  refine ⟨[8, 9, 10, 11], by decide, fun N => ⟨?_, ?_⟩⟩
  · simp [go_sem, RG.prune, RG.sel]
  · simp [go_sem]
    exact ⟨⟨Nat.le_refl _, fun i j hi _ => sel_row (f := RuleG.c) hi⟩, ⟨Nat.le_refl _, fun i j hi _ => sel_row (f := ConG.c) hi⟩, ⟨Nat.le_refl _, fun i j hi _ => sel_row (f := WarG.c) hi⟩, Nat.le_refl _, fun i j hi _ => sel_row (f := MarkG.c) hi⟩
theorem own20 (g : RG) (t : Int) (h : g.OK) : Own Try.prog 20 [] [g.sv, .i t] (.tup [(if g.foE t = 0 then g.forget t else RG.nil).osv, .i (g.foE t)]) (if g.foE t = 0 then g.forget t else RG.nil).ors := by
  refine own_rights T_ok Try.func20 rfl (by kernel_rfl) (Nat.le_of_ble_eq_true rfl) rfl rfl ?_
  simp [go_sem]
  refine call_val (check28 g h) rfl rfl ?_
  by_cases hv : g.valid = true
  rotate_left
  · have ha : g.foE t = 8 := by unfold RG.foE; rw [if_neg hv]
    simp [go_sem, hv, ha]
  have hl := RG.lim hv
  simp [go_sem, hv]
  refine call_lent (v := .b (persB t)) (by simp [go_sem]; exact people1 rfl) rfl ?_
  by_cases ht : persB t = true
  rotate_left
  · have ha : g.foE t = 2 := by unfold RG.foE; rw [if_pos hv, if_neg ht]
    simp [go_sem, ht, ha]
  have ha : g.foE t = 0 := by unfold RG.foE; rw [if_pos hv, if_pos ht]
  simp [go_sem, ht, ha]
  refine callK_own [] (copied49 g (by omega) (by omega) (by omega) (by omega)) (by simp) rfl trivial ?_
  simp [go_sem]
  refine callK_freeze 1 (R := .box [.i t]) rfl ?_
  simp [go_sem]
  refine callK_own [5] (delf52 g.nc (by omega) (fun i j => (g.c i).c j) 61 (gcell t) (fun i => decide ((g.c i).p = t)) (one_c g.c) (fun i _ => cl61 (g.c i) t)) (by simp) rfl ⟨rfl, trivial⟩ ?_
  simp [go_sem]
  refine callK_own [6] (delf54 g.nw (by omega) (fun i j => (g.w i).c j) 62 (gcell t) (fun i => decide ((g.w i).p = t)) (one_w g.w) (fun i _ => cl62 (g.w i) t)) (by simp) rfl ⟨rfl, trivial⟩ ?_
  simp [go_sem]
  refine callK_own [7] (delf56 g.nm (by omega) (fun i j => (g.m i).c j) 63 (gcell t) (fun i => decide ((g.m i).p = t)) (one_m g.m) (fun i _ => cl63 (g.m i) t)) (by simp) rfl ⟨rfl, trivial⟩ ?_
  simp [go_sem]
  refine ⟨[4, 8, 9, 10], by decide, fun N => ⟨?_, ?_⟩⟩
  · simp [go_sem, RG.forget, RG.sel]
  · simp [go_sem]
    exact ⟨⟨Nat.le_refl _, fun _ _ _ _ => rfl⟩, ⟨Nat.le_refl _, fun i j hi _ => sel_row (f := ConG.c) hi⟩, ⟨Nat.le_refl _, fun i j hi _ => sel_row (f := WarG.c) hi⟩, Nat.le_refl _, fun i j hi _ => sel_row (f := MarkG.c) hi⟩
theorem own36 (g : RG) (p q : Int) (h : g.OK) : Own Try.prog 36 [] [g.sv, .i p, .i q] (.tup [(if g.rvE p q = 0 then g.revoke p q else RG.nil).osv, .i (g.rvE p q)]) (if g.rvE p q = 0 then g.revoke p q else RG.nil).ors := by
  refine own_rights T_ok Try.func36 rfl (by kernel_rfl) (Nat.le_of_ble_eq_true rfl) rfl rfl ?_
  simp [go_sem]
  refine call_val (check28 g h) rfl rfl ?_
  by_cases hv : g.valid = true
  rotate_left
  · have ha : g.rvE p q = 8 := by unfold RG.rvE; rw [if_neg hv]
    simp [go_sem, hv, ha]
  have hl := RG.lim hv
  simp [go_sem, hv]
  refine callK_own [] (copied49 g (by omega) (by omega) (by omega) (by omega)) (by simp) rfl trivial ?_
  simp [go_sem]
  refine call_lent (v := .tup [.i (bnd (g.cmC p q) g.nc : Nat), .b (fnd (g.cmC p q) g.nc)]) (by
    simp [go_sem]
    exact search89 g.nc (by omega) _ p q 0 79 (g.cmC p q) (RG.cmC_mono (RG.v5 hv) _ _) (fun i hi => less79 (g.c i).p (g.c i).q (g.c i).u p q 0)) rfl ?_
  by_cases hf : fnd (g.cmC p q) g.nc = true
  rotate_left
  · have ha : g.rvE p q = 6 := by unfold RG.rvE; rw [if_pos hv, if_neg hf]
    simp [go_sem, hf, ha]
  have ha : g.rvE p q = 0 := by unfold RG.rvE; rw [if_pos hv, if_pos hf]
  have hb : bnd (g.cmC p q) g.nc < g.nc := by simp [fnd] at hf; exact hf.1
  simp [go_sem, hf, ha]
  refine ⟨by omega, callK_own [3] (delete90 g.nc (bnd (g.cmC p q) g.nc) (by omega) hb (fun i j => (g.c i).c j)) (by simp) rfl ⟨rfl, trivial⟩ ?_⟩
  simp [go_sem]
  refine ⟨[2, 6, 4, 5], by decide, fun N => ⟨?_, ?_⟩⟩
  · simp [go_sem, RG.revoke, RG.drop]
  · simp [go_sem, RG.revoke, RG.drop]
    intro r c hr hc
    split <;> rfl
theorem s_of {n m : Nat} {e : Nat → Bool} (h : n = m) (ha : ∀ j, j < n → e j = true) : (decide (n = m) && (List.range n).all e) = true := by
  simp [h]
  intro j hj
  exact ha j (by omega)
theorem s_no {n m : Nat} {e : Nat → Bool} {k : Nat} (hk : k < n) (h : ¬ e k = true) : (decide (n = m) && (List.range n).all e) = false := by
  have : (List.range n).all e = false := by
    rw [List.all_eq_false]
    exact ⟨k, List.mem_range.2 hk, h⟩
  rw [this, Bool.and_false]
theorem same22 (g h : RG) (hg : g.OK) (hh : h.OK) : Pure Try.prog 22 [g.sv, h.sv] (· = .b (g.same h)) := by
  refine pure_of_GC T_ok Try.func22 rfl (by kernel_rfl) (Nat.le_of_ble_eq_true rfl) rfl rfl ?_
  have o1 := hg.nr; have o2 := hg.nc; have o3 := hg.nw; have o4 := hg.nm
  by_cases n1 : g.nr = h.nr
  rotate_left
  · have m1 : ((g.nr : Int) = (h.nr : Int)) = False := eq_false (by omega)
    simp [go_sem, m1]
    simp [RG.same, RG.s1, n1]
  have m1 : ((g.nr : Int) = (h.nr : Int)) = True := eq_true (by omega)
  by_cases n2 : g.nc = h.nc
  rotate_left
  · have m2 : ((g.nc : Int) = (h.nc : Int)) = False := eq_false (by omega)
    simp [go_sem, m1, m2]
    simp [RG.same, RG.s2, n2]
  have m2 : ((g.nc : Int) = (h.nc : Int)) = True := eq_true (by omega)
  by_cases n3 : g.nw = h.nw
  rotate_left
  · have m3 : ((g.nw : Int) = (h.nw : Int)) = False := eq_false (by omega)
    simp [go_sem, m1, m2, m3]
    simp [RG.same, RG.s3, n3]
  have m3 : ((g.nw : Int) = (h.nw : Int)) = True := eq_true (by omega)
  by_cases n4 : g.nm = h.nm
  rotate_left
  · have m4 : ((g.nm : Int) = (h.nm : Int)) = False := eq_false (by omega)
    simp [go_sem, m1, m2, m3, m4]
    simp [RG.same, RG.s4, n4]
  have m4 : ((g.nm : Int) = (h.nm : Int)) = True := eq_true (by omega)
  simp [go_sem, m1, m2, m3, m4]
  refine GLoop_of T_ok (α := Nat) (fun k => [(2, .ptr 0 0 4 0), (3, .ptr 1 0 4 0), (5, .i k)]) (fun _ => g.box ++ h.box) 2 (fun k => k ≤ g.nr ∧ ∀ j, j < k → (g.r j).eqB (h.r j) = true) (fun k => g.nr - k) 0 (fun _ => rfl) (by simp) (by simp [go_sem]) (by simp [go_sem, m1, m2, m3, m4]) ?_
  intro k0 J0 hi
  by_cases hlt : k0 < g.nr
  · simp [go_sem, hlt]
    refine GDraw_all T_ok (by kernel_rfl) (by kernel_rfl) ?_
    have hlt' : k0 < h.nr := by omega
    by_cases he : (g.r k0).eqB (h.r k0) = true
    · have he' := he
      simp [RuleG.eqB] at he'
      simp [go_sem, hlt, hlt', he']
      refine ⟨by omega, k0 + 1, ⟨by omega, fun j hj => ?_⟩, by omega, by simp⟩
      by_cases hjk : j = k0
      · subst hjk; exact he
      · exact hi.2 j (by omega)
    · have hs : g.s1 h = false := s_no hlt he
      simp [go_sem, hlt, hlt']
      rw [if_pos (Classical.byContradiction fun hc => he (by simp at hc; simp [RuleG.eqB, hc]))]
      simp [RG.same, hs]
  have hs1 : g.s1 h = true := s_of n1 fun j hj => hi.2 j (by omega)
  clear hi
  simp [go_sem, hlt]
  clear hlt
  refine GLoop_of T_ok (α := Nat) (fun k => [(2, .ptr 0 0 4 0), (3, .ptr 1 0 4 0), (6, .i k)]) (fun _ => g.box ++ h.box) 2 (fun k => k ≤ g.nc ∧ ∀ j, j < k → (g.c j).eqB (h.c j) = true) (fun k => g.nc - k) 0 (fun _ => rfl) (by simp) (by simp [go_sem]) (by simp [go_sem, m1, m2, m3, m4]) ?_
  intro k1 J1 hi
  by_cases hlt : k1 < g.nc
  · simp [go_sem, hlt]
    refine GDraw_all T_ok (by kernel_rfl) (by kernel_rfl) ?_
    have hlt' : k1 < h.nc := by omega
    by_cases he : (g.c k1).eqB (h.c k1) = true
    · have he' := he
      simp [ConG.eqB] at he'
      simp [go_sem, hlt, hlt', he']
      refine ⟨by omega, k1 + 1, ⟨by omega, fun j hj => ?_⟩, by omega, by simp⟩
      by_cases hjk : j = k1
      · subst hjk; exact he
      · exact hi.2 j (by omega)
    · have hs : g.s2 h = false := s_no hlt he
      simp [go_sem, hlt, hlt']
      rw [if_pos (Classical.byContradiction fun hc => he (by simp at hc; simp [ConG.eqB, hc]))]
      simp [RG.same, hs]
  have hs2 : g.s2 h = true := s_of n2 fun j hj => hi.2 j (by omega)
  clear hi
  simp [go_sem, hlt]
  clear hlt
  refine GLoop_of T_ok (α := Nat) (fun k => [(2, .ptr 0 0 4 0), (3, .ptr 1 0 4 0), (7, .i k)]) (fun _ => g.box ++ h.box) 2 (fun k => k ≤ g.nw ∧ ∀ j, j < k → (g.w j).eqB (h.w j) = true) (fun k => g.nw - k) 0 (fun _ => rfl) (by simp) (by simp [go_sem]) (by simp [go_sem, m1, m2, m3, m4]) ?_
  intro k2 J2 hi
  by_cases hlt : k2 < g.nw
  · simp [go_sem, hlt]
    refine GDraw_all T_ok (by kernel_rfl) (by kernel_rfl) ?_
    have hlt' : k2 < h.nw := by omega
    by_cases he : (g.w k2).eqB (h.w k2) = true
    · have he' := he
      simp [WarG.eqB] at he'
      simp [go_sem, hlt, hlt', he']
      refine ⟨by omega, k2 + 1, ⟨by omega, fun j hj => ?_⟩, by omega, by simp⟩
      by_cases hjk : j = k2
      · subst hjk; exact he
      · exact hi.2 j (by omega)
    · have hs : g.s3 h = false := s_no hlt he
      simp [go_sem, hlt, hlt']
      rw [if_pos (Classical.byContradiction fun hc => he (by simp at hc; simp [WarG.eqB, hc]))]
      simp [RG.same, hs]
  have hs3 : g.s3 h = true := s_of n3 fun j hj => hi.2 j (by omega)
  clear hi
  simp [go_sem, hlt]
  clear hlt
  refine GLoop_of T_ok (α := Nat) (fun k => [(2, .ptr 0 0 4 0), (3, .ptr 1 0 4 0), (8, .i k)]) (fun _ => g.box ++ h.box) 2 (fun k => k ≤ g.nm ∧ ∀ j, j < k → (g.m j).eqB (h.m j) = true) (fun k => g.nm - k) 0 (fun _ => rfl) (by simp) (by simp [go_sem]) (by simp [go_sem, m1, m2, m3, m4]) ?_
  intro k3 J3 hi
  by_cases hlt : k3 < g.nm
  · simp [go_sem, hlt]
    refine GDraw_all T_ok (by kernel_rfl) (by kernel_rfl) ?_
    have hlt' : k3 < h.nm := by omega
    by_cases he : (g.m k3).eqB (h.m k3) = true
    · have he' := he
      simp [MarkG.eqB] at he'
      simp [go_sem, hlt, hlt', he']
      refine ⟨by omega, k3 + 1, ⟨by omega, fun j hj => ?_⟩, by omega, by simp⟩
      by_cases hjk : j = k3
      · subst hjk; exact he
      · exact hi.2 j (by omega)
    · have hs : g.s4 h = false := s_no hlt he
      simp [go_sem, hlt, hlt']
      rw [if_pos (Classical.byContradiction fun hc => he (by simp at hc; simp [MarkG.eqB, hc]))]
      simp [RG.same, hs]
  have hs4 : g.s4 h = true := s_of n4 fun j hj => hi.2 j (by omega)
  clear hi
  simp [go_sem, hlt]
  clear hlt
  simp [RG.same, hs1, hs2, hs3, hs4]
end Go.Gx
