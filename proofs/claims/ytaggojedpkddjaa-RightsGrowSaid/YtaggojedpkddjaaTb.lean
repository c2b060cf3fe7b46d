/-
  Law: RightsGrow, the walk.
-/
import Derived.Test.YtaggojedpkddjaaTa
set_option linter.unusedVariables false
set_option linter.unusedSimpArgs false
set_option maxRecDepth 20000
set_option maxHeartbeats 4000000
namespace Go.Gx
open Go.RowKit
section
variable {P : Program} {T : Tab} {N : Cfg} {k : List It} {Q : GQ} {E : Env} {M : Mem} {nx : Nat} {e : Exit}
/-- Some refs are left out. -/
theorem GSt.bump (n : Nat) : GSt N E M nx E M (nx + n) := fun B W w0 σ a w h =>
  ⟨σ, h.env, h.mem.weaken fun r hr => by have : nx + n ≤ r := hr; show nx ≤ r; omega, h.fr, h.defers, h.size, Nat.le_trans h.low (Nat.le_add_right _ _), h.pin, h.good⟩
/-- A region of open order, told behind it by slots and a property, in other words. -/
theorem GDraw_cutv (S : List (Nat × SV)) (φ : Mem → Nat → Prop) {id : Nat} {all : Array Oper} (h : GDraw P T N id all [] (vq N (JP S φ)) E M nx) (hk : ∀ J M nx, φ M nx → GK P T N k Q .normal (updL J S) M nx) : GDraw P T N id all k Q E M nx :=
  GDraw_cut S φ (GW.vq h) hk
/-- A slot's region gets a number. -/
theorem vq_mvP (t q : Nat) {p row kk fld : Nat} (hE : E t = .ptr p row kk fld) (h : p ≠ q ∧ N.np ≤ p ∧ N.np ≤ q ∧ q < nx) (hn : vq N Q e (fun t => (E t).mv p q) (mvM p q M) nx) : vq N Q e E M nx :=
  vq_step (GSt.move p q h.1 h.2.1 h.2.2.1 h.2.2.2) hn
/-- The region of a slice in a box gets a number. -/
theorem vq_mvB (b j q : Nat) {l : List SV} {p kk lo n : Nat} {c : Option Nat} (hM : M b = some (.box l)) (hl : l[j]? = some (.sl p kk lo n c)) (h : p ≠ q ∧ N.np ≤ p ∧ N.np ≤ q ∧ q < nx) (hn : vq N Q e (fun t => (E t).mv p q) (mvM p q M) nx) : vq N Q e E M nx :=
  vq_step (GSt.move p q h.1 h.2.1 h.2.2.1 h.2.2.2) hn
end
end Go.Gx
namespace Go.Gx.Rg
open Go.RowKit Go.Proofs Go.Proofs.Ytaggojedpkddjaa

theorem le_agg' {l l' : List SV} (h : leL l l') : (SV.agg l).le (.agg l') := fun Z w y hy => by
  obtain ⟨vs, e, h1, h2⟩ := hy
  exact ⟨vs, e, h1, leL_rel _ _ _ h h2⟩
theorem RG.le_sv (y : RG) {a b c d : Nat → Nat → RV} {n1 n2 n3 n4 : Nat} (e1 : n1 = y.nr) (e2 : n2 = y.nc) (e3 : n3 = y.nw) (e4 : n4 = y.nm) (h1 : ∀ i j, i < n1 → j < 8 → a i j = (y.r i).c j) (h2 : ∀ i j, i < n2 → j < 3 → b i j = (y.c i).c j)
    (h3 : ∀ i j, i < n3 → j < 4 → c i j = (y.w i).c j) (h4 : ∀ i j, i < n4 → j < 5 → d i j = (y.m i).c j) : (SV.agg [.r (.rs 8 n1 a), .r (.rs 3 n2 b), .r (.rs 4 n3 c), .r (.rs 5 n4 d)]).le y.sv := by
  subst e1; subst e2; subst e3; subst e4
  exact le_agg' ⟨le_rs h1, le_rs h2, le_rs h3, le_rs h4, trivial⟩

theorem law14 (g : RG) (q : QG) (o : Int) (r : RuleG) (c : ConG) (w : WarG) (hb : g.By) (_ : -9223372036854775808 ≤ o) (_ : o ≤ 9223372036854775807) (hrb : r.byte) : Pure Try.prog 14 [g.sv, q.sv, .i o, r.sv, c.sv, w.sv] (· = .b true) := by
  refine pure_of_GC T_ok Try.func14 rfl (by kernel_rfl) (Nat.le_of_ble_eq_true rfl) rfl rfl ?_
  simp [go_sem]
  refine call_val alive24 rfl rfl ?_
  simp [go_sem]
  refine call_val (great16 g) rfl rfl ?_
  generalize hg : g.great = a
  cases a
  rotate_left
  · simp [go_sem]
  have h := OK_of hb hg
  have hsz : g.nr ≤ 30 ∧ g.nc ≤ 50 ∧ g.nw ≤ 30 ∧ g.nm ≤ 50 := by simp [RG.great] at hg; omega
  have hT := twin17 g (by omega) (by omega) (by omega) (by omega)
  simp [go_sem]
  refine call_val (long25 q) rfl rfl ?_
  by_cases hl : 20 < (q.nk : Int)
  · simp [go_sem, hl]
  have hq : q.OK := by unfold QG.OK; omega
  simp [go_sem, hl]
  refine call_val (level29 g q h hq) rfl rfl ?_
  by_cases ha : ask g q = 0
  rotate_left
  · have hl0 : g.levq q = 0 := by simp [RG.levq, ha]
    simp [go_sem, ha, hl0]
  simp [go_sem, ha]
  refine call_val (sign37 q o hq) rfl rfl ?_
  generalize hs : q.sgE o = se
  by_cases hs0 : se = 0
  rotate_left
  simp [go_sem, hs0]
  rotate_left
  subst hs0
  obtain ⟨h1, h2⟩ := grow_sg ha hs
  have hqs : (q.sg o).OK := by simp only [QG.OK, QG.sg]; omega
  have hsv := level29 g (q.sg o) h hqs
  simp [go_sem]
  refine call_val hsv rfl rfl ?_
  have h3 : ¬ g.levq (q.sg o) < g.levq q := by omega
  have h4 : (q.sg o).nk = q.nk + 1 := rfl
  simp [go_sem, h1, h3, h4]
  refine ⟨by omega, ?_⟩
  all_goals
    refine GDraw_cutv [(6, .ptr 0 0 4 0), (7, .ptr 1 0 6 0), (9, .ptr 2 0 8 0), (10, .ptr 3 0 3 0), (11, .ptr 4 0 4 0), (13, .b true), (14, .i (g.levq q)), (20, .ptr 40 0 4 0), (21, .ptr 41 0 4 0)]
      (fun M nx => M 0 = some (.box [RuleG.rs g.nr g.r, ConG.rs g.nc g.c, WarG.rs g.nw g.w, MarkG.rs g.nm g.m]) ∧ M 1 = some (.box [.i q.p, .i q.r, .i q.l, .i q.w, .i q.t, q.ks]) ∧
        M 2 = some (.box [.i r.p, .i r.r, .i r.l, .i r.f, .i r.t, .i r.k, .i r.s, .r (.v (.int .u8 r.b))]) ∧ M 3 = some (.box [.i c.p, .i c.q, .i c.u]) ∧ M 4 = some (.box [.i w.l, .i w.p, .i w.f, .i w.t]) ∧
        M 40 = some (.box [.sl 42 8 0 g.nr none, .sl 43 3 0 g.nc none, .sl 44 4 0 g.nw none, .sl 45 5 0 g.nm none]) ∧ M 41 = some (.box [.sl 46 8 0 g.nr none, .sl 47 3 0 g.nc none, .sl 48 4 0 g.nw none, .sl 49 5 0 g.nm none]) ∧ 
        M 42 = some (.vec 48 8 g.nr fun i j => .r ((g.r i).c j)) ∧ M 43 = some (.vec 65 3 g.nc fun i j => .r ((g.c i).c j)) ∧ M 44 = some (.vec 67 4 g.nw fun i j => .r ((g.w i).c j)) ∧ M 45 = some (.vec 69 5 g.nm fun i j => .r ((g.m i).c j)) ∧
        M 46 = some (.vec 48 8 g.nr fun i j => .r ((g.r i).c j)) ∧ M 47 = some (.vec 65 3 g.nc fun i j => .r ((g.c i).c j)) ∧ M 48 = some (.vec 67 4 g.nw fun i j => .r ((g.w i).c j)) ∧ M 49 = some (.vec 69 5 g.nm fun i j => .r ((g.m i).c j)) ∧ nx = 60) ?_ ?_
    · refine GDraw_l (t := (.take 0 (.take 2 (.alt 1 [2, 0] (.alt 3 [2] (.alt 4 [] (.alt 5 [] (.alt 6 [] (.alt 7 [] (.done []) .nil) .nil) .nil) (.alt 5 [] (.alt 4 [] (.alt 6 [] (.alt 7 [] (.done []) .nil) .nil) .nil) .nil)) (.alt 4 [2] (.alt 3 [2] (.alt 5 [] (.alt 6 [] (.alt 7 [] (.done []) .nil) .nil) .nil) (.alt 5 [2] (.alt 3 [2] (.alt 6 [] (.alt 7 [] (.done []) .nil) .nil) .nil) .nil)) (.alt 5 [2] (.alt 3 [2] (.alt 4 [] (.alt 6 [] (.alt 7 [] (.done []) .nil) .nil) .nil) (.alt 4 [2] (.alt 3 [2] (.alt 6 [] (.alt 7 [] (.done []) .nil) .nil) .nil) .nil)) .nil))) (.alt 4 [2, 0] (.alt 1 [2, 0] (.alt 3 [2] (.alt 5 [] (.alt 6 [] (.alt 7 [] (.done []) .nil) .nil) .nil) (.alt 5 [2] (.alt 3 [2] (.alt 6 [] (.alt 7 [] (.done []) .nil) .nil) .nil) .nil)) (.alt 5 [2, 0] (.alt 1 [2, 0] (.alt 3 [2] (.alt 6 [] (.alt 7 [] (.done []) .nil) .nil) .nil) .nil) .nil)) (.alt 5 [2, 0] (.alt 1 [2, 0] (.alt 3 [2] (.alt 4 [] (.alt 6 [] (.alt 7 [] (.done []) .nil) .nil) .nil) (.alt 4 [2] (.alt 3 [2] (.alt 6 [] (.alt 7 [] (.done []) .nil) .nil) .nil) .nil)) (.alt 4 [2, 0] (.alt 1 [2, 0] (.alt 3 [2] (.alt 6 [] (.alt 7 [] (.done []) .nil) .nil) .nil) .nil) .nil)) .nil)))))) T_ok (by kernel_rfl) (by kernel_rfl) (by kernel_rfl) (fun _ _ _ _ ⟨_, _, _, _, h⟩ => h) ?_
      simp [go_sem]
      repeat' (first | apply And.intro | (refine callK_own [] hT (by simp) rfl trivial ?_; simp [go_sem]))
      all_goals
        refine vq_step (GSt.bump 44) ?_
        refine vq_mvP 20 40 (by simp [go_sem]; exact ⟨rfl, rfl, rfl, rfl⟩) (by simp) ?_
        refine vq_mvP 21 41 (by simp [go_sem]; exact ⟨rfl, rfl, rfl, rfl⟩) (by simp) ?_
        refine vq_mvB 40 0 42 (by simp [go_sem]; rfl) (by simp; exact ⟨rfl, rfl, rfl, rfl, rfl⟩) (by simp) ?_
        refine vq_mvB 40 1 43 (by simp [go_sem]; rfl) (by simp; exact ⟨rfl, rfl, rfl, rfl, rfl⟩) (by simp) ?_
        refine vq_mvB 40 2 44 (by simp [go_sem]; rfl) (by simp; exact ⟨rfl, rfl, rfl, rfl, rfl⟩) (by simp) ?_
        refine vq_mvB 40 3 45 (by simp [go_sem]; rfl) (by simp; exact ⟨rfl, rfl, rfl, rfl, rfl⟩) (by simp) ?_
        refine vq_mvB 41 0 46 (by simp [go_sem]; rfl) (by simp; exact ⟨rfl, rfl, rfl, rfl, rfl⟩) (by simp) ?_
        refine vq_mvB 41 1 47 (by simp [go_sem]; rfl) (by simp; exact ⟨rfl, rfl, rfl, rfl, rfl⟩) (by simp) ?_
        refine vq_mvB 41 2 48 (by simp [go_sem]; rfl) (by simp; exact ⟨rfl, rfl, rfl, rfl, rfl⟩) (by simp) ?_
        refine vq_mvB 41 3 49 (by simp [go_sem]; rfl) (by simp; exact ⟨rfl, rfl, rfl, rfl, rfl⟩) (by simp) ?_
        refine vq_done ?_
        simp [go_sem, eqS, JP]
    · rintro J M nx ⟨m0, m1, m2, m3, m4, m40, m41, m42, m43, m44, m45, m46, m47, m48, m49, rfl⟩
      simp [go_sem, m0, m1, m2, m3, m4, m40, m41, m42, m43, m44, m45, m46, m47, m48, m49]
      refine ⟨⟨by omega, by omega⟩, ⟨by omega, by omega⟩, ?_⟩
      refine GLoop_p T_ok (α := Nat) (fun k => [(6, .ptr 0 0 4 0), (7, .ptr 1 0 6 0), (10, .ptr 3 0 3 0), (13, .b true), (14, .i (g.levq q)), (107, .sl 62 4 0 2 none), (108, .i 2), (109, .i k)])
        (fun k M nx => k ≤ 2 ∧ 63 ≤ nx ∧ M 0 = some (.box [RuleG.rs g.nr g.r, ConG.rs g.nc g.c, WarG.rs g.nw g.w, MarkG.rs g.nm g.m]) ∧ M 1 = some (.box [.i q.p, .i q.r, .i q.l, .i q.w, .i q.t, q.ks]) ∧ M 3 = some (.box [.i c.p, .i c.q, .i c.u]) ∧
          M 62 = some (.vec 27 4 2 fun i j => ([SV.sl 42 8 0 (g.nr + 1) none, .sl 43 3 0 g.nc none, .sl 44 4 0 g.nw none, .sl 45 5 0 g.nm none, .sl 46 8 0 g.nr none, .sl 47 3 0 g.nc none, .sl 48 4 0 (g.nw + 1) none, .sl 49 5 0 g.nm none][i * 4 + j]?).getD (.r .any)) ∧
          (∃ G, M 42 = some (.vec 48 8 (g.nr + 1) G) ∧ ∀ i j, i < g.nr + 1 → j < 8 → G i j = .r (((g.addR r).r i).c j)) ∧ M 43 = some (.vec 65 3 g.nc fun i j => .r ((g.c i).c j)) ∧ M 44 = some (.vec 67 4 g.nw fun i j => .r ((g.w i).c j)) ∧ M 45 = some (.vec 69 5 g.nm fun i j => .r ((g.m i).c j)) ∧
          M 46 = some (.vec 48 8 g.nr fun i j => .r ((g.r i).c j)) ∧ M 47 = some (.vec 65 3 g.nc fun i j => .r ((g.c i).c j)) ∧ (∃ G, M 48 = some (.vec 67 4 (g.nw + 1) G) ∧ ∀ i j, i < g.nw + 1 → j < 4 → G i j = .r (((g.addW w).w i).c j)) ∧ M 49 = some (.vec 69 5 g.nm fun i j => .r ((g.m i).c j)))
        (fun k => 2 - k) 0 ?_ (by simp [go_sem, eqS]) ?_
      · simp [go_sem, m0, m1, m2, m3, m4, m40, m41, m42, m43, m44, m45, m46, m47, m48, m49]
        refine ⟨fun i j hi hj => ?_, fun i j hi hj => ?_⟩
        · rcases Nat.lt_or_ge i g.nr with h' | h'
          · simp [joined, RG.addR, h', SV.kill]
          · have : i = g.nr := by omega
            subst this
            rcases lt8 hj with rfl | rfl | rfl | rfl | rfl | rfl | rfl | rfl <;> simp [joined, RG.addR, SV.kill] <;> rfl
        · rcases Nat.lt_or_ge i g.nw with h' | h'
          · simp [joined, RG.addW, h', SV.kill]
          · have : i = g.nw := by omega
            subst this
            rcases (by omega : j = 0 ∨ j = 1 ∨ j = 2 ∨ j = 3) with rfl | rfl | rfl | rfl <;> simp [joined, RG.addW, SV.kill] <;> rfl
      · rintro k J M nx hnp ⟨hk, hnx, m0, m1, m3, m62, ⟨G, m42, hG⟩, m43, m44, m45, m46, m47, ⟨H, m48, hH⟩, m49⟩
        have nn : ∀ a : Nat, a < 63 → a ≠ nx ∧ nx ≠ a := fun a h => by omega
        rcases (by omega : k = 2 ∨ k = 0 ∨ k = 1) with rfl | rfl | rfl
        · simp [go_sem, m0, m1, m3]
          refine call_val (put43 g c h) rfl rfl ?_
          generalize he : g.cnE c = ce
          by_cases he0 : ce = 0
          rotate_left
          · simp [go_sem, he0]
          subst he0
          have hY := RG.putC_OK h he
          simp [go_sem, m0, m1, m3, nn]
          refine call_val (level29 (g.putC c) q hY hq) rfl rfl ?_
          have hv := ask_valid ha
          have e1 : ask (g.putC c) q = 0 := by unfold ask; rw [if_pos (RG.putC_valid he)]; exact hv.2
          have hnc := h.nc
          simp [go_sem, e1, m0, m1, m3, nn]
          refine GLoop_p T_ok (α := Nat) (fun k => [(10, .ptr 3 0 3 0), (13, .b true), (14, .i (g.levq q)), (28, .i ((g.putC c).levq q)), (29, .i 0), (30, .i (g.unt c k)), (151, ConG.rs g.nc g.c), (152, .i g.nc), (153, .i k)])
            (fun k M nx => k ≤ g.nc ∧ 63 ≤ nx ∧ M 3 = some (.box [.i c.p, .i c.q, .i c.u])) (fun k => g.nc - k) 0 ?_ (by simp [go_sem, eqS]; rfl) ?_
          · simp [go_sem, m3, nn]; omega
          clear m0 m1 m3 m62 m42 m43 m44 m45 m46 m47 m48 m49 hG hH nn
          rintro k J M nx hnp ⟨hk, hnx, m3⟩
          have nn : ∀ a : Nat, a < 63 → a ≠ nx ∧ nx ≠ a := fun a h => by omega
          by_cases hlt : k < g.nc
          · by_cases c1 : (g.c k).p = c.p
            · by_cases c2 : (g.c k).q = c.q
              · simp [go_sem, m3, nn, hlt, c1, c2]
                exact ⟨by omega, k + 1, by omega, ⟨by simp [RG.unt, c1, c2], by omega⟩, by omega, by omega⟩
              · simp [go_sem, m3, nn, hlt, c1, c2]
                exact ⟨by omega, k + 1, by omega, ⟨by simp [RG.unt, c1, c2], by omega⟩, by omega, by omega⟩
            · simp [go_sem, m3, nn, hlt, c1]
              exact ⟨by omega, k + 1, by omega, ⟨by simp [RG.unt, c1], by omega⟩, by omega, by omega⟩
          · have : k = g.nc := by omega
            subst this
            have hf : g.levq q ≤ (g.putC c).levq q ∨ c.u < g.unt c g.nc := by
              by_cases hu : c.u < g.unt c g.nc
              · exact .inr hu
              · exact .inl (grow_put ha he hu).2
            by_cases hm : g.levq q ≤ (g.putC c).levq q
            · simp [go_sem, m3, hm]
            · have hu : c.u < g.unt c g.nc := by omega
              simp [go_sem, m3, hm, hu]
        · have hOK : (g.addR r).OK := ⟨by simp only [RG.addR]; omega, h.nc, h.nw, h.nm, fun i hi => by
            simp only [RG.addR] at hi ⊢
            by_cases hi' : i < g.nr
            · rw [if_pos hi']; exact h.by' i hi'
            · rw [if_neg hi']; exact hrb⟩
          simp [go_sem, m0, m1, m3, m62, nn]
          refine call_lent (v := .tup [.i ((g.addR r).levq q), .i (ask (g.addR r) q)]) ?_ rfl ?_
          · simp [go_sem, m42, m43, m44, m45, nn]
            exact (level29 (g.addR r) q hOK hq).args ⟨RG.le_sv _ rfl rfl rfl rfl (fun i j hi hj => by rw [hG i j hi hj]; rfl) (fun _ _ _ _ => rfl) (fun _ _ _ _ => rfl) (fun _ _ _ _ => rfl), SV.le.rfl, trivial⟩
          rcases grow_ok (y := g.addR r) ha (g.addR_lev r q) with ⟨e1, e2⟩ | e1
          · have e3 : ¬ (g.addR r).levq q < g.levq q := by omega
            simp [go_sem, e1, e3, m0, m1, m3, m62, m42, m43, m44, m45, m46, m47, m48, m49, nn]
            exact ⟨1, by omega, rfl, by omega, by omega, hG, hH⟩
          · simp [go_sem, e1, m0, m1, m3, m62, m42, m43, m44, m45, m46, m47, m48, m49, nn]
            exact ⟨1, by omega, rfl, by omega, by omega, hG, hH⟩
        · have hOK : (g.addW w).OK := ⟨h.nr, h.nc, by simp only [RG.addW]; omega, h.nm, h.by'⟩
          simp [go_sem, m0, m1, m3, m62, nn]
          refine call_lent (v := .tup [.i ((g.addW w).levq q), .i (ask (g.addW w) q)]) ?_ rfl ?_
          · simp [go_sem, m46, m47, m48, m49, nn]
            exact (level29 (g.addW w) q hOK hq).args ⟨RG.le_sv _ rfl rfl rfl rfl (fun _ _ _ _ => rfl) (fun _ _ _ _ => rfl) (fun i j hi hj => by rw [hH i j hi hj]; rfl) (fun _ _ _ _ => rfl), SV.le.rfl, trivial⟩
          rcases grow_ok (y := g.addW w) ha (g.addW_lev w q) with ⟨e1, e2⟩ | e1
          · have e3 : ¬ (g.addW w).levq q < g.levq q := by omega
            simp [go_sem, e1, e3, m0, m1, m3, m62, m42, m43, m44, m45, m46, m47, m48, m49, nn]
            exact ⟨2, by omega, rfl, by omega, by omega, hG, hH⟩
          · simp [go_sem, e1, m0, m1, m3, m62, m42, m43, m44, m45, m46, m47, m48, m49, nn]
            exact ⟨2, by omega, rfl, by omega, by omega, hG, hH⟩
end Go.Gx.Rg
