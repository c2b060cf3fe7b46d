/-
  IndexChanges.
-/
import Derived.Test.YtdnblflhlklfnaaKn
set_option linter.unusedVariables false
set_option linter.unusedSimpArgs false
set_option maxRecDepth 20000
set_option maxHeartbeats 4000000
namespace Go.Gx.Ix
open Go.RowKit Go.Proofs Go.Proofs.Ytdnblflhlklfnaa

/-- What a leaf owes: slots and memory, told by a state. -/
def JX {α : Type} (S : α → List (Nat × SV)) (φ : α → Mem → Nat → Prop) : GQ := fun e E M nx => match e with
  | .normal => ∃ z, eqS E (S z) ∧ φ z M nx
  | _ => False
@[go_sem] theorem JX_normal {α : Type} (S : α → List (Nat × SV)) (φ : α → Mem → Nat → Prop) {E : Env} {M : Mem} {nx : Nat} : JX S φ .normal E M nx = ∃ z, eqS E (S z) ∧ φ z M nx := (rfl)
/-- A region, told behind it by a state. -/
theorem GDraw_cutx {P : Program} {T : Tab} {N : Cfg} {k : List It} {Q : GQ} {E : Env} {M : Mem} {nx : Nat} {α : Type} (S : α → List (Nat × SV)) (φ : α → Mem → Nat → Prop) {id : Nat} {all : Array Oper} (h : GDraw P T N id all [] (JX S φ) E M nx) (hk : ∀ z J M nx, φ z M nx → GK P T N k Q .normal (updL J (S z)) M nx) : GDraw P T N id all k Q E M nx := by
  refine GW.mono h fun e E M nx hq => ?_
  match e, hq with
  | .normal, hq =>
    obtain ⟨z, h1, h2⟩ : ∃ z, eqS E (S z) ∧ φ z M nx := hq
    have := hk z E M nx h2
    rwa [eqS_upd h1] at this
/-- An index in own memory, or the zero index. -/
def XO (lo : Nat) (M : Mem) (hi : Nat) (X : IxG) (S : SV) : Prop := IxO lo M hi X S ∨ (S = nilX ∧ X = IxG.zero)
theorem XO.mem {lo hi : Nat} {M M' : Mem} {X : IxG} {S : SV} (h : XO lo M hi X S) (hM : ∀ q, lo ≤ q → q < hi → M' q = M q) : XO lo M' hi X S := h.imp (fun h => h.mem hM) id
theorem XO.of {lo hi : Nat} {M : Mem} {X : IxG} {S : SV} {E : Int} (h : if E = 0 then IxO lo M hi X S else S = nilX) : XO lo M hi (if E = 0 then X else IxG.zero) S := by
  by_cases e : E = 0
  · rw [if_pos e] at h ⊢; exact .inl h
  · rw [if_neg e] at h ⊢; exact .inr ⟨h, rfl⟩
theorem XO.view {lo hi : Nat} {M : Mem} {X : IxG} {S : SV} (h : XO lo M hi X S) {K : SV → Prop} (hK : ∀ s, s.le X.sv → K s) : gview M S K := by
  rcases h with h | ⟨rfl, rfl⟩
  · exact h.view hK
  · exact hK _ nil_zero
theorem XO.cells {lo hi : Nat} {M : Mem} {X : IxG} {S : SV} (h : XO lo M hi X S) : ∃ c0 c1 c2 c3 c4 c5 c6 c7 c8, S = .agg [c0, c1, c2, c3, c4, c5, c6, c7, c8] ∧ allOne [c0, c1, c2, c3, c4, c5, c6, c7, c8] = true := by
  rcases h with h | ⟨rfl, rfl⟩
  · obtain ⟨rm, r, pos, rfl, _⟩ := h.ex
    exact ⟨_, _, _, _, _, _, _, _, _, rfl, rfl⟩
  · exact ⟨_, _, _, _, _, _, _, _, _, rfl, rfl⟩
theorem spoil21N {np nx : Nat} {M : Mem} (hnp : np ≤ nx) {K : SV → Mem → Nat → (SV → SV) → Prop} (hK : ∀ M' nx', nx ≤ nx' → (∀ q, q < nx → M' q = M q) → K (.tup []) M' nx' (SV.trim nx)) : CallK Try.prog np 21 [nilX] M nx K := by
  refine callK_in T_ok Try.func21 rfl (by kernel_rfl) (Nat.le_of_ble_eq_true rfl) rfl rfl nx hnp (Nat.le_refl _) ?_
  simp [go_sem]
  refine GLoop_p T_ok (α := Nat) (fun k => [(1, .ptr nx 0 9 0), (2, .i k)]) (fun k M' nx' => k = 0 ∧ nx' = nx + 1 ∧ M' nx = some nil9 ∧ ∀ q, q < nx → M' q = M q) (fun _ => 0) 0 ⟨rfl, rfl, by simp [go_sem], fun q hq => by rw [upd_ne _ _ (by omega)]⟩ (by simp [go_sem]) ?_
  rintro k J M1 nx1 hN ⟨rfl, rfl, h1, h2⟩
  simp [go_sem, h1]
  refine GLoop_p T_ok (α := Nat) (fun k => [(1, .ptr nx 0 9 0), (3, .i k)]) (fun k M' nx' => k ≤ 8 ∧ nx' = nx + 1 ∧ M' nx = some nil9 ∧ ∀ q, q < nx → M' q = M q) (fun k => 8 - k) 0 ⟨by omega, rfl, h1, h2⟩ (by simp [go_sem]) ?_
  clear h1 h2 hN J
  rintro j J M1 nx1 hN ⟨hj, rfl, h1, h2⟩
  rcases (show j = 0 ∨ j = 1 ∨ j = 2 ∨ j = 3 ∨ j = 4 ∨ j = 5 ∨ j = 6 ∨ j = 7 ∨ j = 8 by omega) with rfl | rfl | rfl | rfl | rfl | rfl | rfl | rfl | rfl
  rotate_left 8
  · simp [go_sem, h1]
    exact hK _ _ (by omega) h2
  all_goals simp [go_sem, h1]
  all_goals
    refine GLoop_p T_ok (α := Nat) (fun k => [(1, .ptr nx 0 9 0), (3, _), (4, .i k)]) (fun k M' nx' => k = 0 ∧ nx' = nx + 1 ∧ M' nx = some nil9 ∧ ∀ q, q < nx → M' q = M q) (fun _ => 0) 0 ⟨rfl, rfl, h1, h2⟩ (by simp [go_sem]; rfl) ?_
    clear h1 h2 hN J
    rintro k J M1 nx1 hN ⟨rfl, rfl, h1, h2⟩
    simp [go_sem, h1]
    first | exact ⟨1, by omega, rfl, by omega, h2⟩ | exact ⟨2, by omega, rfl, by omega, h2⟩ | exact ⟨3, by omega, rfl, by omega, h2⟩ | exact ⟨4, by omega, rfl, by omega, h2⟩ | exact ⟨5, by omega, rfl, by omega, h2⟩ | exact ⟨6, by omega, rfl, by omega, h2⟩ | exact ⟨7, by omega, rfl, by omega, h2⟩ | exact ⟨8, by omega, rfl, by omega, h2⟩
theorem spoil21X {lo hi np nx : Nat} {M : Mem} {X : IxG} {S : SV} (h : XO lo M hi X S) (hsm : X.Sm) (hbd : X.Bd) (hi' : hi ≤ nx) (hnp : np ≤ nx) {K : SV → Mem → Nat → (SV → SV) → Prop}
    (hK : ∀ M' nx', nx ≤ nx' → (∀ q, q < nx → q < lo ∨ hi ≤ q → M' q = M q) → K (.tup []) M' nx' (SV.trim nx)) : CallK Try.prog np 21 [S] M nx K := by
  rcases h with h | ⟨rfl, rfl⟩
  · exact spoil21K h hsm hbd hi' hnp hK
  · exact spoil21N hnp fun M' nx' h1 h2 => hK M' nx' h1 fun q hq _ => h2 q hq
theorem zero_sm : IxG.zero.Sm := ⟨by simp [IxG.zero], fun j _ => ⟨by simp [IxG.zero], fun p hp => by simp [IxG.zero] at hp⟩⟩
theorem zero_bd : IxG.zero.Bd := ⟨fun a ha => by simp [IxG.zero] at ha, fun j _ P hP => by simp [IxG.zero] at hP⟩
/-- A box of an index is a box still. -/
theorem Kept.box9 {A : Nat → Prop} {R R' : Option Reg} (h : Kept A R R') (hR : ∃ l, R = some (.box l) ∧ l.length = 9) : ∃ l, R' = some (.box l) ∧ l.length = 9 := by
  refine h (fun R => ∃ l, R = some (.box l) ∧ l.length = 9) ?_ ?_ hR
  · rintro s R _ ⟨l, rfl, hl⟩
    exact ⟨_, rfl, by rw [killL_map, List.length_map]; exact hl⟩
  · rintro s Rf R _ ⟨l, rfl, hl⟩
    exact ⟨_, rfl, by rw [fzL_map, List.length_map]; exact hl⟩
theorem ofG_bdN {l : List MbG} (h : ∀ a ∈ l, okN a.id = true) : (ofG l).Bd := by
  have hms : ∀ a ∈ srtM l, 0 ≤ a.id ∧ a.id ≤ 1073741824 := fun a ha => by
    have := h a ((srtM_spec l).1.mem_iff.1 ha)
    simpa [okN, btw] using this
  refine ⟨hms, fun j _ P hP v hv => ?_⟩
  obtain ⟨b, hb, rfl, _⟩ := (ofG_post l j).to P hP v hv
  exact hms b hb
theorem add_smbd (x : IxG) (m : MbG) : (addX x m).Sm ∧ (addX x m).Bd := by
  unfold addX
  by_cases e : addE x m = 0
  · rw [if_pos e]
    have hv : validX x = true := by
      cases hv : validX x
      · rw [addE, if_pos hv] at e; cases e
      · rfl
    have ho : okN m.id = true := by
      cases ho : okN m.id
      · rw [addE, if_neg (by rw [hv]; simp), if_pos ho] at e; cases e
      · rfl
    have hl := validX_len hv
    refine ⟨ofG_sm (by rw [List.length_append, List.length_singleton]; omega), ofG_bdN fun a ha => ?_⟩
    rcases List.mem_append.1 ha with ha | ha
    · exact (valid_eq hv).1.num a ha
    · rw [List.mem_singleton.1 ha]; exact ho
  · rw [if_neg e]; exact ⟨zero_sm, zero_bd⟩
theorem rem_smbd (x : IxG) (t : Int) : (remX x t).Sm ∧ (remX x t).Bd := by
  unfold remX
  by_cases e : remE x t = 0
  · rw [if_pos e]
    have hv : validX x = true := by
      cases hv : validX x
      · rw [remE, if_pos hv] at e; cases e
      · rfl
    have hl := validX_len hv
    refine ⟨ofG_sm (by unfold remL; rw [List.length_append, List.length_take, List.length_drop]; omega), ofG_bdN fun a ha => ?_⟩
    rcases List.mem_append.1 ha with ha | ha
    · exact (valid_eq hv).1.num a (List.mem_of_mem_take ha)
    · exact (valid_eq hv).1.num a (List.mem_of_mem_drop ha)
  · rw [if_neg e]; exact ⟨zero_sm, zero_bd⟩
theorem mrg_smbd (x y : IxG) : (mrgX x y).Sm ∧ (mrgX x y).Bd := by
  unfold mrgX
  by_cases e : mrgE x y = 0
  · rw [if_pos e]
    have hvv : (validX x && validX y) = true := by
      cases hv : validX x && validX y
      · rw [mrgE, if_pos hv] at e; cases e
      · rfl
    obtain ⟨hv, hv'⟩ := Bool.and_eq_true_iff.1 hvv
    have hl := validX_len hv
    have hl' := validX_len hv'
    refine ⟨ofG_sm (by rw [List.length_append]; omega), ofG_bdN fun a ha => ?_⟩
    rcases List.mem_append.1 ha with ha | ha
    · exact (valid_eq hv).1.num a ha
    · exact (valid_eq hv').1.num a ha
  · rw [if_neg e]; exact ⟨zero_sm, zero_bd⟩
/-- The boxes ahead of the first change. -/
structure Bx2 (x y : IxG) (m : MbG) (z : Nat × Nat) (M : Mem) (nx : Nat) : Prop where
  nx : nx = 5
  hz : z = (3, 4) ∨ z = (4, 3)
  h0 : M 0 = some (.box (ixC x))
  h1 : M 1 = some (.box (ixC y))
  h2 : M 2 = some (.box [.i m.id, .w m.x.c, .w m.x.m])
  hp : M z.1 = some (.box (ixC x))
  hq : M z.2 = some (.box (ixC y))
theorem law4 (x y : IxG) (m : MbG) (id shards : Int) : Pure Try.prog 4 [x.sv, y.sv, m.sv, .i id, .i shards] (· = .b true) := by
  refine pure_of_GC T_ok Try.func4 rfl (by kernel_rfl) (Nat.le_of_ble_eq_true rfl) rfl rfl ?_
  have hg := great15 x
  have hg' := great15 y
  simp [go_sem, sv_ixC] at hg hg' ⊢
  refine call_val hg rfl rfl ?_
  cases hgr : grB x
  rotate_left
  · simp [go_sem]
  simp [go_sem]
  refine call_val hg' rfl rfl ?_
  cases hgr' : grB y
  rotate_left
  · simp [go_sem]
  have hsm := grB_sm hgr
  have hsm' := grB_sm hgr'
  simp [go_sem]
  have ht := twin23 x hsm
  have ht' := twin23 y hsm'
  rw [sv_ixC] at ht ht'
  refine GDraw_cutx (α := Nat × Nat) (fun z => [(3, .i id), (4, .i shards), (5, .ptr 0 0 9 0), (6, .ptr 1 0 9 0), (7, .ptr 2 0 3 0), (10, .b false), (11, .ptr z.1 0 9 0), (12, .ptr z.2 0 9 0)]) (Bx2 x y m) ?_ ?_
  · refine GDraw_l (t := (.take 0 (.take 2 (.alt 1 [2, 0] (.alt 3 [2] (.alt 4 [] (.alt 5 [] (.alt 6 [] (.alt 7 [] (.done []) .nil) .nil) .nil) (.alt 5 [] (.alt 4 [] (.alt 6 [] (.alt 7 [] (.done []) .nil) .nil) .nil) .nil)) (.alt 4 [2] (.alt 3 [2] (.alt 5 [] (.alt 6 [] (.alt 7 [] (.done []) .nil) .nil) .nil) (.alt 5 [2] (.alt 3 [2] (.alt 6 [] (.alt 7 [] (.done []) .nil) .nil) .nil) .nil)) (.alt 5 [2] (.alt 3 [2] (.alt 4 [] (.alt 6 [] (.alt 7 [] (.done []) .nil) .nil) .nil) (.alt 4 [2] (.alt 3 [2] (.alt 6 [] (.alt 7 [] (.done []) .nil) .nil) .nil) .nil)) .nil))) (.alt 4 [2, 0] (.alt 1 [2, 0] (.alt 3 [2] (.alt 5 [] (.alt 6 [] (.alt 7 [] (.done []) .nil) .nil) .nil) (.alt 5 [2] (.alt 3 [2] (.alt 6 [] (.alt 7 [] (.done []) .nil) .nil) .nil) .nil)) (.alt 5 [2, 0] (.alt 1 [2, 0] (.alt 3 [2] (.alt 6 [] (.alt 7 [] (.done []) .nil) .nil) .nil) .nil) .nil)) (.alt 5 [2, 0] (.alt 1 [2, 0] (.alt 3 [2] (.alt 4 [] (.alt 6 [] (.alt 7 [] (.done []) .nil) .nil) .nil) (.alt 4 [2] (.alt 3 [2] (.alt 6 [] (.alt 7 [] (.done []) .nil) .nil) .nil) .nil)) (.alt 4 [2, 0] (.alt 1 [2, 0] (.alt 3 [2] (.alt 6 [] (.alt 7 [] (.done []) .nil) .nil) .nil) .nil) .nil)) .nil)))))) T_ok (by kernel_rfl) (by kernel_rfl) (by kernel_rfl) (fun _ _ _ _ h => h) ?_
    simp [go_sem]
    repeat' (first | refine And.intro ?_ ?_ | (refine call_val ht rfl rfl ?_; simp [go_sem]) | (refine call_val ht' rfl rfl ?_; simp [go_sem]))
    all_goals first | exact ⟨3, 4, ⟨rfl, rfl⟩, rfl, .inl rfl, by simp [go_sem], by simp [go_sem], by simp [go_sem], by simp [go_sem], by simp [go_sem]⟩ | exact ⟨4, 3, ⟨rfl, rfl⟩, rfl, .inr rfl, by simp [go_sem], by simp [go_sem], by simp [go_sem], by simp [go_sem], by simp [go_sem]⟩
  rintro ⟨p, q⟩ J M1 nx1 hz
  obtain ⟨rfl, hpq, a0, a1, a2, ap, aq⟩ := hz
  have hpq : p < 5 ∧ q < 5 ∧ 2 < p ∧ 2 < q ∧ p ≠ q := by
    rcases hpq with e | e <;> (injection e with e1 e2; omega)
  obtain ⟨p5, q5, p2, q2, pq⟩ := hpq
  have p0 : ¬ p = 0 := by omega
  have p1 : ¬ p = 1 := by omega
  have p2' : ¬ p = 2 := by omega
  have q0 : ¬ q = 0 := by omega
  have q1 : ¬ q = 1 := by omega
  have q2' : ¬ q = 2 := by omega
  simp [go_sem, a0, a1, a2, ap, aq]
  refine add24K x hsm m (Nat.zero_le _) (fun S1 M2 nx2 g1 g2 g3 => ?_)
  have b0 : M2 0 = some (.box (ixC x)) := by
    have := g3 0 (by omega)
    rw [a0] at this
    exact this.eq (fun _ => rfl) (fun _ _ => rfl)
  have b1 : M2 1 = some (.box (ixC y)) := by
    have := g3 1 (by omega)
    rw [a1] at this
    exact this.eq (fun _ => rfl) (fun _ _ => rfl)
  have b2 : M2 2 = some (.box ([.i m.id, .w m.x.c, .w m.x.m])) := by
    have := g3 2 (by omega)
    rw [a2] at this
    exact this.eq (fun _ => rfl) (fun _ _ => rfl)
  have bp : M2 p = some (.box (ixC x)) := by
    have := g3 p (by omega)
    rw [ap] at this
    exact this.eq (fun _ => rfl) (fun _ _ => rfl)
  have bq : M2 q = some (.box (ixC y)) := by
    have := g3 q (by omega)
    rw [aq] at this
    exact this.eq (fun _ => rfl) (fun _ _ => rfl)
  have hX1 : XO 5 M2 nx2 (addX x m) S1 := XO.of g2
  obtain ⟨X1, hX1e⟩ : ∃ X1, addX x m = X1 := ⟨_, rfl⟩
  have hX1p : X1.Sm ∧ X1.Bd := hX1e ▸ add_smbd x m
  have hr1 := add25 x hsm m
  rw [hX1e] at hX1 hr1
  rw [sv_ixC, sv_ixC] at hr1
  clear g2 g3 a0 a1 a2 ap aq
  obtain ⟨c0, c1, c2, c3, c4, c5, c6, c7, c8, rfl, hone⟩ := hX1.cells
  have w0 : ¬ nx2 = 0 := by omega
  have w1 : ¬ nx2 = 1 := by omega
  have w2 : ¬ nx2 = 2 := by omega
  have w3 : ¬ nx2 = p := by omega
  have w4 : ¬ nx2 = q := by omega
  have w5 : ¬ 0 = nx2 := by omega
  have w6 : ¬ 1 = nx2 := by omega
  have w7 : ¬ 2 = nx2 := by omega
  have w8 : ¬ p = nx2 := by omega
  have w9 : ¬ q = nx2 := by omega
  simp [go_sem] at hone
  simp [go_sem, b0, b1, b2, bp, bq, hone, p5, q5, w0, w1, w2, w3, w4, w5, w6, w7, w8, w9]
  refine call_val hr1 rfl rfl ?_
  simp [go_sem, b0, b1, b2, bp, bq, hone, p5, q5, w0, w1, w2, w3, w4, w5, w6, w7, w8, w9]
  have hs1 := same18 X1 X1 hX1p.1
  rw [eqB_self] at hs1
  refine call_lent (v := .b true) ((hX1.mem (M' := upd (upd (upd (upd M2 nx2 _) nx2 _) (nx2 + 1) _) (nx2 + 1) _) fun r h1 h2 => by simp only [upd_app]; rw [if_neg (by omega), if_neg (by omega), if_neg (by omega), if_neg (by omega)]).view fun s hs => ?_) rfl ?_
  · exact hs1.args ⟨hs, SV.le.rfl, trivial⟩
  simp [go_sem]
  refine spoil21X (hX1.mem (M' := upd (upd (upd (upd M2 nx2 _) nx2 _) (nx2 + 1) _) (nx2 + 1) _) fun r h1 h2 => by simp only [upd_app]; rw [if_neg (by omega), if_neg (by omega), if_neg (by omega), if_neg (by omega)]) hX1p.1 hX1p.2 (by omega) (Nat.zero_le _) fun M3 nx3 g3 g4 => ?_
  simp only [upd_app] at g4
  have d0 : M3 0 = some (.box (ixC x)) := by rw [g4 0 (by omega) (by omega)]; rw [if_neg (by omega), if_neg (by omega), if_neg (by omega), if_neg (by omega)]; exact b0
  have d1 : M3 1 = some (.box (ixC y)) := by rw [g4 1 (by omega) (by omega)]; rw [if_neg (by omega), if_neg (by omega), if_neg (by omega), if_neg (by omega)]; exact b1
  have d2 : M3 2 = some (.box [.i m.id, .w m.x.c, .w m.x.m]) := by rw [g4 2 (by omega) (by omega)]; rw [if_neg (by omega), if_neg (by omega), if_neg (by omega), if_neg (by omega)]; exact b2
  have dp : M3 p = some (.box (ixC x)) := by rw [g4 p (by omega) (by omega)]; rw [if_neg (by omega), if_neg (by omega), if_neg (by omega), if_neg (by omega)]; exact bp
  have dq : M3 q = some (.box (ixC y)) := by rw [g4 q (by omega) (by omega)]; rw [if_neg (by omega), if_neg (by omega), if_neg (by omega), if_neg (by omega)]; exact bq
  have dA := g4 nx2 (by omega) (by omega)
  have dB := g4 (nx2 + 1) (by omega) (by omega)
  simp at dA dB
  have dlA : [c0, c1, c2, c3, c4, c5, c6, c7, c8].length = 9 := rfl
  have dlB : (ixC X1).length = 9 := rfl
  have v0 : ¬ nx2 + 1 = 0 := by omega
  have v1 : ¬ nx2 + 1 = 1 := by omega
  have v2 : ¬ nx2 + 1 = 2 := by omega
  have v3 : ¬ nx2 + 1 = p := by omega
  have v4 : ¬ nx2 + 1 = q := by omega
  have v5 : ¬ 0 = nx2 + 1 := by omega
  have v6 : ¬ 1 = nx2 + 1 := by omega
  have v7 : ¬ 2 = nx2 + 1 := by omega
  have v8 : ¬ p = nx2 + 1 := by omega
  have v9 : ¬ q = nx2 + 1 := by omega
  have u0 : p < nx2 + 1 + 1 := by omega
  have u1 : q < nx2 + 1 + 1 := by omega
  clear g4 b0 b1 b2 bp bq hone hs1 hr1
  simp [go_sem, d0, d1, d2, dp, dq, u0, u1, p5, q5, w0, w1, w2, w3, w4, w5, w6, w7, w8, w9, v0, v1, v2, v3, v4, v5, v6, v7, v8, v9]
  refine remove26K x hsm id (Nat.zero_le _) (fun S2 N2 n2 g1 g2 g3 => ?_)
  have e0 : N2 0 = some (.box (ixC x)) := by
    have := g3 0 (by omega)
    rw [d0] at this
    exact this.eq (fun _ => rfl) (fun _ _ => rfl)
  have e1 : N2 1 = some (.box (ixC y)) := by
    have := g3 1 (by omega)
    rw [d1] at this
    exact this.eq (fun _ => rfl) (fun _ _ => rfl)
  have e2 : N2 2 = some (.box ([.i m.id, .w m.x.c, .w m.x.m])) := by
    have := g3 2 (by omega)
    rw [d2] at this
    exact this.eq (fun _ => rfl) (fun _ _ => rfl)
  have ep : N2 p = some (.box (ixC x)) := by
    have := g3 p (by omega)
    rw [dp] at this
    exact this.eq (fun _ => rfl) (fun _ _ => rfl)
  have eq : N2 q = some (.box (ixC y)) := by
    have := g3 q (by omega)
    rw [dq] at this
    exact this.eq (fun _ => rfl) (fun _ _ => rfl)
  obtain ⟨lA2, hA2, hAl2⟩ := (g3 nx2 (by omega)).box9 ⟨_, dA, dlA⟩
  obtain ⟨lB2, hB2, hBl2⟩ := (g3 (nx2 + 1) (by omega)).box9 ⟨_, dB, dlB⟩
  have hdA2 : List.drop 9 lA2 = [] := List.drop_eq_nil_of_le (by omega)
  have hdB2 : List.drop 9 lB2 = [] := List.drop_eq_nil_of_le (by omega)
  have hX2 : XO nx3 N2 n2 (remX x id) S2 := XO.of g2
  have hX2p := rem_smbd x id
  have hr2 := remove27 x hsm id
  obtain ⟨X2, hX2e⟩ : ∃ X, remX x id = X := ⟨_, rfl⟩
  rw [hX2e] at hX2 hX2p hr2
  simp only [sv_ixC] at hr2
  clear g2 g3
  obtain ⟨c0, c1, c2, c3, c4, c5, c6, c7, c8, rfl, hone⟩ := hX2.cells
  have hone2 := hone
  simp [go_sem] at hone
  have le0 : 0 < nx3 := by omega
  have le1 : 1 < nx3 := by omega
  have le2 : 2 < nx3 := by omega
  have le3 : p < nx3 := by omega
  have le4 : q < nx3 := by omega
  have le5 : nx2 < nx3 := by omega
  have le6 : nx2 + 1 < nx3 := by omega
  have me0 : 0 < n2 := by omega
  have me1 : 1 < n2 := by omega
  have me2 : 2 < n2 := by omega
  have me3 : p < n2 := by omega
  have me4 : q < n2 := by omega
  have me5 : nx2 < n2 := by omega
  have me6 : nx2 + 1 < n2 := by omega
  simp [go_sem, e0, e1, e2, ep, eq, hA2, hAl2, hB2, hBl2, hdA2, hdB2, hone, le0, le1, le2, le3, le4, le5, le6, me0, me1, me2, me3, me4, me5, me6, u0, u1, p5, q5, w0, w1, w2, w3, w4, w5, w6, w7, w8, w9, v0, v1, v2, v3, v4, v5, v6, v7, v8, v9]
  refine call_val hr2 rfl rfl ?_
  simp [go_sem, e0, e1, e2, ep, eq, hA2, hAl2, hB2, hBl2, hdA2, hdB2, hone, le0, le1, le2, le3, le4, le5, le6, me0, me1, me2, me3, me4, me5, me6, u0, u1, p5, q5, w0, w1, w2, w3, w4, w5, w6, w7, w8, w9, v0, v1, v2, v3, v4, v5, v6, v7, v8, v9]
  have hs2 := same18 X2 X2 hX2p.1
  rw [eqB_self] at hs2
  refine call_lent (v := .b true) ((hX2.mem (M' := upd (upd N2 nx2 _) (nx2 + 1) _) fun r h1 h2 => by simp only [upd_app]; rw [if_neg (by omega), if_neg (by omega)]).view fun s hs => ?_) rfl ?_
  · exact hs2.args ⟨hs, SV.le.rfl, trivial⟩
  simp [go_sem, e0, e1, e2, ep, eq, hA2, hAl2, hB2, hBl2, hdA2, hdB2, hone, le0, le1, le2, le3, le4, le5, le6, me0, me1, me2, me3, me4, me5, me6, u0, u1, p5, q5, w0, w1, w2, w3, w4, w5, w6, w7, w8, w9, v0, v1, v2, v3, v4, v5, v6, v7, v8, v9]
  refine spoil21X (hX2.mem (M' := upd (upd N2 nx2 _) (nx2 + 1) _) fun r h1 h2 => by simp only [upd_app]; rw [if_neg (by omega), if_neg (by omega)]) hX2p.1 hX2p.2 (by omega) (Nat.zero_le _) fun M2' n2' g3 g4 => ?_
  simp only [upd_app] at g4
  have f0 : M2' 0 = some (.box (ixC x)) := by rw [g4 0 (by omega) (by omega)]; rw [if_neg (by omega), if_neg (by omega)]; exact e0
  have f1 : M2' 1 = some (.box (ixC y)) := by rw [g4 1 (by omega) (by omega)]; rw [if_neg (by omega), if_neg (by omega)]; exact e1
  have f2 : M2' 2 = some (.box ([.i m.id, .w m.x.c, .w m.x.m])) := by rw [g4 2 (by omega) (by omega)]; rw [if_neg (by omega), if_neg (by omega)]; exact e2
  have fp : M2' p = some (.box (ixC x)) := by rw [g4 p (by omega) (by omega)]; rw [if_neg (by omega), if_neg (by omega)]; exact ep
  have fq : M2' q = some (.box (ixC y)) := by rw [g4 q (by omega) (by omega)]; rw [if_neg (by omega), if_neg (by omega)]; exact eq
  have fA := g4 nx2 (by omega) (by omega)
  have fB := g4 (nx2 + 1) (by omega) (by omega)
  simp at fA fB
  have flA : [c0, c1, c2, c3, c4, c5, c6, c7, c8].length = 9 := rfl
  have flB : (ixC X2).length = 9 := rfl
  have mf0 : 0 < n2' := by omega
  have mf1 : 1 < n2' := by omega
  have mf2 : 2 < n2' := by omega
  have mf3 : p < n2' := by omega
  have mf4 : q < n2' := by omega
  have mf5 : nx2 < n2' := by omega
  have mf6 : nx2 + 1 < n2' := by omega
  clear g4 e0 e1 e2 ep eq hone hone2 hs2 hr2 hA2 hAl2 hB2 hBl2
  simp [go_sem, f0, f1, f2, fp, fq, le0, le1, le2, le3, le4, le5, le6, me0, me1, me2, me3, me4, me5, me6, mf0, mf1, mf2, mf3, mf4, mf5, mf6, u0, u1, p5, q5, w0, w1, w2, w3, w4, w5, w6, w7, w8, w9, v0, v1, v2, v3, v4, v5, v6, v7, v8, v9]
  refine merge28K x y hsm hsm' (Nat.zero_le _) (fun S3 N3 n3 g1 g2 g3 => ?_)
  have aa0 : N3 0 = some (.box (ixC x)) := by
    have := g3 0 (by omega)
    rw [f0] at this
    exact this.eq (fun _ => rfl) (fun _ _ => rfl)
  have aa1 : N3 1 = some (.box (ixC y)) := by
    have := g3 1 (by omega)
    rw [f1] at this
    exact this.eq (fun _ => rfl) (fun _ _ => rfl)
  have aa2 : N3 2 = some (.box ([.i m.id, .w m.x.c, .w m.x.m])) := by
    have := g3 2 (by omega)
    rw [f2] at this
    exact this.eq (fun _ => rfl) (fun _ _ => rfl)
  have aap : N3 p = some (.box (ixC x)) := by
    have := g3 p (by omega)
    rw [fp] at this
    exact this.eq (fun _ => rfl) (fun _ _ => rfl)
  have aaq : N3 q = some (.box (ixC y)) := by
    have := g3 q (by omega)
    rw [fq] at this
    exact this.eq (fun _ => rfl) (fun _ _ => rfl)
  obtain ⟨lA3, hA3, hAl3⟩ := (g3 nx2 (by omega)).box9 ⟨_, fA, flA⟩
  obtain ⟨lB3, hB3, hBl3⟩ := (g3 (nx2 + 1) (by omega)).box9 ⟨_, fB, flB⟩
  have hdA3 : List.drop 9 lA3 = [] := List.drop_eq_nil_of_le (by omega)
  have hdB3 : List.drop 9 lB3 = [] := List.drop_eq_nil_of_le (by omega)
  have hX3 : XO n2' N3 n3 (mrgX x y) S3 := XO.of g2
  have hX3p := mrg_smbd x y
  have hr3 := merge29 x y hsm hsm'
  obtain ⟨X3, hX3e⟩ : ∃ X, mrgX x y = X := ⟨_, rfl⟩
  rw [hX3e] at hX3 hX3p hr3
  simp only [sv_ixC] at hr3
  clear g2 g3
  obtain ⟨c0, c1, c2, c3, c4, c5, c6, c7, c8, rfl, hone⟩ := hX3.cells
  have hone2 := hone
  simp [go_sem] at hone
  have laa0 : 0 < n2' := by omega
  have laa1 : 1 < n2' := by omega
  have laa2 : 2 < n2' := by omega
  have laa3 : p < n2' := by omega
  have laa4 : q < n2' := by omega
  have laa5 : nx2 < n2' := by omega
  have laa6 : nx2 + 1 < n2' := by omega
  have maa0 : 0 < n3 := by omega
  have maa1 : 1 < n3 := by omega
  have maa2 : 2 < n3 := by omega
  have maa3 : p < n3 := by omega
  have maa4 : q < n3 := by omega
  have maa5 : nx2 < n3 := by omega
  have maa6 : nx2 + 1 < n3 := by omega
  simp [go_sem, aa0, aa1, aa2, aap, aaq, hA3, hAl3, hB3, hBl3, hdA3, hdB3, hone, le0, le1, le2, le3, le4, le5, le6, me0, me1, me2, me3, me4, me5, me6, mf0, mf1, mf2, mf3, mf4, mf5, mf6, laa0, laa1, laa2, laa3, laa4, laa5, laa6, maa0, maa1, maa2, maa3, maa4, maa5, maa6, u0, u1, p5, q5, w0, w1, w2, w3, w4, w5, w6, w7, w8, w9, v0, v1, v2, v3, v4, v5, v6, v7, v8, v9]
  refine call_val hr3 rfl rfl ?_
  simp [go_sem, aa0, aa1, aa2, aap, aaq, hA3, hAl3, hB3, hBl3, hdA3, hdB3, hone, le0, le1, le2, le3, le4, le5, le6, me0, me1, me2, me3, me4, me5, me6, mf0, mf1, mf2, mf3, mf4, mf5, mf6, laa0, laa1, laa2, laa3, laa4, laa5, laa6, maa0, maa1, maa2, maa3, maa4, maa5, maa6, u0, u1, p5, q5, w0, w1, w2, w3, w4, w5, w6, w7, w8, w9, v0, v1, v2, v3, v4, v5, v6, v7, v8, v9]
  have hs3 := same18 X3 X3 hX3p.1
  rw [eqB_self] at hs3
  refine call_lent (v := .b true) ((hX3.mem (M' := upd (upd N3 nx2 _) (nx2 + 1) _) fun r h1 h2 => by simp only [upd_app]; rw [if_neg (by omega), if_neg (by omega)]).view fun s hs => ?_) rfl ?_
  · exact hs3.args ⟨hs, SV.le.rfl, trivial⟩
  simp [go_sem, aa0, aa1, aa2, aap, aaq, hA3, hAl3, hB3, hBl3, hdA3, hdB3, hone, le0, le1, le2, le3, le4, le5, le6, me0, me1, me2, me3, me4, me5, me6, mf0, mf1, mf2, mf3, mf4, mf5, mf6, laa0, laa1, laa2, laa3, laa4, laa5, laa6, maa0, maa1, maa2, maa3, maa4, maa5, maa6, u0, u1, p5, q5, w0, w1, w2, w3, w4, w5, w6, w7, w8, w9, v0, v1, v2, v3, v4, v5, v6, v7, v8, v9]
  refine spoil21X (hX3.mem (M' := upd (upd N3 nx2 _) (nx2 + 1) _) fun r h1 h2 => by simp only [upd_app]; rw [if_neg (by omega), if_neg (by omega)]) hX3p.1 hX3p.2 (by omega) (Nat.zero_le _) fun M3' n3' g3 g4 => ?_
  simp only [upd_app] at g4
  have ab0 : M3' 0 = some (.box (ixC x)) := by rw [g4 0 (by omega) (by omega)]; rw [if_neg (by omega), if_neg (by omega)]; exact aa0
  have ab1 : M3' 1 = some (.box (ixC y)) := by rw [g4 1 (by omega) (by omega)]; rw [if_neg (by omega), if_neg (by omega)]; exact aa1
  have ab2 : M3' 2 = some (.box ([.i m.id, .w m.x.c, .w m.x.m])) := by rw [g4 2 (by omega) (by omega)]; rw [if_neg (by omega), if_neg (by omega)]; exact aa2
  have abp : M3' p = some (.box (ixC x)) := by rw [g4 p (by omega) (by omega)]; rw [if_neg (by omega), if_neg (by omega)]; exact aap
  have abq : M3' q = some (.box (ixC y)) := by rw [g4 q (by omega) (by omega)]; rw [if_neg (by omega), if_neg (by omega)]; exact aaq
  have abA := g4 nx2 (by omega) (by omega)
  have abB := g4 (nx2 + 1) (by omega) (by omega)
  simp at abA abB
  have ablA : [c0, c1, c2, c3, c4, c5, c6, c7, c8].length = 9 := rfl
  have ablB : (ixC X3).length = 9 := rfl
  have mab0 : 0 < n3' := by omega
  have mab1 : 1 < n3' := by omega
  have mab2 : 2 < n3' := by omega
  have mab3 : p < n3' := by omega
  have mab4 : q < n3' := by omega
  have mab5 : nx2 < n3' := by omega
  have mab6 : nx2 + 1 < n3' := by omega
  clear g4 aa0 aa1 aa2 aap aaq hone hone2 hs3 hr3 hA3 hAl3 hB3 hBl3
  simp [go_sem, ab0, ab1, ab2, abp, abq, le0, le1, le2, le3, le4, le5, le6, me0, me1, me2, me3, me4, me5, me6, mf0, mf1, mf2, mf3, mf4, mf5, mf6, laa0, laa1, laa2, laa3, laa4, laa5, laa6, maa0, maa1, maa2, maa3, maa4, maa5, maa6, mab0, mab1, mab2, mab3, mab4, mab5, mab6, u0, u1, p5, q5, w0, w1, w2, w3, w4, w5, w6, w7, w8, w9, v0, v1, v2, v3, v4, v5, v6, v7, v8, v9]
  refine split30K x hsm shards (Nat.zero_le _) (fun S4 N4 n4 g1 g2 g3 => ?_)
  have ac0 : N4 0 = some (.box (ixC x)) := by
    have := g3 0 (by omega)
    rw [ab0] at this
    exact this.eq (fun _ => rfl) (fun _ _ => rfl)
  have ac1 : N4 1 = some (.box (ixC y)) := by
    have := g3 1 (by omega)
    rw [ab1] at this
    exact this.eq (fun _ => rfl) (fun _ _ => rfl)
  have acp : N4 p = some (.box (ixC x)) := by
    have := g3 p (by omega)
    rw [abp] at this
    exact this.eq (fun _ => rfl) (fun _ _ => rfl)
  have acq : N4 q = some (.box (ixC y)) := by
    have := g3 q (by omega)
    rw [abq] at this
    exact this.eq (fun _ => rfl) (fun _ _ => rfl)
  have lad0 : 0 < n3' := by omega
  have lad1 : 1 < n3' := by omega
  have lad2 : 2 < n3' := by omega
  have lad3 : p < n3' := by omega
  have lad4 : q < n3' := by omega
  have lad5 : nx2 < n3' := by omega
  have lad6 : nx2 + 1 < n3' := by omega
  have lae0 : 0 < n4 := by omega
  have lae1 : 1 < n4 := by omega
  have lae2 : 2 < n4 := by omega
  have lae3 : p < n4 := by omega
  have lae4 : q < n4 := by omega
  have lae5 : nx2 < n4 := by omega
  have lae6 : nx2 + 1 < n4 := by omega
  have hr4 := split31 x hsm shards
  have hsx := same18 x x hsm
  have hsy := same18 y y hsm'
  rw [eqB_self] at hsx hsy
  simp only [sv_ixC] at hr4 hsx hsy
  by_cases hE : spE x shards = 0
  · rw [if_pos hE] at g2 hr4
    rw [hE] at hr4 ⊢
    obtain ⟨po, lo, hi, g, rfl, hpt⟩ := g2
    have hFp : ∀ i, (ofG (ptM x.ms shards.toNat x.ms.length i)).Sm ∧ (ofG (ptM x.ms shards.toNat x.ms.length i)).Bd := fun i => by
      have hv : validX x = true := by
        cases hv : validX x
        · rw [spE, if_pos hv] at hE; cases hE
        · rfl
      have hl := validX_len hv
      exact ⟨ofG_sm (by have := ptM_len x.ms shards.toNat x.ms.length i; omega), ofG_bdN fun a ha => (valid_eq hv).1.num a (List.mem_of_mem_take (List.mem_filter.1 ha).1)⟩
    have hnn : shards.toNat ≤ 16 := by
      unfold spE at hE
      by_cases e : validX x = false
      · rw [if_pos e] at hE; cases hE
      · rw [if_neg e] at hE
        by_cases e2 : shards < 1 ∨ 16 < shards
        · rw [if_pos e2] at hE; cases hE
        · omega
    generalize shards.toNat = n at *
    obtain ⟨F, hF⟩ : ∃ F : Nat → IxG, (fun i => ofG (ptM x.ms n x.ms.length i)) = F := ⟨_, rfl⟩
    have hFp : ∀ i, (F i).Sm ∧ (F i).Bd := fun i => by rw [← hF]; exact hFp i
    rw [hF] at hpt hr4
    simp [go_sem, ac0, ac1, acp, acq, le0, le1, le2, le3, le4, le5, le6, me0, me1, me2, me3, me4, me5, me6, mf0, mf1, mf2, mf3, mf4, mf5, mf6, laa0, laa1, laa2, laa3, laa4, laa5, laa6, maa0, maa1, maa2, maa3, maa4, maa5, maa6, mab0, mab1, mab2, mab3, mab4, mab5, mab6, lad0, lad1, lad2, lad3, lad4, lad5, lad6, lae0, lae1, lae2, lae3, lae4, lae5, lae6, u0, u1, p5, q5, w0, w1, w2, w3, w4, w5, w6, w7, w8, w9, v0, v1, v2, v3, v4, v5, v6, v7, v8, v9]
    refine call_val hr4 rfl rfl ?_
    simp [go_sem, ac0, ac1, acp, acq, le0, le1, le2, le3, le4, le5, le6, me0, me1, me2, me3, me4, me5, me6, mf0, mf1, mf2, mf3, mf4, mf5, mf6, laa0, laa1, laa2, laa3, laa4, laa5, laa6, maa0, maa1, maa2, maa3, maa4, maa5, maa6, mab0, mab1, mab2, mab3, mab4, mab5, mab6, lad0, lad1, lad2, lad3, lad4, lad5, lad6, lae0, lae1, lae2, lae3, lae4, lae5, lae6, u0, u1, p5, q5, w0, w1, w2, w3, w4, w5, w6, w7, w8, w9, v0, v1, v2, v3, v4, v5, v6, v7, v8, v9]
    refine GLoop_p T_ok (α := Nat) (fun k => [(5, .ptr 0 0 9 0), (6, .ptr 1 0 9 0), (10, .b false), (11, .ptr p 0 9 0), (12, .ptr q 0 9 0), (17, .sl po 9 0 n none), (18, xls n F), (19, .i k)])
      (fun k M nx => k ≤ n ∧ n4 ≤ nx ∧ M 0 = some (.box (ixC x)) ∧ M 1 = some (.box (ixC y)) ∧ M p = some (.box (ixC x)) ∧ M q = some (.box (ixC y)) ∧ PtO n3' M n4 po k n F lo hi g) (fun k => n - k) 0 ⟨Nat.zero_le _, Nat.le_refl _, ac0, ac1, acp, acq, hpt⟩ (by simp [go_sem, le0, le1, le2, le3, le4, le5, le6, me0, me1, me2, me3, me4, me5, me6, mf0, mf1, mf2, mf3, mf4, mf5, mf6, laa0, laa1, laa2, laa3, laa4, laa5, laa6, maa0, maa1, maa2, maa3, maa4, maa5, maa6, mab0, mab1, mab2, mab3, mab4, mab5, mab6, lad0, lad1, lad2, lad3, lad4, lad5, lad6, lae0, lae1, lae2, lae3, lae4, lae5, lae6, u0, u1, p5, q5, w0, w1, w2, w3, w4, w5, w6, w7, w8, w9, v0, v1, v2, v3, v4, v5, v6, v7, v8, v9]) ?_
    rintro k J M nx hN ⟨hk, hnx, z0, z1, zp, zq, hP⟩
    have hpo := hP.p1
    by_cases hkn : k < n
    · obtain ⟨a1, a2, a3, l, hl, hx⟩ := hP.at_ k (Nat.le_refl _) hkn
      have hX : XO (lo k) M (hi k) (F k) (.agg l) := .inl hx
      obtain ⟨c0, c1, c2, c3, c4, c5, c6, c7, c8, hle, hone⟩ := hX.cells
      injection hle with hle
      subst hle
      have j0 : g k 0 = c0 := hl 0 (by omega)
      have j1 : g k 1 = c1 := hl 1 (by omega)
      have j2 : g k 2 = c2 := hl 2 (by omega)
      have j3 : g k 3 = c3 := hl 3 (by omega)
      have j4 : g k 4 = c4 := hl 4 (by omega)
      have j5 : g k 5 = c5 := hl 5 (by omega)
      have j6 : g k 6 = c6 := hl 6 (by omega)
      have j7 : g k 7 = c7 := hl 7 (by omega)
      have j8 : g k 8 = c8 := hl 8 (by omega)
      have hkn' : (k : Int) < n := by omega
      have hrow := hP.row
      have hpn : po < nx := by omega
      have hs := same18 (F k) (F k) (hFp k).1
      rw [eqB_self] at hs
      simp [go_sem, hkn, hkn', hrow, j0, j1, j2, j3, j4, j5, j6, j7, j8]
      refine GDraw_l (t := (.take 0 (.take 1 (.take 2 (.take 3 (.take 4 (.take 5 (.take 6 (.take 7 (.alt 8 [7, 6, 5, 4, 3, 2, 1, 0] (.take 9 (.done [9, 6, 5, 4, 2, 1, 0])) .nil)))))))))) T_ok (by kernel_rfl) (by kernel_rfl) (by kernel_rfl) (fun _ _ _ _ h => h) ?_
      simp [go_sem, hkn, hkn', hrow, j0, j1, j2, j3, j4, j5, j6, j7, j8]
      refine call_lent (v := .b true) (hX.view fun s hs' => hs.args ⟨hs', SV.le.rfl, trivial⟩) rfl ?_
      simp [go_sem, hkn, hkn', hrow, hpn, j0, j1, j2, j3, j4, j5, j6, j7, j8]
      refine spoil21X hX (hFp k).1 (hFp k).2 (by omega) (Nat.zero_le _) fun M' nx' h1 h2 => ?_
      have y0 : M' 0 = some (.box (ixC x)) := by rw [h2 0 (by omega) (by omega)]; exact z0
      have y1 : M' 1 = some (.box (ixC y)) := by rw [h2 1 (by omega) (by omega)]; exact z1
      have yp : M' p = some (.box (ixC x)) := by rw [h2 p (by omega) (by omega)]; exact zp
      have yq : M' q = some (.box (ixC y)) := by rw [h2 q (by omega) (by omega)]; exact zq
      have pnx : p < nx := by omega
      have qnx : q < nx := by omega
      have onx : 0 < nx := by omega
      have inx : 1 < nx := by omega
      simp [go_sem, hpn, pnx, qnx, onx, inx]
      refine ⟨by omega, k + 1, by omega, by omega, by omega, by omega, y0, y1, yp, yq, ⟨hP.p1, by rw [h2 po (by omega) (by omega)]; exact hP.row, fun i hi' hin => ?_, fun i j hi' hij hj => hP.dis i j (by omega) hij hj⟩⟩
      obtain ⟨b1, b2, b3, l', hl', hx'⟩ := hP.at_ i (by omega) hin
      have hd := hP.dis k i (Nat.le_refl _) (by omega) hin
      exact ⟨b1, b2, b3, l', hl', hx'.mem fun r r1 r2 => h2 r (by omega) (by omega)⟩
    · have hke : k = n := by omega
      subst hke
      simp [go_sem, z0, z1, zp, zq]
      refine call_val hsx rfl rfl ?_
      simp [go_sem, z0, z1, zp, zq]
      refine call_val hsy rfl rfl ?_
      simp [go_sem]
  · rw [if_neg hE] at g2 hr4
    subst g2
    generalize spE x shards = e at *
    simp [go_sem, ac0, ac1, acp, acq, le0, le1, le2, le3, le4, le5, le6, me0, me1, me2, me3, me4, me5, me6, mf0, mf1, mf2, mf3, mf4, mf5, mf6, laa0, laa1, laa2, laa3, laa4, laa5, laa6, maa0, maa1, maa2, maa3, maa4, maa5, maa6, mab0, mab1, mab2, mab3, mab4, mab5, mab6, lad0, lad1, lad2, lad3, lad4, lad5, lad6, lae0, lae1, lae2, lae3, lae4, lae5, lae6, u0, u1, p5, q5, w0, w1, w2, w3, w4, w5, w6, w7, w8, w9, v0, v1, v2, v3, v4, v5, v6, v7, v8, v9]
    refine call_val hr4 rfl rfl ?_
    simp [go_sem, ac0, ac1, acp, acq, le0, le1, le2, le3, le4, le5, le6, me0, me1, me2, me3, me4, me5, me6, mf0, mf1, mf2, mf3, mf4, mf5, mf6, laa0, laa1, laa2, laa3, laa4, laa5, laa6, maa0, maa1, maa2, maa3, maa4, maa5, maa6, mab0, mab1, mab2, mab3, mab4, mab5, mab6, lad0, lad1, lad2, lad3, lad4, lad5, lad6, lae0, lae1, lae2, lae3, lae4, lae5, lae6, u0, u1, p5, q5, w0, w1, w2, w3, w4, w5, w6, w7, w8, w9, v0, v1, v2, v3, v4, v5, v6, v7, v8, v9]
    refine GLoop_p T_ok (α := Nat) (fun k => [(5, .ptr 0 0 9 0), (6, .ptr 1 0 9 0), (10, .b false), (11, .ptr p 0 9 0), (12, .ptr q 0 9 0), (17, nilS), (19, .i k)])
      (fun k M nx => k = 0 ∧ M 0 = some (.box (ixC x)) ∧ M 1 = some (.box (ixC y)) ∧ M p = some (.box (ixC x)) ∧ M q = some (.box (ixC y))) (fun k => 0) 0 ⟨rfl, ac0, ac1, acp, acq⟩ (by simp [go_sem, le0, le1, le2, le3, le4, le5, le6, me0, me1, me2, me3, me4, me5, me6, mf0, mf1, mf2, mf3, mf4, mf5, mf6, laa0, laa1, laa2, laa3, laa4, laa5, laa6, maa0, maa1, maa2, maa3, maa4, maa5, maa6, mab0, mab1, mab2, mab3, mab4, mab5, mab6, lad0, lad1, lad2, lad3, lad4, lad5, lad6, lae0, lae1, lae2, lae3, lae4, lae5, lae6, u0, u1, p5, q5, w0, w1, w2, w3, w4, w5, w6, w7, w8, w9, v0, v1, v2, v3, v4, v5, v6, v7, v8, v9]) ?_
    rintro k J M nx hN ⟨rfl, z0, z1, zp, zq⟩
    simp [go_sem, z0, z1, zp, zq]
    refine call_val hsx rfl rfl ?_
    simp [go_sem, z0, z1, zp, zq]
    refine call_val hsy rfl rfl ?_
    simp [go_sem]
end Go.Gx.Ix
