/-
  The arguments of the laws of rights, as ghosts.
-/
import Derived.Test.YtaggojedpkddjaaRo
import Derived.Test.YtaggojedpkddjaaKs
set_option linter.unusedVariables false
set_option linter.unusedSimpArgs false
set_option maxRecDepth 20000
set_option maxHeartbeats 2000000
namespace Go.Gx.Rg
open Go.RowKit Go.WideShapes Go.ChangeShapes Go.Proofs Go.Proofs.Ytaggojedpkddjaa

abbrev csI : CS := .sc (.int .i64)
abbrev csRule : List CS := [csI, csI, csI, csI, csI, csI, csI, .sc (.int .u8)]
abbrev csI3 : List CS := [csI, csI, csI]
abbrev csI4 : List CS := [csI, csI, csI, csI]
abbrev csI5 : List CS := [csI, csI, csI, csI, csI]
abbrev slOf (l : List CS) : CS := .sl l.length fun j => l.getD j (.sc .bool)
theorem flat27 : flatT Try.prog 8 27 = some [slOf csRule, slOf csI3, slOf csI4, slOf csI5] := by kernel_rfl
theorem flat40 : flatT Try.prog 8 40 = some [csI, csI, csI, csI, csI, slOf [csI]] := by kernel_rfl
theorem flat25 : flatT Try.prog 8 25 = some [slOf csI5] := by kernel_rfl
theorem flat65 : flatT Try.prog 8 65 = some csI3 := by kernel_rfl
theorem flat67 : flatT Try.prog 8 67 = some csI4 := by kernel_rfl
theorem flat69 : flatT Try.prog 8 69 = some csI5 := by kernel_rfl
theorem flat48 : flatT Try.prog 8 48 = some csRule := by kernel_rfl

section
variable {W : World}
abbrev ZW (W : World) : Nat → Prop := fun b => b < W.heap.size
theorem one_vi {k : IntKind} {v : Value} (h : CSok W (.sc (.int k)) v) : v.oneCell' = true := by rw [ok_int h]; rfl
theorem rel_vi {Z : Nat → Prop} {v : Value} (h : CSok W csI v) : (RV.i (vi v)).rel Z W v := ok_int h
theorem rel_vu {Z : Nat → Prop} {k : IntKind} {v : Value} (h : CSok W (.sc (.int k)) v) : (RV.v (.int k (vi v))).rel Z W v := ok_int h

def rowR (f : Nat → Value) : RuleG := ⟨vi (f 0), vi (f 1), vi (f 2), vi (f 3), vi (f 4), vi (f 5), vi (f 6), vi (f 7)⟩
def rowC (f : Nat → Value) : ConG := ⟨vi (f 0), vi (f 1), vi (f 2)⟩
def rowW (f : Nat → Value) : WarG := ⟨vi (f 0), vi (f 1), vi (f 2), vi (f 3)⟩
def rowM (f : Nat → Value) : MarkG := ⟨vi (f 0), vi (f 1), vi (f 2), vi (f 3), vi (f 4)⟩
theorem rule_rows {v : Value} (h : CSok W (slOf csRule) v) : ∃ (n : Nat) (r : Nat → RuleG), (∀ i, i < n → (r i).byte) ∧ ∀ σ, (RuleG.rs n r).rel σ (ZW W) W v := by
  obtain ⟨n, cv, _, h1, h2⟩ := rows_of h
  refine ⟨n, fun i => rowR (cv i), fun i hi => ok_u8 (h1 i 7 hi (by decide)), fun σ => h2 _ (fun i j hi hj => ?_) σ⟩
  have hc := h1 i j hi hj
  match j, hj, hc with
  | 0, _, hc => exact ⟨one_vi hc, rel_vi hc⟩
  | 1, _, hc => exact ⟨one_vi hc, rel_vi hc⟩
  | 2, _, hc => exact ⟨one_vi hc, rel_vi hc⟩
  | 3, _, hc => exact ⟨one_vi hc, rel_vi hc⟩
  | 4, _, hc => exact ⟨one_vi hc, rel_vi hc⟩
  | 5, _, hc => exact ⟨one_vi hc, rel_vi hc⟩
  | 6, _, hc => exact ⟨one_vi hc, rel_vi hc⟩
  | 7, _, hc => exact ⟨one_vi hc, rel_vu hc⟩
  | j + 8, hj, _ => exact absurd hj (by simp)
theorem con_rows {v : Value} (h : CSok W (slOf csI3) v) : ∃ (n : Nat) (r : Nat → ConG), ∀ σ, (ConG.rs n r).rel σ (ZW W) W v := by
  obtain ⟨n, cv, _, h1, h2⟩ := rows_of h
  refine ⟨n, fun i => rowC (cv i), fun σ => h2 _ (fun i j hi hj => ?_) σ⟩
  have hc := h1 i j hi hj
  match j, hj, hc with
  | 0, _, hc => exact ⟨one_vi hc, rel_vi hc⟩
  | 1, _, hc => exact ⟨one_vi hc, rel_vi hc⟩
  | 2, _, hc => exact ⟨one_vi hc, rel_vi hc⟩
  | j + 3, hj, _ => exact absurd hj (by simp)
theorem war_rows {v : Value} (h : CSok W (slOf csI4) v) : ∃ (n : Nat) (r : Nat → WarG), ∀ σ, (WarG.rs n r).rel σ (ZW W) W v := by
  obtain ⟨n, cv, _, h1, h2⟩ := rows_of h
  refine ⟨n, fun i => rowW (cv i), fun σ => h2 _ (fun i j hi hj => ?_) σ⟩
  have hc := h1 i j hi hj
  match j, hj, hc with
  | 0, _, hc => exact ⟨one_vi hc, rel_vi hc⟩
  | 1, _, hc => exact ⟨one_vi hc, rel_vi hc⟩
  | 2, _, hc => exact ⟨one_vi hc, rel_vi hc⟩
  | 3, _, hc => exact ⟨one_vi hc, rel_vi hc⟩
  | j + 4, hj, _ => exact absurd hj (by simp)
theorem mark_rows {v : Value} (h : CSok W (slOf csI5) v) : ∃ (n : Nat) (r : Nat → MarkG), ∀ σ, (MarkG.rs n r).rel σ (ZW W) W v := by
  obtain ⟨n, cv, _, h1, h2⟩ := rows_of h
  refine ⟨n, fun i => rowM (cv i), fun σ => h2 _ (fun i j hi hj => ?_) σ⟩
  have hc := h1 i j hi hj
  match j, hj, hc with
  | 0, _, hc => exact ⟨one_vi hc, rel_vi hc⟩
  | 1, _, hc => exact ⟨one_vi hc, rel_vi hc⟩
  | 2, _, hc => exact ⟨one_vi hc, rel_vi hc⟩
  | 3, _, hc => exact ⟨one_vi hc, rel_vi hc⟩
  | 4, _, hc => exact ⟨one_vi hc, rel_vi hc⟩
  | j + 5, hj, _ => exact absurd hj (by simp)
theorem int_rows {v : Value} (h : CSok W (slOf [csI]) v) : ∃ (n : Nat) (r : Nat → Int), ∀ σ, (SV.r (.rs 1 n fun i _ => .i (r i))).rel σ (ZW W) W v := by
  obtain ⟨n, cv, _, h1, h2⟩ := rows_of h
  refine ⟨n, fun i => vi (cv i 0), fun σ => h2 _ (fun i j hi hj => ?_) σ⟩
  have hj0 : j = 0 := by simp at hj; omega
  subst hj0
  have hc := h1 i 0 hi hj
  exact ⟨one_vi hc, rel_vi hc⟩
theorem sl_one {k : Nat} {fs : Nat → CS} {v : Value} (h : CSok W (.sl k fs) v) : v.oneCell' = true := by
  obtain ⟨A, n, c, rfl, _⟩ := h; rfl

section
variable {H : Type} {enc : TypeId × Value → H} {base : Nat} {spare : Nat → Bool} {held : Bool}
theorem und27 : ∃ fs, Try.prog.underlying 27 = some (.struct fs) := ⟨_, Try.underlying27⟩
theorem rights_arg {v : Value} {d : DataW H} {p : List MemPlace} {r : Reach} {b0 : Nat} (hv : Value.okWide Try.prog W r b0 27 v) (h : DataW.Trod enc Try.prog W base spare held 27 v d p) :
    ∃ g : RG, g.By ∧ ∀ σ, g.sv.rel σ (ZW W) W v := by
  obtain ⟨cs, rfl, _⟩ := okWide_struct Try.underlying27 hv
  have hc := open_flat flat27 h
  obtain ⟨cs⟩ := cs
  simp only [Value.cells] at hc
  obtain ⟨v0, _, e, h0, v1, _, rfl, h1, v2, _, rfl, h2, v3, _, rfl, h3, rfl⟩ := hc
  cases e
  obtain ⟨nr, r, hb, hr⟩ := rule_rows h0
  obtain ⟨nc, c, hc⟩ := con_rows h1
  obtain ⟨nw, w, hw⟩ := war_rows h2
  obtain ⟨nm, m, hm⟩ := mark_rows h3
  refine ⟨⟨nr, r, nc, c, nw, w, nm, m⟩, hb, fun σ => ⟨[v0, v1, v2, v3], rfl, fun v hv => ?_, v0, _, rfl, hr σ, v1, _, rfl, hc σ, v2, _, rfl, hw σ, v3, _, rfl, hm σ, rfl⟩⟩
  simp at hv
  rcases hv with rfl | rfl | rfl | rfl
  · exact sl_one h0
  · exact sl_one h1
  · exact sl_one h2
  · exact sl_one h3
theorem query_arg {v : Value} {d : DataW H} {p : List MemPlace} {r : Reach} {b0 : Nat} (hv : Value.okWide Try.prog W r b0 40 v) (h : DataW.Trod enc Try.prog W base spare held 40 v d p) :
    ∃ q : QG, ∀ σ, q.sv.rel σ (ZW W) W v := by
  obtain ⟨cs, rfl, _⟩ := okWide_struct Try.underlying40 hv
  have hc := open_flat flat40 h
  obtain ⟨cs⟩ := cs
  simp only [Value.cells] at hc
  obtain ⟨v0, _, e, h0, v1, _, rfl, h1, v2, _, rfl, h2, v3, _, rfl, h3, v4, _, rfl, h4, v5, _, rfl, h5, rfl⟩ := hc
  cases e
  obtain ⟨n, k, hk⟩ := int_rows h5
  refine ⟨⟨vi v0, vi v1, vi v2, vi v3, vi v4, n, k⟩, fun σ => ⟨[v0, v1, v2, v3, v4, v5], rfl, fun v hv => ?_, v0, _, rfl, ok_int h0, v1, _, rfl, ok_int h1, v2, _, rfl, ok_int h2, v3, _, rfl, ok_int h3, v4, _, rfl, ok_int h4, v5, _, rfl, hk σ, rfl⟩⟩
  simp at hv
  rcases hv with rfl | rfl | rfl | rfl | rfl | rfl
  · exact one_vi h0
  · exact one_vi h1
  · exact one_vi h2
  · exact one_vi h3
  · exact one_vi h4
  · exact sl_one h5
theorem marks_arg {v : Value} {d : DataW H} {p : List MemPlace} {r : Reach} {b0 : Nat} (hv : Value.okWide Try.prog W r b0 25 v) (h : DataW.Trod enc Try.prog W base spare held 25 v d p) :
    ∃ (n : Nat) (m : Nat → MarkG), ∀ σ, (MarkG.rs n m).rel σ (ZW W) W v := by
  have hone : v.cells.toList = [v] := by
    simp only [Value.okWide, Try.underlying25, Cell.okWide] at hv
    cases v <;> simp_all [Cell.ok, Value.cells]
  have hc := open_flat flat25 h
  rw [hone] at hc
  obtain ⟨v0, _, e, h0, rfl⟩ := hc
  cases e
  obtain ⟨n, m, hm⟩ := mark_rows h0
  exact ⟨n, m, hm⟩
theorem int_arg {v : Value} {d : DataW H} {p : List MemPlace} {r : Reach} {b0 : Nat} (hv : Value.okWide Try.prog W r b0 3 v) (h : DataW.Trod enc Try.prog W base spare held 3 v d p) :
    ∃ n : Int, v = .int .i64 n ∧ -9223372036854775808 ≤ n ∧ n ≤ 9223372036854775807 := by
  obtain ⟨n, rfl, _, _, hw⟩ := open_int Try.underlying3 hv h
  refine ⟨n, rfl, ?_⟩
  simp [Lit.wf, IntKind.min, IntKind.max, IntKind.bits, IntKind.signed] at hw
  omega
theorem rule_arg {v : Value} {d : DataW H} {p : List MemPlace} {r : Reach} {b0 : Nat} (hv : Value.okWide Try.prog W r b0 48 v) (h : DataW.Trod enc Try.prog W base spare held 48 v d p) :
    ∃ c : RuleG, c.byte ∧ ∀ σ, c.sv.rel σ (ZW W) W v := by
  obtain ⟨cs, rfl, _⟩ := okWide_struct Try.underlying48 hv
  have hc := open_flat flat48 h
  obtain ⟨cs⟩ := cs
  simp only [Value.cells] at hc
  obtain ⟨v0, _, e, h0, v1, _, rfl, h1, v2, _, rfl, h2, v3, _, rfl, h3, v4, _, rfl, h4, v5, _, rfl, h5, v6, _, rfl, h6, v7, _, rfl, h7, rfl⟩ := hc
  cases e
  refine ⟨⟨vi v0, vi v1, vi v2, vi v3, vi v4, vi v5, vi v6, vi v7⟩, ok_u8 h7, fun σ => ⟨[v0, v1, v2, v3, v4, v5, v6, v7], rfl, fun v hv => ?_, v0, _, rfl, ok_int h0, v1, _, rfl, ok_int h1, v2, _, rfl, ok_int h2, v3, _, rfl, ok_int h3, v4, _, rfl, ok_int h4, v5, _, rfl, ok_int h5, v6, _, rfl, ok_int h6, v7, _, rfl, ok_int h7, rfl⟩⟩
  simp at hv
  rcases hv with rfl | rfl | rfl | rfl | rfl | rfl | rfl | rfl
  · exact one_vi h0
  · exact one_vi h1
  · exact one_vi h2
  · exact one_vi h3
  · exact one_vi h4
  · exact one_vi h5
  · exact one_vi h6
  · exact one_vi h7
theorem con_arg {v : Value} {d : DataW H} {p : List MemPlace} {r : Reach} {b0 : Nat} (hv : Value.okWide Try.prog W r b0 65 v) (h : DataW.Trod enc Try.prog W base spare held 65 v d p) :
    ∃ c : ConG, ∀ σ, c.sv.rel σ (ZW W) W v := by
  obtain ⟨cs, rfl, _⟩ := okWide_struct Try.underlying65 hv
  have hc := open_flat flat65 h
  obtain ⟨cs⟩ := cs
  simp only [Value.cells] at hc
  obtain ⟨v0, _, e, h0, v1, _, rfl, h1, v2, _, rfl, h2, rfl⟩ := hc
  cases e
  refine ⟨⟨vi v0, vi v1, vi v2⟩, fun σ => ⟨[v0, v1, v2], rfl, fun v hv => ?_, v0, _, rfl, ok_int h0, v1, _, rfl, ok_int h1, v2, _, rfl, ok_int h2, rfl⟩⟩
  simp at hv
  rcases hv with rfl | rfl | rfl
  · exact one_vi h0
  · exact one_vi h1
  · exact one_vi h2
theorem war_arg {v : Value} {d : DataW H} {p : List MemPlace} {r : Reach} {b0 : Nat} (hv : Value.okWide Try.prog W r b0 67 v) (h : DataW.Trod enc Try.prog W base spare held 67 v d p) :
    ∃ c : WarG, ∀ σ, c.sv.rel σ (ZW W) W v := by
  obtain ⟨cs, rfl, _⟩ := okWide_struct Try.underlying67 hv
  have hc := open_flat flat67 h
  obtain ⟨cs⟩ := cs
  simp only [Value.cells] at hc
  obtain ⟨v0, _, e, h0, v1, _, rfl, h1, v2, _, rfl, h2, v3, _, rfl, h3, rfl⟩ := hc
  cases e
  refine ⟨⟨vi v0, vi v1, vi v2, vi v3⟩, fun σ => ⟨[v0, v1, v2, v3], rfl, fun v hv => ?_, v0, _, rfl, ok_int h0, v1, _, rfl, ok_int h1, v2, _, rfl, ok_int h2, v3, _, rfl, ok_int h3, rfl⟩⟩
  simp at hv
  rcases hv with rfl | rfl | rfl | rfl
  · exact one_vi h0
  · exact one_vi h1
  · exact one_vi h2
  · exact one_vi h3
theorem mark_arg {v : Value} {d : DataW H} {p : List MemPlace} {r : Reach} {b0 : Nat} (hv : Value.okWide Try.prog W r b0 69 v) (h : DataW.Trod enc Try.prog W base spare held 69 v d p) :
    ∃ c : MarkG, ∀ σ, c.sv.rel σ (ZW W) W v := by
  obtain ⟨cs, rfl, _⟩ := okWide_struct Try.underlying69 hv
  have hc := open_flat flat69 h
  obtain ⟨cs⟩ := cs
  simp only [Value.cells] at hc
  obtain ⟨v0, _, e, h0, v1, _, rfl, h1, v2, _, rfl, h2, v3, _, rfl, h3, v4, _, rfl, h4, rfl⟩ := hc
  cases e
  refine ⟨⟨vi v0, vi v1, vi v2, vi v3, vi v4⟩, fun σ => ⟨[v0, v1, v2, v3, v4], rfl, fun v hv => ?_, v0, _, rfl, ok_int h0, v1, _, rfl, ok_int h1, v2, _, rfl, ok_int h2, v3, _, rfl, ok_int h3, v4, _, rfl, ok_int h4, rfl⟩⟩
  simp at hv
  rcases hv with rfl | rfl | rfl | rfl | rfl
  · exact one_vi h0
  · exact one_vi h1
  · exact one_vi h2
  · exact one_vi h3
  · exact one_vi h4
end
end
theorem own_ : ownKnob Try.prog.godebug = none := by kernel_rfl
theorem laidOut_ : laidOutB Try.prog = true := by kernel_rfl
end Go.Gx.Rg
