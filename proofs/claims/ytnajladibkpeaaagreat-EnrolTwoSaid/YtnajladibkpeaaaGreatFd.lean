/-
  The arguments of the laws of enrolment, as ghosts.
-/
import Derived.Test.YtnajladibkpeaaaGreatU6
set_option linter.unusedVariables false
set_option linter.unusedSimpArgs false
set_option maxRecDepth 20000
set_option maxHeartbeats 2000000
namespace Go.Gx
open Go.RowKit Go.WideShapes Go.ChangeShapes Go.Proofs Go.Proofs.YtnajladibkpeaaaGreat

abbrev csI : CS := .sc (.int .i64)
abbrev csB : CS := .sc .bool
abbrev slOf (l : List CS) : CS := .sl l.length fun j => l.getD j (.sc .bool)
theorem flat26 : flatT Tryz.prog 8 28 = some [slOf [csI, csB], slOf [csI, csI, csB], slOf [csI, csI, slOf [csI, csB]]] := by kernel_rfl

section
variable {W : World}
abbrev ZW (W : World) : Nat → Prop := fun b => b < W.heap.size
def vb : Value → Bool
  | .bool b => b
  | _ => false
theorem ok_bool {v : Value} (h : CSok W csB v) : v = .bool (vb v) := by
  obtain ⟨b, rfl⟩ := h; rfl
theorem one_vi {k : IntKind} {v : Value} (h : CSok W (.sc (.int k)) v) : v.oneCell' = true := by rw [ok_int h]; rfl
theorem one_vb {v : Value} (h : CSok W csB v) : v.oneCell' = true := by rw [ok_bool h]; rfl
theorem rel_vi {Z : Nat → Prop} {v : Value} (h : CSok W csI v) : (RV.i (vi v)).rel Z W v := ok_int h
theorem rel_vb {Z : Nat → Prop} {v : Value} (h : CSok W csB v) : (RV.v (.bool (vb v))).rel Z W v := ok_bool h
theorem sl_one {k : Nat} {fs : Nat → CS} {v : Value} (h : CSok W (.sl k fs) v) : v.oneCell' = true := by
  obtain ⟨A, n, c, rfl, _⟩ := h; rfl
theorem rec_rows {v : Value} (h : CSok W (slOf [csI, csB]) v) : ∃ (n : Nat) (r : Nat → RcG), ∀ σ, (SV.r (.rs 2 n fun i j => (r i).c j)).rel σ (ZW W) W v := by
  obtain ⟨n, cv, _, h1, h2⟩ := rows_of h
  refine ⟨n, fun i => ⟨vi (cv i 0), vb (cv i 1)⟩, fun σ => h2 _ (fun i j hi hj => ?_) σ⟩
  have hc := h1 i j hi hj
  match j, hj, hc with
  | 0, _, hc => exact ⟨one_vi hc, rel_vi hc⟩
  | 1, _, hc => exact ⟨one_vb hc, rel_vb hc⟩
  | j + 2, hj, _ => exact absurd hj (by simp)
theorem link_rows {v : Value} (h : CSok W (slOf [csI, csI, csB]) v) : ∃ (n : Nat) (r : Nat → LkG), ∀ σ, (SV.r (.rs 3 n fun i j => (r i).c j)).rel σ (ZW W) W v := by
  obtain ⟨n, cv, _, h1, h2⟩ := rows_of h
  refine ⟨n, fun i => ⟨vi (cv i 0), vi (cv i 1), vb (cv i 2)⟩, fun σ => h2 _ (fun i j hi hj => ?_) σ⟩
  have hc := h1 i j hi hj
  match j, hj, hc with
  | 0, _, hc => exact ⟨one_vi hc, rel_vi hc⟩
  | 1, _, hc => exact ⟨one_vi hc, rel_vi hc⟩
  | 2, _, hc => exact ⟨one_vb hc, rel_vb hc⟩
  | j + 3, hj, _ => exact absurd hj (by simp)
theorem vote_rows {v : Value} (h : CSok W (slOf [csI, csB]) v) : ∃ (n : Nat) (r : Nat → VtG), (RV.rs 2 n fun i j => (r i).c j).rel (ZW W) W v := by
  obtain ⟨n, cv, _, h1, h2⟩ := rows_of h
  refine ⟨n, fun i => ⟨vi (cv i 0), vb (cv i 1)⟩, h2 _ (fun i j hi hj => ?_) (fun _ => none)⟩
  have hc := h1 i j hi hj
  match j, hj, hc with
  | 0, _, hc => exact ⟨one_vi hc, rel_vi hc⟩
  | 1, _, hc => exact ⟨one_vb hc, rel_vb hc⟩
  | j + 2, hj, _ => exact absurd hj (by simp)
theorem case_rows {v : Value} (h : CSok W (slOf [csI, csI, slOf [csI, csB]]) v) : ∃ (n : Nat) (r : Nat → CsG), ∀ σ, (SV.r (.rs 3 n fun i j => (r i).c j)).rel σ (ZW W) W v := by
  obtain ⟨n, cv, _, h1, h2⟩ := rows_of h
  have hv : ∀ i, ∃ p : Nat × (Nat → VtG), i < n → (RV.rs 2 p.1 fun i j => (p.2 i).c j).rel (ZW W) W (cv i 2) := fun i => by
    by_cases hi : i < n
    · obtain ⟨m, r, hr⟩ := vote_rows (h1 i 2 hi (by decide))
      exact ⟨(m, r), fun _ => hr⟩
    · exact ⟨(0, fun _ => ⟨0, false⟩), fun h => absurd h hi⟩
  obtain ⟨f, hf⟩ := Classical.axiomOfChoice hv
  refine ⟨n, fun i => ⟨vi (cv i 0), vi (cv i 1), (f i).1, (f i).2⟩, fun σ => h2 _ (fun i j hi hj => ?_) σ⟩
  have hc := h1 i j hi hj
  match j, hj, hc with
  | 0, _, hc => exact ⟨one_vi hc, rel_vi hc⟩
  | 1, _, hc => exact ⟨one_vi hc, rel_vi hc⟩
  | 2, _, hc => exact ⟨sl_one hc, hf i hi⟩
  | j + 3, hj, _ => exact absurd hj (by simp)

section
variable {H : Type} {enc : TypeId × Value → H} {base : Nat} {spare : Nat → Bool} {held : Bool}
theorem reg_arg {v : Value} {d : DataW H} {p : List MemPlace} {r : Reach} {b0 : Nat} (hv : Value.okWide Tryz.prog W r b0 28 v) (h : DataW.Trod enc Tryz.prog W base spare held 28 v d p) :
    ∃ g : EG, ∀ σ, g.sv.rel σ (ZW W) W v := by
  obtain ⟨cs, rfl, _⟩ := okWide_struct Tryz.underlying28 hv
  have hc := open_flat flat26 h
  obtain ⟨cs⟩ := cs
  simp only [Value.cells] at hc
  obtain ⟨v0, _, e, h0, v1, _, rfl, h1, v2, _, rfl, h2, rfl⟩ := hc
  cases e
  obtain ⟨nr, r, hr⟩ := rec_rows h0
  obtain ⟨nl, l, hl⟩ := link_rows h1
  obtain ⟨nc, c, hc⟩ := case_rows h2
  refine ⟨⟨nr, r, nl, l, nc, c⟩, fun σ => ⟨[v0, v1, v2], rfl, fun v hv => ?_, v0, _, rfl, hr σ, v1, _, rfl, hl σ, v2, _, rfl, hc σ, rfl⟩⟩
  simp at hv
  rcases hv with rfl | rfl | rfl
  · exact sl_one h0
  · exact sl_one h1
  · exact sl_one h2
theorem int_arg {v : Value} {d : DataW H} {p : List MemPlace} {r : Reach} {b0 : Nat} (hv : Value.okWide Tryz.prog W r b0 3 v) (h : DataW.Trod enc Tryz.prog W base spare held 3 v d p) :
    ∃ n : Int, v = .int .i64 n ∧ -9223372036854775808 ≤ n ∧ n ≤ 9223372036854775807 := by
  obtain ⟨n, rfl, _, _, hw⟩ := open_int Tryz.underlying3 hv h
  refine ⟨n, rfl, ?_⟩
  simp [Lit.wf, IntKind.min, IntKind.max, IntKind.bits, IntKind.signed] at hw
  omega
theorem flat4 : flatT Tryz.prog 8 4 = some [csB] := by kernel_rfl
theorem bool_arg {v : Value} {d : DataW H} {p : List MemPlace} {r : Reach} {b0 : Nat} (hv : Value.okWide Tryz.prog W r b0 4 v) (h : DataW.Trod enc Tryz.prog W base spare held 4 v d p) : ∃ b : Bool, v = .bool b := by
  have hone : v.cells.toList = [v] := by
    simp only [Value.okWide, Tryz.underlying4, Cell.okWide] at hv
    cases v <;> simp_all [Cell.ok, Value.cells]
  have hc := open_flat flat4 h
  rw [hone] at hc
  obtain ⟨v0, _, e, h0, rfl⟩ := hc
  cases e
  exact ⟨_, ok_bool h0⟩
end
end
theorem own_ : ownKnob Tryz.prog.godebug = none := by kernel_rfl
theorem laidOut_ : laidOutB Tryz.prog = true := by kernel_rfl
end Go.Gx
