/-
  Matches as an argument.
-/
import Derived.Test.YtnajladibkpeaaaFd
import Derived.Test.YtnajladibkpeaaaW1
set_option linter.unusedVariables false
set_option linter.unusedSimpArgs false
set_option maxRecDepth 20000
set_option maxHeartbeats 2000000
namespace Go.Gx
open Go.RowKit Go.WideShapes Go.ChangeShapes Go.Proofs Go.Proofs.Ytnajladibkpeaaa

theorem flat74 : flatT Try.prog 8 74 = some [slOf [csI, csI]] := by kernel_rfl
section
variable {W : World}
theorem pair_rows {v : Value} (h : CSok W (slOf [csI, csI]) v) : ∃ (n : Nat) (r : Nat → PrG), ∀ σ, (SV.r (.rs 2 n fun i j => (r i).c j)).rel σ (ZW W) W v := by
  obtain ⟨n, cv, _, h1, h2⟩ := rows_of h
  refine ⟨n, fun i => ⟨vi (cv i 0), vi (cv i 1)⟩, fun σ => h2 _ (fun i j hi hj => ?_) σ⟩
  have hc := h1 i j hi hj
  match j, hj, hc with
  | 0, _, hc => exact ⟨one_vi hc, rel_vi hc⟩
  | 1, _, hc => exact ⟨one_vi hc, rel_vi hc⟩
  | j + 2, hj, _ => exact absurd hj (by simp)
variable {H : Type} {enc : TypeId × Value → H} {base : Nat} {spare : Nat → Bool} {held : Bool}
theorem mat_arg {v : Value} {d : DataW H} {p : List MemPlace} {r : Reach} {b0 : Nat} (hv : Value.okWide Try.prog W r b0 74 v) (h : DataW.Trod enc Try.prog W base spare held 74 v d p) : ∃ m : MG, ∀ σ, m.sv.rel σ (ZW W) W v := by
  have hone : v.cells.toList = [v] := by
    simp only [Value.okWide, Try.underlying74, Cell.okWide] at hv
    cases v <;> simp_all [Cell.ok, Value.cells]
  have hc := open_flat flat74 h
  rw [hone] at hc
  obtain ⟨v0, _, e, h0, rfl⟩ := hc
  cases e
  obtain ⟨n, q, hq⟩ := pair_rows h0
  exact ⟨⟨n, q⟩, hq⟩
end
end Go.Gx
