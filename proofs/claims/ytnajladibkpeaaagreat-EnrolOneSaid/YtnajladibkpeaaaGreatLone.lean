/-
  For any register and two records: they are one person exactly if Why has a reason, of links that say so, from one to the other; then Apart finds nothing; and two people that are known to be different are not one.
  No condition.
-/
import Derived.Test.YtnajladibkpeaaaGreatRows
import Derived.Test.YtnajladibkpeaaaGreatFd
import Derived.Test.YtnajladibkpeaaaGreatZd
set_option linter.unusedVariables false
set_option linter.unusedSimpArgs false
set_option maxRecDepth 100000
namespace Go.Proofs.YtnajladibkpeaaaGreat
open Go.ChangeShapes Go.WideShapes Go.ChangeAt Go.RowKit Go.Gx

theorem one.frame (H : Type) (enc : TypeId × Value → H) (W : World) (vs : List Value) (hv : ∃ base, ∀ (j : Nat) t v, [28, 3, 3][j]? = some t → vs[j]? = some v → Value.okWide Tryz.prog W .any base t v)
    (ht : ∃ ds p, DataW.TrodAll enc Tryz.prog W 0 (fun _ => true) true [28, 3, 3] vs ds p) : ∃ l, SV.relL (fun _ => none) (fun b => b < W.heap.size) W l vs ∧ Pure Tryz.prog 5 l (· = .b true) := by
  obtain ⟨base, hval⟩ := hv
  obtain ⟨ds, p, hA⟩ := ht
  obtain ⟨v0, vs0, d0, ds0, p0, q0, rfl, rfl, rfl, h0, hA0⟩ := trodAll_cons hA
  obtain ⟨v1, vs1, d1, ds1, p1, q1, rfl, rfl, rfl, h1, hA1⟩ := trodAll_cons hA0
  obtain ⟨v2, vs2, d2, ds2, p2, q2, rfl, rfl, rfl, h2, hA2⟩ := trodAll_cons hA1
  obtain ⟨rfl, rfl, rfl⟩ := trodAll_nil hA2
  obtain ⟨g0, hg0⟩ := reg_arg (hval 0 28 v0 rfl rfl) h0
  obtain ⟨g1, rfl, ha1, hz1⟩ := int_arg (hval 1 3 v1 rfl rfl) h1
  obtain ⟨g2, rfl, ha2, hz2⟩ := int_arg (hval 2 3 v2 rfl rfl) h2
  exact ⟨[g0.sv, .i g1, .i g2], ⟨_, _, rfl, hg0 _, ⟨_, _, rfl, rfl, ⟨_, _, rfl, rfl, rfl⟩⟩⟩, lawOne g0 g1 g2 ha1 hz1 ha2 hz2⟩

theorem one.lifted (os : Os) (started : os.Started) (H : Type) (enc : TypeId × Value → H) :
    ReturnsInHanded {} Tryz.checked os 5 .any (Rows.enrolOneSpec.pre6 enc Tryz.prog Tryz.f5 Rows.enrolOneRow.domain false) (Rows.enrolOneSpec.post enc Tryz.prog Tryz.f5 false true false false) := by
  refine returnsInHanded_of_change (C := Tryz.checked) own_ started (by kernel_rfl) Tryz.func5
    (ChangeSpec.witness6 (enc := enc) (C := Tryz.checked) false ⟨#[], #[.agg #[.slice none 0 0, .slice none 0 0, .slice none 0 0], .int .i64 0, .int .i64 0], []⟩ 8 (by kernel_rfl) (by kernel_rfl) (by kernel_rfl) (by kernel_rfl)) ?_
  intro W base args ds gs before hval hW _ _
  refine law_contract (ts := [28, 3, 3]) (tb := 4) laidOut_ (by rw [Tryz.params5]) (fun t ht => ?_) rfl Tryz.underlying4 rfl (fun ds hds => ?_) (one.frame H enc) W base args ds gs before hval hW
  · simp only [List.mem_cons, List.not_mem_nil, or_false] at ht
    rcases ht with rfl | rfl | rfl <;> exact ⟨by kernel_rfl, of_decide_eq_true (by kernel_rfl)⟩
  · match ds, hds with
    | [d0, d1, d2], _ => rfl

theorem one.holds : Rows.EnrolOneSaid :=
  OpenClaim.holds_of_wide 5 Tryz.f5 rfl rfl rfl rfl rfl rfl rfl ⟨rfl, rfl, rfl, rfl, rfl⟩ rfl rfl rfl rfl rfl (by kernel_rfl) Tryz.func5 (by kernel_rfl)
    (of_decide_eq_true (by kernel_rfl)) (by unfold Func.isWrapper; first | (rw [if_pos (by decide +kernel)]; kernel_rfl) | (rw [if_neg (by decide +kernel)]; exact ⟨rfl, rfl⟩))
    (fun os started H enc _ => one.lifted os started H enc)
end Go.Proofs.YtnajladibkpeaaaGreat
