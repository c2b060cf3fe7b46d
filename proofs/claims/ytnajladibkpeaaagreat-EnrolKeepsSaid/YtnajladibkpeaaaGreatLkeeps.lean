/-
  For any register and vote: a register after a call is valid; a vote adds one vote, or one link; withdrawing takes one link away; one vote that is the first never decides.
  No condition.
-/
import Derived.Test.YtnajladibkpeaaaGreatRows
import Derived.Test.YtnajladibkpeaaaGreatFd
import Derived.Test.YtnajladibkpeaaaGreatZe
set_option linter.unusedVariables false
set_option linter.unusedSimpArgs false
set_option maxRecDepth 100000
namespace Go.Proofs.YtnajladibkpeaaaGreat
open Go.ChangeShapes Go.WideShapes Go.ChangeAt Go.RowKit Go.Gx

theorem keeps.frame (H : Type) (enc : TypeId × Value → H) (W : World) (vs : List Value) (hv : ∃ base, ∀ (j : Nat) t v, [28, 3, 3, 3, 4][j]? = some t → vs[j]? = some v → Value.okWide Tryz.prog W .any base t v)
    (ht : ∃ ds p, DataW.TrodAll enc Tryz.prog W 0 (fun _ => true) true [28, 3, 3, 3, 4] vs ds p) : ∃ l, SV.relL (fun _ => none) (fun b => b < W.heap.size) W l vs ∧ Pure Tryz.prog 4 l (· = .b true) := by
  obtain ⟨base, hval⟩ := hv
  obtain ⟨ds, p, hA⟩ := ht
  obtain ⟨v0, vs0, d0, ds0, p0, q0, rfl, rfl, rfl, h0, hA0⟩ := trodAll_cons hA
  obtain ⟨v1, vs1, d1, ds1, p1, q1, rfl, rfl, rfl, h1, hA1⟩ := trodAll_cons hA0
  obtain ⟨v2, vs2, d2, ds2, p2, q2, rfl, rfl, rfl, h2, hA2⟩ := trodAll_cons hA1
  obtain ⟨v3, vs3, d3, ds3, p3, q3, rfl, rfl, rfl, h3, hA3⟩ := trodAll_cons hA2
  obtain ⟨v4, vs4, d4, ds4, p4, q4, rfl, rfl, rfl, h4, hA4⟩ := trodAll_cons hA3
  obtain ⟨rfl, rfl, rfl⟩ := trodAll_nil hA4
  obtain ⟨g0, hg0⟩ := reg_arg (hval 0 28 v0 rfl rfl) h0
  obtain ⟨g1, rfl, ha1, hz1⟩ := int_arg (hval 1 3 v1 rfl rfl) h1
  obtain ⟨g2, rfl, ha2, hz2⟩ := int_arg (hval 2 3 v2 rfl rfl) h2
  obtain ⟨g3, rfl, ha3, hz3⟩ := int_arg (hval 3 3 v3 rfl rfl) h3
  obtain ⟨g4, rfl⟩ := bool_arg (hval 4 4 v4 rfl rfl) h4
  exact ⟨[g0.sv, .i g1, .i g2, .i g3, .b g4], ⟨_, _, rfl, hg0 _, ⟨_, _, rfl, rfl, ⟨_, _, rfl, rfl, ⟨_, _, rfl, rfl, ⟨_, _, rfl, rfl, rfl⟩⟩⟩⟩⟩, lawKeeps g0 g1 g2 g3 g4 ha1 hz1 ha2 hz2 ha3 hz3⟩

theorem keeps.lifted (os : Os) (started : os.Started) (H : Type) (enc : TypeId × Value → H) :
    ReturnsInHanded {} Tryz.checked os 4 .any (Rows.enrolKeepsSpec.pre6 enc Tryz.prog Tryz.f4 Rows.enrolKeepsRow.domain false) (Rows.enrolKeepsSpec.post enc Tryz.prog Tryz.f4 false true false false) := by
  refine returnsInHanded_of_change (C := Tryz.checked) own_ started (by kernel_rfl) Tryz.func4
    (ChangeSpec.witness6 (enc := enc) (C := Tryz.checked) false ⟨#[], #[.agg #[.slice none 0 0, .slice none 0 0, .slice none 0 0], .int .i64 0, .int .i64 0, .int .i64 0, .bool false], []⟩ 8 (by kernel_rfl) (by kernel_rfl) (by kernel_rfl) (by kernel_rfl)) ?_
  intro W base args ds gs before hval hW _ _
  refine law_contract (ts := [28, 3, 3, 3, 4]) (tb := 4) laidOut_ (by rw [Tryz.params4]) (fun t ht => ?_) rfl Tryz.underlying4 rfl (fun ds hds => ?_) (keeps.frame H enc) W base args ds gs before hval hW
  · simp only [List.mem_cons, List.not_mem_nil, or_false] at ht
    rcases ht with rfl | rfl | rfl | rfl | rfl <;> exact ⟨by kernel_rfl, of_decide_eq_true (by kernel_rfl)⟩
  · match ds, hds with
    | [d0, d1, d2, d3, d4], _ => rfl

theorem keeps.holds : Rows.EnrolKeepsSaid :=
  OpenClaim.holds_of_wide 4 Tryz.f4 rfl rfl rfl rfl rfl rfl rfl ⟨rfl, rfl, rfl, rfl, rfl⟩ rfl rfl rfl rfl rfl (by kernel_rfl) Tryz.func4 (by kernel_rfl)
    (of_decide_eq_true (by kernel_rfl)) (by unfold Func.isWrapper; first | (rw [if_pos (by decide +kernel)]; kernel_rfl) | (rw [if_neg (by decide +kernel)]; exact ⟨rfl, rfl⟩))
    (fun os started H enc _ => keeps.lifted os started H enc)
end Go.Proofs.YtnajladibkpeaaaGreat
