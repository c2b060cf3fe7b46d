/-
  For any two registers, a quality and a record, Add and Remove give what the document says, with its errors, in memory of their own, and the registers handed in stay as they were.
  No condition.
-/
import Derived.Test.YtnajladibkpeaaaRows
import Derived.Test.YtnajladibkpeaaaFd
import Derived.Test.YtnajladibkpeaaaFq
set_option linter.unusedVariables false
set_option linter.unusedSimpArgs false
set_option maxRecDepth 100000
namespace Go.Proofs.Ytnajladibkpeaaa
open Go.ChangeShapes Go.WideShapes Go.ChangeAt Go.RowKit Go.Gx

theorem registers.frame (H : Type) (enc : TypeId × Value → H) (W : World) (vs : List Value) (hv : ∃ base, ∀ (j : Nat) t v, [26, 26, 3, 3][j]? = some t → vs[j]? = some v → Value.okWide Try.prog W .any base t v)
    (ht : ∃ ds p, DataW.TrodAll enc Try.prog W 0 (fun _ => true) true [26, 26, 3, 3] vs ds p) : ∃ l, SV.relL (fun _ => none) (fun b => b < W.heap.size) W l vs ∧ Pure Try.prog 5 l (· = .b true) := by
  obtain ⟨base, hval⟩ := hv
  obtain ⟨ds, p, hA⟩ := ht
  obtain ⟨v0, vs0, d0, ds0, p0, q0, rfl, rfl, rfl, h0, hA0⟩ := trodAll_cons hA
  obtain ⟨v1, vs1, d1, ds1, p1, q1, rfl, rfl, rfl, h1, hA1⟩ := trodAll_cons hA0
  obtain ⟨v2, vs2, d2, ds2, p2, q2, rfl, rfl, rfl, h2, hA2⟩ := trodAll_cons hA1
  obtain ⟨v3, vs3, d3, ds3, p3, q3, rfl, rfl, rfl, h3, hA3⟩ := trodAll_cons hA2
  obtain ⟨rfl, rfl, rfl⟩ := trodAll_nil hA3
  obtain ⟨g0, hg0⟩ := reg_arg (hval 0 26 v0 rfl rfl) h0
  obtain ⟨g1, hg1⟩ := reg_arg (hval 1 26 v1 rfl rfl) h1
  obtain ⟨g2, rfl, ha2, hz2⟩ := int_arg (hval 2 3 v2 rfl rfl) h2
  obtain ⟨g3, rfl, ha3, hz3⟩ := int_arg (hval 3 3 v3 rfl rfl) h3
  exact ⟨[g0.sv, g1.sv, .i g2, .i g3], ⟨_, _, rfl, hg0 _, ⟨_, _, rfl, hg1 _, ⟨_, _, rfl, rfl, ⟨_, _, rfl, rfl, rfl⟩⟩⟩⟩, law5 g0 g1 g2 g3 ha2 hz2 ha3 hz3⟩

theorem registers.lifted (os : Os) (started : os.Started) (H : Type) (enc : TypeId × Value → H) :
    ReturnsInHanded {} Try.checked os 5 .any (Rows.enrolRegistersSpec.pre6 enc Try.prog Try.f5 Rows.enrolRegistersRow.domain false) (Rows.enrolRegistersSpec.post enc Try.prog Try.f5 false true false false) := by
  refine returnsInHanded_of_change (C := Try.checked) own_ started (by kernel_rfl) Try.func5
    (ChangeSpec.witness6 (enc := enc) (C := Try.checked) false ⟨#[], #[.agg #[.slice none 0 0, .slice none 0 0, .slice none 0 0], .agg #[.slice none 0 0, .slice none 0 0, .slice none 0 0], .int .i64 0, .int .i64 0], []⟩ 8 (by kernel_rfl) (by kernel_rfl) (by kernel_rfl) (by kernel_rfl)) ?_
  intro W base args ds gs before hval hW _ _
  refine law_contract (ts := [26, 26, 3, 3]) (tb := 4) laidOut_ (by rw [Try.params5]) (fun t ht => ?_) rfl Try.underlying4 rfl (fun ds hds => ?_) (registers.frame H enc) W base args ds gs before hval hW
  · simp only [List.mem_cons, List.not_mem_nil, or_false] at ht
    rcases ht with rfl | rfl | rfl | rfl <;> exact ⟨by kernel_rfl, of_decide_eq_true (by kernel_rfl)⟩
  · match ds, hds with
    | [d0, d1, d2, d3], _ => rfl

theorem registers.holds : Rows.EnrolRegistersSaid :=
  OpenClaim.holds_of_wide 5 Try.f5 rfl rfl rfl rfl rfl rfl rfl ⟨rfl, rfl, rfl, rfl, rfl⟩ rfl rfl rfl rfl rfl (by kernel_rfl) Try.func5 (by kernel_rfl)
    (of_decide_eq_true (by kernel_rfl)) (by unfold Func.isWrapper; first | (rw [if_pos (by decide +kernel)]; kernel_rfl) | (rw [if_neg (by decide +kernel)]; exact ⟨rfl, rfl⟩))
    (fun os started H enc _ => registers.lifted os started H enc)
end Go.Proofs.Ytnajladibkpeaaa
