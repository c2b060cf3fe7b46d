/-
  For any two rights, query and officer, whether rights and queries are valid, whether rights are alike, and what is signed, are those of the document, in new memory, and what was handed in stays as it was.
  No condition.
-/
import Derived.Test.YtaggojedpkddjaaRows
import Derived.Test.YtaggojedpkddjaaRp
import Derived.Test.YtaggojedpkddjaaSx
set_option linter.unusedVariables false
set_option linter.unusedSimpArgs false
set_option maxRecDepth 100000
namespace Go.Proofs.Ytaggojedpkddjaa
open Go.ChangeShapes Go.WideShapes Go.ChangeAt Go.RowKit Go.Gx

theorem checks.frame (H : Type) (enc : TypeId × Value → H) (W : World) (vs : List Value) (hv : ∃ base, ∀ (j : Nat) t v, [27, 27, 40, 3][j]? = some t → vs[j]? = some v → Value.okWide Try.prog W .any base t v)
    (ht : ∃ ds p, DataW.TrodAll enc Try.prog W 0 (fun _ => true) true [27, 27, 40, 3] vs ds p) : ∃ l, SV.relL (fun _ => none) (fun b => b < W.heap.size) W l vs ∧ Pure Try.prog 11 l (· = .b true) := by
  obtain ⟨base, hval⟩ := hv
  obtain ⟨ds, p, hA⟩ := ht
  obtain ⟨v0, vs0, d0, ds0, p0, q0, rfl, rfl, rfl, h0, hA0⟩ := trodAll_cons hA
  obtain ⟨v1, vs1, d1, ds1, p1, q1, rfl, rfl, rfl, h1, hA1⟩ := trodAll_cons hA0
  obtain ⟨v2, vs2, d2, ds2, p2, q2, rfl, rfl, rfl, h2, hA2⟩ := trodAll_cons hA1
  obtain ⟨v3, vs3, d3, ds3, p3, q3, rfl, rfl, rfl, h3, hA3⟩ := trodAll_cons hA2
  obtain ⟨rfl, rfl, rfl⟩ := trodAll_nil hA3
  obtain ⟨g0, hb0, hg0⟩ := rights_arg (hval 0 27 v0 rfl rfl) h0
  obtain ⟨g1, hb1, hg1⟩ := rights_arg (hval 1 27 v1 rfl rfl) h1
  obtain ⟨g2, hg2⟩ := query_arg (hval 2 40 v2 rfl rfl) h2
  obtain ⟨g3, rfl, ha3, hz3⟩ := int_arg (hval 3 3 v3 rfl rfl) h3
  exact ⟨[g0.sv, g1.sv, g2.sv, .i g3], ⟨_, _, rfl, hg0 _, ⟨_, _, rfl, hg1 _, ⟨_, _, rfl, hg2 _, ⟨_, _, rfl, rfl, rfl⟩⟩⟩⟩, law11 g0 g1 g2 g3 hb0 hb1 ha3 hz3⟩

theorem checks.lifted (os : Os) (started : os.Started) (H : Type) (enc : TypeId × Value → H) :
    ReturnsInHanded {} Try.checked os 11 .any (Rows.rightsChecksSpec.pre6 enc Try.prog Try.f11 Rows.rightsChecksRow.domain false) (Rows.rightsChecksSpec.post enc Try.prog Try.f11 false true false false) := by
  refine returnsInHanded_of_change (C := Try.checked) own_ started (by kernel_rfl) Try.func11
    (ChangeSpec.witness6 (enc := enc) (C := Try.checked) false ⟨#[], #[.agg #[.slice none 0 0, .slice none 0 0, .slice none 0 0, .slice none 0 0], .agg #[.slice none 0 0, .slice none 0 0, .slice none 0 0, .slice none 0 0], .agg #[.int .i64 0, .int .i64 0, .int .i64 0, .int .i64 0, .int .i64 0, .slice none 0 0], .int .i64 0], []⟩ 8 (by kernel_rfl) (by kernel_rfl) (by kernel_rfl) (by kernel_rfl)) ?_
  intro W base args ds gs before hval hW _ _
  refine law_contract (ts := [27, 27, 40, 3]) (tb := 4) laidOut_ (by rw [Try.params11]) (fun t ht => ?_) rfl Try.underlying4 rfl (fun ds hds => ?_) (checks.frame H enc) W base args ds gs before hval hW
  · simp only [List.mem_cons, List.not_mem_nil, or_false] at ht
    rcases ht with rfl | rfl | rfl | rfl <;> exact ⟨by kernel_rfl, of_decide_eq_true (by kernel_rfl)⟩
  · match ds, hds with
    | [d0, d1, d2, d3], _ => rfl

theorem checks.holds : Rows.RightsChecksSaid :=
  OpenClaim.holds_of_wide 11 Try.f11 rfl rfl rfl rfl rfl rfl rfl ⟨rfl, rfl, rfl, rfl, rfl⟩ rfl rfl rfl rfl rfl (by kernel_rfl) Try.func11 (by kernel_rfl)
    (of_decide_eq_true (by kernel_rfl)) (by unfold Func.isWrapper; first | (rw [if_pos (by decide +kernel)]; kernel_rfl) | (rw [if_neg (by decide +kernel)]; exact ⟨rfl, rfl⟩))
    (fun os started H enc _ => checks.lifted os started H enc)
end Go.Proofs.Ytaggojedpkddjaa
