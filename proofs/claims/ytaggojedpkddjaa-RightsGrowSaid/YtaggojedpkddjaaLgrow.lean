/-
  For any rights, query, officer, rule, consent and warrant: with one more key, rule, consent or warrant the level of a query is the same or higher.
  No condition.
-/
import Derived.Test.YtaggojedpkddjaaRows
import Derived.Test.YtaggojedpkddjaaRp
import Derived.Test.YtaggojedpkddjaaTb
set_option linter.unusedVariables false
set_option linter.unusedSimpArgs false
set_option maxRecDepth 100000
namespace Go.Proofs.Ytaggojedpkddjaa
open Go.ChangeShapes Go.WideShapes Go.ChangeAt Go.RowKit Go.Gx Go.Gx.Rg

theorem grow.frame (H : Type) (enc : TypeId × Value → H) (W : World) (vs : List Value) (hv : ∃ base, ∀ (j : Nat) t v, [27, 40, 3, 48, 65, 67][j]? = some t → vs[j]? = some v → Value.okWide Try.prog W .any base t v)
    (ht : ∃ ds p, DataW.TrodAll enc Try.prog W 0 (fun _ => true) true [27, 40, 3, 48, 65, 67] vs ds p) : ∃ l, SV.relL (fun _ => none) (fun b => b < W.heap.size) W l vs ∧ Pure Try.prog 14 l (· = .b true) := by
  obtain ⟨base, hval⟩ := hv
  obtain ⟨ds, p, hA⟩ := ht
  obtain ⟨v0, vs0, d0, ds0, p0, q0, rfl, rfl, rfl, h0, hA0⟩ := trodAll_cons hA
  obtain ⟨v1, vs1, d1, ds1, p1, q1, rfl, rfl, rfl, h1, hA1⟩ := trodAll_cons hA0
  obtain ⟨v2, vs2, d2, ds2, p2, q2, rfl, rfl, rfl, h2, hA2⟩ := trodAll_cons hA1
  obtain ⟨v3, vs3, d3, ds3, p3, q3, rfl, rfl, rfl, h3, hA3⟩ := trodAll_cons hA2
  obtain ⟨v4, vs4, d4, ds4, p4, q4, rfl, rfl, rfl, h4, hA4⟩ := trodAll_cons hA3
  obtain ⟨v5, vs5, d5, ds5, p5, q5, rfl, rfl, rfl, h5, hA5⟩ := trodAll_cons hA4
  obtain ⟨rfl, rfl, rfl⟩ := trodAll_nil hA5
  obtain ⟨g0, hb0, hg0⟩ := rights_arg (hval 0 27 v0 rfl rfl) h0
  obtain ⟨g1, hg1⟩ := query_arg (hval 1 40 v1 rfl rfl) h1
  obtain ⟨g2, rfl, ha2, hz2⟩ := int_arg (hval 2 3 v2 rfl rfl) h2
  obtain ⟨g3, hb3, hg3⟩ := rule_arg (hval 3 48 v3 rfl rfl) h3
  obtain ⟨g4, hg4⟩ := con_arg (hval 4 65 v4 rfl rfl) h4
  obtain ⟨g5, hg5⟩ := war_arg (hval 5 67 v5 rfl rfl) h5
  exact ⟨[g0.sv, g1.sv, .i g2, g3.sv, g4.sv, g5.sv], ⟨_, _, rfl, hg0 _, ⟨_, _, rfl, hg1 _, ⟨_, _, rfl, rfl, ⟨_, _, rfl, hg3 _, ⟨_, _, rfl, hg4 _, ⟨_, _, rfl, hg5 _, rfl⟩⟩⟩⟩⟩⟩, law14 g0 g1 g2 g3 g4 g5 hb0 ha2 hz2 hb3⟩

theorem grow.lifted (os : Os) (started : os.Started) (H : Type) (enc : TypeId × Value → H) :
    ReturnsInHanded {} Try.checked os 14 .any (Rows.rightsGrowSpec.pre6 enc Try.prog Try.f14 Rows.rightsGrowRow.domain false) (Rows.rightsGrowSpec.post enc Try.prog Try.f14 false true false false) := by
  refine returnsInHanded_of_change (C := Try.checked) own_ started (by kernel_rfl) Try.func14
    (ChangeSpec.witness6 (enc := enc) (C := Try.checked) false ⟨#[], #[.agg #[.slice none 0 0, .slice none 0 0, .slice none 0 0, .slice none 0 0], .agg #[.int .i64 0, .int .i64 0, .int .i64 0, .int .i64 0, .int .i64 0, .slice none 0 0], .int .i64 0, .agg #[.int .i64 0, .int .i64 0, .int .i64 0, .int .i64 0, .int .i64 0, .int .i64 0, .int .i64 0, .int .u8 0], .agg #[.int .i64 0, .int .i64 0, .int .i64 0], .agg #[.int .i64 0, .int .i64 0, .int .i64 0, .int .i64 0]], []⟩ 8 (by kernel_rfl) (by kernel_rfl) (by kernel_rfl) (by kernel_rfl)) ?_
  intro W base args ds gs before hval hW _ _
  refine law_contract (ts := [27, 40, 3, 48, 65, 67]) (tb := 4) laidOut_ (by rw [Try.params14]) (fun t ht => ?_) rfl Try.underlying4 rfl (fun ds hds => ?_) (grow.frame H enc) W base args ds gs before hval hW
  · simp only [List.mem_cons, List.not_mem_nil, or_false] at ht
    rcases ht with rfl | rfl | rfl | rfl | rfl | rfl <;> exact ⟨by kernel_rfl, of_decide_eq_true (by kernel_rfl)⟩
  · match ds, hds with
    | [d0, d1, d2, d3, d4, d5], _ => rfl

theorem grow.holds : Rows.RightsGrowSaid :=
  OpenClaim.holds_of_wide 14 Try.f14 rfl rfl rfl rfl rfl rfl rfl ⟨rfl, rfl, rfl, rfl, rfl⟩ rfl rfl rfl rfl rfl (by kernel_rfl) Try.func14 (by kernel_rfl)
    (of_decide_eq_true (by kernel_rfl)) (by unfold Func.isWrapper; first | (rw [if_pos (by decide +kernel)]; kernel_rfl) | (rw [if_neg (by decide +kernel)]; exact ⟨rfl, rfl⟩))
    (fun os started H enc _ => grow.lifted os started H enc)
end Go.Proofs.Ytaggojedpkddjaa
