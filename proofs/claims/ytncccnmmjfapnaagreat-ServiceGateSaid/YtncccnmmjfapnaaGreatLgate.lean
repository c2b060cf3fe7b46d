/-
  For any setup and orders: who is let through a gate is alike the record, was not on the list as of the kiosk's copy, and a later list differs only by a change about this person, within the staleness.
  No condition.
-/
import Derived.Test.YtncccnmmjfapnaaGreatRows
import Derived.Test.YtncccnmmjfapnaaGreatZak
import Derived.Test.YtncccnmmjfapnaaGreatZxp
set_option linter.unusedVariables false
set_option linter.unusedSimpArgs false
set_option maxRecDepth 100000
namespace Go.Proofs.YtncccnmmjfapnaaGreat
open Go.ChangeShapes Go.WideShapes Go.ChangeAt Go.RowKit Go.Gx Go.Gx.Ix Go.Gx.Sr

theorem gate.frame (H : Type) (enc : TypeId × Value → H) (W : World) (vs : List Value) (hv : ∃ base, ∀ (j : Nat) t v, [26, 94, 3, 3, 45, 24][j]? = some t → vs[j]? = some v → Value.okWide Tryz.prog W .any base t v)
    (ht : ∃ ds p, DataW.TrodAll enc Tryz.prog W 0 (fun _ => true) true [26, 94, 3, 3, 45, 24] vs ds p) : ∃ l, SV.relL (fun _ => none) (fun b => b < W.heap.size) W l vs ∧ Pure Tryz.prog 5 l (· = .b true) := by
  obtain ⟨base, hval⟩ := hv
  obtain ⟨ds, p, hA⟩ := ht
  obtain ⟨v0, vs0, d0, ds0, p0, q0, rfl, rfl, rfl, h0, hA0⟩ := trodAll_cons hA
  obtain ⟨v1, vs1, d1, ds1, p1, q1, rfl, rfl, rfl, h1, hA1⟩ := trodAll_cons hA0
  obtain ⟨v2, vs2, d2, ds2, p2, q2, rfl, rfl, rfl, h2, hA2⟩ := trodAll_cons hA1
  obtain ⟨v3, vs3, d3, ds3, p3, q3, rfl, rfl, rfl, h3, hA3⟩ := trodAll_cons hA2
  obtain ⟨v4, vs4, d4, ds4, p4, q4, rfl, rfl, rfl, h4, hA4⟩ := trodAll_cons hA3
  obtain ⟨v5, vs5, d5, ds5, p5, q5, rfl, rfl, rfl, h5, hA5⟩ := trodAll_cons hA4
  obtain ⟨rfl, rfl, rfl⟩ := trodAll_nil hA5
  obtain ⟨g0, hg0⟩ := setup_arg (hval 0 26 v0 rfl rfl) h0
  obtain ⟨g1, hb1, hg1⟩ := orders_arg (hval 1 94 v1 rfl rfl) h1
  obtain ⟨g2, rfl, ha2, hz2⟩ := Rg.int_arg (hval 2 3 v2 rfl rfl) h2
  obtain ⟨g3, rfl, ha3, hz3⟩ := Rg.int_arg (hval 3 3 v3 rfl rfl) h3
  obtain ⟨g4, hg4⟩ := Ix.iris_arg (hval 4 45 v4 rfl rfl) h4
  obtain ⟨g5, hg5⟩ := word_arg (hval 5 24 v5 rfl rfl) h5
  exact ⟨[g0.ss, ords g1, .i g2, .i g3, g4.sv, .w g5], ⟨_, _, rfl, hg0 _, ⟨_, _, rfl, hg1 _, ⟨_, _, rfl, rfl, ⟨_, _, rfl, rfl, ⟨_, _, rfl, hg4 _, ⟨_, _, rfl, hg5 _, rfl⟩⟩⟩⟩⟩⟩, law5 g0 g1 g2 g3 g4 g5 hb1 ha2 hz2 ha3 hz3⟩

theorem gate.lifted (os : Os) (started : os.Started) (H : Type) (enc : TypeId × Value → H) :
    ReturnsInHanded {} Tryz.checked os 5 .any (Rows.serviceGateSpec.pre6 enc Tryz.prog Tryz.f5 Rows.serviceGateRow.domain false) (Rows.serviceGateSpec.post enc Tryz.prog Tryz.f5 false true false false) := by
  refine returnsInHanded_of_change (C := Tryz.checked) Ix.own_ started (by kernel_rfl) Tryz.func5
    (ChangeSpec.witness6 (enc := enc) (C := Tryz.checked) false ⟨#[], #[.agg #[.int .i64 0, .int .i64 0, .int .i64 0, .int .i64 0, .int .u64 0], .slice none 0 0, .int .i64 0, .int .i64 0, .agg #[.int .u64 0, .int .u64 0], .int .u64 0], []⟩ 8 (by kernel_rfl) (by kernel_rfl) (by kernel_rfl) (by kernel_rfl)) ?_
  intro W base args ds gs before hval hW _ _
  refine law_contract (ts := [26, 94, 3, 3, 45, 24]) (tb := 4) Ix.laidOut_ (by rw [Tryz.params5]) (fun t ht => ?_) rfl Tryz.underlying4 rfl (fun ds hds => ?_) (gate.frame H enc) W base args ds gs before hval hW
  · simp only [List.mem_cons, List.not_mem_nil, or_false] at ht
    rcases ht with rfl | rfl | rfl | rfl | rfl | rfl <;> exact ⟨by kernel_rfl, of_decide_eq_true (by kernel_rfl)⟩
  · match ds, hds with
    | [d0, d1, d2, d3, d4, d5], _ => rfl

theorem gate.nm : Tryz.pinned.checked.prog.funcNamed Rows.serviceGateRow.func = some 5 := by kernel_rfl
theorem gate.inpl : (Rows.serviceGateRow.inPlace == Tryz.pinned.checked.prog.inPlace 5) = true := by kernel_rfl
theorem gate.unf : (Rows.serviceGateRow.unfollowed == Tryz.pinned.checked.prog.unfollowed 5) = true := by kernel_rfl
theorem gate.rec' : (Rows.serviceGateRow.recurses == Tryz.pinned.checked.prog.recurses 5) = true := by kernel_rfl
theorem gate.named : (Rows.serviceGateRow.named == Tryz.pinned.checked.prog.varsNamed 5) = true := by kernel_rfl
theorem gate.loops : (Rows.serviceGateRow.loops == (Tryz.f5.params.toList ++ Rows.serviceGateSpec.plain.varTypes Tryz.pinned.checked.prog).any (Tryz.pinned.checked.prog.loopsFrom ·)) = true := by kernel_rfl
theorem gate.plain : (Rows.serviceGateRow.plainKeys == Tryz.pinned.checked.prog.plainKeys) = true := by rw [Shared.plain]; kernel_rfl
theorem gate.lift : (Rows.serviceGateRow.lifted == Tryz.pinned.checked.prog.liftsFinal) = true := by rw [Shared.lift]; kernel_rfl
theorem gate.make : (Tryz.pinned.checked.prog.make == some Rows.serviceGateRow.make) = true := by rw [Shared.make]; kernel_rfl
theorem gate.closed : joinedFacts Tryz.pinned.checked.prog 5 Tryz.f5 Rows.serviceGateSpec Rows.serviceGateRow = true := by
  unfold joinedFacts
  refine Bool.and_eq_true_iff.2 ⟨?_, by kernel_rfl⟩
  refine Bool.and_eq_true_iff.2 ⟨?_, by kernel_rfl⟩
  refine Bool.and_eq_true_iff.2 ⟨?_, by kernel_rfl⟩
  refine Bool.and_eq_true_iff.2 ⟨?_, by kernel_rfl⟩
  refine Bool.and_eq_true_iff.2 ⟨?_, gate.make⟩
  refine Bool.and_eq_true_iff.2 ⟨?_, gate.lift⟩
  refine Bool.and_eq_true_iff.2 ⟨?_, Shared.may⟩
  refine Bool.and_eq_true_iff.2 ⟨?_, Shared.heard⟩
  refine Bool.and_eq_true_iff.2 ⟨?_, by kernel_rfl⟩
  refine Bool.and_eq_true_iff.2 ⟨?_, gate.plain⟩
  refine Bool.and_eq_true_iff.2 ⟨?_, by kernel_rfl⟩
  refine Bool.and_eq_true_iff.2 ⟨?_, by kernel_rfl⟩
  refine Bool.and_eq_true_iff.2 ⟨?_, by kernel_rfl⟩
  refine Bool.and_eq_true_iff.2 ⟨?_, by kernel_rfl⟩
  refine Bool.and_eq_true_iff.2 ⟨?_, by kernel_rfl⟩
  refine Bool.and_eq_true_iff.2 ⟨?_, gate.loops⟩
  refine Bool.and_eq_true_iff.2 ⟨?_, by kernel_rfl⟩
  refine Bool.and_eq_true_iff.2 ⟨?_, by kernel_rfl⟩
  refine Bool.and_eq_true_iff.2 ⟨?_, by kernel_rfl⟩
  refine Bool.and_eq_true_iff.2 ⟨?_, gate.named⟩
  refine Bool.and_eq_true_iff.2 ⟨?_, gate.rec'⟩
  refine Bool.and_eq_true_iff.2 ⟨?_, gate.unf⟩
  refine Bool.and_eq_true_iff.2 ⟨?_, gate.inpl⟩
  refine Bool.and_eq_true_iff.2 ⟨?_, Shared.knobs⟩
  refine Bool.and_eq_true_iff.2 ⟨?_, by kernel_rfl⟩
  refine Bool.and_eq_true_iff.2 ⟨?_, Shared.stops⟩
  refine Bool.and_eq_true_iff.2 ⟨?_, by kernel_rfl⟩
  refine Bool.and_eq_true_iff.2 ⟨?_, by kernel_rfl⟩
  refine Bool.and_eq_true_iff.2 ⟨?_, by kernel_rfl⟩
  refine Bool.and_eq_true_iff.2 ⟨?_, Shared.mrow⟩
  refine Bool.and_eq_true_iff.2 ⟨?_, Shared.laid⟩
  kernel_rfl
theorem gate.holds : Rows.ServiceGateSaid :=
  OpenClaim.holds_of_wide 5 Tryz.f5 rfl rfl rfl rfl rfl rfl rfl ⟨rfl, rfl, rfl, rfl, rfl⟩ rfl rfl rfl rfl rfl gate.nm Tryz.func5 gate.closed
    (of_decide_eq_true (by kernel_rfl)) (by unfold Func.isWrapper; first | (rw [if_pos (by decide +kernel)]; kernel_rfl) | (rw [if_neg (by decide +kernel)]; exact ⟨rfl, rfl⟩))
    (fun os started H enc _ => gate.lifted os started H enc)
end Go.Proofs.YtncccnmmjfapnaaGreat
