/-
  For any setup and orders: each entry of the log that is not erased has a reason whose decision follows, and the log is chained.
  No condition.
-/
import Derived.Test.YtncccnmmjfapnaaGreatRows
import Derived.Test.YtncccnmmjfapnaaGreatZak
import Derived.Test.YtncccnmmjfapnaaGreatZxo
set_option linter.unusedVariables false
set_option linter.unusedSimpArgs false
set_option maxRecDepth 100000
namespace Go.Proofs.YtncccnmmjfapnaaGreat
open Go.ChangeShapes Go.WideShapes Go.ChangeAt Go.RowKit Go.Gx Go.Gx.Ix Go.Gx.Sr

theorem reasons.frame (H : Type) (enc : TypeId × Value → H) (W : World) (vs : List Value) (hv : ∃ base, ∀ (j : Nat) t v, [26, 94][j]? = some t → vs[j]? = some v → Value.okWide Tryz.prog W .any base t v)
    (ht : ∃ ds p, DataW.TrodAll enc Tryz.prog W 0 (fun _ => true) true [26, 94] vs ds p) : ∃ l, SV.relL (fun _ => none) (fun b => b < W.heap.size) W l vs ∧ Pure Tryz.prog 10 l (· = .b true) := by
  obtain ⟨base, hval⟩ := hv
  obtain ⟨ds, p, hA⟩ := ht
  obtain ⟨v0, vs0, d0, ds0, p0, q0, rfl, rfl, rfl, h0, hA0⟩ := trodAll_cons hA
  obtain ⟨v1, vs1, d1, ds1, p1, q1, rfl, rfl, rfl, h1, hA1⟩ := trodAll_cons hA0
  obtain ⟨rfl, rfl, rfl⟩ := trodAll_nil hA1
  obtain ⟨g0, hg0⟩ := setup_arg (hval 0 26 v0 rfl rfl) h0
  obtain ⟨g1, hb1, hg1⟩ := orders_arg (hval 1 94 v1 rfl rfl) h1
  exact ⟨[g0.ss, ords g1], ⟨_, _, rfl, hg0 _, ⟨_, _, rfl, hg1 _, rfl⟩⟩, law10 g0 g1 hb1⟩

theorem reasons.lifted (os : Os) (started : os.Started) (H : Type) (enc : TypeId × Value → H) :
    ReturnsInHanded {} Tryz.checked os 10 .any (Rows.serviceReasonsSpec.pre6 enc Tryz.prog Tryz.f10 Rows.serviceReasonsRow.domain false) (Rows.serviceReasonsSpec.post enc Tryz.prog Tryz.f10 false true false false) := by
  refine returnsInHanded_of_change (C := Tryz.checked) Ix.own_ started (by kernel_rfl) Tryz.func10
    (ChangeSpec.witness6 (enc := enc) (C := Tryz.checked) false ⟨#[], #[.agg #[.int .i64 0, .int .i64 0, .int .i64 0, .int .i64 0, .int .u64 0], .slice none 0 0], []⟩ 8 (by kernel_rfl) (by kernel_rfl) (by kernel_rfl) (by kernel_rfl)) ?_
  intro W base args ds gs before hval hW _ _
  refine law_contract (ts := [26, 94]) (tb := 4) Ix.laidOut_ (by rw [Tryz.params10]) (fun t ht => ?_) rfl Tryz.underlying4 rfl (fun ds hds => ?_) (reasons.frame H enc) W base args ds gs before hval hW
  · simp only [List.mem_cons, List.not_mem_nil, or_false] at ht
    rcases ht with rfl | rfl <;> exact ⟨by kernel_rfl, of_decide_eq_true (by kernel_rfl)⟩
  · match ds, hds with
    | [d0, d1], _ => rfl

theorem reasons.nm : Tryz.pinned.checked.prog.funcNamed Rows.serviceReasonsRow.func = some 10 := by kernel_rfl
theorem reasons.inpl : (Rows.serviceReasonsRow.inPlace == Tryz.pinned.checked.prog.inPlace 10) = true := by kernel_rfl
theorem reasons.unf : (Rows.serviceReasonsRow.unfollowed == Tryz.pinned.checked.prog.unfollowed 10) = true := by kernel_rfl
theorem reasons.rec' : (Rows.serviceReasonsRow.recurses == Tryz.pinned.checked.prog.recurses 10) = true := by kernel_rfl
theorem reasons.named : (Rows.serviceReasonsRow.named == Tryz.pinned.checked.prog.varsNamed 10) = true := by kernel_rfl
theorem reasons.loops : (Rows.serviceReasonsRow.loops == (Tryz.f10.params.toList ++ Rows.serviceReasonsSpec.plain.varTypes Tryz.pinned.checked.prog).any (Tryz.pinned.checked.prog.loopsFrom ·)) = true := by kernel_rfl
theorem reasons.plain : (Rows.serviceReasonsRow.plainKeys == Tryz.pinned.checked.prog.plainKeys) = true := by rw [Shared.plain]; kernel_rfl
theorem reasons.lift : (Rows.serviceReasonsRow.lifted == Tryz.pinned.checked.prog.liftsFinal) = true := by rw [Shared.lift]; kernel_rfl
theorem reasons.make : (Tryz.pinned.checked.prog.make == some Rows.serviceReasonsRow.make) = true := by rw [Shared.make]; kernel_rfl
theorem reasons.closed : joinedFacts Tryz.pinned.checked.prog 10 Tryz.f10 Rows.serviceReasonsSpec Rows.serviceReasonsRow = true := by
  unfold joinedFacts
  refine Bool.and_eq_true_iff.2 ⟨?_, by kernel_rfl⟩
  refine Bool.and_eq_true_iff.2 ⟨?_, by kernel_rfl⟩
  refine Bool.and_eq_true_iff.2 ⟨?_, by kernel_rfl⟩
  refine Bool.and_eq_true_iff.2 ⟨?_, by kernel_rfl⟩
  refine Bool.and_eq_true_iff.2 ⟨?_, reasons.make⟩
  refine Bool.and_eq_true_iff.2 ⟨?_, reasons.lift⟩
  refine Bool.and_eq_true_iff.2 ⟨?_, Shared.may⟩
  refine Bool.and_eq_true_iff.2 ⟨?_, Shared.heard⟩
  refine Bool.and_eq_true_iff.2 ⟨?_, by kernel_rfl⟩
  refine Bool.and_eq_true_iff.2 ⟨?_, reasons.plain⟩
  refine Bool.and_eq_true_iff.2 ⟨?_, by kernel_rfl⟩
  refine Bool.and_eq_true_iff.2 ⟨?_, by kernel_rfl⟩
  refine Bool.and_eq_true_iff.2 ⟨?_, by kernel_rfl⟩
  refine Bool.and_eq_true_iff.2 ⟨?_, by kernel_rfl⟩
  refine Bool.and_eq_true_iff.2 ⟨?_, by kernel_rfl⟩
  refine Bool.and_eq_true_iff.2 ⟨?_, reasons.loops⟩
  refine Bool.and_eq_true_iff.2 ⟨?_, by kernel_rfl⟩
  refine Bool.and_eq_true_iff.2 ⟨?_, by kernel_rfl⟩
  refine Bool.and_eq_true_iff.2 ⟨?_, by kernel_rfl⟩
  refine Bool.and_eq_true_iff.2 ⟨?_, reasons.named⟩
  refine Bool.and_eq_true_iff.2 ⟨?_, reasons.rec'⟩
  refine Bool.and_eq_true_iff.2 ⟨?_, reasons.unf⟩
  refine Bool.and_eq_true_iff.2 ⟨?_, reasons.inpl⟩
  refine Bool.and_eq_true_iff.2 ⟨?_, Shared.knobs⟩
  refine Bool.and_eq_true_iff.2 ⟨?_, by kernel_rfl⟩
  refine Bool.and_eq_true_iff.2 ⟨?_, Shared.stops⟩
  refine Bool.and_eq_true_iff.2 ⟨?_, by kernel_rfl⟩
  refine Bool.and_eq_true_iff.2 ⟨?_, by kernel_rfl⟩
  refine Bool.and_eq_true_iff.2 ⟨?_, by kernel_rfl⟩
  refine Bool.and_eq_true_iff.2 ⟨?_, Shared.mrow⟩
  refine Bool.and_eq_true_iff.2 ⟨?_, Shared.laid⟩
  kernel_rfl
theorem reasons.holds : Rows.ServiceReasonsSaid :=
  OpenClaim.holds_of_wide 10 Tryz.f10 rfl rfl rfl rfl rfl rfl rfl ⟨rfl, rfl, rfl, rfl, rfl⟩ rfl rfl rfl rfl rfl reasons.nm Tryz.func10 reasons.closed
    (of_decide_eq_true (by kernel_rfl)) (by unfold Func.isWrapper; first | (rw [if_pos (by decide +kernel)]; kernel_rfl) | (rw [if_neg (by decide +kernel)]; exact ⟨rfl, rfl⟩))
    (fun os started H enc _ => reasons.lifted os started H enc)
end Go.Proofs.YtncccnmmjfapnaaGreat
