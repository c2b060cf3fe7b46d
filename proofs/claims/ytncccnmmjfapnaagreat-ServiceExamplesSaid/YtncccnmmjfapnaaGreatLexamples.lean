/-
  The chapter's limits, numbers of errors and examples.
  No condition.
-/
import Derived.Test.YtncccnmmjfapnaaGreatRows
import Derived.Test.YtncccnmmjfapnaaGreatZak
import Derived.Test.YtncccnmmjfapnaaGreatZxu
set_option linter.unusedVariables false
set_option linter.unusedSimpArgs false
set_option maxRecDepth 100000
namespace Go.Proofs.YtncccnmmjfapnaaGreat
open Go.ChangeShapes Go.WideShapes Go.ChangeAt Go.RowKit Go.Gx Go.Gx.Ix Go.Gx.Sr

theorem examples.frame (H : Type) (enc : TypeId × Value → H) (W : World) (vs : List Value) (hv : ∃ base, ∀ (j : Nat) t v, ([] : List TypeId)[j]? = some t → vs[j]? = some v → Value.okWide Tryz.prog W .any base t v)
    (ht : ∃ ds p, DataW.TrodAll enc Tryz.prog W 0 (fun _ => true) true [] vs ds p) : ∃ l, SV.relL (fun _ => none) (fun b => b < W.heap.size) W l vs ∧ Pure Tryz.prog 8 l (· = .b true) := by
  obtain ⟨base, hval⟩ := hv
  obtain ⟨ds, p, hA⟩ := ht
  obtain ⟨rfl, rfl, rfl⟩ := trodAll_nil hA
  exact ⟨[], rfl, law8  ⟩

theorem examples.lifted (os : Os) (started : os.Started) (H : Type) (enc : TypeId × Value → H) :
    ReturnsInHanded {} Tryz.checked os 8 .any (Rows.serviceExamplesSpec.pre6 enc Tryz.prog Tryz.f8 Rows.serviceExamplesRow.domain false) (Rows.serviceExamplesSpec.post enc Tryz.prog Tryz.f8 false true false false) := by
  refine returnsInHanded_of_change (C := Tryz.checked) Ix.own_ started (by kernel_rfl) Tryz.func8
    (ChangeSpec.witness6 (enc := enc) (C := Tryz.checked) false ⟨#[], #[], []⟩ 8 (by kernel_rfl) (by kernel_rfl) (by kernel_rfl) (by kernel_rfl)) ?_
  intro W base args ds gs before hval hW _ _
  refine law_contract (ts := []) (tb := 4) Ix.laidOut_ (by rw [Tryz.params8]) (fun t ht => ?_) rfl Tryz.underlying4 rfl (fun ds hds => ?_) (examples.frame H enc) W base args ds gs before hval hW
  · simp at ht
  · match ds, hds with
    | [], _ => rfl

theorem examples.nm : Tryz.pinned.checked.prog.funcNamed Rows.serviceExamplesRow.func = some 8 := by kernel_rfl
theorem examples.inpl : (Rows.serviceExamplesRow.inPlace == Tryz.pinned.checked.prog.inPlace 8) = true := by kernel_rfl
theorem examples.unf : (Rows.serviceExamplesRow.unfollowed == Tryz.pinned.checked.prog.unfollowed 8) = true := by kernel_rfl
theorem examples.rec' : (Rows.serviceExamplesRow.recurses == Tryz.pinned.checked.prog.recurses 8) = true := by kernel_rfl
theorem examples.named : (Rows.serviceExamplesRow.named == Tryz.pinned.checked.prog.varsNamed 8) = true := by kernel_rfl
theorem examples.loops : (Rows.serviceExamplesRow.loops == (Tryz.f8.params.toList ++ Rows.serviceExamplesSpec.plain.varTypes Tryz.pinned.checked.prog).any (Tryz.pinned.checked.prog.loopsFrom ·)) = true := by kernel_rfl
theorem examples.plain : (Rows.serviceExamplesRow.plainKeys == Tryz.pinned.checked.prog.plainKeys) = true := by rw [Shared.plain]; kernel_rfl
theorem examples.lift : (Rows.serviceExamplesRow.lifted == Tryz.pinned.checked.prog.liftsFinal) = true := by rw [Shared.lift]; kernel_rfl
theorem examples.make : (Tryz.pinned.checked.prog.make == some Rows.serviceExamplesRow.make) = true := by rw [Shared.make]; kernel_rfl
theorem examples.closed : joinedFacts Tryz.pinned.checked.prog 8 Tryz.f8 Rows.serviceExamplesSpec Rows.serviceExamplesRow = true := by
  unfold joinedFacts
  refine Bool.and_eq_true_iff.2 ⟨?_, by kernel_rfl⟩
  refine Bool.and_eq_true_iff.2 ⟨?_, by kernel_rfl⟩
  refine Bool.and_eq_true_iff.2 ⟨?_, by kernel_rfl⟩
  refine Bool.and_eq_true_iff.2 ⟨?_, by kernel_rfl⟩
  refine Bool.and_eq_true_iff.2 ⟨?_, examples.make⟩
  refine Bool.and_eq_true_iff.2 ⟨?_, examples.lift⟩
  refine Bool.and_eq_true_iff.2 ⟨?_, Shared.may⟩
  refine Bool.and_eq_true_iff.2 ⟨?_, Shared.heard⟩
  refine Bool.and_eq_true_iff.2 ⟨?_, by kernel_rfl⟩
  refine Bool.and_eq_true_iff.2 ⟨?_, examples.plain⟩
  refine Bool.and_eq_true_iff.2 ⟨?_, by kernel_rfl⟩
  refine Bool.and_eq_true_iff.2 ⟨?_, by kernel_rfl⟩
  refine Bool.and_eq_true_iff.2 ⟨?_, by kernel_rfl⟩
  refine Bool.and_eq_true_iff.2 ⟨?_, by kernel_rfl⟩
  refine Bool.and_eq_true_iff.2 ⟨?_, by kernel_rfl⟩
  refine Bool.and_eq_true_iff.2 ⟨?_, examples.loops⟩
  refine Bool.and_eq_true_iff.2 ⟨?_, by kernel_rfl⟩
  refine Bool.and_eq_true_iff.2 ⟨?_, by kernel_rfl⟩
  refine Bool.and_eq_true_iff.2 ⟨?_, by kernel_rfl⟩
  refine Bool.and_eq_true_iff.2 ⟨?_, examples.named⟩
  refine Bool.and_eq_true_iff.2 ⟨?_, examples.rec'⟩
  refine Bool.and_eq_true_iff.2 ⟨?_, examples.unf⟩
  refine Bool.and_eq_true_iff.2 ⟨?_, examples.inpl⟩
  refine Bool.and_eq_true_iff.2 ⟨?_, Shared.knobs⟩
  refine Bool.and_eq_true_iff.2 ⟨?_, by kernel_rfl⟩
  refine Bool.and_eq_true_iff.2 ⟨?_, Shared.stops⟩
  refine Bool.and_eq_true_iff.2 ⟨?_, by kernel_rfl⟩
  refine Bool.and_eq_true_iff.2 ⟨?_, by kernel_rfl⟩
  refine Bool.and_eq_true_iff.2 ⟨?_, by kernel_rfl⟩
  refine Bool.and_eq_true_iff.2 ⟨?_, Shared.mrow⟩
  refine Bool.and_eq_true_iff.2 ⟨?_, Shared.laid⟩
  kernel_rfl
theorem examples.holds : Rows.ServiceExamplesSaid :=
  OpenClaim.holds_of_wide 8 Tryz.f8 rfl rfl rfl rfl rfl rfl rfl ⟨rfl, rfl, rfl, rfl, rfl⟩ rfl rfl rfl rfl rfl examples.nm Tryz.func8 examples.closed
    (of_decide_eq_true (by kernel_rfl)) (by unfold Func.isWrapper; first | (rw [if_pos (by decide +kernel)]; kernel_rfl) | (rw [if_neg (by decide +kernel)]; exact ⟨rfl, rfl⟩))
    (fun os started H enc _ => examples.lifted os started H enc)
end Go.Proofs.YtncccnmmjfapnaaGreat
