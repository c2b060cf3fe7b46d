/-
  The chapter's limits, numbers of errors and examples.
  No condition.
-/
import Derived.Test.YtdnblflhlklfnaaRows
import Derived.Test.YtdnblflhlklfnaaJu
import Derived.Test.YtdnblflhlklfnaaJn
set_option linter.unusedVariables false
set_option linter.unusedSimpArgs false
set_option maxRecDepth 100000
namespace Go.Proofs.Ytdnblflhlklfnaa
open Go.ChangeShapes Go.WideShapes Go.ChangeAt Go.RowKit Go.Gx Go.Gx.Ix

theorem examples.frame (H : Type) (enc : TypeId × Value → H) (W : World) (vs : List Value) (hv : ∃ base, ∀ (j : Nat) t v, ([] : List TypeId)[j]? = some t → vs[j]? = some v → Value.okWide Try.prog W .any base t v)
    (ht : ∃ ds p, DataW.TrodAll enc Try.prog W 0 (fun _ => true) true [] vs ds p) : ∃ l, SV.relL (fun _ => none) (fun b => b < W.heap.size) W l vs ∧ Pure Try.prog 13 l (· = .b true) := by
  obtain ⟨base, hval⟩ := hv
  obtain ⟨ds, p, hA⟩ := ht
  obtain ⟨rfl, rfl, rfl⟩ := trodAll_nil hA
  exact ⟨[], rfl, law13⟩

theorem examples.lifted (os : Os) (started : os.Started) (H : Type) (enc : TypeId × Value → H) :
    ReturnsInHanded {} Try.checked os 13 .any (Rows.indexExamplesSpec.pre6 enc Try.prog Try.f13 Rows.indexExamplesRow.domain false) (Rows.indexExamplesSpec.post enc Try.prog Try.f13 false true false false) := by
  refine returnsInHanded_of_change (C := Try.checked) own_ started (by kernel_rfl) Try.func13
    (ChangeSpec.witness6 (enc := enc) (C := Try.checked) false ⟨#[], #[], []⟩ 8 (by kernel_rfl) (by kernel_rfl) (by kernel_rfl) (by kernel_rfl)) ?_
  intro W base args ds gs before hval hW _ _
  refine law_contract (ts := []) (tb := 4) laidOut_ (by rw [Try.params13]) (fun t ht => ?_) rfl Try.underlying4 rfl (fun ds hds => ?_) (examples.frame H enc) W base args ds gs before hval hW
  · simp at ht
  · match ds, hds with
    | [], _ => rfl

theorem examples.holds : Rows.IndexExamplesSaid :=
  OpenClaim.holds_of_wide 13 Try.f13 rfl rfl rfl rfl rfl rfl rfl ⟨rfl, rfl, rfl, rfl, rfl⟩ rfl rfl rfl rfl rfl (by kernel_rfl) Try.func13 (by kernel_rfl)
    (of_decide_eq_true (by kernel_rfl)) (by unfold Func.isWrapper; first | (rw [if_pos (by decide +kernel)]; kernel_rfl) | (rw [if_neg (by decide +kernel)]; exact ⟨rfl, rfl⟩))
    (fun os started H enc _ => examples.lifted os started H enc)
end Go.Proofs.Ytdnblflhlklfnaa
