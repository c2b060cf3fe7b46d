/-
  For any members: the index does not depend on the order in which they are added.
  No condition.
-/
import Derived.Test.YtdnblflhlklfnaaRows
import Derived.Test.YtdnblflhlklfnaaJu
import Derived.Test.YtdnblflhlklfnaaJj
set_option linter.unusedVariables false
set_option linter.unusedSimpArgs false
set_option maxRecDepth 100000
namespace Go.Proofs.Ytdnblflhlklfnaa
open Go.ChangeShapes Go.WideShapes Go.ChangeAt Go.RowKit Go.Gx Go.Gx.Ix

theorem order.frame (H : Type) (enc : TypeId × Value → H) (W : World) (vs : List Value) (hv : ∃ base, ∀ (j : Nat) t v, [22][j]? = some t → vs[j]? = some v → Value.okWide Try.prog W .any base t v)
    (ht : ∃ ds p, DataW.TrodAll enc Try.prog W 0 (fun _ => true) true [22] vs ds p) : ∃ l, SV.relL (fun _ => none) (fun b => b < W.heap.size) W l vs ∧ Pure Try.prog 7 l (· = .b true) := by
  obtain ⟨base, hval⟩ := hv
  obtain ⟨ds, p, hA⟩ := ht
  obtain ⟨v0, vs0, d0, ds0, p0, q0, rfl, rfl, rfl, h0, hA0⟩ := trodAll_cons hA
  obtain ⟨rfl, rfl, rfl⟩ := trodAll_nil hA0
  obtain ⟨g0, hg0⟩ := mem_arg (hval 0 22 v0 rfl rfl) h0
  exact ⟨[mrs g0], ⟨_, _, rfl, hg0 _, rfl⟩, law7 g0 ⟩

theorem order.lifted (os : Os) (started : os.Started) (H : Type) (enc : TypeId × Value → H) :
    ReturnsInHanded {} Try.checked os 7 .any (Rows.indexOrderSpec.pre6 enc Try.prog Try.f7 Rows.indexOrderRow.domain false) (Rows.indexOrderSpec.post enc Try.prog Try.f7 false true false false) := by
  refine returnsInHanded_of_change (C := Try.checked) own_ started (by kernel_rfl) Try.func7
    (ChangeSpec.witness6 (enc := enc) (C := Try.checked) false ⟨#[], #[.slice none 0 0], []⟩ 8 (by kernel_rfl) (by kernel_rfl) (by kernel_rfl) (by kernel_rfl)) ?_
  intro W base args ds gs before hval hW _ _
  refine law_contract (ts := [22]) (tb := 4) laidOut_ (by rw [Try.params7]) (fun t ht => ?_) rfl Try.underlying4 rfl (fun ds hds => ?_) (order.frame H enc) W base args ds gs before hval hW
  · simp only [List.mem_cons, List.not_mem_nil, or_false] at ht
    rcases ht with rfl <;> exact ⟨by kernel_rfl, of_decide_eq_true (by kernel_rfl)⟩
  · match ds, hds with
    | [d0], _ => rfl

theorem order.holds : Rows.IndexOrderSaid :=
  OpenClaim.holds_of_wide 7 Try.f7 rfl rfl rfl rfl rfl rfl rfl ⟨rfl, rfl, rfl, rfl, rfl⟩ rfl rfl rfl rfl rfl (by kernel_rfl) Try.func7 (by kernel_rfl)
    (of_decide_eq_true (by kernel_rfl)) (by unfold Func.isWrapper; first | (rw [if_pos (by decide +kernel)]; kernel_rfl) | (rw [if_neg (by decide +kernel)]; exact ⟨rfl, rfl⟩))
    (fun os started H enc _ => order.lifted os started H enc)
end Go.Proofs.Ytdnblflhlklfnaa
