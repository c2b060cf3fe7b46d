/-
  For any members, number of turns and limit: Pairs has exactly the pairs of members that match, each once, in order; each of them finds the other one in a search.
  No condition.
-/
import Derived.Test.YtdnblflhlklfnaaRows
import Derived.Test.YtdnblflhlklfnaaJu
import Derived.Test.YtdnblflhlklfnaaJk
set_option linter.unusedVariables false
set_option linter.unusedSimpArgs false
set_option maxRecDepth 100000
namespace Go.Proofs.Ytdnblflhlklfnaa
open Go.ChangeShapes Go.WideShapes Go.ChangeAt Go.RowKit Go.Gx Go.Gx.Ix

theorem twins.frame (H : Type) (enc : TypeId × Value → H) (W : World) (vs : List Value) (hv : ∃ base, ∀ (j : Nat) t v, [22, 3, 58][j]? = some t → vs[j]? = some v → Value.okWide Try.prog W .any base t v)
    (ht : ∃ ds p, DataW.TrodAll enc Try.prog W 0 (fun _ => true) true [22, 3, 58] vs ds p) : ∃ l, SV.relL (fun _ => none) (fun b => b < W.heap.size) W l vs ∧ Pure Try.prog 10 l (· = .b true) := by
  obtain ⟨base, hval⟩ := hv
  obtain ⟨ds, p, hA⟩ := ht
  obtain ⟨v0, vs0, d0, ds0, p0, q0, rfl, rfl, rfl, h0, hA0⟩ := trodAll_cons hA
  obtain ⟨v1, vs1, d1, ds1, p1, q1, rfl, rfl, rfl, h1, hA1⟩ := trodAll_cons hA0
  obtain ⟨v2, vs2, d2, ds2, p2, q2, rfl, rfl, rfl, h2, hA2⟩ := trodAll_cons hA1
  obtain ⟨rfl, rfl, rfl⟩ := trodAll_nil hA2
  obtain ⟨g0, hg0⟩ := mem_arg (hval 0 22 v0 rfl rfl) h0
  obtain ⟨g1, rfl, ha1, hz1⟩ := int_arg (hval 1 3 v1 rfl rfl) h1
  obtain ⟨g2, hg2⟩ := limit_arg (hval 2 58 v2 rfl rfl) h2
  exact ⟨[mrs g0, .i g1, limS g2.1 g2.2], ⟨_, _, rfl, hg0 _, ⟨_, _, rfl, rfl, ⟨_, _, rfl, hg2 _, rfl⟩⟩⟩, law10 g0 g1 g2.1 g2.2 ha1 hz1⟩

theorem twins.lifted (os : Os) (started : os.Started) (H : Type) (enc : TypeId × Value → H) :
    ReturnsInHanded {} Try.checked os 10 .any (Rows.indexTwinsSpec.pre6 enc Try.prog Try.f10 Rows.indexTwinsRow.domain false) (Rows.indexTwinsSpec.post enc Try.prog Try.f10 false true false false) := by
  refine returnsInHanded_of_change (C := Try.checked) own_ started (by kernel_rfl) Try.func10
    (ChangeSpec.witness6 (enc := enc) (C := Try.checked) false ⟨#[], #[.slice none 0 0, .int .i64 0, .agg #[.int .i64 0, .int .i64 0]], []⟩ 8 (by kernel_rfl) (by kernel_rfl) (by kernel_rfl) (by kernel_rfl)) ?_
  intro W base args ds gs before hval hW _ _
  refine law_contract (ts := [22, 3, 58]) (tb := 4) laidOut_ (by rw [Try.params10]) (fun t ht => ?_) rfl Try.underlying4 rfl (fun ds hds => ?_) (twins.frame H enc) W base args ds gs before hval hW
  · simp only [List.mem_cons, List.not_mem_nil, or_false] at ht
    rcases ht with rfl | rfl | rfl <;> exact ⟨by kernel_rfl, of_decide_eq_true (by kernel_rfl)⟩
  · match ds, hds with
    | [d0, d1, d2], _ => rfl

theorem twins.holds : Rows.IndexTwinsSaid :=
  OpenClaim.holds_of_wide 10 Try.f10 rfl rfl rfl rfl rfl rfl rfl ⟨rfl, rfl, rfl, rfl, rfl⟩ rfl rfl rfl rfl rfl (by kernel_rfl) Try.func10 (by kernel_rfl)
    (of_decide_eq_true (by kernel_rfl)) (by unfold Func.isWrapper; first | (rw [if_pos (by decide +kernel)]; kernel_rfl) | (rw [if_neg (by decide +kernel)]; exact ⟨rfl, rfl⟩))
    (fun os started H enc _ => twins.lifted os started H enc)
end Go.Proofs.Ytdnblflhlklfnaa
