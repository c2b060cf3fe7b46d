/-
  For any members, number of shards, probe, number of turns and limit: Merge of the parts of Split is the index; the searches in the parts find together what the search in the index finds, and see together as many.
  No condition.
-/
import Derived.Test.YtdnblflhlklfnaaRows
import Derived.Test.YtdnblflhlklfnaaJu
import Derived.Test.YtdnblflhlklfnaaJm
set_option linter.unusedVariables false
set_option linter.unusedSimpArgs false
set_option maxRecDepth 100000
namespace Go.Proofs.Ytdnblflhlklfnaa
open Go.ChangeShapes Go.WideShapes Go.ChangeAt Go.RowKit Go.Gx Go.Gx.Ix

theorem shards.frame (H : Type) (enc : TypeId × Value → H) (W : World) (vs : List Value) (hv : ∃ base, ∀ (j : Nat) t v, [22, 3, 41, 3, 58][j]? = some t → vs[j]? = some v → Value.okWide Try.prog W .any base t v)
    (ht : ∃ ds p, DataW.TrodAll enc Try.prog W 0 (fun _ => true) true [22, 3, 41, 3, 58] vs ds p) : ∃ l, SV.relL (fun _ => none) (fun b => b < W.heap.size) W l vs ∧ Pure Try.prog 14 l (· = .b true) := by
  obtain ⟨base, hval⟩ := hv
  obtain ⟨ds, p, hA⟩ := ht
  obtain ⟨v0, vs0, d0, ds0, p0, q0, rfl, rfl, rfl, h0, hA0⟩ := trodAll_cons hA
  obtain ⟨v1, vs1, d1, ds1, p1, q1, rfl, rfl, rfl, h1, hA1⟩ := trodAll_cons hA0
  obtain ⟨v2, vs2, d2, ds2, p2, q2, rfl, rfl, rfl, h2, hA2⟩ := trodAll_cons hA1
  obtain ⟨v3, vs3, d3, ds3, p3, q3, rfl, rfl, rfl, h3, hA3⟩ := trodAll_cons hA2
  obtain ⟨v4, vs4, d4, ds4, p4, q4, rfl, rfl, rfl, h4, hA4⟩ := trodAll_cons hA3
  obtain ⟨rfl, rfl, rfl⟩ := trodAll_nil hA4
  obtain ⟨g0, hg0⟩ := mem_arg (hval 0 22 v0 rfl rfl) h0
  obtain ⟨g1, rfl, ha1, hz1⟩ := int_arg (hval 1 3 v1 rfl rfl) h1
  obtain ⟨g2, hg2⟩ := iris_arg (hval 2 41 v2 rfl rfl) h2
  obtain ⟨g3, rfl, ha3, hz3⟩ := int_arg (hval 3 3 v3 rfl rfl) h3
  obtain ⟨g4, hg4⟩ := limit_arg (hval 4 58 v4 rfl rfl) h4
  exact ⟨[mrs g0, .i g1, g2.sv, .i g3, limS g4.1 g4.2], ⟨_, _, rfl, hg0 _, ⟨_, _, rfl, rfl, ⟨_, _, rfl, hg2 _, ⟨_, _, rfl, rfl, ⟨_, _, rfl, hg4 _, rfl⟩⟩⟩⟩⟩, law14 g0 g1 g2 g3 g4.1 g4.2 ha1 hz1 ha3 hz3⟩

theorem shards.lifted (os : Os) (started : os.Started) (H : Type) (enc : TypeId × Value → H) :
    ReturnsInHanded {} Try.checked os 14 .any (Rows.indexShardsSpec.pre6 enc Try.prog Try.f14 Rows.indexShardsRow.domain false) (Rows.indexShardsSpec.post enc Try.prog Try.f14 false true false false) := by
  refine returnsInHanded_of_change (C := Try.checked) own_ started (by kernel_rfl) Try.func14
    (ChangeSpec.witness6 (enc := enc) (C := Try.checked) false ⟨#[], #[.slice none 0 0, .int .i64 0, .agg #[.int .u64 0, .int .u64 0], .int .i64 0, .agg #[.int .i64 0, .int .i64 0]], []⟩ 8 (by kernel_rfl) (by kernel_rfl) (by kernel_rfl) (by kernel_rfl)) ?_
  intro W base args ds gs before hval hW _ _
  refine law_contract (ts := [22, 3, 41, 3, 58]) (tb := 4) laidOut_ (by rw [Try.params14]) (fun t ht => ?_) rfl Try.underlying4 rfl (fun ds hds => ?_) (shards.frame H enc) W base args ds gs before hval hW
  · simp only [List.mem_cons, List.not_mem_nil, or_false] at ht
    rcases ht with rfl | rfl | rfl | rfl | rfl <;> exact ⟨by kernel_rfl, of_decide_eq_true (by kernel_rfl)⟩
  · match ds, hds with
    | [d0, d1, d2, d3, d4], _ => rfl

theorem shards.holds : Rows.IndexShardsSaid :=
  OpenClaim.holds_of_wide 14 Try.f14 rfl rfl rfl rfl rfl rfl rfl ⟨rfl, rfl, rfl, rfl, rfl⟩ rfl rfl rfl rfl rfl (by kernel_rfl) Try.func14 (by kernel_rfl)
    (of_decide_eq_true (by kernel_rfl)) (by unfold Func.isWrapper; first | (rw [if_pos (by decide +kernel)]; kernel_rfl) | (rw [if_neg (by decide +kernel)]; exact ⟨rfl, rfl⟩))
    (fun os started H enc _ => shards.lifted os started H enc)
end Go.Proofs.Ytdnblflhlklfnaa
