/-
  For any service that is not great, record, code, quality and details: two services that differ in what is erased are the same after the record was removed.
  No condition.
-/
import Derived.Test.YtncccnmmjfapnaaGreatRows
import Derived.Test.YtncccnmmjfapnaaGreatZak
import Derived.Test.YtncccnmmjfapnaaGreatZxv
set_option linter.unusedVariables false
set_option linter.unusedSimpArgs false
set_option maxRecDepth 100000
namespace Go.Proofs.YtncccnmmjfapnaaGreat
open Go.ChangeShapes Go.WideShapes Go.ChangeAt Go.RowKit Go.Gx Go.Gx.Ix Go.Gx.Sr

theorem erased.frame (H : Type) (enc : TypeId × Value → H) (W : World) (vs : List Value) (hv : ∃ base, ∀ (j : Nat) t v, [43, 3, 45, 3, 145][j]? = some t → vs[j]? = some v → Value.okWide Tryz.prog W .any base t v)
    (ht : ∃ ds p, DataW.TrodAll enc Tryz.prog W 0 (fun _ => true) true [43, 3, 45, 3, 145] vs ds p) : ∃ l, SV.relL (fun _ => none) (fun b => b < W.heap.size) W l vs ∧ Pure Tryz.prog 14 l (· = .b true) := by
  obtain ⟨base, hval⟩ := hv
  obtain ⟨ds, p, hA⟩ := ht
  obtain ⟨v0, vs0, d0, ds0, p0, q0, rfl, rfl, rfl, h0, hA0⟩ := trodAll_cons hA
  obtain ⟨v1, vs1, d1, ds1, p1, q1, rfl, rfl, rfl, h1, hA1⟩ := trodAll_cons hA0
  obtain ⟨v2, vs2, d2, ds2, p2, q2, rfl, rfl, rfl, h2, hA2⟩ := trodAll_cons hA1
  obtain ⟨v3, vs3, d3, ds3, p3, q3, rfl, rfl, rfl, h3, hA3⟩ := trodAll_cons hA2
  obtain ⟨v4, vs4, d4, ds4, p4, q4, rfl, rfl, rfl, h4, hA4⟩ := trodAll_cons hA3
  obtain ⟨rfl, rfl, rfl⟩ := trodAll_nil hA4
  obtain ⟨g0, hb0, hg0⟩ := service_arg (hval 0 43 v0 rfl rfl) h0
  obtain ⟨g1, rfl, ha1, hz1⟩ := Rg.int_arg (hval 1 3 v1 rfl rfl) h1
  obtain ⟨g2, hg2⟩ := Ix.iris_arg (hval 2 45 v2 rfl rfl) h2
  obtain ⟨g3, rfl, ha3, hz3⟩ := Rg.int_arg (hval 3 3 v3 rfl rfl) h3
  obtain ⟨g4, hg4⟩ := words_arg (hval 4 145 v4 rfl rfl) h4
  exact ⟨[g0.sv, .i g1, g2.sv, .i g3, wds g4], ⟨_, _, rfl, hg0 _, ⟨_, _, rfl, rfl, ⟨_, _, rfl, hg2 _, ⟨_, _, rfl, rfl, ⟨_, _, rfl, hg4 _, rfl⟩⟩⟩⟩⟩, law14 g0 g1 g2 g3 g4 hb0 ha1 hz1 ha3 hz3⟩

theorem erased.lifted (os : Os) (started : os.Started) (H : Type) (enc : TypeId × Value → H) :
    ReturnsInHanded {} Tryz.checked os 14 .any (Rows.serviceErasedSpec.pre6 enc Tryz.prog Tryz.f14 Rows.serviceErasedRow.domain false) (Rows.serviceErasedSpec.post enc Tryz.prog Tryz.f14 false true false false) := by
  refine returnsInHanded_of_change (C := Tryz.checked) Ix.own_ started (by kernel_rfl) Tryz.func14
    (ChangeSpec.witness6 (enc := enc) (C := Tryz.checked) false ⟨#[], #[.agg #[.int .i64 0, .int .i64 0, .int .i64 0, .int .i64 0, .int .u64 0, .int .i64 0, .slice none 0 0, .slice none 0 0, .slice none 0 0, .slice none 0 0, .slice none 0 0, .slice none 0 0, .slice none 0 0, .slice none 0 0, .slice none 0 0, .slice none 0 0, .slice none 0 0], .int .i64 0, .agg #[.int .u64 0, .int .u64 0], .int .i64 0, .slice none 0 0], []⟩ 8 (by kernel_rfl) (by kernel_rfl) (by kernel_rfl) (by kernel_rfl)) ?_
  intro W base args ds gs before hval hW _ _
  refine law_contract (ts := [43, 3, 45, 3, 145]) (tb := 4) Ix.laidOut_ (by rw [Tryz.params14]) (fun t ht => ?_) rfl Tryz.underlying4 rfl (fun ds hds => ?_) (erased.frame H enc) W base args ds gs before hval hW
  · simp only [List.mem_cons, List.not_mem_nil, or_false] at ht
    rcases ht with rfl | rfl | rfl | rfl | rfl <;> exact ⟨by kernel_rfl, of_decide_eq_true (by kernel_rfl)⟩
  · match ds, hds with
    | [d0, d1, d2, d3, d4], _ => rfl

theorem erased.nm : Tryz.pinned.checked.prog.funcNamed Rows.serviceErasedRow.func = some 14 := by kernel_rfl
theorem erased.inpl : (Rows.serviceErasedRow.inPlace == Tryz.pinned.checked.prog.inPlace 14) = true := by kernel_rfl
theorem erased.unf : (Rows.serviceErasedRow.unfollowed == Tryz.pinned.checked.prog.unfollowed 14) = true := by kernel_rfl
theorem erased.rec' : (Rows.serviceErasedRow.recurses == Tryz.pinned.checked.prog.recurses 14) = true := by kernel_rfl
theorem erased.named : (Rows.serviceErasedRow.named == Tryz.pinned.checked.prog.varsNamed 14) = true := by kernel_rfl
theorem erased.loops : (Rows.serviceErasedRow.loops == (Tryz.f14.params.toList ++ Rows.serviceErasedSpec.plain.varTypes Tryz.pinned.checked.prog).any (Tryz.pinned.checked.prog.loopsFrom ·)) = true := by kernel_rfl
theorem erased.plain : (Rows.serviceErasedRow.plainKeys == Tryz.pinned.checked.prog.plainKeys) = true := by rw [Shared.plain]; kernel_rfl
theorem erased.lift : (Rows.serviceErasedRow.lifted == Tryz.pinned.checked.prog.liftsFinal) = true := by rw [Shared.lift]; kernel_rfl
theorem erased.make : (Tryz.pinned.checked.prog.make == some Rows.serviceErasedRow.make) = true := by rw [Shared.make]; kernel_rfl
theorem erased.closed : joinedFacts Tryz.pinned.checked.prog 14 Tryz.f14 Rows.serviceErasedSpec Rows.serviceErasedRow = true := by
  unfold joinedFacts
  refine Bool.and_eq_true_iff.2 ⟨?_, by kernel_rfl⟩
  refine Bool.and_eq_true_iff.2 ⟨?_, by kernel_rfl⟩
  refine Bool.and_eq_true_iff.2 ⟨?_, by kernel_rfl⟩
  refine Bool.and_eq_true_iff.2 ⟨?_, by kernel_rfl⟩
  refine Bool.and_eq_true_iff.2 ⟨?_, erased.make⟩
  refine Bool.and_eq_true_iff.2 ⟨?_, erased.lift⟩
  refine Bool.and_eq_true_iff.2 ⟨?_, Shared.may⟩
  refine Bool.and_eq_true_iff.2 ⟨?_, Shared.heard⟩
  refine Bool.and_eq_true_iff.2 ⟨?_, by kernel_rfl⟩
  refine Bool.and_eq_true_iff.2 ⟨?_, erased.plain⟩
  refine Bool.and_eq_true_iff.2 ⟨?_, by kernel_rfl⟩
  refine Bool.and_eq_true_iff.2 ⟨?_, by kernel_rfl⟩
  refine Bool.and_eq_true_iff.2 ⟨?_, by kernel_rfl⟩
  refine Bool.and_eq_true_iff.2 ⟨?_, by kernel_rfl⟩
  refine Bool.and_eq_true_iff.2 ⟨?_, by kernel_rfl⟩
  refine Bool.and_eq_true_iff.2 ⟨?_, erased.loops⟩
  refine Bool.and_eq_true_iff.2 ⟨?_, by kernel_rfl⟩
  refine Bool.and_eq_true_iff.2 ⟨?_, by kernel_rfl⟩
  refine Bool.and_eq_true_iff.2 ⟨?_, by kernel_rfl⟩
  refine Bool.and_eq_true_iff.2 ⟨?_, erased.named⟩
  refine Bool.and_eq_true_iff.2 ⟨?_, erased.rec'⟩
  refine Bool.and_eq_true_iff.2 ⟨?_, erased.unf⟩
  refine Bool.and_eq_true_iff.2 ⟨?_, erased.inpl⟩
  refine Bool.and_eq_true_iff.2 ⟨?_, Shared.knobs⟩
  refine Bool.and_eq_true_iff.2 ⟨?_, by kernel_rfl⟩
  refine Bool.and_eq_true_iff.2 ⟨?_, Shared.stops⟩
  refine Bool.and_eq_true_iff.2 ⟨?_, by kernel_rfl⟩
  refine Bool.and_eq_true_iff.2 ⟨?_, by kernel_rfl⟩
  refine Bool.and_eq_true_iff.2 ⟨?_, by kernel_rfl⟩
  refine Bool.and_eq_true_iff.2 ⟨?_, Shared.mrow⟩
  refine Bool.and_eq_true_iff.2 ⟨?_, Shared.laid⟩
  kernel_rfl
theorem erased.holds : Rows.ServiceErasedSaid :=
  OpenClaim.holds_of_wide 14 Tryz.f14 rfl rfl rfl rfl rfl rfl rfl ⟨rfl, rfl, rfl, rfl, rfl⟩ rfl rfl rfl rfl rfl erased.nm Tryz.func14 erased.closed
    (of_decide_eq_true (by kernel_rfl)) (by unfold Func.isWrapper; first | (rw [if_pos (by decide +kernel)]; kernel_rfl) | (rw [if_neg (by decide +kernel)]; exact ⟨rfl, rfl⟩))
    (fun os started H enc _ => erased.lifted os started H enc)
end Go.Proofs.YtncccnmmjfapnaaGreat
