/-
  For any service and order: without a rule nothing is said, and the service stays.
  No condition.
-/
import Derived.Test.YtncccnmmjfapnaaGreatRows
import Derived.Test.YtncccnmmjfapnaaGreatZak
import Derived.Test.YtncccnmmjfapnaaGreatZxk
set_option linter.unusedVariables false
set_option linter.unusedSimpArgs false
set_option maxRecDepth 100000
namespace Go.Proofs.YtncccnmmjfapnaaGreat
open Go.ChangeShapes Go.WideShapes Go.ChangeAt Go.RowKit Go.Gx Go.Gx.Ix Go.Gx.Sr

theorem silent.frame (H : Type) (enc : TypeId × Value → H) (W : World) (vs : List Value) (hv : ∃ base, ∀ (j : Nat) t v, [43, 66][j]? = some t → vs[j]? = some v → Value.okWide Tryz.prog W .any base t v)
    (ht : ∃ ds p, DataW.TrodAll enc Tryz.prog W 0 (fun _ => true) true [43, 66] vs ds p) : ∃ l, SV.relL (fun _ => none) (fun b => b < W.heap.size) W l vs ∧ Pure Tryz.prog 11 l (· = .b true) := by
  obtain ⟨base, hval⟩ := hv
  obtain ⟨ds, p, hA⟩ := ht
  obtain ⟨v0, vs0, d0, ds0, p0, q0, rfl, rfl, rfl, h0, hA0⟩ := trodAll_cons hA
  obtain ⟨v1, vs1, d1, ds1, p1, q1, rfl, rfl, rfl, h1, hA1⟩ := trodAll_cons hA0
  obtain ⟨rfl, rfl, rfl⟩ := trodAll_nil hA1
  obtain ⟨g0, hb0, hg0⟩ := service_arg (hval 0 43 v0 rfl rfl) h0
  obtain ⟨g1, hb1, hg1⟩ := order_arg (hval 1 66 v1 rfl rfl) h1
  exact ⟨[g0.sv, g1.sv], ⟨_, _, rfl, hg0 _, ⟨_, _, rfl, hg1 _, rfl⟩⟩, law11 g0 g1 hb0 hb1⟩

theorem silent.lifted (os : Os) (started : os.Started) (H : Type) (enc : TypeId × Value → H) :
    ReturnsInHanded {} Tryz.checked os 11 .any (Rows.serviceSilentSpec.pre6 enc Tryz.prog Tryz.f11 Rows.serviceSilentRow.domain false) (Rows.serviceSilentSpec.post enc Tryz.prog Tryz.f11 false true false false) := by
  refine returnsInHanded_of_change (C := Tryz.checked) Ix.own_ started (by kernel_rfl) Tryz.func11
    (ChangeSpec.witness6 (enc := enc) (C := Tryz.checked) false ⟨#[], #[.agg #[.int .i64 0, .int .i64 0, .int .i64 0, .int .i64 0, .int .u64 0, .int .i64 0, .slice none 0 0, .slice none 0 0, .slice none 0 0, .slice none 0 0, .slice none 0 0, .slice none 0 0, .slice none 0 0, .slice none 0 0, .slice none 0 0, .slice none 0 0, .slice none 0 0], .agg #[.int .u8 0, .int .i64 0, .int .i64 0, .int .i64 0, .bool false, .int .u64 0, .int .u64 0, .int .u64 0, .int .i64 0, .int .i64 0, .int .i64 0, .int .i64 0, .int .i64 0, .int .i64 0, .int .i64 0, .int .u8 0, .int .i64 0, .int .i64 0, .int .i64 0, .int .i64 0, .int .i64 0, .int .i64 0, .int .i64 0, .int .i64 0, .int .i64 0, .int .i64 0, .int .i64 0, .int .i64 0, .int .i64 0, .int .i64 0, .int .i64 0, .int .i64 0, .int .i64 0, .slice none 0 0]], []⟩ 8 (by kernel_rfl) (by kernel_rfl) (by kernel_rfl) (by kernel_rfl)) ?_
  intro W base args ds gs before hval hW _ _
  refine law_contract (ts := [43, 66]) (tb := 4) Ix.laidOut_ (by rw [Tryz.params11]) (fun t ht => ?_) rfl Tryz.underlying4 rfl (fun ds hds => ?_) (silent.frame H enc) W base args ds gs before hval hW
  · simp only [List.mem_cons, List.not_mem_nil, or_false] at ht
    rcases ht with rfl | rfl <;> exact ⟨by kernel_rfl, of_decide_eq_true (by kernel_rfl)⟩
  · match ds, hds with
    | [d0, d1], _ => rfl

theorem silent.nm : Tryz.pinned.checked.prog.funcNamed Rows.serviceSilentRow.func = some 11 := by kernel_rfl
theorem silent.inpl : (Rows.serviceSilentRow.inPlace == Tryz.pinned.checked.prog.inPlace 11) = true := by kernel_rfl
theorem silent.unf : (Rows.serviceSilentRow.unfollowed == Tryz.pinned.checked.prog.unfollowed 11) = true := by kernel_rfl
theorem silent.rec' : (Rows.serviceSilentRow.recurses == Tryz.pinned.checked.prog.recurses 11) = true := by kernel_rfl
theorem silent.named : (Rows.serviceSilentRow.named == Tryz.pinned.checked.prog.varsNamed 11) = true := by kernel_rfl
theorem silent.loops : (Rows.serviceSilentRow.loops == (Tryz.f11.params.toList ++ Rows.serviceSilentSpec.plain.varTypes Tryz.pinned.checked.prog).any (Tryz.pinned.checked.prog.loopsFrom ·)) = true := by kernel_rfl
theorem silent.plain : (Rows.serviceSilentRow.plainKeys == Tryz.pinned.checked.prog.plainKeys) = true := by rw [Shared.plain]; kernel_rfl
theorem silent.lift : (Rows.serviceSilentRow.lifted == Tryz.pinned.checked.prog.liftsFinal) = true := by rw [Shared.lift]; kernel_rfl
theorem silent.make : (Tryz.pinned.checked.prog.make == some Rows.serviceSilentRow.make) = true := by rw [Shared.make]; kernel_rfl
theorem silent.closed : joinedFacts Tryz.pinned.checked.prog 11 Tryz.f11 Rows.serviceSilentSpec Rows.serviceSilentRow = true := by
  unfold joinedFacts
  refine Bool.and_eq_true_iff.2 ⟨?_, by kernel_rfl⟩
  refine Bool.and_eq_true_iff.2 ⟨?_, by kernel_rfl⟩
  refine Bool.and_eq_true_iff.2 ⟨?_, by kernel_rfl⟩
  refine Bool.and_eq_true_iff.2 ⟨?_, by kernel_rfl⟩
  refine Bool.and_eq_true_iff.2 ⟨?_, silent.make⟩
  refine Bool.and_eq_true_iff.2 ⟨?_, silent.lift⟩
  refine Bool.and_eq_true_iff.2 ⟨?_, Shared.may⟩
  refine Bool.and_eq_true_iff.2 ⟨?_, Shared.heard⟩
  refine Bool.and_eq_true_iff.2 ⟨?_, by kernel_rfl⟩
  refine Bool.and_eq_true_iff.2 ⟨?_, silent.plain⟩
  refine Bool.and_eq_true_iff.2 ⟨?_, by kernel_rfl⟩
  refine Bool.and_eq_true_iff.2 ⟨?_, by kernel_rfl⟩
  refine Bool.and_eq_true_iff.2 ⟨?_, by kernel_rfl⟩
  refine Bool.and_eq_true_iff.2 ⟨?_, by kernel_rfl⟩
  refine Bool.and_eq_true_iff.2 ⟨?_, by kernel_rfl⟩
  refine Bool.and_eq_true_iff.2 ⟨?_, silent.loops⟩
  refine Bool.and_eq_true_iff.2 ⟨?_, by kernel_rfl⟩
  refine Bool.and_eq_true_iff.2 ⟨?_, by kernel_rfl⟩
  refine Bool.and_eq_true_iff.2 ⟨?_, by kernel_rfl⟩
  refine Bool.and_eq_true_iff.2 ⟨?_, silent.named⟩
  refine Bool.and_eq_true_iff.2 ⟨?_, silent.rec'⟩
  refine Bool.and_eq_true_iff.2 ⟨?_, silent.unf⟩
  refine Bool.and_eq_true_iff.2 ⟨?_, silent.inpl⟩
  refine Bool.and_eq_true_iff.2 ⟨?_, Shared.knobs⟩
  refine Bool.and_eq_true_iff.2 ⟨?_, by kernel_rfl⟩
  refine Bool.and_eq_true_iff.2 ⟨?_, Shared.stops⟩
  refine Bool.and_eq_true_iff.2 ⟨?_, by kernel_rfl⟩
  refine Bool.and_eq_true_iff.2 ⟨?_, by kernel_rfl⟩
  refine Bool.and_eq_true_iff.2 ⟨?_, by kernel_rfl⟩
  refine Bool.and_eq_true_iff.2 ⟨?_, Shared.mrow⟩
  refine Bool.and_eq_true_iff.2 ⟨?_, Shared.laid⟩
  kernel_rfl
theorem silent.holds : Rows.ServiceSilentSaid :=
  OpenClaim.holds_of_wide 11 Tryz.f11 rfl rfl rfl rfl rfl rfl rfl ⟨rfl, rfl, rfl, rfl, rfl⟩ rfl rfl rfl rfl rfl silent.nm Tryz.func11 silent.closed
    (of_decide_eq_true (by kernel_rfl)) (by unfold Func.isWrapper; first | (rw [if_pos (by decide +kernel)]; kernel_rfl) | (rw [if_neg (by decide +kernel)]; exact ⟨rfl, rfl⟩))
    (fun os started H enc _ => silent.lifted os started H enc)
end Go.Proofs.YtncccnmmjfapnaaGreat
