/-
 For any service and order that are not great: Step hands back what the reference says, in memory of its own: what is written in it later changes neither the service nor the order that were handed in.
 No condition.
-/
import Derived.Test.YtncccnmmjfapnaaGreatRows
import Derived.Test.YtncccnmmjfapnaaGreatZaj
import Derived.Test.YtncccnmmjfapnaaGreatZay
set_option linter.unusedVariables false
set_option linter.unusedSimpArgs false
set_option maxRecDepth 100000
namespace Go.Proofs.YtncccnmmjfapnaaGreat
open Go.ChangeShapes Go.WideShapes Go.ChangeAt Go.RowKit Go.Gx Go.Gx.Ix Go.Gx.Sr
theorem steps.frame (H : Type) (enc : TypeId × Value -> H) (W : World) (vs : List Value) (hv : ∃ base, ∀ (j : Nat) t v, [43, 66][j]? = some t -> vs[j]? = some v -> Value.okWide Tryz.prog W .any base t v)
 (ht : ∃ ds p, DataW.TrodAll enc Tryz.prog W 0 (fun _ => true) true [43, 66] vs ds p) : ∃ l, SV.relL (fun _ => none) (fun b => b < W.heap.size) W l vs /\ PureK Tryz.prog 7 l (· = .b true) := by
 obtain ⟨base, hval⟩ := hv;obtain ⟨ds, p, hA⟩ := ht;obtain ⟨v0, vs0, d0, ds0, p0, q0, rfl, rfl, rfl, h0, hA0⟩ := trodAll_cons hA;obtain ⟨v1, vs1, d1, ds1, p1, q1, rfl, rfl, rfl, h1, hA1⟩ := trodAll_cons hA0;obtain ⟨rfl, rfl, rfl⟩ := trodAll_nil hA1;obtain ⟨g0, hb0, hg0⟩ := aGl (hval 0 43 v0 rfl rfl) h0;obtain ⟨g1, hb1, hg1⟩ := aNe (hval 1 66 v1 rfl rfl) h1;exact ⟨[g0.sv, g1.sv], ⟨_, _, rfl, hg0 _, ⟨_, _, rfl, hg1 _, rfl⟩⟩, bI2 g0 g1 hb0 hb1.1⟩
theorem steps.lifted (os : Os) (started : os.Started) (H : Type) (enc : TypeId × Value -> H) :
 ReturnsInHanded {} Tryz.checked os 7 .any (Rows.serviceStepsSpec.pre6 enc Tryz.prog Tryz.f7 Rows.serviceStepsRow.domain false) (Rows.serviceStepsSpec.post enc Tryz.prog Tryz.f7 false true false false) := by
 refine returnsInHanded_of_change (C := Tryz.checked) Ix.own_ started κ Tryz.func7
  (ChangeSpec.witness6 (enc := enc) (C := Tryz.checked) false ⟨#[], #[.agg #[.int .i64 0, .int .i64 0, .int .i64 0, .int .i64 0, .int .u64 0, .int .i64 0, .slice none 0 0, .slice none 0 0, .slice none 0 0, .slice none 0 0, .slice none 0 0, .slice none 0 0, .slice none 0 0, .slice none 0 0, .slice none 0 0, .slice none 0 0, .slice none 0 0], .agg #[.int .u8 0, .int .i64 0, .int .i64 0, .int .i64 0, .bool false, .int .u64 0, .int .u64 0, .int .u64 0, .int .i64 0, .int .i64 0, .int .i64 0, .int .i64 0, .int .i64 0, .int .i64 0, .int .i64 0, .int .u8 0, .int .i64 0, .int .i64 0, .int .i64 0, .int .i64 0, .int .i64 0, .int .i64 0, .int .i64 0, .int .i64 0, .int .i64 0, .int .i64 0, .int .i64 0, .int .i64 0, .int .i64 0, .int .i64 0, .int .i64 0, .int .i64 0, .int .i64 0, .slice none 0 0]], []⟩ 8 κ κ κ κ) ?_
 intro W base args ds gs before hval hW _ _;refine aAq (ts := [43, 66]) (tb := 4) Ix.laidOut_ (by rw [Tryz.params7]) (fun t ht => ?_) rfl Tryz.underlying4 rfl (fun ds hds => ?_) (steps.frame H enc) W base args ds gs before hval hW
 · simp only [List.mem_cons, List.not_mem_nil, or_false] at ht
   rcases ht with rfl | rfl <;> exact ⟨κ, of_decide_eq_true κ⟩
 · match ds, hds with
   | [d0, d1], _ => rfl
theorem steps.nm : Tryz.pinned.checked.prog.funcNamed Rows.serviceStepsRow.func = some 7 := by kernel_rfl
theorem steps.inpl : (Rows.serviceStepsRow.inPlace == Tryz.pinned.checked.prog.inPlace 7) = true := by kernel_rfl
theorem steps.unf : (Rows.serviceStepsRow.unfollowed == Tryz.pinned.checked.prog.unfollowed 7) = true := by kernel_rfl
theorem steps.rec' : (Rows.serviceStepsRow.recurses == Tryz.pinned.checked.prog.recurses 7) = true := by kernel_rfl
theorem steps.named : (Rows.serviceStepsRow.named == Tryz.pinned.checked.prog.varsNamed 7) = true := by kernel_rfl
theorem steps.loops : (Rows.serviceStepsRow.loops == (Tryz.f7.params.toList ++ Rows.serviceStepsSpec.plain.varTypes Tryz.pinned.checked.prog).any (Tryz.pinned.checked.prog.loopsFrom ·)) = true := by kernel_rfl
theorem steps.plain : (Rows.serviceStepsRow.plainKeys == Tryz.pinned.checked.prog.plainKeys) = true := by rw [Shared.plain]; kernel_rfl
theorem steps.lift : (Rows.serviceStepsRow.lifted == Tryz.pinned.checked.prog.liftsFinal) = true := by rw [Shared.lift]; kernel_rfl
theorem steps.make : (Tryz.pinned.checked.prog.make == some Rows.serviceStepsRow.make) = true := by rw [Shared.make]; kernel_rfl
theorem steps.closed : joinedFacts Tryz.pinned.checked.prog 7 Tryz.f7 Rows.serviceStepsSpec Rows.serviceStepsRow = true := by
 unfold joinedFacts;refine Bool.and_eq_true_iff.2 ⟨?_, by kernel_rfl⟩;refine Bool.and_eq_true_iff.2 ⟨?_, by kernel_rfl⟩;refine Bool.and_eq_true_iff.2 ⟨?_, by kernel_rfl⟩;refine Bool.and_eq_true_iff.2 ⟨?_, by kernel_rfl⟩;refine Bool.and_eq_true_iff.2 ⟨?_, steps.make⟩;refine Bool.and_eq_true_iff.2 ⟨?_, steps.lift⟩;refine Bool.and_eq_true_iff.2 ⟨?_, Shared.may⟩;refine Bool.and_eq_true_iff.2 ⟨?_, Shared.heard⟩;refine Bool.and_eq_true_iff.2 ⟨?_, by kernel_rfl⟩;refine Bool.and_eq_true_iff.2 ⟨?_, steps.plain⟩;refine Bool.and_eq_true_iff.2 ⟨?_, by kernel_rfl⟩;refine Bool.and_eq_true_iff.2 ⟨?_, by kernel_rfl⟩;refine Bool.and_eq_true_iff.2 ⟨?_, by kernel_rfl⟩;refine Bool.and_eq_true_iff.2 ⟨?_, by kernel_rfl⟩;refine Bool.and_eq_true_iff.2 ⟨?_, by kernel_rfl⟩;refine Bool.and_eq_true_iff.2 ⟨?_, steps.loops⟩;refine Bool.and_eq_true_iff.2 ⟨?_, by kernel_rfl⟩;refine Bool.and_eq_true_iff.2 ⟨?_, by kernel_rfl⟩;refine Bool.and_eq_true_iff.2 ⟨?_, by kernel_rfl⟩;refine Bool.and_eq_true_iff.2 ⟨?_, steps.named⟩;refine Bool.and_eq_true_iff.2 ⟨?_, steps.rec'⟩;refine Bool.and_eq_true_iff.2 ⟨?_, steps.unf⟩;refine Bool.and_eq_true_iff.2 ⟨?_, steps.inpl⟩;refine Bool.and_eq_true_iff.2 ⟨?_, Shared.knobs⟩;refine Bool.and_eq_true_iff.2 ⟨?_, by kernel_rfl⟩;refine Bool.and_eq_true_iff.2 ⟨?_, Shared.stops⟩;refine Bool.and_eq_true_iff.2 ⟨?_, by kernel_rfl⟩;refine Bool.and_eq_true_iff.2 ⟨?_, by kernel_rfl⟩;refine Bool.and_eq_true_iff.2 ⟨?_, by kernel_rfl⟩;refine Bool.and_eq_true_iff.2 ⟨?_, Shared.mrow⟩;refine Bool.and_eq_true_iff.2 ⟨?_, Shared.laid⟩;kernel_rfl
theorem steps.holds : Rows.ServiceStepsSaid :=
 OpenClaim.holds_of_wide 7 Tryz.f7 rfl rfl rfl rfl rfl rfl rfl ⟨rfl, rfl, rfl, rfl, rfl⟩ rfl rfl rfl rfl rfl steps.nm Tryz.func7 steps.closed
  (of_decide_eq_true κ) (by unfold Func.isWrapper; first | (rw [if_pos (by decide +kernel)]; kernel_rfl) | (rw [if_neg (by decide +kernel)]; exact ⟨rfl, rfl⟩))
  (fun os started H enc _ => steps.lifted os started H enc)
end Go.Proofs.YtncccnmmjfapnaaGreat
