/-
  For any setup, services that are not great and an order that is not great: New, the checks and Same are as the reference says.
  No condition.
-/
import Derived.Test.YtncccnmmjfapnaaGreatRows
import Derived.Test.YtncccnmmjfapnaaGreatZaj
import Derived.Test.YtncccnmmjfapnaaGreatZam
set_option linter.unusedVariables false
set_option linter.unusedSimpArgs false
set_option maxRecDepth 100000
namespace Go.Proofs.YtncccnmmjfapnaaGreat
open Go.ChangeShapes Go.WideShapes Go.ChangeAt Go.RowKit Go.Gx Go.Gx.Ix Go.Gx.Sr

theorem setups.frame (H : Type) (enc : TypeId × Value → H) (W : World) (vs : List Value) (hv : ∃ base, ∀ (j : Nat) t v, [26, 43, 43, 66][j]? = some t → vs[j]? = some v → Value.okWide Tryz.prog W .any base t v)
    (ht : ∃ ds p, DataW.TrodAll enc Tryz.prog W 0 (fun _ => true) true [26, 43, 43, 66] vs ds p) : ∃ l, SV.relL (fun _ => none) (fun b => b < W.heap.size) W l vs ∧ Pure Tryz.prog 4 l (· = .b true) := by
  obtain ⟨base, hval⟩ := hv
  obtain ⟨ds, p, hA⟩ := ht
  obtain ⟨v0, vs0, d0, ds0, p0, q0, rfl, rfl, rfl, h0, hA0⟩ := trodAll_cons hA
  obtain ⟨v1, vs1, d1, ds1, p1, q1, rfl, rfl, rfl, h1, hA1⟩ := trodAll_cons hA0
  obtain ⟨v2, vs2, d2, ds2, p2, q2, rfl, rfl, rfl, h2, hA2⟩ := trodAll_cons hA1
  obtain ⟨v3, vs3, d3, ds3, p3, q3, rfl, rfl, rfl, h3, hA3⟩ := trodAll_cons hA2
  obtain ⟨rfl, rfl, rfl⟩ := trodAll_nil hA3
  obtain ⟨g0, hg0⟩ := setup_arg (hval 0 26 v0 rfl rfl) h0
  obtain ⟨g1, hb1, hg1⟩ := service_arg (hval 1 43 v1 rfl rfl) h1
  obtain ⟨g2, hb2, hg2⟩ := service_arg (hval 2 43 v2 rfl rfl) h2
  obtain ⟨g3, hb3, hg3⟩ := order_arg (hval 3 66 v3 rfl rfl) h3
  exact ⟨[g0.ss, g1.sv, g2.sv, g3.sv], ⟨_, _, rfl, hg0 _, ⟨_, _, rfl, hg1 _, ⟨_, _, rfl, hg2 _, ⟨_, _, rfl, hg3 _, rfl⟩⟩⟩⟩, law4 g0 g1 g2 g3 hb1 hb2 hb3⟩

theorem setups.lifted (os : Os) (started : os.Started) (H : Type) (enc : TypeId × Value → H) :
    ReturnsInHanded {} Tryz.checked os 4 .any (Rows.serviceSetupsSpec.pre6 enc Tryz.prog Tryz.f4 Rows.serviceSetupsRow.domain false) (Rows.serviceSetupsSpec.post enc Tryz.prog Tryz.f4 false true false false) := by
  refine returnsInHanded_of_change (C := Tryz.checked) Ix.own_ started (by kernel_rfl) Tryz.func4
    (ChangeSpec.witness6 (enc := enc) (C := Tryz.checked) false ⟨#[], #[.agg #[.int .i64 0, .int .i64 0, .int .i64 0, .int .i64 0, .int .u64 0], .agg #[.int .i64 0, .int .i64 0, .int .i64 0, .int .i64 0, .int .u64 0, .int .i64 0, .slice none 0 0, .slice none 0 0, .slice none 0 0, .slice none 0 0, .slice none 0 0, .slice none 0 0, .slice none 0 0, .slice none 0 0, .slice none 0 0, .slice none 0 0, .slice none 0 0], .agg #[.int .i64 0, .int .i64 0, .int .i64 0, .int .i64 0, .int .u64 0, .int .i64 0, .slice none 0 0, .slice none 0 0, .slice none 0 0, .slice none 0 0, .slice none 0 0, .slice none 0 0, .slice none 0 0, .slice none 0 0, .slice none 0 0, .slice none 0 0, .slice none 0 0], .agg #[.int .u8 0, .int .i64 0, .int .i64 0, .int .i64 0, .bool false, .int .u64 0, .int .u64 0, .int .u64 0, .int .i64 0, .int .i64 0, .int .i64 0, .int .i64 0, .int .i64 0, .int .i64 0, .int .i64 0, .int .u8 0, .int .i64 0, .int .i64 0, .int .i64 0, .int .i64 0, .int .i64 0, .int .i64 0, .int .i64 0, .int .i64 0, .int .i64 0, .int .i64 0, .int .i64 0, .int .i64 0, .int .i64 0, .int .i64 0, .int .i64 0, .int .i64 0, .int .i64 0, .slice none 0 0]], []⟩ 8 (by kernel_rfl) (by kernel_rfl) (by kernel_rfl) (by kernel_rfl)) ?_
  intro W base args ds gs before hval hW _ _
  refine law_contract (ts := [26, 43, 43, 66]) (tb := 4) Ix.laidOut_ (by rw [Tryz.params4]) (fun t ht => ?_) rfl Tryz.underlying4 rfl (fun ds hds => ?_) (setups.frame H enc) W base args ds gs before hval hW
  · simp only [List.mem_cons, List.not_mem_nil, or_false] at ht
    rcases ht with rfl | rfl | rfl | rfl <;> exact ⟨by kernel_rfl, of_decide_eq_true (by kernel_rfl)⟩
  · match ds, hds with
    | [d0, d1, d2, d3], _ => rfl

theorem setups.nm : Tryz.pinned.checked.prog.funcNamed Rows.serviceSetupsRow.func = some 4 := by kernel_rfl
theorem setups.inpl : (Rows.serviceSetupsRow.inPlace == Tryz.pinned.checked.prog.inPlace 4) = true := by kernel_rfl
theorem setups.unf : (Rows.serviceSetupsRow.unfollowed == Tryz.pinned.checked.prog.unfollowed 4) = true := by kernel_rfl
theorem setups.rec' : (Rows.serviceSetupsRow.recurses == Tryz.pinned.checked.prog.recurses 4) = true := by kernel_rfl
theorem setups.named : (Rows.serviceSetupsRow.named == Tryz.pinned.checked.prog.varsNamed 4) = true := by kernel_rfl
theorem setups.loops : (Rows.serviceSetupsRow.loops == (Tryz.f4.params.toList ++ Rows.serviceSetupsSpec.plain.varTypes Tryz.pinned.checked.prog).any (Tryz.pinned.checked.prog.loopsFrom ·)) = true := by kernel_rfl
theorem setups.plain : (Rows.serviceSetupsRow.plainKeys == Tryz.pinned.checked.prog.plainKeys) = true := by rw [Shared.plain]; kernel_rfl
theorem setups.lift : (Rows.serviceSetupsRow.lifted == Tryz.pinned.checked.prog.liftsFinal) = true := by rw [Shared.lift]; kernel_rfl
theorem setups.make : (Tryz.pinned.checked.prog.make == some Rows.serviceSetupsRow.make) = true := by rw [Shared.make]; kernel_rfl
theorem setups.closed : joinedFacts Tryz.pinned.checked.prog 4 Tryz.f4 Rows.serviceSetupsSpec Rows.serviceSetupsRow = true := by
  unfold joinedFacts
  refine Bool.and_eq_true_iff.2 ⟨?_, by kernel_rfl⟩
  refine Bool.and_eq_true_iff.2 ⟨?_, by kernel_rfl⟩
  refine Bool.and_eq_true_iff.2 ⟨?_, by kernel_rfl⟩
  refine Bool.and_eq_true_iff.2 ⟨?_, by kernel_rfl⟩
  refine Bool.and_eq_true_iff.2 ⟨?_, setups.make⟩
  refine Bool.and_eq_true_iff.2 ⟨?_, setups.lift⟩
  refine Bool.and_eq_true_iff.2 ⟨?_, Shared.may⟩
  refine Bool.and_eq_true_iff.2 ⟨?_, Shared.heard⟩
  refine Bool.and_eq_true_iff.2 ⟨?_, by kernel_rfl⟩
  refine Bool.and_eq_true_iff.2 ⟨?_, setups.plain⟩
  refine Bool.and_eq_true_iff.2 ⟨?_, by kernel_rfl⟩
  refine Bool.and_eq_true_iff.2 ⟨?_, by kernel_rfl⟩
  refine Bool.and_eq_true_iff.2 ⟨?_, by kernel_rfl⟩
  refine Bool.and_eq_true_iff.2 ⟨?_, by kernel_rfl⟩
  refine Bool.and_eq_true_iff.2 ⟨?_, by kernel_rfl⟩
  refine Bool.and_eq_true_iff.2 ⟨?_, setups.loops⟩
  refine Bool.and_eq_true_iff.2 ⟨?_, by kernel_rfl⟩
  refine Bool.and_eq_true_iff.2 ⟨?_, by kernel_rfl⟩
  refine Bool.and_eq_true_iff.2 ⟨?_, by kernel_rfl⟩
  refine Bool.and_eq_true_iff.2 ⟨?_, setups.named⟩
  refine Bool.and_eq_true_iff.2 ⟨?_, setups.rec'⟩
  refine Bool.and_eq_true_iff.2 ⟨?_, setups.unf⟩
  refine Bool.and_eq_true_iff.2 ⟨?_, setups.inpl⟩
  refine Bool.and_eq_true_iff.2 ⟨?_, Shared.knobs⟩
  refine Bool.and_eq_true_iff.2 ⟨?_, by kernel_rfl⟩
  refine Bool.and_eq_true_iff.2 ⟨?_, Shared.stops⟩
  refine Bool.and_eq_true_iff.2 ⟨?_, by kernel_rfl⟩
  refine Bool.and_eq_true_iff.2 ⟨?_, by kernel_rfl⟩
  refine Bool.and_eq_true_iff.2 ⟨?_, by kernel_rfl⟩
  refine Bool.and_eq_true_iff.2 ⟨?_, Shared.mrow⟩
  refine Bool.and_eq_true_iff.2 ⟨?_, Shared.laid⟩
  kernel_rfl
theorem setups.holds : Rows.ServiceSetupsSaid :=
  OpenClaim.holds_of_wide 4 Tryz.f4 rfl rfl rfl rfl rfl rfl rfl ⟨rfl, rfl, rfl, rfl, rfl⟩ rfl rfl rfl rfl rfl setups.nm Tryz.func4 setups.closed
    (of_decide_eq_true (by kernel_rfl)) (by unfold Func.isWrapper; first | (rw [if_pos (by decide +kernel)]; kernel_rfl) | (rw [if_neg (by decide +kernel)]; exact ⟨rfl, rfl⟩))
    (fun os started H enc _ => setups.lifted os started H enc)
end Go.Proofs.YtncccnmmjfapnaaGreat
