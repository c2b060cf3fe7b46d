/-
 For any setup and up to 150 orders, or more than 300, that are not great: Run hands back what the reference says.
 No condition.
-/
import Derived.Test.YtncccnmmjfapnaaGreatRows
import Derived.Test.YtncccnmmjfapnaaGreatZak
import Derived.Test.YtncccnmmjfapnaaGreatZbb
set_option linter.unusedVariables false
set_option linter.unusedSimpArgs false
set_option maxRecDepth 100000
namespace Go.Proofs.YtncccnmmjfapnaaGreat
open Go.ChangeShapes Go.WideShapes Go.ChangeAt Go.RowKit Go.Gx Go.Gx.Ix Go.Gx.Sr
theorem runs.frame (H : Type) (enc : TypeId × Value -> H) (W : World) (vs : List Value) (hv : ∃ base, ∀ (j : Nat) t v, [26, 94][j]? = some t -> vs[j]? = some v -> Value.okWide Tryz.prog W .any base t v)
 (ht : ∃ ds p, DataW.TrodAll enc Tryz.prog W 0 (fun _ => true) true [26, 94] vs ds p) : ∃ l, SV.relL (fun _ => none) (fun b => b < W.heap.size) W l vs /\ Pure Tryz.prog 6 l (· = .b true) := by
 obtain ⟨base, hval⟩ := hv;obtain ⟨ds, p, hA⟩ := ht;obtain ⟨v0, vs0, d0, ds0, p0, q0, rfl, rfl, rfl, h0, hA0⟩ := trodAll_cons hA;obtain ⟨v1, vs1, d1, ds1, p1, q1, rfl, rfl, rfl, h1, hA1⟩ := trodAll_cons hA0;obtain ⟨rfl, rfl, rfl⟩ := trodAll_nil hA1;obtain ⟨g0, hg0⟩ := aM9 (hval 0 26 v0 rfl rfl) h0;obtain ⟨g1, hb1, hg1⟩ := aJ5 (hval 1 94 v1 rfl rfl) h1;exact ⟨[g0.ss, oJ g1], ⟨_, _, rfl, hg0 _, ⟨_, _, rfl, hg1 _, rfl⟩⟩, bJ5 g0 g1 hb1⟩
theorem runs.lifted (os : Os) (started : os.Started) (H : Type) (enc : TypeId × Value -> H) :
 ReturnsInHanded {} Tryz.checked os 6 .any (Rows.serviceRunsSpec.pre6 enc Tryz.prog Tryz.f6 Rows.serviceRunsRow.domain false) (Rows.serviceRunsSpec.post enc Tryz.prog Tryz.f6 false true false false) := by
 refine returnsInHanded_of_change (C := Tryz.checked) Ix.own_ started κ Tryz.func6
  (ChangeSpec.witness6 (enc := enc) (C := Tryz.checked) false ⟨#[], #[.agg #[.int .i64 0, .int .i64 0, .int .i64 0, .int .i64 0, .int .u64 0], .slice none 0 0], []⟩ 8 κ κ κ κ) ?_
 intro W base args ds gs before hval hW _ _;refine aD3 (ts := [26, 94]) (tb := 4) Ix.laidOut_ (by rw [Tryz.params6]) (fun t ht => ?_) rfl Tryz.underlying4 rfl (fun ds hds => ?_) (runs.frame H enc) W base args ds gs before hval hW
 · simp only [List.mem_cons, List.not_mem_nil, or_false] at ht
   rcases ht with rfl | rfl <;> exact ⟨κ, of_decide_eq_true κ⟩
 · match ds, hds with
   | [d0, d1], _ => rfl
theorem runs.nm : Tryz.pinned.checked.prog.funcNamed Rows.serviceRunsRow.func = some 6 := by kernel_rfl
theorem runs.inpl : (Rows.serviceRunsRow.inPlace == Tryz.pinned.checked.prog.inPlace 6) = true := by kernel_rfl
theorem runs.unf : (Rows.serviceRunsRow.unfollowed == Tryz.pinned.checked.prog.unfollowed 6) = true := by kernel_rfl
theorem runs.rec' : (Rows.serviceRunsRow.recurses == Tryz.pinned.checked.prog.recurses 6) = true := by kernel_rfl
theorem runs.named : (Rows.serviceRunsRow.named == Tryz.pinned.checked.prog.varsNamed 6) = true := by kernel_rfl
theorem runs.loops : (Rows.serviceRunsRow.loops == (Tryz.f6.params.toList ++ Rows.serviceRunsSpec.plain.varTypes Tryz.pinned.checked.prog).any (Tryz.pinned.checked.prog.loopsFrom ·)) = true := by kernel_rfl
theorem runs.plain : (Rows.serviceRunsRow.plainKeys == Tryz.pinned.checked.prog.plainKeys) = true := by rw [Shared.plain]; kernel_rfl
theorem runs.lift : (Rows.serviceRunsRow.lifted == Tryz.pinned.checked.prog.liftsFinal) = true := by rw [Shared.lift]; kernel_rfl
theorem runs.make : (Tryz.pinned.checked.prog.make == some Rows.serviceRunsRow.make) = true := by rw [Shared.make]; kernel_rfl
theorem runs.closed : joinedFacts Tryz.pinned.checked.prog 6 Tryz.f6 Rows.serviceRunsSpec Rows.serviceRunsRow = true := by
 unfold joinedFacts;refine Bool.and_eq_true_iff.2 ⟨?_, by kernel_rfl⟩;refine Bool.and_eq_true_iff.2 ⟨?_, by kernel_rfl⟩;refine Bool.and_eq_true_iff.2 ⟨?_, by kernel_rfl⟩;refine Bool.and_eq_true_iff.2 ⟨?_, by kernel_rfl⟩;refine Bool.and_eq_true_iff.2 ⟨?_, runs.make⟩;refine Bool.and_eq_true_iff.2 ⟨?_, runs.lift⟩;refine Bool.and_eq_true_iff.2 ⟨?_, Shared.may⟩;refine Bool.and_eq_true_iff.2 ⟨?_, Shared.heard⟩;refine Bool.and_eq_true_iff.2 ⟨?_, by kernel_rfl⟩;refine Bool.and_eq_true_iff.2 ⟨?_, runs.plain⟩;refine Bool.and_eq_true_iff.2 ⟨?_, by kernel_rfl⟩;refine Bool.and_eq_true_iff.2 ⟨?_, by kernel_rfl⟩;refine Bool.and_eq_true_iff.2 ⟨?_, by kernel_rfl⟩;refine Bool.and_eq_true_iff.2 ⟨?_, by kernel_rfl⟩;refine Bool.and_eq_true_iff.2 ⟨?_, by kernel_rfl⟩;refine Bool.and_eq_true_iff.2 ⟨?_, runs.loops⟩;refine Bool.and_eq_true_iff.2 ⟨?_, by kernel_rfl⟩;refine Bool.and_eq_true_iff.2 ⟨?_, by kernel_rfl⟩;refine Bool.and_eq_true_iff.2 ⟨?_, by kernel_rfl⟩;refine Bool.and_eq_true_iff.2 ⟨?_, runs.named⟩;refine Bool.and_eq_true_iff.2 ⟨?_, runs.rec'⟩;refine Bool.and_eq_true_iff.2 ⟨?_, runs.unf⟩;refine Bool.and_eq_true_iff.2 ⟨?_, runs.inpl⟩;refine Bool.and_eq_true_iff.2 ⟨?_, Shared.knobs⟩;refine Bool.and_eq_true_iff.2 ⟨?_, by kernel_rfl⟩;refine Bool.and_eq_true_iff.2 ⟨?_, Shared.stops⟩;refine Bool.and_eq_true_iff.2 ⟨?_, by kernel_rfl⟩;refine Bool.and_eq_true_iff.2 ⟨?_, by kernel_rfl⟩;refine Bool.and_eq_true_iff.2 ⟨?_, by kernel_rfl⟩;refine Bool.and_eq_true_iff.2 ⟨?_, Shared.mrow⟩;refine Bool.and_eq_true_iff.2 ⟨?_, Shared.laid⟩;kernel_rfl
theorem runs.holds : Rows.ServiceRunsSaid :=
 OpenClaim.holds_of_wide 6 Tryz.f6 rfl rfl rfl rfl rfl rfl rfl ⟨rfl, rfl, rfl, rfl, rfl⟩ rfl rfl rfl rfl rfl runs.nm Tryz.func6 runs.closed
  (of_decide_eq_true κ) (by unfold Func.isWrapper; first | (rw [if_pos (by decide +kernel)]; kernel_rfl) | (rw [if_neg (by decide +kernel)]; exact ⟨rfl, rfl⟩))
  (fun os started H enc _ => runs.lifted os started H enc)
end Go.Proofs.YtncccnmmjfapnaaGreat
