/-
  No cell of these rows narrows 'for every input' (looked for: loops, veiled, ifaces, maps, wideKeys, modest, calm, conditions, laid).
  DERIVED. THE GIVEN ROWS OF THIS SEAT. 13 by the template 'for every input the law returns true; each argument reads behind the call as it read before'; 0 by the template 'total and deterministic' (their statements: YtncccnmmjfapnaaGreatTotals.lean).
  GIVEN WITH THE SEED: the statements are not yours to turn. If you find one false, say at which input.
  Laid BY PROGRAM, IN A SANDBOX (cutbox-rows.mjs): the forced cells as the released guide's own fill.sh prints them over the translation 51bbc55cb2367289… (all of the seat's roots in one cut). By AI agents, Wed Nov 11 2026. No macro, syntax, notation, axiom, sorry.
-/
import Derived.Test.YtncccnmmjfapnaaGreatChecked
import GoSem.Claim
import GoSem.ClaimJoined
import GoSem.ClaimMapViews
import Derived.JoinedTies
import Derived.KernelRfl
namespace Go.Proofs.YtncccnmmjfapnaaGreat
/- THE CELL 'sum', in the pinned program and in every row, IS THE sha256 OF THE DUMP (.gsa) THAT YtncccnmmjfapnaaGreatProg.lean LOADS. Nothing in Lean hashes anything: it is a label: what it is worth is what the hold of that sum in a sandbox is worth. -/
noncomputable def Tryz.pinned : Pinned := { name := "ytncccnmmjfapnaagreat", sum := "51bbc55cb236728976610c486d612c6883539e1ac90e867e46b05bea40c1f552", checked := Tryz.checked }
namespace Rows
def none {H : Type} : Left H := { results := [], args := [] }

/-- 'whorllaw12.ServiceVerified': WHATEVER THE INPUT: true; the input reads as it did. -/
def serviceVerifiedSpec : ChangeSpec := { name := "serviceVerified", fn := fun _ => fun
  | [d1, d2, d3, d4] => { results := [.lit (.bool true)], args := [d1, d2, d3, d4] }
  | _ => none }
def serviceVerifiedRow : OpenClaim := { program := "ytncccnmmjfapnaagreat", sum := "51bbc55cb236728976610c486d612c6883539e1ac90e867e46b05bea40c1f552", func := "whorl/whorllaw12.ServiceVerified", spec := "serviceVerified", inPlace := ["slices.overlaps[whorl/api.Case]", "slices.overlaps[whorl/api.Link]", "slices.overlaps[whorl/api.Consent]", "slices.overlaps[whorl/api.Mark]", "slices.overlaps[whorl/api.Posting]"], unfollowed := true, recurses := true, apart := false }
def ServiceVerifiedSaid : Prop := serviceVerifiedRow.holds Tryz.pinned (OpenSpec.ofChange serviceVerifiedSpec)

/-- ITS FALSE NEIGHBOUR: 'it returns false'. Refute it at one input. -/
def serviceVerifiedWrong : ChangeSpec := { name := "serviceVerified", fn := fun _ => fun
  | [d1, d2, d3, d4] => { results := [.lit (.bool false)], args := [d1, d2, d3, d4] }
  | _ => none }
def ServiceVerifiedWrongFalsely : Prop := serviceVerifiedRow.holds Tryz.pinned (OpenSpec.ofChange serviceVerifiedWrong)

/-- 'whorllaw12.ServiceSetups': WHATEVER THE INPUT: true; the input reads as it did. -/
def serviceSetupsSpec : ChangeSpec := { name := "serviceSetups", fn := fun _ => fun
  | [d1, d2, d3, d4] => { results := [.lit (.bool true)], args := [d1, d2, d3, d4] }
  | _ => none }
def serviceSetupsRow : OpenClaim := { program := "ytncccnmmjfapnaagreat", sum := "51bbc55cb236728976610c486d612c6883539e1ac90e867e46b05bea40c1f552", func := "whorl/whorllaw12.ServiceSetups", spec := "serviceSetups", unfollowed := true, recurses := true, apart := false }
def ServiceSetupsSaid : Prop := serviceSetupsRow.holds Tryz.pinned (OpenSpec.ofChange serviceSetupsSpec)

/-- ITS FALSE NEIGHBOUR: 'it returns false'. Refute it at one input. -/
def serviceSetupsWrong : ChangeSpec := { name := "serviceSetups", fn := fun _ => fun
  | [d1, d2, d3, d4] => { results := [.lit (.bool false)], args := [d1, d2, d3, d4] }
  | _ => none }
def ServiceSetupsWrongFalsely : Prop := serviceSetupsRow.holds Tryz.pinned (OpenSpec.ofChange serviceSetupsWrong)

/-- 'whorllaw12.ServiceGate': WHATEVER THE INPUT: true; the input reads as it did. -/
def serviceGateSpec : ChangeSpec := { name := "serviceGate", fn := fun _ => fun
  | [d1, d2, d3, d4, d5, d6] => { results := [.lit (.bool true)], args := [d1, d2, d3, d4, d5, d6] }
  | _ => none }
def serviceGateRow : OpenClaim := { program := "ytncccnmmjfapnaagreat", sum := "51bbc55cb236728976610c486d612c6883539e1ac90e867e46b05bea40c1f552", func := "whorl/whorllaw12.ServiceGate", spec := "serviceGate", inPlace := ["slices.overlaps[whorl/api.Case]", "slices.overlaps[whorl/api.Link]", "slices.overlaps[whorl/api.Consent]", "slices.overlaps[whorl/api.Mark]", "slices.overlaps[whorl/api.Posting]"], unfollowed := true, recurses := true, apart := false }
def ServiceGateSaid : Prop := serviceGateRow.holds Tryz.pinned (OpenSpec.ofChange serviceGateSpec)

/-- ITS FALSE NEIGHBOUR: 'it returns false'. Refute it at one input. -/
def serviceGateWrong : ChangeSpec := { name := "serviceGate", fn := fun _ => fun
  | [d1, d2, d3, d4, d5, d6] => { results := [.lit (.bool false)], args := [d1, d2, d3, d4, d5, d6] }
  | _ => none }
def ServiceGateWrongFalsely : Prop := serviceGateRow.holds Tryz.pinned (OpenSpec.ofChange serviceGateWrong)

/-- 'whorllaw12.ServiceRuns': WHATEVER THE INPUT: true; the input reads as it did. -/
def serviceRunsSpec : ChangeSpec := { name := "serviceRuns", fn := fun _ => fun
  | [d1, d2] => { results := [.lit (.bool true)], args := [d1, d2] }
  | _ => none }
def serviceRunsRow : OpenClaim := { program := "ytncccnmmjfapnaagreat", sum := "51bbc55cb236728976610c486d612c6883539e1ac90e867e46b05bea40c1f552", func := "whorl/whorllaw12.ServiceRuns", spec := "serviceRuns", inPlace := ["slices.overlaps[whorl/api.Case]", "slices.overlaps[whorl/api.Link]", "slices.overlaps[whorl/api.Consent]", "slices.overlaps[whorl/api.Mark]", "slices.overlaps[whorl/api.Posting]"], unfollowed := true, recurses := true, apart := false }
def ServiceRunsSaid : Prop := serviceRunsRow.holds Tryz.pinned (OpenSpec.ofChange serviceRunsSpec)

/-- ITS FALSE NEIGHBOUR: 'it returns false'. Refute it at one input. -/
def serviceRunsWrong : ChangeSpec := { name := "serviceRuns", fn := fun _ => fun
  | [d1, d2] => { results := [.lit (.bool false)], args := [d1, d2] }
  | _ => none }
def ServiceRunsWrongFalsely : Prop := serviceRunsRow.holds Tryz.pinned (OpenSpec.ofChange serviceRunsWrong)

/-- 'whorllaw12.ServiceSteps': WHATEVER THE INPUT: true; the input reads as it did. -/
def serviceStepsSpec : ChangeSpec := { name := "serviceSteps", fn := fun _ => fun
  | [d1, d2] => { results := [.lit (.bool true)], args := [d1, d2] }
  | _ => none }
def serviceStepsRow : OpenClaim := { program := "ytncccnmmjfapnaagreat", sum := "51bbc55cb236728976610c486d612c6883539e1ac90e867e46b05bea40c1f552", func := "whorl/whorllaw12.ServiceSteps", spec := "serviceSteps", inPlace := ["slices.overlaps[whorl/api.Case]", "slices.overlaps[whorl/api.Link]", "slices.overlaps[whorl/api.Consent]", "slices.overlaps[whorl/api.Mark]", "slices.overlaps[whorl/api.Posting]"], unfollowed := true, recurses := true, apart := false }
def ServiceStepsSaid : Prop := serviceStepsRow.holds Tryz.pinned (OpenSpec.ofChange serviceStepsSpec)

/-- ITS FALSE NEIGHBOUR: 'it returns false'. Refute it at one input. -/
def serviceStepsWrong : ChangeSpec := { name := "serviceSteps", fn := fun _ => fun
  | [d1, d2] => { results := [.lit (.bool false)], args := [d1, d2] }
  | _ => none }
def ServiceStepsWrongFalsely : Prop := serviceStepsRow.holds Tryz.pinned (OpenSpec.ofChange serviceStepsWrong)

/-- 'whorllaw12.ServiceExamples': WHATEVER THE INPUT: true; the input reads as it did. -/
def serviceExamplesSpec : ChangeSpec := { name := "serviceExamples", fn := fun _ => fun
  | [] => { results := [.lit (.bool true)], args := [] }
  | _ => none }
def serviceExamplesRow : OpenClaim := { program := "ytncccnmmjfapnaagreat", sum := "51bbc55cb236728976610c486d612c6883539e1ac90e867e46b05bea40c1f552", func := "whorl/whorllaw12.ServiceExamples", spec := "serviceExamples", inPlace := ["slices.overlaps[whorl/api.Case]", "slices.overlaps[whorl/api.Link]", "slices.overlaps[whorl/api.Consent]", "slices.overlaps[whorl/api.Mark]", "slices.overlaps[whorl/api.Posting]"], unfollowed := true, recurses := true, apart := false }
def ServiceExamplesSaid : Prop := serviceExamplesRow.holds Tryz.pinned (OpenSpec.ofChange serviceExamplesSpec)

/-- ITS FALSE NEIGHBOUR: 'it returns false'. Refute it at one input. -/
def serviceExamplesWrong : ChangeSpec := { name := "serviceExamples", fn := fun _ => fun
  | [] => { results := [.lit (.bool false)], args := [] }
  | _ => none }
def ServiceExamplesWrongFalsely : Prop := serviceExamplesRow.holds Tryz.pinned (OpenSpec.ofChange serviceExamplesWrong)

/-- 'whorllaw12.ServiceFinds': WHATEVER THE INPUT: true; the input reads as it did. -/
def serviceFindsSpec : ChangeSpec := { name := "serviceFinds", fn := fun _ => fun
  | [d1, d2] => { results := [.lit (.bool true)], args := [d1, d2] }
  | _ => none }
def serviceFindsRow : OpenClaim := { program := "ytncccnmmjfapnaagreat", sum := "51bbc55cb236728976610c486d612c6883539e1ac90e867e46b05bea40c1f552", func := "whorl/whorllaw12.ServiceFinds", spec := "serviceFinds", inPlace := ["slices.overlaps[whorl/api.Case]", "slices.overlaps[whorl/api.Link]", "slices.overlaps[whorl/api.Consent]", "slices.overlaps[whorl/api.Mark]", "slices.overlaps[whorl/api.Posting]"], unfollowed := true, recurses := true, apart := false }
def ServiceFindsSaid : Prop := serviceFindsRow.holds Tryz.pinned (OpenSpec.ofChange serviceFindsSpec)

/-- ITS FALSE NEIGHBOUR: 'it returns false'. Refute it at one input. -/
def serviceFindsWrong : ChangeSpec := { name := "serviceFinds", fn := fun _ => fun
  | [d1, d2] => { results := [.lit (.bool false)], args := [d1, d2] }
  | _ => none }
def ServiceFindsWrongFalsely : Prop := serviceFindsRow.holds Tryz.pinned (OpenSpec.ofChange serviceFindsWrong)

/-- 'whorllaw12.ServiceReasons': WHATEVER THE INPUT: true; the input reads as it did. -/
def serviceReasonsSpec : ChangeSpec := { name := "serviceReasons", fn := fun _ => fun
  | [d1, d2] => { results := [.lit (.bool true)], args := [d1, d2] }
  | _ => none }
def serviceReasonsRow : OpenClaim := { program := "ytncccnmmjfapnaagreat", sum := "51bbc55cb236728976610c486d612c6883539e1ac90e867e46b05bea40c1f552", func := "whorl/whorllaw12.ServiceReasons", spec := "serviceReasons", inPlace := ["slices.overlaps[whorl/api.Case]", "slices.overlaps[whorl/api.Link]", "slices.overlaps[whorl/api.Consent]", "slices.overlaps[whorl/api.Mark]", "slices.overlaps[whorl/api.Posting]"], unfollowed := true, recurses := true, apart := false }
def ServiceReasonsSaid : Prop := serviceReasonsRow.holds Tryz.pinned (OpenSpec.ofChange serviceReasonsSpec)

/-- ITS FALSE NEIGHBOUR: 'it returns false'. Refute it at one input. -/
def serviceReasonsWrong : ChangeSpec := { name := "serviceReasons", fn := fun _ => fun
  | [d1, d2] => { results := [.lit (.bool false)], args := [d1, d2] }
  | _ => none }
def ServiceReasonsWrongFalsely : Prop := serviceReasonsRow.holds Tryz.pinned (OpenSpec.ofChange serviceReasonsWrong)

/-- 'whorllaw12.ServiceSilent': WHATEVER THE INPUT: true; the input reads as it did. -/
def serviceSilentSpec : ChangeSpec := { name := "serviceSilent", fn := fun _ => fun
  | [d1, d2] => { results := [.lit (.bool true)], args := [d1, d2] }
  | _ => none }
def serviceSilentRow : OpenClaim := { program := "ytncccnmmjfapnaagreat", sum := "51bbc55cb236728976610c486d612c6883539e1ac90e867e46b05bea40c1f552", func := "whorl/whorllaw12.ServiceSilent", spec := "serviceSilent", inPlace := ["slices.overlaps[whorl/api.Case]", "slices.overlaps[whorl/api.Link]", "slices.overlaps[whorl/api.Consent]", "slices.overlaps[whorl/api.Mark]", "slices.overlaps[whorl/api.Posting]"], unfollowed := true, recurses := true, apart := false }
def ServiceSilentSaid : Prop := serviceSilentRow.holds Tryz.pinned (OpenSpec.ofChange serviceSilentSpec)

/-- ITS FALSE NEIGHBOUR: 'it returns false'. Refute it at one input. -/
def serviceSilentWrong : ChangeSpec := { name := "serviceSilent", fn := fun _ => fun
  | [d1, d2] => { results := [.lit (.bool false)], args := [d1, d2] }
  | _ => none }
def ServiceSilentWrongFalsely : Prop := serviceSilentRow.holds Tryz.pinned (OpenSpec.ofChange serviceSilentWrong)

/-- 'whorllaw12.ServiceKeeps': WHATEVER THE INPUT: true; the input reads as it did. -/
def serviceKeepsSpec : ChangeSpec := { name := "serviceKeeps", fn := fun _ => fun
  | [d1, d2] => { results := [.lit (.bool true)], args := [d1, d2] }
  | _ => none }
def serviceKeepsRow : OpenClaim := { program := "ytncccnmmjfapnaagreat", sum := "51bbc55cb236728976610c486d612c6883539e1ac90e867e46b05bea40c1f552", func := "whorl/whorllaw12.ServiceKeeps", spec := "serviceKeeps", inPlace := ["slices.overlaps[whorl/api.Case]", "slices.overlaps[whorl/api.Link]", "slices.overlaps[whorl/api.Consent]", "slices.overlaps[whorl/api.Mark]", "slices.overlaps[whorl/api.Posting]"], unfollowed := true, recurses := true, apart := false }
def ServiceKeepsSaid : Prop := serviceKeepsRow.holds Tryz.pinned (OpenSpec.ofChange serviceKeepsSpec)

/-- ITS FALSE NEIGHBOUR: 'it returns false'. Refute it at one input. -/
def serviceKeepsWrong : ChangeSpec := { name := "serviceKeeps", fn := fun _ => fun
  | [d1, d2] => { results := [.lit (.bool false)], args := [d1, d2] }
  | _ => none }
def ServiceKeepsWrongFalsely : Prop := serviceKeepsRow.holds Tryz.pinned (OpenSpec.ofChange serviceKeepsWrong)

/-- 'whorllaw12.ServiceCut': WHATEVER THE INPUT: true; the input reads as it did. -/
def serviceCutSpec : ChangeSpec := { name := "serviceCut", fn := fun _ => fun
  | [d1, d2] => { results := [.lit (.bool true)], args := [d1, d2] }
  | _ => none }
def serviceCutRow : OpenClaim := { program := "ytncccnmmjfapnaagreat", sum := "51bbc55cb236728976610c486d612c6883539e1ac90e867e46b05bea40c1f552", func := "whorl/whorllaw12.ServiceCut", spec := "serviceCut", inPlace := ["slices.overlaps[whorl/api.Case]", "slices.overlaps[whorl/api.Link]", "slices.overlaps[whorl/api.Consent]", "slices.overlaps[whorl/api.Mark]", "slices.overlaps[whorl/api.Posting]"], unfollowed := true, recurses := true, apart := false }
def ServiceCutSaid : Prop := serviceCutRow.holds Tryz.pinned (OpenSpec.ofChange serviceCutSpec)

/-- ITS FALSE NEIGHBOUR: 'it returns false'. Refute it at one input. -/
def serviceCutWrong : ChangeSpec := { name := "serviceCut", fn := fun _ => fun
  | [d1, d2] => { results := [.lit (.bool false)], args := [d1, d2] }
  | _ => none }
def ServiceCutWrongFalsely : Prop := serviceCutRow.holds Tryz.pinned (OpenSpec.ofChange serviceCutWrong)

/-- 'whorllaw12.ServiceErased': WHATEVER THE INPUT: true; the input reads as it did. -/
def serviceErasedSpec : ChangeSpec := { name := "serviceErased", fn := fun _ => fun
  | [d1, d2, d3, d4, d5] => { results := [.lit (.bool true)], args := [d1, d2, d3, d4, d5] }
  | _ => none }
def serviceErasedRow : OpenClaim := { program := "ytncccnmmjfapnaagreat", sum := "51bbc55cb236728976610c486d612c6883539e1ac90e867e46b05bea40c1f552", func := "whorl/whorllaw12.ServiceErased", spec := "serviceErased", inPlace := ["slices.overlaps[whorl/api.Case]", "slices.overlaps[whorl/api.Link]", "slices.overlaps[whorl/api.Consent]", "slices.overlaps[whorl/api.Mark]", "slices.overlaps[whorl/api.Posting]"], unfollowed := true, recurses := true, apart := false }
def ServiceErasedSaid : Prop := serviceErasedRow.holds Tryz.pinned (OpenSpec.ofChange serviceErasedSpec)

/-- ITS FALSE NEIGHBOUR: 'it returns false'. Refute it at one input. -/
def serviceErasedWrong : ChangeSpec := { name := "serviceErased", fn := fun _ => fun
  | [d1, d2, d3, d4, d5] => { results := [.lit (.bool false)], args := [d1, d2, d3, d4, d5] }
  | _ => none }
def ServiceErasedWrongFalsely : Prop := serviceErasedRow.holds Tryz.pinned (OpenSpec.ofChange serviceErasedWrong)

/-- 'whorllaw12.ServiceClean': WHATEVER THE INPUT: true; the input reads as it did. -/
def serviceCleanSpec : ChangeSpec := { name := "serviceClean", fn := fun _ => fun
  | [d1, d2, d3] => { results := [.lit (.bool true)], args := [d1, d2, d3] }
  | _ => none }
def serviceCleanRow : OpenClaim := { program := "ytncccnmmjfapnaagreat", sum := "51bbc55cb236728976610c486d612c6883539e1ac90e867e46b05bea40c1f552", func := "whorl/whorllaw12.ServiceClean", spec := "serviceClean", inPlace := ["slices.overlaps[whorl/api.Case]", "slices.overlaps[whorl/api.Link]", "slices.overlaps[whorl/api.Consent]", "slices.overlaps[whorl/api.Mark]", "slices.overlaps[whorl/api.Posting]"], unfollowed := true, recurses := true, apart := false }
def ServiceCleanSaid : Prop := serviceCleanRow.holds Tryz.pinned (OpenSpec.ofChange serviceCleanSpec)

/-- ITS FALSE NEIGHBOUR: 'it returns false'. Refute it at one input. -/
def serviceCleanWrong : ChangeSpec := { name := "serviceClean", fn := fun _ => fun
  | [d1, d2, d3] => { results := [.lit (.bool false)], args := [d1, d2, d3] }
  | _ => none }
def ServiceCleanWrongFalsely : Prop := serviceCleanRow.holds Tryz.pinned (OpenSpec.ofChange serviceCleanWrong)

/- THE SECOND FORM. 'bulk': how many values and letters a reading holds, each counted each time it is reached (what is shared counts as often as it is met; a slice's spare places count too). A statement '..UptoSaid' is the law's where the arguments, and the package variables that the reading takes, are together of bulk at most 1048576: NARROWER than '..Said'. Prove '..Said' where nothing that the law and all that it calls make is longer than what came in: it says more and counts as full. Else prove '..UptoSaid'. A law counts once. -/
mutual
def uptoBulk {H : Type} : DataW H → Nat
  | .lit (.string bytes) => bytes.length + 1
  | .lit _ => 1
  | .nil => 1
  | .ptr d => uptoBulk d + 1
  | .slice elems spare => uptoBulkAll elems + uptoBulkAll spare + 1
  | .agg parts => uptoBulkAll parts + 1
  | .iface _ d => uptoBulk d + 1
  | .map entries => uptoBulkEntries entries + 1
  | .held _ => 1
def uptoBulkAll {H : Type} : List (DataW H) → Nat
  | [] => 0
  | d :: r => uptoBulk d + uptoBulkAll r
def uptoBulkEntries {H : Type} : List (Lit × DataW H) → Nat
  | [] => 0
  | x :: r => uptoBulkEntry x + uptoBulkEntries r
def uptoBulkEntry {H : Type} : Lit × DataW H → Nat
  | (.string bytes, d) => bytes.length + uptoBulk d + 1
  | (_, d) => uptoBulk d + 1
 end
def uptoSmall : (H : Type) → List (DataW H) → Bool := fun _ ds => decide (uptoBulkAll ds ≤ 1048576)
def OpenSpec.upto (s : _root_.Go.ChangeSpec) : _root_.Go.OpenSpec := { _root_.Go.OpenSpec.ofChange s with cond := some uptoSmall }

/-- 'whorllaw12.ServiceVerified', WHERE WHAT IT READS IS OF BULK AT MOST 1048576: true; the input reads as it did. -/
def serviceVerifiedUptoRow : OpenClaim := { program := "ytncccnmmjfapnaagreat", sum := "51bbc55cb236728976610c486d612c6883539e1ac90e867e46b05bea40c1f552", func := "whorl/whorllaw12.ServiceVerified", spec := "serviceVerified", inPlace := ["slices.overlaps[whorl/api.Case]", "slices.overlaps[whorl/api.Link]", "slices.overlaps[whorl/api.Consent]", "slices.overlaps[whorl/api.Mark]", "slices.overlaps[whorl/api.Posting]"], unfollowed := true, recurses := true, apart := false, narrowed := true }
def ServiceVerifiedUptoSaid : Prop := serviceVerifiedUptoRow.holds Tryz.pinned (OpenSpec.upto serviceVerifiedSpec)

/-- 'whorllaw12.ServiceSetups', WHERE WHAT IT READS IS OF BULK AT MOST 1048576: true; the input reads as it did. -/
def serviceSetupsUptoRow : OpenClaim := { program := "ytncccnmmjfapnaagreat", sum := "51bbc55cb236728976610c486d612c6883539e1ac90e867e46b05bea40c1f552", func := "whorl/whorllaw12.ServiceSetups", spec := "serviceSetups", unfollowed := true, recurses := true, apart := false, narrowed := true }
def ServiceSetupsUptoSaid : Prop := serviceSetupsUptoRow.holds Tryz.pinned (OpenSpec.upto serviceSetupsSpec)

/-- 'whorllaw12.ServiceGate', WHERE WHAT IT READS IS OF BULK AT MOST 1048576: true; the input reads as it did. -/
def serviceGateUptoRow : OpenClaim := { program := "ytncccnmmjfapnaagreat", sum := "51bbc55cb236728976610c486d612c6883539e1ac90e867e46b05bea40c1f552", func := "whorl/whorllaw12.ServiceGate", spec := "serviceGate", inPlace := ["slices.overlaps[whorl/api.Case]", "slices.overlaps[whorl/api.Link]", "slices.overlaps[whorl/api.Consent]", "slices.overlaps[whorl/api.Mark]", "slices.overlaps[whorl/api.Posting]"], unfollowed := true, recurses := true, apart := false, narrowed := true }
def ServiceGateUptoSaid : Prop := serviceGateUptoRow.holds Tryz.pinned (OpenSpec.upto serviceGateSpec)

/-- 'whorllaw12.ServiceRuns', WHERE WHAT IT READS IS OF BULK AT MOST 1048576: true; the input reads as it did. -/
def serviceRunsUptoRow : OpenClaim := { program := "ytncccnmmjfapnaagreat", sum := "51bbc55cb236728976610c486d612c6883539e1ac90e867e46b05bea40c1f552", func := "whorl/whorllaw12.ServiceRuns", spec := "serviceRuns", inPlace := ["slices.overlaps[whorl/api.Case]", "slices.overlaps[whorl/api.Link]", "slices.overlaps[whorl/api.Consent]", "slices.overlaps[whorl/api.Mark]", "slices.overlaps[whorl/api.Posting]"], unfollowed := true, recurses := true, apart := false, narrowed := true }
def ServiceRunsUptoSaid : Prop := serviceRunsUptoRow.holds Tryz.pinned (OpenSpec.upto serviceRunsSpec)

/-- 'whorllaw12.ServiceSteps', WHERE WHAT IT READS IS OF BULK AT MOST 1048576: true; the input reads as it did. -/
def serviceStepsUptoRow : OpenClaim := { program := "ytncccnmmjfapnaagreat", sum := "51bbc55cb236728976610c486d612c6883539e1ac90e867e46b05bea40c1f552", func := "whorl/whorllaw12.ServiceSteps", spec := "serviceSteps", inPlace := ["slices.overlaps[whorl/api.Case]", "slices.overlaps[whorl/api.Link]", "slices.overlaps[whorl/api.Consent]", "slices.overlaps[whorl/api.Mark]", "slices.overlaps[whorl/api.Posting]"], unfollowed := true, recurses := true, apart := false, narrowed := true }
def ServiceStepsUptoSaid : Prop := serviceStepsUptoRow.holds Tryz.pinned (OpenSpec.upto serviceStepsSpec)

/-- 'whorllaw12.ServiceExamples', WHERE WHAT IT READS IS OF BULK AT MOST 1048576: true; the input reads as it did. -/
def serviceExamplesUptoRow : OpenClaim := { program := "ytncccnmmjfapnaagreat", sum := "51bbc55cb236728976610c486d612c6883539e1ac90e867e46b05bea40c1f552", func := "whorl/whorllaw12.ServiceExamples", spec := "serviceExamples", inPlace := ["slices.overlaps[whorl/api.Case]", "slices.overlaps[whorl/api.Link]", "slices.overlaps[whorl/api.Consent]", "slices.overlaps[whorl/api.Mark]", "slices.overlaps[whorl/api.Posting]"], unfollowed := true, recurses := true, apart := false, narrowed := true }
def ServiceExamplesUptoSaid : Prop := serviceExamplesUptoRow.holds Tryz.pinned (OpenSpec.upto serviceExamplesSpec)

/-- 'whorllaw12.ServiceFinds', WHERE WHAT IT READS IS OF BULK AT MOST 1048576: true; the input reads as it did. -/
def serviceFindsUptoRow : OpenClaim := { program := "ytncccnmmjfapnaagreat", sum := "51bbc55cb236728976610c486d612c6883539e1ac90e867e46b05bea40c1f552", func := "whorl/whorllaw12.ServiceFinds", spec := "serviceFinds", inPlace := ["slices.overlaps[whorl/api.Case]", "slices.overlaps[whorl/api.Link]", "slices.overlaps[whorl/api.Consent]", "slices.overlaps[whorl/api.Mark]", "slices.overlaps[whorl/api.Posting]"], unfollowed := true, recurses := true, apart := false, narrowed := true }
def ServiceFindsUptoSaid : Prop := serviceFindsUptoRow.holds Tryz.pinned (OpenSpec.upto serviceFindsSpec)

/-- 'whorllaw12.ServiceReasons', WHERE WHAT IT READS IS OF BULK AT MOST 1048576: true; the input reads as it did. -/
def serviceReasonsUptoRow : OpenClaim := { program := "ytncccnmmjfapnaagreat", sum := "51bbc55cb236728976610c486d612c6883539e1ac90e867e46b05bea40c1f552", func := "whorl/whorllaw12.ServiceReasons", spec := "serviceReasons", inPlace := ["slices.overlaps[whorl/api.Case]", "slices.overlaps[whorl/api.Link]", "slices.overlaps[whorl/api.Consent]", "slices.overlaps[whorl/api.Mark]", "slices.overlaps[whorl/api.Posting]"], unfollowed := true, recurses := true, apart := false, narrowed := true }
def ServiceReasonsUptoSaid : Prop := serviceReasonsUptoRow.holds Tryz.pinned (OpenSpec.upto serviceReasonsSpec)

/-- 'whorllaw12.ServiceSilent', WHERE WHAT IT READS IS OF BULK AT MOST 1048576: true; the input reads as it did. -/
def serviceSilentUptoRow : OpenClaim := { program := "ytncccnmmjfapnaagreat", sum := "51bbc55cb236728976610c486d612c6883539e1ac90e867e46b05bea40c1f552", func := "whorl/whorllaw12.ServiceSilent", spec := "serviceSilent", inPlace := ["slices.overlaps[whorl/api.Case]", "slices.overlaps[whorl/api.Link]", "slices.overlaps[whorl/api.Consent]", "slices.overlaps[whorl/api.Mark]", "slices.overlaps[whorl/api.Posting]"], unfollowed := true, recurses := true, apart := false, narrowed := true }
def ServiceSilentUptoSaid : Prop := serviceSilentUptoRow.holds Tryz.pinned (OpenSpec.upto serviceSilentSpec)

/-- 'whorllaw12.ServiceKeeps', WHERE WHAT IT READS IS OF BULK AT MOST 1048576: true; the input reads as it did. -/
def serviceKeepsUptoRow : OpenClaim := { program := "ytncccnmmjfapnaagreat", sum := "51bbc55cb236728976610c486d612c6883539e1ac90e867e46b05bea40c1f552", func := "whorl/whorllaw12.ServiceKeeps", spec := "serviceKeeps", inPlace := ["slices.overlaps[whorl/api.Case]", "slices.overlaps[whorl/api.Link]", "slices.overlaps[whorl/api.Consent]", "slices.overlaps[whorl/api.Mark]", "slices.overlaps[whorl/api.Posting]"], unfollowed := true, recurses := true, apart := false, narrowed := true }
def ServiceKeepsUptoSaid : Prop := serviceKeepsUptoRow.holds Tryz.pinned (OpenSpec.upto serviceKeepsSpec)

/-- 'whorllaw12.ServiceCut', WHERE WHAT IT READS IS OF BULK AT MOST 1048576: true; the input reads as it did. -/
def serviceCutUptoRow : OpenClaim := { program := "ytncccnmmjfapnaagreat", sum := "51bbc55cb236728976610c486d612c6883539e1ac90e867e46b05bea40c1f552", func := "whorl/whorllaw12.ServiceCut", spec := "serviceCut", inPlace := ["slices.overlaps[whorl/api.Case]", "slices.overlaps[whorl/api.Link]", "slices.overlaps[whorl/api.Consent]", "slices.overlaps[whorl/api.Mark]", "slices.overlaps[whorl/api.Posting]"], unfollowed := true, recurses := true, apart := false, narrowed := true }
def ServiceCutUptoSaid : Prop := serviceCutUptoRow.holds Tryz.pinned (OpenSpec.upto serviceCutSpec)

/-- 'whorllaw12.ServiceErased', WHERE WHAT IT READS IS OF BULK AT MOST 1048576: true; the input reads as it did. -/
def serviceErasedUptoRow : OpenClaim := { program := "ytncccnmmjfapnaagreat", sum := "51bbc55cb236728976610c486d612c6883539e1ac90e867e46b05bea40c1f552", func := "whorl/whorllaw12.ServiceErased", spec := "serviceErased", inPlace := ["slices.overlaps[whorl/api.Case]", "slices.overlaps[whorl/api.Link]", "slices.overlaps[whorl/api.Consent]", "slices.overlaps[whorl/api.Mark]", "slices.overlaps[whorl/api.Posting]"], unfollowed := true, recurses := true, apart := false, narrowed := true }
def ServiceErasedUptoSaid : Prop := serviceErasedUptoRow.holds Tryz.pinned (OpenSpec.upto serviceErasedSpec)

/-- 'whorllaw12.ServiceClean', WHERE WHAT IT READS IS OF BULK AT MOST 1048576: true; the input reads as it did. -/
def serviceCleanUptoRow : OpenClaim := { program := "ytncccnmmjfapnaagreat", sum := "51bbc55cb236728976610c486d612c6883539e1ac90e867e46b05bea40c1f552", func := "whorl/whorllaw12.ServiceClean", spec := "serviceClean", inPlace := ["slices.overlaps[whorl/api.Case]", "slices.overlaps[whorl/api.Link]", "slices.overlaps[whorl/api.Consent]", "slices.overlaps[whorl/api.Mark]", "slices.overlaps[whorl/api.Posting]"], unfollowed := true, recurses := true, apart := false, narrowed := true }
def ServiceCleanUptoSaid : Prop := serviceCleanUptoRow.holds Tryz.pinned (OpenSpec.upto serviceCleanSpec)

end Rows
end Go.Proofs.YtncccnmmjfapnaaGreat
