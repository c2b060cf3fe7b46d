/-
  No cell of these rows narrows 'for every input' (looked for: loops, veiled, ifaces, maps, wideKeys, modest, calm, conditions, laid).
  DERIVED. THE GIVEN ROWS OF THIS SEAT. 13 by the template 'for every input the law returns true; each argument reads behind the call as it read before'; 0 by the template 'total and deterministic' (their statements: YtaggojedpkddjaaTotals.lean).
  GIVEN WITH THE SEED: the statements are not yours to turn. If you find one false, say at which input.
  Laid BY PROGRAM, IN A SANDBOX (cutbox-rows.mjs): the forced cells as the released guide's own fill.sh prints them over the translation aa3ce2e4cf137417… (all of the seat's roots in one cut). By AI agents, Wed Nov 11 2026. No macro, syntax, notation, axiom, sorry.
-/
import Derived.Test.YtaggojedpkddjaaChecked
import GoSem.Claim
import GoSem.ClaimJoined
import GoSem.ClaimMapViews
import Derived.JoinedTies
import Derived.KernelRfl
namespace Go.Proofs.Ytaggojedpkddjaa
/- THE CELL 'sum', in the pinned program and in every row, IS THE sha256 OF THE DUMP (.gsa) THAT YtaggojedpkddjaaProg.lean LOADS. Nothing in Lean hashes anything: it is a label: what it is worth is what the hold of that sum in a sandbox is worth. -/
noncomputable def Try.pinned : Pinned := { name := "ytaggojedpkddjaa", sum := "aa3ce2e4cf1374176de7bc4c8c5269e200adbd792eace836ac552e33b8a4053e", checked := Try.checked }
namespace Rows
def none {H : Type} : Left H := { results := [], args := [] }

/-- 'whorllaw09.RightsEnds': WHATEVER THE INPUT: true; the input reads as it did. -/
def rightsEndsSpec : ChangeSpec := { name := "rightsEnds", fn := fun _ => fun
  | [d1, d2, d3] => { results := [.lit (.bool true)], args := [d1, d2, d3] }
  | _ => none }
def rightsEndsRow : OpenClaim := { program := "ytaggojedpkddjaa", sum := "aa3ce2e4cf1374176de7bc4c8c5269e200adbd792eace836ac552e33b8a4053e", func := "whorl/whorllaw09.RightsEnds", spec := "rightsEnds", unfollowed := true, recurses := true, apart := false }
def RightsEndsSaid : Prop := rightsEndsRow.holds Try.pinned (OpenSpec.ofChange rightsEndsSpec)

/-- ITS FALSE NEIGHBOUR: 'it returns false'. Refute it at one input. -/
def rightsEndsWrong : ChangeSpec := { name := "rightsEnds", fn := fun _ => fun
  | [d1, d2, d3] => { results := [.lit (.bool false)], args := [d1, d2, d3] }
  | _ => none }
def RightsEndsWrongFalsely : Prop := rightsEndsRow.holds Try.pinned (OpenSpec.ofChange rightsEndsWrong)

/-- 'whorllaw09.RightsCovered': WHATEVER THE INPUT: true; the input reads as it did. -/
def rightsCoveredSpec : ChangeSpec := { name := "rightsCovered", fn := fun _ => fun
  | [d1, d2] => { results := [.lit (.bool true)], args := [d1, d2] }
  | _ => none }
def rightsCoveredRow : OpenClaim := { program := "ytaggojedpkddjaa", sum := "aa3ce2e4cf1374176de7bc4c8c5269e200adbd792eace836ac552e33b8a4053e", func := "whorl/whorllaw09.RightsCovered", spec := "rightsCovered", unfollowed := true, recurses := true, apart := false }
def RightsCoveredSaid : Prop := rightsCoveredRow.holds Try.pinned (OpenSpec.ofChange rightsCoveredSpec)

/-- ITS FALSE NEIGHBOUR: 'it returns false'. Refute it at one input. -/
def rightsCoveredWrong : ChangeSpec := { name := "rightsCovered", fn := fun _ => fun
  | [d1, d2] => { results := [.lit (.bool false)], args := [d1, d2] }
  | _ => none }
def RightsCoveredWrongFalsely : Prop := rightsCoveredRow.holds Try.pinned (OpenSpec.ofChange rightsCoveredWrong)

/-- 'whorllaw09.RightsSilent': WHATEVER THE INPUT: true; the input reads as it did. -/
def rightsSilentSpec : ChangeSpec := { name := "rightsSilent", fn := fun _ => fun
  | [d1, d2, d3] => { results := [.lit (.bool true)], args := [d1, d2, d3] }
  | _ => none }
def rightsSilentRow : OpenClaim := { program := "ytaggojedpkddjaa", sum := "aa3ce2e4cf1374176de7bc4c8c5269e200adbd792eace836ac552e33b8a4053e", func := "whorl/whorllaw09.RightsSilent", spec := "rightsSilent", unfollowed := true, recurses := true, apart := false }
def RightsSilentSaid : Prop := rightsSilentRow.holds Try.pinned (OpenSpec.ofChange rightsSilentSpec)

/-- ITS FALSE NEIGHBOUR: 'it returns false'. Refute it at one input. -/
def rightsSilentWrong : ChangeSpec := { name := "rightsSilent", fn := fun _ => fun
  | [d1, d2, d3] => { results := [.lit (.bool false)], args := [d1, d2, d3] }
  | _ => none }
def RightsSilentWrongFalsely : Prop := rightsSilentRow.holds Try.pinned (OpenSpec.ofChange rightsSilentWrong)

/-- 'whorllaw09.RightsAnswers': WHATEVER THE INPUT: true; the input reads as it did. -/
def rightsAnswersSpec : ChangeSpec := { name := "rightsAnswers", fn := fun _ => fun
  | [d1, d2] => { results := [.lit (.bool true)], args := [d1, d2] }
  | _ => none }
def rightsAnswersRow : OpenClaim := { program := "ytaggojedpkddjaa", sum := "aa3ce2e4cf1374176de7bc4c8c5269e200adbd792eace836ac552e33b8a4053e", func := "whorl/whorllaw09.RightsAnswers", spec := "rightsAnswers", unfollowed := true, recurses := true, apart := false }
def RightsAnswersSaid : Prop := rightsAnswersRow.holds Try.pinned (OpenSpec.ofChange rightsAnswersSpec)

/-- ITS FALSE NEIGHBOUR: 'it returns false'. Refute it at one input. -/
def rightsAnswersWrong : ChangeSpec := { name := "rightsAnswers", fn := fun _ => fun
  | [d1, d2] => { results := [.lit (.bool false)], args := [d1, d2] }
  | _ => none }
def RightsAnswersWrongFalsely : Prop := rightsAnswersRow.holds Try.pinned (OpenSpec.ofChange rightsAnswersWrong)

/-- 'whorllaw09.RightsLevels': WHATEVER THE INPUT: true; the input reads as it did. -/
def rightsLevelsSpec : ChangeSpec := { name := "rightsLevels", fn := fun _ => fun
  | [d1, d2] => { results := [.lit (.bool true)], args := [d1, d2] }
  | _ => none }
def rightsLevelsRow : OpenClaim := { program := "ytaggojedpkddjaa", sum := "aa3ce2e4cf1374176de7bc4c8c5269e200adbd792eace836ac552e33b8a4053e", func := "whorl/whorllaw09.RightsLevels", spec := "rightsLevels", unfollowed := true, recurses := true, apart := false }
def RightsLevelsSaid : Prop := rightsLevelsRow.holds Try.pinned (OpenSpec.ofChange rightsLevelsSpec)

/-- ITS FALSE NEIGHBOUR: 'it returns false'. Refute it at one input. -/
def rightsLevelsWrong : ChangeSpec := { name := "rightsLevels", fn := fun _ => fun
  | [d1, d2] => { results := [.lit (.bool false)], args := [d1, d2] }
  | _ => none }
def RightsLevelsWrongFalsely : Prop := rightsLevelsRow.holds Try.pinned (OpenSpec.ofChange rightsLevelsWrong)

/-- 'whorllaw09.RightsForgotten': WHATEVER THE INPUT: true; the input reads as it did. -/
def rightsForgottenSpec : ChangeSpec := { name := "rightsForgotten", fn := fun _ => fun
  | [d1, d2, d3] => { results := [.lit (.bool true)], args := [d1, d2, d3] }
  | _ => none }
def rightsForgottenRow : OpenClaim := { program := "ytaggojedpkddjaa", sum := "aa3ce2e4cf1374176de7bc4c8c5269e200adbd792eace836ac552e33b8a4053e", func := "whorl/whorllaw09.RightsForgotten", spec := "rightsForgotten", unfollowed := true, recurses := true, apart := false }
def RightsForgottenSaid : Prop := rightsForgottenRow.holds Try.pinned (OpenSpec.ofChange rightsForgottenSpec)

/-- ITS FALSE NEIGHBOUR: 'it returns false'. Refute it at one input. -/
def rightsForgottenWrong : ChangeSpec := { name := "rightsForgotten", fn := fun _ => fun
  | [d1, d2, d3] => { results := [.lit (.bool false)], args := [d1, d2, d3] }
  | _ => none }
def RightsForgottenWrongFalsely : Prop := rightsForgottenRow.holds Try.pinned (OpenSpec.ofChange rightsForgottenWrong)

/-- 'whorllaw09.RightsPruned': WHATEVER THE INPUT: true; the input reads as it did. -/
def rightsPrunedSpec : ChangeSpec := { name := "rightsPruned", fn := fun _ => fun
  | [d1, d2, d3] => { results := [.lit (.bool true)], args := [d1, d2, d3] }
  | _ => none }
def rightsPrunedRow : OpenClaim := { program := "ytaggojedpkddjaa", sum := "aa3ce2e4cf1374176de7bc4c8c5269e200adbd792eace836ac552e33b8a4053e", func := "whorl/whorllaw09.RightsPruned", spec := "rightsPruned", unfollowed := true, recurses := true, apart := false }
def RightsPrunedSaid : Prop := rightsPrunedRow.holds Try.pinned (OpenSpec.ofChange rightsPrunedSpec)

/-- ITS FALSE NEIGHBOUR: 'it returns false'. Refute it at one input. -/
def rightsPrunedWrong : ChangeSpec := { name := "rightsPruned", fn := fun _ => fun
  | [d1, d2, d3] => { results := [.lit (.bool false)], args := [d1, d2, d3] }
  | _ => none }
def RightsPrunedWrongFalsely : Prop := rightsPrunedRow.holds Try.pinned (OpenSpec.ofChange rightsPrunedWrong)

/-- 'whorllaw09.RightsLess': WHATEVER THE INPUT: true; the input reads as it did. -/
def rightsLessSpec : ChangeSpec := { name := "rightsLess", fn := fun _ => fun
  | [d1, d2, d3, d4] => { results := [.lit (.bool true)], args := [d1, d2, d3, d4] }
  | _ => none }
def rightsLessRow : OpenClaim := { program := "ytaggojedpkddjaa", sum := "aa3ce2e4cf1374176de7bc4c8c5269e200adbd792eace836ac552e33b8a4053e", func := "whorl/whorllaw09.RightsLess", spec := "rightsLess", unfollowed := true, recurses := true, apart := false }
def RightsLessSaid : Prop := rightsLessRow.holds Try.pinned (OpenSpec.ofChange rightsLessSpec)

/-- ITS FALSE NEIGHBOUR: 'it returns false'. Refute it at one input. -/
def rightsLessWrong : ChangeSpec := { name := "rightsLess", fn := fun _ => fun
  | [d1, d2, d3, d4] => { results := [.lit (.bool false)], args := [d1, d2, d3, d4] }
  | _ => none }
def RightsLessWrongFalsely : Prop := rightsLessRow.holds Try.pinned (OpenSpec.ofChange rightsLessWrong)

/-- 'whorllaw09.RightsChecks': WHATEVER THE INPUT: true; the input reads as it did. -/
def rightsChecksSpec : ChangeSpec := { name := "rightsChecks", fn := fun _ => fun
  | [d1, d2, d3, d4] => { results := [.lit (.bool true)], args := [d1, d2, d3, d4] }
  | _ => none }
def rightsChecksRow : OpenClaim := { program := "ytaggojedpkddjaa", sum := "aa3ce2e4cf1374176de7bc4c8c5269e200adbd792eace836ac552e33b8a4053e", func := "whorl/whorllaw09.RightsChecks", spec := "rightsChecks", inPlace := ["slices.overlaps[int]"], unfollowed := true, recurses := true, apart := false }
def RightsChecksSaid : Prop := rightsChecksRow.holds Try.pinned (OpenSpec.ofChange rightsChecksSpec)

/-- ITS FALSE NEIGHBOUR: 'it returns false'. Refute it at one input. -/
def rightsChecksWrong : ChangeSpec := { name := "rightsChecks", fn := fun _ => fun
  | [d1, d2, d3, d4] => { results := [.lit (.bool false)], args := [d1, d2, d3, d4] }
  | _ => none }
def RightsChecksWrongFalsely : Prop := rightsChecksRow.holds Try.pinned (OpenSpec.ofChange rightsChecksWrong)

/-- 'whorllaw09.RightsChanges': WHATEVER THE INPUT: true; the input reads as it did. -/
def rightsChangesSpec : ChangeSpec := { name := "rightsChanges", fn := fun _ => fun
  | [d1, d2, d3] => { results := [.lit (.bool true)], args := [d1, d2, d3] }
  | _ => none }
def rightsChangesRow : OpenClaim := { program := "ytaggojedpkddjaa", sum := "aa3ce2e4cf1374176de7bc4c8c5269e200adbd792eace836ac552e33b8a4053e", func := "whorl/whorllaw09.RightsChanges", spec := "rightsChanges", inPlace := ["slices.overlaps[whorl/api.Consent]", "slices.overlaps[whorl/api.Mark]"], unfollowed := true, recurses := true, apart := false }
def RightsChangesSaid : Prop := rightsChangesRow.holds Try.pinned (OpenSpec.ofChange rightsChangesSpec)

/-- ITS FALSE NEIGHBOUR: 'it returns false'. Refute it at one input. -/
def rightsChangesWrong : ChangeSpec := { name := "rightsChanges", fn := fun _ => fun
  | [d1, d2, d3] => { results := [.lit (.bool false)], args := [d1, d2, d3] }
  | _ => none }
def RightsChangesWrongFalsely : Prop := rightsChangesRow.holds Try.pinned (OpenSpec.ofChange rightsChangesWrong)

/-- 'whorllaw09.RightsBlind': WHATEVER THE INPUT: true; the input reads as it did. -/
def rightsBlindSpec : ChangeSpec := { name := "rightsBlind", fn := fun _ => fun
  | [d1, d2, d3, d4, d5] => { results := [.lit (.bool true)], args := [d1, d2, d3, d4, d5] }
  | _ => none }
def rightsBlindRow : OpenClaim := { program := "ytaggojedpkddjaa", sum := "aa3ce2e4cf1374176de7bc4c8c5269e200adbd792eace836ac552e33b8a4053e", func := "whorl/whorllaw09.RightsBlind", spec := "rightsBlind", inPlace := ["slices.overlaps[whorl/api.Mark]"], unfollowed := true, recurses := true, apart := false }
def RightsBlindSaid : Prop := rightsBlindRow.holds Try.pinned (OpenSpec.ofChange rightsBlindSpec)

/-- ITS FALSE NEIGHBOUR: 'it returns false'. Refute it at one input. -/
def rightsBlindWrong : ChangeSpec := { name := "rightsBlind", fn := fun _ => fun
  | [d1, d2, d3, d4, d5] => { results := [.lit (.bool false)], args := [d1, d2, d3, d4, d5] }
  | _ => none }
def RightsBlindWrongFalsely : Prop := rightsBlindRow.holds Try.pinned (OpenSpec.ofChange rightsBlindWrong)

/-- 'whorllaw09.RightsGrow': WHATEVER THE INPUT: true; the input reads as it did. -/
def rightsGrowSpec : ChangeSpec := { name := "rightsGrow", fn := fun _ => fun
  | [d1, d2, d3, d4, d5, d6] => { results := [.lit (.bool true)], args := [d1, d2, d3, d4, d5, d6] }
  | _ => none }
def rightsGrowRow : OpenClaim := { program := "ytaggojedpkddjaa", sum := "aa3ce2e4cf1374176de7bc4c8c5269e200adbd792eace836ac552e33b8a4053e", func := "whorl/whorllaw09.RightsGrow", spec := "rightsGrow", inPlace := ["slices.overlaps[int]", "slices.overlaps[whorl/api.Consent]"], unfollowed := true, recurses := true, apart := false }
def RightsGrowSaid : Prop := rightsGrowRow.holds Try.pinned (OpenSpec.ofChange rightsGrowSpec)

/-- ITS FALSE NEIGHBOUR: 'it returns false'. Refute it at one input. -/
def rightsGrowWrong : ChangeSpec := { name := "rightsGrow", fn := fun _ => fun
  | [d1, d2, d3, d4, d5, d6] => { results := [.lit (.bool false)], args := [d1, d2, d3, d4, d5, d6] }
  | _ => none }
def RightsGrowWrongFalsely : Prop := rightsGrowRow.holds Try.pinned (OpenSpec.ofChange rightsGrowWrong)

/-- 'whorllaw09.RightsKept': WHATEVER THE INPUT: true; the input reads as it did. -/
def rightsKeptSpec : ChangeSpec := { name := "rightsKept", fn := fun _ => fun
  | [d1, d2, d3] => { results := [.lit (.bool true)], args := [d1, d2, d3] }
  | _ => none }
def rightsKeptRow : OpenClaim := { program := "ytaggojedpkddjaa", sum := "aa3ce2e4cf1374176de7bc4c8c5269e200adbd792eace836ac552e33b8a4053e", func := "whorl/whorllaw09.RightsKept", spec := "rightsKept", inPlace := ["slices.overlaps[whorl/api.Consent]", "slices.overlaps[whorl/api.Mark]"], unfollowed := true, recurses := true, apart := false }
def RightsKeptSaid : Prop := rightsKeptRow.holds Try.pinned (OpenSpec.ofChange rightsKeptSpec)

/-- ITS FALSE NEIGHBOUR: 'it returns false'. Refute it at one input. -/
def rightsKeptWrong : ChangeSpec := { name := "rightsKept", fn := fun _ => fun
  | [d1, d2, d3] => { results := [.lit (.bool false)], args := [d1, d2, d3] }
  | _ => none }
def RightsKeptWrongFalsely : Prop := rightsKeptRow.holds Try.pinned (OpenSpec.ofChange rightsKeptWrong)

/- THE SECOND FORM. 'bulk': how many values and letters a reading holds, each counted each time it is reached (what is shared counts as often as it is met; a slice's spare places count too). A statement '..UptoSaid' is the law's where the arguments, and the package variables that the reading takes, are together of bulk at most 1048576: NARROWER than '..Said'. Prove '..Said' where nothing that the law and all that it calls make is longer than what came in: it says more and counts as full. Else prove '..UptoSaid'. A law counts once. -/
mutual
def uptoBulk {H : Type} : DataW H → Nat
  | .lit (.string bytes) => bytes.length + 1
  | .lit _ => 1
  | .nil => 1
  | .ptr d => uptoBulk d + 1
  | .slice elems spare => uptoBulkAll elems + uptoBulkAll spare + 1
  | .agg parts => uptoBulkAll parts + 1
  | .iface _ d => uptoBulk d + 1
  | .map entries => uptoBulkEntries entries + 1
  | .held _ => 1
def uptoBulkAll {H : Type} : List (DataW H) → Nat
  | [] => 0
  | d :: r => uptoBulk d + uptoBulkAll r
def uptoBulkEntries {H : Type} : List (Lit × DataW H) → Nat
  | [] => 0
  | x :: r => uptoBulkEntry x + uptoBulkEntries r
def uptoBulkEntry {H : Type} : Lit × DataW H → Nat
  | (.string bytes, d) => bytes.length + uptoBulk d + 1
  | (_, d) => uptoBulk d + 1
 end
def uptoSmall : (H : Type) → List (DataW H) → Bool := fun _ ds => decide (uptoBulkAll ds ≤ 1048576)
def OpenSpec.upto (s : _root_.Go.ChangeSpec) : _root_.Go.OpenSpec := { _root_.Go.OpenSpec.ofChange s with cond := some uptoSmall }

/-- 'whorllaw09.RightsEnds', WHERE WHAT IT READS IS OF BULK AT MOST 1048576: true; the input reads as it did. -/
def rightsEndsUptoRow : OpenClaim := { program := "ytaggojedpkddjaa", sum := "aa3ce2e4cf1374176de7bc4c8c5269e200adbd792eace836ac552e33b8a4053e", func := "whorl/whorllaw09.RightsEnds", spec := "rightsEnds", unfollowed := true, recurses := true, apart := false, narrowed := true }
def RightsEndsUptoSaid : Prop := rightsEndsUptoRow.holds Try.pinned (OpenSpec.upto rightsEndsSpec)

/-- 'whorllaw09.RightsCovered', WHERE WHAT IT READS IS OF BULK AT MOST 1048576: true; the input reads as it did. -/
def rightsCoveredUptoRow : OpenClaim := { program := "ytaggojedpkddjaa", sum := "aa3ce2e4cf1374176de7bc4c8c5269e200adbd792eace836ac552e33b8a4053e", func := "whorl/whorllaw09.RightsCovered", spec := "rightsCovered", unfollowed := true, recurses := true, apart := false, narrowed := true }
def RightsCoveredUptoSaid : Prop := rightsCoveredUptoRow.holds Try.pinned (OpenSpec.upto rightsCoveredSpec)

/-- 'whorllaw09.RightsSilent', WHERE WHAT IT READS IS OF BULK AT MOST 1048576: true; the input reads as it did. -/
def rightsSilentUptoRow : OpenClaim := { program := "ytaggojedpkddjaa", sum := "aa3ce2e4cf1374176de7bc4c8c5269e200adbd792eace836ac552e33b8a4053e", func := "whorl/whorllaw09.RightsSilent", spec := "rightsSilent", unfollowed := true, recurses := true, apart := false, narrowed := true }
def RightsSilentUptoSaid : Prop := rightsSilentUptoRow.holds Try.pinned (OpenSpec.upto rightsSilentSpec)

/-- 'whorllaw09.RightsAnswers', WHERE WHAT IT READS IS OF BULK AT MOST 1048576: true; the input reads as it did. -/
def rightsAnswersUptoRow : OpenClaim := { program := "ytaggojedpkddjaa", sum := "aa3ce2e4cf1374176de7bc4c8c5269e200adbd792eace836ac552e33b8a4053e", func := "whorl/whorllaw09.RightsAnswers", spec := "rightsAnswers", unfollowed := true, recurses := true, apart := false, narrowed := true }
def RightsAnswersUptoSaid : Prop := rightsAnswersUptoRow.holds Try.pinned (OpenSpec.upto rightsAnswersSpec)

/-- 'whorllaw09.RightsLevels', WHERE WHAT IT READS IS OF BULK AT MOST 1048576: true; the input reads as it did. -/
def rightsLevelsUptoRow : OpenClaim := { program := "ytaggojedpkddjaa", sum := "aa3ce2e4cf1374176de7bc4c8c5269e200adbd792eace836ac552e33b8a4053e", func := "whorl/whorllaw09.RightsLevels", spec := "rightsLevels", unfollowed := true, recurses := true, apart := false, narrowed := true }
def RightsLevelsUptoSaid : Prop := rightsLevelsUptoRow.holds Try.pinned (OpenSpec.upto rightsLevelsSpec)

/-- 'whorllaw09.RightsForgotten', WHERE WHAT IT READS IS OF BULK AT MOST 1048576: true; the input reads as it did. -/
def rightsForgottenUptoRow : OpenClaim := { program := "ytaggojedpkddjaa", sum := "aa3ce2e4cf1374176de7bc4c8c5269e200adbd792eace836ac552e33b8a4053e", func := "whorl/whorllaw09.RightsForgotten", spec := "rightsForgotten", unfollowed := true, recurses := true, apart := false, narrowed := true }
def RightsForgottenUptoSaid : Prop := rightsForgottenUptoRow.holds Try.pinned (OpenSpec.upto rightsForgottenSpec)

/-- 'whorllaw09.RightsPruned', WHERE WHAT IT READS IS OF BULK AT MOST 1048576: true; the input reads as it did. -/
def rightsPrunedUptoRow : OpenClaim := { program := "ytaggojedpkddjaa", sum := "aa3ce2e4cf1374176de7bc4c8c5269e200adbd792eace836ac552e33b8a4053e", func := "whorl/whorllaw09.RightsPruned", spec := "rightsPruned", unfollowed := true, recurses := true, apart := false, narrowed := true }
def RightsPrunedUptoSaid : Prop := rightsPrunedUptoRow.holds Try.pinned (OpenSpec.upto rightsPrunedSpec)

/-- 'whorllaw09.RightsLess', WHERE WHAT IT READS IS OF BULK AT MOST 1048576: true; the input reads as it did. -/
def rightsLessUptoRow : OpenClaim := { program := "ytaggojedpkddjaa", sum := "aa3ce2e4cf1374176de7bc4c8c5269e200adbd792eace836ac552e33b8a4053e", func := "whorl/whorllaw09.RightsLess", spec := "rightsLess", unfollowed := true, recurses := true, apart := false, narrowed := true }
def RightsLessUptoSaid : Prop := rightsLessUptoRow.holds Try.pinned (OpenSpec.upto rightsLessSpec)

/-- 'whorllaw09.RightsChecks', WHERE WHAT IT READS IS OF BULK AT MOST 1048576: true; the input reads as it did. -/
def rightsChecksUptoRow : OpenClaim := { program := "ytaggojedpkddjaa", sum := "aa3ce2e4cf1374176de7bc4c8c5269e200adbd792eace836ac552e33b8a4053e", func := "whorl/whorllaw09.RightsChecks", spec := "rightsChecks", inPlace := ["slices.overlaps[int]"], unfollowed := true, recurses := true, apart := false, narrowed := true }
def RightsChecksUptoSaid : Prop := rightsChecksUptoRow.holds Try.pinned (OpenSpec.upto rightsChecksSpec)

/-- 'whorllaw09.RightsChanges', WHERE WHAT IT READS IS OF BULK AT MOST 1048576: true; the input reads as it did. -/
def rightsChangesUptoRow : OpenClaim := { program := "ytaggojedpkddjaa", sum := "aa3ce2e4cf1374176de7bc4c8c5269e200adbd792eace836ac552e33b8a4053e", func := "whorl/whorllaw09.RightsChanges", spec := "rightsChanges", inPlace := ["slices.overlaps[whorl/api.Consent]", "slices.overlaps[whorl/api.Mark]"], unfollowed := true, recurses := true, apart := false, narrowed := true }
def RightsChangesUptoSaid : Prop := rightsChangesUptoRow.holds Try.pinned (OpenSpec.upto rightsChangesSpec)

/-- 'whorllaw09.RightsBlind', WHERE WHAT IT READS IS OF BULK AT MOST 1048576: true; the input reads as it did. -/
def rightsBlindUptoRow : OpenClaim := { program := "ytaggojedpkddjaa", sum := "aa3ce2e4cf1374176de7bc4c8c5269e200adbd792eace836ac552e33b8a4053e", func := "whorl/whorllaw09.RightsBlind", spec := "rightsBlind", inPlace := ["slices.overlaps[whorl/api.Mark]"], unfollowed := true, recurses := true, apart := false, narrowed := true }
def RightsBlindUptoSaid : Prop := rightsBlindUptoRow.holds Try.pinned (OpenSpec.upto rightsBlindSpec)

/-- 'whorllaw09.RightsGrow', WHERE WHAT IT READS IS OF BULK AT MOST 1048576: true; the input reads as it did. -/
def rightsGrowUptoRow : OpenClaim := { program := "ytaggojedpkddjaa", sum := "aa3ce2e4cf1374176de7bc4c8c5269e200adbd792eace836ac552e33b8a4053e", func := "whorl/whorllaw09.RightsGrow", spec := "rightsGrow", inPlace := ["slices.overlaps[int]", "slices.overlaps[whorl/api.Consent]"], unfollowed := true, recurses := true, apart := false, narrowed := true }
def RightsGrowUptoSaid : Prop := rightsGrowUptoRow.holds Try.pinned (OpenSpec.upto rightsGrowSpec)

/-- 'whorllaw09.RightsKept', WHERE WHAT IT READS IS OF BULK AT MOST 1048576: true; the input reads as it did. -/
def rightsKeptUptoRow : OpenClaim := { program := "ytaggojedpkddjaa", sum := "aa3ce2e4cf1374176de7bc4c8c5269e200adbd792eace836ac552e33b8a4053e", func := "whorl/whorllaw09.RightsKept", spec := "rightsKept", inPlace := ["slices.overlaps[whorl/api.Consent]", "slices.overlaps[whorl/api.Mark]"], unfollowed := true, recurses := true, apart := false, narrowed := true }
def RightsKeptUptoSaid : Prop := rightsKeptUptoRow.holds Try.pinned (OpenSpec.upto rightsKeptSpec)

end Rows
end Go.Proofs.Ytaggojedpkddjaa
