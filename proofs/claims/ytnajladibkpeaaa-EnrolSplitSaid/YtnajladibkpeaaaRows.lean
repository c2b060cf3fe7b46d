/-
  No cell of these rows narrows 'for every input' (looked for: loops, veiled, ifaces, maps, wideKeys, modest, calm, conditions, laid).
  DERIVED. THE GIVEN ROWS OF THIS SEAT. 9 by the template 'for every input the law returns true; each argument reads behind the call as it read before'; 0 by the template 'total and deterministic' (their statements: YtnajladibkpeaaaTotals.lean).
  GIVEN WITH THE SEED: the statements are not yours to turn. If you find one false, say at which input.
  Laid BY PROGRAM, IN A SANDBOX (cutbox-rows.mjs): the forced cells as the released guide's own fill.sh prints them over the translation 715a49a21ec1047b… (all of the seat's roots in one cut). By AI agents, Wed Nov 11 2026. No macro, syntax, notation, axiom, sorry.
-/
import Derived.Test.YtnajladibkpeaaaChecked
import GoSem.Claim
import GoSem.ClaimJoined
import GoSem.ClaimMapViews
import Derived.JoinedTies
import Derived.KernelRfl
namespace Go.Proofs.Ytnajladibkpeaaa
/- THE CELL 'sum', in the pinned program and in every row, IS THE sha256 OF THE DUMP (.gsa) THAT YtnajladibkpeaaaProg.lean LOADS. Nothing in Lean hashes anything: it is a label: what it is worth is what the hold of that sum in a sandbox is worth. -/
noncomputable def Try.pinned : Pinned := { name := "ytnajladibkpeaaa", sum := "715a49a21ec1047b38db36486c1ba9b25411bf0529ab42dcc745c67e8d7a3639", checked := Try.checked }
namespace Rows
def none {H : Type} : Left H := { results := [], args := [] }

/-- 'whorllaw08.EnrolPersons': WHATEVER THE INPUT: true; the input reads as it did. -/
def enrolPersonsSpec : ChangeSpec := { name := "enrolPersons", fn := fun _ => fun
  | [d1, d2] => { results := [.lit (.bool true)], args := [d1, d2] }
  | _ => none }
def enrolPersonsRow : OpenClaim := { program := "ytnajladibkpeaaa", sum := "715a49a21ec1047b38db36486c1ba9b25411bf0529ab42dcc745c67e8d7a3639", func := "whorl/whorllaw08.EnrolPersons", spec := "enrolPersons", unfollowed := true, recurses := true, plainKeys := false, apart := false }
def EnrolPersonsSaid : Prop := enrolPersonsRow.holds Try.pinned (OpenSpec.ofChange enrolPersonsSpec)

/-- ITS FALSE NEIGHBOUR: 'it returns false'. Refute it at one input. -/
def enrolPersonsWrong : ChangeSpec := { name := "enrolPersons", fn := fun _ => fun
  | [d1, d2] => { results := [.lit (.bool false)], args := [d1, d2] }
  | _ => none }
def EnrolPersonsWrongFalsely : Prop := enrolPersonsRow.holds Try.pinned (OpenSpec.ofChange enrolPersonsWrong)

/-- 'whorllaw08.EnrolReasons': WHATEVER THE INPUT: true; the input reads as it did. -/
def enrolReasonsSpec : ChangeSpec := { name := "enrolReasons", fn := fun _ => fun
  | [d1, d2, d3] => { results := [.lit (.bool true)], args := [d1, d2, d3] }
  | _ => none }
def enrolReasonsRow : OpenClaim := { program := "ytnajladibkpeaaa", sum := "715a49a21ec1047b38db36486c1ba9b25411bf0529ab42dcc745c67e8d7a3639", func := "whorl/whorllaw08.EnrolReasons", spec := "enrolReasons", unfollowed := true, recurses := true, plainKeys := false, apart := false }
def EnrolReasonsSaid : Prop := enrolReasonsRow.holds Try.pinned (OpenSpec.ofChange enrolReasonsSpec)

/-- ITS FALSE NEIGHBOUR: 'it returns false'. Refute it at one input. -/
def enrolReasonsWrong : ChangeSpec := { name := "enrolReasons", fn := fun _ => fun
  | [d1, d2, d3] => { results := [.lit (.bool false)], args := [d1, d2, d3] }
  | _ => none }
def EnrolReasonsWrongFalsely : Prop := enrolReasonsRow.holds Try.pinned (OpenSpec.ofChange enrolReasonsWrong)

/-- 'whorllaw08.EnrolRegisters': WHATEVER THE INPUT: true; the input reads as it did. -/
def enrolRegistersSpec : ChangeSpec := { name := "enrolRegisters", fn := fun _ => fun
  | [d1, d2, d3, d4] => { results := [.lit (.bool true)], args := [d1, d2, d3, d4] }
  | _ => none }
def enrolRegistersRow : OpenClaim := { program := "ytnajladibkpeaaa", sum := "715a49a21ec1047b38db36486c1ba9b25411bf0529ab42dcc745c67e8d7a3639", func := "whorl/whorllaw08.EnrolRegisters", spec := "enrolRegisters", unfollowed := true, recurses := true, plainKeys := false, apart := false }
def EnrolRegistersSaid : Prop := enrolRegistersRow.holds Try.pinned (OpenSpec.ofChange enrolRegistersSpec)

/-- ITS FALSE NEIGHBOUR: 'it returns false'. Refute it at one input. -/
def enrolRegistersWrong : ChangeSpec := { name := "enrolRegisters", fn := fun _ => fun
  | [d1, d2, d3, d4] => { results := [.lit (.bool false)], args := [d1, d2, d3, d4] }
  | _ => none }
def EnrolRegistersWrongFalsely : Prop := enrolRegistersRow.holds Try.pinned (OpenSpec.ofChange enrolRegistersWrong)

/-- 'whorllaw08.EnrolVotes': WHATEVER THE INPUT: true; the input reads as it did. -/
def enrolVotesSpec : ChangeSpec := { name := "enrolVotes", fn := fun _ => fun
  | [d1, d2, d3, d4, d5] => { results := [.lit (.bool true)], args := [d1, d2, d3, d4, d5] }
  | _ => none }
def enrolVotesRow : OpenClaim := { program := "ytnajladibkpeaaa", sum := "715a49a21ec1047b38db36486c1ba9b25411bf0529ab42dcc745c67e8d7a3639", func := "whorl/whorllaw08.EnrolVotes", spec := "enrolVotes", inPlace := ["slices.overlaps[whorl/api.Case]", "slices.overlaps[whorl/api.Link]"], unfollowed := true, recurses := true, plainKeys := false, apart := false }
def EnrolVotesSaid : Prop := enrolVotesRow.holds Try.pinned (OpenSpec.ofChange enrolVotesSpec)

/-- ITS FALSE NEIGHBOUR: 'it returns false'. Refute it at one input. -/
def enrolVotesWrong : ChangeSpec := { name := "enrolVotes", fn := fun _ => fun
  | [d1, d2, d3, d4, d5] => { results := [.lit (.bool false)], args := [d1, d2, d3, d4, d5] }
  | _ => none }
def EnrolVotesWrongFalsely : Prop := enrolVotesRow.holds Try.pinned (OpenSpec.ofChange enrolVotesWrong)

/-- 'whorllaw08.EnrolMatches': WHATEVER THE INPUT: true; the input reads as it did. -/
def enrolMatchesSpec : ChangeSpec := { name := "enrolMatches", fn := fun _ => fun
  | [d1, d2] => { results := [.lit (.bool true)], args := [d1, d2] }
  | _ => none }
def enrolMatchesRow : OpenClaim := { program := "ytnajladibkpeaaa", sum := "715a49a21ec1047b38db36486c1ba9b25411bf0529ab42dcc745c67e8d7a3639", func := "whorl/whorllaw08.EnrolMatches", spec := "enrolMatches", unfollowed := true, recurses := true, plainKeys := false, apart := false }
def EnrolMatchesSaid : Prop := enrolMatchesRow.holds Try.pinned (OpenSpec.ofChange enrolMatchesSpec)

/-- ITS FALSE NEIGHBOUR: 'it returns false'. Refute it at one input. -/
def enrolMatchesWrong : ChangeSpec := { name := "enrolMatches", fn := fun _ => fun
  | [d1, d2] => { results := [.lit (.bool false)], args := [d1, d2] }
  | _ => none }
def EnrolMatchesWrongFalsely : Prop := enrolMatchesRow.holds Try.pinned (OpenSpec.ofChange enrolMatchesWrong)

/-- 'whorllaw08.EnrolShortest': WHATEVER THE INPUT: true; the input reads as it did. -/
def enrolShortestSpec : ChangeSpec := { name := "enrolShortest", fn := fun _ => fun
  | [d1, d2, d3] => { results := [.lit (.bool true)], args := [d1, d2, d3] }
  | _ => none }
def enrolShortestRow : OpenClaim := { program := "ytnajladibkpeaaa", sum := "715a49a21ec1047b38db36486c1ba9b25411bf0529ab42dcc745c67e8d7a3639", func := "whorl/whorllaw08.EnrolShortest", spec := "enrolShortest", inPlace := ["slices.overlaps[whorl/api.Case]", "slices.overlaps[whorl/api.Link]"], unfollowed := true, recurses := true, plainKeys := false, apart := false }
def EnrolShortestSaid : Prop := enrolShortestRow.holds Try.pinned (OpenSpec.ofChange enrolShortestSpec)

/-- ITS FALSE NEIGHBOUR: 'it returns false'. Refute it at one input. -/
def enrolShortestWrong : ChangeSpec := { name := "enrolShortest", fn := fun _ => fun
  | [d1, d2, d3] => { results := [.lit (.bool false)], args := [d1, d2, d3] }
  | _ => none }
def EnrolShortestWrongFalsely : Prop := enrolShortestRow.holds Try.pinned (OpenSpec.ofChange enrolShortestWrong)

/-- 'whorllaw08.EnrolPartition': WHATEVER THE INPUT: true; the input reads as it did. -/
def enrolPartitionSpec : ChangeSpec := { name := "enrolPartition", fn := fun _ => fun
  | [d] => { results := [.lit (.bool true)], args := [d] }
  | _ => none }
def enrolPartitionRow : OpenClaim := { program := "ytnajladibkpeaaa", sum := "715a49a21ec1047b38db36486c1ba9b25411bf0529ab42dcc745c67e8d7a3639", func := "whorl/whorllaw08.EnrolPartition", spec := "enrolPartition", inPlace := ["slices.overlaps[whorl/api.Case]", "slices.overlaps[whorl/api.Link]"], unfollowed := true, recurses := true, plainKeys := false, apart := false }
def EnrolPartitionSaid : Prop := enrolPartitionRow.holds Try.pinned (OpenSpec.ofChange enrolPartitionSpec)

/-- ITS FALSE NEIGHBOUR: 'it returns false'. Refute it at one input. -/
def enrolPartitionWrong : ChangeSpec := { name := "enrolPartition", fn := fun _ => fun
  | [d] => { results := [.lit (.bool false)], args := [d] }
  | _ => none }
def EnrolPartitionWrongFalsely : Prop := enrolPartitionRow.holds Try.pinned (OpenSpec.ofChange enrolPartitionWrong)

/-- 'whorllaw08.EnrolJoins': WHATEVER THE INPUT: true; the input reads as it did. -/
def enrolJoinsSpec : ChangeSpec := { name := "enrolJoins", fn := fun _ => fun
  | [d1, d2, d3, d4, d5, d6, d7] => { results := [.lit (.bool true)], args := [d1, d2, d3, d4, d5, d6, d7] }
  | _ => none }
def enrolJoinsRow : OpenClaim := { program := "ytnajladibkpeaaa", sum := "715a49a21ec1047b38db36486c1ba9b25411bf0529ab42dcc745c67e8d7a3639", func := "whorl/whorllaw08.EnrolJoins", spec := "enrolJoins", inPlace := ["slices.overlaps[whorl/api.Case]", "slices.overlaps[whorl/api.Link]"], unfollowed := true, recurses := true, plainKeys := false, apart := false }
def EnrolJoinsSaid : Prop := enrolJoinsRow.holds Try.pinned (OpenSpec.ofChange enrolJoinsSpec)

/-- ITS FALSE NEIGHBOUR: 'it returns false'. Refute it at one input. -/
def enrolJoinsWrong : ChangeSpec := { name := "enrolJoins", fn := fun _ => fun
  | [d1, d2, d3, d4, d5, d6, d7] => { results := [.lit (.bool false)], args := [d1, d2, d3, d4, d5, d6, d7] }
  | _ => none }
def EnrolJoinsWrongFalsely : Prop := enrolJoinsRow.holds Try.pinned (OpenSpec.ofChange enrolJoinsWrong)

/-- 'whorllaw08.EnrolSplit': WHATEVER THE INPUT: true; the input reads as it did. -/
def enrolSplitSpec : ChangeSpec := { name := "enrolSplit", fn := fun _ => fun
  | [d1, d2] => { results := [.lit (.bool true)], args := [d1, d2] }
  | _ => none }
def enrolSplitRow : OpenClaim := { program := "ytnajladibkpeaaa", sum := "715a49a21ec1047b38db36486c1ba9b25411bf0529ab42dcc745c67e8d7a3639", func := "whorl/whorllaw08.EnrolSplit", spec := "enrolSplit", inPlace := ["slices.overlaps[whorl/api.Case]", "slices.overlaps[whorl/api.Link]"], unfollowed := true, recurses := true, plainKeys := false, apart := false }
def EnrolSplitSaid : Prop := enrolSplitRow.holds Try.pinned (OpenSpec.ofChange enrolSplitSpec)

/-- ITS FALSE NEIGHBOUR: 'it returns false'. Refute it at one input. -/
def enrolSplitWrong : ChangeSpec := { name := "enrolSplit", fn := fun _ => fun
  | [d1, d2] => { results := [.lit (.bool false)], args := [d1, d2] }
  | _ => none }
def EnrolSplitWrongFalsely : Prop := enrolSplitRow.holds Try.pinned (OpenSpec.ofChange enrolSplitWrong)

/- THE SECOND FORM. 'bulk': how many values and letters a reading holds, each counted each time it is reached (what is shared counts as often as it is met; a slice's spare places count too). A statement '..UptoSaid' is the law's where the arguments, and the package variables that the reading takes, are together of bulk at most 1048576: NARROWER than '..Said'. Prove '..Said' where nothing that the law and all that it calls make is longer than what came in: it says more and counts as full. Else prove '..UptoSaid'. A law counts once. -/
mutual
def uptoBulk {H : Type} : DataW H → Nat
  | .lit (.string bytes) => bytes.length + 1
  | .lit _ => 1
  | .nil => 1
  | .ptr d => uptoBulk d + 1
  | .slice elems spare => uptoBulkAll elems + uptoBulkAll spare + 1
  | .agg parts => uptoBulkAll parts + 1
  | .iface _ d => uptoBulk d + 1
  | .map entries => uptoBulkEntries entries + 1
  | .held _ => 1
def uptoBulkAll {H : Type} : List (DataW H) → Nat
  | [] => 0
  | d :: r => uptoBulk d + uptoBulkAll r
def uptoBulkEntries {H : Type} : List (Lit × DataW H) → Nat
  | [] => 0
  | x :: r => uptoBulkEntry x + uptoBulkEntries r
def uptoBulkEntry {H : Type} : Lit × DataW H → Nat
  | (.string bytes, d) => bytes.length + uptoBulk d + 1
  | (_, d) => uptoBulk d + 1
 end
def uptoSmall : (H : Type) → List (DataW H) → Bool := fun _ ds => decide (uptoBulkAll ds ≤ 1048576)
def OpenSpec.upto (s : _root_.Go.ChangeSpec) : _root_.Go.OpenSpec := { _root_.Go.OpenSpec.ofChange s with cond := some uptoSmall }

/-- 'whorllaw08.EnrolPersons', WHERE WHAT IT READS IS OF BULK AT MOST 1048576: true; the input reads as it did. -/
def enrolPersonsUptoRow : OpenClaim := { program := "ytnajladibkpeaaa", sum := "715a49a21ec1047b38db36486c1ba9b25411bf0529ab42dcc745c67e8d7a3639", func := "whorl/whorllaw08.EnrolPersons", spec := "enrolPersons", unfollowed := true, recurses := true, plainKeys := false, apart := false, narrowed := true }
def EnrolPersonsUptoSaid : Prop := enrolPersonsUptoRow.holds Try.pinned (OpenSpec.upto enrolPersonsSpec)

/-- 'whorllaw08.EnrolReasons', WHERE WHAT IT READS IS OF BULK AT MOST 1048576: true; the input reads as it did. -/
def enrolReasonsUptoRow : OpenClaim := { program := "ytnajladibkpeaaa", sum := "715a49a21ec1047b38db36486c1ba9b25411bf0529ab42dcc745c67e8d7a3639", func := "whorl/whorllaw08.EnrolReasons", spec := "enrolReasons", unfollowed := true, recurses := true, plainKeys := false, apart := false, narrowed := true }
def EnrolReasonsUptoSaid : Prop := enrolReasonsUptoRow.holds Try.pinned (OpenSpec.upto enrolReasonsSpec)

/-- 'whorllaw08.EnrolRegisters', WHERE WHAT IT READS IS OF BULK AT MOST 1048576: true; the input reads as it did. -/
def enrolRegistersUptoRow : OpenClaim := { program := "ytnajladibkpeaaa", sum := "715a49a21ec1047b38db36486c1ba9b25411bf0529ab42dcc745c67e8d7a3639", func := "whorl/whorllaw08.EnrolRegisters", spec := "enrolRegisters", unfollowed := true, recurses := true, plainKeys := false, apart := false, narrowed := true }
def EnrolRegistersUptoSaid : Prop := enrolRegistersUptoRow.holds Try.pinned (OpenSpec.upto enrolRegistersSpec)

/-- 'whorllaw08.EnrolVotes', WHERE WHAT IT READS IS OF BULK AT MOST 1048576: true; the input reads as it did. -/
def enrolVotesUptoRow : OpenClaim := { program := "ytnajladibkpeaaa", sum := "715a49a21ec1047b38db36486c1ba9b25411bf0529ab42dcc745c67e8d7a3639", func := "whorl/whorllaw08.EnrolVotes", spec := "enrolVotes", inPlace := ["slices.overlaps[whorl/api.Case]", "slices.overlaps[whorl/api.Link]"], unfollowed := true, recurses := true, plainKeys := false, apart := false, narrowed := true }
def EnrolVotesUptoSaid : Prop := enrolVotesUptoRow.holds Try.pinned (OpenSpec.upto enrolVotesSpec)

/-- 'whorllaw08.EnrolMatches', WHERE WHAT IT READS IS OF BULK AT MOST 1048576: true; the input reads as it did. -/
def enrolMatchesUptoRow : OpenClaim := { program := "ytnajladibkpeaaa", sum := "715a49a21ec1047b38db36486c1ba9b25411bf0529ab42dcc745c67e8d7a3639", func := "whorl/whorllaw08.EnrolMatches", spec := "enrolMatches", unfollowed := true, recurses := true, plainKeys := false, apart := false, narrowed := true }
def EnrolMatchesUptoSaid : Prop := enrolMatchesUptoRow.holds Try.pinned (OpenSpec.upto enrolMatchesSpec)

/-- 'whorllaw08.EnrolShortest', WHERE WHAT IT READS IS OF BULK AT MOST 1048576: true; the input reads as it did. -/
def enrolShortestUptoRow : OpenClaim := { program := "ytnajladibkpeaaa", sum := "715a49a21ec1047b38db36486c1ba9b25411bf0529ab42dcc745c67e8d7a3639", func := "whorl/whorllaw08.EnrolShortest", spec := "enrolShortest", inPlace := ["slices.overlaps[whorl/api.Case]", "slices.overlaps[whorl/api.Link]"], unfollowed := true, recurses := true, plainKeys := false, apart := false, narrowed := true }
def EnrolShortestUptoSaid : Prop := enrolShortestUptoRow.holds Try.pinned (OpenSpec.upto enrolShortestSpec)

/-- 'whorllaw08.EnrolPartition', WHERE WHAT IT READS IS OF BULK AT MOST 1048576: true; the input reads as it did. -/
def enrolPartitionUptoRow : OpenClaim := { program := "ytnajladibkpeaaa", sum := "715a49a21ec1047b38db36486c1ba9b25411bf0529ab42dcc745c67e8d7a3639", func := "whorl/whorllaw08.EnrolPartition", spec := "enrolPartition", inPlace := ["slices.overlaps[whorl/api.Case]", "slices.overlaps[whorl/api.Link]"], unfollowed := true, recurses := true, plainKeys := false, apart := false, narrowed := true }
def EnrolPartitionUptoSaid : Prop := enrolPartitionUptoRow.holds Try.pinned (OpenSpec.upto enrolPartitionSpec)

/-- 'whorllaw08.EnrolJoins', WHERE WHAT IT READS IS OF BULK AT MOST 1048576: true; the input reads as it did. -/
def enrolJoinsUptoRow : OpenClaim := { program := "ytnajladibkpeaaa", sum := "715a49a21ec1047b38db36486c1ba9b25411bf0529ab42dcc745c67e8d7a3639", func := "whorl/whorllaw08.EnrolJoins", spec := "enrolJoins", inPlace := ["slices.overlaps[whorl/api.Case]", "slices.overlaps[whorl/api.Link]"], unfollowed := true, recurses := true, plainKeys := false, apart := false, narrowed := true }
def EnrolJoinsUptoSaid : Prop := enrolJoinsUptoRow.holds Try.pinned (OpenSpec.upto enrolJoinsSpec)

/-- 'whorllaw08.EnrolSplit', WHERE WHAT IT READS IS OF BULK AT MOST 1048576: true; the input reads as it did. -/
def enrolSplitUptoRow : OpenClaim := { program := "ytnajladibkpeaaa", sum := "715a49a21ec1047b38db36486c1ba9b25411bf0529ab42dcc745c67e8d7a3639", func := "whorl/whorllaw08.EnrolSplit", spec := "enrolSplit", inPlace := ["slices.overlaps[whorl/api.Case]", "slices.overlaps[whorl/api.Link]"], unfollowed := true, recurses := true, plainKeys := false, apart := false, narrowed := true }
def EnrolSplitUptoSaid : Prop := enrolSplitUptoRow.holds Try.pinned (OpenSpec.upto enrolSplitSpec)

end Rows
end Go.Proofs.Ytnajladibkpeaaa
