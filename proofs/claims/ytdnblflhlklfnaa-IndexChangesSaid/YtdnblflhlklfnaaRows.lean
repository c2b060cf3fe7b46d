/-
  No cell of these rows narrows 'for every input' (looked for: loops, veiled, ifaces, maps, wideKeys, modest, calm, conditions, laid).
  DERIVED. THE GIVEN ROWS OF THIS SEAT. 12 by the template 'for every input the law returns true; each argument reads behind the call as it read before'; 0 by the template 'total and deterministic' (their statements: YtdnblflhlklfnaaTotals.lean).
  GIVEN WITH THE SEED: the statements are not yours to turn. If you find one false, say at which input.
  Laid BY PROGRAM, IN A SANDBOX (cutbox-rows.mjs): the forced cells as the released guide's own fill.sh prints them over the translation 709c191196a85d69… (all of the seat's roots in one cut). By AI agents, Wed Nov 11 2026. No macro, syntax, notation, axiom, sorry.
-/
import Derived.Test.YtdnblflhlklfnaaChecked
import GoSem.Claim
import GoSem.ClaimJoined
import GoSem.ClaimMapViews
import Derived.JoinedTies
import Derived.KernelRfl
namespace Go.Proofs.Ytdnblflhlklfnaa
/- THE CELL 'sum', in the pinned program and in every row, IS THE sha256 OF THE DUMP (.gsa) THAT YtdnblflhlklfnaaProg.lean LOADS. Nothing in Lean hashes anything: it is a label: what it is worth is what the hold of that sum in a sandbox is worth. -/
noncomputable def Try.pinned : Pinned := { name := "ytdnblflhlklfnaa", sum := "709c191196a85d699cf0c7e9ae7ed1f75575fe87a5766bb7ee6d66765ed6f088", checked := Try.checked }
namespace Rows
def none {H : Type} : Left H := { results := [], args := [] }

/-- 'whorllaw04.IndexBuilds': WHATEVER THE INPUT: true; the input reads as it did. -/
def indexBuildsSpec : ChangeSpec := { name := "indexBuilds", fn := fun _ => fun
  | [d1, d2] => { results := [.lit (.bool true)], args := [d1, d2] }
  | _ => none }
def indexBuildsRow : OpenClaim := { program := "ytdnblflhlklfnaa", sum := "709c191196a85d699cf0c7e9ae7ed1f75575fe87a5766bb7ee6d66765ed6f088", func := "whorl/whorllaw04.IndexBuilds", spec := "indexBuilds", inPlace := ["slices.overlaps[whorl/api.Posting]"], unfollowed := true, recurses := true, apart := false }
def IndexBuildsSaid : Prop := indexBuildsRow.holds Try.pinned (OpenSpec.ofChange indexBuildsSpec)

/-- ITS FALSE NEIGHBOUR: 'it returns false'. Refute it at one input. -/
def indexBuildsWrong : ChangeSpec := { name := "indexBuilds", fn := fun _ => fun
  | [d1, d2] => { results := [.lit (.bool false)], args := [d1, d2] }
  | _ => none }
def IndexBuildsWrongFalsely : Prop := indexBuildsRow.holds Try.pinned (OpenSpec.ofChange indexBuildsWrong)

/-- 'whorllaw04.IndexChanges': WHATEVER THE INPUT: true; the input reads as it did. -/
def indexChangesSpec : ChangeSpec := { name := "indexChanges", fn := fun _ => fun
  | [d1, d2, d3, d4, d5] => { results := [.lit (.bool true)], args := [d1, d2, d3, d4, d5] }
  | _ => none }
def indexChangesRow : OpenClaim := { program := "ytdnblflhlklfnaa", sum := "709c191196a85d699cf0c7e9ae7ed1f75575fe87a5766bb7ee6d66765ed6f088", func := "whorl/whorllaw04.IndexChanges", spec := "indexChanges", inPlace := ["slices.overlaps[whorl/api.Posting]"], unfollowed := true, recurses := true, apart := false }
def IndexChangesSaid : Prop := indexChangesRow.holds Try.pinned (OpenSpec.ofChange indexChangesSpec)

/-- ITS FALSE NEIGHBOUR: 'it returns false'. Refute it at one input. -/
def indexChangesWrong : ChangeSpec := { name := "indexChanges", fn := fun _ => fun
  | [d1, d2, d3, d4, d5] => { results := [.lit (.bool false)], args := [d1, d2, d3, d4, d5] }
  | _ => none }
def IndexChangesWrongFalsely : Prop := indexChangesRow.holds Try.pinned (OpenSpec.ofChange indexChangesWrong)

/-- 'whorllaw04.IndexComplete': WHATEVER THE INPUT: true; the input reads as it did. -/
def indexCompleteSpec : ChangeSpec := { name := "indexComplete", fn := fun _ => fun
  | [d1, d2, d3, d4] => { results := [.lit (.bool true)], args := [d1, d2, d3, d4] }
  | _ => none }
def indexCompleteRow : OpenClaim := { program := "ytdnblflhlklfnaa", sum := "709c191196a85d699cf0c7e9ae7ed1f75575fe87a5766bb7ee6d66765ed6f088", func := "whorl/whorllaw04.IndexComplete", spec := "indexComplete", inPlace := ["slices.overlaps[whorl/api.Posting]"], unfollowed := true, recurses := true, apart := false }
def IndexCompleteSaid : Prop := indexCompleteRow.holds Try.pinned (OpenSpec.ofChange indexCompleteSpec)

/-- ITS FALSE NEIGHBOUR: 'it returns false'. Refute it at one input. -/
def indexCompleteWrong : ChangeSpec := { name := "indexComplete", fn := fun _ => fun
  | [d1, d2, d3, d4] => { results := [.lit (.bool false)], args := [d1, d2, d3, d4] }
  | _ => none }
def IndexCompleteWrongFalsely : Prop := indexCompleteRow.holds Try.pinned (OpenSpec.ofChange indexCompleteWrong)

/-- 'whorllaw04.IndexGrows': WHATEVER THE INPUT: true; the input reads as it did. -/
def indexGrowsSpec : ChangeSpec := { name := "indexGrows", fn := fun _ => fun
  | [d1, d2, d3, d4, d5, d6] => { results := [.lit (.bool true)], args := [d1, d2, d3, d4, d5, d6] }
  | _ => none }
def indexGrowsRow : OpenClaim := { program := "ytdnblflhlklfnaa", sum := "709c191196a85d699cf0c7e9ae7ed1f75575fe87a5766bb7ee6d66765ed6f088", func := "whorl/whorllaw04.IndexGrows", spec := "indexGrows", inPlace := ["slices.overlaps[whorl/api.Posting]"], unfollowed := true, recurses := true, apart := false }
def IndexGrowsSaid : Prop := indexGrowsRow.holds Try.pinned (OpenSpec.ofChange indexGrowsSpec)

/-- ITS FALSE NEIGHBOUR: 'it returns false'. Refute it at one input. -/
def indexGrowsWrong : ChangeSpec := { name := "indexGrows", fn := fun _ => fun
  | [d1, d2, d3, d4, d5, d6] => { results := [.lit (.bool false)], args := [d1, d2, d3, d4, d5, d6] }
  | _ => none }
def IndexGrowsWrongFalsely : Prop := indexGrowsRow.holds Try.pinned (OpenSpec.ofChange indexGrowsWrong)

/-- 'whorllaw04.IndexOrder': WHATEVER THE INPUT: true; the input reads as it did. -/
def indexOrderSpec : ChangeSpec := { name := "indexOrder", fn := fun _ => fun
  | [d] => { results := [.lit (.bool true)], args := [d] }
  | _ => none }
def indexOrderRow : OpenClaim := { program := "ytdnblflhlklfnaa", sum := "709c191196a85d699cf0c7e9ae7ed1f75575fe87a5766bb7ee6d66765ed6f088", func := "whorl/whorllaw04.IndexOrder", spec := "indexOrder", inPlace := ["slices.overlaps[whorl/api.Posting]"], unfollowed := true, recurses := true, apart := false }
def IndexOrderSaid : Prop := indexOrderRow.holds Try.pinned (OpenSpec.ofChange indexOrderSpec)

/-- ITS FALSE NEIGHBOUR: 'it returns false'. Refute it at one input. -/
def indexOrderWrong : ChangeSpec := { name := "indexOrder", fn := fun _ => fun
  | [d] => { results := [.lit (.bool false)], args := [d] }
  | _ => none }
def IndexOrderWrongFalsely : Prop := indexOrderRow.holds Try.pinned (OpenSpec.ofChange indexOrderWrong)

/-- 'whorllaw04.IndexTrace': WHATEVER THE INPUT: true; the input reads as it did. -/
def indexTraceSpec : ChangeSpec := { name := "indexTrace", fn := fun _ => fun
  | [d1, d2, d3] => { results := [.lit (.bool true)], args := [d1, d2, d3] }
  | _ => none }
def indexTraceRow : OpenClaim := { program := "ytdnblflhlklfnaa", sum := "709c191196a85d699cf0c7e9ae7ed1f75575fe87a5766bb7ee6d66765ed6f088", func := "whorl/whorllaw04.IndexTrace", spec := "indexTrace", inPlace := ["slices.overlaps[whorl/api.Posting]"], unfollowed := true, recurses := true, apart := false }
def IndexTraceSaid : Prop := indexTraceRow.holds Try.pinned (OpenSpec.ofChange indexTraceSpec)

/-- ITS FALSE NEIGHBOUR: 'it returns false'. Refute it at one input. -/
def indexTraceWrong : ChangeSpec := { name := "indexTrace", fn := fun _ => fun
  | [d1, d2, d3] => { results := [.lit (.bool false)], args := [d1, d2, d3] }
  | _ => none }
def IndexTraceWrongFalsely : Prop := indexTraceRow.holds Try.pinned (OpenSpec.ofChange indexTraceWrong)

/-- 'whorllaw04.IndexGone': WHATEVER THE INPUT: true; the input reads as it did. -/
def indexGoneSpec : ChangeSpec := { name := "indexGone", fn := fun _ => fun
  | [d1, d2, d3, d4, d5] => { results := [.lit (.bool true)], args := [d1, d2, d3, d4, d5] }
  | _ => none }
def indexGoneRow : OpenClaim := { program := "ytdnblflhlklfnaa", sum := "709c191196a85d699cf0c7e9ae7ed1f75575fe87a5766bb7ee6d66765ed6f088", func := "whorl/whorllaw04.IndexGone", spec := "indexGone", inPlace := ["slices.overlaps[whorl/api.Posting]"], unfollowed := true, recurses := true, apart := false }
def IndexGoneSaid : Prop := indexGoneRow.holds Try.pinned (OpenSpec.ofChange indexGoneSpec)

/-- ITS FALSE NEIGHBOUR: 'it returns false'. Refute it at one input. -/
def indexGoneWrong : ChangeSpec := { name := "indexGone", fn := fun _ => fun
  | [d1, d2, d3, d4, d5] => { results := [.lit (.bool false)], args := [d1, d2, d3, d4, d5] }
  | _ => none }
def IndexGoneWrongFalsely : Prop := indexGoneRow.holds Try.pinned (OpenSpec.ofChange indexGoneWrong)

/-- 'whorllaw04.IndexTwins': WHATEVER THE INPUT: true; the input reads as it did. -/
def indexTwinsSpec : ChangeSpec := { name := "indexTwins", fn := fun _ => fun
  | [d1, d2, d3] => { results := [.lit (.bool true)], args := [d1, d2, d3] }
  | _ => none }
def indexTwinsRow : OpenClaim := { program := "ytdnblflhlklfnaa", sum := "709c191196a85d699cf0c7e9ae7ed1f75575fe87a5766bb7ee6d66765ed6f088", func := "whorl/whorllaw04.IndexTwins", spec := "indexTwins", inPlace := ["slices.overlaps[whorl/api.Posting]"], unfollowed := true, recurses := true, apart := false }
def IndexTwinsSaid : Prop := indexTwinsRow.holds Try.pinned (OpenSpec.ofChange indexTwinsSpec)

/-- ITS FALSE NEIGHBOUR: 'it returns false'. Refute it at one input. -/
def indexTwinsWrong : ChangeSpec := { name := "indexTwins", fn := fun _ => fun
  | [d1, d2, d3] => { results := [.lit (.bool false)], args := [d1, d2, d3] }
  | _ => none }
def IndexTwinsWrongFalsely : Prop := indexTwinsRow.holds Try.pinned (OpenSpec.ofChange indexTwinsWrong)

/-- 'whorllaw04.IndexStrict': WHATEVER THE INPUT: true; the input reads as it did. -/
def indexStrictSpec : ChangeSpec := { name := "indexStrict", fn := fun _ => fun
  | [d] => { results := [.lit (.bool true)], args := [d] }
  | _ => none }
def indexStrictRow : OpenClaim := { program := "ytdnblflhlklfnaa", sum := "709c191196a85d699cf0c7e9ae7ed1f75575fe87a5766bb7ee6d66765ed6f088", func := "whorl/whorllaw04.IndexStrict", spec := "indexStrict", inPlace := ["slices.overlaps[whorl/api.Posting]"], unfollowed := true, recurses := true, apart := false }
def IndexStrictSaid : Prop := indexStrictRow.holds Try.pinned (OpenSpec.ofChange indexStrictSpec)

/-- ITS FALSE NEIGHBOUR: 'it returns false'. Refute it at one input. -/
def indexStrictWrong : ChangeSpec := { name := "indexStrict", fn := fun _ => fun
  | [d] => { results := [.lit (.bool false)], args := [d] }
  | _ => none }
def IndexStrictWrongFalsely : Prop := indexStrictRow.holds Try.pinned (OpenSpec.ofChange indexStrictWrong)

/-- 'whorllaw04.IndexNearest': WHATEVER THE INPUT: true; the input reads as it did. -/
def indexNearestSpec : ChangeSpec := { name := "indexNearest", fn := fun _ => fun
  | [d1, d2, d3] => { results := [.lit (.bool true)], args := [d1, d2, d3] }
  | _ => none }
def indexNearestRow : OpenClaim := { program := "ytdnblflhlklfnaa", sum := "709c191196a85d699cf0c7e9ae7ed1f75575fe87a5766bb7ee6d66765ed6f088", func := "whorl/whorllaw04.IndexNearest", spec := "indexNearest", inPlace := ["slices.overlaps[whorl/api.Posting]"], unfollowed := true, recurses := true, apart := false }
def IndexNearestSaid : Prop := indexNearestRow.holds Try.pinned (OpenSpec.ofChange indexNearestSpec)

/-- ITS FALSE NEIGHBOUR: 'it returns false'. Refute it at one input. -/
def indexNearestWrong : ChangeSpec := { name := "indexNearest", fn := fun _ => fun
  | [d1, d2, d3] => { results := [.lit (.bool false)], args := [d1, d2, d3] }
  | _ => none }
def IndexNearestWrongFalsely : Prop := indexNearestRow.holds Try.pinned (OpenSpec.ofChange indexNearestWrong)

/-- 'whorllaw04.IndexExamples': WHATEVER THE INPUT: true; the input reads as it did. -/
def indexExamplesSpec : ChangeSpec := { name := "indexExamples", fn := fun _ => fun
  | [] => { results := [.lit (.bool true)], args := [] }
  | _ => none }
def indexExamplesRow : OpenClaim := { program := "ytdnblflhlklfnaa", sum := "709c191196a85d699cf0c7e9ae7ed1f75575fe87a5766bb7ee6d66765ed6f088", func := "whorl/whorllaw04.IndexExamples", spec := "indexExamples", inPlace := ["slices.overlaps[whorl/api.Posting]"], unfollowed := true, recurses := true, apart := false }
def IndexExamplesSaid : Prop := indexExamplesRow.holds Try.pinned (OpenSpec.ofChange indexExamplesSpec)

/-- ITS FALSE NEIGHBOUR: 'it returns false'. Refute it at one input. -/
def indexExamplesWrong : ChangeSpec := { name := "indexExamples", fn := fun _ => fun
  | [] => { results := [.lit (.bool false)], args := [] }
  | _ => none }
def IndexExamplesWrongFalsely : Prop := indexExamplesRow.holds Try.pinned (OpenSpec.ofChange indexExamplesWrong)

/-- 'whorllaw04.IndexShards': WHATEVER THE INPUT: true; the input reads as it did. -/
def indexShardsSpec : ChangeSpec := { name := "indexShards", fn := fun _ => fun
  | [d1, d2, d3, d4, d5] => { results := [.lit (.bool true)], args := [d1, d2, d3, d4, d5] }
  | _ => none }
def indexShardsRow : OpenClaim := { program := "ytdnblflhlklfnaa", sum := "709c191196a85d699cf0c7e9ae7ed1f75575fe87a5766bb7ee6d66765ed6f088", func := "whorl/whorllaw04.IndexShards", spec := "indexShards", inPlace := ["slices.overlaps[whorl/api.Posting]"], unfollowed := true, recurses := true, apart := false }
def IndexShardsSaid : Prop := indexShardsRow.holds Try.pinned (OpenSpec.ofChange indexShardsSpec)

/-- ITS FALSE NEIGHBOUR: 'it returns false'. Refute it at one input. -/
def indexShardsWrong : ChangeSpec := { name := "indexShards", fn := fun _ => fun
  | [d1, d2, d3, d4, d5] => { results := [.lit (.bool false)], args := [d1, d2, d3, d4, d5] }
  | _ => none }
def IndexShardsWrongFalsely : Prop := indexShardsRow.holds Try.pinned (OpenSpec.ofChange indexShardsWrong)

/- THE SECOND FORM. 'bulk': how many values and letters a reading holds, each counted each time it is reached (what is shared counts as often as it is met; a slice's spare places count too). A statement '..UptoSaid' is the law's where the arguments, and the package variables that the reading takes, are together of bulk at most 1048576: NARROWER than '..Said'. Prove '..Said' where nothing that the law and all that it calls make is longer than what came in: it says more and counts as full. Else prove '..UptoSaid'. A law counts once. -/
mutual
def uptoBulk {H : Type} : DataW H → Nat
  | .lit (.string bytes) => bytes.length + 1
  | .lit _ => 1
  | .nil => 1
  | .ptr d => uptoBulk d + 1
  | .slice elems spare => uptoBulkAll elems + uptoBulkAll spare + 1
  | .agg parts => uptoBulkAll parts + 1
  | .iface _ d => uptoBulk d + 1
  | .map entries => uptoBulkEntries entries + 1
  | .held _ => 1
def uptoBulkAll {H : Type} : List (DataW H) → Nat
  | [] => 0
  | d :: r => uptoBulk d + uptoBulkAll r
def uptoBulkEntries {H : Type} : List (Lit × DataW H) → Nat
  | [] => 0
  | x :: r => uptoBulkEntry x + uptoBulkEntries r
def uptoBulkEntry {H : Type} : Lit × DataW H → Nat
  | (.string bytes, d) => bytes.length + uptoBulk d + 1
  | (_, d) => uptoBulk d + 1
 end
def uptoSmall : (H : Type) → List (DataW H) → Bool := fun _ ds => decide (uptoBulkAll ds ≤ 1048576)
def OpenSpec.upto (s : _root_.Go.ChangeSpec) : _root_.Go.OpenSpec := { _root_.Go.OpenSpec.ofChange s with cond := some uptoSmall }

/-- 'whorllaw04.IndexBuilds', WHERE WHAT IT READS IS OF BULK AT MOST 1048576: true; the input reads as it did. -/
def indexBuildsUptoRow : OpenClaim := { program := "ytdnblflhlklfnaa", sum := "709c191196a85d699cf0c7e9ae7ed1f75575fe87a5766bb7ee6d66765ed6f088", func := "whorl/whorllaw04.IndexBuilds", spec := "indexBuilds", inPlace := ["slices.overlaps[whorl/api.Posting]"], unfollowed := true, recurses := true, apart := false, narrowed := true }
def IndexBuildsUptoSaid : Prop := indexBuildsUptoRow.holds Try.pinned (OpenSpec.upto indexBuildsSpec)

/-- 'whorllaw04.IndexChanges', WHERE WHAT IT READS IS OF BULK AT MOST 1048576: true; the input reads as it did. -/
def indexChangesUptoRow : OpenClaim := { program := "ytdnblflhlklfnaa", sum := "709c191196a85d699cf0c7e9ae7ed1f75575fe87a5766bb7ee6d66765ed6f088", func := "whorl/whorllaw04.IndexChanges", spec := "indexChanges", inPlace := ["slices.overlaps[whorl/api.Posting]"], unfollowed := true, recurses := true, apart := false, narrowed := true }
def IndexChangesUptoSaid : Prop := indexChangesUptoRow.holds Try.pinned (OpenSpec.upto indexChangesSpec)

/-- 'whorllaw04.IndexComplete', WHERE WHAT IT READS IS OF BULK AT MOST 1048576: true; the input reads as it did. -/
def indexCompleteUptoRow : OpenClaim := { program := "ytdnblflhlklfnaa", sum := "709c191196a85d699cf0c7e9ae7ed1f75575fe87a5766bb7ee6d66765ed6f088", func := "whorl/whorllaw04.IndexComplete", spec := "indexComplete", inPlace := ["slices.overlaps[whorl/api.Posting]"], unfollowed := true, recurses := true, apart := false, narrowed := true }
def IndexCompleteUptoSaid : Prop := indexCompleteUptoRow.holds Try.pinned (OpenSpec.upto indexCompleteSpec)

/-- 'whorllaw04.IndexGrows', WHERE WHAT IT READS IS OF BULK AT MOST 1048576: true; the input reads as it did. -/
def indexGrowsUptoRow : OpenClaim := { program := "ytdnblflhlklfnaa", sum := "709c191196a85d699cf0c7e9ae7ed1f75575fe87a5766bb7ee6d66765ed6f088", func := "whorl/whorllaw04.IndexGrows", spec := "indexGrows", inPlace := ["slices.overlaps[whorl/api.Posting]"], unfollowed := true, recurses := true, apart := false, narrowed := true }
def IndexGrowsUptoSaid : Prop := indexGrowsUptoRow.holds Try.pinned (OpenSpec.upto indexGrowsSpec)

/-- 'whorllaw04.IndexOrder', WHERE WHAT IT READS IS OF BULK AT MOST 1048576: true; the input reads as it did. -/
def indexOrderUptoRow : OpenClaim := { program := "ytdnblflhlklfnaa", sum := "709c191196a85d699cf0c7e9ae7ed1f75575fe87a5766bb7ee6d66765ed6f088", func := "whorl/whorllaw04.IndexOrder", spec := "indexOrder", inPlace := ["slices.overlaps[whorl/api.Posting]"], unfollowed := true, recurses := true, apart := false, narrowed := true }
def IndexOrderUptoSaid : Prop := indexOrderUptoRow.holds Try.pinned (OpenSpec.upto indexOrderSpec)

/-- 'whorllaw04.IndexTrace', WHERE WHAT IT READS IS OF BULK AT MOST 1048576: true; the input reads as it did. -/
def indexTraceUptoRow : OpenClaim := { program := "ytdnblflhlklfnaa", sum := "709c191196a85d699cf0c7e9ae7ed1f75575fe87a5766bb7ee6d66765ed6f088", func := "whorl/whorllaw04.IndexTrace", spec := "indexTrace", inPlace := ["slices.overlaps[whorl/api.Posting]"], unfollowed := true, recurses := true, apart := false, narrowed := true }
def IndexTraceUptoSaid : Prop := indexTraceUptoRow.holds Try.pinned (OpenSpec.upto indexTraceSpec)

/-- 'whorllaw04.IndexGone', WHERE WHAT IT READS IS OF BULK AT MOST 1048576: true; the input reads as it did. -/
def indexGoneUptoRow : OpenClaim := { program := "ytdnblflhlklfnaa", sum := "709c191196a85d699cf0c7e9ae7ed1f75575fe87a5766bb7ee6d66765ed6f088", func := "whorl/whorllaw04.IndexGone", spec := "indexGone", inPlace := ["slices.overlaps[whorl/api.Posting]"], unfollowed := true, recurses := true, apart := false, narrowed := true }
def IndexGoneUptoSaid : Prop := indexGoneUptoRow.holds Try.pinned (OpenSpec.upto indexGoneSpec)

/-- 'whorllaw04.IndexTwins', WHERE WHAT IT READS IS OF BULK AT MOST 1048576: true; the input reads as it did. -/
def indexTwinsUptoRow : OpenClaim := { program := "ytdnblflhlklfnaa", sum := "709c191196a85d699cf0c7e9ae7ed1f75575fe87a5766bb7ee6d66765ed6f088", func := "whorl/whorllaw04.IndexTwins", spec := "indexTwins", inPlace := ["slices.overlaps[whorl/api.Posting]"], unfollowed := true, recurses := true, apart := false, narrowed := true }
def IndexTwinsUptoSaid : Prop := indexTwinsUptoRow.holds Try.pinned (OpenSpec.upto indexTwinsSpec)

/-- 'whorllaw04.IndexStrict', WHERE WHAT IT READS IS OF BULK AT MOST 1048576: true; the input reads as it did. -/
def indexStrictUptoRow : OpenClaim := { program := "ytdnblflhlklfnaa", sum := "709c191196a85d699cf0c7e9ae7ed1f75575fe87a5766bb7ee6d66765ed6f088", func := "whorl/whorllaw04.IndexStrict", spec := "indexStrict", inPlace := ["slices.overlaps[whorl/api.Posting]"], unfollowed := true, recurses := true, apart := false, narrowed := true }
def IndexStrictUptoSaid : Prop := indexStrictUptoRow.holds Try.pinned (OpenSpec.upto indexStrictSpec)

/-- 'whorllaw04.IndexNearest', WHERE WHAT IT READS IS OF BULK AT MOST 1048576: true; the input reads as it did. -/
def indexNearestUptoRow : OpenClaim := { program := "ytdnblflhlklfnaa", sum := "709c191196a85d699cf0c7e9ae7ed1f75575fe87a5766bb7ee6d66765ed6f088", func := "whorl/whorllaw04.IndexNearest", spec := "indexNearest", inPlace := ["slices.overlaps[whorl/api.Posting]"], unfollowed := true, recurses := true, apart := false, narrowed := true }
def IndexNearestUptoSaid : Prop := indexNearestUptoRow.holds Try.pinned (OpenSpec.upto indexNearestSpec)

/-- 'whorllaw04.IndexExamples', WHERE WHAT IT READS IS OF BULK AT MOST 1048576: true; the input reads as it did. -/
def indexExamplesUptoRow : OpenClaim := { program := "ytdnblflhlklfnaa", sum := "709c191196a85d699cf0c7e9ae7ed1f75575fe87a5766bb7ee6d66765ed6f088", func := "whorl/whorllaw04.IndexExamples", spec := "indexExamples", inPlace := ["slices.overlaps[whorl/api.Posting]"], unfollowed := true, recurses := true, apart := false, narrowed := true }
def IndexExamplesUptoSaid : Prop := indexExamplesUptoRow.holds Try.pinned (OpenSpec.upto indexExamplesSpec)

/-- 'whorllaw04.IndexShards', WHERE WHAT IT READS IS OF BULK AT MOST 1048576: true; the input reads as it did. -/
def indexShardsUptoRow : OpenClaim := { program := "ytdnblflhlklfnaa", sum := "709c191196a85d699cf0c7e9ae7ed1f75575fe87a5766bb7ee6d66765ed6f088", func := "whorl/whorllaw04.IndexShards", spec := "indexShards", inPlace := ["slices.overlaps[whorl/api.Posting]"], unfollowed := true, recurses := true, apart := false, narrowed := true }
def IndexShardsUptoSaid : Prop := indexShardsUptoRow.holds Try.pinned (OpenSpec.upto indexShardsSpec)

end Rows
end Go.Proofs.Ytdnblflhlklfnaa
