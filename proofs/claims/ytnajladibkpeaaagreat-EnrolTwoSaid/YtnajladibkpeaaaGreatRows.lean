/-
  No cell of these rows narrows 'for every input' (looked for: loops, veiled, ifaces, maps, wideKeys, modest, calm, conditions, laid).
  DERIVED. THE GIVEN ROWS OF THIS SEAT. 6 by the template 'for every input the law returns true; each argument reads behind the call as it read before'; 0 by the template 'total and deterministic' (their statements: YtnajladibkpeaaaGreatTotals.lean).
  GIVEN WITH THE SEED: the statements are not yours to turn. If you find one false, say at which input.
  Laid BY PROGRAM, IN A SANDBOX (cutbox-rows.mjs): the forced cells as the released guide's own fill.sh prints them over the translation 24d75ba626c718ab… (all of the seat's roots in one cut). By AI agents, Wed Nov 11 2026. No macro, syntax, notation, axiom, sorry.
-/
import Derived.Test.YtnajladibkpeaaaGreatChecked
import GoSem.Claim
import GoSem.ClaimJoined
import GoSem.ClaimMapViews
import Derived.JoinedTies
import Derived.KernelRfl
namespace Go.Proofs.YtnajladibkpeaaaGreat
/- THE CELL 'sum', in the pinned program and in every row, IS THE sha256 OF THE DUMP (.gsa) THAT YtnajladibkpeaaaGreatProg.lean LOADS. Nothing in Lean hashes anything: it is a label: what it is worth is what the hold of that sum in a sandbox is worth. -/
noncomputable def Tryz.pinned : Pinned := { name := "ytnajladibkpeaaagreat", sum := "24d75ba626c718ab2789a711e36420aed0e773a6f69d31b0bc4ca5e625b63494", checked := Tryz.checked }
namespace Rows
def none {H : Type} : Left H := { results := [], args := [] }

/-- 'whorllaw08.EnrolTwo': WHATEVER THE INPUT: true; the input reads as it did. -/
def enrolTwoSpec : ChangeSpec := { name := "enrolTwo", fn := fun _ => fun
  | [d] => { results := [.lit (.bool true)], args := [d] }
  | _ => none }
def enrolTwoRow : OpenClaim := { program := "ytnajladibkpeaaagreat", sum := "24d75ba626c718ab2789a711e36420aed0e773a6f69d31b0bc4ca5e625b63494", func := "whorl/whorllaw08.EnrolTwo", spec := "enrolTwo", inPlace := ["slices.overlaps[whorl/api.Case]", "slices.overlaps[whorl/api.Link]"], unfollowed := true, recurses := true, plainKeys := false, apart := false }
def EnrolTwoSaid : Prop := enrolTwoRow.holds Tryz.pinned (OpenSpec.ofChange enrolTwoSpec)

/-- ITS FALSE NEIGHBOUR: 'it returns false'. Refute it at one input. -/
def enrolTwoWrong : ChangeSpec := { name := "enrolTwo", fn := fun _ => fun
  | [d] => { results := [.lit (.bool false)], args := [d] }
  | _ => none }
def EnrolTwoWrongFalsely : Prop := enrolTwoRow.holds Tryz.pinned (OpenSpec.ofChange enrolTwoWrong)

/-- 'whorllaw08.EnrolKeeps': WHATEVER THE INPUT: true; the input reads as it did. -/
def enrolKeepsSpec : ChangeSpec := { name := "enrolKeeps", fn := fun _ => fun
  | [d1, d2, d3, d4, d5] => { results := [.lit (.bool true)], args := [d1, d2, d3, d4, d5] }
  | _ => none }
def enrolKeepsRow : OpenClaim := { program := "ytnajladibkpeaaagreat", sum := "24d75ba626c718ab2789a711e36420aed0e773a6f69d31b0bc4ca5e625b63494", func := "whorl/whorllaw08.EnrolKeeps", spec := "enrolKeeps", inPlace := ["slices.overlaps[whorl/api.Case]", "slices.overlaps[whorl/api.Link]"], unfollowed := true, recurses := true, plainKeys := false, apart := false }
def EnrolKeepsSaid : Prop := enrolKeepsRow.holds Tryz.pinned (OpenSpec.ofChange enrolKeepsSpec)

/-- ITS FALSE NEIGHBOUR: 'it returns false'. Refute it at one input. -/
def enrolKeepsWrong : ChangeSpec := { name := "enrolKeeps", fn := fun _ => fun
  | [d1, d2, d3, d4, d5] => { results := [.lit (.bool false)], args := [d1, d2, d3, d4, d5] }
  | _ => none }
def EnrolKeepsWrongFalsely : Prop := enrolKeepsRow.holds Tryz.pinned (OpenSpec.ofChange enrolKeepsWrong)

/-- 'whorllaw08.EnrolOne': WHATEVER THE INPUT: true; the input reads as it did. -/
def enrolOneSpec : ChangeSpec := { name := "enrolOne", fn := fun _ => fun
  | [d1, d2, d3] => { results := [.lit (.bool true)], args := [d1, d2, d3] }
  | _ => none }
def enrolOneRow : OpenClaim := { program := "ytnajladibkpeaaagreat", sum := "24d75ba626c718ab2789a711e36420aed0e773a6f69d31b0bc4ca5e625b63494", func := "whorl/whorllaw08.EnrolOne", spec := "enrolOne", inPlace := ["slices.overlaps[whorl/api.Case]", "slices.overlaps[whorl/api.Link]"], unfollowed := true, recurses := true, plainKeys := false, apart := false }
def EnrolOneSaid : Prop := enrolOneRow.holds Tryz.pinned (OpenSpec.ofChange enrolOneSpec)

/-- ITS FALSE NEIGHBOUR: 'it returns false'. Refute it at one input. -/
def enrolOneWrong : ChangeSpec := { name := "enrolOne", fn := fun _ => fun
  | [d1, d2, d3] => { results := [.lit (.bool false)], args := [d1, d2, d3] }
  | _ => none }
def EnrolOneWrongFalsely : Prop := enrolOneRow.holds Tryz.pinned (OpenSpec.ofChange enrolOneWrong)

/-- 'whorllaw08.EnrolLess': WHATEVER THE INPUT: true; the input reads as it did. -/
def enrolLessSpec : ChangeSpec := { name := "enrolLess", fn := fun _ => fun
  | [d1, d2, d3, d4, d5] => { results := [.lit (.bool true)], args := [d1, d2, d3, d4, d5] }
  | _ => none }
def enrolLessRow : OpenClaim := { program := "ytnajladibkpeaaagreat", sum := "24d75ba626c718ab2789a711e36420aed0e773a6f69d31b0bc4ca5e625b63494", func := "whorl/whorllaw08.EnrolLess", spec := "enrolLess", inPlace := ["slices.overlaps[whorl/api.Case]", "slices.overlaps[whorl/api.Link]"], unfollowed := true, recurses := true, plainKeys := false, apart := false }
def EnrolLessSaid : Prop := enrolLessRow.holds Tryz.pinned (OpenSpec.ofChange enrolLessSpec)

/-- ITS FALSE NEIGHBOUR: 'it returns false'. Refute it at one input. -/
def enrolLessWrong : ChangeSpec := { name := "enrolLess", fn := fun _ => fun
  | [d1, d2, d3, d4, d5] => { results := [.lit (.bool false)], args := [d1, d2, d3, d4, d5] }
  | _ => none }
def EnrolLessWrongFalsely : Prop := enrolLessRow.holds Tryz.pinned (OpenSpec.ofChange enrolLessWrong)

/-- 'whorllaw08.EnrolOrder': WHATEVER THE INPUT: true; the input reads as it did. -/
def enrolOrderSpec : ChangeSpec := { name := "enrolOrder", fn := fun _ => fun
  | [d1, d2, d3, d4, d5, d6, d7] => { results := [.lit (.bool true)], args := [d1, d2, d3, d4, d5, d6, d7] }
  | _ => none }
def enrolOrderRow : OpenClaim := { program := "ytnajladibkpeaaagreat", sum := "24d75ba626c718ab2789a711e36420aed0e773a6f69d31b0bc4ca5e625b63494", func := "whorl/whorllaw08.EnrolOrder", spec := "enrolOrder", inPlace := ["slices.overlaps[whorl/api.Case]", "slices.overlaps[whorl/api.Link]"], unfollowed := true, recurses := true, plainKeys := false, apart := false }
def EnrolOrderSaid : Prop := enrolOrderRow.holds Tryz.pinned (OpenSpec.ofChange enrolOrderSpec)

/-- ITS FALSE NEIGHBOUR: 'it returns false'. Refute it at one input. -/
def enrolOrderWrong : ChangeSpec := { name := "enrolOrder", fn := fun _ => fun
  | [d1, d2, d3, d4, d5, d6, d7] => { results := [.lit (.bool false)], args := [d1, d2, d3, d4, d5, d6, d7] }
  | _ => none }
def EnrolOrderWrongFalsely : Prop := enrolOrderRow.holds Tryz.pinned (OpenSpec.ofChange enrolOrderWrong)

/-- 'whorllaw08.EnrolExamples': WHATEVER THE INPUT: true; the input reads as it did. -/
def enrolExamplesSpec : ChangeSpec := { name := "enrolExamples", fn := fun _ => fun
  | [] => { results := [.lit (.bool true)], args := [] }
  | _ => none }
def enrolExamplesRow : OpenClaim := { program := "ytnajladibkpeaaagreat", sum := "24d75ba626c718ab2789a711e36420aed0e773a6f69d31b0bc4ca5e625b63494", func := "whorl/whorllaw08.EnrolExamples", spec := "enrolExamples", inPlace := ["slices.overlaps[whorl/api.Case]", "slices.overlaps[whorl/api.Link]"], unfollowed := true, recurses := true, plainKeys := false, apart := false }
def EnrolExamplesSaid : Prop := enrolExamplesRow.holds Tryz.pinned (OpenSpec.ofChange enrolExamplesSpec)

/-- ITS FALSE NEIGHBOUR: 'it returns false'. Refute it at one input. -/
def enrolExamplesWrong : ChangeSpec := { name := "enrolExamples", fn := fun _ => fun
  | [] => { results := [.lit (.bool false)], args := [] }
  | _ => none }
def EnrolExamplesWrongFalsely : Prop := enrolExamplesRow.holds Tryz.pinned (OpenSpec.ofChange enrolExamplesWrong)

/- THE SECOND FORM. 'bulk': how many values and letters a reading holds, each counted each time it is reached (what is shared counts as often as it is met; a slice's spare places count too). A statement '..UptoSaid' is the law's where the arguments, and the package variables that the reading takes, are together of bulk at most 1048576: NARROWER than '..Said'. Prove '..Said' where nothing that the law and all that it calls make is longer than what came in: it says more and counts as full. Else prove '..UptoSaid'. A law counts once. -/
mutual
def uptoBulk {H : Type} : DataW H → Nat
  | .lit (.string bytes) => bytes.length + 1
  | .lit _ => 1
  | .nil => 1
  | .ptr d => uptoBulk d + 1
  | .slice elems spare => uptoBulkAll elems + uptoBulkAll spare + 1
  | .agg parts => uptoBulkAll parts + 1
  | .iface _ d => uptoBulk d + 1
  | .map entries => uptoBulkEntries entries + 1
  | .held _ => 1
def uptoBulkAll {H : Type} : List (DataW H) → Nat
  | [] => 0
  | d :: r => uptoBulk d + uptoBulkAll r
def uptoBulkEntries {H : Type} : List (Lit × DataW H) → Nat
  | [] => 0
  | x :: r => uptoBulkEntry x + uptoBulkEntries r
def uptoBulkEntry {H : Type} : Lit × DataW H → Nat
  | (.string bytes, d) => bytes.length + uptoBulk d + 1
  | (_, d) => uptoBulk d + 1
 end
def uptoSmall : (H : Type) → List (DataW H) → Bool := fun _ ds => decide (uptoBulkAll ds ≤ 1048576)
def OpenSpec.upto (s : _root_.Go.ChangeSpec) : _root_.Go.OpenSpec := { _root_.Go.OpenSpec.ofChange s with cond := some uptoSmall }

/-- 'whorllaw08.EnrolTwo', WHERE WHAT IT READS IS OF BULK AT MOST 1048576: true; the input reads as it did. -/
def enrolTwoUptoRow : OpenClaim := { program := "ytnajladibkpeaaagreat", sum := "24d75ba626c718ab2789a711e36420aed0e773a6f69d31b0bc4ca5e625b63494", func := "whorl/whorllaw08.EnrolTwo", spec := "enrolTwo", inPlace := ["slices.overlaps[whorl/api.Case]", "slices.overlaps[whorl/api.Link]"], unfollowed := true, recurses := true, plainKeys := false, apart := false, narrowed := true }
def EnrolTwoUptoSaid : Prop := enrolTwoUptoRow.holds Tryz.pinned (OpenSpec.upto enrolTwoSpec)

/-- 'whorllaw08.EnrolKeeps', WHERE WHAT IT READS IS OF BULK AT MOST 1048576: true; the input reads as it did. -/
def enrolKeepsUptoRow : OpenClaim := { program := "ytnajladibkpeaaagreat", sum := "24d75ba626c718ab2789a711e36420aed0e773a6f69d31b0bc4ca5e625b63494", func := "whorl/whorllaw08.EnrolKeeps", spec := "enrolKeeps", inPlace := ["slices.overlaps[whorl/api.Case]", "slices.overlaps[whorl/api.Link]"], unfollowed := true, recurses := true, plainKeys := false, apart := false, narrowed := true }
def EnrolKeepsUptoSaid : Prop := enrolKeepsUptoRow.holds Tryz.pinned (OpenSpec.upto enrolKeepsSpec)

/-- 'whorllaw08.EnrolOne', WHERE WHAT IT READS IS OF BULK AT MOST 1048576: true; the input reads as it did. -/
def enrolOneUptoRow : OpenClaim := { program := "ytnajladibkpeaaagreat", sum := "24d75ba626c718ab2789a711e36420aed0e773a6f69d31b0bc4ca5e625b63494", func := "whorl/whorllaw08.EnrolOne", spec := "enrolOne", inPlace := ["slices.overlaps[whorl/api.Case]", "slices.overlaps[whorl/api.Link]"], unfollowed := true, recurses := true, plainKeys := false, apart := false, narrowed := true }
def EnrolOneUptoSaid : Prop := enrolOneUptoRow.holds Tryz.pinned (OpenSpec.upto enrolOneSpec)

/-- 'whorllaw08.EnrolLess', WHERE WHAT IT READS IS OF BULK AT MOST 1048576: true; the input reads as it did. -/
def enrolLessUptoRow : OpenClaim := { program := "ytnajladibkpeaaagreat", sum := "24d75ba626c718ab2789a711e36420aed0e773a6f69d31b0bc4ca5e625b63494", func := "whorl/whorllaw08.EnrolLess", spec := "enrolLess", inPlace := ["slices.overlaps[whorl/api.Case]", "slices.overlaps[whorl/api.Link]"], unfollowed := true, recurses := true, plainKeys := false, apart := false, narrowed := true }
def EnrolLessUptoSaid : Prop := enrolLessUptoRow.holds Tryz.pinned (OpenSpec.upto enrolLessSpec)

/-- 'whorllaw08.EnrolOrder', WHERE WHAT IT READS IS OF BULK AT MOST 1048576: true; the input reads as it did. -/
def enrolOrderUptoRow : OpenClaim := { program := "ytnajladibkpeaaagreat", sum := "24d75ba626c718ab2789a711e36420aed0e773a6f69d31b0bc4ca5e625b63494", func := "whorl/whorllaw08.EnrolOrder", spec := "enrolOrder", inPlace := ["slices.overlaps[whorl/api.Case]", "slices.overlaps[whorl/api.Link]"], unfollowed := true, recurses := true, plainKeys := false, apart := false, narrowed := true }
def EnrolOrderUptoSaid : Prop := enrolOrderUptoRow.holds Tryz.pinned (OpenSpec.upto enrolOrderSpec)

/-- 'whorllaw08.EnrolExamples', WHERE WHAT IT READS IS OF BULK AT MOST 1048576: true; the input reads as it did. -/
def enrolExamplesUptoRow : OpenClaim := { program := "ytnajladibkpeaaagreat", sum := "24d75ba626c718ab2789a711e36420aed0e773a6f69d31b0bc4ca5e625b63494", func := "whorl/whorllaw08.EnrolExamples", spec := "enrolExamples", inPlace := ["slices.overlaps[whorl/api.Case]", "slices.overlaps[whorl/api.Link]"], unfollowed := true, recurses := true, plainKeys := false, apart := false, narrowed := true }
def EnrolExamplesUptoSaid : Prop := enrolExamplesUptoRow.holds Tryz.pinned (OpenSpec.upto enrolExamplesSpec)

end Rows
end Go.Proofs.YtnajladibkpeaaaGreat
