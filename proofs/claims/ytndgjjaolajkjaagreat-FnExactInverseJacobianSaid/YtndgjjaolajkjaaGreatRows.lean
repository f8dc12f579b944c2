/-
  No cell of these rows narrows 'for every input' (looked for: loops, veiled, ifaces, maps, wideKeys, modest, calm, conditions, laid).
  DERIVED. THE GIVEN ROWS OF THIS SEAT. 6 by the template 'for every input the law returns true; each argument reads behind the call as it read before'; 0 by the template 'total and deterministic' (their statements: YtndgjjaolajkjaaGreatTotals.lean).
  GIVEN WITH THE SEED: the statements are not yours to turn. If you find one false, say at which input.
  Laid BY PROGRAM, IN A SANDBOX (cutbox-rows.mjs): the forced cells as the released guide's own fill.sh prints them over the translation 22a2881ae0323300… (all of the seat's roots in one cut). By AI agents, Wed Nov 11 2026. No macro, syntax, notation, axiom, sorry.
-/
import Derived.Test.YtndgjjaolajkjaaGreatChecked
import GoSem.Claim
import GoSem.ClaimJoined
import GoSem.ClaimMapViews
import Derived.JoinedTies
import Derived.KernelRfl
namespace Go.Proofs.YtndgjjaolajkjaaGreat
/- THE CELL 'sum', in the pinned program and in every row, IS THE sha256 OF THE DUMP (.gsa) THAT YtndgjjaolajkjaaGreatProg.lean LOADS. Nothing in Lean hashes anything: it is a label: what it is worth is what the hold of that sum in a sandbox is worth. -/
noncomputable def Tryz.pinned : Pinned := { name := "ytndgjjaolajkjaagreat", sum := "22a2881ae0323300bb3ef915693420e1b68bacb4738f28aa3034c7741aadf029", checked := Tryz.checked }
namespace Rows
def none {H : Type} : Left H := { results := [], args := [] }

/-- 'laws.FnExactDegreeOver': WHATEVER THE INPUT: true; the input reads as it did. -/
def fnExactDegreeOverSpec : ChangeSpec := { name := "fnExactDegreeOver", fn := fun _ => fun
  | [d1, d2] => { results := [.lit (.bool true)], args := [d1, d2] }
  | _ => none }
def fnExactDegreeOverRow : OpenClaim := { program := "ytndgjjaolajkjaagreat", sum := "22a2881ae0323300bb3ef915693420e1b68bacb4738f28aa3034c7741aadf029", func := "loop.example/g01009/laws.FnExactDegreeOver", spec := "fnExactDegreeOver", inPlace := ["math/bits.Add64", "math/bits.Sub64"], unfollowed := true, recurses := true, apart := false }
def FnExactDegreeOverSaid : Prop := fnExactDegreeOverRow.holds Tryz.pinned (OpenSpec.ofChange fnExactDegreeOverSpec)

/-- ITS FALSE NEIGHBOUR: 'it returns false'. Refute it at one input. -/
def fnExactDegreeOverWrong : ChangeSpec := { name := "fnExactDegreeOver", fn := fun _ => fun
  | [d1, d2] => { results := [.lit (.bool false)], args := [d1, d2] }
  | _ => none }
def FnExactDegreeOverWrongFalsely : Prop := fnExactDegreeOverRow.holds Tryz.pinned (OpenSpec.ofChange fnExactDegreeOverWrong)

/-- 'laws.FnExactTimesIntervals': WHATEVER THE INPUT: true; the input reads as it did. -/
def fnExactTimesIntervalsSpec : ChangeSpec := { name := "fnExactTimesIntervals", fn := fun _ => fun
  | [d1, d2] => { results := [.lit (.bool true)], args := [d1, d2] }
  | _ => none }
def fnExactTimesIntervalsRow : OpenClaim := { program := "ytndgjjaolajkjaagreat", sum := "22a2881ae0323300bb3ef915693420e1b68bacb4738f28aa3034c7741aadf029", func := "loop.example/g01009/laws.FnExactTimesIntervals", spec := "fnExactTimesIntervals", inPlace := ["math/bits.Add64", "math/bits.Sub64"], unfollowed := true, recurses := true, apart := false }
def FnExactTimesIntervalsSaid : Prop := fnExactTimesIntervalsRow.holds Tryz.pinned (OpenSpec.ofChange fnExactTimesIntervalsSpec)

/-- ITS FALSE NEIGHBOUR: 'it returns false'. Refute it at one input. -/
def fnExactTimesIntervalsWrong : ChangeSpec := { name := "fnExactTimesIntervals", fn := fun _ => fun
  | [d1, d2] => { results := [.lit (.bool false)], args := [d1, d2] }
  | _ => none }
def FnExactTimesIntervalsWrongFalsely : Prop := fnExactTimesIntervalsRow.holds Tryz.pinned (OpenSpec.ofChange fnExactTimesIntervalsWrong)

/-- 'laws.FnExactMiddleJacobian': WHATEVER THE INPUT: true; the input reads as it did. -/
def fnExactMiddleJacobianSpec : ChangeSpec := { name := "fnExactMiddleJacobian", fn := fun _ => fun
  | [d1, d2] => { results := [.lit (.bool true)], args := [d1, d2] }
  | _ => none }
def fnExactMiddleJacobianRow : OpenClaim := { program := "ytndgjjaolajkjaagreat", sum := "22a2881ae0323300bb3ef915693420e1b68bacb4738f28aa3034c7741aadf029", func := "loop.example/g01009/laws.FnExactMiddleJacobian", spec := "fnExactMiddleJacobian", inPlace := ["math/bits.Add64", "math/bits.Sub64"], unfollowed := true, recurses := true, apart := false }
def FnExactMiddleJacobianSaid : Prop := fnExactMiddleJacobianRow.holds Tryz.pinned (OpenSpec.ofChange fnExactMiddleJacobianSpec)

/-- ITS FALSE NEIGHBOUR: 'it returns false'. Refute it at one input. -/
def fnExactMiddleJacobianWrong : ChangeSpec := { name := "fnExactMiddleJacobian", fn := fun _ => fun
  | [d1, d2] => { results := [.lit (.bool false)], args := [d1, d2] }
  | _ => none }
def FnExactMiddleJacobianWrongFalsely : Prop := fnExactMiddleJacobianRow.holds Tryz.pinned (OpenSpec.ofChange fnExactMiddleJacobianWrong)

/-- 'laws.FnExactInverseJacobian': WHATEVER THE INPUT: true; the input reads as it did. -/
def fnExactInverseJacobianSpec : ChangeSpec := { name := "fnExactInverseJacobian", fn := fun _ => fun
  | [d1, d2] => { results := [.lit (.bool true)], args := [d1, d2] }
  | _ => none }
def fnExactInverseJacobianRow : OpenClaim := { program := "ytndgjjaolajkjaagreat", sum := "22a2881ae0323300bb3ef915693420e1b68bacb4738f28aa3034c7741aadf029", func := "loop.example/g01009/laws.FnExactInverseJacobian", spec := "fnExactInverseJacobian", inPlace := ["math/bits.Add64", "math/bits.Sub64"], unfollowed := true, recurses := true, named := ["math/bits.divideError", "math/bits.overflowError"], apart := false }
def FnExactInverseJacobianSaid : Prop := fnExactInverseJacobianRow.holds Tryz.pinned (OpenSpec.ofChange fnExactInverseJacobianSpec)

/-- ITS FALSE NEIGHBOUR: 'it returns false'. Refute it at one input. -/
def fnExactInverseJacobianWrong : ChangeSpec := { name := "fnExactInverseJacobian", fn := fun _ => fun
  | [d1, d2] => { results := [.lit (.bool false)], args := [d1, d2] }
  | _ => none }
def FnExactInverseJacobianWrongFalsely : Prop := fnExactInverseJacobianRow.holds Tryz.pinned (OpenSpec.ofChange fnExactInverseJacobianWrong)

/-- 'laws.FnExactDegreesOfParts': WHATEVER THE INPUT: true; the input reads as it did. -/
def fnExactDegreesOfPartsSpec : ChangeSpec := { name := "fnExactDegreesOfParts", fn := fun _ => fun
  | [d1, d2, d3] => { results := [.lit (.bool true)], args := [d1, d2, d3] }
  | _ => none }
def fnExactDegreesOfPartsRow : OpenClaim := { program := "ytndgjjaolajkjaagreat", sum := "22a2881ae0323300bb3ef915693420e1b68bacb4738f28aa3034c7741aadf029", func := "loop.example/g01009/laws.FnExactDegreesOfParts", spec := "fnExactDegreesOfParts", inPlace := ["math/bits.Add64", "math/bits.Sub64"], unfollowed := true, recurses := true, apart := false }
def FnExactDegreesOfPartsSaid : Prop := fnExactDegreesOfPartsRow.holds Tryz.pinned (OpenSpec.ofChange fnExactDegreesOfPartsSpec)

/-- ITS FALSE NEIGHBOUR: 'it returns false'. Refute it at one input. -/
def fnExactDegreesOfPartsWrong : ChangeSpec := { name := "fnExactDegreesOfParts", fn := fun _ => fun
  | [d1, d2, d3] => { results := [.lit (.bool false)], args := [d1, d2, d3] }
  | _ => none }
def FnExactDegreesOfPartsWrongFalsely : Prop := fnExactDegreesOfPartsRow.holds Tryz.pinned (OpenSpec.ofChange fnExactDegreesOfPartsWrong)

/-- 'laws.FnExactCubeDegree': WHATEVER THE INPUT: true; the input reads as it did. -/
def fnExactCubeDegreeSpec : ChangeSpec := { name := "fnExactCubeDegree", fn := fun _ => fun
  | [d1, d2, d3] => { results := [.lit (.bool true)], args := [d1, d2, d3] }
  | _ => none }
def fnExactCubeDegreeRow : OpenClaim := { program := "ytndgjjaolajkjaagreat", sum := "22a2881ae0323300bb3ef915693420e1b68bacb4738f28aa3034c7741aadf029", func := "loop.example/g01009/laws.FnExactCubeDegree", spec := "fnExactCubeDegree", inPlace := ["math/bits.Add64", "math/bits.Sub64"], unfollowed := true, recurses := true, apart := false }
def FnExactCubeDegreeSaid : Prop := fnExactCubeDegreeRow.holds Tryz.pinned (OpenSpec.ofChange fnExactCubeDegreeSpec)

/-- ITS FALSE NEIGHBOUR: 'it returns false'. Refute it at one input. -/
def fnExactCubeDegreeWrong : ChangeSpec := { name := "fnExactCubeDegree", fn := fun _ => fun
  | [d1, d2, d3] => { results := [.lit (.bool false)], args := [d1, d2, d3] }
  | _ => none }
def FnExactCubeDegreeWrongFalsely : Prop := fnExactCubeDegreeRow.holds Tryz.pinned (OpenSpec.ofChange fnExactCubeDegreeWrong)

/- THE SECOND FORM. 'bulk': how many values and letters a reading holds, each counted each time it is reached (what is shared counts as often as it is met; a slice's spare places count too). A statement '..UptoSaid' is the law's where the arguments, and the package variables that the reading takes, are together of bulk at most 1048576: NARROWER than '..Said'. Prove '..Said' where nothing that the law and all that it calls make is longer than what came in: it says more and counts as full. Else prove '..UptoSaid'. A law counts once. -/
mutual
def uptoBulk {H : Type} : DataW H → Nat
  | .lit (.string bytes) => bytes.length + 1
  | .lit _ => 1
  | .nil => 1
  | .ptr d => uptoBulk d + 1
  | .slice elems spare => uptoBulkAll elems + uptoBulkAll spare + 1
  | .agg parts => uptoBulkAll parts + 1
  | .iface _ d => uptoBulk d + 1
  | .map entries => uptoBulkEntries entries + 1
  | .held _ => 1
def uptoBulkAll {H : Type} : List (DataW H) → Nat
  | [] => 0
  | d :: r => uptoBulk d + uptoBulkAll r
def uptoBulkEntries {H : Type} : List (Lit × DataW H) → Nat
  | [] => 0
  | x :: r => uptoBulkEntry x + uptoBulkEntries r
def uptoBulkEntry {H : Type} : Lit × DataW H → Nat
  | (.string bytes, d) => bytes.length + uptoBulk d + 1
  | (_, d) => uptoBulk d + 1
 end
def uptoSmall : (H : Type) → List (DataW H) → Bool := fun _ ds => decide (uptoBulkAll ds ≤ 1048576)
def OpenSpec.upto (s : _root_.Go.ChangeSpec) : _root_.Go.OpenSpec := { _root_.Go.OpenSpec.ofChange s with cond := some uptoSmall }

/-- 'laws.FnExactDegreeOver', WHERE WHAT IT READS IS OF BULK AT MOST 1048576: true; the input reads as it did. -/
def fnExactDegreeOverUptoRow : OpenClaim := { program := "ytndgjjaolajkjaagreat", sum := "22a2881ae0323300bb3ef915693420e1b68bacb4738f28aa3034c7741aadf029", func := "loop.example/g01009/laws.FnExactDegreeOver", spec := "fnExactDegreeOver", inPlace := ["math/bits.Add64", "math/bits.Sub64"], unfollowed := true, recurses := true, apart := false, narrowed := true }
def FnExactDegreeOverUptoSaid : Prop := fnExactDegreeOverUptoRow.holds Tryz.pinned (OpenSpec.upto fnExactDegreeOverSpec)

/-- 'laws.FnExactTimesIntervals', WHERE WHAT IT READS IS OF BULK AT MOST 1048576: true; the input reads as it did. -/
def fnExactTimesIntervalsUptoRow : OpenClaim := { program := "ytndgjjaolajkjaagreat", sum := "22a2881ae0323300bb3ef915693420e1b68bacb4738f28aa3034c7741aadf029", func := "loop.example/g01009/laws.FnExactTimesIntervals", spec := "fnExactTimesIntervals", inPlace := ["math/bits.Add64", "math/bits.Sub64"], unfollowed := true, recurses := true, apart := false, narrowed := true }
def FnExactTimesIntervalsUptoSaid : Prop := fnExactTimesIntervalsUptoRow.holds Tryz.pinned (OpenSpec.upto fnExactTimesIntervalsSpec)

/-- 'laws.FnExactMiddleJacobian', WHERE WHAT IT READS IS OF BULK AT MOST 1048576: true; the input reads as it did. -/
def fnExactMiddleJacobianUptoRow : OpenClaim := { program := "ytndgjjaolajkjaagreat", sum := "22a2881ae0323300bb3ef915693420e1b68bacb4738f28aa3034c7741aadf029", func := "loop.example/g01009/laws.FnExactMiddleJacobian", spec := "fnExactMiddleJacobian", inPlace := ["math/bits.Add64", "math/bits.Sub64"], unfollowed := true, recurses := true, apart := false, narrowed := true }
def FnExactMiddleJacobianUptoSaid : Prop := fnExactMiddleJacobianUptoRow.holds Tryz.pinned (OpenSpec.upto fnExactMiddleJacobianSpec)

/-- 'laws.FnExactInverseJacobian', WHERE WHAT IT READS IS OF BULK AT MOST 1048576: true; the input reads as it did. -/
def fnExactInverseJacobianUptoRow : OpenClaim := { program := "ytndgjjaolajkjaagreat", sum := "22a2881ae0323300bb3ef915693420e1b68bacb4738f28aa3034c7741aadf029", func := "loop.example/g01009/laws.FnExactInverseJacobian", spec := "fnExactInverseJacobian", inPlace := ["math/bits.Add64", "math/bits.Sub64"], unfollowed := true, recurses := true, named := ["math/bits.divideError", "math/bits.overflowError"], apart := false, narrowed := true }
def FnExactInverseJacobianUptoSaid : Prop := fnExactInverseJacobianUptoRow.holds Tryz.pinned (OpenSpec.upto fnExactInverseJacobianSpec)

/-- 'laws.FnExactDegreesOfParts', WHERE WHAT IT READS IS OF BULK AT MOST 1048576: true; the input reads as it did. -/
def fnExactDegreesOfPartsUptoRow : OpenClaim := { program := "ytndgjjaolajkjaagreat", sum := "22a2881ae0323300bb3ef915693420e1b68bacb4738f28aa3034c7741aadf029", func := "loop.example/g01009/laws.FnExactDegreesOfParts", spec := "fnExactDegreesOfParts", inPlace := ["math/bits.Add64", "math/bits.Sub64"], unfollowed := true, recurses := true, apart := false, narrowed := true }
def FnExactDegreesOfPartsUptoSaid : Prop := fnExactDegreesOfPartsUptoRow.holds Tryz.pinned (OpenSpec.upto fnExactDegreesOfPartsSpec)

/-- 'laws.FnExactCubeDegree', WHERE WHAT IT READS IS OF BULK AT MOST 1048576: true; the input reads as it did. -/
def fnExactCubeDegreeUptoRow : OpenClaim := { program := "ytndgjjaolajkjaagreat", sum := "22a2881ae0323300bb3ef915693420e1b68bacb4738f28aa3034c7741aadf029", func := "loop.example/g01009/laws.FnExactCubeDegree", spec := "fnExactCubeDegree", inPlace := ["math/bits.Add64", "math/bits.Sub64"], unfollowed := true, recurses := true, apart := false, narrowed := true }
def FnExactCubeDegreeUptoSaid : Prop := fnExactCubeDegreeUptoRow.holds Tryz.pinned (OpenSpec.upto fnExactCubeDegreeSpec)

end Rows
end Go.Proofs.YtndgjjaolajkjaaGreat
