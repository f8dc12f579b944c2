/-
  No cell of these rows narrows 'for every input' (looked for: loops, veiled, ifaces, maps, wideKeys, modest, calm, conditions, laid).
  DERIVED. THE GIVEN ROWS OF THIS SEAT. 12 by the template 'for every input the law returns true; each argument reads behind the call as it read before'; 0 by the template 'total and deterministic' (their statements: YtjdnkcddfbifeaaGreatTotals.lean).
  GIVEN WITH THE SEED: the statements are not yours to turn. If you find one false, say at which input.
  Laid BY PROGRAM, IN A SANDBOX (cutbox-rows.mjs): the forced cells as the released guide's own fill.sh prints them over the translation 665b0de91502f4d3… (all of the seat's roots in one cut). By AI agents, Wed Nov 11 2026. No macro, syntax, notation, axiom, sorry.
-/
import Derived.Test.YtjdnkcddfbifeaaGreatChecked
import GoSem.Claim
import GoSem.ClaimJoined
import GoSem.ClaimMapViews
import Derived.JoinedTies
import Derived.KernelRfl
namespace Go.Proofs.YtjdnkcddfbifeaaGreat
/- THE CELL 'sum', in the pinned program and in every row, IS THE sha256 OF THE DUMP (.gsa) THAT YtjdnkcddfbifeaaGreatProg.lean LOADS. Nothing in Lean hashes anything: it is a label: what it is worth is what the hold of that sum in a sandbox is worth. -/
noncomputable def Tryz.pinned : Pinned := { name := "ytjdnkcddfbifeaagreat", sum := "665b0de91502f4d396c0ef7e912dd89695c6c216bd98777b1353276046506232", checked := Tryz.checked }
namespace Rows
def none {H : Type} : Left H := { results := [], args := [] }

/-- 'laws.FnExactEdgeReason': WHATEVER THE INPUT: true; the input reads as it did. -/
def fnExactEdgeReasonSpec : ChangeSpec := { name := "fnExactEdgeReason", fn := fun _ => fun
  | [d1, d2] => { results := [.lit (.bool true)], args := [d1, d2] }
  | _ => none }
def fnExactEdgeReasonRow : OpenClaim := { program := "ytjdnkcddfbifeaagreat", sum := "665b0de91502f4d396c0ef7e912dd89695c6c216bd98777b1353276046506232", func := "loop.example/g01009/laws.FnExactEdgeReason", spec := "fnExactEdgeReason", inPlace := ["math/bits.Add64", "math/bits.Sub64"], apart := false }
def FnExactEdgeReasonSaid : Prop := fnExactEdgeReasonRow.holds Tryz.pinned (OpenSpec.ofChange fnExactEdgeReasonSpec)

/-- ITS FALSE NEIGHBOUR: 'it returns false'. Refute it at one input. -/
def fnExactEdgeReasonWrong : ChangeSpec := { name := "fnExactEdgeReason", fn := fun _ => fun
  | [d1, d2] => { results := [.lit (.bool false)], args := [d1, d2] }
  | _ => none }
def FnExactEdgeReasonWrongFalsely : Prop := fnExactEdgeReasonRow.holds Tryz.pinned (OpenSpec.ofChange fnExactEdgeReasonWrong)

/-- 'laws.FnExactFirstFailure': WHATEVER THE INPUT: true; the input reads as it did. -/
def fnExactFirstFailureSpec : ChangeSpec := { name := "fnExactFirstFailure", fn := fun _ => fun
  | [d1, d2, d3] => { results := [.lit (.bool true)], args := [d1, d2, d3] }
  | _ => none }
def fnExactFirstFailureRow : OpenClaim := { program := "ytjdnkcddfbifeaagreat", sum := "665b0de91502f4d396c0ef7e912dd89695c6c216bd98777b1353276046506232", func := "loop.example/g01009/laws.FnExactFirstFailure", spec := "fnExactFirstFailure", inPlace := ["math/bits.Add64", "math/bits.Sub64"], unfollowed := true, recurses := true, apart := false }
def FnExactFirstFailureSaid : Prop := fnExactFirstFailureRow.holds Tryz.pinned (OpenSpec.ofChange fnExactFirstFailureSpec)

/-- ITS FALSE NEIGHBOUR: 'it returns false'. Refute it at one input. -/
def fnExactFirstFailureWrong : ChangeSpec := { name := "fnExactFirstFailure", fn := fun _ => fun
  | [d1, d2, d3] => { results := [.lit (.bool false)], args := [d1, d2, d3] }
  | _ => none }
def FnExactFirstFailureWrongFalsely : Prop := fnExactFirstFailureRow.holds Tryz.pinned (OpenSpec.ofChange fnExactFirstFailureWrong)

/-- 'laws.FnExactCellLabel': WHATEVER THE INPUT: true; the input reads as it did. -/
def fnExactCellLabelSpec : ChangeSpec := { name := "fnExactCellLabel", fn := fun _ => fun
  | [d1, d2, d3, d4] => { results := [.lit (.bool true)], args := [d1, d2, d3, d4] }
  | _ => none }
def fnExactCellLabelRow : OpenClaim := { program := "ytjdnkcddfbifeaagreat", sum := "665b0de91502f4d396c0ef7e912dd89695c6c216bd98777b1353276046506232", func := "loop.example/g01009/laws.FnExactCellLabel", spec := "fnExactCellLabel", inPlace := ["math/bits.Add64", "math/bits.Sub64"], apart := false }
def FnExactCellLabelSaid : Prop := fnExactCellLabelRow.holds Tryz.pinned (OpenSpec.ofChange fnExactCellLabelSpec)

/-- ITS FALSE NEIGHBOUR: 'it returns false'. Refute it at one input. -/
def fnExactCellLabelWrong : ChangeSpec := { name := "fnExactCellLabel", fn := fun _ => fun
  | [d1, d2, d3, d4] => { results := [.lit (.bool false)], args := [d1, d2, d3, d4] }
  | _ => none }
def FnExactCellLabelWrongFalsely : Prop := fnExactCellLabelRow.holds Tryz.pinned (OpenSpec.ofChange fnExactCellLabelWrong)

/-- 'laws.FnExactCheckLabels': WHATEVER THE INPUT: true; the input reads as it did. -/
def fnExactCheckLabelsSpec : ChangeSpec := { name := "fnExactCheckLabels", fn := fun _ => fun
  | [d1, d2, d3, d4] => { results := [.lit (.bool true)], args := [d1, d2, d3, d4] }
  | _ => none }
def fnExactCheckLabelsRow : OpenClaim := { program := "ytjdnkcddfbifeaagreat", sum := "665b0de91502f4d396c0ef7e912dd89695c6c216bd98777b1353276046506232", func := "loop.example/g01009/laws.FnExactCheckLabels", spec := "fnExactCheckLabels", inPlace := ["math/bits.Add64", "math/bits.Sub64"], apart := false }
def FnExactCheckLabelsSaid : Prop := fnExactCheckLabelsRow.holds Tryz.pinned (OpenSpec.ofChange fnExactCheckLabelsSpec)

/-- ITS FALSE NEIGHBOUR: 'it returns false'. Refute it at one input. -/
def fnExactCheckLabelsWrong : ChangeSpec := { name := "fnExactCheckLabels", fn := fun _ => fun
  | [d1, d2, d3, d4] => { results := [.lit (.bool false)], args := [d1, d2, d3, d4] }
  | _ => none }
def FnExactCheckLabelsWrongFalsely : Prop := fnExactCheckLabelsRow.holds Tryz.pinned (OpenSpec.ofChange fnExactCheckLabelsWrong)

/-- 'laws.FnExactLeastDepth': WHATEVER THE INPUT: true; the input reads as it did. -/
def fnExactLeastDepthSpec : ChangeSpec := { name := "fnExactLeastDepth", fn := fun _ => fun
  | [d1, d2] => { results := [.lit (.bool true)], args := [d1, d2] }
  | _ => none }
def fnExactLeastDepthRow : OpenClaim := { program := "ytjdnkcddfbifeaagreat", sum := "665b0de91502f4d396c0ef7e912dd89695c6c216bd98777b1353276046506232", func := "loop.example/g01009/laws.FnExactLeastDepth", spec := "fnExactLeastDepth", inPlace := ["math/bits.Add64", "math/bits.Sub64"], unfollowed := true, recurses := true, apart := false }
def FnExactLeastDepthSaid : Prop := fnExactLeastDepthRow.holds Tryz.pinned (OpenSpec.ofChange fnExactLeastDepthSpec)

/-- ITS FALSE NEIGHBOUR: 'it returns false'. Refute it at one input. -/
def fnExactLeastDepthWrong : ChangeSpec := { name := "fnExactLeastDepth", fn := fun _ => fun
  | [d1, d2] => { results := [.lit (.bool false)], args := [d1, d2] }
  | _ => none }
def FnExactLeastDepthWrongFalsely : Prop := fnExactLeastDepthRow.holds Tryz.pinned (OpenSpec.ofChange fnExactLeastDepthWrong)

/-- 'laws.FnExactCommonReasons': WHATEVER THE INPUT: true; the input reads as it did. -/
def fnExactCommonReasonsSpec : ChangeSpec := { name := "fnExactCommonReasons", fn := fun _ => fun
  | [d1, d2, d3, d4] => { results := [.lit (.bool true)], args := [d1, d2, d3, d4] }
  | _ => none }
def fnExactCommonReasonsRow : OpenClaim := { program := "ytjdnkcddfbifeaagreat", sum := "665b0de91502f4d396c0ef7e912dd89695c6c216bd98777b1353276046506232", func := "loop.example/g01009/laws.FnExactCommonReasons", spec := "fnExactCommonReasons", inPlace := ["math/bits.Add64", "math/bits.Sub64"], unfollowed := true, recurses := true, apart := false }
def FnExactCommonReasonsSaid : Prop := fnExactCommonReasonsRow.holds Tryz.pinned (OpenSpec.ofChange fnExactCommonReasonsSpec)

/-- ITS FALSE NEIGHBOUR: 'it returns false'. Refute it at one input. -/
def fnExactCommonReasonsWrong : ChangeSpec := { name := "fnExactCommonReasons", fn := fun _ => fun
  | [d1, d2, d3, d4] => { results := [.lit (.bool false)], args := [d1, d2, d3, d4] }
  | _ => none }
def FnExactCommonReasonsWrongFalsely : Prop := fnExactCommonReasonsRow.holds Tryz.pinned (OpenSpec.ofChange fnExactCommonReasonsWrong)

/-- 'laws.FnExactCheckReasons': WHATEVER THE INPUT: true; the input reads as it did. -/
def fnExactCheckReasonsSpec : ChangeSpec := { name := "fnExactCheckReasons", fn := fun _ => fun
  | [d1, d2, d3] => { results := [.lit (.bool true)], args := [d1, d2, d3] }
  | _ => none }
def fnExactCheckReasonsRow : OpenClaim := { program := "ytjdnkcddfbifeaagreat", sum := "665b0de91502f4d396c0ef7e912dd89695c6c216bd98777b1353276046506232", func := "loop.example/g01009/laws.FnExactCheckReasons", spec := "fnExactCheckReasons", inPlace := ["math/bits.Add64", "math/bits.Sub64"], unfollowed := true, recurses := true, apart := false }
def FnExactCheckReasonsSaid : Prop := fnExactCheckReasonsRow.holds Tryz.pinned (OpenSpec.ofChange fnExactCheckReasonsSpec)

/-- ITS FALSE NEIGHBOUR: 'it returns false'. Refute it at one input. -/
def fnExactCheckReasonsWrong : ChangeSpec := { name := "fnExactCheckReasons", fn := fun _ => fun
  | [d1, d2, d3] => { results := [.lit (.bool false)], args := [d1, d2, d3] }
  | _ => none }
def FnExactCheckReasonsWrongFalsely : Prop := fnExactCheckReasonsRow.holds Tryz.pinned (OpenSpec.ofChange fnExactCheckReasonsWrong)

/-- 'laws.FnExactFirstUnlabelled': WHATEVER THE INPUT: true; the input reads as it did. -/
def fnExactFirstUnlabelledSpec : ChangeSpec := { name := "fnExactFirstUnlabelled", fn := fun _ => fun
  | [d1, d2, d3] => { results := [.lit (.bool true)], args := [d1, d2, d3] }
  | _ => none }
def fnExactFirstUnlabelledRow : OpenClaim := { program := "ytjdnkcddfbifeaagreat", sum := "665b0de91502f4d396c0ef7e912dd89695c6c216bd98777b1353276046506232", func := "loop.example/g01009/laws.FnExactFirstUnlabelled", spec := "fnExactFirstUnlabelled", inPlace := ["math/bits.Add64", "math/bits.Sub64"], unfollowed := true, recurses := true, apart := false }
def FnExactFirstUnlabelledSaid : Prop := fnExactFirstUnlabelledRow.holds Tryz.pinned (OpenSpec.ofChange fnExactFirstUnlabelledSpec)

/-- ITS FALSE NEIGHBOUR: 'it returns false'. Refute it at one input. -/
def fnExactFirstUnlabelledWrong : ChangeSpec := { name := "fnExactFirstUnlabelled", fn := fun _ => fun
  | [d1, d2, d3] => { results := [.lit (.bool false)], args := [d1, d2, d3] }
  | _ => none }
def FnExactFirstUnlabelledWrongFalsely : Prop := fnExactFirstUnlabelledRow.holds Tryz.pinned (OpenSpec.ofChange fnExactFirstUnlabelledWrong)

/-- 'laws.FnExactBoundaryReasons': WHATEVER THE INPUT: true; the input reads as it did. -/
def fnExactBoundaryReasonsSpec : ChangeSpec := { name := "fnExactBoundaryReasons", fn := fun _ => fun
  | [d1, d2, d3] => { results := [.lit (.bool true)], args := [d1, d2, d3] }
  | _ => none }
def fnExactBoundaryReasonsRow : OpenClaim := { program := "ytjdnkcddfbifeaagreat", sum := "665b0de91502f4d396c0ef7e912dd89695c6c216bd98777b1353276046506232", func := "loop.example/g01009/laws.FnExactBoundaryReasons", spec := "fnExactBoundaryReasons", inPlace := ["math/bits.Add64", "math/bits.Sub64"], unfollowed := true, recurses := true, apart := false }
def FnExactBoundaryReasonsSaid : Prop := fnExactBoundaryReasonsRow.holds Tryz.pinned (OpenSpec.ofChange fnExactBoundaryReasonsSpec)

/-- ITS FALSE NEIGHBOUR: 'it returns false'. Refute it at one input. -/
def fnExactBoundaryReasonsWrong : ChangeSpec := { name := "fnExactBoundaryReasons", fn := fun _ => fun
  | [d1, d2, d3] => { results := [.lit (.bool false)], args := [d1, d2, d3] }
  | _ => none }
def FnExactBoundaryReasonsWrongFalsely : Prop := fnExactBoundaryReasonsRow.holds Tryz.pinned (OpenSpec.ofChange fnExactBoundaryReasonsWrong)

/-- 'laws.FnExactWindingOf': WHATEVER THE INPUT: true; the input reads as it did. -/
def fnExactWindingOfSpec : ChangeSpec := { name := "fnExactWindingOf", fn := fun _ => fun
  | [d1, d2, d3] => { results := [.lit (.bool true)], args := [d1, d2, d3] }
  | _ => none }
def fnExactWindingOfRow : OpenClaim := { program := "ytjdnkcddfbifeaagreat", sum := "665b0de91502f4d396c0ef7e912dd89695c6c216bd98777b1353276046506232", func := "loop.example/g01009/laws.FnExactWindingOf", spec := "fnExactWindingOf", inPlace := ["math/bits.Add64", "math/bits.Sub64"], unfollowed := true, recurses := true, apart := false }
def FnExactWindingOfSaid : Prop := fnExactWindingOfRow.holds Tryz.pinned (OpenSpec.ofChange fnExactWindingOfSpec)

/-- ITS FALSE NEIGHBOUR: 'it returns false'. Refute it at one input. -/
def fnExactWindingOfWrong : ChangeSpec := { name := "fnExactWindingOf", fn := fun _ => fun
  | [d1, d2, d3] => { results := [.lit (.bool false)], args := [d1, d2, d3] }
  | _ => none }
def FnExactWindingOfWrongFalsely : Prop := fnExactWindingOfRow.holds Tryz.pinned (OpenSpec.ofChange fnExactWindingOfWrong)

/-- 'laws.FnExactSurfaceLabels': WHATEVER THE INPUT: true; the input reads as it did. -/
def fnExactSurfaceLabelsSpec : ChangeSpec := { name := "fnExactSurfaceLabels", fn := fun _ => fun
  | [d1, d2, d3] => { results := [.lit (.bool true)], args := [d1, d2, d3] }
  | _ => none }
def fnExactSurfaceLabelsRow : OpenClaim := { program := "ytjdnkcddfbifeaagreat", sum := "665b0de91502f4d396c0ef7e912dd89695c6c216bd98777b1353276046506232", func := "loop.example/g01009/laws.FnExactSurfaceLabels", spec := "fnExactSurfaceLabels", inPlace := ["math/bits.Add64", "math/bits.Sub64"], apart := false }
def FnExactSurfaceLabelsSaid : Prop := fnExactSurfaceLabelsRow.holds Tryz.pinned (OpenSpec.ofChange fnExactSurfaceLabelsSpec)

/-- ITS FALSE NEIGHBOUR: 'it returns false'. Refute it at one input. -/
def fnExactSurfaceLabelsWrong : ChangeSpec := { name := "fnExactSurfaceLabels", fn := fun _ => fun
  | [d1, d2, d3] => { results := [.lit (.bool false)], args := [d1, d2, d3] }
  | _ => none }
def FnExactSurfaceLabelsWrongFalsely : Prop := fnExactSurfaceLabelsRow.holds Tryz.pinned (OpenSpec.ofChange fnExactSurfaceLabelsWrong)

/-- 'laws.FnExactDividedReasons': WHATEVER THE INPUT: true; the input reads as it did. -/
def fnExactDividedReasonsSpec : ChangeSpec := { name := "fnExactDividedReasons", fn := fun _ => fun
  | [d1, d2] => { results := [.lit (.bool true)], args := [d1, d2] }
  | _ => none }
def fnExactDividedReasonsRow : OpenClaim := { program := "ytjdnkcddfbifeaagreat", sum := "665b0de91502f4d396c0ef7e912dd89695c6c216bd98777b1353276046506232", func := "loop.example/g01009/laws.FnExactDividedReasons", spec := "fnExactDividedReasons", inPlace := ["math/bits.Add64", "math/bits.Sub64"], unfollowed := true, recurses := true, apart := false }
def FnExactDividedReasonsSaid : Prop := fnExactDividedReasonsRow.holds Tryz.pinned (OpenSpec.ofChange fnExactDividedReasonsSpec)

/-- ITS FALSE NEIGHBOUR: 'it returns false'. Refute it at one input. -/
def fnExactDividedReasonsWrong : ChangeSpec := { name := "fnExactDividedReasons", fn := fun _ => fun
  | [d1, d2] => { results := [.lit (.bool false)], args := [d1, d2] }
  | _ => none }
def FnExactDividedReasonsWrongFalsely : Prop := fnExactDividedReasonsRow.holds Tryz.pinned (OpenSpec.ofChange fnExactDividedReasonsWrong)

/- THE SECOND FORM. 'bulk': how many values and letters a reading holds, each counted each time it is reached (what is shared counts as often as it is met; a slice's spare places count too). A statement '..UptoSaid' is the law's where the arguments, and the package variables that the reading takes, are together of bulk at most 1048576: NARROWER than '..Said'. Prove '..Said' where nothing that the law and all that it calls make is longer than what came in: it says more and counts as full. Else prove '..UptoSaid'. A law counts once. -/
mutual
def uptoBulk {H : Type} : DataW H → Nat
  | .lit (.string bytes) => bytes.length + 1
  | .lit _ => 1
  | .nil => 1
  | .ptr d => uptoBulk d + 1
  | .slice elems spare => uptoBulkAll elems + uptoBulkAll spare + 1
  | .agg parts => uptoBulkAll parts + 1
  | .iface _ d => uptoBulk d + 1
  | .map entries => uptoBulkEntries entries + 1
  | .held _ => 1
def uptoBulkAll {H : Type} : List (DataW H) → Nat
  | [] => 0
  | d :: r => uptoBulk d + uptoBulkAll r
def uptoBulkEntries {H : Type} : List (Lit × DataW H) → Nat
  | [] => 0
  | x :: r => uptoBulkEntry x + uptoBulkEntries r
def uptoBulkEntry {H : Type} : Lit × DataW H → Nat
  | (.string bytes, d) => bytes.length + uptoBulk d + 1
  | (_, d) => uptoBulk d + 1
 end
def uptoSmall : (H : Type) → List (DataW H) → Bool := fun _ ds => decide (uptoBulkAll ds ≤ 1048576)
def OpenSpec.upto (s : _root_.Go.ChangeSpec) : _root_.Go.OpenSpec := { _root_.Go.OpenSpec.ofChange s with cond := some uptoSmall }

/-- 'laws.FnExactEdgeReason', WHERE WHAT IT READS IS OF BULK AT MOST 1048576: true; the input reads as it did. -/
def fnExactEdgeReasonUptoRow : OpenClaim := { program := "ytjdnkcddfbifeaagreat", sum := "665b0de91502f4d396c0ef7e912dd89695c6c216bd98777b1353276046506232", func := "loop.example/g01009/laws.FnExactEdgeReason", spec := "fnExactEdgeReason", inPlace := ["math/bits.Add64", "math/bits.Sub64"], apart := false, narrowed := true }
def FnExactEdgeReasonUptoSaid : Prop := fnExactEdgeReasonUptoRow.holds Tryz.pinned (OpenSpec.upto fnExactEdgeReasonSpec)

/-- 'laws.FnExactFirstFailure', WHERE WHAT IT READS IS OF BULK AT MOST 1048576: true; the input reads as it did. -/
def fnExactFirstFailureUptoRow : OpenClaim := { program := "ytjdnkcddfbifeaagreat", sum := "665b0de91502f4d396c0ef7e912dd89695c6c216bd98777b1353276046506232", func := "loop.example/g01009/laws.FnExactFirstFailure", spec := "fnExactFirstFailure", inPlace := ["math/bits.Add64", "math/bits.Sub64"], unfollowed := true, recurses := true, apart := false, narrowed := true }
def FnExactFirstFailureUptoSaid : Prop := fnExactFirstFailureUptoRow.holds Tryz.pinned (OpenSpec.upto fnExactFirstFailureSpec)

/-- 'laws.FnExactCellLabel', WHERE WHAT IT READS IS OF BULK AT MOST 1048576: true; the input reads as it did. -/
def fnExactCellLabelUptoRow : OpenClaim := { program := "ytjdnkcddfbifeaagreat", sum := "665b0de91502f4d396c0ef7e912dd89695c6c216bd98777b1353276046506232", func := "loop.example/g01009/laws.FnExactCellLabel", spec := "fnExactCellLabel", inPlace := ["math/bits.Add64", "math/bits.Sub64"], apart := false, narrowed := true }
def FnExactCellLabelUptoSaid : Prop := fnExactCellLabelUptoRow.holds Tryz.pinned (OpenSpec.upto fnExactCellLabelSpec)

/-- 'laws.FnExactCheckLabels', WHERE WHAT IT READS IS OF BULK AT MOST 1048576: true; the input reads as it did. -/
def fnExactCheckLabelsUptoRow : OpenClaim := { program := "ytjdnkcddfbifeaagreat", sum := "665b0de91502f4d396c0ef7e912dd89695c6c216bd98777b1353276046506232", func := "loop.example/g01009/laws.FnExactCheckLabels", spec := "fnExactCheckLabels", inPlace := ["math/bits.Add64", "math/bits.Sub64"], apart := false, narrowed := true }
def FnExactCheckLabelsUptoSaid : Prop := fnExactCheckLabelsUptoRow.holds Tryz.pinned (OpenSpec.upto fnExactCheckLabelsSpec)

/-- 'laws.FnExactLeastDepth', WHERE WHAT IT READS IS OF BULK AT MOST 1048576: true; the input reads as it did. -/
def fnExactLeastDepthUptoRow : OpenClaim := { program := "ytjdnkcddfbifeaagreat", sum := "665b0de91502f4d396c0ef7e912dd89695c6c216bd98777b1353276046506232", func := "loop.example/g01009/laws.FnExactLeastDepth", spec := "fnExactLeastDepth", inPlace := ["math/bits.Add64", "math/bits.Sub64"], unfollowed := true, recurses := true, apart := false, narrowed := true }
def FnExactLeastDepthUptoSaid : Prop := fnExactLeastDepthUptoRow.holds Tryz.pinned (OpenSpec.upto fnExactLeastDepthSpec)

/-- 'laws.FnExactCommonReasons', WHERE WHAT IT READS IS OF BULK AT MOST 1048576: true; the input reads as it did. -/
def fnExactCommonReasonsUptoRow : OpenClaim := { program := "ytjdnkcddfbifeaagreat", sum := "665b0de91502f4d396c0ef7e912dd89695c6c216bd98777b1353276046506232", func := "loop.example/g01009/laws.FnExactCommonReasons", spec := "fnExactCommonReasons", inPlace := ["math/bits.Add64", "math/bits.Sub64"], unfollowed := true, recurses := true, apart := false, narrowed := true }
def FnExactCommonReasonsUptoSaid : Prop := fnExactCommonReasonsUptoRow.holds Tryz.pinned (OpenSpec.upto fnExactCommonReasonsSpec)

/-- 'laws.FnExactCheckReasons', WHERE WHAT IT READS IS OF BULK AT MOST 1048576: true; the input reads as it did. -/
def fnExactCheckReasonsUptoRow : OpenClaim := { program := "ytjdnkcddfbifeaagreat", sum := "665b0de91502f4d396c0ef7e912dd89695c6c216bd98777b1353276046506232", func := "loop.example/g01009/laws.FnExactCheckReasons", spec := "fnExactCheckReasons", inPlace := ["math/bits.Add64", "math/bits.Sub64"], unfollowed := true, recurses := true, apart := false, narrowed := true }
def FnExactCheckReasonsUptoSaid : Prop := fnExactCheckReasonsUptoRow.holds Tryz.pinned (OpenSpec.upto fnExactCheckReasonsSpec)

/-- 'laws.FnExactFirstUnlabelled', WHERE WHAT IT READS IS OF BULK AT MOST 1048576: true; the input reads as it did. -/
def fnExactFirstUnlabelledUptoRow : OpenClaim := { program := "ytjdnkcddfbifeaagreat", sum := "665b0de91502f4d396c0ef7e912dd89695c6c216bd98777b1353276046506232", func := "loop.example/g01009/laws.FnExactFirstUnlabelled", spec := "fnExactFirstUnlabelled", inPlace := ["math/bits.Add64", "math/bits.Sub64"], unfollowed := true, recurses := true, apart := false, narrowed := true }
def FnExactFirstUnlabelledUptoSaid : Prop := fnExactFirstUnlabelledUptoRow.holds Tryz.pinned (OpenSpec.upto fnExactFirstUnlabelledSpec)

/-- 'laws.FnExactBoundaryReasons', WHERE WHAT IT READS IS OF BULK AT MOST 1048576: true; the input reads as it did. -/
def fnExactBoundaryReasonsUptoRow : OpenClaim := { program := "ytjdnkcddfbifeaagreat", sum := "665b0de91502f4d396c0ef7e912dd89695c6c216bd98777b1353276046506232", func := "loop.example/g01009/laws.FnExactBoundaryReasons", spec := "fnExactBoundaryReasons", inPlace := ["math/bits.Add64", "math/bits.Sub64"], unfollowed := true, recurses := true, apart := false, narrowed := true }
def FnExactBoundaryReasonsUptoSaid : Prop := fnExactBoundaryReasonsUptoRow.holds Tryz.pinned (OpenSpec.upto fnExactBoundaryReasonsSpec)

/-- 'laws.FnExactWindingOf', WHERE WHAT IT READS IS OF BULK AT MOST 1048576: true; the input reads as it did. -/
def fnExactWindingOfUptoRow : OpenClaim := { program := "ytjdnkcddfbifeaagreat", sum := "665b0de91502f4d396c0ef7e912dd89695c6c216bd98777b1353276046506232", func := "loop.example/g01009/laws.FnExactWindingOf", spec := "fnExactWindingOf", inPlace := ["math/bits.Add64", "math/bits.Sub64"], unfollowed := true, recurses := true, apart := false, narrowed := true }
def FnExactWindingOfUptoSaid : Prop := fnExactWindingOfUptoRow.holds Tryz.pinned (OpenSpec.upto fnExactWindingOfSpec)

/-- 'laws.FnExactSurfaceLabels', WHERE WHAT IT READS IS OF BULK AT MOST 1048576: true; the input reads as it did. -/
def fnExactSurfaceLabelsUptoRow : OpenClaim := { program := "ytjdnkcddfbifeaagreat", sum := "665b0de91502f4d396c0ef7e912dd89695c6c216bd98777b1353276046506232", func := "loop.example/g01009/laws.FnExactSurfaceLabels", spec := "fnExactSurfaceLabels", inPlace := ["math/bits.Add64", "math/bits.Sub64"], apart := false, narrowed := true }
def FnExactSurfaceLabelsUptoSaid : Prop := fnExactSurfaceLabelsUptoRow.holds Tryz.pinned (OpenSpec.upto fnExactSurfaceLabelsSpec)

/-- 'laws.FnExactDividedReasons', WHERE WHAT IT READS IS OF BULK AT MOST 1048576: true; the input reads as it did. -/
def fnExactDividedReasonsUptoRow : OpenClaim := { program := "ytjdnkcddfbifeaagreat", sum := "665b0de91502f4d396c0ef7e912dd89695c6c216bd98777b1353276046506232", func := "loop.example/g01009/laws.FnExactDividedReasons", spec := "fnExactDividedReasons", inPlace := ["math/bits.Add64", "math/bits.Sub64"], unfollowed := true, recurses := true, apart := false, narrowed := true }
def FnExactDividedReasonsUptoSaid : Prop := fnExactDividedReasonsUptoRow.holds Tryz.pinned (OpenSpec.upto fnExactDividedReasonsSpec)

end Rows
end Go.Proofs.YtjdnkcddfbifeaaGreat
