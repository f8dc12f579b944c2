/-
  No cell of these rows narrows 'for every input' (looked for: loops, veiled, ifaces, maps, wideKeys, modest, calm, conditions, laid).
  DERIVED. THE GIVEN ROWS OF THIS SEAT. 10 by the template 'for every input the law returns true; each argument reads behind the call as it read before'; 0 by the template 'total and deterministic' (their statements: YtdlpejdadikggaaTotals.lean).
  GIVEN WITH THE SEED: the statements are not yours to turn. If you find one false, say at which input.
  Laid BY PROGRAM, IN A SANDBOX (cutbox-rows.mjs): the forced cells as the released guide's own fill.sh prints them over the translation 50a041d476308e12… (all of the seat's roots in one cut). By AI agents, Wed Nov 11 2026. No macro, syntax, notation, axiom, sorry.
-/
import Derived.Test.YtdlpejdadikggaaChecked
import GoSem.Claim
import GoSem.ClaimJoined
import GoSem.ClaimMapViews
import Derived.JoinedTies
import Derived.KernelRfl
namespace Go.Proofs.Ytdlpejdadikggaa
/- THE CELL 'sum', in the pinned program and in every row, IS THE sha256 OF THE DUMP (.gsa) THAT YtdlpejdadikggaaProg.lean LOADS. Nothing in Lean hashes anything: it is a label: what it is worth is what the hold of that sum in a sandbox is worth. -/
noncomputable def Try.pinned : Pinned := { name := "ytdlpejdadikggaa", sum := "50a041d476308e12c0412d6539b673d50a65cd14ca4bbfa4e09fd91008cf678c", checked := Try.checked }
namespace Rows
def none {H : Type} : Left H := { results := [], args := [] }

/-- 'laws.FnExactNewtonName': WHATEVER THE INPUT: true; the input reads as it did. -/
def fnExactNewtonNameSpec : ChangeSpec := { name := "fnExactNewtonName", fn := fun _ => fun
  | [d] => { results := [.lit (.bool true)], args := [d] }
  | _ => none }
def fnExactNewtonNameRow : OpenClaim := { program := "ytdlpejdadikggaa", sum := "50a041d476308e12c0412d6539b673d50a65cd14ca4bbfa4e09fd91008cf678c", func := "loop.example/g01009/laws.FnExactNewtonName", spec := "fnExactNewtonName", apart := false }
def FnExactNewtonNameSaid : Prop := fnExactNewtonNameRow.holds Try.pinned (OpenSpec.ofChange fnExactNewtonNameSpec)

/-- ITS FALSE NEIGHBOUR: 'it returns false'. Refute it at one input. -/
def fnExactNewtonNameWrong : ChangeSpec := { name := "fnExactNewtonName", fn := fun _ => fun
  | [d] => { results := [.lit (.bool false)], args := [d] }
  | _ => none }
def FnExactNewtonNameWrongFalsely : Prop := fnExactNewtonNameRow.holds Try.pinned (OpenSpec.ofChange fnExactNewtonNameWrong)

/-- 'laws.FnExactUnitTable': WHATEVER THE INPUT: true; the input reads as it did. -/
def fnExactUnitTableSpec : ChangeSpec := { name := "fnExactUnitTable", fn := fun _ => fun
  | [d] => { results := [.lit (.bool true)], args := [d] }
  | _ => none }
def fnExactUnitTableRow : OpenClaim := { program := "ytdlpejdadikggaa", sum := "50a041d476308e12c0412d6539b673d50a65cd14ca4bbfa4e09fd91008cf678c", func := "loop.example/g01009/laws.FnExactUnitTable", spec := "fnExactUnitTable", apart := false }
def FnExactUnitTableSaid : Prop := fnExactUnitTableRow.holds Try.pinned (OpenSpec.ofChange fnExactUnitTableSpec)

/-- ITS FALSE NEIGHBOUR: 'it returns false'. Refute it at one input. -/
def fnExactUnitTableWrong : ChangeSpec := { name := "fnExactUnitTable", fn := fun _ => fun
  | [d] => { results := [.lit (.bool false)], args := [d] }
  | _ => none }
def FnExactUnitTableWrongFalsely : Prop := fnExactUnitTableRow.holds Try.pinned (OpenSpec.ofChange fnExactUnitTableWrong)

/-- 'laws.FnExactSurfaceCells': WHATEVER THE INPUT: true; the input reads as it did. -/
def fnExactSurfaceCellsSpec : ChangeSpec := { name := "fnExactSurfaceCells", fn := fun _ => fun
  | [d] => { results := [.lit (.bool true)], args := [d] }
  | _ => none }
def fnExactSurfaceCellsRow : OpenClaim := { program := "ytdlpejdadikggaa", sum := "50a041d476308e12c0412d6539b673d50a65cd14ca4bbfa4e09fd91008cf678c", func := "loop.example/g01009/laws.FnExactSurfaceCells", spec := "fnExactSurfaceCells", apart := false }
def FnExactSurfaceCellsSaid : Prop := fnExactSurfaceCellsRow.holds Try.pinned (OpenSpec.ofChange fnExactSurfaceCellsSpec)

/-- ITS FALSE NEIGHBOUR: 'it returns false'. Refute it at one input. -/
def fnExactSurfaceCellsWrong : ChangeSpec := { name := "fnExactSurfaceCells", fn := fun _ => fun
  | [d] => { results := [.lit (.bool false)], args := [d] }
  | _ => none }
def FnExactSurfaceCellsWrongFalsely : Prop := fnExactSurfaceCellsRow.holds Try.pinned (OpenSpec.ofChange fnExactSurfaceCellsWrong)

/-- 'laws.FnExactIsTable': WHATEVER THE INPUT: true; the input reads as it did. -/
def fnExactIsTableSpec : ChangeSpec := { name := "fnExactIsTable", fn := fun _ => fun
  | [d] => { results := [.lit (.bool true)], args := [d] }
  | _ => none }
def fnExactIsTableRow : OpenClaim := { program := "ytdlpejdadikggaa", sum := "50a041d476308e12c0412d6539b673d50a65cd14ca4bbfa4e09fd91008cf678c", func := "loop.example/g01009/laws.FnExactIsTable", spec := "fnExactIsTable", unfollowed := true, recurses := true, apart := false }
def FnExactIsTableSaid : Prop := fnExactIsTableRow.holds Try.pinned (OpenSpec.ofChange fnExactIsTableSpec)

/-- ITS FALSE NEIGHBOUR: 'it returns false'. Refute it at one input. -/
def fnExactIsTableWrong : ChangeSpec := { name := "fnExactIsTable", fn := fun _ => fun
  | [d] => { results := [.lit (.bool false)], args := [d] }
  | _ => none }
def FnExactIsTableWrongFalsely : Prop := fnExactIsTableRow.holds Try.pinned (OpenSpec.ofChange fnExactIsTableWrong)

/-- 'laws.FnExactPassesThrough': WHATEVER THE INPUT: true; the input reads as it did. -/
def fnExactPassesThroughSpec : ChangeSpec := { name := "fnExactPassesThrough", fn := fun _ => fun
  | [d1, d2] => { results := [.lit (.bool true)], args := [d1, d2] }
  | _ => none }
def fnExactPassesThroughRow : OpenClaim := { program := "ytdlpejdadikggaa", sum := "50a041d476308e12c0412d6539b673d50a65cd14ca4bbfa4e09fd91008cf678c", func := "loop.example/g01009/laws.FnExactPassesThrough", spec := "fnExactPassesThrough", unfollowed := true, recurses := true, apart := false }
def FnExactPassesThroughSaid : Prop := fnExactPassesThroughRow.holds Try.pinned (OpenSpec.ofChange fnExactPassesThroughSpec)

/-- ITS FALSE NEIGHBOUR: 'it returns false'. Refute it at one input. -/
def fnExactPassesThroughWrong : ChangeSpec := { name := "fnExactPassesThrough", fn := fun _ => fun
  | [d1, d2] => { results := [.lit (.bool false)], args := [d1, d2] }
  | _ => none }
def FnExactPassesThroughWrongFalsely : Prop := fnExactPassesThroughRow.holds Try.pinned (OpenSpec.ofChange fnExactPassesThroughWrong)

/-- 'laws.FnExactDegreeOfLabels': WHATEVER THE INPUT: true; the input reads as it did. -/
def fnExactDegreeOfLabelsSpec : ChangeSpec := { name := "fnExactDegreeOfLabels", fn := fun _ => fun
  | [d1, d2] => { results := [.lit (.bool true)], args := [d1, d2] }
  | _ => none }
def fnExactDegreeOfLabelsRow : OpenClaim := { program := "ytdlpejdadikggaa", sum := "50a041d476308e12c0412d6539b673d50a65cd14ca4bbfa4e09fd91008cf678c", func := "loop.example/g01009/laws.FnExactDegreeOfLabels", spec := "fnExactDegreeOfLabels", unfollowed := true, recurses := true, apart := false }
def FnExactDegreeOfLabelsSaid : Prop := fnExactDegreeOfLabelsRow.holds Try.pinned (OpenSpec.ofChange fnExactDegreeOfLabelsSpec)

/-- ITS FALSE NEIGHBOUR: 'it returns false'. Refute it at one input. -/
def fnExactDegreeOfLabelsWrong : ChangeSpec := { name := "fnExactDegreeOfLabels", fn := fun _ => fun
  | [d1, d2] => { results := [.lit (.bool false)], args := [d1, d2] }
  | _ => none }
def FnExactDegreeOfLabelsWrongFalsely : Prop := fnExactDegreeOfLabelsRow.holds Try.pinned (OpenSpec.ofChange fnExactDegreeOfLabelsWrong)

/-- 'laws.FnExactCellSides': WHATEVER THE INPUT: true; the input reads as it did. -/
def fnExactCellSidesSpec : ChangeSpec := { name := "fnExactCellSides", fn := fun _ => fun
  | [d1, d2, d3] => { results := [.lit (.bool true)], args := [d1, d2, d3] }
  | _ => none }
def fnExactCellSidesRow : OpenClaim := { program := "ytdlpejdadikggaa", sum := "50a041d476308e12c0412d6539b673d50a65cd14ca4bbfa4e09fd91008cf678c", func := "loop.example/g01009/laws.FnExactCellSides", spec := "fnExactCellSides", apart := false }
def FnExactCellSidesSaid : Prop := fnExactCellSidesRow.holds Try.pinned (OpenSpec.ofChange fnExactCellSidesSpec)

/-- ITS FALSE NEIGHBOUR: 'it returns false'. Refute it at one input. -/
def fnExactCellSidesWrong : ChangeSpec := { name := "fnExactCellSides", fn := fun _ => fun
  | [d1, d2, d3] => { results := [.lit (.bool false)], args := [d1, d2, d3] }
  | _ => none }
def FnExactCellSidesWrongFalsely : Prop := fnExactCellSidesRow.holds Try.pinned (OpenSpec.ofChange fnExactCellSidesWrong)

/-- 'laws.FnExactIsCubeSystem': WHATEVER THE INPUT: true; the input reads as it did. -/
def fnExactIsCubeSystemSpec : ChangeSpec := { name := "fnExactIsCubeSystem", fn := fun _ => fun
  | [d1, d2] => { results := [.lit (.bool true)], args := [d1, d2] }
  | _ => none }
def fnExactIsCubeSystemRow : OpenClaim := { program := "ytdlpejdadikggaa", sum := "50a041d476308e12c0412d6539b673d50a65cd14ca4bbfa4e09fd91008cf678c", func := "loop.example/g01009/laws.FnExactIsCubeSystem", spec := "fnExactIsCubeSystem", apart := false }
def FnExactIsCubeSystemSaid : Prop := fnExactIsCubeSystemRow.holds Try.pinned (OpenSpec.ofChange fnExactIsCubeSystemSpec)

/-- ITS FALSE NEIGHBOUR: 'it returns false'. Refute it at one input. -/
def fnExactIsCubeSystemWrong : ChangeSpec := { name := "fnExactIsCubeSystem", fn := fun _ => fun
  | [d1, d2] => { results := [.lit (.bool false)], args := [d1, d2] }
  | _ => none }
def FnExactIsCubeSystemWrongFalsely : Prop := fnExactIsCubeSystemRow.holds Try.pinned (OpenSpec.ofChange fnExactIsCubeSystemWrong)

/-- 'laws.FnExactRowSums': WHATEVER THE INPUT: true; the input reads as it did. -/
def fnExactRowSumsSpec : ChangeSpec := { name := "fnExactRowSums", fn := fun _ => fun
  | [d] => { results := [.lit (.bool true)], args := [d] }
  | _ => none }
def fnExactRowSumsRow : OpenClaim := { program := "ytdlpejdadikggaa", sum := "50a041d476308e12c0412d6539b673d50a65cd14ca4bbfa4e09fd91008cf678c", func := "loop.example/g01009/laws.FnExactRowSums", spec := "fnExactRowSums", inPlace := ["math/bits.Add64", "math/bits.Sub64"], unfollowed := true, recurses := true, apart := false }
def FnExactRowSumsSaid : Prop := fnExactRowSumsRow.holds Try.pinned (OpenSpec.ofChange fnExactRowSumsSpec)

/-- ITS FALSE NEIGHBOUR: 'it returns false'. Refute it at one input. -/
def fnExactRowSumsWrong : ChangeSpec := { name := "fnExactRowSums", fn := fun _ => fun
  | [d] => { results := [.lit (.bool false)], args := [d] }
  | _ => none }
def FnExactRowSumsWrongFalsely : Prop := fnExactRowSumsRow.holds Try.pinned (OpenSpec.ofChange fnExactRowSumsWrong)

/-- 'laws.FnExactIsShrinking': WHATEVER THE INPUT: true; the input reads as it did. -/
def fnExactIsShrinkingSpec : ChangeSpec := { name := "fnExactIsShrinking", fn := fun _ => fun
  | [d] => { results := [.lit (.bool true)], args := [d] }
  | _ => none }
def fnExactIsShrinkingRow : OpenClaim := { program := "ytdlpejdadikggaa", sum := "50a041d476308e12c0412d6539b673d50a65cd14ca4bbfa4e09fd91008cf678c", func := "loop.example/g01009/laws.FnExactIsShrinking", spec := "fnExactIsShrinking", inPlace := ["math/bits.Add64", "math/bits.Sub64"], unfollowed := true, recurses := true, apart := false }
def FnExactIsShrinkingSaid : Prop := fnExactIsShrinkingRow.holds Try.pinned (OpenSpec.ofChange fnExactIsShrinkingSpec)

/-- ITS FALSE NEIGHBOUR: 'it returns false'. Refute it at one input. -/
def fnExactIsShrinkingWrong : ChangeSpec := { name := "fnExactIsShrinking", fn := fun _ => fun
  | [d] => { results := [.lit (.bool false)], args := [d] }
  | _ => none }
def FnExactIsShrinkingWrongFalsely : Prop := fnExactIsShrinkingRow.holds Try.pinned (OpenSpec.ofChange fnExactIsShrinkingWrong)

/- THE SECOND FORM. 'bulk': how many values and letters a reading holds, each counted each time it is reached (what is shared counts as often as it is met; a slice's spare places count too). A statement '..UptoSaid' is the law's where the arguments, and the package variables that the reading takes, are together of bulk at most 1048576: NARROWER than '..Said'. Prove '..Said' where nothing that the law and all that it calls make is longer than what came in: it says more and counts as full. Else prove '..UptoSaid'. A law counts once. -/
mutual
def uptoBulk {H : Type} : DataW H → Nat
  | .lit (.string bytes) => bytes.length + 1
  | .lit _ => 1
  | .nil => 1
  | .ptr d => uptoBulk d + 1
  | .slice elems spare => uptoBulkAll elems + uptoBulkAll spare + 1
  | .agg parts => uptoBulkAll parts + 1
  | .iface _ d => uptoBulk d + 1
  | .map entries => uptoBulkEntries entries + 1
  | .held _ => 1
def uptoBulkAll {H : Type} : List (DataW H) → Nat
  | [] => 0
  | d :: r => uptoBulk d + uptoBulkAll r
def uptoBulkEntries {H : Type} : List (Lit × DataW H) → Nat
  | [] => 0
  | x :: r => uptoBulkEntry x + uptoBulkEntries r
def uptoBulkEntry {H : Type} : Lit × DataW H → Nat
  | (.string bytes, d) => bytes.length + uptoBulk d + 1
  | (_, d) => uptoBulk d + 1
 end
def uptoSmall : (H : Type) → List (DataW H) → Bool := fun _ ds => decide (uptoBulkAll ds ≤ 1048576)
def OpenSpec.upto (s : _root_.Go.ChangeSpec) : _root_.Go.OpenSpec := { _root_.Go.OpenSpec.ofChange s with cond := some uptoSmall }

/-- 'laws.FnExactNewtonName', WHERE WHAT IT READS IS OF BULK AT MOST 1048576: true; the input reads as it did. -/
def fnExactNewtonNameUptoRow : OpenClaim := { program := "ytdlpejdadikggaa", sum := "50a041d476308e12c0412d6539b673d50a65cd14ca4bbfa4e09fd91008cf678c", func := "loop.example/g01009/laws.FnExactNewtonName", spec := "fnExactNewtonName", apart := false, narrowed := true }
def FnExactNewtonNameUptoSaid : Prop := fnExactNewtonNameUptoRow.holds Try.pinned (OpenSpec.upto fnExactNewtonNameSpec)

/-- 'laws.FnExactUnitTable', WHERE WHAT IT READS IS OF BULK AT MOST 1048576: true; the input reads as it did. -/
def fnExactUnitTableUptoRow : OpenClaim := { program := "ytdlpejdadikggaa", sum := "50a041d476308e12c0412d6539b673d50a65cd14ca4bbfa4e09fd91008cf678c", func := "loop.example/g01009/laws.FnExactUnitTable", spec := "fnExactUnitTable", apart := false, narrowed := true }
def FnExactUnitTableUptoSaid : Prop := fnExactUnitTableUptoRow.holds Try.pinned (OpenSpec.upto fnExactUnitTableSpec)

/-- 'laws.FnExactSurfaceCells', WHERE WHAT IT READS IS OF BULK AT MOST 1048576: true; the input reads as it did. -/
def fnExactSurfaceCellsUptoRow : OpenClaim := { program := "ytdlpejdadikggaa", sum := "50a041d476308e12c0412d6539b673d50a65cd14ca4bbfa4e09fd91008cf678c", func := "loop.example/g01009/laws.FnExactSurfaceCells", spec := "fnExactSurfaceCells", apart := false, narrowed := true }
def FnExactSurfaceCellsUptoSaid : Prop := fnExactSurfaceCellsUptoRow.holds Try.pinned (OpenSpec.upto fnExactSurfaceCellsSpec)

/-- 'laws.FnExactIsTable', WHERE WHAT IT READS IS OF BULK AT MOST 1048576: true; the input reads as it did. -/
def fnExactIsTableUptoRow : OpenClaim := { program := "ytdlpejdadikggaa", sum := "50a041d476308e12c0412d6539b673d50a65cd14ca4bbfa4e09fd91008cf678c", func := "loop.example/g01009/laws.FnExactIsTable", spec := "fnExactIsTable", unfollowed := true, recurses := true, apart := false, narrowed := true }
def FnExactIsTableUptoSaid : Prop := fnExactIsTableUptoRow.holds Try.pinned (OpenSpec.upto fnExactIsTableSpec)

/-- 'laws.FnExactPassesThrough', WHERE WHAT IT READS IS OF BULK AT MOST 1048576: true; the input reads as it did. -/
def fnExactPassesThroughUptoRow : OpenClaim := { program := "ytdlpejdadikggaa", sum := "50a041d476308e12c0412d6539b673d50a65cd14ca4bbfa4e09fd91008cf678c", func := "loop.example/g01009/laws.FnExactPassesThrough", spec := "fnExactPassesThrough", unfollowed := true, recurses := true, apart := false, narrowed := true }
def FnExactPassesThroughUptoSaid : Prop := fnExactPassesThroughUptoRow.holds Try.pinned (OpenSpec.upto fnExactPassesThroughSpec)

/-- 'laws.FnExactDegreeOfLabels', WHERE WHAT IT READS IS OF BULK AT MOST 1048576: true; the input reads as it did. -/
def fnExactDegreeOfLabelsUptoRow : OpenClaim := { program := "ytdlpejdadikggaa", sum := "50a041d476308e12c0412d6539b673d50a65cd14ca4bbfa4e09fd91008cf678c", func := "loop.example/g01009/laws.FnExactDegreeOfLabels", spec := "fnExactDegreeOfLabels", unfollowed := true, recurses := true, apart := false, narrowed := true }
def FnExactDegreeOfLabelsUptoSaid : Prop := fnExactDegreeOfLabelsUptoRow.holds Try.pinned (OpenSpec.upto fnExactDegreeOfLabelsSpec)

/-- 'laws.FnExactCellSides', WHERE WHAT IT READS IS OF BULK AT MOST 1048576: true; the input reads as it did. -/
def fnExactCellSidesUptoRow : OpenClaim := { program := "ytdlpejdadikggaa", sum := "50a041d476308e12c0412d6539b673d50a65cd14ca4bbfa4e09fd91008cf678c", func := "loop.example/g01009/laws.FnExactCellSides", spec := "fnExactCellSides", apart := false, narrowed := true }
def FnExactCellSidesUptoSaid : Prop := fnExactCellSidesUptoRow.holds Try.pinned (OpenSpec.upto fnExactCellSidesSpec)

/-- 'laws.FnExactIsCubeSystem', WHERE WHAT IT READS IS OF BULK AT MOST 1048576: true; the input reads as it did. -/
def fnExactIsCubeSystemUptoRow : OpenClaim := { program := "ytdlpejdadikggaa", sum := "50a041d476308e12c0412d6539b673d50a65cd14ca4bbfa4e09fd91008cf678c", func := "loop.example/g01009/laws.FnExactIsCubeSystem", spec := "fnExactIsCubeSystem", apart := false, narrowed := true }
def FnExactIsCubeSystemUptoSaid : Prop := fnExactIsCubeSystemUptoRow.holds Try.pinned (OpenSpec.upto fnExactIsCubeSystemSpec)

/-- 'laws.FnExactRowSums', WHERE WHAT IT READS IS OF BULK AT MOST 1048576: true; the input reads as it did. -/
def fnExactRowSumsUptoRow : OpenClaim := { program := "ytdlpejdadikggaa", sum := "50a041d476308e12c0412d6539b673d50a65cd14ca4bbfa4e09fd91008cf678c", func := "loop.example/g01009/laws.FnExactRowSums", spec := "fnExactRowSums", inPlace := ["math/bits.Add64", "math/bits.Sub64"], unfollowed := true, recurses := true, apart := false, narrowed := true }
def FnExactRowSumsUptoSaid : Prop := fnExactRowSumsUptoRow.holds Try.pinned (OpenSpec.upto fnExactRowSumsSpec)

/-- 'laws.FnExactIsShrinking', WHERE WHAT IT READS IS OF BULK AT MOST 1048576: true; the input reads as it did. -/
def fnExactIsShrinkingUptoRow : OpenClaim := { program := "ytdlpejdadikggaa", sum := "50a041d476308e12c0412d6539b673d50a65cd14ca4bbfa4e09fd91008cf678c", func := "loop.example/g01009/laws.FnExactIsShrinking", spec := "fnExactIsShrinking", inPlace := ["math/bits.Add64", "math/bits.Sub64"], unfollowed := true, recurses := true, apart := false, narrowed := true }
def FnExactIsShrinkingUptoSaid : Prop := fnExactIsShrinkingUptoRow.holds Try.pinned (OpenSpec.upto fnExactIsShrinkingSpec)

end Rows
end Go.Proofs.Ytdlpejdadikggaa
