/-
  No cell of these rows narrows 'for every input' (looked for: loops, veiled, ifaces, maps, wideKeys, modest, calm, conditions, laid).
  DERIVED. THE GIVEN ROWS OF THIS SEAT. 10 by the template 'for every input the law returns true; each argument reads behind the call as it read before'; 0 by the template 'total and deterministic' (their statements: YtijllgpgnmdfdaaTotals.lean).
  GIVEN WITH THE SEED: the statements are not yours to turn. If you find one false, say at which input.
  Laid BY PROGRAM, IN A SANDBOX (cutbox-rows.mjs): the forced cells as the released guide's own fill.sh prints them over the translation 00e6ee830e35d5fa… (all of the seat's roots in one cut). By AI agents, Wed Nov 11 2026. No macro, syntax, notation, axiom, sorry.
-/
import Derived.Test.YtijllgpgnmdfdaaChecked
import GoSem.Claim
import GoSem.ClaimJoined
import GoSem.ClaimMapViews
import Derived.JoinedTies
import Derived.KernelRfl
namespace Go.Proofs.Ytijllgpgnmdfdaa
/- THE CELL 'sum', in the pinned program and in every row, IS THE sha256 OF THE DUMP (.gsa) THAT YtijllgpgnmdfdaaProg.lean LOADS. Nothing in Lean hashes anything: it is a label: what it is worth is what the hold of that sum in a sandbox is worth. -/
noncomputable def Try.pinned : Pinned := { name := "ytijllgpgnmdfdaa", sum := "00e6ee830e35d5fa66055036aa53bad1c2f43beec968c9dc2bd03d4cb9a6b540", checked := Try.checked }
namespace Rows
def none {H : Type} : Left H := { results := [], args := [] }

/-- 'laws.FnExactTimesPoint': WHATEVER THE INPUT: true; the input reads as it did. -/
def fnExactTimesPointSpec : ChangeSpec := { name := "fnExactTimesPoint", fn := fun _ => fun
  | [d1, d2] => { results := [.lit (.bool true)], args := [d1, d2] }
  | _ => none }
def fnExactTimesPointRow : OpenClaim := { program := "ytijllgpgnmdfdaa", sum := "00e6ee830e35d5fa66055036aa53bad1c2f43beec968c9dc2bd03d4cb9a6b540", func := "loop.example/g01009/laws.FnExactTimesPoint", spec := "fnExactTimesPoint", inPlace := ["math/bits.Add64", "math/bits.Sub64"], unfollowed := true, recurses := true, apart := false }
def FnExactTimesPointSaid : Prop := fnExactTimesPointRow.holds Try.pinned (OpenSpec.ofChange fnExactTimesPointSpec)

/-- ITS FALSE NEIGHBOUR: 'it returns false'. Refute it at one input. -/
def fnExactTimesPointWrong : ChangeSpec := { name := "fnExactTimesPoint", fn := fun _ => fun
  | [d1, d2] => { results := [.lit (.bool false)], args := [d1, d2] }
  | _ => none }
def FnExactTimesPointWrongFalsely : Prop := fnExactTimesPointRow.holds Try.pinned (OpenSpec.ofChange fnExactTimesPointWrong)

/-- 'laws.FnExactDeterminantOf': WHATEVER THE INPUT: true; the input reads as it did. -/
def fnExactDeterminantOfSpec : ChangeSpec := { name := "fnExactDeterminantOf", fn := fun _ => fun
  | [d] => { results := [.lit (.bool true)], args := [d] }
  | _ => none }
def fnExactDeterminantOfRow : OpenClaim := { program := "ytijllgpgnmdfdaa", sum := "00e6ee830e35d5fa66055036aa53bad1c2f43beec968c9dc2bd03d4cb9a6b540", func := "loop.example/g01009/laws.FnExactDeterminantOf", spec := "fnExactDeterminantOf", inPlace := ["math/bits.Add64", "math/bits.Sub64"], unfollowed := true, recurses := true, apart := false }
def FnExactDeterminantOfSaid : Prop := fnExactDeterminantOfRow.holds Try.pinned (OpenSpec.ofChange fnExactDeterminantOfSpec)

/-- ITS FALSE NEIGHBOUR: 'it returns false'. Refute it at one input. -/
def fnExactDeterminantOfWrong : ChangeSpec := { name := "fnExactDeterminantOf", fn := fun _ => fun
  | [d] => { results := [.lit (.bool false)], args := [d] }
  | _ => none }
def FnExactDeterminantOfWrongFalsely : Prop := fnExactDeterminantOfRow.holds Try.pinned (OpenSpec.ofChange fnExactDeterminantOfWrong)

/-- 'laws.FnExactMultiplyTables': WHATEVER THE INPUT: true; the input reads as it did. -/
def fnExactMultiplyTablesSpec : ChangeSpec := { name := "fnExactMultiplyTables", fn := fun _ => fun
  | [d1, d2] => { results := [.lit (.bool true)], args := [d1, d2] }
  | _ => none }
def fnExactMultiplyTablesRow : OpenClaim := { program := "ytijllgpgnmdfdaa", sum := "00e6ee830e35d5fa66055036aa53bad1c2f43beec968c9dc2bd03d4cb9a6b540", func := "loop.example/g01009/laws.FnExactMultiplyTables", spec := "fnExactMultiplyTables", inPlace := ["math/bits.Add64", "math/bits.Sub64"], unfollowed := true, recurses := true, apart := false }
def FnExactMultiplyTablesSaid : Prop := fnExactMultiplyTablesRow.holds Try.pinned (OpenSpec.ofChange fnExactMultiplyTablesSpec)

/-- ITS FALSE NEIGHBOUR: 'it returns false'. Refute it at one input. -/
def fnExactMultiplyTablesWrong : ChangeSpec := { name := "fnExactMultiplyTables", fn := fun _ => fun
  | [d1, d2] => { results := [.lit (.bool false)], args := [d1, d2] }
  | _ => none }
def FnExactMultiplyTablesWrongFalsely : Prop := fnExactMultiplyTablesRow.holds Try.pinned (OpenSpec.ofChange fnExactMultiplyTablesWrong)

/-- 'laws.FnExactComplexPower': WHATEVER THE INPUT: true; the input reads as it did. -/
def fnExactComplexPowerSpec : ChangeSpec := { name := "fnExactComplexPower", fn := fun _ => fun
  | [d] => { results := [.lit (.bool true)], args := [d] }
  | _ => none }
def fnExactComplexPowerRow : OpenClaim := { program := "ytijllgpgnmdfdaa", sum := "00e6ee830e35d5fa66055036aa53bad1c2f43beec968c9dc2bd03d4cb9a6b540", func := "loop.example/g01009/laws.FnExactComplexPower", spec := "fnExactComplexPower", unfollowed := true, recurses := true, apart := false }
def FnExactComplexPowerSaid : Prop := fnExactComplexPowerRow.holds Try.pinned (OpenSpec.ofChange fnExactComplexPowerSpec)

/-- ITS FALSE NEIGHBOUR: 'it returns false'. Refute it at one input. -/
def fnExactComplexPowerWrong : ChangeSpec := { name := "fnExactComplexPower", fn := fun _ => fun
  | [d] => { results := [.lit (.bool false)], args := [d] }
  | _ => none }
def FnExactComplexPowerWrongFalsely : Prop := fnExactComplexPowerRow.holds Try.pinned (OpenSpec.ofChange fnExactComplexPowerWrong)

/-- 'laws.FnExactAdjointOf': WHATEVER THE INPUT: true; the input reads as it did. -/
def fnExactAdjointOfSpec : ChangeSpec := { name := "fnExactAdjointOf", fn := fun _ => fun
  | [d] => { results := [.lit (.bool true)], args := [d] }
  | _ => none }
def fnExactAdjointOfRow : OpenClaim := { program := "ytijllgpgnmdfdaa", sum := "00e6ee830e35d5fa66055036aa53bad1c2f43beec968c9dc2bd03d4cb9a6b540", func := "loop.example/g01009/laws.FnExactAdjointOf", spec := "fnExactAdjointOf", inPlace := ["math/bits.Add64", "math/bits.Sub64"], unfollowed := true, recurses := true, apart := false }
def FnExactAdjointOfSaid : Prop := fnExactAdjointOfRow.holds Try.pinned (OpenSpec.ofChange fnExactAdjointOfSpec)

/-- ITS FALSE NEIGHBOUR: 'it returns false'. Refute it at one input. -/
def fnExactAdjointOfWrong : ChangeSpec := { name := "fnExactAdjointOf", fn := fun _ => fun
  | [d] => { results := [.lit (.bool false)], args := [d] }
  | _ => none }
def FnExactAdjointOfWrongFalsely : Prop := fnExactAdjointOfRow.holds Try.pinned (OpenSpec.ofChange fnExactAdjointOfWrong)

/-- 'laws.FnExactFaceSign': WHATEVER THE INPUT: true; the input reads as it did. -/
def fnExactFaceSignSpec : ChangeSpec := { name := "fnExactFaceSign", fn := fun _ => fun
  | [d1, d2, d3, d4] => { results := [.lit (.bool true)], args := [d1, d2, d3, d4] }
  | _ => none }
def fnExactFaceSignRow : OpenClaim := { program := "ytijllgpgnmdfdaa", sum := "00e6ee830e35d5fa66055036aa53bad1c2f43beec968c9dc2bd03d4cb9a6b540", func := "loop.example/g01009/laws.FnExactFaceSign", spec := "fnExactFaceSign", apart := false }
def FnExactFaceSignSaid : Prop := fnExactFaceSignRow.holds Try.pinned (OpenSpec.ofChange fnExactFaceSignSpec)

/-- ITS FALSE NEIGHBOUR: 'it returns false'. Refute it at one input. -/
def fnExactFaceSignWrong : ChangeSpec := { name := "fnExactFaceSign", fn := fun _ => fun
  | [d1, d2, d3, d4] => { results := [.lit (.bool false)], args := [d1, d2, d3, d4] }
  | _ => none }
def FnExactFaceSignWrongFalsely : Prop := fnExactFaceSignRow.holds Try.pinned (OpenSpec.ofChange fnExactFaceSignWrong)

/-- 'laws.FnExactOppositeSides': WHATEVER THE INPUT: true; the input reads as it did. -/
def fnExactOppositeSidesSpec : ChangeSpec := { name := "fnExactOppositeSides", fn := fun _ => fun
  | [d1, d2] => { results := [.lit (.bool true)], args := [d1, d2] }
  | _ => none }
def fnExactOppositeSidesRow : OpenClaim := { program := "ytijllgpgnmdfdaa", sum := "00e6ee830e35d5fa66055036aa53bad1c2f43beec968c9dc2bd03d4cb9a6b540", func := "loop.example/g01009/laws.FnExactOppositeSides", spec := "fnExactOppositeSides", apart := false }
def FnExactOppositeSidesSaid : Prop := fnExactOppositeSidesRow.holds Try.pinned (OpenSpec.ofChange fnExactOppositeSidesSpec)

/-- ITS FALSE NEIGHBOUR: 'it returns false'. Refute it at one input. -/
def fnExactOppositeSidesWrong : ChangeSpec := { name := "fnExactOppositeSides", fn := fun _ => fun
  | [d1, d2] => { results := [.lit (.bool false)], args := [d1, d2] }
  | _ => none }
def FnExactOppositeSidesWrongFalsely : Prop := fnExactOppositeSidesRow.holds Try.pinned (OpenSpec.ofChange fnExactOppositeSidesWrong)

/-- 'laws.FnExactCornerQuarters': WHATEVER THE INPUT: true; the input reads as it did. -/
def fnExactCornerQuartersSpec : ChangeSpec := { name := "fnExactCornerQuarters", fn := fun _ => fun
  | [d1, d2, d3] => { results := [.lit (.bool true)], args := [d1, d2, d3] }
  | _ => none }
def fnExactCornerQuartersRow : OpenClaim := { program := "ytijllgpgnmdfdaa", sum := "00e6ee830e35d5fa66055036aa53bad1c2f43beec968c9dc2bd03d4cb9a6b540", func := "loop.example/g01009/laws.FnExactCornerQuarters", spec := "fnExactCornerQuarters", unfollowed := true, recurses := true, apart := false }
def FnExactCornerQuartersSaid : Prop := fnExactCornerQuartersRow.holds Try.pinned (OpenSpec.ofChange fnExactCornerQuartersSpec)

/-- ITS FALSE NEIGHBOUR: 'it returns false'. Refute it at one input. -/
def fnExactCornerQuartersWrong : ChangeSpec := { name := "fnExactCornerQuarters", fn := fun _ => fun
  | [d1, d2, d3] => { results := [.lit (.bool false)], args := [d1, d2, d3] }
  | _ => none }
def FnExactCornerQuartersWrongFalsely : Prop := fnExactCornerQuartersRow.holds Try.pinned (OpenSpec.ofChange fnExactCornerQuartersWrong)

/-- 'laws.FnExactDeterminantIn': WHATEVER THE INPUT: true; the input reads as it did. -/
def fnExactDeterminantInSpec : ChangeSpec := { name := "fnExactDeterminantIn", fn := fun _ => fun
  | [d] => { results := [.lit (.bool true)], args := [d] }
  | _ => none }
def fnExactDeterminantInRow : OpenClaim := { program := "ytijllgpgnmdfdaa", sum := "00e6ee830e35d5fa66055036aa53bad1c2f43beec968c9dc2bd03d4cb9a6b540", func := "loop.example/g01009/laws.FnExactDeterminantIn", spec := "fnExactDeterminantIn", inPlace := ["math/bits.Add64", "math/bits.Sub64"], unfollowed := true, recurses := true, apart := false }
def FnExactDeterminantInSaid : Prop := fnExactDeterminantInRow.holds Try.pinned (OpenSpec.ofChange fnExactDeterminantInSpec)

/-- ITS FALSE NEIGHBOUR: 'it returns false'. Refute it at one input. -/
def fnExactDeterminantInWrong : ChangeSpec := { name := "fnExactDeterminantIn", fn := fun _ => fun
  | [d] => { results := [.lit (.bool false)], args := [d] }
  | _ => none }
def FnExactDeterminantInWrongFalsely : Prop := fnExactDeterminantInRow.holds Try.pinned (OpenSpec.ofChange fnExactDeterminantInWrong)

/-- 'laws.FnExactComplexSystem': WHATEVER THE INPUT: true; the input reads as it did. -/
def fnExactComplexSystemSpec : ChangeSpec := { name := "fnExactComplexSystem", fn := fun _ => fun
  | [d] => { results := [.lit (.bool true)], args := [d] }
  | _ => none }
def fnExactComplexSystemRow : OpenClaim := { program := "ytijllgpgnmdfdaa", sum := "00e6ee830e35d5fa66055036aa53bad1c2f43beec968c9dc2bd03d4cb9a6b540", func := "loop.example/g01009/laws.FnExactComplexSystem", spec := "fnExactComplexSystem", unfollowed := true, recurses := true, apart := false }
def FnExactComplexSystemSaid : Prop := fnExactComplexSystemRow.holds Try.pinned (OpenSpec.ofChange fnExactComplexSystemSpec)

/-- ITS FALSE NEIGHBOUR: 'it returns false'. Refute it at one input. -/
def fnExactComplexSystemWrong : ChangeSpec := { name := "fnExactComplexSystem", fn := fun _ => fun
  | [d] => { results := [.lit (.bool false)], args := [d] }
  | _ => none }
def FnExactComplexSystemWrongFalsely : Prop := fnExactComplexSystemRow.holds Try.pinned (OpenSpec.ofChange fnExactComplexSystemWrong)

/- THE SECOND FORM. 'bulk': how many values and letters a reading holds, each counted each time it is reached (what is shared counts as often as it is met; a slice's spare places count too). A statement '..UptoSaid' is the law's where the arguments, and the package variables that the reading takes, are together of bulk at most 1048576: NARROWER than '..Said'. Prove '..Said' where nothing that the law and all that it calls make is longer than what came in: it says more and counts as full. Else prove '..UptoSaid'. A law counts once. -/
mutual
def uptoBulk {H : Type} : DataW H → Nat
  | .lit (.string bytes) => bytes.length + 1
  | .lit _ => 1
  | .nil => 1
  | .ptr d => uptoBulk d + 1
  | .slice elems spare => uptoBulkAll elems + uptoBulkAll spare + 1
  | .agg parts => uptoBulkAll parts + 1
  | .iface _ d => uptoBulk d + 1
  | .map entries => uptoBulkEntries entries + 1
  | .held _ => 1
def uptoBulkAll {H : Type} : List (DataW H) → Nat
  | [] => 0
  | d :: r => uptoBulk d + uptoBulkAll r
def uptoBulkEntries {H : Type} : List (Lit × DataW H) → Nat
  | [] => 0
  | x :: r => uptoBulkEntry x + uptoBulkEntries r
def uptoBulkEntry {H : Type} : Lit × DataW H → Nat
  | (.string bytes, d) => bytes.length + uptoBulk d + 1
  | (_, d) => uptoBulk d + 1
 end
def uptoSmall : (H : Type) → List (DataW H) → Bool := fun _ ds => decide (uptoBulkAll ds ≤ 1048576)
def OpenSpec.upto (s : _root_.Go.ChangeSpec) : _root_.Go.OpenSpec := { _root_.Go.OpenSpec.ofChange s with cond := some uptoSmall }

/-- 'laws.FnExactTimesPoint', WHERE WHAT IT READS IS OF BULK AT MOST 1048576: true; the input reads as it did. -/
def fnExactTimesPointUptoRow : OpenClaim := { program := "ytijllgpgnmdfdaa", sum := "00e6ee830e35d5fa66055036aa53bad1c2f43beec968c9dc2bd03d4cb9a6b540", func := "loop.example/g01009/laws.FnExactTimesPoint", spec := "fnExactTimesPoint", inPlace := ["math/bits.Add64", "math/bits.Sub64"], unfollowed := true, recurses := true, apart := false, narrowed := true }
def FnExactTimesPointUptoSaid : Prop := fnExactTimesPointUptoRow.holds Try.pinned (OpenSpec.upto fnExactTimesPointSpec)

/-- 'laws.FnExactDeterminantOf', WHERE WHAT IT READS IS OF BULK AT MOST 1048576: true; the input reads as it did. -/
def fnExactDeterminantOfUptoRow : OpenClaim := { program := "ytijllgpgnmdfdaa", sum := "00e6ee830e35d5fa66055036aa53bad1c2f43beec968c9dc2bd03d4cb9a6b540", func := "loop.example/g01009/laws.FnExactDeterminantOf", spec := "fnExactDeterminantOf", inPlace := ["math/bits.Add64", "math/bits.Sub64"], unfollowed := true, recurses := true, apart := false, narrowed := true }
def FnExactDeterminantOfUptoSaid : Prop := fnExactDeterminantOfUptoRow.holds Try.pinned (OpenSpec.upto fnExactDeterminantOfSpec)

/-- 'laws.FnExactMultiplyTables', WHERE WHAT IT READS IS OF BULK AT MOST 1048576: true; the input reads as it did. -/
def fnExactMultiplyTablesUptoRow : OpenClaim := { program := "ytijllgpgnmdfdaa", sum := "00e6ee830e35d5fa66055036aa53bad1c2f43beec968c9dc2bd03d4cb9a6b540", func := "loop.example/g01009/laws.FnExactMultiplyTables", spec := "fnExactMultiplyTables", inPlace := ["math/bits.Add64", "math/bits.Sub64"], unfollowed := true, recurses := true, apart := false, narrowed := true }
def FnExactMultiplyTablesUptoSaid : Prop := fnExactMultiplyTablesUptoRow.holds Try.pinned (OpenSpec.upto fnExactMultiplyTablesSpec)

/-- 'laws.FnExactComplexPower', WHERE WHAT IT READS IS OF BULK AT MOST 1048576: true; the input reads as it did. -/
def fnExactComplexPowerUptoRow : OpenClaim := { program := "ytijllgpgnmdfdaa", sum := "00e6ee830e35d5fa66055036aa53bad1c2f43beec968c9dc2bd03d4cb9a6b540", func := "loop.example/g01009/laws.FnExactComplexPower", spec := "fnExactComplexPower", unfollowed := true, recurses := true, apart := false, narrowed := true }
def FnExactComplexPowerUptoSaid : Prop := fnExactComplexPowerUptoRow.holds Try.pinned (OpenSpec.upto fnExactComplexPowerSpec)

/-- 'laws.FnExactAdjointOf', WHERE WHAT IT READS IS OF BULK AT MOST 1048576: true; the input reads as it did. -/
def fnExactAdjointOfUptoRow : OpenClaim := { program := "ytijllgpgnmdfdaa", sum := "00e6ee830e35d5fa66055036aa53bad1c2f43beec968c9dc2bd03d4cb9a6b540", func := "loop.example/g01009/laws.FnExactAdjointOf", spec := "fnExactAdjointOf", inPlace := ["math/bits.Add64", "math/bits.Sub64"], unfollowed := true, recurses := true, apart := false, narrowed := true }
def FnExactAdjointOfUptoSaid : Prop := fnExactAdjointOfUptoRow.holds Try.pinned (OpenSpec.upto fnExactAdjointOfSpec)

/-- 'laws.FnExactFaceSign', WHERE WHAT IT READS IS OF BULK AT MOST 1048576: true; the input reads as it did. -/
def fnExactFaceSignUptoRow : OpenClaim := { program := "ytijllgpgnmdfdaa", sum := "00e6ee830e35d5fa66055036aa53bad1c2f43beec968c9dc2bd03d4cb9a6b540", func := "loop.example/g01009/laws.FnExactFaceSign", spec := "fnExactFaceSign", apart := false, narrowed := true }
def FnExactFaceSignUptoSaid : Prop := fnExactFaceSignUptoRow.holds Try.pinned (OpenSpec.upto fnExactFaceSignSpec)

/-- 'laws.FnExactOppositeSides', WHERE WHAT IT READS IS OF BULK AT MOST 1048576: true; the input reads as it did. -/
def fnExactOppositeSidesUptoRow : OpenClaim := { program := "ytijllgpgnmdfdaa", sum := "00e6ee830e35d5fa66055036aa53bad1c2f43beec968c9dc2bd03d4cb9a6b540", func := "loop.example/g01009/laws.FnExactOppositeSides", spec := "fnExactOppositeSides", apart := false, narrowed := true }
def FnExactOppositeSidesUptoSaid : Prop := fnExactOppositeSidesUptoRow.holds Try.pinned (OpenSpec.upto fnExactOppositeSidesSpec)

/-- 'laws.FnExactCornerQuarters', WHERE WHAT IT READS IS OF BULK AT MOST 1048576: true; the input reads as it did. -/
def fnExactCornerQuartersUptoRow : OpenClaim := { program := "ytijllgpgnmdfdaa", sum := "00e6ee830e35d5fa66055036aa53bad1c2f43beec968c9dc2bd03d4cb9a6b540", func := "loop.example/g01009/laws.FnExactCornerQuarters", spec := "fnExactCornerQuarters", unfollowed := true, recurses := true, apart := false, narrowed := true }
def FnExactCornerQuartersUptoSaid : Prop := fnExactCornerQuartersUptoRow.holds Try.pinned (OpenSpec.upto fnExactCornerQuartersSpec)

/-- 'laws.FnExactDeterminantIn', WHERE WHAT IT READS IS OF BULK AT MOST 1048576: true; the input reads as it did. -/
def fnExactDeterminantInUptoRow : OpenClaim := { program := "ytijllgpgnmdfdaa", sum := "00e6ee830e35d5fa66055036aa53bad1c2f43beec968c9dc2bd03d4cb9a6b540", func := "loop.example/g01009/laws.FnExactDeterminantIn", spec := "fnExactDeterminantIn", inPlace := ["math/bits.Add64", "math/bits.Sub64"], unfollowed := true, recurses := true, apart := false, narrowed := true }
def FnExactDeterminantInUptoSaid : Prop := fnExactDeterminantInUptoRow.holds Try.pinned (OpenSpec.upto fnExactDeterminantInSpec)

/-- 'laws.FnExactComplexSystem', WHERE WHAT IT READS IS OF BULK AT MOST 1048576: true; the input reads as it did. -/
def fnExactComplexSystemUptoRow : OpenClaim := { program := "ytijllgpgnmdfdaa", sum := "00e6ee830e35d5fa66055036aa53bad1c2f43beec968c9dc2bd03d4cb9a6b540", func := "loop.example/g01009/laws.FnExactComplexSystem", spec := "fnExactComplexSystem", unfollowed := true, recurses := true, apart := false, narrowed := true }
def FnExactComplexSystemUptoSaid : Prop := fnExactComplexSystemUptoRow.holds Try.pinned (OpenSpec.upto fnExactComplexSystemSpec)

end Rows
end Go.Proofs.Ytijllgpgnmdfdaa
