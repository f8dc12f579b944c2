/-
  No cell of these rows narrows 'for every input' (looked for: loops, veiled, ifaces, maps, wideKeys, modest, calm, conditions, laid).
  DERIVED. THE GIVEN ROWS OF THIS SEAT. 6 by the template 'for every input the law returns true; each argument reads behind the call as it read before'; 0 by the template 'total and deterministic' (their statements: YtndgjjaolajkjaaTotals.lean).
  GIVEN WITH THE SEED: the statements are not yours to turn. If you find one false, say at which input.
  Laid BY PROGRAM, IN A SANDBOX (cutbox-rows.mjs): the forced cells as the released guide's own fill.sh prints them over the translation fbaa27255ea5da9e… (all of the seat's roots in one cut). By AI agents, Wed Nov 11 2026. No macro, syntax, notation, axiom, sorry.
-/
import Derived.Test.YtndgjjaolajkjaaChecked
import GoSem.Claim
import GoSem.ClaimJoined
import GoSem.ClaimMapViews
import Derived.JoinedTies
import Derived.KernelRfl
namespace Go.Proofs.Ytndgjjaolajkjaa
/- THE CELL 'sum', in the pinned program and in every row, IS THE sha256 OF THE DUMP (.gsa) THAT YtndgjjaolajkjaaProg.lean LOADS. Nothing in Lean hashes anything: it is a label: what it is worth is what the hold of that sum in a sandbox is worth. -/
noncomputable def Try.pinned : Pinned := { name := "ytndgjjaolajkjaa", sum := "fbaa27255ea5da9e246a58f9971ff9d66602f5e49169762618dfbd4ad9a5e722", checked := Try.checked }
namespace Rows
def none {H : Type} : Left H := { results := [], args := [] }

/-- 'laws.FnExactCornerQuarters': WHATEVER THE INPUT: true; the input reads as it did. -/
def fnExactCornerQuartersSpec : ChangeSpec := { name := "fnExactCornerQuarters", fn := fun _ => fun
  | [d1, d2, d3] => { results := [.lit (.bool true)], args := [d1, d2, d3] }
  | _ => none }
def fnExactCornerQuartersRow : OpenClaim := { program := "ytndgjjaolajkjaa", sum := "fbaa27255ea5da9e246a58f9971ff9d66602f5e49169762618dfbd4ad9a5e722", func := "loop.example/g01009/laws.FnExactCornerQuarters", spec := "fnExactCornerQuarters", unfollowed := true, recurses := true, apart := false }
def FnExactCornerQuartersSaid : Prop := fnExactCornerQuartersRow.holds Try.pinned (OpenSpec.ofChange fnExactCornerQuartersSpec)

/-- ITS FALSE NEIGHBOUR: 'it returns false'. Refute it at one input. -/
def fnExactCornerQuartersWrong : ChangeSpec := { name := "fnExactCornerQuarters", fn := fun _ => fun
  | [d1, d2, d3] => { results := [.lit (.bool false)], args := [d1, d2, d3] }
  | _ => none }
def FnExactCornerQuartersWrongFalsely : Prop := fnExactCornerQuartersRow.holds Try.pinned (OpenSpec.ofChange fnExactCornerQuartersWrong)

/-- 'laws.FnExactJacobianSign': WHATEVER THE INPUT: true; the input reads as it did. -/
def fnExactJacobianSignSpec : ChangeSpec := { name := "fnExactJacobianSign", fn := fun _ => fun
  | [d1, d2] => { results := [.lit (.bool true)], args := [d1, d2] }
  | _ => none }
def fnExactJacobianSignRow : OpenClaim := { program := "ytndgjjaolajkjaa", sum := "fbaa27255ea5da9e246a58f9971ff9d66602f5e49169762618dfbd4ad9a5e722", func := "loop.example/g01009/laws.FnExactJacobianSign", spec := "fnExactJacobianSign", unfollowed := true, recurses := true, apart := false }
def FnExactJacobianSignSaid : Prop := fnExactJacobianSignRow.holds Try.pinned (OpenSpec.ofChange fnExactJacobianSignSpec)

/-- ITS FALSE NEIGHBOUR: 'it returns false'. Refute it at one input. -/
def fnExactJacobianSignWrong : ChangeSpec := { name := "fnExactJacobianSign", fn := fun _ => fun
  | [d1, d2] => { results := [.lit (.bool false)], args := [d1, d2] }
  | _ => none }
def FnExactJacobianSignWrongFalsely : Prop := fnExactJacobianSignRow.holds Try.pinned (OpenSpec.ofChange fnExactJacobianSignWrong)

/-- 'laws.FnExactRoundedInverse': WHATEVER THE INPUT: true; the input reads as it did. -/
def fnExactRoundedInverseSpec : ChangeSpec := { name := "fnExactRoundedInverse", fn := fun _ => fun
  | [d1, d2] => { results := [.lit (.bool true)], args := [d1, d2] }
  | _ => none }
def fnExactRoundedInverseRow : OpenClaim := { program := "ytndgjjaolajkjaa", sum := "fbaa27255ea5da9e246a58f9971ff9d66602f5e49169762618dfbd4ad9a5e722", func := "loop.example/g01009/laws.FnExactRoundedInverse", spec := "fnExactRoundedInverse", inPlace := ["math/bits.Add64", "math/bits.Sub64"], unfollowed := true, recurses := true, named := ["math/bits.divideError", "math/bits.overflowError"], apart := false }
def FnExactRoundedInverseSaid : Prop := fnExactRoundedInverseRow.holds Try.pinned (OpenSpec.ofChange fnExactRoundedInverseSpec)

/-- ITS FALSE NEIGHBOUR: 'it returns false'. Refute it at one input. -/
def fnExactRoundedInverseWrong : ChangeSpec := { name := "fnExactRoundedInverse", fn := fun _ => fun
  | [d1, d2] => { results := [.lit (.bool false)], args := [d1, d2] }
  | _ => none }
def FnExactRoundedInverseWrongFalsely : Prop := fnExactRoundedInverseRow.holds Try.pinned (OpenSpec.ofChange fnExactRoundedInverseWrong)

/-- 'laws.FnExactFaceSign': WHATEVER THE INPUT: true; the input reads as it did. -/
def fnExactFaceSignSpec : ChangeSpec := { name := "fnExactFaceSign", fn := fun _ => fun
  | [d1, d2, d3, d4] => { results := [.lit (.bool true)], args := [d1, d2, d3, d4] }
  | _ => none }
def fnExactFaceSignRow : OpenClaim := { program := "ytndgjjaolajkjaa", sum := "fbaa27255ea5da9e246a58f9971ff9d66602f5e49169762618dfbd4ad9a5e722", func := "loop.example/g01009/laws.FnExactFaceSign", spec := "fnExactFaceSign", apart := false }
def FnExactFaceSignSaid : Prop := fnExactFaceSignRow.holds Try.pinned (OpenSpec.ofChange fnExactFaceSignSpec)

/-- ITS FALSE NEIGHBOUR: 'it returns false'. Refute it at one input. -/
def fnExactFaceSignWrong : ChangeSpec := { name := "fnExactFaceSign", fn := fun _ => fun
  | [d1, d2, d3, d4] => { results := [.lit (.bool false)], args := [d1, d2, d3, d4] }
  | _ => none }
def FnExactFaceSignWrongFalsely : Prop := fnExactFaceSignRow.holds Try.pinned (OpenSpec.ofChange fnExactFaceSignWrong)

/-- 'laws.FnExactOppositeSides': WHATEVER THE INPUT: true; the input reads as it did. -/
def fnExactOppositeSidesSpec : ChangeSpec := { name := "fnExactOppositeSides", fn := fun _ => fun
  | [d1, d2] => { results := [.lit (.bool true)], args := [d1, d2] }
  | _ => none }
def fnExactOppositeSidesRow : OpenClaim := { program := "ytndgjjaolajkjaa", sum := "fbaa27255ea5da9e246a58f9971ff9d66602f5e49169762618dfbd4ad9a5e722", func := "loop.example/g01009/laws.FnExactOppositeSides", spec := "fnExactOppositeSides", apart := false }
def FnExactOppositeSidesSaid : Prop := fnExactOppositeSidesRow.holds Try.pinned (OpenSpec.ofChange fnExactOppositeSidesSpec)

/-- ITS FALSE NEIGHBOUR: 'it returns false'. Refute it at one input. -/
def fnExactOppositeSidesWrong : ChangeSpec := { name := "fnExactOppositeSides", fn := fun _ => fun
  | [d1, d2] => { results := [.lit (.bool false)], args := [d1, d2] }
  | _ => none }
def FnExactOppositeSidesWrongFalsely : Prop := fnExactOppositeSidesRow.holds Try.pinned (OpenSpec.ofChange fnExactOppositeSidesWrong)

/-- 'laws.FnExactFaceSigns': WHATEVER THE INPUT: true; the input reads as it did. -/
def fnExactFaceSignsSpec : ChangeSpec := { name := "fnExactFaceSigns", fn := fun _ => fun
  | [d1, d2] => { results := [.lit (.bool true)], args := [d1, d2] }
  | _ => none }
def fnExactFaceSignsRow : OpenClaim := { program := "ytndgjjaolajkjaa", sum := "fbaa27255ea5da9e246a58f9971ff9d66602f5e49169762618dfbd4ad9a5e722", func := "loop.example/g01009/laws.FnExactFaceSigns", spec := "fnExactFaceSigns", apart := false }
def FnExactFaceSignsSaid : Prop := fnExactFaceSignsRow.holds Try.pinned (OpenSpec.ofChange fnExactFaceSignsSpec)

/-- ITS FALSE NEIGHBOUR: 'it returns false'. Refute it at one input. -/
def fnExactFaceSignsWrong : ChangeSpec := { name := "fnExactFaceSigns", fn := fun _ => fun
  | [d1, d2] => { results := [.lit (.bool false)], args := [d1, d2] }
  | _ => none }
def FnExactFaceSignsWrongFalsely : Prop := fnExactFaceSignsRow.holds Try.pinned (OpenSpec.ofChange fnExactFaceSignsWrong)

/- THE SECOND FORM. 'bulk': how many values and letters a reading holds, each counted each time it is reached (what is shared counts as often as it is met; a slice's spare places count too). A statement '..UptoSaid' is the law's where the arguments, and the package variables that the reading takes, are together of bulk at most 1048576: NARROWER than '..Said'. Prove '..Said' where nothing that the law and all that it calls make is longer than what came in: it says more and counts as full. Else prove '..UptoSaid'. A law counts once. -/
mutual
def uptoBulk {H : Type} : DataW H → Nat
  | .lit (.string bytes) => bytes.length + 1
  | .lit _ => 1
  | .nil => 1
  | .ptr d => uptoBulk d + 1
  | .slice elems spare => uptoBulkAll elems + uptoBulkAll spare + 1
  | .agg parts => uptoBulkAll parts + 1
  | .iface _ d => uptoBulk d + 1
  | .map entries => uptoBulkEntries entries + 1
  | .held _ => 1
def uptoBulkAll {H : Type} : List (DataW H) → Nat
  | [] => 0
  | d :: r => uptoBulk d + uptoBulkAll r
def uptoBulkEntries {H : Type} : List (Lit × DataW H) → Nat
  | [] => 0
  | x :: r => uptoBulkEntry x + uptoBulkEntries r
def uptoBulkEntry {H : Type} : Lit × DataW H → Nat
  | (.string bytes, d) => bytes.length + uptoBulk d + 1
  | (_, d) => uptoBulk d + 1
 end
def uptoSmall : (H : Type) → List (DataW H) → Bool := fun _ ds => decide (uptoBulkAll ds ≤ 1048576)
def OpenSpec.upto (s : _root_.Go.ChangeSpec) : _root_.Go.OpenSpec := { _root_.Go.OpenSpec.ofChange s with cond := some uptoSmall }

/-- 'laws.FnExactCornerQuarters', WHERE WHAT IT READS IS OF BULK AT MOST 1048576: true; the input reads as it did. -/
def fnExactCornerQuartersUptoRow : OpenClaim := { program := "ytndgjjaolajkjaa", sum := "fbaa27255ea5da9e246a58f9971ff9d66602f5e49169762618dfbd4ad9a5e722", func := "loop.example/g01009/laws.FnExactCornerQuarters", spec := "fnExactCornerQuarters", unfollowed := true, recurses := true, apart := false, narrowed := true }
def FnExactCornerQuartersUptoSaid : Prop := fnExactCornerQuartersUptoRow.holds Try.pinned (OpenSpec.upto fnExactCornerQuartersSpec)

/-- 'laws.FnExactJacobianSign', WHERE WHAT IT READS IS OF BULK AT MOST 1048576: true; the input reads as it did. -/
def fnExactJacobianSignUptoRow : OpenClaim := { program := "ytndgjjaolajkjaa", sum := "fbaa27255ea5da9e246a58f9971ff9d66602f5e49169762618dfbd4ad9a5e722", func := "loop.example/g01009/laws.FnExactJacobianSign", spec := "fnExactJacobianSign", unfollowed := true, recurses := true, apart := false, narrowed := true }
def FnExactJacobianSignUptoSaid : Prop := fnExactJacobianSignUptoRow.holds Try.pinned (OpenSpec.upto fnExactJacobianSignSpec)

/-- 'laws.FnExactRoundedInverse', WHERE WHAT IT READS IS OF BULK AT MOST 1048576: true; the input reads as it did. -/
def fnExactRoundedInverseUptoRow : OpenClaim := { program := "ytndgjjaolajkjaa", sum := "fbaa27255ea5da9e246a58f9971ff9d66602f5e49169762618dfbd4ad9a5e722", func := "loop.example/g01009/laws.FnExactRoundedInverse", spec := "fnExactRoundedInverse", inPlace := ["math/bits.Add64", "math/bits.Sub64"], unfollowed := true, recurses := true, named := ["math/bits.divideError", "math/bits.overflowError"], apart := false, narrowed := true }
def FnExactRoundedInverseUptoSaid : Prop := fnExactRoundedInverseUptoRow.holds Try.pinned (OpenSpec.upto fnExactRoundedInverseSpec)

/-- 'laws.FnExactFaceSign', WHERE WHAT IT READS IS OF BULK AT MOST 1048576: true; the input reads as it did. -/
def fnExactFaceSignUptoRow : OpenClaim := { program := "ytndgjjaolajkjaa", sum := "fbaa27255ea5da9e246a58f9971ff9d66602f5e49169762618dfbd4ad9a5e722", func := "loop.example/g01009/laws.FnExactFaceSign", spec := "fnExactFaceSign", apart := false, narrowed := true }
def FnExactFaceSignUptoSaid : Prop := fnExactFaceSignUptoRow.holds Try.pinned (OpenSpec.upto fnExactFaceSignSpec)

/-- 'laws.FnExactOppositeSides', WHERE WHAT IT READS IS OF BULK AT MOST 1048576: true; the input reads as it did. -/
def fnExactOppositeSidesUptoRow : OpenClaim := { program := "ytndgjjaolajkjaa", sum := "fbaa27255ea5da9e246a58f9971ff9d66602f5e49169762618dfbd4ad9a5e722", func := "loop.example/g01009/laws.FnExactOppositeSides", spec := "fnExactOppositeSides", apart := false, narrowed := true }
def FnExactOppositeSidesUptoSaid : Prop := fnExactOppositeSidesUptoRow.holds Try.pinned (OpenSpec.upto fnExactOppositeSidesSpec)

/-- 'laws.FnExactFaceSigns', WHERE WHAT IT READS IS OF BULK AT MOST 1048576: true; the input reads as it did. -/
def fnExactFaceSignsUptoRow : OpenClaim := { program := "ytndgjjaolajkjaa", sum := "fbaa27255ea5da9e246a58f9971ff9d66602f5e49169762618dfbd4ad9a5e722", func := "loop.example/g01009/laws.FnExactFaceSigns", spec := "fnExactFaceSigns", apart := false, narrowed := true }
def FnExactFaceSignsUptoSaid : Prop := fnExactFaceSignsUptoRow.holds Try.pinned (OpenSpec.upto fnExactFaceSignsSpec)

end Rows
end Go.Proofs.Ytndgjjaolajkjaa
