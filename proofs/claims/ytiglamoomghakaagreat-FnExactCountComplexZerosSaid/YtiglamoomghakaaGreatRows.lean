/-
  No cell of these rows narrows 'for every input' (looked for: loops, veiled, ifaces, maps, wideKeys, modest, calm, conditions, laid).
  DERIVED. THE GIVEN ROWS OF THIS SEAT. 8 by the template 'for every input the law returns true; each argument reads behind the call as it read before'; 0 by the template 'total and deterministic' (their statements: YtiglamoomghakaaGreatTotals.lean).
  GIVEN WITH THE SEED: the statements are not yours to turn. If you find one false, say at which input.
  Laid BY PROGRAM, IN A SANDBOX (cutbox-rows.mjs): the forced cells as the released guide's own fill.sh prints them over the translation dd61855ae63dabee… (all of the seat's roots in one cut). By AI agents, Wed Nov 11 2026. No macro, syntax, notation, axiom, sorry.
-/
import Derived.Test.YtiglamoomghakaaGreatChecked
import GoSem.Claim
import GoSem.ClaimJoined
import GoSem.ClaimMapViews
import Derived.JoinedTies
import Derived.KernelRfl
namespace Go.Proofs.YtiglamoomghakaaGreat
/- THE CELL 'sum', in the pinned program and in every row, IS THE sha256 OF THE DUMP (.gsa) THAT YtiglamoomghakaaGreatProg.lean LOADS. Nothing in Lean hashes anything: it is a label: what it is worth is what the hold of that sum in a sandbox is worth. -/
noncomputable def Tryz.pinned : Pinned := { name := "ytiglamoomghakaagreat", sum := "dd61855ae63dabee20f311a34e0b72d2bebd14e6ecfc703a9436d44e542ec09c", checked := Tryz.checked }
namespace Rows
def none {H : Type} : Left H := { results := [], args := [] }

/-- 'laws.FnExactNarrowedSides': WHATEVER THE INPUT: true; the input reads as it did. -/
def fnExactNarrowedSidesSpec : ChangeSpec := { name := "fnExactNarrowedSides", fn := fun _ => fun
  | [d1, d2] => { results := [.lit (.bool true)], args := [d1, d2] }
  | _ => none }
def fnExactNarrowedSidesRow : OpenClaim := { program := "ytiglamoomghakaagreat", sum := "dd61855ae63dabee20f311a34e0b72d2bebd14e6ecfc703a9436d44e542ec09c", func := "loop.example/g01009/laws.FnExactNarrowedSides", spec := "fnExactNarrowedSides", inPlace := ["math/bits.Add64", "math/bits.Sub64"], unfollowed := true, recurses := true, named := ["math/bits.divideError", "math/bits.overflowError"], apart := false }
def FnExactNarrowedSidesSaid : Prop := fnExactNarrowedSidesRow.holds Tryz.pinned (OpenSpec.ofChange fnExactNarrowedSidesSpec)

/-- ITS FALSE NEIGHBOUR: 'it returns false'. Refute it at one input. -/
def fnExactNarrowedSidesWrong : ChangeSpec := { name := "fnExactNarrowedSides", fn := fun _ => fun
  | [d1, d2] => { results := [.lit (.bool false)], args := [d1, d2] }
  | _ => none }
def FnExactNarrowedSidesWrongFalsely : Prop := fnExactNarrowedSidesRow.holds Tryz.pinned (OpenSpec.ofChange fnExactNarrowedSidesWrong)

/-- 'laws.FnExactZeroSides': WHATEVER THE INPUT: true; the input reads as it did. -/
def fnExactZeroSidesSpec : ChangeSpec := { name := "fnExactZeroSides", fn := fun _ => fun
  | [d1, d2] => { results := [.lit (.bool true)], args := [d1, d2] }
  | _ => none }
def fnExactZeroSidesRow : OpenClaim := { program := "ytiglamoomghakaagreat", sum := "dd61855ae63dabee20f311a34e0b72d2bebd14e6ecfc703a9436d44e542ec09c", func := "loop.example/g01009/laws.FnExactZeroSides", spec := "fnExactZeroSides", inPlace := ["math/bits.Add64", "math/bits.Sub64"], unfollowed := true, recurses := true, named := ["math/bits.divideError", "math/bits.overflowError"], apart := false }
def FnExactZeroSidesSaid : Prop := fnExactZeroSidesRow.holds Tryz.pinned (OpenSpec.ofChange fnExactZeroSidesSpec)

/-- ITS FALSE NEIGHBOUR: 'it returns false'. Refute it at one input. -/
def fnExactZeroSidesWrong : ChangeSpec := { name := "fnExactZeroSides", fn := fun _ => fun
  | [d1, d2] => { results := [.lit (.bool false)], args := [d1, d2] }
  | _ => none }
def FnExactZeroSidesWrongFalsely : Prop := fnExactZeroSidesRow.holds Tryz.pinned (OpenSpec.ofChange fnExactZeroSidesWrong)

/-- 'laws.FnExactCountComplexZeros': WHATEVER THE INPUT: true; the input reads as it did. -/
def fnExactCountComplexZerosSpec : ChangeSpec := { name := "fnExactCountComplexZeros", fn := fun _ => fun
  | [d1, d2] => { results := [.lit (.bool true)], args := [d1, d2] }
  | _ => none }
def fnExactCountComplexZerosRow : OpenClaim := { program := "ytiglamoomghakaagreat", sum := "dd61855ae63dabee20f311a34e0b72d2bebd14e6ecfc703a9436d44e542ec09c", func := "loop.example/g01009/laws.FnExactCountComplexZeros", spec := "fnExactCountComplexZeros", inPlace := ["math/bits.Add64", "math/bits.Sub64"], unfollowed := true, recurses := true, apart := false }
def FnExactCountComplexZerosSaid : Prop := fnExactCountComplexZerosRow.holds Tryz.pinned (OpenSpec.ofChange fnExactCountComplexZerosSpec)

/-- ITS FALSE NEIGHBOUR: 'it returns false'. Refute it at one input. -/
def fnExactCountComplexZerosWrong : ChangeSpec := { name := "fnExactCountComplexZeros", fn := fun _ => fun
  | [d1, d2] => { results := [.lit (.bool false)], args := [d1, d2] }
  | _ => none }
def FnExactCountComplexZerosWrongFalsely : Prop := fnExactCountComplexZerosRow.holds Tryz.pinned (OpenSpec.ofChange fnExactCountComplexZerosWrong)

/-- 'laws.FnExactIsContracting': WHATEVER THE INPUT: true; the input reads as it did. -/
def fnExactIsContractingSpec : ChangeSpec := { name := "fnExactIsContracting", fn := fun _ => fun
  | [d1, d2] => { results := [.lit (.bool true)], args := [d1, d2] }
  | _ => none }
def fnExactIsContractingRow : OpenClaim := { program := "ytiglamoomghakaagreat", sum := "dd61855ae63dabee20f311a34e0b72d2bebd14e6ecfc703a9436d44e542ec09c", func := "loop.example/g01009/laws.FnExactIsContracting", spec := "fnExactIsContracting", inPlace := ["math/bits.Add64", "math/bits.Sub64"], unfollowed := true, recurses := true, named := ["math/bits.divideError", "math/bits.overflowError"], apart := false }
def FnExactIsContractingSaid : Prop := fnExactIsContractingRow.holds Tryz.pinned (OpenSpec.ofChange fnExactIsContractingSpec)

/-- ITS FALSE NEIGHBOUR: 'it returns false'. Refute it at one input. -/
def fnExactIsContractingWrong : ChangeSpec := { name := "fnExactIsContracting", fn := fun _ => fun
  | [d1, d2] => { results := [.lit (.bool false)], args := [d1, d2] }
  | _ => none }
def FnExactIsContractingWrongFalsely : Prop := fnExactIsContractingRow.holds Tryz.pinned (OpenSpec.ofChange fnExactIsContractingWrong)

/-- 'laws.FnExactRemainderTable': WHATEVER THE INPUT: true; the input reads as it did. -/
def fnExactRemainderTableSpec : ChangeSpec := { name := "fnExactRemainderTable", fn := fun _ => fun
  | [d1, d2] => { results := [.lit (.bool true)], args := [d1, d2] }
  | _ => none }
def fnExactRemainderTableRow : OpenClaim := { program := "ytiglamoomghakaagreat", sum := "dd61855ae63dabee20f311a34e0b72d2bebd14e6ecfc703a9436d44e542ec09c", func := "loop.example/g01009/laws.FnExactRemainderTable", spec := "fnExactRemainderTable", inPlace := ["math/bits.Add64", "math/bits.Sub64"], unfollowed := true, recurses := true, named := ["math/bits.divideError", "math/bits.overflowError"], apart := false }
def FnExactRemainderTableSaid : Prop := fnExactRemainderTableRow.holds Tryz.pinned (OpenSpec.ofChange fnExactRemainderTableSpec)

/-- ITS FALSE NEIGHBOUR: 'it returns false'. Refute it at one input. -/
def fnExactRemainderTableWrong : ChangeSpec := { name := "fnExactRemainderTable", fn := fun _ => fun
  | [d1, d2] => { results := [.lit (.bool false)], args := [d1, d2] }
  | _ => none }
def FnExactRemainderTableWrongFalsely : Prop := fnExactRemainderTableRow.holds Tryz.pinned (OpenSpec.ofChange fnExactRemainderTableWrong)

/-- 'laws.FnExactNewtonPoint': WHATEVER THE INPUT: true; the input reads as it did. -/
def fnExactNewtonPointSpec : ChangeSpec := { name := "fnExactNewtonPoint", fn := fun _ => fun
  | [d1, d2] => { results := [.lit (.bool true)], args := [d1, d2] }
  | _ => none }
def fnExactNewtonPointRow : OpenClaim := { program := "ytiglamoomghakaagreat", sum := "dd61855ae63dabee20f311a34e0b72d2bebd14e6ecfc703a9436d44e542ec09c", func := "loop.example/g01009/laws.FnExactNewtonPoint", spec := "fnExactNewtonPoint", inPlace := ["math/bits.Add64", "math/bits.Sub64"], unfollowed := true, recurses := true, named := ["math/bits.divideError", "math/bits.overflowError"], apart := false }
def FnExactNewtonPointSaid : Prop := fnExactNewtonPointRow.holds Tryz.pinned (OpenSpec.ofChange fnExactNewtonPointSpec)

/-- ITS FALSE NEIGHBOUR: 'it returns false'. Refute it at one input. -/
def fnExactNewtonPointWrong : ChangeSpec := { name := "fnExactNewtonPoint", fn := fun _ => fun
  | [d1, d2] => { results := [.lit (.bool false)], args := [d1, d2] }
  | _ => none }
def FnExactNewtonPointWrongFalsely : Prop := fnExactNewtonPointRow.holds Tryz.pinned (OpenSpec.ofChange fnExactNewtonPointWrong)

/-- 'laws.FnExactNewtonKind': WHATEVER THE INPUT: true; the input reads as it did. -/
def fnExactNewtonKindSpec : ChangeSpec := { name := "fnExactNewtonKind", fn := fun _ => fun
  | [d1, d2] => { results := [.lit (.bool true)], args := [d1, d2] }
  | _ => none }
def fnExactNewtonKindRow : OpenClaim := { program := "ytiglamoomghakaagreat", sum := "dd61855ae63dabee20f311a34e0b72d2bebd14e6ecfc703a9436d44e542ec09c", func := "loop.example/g01009/laws.FnExactNewtonKind", spec := "fnExactNewtonKind", inPlace := ["math/bits.Add64", "math/bits.Sub64"], unfollowed := true, recurses := true, named := ["math/bits.divideError", "math/bits.overflowError"], apart := false }
def FnExactNewtonKindSaid : Prop := fnExactNewtonKindRow.holds Tryz.pinned (OpenSpec.ofChange fnExactNewtonKindSpec)

/-- ITS FALSE NEIGHBOUR: 'it returns false'. Refute it at one input. -/
def fnExactNewtonKindWrong : ChangeSpec := { name := "fnExactNewtonKind", fn := fun _ => fun
  | [d1, d2] => { results := [.lit (.bool false)], args := [d1, d2] }
  | _ => none }
def FnExactNewtonKindWrongFalsely : Prop := fnExactNewtonKindRow.holds Tryz.pinned (OpenSpec.ofChange fnExactNewtonKindWrong)

/-- 'laws.FnExactNewtonImage': WHATEVER THE INPUT: true; the input reads as it did. -/
def fnExactNewtonImageSpec : ChangeSpec := { name := "fnExactNewtonImage", fn := fun _ => fun
  | [d1, d2] => { results := [.lit (.bool true)], args := [d1, d2] }
  | _ => none }
def fnExactNewtonImageRow : OpenClaim := { program := "ytiglamoomghakaagreat", sum := "dd61855ae63dabee20f311a34e0b72d2bebd14e6ecfc703a9436d44e542ec09c", func := "loop.example/g01009/laws.FnExactNewtonImage", spec := "fnExactNewtonImage", inPlace := ["math/bits.Add64", "math/bits.Sub64"], unfollowed := true, recurses := true, named := ["math/bits.divideError", "math/bits.overflowError"], apart := false }
def FnExactNewtonImageSaid : Prop := fnExactNewtonImageRow.holds Tryz.pinned (OpenSpec.ofChange fnExactNewtonImageSpec)

/-- ITS FALSE NEIGHBOUR: 'it returns false'. Refute it at one input. -/
def fnExactNewtonImageWrong : ChangeSpec := { name := "fnExactNewtonImage", fn := fun _ => fun
  | [d1, d2] => { results := [.lit (.bool false)], args := [d1, d2] }
  | _ => none }
def FnExactNewtonImageWrongFalsely : Prop := fnExactNewtonImageRow.holds Tryz.pinned (OpenSpec.ofChange fnExactNewtonImageWrong)

/- THE SECOND FORM. 'bulk': how many values and letters a reading holds, each counted each time it is reached (what is shared counts as often as it is met; a slice's spare places count too). A statement '..UptoSaid' is the law's where the arguments, and the package variables that the reading takes, are together of bulk at most 1048576: NARROWER than '..Said'. Prove '..Said' where nothing that the law and all that it calls make is longer than what came in: it says more and counts as full. Else prove '..UptoSaid'. A law counts once. -/
mutual
def uptoBulk {H : Type} : DataW H → Nat
  | .lit (.string bytes) => bytes.length + 1
  | .lit _ => 1
  | .nil => 1
  | .ptr d => uptoBulk d + 1
  | .slice elems spare => uptoBulkAll elems + uptoBulkAll spare + 1
  | .agg parts => uptoBulkAll parts + 1
  | .iface _ d => uptoBulk d + 1
  | .map entries => uptoBulkEntries entries + 1
  | .held _ => 1
def uptoBulkAll {H : Type} : List (DataW H) → Nat
  | [] => 0
  | d :: r => uptoBulk d + uptoBulkAll r
def uptoBulkEntries {H : Type} : List (Lit × DataW H) → Nat
  | [] => 0
  | x :: r => uptoBulkEntry x + uptoBulkEntries r
def uptoBulkEntry {H : Type} : Lit × DataW H → Nat
  | (.string bytes, d) => bytes.length + uptoBulk d + 1
  | (_, d) => uptoBulk d + 1
 end
def uptoSmall : (H : Type) → List (DataW H) → Bool := fun _ ds => decide (uptoBulkAll ds ≤ 1048576)
def OpenSpec.upto (s : _root_.Go.ChangeSpec) : _root_.Go.OpenSpec := { _root_.Go.OpenSpec.ofChange s with cond := some uptoSmall }

/-- 'laws.FnExactNarrowedSides', WHERE WHAT IT READS IS OF BULK AT MOST 1048576: true; the input reads as it did. -/
def fnExactNarrowedSidesUptoRow : OpenClaim := { program := "ytiglamoomghakaagreat", sum := "dd61855ae63dabee20f311a34e0b72d2bebd14e6ecfc703a9436d44e542ec09c", func := "loop.example/g01009/laws.FnExactNarrowedSides", spec := "fnExactNarrowedSides", inPlace := ["math/bits.Add64", "math/bits.Sub64"], unfollowed := true, recurses := true, named := ["math/bits.divideError", "math/bits.overflowError"], apart := false, narrowed := true }
def FnExactNarrowedSidesUptoSaid : Prop := fnExactNarrowedSidesUptoRow.holds Tryz.pinned (OpenSpec.upto fnExactNarrowedSidesSpec)

/-- 'laws.FnExactZeroSides', WHERE WHAT IT READS IS OF BULK AT MOST 1048576: true; the input reads as it did. -/
def fnExactZeroSidesUptoRow : OpenClaim := { program := "ytiglamoomghakaagreat", sum := "dd61855ae63dabee20f311a34e0b72d2bebd14e6ecfc703a9436d44e542ec09c", func := "loop.example/g01009/laws.FnExactZeroSides", spec := "fnExactZeroSides", inPlace := ["math/bits.Add64", "math/bits.Sub64"], unfollowed := true, recurses := true, named := ["math/bits.divideError", "math/bits.overflowError"], apart := false, narrowed := true }
def FnExactZeroSidesUptoSaid : Prop := fnExactZeroSidesUptoRow.holds Tryz.pinned (OpenSpec.upto fnExactZeroSidesSpec)

/-- 'laws.FnExactCountComplexZeros', WHERE WHAT IT READS IS OF BULK AT MOST 1048576: true; the input reads as it did. -/
def fnExactCountComplexZerosUptoRow : OpenClaim := { program := "ytiglamoomghakaagreat", sum := "dd61855ae63dabee20f311a34e0b72d2bebd14e6ecfc703a9436d44e542ec09c", func := "loop.example/g01009/laws.FnExactCountComplexZeros", spec := "fnExactCountComplexZeros", inPlace := ["math/bits.Add64", "math/bits.Sub64"], unfollowed := true, recurses := true, apart := false, narrowed := true }
def FnExactCountComplexZerosUptoSaid : Prop := fnExactCountComplexZerosUptoRow.holds Tryz.pinned (OpenSpec.upto fnExactCountComplexZerosSpec)

/-- 'laws.FnExactIsContracting', WHERE WHAT IT READS IS OF BULK AT MOST 1048576: true; the input reads as it did. -/
def fnExactIsContractingUptoRow : OpenClaim := { program := "ytiglamoomghakaagreat", sum := "dd61855ae63dabee20f311a34e0b72d2bebd14e6ecfc703a9436d44e542ec09c", func := "loop.example/g01009/laws.FnExactIsContracting", spec := "fnExactIsContracting", inPlace := ["math/bits.Add64", "math/bits.Sub64"], unfollowed := true, recurses := true, named := ["math/bits.divideError", "math/bits.overflowError"], apart := false, narrowed := true }
def FnExactIsContractingUptoSaid : Prop := fnExactIsContractingUptoRow.holds Tryz.pinned (OpenSpec.upto fnExactIsContractingSpec)

/-- 'laws.FnExactRemainderTable', WHERE WHAT IT READS IS OF BULK AT MOST 1048576: true; the input reads as it did. -/
def fnExactRemainderTableUptoRow : OpenClaim := { program := "ytiglamoomghakaagreat", sum := "dd61855ae63dabee20f311a34e0b72d2bebd14e6ecfc703a9436d44e542ec09c", func := "loop.example/g01009/laws.FnExactRemainderTable", spec := "fnExactRemainderTable", inPlace := ["math/bits.Add64", "math/bits.Sub64"], unfollowed := true, recurses := true, named := ["math/bits.divideError", "math/bits.overflowError"], apart := false, narrowed := true }
def FnExactRemainderTableUptoSaid : Prop := fnExactRemainderTableUptoRow.holds Tryz.pinned (OpenSpec.upto fnExactRemainderTableSpec)

/-- 'laws.FnExactNewtonPoint', WHERE WHAT IT READS IS OF BULK AT MOST 1048576: true; the input reads as it did. -/
def fnExactNewtonPointUptoRow : OpenClaim := { program := "ytiglamoomghakaagreat", sum := "dd61855ae63dabee20f311a34e0b72d2bebd14e6ecfc703a9436d44e542ec09c", func := "loop.example/g01009/laws.FnExactNewtonPoint", spec := "fnExactNewtonPoint", inPlace := ["math/bits.Add64", "math/bits.Sub64"], unfollowed := true, recurses := true, named := ["math/bits.divideError", "math/bits.overflowError"], apart := false, narrowed := true }
def FnExactNewtonPointUptoSaid : Prop := fnExactNewtonPointUptoRow.holds Tryz.pinned (OpenSpec.upto fnExactNewtonPointSpec)

/-- 'laws.FnExactNewtonKind', WHERE WHAT IT READS IS OF BULK AT MOST 1048576: true; the input reads as it did. -/
def fnExactNewtonKindUptoRow : OpenClaim := { program := "ytiglamoomghakaagreat", sum := "dd61855ae63dabee20f311a34e0b72d2bebd14e6ecfc703a9436d44e542ec09c", func := "loop.example/g01009/laws.FnExactNewtonKind", spec := "fnExactNewtonKind", inPlace := ["math/bits.Add64", "math/bits.Sub64"], unfollowed := true, recurses := true, named := ["math/bits.divideError", "math/bits.overflowError"], apart := false, narrowed := true }
def FnExactNewtonKindUptoSaid : Prop := fnExactNewtonKindUptoRow.holds Tryz.pinned (OpenSpec.upto fnExactNewtonKindSpec)

/-- 'laws.FnExactNewtonImage', WHERE WHAT IT READS IS OF BULK AT MOST 1048576: true; the input reads as it did. -/
def fnExactNewtonImageUptoRow : OpenClaim := { program := "ytiglamoomghakaagreat", sum := "dd61855ae63dabee20f311a34e0b72d2bebd14e6ecfc703a9436d44e542ec09c", func := "loop.example/g01009/laws.FnExactNewtonImage", spec := "fnExactNewtonImage", inPlace := ["math/bits.Add64", "math/bits.Sub64"], unfollowed := true, recurses := true, named := ["math/bits.divideError", "math/bits.overflowError"], apart := false, narrowed := true }
def FnExactNewtonImageUptoSaid : Prop := fnExactNewtonImageUptoRow.holds Tryz.pinned (OpenSpec.upto fnExactNewtonImageSpec)

end Rows
end Go.Proofs.YtiglamoomghakaaGreat
