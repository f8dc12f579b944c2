/-
  No cell of these rows narrows 'for every input' (looked for: loops, veiled, ifaces, maps, wideKeys, modest, calm, conditions, laid).
  DERIVED. THE GIVEN ROWS OF THIS SEAT. 4 by the template 'for every input the law returns true; each argument reads behind the call as it read before'; 0 by the template 'total and deterministic' (their statements: YtbkhmofhdbjpcaaGreatTotals.lean).
  GIVEN WITH THE SEED: the statements are not yours to turn. If you find one false, say at which input.
  Laid BY PROGRAM, IN A SANDBOX (cutbox-rows.mjs): the forced cells as the released guide's own fill.sh prints them over the translation 793127ba524cc361… (all of the seat's roots in one cut). By AI agents, Wed Nov 11 2026. No macro, syntax, notation, axiom, sorry.
-/
import Derived.Test.YtbkhmofhdbjpcaaGreatChecked
import GoSem.Claim
import GoSem.ClaimJoined
import GoSem.ClaimMapViews
import Derived.JoinedTies
import Derived.KernelRfl
namespace Go.Proofs.YtbkhmofhdbjpcaaGreat
/- THE CELL 'sum', in the pinned program and in every row, IS THE sha256 OF THE DUMP (.gsa) THAT YtbkhmofhdbjpcaaGreatProg.lean LOADS. Nothing in Lean hashes anything: it is a label: what it is worth is what the hold of that sum in a sandbox is worth. -/
noncomputable def Tryz.pinned : Pinned := { name := "ytbkhmofhdbjpcaagreat", sum := "793127ba524cc3612f4982b7d063c6499e7c87c1ff69517f156bf84e4173f279", checked := Tryz.checked }
namespace Rows
def none {H : Type} : Left H := { results := [], args := [] }

/-- 'laws.FnTablesIn': WHATEVER THE INPUT: true; the input reads as it did. -/
def fnTablesInSpec : ChangeSpec := { name := "fnTablesIn", fn := fun _ => fun
  | [d1, d2] => { results := [.lit (.bool true)], args := [d1, d2] }
  | _ => none }
def fnTablesInRow : OpenClaim := { program := "ytbkhmofhdbjpcaagreat", sum := "793127ba524cc3612f4982b7d063c6499e7c87c1ff69517f156bf84e4173f279", func := "loop.example/g01009/laws.FnTablesIn", spec := "fnTablesIn", inPlace := ["math/bits.Add64", "math/bits.Sub64"], unfollowed := true, recurses := true, named := ["math/bits.divideError", "math/bits.overflowError"], apart := false }
def FnTablesInSaid : Prop := fnTablesInRow.holds Tryz.pinned (OpenSpec.ofChange fnTablesInSpec)

/-- ITS FALSE NEIGHBOUR: 'it returns false'. Refute it at one input. -/
def fnTablesInWrong : ChangeSpec := { name := "fnTablesIn", fn := fun _ => fun
  | [d1, d2] => { results := [.lit (.bool false)], args := [d1, d2] }
  | _ => none }
def FnTablesInWrongFalsely : Prop := fnTablesInRow.holds Tryz.pinned (OpenSpec.ofChange fnTablesInWrong)

/-- 'laws.FnInverses': WHATEVER THE INPUT: true; the input reads as it did. -/
def fnInversesSpec : ChangeSpec := { name := "fnInverses", fn := fun _ => fun
  | [d1, d2] => { results := [.lit (.bool true)], args := [d1, d2] }
  | _ => none }
def fnInversesRow : OpenClaim := { program := "ytbkhmofhdbjpcaagreat", sum := "793127ba524cc3612f4982b7d063c6499e7c87c1ff69517f156bf84e4173f279", func := "loop.example/g01009/laws.FnInverses", spec := "fnInverses", inPlace := ["math/bits.Add64", "math/bits.Sub64"], unfollowed := true, recurses := true, named := ["math/bits.divideError", "math/bits.overflowError"], apart := false }
def FnInversesSaid : Prop := fnInversesRow.holds Tryz.pinned (OpenSpec.ofChange fnInversesSpec)

/-- ITS FALSE NEIGHBOUR: 'it returns false'. Refute it at one input. -/
def fnInversesWrong : ChangeSpec := { name := "fnInverses", fn := fun _ => fun
  | [d1, d2] => { results := [.lit (.bool false)], args := [d1, d2] }
  | _ => none }
def FnInversesWrongFalsely : Prop := fnInversesRow.holds Tryz.pinned (OpenSpec.ofChange fnInversesWrong)

/-- 'laws.FnCubes': WHATEVER THE INPUT: true; the input reads as it did. -/
def fnCubesSpec : ChangeSpec := { name := "fnCubes", fn := fun _ => fun
  | [d1, d2] => { results := [.lit (.bool true)], args := [d1, d2] }
  | _ => none }
def fnCubesRow : OpenClaim := { program := "ytbkhmofhdbjpcaagreat", sum := "793127ba524cc3612f4982b7d063c6499e7c87c1ff69517f156bf84e4173f279", func := "loop.example/g01009/laws.FnCubes", spec := "fnCubes", inPlace := ["math/bits.Add64", "math/bits.Sub64"], unfollowed := true, recurses := true, apart := false }
def FnCubesSaid : Prop := fnCubesRow.holds Tryz.pinned (OpenSpec.ofChange fnCubesSpec)

/-- ITS FALSE NEIGHBOUR: 'it returns false'. Refute it at one input. -/
def fnCubesWrong : ChangeSpec := { name := "fnCubes", fn := fun _ => fun
  | [d1, d2] => { results := [.lit (.bool false)], args := [d1, d2] }
  | _ => none }
def FnCubesWrongFalsely : Prop := fnCubesRow.holds Tryz.pinned (OpenSpec.ofChange fnCubesWrong)

/-- 'laws.FnExactDegreesOfParts': WHATEVER THE INPUT: true; the input reads as it did. -/
def fnExactDegreesOfPartsSpec : ChangeSpec := { name := "fnExactDegreesOfParts", fn := fun _ => fun
  | [d1, d2, d3] => { results := [.lit (.bool true)], args := [d1, d2, d3] }
  | _ => none }
def fnExactDegreesOfPartsRow : OpenClaim := { program := "ytbkhmofhdbjpcaagreat", sum := "793127ba524cc3612f4982b7d063c6499e7c87c1ff69517f156bf84e4173f279", func := "loop.example/g01009/laws.FnExactDegreesOfParts", spec := "fnExactDegreesOfParts", inPlace := ["math/bits.Add64", "math/bits.Sub64"], unfollowed := true, recurses := true, apart := false }
def FnExactDegreesOfPartsSaid : Prop := fnExactDegreesOfPartsRow.holds Tryz.pinned (OpenSpec.ofChange fnExactDegreesOfPartsSpec)

/-- ITS FALSE NEIGHBOUR: 'it returns false'. Refute it at one input. -/
def fnExactDegreesOfPartsWrong : ChangeSpec := { name := "fnExactDegreesOfParts", fn := fun _ => fun
  | [d1, d2, d3] => { results := [.lit (.bool false)], args := [d1, d2, d3] }
  | _ => none }
def FnExactDegreesOfPartsWrongFalsely : Prop := fnExactDegreesOfPartsRow.holds Tryz.pinned (OpenSpec.ofChange fnExactDegreesOfPartsWrong)

/- THE SECOND FORM. 'bulk': how many values and letters a reading holds, each counted each time it is reached (what is shared counts as often as it is met; a slice's spare places count too). A statement '..UptoSaid' is the law's where the arguments, and the package variables that the reading takes, are together of bulk at most 1048576: NARROWER than '..Said'. Prove '..Said' where nothing that the law and all that it calls make is longer than what came in: it says more and counts as full. Else prove '..UptoSaid'. A law counts once. -/
mutual
def uptoBulk {H : Type} : DataW H → Nat
  | .lit (.string bytes) => bytes.length + 1
  | .lit _ => 1
  | .nil => 1
  | .ptr d => uptoBulk d + 1
  | .slice elems spare => uptoBulkAll elems + uptoBulkAll spare + 1
  | .agg parts => uptoBulkAll parts + 1
  | .iface _ d => uptoBulk d + 1
  | .map entries => uptoBulkEntries entries + 1
  | .held _ => 1
def uptoBulkAll {H : Type} : List (DataW H) → Nat
  | [] => 0
  | d :: r => uptoBulk d + uptoBulkAll r
def uptoBulkEntries {H : Type} : List (Lit × DataW H) → Nat
  | [] => 0
  | x :: r => uptoBulkEntry x + uptoBulkEntries r
def uptoBulkEntry {H : Type} : Lit × DataW H → Nat
  | (.string bytes, d) => bytes.length + uptoBulk d + 1
  | (_, d) => uptoBulk d + 1
 end
def uptoSmall : (H : Type) → List (DataW H) → Bool := fun _ ds => decide (uptoBulkAll ds ≤ 1048576)
def OpenSpec.upto (s : _root_.Go.ChangeSpec) : _root_.Go.OpenSpec := { _root_.Go.OpenSpec.ofChange s with cond := some uptoSmall }

/-- 'laws.FnTablesIn', WHERE WHAT IT READS IS OF BULK AT MOST 1048576: true; the input reads as it did. -/
def fnTablesInUptoRow : OpenClaim := { program := "ytbkhmofhdbjpcaagreat", sum := "793127ba524cc3612f4982b7d063c6499e7c87c1ff69517f156bf84e4173f279", func := "loop.example/g01009/laws.FnTablesIn", spec := "fnTablesIn", inPlace := ["math/bits.Add64", "math/bits.Sub64"], unfollowed := true, recurses := true, named := ["math/bits.divideError", "math/bits.overflowError"], apart := false, narrowed := true }
def FnTablesInUptoSaid : Prop := fnTablesInUptoRow.holds Tryz.pinned (OpenSpec.upto fnTablesInSpec)

/-- 'laws.FnInverses', WHERE WHAT IT READS IS OF BULK AT MOST 1048576: true; the input reads as it did. -/
def fnInversesUptoRow : OpenClaim := { program := "ytbkhmofhdbjpcaagreat", sum := "793127ba524cc3612f4982b7d063c6499e7c87c1ff69517f156bf84e4173f279", func := "loop.example/g01009/laws.FnInverses", spec := "fnInverses", inPlace := ["math/bits.Add64", "math/bits.Sub64"], unfollowed := true, recurses := true, named := ["math/bits.divideError", "math/bits.overflowError"], apart := false, narrowed := true }
def FnInversesUptoSaid : Prop := fnInversesUptoRow.holds Tryz.pinned (OpenSpec.upto fnInversesSpec)

/-- 'laws.FnCubes', WHERE WHAT IT READS IS OF BULK AT MOST 1048576: true; the input reads as it did. -/
def fnCubesUptoRow : OpenClaim := { program := "ytbkhmofhdbjpcaagreat", sum := "793127ba524cc3612f4982b7d063c6499e7c87c1ff69517f156bf84e4173f279", func := "loop.example/g01009/laws.FnCubes", spec := "fnCubes", inPlace := ["math/bits.Add64", "math/bits.Sub64"], unfollowed := true, recurses := true, apart := false, narrowed := true }
def FnCubesUptoSaid : Prop := fnCubesUptoRow.holds Tryz.pinned (OpenSpec.upto fnCubesSpec)

/-- 'laws.FnExactDegreesOfParts', WHERE WHAT IT READS IS OF BULK AT MOST 1048576: true; the input reads as it did. -/
def fnExactDegreesOfPartsUptoRow : OpenClaim := { program := "ytbkhmofhdbjpcaagreat", sum := "793127ba524cc3612f4982b7d063c6499e7c87c1ff69517f156bf84e4173f279", func := "loop.example/g01009/laws.FnExactDegreesOfParts", spec := "fnExactDegreesOfParts", inPlace := ["math/bits.Add64", "math/bits.Sub64"], unfollowed := true, recurses := true, apart := false, narrowed := true }
def FnExactDegreesOfPartsUptoSaid : Prop := fnExactDegreesOfPartsUptoRow.holds Tryz.pinned (OpenSpec.upto fnExactDegreesOfPartsSpec)

end Rows
end Go.Proofs.YtbkhmofhdbjpcaaGreat
