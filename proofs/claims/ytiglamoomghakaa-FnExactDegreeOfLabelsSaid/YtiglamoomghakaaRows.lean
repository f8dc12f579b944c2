/-
  No cell of these rows narrows 'for every input' (looked for: loops, veiled, ifaces, maps, wideKeys, modest, calm, conditions, laid).
  DERIVED. THE GIVEN ROWS OF THIS SEAT. 3 by the template 'for every input the law returns true; each argument reads behind the call as it read before'; 0 by the template 'total and deterministic' (their statements: YtiglamoomghakaaTotals.lean).
  GIVEN WITH THE SEED: the statements are not yours to turn. If you find one false, say at which input.
  Laid BY PROGRAM, IN A SANDBOX (cutbox-rows.mjs): the forced cells as the released guide's own fill.sh prints them over the translation 00883280a46b1eb2… (all of the seat's roots in one cut). By AI agents, Wed Nov 11 2026. No macro, syntax, notation, axiom, sorry.
-/
import Derived.Test.YtiglamoomghakaaChecked
import GoSem.Claim
import GoSem.ClaimJoined
import GoSem.ClaimMapViews
import Derived.JoinedTies
import Derived.KernelRfl
namespace Go.Proofs.Ytiglamoomghakaa
/- THE CELL 'sum', in the pinned program and in every row, IS THE sha256 OF THE DUMP (.gsa) THAT YtiglamoomghakaaProg.lean LOADS. Nothing in Lean hashes anything: it is a label: what it is worth is what the hold of that sum in a sandbox is worth. -/
noncomputable def Try.pinned : Pinned := { name := "ytiglamoomghakaa", sum := "00883280a46b1eb23ceb35252b8544e8087205ae691b88907a5eb1f31ba1a21e", checked := Try.checked }
namespace Rows
def none {H : Type} : Left H := { results := [], args := [] }

/-- 'laws.FnExactDegreeOfLabels': WHATEVER THE INPUT: true; the input reads as it did. -/
def fnExactDegreeOfLabelsSpec : ChangeSpec := { name := "fnExactDegreeOfLabels", fn := fun _ => fun
  | [d1, d2] => { results := [.lit (.bool true)], args := [d1, d2] }
  | _ => none }
def fnExactDegreeOfLabelsRow : OpenClaim := { program := "ytiglamoomghakaa", sum := "00883280a46b1eb23ceb35252b8544e8087205ae691b88907a5eb1f31ba1a21e", func := "loop.example/g01009/laws.FnExactDegreeOfLabels", spec := "fnExactDegreeOfLabels", unfollowed := true, recurses := true, apart := false }
def FnExactDegreeOfLabelsSaid : Prop := fnExactDegreeOfLabelsRow.holds Try.pinned (OpenSpec.ofChange fnExactDegreeOfLabelsSpec)

/-- ITS FALSE NEIGHBOUR: 'it returns false'. Refute it at one input. -/
def fnExactDegreeOfLabelsWrong : ChangeSpec := { name := "fnExactDegreeOfLabels", fn := fun _ => fun
  | [d1, d2] => { results := [.lit (.bool false)], args := [d1, d2] }
  | _ => none }
def FnExactDegreeOfLabelsWrongFalsely : Prop := fnExactDegreeOfLabelsRow.holds Try.pinned (OpenSpec.ofChange fnExactDegreeOfLabelsWrong)

/-- 'laws.FnExactComplexPower': WHATEVER THE INPUT: true; the input reads as it did. -/
def fnExactComplexPowerSpec : ChangeSpec := { name := "fnExactComplexPower", fn := fun _ => fun
  | [d] => { results := [.lit (.bool true)], args := [d] }
  | _ => none }
def fnExactComplexPowerRow : OpenClaim := { program := "ytiglamoomghakaa", sum := "00883280a46b1eb23ceb35252b8544e8087205ae691b88907a5eb1f31ba1a21e", func := "loop.example/g01009/laws.FnExactComplexPower", spec := "fnExactComplexPower", unfollowed := true, recurses := true, apart := false }
def FnExactComplexPowerSaid : Prop := fnExactComplexPowerRow.holds Try.pinned (OpenSpec.ofChange fnExactComplexPowerSpec)

/-- ITS FALSE NEIGHBOUR: 'it returns false'. Refute it at one input. -/
def fnExactComplexPowerWrong : ChangeSpec := { name := "fnExactComplexPower", fn := fun _ => fun
  | [d] => { results := [.lit (.bool false)], args := [d] }
  | _ => none }
def FnExactComplexPowerWrongFalsely : Prop := fnExactComplexPowerRow.holds Try.pinned (OpenSpec.ofChange fnExactComplexPowerWrong)

/-- 'laws.FnExactComplexSystem': WHATEVER THE INPUT: true; the input reads as it did. -/
def fnExactComplexSystemSpec : ChangeSpec := { name := "fnExactComplexSystem", fn := fun _ => fun
  | [d] => { results := [.lit (.bool true)], args := [d] }
  | _ => none }
def fnExactComplexSystemRow : OpenClaim := { program := "ytiglamoomghakaa", sum := "00883280a46b1eb23ceb35252b8544e8087205ae691b88907a5eb1f31ba1a21e", func := "loop.example/g01009/laws.FnExactComplexSystem", spec := "fnExactComplexSystem", unfollowed := true, recurses := true, apart := false }
def FnExactComplexSystemSaid : Prop := fnExactComplexSystemRow.holds Try.pinned (OpenSpec.ofChange fnExactComplexSystemSpec)

/-- ITS FALSE NEIGHBOUR: 'it returns false'. Refute it at one input. -/
def fnExactComplexSystemWrong : ChangeSpec := { name := "fnExactComplexSystem", fn := fun _ => fun
  | [d] => { results := [.lit (.bool false)], args := [d] }
  | _ => none }
def FnExactComplexSystemWrongFalsely : Prop := fnExactComplexSystemRow.holds Try.pinned (OpenSpec.ofChange fnExactComplexSystemWrong)

/- THE SECOND FORM. 'bulk': how many values and letters a reading holds, each counted each time it is reached (what is shared counts as often as it is met; a slice's spare places count too). A statement '..UptoSaid' is the law's where the arguments, and the package variables that the reading takes, are together of bulk at most 1048576: NARROWER than '..Said'. Prove '..Said' where nothing that the law and all that it calls make is longer than what came in: it says more and counts as full. Else prove '..UptoSaid'. A law counts once. -/
mutual
def uptoBulk {H : Type} : DataW H → Nat
  | .lit (.string bytes) => bytes.length + 1
  | .lit _ => 1
  | .nil => 1
  | .ptr d => uptoBulk d + 1
  | .slice elems spare => uptoBulkAll elems + uptoBulkAll spare + 1
  | .agg parts => uptoBulkAll parts + 1
  | .iface _ d => uptoBulk d + 1
  | .map entries => uptoBulkEntries entries + 1
  | .held _ => 1
def uptoBulkAll {H : Type} : List (DataW H) → Nat
  | [] => 0
  | d :: r => uptoBulk d + uptoBulkAll r
def uptoBulkEntries {H : Type} : List (Lit × DataW H) → Nat
  | [] => 0
  | x :: r => uptoBulkEntry x + uptoBulkEntries r
def uptoBulkEntry {H : Type} : Lit × DataW H → Nat
  | (.string bytes, d) => bytes.length + uptoBulk d + 1
  | (_, d) => uptoBulk d + 1
 end
def uptoSmall : (H : Type) → List (DataW H) → Bool := fun _ ds => decide (uptoBulkAll ds ≤ 1048576)
def OpenSpec.upto (s : _root_.Go.ChangeSpec) : _root_.Go.OpenSpec := { _root_.Go.OpenSpec.ofChange s with cond := some uptoSmall }

/-- 'laws.FnExactDegreeOfLabels', WHERE WHAT IT READS IS OF BULK AT MOST 1048576: true; the input reads as it did. -/
def fnExactDegreeOfLabelsUptoRow : OpenClaim := { program := "ytiglamoomghakaa", sum := "00883280a46b1eb23ceb35252b8544e8087205ae691b88907a5eb1f31ba1a21e", func := "loop.example/g01009/laws.FnExactDegreeOfLabels", spec := "fnExactDegreeOfLabels", unfollowed := true, recurses := true, apart := false, narrowed := true }
def FnExactDegreeOfLabelsUptoSaid : Prop := fnExactDegreeOfLabelsUptoRow.holds Try.pinned (OpenSpec.upto fnExactDegreeOfLabelsSpec)

/-- 'laws.FnExactComplexPower', WHERE WHAT IT READS IS OF BULK AT MOST 1048576: true; the input reads as it did. -/
def fnExactComplexPowerUptoRow : OpenClaim := { program := "ytiglamoomghakaa", sum := "00883280a46b1eb23ceb35252b8544e8087205ae691b88907a5eb1f31ba1a21e", func := "loop.example/g01009/laws.FnExactComplexPower", spec := "fnExactComplexPower", unfollowed := true, recurses := true, apart := false, narrowed := true }
def FnExactComplexPowerUptoSaid : Prop := fnExactComplexPowerUptoRow.holds Try.pinned (OpenSpec.upto fnExactComplexPowerSpec)

/-- 'laws.FnExactComplexSystem', WHERE WHAT IT READS IS OF BULK AT MOST 1048576: true; the input reads as it did. -/
def fnExactComplexSystemUptoRow : OpenClaim := { program := "ytiglamoomghakaa", sum := "00883280a46b1eb23ceb35252b8544e8087205ae691b88907a5eb1f31ba1a21e", func := "loop.example/g01009/laws.FnExactComplexSystem", spec := "fnExactComplexSystem", unfollowed := true, recurses := true, apart := false, narrowed := true }
def FnExactComplexSystemUptoSaid : Prop := fnExactComplexSystemUptoRow.holds Try.pinned (OpenSpec.upto fnExactComplexSystemSpec)

end Rows
end Go.Proofs.Ytiglamoomghakaa
