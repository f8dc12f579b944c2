/-
  DERIVED. GIVEN WITH THE SEED: THE CARDS: each row of YtiglamoomghakaaDoorRows.lean that lists a variable, with what it lists TIED to the program's text (the seventh form; the later family's looks); each row that meets fmt, with fmt's text TOLD by the authors' own Lean function (tested against real Go, not proved from fmt's source: count such statements apart). THE CARD IS WHAT COUNTS. Prove the row's statement (the work); the ties are given (YtiglamoomghakaaDoorTie.lean); close each card by the builder's one call (the guide's Derived/Test/ToyasCard.lean, 'card_holds'). Laid BY PROGRAM, IN A SANDBOX (cutbox-door.mjs). By AI agents, Wed Nov 11 2026. No macro, syntax, notation, axiom, sorry.
-/
import Derived.Test.YtiglamoomghakaaDoorRows
import GoSem.ClaimSeven
namespace Go.Proofs.YtiglamoomghakaaDoor
namespace Rows

/-- THE TIED CARD OF 'laws.FnExactLabelsText'. -/
def fnExactLabelsTextCard : Claim7 := { stood := { row := fnExactLabelsTextRow, standIns := [], harness := (true, "0e2bbc404cddfe363e363fe6ef9eb1f8b7e7e07f3557db4e305e605739bf9a1e"), looks := false }, kinds := [], alts := [], laidByText := true, laidKinds := [.data, .data, .data], laidTests := true, laidLooks := .later }
def FnExactLabelsTextCardSaid : Prop := Claim7.holds Tryd.pinned (.plain (OpenSpec.ofChange fnExactLabelsTextSpec)) fnExactLabelsTextCard

/-- THE SECOND FORM's CARD OF 'laws.FnExactLabelsText'. -/
def fnExactLabelsTextUptoCard : Claim7 := { stood := { row := fnExactLabelsTextUptoRow, standIns := [], harness := (true, "0e2bbc404cddfe363e363fe6ef9eb1f8b7e7e07f3557db4e305e605739bf9a1e"), looks := false }, kinds := [], alts := [], laidByText := true, laidKinds := [.data, .data, .data], laidTests := true, laidLooks := .later }
def FnExactLabelsTextUptoCardSaid : Prop := Claim7.holds Tryd.pinned (.plain (OpenSpec.upto fnExactLabelsTextSpec)) fnExactLabelsTextUptoCard
end Rows
end Go.Proofs.YtiglamoomghakaaDoor
