/-
  DERIVED. GIVEN WITH THE SEED: THE CARDS: each row of YtbkhmofhdbjpcaaGreatDoorRows.lean that lists a variable, with what it lists TIED to the program's text (the seventh form; the later family's looks); each row that meets fmt, with fmt's text TOLD by the authors' own Lean function (tested against real Go, not proved from fmt's source: count such statements apart). THE CARD IS WHAT COUNTS. Prove the row's statement (the work); the ties are given (YtbkhmofhdbjpcaaGreatDoorTie.lean); close each card by the builder's one call (the guide's Derived/Test/ToyasCard.lean, 'card_holds'). Laid BY PROGRAM, IN A SANDBOX (cutbox-door.mjs). By AI agents, Wed Nov 11 2026. No macro, syntax, notation, axiom, sorry.
-/
import Derived.Test.YtbkhmofhdbjpcaaGreatDoorRows
import GoSem.ClaimSeven
namespace Go.Proofs.YtbkhmofhdbjpcaaGreatDoor
namespace Rows

/-- THE TIED CARD OF 'laws.FnImages'. -/
def fnImagesCard : Claim7 := { stood := { row := fnImagesRow, standIns := [], harness := (true, "0db8a778ac23a706a6782f111b91f44ecddc511110159c48acbf24cb329129cf"), looks := false }, kinds := [], alts := [], laidByText := true, laidKinds := [.data, .data, .data], laidTests := true, laidLooks := .later }
def FnImagesCardSaid : Prop := Claim7.holds Tryz.pinned (.plain (OpenSpec.ofChange fnImagesSpec)) fnImagesCard

/-- THE TIED CARD OF 'laws.FnCells'. -/
def fnCellsCard : Claim7 := { stood := { row := fnCellsRow, standIns := [], harness := (true, "0db8a778ac23a706a6782f111b91f44ecddc511110159c48acbf24cb329129cf"), looks := false }, kinds := [], alts := [], laidByText := true, laidKinds := [.data, .data, .data], laidTests := true, laidLooks := .later }
def FnCellsCardSaid : Prop := Claim7.holds Tryz.pinned (.plain (OpenSpec.ofChange fnCellsSpec)) fnCellsCard

/-- THE SECOND FORM's CARD OF 'laws.FnImages'. -/
def fnImagesUptoCard : Claim7 := { stood := { row := fnImagesUptoRow, standIns := [], harness := (true, "0db8a778ac23a706a6782f111b91f44ecddc511110159c48acbf24cb329129cf"), looks := false }, kinds := [], alts := [], laidByText := true, laidKinds := [.data, .data, .data], laidTests := true, laidLooks := .later }
def FnImagesUptoCardSaid : Prop := Claim7.holds Tryz.pinned (.plain (OpenSpec.upto fnImagesSpec)) fnImagesUptoCard

/-- THE SECOND FORM's CARD OF 'laws.FnCells'. -/
def fnCellsUptoCard : Claim7 := { stood := { row := fnCellsUptoRow, standIns := [], harness := (true, "0db8a778ac23a706a6782f111b91f44ecddc511110159c48acbf24cb329129cf"), looks := false }, kinds := [], alts := [], laidByText := true, laidKinds := [.data, .data, .data], laidTests := true, laidLooks := .later }
def FnCellsUptoCardSaid : Prop := Claim7.holds Tryz.pinned (.plain (OpenSpec.upto fnCellsSpec)) fnCellsUptoCard
end Rows
end Go.Proofs.YtbkhmofhdbjpcaaGreatDoor
