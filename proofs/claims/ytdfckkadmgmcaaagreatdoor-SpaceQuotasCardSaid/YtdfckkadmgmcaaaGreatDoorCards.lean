/-
  DERIVED. GIVEN WITH THE SEED: THE CARDS: each row of YtdfckkadmgmcaaaGreatDoorRows.lean that lists a variable, with what it lists TIED to the program's text (the seventh form; the later family's looks); each row that meets fmt, with fmt's text TOLD by the authors' own Lean function (tested against real Go, not proved from fmt's source: count such statements apart). THE CARD IS WHAT COUNTS. Prove the row's statement (the work); the ties are given (YtdfckkadmgmcaaaGreatDoorTie.lean); close each card by the builder's one call (the guide's Derived/Test/ToyasCard.lean, 'card_holds'). Laid BY PROGRAM, IN A SANDBOX (cutbox-door.mjs). By AI agents, Wed Nov 11 2026. No macro, syntax, notation, axiom, sorry.
-/
import Derived.Test.YtdfckkadmgmcaaaGreatDoorRows
import GoSem.ClaimSeven
namespace Go.Proofs.YtdfckkadmgmcaaaGreatDoor
namespace Rows

/-- THE TIED CARD OF 'tabulariumlaw11.SpaceEdits'. -/
def spaceEditsCard : Claim7 := { stood := { row := spaceEditsRow, standIns := [], harness := (true, "c426e8ea9c765d42b1a8f977acd7035a95cd40432c6fecdc94bbde43d213cd2e"), looks := true }, kinds := [], alts := [], laidByText := true, laidKinds := [.data, .pinned], laidTests := true, laidLooks := .later }
def SpaceEditsCardSaid : Prop := Claim7.holds Tryz.pinned (.plain (OpenSpec.ofChange spaceEditsSpec)) spaceEditsCard

/-- THE TIED CARD OF 'tabulariumlaw11.SpaceAny'. -/
def spaceAnyCard : Claim7 := { stood := { row := spaceAnyRow, standIns := [], harness := (true, "c426e8ea9c765d42b1a8f977acd7035a95cd40432c6fecdc94bbde43d213cd2e"), looks := true }, kinds := [], alts := [], laidByText := true, laidKinds := [.data, .pinned], laidTests := true, laidLooks := .later }
def SpaceAnyCardSaid : Prop := Claim7.holds Tryz.pinned (.plain (OpenSpec.ofChange spaceAnySpec)) spaceAnyCard

/-- THE TIED CARD OF 'tabulariumlaw11.SpaceStays'. -/
def spaceStaysCard : Claim7 := { stood := { row := spaceStaysRow, standIns := [], harness := (true, "c426e8ea9c765d42b1a8f977acd7035a95cd40432c6fecdc94bbde43d213cd2e"), looks := true }, kinds := [], alts := [], laidByText := true, laidKinds := [.data, .pinned], laidTests := true, laidLooks := .later }
def SpaceStaysCardSaid : Prop := Claim7.holds Tryz.pinned (.plain (OpenSpec.ofChange spaceStaysSpec)) spaceStaysCard

/-- THE TIED CARD OF 'tabulariumlaw11.SpaceQuotas'. -/
def spaceQuotasCard : Claim7 := { stood := { row := spaceQuotasRow, standIns := [], harness := (true, "c426e8ea9c765d42b1a8f977acd7035a95cd40432c6fecdc94bbde43d213cd2e"), looks := true }, kinds := [], alts := [], laidByText := true, laidKinds := [.data, .pinned], laidTests := true, laidLooks := .later }
def SpaceQuotasCardSaid : Prop := Claim7.holds Tryz.pinned (.plain (OpenSpec.ofChange spaceQuotasSpec)) spaceQuotasCard

/-- THE TIED CARD OF 'tabulariumlaw11.SpaceLeases'. -/
def spaceLeasesCard : Claim7 := { stood := { row := spaceLeasesRow, standIns := [], harness := (true, "c426e8ea9c765d42b1a8f977acd7035a95cd40432c6fecdc94bbde43d213cd2e"), looks := true }, kinds := [], alts := [], laidByText := true, laidKinds := [.data, .pinned], laidTests := true, laidLooks := .later }
def SpaceLeasesCardSaid : Prop := Claim7.holds Tryz.pinned (.plain (OpenSpec.ofChange spaceLeasesSpec)) spaceLeasesCard

/-- THE TIED CARD OF 'tabulariumlaw11.SpaceFolds'. -/
def spaceFoldsCard : Claim7 := { stood := { row := spaceFoldsRow, standIns := [], harness := (true, "c426e8ea9c765d42b1a8f977acd7035a95cd40432c6fecdc94bbde43d213cd2e"), looks := true }, kinds := [], alts := [], laidByText := true, laidKinds := [.data, .pinned], laidTests := true, laidLooks := .later }
def SpaceFoldsCardSaid : Prop := Claim7.holds Tryz.pinned (.plain (OpenSpec.ofChange spaceFoldsSpec)) spaceFoldsCard

/-- THE TIED CARD OF 'tabulariumlaw11.SpaceWrites'. -/
def spaceWritesCard : Claim7 := { stood := { row := spaceWritesRow, standIns := [], harness := (true, "c426e8ea9c765d42b1a8f977acd7035a95cd40432c6fecdc94bbde43d213cd2e"), looks := true }, kinds := [], alts := [], laidByText := true, laidKinds := [.data, .pinned], laidTests := true, laidLooks := .later }
def SpaceWritesCardSaid : Prop := Claim7.holds Tryz.pinned (.plain (OpenSpec.ofChange spaceWritesSpec)) spaceWritesCard

/-- THE TIED CARD OF 'tabulariumlaw11.SpaceMoves'. -/
def spaceMovesCard : Claim7 := { stood := { row := spaceMovesRow, standIns := [], harness := (true, "c426e8ea9c765d42b1a8f977acd7035a95cd40432c6fecdc94bbde43d213cd2e"), looks := true }, kinds := [], alts := [], laidByText := true, laidKinds := [.data, .pinned], laidTests := true, laidLooks := .later }
def SpaceMovesCardSaid : Prop := Claim7.holds Tryz.pinned (.plain (OpenSpec.ofChange spaceMovesSpec)) spaceMovesCard

/-- THE TIED CARD OF 'tabulariumlaw12.ImageBack'. -/
def imageBackCard : Claim7 := { stood := { row := imageBackRow, standIns := [], harness := (true, "c426e8ea9c765d42b1a8f977acd7035a95cd40432c6fecdc94bbde43d213cd2e"), looks := true }, kinds := [], alts := [], laidByText := true, laidKinds := [.data, .pinned], laidTests := true, laidLooks := .later }
def ImageBackCardSaid : Prop := Claim7.holds Tryz.pinned (.plain (OpenSpec.ofChange imageBackSpec)) imageBackCard

/-- THE TIED CARD OF 'tabulariumlaw12.ImageBit'. -/
def imageBitCard : Claim7 := { stood := { row := imageBitRow, standIns := [], harness := (true, "c426e8ea9c765d42b1a8f977acd7035a95cd40432c6fecdc94bbde43d213cd2e"), looks := true }, kinds := [], alts := [], laidByText := true, laidKinds := [.data, .pinned], laidTests := true, laidLooks := .later }
def ImageBitCardSaid : Prop := Claim7.holds Tryz.pinned (.plain (OpenSpec.ofChange imageBitSpec)) imageBitCard

/-- THE TIED CARD OF 'tabulariumlaw12.ImageApart'. -/
def imageApartCard : Claim7 := { stood := { row := imageApartRow, standIns := [], harness := (true, "c426e8ea9c765d42b1a8f977acd7035a95cd40432c6fecdc94bbde43d213cd2e"), looks := true }, kinds := [], alts := [], laidByText := true, laidKinds := [.data, .pinned], laidTests := true, laidLooks := .later }
def ImageApartCardSaid : Prop := Claim7.holds Tryz.pinned (.plain (OpenSpec.ofChange imageApartSpec)) imageApartCard

/-- THE TIED CARD OF 'tabulariumlaw11.SpaceAsks'. -/
def spaceAsksCard : Claim7 := { stood := { row := spaceAsksRow, standIns := [], harness := (true, "c426e8ea9c765d42b1a8f977acd7035a95cd40432c6fecdc94bbde43d213cd2e"), looks := true }, kinds := [], alts := [], laidByText := true, laidKinds := [.data, .pinned], laidTests := true, laidLooks := .later }
def SpaceAsksCardSaid : Prop := Claim7.holds Tryz.pinned (.plain (OpenSpec.ofChange spaceAsksSpec)) spaceAsksCard

/-- THE SECOND FORM's CARD OF 'tabulariumlaw11.SpaceEdits'. -/
def spaceEditsUptoCard : Claim7 := { stood := { row := spaceEditsUptoRow, standIns := [], harness := (true, "c426e8ea9c765d42b1a8f977acd7035a95cd40432c6fecdc94bbde43d213cd2e"), looks := true }, kinds := [], alts := [], laidByText := true, laidKinds := [.data, .pinned], laidTests := true, laidLooks := .later }
def SpaceEditsUptoCardSaid : Prop := Claim7.holds Tryz.pinned (.plain (OpenSpec.upto spaceEditsSpec)) spaceEditsUptoCard

/-- THE SECOND FORM's CARD OF 'tabulariumlaw11.SpaceAny'. -/
def spaceAnyUptoCard : Claim7 := { stood := { row := spaceAnyUptoRow, standIns := [], harness := (true, "c426e8ea9c765d42b1a8f977acd7035a95cd40432c6fecdc94bbde43d213cd2e"), looks := true }, kinds := [], alts := [], laidByText := true, laidKinds := [.data, .pinned], laidTests := true, laidLooks := .later }
def SpaceAnyUptoCardSaid : Prop := Claim7.holds Tryz.pinned (.plain (OpenSpec.upto spaceAnySpec)) spaceAnyUptoCard

/-- THE SECOND FORM's CARD OF 'tabulariumlaw11.SpaceStays'. -/
def spaceStaysUptoCard : Claim7 := { stood := { row := spaceStaysUptoRow, standIns := [], harness := (true, "c426e8ea9c765d42b1a8f977acd7035a95cd40432c6fecdc94bbde43d213cd2e"), looks := true }, kinds := [], alts := [], laidByText := true, laidKinds := [.data, .pinned], laidTests := true, laidLooks := .later }
def SpaceStaysUptoCardSaid : Prop := Claim7.holds Tryz.pinned (.plain (OpenSpec.upto spaceStaysSpec)) spaceStaysUptoCard

/-- THE SECOND FORM's CARD OF 'tabulariumlaw11.SpaceQuotas'. -/
def spaceQuotasUptoCard : Claim7 := { stood := { row := spaceQuotasUptoRow, standIns := [], harness := (true, "c426e8ea9c765d42b1a8f977acd7035a95cd40432c6fecdc94bbde43d213cd2e"), looks := true }, kinds := [], alts := [], laidByText := true, laidKinds := [.data, .pinned], laidTests := true, laidLooks := .later }
def SpaceQuotasUptoCardSaid : Prop := Claim7.holds Tryz.pinned (.plain (OpenSpec.upto spaceQuotasSpec)) spaceQuotasUptoCard

/-- THE SECOND FORM's CARD OF 'tabulariumlaw11.SpaceLeases'. -/
def spaceLeasesUptoCard : Claim7 := { stood := { row := spaceLeasesUptoRow, standIns := [], harness := (true, "c426e8ea9c765d42b1a8f977acd7035a95cd40432c6fecdc94bbde43d213cd2e"), looks := true }, kinds := [], alts := [], laidByText := true, laidKinds := [.data, .pinned], laidTests := true, laidLooks := .later }
def SpaceLeasesUptoCardSaid : Prop := Claim7.holds Tryz.pinned (.plain (OpenSpec.upto spaceLeasesSpec)) spaceLeasesUptoCard

/-- THE SECOND FORM's CARD OF 'tabulariumlaw11.SpaceFolds'. -/
def spaceFoldsUptoCard : Claim7 := { stood := { row := spaceFoldsUptoRow, standIns := [], harness := (true, "c426e8ea9c765d42b1a8f977acd7035a95cd40432c6fecdc94bbde43d213cd2e"), looks := true }, kinds := [], alts := [], laidByText := true, laidKinds := [.data, .pinned], laidTests := true, laidLooks := .later }
def SpaceFoldsUptoCardSaid : Prop := Claim7.holds Tryz.pinned (.plain (OpenSpec.upto spaceFoldsSpec)) spaceFoldsUptoCard

/-- THE SECOND FORM's CARD OF 'tabulariumlaw11.SpaceWrites'. -/
def spaceWritesUptoCard : Claim7 := { stood := { row := spaceWritesUptoRow, standIns := [], harness := (true, "c426e8ea9c765d42b1a8f977acd7035a95cd40432c6fecdc94bbde43d213cd2e"), looks := true }, kinds := [], alts := [], laidByText := true, laidKinds := [.data, .pinned], laidTests := true, laidLooks := .later }
def SpaceWritesUptoCardSaid : Prop := Claim7.holds Tryz.pinned (.plain (OpenSpec.upto spaceWritesSpec)) spaceWritesUptoCard

/-- THE SECOND FORM's CARD OF 'tabulariumlaw11.SpaceMoves'. -/
def spaceMovesUptoCard : Claim7 := { stood := { row := spaceMovesUptoRow, standIns := [], harness := (true, "c426e8ea9c765d42b1a8f977acd7035a95cd40432c6fecdc94bbde43d213cd2e"), looks := true }, kinds := [], alts := [], laidByText := true, laidKinds := [.data, .pinned], laidTests := true, laidLooks := .later }
def SpaceMovesUptoCardSaid : Prop := Claim7.holds Tryz.pinned (.plain (OpenSpec.upto spaceMovesSpec)) spaceMovesUptoCard

/-- THE SECOND FORM's CARD OF 'tabulariumlaw12.ImageBack'. -/
def imageBackUptoCard : Claim7 := { stood := { row := imageBackUptoRow, standIns := [], harness := (true, "c426e8ea9c765d42b1a8f977acd7035a95cd40432c6fecdc94bbde43d213cd2e"), looks := true }, kinds := [], alts := [], laidByText := true, laidKinds := [.data, .pinned], laidTests := true, laidLooks := .later }
def ImageBackUptoCardSaid : Prop := Claim7.holds Tryz.pinned (.plain (OpenSpec.upto imageBackSpec)) imageBackUptoCard

/-- THE SECOND FORM's CARD OF 'tabulariumlaw12.ImageBit'. -/
def imageBitUptoCard : Claim7 := { stood := { row := imageBitUptoRow, standIns := [], harness := (true, "c426e8ea9c765d42b1a8f977acd7035a95cd40432c6fecdc94bbde43d213cd2e"), looks := true }, kinds := [], alts := [], laidByText := true, laidKinds := [.data, .pinned], laidTests := true, laidLooks := .later }
def ImageBitUptoCardSaid : Prop := Claim7.holds Tryz.pinned (.plain (OpenSpec.upto imageBitSpec)) imageBitUptoCard

/-- THE SECOND FORM's CARD OF 'tabulariumlaw12.ImageApart'. -/
def imageApartUptoCard : Claim7 := { stood := { row := imageApartUptoRow, standIns := [], harness := (true, "c426e8ea9c765d42b1a8f977acd7035a95cd40432c6fecdc94bbde43d213cd2e"), looks := true }, kinds := [], alts := [], laidByText := true, laidKinds := [.data, .pinned], laidTests := true, laidLooks := .later }
def ImageApartUptoCardSaid : Prop := Claim7.holds Tryz.pinned (.plain (OpenSpec.upto imageApartSpec)) imageApartUptoCard

/-- THE SECOND FORM's CARD OF 'tabulariumlaw11.SpaceAsks'. -/
def spaceAsksUptoCard : Claim7 := { stood := { row := spaceAsksUptoRow, standIns := [], harness := (true, "c426e8ea9c765d42b1a8f977acd7035a95cd40432c6fecdc94bbde43d213cd2e"), looks := true }, kinds := [], alts := [], laidByText := true, laidKinds := [.data, .pinned], laidTests := true, laidLooks := .later }
def SpaceAsksUptoCardSaid : Prop := Claim7.holds Tryz.pinned (.plain (OpenSpec.upto spaceAsksSpec)) spaceAsksUptoCard
end Rows
end Go.Proofs.YtdfckkadmgmcaaaGreatDoor
