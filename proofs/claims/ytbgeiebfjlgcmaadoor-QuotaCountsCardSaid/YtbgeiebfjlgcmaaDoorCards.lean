/-
  DERIVED. GIVEN WITH THE SEED: THE CARDS: each row of YtbgeiebfjlgcmaaDoorRows.lean that lists a variable, with what it lists TIED to the program's text (the seventh form; the later family's looks); each row that meets fmt, with fmt's text TOLD by the authors' own Lean function (tested against real Go, not proved from fmt's source: count such statements apart). THE CARD IS WHAT COUNTS. Prove the row's statement (the work); the ties are given (YtbgeiebfjlgcmaaDoorTie.lean); close each card by the builder's one call (the guide's Derived/Test/ToyasCard.lean, 'card_holds'). Laid BY PROGRAM, IN A SANDBOX (cutbox-door.mjs). By AI agents, Wed Nov 11 2026. No macro, syntax, notation, axiom, sorry.
-/
import Derived.Test.YtbgeiebfjlgcmaaDoorRows
import GoSem.ClaimSeven
namespace Go.Proofs.YtbgeiebfjlgcmaaDoor
namespace Rows

/-- THE TIED CARD OF 'tabulariumlaw06.PathSplits'. -/
def pathSplitsCard : Claim7 := { stood := { row := pathSplitsRow, standIns := [], harness := (true, "db06a4fde8fe235b86a22ad3ccf6549a2e70912e61bed1b3239b22b3e8f41273"), looks := false }, kinds := [], alts := [], laidByText := true, laidKinds := [.data, .pinned], laidTests := true, laidLooks := .later }
def PathSplitsCardSaid : Prop := Claim7.holds Tryd.pinned (.plain (OpenSpec.ofChange pathSplitsSpec)) pathSplitsCard

/-- THE TIED CARD OF 'tabulariumlaw06.PathBack'. -/
def pathBackCard : Claim7 := { stood := { row := pathBackRow, standIns := [], harness := (true, "db06a4fde8fe235b86a22ad3ccf6549a2e70912e61bed1b3239b22b3e8f41273"), looks := false }, kinds := [], alts := [], laidByText := true, laidKinds := [.data, .pinned], laidTests := true, laidLooks := .later }
def PathBackCardSaid : Prop := Claim7.holds Tryd.pinned (.plain (OpenSpec.ofChange pathBackSpec)) pathBackCard

/-- THE TIED CARD OF 'tabulariumlaw06.PathMoves'. -/
def pathMovesCard : Claim7 := { stood := { row := pathMovesRow, standIns := [], harness := (true, "db06a4fde8fe235b86a22ad3ccf6549a2e70912e61bed1b3239b22b3e8f41273"), looks := false }, kinds := [], alts := [], laidByText := true, laidKinds := [.data, .pinned], laidTests := true, laidLooks := .later }
def PathMovesCardSaid : Prop := Claim7.holds Tryd.pinned (.plain (OpenSpec.ofChange pathMovesSpec)) pathMovesCard

/-- THE TIED CARD OF 'tabulariumlaw08.QuotaTells'. -/
def quotaTellsCard : Claim7 := { stood := { row := quotaTellsRow, standIns := [], harness := (true, "db06a4fde8fe235b86a22ad3ccf6549a2e70912e61bed1b3239b22b3e8f41273"), looks := false }, kinds := [], alts := [], laidByText := true, laidKinds := [.data, .pinned], laidTests := true, laidLooks := .later }
def QuotaTellsCardSaid : Prop := Claim7.holds Tryd.pinned (.plain (OpenSpec.ofChange quotaTellsSpec)) quotaTellsCard

/-- THE TIED CARD OF 'tabulariumlaw08.QuotaNone'. -/
def quotaNoneCard : Claim7 := { stood := { row := quotaNoneRow, standIns := [], harness := (true, "db06a4fde8fe235b86a22ad3ccf6549a2e70912e61bed1b3239b22b3e8f41273"), looks := false }, kinds := [], alts := [], laidByText := true, laidKinds := [.data, .pinned], laidTests := true, laidLooks := .later }
def QuotaNoneCardSaid : Prop := Claim7.holds Tryd.pinned (.plain (OpenSpec.ofChange quotaNoneSpec)) quotaNoneCard

/-- THE TIED CARD OF 'tabulariumlaw08.QuotaLess'. -/
def quotaLessCard : Claim7 := { stood := { row := quotaLessRow, standIns := [], harness := (true, "db06a4fde8fe235b86a22ad3ccf6549a2e70912e61bed1b3239b22b3e8f41273"), looks := false }, kinds := [], alts := [], laidByText := true, laidKinds := [.data, .pinned], laidTests := true, laidLooks := .later }
def QuotaLessCardSaid : Prop := Claim7.holds Tryd.pinned (.plain (OpenSpec.ofChange quotaLessSpec)) quotaLessCard

/-- THE TIED CARD OF 'tabulariumlaw06.PathTells'. -/
def pathTellsCard : Claim7 := { stood := { row := pathTellsRow, standIns := [], harness := (true, "db06a4fde8fe235b86a22ad3ccf6549a2e70912e61bed1b3239b22b3e8f41273"), looks := false }, kinds := [], alts := [], laidByText := true, laidKinds := [.data, .pinned], laidTests := true, laidLooks := .later }
def PathTellsCardSaid : Prop := Claim7.holds Tryd.pinned (.plain (OpenSpec.ofChange pathTellsSpec)) pathTellsCard

/-- THE TIED CARD OF 'tabulariumlaw06.PathUnder'. -/
def pathUnderCard : Claim7 := { stood := { row := pathUnderRow, standIns := [], harness := (true, "db06a4fde8fe235b86a22ad3ccf6549a2e70912e61bed1b3239b22b3e8f41273"), looks := false }, kinds := [], alts := [], laidByText := true, laidKinds := [.data, .pinned], laidTests := true, laidLooks := .later }
def PathUnderCardSaid : Prop := Claim7.holds Tryd.pinned (.plain (OpenSpec.ofChange pathUnderSpec)) pathUnderCard

/-- THE TIED CARD OF 'tabulariumlaw06.PathParents'. -/
def pathParentsCard : Claim7 := { stood := { row := pathParentsRow, standIns := [], harness := (true, "db06a4fde8fe235b86a22ad3ccf6549a2e70912e61bed1b3239b22b3e8f41273"), looks := false }, kinds := [], alts := [], laidByText := true, laidKinds := [.data, .pinned], laidTests := true, laidLooks := .later }
def PathParentsCardSaid : Prop := Claim7.holds Tryd.pinned (.plain (OpenSpec.ofChange pathParentsSpec)) pathParentsCard

/-- THE TIED CARD OF 'tabulariumlaw08.QuotaCounts'. -/
def quotaCountsCard : Claim7 := { stood := { row := quotaCountsRow, standIns := [], harness := (true, "db06a4fde8fe235b86a22ad3ccf6549a2e70912e61bed1b3239b22b3e8f41273"), looks := false }, kinds := [], alts := [], laidByText := true, laidKinds := [.data, .pinned], laidTests := true, laidLooks := .later }
def QuotaCountsCardSaid : Prop := Claim7.holds Tryd.pinned (.plain (OpenSpec.ofChange quotaCountsSpec)) quotaCountsCard

/-- THE SECOND FORM's CARD OF 'tabulariumlaw06.PathSplits'. -/
def pathSplitsUptoCard : Claim7 := { stood := { row := pathSplitsUptoRow, standIns := [], harness := (true, "db06a4fde8fe235b86a22ad3ccf6549a2e70912e61bed1b3239b22b3e8f41273"), looks := false }, kinds := [], alts := [], laidByText := true, laidKinds := [.data, .pinned], laidTests := true, laidLooks := .later }
def PathSplitsUptoCardSaid : Prop := Claim7.holds Tryd.pinned (.plain (OpenSpec.upto pathSplitsSpec)) pathSplitsUptoCard

/-- THE SECOND FORM's CARD OF 'tabulariumlaw06.PathBack'. -/
def pathBackUptoCard : Claim7 := { stood := { row := pathBackUptoRow, standIns := [], harness := (true, "db06a4fde8fe235b86a22ad3ccf6549a2e70912e61bed1b3239b22b3e8f41273"), looks := false }, kinds := [], alts := [], laidByText := true, laidKinds := [.data, .pinned], laidTests := true, laidLooks := .later }
def PathBackUptoCardSaid : Prop := Claim7.holds Tryd.pinned (.plain (OpenSpec.upto pathBackSpec)) pathBackUptoCard

/-- THE SECOND FORM's CARD OF 'tabulariumlaw06.PathMoves'. -/
def pathMovesUptoCard : Claim7 := { stood := { row := pathMovesUptoRow, standIns := [], harness := (true, "db06a4fde8fe235b86a22ad3ccf6549a2e70912e61bed1b3239b22b3e8f41273"), looks := false }, kinds := [], alts := [], laidByText := true, laidKinds := [.data, .pinned], laidTests := true, laidLooks := .later }
def PathMovesUptoCardSaid : Prop := Claim7.holds Tryd.pinned (.plain (OpenSpec.upto pathMovesSpec)) pathMovesUptoCard

/-- THE SECOND FORM's CARD OF 'tabulariumlaw08.QuotaTells'. -/
def quotaTellsUptoCard : Claim7 := { stood := { row := quotaTellsUptoRow, standIns := [], harness := (true, "db06a4fde8fe235b86a22ad3ccf6549a2e70912e61bed1b3239b22b3e8f41273"), looks := false }, kinds := [], alts := [], laidByText := true, laidKinds := [.data, .pinned], laidTests := true, laidLooks := .later }
def QuotaTellsUptoCardSaid : Prop := Claim7.holds Tryd.pinned (.plain (OpenSpec.upto quotaTellsSpec)) quotaTellsUptoCard

/-- THE SECOND FORM's CARD OF 'tabulariumlaw08.QuotaNone'. -/
def quotaNoneUptoCard : Claim7 := { stood := { row := quotaNoneUptoRow, standIns := [], harness := (true, "db06a4fde8fe235b86a22ad3ccf6549a2e70912e61bed1b3239b22b3e8f41273"), looks := false }, kinds := [], alts := [], laidByText := true, laidKinds := [.data, .pinned], laidTests := true, laidLooks := .later }
def QuotaNoneUptoCardSaid : Prop := Claim7.holds Tryd.pinned (.plain (OpenSpec.upto quotaNoneSpec)) quotaNoneUptoCard

/-- THE SECOND FORM's CARD OF 'tabulariumlaw08.QuotaLess'. -/
def quotaLessUptoCard : Claim7 := { stood := { row := quotaLessUptoRow, standIns := [], harness := (true, "db06a4fde8fe235b86a22ad3ccf6549a2e70912e61bed1b3239b22b3e8f41273"), looks := false }, kinds := [], alts := [], laidByText := true, laidKinds := [.data, .pinned], laidTests := true, laidLooks := .later }
def QuotaLessUptoCardSaid : Prop := Claim7.holds Tryd.pinned (.plain (OpenSpec.upto quotaLessSpec)) quotaLessUptoCard

/-- THE SECOND FORM's CARD OF 'tabulariumlaw06.PathTells'. -/
def pathTellsUptoCard : Claim7 := { stood := { row := pathTellsUptoRow, standIns := [], harness := (true, "db06a4fde8fe235b86a22ad3ccf6549a2e70912e61bed1b3239b22b3e8f41273"), looks := false }, kinds := [], alts := [], laidByText := true, laidKinds := [.data, .pinned], laidTests := true, laidLooks := .later }
def PathTellsUptoCardSaid : Prop := Claim7.holds Tryd.pinned (.plain (OpenSpec.upto pathTellsSpec)) pathTellsUptoCard

/-- THE SECOND FORM's CARD OF 'tabulariumlaw06.PathUnder'. -/
def pathUnderUptoCard : Claim7 := { stood := { row := pathUnderUptoRow, standIns := [], harness := (true, "db06a4fde8fe235b86a22ad3ccf6549a2e70912e61bed1b3239b22b3e8f41273"), looks := false }, kinds := [], alts := [], laidByText := true, laidKinds := [.data, .pinned], laidTests := true, laidLooks := .later }
def PathUnderUptoCardSaid : Prop := Claim7.holds Tryd.pinned (.plain (OpenSpec.upto pathUnderSpec)) pathUnderUptoCard

/-- THE SECOND FORM's CARD OF 'tabulariumlaw06.PathParents'. -/
def pathParentsUptoCard : Claim7 := { stood := { row := pathParentsUptoRow, standIns := [], harness := (true, "db06a4fde8fe235b86a22ad3ccf6549a2e70912e61bed1b3239b22b3e8f41273"), looks := false }, kinds := [], alts := [], laidByText := true, laidKinds := [.data, .pinned], laidTests := true, laidLooks := .later }
def PathParentsUptoCardSaid : Prop := Claim7.holds Tryd.pinned (.plain (OpenSpec.upto pathParentsSpec)) pathParentsUptoCard

/-- THE SECOND FORM's CARD OF 'tabulariumlaw08.QuotaCounts'. -/
def quotaCountsUptoCard : Claim7 := { stood := { row := quotaCountsUptoRow, standIns := [], harness := (true, "db06a4fde8fe235b86a22ad3ccf6549a2e70912e61bed1b3239b22b3e8f41273"), looks := false }, kinds := [], alts := [], laidByText := true, laidKinds := [.data, .pinned], laidTests := true, laidLooks := .later }
def QuotaCountsUptoCardSaid : Prop := Claim7.holds Tryd.pinned (.plain (OpenSpec.upto quotaCountsSpec)) quotaCountsUptoCard
end Rows
end Go.Proofs.YtbgeiebfjlgcmaaDoor
