/- The closed facts of the statement SpaceLeases' row (a text of its own: they take nearly all the memory that one process may have). -/
import Derived.Test.YtdfckkadmgmcaaaGreatDoorRows
import Derived.JoinedCond
namespace Go.Proofs.YtdfckkadmgmcaaaGreatDoor.spaceLeases
open Go.ChangeShapes Go.WideShapes Go.ChangeAt
theorem closed : joinedFacts Tryz.pinned.checked.prog 7 Tryz.f7 (OpenSpec.ofChange Rows.spaceLeasesSpec).bare Rows.spaceLeasesRow = true := by kernel_rfl
end Go.Proofs.YtdfckkadmgmcaaaGreatDoor.spaceLeases
