/- The closed facts of the statement SpaceQuotas' row (a text of its own: they take nearly all the memory that one process may have). -/
import Derived.Test.YtdfckkadmgmcaaaGreatDoorRows
import Derived.JoinedCond
namespace Go.Proofs.YtdfckkadmgmcaaaGreatDoor.spaceQuotas
open Go.ChangeShapes Go.WideShapes Go.ChangeAt
theorem closed : joinedFacts Tryz.pinned.checked.prog 6 Tryz.f6 (OpenSpec.ofChange Rows.spaceQuotasSpec).bare Rows.spaceQuotasRow = true := by kernel_rfl
end Go.Proofs.YtdfckkadmgmcaaaGreatDoor.spaceQuotas
