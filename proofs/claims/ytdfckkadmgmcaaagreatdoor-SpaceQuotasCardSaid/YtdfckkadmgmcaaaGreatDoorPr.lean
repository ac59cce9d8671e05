/- The world of the witnesses: the two tables that the rows list hold what their texts lay. -/
import Derived.Test.YtdfckkadmgmcaaaGreatDoorCards
import Derived.Test.YtdfckkadmgmcaaaGreatDoorTie
import Derived.Test.YtdfckkadmgmcaaaGreatDoorSh
import Derived.Test.YtdfckkadmgmcaaaGreatDoorGa
import Derived.WalkKit
import Derived.ProofKit
import Derived.Deep.DeepHandedRow
import Derived.Lib.LaidTab
import Derived.Lib.LaidU8
import Derived.PinnedBridge
namespace Go.Proofs.YtdfckkadmgmcaaaGreatDoor
open Go.ChangeShapes Go.WideShapes Go.ChangeAt Go.RowKit

noncomputable def putCells (h : Array Obj) (g : Nat) (cs : Array Value) : Array Obj := h.modify g fun
  | .cells _ t frozen => .cells cs t frozen
  | o => o
noncomputable def laidWorld (os : Os) : World :=
  { World.holding Tryz.prog os ⟨#[], #[], []⟩ with heap := putCells (putCells (World.holding Tryz.prog os ⟨#[], #[], []⟩).heap 1 (Lib.firstTab.map fun z => Value.int .u8 z).toArray) 2 ((List.range 16).flatMap fun i => [Value.int .u8 (Lib.accLo i), Value.int .u8 (Lib.accHi i)]).toArray }
theorem laid_met (os : Os) (args : Array Value) : laidMet Tryz.prog [("unicode/utf8.acceptRanges", Rows.laid_unicode_utf8_acceptRanges), ("unicode/utf8.first", Rows.laid_unicode_utf8_first)] ((laidWorld os).forCall (fun _ _ => 0) ⟨#[], args, []⟩).memory :=
  laidMet_of_run' 8 (by kernel_rfl) (by kernel_rfl)
theorem maxC {W : World} (h : W.ShapedOpen Tryz.prog) : Path.MaxC W := ⟨Tryz.laysM146.s1_3 W h⟩
end Go.Proofs.YtdfckkadmgmcaaaGreatDoor
