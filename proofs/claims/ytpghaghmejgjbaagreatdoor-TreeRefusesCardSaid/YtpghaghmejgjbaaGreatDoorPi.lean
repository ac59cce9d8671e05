/- Paths: a world whose orders have been drawn. -/
import Derived.Test.YtpghaghmejgjbaaGreatDoorPh
namespace Go.Proofs.YtpghaghmejgjbaaGreatDoor.Path
open Go.RowKit
theorem below_drewN (w : World) (n : Nat) : Below w.heap.size w (w.drewN n) := ⟨rfl, rfl, rfl, Nat.le_refl _, fun _ _ => rfl⟩
end Go.Proofs.YtpghaghmejgjbaaGreatDoor.Path
