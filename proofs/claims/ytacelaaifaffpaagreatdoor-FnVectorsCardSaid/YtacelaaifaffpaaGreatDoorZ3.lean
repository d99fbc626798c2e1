/- The row's facts, by computation. -/
import Derived.Test.YtacelaaifaffpaaGreatDoorRows
import Derived.JoinedOf
namespace Go.Proofs.YtacelaaifaffpaaGreatDoor
open Go.ChangeShapes
theorem f3_closed : joinedFacts Tryz.pinned.checked.prog 3 Tryz.f3 Rows.fnVectorsSpec Rows.fnVectorsRow = true := by kernel_rfl
end Go.Proofs.YtacelaaifaffpaaGreatDoor
