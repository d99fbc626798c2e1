/- The row's facts, by computation. -/
import Derived.Test.YtacelaaifaffpaaDoorRows
import Derived.JoinedOf
namespace Go.Proofs.YtacelaaifaffpaaDoor
open Go.ChangeShapes
theorem f3_closed : joinedFacts Tryd.pinned.checked.prog 3 Tryd.f3 Rows.fnExactReadShipSpec Rows.fnExactReadShipRow = true := by kernel_rfl
end Go.Proofs.YtacelaaifaffpaaDoor
