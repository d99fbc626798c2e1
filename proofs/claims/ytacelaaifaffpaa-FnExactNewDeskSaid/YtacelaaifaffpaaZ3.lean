/- The row's facts, by computation. -/
import Derived.Test.YtacelaaifaffpaaRows
import Derived.JoinedOf
namespace Go.Proofs.Ytacelaaifaffpaa
open Go.ChangeShapes
theorem f3_closed : joinedFacts Try.pinned.checked.prog 3 Try.f3 Rows.fnExactNewDeskSpec Rows.fnExactNewDeskRow = true := by kernel_rfl
end Go.Proofs.Ytacelaaifaffpaa
