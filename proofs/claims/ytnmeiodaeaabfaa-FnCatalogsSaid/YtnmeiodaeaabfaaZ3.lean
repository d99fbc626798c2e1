/- The row's facts, by computation. -/
import Derived.Test.YtnmeiodaeaabfaaRows
import Derived.JoinedOf
namespace Go.Proofs.Ytnmeiodaeaabfaa
open Go.ChangeShapes
theorem f3_closed : joinedFacts Try.pinned.checked.prog 3 Try.f3 Rows.fnCatalogsSpec Rows.fnCatalogsRow = true := by kernel_rfl
end Go.Proofs.Ytnmeiodaeaabfaa
