/- The row's facts, by computation. -/
import Derived.Test.YtkmcgfjhjfiomaaRows
import Derived.JoinedOf
namespace Go.Proofs.Ytkmcgfjhjfiomaa
open Go.ChangeShapes
theorem f3_closed : joinedFacts Try.pinned.checked.prog 3 Try.f3 Rows.fnPassesSpec Rows.fnPassesRow = true := by kernel_rfl
end Go.Proofs.Ytkmcgfjhjfiomaa
