/- The row's facts, by computation. -/
import Derived.Test.YtkmcgfjhjfiomaaRows
import Derived.JoinedOf
namespace Go.Proofs.Ytkmcgfjhjfiomaa
open Go.ChangeShapes
theorem f4_closed : joinedFacts Try.pinned.checked.prog 4 Try.f4 Rows.fnPullsSpec Rows.fnPullsRow = true := by kernel_rfl
end Go.Proofs.Ytkmcgfjhjfiomaa
