/- The row's facts, by computation. -/
import Derived.Test.YtodhhjcgjkfmpaaRows
import Derived.JoinedOf
namespace Go.Proofs.Ytodhhjcgjkfmpaa
open Go.ChangeShapes
theorem f7_closed : joinedFacts Try.pinned.checked.prog 7 Try.f7 Rows.fnExactCoverOfSpec Rows.fnExactCoverOfRow = true := by kernel_rfl
end Go.Proofs.Ytodhhjcgjkfmpaa
