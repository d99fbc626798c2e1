/- The row's facts, by computation. -/
import Derived.Test.YtodhhjcgjkfmpaaRows
import Derived.JoinedOf
namespace Go.Proofs.Ytodhhjcgjkfmpaa
open Go.ChangeShapes
theorem f8_closed : joinedFacts Try.pinned.checked.prog 8 Try.f8 Rows.fnExactCoverSharedSpec Rows.fnExactCoverSharedRow = true := by kernel_rfl
end Go.Proofs.Ytodhhjcgjkfmpaa
