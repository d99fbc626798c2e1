/- The row's facts, by computation. -/
import Derived.Test.YtodhhjcgjkfmpaaRows
import Derived.JoinedOf
namespace Go.Proofs.Ytodhhjcgjkfmpaa
open Go.ChangeShapes
theorem f3_closed : joinedFacts Try.pinned.checked.prog 3 Try.f3 Rows.fnExactRecoverEntriesSpec Rows.fnExactRecoverEntriesRow = true := by kernel_rfl
end Go.Proofs.Ytodhhjcgjkfmpaa
