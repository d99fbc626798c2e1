/- The row's facts, by computation. -/
import Derived.Test.YtodhhjcgjkfmpaaRows
import Derived.JoinedOf
namespace Go.Proofs.Ytodhhjcgjkfmpaa
open Go.ChangeShapes
theorem f12_closed : joinedFacts Try.pinned.checked.prog 12 Try.f12 Rows.fnExactNearestPassSpec Rows.fnExactNearestPassRow = true := by kernel_rfl
end Go.Proofs.Ytodhhjcgjkfmpaa
