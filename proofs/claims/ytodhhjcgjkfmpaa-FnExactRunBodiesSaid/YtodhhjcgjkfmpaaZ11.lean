/- The row's facts, by computation. -/
import Derived.Test.YtodhhjcgjkfmpaaRows
import Derived.JoinedOf
namespace Go.Proofs.Ytodhhjcgjkfmpaa
open Go.ChangeShapes
theorem f11_closed : joinedFacts Try.pinned.checked.prog 11 Try.f11 Rows.fnExactRunBodiesSpec Rows.fnExactRunBodiesRow = true := by kernel_rfl
end Go.Proofs.Ytodhhjcgjkfmpaa
