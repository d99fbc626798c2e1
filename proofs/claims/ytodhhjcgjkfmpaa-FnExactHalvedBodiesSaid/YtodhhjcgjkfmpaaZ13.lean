/- The row's facts, by computation. -/
import Derived.Test.YtodhhjcgjkfmpaaRows
import Derived.JoinedOf
namespace Go.Proofs.Ytodhhjcgjkfmpaa
open Go.ChangeShapes
theorem f13_closed : joinedFacts Try.pinned.checked.prog 13 Try.f13 Rows.fnExactHalvedBodiesSpec Rows.fnExactHalvedBodiesRow = true := by kernel_rfl
end Go.Proofs.Ytodhhjcgjkfmpaa
