/- The row's facts, by computation. -/
import Derived.Test.YtodhhjcgjkfmpaaRows
import Derived.JoinedOf
namespace Go.Proofs.Ytodhhjcgjkfmpaa
open Go.ChangeShapes
theorem f9_closed : joinedFacts Try.pinned.checked.prog 9 Try.f9 Rows.fnExactStepBodiesSpec Rows.fnExactStepBodiesRow = true := by kernel_rfl
end Go.Proofs.Ytodhhjcgjkfmpaa
