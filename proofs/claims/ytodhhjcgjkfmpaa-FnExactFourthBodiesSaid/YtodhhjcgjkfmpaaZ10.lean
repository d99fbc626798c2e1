/- The row's facts, by computation. -/
import Derived.Test.YtodhhjcgjkfmpaaRows
import Derived.JoinedOf
namespace Go.Proofs.Ytodhhjcgjkfmpaa
open Go.ChangeShapes
theorem f10_closed : joinedFacts Try.pinned.checked.prog 10 Try.f10 Rows.fnExactFourthBodiesSpec Rows.fnExactFourthBodiesRow = true := by kernel_rfl
end Go.Proofs.Ytodhhjcgjkfmpaa
