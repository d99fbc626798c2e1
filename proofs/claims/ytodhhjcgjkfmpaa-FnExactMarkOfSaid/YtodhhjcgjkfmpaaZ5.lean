/- The row's facts, by computation. -/
import Derived.Test.YtodhhjcgjkfmpaaRows
import Derived.JoinedOf
namespace Go.Proofs.Ytodhhjcgjkfmpaa
open Go.ChangeShapes
theorem f5_closed : joinedFacts Try.pinned.checked.prog 5 Try.f5 Rows.fnExactMarkOfSpec Rows.fnExactMarkOfRow = true := by kernel_rfl
end Go.Proofs.Ytodhhjcgjkfmpaa
