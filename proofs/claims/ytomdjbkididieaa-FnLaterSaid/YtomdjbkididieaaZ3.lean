/- The row's facts, by computation. -/
import Derived.Test.YtomdjbkididieaaRows
import Derived.JoinedOf
namespace Go.Proofs.Ytomdjbkididieaa
open Go.ChangeShapes
theorem f3_closed : joinedFacts Try.pinned.checked.prog 3 Try.f3 Rows.fnLaterSpec Rows.fnLaterRow = true := by kernel_rfl
end Go.Proofs.Ytomdjbkididieaa
