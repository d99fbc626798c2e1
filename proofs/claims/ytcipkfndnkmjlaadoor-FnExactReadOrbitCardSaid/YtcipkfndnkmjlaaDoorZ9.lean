/- The row's facts, by computation. -/
import Derived.Test.YtcipkfndnkmjlaaDoorRows
import Derived.JoinedOf
namespace Go.Proofs.YtcipkfndnkmjlaaDoor
open Go.ChangeShapes
theorem f9_closed : joinedFacts Tryd.pinned.checked.prog 9 Tryd.f9 Rows.fnExactReadOrbitSpec Rows.fnExactReadOrbitRow = true := by kernel_rfl
end Go.Proofs.YtcipkfndnkmjlaaDoor
