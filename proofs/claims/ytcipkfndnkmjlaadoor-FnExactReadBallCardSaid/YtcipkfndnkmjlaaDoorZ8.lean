/- The row's facts, by computation. -/
import Derived.Test.YtcipkfndnkmjlaaDoorRows
import Derived.JoinedOf
namespace Go.Proofs.YtcipkfndnkmjlaaDoor
open Go.ChangeShapes
theorem f8_closed : joinedFacts Tryd.pinned.checked.prog 8 Tryd.f8 Rows.fnExactReadBallSpec Rows.fnExactReadBallRow = true := by kernel_rfl
end Go.Proofs.YtcipkfndnkmjlaaDoor
