/- The row's facts, by computation. -/
import Derived.Test.YtcipkfndnkmjlaaDoorRows
import Derived.JoinedOf
namespace Go.Proofs.YtcipkfndnkmjlaaDoor
open Go.ChangeShapes
theorem f4_closed : joinedFacts Tryd.pinned.checked.prog 4 Tryd.f4 Rows.fnExactBallTextSpec Rows.fnExactBallTextRow = true := by kernel_rfl
end Go.Proofs.YtcipkfndnkmjlaaDoor
