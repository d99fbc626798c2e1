/- The row's facts, by computation. -/
import Derived.Test.YtcipkfndnkmjlaaDoorRows
import Derived.JoinedOf
namespace Go.Proofs.YtcipkfndnkmjlaaDoor
open Go.ChangeShapes
theorem f5_closed : joinedFacts Tryd.pinned.checked.prog 5 Tryd.f5 Rows.fnExactOrbitTextSpec Rows.fnExactOrbitTextRow = true := by kernel_rfl
end Go.Proofs.YtcipkfndnkmjlaaDoor
