/- The row's facts, by computation. -/
import Derived.Test.YtcipkfndnkmjlaaDoorRows
import Derived.JoinedOf
namespace Go.Proofs.YtcipkfndnkmjlaaDoor
open Go.ChangeShapes
theorem f12_closed : joinedFacts Tryd.pinned.checked.prog 12 Tryd.f12 Rows.fnExactCountOutputsSpec Rows.fnExactCountOutputsRow = true := by kernel_rfl
end Go.Proofs.YtcipkfndnkmjlaaDoor
