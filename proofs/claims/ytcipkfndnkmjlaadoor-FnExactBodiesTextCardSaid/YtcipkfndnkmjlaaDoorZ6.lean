/- The row's facts, by computation. -/
import Derived.Test.YtcipkfndnkmjlaaDoorRows
import Derived.JoinedOf
namespace Go.Proofs.YtcipkfndnkmjlaaDoor
open Go.ChangeShapes
theorem f6_closed : joinedFacts Tryd.pinned.checked.prog 6 Tryd.f6 Rows.fnExactBodiesTextSpec Rows.fnExactBodiesTextRow = true := by kernel_rfl
end Go.Proofs.YtcipkfndnkmjlaaDoor
