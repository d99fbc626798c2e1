/- The row's facts, by computation. -/
import Derived.Test.YtcipkfndnkmjlaaDoorRows
import Derived.JoinedOf
namespace Go.Proofs.YtcipkfndnkmjlaaDoor
open Go.ChangeShapes
theorem f3_closed : joinedFacts Tryd.pinned.checked.prog 3 Tryd.f3 Rows.fnExactVectorTextSpec Rows.fnExactVectorTextRow = true := by kernel_rfl
end Go.Proofs.YtcipkfndnkmjlaaDoor
