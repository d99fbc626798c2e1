/- The row's facts, by computation. -/
import Derived.Test.YtcipkfndnkmjlaaDoorRows
import Derived.JoinedOf
namespace Go.Proofs.YtcipkfndnkmjlaaDoor
open Go.ChangeShapes
theorem f7_closed : joinedFacts Tryd.pinned.checked.prog 7 Tryd.f7 Rows.fnExactEntriesTextSpec Rows.fnExactEntriesTextRow = true := by kernel_rfl
end Go.Proofs.YtcipkfndnkmjlaaDoor
