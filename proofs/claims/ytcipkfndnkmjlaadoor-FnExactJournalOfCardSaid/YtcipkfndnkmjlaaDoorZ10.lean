/- The row's facts, by computation. -/
import Derived.Test.YtcipkfndnkmjlaaDoorRows
import Derived.JoinedOf
namespace Go.Proofs.YtcipkfndnkmjlaaDoor
open Go.ChangeShapes
theorem f10_closed : joinedFacts Tryd.pinned.checked.prog 10 Tryd.f10 Rows.fnExactJournalOfSpec Rows.fnExactJournalOfRow = true := by kernel_rfl
end Go.Proofs.YtcipkfndnkmjlaaDoor
