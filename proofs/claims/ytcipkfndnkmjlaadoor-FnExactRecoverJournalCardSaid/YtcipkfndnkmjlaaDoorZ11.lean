/- The row's facts, by computation. -/
import Derived.Test.YtcipkfndnkmjlaaDoorRows
import Derived.JoinedOf
namespace Go.Proofs.YtcipkfndnkmjlaaDoor
open Go.ChangeShapes
theorem f11_closed : joinedFacts Tryd.pinned.checked.prog 11 Tryd.f11 Rows.fnExactRecoverJournalSpec Rows.fnExactRecoverJournalRow = true := by kernel_rfl
end Go.Proofs.YtcipkfndnkmjlaaDoor
