/- The row's facts, by computation. -/
import Derived.Test.YtcipkfndnkmjlaaGreatDoorRows
import Derived.JoinedOf
namespace Go.Proofs.YtcipkfndnkmjlaaGreatDoor
open Go.ChangeShapes
theorem f4_closed : joinedFacts Tryz.pinned.checked.prog 4 Tryz.f4 Rows.fnExactReadEntriesSpec Rows.fnExactReadEntriesRow = true := by kernel_rfl
end Go.Proofs.YtcipkfndnkmjlaaGreatDoor
