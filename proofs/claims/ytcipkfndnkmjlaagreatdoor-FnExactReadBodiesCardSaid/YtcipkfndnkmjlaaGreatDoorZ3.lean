/- The row's facts, by computation. -/
import Derived.Test.YtcipkfndnkmjlaaGreatDoorRows
import Derived.JoinedOf
namespace Go.Proofs.YtcipkfndnkmjlaaGreatDoor
open Go.ChangeShapes
theorem f3_closed : joinedFacts Tryz.pinned.checked.prog 3 Tryz.f3 Rows.fnExactReadBodiesSpec Rows.fnExactReadBodiesRow = true := by kernel_rfl
end Go.Proofs.YtcipkfndnkmjlaaGreatDoor
