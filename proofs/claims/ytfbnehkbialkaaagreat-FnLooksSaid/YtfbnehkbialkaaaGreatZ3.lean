/- The row's facts, by computation. -/
import Derived.Test.YtfbnehkbialkaaaGreatRows
import Derived.JoinedOf
namespace Go.Proofs.YtfbnehkbialkaaaGreat
open Go.ChangeShapes
theorem f3_closed : joinedFacts Tryz.pinned.checked.prog 3 Tryz.f3 Rows.fnLooksSpec Rows.fnLooksRow = true := by kernel_rfl
end Go.Proofs.YtfbnehkbialkaaaGreat
