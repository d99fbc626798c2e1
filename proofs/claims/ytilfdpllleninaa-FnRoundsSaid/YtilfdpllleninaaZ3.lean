/- The row's facts, by computation. -/
import Derived.Test.YtilfdpllleninaaRows
import Derived.JoinedOf
namespace Go.Proofs.Ytilfdpllleninaa
open Go.ChangeShapes
theorem f3_closed : joinedFacts Try.pinned.checked.prog 3 Try.f3 Rows.fnRoundsSpec Rows.fnRoundsRow = true := by kernel_rfl
end Go.Proofs.Ytilfdpllleninaa
