/- The row's facts, by computation. -/
import Derived.Test.YtkhjcoekmamlaaaRows
import Derived.JoinedOf
namespace Go.Proofs.Ytkhjcoekmamlaaa
open Go.ChangeShapes
theorem f3_closed : joinedFacts Try.pinned.checked.prog 3 Try.f3 Rows.fnMarksSpec Rows.fnMarksRow = true := by kernel_rfl
end Go.Proofs.Ytkhjcoekmamlaaa
