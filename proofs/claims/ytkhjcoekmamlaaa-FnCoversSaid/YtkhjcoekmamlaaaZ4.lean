/- The row's facts, by computation. -/
import Derived.Test.YtkhjcoekmamlaaaRows
import Derived.JoinedOf
namespace Go.Proofs.Ytkhjcoekmamlaaa
open Go.ChangeShapes
theorem f4_closed : joinedFacts Try.pinned.checked.prog 4 Try.f4 Rows.fnCoversSpec Rows.fnCoversRow = true := by kernel_rfl
end Go.Proofs.Ytkhjcoekmamlaaa
