/- The plain law of FnCovers, part 4, the cells' turns: what is computed. -/
import Derived.Test.YtkhjcoekmamlaaaV4
namespace Go.Proofs.Ytkhjcoekmamlaaa

theorem c_ge : ∀ x : Fin 6, ∀ j : Fin 17, circ (fadd .f32 (gE (x.val : Int)) (stN j.val)) = true := by decide +kernel

end Go.Proofs.Ytkhjcoekmamlaaa
