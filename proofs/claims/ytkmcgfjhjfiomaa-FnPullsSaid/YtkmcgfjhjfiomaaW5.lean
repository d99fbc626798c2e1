/- The plain law of FnPulls, part 5: the sixteen turns; lists that are turned or moved, and their pulls. -/
import Derived.Test.YtkmcgfjhjfiomaaW4
import Derived.Test.YtkmcgfjhjfiomaaGeo
namespace Go.Proofs.Ytkmcgfjhjfiomaa
set_option linter.unusedVariables false
set_option linter.unusedSimpArgs false

/-! ## The sixteen turns -/

def turnN (k : Nat) : Nat := fdiv .f32 (fofInt .f32 (k : Int)) 1098907648

def turnFacts (t : Nat) : Prop := isNum .f32 t = true ∧ impl_SineTurns_need (fadd .f32 t 1048576000) = true ∧ impl_SineTurns_need t = true ∧ isNum .f32 (impl_SineTurns (fadd .f32 t 1048576000)) = true ∧ isNum .f32 (impl_SineTurns t) = true ∧
  Bd (R .f32 (impl_SineTurns (fadd .f32 t 1048576000))) 1 ∧ Bd (R .f32 (impl_SineTurns t)) 1 ∧
  Nr (R .f32 (impl_SineTurns (fadd .f32 t 1048576000)) * R .f32 (impl_SineTurns (fadd .f32 t 1048576000)) + R .f32 (impl_SineTurns t) * R .f32 (impl_SineTurns t)) 1 (1 / 4000000)

instance (a b : Rat) : Decidable (Bd a b) := inferInstanceAs (Decidable (_ ∧ _))
instance (a b c : Rat) : Decidable (Nr a b c) := inferInstanceAs (Decidable (_ ∧ _))
instance (t : Nat) : Decidable (turnFacts t) := inferInstanceAs (Decidable (_ ∧ _))

theorem turns_ok : ∀ k : Fin 16, turnFacts (turnN k.val) := by decide +kernel

end Go.Proofs.Ytkmcgfjhjfiomaa
