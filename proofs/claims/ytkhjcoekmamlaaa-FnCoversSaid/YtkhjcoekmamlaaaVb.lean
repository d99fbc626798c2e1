/- The plain law of FnCovers, part 4, antipodes: what is computed. -/
import Derived.Test.YtkhjcoekmamlaaaV4
namespace Go.Proofs.Ytkhjcoekmamlaaa

theorem f_antiE0 : ∀ j : Fin 17, antiE 0 j.val = true := by decide +kernel
theorem f_antiE1 : ∀ j : Fin 17, antiE 1 j.val = true := by decide +kernel
theorem f_antiE2 : ∀ j : Fin 17, antiE 2 j.val = true := by decide +kernel
theorem f_antiE3 : ∀ j : Fin 17, antiE 3 j.val = true := by decide +kernel
theorem f_antiE4 : ∀ j : Fin 17, antiE 4 j.val = true := by decide +kernel
theorem f_antiE5 : ∀ j : Fin 17, antiE 5 j.val = true := by decide +kernel
theorem f_antiE : ∀ x : Fin 6, ∀ j : Fin 17, antiE x.val j.val = true
  | ⟨0, _⟩ => f_antiE0
  | ⟨1, _⟩ => f_antiE1
  | ⟨2, _⟩ => f_antiE2
  | ⟨3, _⟩ => f_antiE3
  | ⟨4, _⟩ => f_antiE4
  | ⟨5, _⟩ => f_antiE5
theorem f_antiN : ∀ y : Fin 5, antiN y.val = true := by decide +kernel

end Go.Proofs.Ytkhjcoekmamlaaa
