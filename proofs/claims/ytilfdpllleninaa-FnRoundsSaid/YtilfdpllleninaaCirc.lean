/- The plain law of FnRounds, pairs on circles, computed. -/
import Derived.Test.YtilfdpllleninaaR6
import Derived.Test.YtilfdpllleninaaPoly
import Derived.Test.YtilfdpllleninaaR2
import Derived.Test.YtilfdpllleninaaInt
namespace Go.Proofs.Ytilfdpllleninaa
open Ieee
set_option linter.unusedVariables false
set_option linter.unusedSimpArgs false

theorem aLength_I {m : Nat} {a b : Rat} (hm : I .f32 m (some (a, b))) (ha : 0 < a) : impl_aLength_need m = true ∧ impl_aLength m = true := by
  have hg := I.gt hm k_zero32 ha
  unfold impl_aLength_need impl_aLength impl_aLength_tree
  simp only [DT.ok, DT.val, IsFinite_need, IsFinite_eq, hm.1, hg]
  exact ⟨trivial, trivial⟩

theorem leastB_I {m : Nat} {a b : Rat} (hm : I .f32 m (some (a, b))) (ha : 0 ≤ a) : leastB m = true := by
  unfold leastB
  rw [hm.1, I.ge hm k_zero32 ha]
  rfl

/-! ## Pairs -/

def mW (k : Nat) : Nat := fdiv .f32 (fofInt .f32 (IntKind.wrap .i64 (1 + (k : Int)))) 1082130432
def aW (k : Nat) : Nat := fdiv .f32 (fofInt .f32 (IntKind.wrap .i64 (4 + (k : Int)))) 1082130432
def wW (m o A : Nat) : Nat := rootN (fdiv .f32 (fadd .f32 m o) (fmul .f32 (fmul .f32 A A) A))
def x0W (m o A : Nat) : Nat := fneg .f32 (fdiv .f32 (fmul .f32 A o) (fadd .f32 m o))
def x1W (m o A : Nat) : Nat := fdiv .f32 (fmul .f32 A m) (fadd .f32 m o)
def pairL (m o A : Nat) : List Body := [⟨⟨x0W m o A, 0, 0⟩, ⟨0, fmul .f32 (wW m o A) (x0W m o A), 0⟩, m⟩, ⟨⟨x1W m o A, 0, 0⟩, ⟨0, fmul .f32 (wW m o A) (x1W m o A), 0⟩, o⟩]
def p0 (M O : Rat) : Rat := -(O / (M + O))
def p1 (M O : Rat) : Rat := M / (M + O)
/-- What is computed of a pair. -/
def circB (m o A : Nat) : Bool :=
  (atI .f32 (fadd .f32 m o) (1 / 2) 4 && (isNum .f32 (x0W m o A) && (isNum .f32 (x1W m o A) && (isNum .f32 (fmul .f32 (wW m o A) (x0W m o A)) && (isNum .f32 (fmul .f32 (wW m o A) (x1W m o A)) && isNum .f32 (wW m o A)))))) &&
  ((nearB (R .f32 (x0W m o A)) (R .f32 A * p0 (R .f32 m) (R .f32 o)) (2 / 1000000) && (nearB (R .f32 (x1W m o A)) (R .f32 A * p1 (R .f32 m) (R .f32 o)) (2 / 1000000) &&
  (nearB (R .f32 (fmul .f32 (wW m o A) (x0W m o A))) (R .f32 A * R .f32 (wW m o A) * p0 (R .f32 m) (R .f32 o)) (4 / 1000000) && nearB (R .f32 (fmul .f32 (wW m o A) (x1W m o A))) (R .f32 A * R .f32 (wW m o A) * p1 (R .f32 m) (R .f32 o)) (4 / 1000000)))) &&
  (decide (1 / 100 ≤ R .f32 (wW m o A)) && (decide (R .f32 (wW m o A) ≤ 2176 / 1000) && (decide (R .f32 A * R .f32 (wW m o A) ≤ 23 / 10) &&
  nearB ((R .f32 m + R .f32 o) / (R .f32 A * R .f32 A * R .f32 A) / (64 * R .f32 (wW m o A))) (R .f32 (wW m o A) / 64) (4 / 1000000)))))
def momV (m o A : Nat) : Vec := impl_AddVectors (impl_AddVectors ⟨0, 0, 0⟩ (impl_ScaleVector ⟨0, fmul .f32 (wW m o A) (x0W m o A), 0⟩ m)) (impl_ScaleVector ⟨0, fmul .f32 (wW m o A) (x1W m o A), 0⟩ o)
def dV (m o A : Nat) : Vec := impl_LessVectors ⟨x1W m o A, 0, 0⟩ ⟨x0W m o A, 0, 0⟩
def vV (m o A : Nat) : Vec := impl_LessVectors ⟨0, fmul .f32 (wW m o A) (x1W m o A), 0⟩ ⟨0, fmul .f32 (wW m o A) (x0W m o A), 0⟩
def enN (m o A : Nat) : Nat := fsub .f32 (fmul .f32 1056964608 (impl_InnerOf (vV m o A) (vV m o A))) (fdiv .f32 (fadd .f32 m o) (rootN (innerN (dV m o A).X (dV m o A).Y (dV m o A).Z)))
def restB (m o A : Nat) : Bool := (finV (momV m o A) && !fgt .f32 (rootN (innerN (momV m o A).X (momV m o A).Y (momV m o A).Z)) 981668463) && (isNum .f32 (enN m o A) && flt .f32 (enN m o A) 0)
def sizeB (k : Nat) : Bool := atI .f32 (mW k) (1 / 4) 2 && (atI .f32 (aW k) 1 (11 / 4) && nearB (R .f32 (aW k)) ((4 + k) / 4) 0)

theorem size_all : ∀ k : Fin 8, sizeB k.val = true := by decide +kernel
theorem circ_all0 : ∀ a : Fin 8, ∀ b : Fin 8, (circB (mW a.val) (mW b.val) (aW 0) && restB (mW a.val) (mW b.val) (aW 0)) = true := by decide +kernel
theorem circ_all1 : ∀ a : Fin 8, ∀ b : Fin 8, (circB (mW a.val) (mW b.val) (aW 1) && restB (mW a.val) (mW b.val) (aW 1)) = true := by decide +kernel
theorem circ_all2 : ∀ a : Fin 8, ∀ b : Fin 8, (circB (mW a.val) (mW b.val) (aW 2) && restB (mW a.val) (mW b.val) (aW 2)) = true := by decide +kernel
theorem circ_all3 : ∀ a : Fin 8, ∀ b : Fin 8, (circB (mW a.val) (mW b.val) (aW 3) && restB (mW a.val) (mW b.val) (aW 3)) = true := by decide +kernel
theorem circ_all4 : ∀ a : Fin 8, ∀ b : Fin 8, (circB (mW a.val) (mW b.val) (aW 4) && restB (mW a.val) (mW b.val) (aW 4)) = true := by decide +kernel
theorem circ_all5 : ∀ a : Fin 8, ∀ b : Fin 8, (circB (mW a.val) (mW b.val) (aW 5) && restB (mW a.val) (mW b.val) (aW 5)) = true := by decide +kernel
theorem circ_all6 : ∀ a : Fin 8, ∀ b : Fin 8, (circB (mW a.val) (mW b.val) (aW 6) && restB (mW a.val) (mW b.val) (aW 6)) = true := by decide +kernel
theorem circ_all7 : ∀ a : Fin 8, ∀ b : Fin 8, (circB (mW a.val) (mW b.val) (aW 7) && restB (mW a.val) (mW b.val) (aW 7)) = true := by decide +kernel

theorem circ_all (a b c : Fin 8) : circB (mW a.val) (mW b.val) (aW c.val) = true ∧ restB (mW a.val) (mW b.val) (aW c.val) = true := by
  rw [← Bool.and_eq_true]
  match c with
  | ⟨0, _⟩ => exact circ_all0 a b
  | ⟨1, _⟩ => exact circ_all1 a b
  | ⟨2, _⟩ => exact circ_all2 a b
  | ⟨3, _⟩ => exact circ_all3 a b
  | ⟨4, _⟩ => exact circ_all4 a b
  | ⟨5, _⟩ => exact circ_all5 a b
  | ⟨6, _⟩ => exact circ_all6 a b
  | ⟨7, _⟩ => exact circ_all7 a b

end Go.Proofs.Ytilfdpllleninaa
