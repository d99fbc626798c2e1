/- The plain law of FnCovers, part 4: what is computed. -/
import Derived.Test.YtkhjcoekmamlaaaV3
namespace Go.Proofs.Ytkhjcoekmamlaaa
set_option linter.unusedVariables false
set_option linter.unusedSimpArgs false

/-! ## What is computed -/

def maN (k : Nat) : Nat := fdiv .f32 (fofInt .f32 (IntKind.wrap .i64 (1 + (k : Int)))) 1073741824
def spN (k : Nat) : Nat := fdiv .f32 (fofInt .f32 (IntKind.wrap .i64 ((k : Int) - 8))) 1115684864
def stN (k : Nat) : Nat := fdiv .f32 (fofInt .f32 (IntKind.wrap .i64 ((k : Int) - 8))) 1098907648
def noN (k : Nat) : Nat := fdiv .f32 (fofInt .f32 (IntKind.wrap .i64 ((k : Int) - 14))) 1115684864
def eaN (k : Nat) : Nat := fdiv .f32 (fofInt .f32 (IntKind.wrap .i64 ((k : Int) - 15))) 1107296256
def tuN (k : Nat) : Nat := fdiv .f32 (fofInt .f32 ((k : Int) - 31)) 1107296256
noncomputable def gN (y : Int) : Nat := (impl_gridMark 0 y 6 5).North
noncomputable def gE (x : Int) : Nat := (impl_gridMark x 0 6 5).East
theorem grid_eq (x y : Int) : impl_gridMark x y 6 5 = ⟨gN y, gE x, 0⟩ := by
  unfold gN gE impl_gridMark impl_gridMark_tree
  simp only [DT.val]

theorem c_no : ∀ k : Fin 29, circ (noN k.val) = true := by decide +kernel
theorem c_gn : ∀ y : Fin 5, circ (gN (y.val : Int)) = true := by decide +kernel
theorem c_tu : ∀ k : Fin 63, circ (tuN k.val) = true := by decide +kernel
theorem f_tu : ∀ e : Fin 31, ∀ j : Fin 17, fadd .f32 (eaN e.val) (stN j.val) = tuN (e.val + 2 * j.val) := by decide +kernel
theorem f_face : ∀ s : Fin 17, ∀ j : Fin 17, fadd .f32 (stN j.val) (fmul .f32 (spN s.val) 0) = stN j.val := by decide +kernel
def ρN (r : Nat) : Rat := ((r : Rat) + 1) / 8
def longB (x : Nat) (q : Rat) : Bool := isNum .f32 x && decide (R .f32 x = q)
theorem f_long : ∀ r : Fin 8, (longB (fadd .f32 (radN r.val) 0) (ρN r.val) && (longB (fadd .f32 (radN r.val) 1061158912) (ρN r.val + 3 / 4) && longB (fadd .f32 (radN r.val) 1077936128) (ρN r.val + 3))) = true := by decide +kernel
def nearB (a b : Rat) : Bool := decide (-(1 / 100000) ≤ a - b) && decide (a - b ≤ 1 / 100000)
noncomputable def antiE (x j : Nat) : Bool := nearB (sinR (fadd .f32 (gE (((x + 3) % 6 : Nat) : Int)) (stN j))) (-sinR (fadd .f32 (gE (x : Int)) (stN j))) && nearB (cosR (fadd .f32 (gE (((x + 3) % 6 : Nat) : Int)) (stN j))) (-cosR (fadd .f32 (gE (x : Int)) (stN j)))
noncomputable def antiN (y : Nat) : Bool := nearB (sinR (gN ((4 - y : Nat) : Int))) (-sinR (gN (y : Int))) && nearB (cosR (gN ((4 - y : Nat) : Int))) (cosR (gN (y : Int)))
theorem f_limit : impl_SineTurns_need 1023410176 = true ∧ atI .f32 (impl_SineTurns 1023410176) (1950001 / 10000000) (1959999 / 10000000) = true := by decide +kernel

/-- The bounds of the radii: the direction, the distances. -/
def tabN : Nat → Rat × Rat × Rat
  | 0 => (28 / 100, 848 / 1000, 3093 / 1000)
  | 1 => (35 / 100, 941 / 1000, 3172 / 1000)
  | 2 => (40 / 100, 1033 / 1000, 3244 / 1000)
  | 3 => (45 / 100, 1117 / 1000, 3306 / 1000)
  | 4 => (49 / 100, 1199 / 1000, 3364 / 1000)
  | 5 => (52 / 100, 1281 / 1000, 3421 / 1000)
  | 6 => (55 / 100, 1357 / 1000, 3472 / 1000)
  | _ => (57 / 100, 1437 / 1000, 3528 / 1000)
def tabB (ρ g dl du : Rat) : Bool :=
  decide (1 / 8 ≤ ρ) && (decide (ρ ≤ 1) && (decide (0 ≤ dl) && (decide (0 ≤ du) &&
  (decide (dl * dl ≤ (ρ + 3 / 4) * (ρ + 3 / 4) + ρ * ρ - 2 * ((ρ + 3 / 4) * ρ * g) - 2 / 10000) &&
  (decide (ρ * ((ρ + 3 / 4) * g - ρ) + 3 / 100000 ≤ 1949 / 10000 * ((ρ - 1 / 10000) * dl - 1 / 100000)) &&
  (decide ((ρ + 3) * (ρ + 3) + ρ * ρ - 2 * ((ρ + 3) * ρ * g) + 2 / 10000 ≤ du * du) &&
  decide (1962 / 10000 * ((ρ + 1 / 10000) * du + 1 / 100000) ≤ ρ * ((ρ + 3) * g - ρ) - 3 / 100000)))))))
theorem f_tab : ∀ r : Fin 8, tabB (ρN r.val) (tabN r.val).1 (tabN r.val).2.1 (tabN r.val).2.2 = true := by decide +kernel

end Go.Proofs.Ytkhjcoekmamlaaa
