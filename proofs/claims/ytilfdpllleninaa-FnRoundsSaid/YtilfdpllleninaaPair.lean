/- How a body pulls a place: errors of rounding. -/
import Derived.Test.YtilfdpllleninaaErs
namespace Go.Proofs.Ytilfdpllleninaa
open Ieee
set_option linter.unusedVariables false
set_option linter.unusedSimpArgs false

/-- The inner product with itself. -/
def innerN (x y z : Nat) : Nat := fadd .f32 (fadd .f32 (fmul .f32 x x) (fmul .f32 y y)) (fmul .f32 z z)

theorem inner_fl {x y z : Nat} {B : Rat} (hx : isNum .f32 x = true) (hy : isNum .f32 y = true) (hz : isNum .f32 z = true) (hB : R .f32 x * R .f32 x + R .f32 y * R .f32 y + R .f32 z * R .f32 z ≤ B) (hB2 : B ≤ 100000000000000000000000000000) :
    isNum .f32 (innerN x y z) = true ∧ Nr (R .f32 (innerN x y z)) (R .f32 x * R .f32 x + R .f32 y * R .f32 y + R .f32 z * R .f32 z) ((R .f32 x * R .f32 x + R .f32 y * R .f32 y + R .f32 z * R .f32 z) / 5000000 + 10 * T) := by
  have hT := T_pos
  have hT1 := T_le
  have hG := Gr_ge
  have sx := sq_nonneg (R .f32 x)
  have sy := sq_nonneg (R .f32 y)
  have sz := sq_nonneg (R .f32 z)
  have f1 := fmul_fl hx hx (by unfold Bd; constructor <;> grind)
  have f2 := fmul_fl hy hy (by unfold Bd; constructor <;> grind)
  have f3 := fmul_fl hz hz (by unfold Bd; constructor <;> grind)
  generalize R .f32 x * R .f32 x = a at *
  generalize R .f32 y * R .f32 y = b at *
  generalize R .f32 z * R .f32 z = c at *
  have e1 := f1.err (M := a) (by unfold Bd; constructor <;> grind)
  have e2 := f2.err (M := b) (by unfold Bd; constructor <;> grind)
  have e3 := f3.err (M := c) (by unfold Bd; constructor <;> grind)
  have b12 : Bd (R .f32 (fmul .f32 x x) + R .f32 (fmul .f32 y y)) (a + b + a / 16777216 + b / 16777216 + 2 * T) := by unfold Nr at e1 e2; unfold Bd; constructor <;> grind
  have f4 := fadd_fl f1.1 f2.1 (b12.mono (by grind))
  have e4 := f4.err b12
  have b34 : Bd (R .f32 (fadd .f32 (fmul .f32 x x) (fmul .f32 y y)) + R .f32 (fmul .f32 z z)) (a + b + c + (a + b + c) / 5000000 + 6 * T) := by unfold Nr at e1 e2 e3 e4; unfold Bd; constructor <;> grind
  have f5 := fadd_fl f4.1 f3.1 (b34.mono (by grind))
  have e5 := f5.err b34
  refine ⟨f5.1, ?_⟩
  unfold Nr at *
  unfold innerN
  constructor <;> grind

theorem R_core : isNum .f32 1048576000 = true ∧ R .f32 1048576000 = 1 / 4 := by decide +kernel
theorem core_sq : fmul .f32 1048576000 1048576000 = 1031798784 ∧ isNum .f32 1031798784 = true ∧ R .f32 1031798784 = 1 / 16 := by decide +kernel

/-- What is known of a square, its root, and a mass over both. -/
structure PairF (Q r s m : Rat) : Prop where
  r0 : 1 / 5 ≤ r
  s0 : 0 ≤ s
  q0 : 1 / 16 ≤ Q
  rr : Nr (r * r) Q (Q / 1000000)
  ss : Nr (s * (Q * r)) m (m / 1000000)

def softN (x y z : Nat) : Nat := fadd .f32 (innerN x y z) (fmul .f32 1048576000 1048576000)
def shareN (x y z m : Nat) : Nat := fdiv .f32 m (fmul .f32 (softN x y z) (rootN (softN x y z)))

theorem share_core {σ X W P m : Rat} (hX0 : 0 ≤ X) (t3 : Nr σ X (2 * (1 / 16777216) * X + T)) (hXw : X * W = m) (hP : Nr W P (P / 2000000)) (hP0 : 1 / 80 ≤ P) (hW : W ≤ 40000) (hm : 1 / 8 ≤ m) : 0 ≤ σ ∧ Nr (σ * P) m (m / 1000000) := by
  have hT := T_pos
  have hT1 := T_le
  have hW0 : 0 < W := by unfold Nr at hP; grind
  have hXl : 1 / 400000 ≤ X := by
    refine Rat.le_of_mul_le_mul_right (c := W) ?_ hW0
    grind
  obtain ⟨t4, t5⟩ := t3
  obtain ⟨p6, p7⟩ := hP
  have hσ0 : 0 ≤ σ := by grind
  have p1 : (σ - X) * W ≤ (2 * (1 / 16777216) * X + T) * W := Rat.mul_le_mul_of_nonneg_right t5 (Rat.le_of_lt hW0)
  have p2 : (X - σ) * W ≤ (2 * (1 / 16777216) * X + T) * W := Rat.mul_le_mul_of_nonneg_right (by grind) (Rat.le_of_lt hW0)
  have p3 : T * W ≤ T * 40000 := Rat.mul_le_mul_of_nonneg_left hW (Rat.le_of_lt hT)
  have p4 : σ * (W - P) ≤ σ * (P / 2000000) := Rat.mul_le_mul_of_nonneg_left p7 hσ0
  have p5 : σ * (P - W) ≤ σ * (P / 2000000) := Rat.mul_le_mul_of_nonneg_left (by grind) hσ0
  refine ⟨hσ0, ?_⟩
  unfold Nr
  constructor <;> grind

theorem pair_fl {x y z m : Nat} {Q : Rat} (hx : isNum .f32 x = true) (hy : isNum .f32 y = true) (hz : isNum .f32 z = true) (hm : isNum .f32 m = true)
    (hQ : Q = R .f32 x * R .f32 x + R .f32 y * R .f32 y + R .f32 z * R .f32 z + 1 / 16) (hB : Q ≤ 1000) (hm1 : 1 / 8 ≤ R .f32 m) (hm2 : R .f32 m ≤ 4) :
    isNum .f32 (softN x y z) = true ∧ 0 < R .f32 (softN x y z) ∧ fconvOk .f32 (softN x y z) .f64 = true ∧ fconvOk .f64 (fsqrt (fconv .f32 (softN x y z) .f64)) .f32 = true ∧ isNum .f32 (shareN x y z m) = true ∧ PairF Q (R .f32 (rootN (softN x y z))) (R .f32 (shareN x y z m)) (R .f32 m) := by
  have hT := T_pos
  have hT1 := T_le
  have hG := Gr_ge
  have sx := sq_nonneg (R .f32 x)
  have sy := sq_nonneg (R .f32 y)
  have sz := sq_nonneg (R .f32 z)
  obtain ⟨i1, i2⟩ := inner_fl (B := 1000) hx hy hz (by grind) (by grind)
  generalize hS : R .f32 x * R .f32 x + R .f32 y * R .f32 y + R .f32 z * R .f32 z = S at *
  have hS0 : 0 ≤ S := by grind
  obtain ⟨c1, c2, c3⟩ := core_sq
  rw [← c1] at c2 c3
  have b1 : Bd (R .f32 (innerN x y z) + R .f32 (fmul .f32 1048576000 1048576000)) (S + S / 5000000 + 10 * T + 1 / 16) := by unfold Nr at i2; unfold Bd; constructor <;> grind
  have f1 := fadd_fl i1 c2 (b1.mono (by grind))
  have e1 := f1.err b1
  have hq : Nr (R .f32 (softN x y z)) Q (Q / 3000000) := by
    unfold softN
    unfold Nr at *
    constructor <;> grind
  have hqn : isNum .f32 (softN x y z) = true := f1.1
  have hQ0 : 1 / 16 ≤ Q := by grind
  unfold shareN
  generalize softN x y z = q at *
  have hqp : 0 < R .f32 q := by unfold Nr at hq; grind
  obtain ⟨d1, d2, d3, ρ, g1, g2, g3⟩ := root_fl hqn (Rat.le_of_lt hqp) (by unfold Nr at hq; grind)
  -- the root
  have hρ1 : 24 / 100 ≤ ρ := le_of_sq (by grind) (by unfold Nr at g2 hq; grind)
  have hρ2 : ρ ≤ 32 := le_of_sq (by grind) (by unfold Nr at g2 hq; grind)
  have hr1 : R .f32 (rootN q) ≤ ρ * (1 + 1 / 15000000) := by unfold Nr at g3; grind
  have hr2 : ρ * (1 - 1 / 15000000) ≤ R .f32 (rootN q) := by unfold Nr at g3; grind
  generalize hr : R .f32 (rootN q) = r at *
  have hr0 : 1 / 5 ≤ r := by grind
  have k1 := sq_le (show 0 ≤ r by grind) hr1
  have k2 := sq_le (show 0 ≤ ρ * (1 - 1 / 15000000) by grind) hr2
  have hrr : Nr (r * r) Q (Q / 1000000) := by
    unfold Nr at g2 hq ⊢
    constructor <;> grind
  -- the product
  have hqr0 : 0 ≤ R .f32 q * r := Rat.mul_nonneg (Rat.le_of_lt hqp) (by grind)
  have hqr1 : R .f32 q * r ≤ 1001 * 33 := by
    have := Rat.mul_le_mul_of_nonneg_right (show R .f32 q ≤ 1001 by unfold Nr at hq; grind) (show 0 ≤ r by grind)
    grind
  have f2 := fmul_fl hqn d3 (by rw [hr]; unfold Bd; constructor <;> grind)
  rw [hr] at f2
  have e2 := f2.err (M := R .f32 q * r) (by unfold Bd; constructor <;> grind)
  have hQr : Nr (R .f32 (fmul .f32 q (rootN q))) (Q * r) (Q * r / 2000000) := by
    have h1 : Nr (R .f32 q * r) (Q * r) (Q / 3000000 * r) := by
      unfold Nr at hq ⊢
      have a1 := Rat.mul_le_mul_of_nonneg_right hq.1 (show 0 ≤ r by grind)
      have a2 := Rat.mul_le_mul_of_nonneg_right hq.2 (show 0 ≤ r by grind)
      constructor <;> grind
    have h2 : 1 / 16 * (1 / 5) ≤ Q * r := by
      have a1 := Rat.mul_le_mul_of_nonneg_right hQ0 (show 0 ≤ r by grind)
      grind
    unfold Nr at e2 h1 ⊢
    constructor <;> grind
  generalize hw : fmul .f32 q (rootN q) = w at *
  have hQr0 : 1 / 80 ≤ Q * r := by
    have a1 := Rat.mul_le_mul_of_nonneg_right hQ0 (show 0 ≤ r by grind)
    grind
  have hwp : 1 / 100 ≤ R .f32 w := by unfold Nr at hQr; grind
  have hw40 : R .f32 w ≤ 40000 := by
    have a1 := Rat.mul_le_mul_of_nonneg_right hB (show 0 ≤ r by grind)
    unfold Nr at hQr; grind
  -- the quotient
  obtain ⟨X, hX⟩ : ∃ X, X = R .f32 m / R .f32 w := ⟨_, rfl⟩
  have hXw : X * R .f32 w = R .f32 m := by rw [hX]; exact Rat.div_mul_cancel (by grind)
  have hX0 : 0 ≤ X := by
    refine Rat.le_of_mul_le_mul_right (c := R .f32 w) ?_ (by grind)
    grind
  have hX1 : X ≤ 400 := by
    refine Rat.le_of_mul_le_mul_right (c := R .f32 w) ?_ (by grind)
    grind
  obtain ⟨t1, t2⟩ := quot_fl hm f2.1 (by grind) hXw (by unfold Bd; constructor <;> grind)
  have t3 := t2 X (by unfold Bd; constructor <;> grind)
  have hU : U .f32 = 1 / 16777216 := rfl
  rw [hU] at t3
  refine ⟨hqn, hqp, d1, d2, t1, ?_⟩
  obtain ⟨k3, k4⟩ := share_core (by grind) t3 hXw hQr hQr0 hw40 hm1
  exact ⟨hr0, k3, hQ0, hrr, k4⟩

/-- How great a pull is. -/
theorem pair_bd {Q r s m X : Rat} (h : PairF Q r s m) (hX : X * X ≤ Q) : Bd (X * s * Q) (m * (1 + 1 / 400000)) := by
  obtain ⟨r0, s0, q0, rr, ss⟩ := h
  have hm0 : 0 ≤ m := by
    have h1 : 0 ≤ s * (Q * r) := Rat.mul_nonneg s0 (Rat.mul_nonneg (by grind) (by grind))
    unfold Nr at ss
    grind
  have h1 : ∀ Y : Rat, Y * Y ≤ Q → Y ≤ r * (1 + 1 / 1000000) := fun Y hY => by
    refine le_of_sq (by grind) ?_
    unfold Nr at rr
    grind
  have h2 := h1 X hX
  have h3 := h1 (-X) (by grind)
  have hsQ : 0 ≤ s * Q := Rat.mul_nonneg s0 (by grind)
  have h4 := Rat.mul_le_mul_of_nonneg_right h2 hsQ
  have h5 := Rat.mul_le_mul_of_nonneg_right h3 hsQ
  unfold Nr at ss
  unfold Bd
  constructor <;> grind

/-- Two alike: the squares are near, so the shares are. -/
theorem pair_near {Q r s Q' r' s' m : Rat} (h : PairF Q r s m) (h' : PairF Q' r' s' m) (hQ : Nr Q' Q (Q / 80000)) : s' ≤ s * (1 + 4 / 100000) := by
  obtain ⟨r0, s0, q0, rr, ss⟩ := h
  obtain ⟨r0', s0', q0', rr', ss'⟩ := h'
  have hQ1 : Q * (1 - 1 / 80000) ≤ Q' := by unfold Nr at hQ; grind
  -- r' is not much less than r
  have hr : r * (1 - 15 / 1000000) ≤ r' := by
    refine le_of_sq (by grind) ?_
    unfold Nr at rr rr'
    grind
  have hQr : Q * r * (1 - 28 / 1000000) ≤ Q' * r' := by
    have a1 := Rat.mul_le_mul_of_nonneg_left hr (show 0 ≤ Q' by grind)
    have a2 := Rat.mul_le_mul_of_nonneg_right hQ1 (show 0 ≤ r * (1 - 15 / 1000000) by grind)
    have a3 : 0 ≤ Q * r := Rat.mul_nonneg (by grind) (by grind)
    grind
  have hp : 0 < Q * r := Rat.mul_pos (by grind) (by grind)
  have hs : s' * (Q * r * (1 - 28 / 1000000)) ≤ s' * (Q' * r') := Rat.mul_le_mul_of_nonneg_left hQr s0'
  have h0 : 0 ≤ s * (Q * r) := Rat.mul_nonneg s0 (Rat.le_of_lt hp)
  refine Rat.le_of_mul_le_mul_right (c := Q * r) ?_ hp
  unfold Nr at ss ss'
  grind

end Go.Proofs.Ytilfdpllleninaa
