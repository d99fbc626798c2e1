/- The plain law of FnCovers, part 5: high places see what low ones see; of a cell and its antipode one at most is seen. -/
import Derived.Test.YtkhjcoekmamlaaaV4
namespace Go.Proofs.Ytkhjcoekmamlaaa
set_option linter.unusedVariables false
set_option linter.unusedSimpArgs false

/-- A rise at a direction that is not above a bound is low. -/
theorem Rise.low {ρ H γ x g dl : Rat} (h : Rise ρ H γ x) (hρ : 1 / 8 ≤ ρ) (hH : 0 ≤ H) (hγ : γ ≤ g) (h0 : 0 ≤ dl) (h1 : dl * dl ≤ H * H + ρ * ρ - 2 * (H * ρ * g) - 2 / 10000) (h2 : ρ * (H * g - ρ) + 3 / 100000 ≤ 1949 / 10000 * ((ρ - 1 / 10000) * dl - 1 / 100000)) : x ≤ 195 / 1000 := by
  obtain ⟨i, r, σ, t, X, r1, r2, r3, r4, r5, r6, r9, r7, r8⟩ := h.ex
  have y3 : 0 ≤ H * ρ := Rat.mul_nonneg (by grind) (by grind)
  have y4 := Rat.mul_le_mul_of_nonneg_left hγ y3
  have a1 : ρ - 1 / 10000 ≤ r := by
    refine le_of_sq r2 ?_
    unfold Nr at r4
    grind
  have a2 : dl ≤ σ := by
    refine le_of_sq r3 ?_
    unfold Nr at r5
    grind
  have a3 := Rat.mul_le_mul_of_nonneg_left a2 (c := ρ - 1 / 10000) (by grind)
  have a4 := Rat.mul_le_mul_of_nonneg_right a1 (c := σ) r3
  have a5 : X ≤ 1949 / 10000 := by
    rw [← Rat.not_lt]
    intro hX
    have m1 := Rat.mul_le_mul_of_nonneg_right (Rat.le_of_lt hX) (c := t) (by grind)
    have m2 := Rat.mul_lt_mul_of_pos_right hX (c := t) (by grind)
    unfold Nr at r1 r6
    generalize r * σ = w at *
    generalize (ρ - 1 / 10000) * dl = w2 at *
    generalize (ρ - 1 / 10000) * σ = w3 at *
    have e1 : ρ * (H * γ - ρ) = H * ρ * γ - ρ * ρ := by grind
    have e2 : ρ * (H * g - ρ) = H * ρ * g - ρ * ρ := by grind
    rw [e1] at r1
    rw [e2] at h2
    grind
  unfold Nr at r8
  grind

/-- A rise at a direction that is not below the bound is high. -/
theorem Rise.high {ρ H γ x g du : Rat} (h : Rise ρ H γ x) (hρ : 1 / 8 ≤ ρ) (hH : 0 ≤ H) (hγ : g ≤ γ) (h0 : 0 ≤ du) (h1 : H * H + ρ * ρ - 2 * (H * ρ * g) + 2 / 10000 ≤ du * du) (h2 : 1962 / 10000 * ((ρ + 1 / 10000) * du + 1 / 100000) ≤ ρ * (H * g - ρ) - 3 / 100000) : 196 / 1000 ≤ x := by
  obtain ⟨i, r, σ, t, X, r1, r2, r3, r4, r5, r6, r9, r7, r8⟩ := h.ex
  have y3 : 0 ≤ H * ρ := Rat.mul_nonneg (by grind) (by grind)
  have y4 := Rat.mul_le_mul_of_nonneg_left hγ y3
  have a1 : r ≤ ρ + 1 / 10000 := by
    refine le_of_sq (by grind) ?_
    unfold Nr at r4
    grind
  have a2 : σ ≤ du := by
    refine le_of_sq h0 ?_
    unfold Nr at r5
    grind
  have a3 := Rat.mul_le_mul_of_nonneg_left a2 (c := ρ + 1 / 10000) (by grind)
  have a4 := Rat.mul_le_mul_of_nonneg_right a1 (c := σ) r3
  have a5 : 1962 / 10000 ≤ X := by
    rw [← Rat.not_lt]
    intro hX
    have m2 := Rat.mul_lt_mul_of_pos_right hX (c := t) (by grind)
    unfold Nr at r1 r6
    generalize r * σ = w at *
    generalize (ρ + 1 / 10000) * du = w2 at *
    generalize (ρ + 1 / 10000) * σ = w3 at *
    have e1 : ρ * (H * γ - ρ) = H * ρ * γ - ρ * ρ := by grind
    have e2 : ρ * (H * g - ρ) = H * ρ * g - ρ * ρ := by grind
    rw [e1] at r1
    rw [e2] at h2
    grind
  unfold Nr at r8
  grind

/-- What is seen lies on the near side. -/
theorem Rise.near {ρ H γ x : Rat} (h : Rise ρ H γ x) (hρ : 1 / 8 ≤ ρ) (hρ1 : ρ ≤ 1) (hH : 0 ≤ H) (hH4 : H ≤ 4) (hx : 195 / 1000 ≤ x) : 1 / 100 ≤ γ := by
  obtain ⟨i, r, σ, t, X, r1, r2, r3, r4, r5, r6, r9, r7, r8⟩ := h.ex
  rw [← Rat.not_lt]
  intro hγ
  have y4 := Rat.mul_le_mul_of_nonneg_left (Rat.le_of_lt hγ) hH
  have y5 : H * γ - ρ ≤ -(85 / 1000) := by grind
  have y6 := Rat.mul_le_mul_of_nonneg_left y5 (c := ρ) (by grind)
  have a5 : 0 ≤ X := by unfold Nr at r8; grind
  have m := Rat.mul_nonneg a5 (b := t) (by grind)
  unfold Nr at r1
  grind

/-- What the low place sees, the high one sees too. -/
theorem low_high {r : Fin 8} {γ x x' : Rat} (h : Rise (ρN r.val) (ρN r.val + 3 / 4) γ x) (h' : Rise (ρN r.val) (ρN r.val + 3) γ x') (hx : 1950001 / 10000000 ≤ x) : 196 / 1000 ≤ x' := by
  have f := f_tab r
  unfold tabB at f
  simp only [Bool.and_eq_true, decide_eq_true_eq] at f
  obtain ⟨f1, f2, f3, f4, f5, f6, f7, f8⟩ := f
  rcases (Rat.le_total : γ ≤ (tabN r.val).1 ∨ (tabN r.val).1 ≤ γ) with hγ | hγ
  · have := h.low f1 (by grind) hγ f3 f5 f6
    grind
  · exact h'.high f1 (by grind) hγ f4 f7 f8

end Go.Proofs.Ytkhjcoekmamlaaa
