/- Sizes of vectors: errors of rounding, and the triangle. -/
import Derived.Test.YtilfdpllleninaaGeo
namespace Go.Proofs.Ytilfdpllleninaa
open Ieee
set_option linter.unusedVariables false
set_option linter.unusedSimpArgs false

/-! ## What is not negative stays so -/

theorem read_nn {k : FloatKind} {x : Nat} (h : (x / k.format.signWeight % 2 == 1) = false) : 0 ≤ R k x := by
  unfold R Format.read
  simp only [h]
  split
  · rw [rv_num]
    simp only [Bool.false_eq_true, if_false]
    exact mag_nonneg _ _
  · split
    · rw [rv_num]
      simp only [Bool.false_eq_true, if_false]
      exact mag_nonneg _ _
    · split <;> exact Rat.le_refl

theorem near_nn (k : FloatKind) (m : Nat) (p : Int) : 0 ≤ R k (canon k (k.format.nearest false m p)) := by
  unfold canon
  cases isNaN k (k.format.nearest false m p)
  · simp only [cond_false]
    refine read_nn ?_
    unfold Format.nearest
    have hinf : k.format.infRung < k.format.signWeight := by cases k <;> decide
    split
    · exact (read_word (k := k) (s := false) (r := 0) (by omega)).2
    · exact (read_word (k := k) (s := false) (Nat.lt_of_le_of_lt (Nat.min_le_right _ _) hinf)).2
  · simp only [cond_true]
    have : R k (qnan k) = 0 := by cases k <;> decide +kernel
    rw [this]
    exact Rat.le_refl

theorem near_nn' {k : FloatKind} {s : Bool} {m : Nat} {p : Int} (h : 0 ≤ rv (.number s m p)) : 0 ≤ R k (canon k (k.format.nearest s m p)) := by
  cases s with
  | false => exact near_nn k m p
  | true =>
    have hm : m = 0 := by
      by_cases g : m = 0
      · exact g
      · have h1 : (0 : Rat) < m := by exact_mod_cast Nat.pos_of_ne_zero g
        have h2 := Rat.mul_pos h1 (two_pos p)
        rw [rv_sign] at h
        simp only [if_true] at h
        grind
    subst hm
    obtain ⟨n1, n2⟩ := nearest_zero (k := k) (s := true) (place := p)
    rw [canon_num' n1, n2]
    exact Rat.le_refl

theorem fadd_nn {k : FloatKind} {x y : Nat} (hx : isNum k x = true) (hy : isNum k y = true) (h : 0 ≤ R k x + R k y) : 0 ≤ R k (fadd k x y) := by
  obtain ⟨s, a, p, hx⟩ := isNum_iff.1 hx
  obtain ⟨u, c, q, hy⟩ := isNum_iff.1 hy
  have e1 : R k x = rv (.number s a p) := by unfold R; rw [hx]
  have e2 : R k y = rv (.number u c q) := by unfold R; rw [hy]
  rw [e1, e2] at h
  unfold fadd Format.add
  rw [hx, hy]
  obtain ⟨r, m, b, h1, h2⟩ := sum_rv (s := s) (u := u) (a := a) (c := c) (p := p) (q := q)
  rw [← h2] at h
  rw [h1]
  exact near_nn' h

theorem fmul_nn {k : FloatKind} {x y : Nat} (hx : isNum k x = true) (hy : isNum k y = true) (h : 0 ≤ R k x * R k y) : 0 ≤ R k (fmul k x y) := by
  obtain ⟨s, a, p, hx⟩ := isNum_iff.1 hx
  obtain ⟨u, c, q, hy⟩ := isNum_iff.1 hy
  have e1 : R k x = rv (.number s a p) := by unfold R; rw [hx]
  have e2 : R k y = rv (.number u c q) := by unfold R; rw [hy]
  rw [e1, e2] at h
  unfold fmul Format.mul
  rw [hx, hy]
  rw [← prod_rv] at h
  exact near_nn' h

/-! ## The size of a vector -/

theorem size_fl {x y z : Nat} {B : Rat} (hx : isNum .f32 x = true) (hy : isNum .f32 y = true) (hz : isNum .f32 z = true) (hB : R .f32 x * R .f32 x + R .f32 y * R .f32 y + R .f32 z * R .f32 z ≤ B) (hB2 : B ≤ 100000000000000000000000000000) :
    fconvOk .f32 (innerN x y z) .f64 = true ∧ fconvOk .f64 (fsqrt (fconv .f32 (innerN x y z) .f64)) .f32 = true ∧ isNum .f32 (rootN (innerN x y z)) = true ∧ ∃ ρ, 0 ≤ ρ ∧ Nr (ρ * ρ) (R .f32 x * R .f32 x + R .f32 y * R .f32 y + R .f32 z * R .f32 z) ((R .f32 x * R .f32 x + R .f32 y * R .f32 y + R .f32 z * R .f32 z) / 2000000 + 11 * T) ∧ Nr (R .f32 (rootN (innerN x y z))) ρ (ρ / 16000000 + 3 * T) := by
  have hT := T_pos
  have hT1 := T_le
  have hG := Gr_ge
  have sx := sq_nonneg (R .f32 x)
  have sy := sq_nonneg (R .f32 y)
  have sz := sq_nonneg (R .f32 z)
  obtain ⟨i1, i2⟩ := inner_fl hx hy hz hB hB2
  have f1 := fmul_fl hx hx (by unfold Bd; constructor <;> grind)
  have f2 := fmul_fl hy hy (by unfold Bd; constructor <;> grind)
  have f3 := fmul_fl hz hz (by unfold Bd; constructor <;> grind)
  have g1 := fmul_nn hx hx sx
  have g2 := fmul_nn hy hy sy
  have g3 := fmul_nn hz hz sz
  have e1 := f1.err (M := R .f32 x * R .f32 x) (by unfold Bd; constructor <;> grind)
  have e2 := f2.err (M := R .f32 y * R .f32 y) (by unfold Bd; constructor <;> grind)
  have f4 := fadd_fl f1.1 f2.1 (by unfold Nr at e1 e2; unfold Bd; constructor <;> grind)
  have g4 := fadd_nn f1.1 f2.1 (by grind)
  have g5 := fadd_nn f4.1 f3.1 (by grind)
  have h0 : 0 ≤ R .f32 (innerN x y z) := g5
  clear e1 e2 f1 f2 f3 f4 g1 g2 g3 g4 g5
  obtain ⟨d1, d2, d3, ρ, p1, p2, p3⟩ := root_fl i1 h0 (by unfold Nr at i2; grind)
  refine ⟨d1, d2, d3, ρ, p1, ?_, p3⟩
  unfold Nr at i2 p2 ⊢
  constructor <;> grind

/-- The inner product is at most the product of the sizes. -/
theorem cauchy (a b c x y z : Rat) : (a * x + b * y + c * z) * (a * x + b * y + c * z) ≤ (a * a + b * b + c * c) * (x * x + y * y + z * z) := by
  have h1 := sq_nonneg (a * y - b * x)
  have h2 := sq_nonneg (a * z - c * x)
  have h3 := sq_nonneg (b * z - c * y)
  grind

/-- The triangle. -/
theorem triangle {a b c x y z σ e E : Rat} (hσ : 0 ≤ σ) (hE : 0 ≤ E) (h : x * x + y * y + z * z ≤ σ * σ) (h1 : Nr a x e) (h2 : Nr b y e) (h3 : Nr c z e) (he : 3 * (e * e) ≤ E * E) :
    a * a + b * b + c * c ≤ (σ + E) * (σ + E) := by
  obtain ⟨α, hα⟩ : ∃ α, a = x + α := ⟨a - x, by grind⟩
  obtain ⟨β, hβ⟩ : ∃ β, b = y + β := ⟨b - y, by grind⟩
  obtain ⟨γ, hγ⟩ : ∃ γ, c = z + γ := ⟨c - z, by grind⟩
  subst hα hβ hγ
  have s1 := sq_bd (a := α) (e := e) (by unfold Nr at h1; unfold Bd; constructor <;> grind)
  have s2 := sq_bd (a := β) (e := e) (by unfold Nr at h2; unfold Bd; constructor <;> grind)
  have s3 := sq_bd (a := γ) (e := e) (by unfold Nr at h3; unfold Bd; constructor <;> grind)
  have hc := cauchy x y z α β γ
  have hse : α * α + β * β + γ * γ ≤ E * E := by grind
  have p1 := Rat.mul_le_mul_of_nonneg_left hse (show 0 ≤ x * x + y * y + z * z by have := sq_nonneg x; have := sq_nonneg y; have := sq_nonneg z; grind)
  have p2 := Rat.mul_le_mul_of_nonneg_right h (sq_nonneg E)
  have hd : x * α + y * β + z * γ ≤ σ * E := le_of_sq (Rat.mul_nonneg hσ hE) (by
    have : σ * E * (σ * E) = σ * σ * (E * E) := by grind
    rw [this]
    grind)
  grind

/-- The sizes of two vectors, one of them near to the other one turned. -/
theorem size_near {a b c x y z C S ρ σ : Rat} (hρ : 0 ≤ ρ) (hσ : 0 ≤ σ) (hk : Nr (C * C + S * S) 1 (1 / 4000000))
    (h : Nr (ρ * ρ) (a * a + b * b + c * c) ((a * a + b * b + c * c) / 2000000 + 11 * T)) (h' : Nr (σ * σ) (x * x + y * y + z * z) ((x * x + y * y + z * z) / 2000000 + 11 * T))
    (h1 : Nr x (C * a - S * b) (51 / 100000)) (h2 : Nr y (S * a + C * b) (51 / 100000)) (h3 : Nr z c (51 / 100000)) :
    Nr σ ρ (ρ / 100000 + 9 / 10000) := by
  have hT := T_pos
  have hT1 := T_le
  have sa := sq_nonneg a
  have sb := sq_nonneg b
  have sc := sq_nonneg c
  have sx := sq_nonneg x
  have sy := sq_nonneg y
  have sz := sq_nonneg z
  have hturn : (C * a - S * b) * (C * a - S * b) + (S * a + C * b) * (S * a + C * b) = (C * C + S * S) * (a * a + b * b) := by grind
  obtain ⟨k1, k2⟩ := hk
  have m1 := Rat.mul_le_mul_of_nonneg_right k1 (show 0 ≤ a * a + b * b by grind)
  have m2 := Rat.mul_le_mul_of_nonneg_right k2 (show 0 ≤ a * a + b * b by grind)
  generalize C * a - S * b = P at *
  generalize S * a + C * b = Q at *
  generalize C * C + S * S = K at *
  have he : 3 * ((51 / 100000 : Rat) * (51 / 100000)) ≤ 884 / 1000000 * (884 / 1000000) := by decide +kernel
  have sP := sq_nonneg P
  have sQ := sq_nonneg Q
  have big : ∀ w : Rat, 0 ≤ w → w * w * (1 + 1 / 1000000) + 40 * T ≤ (w * (1 + 1 / 1000000) + 1 / 1000000000000000) * (w * (1 + 1 / 1000000) + 1 / 1000000000000000) := fun w hw => by
    have := sq_nonneg w
    grind
  have u1 : σ ≤ ρ * (1 + 4 / 1000000) + 885 / 1000000 := by
    have t1 := triangle (a := x) (b := y) (c := z) (x := P) (y := Q) (z := c) (σ := ρ * (1 + 1 / 1000000) + 1 / 1000000000000000) (e := 51 / 100000) (E := 884 / 1000000) (by grind) (by decide +kernel) (by
      have := big ρ hρ
      unfold Nr at h
      grind) h1 h2 h3 he
    have hw : 0 ≤ ρ * (1 + 1 / 1000000) + 1 / 1000000000000000 + 884 / 1000000 := by grind
    have := big _ hw
    have t2 : σ ≤ (ρ * (1 + 1 / 1000000) + 1 / 1000000000000000 + 884 / 1000000) * (1 + 1 / 1000000) + 1 / 1000000000000000 := le_of_sq (by grind) (by
      unfold Nr at h'
      grind)
    grind
  have u2 : ρ ≤ σ * (1 + 4 / 1000000) + 885 / 1000000 := by
    have t1 := triangle (a := P) (b := Q) (c := c) (x := x) (y := y) (z := z) (σ := σ * (1 + 1 / 1000000) + 1 / 1000000000000000) (e := 51 / 100000) (E := 884 / 1000000) (by grind) (by decide +kernel) (by
      have := big σ hσ
      unfold Nr at h'
      grind) h1.symm h2.symm h3.symm he
    have hw : 0 ≤ σ * (1 + 1 / 1000000) + 1 / 1000000000000000 + 884 / 1000000 := by grind
    have := big _ hw
    have t2 : ρ ≤ (σ * (1 + 1 / 1000000) + 1 / 1000000000000000 + 884 / 1000000) * (1 + 1 / 1000000) + 1 / 1000000000000000 := le_of_sq (by grind) (by
      unfold Nr at h
      grind)
    grind
  unfold Nr
  constructor <;> grind

end Go.Proofs.Ytilfdpllleninaa
