/- How a body without a core pulls a place: near what a nearby place is pulled (numbers alone). -/
import Derived.Test.YtilfdpllleninaaErs
import Derived.Test.YtilfdpllleninaaSize
namespace Go.Proofs.Ytilfdpllleninaa
set_option linter.unusedVariables false
set_option linter.unusedSimpArgs false

theorem bd_sq {x u : Rat} (h : x * x ≤ u) (hu : u ≤ 102 / 100) : Bd x (101 / 100) := by
  constructor
  · have := le_of_sq (a := -x) (b := 101 / 100) (by decide +kernel) (by grind)
    grind
  · exact le_of_sq (by decide +kernel) (by grind)

/-- What pulls on a place that is nearly as far away as it should be. -/
theorem pull_unit {g u a : Rat} (hg : 0 ≤ g) (hu : Nr u 1 a) (ha : a ≤ 1 / 100) (h : Nr (g * g * (u * u * u)) 1 (1 / 100000)) : Nr (g * u) 1 (52 / 100 * a + 1 / 100000) ∧ Bd g (103 / 100) ∧ Nr g 1 (157 / 100 * a + 2 / 100000) := by
  have ha0 : 0 ≤ a := Bd.nonneg hu
  unfold Nr at hu h
  have hu0 : 0 ≤ u := by grind
  have e : g * g * (u * u * u) = g * u * (g * u) * u := by grind
  rw [e] at h
  have hgu : 0 ≤ g * u := Rat.mul_nonneg hg hu0
  have sq0 := sq_nonneg (g * u)
  have m1 := Rat.mul_le_mul_of_nonneg_left (show 1 - a ≤ u by grind) sq0
  have m2 := Rat.mul_le_mul_of_nonneg_left (show u ≤ 1 + a by grind) sq0
  have aa := Rat.mul_le_mul_of_nonneg_right ha ha0
  have aa0 := Rat.mul_nonneg ha0 ha0
  have aaa := Rat.mul_le_mul_of_nonneg_right ha aa0
  have aaa0 := Rat.mul_nonneg ha0 aa0
  generalize hq : g * u * (g * u) = q at *
  have up : q * (1 - a) ≤ (1 + 52 / 100 * a + 1 / 100000) * (1 + 52 / 100 * a + 1 / 100000) * (1 - a) := by grind
  have up' : q ≤ (1 + 52 / 100 * a + 1 / 100000) * (1 + 52 / 100 * a + 1 / 100000) := Rat.le_of_mul_le_mul_right up (by grind)
  have lo : (1 - 52 / 100 * a - 1 / 100000) * (1 - 52 / 100 * a - 1 / 100000) * (1 + a) ≤ q * (1 + a) := by grind
  have lo' : (1 - 52 / 100 * a - 1 / 100000) * (1 - 52 / 100 * a - 1 / 100000) ≤ q := Rat.le_of_mul_le_mul_right lo (by grind)
  rw [← hq] at up' lo'
  have k1 := le_of_sq (a := g * u) (b := 1 + 52 / 100 * a + 1 / 100000) (by grind) up'
  have k2 := le_of_sq (a := 1 - 52 / 100 * a - 1 / 100000) (b := g * u) hgu lo'
  have n1 : Nr (g * u) 1 (52 / 100 * a + 1 / 100000) := by unfold Nr; constructor <;> grind
  have g1 : g * (99 / 100) ≤ g * u := Rat.mul_le_mul_of_nonneg_left (by grind) hg
  have g2 : g * u ≤ g * (101 / 100) := Rat.mul_le_mul_of_nonneg_left (by grind) hg
  have g3 : g * (1 - a) ≤ g * u := Rat.mul_le_mul_of_nonneg_left (by grind) hg
  have g4 : g * u ≤ g * (1 + a) := Rat.mul_le_mul_of_nonneg_left (by grind) hg
  have bg : g ≤ 103 / 100 := by grind
  have g5 := Rat.mul_le_mul_of_nonneg_left bg ha0
  refine ⟨n1, ?_, ?_⟩
  · unfold Bd; constructor <;> grind
  · unfold Nr
    constructor <;> grind

/-- A push. -/
theorem kick_u {x y p q κ g e1 e2 : Rat} (hκ0 : 0 ≤ κ) (hκ : κ ≤ 34 / 1000) (bg : Bd g (103 / 100)) (hg : 0 ≤ g) (bx : Bd x (101 / 100)) (by' : Bd y (101 / 100)) (bp : Bd p (102 / 100)) (bq : Bd q (102 / 100)) (h1 : Bd e1 (1 / 200000)) (h2 : Bd e2 (1 / 200000)) :
    Nr (x * (p - κ * g * x + e1) + y * (q - κ * g * y + e2)) (x * p + y * q - κ * (g * (x * x + y * y))) (11 / 1000000) ∧
    Nr ((p - κ * g * x + e1) * (p - κ * g * x + e1) + (q - κ * g * y + e2) * (q - κ * g * y + e2)) (p * p + q * q - 2 * (κ * (g * (x * p + y * q))) + κ * κ * (g * (g * (x * x + y * y)))) (23 / 1000000) := by
  have bκ : Bd κ (34 / 1000) := by unfold Bd; constructor <;> grind
  have m1 := Bd.mul bx h1
  have m2 := Bd.mul by' h2
  have bA := Bd.sub bp (Bd.mul (Bd.mul bκ bg) bx)
  have bB := Bd.sub bq (Bd.mul (Bd.mul bκ bg) by')
  have m3 := Bd.mul bA h1
  have m4 := Bd.mul bB h2
  have m5 := Bd.mul h1 h1
  have m6 := Bd.mul h2 h2
  constructor
  · have i : x * (p - κ * g * x + e1) + y * (q - κ * g * y + e2) - (x * p + y * q - κ * (g * (x * x + y * y))) = x * e1 + y * e2 := by grind
    unfold Nr
    rw [i]
    unfold Bd at m1 m2
    constructor <;> grind
  · have i : (p - κ * g * x + e1) * (p - κ * g * x + e1) + (q - κ * g * y + e2) * (q - κ * g * y + e2) - (p * p + q * q - 2 * (κ * (g * (x * p + y * q))) + κ * κ * (g * (g * (x * x + y * y)))) = 2 * ((p - κ * g * x) * e1) + 2 * ((q - κ * g * y) * e2) + e1 * e1 + e2 * e2 := by grind
    unfold Nr
    rw [i]
    unfold Bd at m3 m4 m5 m6
    constructor <;> grind

/-- A move. -/
theorem drift_u {x y p q κ e1 e2 : Rat} (hκ0 : 0 ≤ κ) (hκ : κ ≤ 34 / 1000) (bx : Bd x (101 / 100)) (by' : Bd y (101 / 100)) (bp : Bd p (105 / 100)) (bq : Bd q (105 / 100)) (h1 : Bd e1 (1 / 200000)) (h2 : Bd e2 (1 / 200000)) :
    Nr ((x + 2 * κ * p + e1) * (x + 2 * κ * p + e1) + (y + 2 * κ * q + e2) * (y + 2 * κ * q + e2)) (x * x + y * y + 4 * (κ * (x * p + y * q)) + 4 * (κ * κ * (p * p + q * q))) (23 / 1000000) ∧
    Nr ((x + 2 * κ * p + e1) * p + (y + 2 * κ * q + e2) * q) (x * p + y * q + 2 * (κ * (p * p + q * q))) (11 / 1000000) := by
  have bκ : Bd (2 * κ) (68 / 1000) := by unfold Bd; constructor <;> grind
  have m1 := Bd.mul h1 bp
  have m2 := Bd.mul h2 bq
  have bA := Bd.add bx (Bd.mul bκ bp)
  have bB := Bd.add by' (Bd.mul bκ bq)
  have m3 := Bd.mul bA h1
  have m4 := Bd.mul bB h2
  have m5 := Bd.mul h1 h1
  have m6 := Bd.mul h2 h2
  constructor
  · have i : (x + 2 * κ * p + e1) * (x + 2 * κ * p + e1) + (y + 2 * κ * q + e2) * (y + 2 * κ * q + e2) - (x * x + y * y + 4 * (κ * (x * p + y * q)) + 4 * (κ * κ * (p * p + q * q))) = 2 * ((x + 2 * κ * p) * e1) + 2 * ((y + 2 * κ * q) * e2) + e1 * e1 + e2 * e2 := by grind
    unfold Nr
    rw [i]
    unfold Bd at m3 m4 m5 m6
    constructor <;> grind
  · have i : (x + 2 * κ * p + e1) * p + (y + 2 * κ * q + e2) * q - (x * p + y * q + 2 * (κ * (p * p + q * q))) = e1 * p + e2 * q := by grind
    unfold Nr
    rw [i]
    unfold Bd at m1 m2
    constructor <;> grind

/-- Nearly on a circle, and as fast as it should be. -/
structure Circ (x y p q a b c : Rat) : Prop where
  u : Nr (x * x + y * y) 1 a
  t : Bd (x * p + y * q) b
  v : Nr (p * p + q * q) 1 c
  a1 : a ≤ 1 / 100
  b1 : b ≤ 1 / 100
  c1 : c ≤ 1 / 100

theorem Circ.bds {x y p q a b c : Rat} (h : Circ x y p q a b c) : Bd x (101 / 100) ∧ Bd y (101 / 100) ∧ Bd p (101 / 100) ∧ Bd q (101 / 100) := by
  obtain ⟨hu, -, hv, ha, -, hc⟩ := h
  have s1 := sq_nonneg x
  have s2 := sq_nonneg y
  have s3 := sq_nonneg p
  have s4 := sq_nonneg q
  unfold Nr at hu hv
  exact ⟨bd_sq (u := 101 / 100) (by grind) (by decide +kernel), bd_sq (u := 101 / 100) (by grind) (by decide +kernel), bd_sq (u := 101 / 100) (by grind) (by decide +kernel), bd_sq (u := 101 / 100) (by grind) (by decide +kernel)⟩

/-- Behind half a push and a move. -/
theorem circ_mid {x y p q κ g a b c a' e1 e2 e3 e4 p1 q1 x2 y2 : Rat} (h : Circ x y p q a b c) (hκ0 : 0 ≤ κ) (hκ : κ ≤ 34 / 1000)
    (hg : 0 ≤ g) (hgu : Nr (g * g * ((x * x + y * y) * (x * x + y * y) * (x * x + y * y))) 1 (1 / 100000)) (he1 : Bd e1 (1 / 200000)) (he2 : Bd e2 (1 / 200000)) (he3 : Bd e3 (1 / 200000)) (he4 : Bd e4 (1 / 200000))
    (hp1 : p1 = p - κ * g * x + e1) (hq1 : q1 = q - κ * g * y + e2) (hx2 : x2 = x + 2 * κ * p1 + e3) (hy2 : y2 = y + 2 * κ * q1 + e4)
    (ha' : a + 14 / 100 * b + c / 200 + a / 200 + 1 / 10000 ≤ a') :
    Nr (x2 * x2 + y2 * y2) 1 a' ∧ Bd p1 (102 / 100) ∧ Bd q1 (102 / 100) := by
  obtain ⟨bx, by', bp, bq⟩ := h.bds
  obtain ⟨hu, ht, hv, ha, hb, hc⟩ := h
  have ha0 : 0 ≤ a := Bd.nonneg hu
  have hb0 : 0 ≤ b := ht.nonneg
  have hc0 : 0 ≤ c := Bd.nonneg hv
  have bκ : Bd κ (34 / 1000) := by unfold Bd; constructor <;> grind
  obtain ⟨n1, bg, gn⟩ := pull_unit hg hu ha hgu
  obtain ⟨k1, k2⟩ := kick_u hκ0 hκ bg hg bx by' (bp.mono (by decide +kernel)) (bq.mono (by decide +kernel)) he1 he2
  rw [← hp1, ← hq1] at k1 k2
  -- the speed behind the first push
  have κt := Bd.mul bκ (Bd.mul bg ht)
  have κκ := Bd.mul bκ bκ
  have gu : Bd (g * (x * x + y * y)) (102 / 100) := by unfold Nr Bd at *; constructor <;> grind
  have κκg := Bd.mul κκ (Bd.mul bg gu)
  have v1 : Nr (p1 * p1 + q1 * q1) 1 (c + 71 / 1000 * b + 13 / 10000) := by unfold Nr Bd at *; constructor <;> grind
  have s3 := sq_nonneg p1
  have s4 := sq_nonneg q1
  have bp1 : Bd p1 (102 / 100) := by
    have hv1 : p1 * p1 ≤ 1016 / 1000 := by unfold Nr at v1; grind
    constructor
    · have := le_of_sq (a := -p1) (b := 102 / 100) (by decide +kernel) (by grind)
      grind
    · exact le_of_sq (by decide +kernel) (by grind)
  have bq1 : Bd q1 (102 / 100) := by
    have hv1 : q1 * q1 ≤ 1016 / 1000 := by unfold Nr at v1; grind
    constructor
    · have := le_of_sq (a := -q1) (b := 102 / 100) (by decide +kernel) (by grind)
      grind
    · exact le_of_sq (by decide +kernel) (by grind)
  obtain ⟨d1, d2⟩ := drift_u hκ0 hκ bx by' (bp1.mono (by decide +kernel)) (bq1.mono (by decide +kernel)) he3 he4
  rw [← hx2, ← hy2] at d1 d2
  -- how the two differ
  have w1 : Nr (p1 * p1 + q1 * q1) (g * (x * x + y * y)) (c + 71 / 1000 * b + 13 / 10000 + (52 / 100 * a + 1 / 100000)) := by unfold Nr at *; constructor <;> grind
  have κw1 := Bd.mul bκ w1
  have κκw1 := Bd.mul κκ w1
  have κt1 := Bd.mul bκ k1
  have κt0 := Bd.mul bκ ht
  generalize hT1 : x * p1 + y * q1 = t1 at *
  generalize hV1 : p1 * p1 + q1 * q1 = v1' at *
  generalize hU : x * x + y * y = u at *
  generalize hTT : x * p + y * q = t at *
  generalize hVV : p * p + q * q = v at *
  generalize hGU : g * u = gu' at *
  -- the square behind the move
  have i1 : κ * (t1 - (t - κ * gu')) = κ * t1 - κ * t + κ * κ * gu' := by grind
  rw [i1] at κt1
  have i2 : κ * κ * (v1' - gu') = κ * κ * v1' - κ * κ * gu' := by grind
  rw [i2] at κκw1
  have U2 : Nr (x2 * x2 + y2 * y2) 1 a' := by unfold Nr Bd at *; constructor <;> grind
  exact ⟨U2, bp1, bq1⟩

/-- A step: half a push, a move, half a push. -/
theorem circ_step {x y p q κ g g' a b c a' b' c' e1 e2 e3 e4 e5 e6 p1 q1 x2 y2 p3 q3 : Rat} (h : Circ x y p q a b c) (hκ0 : 0 ≤ κ) (hκ : κ ≤ 34 / 1000)
    (hg : 0 ≤ g) (hgu : Nr (g * g * ((x * x + y * y) * (x * x + y * y) * (x * x + y * y))) 1 (1 / 100000)) (he1 : Bd e1 (1 / 200000)) (he2 : Bd e2 (1 / 200000)) (he3 : Bd e3 (1 / 200000)) (he4 : Bd e4 (1 / 200000)) (he5 : Bd e5 (1 / 200000)) (he6 : Bd e6 (1 / 200000))
    (hp1 : p1 = p - κ * g * x + e1) (hq1 : q1 = q - κ * g * y + e2) (hx2 : x2 = x + 2 * κ * p1 + e3) (hy2 : y2 = y + 2 * κ * q1 + e4)
    (hg' : 0 ≤ g') (hgu' : Nr (g' * g' * ((x2 * x2 + y2 * y2) * (x2 * x2 + y2 * y2) * (x2 * x2 + y2 * y2))) 1 (1 / 100000)) (hp3 : p3 = p1 - κ * g' * x2 + e5) (hq3 : q3 = q1 - κ * g' * y2 + e6)
    (ha' : a + 14 / 100 * b + c / 200 + a / 200 + 1 / 10000 ≤ a') (ha1 : a' ≤ 1 / 100) (hb' : b + 7 / 100 * c + b / 200 + 2 / 100 * (a + a') + 1 / 5000 ≤ b') (hb1 : b' ≤ 1 / 100) (hc' : c + 145 / 1000 * b + 2 / 100 * a' + a / 100 + c / 100 + 1 / 5000 ≤ c') (hc1 : c' ≤ 1 / 100) :
    Circ x2 y2 p3 q3 a' b' c' := by
  obtain ⟨bx, by', bp, bq⟩ := h.bds
  obtain ⟨hu, ht, hv, ha, hb, hc⟩ := h
  have ha0 : 0 ≤ a := Bd.nonneg hu
  have hb0 : 0 ≤ b := ht.nonneg
  have hc0 : 0 ≤ c := Bd.nonneg hv
  have bκ : Bd κ (34 / 1000) := by unfold Bd; constructor <;> grind
  obtain ⟨n1, bg, gn⟩ := pull_unit hg hu ha hgu
  obtain ⟨k1, k2⟩ := kick_u hκ0 hκ bg hg bx by' (bp.mono (by decide +kernel)) (bq.mono (by decide +kernel)) he1 he2
  rw [← hp1, ← hq1] at k1 k2
  -- the speed behind the first push
  have κt := Bd.mul bκ (Bd.mul bg ht)
  have κκ := Bd.mul bκ bκ
  have gu : Bd (g * (x * x + y * y)) (102 / 100) := by unfold Nr Bd at *; constructor <;> grind
  have κκg := Bd.mul κκ (Bd.mul bg gu)
  have v1 : Nr (p1 * p1 + q1 * q1) 1 (c + 71 / 1000 * b + 13 / 10000) := by unfold Nr Bd at *; constructor <;> grind
  have s3 := sq_nonneg p1
  have s4 := sq_nonneg q1
  have bp1 : Bd p1 (102 / 100) := by
    have hv1 : p1 * p1 ≤ 1016 / 1000 := by unfold Nr at v1; grind
    constructor
    · have := le_of_sq (a := -p1) (b := 102 / 100) (by decide +kernel) (by grind)
      grind
    · exact le_of_sq (by decide +kernel) (by grind)
  have bq1 : Bd q1 (102 / 100) := by
    have hv1 : q1 * q1 ≤ 1016 / 1000 := by unfold Nr at v1; grind
    constructor
    · have := le_of_sq (a := -q1) (b := 102 / 100) (by decide +kernel) (by grind)
      grind
    · exact le_of_sq (by decide +kernel) (by grind)
  obtain ⟨d1, d2⟩ := drift_u hκ0 hκ bx by' (bp1.mono (by decide +kernel)) (bq1.mono (by decide +kernel)) he3 he4
  rw [← hx2, ← hy2] at d1 d2
  -- how the two differ
  have w1 : Nr (p1 * p1 + q1 * q1) (g * (x * x + y * y)) (c + 71 / 1000 * b + 13 / 10000 + (52 / 100 * a + 1 / 100000)) := by unfold Nr at *; constructor <;> grind
  have κw1 := Bd.mul bκ w1
  have κκw1 := Bd.mul κκ w1
  have κt1 := Bd.mul bκ k1
  have κt0 := Bd.mul bκ ht
  generalize hT1 : x * p1 + y * q1 = t1 at *
  generalize hV1 : p1 * p1 + q1 * q1 = v1' at *
  generalize hU : x * x + y * y = u at *
  generalize hTT : x * p + y * q = t at *
  generalize hVV : p * p + q * q = v at *
  generalize hGU : g * u = gu' at *
  -- the square behind the move
  have i1 : κ * (t1 - (t - κ * gu')) = κ * t1 - κ * t + κ * κ * gu' := by grind
  rw [i1] at κt1
  have i2 : κ * κ * (v1' - gu') = κ * κ * v1' - κ * κ * gu' := by grind
  rw [i2] at κκw1
  have U2 : Nr (x2 * x2 + y2 * y2) 1 a' := by unfold Nr Bd at *; constructor <;> grind
  have s5 := sq_nonneg x2
  have s6 := sq_nonneg y2
  have bx2 : Bd x2 (101 / 100) := bd_sq (u := 101 / 100) (by unfold Nr at U2; grind) (by decide +kernel)
  have by2 : Bd y2 (101 / 100) := bd_sq (u := 101 / 100) (by unfold Nr at U2; grind) (by decide +kernel)
  obtain ⟨n2, bg2, gn2⟩ := pull_unit hg' U2 ha1 hgu'
  have hv1 : Bd v1' (102 / 100) := by unfold Nr Bd at *; constructor <;> grind
  obtain ⟨j1, j2⟩ := kick_u hκ0 hκ bg2 hg' bx2 by2 bp1 bq1 he5 he6
  rw [← hp3, ← hq3] at j1 j2
  generalize hT2 : x2 * p1 + y2 * q1 = t2 at *
  generalize hU2 : x2 * x2 + y2 * y2 = u2 at *
  rw [hV1] at j2
  generalize hG2 : g' * u2 = G2 at *
  -- the slope
  have w2 : Nr v1' G2 (c + 71 / 1000 * b + 13 / 10000 + (52 / 100 * a' + 1 / 100000)) := by unfold Nr at *; constructor <;> grind
  have κw2 := Bd.mul bκ w2
  have i3 : κ * (v1' - gu') = κ * v1' - κ * gu' := by grind
  rw [i3] at κw1
  have i4 : κ * (v1' - G2) = κ * v1' - κ * G2 := by grind
  rw [i4] at κw2
  have T3 : Bd (x2 * p3 + y2 * q3) b' := by unfold Nr Bd at *; constructor <;> grind
  -- the speed
  obtain ⟨r, hr⟩ : ∃ r, r = t2 - (t - κ * gu' + 2 * (κ * v1')) := ⟨_, rfl⟩
  have br : Bd r (22 / 1000000) := by unfold Nr Bd at *; constructor <;> grind
  have a2 := Bd.mul bκ (Bd.mul bg2 ht)
  have a5 := Bd.mul bκ (Bd.mul bg2 br)
  have hB : Bd (g' * (2 * gu' - 4 * v1' + G2) + g * gu') (320 / 100 * a + 215 / 100 * a' + 413 / 100 * c + 3 / 10 * b + 56 / 10000) := by
    have q1 := Bd.mul bg2 (show Bd (2 * (gu' - 1) - 4 * (v1' - 1) + (G2 - 1)) (104 / 100 * a + 2 / 100000 + 4 * (c + 71 / 1000 * b + 13 / 10000) + 52 / 100 * a' + 1 / 100000) by unfold Nr Bd at *; constructor <;> grind)
    have q2 := Bd.mul bg n1
    have i : g' * (2 * gu' - 4 * v1' + G2) + g * gu' = (g - g') + g' * (2 * (gu' - 1) - 4 * (v1' - 1) + (G2 - 1)) + g * (gu' - 1) := by grind
    rw [i]
    unfold Nr Bd at *
    constructor <;> grind
  have κB := Bd.mul κκ hB
  have i5 : κ * (g' * t2) = κ * (g' * t) - κ * κ * (g' * gu') + 2 * (κ * κ * (g' * v1')) + κ * (g' * r) := by rw [hr]; grind
  rw [i5] at j2
  have i6 : κ * κ * (g' * (2 * gu' - 4 * v1' + G2) + g * gu') = 2 * (κ * κ * (g' * gu')) - 4 * (κ * κ * (g' * v1')) + κ * κ * (g' * G2) + κ * κ * (g * gu') := by grind
  rw [i6] at κB
  have V3 : Nr (p3 * p3 + q3 * q3) 1 c' := by unfold Nr Bd at *; constructor <;> grind
  exact ⟨by rw [hU2]; exact U2, T3, V3, ha1, hb1, hc1⟩

def soft0 (x y z : Nat) : Nat := fadd .f32 (innerN x y z) 0
def share0 (x y z m : Nat) : Nat := fdiv .f32 m (fmul .f32 (soft0 x y z) (rootN (soft0 x y z)))

theorem zero32 : isNum .f32 0 = true ∧ R .f32 0 = 0 := by decide +kernel

theorem pull0_fl {x y z m : Nat} {Q : Rat} (hx : isNum .f32 x = true) (hy : isNum .f32 y = true) (hz : isNum .f32 z = true) (hm : isNum .f32 m = true)
    (hQ : Q = R .f32 x * R .f32 x + R .f32 y * R .f32 y + R .f32 z * R .f32 z) (hQ0 : 1 / 2 ≤ Q) (hB : Q ≤ 100) (hm1 : 1 / 5 ≤ R .f32 m) (hm2 : R .f32 m ≤ 4) :
    isNum .f32 (soft0 x y z) = true ∧ 0 < R .f32 (soft0 x y z) ∧ isNum .f32 (share0 x y z m) = true ∧ 0 ≤ R .f32 (share0 x y z m) ∧ Nr (R .f32 (share0 x y z m) * R .f32 (share0 x y z m) * (Q * Q * Q)) (R .f32 m * R .f32 m) (R .f32 m * R .f32 m * (5 / 1000000)) := by
  have hT := T_pos
  have hT1 := T_le
  have hG := Gr_ge
  obtain ⟨i1, i2⟩ := inner_fl (B := 100) hx hy hz (by grind) (by grind)
  rw [← hQ] at i2
  obtain ⟨c2, c3⟩ := zero32
  have b1 : Bd (R .f32 (innerN x y z) + R .f32 0) (Q + Q / 5000000 + 10 * T) := by rw [c3]; unfold Nr at i2; unfold Bd; constructor <;> grind
  have f1 := fadd_fl i1 c2 (b1.mono (by grind))
  have e1 := f1.err b1
  rw [c3] at e1
  have hq : Nr (R .f32 (soft0 x y z)) Q (Q / 3000000) := by
    unfold soft0
    unfold Nr at *
    constructor <;> grind
  have hqn : isNum .f32 (soft0 x y z) = true := f1.1
  unfold share0
  generalize soft0 x y z = q at *
  clear f1 e1 b1 i2
  have hqp : 0 < R .f32 q := by unfold Nr at hq; grind
  obtain ⟨d1, d2, d3, ρ, g1, g2, g3⟩ := root_fl hqn (Rat.le_of_lt hqp) (by unfold Nr at hq; grind)
  have hρ1 : 7 / 10 ≤ ρ := le_of_sq (by grind) (by unfold Nr at g2 hq; grind)
  have hρ2 : ρ ≤ 11 := le_of_sq (by grind) (by unfold Nr at g2 hq; grind)
  have hr1 : R .f32 (rootN q) ≤ ρ * (1 + 1 / 15000000) := by unfold Nr at g3; grind
  have hr2 : ρ * (1 - 1 / 15000000) ≤ R .f32 (rootN q) := by unfold Nr at g3; grind
  generalize hr : R .f32 (rootN q) = r at *
  have hr0 : 69 / 100 ≤ r := by grind
  have k1 := sq_le (show 0 ≤ r by grind) hr1
  have k2 := sq_le (show 0 ≤ ρ * (1 - 1 / 15000000) by grind) hr2
  have hrr : Nr (r * r) Q (Q / 1000000) := by
    unfold Nr at g2 hq ⊢
    constructor <;> grind
  have hqr0 : 0 ≤ R .f32 q * r := Rat.mul_nonneg (Rat.le_of_lt hqp) (by grind)
  have hqr1 : R .f32 q * r ≤ 101 * 12 := by
    have := Rat.mul_le_mul_of_nonneg_right (show R .f32 q ≤ 101 by unfold Nr at hq; grind) (show 0 ≤ r by grind)
    grind
  have f2 := fmul_fl hqn d3 (by rw [hr]; unfold Bd; constructor <;> grind)
  rw [hr] at f2
  have e2 := f2.err (M := R .f32 q * r) (by unfold Bd; constructor <;> grind)
  have hQr0 : 34 / 100 ≤ Q * r := by
    have a1 := Rat.mul_le_mul_of_nonneg_right hQ0 (show 0 ≤ r by grind)
    grind
  have hQr : Nr (R .f32 (fmul .f32 q (rootN q))) (Q * r) (Q * r / 2000000) := by
    have h1 : Nr (R .f32 q * r) (Q * r) (Q / 3000000 * r) := by
      unfold Nr at hq ⊢
      have a1 := Rat.mul_le_mul_of_nonneg_right hq.1 (show 0 ≤ r by grind)
      have a2 := Rat.mul_le_mul_of_nonneg_right hq.2 (show 0 ≤ r by grind)
      constructor <;> grind
    unfold Nr at e2 h1 ⊢
    constructor <;> grind
  generalize hw : fmul .f32 q (rootN q) = w at *
  have hwp : 3 / 10 ≤ R .f32 w := by unfold Nr at hQr; grind
  have hQr1 : Q * r ≤ 1300 := by
    have a1 := Rat.mul_le_mul_of_nonneg_right hB (show 0 ≤ r by grind)
    grind
  have hw40 : R .f32 w ≤ 40000 := by unfold Nr at hQr; grind
  obtain ⟨X, hX⟩ : ∃ X, X = R .f32 m / R .f32 w := ⟨_, rfl⟩
  have hXw : X * R .f32 w = R .f32 m := by rw [hX]; exact Rat.div_mul_cancel (by grind)
  have hX0 : 0 ≤ X := by
    refine Rat.le_of_mul_le_mul_right (c := R .f32 w) ?_ (by grind)
    grind
  have hX1 : X ≤ 400 := by
    refine Rat.le_of_mul_le_mul_right (c := R .f32 w) ?_ (by grind)
    grind
  obtain ⟨t1, t2⟩ := quot_fl hm f2.1 (by grind) hXw (by unfold Bd; constructor <;> grind)
  have t3 := t2 X (by unfold Bd; constructor <;> grind)
  have hU : U .f32 = 1 / 16777216 := rfl
  rw [hU] at t3
  obtain ⟨k3, k4⟩ := share_core (by grind) t3 hXw hQr (by grind) hw40 (by grind)
  generalize R .f32 (fdiv .f32 m w) = s at *
  generalize R .f32 m = M at *
  refine ⟨hqn, hqp, t1, k3, ?_⟩
  -- s Q r is M, r r is Q
  have sq := Nr.mul k4 k4 (show Bd M M by unfold Bd; constructor <;> grind) ((k4.toBd (show Bd M M by unfold Bd; constructor <;> grind)).mono (N := M * (1 + 1 / 1000000)) (by grind))
  have s0 : 0 ≤ s * Q * (s * Q) := sq_nonneg _
  have i1 : s * (Q * r) * (s * (Q * r)) = s * Q * (s * Q) * (r * r) := by grind
  have i2 : s * s * (Q * Q * Q) = s * Q * (s * Q) * Q := by grind
  rw [i1] at sq
  rw [i2]
  obtain ⟨r1, r2⟩ := hrr
  have m1 := Rat.mul_le_mul_of_nonneg_left (show Q * (1 - 1 / 1000000) ≤ r * r by grind) s0
  have m2 := Rat.mul_le_mul_of_nonneg_left (show r * r ≤ Q * (1 + 1 / 1000000) by grind) s0
  have i3 : s * Q * (s * Q) * (Q * (1 - 1 / 1000000)) = s * Q * (s * Q) * Q * (1 - 1 / 1000000) := by grind
  have i4 : s * Q * (s * Q) * (Q * (1 + 1 / 1000000)) = s * Q * (s * Q) * Q * (1 + 1 / 1000000) := by grind
  rw [i3] at m1
  rw [i4] at m2
  have hMM : 0 ≤ M * M := sq_nonneg M
  have p1 : 0 ≤ s * Q * (s * Q) * Q := Rat.mul_nonneg s0 (by grind)
  have e5 : M / 1000000 * (M * (1 + 1 / 1000000)) + M * (M / 1000000) = M * M * (2 / 1000000 + 1 / 1000000000000) := by grind
  rw [e5] at sq
  generalize s * Q * (s * Q) * Q = B at *
  generalize s * Q * (s * Q) * (r * r) = C at *
  generalize M * M = MM at *
  clear k4 i1 i2 i3 i4
  unfold Nr at *
  constructor <;> grind

/-- Shares of nearby places. -/
theorem share_nearby {s w P Q M η : Rat} (hs : 0 ≤ s) (hw : 0 ≤ w) (hP : 1 / 2 ≤ P) (h0 : 0 ≤ η) (hη : η ≤ 1 / 100) (hM : 0 < M) (h : Nr (s * s * (Q * Q * Q)) (M * M) (M * M * (5 / 1000000))) (g : Nr (w * w * (P * P * P)) (M * M) (M * M * (1 / 100000))) (hQ : Nr Q P (P * η)) : Nr s w (w * (16 / 10 * η + 1 / 100000)) := by
  have hP0 : 0 ≤ P := by grind
  have hPη := Rat.mul_nonneg hP0 h0
  have hPη1 := Rat.mul_le_mul_of_nonneg_left hη hP0
  have q1 : P * (1 - η) ≤ Q := by unfold Nr at hQ; grind
  have q2 : Q ≤ P * (1 + η) := by unfold Nr at hQ; grind
  have hQ0 : 0 ≤ Q := by grind
  have hMM : 0 < M * M := Rat.mul_pos hM hM
  have hPP : 0 < P * P * P := Rat.mul_pos (Rat.mul_pos (by grind) (by grind)) (by grind)
  have ss := sq_nonneg s
  have ww := sq_nonneg w
  have ηη := Rat.mul_nonneg h0 h0
  have ηη1 := Rat.mul_le_mul_of_nonneg_left hη h0
  -- cubes
  have c0 : 0 ≤ P * (1 - η) := by grind
  have cube : ∀ {a b : Rat}, 0 ≤ a → a ≤ b → a * a * a ≤ b * b * b := fun {a b} h1 h2 => by
    have m1 := sq_le h1 h2
    have m2 := Rat.mul_le_mul_of_nonneg_right m1 h1
    have m3 := Rat.mul_le_mul_of_nonneg_left h2 (sq_nonneg b)
    grind
  have k1 := cube c0 q1
  have k2 := cube hQ0 q2
  have lo3 : P * P * P * (1 - 3 * η) ≤ P * (1 - η) * (P * (1 - η)) * (P * (1 - η)) := by
    have e : P * (1 - η) * (P * (1 - η)) * (P * (1 - η)) = P * P * P * ((1 - η) * (1 - η) * (1 - η)) := by grind
    rw [e]
    refine Rat.mul_le_mul_of_nonneg_left ?_ (Rat.le_of_lt hPP)
    have := Rat.mul_le_mul_of_nonneg_left hη ηη
    grind
  have hi3 : P * (1 + η) * (P * (1 + η)) * (P * (1 + η)) ≤ P * P * P * (1 + 304 / 100 * η) := by
    have e : P * (1 + η) * (P * (1 + η)) * (P * (1 + η)) = P * P * P * ((1 + η) * (1 + η) * (1 + η)) := by grind
    rw [e]
    refine Rat.mul_le_mul_of_nonneg_left ?_ (Rat.le_of_lt hPP)
    have := Rat.mul_le_mul_of_nonneg_left hη ηη
    grind
  have u1 := Rat.mul_le_mul_of_nonneg_left (Rat.le_trans lo3 k1) ss
  have u2 := Rat.mul_le_mul_of_nonneg_left (Rat.le_trans k2 hi3) ss
  have i1 : s * s * (P * P * P * (1 - 3 * η)) = s * s * (1 - 3 * η) * (P * P * P) := by grind
  have i2 : s * s * (P * P * P * (1 + 304 / 100 * η)) = s * s * (1 + 304 / 100 * η) * (P * P * P) := by grind
  rw [i1] at u1
  rw [i2] at u2
  generalize P * P * P = PP at *
  generalize Q * Q * Q = QQ at *
  generalize M * M = MM at *
  have a1 : s * s * (1 - 3 * η) * PP ≤ w * w * (1 + 16 / 1000000) * PP := by
    have e : w * w * (1 + 16 / 1000000) * PP = w * w * PP * (1 + 16 / 1000000) := by grind
    rw [e]
    generalize w * w * PP = B at *
    generalize s * s * QQ = C at *
    unfold Nr at h g
    grind
  have a1' : s * s * (1 - 3 * η) ≤ w * w * (1 + 16 / 1000000) := Rat.le_of_mul_le_mul_right a1 hPP
  have a2 : w * w * (1 - 16 / 1000000) * PP ≤ s * s * (1 + 304 / 100 * η) * PP := by
    have e : w * w * (1 - 16 / 1000000) * PP = w * w * PP * (1 - 16 / 1000000) := by grind
    rw [e]
    generalize w * w * PP = B at *
    generalize s * s * QQ = C at *
    unfold Nr at h g
    grind
  have a2' : w * w * (1 - 16 / 1000000) ≤ s * s * (1 + 304 / 100 * η) := Rat.le_of_mul_le_mul_right a2 hPP
  have hi : s ≤ w * (1 + 16 / 10 * η + 1 / 100000) := by
    have hb := Rat.mul_nonneg hw (show 0 ≤ 1 + 16 / 10 * η + 1 / 100000 by grind)
    refine le_of_sq hb ?_
    have e : w * (1 + 16 / 10 * η + 1 / 100000) * (w * (1 + 16 / 10 * η + 1 / 100000)) = w * w * ((1 + 16 / 10 * η + 1 / 100000) * (1 + 16 / 10 * η + 1 / 100000)) := by grind
    rw [e]
    refine Rat.le_of_mul_le_mul_right (c := 1 - 3 * η) ?_ (by grind)
    refine Rat.le_trans a1' ?_
    rw [Rat.mul_assoc (w * w)]
    refine Rat.mul_le_mul_of_nonneg_left ?_ ww
    have := Rat.mul_le_mul_of_nonneg_left hη ηη
    grind
  have lo : w * (1 - 16 / 10 * η - 1 / 100000) ≤ s := by
    refine le_of_sq hs ?_
    have e : w * (1 - 16 / 10 * η - 1 / 100000) * (w * (1 - 16 / 10 * η - 1 / 100000)) = w * w * ((1 - 16 / 10 * η - 1 / 100000) * (1 - 16 / 10 * η - 1 / 100000)) := by grind
    rw [e]
    refine Rat.le_of_mul_le_mul_right (c := 1 + 304 / 100 * η) ?_ (by grind)
    refine Rat.le_trans ?_ a2'
    rw [Rat.mul_assoc (w * w)]
    refine Rat.mul_le_mul_of_nonneg_left ?_ ww
    have := Rat.mul_le_mul_of_nonneg_left hη ηη
    grind
  unfold Nr
  constructor <;> grind

/-- One part of a pull. -/
theorem term_near {dx dy dz Dx Dy s w M e r : Rat} (hx : Nr dx Dx e) (hy : Nr dy Dy e) (hz : Bd dz e) (he : e ≤ 1 / 1000) (hP : 1 / 2 ≤ Dx * Dx + Dy * Dy) (hr : 7 / 10 ≤ r) (hr1 : Dx * Dx + Dy * Dy ≤ r * r * (1001 / 1000)) (hr2 : r * r ≤ (Dx * Dx + Dy * Dy) * (103 / 100))
    (hs : 0 ≤ s) (hw : 0 ≤ w) (hM : 0 < M) (h : Nr (s * s * ((dx * dx + dy * dy + dz * dz) * (dx * dx + dy * dy + dz * dz) * (dx * dx + dy * dy + dz * dz))) (M * M) (M * M * (5 / 1000000))) (g : Nr (w * w * ((Dx * Dx + Dy * Dy) * (Dx * Dx + Dy * Dy) * (Dx * Dx + Dy * Dy))) (M * M) (M * M * (1 / 100000))) :
    Nr (dx * s) (Dx * w) (w * (6 * e + 2 / 100000 * r)) ∧ Nr (dy * s) (Dy * w) (w * (6 * e + 2 / 100000 * r)) ∧ Bd (dz * s) (w * (6 * e + 2 / 100000 * r)) := by
  have he0 : 0 ≤ e := hz.nonneg
  obtain ⟨ex, hex⟩ : ∃ ex, ex = dx - Dx := ⟨_, rfl⟩
  obtain ⟨ey, hey⟩ : ∃ ey, ey = dy - Dy := ⟨_, rfl⟩
  have bx : Bd ex e := by rw [hex]; exact hx
  have by' : Bd ey e := by rw [hey]; exact hy
  have hdx : dx = Dx + ex := by grind
  have hdy : dy = Dy + ey := by grind
  have ee := sq_bd bx
  have ff := sq_bd by'
  have zz := sq_bd hz
  have se := sq_nonneg ex
  have sf := sq_nonneg ey
  have sz := sq_nonneg dz
  have cc := cauchy Dx Dy 0 ex ey 0
  have rr0 := sq_nonneg r
  have rr : 49 / 100 ≤ r * r := by have := sq_le (a := 7 / 10) (b := r) (by decide +kernel) hr; grind
  -- the inner product of the difference
  have hin : ∀ t : Rat, t * t = (Dx * ex + Dy * ey) * (Dx * ex + Dy * ey) → t ≤ 1416 / 1000 * (r * e) := fun t ht => by
    have hre := Rat.mul_nonneg (show 0 ≤ r by grind) he0
    refine le_of_sq (by grind) ?_
    rw [ht]
    have m1 := Rat.mul_le_mul_of_nonneg_left (show ex * ex + ey * ey ≤ 2 * (e * e) by grind) (show 0 ≤ Dx * Dx + Dy * Dy by grind)
    have m2 := Rat.mul_le_mul_of_nonneg_right hr1 (show 0 ≤ 2 * (e * e) by grind)
    have e1 : (Dx * ex + Dy * ey + 0 * 0) * (Dx * ex + Dy * ey + 0 * 0) = (Dx * ex + Dy * ey) * (Dx * ex + Dy * ey) := by grind
    have e2 : (Dx * Dx + Dy * Dy + 0 * 0) * (ex * ex + ey * ey + 0 * 0) = (Dx * Dx + Dy * Dy) * (ex * ex + ey * ey) := by grind
    rw [e1, e2] at cc
    have e3 : 1416 / 1000 * (r * e) * (1416 / 1000 * (r * e)) = 1416 / 1000 * (1416 / 1000) * (r * r * (e * e)) := by grind
    have e4 : r * r * (1001 / 1000) * (2 * (e * e)) = 2002 / 1000 * (r * r * (e * e)) := by grind
    rw [e3]
    rw [e4] at m2
    have := Rat.mul_nonneg rr0 (sq_nonneg e)
    grind
  have in1 := hin (Dx * ex + Dy * ey) rfl
  have in2 := hin (-(Dx * ex + Dy * ey)) (by grind)
  have ere : e * e ≤ 1 / 1000 * e := by have := Rat.mul_le_mul_of_nonneg_right he he0; grind
  have er : 7 / 10 * e ≤ r * e := Rat.mul_le_mul_of_nonneg_right hr he0
  have hrp : 0 < r := by grind
  obtain ⟨η, hη⟩ : ∃ η, η = 3 * e / r := ⟨_, rfl⟩
  have hηr : η * r = 3 * e := by rw [hη]; exact Rat.div_mul_cancel (by grind)
  have h0 : 0 ≤ η := by
    refine Rat.le_of_mul_le_mul_right (c := r) ?_ hrp
    grind
  have h1 : η ≤ 1 / 100 := by
    refine Rat.le_of_mul_le_mul_right (c := r) ?_ hrp
    grind
  have hQ : Nr (dx * dx + dy * dy + dz * dz) (Dx * Dx + Dy * Dy) ((Dx * Dx + Dy * Dy) * η) := by
    have e1 : dx * dx + dy * dy + dz * dz - (Dx * Dx + Dy * Dy) = 2 * (Dx * ex + Dy * ey) + ex * ex + ey * ey + dz * dz := by rw [hdx, hdy]; grind
    have m1 := Rat.mul_le_mul_of_nonneg_right hr2 h0
    have e2 : r * r * η = 3 * (r * e) := by
      have : r * r * η = r * (η * r) := by grind
      rw [this, hηr]
      grind
    rw [e2] at m1
    unfold Nr
    rw [e1]
    constructor <;> grind
  have S := share_nearby hs hw hP h0 h1 hM h g hQ
  have hS1 : s ≤ w * (102 / 100) := by
    have := Rat.mul_le_mul_of_nonneg_left (show 16 / 10 * η + 1 / 100000 ≤ 2 / 100 by grind) hw
    unfold Nr at S
    grind
  have se1 := Rat.mul_le_mul_of_nonneg_right hS1 he0
  have part : ∀ {X x : Rat}, X * X ≤ r * r * (1001 / 1000) → Bd x e → Nr ((X + x) * s) (X * w) (w * (6 * e + 2 / 100000 * r)) := fun {X x} hX hxe => by
    have bX : Bd X (r * (1001 / 1000)) := by
      have hq : X * X ≤ r * (1001 / 1000) * (r * (1001 / 1000)) := by grind
      have hq' : -X * -X ≤ r * (1001 / 1000) * (r * (1001 / 1000)) := by grind
      constructor
      · have := le_of_sq (show 0 ≤ r * (1001 / 1000) by grind) hq'
        grind
      · exact le_of_sq (by grind) hq
    have m1 := Bd.mul hxe (show Bd s s by unfold Bd; constructor <;> grind)
    have m2 := Bd.mul bX (Nr.bd.1 S)
    have e1 : (X + x) * s - X * w = x * s + X * (s - w) := by grind
    have e2 : r * (1001 / 1000) * (w * (16 / 10 * η + 1 / 100000)) = 1001 / 1000 * (w * (16 / 10 * (η * r) + 1 / 100000 * r)) := by grind
    rw [e2, hηr] at m2
    have wr := Rat.mul_nonneg hw (show 0 ≤ r by grind)
    have we := Rat.mul_nonneg hw he0
    unfold Nr
    rw [e1]
    unfold Bd at m1 m2
    constructor <;> grind
  have sX := sq_nonneg Dx
  have sY := sq_nonneg Dy
  refine ⟨?_, ?_, ?_⟩
  · rw [hdx]
    exact part (by grind) bx
  · rw [hdy]
    exact part (by grind) by'
  · have m1 := Bd.mul hz (show Bd s s by unfold Bd; constructor <;> grind)
    have wr := Rat.mul_nonneg hw (show 0 ≤ r by grind)
    have we := Rat.mul_nonneg hw he0
    unfold Bd at m1 ⊢
    constructor <;> grind

end Go.Proofs.Ytilfdpllleninaa
