/- The angle of a point whose numbers are nearly those of a known direction (numbers alone). -/
import Derived.Test.YtilfdpllleninaaAngle
import Derived.Test.YtilfdpllleninaaExact
namespace Go.Proofs.Ytilfdpllleninaa
set_option linter.unusedVariables false
set_option linter.unusedSimpArgs false

theorem half_I1 {t : Nat} (h : I .f64 t (some (-1 / 1000000, 101 / 100))) : I .f64 (halfAngle t) (some (-1 / 1000000, 52 / 100)) :=
  (I.div h (I.add k_one (I.sqrt (98 / 100) (144 / 100) (I.add k_one (I.sq h))))).to (by decide +kernel)
theorem half_I2 {t : Nat} (h : I .f64 t (some (-1 / 1000000, 52 / 100))) : I .f64 (halfAngle t) (some (-1 / 1000000, 27 / 100)) :=
  (I.div h (I.add k_one (I.sqrt (98 / 100) (114 / 100) (I.add k_one (I.sq h))))).to (by decide +kernel)
theorem half_I3 {t : Nat} (h : I .f64 t (some (-1 / 1000000, 27 / 100))) : I .f64 (halfAngle t) (some (-1 / 1000000, 14 / 100)) :=
  (I.div h (I.add k_one (I.sqrt (98 / 100) (105 / 100) (I.add k_one (I.sq h))))).to (by decide +kernel)

def arcA (t : Nat) : Nat := arc (halfAngle (halfAngle (halfAngle t)))

theorem arcA_near {t t' : Nat} {e : Rat} (h : I .f64 t (some (-1 / 1000000, 101 / 100))) (h' : I .f64 t' (some (-1 / 1000000, 101 / 100))) (he0 : 1 / 1000000000 ≤ e) (he : e ≤ 1 / 200) (hn : Nr (R .f64 t) (R .f64 t') e) :
    isNum .f64 (arcA t) = true ∧ isNum .f64 (arcA t') = true ∧ Nr (R .f64 (arcA t)) (R .f64 (arcA t')) (2 * e + 1 / 100000) := by
  have a1 := half_near h h' (by grind) (by grind) hn
  have i1 := half_I1 h
  have j1 := half_I1 h'
  have a2 := half_near (i1.mono (by decide +kernel) (by decide +kernel)) (j1.mono (by decide +kernel) (by decide +kernel)) (by grind) (by grind) a1
  have i2 := half_I2 i1
  have j2 := half_I2 j1
  have a3 := half_near (i2.mono (by decide +kernel) (by decide +kernel)) (j2.mono (by decide +kernel) (by decide +kernel)) (by grind) (by grind) a2
  have i3 := half_I3 i2
  have j3 := half_I3 j2
  obtain ⟨b1, b2, b3⟩ := arc_near (i3.mono (by decide +kernel) (by decide +kernel)) (j3.mono (by decide +kernel) (by decide +kernel)) (by grind) (by grind) a3
  exact ⟨b1, b2, b3.mono (by grind)⟩

theorem quot_near {a b a' b' : Nat} {L ε : Rat} (ha : isNum .f64 a = true) (hb : isNum .f64 b = true) (ha' : isNum .f64 a' = true) (hb' : isNum .f64 b' = true) (hL : 0 < L) (hε : 1 / 1000000000 ≤ ε) (hε2 : ε ≤ 1 / 1000)
    (pa : 0 ≤ R .f64 a) (pa' : 0 ≤ R .f64 a') (h1 : R .f64 a' ≤ R .f64 b') (h2 : 7 / 10 ≤ R .f64 b') (h3 : R .f64 b' ≤ 101 / 100)
    (na : Nr (R .f64 a) (L * R .f64 a') (L * ε)) (nb : Nr (R .f64 b) (L * R .f64 b') (L * ε)) :
    I .f64 (fdiv .f64 a b) (some (-1 / 1000000, 101 / 100)) ∧ I .f64 (fdiv .f64 a' b') (some (-1 / 1000000, 101 / 100)) ∧ Nr (R .f64 (fdiv .f64 a b)) (R .f64 (fdiv .f64 a' b')) (5 * ε) := by
  have hT := T_le
  have hLε : 0 < L * ε := Rat.mul_pos hL (by grind)
  have e1 : L * ε ≤ L * (1 / 1000) := Rat.mul_le_mul_of_nonneg_left hε2 (Rat.le_of_lt hL)
  have e2 : L * (7 / 10) ≤ L * R .f64 b' := Rat.mul_le_mul_of_nonneg_left h2 (Rat.le_of_lt hL)
  have hy : L * (699 / 1000) ≤ R .f64 b := by unfold Nr at nb; grind
  have hy0 : 0 < R .f64 b := by grind
  have hX : R .f64 a * (R .f64 b)⁻¹ * R .f64 b = R .f64 a := by rw [Rat.mul_assoc, Rat.inv_mul_cancel _ (by grind), Rat.mul_one]
  have hX' : R .f64 a' * (R .f64 b')⁻¹ * R .f64 b' = R .f64 a' := by rw [Rat.mul_assoc, Rat.inv_mul_cancel _ (by grind), Rat.mul_one]
  have pX : 0 ≤ R .f64 a * (R .f64 b)⁻¹ := Rat.mul_nonneg pa (Rat.le_of_lt (Rat.inv_pos.2 hy0))
  have pX' : 0 ≤ R .f64 a' * (R .f64 b')⁻¹ := Rat.mul_nonneg pa' (Rat.le_of_lt (Rat.inv_pos.2 (by grind)))
  have qa := fun (hb1 : Bd (R .f64 a * (R .f64 b)⁻¹) 2) => quot_fl ha hb (by grind) hX (hb1.mono (by grind))
  have qb := fun (hb1 : Bd (R .f64 a' * (R .f64 b')⁻¹) 2) => quot_fl ha' hb' (by grind) hX' (hb1.mono (by grind))
  generalize R .f64 a * (R .f64 b)⁻¹ = X at *
  generalize R .f64 a' * (R .f64 b')⁻¹ = X' at *
  generalize R .f64 a = x at *
  generalize R .f64 b = y at *
  generalize R .f64 a' = x' at *
  generalize R .f64 b' = y' at *
  have uX' : X' ≤ 1 := by
    rw [← Rat.not_lt]
    intro hl
    have q := (Rat.mul_lt_mul_right (show 0 < y' by grind)).2 hl
    grind
  have key : (X - X') * (y * y') = (x - L * x') * y' - (y - L * y') * x' := by
    have i1 : (X - X') * (y * y') = X * y * y' - X' * y' * y := by grind
    rw [i1, hX, hX']
    grind
  have k1 : Bd ((x - L * x') * y') (L * ε * (101 / 100)) := Bd.mul na (by unfold Bd; constructor <;> grind)
  have k2 : Bd ((y - L * y') * x') (L * ε * (101 / 100)) := Bd.mul nb (by unfold Bd; constructor <;> grind)
  have k3 : Bd ((X - X') * (y * y')) (L * ε * (202 / 100)) := by rw [key]; unfold Bd at *; constructor <;> grind
  have w1 : L * (699 / 1000) * (7 / 10) ≤ y * y' := by
    have q1 := Rat.mul_le_mul_of_nonneg_left h2 (show 0 ≤ L * (699 / 1000) by grind)
    have q2 := Rat.mul_le_mul_of_nonneg_right hy (show 0 ≤ y' by grind)
    grind
  have w2 : L * ε * (489 / 1000) ≤ ε * (y * y') := by
    have q1 := Rat.mul_le_mul_of_nonneg_left w1 (show 0 ≤ ε by grind)
    grind
  have w0 : 0 < y * y' := by grind
  have hD : Bd (X - X') (9 / 2 * ε) := by
    constructor
    · rw [← Rat.not_lt]
      intro hl
      have q := (Rat.mul_lt_mul_right w0).2 hl
      unfold Bd at k3
      grind
    · rw [← Rat.not_lt]
      intro hl
      have q := (Rat.mul_lt_mul_right w0).2 hl
      unfold Bd at k3
      grind
  obtain ⟨f1, f2⟩ := qa (by unfold Bd at *; constructor <;> grind)
  obtain ⟨g1, g2⟩ := qb (by unfold Bd at *; constructor <;> grind)
  have f3 := f2 2 (by unfold Bd at *; constructor <;> grind)
  have g3 := g2 2 (by unfold Bd at *; constructor <;> grind)
  have hU : U .f64 = 1 / 9007199254740992 := rfl
  rw [hU] at f3 g3
  refine ⟨⟨f1, ?_, ?_⟩, ⟨g1, ?_, ?_⟩, ?_⟩
  · unfold Nr Bd at *; grind
  · unfold Nr Bd at *; grind
  · unfold Nr Bd at *; grind
  · unfold Nr Bd at *; grind
  · unfold Nr Bd at *; constructor <;> grind

/-! ## The sizes of both numbers -/

def ratio (a b : Nat) : Nat := match fgt .f64 a b with
  | true => fdiv .f64 b a
  | false => fdiv .f64 a b

/-- What is known of a direction: its sine and cosine without signs, and its part of a turn. -/
structure Ref (s c : Nat) (q : Rat) : Prop where
  sN : isNum .f64 s = true
  cN : isNum .f64 c = true
  s0 : 0 ≤ R .f64 s
  c0 : 0 ≤ R .f64 c
  s1 : R .f64 s ≤ 101 / 100
  c1 : R .f64 c ≤ 101 / 100
  q0 : 0 ≤ q
  q1 : q ≤ 1 / 4
  low : 1 / 100 ≤ R .f64 s ∨ q = 0
  high : 1 / 100 ≤ R .f64 c ∨ q = 1 / 4
  arcs : (R .f64 s + 1 / 200 ≤ R .f64 c ∧ 7 / 10 ≤ R .f64 c ∧ Nr (R .f64 (arcA (fdiv .f64 s c))) q (1 / 1000000)) ∨
    (R .f64 c + 1 / 200 ≤ R .f64 s ∧ 7 / 10 ≤ R .f64 s ∧ Nr (R .f64 (arcA (fdiv .f64 c s))) (1 / 4 - q) (1 / 1000000)) ∨
    (s = c ∧ 7 / 10 ≤ R .f64 s ∧ q = 1 / 8 ∧ Nr (R .f64 (arcA (fdiv .f64 s s))) q (1 / 1000000))

theorem less_near {k a : Nat} {A B δ : Rat} (hk : I .f64 k (some (A, A))) (hA : Bd A 1) (ha : isNum .f64 a = true) (hB : Bd B 1) (hn : Nr (R .f64 a) B δ) (hδ : δ ≤ 1) : isNum .f64 (fsub .f64 k a) = true ∧ Nr (R .f64 (fsub .f64 k a)) (A - B) (δ + 1 / 1000000000000) := by
  have hT := T_le
  have hG := Gr_ge
  have h1 := hk.2.1
  have h2 := hk.2.2
  have b : Bd (R .f64 k - R .f64 a) 3 := by unfold Nr Bd at *; constructor <;> grind
  have f := fsub_fl hk.1 ha (b.mono (by grind))
  have e := f.err64 b
  exact ⟨f.1, by unfold Nr at *; constructor <;> grind⟩

theorem first_near {a b s c : Nat} {L ε q : Rat} (hr : Ref s c q) (ha : isNum .f64 a = true) (hb : isNum .f64 b = true) (hL : 0 < L) (hε : 1 / 1000000000 ≤ ε) (hε2 : ε ≤ 1 / 1000) (pa : 0 ≤ R .f64 a) (pb : 0 ≤ R .f64 b)
    (na : Nr (R .f64 a) (L * R .f64 s) (L * ε)) (nb : Nr (R .f64 b) (L * R .f64 c) (L * ε)) :
    isNum .f64 (lessIf (fgt .f64 a b) 4598175219545276416 (arcA (ratio a b))) = true ∧ Nr (R .f64 (lessIf (fgt .f64 a b) 4598175219545276416 (arcA (ratio a b)))) q (10 * ε + 12 / 1000000) := by
  have e1 : L * ε ≤ L * (1 / 1000) := Rat.mul_le_mul_of_nonneg_left hε2 (Rat.le_of_lt hL)
  have hq := hr.q0
  have hq1 := hr.q1
  have hkq : I .f64 4598175219545276416 (some (1 / 4, 1 / 4)) := k_quarter
  rcases hr.arcs with ⟨h1, h2, h3⟩ | ⟨h1, h2, h3⟩ | ⟨h1, h2, h3, h4⟩
  · have l1 := Rat.mul_le_mul_of_nonneg_left h1 (Rat.le_of_lt hL)
    have hg : fgt .f64 a b = false := by
      rw [fgt_R ha hb]
      exact decide_eq_false (by unfold Nr at na nb; grind)
    obtain ⟨i1, i2, i3⟩ := quot_near ha hb hr.sN hr.cN hL hε hε2 pa hr.s0 (by grind) h2 hr.c1 na nb
    obtain ⟨j1, j2, j3⟩ := arcA_near i1 i2 (by grind) (by grind) i3
    unfold ratio lessIf
    rw [hg]
    exact ⟨j1, (j3.trans h3).mono (by grind)⟩
  · have l1 := Rat.mul_le_mul_of_nonneg_left h1 (Rat.le_of_lt hL)
    have hg : fgt .f64 a b = true := by
      rw [fgt_R ha hb]
      exact decide_eq_true (by unfold Nr at na nb; grind)
    obtain ⟨i1, i2, i3⟩ := quot_near hb ha hr.cN hr.sN hL hε hε2 pb hr.c0 (by grind) h2 hr.s1 nb na
    obtain ⟨j1, j2, j3⟩ := arcA_near i1 i2 (by grind) (by grind) i3
    unfold ratio lessIf
    rw [hg]
    obtain ⟨k1, k2⟩ := less_near hkq (by unfold Bd; constructor <;> decide +kernel) j1 (B := 1 / 4 - q) (by unfold Bd; constructor <;> grind) (j3.trans h3) (by grind)
    exact ⟨k1, by unfold Nr at *; constructor <;> grind⟩
  · subst h1
    cases hg : fgt .f64 a b with
    | false =>
      obtain ⟨i1, i2, i3⟩ := quot_near ha hb hr.sN hr.sN hL hε hε2 pa hr.s0 (by grind) h2 hr.s1 na nb
      obtain ⟨j1, j2, j3⟩ := arcA_near i1 i2 (by grind) (by grind) i3
      unfold ratio lessIf
      rw [hg]
      exact ⟨j1, (j3.trans h4).mono (by grind)⟩
    | true =>
      obtain ⟨i1, i2, i3⟩ := quot_near hb ha hr.sN hr.sN hL hε hε2 pb hr.s0 (by grind) h2 hr.s1 nb na
      obtain ⟨j1, j2, j3⟩ := arcA_near i1 i2 (by grind) (by grind) i3
      unfold ratio lessIf
      rw [hg]
      obtain ⟨k1, k2⟩ := less_near hkq (by unfold Bd; constructor <;> decide +kernel) j1 (B := q) (by unfold Bd; constructor <;> grind) (j3.trans h4) (by grind)
      have h5 : 1 / 4 - q = q := by rw [h3]; decide +kernel
      rw [h5] at k2
      exact ⟨k1, k2.mono (by grind)⟩

/-! ## The signs -/

theorem fabs_R {y : Nat} (hy : isNum .f64 y = true) : isNum .f64 (fabs y) = true ∧ (0 ≤ R .f64 y → R .f64 (fabs y) = R .f64 y) ∧ (R .f64 y ≤ 0 → R .f64 (fabs y) = -R .f64 y) := by
  obtain ⟨n1, v1⟩ := fabs_num hy
  have hp := two_pos (lplace .f64)
  rw [R_V hy, R_V n1, v1]
  refine ⟨n1, fun h => ?_, fun h => ?_⟩
  · have h1 : 0 ≤ V .f64 y := by
      rw [← Int.not_lt]
      intro hl
      have h2 : (V .f64 y : Rat) < 0 := by exact_mod_cast hl
      have := (Rat.mul_lt_mul_right hp).2 h2
      grind
    rw [Int.natAbs_of_nonneg h1]
  · have h1 : V .f64 y ≤ 0 := by
      rw [← Int.not_lt]
      intro hl
      have h2 : (0 : Rat) < (V .f64 y : Rat) := by exact_mod_cast hl
      have := (Rat.mul_lt_mul_right hp).2 h2
      grind
    have e : (((V .f64 y).natAbs : Nat) : Int) = -(V .f64 y) := by omega
    rw [e]
    have e2 : ((-(V .f64 y) : Int) : Rat) = -(V .f64 y : Rat) := by push_cast; rfl
    rw [e2]
    grind

def sgn (b : Bool) (a : Rat) : Rat := if b then -a else a

theorem abs_near {y : Nat} {A E : Rat} {sy : Bool} (hy : isNum .f64 y = true) (hA : 0 ≤ A) (h : Nr (R .f64 y) (sgn sy A) E) : isNum .f64 (fabs y) = true ∧ 0 ≤ R .f64 (fabs y) ∧ Nr (R .f64 (fabs y)) A E := by
  obtain ⟨h1, h2, h3⟩ := fabs_R hy
  refine ⟨h1, ?_⟩
  rcases (Rat.le_total : (0 : Rat) ≤ R .f64 y ∨ R .f64 y ≤ 0) with h0 | h0
  · rw [h2 h0]
    refine ⟨h0, ?_⟩
    unfold sgn at h
    cases sy <;> simp at h <;> unfold Nr at * <;> constructor <;> grind
  · rw [h3 h0]
    refine ⟨by grind, ?_⟩
    unfold sgn at h
    cases sy <;> simp at h <;> unfold Nr at * <;> constructor <;> grind

theorem sign_of {y : Nat} {A E : Rat} {sy : Bool} (hy : isNum .f64 y = true) (hA : E < A) (h : Nr (R .f64 y) (sgn sy A) E) : flt .f64 y 0 = sy := by
  rw [flt_R hy k_zero.1]
  have h0 : R .f64 0 = 0 := by decide +kernel
  rw [h0]
  unfold sgn at h
  cases sy
  · exact decide_eq_false (by simp at h; unfold Nr at h; grind)
  · exact decide_eq_true (by simp at h; unfold Nr at h; grind)

/-- The angle of what is nearly a known direction, up to whole turns. -/
theorem angle_near {y x s c : Nat} {L ε q : Rat} {sx sy : Bool} (hr : Ref s c q) (hy : isNum .f64 y = true) (hx : isNum .f64 x = true) (hL : 0 < L) (hε : 1 / 1000000000 ≤ ε) (hε2 : ε ≤ 1 / 1000)
    (ny : Nr (R .f64 y) (sgn sy (L * R .f64 s)) (L * ε)) (nx : Nr (R .f64 x) (sgn sx (L * R .f64 c)) (L * ε)) :
    isNum .f64 (angleC (fgt .f64 (fabs y) (fabs x)) (flt .f64 x 0) (flt .f64 y 0) (ratio (fabs y) (fabs x))) = true ∧ ∃ z : Int, (sx = false → z = 0) ∧ z.natAbs ≤ 1 ∧
      Nr (R .f64 (angleC (fgt .f64 (fabs y) (fabs x)) (flt .f64 x 0) (flt .f64 y 0) (ratio (fabs y) (fabs x)))) (sgn sy (if sx then 1 / 2 - q else q) + z) (10 * ε + 13 / 1000000) := by
  have e1 : L * ε ≤ L * (1 / 1000) := Rat.mul_le_mul_of_nonneg_left hε2 (Rat.le_of_lt hL)
  obtain ⟨a1, a2, a3⟩ := abs_near hy (Rat.mul_nonneg (Rat.le_of_lt hL) hr.s0) ny
  obtain ⟨b1, b2, b3⟩ := abs_near hx (Rat.mul_nonneg (Rat.le_of_lt hL) hr.c0) nx
  obtain ⟨f1, f2⟩ := first_near hr a1 b1 hL hε hε2 a2 b2 a3 b3
  have hq := hr.q0
  have hq1 := hr.q1
  have hx2 : flt .f64 x 0 = sx ∨ q = 1 / 4 := by
    rcases hr.high with h | h
    · left
      have := Rat.mul_le_mul_of_nonneg_left h (Rat.le_of_lt hL)
      exact sign_of hx (by grind) nx
    · exact .inr h
  have hy2 : flt .f64 y 0 = sy ∨ q = 0 := by
    rcases hr.low with h | h
    · left
      have := Rat.mul_le_mul_of_nonneg_left h (Rat.le_of_lt hL)
      exact sign_of hy (by grind) ny
    · exact .inr h
  unfold angleC
  rw [show arc (halfAngle (halfAngle (halfAngle (ratio (fabs y) (fabs x))))) = arcA (ratio (fabs y) (fabs x)) from rfl]
  generalize lessIf (fgt .f64 (fabs y) (fabs x)) 4598175219545276416 (arcA (ratio (fabs y) (fabs x))) = o1 at *
  have second : isNum .f64 (lessIf (flt .f64 x 0) 4602678819172646912 o1) = true ∧ Nr (R .f64 (lessIf (flt .f64 x 0) 4602678819172646912 o1)) (if sx then 1 / 2 - q else q) (10 * ε + 12 / 1000000 + 1 / 1000000000000) := by
    obtain ⟨l1, l2⟩ := less_near k_half (by unfold Bd; constructor <;> decide +kernel) f1 (B := q) (by unfold Bd; constructor <;> grind) f2 (by grind)
    unfold lessIf
    cases hc : flt .f64 x 0 <;> cases sx
    · exact ⟨f1, f2.mono (by grind)⟩
    · rcases hx2 with h | h
      · rw [hc] at h; cases h
      · have h5 : 1 / 2 - q = q := by rw [h]; decide +kernel
        refine ⟨f1, ?_⟩
        show Nr (R .f64 o1) (1 / 2 - q) _
        rw [h5]
        exact f2.mono (by grind)
    · rcases hx2 with h | h
      · rw [hc] at h; cases h
      · have h5 : 1 / 2 - q = q := by rw [h]; decide +kernel
        rw [h5] at l2
        exact ⟨l1, l2⟩
    · exact ⟨l1, l2⟩
  obtain ⟨s1, s2⟩ := second
  generalize lessIf (flt .f64 x 0) 4602678819172646912 o1 = o2 at *
  obtain ⟨n1, n2⟩ := R_neg s1
  have hw : ∀ (w : Nat) (a : Rat) (z : Int) (b : Rat), Nr (R .f64 w) b (10 * ε + 12 / 1000000 + 1 / 1000000000000) → b = a + z → Nr (R .f64 w) (a + z) (10 * ε + 13 / 1000000) := fun w a z b h e => by
    rw [← e]
    exact h.mono (by grind)
  have s3 : Nr (R .f64 (fneg .f64 o2)) (-(if sx then 1 / 2 - q else q)) (10 * ε + 12 / 1000000 + 1 / 1000000000000) := by
    rw [n2]
    unfold Nr at *
    constructor <;> grind
  unfold negIf
  cases hc : flt .f64 y 0 <;> cases sy
  · exact ⟨s1, 0, fun _ => rfl, by decide, hw _ _ 0 _ s2 (Rat.add_zero _).symm⟩
  · rcases hy2 with h | h
    · rw [hc] at h; cases h
    · subst h
      cases sx
      · exact ⟨s1, 0, fun _ => rfl, by decide, hw _ (sgn true 0) 0 0 s2 (by decide +kernel)⟩
      · exact ⟨s1, 1, (fun h => by cases h), by decide, hw _ (sgn true (1 / 2 - 0)) 1 (1 / 2 - 0) s2 (by decide +kernel)⟩
  · rcases hy2 with h | h
    · rw [hc] at h; cases h
    · subst h
      cases sx
      · exact ⟨n1, 0, fun _ => rfl, by decide, hw _ (sgn false 0) 0 (-0) s3 (by decide +kernel)⟩
      · exact ⟨n1, -1, (fun h => by cases h), by decide, hw _ (sgn false (1 / 2 - 0)) (-1) (-(1 / 2 - 0)) s3 (by decide +kernel)⟩
  · exact ⟨n1, 0, fun _ => rfl, by decide, hw _ _ 0 _ s3 (Rat.add_zero _).symm⟩

end Go.Proofs.Ytilfdpllleninaa
