/- Intervals: what bits are worth lies between two rational numbers; operations on intervals, by computation. -/
import Derived.Test.YtilfdpllleninaaSize
namespace Go.Proofs.Ytilfdpllleninaa
open Ieee
set_option linter.unusedVariables false
set_option linter.unusedSimpArgs false

/-- An interval, or nothing known. -/
abbrev Iv := Option (Rat × Rat)

def I (k : FloatKind) (x : Nat) : Iv → Prop
  | none => True
  | some (a, b) => isNum k x = true ∧ a ≤ R k x ∧ R k x ≤ b

/-- The unit that is used for rounding. -/
def uI : FloatKind → Rat
  | .f32 => 1 / 16777216
  | .f64 => 1 / 9007199254740992
def tI : Rat := 1 / 1000000000000000000000000000000000000000000
def magI (a b : Rat) : Rat := if a ≤ 0 then (if -a ≤ b then b else -a) else b
/-- Rounded. -/
def rndI (k : FloatKind) (a b : Rat) : Iv :=
  let m := magI a b
  if m ≤ 1000000000000000000000000000000 ∧ a ≤ b then some (a - (m * uI k + tI), b + (m * uI k + tI)) else none
def addI (k : FloatKind) : Iv → Iv → Iv
  | some (a, b), some (c, d) => rndI k (a + c) (b + d)
  | _, _ => none
def subI (k : FloatKind) : Iv → Iv → Iv
  | some (a, b), some (c, d) => rndI k (a - d) (b - c)
  | _, _ => none
def min2 (a b : Rat) : Rat := if a ≤ b then a else b
def max2 (a b : Rat) : Rat := if a ≤ b then b else a
def mulI (k : FloatKind) : Iv → Iv → Iv
  | some (a, b), some (c, d) => rndI k (min2 (min2 (a * c) (a * d)) (min2 (b * c) (b * d))) (max2 (max2 (a * c) (a * d)) (max2 (b * c) (b * d)))
  | _, _ => none
def negI : Iv → Iv
  | some (a, b) => some (-b, -a)
  | none => none
/-- Within. -/
def inI (lo hi : Rat) : Iv → Bool
  | some (a, b) => decide (lo ≤ a) && decide (b ≤ hi)
  | none => false

theorem I.num {k : FloatKind} {x : Nat} {a b : Rat} (h : I k x (some (a, b))) : isNum k x = true := h.1
theorem I.lo {k : FloatKind} {x : Nat} {a b : Rat} (h : I k x (some (a, b))) : a ≤ R k x := h.2.1
theorem I.hi {k : FloatKind} {x : Nat} {a b : Rat} (h : I k x (some (a, b))) : R k x ≤ b := h.2.2
theorem I.of {k : FloatKind} {x : Nat} {a b : Rat} (h : isNum k x = true) (h1 : a ≤ R k x) (h2 : R k x ≤ b) : I k x (some (a, b)) := ⟨h, h1, h2⟩
theorem I.to {k : FloatKind} {x : Nat} {i : Iv} {lo hi : Rat} (h : I k x i) (hi' : inI lo hi i = true) : I k x (some (lo, hi)) := by
  cases i with
  | none => cases hi'
  | some p =>
    obtain ⟨a, b⟩ := p
    unfold inI at hi'
    rw [Bool.and_eq_true] at hi'
    have h1 := of_decide_eq_true hi'.1
    have h2 := of_decide_eq_true hi'.2
    exact ⟨h.1, Rat.le_trans h1 h.2.1, Rat.le_trans h.2.2 h2⟩
theorem I.mono {k : FloatKind} {x : Nat} {a b lo hi : Rat} (h : I k x (some (a, b))) (h1 : lo ≤ a) (h2 : b ≤ hi) : I k x (some (lo, hi)) := ⟨h.1, Rat.le_trans h1 h.2.1, Rat.le_trans h.2.2 h2⟩

theorem mag_bd {a b q : Rat} (h1 : a ≤ q) (h2 : q ≤ b) : Bd q (magI a b) := by
  unfold magI Bd
  split
  · split <;> constructor <;> grind
  · constructor <;> grind

theorem rnd_ok {k : FloatKind} {x : Nat} {q a b : Rat} (h : Bd q Gr → Fl k x q) (h1 : a ≤ q) (h2 : q ≤ b) : I k x (rndI k a b) := by
  unfold rndI
  simp only
  split
  · rename_i hm
    have hb := mag_bd h1 h2
    have hG := Gr_ge
    have hf := h (hb.mono (by grind))
    have he := hf.2 _ hb
    have hu : U k = uI k := by cases k <;> rfl
    have ht : T ≤ tI := T_le
    rw [hu] at he
    unfold Nr at he
    have h3 : magI a b * uI k = uI k * magI a b := Rat.mul_comm _ _
    refine ⟨hf.1, ?_, ?_⟩ <;> grind
  · trivial

theorem I.add {k : FloatKind} {x y : Nat} {i j : Iv} (hx : I k x i) (hy : I k y j) : I k (fadd k x y) (addI k i j) := by
  match i, j, hx, hy with
  | some (a, b), some (c, d), hx, hy => exact rnd_ok (fun hb => fadd_fl hx.1 hy.1 hb) (by have := hx.2.1; have := hy.2.1; grind) (by have := hx.2.2; have := hy.2.2; grind)
  | none, _, _, _ => trivial
  | some _, none, _, _ => trivial
theorem I.sub {k : FloatKind} {x y : Nat} {i j : Iv} (hx : I k x i) (hy : I k y j) : I k (fsub k x y) (subI k i j) := by
  match i, j, hx, hy with
  | some (a, b), some (c, d), hx, hy => exact rnd_ok (fun hb => fsub_fl hx.1 hy.1 hb) (by have := hx.2.1; have := hy.2.2; grind) (by have := hx.2.2; have := hy.2.1; grind)
  | none, _, _, _ => trivial
  | some _, none, _, _ => trivial

theorem min2_le (a b : Rat) : min2 a b ≤ a ∧ min2 a b ≤ b := by unfold min2; split <;> constructor <;> grind
theorem max2_ge (a b : Rat) : a ≤ max2 a b ∧ b ≤ max2 a b := by unfold max2; split <;> constructor <;> grind

theorem mul_box {a b c d x y : Rat} (h1 : a ≤ x) (h2 : x ≤ b) (h3 : c ≤ y) (h4 : y ≤ d) :
    min2 (min2 (a * c) (a * d)) (min2 (b * c) (b * d)) ≤ x * y ∧ x * y ≤ max2 (max2 (a * c) (a * d)) (max2 (b * c) (b * d)) := by
  obtain ⟨m1, m2⟩ := min2_le (a * c) (a * d)
  obtain ⟨m3, m4⟩ := min2_le (b * c) (b * d)
  obtain ⟨m5, m6⟩ := min2_le (min2 (a * c) (a * d)) (min2 (b * c) (b * d))
  obtain ⟨n1, n2⟩ := max2_ge (a * c) (a * d)
  obtain ⟨n3, n4⟩ := max2_ge (b * c) (b * d)
  obtain ⟨n5, n6⟩ := max2_ge (max2 (a * c) (a * d)) (max2 (b * c) (b * d))
  generalize min2 (min2 (a * c) (a * d)) (min2 (b * c) (b * d)) = lo at *
  generalize max2 (max2 (a * c) (a * d)) (max2 (b * c) (b * d)) = hi at *
  -- x y lies between x c and x d, each of them between corners
  have l1 : lo ≤ x * c ∧ x * c ≤ hi := by
    rcases Rat.le_total (a := 0) (b := c) with g | g
    · have p1 := Rat.mul_le_mul_of_nonneg_right h1 g
      have p2 := Rat.mul_le_mul_of_nonneg_right h2 g
      constructor <;> grind
    · have p1 := Rat.mul_le_mul_of_nonneg_right h1 (show 0 ≤ -c by grind)
      have p2 := Rat.mul_le_mul_of_nonneg_right h2 (show 0 ≤ -c by grind)
      constructor <;> grind
  have l2 : lo ≤ x * d ∧ x * d ≤ hi := by
    rcases Rat.le_total (a := 0) (b := d) with g | g
    · have p1 := Rat.mul_le_mul_of_nonneg_right h1 g
      have p2 := Rat.mul_le_mul_of_nonneg_right h2 g
      constructor <;> grind
    · have p1 := Rat.mul_le_mul_of_nonneg_right h1 (show 0 ≤ -d by grind)
      have p2 := Rat.mul_le_mul_of_nonneg_right h2 (show 0 ≤ -d by grind)
      constructor <;> grind
  rcases Rat.le_total (a := 0) (b := x) with g | g
  · have p1 := Rat.mul_le_mul_of_nonneg_left h3 g
    have p2 := Rat.mul_le_mul_of_nonneg_left h4 g
    constructor <;> grind
  · have p1 := Rat.mul_le_mul_of_nonneg_left h3 (show 0 ≤ -x by grind)
    have p2 := Rat.mul_le_mul_of_nonneg_left h4 (show 0 ≤ -x by grind)
    constructor <;> grind

theorem I.mul {k : FloatKind} {x y : Nat} {i j : Iv} (hx : I k x i) (hy : I k y j) : I k (fmul k x y) (mulI k i j) := by
  match i, j, hx, hy with
  | some (a, b), some (c, d), hx, hy =>
    obtain ⟨h1, h2⟩ := mul_box hx.2.1 hx.2.2 hy.2.1 hy.2.2
    exact rnd_ok (fun hb => fmul_fl hx.1 hy.1 hb) h1 h2
  | none, _, _, _ => trivial
  | some _, none, _, _ => trivial

/-- A square. -/
def sqI (k : FloatKind) : Iv → Iv
  | some (a, b) => if 0 ≤ a then rndI k (a * a) (b * b) else if b ≤ 0 then rndI k (b * b) (a * a) else rndI k 0 (max2 (a * a) (b * b))
  | none => none
theorem I.sq {k : FloatKind} {x : Nat} {i : Iv} (hx : I k x i) : I k (fmul k x x) (sqI k i) := by
  match i, hx with
  | some (a, b), hx =>
    obtain ⟨h0, h1, h2⟩ := hx
    unfold sqI
    simp only
    split
    · rename_i g
      exact rnd_ok (fun hb => fmul_fl h0 h0 hb) (sq_le g h1) (sq_le (Rat.le_trans g h1) h2)
    · split
      · rename_i g
        have e1 := sq_le (a := -b) (b := -R k x) (by grind) (by grind)
        have e2 := sq_le (a := -R k x) (b := -a) (by grind) (by grind)
        exact rnd_ok (fun hb => fmul_fl h0 h0 hb) (by grind) (by grind)
      · obtain ⟨m1, m2⟩ := max2_ge (a * a) (b * b)
        refine rnd_ok (fun hb => fmul_fl h0 h0 hb) (sq_nonneg _) ?_
        rcases Rat.le_total (a := 0) (b := R k x) with g | g
        · have := sq_le g h2
          grind
        · have := sq_le (a := -R k x) (b := -a) (by grind) (by grind)
          grind
  | none, _ => trivial

theorem I.neg {k : FloatKind} {x : Nat} {i : Iv} (hx : I k x i) : I k (fneg k x) (negI i) := by
  match i, hx with
  | some (a, b), hx =>
    obtain ⟨h1, h2⟩ := R_neg hx.1
    refine ⟨h1, ?_, ?_⟩ <;> rw [h2]
    · have := hx.2.2; grind
    · have := hx.2.1; grind
  | none, _ => trivial

/-! ## Quotients -/

def invI (k : FloatKind) (a b c d : Rat) : Iv :=
  let p := a / c; let q := a / d; let r := b / c; let s := b / d
  let lo := min2 (min2 p q) (min2 r s); let hi := max2 (max2 p q) (max2 r s)
  let m := magI lo hi
  if m ≤ 1000000000000000000000000000000 ∧ lo ≤ hi then some (lo - (2 * m * uI k + tI), hi + (2 * m * uI k + tI)) else none
def divI (k : FloatKind) : Iv → Iv → Iv
  | some (a, b), some (c, d) => if 0 < c ∨ d < 0 then invI k a b c d else none
  | _, _ => none

theorem inv_box {c d y : Rat} (h : 0 < c ∨ d < 0) (h3 : c ≤ y) (h4 : y ≤ d) : y ≠ 0 ∧ c ≠ 0 ∧ d ≠ 0 ∧ d⁻¹ ≤ y⁻¹ ∧ y⁻¹ ≤ c⁻¹ := by
  have key : ∀ u v : Rat, 0 < u → u ≤ v → v⁻¹ ≤ u⁻¹ := fun u v hu huv => by
    have hv : 0 < v := by grind
    have hiu : 0 < u⁻¹ := Rat.inv_pos.2 hu
    have hiv : 0 < v⁻¹ := Rat.inv_pos.2 hv
    have e1 : u * u⁻¹ = 1 := Rat.mul_inv_cancel u (by grind)
    have e2 : v * v⁻¹ = 1 := Rat.mul_inv_cancel v (by grind)
    have := Rat.mul_le_mul_of_nonneg_right huv (Rat.le_of_lt (Rat.mul_pos hiu hiv))
    have e3 : u * (u⁻¹ * v⁻¹) = v⁻¹ := by rw [← Rat.mul_assoc, e1, Rat.one_mul]
    have e4 : v * (u⁻¹ * v⁻¹) = u⁻¹ := by rw [Rat.mul_comm u⁻¹ v⁻¹, ← Rat.mul_assoc, e2, Rat.one_mul]
    rw [e3, e4] at this
    exact this
  have neg : ∀ u : Rat, u ≠ 0 → (-u)⁻¹ = -u⁻¹ := fun u hu => by
    refine Rat.inv_eq_of_mul_eq_one ?_
    have := Rat.mul_inv_cancel u hu
    grind
  rcases h with h | h
  · refine ⟨by grind, by grind, by grind, key y d (by grind) h4, key c y h h3⟩
  · refine ⟨by grind, by grind, by grind, ?_, ?_⟩
    · have := key (-d) (-y) (by grind) (by grind)
      rw [neg d (by grind), neg y (by grind)] at this
      grind
    · have := key (-y) (-c) (by grind) (by grind)
      rw [neg c (by grind), neg y (by grind)] at this
      grind

theorem I.div {k : FloatKind} {x y : Nat} {i j : Iv} (hx : I k x i) (hy : I k y j) : I k (fdiv k x y) (divI k i j) := by
  match i, j, hx, hy with
  | some (a, b), some (c, d), hx, hy =>
    unfold divI
    simp only
    split
    · rename_i h
      obtain ⟨y0, c0, d0, h1, h2⟩ := inv_box h hy.2.1 hy.2.2
      obtain ⟨l, u⟩ := mul_box hx.2.1 hx.2.2 h1 h2
      -- the corners, in another order
      have hlo : min2 (min2 (a * c⁻¹) (a * d⁻¹)) (min2 (b * c⁻¹) (b * d⁻¹)) ≤ R k x * (R k y)⁻¹ := by
        have e : ∀ p q : Rat, min2 p q = min2 q p := fun p q => by unfold min2; split <;> split <;> grind
        rw [e (a * c⁻¹), e (b * c⁻¹)]
        exact l
      have hhi : R k x * (R k y)⁻¹ ≤ max2 (max2 (a * c⁻¹) (a * d⁻¹)) (max2 (b * c⁻¹) (b * d⁻¹)) := by
        have e : ∀ p q : Rat, max2 p q = max2 q p := fun p q => by unfold max2; split <;> split <;> grind
        rw [e (a * c⁻¹), e (b * c⁻¹)]
        exact u
      unfold invI
      simp only [Rat.div_def _ c, Rat.div_def _ d]
      generalize min2 (min2 (a * c⁻¹) (a * d⁻¹)) (min2 (b * c⁻¹) (b * d⁻¹)) = lo at *
      generalize max2 (max2 (a * c⁻¹) (a * d⁻¹)) (max2 (b * c⁻¹) (b * d⁻¹)) = hi at *
      split
      · rename_i hm
        have hb := mag_bd hlo hhi
        have hX : R k x * (R k y)⁻¹ * R k y = R k x := by rw [Rat.mul_assoc, Rat.inv_mul_cancel _ y0, Rat.mul_one]
        obtain ⟨n1, n2⟩ := quot_fl hx.1 hy.1 y0 hX (hb.mono hm.1)
        have he := n2 _ hb
        have hu : U k = uI k := by cases k <;> rfl
        have ht : T ≤ tI := T_le
        rw [hu] at he
        unfold Nr at he
        refine ⟨n1, ?_, ?_⟩
        · show lo - (2 * magI lo hi * uI k + tI) ≤ _
          grind
        · show _ ≤ hi + (2 * magI lo hi * uI k + tI)
          grind
      · trivial
    · trivial
  | none, _, _, _ => trivial
  | some _, none, _, _ => trivial

/-! ## Roots, with hints, and changes of kind -/

def sqrtI (lo hi : Rat) : Iv → Iv
  | some (a, b) => if 0 ≤ lo ∧ lo ≤ hi ∧ hi ≤ 1000000000000000 ∧ 0 ≤ a ∧ lo * lo ≤ a * (1 - 1 / 16777216) ∧ b * (1 + 1 / 16777216) ≤ hi * hi then some (lo - (lo / 9007199254740992 + tI), hi + (hi / 9007199254740992 + tI)) else none
  | none => none

theorem I.sqrt {x : Nat} {i : Iv} (lo hi : Rat) (hx : I .f64 x i) : I .f64 (fsqrt x) (sqrtI lo hi i) := by
  match i, hx with
  | some (a, b), hx =>
    unfold sqrtI
    simp only
    split
    · rename_i h
      obtain ⟨g1, g2, g3, g4, g5, g6⟩ := h
      obtain ⟨h0, h1, h2⟩ := hx
      have hG := Gr_ge
      have ht : T ≤ tI := T_le
      have hb : b ≤ Gr := by
        have := sq_le (Rat.le_trans g1 g2) g3
        grind
      obtain ⟨n1, ρ, p1, p2, p3⟩ := sqrt_fl h0 (Rat.le_trans g4 h1) (Rat.le_trans h2 hb)
      have l1 : lo ≤ ρ := le_of_sq p1 (by unfold Nr at p2; grind)
      have l2 : ρ ≤ hi := le_of_sq (Rat.le_trans g1 g2) (by unfold Nr at p2; grind)
      unfold Nr at p3
      refine ⟨n1, ?_, ?_⟩ <;> grind
    · trivial
  | none, _ => trivial

theorem I.up {x : Nat} {i : Iv} (hx : I .f32 x i) : I .f64 (fconv .f32 x .f64) i := by
  match i, hx with
  | some (a, b), hx =>
    obtain ⟨h1, h2⟩ := up_R hx.1
    exact ⟨h1, by rw [h2]; exact hx.2.1, by rw [h2]; exact hx.2.2⟩
  | none, _ => trivial

def downI : Iv → Iv
  | some (a, b) => rndI .f32 a b
  | none => none
theorem I.down {x : Nat} {i : Iv} (hx : I .f64 x i) : I .f32 (fconv .f64 x .f32) (downI i) := by
  match i, hx with
  | some (a, b), hx => exact rnd_ok (fun hb => (down_fl hx.1 hb).2) hx.2.1 hx.2.2
  | none, _ => trivial
theorem I.fits {x : Nat} {a b : Rat} (hx : I .f64 x (some (a, b))) (h1 : -1000000000000000000000000000000 ≤ a) (h2 : b ≤ 1000000000000000000000000000000) : fconvOk .f64 x .f32 = true := by
  have hG := Gr_ge
  exact (down_fl hx.1 ⟨by have := hx.2.1; grind, by have := hx.2.2; grind⟩).1

/-! ## Comparisons -/

theorem I.lt {k : FloatKind} {x y : Nat} {a b c d : Rat} (hx : I k x (some (a, b))) (hy : I k y (some (c, d))) (h : b < c) : flt k x y = true := by
  rw [flt_R hx.1 hy.1]; exact decide_eq_true (by have := hx.2.2; have := hy.2.1; grind)
theorem I.not_lt {k : FloatKind} {x y : Nat} {a b c d : Rat} (hx : I k x (some (a, b))) (hy : I k y (some (c, d))) (h : d ≤ a) : flt k x y = false := by
  rw [flt_R hx.1 hy.1]; exact decide_eq_false (by have := hx.2.1; have := hy.2.2; grind)
theorem I.gt {k : FloatKind} {x y : Nat} {a b c d : Rat} (hx : I k x (some (a, b))) (hy : I k y (some (c, d))) (h : d < a) : fgt k x y = true := by
  rw [fgt_R hx.1 hy.1]; exact decide_eq_true (by have := hx.2.1; have := hy.2.2; grind)
theorem I.not_gt {k : FloatKind} {x y : Nat} {a b c d : Rat} (hx : I k x (some (a, b))) (hy : I k y (some (c, d))) (h : b ≤ c) : fgt k x y = false := by
  rw [fgt_R hx.1 hy.1]; exact decide_eq_false (by have := hx.2.2; have := hy.2.1; grind)
theorem I.ge {k : FloatKind} {x y : Nat} {a b c d : Rat} (hx : I k x (some (a, b))) (hy : I k y (some (c, d))) (h : d ≤ a) : fge k x y = true := by
  rw [fge_R hx.1 hy.1]; exact decide_eq_true (by have := hx.2.1; have := hy.2.2; grind)
theorem I.le {k : FloatKind} {x y : Nat} {a b c d : Rat} (hx : I k x (some (a, b))) (hy : I k y (some (c, d))) (h : b ≤ c) : fle k x y = true := by
  rw [fle_R hx.1 hy.1]; exact decide_eq_true (by have := hx.2.2; have := hy.2.1; grind)

/-- A number that is computed. -/
def atI (k : FloatKind) (x : Nat) (lo hi : Rat) : Bool := isNum k x && (decide (lo ≤ R k x) && decide (R k x ≤ hi))
theorem I.at {k : FloatKind} {x : Nat} {lo hi : Rat} (h : atI k x lo hi = true) : I k x (some (lo, hi)) := by
  unfold atI at h
  simp only [Bool.and_eq_true, decide_eq_true_eq] at h
  exact ⟨h.1, h.2.1, h.2.2⟩

end Go.Proofs.Ytilfdpllleninaa
