/- Turned vectors keep their lengths, nearly; how far a place of an ellipse is from its middle (numbers alone). -/
import Derived.Test.YtfbnehkbialkaaaGreatFold
import Derived.Test.YtfbnehkbialkaaaGreatSize
namespace Go.Proofs.YtfbnehkbialkaaaGreat
set_option linter.unusedVariables false
set_option linter.unusedSimpArgs false

theorem part_bd {a b : Rat} (h : a * a + b * b ≤ 51) : Bd a (15 / 2) ∧ Bd b (15 / 2) := by
  have sa := sq_nonneg a
  have sb := sq_nonneg b
  have f : ∀ {x : Rat}, x * x ≤ 51 → Bd x (15 / 2) := fun {x} hx => by
    constructor
    · have : -x ≤ 15 / 2 := le_of_sq (by decide +kernel) (by grind)
      grind
    · exact le_of_sq (by decide +kernel) (by grind)
  exact ⟨f (by grind), f (by grind)⟩

theorem near_sq {x X : Rat} (h : Nr x X (1 / 20000000000000)) (b : Bd X 16) : Nr (x * x) (X * X) (1 / 500000000000) := by
  have m := Nr.mul h h b (h.toBd b)
  exact m.mono (by decide +kernel)

/-- A turned pair of numbers. -/
theorem rot_near {u v c s : Nat} (hu : isNum .f64 u = true) (hv : isNum .f64 v = true) (hc : isNum .f64 c = true) (hs : isNum .f64 s = true) (hQ : R .f64 u * R .f64 u + R .f64 v * R .f64 v ≤ 51)
    (one : Nr (R .f64 s * R .f64 s + R .f64 c * R .f64 c) 1 (1 / 1000000)) (bs : Bd (R .f64 s) (1000001 / 1000000)) (bc : Bd (R .f64 c) (1000001 / 1000000)) :
    isNum .f64 (fsub .f64 (fmul .f64 u c) (fmul .f64 v s)) = true ∧ isNum .f64 (fadd .f64 (fmul .f64 u s) (fmul .f64 v c)) = true ∧
    Nr (R .f64 (fsub .f64 (fmul .f64 u c) (fmul .f64 v s)) * R .f64 (fsub .f64 (fmul .f64 u c) (fmul .f64 v s)) + R .f64 (fadd .f64 (fmul .f64 u s) (fmul .f64 v c)) * R .f64 (fadd .f64 (fmul .f64 u s) (fmul .f64 v c))) (R .f64 u * R .f64 u + R .f64 v * R .f64 v)
      ((R .f64 u * R .f64 u + R .f64 v * R .f64 v) * (1 / 1000000) + 1 / 100000000000) := by
  have hT := T_le
  have hG := Gr_ge
  obtain ⟨bu, bv⟩ := part_bd hQ
  have m1 := (Bd.mul bu bc).mono (N := 76 / 10) (by decide +kernel)
  have m2 := (Bd.mul bv bs).mono (N := 76 / 10) (by decide +kernel)
  have m3 := (Bd.mul bu bs).mono (N := 76 / 10) (by decide +kernel)
  have m4 := (Bd.mul bv bc).mono (N := 76 / 10) (by decide +kernel)
  have f1 := fmul_fl hu hc (m1.mono (by grind))
  have f2 := fmul_fl hv hs (m2.mono (by grind))
  have f3 := fmul_fl hu hs (m3.mono (by grind))
  have f4 := fmul_fl hv hc (m4.mono (by grind))
  have e1 := f1.err64 m1
  have e2 := f2.err64 m2
  have e3 := f3.err64 m3
  have e4 := f4.err64 m4
  have b5 : Bd (R .f64 (fmul .f64 u c) - R .f64 (fmul .f64 v s)) 16 := by unfold Nr Bd at *; constructor <;> grind
  have b6 : Bd (R .f64 (fmul .f64 u s) + R .f64 (fmul .f64 v c)) 16 := by unfold Nr Bd at *; constructor <;> grind
  have f5 := fsub_fl f1.1 f2.1 (b5.mono (by grind))
  have f6 := fadd_fl f3.1 f4.1 (b6.mono (by grind))
  have e5 := f5.err64 b5
  have e6 := f6.err64 b6
  have n5 : Nr (R .f64 (fsub .f64 (fmul .f64 u c) (fmul .f64 v s))) (R .f64 u * R .f64 c - R .f64 v * R .f64 s) (1 / 20000000000000) := by unfold Nr at *; constructor <;> grind
  have n6 : Nr (R .f64 (fadd .f64 (fmul .f64 u s) (fmul .f64 v c))) (R .f64 u * R .f64 s + R .f64 v * R .f64 c) (1 / 20000000000000) := by unfold Nr at *; constructor <;> grind
  have q5 := near_sq n5 (by unfold Bd at *; constructor <;> grind)
  have q6 := near_sq n6 (by unfold Bd at *; constructor <;> grind)
  refine ⟨f5.1, f6.1, ?_⟩
  have i : (R .f64 u * R .f64 c - R .f64 v * R .f64 s) * (R .f64 u * R .f64 c - R .f64 v * R .f64 s) + (R .f64 u * R .f64 s + R .f64 v * R .f64 c) * (R .f64 u * R .f64 s + R .f64 v * R .f64 c) = (R .f64 u * R .f64 u + R .f64 v * R .f64 v) * (R .f64 s * R .f64 s + R .f64 c * R .f64 c) := by grind
  have p0 : 0 ≤ R .f64 u * R .f64 u + R .f64 v * R .f64 v := by have := sq_nonneg (R .f64 u); have := sq_nonneg (R .f64 v); grind
  have k := Bd.mul (show Bd (R .f64 u * R .f64 u + R .f64 v * R .f64 v) (R .f64 u * R .f64 u + R .f64 v * R .f64 v) by unfold Bd; constructor <;> grind) (Nr.bd.1 one)
  have i2 : (R .f64 u * R .f64 u + R .f64 v * R .f64 v) * (R .f64 s * R .f64 s + R .f64 c * R .f64 c - 1) = (R .f64 u * R .f64 u + R .f64 v * R .f64 v) * (R .f64 s * R .f64 s + R .f64 c * R .f64 c) - (R .f64 u * R .f64 u + R .f64 v * R .f64 v) := by grind
  rw [i2, ← i] at k
  unfold Nr Bd at *
  constructor <;> grind

/-- A number that is tilted. -/
theorem tilt_near {v c s : Nat} (hv : isNum .f64 v = true) (hc : isNum .f64 c = true) (hs : isNum .f64 s = true) (bv : Bd (R .f64 v) (15 / 2))
    (one : Nr (R .f64 s * R .f64 s + R .f64 c * R .f64 c) 1 (1 / 1000000)) (bs : Bd (R .f64 s) (1000001 / 1000000)) (bc : Bd (R .f64 c) (1000001 / 1000000)) :
    isNum .f64 (fmul .f64 v c) = true ∧ isNum .f64 (fmul .f64 v s) = true ∧ Nr (R .f64 (fmul .f64 v c) * R .f64 (fmul .f64 v c) + R .f64 (fmul .f64 v s) * R .f64 (fmul .f64 v s)) (R .f64 v * R .f64 v) (R .f64 v * R .f64 v * (1 / 1000000) + 1 / 100000000000) := by
  have hT := T_le
  have hG := Gr_ge
  have m1 := (Bd.mul bv bc).mono (N := 76 / 10) (by decide +kernel)
  have m2 := (Bd.mul bv bs).mono (N := 76 / 10) (by decide +kernel)
  have f1 := fmul_fl hv hc (m1.mono (by grind))
  have f2 := fmul_fl hv hs (m2.mono (by grind))
  have n1 := (f1.err64 m1).mono (F := 1 / 20000000000000) (by grind)
  have n2 := (f2.err64 m2).mono (F := 1 / 20000000000000) (by grind)
  have q1 := near_sq n1 (m1.mono (by decide +kernel))
  have q2 := near_sq n2 (m2.mono (by decide +kernel))
  have k := Bd.mul (show Bd (R .f64 v * R .f64 v) (R .f64 v * R .f64 v) by have := sq_nonneg (R .f64 v); unfold Bd; constructor <;> grind) (Nr.bd.1 one)
  have i2 : R .f64 v * R .f64 v * (R .f64 s * R .f64 s + R .f64 c * R .f64 c - 1) = R .f64 v * R .f64 s * (R .f64 v * R .f64 s) + R .f64 v * R .f64 c * (R .f64 v * R .f64 c) - R .f64 v * R .f64 v := by grind
  rw [i2] at k
  refine ⟨f1.1, f2.1, ?_⟩
  unfold Nr Bd at *
  constructor <;> grind

/-- The square of what is narrowed. -/
theorem down_sq {x : Nat} (hx : isNum .f64 x = true) (b : Bd (R .f64 x) 16) : fconvOk .f64 x .f32 = true ∧ isNum .f32 (fconv .f64 x .f32) = true ∧ Bd (R .f32 (fconv .f64 x .f32)) 17 ∧ Nr (R .f32 (fconv .f64 x .f32) * R .f32 (fconv .f64 x .f32)) (R .f64 x * R .f64 x) (R .f64 x * R .f64 x * (13 / 100000000) + 1 / 100000000000000000000) := by
  have hT := T_le
  have hT0 := T_pos
  have hG := Gr_ge
  obtain ⟨d1, d2⟩ := down_fl hx (b.mono (by grind))
  have hb := abs_bd (R .f64 x)
  have e := d2.err (M := absR (R .f64 x)) hb
  have ha : absR (R .f64 x) * absR (R .f64 x) = R .f64 x * R .f64 x := by
    unfold absR
    split
    · grind
    · rfl
  have ha0 : 0 ≤ absR (R .f64 x) := by unfold absR; split <;> grind
  have ha1 : absR (R .f64 x) ≤ 16 := by unfold absR; unfold Bd at b; split <;> grind
  generalize absR (R .f64 x) = a at *
  have m := Nr.mul e e hb (e.toBd hb)
  have ta : T * a ≤ T * 16 := Rat.mul_le_mul_of_nonneg_left ha1 (Rat.le_of_lt hT0)
  have tt : T * T ≤ T * 1 := Rat.mul_le_mul_of_nonneg_left (by grind) (Rat.le_of_lt hT0)
  refine ⟨d1, d2.1, by unfold Nr Bd at *; constructor <;> grind, m.mono ?_⟩
  rw [← ha]
  have sa := sq_nonneg a
  grind

/-! ## Places of ellipses -/

/-- How far a place is: A (1 - e c), nearly. -/
theorem plane_near {A E c s q X Y : Rat} (hA0 : 1 / 2 ≤ A) (hA : A ≤ 4) (hE0 : 0 ≤ E) (hE : E ≤ 3 / 4) (bc : Bd c (1000001 / 1000000)) (bs : Bd s (1000001 / 1000000)) (one : Nr (s * s + c * c) 1 (1 / 1000000)) (hq : Nr (q * q) (1 - E * E) (2 / 10000000))
    (hX : X = A * (c - E)) (hY : Y = A * q * s) : Nr (X * X + Y * Y) (A * (1 - E * c) * (A * (1 - E * c))) (A * A * (13 / 10000000)) := by
  have i : X * X + Y * Y = A * (1 - E * c) * (A * (1 - E * c)) + A * A * ((1 - E * E) * (s * s + c * c - 1)) + A * A * ((q * q - (1 - E * E)) * (s * s)) := by rw [hX, hY]; grind
  have bE : Bd (1 - E * E) 1 := by
    have := Bd.mul (show Bd E (3 / 4) by unfold Bd; constructor <;> grind) (show Bd E (3 / 4) by unfold Bd; constructor <;> grind)
    have := sq_nonneg E
    unfold Bd at *
    constructor <;> grind
  have k1 := Bd.mul bE (Nr.bd.1 one)
  have k2 := Bd.mul (Nr.bd.1 hq) (Bd.mul bs bs)
  have bA : Bd (A * A) (A * A) := by have := sq_nonneg A; unfold Bd; constructor <;> grind
  have k3 := Bd.mul bA k1
  have k4 := Bd.mul bA k2
  rw [i]
  generalize A * (1 - E * c) * (A * (1 - E * c)) = G at *
  generalize A * A * ((1 - E * E) * (s * s + c * c - 1)) = C at *
  generalize A * A * ((q * q - (1 - E * E)) * (s * s)) = D at *
  have sa := sq_nonneg A
  unfold Nr Bd at *
  constructor <;> grind

/-- Between the nearest and the farthest place. -/
theorem between {A E c Q ρ : Rat} (hA0 : 1 / 2 ≤ A) (hA : A ≤ 4) (hE0 : 0 ≤ E) (hE : E ≤ 3 / 4) (bc : Bd c (1000001 / 1000000)) (hQ : Nr Q (A * (1 - E * c) * (A * (1 - E * c))) (A * (1 - E * c) * (A * (1 - E * c)) * (1 / 200000) + A * A * (15 / 10000000) + 1 / 1000000000)) (hρ : 0 ≤ ρ) (h : Nr (ρ * ρ) Q (Q / 1000000 + 1 / 1000000000000)) :
    A * (1 - E) - 7 / 10000 ≤ ρ ∧ ρ ≤ A * (1 + E) + 7 / 10000 := by
  have bEc := Bd.mul (show Bd E E by unfold Bd; constructor <;> grind) bc
  have bA : Bd A A := by unfold Bd; constructor <;> grind
  have k := Bd.mul bA bEc
  have lAE : A * E ≤ 3 := by
    have := Rat.mul_le_mul_of_nonneg_left hE (show 0 ≤ A by grind)
    grind
  have lAE2 : A * E ≤ A * (3 / 4) := Rat.mul_le_mul_of_nonneg_left hE (show 0 ≤ A by grind)
  have gAE : 0 ≤ A * E := Rat.mul_nonneg (by grind) hE0
  obtain ⟨G, hG⟩ : ∃ G, G = A * (1 - E * c) := ⟨_, rfl⟩
  rw [← hG] at hQ
  have e1 : G = A - A * (E * c) := by rw [hG]; grind
  have G1 : A * (1 - E) - 3 / 1000000 ≤ G := by rw [e1]; unfold Bd at k; grind
  have G2 : G ≤ A * (1 + E) + 3 / 1000000 := by rw [e1]; unfold Bd at k; grind
  have G3 : A * (24 / 100) ≤ G := by grind
  have G4 : G ≤ 8 := by grind
  have A2 : A * A ≤ G * G * 18 := by
    have := sq_le (a := A * (24 / 100)) (b := G) (by grind) G3
    have sA := sq_nonneg A
    clear hQ h k bEc bA hG e1
    grind
  have G5 : G * G ≤ G * 8 := Rat.mul_le_mul_of_nonneg_left G4 (by grind)
  have l1 : (G - 5 / 10000) * (G - 5 / 10000) = G * G - G * (10 / 10000) + 25 / 100000000 := by grind
  have l2 : (G + 5 / 10000) * (G + 5 / 10000) = G * G + G * (10 / 10000) + 25 / 100000000 := by grind
  have r1 : G - 5 / 10000 ≤ ρ := le_of_sq hρ (by rw [l1]; unfold Nr at *; grind)
  have r2 : ρ ≤ G + 5 / 10000 := le_of_sq (by grind) (by rw [l2]; unfold Nr at *; grind)
  constructor <;> grind

end Go.Proofs.YtfbnehkbialkaaaGreat
