/- The plain law of FnMarks, part 5: rises of what is above, and of the centre. -/
import Derived.Test.YtkhjcoekmamlaaaM4
namespace Go.Proofs.Ytkhjcoekmamlaaa
set_option linter.unusedVariables false
set_option linter.unusedSimpArgs false

theorem size_n {v : Vec} {L a1 a2 a3 : Rat} {sg : Bool} (x1 : isNum .f32 v.X = true) (y1 : isNum .f32 v.Y = true) (z1 : isNum .f32 v.Z = true) (n1 : Nr (R .f32 v.X) (sgn sg (L * a1)) (L * (2 / 1000000))) (n2 : Nr (R .f32 v.Y) (sgn sg (L * a2)) (L * (2 / 1000000))) (n3 : Nr (R .f32 v.Z) (sgn sg (L * a3)) (L * (2 / 1000000)))
    (h0 : 1 / 8 ≤ L) (h4 : L ≤ 4) (b1 : Bd a1 (103 / 100)) (b2 : Bd a2 (103 / 100)) (b3 : Bd a3 (103 / 100)) (one : Nr (a1 * a1 + a2 * a2 + a3 * a3) 1 (3 / 1000000)) :
    isNum .f32 (impl_SizeOfVector v) = true ∧ Nr (R .f32 (impl_SizeOfVector v)) L (L * (1 / 100000)) := by
  have hT1 := T_le
  have hT0 := T_pos
  have bL : Bd L L := pos_bd (by grind)
  have s1 := sq_near n1 (sgn_bd (Bd.mul bL b1))
  have s2 := sq_near n2 (sgn_bd (Bd.mul bL b2))
  have s3 := sq_near n3 (sgn_bd (Bd.mul bL b3))
  rw [sgn_sq] at s1 s2 s3
  have hP : 1 / 64 ≤ L * L := by have := sq_le (a := 1 / 8) (b := L) (by decide +kernel) h0; grind
  have hP16 : L * L ≤ 16 := by have := sq_le (a := L) (b := 4) (by grind) h4; grind
  have bP : Bd (L * L) (L * L) := pos_bd (by grind)
  have o := Bd.mul bP (Nr.bd.1 one)
  have i4 : L * L * (a1 * a1 + a2 * a2 + a3 * a3 - 1) = L * a1 * (L * a1) + L * a2 * (L * a2) + L * a3 * (L * a3) - L * L := by grind
  rw [i4] at o
  have hl1 : L * (1 - 9 / 1000000) * (L * (1 - 9 / 1000000)) ≤ L * L * (1 - 17 / 1000000) := by grind
  have hl2 : L * L * (1 + 17 / 1000000) ≤ L * (1 + 9 / 1000000) * (L * (1 + 9 / 1000000)) := by grind
  have hsum : Nr (R .f32 v.X * R .f32 v.X + R .f32 v.Y * R .f32 v.Y + R .f32 v.Z * R .f32 v.Z) (L * L) (L * L * (16 / 1000000)) := by
    generalize L * a1 * (L * a1) = C at *
    generalize L * a2 * (L * a2) = D at *
    generalize L * a3 * (L * a3) = E at *
    unfold Nr Bd at *
    constructor <;> grind
  obtain ⟨-, -, r1, ρ, r2, r3, r4⟩ := size_fl (B := 17) x1 y1 z1 (by unfold Nr at hsum; grind) (by decide +kernel)
  have e : impl_SizeOfVector v = rootN (innerN v.X v.Y v.Z) := Size_eq v
  rw [e]
  generalize R .f32 v.X * R .f32 v.X + R .f32 v.Y * R .f32 v.Y + R .f32 v.Z * R .f32 v.Z = QQ at *
  have h1 : ρ ≤ L * (1 + 9 / 1000000) := le_of_sq (by grind) (by unfold Nr at *; grind)
  have h2 : L * (1 - 9 / 1000000) ≤ ρ := le_of_sq r2 (by unfold Nr at *; grind)
  exact ⟨r1, by unfold Nr at *; constructor <;> grind⟩

noncomputable def riseN (p d : Vec) : Nat := fdiv .f32 (impl_InnerOf p d) (fmul .f32 (impl_SizeOfVector p) (impl_SizeOfVector d))

theorem rise_near {p d : Vec} {ρ D a1 a2 a3 : Rat} {sg : Bool} (px : isNum .f32 p.X = true) (py : isNum .f32 p.Y = true) (pz : isNum .f32 p.Z = true) (dx : isNum .f32 d.X = true) (dy : isNum .f32 d.Y = true) (dz : isNum .f32 d.Z = true)
    (p1 : Nr (R .f32 p.X) (ρ * a1) (ρ * (3 / 10000000))) (p2 : Nr (R .f32 p.Y) (ρ * a2) (ρ * (3 / 10000000))) (p3 : Nr (R .f32 p.Z) (ρ * a3) (ρ * (3 / 10000000)))
    (d1 : Nr (R .f32 d.X) (sgn sg (D * a1)) (D * (2 / 1000000))) (d2 : Nr (R .f32 d.Y) (sgn sg (D * a2)) (D * (2 / 1000000))) (d3 : Nr (R .f32 d.Z) (sgn sg (D * a3)) (D * (2 / 1000000)))
    (h0 : 1 / 8 ≤ ρ) (h1 : ρ ≤ 1) (g0 : 1 / 8 ≤ D) (g4 : D ≤ 4) (b1 : Bd a1 (103 / 100)) (b2 : Bd a2 (103 / 100)) (b3 : Bd a3 (103 / 100)) (one : Nr (a1 * a1 + a2 * a2 + a3 * a3) 1 (3 / 1000000)) :
    isNum .f32 (riseN p d) = true ∧ Nr (R .f32 (riseN p d)) (sgn sg 1) (2 / 10000) := by
  have hG := Gr_ge
  have hT1 := T_le
  have hT0 := T_pos
  obtain ⟨sp1, sp2⟩ := size_n (sg := false) px py pz (p1.mono (by grind)) (p2.mono (by grind)) (p3.mono (by grind)) h0 (by grind) b1 b2 b3 one
  obtain ⟨sd1, sd2⟩ := size_n dx dy dz d1 d2 d3 g0 g4 b1 b2 b3 one
  have bρ : Bd ρ ρ := pos_bd (by grind)
  have bD : Bd D D := pos_bd (by grind)
  have hP : 1 / 64 ≤ ρ * D := by
    have q1 := Rat.mul_le_mul_of_nonneg_left g0 (show 0 ≤ ρ by grind)
    grind
  have hP4 : ρ * D ≤ 4 := by
    have q1 := Rat.mul_le_mul_of_nonneg_right h1 (show 0 ≤ D by grind)
    grind
  have bP : Bd (ρ * D) (ρ * D) := pos_bd (by grind)
  have w : ∀ {a : Rat} {x y : Nat}, Bd a (103 / 100) → isNum .f32 x = true → isNum .f32 y = true → Nr (R .f32 x) (ρ * a) (ρ * (3 / 10000000)) → Nr (R .f32 y) (sgn sg (D * a)) (D * (2 / 1000000)) →
      isNum .f32 (fmul .f32 x y) = true ∧ Nr (R .f32 (fmul .f32 x y)) (sgn sg (ρ * D * (a * a))) (ρ * D * (25 / 10000000)) ∧ Bd (sgn sg (ρ * D * (a * a))) (ρ * D * (107 / 100)) := fun {a x y} ba hx hy nx ny => by
    have c1 := sgn_bd (b := sg) (Bd.mul bD ba)
    have m := Nr.mul nx ny (Bd.mul bρ ba) (ny.toBd c1)
    have e1 : ρ * a * sgn sg (D * a) = sgn sg (ρ * D * (a * a)) := by
      rw [sgn_mul]
      congr 1
      grind
    rw [e1] at m
    have c2 : Bd (sgn sg (ρ * D * (a * a))) (ρ * D * (107 / 100)) := sgn_bd ((Bd.mul bP (Bd.mul ba ba)).mono (by grind))
    have m2 : Nr (R .f32 x * R .f32 y) (sgn sg (ρ * D * (a * a))) (ρ * D * (24 / 10000000)) := m.mono (by grind)
    have c3 := (m2.toBd c2).mono (N := ρ * D * (11 / 10)) (by grind)
    have f := fmul_fl hx hy (c3.mono (by grind))
    have e := f.err c3
    exact ⟨f.1, (e.trans m2).mono (by grind), c2⟩
  obtain ⟨u1, v1, k1⟩ := w b1 px dx p1 d1
  obtain ⟨u2, v2, k2⟩ := w b2 py dy p2 d2
  obtain ⟨u3, v3, k3⟩ := w b3 pz dz p3 d3
  have hsum : Nr (sgn sg (ρ * D * (a1 * a1)) + sgn sg (ρ * D * (a2 * a2)) + sgn sg (ρ * D * (a3 * a3))) (sgn sg (ρ * D)) (ρ * D * (3 / 1000000)) := by
    have o := Bd.mul bP (Nr.bd.1 one)
    have i4 : ρ * D * (a1 * a1 + a2 * a2 + a3 * a3 - 1) = ρ * D * (a1 * a1) + ρ * D * (a2 * a2) + ρ * D * (a3 * a3) - ρ * D := by grind
    rw [i4] at o
    cases sg
    · exact o
    · show Nr (-(ρ * D * (a1 * a1)) + -(ρ * D * (a2 * a2)) + -(ρ * D * (a3 * a3))) (-(ρ * D)) (ρ * D * (3 / 1000000))
      generalize ρ * D * (a1 * a1) = C at *
      generalize ρ * D * (a2 * a2) = E at *
      generalize ρ * D * (a3 * a3) = F at *
      unfold Nr Bd at *
      constructor <;> grind
  clear w
  unfold riseN
  rw [Inner_eq]
  generalize fmul .f32 p.X d.X = w1 at *
  generalize fmul .f32 p.Y d.Y = w2 at *
  generalize fmul .f32 p.Z d.Z = w3 at *
  generalize sgn sg (ρ * D * (a1 * a1)) = A1 at *
  generalize sgn sg (ρ * D * (a2 * a2)) = A2 at *
  generalize sgn sg (ρ * D * (a3 * a3)) = A3 at *
  have bs1 : Bd (R .f32 w1 + R .f32 w2) (ρ * D * (22 / 10)) := by unfold Nr Bd at *; constructor <;> grind
  have f4 := fadd_fl u1 u2 (bs1.mono (by grind))
  have e4 := f4.err bs1
  have bs2 : Bd (R .f32 (fadd .f32 w1 w2) + R .f32 w3) (ρ * D * (34 / 10)) := by unfold Nr Bd at *; constructor <;> grind
  have f5 := fadd_fl f4.1 u3 (bs2.mono (by grind))
  have e5 := f5.err bs2
  have f51 := f5.1
  have hi : Nr (R .f32 (fadd .f32 (fadd .f32 w1 w2) w3)) (sgn sg (ρ * D)) (ρ * D * (15 / 1000000)) := by unfold Nr at *; constructor <;> grind
  generalize fadd .f32 (fadd .f32 w1 w2) w3 = inn at *
  -- the sizes
  have m := Nr.mul sp2 sd2 bρ (sd2.toBd bD)
  have m2 : Nr (R .f32 (impl_SizeOfVector p) * R .f32 (impl_SizeOfVector d)) (ρ * D) (ρ * D * (21 / 1000000)) := m.mono (by grind)
  have bm := (m2.toBd bP).mono (N := ρ * D * (11 / 10)) (by grind)
  have f6 := fmul_fl sp1 sd1 (bm.mono (by grind))
  have e6 := f6.err bm
  have f61 := f6.1
  have ht : Nr (R .f32 (fmul .f32 (impl_SizeOfVector p) (impl_SizeOfVector d))) (ρ * D) (ρ * D * (22 / 1000000)) := by unfold Nr at *; constructor <;> grind
  generalize fmul .f32 (impl_SizeOfVector p) (impl_SizeOfVector d) = den at *
  generalize ρ * D = P at *
  have ht0 : P * (99 / 100) ≤ R .f32 den := by unfold Nr at ht; grind
  generalize hte : R .f32 den = t at *
  have htne : t ≠ 0 := by grind
  have hX : R .f32 inn * t⁻¹ * t = R .f32 inn := by rw [Rat.mul_assoc, Rat.inv_mul_cancel _ htne, Rat.mul_one]
  have hq : Nr (R .f32 inn * t⁻¹) (sgn sg 1) (1 / 10000) := by
    generalize R .f32 inn * t⁻¹ = X at *
    have key : Bd ((X - sgn sg 1) * t) (P * (37 / 1000000)) := by
      have e : (X - sgn sg 1) * t = R .f32 inn - sgn sg t := by
        cases sg
        · show (X - 1) * t = R .f32 inn - t
          grind
        · show (X - -1) * t = R .f32 inn - -t
          grind
      rw [e]
      cases sg
      · show Bd (R .f32 inn - t) _
        have hi : Nr (R .f32 inn) P (P * (15 / 1000000)) := hi
        unfold Nr Bd at *
        constructor <;> grind
      · show Bd (R .f32 inn - -t) _
        have hi : Nr (R .f32 inn) (-P) (P * (15 / 1000000)) := hi
        unfold Nr Bd at *
        constructor <;> grind
    constructor
    · rw [← Rat.not_lt]
      intro hl
      have q := Rat.mul_le_mul_of_nonneg_right (Rat.le_of_lt hl) (c := t) (by grind)
      unfold Bd at key
      grind
    · rw [← Rat.not_lt]
      intro hl
      have q := Rat.mul_le_mul_of_nonneg_right (Rat.le_of_lt hl) (c := t) (by grind)
      unfold Bd at key
      grind
  have hb1 : Bd (sgn sg (1 : Rat)) 1 := sgn_bd (by unfold Bd; constructor <;> decide +kernel)
  have hb : Bd (R .f32 inn * t⁻¹) 2 := (hq.toBd hb1).mono (by grind)
  obtain ⟨k1', k2'⟩ := quot_fl (X := R .f32 inn * t⁻¹) f51 f61 (by rw [hte]; exact htne) (by rw [hte]; exact hX) (hb.mono (by grind))
  have k3' := k2' 2 hb
  exact ⟨k1', (k3'.trans hq).mono (by unfold U; grind)⟩

/-! ## What is above, and the centre -/

theorem dirs {cN sN cF sF : Rat} (hc1 : Bd cN (101 / 100)) (hs1 : Bd sN (101 / 100)) (bc : Bd cF (101 / 100)) (bs : Bd sF (101 / 100)) (one : Nr (sF * sF + cF * cF) 1 (1 / 1000000)) (one' : Nr (sN * sN + cN * cN) 1 (1 / 1000000)) :
    Bd (cN * cF) (103 / 100) ∧ Bd (cN * sF) (103 / 100) ∧ Bd sN (103 / 100) ∧ Nr (cN * cF * (cN * cF) + cN * sF * (cN * sF) + sN * sN) 1 (3 / 1000000) := by
  refine ⟨(Bd.mul hc1 bc).mono (by grind), (Bd.mul hc1 bs).mono (by grind), hs1.mono (by grind), ?_⟩
  have m := Bd.mul (Bd.mul hc1 hc1) (Nr.bd.1 one)
  have i : cN * cN * (sF * sF + cF * cF - 1) = cN * sF * (cN * sF) + cN * cF * (cN * cF) - cN * cN := by grind
  rw [i] at m
  generalize cN * sF * (cN * sF) = C at *
  generalize cN * cF * (cN * cF) = D at *
  unfold Nr Bd at *
  constructor <;> grind

theorem At.near {v : Vec} {Λ cN sN cF sF : Rat} (A : At v Λ cN sN cF sF) (h0 : 1 / 8 ≤ Λ) (hc1 : Bd cN (101 / 100)) : Nr (R .f32 v.X) (Λ * (cN * cF)) (Λ * (3 / 10000000)) ∧ Nr (R .f32 v.Y) (Λ * (cN * sF)) (Λ * (3 / 10000000)) ∧ Nr (R .f32 v.Z) (Λ * sN) (Λ * (3 / 10000000)) := by
  have k1 : Λ * cN * (2 / 10000000) ≤ Λ * (3 / 10000000) := by
    have := Rat.mul_le_mul_of_nonneg_left hc1.2 (show 0 ≤ Λ by grind)
    grind
  have x := A.x.mono k1
  have y := A.y.mono k1
  rw [Rat.mul_assoc] at x y
  exact ⟨x, y, A.z.mono (by grind)⟩

theorem rise_above {p v : Vec} {ρ H cN sN cF sF : Rat} (A : At p ρ cN sN cF sF) (B : At v H cN sN cF sF) (h0 : 1 / 8 ≤ ρ) (h1 : ρ ≤ 1) (g1 : ρ + 1 ≤ H) (g3 : H ≤ 3) (hc1 : Bd cN (101 / 100)) (hs1 : Bd sN (101 / 100)) (bc : Bd cF (101 / 100)) (bs : Bd sF (101 / 100))
    (one : Nr (sF * sF + cF * cF) 1 (1 / 1000000)) (one' : Nr (sN * sN + cN * cN) 1 (1 / 1000000)) : isNum .f32 (riseN p (impl_LessVectors v p)) = true ∧ Nr (R .f32 (riseN p (impl_LessVectors v p))) 1 (2 / 10000) := by
  have hG := Gr_ge
  have hT1 := T_le
  obtain ⟨b1, b2, b3, b4⟩ := dirs hc1 hs1 bc bs one one'
  obtain ⟨p1, p2, p3⟩ := A.near h0 hc1
  obtain ⟨v1, v2, v3⟩ := B.near (by grind) hc1
  have w : ∀ {a : Rat} {x y : Nat}, Bd a (103 / 100) → isNum .f32 x = true → isNum .f32 y = true → Nr (R .f32 x) (ρ * a) (ρ * (3 / 10000000)) → Nr (R .f32 y) (H * a) (H * (3 / 10000000)) → isNum .f32 (fsub .f32 y x) = true ∧ Nr (R .f32 (fsub .f32 y x)) ((H - ρ) * a) ((H - ρ) * (2 / 1000000)) := fun {a x y} ba hx hy nx ny => by
    have c1 := Bd.mul (pos_bd (P := ρ) (by grind)) ba
    have c2 := Bd.mul (pos_bd (P := H) (by grind)) ba
    have i : (H - ρ) * a = H * a - ρ * a := by grind
    rw [i]
    have bb : Bd (R .f32 y - R .f32 x) 5 := by unfold Nr Bd at *; constructor <;> grind
    have f := fsub_fl hy hx (bb.mono (by grind))
    have e := f.err bb
    exact ⟨f.1, by unfold Nr at *; constructor <;> grind⟩
  obtain ⟨x1, x2⟩ := w b1 A.x1 B.x1 p1 v1
  obtain ⟨y1, y2⟩ := w b2 A.y1 B.y1 p2 v2
  obtain ⟨z1, z2⟩ := w b3 A.z1 B.z1 p3 v3
  rw [Less_eq]
  exact rise_near (sg := false) (D := H - ρ) A.x1 A.y1 A.z1 x1 y1 z1 p1 p2 p3 x2 y2 z2 h0 h1 (by grind) (by grind) b1 b2 b3 b4

theorem rise_below {p : Vec} {ρ cN sN cF sF : Rat} (A : At p ρ cN sN cF sF) (h0 : 1 / 8 ≤ ρ) (h1 : ρ ≤ 1) (hc1 : Bd cN (101 / 100)) (hs1 : Bd sN (101 / 100)) (bc : Bd cF (101 / 100)) (bs : Bd sF (101 / 100))
    (one : Nr (sF * sF + cF * cF) 1 (1 / 1000000)) (one' : Nr (sN * sN + cN * cN) 1 (1 / 1000000)) : isNum .f32 (riseN p (impl_LessVectors ⟨0, 0, 0⟩ p)) = true ∧ Nr (R .f32 (riseN p (impl_LessVectors ⟨0, 0, 0⟩ p))) (-1) (2 / 10000) := by
  have hG := Gr_ge
  have hT1 := T_le
  obtain ⟨b1, b2, b3, b4⟩ := dirs hc1 hs1 bc bs one one'
  obtain ⟨p1, p2, p3⟩ := A.near h0 hc1
  have z0 : isNum .f32 0 = true ∧ R .f32 0 = 0 := by decide +kernel
  have w : ∀ {a : Rat} {x : Nat}, Bd a (103 / 100) → isNum .f32 x = true → Nr (R .f32 x) (ρ * a) (ρ * (3 / 10000000)) → isNum .f32 (fsub .f32 0 x) = true ∧ Nr (R .f32 (fsub .f32 0 x)) (-(ρ * a)) (ρ * (2 / 1000000)) := fun {a x} ba hx nx => by
    have c1 := Bd.mul (pos_bd (P := ρ) (by grind)) ba
    have bb : Bd (R .f32 0 - R .f32 x) (ρ * (104 / 100)) := by rw [z0.2]; unfold Nr Bd at *; constructor <;> grind
    have f := fsub_fl z0.1 hx (bb.mono (by grind))
    have e := f.err bb
    rw [z0.2] at e
    exact ⟨f.1, by unfold Nr at *; constructor <;> grind⟩
  obtain ⟨x1, x2⟩ := w b1 A.x1 p1
  obtain ⟨y1, y2⟩ := w b2 A.y1 p2
  obtain ⟨z1, z2⟩ := w b3 A.z1 p3
  rw [Less_eq]
  exact rise_near (sg := true) (D := ρ) A.x1 A.y1 A.z1 x1 y1 z1 p1 p2 p3 x2 y2 z2 h0 h1 (by grind) (by grind) b1 b2 b3 b4

/-! ## The functions -/

theorem placeOf_eq {b : Ball} {m : Mark} {t : Nat} (hb : BallS b) (hm : markB m = true) (ht : isNum .f32 t = true) (hp : impl_Ball_place_need b m t = true) (hf : finV (impl_Ball_place b m t) = true) : impl_PlaceOf_need b m t = true ∧ impl_PlaceOf b m t = (impl_Ball_place b m t, true) := by
  obtain ⟨v1, v2⟩ := hb.valid
  have hmk := ValidMark_eq m
  rw [hm] at hmk
  have hfv := isFiniteVector_eq (impl_Ball_place b m t)
  rw [hf] at hfv
  have eb : (⟨b.Mass, b.Radius, b.Spin, b.Start⟩ : Ball) = b := rfl
  have em : (⟨m.North, m.East, m.High⟩ : Mark) = m := rfl
  generalize hv : impl_Ball_place b m t = v at *
  have ev : (⟨v.X, v.Y, v.Z⟩ : Vec) = v := rfl
  have htd : impl_toldVector_need v = true ∧ impl_toldVector v = (v, true) := by
    unfold impl_toldVector_need impl_toldVector impl_toldVector_tree
    simp only [ev, hfv.1, hfv.2, Bool.not_true]
    simp only [DT.ok, DT.val]
    exact ⟨trivial, trivial⟩
  unfold impl_PlaceOf_need impl_PlaceOf impl_PlaceOf_tree
  simp only [eb, em, v1, v2, hmk.1, hmk.2, IsFinite_need, IsFinite_eq, ht, hp, hv, ev, htd.1, htd.2, Bool.not_true]
  simp only [DT.ok, DT.val]
  exact ⟨trivial, trivial⟩

theorem riseAt_eq {b : Ball} {m : Mark} {v : Vec} {t : Nat} (hb : BallS b) (hm : markB m = true) (ht : isNum .f32 t = true) (hp : impl_Ball_place_need b m t = true) (hv : finV v = true) (hr : isNum .f32 (riseN (impl_Ball_place b m t) (impl_LessVectors v (impl_Ball_place b m t))) = true) :
    impl_RiseAt_need b m v t = true ∧ impl_RiseAt b m v t = (riseN (impl_Ball_place b m t) (impl_LessVectors v (impl_Ball_place b m t)), true) := by
  obtain ⟨v1, v2⟩ := hb.valid
  have hmk := ValidMark_eq m
  rw [hm] at hmk
  have hfv := isFiniteVector_eq v
  rw [hv] at hfv
  have eb : (⟨b.Mass, b.Radius, b.Spin, b.Start⟩ : Ball) = b := rfl
  have em : (⟨m.North, m.East, m.High⟩ : Mark) = m := rfl
  have ev : (⟨v.X, v.Y, v.Z⟩ : Vec) = v := rfl
  generalize hp' : impl_Ball_place b m t = p at *
  have ep : (⟨p.X, p.Y, p.Z⟩ : Vec) = p := rfl
  have el : (⟨(impl_LessVectors v p).X, (impl_LessVectors v p).Y, (impl_LessVectors v p).Z⟩ : Vec) = impl_LessVectors v p := rfl
  have er : fdiv .f32 (impl_InnerOf p (impl_LessVectors v p)) (fmul .f32 (impl_SizeOfVector p) (impl_SizeOfVector (impl_LessVectors v p))) = riseN p (impl_LessVectors v p) := rfl
  have hrs : impl_Ball_rise_need b m v t = true ∧ impl_Ball_rise b m v t = riseN p (impl_LessVectors v p) := by
    unfold impl_Ball_rise_need impl_Ball_rise impl_Ball_rise_tree
    simp only [eb, em, ev, hp, hp', ep, el, er, Size_need]
    simp only [DT.ok, DT.val]
    exact ⟨trivial, trivial⟩
  unfold impl_RiseAt_need impl_RiseAt impl_RiseAt_tree
  simp only [eb, em, ev, v1, v2, hmk.1, hmk.2, hfv.1, hfv.2, IsFinite_need, IsFinite_eq, ht, hrs.1, hrs.2, told_need, told_num hr, Bool.not_true]
  simp only [DT.ok, DT.val]
  exact ⟨trivial, trivial⟩

theorem arcBetween_eq {m o : Mark} (hm : markB m = true) (ho : markB o = true) (p1 : impl_Ball_place_need ⟨1065353216, 1065353216, 0, 0⟩ ⟨m.North, m.East, 0⟩ 0 = true) (q1 : impl_Ball_place_need ⟨1065353216, 1065353216, 0, 0⟩ ⟨o.North, o.East, 0⟩ 0 = true)
    (u : Unit3 (impl_Ball_place ⟨1065353216, 1065353216, 0, 0⟩ ⟨m.North, m.East, 0⟩ 0)) (w : Unit3 (impl_Ball_place ⟨1065353216, 1065353216, 0, 0⟩ ⟨o.North, o.East, 0⟩ 0)) :
    impl_ArcBetween_need m o = true ∧ impl_ArcBetween m o = (arcN (impl_Ball_place ⟨1065353216, 1065353216, 0, 0⟩ ⟨m.North, m.East, 0⟩ 0) (impl_Ball_place ⟨1065353216, 1065353216, 0, 0⟩ ⟨o.North, o.East, 0⟩ 0), true) := by
  have hmk := ValidMark_eq m
  rw [hm] at hmk
  have hok := ValidMark_eq o
  rw [ho] at hok
  have em : (⟨m.North, m.East, m.High⟩ : Mark) = m := rfl
  have eo : (⟨o.North, o.East, o.High⟩ : Mark) = o := rfl
  obtain ⟨a1, a2, a3, a4⟩ := arc_bd u w
  generalize hp : impl_Ball_place ⟨1065353216, 1065353216, 0, 0⟩ ⟨m.North, m.East, 0⟩ 0 = p at *
  generalize hq : impl_Ball_place ⟨1065353216, 1065353216, 0, 0⟩ ⟨o.North, o.East, 0⟩ 0 = q at *
  have ep : (⟨p.X, p.Y, p.Z⟩ : Vec) = p := rfl
  have eq : (⟨q.X, q.Y, q.Z⟩ : Vec) = q := rfl
  have ec : (⟨(impl_CrossOf p q).X, (impl_CrossOf p q).Y, (impl_CrossOf p q).Z⟩ : Vec) = impl_CrossOf p q := rfl
  have ea : impl_AngleTurns (impl_SizeOfVector (impl_CrossOf p q)) (impl_InnerOf p q) = arcN p q := rfl
  unfold impl_ArcBetween_need impl_ArcBetween impl_ArcBetween_tree
  simp only [em, eo, hmk.1, hmk.2, hok.1, hok.2, p1, q1, hp, hq, ep, eq, ec, Size_need, a1, ea, told_need, told_num a2, Bool.not_true]
  simp only [DT.ok, DT.val]
  exact ⟨trivial, trivial⟩

end Go.Proofs.Ytkhjcoekmamlaaa
