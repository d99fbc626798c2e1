/- The plain law of FnMarks, part 3: the mark of a placed mark. -/
import Derived.Test.YtkhjcoekmamlaaaM2
namespace Go.Proofs.Ytkhjcoekmamlaaa
set_option linter.unusedVariables false
set_option linter.unusedSimpArgs false

theorem sq_near {a A e M : Rat} (h : Nr a A e) (b : Bd A M) : Nr (a * a) (A * A) (e * (M + e) + M * e) := Nr.mul h h b (h.toBd b)

theorem pos_bd {P : Rat} (h : 0 ≤ P) : Bd P P := by unfold Bd; constructor <;> grind

theorem flat_of {v : Vec} {Λ cN sN cF sF : Rat} (A : At v Λ cN sN cF sF) (h0 : 1 / 8 ≤ Λ) (h4 : Λ ≤ 4) (hc : 1 / 10 ≤ cN) (hc1 : Bd cN (101 / 100)) (bc : Bd cF (101 / 100)) (bs : Bd sF (101 / 100)) (one : Nr (sF * sF + cF * cF) 1 (1 / 1000000)) :
    isNum .f32 (impl_RootNumber (fadd .f32 (fmul .f32 v.X v.X) (fmul .f32 v.Y v.Y))) = true ∧ Nr (R .f32 (impl_RootNumber (fadd .f32 (fmul .f32 v.X v.X) (fmul .f32 v.Y v.Y)))) (Λ * cN) (Λ * cN * (2 / 1000000)) := by
  have hG := Gr_ge
  have hT1 := T_le
  have hT0 := T_pos
  rw [Root_val]
  obtain ⟨x1, y1, -, ax, ay, -⟩ := A
  have hlow : 1 / 80 ≤ Λ * cN := by
    have := Rat.mul_le_mul_of_nonneg_left hc (show 0 ≤ Λ by grind)
    grind
  have hup : Λ * cN ≤ 5 := by
    have := Rat.mul_le_mul_of_nonneg_left hc1.2 (show 0 ≤ Λ by grind)
    grind
  generalize Λ * cN = ℓ at *
  have bℓ : Bd ℓ ℓ := pos_bd (by grind)
  have s1 := sq_near ax (Bd.mul bℓ bc)
  have s2 := sq_near ay (Bd.mul bℓ bs)
  have hP : 1 / 6400 ≤ ℓ * ℓ := by have := sq_le (a := 1 / 80) (b := ℓ) (by decide +kernel) hlow; grind
  have hP5 : ℓ * ℓ ≤ 25 := by have := sq_le (a := ℓ) (b := 5) (by grind) hup; grind
  have i1 : ℓ * cF * (ℓ * cF) = ℓ * ℓ * (cF * cF) := by grind
  have i2 : ℓ * sF * (ℓ * sF) = ℓ * ℓ * (sF * sF) := by grind
  rw [i1] at s1
  rw [i2] at s2
  have s1' : Nr (R .f32 v.X * R .f32 v.X) (ℓ * ℓ * (cF * cF)) (ℓ * ℓ * (41 / 100000000)) := s1.mono (by grind)
  have s2' : Nr (R .f32 v.Y * R .f32 v.Y) (ℓ * ℓ * (sF * sF)) (ℓ * ℓ * (41 / 100000000)) := s2.mono (by grind)
  have bP : Bd (ℓ * ℓ) (ℓ * ℓ) := pos_bd (by grind)
  have o := Bd.mul bP (Nr.bd.1 one)
  have c2 := Bd.mul bP (Bd.mul bc bc)
  have c3 := Bd.mul bP (Bd.mul bs bs)
  have i3 : ℓ * ℓ * (sF * sF + cF * cF - 1) = ℓ * ℓ * (sF * sF) + ℓ * ℓ * (cF * cF) - ℓ * ℓ := by grind
  rw [i3] at o
  have hsq1 := sq_le (a := ℓ * (1 - 12 / 10000000)) (b := ℓ) (by grind) (by grind)
  have hl1 : ℓ * (1 - 12 / 10000000) * (ℓ * (1 - 12 / 10000000)) ≤ ℓ * ℓ * (1 - 2399 / 1000000000) := by grind
  have hl2 : ℓ * ℓ * (1 + 2400 / 1000000000) ≤ ℓ * (1 + 12 / 10000000) * (ℓ * (1 + 12 / 10000000)) := by grind
  clear s1 s2 ax ay i1 i2 i3 hsq1
  generalize ℓ * ℓ * (cF * cF) = C at *
  generalize ℓ * ℓ * (sF * sF) = D at *
  have b1 : Bd (R .f32 v.X * R .f32 v.X) (ℓ * ℓ * (11 / 10)) := by unfold Nr Bd at *; constructor <;> grind
  have b2 : Bd (R .f32 v.Y * R .f32 v.Y) (ℓ * ℓ * (11 / 10)) := by unfold Nr Bd at *; constructor <;> grind
  have f1 := fmul_fl x1 x1 (b1.mono (by grind))
  have f2 := fmul_fl y1 y1 (b2.mono (by grind))
  have e1 := f1.err b1
  have e2 := f2.err b2
  generalize R .f32 v.X * R .f32 v.X = xx at *
  generalize R .f32 v.Y * R .f32 v.Y = yy at *
  have b3 : Bd (R .f32 (fmul .f32 v.X v.X) + R .f32 (fmul .f32 v.Y v.Y)) (ℓ * ℓ * (12 / 10)) := by unfold Nr Bd at *; constructor <;> grind
  have f3 := fadd_fl f1.1 f2.1 (b3.mono (by grind))
  have e3 := f3.err b3
  have f31 := f3.1
  generalize fadd .f32 (fmul .f32 v.X v.X) (fmul .f32 v.Y v.Y) = s at *
  have hs : Nr (R .f32 s) (ℓ * ℓ) (ℓ * ℓ * (23 / 10000000)) := by unfold Nr Bd at *; constructor <;> grind
  obtain ⟨-, -, r1, ρ, r2, r3, r4⟩ := root_fl f31 (by unfold Nr at hs; grind) (by unfold Nr at hs; grind)
  have h1 : ρ ≤ ℓ * (1 + 12 / 10000000) := le_of_sq (by grind) (by unfold Nr at *; grind)
  have h2 : ℓ * (1 - 12 / 10000000) ≤ ρ := le_of_sq r2 (by unfold Nr at *; grind)
  exact ⟨r1, by unfold Nr at *; constructor <;> grind⟩

theorem size_of {v : Vec} {Λ cN sN cF sF : Rat} (A : At v Λ cN sN cF sF) (h0 : 1 / 8 ≤ Λ) (h4 : Λ ≤ 4) (hc : 1 / 10 ≤ cN) (hc1 : Bd cN (101 / 100)) (hs1 : Bd sN (101 / 100)) (bc : Bd cF (101 / 100)) (bs : Bd sF (101 / 100)) (one : Nr (sF * sF + cF * cF) 1 (1 / 1000000)) (one' : Nr (sN * sN + cN * cN) 1 (1 / 1000000)) :
    isNum .f32 (impl_SizeOfVector v) = true ∧ Nr (R .f32 (impl_SizeOfVector v)) Λ (Λ * (1 / 100000)) := by
  have hT1 := T_le
  have hT0 := T_pos
  obtain ⟨x1, y1, z1, ax, ay, az⟩ := A
  have bΛ : Bd Λ Λ := pos_bd (by grind)
  have k1 : Λ * cN * (2 / 10000000) ≤ Λ * (3 / 10000000) := by
    have := Rat.mul_le_mul_of_nonneg_left hc1.2 (show 0 ≤ Λ by grind)
    grind
  have s1 := sq_near (ax.mono k1) (Bd.mul (Bd.mul bΛ hc1) bc)
  have s2 := sq_near (ay.mono k1) (Bd.mul (Bd.mul bΛ hc1) bs)
  have s3 := sq_near az (Bd.mul bΛ hs1)
  have hP : 1 / 64 ≤ Λ * Λ := by have := sq_le (a := 1 / 8) (b := Λ) (by decide +kernel) h0; grind
  have bP : Bd (Λ * Λ) (Λ * Λ) := pos_bd (by grind)
  have i1 : Λ * cN * cF * (Λ * cN * cF) = Λ * Λ * (cN * cN * (cF * cF)) := by grind
  have i2 : Λ * cN * sF * (Λ * cN * sF) = Λ * Λ * (cN * cN * (sF * sF)) := by grind
  have i3 : Λ * sN * (Λ * sN) = Λ * Λ * (sN * sN) := by grind
  rw [i1] at s1
  rw [i2] at s2
  rw [i3] at s3
  have m1 := Bd.mul bP (Bd.mul (Bd.mul hc1 hc1) (Nr.bd.1 one))
  have m2 := Bd.mul bP (Nr.bd.1 one')
  have i4 : Λ * Λ * (cN * cN * (sF * sF + cF * cF - 1)) = Λ * Λ * (cN * cN * (sF * sF)) + Λ * Λ * (cN * cN * (cF * cF)) - Λ * Λ * (cN * cN) := by grind
  have i5 : Λ * Λ * (sN * sN + cN * cN - 1) = Λ * Λ * (sN * sN) + Λ * Λ * (cN * cN) - Λ * Λ := by grind
  rw [i4] at m1
  rw [i5] at m2
  have hl1 : Λ * (1 - 4 / 1000000) * (Λ * (1 - 4 / 1000000)) ≤ Λ * Λ * (1 - 7 / 1000000) := by grind
  have hl2 : Λ * Λ * (1 + 7 / 1000000) ≤ Λ * (1 + 4 / 1000000) * (Λ * (1 + 4 / 1000000)) := by grind
  have hsum : Nr (R .f32 v.X * R .f32 v.X + R .f32 v.Y * R .f32 v.Y + R .f32 v.Z * R .f32 v.Z) (Λ * Λ) (Λ * Λ * (5 / 1000000)) := by
    generalize Λ * Λ * (cN * cN * (cF * cF)) = C at *
    generalize Λ * Λ * (cN * cN * (sF * sF)) = D at *
    generalize Λ * Λ * (sN * sN) = E at *
    generalize Λ * Λ * (cN * cN) = G at *
    unfold Nr Bd at *
    constructor <;> grind
  have hP16 : Λ * Λ ≤ 16 := by have := sq_le (a := Λ) (b := 4) (by grind) h4; grind
  obtain ⟨-, -, r1, ρ, r2, r3, r4⟩ := size_fl (B := 17) x1 y1 z1 (by unfold Nr at hsum; grind) (by decide +kernel)
  have e : impl_SizeOfVector v = rootN (innerN v.X v.Y v.Z) := Size_eq v
  rw [e]
  generalize R .f32 v.X * R .f32 v.X + R .f32 v.Y * R .f32 v.Y + R .f32 v.Z * R .f32 v.Z = QQ at *
  have h1 : ρ ≤ Λ * (1 + 4 / 1000000) := le_of_sq (by grind) (by unfold Nr at *; grind)
  have h2 : Λ * (1 - 4 / 1000000) ≤ ρ := le_of_sq r2 (by unfold Nr at *; grind)
  exact ⟨r1, by unfold Nr at *; constructor <;> grind⟩

/-- A north's parts. -/
def northB (i : Nat) : Bool := !partX (((i : Int) - 112) % 512).toNat && decide (sgn (partY (((i : Int) - 112) % 512).toNat) (((partJ (((i : Int) - 112) % 512).toNat : Int) : Rat) / 512) = (((i : Int) - 112 : Int) : Rat) / 512)
theorem c_nor : ∀ i : Fin 225, northB i.val = true := by decide +kernel
theorem north_part {n : Int} (hn : n.natAbs ≤ 112) : partX (n % 512).toNat = false ∧ sgn (partY (n % 512).toNat) (((partJ (n % 512).toNat : Int) : Rat) / 512) = (n : Rat) / 512 := by
  have h := c_nor ⟨(n + 112).toNat, by omega⟩
  unfold northB at h
  have e : ((((n + 112).toNat : Nat) : Int) - 112) = n := by omega
  simp only [e, Bool.and_eq_true, Bool.not_eq_true', decide_eq_true_eq] at h
  exact h

theorem own_mark {b : Ball} {v : Vec} {t N f : Nat} {Λ ρ : Rat} {n e φ : Int} (hb : BallS b) (ht : isNum .f32 t = true) (hρ : R .f32 b.Radius = ρ) (hρ1 : ρ ≤ 1) (hn : n.natAbs ≤ 112) (hN : Turn N (n % 512).toNat) (hF : Turn f ((e + φ) % 512).toNat)
    (hφ : Q .f32 (impl_Ball_face b t) φ) (hφb : φ.natAbs ≤ 512) (he : e.natAbs ≤ 240) (hc : 1 / 10 ≤ R .f32 (impl_cos N)) (h0 : 1 / 8 ≤ Λ) (h4 : Λ ≤ 4)
    (A : At v Λ (R .f32 (impl_cos N)) (R .f32 (impl_SineTurns N)) (R .f32 (impl_cos f)) (R .f32 (impl_SineTurns f))) :
    impl_MarkOf_need b v t = true ∧ ∃ m, impl_MarkOf b v t = (m, true) ∧ isNum .f32 m.North = true ∧ isNum .f32 m.East = true ∧ isNum .f32 m.High = true ∧ Nr (R .f32 m.North) ((n : Rat) / 512) (5 / 100000) ∧
      (∃ z : Int, Nr (R .f32 m.East) ((e : Rat) / 512 + z) (3 / 100000)) ∧ -1 / 2 ≤ R .f32 m.East ∧ R .f32 m.East < 1 / 2 ∧ Nr (R .f32 m.High) (Λ - ρ) (1 / 10000) := by
  have hG := Gr_ge
  have hT1 := T_le
  obtain ⟨v1, v2⟩ := hb.valid
  have hf := isFiniteVector_eq v
  rw [show finV v = true by unfold finV; rw [A.x1, A.y1, A.z1]; rfl] at hf
  obtain ⟨w1, w2⟩ := flat_of A h0 h4 hc hN.cb hF.cb hF.sb hF.one
  obtain ⟨s1, s2⟩ := size_of A h0 h4 hc hN.cb hN.sb hF.cb hF.sb hF.one hN.one
  have hℓ : 0 < Λ * R .f32 (impl_cos N) := Rat.mul_pos (by grind) (by grind)
  -- north
  obtain ⟨p1, p2⟩ := north_part hn
  have kc : Λ * R .f32 (impl_cos N) * (2 / 1000000) ≤ Λ * (3 / 1000000) := by
    have := Rat.mul_le_mul_of_nonneg_left hN.cb.2 (show 0 ≤ Λ by grind)
    grind
  have jn := part_le hN.hk
  have az := A.z
  rw [hN.sR, sgn_mul] at az
  have w3 := w2.mono kc
  rw [hN.cR, sgn_mul, p1] at w3
  obtain ⟨a1, a2, z, a3, a4, a5⟩ := angle_T (L := Λ) (ε := 3 / 1000000) (sx := false) (sy := partY (n % 512).toNat) jn A.z1 w1 (by grind) (by decide +kernel) (by decide +kernel) (az.mono (by grind)) w3
  rw [a3 rfl] at a5
  have a6 : Nr (R .f32 (impl_AngleTurns v.Z (impl_RootNumber (fadd .f32 (fmul .f32 v.X v.X) (fmul .f32 v.Y v.Y))))) ((n : Rat) / 512) (5 / 100000) := by
    have e0 : sgn (partY (n % 512).toNat) (if false = true then 1 / 2 - ((partJ (n % 512).toNat : Int) : Rat) / 512 else ((partJ (n % 512).toNat : Int) : Rat) / 512) + ((0 : Int) : Rat) = (n : Rat) / 512 := by
      show sgn (partY (n % 512).toNat) (((partJ (n % 512).toNat : Int) : Rat) / 512) + 0 = (n : Rat) / 512
      rw [p2]
      exact Rat.add_zero _
    rw [e0] at a5
    exact a5.mono (by decide +kernel)
  have bn1 := Rat.intCast_le_intCast.2 (show (-112 : Int) ≤ n by omega)
  have bn2 := Rat.intCast_le_intCast.2 (show n ≤ (112 : Int) by omega)
  rw [show (((-112 : Int)) : Rat) = -112 by decide +kernel] at bn1
  rw [show (((112 : Int)) : Rat) = 112 by decide +kernel] at bn2
  have hnI : I .f32 (impl_AngleTurns v.Z (impl_RootNumber (fadd .f32 (fmul .f32 v.X v.X) (fmul .f32 v.Y v.Y)))) (some (-24 / 100, 24 / 100)) := by
    unfold Nr at a6
    exact ⟨a2, by grind, by grind⟩
  have g1 : fgt .f32 (impl_AngleTurns v.Z (impl_RootNumber (fadd .f32 (fmul .f32 v.X v.X) (fmul .f32 v.Y v.Y)))) 1048576000 = false := I.not_gt hnI k_quart32 (by decide +kernel)
  have g2 : flt .f32 (impl_AngleTurns v.Z (impl_RootNumber (fadd .f32 (fmul .f32 v.X v.X) (fmul .f32 v.Y v.Y)))) 3196059648 = false := I.not_lt hnI k_mquart32 (by decide +kernel)
  have q1 : fge .f32 (impl_AngleTurns v.Z (impl_RootNumber (fadd .f32 (fmul .f32 v.X v.X) (fmul .f32 v.Y v.Y)))) 3196059648 = true := I.ge hnI k_mquart32 (by decide +kernel)
  have q2 : fle .f32 (impl_AngleTurns v.Z (impl_RootNumber (fadd .f32 (fmul .f32 v.X v.X) (fmul .f32 v.Y v.Y)))) 1048576000 = true := I.le hnI k_quart32 (by decide +kernel)
  -- east
  have jf := part_le hF.hk
  have ax := A.x
  have ay := A.y
  rw [hF.cR, sgn_mul] at ax
  rw [hF.sR, sgn_mul] at ay
  obtain ⟨b1, b2, z', b3, b4, b5⟩ := angle_T (L := Λ * R .f32 (impl_cos N)) (ε := 2 / 10000000) jf A.y1 A.x1 hℓ (by decide +kernel) (by decide +kernel) ay ax
  obtain ⟨y, hy⟩ := part_turn hF.hk
  rw [hy] at b5
  obtain ⟨d, hd⟩ : ∃ d : Int, (((e + φ) % 512).toNat : Int) = e + φ - 512 * d := ⟨(e + φ) / 512, by omega⟩
  have hd2 : ((((e + φ) % 512).toNat : Int) : Rat) / 512 = (e : Rat) / 512 + (φ : Rat) / 512 - (d : Rat) := by
    rw [hd]
    push_cast
    grind
  rw [hd2] at b5
  have hdy : y.natAbs ≤ 2 := by
    have h1 : Bd (sgn (partY ((e + φ) % 512).toNat) (if partX ((e + φ) % 512).toNat then 1 / 2 - ((partJ ((e + φ) % 512).toNat : Int) : Rat) / 512 else ((partJ ((e + φ) % 512).toNat : Int) : Rat) / 512)) (1 / 2) := by
      have r := ref_of jf
      have r0 := r.q0
      have r1 := r.q1
      refine sgn_bd ?_
      cases partX ((e + φ) % 512).toNat
      · show Bd (((partJ ((e + φ) % 512).toNat : Int) : Rat) / 512) (1 / 2)
        unfold Bd; constructor <;> grind
      · show Bd (1 / 2 - ((partJ ((e + φ) % 512).toNat : Int) : Rat) / 512) (1 / 2)
        unfold Bd; constructor <;> grind
    rw [hy] at h1
    have k1 := Rat.intCast_le_intCast.2 (show (0 : Int) ≤ (((e + φ) % 512).toNat : Int) by omega)
    have k2 := Rat.intCast_le_intCast.2 (show ((((e + φ) % 512).toNat : Nat) : Int) ≤ 512 by omega)
    rw [show (((0 : Int)) : Rat) = 0 by decide +kernel] at k1
    rw [show (((512 : Int)) : Rat) = 512 by decide +kernel] at k2
    have c1 : -3 < y := by
      refine Rat.intCast_lt_intCast.1 ?_
      rw [show (((-3 : Int)) : Rat) = -3 by decide +kernel]
      unfold Bd at h1
      grind
    have c2 : y < 3 := by
      refine Rat.intCast_lt_intCast.1 ?_
      rw [show (((3 : Int)) : Rat) = 3 by decide +kernel]
      unfold Bd at h1
      grind
    omega
  have hbd : Bd ((e : Rat) / 512 + (φ : Rat) / 512 - (d : Rat)) 1 := by
    rw [← hd2]
    have k1 := Rat.intCast_le_intCast.2 (show (0 : Int) ≤ (((e + φ) % 512).toNat : Int) by omega)
    have k2 := Rat.intCast_le_intCast.2 (show ((((e + φ) % 512).toNat : Nat) : Int) ≤ 512 by omega)
    rw [show (((0 : Int)) : Rat) = 0 by decide +kernel] at k1
    rw [show (((512 : Int)) : Rat) = 512 by decide +kernel] at k2
    unfold Bd
    constructor <;> grind
  have by1 := Rat.intCast_le_intCast.2 (show (-2 : Int) ≤ y by omega)
  have by2 := Rat.intCast_le_intCast.2 (show y ≤ (2 : Int) by omega)
  have bz1 := Rat.intCast_le_intCast.2 (show (-1 : Int) ≤ z' by omega)
  have bz2 := Rat.intCast_le_intCast.2 (show z' ≤ (1 : Int) by omega)
  have bf1 := Rat.intCast_le_intCast.2 (show (-512 : Int) ≤ φ by omega)
  have bf2 := Rat.intCast_le_intCast.2 (show φ ≤ (512 : Int) by omega)
  rw [show (((-2 : Int)) : Rat) = -2 by decide +kernel] at by1
  rw [show (((2 : Int)) : Rat) = 2 by decide +kernel] at by2
  rw [show (((-1 : Int)) : Rat) = -1 by decide +kernel] at bz1
  rw [show (((1 : Int)) : Rat) = 1 by decide +kernel] at bz2
  rw [show (((-512 : Int)) : Rat) = -512 by decide +kernel] at bf1
  rw [show (((512 : Int)) : Rat) = 512 by decide +kernel] at bf2
  have bs : Bd (R .f32 (impl_AngleTurns v.Y v.X) - R .f32 (impl_Ball_face b t)) 6 := by
    rw [hφ.2]
    unfold Nr Bd at *
    constructor <;> grind
  have f5 := fsub_fl b2 hφ.1 (bs.mono (by grind))
  have e5 := f5.err bs
  have hI : I .f32 (fsub .f32 (impl_AngleTurns v.Y v.X) (impl_Ball_face b t)) (some (-8, 8)) := by
    unfold Nr Bd at *
    exact ⟨f5.1, by grind, by grind⟩
  obtain ⟨r1, r2, r3, r4, u, r5⟩ := wrap_T hI
  -- the height
  have br := hb.radius
  have bsz : Bd (R .f32 (impl_SizeOfVector v) - R .f32 b.Radius) 6 := by
    have := br.2
    unfold Nr Bd at *
    constructor <;> grind
  have f6 := fsub_fl s1 br.1 (bsz.mono (by grind))
  have e6 := f6.err bsz
  have eb : (⟨b.Mass, b.Radius, b.Spin, b.Start⟩ : Ball) = b := rfl
  have ev : (⟨v.X, v.Y, v.Z⟩ : Vec) = v := rfl
  have hvm := ValidMark_eq ⟨impl_AngleTurns v.Z (impl_RootNumber (fadd .f32 (fmul .f32 v.X v.X) (fmul .f32 v.Y v.Y))), impl_wrapTurn (fsub .f32 (impl_AngleTurns v.Y v.X) (impl_Ball_face b t)), fsub .f32 (impl_SizeOfVector v) b.Radius⟩
  have hmk : markB ⟨impl_AngleTurns v.Z (impl_RootNumber (fadd .f32 (fmul .f32 v.X v.X) (fmul .f32 v.Y v.Y))), impl_wrapTurn (fsub .f32 (impl_AngleTurns v.Y v.X) (impl_Ball_face b t)), fsub .f32 (impl_SizeOfVector v) b.Radius⟩ = true := by
    unfold markB
    simp only [q1, q2, r3, r4, f6.1, Bool.and_self]
  rw [hmk] at hvm
  refine ⟨?_, ⟨impl_AngleTurns v.Z (impl_RootNumber (fadd .f32 (fmul .f32 v.X v.X) (fmul .f32 v.Y v.Y))), impl_wrapTurn (fsub .f32 (impl_AngleTurns v.Y v.X) (impl_Ball_face b t)), fsub .f32 (impl_SizeOfVector v) b.Radius⟩, ?_, a2, r2, f6.1, a6, ⟨u + (y + z' - d), ?_⟩, ?_, ?_, ?_⟩
  · unfold impl_MarkOf_need impl_MarkOf_tree
    simp only [eb, ev, v1, v2, hf.1, hf.2, IsFinite_need, IsFinite_eq, ht, Root_need, a1, g1, g2, b1, f5.1, r1, Size_need, hvm.1, hvm.2, Bool.not_true]
    simp only [DT.ok]
  · unfold impl_MarkOf impl_MarkOf_tree
    simp only [eb, ev, v2, hf.2, IsFinite_eq, ht, g1, g2, f5.1, hvm.2, Bool.not_true]
    simp only [DT.val]
  · rw [hφ.2] at e5
    have c : ((u + (y + z' - d) : Int) : Rat) = (u : Rat) + ((y : Rat) + (z' : Rat) - (d : Rat)) := by push_cast; rfl
    show Nr (R .f32 (impl_wrapTurn (fsub .f32 (impl_AngleTurns v.Y v.X) (impl_Ball_face b t)))) _ _
    rw [c]
    unfold Nr at *
    constructor <;> grind
  · show -1 / 2 ≤ R .f32 (impl_wrapTurn (fsub .f32 (impl_AngleTurns v.Y v.X) (impl_Ball_face b t)))
    rw [fge_R r2 k_mhalf32.1, decide_eq_true_eq] at r3
    have := k_mhalf32.2.1
    grind
  · show R .f32 (impl_wrapTurn (fsub .f32 (impl_AngleTurns v.Y v.X) (impl_Ball_face b t))) < 1 / 2
    rw [flt_R r2 k_half32.1, decide_eq_true_eq] at r4
    have := k_half32.2.2
    grind
  · show Nr (R .f32 (fsub .f32 (impl_SizeOfVector v) b.Radius)) _ _
    rw [hρ] at e6
    unfold Nr at *
    constructor <;> grind

end Go.Proofs.Ytkhjcoekmamlaaa
