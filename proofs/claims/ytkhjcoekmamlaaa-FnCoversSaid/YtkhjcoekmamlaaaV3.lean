/- The plain law of FnCovers, parts 2, 3: the rise over a place, nearly; places nearly, and where a place is seen. -/
import Derived.Test.YtkhjcoekmamlaaaV1
import Derived.Test.YtkhjcoekmamlaaaSize
namespace Go.Proofs.Ytkhjcoekmamlaaa
set_option linter.unusedVariables false
set_option linter.unusedSimpArgs false

theorem Inner_eq (a b : Vec) : impl_InnerOf a b = fadd .f32 (fadd .f32 (fmul .f32 a.X b.X) (fmul .f32 a.Y b.Y)) (fmul .f32 a.Z b.Z) := rfl
theorem Less_eq (a b : Vec) : impl_LessVectors a b = ⟨fsub .f32 a.X b.X, fsub .f32 a.Y b.Y, fsub .f32 a.Z b.Z⟩ := rfl
theorem Root_val {x : Nat} : impl_RootNumber x = rootN x := by
  unfold impl_RootNumber impl_RootNumber_tree
  simp only [DT.val]
  rfl
theorem Size_eq (a : Vec) : impl_SizeOfVector a = rootN (innerN a.X a.Y a.Z) := by
  unfold impl_SizeOfVector impl_SizeOfVector_tree
  simp only [DT.val, Root_val]
  rfl

/-- A difference of two numbers that are nearly known. -/
theorem less_R {a b : Nat} {A B : Rat} (ha : isNum .f32 a = true) (hb : isNum .f32 b = true) (nA : Nr (R .f32 a) A (6 / 10000000)) (nB : Nr (R .f32 b) B (6 / 10000000)) (bA : Bd A (4001 / 1000)) (bB : Bd B (1001 / 1000)) :
    isNum .f32 (fsub .f32 a b) = true ∧ Nr (R .f32 (fsub .f32 a b)) (A - B) (16 / 10000000) := by
  have hG := Gr_ge
  have hT1 := T_le
  have b1 : Bd (R .f32 a - R .f32 b) (501 / 100) := by unfold Nr Bd at *; constructor <;> grind
  have f := fsub_fl ha hb (b1.mono (by grind))
  have e := f.err b1
  exact ⟨f.1, by unfold Nr Bd at *; constructor <;> grind⟩

/-- A product of two numbers that are nearly known. -/
theorem prod_R {a b : Nat} {A B : Rat} (ha : isNum .f32 a = true) (hb : isNum .f32 b = true) (nA : Nr (R .f32 a) A (6 / 10000000)) (nB : Nr (R .f32 b) B (16 / 10000000)) (bA : Bd A (1001 / 1000)) (bB : Bd B (501 / 100)) :
    isNum .f32 (fmul .f32 a b) = true ∧ Nr (R .f32 (fmul .f32 a b)) (A * B) (52 / 10000000) := by
  have hG := Gr_ge
  have hT1 := T_le
  have m := Nr.mul nA nB bA (nB.toBd bB)
  have bb := Bd.mul bA bB
  have b1 := m.toBd bb
  have f := fmul_fl ha hb (b1.mono (by grind))
  have e := f.err (b1.mono (N := 6) (by grind))
  exact ⟨f.1, by unfold Nr Bd at *; constructor <;> grind⟩

theorem sq_near {a A e M : Rat} (h : Nr a A e) (b : Bd A M) : Nr (a * a) (A * A) (e * (M + e) + M * e) := Nr.mul h h b (h.toBd b)

theorem rise_R {p v : Vec} {P1 P2 P3 A1 A2 A3 : Rat} (p1 : isNum .f32 p.X = true) (p2 : isNum .f32 p.Y = true) (p3 : isNum .f32 p.Z = true) (v1 : isNum .f32 v.X = true) (v2 : isNum .f32 v.Y = true) (v3 : isNum .f32 v.Z = true)
    (n1 : Nr (R .f32 p.X) P1 (6 / 10000000)) (n2 : Nr (R .f32 p.Y) P2 (6 / 10000000)) (n3 : Nr (R .f32 p.Z) P3 (6 / 10000000))
    (m1 : Nr (R .f32 v.X) A1 (6 / 10000000)) (m2 : Nr (R .f32 v.Y) A2 (6 / 10000000)) (m3 : Nr (R .f32 v.Z) A3 (6 / 10000000))
    (b1 : Bd P1 (1001 / 1000)) (b2 : Bd P2 (1001 / 1000)) (b3 : Bd P3 (1001 / 1000)) (c1 : Bd A1 (4001 / 1000)) (c2 : Bd A2 (4001 / 1000)) (c3 : Bd A3 (4001 / 1000))
    (hP : 1 / 70 ≤ P1 * P1 + P2 * P2 + P3 * P3) (hD : 1 / 2 ≤ (A1 - P1) * (A1 - P1) + (A2 - P2) * (A2 - P2) + (A3 - P3) * (A3 - P3)) :
    isNum .f32 (fdiv .f32 (impl_InnerOf p (impl_LessVectors v p)) (fmul .f32 (impl_SizeOfVector p) (impl_SizeOfVector (impl_LessVectors v p)))) = true ∧ ∃ i ρ σ t X : Rat,
      Nr i (P1 * (A1 - P1) + P2 * (A2 - P2) + P3 * (A3 - P3)) (2 / 100000) ∧ 0 ≤ ρ ∧ 0 ≤ σ ∧ Nr (ρ * ρ) (P1 * P1 + P2 * P2 + P3 * P3) (1 / 100000) ∧
      Nr (σ * σ) ((A1 - P1) * (A1 - P1) + (A2 - P2) * (A2 - P2) + (A3 - P3) * (A3 - P3)) (1 / 10000) ∧ Nr t (ρ * σ) (1 / 100000) ∧ 1 / 20 ≤ t ∧ X * t = i ∧
      Nr (R .f32 (fdiv .f32 (impl_InnerOf p (impl_LessVectors v p)) (fmul .f32 (impl_SizeOfVector p) (impl_SizeOfVector (impl_LessVectors v p))))) X (1 / 10000) := by
  have hG := Gr_ge
  have hT0 := T_pos
  have hT1 := T_le
  obtain ⟨d1, e1⟩ := less_R v1 p1 m1 n1 c1 b1
  obtain ⟨d2, e2⟩ := less_R v2 p2 m2 n2 c2 b2
  obtain ⟨d3, e3⟩ := less_R v3 p3 m3 n3 c3 b3
  have g1 : Bd (A1 - P1) (501 / 100) := by unfold Bd at *; constructor <;> grind
  have g2 : Bd (A2 - P2) (501 / 100) := by unfold Bd at *; constructor <;> grind
  have g3 : Bd (A3 - P3) (501 / 100) := by unfold Bd at *; constructor <;> grind
  rw [Size_eq, Size_eq, Less_eq, Inner_eq]
  simp only
  generalize fsub .f32 v.X p.X = x at *
  generalize fsub .f32 v.Y p.Y = y at *
  generalize fsub .f32 v.Z p.Z = z at *
  generalize hD1 : A1 - P1 = D1 at *
  generalize hD2 : A2 - P2 = D2 at *
  generalize hD3 : A3 - P3 = D3 at *
  clear m1 m2 m3 c1 c2 c3 hD1 hD2 hD3
  -- the inner product
  obtain ⟨q1, r1⟩ := prod_R p1 d1 n1 e1 b1 g1
  obtain ⟨q2, r2⟩ := prod_R p2 d2 n2 e2 b2 g2
  obtain ⟨q3, r3⟩ := prod_R p3 d3 n3 e3 b3 g3
  have s1 := Bd.mul b1 g1
  have s2 := Bd.mul b2 g2
  have s3 := Bd.mul b3 g3
  have hi : isNum .f32 (fadd .f32 (fadd .f32 (fmul .f32 p.X x) (fmul .f32 p.Y y)) (fmul .f32 p.Z z)) = true ∧ Nr (R .f32 (fadd .f32 (fadd .f32 (fmul .f32 p.X x) (fmul .f32 p.Y y)) (fmul .f32 p.Z z))) (P1 * D1 + P2 * D2 + P3 * D3) (2 / 100000) := by
    generalize P1 * D1 = w1 at *
    generalize P2 * D2 = w2 at *
    generalize P3 * D3 = w3 at *
    have k1 : Bd (R .f32 (fmul .f32 p.X x) + R .f32 (fmul .f32 p.Y y)) 11 := by unfold Nr Bd at *; constructor <;> grind
    have f1 := fadd_fl q1 q2 (k1.mono (by grind))
    have t1 := f1.err k1
    have k2 : Bd (R .f32 (fadd .f32 (fmul .f32 p.X x) (fmul .f32 p.Y y)) + R .f32 (fmul .f32 p.Z z)) 17 := by unfold Nr Bd at *; constructor <;> grind
    have f2 := fadd_fl f1.1 q3 (k2.mono (by grind))
    have t2 := f2.err k2
    exact ⟨f2.1, by unfold Nr Bd at *; constructor <;> grind⟩
  obtain ⟨hi1, hi2⟩ := hi
  have s4 : Bd (P1 * D1 + P2 * D2 + P3 * D3) 16 := by unfold Bd at *; constructor <;> grind
  clear r1 r2 r3 q1 q2 q3 s1 s2 s3
  generalize fadd .f32 (fadd .f32 (fmul .f32 p.X x) (fmul .f32 p.Y y)) (fmul .f32 p.Z z) = inn at *
  generalize P1 * D1 + P2 * D2 + P3 * D3 = W at *
  -- the sizes
  have u1 := sq_near n1 b1
  have u2 := sq_near n2 b2
  have u3 := sq_near n3 b3
  have w1 := sq_near e1 g1
  have w2 := sq_near e2 g2
  have w3 := sq_near e3 g3
  have y1 := sq_bd b1
  have y2 := sq_bd b2
  have y3 := sq_bd b3
  have z1 := sq_bd g1
  have z2 := sq_bd g2
  have z3 := sq_bd g3
  have hp2 : Nr (R .f32 p.X * R .f32 p.X + R .f32 p.Y * R .f32 p.Y + R .f32 p.Z * R .f32 p.Z) (P1 * P1 + P2 * P2 + P3 * P3) (4 / 1000000) := by unfold Nr at *; constructor <;> grind
  have hd2 : Nr (R .f32 x * R .f32 x + R .f32 y * R .f32 y + R .f32 z * R .f32 z) (D1 * D1 + D2 * D2 + D3 * D3) (5 / 100000) := by unfold Nr at *; constructor <;> grind
  have hp3 : P1 * P1 + P2 * P2 + P3 * P3 ≤ 31 / 10 := by grind
  have hd3 : D1 * D1 + D2 * D2 + D3 * D3 ≤ 76 := by grind
  clear u1 u2 u3 w1 w2 w3 y1 y2 y3 z1 z2 z3
  obtain ⟨-, -, a3, ρ, a4, a5, a6⟩ := size_fl (B := 4) p1 p2 p3 (by unfold Nr at hp2; grind) (by decide)
  obtain ⟨-, -, l3, σ, l4, l5, l6⟩ := size_fl (B := 80) d1 d2 d3 (by unfold Nr at hd2; grind) (by decide)
  generalize rootN (innerN p.X p.Y p.Z) = sp at *
  generalize rootN (innerN x y z) = sd at *
  generalize R .f32 p.X * R .f32 p.X + R .f32 p.Y * R .f32 p.Y + R .f32 p.Z * R .f32 p.Z = PP at *
  generalize R .f32 x * R .f32 x + R .f32 y * R .f32 y + R .f32 z * R .f32 z = DD at *
  generalize P1 * P1 + P2 * P2 + P3 * P3 = QQ at *
  generalize D1 * D1 + D2 * D2 + D3 * D3 = EE at *
  have o1 : Nr (ρ * ρ) QQ (1 / 100000) := by unfold Nr at *; constructor <;> grind
  have o2 : Nr (σ * σ) EE (1 / 10000) := by unfold Nr at *; constructor <;> grind
  have h1 : ρ ≤ 18 / 10 := le_of_sq (by grind) (by unfold Nr at o1; grind)
  have h2 : σ ≤ 88 / 10 := le_of_sq (by grind) (by unfold Nr at o2; grind)
  have h3 : 11 / 100 ≤ ρ := le_of_sq a4 (by unfold Nr at o1; grind)
  have h4 : 7 / 10 ≤ σ := le_of_sq l4 (by unfold Nr at o2; grind)
  have j1 : Nr (R .f32 sp) ρ (12 / 100000000) := a6.mono (by grind)
  have j2 : Nr (R .f32 sd) σ (56 / 100000000) := l6.mono (by grind)
  have x1 : Bd ρ (18 / 10) := by unfold Bd; constructor <;> grind
  have x2 : Bd σ (88 / 10) := by unfold Bd; constructor <;> grind
  have x3 := Nr.mul j1 j2 x1 (j2.toBd x2)
  have x4 : Bd (ρ * σ) 16 := (Bd.mul x1 x2).mono (by grind)
  have x5 : Bd (R .f32 sp * R .f32 sd) 17 := (x3.toBd x4).mono (by grind)
  have f := fmul_fl a3 l3 (x5.mono (by grind))
  have fe := f.err x5
  have f1 := f.1
  have hlow : 77 / 1000 ≤ ρ * σ := by
    have q := Rat.mul_le_mul_of_nonneg_left h4 a4
    grind
  generalize fmul .f32 sp sd = den at *
  have ht : Nr (R .f32 den) (ρ * σ) (1 / 100000) := by unfold Nr at *; constructor <;> grind
  have hpos : 7 / 100 ≤ R .f32 den := by unfold Nr at ht; grind
  generalize ht' : R .f32 den = t at *
  have ht0 : t ≠ 0 := by grind
  have hX : R .f32 inn * t⁻¹ * t = R .f32 inn := by rw [Rat.mul_assoc, Rat.inv_mul_cancel _ ht0, Rat.mul_one]
  have hb : Bd (R .f32 inn * t⁻¹) 300 := by
    have hin := hi2.toBd s4
    generalize R .f32 inn * t⁻¹ = X at *
    generalize R .f32 inn = i at *
    unfold Bd at hin ⊢
    constructor
    · rw [← Rat.not_lt]
      intro h
      have hh : X ≤ -300 := by grind
      have q := Rat.mul_le_mul_of_nonneg_right hh (c := t) (by grind)
      grind
    · rw [← Rat.not_lt]
      intro h
      have hh : 300 ≤ X := by grind
      have q := Rat.mul_le_mul_of_nonneg_right hh (c := t) (by grind)
      grind
  obtain ⟨k1, k2⟩ := quot_fl (X := R .f32 inn * t⁻¹) hi1 f1 (by rw [ht']; exact ht0) (by rw [ht']; exact hX) (hb.mono (by grind))
  have k3 := k2 300 hb
  refine ⟨k1, R .f32 inn, ρ, σ, t, _, hi2, a4, l4, o1, o2, ht, by grind, hX, k3.mono ?_⟩
  unfold U
  grind

def circ2 (s c : Nat) : Bool := isNum .f32 s && (isNum .f32 c && (decide (R .f32 s * R .f32 s + R .f32 c * R .f32 c ≤ 1 + 1 / 1000000) && decide (1 - 1 / 1000000 ≤ R .f32 s * R .f32 s + R .f32 c * R .f32 c)))
/-- A turn whose sine and cosine lie near the circle. -/
noncomputable def circ (x : Nat) : Bool := impl_SineTurns_need x && (impl_cos_need x && circ2 (impl_SineTurns x) (impl_cos x))
noncomputable def sinR (x : Nat) : Rat := R .f32 (impl_SineTurns x)
noncomputable def cosR (x : Nat) : Rat := R .f32 (impl_cos x)

structure Circ (x : Nat) : Prop where
  sn : impl_SineTurns_need x = true
  cn : impl_cos_need x = true
  sN : isNum .f32 (impl_SineTurns x) = true
  cN : isNum .f32 (impl_cos x) = true
  one : Nr (sinR x * sinR x + cosR x * cosR x) 1 (1 / 1000000)
  sb : Bd (sinR x) (1000001 / 1000000)
  cb : Bd (cosR x) (1000001 / 1000000)

theorem bd_sq {a : Rat} (h : a * a ≤ 1 + 1 / 1000000) : Bd a (1000001 / 1000000) := by
  constructor
  · have : -a ≤ 1000001 / 1000000 := le_of_sq (by decide +kernel) (by grind)
    grind
  · exact le_of_sq (by decide +kernel) (by grind)

theorem circ_of {x : Nat} (h : circ x = true) : Circ x := by
  unfold circ circ2 at h
  simp only [Bool.and_eq_true, decide_eq_true_eq] at h
  obtain ⟨h1, h2, h3, h4, h5, h6⟩ := h
  have s := sq_nonneg (R .f32 (impl_SineTurns x))
  have c := sq_nonneg (R .f32 (impl_cos x))
  refine ⟨h1, h2, h3, h4, ?_, bd_sq ?_, bd_sq ?_⟩
  · unfold sinR cosR Nr; constructor <;> grind
  · unfold sinR; grind
  · unfold cosR; grind

theorem place_R {b : Ball} {m : Mark} {t f : Nat} {Λ : Rat} (hl : isNum .f32 (fadd .f32 b.Radius m.High) = true) (hΛ : R .f32 (fadd .f32 b.Radius m.High) = Λ) (h0 : Bd Λ 4) (hf : fadd .f32 m.East (impl_Ball_face b t) = f) (hN : Circ m.North) (hF : Circ f) :
    impl_Ball_place_need b m t = true ∧ isNum .f32 (impl_Ball_place b m t).X = true ∧ isNum .f32 (impl_Ball_place b m t).Y = true ∧ isNum .f32 (impl_Ball_place b m t).Z = true ∧
    Nr (R .f32 (impl_Ball_place b m t).X) (Λ * (cosR m.North * cosR f)) (6 / 10000000) ∧ Nr (R .f32 (impl_Ball_place b m t).Y) (Λ * (cosR m.North * sinR f)) (6 / 10000000) ∧ Nr (R .f32 (impl_Ball_place b m t).Z) (Λ * sinR m.North) (6 / 10000000) := by
  have hG := Gr_ge
  have hT1 := T_le
  have hT0 := T_pos
  have e : (⟨b.Mass, b.Radius, b.Spin, b.Start⟩ : Ball) = b := rfl
  have hn : impl_Ball_place_need b m t = true := by
    unfold impl_Ball_place_need impl_Ball_place_tree
    simp only [DT.ok, e, hf, hN.cn, hF.cn, hF.sn, hN.sn]
  have hv : impl_Ball_place b m t = ⟨fmul .f32 (fmul .f32 (fadd .f32 b.Radius m.High) (impl_cos m.North)) (impl_cos f), fmul .f32 (fmul .f32 (fadd .f32 b.Radius m.High) (impl_cos m.North)) (impl_SineTurns f), fmul .f32 (fadd .f32 b.Radius m.High) (impl_SineTurns m.North)⟩ := by
    unfold impl_Ball_place impl_Ball_place_tree
    simp only [DT.val, e, hf]
  rw [hv]
  refine ⟨hn, ?_⟩
  simp only
  have c1 := hN.cb
  have c2 := hF.cb
  have c3 := hF.sb
  have c4 := hN.sb
  have d1 : R .f32 (impl_cos m.North) = cosR m.North := rfl
  have d2 : R .f32 (impl_cos f) = cosR f := rfl
  have d3 : R .f32 (impl_SineTurns f) = sinR f := rfl
  have d4 : R .f32 (impl_SineTurns m.North) = sinR m.North := rfl
  generalize cosR m.North = p at *
  generalize cosR f = q at *
  generalize sinR f = r at *
  generalize sinR m.North = s at *
  have b1 : Bd (Λ * p) (401 / 100) := (Bd.mul h0 c1).mono (by grind)
  have b4 : Bd (Λ * s) (401 / 100) := (Bd.mul h0 c4).mono (by grind)
  have f1 := fmul_fl hl hN.cN (by rw [hΛ, d1]; exact b1.mono (by grind))
  have f4 := fmul_fl hl hN.sN (by rw [hΛ, d4]; exact b4.mono (by grind))
  rw [hΛ, d1] at f1
  rw [hΛ, d4] at f4
  have e1 := f1.err b1
  have e4 := f4.err b4
  have n1 := f1.1
  generalize fmul .f32 (fadd .f32 b.Radius m.High) (impl_cos m.North) = w at *
  have g := e1.toBd b1
  have m2 := Nr.mul e1 (Nr.refl q) b1 c2
  have m3 := Nr.mul e1 (Nr.refl r) b1 c3
  have b2 : Bd (R .f32 w * q) (402 / 100) := (Bd.mul g c2).mono (by grind)
  have b3 : Bd (R .f32 w * r) (402 / 100) := (Bd.mul g c3).mono (by grind)
  have f2 := fmul_fl n1 hF.cN (by rw [d2]; exact b2.mono (by grind))
  have f3 := fmul_fl n1 hF.sN (by rw [d3]; exact b3.mono (by grind))
  rw [d2] at f2
  rw [d3] at f3
  have e2 := f2.err b2
  have e3 := f3.err b3
  have a2 : Λ * (p * q) = Λ * p * q := by grind
  have a3 : Λ * (p * r) = Λ * p * r := by grind
  refine ⟨f2.1, f3.1, f4.1, ?_, ?_, e4.mono (by grind)⟩
  · rw [a2]; exact (e2.trans m2).mono (by grind)
  · rw [a3]; exact (e3.trans m3).mono (by grind)

/-! ## Directions -/

/-- The direction of a north and a turn. -/
noncomputable def dX (n f : Nat) : Rat := cosR n * cosR f
noncomputable def dY (n f : Nat) : Rat := cosR n * sinR f
noncomputable def dZ (n f : Nat) : Rat := sinR n
noncomputable def dot (n f m g : Nat) : Rat := dX n f * dX m g + dY n f * dY m g + dZ n f * dZ m g

theorem dir_bd {n f : Nat} (hN : Circ n) (hF : Circ f) : Bd (dX n f) (100001 / 100000) ∧ Bd (dY n f) (100001 / 100000) ∧ Bd (dZ n f) (100001 / 100000) :=
  ⟨(Bd.mul hN.cb hF.cb).mono (by grind), (Bd.mul hN.cb hF.sb).mono (by grind), hN.sb.mono (by grind)⟩

theorem dir_one {n f : Nat} (hN : Circ n) (hF : Circ f) : Nr (dX n f * dX n f + dY n f * dY n f + dZ n f * dZ n f) 1 (3 / 1000000) := by
  unfold dX dY dZ
  have a := hN.one
  have b := hF.one
  have s := sq_nonneg (sinR n)
  have c := sq_nonneg (cosR n)
  have m := Nr.mul (Nr.refl (cosR n * cosR n)) b (M := 1000001 / 1000000) (by unfold Nr Bd at *; constructor <;> grind) (b.toBd (M := 1) (by unfold Bd; constructor <;> grind))
  have e : cosR n * cosR f * (cosR n * cosR f) + cosR n * sinR f * (cosR n * sinR f) + sinR n * sinR n = cosR n * cosR n * (sinR f * sinR f + cosR f * cosR f) + sinR n * sinR n := by grind
  rw [e]
  generalize cosR n * cosR n * (sinR f * sinR f + cosR f * cosR f) = z at *
  unfold Nr at *
  constructor <;> grind

/-- What is known of a rise: products, sizes, quotient. -/
structure Rise (ρ H γ x : Rat) : Prop where
  ex : ∃ i r σ t X : Rat, Nr i (ρ * (H * γ - ρ)) (3 / 100000) ∧ 0 ≤ r ∧ 0 ≤ σ ∧ Nr (r * r) (ρ * ρ) (2 / 100000) ∧ Nr (σ * σ) (H * H + ρ * ρ - 2 * (H * ρ * γ)) (2 / 10000) ∧ Nr t (r * σ) (1 / 100000) ∧ 1 / 20 ≤ t ∧ X * t = i ∧ Nr x X (1 / 10000)

theorem rise_of {p v : Vec} {q1 q2 q3 e1 e2 e3 ρ H : Rat} (hp : isNum .f32 p.X = true ∧ isNum .f32 p.Y = true ∧ isNum .f32 p.Z = true ∧ Nr (R .f32 p.X) (ρ * q1) (6 / 10000000) ∧ Nr (R .f32 p.Y) (ρ * q2) (6 / 10000000) ∧ Nr (R .f32 p.Z) (ρ * q3) (6 / 10000000))
    (hv : isNum .f32 v.X = true ∧ isNum .f32 v.Y = true ∧ isNum .f32 v.Z = true ∧ Nr (R .f32 v.X) (H * e1) (6 / 10000000) ∧ Nr (R .f32 v.Y) (H * e2) (6 / 10000000) ∧ Nr (R .f32 v.Z) (H * e3) (6 / 10000000))
    (hq : Bd q1 (100001 / 100000) ∧ Bd q2 (100001 / 100000) ∧ Bd q3 (100001 / 100000)) (he : Bd e1 (100001 / 100000) ∧ Bd e2 (100001 / 100000) ∧ Bd e3 (100001 / 100000))
    (q0 : Nr (q1 * q1 + q2 * q2 + q3 * q3) 1 (3 / 1000000)) (e0 : Nr (e1 * e1 + e2 * e2 + e3 * e3) 1 (3 / 1000000)) (h1 : 1 / 8 ≤ ρ) (h2 : ρ ≤ 1) (h3 : ρ + 3 / 4 ≤ H) (h4 : H ≤ 4) :
    isNum .f32 (fdiv .f32 (impl_InnerOf p (impl_LessVectors v p)) (fmul .f32 (impl_SizeOfVector p) (impl_SizeOfVector (impl_LessVectors v p)))) = true ∧ Rise ρ H (q1 * e1 + q2 * e2 + q3 * e3) (R .f32 (fdiv .f32 (impl_InnerOf p (impl_LessVectors v p)) (fmul .f32 (impl_SizeOfVector p) (impl_SizeOfVector (impl_LessVectors v p))))) := by
  obtain ⟨p1, p2, p3, n1, n2, n3⟩ := hp
  obtain ⟨v1, v2, v3, m1, m2, m3⟩ := hv
  obtain ⟨b1, b2, b3⟩ := hq
  obtain ⟨c1, c2, c3⟩ := he
  have hρ : Bd ρ 1 := by unfold Bd; constructor <;> grind
  have hH : Bd H 4 := by unfold Bd; constructor <;> grind
  have eP : ρ * q1 * (ρ * q1) + ρ * q2 * (ρ * q2) + ρ * q3 * (ρ * q3) = ρ * ρ * (q1 * q1 + q2 * q2 + q3 * q3) := by grind
  have eI : ρ * q1 * (H * e1 - ρ * q1) + ρ * q2 * (H * e2 - ρ * q2) + ρ * q3 * (H * e3 - ρ * q3) = ρ * (H * (q1 * e1 + q2 * e2 + q3 * e3)) - ρ * ρ * (q1 * q1 + q2 * q2 + q3 * q3) := by grind
  have eD : (H * e1 - ρ * q1) * (H * e1 - ρ * q1) + (H * e2 - ρ * q2) * (H * e2 - ρ * q2) + (H * e3 - ρ * q3) * (H * e3 - ρ * q3) = H * H * (e1 * e1 + e2 * e2 + e3 * e3) + ρ * ρ * (q1 * q1 + q2 * q2 + q3 * q3) - 2 * (H * ρ * (q1 * e1 + q2 * e2 + q3 * e3)) := by grind
  have hγ : q1 * e1 + q2 * e2 + q3 * e3 ≤ 1 + 3 / 1000000 := by
    have s1 := sq_nonneg (q1 - e1)
    have s2 := sq_nonneg (q2 - e2)
    have s3 := sq_nonneg (q3 - e3)
    unfold Nr at q0 e0
    grind
  have k1 : Bd (ρ * ρ) 1 := (Bd.mul hρ hρ).mono (by grind)
  have k2 : Bd (H * H) 16 := (Bd.mul hH hH).mono (by grind)
  have k3 : Bd (H * ρ) 4 := (Bd.mul hH hρ).mono (by grind)
  have x1 := Nr.mul (Nr.refl (ρ * ρ)) q0 k1 (q0.toBd (M := 1) (by unfold Bd; constructor <;> grind))
  have x2 := Nr.mul (Nr.refl (H * H)) e0 k2 (e0.toBd (M := 1) (by unfold Bd; constructor <;> grind))
  have y1 : 1 / 64 ≤ ρ * ρ := by have := sq_le (by decide +kernel) h1; grind
  have y2 : 9 / 16 ≤ (H - ρ) * (H - ρ) := by have := sq_le (a := 3 / 4) (b := H - ρ) (by decide +kernel) (by grind); grind
  have y3 : 0 ≤ H * ρ := Rat.mul_nonneg (by grind) (by grind)
  have y4 := Rat.mul_le_mul_of_nonneg_left hγ y3
  have r := rise_R p1 p2 p3 v1 v2 v3 n1 n2 n3 m1 m2 m3 ((Bd.mul hρ b1).mono (by grind)) ((Bd.mul hρ b2).mono (by grind)) ((Bd.mul hρ b3).mono (by grind)) ((Bd.mul hH c1).mono (by grind)) ((Bd.mul hH c2).mono (by grind)) ((Bd.mul hH c3).mono (by grind))
    (by rw [eP]; unfold Nr at x1; grind) (by
      rw [eD]
      have y5 : (H - ρ) * (H - ρ) = H * H + ρ * ρ - 2 * (H * ρ) := by grind
      generalize H * H * (e1 * e1 + e2 * e2 + e3 * e3) = z1 at *
      generalize ρ * ρ * (q1 * q1 + q2 * q2 + q3 * q3) = z2 at *
      generalize q1 * e1 + q2 * e2 + q3 * e3 = γ at *
      generalize H * ρ * γ = z3 at *
      unfold Nr Bd at *
      grind)
  rw [eP, eI, eD] at r
  refine ⟨r.1, ?_⟩
  obtain ⟨i, rr, σ, t, X, r1, r2, r3, r4, r5, r6, r9, r7, r8⟩ := r.2
  generalize ρ * ρ * (q1 * q1 + q2 * q2 + q3 * q3) = z2 at *
  generalize H * H * (e1 * e1 + e2 * e2 + e3 * e3) = z1 at *
  generalize q1 * e1 + q2 * e2 + q3 * e3 = γ at *
  have eR : ρ * (H * γ - ρ) = ρ * (H * γ) - ρ * ρ := by grind
  generalize hz4 : ρ * (H * γ) = z4 at *
  generalize hz3 : H * ρ * γ = z3 at *
  refine ⟨i, rr, σ, t, X, ?_, r2, r3, ?_, ?_, r6, r9, r7, r8⟩
  · rw [eR]
    unfold Nr at *; constructor <;> grind
  · unfold Nr at *; constructor <;> grind
  · rw [hz3]
    unfold Nr at *; constructor <;> grind

end Go.Proofs.Ytkhjcoekmamlaaa
