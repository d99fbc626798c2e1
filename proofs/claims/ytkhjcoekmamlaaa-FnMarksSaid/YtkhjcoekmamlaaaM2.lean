/- The plain law of FnMarks, part 2: turns, places and angles, nearly. -/
import Derived.Test.YtkhjcoekmamlaaaM1
import Derived.Test.YtkhjcoekmamlaaaTn
namespace Go.Proofs.Ytkhjcoekmamlaaa
set_option linter.unusedVariables false
set_option linter.unusedSimpArgs false

/-! ## Turns -/

theorem Q.I {k : FloatKind} {x : Nat} {n : Int} (h : Q k x n) {m : Int} (hm : -m ≤ n ∧ n ≤ m) {a b : Rat} (ha : a ≤ -(m : Rat) / 512) (hb : (m : Rat) / 512 ≤ b) : I k x (some (a, b)) := by
  have h1 := Rat.intCast_le_intCast.2 hm.1
  have h2 := Rat.intCast_le_intCast.2 hm.2
  rw [Rat.intCast_neg] at h1
  refine ⟨h.1, ?_, ?_⟩ <;> rw [h.2] <;> grind

theorem sin_Q {f : Nat} {n : Int} (h : Q .f32 f n) (hn : n.natAbs ≤ 4096) :
    impl_SineTurns_need f = true ∧ isNum .f32 (impl_SineTurns f) = true ∧ R .f32 (impl_SineTurns f) = sinV (n % 512).toNat := by
  have hI : I .f32 f (some (-8, 8)) := h.I (m := 4096) (by omega) (by decide +kernel) (by decide +kernel)
  have ha := fabs_I (M := 100) (hI.up.to (by decide +kernel))
  have hfar : fge .f64 (math_Abs (fconv .f32 f .f64)) 4841369599423283200 = false := by
    rw [fge_R ha.1 k_far.1]
    exact decide_eq_false (by have := ha.2.2; have := k_far.2.1; grind)
  have hs := sine_I hI.up (by decide +kernel) (by decide +kernel)
  have hf := I.fits hs (by decide +kernel) (by decide +kernel)
  have hb : Bd (R .f64 (fconv .f32 f .f64)) 4503599627370495 := by have := hI.up.2.1; have := hI.up.2.2; unfold Bd; constructor <;> grind
  have e : impl_sine (fconv .f32 f .f64) = sineOf (leftOf (fconv .f32 f .f64)) := by rw [impl_sine_eq, impl_behind_eq (sm52 hI.up.1 hb)]
  rw [e] at hf
  obtain ⟨s1, s2⟩ := sine_Q (k := (n % 512).toNat) (by omega) ((h.up.left (by omega)).to (by omega))
  unfold impl_SineTurns_need impl_SineTurns impl_SineTurns_tree
  simp only [DT.ok, DT.val, IsFinite_need, IsFinite_eq, hI.1, Bool.not_true, fconvOk_up, hfar, hf, e]
  exact ⟨trivial, s1, s2⟩

theorem q_quart32 : Q .f32 1048576000 128 := ⟨by decide +kernel, by decide +kernel⟩

theorem S_R {j : Nat} (hj : j ≤ 128) : 0 ≤ S j ∧ S j ≤ 101 / 100 := by
  have r := ref_of hj
  have h0 := r.s0
  have h1 := r.s1
  rw [uT_R hj] at h0 h1
  exact ⟨h0, h1⟩

theorem sgn_sq (b : Bool) (a : Rat) : sgn b a * sgn b a = a * a := by
  unfold sgn
  cases b
  · rfl
  · show -a * -a = a * a
    grind
theorem sgn_bd {b : Bool} {a M : Rat} (h : Bd a M) : Bd (sgn b a) M := by
  unfold sgn
  cases b
  · exact h
  · exact h.neg
theorem sgn_mul (b : Bool) (a L : Rat) : L * sgn b a = sgn b (L * a) := by
  unfold sgn
  cases b
  · rfl
  · show L * -a = -(L * a)
    grind

/-- What is known of a turn of k parts of 512. -/
structure Turn (f k : Nat) : Prop where
  hk : k < 512
  sn : impl_SineTurns_need f = true
  cn : impl_cos_need f = true
  sN : isNum .f32 (impl_SineTurns f) = true
  cN : isNum .f32 (impl_cos f) = true
  sR : R .f32 (impl_SineTurns f) = sgn (partY k) (S (partJ k))
  cR : R .f32 (impl_cos f) = sgn (partX k) (S (128 - partJ k))

theorem turn_of {f : Nat} {n : Int} (h : Q .f32 f n) (hn : n.natAbs ≤ 3000) : Turn f (n % 512).toNat := by
  obtain ⟨a1, a2, a3⟩ := sin_Q h (by omega)
  obtain ⟨b1, b2, b3⟩ := sin_Q (h.add q_quart32 (by omega)) (by omega)
  have hk : (n % 512).toNat < 512 := by omega
  have e : impl_cos f = impl_SineTurns (fadd .f32 f 1048576000) := by
    unfold impl_cos impl_cos_tree
    simp only [DT.val]
  refine ⟨hk, a1, ?_, a2, by rw [e]; exact b2, by rw [a3, part_sin hk], ?_⟩
  · unfold impl_cos_need impl_cos_tree
    simp only [DT.ok, b1]
  · rw [e, b3, ← part_cos hk]
    congr 1
    omega

theorem Turn.sb {f k : Nat} (h : Turn f k) : Bd (R .f32 (impl_SineTurns f)) (101 / 100) := by
  rw [h.sR]
  have := S_R (part_le h.hk)
  exact sgn_bd (by unfold Bd; constructor <;> grind)
theorem Turn.cb {f k : Nat} (h : Turn f k) : Bd (R .f32 (impl_cos f)) (101 / 100) := by
  rw [h.cR]
  have := S_R (show 128 - partJ k ≤ 128 by omega)
  exact sgn_bd (by unfold Bd; constructor <;> grind)
theorem Turn.one {f k : Nat} (h : Turn f k) : Nr (R .f32 (impl_SineTurns f) * R .f32 (impl_SineTurns f) + R .f32 (impl_cos f) * R .f32 (impl_cos f)) 1 (1 / 1000000) := by
  rw [h.sR, h.cR, sgn_sq, sgn_sq]
  have c := c_circ ⟨partJ k, by have := part_le h.hk; omega⟩
  rw [Bool.and_eq_true, decide_eq_true_eq, decide_eq_true_eq] at c
  unfold Nr
  constructor <;> grind

/-! ## Places -/

structure At (v : Vec) (Λ cN sN cF sF : Rat) : Prop where
  x1 : isNum .f32 v.X = true
  y1 : isNum .f32 v.Y = true
  z1 : isNum .f32 v.Z = true
  x : Nr (R .f32 v.X) (Λ * cN * cF) (Λ * cN * (2 / 10000000))
  y : Nr (R .f32 v.Y) (Λ * cN * sF) (Λ * cN * (2 / 10000000))
  z : Nr (R .f32 v.Z) (Λ * sN) (Λ * (1 / 10000000))

theorem place_of {b : Ball} {m : Mark} {t f kn kf : Nat} {Λ : Rat} (hl : isNum .f32 (fadd .f32 b.Radius m.High) = true) (hΛ : R .f32 (fadd .f32 b.Radius m.High) = Λ) (h0 : 1 / 8 ≤ Λ) (h4 : Λ ≤ 4) (hf : fadd .f32 m.East (impl_Ball_face b t) = f) (hN : Turn m.North kn) (hF : Turn f kf)
    (hc : 1 / 10 ≤ R .f32 (impl_cos m.North)) :
    impl_Ball_place_need b m t = true ∧ At (impl_Ball_place b m t) Λ (R .f32 (impl_cos m.North)) (R .f32 (impl_SineTurns m.North)) (R .f32 (impl_cos f)) (R .f32 (impl_SineTurns f)) := by
  have hG := Gr_ge
  have hT1 := T_le
  have hT0 := T_pos
  have e : (⟨b.Mass, b.Radius, b.Spin, b.Start⟩ : Ball) = b := rfl
  have hn : impl_Ball_place_need b m t = true := by
    unfold impl_Ball_place_need impl_Ball_place_tree
    simp only [DT.ok, e, hf, hN.cn, hF.cn, hF.sn, hN.sn]
  have hv : impl_Ball_place b m t = ⟨fmul .f32 (fmul .f32 (fadd .f32 b.Radius m.High) (impl_cos m.North)) (impl_cos f), fmul .f32 (fmul .f32 (fadd .f32 b.Radius m.High) (impl_cos m.North)) (impl_SineTurns f), fmul .f32 (fadd .f32 b.Radius m.High) (impl_SineTurns m.North)⟩ := by
    unfold impl_Ball_place impl_Ball_place_tree
    simp only [DT.val, e, hf]
  rw [hv]
  refine ⟨hn, ?_⟩
  have c1 := hN.cb
  have c2 := hF.cb
  have c3 := hF.sb
  have c4 := hN.sb
  have n1 := hN.cN
  have n2 := hF.cN
  have n3 := hF.sN
  have n4 := hN.sN
  generalize impl_cos m.North = p at *
  generalize impl_cos f = q at *
  generalize impl_SineTurns f = r at *
  generalize impl_SineTurns m.North = s at *
  have hΛ1 : Bd Λ Λ := by unfold Bd; constructor <;> grind
  have hlow : 1 / 80 ≤ Λ * R .f32 p := by
    have := Rat.mul_le_mul_of_nonneg_left hc (show 0 ≤ Λ by grind)
    grind
  have b1 : Bd (Λ * R .f32 p) (Λ * R .f32 p) := by unfold Bd; constructor <;> grind
  have b1' : Bd (Λ * R .f32 p) 5 := (Bd.mul hΛ1 c1).mono (by grind)
  have b4 : Bd (Λ * R .f32 s) (Λ * (101 / 100)) := Bd.mul hΛ1 c4
  have f1 := fmul_fl hl n1 (by rw [hΛ]; exact b1'.mono (by grind))
  have f4 := fmul_fl hl n4 (by rw [hΛ]; exact b4.mono (by grind))
  rw [hΛ] at f1 f4
  have e1 := f1.err b1
  have e4 := f4.err b4
  have m1 := f1.1
  generalize fmul .f32 (fadd .f32 b.Radius m.High) p = w at *
  generalize hℓ : Λ * R .f32 p = ℓ at *
  have e1' : Nr (R .f32 w) ℓ (ℓ * (7 / 100000000)) := e1.mono (by grind)
  have bw : Bd (R .f32 w) (ℓ * (1000001 / 1000000)) := (e1'.toBd b1).mono (by grind)
  have g2 := Bd.mul bw c2
  have g3 := Bd.mul bw c3
  have k2 := Bd.mul (Nr.bd.1 e1') c2
  have k3 := Bd.mul (Nr.bd.1 e1') c3
  have i2 : (R .f32 w - ℓ) * R .f32 q = R .f32 w * R .f32 q - ℓ * R .f32 q := by grind
  have i3 : (R .f32 w - ℓ) * R .f32 r = R .f32 w * R .f32 r - ℓ * R .f32 r := by grind
  rw [i2] at k2
  rw [i3] at k3
  have hℓ5 : ℓ ≤ 5 := b1'.2
  have f2 := fmul_fl m1 n2 (g2.mono (by grind))
  have f3 := fmul_fl m1 n3 (g3.mono (by grind))
  have e2 := f2.err g2
  have e3 := f3.err g3
  refine ⟨f2.1, f3.1, f4.1, ?_, ?_, e4.mono (by grind)⟩
  · show Nr (R .f32 (fmul .f32 w q)) (Λ * R .f32 p * R .f32 q) (Λ * R .f32 p * (2 / 10000000))
    rw [hℓ]
    unfold Nr Bd at *
    constructor <;> grind
  · show Nr (R .f32 (fmul .f32 w r)) (Λ * R .f32 p * R .f32 r) (Λ * R .f32 p * (2 / 10000000))
    rw [hℓ]
    unfold Nr Bd at *
    constructor <;> grind

/-! ## Angles -/

theorem angle_T {y x j : Nat} {L ε : Rat} {sx sy : Bool} (hj : j ≤ 128) (hy : isNum .f32 y = true) (hx : isNum .f32 x = true) (hL : 0 < L) (hε : 1 / 1000000000 ≤ ε) (hε2 : ε ≤ 1 / 1000)
    (ny : Nr (R .f32 y) (sgn sy (L * S j)) (L * ε)) (nx : Nr (R .f32 x) (sgn sx (L * S (128 - j))) (L * ε)) :
    impl_AngleTurns_need y x = true ∧ isNum .f32 (impl_AngleTurns y x) = true ∧ ∃ z : Int, (sx = false → z = 0) ∧ z.natAbs ≤ 1 ∧
      Nr (R .f32 (impl_AngleTurns y x)) (sgn sy (if sx then 1 / 2 - ((j : Int) : Rat) / 512 else ((j : Int) : Rat) / 512) + z) (10 * ε + 14 / 1000000) := by
  have hG := Gr_ge
  have hT1 := T_le
  have hr := ref_of hj
  have e1 : L * ε ≤ L * (1 / 1000) := Rat.mul_le_mul_of_nonneg_left hε2 (Rat.le_of_lt hL)
  obtain ⟨uy, vy⟩ := up_R hy
  obtain ⟨ux, vx⟩ := up_R hx
  have rs := uT_R hj
  have rc := uT_R (show 128 - j ≤ 128 by omega)
  have z0 : isNum .f32 0 = true ∧ R .f32 0 = 0 := by decide +kernel
  have hne : ¬ (R .f32 y = 0 ∧ R .f32 x = 0) := by
    rintro ⟨h1, h2⟩
    have hh : 7 / 10 ≤ S j ∨ 7 / 10 ≤ S (128 - j) := by
      rw [← rs, ← rc]
      rcases hr.arcs with h | h | h
      · exact .inr h.2.1
      · exact .inl h.2.1
      · exact .inl h.2.1
    rw [h1] at ny
    rw [h2] at nx
    rcases hh with h | h
    · have := Rat.mul_le_mul_of_nonneg_left h (Rat.le_of_lt hL)
      cases sy <;> simp [sgn] at ny <;> unfold Nr at ny <;> grind
    · have := Rat.mul_le_mul_of_nonneg_left h (Rat.le_of_lt hL)
      cases sx <;> simp [sgn] at nx <;> unfold Nr at nx <;> grind
  obtain ⟨a1, z, a2, a3, a4⟩ := angle_near hr uy ux hL hε hε2 (by rw [vy, rs]; exact ny) (by rw [vx, rc]; exact nx)
  have ea : impl_angle (fconv .f32 y .f64) (fconv .f32 x .f64) = angleC (fgt .f64 (fabs (fconv .f32 y .f64)) (fabs (fconv .f32 x .f64))) (flt .f64 (fconv .f32 x .f64) 0) (flt .f64 (fconv .f32 y .f64) 0) (ratio (fabs (fconv .f32 y .f64)) (fabs (fconv .f32 x .f64))) := by
    rw [impl_angle_eq, math_Abs_eq (num_nan uy), math_Abs_eq (num_nan ux)]
  rw [← ea] at a1 a4
  have hq0 := hr.q0
  have hq1 := hr.q1
  generalize ((j : Int) : Rat) / 512 = q at *
  have bz : Bd (z : Rat) 1 := by
    have h1 := Rat.intCast_le_intCast.2 (show (-1 : Int) ≤ z by omega)
    have h2 := Rat.intCast_le_intCast.2 (show z ≤ (1 : Int) by omega)
    exact ⟨h1, h2⟩
  have bq : Bd (sgn sy (if sx then 1 / 2 - q else q)) (1 / 2) := by
    refine sgn_bd ?_
    cases sx
    · show Bd q (1 / 2)
      unfold Bd; constructor <;> grind
    · show Bd (1 / 2 - q) (1 / 2)
      unfold Bd; constructor <;> grind
  have bb : Bd (R .f64 (impl_angle (fconv .f32 y .f64) (fconv .f32 x .f64))) 2 := by unfold Nr Bd at *; constructor <;> grind
  obtain ⟨d1, d2⟩ := down_fl a1 (bb.mono (by grind))
  have d3 := d2.err bb
  have key : impl_AngleTurns_need y x = true ∧ impl_AngleTurns y x = fconv .f64 (impl_angle (fconv .f32 y .f64) (fconv .f32 x .f64)) .f32 := by
    unfold impl_AngleTurns_need impl_AngleTurns impl_AngleTurns_tree
    cases h1 : feq .f32 y 0 with
    | true =>
      cases h2 : feq .f32 x 0 with
      | true =>
        exfalso
        rw [feq_R hy z0.1, decide_eq_true_eq, z0.2] at h1
        rw [feq_R hx z0.1, decide_eq_true_eq, z0.2] at h2
        exact hne ⟨h1, h2⟩
      | false =>
        simp only [DT.ok, DT.val, IsFinite_need, IsFinite_eq, hy, hx, h1, h2, Bool.not_true, fconvOk_up, d1]
        exact ⟨trivial, trivial⟩
    | false =>
      simp only [DT.ok, DT.val, IsFinite_need, IsFinite_eq, hy, hx, h1, Bool.not_true, fconvOk_up, d1]
      exact ⟨trivial, trivial⟩
  rw [key.2]
  exact ⟨key.1, d2.1, z, a2, a3, (d3.trans a4).mono (by grind)⟩

/-! ## Wrapped turns -/

theorem wrap_T {x : Nat} (h : I .f32 x (some (-8, 8))) : impl_wrapTurn_need x = true ∧ isNum .f32 (impl_wrapTurn x) = true ∧ fge .f32 (impl_wrapTurn x) 3204448256 = true ∧ flt .f32 (impl_wrapTurn x) 1056964608 = true ∧
    ∃ z : Int, Nr (R .f32 (impl_wrapTurn x)) (R .f32 x + z) (3 / 1000000) := by
  have hG := Gr_ge
  have ht := T_le
  have kh1 := k_half32.2.1
  have kh2 := k_half32.2.2
  have hx1 := h.2.1
  have hx2 := h.2.2
  have b0 : Bd (R .f32 x + R .f32 1056964608) 9 := by unfold Bd; constructor <;> grind
  have f0 := fadd_fl h.1 k_half32.1 (b0.mono (by grind))
  have e0 := f0.err b0
  obtain ⟨u1, u2⟩ := up_R f0.1
  obtain ⟨n, g1, g2, g3, g4⟩ := floor_R u1 (by rw [u2]; unfold Nr at e0; unfold Bd at *; constructor <;> grind)
  rw [u2] at g3 g4
  have bn : Bd (R .f64 (ffloor (fconv .f32 (fadd .f32 x 1056964608) .f64))) 11 := by
    rw [g2]
    unfold Nr at e0
    unfold Bd at *
    constructor <;> grind
  obtain ⟨d1, d2⟩ := down_fl g1 (bn.mono (by grind))
  have e1 := d2.err bn
  have hfl : impl_floor32_need (fadd .f32 x 1056964608) = true ∧ impl_floor32 (fadd .f32 x 1056964608) = fconv .f64 (ffloor (fconv .f32 (fadd .f32 x 1056964608) .f64)) .f32 := by
    have e : math_Floor (fconv .f32 (fadd .f32 x 1056964608) .f64) = ffloor (fconv .f32 (fadd .f32 x 1056964608) .f64) := rfl
    unfold impl_floor32_need impl_floor32 impl_floor32_tree
    simp only [DT.ok, DT.val, fconvOk_up, e, d1]
    exact ⟨trivial, trivial⟩
  obtain ⟨F, hF⟩ : ∃ F, F = fconv .f64 (ffloor (fconv .f32 (fadd .f32 x 1056964608) .f64)) .f32 := ⟨_, rfl⟩
  rw [← hF] at hfl e1 d2
  rw [g2] at e1
  have b2 : Bd (R .f32 x - R .f32 F) (51 / 100) := by
    unfold Nr at e0 e1
    unfold Bd
    constructor <;> grind
  have f2 := fsub_fl h.1 d2.1 (b2.mono (by grind))
  have e2 := f2.err b2
  have hx2 : I .f32 (fsub .f32 x F) (some (-1 / 2 - 2 / 1000000, 1 / 2 + 2 / 1000000)) := by
    unfold Nr at e0 e1 e2; unfold Bd at b2
    exact ⟨f2.1, by grind, by grind⟩
  have n2 : Nr (R .f32 (fsub .f32 x F)) (R .f32 x + ((-n : Int) : Rat)) (1 / 1000000) := by
    rw [Rat.intCast_neg]
    unfold Nr at e1 e2 ⊢
    constructor <;> grind
  have k1 := k_one32.2.1
  have k2 := k_one32.2.2
  have km := k_mhalf32.2.1
  have km2 := k_mhalf32.2.2
  have b4 : Bd (R .f32 (fsub .f32 x F) + R .f32 1065353216) 2 := by have := hx2.2; unfold Bd; constructor <;> grind
  have f4 := fadd_fl hx2.1 k_one32.1 (b4.mono (by grind))
  have e4 := f4.err b4
  have hx4 := (I.add hx2 k_one32).to (lo := 47 / 100) (hi := 153 / 100) (by decide +kernel)
  have hc : fge .f32 3204448256 3204448256 = true ∧ flt .f32 3204448256 1056964608 = true ∧ isNum .f32 3204448256 = true := by decide +kernel
  have hform : impl_wrapTurn_need x = true ∧ impl_wrapTurn x = match flt .f32 (fsub .f32 x F) 3204448256 with
    | true => (match flt .f32 (fadd .f32 (fsub .f32 x F) 1065353216) 1056964608 with | false => 3204448256 | true => fadd .f32 (fsub .f32 x F) 1065353216)
    | false => (match flt .f32 (fsub .f32 x F) 1056964608 with | false => 3204448256 | true => fsub .f32 x F) := by
    unfold impl_wrapTurn_need impl_wrapTurn impl_wrapTurn_tree
    cases q1 : flt .f32 (fsub .f32 x F) 3204448256 with
    | true => cases q2 : flt .f32 (fadd .f32 (fsub .f32 x F) 1065353216) 1056964608 <;> simp only [DT.ok, DT.val, hfl.1, hfl.2, q1, q2, Bool.not_true, Bool.not_false] <;> exact ⟨trivial, trivial⟩
    | false => cases q2 : flt .f32 (fsub .f32 x F) 1056964608 <;> simp only [DT.ok, DT.val, hfl.1, hfl.2, q1, q2, Bool.not_true, Bool.not_false] <;> exact ⟨trivial, trivial⟩
  refine ⟨hform.1, ?_⟩
  rw [hform.2]
  have c1 : (((-n + 1 : Int)) : Rat) = ((-n : Int) : Rat) + 1 := by push_cast; rfl
  have c2 : (((-n - 1 : Int)) : Rat) = ((-n : Int) : Rat) - 1 := by push_cast; rfl
  cases q1 : flt .f32 (fsub .f32 x F) 3204448256 with
  | true =>
    rw [flt_R hx2.1 k_mhalf32.1, decide_eq_true_eq] at q1
    cases q2 : flt .f32 (fadd .f32 (fsub .f32 x F) 1065353216) 1056964608 with
    | true => exact ⟨hx4.1, I.ge hx4 k_mhalf32 (by decide +kernel), q2, -n + 1, by rw [c1]; unfold Nr at *; constructor <;> grind⟩
    | false => exact ⟨hc.2.2, hc.1, hc.2.1, -n, by have := hx2.2; unfold Nr at *; constructor <;> grind⟩
  | false =>
    rw [flt_R hx2.1 k_mhalf32.1] at q1
    have q1 := of_decide_eq_false q1
    cases q2 : flt .f32 (fsub .f32 x F) 1056964608 with
    | true =>
      refine ⟨hx2.1, ?_, q2, -n, n2.mono (by grind)⟩
      rw [fge_R hx2.1 k_mhalf32.1]
      exact decide_eq_true (by grind)
    | false =>
      rw [flt_R hx2.1 k_half32.1] at q2
      have q2 := of_decide_eq_false q2
      exact ⟨hc.2.2, hc.1, hc.2.1, -n - 1, by rw [c2]; have := hx2.2; unfold Nr at *; constructor <;> grind⟩

end Go.Proofs.Ytkhjcoekmamlaaa
