/- The plain law of FnPasses, part 4: angles, marks, rises. -/
import Derived.Test.YtkmcgfjhjfiomaaQ3
namespace Go.Proofs.Ytkmcgfjhjfiomaa
set_option linter.unusedVariables false
set_option linter.unusedSimpArgs false

theorem num_nan {k : FloatKind} {x : Nat} (h : isNum k x = true) : isNaN k x = false := by
  obtain ⟨s, m, p, hd⟩ := isNum_iff.1 h
  unfold isNaN; rw [hd]; rfl

def ratio (a b : Nat) : Nat := match fgt .f64 a b with
  | true => fdiv .f64 b a
  | false => fdiv .f64 a b

theorem impl_angle_eq (y x : Nat) : impl_angle y x = angleC (fgt .f64 (math_Abs y) (math_Abs x)) (flt .f64 x 0) (flt .f64 y 0) (ratio (math_Abs y) (math_Abs x)) := by
  unfold impl_angle impl_angle_tree ratio
  generalize math_Abs y = a
  generalize math_Abs x = b
  cases h1 : fgt .f64 a b <;> cases h2 : flt .f64 x 0 <;> cases h3 : flt .f64 y 0 <;> simp only [DT.val, h1, h2, h3] <;> rfl

theorem zero64 : isNum .f64 0 = true ∧ V .f64 0 = 0 := by decide +kernel

theorem ratio_sm {y x : Nat} (hy : isNum .f64 y = true) (hx : isNum .f64 x = true) (h : (feq .f64 x 0 && feq .f64 y 0) = false) : Sm .f64 0 (ratio (math_Abs y) (math_Abs x)) := by
  rw [math_Abs_eq (num_nan hy), math_Abs_eq (num_nan hx)]
  obtain ⟨n1, v1⟩ := fabs_num hy
  obtain ⟨n2, v2⟩ := fabs_num hx
  rw [feq_num hx zero64.1, feq_num hy zero64.1, zero64.2] at h
  have hne : ¬ (V .f64 x = 0 ∧ V .f64 y = 0) := fun ⟨a, b⟩ => by rw [decide_eq_true a, decide_eq_true b] at h; cases h
  unfold ratio
  cases hg : fgt .f64 (fabs y) (fabs x) with
  | true =>
    rw [fgt_num n1 n2, decide_eq_true_eq] at hg
    exact fdiv_one n2 n1 (by omega) (by omega)
  | false =>
    rw [fgt_num n1 n2, decide_eq_false_iff_not] at hg
    exact fdiv_one n1 n2 (by omega) (by omega)

/-- What is at most a power of two, by its bits. -/
theorem sm_I {v : Nat} {e : Nat} (he : e ≤ 100) (h : Sm .f64 e v) : isNum .f64 v = true ∧ Bd (R .f64 v) ((2 ^ e : Nat) : Rat) := by
  have hn := sm_num (k := .f64) (by simp only [emax]; omega) h
  refine ⟨hn, ?_⟩
  have hV := V_sm (k := .f64) (by simp only [emax]; omega) h
  rw [R_V hn]
  have hlp : lplace .f64 = -1074 := rfl
  have ee : ((e : Int) - lplace .f64).toNat = e + 1074 := by rw [hlp]; omega
  rw [ee, Nat.pow_add] at hV
  rw [hlp]
  have hp := two_pos (-1074)
  have e1 : ((2 ^ 1074 : Nat) : Rat) * 2 ^ (-1074 : Int) = 1 := by decide +kernel
  generalize (2 : Rat) ^ (-1074 : Int) = w at *
  generalize (2 ^ 1074 : Nat) = N at *
  generalize (2 ^ e : Nat) = E at *
  generalize V .f64 v = n at *
  have h1 : n ≤ ((E * N : Nat) : Int) := by omega
  have h2 : -((E * N : Nat) : Int) ≤ n := by omega
  have h3 : (n : Rat) ≤ (E : Rat) * (N : Rat) := by exact_mod_cast h1
  have h4 : -((E : Rat) * (N : Rat)) ≤ (n : Rat) := by
    have : ((-((E * N : Nat) : Int) : Int) : Rat) ≤ (n : Rat) := by exact_mod_cast h2
    push_cast at this
    exact this
  have h5 := Rat.mul_le_mul_of_nonneg_right h3 (Rat.le_of_lt hp)
  have h6 := Rat.mul_le_mul_of_nonneg_right h4 (Rat.le_of_lt hp)
  have h7 : (E : Rat) * (N : Rat) * w = E := by rw [Rat.mul_assoc, e1, Rat.mul_one]
  unfold Bd
  constructor <;> grind

theorem zero_turns {y x : Nat} : (feq .f64 x 0 && feq .f64 y 0) = false → feq .f64 x 0 = false ∨ feq .f64 y 0 = false := by
  cases feq .f64 x 0 <;> cases feq .f64 y 0 <;> simp

theorem angle_I {y x : Nat} (hy : isNum .f32 y = true) (hx : isNum .f32 x = true) : impl_AngleTurns_need y x = true ∧ I .f32 (impl_AngleTurns y x) (some (-8200, 8200)) := by
  have ny := (up_R hy).1
  have nx := (up_R hx).1
  have z0 : isNum .f32 0 = true ∧ R .f32 0 = 0 := by decide +kernel
  have z64 : isNum .f64 0 = true ∧ R .f64 0 = 0 := by decide +kernel
  have fx : feq .f64 (fconv .f32 x .f64) 0 = feq .f32 x 0 := by rw [feq_R nx z64.1, feq_R hx z0.1, (up_R hx).2, z0.2, z64.2]
  have fy : feq .f64 (fconv .f32 y .f64) 0 = feq .f32 y 0 := by rw [feq_R ny z64.1, feq_R hy z0.1, (up_R hy).2, z0.2, z64.2]
  have key : (feq .f32 x 0 && feq .f32 y 0) = false → fconvOk .f64 (impl_angle (fconv .f32 y .f64) (fconv .f32 x .f64)) .f32 = true ∧ I .f32 (fconv .f64 (impl_angle (fconv .f32 y .f64) (fconv .f32 x .f64)) .f32) (some (-8200, 8200)) := fun h => by
    have hr := ratio_sm ny nx (by rw [fx, fy]; exact h)
    have hs := angleC_sm (o := fgt .f64 (math_Abs (fconv .f32 y .f64)) (math_Abs (fconv .f32 x .f64))) (n := flt .f64 (fconv .f32 x .f64) 0) (m := flt .f64 (fconv .f32 y .f64) 0) hr
    rw [← impl_angle_eq] at hs
    obtain ⟨n1, n2⟩ := sm_I (by decide) hs
    have e : ((2 ^ 13 : Nat) : Rat) = 8192 := rfl
    rw [e] at n2
    have hI : I .f64 (impl_angle (fconv .f32 y .f64) (fconv .f32 x .f64)) (some (-8192, 8192)) := ⟨n1, n2.1, n2.2⟩
    exact ⟨I.fits hI (by decide +kernel) (by decide +kernel), (I.down hI).to (by decide +kernel)⟩
  unfold impl_AngleTurns_need impl_AngleTurns impl_AngleTurns_tree
  cases h1 : feq .f32 y 0 with
  | true =>
    cases h2 : feq .f32 x 0 with
    | true =>
      simp only [DT.ok, DT.val, IsFinite_need, IsFinite_eq, hy, hx, h1, h2, Bool.not_true]
      exact ⟨trivial, k_zero32.to (by decide +kernel)⟩
    | false =>
      obtain ⟨k1, k2⟩ := key (by rw [h2]; rfl)
      simp only [DT.ok, DT.val, IsFinite_need, IsFinite_eq, hy, hx, h1, h2, Bool.not_true, fconvOk_up, k1]
      exact ⟨trivial, k2⟩
  | false =>
    obtain ⟨k1, k2⟩ := key (by rw [h1, Bool.and_false])
    simp only [DT.ok, DT.val, IsFinite_need, IsFinite_eq, hy, hx, h1, Bool.not_true, fconvOk_up, k1]
    exact ⟨trivial, k2⟩

/-! ## Balls, marks -/

structure BallS (b : Ball) : Prop where
  mass : I .f32 b.Mass (some (1 / 2, 4))
  radius : I .f32 b.Radius (some (1 / 8, 1))
  spin : I .f32 b.Spin (some (-1 / 8, 1 / 8))
  start : I .f32 b.Start (some (-1 / 2, 1 / 2))

theorem BallS.valid {b : Ball} (h : BallS b) : impl_ValidBall_need b = true ∧ impl_ValidBall b = true := by
  obtain ⟨a1, a2⟩ := aLength_I h.mass (by decide +kernel)
  obtain ⟨a3, a4⟩ := aLength_I h.radius (by decide +kernel)
  obtain ⟨f1, f2⟩ := areFinite_eq [b.Spin, b.Start] (by show 2 ≤ 2 ^ 62; decide)
  have f2 : impl_areFinite [b.Spin, b.Start] = true := by rw [f2]; simp only [List.all_cons, List.all_nil, h.spin.1, h.start.1, Bool.and_self]
  obtain ⟨l1, l2⟩ := loop_post (step := impl_areLengths_loop0_step ([b.Mass, b.Radius], 2)) (fun s => s = 0 ∨ s = 1 ∨ s = 2) (fun s => (2 - s).toNat) (fun r => r = .inr ()) (by
    rintro s (rfl | rfl | rfl)
    · refine ⟨.inl 1, [], ?_, .inr (.inl rfl), by decide⟩
      have e : List.getD [b.Mass, b.Radius] (Int.toNat 0) default = b.Mass := rfl
      unfold impl_areLengths_loop0_step
      simp only [DT.get, e, a1, a2]
      rfl
    · refine ⟨.inl 2, [], ?_, .inr (.inr rfl), by decide⟩
      have e : List.getD [b.Mass, b.Radius] (Int.toNat 1) default = b.Radius := rfl
      unfold impl_areLengths_loop0_step
      simp only [DT.get, e, a3, a4]
      rfl
    · exact ⟨.inr (.inr ()), [], rfl, rfl⟩) 0 (.inl rfl)
  have l1 : impl_areLengths_loop0_ends ([b.Mass, b.Radius], 2) 0 = true := l1
  have l2 : impl_areLengths_loop0 ([b.Mass, b.Radius], 2) 0 = .inr () := l2
  have k : impl_areLengths_need [b.Mass, b.Radius] = true ∧ impl_areLengths [b.Mass, b.Radius] = true := by
    have e : ((List.length [b.Mass, b.Radius] : Nat) : Int) = 2 := rfl
    unfold impl_areLengths_need impl_areLengths impl_areLengths_tree
    simp only [DT.ok, DT.val, e, l1, l2, isL]
    exact ⟨trivial, trivial⟩
  unfold impl_ValidBall_need impl_ValidBall impl_ValidBall_tree
  simp only [DT.ok, DT.val, k.1, k.2, f1, f2]
  exact ⟨trivial, trivial⟩

def markB (m : Mark) : Bool := fge .f32 m.North 3196059648 && (fle .f32 m.North 1048576000 && (fge .f32 m.East 3204448256 && (flt .f32 m.East 1056964608 && isNum .f32 m.High)))

theorem ValidMark_eq (m : Mark) : impl_ValidMark_need m = true ∧ impl_ValidMark m = markB m := by
  unfold impl_ValidMark_need impl_ValidMark impl_ValidMark_tree markB
  simp only [IsFinite_need, IsFinite_eq]
  generalize fge .f32 m.North 3196059648 = p
  generalize fle .f32 m.North 1048576000 = q
  generalize fge .f32 m.East 3204448256 = r
  generalize flt .f32 m.East 1056964608 = s
  generalize isNum .f32 m.High = t
  cases p <;> cases q <;> cases r <;> cases s <;> constructor <;> rfl

theorem k_half32 : I .f32 1056964608 (some (1 / 2, 1 / 2)) := I.at (by decide +kernel)
theorem k_mhalf32 : I .f32 3204448256 (some (-1 / 2, -1 / 2)) := I.at (by decide +kernel)
theorem k_quart32 : I .f32 1048576000 (some (1 / 4, 1 / 4)) := I.at (by decide +kernel)
theorem k_mquart32 : I .f32 3196059648 (some (-1 / 4, -1 / 4)) := I.at (by decide +kernel)

theorem wrapT_I {x : Nat} (h : I .f32 x (some (-8300, 8300))) : impl_wrapTurn_need x = true ∧ fge .f32 (impl_wrapTurn x) 3204448256 = true ∧ flt .f32 (impl_wrapTurn x) 1056964608 = true ∧ isNum .f32 (impl_wrapTurn x) = true := by
  have hG := Gr_ge
  have ht := T_le
  have f0 := fadd_fl h.1 k_half32.1 (by have := h.2.1; have := h.2.2; have := k_half32.2.1; have := k_half32.2.2; unfold Bd; constructor <;> grind)
  have e0 := f0.err (M := 8301) (by have := h.2.1; have := h.2.2; have := k_half32.2.1; have := k_half32.2.2; unfold Bd; constructor <;> grind)
  obtain ⟨u1, u2⟩ := up_R f0.1
  obtain ⟨n, g1, g2, g3, g4⟩ := floor_R u1 (by rw [u2]; have := h.2.1; have := h.2.2; have := k_half32.2.1; have := k_half32.2.2; unfold Nr at e0; unfold Bd; constructor <;> grind)
  rw [u2] at g3 g4
  have bn : Bd (R .f64 (ffloor (fconv .f32 (fadd .f32 x 1056964608) .f64))) 8303 := by
    rw [g2]
    have := h.2.1; have := h.2.2; have := k_half32.2.1; have := k_half32.2.2
    unfold Nr at e0
    unfold Bd
    constructor <;> grind
  obtain ⟨d1, d2⟩ := down_fl g1 (bn.mono (by grind))
  have e1 := d2.err bn
  have hfl : impl_floor32_need (fadd .f32 x 1056964608) = true ∧ impl_floor32 (fadd .f32 x 1056964608) = fconv .f64 (ffloor (fconv .f32 (fadd .f32 x 1056964608) .f64)) .f32 := by
    have e : math_Floor (fconv .f32 (fadd .f32 x 1056964608) .f64) = ffloor (fconv .f32 (fadd .f32 x 1056964608) .f64) := rfl
    unfold impl_floor32_need impl_floor32 impl_floor32_tree
    simp only [DT.ok, DT.val, fconvOk_up, e, d1]
    exact ⟨trivial, trivial⟩
  obtain ⟨F, hF⟩ : ∃ F, F = fconv .f64 (ffloor (fconv .f32 (fadd .f32 x 1056964608) .f64)) .f32 := ⟨_, rfl⟩
  rw [← hF] at hfl e1 d2
  have b2 : Bd (R .f32 x - R .f32 F) (51 / 100) := by
    have := h.2.1; have := h.2.2; have := k_half32.2.1; have := k_half32.2.2
    rw [g2] at e1
    unfold Nr at e0 e1
    unfold Bd
    constructor <;> grind
  have f2 := fsub_fl h.1 d2.1 (b2.mono (by grind))
  have e2 := f2.err b2
  have hx2 : I .f32 (fsub .f32 x F) (some (-52 / 100, 52 / 100)) := by
    unfold Nr at e2; unfold Bd at b2
    exact ⟨f2.1, by grind, by grind⟩
  have hx4 := (I.add hx2 k_one32).to (lo := 47 / 100) (hi := 153 / 100) (by decide +kernel)
  have hc : fge .f32 3204448256 3204448256 = true ∧ flt .f32 3204448256 1056964608 = true ∧ isNum .f32 3204448256 = true := by decide +kernel
  have hform : impl_wrapTurn_need x = true ∧ impl_wrapTurn x = match flt .f32 (fsub .f32 x F) 3204448256 with
    | true => (match flt .f32 (fadd .f32 (fsub .f32 x F) 1065353216) 1056964608 with | false => 3204448256 | true => fadd .f32 (fsub .f32 x F) 1065353216)
    | false => (match flt .f32 (fsub .f32 x F) 1056964608 with | false => 3204448256 | true => fsub .f32 x F) := by
    unfold impl_wrapTurn_need impl_wrapTurn impl_wrapTurn_tree
    cases q1 : flt .f32 (fsub .f32 x F) 3204448256 with
    | true => cases q2 : flt .f32 (fadd .f32 (fsub .f32 x F) 1065353216) 1056964608 <;> simp only [DT.ok, DT.val, hfl.1, hfl.2, q1, q2, Bool.not_true, Bool.not_false] <;> exact ⟨trivial, trivial⟩
    | false => cases q2 : flt .f32 (fsub .f32 x F) 1056964608 <;> simp only [DT.ok, DT.val, hfl.1, hfl.2, q1, q2, Bool.not_true, Bool.not_false] <;> exact ⟨trivial, trivial⟩
  refine ⟨hform.1, ?_⟩
  rw [hform.2]
  cases q1 : flt .f32 (fsub .f32 x F) 3204448256 with
  | true =>
    cases q2 : flt .f32 (fadd .f32 (fsub .f32 x F) 1065353216) 1056964608 with
    | true => exact ⟨I.ge hx4 k_mhalf32 (by decide +kernel), q2, hx4.1⟩
    | false => exact hc
  | false =>
    cases q2 : flt .f32 (fsub .f32 x F) 1056964608 with
    | true =>
      refine ⟨?_, q2, hx2.1⟩
      rw [flt_R hx2.1 k_mhalf32.1] at q1
      rw [fge_R hx2.1 k_mhalf32.1]
      have := of_decide_eq_false q1
      exact decide_eq_true (by grind)
    | false => exact hc

theorem Root_need (x : Nat) : impl_RootNumber_need x = true := by
  have e : math_Sqrt (fconv .f32 x .f64) = fsqrt (fconv .f32 x .f64) := rfl
  unfold impl_RootNumber_need impl_RootNumber_tree
  simp only [DT.ok, fconvOk_up, e, root_fits]
theorem Size_need (v : Vec) : impl_SizeOfVector_need v = true := by
  unfold impl_SizeOfVector_need impl_SizeOfVector_tree
  simp only [DT.ok, Root_need]

theorem face_I {b : Ball} {t : Nat} (h : BallS b) (ht : I .f32 t (some (0, 2))) : I .f32 (impl_Ball_face b t) (some (-1, 1)) :=
  (I.add h.start (I.mul h.spin ht)).to (by decide +kernel)

theorem Root_I {x : Nat} {b : Rat} (hx : isNum .f32 x = true) (h0 : 0 ≤ R .f32 x) (h1 : R .f32 x ≤ b) (hb : b ≤ 10000000000) : isNum .f32 (impl_RootNumber x) = true ∧ I .f32 (impl_RootNumber x) (some (-1, 200000)) := by
  have ht := T_le
  obtain ⟨d1, d2, d3, ρ, p1, p2, p3⟩ := root_fl hx h0 (by grind)
  rw [(RootN_eq d1 d2).2]
  have hρ : ρ ≤ 110000 := le_of_sq (by grind) (by unfold Nr at p2; grind)
  unfold Nr at p3
  exact ⟨d3, d3, by grind, by grind⟩

theorem mark_I {b : Ball} {v : Vec} {t : Nat} (h : BallS b) (hv : VecI v 12000) (ht : I .f32 t (some (0, 2))) : impl_MarkOf_need b v t = true ∧ ∃ m, impl_MarkOf b v t = (m, true) ∧ markB m = true := by
  obtain ⟨v1, v2⟩ := h.valid
  have hf := isFiniteVector_eq v
  rw [hv.fin] at hf
  obtain ⟨hx, hy, hz⟩ := hv
  have f1 := fmul_fl hx.1 hx.1 (by have := I.sq hx; have h1 := sq_nonneg (R .f32 v.X); have := sq_bd (a := R .f32 v.X) (e := 12000) ⟨hx.2.1, hx.2.2⟩; have := Gr_ge; unfold Bd; constructor <;> grind)
  have x3 := (I.sq hx).to (lo := -100) (hi := 150000000) (by decide +kernel)
  have x4 := (I.sq hy).to (lo := -100) (hi := 150000000) (by decide +kernel)
  have x5 := (I.add x3 x4).to (lo := -1000) (hi := 400000000) (by decide +kernel)
  have n3 := fmul_nn hx.1 hx.1 (sq_nonneg _)
  have n4 := fmul_nn hy.1 hy.1 (sq_nonneg _)
  have n5 := fadd_nn x3.1 x4.1 (by grind)
  obtain ⟨w1, w2⟩ := Root_I x5.1 n5 x5.2.2 (by decide +kernel)
  obtain ⟨a1, a2⟩ := angle_I hz.1 w1
  obtain ⟨a3, a4⟩ := angle_I hy.1 hx.1
  have hface := face_I h ht
  have heast := (I.sub a4 hface).to (lo := -8300) (hi := 8300) (by decide +kernel)
  obtain ⟨r1, r2, r3, r4⟩ := wrapT_I heast
  -- the height
  have x6 := (I.sq hz).to (lo := -100) (hi := 150000000) (by decide +kernel)
  have x7 := (I.add x5 x6).to (lo := -2000) (hi := 600000000) (by decide +kernel)
  have n6 := fmul_nn hz.1 hz.1 (sq_nonneg _)
  have n7 := fadd_nn x5.1 x6.1 (by grind)
  obtain ⟨s1, s2⟩ := Root_I x7.1 n7 x7.2.2 (by decide +kernel)
  have hsz : impl_SizeOfVector v = impl_RootNumber (fadd .f32 (fadd .f32 (fmul .f32 v.X v.X) (fmul .f32 v.Y v.Y)) (fmul .f32 v.Z v.Z)) := rfl
  rw [← hsz] at s2
  have hh := (I.sub s2 h.radius).to (lo := -10) (hi := 300000) (by decide +kernel)
  have eb : (⟨b.Mass, b.Radius, b.Spin, b.Start⟩ : Ball) = b := rfl
  have ev : (⟨v.X, v.Y, v.Z⟩ : Vec) = v := rfl
  have hq : flt .f32 1048576000 3196059648 = false := by decide +kernel
  have hmk : ∀ n : Nat, fge .f32 n 3196059648 = true → fle .f32 n 1048576000 = true → markB ⟨n, impl_wrapTurn (fsub .f32 (impl_AngleTurns v.Y v.X) (impl_Ball_face b t)), fsub .f32 (impl_SizeOfVector v) b.Radius⟩ = true := fun n h1 h2 => by
    unfold markB
    simp only [h1, h2, r2, r3, hh.1, Bool.and_true]
  have hvm : ∀ n : Nat, fge .f32 n 3196059648 = true → fle .f32 n 1048576000 = true → impl_ValidMark_need ⟨n, impl_wrapTurn (fsub .f32 (impl_AngleTurns v.Y v.X) (impl_Ball_face b t)), fsub .f32 (impl_SizeOfVector v) b.Radius⟩ = true ∧ impl_ValidMark ⟨n, impl_wrapTurn (fsub .f32 (impl_AngleTurns v.Y v.X) (impl_Ball_face b t)), fsub .f32 (impl_SizeOfVector v) b.Radius⟩ = true := fun n h1 h2 => by
    have := ValidMark_eq ⟨n, impl_wrapTurn (fsub .f32 (impl_AngleTurns v.Y v.X) (impl_Ball_face b t)), fsub .f32 (impl_SizeOfVector v) b.Radius⟩
    rw [hmk n h1 h2] at this
    exact this
  have c1 : fge .f32 1048576000 3196059648 = true ∧ fle .f32 1048576000 1048576000 = true ∧ fge .f32 3196059648 3196059648 = true ∧ fle .f32 3196059648 1048576000 = true := by decide +kernel
  cases g1 : fgt .f32 (impl_AngleTurns v.Z (impl_RootNumber (fadd .f32 (fmul .f32 v.X v.X) (fmul .f32 v.Y v.Y)))) 1048576000 with
  | true =>
    obtain ⟨m1, m2⟩ := hvm 1048576000 c1.1 c1.2.1
    refine ⟨?_, _, ?_, hmk 1048576000 c1.1 c1.2.1⟩
    · unfold impl_MarkOf_need impl_MarkOf_tree
      simp only [eb, ev, v1, v2, hf.1, hf.2, IsFinite_need, IsFinite_eq, ht.1, Root_need, a1, g1, hq, a3, heast.1, r1, Size_need, m1, m2, Bool.not_true]
      simp only [DT.ok]
    · unfold impl_MarkOf impl_MarkOf_tree
      simp only [eb, ev, v2, hf.2, IsFinite_eq, ht.1, g1, hq, heast.1, m2, Bool.not_true]
      simp only [DT.val]
  | false =>
    cases g2 : flt .f32 (impl_AngleTurns v.Z (impl_RootNumber (fadd .f32 (fmul .f32 v.X v.X) (fmul .f32 v.Y v.Y)))) 3196059648 with
    | true =>
      obtain ⟨m1, m2⟩ := hvm 3196059648 c1.2.2.1 c1.2.2.2
      refine ⟨?_, _, ?_, hmk 3196059648 c1.2.2.1 c1.2.2.2⟩
      · unfold impl_MarkOf_need impl_MarkOf_tree
        simp only [eb, ev, v1, v2, hf.1, hf.2, IsFinite_need, IsFinite_eq, ht.1, Root_need, a1, g1, g2, a3, heast.1, r1, Size_need, m1, m2, Bool.not_true]
        simp only [DT.ok]
      · unfold impl_MarkOf impl_MarkOf_tree
        simp only [eb, ev, v2, hf.2, IsFinite_eq, ht.1, g1, g2, heast.1, m2, Bool.not_true]
        simp only [DT.val]
    | false =>
      have q1 : fge .f32 (impl_AngleTurns v.Z (impl_RootNumber (fadd .f32 (fmul .f32 v.X v.X) (fmul .f32 v.Y v.Y)))) 3196059648 = true := by
        rw [flt_R a2.1 k_mquart32.1] at g2
        rw [fge_R a2.1 k_mquart32.1]
        have := of_decide_eq_false g2
        exact decide_eq_true (by grind)
      have q2 : fle .f32 (impl_AngleTurns v.Z (impl_RootNumber (fadd .f32 (fmul .f32 v.X v.X) (fmul .f32 v.Y v.Y)))) 1048576000 = true := by
        rw [fgt_R a2.1 k_quart32.1] at g1
        rw [fle_R a2.1 k_quart32.1]
        have := of_decide_eq_false g1
        exact decide_eq_true (by grind)
      obtain ⟨m1, m2⟩ := hvm _ q1 q2
      refine ⟨?_, _, ?_, hmk _ q1 q2⟩
      · unfold impl_MarkOf_need impl_MarkOf_tree
        simp only [eb, ev, v1, v2, hf.1, hf.2, IsFinite_need, IsFinite_eq, ht.1, Root_need, a1, g1, g2, a3, heast.1, r1, Size_need, m1, m2, Bool.not_true]
        simp only [DT.ok]
      · unfold impl_MarkOf impl_MarkOf_tree
        simp only [eb, ev, v2, hf.2, IsFinite_eq, ht.1, g1, g2, heast.1, m2, Bool.not_true]
        simp only [DT.val]

end Go.Proofs.Ytkmcgfjhjfiomaa
