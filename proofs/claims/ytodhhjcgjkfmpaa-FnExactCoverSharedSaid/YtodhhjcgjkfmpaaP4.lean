/- Plain law, part 4: angles; tilts between orbits. -/
import Derived.Test.YtodhhjcgjkfmpaaP2
import Derived.Test.YtodhhjcgjkfmpaaEngX
namespace Go.Proofs.Ytodhhjcgjkfmpaa
set_option linter.unusedVariables false
set_option linter.unusedSimpArgs false
set_option exponentiation.threshold 3000

def ratio (a b : Nat) : Nat := match fgt .f64 a b with
  | true => fdiv .f64 b a
  | false => fdiv .f64 a b

theorem impl_angle_eq (y x : Nat) : impl_angle y x = angleC (fgt .f64 (math_Abs y) (math_Abs x)) (flt .f64 x 0) (flt .f64 y 0) (ratio (math_Abs y) (math_Abs x)) := by
  unfold impl_angle impl_angle_tree ratio
  generalize math_Abs y = a
  generalize math_Abs x = b
  cases h1 : fgt .f64 a b <;> cases h2 : flt .f64 x 0 <;> cases h3 : flt .f64 y 0 <;> simp only [DT.val, h1, h2, h3] <;> rfl

theorem spec_angle_eq (y x : Nat) (hy : isNum .f64 y = true) (hx : isNum .f64 x = true) : spec_l01AngleWide y x = match feq .f64 x 0 && feq .f64 y 0 with
    | true => 0
    | false => angleC (fgt .f64 (math_Abs y) (math_Abs x)) (flt .f64 x 0) (flt .f64 y 0) (ratio (math_Abs y) (math_Abs x)) := by
  have e1 : fne .f64 (fsub .f64 y y) 0 = false := by rw [finite_not, hy]; rfl
  have e2 : fne .f64 (fsub .f64 x x) 0 = false := by rw [finite_not, hx]; rfl
  unfold spec_l01AngleWide spec_l01AngleWide_tree ratio
  generalize math_Abs y = a
  generalize math_Abs x = b
  cases g1 : feq .f64 x 0 with
  | true =>
    cases g2 : feq .f64 y 0 with
    | true => simp only [DT.val, e1, e2, g1, g2, Bool.and_self]
    | false => cases h1 : fgt .f64 a b <;> cases h2 : flt .f64 x 0 <;> cases h3 : flt .f64 y 0 <;> simp only [DT.val, e1, e2, g1, g2, h1, h2, h3, Bool.and_false] <;> rfl
  | false => cases h1 : fgt .f64 a b <;> cases h2 : flt .f64 x 0 <;> cases h3 : flt .f64 y 0 <;> simp only [DT.val, e1, e2, g1, h1, h2, h3, Bool.false_and] <;> rfl

theorem zero64 : isNum .f64 0 = true ∧ V .f64 0 = 0 := by decide +kernel

theorem ratio_sm {y x : Nat} (hy : isNum .f64 y = true) (hx : isNum .f64 x = true) (h : (feq .f64 x 0 && feq .f64 y 0) = false) : Sm .f64 0 (ratio (math_Abs y) (math_Abs x)) := by
  rw [math_Abs_eq (num_nan hy), math_Abs_eq (num_nan hx)]
  obtain ⟨n1, v1⟩ := fabs_num hy
  obtain ⟨n2, v2⟩ := fabs_num hx
  rw [feq_num hx zero64.1, feq_num hy zero64.1, zero64.2] at h
  have hne : ¬ (V .f64 x = 0 ∧ V .f64 y = 0) := fun ⟨a, b⟩ => by rw [decide_eq_true a, decide_eq_true b] at h; cases h
  unfold ratio
  cases hg : fgt .f64 (fabs y) (fabs x) with
  | true =>
    rw [fgt_num n1 n2, decide_eq_true_eq] at hg
    exact fdiv_one n2 n1 (by omega) (by omega)
  | false =>
    rw [fgt_num n1 n2, decide_eq_false_iff_not] at hg
    exact fdiv_one n1 n2 (by omega) (by omega)

/-- The angle of a point: the same, and it fits. -/
theorem angleOf_same (y x : Nat) : impl_angleOf y x = spec_l01AngleWide y x ∧ fconvOk .f64 (spec_l01AngleWide y x) .f32 = true := by
  cases hy : isNum .f64 y with
  | false =>
    have e1 : fne .f64 (fsub .f64 y y) 0 = true := by rw [finite_not, hy]; rfl
    have hs : spec_l01AngleWide y x = math_NaN := by
      unfold spec_l01AngleWide spec_l01AngleWide_tree
      generalize math_NaN = v
      simp only [DT.val, e1]
    have hi : impl_angleOf y x = math_NaN := by
      have hf := impl_finite_eq y
      rw [hy] at hf
      unfold impl_angleOf impl_angleOf_tree
      generalize math_NaN = v
      simp only [DT.val, hf, Bool.not_false]
    rw [hs, hi]
    exact ⟨rfl, nan_fits⟩
  | true =>
    cases hx : isNum .f64 x with
    | false =>
      have e1 : fne .f64 (fsub .f64 y y) 0 = false := by rw [finite_not, hy]; rfl
      have e2 : fne .f64 (fsub .f64 x x) 0 = true := by rw [finite_not, hx]; rfl
      have hs : spec_l01AngleWide y x = math_NaN := by
        unfold spec_l01AngleWide spec_l01AngleWide_tree
        generalize math_NaN = v
        simp only [DT.val, e1, e2]
      have hi : impl_angleOf y x = math_NaN := by
        have hf := impl_finite_eq y
        have hg := impl_finite_eq x
        rw [hy] at hf
        rw [hx] at hg
        unfold impl_angleOf impl_angleOf_tree
        generalize math_NaN = v
        simp only [DT.val, hf, hg, Bool.not_false, Bool.not_true]
      rw [hs, hi]
      exact ⟨rfl, nan_fits⟩
    | true =>
      have hf := impl_finite_eq y
      have hg := impl_finite_eq x
      rw [hy] at hf
      rw [hx] at hg
      rw [spec_angle_eq y x hy hx, ← impl_angle_eq]
      cases hz : (feq .f64 x 0 && feq .f64 y 0) with
      | true =>
        rw [Bool.and_eq_true] at hz
        refine ⟨?_, zero_fits⟩
        unfold impl_angleOf impl_angleOf_tree
        simp only [DT.val, hf, hg, Bool.not_true, hz.1, hz.2]
      | false =>
        refine ⟨?_, ?_⟩
        · unfold impl_angleOf impl_angleOf_tree
          generalize impl_angle y x = v
          simp only [DT.val, hf, hg, Bool.not_true]
          cases h1 : feq .f64 y 0 with
          | false => rfl
          | true =>
            rw [h1, Bool.and_true] at hz
            simp only [hz]
        · show fconvOk .f64 (impl_angle y x) .f32 = true
          rw [impl_angle_eq]
          exact fconvOk_down (e := 13) (by decide) (angleC_sm (ratio_sm hy hx hz))

theorem narrowed_same {v : Nat} (h : fconvOk .f64 v .f32 = true) : impl_narrowed_need v = true ∧ spec_l03Narrow_need v = true ∧ impl_narrowed v = spec_l03Narrow v := by
  obtain ⟨n1, n2⟩ := narrow_eq h
  have ht : ∀ x, impl_told_need x = true ∧ impl_told x = bif isNum .f32 x then (x, true) else (0, false) := fun x => by
    unfold impl_told_need impl_told impl_told_tree
    simp only [DT.ok, DT.val, IsFinite_need, IsFinite_eq]
    cases isNum .f32 x <;> constructor <;> first | trivial | rfl
  unfold impl_narrowed_need spec_l03Narrow_need impl_narrowed spec_l03Narrow impl_narrowed_tree spec_l03Narrow_tree
  simp only [DT.ok, DT.val, h, n1, n2, (ht _).1, (ht _).2, l01Finite_eq]
  cases isNum .f32 (fconv .f64 v .f32) <;> refine ⟨?_, ?_, ?_⟩ <;> first | trivial | rfl

/-! ## Sines of wide numbers -/

theorem wide_sine {y : Nat} (hs : Sm .f64 2 y) : impl_sine y = spec_l01SineWide y ∧ spec_l01SineWide_need y = true ∧ Sm .f64 110 (spec_l01SineWide y) := by
  have hy : isNum .f64 y = true := sm_num (by decide +kernel) hs
  have hV : (V .f64 y).natAbs < 2 ^ (52 + 1074) := by
    refine Nat.lt_of_le_of_lt (V_sm (by decide +kernel) hs) ?_
    exact Nat.pow_lt_pow_right (by decide) (by decide)
  obtain ⟨v1, n1, v2, n2⟩ := far_V
  have h1 : fge .f64 y 4841369599423283200 = false := by
    rw [fge_num hy n1, v1, decide_eq_false_iff_not]
    generalize 2 ^ (52 + 1074) = A at *
    omega
  have h2 : fle .f64 y 14064741636278059008 = false := by
    rw [fle_num hy n2, v2, decide_eq_false_iff_not]
    generalize 2 ^ (52 + 1074) = A at *
    omega
  obtain ⟨a1, a2⟩ := spec_sine_eq hy h1 h2
  refine ⟨?_, a1, ?_⟩
  · rw [a2, impl_sine_eq, impl_behind_eq (hs.mono (by decide +kernel))]
  · rw [a2]
    exact sineOf_sm (leftOf_sm hy hV)

theorem quarter_sm {y : Nat} (hs : Sm .f64 1 y) : Sm .f64 2 (fadd .f64 y 4598175219545276416) :=
  fadd_sm hs (show Sm .f64 1 4598175219545276416 by unfold Sm; decide +kernel) (by decide +kernel)

theorem cos_same {y : Nat} (hs : Sm .f64 1 y) : impl_cosine y = spec_l03Cos y ∧ spec_l03Cos_need y = true := by
  obtain ⟨h1, h2, h3⟩ := wide_sine (quarter_sm hs)
  refine ⟨?_, ?_⟩
  · show impl_sine (fadd .f64 y 4598175219545276416) = spec_l01SineWide (fadd .f64 y 4598175219545276416)
    exact h1
  · unfold spec_l03Cos_need spec_l03Cos_tree
    simp only [DT.ok, h2]

/-! ## Orbits that are valid -/

def turnB (x : Nat) : Bool := fge .f32 x 0 && flt .f32 x 1065353216
def validO (o : Orbit) : Bool := isNum .f32 o.Long && (isNum .f32 o.Round && ((fge .f32 o.Tilt 0 && fle .f32 o.Tilt 1056964608) && (turnB o.Node && (turnB o.Peri && match fgt .f32 o.Long 0 with
  | true => fge .f32 o.Round 0 && (flt .f32 o.Round 1065353216 && turnB o.Phase)
  | false => flt .f32 o.Long 0 && (fgt .f32 o.Round 1065353216 && (fge .f32 o.Phase 3246391296 && fle .f32 o.Phase 1098907648))))))

theorem l03Turn_eq (x : Nat) : spec_l03Turn x = turnB x := by
  unfold spec_l03Turn spec_l03Turn_tree turnB
  cases h : fge .f32 x 0 <;> simp only [DT.val, h] <;> rfl
theorem isTurn_eq (x : Nat) : impl_isTurn x = turnB x := by
  unfold impl_isTurn impl_isTurn_tree turnB
  cases h : fge .f32 x 0 <;> simp only [DT.val, h] <;> rfl

theorem l03Is_eq (o : Orbit) : spec_l03Is o = validO o := by
  unfold spec_l03Is spec_l03Is_tree validO
  simp only [l01Finite_eq, l03Turn_eq]
  generalize turnB o.Node = t1
  generalize turnB o.Peri = t2
  generalize turnB o.Phase = t3
  cases isNum .f32 o.Long <;> cases isNum .f32 o.Round <;> try rfl
  cases fge .f32 o.Tilt 0 <;> cases fle .f32 o.Tilt 1056964608 <;> cases t1 <;> cases t2 <;> try rfl
  cases fgt .f32 o.Long 0
  · cases flt .f32 o.Long 0 <;> cases fgt .f32 o.Round 1065353216 <;> cases fge .f32 o.Phase 3246391296 <;> rfl
  · cases fge .f32 o.Round 0 <;> cases flt .f32 o.Round 1065353216 <;> rfl

theorem consts32 : isNum .f32 0 = true ∧ isNum .f32 1065353216 = true ∧ isNum .f32 1056964608 = true ∧ isNum .f32 3246391296 = true ∧ isNum .f32 1098907648 = true := by decide +kernel

theorem turn_num {x : Nat} (h : turnB x = true) : isNum .f32 x = true := by
  unfold turnB at h
  rw [Bool.and_eq_true] at h
  exact num_between consts32.1 consts32.2.1 h.1 (.inl h.2)

theorem fgt_flt {x : Nat} (h : fgt .f32 x 0 = true) : flt .f32 x 0 = false := by
  unfold fgt at h
  unfold flt
  cases hx : FloatKind.f32.format.order x 0 with
  | none => rw [hx] at h; cases h
  | some o => rw [hx] at h; cases o <;> first | rfl | cases h

theorem ValidOrbit_eq (o : Orbit) : impl_ValidOrbit_need o = true ∧ impl_ValidOrbit o = validO o := by
  obtain ⟨a1, a2⟩ := areFinite_eq [o.Long, o.Round, o.Tilt, o.Node, o.Peri, o.Phase] (by show 6 ≤ 2 ^ 62; decide)
  refine ⟨?_, ?_⟩
  · unfold impl_ValidOrbit_need impl_ValidOrbit_tree
    simp only [DT.ok, a1, a2]
    repeat' split
    all_goals rfl
  · have he : impl_Orbit_isEllipse o = (fgt .f32 o.Long 0 && (fge .f32 o.Round 0 && (flt .f32 o.Round 1065353216 && turnB o.Phase))) := by
      unfold impl_Orbit_isEllipse impl_Orbit_isEllipse_tree
      simp only [isTurn_eq]
      cases fgt .f32 o.Long 0 <;> cases fge .f32 o.Round 0 <;> cases flt .f32 o.Round 1065353216 <;> rfl
    have hb : impl_Orbit_isBranch o = (flt .f32 o.Long 0 && (fgt .f32 o.Round 1065353216 && (fge .f32 o.Phase 3246391296 && fle .f32 o.Phase 1098907648))) := by
      unfold impl_Orbit_isBranch impl_Orbit_isBranch_tree
      cases flt .f32 o.Long 0 <;> cases fgt .f32 o.Round 1065353216 <;> cases fge .f32 o.Phase 3246391296 <;> rfl
    cases hv : validO o with
    | true =>
      have hv0 := hv
      unfold validO at hv
      simp only [Bool.and_eq_true] at hv
      obtain ⟨h1, h2, ⟨h3, h4⟩, h5, h6, h7⟩ := hv
      have n3 := num_between consts32.1 consts32.2.2.1 h3 (.inr h4)
      have n6 : isNum .f32 o.Phase = true := by
        cases hg : fgt .f32 o.Long 0 with
        | true =>
          rw [hg] at h7
          simp only [Bool.and_eq_true] at h7
          exact turn_num h7.2.2
        | false =>
          rw [hg] at h7
          simp only [Bool.and_eq_true] at h7
          exact num_between consts32.2.2.2.1 consts32.2.2.2.2 h7.2.2.1 (.inr h7.2.2.2)
      have hall : [o.Long, o.Round, o.Tilt, o.Node, o.Peri, o.Phase].all (isNum .f32) = true := by
        simp only [List.all_cons, List.all_nil, h1, h2, n3, turn_num h5, turn_num h6, n6, Bool.and_self]
      have hor : (impl_Orbit_isEllipse o || impl_Orbit_isBranch o) = true := by
        rw [he, hb]
        cases hg : fgt .f32 o.Long 0 with
        | true =>
          rw [hg] at h7
          have h7 : (fge .f32 o.Round 0 && (flt .f32 o.Round 1065353216 && turnB o.Phase)) = true := h7
          rw [h7]
          rfl
        | false =>
          rw [hg] at h7
          have h7 : (flt .f32 o.Long 0 && (fgt .f32 o.Round 1065353216 && (fge .f32 o.Phase 3246391296 && fle .f32 o.Phase 1098907648))) = true := h7
          rw [h7]
          rfl
      have he' : impl_Orbit_isEllipse (⟨o.Long, o.Round, o.Tilt, o.Node, o.Peri, o.Phase⟩ : Orbit) = impl_Orbit_isEllipse o := rfl
      have hb' : impl_Orbit_isBranch (⟨o.Long, o.Round, o.Tilt, o.Node, o.Peri, o.Phase⟩ : Orbit) = impl_Orbit_isBranch o := rfl
      unfold impl_ValidOrbit impl_ValidOrbit_tree
      simp only [DT.val, a2, hall, h3, h4, isTurn_eq, h5, h6, he', hb']
      cases hq : impl_Orbit_isEllipse o with
      | true => rfl
      | false => rw [hq, Bool.false_or] at hor; exact hor
    | false =>
      have he' : impl_Orbit_isEllipse (⟨o.Long, o.Round, o.Tilt, o.Node, o.Peri, o.Phase⟩ : Orbit) = impl_Orbit_isEllipse o := rfl
      have hb' : impl_Orbit_isBranch (⟨o.Long, o.Round, o.Tilt, o.Node, o.Peri, o.Phase⟩ : Orbit) = impl_Orbit_isBranch o := rfl
      have hform : impl_ValidOrbit o = (([o.Long, o.Round, o.Tilt, o.Node, o.Peri, o.Phase].all (isNum .f32)) && ((fge .f32 o.Tilt 0 && fle .f32 o.Tilt 1056964608) && (turnB o.Node && (turnB o.Peri && (impl_Orbit_isEllipse o || impl_Orbit_isBranch o))))) := by
        unfold impl_ValidOrbit impl_ValidOrbit_tree
        simp only [a2, isTurn_eq, he', hb']
        generalize [o.Long, o.Round, o.Tilt, o.Node, o.Peri, o.Phase].all (isNum .f32) = c
        generalize turnB o.Node = t1
        generalize turnB o.Peri = t2
        cases c <;> cases fge .f32 o.Tilt 0 <;> cases fle .f32 o.Tilt 1056964608 <;> cases t1 <;> cases t2 <;> cases impl_Orbit_isEllipse o <;> rfl
      rw [hform]
      refine Bool.eq_false_iff.2 fun ht => ?_
      simp only [Bool.and_eq_true, List.all_cons] at ht
      obtain ⟨⟨h1, h2, _⟩, ⟨h3, h4⟩, h5, h6, h7⟩ := ht
      rw [he, hb] at h7
      unfold validO at hv
      rw [h1, h2, h3, h4, h5, h6] at hv
      cases hg : fgt .f32 o.Long 0 with
      | true =>
        rw [hg, fgt_flt hg, Bool.false_and, Bool.or_false, Bool.true_and] at h7
        rw [hg] at hv
        simp only [Bool.true_and] at hv
        rw [h7] at hv
        cases hv
      | false =>
        rw [hg, Bool.false_and, Bool.false_or] at h7
        rw [hg] at hv
        simp only [Bool.true_and] at hv
        rw [h7] at hv
        cases hv

theorem small_turn {x : Nat} (h1 : fge .f32 x 0 = true) (h2 : flt .f32 x 1065353216 = true ∨ fle .f32 x 1065353216 = true) : Sm .f64 1 (fconv .f32 x .f64) := by
  have hn := num_between consts32.1 consts32.2.1 h1 h2
  have v0 : V .f32 0 = 0 := by decide +kernel
  have v1 : V .f32 1065353216 = ((2 ^ 149 : Nat) : Int) := by decide +kernel
  rw [fge_num hn consts32.1, v0, decide_eq_true_eq] at h1
  have h2 : V .f32 x ≤ ((2 ^ 149 : Nat) : Int) := by
    rcases h2 with h2 | h2
    · rw [flt_num hn consts32.2.1, v1, decide_eq_true_eq] at h2
      exact Int.le_of_lt h2
    · rw [fle_num hn consts32.2.1, v1, decide_eq_true_eq] at h2
      exact h2
  have hs : Sm .f32 0 x := sm_V (by decide +kernel) hn (by
    show (V .f32 x).natAbs ≤ 2 ^ 149
    generalize 2 ^ 149 = A at *
    omega)
  exact (fconv_sm (by decide +kernel) (by decide +kernel) hs).mono (by decide +kernel)

theorem half_one {x : Nat} (h1 : fge .f32 x 0 = true) (h2 : fle .f32 x 1056964608 = true) : fle .f32 x 1065353216 = true := by
  have hn := num_between consts32.1 consts32.2.2.1 h1 (.inr h2)
  have v1 : V .f32 1056964608 ≤ V .f32 1065353216 := by decide +kernel
  rw [fle_num hn consts32.2.2.1, decide_eq_true_eq] at h2
  rw [fle_num hn consts32.2.1, decide_eq_true_eq]
  omega

/-- The way up of an orbit. -/
theorem normal_same {o : Orbit} (hv : validO o = true) : impl_Orbit_normal_need o = true ∧ spec_l03Normal_need o = true ∧ impl_Orbit_normal o = spec_l03Normal o := by
  unfold validO at hv
  simp only [Bool.and_eq_true] at hv
  obtain ⟨h1, h2, ⟨h3, h4⟩, h5, h6, h7⟩ := hv
  unfold turnB at h5
  rw [Bool.and_eq_true] at h5
  have sT := small_turn h3 (.inr (half_one h3 h4))
  have sN := small_turn h5.1 (.inl h5.2)
  obtain ⟨a1, a2, _⟩ := wide_sine (sT.mono (by decide +kernel))
  obtain ⟨b1, b2, _⟩ := wide_sine (sN.mono (by decide +kernel))
  obtain ⟨c1, c2⟩ := cos_same sT
  obtain ⟨d1, d2⟩ := cos_same sN
  unfold impl_Orbit_normal_need spec_l03Normal_need impl_Orbit_normal spec_l03Normal impl_Orbit_normal_tree spec_l03Normal_tree
  generalize fconv .f32 o.Tilt .f64 = t at *
  generalize fconv .f32 o.Node .f64 = n at *
  simp only [DT.ok, DT.val, fconvOk_up, a1, a2, b1, b2, c1, c2, d1, d2]
  exact ⟨trivial, trivial, trivial⟩

theorem tilt_same (a b : Orbit) : impl_TiltBetween_need a b = true ∧ spec_TiltBetween_need a b = true ∧ impl_TiltBetween a b = spec_TiltBetween a b := by
  unfold impl_TiltBetween_need spec_TiltBetween_need impl_TiltBetween spec_TiltBetween impl_TiltBetween_tree spec_TiltBetween_tree
  cases ha : validO a with
  | false =>
    simp only [DT.ok, DT.val, (ValidOrbit_eq _).1, (ValidOrbit_eq _).2, l03Is_eq, ha, Bool.not_false]
    exact ⟨trivial, trivial, trivial⟩
  | true =>
    cases hb : validO b with
    | false =>
      simp only [DT.ok, DT.val, (ValidOrbit_eq _).1, (ValidOrbit_eq _).2, l03Is_eq, ha, hb, Bool.not_false, Bool.not_true]
      exact ⟨trivial, trivial, trivial⟩
    | true =>
      obtain ⟨a1, a2, a3⟩ := normal_same ha
      obtain ⟨b1, b2, b3⟩ := normal_same hb
      simp only [DT.ok, DT.val, (ValidOrbit_eq _).1, (ValidOrbit_eq _).2, l03Is_eq, ha, hb, Bool.not_true, a1, a2, a3, b1, b2, b3]
      generalize spec_l03Normal a = u
      generalize spec_l03Normal b = v
      have hc : impl_wide_cross u.1 u.2.1 u.2.2 v.1 v.2.1 v.2.2 = spec_l03Cross u.1 u.2.1 u.2.2 v.1 v.2.1 v.2.2 := rfl
      have hd : impl_wide_inner u.1 u.2.1 u.2.2 v.1 v.2.1 v.2.2 = spec_l03Dot u.1 u.2.1 u.2.2 v.1 v.2.1 v.2.2 := rfl
      simp only [hc, hd]
      generalize spec_l03Cross u.1 u.2.1 u.2.2 v.1 v.2.1 v.2.2 = w
      generalize spec_l03Dot u.1 u.2.1 u.2.2 v.1 v.2.1 v.2.2 = x
      have hl : impl_wide_length w.1 w.2.1 w.2.2 = spec_l03Size w.1 w.2.1 w.2.2 := rfl
      simp only [hl]
      generalize spec_l03Size w.1 w.2.1 w.2.2 = y
      obtain ⟨e1, e2⟩ := angleOf_same y x
      rw [e1]
      obtain ⟨n1, n2, n3⟩ := narrowed_same e2
      simp only [n1, n2, n3]
      exact ⟨trivial, trivial, trivial⟩

/-- The law of tilts. -/
theorem plain4 (a b : Orbit) : laws_FnExactTiltBetween_need a b = true ∧ laws_FnExactTiltBetween a b = true := by
  obtain ⟨h1, h2, h3⟩ := tilt_same a b
  have t1 : ∀ o : Orbit, laws_toOrbit o = o := fun o => rfl
  unfold laws_FnExactTiltBetween_need laws_FnExactTiltBetween laws_FnExactTiltBetween_tree
  simp only [DT.ok, DT.val, t1, h1, h2, h3, fconvOk_up, sameFloat_self, Bool.not_true, beq_self_eq_true]
  exact ⟨trivial, trivial⟩

end Go.Proofs.Ytodhhjcgjkfmpaa
