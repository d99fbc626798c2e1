/- Plain law, part 1: numbers that are finite, sines, roots: the program's and the reference's. -/
import Derived.Test.YtodhhjcgjkfmpaaG1
import Derived.Test.YtodhhjcgjkfmpaaEngW
namespace Go.Proofs.Ytodhhjcgjkfmpaa
set_option linter.unusedVariables false
set_option linter.unusedSimpArgs false

theorem IsFinite_need (x : Nat) : impl_IsFinite_need x = true := by
  unfold impl_IsFinite_need impl_IsFinite_tree
  simp only [DT.ok, fconvOk_up]
theorem l01Finite_eq (x : Nat) : spec_l01Finite x = isNum .f32 x := finite_same .f32 x
theorem math_Abs_eq {x : Nat} (h : isNaN .f64 x = false) : math_Abs x = fabs x := by
  unfold math_Abs math_Abs_tree
  simp only [DT.val, h]
  rfl
theorem impl_finite_eq (x : Nat) : impl_finite x = isNum .f64 x := by
  unfold impl_finite impl_finite_tree
  have h1 : math_IsNaN x = isNaN .f64 x := fne_self .f64 x
  simp only [DT.val, h1]
  cases hn : isNaN .f64 x with
  | true =>
    rcases kinds .f64 x with ⟨s, m, p, hd, h1, h2⟩ | ⟨s, hd, h1, h2⟩ | ⟨s, t, hd, h1, h2⟩
    · rw [h2] at hn; cases hn
    · rw [h2] at hn; cases hn
    · rw [h1]; rfl
  | false =>
    have h2 : math_IsInf x 0 = fgt .f64 (math_Abs x) 9218868437227405311 := rfl
    rw [h2, math_Abs_eq hn, inf_abs hn]
    simp
theorem IsFinite_eq (x : Nat) : impl_IsFinite x = isNum .f32 x := by
  show impl_finite (fconv .f32 x .f64) = _
  rw [impl_finite_eq, isNum_up]

theorem impl_sine_eq (x : Nat) : impl_sine x = sineOf (impl_behind x) := by
  unfold impl_sine impl_sine_tree sineOf
  generalize impl_behind x = f
  cases h1 : fge .f64 f 4602678819172646912 with
  | true => cases h2 : fgt .f64 (fsub .f64 f 4602678819172646912) 4598175219545276416 <;> simp only [DT.val, h1, h2] <;> rfl
  | false => cases h2 : fgt .f64 f 4598175219545276416 <;> simp only [DT.val, h1, h2] <;> rfl

theorem impl_behind_eq {x : Nat} (hs : Sm .f64 52 x) : impl_behind x = leftOf x := by
  unfold impl_behind impl_behind_tree leftOf
  have h : fadd .f64 (math_Trunc x) 0 = fofInt .f64 (ftoInt .f64 x) := trunc_same (e := 52) (by decide) hs
  simp only [h]
  cases flt .f64 (fsub .f64 x (fofInt .f64 (ftoInt .f64 x))) 0 <;> rfl

theorem spec_sine_eq {x : Nat} (hx : isNum .f64 x = true) (h1 : fge .f64 x 4841369599423283200 = false) (h2 : fle .f64 x 14064741636278059008 = false) : spec_l01SineWide_need x = true ∧ spec_l01SineWide x = sineOf (leftOf x) := by
  have h0 : fne .f64 (fsub .f64 x x) 0 = false := by rw [finite_not, hx]; rfl
  have h3 := toInt_ok hx (far_not hx h1 h2)
  unfold spec_l01SineWide_need spec_l01SineWide spec_l01SineWide_tree leftOf
  generalize hf : fsub .f64 x (fofInt .f64 (ftoInt .f64 x)) = f
  cases h4 : flt .f64 f 0 with
  | true =>
    unfold sineOf
    cases h5 : fge .f64 (fadd .f64 f 4607182418800017408) 4602678819172646912 with
    | true => cases h6 : fgt .f64 (fsub .f64 (fadd .f64 f 4607182418800017408) 4602678819172646912) 4598175219545276416 <;> simp only [DT.val, DT.ok, h0, h1, h2, h3, hf, h4, h5, h6] <;> exact ⟨trivial, rfl⟩
    | false => cases h6 : fgt .f64 (fadd .f64 f 4607182418800017408) 4598175219545276416 <;> simp only [DT.val, DT.ok, h0, h1, h2, h3, hf, h4, h5, h6] <;> exact ⟨trivial, rfl⟩
  | false =>
    unfold sineOf
    cases h5 : fge .f64 f 4602678819172646912 with
    | true => cases h6 : fgt .f64 (fsub .f64 f 4602678819172646912) 4598175219545276416 <;> simp only [DT.val, DT.ok, h0, h1, h2, h3, hf, h4, h5, h6] <;> exact ⟨trivial, rfl⟩
    | false => cases h6 : fgt .f64 f 4598175219545276416 <;> simp only [DT.val, DT.ok, h0, h1, h2, h3, hf, h4, h5, h6] <;> exact ⟨trivial, rfl⟩

theorem nan_fits : fconvOk .f64 math_NaN .f32 = true := by decide +kernel
theorem zero_fits : fconvOk .f64 0 .f32 = true := by decide +kernel

theorem narrow_eq {v : Nat} (h : fconvOk .f64 v .f32 = true) : spec_l01Narrow_need v = true ∧ spec_l01Narrow v = fconv .f64 v .f32 := by
  unfold spec_l01Narrow_need spec_l01Narrow spec_l01Narrow_tree
  simp only [DT.ok, DT.val, h]
  exact ⟨trivial, trivial⟩

/-- The program's sine by the sine of the wide number. -/
theorem impl_turns_near {x v : Nat} (hf : impl_IsFinite x = true) (ha : fge .f64 (math_Abs (fconv .f32 x .f64)) 4841369599423283200 = false) (hv : impl_sine (fconv .f32 x .f64) = v) (hok : fconvOk .f64 v .f32 = true) : impl_SineTurns_need x = true ∧ impl_SineTurns x = fconv .f64 v .f32 := by
  unfold impl_SineTurns_need impl_SineTurns impl_SineTurns_tree
  generalize fconv .f32 x .f64 = y at *
  simp only [DT.ok, DT.val, IsFinite_need, hf, Bool.not_true, fconvOk_up, ha, hv, hok]
  exact ⟨trivial, trivial⟩
theorem impl_turns_far {x : Nat} (hf : impl_IsFinite x = true) (ha : fge .f64 (math_Abs (fconv .f32 x .f64)) 4841369599423283200 = true) : impl_SineTurns_need x = true ∧ impl_SineTurns x = 0 := by
  unfold impl_SineTurns_need impl_SineTurns impl_SineTurns_tree
  generalize fconv .f32 x .f64 = y at *
  simp only [DT.ok, DT.val, IsFinite_need, hf, Bool.not_true, fconvOk_up, ha]
  exact ⟨trivial, trivial⟩
theorem impl_turns_nan {x : Nat} (hf : impl_IsFinite x = false) : impl_SineTurns_need x = true ∧ impl_SineTurns x = fconv .f64 math_NaN .f32 := by
  have hn := nan_fits
  unfold impl_SineTurns_need impl_SineTurns impl_SineTurns_tree
  generalize math_NaN = v at *
  simp only [DT.ok, DT.val, IsFinite_need, hf, Bool.not_false, hn]
  exact ⟨trivial, trivial⟩
theorem get_three {a b c : Bool} {r : Nat} (h1 : a = true) (h2 : b = true) (h3 : c = true) : (DT.need a (.need b (.need c (.leaf r)))).get = some r := by subst h1 h2 h3; rfl
theorem spec_turns {x v : Nat} (hn : spec_l01SineWide_need (fconv .f32 x .f64) = true) (hv : spec_l01SineWide (fconv .f32 x .f64) = v) (hok : fconvOk .f64 v .f32 = true) : spec_l01Sine_need x = true ∧ spec_l01Sine x = fconv .f64 v .f32 := by
  obtain ⟨h1, h2⟩ := narrow_eq hok
  have h3 : spec_l01Narrow_need (spec_l01SineWide (fconv .f32 x .f64)) = true := by rw [hv, h1]
  have h4 : spec_l01Narrow (spec_l01SineWide (fconv .f32 x .f64)) = fconv .f64 v .f32 := by rw [hv, h2]
  have hg : (spec_l01Sine_tree x).get = some (spec_l01Narrow (spec_l01SineWide (fconv .f32 x .f64))) := get_three (fconvOk_up x) hn h3
  rw [h4] at hg
  exact DT.of_get hg
theorem wide_nan {y : Nat} (h : isNum .f64 y = false) : spec_l01SineWide_need y = true ∧ spec_l01SineWide y = math_NaN := by
  have h0 : fne .f64 (fsub .f64 y y) 0 = true := by rw [finite_not, h]; rfl
  unfold spec_l01SineWide_need spec_l01SineWide spec_l01SineWide_tree
  generalize math_NaN = v at *
  simp only [DT.val, DT.ok, h0]
  exact ⟨trivial, trivial⟩
theorem wide_far1 {y : Nat} (h : isNum .f64 y = true) (h1 : fge .f64 y 4841369599423283200 = true) : spec_l01SineWide_need y = true ∧ spec_l01SineWide y = 0 := by
  have h0 : fne .f64 (fsub .f64 y y) 0 = false := by rw [finite_not, h]; rfl
  unfold spec_l01SineWide_need spec_l01SineWide spec_l01SineWide_tree
  simp only [DT.val, DT.ok, h0, h1]
  exact ⟨trivial, trivial⟩
theorem wide_far2 {y : Nat} (h : isNum .f64 y = true) (h1 : fge .f64 y 4841369599423283200 = false) (h2 : fle .f64 y 14064741636278059008 = true) : spec_l01SineWide_need y = true ∧ spec_l01SineWide y = 0 := by
  have h0 : fne .f64 (fsub .f64 y y) 0 = false := by rw [finite_not, h]; rfl
  unfold spec_l01SineWide_need spec_l01SineWide spec_l01SineWide_tree
  simp only [DT.val, DT.ok, h0, h1, h2]
  exact ⟨trivial, trivial⟩
theorem zero_narrow : fconv .f64 0 .f32 = 0 := by decide +kernel

theorem num_nan {k : FloatKind} {x : Nat} (h : isNum k x = true) : isNaN k x = false := by
  rcases kinds k x with ⟨s, m, p, hd, h1, h2⟩ | ⟨s, hd, h1, h2⟩ | ⟨s, t, hd, h1, h2⟩
  · exact h2
  · exact h2
  · rw [h1] at h; cases h

/-- The sine of turns: the same, and what the code needs is so. -/
theorem sine_same (x : Nat) : impl_SineTurns_need x = true ∧ spec_l01Sine_need x = true ∧ impl_SineTurns x = spec_l01Sine x := by
  have hw : Wd .f64 (fconv .f32 x .f64) := fconv_wd
  have hy : isNum .f64 (fconv .f32 x .f64) = isNum .f32 x := isNum_up x
  have hf : impl_IsFinite x = isNum .f32 x := IsFinite_eq x
  cases hx : isNum .f32 x with
  | false =>
    rw [hx] at hy hf
    obtain ⟨a1, a2⟩ := impl_turns_nan hf
    obtain ⟨b1, b2⟩ := wide_nan hy
    obtain ⟨c1, c2⟩ := spec_turns b1 b2 nan_fits
    exact ⟨a1, c1, a2.trans c2.symm⟩
  | true =>
    rw [hx] at hy hf
    have ha := math_Abs_eq (num_nan hy)
    have hfar := far_abs hy
    rw [← ha] at hfar
    cases h1 : fge .f64 (fconv .f32 x .f64) 4841369599423283200 with
    | true =>
      rw [h1, Bool.true_or] at hfar
      obtain ⟨a1, a2⟩ := impl_turns_far hf hfar
      obtain ⟨b1, b2⟩ := wide_far1 hy h1
      obtain ⟨c1, c2⟩ := spec_turns b1 b2 zero_fits
      exact ⟨a1, c1, a2.trans (c2.trans zero_narrow).symm⟩
    | false =>
      rw [h1, Bool.false_or] at hfar
      cases h2 : fle .f64 (fconv .f32 x .f64) 14064741636278059008 with
      | true =>
        rw [h2] at hfar
        obtain ⟨a1, a2⟩ := impl_turns_far hf hfar
        obtain ⟨b1, b2⟩ := wide_far2 hy h1 h2
        obtain ⟨c1, c2⟩ := spec_turns b1 b2 zero_fits
        exact ⟨a1, c1, a2.trans (c2.trans zero_narrow).symm⟩
      | false =>
        rw [h2] at hfar
        have hV := far_not hy h1 h2
        obtain ⟨n1, e1⟩ := spec_sine_eq hy h1 h2
        have e2 : impl_sine (fconv .f32 x .f64) = sineOf (leftOf (fconv .f32 x .f64)) := by rw [impl_sine_eq, impl_behind_eq (sm_52 hw hy hV)]
        have hok := fconvOk_down (e := 110) (by decide) (sineOf_sm (leftOf_sm hy hV))
        obtain ⟨a1, a2⟩ := impl_turns_near hf hfar e2 hok
        obtain ⟨c1, c2⟩ := spec_turns n1 e1 hok
        exact ⟨a1, c1, a2.trans c2.symm⟩

theorem root_same (x : Nat) : impl_RootNumber_need x = true ∧ spec_l01Sqrt_need x = true ∧ impl_RootNumber x = spec_l01Sqrt x := by
  have h : fconvOk .f64 (math_Sqrt (fconv .f32 x .f64)) .f32 = true := root_fits x
  refine ⟨?_, ?_, rfl⟩
  · unfold impl_RootNumber_need impl_RootNumber_tree
    simp only [DT.ok, fconvOk_up, h]
  · unfold spec_l01Sqrt_need spec_l01Sqrt_tree spec_l01Narrow_need spec_l01Narrow_tree
    simp only [DT.ok, fconvOk_up, h]

end Go.Proofs.Ytodhhjcgjkfmpaa
