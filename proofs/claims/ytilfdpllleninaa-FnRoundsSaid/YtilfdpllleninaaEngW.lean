/- The engine, part W: quotients, roots, whole parts, sines. -/
import Derived.Test.YtilfdpllleninaaEngV
namespace Go.Proofs.Ytilfdpllleninaa
set_option linter.unusedVariables false
set_option linter.unusedSimpArgs false
set_option exponentiation.threshold 3000
open Ieee

/-! ## Quotients -/

/-- At least 2 ^ d. -/
def Lb (d : Int) : Datum → Prop
  | .number _ n q => ∃ l : Nat, 2 ^ l ≤ n ∧ d ≤ l + q
  | _ => False
def lbB (d : Int) : Datum → Bool
  | .number _ n q => n != 0 && decide (d ≤ n.log2 + q)
  | _ => false
theorem lb_of {d : Int} {a : Datum} (h : lbB d a = true) : Lb d a := by
  cases a with
  | number s n q =>
    simp only [lbB, Bool.and_eq_true, bne_iff_ne, decide_eq_true_eq] at h
    exact ⟨n.log2, Nat.log2_self_le h.1, h.2⟩
  | infinity s => simp [lbB] at h
  | nan s t => simp [lbB] at h

theorem quotient_amp {dg : Nat} {e d : Int} {a b : Datum} (h1 : Amp e a) (h2 : Lb d b) : ∃ r, a.quotient dg b = some r ∧ Amp (e - d) r := by
  obtain ⟨s, m, i, rfl, h1⟩ := amp_number h1
  cases b with
  | infinity t => exact h2.elim
  | nan t u => exact h2.elim
  | number t n j =>
    obtain ⟨l, hl, hd⟩ := h2
    have hpl : 0 < 2 ^ l := Nat.pow_pos (by decide)
    have hn : n ≠ 0 := by omega
    refine ⟨_, by simp only [Datum.quotient, if_neg hn]; rfl, ?_⟩
    have hll : l ≤ n.log2 := (Nat.le_log2 hn).2 hl
    rcases h1 with rfl | ⟨h, hm, he⟩
    · left
      simp
    · by_cases hm0 : m = 0
      · subst hm0
        left
        simp
      right
      have hhl := log2_of_le hm0 hm
      generalize hmore : dg + n.log2 - m.log2 = more
      have hle : l ≤ h + more := by omega
      have hD : m <<< more ≤ n * 2 ^ (h + more - l) := by
        rw [Nat.shiftLeft_eq]
        calc m * 2 ^ more ≤ 2 ^ h * 2 ^ more := Nat.mul_le_mul_right _ hm
          _ = 2 ^ l * 2 ^ (h + more - l) := by rw [← Nat.pow_add, ← Nat.pow_add]; congr 1; omega
          _ ≤ _ := Nat.mul_le_mul_right _ hl
      generalize m <<< more = D at *
      have hq : D / n ≤ 2 ^ (h + more - l) := Nat.div_le_of_le_mul hD
      have hdm := Nat.div_add_mod D n
      refine ⟨h + more - l + 1, ?_, by omega⟩
      rw [Nat.pow_succ]
      rcases Nat.lt_or_ge (D / n) (2 ^ (h + more - l)) with hlt | hge
      · have hb : ∀ b : Bool, b.toNat ≤ 1 := by decide
        have := hb (D % n != 0)
        omega
      · have heq : D / n = 2 ^ (h + more - l) := Nat.le_antisymm hq hge
        rw [heq] at hdm ⊢
        have hz : D % n = 0 := by omega
        rw [hz]
        simp
        omega

theorem fdiv_sm {k : FloatKind} {e d x y : Nat} (he : e ≤ emax k) (hd : d ≤ e) (h1 : Sm k e x) (h2 : Lb d (k.format.read y)) : Sm k (e - d) (fdiv k x y) := by
  refine fopt_sm (by omega) ?_
  obtain ⟨r, hr, ha⟩ := quotient_amp (dg := k.format.fractionBits + 2) (read_amp he h1) h2
  exact ⟨r, hr, by rw [Int.natCast_sub hd]; exact ha⟩

theorem fdiv_sm0 {k : FloatKind} {e x y : Nat} (he : e ≤ emax k) (h1 : Sm k e x) (h2 : lbB 0 (k.format.read y) = true) : Sm k e (fdiv k x y) :=
  fdiv_sm (d := 0) he (Nat.zero_le _) h1 (lb_of h2)

/-! ## Roots -/

theorem rootFrom_le (n : Nat) : ∀ (todo root : Nat), root * root ≤ n → Datum.rootFrom n todo root * Datum.rootFrom n todo root ≤ n
  | 0, root, h => h
  | todo + 1, root, h => by
    simp only [Datum.rootFrom]
    split
    · rename_i hc; exact rootFrom_le n todo _ hc
    · exact rootFrom_le n todo _ h

theorem root_amp {dg : Nat} {e : Int} {a r : Datum} (h1 : Amp (2 * e) a) (hr : a.root dg = some r) : Amp (e + 1) r := by
  obtain ⟨s, m, i, rfl, h1⟩ := amp_number h1
  simp only [Datum.root] at hr
  split at hr
  · rename_i hm
    cases hr
    exact .inl hm
  · rename_i hm
    split at hr
    · cases hr
    · cases hr
      right
      obtain ⟨h, hmh, he⟩ := h1.resolve_left hm
      generalize hmore : 2 * dg - m.log2 + ((i - ((2 * dg - m.log2 : Nat) : Int)) % 2).toNat = more
      have hev : (i - (more : Int)) % 2 = 0 := by omega
      have hsq := rootFrom_le (m <<< more) ((m <<< more).log2 / 2 + 1) 0 (by simp)
      generalize Datum.rootFrom (m <<< more) ((m <<< more).log2 / 2 + 1) 0 = w at *
      have hn : m <<< more ≤ 2 ^ (h + more) := by
        rw [Nat.shiftLeft_eq, Nat.pow_add]
        exact Nat.mul_le_mul_right _ hmh
      have hw : w ≤ 2 ^ ((h + more + 1) / 2) := by
        refine Nat.le_of_not_lt fun hlt => ?_
        have h2 : 2 ^ ((h + more + 1) / 2) * 2 ^ ((h + more + 1) / 2) < w * w := Nat.mul_self_lt_mul_self hlt
        rw [← Nat.pow_add] at h2
        have h3 : 2 ^ (h + more) ≤ 2 ^ ((h + more + 1) / 2 + (h + more + 1) / 2) := Nat.pow_le_pow_right (by decide) (by omega)
        omega
      refine ⟨(h + more + 1) / 2 + 2, ?_, by omega⟩
      have hb : ∀ b : Bool, b.toNat ≤ 1 := by decide
      have := hb (w * w != m <<< more)
      have hp : 0 < 2 ^ ((h + more + 1) / 2) := Nat.pow_pos (by decide)
      rw [Nat.pow_succ, Nat.pow_succ]
      omega

theorem canon_num' {k : FloatKind} {x : Nat} (h : isNum k x = true) : canon k x = x := by
  obtain ⟨s, m, p, h⟩ := isNum_iff.1 h
  exact canon_num h

theorem fconv_nan {s d : FloatKind} {x : Nat} (h : isNaN s x = true) : fconv s x d = qnan d := by
  unfold fconv
  unfold isNaN at h
  rw [show s.format.read x = s.decode x from rfl] at h
  cases hd : s.decode x <;> rw [hd] at h <;> simp_all [Datum.isNaN]

theorem fconv_inf {s d : FloatKind} {x : Nat} {b : Bool} (h : s.format.read x = .infinity b) : fconv s x d = canon d (d.encode (.infinity b)) := by
  unfold fconv
  rw [show s.decode x = s.format.read x from rfl, h]

theorem fconv_up_sm {x : Nat} (h : isNum .f32 x = true) : Sm .f64 128 (fconv .f32 x .f64) := by
  obtain ⟨s, m, p, hd⟩ := isNum_iff.1 h
  have h1 := read_max hd
  unfold fconv
  rw [show FloatKind.f32.decode x = FloatKind.f32.format.read x from rfl, hd]
  rw [hd] at h1
  have h2 := write_sm (k := .f64) (e := 128) (by decide) (h1.mono (by decide))
  show Sm .f64 128 (canon .f64 (FloatKind.f64.format.write (.number s m p)))
  rw [sm_canon (by decide) h2]
  exact h2

theorem isNum_up (x : Nat) : isNum .f64 (fconv .f32 x .f64) = isNum .f32 x := by
  rcases kinds .f32 x with ⟨s, m, p, hd, h1, h2⟩ | ⟨s, hd, h1, h2⟩ | ⟨s, t, hd, h1, h2⟩
  · rw [h1, sm_num (by decide) (fconv_up_sm h1)]
  · rw [h1, fconv_inf hd]
    cases s <;> decide +kernel
  · rw [h1, fconv_nan h2]
    decide +kernel

theorem isNaN_up (x : Nat) : isNaN .f64 (fconv .f32 x .f64) = isNaN .f32 x := by
  rcases kinds .f32 x with ⟨s, m, p, hd, h1, h2⟩ | ⟨s, hd, h1, h2⟩ | ⟨s, t, hd, h1, h2⟩
  · rw [h2, sm_finite (e := 128) (by decide) (fconv_up_sm h1)]
  · rw [h2, fconv_inf hd]
    cases s <;> decide +kernel
  · rw [h2, fconv_nan h2]
    decide +kernel

theorem fconv_wd {s d : FloatKind} {x : Nat} : Wd d (fconv s x d) := by
  unfold fconv
  have hq : Wd d (qnan d) := by unfold Wd; cases d <;> decide +kernel
  cases s.decode x with
  | nan _ _ => exact hq
  | infinity b => exact canon_wd (by unfold Wd; cases d <;> cases b <;> decide +kernel)
  | number b m p => exact canon_wd nearest_wd

/-- A root fits. -/
theorem root_fits (x : Nat) : fconvOk .f64 (fsqrt (fconv .f32 x .f64)) .f32 = true := by
  rcases kinds .f32 x with ⟨s, m, p, hd, h1, h2⟩ | ⟨s, hd, h1, h2⟩ | ⟨s, t, hd, h1, h2⟩
  · have hs := fconv_up_sm h1
    generalize fconv .f32 x .f64 = y at *
    have ha := read_amp (k := .f64) (by decide) hs
    unfold fsqrt Format.sqrt
    cases hr : (FloatKind.f64.format.read y).root (FloatKind.f64.format.fractionBits + 2) with
    | none => decide +kernel
    | some r =>
      have h3 := root_amp (e := 64) ha hr
      exact fconvOk_down (e := 65) (by decide) (fopt_sm (k := .f64) (e := 65) (by decide) ⟨r, rfl, h3⟩)
  · rw [fconv_inf hd]
    cases s <;> decide +kernel
  · rw [fconv_nan h2]
    decide +kernel

/-! ## Whole parts -/

theorem zcut {s : Bool} {n d : Nat} : Toward.zero.cut s n d = n / 2 ^ d := by
  unfold Toward.cut
  simp only [Bool.toNat_false, Nat.add_zero, Nat.shiftLeft_eq, Nat.one_mul]
  rcases Nat.le_total d (n.log2 + 2) with h | h
  · rw [Nat.min_eq_left h]
  · rw [Nat.min_eq_right h]
    have h1 : n < 2 ^ (n.log2 + 2) := Nat.lt_of_lt_of_le Nat.lt_log2_self (Nat.pow_le_pow_right (by decide) (by omega))
    rw [Nat.div_eq_of_lt h1, Nat.div_eq_of_lt (Nat.lt_of_lt_of_le h1 (Nat.pow_le_pow_right (by decide) h))]

/-- The whole part of a number that is not too great, and what is left. -/
theorem whole_part {x : Nat} (hx : isNum .f64 x = true) (h : (V .f64 x).natAbs < 2 ^ (52 + 1074)) :
    (FloatKind.f64.decode x).toInt .zero = some (ftoInt .f64 x) ∧ (ftoInt .f64 x).natAbs < 2 ^ 52 ∧ (V .f64 x - ftoInt .f64 x * ((2 ^ 1074 : Nat) : Int)).natAbs < 2 ^ 1074 := by
  obtain ⟨s, m, p, hd⟩ := isNum_iff.1 hx
  have hp := place_ge hd
  rw [lp_eq] at hp
  have hlp : lplace .f64 = -1074 := rfl
  rw [hlp] at hp
  have hd' : FloatKind.f64.decode x = .number s m p := hd
  generalize hM : m * 2 ^ p.toNat / 2 ^ (-p).toNat = M
  have hti : (FloatKind.f64.decode x).toInt .zero = some (signed s M 0) := by
    rw [hd']
    simp only [Datum.toInt, Datum.integral, zcut, Nat.shiftLeft_eq, hM]
  have hfi : ftoInt .f64 x = signed s M 0 := by unfold ftoInt; rw [hti]; rfl
  have hV : V .f64 x = signed s m (p + 1074).toNat := by
    unfold V
    rw [hd]
    show signed s m (p - lplace .f64).toNat = _
    rw [hlp, Int.sub_neg]
  have hVa : (V .f64 x).natAbs = m * 2 ^ (p + 1074).toNat := by rw [hV, signed_abs]
  have key : M * 2 ^ 1074 ≤ m * 2 ^ (p + 1074).toNat ∧ m * 2 ^ (p + 1074).toNat < M * 2 ^ 1074 + 2 ^ 1074 := by
    rcases Int.le_total 0 p with h0 | h0
    · have e1 : (-p).toNat = 0 := by omega
      rw [e1, Nat.pow_zero, Nat.div_one] at hM
      have e2 : (p + 1074).toNat = p.toNat + 1074 := by omega
      rw [e2, Nat.pow_add, ← Nat.mul_assoc, hM]
      exact ⟨Nat.le_refl _, Nat.lt_add_of_pos_right (Nat.pow_pos (by decide))⟩
    · have e1 : p.toNat = 0 := by omega
      rw [e1, Nat.pow_zero, Nat.mul_one] at hM
      have hdm := Nat.div_add_mod m (2 ^ (-p).toNat)
      have hr : m % 2 ^ (-p).toNat < 2 ^ (-p).toNat := Nat.mod_lt _ (Nat.pow_pos (by decide))
      rw [hM] at hdm
      have e2 : 2 ^ 1074 = 2 ^ (-p).toNat * 2 ^ (p + 1074).toNat := by rw [← Nat.pow_add]; congr 1; omega
      generalize 2 ^ (p + 1074).toNat = A at *
      generalize 2 ^ (-p).toNat = B at *
      generalize m % B = R at *
      rw [e2, ← hdm]
      have hA : (B * M + R) * A = M * (B * A) + R * A := by rw [Nat.add_mul, Nat.mul_comm B M, Nat.mul_assoc]
      rw [hA]
      have hApos : 0 < A := by
        refine Nat.pos_of_ne_zero fun hz => ?_
        rw [hz, Nat.mul_zero] at e2
        have : 0 < 2 ^ 1074 := Nat.pow_pos (by decide)
        omega
      exact ⟨Nat.le_add_right _ _, Nat.add_lt_add_left (Nat.mul_lt_mul_of_pos_right hr hApos) _⟩
  rw [hVa, Nat.pow_add] at h
  have hM52 : M < 2 ^ 52 := by
    have h1 : M * 2 ^ 1074 < 2 ^ 52 * 2 ^ 1074 := Nat.lt_of_le_of_lt key.1 h
    exact Nat.lt_of_mul_lt_mul_right h1
  refine ⟨by rw [hti, hfi], ?_, ?_⟩
  · rw [hfi, signed_abs, Nat.pow_zero, Nat.mul_one]
    exact hM52
  · rw [hV, hfi]
    unfold signed
    simp only [Nat.shiftLeft_eq, Nat.pow_zero, Nat.mul_one]
    generalize 2 ^ 1074 = A at *
    generalize m * 2 ^ (p + 1074).toNat = B at *
    obtain ⟨k1, k2⟩ := key
    have e : ((M * A : Nat) : Int) = (M : Int) * (A : Int) := by push_cast; rfl
    cases s
    · simp only [Bool.false_eq_true, if_false]
      rw [← e]
      omega
    · simp only [if_true]
      rw [Int.neg_mul, ← e]
      omega

/-- What is left of turns. -/
theorem left_sm {x : Nat} (hx : isNum .f64 x = true) (h : (V .f64 x).natAbs < 2 ^ (52 + 1074)) : Sm .f64 0 (fsub .f64 x (fofInt .f64 (ftoInt .f64 x))) := by
  obtain ⟨_, h2, h3⟩ := whole_part hx h
  obtain ⟨h4, h5⟩ := fofInt_whole (k := .f64) (n := ftoInt .f64 x) (Nat.lt_trans h2 (by decide))
  refine fsub_sm_V (by decide) hx h4 ?_
  rw [h5]
  exact Nat.le_of_lt h3

theorem toInt_ok {x : Nat} (hx : isNum .f64 x = true) (h : (V .f64 x).natAbs < 2 ^ (52 + 1074)) : ftoIntOk .f64 x .i64 = true := by
  obtain ⟨h1, h2, _⟩ := whole_part hx h
  unfold ftoIntOk
  rw [h1]
  simp only [Bool.and_eq_true, decide_eq_true_eq]
  generalize ftoInt .f64 x = n at *
  have e1 : IntKind.i64.min = -9223372036854775808 := by decide
  have e2 : IntKind.i64.max = 9223372036854775807 := by decide
  have e3 : (2 : Nat) ^ 52 = 4503599627370496 := by decide
  rw [e1, e2]
  omega

theorem sm_52 {x : Nat} (hw : Wd .f64 x) (hx : isNum .f64 x = true) (h : (V .f64 x).natAbs < 2 ^ (52 + 1074)) : Sm .f64 52 x :=
  sm_of_V (by decide) hw hx (Nat.le_of_lt h)

/-! ## Sines -/

def round8 (u p c : Nat) : Nat := fsub .f64 4607182418800017408 (fdiv .f64 (fmul .f64 u p) c)
def poly8 (z : Nat) : Nat :=
  let u := fmul .f64 z z
  fmul .f64 z (round8 u (round8 u (round8 u (round8 u (round8 u (round8 u (round8 u (round8 u 4607182418800017408 (fofInt .f64 272)) (fofInt .f64 210)) (fofInt .f64 156)) (fofInt .f64 110)) (fofInt .f64 72)) (fofInt .f64 42)) (fofInt .f64 20)) (fofInt .f64 6))

/-- The sine of a part of a turn. -/
def sineOf (f : Nat) : Nat :=
  match fge .f64 f 4602678819172646912 with
  | true =>
    match fgt .f64 (fsub .f64 f 4602678819172646912) 4598175219545276416 with
    | true => fneg .f64 (poly8 (fmul .f64 (fsub .f64 4602678819172646912 (fsub .f64 f 4602678819172646912)) 4618760256179416344))
    | false => fneg .f64 (poly8 (fmul .f64 (fsub .f64 f 4602678819172646912) 4618760256179416344))
  | false =>
    match fgt .f64 f 4598175219545276416 with
    | true => poly8 (fmul .f64 (fsub .f64 4602678819172646912 f) 4618760256179416344)
    | false => poly8 (fmul .f64 f 4618760256179416344)

theorem round8_sm {u p c e a : Nat} (hu : Sm .f64 a u) (hp : Sm .f64 e p) (hc : lbB 0 (FloatKind.f64.format.read c) = true) (he : a + e + 1 ≤ 1023) : Sm .f64 (a + e + 1) (round8 u p c) := by
  have h1 := fmul_sm hu hp (by simp only [emax]; omega)
  have h2 := fdiv_sm0 (by simp only [emax]; omega) h1 hc
  have h3 : Sm .f64 (a + e) 4607182418800017408 := (show Sm .f64 0 4607182418800017408 by unfold Sm; decide +kernel).mono (Nat.zero_le _)
  exact fsub_sm h3 h2 (by simp only [emax]; omega)

theorem poly8_sm {z : Nat} (hz : Sm .f64 6 z) : Sm .f64 110 (poly8 z) := by
  unfold poly8
  have hu : Sm .f64 12 (fmul .f64 z z) := (fmul_sm hz hz (by decide +kernel)).mono (by decide +kernel)
  generalize fmul .f64 z z = u at *
  have h0 : Sm .f64 0 4607182418800017408 := by unfold Sm; decide +kernel
  have h1 := round8_sm hu h0 (show lbB 0 (FloatKind.f64.format.read (fofInt .f64 272)) = true by decide +kernel) (by decide +kernel)
  have h2 := round8_sm hu h1 (show lbB 0 (FloatKind.f64.format.read (fofInt .f64 210)) = true by decide +kernel) (by decide +kernel)
  have h3 := round8_sm hu h2 (show lbB 0 (FloatKind.f64.format.read (fofInt .f64 156)) = true by decide +kernel) (by decide +kernel)
  have h4 := round8_sm hu h3 (show lbB 0 (FloatKind.f64.format.read (fofInt .f64 110)) = true by decide +kernel) (by decide +kernel)
  have h5 := round8_sm hu h4 (show lbB 0 (FloatKind.f64.format.read (fofInt .f64 72)) = true by decide +kernel) (by decide +kernel)
  have h6 := round8_sm hu h5 (show lbB 0 (FloatKind.f64.format.read (fofInt .f64 42)) = true by decide +kernel) (by decide +kernel)
  have h7 := round8_sm hu h6 (show lbB 0 (FloatKind.f64.format.read (fofInt .f64 20)) = true by decide +kernel) (by decide +kernel)
  have h8 := round8_sm hu h7 (show lbB 0 (FloatKind.f64.format.read (fofInt .f64 6)) = true by decide +kernel) (by decide +kernel)
  exact (fmul_sm hz h8 (by decide +kernel)).mono (by decide +kernel)

theorem sineOf_sm {f : Nat} (hf : Sm .f64 1 f) : Sm .f64 110 (sineOf f) := by
  have hh : Sm .f64 1 4602678819172646912 := by unfold Sm; decide +kernel
  have hc : Sm .f64 3 4618760256179416344 := by unfold Sm; decide +kernel
  have h1 : Sm .f64 2 (fsub .f64 f 4602678819172646912) := (fsub_sm hf hh (by decide +kernel)).mono (by decide +kernel)
  unfold sineOf
  split
  · split
    · exact fneg_sm (by decide +kernel) (poly8_sm ((fmul_sm (fsub_sm (e := 2) (hh.mono (by decide +kernel)) h1 (by decide +kernel)) hc (by decide +kernel)).mono (by decide +kernel)))
    · exact fneg_sm (by decide +kernel) (poly8_sm ((fmul_sm h1 hc (by decide +kernel)).mono (by decide +kernel)))
  · split
    · exact poly8_sm ((fmul_sm (fsub_sm hh hf (by decide +kernel)) hc (by decide +kernel)).mono (by decide +kernel))
    · exact poly8_sm ((fmul_sm hf hc (by decide +kernel)).mono (by decide +kernel))

/-- What is left of turns, from 0 on. -/
def leftOf (x : Nat) : Nat :=
  match flt .f64 (fsub .f64 x (fofInt .f64 (ftoInt .f64 x))) 0 with
  | true => fadd .f64 (fsub .f64 x (fofInt .f64 (ftoInt .f64 x))) 4607182418800017408
  | false => fsub .f64 x (fofInt .f64 (ftoInt .f64 x))

theorem leftOf_sm {x : Nat} (hx : isNum .f64 x = true) (h : (V .f64 x).natAbs < 2 ^ (52 + 1074)) : Sm .f64 1 (leftOf x) := by
  have h1 := left_sm hx h
  unfold leftOf
  split
  · exact fadd_sm h1 (by unfold Sm; decide +kernel) (by decide)
  · exact h1.mono (by decide)

/-- Numbers of turns that tell nothing. -/
theorem far_V : V .f64 4841369599423283200 = ((2 ^ (52 + 1074) : Nat) : Int) ∧ isNum .f64 4841369599423283200 = true ∧ V .f64 14064741636278059008 = -((2 ^ (52 + 1074) : Nat) : Int) ∧ isNum .f64 14064741636278059008 = true := by decide +kernel

theorem far_abs {x : Nat} (hx : isNum .f64 x = true) : fge .f64 (fabs x) 4841369599423283200 = (fge .f64 x 4841369599423283200 || fle .f64 x 14064741636278059008) := by
  obtain ⟨v1, n1, v2, n2⟩ := far_V
  obtain ⟨a1, a2⟩ := fabs_num hx
  rw [fge_num a1 n1, fge_num hx n1, fle_num hx n2, a2, v1, v2]
  generalize 2 ^ (52 + 1074) = A
  generalize V .f64 x = v
  rw [← Bool.decide_or, decide_eq_decide]
  omega

theorem far_not {x : Nat} (hx : isNum .f64 x = true) (h1 : fge .f64 x 4841369599423283200 = false) (h2 : fle .f64 x 14064741636278059008 = false) : (V .f64 x).natAbs < 2 ^ (52 + 1074) := by
  obtain ⟨v1, n1, v2, n2⟩ := far_V
  rw [fge_num hx n1, v1, decide_eq_false_iff_not] at h1
  rw [fle_num hx n2, v2, decide_eq_false_iff_not] at h2
  generalize 2 ^ (52 + 1074) = A at *
  omega

/-! ## What is no infinity -/

theorem V_max {x : Nat} (hx : isNum .f64 x = true) : (V .f64 x).natAbs ≤ (2 ^ 53 - 1) * 2 ^ 2045 := by
  obtain ⟨s, m, p, hd⟩ := isNum_iff.1 hx
  rw [V_abs hd]
  have hlp : lplace .f64 = -1074 := rfl
  have c2 : FloatKind.f64.format.leastPlace = -1074 := by decide
  have c3 : FloatKind.f64.format.binade = 2 ^ 52 := by decide
  have c4 : FloatKind.f64.format.infRung = 2047 * 2 ^ 52 := by decide
  unfold Format.read at hd
  simp only [c2, c3, c4] at hd
  generalize x % FloatKind.f64.format.signWeight = r at hd
  split at hd
  · rename_i hr
    simp only [Datum.number.injEq] at hd
    obtain ⟨_, rfl, rfl⟩ := hd
    rw [hlp, Int.sub_self, Int.toNat_zero, Nat.pow_zero, Nat.mul_one]
    refine Nat.le_trans (Nat.le_of_lt hr) ?_
    calc 2 ^ 52 ≤ (2 ^ 53 - 1) * 1 := by decide
      _ ≤ _ := Nat.mul_le_mul_left _ (Nat.pow_pos (by decide))
  · split at hd
    · rename_i h1 h2
      simp only [Datum.number.injEq] at hd
      obtain ⟨_, rfl, rfl⟩ := hd
      have hq : r / 2 ^ 52 < 2047 := (Nat.div_lt_iff_lt_mul (Nat.pow_pos (by decide))).2 h2
      have hm : r % 2 ^ 52 < 2 ^ 52 := Nat.mod_lt _ (Nat.pow_pos (by decide))
      refine Nat.mul_le_mul ?_ (Nat.pow_le_pow_right (by decide) ?_)
      · have e : (2 : Nat) ^ 53 = 2 ^ 52 + 2 ^ 52 := by decide
        omega
      · rw [hlp]
        omega
    · split at hd <;> cases hd

theorem inf_abs {x : Nat} (hx : isNaN .f64 x = false) : fgt .f64 (fabs x) 9218868437227405311 = !isNum .f64 x := by
  have vm : V .f64 9218868437227405311 = (((2 ^ 53 - 1) * 2 ^ 2045 : Nat) : Int) ∧ isNum .f64 9218868437227405311 = true := by decide +kernel
  rcases kinds .f64 x with ⟨s, m, p, hd, h1, h2⟩ | ⟨s, hd, h1, h2⟩ | ⟨s, t, hd, h1, h2⟩
  · obtain ⟨a1, a2⟩ := fabs_num h1
    have := V_max h1
    rw [fgt_num a1 vm.2, a2, vm.1, h1]
    generalize (2 ^ 53 - 1) * 2 ^ 2045 = A at *
    refine decide_eq_false ?_
    omega
  · rw [h1]
    have hr := fabs_inf hd
    have hmx : ∃ s m p, FloatKind.f64.format.read 9218868437227405311 = .number s m p := isNum_iff.1 vm.2
    obtain ⟨t, m, p, hm⟩ := hmx
    unfold fgt Format.order
    rw [hr, hm]
    rfl
  · rw [h2] at hx
    cases hx

/-! ## Loops -/

def DT.map {α β : Type} (f : α → β) : DT α → DT β
  | .leaf a => .leaf (f a)
  | .ask c t e => .ask c (t.map f) (e.map f)
  | .need c t => .need c (t.map f)
  | .skip t => .skip (t.map f)
  | .fail => .fail

theorem DT.get_map {α β : Type} (f : α → β) : ∀ t : DT α, (t.map f).get = t.get.map f
  | .leaf a => rfl
  | .ask c t e => by cases c <;> simp only [DT.map, DT.get] <;> exact DT.get_map f _
  | .need c t => by cases c <;> simp only [DT.map, DT.get] <;> first | rfl | exact DT.get_map f _
  | .skip t => by simp only [DT.map, DT.get]; exact DT.get_map f t
  | .fail => rfl

section
variable {σ ρ : Type}

theorem iter_same {step step' : σ → Round σ ρ} (h : ∀ s, (step s).map Prod.fst = (step' s).map Prod.fst) : ∀ k s, iter step k s = iter step' k s
  | 0, _ => rfl
  | k + 1, s => by
    have hs := congrArg DT.get (h s)
    rw [DT.get_map, DT.get_map] at hs
    simp only [iter]
    cases h1 : (step s).get with
    | none =>
      rw [h1] at hs
      cases h2 : (step' s).get with
      | none => rfl
      | some b => rw [h2] at hs; cases hs
    | some a =>
      rw [h1] at hs
      cases h2 : (step' s).get with
      | none => rw [h2] at hs; cases hs
      | some b =>
        rw [h2] at hs
        obtain ⟨o, fl⟩ := a
        obtain ⟨o', fl'⟩ := b
        simp only [Option.map_some, Option.some.injEq] at hs
        subst hs
        cases o with
        | inl s' => exact iter_same h k s'
        | inr r => rfl

/-- Two loops whose rounds are the same. -/
theorem loop_same [Inhabited ρ] {step step' : σ → Round σ ρ} (h : ∀ s, (step s).map Prod.fst = (step' s).map Prod.fst) : (∀ s, loopVal step s = loopVal step' s) ∧ ∀ s, loopEnds step s = loopEnds step' s := by
  have hk := iter_same h
  have e : iter step = iter step' := by funext k s; exact hk k s
  refine ⟨fun s => ?_, fun s => ?_⟩
  · exact congrArg (fun (f : Nat → σ → Option ρ) => @dite _ (∃ r, ∃ k, f k s = some r) (Classical.propDecidable _) (fun h => h.choose) fun _ => default) e
  · exact congrArg (fun (f : Nat → σ → Option ρ) => @decide (∃ k r, f k s = some r) (Classical.propDecidable _)) e

/-- Two loops whose rounds answer the same. -/
theorem loop_alike [Inhabited ρ] {step step' : σ → Round σ ρ} (h : ∀ s, (step s).get.map Prod.fst = (step' s).get.map Prod.fst) : (∀ s, loopVal step s = loopVal step' s) ∧ ∀ s, loopEnds step s = loopEnds step' s := by
  have hk : ∀ k s, iter step k s = iter step' k s := by
    intro k
    induction k with
    | zero => intro s; rfl
    | succ k ih =>
      intro s
      have hs := h s
      simp only [iter]
      cases h1 : (step s).get with
      | none =>
        rw [h1] at hs
        cases h2 : (step' s).get with
        | none => rfl
        | some b => rw [h2] at hs; cases hs
      | some a =>
        rw [h1] at hs
        cases h2 : (step' s).get with
        | none => rw [h2] at hs; cases hs
        | some b =>
          rw [h2] at hs
          obtain ⟨o, fl⟩ := a
          obtain ⟨o', fl'⟩ := b
          simp only [Option.map_some, Option.some.injEq] at hs
          subst hs
          cases o with
          | inl s' => exact ih s'
          | inr r => rfl
  have e : iter step = iter step' := by funext k s; exact hk k s
  refine ⟨fun s => ?_, fun s => ?_⟩
  · exact congrArg (fun (f : Nat → σ → Option ρ) => @dite _ (∃ r, ∃ k, f k s = some r) (Classical.propDecidable _) (fun h => h.choose) fun _ => default) e
  · exact congrArg (fun (f : Nat → σ → Option ρ) => @decide (∃ k r, f k s = some r) (Classical.propDecidable _)) e

/-- What holds behind a loop with a measure. -/
theorem loop_post [Inhabited ρ] {step : σ → Round σ ρ} (inv : σ → Prop) (μ : σ → Nat) (post : ρ → Prop) (h : ∀ s, inv s → ∃ o fl, (step s).get = some (o, fl) ∧ match o with
    | .inl s' => inv s' ∧ μ s' < μ s
    | .inr r => post r) (s : σ) (hs : inv s) : loopEnds step s = true ∧ post (loopVal step s) := by
  have key : ∃ k r, iter step k s = some r ∧ post r := by
    generalize hm : μ s = m
    induction m using Nat.strongRecOn generalizing s with
    | _ m ih =>
      obtain ⟨o, fl, ho, hc⟩ := h s hs
      cases o with
      | inl s' =>
        obtain ⟨k, r, hk, hp⟩ := ih (μ s') (by rw [← hm]; exact hc.2) s' hc.1 rfl
        exact ⟨k + 1, r, by simp only [iter, ho]; exact hk, hp⟩
      | inr r => exact ⟨1, r, by simp only [iter, ho], hc⟩
  obtain ⟨k, r, hk, hp⟩ := key
  obtain ⟨h1, h2⟩ := loopVal_eq hk
  exact ⟨h2, by rw [h1]; exact hp⟩

end

theorem DT.get_need {α : Type} {c : Bool} {t : DT α} (h : c = true) : (DT.need c t).get = t.get := by subst h; rfl
theorem DT.get_skip {α : Type} {t : DT α} : (DT.skip t).get = t.get := rfl
theorem DT.get_yes {α : Type} {c : Bool} {t e : DT α} (h : c = true) : (DT.ask c t e).get = t.get := by subst h; rfl
theorem DT.get_no {α : Type} {c : Bool} {t e : DT α} (h : c = false) : (DT.ask c t e).get = e.get := by subst h; rfl
theorem DT.get_leaf {α : Type} {a : α} : (DT.leaf a).get = some a := rfl

theorem wrap_small {n : Int} (h1 : -9223372036854775808 ≤ n) (h2 : n ≤ 9223372036854775807) : IntKind.wrap .i64 n = n := by
  rw [IntKind.wrap_i64]
  omega

/-- A whole number as a float is a number. -/
theorem fofInt_num {n : Int} (h : n.natAbs ≤ 2 ^ 64) (k : FloatKind) : isNaN k (fofInt k n) = false := by
  have hs : Sm k 64 (k.format.nearest (decide (n < 0)) n.natAbs 0) := nearest_sm (by cases k <;> decide) (.inr ⟨64, h, by omega⟩)
  have e : fofInt k n = canon k (k.format.nearest (decide (n < 0)) n.natAbs 0) := rfl
  rw [e, sm_canon (by cases k <;> decide) hs]
  exact sm_finite (by cases k <;> decide) hs

/-! ## Loops over places -/

/-- The first of the places that ends the loop. -/
def firstOf {α : Type} (g : Nat → Option α) (n : Nat) : Option α := (List.range n).findSome? g

theorem scan_loop {α β : Type} [Inhabited (α ⊕ β)] {step : Int → Round Int (α ⊕ β)} (n : Nat) (g : Nat → Option α) (b : β)
    (h : ∀ i : Nat, i < n → ∃ fl, (step i).get = some ((match g i with | some a => .inr (.inl a) | none => .inl ((i + 1 : Nat) : Int)), fl))
    (hn : ∃ fl, (step n).get = some (.inr (.inr b), fl)) :
    loopEnds step 0 = true ∧ loopVal step 0 = match firstOf g n with | some a => .inl a | none => .inr b := by
  refine loop_post (σ := Int) (ρ := α ⊕ β) (fun s => ∃ i : Nat, s = i ∧ i ≤ n ∧ ∀ j, j < i → g j = none) (fun s => n - s.toNat) (fun r => r = match firstOf g n with | some a => .inl a | none => .inr b) ?_ 0 ⟨0, rfl, Nat.zero_le _, fun j hj => absurd hj (Nat.not_lt_zero j)⟩
  rintro s ⟨i, rfl, hi, hj⟩
  rcases Nat.lt_or_ge i n with hlt | hge
  · obtain ⟨fl, hg⟩ := h i hlt
    cases hgi : g i with
    | some a =>
      rw [hgi] at hg
      refine ⟨_, fl, hg, ?_⟩
      have hf : firstOf g n = some a := by
        unfold firstOf
        rw [List.findSome?_eq_some_iff]
        refine ⟨List.range i, i, (List.range' (i + 1) (n - i - 1)), ?_, hgi, fun x hx => hj x (List.mem_range.1 hx)⟩
        have e : n = i + (n - i - 1 + 1) := by omega
        have ha := List.range'_append (s := 0) (m := i) (n := n - i - 1 + 1) (step := 1)
        simp only [Nat.one_mul, Nat.zero_add] at ha
        calc List.range n = List.range' 0 (i + (n - i - 1 + 1)) := by rw [List.range_eq_range', ← e]
          _ = List.range' 0 i ++ List.range' i (n - i - 1 + 1) := ha.symm
          _ = _ := by rw [List.range'_succ, ← List.range_eq_range']
      rw [hf]
    | none =>
      rw [hgi] at hg
      refine ⟨_, fl, hg, ⟨i + 1, rfl, hlt, fun j hj' => ?_⟩, ?_⟩
      · rcases Nat.lt_or_ge j i with h1 | h1
        · exact hj j h1
        · rw [show j = i from by omega]; exact hgi
      · show n - ((i + 1 : Nat) : Int).toNat < n - ((i : Nat) : Int).toNat
        rw [Int.toNat_natCast, Int.toNat_natCast]
        omega
  · have hin : i = n := Nat.le_antisymm hi hge
    subst hin
    obtain ⟨fl, hg⟩ := hn
    refine ⟨_, fl, hg, ?_⟩
    have hf : firstOf g i = none := by
      unfold firstOf
      rw [List.findSome?_eq_none_iff]
      exact fun x hx => hj x (List.mem_range.1 hx)
    rw [hf]

theorem firstOf_all {α β : Type} (p : α → Bool) (a : Nat → β) (d : α) (l : List α) : (firstOf (fun i => bif p (l.getD i d) then none else some (a i)) l.length).isNone = l.all p := by
  unfold firstOf
  rw [Bool.eq_iff_iff, Option.isNone_iff_eq_none, List.findSome?_eq_none_iff, List.all_eq_true]
  constructor
  · intro h x hx
    obtain ⟨i, hi, rfl⟩ := List.mem_iff_getElem.1 hx
    have := h i (List.mem_range.2 hi)
    rw [List.getD_eq_getElem?_getD, List.getElem?_eq_getElem hi, Option.getD_some] at this
    cases hp : p l[i]
    · rw [hp] at this; cases this
    · rfl
  · intro h i hi
    have hi := List.mem_range.1 hi
    rw [List.getD_eq_getElem?_getD, List.getElem?_eq_getElem hi, Option.getD_some, h _ (List.getElem_mem hi)]
    rfl

theorem eq_of_getD {α : Type} {r : List α} {n : Nat} {d : α} {g : Nat → α} (hl : r.length = n) (h : ∀ j, j < n → r.getD j d = g j) : r = (List.range n).map g := by
  apply List.ext_getElem?
  intro j
  rcases Nat.lt_or_ge j n with hj | hj
  · have := h j hj
    rw [List.getD_eq_getElem?_getD, List.getElem?_eq_getElem (by omega), Option.getD_some] at this
    rw [List.getElem?_eq_getElem (by omega), this]
    simp [hj]
  · rw [List.getElem?_eq_none (by omega), List.getElem?_eq_none (by simp; omega)]

theorem getD_range {α : Type} {n j : Nat} {d : α} {g : Nat → α} (hj : j < n) : ((List.range n).map g).getD j d = g j := by
  rw [List.getD_eq_getElem?_getD]
  simp [hj]

theorem nat_dec {i n : Nat} (h : i < n) : decide (((i : Nat) : Int) < ((n : Nat) : Int)) = true := decide_eq_true (by omega)
theorem nat_ge {i : Nat} : decide ((0 : Int) ≤ ((i : Nat) : Int)) = true := decide_eq_true (by omega)
theorem nat_not {n : Nat} : decide (((n : Nat) : Int) < ((n : Nat) : Int)) = false := decide_eq_false (by omega)
theorem nat_in {i n : Nat} (h : i < n) : (decide ((0 : Int) ≤ ((i : Nat) : Int)) && decide (((i : Nat) : Int) < ((n : Nat) : Int))) = true := by rw [nat_dec h, Bool.and_true]; exact decide_eq_true (by omega)
theorem nat_next {i n : Nat} (h : i < n) (hn : n ≤ 2 ^ 62) : IntKind.wrap .i64 (((i : Nat) : Int) + 1) = ((i + 1 : Nat) : Int) := by rw [wrap_small (by omega) (by omega)]; rfl

end Go.Proofs.Ytilfdpllleninaa
