/- Bounds of the program's sine. -/
import Derived.Test.YtilfdpllleninaaInt
namespace Go.Proofs.Ytilfdpllleninaa
open Ieee
set_option linter.unusedVariables false
set_option linter.unusedSimpArgs false

theorem k_one : I .f64 4607182418800017408 (some (1, 1)) := I.at (by decide +kernel)
theorem k_half : I .f64 4602678819172646912 (some (1 / 2, 1 / 2)) := I.at (by decide +kernel)
theorem k_quarter : I .f64 4598175219545276416 (some (1 / 4, 1 / 4)) := I.at (by decide +kernel)
theorem k_turn : I .f64 4618760256179416344 (some (6283185307179586 / 1000000000000000, 6283185307179587 / 1000000000000000)) := I.at (by decide +kernel)
theorem k_zero : I .f64 0 (some (0, 0)) := I.at (by decide +kernel)
theorem k_two : I .f64 4611686018427387904 (some (2, 2)) := I.at (by decide +kernel)

def round8I (u p : Iv) (c : Rat) : Iv := subI .f64 (some (1, 1)) (divI .f64 (mulI .f64 u p) (some (c, c)))
theorem round8_I {u p n : Nat} {i j : Iv} {c : Rat} (hu : I .f64 u i) (hp : I .f64 p j) (hc : I .f64 n (some (c, c))) : I .f64 (round8 u p n) (round8I i j c) :=
  I.sub k_one (I.div (I.mul hu hp) hc)

def poly8I (i : Iv) : Iv := mulI .f64 i (round8I (sqI .f64 i) (round8I (sqI .f64 i) (round8I (sqI .f64 i) (round8I (sqI .f64 i) (round8I (sqI .f64 i) (round8I (sqI .f64 i) (round8I (sqI .f64 i) (round8I (sqI .f64 i) (some (1, 1)) 272) 210) 156) 110) 72) 42) 20) 6)
theorem poly8_I {z : Nat} {i : Iv} (hz : I .f64 z i) : I .f64 (poly8 z) (poly8I i) := by
  have hu := I.sq hz
  have c1 : I .f64 (fofInt .f64 272) (some (272, 272)) := I.at (by decide +kernel)
  have c2 : I .f64 (fofInt .f64 210) (some (210, 210)) := I.at (by decide +kernel)
  have c3 : I .f64 (fofInt .f64 156) (some (156, 156)) := I.at (by decide +kernel)
  have c4 : I .f64 (fofInt .f64 110) (some (110, 110)) := I.at (by decide +kernel)
  have c5 : I .f64 (fofInt .f64 72) (some (72, 72)) := I.at (by decide +kernel)
  have c6 : I .f64 (fofInt .f64 42) (some (42, 42)) := I.at (by decide +kernel)
  have c7 : I .f64 (fofInt .f64 20) (some (20, 20)) := I.at (by decide +kernel)
  have c8 : I .f64 (fofInt .f64 6) (some (6, 6)) := I.at (by decide +kernel)
  exact I.mul hz (round8_I hu (round8_I hu (round8_I hu (round8_I hu (round8_I hu (round8_I hu (round8_I hu (round8_I hu k_one c1) c2) c3) c4) c5) c6) c7) c8)

/-- What is left of turns lies from 0 to 1, nearly; its sine is at most 1.571. -/
theorem poly8_bd {z : Nat} (h : I .f64 z (some (-1 / 1000000, 15708 / 10000))) : I .f64 (poly8 z) (some (-1 / 1000, 1571 / 1000)) := (poly8_I h).to (by decide +kernel)

theorem sineOf_bd {f : Nat} (h : I .f64 f (some (-1 / 1000000000, 1 + 1 / 1000000000))) : I .f64 (sineOf f) (some (-1571 / 1000, 1571 / 1000)) := by
  have turn : ∀ {g : Nat} {a b : Rat}, I .f64 g (some (a, b)) → -1 / 100000000 ≤ a → b ≤ 1 / 4 → I .f64 (poly8 (fmul .f64 g 4618760256179416344)) (some (-1 / 1000, 1571 / 1000)) := fun {g a b} hg ha hb =>
    poly8_bd ((I.mul (hg.mono ha hb) k_turn).to (by decide +kernel))
  have neg : ∀ {g : Nat}, I .f64 g (some (-1 / 1000, 1571 / 1000)) → I .f64 (fneg .f64 g) (some (-1571 / 1000, 1571 / 1000)) := fun hg => (I.neg hg).to (by decide +kernel)
  have pos : ∀ {g : Nat}, I .f64 g (some (-1 / 1000, 1571 / 1000)) → I .f64 g (some (-1571 / 1000, 1571 / 1000)) := fun hg => hg.to (by decide +kernel)
  unfold sineOf
  cases h1 : fge .f64 f 4602678819172646912 with
  | true =>
    have hf : I .f64 f (some (1 / 2, 1 + 1 / 1000000000)) := by
      rw [fge_R h.1 k_half.1] at h1
      have := of_decide_eq_true h1
      have := k_half.2.1
      exact ⟨h.1, by grind, h.2.2⟩
    have hg := (I.sub hf k_half).to (lo := -1 / 1000000000) (hi := 1 / 2 + 1 / 100000000) (by decide +kernel)
    simp only
    cases h2 : fgt .f64 (fsub .f64 f 4602678819172646912) 4598175219545276416 with
    | true =>
      have hg2 : I .f64 (fsub .f64 f 4602678819172646912) (some (1 / 4, 1 / 2 + 1 / 100000000)) := by
        rw [fgt_R hg.1 k_quarter.1] at h2
        have := of_decide_eq_true h2
        have := k_quarter.2.1
        exact ⟨hg.1, by grind, hg.2.2⟩
      -- a half less a number that is at most a half, nearly; it is at most a quarter, by its rounding
      have hs : I .f64 (fsub .f64 4602678819172646912 (fsub .f64 f 4602678819172646912)) (some (-1 / 10000000, 1 / 4 + 1 / 1000000000)) := (I.sub k_half hg2).to (by decide +kernel)
      refine neg (poly8_bd ((I.mul hs k_turn).to (by decide +kernel)))
    | false =>
      have hg2 : I .f64 (fsub .f64 f 4602678819172646912) (some (-1 / 1000000000, 1 / 4)) := by
        rw [fgt_R hg.1 k_quarter.1] at h2
        have := of_decide_eq_false h2
        have := k_quarter.2.2
        exact ⟨hg.1, hg.2.1, by grind⟩
      exact neg (turn hg2 (by decide +kernel) (by decide +kernel))
  | false =>
    have hf : I .f64 f (some (-1 / 1000000000, 1 / 2)) := by
      rw [fge_R h.1 k_half.1] at h1
      have := of_decide_eq_false h1
      have := k_half.2.2
      exact ⟨h.1, h.2.1, by grind⟩
    simp only
    cases h2 : fgt .f64 f 4598175219545276416 with
    | true =>
      have hf2 : I .f64 f (some (1 / 4, 1 / 2)) := by
        rw [fgt_R hf.1 k_quarter.1] at h2
        have := of_decide_eq_true h2
        have := k_quarter.2.1
        exact ⟨hf.1, by grind, hf.2.2⟩
      have hs : I .f64 (fsub .f64 4602678819172646912 f) (some (-1 / 10000000, 1 / 4 + 1 / 1000000000)) := (I.sub k_half hf2).to (by decide +kernel)
      exact pos (poly8_bd ((I.mul hs k_turn).to (by decide +kernel)))
    | false =>
      have hf2 : I .f64 f (some (-1 / 1000000000, 1 / 4)) := by
        rw [fgt_R hf.1 k_quarter.1] at h2
        have := of_decide_eq_false h2
        have := k_quarter.2.2
        exact ⟨hf.1, hf.2.1, by grind⟩
      exact pos (turn hf2 (by decide +kernel) (by decide +kernel))

/-- The whole part of a number, and what is left. -/
theorem whole_R {x : Nat} (hx : isNum .f64 x = true) (h : Bd (R .f64 x) 4503599627370495) :
    (V .f64 x).natAbs < 2 ^ (52 + 1074) ∧ isNum .f64 (fofInt .f64 (ftoInt .f64 x)) = true ∧ R .f64 (fofInt .f64 (ftoInt .f64 x)) = (ftoInt .f64 x : Rat) ∧ -1 < R .f64 x - (ftoInt .f64 x : Rat) ∧ R .f64 x - (ftoInt .f64 x : Rat) < 1 := by
  have hV := R_V hx
  have hp := two_pos (-1074)
  have e : ((2 ^ 1074 : Nat) : Rat) * 2 ^ (-1074 : Int) = 1 := by decide +kernel
  have hlp : lplace .f64 = -1074 := rfl
  rw [hlp] at hV
  have hVlt : (V .f64 x).natAbs < 2 ^ (52 + 1074) := by
    have e2 : ((2 ^ (52 + 1074) : Nat) : Rat) * 2 ^ (-1074 : Int) = 4503599627370496 := by decide +kernel
    obtain ⟨h1, h2⟩ := h
    rw [hV] at h1 h2
    generalize (2 ^ (52 + 1074) : Nat) = M at *
    clear e
    generalize (2 : Rat) ^ (-1074 : Int) = w at *
    have key : ∀ n : Int, (n : Rat) * w ≤ 4503599627370495 → n < (M : Int) := fun n hn => by
      have h3 : w * (n : Rat) < w * (M : Rat) := by grind
      have h4 := (Rat.mul_lt_mul_left hp).1 h3
      exact_mod_cast h4
    have a := key _ h2
    have b := key (-(V .f64 x)) (by push_cast; grind)
    omega
  obtain ⟨_, w2, w3⟩ := whole_part hx hVlt
  obtain ⟨f1, f2⟩ := fofInt_whole (k := .f64) (n := ftoInt .f64 x) (Nat.lt_trans w2 (by decide))
  have hR : R .f64 (fofInt .f64 (ftoInt .f64 x)) = (ftoInt .f64 x : Rat) := by
    rw [R_V f1, f2, hlp]
    rw [show (-(-1074 : Int)).toNat = 1074 from rfl]
    clear f2 w3 hVlt hV
    generalize (2 ^ 1074 : Nat) = N at *
    have e4 : ((ftoInt .f64 x * (N : Int) : Int) : Rat) = (ftoInt .f64 x : Rat) * (N : Rat) := by push_cast; rfl
    rw [e4, Rat.mul_assoc, e, Rat.mul_one]
  refine ⟨hVlt, f1, hR, ?_⟩
  rw [hV]
  clear hR f1 f2 hVlt hV h
  generalize (2 ^ 1074 : Nat) = N at *
  generalize (2 : Rat) ^ (-1074 : Int) = w at *
  generalize V .f64 x = v at *
  generalize ftoInt .f64 x = t at *
  have h1 : -((N : Nat) : Int) < v - t * ((N : Nat) : Int) := by omega
  have h2 : v - t * ((N : Nat) : Int) < ((N : Nat) : Int) := by omega
  have h3 : ((-((N : Nat) : Int) : Int) : Rat) < ((v - t * ((N : Nat) : Int) : Int) : Rat) := by exact_mod_cast h1
  have h4 : ((v - t * ((N : Nat) : Int) : Int) : Rat) < ((((N : Nat) : Int) : Int) : Rat) := by exact_mod_cast h2
  have h5 := (Rat.mul_lt_mul_left hp).2 h3
  have h6 := (Rat.mul_lt_mul_left hp).2 h4
  have e5 : (((v - t * (N : Int) : Int)) : Rat) = (v : Rat) - (t : Rat) * (N : Rat) := by push_cast; rfl
  have e6 : ((-((N : Nat) : Int) : Int) : Rat) = -(N : Rat) := by push_cast; rfl
  have e7 : (((N : Nat) : Int) : Rat) = (N : Rat) := rfl
  rw [e5, e6] at h5
  rw [e5, e7] at h6
  have e8 : (t : Rat) * (N : Rat) * w = t := by rw [Rat.mul_assoc, e, Rat.mul_one]
  clear h1 h2 h3 h4 e5 e6 e7 w2 w3
  generalize (v : Rat) = v' at *
  generalize (t : Rat) = t' at *
  generalize (N : Rat) = N' at *
  constructor <;> grind

theorem leftOf_bd {x : Nat} (hx : isNum .f64 x = true) (h : Bd (R .f64 x) 4503599627370495) : I .f64 (leftOf x) (some (-1 / 1000000000, 1 + 1 / 1000000000)) := by
  obtain ⟨w1, w2, w3, w4, w5⟩ := whole_R hx h
  have f := fsub_fl hx w2 (by rw [w3]; have := Gr_ge; unfold Bd; constructor <;> grind)
  rw [w3] at f
  have e := f.err64 (M := 1) (by unfold Bd; constructor <;> grind)
  have ht := T_le
  have hI : I .f64 (fsub .f64 x (fofInt .f64 (ftoInt .f64 x))) (some (-1 - 1 / 1000000000000, 1 + 1 / 1000000000000)) := by
    unfold Nr at e
    exact ⟨f.1, by grind, by grind⟩
  unfold leftOf
  cases h1 : flt .f64 (fsub .f64 x (fofInt .f64 (ftoInt .f64 x))) 0 with
  | true =>
    have h2 : I .f64 (fsub .f64 x (fofInt .f64 (ftoInt .f64 x))) (some (-1 - 1 / 1000000000000, 0)) := by
      rw [flt_R hI.1 k_zero.1] at h1
      have := of_decide_eq_true h1
      have := k_zero.2.2
      exact ⟨hI.1, hI.2.1, by grind⟩
    exact (I.add h2 k_one).to (by decide +kernel)
  | false =>
    rw [flt_R hI.1 k_zero.1] at h1
    have := of_decide_eq_false h1
    have := k_zero.2.1
    exact ⟨hI.1, by grind, by have := hI.2.2; grind⟩

theorem sm52 {x : Nat} (hx : isNum .f64 x = true) (h : Bd (R .f64 x) 4503599627370495) : Sm .f64 52 x := by
  obtain ⟨w1, _⟩ := whole_R hx h
  refine sm_V (e := 52) (by decide) hx ?_
  have e : ((52 : Nat) - lplace .f64).toNat = 52 + 1074 := rfl
  rw [e]
  exact Nat.le_of_lt w1

end Go.Proofs.Ytilfdpllleninaa
