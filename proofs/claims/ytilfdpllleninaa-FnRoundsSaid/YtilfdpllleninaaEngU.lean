/- The engine, part U: whole parts of floats. -/
import Derived.Test.YtilfdpllleninaaEngQ
import Derived.Test.YtilfdpllleninaaEngS
import Derived.Test.YtilfdpllleninaaEngT
namespace Go.Proofs.Ytilfdpllleninaa
set_option linter.unusedVariables false
set_option linter.unusedSimpArgs false
open Ieee

theorem zcut_le {s : Bool} {m h e : Nat} {p : Int} (h1 : m ≤ 2 ^ h) (h2 : (h : Int) + p ≤ e) : Toward.zero.cut s (m <<< p.toNat) (-p).toNat ≤ 2 ^ e := by
  unfold Toward.cut
  simp only [Bool.toNat_false, Nat.add_zero, Nat.shiftLeft_eq, Nat.one_mul]
  have hpe : 0 < 2 ^ e := Nat.pow_pos (by decide)
  rcases Int.le_total 0 p with hp | hp
  · rw [show (-p).toNat = 0 from by omega, Nat.zero_min, Nat.pow_zero, Nat.div_one]
    refine Nat.le_trans (Nat.mul_le_mul_right _ h1) ?_
    rw [← Nat.pow_add]
    exact Nat.pow_le_pow_right (by decide) (by omega)
  · rw [show p.toNat = 0 from by omega, Nat.pow_zero, Nat.mul_one]
    rcases Nat.le_total (-p).toNat (m.log2 + 2) with hd | hd
    · rw [Nat.min_eq_left hd]
      refine Nat.div_le_of_le_mul ?_
      rw [← Nat.pow_add]
      exact Nat.le_trans h1 (Nat.pow_le_pow_right (by decide) (by omega))
    · rw [Nat.min_eq_right hd]
      have : m < 2 ^ (m.log2 + 2) := Nat.lt_of_lt_of_le Nat.lt_log2_self (Nat.pow_le_pow_right (by decide) (by omega))
      rw [Nat.div_eq_of_lt this]
      omega

/-- The whole part as a float, and by way of an integer. -/
theorem trunc_same {x e : Nat} (he : e ≤ 1023) (hs : Sm .f64 e x) : fadd .f64 (ftrunc x) 0 = fofInt .f64 (ftoInt .f64 x) := by
  obtain ⟨s, m, p, hd, hm⟩ := amp_number (read_amp (k := .f64) he hs)
  have hd' : FloatKind.f64.decode x = .number s m p := hd
  generalize hM : Toward.zero.cut s (m <<< p.toNat) (-p).toNat = M
  have ht : ftrunc x = canon .f64 (FloatKind.f64.format.nearest s M 0) := by
    unfold ftrunc ftoward
    rw [hd']
    simp only [Datum.integral, hM]
    rfl
  have hi : ftoInt .f64 x = signed s M 0 := by
    unfold ftoInt Datum.toInt
    rw [hd']
    simp only [Datum.integral, hM, Option.getD_some]
  have hof : fofInt .f64 (signed s M 0) = canon .f64 (FloatKind.f64.format.nearest (decide (signed s M 0 < 0)) (signed s M 0).natAbs 0) := rfl
  rw [ht, hi, hof, signed_abs, Nat.pow_zero, Nat.mul_one]
  by_cases hz : M = 0
  · subst hz
    have h0 : signed s 0 0 = 0 := by cases s <;> simp [signed]
    have hn : ∀ b, FloatKind.f64.format.nearest b 0 0 = FloatKind.f64.format.word b 0 := fun b => by simp [Format.nearest]
    rw [h0, hn, hn]
    cases s <;> decide +kernel
  · have hle : M ≤ 2 ^ e := by
      rcases hm with rfl | ⟨h, h1, h2⟩
      · exfalso
        apply hz
        rw [← hM]
        simp [Toward.cut, Nat.shiftLeft_eq]
      · rw [← hM]; exact zcut_le h1 h2
    obtain ⟨n, q, hr, hn⟩ := nearest_ne (k := .f64) (s := s) hz he hle
    rw [signed_neg hz, canon_num hr, fadd_zero nearest_wd hr, if_neg hn]

end Go.Proofs.Ytilfdpllleninaa
