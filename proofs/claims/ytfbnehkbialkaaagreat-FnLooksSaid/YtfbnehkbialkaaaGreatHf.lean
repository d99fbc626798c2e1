/- Half of a number of 64 bits, by a quotient and by a product; what is halved is less (numbers alone). -/
import Derived.Test.YtfbnehkbialkaaaGreatOp2
namespace Go.Proofs.YtfbnehkbialkaaaGreat
open Ieee
set_option linter.unusedVariables false
set_option linter.unusedSimpArgs false

theorem read_two64 : FloatKind.f64.format.read 4611686018427387904 = .number false (2 ^ 52) (-51) ∧ FloatKind.f64.format.read 4602678819172646912 = .number false (2 ^ 52) (-53) := by decide +kernel

theorem half_same64 {x : Nat} (hx : isNum .f64 x = true) : fdiv .f64 x 4611686018427387904 = fmul .f64 4602678819172646912 x := by
  obtain ⟨s, a, p, hx⟩ := isNum_iff.1 hx
  have hl := mag_lt hx
  have ha : a.log2 ≤ 52 := by
    by_cases h : a = 0
    · subst h
      decide
    · have := (Nat.log2_lt h).2 hl
      have e : fbits .f64 + 1 = 53 := rfl
      omega
  unfold fdiv fmul Format.div Format.mul
  rw [hx, read_two64.1, read_two64.2]
  have hdg : FloatKind.f64.format.fractionBits = 52 := rfl
  have hc : (2 ^ 52 : Nat).log2 = 52 := by decide +kernel
  have hq : (Datum.number s a p).quotient (FloatKind.f64.format.fractionBits + 2) (.number false (2 ^ 52) (-51)) = some (.number s (a * 2 ^ (55 - a.log2)) (p + 50 - (106 - a.log2 : Nat))) := by
    unfold Datum.quotient
    simp only
    rw [if_neg (by decide), hdg, hc]
    have e1 : 52 + 2 + 52 - a.log2 = (54 - a.log2) + 52 := by omega
    rw [e1, Nat.shiftLeft_eq, Nat.pow_add, ← Nat.mul_assoc, Nat.mul_div_cancel _ (by decide), Nat.mul_mod_left, Bool.xor_false]
    have e3 : 55 - a.log2 = (54 - a.log2) + 1 := by omega
    have e4 : 2 * (a * 2 ^ (54 - a.log2)) + ((0 != 0 : Bool)).toNat = a * 2 ^ (55 - a.log2) := by
      rw [e3, Nat.pow_succ]
      generalize 2 ^ (54 - a.log2) = w
      show 2 * (a * w) + 0 = a * (w * 2)
      rw [Nat.add_zero, Nat.mul_comm 2, Nat.mul_assoc]
    rw [e4]
    congr 2
    omega
  rw [hq]
  show canon .f64 (FloatKind.f64.format.nearest s (a * 2 ^ (55 - a.log2)) (p + 50 - (106 - a.log2 : Nat))) = canon .f64 (FloatKind.f64.format.nearest (false ^^ s) (2 ^ 52 * a) (-53 + p))
  rw [Bool.false_xor, Nat.mul_comm (2 ^ 52) a, nearest_scale, nearest_scale]
  have e6 : p + 50 - ((106 - a.log2 : Nat) : Int) + ((55 - a.log2 : Nat) : Int) = -53 + p + ((52 : Nat) : Int) := by omega
  rw [e6]

end Go.Proofs.YtfbnehkbialkaaaGreat
