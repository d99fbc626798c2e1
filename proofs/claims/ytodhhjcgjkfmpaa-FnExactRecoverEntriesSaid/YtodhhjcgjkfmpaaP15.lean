/- Plain law, part 15: entries are loaded from bytes: the program's and the reference's. -/
import Derived.Test.YtodhhjcgjkfmpaaP14
namespace Go.Proofs.Ytodhhjcgjkfmpaa
set_option linter.unusedVariables false
set_option linter.unusedSimpArgs false

/-- The number whose bytes stand from a place on. -/
def sumAt (s : List UInt8) (q : Nat) : Nat := (s.getD q 0).toNat + 256 * (s.getD (q + 1) 0).toNat + 65536 * (s.getD (q + 2) 0).toNat + 16777216 * (s.getD (q + 3) 0).toNat
def wordAt (s : List UInt8) (q : Nat) : Nat := canon .f32 (sumAt s q)
def entryAt (s : List UInt8) (n : Nat) : Entry := ⟨(s.take (5 + n)).drop 5, wordAt s (5 + n), ⟨wordAt s (5 + n + 4), wordAt s (5 + n + 8), wordAt s (5 + n + 12), wordAt s (5 + n + 16), wordAt s (5 + n + 20), wordAt s (5 + n + 24)⟩⟩

theorem sumAt_lt (s : List UInt8) (q : Nat) : sumAt s q < 2 ^ 32 := by
  have h0 := (s.getD q 0).toNat_lt
  have h1 := (s.getD (q + 1) 0).toNat_lt
  have h2 := (s.getD (q + 2) 0).toNat_lt
  have h3 := (s.getD (q + 3) 0).toNat_lt
  unfold sumAt
  omega

theorem wordAt_lt (s : List UInt8) (q : Nat) : wordAt s q < 2 ^ 32 := by
  have := canon_wd (k := .f32) (b := sumAt s q) (by
    have := sumAt_lt s q
    show _ < 2 * FloatKind.f32.format.signWeight
    have h : FloatKind.f32.format.signWeight = 2 ^ 31 := by decide
    omega)
  have h : FloatKind.f32.format.signWeight = 2 ^ 31 := by decide
  have h2 : wordAt s q < 2 * FloatKind.f32.format.signWeight := this
  omega

theorem entryAt_words (s : List UInt8) (n : Nat) : wordsE (entryAt s n) := ⟨wordAt_lt s _, wordAt_lt s _, wordAt_lt s _, wordAt_lt s _, wordAt_lt s _, wordAt_lt s _, wordAt_lt s _⟩
theorem entryAt_name (s : List UInt8) (n : Nat) : (entryAt s n).Name.length ≤ n := by
  show ((s.take (5 + n)).drop 5).length ≤ n
  rw [List.length_drop, List.length_take]
  omega

/-! ## Bytes put together -/

theorem u32_wrap (n : Int) : IntKind.wrap .u32 n = n % 4294967296 := rfl
theorem u32_byte (b : UInt8) : IntKind.wrap .u32 (b.toNat : Int) = (b.toNat : Int) := by
  have := b.toNat_lt
  rw [u32_wrap]; omega
theorem u32_up (b : UInt8) (k : Nat) (hk : k ≤ 24) : IntKind.wrap .u32 ((b.toNat : Int) * 2 ^ (min (Int.toNat (k : Int)) (IntKind.bits .u32))) = ((2 ^ k * b.toNat : Nat) : Int) := by
  have := b.toNat_lt
  have e : min (Int.toNat (k : Int)) (IntKind.bits .u32) = k := by
    show min (Int.toNat (k : Int)) 32 = k
    rw [Int.toNat_natCast]; omega
  rw [e, u32_wrap]
  have h1 : (2 : Int) ^ k = ((2 ^ k : Nat) : Int) := by norm_cast
  have h2 : 2 ^ k ≤ 2 ^ 24 := Nat.pow_le_pow_right (by decide) hk
  have h3 : 2 ^ k * b.toNat ≤ 2 ^ 24 * 255 := Nat.mul_le_mul h2 (by omega)
  rw [h1, Int.mul_comm]
  have h4 : ((2 ^ k : Nat) : Int) * (b.toNat : Int) = ((2 ^ k * b.toNat : Nat) : Int) := by norm_cast
  rw [h4]
  generalize 2 ^ k * b.toNat = z at h3
  omega
theorem u32_or (a b k : Nat) (ha : a < 2 ^ k) (hs : a + 2 ^ k * b < 2 ^ 32) : IntKind.wrap .u32 ((BitVec.ofInt (IntKind.bits .u32) ((a : Nat) : Int) ||| BitVec.ofInt (IntKind.bits .u32) ((2 ^ k * b : Nat) : Int)).toNat : Int) = ((a + 2 ^ k * b : Nat) : Int) := by
  have h1 : ∀ n : Nat, n < 2 ^ 32 → (BitVec.ofInt 32 (n : Int)).toNat = n := by
    intro n hn
    rw [BitVec.toNat_ofInt]
    omega
  have h2 : (BitVec.ofInt (IntKind.bits .u32) ((a : Nat) : Int) ||| BitVec.ofInt (IntKind.bits .u32) ((2 ^ k * b : Nat) : Int)).toNat = a + 2 ^ k * b := by
    show (BitVec.ofInt 32 ((a : Nat) : Int) ||| BitVec.ofInt 32 ((2 ^ k * b : Nat) : Int)).toNat = _
    rw [BitVec.toNat_or, h1 a (by omega), h1 _ (by omega)]
    have h3 := Nat.shiftLeft_add_eq_or_of_lt ha b
    rw [Nat.or_comm]
    rw [Nat.shiftLeft_eq, Nat.mul_comm] at h3
    omega
  rw [h2, u32_wrap]
  omega

theorem or_word (b0 b1 b2 b3 : UInt8) : IntKind.wrap .u32 (BitVec.ofInt (IntKind.bits .u32) (IntKind.wrap .u32 (BitVec.ofInt (IntKind.bits .u32) (IntKind.wrap .u32 (BitVec.ofInt (IntKind.bits .u32) (IntKind.wrap .u32 (b0.toNat : Int)) ||| BitVec.ofInt (IntKind.bits .u32) (IntKind.wrap .u32 (IntKind.wrap .u32 (b1.toNat : Int) * 2 ^ (min (Int.toNat 8) (IntKind.bits .u32))))).toNat) ||| BitVec.ofInt (IntKind.bits .u32) (IntKind.wrap .u32 (IntKind.wrap .u32 (b2.toNat : Int) * 2 ^ (min (Int.toNat 16) (IntKind.bits .u32))))).toNat) ||| BitVec.ofInt (IntKind.bits .u32) (IntKind.wrap .u32 (IntKind.wrap .u32 (b3.toNat : Int) * 2 ^ (min (Int.toNat 24) (IntKind.bits .u32))))).toNat = ((b0.toNat + 256 * b1.toNat + 65536 * b2.toNat + 16777216 * b3.toNat : Nat) : Int) := by
  have h0 := b0.toNat_lt
  have h1 := b1.toNat_lt
  have h2 := b2.toNat_lt
  have h3 := b3.toNat_lt
  rw [u32_byte, u32_byte, u32_byte, u32_byte]
  have e1 := u32_up b1 8 (by decide)
  have e2 := u32_up b2 16 (by decide)
  have e3 := u32_up b3 24 (by decide)
  have q1 : ((8 : Nat) : Int) = 8 := rfl
  have q2 : ((16 : Nat) : Int) = 16 := rfl
  have q3 : ((24 : Nat) : Int) = 24 := rfl
  rw [q1] at e1
  rw [q2] at e2
  rw [q3] at e3
  rw [e1, e2, e3, u32_or _ _ 8 (by omega) (by omega), u32_or _ _ 16 (by omega) (by omega), u32_or _ _ 24 (by omega) (by omega)]
theorem ld_c5 (n L : Nat) (h : n < 256) (hl : 35 + n ≤ L) : IntKind.wrap .i64 (5 + ((n : Nat) : Int)) = ((5 + n : Nat) : Int) := by rw [wrap_small (by omega) (by omega)]; omega
theorem ld_c35 (n L : Nat) (h : n < 256) (hl : 35 + n ≤ L) : IntKind.wrap .i64 (35 + ((n : Nat) : Int)) = ((35 + n : Nat) : Int) := by rw [wrap_small (by omega) (by omega)]; omega
theorem ld_c0_0 (n L : Nat) (h : n < 256) (hl : 35 + n ≤ L) : IntKind.wrap .i64 (((5 + n : Nat) : Int) + 0) = ((5 + n : Nat) : Int) := by rw [wrap_small (by omega) (by omega)]; omega
theorem ld_c0_1 (n L : Nat) (h : n < 256) (hl : 35 + n ≤ L) : IntKind.wrap .i64 (((5 + n : Nat) : Int) + 1) = ((5 + n + 1 : Nat) : Int) := by rw [wrap_small (by omega) (by omega)]; omega
theorem ld_c0_2 (n L : Nat) (h : n < 256) (hl : 35 + n ≤ L) : IntKind.wrap .i64 (((5 + n : Nat) : Int) + 2) = ((5 + n + 2 : Nat) : Int) := by rw [wrap_small (by omega) (by omega)]; omega
theorem ld_c0_3 (n L : Nat) (h : n < 256) (hl : 35 + n ≤ L) : IntKind.wrap .i64 (((5 + n : Nat) : Int) + 3) = ((5 + n + 3 : Nat) : Int) := by rw [wrap_small (by omega) (by omega)]; omega
theorem ld_r0_0 (n L : Nat) (h : n < 256) (hl : 35 + n ≤ L) : decide (((5 + n : Nat) : Int) < ((L : Nat) : Int)) = true := decide_eq_true (by omega)
theorem ld_r0_1 (n L : Nat) (h : n < 256) (hl : 35 + n ≤ L) : decide (((5 + n + 1 : Nat) : Int) < ((L : Nat) : Int)) = true := decide_eq_true (by omega)
theorem ld_r0_2 (n L : Nat) (h : n < 256) (hl : 35 + n ≤ L) : decide (((5 + n + 2 : Nat) : Int) < ((L : Nat) : Int)) = true := decide_eq_true (by omega)
theorem ld_r0_3 (n L : Nat) (h : n < 256) (hl : 35 + n ≤ L) : decide (((5 + n + 3 : Nat) : Int) < ((L : Nat) : Int)) = true := decide_eq_true (by omega)
theorem ld_c4_0 (n L : Nat) (h : n < 256) (hl : 35 + n ≤ L) : IntKind.wrap .i64 (((5 + n : Nat) : Int) + 4) = ((5 + n + 4 : Nat) : Int) := by rw [wrap_small (by omega) (by omega)]; omega
theorem ld_c4_1 (n L : Nat) (h : n < 256) (hl : 35 + n ≤ L) : IntKind.wrap .i64 (((5 + n + 4 : Nat) : Int) + 1) = ((5 + n + 4 + 1 : Nat) : Int) := by rw [wrap_small (by omega) (by omega)]; omega
theorem ld_c4_2 (n L : Nat) (h : n < 256) (hl : 35 + n ≤ L) : IntKind.wrap .i64 (((5 + n + 4 : Nat) : Int) + 2) = ((5 + n + 4 + 2 : Nat) : Int) := by rw [wrap_small (by omega) (by omega)]; omega
theorem ld_c4_3 (n L : Nat) (h : n < 256) (hl : 35 + n ≤ L) : IntKind.wrap .i64 (((5 + n + 4 : Nat) : Int) + 3) = ((5 + n + 4 + 3 : Nat) : Int) := by rw [wrap_small (by omega) (by omega)]; omega
theorem ld_r4_0 (n L : Nat) (h : n < 256) (hl : 35 + n ≤ L) : decide (((5 + n + 4 : Nat) : Int) < ((L : Nat) : Int)) = true := decide_eq_true (by omega)
theorem ld_r4_1 (n L : Nat) (h : n < 256) (hl : 35 + n ≤ L) : decide (((5 + n + 4 + 1 : Nat) : Int) < ((L : Nat) : Int)) = true := decide_eq_true (by omega)
theorem ld_r4_2 (n L : Nat) (h : n < 256) (hl : 35 + n ≤ L) : decide (((5 + n + 4 + 2 : Nat) : Int) < ((L : Nat) : Int)) = true := decide_eq_true (by omega)
theorem ld_r4_3 (n L : Nat) (h : n < 256) (hl : 35 + n ≤ L) : decide (((5 + n + 4 + 3 : Nat) : Int) < ((L : Nat) : Int)) = true := decide_eq_true (by omega)
theorem ld_c8_0 (n L : Nat) (h : n < 256) (hl : 35 + n ≤ L) : IntKind.wrap .i64 (((5 + n : Nat) : Int) + 8) = ((5 + n + 8 : Nat) : Int) := by rw [wrap_small (by omega) (by omega)]; omega
theorem ld_c8_1 (n L : Nat) (h : n < 256) (hl : 35 + n ≤ L) : IntKind.wrap .i64 (((5 + n + 8 : Nat) : Int) + 1) = ((5 + n + 8 + 1 : Nat) : Int) := by rw [wrap_small (by omega) (by omega)]; omega
theorem ld_c8_2 (n L : Nat) (h : n < 256) (hl : 35 + n ≤ L) : IntKind.wrap .i64 (((5 + n + 8 : Nat) : Int) + 2) = ((5 + n + 8 + 2 : Nat) : Int) := by rw [wrap_small (by omega) (by omega)]; omega
theorem ld_c8_3 (n L : Nat) (h : n < 256) (hl : 35 + n ≤ L) : IntKind.wrap .i64 (((5 + n + 8 : Nat) : Int) + 3) = ((5 + n + 8 + 3 : Nat) : Int) := by rw [wrap_small (by omega) (by omega)]; omega
theorem ld_r8_0 (n L : Nat) (h : n < 256) (hl : 35 + n ≤ L) : decide (((5 + n + 8 : Nat) : Int) < ((L : Nat) : Int)) = true := decide_eq_true (by omega)
theorem ld_r8_1 (n L : Nat) (h : n < 256) (hl : 35 + n ≤ L) : decide (((5 + n + 8 + 1 : Nat) : Int) < ((L : Nat) : Int)) = true := decide_eq_true (by omega)
theorem ld_r8_2 (n L : Nat) (h : n < 256) (hl : 35 + n ≤ L) : decide (((5 + n + 8 + 2 : Nat) : Int) < ((L : Nat) : Int)) = true := decide_eq_true (by omega)
theorem ld_r8_3 (n L : Nat) (h : n < 256) (hl : 35 + n ≤ L) : decide (((5 + n + 8 + 3 : Nat) : Int) < ((L : Nat) : Int)) = true := decide_eq_true (by omega)
theorem ld_c12_0 (n L : Nat) (h : n < 256) (hl : 35 + n ≤ L) : IntKind.wrap .i64 (((5 + n : Nat) : Int) + 12) = ((5 + n + 12 : Nat) : Int) := by rw [wrap_small (by omega) (by omega)]; omega
theorem ld_c12_1 (n L : Nat) (h : n < 256) (hl : 35 + n ≤ L) : IntKind.wrap .i64 (((5 + n + 12 : Nat) : Int) + 1) = ((5 + n + 12 + 1 : Nat) : Int) := by rw [wrap_small (by omega) (by omega)]; omega
theorem ld_c12_2 (n L : Nat) (h : n < 256) (hl : 35 + n ≤ L) : IntKind.wrap .i64 (((5 + n + 12 : Nat) : Int) + 2) = ((5 + n + 12 + 2 : Nat) : Int) := by rw [wrap_small (by omega) (by omega)]; omega
theorem ld_c12_3 (n L : Nat) (h : n < 256) (hl : 35 + n ≤ L) : IntKind.wrap .i64 (((5 + n + 12 : Nat) : Int) + 3) = ((5 + n + 12 + 3 : Nat) : Int) := by rw [wrap_small (by omega) (by omega)]; omega
theorem ld_r12_0 (n L : Nat) (h : n < 256) (hl : 35 + n ≤ L) : decide (((5 + n + 12 : Nat) : Int) < ((L : Nat) : Int)) = true := decide_eq_true (by omega)
theorem ld_r12_1 (n L : Nat) (h : n < 256) (hl : 35 + n ≤ L) : decide (((5 + n + 12 + 1 : Nat) : Int) < ((L : Nat) : Int)) = true := decide_eq_true (by omega)
theorem ld_r12_2 (n L : Nat) (h : n < 256) (hl : 35 + n ≤ L) : decide (((5 + n + 12 + 2 : Nat) : Int) < ((L : Nat) : Int)) = true := decide_eq_true (by omega)
theorem ld_r12_3 (n L : Nat) (h : n < 256) (hl : 35 + n ≤ L) : decide (((5 + n + 12 + 3 : Nat) : Int) < ((L : Nat) : Int)) = true := decide_eq_true (by omega)
theorem ld_c16_0 (n L : Nat) (h : n < 256) (hl : 35 + n ≤ L) : IntKind.wrap .i64 (((5 + n : Nat) : Int) + 16) = ((5 + n + 16 : Nat) : Int) := by rw [wrap_small (by omega) (by omega)]; omega
theorem ld_c16_1 (n L : Nat) (h : n < 256) (hl : 35 + n ≤ L) : IntKind.wrap .i64 (((5 + n + 16 : Nat) : Int) + 1) = ((5 + n + 16 + 1 : Nat) : Int) := by rw [wrap_small (by omega) (by omega)]; omega
theorem ld_c16_2 (n L : Nat) (h : n < 256) (hl : 35 + n ≤ L) : IntKind.wrap .i64 (((5 + n + 16 : Nat) : Int) + 2) = ((5 + n + 16 + 2 : Nat) : Int) := by rw [wrap_small (by omega) (by omega)]; omega
theorem ld_c16_3 (n L : Nat) (h : n < 256) (hl : 35 + n ≤ L) : IntKind.wrap .i64 (((5 + n + 16 : Nat) : Int) + 3) = ((5 + n + 16 + 3 : Nat) : Int) := by rw [wrap_small (by omega) (by omega)]; omega
theorem ld_r16_0 (n L : Nat) (h : n < 256) (hl : 35 + n ≤ L) : decide (((5 + n + 16 : Nat) : Int) < ((L : Nat) : Int)) = true := decide_eq_true (by omega)
theorem ld_r16_1 (n L : Nat) (h : n < 256) (hl : 35 + n ≤ L) : decide (((5 + n + 16 + 1 : Nat) : Int) < ((L : Nat) : Int)) = true := decide_eq_true (by omega)
theorem ld_r16_2 (n L : Nat) (h : n < 256) (hl : 35 + n ≤ L) : decide (((5 + n + 16 + 2 : Nat) : Int) < ((L : Nat) : Int)) = true := decide_eq_true (by omega)
theorem ld_r16_3 (n L : Nat) (h : n < 256) (hl : 35 + n ≤ L) : decide (((5 + n + 16 + 3 : Nat) : Int) < ((L : Nat) : Int)) = true := decide_eq_true (by omega)
theorem ld_c20_0 (n L : Nat) (h : n < 256) (hl : 35 + n ≤ L) : IntKind.wrap .i64 (((5 + n : Nat) : Int) + 20) = ((5 + n + 20 : Nat) : Int) := by rw [wrap_small (by omega) (by omega)]; omega
theorem ld_c20_1 (n L : Nat) (h : n < 256) (hl : 35 + n ≤ L) : IntKind.wrap .i64 (((5 + n + 20 : Nat) : Int) + 1) = ((5 + n + 20 + 1 : Nat) : Int) := by rw [wrap_small (by omega) (by omega)]; omega
theorem ld_c20_2 (n L : Nat) (h : n < 256) (hl : 35 + n ≤ L) : IntKind.wrap .i64 (((5 + n + 20 : Nat) : Int) + 2) = ((5 + n + 20 + 2 : Nat) : Int) := by rw [wrap_small (by omega) (by omega)]; omega
theorem ld_c20_3 (n L : Nat) (h : n < 256) (hl : 35 + n ≤ L) : IntKind.wrap .i64 (((5 + n + 20 : Nat) : Int) + 3) = ((5 + n + 20 + 3 : Nat) : Int) := by rw [wrap_small (by omega) (by omega)]; omega
theorem ld_r20_0 (n L : Nat) (h : n < 256) (hl : 35 + n ≤ L) : decide (((5 + n + 20 : Nat) : Int) < ((L : Nat) : Int)) = true := decide_eq_true (by omega)
theorem ld_r20_1 (n L : Nat) (h : n < 256) (hl : 35 + n ≤ L) : decide (((5 + n + 20 + 1 : Nat) : Int) < ((L : Nat) : Int)) = true := decide_eq_true (by omega)
theorem ld_r20_2 (n L : Nat) (h : n < 256) (hl : 35 + n ≤ L) : decide (((5 + n + 20 + 2 : Nat) : Int) < ((L : Nat) : Int)) = true := decide_eq_true (by omega)
theorem ld_r20_3 (n L : Nat) (h : n < 256) (hl : 35 + n ≤ L) : decide (((5 + n + 20 + 3 : Nat) : Int) < ((L : Nat) : Int)) = true := decide_eq_true (by omega)
theorem ld_c24_0 (n L : Nat) (h : n < 256) (hl : 35 + n ≤ L) : IntKind.wrap .i64 (((5 + n : Nat) : Int) + 24) = ((5 + n + 24 : Nat) : Int) := by rw [wrap_small (by omega) (by omega)]; omega
theorem ld_c24_1 (n L : Nat) (h : n < 256) (hl : 35 + n ≤ L) : IntKind.wrap .i64 (((5 + n + 24 : Nat) : Int) + 1) = ((5 + n + 24 + 1 : Nat) : Int) := by rw [wrap_small (by omega) (by omega)]; omega
theorem ld_c24_2 (n L : Nat) (h : n < 256) (hl : 35 + n ≤ L) : IntKind.wrap .i64 (((5 + n + 24 : Nat) : Int) + 2) = ((5 + n + 24 + 2 : Nat) : Int) := by rw [wrap_small (by omega) (by omega)]; omega
theorem ld_c24_3 (n L : Nat) (h : n < 256) (hl : 35 + n ≤ L) : IntKind.wrap .i64 (((5 + n + 24 : Nat) : Int) + 3) = ((5 + n + 24 + 3 : Nat) : Int) := by rw [wrap_small (by omega) (by omega)]; omega
theorem ld_r24_0 (n L : Nat) (h : n < 256) (hl : 35 + n ≤ L) : decide (((5 + n + 24 : Nat) : Int) < ((L : Nat) : Int)) = true := decide_eq_true (by omega)
theorem ld_r24_1 (n L : Nat) (h : n < 256) (hl : 35 + n ≤ L) : decide (((5 + n + 24 + 1 : Nat) : Int) < ((L : Nat) : Int)) = true := decide_eq_true (by omega)
theorem ld_r24_2 (n L : Nat) (h : n < 256) (hl : 35 + n ≤ L) : decide (((5 + n + 24 + 2 : Nat) : Int) < ((L : Nat) : Int)) = true := decide_eq_true (by omega)
theorem ld_r24_3 (n L : Nat) (h : n < 256) (hl : 35 + n ≤ L) : decide (((5 + n + 24 + 3 : Nat) : Int) < ((L : Nat) : Int)) = true := decide_eq_true (by omega)

theorem word_fold (s : List UInt8) (q : Nat) : canon .f32 ((s.getD q 0).toNat + 256 * (s.getD (q + 1) 0).toNat + 65536 * (s.getD (q + 2) 0).toNat + 16777216 * (s.getD (q + 3) 0).toNat) = wordAt s q := rfl
theorem ent_fold (s : List UInt8) (n : Nat) : (⟨(s.take (5 + n)).drop 5, wordAt s (5 + n), ⟨wordAt s (5 + n + 4), wordAt s (5 + n + 8), wordAt s (5 + n + 12), wordAt s (5 + n + 16), wordAt s (5 + n + 20), wordAt s (5 + n + 24)⟩⟩ : Entry) = entryAt s n := rfl
theorem orb_need (a b c d e f : Nat) : impl_orbitFrom_need [a, b, c, d, e, f] = true := rfl
theorem orb_val (a b c d e f : Nat) : impl_orbitFrom [a, b, c, d, e, f] = ⟨a, b, c, d, e, f⟩ := rfl

def noE : Entry := ⟨[], 0, ⟨0, 0, 0, 0, 0, 0⟩⟩
def told (c d : Bool) (e : Entry) (m : Int) : Entry × Int × Bool := match c with
  | false => (noE, 0, false)
  | true => match d with
    | true => (e, m, true)
    | false => (noE, 0, false)

theorem load_impl (s : List UInt8) (n : Nat) (hn : (s.getD 4 0).toNat = n) (hn2 : n < 256) (hl : 35 + n ≤ s.length) (hs : s.length ≤ 2 ^ 40) : (impl_loadFirst_tree s).get = some (told (spec_l07Entry (entryAt s n)) (spec_l07Store (entryAt s n) == s.take (35 + n)) (entryAt s n) ((35 + n : Nat) : Int)) := by
  have hb : IntKind.wrap .i64 ((n : Nat) : Int) = ((n : Nat) : Int) := wrap_small (by omega) (by omega)
  have d5 : decide (((s.length : Nat) : Int) < 5) = false := decide_eq_false (by omega)
  have d35 : decide (((s.length : Nat) : Int) < ((35 + n : Nat) : Int)) = false := decide_eq_false (by omega)
  have i4 : decide ((4 : Int) < ((s.length : Nat) : Int)) = true := decide_eq_true (by omega)
  have j5 : decide (((5 + n : Nat) : Int) ≤ ((s.length : Nat) : Int)) = true := decide_eq_true (by omega)
  have j35 : decide (((35 + n : Nat) : Int) ≤ ((s.length : Nat) : Int)) = true := decide_eq_true (by omega)
  have k5 : decide ((5 : Int) ≤ ((5 + n : Nat) : Int)) = true := decide_eq_true (by omega)
  have hname := entryAt_name s n
  obtain ⟨v1, v2, v3⟩ := entry_same (entryAt s n) (by omega)
  obtain ⟨t1, t2, t3⟩ := store_same (entryAt s n) (entryAt_words s n) (by omega)

  unfold impl_loadFirst_tree
  simp only [DT.get, hn, hb, d5, i4, d35, j5, k5, j35, Int.toNat_natCast, nat_ge, Bool.and_self, Nat.zero_le, decide_true, or_word, word_fold, List.nil_append, List.cons_append, List.length_cons, List.length_nil, List.getD_cons_zero, List.getD_cons_succ, List.drop_succ_cons, List.drop_zero, List.take_succ_cons, List.take_zero, Nat.zero_add, Nat.zero_lt_succ, Nat.add_one_sub_one, orb_need, orb_val, ent_fold, v1, v3, t1, t3, ld_c5 n s.length hn2 hl, ld_c35 n s.length hn2 hl, ld_c0_0 n s.length hn2 hl, ld_c0_1 n s.length hn2 hl, ld_c0_2 n s.length hn2 hl, ld_c0_3 n s.length hn2 hl, ld_r0_0 n s.length hn2 hl, ld_r0_1 n s.length hn2 hl, ld_r0_2 n s.length hn2 hl, ld_r0_3 n s.length hn2 hl, ld_c4_0 n s.length hn2 hl, ld_c4_1 n s.length hn2 hl, ld_c4_2 n s.length hn2 hl, ld_c4_3 n s.length hn2 hl, ld_r4_0 n s.length hn2 hl, ld_r4_1 n s.length hn2 hl, ld_r4_2 n s.length hn2 hl, ld_r4_3 n s.length hn2 hl, ld_c8_0 n s.length hn2 hl, ld_c8_1 n s.length hn2 hl, ld_c8_2 n s.length hn2 hl, ld_c8_3 n s.length hn2 hl, ld_r8_0 n s.length hn2 hl, ld_r8_1 n s.length hn2 hl, ld_r8_2 n s.length hn2 hl, ld_r8_3 n s.length hn2 hl, ld_c12_0 n s.length hn2 hl, ld_c12_1 n s.length hn2 hl, ld_c12_2 n s.length hn2 hl, ld_c12_3 n s.length hn2 hl, ld_r12_0 n s.length hn2 hl, ld_r12_1 n s.length hn2 hl, ld_r12_2 n s.length hn2 hl, ld_r12_3 n s.length hn2 hl, ld_c16_0 n s.length hn2 hl, ld_c16_1 n s.length hn2 hl, ld_c16_2 n s.length hn2 hl, ld_c16_3 n s.length hn2 hl, ld_r16_0 n s.length hn2 hl, ld_r16_1 n s.length hn2 hl, ld_r16_2 n s.length hn2 hl, ld_r16_3 n s.length hn2 hl, ld_c20_0 n s.length hn2 hl, ld_c20_1 n s.length hn2 hl, ld_c20_2 n s.length hn2 hl, ld_c20_3 n s.length hn2 hl, ld_r20_0 n s.length hn2 hl, ld_r20_1 n s.length hn2 hl, ld_r20_2 n s.length hn2 hl, ld_r20_3 n s.length hn2 hl, ld_c24_0 n s.length hn2 hl, ld_c24_1 n s.length hn2 hl, ld_c24_2 n s.length hn2 hl, ld_c24_3 n s.length hn2 hl, ld_r24_0 n s.length hn2 hl, ld_r24_1 n s.length hn2 hl, ld_r24_2 n s.length hn2 hl, ld_r24_3 n s.length hn2 hl]
  generalize spec_l07Entry (entryAt s n) = c
  generalize (spec_l07Store (entryAt s n) == List.take (35 + n) s) = d
  cases c <;> cases d <;> rfl

/-! ## The reference's -/

theorem getD_drop {α : Type} (l : List α) (m j : Nat) (d : α) : (l.drop m).getD j d = l.getD (m + j) d := by
  rw [List.getD_eq_getElem?_getD, List.getD_eq_getElem?_getD, List.getElem?_drop]

theorem size_eq (s : List UInt8) (hs : s.length ≤ 2 ^ 40) : spec_l07Size_need s = true ∧ spec_l07Size s = match decide (s.length < 5) || decide (s.length < 35 + (s.getD 4 0).toNat) with
    | true => 0
    | false => ((35 + (s.getD 4 0).toNat : Nat) : Int) := by
  have hb := (s.getD 4 0).toNat_lt
  have w1 : IntKind.wrap .i64 ((s.getD 4 0).toNat : Int) = ((s.getD 4 0).toNat : Int) := wrap_small (by omega) (by omega)
  have w2 : IntKind.wrap .i64 (35 + ((s.getD 4 0).toNat : Int)) = ((35 + (s.getD 4 0).toNat : Nat) : Int) := by rw [wrap_small (by omega) (by omega)]; omega
  unfold spec_l07Size_need spec_l07Size spec_l07Size_tree
  rcases Nat.lt_or_ge s.length 5 with h5 | h5
  · have e1 : decide (((s.length : Nat) : Int) < 5) = true := decide_eq_true (by omega)
    have e2 : decide (s.length < 5) = true := decide_eq_true h5
    simp only [DT.ok, DT.val, e1, e2, Bool.true_or]
    exact ⟨trivial, trivial⟩
  · have e1 : decide (((s.length : Nat) : Int) < 5) = false := decide_eq_false (by omega)
    have e2 : decide (s.length < 5) = false := decide_eq_false (by omega)
    have e3 : (decide (0 ≤ 4) && decide ((4 : Int) < ((s.length : Nat) : Int))) = true := by rw [decide_eq_true (p := (4 : Int) < ((s.length : Nat) : Int)) (by omega)]; rfl
    rcases Nat.lt_or_ge s.length (35 + (s.getD 4 0).toNat) with h | h
    · have e4 : decide (((35 + (s.getD 4 0).toNat : Nat) : Int) > ((s.length : Nat) : Int)) = true := decide_eq_true (by omega)
      have e5 : decide (s.length < 35 + (s.getD 4 0).toNat) = true := decide_eq_true h
      simp only [DT.ok, DT.val, e1, e2, e3, w1, w2, e4, e5, Bool.false_or]
      exact ⟨trivial, trivial⟩
    · have e4 : decide (((35 + (s.getD 4 0).toNat : Nat) : Int) > ((s.length : Nat) : Int)) = false := decide_eq_false (by omega)
      have e5 : decide (s.length < 35 + (s.getD 4 0).toNat) = false := decide_eq_false (by omega)
      simp only [DT.ok, DT.val, e1, e2, e3, w1, w2, e4, e5, Bool.false_or]
      exact ⟨trivial, trivial⟩

theorem ls_m (n L : Nat) (h : n < 256) (hl : L = 35 + n) : IntKind.wrap .i64 (((35 + n : Nat) : Int) - 30) = ((5 + n : Nat) : Int) := by rw [wrap_small (by omega) (by omega)]; omega
theorem ls_c0_0 (n L : Nat) (h : n < 256) (hl : L = 35 + n) : IntKind.wrap .i64 (((5 + n : Nat) : Int) + 0) = ((5 + n : Nat) : Int) := by rw [wrap_small (by omega) (by omega)]; omega
theorem ls_l0 (n L : Nat) (h : n < 256) (hl : L = 35 + n) : decide (((5 + n : Nat) : Int) ≤ ((L : Nat) : Int)) = true := decide_eq_true (by omega)
theorem ls_r0_0 (n L : Nat) (h : n < 256) (hl : L = 35 + n) : decide ((0 : Int) < ((L - (5 + n) : Nat) : Int)) = true := decide_eq_true (by omega)
theorem ls_r0_1 (n L : Nat) (h : n < 256) (hl : L = 35 + n) : decide ((1 : Int) < ((L - (5 + n) : Nat) : Int)) = true := decide_eq_true (by omega)
theorem ls_r0_2 (n L : Nat) (h : n < 256) (hl : L = 35 + n) : decide ((2 : Int) < ((L - (5 + n) : Nat) : Int)) = true := decide_eq_true (by omega)
theorem ls_r0_3 (n L : Nat) (h : n < 256) (hl : L = 35 + n) : decide ((3 : Int) < ((L - (5 + n) : Nat) : Int)) = true := decide_eq_true (by omega)
theorem ls_c4_0 (n L : Nat) (h : n < 256) (hl : L = 35 + n) : IntKind.wrap .i64 (((5 + n : Nat) : Int) + 4) = ((5 + n + 4 : Nat) : Int) := by rw [wrap_small (by omega) (by omega)]; omega
theorem ls_l4 (n L : Nat) (h : n < 256) (hl : L = 35 + n) : decide (((5 + n + 4 : Nat) : Int) ≤ ((L : Nat) : Int)) = true := decide_eq_true (by omega)
theorem ls_r4_0 (n L : Nat) (h : n < 256) (hl : L = 35 + n) : decide ((0 : Int) < ((L - (5 + n + 4) : Nat) : Int)) = true := decide_eq_true (by omega)
theorem ls_r4_1 (n L : Nat) (h : n < 256) (hl : L = 35 + n) : decide ((1 : Int) < ((L - (5 + n + 4) : Nat) : Int)) = true := decide_eq_true (by omega)
theorem ls_r4_2 (n L : Nat) (h : n < 256) (hl : L = 35 + n) : decide ((2 : Int) < ((L - (5 + n + 4) : Nat) : Int)) = true := decide_eq_true (by omega)
theorem ls_r4_3 (n L : Nat) (h : n < 256) (hl : L = 35 + n) : decide ((3 : Int) < ((L - (5 + n + 4) : Nat) : Int)) = true := decide_eq_true (by omega)
theorem ls_c8_0 (n L : Nat) (h : n < 256) (hl : L = 35 + n) : IntKind.wrap .i64 (((5 + n : Nat) : Int) + 8) = ((5 + n + 8 : Nat) : Int) := by rw [wrap_small (by omega) (by omega)]; omega
theorem ls_l8 (n L : Nat) (h : n < 256) (hl : L = 35 + n) : decide (((5 + n + 8 : Nat) : Int) ≤ ((L : Nat) : Int)) = true := decide_eq_true (by omega)
theorem ls_r8_0 (n L : Nat) (h : n < 256) (hl : L = 35 + n) : decide ((0 : Int) < ((L - (5 + n + 8) : Nat) : Int)) = true := decide_eq_true (by omega)
theorem ls_r8_1 (n L : Nat) (h : n < 256) (hl : L = 35 + n) : decide ((1 : Int) < ((L - (5 + n + 8) : Nat) : Int)) = true := decide_eq_true (by omega)
theorem ls_r8_2 (n L : Nat) (h : n < 256) (hl : L = 35 + n) : decide ((2 : Int) < ((L - (5 + n + 8) : Nat) : Int)) = true := decide_eq_true (by omega)
theorem ls_r8_3 (n L : Nat) (h : n < 256) (hl : L = 35 + n) : decide ((3 : Int) < ((L - (5 + n + 8) : Nat) : Int)) = true := decide_eq_true (by omega)
theorem ls_c12_0 (n L : Nat) (h : n < 256) (hl : L = 35 + n) : IntKind.wrap .i64 (((5 + n : Nat) : Int) + 12) = ((5 + n + 12 : Nat) : Int) := by rw [wrap_small (by omega) (by omega)]; omega
theorem ls_l12 (n L : Nat) (h : n < 256) (hl : L = 35 + n) : decide (((5 + n + 12 : Nat) : Int) ≤ ((L : Nat) : Int)) = true := decide_eq_true (by omega)
theorem ls_r12_0 (n L : Nat) (h : n < 256) (hl : L = 35 + n) : decide ((0 : Int) < ((L - (5 + n + 12) : Nat) : Int)) = true := decide_eq_true (by omega)
theorem ls_r12_1 (n L : Nat) (h : n < 256) (hl : L = 35 + n) : decide ((1 : Int) < ((L - (5 + n + 12) : Nat) : Int)) = true := decide_eq_true (by omega)
theorem ls_r12_2 (n L : Nat) (h : n < 256) (hl : L = 35 + n) : decide ((2 : Int) < ((L - (5 + n + 12) : Nat) : Int)) = true := decide_eq_true (by omega)
theorem ls_r12_3 (n L : Nat) (h : n < 256) (hl : L = 35 + n) : decide ((3 : Int) < ((L - (5 + n + 12) : Nat) : Int)) = true := decide_eq_true (by omega)
theorem ls_c16_0 (n L : Nat) (h : n < 256) (hl : L = 35 + n) : IntKind.wrap .i64 (((5 + n : Nat) : Int) + 16) = ((5 + n + 16 : Nat) : Int) := by rw [wrap_small (by omega) (by omega)]; omega
theorem ls_l16 (n L : Nat) (h : n < 256) (hl : L = 35 + n) : decide (((5 + n + 16 : Nat) : Int) ≤ ((L : Nat) : Int)) = true := decide_eq_true (by omega)
theorem ls_r16_0 (n L : Nat) (h : n < 256) (hl : L = 35 + n) : decide ((0 : Int) < ((L - (5 + n + 16) : Nat) : Int)) = true := decide_eq_true (by omega)
theorem ls_r16_1 (n L : Nat) (h : n < 256) (hl : L = 35 + n) : decide ((1 : Int) < ((L - (5 + n + 16) : Nat) : Int)) = true := decide_eq_true (by omega)
theorem ls_r16_2 (n L : Nat) (h : n < 256) (hl : L = 35 + n) : decide ((2 : Int) < ((L - (5 + n + 16) : Nat) : Int)) = true := decide_eq_true (by omega)
theorem ls_r16_3 (n L : Nat) (h : n < 256) (hl : L = 35 + n) : decide ((3 : Int) < ((L - (5 + n + 16) : Nat) : Int)) = true := decide_eq_true (by omega)
theorem ls_c20_0 (n L : Nat) (h : n < 256) (hl : L = 35 + n) : IntKind.wrap .i64 (((5 + n : Nat) : Int) + 20) = ((5 + n + 20 : Nat) : Int) := by rw [wrap_small (by omega) (by omega)]; omega
theorem ls_l20 (n L : Nat) (h : n < 256) (hl : L = 35 + n) : decide (((5 + n + 20 : Nat) : Int) ≤ ((L : Nat) : Int)) = true := decide_eq_true (by omega)
theorem ls_r20_0 (n L : Nat) (h : n < 256) (hl : L = 35 + n) : decide ((0 : Int) < ((L - (5 + n + 20) : Nat) : Int)) = true := decide_eq_true (by omega)
theorem ls_r20_1 (n L : Nat) (h : n < 256) (hl : L = 35 + n) : decide ((1 : Int) < ((L - (5 + n + 20) : Nat) : Int)) = true := decide_eq_true (by omega)
theorem ls_r20_2 (n L : Nat) (h : n < 256) (hl : L = 35 + n) : decide ((2 : Int) < ((L - (5 + n + 20) : Nat) : Int)) = true := decide_eq_true (by omega)
theorem ls_r20_3 (n L : Nat) (h : n < 256) (hl : L = 35 + n) : decide ((3 : Int) < ((L - (5 + n + 20) : Nat) : Int)) = true := decide_eq_true (by omega)
theorem ls_c24_0 (n L : Nat) (h : n < 256) (hl : L = 35 + n) : IntKind.wrap .i64 (((5 + n : Nat) : Int) + 24) = ((5 + n + 24 : Nat) : Int) := by rw [wrap_small (by omega) (by omega)]; omega
theorem ls_l24 (n L : Nat) (h : n < 256) (hl : L = 35 + n) : decide (((5 + n + 24 : Nat) : Int) ≤ ((L : Nat) : Int)) = true := decide_eq_true (by omega)
theorem ls_r24_0 (n L : Nat) (h : n < 256) (hl : L = 35 + n) : decide ((0 : Int) < ((L - (5 + n + 24) : Nat) : Int)) = true := decide_eq_true (by omega)
theorem ls_r24_1 (n L : Nat) (h : n < 256) (hl : L = 35 + n) : decide ((1 : Int) < ((L - (5 + n + 24) : Nat) : Int)) = true := decide_eq_true (by omega)
theorem ls_r24_2 (n L : Nat) (h : n < 256) (hl : L = 35 + n) : decide ((2 : Int) < ((L - (5 + n + 24) : Nat) : Int)) = true := decide_eq_true (by omega)
theorem ls_r24_3 (n L : Nat) (h : n < 256) (hl : L = 35 + n) : decide ((3 : Int) < ((L - (5 + n + 24) : Nat) : Int)) = true := decide_eq_true (by omega)

theorem byte_wrap (b : UInt8) : IntKind.wrap .i64 (b.toNat : Int) = (b.toNat : Int) := by
  have := b.toNat_lt
  exact wrap_small (by omega) (by omega)

theorem sum_word (b0 b1 b2 b3 : UInt8) : spec_l01From (IntKind.wrap .i64 (IntKind.wrap .i64 (IntKind.wrap .i64 ((b0.toNat : Int) + IntKind.wrap .i64 (256 * (b1.toNat : Int))) + IntKind.wrap .i64 (65536 * (b2.toNat : Int))) + IntKind.wrap .i64 (16777216 * (b3.toNat : Int)))) = canon .f32 (b0.toNat + 256 * b1.toNat + 65536 * b2.toNat + 16777216 * b3.toNat) := by
  have h0 := b0.toNat_lt
  have h1 := b1.toNat_lt
  have h2 := b2.toNat_lt
  have h3 := b3.toNat_lt
  rw [wrap_small (n := 256 * (b1.toNat : Int)) (by omega) (by omega), wrap_small (n := 65536 * (b2.toNat : Int)) (by omega) (by omega), wrap_small (n := 16777216 * (b3.toNat : Int)) (by omega) (by omega),
    wrap_small (n := (b0.toNat : Int) + 256 * (b1.toNat : Int)) (by omega) (by omega), wrap_small (n := (b0.toNat : Int) + 256 * (b1.toNat : Int) + 65536 * (b2.toNat : Int)) (by omega) (by omega),
    wrap_small (n := (b0.toNat : Int) + 256 * (b1.toNat : Int) + 65536 * (b2.toNat : Int) + 16777216 * (b3.toNat : Int)) (by omega) (by omega)]
  show canon .f32 (Int.toNat (IntKind.wrap .u32 _)) = _
  rw [u32_wrap]
  congr 1
  omega

def told2 (c d : Bool) (e : Entry) : Entry × Bool := match c with
  | false => (noE, false)
  | true => match d with
    | true => (e, true)
    | false => (noE, false)

theorem load_spec (s : List UInt8) (n : Nat) (hn : (s.getD 4 0).toNat = n) (hn2 : n < 256) (hl : s.length = 35 + n) : (spec_l07Load_tree s).get = some (told2 (spec_l07Entry (entryAt s n)) (spec_l07Store (entryAt s n) == s) (entryAt s n)) := by
  obtain ⟨z1, z2⟩ := size_eq s (by omega)
  have z3 : spec_l07Size s = ((35 + n : Nat) : Int) := by
    rw [z2, hn]
    rw [decide_eq_false (p := s.length < 5) (by omega), decide_eq_false (p := s.length < 35 + n) (by omega)]
    rfl
  have z4 : (((35 + n : Nat) : Int) == 0) = false := by
    rw [beq_eq_false_iff_ne]; omega
  have z5 : (((35 + n : Nat) : Int) != ((s.length : Nat) : Int)) = false := by rw [hl]; simp
  have j5 : decide (((5 + n : Nat) : Int) ≤ ((s.length : Nat) : Int)) = true := decide_eq_true (by omega)
  have k5 : decide ((5 : Int) ≤ ((5 + n : Nat) : Int)) = true := decide_eq_true (by omega)
  have hname := entryAt_name s n
  obtain ⟨v1, v2, v3⟩ := entry_same (entryAt s n) (by omega)
  obtain ⟨t1, t2, t3⟩ := store_same (entryAt s n) (entryAt_words s n) (by omega)
  have aq : ∀ a b : Nat, 5 + n + a + b = 5 + n + a + b := fun _ _ => rfl
  unfold spec_l07Load_tree
  simp only [DT.get, z1, z3, z4, z5, j5, k5, Int.toNat_natCast, nat_ge, Bool.and_self, Bool.true_and, Nat.zero_le, decide_true, List.take_length, List.length_drop, getD_drop, byte_wrap, sum_word, Nat.add_zero, word_fold, List.nil_append, List.cons_append, List.length_cons, List.length_nil, List.getD_cons_zero, List.getD_cons_succ, Nat.zero_add, Nat.zero_lt_succ, ent_fold, v2, t2, ls_m n s.length hn2 hl, ls_c0_0 n s.length hn2 hl, ls_l0 n s.length hn2 hl, ls_r0_0 n s.length hn2 hl, ls_r0_1 n s.length hn2 hl, ls_r0_2 n s.length hn2 hl, ls_r0_3 n s.length hn2 hl, ls_c4_0 n s.length hn2 hl, ls_l4 n s.length hn2 hl, ls_r4_0 n s.length hn2 hl, ls_r4_1 n s.length hn2 hl, ls_r4_2 n s.length hn2 hl, ls_r4_3 n s.length hn2 hl, ls_c8_0 n s.length hn2 hl, ls_l8 n s.length hn2 hl, ls_r8_0 n s.length hn2 hl, ls_r8_1 n s.length hn2 hl, ls_r8_2 n s.length hn2 hl, ls_r8_3 n s.length hn2 hl, ls_c12_0 n s.length hn2 hl, ls_l12 n s.length hn2 hl, ls_r12_0 n s.length hn2 hl, ls_r12_1 n s.length hn2 hl, ls_r12_2 n s.length hn2 hl, ls_r12_3 n s.length hn2 hl, ls_c16_0 n s.length hn2 hl, ls_l16 n s.length hn2 hl, ls_r16_0 n s.length hn2 hl, ls_r16_1 n s.length hn2 hl, ls_r16_2 n s.length hn2 hl, ls_r16_3 n s.length hn2 hl, ls_c20_0 n s.length hn2 hl, ls_l20 n s.length hn2 hl, ls_r20_0 n s.length hn2 hl, ls_r20_1 n s.length hn2 hl, ls_r20_2 n s.length hn2 hl, ls_r20_3 n s.length hn2 hl, ls_c24_0 n s.length hn2 hl, ls_l24 n s.length hn2 hl, ls_r24_0 n s.length hn2 hl, ls_r24_1 n s.length hn2 hl, ls_r24_2 n s.length hn2 hl, ls_r24_3 n s.length hn2 hl]
  generalize spec_l07Entry (entryAt s n) = c
  generalize (spec_l07Store (entryAt s n) == s) = d
  cases c <;> cases d <;> rfl

theorem getD_take {α : Type} (l : List α) (m q : Nat) (d : α) (h : q < m) : (l.take m).getD q d = l.getD q d := by
  rw [List.getD_eq_getElem?_getD, List.getD_eq_getElem?_getD, List.getElem?_take_of_lt h]

theorem wordAt_take (s : List UInt8) (m q : Nat) (h : q + 3 < m) : wordAt (s.take m) q = wordAt s q := by
  unfold wordAt sumAt
  rw [getD_take s m q 0 (by omega), getD_take s m (q + 1) 0 (by omega), getD_take s m (q + 2) 0 (by omega), getD_take s m (q + 3) 0 (by omega)]

theorem entryAt_take (s : List UInt8) (n : Nat) : entryAt (s.take (35 + n)) n = entryAt s n := by
  unfold entryAt
  rw [wordAt_take s _ _ (by omega), wordAt_take s _ _ (by omega), wordAt_take s _ _ (by omega), wordAt_take s _ _ (by omega), wordAt_take s _ _ (by omega), wordAt_take s _ _ (by omega), wordAt_take s _ _ (by omega), List.take_take, Nat.min_eq_left (by omega)]

theorem load_take (s : List UInt8) (n : Nat) (hn : (s.getD 4 0).toNat = n) (hn2 : n < 256) (hl : 35 + n ≤ s.length) : spec_l07Load_need (s.take (35 + n)) = true ∧ spec_l07Load (s.take (35 + n)) = told2 (spec_l07Entry (entryAt s n)) (spec_l07Store (entryAt s n) == s.take (35 + n)) (entryAt s n) := by
  have h := load_spec (s.take (35 + n)) n (by rw [getD_take s _ 4 0 (by omega)]; exact hn) hn2 (by rw [List.length_take]; omega)
  rw [entryAt_take] at h
  exact DT.of_get h

theorem load_first (s : List UInt8) (hs : s.length ≤ 2 ^ 40) : impl_loadFirst_need s = true ∧ impl_loadFirst s = match decide (s.length < 5) || decide (s.length < 35 + (s.getD 4 0).toNat) with
    | true => (noE, 0, false)
    | false => told (spec_l07Entry (entryAt s (s.getD 4 0).toNat)) (spec_l07Store (entryAt s (s.getD 4 0).toNat) == s.take (35 + (s.getD 4 0).toNat)) (entryAt s (s.getD 4 0).toNat) ((35 + (s.getD 4 0).toNat : Nat) : Int) := by
  have hb := (s.getD 4 0).toNat_lt
  have w1 : IntKind.wrap .i64 ((s.getD 4 0).toNat : Int) = ((s.getD 4 0).toNat : Int) := wrap_small (by omega) (by omega)
  have w2 : IntKind.wrap .i64 (35 + ((s.getD 4 0).toNat : Int)) = ((35 + (s.getD 4 0).toNat : Nat) : Int) := by rw [wrap_small (by omega) (by omega)]; omega
  have key : (impl_loadFirst_tree s).get = some (match decide (s.length < 5) || decide (s.length < 35 + (s.getD 4 0).toNat) with
    | true => (noE, 0, false)
    | false => told (spec_l07Entry (entryAt s (s.getD 4 0).toNat)) (spec_l07Store (entryAt s (s.getD 4 0).toNat) == s.take (35 + (s.getD 4 0).toNat)) (entryAt s (s.getD 4 0).toNat) ((35 + (s.getD 4 0).toNat : Nat) : Int)) := by
    rcases Nat.lt_or_ge s.length 5 with h5 | h5
    · rw [decide_eq_true (p := s.length < 5) h5]
      unfold impl_loadFirst_tree
      exact DT.get_yes (decide_eq_true (by omega))
    · rw [decide_eq_false (p := s.length < 5) (by omega)]
      rcases Nat.lt_or_ge s.length (35 + (s.getD 4 0).toNat) with h | h
      · rw [decide_eq_true (p := s.length < 35 + (s.getD 4 0).toNat) h]
        unfold impl_loadFirst_tree
        refine (DT.get_no (decide_eq_false (by omega))).trans ((DT.get_need (by rw [decide_eq_true (p := (4 : Int) < ((s.length : Nat) : Int)) (by omega)]; rfl)).trans ?_)
        exact DT.get_yes (by rw [w1, w2]; exact decide_eq_true (by omega))
      · rw [decide_eq_false (p := s.length < 35 + (s.getD 4 0).toNat) (by omega)]
        exact load_impl s _ rfl (by omega) h hs
  exact DT.of_get key

/-! ## Recovery -/

theorem fst_one {α β : Type} (c : Bool) (a : α) (f g : β) : (DT.need c (.leaf (a, f))).get.map Prod.fst = (DT.need c (.leaf (a, g))).get.map Prod.fst := by cases c <;> rfl
theorem fst_nest {α β : Type} (c1 c2 c3 c4 : Bool) (a b : α) (h f g : β) : (DT.need c1 (.need c2 (.ask c3 (.leaf (a, h)) (.need c4 (.leaf (b, f)))))).get.map Prod.fst = (DT.need c1 (.need c2 (.ask c3 (.leaf (a, h)) (.need c4 (.leaf (b, g)))))).get.map Prod.fst := by cases c1 <;> cases c2 <;> cases c3 <;> cases c4 <;> rfl

theorem recover_round (p : List UInt8) (hp : p.length ≤ 2 ^ 40) (s : Int × List Entry) : (impl_RecoverEntries_loop0_step p s).get.map Prod.fst = (spec_RecoverEntries_loop0_step p s).get.map Prod.fst := by
  unfold impl_RecoverEntries_loop0_step spec_RecoverEntries_loop0_step
  cases h1 : decide (((s.2.length : Nat) : Int) < 16) with
  | false => rw [DT.get_no h1, DT.get_no h1]
  | true =>
    rw [DT.get_yes h1, DT.get_yes h1]
    cases h2 : (decide (0 ≤ s.1) && decide (s.1 ≤ (((p.length) : Nat) : Int))) with
    | false => simp only [DT.get, h2]
    | true =>
      rw [DT.get_need (c := true) rfl, DT.get_need (c := true) rfl]
      rw [Bool.and_eq_true, decide_eq_true_eq, decide_eq_true_eq] at h2
      obtain ⟨k, l⟩ := s
      simp only at h1 h2
      obtain ⟨i, rfl⟩ : ∃ i : Nat, k = (i : Int) := ⟨k.toNat, by omega⟩
      simp only [List.take_length, Int.toNat_natCast]
      obtain ⟨q, hq⟩ : ∃ q, q = p.drop i := ⟨_, rfl⟩
      have hql : q.length = p.length - i := by rw [hq, List.length_drop]
      rw [← hq]
      obtain ⟨f1, f2⟩ := load_first q (by omega)
      obtain ⟨z1, z2⟩ := size_eq q (by omega)
      rw [DT.get_need f1, DT.get_need z1]
      cases hc : (decide (q.length < 5) || decide (q.length < 35 + (q.getD 4 0).toNat)) with
      | true =>
        rw [hc] at f2 z2
        simp only at f2 z2
        rw [f2, z2]
        rfl
      | false =>
        rw [hc] at f2 z2
        simp only at f2 z2
        rw [Bool.or_eq_false_iff, decide_eq_false_iff_not, decide_eq_false_iff_not] at hc
        have hb := (q.getD 4 0).toNat_lt
        obtain ⟨n, hn⟩ : ∃ n, (q.getD 4 0).toNat = n := ⟨_, rfl⟩
        rw [hn] at f2 z2 hc hb
        obtain ⟨t1, t2⟩ := load_take q n hn (by omega) (by omega)
        have e0 : (((35 + n : Nat) : Int) == 0) = false := by rw [beq_eq_false_iff_ne]; omega
        have e1 : IntKind.wrap .i64 ((i : Int) + ((35 + n : Nat) : Int)) = ((i + (35 + n) : Nat) : Int) := by rw [wrap_small (by omega) (by omega)]; omega
        have e2 : (decide (0 ≤ ((i + (35 + n) : Nat) : Int)) && decide (((i + (35 + n) : Nat) : Int) ≤ ((p.length : Nat) : Int))) = true := by
          rw [decide_eq_true (p := (0 : Int) ≤ _) (by omega), decide_eq_true (by omega)]; rfl
        have e3 : (decide ((0 : Int) ≤ (i : Int)) && decide ((i : Int) ≤ ((i + (35 + n) : Nat) : Int))) = true := by
          rw [decide_eq_true (p := (0 : Int) ≤ (i : Int)) (by omega), decide_eq_true (by omega)]; rfl
        have e4 : (p.take (i + (35 + n))).drop i = q.take (35 + n) := by
          rw [hq, List.drop_take]
          congr 1
          omega
        rw [z2, DT.get_no e0]
        simp only [e1]
        rw [DT.get_need e2]
        simp only [Int.toNat_natCast, e4]
        rw [DT.get_need e3, DT.get_need t1, f2, t2]
        generalize spec_l07Entry (entryAt q n) = c
        generalize (spec_l07Store (entryAt q n) == q.take (35 + n)) = d
        generalize entryAt q n = e
        cases c with
        | false => rfl
        | true => cases d with
          | false => rfl
          | true =>
            simp only [told, told2, e1]
            rw [DT.get_no (c := !true) rfl, DT.get_no (c := !true) rfl]
            cases h5 : decide (((l.length : Nat) : Int) > 0) with
            | false =>
              rw [DT.get_no (c := false) rfl, DT.get_no (c := false) rfl]
              exact fst_one _ _ _ _
            | true =>
              rw [DT.get_yes (c := true) rfl, DT.get_yes (c := true) rfl]
              exact fst_nest _ _ _ _ _ _ _ _ _

theorem first_cases (q : List UInt8) (hs : q.length ≤ 2 ^ 40) : impl_loadFirst q = (noE, 0, false) ∨ ∃ e, ∃ n : Nat, impl_loadFirst q = (e, ((35 + n : Nat) : Int), true) ∧ 35 + n ≤ q.length := by
  obtain ⟨_, f2⟩ := load_first q hs
  cases hc : (decide (q.length < 5) || decide (q.length < 35 + (q.getD 4 0).toNat)) with
  | true => rw [hc] at f2; exact .inl f2
  | false =>
    rw [hc] at f2
    rw [Bool.or_eq_false_iff, decide_eq_false_iff_not, decide_eq_false_iff_not] at hc
    rw [f2]
    cases spec_l07Entry (entryAt q (q.getD 4 0).toNat) with
    | false => exact .inl rfl
    | true => cases (spec_l07Store (entryAt q (q.getD 4 0).toNat) == q.take (35 + (q.getD 4 0).toNat)) with
      | false => exact .inl rfl
      | true => exact .inr ⟨_, (q.getD 4 0).toNat, rfl, by omega⟩

theorem recover_loop (p : List UInt8) (hp : p.length ≤ 2 ^ 40) : impl_RecoverEntries_loop0_ends p (0, []) = true ∧ (impl_RecoverEntries_loop0 p (0, [])).2.length ≤ 16 := by
  refine loop_post (step := impl_RecoverEntries_loop0_step p) (fun s => 0 ≤ s.1 ∧ s.1 ≤ (p.length : Int) ∧ s.2.length ≤ 16) (fun s => 16 - s.2.length) (fun r => r.2.length ≤ 16) ?_ (0, []) ⟨by decide, by show (0 : Int) ≤ _; omega, by decide⟩
  rintro ⟨k, l⟩ ⟨h0, h1, h2⟩
  simp only at h0 h1 h2
  obtain ⟨i, rfl⟩ : ∃ i : Nat, k = (i : Int) := ⟨k.toNat, by omega⟩
  unfold impl_RecoverEntries_loop0_step
  rcases Nat.lt_or_ge l.length 16 with hlt | hge
  · have e1 : decide (((l.length : Nat) : Int) < 16) = true := decide_eq_true (by omega)
    have e2 : (decide (0 ≤ (i : Int)) && decide ((i : Int) ≤ (((p.length) : Nat) : Int))) = true := by
      rw [decide_eq_true (p := (0 : Int) ≤ (i : Int)) (by omega), decide_eq_true (by omega)]; rfl
    have hq : ((p.take p.length).drop (Int.toNat (i : Int))) = p.drop i := by rw [List.take_length, Int.toNat_natCast]
    have hql : (p.drop i).length = p.length - i := List.length_drop
    obtain ⟨f1, _⟩ := load_first (p.drop i) (by omega)
    rw [DT.get_yes e1, DT.get_need e2, hq, DT.get_need f1]
    rcases first_cases (p.drop i) (by omega) with hf | ⟨e, n, hf, hn⟩
    · rw [hf]
      exact ⟨.inr ((i : Int), l), [0], rfl, h2⟩
    · rw [hf, DT.get_no (c := !true) rfl]
      have ew : IntKind.wrap .i64 ((i : Int) + ((35 + n : Nat) : Int)) = ((i + (35 + n) : Nat) : Int) := by rw [wrap_small (by omega) (by omega)]; omega
      have en : ∀ x : Entry, (decide ((l.length + [x].length) * 48 ≤ 140737488355328) && decide (l.length + [x].length ≤ 9223372036854775807)) = true := by
        intro x
        show (decide ((l.length + 1) * 48 ≤ 140737488355328) && decide (l.length + 1 ≤ 9223372036854775807)) = true
        rw [decide_eq_true (by omega), decide_eq_true (by omega)]; rfl
      have hin : ∀ x : Entry, (0 : Int) ≤ ((i + (35 + n) : Nat) : Int) ∧ ((i + (35 + n) : Nat) : Int) ≤ (p.length : Int) ∧ (l ++ [x]).length ≤ 16 := by
        intro x
        refine ⟨by omega, by omega, ?_⟩
        rw [List.length_append]
        show l.length + 1 ≤ 16
        omega
      have hm : ∀ x : Entry, 16 - (l ++ [x]).length < 16 - l.length := by
        intro x
        rw [List.length_append]
        show 16 - (l.length + 1) < _
        omega
      rcases Nat.eq_zero_or_pos l.length with h5 | h5
      · have e5 : decide (((l.length : Nat) : Int) > 0) = false := decide_eq_false (by omega)
        rw [DT.get_no e5, DT.get_need (en _)]
        simp only [ew]
        exact ⟨_, _, rfl, hin _, hm _⟩
      · have e5 : decide (((l.length : Nat) : Int) > 0) = true := decide_eq_true (by omega)
        have e6 : IntKind.wrap .i64 (((l.length : Nat) : Int) - 1) = ((l.length - 1 : Nat) : Int) := by rw [wrap_small (by omega) (by omega)]; omega
        have e7 : (decide (0 ≤ ((l.length - 1 : Nat) : Int)) && decide (((l.length - 1 : Nat) : Int) < ((l.length : Nat) : Int))) = true := nat_in (by omega)
        have e8 : decide (l.length - 1 < l.length) = true := decide_eq_true (by omega)
        rw [DT.get_yes e5]
        simp only [e6]
        rw [DT.get_need e7]
        simp only [Int.toNat_natCast]
        rw [DT.get_need e8]
        cases (!Op.bytesLess (l.getD (l.length - 1) default).Name e.Name) with
        | true => exact ⟨.inr ((i : Int), l), [0], rfl, h2⟩
        | false =>
          rw [DT.get_no (c := false) rfl, DT.get_need (en _)]
          simp only [ew]
          exact ⟨_, _, rfl, hin _, hm _⟩
  · have e1 : decide (((l.length : Nat) : Int) < 16) = false := decide_eq_false (by omega)
    rw [DT.get_no e1]
    exact ⟨_, _, rfl, h2⟩

theorem recover_same (p : List UInt8) (hp : p.length ≤ 2 ^ 40) : impl_RecoverEntries_need p = true ∧ spec_RecoverEntries_need p = true ∧ impl_RecoverEntries p = spec_RecoverEntries p ∧ (spec_RecoverEntries p).1.length ≤ 16 := by
  obtain ⟨h1, h2⟩ := recover_loop p hp
  obtain ⟨a1, a2⟩ := loop_alike (recover_round p hp)
  have h3 : spec_RecoverEntries_loop0_ends p (0, []) = true := (a2 (0, [])).symm.trans h1
  have h4 : impl_RecoverEntries_loop0 p (0, []) = spec_RecoverEntries_loop0 p (0, []) := a1 (0, [])
  have hi : impl_RecoverEntries p = ((impl_RecoverEntries_loop0 p (0, [])).2, (impl_RecoverEntries_loop0 p (0, [])).1, true) := rfl
  have hs : spec_RecoverEntries p = ((spec_RecoverEntries_loop0 p (0, [])).2, (spec_RecoverEntries_loop0 p (0, [])).1, true) := rfl
  refine ⟨?_, ?_, ?_, ?_⟩
  · unfold impl_RecoverEntries_need impl_RecoverEntries_tree
    simp only [DT.ok, h1]
  · unfold spec_RecoverEntries_need spec_RecoverEntries_tree
    simp only [DT.ok, h3]
  · rw [hi, hs, h4]
  · rw [hs, ← h4]
    exact h2

end Go.Proofs.Ytodhhjcgjkfmpaa
