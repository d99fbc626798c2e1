/- The law of catalogs, part 3: entries are loaded from bytes. -/
import Derived.Test.YtnmeiodaeaabfaaK2
namespace Go.Proofs.Ytnmeiodaeaabfaa
set_option linter.unusedVariables false
set_option linter.unusedSimpArgs false

/-- The number whose bytes stand from a place on. -/
def sumAt (s : List UInt8) (q : Nat) : Nat := (s.getD q 0).toNat + 256 * (s.getD (q + 1) 0).toNat + 65536 * (s.getD (q + 2) 0).toNat + 16777216 * (s.getD (q + 3) 0).toNat
def wordAt (s : List UInt8) (q : Nat) : Nat := canon .f32 (sumAt s q)
def entryAt (s : List UInt8) (n : Nat) : Entry := ⟨(s.take (5 + n)).drop 5, wordAt s (5 + n), ⟨wordAt s (5 + n + 4), wordAt s (5 + n + 8), wordAt s (5 + n + 12), wordAt s (5 + n + 16), wordAt s (5 + n + 20), wordAt s (5 + n + 24)⟩⟩

theorem sumAt_lt (s : List UInt8) (q : Nat) : sumAt s q < 2 ^ 32 := by
  have h0 := (s.getD q 0).toNat_lt
  have h1 := (s.getD (q + 1) 0).toNat_lt
  have h2 := (s.getD (q + 2) 0).toNat_lt
  have h3 := (s.getD (q + 3) 0).toNat_lt
  unfold sumAt
  omega

theorem wordAt_lt (s : List UInt8) (q : Nat) : wordAt s q < 2 ^ 32 := by
  have := canon_wd (k := .f32) (b := sumAt s q) (by
    have := sumAt_lt s q
    show _ < 2 * FloatKind.f32.format.signWeight
    have h : FloatKind.f32.format.signWeight = 2 ^ 31 := by decide
    omega)
  have h : FloatKind.f32.format.signWeight = 2 ^ 31 := by decide
  have h2 : wordAt s q < 2 * FloatKind.f32.format.signWeight := this
  omega

theorem entryAt_words (s : List UInt8) (n : Nat) : wordsE (entryAt s n) := ⟨wordAt_lt s _, wordAt_lt s _, wordAt_lt s _, wordAt_lt s _, wordAt_lt s _, wordAt_lt s _, wordAt_lt s _⟩
theorem entryAt_name (s : List UInt8) (n : Nat) : (entryAt s n).Name.length ≤ n := by
  show ((s.take (5 + n)).drop 5).length ≤ n
  rw [List.length_drop, List.length_take]
  omega

/-! ## Bytes put together -/

theorem u32_wrap (n : Int) : IntKind.wrap .u32 n = n % 4294967296 := rfl
theorem u32_byte (b : UInt8) : IntKind.wrap .u32 (b.toNat : Int) = (b.toNat : Int) := by
  have := b.toNat_lt
  rw [u32_wrap]; omega
theorem u32_up (b : UInt8) (k : Nat) (hk : k ≤ 24) : IntKind.wrap .u32 ((b.toNat : Int) * 2 ^ (min (Int.toNat (k : Int)) (IntKind.bits .u32))) = ((2 ^ k * b.toNat : Nat) : Int) := by
  have := b.toNat_lt
  have e : min (Int.toNat (k : Int)) (IntKind.bits .u32) = k := by
    show min (Int.toNat (k : Int)) 32 = k
    rw [Int.toNat_natCast]; omega
  rw [e, u32_wrap]
  have h1 : (2 : Int) ^ k = ((2 ^ k : Nat) : Int) := by norm_cast
  have h2 : 2 ^ k ≤ 2 ^ 24 := Nat.pow_le_pow_right (by decide) hk
  have h3 : 2 ^ k * b.toNat ≤ 2 ^ 24 * 255 := Nat.mul_le_mul h2 (by omega)
  rw [h1, Int.mul_comm]
  have h4 : ((2 ^ k : Nat) : Int) * (b.toNat : Int) = ((2 ^ k * b.toNat : Nat) : Int) := by norm_cast
  rw [h4]
  generalize 2 ^ k * b.toNat = z at h3
  omega
theorem u32_or (a b k : Nat) (ha : a < 2 ^ k) (hs : a + 2 ^ k * b < 2 ^ 32) : IntKind.wrap .u32 ((BitVec.ofInt (IntKind.bits .u32) ((a : Nat) : Int) ||| BitVec.ofInt (IntKind.bits .u32) ((2 ^ k * b : Nat) : Int)).toNat : Int) = ((a + 2 ^ k * b : Nat) : Int) := by
  have h1 : ∀ n : Nat, n < 2 ^ 32 → (BitVec.ofInt 32 (n : Int)).toNat = n := by
    intro n hn
    rw [BitVec.toNat_ofInt]
    omega
  have h2 : (BitVec.ofInt (IntKind.bits .u32) ((a : Nat) : Int) ||| BitVec.ofInt (IntKind.bits .u32) ((2 ^ k * b : Nat) : Int)).toNat = a + 2 ^ k * b := by
    show (BitVec.ofInt 32 ((a : Nat) : Int) ||| BitVec.ofInt 32 ((2 ^ k * b : Nat) : Int)).toNat = _
    rw [BitVec.toNat_or, h1 a (by omega), h1 _ (by omega)]
    have h3 := Nat.shiftLeft_add_eq_or_of_lt ha b
    rw [Nat.or_comm]
    rw [Nat.shiftLeft_eq, Nat.mul_comm] at h3
    omega
  rw [h2, u32_wrap]
  omega

theorem or_word (b0 b1 b2 b3 : UInt8) : IntKind.wrap .u32 (BitVec.ofInt (IntKind.bits .u32) (IntKind.wrap .u32 (BitVec.ofInt (IntKind.bits .u32) (IntKind.wrap .u32 (BitVec.ofInt (IntKind.bits .u32) (IntKind.wrap .u32 (b0.toNat : Int)) ||| BitVec.ofInt (IntKind.bits .u32) (IntKind.wrap .u32 (IntKind.wrap .u32 (b1.toNat : Int) * 2 ^ (min (Int.toNat 8) (IntKind.bits .u32))))).toNat) ||| BitVec.ofInt (IntKind.bits .u32) (IntKind.wrap .u32 (IntKind.wrap .u32 (b2.toNat : Int) * 2 ^ (min (Int.toNat 16) (IntKind.bits .u32))))).toNat) ||| BitVec.ofInt (IntKind.bits .u32) (IntKind.wrap .u32 (IntKind.wrap .u32 (b3.toNat : Int) * 2 ^ (min (Int.toNat 24) (IntKind.bits .u32))))).toNat = ((b0.toNat + 256 * b1.toNat + 65536 * b2.toNat + 16777216 * b3.toNat : Nat) : Int) := by
  have h0 := b0.toNat_lt
  have h1 := b1.toNat_lt
  have h2 := b2.toNat_lt
  have h3 := b3.toNat_lt
  rw [u32_byte, u32_byte, u32_byte, u32_byte]
  have e1 := u32_up b1 8 (by decide)
  have e2 := u32_up b2 16 (by decide)
  have e3 := u32_up b3 24 (by decide)
  have q1 : ((8 : Nat) : Int) = 8 := rfl
  have q2 : ((16 : Nat) : Int) = 16 := rfl
  have q3 : ((24 : Nat) : Int) = 24 := rfl
  rw [q1] at e1
  rw [q2] at e2
  rw [q3] at e3
  rw [e1, e2, e3, u32_or _ _ 8 (by omega) (by omega), u32_or _ _ 16 (by omega) (by omega), u32_or _ _ 24 (by omega) (by omega)]
theorem ld_c5 (n L : Nat) (h : n < 256) (hl : 35 + n ≤ L) : IntKind.wrap .i64 (5 + ((n : Nat) : Int)) = ((5 + n : Nat) : Int) := by rw [wrap_small (by omega) (by omega)]; omega
theorem ld_c35 (n L : Nat) (h : n < 256) (hl : 35 + n ≤ L) : IntKind.wrap .i64 (35 + ((n : Nat) : Int)) = ((35 + n : Nat) : Int) := by rw [wrap_small (by omega) (by omega)]; omega
theorem ld_c0_0 (n L : Nat) (h : n < 256) (hl : 35 + n ≤ L) : IntKind.wrap .i64 (((5 + n : Nat) : Int) + 0) = ((5 + n : Nat) : Int) := by rw [wrap_small (by omega) (by omega)]; omega
theorem ld_c0_1 (n L : Nat) (h : n < 256) (hl : 35 + n ≤ L) : IntKind.wrap .i64 (((5 + n : Nat) : Int) + 1) = ((5 + n + 1 : Nat) : Int) := by rw [wrap_small (by omega) (by omega)]; omega
theorem ld_c0_2 (n L : Nat) (h : n < 256) (hl : 35 + n ≤ L) : IntKind.wrap .i64 (((5 + n : Nat) : Int) + 2) = ((5 + n + 2 : Nat) : Int) := by rw [wrap_small (by omega) (by omega)]; omega
theorem ld_c0_3 (n L : Nat) (h : n < 256) (hl : 35 + n ≤ L) : IntKind.wrap .i64 (((5 + n : Nat) : Int) + 3) = ((5 + n + 3 : Nat) : Int) := by rw [wrap_small (by omega) (by omega)]; omega
theorem ld_r0_0 (n L : Nat) (h : n < 256) (hl : 35 + n ≤ L) : decide (((5 + n : Nat) : Int) < ((L : Nat) : Int)) = true := decide_eq_true (by omega)
theorem ld_r0_1 (n L : Nat) (h : n < 256) (hl : 35 + n ≤ L) : decide (((5 + n + 1 : Nat) : Int) < ((L : Nat) : Int)) = true := decide_eq_true (by omega)
theorem ld_r0_2 (n L : Nat) (h : n < 256) (hl : 35 + n ≤ L) : decide (((5 + n + 2 : Nat) : Int) < ((L : Nat) : Int)) = true := decide_eq_true (by omega)
theorem ld_r0_3 (n L : Nat) (h : n < 256) (hl : 35 + n ≤ L) : decide (((5 + n + 3 : Nat) : Int) < ((L : Nat) : Int)) = true := decide_eq_true (by omega)
theorem ld_c4_0 (n L : Nat) (h : n < 256) (hl : 35 + n ≤ L) : IntKind.wrap .i64 (((5 + n : Nat) : Int) + 4) = ((5 + n + 4 : Nat) : Int) := by rw [wrap_small (by omega) (by omega)]; omega
theorem ld_c4_1 (n L : Nat) (h : n < 256) (hl : 35 + n ≤ L) : IntKind.wrap .i64 (((5 + n + 4 : Nat) : Int) + 1) = ((5 + n + 4 + 1 : Nat) : Int) := by rw [wrap_small (by omega) (by omega)]; omega
theorem ld_c4_2 (n L : Nat) (h : n < 256) (hl : 35 + n ≤ L) : IntKind.wrap .i64 (((5 + n + 4 : Nat) : Int) + 2) = ((5 + n + 4 + 2 : Nat) : Int) := by rw [wrap_small (by omega) (by omega)]; omega
theorem ld_c4_3 (n L : Nat) (h : n < 256) (hl : 35 + n ≤ L) : IntKind.wrap .i64 (((5 + n + 4 : Nat) : Int) + 3) = ((5 + n + 4 + 3 : Nat) : Int) := by rw [wrap_small (by omega) (by omega)]; omega
theorem ld_r4_0 (n L : Nat) (h : n < 256) (hl : 35 + n ≤ L) : decide (((5 + n + 4 : Nat) : Int) < ((L : Nat) : Int)) = true := decide_eq_true (by omega)
theorem ld_r4_1 (n L : Nat) (h : n < 256) (hl : 35 + n ≤ L) : decide (((5 + n + 4 + 1 : Nat) : Int) < ((L : Nat) : Int)) = true := decide_eq_true (by omega)
theorem ld_r4_2 (n L : Nat) (h : n < 256) (hl : 35 + n ≤ L) : decide (((5 + n + 4 + 2 : Nat) : Int) < ((L : Nat) : Int)) = true := decide_eq_true (by omega)
theorem ld_r4_3 (n L : Nat) (h : n < 256) (hl : 35 + n ≤ L) : decide (((5 + n + 4 + 3 : Nat) : Int) < ((L : Nat) : Int)) = true := decide_eq_true (by omega)
theorem ld_c8_0 (n L : Nat) (h : n < 256) (hl : 35 + n ≤ L) : IntKind.wrap .i64 (((5 + n : Nat) : Int) + 8) = ((5 + n + 8 : Nat) : Int) := by rw [wrap_small (by omega) (by omega)]; omega
theorem ld_c8_1 (n L : Nat) (h : n < 256) (hl : 35 + n ≤ L) : IntKind.wrap .i64 (((5 + n + 8 : Nat) : Int) + 1) = ((5 + n + 8 + 1 : Nat) : Int) := by rw [wrap_small (by omega) (by omega)]; omega
theorem ld_c8_2 (n L : Nat) (h : n < 256) (hl : 35 + n ≤ L) : IntKind.wrap .i64 (((5 + n + 8 : Nat) : Int) + 2) = ((5 + n + 8 + 2 : Nat) : Int) := by rw [wrap_small (by omega) (by omega)]; omega
theorem ld_c8_3 (n L : Nat) (h : n < 256) (hl : 35 + n ≤ L) : IntKind.wrap .i64 (((5 + n + 8 : Nat) : Int) + 3) = ((5 + n + 8 + 3 : Nat) : Int) := by rw [wrap_small (by omega) (by omega)]; omega
theorem ld_r8_0 (n L : Nat) (h : n < 256) (hl : 35 + n ≤ L) : decide (((5 + n + 8 : Nat) : Int) < ((L : Nat) : Int)) = true := decide_eq_true (by omega)
theorem ld_r8_1 (n L : Nat) (h : n < 256) (hl : 35 + n ≤ L) : decide (((5 + n + 8 + 1 : Nat) : Int) < ((L : Nat) : Int)) = true := decide_eq_true (by omega)
theorem ld_r8_2 (n L : Nat) (h : n < 256) (hl : 35 + n ≤ L) : decide (((5 + n + 8 + 2 : Nat) : Int) < ((L : Nat) : Int)) = true := decide_eq_true (by omega)
theorem ld_r8_3 (n L : Nat) (h : n < 256) (hl : 35 + n ≤ L) : decide (((5 + n + 8 + 3 : Nat) : Int) < ((L : Nat) : Int)) = true := decide_eq_true (by omega)
theorem ld_c12_0 (n L : Nat) (h : n < 256) (hl : 35 + n ≤ L) : IntKind.wrap .i64 (((5 + n : Nat) : Int) + 12) = ((5 + n + 12 : Nat) : Int) := by rw [wrap_small (by omega) (by omega)]; omega
theorem ld_c12_1 (n L : Nat) (h : n < 256) (hl : 35 + n ≤ L) : IntKind.wrap .i64 (((5 + n + 12 : Nat) : Int) + 1) = ((5 + n + 12 + 1 : Nat) : Int) := by rw [wrap_small (by omega) (by omega)]; omega
theorem ld_c12_2 (n L : Nat) (h : n < 256) (hl : 35 + n ≤ L) : IntKind.wrap .i64 (((5 + n + 12 : Nat) : Int) + 2) = ((5 + n + 12 + 2 : Nat) : Int) := by rw [wrap_small (by omega) (by omega)]; omega
theorem ld_c12_3 (n L : Nat) (h : n < 256) (hl : 35 + n ≤ L) : IntKind.wrap .i64 (((5 + n + 12 : Nat) : Int) + 3) = ((5 + n + 12 + 3 : Nat) : Int) := by rw [wrap_small (by omega) (by omega)]; omega
theorem ld_r12_0 (n L : Nat) (h : n < 256) (hl : 35 + n ≤ L) : decide (((5 + n + 12 : Nat) : Int) < ((L : Nat) : Int)) = true := decide_eq_true (by omega)
theorem ld_r12_1 (n L : Nat) (h : n < 256) (hl : 35 + n ≤ L) : decide (((5 + n + 12 + 1 : Nat) : Int) < ((L : Nat) : Int)) = true := decide_eq_true (by omega)
theorem ld_r12_2 (n L : Nat) (h : n < 256) (hl : 35 + n ≤ L) : decide (((5 + n + 12 + 2 : Nat) : Int) < ((L : Nat) : Int)) = true := decide_eq_true (by omega)
theorem ld_r12_3 (n L : Nat) (h : n < 256) (hl : 35 + n ≤ L) : decide (((5 + n + 12 + 3 : Nat) : Int) < ((L : Nat) : Int)) = true := decide_eq_true (by omega)
theorem ld_c16_0 (n L : Nat) (h : n < 256) (hl : 35 + n ≤ L) : IntKind.wrap .i64 (((5 + n : Nat) : Int) + 16) = ((5 + n + 16 : Nat) : Int) := by rw [wrap_small (by omega) (by omega)]; omega
theorem ld_c16_1 (n L : Nat) (h : n < 256) (hl : 35 + n ≤ L) : IntKind.wrap .i64 (((5 + n + 16 : Nat) : Int) + 1) = ((5 + n + 16 + 1 : Nat) : Int) := by rw [wrap_small (by omega) (by omega)]; omega
theorem ld_c16_2 (n L : Nat) (h : n < 256) (hl : 35 + n ≤ L) : IntKind.wrap .i64 (((5 + n + 16 : Nat) : Int) + 2) = ((5 + n + 16 + 2 : Nat) : Int) := by rw [wrap_small (by omega) (by omega)]; omega
theorem ld_c16_3 (n L : Nat) (h : n < 256) (hl : 35 + n ≤ L) : IntKind.wrap .i64 (((5 + n + 16 : Nat) : Int) + 3) = ((5 + n + 16 + 3 : Nat) : Int) := by rw [wrap_small (by omega) (by omega)]; omega
theorem ld_r16_0 (n L : Nat) (h : n < 256) (hl : 35 + n ≤ L) : decide (((5 + n + 16 : Nat) : Int) < ((L : Nat) : Int)) = true := decide_eq_true (by omega)
theorem ld_r16_1 (n L : Nat) (h : n < 256) (hl : 35 + n ≤ L) : decide (((5 + n + 16 + 1 : Nat) : Int) < ((L : Nat) : Int)) = true := decide_eq_true (by omega)
theorem ld_r16_2 (n L : Nat) (h : n < 256) (hl : 35 + n ≤ L) : decide (((5 + n + 16 + 2 : Nat) : Int) < ((L : Nat) : Int)) = true := decide_eq_true (by omega)
theorem ld_r16_3 (n L : Nat) (h : n < 256) (hl : 35 + n ≤ L) : decide (((5 + n + 16 + 3 : Nat) : Int) < ((L : Nat) : Int)) = true := decide_eq_true (by omega)
theorem ld_c20_0 (n L : Nat) (h : n < 256) (hl : 35 + n ≤ L) : IntKind.wrap .i64 (((5 + n : Nat) : Int) + 20) = ((5 + n + 20 : Nat) : Int) := by rw [wrap_small (by omega) (by omega)]; omega
theorem ld_c20_1 (n L : Nat) (h : n < 256) (hl : 35 + n ≤ L) : IntKind.wrap .i64 (((5 + n + 20 : Nat) : Int) + 1) = ((5 + n + 20 + 1 : Nat) : Int) := by rw [wrap_small (by omega) (by omega)]; omega
theorem ld_c20_2 (n L : Nat) (h : n < 256) (hl : 35 + n ≤ L) : IntKind.wrap .i64 (((5 + n + 20 : Nat) : Int) + 2) = ((5 + n + 20 + 2 : Nat) : Int) := by rw [wrap_small (by omega) (by omega)]; omega
theorem ld_c20_3 (n L : Nat) (h : n < 256) (hl : 35 + n ≤ L) : IntKind.wrap .i64 (((5 + n + 20 : Nat) : Int) + 3) = ((5 + n + 20 + 3 : Nat) : Int) := by rw [wrap_small (by omega) (by omega)]; omega
theorem ld_r20_0 (n L : Nat) (h : n < 256) (hl : 35 + n ≤ L) : decide (((5 + n + 20 : Nat) : Int) < ((L : Nat) : Int)) = true := decide_eq_true (by omega)
theorem ld_r20_1 (n L : Nat) (h : n < 256) (hl : 35 + n ≤ L) : decide (((5 + n + 20 + 1 : Nat) : Int) < ((L : Nat) : Int)) = true := decide_eq_true (by omega)
theorem ld_r20_2 (n L : Nat) (h : n < 256) (hl : 35 + n ≤ L) : decide (((5 + n + 20 + 2 : Nat) : Int) < ((L : Nat) : Int)) = true := decide_eq_true (by omega)
theorem ld_r20_3 (n L : Nat) (h : n < 256) (hl : 35 + n ≤ L) : decide (((5 + n + 20 + 3 : Nat) : Int) < ((L : Nat) : Int)) = true := decide_eq_true (by omega)
theorem ld_c24_0 (n L : Nat) (h : n < 256) (hl : 35 + n ≤ L) : IntKind.wrap .i64 (((5 + n : Nat) : Int) + 24) = ((5 + n + 24 : Nat) : Int) := by rw [wrap_small (by omega) (by omega)]; omega
theorem ld_c24_1 (n L : Nat) (h : n < 256) (hl : 35 + n ≤ L) : IntKind.wrap .i64 (((5 + n + 24 : Nat) : Int) + 1) = ((5 + n + 24 + 1 : Nat) : Int) := by rw [wrap_small (by omega) (by omega)]; omega
theorem ld_c24_2 (n L : Nat) (h : n < 256) (hl : 35 + n ≤ L) : IntKind.wrap .i64 (((5 + n + 24 : Nat) : Int) + 2) = ((5 + n + 24 + 2 : Nat) : Int) := by rw [wrap_small (by omega) (by omega)]; omega
theorem ld_c24_3 (n L : Nat) (h : n < 256) (hl : 35 + n ≤ L) : IntKind.wrap .i64 (((5 + n + 24 : Nat) : Int) + 3) = ((5 + n + 24 + 3 : Nat) : Int) := by rw [wrap_small (by omega) (by omega)]; omega
theorem ld_r24_0 (n L : Nat) (h : n < 256) (hl : 35 + n ≤ L) : decide (((5 + n + 24 : Nat) : Int) < ((L : Nat) : Int)) = true := decide_eq_true (by omega)
theorem ld_r24_1 (n L : Nat) (h : n < 256) (hl : 35 + n ≤ L) : decide (((5 + n + 24 + 1 : Nat) : Int) < ((L : Nat) : Int)) = true := decide_eq_true (by omega)
theorem ld_r24_2 (n L : Nat) (h : n < 256) (hl : 35 + n ≤ L) : decide (((5 + n + 24 + 2 : Nat) : Int) < ((L : Nat) : Int)) = true := decide_eq_true (by omega)
theorem ld_r24_3 (n L : Nat) (h : n < 256) (hl : 35 + n ≤ L) : decide (((5 + n + 24 + 3 : Nat) : Int) < ((L : Nat) : Int)) = true := decide_eq_true (by omega)

theorem word_fold (s : List UInt8) (q : Nat) : canon .f32 ((s.getD q 0).toNat + 256 * (s.getD (q + 1) 0).toNat + 65536 * (s.getD (q + 2) 0).toNat + 16777216 * (s.getD (q + 3) 0).toNat) = wordAt s q := rfl
theorem ent_fold (s : List UInt8) (n : Nat) : (⟨(s.take (5 + n)).drop 5, wordAt s (5 + n), ⟨wordAt s (5 + n + 4), wordAt s (5 + n + 8), wordAt s (5 + n + 12), wordAt s (5 + n + 16), wordAt s (5 + n + 20), wordAt s (5 + n + 24)⟩⟩ : Entry) = entryAt s n := rfl
theorem orb_need (a b c d e f : Nat) : impl_orbitFrom_need [a, b, c, d, e, f] = true := rfl
theorem orb_val (a b c d e f : Nat) : impl_orbitFrom [a, b, c, d, e, f] = ⟨a, b, c, d, e, f⟩ := rfl

def noE : Entry := ⟨[], 0, ⟨0, 0, 0, 0, 0, 0⟩⟩
def told (c d : Bool) (e : Entry) (m : Int) : Entry × Int × Bool := match c with
  | false => (noE, 0, false)
  | true => match d with
    | true => (e, m, true)
    | false => (noE, 0, false)

theorem load_impl (s : List UInt8) (n : Nat) (hn : (s.getD 4 0).toNat = n) (hn2 : n < 256) (hl : 35 + n ≤ s.length) (hs : s.length ≤ 2 ^ 40) : (impl_loadFirst_tree s).get = some (told (spec_l07Entry (entryAt s n)) (impl_storeEntry (entryAt s n) == s.take (35 + n)) (entryAt s n) ((35 + n : Nat) : Int)) := by
  have hb : IntKind.wrap .i64 ((n : Nat) : Int) = ((n : Nat) : Int) := wrap_small (by omega) (by omega)
  have d5 : decide (((s.length : Nat) : Int) < 5) = false := decide_eq_false (by omega)
  have d35 : decide (((s.length : Nat) : Int) < ((35 + n : Nat) : Int)) = false := decide_eq_false (by omega)
  have i4 : decide ((4 : Int) < ((s.length : Nat) : Int)) = true := decide_eq_true (by omega)
  have j5 : decide (((5 + n : Nat) : Int) ≤ ((s.length : Nat) : Int)) = true := decide_eq_true (by omega)
  have j35 : decide (((35 + n : Nat) : Int) ≤ ((s.length : Nat) : Int)) = true := decide_eq_true (by omega)
  have k5 : decide ((5 : Int) ≤ ((5 + n : Nat) : Int)) = true := decide_eq_true (by omega)
  have hname := entryAt_name s n
  obtain ⟨v1, v2, v3⟩ := entry_same (entryAt s n) (by omega)
  have t1 := (store_need (entryAt s n) (entryAt_words s n) (by omega)).1

  unfold impl_loadFirst_tree
  simp only [DT.get, hn, hb, d5, i4, d35, j5, k5, j35, Int.toNat_natCast, nat_ge, Bool.and_self, Nat.zero_le, decide_true, or_word, word_fold, List.nil_append, List.cons_append, List.length_cons, List.length_nil, List.getD_cons_zero, List.getD_cons_succ, List.drop_succ_cons, List.drop_zero, List.take_succ_cons, List.take_zero, Nat.zero_add, Nat.zero_lt_succ, Nat.add_one_sub_one, orb_need, orb_val, ent_fold, v1, v3, t1, ld_c5 n s.length hn2 hl, ld_c35 n s.length hn2 hl, ld_c0_0 n s.length hn2 hl, ld_c0_1 n s.length hn2 hl, ld_c0_2 n s.length hn2 hl, ld_c0_3 n s.length hn2 hl, ld_r0_0 n s.length hn2 hl, ld_r0_1 n s.length hn2 hl, ld_r0_2 n s.length hn2 hl, ld_r0_3 n s.length hn2 hl, ld_c4_0 n s.length hn2 hl, ld_c4_1 n s.length hn2 hl, ld_c4_2 n s.length hn2 hl, ld_c4_3 n s.length hn2 hl, ld_r4_0 n s.length hn2 hl, ld_r4_1 n s.length hn2 hl, ld_r4_2 n s.length hn2 hl, ld_r4_3 n s.length hn2 hl, ld_c8_0 n s.length hn2 hl, ld_c8_1 n s.length hn2 hl, ld_c8_2 n s.length hn2 hl, ld_c8_3 n s.length hn2 hl, ld_r8_0 n s.length hn2 hl, ld_r8_1 n s.length hn2 hl, ld_r8_2 n s.length hn2 hl, ld_r8_3 n s.length hn2 hl, ld_c12_0 n s.length hn2 hl, ld_c12_1 n s.length hn2 hl, ld_c12_2 n s.length hn2 hl, ld_c12_3 n s.length hn2 hl, ld_r12_0 n s.length hn2 hl, ld_r12_1 n s.length hn2 hl, ld_r12_2 n s.length hn2 hl, ld_r12_3 n s.length hn2 hl, ld_c16_0 n s.length hn2 hl, ld_c16_1 n s.length hn2 hl, ld_c16_2 n s.length hn2 hl, ld_c16_3 n s.length hn2 hl, ld_r16_0 n s.length hn2 hl, ld_r16_1 n s.length hn2 hl, ld_r16_2 n s.length hn2 hl, ld_r16_3 n s.length hn2 hl, ld_c20_0 n s.length hn2 hl, ld_c20_1 n s.length hn2 hl, ld_c20_2 n s.length hn2 hl, ld_c20_3 n s.length hn2 hl, ld_r20_0 n s.length hn2 hl, ld_r20_1 n s.length hn2 hl, ld_r20_2 n s.length hn2 hl, ld_r20_3 n s.length hn2 hl, ld_c24_0 n s.length hn2 hl, ld_c24_1 n s.length hn2 hl, ld_c24_2 n s.length hn2 hl, ld_c24_3 n s.length hn2 hl, ld_r24_0 n s.length hn2 hl, ld_r24_1 n s.length hn2 hl, ld_r24_2 n s.length hn2 hl, ld_r24_3 n s.length hn2 hl]
  generalize spec_l07Entry (entryAt s n) = c
  generalize (impl_storeEntry (entryAt s n) == List.take (35 + n) s) = d
  cases c <;> cases d <;> rfl

theorem getD_drop {α : Type} (l : List α) (m j : Nat) (d : α) : (l.drop m).getD j d = l.getD (m + j) d := by
  rw [List.getD_eq_getElem?_getD, List.getD_eq_getElem?_getD, List.getElem?_drop]

theorem getD_take {α : Type} (l : List α) (m q : Nat) (d : α) (h : q < m) : (l.take m).getD q d = l.getD q d := by
  rw [List.getD_eq_getElem?_getD, List.getD_eq_getElem?_getD, List.getElem?_take_of_lt h]

theorem load_first (s : List UInt8) (hs : s.length ≤ 2 ^ 40) : impl_loadFirst_need s = true ∧ impl_loadFirst s = match decide (s.length < 5) || decide (s.length < 35 + (s.getD 4 0).toNat) with
    | true => (noE, 0, false)
    | false => told (spec_l07Entry (entryAt s (s.getD 4 0).toNat)) (impl_storeEntry (entryAt s (s.getD 4 0).toNat) == s.take (35 + (s.getD 4 0).toNat)) (entryAt s (s.getD 4 0).toNat) ((35 + (s.getD 4 0).toNat : Nat) : Int) := by
  have hb := (s.getD 4 0).toNat_lt
  have w1 : IntKind.wrap .i64 ((s.getD 4 0).toNat : Int) = ((s.getD 4 0).toNat : Int) := wrap_small (by omega) (by omega)
  have w2 : IntKind.wrap .i64 (35 + ((s.getD 4 0).toNat : Int)) = ((35 + (s.getD 4 0).toNat : Nat) : Int) := by rw [wrap_small (by omega) (by omega)]; omega
  have key : (impl_loadFirst_tree s).get = some (match decide (s.length < 5) || decide (s.length < 35 + (s.getD 4 0).toNat) with
    | true => (noE, 0, false)
    | false => told (spec_l07Entry (entryAt s (s.getD 4 0).toNat)) (impl_storeEntry (entryAt s (s.getD 4 0).toNat) == s.take (35 + (s.getD 4 0).toNat)) (entryAt s (s.getD 4 0).toNat) ((35 + (s.getD 4 0).toNat : Nat) : Int)) := by
    rcases Nat.lt_or_ge s.length 5 with h5 | h5
    · rw [decide_eq_true (p := s.length < 5) h5]
      unfold impl_loadFirst_tree
      exact DT.get_yes (decide_eq_true (by omega))
    · rw [decide_eq_false (p := s.length < 5) (by omega)]
      rcases Nat.lt_or_ge s.length (35 + (s.getD 4 0).toNat) with h | h
      · rw [decide_eq_true (p := s.length < 35 + (s.getD 4 0).toNat) h]
        unfold impl_loadFirst_tree
        refine (DT.get_no (decide_eq_false (by omega))).trans ((DT.get_need (by rw [decide_eq_true (p := (4 : Int) < ((s.length : Nat) : Int)) (by omega)]; rfl)).trans ?_)
        exact DT.get_yes (by rw [w1, w2]; exact decide_eq_true (by omega))
      · rw [decide_eq_false (p := s.length < 35 + (s.getD 4 0).toNat) (by omega)]
        exact load_impl s _ rfl (by omega) h hs
  exact DT.of_get key

end Go.Proofs.Ytnmeiodaeaabfaa
