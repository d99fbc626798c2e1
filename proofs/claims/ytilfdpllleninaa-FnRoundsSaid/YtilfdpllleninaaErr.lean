/- Errors of rounding, as rational numbers. -/
import Derived.Test.YtilfdpllleninaaEngX
namespace Go.Proofs.Ytilfdpllleninaa
open Ieee
set_option linter.unusedVariables false
set_option linter.unusedSimpArgs false

/-- What a datum is worth. -/
def rv : Datum → Rat
  | .number s m p => (if s then -(m : Rat) else (m : Rat)) * (2 : Rat) ^ p
  | _ => 0
/-- What bits are worth. -/
def R (k : FloatKind) (x : Nat) : Rat := rv (k.format.read x)

theorem rv_num (s : Bool) (m : Nat) (p : Int) : rv (.number s m p) = (if s then -(m : Rat) else (m : Rat)) * (2 : Rat) ^ p := rfl
theorem two_pos (p : Int) : (0 : Rat) < 2 ^ p := Rat.zpow_pos (by decide)
theorem two_add (p q : Int) : (2 : Rat) ^ (p + q) = 2 ^ p * 2 ^ q := Rat.zpow_add (by decide) p q
theorem two_nat (n : Nat) : (2 : Rat) ^ (n : Int) = ((2 ^ n : Nat) : Rat) := by rw [Rat.zpow_natCast]; simp

/-- What is kept of a whole number errs by half a unit at most. -/
theorem cut_err (neg : Bool) (n d : Nat) : 2 * (Toward.even.cut neg n d * 2 ^ d) ≤ 2 * n + 2 ^ d ∧ 2 * n ≤ 2 * (Toward.even.cut neg n d * 2 ^ d) + 2 ^ d := by
  unfold Toward.cut
  simp only [Nat.one_shiftLeft]
  rcases Nat.lt_or_ge (n.log2 + 2) d with h | h
  · rw [Nat.min_eq_right (by omega)]
    have hlt : n < 2 ^ (n.log2 + 1) := Nat.lt_log2_self
    have h2 : 2 ^ (n.log2 + 2) = 2 * 2 ^ (n.log2 + 1) := by rw [Nat.pow_succ, Nat.mul_comm]
    have h3 : 2 ^ (n.log2 + 2) ≤ 2 ^ d := Nat.pow_le_pow_right (by decide) (by omega)
    have e1 : n / 2 ^ (n.log2 + 2) = 0 := Nat.div_eq_of_lt (by omega)
    have e2 : n % 2 ^ (n.log2 + 2) = n := Nat.mod_eq_of_lt (by omega)
    have e3 : decide (2 ^ (n.log2 + 2) < 2 * n) = false := decide_eq_false (by omega)
    have e4 : (0 % 2 == 1) = false := rfl
    rw [e1, e2, e3, e4, Bool.and_false, Bool.or_false]
    simp only [Bool.toNat_false, Nat.add_zero, Nat.zero_mul, Nat.mul_zero]
    omega
  · rw [Nat.min_eq_left h]
    have hd := Nat.div_add_mod n (2 ^ d)
    have hr : n % 2 ^ d < 2 ^ d := Nat.mod_lt _ (Nat.pow_pos (by decide))
    rw [Nat.mul_comm] at hd
    generalize n / 2 ^ d = q at *
    generalize n % 2 ^ d = r at *
    generalize 2 ^ d = g at *
    cases hm : (decide (g < 2 * r) || g == 2 * r && q % 2 == 1) with
    | true =>
      have : g ≤ 2 * r := by
        simp only [Bool.or_eq_true, decide_eq_true_eq, Bool.and_eq_true, beq_iff_eq] at hm
        omega
      simp only [Bool.toNat_true, Nat.add_mul, Nat.one_mul]
      omega
    | false =>
      have : 2 * r ≤ g := by
        simp only [Bool.or_eq_false_iff, decide_eq_false_iff_not] at hm
        omega
      simp only [Bool.toNat_false, Nat.add_zero]
      omega

/-- What a word is worth. -/
theorem word_val {k : FloatKind} {s : Bool} {a kept : Nat} (hk : kept ≤ 2 ^ (fbits k + 1)) (h0 : a = 0 ∨ 2 ^ fbits k ≤ kept) (hr : a * 2 ^ fbits k + kept < k.format.infRung) :
    isNum k (k.format.word s (a * 2 ^ fbits k + kept)) = true ∧ R k (k.format.word s (a * 2 ^ fbits k + kept)) = rv (.number s kept (lplace k + a)) := by
  obtain ⟨c1, c2, c3, c4, c5⟩ := consts k
  have hinf : k.format.infRung < k.format.signWeight := by cases k <;> decide
  have hpos : 0 < 2 ^ fbits k := Nat.pow_pos (by decide)
  obtain ⟨hmod, hsgn⟩ := read_word (k := k) (s := s) (r := a * 2 ^ fbits k + kept) (by omega)
  have hread : ∀ d, k.format.read (k.format.word s (a * 2 ^ fbits k + kept)) = d → (∃ m p, d = .number s m p ∧ rv d = rv (.number s kept (lplace k + a))) → isNum k (k.format.word s (a * 2 ^ fbits k + kept)) = true ∧ R k (k.format.word s (a * 2 ^ fbits k + kept)) = rv (.number s kept (lplace k + a)) := by
    rintro d hd ⟨m, p, rfl, hv⟩
    exact ⟨isNum_iff.2 ⟨_, _, _, hd⟩, by unfold R; rw [hd, hv]⟩
  rcases Nat.lt_or_ge (a * 2 ^ fbits k + kept) (2 ^ fbits k) with hlt | hge
  · have ha : a = 0 := by
      rcases h0 with h | h
      · exact h
      · omega
    subst ha
    refine hread (.number s kept (lplace k)) ?_ ⟨_, _, rfl, by simp⟩
    unfold Format.read
    simp only [hmod, hsgn]
    rw [if_pos (by rw [c3]; exact hlt), c2]
    simp
  · have hread2 : k.format.read (k.format.word s (a * 2 ^ fbits k + kept)) = .number s (2 ^ fbits k + (a * 2 ^ fbits k + kept) % 2 ^ fbits k) (lplace k + (((a * 2 ^ fbits k + kept) / 2 ^ fbits k - 1 : Nat) : Int)) := by
      unfold Format.read
      simp only [hmod, hsgn]
      rw [if_neg (by rw [c3]; omega), if_pos hr, c3, c2]
    have hk1 : 2 ^ fbits k ≤ kept := by
      rcases h0 with h | h
      · subst h; omega
      · exact h
    refine hread _ hread2 ⟨_, _, rfl, ?_⟩
    rcases Nat.lt_or_ge kept (2 ^ (fbits k + 1)) with h1 | h1
    · have e1 : (a * 2 ^ fbits k + kept) / 2 ^ fbits k = a + 1 := by
        rw [Nat.pow_succ] at h1
        rw [Nat.div_eq_iff hpos]
        constructor
        · rw [Nat.add_mul]; omega
        · rw [Nat.add_mul]; omega
      have e2 : 2 ^ fbits k + (a * 2 ^ fbits k + kept) % 2 ^ fbits k = kept := by
        have := Nat.div_add_mod (a * 2 ^ fbits k + kept) (2 ^ fbits k)
        rw [e1, Nat.mul_add, Nat.mul_one, Nat.mul_comm (2 ^ fbits k) a] at this
        omega
      rw [e1, e2, Nat.add_sub_cancel]
    · have hke : kept = 2 ^ (fbits k + 1) := by omega
      have e1 : (a * 2 ^ fbits k + kept) / 2 ^ fbits k = a + 2 := by
        rw [hke, Nat.pow_succ, Nat.mul_comm (2 ^ fbits k) 2, ← Nat.add_mul, Nat.mul_div_cancel _ hpos]
      have e2 : (a * 2 ^ fbits k + kept) % 2 ^ fbits k = 0 := by
        rw [hke, Nat.pow_succ, Nat.mul_comm (2 ^ fbits k) 2, ← Nat.add_mul, Nat.mul_mod_left]
      rw [e1, e2, Nat.add_zero, hke]
      have e3 : lplace k + ((a + 2 - 1 : Nat) : Int) = (lplace k + (a : Int)) + 1 := by omega
      rw [e3, rv_num, rv_num, two_add (lplace k + (a : Int)) 1]
      have e4 : ((2 ^ (fbits k + 1) : Nat) : Rat) = ((2 ^ fbits k : Nat) : Rat) * 2 := by rw [Nat.pow_succ]; simp
      rw [e4]
      cases s <;> simp <;> grind

theorem two_le {a b : Int} (h : a ≤ b) : (2 : Rat) ^ a ≤ 2 ^ b := by
  obtain ⟨n, rfl⟩ : ∃ n : Nat, b = a + n := ⟨(b - a).toNat, by omega⟩
  rw [two_add, two_nat]
  have h1 : (1 : Rat) ≤ ((2 ^ n : Nat) : Rat) := by
    have := Nat.pow_pos (n := n) (by decide : 0 < 2)
    exact_mod_cast this
  have h2 := two_pos a
  have := Rat.mul_le_mul_of_nonneg_left h1 (Rat.le_of_lt h2)
  grind
theorem two_lt {a b : Int} (h : (2 : Rat) ^ a < 2 ^ b) : a < b := by
  rcases Int.lt_or_le a b with g | g
  · exact g
  · exact absurd (two_le g) (Rat.not_le.2 h)

/-- Two numbers that differ by at most a bound. -/
def Nr (a b E : Rat) : Prop := -E ≤ a - b ∧ a - b ≤ E

theorem rv_err {s : Bool} {m n : Nat} {p q : Int} {E : Rat} (h1 : (m : Rat) * 2 ^ p ≤ (n : Rat) * 2 ^ q + E) (h2 : (n : Rat) * 2 ^ q ≤ (m : Rat) * 2 ^ p + E) : Nr (rv (.number s m p)) (rv (.number s n q)) E := by
  rw [rv_num, rv_num]
  unfold Nr
  cases s <;> simp only [Bool.false_eq_true, if_false, if_true] <;> constructor <;> grind

/-- Zero is written as zero. -/
theorem nearest_zero {k : FloatKind} {s : Bool} {place : Int} : isNum k (k.format.nearest s 0 place) = true ∧ R k (k.format.nearest s 0 place) = 0 := by
  have hw : k.format.nearest s 0 place = k.format.word s (0 * 2 ^ fbits k + 0) := by unfold Format.nearest; rw [if_pos rfl]; simp
  have hinf : 0 < k.format.infRung := by cases k <;> decide
  obtain ⟨h1, h2⟩ := word_val (k := k) (s := s) (a := 0) (kept := 0) (Nat.zero_le _) (.inl rfl) (by simpa using hinf)
  rw [hw]
  refine ⟨h1, ?_⟩
  rw [h2, rv_num]
  cases s <;> simp <;> grind

/-- What is written errs by half a unit of its last place at most. -/
theorem nearest_last {k : FloatKind} {s : Bool} {mag e : Nat} {place : Int} (he : e ≤ emax k) (h : (mag : Rat) * 2 ^ place < 2 ^ (e : Int)) (hm : mag ≠ 0) :
    isNum k (k.format.nearest s mag place) = true ∧ ∃ kept : Nat, R k (k.format.nearest s mag place) = rv (.number s kept (max (place + mag.log2 - fbits k) (lplace k))) ∧ Nr (R k (k.format.nearest s mag place)) (rv (.number s mag place)) (2 ^ (max (place + mag.log2 - fbits k) (lplace k) - 1)) := by
  obtain ⟨c1, c2, c3, c4, c5⟩ := consts k
  have hpos : 0 < 2 ^ fbits k := Nat.pow_pos (by decide)
  have hfl : (1 : Int) ≤ -(lplace k) - fbits k := by cases k <;> decide
  have hself := Nat.log2_self_le hm
  have hlt : mag < 2 ^ (mag.log2 + 1) := Nat.lt_log2_self
  have hLe : (mag.log2 : Int) + place < e := by
    refine two_lt (Std.lt_of_le_of_lt ?_ h)
    rw [two_add, two_nat]
    exact Rat.mul_le_mul_of_nonneg_right (by exact_mod_cast hself) (Rat.le_of_lt (two_pos _))
  have hcore := nearest_core (fb := fbits k) (lp := lplace k) (place := place) (e := e) (h := mag.log2 + 1) (neg := s) (by omega) hm (Nat.le_of_lt hlt) (by push_cast; omega)
  obtain ⟨last, hlast⟩ : ∃ last, last = max (place + mag.log2 - fbits k) (lplace k) := ⟨_, rfl⟩
  rw [← hlast] at hcore
  obtain ⟨kept, hkept⟩ : ∃ kept, kept = Toward.even.cut s (mag <<< (place - last).toNat) (last - place).toNat := ⟨_, rfl⟩
  rw [← hkept] at hcore
  obtain ⟨a, ha⟩ : ∃ a, a = (last - lplace k).toNat := ⟨_, rfl⟩
  rw [← ha] at hcore
  have hrung : a * 2 ^ fbits k + kept < k.format.infRung := by
    rw [c4]
    refine Nat.lt_of_le_of_lt hcore ?_
    unfold rungOf
    refine Nat.mul_lt_mul_of_pos_right ?_ hpos
    push_cast
    omega
  have hw : k.format.nearest s mag place = k.format.word s (a * 2 ^ fbits k + kept) := by
    unfold Format.nearest
    rw [if_neg hm]
    simp only [c1, c2, c3, ← hlast, ← hkept, ← ha]
    rw [Nat.min_eq_left (Nat.le_of_lt hrung)]
  have hk1 : kept ≤ 2 ^ (fbits k + 1) := by
    rw [hkept]
    refine cut_le ?_
    rw [Nat.shiftLeft_eq]
    refine Nat.le_trans (Nat.mul_le_mul_right _ (Nat.le_of_lt hlt)) ?_
    rw [← Nat.pow_add]
    exact Nat.pow_le_pow_right (by decide) (by omega)
  have hk0 : a = 0 ∨ 2 ^ fbits k ≤ kept := by
    by_cases h0 : a = 0
    · exact .inl h0
    · right
      rw [hkept]
      refine cut_ge ?_
      rw [Nat.shiftLeft_eq]
      refine Nat.le_trans ?_ (Nat.mul_le_mul_right _ hself)
      rw [← Nat.pow_add]
      exact Nat.pow_le_pow_right (by decide) (by omega)
  obtain ⟨h1, h2⟩ := word_val (s := s) hk1 hk0 hrung
  rw [hw, ← hlast]
  refine ⟨h1, ?_⟩
  rw [h2, show lplace k + (a : Int) = last from by omega]
  refine ⟨kept, rfl, ?_⟩
  have hunit := two_pos (last - 1)
  obtain ⟨x1, x2⟩ := cut_err s (mag <<< (place - last).toNat) (last - place).toNat
  rw [← hkept, Nat.shiftLeft_eq] at x1 x2
  rcases Int.lt_or_le place last with g | g
  · have e0 : (place - last).toNat = 0 := by omega
    rw [e0, Nat.pow_zero, Nat.mul_one] at x1 x2
    obtain ⟨d, hd⟩ : ∃ d : Nat, (last - place).toNat = d := ⟨_, rfl⟩
    rw [hd] at x1 x2
    have e1 : (2 : Rat) ^ last = ((2 ^ d : Nat) : Rat) * 2 ^ place := by rw [← two_nat, ← two_add]; congr 1; omega
    have e2 : (2 : Rat) ^ (last - 1) * 2 = ((2 ^ d : Nat) : Rat) * 2 ^ place := by
      rw [← e1, show last = (last - 1) + 1 from by omega, two_add]
      rw [show last - 1 + 1 - 1 = last - 1 from by omega]
      rfl
    have y1 : 2 * ((kept : Rat) * ((2 ^ d : Nat) : Rat)) ≤ 2 * (mag : Rat) + ((2 ^ d : Nat) : Rat) := by exact_mod_cast x1
    have y2 : 2 * (mag : Rat) ≤ 2 * ((kept : Rat) * ((2 ^ d : Nat) : Rat)) + ((2 ^ d : Nat) : Rat) := by exact_mod_cast x2
    have hp := Rat.le_of_lt (two_pos place)
    have z1 := Rat.mul_le_mul_of_nonneg_right y1 hp
    have z2 := Rat.mul_le_mul_of_nonneg_right y2 hp
    refine rv_err ?_ ?_
    · rw [e1]; grind
    · rw [e1]; grind
  · have e0 : (last - place).toNat = 0 := by omega
    rw [e0, Nat.pow_zero] at x1 x2
    have hkm : kept = mag * 2 ^ (place - last).toNat := by omega
    have e1 : (kept : Rat) * 2 ^ last = (mag : Rat) * 2 ^ place := by
      rw [hkm]
      have e2 : (2 : Rat) ^ place = ((2 ^ (place - last).toNat : Nat) : Rat) * 2 ^ last := by rw [← two_nat, ← two_add]; congr 1; omega
      rw [e2]
      have e3 : ((mag * 2 ^ (place - last).toNat : Nat) : Rat) = (mag : Rat) * ((2 ^ (place - last).toNat : Nat) : Rat) := by exact_mod_cast rfl
      rw [e3]
      grind
    refine rv_err ?_ ?_ <;> rw [e1] <;> grind


theorem two_step (p : Int) : (2 : Rat) ^ (p - 1) * 2 = 2 ^ p := by
  have h := two_add (p - 1) 1
  rw [show p - 1 + 1 = p from by omega] at h
  rw [h]
  rfl

/-- .. so by half a unit in relation to what is written, or half the least unit. -/
theorem nearest_rel {k : FloatKind} {s : Bool} {mag e : Nat} {place : Int} (he : e ≤ emax k) (h : (mag : Rat) * 2 ^ place < 2 ^ (e : Int)) :
    isNum k (k.format.nearest s mag place) = true ∧ Nr (R k (k.format.nearest s mag place)) (rv (.number s mag place)) ((mag : Rat) * 2 ^ place * 2 ^ (-(fbits k : Int) - 1) + 2 ^ (lplace k - 1)) := by
  by_cases hm : mag = 0
  · subst hm
    obtain ⟨h1, h2⟩ := nearest_zero (k := k) (s := s) (place := place)
    refine ⟨h1, ?_⟩
    rw [h2, rv_num]
    have := two_pos (lplace k - 1)
    unfold Nr
    cases s <;> simp <;> constructor <;> grind
  · obtain ⟨h1, kept, _, h3⟩ := nearest_last (s := s) he h hm
    refine ⟨h1, ?_⟩
    have hself : ((2 ^ mag.log2 : Nat) : Rat) ≤ mag := by exact_mod_cast Nat.log2_self_le hm
    have e1 : (2 : Rat) ^ (place + mag.log2 - fbits k - 1) ≤ (mag : Rat) * 2 ^ place * 2 ^ (-(fbits k : Int) - 1) := by
      have e2 : (2 : Rat) ^ (place + mag.log2 - fbits k - 1) = ((2 ^ mag.log2 : Nat) : Rat) * 2 ^ place * 2 ^ (-(fbits k : Int) - 1) := by
        rw [← two_nat, ← two_add, ← two_add]; congr 1; omega
      rw [e2]
      exact Rat.mul_le_mul_of_nonneg_right (Rat.mul_le_mul_of_nonneg_right hself (Rat.le_of_lt (two_pos _))) (Rat.le_of_lt (two_pos _))
    have p1 := two_pos (lplace k - 1)
    have p2 := two_pos (place + mag.log2 - fbits k - 1)
    have e3 : (2 : Rat) ^ (max (place + mag.log2 - fbits k) (lplace k) - 1) ≤ (mag : Rat) * 2 ^ place * 2 ^ (-(fbits k : Int) - 1) + 2 ^ (lplace k - 1) := by
      rcases Int.le_total (place + mag.log2 - fbits k) (lplace k) with g | g
      · rw [Int.max_eq_right g]; grind
      · rw [Int.max_eq_left g]; grind
    unfold Nr at h3 ⊢
    constructor <;> grind

/-- What the kind can hold, is written exactly. -/
theorem nearest_exact {k : FloatKind} {s : Bool} {mag e t : Nat} {place b : Int} (he : e ≤ emax k) (h : (mag : Rat) * 2 ^ place < 2 ^ (e : Int)) (ht : (mag : Rat) * 2 ^ place = (t : Rat) * 2 ^ b) (hb : lplace k ≤ b) (htl : t < 2 ^ (fbits k + 1)) :
    isNum k (k.format.nearest s mag place) = true ∧ R k (k.format.nearest s mag place) = rv (.number s mag place) := by
  by_cases hm : mag = 0
  · subst hm
    obtain ⟨h1, h2⟩ := nearest_zero (k := k) (s := s) (place := place)
    refine ⟨h1, ?_⟩
    rw [h2, rv_num]
    cases s <;> simp <;> grind
  · obtain ⟨h1, kept, h2, h3⟩ := nearest_last (s := s) he h hm
    refine ⟨h1, ?_⟩
    obtain ⟨last, hlast⟩ : ∃ last, last = max (place + mag.log2 - fbits k) (lplace k) := ⟨_, rfl⟩
    rw [← hlast] at h2 h3
    have hlb : last ≤ b := by
      have h4 : (2 : Rat) ^ (place + mag.log2) < 2 ^ (b + fbits k + 1) := by
        have e1 : (2 : Rat) ^ (place + mag.log2) ≤ (mag : Rat) * 2 ^ place := by
          rw [two_add, two_nat]
          have hself : ((2 ^ mag.log2 : Nat) : Rat) ≤ mag := by exact_mod_cast Nat.log2_self_le hm
          have := Rat.mul_le_mul_of_nonneg_right hself (Rat.le_of_lt (two_pos place))
          grind
        have e2 : (t : Rat) * 2 ^ b < 2 ^ (b + fbits k + 1) := by
          rw [show b + fbits k + 1 = b + ((fbits k + 1 : Nat) : Int) from by push_cast; omega, two_add, two_nat]
          have hl : (t : Rat) < ((2 ^ (fbits k + 1) : Nat) : Rat) := by exact_mod_cast htl
          have := (Rat.mul_lt_mul_left (two_pos b)).2 hl
          grind
        rw [← ht] at e2
        exact Std.lt_of_le_of_lt e1 e2
      have h5 := two_lt h4
      omega
    -- both are whole numbers of units of the last place
    obtain ⟨d, hd⟩ : ∃ d : Nat, b = last + d := ⟨(b - last).toNat, by omega⟩
    have hpl := two_pos last
    have hval : (mag : Rat) * 2 ^ place = ((t * 2 ^ d : Nat) : Rat) * 2 ^ last := by
      rw [ht, hd, two_add, two_nat]
      have : ((t * 2 ^ d : Nat) : Rat) = (t : Rat) * ((2 ^ d : Nat) : Rat) := by exact_mod_cast rfl
      rw [this]
      grind
    have hst := two_step last
    obtain ⟨n, hn⟩ : ∃ n, n = t * 2 ^ d := ⟨_, rfl⟩
    rw [← hn, ← hst] at hval
    have hk : kept = n := by
      have a1 : (2 * (kept : Rat) - 2 * (n : Rat) - 1) * 2 ^ (last - 1) ≤ 0 := by
        rw [h2, rv_num, rv_num, ← hst] at h3
        unfold Nr at h3
        cases s <;> simp only [Bool.false_eq_true, if_false, if_true, Rat.neg_mul] at h3 <;> rw [hval] at h3 <;> clear hval hst hpl ht h hlast <;> generalize (2 : Rat) ^ (last - 1) = w at * <;> grind
      have a2 : (2 * (n : Rat) - 2 * (kept : Rat) - 1) * 2 ^ (last - 1) ≤ 0 := by
        rw [h2, rv_num, rv_num, ← hst] at h3
        unfold Nr at h3
        cases s <;> simp only [Bool.false_eq_true, if_false, if_true, Rat.neg_mul] at h3 <;> rw [hval] at h3 <;> clear hval hst hpl ht h hlast <;> generalize (2 : Rat) ^ (last - 1) = w at * <;> grind
      have hp1 := two_pos (last - 1)
      have neg : ∀ x : Rat, x * 2 ^ (last - 1) ≤ 0 → x ≤ 0 := fun x hx => by
        have : x * 2 ^ (last - 1) ≤ 0 * 2 ^ (last - 1) := by rw [Rat.zero_mul]; exact hx
        exact Rat.le_of_mul_le_mul_right this hp1
      have b1 := neg _ a1
      have b2 := neg _ a2
      have c1 : (2 * (kept : Rat)) ≤ 2 * (n : Rat) + 1 := by grind
      have c2 : (2 * (n : Rat)) ≤ 2 * (kept : Rat) + 1 := by grind
      have d1 : 2 * kept ≤ 2 * n + 1 := by exact_mod_cast c1
      have d2 : 2 * n ≤ 2 * kept + 1 := by exact_mod_cast c2
      omega
    rw [h2, hk, rv_num, rv_num]
    cases s <;> simp only [Bool.false_eq_true, if_false, if_true] <;> grind

/-! ## Sums, differences, products -/

theorem rv_signed (s : Bool) (m u : Nat) (b : Int) : rv (.number s m (b + u)) = ((signed s m u : Int) : Rat) * 2 ^ b := by
  rw [rv_num, two_add, two_nat]
  unfold signed
  rw [Nat.shiftLeft_eq]
  have e : ((m * 2 ^ u : Nat) : Rat) = (m : Rat) * ((2 ^ u : Nat) : Rat) := by exact_mod_cast rfl
  cases s
  · simp only [Bool.false_eq_true, if_false]
    have : (((m * 2 ^ u : Nat) : Int) : Rat) = ((m * 2 ^ u : Nat) : Rat) := by exact_mod_cast rfl
    rw [this, e]
    grind
  · simp only [if_true]
    have : ((-((m * 2 ^ u : Nat) : Int) : Int) : Rat) = -((m * 2 ^ u : Nat) : Rat) := by exact_mod_cast rfl
    rw [this, e]
    grind

theorem rv_whole {s : Bool} {t : Int} {b : Int} (h : t ≠ 0 → s = decide (t < 0)) : rv (.number s t.natAbs b) = (t : Rat) * 2 ^ b := by
  have := rv_signed s t.natAbs 0 b
  rw [show b + ((0 : Nat) : Int) = b from by omega] at this
  rw [this]
  have e : signed s t.natAbs 0 = t := by
    by_cases h0 : t = 0
    · subst h0; cases s <;> rfl
    · rw [h h0]
      unfold signed
      rw [Nat.shiftLeft_zero]
      by_cases g : t < 0
      · simp only [g, decide_true, if_true]; omega
      · simp only [g, decide_false, Bool.false_eq_true, if_false]; omega
  rw [e]

/-- Between a bound and its opposite. -/
def Bd (q M : Rat) : Prop := -M ≤ q ∧ q ≤ M

theorem Bd.mono {q M N : Rat} (h : Bd q M) (hm : M ≤ N) : Bd q N := ⟨by have := h.1; grind, by have := h.2; grind⟩
theorem Bd.nonneg {q M : Rat} (h : Bd q M) : 0 ≤ M := by have := h.1; have := h.2; grind
theorem Bd.add {a b M N : Rat} (h : Bd a M) (g : Bd b N) : Bd (a + b) (M + N) := by unfold Bd at *; constructor <;> grind
theorem Bd.sub {a b M N : Rat} (h : Bd a M) (g : Bd b N) : Bd (a - b) (M + N) := by unfold Bd at *; constructor <;> grind
theorem Bd.neg {a M : Rat} (h : Bd a M) : Bd (-a) M := by unfold Bd at *; constructor <;> grind
theorem Bd.mul {a b M N : Rat} (h : Bd a M) (g : Bd b N) : Bd (a * b) (M * N) := by
  obtain ⟨h1, h2⟩ := h
  obtain ⟨g1, g2⟩ := g
  have p1 := Rat.mul_nonneg (show 0 ≤ M - a by grind) (show 0 ≤ N + b by grind)
  have p2 := Rat.mul_nonneg (show 0 ≤ M + a by grind) (show 0 ≤ N - b by grind)
  have p3 := Rat.mul_nonneg (show 0 ≤ M - a by grind) (show 0 ≤ N - b by grind)
  have p4 := Rat.mul_nonneg (show 0 ≤ M + a by grind) (show 0 ≤ N + b by grind)
  constructor <;> grind
theorem Nr.bd {a b E : Rat} : Nr a b E ↔ Bd (a - b) E := Iff.rfl
theorem Nr.refl (a : Rat) : Nr a a 0 := by unfold Nr; constructor <;> grind
theorem Nr.mono {a b E F : Rat} (h : Nr a b E) (hm : E ≤ F) : Nr a b F := Bd.mono h hm
theorem Nr.symm {a b E : Rat} (h : Nr a b E) : Nr b a E := by unfold Nr at *; constructor <;> grind
theorem Nr.trans {a b c E F : Rat} (h : Nr a b E) (g : Nr b c F) : Nr a c (E + F) := by unfold Nr at *; constructor <;> grind
theorem Nr.add {a b c d E F : Rat} (h : Nr a b E) (g : Nr c d F) : Nr (a + c) (b + d) (E + F) := by unfold Nr at *; constructor <;> grind
theorem Nr.sub {a b c d E F : Rat} (h : Nr a b E) (g : Nr c d F) : Nr (a - c) (b - d) (E + F) := by unfold Nr at *; constructor <;> grind
theorem Nr.toBd {a b E M : Rat} (h : Nr a b E) (g : Bd b M) : Bd a (M + E) := by unfold Nr Bd at *; constructor <;> grind
theorem Nr.mul {a b c d E F M N : Rat} (h : Nr a b E) (g : Nr c d F) (hb : Bd b M) (hc : Bd c N) : Nr (a * c) (b * d) (E * N + M * F) := by
  have h1 := Bd.mul h hc
  have h2 := Bd.mul hb g
  have h3 := h1.add h2
  unfold Bd at h3
  unfold Nr
  constructor <;> grind

/-- The unit of a kind, and what is below all numbers of concern. -/
def U : FloatKind → Rat
  | .f32 => 1 / 16777216
  | .f64 => 1 / 9007199254740992
def T : Rat := 1 / 1393796574908163946345982392040522594123776
/-- Great. -/
def Gr : Rat := 1267650600228229401496703205376

theorem U_eq (k : FloatKind) : (2 : Rat) ^ (-(fbits k : Int) - 1) = U k := by cases k <;> decide +kernel
theorem T_ge (k : FloatKind) : (2 : Rat) ^ (lplace k - 1) ≤ T := by
  have h : T = (2 : Rat) ^ (-140 : Int) := by decide +kernel
  rw [h]
  exact two_le (by cases k <;> decide)
theorem U_pos (k : FloatKind) : 0 < U k := by cases k <;> decide +kernel
theorem U_le (k : FloatKind) : U k ≤ 1 / 16777216 := by cases k <;> decide +kernel
theorem T_pos : 0 < T := by decide +kernel

/-- The bits are a rounding of what is meant. -/
def Fl (k : FloatKind) (x : Nat) (q : Rat) : Prop := isNum k x = true ∧ ∀ M, Bd q M → Nr (R k x) q (U k * M + T)

theorem rv_abs (s : Bool) (m : Nat) (p : Int) : rv (.number s m p) = (m : Rat) * 2 ^ p ∨ rv (.number s m p) = -((m : Rat) * 2 ^ p) := by
  rw [rv_num]
  cases s
  · left; simp
  · right; simp only [if_true]; grind

theorem mag_nonneg (m : Nat) (p : Int) : 0 ≤ (m : Rat) * 2 ^ p := by
  have h1 : (0 : Rat) ≤ m := by exact_mod_cast Nat.zero_le m
  exact Rat.mul_nonneg h1 (Rat.le_of_lt (two_pos p))

theorem write_fl {k : FloatKind} {s : Bool} {m : Nat} {p : Int} (h : Bd (rv (.number s m p)) Gr) : Fl k (canon k (k.format.nearest s m p)) (rv (.number s m p)) := by
  have hlt : (m : Rat) * 2 ^ p < 2 ^ ((101 : Nat) : Int) := by
    have : Gr < 2 ^ ((101 : Nat) : Int) := by decide +kernel
    obtain ⟨h1, h2⟩ := h
    rcases rv_abs s m p with g | g <;> rw [g] at h1 h2 <;> grind
  obtain ⟨n1, n2⟩ := nearest_rel (k := k) (s := s) (e := 101) (by cases k <;> decide) hlt
  rw [canon_num' n1]
  refine ⟨n1, fun M hM => n2.mono ?_⟩
  rw [U_eq]
  have hT := T_ge k
  have hU := U_pos k
  have hm : (m : Rat) * 2 ^ p ≤ M := by
    obtain ⟨h1, h2⟩ := hM
    have := mag_nonneg m p
    rcases rv_abs s m p with g | g <;> rw [g] at h1 h2 <;> grind
  have := Rat.mul_le_mul_of_nonneg_right hm (Rat.le_of_lt hU)
  grind

theorem write_ex {k : FloatKind} {s : Bool} {m t : Nat} {p b : Int} (h : Bd (rv (.number s m p)) Gr) (ht : (m : Rat) * 2 ^ p = (t : Rat) * 2 ^ b) (hb : lplace k ≤ b) (htl : t < 2 ^ (fbits k + 1)) :
    isNum k (canon k (k.format.nearest s m p)) = true ∧ R k (canon k (k.format.nearest s m p)) = rv (.number s m p) := by
  have hlt : (m : Rat) * 2 ^ p < 2 ^ ((101 : Nat) : Int) := by
    have : Gr < 2 ^ ((101 : Nat) : Int) := by decide +kernel
    obtain ⟨h1, h2⟩ := h
    rcases rv_abs s m p with g | g <;> rw [g] at h1 h2 <;> grind
  obtain ⟨n1, n2⟩ := nearest_exact (k := k) (s := s) (e := 101) (by cases k <;> decide) hlt ht hb htl
  rw [canon_num' n1]
  exact ⟨n1, n2⟩

theorem sum_rv {s u : Bool} {a c : Nat} {p q : Int} : ∃ r m b, (Datum.number s a p).sum (.number u c q) = some (.number r m b) ∧ rv (.number r m b) = rv (.number s a p) + rv (.number u c q) := by
  refine ⟨_, _, _, rfl, ?_⟩
  rw [rv_whole (fun hne => by rw [if_neg hne])]
  have vx := rv_signed s a (p - min p q).toNat (min p q)
  have vy := rv_signed u c (q - min p q).toNat (min p q)
  rw [show min p q + ((p - min p q).toNat : Int) = p from by omega] at vx
  rw [show min p q + ((q - min p q).toNat : Int) = q from by omega] at vy
  rw [vx, vy]
  push_cast
  grind

theorem fadd_fl {k : FloatKind} {x y : Nat} (hx : isNum k x = true) (hy : isNum k y = true) (h : Bd (R k x + R k y) Gr) : Fl k (fadd k x y) (R k x + R k y) := by
  obtain ⟨s, a, p, hx⟩ := isNum_iff.1 hx
  obtain ⟨u, c, q, hy⟩ := isNum_iff.1 hy
  unfold R at h ⊢
  unfold fadd Format.add
  rw [hx, hy] at h ⊢
  obtain ⟨r, m, b, h1, h2⟩ := sum_rv (s := s) (u := u) (a := a) (c := c) (p := p) (q := q)
  rw [← h2] at h
  rw [h1, ← h2]
  exact write_fl h

theorem rv_opp (s : Bool) (m : Nat) (p : Int) : rv (Datum.number s m p).opposite = -rv (.number s m p) := by
  show rv (.number (!s) m p) = _
  rw [rv_num, rv_num]
  cases s <;> simp <;> grind

theorem fsub_fl {k : FloatKind} {x y : Nat} (hx : isNum k x = true) (hy : isNum k y = true) (h : Bd (R k x - R k y) Gr) : Fl k (fsub k x y) (R k x - R k y) := by
  obtain ⟨s, a, p, hx⟩ := isNum_iff.1 hx
  obtain ⟨u, c, q, hy⟩ := isNum_iff.1 hy
  unfold R at h ⊢
  unfold fsub Format.sub
  rw [hx, hy] at h ⊢
  obtain ⟨r, m, b, h1, h2⟩ := sum_rv (s := s) (u := !u) (a := a) (c := c) (p := p) (q := q)
  have h3 : rv (.number s a p) + rv (.number (!u) c q) = rv (.number s a p) - rv (.number u c q) := by
    have := rv_opp u c q
    rw [show (Datum.number u c q).opposite = .number (!u) c q from rfl] at this
    rw [this]
    grind
  rw [h3] at h2
  rw [← h2] at h
  rw [show (Datum.number u c q).opposite = .number (!u) c q from rfl, h1, ← h2]
  exact write_fl h

theorem prod_rv (s u : Bool) (a c : Nat) (p q : Int) : rv (.number (s ^^ u) (a * c) (p + q)) = rv (.number s a p) * rv (.number u c q) := by
  rw [rv_num, rv_num, rv_num, two_add]
  have : ((a * c : Nat) : Rat) = (a : Rat) * (c : Rat) := by exact_mod_cast rfl
  rw [this]
  cases s <;> cases u <;> simp <;> grind

theorem fmul_fl {k : FloatKind} {x y : Nat} (hx : isNum k x = true) (hy : isNum k y = true) (h : Bd (R k x * R k y) Gr) : Fl k (fmul k x y) (R k x * R k y) := by
  obtain ⟨s, a, p, hx⟩ := isNum_iff.1 hx
  obtain ⟨u, c, q, hy⟩ := isNum_iff.1 hy
  unfold R at h ⊢
  unfold fmul Format.mul
  rw [hx, hy] at h ⊢
  rw [← prod_rv] at h ⊢
  exact write_fl h

theorem read_neg {k : FloatKind} {x m : Nat} {s : Bool} {p : Int} (h : k.format.read x = .number s m p) : k.format.read (Op.negFloat k x) = .number (!s) m p := by
  have hm : Op.negFloat k x % k.format.signWeight = x % k.format.signWeight := by
    unfold Op.negFloat Format.signWeight
    rw [Nat.xor_mod_two_pow, Nat.mod_self, Nat.xor_zero]
  have hd : (Op.negFloat k x / k.format.signWeight % 2 == 1) = !(x / k.format.signWeight % 2 == 1) := by
    unfold Op.negFloat Format.signWeight
    rw [← Nat.shiftRight_eq_div_pow, Nat.shiftRight_xor_distrib, Nat.shiftRight_eq_div_pow, Nat.shiftRight_eq_div_pow, Nat.div_self (Nat.pow_pos (by decide))]
    generalize x / _ = z
    have h1 : z ^^^ 1 = if z % 2 = 0 then z + 1 else z - 1 := by
      rw [← Nat.div_add_mod (z ^^^ 1) 2, Nat.xor_div_two_pow (n := 1), Nat.xor_mod_two_pow (n := 1)]
      rcases Nat.mod_two_eq_zero_or_one z with g | g <;> simp [g] <;> omega
    rw [h1]
    rcases Nat.mod_two_eq_zero_or_one z with g | g
    · rw [if_pos g, g]
      have : (z + 1) % 2 = 1 := by omega
      rw [this]; rfl
    · rw [if_neg (by omega), g]
      have : (z - 1) % 2 = 0 := by omega
      rw [this]; rfl
  unfold Format.read at h ⊢
  simp only [hm, hd] at h ⊢
  split at h
  · rw [Datum.number.injEq] at h
    obtain ⟨rfl, rfl, rfl⟩ := h
    rw [if_pos (by assumption)]
  · rw [if_neg (by assumption)]
    split at h
    · rw [Datum.number.injEq] at h
      obtain ⟨rfl, rfl, rfl⟩ := h
      rw [if_pos (by assumption)]
    · split at h <;> cases h

theorem R_neg {k : FloatKind} {x : Nat} (hx : isNum k x = true) : isNum k (fneg k x) = true ∧ R k (fneg k x) = -R k x := by
  obtain ⟨s, m, p, hx⟩ := isNum_iff.1 hx
  have h := read_neg hx
  have hn : isNum k (Op.negFloat k x) = true := isNum_iff.2 ⟨_, _, _, h⟩
  unfold fneg
  rw [canon_num' hn]
  refine ⟨hn, ?_⟩
  unfold R
  rw [h, hx]
  exact rv_opp s m p

/-! ## Quotients -/

theorem rv_sign (s : Bool) (m : Nat) (p : Int) : rv (.number s m p) = (if s then -1 else 1) * ((m : Rat) * 2 ^ p) := by
  rw [rv_num]
  cases s <;> simp <;> grind

/-- The quotient of two magnitudes, cut behind some digits. -/
theorem quot_core {dg m n : Nat} {i j : Int} {X : Rat} (hn : n ≠ 0) (hX : X * ((n : Rat) * 2 ^ j) = (m : Rat) * 2 ^ i) :
    Nr (((2 * (m <<< (dg + n.log2 - m.log2) / n) + (m <<< (dg + n.log2 - m.log2) % n != 0).toNat : Nat) : Rat) * 2 ^ (i - j - (dg + n.log2 - m.log2 : Nat) - 1)) X (X * 2 ^ (-(dg : Int))) := by
  obtain ⟨more, hmore⟩ : ∃ more, more = dg + n.log2 - m.log2 := ⟨_, rfl⟩
  rw [← hmore]
  obtain ⟨D, hD⟩ : ∃ D, D = m <<< more := ⟨_, rfl⟩
  rw [← hD]
  obtain ⟨w, hw⟩ : ∃ w, w = (2 : Rat) ^ (i - j - (more : Int) - 1) := ⟨_, rfl⟩
  rw [← hw]
  have hwp : 0 < w := by rw [hw]; exact two_pos _
  have hnp : (0 : Rat) < n := by exact_mod_cast Nat.pos_of_ne_zero hn
  have hDn := Nat.div_add_mod D n
  have hr : D % n < n := Nat.mod_lt _ (Nat.pos_of_ne_zero hn)
  obtain ⟨Q, hQ⟩ : ∃ Q, Q = D / n := ⟨_, rfl⟩
  obtain ⟨r, hrr⟩ : ∃ r, r = D % n := ⟨_, rfl⟩
  rw [← hQ, ← hrr] at hDn ⊢
  rw [← hrr] at hr
  obtain ⟨st, hst⟩ : ∃ st, st = (r != 0).toNat := ⟨_, rfl⟩
  rw [← hst]
  have hst0 : (st = 0 ∧ r = 0) ∨ (st = 1 ∧ 1 ≤ r) := by
    rw [hst]
    by_cases h : r = 0
    · left; subst h; exact ⟨rfl, rfl⟩
    · right
      have : (r != 0) = true := by simp [h]
      rw [this]
      exact ⟨rfl, by omega⟩
  -- X n = 2 D w
  have hXn : X * n = 2 * (D : Rat) * w := by
    have e1 : (2 : Rat) ^ i = ((2 ^ more : Nat) : Rat) * 2 * w * 2 ^ j := by
      rw [hw]
      have e2 : (2 : Rat) ^ i = 2 ^ ((more : Int) + 1 + (i - j - (more : Int) - 1) + j) := by congr 1; omega
      rw [e2, two_add, two_add, two_add, two_nat]
      rfl
    have e3 : (D : Rat) = (m : Rat) * ((2 ^ more : Nat) : Rat) := by rw [hD, Nat.shiftLeft_eq]; exact_mod_cast rfl
    have hj := two_pos j
    rw [e1] at hX
    have e4 : X * n * 2 ^ j = 2 * (D : Rat) * w * 2 ^ j := by rw [e3]; grind
    have e5 : X * n * 2 ^ j / 2 ^ j = 2 * (D : Rat) * w * 2 ^ j / 2 ^ j := by rw [e4]
    rwa [Rat.mul_div_cancel (by grind), Rat.mul_div_cancel (by grind)] at e5
  have hDq : (D : Rat) = (n : Rat) * Q + r := by exact_mod_cast hDn.symm
  have hcast : ((2 * Q + st : Nat) : Rat) = 2 * (Q : Rat) + st := by push_cast; rfl
  rw [hcast]
  have hXq := hXn
  rw [hDq] at hXq
  -- the error is at most w
  have hrn : (r : Rat) ≤ n := by exact_mod_cast Nat.le_of_lt hr
  have hr0 : (0 : Rat) ≤ r := by exact_mod_cast Nat.zero_le r
  have cancel : ∀ a b : Rat, a * n ≤ b * n → a ≤ b := fun a b h => Rat.le_of_mul_le_mul_right h hnp
  have s1 : (st : Rat) = 0 ∧ (r : Rat) = 0 ∨ (st : Rat) = 1 := by
    rcases hst0 with ⟨h1, h2⟩ | ⟨h1, h2⟩
    · left; rw [h1, h2]; exact ⟨rfl, rfl⟩
    · right; rw [h1]; rfl
  have h1 : (2 * (Q : Rat) + st) * w - X ≤ w := by
    refine cancel _ _ ?_
    have e : ((2 * (Q : Rat) + st) * w - X) * n = (st * n - 2 * r) * w := by grind
    rw [e]
    have : (st : Rat) * n - 2 * r ≤ n := by rcases s1 with ⟨a, b⟩ | a <;> rw [a] <;> grind
    have := Rat.mul_le_mul_of_nonneg_right this (Rat.le_of_lt hwp)
    grind
  have h2 : X - (2 * (Q : Rat) + st) * w ≤ w := by
    refine cancel _ _ ?_
    have e : (X - (2 * (Q : Rat) + st) * w) * n = (2 * r - st * n) * w := by grind
    rw [e]
    have : 2 * (r : Rat) - st * n ≤ n := by
      rcases s1 with ⟨a, b⟩ | a
      · rw [a, b]; grind
      · rw [a]; grind
    have := Rat.mul_le_mul_of_nonneg_right this (Rat.le_of_lt hwp)
    grind
  by_cases hm : m = 0
  · have hD0 : D = 0 := by rw [hD, hm]; simp
    rw [hD0] at hDn
    have hQ0 : Q = 0 := by
      rcases Nat.mul_eq_zero.1 (show n * Q = 0 by omega) with h | h
      · exact absurd h hn
      · exact h
    have hr00 : r = 0 := by omega
    have hst00 : st = 0 := by rcases hst0 with ⟨h, _⟩ | ⟨_, h⟩ <;> omega
    have hX0 : X = 0 := by
      have : X * n = 0 * n := by rw [hXn, hD0]; simp
      exact Rat.le_antisymm (cancel _ _ (by grind)) (cancel _ _ (by grind))
    rw [hX0, hQ0, hst00]
    unfold Nr
    constructor <;> simp <;> grind
  · have h3 : w ≤ X * 2 ^ (-(dg : Int)) := by
      refine cancel _ _ ?_
      have e : X * 2 ^ (-(dg : Int)) * n = 2 * (D : Rat) * w * 2 ^ (-(dg : Int)) := by rw [← hXn]; grind
      rw [e]
      have hself := Nat.log2_self_le hm
      have hlt : n < 2 ^ (n.log2 + 1) := Nat.lt_log2_self
      have hDge : 2 ^ dg * n ≤ 2 * D := by
        rw [hD, Nat.shiftLeft_eq]
        have a1 : 2 ^ (m.log2 + more) ≤ m * 2 ^ more := by rw [Nat.pow_add]; exact Nat.mul_le_mul_right _ hself
        have a2 : 2 ^ dg * n ≤ 2 ^ dg * 2 ^ (n.log2 + 1) := Nat.mul_le_mul_left _ (Nat.le_of_lt hlt)
        rw [← Nat.pow_add] at a2
        have a3 : 2 ^ (dg + (n.log2 + 1)) ≤ 2 ^ (m.log2 + more + 1) := Nat.pow_le_pow_right (by decide) (by omega)
        rw [show m.log2 + more + 1 = Nat.succ (m.log2 + more) from rfl, Nat.pow_succ] at a3
        omega
      have hR : ((2 ^ dg : Nat) : Rat) * n ≤ 2 * D := by exact_mod_cast hDge
      have hp := two_pos (-(dg : Int))
      have h5 := Rat.mul_le_mul_of_nonneg_right hR (Rat.le_of_lt (Rat.mul_pos hwp hp))
      have h6 : ((2 ^ dg : Nat) : Rat) * 2 ^ (-(dg : Int)) = 1 := by rw [← two_nat, ← two_add]; rw [show (dg : Int) + -dg = 0 from by omega]; rfl
      have h7 : ((2 ^ dg : Nat) : Rat) * n * (w * 2 ^ (-(dg : Int))) = w * n := by
        rw [show ((2 ^ dg : Nat) : Rat) * n * (w * 2 ^ (-(dg : Int))) = (((2 ^ dg : Nat) : Rat) * 2 ^ (-(dg : Int))) * (w * n) by grind, h6]
        grind
      grind
    unfold Nr
    constructor <;> grind

theorem quot_fl {k : FloatKind} {x y : Nat} (hx : isNum k x = true) (hy : isNum k y = true) (h0 : R k y ≠ 0) {X : Rat} (hX : X * R k y = R k x) (h : Bd X (1000000000000000000000000000000)) :
    isNum k (fdiv k x y) = true ∧ ∀ M, Bd X M → Nr (R k (fdiv k x y)) X (2 * U k * M + T) := by
  obtain ⟨s, a, p, hx⟩ := isNum_iff.1 hx
  obtain ⟨u, c, q, hy⟩ := isNum_iff.1 hy
  unfold R at h0 hX ⊢
  unfold fdiv Format.div
  rw [hx, hy] at hX ⊢
  rw [hy] at h0
  have hc : c ≠ 0 := by
    intro e
    subst e
    apply h0
    rw [rv_num]
    cases u <;> simp <;> grind
  obtain ⟨Y, hY⟩ : ∃ Y : Rat, Y = (if s ^^ u then -1 else 1) * X := ⟨_, rfl⟩
  have hXY : X = (if s ^^ u then -1 else 1) * Y := by rw [hY]; cases s <;> cases u <;> simp <;> grind
  have hYe : Y * ((c : Rat) * 2 ^ q) = (a : Rat) * 2 ^ p := by
    rw [rv_sign, rv_sign] at hX
    rw [hY]
    cases s <;> cases u <;> simp at hX ⊢ <;> grind
  have hcore := quot_core (dg := k.format.fractionBits + 2) hc hYe
  have hq : (Datum.number s a p).quotient (k.format.fractionBits + 2) (.number u c q) = some (.number (s ^^ u) (2 * (a <<< (k.format.fractionBits + 2 + c.log2 - a.log2) / c) + (a <<< (k.format.fractionBits + 2 + c.log2 - a.log2) % c != 0).toNat) (p - q - (k.format.fractionBits + 2 + c.log2 - a.log2 : Nat) - 1)) := by
    unfold Datum.quotient
    simp only
    rw [if_neg hc]
  rw [hq]
  obtain ⟨mm, hmm⟩ : ∃ mm, mm = (2 * (a <<< (k.format.fractionBits + 2 + c.log2 - a.log2) / c) + (a <<< (k.format.fractionBits + 2 + c.log2 - a.log2) % c != 0).toNat) := ⟨_, rfl⟩
  obtain ⟨pp, hpp⟩ : ∃ pp, pp = (p - q - (k.format.fractionBits + 2 + c.log2 - a.log2 : Nat) - 1) := ⟨_, rfl⟩
  rw [← hmm, ← hpp] at hcore ⊢
  have hu : (2 : Rat) ^ (-((k.format.fractionBits + 2 : Nat) : Int)) * 2 = U k := by cases k <;> decide +kernel
  have hup := U_pos k
  have hul := U_le k
  have hYn : 0 ≤ Y := by
    have h1 := mag_nonneg a p
    have h2 := mag_nonneg c q
    rw [← hYe] at h1
    rcases Rat.le_total (a := 0) (b := Y) with g | g
    · exact g
    · have hne : (c : Rat) * 2 ^ q ≠ 0 := by
        intro e
        apply h0
        rw [rv_sign, e]
        grind
      have h3 : 0 < (c : Rat) * 2 ^ q := Rat.lt_of_le_of_ne h2 (fun e => hne e.symm)
      have h4 : 0 * ((c : Rat) * 2 ^ q) ≤ Y * ((c : Rat) * 2 ^ q) := by rw [Rat.zero_mul]; exact h1
      exact Rat.le_of_mul_le_mul_right h4 h3
  have hYX : ∀ M, Bd X M → Y ≤ M := fun M hM => by
    rw [hY]
    obtain ⟨h1, h2⟩ := hM
    cases s <;> cases u <;> simp <;> grind
  have hYG := hYX _ h
  -- the datum's worth, and the quotient's
  have hd : Nr (rv (.number (s ^^ u) mm pp)) X (Y * 2 ^ (-((k.format.fractionBits + 2 : Nat) : Int))) := by
    rw [rv_sign, hXY]
    unfold Nr at hcore ⊢
    cases s <;> cases u <;> simp at hcore ⊢ <;> constructor <;> grind
  obtain ⟨ε, hε⟩ : ∃ ε, ε = (2 : Rat) ^ (-((k.format.fractionBits + 2 : Nat) : Int)) := ⟨_, rfl⟩
  rw [← hε] at hu hd
  have hbd : ∀ M, Bd X M → Bd (rv (.number (s ^^ u) mm pp)) (M + M * ε) := fun M hM => by
    have h1 := hYX M hM
    have h2 : Y * ε ≤ M * ε := Rat.mul_le_mul_of_nonneg_right h1 (by grind)
    unfold Nr at hd
    unfold Bd at hM ⊢
    constructor <;> grind
  have hG : Bd (rv (.number (s ^^ u) mm pp)) Gr := (hbd _ h).mono (by unfold Gr; grind)
  obtain ⟨n1, n2⟩ := write_fl (k := k) hG
  refine ⟨n1, fun M hM => ?_⟩
  have h3 := (n2 _ (hbd M hM)).trans hd
  refine h3.mono ?_
  have h1 := hYX M hM
  have h2 : Y * ε ≤ M * ε := Rat.mul_le_mul_of_nonneg_right h1 (by grind)
  have hM0 := hM.nonneg
  have h4 : M * ε * U k ≤ M * ε * (1 / 16777216) := Rat.mul_le_mul_of_nonneg_left hul (Rat.mul_nonneg hM0 (by grind))
  have h5 : 0 ≤ M * ε := Rat.mul_nonneg hM0 (by grind)
  rw [← hu]
  rw [← hu] at h4
  grind

end Go.Proofs.Ytilfdpllleninaa
