/- The engine, part S: how great floats are. -/
import Derived.Test.YtilfdpllleninaaEngA
namespace Go.Proofs.Ytilfdpllleninaa
set_option linter.unusedVariables false
set_option linter.unusedSimpArgs false
open Ieee

/-- At most 2 ^ e. -/
def Amp (e : Int) : Datum → Prop
  | .number _ m p => m = 0 ∨ ∃ h : Nat, m ≤ 2 ^ h ∧ (h : Int) + p ≤ e
  | _ => False

theorem log2_of_le {m h : Nat} (hm : m ≠ 0) (h1 : m ≤ 2 ^ h) : m.log2 ≤ h := by
  have h2 := (Nat.le_log2 hm (k := m.log2)).1 (Nat.le_refl _)
  exact (Nat.pow_le_pow_iff_right (by decide : 1 < 2)).1 (Nat.le_trans h2 h1)

/-- Rounding to a place. -/
theorem cut_le {neg : Bool} {n drop j : Nat} (h : n ≤ 2 ^ (j + drop)) : Toward.even.cut neg n drop ≤ 2 ^ j := by
  unfold Toward.cut
  simp only [Nat.one_shiftLeft]
  have hj : 0 < 2 ^ j := Nat.pow_pos (by decide)
  by_cases hd : drop ≤ n.log2 + 2
  · rw [Nat.min_eq_left hd]
    have hpos : 0 < 2 ^ drop := Nat.pow_pos (by decide)
    rw [Nat.pow_add] at h
    rcases Nat.lt_or_ge n (2 ^ j * 2 ^ drop) with hlt | hge
    · have : n / 2 ^ drop < 2 ^ j := (Nat.div_lt_iff_lt_mul hpos).2 hlt
      have hb : ∀ b : Bool, b.toNat ≤ 1 := by decide
      exact Nat.le_trans (Nat.add_le_add_left (hb _) _) this
    · have he : n = 2 ^ j * 2 ^ drop := Nat.le_antisymm h hge
      rw [he, Nat.mul_div_cancel _ hpos, Nat.mul_mod_left]
      have h2 : (2 ^ drop == 0) = false := by rw [beq_eq_false_iff_ne]; omega
      simp [h2]
  · have hd : n.log2 + 2 < drop := by omega
    rw [Nat.min_eq_right (by omega)]
    have hn : n < 2 ^ (n.log2 + 1) := Nat.lt_log2_self
    have e : 2 ^ (n.log2 + 2) = 2 * 2 ^ (n.log2 + 1) := by rw [Nat.pow_succ]; omega
    have hlt : n < 2 ^ (n.log2 + 2) := by omega
    rw [Nat.div_eq_of_lt hlt, Nat.mod_eq_of_lt hlt]
    have h1 : ¬ (2 ^ (n.log2 + 2) < 2 * n) := by omega
    have h2 : ¬ (2 ^ (n.log2 + 2) = 2 * n) := by omega
    simp [h1, h2]

theorem nearest_core {fb : Nat} {lp place : Int} {e h mag : Nat} {neg : Bool} (hlp : lp + fb ≤ e) (hm : mag ≠ 0) (hh : mag ≤ 2 ^ h) (he : (h : Int) + place ≤ e) :
    (max (place + mag.log2 - fb) lp - lp).toNat * 2 ^ fb + Toward.even.cut neg (mag <<< (place - max (place + mag.log2 - fb) lp).toNat) (max (place + mag.log2 - fb) lp - place).toNat ≤ (e - lp - fb + 1).toNat * 2 ^ fb := by
  have hL := log2_of_le hm hh
  have hlt : mag < 2 ^ (mag.log2 + 1) := Nat.lt_log2_self
  generalize hl : mag.log2 = L at *
  have hpos : 0 < 2 ^ fb := Nat.pow_pos (by decide)
  have shl : ∀ s b : Nat, mag ≤ 2 ^ b → mag <<< s ≤ 2 ^ (b + s) := fun s b hb => by
    rw [Nat.shiftLeft_eq, Nat.pow_add]
    exact Nat.mul_le_mul_right _ hb
  by_cases hA : lp ≤ place + L - fb
  · rw [Int.max_eq_left hA]
    by_cases hE : place + L ≤ (e : Int) - 1
    · have hk : Toward.even.cut neg (mag <<< (place - (place + L - fb)).toNat) (place + L - fb - place).toNat ≤ 2 ^ (fb + 1) := by
        refine cut_le (Nat.le_trans (shl _ (L + 1) (Nat.le_of_lt hlt)) (Nat.pow_le_pow_right (by decide) ?_))
        omega
      have hb : (place + L - fb - lp).toNat * 2 ^ fb + 2 ^ (fb + 1) ≤ (e - lp - fb + 1).toNat * 2 ^ fb := by
        rw [Nat.pow_succ, Nat.mul_comm (2 ^ fb) 2, ← Nat.add_mul]
        exact Nat.mul_le_mul_right _ (by omega)
      omega
    · have hk : Toward.even.cut neg (mag <<< (place - (place + L - fb)).toNat) (place + L - fb - place).toNat ≤ 2 ^ fb := by
        refine cut_le (Nat.le_trans (shl _ L (Nat.le_trans hh (Nat.pow_le_pow_right (by decide) (by omega)))) (Nat.pow_le_pow_right (by decide) ?_))
        omega
      have hb : (place + L - fb - lp).toNat * 2 ^ fb + 2 ^ fb ≤ (e - lp - fb + 1).toNat * 2 ^ fb := by
        have : (place + L - fb - lp).toNat * 2 ^ fb + 2 ^ fb = ((place + L - fb - lp).toNat + 1) * 2 ^ fb := by rw [Nat.add_mul, Nat.one_mul]
        rw [this]
        exact Nat.mul_le_mul_right _ (by omega)
      omega
  · rw [Int.max_eq_right (by omega)]
    have hk : Toward.even.cut neg (mag <<< (place - lp).toNat) (lp - place).toNat ≤ 2 ^ fb := by
      refine cut_le (Nat.le_trans (shl _ (L + 1) (Nat.le_of_lt hlt)) (Nat.pow_le_pow_right (by decide) ?_))
      omega
    have hb : 2 ^ fb ≤ (e - lp - fb + 1).toNat * 2 ^ fb := Nat.le_mul_of_pos_left _ (by omega)
    rw [Int.sub_self, Int.toNat_zero, Nat.zero_mul, Nat.zero_add]
    exact Nat.le_trans hk hb

def fbits : FloatKind → Nat
  | .f32 => 23
  | .f64 => 52
def lplace : FloatKind → Int
  | .f32 => -149
  | .f64 => -1074
def emax : FloatKind → Nat
  | .f32 => 127
  | .f64 => 1023
/-- The rung of 2 ^ e. -/
def rungOf (k : FloatKind) (e : Nat) : Nat := (e - lplace k - fbits k + 1).toNat * 2 ^ fbits k

/-- Bits of a number that is at most 2 ^ e. -/
def Sm (k : FloatKind) (e : Nat) (x : Nat) : Prop := x % k.format.signWeight ≤ rungOf k e

theorem consts (k : FloatKind) : k.format.fractionBits = fbits k ∧ k.format.leastPlace = lplace k ∧ k.format.binade = 2 ^ fbits k ∧ k.format.infRung = rungOf k (emax k + 1) ∧ k.format.signWeight = 2 ^ (match k with | .f32 => 31 | .f64 => 63) := by
  cases k <;> decide +kernel

theorem nearest_sm {k : FloatKind} {e mag : Nat} {place : Int} {neg : Bool} (he : e ≤ emax k) (h : mag = 0 ∨ ∃ h : Nat, mag ≤ 2 ^ h ∧ (h : Int) + place ≤ e) : Sm k e (k.format.nearest neg mag place) := by
  obtain ⟨c1, c2, c3, c4, c5⟩ := consts k
  have hword : ∀ r, r ≤ rungOf k e → Sm k e (k.format.word neg r) := fun r hr => by
    unfold Sm Format.word
    have hlt : r < k.format.signWeight := by
      refine Nat.lt_of_le_of_lt hr ?_
      rw [c5]
      unfold rungOf
      cases k with
      | f32 => simp only [lplace, fbits, emax] at *; omega
      | f64 => simp only [lplace, fbits, emax] at *; omega
    cases neg
    · simp only [Bool.false_eq_true, if_false]
      exact Nat.le_trans (Nat.mod_le _ _) hr
    · simp only [if_true]
      rw [Nat.add_mod_left]
      exact Nat.le_trans (Nat.mod_le _ _) hr
  unfold Format.nearest
  by_cases hm : mag = 0
  · rw [if_pos hm]
    exact hword 0 (Nat.zero_le _)
  · rw [if_neg hm]
    refine hword _ (Nat.le_trans (Nat.min_le_left _ _) ?_)
    obtain ⟨h, h1, h2⟩ := h.resolve_left hm
    rw [c1, c2, c3]
    exact nearest_core (by cases k <;> simp only [lplace, fbits] <;> omega) hm h1 h2

theorem read_amp' {k : FloatKind} {e x : Nat} (hinf : x % k.format.signWeight < k.format.infRung) (h : Sm k e x) : Amp e (k.format.read x) := by
  obtain ⟨c1, c2, c3, c4, c5⟩ := consts k
  unfold Sm at h
  unfold Format.read
  simp only
  generalize x % k.format.signWeight = r at *
  rw [c3, c2]
  by_cases h1 : r < 2 ^ fbits k
  · rw [if_pos h1]
    refine .inr ⟨fbits k, Nat.le_of_lt h1, ?_⟩
    cases k <;> simp only [lplace, fbits] <;> omega
  · rw [if_neg h1, if_pos hinf]
    refine .inr ?_
    have hpos : 0 < 2 ^ fbits k := Nat.pow_pos (by decide)
    have hq1 : 1 ≤ r / 2 ^ fbits k := (Nat.le_div_iff_mul_le hpos).2 (by omega)
    have hdm := Nat.div_add_mod r (2 ^ fbits k)
    have hr : r % 2 ^ fbits k < 2 ^ fbits k := Nat.mod_lt _ hpos
    unfold rungOf at h
    generalize hqd : r / 2 ^ fbits k = q at *
    have hq : q ≤ (e - lplace k - fbits k + 1).toNat := by
      rw [← hqd]
      exact Nat.div_le_of_le_mul (by rw [Nat.mul_comm]; exact h)
    rcases Nat.lt_or_ge q (e - lplace k - fbits k + 1).toNat with hlt | hge
    · refine ⟨fbits k + 1, ?_, ?_⟩
      · rw [Nat.pow_succ]; omega
      · cases k <;> simp only [lplace, fbits] at * <;> omega
    · have hqe : q = (e - lplace k - fbits k + 1).toNat := Nat.le_antisymm hq hge
      have hz : r % 2 ^ fbits k = 0 := by
        rw [← hqe, Nat.mul_comm] at h
        omega
      refine ⟨fbits k, by rw [hz]; exact Nat.le_refl _, ?_⟩
      cases k <;> simp only [lplace, fbits] at * <;> omega

theorem read_amp {k : FloatKind} {e x : Nat} (he : e ≤ emax k) (h : Sm k e x) : Amp e (k.format.read x) := by
  obtain ⟨c1, c2, c3, c4, c5⟩ := consts k
  refine read_amp' ?_ h
  unfold Sm at h
  refine Nat.lt_of_le_of_lt h ?_
  rw [c4]
  unfold rungOf
  refine Nat.mul_lt_mul_of_pos_right ?_ (Nat.pow_pos (by decide))
  cases k <;> simp only [lplace, fbits, emax] at * <;> omega

/-- A number is at most 2 ^ (emax + 1). -/
theorem read_max {k : FloatKind} {x m : Nat} {s : Bool} {p : Int} (h : k.format.read x = .number s m p) : Amp (emax k + 1 : Nat) (k.format.read x) := by
  obtain ⟨c1, c2, c3, c4, c5⟩ := consts k
  have hinf : x % k.format.signWeight < k.format.infRung := by
    refine Nat.lt_of_not_le fun hge => ?_
    unfold Format.read at h
    simp only at h
    have hb : ¬ x % k.format.signWeight < k.format.binade := by
      refine Nat.not_lt.2 (Nat.le_trans ?_ hge)
      cases k <;> decide +kernel
    rw [if_neg hb, if_neg (by omega)] at h
    split at h <;> cases h
  exact read_amp' hinf (by unfold Sm; rw [← c4]; exact Nat.le_of_lt hinf)

theorem amp_number {e : Int} {d : Datum} (h : Amp e d) : ∃ s m p, d = .number s m p ∧ (m = 0 ∨ ∃ h : Nat, m ≤ 2 ^ h ∧ (h : Int) + p ≤ e) := by
  cases d with
  | number s m p => exact ⟨s, m, p, rfl, h⟩
  | infinity s => exact h.elim
  | nan s t => exact h.elim

theorem Amp.mono {e e' : Int} {d : Datum} (h : Amp e d) (he : e ≤ e') : Amp e' d := by
  obtain ⟨s, m, p, rfl, h⟩ := amp_number h
  exact h.imp (fun a => a) fun ⟨k, h1, h2⟩ => ⟨k, h1, by omega⟩

theorem product_amp {e1 e2 : Int} {a b : Datum} (h1 : Amp e1 a) (h2 : Amp e2 b) : ∃ d, a.product b = some d ∧ Amp (e1 + e2) d := by
  obtain ⟨s, m, p, rfl, h1⟩ := amp_number h1
  obtain ⟨t, n, q, rfl, h2⟩ := amp_number h2
  refine ⟨_, rfl, ?_⟩
  rcases h1 with rfl | ⟨i, hi, hi'⟩
  · exact .inl (Nat.zero_mul _)
  · rcases h2 with rfl | ⟨j, hj, hj'⟩
    · exact .inl (Nat.mul_zero _)
    · refine .inr ⟨i + j, ?_, by omega⟩
      rw [Nat.pow_add]
      exact Nat.mul_le_mul hi hj

theorem signed_abs (s : Bool) (m u : Nat) : (signed s m u).natAbs = m * 2 ^ u := by
  unfold signed
  rw [Nat.shiftLeft_eq]
  cases s
  · simp only [Bool.false_eq_true, if_false, Int.natAbs_natCast]
  · simp only [if_true, Int.natAbs_neg, Int.natAbs_natCast]

theorem sum_amp {e : Int} {a b : Datum} (h1 : Amp e a) (h2 : Amp e b) : ∃ d, a.sum b = some d ∧ Amp (e + 1) d := by
  obtain ⟨s, m, p, rfl, h1⟩ := amp_number h1
  obtain ⟨t, n, q, rfl, h2⟩ := amp_number h2
  refine ⟨_, rfl, ?_⟩
  have key : ∀ {m : Nat} {p base : Int} {s : Bool}, base ≤ p → (m = 0 ∨ ∃ h : Nat, m ≤ 2 ^ h ∧ (h : Int) + p ≤ e) → (signed s m (p - base).toNat).natAbs = 0 ∨ (0 ≤ e - base ∧ (signed s m (p - base).toNat).natAbs ≤ 2 ^ (e - base).toNat) := by
    intro m p base s hb h
    rw [signed_abs]
    rcases h with rfl | ⟨i, hi, hi'⟩
    · exact .inl (Nat.zero_mul _)
    · refine .inr ⟨by omega, ?_⟩
      refine Nat.le_trans (Nat.mul_le_mul_right _ hi) ?_
      rw [← Nat.pow_add]
      exact Nat.pow_le_pow_right (by decide) (by omega)
  have k1 := key (s := s) (base := min p q) (Int.min_le_left p q) h1
  have k2 := key (s := t) (base := min p q) (Int.min_le_right p q) h2
  generalize hx : signed s m (p - min p q).toNat = x at *
  generalize hy : signed t n (q - min p q).toNat = y at *
  have habs : (x + y).natAbs ≤ x.natAbs + y.natAbs := Int.natAbs_add_le x y
  show (x + y).natAbs = 0 ∨ _
  by_cases hz : (x + y).natAbs = 0
  · exact .inl hz
  · refine .inr ?_
    have hp : 0 ≤ e - min p q := by
      rcases k1 with h | h
      · rcases k2 with h' | h'
        · omega
        · exact h'.1
      · exact h.1
    have hpos : 0 < 2 ^ (e - min p q).toNat := Nat.pow_pos (by decide)
    refine ⟨(e - min p q).toNat + 1, ?_, by omega⟩
    rw [Nat.pow_succ]
    rcases k1 with h | h <;> rcases k2 with h' | h' <;> omega

theorem sm_finite {k : FloatKind} {e x : Nat} (he : e ≤ emax k) (h : Sm k e x) : isNaN k x = false := by
  obtain ⟨s, m, p, hd, _⟩ := amp_number (read_amp he h)
  unfold isNaN
  rw [hd]
  rfl

theorem sm_canon {k : FloatKind} {e x : Nat} (he : e ≤ emax k) (h : Sm k e x) : canon k x = x := by
  unfold canon
  rw [sm_finite he h]
  rfl

theorem Sm.mono {k : FloatKind} {e e' x : Nat} (h : Sm k e x) (he : e ≤ e') : Sm k e' x := by
  refine Nat.le_trans h ?_
  unfold rungOf
  exact Nat.mul_le_mul_right _ (by omega)

theorem write_sm {k : FloatKind} {e : Nat} {d : Datum} (he : e ≤ emax k) (h : Amp e d) : Sm k e (k.format.write d) := by
  obtain ⟨s, m, p, rfl, h⟩ := amp_number h
  exact nearest_sm he h

theorem fopt_sm {k : FloatKind} {e : Nat} {o : Option Datum} (he : e ≤ emax k) (h : ∃ d, o = some d ∧ Amp e d) : Sm k e (fopt k (o.map k.format.write)) := by
  obtain ⟨d, rfl, h⟩ := h
  have h1 := write_sm he h
  show Sm k e (canon k (k.format.write d))
  rw [sm_canon he h1]
  exact h1

theorem fmul_sm {k : FloatKind} {e1 e2 x y : Nat} (h1 : Sm k e1 x) (h2 : Sm k e2 y) (he : e1 + e2 ≤ emax k) : Sm k (e1 + e2) (fmul k x y) :=
  fopt_sm he (by have := product_amp (read_amp (by omega) h1) (read_amp (by omega) h2); simpa using this)

theorem fadd_sm {k : FloatKind} {e x y : Nat} (h1 : Sm k e x) (h2 : Sm k e y) (he : e + 1 ≤ emax k) : Sm k (e + 1) (fadd k x y) :=
  fopt_sm he (by have := sum_amp (read_amp (by omega) h1) (read_amp (by omega) h2); simpa using this)

theorem opposite_amp {e : Int} {d : Datum} (h : Amp e d) : Amp e d.opposite := by
  obtain ⟨s, m, p, rfl, h⟩ := amp_number h
  exact h

theorem fsub_sm {k : FloatKind} {e x y : Nat} (h1 : Sm k e x) (h2 : Sm k e y) (he : e + 1 ≤ emax k) : Sm k (e + 1) (fsub k x y) :=
  fopt_sm he (by have := sum_amp (read_amp (by omega) h1) (opposite_amp (read_amp (by omega) h2)); simpa using this)

theorem fneg_sm {k : FloatKind} {e x : Nat} (he : e ≤ emax k) (h : Sm k e x) : Sm k e (fneg k x) := by
  have hs : Sm k e (Op.negFloat k x) := by
    unfold Sm at h ⊢
    unfold Op.negFloat Format.signWeight at *
    rw [Nat.xor_mod_two_pow, Nat.mod_self, Nat.xor_zero]
    exact h
  unfold fneg
  rw [sm_canon he hs]
  exact hs

theorem not_inf {k : FloatKind} {e : Nat} {d : Datum} (he : e ≤ emax k) (h : Amp e d) : (k.decode (k.encode d)).isInfinity = false := by
  obtain ⟨s, m, p, hd, _⟩ := amp_number (read_amp he (write_sm he h))
  show (k.format.read (k.format.write d)).isInfinity = false
  rw [hd]
  rfl

/-- To the wider kind, all fits. -/
theorem fconvOk_up (x : Nat) : fconvOk .f32 x .f64 = true := by
  unfold fconvOk
  cases hd : FloatKind.f32.decode x with
  | nan _ _ => rfl
  | infinity _ => rfl
  | number s m p =>
    have h := read_max (k := .f32) hd
    rw [show FloatKind.f32.format.read x = FloatKind.f32.decode x from rfl, hd] at h
    show (!_) = true
    rw [not_inf (k := .f64) (e := 128) (by decide) (h.mono (by decide))]
    rfl

theorem fconvOk_down {e x : Nat} (he : e ≤ 127) (h : Sm .f64 e x) : fconvOk .f64 x .f32 = true := by
  unfold fconvOk
  have h1 := read_amp (k := .f64) (by simp only [emax]; omega) h
  cases hd : FloatKind.f64.decode x with
  | nan _ _ => rfl
  | infinity _ => rfl
  | number s m p =>
    rw [show FloatKind.f64.format.read x = FloatKind.f64.decode x from rfl, hd] at h1
    show (!_) = true
    rw [not_inf (k := .f32) (e := e) he h1]
    rfl

theorem fconv_sm {s d : FloatKind} {e x : Nat} (he : e ≤ emax s) (he' : e ≤ emax d) (h : Sm s e x) : Sm d e (fconv s x d) := by
  have h1 := read_amp he h
  unfold fconv
  rw [show s.format.read x = s.decode x from rfl] at h1
  cases hd : s.decode x with
  | nan _ _ => rw [hd] at h1; exact h1.elim
  | infinity _ => rw [hd] at h1; exact h1.elim
  | number n m p =>
    rw [hd] at h1
    have h2 := write_sm he' h1
    show Sm d e (canon d (d.format.write (.number n m p)))
    rw [sm_canon he' h2]
    exact h2

/-! ## There and back -/

theorem cut_zero (neg : Bool) (n : Nat) : Toward.even.cut neg n 0 = n := by
  unfold Toward.cut
  simp only [Nat.one_shiftLeft, Nat.zero_min, Nat.pow_zero, Nat.div_one, Nat.mod_one]
  simp

/-- Bits of the kind. -/
def Wd (k : FloatKind) (x : Nat) : Prop := x < 2 * k.format.signWeight

theorem word_read {k : FloatKind} {x : Nat} (hx : Wd k x) : k.format.word (x / k.format.signWeight % 2 == 1) (x % k.format.signWeight) = x := by
  unfold Format.word
  unfold Wd at hx
  have hdm := Nat.div_add_mod x k.format.signWeight
  have hpos : 0 < k.format.signWeight := by cases k <;> decide +kernel
  have hq : x / k.format.signWeight < 2 := (Nat.div_lt_iff_lt_mul hpos).2 hx
  generalize x / k.format.signWeight = q at *
  have hq' : q = 0 ∨ q = 1 := by omega
  rcases hq' with rfl | rfl
  · simp at hdm ⊢; exact hdm
  · simp at hdm ⊢; exact hdm

/-- What is read of bits, written, is the bits. -/
theorem write_read {k : FloatKind} {x m : Nat} {s : Bool} {p : Int} (hx : Wd k x) (h : k.format.read x = .number s m p) : k.format.nearest s m p = x := by
  obtain ⟨c1, c2, c3, c4, c5⟩ := consts k
  have hw := word_read hx
  have hinf : x % k.format.signWeight < k.format.infRung := by
    refine Nat.lt_of_not_le fun hge => ?_
    unfold Format.read at h
    simp only at h
    have hb : ¬ x % k.format.signWeight < k.format.binade := by
      refine Nat.not_lt.2 (Nat.le_trans ?_ hge)
      cases k <;> decide +kernel
    rw [if_neg hb, if_neg (by omega)] at h
    split at h <;> cases h
  unfold Format.read at h
  simp only at h
  generalize x % k.format.signWeight = r at *
  generalize (x / k.format.signWeight % 2 == 1) = b at *
  have hpos : 0 < 2 ^ fbits k := Nat.pow_pos (by decide)
  by_cases h1 : r < k.format.binade
  · rw [if_pos h1] at h
    simp only [Datum.number.injEq] at h
    rw [← h.1, ← h.2.1, ← h.2.2]
    unfold Format.nearest
    by_cases hm : r = 0
    · rw [if_pos hm]
      rw [hm] at hw
      exact hw
    · rw [if_neg hm]
      rw [c3] at h1
      have hl : r.log2 < fbits k := (Nat.log2_lt hm).2 h1
      have hmax : max (k.format.leastPlace + r.log2 - k.format.fractionBits) k.format.leastPlace = k.format.leastPlace := Int.max_eq_right (by rw [c1]; omega)
      simp only [hmax, Int.sub_self, Int.toNat_zero, Nat.shiftLeft_zero, Nat.zero_mul, Nat.zero_add, cut_zero]
      rw [Nat.min_eq_left (Nat.le_of_lt hinf)]
      exact hw
  · rw [if_neg h1, if_pos hinf] at h
    simp only [Datum.number.injEq] at h
    obtain ⟨rfl, rfl, rfl⟩ := h
    rw [c3] at h1
    have hdm := Nat.div_add_mod r (2 ^ fbits k)
    have hr : r % 2 ^ fbits k < 2 ^ fbits k := Nat.mod_lt _ hpos
    have hq1 : 1 ≤ r / 2 ^ fbits k := (Nat.le_div_iff_mul_le hpos).2 (by omega)
    unfold Format.nearest
    rw [c3]
    have hm : 2 ^ fbits k + r % 2 ^ fbits k ≠ 0 := by omega
    rw [if_neg hm]
    have hl : (2 ^ fbits k + r % 2 ^ fbits k).log2 = fbits k := by
      refine (Nat.log2_eq_iff hm).2 ⟨by omega, ?_⟩
      rw [Nat.pow_succ]; omega
    have hmax : max (k.format.leastPlace + ((r / 2 ^ fbits k - 1 : Nat) : Int) + ((2 ^ fbits k + r % 2 ^ fbits k).log2 : Nat) - (k.format.fractionBits : Nat)) k.format.leastPlace = k.format.leastPlace + ((r / 2 ^ fbits k - 1 : Nat) : Int) := by
      rw [hl, c1]
      rw [Int.max_eq_left (by omega)]
      omega
    simp only [hmax, Int.sub_self, Int.toNat_zero, Nat.shiftLeft_zero, cut_zero]
    have hrung : (k.format.leastPlace + ((r / 2 ^ fbits k - 1 : Nat) : Int) - k.format.leastPlace).toNat * 2 ^ fbits k + (2 ^ fbits k + r % 2 ^ fbits k) = r := by
      rw [show (k.format.leastPlace + ((r / 2 ^ fbits k - 1 : Nat) : Int) - k.format.leastPlace).toNat = r / 2 ^ fbits k - 1 from by omega]
      have e1 : (r / 2 ^ fbits k - 1) * 2 ^ fbits k + 2 ^ fbits k = (r / 2 ^ fbits k) * 2 ^ fbits k := by
        rw [← Nat.succ_mul, Nat.succ_eq_add_one, Nat.sub_add_cancel hq1]
      rw [Nat.mul_comm (r / 2 ^ fbits k) _] at e1
      omega
    rw [hrung, Nat.min_eq_left (Nat.le_of_lt hinf)]
    exact hw

theorem log2_scale {n t : Nat} (hn : n ≠ 0) : (n * 2 ^ t).log2 = n.log2 + t := by
  have hpos : 0 < 2 ^ t := Nat.pow_pos (by decide)
  have hne : n * 2 ^ t ≠ 0 := Nat.mul_ne_zero hn (by omega)
  refine (Nat.log2_eq_iff hne).2 ⟨?_, ?_⟩
  · rw [Nat.pow_add]
    exact Nat.mul_le_mul_right _ (Nat.log2_self_le hn)
  · rw [show n.log2 + t + 1 = n.log2 + 1 + t from by omega, Nat.pow_add]
    exact Nat.mul_lt_mul_of_pos_right Nat.lt_log2_self hpos

theorem cut_scale {neg : Bool} {n d t : Nat} (hn : n ≠ 0) : Toward.even.cut neg (n * 2 ^ t) (d + t) = Toward.even.cut neg n d := by
  unfold Toward.cut
  simp only [Nat.one_shiftLeft]
  have hpos : 0 < 2 ^ t := Nat.pow_pos (by decide)
  have hmin : min (d + t) ((n * 2 ^ t).log2 + 2) = min d (n.log2 + 2) + t := by rw [log2_scale hn]; omega
  rw [hmin, Nat.pow_add, Nat.mul_div_mul_right _ _ hpos, Nat.mul_mod_mul_right]
  generalize n / 2 ^ min d (n.log2 + 2) = lo
  generalize n % 2 ^ min d (n.log2 + 2) = re
  generalize 2 ^ min d (n.log2 + 2) = ga
  have e1 : decide (ga * 2 ^ t < 2 * (re * 2 ^ t)) = decide (ga < 2 * re) := by
    rw [decide_eq_decide, ← Nat.mul_assoc]
    exact Nat.mul_lt_mul_right hpos
  have e2 : (ga * 2 ^ t == 2 * (re * 2 ^ t)) = (ga == 2 * re) := by
    rw [Bool.eq_iff_iff, beq_iff_eq, beq_iff_eq, ← Nat.mul_assoc]
    exact Nat.mul_right_cancel_iff hpos
  rw [e1, e2]

theorem nearest_scale {k : FloatKind} {neg : Bool} {m s : Nat} {p : Int} : k.format.nearest neg (m * 2 ^ s) p = k.format.nearest neg m (p + s) := by
  unfold Format.nearest
  have hpos : 0 < 2 ^ s := Nat.pow_pos (by decide)
  by_cases hm : m = 0
  · subst hm; simp
  · have hne : m * 2 ^ s ≠ 0 := Nat.mul_ne_zero hm (by omega)
    rw [if_neg hne, if_neg hm]
    have hl : max (p + (m * 2 ^ s).log2 - k.format.fractionBits) k.format.leastPlace = max (p + s + m.log2 - k.format.fractionBits) k.format.leastPlace := by
      rw [log2_scale hm]
      congr 1
      omega
    simp only [hl]
    generalize max (p + s + m.log2 - k.format.fractionBits) k.format.leastPlace = last
    have hk : Toward.even.cut neg ((m * 2 ^ s) <<< (p - last).toNat) (last - p).toNat = Toward.even.cut neg (m <<< (p + s - last).toNat) (last - (p + s)).toNat := by
      rcases Int.le_total last p with h1 | h1
      · rw [show (last - p).toNat = 0 from by omega, show (last - (p + s)).toNat = 0 from by omega, Nat.shiftLeft_eq, Nat.shiftLeft_eq, Nat.mul_assoc, ← Nat.pow_add]
        rw [show s + (p - last).toNat = (p + s - last).toNat from by omega]
      · rw [show (p - last).toNat = 0 from by omega, Nat.shiftLeft_zero]
        rcases Int.le_total last (p + s) with h2 | h2
        · rw [show (last - (p + s)).toNat = 0 from by omega, Nat.shiftLeft_eq]
          have e : m * 2 ^ s = m * 2 ^ (p + s - last).toNat * 2 ^ (last - p).toNat := by
            rw [Nat.mul_assoc, ← Nat.pow_add]
            rw [show (p + s - last).toNat + (last - p).toNat = s from by omega]
          rw [e]
          have := cut_scale (neg := neg) (n := m * 2 ^ (p + s - last).toNat) (d := 0) (t := (last - p).toNat) (Nat.mul_ne_zero hm (by have := Nat.pow_pos (n := (p + s - last).toNat) (by decide : 0 < 2); omega))
          rw [Nat.zero_add] at this
          exact this
        · rw [show (p + s - last).toNat = 0 from by omega, Nat.shiftLeft_zero]
          rw [show (last - p).toNat = (last - (p + s)).toNat + s from by omega]
          exact cut_scale hm
    rw [hk]

theorem place_ge {k : FloatKind} {x m : Nat} {s : Bool} {p : Int} (h : k.format.read x = .number s m p) : k.format.leastPlace ≤ p := by
  unfold Format.read at h
  simp only at h
  split at h
  · simp only [Datum.number.injEq] at h; omega
  · split at h
    · simp only [Datum.number.injEq] at h; omega
    · split at h <;> cases h

theorem read_zero (k : FloatKind) : k.format.read 0 = .number false 0 k.format.leastPlace := by cases k <;> decide +kernel

theorem canon_zero (k : FloatKind) : canon k 0 = 0 := by cases k <;> decide +kernel

theorem canon_num {k : FloatKind} {x m : Nat} {s : Bool} {p : Int} (h : k.format.read x = .number s m p) : canon k x = x := by
  unfold canon isNaN
  rw [h]
  rfl

theorem signed_neg {s : Bool} {m u : Nat} (hm : m ≠ 0) : decide (signed s m u < 0) = s := by
  unfold signed
  rw [Nat.shiftLeft_eq]
  have hpos : 0 < m * 2 ^ u := Nat.mul_pos (by omega) (Nat.pow_pos (by decide))
  cases s
  · simp only [Bool.false_eq_true, if_false, decide_eq_false_iff_not]; omega
  · simp only [if_true, decide_eq_true_eq]; omega

/-- A number and nothing. -/
theorem fadd_zero {k : FloatKind} {x m : Nat} {s : Bool} {p : Int} (hx : Wd k x) (h : k.format.read x = .number s m p) : fadd k x 0 = if m = 0 then 0 else x := by
  unfold fadd Format.add
  rw [h, read_zero]
  have hp := place_ge h
  simp only [Datum.sum, Int.min_eq_right hp, Option.map_some, fopt, Format.write]
  have hz : signed false 0 (k.format.leastPlace - k.format.leastPlace).toNat = 0 := by simp [signed]
  rw [hz, Int.add_zero]
  by_cases hm : m = 0
  · subst hm
    have : signed s 0 (p - k.format.leastPlace).toNat = 0 := by cases s <;> simp [signed]
    rw [this]
    simp only [if_true, Bool.and_false, Int.natAbs_zero, Format.nearest, Format.word, Bool.false_eq_true, if_false]
    exact canon_zero k
  · have hne : signed s m (p - k.format.leastPlace).toNat ≠ 0 := fun e => by
      have := signed_abs s m (p - k.format.leastPlace).toNat
      rw [e] at this
      have hpos : 0 < m * 2 ^ (p - k.format.leastPlace).toNat := Nat.mul_pos (by omega) (Nat.pow_pos (by decide))
      simp at this
      omega
    rw [if_neg hne, if_neg hm, signed_neg hm, signed_abs, nearest_scale]
    rw [show k.format.leastPlace + ((p - k.format.leastPlace).toNat : Int) = p from by omega]
    rw [write_read hx h]
    exact canon_num h

theorem nearest_wd {k : FloatKind} {s : Bool} {m : Nat} {p : Int} : Wd k (k.format.nearest s m p) := by
  obtain ⟨c1, c2, c3, c4, c5⟩ := consts k
  have hinf : k.format.infRung < k.format.signWeight := by cases k <;> decide +kernel
  have hword : ∀ r, r ≤ k.format.infRung → Wd k (k.format.word s r) := fun r hr => by
    unfold Wd Format.word
    cases s
    · simp only [Bool.false_eq_true, if_false]; omega
    · simp only [if_true]; omega
  unfold Format.nearest
  split
  · exact hword 0 (Nat.zero_le _)
  · exact hword _ (Nat.min_le_right _ _)

/-- What is written of a whole number that is not nothing is not nothing. -/
theorem nearest_ne {k : FloatKind} {s : Bool} {m e : Nat} (hm : m ≠ 0) (he : e ≤ emax k) (h : m ≤ 2 ^ e) : ∃ n p, k.format.read (k.format.nearest s m 0) = .number s n p ∧ n ≠ 0 := by
  obtain ⟨c1, c2, c3, c4, c5⟩ := consts k
  have hsm : Sm k e (k.format.nearest s m 0) := nearest_sm he (.inr ⟨e, h, by omega⟩)
  obtain ⟨t, n, p, hr, _⟩ := amp_number (read_amp he hsm)
  have hwd : Wd k (k.format.nearest s m 0) := nearest_wd
  have hinf : k.format.infRung < k.format.signWeight := by cases k <;> decide +kernel
  have hpos : 0 < 2 ^ fbits k := Nat.pow_pos (by decide)
  -- the rung
  have hrung : ∃ r, k.format.nearest s m 0 = k.format.word s r ∧ r ≠ 0 ∧ r ≤ k.format.infRung := by
    unfold Format.nearest
    rw [if_neg hm]
    refine ⟨_, rfl, ?_, Nat.min_le_right _ _⟩
    have hi : k.format.infRung ≠ 0 := by cases k <;> decide +kernel
    have hne : (max (0 + (m.log2 : Int) - k.format.fractionBits) k.format.leastPlace - k.format.leastPlace).toNat * k.format.binade + Toward.even.cut s (m <<< (0 - max (0 + (m.log2 : Int) - k.format.fractionBits) k.format.leastPlace).toNat) (max (0 + (m.log2 : Int) - k.format.fractionBits) k.format.leastPlace - 0).toNat ≠ 0 := by
      rw [c1, c2, c3]
      by_cases hl : (m.log2 : Int) ≤ fbits k
      · have h0 : (max (0 + (m.log2 : Int) - fbits k) (lplace k) - 0).toNat = 0 := by
          cases k <;> simp only [lplace, fbits] at * <;> omega
        rw [h0, cut_zero, Nat.shiftLeft_eq]
        have := Nat.mul_pos (Nat.pos_of_ne_zero hm) (Nat.pow_pos (n := (0 - max (0 + (m.log2 : Int) - fbits k) (lplace k)).toNat) (by decide : 0 < 2))
        omega
      · have h0 : 1 ≤ (max (0 + (m.log2 : Int) - fbits k) (lplace k) - lplace k).toNat := by
          cases k <;> simp only [lplace, fbits] at * <;> omega
        have := Nat.mul_le_mul_right (2 ^ fbits k) h0
        omega
    omega
  obtain ⟨r, hw, hr0, hri⟩ := hrung
  have hmod : k.format.nearest s m 0 % k.format.signWeight = r := by
    rw [hw]
    unfold Format.word
    cases s
    · simp only [Bool.false_eq_true, if_false]; exact Nat.mod_eq_of_lt (by omega)
    · simp only [if_true]; rw [Nat.add_mod_left]; exact Nat.mod_eq_of_lt (by omega)
  have hsgn : (k.format.nearest s m 0 / k.format.signWeight % 2 == 1) = s := by
    rw [hw]
    unfold Format.word
    cases s
    · simp only [Bool.false_eq_true, if_false]
      rw [Nat.div_eq_of_lt (by omega)]
      rfl
    · simp only [if_true]
      have hsw : 0 < k.format.signWeight := by omega
      rw [Nat.add_div_left _ hsw, Nat.div_eq_of_lt (by omega)]
      rfl
  refine ⟨n, p, ?_, ?_⟩
  · rw [hr]
    unfold Format.read at hr
    simp only [hsgn] at hr
    split at hr
    · simp only [Datum.number.injEq] at hr; rw [hr.1]
    · split at hr
      · simp only [Datum.number.injEq] at hr; rw [hr.1]
      · split at hr <;> cases hr
  · unfold Format.read at hr
    simp only [hmod] at hr
    split at hr
    · simp only [Datum.number.injEq] at hr; omega
    · split at hr
      · simp only [Datum.number.injEq] at hr
        have : 0 < k.format.binade := by rw [c3]; exact hpos
        omega
      · split at hr <;> cases hr

end Go.Proofs.Ytilfdpllleninaa
