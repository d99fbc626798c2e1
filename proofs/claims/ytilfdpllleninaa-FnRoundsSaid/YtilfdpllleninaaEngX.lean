/- The engine, part X: angles; halves. -/
import Derived.Test.YtilfdpllleninaaEngW
namespace Go.Proofs.Ytilfdpllleninaa
set_option linter.unusedVariables false
set_option linter.unusedSimpArgs false
set_option exponentiation.threshold 3000
open Ieee

/-! ## Bounds from below -/

theorem read_word {k : FloatKind} {s : Bool} {r : Nat} (h : r < k.format.signWeight) : k.format.word s r % k.format.signWeight = r ∧ (k.format.word s r / k.format.signWeight % 2 == 1) = s := by
  unfold Format.word
  cases s
  · simp only [Bool.false_eq_true, if_false]
    exact ⟨Nat.mod_eq_of_lt h, by rw [Nat.div_eq_of_lt h]; rfl⟩
  · simp only [if_true]
    refine ⟨by rw [Nat.add_mod_left]; exact Nat.mod_eq_of_lt h, ?_⟩
    have hsw : 0 < k.format.signWeight := by omega
    rw [Nat.add_div_left _ hsw, Nat.div_eq_of_lt h]
    rfl

theorem cut_ge {neg : Bool} {n drop j : Nat} (h : 2 ^ (j + drop) ≤ n) : 2 ^ j ≤ Toward.even.cut neg n drop := by
  unfold Toward.cut
  simp only [Nat.one_shiftLeft]
  have hn : n ≠ 0 := by have := Nat.pow_pos (n := j + drop) (by decide : 0 < 2); omega
  have hl : j + drop ≤ n.log2 := (Nat.le_log2 hn).2 h
  rw [Nat.min_eq_left (by omega)]
  refine Nat.le_trans ?_ (Nat.le_add_right _ _)
  rw [Nat.le_div_iff_mul_le (Nat.pow_pos (by decide)), ← Nat.pow_add]
  exact h

/-- What is written of a number that is at least 2 ^ d is so, if it does not run over. -/
theorem nearest_lb {k : FloatKind} {s : Bool} {mag e d : Nat} {place : Int} (he : e ≤ emax k) (hup : ∃ h : Nat, mag ≤ 2 ^ h ∧ (h : Int) + place ≤ e) (hlo : ∃ h : Nat, 2 ^ h ≤ mag ∧ (d : Int) ≤ h + place) : Lb d (k.format.read (k.format.nearest s mag place)) ∧ ∃ m p, k.format.read (k.format.nearest s mag place) = .number s m p := by
  obtain ⟨c1, c2, c3, c4, c5⟩ := consts k
  obtain ⟨h, h1, h2⟩ := hlo
  have hm : mag ≠ 0 := by have := Nat.pow_pos (n := h) (by decide : 0 < 2); omega
  have hsm : Sm k e (k.format.nearest s mag place) := nearest_sm he (.inr hup)
  obtain ⟨t, n, p, hr, _⟩ := amp_number (read_amp he hsm)
  have hL : h ≤ mag.log2 := (Nat.le_log2 hm).2 h1
  have hself := Nat.log2_self_le hm
  have hpos : 0 < 2 ^ fbits k := Nat.pow_pos (by decide)
  have hinf : k.format.infRung < k.format.signWeight := by cases k <;> decide
  generalize hlast : max (place + mag.log2 - k.format.fractionBits) k.format.leastPlace = last at *
  have hkept : 2 ^ fbits k ≤ Toward.even.cut s (mag <<< (place - last).toNat) (last - place).toNat := by
    refine cut_ge ?_
    rw [Nat.shiftLeft_eq]
    refine Nat.le_trans ?_ (Nat.mul_le_mul_right _ hself)
    rw [← Nat.pow_add]
    refine Nat.pow_le_pow_right (by decide) ?_
    rw [c1, c2] at hlast
    cases k <;> simp only [lplace, fbits] at * <;> omega
  have hw : k.format.nearest s mag place = k.format.word s (min ((last - k.format.leastPlace).toNat * k.format.binade + Toward.even.cut s (mag <<< (place - last).toNat) (last - place).toNat) k.format.infRung) := by
    unfold Format.nearest
    rw [if_neg hm]
    simp only [hlast]
  generalize hR : min ((last - k.format.leastPlace).toNat * k.format.binade + Toward.even.cut s (mag <<< (place - last).toNat) (last - place).toNat) k.format.infRung = R at *
  obtain ⟨hmod, hsgn⟩ := read_word (k := k) (s := s) (r := R) (by omega)
  have hRlt : R < k.format.infRung := by
    refine Nat.lt_of_not_le fun hge => ?_
    rw [hw] at hr
    unfold Format.read at hr
    simp only [hmod] at hr
    have hb : ¬ R < k.format.binade := by
      refine Nat.not_lt.2 (Nat.le_trans ?_ hge)
      cases k <;> decide +kernel
    rw [if_neg hb, if_neg (by omega)] at hr
    split at hr <;> cases hr
  rw [Nat.min_def] at hR
  split at hR
  · rename_i hle
    rw [c2, c3] at hR
    generalize Toward.even.cut s (mag <<< (place - last).toNat) (last - place).toNat = kept at *
    have hRge : (last - lplace k).toNat * 2 ^ fbits k + 2 ^ fbits k ≤ R := by omega
    have hread : k.format.read (k.format.nearest s mag place) = .number s (2 ^ fbits k + R % 2 ^ fbits k) (lplace k + ((R / 2 ^ fbits k - 1 : Nat) : Int)) := by
      rw [hw]
      unfold Format.read
      simp only [hmod, hsgn]
      rw [if_neg (by rw [c3]; omega), if_pos hRlt, c3, c2]
    rw [hread]
    refine ⟨⟨fbits k, Nat.le_add_right _ _, ?_⟩, _, _, rfl⟩
    have hdiv : (last - lplace k).toNat + 1 ≤ R / 2 ^ fbits k := by
      rw [Nat.le_div_iff_mul_le hpos, Nat.add_mul, Nat.one_mul]
      exact hRge
    rw [c1, c2] at hlast
    cases k <;> simp only [lplace, fbits] at * <;> omega
  · omega

/-- A number that is not below nothing. -/
def Pos (d : Datum) : Prop := ∃ m p, d = .number false m p

theorem canon_read {k : FloatKind} {b : Nat} {s : Bool} {m : Nat} {p : Int} (h : k.format.read b = .number s m p) : k.format.read (canon k b) = .number s m p := by
  rw [canon_num h]; exact h

theorem nearest_pos {k : FloatKind} {m e : Nat} {p : Int} (he : e ≤ emax k) (h : m = 0 ∨ ∃ h : Nat, m ≤ 2 ^ h ∧ (h : Int) + p ≤ e) : Pos (k.format.read (k.format.nearest false m p)) := by
  have hsm : Sm k e (k.format.nearest false m p) := nearest_sm he h
  obtain ⟨t, n, q, hr, _⟩ := amp_number (read_amp he hsm)
  refine ⟨n, q, ?_⟩
  rw [hr]
  congr 1
  have hinf : k.format.infRung < k.format.signWeight := by cases k <;> decide
  have hw : ∃ R, R ≤ k.format.infRung ∧ k.format.nearest false m p = k.format.word false R := by
    unfold Format.nearest
    split
    · exact ⟨0, Nat.zero_le _, rfl⟩
    · exact ⟨_, Nat.min_le_right _ _, rfl⟩
  obtain ⟨R, hR, hw⟩ := hw
  obtain ⟨hmod, hsgn⟩ := read_word (k := k) (s := false) (r := R) (by omega)
  rw [hw] at hr
  unfold Format.read at hr
  simp only [hmod, hsgn] at hr
  split at hr
  · simp only [Datum.number.injEq] at hr; exact hr.1.symm
  · split at hr
    · simp only [Datum.number.injEq] at hr; exact hr.1.symm
    · split at hr <;> cases hr

/-- A square is not below nothing. -/
theorem fmul_self_pos {k : FloatKind} {e x : Nat} (h : Sm k e x) (he : e + e ≤ emax k) : Pos (k.format.read (fmul k x x)) := by
  obtain ⟨s, m, p, hd, ha⟩ := amp_number (read_amp (by omega) h)
  have hp : ((Datum.number s m p).product (.number s m p)) = some (.number false (m * m) (p + p)) := by
    simp only [Datum.product, Bool.xor_self]
  obtain ⟨d, hd2, ham⟩ := product_amp (read_amp (by omega) h) (read_amp (by omega) h)
  rw [hd, hp] at hd2
  cases hd2
  unfold fmul Format.mul
  rw [hd, hp]
  obtain ⟨m', p', hr⟩ := nearest_pos (k := k) (m := m * m) (p := p + p) he (by
    have : Amp ((e + e : Nat) : Int) (.number false (m * m) (p + p)) := by simpa using ham
    exact this)
  exact ⟨m', p', canon_read hr⟩

/-- One and what is not below nothing. -/
theorem fadd_one {x e : Nat} (he : e + 1 ≤ 1023) (h : Sm .f64 e x) (hp : Pos (FloatKind.f64.format.read x)) : Lb 0 (FloatKind.f64.format.read (fadd .f64 4607182418800017408 x)) ∧ Pos (FloatKind.f64.format.read (fadd .f64 4607182418800017408 x)) := by
  obtain ⟨m, p, hx⟩ := hp
  have h1 : FloatKind.f64.format.read 4607182418800017408 = .number false 4503599627370496 (-52) := by decide +kernel
  have s1 : Sm .f64 e 4607182418800017408 := (show Sm .f64 0 4607182418800017408 by unfold Sm; decide +kernel).mono (Nat.zero_le _)
  obtain ⟨d, hd, ha⟩ := sum_amp (read_amp (by simp only [emax]; omega) s1) (read_amp (by simp only [emax]; omega) h)
  have hs : FloatKind.f64.format.add 4607182418800017408 x = some (FloatKind.f64.format.write d) := by
    unfold Format.add
    rw [hd]
    rfl
  rw [h1, hx] at hd
  simp only [Datum.sum, Option.some.injEq] at hd
  have hge : ((4503599627370496 * 2 ^ (-52 - min (-52) p).toNat : Nat) : Int) ≤ signed false 4503599627370496 (-52 - min (-52) p).toNat + signed false m (p - min (-52) p).toNat := by
    unfold signed
    simp only [Bool.false_eq_true, if_false, Nat.shiftLeft_eq]
    generalize 4503599627370496 * 2 ^ (-52 - min (-52) p).toNat = a
    generalize m * 2 ^ (p - min (-52) p).toNat = b
    omega
  generalize signed false 4503599627370496 (-52 - min (-52) p).toNat + signed false m (p - min (-52) p).toNat = T at *
  have hp2 : 0 < 4503599627370496 * 2 ^ (-52 - min (-52) p).toNat := Nat.mul_pos (by decide) (Nat.pow_pos (by decide))
  have hT : 0 < T := by
    generalize 4503599627370496 * 2 ^ (-52 - min (-52) p).toNat = a at *
    omega
  rw [if_neg (by omega), show decide (T < 0) = false from decide_eq_false (by omega)] at hd
  subst hd
  have ham : T.natAbs = 0 ∨ ∃ h : Nat, T.natAbs ≤ 2 ^ h ∧ (h : Int) + min (-52) p ≤ ((e + 1 : Nat) : Int) := ha
  have hup := ham.resolve_left (by omega)
  have hlo : ∃ h : Nat, 2 ^ h ≤ T.natAbs ∧ ((0 : Nat) : Int) ≤ h + min (-52) p := by
    refine ⟨52 + (-52 - min (-52) p).toNat, ?_, by omega⟩
    have e52 : (2 : Nat) ^ 52 = 4503599627370496 := by decide
    rw [Nat.pow_add, e52]
    generalize 4503599627370496 * 2 ^ (-52 - min (-52) p).toNat = a at *
    omega
  obtain ⟨g1, m', p', g2⟩ := nearest_lb (k := .f64) (s := false) (e := e + 1) (d := 0) he hup hlo
  have hadd : fadd .f64 4607182418800017408 x = FloatKind.f64.format.nearest false T.natAbs (min (-52) p) := by
    unfold fadd
    rw [hs]
    exact canon_num g2
  rw [hadd]
  exact ⟨g1, m', p', g2⟩

/-- The root of what is not below nothing. -/
theorem fsqrt_pos {x e : Nat} (he : e + 1 ≤ 1023) (h : Sm .f64 (2 * e) x) (he2 : 2 * e ≤ 1023) (hp : Pos (FloatKind.f64.format.read x)) : Sm .f64 (e + 1) (fsqrt x) ∧ Pos (FloatKind.f64.format.read (fsqrt x)) := by
  obtain ⟨m, p, hx⟩ := hp
  have ha := read_amp (k := .f64) (by simp only [emax]; omega) h
  have hr : ∃ m' p', (FloatKind.f64.format.read x).root (FloatKind.f64.format.fractionBits + 2) = some (.number false m' p') := by
    rw [hx]
    simp only [Datum.root]
    split
    · exact ⟨_, _, rfl⟩
    · exact ⟨_, _, rfl⟩
  obtain ⟨m', p', hr⟩ := hr
  have hra := root_amp (e := e) (by simpa using ha) hr
  have hsq : FloatKind.f64.format.sqrt x = some (FloatKind.f64.format.nearest false m' p') := by
    unfold Format.sqrt
    rw [hr]
    rfl
  have hra' : m' = 0 ∨ ∃ h : Nat, m' ≤ 2 ^ h ∧ (h : Int) + p' ≤ ((e + 1 : Nat) : Int) := hra
  have hsm : Sm .f64 (e + 1) (FloatKind.f64.format.nearest false m' p') := nearest_sm he hra'
  have hf : fsqrt x = FloatKind.f64.format.nearest false m' p' := by
    unfold fsqrt
    rw [hsq]
    exact sm_canon he hsm
  rw [hf]
  exact ⟨hsm, nearest_pos he hra'⟩

/-! ## Quotients that are at most one -/

theorem quotient_one {dg : Nat} {s t : Bool} {m n : Nat} {i j : Int} (hn : n ≠ 0) (h : m * 2 ^ (i - min i j).toNat ≤ n * 2 ^ (j - min i j).toNat) : ∃ r, (Datum.number s m i).quotient dg (.number t n j) = some r ∧ Amp 0 r := by
  refine ⟨_, by simp only [Datum.quotient, if_neg hn]; rfl, ?_⟩
  by_cases hm0 : m = 0
  · subst hm0
    left
    simp
  right
  generalize hmore : dg + n.log2 - m.log2 = more
  -- the greater place is not too great
  have hlog : i - j ≤ more := by
    rcases Int.le_total i j with hij | hij
    · omega
    · rw [Int.min_eq_right hij, Int.sub_self, Int.toNat_zero, Nat.pow_zero, Nat.mul_one] at h
      have h1 : 2 ^ (m.log2 + (i - j).toNat) ≤ n := by
        rw [Nat.pow_add]
        exact Nat.le_trans (Nat.mul_le_mul_right _ (Nat.log2_self_le hm0)) h
      have := (Nat.le_log2 hn).2 h1
      omega
  generalize hw : ((more : Int) - (i - j)).toNat = w
  have hD : m <<< more ≤ n * 2 ^ w := by
    rw [Nat.shiftLeft_eq]
    have hp : 0 < 2 ^ (i - min i j).toNat := Nat.pow_pos (by decide)
    refine Nat.le_of_mul_le_mul_right ?_ hp
    calc m * 2 ^ more * 2 ^ (i - min i j).toNat = m * 2 ^ (i - min i j).toNat * 2 ^ more := by rw [Nat.mul_assoc, Nat.mul_comm (2 ^ more), ← Nat.mul_assoc]
      _ ≤ n * 2 ^ (j - min i j).toNat * 2 ^ more := Nat.mul_le_mul_right _ h
      _ = n * 2 ^ w * 2 ^ (i - min i j).toNat := by
        rw [Nat.mul_assoc, Nat.mul_assoc, ← Nat.pow_add, ← Nat.pow_add]
        congr 2
        omega
  generalize m <<< more = D at *
  have hq : D / n ≤ 2 ^ w := Nat.div_le_of_le_mul hD
  have hdm := Nat.div_add_mod D n
  refine ⟨w + 1, ?_, by omega⟩
  rw [Nat.pow_succ]
  rcases Nat.lt_or_ge (D / n) (2 ^ w) with hlt | hge
  · have hb : ∀ b : Bool, b.toNat ≤ 1 := by decide
    have := hb (D % n != 0)
    omega
  · have heq : D / n = 2 ^ w := Nat.le_antisymm hq hge
    rw [heq] at hdm ⊢
    have hz : D % n = 0 := by omega
    rw [hz]
    simp
    omega

/-- A quotient of numbers, the upper one not greater. -/
theorem fdiv_one {k : FloatKind} {x y : Nat} (hx : isNum k x = true) (hy : isNum k y = true) (h : (V k x).natAbs ≤ (V k y).natAbs) (h0 : V k y ≠ 0) : Sm k 0 (fdiv k x y) := by
  obtain ⟨s, m, i, hx⟩ := isNum_iff.1 hx
  obtain ⟨t, n, j, hy⟩ := isNum_iff.1 hy
  have hi := place_ge hx
  have hj := place_ge hy
  rw [lp_eq] at hi hj
  have hn : n ≠ 0 := by
    rintro rfl
    apply h0
    have := V_abs hy
    rw [Nat.zero_mul] at this
    omega
  rw [V_abs hx, V_abs hy] at h
  have h' : m * 2 ^ (i - min i j).toNat ≤ n * 2 ^ (j - min i j).toNat := by
    have e1 : (i - lplace k).toNat = (i - min i j).toNat + (min i j - lplace k).toNat := by omega
    have e2 : (j - lplace k).toNat = (j - min i j).toNat + (min i j - lplace k).toNat := by omega
    rw [e1, e2, Nat.pow_add, Nat.pow_add, ← Nat.mul_assoc, ← Nat.mul_assoc] at h
    exact Nat.le_of_mul_le_mul_right h (Nat.pow_pos (by decide))
  obtain ⟨r, hr, ha⟩ := quotient_one (dg := k.format.fractionBits + 2) (s := s) (t := t) hn h'
  refine fopt_sm (by cases k <;> decide) ⟨r, ?_, ha⟩
  rw [hx, hy]
  exact hr

/-! ## Angles -/

def halfAngle (t : Nat) : Nat := fdiv .f64 t (fadd .f64 4607182418800017408 (fsqrt (fadd .f64 4607182418800017408 (fmul .f64 t t))))

theorem halfAngle_sm {t : Nat} (h : Sm .f64 0 t) : Sm .f64 0 (halfAngle t) := by
  have h1 : Sm .f64 0 (fmul .f64 t t) := (fmul_sm h h (by decide +kernel)).mono (by decide +kernel)
  have p1 := fmul_self_pos h (by decide +kernel)
  obtain ⟨l2, p2⟩ := fadd_one (e := 0) (by decide +kernel) h1 p1
  have h2 : Sm .f64 2 (fadd .f64 4607182418800017408 (fmul .f64 t t)) := (fadd_sm (e := 0) (by unfold Sm; decide +kernel) h1 (by decide +kernel)).mono (by decide +kernel)
  obtain ⟨h3, p3⟩ := fsqrt_pos (e := 1) (by decide +kernel) h2 (by decide +kernel) p2
  obtain ⟨l4, p4⟩ := fadd_one (e := 2) (by decide +kernel) (h3.mono (by decide +kernel)) p3
  have := fdiv_sm (k := .f64) (e := 0) (d := 0) (by decide +kernel) (Nat.le_refl _) h l4
  exact this

def round15 (u p c : Nat) : Nat := fsub .f64 (fdiv .f64 4607182418800017408 c) (fmul .f64 u p)
def arc (t : Nat) : Nat :=
  let u := fmul .f64 t t
  fdiv .f64 (fmul .f64 4620693217682128896 (fmul .f64 t (round15 u (round15 u (round15 u (round15 u (round15 u (round15 u (round15 u (round15 u 0 (fofInt .f64 15)) (fofInt .f64 13)) (fofInt .f64 11)) (fofInt .f64 9)) (fofInt .f64 7)) (fofInt .f64 5)) (fofInt .f64 3)) (fofInt .f64 1)))) 4618760256179416344

theorem round15_sm {u p c e : Nat} (hu : Sm .f64 0 u) (hp : Sm .f64 e p) (hc : lbB 0 (FloatKind.f64.format.read c) = true) (he : e + 1 ≤ 1023) : Sm .f64 (e + 1) (round15 u p c) := by
  have h1 : Sm .f64 e (fmul .f64 u p) := by
    have := fmul_sm hu hp (by simp only [emax]; omega)
    rwa [Nat.zero_add] at this
  have h2 : Sm .f64 e (fdiv .f64 4607182418800017408 c) := (fdiv_sm0 (e := 0) (by decide +kernel) (show Sm .f64 0 4607182418800017408 by unfold Sm; decide +kernel) hc).mono (Nat.zero_le _)
  exact fsub_sm h2 h1 (by simp only [emax]; omega)

theorem arc_sm {t : Nat} (ht : Sm .f64 0 t) : Sm .f64 11 (arc t) := by
  unfold arc
  have hu : Sm .f64 0 (fmul .f64 t t) := (fmul_sm ht ht (by decide +kernel)).mono (by decide +kernel)
  generalize fmul .f64 t t = u at *
  have h0 : Sm .f64 0 0 := by unfold Sm; decide +kernel
  have h1 := round15_sm hu h0 (show lbB 0 (FloatKind.f64.format.read (fofInt .f64 15)) = true by decide +kernel) (by decide +kernel)
  have h2 := round15_sm hu h1 (show lbB 0 (FloatKind.f64.format.read (fofInt .f64 13)) = true by decide +kernel) (by decide +kernel)
  have h3 := round15_sm hu h2 (show lbB 0 (FloatKind.f64.format.read (fofInt .f64 11)) = true by decide +kernel) (by decide +kernel)
  have h4 := round15_sm hu h3 (show lbB 0 (FloatKind.f64.format.read (fofInt .f64 9)) = true by decide +kernel) (by decide +kernel)
  have h5 := round15_sm hu h4 (show lbB 0 (FloatKind.f64.format.read (fofInt .f64 7)) = true by decide +kernel) (by decide +kernel)
  have h6 := round15_sm hu h5 (show lbB 0 (FloatKind.f64.format.read (fofInt .f64 5)) = true by decide +kernel) (by decide +kernel)
  have h7 := round15_sm hu h6 (show lbB 0 (FloatKind.f64.format.read (fofInt .f64 3)) = true by decide +kernel) (by decide +kernel)
  have h8 := round15_sm hu h7 (show lbB 0 (FloatKind.f64.format.read (fofInt .f64 1)) = true by decide +kernel) (by decide +kernel)
  have h9 := fmul_sm ht h8 (by decide +kernel)
  have h10 := fmul_sm (e1 := 3) (show Sm .f64 3 4620693217682128896 by unfold Sm; decide +kernel) h9 (by decide +kernel)
  exact (fdiv_sm0 (by decide +kernel) h10 (by decide +kernel)).mono (by decide +kernel)

def lessIf (c : Bool) (k a : Nat) : Nat := match c with
  | true => fsub .f64 k a
  | false => a
def negIf (c : Bool) (a : Nat) : Nat := match c with
  | true => fneg .f64 a
  | false => a
/-- The angle of a point, by the sizes of its numbers. -/
def angleC (o n m : Bool) (t : Nat) : Nat := negIf m (lessIf n 4602678819172646912 (lessIf o 4598175219545276416 (arc (halfAngle (halfAngle (halfAngle t))))))

theorem lessIf_sm {c : Bool} {k a e : Nat} (h : Sm .f64 e k) (ha : Sm .f64 e a) (he : e + 1 ≤ 1023) : Sm .f64 (e + 1) (lessIf c k a) := by
  cases c
  · exact ha.mono (Nat.le_succ _)
  · exact fsub_sm h ha he

theorem angleC_sm {o n m : Bool} {t : Nat} (ht : Sm .f64 0 t) : Sm .f64 13 (angleC o n m t) := by
  unfold angleC
  have h1 : Sm .f64 11 (arc (halfAngle (halfAngle (halfAngle t)))) := arc_sm (halfAngle_sm (halfAngle_sm (halfAngle_sm ht)))
  have q1 : Sm .f64 0 4598175219545276416 := by unfold Sm; decide +kernel
  have q2 : Sm .f64 0 4602678819172646912 := by unfold Sm; decide +kernel
  have h3 := lessIf_sm (c := n) (e := 12) (q2.mono (by decide +kernel)) (lessIf_sm (c := o) (e := 11) (q1.mono (by decide +kernel)) h1 (by decide +kernel)) (by decide +kernel)
  cases m
  · exact h3
  · exact fneg_sm (by decide +kernel) h3

/-! ## Bits beyond a word -/

theorem read_mod {k : FloatKind} {x : Nat} : k.format.read (x % (k.format.signWeight * 2)) = k.format.read x ∧ x % (k.format.signWeight * 2) % k.format.signWeight = x % k.format.signWeight := by
  have h1 : x % (k.format.signWeight * 2) % k.format.signWeight = x % k.format.signWeight := Nat.mod_mod_of_dvd x (Nat.dvd_mul_right _ _)
  have h2 : x % (k.format.signWeight * 2) / k.format.signWeight % 2 = x / k.format.signWeight % 2 := by
    rw [Nat.mod_mul_right_div_self, Nat.mod_mod]
  refine ⟨?_, h1⟩
  unfold Format.read
  rw [h1, h2]

theorem sm_V {k : FloatKind} {x e : Nat} (he : e ≤ emax k) (hx : isNum k x = true) (h : (V k x).natAbs ≤ 2 ^ (e - lplace k).toNat) : Sm k e x := by
  obtain ⟨h1, h2⟩ := read_mod (k := k) (x := x)
  have hw : Wd k (x % (k.format.signWeight * 2)) := by
    unfold Wd
    rw [Nat.mul_comm 2]
    exact Nat.mod_lt _ (Nat.mul_pos (by cases k <;> decide +kernel) (by decide))
  have hx' : isNum k (x % (k.format.signWeight * 2)) = true := by
    unfold isNum at hx ⊢
    rw [h1]
    exact hx
  have hv : V k (x % (k.format.signWeight * 2)) = V k x := by
    unfold V
    rw [h1]
  have := sm_of_V he hw hx' (by rw [hv]; exact h)
  unfold Sm at this ⊢
  rw [h2] at this
  exact this

theorem V_sm {k : FloatKind} {x e : Nat} (he : e ≤ emax k) (h : Sm k e x) : (V k x).natAbs ≤ 2 ^ (e - lplace k).toNat := by
  obtain ⟨s, m, p, hd, ha⟩ := amp_number (read_amp he h)
  have hp := place_ge hd
  rw [lp_eq] at hp
  rw [V_abs hd]
  rcases ha with rfl | ⟨i, h1, h2⟩
  · rw [Nat.zero_mul]; exact Nat.zero_le _
  · refine Nat.le_trans (Nat.mul_le_mul_right _ h1) ?_
    rw [← Nat.pow_add]
    exact Nat.pow_le_pow_right (by decide) (by omega)

/-- What stands between two numbers is a number. -/
theorem num_between {k : FloatKind} {x a b : Nat} (ha : isNum k a = true) (hb : isNum k b = true) (h1 : fge k x a = true) (h2 : flt k x b = true ∨ fle k x b = true) : isNum k x = true := by
  obtain ⟨sa, ma, pa, ha⟩ := isNum_iff.1 ha
  obtain ⟨sb, mb, pb, hb⟩ := isNum_iff.1 hb
  rcases kinds k x with ⟨s, m, p, hd, g1, g2⟩ | ⟨s, hd, g1, g2⟩ | ⟨s, t, hd, g1, g2⟩
  · exact g1
  · exfalso
    unfold fge Format.order at h1
    unfold flt fle Format.order at h2
    rw [hd, ha] at h1
    rw [hd, hb] at h2
    cases s
    · rcases h2 with h2 | h2 <;> simp [Datum.order] at h2
    · simp [Datum.order] at h1
  · exfalso
    unfold fge Format.order at h1
    rw [hd, ha] at h1
    exact absurd h1 (by simp [Datum.order])

/-! ## Halves -/

theorem mag_lt {k : FloatKind} {x m : Nat} {s : Bool} {p : Int} (h : k.format.read x = .number s m p) : m < 2 ^ (fbits k + 1) := by
  obtain ⟨c1, c2, c3, c4, c5⟩ := consts k
  unfold Format.read at h
  simp only [c3] at h
  generalize x % k.format.signWeight = r at h
  have hpos : 0 < 2 ^ fbits k := Nat.pow_pos (by decide)
  rw [Nat.pow_succ]
  split at h
  · simp only [Datum.number.injEq] at h
    omega
  · split at h
    · simp only [Datum.number.injEq] at h
      have := Nat.mod_lt r hpos
      omega
    · split at h <;> cases h

/-- A half, by a quotient and by a product. -/
theorem half_same (x : Nat) : fdiv .f32 x 1073741824 = fmul .f32 1056964608 x := by
  have r2 : FloatKind.f32.format.read 1073741824 = .number false 8388608 (-22) := by decide +kernel
  have r5 : FloatKind.f32.format.read 1056964608 = .number false 8388608 (-24) := by decide +kernel
  rcases kinds .f32 x with ⟨s, m, p, hd, h1, h2⟩ | ⟨s, hd, h1, h2⟩ | ⟨s, t, hd, h1, h2⟩
  · have hm := mag_lt hd
    have e1 : FloatKind.f32.format.div x 1073741824 = some (FloatKind.f32.format.nearest s m (p - 1)) := by
      unfold Format.div
      rw [hd, r2]
      have hfb : FloatKind.f32.format.fractionBits + 2 = 25 := by decide
      rw [hfb]
      have hl : Nat.log2 8388608 = 23 := by decide
      simp only [Datum.quotient, hl, Bool.xor_false]
      rw [if_neg (by decide)]
      simp only [Option.map_some, Format.write, Option.some.injEq]
      by_cases hm0 : m = 0
      · subst hm0
        simp [Format.nearest]
      · have hlog : m.log2 ≤ 23 := by
          have := (Nat.log2_lt hm0).2 hm
          simp only [fbits] at this
          omega
        generalize hmore : 25 + 23 - m.log2 = more
        have hge : 23 ≤ more := by omega
        have e8 : (8388608 : Nat) = 2 ^ 23 := by decide
        have hD : m <<< more = m * 2 ^ (more - 23) * 8388608 := by
          rw [Nat.shiftLeft_eq, e8, Nat.mul_assoc, ← Nat.pow_add]
          congr 2
          omega
        rw [hD, Nat.mul_div_cancel _ (by decide), Nat.mul_mod_left]
        have e9 : 2 * (m * 2 ^ (more - 23)) + ((0 : Nat) != 0).toNat = m * 2 ^ (more - 22) := by
          have : more - 22 = more - 23 + 1 := by omega
          rw [this, Nat.pow_succ]
          simp
          rw [Nat.mul_comm 2, Nat.mul_assoc]
        rw [e9, nearest_scale]
        congr 1
        omega
    have e2 : FloatKind.f32.format.mul 1056964608 x = some (FloatKind.f32.format.nearest s m (p - 1)) := by
      unfold Format.mul
      rw [hd, r5]
      simp only [Datum.product, Option.map_some, Format.write, Bool.false_xor, Option.some.injEq]
      have e8 : (8388608 : Nat) = 2 ^ 23 := by decide
      rw [Nat.mul_comm, e8, nearest_scale]
      congr 1
      omega
    unfold fdiv fmul
    rw [e1, e2]
  · unfold fdiv fmul Format.div Format.mul
    rw [hd, r2, r5]
    cases s <;> rfl
  · unfold fdiv fmul Format.div Format.mul
    rw [hd]
    rfl

end Go.Proofs.Ytilfdpllleninaa
