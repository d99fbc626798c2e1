/- Operands that change places; what is not negative stays so; the greater and the smaller one (numbers alone). -/
import Derived.Test.YtilfdpllleninaaExact
import Derived.Test.YtilfdpllleninaaArc
import Derived.Test.YtilfdpllleninaaSize
import Derived.Test.YtilfdpllleninaaFloor
namespace Go.Proofs.Ytilfdpllleninaa
open Ieee
set_option linter.unusedVariables false
set_option linter.unusedSimpArgs false

theorem mul_cancel {a b c : Rat} (hc : 0 < c) (h : a * c = b * c) : a = b := by
  refine Rat.le_antisymm ?_ ?_
  · rw [← Rat.not_lt]
    intro hl
    have := (Rat.mul_lt_mul_right hc).2 hl
    grind
  · rw [← Rat.not_lt]
    intro hl
    have := (Rat.mul_lt_mul_right hc).2 hl
    grind

theorem rat_nat {m n : Nat} {p q : Int} (h : (m : Rat) * 2 ^ p = (n : Rat) * 2 ^ q) : m * 2 ^ (p - min p q).toNat = n * 2 ^ (q - min p q).toNat := by
  have e1 : (2 : Rat) ^ p = ((2 ^ (p - min p q).toNat : Nat) : Rat) * 2 ^ (min p q) := by
    rw [← two_nat, ← two_add]
    congr 1
    omega
  have e2 : (2 : Rat) ^ q = ((2 ^ (q - min p q).toNat : Nat) : Rat) * 2 ^ (min p q) := by
    rw [← two_nat, ← two_add]
    congr 1
    omega
  rw [e1, e2, ← Rat.mul_assoc, ← Rat.mul_assoc] at h
  have h2 := mul_cancel (two_pos (min p q)) h
  exact_mod_cast h2

theorem zero_mant {s : Bool} {m : Nat} {p : Int} (h : rv (.number s m p) = 0) : m = 0 := by
  by_cases g : m = 0
  · exact g
  · have h1 : (0 : Rat) < m := by exact_mod_cast Nat.pos_of_ne_zero g
    have h2 := Rat.mul_pos h1 (two_pos p)
    rw [rv_sign] at h
    cases s <;> simp at h <;> grind

theorem fmul_comm {k : FloatKind} {x y : Nat} (hx : isNum k x = true) (hy : isNum k y = true) : fmul k x y = fmul k y x := by
  obtain ⟨s, m, p, hx⟩ := isNum_iff.1 hx
  obtain ⟨u, c, q, hy⟩ := isNum_iff.1 hy
  unfold fmul Format.mul
  rw [hx, hy]
  show canon k (k.format.nearest (s ^^ u) (m * c) (p + q)) = canon k (k.format.nearest (u ^^ s) (c * m) (q + p))
  rw [Bool.xor_comm, Nat.mul_comm, Int.add_comm]

theorem R_qnan (k : FloatKind) : R k (qnan k) = 0 := by cases k <;> decide +kernel

theorem word_opp {k : FloatKind} {r : Nat} (h : r < k.format.signWeight) : R k (k.format.word true r) = -R k (k.format.word false r) := by
  obtain ⟨a1, a2⟩ := read_word (k := k) (s := true) h
  obtain ⟨b1, b2⟩ := read_word (k := k) (s := false) h
  unfold R Format.read
  simp only [a1, a2, b1, b2]
  split
  · rw [rv_sign, rv_sign]
    simp
    grind
  · split
    · rw [rv_sign, rv_sign]
      simp
      grind
    · split
      · show (0 : Rat) = -0
        decide +kernel
      · show (0 : Rat) = -0
        decide +kernel

theorem near_word (k : FloatKind) (m : Nat) (p : Int) : ∃ r, r < k.format.signWeight ∧ ∀ s, k.format.nearest s m p = k.format.word s r := by
  have hinf : k.format.infRung < k.format.signWeight := by cases k <;> decide
  by_cases hm : m = 0
  · refine ⟨0, by omega, fun s => ?_⟩
    unfold Format.nearest
    rw [if_pos hm]
  · refine ⟨min ((max (p + m.log2 - k.format.fractionBits) k.format.leastPlace - k.format.leastPlace).toNat * k.format.binade + Toward.even.cut false (m <<< (p - max (p + m.log2 - k.format.fractionBits) k.format.leastPlace).toNat) (max (p + m.log2 - k.format.fractionBits) k.format.leastPlace - p).toNat) k.format.infRung, Nat.lt_of_le_of_lt (Nat.min_le_right _ _) hinf, fun s => ?_⟩
    unfold Format.nearest
    rw [if_neg hm]
    rfl

/-- What is worth the opposite is written as the opposite. -/
theorem near_opp {k : FloatKind} {s s' : Bool} {m m' : Nat} {p p' : Int} (h : rv (.number s' m' p') = -rv (.number s m p)) (n1 : isNum k (k.format.nearest s m p) = true) (n2 : isNum k (k.format.nearest s' m' p') = true) :
    R k (canon k (k.format.nearest s' m' p')) = -R k (canon k (k.format.nearest s m p)) := by
  rw [canon_num' n1, canon_num' n2]
  by_cases hm : m = 0
  · have h0 : rv (.number s m p) = 0 := by rw [hm, rv_sign]; cases s <;> simp <;> grind
    have h1 : rv (.number s' m' p') = 0 := by rw [h, h0]; decide +kernel
    rw [hm, zero_mant h1, nearest_zero.2, nearest_zero.2]
    decide +kernel
  · have g1 := mag_nonneg m' p'
    have g2 : (0 : Rat) < (m : Rat) * 2 ^ p := Rat.mul_pos (by exact_mod_cast Nat.pos_of_ne_zero hm) (two_pos p)
    have hs : s' = !s ∧ (m' : Rat) * 2 ^ p' = (m : Rat) * 2 ^ p := by
      rw [rv_sign, rv_sign] at h
      cases s <;> cases s' <;> simp at h
      · grind
      · exact ⟨rfl, by grind⟩
      · exact ⟨rfl, by grind⟩
      · grind
    obtain ⟨rfl, hmm⟩ := hs
    rw [nearest_same (rat_nat hmm)]
    obtain ⟨r, hr, hw⟩ := near_word k m p
    rw [hw, hw]
    have := word_opp hr
    cases s
    · exact this
    · show R k (k.format.word false r) = -R k (k.format.word true r)
      rw [this]
      grind

theorem near_num {k : FloatKind} {s : Bool} {m : Nat} {p : Int} (h : Bd (rv (.number s m p)) Gr) : isNum k (k.format.nearest s m p) = true := by
  have hlt : (m : Rat) * 2 ^ p < 2 ^ ((101 : Nat) : Int) := by
    have : Gr < 2 ^ ((101 : Nat) : Int) := by decide +kernel
    obtain ⟨h1, h2⟩ := h
    rcases rv_abs s m p with g | g <;> rw [g] at h1 h2 <;> grind
  exact (nearest_rel (k := k) (s := s) (e := 101) (by cases k <;> decide) hlt).1

theorem fsub_opp {k : FloatKind} {x y : Nat} (hx : isNum k x = true) (hy : isNum k y = true) (h : Bd (R k x - R k y) Gr) : R k (fsub k y x) = -R k (fsub k x y) := by
  obtain ⟨s, a, p, hx⟩ := isNum_iff.1 hx
  obtain ⟨u, c, q, hy⟩ := isNum_iff.1 hy
  unfold R at h
  rw [hx, hy] at h
  unfold fsub Format.sub
  rw [hx, hy]
  obtain ⟨r, m, b, h1, h2⟩ := sum_rv (s := s) (u := !u) (a := a) (c := c) (p := p) (q := q)
  obtain ⟨r', m', b', h1', h2'⟩ := sum_rv (s := u) (u := !s) (a := c) (c := a) (p := q) (q := p)
  have h3 := rv_opp u c q
  have h3' := rv_opp s a p
  rw [show (Datum.number u c q).opposite = .number (!u) c q from rfl] at h3 ⊢
  rw [show (Datum.number s a p).opposite = .number (!s) a p from rfl] at h3' ⊢
  rw [h3] at h2
  rw [h3'] at h2'
  rw [h1, h1']
  show R k (canon k (k.format.nearest r' m' b')) = -R k (canon k (k.format.nearest r m b))
  refine near_opp (by rw [h2, h2']; grind) (near_num (by rw [h2]; unfold Bd at *; constructor <;> grind)) (near_num (by rw [h2']; unfold Bd at *; constructor <;> grind))

theorem sq_opp {k : FloatKind} {x y : Nat} (hx : isNum k x = true) (hy : isNum k y = true) (h : R k y = -R k x) : fmul k y y = fmul k x x := by
  obtain ⟨s, m, p, hx⟩ := isNum_iff.1 hx
  obtain ⟨u, c, q, hy⟩ := isNum_iff.1 hy
  have e1 : R k x = rv (.number s m p) := by unfold Proofs.Ytilfdpllleninaa.R; rw [hx]
  have e2 : R k y = rv (.number u c q) := by unfold Proofs.Ytilfdpllleninaa.R; rw [hy]
  rw [e1, e2, rv_sign, rv_sign] at h
  have g1 := mag_nonneg m p
  have g2 := mag_nonneg c q
  have hm : (c : Rat) * 2 ^ q = (m : Rat) * 2 ^ p := by
    cases s <;> cases u <;> simp at h <;> grind
  have hn := rat_nat hm
  unfold fmul Format.mul
  rw [hx, hy]
  show canon k (k.format.nearest (u ^^ u) (c * c) (q + q)) = canon k (k.format.nearest (s ^^ s) (m * m) (p + p))
  rw [Bool.xor_self, Bool.xor_self]
  congr 1
  refine nearest_same ?_
  have w1 : (q + q - min (q + q) (p + p)).toNat = (q - min q p).toNat + (q - min q p).toNat := by omega
  have w2 : (p + p - min (q + q) (p + p)).toNat = (p - min q p).toNat + (p - min q p).toNat := by omega
  rw [w1, w2, Nat.pow_add, Nat.pow_add]
  have e3 : ∀ a b : Nat, a * a * (b * b) = a * b * (a * b) := fun a b => by
    rw [Nat.mul_assoc, Nat.mul_assoc, Nat.mul_left_comm a b b]
  rw [e3, e3, hn]

/-! ## Not negative -/

theorem fdiv_nn {k : FloatKind} {x y : Nat} (hx : isNum k x = true) (hy : isNum k y = true) (h : 0 ≤ R k x) (h0 : 0 < R k y) : 0 ≤ R k (fdiv k x y) := by
  obtain ⟨s, a, p, hx⟩ := isNum_iff.1 hx
  obtain ⟨u, c, q, hy⟩ := isNum_iff.1 hy
  have e1 : R k x = rv (.number s a p) := by unfold Proofs.Ytilfdpllleninaa.R; rw [hx]
  have e2 : R k y = rv (.number u c q) := by unfold Proofs.Ytilfdpllleninaa.R; rw [hy]
  rw [e1] at h
  rw [e2] at h0
  have hc : c ≠ 0 := by
    intro e
    subst e
    rw [rv_sign] at h0
    cases u <;> simp at h0 <;> grind
  have hu : u = false := by
    have := mag_nonneg c q
    rw [rv_sign] at h0
    cases u
    · rfl
    · simp at h0
      grind
  unfold fdiv Format.div
  rw [hx, hy]
  have hq : ∀ dg, (Datum.number s a p).quotient dg (.number u c q) = some (.number (s ^^ u) (2 * (a <<< (dg + c.log2 - a.log2) / c) + (a <<< (dg + c.log2 - a.log2) % c != 0).toNat) (p - q - (dg + c.log2 - a.log2 : Nat) - 1)) := fun dg => by
    unfold Datum.quotient
    simp only
    rw [if_neg hc]
  rw [hq]
  refine near_nn' ?_
  rw [hu, Bool.xor_false]
  cases s
  · rw [rv_sign]
    simp only [Bool.false_eq_true, if_false]
    have := mag_nonneg (2 * (a <<< (k.format.fractionBits + 2 + c.log2 - a.log2) / c) + (a <<< (k.format.fractionBits + 2 + c.log2 - a.log2) % c != 0).toNat) (p - q - (k.format.fractionBits + 2 + c.log2 - a.log2 : Nat) - 1)
    grind
  · have ha : a = 0 := by
      by_cases g : a = 0
      · exact g
      · have h1 : (0 : Rat) < a := by exact_mod_cast Nat.pos_of_ne_zero g
        have h2 := Rat.mul_pos h1 (two_pos p)
        rw [rv_sign] at h
        simp only [if_true] at h
        grind
    subst ha
    rw [Nat.zero_shiftLeft, Nat.zero_div, Nat.zero_mod, rv_sign]
    simp

/-! ## The greater one, the smaller one -/

theorem order_R {k : FloatKind} {x y : Nat} (hx : isNum k x = true) (hy : isNum k y = true) : ∃ o, k.format.order x y = some o ∧ (o = .lt → R k x < R k y) ∧ (o = .gt → R k y < R k x) ∧ (o = .eq → R k x = R k y) := by
  have h1 := flt_R hx hy
  have h2 := fgt_R hx hy
  unfold flt at h1
  unfold fgt at h2
  rw [order_num hx hy] at h1 h2 ⊢
  refine ⟨_, rfl, fun h => ?_, fun h => ?_, fun h => ?_⟩
  · rw [h] at h1
    exact of_decide_eq_true h1.symm
  · rw [h] at h2
    exact of_decide_eq_true h2.symm
  · rw [h] at h1 h2
    have a := of_decide_eq_false h1.symm
    have b := of_decide_eq_false h2.symm
    grind

theorem nan_no {k : FloatKind} {x : Nat} (h : isNum k x = true) : isNaN k x = false := by
  obtain ⟨s, m, p, hd⟩ := isNum_iff.1 h
  unfold isNaN; rw [hd]; rfl

theorem fmax_R {k : FloatKind} {x y : Nat} (hx : isNum k x = true) (hy : isNum k y = true) : ordOk k x y = true ∧ isNum k (fmax k x y) = true ∧ R k x ≤ R k (fmax k x y) ∧ R k y ≤ R k (fmax k x y) ∧ (R k (fmax k x y) = R k x ∨ R k (fmax k x y) = R k y) := by
  obtain ⟨o, ho, h1, h2, h3⟩ := order_R hx hy
  refine ⟨?_, ?_⟩
  · unfold ordOk
    rw [ho, nan_no hx, nan_no hy]
    rfl
  · unfold fmax
    rw [ho]
    cases o
    · exact ⟨hy, Rat.le_of_lt (h1 rfl), Rat.le_refl, .inr rfl⟩
    · simp only
      cases (k.decode x).neg
      · exact ⟨hx, Rat.le_refl, show R k y ≤ R k x by rw [h3 rfl]; exact Rat.le_refl, .inl rfl⟩
      · exact ⟨hy, show R k x ≤ R k y by rw [h3 rfl]; exact Rat.le_refl, Rat.le_refl, .inr rfl⟩
    · exact ⟨hx, Rat.le_refl, Rat.le_of_lt (h2 rfl), .inl rfl⟩

theorem fmin_R {k : FloatKind} {x y : Nat} (hx : isNum k x = true) (hy : isNum k y = true) : ordOk k x y = true ∧ isNum k (fmin k x y) = true ∧ R k (fmin k x y) ≤ R k x ∧ R k (fmin k x y) ≤ R k y := by
  obtain ⟨o, ho, h1, h2, h3⟩ := order_R hx hy
  refine ⟨?_, ?_⟩
  · unfold ordOk
    rw [ho, nan_no hx, nan_no hy]
    rfl
  · unfold fmin
    rw [ho]
    cases o
    · exact ⟨hx, Rat.le_refl, Rat.le_of_lt (h1 rfl)⟩
    · simp only
      cases (k.decode x).neg
      · exact ⟨hy, show R k y ≤ R k x by rw [h3 rfl]; exact Rat.le_refl, Rat.le_refl⟩
      · exact ⟨hx, Rat.le_refl, show R k x ≤ R k y by rw [h3 rfl]; exact Rat.le_refl⟩
    · exact ⟨hy, Rat.le_of_lt (h2 rfl), Rat.le_refl⟩

theorem U_two (k : FloatKind) : U k = (2 : Rat) ^ (-1 - (fbits k : Int)) := by cases k <;> decide +kernel

/-- Behind a half, the next number is a step away. -/
theorem gran {k : FloatKind} {x : Nat} (hx : isNum k x = true) (h : 1 / 2 < R k x) : 1 / 2 + U k ≤ R k x := by
  obtain ⟨s, m, p, hd⟩ := isNum_iff.1 hx
  have e1 : R k x = rv (.number s m p) := by unfold Proofs.Ytilfdpllleninaa.R; rw [hd]
  have hm := mag_lt hd
  rw [e1] at h ⊢
  have g := mag_nonneg m p
  have hs : s = false := by
    cases s
    · rfl
    · rw [rv_sign] at h
      simp at h
      grind
  subst hs
  have e2 : rv (.number false m p) = (m : Rat) * 2 ^ p := by rw [rv_sign]; simp
  rw [e2] at h ⊢
  have hmr : (m : Rat) < ((2 ^ (fbits k + 1) : Nat) : Rat) := by exact_mod_cast hm
  have hp : -1 - (fbits k : Int) ≤ p := by
    have h1 : (m : Rat) * 2 ^ p < ((2 ^ (fbits k + 1) : Nat) : Rat) * 2 ^ p := (Rat.mul_lt_mul_right (two_pos p)).2 hmr
    rw [← two_nat, ← two_add] at h1
    have h2 : (2 : Rat) ^ (-1 : Int) < 2 ^ (((fbits k + 1 : Nat) : Int) + p) := by
      have : (2 : Rat) ^ (-1 : Int) = 1 / 2 := by decide +kernel
      rw [this]
      grind
    have h3 := two_lt h2
    omega
  obtain ⟨d, hd2⟩ : ∃ d : Nat, p = -1 - (fbits k : Int) + (d : Int) := ⟨(p + 1 + (fbits k : Int)).toNat, by omega⟩
  rw [hd2, two_add, two_nat, ← U_two] at h ⊢
  have hU := U_pos k
  have e3 : (1 : Rat) / 2 = ((2 ^ fbits k : Nat) : Rat) * U k := by cases k <;> decide +kernel
  have e4 : (m : Rat) * (U k * ((2 ^ d : Nat) : Rat)) = ((m * 2 ^ d : Nat) : Rat) * U k := by
    have : ((m * 2 ^ d : Nat) : Rat) = (m : Rat) * ((2 ^ d : Nat) : Rat) := by exact_mod_cast rfl
    rw [this]
    grind
  rw [e4] at h ⊢
  rw [e3] at h ⊢
  have h5 := (Rat.mul_lt_mul_right hU).1 h
  have h6 : 2 ^ fbits k < m * 2 ^ d := by exact_mod_cast h5
  have h7 : ((2 ^ fbits k + 1 : Nat) : Rat) ≤ ((m * 2 ^ d : Nat) : Rat) := by exact_mod_cast h6
  have h8 := Rat.mul_le_mul_of_nonneg_right h7 (Rat.le_of_lt hU)
  have e5 : ((2 ^ fbits k + 1 : Nat) : Rat) = ((2 ^ fbits k : Nat) : Rat) + 1 := by push_cast; rfl
  rw [e5] at h8
  grind

theorem le_half {k : FloatKind} {x : Nat} {q : Rat} (f : Fl k x q) (hq : Bd q (1 / 2)) : R k x ≤ 1 / 2 := by
  rw [← Rat.not_lt]
  intro h
  have g := gran f.1 h
  have e := f.2 _ hq
  have hT : T < U k / 4 := by cases k <;> decide +kernel
  have hU := U_pos k
  unfold Nr Bd at *
  grind

/-- What is wrapped differs by whole turns. -/
theorem wrap_near {y : Nat} (h : I .f64 y (some (-1000, 1000))) : isNum .f64 (fsub .f64 y (ffloor y)) = true ∧ 0 ≤ R .f64 (fsub .f64 y (ffloor y)) ∧ R .f64 (fsub .f64 y (ffloor y)) ≤ 1 + 1 / 1000000000000 ∧ ∃ z : Int, Nr (R .f64 (fsub .f64 y (ffloor y))) (R .f64 y + z) (1 / 1000000000000) := by
  have hT := T_le
  have hG := Gr_ge
  have hy := h.2
  obtain ⟨n, g1, g2, g3, g4⟩ := floor_R h.1 (by unfold Bd; constructor <;> grind)
  have b : Bd (R .f64 y - R .f64 (ffloor y)) 1 := by rw [g2]; unfold Bd; constructor <;> grind
  have f := fsub_fl h.1 g1 (b.mono (by grind))
  have e := f.err64 b
  have nn := fsub_nn h.1 g1 (by rw [g2]; grind)
  rw [g2] at e
  refine ⟨f.1, nn, by unfold Nr at e; grind, -n, ?_⟩
  have c : ((-n : Int) : Rat) = -(n : Rat) := by push_cast; rfl
  rw [c]
  unfold Nr at *
  constructor <;> grind

end Go.Proofs.Ytilfdpllleninaa
