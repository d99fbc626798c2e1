/- The engine, part V: numbers by their values. -/
import Derived.Test.YtilfdpllleninaaEngU
import Derived.Laws.BitsLemmas
namespace Go.Proofs.Ytilfdpllleninaa
set_option linter.unusedVariables false
set_option linter.unusedSimpArgs false
open Ieee

/-! ## Trees -/

theorem DT.of_get {α : Type} [Inhabited α] {a : α} : ∀ {t : DT α}, t.get = some a → t.ok = true ∧ t.val = a
  | .leaf b, h => by simp only [DT.get, Option.some.injEq] at h; exact ⟨rfl, h⟩
  | .ask c t e, h => by cases c <;> simp only [DT.get] at h <;> simp only [DT.ok, DT.val] <;> exact DT.of_get h
  | .need c t, h => by
    cases c
    · simp [DT.get] at h
    · simp only [DT.get] at h
      have := DT.of_get h
      simpa only [DT.ok, DT.val] using this
  | .skip t, h => by simp only [DT.get] at h; simp only [DT.ok, DT.val]; exact DT.of_get h
  | .fail, h => by simp [DT.get] at h

/-! ## Values -/

/-- Is it a number? -/
def isNum (k : FloatKind) (x : Nat) : Bool := match k.format.read x with
  | .number _ _ _ => true
  | _ => false

theorem isNum_iff {k : FloatKind} {x : Nat} : isNum k x = true ↔ ∃ s m p, k.format.read x = .number s m p := by
  unfold isNum
  cases k.format.read x <;> simp

theorem kinds (k : FloatKind) (x : Nat) : (∃ s m p, k.format.read x = .number s m p ∧ isNum k x = true ∧ isNaN k x = false) ∨ (∃ s, k.format.read x = .infinity s ∧ isNum k x = false ∧ isNaN k x = false) ∨ (∃ s t, k.format.read x = .nan s t ∧ isNum k x = false ∧ isNaN k x = true) := by
  unfold isNum isNaN
  cases k.format.read x <;> simp [Datum.isNaN]

/-- The value, in units of the least place. -/
def vd (b : Int) : Datum → Int
  | .number s m p => signed s m (p - b).toNat
  | _ => 0
def V (k : FloatKind) (x : Nat) : Int := vd (lplace k) (k.format.read x)

theorem signed_up (s : Bool) (m u v : Nat) : signed s m (u + v) = signed s m u * ((2 ^ v : Nat) : Int) := by
  unfold signed
  simp only [Nat.shiftLeft_eq, Nat.pow_add]
  cases s
  · simp only [Bool.false_eq_true, if_false]
    rw [← Nat.mul_assoc]
    push_cast
    rfl
  · simp only [if_true]
    rw [← Nat.mul_assoc]
    push_cast
    rw [Int.neg_mul]

theorem cmp_scale {a b c : Int} (hc : 0 < c) : compare (a * c) (b * c) = compare a b := by
  show compareOfLessAndEq (a * c) (b * c) = compareOfLessAndEq a b
  unfold compareOfLessAndEq
  have e1 : a * c < b * c ↔ a < b := Int.mul_lt_mul_right hc
  have e2 : a * c = b * c ↔ a = b := ⟨fun h => Int.eq_of_mul_eq_mul_right (by omega) h, fun h => by rw [h]⟩
  simp only [e1, e2]

theorem cmp_cases (a b : Int) : (a < b ∧ compare a b = .lt) ∨ (a = b ∧ compare a b = .eq) ∨ (b < a ∧ compare a b = .gt) := by
  have e : compare a b = compareOfLessAndEq a b := rfl
  rw [e]
  unfold compareOfLessAndEq
  rcases Int.lt_trichotomy a b with h | h | h
  · left; exact ⟨h, by rw [if_pos h]⟩
  · right; left; exact ⟨h, by rw [if_neg (by omega), if_pos h]⟩
  · right; right; exact ⟨h, by rw [if_neg (by omega), if_neg (by omega)]⟩

theorem lp_eq (k : FloatKind) : k.format.leastPlace = lplace k := (consts k).2.1

theorem order_num {k : FloatKind} {x y : Nat} (hx : isNum k x = true) (hy : isNum k y = true) : k.format.order x y = some (compare (V k x) (V k y)) := by
  obtain ⟨s, m, p, hx⟩ := isNum_iff.1 hx
  obtain ⟨t, n, q, hy⟩ := isNum_iff.1 hy
  have h1 := place_ge hx
  have h2 := place_ge hy
  rw [lp_eq] at h1 h2
  unfold Format.order V
  rw [hx, hy]
  simp only [Datum.order, vd]
  have e1 : (p - lplace k).toNat = (p - min p q).toNat + (min p q - lplace k).toNat := by omega
  have e2 : (q - lplace k).toNat = (q - min p q).toNat + (min p q - lplace k).toNat := by omega
  rw [e1, e2, signed_up, signed_up, cmp_scale]
  have := Nat.pow_pos (n := (min p q - lplace k).toNat) (by decide : 0 < 2)
  omega

theorem feq_num {k : FloatKind} {x y : Nat} (hx : isNum k x = true) (hy : isNum k y = true) : feq k x y = decide (V k x = V k y) := by
  unfold feq
  rw [order_num hx hy]
  rcases cmp_cases (V k x) (V k y) with ⟨h, e⟩ | ⟨h, e⟩ | ⟨h, e⟩ <;> rw [e] <;> symm
  · exact decide_eq_false (by omega)
  · exact decide_eq_true h
  · exact decide_eq_false (by omega)
theorem flt_num {k : FloatKind} {x y : Nat} (hx : isNum k x = true) (hy : isNum k y = true) : flt k x y = decide (V k x < V k y) := by
  unfold flt
  rw [order_num hx hy]
  rcases cmp_cases (V k x) (V k y) with ⟨h, e⟩ | ⟨h, e⟩ | ⟨h, e⟩ <;> rw [e] <;> symm
  · exact decide_eq_true h
  · exact decide_eq_false (by omega)
  · exact decide_eq_false (by omega)
theorem fgt_num {k : FloatKind} {x y : Nat} (hx : isNum k x = true) (hy : isNum k y = true) : fgt k x y = decide (V k y < V k x) := by
  unfold fgt
  rw [order_num hx hy]
  rcases cmp_cases (V k x) (V k y) with ⟨h, e⟩ | ⟨h, e⟩ | ⟨h, e⟩ <;> rw [e] <;> symm
  · exact decide_eq_false (by omega)
  · exact decide_eq_false (by omega)
  · exact decide_eq_true h
theorem fle_num {k : FloatKind} {x y : Nat} (hx : isNum k x = true) (hy : isNum k y = true) : fle k x y = decide (V k x ≤ V k y) := by
  unfold fle
  rw [order_num hx hy]
  rcases cmp_cases (V k x) (V k y) with ⟨h, e⟩ | ⟨h, e⟩ | ⟨h, e⟩ <;> rw [e] <;> symm
  · exact decide_eq_true (by omega)
  · exact decide_eq_true (by omega)
  · exact decide_eq_false (by omega)
theorem fge_num {k : FloatKind} {x y : Nat} (hx : isNum k x = true) (hy : isNum k y = true) : fge k x y = decide (V k y ≤ V k x) := by
  unfold fge
  rw [order_num hx hy]
  rcases cmp_cases (V k x) (V k y) with ⟨h, e⟩ | ⟨h, e⟩ | ⟨h, e⟩ <;> rw [e] <;> symm
  · exact decide_eq_false (by omega)
  · exact decide_eq_true (by omega)
  · exact decide_eq_true (by omega)

/-- Equal to itself: all but what is no number. -/
theorem feq_self (k : FloatKind) (x : Nat) : feq k x x = !isNaN k x := by
  rcases kinds k x with ⟨s, m, p, hd, h1, h2⟩ | ⟨s, hd, h1, h2⟩ | ⟨s, t, hd, h1, h2⟩
  · rw [feq_num h1 h1, h2]; simp
  · rw [h2]
    unfold feq Format.order
    rw [hd]
    cases s <;> rfl
  · rw [h2]
    unfold feq Format.order
    rw [hd]
    rfl
theorem fne_feq (k : FloatKind) (x y : Nat) : fne k x y = !feq k x y := rfl
theorem fne_self (k : FloatKind) (x : Nat) : fne k x x = isNaN k x := by rw [fne_feq, feq_self, Bool.not_not]

theorem fsub_self (k : FloatKind) (x : Nat) : fsub k x x = bif isNum k x then 0 else qnan k := by
  rcases kinds k x with ⟨s, m, p, hd, h1, h2⟩ | ⟨s, hd, h1, h2⟩ | ⟨s, t, hd, h1, h2⟩
  · rw [h1]
    unfold fsub Format.sub
    rw [hd]
    have e : signed s m (p - min p p).toNat + signed (!s) m (p - min p p).toNat = 0 := by
      unfold signed
      cases s <;> simp <;> omega
    simp only [Datum.opposite, Datum.sum, e, if_true, Int.natAbs_zero, Option.map_some, fopt, Format.write, Format.nearest]
    have : (s && !s) = false := by cases s <;> rfl
    rw [this]
    cases k <;> decide +kernel
  · rw [h1]
    unfold fsub Format.sub
    rw [hd]
    cases s <;> rfl
  · rw [h1]
    unfold fsub Format.sub
    rw [hd]
    rfl

/-- What is taken from itself is nothing for numbers alone. -/
theorem finite_same (k : FloatKind) (x : Nat) : feq k (fsub k x x) 0 = isNum k x := by
  rw [fsub_self]
  cases isNum k x
  · cases k <;> decide +kernel
  · cases k <;> decide +kernel
theorem finite_not (k : FloatKind) (x : Nat) : fne k (fsub k x x) 0 = !isNum k x := by rw [fne_feq, finite_same]

/-! ## The sign put away -/

def fabs (x : Nat) : Nat := canon .f64 (Int.toNat (IntKind.wrap .u64 (BitVec.ofInt (IntKind.bits .u64) ((x : Nat) : Int) &&& ~~~ BitVec.ofInt (IntKind.bits .u64) 9223372036854775808).toNat))

theorem fabs_eq (x : Nat) : fabs x = canon .f64 (x % 2 ^ 63) := by
  unfold fabs
  have e1 : (BitVec.ofInt IntKind.u64.bits (x : Int) &&& ~~~ BitVec.ofInt IntKind.u64.bits 9223372036854775808).toNat = x % 2 ^ 63 := by
    have e0 : ~~~ BitVec.ofInt IntKind.u64.bits 9223372036854775808 = BitVec.ofNat IntKind.u64.bits (2 ^ 63 - 1) := by decide
    rw [e0]
    have e2 : BitVec.ofInt IntKind.u64.bits (x : Int) = BitVec.ofNat IntKind.u64.bits x := BitVec.ofInt_natCast ..
    rw [e2, BitVec.toNat_and, BitVec.toNat_ofNat, BitVec.toNat_ofNat]
    have e3 : (2 ^ 63 - 1) % 2 ^ IntKind.u64.bits = 2 ^ 63 - 1 := by decide
    rw [e3, Nat.and_two_pow_sub_one_eq_mod]
    exact Nat.mod_mod_of_dvd x (by decide)
  rw [e1]
  have h : x % 2 ^ 63 < 2 ^ 63 := Nat.mod_lt _ (by decide)
  have e4 : IntKind.wrap .u64 ((x % 2 ^ 63 : Nat) : Int) = ((x % 2 ^ 63 : Nat) : Int) := by
    show ((x % 2 ^ 63 : Nat) : Int) % 2 ^ 64 = _
    omega
  rw [e4, Int.toNat_natCast]

theorem read_abs (x : Nat) : FloatKind.f64.format.read (x % 2 ^ 63) = match FloatKind.f64.format.read x with
    | .number _ m p => .number false m p
    | .infinity _ => .infinity false
    | .nan _ t => .nan false t := by
  have hs : FloatKind.f64.format.signWeight = 2 ^ 63 := by decide
  unfold Format.read
  simp only [hs, Nat.mod_mod]
  have h : x % 2 ^ 63 / 2 ^ 63 % 2 = 0 := by rw [Nat.div_eq_of_lt (Nat.mod_lt _ (by decide))]
  rw [h]
  generalize x % 2 ^ 63 = r
  generalize (x / 2 ^ 63 % 2 == 1) = b
  have h0 : ((0 : Nat) == 1) = false := rfl
  rw [h0]
  by_cases h1 : r < FloatKind.f64.format.binade
  · rw [if_pos h1, if_pos h1]
  · rw [if_neg h1, if_neg h1]
    by_cases h2 : r < FloatKind.f64.format.infRung
    · rw [if_pos h2, if_pos h2]
    · rw [if_neg h2, if_neg h2]
      by_cases h3 : r = FloatKind.f64.format.infRung
      · rw [if_pos h3, if_pos h3]
      · rw [if_neg h3, if_neg h3]

theorem fabs_num {x : Nat} (hx : isNum .f64 x = true) : isNum .f64 (fabs x) = true ∧ V .f64 (fabs x) = ((V .f64 x).natAbs : Int) := by
  obtain ⟨s, m, p, hd⟩ := isNum_iff.1 hx
  have hr := read_abs x
  rw [hd] at hr
  rw [fabs_eq, canon_num hr]
  refine ⟨isNum_iff.2 ⟨_, _, _, hr⟩, ?_⟩
  unfold V
  rw [hr, hd]
  simp only [vd, signed_abs]
  unfold signed
  simp only [Bool.false_eq_true, if_false, Nat.shiftLeft_eq]

theorem fabs_inf {x : Nat} {s : Bool} (hx : FloatKind.f64.format.read x = .infinity s) : FloatKind.f64.format.read (fabs x) = .infinity false := by
  have hr := read_abs x
  rw [hx] at hr
  rw [fabs_eq]
  unfold canon isNaN
  rw [hr]
  exact hr

/-! ## From values to bounds -/

theorem wd_fopt {k : FloatKind} {o : Option Datum} : Wd k (fopt k (o.map k.format.write)) := by
  have hq : Wd k (qnan k) := by unfold Wd; cases k <;> decide +kernel
  have hc : ∀ b, Wd k b → Wd k (canon k b) := fun b hb => by
    rcases canon_of k b with ⟨_, e⟩ | ⟨_, e⟩
    · rw [e]; exact hb
    · rw [e]; exact hq
  cases o with
  | none => exact hq
  | some d =>
    refine hc _ ?_
    cases d with
    | number s m p => exact nearest_wd
    | infinity s => unfold Wd; cases k <;> cases s <;> decide +kernel
    | nan s t =>
      show Wd k (k.format.word s (k.format.infRung + t % k.format.binade))
      unfold Wd Format.word
      have hb : k.format.infRung + k.format.binade = k.format.signWeight := by cases k <;> decide
      have hp : 0 < k.format.binade := by cases k <;> decide
      have : t % k.format.binade < k.format.binade := Nat.mod_lt _ hp
      cases s
      · simp only [Bool.false_eq_true, if_false]; omega
      · simp only [if_true]; omega

theorem canon_wd {k : FloatKind} {b : Nat} (hb : Wd k b) : Wd k (canon k b) := by
  rcases canon_of k b with ⟨_, e⟩ | ⟨_, e⟩
  · rw [e]; exact hb
  · rw [e]; unfold Wd; cases k <;> decide +kernel

theorem V_abs {k : FloatKind} {x m : Nat} {s : Bool} {p : Int} (hd : k.format.read x = .number s m p) : (V k x).natAbs = m * 2 ^ (p - lplace k).toNat := by
  unfold V
  rw [hd]
  exact signed_abs _ _ _

theorem sm_of_V {k : FloatKind} {x e : Nat} (he : e ≤ emax k) (hw : Wd k x) (hx : isNum k x = true) (h : (V k x).natAbs ≤ 2 ^ (e - lplace k).toNat) : Sm k e x := by
  obtain ⟨s, m, p, hd⟩ := isNum_iff.1 hx
  rw [V_abs hd] at h
  have hp := place_ge hd
  rw [lp_eq] at hp
  rw [← write_read hw hd]
  refine nearest_sm he ?_
  by_cases hm : m = 0
  · exact .inl hm
  · right
    have hl : (0 : Int) ≤ e - lplace k := by cases k <;> simp only [lplace] <;> omega
    rcases Int.le_total p e with hpe | hpe
    · refine ⟨(e - p).toNat, ?_, by omega⟩
      have e1 : (e - lplace k).toNat = (e - p).toNat + (p - lplace k).toNat := by omega
      rw [e1, Nat.pow_add] at h
      exact Nat.le_of_mul_le_mul_right h (Nat.pow_pos (by decide))
    · refine ⟨0, ?_, by
        rcases Int.lt_or_le e p with hlt | hge
        · exfalso
          have e1 : (p - lplace k).toNat = (e - lplace k).toNat + ((p - e).toNat - 1) + 1 := by omega
          rw [e1, Nat.pow_succ, Nat.pow_add] at h
          have h1 : 0 < 2 ^ (e - lplace k).toNat := Nat.pow_pos (by decide)
          have h2 : 0 < 2 ^ ((p - e).toNat - 1) := Nat.pow_pos (by decide)
          have h3 : 2 ^ (e - lplace k).toNat ≤ 2 ^ (e - lplace k).toNat * 2 ^ ((p - e).toNat - 1) := Nat.le_mul_of_pos_right _ h2
          have h4 : 1 * (2 ^ (e - lplace k).toNat * 2 ^ ((p - e).toNat - 1) * 2) ≤ m * (2 ^ (e - lplace k).toNat * 2 ^ ((p - e).toNat - 1) * 2) := Nat.mul_le_mul_right _ (by omega)
          omega
        · omega⟩
      have e1 : (p - lplace k).toNat = (e - lplace k).toNat + (p - e).toNat := by omega
      rw [e1, Nat.pow_add] at h
      have h1 : 0 < 2 ^ (e - lplace k).toNat := Nat.pow_pos (by decide)
      have h2 : 0 < 2 ^ (p - e).toNat := Nat.pow_pos (by decide)
      have h3 : m * 2 ^ (e - lplace k).toNat ≤ 1 * 2 ^ (e - lplace k).toNat := by
        rw [Nat.one_mul]
        refine Nat.le_trans ?_ h
        refine Nat.mul_le_mul_left _ (Nat.le_mul_of_pos_right _ h2)
      have := Nat.le_of_mul_le_mul_right h3 h1
      simpa using this

/-- The difference of two numbers, by their values. -/
theorem fsub_sm_V {k : FloatKind} {x y e : Nat} (he : e ≤ emax k) (hx : isNum k x = true) (hy : isNum k y = true) (h : (V k x - V k y).natAbs ≤ 2 ^ (e - lplace k).toNat) : Sm k e (fsub k x y) := by
  obtain ⟨s, m, p, hx⟩ := isNum_iff.1 hx
  obtain ⟨t, n, q, hy⟩ := isNum_iff.1 hy
  have h1 := place_ge hx
  have h2 := place_ge hy
  rw [lp_eq] at h1 h2
  unfold V at h
  rw [hx, hy] at h
  simp only [vd] at h
  refine fopt_sm he ⟨_, by rw [hx, hy]; rfl, ?_⟩
  have hl : (0 : Int) ≤ e - lplace k := by cases k <;> simp only [lplace] <;> omega
  have e1 : (p - lplace k).toNat = (p - min p q).toNat + (min p q - lplace k).toNat := by omega
  have e2 : (q - lplace k).toNat = (q - min p q).toNat + (min p q - lplace k).toNat := by omega
  rw [e1, e2, signed_up, signed_up, ← Int.sub_mul, Int.natAbs_mul] at h
  have hneg : signed (!t) n (q - min p q).toNat = -signed t n (q - min p q).toNat := by
    unfold signed
    cases t <;> simp
  show (signed s m (p - min p q).toNat + signed (!t) n (q - min p q).toNat).natAbs = 0 ∨ _
  rw [hneg, ← Int.sub_eq_add_neg]
  generalize (signed s m (p - min p q).toNat - signed t n (q - min p q).toNat).natAbs = N at *
  rw [Int.natAbs_natCast] at h
  generalize hb : min p q = b at *
  by_cases hN : N = 0
  · exact .inl hN
  · right
    have hbe : b ≤ e := by
      refine Int.not_lt.1 fun hlt => ?_
      have e3 : (b - lplace k).toNat = (e - lplace k).toNat + ((b - e).toNat - 1) + 1 := by omega
      rw [e3, Nat.pow_succ, Nat.pow_add] at h
      have h1 : 0 < 2 ^ (e - lplace k).toNat := Nat.pow_pos (by decide)
      have h2 : 0 < 2 ^ ((b - e).toNat - 1) := Nat.pow_pos (by decide)
      have h3 : 2 ^ (e - lplace k).toNat ≤ 2 ^ (e - lplace k).toNat * 2 ^ ((b - e).toNat - 1) := Nat.le_mul_of_pos_right _ h2
      have h4 : 1 * (2 ^ (e - lplace k).toNat * 2 ^ ((b - e).toNat - 1) * 2) ≤ N * (2 ^ (e - lplace k).toNat * 2 ^ ((b - e).toNat - 1) * 2) := Nat.mul_le_mul_right _ (by omega)
      omega
    refine ⟨(e - b).toNat, ?_, by omega⟩
    have e3 : (e - lplace k).toNat = (e - b).toNat + (b - lplace k).toNat := by omega
    rw [e3, Nat.pow_add] at h
    exact Nat.le_of_mul_le_mul_right h (Nat.pow_pos (by decide))

theorem sm_num {k : FloatKind} {e x : Nat} (he : e ≤ emax k) (h : Sm k e x) : isNum k x = true := by
  obtain ⟨s, m, p, hd, _⟩ := amp_number (read_amp he h)
  exact isNum_iff.2 ⟨s, m, p, hd⟩

/-! ## Numbers as they stand -/

/-- A number in its own form is what is read. -/
theorem read_nearest {k : FloatKind} {s : Bool} {m : Nat} {p : Int} (h1 : 2 ^ fbits k ≤ m) (h2 : m < 2 ^ (fbits k + 1)) (h3 : lplace k ≤ p) (h4 : p + fbits k ≤ emax k) : k.format.read (k.format.nearest s m p) = .number s m p := by
  obtain ⟨c1, c2, c3, c4, c5⟩ := consts k
  have hpos : 0 < 2 ^ fbits k := Nat.pow_pos (by decide)
  have hm : m ≠ 0 := by omega
  have hl : m.log2 = fbits k := (Nat.log2_eq_iff hm).2 ⟨h1, h2⟩
  have hinf : k.format.infRung < k.format.signWeight := by cases k <;> decide
  have hlast : max (p + m.log2 - k.format.fractionBits) k.format.leastPlace = p := by rw [hl, c1, c2]; omega
  have hq : (p - lplace k).toNat + 1 < (emax k + 1 - lplace k - fbits k + 1).toNat := by omega
  have hr : (p - lplace k).toNat * 2 ^ fbits k + m < k.format.infRung := by
    rw [c4]
    unfold rungOf
    have : ((p - lplace k).toNat + 2) * 2 ^ fbits k ≤ (emax k + 1 - lplace k - fbits k + 1).toNat * 2 ^ fbits k := Nat.mul_le_mul_right _ (by omega)
    rw [Nat.add_mul] at this
    rw [Nat.pow_succ] at h2
    have e : (((emax k + 1 : Nat) : Int) - lplace k - fbits k + 1).toNat = (emax k + 1 - lplace k - fbits k + 1).toNat := by push_cast; rfl
    rw [e]
    omega
  have hw : k.format.nearest s m p = k.format.word s ((p - lplace k).toNat * 2 ^ fbits k + m) := by
    unfold Format.nearest
    rw [if_neg hm]
    simp only [hlast, Int.sub_self, Int.toNat_zero, Nat.shiftLeft_zero, cut_zero]
    rw [c2, c3, Nat.min_eq_left (Nat.le_of_lt hr)]
  rw [hw]
  generalize hR : (p - lplace k).toNat * 2 ^ fbits k + m = R at *
  have hmod : k.format.word s R % k.format.signWeight = R := by
    unfold Format.word
    cases s
    · simp only [Bool.false_eq_true, if_false]; exact Nat.mod_eq_of_lt (by omega)
    · simp only [if_true]; rw [Nat.add_mod_left]; exact Nat.mod_eq_of_lt (by omega)
  have hsgn : (k.format.word s R / k.format.signWeight % 2 == 1) = s := by
    unfold Format.word
    cases s
    · simp only [Bool.false_eq_true, if_false]
      rw [Nat.div_eq_of_lt (by omega)]
      rfl
    · simp only [if_true]
      have hsw : 0 < k.format.signWeight := by omega
      rw [Nat.add_div_left _ hsw, Nat.div_eq_of_lt (by omega)]
      rfl
  unfold Format.read
  simp only [hmod, hsgn]
  have hb : ¬ R < k.format.binade := by rw [c3]; omega
  rw [if_neg hb, if_pos hr, c3, c2]
  have hdiv : R / 2 ^ fbits k = (p - lplace k).toNat + 1 := by
    rw [← hR, Nat.mul_comm, Nat.mul_add_div hpos]
    have : m / 2 ^ fbits k = 1 := by
      rw [Nat.pow_succ] at h2
      refine Nat.div_eq_of_lt_le (by omega) (by omega)
    rw [this]
  have hrem : 2 ^ fbits k + R % 2 ^ fbits k = m := by
    have := Nat.div_add_mod R (2 ^ fbits k)
    rw [hdiv, Nat.mul_add, Nat.mul_one, Nat.mul_comm] at this
    omega
  rw [hdiv, hrem]
  congr 1
  omega

/-- A whole number that has few digits is written as it is. -/
theorem nearest_whole {k : FloatKind} {s : Bool} {m : Nat} (h0 : m ≠ 0) (h : m < 2 ^ (fbits k + 1)) : isNum k (k.format.nearest s m 0) = true ∧ V k (k.format.nearest s m 0) = signed s m (-lplace k).toNat := by
  have hlog : m.log2 ≤ fbits k := by
    have := (Nat.log2_lt h0).2 h
    omega
  have e : k.format.nearest s m 0 = k.format.nearest s (m * 2 ^ (fbits k - m.log2)) (-((fbits k - m.log2 : Nat) : Int)) := by
    rw [nearest_scale]
    congr 1
    omega
  have hd : k.format.read (k.format.nearest s m 0) = .number s (m * 2 ^ (fbits k - m.log2)) (-((fbits k - m.log2 : Nat) : Int)) := by
    rw [e]
    refine read_nearest ?_ ?_ ?_ ?_
    · calc 2 ^ fbits k = 2 ^ m.log2 * 2 ^ (fbits k - m.log2) := by rw [← Nat.pow_add]; congr 1; omega
        _ ≤ _ := Nat.mul_le_mul_right _ (Nat.log2_self_le h0)
    · calc m * 2 ^ (fbits k - m.log2) < 2 ^ (m.log2 + 1) * 2 ^ (fbits k - m.log2) := Nat.mul_lt_mul_of_pos_right Nat.lt_log2_self (Nat.pow_pos (by decide))
        _ = _ := by rw [← Nat.pow_add]; congr 1; omega
    · cases k <;> simp only [lplace, fbits] <;> omega
    · cases k <;> simp only [emax, fbits] <;> omega
  refine ⟨isNum_iff.2 ⟨_, _, _, hd⟩, ?_⟩
  unfold V
  rw [hd]
  simp only [vd]
  unfold signed
  have e2 : (m * 2 ^ (fbits k - m.log2)) <<< (-((fbits k - m.log2 : Nat) : Int) - lplace k).toNat = m <<< (-lplace k).toNat := by
    rw [Nat.shiftLeft_eq, Nat.shiftLeft_eq, Nat.mul_assoc, ← Nat.pow_add]
    congr 2
    cases k <;> simp only [lplace, fbits] at * <;> omega
  rw [e2]

theorem fofInt_whole {k : FloatKind} {n : Int} (h : n.natAbs < 2 ^ (fbits k + 1)) : isNum k (fofInt k n) = true ∧ V k (fofInt k n) = n * ((2 ^ (-lplace k).toNat : Nat) : Int) := by
  have hof : fofInt k n = canon k (k.format.nearest (decide (n < 0)) n.natAbs 0) := rfl
  by_cases h0 : n = 0
  · subst h0
    cases k <;> decide +kernel
  · obtain ⟨h1, h2⟩ := nearest_whole (k := k) (s := decide (n < 0)) (m := n.natAbs) (by omega) h
    obtain ⟨s, m, p, hd⟩ := isNum_iff.1 h1
    rw [hof, canon_num hd]
    refine ⟨h1, ?_⟩
    rw [h2]
    unfold signed
    rw [Nat.shiftLeft_eq]
    by_cases hn : n < 0
    · simp only [hn, decide_true, if_true]
      push_cast
      rw [← Int.neg_mul]
      congr 1
      omega
    · simp only [hn, decide_false, Bool.false_eq_true, if_false]
      push_cast
      congr 1
      omega

end Go.Proofs.Ytilfdpllleninaa
