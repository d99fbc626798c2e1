/- The floor of a number; what is not negative stays so. -/
import Derived.Test.YtilfdpllleninaaSine
namespace Go.Proofs.Ytilfdpllleninaa
open Ieee
set_option linter.unusedVariables false
set_option linter.unusedSimpArgs false

theorem cut_down (s : Bool) (n d : Nat) : Toward.down.cut s n d = n / 2 ^ d + (s && n % 2 ^ d != 0).toNat := by
  unfold Toward.cut
  simp only [Nat.one_shiftLeft]
  rcases Nat.le_total d (n.log2 + 2) with h | h
  · rw [Nat.min_eq_left h]
  · rw [Nat.min_eq_right h]
    have hn : n < 2 ^ (n.log2 + 1) := Nat.lt_log2_self
    have h1 : 2 ^ (n.log2 + 1) ≤ 2 ^ (n.log2 + 2) := Nat.pow_le_pow_right (by decide) (by omega)
    have h2 : 2 ^ (n.log2 + 2) ≤ 2 ^ d := Nat.pow_le_pow_right (by decide) h
    rw [Nat.div_eq_of_lt (by omega), Nat.div_eq_of_lt (by omega), Nat.mod_eq_of_lt (by omega), Nat.mod_eq_of_lt (by omega)]

theorem floor_R {y : Nat} (hy : isNum .f64 y = true) (h : Bd (R .f64 y) 2000000000000000) : ∃ n : Int, isNum .f64 (ffloor y) = true ∧ R .f64 (ffloor y) = (n : Rat) ∧ (n : Rat) ≤ R .f64 y ∧ R .f64 y < n + 1 := by
  obtain ⟨s, m, p, hd⟩ := isNum_iff.1 hy
  have hRy : R .f64 y = rv (.number s m p) := by unfold R; rw [hd]
  rw [hRy] at h ⊢
  have hfl : ffloor y = canon .f64 (FloatKind.f64.format.nearest s (Toward.down.cut s (m <<< p.toNat) (-p).toNat) 0) := by
    unfold ffloor ftoward
    rw [show FloatKind.f64.decode y = FloatKind.f64.format.read y from rfl, hd]
    rfl
  obtain ⟨A, hA⟩ : ∃ A, A = m <<< p.toNat := ⟨_, rfl⟩
  obtain ⟨d, hdd⟩ : ∃ d, d = (-p).toNat := ⟨_, rfl⟩
  rw [← hA, ← hdd, cut_down] at hfl
  have hD : 0 < 2 ^ d := Nat.pow_pos (by decide)
  have hDr : (0 : Rat) < ((2 ^ d : Nat) : Rat) := by exact_mod_cast hD
  -- m 2^p = A / 2^d
  have hval : (m : Rat) * 2 ^ p * ((2 ^ d : Nat) : Rat) = (A : Rat) := by
    have e1 : (A : Rat) = (m : Rat) * ((2 ^ p.toNat : Nat) : Rat) := by rw [hA, Nat.shiftLeft_eq]; exact_mod_cast rfl
    rw [e1, Rat.mul_assoc, ← two_nat, ← two_nat, ← two_add]
    congr 2
    omega
  have hdm := Nat.div_add_mod A (2 ^ d)
  have hr : A % 2 ^ d < 2 ^ d := Nat.mod_lt _ hD
  obtain ⟨q, hq⟩ : ∃ q, q = A / 2 ^ d := ⟨_, rfl⟩
  obtain ⟨r, hrr⟩ : ∃ r, r = A % 2 ^ d := ⟨_, rfl⟩
  rw [← hq, ← hrr] at hdm
  rw [← hrr] at hr
  rw [← hq, ← hrr] at hfl
  have hAq : (A : Rat) = ((2 ^ d : Nat) : Rat) * q + r := by exact_mod_cast hdm.symm
  have hr1 : (r : Rat) < ((2 ^ d : Nat) : Rat) := by exact_mod_cast hr
  have hr0 : (0 : Rat) ≤ r := by exact_mod_cast Nat.zero_le r
  obtain ⟨x, hx⟩ : ∃ x, x = (m : Rat) * 2 ^ p := ⟨_, rfl⟩
  have hx0 : 0 ≤ x := by rw [hx]; exact mag_nonneg m p
  rw [← hx] at hval
  have hxb : x ≤ 2000000000000000 := by
    obtain ⟨g1, g2⟩ := h
    rcases rv_abs s m p with g | g <;> rw [g, ← hx] at g1 g2 <;> grind
  generalize ((2 ^ d : Nat) : Rat) = D at *
  have cancel : ∀ a b : Rat, a * D ≤ b * D → a ≤ b := fun a b hab => Rat.le_of_mul_le_mul_right hab hDr
  have lo : (q : Rat) ≤ x := cancel _ _ (by grind)
  have up : x < q + 1 := by
    have h1 : D * x < D * (q + 1) := by grind
    exact (Rat.mul_lt_mul_left hDr).1 h1
  obtain ⟨c, hc⟩ : ∃ c, c = q + (s && r != 0).toNat := ⟨_, rfl⟩
  rw [← hc] at hfl
  have hqb : q ≤ 2000000000000000 := by
    have : (q : Rat) ≤ ((2000000000000000 : Nat) : Rat) := Rat.le_trans lo hxb
    exact_mod_cast this
  have hcb : c ≤ 2000000000000001 := by
    rw [hc]
    cases (s && r != 0) <;> simp <;> omega
  have hcr : (c : Rat) ≤ 2000000000000001 := by
    have : (c : Rat) ≤ ((2000000000000001 : Nat) : Rat) := by exact_mod_cast hcb
    exact this
  have hc0 : (0 : Rat) ≤ c := by exact_mod_cast Nat.zero_le c
  have hG := Gr_ge
  have one : (2 : Rat) ^ (0 : Int) = 1 := rfl
  have hrv : rv (.number s c 0) = if s then -(c : Rat) else c := by
    rw [rv_num, one]
    cases s <;> simp <;> grind
  obtain ⟨w1, w2⟩ := write_ex (k := .f64) (s := s) (m := c) (t := c) (p := 0) (b := 0) (by rw [hrv]; unfold Bd; cases s <;> simp <;> constructor <;> grind) rfl (by decide) (Nat.lt_of_le_of_lt hcb (by decide))
  rw [hfl, w2, hrv]
  cases s with
  | false =>
    have hcq : c = q := by rw [hc]; simp
    refine ⟨(q : Int), w1, ?_, ?_, ?_⟩
    · rw [hcq]; rfl
    · rw [rv_num]
      simp only [Bool.false_eq_true, if_false]
      rw [← hx]
      exact lo
    · rw [rv_num]
      simp only [Bool.false_eq_true, if_false]
      rw [← hx]
      exact up
  | true =>
    have hrvx : rv (.number true m p) = -x := by
      rw [rv_sign, ← hx]
      simp only [if_true]
      grind
    rw [hrvx]
    refine ⟨-(c : Int), w1, ?_, ?_, ?_⟩
    · simp only [if_true]
      push_cast
      rfl
    · push_cast
      -- x at most c
      have hxc : x ≤ c := by
        by_cases g : r = 0
        · have : (r : Rat) = 0 := by rw [g]; rfl
          rw [this] at hAq
          have hqc : (q : Rat) ≤ c := by rw [hc]; exact_mod_cast Nat.le_add_right _ _
          have : x ≤ q := cancel _ _ (by grind)
          grind
        · have hcq : c = q + 1 := by
            rw [hc]
            have : (true && r != 0) = true := by simp [g]
            rw [this]; rfl
          have : (c : Rat) = q + 1 := by rw [hcq]; push_cast; rfl
          rw [this]
          grind
      grind
    · push_cast
      have hxc : (c : Rat) - 1 < x := by
        by_cases g : r = 0
        · have hcq : c = q := by
            rw [hc]
            have : (true && r != 0) = false := by simp [g]
            rw [this]; rfl
          rw [hcq]
          grind
        · have hcq : c = q + 1 := by
            rw [hc]
            have : (true && r != 0) = true := by simp [g]
            rw [this]; rfl
          have e : (c : Rat) = q + 1 := by rw [hcq]; push_cast; rfl
          rw [e]
          have hr2 : (1 : Rat) ≤ r := by
            have : 1 ≤ r := Nat.pos_of_ne_zero g
            exact_mod_cast this
          have h1 : D * q < D * x := by grind
          have := (Rat.mul_lt_mul_left hDr).1 h1
          grind
      grind

/-! ## What is not negative -/

theorem fsub_nn {k : FloatKind} {x y : Nat} (hx : isNum k x = true) (hy : isNum k y = true) (h : 0 ≤ R k x - R k y) : 0 ≤ R k (fsub k x y) := by
  obtain ⟨s, a, p, hx⟩ := isNum_iff.1 hx
  obtain ⟨u, c, q, hy⟩ := isNum_iff.1 hy
  have e1 : R k x = rv (.number s a p) := by unfold R; rw [hx]
  have e2 : R k y = rv (.number u c q) := by unfold R; rw [hy]
  rw [e1, e2] at h
  unfold fsub Format.sub
  rw [hx, hy]
  obtain ⟨r, m, b, h1, h2⟩ := sum_rv (s := s) (u := !u) (a := a) (c := c) (p := p) (q := q)
  have h3 : rv (.number s a p) + rv (.number (!u) c q) = rv (.number s a p) - rv (.number u c q) := by
    have := rv_opp u c q
    rw [show (Datum.number u c q).opposite = .number (!u) c q from rfl] at this
    rw [this]
    grind
  rw [h3] at h2
  rw [← h2] at h
  rw [show (Datum.number u c q).opposite = .number (!u) c q from rfl, h1]
  exact near_nn' h

theorem down_nn {x : Nat} (hx : isNum .f64 x = true) (h : 0 ≤ R .f64 x) : 0 ≤ R .f32 (fconv .f64 x .f32) := by
  obtain ⟨s, m, p, hd⟩ := isNum_iff.1 hx
  have e1 : R .f64 x = rv (.number s m p) := by unfold R; rw [hd]
  rw [e1] at h
  have e : fconv .f64 x .f32 = canon .f32 (FloatKind.f32.format.nearest s m p) := by
    unfold fconv
    rw [show FloatKind.f64.decode x = FloatKind.f64.format.read x from rfl, hd]
    rfl
  rw [e]
  exact near_nn' h

/-- A number less its floor: from 0 to 1. -/
theorem wrap_R {y : Nat} (hy : isNum .f64 y = true) (h : Bd (R .f64 y) 2000000000000000) : I .f64 (fsub .f64 y (ffloor y)) (some (0, 1 + 1 / 1000000000000)) := by
  obtain ⟨n, f1, f2, f3, f4⟩ := floor_R hy h
  have hb : Bd (R .f64 y - R .f64 (ffloor y)) 1 := by rw [f2]; unfold Bd; constructor <;> grind
  have hG := Gr_ge
  have ht := T_le
  have f := fsub_fl hy f1 (hb.mono (by grind))
  have e := f.err64 hb
  have n0 := fsub_nn hy f1 (by rw [f2]; grind)
  refine ⟨f.1, n0, ?_⟩
  unfold Nr at e
  unfold Bd at hb
  grind

end Go.Proofs.Ytilfdpllleninaa
