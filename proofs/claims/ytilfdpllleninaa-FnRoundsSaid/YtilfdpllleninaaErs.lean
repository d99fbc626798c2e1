/- Errors of rounding: roots, changes of kind, comparisons. -/
import Derived.Test.YtilfdpllleninaaErr
namespace Go.Proofs.Ytilfdpllleninaa
open Ieee
set_option linter.unusedVariables false
set_option linter.unusedSimpArgs false

theorem rootFrom_gt (n : Nat) : ∀ (todo root : Nat), n < (root + 2 ^ todo) * (root + 2 ^ todo) → n < (Datum.rootFrom n todo root + 1) * (Datum.rootFrom n todo root + 1)
  | 0, root, h => h
  | todo + 1, root, h => by
    simp only [Datum.rootFrom, Nat.one_shiftLeft]
    split
    · refine rootFrom_gt n todo _ ?_
      rw [Nat.pow_succ, Nat.mul_two, ← Nat.add_assoc] at h
      exact h
    · rename_i hc
      exact rootFrom_gt n todo _ (Nat.lt_of_not_le hc)

/-- The square of a root that is cut behind some digits. -/
theorem root_core {dg m : Nat} {i : Int} (hm : m ≠ 0) (hd : 2 ≤ dg) :
    ∃ t p, (Datum.number false m i).root dg = some (.number false t p) ∧ Nr (((t : Rat) * 2 ^ p) * ((t : Rat) * 2 ^ p)) ((m : Rat) * 2 ^ i) ((m : Rat) * 2 ^ i * 2 ^ (-(dg : Int))) := by
  obtain ⟨more, hmore⟩ : ∃ more, more = 2 * dg - m.log2 + ((i - (2 * dg - m.log2 : Nat)) % 2).toNat := ⟨_, rfl⟩
  obtain ⟨n, hn⟩ : ∃ n, n = m <<< more := ⟨_, rfl⟩
  obtain ⟨W, hW⟩ : ∃ W, W = Datum.rootFrom n (n.log2 / 2 + 1) 0 := ⟨_, rfl⟩
  refine ⟨2 * W + (W * W != n).toNat, (i - more) / 2 - 1, ?_, ?_⟩
  · unfold Datum.root
    simp only [if_neg hm, Bool.false_eq_true, if_false]
    rw [← hmore, ← hn, ← hW]
  · have hself := Nat.log2_self_le hm
    have hn0 : n ≠ 0 := by
      rw [hn, Nat.shiftLeft_eq]
      exact Nat.mul_ne_zero hm (Nat.ne_of_gt (Nat.pow_pos (by decide)))
    have h1 : W * W ≤ n := by rw [hW]; exact rootFrom_le n _ 0 (by simp)
    have h2 : n < (W + 1) * (W + 1) := by
      rw [hW]
      refine rootFrom_gt n _ 0 ?_
      rw [Nat.zero_add, ← Nat.pow_add]
      exact Nat.lt_of_lt_of_le Nat.lt_log2_self (Nat.pow_le_pow_right (by decide) (by omega))
    have hbig : 2 ^ (2 * dg) ≤ n := by
      rw [hn, Nat.shiftLeft_eq]
      refine Nat.le_trans ?_ (Nat.mul_le_mul_right _ hself)
      rw [← Nat.pow_add]
      exact Nat.pow_le_pow_right (by decide) (by omega)
    have hWb : 2 ^ dg ≤ W := by
      refine Nat.le_of_not_lt fun hlt => ?_
      have h3 : (W + 1) * (W + 1) ≤ 2 ^ dg * 2 ^ dg := Nat.mul_le_mul hlt hlt
      rw [← Nat.pow_add, show dg + dg = 2 * dg from by omega] at h3
      omega
    obtain ⟨h, hh⟩ : ∃ h : Int, i - more = 2 * h := ⟨(i - more) / 2, by omega⟩
    rw [hh, show 2 * h / 2 - 1 = h - 1 from by omega]
    obtain ⟨st, hst⟩ : ∃ st, st = (W * W != n).toNat := ⟨_, rfl⟩
    rw [← hst]
    have hst0 : (st = 0 ∧ W * W = n) ∨ (st = 1 ∧ W * W + 1 ≤ n) := by
      rw [hst]
      by_cases g : W * W = n
      · left
        refine ⟨?_, g⟩
        have : (W * W != n) = false := by simp [g]
        rw [this]; rfl
      · right
        have : (W * W != n) = true := by simp [g]
        rw [this]
        exact ⟨rfl, by omega⟩
    have hp := two_pos (h - 1)
    have hs := two_step h
    have hph := two_pos h
    -- all in units of 2 ^ h
    have e1 : (m : Rat) * 2 ^ i = (n : Rat) * (2 ^ h * 2 ^ h) := by
      rw [← two_add, show h + h = i - more from by omega, hn, Nat.shiftLeft_eq]
      have e2 : ((m * 2 ^ more : Nat) : Rat) = (m : Rat) * ((2 ^ more : Nat) : Rat) := by exact_mod_cast rfl
      have e3 : (2 : Rat) ^ i = ((2 ^ more : Nat) : Rat) * 2 ^ (i - more) := by rw [← two_nat, ← two_add]; congr 1; omega
      rw [e2, e3]
      grind
    have e2 : ((2 * W + st : Nat) : Rat) * 2 ^ (h - 1) = ((W : Rat) + st / 2) * 2 ^ h := by
      rw [← hs]
      push_cast
      grind
    rw [e1, e2]
    have hu : 0 < (2 : Rat) ^ h * 2 ^ h := Rat.mul_pos hph hph
    have e3 : ((W : Rat) + st / 2) * 2 ^ h * (((W : Rat) + st / 2) * 2 ^ h) = (((W : Rat) + st / 2) * ((W : Rat) + st / 2)) * (2 ^ h * 2 ^ h) := by grind
    rw [e3]
    generalize (2 : Rat) ^ h * 2 ^ h = u at *
    -- W ≤ n / 2 ^ dg
    have hWn : (W : Rat) ≤ (n : Rat) * 2 ^ (-(dg : Int)) := by
      have a1 : 2 ^ dg * W ≤ n := Nat.le_trans (Nat.mul_le_mul_right _ hWb) h1
      have a2 : ((2 ^ dg : Nat) : Rat) * W ≤ n := by exact_mod_cast a1
      have hpd := two_pos (-(dg : Int))
      have a3 := Rat.mul_le_mul_of_nonneg_right a2 (Rat.le_of_lt hpd)
      have a4 : ((2 ^ dg : Nat) : Rat) * 2 ^ (-(dg : Int)) = 1 := by rw [← two_nat, ← two_add]; rw [show (dg : Int) + -dg = 0 from by omega]; rfl
      have a5 : ((2 ^ dg : Nat) : Rat) * W * 2 ^ (-(dg : Int)) = W := by
        rw [show ((2 ^ dg : Nat) : Rat) * W * 2 ^ (-(dg : Int)) = (((2 ^ dg : Nat) : Rat) * 2 ^ (-(dg : Int))) * W by grind, a4]
        grind
      rw [a5] at a3
      exact a3
    have b1 : (W : Rat) * W ≤ n := by exact_mod_cast h1
    have b2 : (n : Rat) ≤ W * W + 2 * W := by
      have : n ≤ W * W + 2 * W := by
        have : (W + 1) * (W + 1) = W * W + 2 * W + 1 := by grind
        omega
      exact_mod_cast this
    have hWpos : (4 : Rat) ≤ W := by
      have : 4 ≤ W := Nat.le_trans (Nat.pow_le_pow_right (by decide : 0 < 2) hd) hWb
      exact_mod_cast this
    generalize (2 : Rat) ^ (-(dg : Int)) = ε at *
    have key1 : ((W : Rat) + st / 2) * ((W : Rat) + st / 2) - n ≤ n * ε := by
      rcases hst0 with ⟨c1, c2⟩ | ⟨c1, c2⟩
      · have c3 : (W : Rat) * W = n := by exact_mod_cast c2
        rw [c1]
        have : (0 : Rat) ≤ W := by grind
        have z : ((0 : Nat) : Rat) = 0 := rfl
        rw [z]
        grind
      · have c3 : (W : Rat) * W + 1 ≤ n := by exact_mod_cast c2
        rw [c1]
        have z : ((1 : Nat) : Rat) = 1 := rfl
        rw [z]
        grind
    have key2 : n - ((W : Rat) + st / 2) * ((W : Rat) + st / 2) ≤ n * ε := by
      rcases hst0 with ⟨c1, c2⟩ | ⟨c1, c2⟩
      · have c3 : (W : Rat) * W = n := by exact_mod_cast c2
        rw [c1]
        have z : ((0 : Nat) : Rat) = 0 := rfl
        rw [z]
        grind
      · rw [c1]
        have z : ((1 : Nat) : Rat) = 1 := rfl
        rw [z]
        grind
    have k1 := Rat.mul_le_mul_of_nonneg_right key1 (Rat.le_of_lt hu)
    have k2 := Rat.mul_le_mul_of_nonneg_right key2 (Rat.le_of_lt hu)
    unfold Nr
    constructor <;> grind

/-- The root of a number that is not negative: near to what squares nearly to it. -/
theorem sqrt_fl {x : Nat} (hx : isNum .f64 x = true) (h0 : 0 ≤ R .f64 x) (h : R .f64 x ≤ Gr) :
    isNum .f64 (fsqrt x) = true ∧ ∃ ρ, 0 ≤ ρ ∧ Nr (ρ * ρ) (R .f64 x) (R .f64 x / 16777216) ∧ Nr (R .f64 (fsqrt x)) ρ (ρ / 9007199254740992 + T) := by
  obtain ⟨s, m, i, hx⟩ := isNum_iff.1 hx
  unfold R at h0 h ⊢
  unfold fsqrt Format.sqrt
  rw [hx] at h0 h ⊢
  by_cases hm : m = 0
  · subst hm
    have hr : (Datum.number s 0 i).root (FloatKind.f64.format.fractionBits + 2) = some (.number s 0 i) := by
      unfold Datum.root
      simp
    rw [hr]
    have hz : rv (.number s 0 i) = 0 := by rw [rv_num]; cases s <;> simp <;> grind
    obtain ⟨n1, n2⟩ := nearest_zero (k := .f64) (s := s) (place := i)
    refine ⟨by show isNum .f64 (canon .f64 (FloatKind.f64.format.nearest s 0 i)) = true; rw [canon_num' n1]; exact n1, 0, by grind, by rw [hz]; unfold Nr; constructor <;> grind, ?_⟩
    show Nr (rv (FloatKind.f64.format.read (canon .f64 (FloatKind.f64.format.nearest s 0 i)))) 0 _
    rw [canon_num' n1]
    have n3 : rv (FloatKind.f64.format.read (FloatKind.f64.format.nearest s 0 i)) = 0 := n2
    rw [n3]
    have := T_pos
    unfold Nr
    constructor <;> grind
  · have hs : s = false := by
      cases s
      · rfl
      · have h1 : 0 < (m : Rat) * 2 ^ i := by
          have : (0 : Rat) < m := by exact_mod_cast Nat.pos_of_ne_zero hm
          exact Rat.mul_pos this (two_pos i)
        rw [rv_sign] at h0
        simp at h0
        grind
    subst hs
    have hv : rv (.number false m i) = (m : Rat) * 2 ^ i := by rw [rv_num]; simp
    rw [hv] at h0 h ⊢
    obtain ⟨t, p, h1, h2⟩ := root_core (dg := FloatKind.f64.format.fractionBits + 2) (i := i) hm (by decide)
    rw [h1]
    have hρ : rv (.number false t p) = (t : Rat) * 2 ^ p := by rw [rv_num]; simp
    have hρ0 := mag_nonneg t p
    obtain ⟨ρ, hρe⟩ : ∃ ρ, ρ = (t : Rat) * 2 ^ p := ⟨_, rfl⟩
    rw [← hρe] at h2 hρ hρ0
    have hε : (2 : Rat) ^ (-((FloatKind.f64.format.fractionBits + 2 : Nat) : Int)) ≤ 1 / 16777216 := by decide +kernel
    have hh := Rat.mul_le_mul_of_nonneg_left hε h0
    have h2' : Nr (ρ * ρ) ((m : Rat) * 2 ^ i) ((m : Rat) * 2 ^ i / 16777216) := h2.mono (by grind)
    have hρG : ρ ≤ Gr := by
      rcases Rat.le_total (a := ρ) (b := Gr) with g | g
      · exact g
      · have e : Gr * Gr ≤ ρ * ρ := by
          have a1 := Rat.mul_le_mul_of_nonneg_right g (show 0 ≤ Gr by decide +kernel)
          have a2 := Rat.mul_le_mul_of_nonneg_left g hρ0
          grind
        unfold Nr at h2'
        have : Gr * Gr = 1606938044258990275541962092341162602522202993782792835301376 := by decide +kernel
        have g2 : Gr = 1267650600228229401496703205376 := rfl
        rw [g2] at h
        grind
    have hB : Bd (rv (.number false t p)) Gr := by rw [hρ]; unfold Bd; exact ⟨by have : (0 : Rat) ≤ Gr := by decide +kernel
                                                                                 grind, hρG⟩
    obtain ⟨n1, n2⟩ := write_fl (k := .f64) hB
    refine ⟨n1, ρ, hρ0, h2', ?_⟩
    have n3 := n2 ρ (by rw [hρ]; unfold Bd; constructor <;> grind)
    rw [hρ] at n3
    exact n3.mono (by unfold U; grind)

/-- To the wider kind: the same. -/
theorem up_R {x : Nat} (hx : isNum .f32 x = true) : isNum .f64 (fconv .f32 x .f64) = true ∧ R .f64 (fconv .f32 x .f64) = R .f32 x := by
  refine ⟨by rw [isNum_up]; exact hx, ?_⟩
  obtain ⟨s, m, p, hd⟩ := isNum_iff.1 hx
  obtain ⟨hlp, hm⟩ : lplace .f32 ≤ p ∧ m < 2 ^ 24 := by
    have h1 := mag_lt hd
    refine ⟨?_, h1⟩
    unfold Format.read at hd
    simp only at hd
    split at hd
    · rw [Datum.number.injEq] at hd
      rw [← hd.2.2]
      decide
    · split at hd
      · rw [Datum.number.injEq] at hd
        rw [← hd.2.2]
        have : FloatKind.f32.format.leastPlace = -149 := by decide
        rw [this]
        simp only [lplace]
        omega
      · split at hd <;> cases hd
  have hmax := read_max hd
  have hB : (m : Rat) * 2 ^ p < 2 ^ ((129 : Nat) : Int) := by
    rw [hd] at hmax
    rcases hmax with rfl | ⟨h, h1, h2⟩
    · have := two_pos ((129 : Nat) : Int)
      simp
      grind
    · have a1 : (m : Rat) ≤ ((2 ^ h : Nat) : Rat) := by exact_mod_cast h1
      have a2 := Rat.mul_le_mul_of_nonneg_right a1 (Rat.le_of_lt (two_pos p))
      rw [← two_nat, ← two_add] at a2
      have a3 : (2 : Rat) ^ ((h : Int) + p) ≤ 2 ^ (128 : Int) := two_le (by simp only [emax] at h2; omega)
      have a4 : (2 : Rat) ^ (128 : Int) < 2 ^ ((129 : Nat) : Int) := by decide +kernel
      exact Std.lt_of_le_of_lt (Rat.le_trans a2 a3) a4
  have hl64 : lplace .f64 ≤ p := by simp only [lplace] at hlp ⊢; omega
  obtain ⟨n1, n2⟩ := nearest_exact (k := .f64) (s := s) (t := m) (b := p) (e := 129) (by decide) hB rfl hl64 (Nat.lt_trans hm (by decide))
  have e : fconv .f32 x .f64 = canon .f64 (FloatKind.f64.format.nearest s m p) := by
    unfold fconv
    rw [show FloatKind.f32.decode x = FloatKind.f32.format.read x from rfl, hd]
    rfl
  rw [e, canon_num' n1, n2]
  unfold R
  rw [hd]

/-- To the narrower kind. -/
theorem down_fl {x : Nat} (hx : isNum .f64 x = true) (h : Bd (R .f64 x) Gr) : fconvOk .f64 x .f32 = true ∧ Fl .f32 (fconv .f64 x .f32) (R .f64 x) := by
  obtain ⟨s, m, p, hd⟩ := isNum_iff.1 hx
  unfold R at h
  rw [hd] at h
  have h1 := write_fl (k := .f32) h
  have hcan : isNum .f32 (FloatKind.f32.format.nearest s m p) = true := by
    have := h1.1
    unfold canon at this
    cases hn : isNaN .f32 (FloatKind.f32.format.nearest s m p) with
    | false => rw [hn] at this; exact this
    | true =>
      rw [hn] at this
      have hq : ¬ (isNum .f32 (qnan .f32) = true) := by decide +kernel
      exact absurd this hq
  constructor
  · unfold fconvOk
    rw [show FloatKind.f64.decode x = FloatKind.f64.format.read x from rfl, hd]
    obtain ⟨s', m', p', hd'⟩ := isNum_iff.1 hcan
    show (!(FloatKind.f32.format.read (FloatKind.f32.format.nearest s m p)).isInfinity) = true
    rw [hd']
    rfl
  · have e : fconv .f64 x .f32 = canon .f32 (FloatKind.f32.format.nearest s m p) := by
      unfold fconv
      rw [show FloatKind.f64.decode x = FloatKind.f64.format.read x from rfl, hd]
      rfl
    rw [e]
    have e2 : R .f64 x = rv (.number s m p) := by unfold R; rw [hd]
    rw [e2]
    exact h1

/-- A number's worth, by its scaled whole number. -/
theorem R_V {k : FloatKind} {x : Nat} (hx : isNum k x = true) : R k x = (V k x : Rat) * 2 ^ lplace k := by
  obtain ⟨s, m, p, hd⟩ := isNum_iff.1 hx
  have hlp : lplace k ≤ p := by
    unfold Format.read at hd
    simp only [(consts k).2.1] at hd
    split at hd
    · rw [Datum.number.injEq] at hd
      omega
    · split at hd
      · rw [Datum.number.injEq] at hd
        omega
      · split at hd <;> cases hd
  unfold R V
  rw [hd]
  have := rv_signed s m (p - lplace k).toNat (lplace k)
  rw [show lplace k + ((p - lplace k).toNat : Int) = p from by omega] at this
  rw [this]
  rfl

theorem lt_R {k : FloatKind} {x y : Nat} (hx : isNum k x = true) (hy : isNum k y = true) : V k x < V k y ↔ R k x < R k y := by
  rw [R_V hx, R_V hy]
  have hp := two_pos (lplace k)
  constructor
  · intro h
    have h1 : (V k x : Rat) < V k y := by exact_mod_cast h
    have := (Rat.mul_lt_mul_left hp).2 h1
    grind
  · intro h
    have h1 : (2 : Rat) ^ lplace k * (V k x : Rat) < 2 ^ lplace k * (V k y : Rat) := by grind
    have h2 := (Rat.mul_lt_mul_left hp).1 h1
    exact_mod_cast h2

theorem flt_R {k : FloatKind} {x y : Nat} (hx : isNum k x = true) (hy : isNum k y = true) : flt k x y = decide (R k x < R k y) := by
  rw [flt_num hx hy]
  exact decide_eq_decide.2 (lt_R hx hy)
theorem fgt_R {k : FloatKind} {x y : Nat} (hx : isNum k x = true) (hy : isNum k y = true) : fgt k x y = decide (R k y < R k x) := by
  rw [fgt_num hx hy]
  exact decide_eq_decide.2 (lt_R hy hx)
theorem fle_R {k : FloatKind} {x y : Nat} (hx : isNum k x = true) (hy : isNum k y = true) : fle k x y = decide (R k x ≤ R k y) := by
  rw [fle_num hx hy]
  refine decide_eq_decide.2 ?_
  rw [← Int.not_lt, lt_R hy hx, Rat.not_lt]
theorem fge_R {k : FloatKind} {x y : Nat} (hx : isNum k x = true) (hy : isNum k y = true) : fge k x y = decide (R k y ≤ R k x) := by
  rw [fge_num hx hy]
  refine decide_eq_decide.2 ?_
  rw [← Int.not_lt, lt_R hx hy, Rat.not_lt]
theorem eq_R {k : FloatKind} {x y : Nat} (hx : isNum k x = true) (hy : isNum k y = true) : V k x = V k y ↔ R k x = R k y := by
  constructor
  · intro h; rw [R_V hx, R_V hy, h]
  · intro h
    refine Int.le_antisymm ?_ ?_
    · rw [← Int.not_lt, lt_R hy hx, h]; grind
    · rw [← Int.not_lt, lt_R hx hy, h]; grind
theorem feq_R {k : FloatKind} {x y : Nat} (hx : isNum k x = true) (hy : isNum k y = true) : feq k x y = decide (R k x = R k y) := by
  rw [feq_num hx hy]
  exact decide_eq_decide.2 (eq_R hx hy)

theorem Fl.err {x : Nat} {q M : Rat} (h : Fl .f32 x q) (hM : Bd q M) : Nr (R .f32 x) q (M / 16777216 + T) := (h.2 M hM).mono (by unfold U; grind)
theorem Fl.err64 {x : Nat} {q M : Rat} (h : Fl .f64 x q) (hM : Bd q M) : Nr (R .f64 x) q (M / 9007199254740992 + T) := (h.2 M hM).mono (by unfold U; grind)
theorem T_le : T ≤ 1 / 1000000000000000000000000000000000000000000 := by decide +kernel
theorem Gr_ge : 1000000000000000000000000000000 ≤ Gr := by decide +kernel

theorem sq_nonneg (a : Rat) : 0 ≤ a * a := by
  rcases Rat.le_total (a := 0) (b := a) with h | h
  · exact Rat.mul_nonneg h h
  · have := Rat.mul_nonneg (show 0 ≤ -a by grind) (show 0 ≤ -a by grind)
    grind
theorem sq_le {a b : Rat} (h0 : 0 ≤ a) (h : a ≤ b) : a * a ≤ b * b := by
  have h1 := Rat.mul_le_mul_of_nonneg_left h h0
  have h2 := Rat.mul_le_mul_of_nonneg_right h (show 0 ≤ b by grind)
  grind
theorem le_of_sq {a b : Rat} (h0 : 0 ≤ b) (h : a * a ≤ b * b) : a ≤ b := by
  rcases Rat.le_total (a := a) (b := b) with g | g
  · exact g
  · rcases Rat.le_total (a := b) (b := 0) with h2 | h2
    · have hb : b = 0 := Rat.le_antisymm h2 h0
      subst hb
      have ha : a * a ≤ 0 := by grind
      rcases Rat.le_total (a := a) (b := 0) with h3 | h3
      · exact h3
      · by_cases e : a = 0
        · grind
        · have h4 : 0 < a := Rat.lt_of_le_of_ne h3 (fun x => e x.symm)
          have := Rat.mul_pos h4 h4
          grind
    · by_cases e : a = b
      · grind
      · have h5 : b < a := Rat.lt_of_le_of_ne g (fun x => e x.symm)
        have h6 : 0 < a := by grind
        have := (Rat.mul_lt_mul_left h6).2 h5
        have h8 := Rat.mul_le_mul_of_nonneg_right (Rat.le_of_lt h5) h0
        grind

/-- The root of a float32, in float32. -/
def rootN (x : Nat) : Nat := fconv .f64 (fsqrt (fconv .f32 x .f64)) .f32

theorem root_fl {x : Nat} (hx : isNum .f32 x = true) (h0 : 0 ≤ R .f32 x) (h : R .f32 x ≤ 1000000000000000000000000000000) :
    fconvOk .f32 x .f64 = true ∧ fconvOk .f64 (fsqrt (fconv .f32 x .f64)) .f32 = true ∧ isNum .f32 (rootN x) = true ∧ ∃ ρ, 0 ≤ ρ ∧ Nr (ρ * ρ) (R .f32 x) (R .f32 x / 16777216) ∧ Nr (R .f32 (rootN x)) ρ (ρ / 16000000 + 3 * T) := by
  obtain ⟨u1, u2⟩ := up_R hx
  have hT := T_pos
  have hT1 := T_le
  have hG := Gr_ge
  obtain ⟨n1, ρ, p1, p2, p3⟩ := sqrt_fl u1 (by rw [u2]; exact h0) (by rw [u2]; grind)
  rw [u2] at p2
  have hρ : ρ ≤ 10000000000000000 := by
    refine le_of_sq (by grind) ?_
    unfold Nr at p2
    grind
  have hb : Bd (R .f64 (fsqrt (fconv .f32 x .f64))) (ρ + ρ / 9007199254740992 + T) := by unfold Nr at p3; unfold Bd; constructor <;> grind
  obtain ⟨d1, d2⟩ := down_fl n1 (hb.mono (by grind))
  refine ⟨fconvOk_up x, d1, d2.1, ρ, p1, p2, ?_⟩
  exact ((d2.err hb).trans p3).mono (by grind)

end Go.Proofs.Ytilfdpllleninaa
