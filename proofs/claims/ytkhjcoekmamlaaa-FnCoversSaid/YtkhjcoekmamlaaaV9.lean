/- The plain law of FnCovers, part 9: shares of what low and high places see. -/
import Derived.Test.YtkhjcoekmamlaaaV8
namespace Go.Proofs.Ytkhjcoekmamlaaa
set_option linter.unusedVariables false
set_option linter.unusedSimpArgs false

theorem lim_R : impl_SineTurns_need 1023410176 = true ∧ isNum .f32 (impl_SineTurns 1023410176) = true ∧ 1950001 / 10000000 ≤ R .f32 (impl_SineTurns 1023410176) ∧ R .f32 (impl_SineTurns 1023410176) ≤ 1959999 / 10000000 := by
  obtain ⟨a, b⟩ := f_limit
  obtain ⟨b1, b2, b3⟩ := I.at b
  exact ⟨a, b1, b2, b3⟩

/-- What a drawn place sees. -/
noncomputable def sawF (m r s j n e h : Nat) : Nat → Bool := seenG (risN (balN m r s j) (atP (balN m r s j) n e h)) 1023410176

theorem saw_R (m r : Fin 8) (s j : Fin 17) (n : Fin 29) (e : Fin 31) {h : Nat} {H : Rat} (hl : longB (fadd .f32 (radN r.val) h) H = true) (h1 : ρN r.val + 3 / 4 ≤ H) (h2 : H ≤ 4) {k : Nat} (hk : k < 30) :
    Rise (ρN r.val) H (gamC j.val n.val e.val (k % 6) (k / 6)) (R .f32 (risN (balN m.val r.val s.val j.val) (atP (balN m.val r.val s.val j.val) n.val e.val h) (k % 6) (k / 6))) ∧
    (sawF m.val r.val s.val j.val n.val e.val h k = true ↔ R .f32 (impl_SineTurns 1023410176) ≤ R .f32 (risN (balN m.val r.val s.val j.val) (atP (balN m.val r.val s.val j.val) n.val e.val h) (k % 6) (k / 6))) := by
  obtain ⟨q1, q2⟩ := ris_R m r s j n e hl h1 h2 (x := k % 6) (y := k / 6) (by omega) (by omega)
  refine ⟨q2, ?_⟩
  unfold sawF seenG
  rw [fge_R q1 lim_R.2.1, decide_eq_true_eq]

theorem low_high_all (m r : Fin 8) (s j : Fin 17) (n : Fin 29) (e : Fin 31) {k : Nat} (hk : k < 30) (h : sawF m.val r.val s.val j.val n.val e.val 1061158912 k = true) : sawF m.val r.val s.val j.val n.val e.val 1077936128 k = true := by
  obtain ⟨-, l1, l2⟩ := long_of r
  have hb := ρ_bd r
  obtain ⟨a1, a2⟩ := saw_R m r s j n e l1 (by grind) (by grind) hk
  obtain ⟨b1, b2⟩ := saw_R m r s j n e l2 (by grind) (by grind) hk
  have hL := lim_R
  have := low_high a1 b1 (by have := a2.1 h; grind)
  exact b2.2 (by grind)

/-- The antipode of a cell. -/
def anti (k : Nat) : Nat := 6 * (4 - k / 6) + (k % 6 + 3) % 6

theorem nearB_R {a b : Rat} (h : nearB a b = true) : Nr a b (1 / 100000) := by
  unfold nearB at h
  rw [Bool.and_eq_true, decide_eq_true_eq, decide_eq_true_eq] at h
  exact h

theorem anti_dot (j : Fin 17) (n : Fin 29) (e : Fin 31) {k : Nat} (hk : k < 30) : gamC j.val n.val e.val (k % 6) (k / 6) + gamC j.val n.val e.val (anti k % 6) (anti k / 6) ≤ 1 / 1000 := by
  have e1 : anti k % 6 = (k % 6 + 3) % 6 := by unfold anti; omega
  have e2 : anti k / 6 = 4 - k / 6 := by unfold anti; omega
  rw [e1, e2]
  have hN := circ_of (c_no n)
  have hF := circ_of (c_tu ⟨e.val + 2 * j.val, by have := e.isLt; have := j.isLt; omega⟩)
  obtain ⟨E1, E2, E3⟩ := dir_bd hN hF
  have cN := c_gn' (y := k / 6) (by omega)
  have cF := c_ge' (x := k % 6) (y := 0) (by omega) j
  have cN' := c_gn' (y := 4 - k / 6) (by omega)
  have cF' := c_ge' (x := (k % 6 + 3) % 6) (y := 0) (by omega) j
  have hE := f_antiE ⟨k % 6, by omega⟩ j
  have hA := f_antiN ⟨k / 6, by omega⟩
  unfold antiE at hE
  unfold antiN at hA
  rw [Bool.and_eq_true] at hE hA
  have s1 := nearB_R hE.1
  have s2 := nearB_R hE.2
  have s3 := nearB_R hA.1
  have s4 := nearB_R hA.2
  unfold gamC dot
  generalize dX (noN n.val) (tuN (e.val + 2 * j.val)) = X at *
  generalize dY (noN n.val) (tuN (e.val + 2 * j.val)) = Y at *
  generalize dZ (noN n.val) (tuN (e.val + 2 * j.val)) = Z at *
  unfold dX dY dZ
  have b1 := cN.cb
  have b2 := cF.cb
  have b3 := cF.sb
  have b1' := cN'.cb
  have b2' := cF'.cb
  have b3' := cF'.sb
  simp only at s1 s2 s3 s4
  generalize cosR (gN ((k / 6 : Nat) : Int)) = c at *
  generalize sinR (gN ((k / 6 : Nat) : Int)) = d at *
  generalize cosR (gN ((4 - k / 6 : Nat) : Int)) = c' at *
  generalize sinR (gN ((4 - k / 6 : Nat) : Int)) = d' at *
  generalize cosR (fadd .f32 (gE ((k % 6 : Nat) : Int)) (stN j.val)) = p at *
  generalize sinR (fadd .f32 (gE ((k % 6 : Nat) : Int)) (stN j.val)) = q at *
  generalize cosR (fadd .f32 (gE (((k % 6 + 3) % 6 : Nat) : Int)) (stN j.val)) = p' at *
  generalize sinR (fadd .f32 (gE (((k % 6 + 3) % 6 : Nat) : Int)) (stN j.val)) = q' at *
  have t1 := Nr.mul s4 s2 b1 b2'
  have t2 := Nr.mul s4 s1 b1 b3'
  have u1 : Bd (c' * p' + c * p) (3 / 100000) := by unfold Nr Bd at *; constructor <;> grind
  have u2 : Bd (c' * q' + c * q) (3 / 100000) := by unfold Nr Bd at *; constructor <;> grind
  have u3 : Bd (d' + d) (3 / 100000) := by unfold Nr Bd at *; constructor <;> grind
  have v1 := Bd.mul u1 E1
  have v2 := Bd.mul u2 E2
  have v3 := Bd.mul u3 E3
  unfold Bd at v1 v2 v3
  grind

/-- Of a cell and its antipode one at most is seen. -/
theorem anti_all (m r : Fin 8) (s j : Fin 17) (n : Fin 29) (e : Fin 31) {k : Nat} (hk : k < 30) (h : sawF m.val r.val s.val j.val n.val e.val 1077936128 k = true) : sawF m.val r.val s.val j.val n.val e.val 1077936128 (anti k) = false := by
  obtain ⟨-, l1, l2⟩ := long_of r
  have hb := ρ_bd r
  have hk' : anti k < 30 := by unfold anti; omega
  obtain ⟨a1, a2⟩ := saw_R m r s j n e l2 (by grind) (by grind) hk
  obtain ⟨b1, b2⟩ := saw_R m r s j n e l2 (by grind) (by grind) hk'
  have hL := lim_R
  cases hc : sawF m.val r.val s.val j.val n.val e.val 1077936128 (anti k) with
  | false => rfl
  | true =>
    have g1 := a1.near hb.1 hb.2 (by grind) (by grind) (by have := a2.1 h; grind)
    have g2 := b1.near hb.1 hb.2 (by grind) (by grind) (by have := b2.1 hc; grind)
    have g3 := anti_dot j n e hk
    grind

theorem anti_hi : ∀ k : Nat, k < 30 → hiW (anti k / 6) = hiW (k / 6) := by
  intro k hk
  have e2 : anti k / 6 = 4 - k / 6 := by unfold anti; omega
  rw [e2]
  have : k / 6 < 5 := by omega
  generalize k / 6 = y at *
  match y, this with
  | 0, _ => rfl
  | 1, _ => rfl
  | 2, _ => rfl
  | 3, _ => rfl
  | 4, _ => rfl

theorem pair_hi {f : Nat → Bool} (h : ∀ k, k < 30 → f k = true → f (anti k) = false) {k : Nat} (hk : k < 30) : partR f k + partR f (anti k) ≤ hiW (k / 6) := by
  have hk' : anti k < 30 := by unfold anti; omega
  obtain ⟨-, w1, w2, w3⟩ := wt_I hk
  obtain ⟨-, w1', w2', w3'⟩ := wt_I hk'
  rw [anti_hi k hk] at w3'
  obtain ⟨l1, l2⟩ := lohi (k / 6)
  cases hf : f k with
  | true =>
    have e1 : partR f k = R .f32 (wt k) := by unfold partR; rw [hf]
    have e2 : partR f (anti k) = 0 := by unfold partR; rw [h k hk hf]
    rw [e1, e2]
    grind
  | false =>
    have e1 : partR f k = 0 := by unfold partR; rw [hf]
    rw [e1]
    cases hg : f (anti k) with
    | true =>
      have e2 : partR f (anti k) = R .f32 (wt (anti k)) := by unfold partR; rw [hg]
      rw [e2]
      grind
    | false =>
      have e2 : partR f (anti k) = 0 := by unfold partR; rw [hg]
      rw [e2]
      grind

theorem half {f : Nat → Bool} (h : ∀ k, k < 30 → f k = true → f (anti k) = false) : sumR f 30 ≤ 972 / 100 := by
  have p0 : partR f 0 + partR f 27 ≤ 3091 / 10000 := pair_hi h (k := 0) (by omega)
  have p1 : partR f 1 + partR f 28 ≤ 3091 / 10000 := pair_hi h (k := 1) (by omega)
  have p2 : partR f 2 + partR f 29 ≤ 3091 / 10000 := pair_hi h (k := 2) (by omega)
  have p3 : partR f 3 + partR f 24 ≤ 3091 / 10000 := pair_hi h (k := 3) (by omega)
  have p4 : partR f 4 + partR f 25 ≤ 3091 / 10000 := pair_hi h (k := 4) (by omega)
  have p5 : partR f 5 + partR f 26 ≤ 3091 / 10000 := pair_hi h (k := 5) (by omega)
  have p6 : partR f 6 + partR f 21 ≤ 8091 / 10000 := pair_hi h (k := 6) (by omega)
  have p7 : partR f 7 + partR f 22 ≤ 8091 / 10000 := pair_hi h (k := 7) (by omega)
  have p8 : partR f 8 + partR f 23 ≤ 8091 / 10000 := pair_hi h (k := 8) (by omega)
  have p9 : partR f 9 + partR f 18 ≤ 8091 / 10000 := pair_hi h (k := 9) (by omega)
  have p10 : partR f 10 + partR f 19 ≤ 8091 / 10000 := pair_hi h (k := 10) (by omega)
  have p11 : partR f 11 + partR f 20 ≤ 8091 / 10000 := pair_hi h (k := 11) (by omega)
  have p12 : partR f 12 + partR f 15 ≤ 10001 / 10000 := pair_hi h (k := 12) (by omega)
  have p13 : partR f 13 + partR f 16 ≤ 10001 / 10000 := pair_hi h (k := 13) (by omega)
  have p14 : partR f 14 + partR f 17 ≤ 10001 / 10000 := pair_hi h (k := 14) (by omega)
  simp only [sumR]
  grind

/-! ## The shares -/

theorem k_six : I .f32 1058642330 (some (59 / 100, 61 / 100)) := I.at (by decide +kernel)

theorem shares {f g : Nat → Bool} (hfg : ∀ k, k < 30 → f k = true → g k = true) (hg : ∀ k, k < 30 → g k = true → g (anti k) = false) :
    flt .f32 (covN f) 0 = false ∧ flt .f32 (covN g) (covN f) = false ∧ fgt .f32 (covN g) 1058642330 = false := by
  obtain ⟨f1, f2, f3, f4⟩ := sum_R f 30 (by omega)
  obtain ⟨g1, g2, g3, g4⟩ := sum_R g 30 (by omega)
  obtain ⟨a1, a2, a3⟩ := I.at c_all
  obtain ⟨x1, X, x2, x3⟩ := share_R f
  obtain ⟨y1, Y, y2, y3⟩ := share_R g
  have hz : isNum .f32 0 = true ∧ R .f32 0 = 0 := by decide +kernel
  have hh := half hg
  push_cast at f2 f4 g2 g4
  generalize hA : R .f32 (sumN (fun _ => true) 30) = A at *
  refine ⟨?_, ?_, ?_⟩
  · rcases (sum_le (f := fun _ => false) (g := f) 30 (by omega) (fun j _ h => by cases h)).1 with h | h
    · have e : covN f = 0 := by
        unfold covN
        rw [← sumN_congr 30 h, sumN_none]
        exact c_none
      rw [e]
      decide +kernel
    · have h0 : sumR (fun _ => false) 30 = 0 := by
        have : ∀ k, sumR (fun _ => false) k = 0 := fun k => by
          induction k with
          | zero => rfl
          | succ k ih => show sumR (fun _ => false) k + 0 = 0; rw [ih]; grind
        exact this 30
      rw [h0] at h
      rw [flt_R x1 hz.1, hz.2]
      refine decide_eq_false ?_
      have hX : 1 / 100 ≤ X := by
        rw [← Rat.not_lt]
        intro hl
        have q := Rat.mul_le_mul_of_nonneg_right (Rat.le_of_lt hl) (c := A) (by grind)
        unfold Nr at f2
        grind
      unfold Nr at x3
      grind
  · rcases (sum_le 30 (by omega) hfg).1 with h | h
    · have e : covN f = covN g := by unfold covN; rw [sumN_congr 30 h]
      rw [e, flt_R y1 y1]
      exact decide_eq_false (by grind)
    · rw [flt_R y1 x1]
      refine decide_eq_false ?_
      have hXY : X + 1 / 100 ≤ Y := by
        rw [← Rat.not_lt]
        intro hl
        have q := Rat.mul_le_mul_of_nonneg_right (Rat.le_of_lt hl) (c := A) (by grind)
        unfold Nr at f2 g2
        grind
      unfold Nr at x3 y3
      grind
  · rw [fgt_R y1 k_six.1]
    refine decide_eq_false ?_
    have k2 := k_six.2.1
    have hY : Y ≤ 55 / 100 := by
      rw [← Rat.not_lt]
      intro hl
      have q := Rat.mul_le_mul_of_nonneg_right (Rat.le_of_lt hl) (c := A) (by grind)
      unfold Nr at g2
      grind
    unfold Nr at y3
    grind

end Go.Proofs.Ytkhjcoekmamlaaa
