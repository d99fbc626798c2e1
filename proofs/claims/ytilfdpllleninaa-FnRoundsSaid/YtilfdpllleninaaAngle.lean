/- The angle of a point changes little where the point does: halves of angles, the arc (numbers alone). -/
import Derived.Test.YtilfdpllleninaaSine
namespace Go.Proofs.Ytilfdpllleninaa
set_option linter.unusedVariables false
set_option linter.unusedSimpArgs false

theorem half_val {t : Nat} (h : I .f64 t (some (-1 / 1000000, 101 / 100))) :
    isNum .f64 (halfAngle t) = true ∧ ∃ σ η : Rat, 99 / 100 ≤ σ ∧ σ ≤ 3 / 2 ∧ Nr (σ * σ) (1 + R .f64 t * R .f64 t) (2 / 10000000) ∧ η * (1 + σ) = R .f64 t ∧ Nr (R .f64 (halfAngle t)) η (1 / 10000000000000) := by
  have hT := T_le
  have hT0 := T_pos
  have hG := Gr_ge
  obtain ⟨t1, t2, t3⟩ := h
  have bt : Bd (R .f64 t) (101 / 100) := by unfold Bd; constructor <;> grind
  have b1 : Bd (R .f64 t * R .f64 t) (103 / 100) := (Bd.mul bt bt).mono (by grind)
  have q0 := sq_nonneg (R .f64 t)
  have f1 := fmul_fl t1 t1 (b1.mono (by grind))
  have e1 := f1.err64 b1
  have k1 : isNum .f64 4607182418800017408 = true ∧ R .f64 4607182418800017408 = 1 := by decide +kernel
  have b2 : Bd (R .f64 4607182418800017408 + R .f64 (fmul .f64 t t)) (21 / 10) := by rw [k1.2]; unfold Nr at e1; unfold Bd at *; constructor <;> grind
  have f2 := fadd_fl k1.1 f1.1 (b2.mono (by grind))
  have e2 := f2.err64 b2
  rw [k1.2] at e2
  obtain ⟨n3, ρ, p1, p2, p3⟩ := sqrt_fl f2.1 (by unfold Nr at e1 e2; grind) (by unfold Nr at e1 e2; unfold Bd at *; grind)
  have hρ2 : Nr (ρ * ρ) (1 + R .f64 t * R .f64 t) (15 / 100000000) := by
    unfold Nr at *
    unfold Bd at *
    constructor <;> grind
  have r1 : ρ ≤ 144 / 100 := le_of_sq (by decide +kernel) (by unfold Nr at hρ2; unfold Bd at *; grind)
  have r2 : 995 / 1000 ≤ ρ := le_of_sq p1 (by unfold Nr at hρ2; grind)
  have e3 : Nr (R .f64 (fsqrt (fadd .f64 4607182418800017408 (fmul .f64 t t)))) ρ (1 / 1000000000000000) := p3.mono (by grind)
  unfold halfAngle
  generalize fsqrt (fadd .f64 4607182418800017408 (fmul .f64 t t)) = s at *
  have b4 : Bd (R .f64 4607182418800017408 + R .f64 s) (25 / 10) := by rw [k1.2]; unfold Nr at e3; unfold Bd; constructor <;> grind
  have f4 := fadd_fl k1.1 n3 (b4.mono (by grind))
  have e4 := f4.err64 b4
  rw [k1.2] at e4
  have f41 := f4.1
  generalize fadd .f64 4607182418800017408 s = d at *
  have dn : Nr (R .f64 d) (1 + ρ) (2 / 1000000000000000) := by unfold Nr at *; constructor <;> grind
  have hd : R .f64 d ≠ 0 := by unfold Nr at dn; grind
  have hX : R .f64 t * (R .f64 d)⁻¹ * R .f64 d = R .f64 t := by rw [Rat.mul_assoc, Rat.inv_mul_cancel _ hd, Rat.mul_one]
  have hb : Bd (R .f64 t * (R .f64 d)⁻¹) 1 := by
    generalize R .f64 t * (R .f64 d)⁻¹ = X at *
    unfold Nr at dn
    constructor
    · rw [← Rat.not_lt]
      intro hl
      have q := Rat.mul_le_mul_of_nonneg_right (Rat.le_of_lt hl) (c := R .f64 d) (by grind)
      grind
    · rw [← Rat.not_lt]
      intro hl
      have q := Rat.mul_le_mul_of_nonneg_right (Rat.le_of_lt hl) (c := R .f64 d) (by grind)
      grind
  obtain ⟨g1, g2⟩ := quot_fl t1 f41 hd hX (hb.mono (by grind))
  have g3 := g2 1 hb
  refine ⟨g1, R .f64 d - 1, _, by unfold Nr at dn; grind, by unfold Nr at dn; grind, ?_, by rw [show 1 + (R .f64 d - 1) = R .f64 d by grind]; exact hX, g3.mono (by unfold U; grind)⟩
  have m : Nr (R .f64 d - 1) ρ (2 / 1000000000000000) := by unfold Nr at *; constructor <;> grind
  have bρ : Bd ρ (144 / 100) := by unfold Bd; constructor <;> grind
  have m2 := Nr.mul m m bρ (m.toBd bρ)
  exact (m2.trans hρ2).mono (by grind)

/-- Halving contracts. -/
theorem half_near {t t' : Nat} {e : Rat} (h : I .f64 t (some (-1 / 1000000, 101 / 100))) (h' : I .f64 t' (some (-1 / 1000000, 101 / 100))) (he0 : 0 ≤ e) (he : e ≤ 1 / 100) (hn : Nr (R .f64 t) (R .f64 t') e) :
    Nr (R .f64 (halfAngle t)) (R .f64 (halfAngle t')) (e + 1 / 1000000) := by
  obtain ⟨-, σ, η, a1, a2, a3, a4, a5⟩ := half_val h
  obtain ⟨-, σ', η', b1, b2, b3, b4, b5⟩ := half_val h'
  have c1 := h.2
  have c2 := h'.2
  generalize R .f64 t = x at *
  generalize R .f64 t' = x' at *
  -- the roots
  have d1 : Bd ((x - x') * (x + x')) (e * (202 / 100)) := Bd.mul hn (by unfold Bd; constructor <;> grind)
  have d2 : Bd ((σ - σ') * (σ + σ')) (e * (202 / 100) + 4 / 10000000) := by
    have i1 : (σ - σ') * (σ + σ') = σ * σ - σ' * σ' := by grind
    have i2 : (x - x') * (x + x') = x * x - x' * x' := by grind
    rw [i1]
    rw [i2] at d1
    unfold Nr Bd at *
    constructor <;> grind
  have d3 : Bd (σ - σ') (e * (103 / 100) + 3 / 10000000) := by
    unfold Bd at d2 ⊢
    constructor
    · rw [← Rat.not_lt]
      intro hl
      have q := Rat.mul_le_mul_of_nonneg_right (Rat.le_of_lt hl) (c := σ + σ') (by grind)
      have q2 := Rat.mul_le_mul_of_nonneg_left (show (198 : Rat) / 100 ≤ σ + σ' by grind) (c := e * (103 / 100) + 3 / 10000000) (by grind)
      grind
    · rw [← Rat.not_lt]
      intro hl
      have q := Rat.mul_le_mul_of_nonneg_right (Rat.le_of_lt hl) (c := σ + σ') (by grind)
      have q2 := Rat.mul_le_mul_of_nonneg_left (show (198 : Rat) / 100 ≤ σ + σ' by grind) (c := e * (103 / 100) + 3 / 10000000) (by grind)
      grind
  have d4 : Bd η' (6 / 10) := by
    constructor
    · rw [← Rat.not_lt]
      intro hl
      have q := Rat.mul_le_mul_of_nonneg_right (Rat.le_of_lt hl) (c := 1 + σ') (by grind)
      grind
    · rw [← Rat.not_lt]
      intro hl
      have q := Rat.mul_le_mul_of_nonneg_right (Rat.le_of_lt hl) (c := 1 + σ') (by grind)
      grind
  have d5 := Bd.mul d4 d3
  have i3 : (η - η') * (1 + σ) = (x - x') - η' * (σ - σ') := by grind
  have d6 : Bd (η - η') (e + 4 / 10000000) := by
    unfold Nr Bd at *
    constructor
    · rw [← Rat.not_lt]
      intro hl
      have q := Rat.mul_le_mul_of_nonneg_right (Rat.le_of_lt hl) (c := 1 + σ) (by grind)
      have q2 := Rat.mul_le_mul_of_nonneg_left (show (199 : Rat) / 100 ≤ 1 + σ by grind) (c := e + 4 / 10000000) (by grind)
      grind
    · rw [← Rat.not_lt]
      intro hl
      have q := Rat.mul_le_mul_of_nonneg_right (Rat.le_of_lt hl) (c := 1 + σ) (by grind)
      have q2 := Rat.mul_le_mul_of_nonneg_left (show (199 : Rat) / 100 ≤ 1 + σ by grind) (c := e + 4 / 10000000) (by grind)
      grind
  unfold Nr Bd at *
  constructor <;> grind

/-! ## The arc -/

theorem round15_near {u u' p p' c : Nat} {e : Rat} (hu : I .f64 u (some (-1 / 1000000, 1 / 20))) (hu' : I .f64 u' (some (-1 / 1000000, 1 / 20))) (hp : I .f64 p (some (-11 / 10, 11 / 10))) (hp' : I .f64 p' (some (-11 / 10, 11 / 10))) (hc : I .f64 (fdiv .f64 4607182418800017408 c) (some (0, 101 / 100)))
    (he0 : 0 ≤ e) (nu : Nr (R .f64 u) (R .f64 u') (e / 2)) (np : Nr (R .f64 p) (R .f64 p') (e + 1 / 1000000000000)) :
    I .f64 (round15 u p c) (some (-11 / 10, 11 / 10)) ∧ I .f64 (round15 u' p' c) (some (-11 / 10, 11 / 10)) ∧ Nr (R .f64 (round15 u p c)) (R .f64 (round15 u' p' c)) (e + 1 / 1000000000000) := by
  have hT := T_le
  have hG := Gr_ge
  refine ⟨(I.sub hc (I.mul hu hp)).to (by decide +kernel), (I.sub hc (I.mul hu' hp')).to (by decide +kernel), ?_⟩
  unfold round15
  have bu : Bd (R .f64 u) (1 / 20) := by have := hu.2; unfold Bd; constructor <;> grind
  have bu' : Bd (R .f64 u') (1 / 20) := by have := hu'.2; unfold Bd; constructor <;> grind
  have bp : Bd (R .f64 p) (11 / 10) := by have := hp.2; unfold Bd; constructor <;> grind
  have bp' : Bd (R .f64 p') (11 / 10) := by have := hp'.2; unfold Bd; constructor <;> grind
  have bc : Bd (R .f64 (fdiv .f64 4607182418800017408 c)) (101 / 100) := by have := hc.2; unfold Bd; constructor <;> grind
  have m := Nr.mul nu np bu' bp
  have k1 := (Bd.mul bu bp).mono (N := 6 / 100) (by grind)
  have k2 := (Bd.mul bu' bp').mono (N := 6 / 100) (by grind)
  have f1 := fmul_fl hu.1 hp.1 (k1.mono (by grind))
  have f2 := fmul_fl hu'.1 hp'.1 (k2.mono (by grind))
  have e1 := f1.err64 k1
  have e2 := f2.err64 k2
  have b1 : Bd (R .f64 (fdiv .f64 4607182418800017408 c) - R .f64 (fmul .f64 u p)) 2 := by unfold Nr at e1; unfold Bd at *; constructor <;> grind
  have b2 : Bd (R .f64 (fdiv .f64 4607182418800017408 c) - R .f64 (fmul .f64 u' p')) 2 := by unfold Nr at e2; unfold Bd at *; constructor <;> grind
  have g1 := (fsub_fl hc.1 f1.1 (b1.mono (by grind))).err64 b1
  have g2 := (fsub_fl hc.1 f2.1 (b2.mono (by grind))).err64 b2
  unfold Nr at *
  constructor <;> grind

theorem arc_near {t t' : Nat} {e : Rat} (h : I .f64 t (some (-1 / 1000000, 1 / 5))) (h' : I .f64 t' (some (-1 / 1000000, 1 / 5))) (he0 : 1 / 1000000000 ≤ e) (he : e ≤ 1 / 100) (hn : Nr (R .f64 t) (R .f64 t') e) :
    isNum .f64 (arc t) = true ∧ isNum .f64 (arc t') = true ∧ Nr (R .f64 (arc t)) (R .f64 (arc t')) (2 * e + 1 / 100000000000) := by
  have hT := T_le
  have hG := Gr_ge
  have hu := (I.sq h).to (lo := -1 / 1000000) (hi := 1 / 20) (by decide +kernel)
  have hu' := (I.sq h').to (lo := -1 / 1000000) (hi := 1 / 20) (by decide +kernel)
  have bt : Bd (R .f64 t) (1 / 5) := by have := h.2; unfold Bd; constructor <;> grind
  have bt' : Bd (R .f64 t') (1 / 5) := by have := h'.2; unfold Bd; constructor <;> grind
  have nu : Nr (R .f64 (fmul .f64 t t)) (R .f64 (fmul .f64 t' t')) (e / 2) := by
    have m := Nr.mul hn hn bt' bt
    have k1 := (Bd.mul bt bt).mono (N := 1 / 20) (by grind)
    have k2 := (Bd.mul bt' bt').mono (N := 1 / 20) (by grind)
    have e1 := (fmul_fl h.1 h.1 (k1.mono (by grind))).err64 k1
    have e2 := (fmul_fl h'.1 h'.1 (k2.mono (by grind))).err64 k2
    unfold Nr at *
    constructor <;> grind
  have z : I .f64 0 (some (-11 / 10, 11 / 10)) := I.at (by decide +kernel)
  have q0 := z
  have q0' := z
  have n0 : Nr (R .f64 0) (R .f64 0) (e + 1 / 1000000000000) := by unfold Nr; constructor <;> grind
  obtain ⟨q1, q1', n1⟩ := round15_near (c := fofInt .f64 15) hu hu' q0 q0' (I.at (by decide +kernel)) (by grind) nu n0
  obtain ⟨q2, q2', n2⟩ := round15_near (c := fofInt .f64 13) hu hu' q1 q1' (I.at (by decide +kernel)) (by grind) nu n1
  obtain ⟨q3, q3', n3⟩ := round15_near (c := fofInt .f64 11) hu hu' q2 q2' (I.at (by decide +kernel)) (by grind) nu n2
  obtain ⟨q4, q4', n4⟩ := round15_near (c := fofInt .f64 9) hu hu' q3 q3' (I.at (by decide +kernel)) (by grind) nu n3
  obtain ⟨q5, q5', n5⟩ := round15_near (c := fofInt .f64 7) hu hu' q4 q4' (I.at (by decide +kernel)) (by grind) nu n4
  obtain ⟨q6, q6', n6⟩ := round15_near (c := fofInt .f64 5) hu hu' q5 q5' (I.at (by decide +kernel)) (by grind) nu n5
  obtain ⟨q7, q7', n7⟩ := round15_near (c := fofInt .f64 3) hu hu' q6 q6' (I.at (by decide +kernel)) (by grind) nu n6
  obtain ⟨q8, q8', n8⟩ := round15_near (c := fofInt .f64 1) hu hu' q7 q7' (I.at (by decide +kernel)) (by grind) nu n7
  unfold arc
  simp only
  generalize round15 (fmul .f64 t t) _ _ = p at q8 n8 ⊢
  generalize round15 (fmul .f64 t' t') _ _ = p' at q8' n8 ⊢
  have bp : Bd (R .f64 p) (11 / 10) := by have := q8.2; unfold Bd; constructor <;> grind
  have bp' : Bd (R .f64 p') (11 / 10) := by have := q8'.2; unfold Bd; constructor <;> grind
  have k8 : I .f64 4620693217682128896 (some (8, 8)) := I.at (by decide +kernel)
  have w := (I.mul h q8).to (lo := -1) (hi := 1) (by decide +kernel)
  have w' := (I.mul h' q8').to (lo := -1) (hi := 1) (by decide +kernel)
  have m1 := Nr.mul hn n8 bt' bp
  have k1 := (Bd.mul bt bp).mono (N := 1 / 4) (by grind)
  have k2 := (Bd.mul bt' bp').mono (N := 1 / 4) (by grind)
  have e1 := (fmul_fl h.1 q8.1 (k1.mono (by grind))).err64 k1
  have e2 := (fmul_fl h'.1 q8'.1 (k2.mono (by grind))).err64 k2
  have c1 : Nr (R .f64 (fmul .f64 t p)) (R .f64 (fmul .f64 t' p')) (14 / 10 * e + 1 / 1000000000000) := by unfold Nr at *; constructor <;> grind
  have r8 : R .f64 4620693217682128896 = 8 := by have := k8.2; grind
  have b1 : Bd (R .f64 4620693217682128896 * R .f64 (fmul .f64 t p)) 8 := by have := w.2; rw [r8]; unfold Bd; constructor <;> grind
  have b2 : Bd (R .f64 4620693217682128896 * R .f64 (fmul .f64 t' p')) 8 := by have := w'.2; rw [r8]; unfold Bd; constructor <;> grind
  have f1 := fmul_fl k8.1 w.1 (b1.mono (by grind))
  have f2 := fmul_fl k8.1 w'.1 (b2.mono (by grind))
  have g1 := f1.err64 b1
  have g2 := f2.err64 b2
  rw [r8] at g1 g2
  obtain ⟨t1, t2, t3⟩ := k_turn
  have a1 := f1.1
  have a2 := f2.1
  have d1 := g1.toBd (by rw [r8] at b1; exact b1)
  have d2 := g2.toBd (by rw [r8] at b2; exact b2)
  generalize fmul .f64 4620693217682128896 (fmul .f64 t p) = x at *
  generalize fmul .f64 4620693217682128896 (fmul .f64 t' p') = x' at *
  generalize hτ : R .f64 4618760256179416344 = τ at *
  have h0 : τ ≠ 0 := by grind
  have X1 : R .f64 x * τ⁻¹ * τ = R .f64 x := by rw [Rat.mul_assoc, Rat.inv_mul_cancel _ h0, Rat.mul_one]
  have X2 : R .f64 x' * τ⁻¹ * τ = R .f64 x' := by rw [Rat.mul_assoc, Rat.inv_mul_cancel _ h0, Rat.mul_one]
  have i0 : 0 ≤ τ⁻¹ := Rat.le_of_lt (Rat.inv_pos.2 (by grind))
  have i1 : τ⁻¹ ≤ 16 / 100 := by
    rw [← Rat.not_lt]
    intro hl
    have q := Rat.mul_le_mul_of_nonneg_right (Rat.le_of_lt hl) (c := τ) (by grind)
    rw [Rat.inv_mul_cancel _ h0] at q
    grind
  have bi : Bd τ⁻¹ (16 / 100) := by unfold Bd; constructor <;> grind
  have B1 : Bd (R .f64 x * τ⁻¹) 2 := (Bd.mul d1 bi).mono (by grind)
  have B2 : Bd (R .f64 x' * τ⁻¹) 2 := (Bd.mul d2 bi).mono (by grind)
  obtain ⟨s1, s2⟩ := quot_fl a1 t1 (by rw [hτ]; exact h0) (by rw [hτ]; exact X1) (B1.mono (by grind))
  obtain ⟨s3, s4⟩ := quot_fl a2 t1 (by rw [hτ]; exact h0) (by rw [hτ]; exact X2) (B2.mono (by grind))
  have s5 := s2 2 B1
  have s6 := s4 2 B2
  have nx : Nr (R .f64 x) (R .f64 x') (8 * (14 / 10 * e) + 1 / 10000000000) := by unfold Nr at *; constructor <;> grind
  have nq := Bd.mul (Nr.bd.1 nx) bi
  have hU : U .f64 = 1 / 9007199254740992 := rfl
  rw [hU] at s5 s6
  refine ⟨s1, s3, ?_⟩
  have i3 : (R .f64 x - R .f64 x') * τ⁻¹ = R .f64 x * τ⁻¹ - R .f64 x' * τ⁻¹ := by grind
  rw [i3] at nq
  unfold Nr Bd at *
  constructor <;> grind

end Go.Proofs.Ytilfdpllleninaa
