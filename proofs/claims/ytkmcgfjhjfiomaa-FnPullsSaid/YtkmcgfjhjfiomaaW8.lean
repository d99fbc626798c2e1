/- The plain law of FnPulls, part 8: how far vectors and numbers are apart; masses times pulls. -/
import Derived.Test.YtkmcgfjhjfiomaaW7
namespace Go.Proofs.Ytkmcgfjhjfiomaa
set_option linter.unusedVariables false
set_option linter.unusedSimpArgs false

/-! ## How far -/

theorem num_not {k : FloatKind} {x : Nat} (h : isNum k x = true) : isNaN k x = false := by
  obtain ⟨s, m, p, hd⟩ := isNum_iff.1 h
  unfold isNaN; rw [hd]; rfl

theorem fmax_le {k : FloatKind} {x y : Nat} {M : Rat} (hx : isNum k x = true) (hy : isNum k y = true) (h1 : R k x ≤ M) (h2 : R k y ≤ M) : ordOk k x y = true ∧ isNum k (fmax k x y) = true ∧ R k (fmax k x y) ≤ M := by
  have ho := order_num hx hy
  refine ⟨?_, ?_, ?_⟩
  · unfold ordOk
    rw [ho, num_not hx, num_not hy]
    rfl
  · unfold fmax
    rw [ho]
    split
    · exact hy
    · exact hx
    · cases (k.decode x).neg <;> assumption
  · unfold fmax
    rw [ho]
    split
    · exact h2
    · exact h1
    · cases (k.decode x).neg <;> assumption

theorem gap_fl {a b : Nat} {M : Rat} (ha : isNum .f64 a = true) (hb : isNum .f64 b = true) (h : Bd (R .f64 a - R .f64 b) M) (hM : M ≤ 1000000000) :
    laws_r8Gap_need a b = true ∧ isNum .f64 (laws_r8Gap a b) = true ∧ R .f64 (laws_r8Gap a b) ≤ M * (1 + 1 / 1000000000) + T := by
  have hT := T_pos
  have hT1 := T_le
  have hG := Gr_ge
  have h' : Bd (R .f64 b - R .f64 a) M := by unfold Bd at *; constructor <;> grind
  have f1 := fsub_fl ha hb (h.mono (by grind))
  have f2 := fsub_fl hb ha (h'.mono (by grind))
  have e1 := f1.err64 h
  have e2 := f2.err64 h'
  have h0 := h.nonneg
  obtain ⟨c1, c2, c3⟩ := fmax_le (M := M * (1 + 1 / 1000000000) + T) f1.1 f2.1 (by unfold Nr at e1; unfold Bd at h; grind) (by unfold Nr at e2; unfold Bd at h'; grind)
  unfold laws_r8Gap_need laws_r8Gap laws_r8Gap_tree
  simp only [DT.ok, DT.val, c1]
  exact ⟨trivial, c2, c3⟩

theorem size_ok {P : Vec} {B : Rat} (h : finV P = true) (hB : R .f32 P.X * R .f32 P.X + R .f32 P.Y * R .f32 P.Y + R .f32 P.Z * R .f32 P.Z ≤ B) (hB2 : B ≤ 1000000) :
    impl_SizeOfVector_need P = true ∧ isNum .f32 (impl_SizeOfVector P) = true ∧ ∃ ρ, 0 ≤ ρ ∧ ρ ≤ 2000 ∧ Nr (ρ * ρ) (R .f32 P.X * R .f32 P.X + R .f32 P.Y * R .f32 P.Y + R .f32 P.Z * R .f32 P.Z) ((R .f32 P.X * R .f32 P.X + R .f32 P.Y * R .f32 P.Y + R .f32 P.Z * R .f32 P.Z) / 2000000 + 11 * T) ∧ Nr (R .f32 (impl_SizeOfVector P)) ρ (ρ / 16000000 + 3 * T) := by
  have hT1 := T_le
  unfold finV at h
  simp only [Bool.and_eq_true] at h
  obtain ⟨⟨hx, hy⟩, hz⟩ := h
  obtain ⟨d1, d2, d3, ρ, p1, p2, p3⟩ := size_fl hx hy hz hB (by grind)
  obtain ⟨r1, r2⟩ := RootN_eq d1 d2
  have e : impl_InnerOf (⟨P.X, P.Y, P.Z⟩ : Vec) (⟨P.X, P.Y, P.Z⟩ : Vec) = innerN P.X P.Y P.Z := rfl
  have k : impl_SizeOfVector_need P = true ∧ impl_SizeOfVector P = rootN (innerN P.X P.Y P.Z) := by
    unfold impl_SizeOfVector_need impl_SizeOfVector impl_SizeOfVector_tree
    simp only [DT.ok, DT.val, e, r1, r2]
    exact ⟨trivial, trivial⟩
  rw [k.2]
  have sx := sq_nonneg (R .f32 P.X)
  have sy := sq_nonneg (R .f32 P.Y)
  have sz := sq_nonneg (R .f32 P.Z)
  refine ⟨k.1, d3, ρ, p1, le_of_sq (by grind) (by unfold Nr at p2; grind), p2, p3⟩

theorem far_fl {P Q : Vec} {e E : Rat} (hP : finV P = true) (hQ : finV Q = true) (h1 : Nr (R .f32 P.X) (R .f32 Q.X) e) (h2 : Nr (R .f32 P.Y) (R .f32 Q.Y) e) (h3 : Nr (R .f32 P.Z) (R .f32 Q.Z) e) (he : e ≤ 1) (hE0 : 1 / 100000 ≤ E) (hE : 3 * (e * e) ≤ E * E) :
    laws_r8Far_need P Q = true ∧ isNum .f64 (laws_r8Far P Q) = true ∧ R .f64 (laws_r8Far P Q) ≤ E * (1 + 1 / 100000) := by
  have hT := T_pos
  have hT1 := T_le
  have hG := Gr_ge
  unfold finV at hP hQ
  simp only [Bool.and_eq_true] at hP hQ
  obtain ⟨⟨px, py⟩, pz⟩ := hP
  obtain ⟨⟨qx, qy⟩, qz⟩ := hQ
  have f1 := fsub_fl px qx (Bd.mono h1 (by grind))
  have f2 := fsub_fl py qy (Bd.mono h2 (by grind))
  have f3 := fsub_fl pz qz (Bd.mono h3 (by grind))
  have he0 : 0 ≤ e := by unfold Nr at h1; grind
  have b1 := (f1.err h1).toBd h1
  have b2 := (f2.err h2).toBd h2
  have b3 := (f3.err h3).toBd h3
  have s1 := sq_bd b1
  have s2 := sq_bd b2
  have s3 := sq_bd b3
  have hed : impl_LessVectors (⟨P.X, P.Y, P.Z⟩ : Vec) (⟨Q.X, Q.Y, Q.Z⟩ : Vec) = ⟨fsub .f32 P.X Q.X, fsub .f32 P.Y Q.Y, fsub .f32 P.Z Q.Z⟩ := rfl
  obtain ⟨D, hD⟩ : ∃ D : Vec, D = ⟨fsub .f32 P.X Q.X, fsub .f32 P.Y Q.Y, fsub .f32 P.Z Q.Z⟩ := ⟨_, rfl⟩
  rw [← hD] at hed
  have sq : (e + (e / 16777216 + T)) * (e + (e / 16777216 + T)) ≤ e * e * (1 + 1 / 8000000) + 3 * T := by
    have hee := Rat.mul_nonneg he0 he0
    have hTe := Rat.mul_le_mul_of_nonneg_left he (Rat.le_of_lt hT)
    have hTT := Rat.mul_le_mul_of_nonneg_left hT1 (Rat.le_of_lt hT)
    grind
  have hin : R .f32 D.X * R .f32 D.X + R .f32 D.Y * R .f32 D.Y + R .f32 D.Z * R .f32 D.Z ≤ E * E * (1 + 1 / 8000000) + 9 * T := by
    rw [hD]
    grind
  have hE2 : 1 / 10000000000 ≤ E * E := by
    have := sq_le (show (0 : Rat) ≤ 1 / 100000 by decide +kernel) hE0
    grind
  have hfin : finV D = true := by
    rw [hD]
    unfold finV
    simp only [f1.1, f2.1, f3.1, Bool.and_true]
  have hin2 : R .f32 D.X * R .f32 D.X + R .f32 D.Y * R .f32 D.Y + R .f32 D.Z * R .f32 D.Z ≤ 12 := by
    rw [hD]
    have := sq_le he0 he
    grind
  obtain ⟨k1, k2, ρ, p1, p2, p3, p4⟩ := size_ok hfin hin2 (by grind)
  have hρ : ρ ≤ E * (1 + 1 / 1000000) := le_of_sq (by grind) (by
    have n1 := sq_nonneg (R .f32 D.X)
    have n2 := sq_nonneg (R .f32 D.Y)
    have n3 := sq_nonneg (R .f32 D.Z)
    unfold Nr at p3
    grind)
  obtain ⟨u1, u2⟩ := up_R k2
  have kk : laws_r8Far_need P Q = true ∧ laws_r8Far P Q = fconv .f32 (impl_SizeOfVector D) .f64 := by
    have hv : (⟨D.X, D.Y, D.Z⟩ : Vec) = D := rfl
    unfold laws_r8Far_need laws_r8Far laws_r8Far_tree
    simp only [DT.ok, DT.val, hed, hv, k1, fconvOk_up]
    exact ⟨trivial, trivial⟩
  rw [kk.2]
  refine ⟨kk.1, u1, ?_⟩
  rw [u2]
  unfold Nr at p4
  grind

/-! ## Masses times pulls -/

theorem PairF.scale {Q r s m μ : Rat} (h : PairF Q r s m) (hμ : 0 ≤ μ) : PairF Q r (μ * s) (μ * m) := by
  obtain ⟨a, b, c, d, e⟩ := h
  refine ⟨a, Rat.mul_nonneg hμ b, c, d, ?_⟩
  have e1 := Rat.mul_le_mul_of_nonneg_left e.1 hμ
  have e2 := Rat.mul_le_mul_of_nonneg_left e.2 hμ
  unfold Nr
  constructor <;> grind

/-- Two bodies pull one another alike. -/
theorem pair_anti {Q r s r' s' m m' a : Rat} (h : PairF Q r s m') (h' : PairF Q r' s' m) (hQ : 1 ≤ Q) (ha : a * a ≤ Q) (m0 : 0 ≤ m) (m2 : m ≤ 2) (m0' : 0 ≤ m') (m2' : m' ≤ 2) :
    Bd (m * (a * s) + m' * (-a * s')) (17 / 100000) := by
  have p1 := h.scale m0
  have p2 := h'.scale m0'
  rw [Rat.mul_comm m' m] at p2
  have hnr : Nr Q Q (Q / 80000) := (Nr.refl Q).mono (by grind)
  have n1 := pair_near p1 p2 hnr
  have n2 := pair_near p2 p1 hnr
  have hr := pair_r p2 (X := a) ha
  have hd : Bd (m * s - m' * s') (m' * s' * (4 / 100000)) := by
    have := p2.s0
    unfold Bd
    constructor <;> grind
  have hp := hr.mul hd
  have hrs : r' * (m' * s') ≤ 400001 / 100000 := by
    have h1 := p2.ss
    unfold Nr at h1
    have h0 : 0 ≤ r' * (m' * s') := Rat.mul_nonneg (by have := p2.r0; grind) p2.s0
    have h2 := Rat.mul_le_mul_of_nonneg_right hQ h0
    have h3 := Rat.mul_le_mul_of_nonneg_left m2' m0
    have h4 : m * m' ≤ 4 := by grind
    grind
  unfold Bd at hp ⊢
  constructor <;> grind

theorem anti_sum {m : Nat → Rat} {t : Nat → Nat → Rat} {e : Rat} (he : 0 ≤ e) : ∀ n : Nat, n ≤ 4 → (∀ i, i < n → t i i = 0) → (∀ i j, i < n → j < n → i ≠ j → Bd (m i * t i j + m j * t j i) e) → Bd (tsum (fun i => m i * tsum (t i) n) n) (6 * e)
  | 0, _, _, _ => by unfold Bd; simp [tsum]; constructor <;> grind
  | 1, _, hd, _ => by
    have h0 := hd 0 (by omega)
    unfold Bd; simp only [tsum, h0]; constructor <;> grind
  | 2, _, hd, h => by
    have h0 := hd 0 (by omega)
    have h1 := hd 1 (by omega)
    have a := h 0 1 (by omega) (by omega) (by omega)
    unfold Bd at *; simp only [tsum, h0, h1]; constructor <;> grind
  | 3, _, hd, h => by
    have h0 := hd 0 (by omega)
    have h1 := hd 1 (by omega)
    have h2 := hd 2 (by omega)
    have a := h 0 1 (by omega) (by omega) (by omega)
    have b := h 0 2 (by omega) (by omega) (by omega)
    have c := h 1 2 (by omega) (by omega) (by omega)
    unfold Bd at *; simp only [tsum, h0, h1, h2]; constructor <;> grind
  | 4, _, hd, h => by
    have h0 := hd 0 (by omega)
    have h1 := hd 1 (by omega)
    have h2 := hd 2 (by omega)
    have h3 := hd 3 (by omega)
    have a := h 0 1 (by omega) (by omega) (by omega)
    have b := h 0 2 (by omega) (by omega) (by omega)
    have c := h 0 3 (by omega) (by omega) (by omega)
    have d := h 1 2 (by omega) (by omega) (by omega)
    have f := h 1 3 (by omega) (by omega) (by omega)
    have g := h 2 3 (by omega) (by omega) (by omega)
    unfold Bd at *; simp only [tsum, h0, h1, h2, h3]; constructor <;> grind
  | n + 5, hn, _, _ => by omega

theorem Base.anti {l : List Body} {f : Nat → Int × Int × Int × Int} (h : Base l f) {i j : Nat} (hi : i < l.length) (hj : j < l.length) (hij : i ≠ j) (c : Vec → Nat) (hc : c = Vec.X ∨ c = Vec.Y ∨ c = Vec.Z) :
    Bd (R .f32 (l.getD i default).Mass * termV l (l.getD i default).At i c j + R .f32 (l.getD j default).Mass * termV l (l.getD j default).At j c i) (17 / 100000) := by
  have h1 : ¬ (j : Int) = (i : Int) := by omega
  have h2 : ¬ (i : Int) = (j : Int) := by omega
  obtain ⟨q1, q2, q3⟩ := h.way hi hj
  obtain ⟨p1, p2, p3⟩ := h.way hj hi
  obtain ⟨b1, b2, b3, b4⟩ := h.nums hi hj h1
  obtain ⟨mi1, mi2, mi3⟩ := h.mass hi
  obtain ⟨mj1, mj2, mj3⟩ := h.mass hj
  obtain ⟨_, _, _, _, _, pf⟩ := (h.pull i hi j hj h1).pair
  obtain ⟨_, _, _, _, _, pf'⟩ := (h.pull j hj i hi h2).pair
  have ex : R .f32 (wayV l (l.getD j default).At i).X = -R .f32 (wayV l (l.getD i default).At j).X := by rw [q1.R, p1.R]; push_cast; grind
  have ey : R .f32 (wayV l (l.getD j default).At i).Y = -R .f32 (wayV l (l.getD i default).At j).Y := by rw [q2.R, p2.R]; push_cast; grind
  have ez : R .f32 (wayV l (l.getD j default).At i).Z = -R .f32 (wayV l (l.getD i default).At j).Z := by rw [q3.R, p3.R]; push_cast; grind
  have hQ : sqV (wayV l (l.getD j default).At i) = sqV (wayV l (l.getD i default).At j) := by
    unfold sqV
    rw [ex, ey, ez]
    grind
  rw [hQ] at pf'
  have sx := sq_nonneg (R .f32 (wayV l (l.getD i default).At j).X)
  have sy := sq_nonneg (R .f32 (wayV l (l.getD i default).At j).Y)
  have sz := sq_nonneg (R .f32 (wayV l (l.getD i default).At j).Z)
  have hQ1 : 1 ≤ sqV (wayV l (l.getD i default).At j) := by unfold sqV; grind
  have ec : R .f32 (c (wayV l (l.getD j default).At i)) = -R .f32 (c (wayV l (l.getD i default).At j)) := by rcases hc with rfl | rfl | rfl <;> assumption
  have sc : R .f32 (c (wayV l (l.getD i default).At j)) * R .f32 (c (wayV l (l.getD i default).At j)) ≤ sqV (wayV l (l.getD i default).At j) := by
    unfold sqV
    rcases hc with rfl | rfl | rfl <;> grind
  unfold termV
  simp only [if_neg h1, if_neg h2]
  rw [ec]
  exact pair_anti pf pf' hQ1 sc (by grind) mi3 (by grind) mj3

end Go.Proofs.Ytkmcgfjhjfiomaa
