/- The plain law of FnLater, part 4: tilts between orbits, true turns. -/
import Derived.Test.YtomdjbkididieaaL3
namespace Go.Proofs.Ytomdjbkididieaa
set_option linter.unusedVariables false
set_option linter.unusedSimpArgs false

/-! ## Angles of 64 bits -/

theorem angle_core {Y X : Nat} (ny : isNum .f64 Y = true) (nx : isNum .f64 X = true) (h : (feq .f64 X 0 && feq .f64 Y 0) = false) :
    ∃ o2, impl_angle Y X = negIf (flt .f64 Y 0) o2 ∧ isNum .f64 o2 = true ∧ 0 ≤ R .f64 o2 ∧ R .f64 o2 ≤ 1 / 2 := by
  have hT := T_le
  have hG := Gr_ge
  have z64 : isNum .f64 0 = true ∧ R .f64 0 = 0 := by decide +kernel
  have hr := ratio_sm ny nx h
  rw [feq_R nx z64.1, feq_R ny z64.1, z64.2] at h
  have hne : ¬ (R .f64 X = 0 ∧ R .f64 Y = 0) := fun ⟨a, b⟩ => by rw [decide_eq_true a, decide_eq_true b] at h; cases h
  rw [impl_angle_eq]
  rw [math_Abs_eq (num_nan ny), math_Abs_eq (num_nan nx)] at hr ⊢
  have ab : ∀ {w : Nat}, isNum .f64 w = true → isNum .f64 (fabs w) = true ∧ 0 ≤ R .f64 (fabs w) ∧ (R .f64 (fabs w) = 0 → R .f64 w = 0) := fun {w} hw => by
    obtain ⟨b1, b2, b3⟩ := fabs_R hw
    refine ⟨b1, ?_⟩
    rcases (Rat.le_total : (0 : Rat) ≤ R .f64 w ∨ R .f64 w ≤ 0) with g | g
    · rw [b2 g]; exact ⟨g, fun h => h⟩
    · rw [b3 g]; exact ⟨by grind, fun h => by grind⟩
  obtain ⟨a1, pa, a0⟩ := ab ny
  obtain ⟨b1, pb, b0⟩ := ab nx
  have tI : I .f64 (ratio (fabs Y) (fabs X)) (some (0, 1)) := by
    obtain ⟨s1, s2⟩ := sm_I (by decide) hr
    refine ⟨s1, ?_, s2.2⟩
    unfold ratio
    cases hg : fgt .f64 (fabs Y) (fabs X) with
    | true =>
      rw [fgt_R a1 b1, decide_eq_true_eq] at hg
      exact fdiv_nn b1 a1 pb (by grind)
    | false =>
      rw [fgt_R a1 b1] at hg
      have hg := of_decide_eq_false hg
      refine fdiv_nn a1 b1 pa ?_
      have hne2 : R .f64 (fabs X) ≠ 0 := fun e => hne ⟨b0 e, a0 (by grind)⟩
      grind
  generalize ratio (fabs Y) (fabs X) = t at *
  have i0 : I .f64 t (some (-1 / 1000000, 101 / 100)) := tI.mono (by decide +kernel) (by decide +kernel)
  have i1 := half_I1 i0
  have n1 := half_nn tI (by decide +kernel)
  have i2 := half_I2 i1
  have n2 := half_nn (t := halfAngle t) (b := 52 / 100) ⟨i1.1, n1, i1.2.2⟩ (by decide +kernel)
  have i3 := half_I3 i2
  have n3 := half_nn (t := halfAngle (halfAngle t)) (b := 27 / 100) ⟨i2.1, n2, i2.2.2⟩ (by decide +kernel)
  have ar := arc_nn (t := halfAngle (halfAngle (halfAngle t))) ⟨i3.1, n3, i3.2.2⟩
  unfold angleC
  generalize arc (halfAngle (halfAngle (halfAngle t))) = w at *
  have o1 : I .f64 (lessIf (fgt .f64 (fabs Y) (fabs X)) 4598175219545276416 w) (some (0, 2501 / 10000)) := by
    unfold lessIf
    cases fgt .f64 (fabs Y) (fabs X)
    · exact ar.mono (by decide +kernel) (by decide +kernel)
    · have q := (I.sub k_quarter ar).to (lo := -1) (hi := 2501 / 10000) (by decide +kernel)
      exact ⟨q.1, fsub_nn k_quarter.1 ar.1 (by have := k_quarter.2.1; have := ar.2.2; grind), q.2.2⟩
  generalize lessIf (fgt .f64 (fabs Y) (fabs X)) 4598175219545276416 w = o at *
  refine ⟨lessIf (flt .f64 X 0) 4602678819172646912 o, rfl, ?_⟩
  unfold lessIf
  have ho := o1.2
  cases flt .f64 X 0
  · exact ⟨o1.1, ho.1, by show R .f64 o ≤ 1 / 2; grind⟩
  · have kh := k_half.2
    have bh : Bd (R .f64 4602678819172646912 - R .f64 o) (1 / 2) := by unfold Bd; constructor <;> grind
    have f := fsub_fl k_half.1 o1.1 (bh.mono (by grind))
    exact ⟨f.1, fsub_nn k_half.1 o1.1 (by grind), le_half f bh⟩

theorem impl_angleOf_eq {Y X : Nat} (ny : isNum .f64 Y = true) (nx : isNum .f64 X = true) : impl_angleOf Y X = match feq .f64 X 0 && feq .f64 Y 0 with | true => 0 | false => impl_angle Y X := by
  unfold impl_angleOf impl_angleOf_tree
  cases h1 : feq .f64 Y 0 <;> cases h2 : feq .f64 X 0 <;> simp only [DT.val, impl_finite_eq, ny, nx, h1, h2, Bool.not_true, Bool.and_true, Bool.and_false, Bool.and_self]

theorem angleOf_pos {Y X : Nat} (ny : isNum .f64 Y = true) (nx : isNum .f64 X = true) (h0 : 0 ≤ R .f64 Y) : isNum .f64 (impl_angleOf Y X) = true ∧ 0 ≤ R .f64 (impl_angleOf Y X) ∧ R .f64 (impl_angleOf Y X) ≤ 1 / 2 := by
  rw [impl_angleOf_eq ny nx]
  have z64 : isNum .f64 0 = true ∧ R .f64 0 = 0 := by decide +kernel
  cases h : feq .f64 X 0 && feq .f64 Y 0 with
  | true => exact ⟨z64.1, by show 0 ≤ R .f64 0; rw [z64.2]; exact Rat.le_refl, by show R .f64 0 ≤ 1 / 2; rw [z64.2]; decide +kernel⟩
  | false =>
    obtain ⟨o2, e, a1, a2, a3⟩ := angle_core ny nx h
    have m0 : flt .f64 Y 0 = false := by
      rw [flt_R ny z64.1, z64.2]
      exact decide_eq_false (by grind)
    rw [m0] at e
    show isNum .f64 (impl_angle Y X) = true ∧ 0 ≤ R .f64 (impl_angle Y X) ∧ R .f64 (impl_angle Y X) ≤ 1 / 2
    rw [e]
    exact ⟨a1, a2, a3⟩

theorem angleOf_bd {Y X : Nat} (ny : isNum .f64 Y = true) (nx : isNum .f64 X = true) : isNum .f64 (impl_angleOf Y X) = true ∧ Bd (R .f64 (impl_angleOf Y X)) (1 / 2) := by
  rw [impl_angleOf_eq ny nx]
  have z64 : isNum .f64 0 = true ∧ R .f64 0 = 0 := by decide +kernel
  cases h : feq .f64 X 0 && feq .f64 Y 0 with
  | true => exact ⟨z64.1, by show Bd (R .f64 0) (1 / 2); rw [z64.2]; unfold Bd; constructor <;> decide +kernel⟩
  | false =>
    obtain ⟨o2, e, a1, a2, a3⟩ := angle_core ny nx h
    show isNum .f64 (impl_angle Y X) = true ∧ Bd (R .f64 (impl_angle Y X)) (1 / 2)
    rw [e]
    unfold negIf
    cases flt .f64 Y 0
    · exact ⟨a1, by unfold Bd; constructor <;> grind⟩
    · obtain ⟨n1, n2⟩ := R_neg a1
      exact ⟨n1, by show Bd (R .f64 (fneg .f64 o2)) (1 / 2); rw [n2]; unfold Bd; constructor <;> grind⟩

theorem narrowed_eq {x : Nat} (hx : isNum .f64 x = true) (hb : Bd (R .f64 x) 1000) : impl_narrowed_need x = true ∧ impl_narrowed x = (fconv .f64 x .f32, true) ∧ Fl .f32 (fconv .f64 x .f32) (R .f64 x) := by
  have hG := Gr_ge
  obtain ⟨d1, d2⟩ := down_fl hx (hb.mono (by grind))
  unfold impl_narrowed_need impl_narrowed impl_narrowed_tree
  simp only [DT.ok, DT.val, d1, told_need, told_num d2.1]
  exact ⟨trivial, trivial, d2⟩

theorem true_eq {o : Orbit} (h : OrbE o) : impl_TrueTurn_need o = true ∧ ∃ t, impl_TrueTurn o = (t, true) ∧ I .f32 t (some (-5005 / 10000, 5005 / 10000)) := by
  obtain ⟨v1, v2⟩ := ValidOrbit_eq o
  rw [h.ok] at v2
  obtain ⟨p1, a, b, c, d, p2, ha, hb, -⟩ := plane_E h (m := 4607182418800017408) (I.at (by decide +kernel))
  obtain ⟨g1, g2⟩ := angleOf_bd hb ha
  obtain ⟨n1, n2, n3⟩ := narrowed_eq g1 (g2.mono (by decide +kernel))
  have hT := T_le
  have e := n3.err g2
  have eo : (⟨o.Long, o.Round, o.Tilt, o.Node, o.Peri, o.Phase⟩ : Orbit) = o := rfl
  refine ⟨?_, _, ?_, n3.1, by unfold Nr Bd at *; grind, by unfold Nr Bd at *; grind⟩
  · unfold impl_TrueTurn_need impl_TrueTurn_tree
    simp only [DT.ok, eo, v1, v2, p1, p2, n1, Bool.not_true]
  · unfold impl_TrueTurn impl_TrueTurn_tree
    simp only [DT.val, eo, v2, p2, n2, Bool.not_true]

/-! ## Normals -/

theorem wcross_eq (a b c x y z : Nat) : impl_wide_cross a b c x y z = (fsub .f64 (fmul .f64 b z) (fmul .f64 c y), fsub .f64 (fmul .f64 c x) (fmul .f64 a z), fsub .f64 (fmul .f64 a y) (fmul .f64 b x)) := by
  unfold impl_wide_cross impl_wide_cross_tree
  simp only [DT.val]
theorem winner_eq (a b c x y z : Nat) : impl_wide_inner a b c x y z = fadd .f64 (fadd .f64 (fmul .f64 a x) (fmul .f64 b y)) (fmul .f64 c z) := by
  unfold impl_wide_inner impl_wide_inner_tree
  simp only [DT.val]
theorem wlength_eq (a b c : Nat) : impl_wide_length a b c = fsqrt (fadd .f64 (fadd .f64 (fmul .f64 a a) (fmul .f64 b b)) (fmul .f64 c c)) := by
  unfold impl_wide_length impl_wide_length_tree
  simp only [DT.val, winner_eq]
  rfl

structure Wide3 (a b c : Nat) : Prop where
  x : I .f64 a (some (-11 / 10, 11 / 10))
  y : I .f64 b (some (-11 / 10, 11 / 10))
  z : I .f64 c (some (-11 / 10, 11 / 10))

noncomputable def lenN (a b c x y z : Nat) : Nat := impl_wide_length (fsub .f64 (fmul .f64 b z) (fmul .f64 c y)) (fsub .f64 (fmul .f64 c x) (fmul .f64 a z)) (fsub .f64 (fmul .f64 a y) (fmul .f64 b x))
noncomputable def innN (a b c x y z : Nat) : Nat := impl_wide_inner a b c x y z

theorem m2_I {u v : Nat} (hu : I .f64 u (some (-11 / 10, 11 / 10))) (hv : I .f64 v (some (-11 / 10, 11 / 10))) : I .f64 (fmul .f64 u v) (some (-2, 2)) := (I.mul hu hv).to (by decide +kernel)
theorem s2_I {u v : Nat} (hu : I .f64 u (some (-2, 2))) (hv : I .f64 v (some (-2, 2))) : I .f64 (fsub .f64 u v) (some (-5, 5)) := (I.sub hu hv).to (by decide +kernel)

theorem len_num {a b c : Nat} (ha : I .f64 a (some (-5, 5))) (hb : I .f64 b (some (-5, 5))) (hc : I .f64 c (some (-5, 5))) : isNum .f64 (impl_wide_length a b c) = true ∧ 0 ≤ R .f64 (impl_wide_length a b c) := by
  rw [wlength_eq]
  have sa := (I.sq ha).to (lo := -1) (hi := 26) (by decide +kernel)
  have sb := (I.sq hb).to (lo := -1) (hi := 26) (by decide +kernel)
  have sc := (I.sq hc).to (lo := -1) (hi := 26) (by decide +kernel)
  have n1 := fmul_nn ha.1 ha.1 (sq_nonneg _)
  have n2 := fmul_nn hb.1 hb.1 (sq_nonneg _)
  have n3 := fmul_nn hc.1 hc.1 (sq_nonneg _)
  have t1 := (I.add sa sb).to (lo := -3) (hi := 53) (by decide +kernel)
  have n4 := fadd_nn sa.1 sb.1 (by grind)
  have t2 := (I.add t1 sc).to (lo := -5) (hi := 80) (by decide +kernel)
  have n5 := fadd_nn t1.1 sc.1 (by grind)
  exact ⟨(sqrt_fl t2.1 n5 (by have := t2.2.2; have := Gr_ge; grind)).1, fsqrt_nn t2.1 n5⟩

theorem inn_num {a b c x y z : Nat} (h : Wide3 a b c) (g : Wide3 x y z) : isNum .f64 (innN a b c x y z) = true := by
  unfold innN
  rw [winner_eq]
  exact ((I.add (I.add (m2_I h.x g.x) (m2_I h.y g.y)) (m2_I h.z g.z)).to (lo := -7) (hi := 7) (by decide +kernel)).1

theorem len_ok {a b c x y z : Nat} (h : Wide3 a b c) (g : Wide3 x y z) : isNum .f64 (lenN a b c x y z) = true ∧ 0 ≤ R .f64 (lenN a b c x y z) :=
  len_num (s2_I (m2_I h.y g.z) (m2_I h.z g.y)) (s2_I (m2_I h.z g.x) (m2_I h.x g.z)) (s2_I (m2_I h.x g.y) (m2_I h.y g.x))

theorem len_comm {a b c x y z : Nat} (h : Wide3 a b c) (g : Wide3 x y z) : lenN x y z a b c = lenN a b c x y z ∧ innN x y z a b c = innN a b c x y z := by
  have hG := Gr_ge
  have op : ∀ {u v : Nat}, I .f64 u (some (-2, 2)) → I .f64 v (some (-2, 2)) → fmul .f64 (fsub .f64 v u) (fsub .f64 v u) = fmul .f64 (fsub .f64 u v) (fsub .f64 u v) := fun {u v} hu hv =>
    sq_opp (s2_I hu hv).1 (s2_I hv hu).1 (fsub_opp hu.1 hv.1 (by have := hu.2; have := hv.2; unfold Bd; constructor <;> grind))
  refine ⟨?_, ?_⟩
  · unfold lenN
    rw [wlength_eq, wlength_eq]
    rw [fmul_comm g.y.1 h.z.1, fmul_comm g.z.1 h.y.1, fmul_comm g.z.1 h.x.1, fmul_comm g.x.1 h.z.1, fmul_comm g.x.1 h.y.1, fmul_comm g.y.1 h.x.1]
    rw [op (m2_I h.y g.z) (m2_I h.z g.y), op (m2_I h.z g.x) (m2_I h.x g.z), op (m2_I h.x g.y) (m2_I h.y g.x)]
  · unfold innN
    rw [winner_eq, winner_eq, fmul_comm g.x.1 h.x.1, fmul_comm g.y.1 h.y.1, fmul_comm g.z.1 h.z.1]

theorem ref_one : Ref 0 4607182418800017408 0 := by
  refine ⟨by decide +kernel, by decide +kernel, by decide +kernel, by decide +kernel, by decide +kernel, by decide +kernel, by decide +kernel, by decide +kernel, .inr rfl, .inl (by decide +kernel), .inl ⟨by decide +kernel, by decide +kernel, ?_⟩⟩
  unfold Nr
  constructor <;> decide +kernel

/-- What has no angle with itself. -/
theorem self_angle {a b c : Nat} (h : Wide3 a b c) (h1 : Nr (R .f64 a * R .f64 a + R .f64 b * R .f64 b + R .f64 c * R .f64 c) 1 (1 / 100000)) : R .f64 (impl_angleOf (lenN a b c a b c) (innN a b c a b c)) ≤ 4 / 10000 := by
  have hT := T_le
  have hT0 := T_pos
  have hG := Gr_ge
  obtain ⟨l1, l2⟩ := len_ok h h
  have i1 := inn_num h h
  have z : ∀ {u v : Nat}, I .f64 u (some (-11 / 10, 11 / 10)) → I .f64 v (some (-11 / 10, 11 / 10)) → isNum .f64 (fsub .f64 (fmul .f64 u v) (fmul .f64 v u)) = true ∧ R .f64 (fsub .f64 (fmul .f64 u v) (fmul .f64 v u)) = 0 := fun hu hv => by
    rw [fmul_comm hv.1 hu.1]
    exact ⟨(s2_I (m2_I hu hv) (m2_I hu hv)).1, fsub_same (m2_I hu hv).1⟩
  -- the length
  have hl : R .f64 (lenN a b c a b c) ≤ 1 / 10000000000 := by
    unfold lenN
    rw [wlength_eq]
    obtain ⟨x1, x2⟩ := z h.y h.z
    obtain ⟨y1, y2⟩ := z h.z h.x
    obtain ⟨z1, z2⟩ := z h.x h.y
    generalize fsub .f64 (fmul .f64 b c) (fmul .f64 c b) = p at *
    generalize fsub .f64 (fmul .f64 c a) (fmul .f64 a c) = q at *
    generalize fsub .f64 (fmul .f64 a b) (fmul .f64 b a) = r at *
    have sq0 : ∀ {w : Nat}, isNum .f64 w = true → R .f64 w = 0 → isNum .f64 (fmul .f64 w w) = true ∧ Bd (R .f64 (fmul .f64 w w)) T ∧ 0 ≤ R .f64 (fmul .f64 w w) := fun {w} hw h0 => by
      have b0 : Bd (R .f64 w * R .f64 w) 0 := by rw [h0]; unfold Bd; constructor <;> decide +kernel
      have f := fmul_fl hw hw (b0.mono (by grind))
      have e := f.err64 b0
      rw [h0] at e
      exact ⟨f.1, by unfold Nr Bd at *; constructor <;> grind, fmul_nn hw hw (sq_nonneg _)⟩
    obtain ⟨a1, a2, a3⟩ := sq0 x1 x2
    obtain ⟨b1, b2, b3⟩ := sq0 y1 y2
    obtain ⟨c1, c2, c3⟩ := sq0 z1 z2
    have bd1 : Bd (R .f64 (fmul .f64 p p) + R .f64 (fmul .f64 q q)) (2 * T) := by unfold Bd at *; constructor <;> grind
    have f1 := fadd_fl a1 b1 (bd1.mono (by grind))
    have e1 := f1.err64 bd1
    have n1 := fadd_nn a1 b1 (by grind)
    have bd2 : Bd (R .f64 (fadd .f64 (fmul .f64 p p) (fmul .f64 q q)) + R .f64 (fmul .f64 r r)) (6 * T) := by unfold Nr Bd at *; constructor <;> grind
    have f2 := fadd_fl f1.1 c1 (bd2.mono (by grind))
    have e2 := f2.err64 bd2
    have n2 := fadd_nn f1.1 c1 (by grind)
    have s0 : R .f64 (fadd .f64 (fadd .f64 (fmul .f64 p p) (fmul .f64 q q)) (fmul .f64 r r)) ≤ 8 * T := by unfold Nr Bd at *; grind
    obtain ⟨-, ρ, r1, r2, r3⟩ := sqrt_fl f2.1 n2 (by grind)
    have hρ : ρ ≤ 1 / 100000000000 := le_of_sq (by decide +kernel) (by unfold Nr at r2; grind)
    unfold Nr at r3
    grind
  -- the inner product
  have hi : Nr (R .f64 (innN a b c a b c)) 1 (2 / 100000) := by
    unfold innN
    rw [winner_eq]
    have b11 : ∀ {w : Nat}, I .f64 w (some (-11 / 10, 11 / 10)) → Bd (R .f64 w * R .f64 w) (122 / 100) := fun {w} hw => by
      have b : Bd (R .f64 w) (11 / 10) := by have := hw.2; unfold Bd; constructor <;> grind
      exact (Bd.mul b b).mono (by decide +kernel)
    have f1 := fmul_fl h.x.1 h.x.1 ((b11 h.x).mono (by grind))
    have f2 := fmul_fl h.y.1 h.y.1 ((b11 h.y).mono (by grind))
    have f3 := fmul_fl h.z.1 h.z.1 ((b11 h.z).mono (by grind))
    have e1 := f1.err64 (b11 h.x)
    have e2 := f2.err64 (b11 h.y)
    have e3 := f3.err64 (b11 h.z)
    have c1 := b11 h.x
    have c2 := b11 h.y
    have c3 := b11 h.z
    have bd1 : Bd (R .f64 (fmul .f64 a a) + R .f64 (fmul .f64 b b)) 3 := by unfold Nr Bd at *; constructor <;> grind
    have f4 := fadd_fl f1.1 f2.1 (bd1.mono (by grind))
    have e4 := f4.err64 bd1
    have bd2 : Bd (R .f64 (fadd .f64 (fmul .f64 a a) (fmul .f64 b b)) + R .f64 (fmul .f64 c c)) 5 := by unfold Nr Bd at *; constructor <;> grind
    have f5 := fadd_fl f4.1 f3.1 (bd2.mono (by grind))
    have e5 := f5.err64 bd2
    unfold Nr at *
    constructor <;> grind
  have z64 : isNum .f64 0 = true ∧ R .f64 0 = 0 := by decide +kernel
  have k1 : R .f64 4607182418800017408 = 1 := by have := k_one.2; grind
  have hx0 : feq .f64 (innN a b c a b c) 0 = false := by
    rw [feq_R i1 z64.1, z64.2]
    exact decide_eq_false (by unfold Nr at hi; grind)
  rw [impl_angleOf_eq l1 i1, hx0]
  show R .f64 (impl_angle (lenN a b c a b c) (innN a b c a b c)) ≤ 4 / 10000
  obtain ⟨-, w, w1, -, w2⟩ := angle_near (L := 1) (ε := 3 / 100000) (sx := false) (sy := false) ref_one l1 i1 (by decide +kernel) (by decide +kernel) (by decide +kernel)
    (by rw [z64.2]; show Nr _ (1 * 0) _; unfold Nr; constructor <;> grind)
    (by rw [k1]; show Nr _ (1 * 1) _; unfold Nr at *; constructor <;> grind)
  rw [w1 rfl] at w2
  rw [impl_angle_eq, math_Abs_eq (num_nan l1), math_Abs_eq (num_nan i1)]
  have e0 : sgn false (if false = true then 1 / 2 - (0 : Rat) else 0) + ((0 : Int) : Rat) = 0 := by decide +kernel
  rw [e0] at w2
  unfold Nr at w2
  grind

/-! ## Tilts -/

noncomputable def norX (o : Orbit) : Nat := fmul .f64 (impl_sine (fconv .f32 o.Tilt .f64)) (impl_sine (fconv .f32 o.Node .f64))
noncomputable def norY (o : Orbit) : Nat := fneg .f64 (fmul .f64 (impl_sine (fconv .f32 o.Tilt .f64)) (impl_cosine (fconv .f32 o.Node .f64)))
noncomputable def norZ (o : Orbit) : Nat := impl_cosine (fconv .f32 o.Tilt .f64)

theorem normal_eq (o : Orbit) : impl_Orbit_normal_need o = true ∧ impl_Orbit_normal o = (norX o, norY o, norZ o) := by
  unfold impl_Orbit_normal_need impl_Orbit_normal impl_Orbit_normal_tree norX norY norZ
  simp only [DT.ok, DT.val, fconvOk_up]
  exact ⟨trivial, trivial⟩

theorem normal_E {o : Orbit} (h : OrbE o) : Wide3 (norX o) (norY o) (norZ o) ∧ Nr (R .f64 (norX o) * R .f64 (norX o) + R .f64 (norY o) * R .f64 (norY o) + R .f64 (norZ o) * R .f64 (norZ o)) 1 (1 / 100000) := by
  have hT := T_le
  have hG := Gr_ge
  obtain ⟨t1, t2, t3, t4, t5⟩ := circ_P (h.tilt.up.mono (lo := -900) (hi := 900) (by decide +kernel) (by decide +kernel))
  obtain ⟨n1, n2, n3, n4, n5⟩ := circ_P (h.node.up.mono (lo := -900) (hi := 900) (by decide +kernel) (by decide +kernel))
  unfold norX norY norZ
  generalize impl_sine (fconv .f32 o.Tilt .f64) = ts at *
  generalize impl_cosine (fconv .f32 o.Tilt .f64) = tc at *
  generalize impl_sine (fconv .f32 o.Node .f64) = ns at *
  generalize impl_cosine (fconv .f32 o.Node .f64) = nc at *
  have bt : Bd (R .f64 ts) (15 / 2) := t4.mono (by decide +kernel)
  obtain ⟨a1, a2, a3⟩ := tilt_near t1 n2 n1 bt n3 n4 n5
  obtain ⟨c1, c2⟩ := R_neg a1
  have e1 := (fmul_fl t1 n1 ((Bd.mul t4 n4).mono (by grind))).err64 (Bd.mul t4 n4)
  have e2 := (fmul_fl t1 n2 ((Bd.mul t4 n5).mono (by grind))).err64 (Bd.mul t4 n5)
  have m1 := Bd.mul t4 n4
  have m2 := Bd.mul t4 n5
  refine ⟨⟨⟨a2, ?_, ?_⟩, ⟨c1, ?_, ?_⟩, ⟨t2, ?_, ?_⟩⟩, ?_⟩
  · unfold Nr Bd at *; grind
  · unfold Nr Bd at *; grind
  · rw [c2]; unfold Nr Bd at *; grind
  · rw [c2]; unfold Nr Bd at *; grind
  · unfold Bd at *; grind
  · unfold Bd at *; grind
  · rw [c2]
    have st := sq_nonneg (R .f64 ts)
    have sc := sq_nonneg (R .f64 tc)
    have i : -R .f64 (fmul .f64 ts nc) * -R .f64 (fmul .f64 ts nc) = R .f64 (fmul .f64 ts nc) * R .f64 (fmul .f64 ts nc) := by grind
    rw [i]
    generalize R .f64 (fmul .f64 ts nc) * R .f64 (fmul .f64 ts nc) = A at *
    generalize R .f64 (fmul .f64 ts ns) * R .f64 (fmul .f64 ts ns) = B at *
    generalize R .f64 ts * R .f64 ts = C at *
    generalize R .f64 tc * R .f64 tc = D at *
    unfold Nr at *
    constructor <;> grind

noncomputable def tltN (o p : Orbit) : Nat := fconv .f64 (impl_angleOf (lenN (norX o) (norY o) (norZ o) (norX p) (norY p) (norZ p)) (innN (norX o) (norY o) (norZ o) (norX p) (norY p) (norZ p))) .f32

theorem tilt_eq {o p : Orbit} (h : OrbE o) (g : OrbE p) : impl_TiltBetween_need o p = true ∧ impl_TiltBetween o p = (tltN o p, true) ∧ isNum .f32 (tltN o p) = true ∧ 0 ≤ R .f32 (tltN o p) ∧ R .f32 (tltN o p) ≤ 1 / 2 := by
  obtain ⟨v1, v2⟩ := ValidOrbit_eq o
  rw [h.ok] at v2
  obtain ⟨u1, u2⟩ := ValidOrbit_eq p
  rw [g.ok] at u2
  obtain ⟨w1, -⟩ := normal_E h
  obtain ⟨w2, -⟩ := normal_E g
  obtain ⟨l1, l2⟩ := len_ok w1 w2
  obtain ⟨a1, a2, a3⟩ := angleOf_pos l1 (inn_num w1 w2) l2
  have ba : Bd (R .f64 (impl_angleOf (lenN (norX o) (norY o) (norZ o) (norX p) (norY p) (norZ p)) (innN (norX o) (norY o) (norZ o) (norX p) (norY p) (norZ p)))) (1 / 2) := by unfold Bd; constructor <;> grind
  obtain ⟨n1, n2, n3⟩ := narrowed_eq a1 (ba.mono (by decide +kernel))
  have eo : (⟨o.Long, o.Round, o.Tilt, o.Node, o.Peri, o.Phase⟩ : Orbit) = o := rfl
  have ep : (⟨p.Long, p.Round, p.Tilt, p.Node, p.Peri, p.Phase⟩ : Orbit) = p := rfl
  have el : ∀ a b c x y z : Nat, impl_wide_length (fsub .f64 (fmul .f64 b z) (fmul .f64 c y)) (fsub .f64 (fmul .f64 c x) (fmul .f64 a z)) (fsub .f64 (fmul .f64 a y) (fmul .f64 b x)) = lenN a b c x y z := fun _ _ _ _ _ _ => rfl
  have ei : ∀ a b c x y z : Nat, impl_wide_inner a b c x y z = innN a b c x y z := fun _ _ _ _ _ _ => rfl
  refine ⟨?_, ?_, n3.1, down_nn a1 a2, le_half n3 ba⟩
  · unfold impl_TiltBetween_need impl_TiltBetween_tree
    simp only [eo, ep, v1, v2, u1, u2, (normal_eq o).1, (normal_eq o).2, (normal_eq p).1, (normal_eq p).2, wcross_eq, el, ei, n1, Bool.not_true]
    simp only [DT.ok]
  · unfold impl_TiltBetween impl_TiltBetween_tree
    simp only [eo, ep, v2, u2, (normal_eq o).2, (normal_eq p).2, wcross_eq, el, ei, n2, Bool.not_true]
    simp only [DT.val]
    rfl

theorem tilt_comm {o p : Orbit} (h : OrbE o) (g : OrbE p) : tltN p o = tltN o p := by
  obtain ⟨w1, -⟩ := normal_E h
  obtain ⟨w2, -⟩ := normal_E g
  obtain ⟨c1, c2⟩ := len_comm w1 w2
  unfold tltN
  rw [c1, c2]

theorem tilt_self {o : Orbit} (h : OrbE o) : R .f32 (tltN o o) ≤ 5 / 10000 := by
  have hT := T_le
  have hG := Gr_ge
  obtain ⟨w1, w2⟩ := normal_E h
  obtain ⟨l1, l2⟩ := len_ok w1 w1
  obtain ⟨a1, a2, a3⟩ := angleOf_pos l1 (inn_num w1 w1) l2
  have s := self_angle w1 w2
  have ba : Bd (R .f64 (impl_angleOf (lenN (norX o) (norY o) (norZ o) (norX o) (norY o) (norZ o)) (innN (norX o) (norY o) (norZ o) (norX o) (norY o) (norZ o)))) 1 := by unfold Bd; constructor <;> grind
  obtain ⟨n1, n2, n3⟩ := narrowed_eq a1 (ba.mono (by decide +kernel))
  have e := n3.err ba
  unfold tltN
  unfold Nr at e
  grind

end Go.Proofs.Ytomdjbkididieaa
