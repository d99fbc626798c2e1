/- The plain law of FnLater, part 2: places of ellipses lie between the nearest and the farthest one. -/
import Derived.Test.YtomdjbkididieaaL1
namespace Go.Proofs.Ytomdjbkididieaa
set_option linter.unusedVariables false
set_option linter.unusedSimpArgs false

theorem rate_E {o : Orbit} {m : Nat} (h : OrbE o) (hm : I .f64 m (some (1 / 2, 4))) : impl_Orbit_rate_need o m = true ∧ I .f64 (impl_Orbit_rate o m) (some (7 / 100, 6)) := by
  have a := abs_R h.long.up (by decide +kernel)
  have a2 := (I.sq a).to (lo := 24 / 100) (hi := 161 / 10) (by decide +kernel)
  have a3 := (I.mul a2 a).to (lo := 119 / 1000) (hi := 645 / 10) (by decide +kernel)
  have q := (I.div hm a3).to (lo := 75 / 10000) (hi := 34) (by decide +kernel)
  have s := (I.sqrt (86 / 1000) (584 / 100) q).to (lo := 7 / 100) (hi := 6) (by decide +kernel)
  have e : math_Sqrt (fdiv .f64 m (fmul .f64 (fmul .f64 (math_Abs (fconv .f32 o.Long .f64)) (math_Abs (fconv .f32 o.Long .f64))) (math_Abs (fconv .f32 o.Long .f64)))) = fsqrt (fdiv .f64 m (fmul .f64 (fmul .f64 (math_Abs (fconv .f32 o.Long .f64)) (math_Abs (fconv .f32 o.Long .f64))) (math_Abs (fconv .f32 o.Long .f64)))) := rfl
  unfold impl_Orbit_rate_need impl_Orbit_rate impl_Orbit_rate_tree
  simp only [DT.ok, DT.val, fconvOk_up]
  exact ⟨trivial, s⟩

/-- Sine and cosine of the program's numbers. -/
theorem circ_P {x : Nat} (h : I .f64 x (some (-900, 900))) : isNum .f64 (impl_sine x) = true ∧ isNum .f64 (impl_cosine x) = true ∧ Nr (R .f64 (impl_sine x) * R .f64 (impl_sine x) + R .f64 (impl_cosine x) * R .f64 (impl_cosine x)) 1 (1 / 1000000) ∧ Bd (R .f64 (impl_sine x)) (1000001 / 1000000) ∧ Bd (R .f64 (impl_cosine x)) (1000001 / 1000000) := by
  have y := (I.add h k_quarter).to (lo := -1000) (hi := 1000) (by decide +kernel)
  have b1 : Bd (R .f64 x) 4503599627370495 := by have := h.2; unfold Bd; constructor <;> grind
  have b2 : Bd (R .f64 (fadd .f64 x 4598175219545276416)) 4503599627370495 := by have := y.2; unfold Bd; constructor <;> grind
  have e1 : impl_sine x = sineOf (leftOf x) := by rw [impl_sine_eq, impl_behind_eq (sm52 h.1 b1)]
  have e2 : impl_cosine x = sineOf (leftOf (fadd .f64 x 4598175219545276416)) := by
    show impl_sine (fadd .f64 x 4598175219545276416) = _
    rw [impl_sine_eq, impl_behind_eq (sm52 y.1 b2)]
  rw [e1, e2]
  exact circle_any h

theorem plane_E {o : Orbit} {m : Nat} (h : OrbE o) (hm : I .f64 m (some (1 / 2, 4))) : impl_Orbit_plane_need o m = true ∧ ∃ a b c d, impl_Orbit_plane o m = (a, b, c, d) ∧ isNum .f64 a = true ∧ isNum .f64 b = true ∧ I .f64 c (some (-200, 200)) ∧ I .f64 d (some (-200, 200)) ∧
    ∃ C : Rat, Bd C (1000001 / 1000000) ∧ Nr (R .f64 a * R .f64 a + R .f64 b * R .f64 b) (R .f32 o.Long * (1 - R .f32 o.Round * C) * (R .f32 o.Long * (1 - R .f32 o.Round * C))) (R .f32 o.Long * R .f32 o.Long * (14 / 10000000) + 1 / 10000000000) := by
  have hT := T_le
  have hG := Gr_ge
  obtain ⟨r1, r2⟩ := rate_E h hm
  have hgt := h.gt
  have he := h.round.up
  have hR := up_R h.round.1
  have hL := up_R h.long.1
  have hl := h.long.2
  have hr := h.round.2
  obtain ⟨s1, s2⟩ := swing_I (he.mono (by decide +kernel) (by decide +kernel)) h.phase.up (by decide +kernel) (by decide +kernel)
  have ha := abs_R h.long.up (by decide +kernel)
  have hla : R .f64 (math_Abs (fconv .f32 o.Long .f64)) = R .f32 o.Long := by
    rw [math_Abs_eq (num_nan hL.1), (fabs_R hL.1).2.1 (by rw [hL.2]; grind), hL.2]
  obtain ⟨n1, n2, one, bs, bc⟩ := circ_P (s2.mono (by decide +kernel) (by decide +kernel))
  have hs : I .f64 (impl_sine (impl_swing (fconv .f32 o.Round .f64) (fconv .f32 o.Phase .f64))) (some (-1000001 / 1000000, 1000001 / 1000000)) := by unfold Bd at bs; exact ⟨n1, by grind, by grind⟩
  have hc : I .f64 (impl_cosine (impl_swing (fconv .f32 o.Round .f64) (fconv .f32 o.Phase .f64))) (some (-1000001 / 1000000, 1000001 / 1000000)) := by unfold Bd at bc; exact ⟨n2, by grind, by grind⟩
  have hk := (I.sub k_one (I.mul he hc)).to (lo := 24 / 100) (hi := 2) (by decide +kernel)
  have hqq := (I.sub k_one (I.sq he)).to (lo := 43 / 100) (hi := 101 / 100) (by decide +kernel)
  have hq := (I.sqrt (65 / 100) (101 / 100) hqq).to (lo := 6 / 10) (hi := 102 / 100) (by decide +kernel)
  have hv : (⟨o.Long, o.Round, o.Tilt, o.Node, o.Peri, o.Phase⟩ : Orbit) = o := rfl
  have an := (I.mul ha r2).to (lo := 0) (hi := 25) (by decide +kernel)
  have x21 := (I.neg (I.div (I.mul an hs) hk)).to (lo := -200) (hi := 200) (by decide +kernel)
  have x24 := (I.div (I.mul (I.mul an hq) hc) hk).to (lo := -200) (hi := 200) (by decide +kernel)
  have hsq : math_Sqrt (fsub .f64 4607182418800017408 (fmul .f64 (fconv .f32 o.Round .f64) (fconv .f32 o.Round .f64))) = fsqrt (fsub .f64 4607182418800017408 (fmul .f64 (fconv .f32 o.Round .f64) (fconv .f32 o.Round .f64))) := rfl
  -- the root
  have bE : Bd (R .f32 o.Round) (3 / 4) := by unfold Bd; constructor <;> grind
  have bEE := (Bd.mul bE bE).mono (N := 1) (by decide +kernel)
  have fE := fmul_fl he.1 he.1 (by rw [hR.2]; exact bEE.mono (by grind))
  rw [hR.2] at fE
  have eE := fE.err64 bEE
  have k1 : R .f64 4607182418800017408 = 1 := by have := k_one.2; grind
  have b1 : Bd (R .f64 4607182418800017408 - R .f64 (fmul .f64 (fconv .f32 o.Round .f64) (fconv .f32 o.Round .f64))) 3 := by rw [k1]; unfold Nr Bd at *; constructor <;> grind
  have f1 := fsub_fl k_one.1 fE.1 (b1.mono (by grind))
  have e1 := f1.err64 b1
  rw [k1] at e1
  obtain ⟨q1, ρ, q2, q3, q4⟩ := sqrt_fl hqq.1 (by have := hqq.2.1; grind) (by have := hqq.2.2; grind)
  have hρ1 : ρ ≤ 11 / 10 := le_of_sq (by decide +kernel) (by have := hqq.2.2; unfold Nr at q3; grind)
  have q5 : Nr (R .f64 (fsqrt (fsub .f64 4607182418800017408 (fmul .f64 (fconv .f32 o.Round .f64) (fconv .f32 o.Round .f64))))) ρ (1 / 1000000000000000) := q4.mono (by grind)
  have bρ : Bd ρ (11 / 10) := by unfold Bd; constructor <;> grind
  have q6 := Nr.mul q5 q5 bρ (q5.toBd bρ)
  have hqn : Nr (R .f64 (fsqrt (fsub .f64 4607182418800017408 (fmul .f64 (fconv .f32 o.Round .f64) (fconv .f32 o.Round .f64)))) * R .f64 (fsqrt (fsub .f64 4607182418800017408 (fmul .f64 (fconv .f32 o.Round .f64) (fconv .f32 o.Round .f64))))) (1 - R .f32 o.Round * R .f32 o.Round) (2 / 10000000) := by
    have := hqq.2
    unfold Nr at *
    constructor <;> grind
  refine ⟨?_, fmul .f64 (math_Abs (fconv .f32 o.Long .f64)) (fsub .f64 (impl_cosine (impl_swing (fconv .f32 o.Round .f64) (fconv .f32 o.Phase .f64))) (fconv .f32 o.Round .f64)), fmul .f64 (fmul .f64 (math_Abs (fconv .f32 o.Long .f64)) (fsqrt (fsub .f64 4607182418800017408 (fmul .f64 (fconv .f32 o.Round .f64) (fconv .f32 o.Round .f64))))) (impl_sine (impl_swing (fconv .f32 o.Round .f64) (fconv .f32 o.Phase .f64))), fneg .f64 (fdiv .f64 (fmul .f64 (fmul .f64 (math_Abs (fconv .f32 o.Long .f64)) (impl_Orbit_rate o m)) (impl_sine (impl_swing (fconv .f32 o.Round .f64) (fconv .f32 o.Phase .f64)))) (fsub .f64 4607182418800017408 (fmul .f64 (fconv .f32 o.Round .f64) (impl_cosine (impl_swing (fconv .f32 o.Round .f64) (fconv .f32 o.Phase .f64)))))), fdiv .f64 (fmul .f64 (fmul .f64 (fmul .f64 (math_Abs (fconv .f32 o.Long .f64)) (impl_Orbit_rate o m)) (fsqrt (fsub .f64 4607182418800017408 (fmul .f64 (fconv .f32 o.Round .f64) (fconv .f32 o.Round .f64))))) (impl_cosine (impl_swing (fconv .f32 o.Round .f64) (fconv .f32 o.Phase .f64)))) (fsub .f64 4607182418800017408 (fmul .f64 (fconv .f32 o.Round .f64) (impl_cosine (impl_swing (fconv .f32 o.Round .f64) (fconv .f32 o.Phase .f64))))), ?_, ?_⟩
  · unfold impl_Orbit_plane_need impl_Orbit_plane_tree
    simp only [DT.ok, fconvOk_up, hv, r1, hgt, s1]
  · unfold impl_Orbit_plane impl_Orbit_plane_tree
    simp only [DT.val, hv, hgt, hsq]
  · clear q2 q3 q4 q6 e1 f1 b1 fE eE
    generalize fsqrt (fsub .f64 4607182418800017408 (fmul .f64 (fconv .f32 o.Round .f64) (fconv .f32 o.Round .f64))) = q at *
    generalize impl_sine (impl_swing (fconv .f32 o.Round .f64) (fconv .f32 o.Phase .f64)) = s at *
    generalize impl_cosine (impl_swing (fconv .f32 o.Round .f64) (fconv .f32 o.Phase .f64)) = c at *
    generalize math_Abs (fconv .f32 o.Long .f64) = aL at *
    generalize impl_Orbit_rate o m = n at *
    have bA : Bd (R .f32 o.Long) 4 := by unfold Bd; constructor <;> grind
    -- the first part
    have bce : Bd (R .f64 c - R .f64 (fconv .f32 o.Round .f64)) 2 := by rw [hR.2]; unfold Bd at *; constructor <;> grind
    have g1 := fsub_fl n2 he.1 (bce.mono (by grind))
    have g2 := g1.err64 bce
    rw [hR.2] at g2 bce
    have bm1 := (Bd.mul bA (g2.toBd bce)).mono (N := 9) (by grind)
    have g3 := fmul_fl ha.1 g1.1 (by rw [hla]; exact bm1.mono (by grind))
    rw [hla] at g3
    have g4 := g3.err64 bm1
    have w1 := Bd.mul bA (Nr.bd.1 g2)
    have i1 : R .f32 o.Long * (R .f64 (fsub .f64 c (fconv .f32 o.Round .f64)) - (R .f64 c - R .f32 o.Round)) = R .f32 o.Long * R .f64 (fsub .f64 c (fconv .f32 o.Round .f64)) - R .f32 o.Long * (R .f64 c - R .f32 o.Round) := by grind
    rw [i1] at w1
    have N1 : Nr (R .f64 (fmul .f64 aL (fsub .f64 c (fconv .f32 o.Round .f64)))) (R .f32 o.Long * (R .f64 c - R .f32 o.Round)) (1 / 20000000000000) := by unfold Nr Bd at *; constructor <;> grind
    -- the second part
    have bq : Bd (R .f64 q) (102 / 100) := by have := hq.2; unfold Bd; constructor <;> grind
    have bm2 := (Bd.mul bA bq).mono (N := 5) (by grind)
    have g5 := fmul_fl ha.1 hq.1 (by rw [hla]; exact bm2.mono (by grind))
    rw [hla] at g5
    have g6 := g5.err64 bm2
    have bm3 := (Bd.mul (g6.toBd bm2) bs).mono (N := 6) (by grind)
    have g7 := fmul_fl g5.1 n1 (bm3.mono (by grind))
    have g8 := g7.err64 bm3
    have w2 := Bd.mul (Nr.bd.1 g6) bs
    have i2 : (R .f64 (fmul .f64 aL q) - R .f32 o.Long * R .f64 q) * R .f64 s = R .f64 (fmul .f64 aL q) * R .f64 s - R .f32 o.Long * R .f64 q * R .f64 s := by grind
    rw [i2] at w2
    have N2 : Nr (R .f64 (fmul .f64 (fmul .f64 aL q) s)) (R .f32 o.Long * R .f64 q * R .f64 s) (1 / 20000000000000) := by unfold Nr Bd at *; constructor <;> grind
    have bX : Bd (R .f32 o.Long * (R .f64 c - R .f32 o.Round)) 16 := (Bd.mul bA bce).mono (by decide +kernel)
    have bY : Bd (R .f32 o.Long * R .f64 q * R .f64 s) 16 := (Bd.mul (Bd.mul bA bq) bs).mono (by decide +kernel)
    have S1 := near_sq N1 bX
    have S2 := near_sq N2 bY
    have P := plane_near (A := R .f32 o.Long) (E := R .f32 o.Round) (c := R .f64 c) (s := R .f64 s) (q := R .f64 q) hl.1 hl.2 hr.1 hr.2 bc bs one hqn rfl rfl
    refine ⟨g3.1, g7.1, x21, x24, R .f64 c, bc, ?_⟩
    have sA := sq_nonneg (R .f32 o.Long)
    generalize R .f32 o.Long * (1 - R .f32 o.Round * R .f64 c) * (R .f32 o.Long * (1 - R .f32 o.Round * R .f64 c)) = GG at *
    clear one hqn q5 N1 N2 bX bY w1 w2 i1 i2 g2 g4 g6 g8
    unfold Nr at *
    constructor <;> grind

/-- The vector of two parts, as long as they. -/
theorem turned_E {o : Orbit} {u v : Nat} (h : OrbE o) (hu : isNum .f64 u = true) (hv : isNum .f64 v = true) (hQ : R .f64 u * R .f64 u + R .f64 v * R .f64 v ≤ 50) :
    finV (impl_Orbit_turned o u v) = true ∧ Nr (R .f32 (impl_Orbit_turned o u v).X * R .f32 (impl_Orbit_turned o u v).X + R .f32 (impl_Orbit_turned o u v).Y * R .f32 (impl_Orbit_turned o u v).Y + R .f32 (impl_Orbit_turned o u v).Z * R .f32 (impl_Orbit_turned o u v).Z) (R .f64 u * R .f64 u + R .f64 v * R .f64 v) ((R .f64 u * R .f64 u + R .f64 v * R .f64 v) * (34 / 10000000) + 1 / 10000000000) := by
  obtain ⟨p1, p2, p3, p4, p5⟩ := circ_P (h.peri.up.mono (lo := -900) (hi := 900) (by decide +kernel) (by decide +kernel))
  obtain ⟨t1, t2, t3, t4, t5⟩ := circ_P (h.tilt.up.mono (lo := -900) (hi := 900) (by decide +kernel) (by decide +kernel))
  obtain ⟨n1, n2, n3, n4, n5⟩ := circ_P (h.node.up.mono (lo := -900) (hi := 900) (by decide +kernel) (by decide +kernel))
  have e : impl_Orbit_turned o u v = ⟨fconv .f64 (fsub .f64 (fmul .f64 (fsub .f64 (fmul .f64 u (impl_cosine (fconv .f32 o.Peri .f64))) (fmul .f64 v (impl_sine (fconv .f32 o.Peri .f64)))) (impl_cosine (fconv .f32 o.Node .f64))) (fmul .f64 (fmul .f64 (fadd .f64 (fmul .f64 u (impl_sine (fconv .f32 o.Peri .f64))) (fmul .f64 v (impl_cosine (fconv .f32 o.Peri .f64)))) (impl_cosine (fconv .f32 o.Tilt .f64))) (impl_sine (fconv .f32 o.Node .f64)))) .f32,
      fconv .f64 (fadd .f64 (fmul .f64 (fsub .f64 (fmul .f64 u (impl_cosine (fconv .f32 o.Peri .f64))) (fmul .f64 v (impl_sine (fconv .f32 o.Peri .f64)))) (impl_sine (fconv .f32 o.Node .f64))) (fmul .f64 (fmul .f64 (fadd .f64 (fmul .f64 u (impl_sine (fconv .f32 o.Peri .f64))) (fmul .f64 v (impl_cosine (fconv .f32 o.Peri .f64)))) (impl_cosine (fconv .f32 o.Tilt .f64))) (impl_cosine (fconv .f32 o.Node .f64)))) .f32,
      fconv .f64 (fmul .f64 (fadd .f64 (fmul .f64 u (impl_sine (fconv .f32 o.Peri .f64))) (fmul .f64 v (impl_cosine (fconv .f32 o.Peri .f64)))) (impl_sine (fconv .f32 o.Tilt .f64))) .f32⟩ := by
    unfold impl_Orbit_turned impl_Orbit_turned_tree
    simp only [DT.val]
  rw [e]
  clear e
  generalize impl_cosine (fconv .f32 o.Peri .f64) = pc at *
  generalize impl_sine (fconv .f32 o.Peri .f64) = ps at *
  generalize impl_cosine (fconv .f32 o.Tilt .f64) = tc at *
  generalize impl_sine (fconv .f32 o.Tilt .f64) = ts at *
  generalize impl_cosine (fconv .f32 o.Node .f64) = nc at *
  generalize impl_sine (fconv .f32 o.Node .f64) = ns at *
  have sq := fun (a : Rat) => sq_nonneg a
  obtain ⟨a1, a2, a3⟩ := rot_near hu hv p2 p1 (by grind) p3 p4 p5
  generalize fsub .f64 (fmul .f64 u pc) (fmul .f64 v ps) = x6 at *
  generalize fadd .f64 (fmul .f64 u ps) (fmul .f64 v pc) = x9 at *
  have q6 := sq (R .f64 x6)
  have q9 := sq (R .f64 x9)
  generalize R .f64 u * R .f64 u + R .f64 v * R .f64 v = Q0 at *
  have h51 : R .f64 x6 * R .f64 x6 + R .f64 x9 * R .f64 x9 ≤ 50001 / 1000 := by unfold Nr at a3; grind
  obtain ⟨b1, b2, b3⟩ := tilt_near a2 t2 t1 (part_bd (a := R .f64 x6) (b := R .f64 x9) (by clear h p1 p2 p3 p4 p5 t1 t2 t3 t4 t5 n1 n2 n3 n4 n5 sq a3; grind)).2 t3 t4 t5
  generalize fmul .f64 x9 tc = x12 at *
  generalize fmul .f64 x9 ts = x15 at *
  have q12 := sq (R .f64 x12)
  have q15 := sq (R .f64 x15)
  have h52 : R .f64 x6 * R .f64 x6 + R .f64 x12 * R .f64 x12 ≤ 51 := by unfold Nr at b3; grind
  obtain ⟨c1, c2, c3⟩ := rot_near a1 b1 n2 n1 h52 n3 n4 n5
  generalize fsub .f64 (fmul .f64 x6 nc) (fmul .f64 x12 ns) = x22 at *
  generalize fadd .f64 (fmul .f64 x6 ns) (fmul .f64 x12 nc) = x26 at *
  have q22 := sq (R .f64 x22)
  have q26 := sq (R .f64 x26)
  have bd16 : ∀ {a : Rat}, a * a ≤ 60 → Bd a 16 := fun {a} ha => by
    constructor
    · have : -a ≤ 16 := le_of_sq (by decide +kernel) (by grind)
      grind
    · exact le_of_sq (by decide +kernel) (by grind)
  obtain ⟨-, d2, -, d4⟩ := down_sq c1 (bd16 (by unfold Nr at c3; grind))
  obtain ⟨-, e2, -, e4⟩ := down_sq c2 (bd16 (by unfold Nr at c3; grind))
  obtain ⟨-, f2, -, f4⟩ := down_sq b2 (bd16 (by unfold Nr at b3; grind))
  refine ⟨by unfold finV; rw [d2, e2, f2]; rfl, ?_⟩
  show Nr (R .f32 (fconv .f64 x22 .f32) * R .f32 (fconv .f64 x22 .f32) + R .f32 (fconv .f64 x26 .f32) * R .f32 (fconv .f64 x26 .f32) + R .f32 (fconv .f64 x15 .f32) * R .f32 (fconv .f64 x15 .f32)) Q0 _
  generalize R .f32 (fconv .f64 x22 .f32) * R .f32 (fconv .f64 x22 .f32) = y1 at *
  generalize R .f32 (fconv .f64 x26 .f32) * R .f32 (fconv .f64 x26 .f32) = y2 at *
  generalize R .f32 (fconv .f64 x15 .f32) * R .f32 (fconv .f64 x15 .f32) = y3 at *
  generalize R .f64 x22 * R .f64 x22 = z1 at *
  generalize R .f64 x26 * R .f64 x26 = z2 at *
  generalize R .f64 x15 * R .f64 x15 = z3 at *
  generalize R .f64 x12 * R .f64 x12 = w1 at *
  generalize R .f64 x6 * R .f64 x6 = w2 at *
  generalize R .f64 x9 * R .f64 x9 = w3 at *
  unfold Nr at *
  constructor <;> grind

theorem state_E {o : Orbit} {m : Nat} (h : OrbE o) (hm : I .f32 m (some (1 / 2, 4))) : impl_StateOf_need o m = true ∧ ∃ at' sp, impl_StateOf o m = (at', sp, true) ∧ finV at' = true ∧ ∃ C : Rat, Bd C (1000001 / 1000000) ∧
    Nr (R .f32 at'.X * R .f32 at'.X + R .f32 at'.Y * R .f32 at'.Y + R .f32 at'.Z * R .f32 at'.Z) (R .f32 o.Long * (1 - R .f32 o.Round * C) * (R .f32 o.Long * (1 - R .f32 o.Round * C))) (R .f32 o.Long * (1 - R .f32 o.Round * C) * (R .f32 o.Long * (1 - R .f32 o.Round * C)) * (1 / 200000) + R .f32 o.Long * R .f32 o.Long * (15 / 10000000) + 1 / 1000000000) := by
  obtain ⟨p1, a, b, c, d, p2, ha, hb, hc, hd, C, hC, hP⟩ := plane_E h hm.up
  have hl := h.long.2
  have hr := h.round.2
  have sA := sq_nonneg (R .f32 o.Long)
  have hA16 : R .f32 o.Long * R .f32 o.Long ≤ 16 := by have := sq_le (a := R .f32 o.Long) (b := 4) (by grind) hl.2; grind
  have hG8 : R .f32 o.Long * (1 - R .f32 o.Round * C) * (R .f32 o.Long * (1 - R .f32 o.Round * C)) ≤ 4999 / 100 := by
    have b1 : Bd (1 - R .f32 o.Round * C) (17501 / 10000) := by
      have := Bd.mul (show Bd (R .f32 o.Round) (3 / 4) by unfold Bd; constructor <;> grind) hC
      unfold Bd at *
      constructor <;> grind
    have b2 := Bd.mul (show Bd (R .f32 o.Long) 4 by unfold Bd; constructor <;> grind) b1
    have b3 := sq_bd b2
    grind
  generalize hGG : R .f32 o.Long * (1 - R .f32 o.Round * C) * (R .f32 o.Long * (1 - R .f32 o.Round * C)) = GG at *
  have hQ50 : R .f64 a * R .f64 a + R .f64 b * R .f64 b ≤ 50 := by unfold Nr at hP; grind
  have hQ0 : 0 ≤ R .f64 a * R .f64 a + R .f64 b * R .f64 b := by have := sq_nonneg (R .f64 a); have := sq_nonneg (R .f64 b); grind
  obtain ⟨pa, pb⟩ := part_bd (a := R .f64 a) (b := R .f64 b) (by grind)
  obtain ⟨t1, -⟩ := turned_I (o := o) (u := a) (v := b) h ⟨ha, by unfold Bd at pa; grind, by unfold Bd at pa; grind⟩ ⟨hb, by unfold Bd at pb; grind, by unfold Bd at pb; grind⟩
  obtain ⟨t3, t4⟩ := turned_E h ha hb hQ50
  obtain ⟨u1, u2⟩ := turned_I h (hc.mono (by decide +kernel) (by decide +kernel)) (hd.mono (by decide +kernel) (by decide +kernel))
  obtain ⟨a1, a2⟩ := around_I h.ok hm
  have e : (⟨o.Long, o.Round, o.Tilt, o.Node, o.Peri, o.Phase⟩ : Orbit) = o := rfl
  have V2 : VecI (impl_Orbit_turned o c d) 12000 := u2
  have s : impl_Orbit_state_need o (fconv .f32 m .f64) = true ∧ impl_Orbit_state o (fconv .f32 m .f64) = (impl_Orbit_turned o a b, impl_Orbit_turned o c d) := by
    unfold impl_Orbit_state_need impl_Orbit_state impl_Orbit_state_tree
    simp only [DT.ok, DT.val, e, p1, p2, t1, u1]
    exact ⟨trivial, trivial⟩
  have hf1 := isFiniteVector_eq (impl_Orbit_turned o a b)
  have hf2 := isFiniteVector_eq (impl_Orbit_turned o c d)
  rw [t3] at hf1
  rw [V2.fin] at hf2
  have e1 : (⟨(impl_Orbit_turned o a b).X, (impl_Orbit_turned o a b).Y, (impl_Orbit_turned o a b).Z⟩ : Vec) = impl_Orbit_turned o a b := rfl
  have e2 : (⟨(impl_Orbit_turned o c d).X, (impl_Orbit_turned o c d).Y, (impl_Orbit_turned o c d).Z⟩ : Vec) = impl_Orbit_turned o c d := rfl
  refine ⟨?_, impl_Orbit_turned o a b, impl_Orbit_turned o c d, ?_, t3, C, hC, ?_⟩
  · unfold impl_StateOf_need impl_StateOf_tree
    simp only [DT.ok, e, a1, a2, fconvOk_up, s.1, s.2, e1, e2, hf1.1, hf1.2, hf2.1, hf2.2, Bool.not_true]
  · unfold impl_StateOf impl_StateOf_tree
    simp only [DT.val, e, a2, s.2, e1, e2, hf1.2, hf2.2, Bool.not_true]
  · rw [hGG]
    generalize R .f64 a * R .f64 a + R .f64 b * R .f64 b = Q0 at *
    unfold Nr at *
    constructor <;> grind

/-- How far the place is: between the nearest and the farthest one. -/
theorem place_between {o : Orbit} {v : Vec} {C : Rat} (h : OrbE o) (hv : finV v = true) (hC : Bd C (1000001 / 1000000)) (hQ : Nr (R .f32 v.X * R .f32 v.X + R .f32 v.Y * R .f32 v.Y + R .f32 v.Z * R .f32 v.Z) (R .f32 o.Long * (1 - R .f32 o.Round * C) * (R .f32 o.Long * (1 - R .f32 o.Round * C))) (R .f32 o.Long * (1 - R .f32 o.Round * C) * (R .f32 o.Long * (1 - R .f32 o.Round * C)) * (1 / 200000) + R .f32 o.Long * R .f32 o.Long * (15 / 10000000) + 1 / 1000000000)) :
    isNum .f32 (rootN (innerN v.X v.Y v.Z)) = true ∧ R .f32 o.Long * (1 - R .f32 o.Round) - 8 / 10000 ≤ R .f32 (rootN (innerN v.X v.Y v.Z)) ∧ R .f32 (rootN (innerN v.X v.Y v.Z)) ≤ R .f32 o.Long * (1 + R .f32 o.Round) + 8 / 10000 := by
  have hT := T_le
  have hT0 := T_pos
  unfold finV at hv
  simp only [Bool.and_eq_true] at hv
  obtain ⟨⟨hx, hy⟩, hz⟩ := hv
  have hl := h.long.2
  have hr := h.round.2
  have hS0 : 0 ≤ R .f32 v.X * R .f32 v.X + R .f32 v.Y * R .f32 v.Y + R .f32 v.Z * R .f32 v.Z := by have := sq_nonneg (R .f32 v.X); have := sq_nonneg (R .f32 v.Y); have := sq_nonneg (R .f32 v.Z); grind
  have hA16 : R .f32 o.Long * R .f32 o.Long ≤ 16 := by have := sq_le (a := R .f32 o.Long) (b := 4) (by grind) hl.2; grind
  have sA := sq_nonneg (R .f32 o.Long)
  have hG8 : R .f32 o.Long * (1 - R .f32 o.Round * C) * (R .f32 o.Long * (1 - R .f32 o.Round * C)) ≤ 4999 / 100 := by
    have b1 : Bd (1 - R .f32 o.Round * C) (17501 / 10000) := by
      have := Bd.mul (show Bd (R .f32 o.Round) (3 / 4) by unfold Bd; constructor <;> grind) hC
      unfold Bd at *
      constructor <;> grind
    have b2 := Bd.mul (show Bd (R .f32 o.Long) 4 by unfold Bd; constructor <;> grind) b1
    have b3 := sq_bd b2
    grind
  have hS : R .f32 v.X * R .f32 v.X + R .f32 v.Y * R .f32 v.Y + R .f32 v.Z * R .f32 v.Z ≤ 51 := by unfold Nr at hQ; grind
  obtain ⟨-, -, n, ρ, r1, r2, r3⟩ := size_fl hx hy hz hS (by decide +kernel)
  obtain ⟨w1, w2⟩ := between hl.1 hl.2 hr.1 hr.2 hC hQ r1 (r2.mono (by grind))
  have hρ : ρ ≤ 8 := le_of_sq (by decide +kernel) (by unfold Nr at r2; grind)
  refine ⟨n, ?_, ?_⟩
  · unfold Nr at r3; grind
  · unfold Nr at r3; grind

end Go.Proofs.Ytomdjbkididieaa
