/- The plain law of FnMarks, part 7: the law, for all arguments. -/
import Derived.Test.YtkhjcoekmamlaaaM6
import Derived.Test.YtkhjcoekmamlaaaGM
namespace Go.Proofs.Ytkhjcoekmamlaaa
set_option linter.unusedVariables false
set_option linter.unusedSimpArgs false

/-- What the law's parts answer. -/
structure MFinds (a0 a1 : List Int) (b : Ball) (m o own : Mark) (t u : Nat) (v top : Vec) (x z ra rb lo hi w w2 : Nat) : Prop where
  long : laws_r8Long a0 a1 = false
  b1 : spec_R8Ball_need a0 = true
  b2 : spec_R8Ball a0 = b
  m1 : spec_R8Mark_need a1 = true
  m2 : spec_R8Mark a1 = m
  i1 : laws_r8At_need a1 40 65 = true
  it : fdiv .f32 (fofInt .f32 (IntKind.wrap .i64 (laws_r8At a1 40 65 - 32))) 1090519040 = t
  p1 : impl_PlaceOf_need b m t = true
  p2 : impl_PlaceOf b m t = (v, true)
  k1 : impl_MarkOf_need b v t = true
  k2 : impl_MarkOf b v t = (own, true)
  g1 : laws_r8Gap_need (fconv .f32 own.North .f64) (fconv .f32 m.North .f64) = true
  g2 : fgt .f64 (laws_r8Gap (fconv .f32 own.North .f64) (fconv .f32 m.North .f64)) 4547007122018943789 = false
  t1 : laws_r8Turn_need own.East m.East = true
  t2 : fgt .f64 (laws_r8Turn own.East m.East) 4562254508917369340 = false
  h1 : laws_r8Gap_need (fconv .f32 own.High .f64) (fconv .f32 m.High .f64) = true
  h2 : fgt .f64 (laws_r8Gap (fconv .f32 own.High .f64) (fconv .f32 m.High .f64)) 4562254508917369340 = false
  s1 : laws_r8Gap_need (fconv .f32 (impl_SizeOfVector v) .f64) (fconv .f32 (fadd .f32 b.Radius m.High) .f64) = true
  s2 : fgt .f64 (laws_r8Gap (fconv .f32 (impl_SizeOfVector v) .f64) (fconv .f32 (fadd .f32 b.Radius m.High) .f64)) 4562254508917369340 = false
  o1 : spec_R8Mark_need a0 = true
  o2 : spec_R8Mark a0 = o
  x1 : impl_ArcBetween_need m o = true
  x2 : impl_ArcBetween m o = (x, true)
  y1 : impl_ArcBetween_need o m = true
  y2 : impl_ArcBetween o m = (x, true)
  z1 : impl_ArcBetween_need m m = true
  z2 : impl_ArcBetween m m = (z, true)
  x3 : laws_r8Gap_need (fconv .f32 x .f64) (fconv .f32 x .f64) = true
  x4 : fgt .f64 (laws_r8Gap (fconv .f32 x .f64) (fconv .f32 x .f64)) 4562254508917369340 = false
  x5 : flt .f32 x 0 = false
  x6 : fgt .f64 (fconv .f32 x .f64) 4602687826371901653 = false
  z3 : fgt .f64 (fconv .f32 z .f64) 4562254508917369340 = false
  q1 : impl_PlaceOf_need b ⟨m.North, m.East, fadd .f32 m.High 1065353216⟩ t = true
  q2 : impl_PlaceOf b ⟨m.North, m.East, fadd .f32 m.High 1065353216⟩ t = (top, true)
  r1 : impl_RiseAt_need b ⟨m.North, m.East, 0⟩ top t = true
  r2 : impl_RiseAt b ⟨m.North, m.East, 0⟩ top t = (ra, true)
  r3 : impl_RiseAt_need b ⟨m.North, m.East, 0⟩ ⟨0, 0, 0⟩ t = true
  r4 : impl_RiseAt b ⟨m.North, m.East, 0⟩ ⟨0, 0, 0⟩ t = (rb, true)
  f1 : impl_HorizonOf_need b m.High = true
  f2 : impl_HorizonOf b m.High = (lo, true)
  f3 : impl_HorizonOf_need b (fadd .f32 m.High 1065353216) = true
  f4 : impl_HorizonOf b (fadd .f32 m.High 1065353216) = (hi, true)
  j1 : laws_r8At_need a1 41 129 = true
  jt : fdiv .f32 (fofInt .f32 (IntKind.wrap .i64 (laws_r8At a1 41 129 - 64))) 1098907648 = u
  w1 : impl_WrapTurn_need u = true
  w3 : impl_WrapTurn u = (w, true)
  w4 : impl_WrapTurn_need (fadd .f32 u 1065353216) = true
  w5 : impl_WrapTurn (fadd .f32 u 1065353216) = (w2, true)
  c1 : laws_r8Gap_need (fconv .f32 ra .f64) 4607182418800017408 = true
  c2 : flt .f64 (laws_r8Gap (fconv .f32 ra .f64) 4607182418800017408) 4562254508917369340 = true
  d1 : laws_r8Gap_need (fconv .f32 rb .f64) 13830554455654793216 = true
  d2 : flt .f64 (laws_r8Gap (fconv .f32 rb .f64) 13830554455654793216) 4562254508917369340 = true
  e1 : fge .f32 lo 0 = true
  e2 : fgt .f32 hi lo = true
  e3 : flt .f64 (fconv .f32 hi .f64) 4598175219545276416 = true
  e4 : fge .f32 w 3204448256 = true
  e5 : flt .f32 w 1056964608 = true
  e6 : feq .f32 w w2 = true

theorem law_of {a0 a1 : List Int} {b : Ball} {m o own : Mark} {t u : Nat} {v top : Vec} {x z ra rb lo hi w w2 : Nat} (F : MFinds a0 a1 b m o own t u v top x z ra rb lo hi w w2) : (laws_FnMarks_tree a0 a1).get = some true := by
  have eb : (⟨b.Mass, b.Radius, b.Spin, b.Start⟩ : Ball) = b := rfl
  have em : (⟨m.North, m.East, m.High⟩ : Mark) = m := rfl
  have eo : (⟨o.North, o.East, o.High⟩ : Mark) = o := rfl
  have ev : (⟨v.X, v.Y, v.Z⟩ : Vec) = v := rfl
  have et : (⟨top.X, top.Y, top.Z⟩ : Vec) = top := rfl
  unfold laws_FnMarks_tree
  simp only [F.long, F.b1, F.b2, F.m1, F.m2, F.i1, F.it, eb, em, F.p1, F.p2, ev, F.k1, F.k2, fconvOk_up, F.g1, F.g2, F.t1, F.t2, F.h1, F.h2, Size_need, F.s1, F.s2, F.o1, F.o2, eo, F.x1, F.x2, F.y1, F.y2, F.z1, F.z2, F.x3, F.x4, F.x5, F.x6, F.z3, F.q1, F.q2, et, F.r1, F.r2, F.r3, F.r4, F.f1, F.f2, F.f3, F.f4, F.j1, F.jt, F.w1, F.w3, F.w4, F.w5, F.c1, F.c2, F.d1, F.d2, F.e1, F.e2, F.e3, F.e4, F.e5, F.e6, Bool.not_true]
  simp only [DT.get]

/-- A gap that is small enough. -/
theorem gap_no {a b c : Nat} {M : Rat} (ha : isNum .f64 a = true) (hb : isNum .f64 b = true) (hc : isNum .f64 c = true) (h : Nr (R .f64 a) (R .f64 b) M) (hM : M + 1 / 1000000 ≤ R .f64 c) (h1 : M ≤ 1) : laws_r8Gap_need a b = true ∧ fgt .f64 (laws_r8Gap a b) c = false ∧ flt .f64 (laws_r8Gap a b) c = true := by
  have hT := T_le
  obtain ⟨g1, g2, g3⟩ := gap_fl (M := M) ha hb h (by grind)
  refine ⟨g1, ?_, ?_⟩
  · rw [fgt_R g2 hc]
    exact decide_eq_false (by grind)
  · rw [flt_R g2 hc]
    exact decide_eq_true (by grind)

theorem k_small : (isNum .f64 4562254508917369340 = true ∧ 9 / 10000 ≤ R .f64 4562254508917369340) ∧ (isNum .f64 4547007122018943789 = true ∧ 9 / 100000 ≤ R .f64 4547007122018943789) ∧ (isNum .f64 4602687826371901653 = true ∧ 5009 / 10000 ≤ R .f64 4602687826371901653) ∧ (isNum .f64 4607182418800017408 = true ∧ R .f64 4607182418800017408 = 1) ∧ (isNum .f64 13830554455654793216 = true ∧ R .f64 13830554455654793216 = -1) := by decide +kernel

/-- The unit place of a drawn mark. -/
theorem unit_of (n : Fin 29) (e : Fin 31) : impl_Ball_place_need ⟨1065353216, 1065353216, 0, 0⟩ ⟨noN n.val, eaN e.val, 0⟩ 0 = true ∧ Unit3 (impl_Ball_place ⟨1065353216, 1065353216, 0, 0⟩ ⟨noN n.val, eaN e.val, 0⟩ 0) ∧
    Nr (R .f32 (impl_Ball_place ⟨1065353216, 1065353216, 0, 0⟩ ⟨noN n.val, eaN e.val, 0⟩ 0).X * R .f32 (impl_Ball_place ⟨1065353216, 1065353216, 0, 0⟩ ⟨noN n.val, eaN e.val, 0⟩ 0).X + R .f32 (impl_Ball_place ⟨1065353216, 1065353216, 0, 0⟩ ⟨noN n.val, eaN e.val, 0⟩ 0).Y * R .f32 (impl_Ball_place ⟨1065353216, 1065353216, 0, 0⟩ ⟨noN n.val, eaN e.val, 0⟩ 0).Y + R .f32 (impl_Ball_place ⟨1065353216, 1065353216, 0, 0⟩ ⟨noN n.val, eaN e.val, 0⟩ 0).Z * R .f32 (impl_Ball_place ⟨1065353216, 1065353216, 0, 0⟩ ⟨noN n.val, eaN e.val, 0⟩ 0).Z) 1 (1 / 100000) := by
  obtain ⟨o1, o2⟩ := c_one
  obtain ⟨l1, l2⟩ := lon_B o1
  have hN := turn_of (q_B (c_no n)) (by have := n.isLt; omega)
  have hQ := (q_B (c_ea e)).add (q_B o2) (by have := e.isLt; omega)
  have hF := turn_of hQ (by have := e.isLt; omega)
  have hc := of_decide_eq_true (c_cos n)
  rw [← hN.cR] at hc
  obtain ⟨p1, A⟩ := place_of (b := ⟨1065353216, 1065353216, 0, 0⟩) (m := ⟨noN n.val, eaN e.val, 0⟩) (t := 0) l1 l2 (by decide +kernel) (by decide +kernel) rfl hN hF hc
  refine ⟨p1, ?_⟩
  obtain ⟨n1, n2, n3⟩ := A.near (by decide +kernel) hN.cb
  obtain ⟨b1, b2, b3, b4⟩ := dirs hN.cb hN.sb hF.cb hF.sb hF.one hN.one
  generalize impl_Ball_place ⟨1065353216, 1065353216, 0, 0⟩ ⟨noN n.val, eaN e.val, 0⟩ 0 = v at *
  rw [Rat.one_mul, Rat.one_mul] at n1 n2 n3
  have s1 := sq_near n1 b1
  have s2 := sq_near n2 b2
  have s3 := sq_near n3 b3
  refine ⟨⟨⟨A.x1, ?_, ?_⟩, ⟨A.y1, ?_, ?_⟩, ⟨A.z1, ?_, ?_⟩⟩, ?_⟩
  · unfold Nr Bd at *; grind
  · unfold Nr Bd at *; grind
  · unfold Nr Bd at *; grind
  · unfold Nr Bd at *; grind
  · unfold Nr Bd at *; grind
  · unfold Nr Bd at *; grind
  · clear n1 n2 n3 b1 b2 b3 A
    unfold Nr at *
    constructor <;> grind

theorem At.fin {v : Vec} {Λ cN sN cF sF : Rat} (A : At v Λ cN sN cF sF) : finV v = true := by
  unfold finV
  rw [A.x1, A.y1, A.z1]
  rfl

theorem marks_true (a0 a1 : List Int) (h0 : ∀ x ∈ a0, 0 ≤ x ∧ x ≤ 255) (h1 : ∀ x ∈ a1, 0 ≤ x ∧ x ≤ 255) : laws_FnMarks_need a0 a1 = true ∧ laws_FnMarks a0 a1 = true := by
  suffices hg : (laws_FnMarks_tree a0 a1).get = some true from DT.of_get hg
  cases hlong : laws_r8Long a0 a1 with
  | true =>
    unfold laws_FnMarks_tree
    simp only [hlong]
    rfl
  | false =>
    obtain ⟨l0, l1⟩ := long_no hlong
    have hb0 : Bytes a0 := ⟨by omega, h0⟩
    have hb1 : Bytes a1 := ⟨by omega, h1⟩
    obtain ⟨b1, m, r, s, j, b2⟩ := ball_eq2 hb0
    obtain ⟨m1, n, e, h, m2⟩ := mark_eq2 hb1
    obtain ⟨o1, n', e', h', o2⟩ := mark_eq2 hb0
    obtain ⟨i1, i2, i3⟩ := at_eq hb1 40 65 (by decide) (by decide) (by decide)
    obtain ⟨j1, j2, j3⟩ := at_eq hb1 41 129 (by decide) (by decide) (by decide)
    obtain ⟨t, ht⟩ := fin_of (n := 65) i2 i3
    obtain ⟨u, hu⟩ := fin_of (n := 129) j2 j3
    have hB := balS m r s j
    -- the turns
    have hφ := face_Q m r s j t
    have hφb := phi_bd s.isLt j.isLt t.isLt
    have hN := turn_of (q_B (c_no n)) (by have := n.isLt; omega)
    have hQ := (q_B (c_ea e)).add hφ (by have := e.isLt; omega)
    have hF := turn_of hQ (by have := e.isLt; omega)
    have hc := of_decide_eq_true (c_cos n)
    rw [← hN.cR] at hc
    have tn : isNum .f32 (tmN t.val) = true := (wh_B (c_tm t)).1
    -- the heights
    have cl := c_lon r h
    rw [Bool.and_eq_true] at cl
    obtain ⟨x1, x2⟩ := lon_B cl.1
    obtain ⟨y1, y2⟩ := lon_B cl.2
    have cr := c_rad r
    rw [Bool.and_eq_true] at cr
    obtain ⟨z1, z2⟩ := lon_B cr.1
    obtain ⟨ρ1, ρ2⟩ := lon_B cr.2
    have ch := c_hi h
    simp only [Bool.and_eq_true, beq_iff_eq] at ch
    obtain ⟨ch0, ch1, ch2⟩ := ch
    obtain ⟨hn1, hn2⟩ := lon_B ch1
    obtain ⟨hn3, hn4⟩ := lon_B ch2
    obtain ⟨d1, d2, d3, d4⟩ := lon_bd (r := r.val) (h := h.val) r.isLt (by have := h.isLt; omega)
    obtain ⟨d5, d6, d7, d8⟩ := lon_bd (r := r.val) (h := h.val + 4) r.isLt (by have := h.isLt; omega)
    obtain ⟨d9, d10, -, -⟩ := lon_bd (r := r.val) (h := 0) r.isLt (by decide)
    have hh0 : (0 : Rat) ≤ (h.val : Rat) := by exact_mod_cast Nat.zero_le h.val
    have hh4 : ((h.val + 4 : Nat) : Rat) = (h.val : Rat) + 4 := by push_cast; rfl
    have mk := mark_ok n e hn1
    have mk0 := mark_ok n e (h := 0) (by decide +kernel)
    have mk1 := mark_ok n e (h := fadd .f32 (hiN h.val) 1065353216) (by rw [ch0]; exact hn3)
    have mko := mark_ok n' e' (h := hiN h'.val) (by
      have c := c_hi h'
      simp only [Bool.and_eq_true] at c
      exact (lon_B c.2.1).1)
    -- the places
    obtain ⟨p1, A⟩ := place_of (b := balN m.val r.val s.val j.val) (m := ⟨noN n.val, eaN e.val, hiN h.val⟩) (t := tmN t.val) x1 x2 d1 (by grind) rfl hN hF hc
    obtain ⟨q1, B⟩ := place_of (b := balN m.val r.val s.val j.val) (m := ⟨noN n.val, eaN e.val, fadd .f32 (hiN h.val) 1065353216⟩) (t := tmN t.val) y1 y2 d5 (by grind) rfl hN hF hc
    obtain ⟨g1, G⟩ := place_of (b := balN m.val r.val s.val j.val) (m := ⟨noN n.val, eaN e.val, 0⟩) (t := tmN t.val) z1 z2 d9 (by grind) rfl hN hF hc
    obtain ⟨P1, P2⟩ := placeOf_eq hB mk tn p1 A.fin
    obtain ⟨Q1, Q2⟩ := placeOf_eq hB mk1 tn q1 B.fin
    obtain ⟨k1, own, k2, k3, k4, k5, k6, ⟨zz, k7⟩, k8, k9, k10⟩ := own_mark hB tn ρ2 d8 (n := 8 * ((n.val : Int) - 14)) (e := 16 * ((e.val : Int) - 15)) (by have := n.isLt; omega) hN hF hφ hφb (by have := e.isLt; omega) hc d1 (by grind) A
    obtain ⟨S1, S2⟩ := size_of A d1 (by grind) hc hN.cb hN.sb hF.cb hF.sb hF.one hN.one
    -- rises
    obtain ⟨ra1, ra2⟩ := rise_above G B d9 d8 (by grind) d6 hN.cb hN.sb hF.cb hF.sb hF.one hN.one
    obtain ⟨rb1, rb2⟩ := rise_below G d9 d8 hN.cb hN.sb hF.cb hF.sb hF.one hN.one
    obtain ⟨R1, R2⟩ := riseAt_eq hB mk0 tn g1 B.fin ra1
    obtain ⟨R3, R4⟩ := riseAt_eq (v := ⟨0, 0, 0⟩) hB mk0 tn g1 (by decide +kernel) rb1
    -- arcs
    obtain ⟨U1, U2, U3⟩ := unit_of n e
    obtain ⟨U4, U5, -⟩ := unit_of n' e'
    obtain ⟨X1, X2⟩ := arcBetween_eq mk mko U1 U4 U2 U5
    obtain ⟨Y1, Y2⟩ := arcBetween_eq mko mk U4 U1 U5 U2
    obtain ⟨Z1, Z2⟩ := arcBetween_eq mk mk U1 U1 U2 U2
    rw [arc_comm U5 U2] at Y2
    obtain ⟨-, X3, X4, X5⟩ := arc_bd U2 U5
    obtain ⟨-, Z3, -, -⟩ := arc_bd U2 U2
    have Z4 := arc_self U2 U3
    -- horizons
    have hor := c_hor r h
    unfold hor2B at hor
    simp only [Bool.and_eq_true] at hor
    obtain ⟨H1, H2, H3, H4, H5⟩ := hor
    obtain ⟨F1, F2⟩ := horizon_eq (b := balN m.val r.val s.val j.val) (r := r) (h := ⟨h.val, by have := h.isLt; omega⟩) hB rfl hn1 (by rw [hn2]; grind) H1
    obtain ⟨F3, F4⟩ := horizon_eq (b := balN m.val r.val s.val j.val) (r := r) (h := ⟨h.val + 4, by have := h.isLt; omega⟩) hB rfl hn3 (by rw [hn4, hh4]; grind) H2
    -- wrapped turns
    have wr := wr_all u
    unfold wrB at wr
    simp only [Bool.and_eq_true] at wr
    obtain ⟨⟨W1, W2⟩, ⟨W3, W4⟩, W5, W6, W7⟩ := wr
    obtain ⟨⟨c1, c2⟩, ⟨c3, c4⟩, ⟨c5, c6⟩, ⟨c7, c8⟩, ⟨c9, c10⟩⟩ := k_small
    have z0 : isNum .f32 0 = true ∧ R .f32 0 = 0 := by decide +kernel
    have nQ := q_B (c_no n)
    have eQ := q_B (c_ea e)
    obtain ⟨un1, un2⟩ := up_R k3
    obtain ⟨un3, un4⟩ := up_R nQ.1
    obtain ⟨uh1, uh2⟩ := up_R k5
    obtain ⟨uh3, uh4⟩ := up_R hn1
    obtain ⟨us1, us2⟩ := up_R S1
    obtain ⟨us3, us4⟩ := up_R x1
    obtain ⟨ux1, ux2⟩ := up_R X3
    obtain ⟨uz1, uz2⟩ := up_R Z3
    obtain ⟨ua1, ua2⟩ := up_R ra1
    obtain ⟨ub1, ub2⟩ := up_R rb1
    obtain ⟨G1, G2, -⟩ := gap_no (M := 5 / 100000) un1 un3 c3 (by rw [un2, un4, nQ.2]; exact k6) (by grind) (by decide +kernel)
    have bE : Bd (R .f32 (eaN e.val)) (48 / 100) := by
      have a := Rat.intCast_le_intCast.2 (show (-240 : Int) ≤ 16 * ((e.val : Int) - 15) by omega)
      have b := Rat.intCast_le_intCast.2 (show 16 * ((e.val : Int) - 15) ≤ (240 : Int) by have := e.isLt; omega)
      rw [show (((-240 : Int)) : Rat) = -240 by decide +kernel] at a
      rw [show (((240 : Int)) : Rat) = 240 by decide +kernel] at b
      rw [eQ.2]
      unfold Bd
      constructor <;> grind
    obtain ⟨T1, T2, T3⟩ := turn_T (a := own.East) (b := eaN e.val) (z := zz) k4 eQ.1 (by unfold Bd; constructor <;> grind) bE (by rw [eQ.2]; exact k7)
    have k10' : Nr (R .f32 own.High) (R .f32 (hiN h.val)) (1 / 10000) := by
      rw [hn2]
      unfold Nr at *
      constructor <;> grind
    obtain ⟨G3, G4, -⟩ := gap_no (M := 1 / 10000) uh1 uh3 c1 (by rw [uh2, uh4]; exact k10') (by grind) (by decide +kernel)
    obtain ⟨G5, G6, -⟩ := gap_no (M := 1 / 10000) us1 us3 c1 (by rw [us2, us4]; show Nr _ (R .f32 (fadd .f32 (radN r.val) (hiN h.val))) _; rw [x2]; exact S2.mono (by grind)) (by grind) (by decide +kernel)
    obtain ⟨G7, G8, -⟩ := gap_no (M := 0) ux1 ux1 c1 (Nr.refl _) (by grind) (by decide +kernel)
    obtain ⟨G9, -, G10⟩ := gap_no (M := 2 / 10000) ua1 c7 c1 (by rw [ua2, c8]; exact ra2) (by grind) (by decide +kernel)
    obtain ⟨G11, -, G12⟩ := gap_no (M := 2 / 10000) ub1 c9 c1 (by rw [ub2, c10]; exact rb2) (by grind) (by decide +kernel)
    refine law_of (b := balN m.val r.val s.val j.val) (m := ⟨noN n.val, eaN e.val, hiN h.val⟩) (o := ⟨noN n'.val, eaN e'.val, hiN h'.val⟩) (own := own) (t := tmN t.val) (u := wrN u.val) (lo := horT r.val h.val) (hi := horT r.val (h.val + 4)) (w := (impl_WrapTurn (wrN u.val)).1) (w2 := (impl_WrapTurn (fadd .f32 (wrN u.val) 1065353216)).1)
      { long := hlong, b1 := b1, b2 := b2, m1 := m1, m2 := m2, i1 := i1, it := by rw [ht]; rfl
        p1 := P1, p2 := P2, k1 := k1, k2 := k2, g1 := G1, g2 := G2, t1 := T1
        t2 := by rw [fgt_R T2 c1]; exact decide_eq_false (by grind)
        h1 := G3, h2 := G4, s1 := G5, s2 := G6, o1 := o1, o2 := o2, x1 := X1, x2 := X2, y1 := Y1, y2 := Y2, z1 := Z1, z2 := Z2, x3 := G7, x4 := G8
        x5 := by rw [flt_R X3 z0.1, z0.2]; exact decide_eq_false (by grind)
        x6 := by rw [fgt_R ux1 c5, ux2]; exact decide_eq_false (by grind)
        z3 := by rw [fgt_R uz1 c1, uz2]; exact decide_eq_false (by grind)
        q1 := Q1, q2 := Q2, r1 := R1, r2 := R2, r3 := R3, r4 := R4
        f1 := F1, f2 := F2
        f3 := by rw [ch0]; exact F3
        f4 := by rw [ch0]; exact F4
        j1 := j1, jt := by rw [hu]; rfl
        w1 := W1, w3 := Prod.ext rfl W2, w4 := W3, w5 := Prod.ext rfl W4
        c1 := G9, c2 := G10, d1 := G11, d2 := G12, e1 := H3, e2 := H4, e3 := H5, e4 := W5, e5 := W6, e6 := W7 }

theorem plain3 (c : List Int) (_ : c.length ≤ maxLen) (hc : ∀ x ∈ c, (UC.int .u8).fit x) (d : List Int) (_ : d.length ≤ maxLen) (hd : ∀ x ∈ d, (UC.int .u8).fit x) : laws_FnMarks_need c d = true ∧ laws_FnMarks c d = true :=
  marks_true c d (fun x h => u8_fit (hc x h)) (fun x h => u8_fit (hd x h))

end Go.Proofs.Ytkhjcoekmamlaaa
