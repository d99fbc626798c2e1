/- The plain law of FnPasses, part 11: the law's tree. -/
import Derived.Test.YtkmcgfjhjfiomaaQ10
namespace Go.Proofs.Ytkmcgfjhjfiomaa
set_option linter.unusedVariables false
set_option linter.unusedSimpArgs false

/-- All that the law finds. -/
structure Finds (a0 a1 : List Int) (l : List Bool) (r s : List Int) (b : Ball) (o : Orbit) (m : Mark) (u v : Int) (sn : Vec) : Prop where
  hlong : laws_r8Long a0 a1 = false
  e1 : laws_FnPasses_loop0_ends (a0, a1) (0, []) = true
  e2 : laws_FnPasses_loop0 (a0, a1) (0, []) = l
  r1 : impl_RisesIn_need l = true
  r2 : impl_RisesIn l = .inr r
  s1 : impl_SetsIn_need l = true
  s2 : impl_SetsIn l = .inr s
  w1 : IntKind.wrap .i64 ((s.length : Int) + 1) = (s.length : Int) + 1
  w2 : IntKind.wrap .i64 ((r.length : Int) + 1) = (r.length : Int) + 1
  c1 : decide ((r.length : Int) > (s.length : Int) + 1) = false
  c2 : decide ((s.length : Int) > (r.length : Int) + 1) = false
  g1 : laws_FnPasses_loop1_ends (a0, a1, l, r, s) (0, false, 0) = true
  g2 : laws_FnPasses_loop1 (a0, a1, l, r, s) (0, false, 0) = (IntKind.wrap .i64 ((r.length : Int) + (s.length : Int)), someB l l.length)
  h1 : impl_LongestPass_need l = true
  b1 : spec_R8Ball_need a0 = true
  b2 : spec_R8Ball a0 = b
  o1 : spec_R8Orbit_need a1 = true
  o2 : spec_R8Orbit a1 = o
  m1 : spec_R8Mark_need a0 = true
  m2 : spec_R8Mark a0 = m
  t1 : impl_TrackOf_need b o 1056964608 1048576000 4 = true
  t2 : impl_TrackOf b o 1056964608 1048576000 4 = .inr ((List.range 4).map fun k : Nat => mrkN o b (k : Int))
  f1 : impl_SeenFrom_need b m o 0 1056964608 1048576000 4 = true
  u1 : laws_r8At_need a1 40 4 = true
  u2 : laws_r8At a1 40 4 = u
  u3 : laws_r8At_need a1 41 5 = true
  u4 : laws_r8At a1 41 5 = v
  sx : fofInt .f32 (IntKind.wrap .i64 (1 + u)) = sn.X
  sy : fofInt .f32 (IntKind.wrap .i64 (v - 2)) = sn.Y
  sz : sn.Z = 0
  su : Suns b o sn

theorem eo (o : Orbit) : (⟨o.Long, o.Round, o.Tilt, o.Node, o.Peri, o.Phase⟩ : Orbit) = o := rfl
theorem eb (b : Ball) : (⟨b.Mass, b.Radius, b.Spin, b.Start⟩ : Ball) = b := rfl
theorem em (m : Mark) : (⟨m.North, m.East, m.High⟩ : Mark) = m := rfl
theorem ev (v : Vec) : (⟨v.X, v.Y, v.Z⟩ : Vec) = v := rfl
theorem ev0 {v : Vec} (h : v.Z = 0) : (⟨v.X, v.Y, 0⟩ : Vec) = v := by rw [← h]
theorem four (n : Nat) (h : n = 4) : (((n : Nat) : Int) != 4) = false := by subst h; rfl

/-- What is found where there is a pass. -/
structure Pass (a0 a1 : List Int) (l : List Bool) (p q : Int) : Prop where
  h2 : impl_LongestPass l = (p, q, true)
  so : someB l l.length = true
  l1 : laws_FnPasses_loop2_ends (a0, a1, p, q, l) (0, 0) = true
  l2 : laws_FnPasses_loop2 (a0, a1, p, q, l) (0, 0) = .inr ()
  d1 : decide (p < 0) = false
  w1 : IntKind.wrap .i64 (p + q) = p + q
  d2 : decide (p + q > (l.length : Int)) = false
  n1 : (decide ((0 : Int) ≤ p) && decide (p < (l.length : Int))) = true
  n2 : decide (Int.toNat p < l.length) = true
  g1 : l.getD (Int.toNat p) default = true
  w2 : IntKind.wrap .i64 (p + q - 1) = p + q - 1
  n3 : (decide ((0 : Int) ≤ p + q - 1) && decide (p + q - 1 < (l.length : Int))) = true
  n4 : decide (Int.toNat (p + q - 1) < l.length) = true
  g2 : l.getD (Int.toNat (p + q - 1)) default = true

theorem pass_of (a0 a1 : List Int) {l : List Bool} {p q : Int} (hl : l.length ≤ 17) (hL : LongP l l.length p q) (hq : 0 < q) (h : impl_LongestPass l = (p, q, true)) : Pass a0 a1 l p q := by
  obtain ⟨l1, l2⟩ := loop2_seen a0 a1 l hl hL hq
  obtain ⟨L1, L2, L3, L4, L5⟩ := hL
  obtain ⟨m1, m2, m3, m4⟩ := L5 hq
  exact ⟨h, m1, l1, l2, decide_eq_false (by omega), wrap_small (by omega) (by omega), decide_eq_false (by omega),
    by rw [Bool.and_eq_true]; exact ⟨decide_eq_true m2, decide_eq_true (by omega)⟩, decide_eq_true (by omega), m4 _ (by omega) (by omega), wrap_small (by omega) (by omega),
    by rw [Bool.and_eq_true]; exact ⟨decide_eq_true (by omega), decide_eq_true (by omega)⟩, decide_eq_true (by omega), m4 _ (by omega) (by omega)⟩

theorem law_pass_seen {a0 a1 : List Int} {l : List Bool} {r s : List Int} {b : Ball} {o : Orbit} {m : Mark} {u v : Int} {sn : Vec} (F : Finds a0 a1 l r s b o m u v sn) {p q : Int} (P : Pass a0 a1 l p q)
    (f2 : impl_SeenFrom b m o 0 1056964608 1048576000 4 = .inr ((List.range 4).map fun k : Nat => fge .f32 (sawN o b m (k : Int)).1 0))
    (l3 : laws_FnPasses_loop3_ends (a0, a1, b.Mass, b.Radius, b.Spin, b.Start, o.Long, o.Round, o.Tilt, o.Node, o.Peri, o.Phase, (List.range 4).map fun k : Nat => mrkN o b (k : Int), (List.range 4).map fun k : Nat => fge .f32 (sawN o b m (k : Int)).1 0) 0 = true)
    (l4 : laws_FnPasses_loop3 (a0, a1, b.Mass, b.Radius, b.Spin, b.Start, o.Long, o.Round, o.Tilt, o.Node, o.Peri, o.Phase, (List.range 4).map fun k : Nat => mrkN o b (k : Int), (List.range 4).map fun k : Nat => fge .f32 (sawN o b m (k : Int)).1 0) 0 = .inr ()) :
    (laws_FnPasses_tree a0 a1).get = some true := by
  have k1 := four (((List.range 4).map fun k : Nat => fge .f32 (sawN o b m (k : Int)).1 0).length) (by simp)
  have k2 := four (((List.range 4).map fun k : Nat => mrkN o b (k : Int)).length) (by simp)
  unfold laws_FnPasses_tree
  simp only [F.hlong, F.e1, F.e2, F.r1, F.r2, F.s1, F.s2, isL, leftD, rightD, F.w1, F.w2, F.c1, F.c2, F.g1, F.g2, F.h1, P.h2, P.so, beq_self_eq_true, Bool.not_true, bne_self_eq_false, P.l1, P.l2, P.d1, P.w1, P.d2, P.n1, P.n2, P.g1, P.w2, P.n3, P.n4, P.g2, F.b1, F.b2, F.o1, F.o2, eo, eb, em, ev, F.t1, F.t2, F.m1, F.m2, F.f1, f2, k1, k2, l3, l4, F.u1, F.u2, F.u3, F.u4, F.sx, F.sy, ev0 F.sz, F.su.d1, F.su.d2, F.su.l1, F.su.l2, F.su.b1, F.su.b2, F.su.s1, F.su.s2, F.su.s3, F.su.s4]
  simp only [DT.get]
  rfl

theorem law_none_seen {a0 a1 : List Int} {l : List Bool} {r s : List Int} {b : Ball} {o : Orbit} {m : Mark} {u v : Int} {sn : Vec} (F : Finds a0 a1 l r s b o m u v sn) (h2 : impl_LongestPass l = (0, 0, false)) (so : someB l l.length = false)
    (f2 : impl_SeenFrom b m o 0 1056964608 1048576000 4 = .inr ((List.range 4).map fun k : Nat => fge .f32 (sawN o b m (k : Int)).1 0))
    (l3 : laws_FnPasses_loop3_ends (a0, a1, b.Mass, b.Radius, b.Spin, b.Start, o.Long, o.Round, o.Tilt, o.Node, o.Peri, o.Phase, (List.range 4).map fun k : Nat => mrkN o b (k : Int), (List.range 4).map fun k : Nat => fge .f32 (sawN o b m (k : Int)).1 0) 0 = true)
    (l4 : laws_FnPasses_loop3 (a0, a1, b.Mass, b.Radius, b.Spin, b.Start, o.Long, o.Round, o.Tilt, o.Node, o.Peri, o.Phase, (List.range 4).map fun k : Nat => mrkN o b (k : Int), (List.range 4).map fun k : Nat => fge .f32 (sawN o b m (k : Int)).1 0) 0 = .inr ()) :
    (laws_FnPasses_tree a0 a1).get = some true := by
  have k1 := four (((List.range 4).map fun k : Nat => fge .f32 (sawN o b m (k : Int)).1 0).length) (by simp)
  have k2 := four (((List.range 4).map fun k : Nat => mrkN o b (k : Int)).length) (by simp)
  unfold laws_FnPasses_tree
  simp only [F.hlong, F.e1, F.e2, F.r1, F.r2, F.s1, F.s2, isL, leftD, rightD, F.w1, F.w2, F.c1, F.c2, F.g1, F.g2, F.h1, h2, so, beq_self_eq_true, Bool.not_true, bne_self_eq_false, F.b1, F.b2, F.o1, F.o2, eo, eb, em, ev, F.t1, F.t2, F.m1, F.m2, F.f1, f2, k1, k2, l3, l4, F.u1, F.u2, F.u3, F.u4, F.sx, F.sy, ev0 F.sz, F.su.d1, F.su.d2, F.su.l1, F.su.l2, F.su.b1, F.su.b2, F.su.s1, F.su.s2, F.su.s3, F.su.s4]
  simp only [DT.get]
  rfl

/-- What is found at one time of the track, where not all is seen. -/
structure OneT (o : Orbit) (b : Ball) (m : Mark) (k : Int) : Prop where
  K : Known o b k
  q1 : impl_SameMark_need (mrkN o b k) (mrkN o b k) = true
  q2 : impl_SameMark (mrkN o b k) (mrkN o b k) = true
  r : impl_RiseAt_need b m (plcN o b k) (tmN k) = true

theorem law_pass_not {a0 a1 : List Int} {l : List Bool} {r s : List Int} {b : Ball} {o : Orbit} {m : Mark} {u v : Int} {sn : Vec} (F : Finds a0 a1 l r s b o m u v sn) {p q : Int} (P : Pass a0 a1 l p q)
    (f2 : impl_SeenFrom b m o 0 1056964608 1048576000 4 = .inl ()) (O0 : OneT o b m 0) (O1 : OneT o b m 1) (O2 : OneT o b m 2) (O3 : OneT o b m 3) :
    (laws_FnPasses_tree a0 a1).get = some true := by
  have k2 := four (((List.range 4).map fun k : Nat => mrkN o b (k : Int)).length) (by simp)
  have t0 : fadd .f32 1056964608 (fmul .f32 (fofInt .f32 0) 1048576000) = tmN 0 := rfl
  have t1 : fadd .f32 1056964608 (fmul .f32 (fofInt .f32 1) 1048576000) = tmN 1 := rfl
  have t2 : fadd .f32 1056964608 (fmul .f32 (fofInt .f32 2) 1048576000) = tmN 2 := rfl
  have t3 : fadd .f32 1056964608 (fmul .f32 (fofInt .f32 3) 1048576000) = tmN 3 := rfl
  have g0 : ((List.range 4).map fun k : Nat => mrkN o b (k : Int)).getD 0 default = mrkN o b 0 := rfl
  have g1 : ((List.range 4).map fun k : Nat => mrkN o b (k : Int)).getD 1 default = mrkN o b 1 := rfl
  have g2 : ((List.range 4).map fun k : Nat => mrkN o b (k : Int)).getD 2 default = mrkN o b 2 := rfl
  have g3 : ((List.range 4).map fun k : Nat => mrkN o b (k : Int)).getD 3 default = mrkN o b 3 := rfl
  have hlen : ((List.range 4).map fun k : Nat => mrkN o b (k : Int)).length = 4 := rfl
  unfold laws_FnPasses_tree
  simp only [F.hlong, F.e1, F.e2, F.r1, F.r2, F.s1, F.s2, isL, leftD, rightD, F.w1, F.w2, F.c1, F.c2, F.g1, F.g2, F.h1, P.h2, P.so, beq_self_eq_true, Bool.not_true, bne_self_eq_false, P.l1, P.l2, P.d1, P.w1, P.d2, P.n1, P.n2, P.g1, P.w2, P.n3, P.n4, P.g2, F.b1, F.b2, F.o1, F.o2, eo, eb, em, ev, F.t1, F.t2, F.m1, F.m2, F.f1, f2, k2, hlen, t0, t1, t2, t3, g0, g1, g2, g3, O0.K.l1, O0.K.l2, O0.K.s1, O0.K.s2, O0.K.s3, O0.K.m1, O0.K.m2, O0.q1, O0.q2, O0.r, O1.K.l1, O1.K.l2, O1.K.s1, O1.K.s2, O1.K.s3, O1.K.m1, O1.K.m2, O1.q1, O1.q2, O1.r, O2.K.l1, O2.K.l2, O2.K.s1, O2.K.s2, O2.K.s3, O2.K.m1, O2.K.m2, O2.q1, O2.q2, O2.r, O3.K.l1, O3.K.l2, O3.K.s1, O3.K.s2, O3.K.s3, O3.K.m1, O3.K.m2, O3.q1, O3.q2, O3.r, F.u1, F.u2, F.u3, F.u4, F.sx, F.sy, ev0 F.sz, F.su.d1, F.su.d2, F.su.l1, F.su.l2, F.su.b1, F.su.b2, F.su.s1, F.su.s2, F.su.s3, F.su.s4]
  simp only [DT.get]
  rfl

theorem law_none_not {a0 a1 : List Int} {l : List Bool} {r s : List Int} {b : Ball} {o : Orbit} {m : Mark} {u v : Int} {sn : Vec} (F : Finds a0 a1 l r s b o m u v sn) (h2 : impl_LongestPass l = (0, 0, false)) (so : someB l l.length = false)
    (f2 : impl_SeenFrom b m o 0 1056964608 1048576000 4 = .inl ()) (O0 : OneT o b m 0) (O1 : OneT o b m 1) (O2 : OneT o b m 2) (O3 : OneT o b m 3) :
    (laws_FnPasses_tree a0 a1).get = some true := by
  have k2 := four (((List.range 4).map fun k : Nat => mrkN o b (k : Int)).length) (by simp)
  have t0 : fadd .f32 1056964608 (fmul .f32 (fofInt .f32 0) 1048576000) = tmN 0 := rfl
  have t1 : fadd .f32 1056964608 (fmul .f32 (fofInt .f32 1) 1048576000) = tmN 1 := rfl
  have t2 : fadd .f32 1056964608 (fmul .f32 (fofInt .f32 2) 1048576000) = tmN 2 := rfl
  have t3 : fadd .f32 1056964608 (fmul .f32 (fofInt .f32 3) 1048576000) = tmN 3 := rfl
  have g0 : ((List.range 4).map fun k : Nat => mrkN o b (k : Int)).getD 0 default = mrkN o b 0 := rfl
  have g1 : ((List.range 4).map fun k : Nat => mrkN o b (k : Int)).getD 1 default = mrkN o b 1 := rfl
  have g2 : ((List.range 4).map fun k : Nat => mrkN o b (k : Int)).getD 2 default = mrkN o b 2 := rfl
  have g3 : ((List.range 4).map fun k : Nat => mrkN o b (k : Int)).getD 3 default = mrkN o b 3 := rfl
  have hlen : ((List.range 4).map fun k : Nat => mrkN o b (k : Int)).length = 4 := rfl
  unfold laws_FnPasses_tree
  simp only [F.hlong, F.e1, F.e2, F.r1, F.r2, F.s1, F.s2, isL, leftD, rightD, F.w1, F.w2, F.c1, F.c2, F.g1, F.g2, F.h1, h2, so, beq_self_eq_true, Bool.not_true, bne_self_eq_false, F.b1, F.b2, F.o1, F.o2, eo, eb, em, ev, F.t1, F.t2, F.m1, F.m2, F.f1, f2, k2, hlen, t0, t1, t2, t3, g0, g1, g2, g3, O0.K.l1, O0.K.l2, O0.K.s1, O0.K.s2, O0.K.s3, O0.K.m1, O0.K.m2, O0.q1, O0.q2, O0.r, O1.K.l1, O1.K.l2, O1.K.s1, O1.K.s2, O1.K.s3, O1.K.m1, O1.K.m2, O1.q1, O1.q2, O1.r, O2.K.l1, O2.K.l2, O2.K.s1, O2.K.s2, O2.K.s3, O2.K.m1, O2.K.m2, O2.q1, O2.q2, O2.r, O3.K.l1, O3.K.l2, O3.K.s1, O3.K.s2, O3.K.s3, O3.K.m1, O3.K.m2, O3.q1, O3.q2, O3.r, F.u1, F.u2, F.u3, F.u4, F.sx, F.sy, ev0 F.sz, F.su.d1, F.su.d2, F.su.l1, F.su.l2, F.su.b1, F.su.b2, F.su.s1, F.su.s2, F.su.s3, F.su.s4]
  simp only [DT.get]
  rfl

theorem u8_fit {x : Int} (h : (UC.int .u8).fit x) : 0 ≤ x ∧ x ≤ 255 := by
  have h : (decide (IntKind.min .u8 ≤ x) && decide (x ≤ IntKind.max .u8)) = true := h
  rw [show IntKind.min .u8 = 0 from rfl, show IntKind.max .u8 = 255 from rfl, Bool.and_eq_true, decide_eq_true_eq, decide_eq_true_eq] at h
  exact h

theorem one_time {o : Orbit} {b : Ball} {m : Mark} (ho : OrbS o) (hb : BallS b) (hm : MarkS m) {k : Nat} (hk : k < 4) : OneT o b m (k : Int) := by
  have hK := known ho hb hk
  obtain ⟨q1, q2⟩ := same_mark hK.ok
  exact ⟨hK, q1, q2, rise_need hb hm hK.fin (tmI hk)⟩

theorem passes_true (a0 a1 : List Int) (h0 : ∀ x ∈ a0, 0 ≤ x ∧ x ≤ 255) (h1 : ∀ x ∈ a1, 0 ≤ x ∧ x ≤ 255) : laws_FnPasses_need a0 a1 = true ∧ laws_FnPasses a0 a1 = true := by
  suffices hg : (laws_FnPasses_tree a0 a1).get = some true from DT.of_get hg
  cases hlong : laws_r8Long a0 a1 with
  | true =>
    unfold laws_FnPasses_tree
    simp only [hlong]
    rfl
  | false =>
    obtain ⟨n0, n1⟩ := long_no hlong
    have hb0 : Bytes a0 := ⟨by omega, h0⟩
    have hb1 : Bytes a1 := ⟨by omega, h1⟩
    obtain ⟨l, r, s, p, q, e1, e2, r1, r2, s1, s2, w1, w2, c1, c2, g1, g2, hl1, hL, hlen, hcase⟩ := seen_facts hb1 hlong
    obtain ⟨b1, hB, rr, hr⟩ := ball_eq hb0
    obtain ⟨o1, hO⟩ := orbit_eq hb1
    obtain ⟨m1, hM⟩ := mark_eq hb0
    obtain ⟨t1, t2⟩ := track_all hO hB
    obtain ⟨f1, f2⟩ := seen_all hO hB hM
    obtain ⟨u1, u2, u3⟩ := at_eq hb1 40 4 (by decide) (by decide) (by decide)
    obtain ⟨v1, v2, v3⟩ := at_eq hb1 41 5 (by decide) (by decide) (by decide)
    obtain ⟨k, hk⟩ := fin_of (n := 4) u2 u3
    obtain ⟨j, hj⟩ := fin_of (n := 5) v2 v3
    have hS := suns hB hO hr k.isLt j.isLt
    have F : Finds a0 a1 l r s (spec_R8Ball a0) (spec_R8Orbit a1) (spec_R8Mark a0) (k.val : Int) (j.val : Int) (sunN k.val j.val) :=
      ⟨hlong, e1, e2, r1, r2, s1, s2, w1, w2, c1, c2, g1, g2, hl1, b1, rfl, o1, rfl, m1, rfl, t1, t2, f1, u1, hk, v1, hj, rfl, rfl, rfl, hS⟩
    rcases hcase with ⟨hq, hlp⟩ | ⟨hq, hlp⟩
    · have so : someB l l.length = false := hL.2.2.2.1 hq
      rcases f2 with f2 | ⟨f2, f3⟩
      · exact law_none_not F hlp so f2 (one_time hO hB hM (k := 0) (by decide)) (one_time hO hB hM (k := 1) (by decide)) (one_time hO hB hM (k := 2) (by decide)) (one_time hO hB hM (k := 3) (by decide))
      · obtain ⟨l3, l4⟩ := loop3_all a0 a1 hO hB hM ⟨m1, rfl⟩ f3
        exact law_none_seen F hlp so f2 l3 l4
    · have P := pass_of a0 a1 hlen hL hq hlp
      rcases f2 with f2 | ⟨f2, f3⟩
      · exact law_pass_not F P f2 (one_time hO hB hM (k := 0) (by decide)) (one_time hO hB hM (k := 1) (by decide)) (one_time hO hB hM (k := 2) (by decide)) (one_time hO hB hM (k := 3) (by decide))
      · obtain ⟨l3, l4⟩ := loop3_all a0 a1 hO hB hM ⟨m1, rfl⟩ f3
        exact law_pass_seen F P f2 l3 l4

theorem plain3 (c : List Int) (_ : c.length ≤ maxLen) (hc : ∀ x ∈ c, (UC.int .u8).fit x) (d : List Int) (_ : d.length ≤ maxLen) (hd : ∀ x ∈ d, (UC.int .u8).fit x) : laws_FnPasses_need c d = true ∧ laws_FnPasses c d = true :=
  passes_true c d (fun x h => u8_fit (hc x h)) (fun x h => u8_fit (hd x h))

end Go.Proofs.Ytkmcgfjhjfiomaa
