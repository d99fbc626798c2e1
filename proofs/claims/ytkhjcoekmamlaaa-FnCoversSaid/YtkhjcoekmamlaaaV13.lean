/- The plain law of FnCovers, parts 11 to 13: the law's loops, the still orbit, the law, for all arguments. -/
import Derived.Test.YtkhjcoekmamlaaaV9
import Derived.Test.YtkhjcoekmamlaaaV10
import Derived.Test.YtkhjcoekmamlaaaVc
import Derived.Test.YtkhjcoekmamlaaaGC
namespace Go.Proofs.Ytkhjcoekmamlaaa
set_option linter.unusedVariables false
set_option linter.unusedSimpArgs false

theorem getD_map (f : Nat → Bool) {k : Nat} (hk : k < 30) : ((List.range 30).map f).getD k default = f k := by
  rw [List.getD_eq_getElem?_getD]
  simp [hk]

theorem all_true (p : List Int × Bool × Bool × Nat × Bool × Nat × Bool × Nat × Bool × Nat × Nat × Nat × Nat × List Bool × List Bool × List Bool) : laws_FnCovers_loop0v7_ends p (0, List.replicate 30 false) = true ∧ laws_FnCovers_loop0v7 p (0, List.replicate 30 false) = List.replicate 30 true := by
  have h : iter (laws_FnCovers_loop0v7_step p) 31 (0, List.replicate 30 false) = some (List.replicate 30 true) := by kernel_rfl
  obtain ⟨h1, h2⟩ := loopVal_eq h
  exact ⟨h2, h1⟩

theorem rep_get (x : Bool) {k : Nat} (hk : k < 30) : (List.replicate 30 x).getD k default = x := by
  have h : ∀ n : Nat, k < n → (List.replicate n x).getD k default = x := fun n hn => by
    rw [List.getD_eq_getElem?_getD]
    simp [hn]
  exact h 30 hk

theorem loop1_all (a1 : List Int) (w x y z : Nat) {f g : Nat → Bool} (h : ∀ k, k < 30 → f k = true → g k = true) :
    laws_FnCovers_loop1_ends (a1, w, x, y, z, (List.range 30).map f, (List.range 30).map g, (List.range 30).map g) 0 = true ∧ laws_FnCovers_loop1 (a1, w, x, y, z, (List.range 30).map f, (List.range 30).map g, (List.range 30).map g) 0 = .inr () := by
  refine loop_post (step := laws_FnCovers_loop1_step (a1, w, x, y, z, (List.range 30).map f, (List.range 30).map g, (List.range 30).map g)) (fun s => ∃ k : Nat, k ≤ 30 ∧ s = (k : Int)) (fun s => (30 - s).toNat) (fun r => r = .inr ()) ?_ _ ⟨0, by omega, rfl⟩
  rintro s ⟨k, hk, rfl⟩
  rcases Nat.lt_or_ge k 30 with h30 | h30
  · have hd : decide (((k : Nat) : Int) < 30) = true := decide_eq_true (by omega)
    have hd2 : decide (((k : Nat) : Int) < ((30 : Nat) : Int)) = true := decide_eq_true (by omega)
    have hd3 : decide (k < 30) = true := decide_eq_true h30
    have hw : IntKind.wrap .i64 (((k : Nat) : Int) + 1) = ((k + 1 : Nat) : Int) := nat_next h30 (by decide)
    have g1 := getD_map f h30
    have g2 := getD_map g h30
    have hh := h k h30
    refine ⟨.inl ((k + 1 : Nat) : Int), [0, 1, 2, 3], ?_, ⟨k + 1, h30, rfl⟩, by omega⟩
    unfold laws_FnCovers_loop1_step
    cases hf : f k with
    | true =>
      have hgk := hh hf
      simp only [List.length_map, List.length_range, hd, hd2, hd3, nat_ge, Bool.and_true, Int.toNat_natCast, g1, g2, hf, hgk, hw, beq_self_eq_true, Bool.not_true]
      simp only [DT.get]
    | false =>
      simp only [List.length_map, List.length_range, hd, hd2, hd3, nat_ge, Bool.and_true, Int.toNat_natCast, g1, g2, hf, hw, beq_self_eq_true, Bool.not_true]
      simp only [DT.get]
  · have : k = 30 := by omega
    subst this
    exact ⟨.inr (.inr ()), [0], rfl, rfl⟩

theorem valid_ball {b : Ball} (hM : I .f32 b.Mass (some (1 / 2, 4))) (hP : I .f32 b.Radius (some (1 / 8, 1))) (hS : isNum .f32 b.Spin = true) (hT : isNum .f32 b.Start = true) : impl_ValidBall_need b = true ∧ impl_ValidBall b = true := by
  obtain ⟨a1, a2⟩ := aLength_I hM (by decide +kernel)
  obtain ⟨a3, a4⟩ := aLength_I hP (by decide +kernel)
  obtain ⟨f1, f2⟩ := areFinite_eq [b.Spin, b.Start] (by show 2 ≤ 2 ^ 62; decide)
  have f2 : impl_areFinite [b.Spin, b.Start] = true := by rw [f2]; simp only [List.all_cons, List.all_nil, hS, hT, Bool.and_self]
  obtain ⟨l1, l2⟩ := loop_post (step := impl_areLengths_loop0_step ([b.Mass, b.Radius], 2)) (fun s => s = 0 ∨ s = 1 ∨ s = 2) (fun s => (2 - s).toNat) (fun r => r = .inr ()) (by
    rintro s (rfl | rfl | rfl)
    · refine ⟨.inl 1, [], ?_, .inr (.inl rfl), by decide⟩
      have e : List.getD [b.Mass, b.Radius] (Int.toNat 0) default = b.Mass := rfl
      unfold impl_areLengths_loop0_step
      simp only [DT.get, e, a1, a2]
      rfl
    · refine ⟨.inl 2, [], ?_, .inr (.inr rfl), by decide⟩
      have e : List.getD [b.Mass, b.Radius] (Int.toNat 1) default = b.Radius := rfl
      unfold impl_areLengths_loop0_step
      simp only [DT.get, e, a3, a4]
      rfl
    · exact ⟨.inr (.inr ()), [], rfl, rfl⟩) 0 (.inl rfl)
  have l1 : impl_areLengths_loop0_ends ([b.Mass, b.Radius], 2) 0 = true := l1
  have l2 : impl_areLengths_loop0 ([b.Mass, b.Radius], 2) 0 = .inr () := l2
  have k : impl_areLengths_need [b.Mass, b.Radius] = true ∧ impl_areLengths [b.Mass, b.Radius] = true := by
    have e : ((List.length [b.Mass, b.Radius] : Nat) : Int) = 2 := rfl
    unfold impl_areLengths_need impl_areLengths impl_areLengths_tree
    simp only [DT.ok, DT.val, e, l1, l2, isL]
    exact ⟨trivial, trivial⟩
  unfold impl_ValidBall_need impl_ValidBall impl_ValidBall_tree
  simp only [DT.ok, DT.val, k.1, k.2, f1, f2]
  exact ⟨trivial, trivial⟩

/-- The still orbit. -/
theorem still_all (m r : Fin 8) (s j : Fin 17) (k : Fin 8) :
    ∃ E q, impl_StillLong_need ⟨maN m.val, radN r.val, slN k.val, stN j.val⟩ = true ∧ impl_StillLong ⟨maN m.val, radN r.val, slN k.val, stN j.val⟩ = (E, true) ∧ impl_RateOf_need ⟨E, 0, 0, 0, 0, 0⟩ (maN m.val) = true ∧ impl_RateOf ⟨E, 0, 0, 0, 0, 0⟩ (maN m.val) = (q, true) ∧
      laws_r8Gap_need (fconv .f32 q .f64) (fmul .f64 4618760256396512830 (fconv .f32 (slN k.val) .f64)) = true ∧
      flt .f64 (laws_r8Gap (fconv .f32 q .f64) (fmul .f64 4618760256396512830 (fconv .f32 (slN k.val) .f64))) (fmul .f64 4562254508917369340 (fadd .f64 4607182418800017408 (fconv .f32 q .f64))) = true := by
  have hc := c_still m k
  unfold stillB at hc
  cases hl : logO (fconv .f32 (powN m.val k.val) .f64) with
  | none => rw [hl] at hc; simp only [Bool.and_false, Bool.false_eq_true] at hc
  | some v =>
    rw [hl] at hc
    unfold midB endB at hc
    simp only [Bool.and_eq_true, Bool.not_eq_true'] at hc
    obtain ⟨h1, h2, h3, h4, h5, h6, h7, h8, h9, h10, h11, h12, h13, h14⟩ := hc
    obtain ⟨n1, n2⟩ := naturalLog_of hl
    have lg : impl_logarithm_need (powN m.val k.val) = true ∧ impl_logarithm (powN m.val k.val) = v := by
      unfold impl_logarithm_need impl_logarithm impl_logarithm_tree
      simp only [fconvOk_up, n1, n2]
      simp only [DT.ok, DT.val]
      exact ⟨trivial, trivial⟩
    have ln : impl_LogNumber_need (powN m.val k.val) = true ∧ impl_LogNumber (powN m.val k.val) = fconv .f64 v .f32 := by
      unfold impl_LogNumber_need impl_LogNumber impl_LogNumber_tree
      simp only [h3, h4, h5, IsFinite_need, IsFinite_eq, h2, lg.1, lg.2, h6, Bool.not_true]
      simp only [DT.ok, DT.val]
      exact ⟨trivial, trivial⟩
    have hB : BallS ⟨maN m.val, radN r.val, spN 8, stN j.val⟩ := ⟨I.at (d_mass m), I.at (rad_I r), I.at (d_spin 8), I.at (d_start j)⟩
    have hS : I .f32 (slN k.val) (some (0, 1)) := I.at ((by decide +kernel : ∀ k : Fin 8, atI .f32 (slN k.val) 0 1 = true) k)
    have vb : impl_ValidBall_need ⟨maN m.val, radN r.val, slN k.val, stN j.val⟩ = true ∧ impl_ValidBall ⟨maN m.val, radN r.val, slN k.val, stN j.val⟩ = true := by
      obtain ⟨a1, a2⟩ := aLength_I (I.at (d_mass m)) (by decide +kernel)
      obtain ⟨b1, b2⟩ := aLength_I (I.at (rad_I r)) (by decide +kernel)
      exact valid_ball (b := ⟨maN m.val, radN r.val, slN k.val, stN j.val⟩) hB.mass hB.radius hS.1 hB.start.1
    have pw : fdiv .f32 (maN m.val) (fmul .f32 (fmul .f32 1086918619 (slN k.val)) (fmul .f32 1086918619 (slN k.val))) = powN m.val k.val := rfl
    have st : impl_StillLong_need ⟨maN m.val, radN r.val, slN k.val, stN j.val⟩ = true ∧ impl_StillLong ⟨maN m.val, radN r.val, slN k.val, stN j.val⟩ = (impl_ExpNumber (fdiv .f32 (fconv .f64 v .f32) 1077936128), true) := by
      unfold impl_StillLong_need impl_StillLong impl_StillLong_tree
      simp only [vb.1, vb.2, h1, pw, ln.1, ln.2, h7, told_need, told_num h8, Bool.not_true]
      simp only [DT.ok, DT.val]
      exact ⟨trivial, trivial⟩
    generalize impl_ExpNumber (fdiv .f32 (fconv .f64 v .f32) 1077936128) = E at *
    obtain ⟨ar1, ar2⟩ := around_I h9 (I.at (d_mass m))
    have eo : (⟨(orbE E).Long, (orbE E).Round, (orbE E).Tilt, (orbE E).Node, (orbE E).Peri, (orbE E).Phase⟩ : Orbit) = orbE E := rfl
    have em : fdiv .f32 (fofInt .f32 (IntKind.wrap .i64 (1 + (m.val : Int)))) 1073741824 = maN m.val := rfl
    rw [em] at ar1 ar2
    have er : impl_Orbit_rate (orbE E) (fconv .f32 (maN m.val) .f64) = ratN m.val E := rfl
    have nr : impl_narrowed_need (ratN m.val E) = true ∧ impl_narrowed (ratN m.val E) = (fconv .f64 (ratN m.val E) .f32, true) := by
      unfold impl_narrowed_need impl_narrowed impl_narrowed_tree
      simp only [h11, told_need, told_num h12]
      simp only [DT.ok, DT.val]
      exact ⟨trivial, trivial⟩
    have rt : impl_RateOf_need (orbE E) (maN m.val) = true ∧ impl_RateOf (orbE E) (maN m.val) = (fconv .f64 (ratN m.val E) .f32, true) := by
      unfold impl_RateOf_need impl_RateOf impl_RateOf_tree
      simp only [eo, ar1, ar2, fconvOk_up, h10, er, nr.1, nr.2, Bool.not_true]
      simp only [DT.ok, DT.val]
      exact ⟨trivial, trivial⟩
    exact ⟨E, _, st.1, st.2, rt.1, rt.2, h13, h14⟩

theorem long_no {a0 a1 : List Int} (h : laws_r8Long a0 a1 = false) : a0.length ≤ 48 ∧ a1.length ≤ 48 := by
  unfold laws_r8Long laws_r8Long_tree at h
  simp only [DT.val] at h
  by_cases g : ((a0.length : Nat) : Int) > 48
  · rw [decide_eq_true g] at h
    cases h
  · rw [decide_eq_false g] at h
    by_cases g2 : ((a1.length : Nat) : Int) > 48
    · rw [decide_eq_true g2] at h
      cases h
    · omega

theorem u8_fit {x : Int} (h : (UC.int .u8).fit x) : 0 ≤ x ∧ x ≤ 255 := by
  have h : (decide (IntKind.min .u8 ≤ x) && decide (x ≤ IntKind.max .u8)) = true := h
  rw [show IntKind.min .u8 = 0 from rfl, show IntKind.max .u8 = 255 from rfl, Bool.and_eq_true, decide_eq_true_eq, decide_eq_true_eq] at h
  exact h

/-- What the law's parts answer. -/
structure Finds (a0 a1 : List Int) (b : Ball) (o o' : Orbit) (mk : Mark) (v w : Vec) (f g : Nat → Bool) (i k : Int) (x y xf yf E q : Nat) : Prop where
  long : laws_r8Long a0 a1 = false
  b1 : spec_R8Ball_need a0 = true
  b2 : spec_R8Ball a0 = b
  m1 : spec_R8Mark_need a1 = true
  m2 : spec_R8Mark a1 = mk
  p1 : impl_PlaceOf_need b ⟨mk.North, mk.East, 1061158912⟩ 0 = true
  p2 : impl_PlaceOf b ⟨mk.North, mk.East, 1061158912⟩ 0 = (v, true)
  q1 : impl_PlaceOf_need b ⟨mk.North, mk.East, 1077936128⟩ 0 = true
  q2 : impl_PlaceOf b ⟨mk.North, mk.East, 1077936128⟩ 0 = (w, true)
  c1 : impl_CoverOf_need b v 0 1023410176 6 5 = true
  c2 : impl_CoverOf b v 0 1023410176 6 5 = .inr ((List.range 30).map f)
  d1 : impl_CoverOf_need b w 0 1023410176 6 5 = true
  d2 : impl_CoverOf b w 0 1023410176 6 5 = .inr ((List.range 30).map g)
  i1 : laws_r8At_need a1 40 8 = true
  s1 : impl_CoverShared_need b w 0 1023410176 6 5 (IntKind.wrap .i64 (1 + laws_r8At a1 40 8)) = true
  s2 : impl_CoverShared b w 0 1023410176 6 5 (IntKind.wrap .i64 (1 + laws_r8At a1 40 8)) = .inr ((List.range 30).map g)
  fg : ∀ k, k < 30 → f k = true → g k = true
  sh : flt .f32 (covN f) 0 = false ∧ flt .f32 (covN g) (covN f) = false ∧ fgt .f32 (covN g) 1058642330 = false
  o1 : spec_R8Orbit_need a1 = true
  o2 : spec_R8Orbit a1 = o
  j1 : laws_r8At_need a1 41 5 = true
  t1 : impl_DriftsOf_need b o (fdiv .f32 (fofInt .f32 (laws_r8At a1 41 5)) 1115684864) = true
  t2 : impl_DriftsOf b o (fdiv .f32 (fofInt .f32 (laws_r8At a1 41 5)) 1115684864) = (x, y, true)
  u1 : impl_DriftOrbit_need b o (fdiv .f32 (fofInt .f32 (laws_r8At a1 41 5)) 1115684864) 0 = true
  u2 : ∃ z : Orbit, impl_DriftOrbit b o (fdiv .f32 (fofInt .f32 (laws_r8At a1 41 5)) 1115684864) 0 = (⟨z.Long, z.Round, z.Tilt, o.Node, o.Peri, z.Phase⟩, true)
  l1 : impl_LaterOrbit_need o b.Mass 1069547520 = true
  l2 : impl_LaterOrbit o b.Mass 1069547520 = (o', true)
  e1 : impl_DriftOrbit_need b o 0 1069547520 = true
  e2 : impl_DriftOrbit b o 0 1069547520 = (⟨o'.Long, o'.Round, o'.Tilt, o.Node, o.Peri, o'.Phase⟩, true)
  z : feq .f32 (fdiv .f32 (fofInt .f32 (laws_r8At a1 41 5)) 1115684864) 0 = true → fne .f32 x 0 = false ∧ fne .f32 y 0 = false
  g1 : fgt .f64 (fconv .f32 x .f64) 4517329193108106637 = true → flt .f32 o.Tilt 1048576000 = false
  g2 : flt .f64 (fconv .f32 x .f64) 13740701229962882445 = true → fgt .f32 o.Tilt 1048576000 = false
  n1 : fne .f32 o.Node o.Node = false
  n2 : fne .f32 o.Peri o.Peri = false
  n3 : fne .f32 o'.Phase o'.Phase = false
  k1 : laws_r8At_need a1 42 8 = true
  y1 : impl_StillLong_need ⟨b.Mass, b.Radius, fdiv .f32 (fofInt .f32 (IntKind.wrap .i64 (1 + laws_r8At a1 42 8))) 1107296256, b.Start⟩ = true
  y2 : impl_StillLong ⟨b.Mass, b.Radius, fdiv .f32 (fofInt .f32 (IntKind.wrap .i64 (1 + laws_r8At a1 42 8))) 1107296256, b.Start⟩ = (E, true)
  y3 : impl_RateOf_need ⟨E, 0, 0, 0, 0, 0⟩ b.Mass = true
  y4 : impl_RateOf ⟨E, 0, 0, 0, 0, 0⟩ b.Mass = (q, true)
  y5 : laws_r8Gap_need (fconv .f32 q .f64) (fmul .f64 4618760256396512830 (fconv .f32 (fdiv .f32 (fofInt .f32 (IntKind.wrap .i64 (1 + laws_r8At a1 42 8))) 1107296256) .f64)) = true
  y6 : flt .f64 (laws_r8Gap (fconv .f32 q .f64) (fmul .f64 4618760256396512830 (fconv .f32 (fdiv .f32 (fofInt .f32 (IntKind.wrap .i64 (1 + laws_r8At a1 42 8))) 1107296256) .f64))) (fmul .f64 4562254508917369340 (fadd .f64 4607182418800017408 (fconv .f32 q .f64))) = true

theorem law_of {a0 a1 : List Int} {b : Ball} {o o' : Orbit} {mk : Mark} {v w : Vec} {f g : Nat → Bool} {i k : Int} {x y xf yf E q : Nat} (F : Finds a0 a1 b o o' mk v w f g i k x y xf yf E q) : (laws_FnCovers_tree a0 a1).get = some true := by
  have eb : (⟨b.Mass, b.Radius, b.Spin, b.Start⟩ : Ball) = b := rfl
  have eo : (⟨o.Long, o.Round, o.Tilt, o.Node, o.Peri, o.Phase⟩ : Orbit) = o := rfl
  have ev : (⟨v.X, v.Y, v.Z⟩ : Vec) = v := rfl
  have ew : (⟨w.X, w.Y, w.Z⟩ : Vec) = w := rfl
  obtain ⟨f1, f2⟩ := share_eq (l := (List.range 30).map f) (f := f) (by simp) (fun k hk => getD_map f hk)
  obtain ⟨g1, g2⟩ := share_eq (l := (List.range 30).map g) (f := g) (by simp) (fun k hk => getD_map g hk)
  obtain ⟨h1, h2⟩ := share_eq (l := List.replicate 30 false) (f := fun _ => false) (by simp) (fun k hk => rep_get false hk)
  obtain ⟨t1, t2⟩ := share_eq (l := List.replicate 30 true) (f := fun _ => true) (by simp) (fun k hk => rep_get true hk)
  have hr : List.replicate (Int.toNat 30) false = List.replicate 30 false := rfl
  have hn : covN (fun _ => false) = 0 := by unfold covN; rw [sumN_none]; exact c_none
  have hw : covN (fun _ => true) = 1065353216 := c_whole
  rw [hn] at h2
  rw [hw] at t2
  have hnz : fne .f32 0 0 = false := by decide +kernel
  have hww : fne .f32 1065353216 1065353216 = false := by decide +kernel
  have hlen : (((30 : Nat) : Int) != 30) = false := rfl
  obtain ⟨r1, r2⟩ := loop1_all a1 b.Mass b.Radius b.Spin b.Start F.fg
  obtain ⟨z, hz⟩ := F.u2
  unfold laws_FnCovers_tree
  simp only [F.long, F.b1, F.b2, F.m1, F.m2, eb, F.p1, F.p2, F.q1, F.q2, ev, ew, F.c1, F.c2, F.d1, F.d2, isL, rightD, F.i1, F.s1, F.s2, hr, f1, f2, g1, g2, h1, h2, all_true, t1, t2, Bool.not_true, List.length_map, List.length_range, hlen, hnz, hww, F.sh.1, F.sh.2.1, F.sh.2.2, r1, r2, F.o1, F.o2, eo, F.j1, F.t1, F.t2, F.u1, hz, F.l1, F.l2, F.e1, F.e2, fconvOk_up, F.n1, F.n2, F.n3, F.k1, F.y1, F.y2, F.y3, F.y4, F.y5, F.y6]
  cases e1 : feq .f32 (fdiv .f32 (fofInt .f32 (laws_r8At a1 41 5)) 1115684864) 0 <;> cases e2 : fgt .f64 (fconv .f32 x .f64) 4517329193108106637 <;> cases e3 : flt .f64 (fconv .f32 x .f64) 13740701229962882445
  · simp only [DT.get]
  · simp only [DT.get, F.g2 e3]
  · simp only [DT.get, F.g1 e2]
  · simp only [DT.get, F.g1 e2, F.g2 e3]
  · simp only [DT.get, (F.z e1).1, (F.z e1).2]
  · simp only [DT.get, (F.z e1).1, (F.z e1).2, F.g2 e3]
  · simp only [DT.get, (F.z e1).1, (F.z e1).2, F.g1 e2]
  · simp only [DT.get, (F.z e1).1, (F.z e1).2, F.g1 e2, F.g2 e3]

theorem k_tq : I .f32 1048576000 (some (1 / 4, 1 / 4)) := I.at (by decide +kernel)
theorem k_eps : I .f64 4517329193108106637 (some (0, 1)) := I.at (by decide +kernel)
theorem k_meps : I .f64 13740701229962882445 (some (-1, 0)) := I.at (by decide +kernel)
theorem c_tilt : ∀ k : Fin 9, ((decide (k.val < 4) || flt .f32 (tiN k.val) 1048576000 == false) && (decide (4 < k.val) || fgt .f32 (tiN k.val) 1048576000 == false)) = true := by decide +kernel
theorem c_high : isNum .f32 1061158912 = true ∧ isNum .f32 1077936128 = true ∧ isNum .f32 1023410176 = true ∧ isNum .f32 1069547520 = true := by decide +kernel

theorem num_fne {x : Nat} (h : isNum .f32 x = true) : fne .f32 x x = false := by rw [fne_self, num_nan h]
theorem nought_fne {x : Nat} (h : Nought x) : fne .f32 x 0 = false := by rcases h with rfl | rfl <;> decide +kernel

theorem covers_true (a0 a1 : List Int) (h0 : ∀ x ∈ a0, 0 ≤ x ∧ x ≤ 255) (h1 : ∀ x ∈ a1, 0 ≤ x ∧ x ≤ 255) : laws_FnCovers_need a0 a1 = true ∧ laws_FnCovers a0 a1 = true := by
  suffices hg : (laws_FnCovers_tree a0 a1).get = some true from DT.of_get hg
  cases hlong : laws_r8Long a0 a1 with
  | true =>
    unfold laws_FnCovers_tree
    simp only [hlong]
    rfl
  | false =>
    obtain ⟨n0, n1⟩ := long_no hlong
    have hb0 : Bytes a0 := ⟨by omega, h0⟩
    have hb1 : Bytes a1 := ⟨by omega, h1⟩
    obtain ⟨b1, m, r, s, j, b2⟩ := ball_eq2 hb0
    obtain ⟨o1, hO, kt, ki, kj, ht, hi, hj⟩ := orbit_eq2 hb1
    obtain ⟨m1, n, e, hn, he⟩ := mark_eq2 hb1
    have hB := balS m r s j
    have hρ := ρ_bd r
    obtain ⟨-, l1, l2⟩ := long_of r
    obtain ⟨ch1, ch2, ch3, ch4⟩ := c_high
    have bd1 : Bd (ρN r.val + 3 / 4) 4 := by unfold Bd; constructor <;> grind
    have bd2 : Bd (ρN r.val + 3) 4 := by unfold Bd; constructor <;> grind
    obtain ⟨p1, p2⟩ := place_ok m r s j n e ch1 l1 bd1
    obtain ⟨q1, q2⟩ := place_ok m r s j n e ch2 l2 bd2
    have R1 := rises m r s j n e l1 (by grind) (by grind)
    have R2 := rises m r s j n e l2 (by grind) (by grind)
    have F1 := (at_R m r s j n e l1 bd1).2.fin
    have F2 := (at_R m r s j n e l2 bd2).2.fin
    have hL := lim_R.1
    obtain ⟨c1, c2⟩ := cover_eq R1 hL hB.valid F1 ch3
    obtain ⟨d1, d2⟩ := cover_eq R2 hL hB.valid F2 ch3
    obtain ⟨i1, i2, i3⟩ := at_eq hb1 40 8 (by decide) (by decide) (by decide)
    obtain ⟨j1, j2, j3⟩ := at_eq hb1 41 5 (by decide) (by decide) (by decide)
    obtain ⟨k1, k2, k3⟩ := at_eq hb1 42 8 (by decide) (by decide) (by decide)
    have hw : IntKind.wrap .i64 (1 + laws_r8At a1 40 8) = 1 + laws_r8At a1 40 8 := wrap_small (by omega) (by omega)
    obtain ⟨s1, s2⟩ := shared_eq R2 hL hB.valid F2 ch3 (c := 1 + laws_r8At a1 40 8) (by omega) (by omega)
    rw [← hw] at s1 s2
    have fg : ∀ k, k < 30 → sawF m.val r.val s.val j.val n.val e.val 1061158912 k = true → sawF m.val r.val s.val j.val n.val e.val 1077936128 k = true := fun k hk h => low_high_all m r s j n e hk h
    have sh := shares fg (fun k hk h => anti_all m r s j n e hk h)
    -- drifts
    obtain ⟨k, hk⟩ := fin_of (n := 5) j2 j3
    have hu := c_bu k
    rw [Bool.and_eq_true] at hu
    have hu1 : I .f32 (buN k.val) (some (0, 1 / 16)) := I.at hu.1
    have hu2 : Nought (buN k.val) ∨ I .f32 (buN k.val) (some (1 / 65, 1 / 16)) := by
      rcases Nat.eq_zero_or_pos k.val with h | h
      · left
        have := hu.2
        rw [h] at this ⊢
        exact .inl (by simpa using this)
      · right
        have g := hu.2
        obtain ⟨kk, hkk⟩ : ∃ kk, k.val = kk + 1 := ⟨k.val - 1, by omega⟩
        rw [hkk] at g ⊢
        exact I.at g
    have ub : fdiv .f32 (fofInt .f32 (laws_r8At a1 41 5)) 1115684864 = buN k.val := by rw [hk]; rfl
    have hz0 : Nought 0 := .inl rfl
    have hz1 : I .f32 0 (some (0, 1 / 16)) := I.at (by decide +kernel)
    obtain ⟨t1, x, y, t2, D⟩ := drifts_I hO hB hu1 hu2 ht
    obtain ⟨t1', x', y', t2', D'⟩ := drifts_I hO hB hz1 (.inl hz0) ht
    have T0 : I .f32 0 (some (0, 2)) := I.at (by decide +kernel)
    have T1 : I .f32 1069547520 (some (0, 2)) := I.at (by decide +kernel)
    have R0 : R .f32 0 = 0 := hz0.R.2
    obtain ⟨u1, z, -, -, u2⟩ := driftOrbit_eq hO hB ⟨t1, t2⟩ D (.inr R0) T0 hi hj
    obtain ⟨v1, o', v2, v3, v4⟩ := driftOrbit_eq hO hB ⟨t1', t2'⟩ D' (.inl R0) T1 hi hj
    obtain ⟨w1, -⟩ := later_I hO hB.mass T1
    -- the still orbit
    obtain ⟨k', hk'⟩ := fin_of (n := 8) k2 k3
    obtain ⟨E, q, y1, y2, y3, y4, y5, y6⟩ := still_all m r s j k'
    have us : fdiv .f32 (fofInt .f32 (IntKind.wrap .i64 (1 + laws_r8At a1 42 8))) 1107296256 = slN k'.val := by rw [hk']; rfl
    have ct := c_tilt kt
    rw [Bool.and_eq_true, Bool.or_eq_true, Bool.or_eq_true, decide_eq_true_eq, decide_eq_true_eq, beq_iff_eq, beq_iff_eq, ← ht] at ct
    have xu := D.xI.up
    have xR := up_R D.xI.1
    generalize hball : balN m.val r.val s.val j.val = b at *
    have hbm : b.Mass = maN m.val := by rw [← hball]; rfl
    have hbr : b.Radius = radN r.val := by rw [← hball]; rfl
    have hbs : b.Start = stN j.val := by rw [← hball]; rfl
    exact law_of (f := sawF m.val r.val s.val j.val n.val e.val 1061158912) (g := sawF m.val r.val s.val j.val n.val e.val 1077936128) (b := b) (o := spec_R8Orbit a1) (o' := o') (mk := spec_R8Mark a1) (i := 0) (k := 0) (xf := 0) (yf := 0)
      { long := hlong, b1 := b1, b2 := b2, m1 := m1, m2 := rfl
        p1 := by rw [hn, he]; exact p1
        p2 := by rw [hn, he]; exact p2
        q1 := by rw [hn, he]; exact q1
        q2 := by rw [hn, he]; exact q2
        c1 := c1, c2 := by rw [c2, ← hball]; rfl
        d1 := d1, d2 := by rw [d2, ← hball]; rfl
        i1 := i1, s1 := s1, s2 := by rw [s2, ← hball]; rfl
        fg := fg, sh := sh, o1 := o1, o2 := rfl, j1 := j1
        t1 := by rw [ub]; exact t1
        t2 := by rw [ub]; exact t2
        u1 := by rw [ub]; exact u1
        u2 := ⟨z, by rw [ub]; exact u2⟩
        l1 := w1, l2 := v2, e1 := v1, e2 := v4
        z := fun h => by
          rw [ub, feq_R hu1.1 hz0.R.1, decide_eq_true_eq, R0] at h
          obtain ⟨a, c⟩ := D.none h
          exact ⟨nought_fne a, nought_fne c⟩
        g1 := fun h => by
          rcases ct.1 with c | c
          · have := D.neg c
            rw [fgt_R xu.1 k_eps.1, decide_eq_true_eq, xR.2] at h
            have := k_eps.2.1
            grind
          · exact c
        g2 := fun h => by
          rcases ct.2 with c | c
          · have := D.pos c
            rw [flt_R xu.1 k_meps.1, decide_eq_true_eq, xR.2] at h
            have := k_meps.2.2
            grind
          · exact c
        n1 := num_fne hO.node.1, n2 := num_fne hO.peri.1, n3 := num_fne v3.phase.1, k1 := k1
        y1 := by rw [us, hbm, hbr, hbs]; exact y1
        y2 := by rw [us, hbm, hbr, hbs]; exact y2
        y3 := by rw [hbm]; exact y3
        y4 := by rw [hbm]; exact y4
        y5 := by rw [us]; exact y5
        y6 := by rw [us]; exact y6 }

theorem plain4 (c : List Int) (_ : c.length ≤ maxLen) (hc : ∀ x ∈ c, (UC.int .u8).fit x) (d : List Int) (_ : d.length ≤ maxLen) (hd : ∀ x ∈ d, (UC.int .u8).fit x) : laws_FnCovers_need c d = true ∧ laws_FnCovers c d = true :=
  covers_true c d (fun x h => u8_fit (hc x h)) (fun x h => u8_fit (hd x h))

end Go.Proofs.Ytkhjcoekmamlaaa
