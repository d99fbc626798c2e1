/- The plain law of FnLater, parts 7 and 8: periods, rates, the nearest and the farthest place, sizes; the law, for all arguments. -/
import Derived.Test.YtomdjbkididieaaL6
import Derived.Test.YtomdjbkididieaaGL
namespace Go.Proofs.Ytomdjbkididieaa
set_option linter.unusedVariables false
set_option linter.unusedSimpArgs false

structure Per (k m : Nat) : Prop where
  f1 : fconvOk .f64 (fdiv .f64 4618760256179416344 (raN k m)) .f32 = true
  n1 : isNum .f32 (peN k m) = true
  f2 : fconvOk .f64 (raN k m) .f32 = true
  n2 : isNum .f32 (rtN k m) = true
  x1 : I .f64 (xN k m (peN k m)) (some (999999 / 1000000, 1000001 / 1000000))
  x2 : I .f64 (xN k m (fdiv .f32 (peN k m) 1073741824)) (some (499999 / 1000000, 500001 / 1000000))
  n3 : isNum .f32 (fdiv .f32 (peN k m) 1073741824) = true
  x3 : I .f64 (xN k m (fdiv .f32 (fneg .f32 (peN k m)) 1073741824)) (some (-500001 / 1000000, -499999 / 1000000))
  n4 : isNum .f32 (fdiv .f32 (fneg .f32 (peN k m)) 1073741824) = true
  g : fgt .f64 (laws_b10Gap (fmul .f64 (fconv .f32 (peN k m) .f64) (fconv .f32 (rtN k m) .f64)) 4618760256396512830) 4562254508917369340 = false
theorem per_ok (k : Fin 15) (m : Fin 8) : Per k.val m.val := by
  have h := per_all k m
  unfold perB at h
  simp only [Bool.and_eq_true, Bool.not_eq_true'] at h
  obtain ⟨⟨h1, h2, h3, h4⟩, ⟨h5, h6, h7⟩, ⟨h8, h9⟩, h10⟩ := h
  exact ⟨h1, h2, h3, h4, I.at h5, I.at h6, h7, I.at h8, h9, h10⟩

theorem narrowed_of {x : Nat} (h1 : fconvOk .f64 x .f32 = true) (h2 : isNum .f32 (fconv .f64 x .f32) = true) : impl_narrowed_need x = true ∧ impl_narrowed x = (fconv .f64 x .f32, true) := by
  unfold impl_narrowed_need impl_narrowed impl_narrowed_tree
  simp only [DT.ok, DT.val, h1, told_need, told_num h2]
  exact ⟨trivial, trivial⟩

theorem period_eq {o : Orbit} {k : Fin 15} {m : Fin 8} (h : OrbE o) (hk : o.Long = loN k.val) : impl_PeriodOf_need o (msN m.val) = true ∧ impl_PeriodOf o (msN m.val) = (peN k.val m.val, true) := by
  have P := per_ok k m
  have hm : I .f32 (msN m.val) (some (1 / 2, 4)) := I.at (e_mass m)
  obtain ⟨a1, a2⟩ := around_I h.ok hm
  obtain ⟨r1, -⟩ := rate_E h hm.up
  have hlt : flt .f32 o.Long 0 = false := I.not_lt h.long k_zero32 (by decide +kernel)
  have er : impl_Orbit_rate o (fconv .f32 (msN m.val) .f64) = raN k.val m.val := by rw [rate_of, hk]; rfl
  obtain ⟨n1, n2⟩ := narrowed_of P.f1 P.n1
  have eo : (⟨o.Long, o.Round, o.Tilt, o.Node, o.Peri, o.Phase⟩ : Orbit) = o := rfl
  unfold impl_PeriodOf_need impl_PeriodOf impl_PeriodOf_tree
  simp only [eo, a1, a2, hlt, fconvOk_up, r1, er, n1, n2, Bool.not_true]
  simp only [DT.ok, DT.val]
  exact ⟨trivial, rfl⟩

theorem rate_eq {o : Orbit} {k : Fin 15} {m : Fin 8} (h : OrbE o) (hk : o.Long = loN k.val) : impl_RateOf_need o (msN m.val) = true ∧ impl_RateOf o (msN m.val) = (rtN k.val m.val, true) := by
  have P := per_ok k m
  have hm : I .f32 (msN m.val) (some (1 / 2, 4)) := I.at (e_mass m)
  obtain ⟨a1, a2⟩ := around_I h.ok hm
  obtain ⟨r1, -⟩ := rate_E h hm.up
  have er : impl_Orbit_rate o (fconv .f32 (msN m.val) .f64) = raN k.val m.val := by rw [rate_of, hk]; rfl
  obtain ⟨n1, n2⟩ := narrowed_of P.f2 P.n2
  have eo : (⟨o.Long, o.Round, o.Tilt, o.Node, o.Peri, o.Phase⟩ : Orbit) = o := rfl
  unfold impl_RateOf_need impl_RateOf impl_RateOf_tree
  simp only [eo, a1, a2, fconvOk_up, r1, er, n1, n2, Bool.not_true]
  simp only [DT.ok, DT.val]
  exact ⟨trivial, rfl⟩

/-- What has no period. -/
theorem c_branch : validO ⟨3212836864, 1073741824, 0, 0, 0, 0⟩ = true ∧ flt .f32 3212836864 0 = true := by decide +kernel
theorem branch_eq (m : Fin 8) : impl_PeriodOf_need ⟨3212836864, 1073741824, 0, 0, 0, 0⟩ (msN m.val) = true ∧ impl_PeriodOf ⟨3212836864, 1073741824, 0, 0, 0, 0⟩ (msN m.val) = (0, false) := by
  have hm : I .f32 (msN m.val) (some (1 / 2, 4)) := I.at (e_mass m)
  obtain ⟨a1, a2⟩ := around_I c_branch.1 hm
  unfold impl_PeriodOf_need impl_PeriodOf impl_PeriodOf_tree
  simp only [a1, a2, c_branch.2, Bool.not_true]
  simp only [DT.ok, DT.val]
  exact ⟨trivial, trivial⟩

theorem near_eq {o : Orbit} {k : Fin 15} {j : Fin 7} (h : OrbE o) (hk : o.Long = loN k.val) (hj : o.Round = roN j.val) :
    impl_NearOf_need o = true ∧ impl_NearOf o = (neN k.val j.val, true) ∧ impl_FarOf_need o = true ∧ impl_FarOf o = (faN k.val j.val, true) ∧ isNum .f32 (neN k.val j.val) = true ∧ R .f32 (neN k.val j.val) = R .f32 o.Long * (1 - R .f32 o.Round) ∧ isNum .f32 (faN k.val j.val) = true ∧ R .f32 (faN k.val j.val) = R .f32 o.Long * (1 + R .f32 o.Round) := by
  have c := c_nf k j
  unfold nfB at c
  simp only [Bool.and_eq_true, decide_eq_true_eq] at c
  obtain ⟨⟨c1, c2, c3⟩, c4, c5, c6⟩ := c
  obtain ⟨v1, v2⟩ := ValidOrbit_eq o
  rw [h.ok] at v2
  have hlt : flt .f32 o.Long 0 = false := I.not_lt h.long k_zero32 (by decide +kernel)
  rw [← hk, ← hj] at c1 c3 c4 c6
  have e1 : fconv .f64 (fmul .f64 (fconv .f32 o.Long .f64) (fsub .f64 4607182418800017408 (fconv .f32 o.Round .f64))) .f32 = neN k.val j.val := by rw [hk, hj]; rfl
  have e2 : fconv .f64 (fmul .f64 (fconv .f32 o.Long .f64) (fadd .f64 4607182418800017408 (fconv .f32 o.Round .f64))) .f32 = faN k.val j.val := by rw [hk, hj]; rfl
  obtain ⟨n1, n2⟩ := narrowed_of c1 (by rw [e1]; exact c2)
  obtain ⟨n3, n4⟩ := narrowed_of c4 (by rw [e2]; exact c5)
  rw [e1] at n2
  rw [e2] at n4
  have eo : (⟨o.Long, o.Round, o.Tilt, o.Node, o.Peri, o.Phase⟩ : Orbit) = o := rfl
  have A : impl_NearOf_need o = true ∧ impl_NearOf o = (neN k.val j.val, true) := by
    unfold impl_NearOf_need impl_NearOf impl_NearOf_tree
    simp only [eo, v1, v2, fconvOk_up, n1, n2, Bool.not_true]
    simp only [DT.ok, DT.val]
    exact ⟨trivial, trivial⟩
  have B : impl_FarOf_need o = true ∧ impl_FarOf o = (faN k.val j.val, true) := by
    unfold impl_FarOf_need impl_FarOf impl_FarOf_tree
    simp only [eo, v1, v2, hlt, fconvOk_up, n3, n4, Bool.not_true]
    simp only [DT.ok, DT.val]
    exact ⟨trivial, trivial⟩
  exact ⟨A.1, A.2, B.1, B.2, c2, c3, c5, c6⟩

theorem specNarrow_eq {y : Nat} (h : fconvOk .f64 y .f32 = true) : spec_l01Narrow_need y = true ∧ spec_l01Narrow y = fconv .f64 y .f32 := by
  unfold spec_l01Narrow_need spec_l01Narrow spec_l01Narrow_tree
  simp only [DT.ok, DT.val, h]
  exact ⟨trivial, trivial⟩
theorem specSqrt_of {w z y : Nat} (s : math_Sqrt (fconv .f32 w .f64) = z) (n1 : spec_l01Narrow_need z = true) (n2 : spec_l01Narrow z = y) : spec_l01Sqrt_need w = true ∧ spec_l01Sqrt w = y := by
  have g : (spec_l01Sqrt_tree w).get = some y := by
    unfold spec_l01Sqrt_tree
    simp only [s, n1, n2, fconvOk_up]
    simp only [DT.get]
  exact DT.of_get g
theorem specSqrt_eq (w : Nat) : spec_l01Sqrt_need w = true ∧ spec_l01Sqrt w = rootN w :=
  specSqrt_of (w := w) rfl (specNarrow_eq (root_fits w)).1 (specNarrow_eq (root_fits w)).2
theorem specInner_eq (v : Vec) : spec_l01VInner (⟨v.X, v.Y, v.Z⟩ : Vec) (⟨v.X, v.Y, v.Z⟩ : Vec) = innerN v.X v.Y v.Z := rfl
theorem specLong_of {v : Vec} {w y : Nat} (s : spec_l01VInner (⟨v.X, v.Y, v.Z⟩ : Vec) (⟨v.X, v.Y, v.Z⟩ : Vec) = w) (n1 : spec_l01Sqrt_need w = true) (n2 : spec_l01Sqrt w = y) : spec_l01VLong_need v = true ∧ spec_l01VLong v = y := by
  have g : (spec_l01VLong_tree v).get = some y := by
    unfold spec_l01VLong_tree
    simp only [s, n1, n2]
    simp only [DT.get]
  exact DT.of_get g
theorem specSize_of {v : Vec} {y : Nat} (n1 : spec_l01VLong_need (⟨v.X, v.Y, v.Z⟩ : Vec) = true) (n2 : spec_l01VLong (⟨v.X, v.Y, v.Z⟩ : Vec) = y) : spec_SizeOfVector_need v = true ∧ spec_SizeOfVector v = y := by
  have g : (spec_SizeOfVector_tree v).get = some y := by
    unfold spec_SizeOfVector_tree
    simp only [n1, n2]
    simp only [DT.get]
  exact DT.of_get g
theorem specSize_eq (v : Vec) : spec_SizeOfVector_need v = true ∧ spec_SizeOfVector v = rootN (innerN v.X v.Y v.Z) := by
  obtain ⟨n1, n2⟩ := specSqrt_eq (innerN v.X v.Y v.Z)
  obtain ⟨l1, l2⟩ := specLong_of (v := v) (specInner_eq v) n1 n2
  exact specSize_of l1 l2

theorem gap10_le {a b : Nat} {M : Rat} (ha : isNum .f64 a = true) (hb : isNum .f64 b = true) (h : Nr (R .f64 a) (R .f64 b) M) (hM : M ≤ 1) : isNum .f64 (laws_b10Gap a b) = true ∧ R .f64 (laws_b10Gap a b) ≤ M + 1 / 1000000000 := by
  have hT := T_le
  have hG := Gr_ge
  have h' := h.symm
  have f1 := fsub_fl ha hb (by unfold Nr Bd at *; constructor <;> grind)
  have f2 := fsub_fl hb ha (by unfold Nr Bd at *; constructor <;> grind)
  have e1 := f1.err64 (M := 1) (Bd.mono h hM)
  have e2 := f2.err64 (M := 1) (Bd.mono h' hM)
  unfold laws_b10Gap laws_b10Gap_tree
  cases flt .f64 a b <;> simp only [DT.val]
  · exact ⟨f1.1, by unfold Nr at *; grind⟩
  · exact ⟨f2.1, by unfold Nr at *; grind⟩

theorem k_thou : isNum .f64 4562254508917369340 = true ∧ 9 / 10000 ≤ R .f64 4562254508917369340 ∧ R .f64 4562254508917369340 ≤ 11 / 10000 := by decide +kernel

/-- The law's loop: every place lies between. -/
theorem loop_all {a1 : List Int} {m ne fa a b c d e f n : Nat} {g : Nat → Vec} (hn : n ≤ 12) (h1 : ∀ k, k < n → flt .f64 (fconv .f32 (rootN (innerN (g k).X (g k).Y (g k).Z)) .f64) (fsub .f64 (fconv .f32 ne .f64) 4562254508917369340) = false)
    (h2 : ∀ k, k < n → fgt .f64 (fconv .f32 (rootN (innerN (g k).X (g k).Y (g k).Z)) .f64) (fadd .f64 (fconv .f32 fa .f64) 4562254508917369340) = false) :
    laws_FnLater_loop0_ends (a1, m, ne, fa, (n : Int), a, b, c, d, e, f, (List.range n).map g) 0 = true ∧ laws_FnLater_loop0 (a1, m, ne, fa, (n : Int), a, b, c, d, e, f, (List.range n).map g) 0 = .inr () := by
  have gd : ∀ k, k < n → ((List.range n).map g).getD k default = g k := fun k hk => by
    rw [List.getD_eq_getElem?_getD]
    simp [hk]
  refine loop_post (step := laws_FnLater_loop0_step (a1, m, ne, fa, (n : Int), a, b, c, d, e, f, (List.range n).map g)) (fun s => ∃ k : Nat, k ≤ n ∧ s = (k : Int)) (fun s => ((n : Int) - s).toNat) (fun r => r = .inr ()) ?_ 0 ⟨0, by omega, rfl⟩
  rintro s ⟨k, hk, rfl⟩
  rcases Nat.lt_or_ge k n with hlt | hge
  · have hd3 : decide (k < n) = true := decide_eq_true hlt
    have ek : (⟨(g k).X, (g k).Y, (g k).Z⟩ : Vec) = g k := rfl
    obtain ⟨s1, s2⟩ := specSize_eq (g k)
    have b1 := h1 k hlt
    have b2 := h2 k hlt
    refine ⟨.inl ((k + 1 : Nat) : Int), [0, 1], ?_, ⟨k + 1, hlt, rfl⟩, by show ((n : Int) - ((k + 1 : Nat) : Int)).toNat < ((n : Int) - ((k : Nat) : Int)).toNat; omega⟩
    unfold laws_FnLater_loop0_step
    simp only [nat_dec hlt, List.length_map, List.length_range, nat_ge, Bool.and_true, Int.toNat_natCast, hd3, gd k hlt, ek, s1, s2, fconvOk_up, b1, b2, nat_next hlt (show n ≤ 2 ^ 62 by omega)]
    simp only [DT.get]
  · have : k = n := by omega
    subst this
    refine ⟨.inr (.inr ()), [0], ?_, rfl⟩
    unfold laws_FnLater_loop0_step
    simp only [nat_not]
    simp only [DT.get]

/-- What the law's parts answer. -/
structure LFinds (a0 a1 : List Int) (o p bk hf hm : Orbit) (m per rt ne fa n bst ta tc tt : Nat) (g : Nat → Vec) : Prop where
  long : laws_b10Long a0 a1 = false
  e1 : spec_B10Ellipse_need a0 = true
  e2 : spec_B10Ellipse a0 = o
  m1 : spec_B10Mass_need a1 = true
  m2 : spec_B10Mass a1 = m
  p1 : impl_PeriodOf_need o m = true
  p2 : impl_PeriodOf o m = (per, true)
  r1 : impl_RateOf_need o m = true
  r2 : impl_RateOf o m = (rt, true)
  b1 : impl_LaterOrbit_need o m per = true
  b2 : impl_LaterOrbit o m per = (bk, true)
  h1 : impl_LaterOrbit_need o m (fdiv .f32 per 1073741824) = true
  h2 : impl_LaterOrbit o m (fdiv .f32 per 1073741824) = (hf, true)
  q1 : impl_LaterOrbit_need hf m (fdiv .f32 (fneg .f32 per) 1073741824) = true
  q2 : impl_LaterOrbit hf m (fdiv .f32 (fneg .f32 per) 1073741824) = (hm, true)
  u1 : laws_b10Turns_need bk.Phase o.Phase = true
  u2 : fgt .f64 (laws_b10Turns bk.Phase o.Phase) 4562254508917369340 = false
  u3 : laws_b10Turns_need hm.Phase o.Phase = true
  u4 : fgt .f64 (laws_b10Turns hm.Phase o.Phase) 4562254508917369340 = false
  u5 : laws_b10Turns_need hf.Phase o.Phase = true
  u6 : fgt .f64 (laws_b10Gap (laws_b10Turns hf.Phase o.Phase) 4602678819172646912) 4562254508917369340 = false
  g1 : fgt .f64 (laws_b10Gap (fmul .f64 (fconv .f32 per .f64) (fconv .f32 rt .f64)) 4618760256396512830) 4562254508917369340 = false
  l1 : fne .f32 bk.Long o.Long = false
  l2 : fne .f32 bk.Tilt o.Tilt = false
  n1 : impl_NearOf_need o = true
  n2 : impl_NearOf o = (ne, true)
  f1 : impl_FarOf_need o = true
  f2 : impl_FarOf o = (fa, true)
  i1 : laws_b10At_need a1 3 12 = true
  i2 : IntKind.wrap .i64 (1 + laws_b10At a1 3 12) = (n : Int)
  x1 : impl_PlacesOf_need o m (n : Int) = true
  x2 : impl_PlacesOf o m (n : Int) = .inr ((List.range n).map g)
  y1 : impl_NearestOrbits_need o o m (n : Int) = true
  y2 : impl_NearestOrbits o o m (n : Int) = (0, 0, bst, true)
  y3 : fne .f32 bst 0 = false
  z1 : laws_FnLater_loop0_ends (a1, m, ne, fa, (n : Int), o.Long, o.Round, o.Tilt, o.Node, o.Peri, o.Phase, (List.range n).map g) 0 = true
  z2 : laws_FnLater_loop0 (a1, m, ne, fa, (n : Int), o.Long, o.Round, o.Tilt, o.Node, o.Peri, o.Phase, (List.range n).map g) 0 = .inr ()
  d1 : spec_B10Ellipse_need a1 = true
  d2 : spec_B10Ellipse a1 = p
  t1 : impl_TiltBetween_need o p = true
  t2 : impl_TiltBetween o p = (ta, true)
  t3 : impl_TiltBetween_need p o = true
  t4 : impl_TiltBetween p o = (ta, true)
  t5 : impl_TiltBetween_need o o = true
  t6 : impl_TiltBetween o o = (tc, true)
  v1 : impl_TrueTurn_need o = true
  v2 : impl_TrueTurn o = (tt, true)
  w1 : impl_PeriodOf_need ⟨3212836864, 1073741824, 0, 0, 0, 0⟩ m = true
  w2 : impl_PeriodOf ⟨3212836864, 1073741824, 0, 0, 0, 0⟩ m = (0, false)
  k1 : flt .f64 (laws_b10Gap (fconv .f32 ta .f64) (fconv .f32 ta .f64)) 4562254508917369340 = true
  k2 : fge .f32 ta 0 = true
  k3 : fle .f32 ta 1056964608 = true
  k4 : flt .f32 tc 981668463 = true
  k5 : fgt .f32 tt 3204465033 = true
  k6 : flt .f32 tt 1056981385 = true

theorem law_of {a0 a1 : List Int} {o p bk hf hm : Orbit} {m per rt ne fa n bst ta tc tt : Nat} {g : Nat → Vec} (F : LFinds a0 a1 o p bk hf hm m per rt ne fa n bst ta tc tt g) : (laws_FnLater_tree a0 a1).get = some true := by
  have eo : (⟨o.Long, o.Round, o.Tilt, o.Node, o.Peri, o.Phase⟩ : Orbit) = o := rfl
  have ep : (⟨p.Long, p.Round, p.Tilt, p.Node, p.Peri, p.Phase⟩ : Orbit) = p := rfl
  have eh : (⟨hf.Long, hf.Round, hf.Tilt, hf.Node, hf.Peri, hf.Phase⟩ : Orbit) = hf := rfl
  have c0 : (((n : Nat) : Int) != ((n : Nat) : Int)) = false := by simp
  have c1 : ((0 : Int) != 0) = false := rfl
  unfold laws_FnLater_tree
  simp only [F.long, F.e1, F.e2, F.m1, F.m2, eo, F.p1, F.p2, F.r1, F.r2, F.b1, F.b2, F.h1, F.h2, eh, F.q1, F.q2, F.u1, F.u2, F.u3, F.u4, F.u5, F.u6, fconvOk_up, F.g1, F.l1, F.l2, F.n1, F.n2, F.f1, F.f2, F.i1, F.i2, F.x1, F.x2, isL, rightD, List.length_map, List.length_range, F.y1, F.y2, F.y3, c0, c1, F.z1, F.z2, F.d1, F.d2, ep, F.t1, F.t2, F.t3, F.t4, F.t5, F.t6, F.v1, F.v2, F.w1, F.w2, F.k1, F.k2, F.k3, F.k4, F.k5, F.k6, Bool.not_true, Bool.not_false]
  simp only [DT.get]

theorem long10 {a0 a1 : List Int} (h : laws_b10Long a0 a1 = false) : a0.length ≤ 1048576 ∧ a1.length ≤ 1048576 := by
  unfold laws_b10Long laws_b10Long_tree at h
  simp only [DT.val] at h
  by_cases g : ((a0.length : Nat) : Int) > 1048576
  · rw [decide_eq_true g] at h
    cases h
  · rw [decide_eq_false g] at h
    by_cases g2 : ((a1.length : Nat) : Int) > 1048576
    · rw [decide_eq_true g2] at h
      cases h
    · omega

theorem num_fne {x : Nat} (h : isNum .f32 x = true) : fne .f32 x x = false := by rw [fne_self, num_nan h]

theorem later_true (a0 a1 : List Int) (h0 : ∀ x ∈ a0, 0 ≤ x ∧ x ≤ 255) (h1 : ∀ x ∈ a1, 0 ≤ x ∧ x ≤ 255) : laws_FnLater_need a0 a1 = true ∧ laws_FnLater a0 a1 = true := by
  suffices hg : (laws_FnLater_tree a0 a1).get = some true from DT.of_get hg
  cases hlong : laws_b10Long a0 a1 with
  | true =>
    unfold laws_FnLater_tree
    simp only [hlong]
    rfl
  | false =>
    have hT := T_le
    have hG := Gr_ge
    obtain ⟨l0, l1⟩ := long10 hlong
    have hb0 : Bytes a0 := ⟨l0, h0⟩
    have hb1 : Bytes a1 := ⟨l1, h1⟩
    obtain ⟨e1, hO, k, j, hk, hj⟩ := ellipse_eq hb0
    obtain ⟨d1, hP, -, -, -, -⟩ := ellipse_eq hb1
    obtain ⟨m1, mi, m2⟩ := mass_eq hb1
    obtain ⟨i1, x, i2⟩ := at10_eq hb1
    have hm : I .f32 (msN mi.val) (some (1 / 2, 4)) := I.at (e_mass mi)
    have PP := per_ok k mi
    obtain ⟨p1, p2⟩ := period_eq (m := mi) hO hk
    obtain ⟨r1, r2⟩ := rate_eq (m := mi) hO hk
    generalize ho : spec_B10Ellipse a0 = o at *
    generalize hp : spec_B10Ellipse a1 = p at *
    have er : ∀ t, fdiv .f64 (fmul .f64 (impl_Orbit_rate o (fconv .f32 (msN mi.val) .f64)) (fconv .f32 t .f64)) 4618760256179416344 = xN k.val mi.val t := fun t => by rw [rate_of, hk]; rfl
    have y1 := PP.x1.2
    have y2 := PP.x2.2
    have y3 := PP.x3.2
    obtain ⟨b1, pb, b2, hbk, zb, b3⟩ := later_E (t := peN k.val mi.val) (X := 1) hO hm PP.n1 (by rw [er]; exact PP.x1.1) (by rw [er]; unfold Nr; constructor <;> grind) (by unfold Bd; constructor <;> decide +kernel)
    obtain ⟨g1, ph, g2, hhf, zh, g3⟩ := later_E (t := fdiv .f32 (peN k.val mi.val) 1073741824) (X := 1 / 2) hO hm PP.n3 (by rw [er]; exact PP.x2.1) (by rw [er]; unfold Nr; constructor <;> grind) (by unfold Bd; constructor <;> decide +kernel)
    have er2 : fdiv .f64 (fmul .f64 (impl_Orbit_rate ⟨o.Long, o.Round, o.Tilt, o.Node, o.Peri, ph⟩ (fconv .f32 (msN mi.val) .f64)) (fconv .f32 (fdiv .f32 (fneg .f32 (peN k.val mi.val)) 1073741824) .f64)) 4618760256179416344 = xN k.val mi.val (fdiv .f32 (fneg .f32 (peN k.val mi.val)) 1073741824) := er (fdiv .f32 (fneg .f32 (peN k.val mi.val)) 1073741824)
    obtain ⟨q1, pm, q2, hhm, zm, q3⟩ := later_E (t := fdiv .f32 (fneg .f32 (peN k.val mi.val)) 1073741824) (X := -1 / 2) hhf hm PP.n4 (by rw [er2]; exact PP.x3.1) (by rw [er2]; unfold Nr; constructor <;> grind) (by unfold Bd; constructor <;> decide +kernel)
    -- the turns
    have hph := hO.phase
    obtain ⟨u1, u2, u3⟩ := turns_none (z := 1 + zb) hbk.phase hph (by
      have c : ((1 + zb : Int) : Rat) = 1 + (zb : Rat) := by push_cast; rfl
      rw [c]
      show Nr (R .f32 pb) _ _
      unfold Nr at *
      constructor <;> grind)
    obtain ⟨v1, v2, v3⟩ := turns_half (z := zh) hhf.phase hph (by
      show Nr (R .f32 ph) _ _
      unfold Nr at *
      constructor <;> grind)
    have q3' : Nr (R .f32 pm) (R .f32 ph + -1 / 2 + zm) (3 / 1000000) := q3
    obtain ⟨w1, w2, w3⟩ := turns_none (z := zh + zm) hhm.phase hph (by
      have c : ((zh + zm : Int) : Rat) = (zh : Rat) + (zm : Rat) := by push_cast; rfl
      rw [c]
      show Nr (R .f32 pm) _ _
      clear q3
      unfold Nr at *
      constructor <;> grind)
    obtain ⟨t1, t2, t3⟩ := k_thou
    have kh : R .f64 4602678819172646912 = 1 / 2 := by have := k_half.2; grind
    obtain ⟨v4, v5⟩ := gap10_le (M := 2 / 100000) v2 k_half.1 (by rw [kh]; exact v3) (by decide +kernel)
    -- places
    obtain ⟨n1, n2, f1, f2, n3, n4, f3, f4⟩ := near_eq hO hk hj
    have hx := x.isLt
    have hn1 : 1 ≤ x.val + 1 := by omega
    have hn2 : x.val + 1 ≤ 12 := by omega
    obtain ⟨a1', a2'⟩ := places_eq (n := x.val + 1) hO hm hn1 hn2
    obtain ⟨c1, bst, c2, c3, c4⟩ := nearest_eq (n := x.val + 1) hO hm hn1 hn2
    have z0 : isNum .f32 0 = true ∧ R .f32 0 = 0 := by decide +kernel
    have hl := hO.long.2
    have hr := hO.round.2
    obtain ⟨un1, un2⟩ := up_R n3
    obtain ⟨uf1, uf2⟩ := up_R f3
    have bA : Bd (R .f32 o.Long) 4 := by unfold Bd; constructor <;> grind
    have bN : Bd (R .f32 o.Long * (1 - R .f32 o.Round)) 8 := (Bd.mul bA (N := 2) (by unfold Bd; constructor <;> grind)).mono (by decide +kernel)
    have bF : Bd (R .f32 o.Long * (1 + R .f32 o.Round)) 8 := (Bd.mul bA (N := 2) (by unfold Bd; constructor <;> grind)).mono (by decide +kernel)
    have bs : Bd (R .f64 (fconv .f32 (neN k.val j.val) .f64) - R .f64 4562254508917369340) 9 := by rw [un2, n4]; unfold Bd at *; constructor <;> grind
    have fs := fsub_fl un1 t1 (bs.mono (by grind))
    have es := fs.err64 bs
    have bt : Bd (R .f64 (fconv .f32 (faN k.val j.val) .f64) + R .f64 4562254508917369340) 9 := by rw [uf2, f4]; unfold Bd at *; constructor <;> grind
    have ft := fadd_fl uf1 t1 (bt.mono (by grind))
    have et := ft.err64 bt
    rw [un2, n4] at es
    rw [uf2, f4] at et
    have hlo : ∀ i, i < x.val + 1 → flt .f64 (fconv .f32 (rootN (innerN (plN o (msN mi.val) (x.val + 1) i).X (plN o (msN mi.val) (x.val + 1) i).Y (plN o (msN mi.val) (x.val + 1) i).Z)) .f64) (fsub .f64 (fconv .f32 (neN k.val j.val) .f64) 4562254508917369340) = false ∧ fgt .f64 (fconv .f32 (rootN (innerN (plN o (msN mi.val) (x.val + 1) i).X (plN o (msN mi.val) (x.val + 1) i).Y (plN o (msN mi.val) (x.val + 1) i).Z)) .f64) (fadd .f64 (fconv .f32 (faN k.val j.val) .f64) 4562254508917369340) = false := fun i hi => by
      have L := (place_ok (m := msN mi.val) hO hm hn2 hi).2.2
      obtain ⟨ul1, ul2⟩ := up_R L.num
      have lo := L.lo
      have hi' := L.hi
      refine ⟨?_, ?_⟩
      · rw [flt_R ul1 fs.1, ul2]
        exact decide_eq_false (by unfold Nr at es; grind)
      · rw [fgt_R ul1 ft.1, ul2]
        exact decide_eq_false (by unfold Nr at et; grind)
    obtain ⟨L1, L2⟩ := loop_all (a1 := a1) (m := msN mi.val) (ne := neN k.val j.val) (fa := faN k.val j.val) (a := o.Long) (b := o.Round) (c := o.Tilt) (d := o.Node) (e := o.Peri) (f := o.Phase) hn2 (fun i hi => (hlo i hi).1) (fun i hi => (hlo i hi).2)
    -- tilts
    obtain ⟨A1, A2, A3, A4, A5⟩ := tilt_eq hO hP
    obtain ⟨B1, B2, -, -, -⟩ := tilt_eq hP hO
    rw [tilt_comm hO hP] at B2
    obtain ⟨C1, C2, C3, -, -⟩ := tilt_eq hO hO
    have C4 := tilt_self hO
    obtain ⟨D1, tt, D2, D3⟩ := true_eq hO
    obtain ⟨E1, E2⟩ := branch_eq mi
    obtain ⟨ua1, ua2⟩ := up_R A3
    obtain ⟨G1, G2⟩ := gap10_le (M := 0) ua1 ua1 (Nr.refl _) (by decide +kernel)
    have kk : (isNum .f32 981668463 = true ∧ 9 / 10000 ≤ R .f32 981668463) ∧ atI .f32 3204465033 (-6 / 10) (-501 / 1000 + 1 / 10000000) = true ∧ atI .f32 1056981385 (501 / 1000 - 1 / 10000000) (6 / 10) = true := by decide +kernel
    have i3 : IntKind.wrap .i64 (1 + laws_b10At a1 3 12) = ((x.val + 1 : Nat) : Int) := by
      rw [i2, wrap_small (by omega) (by omega)]
      omega
    refine law_of (o := o) (p := p) (bk := ⟨o.Long, o.Round, o.Tilt, o.Node, o.Peri, pb⟩) (hf := ⟨o.Long, o.Round, o.Tilt, o.Node, o.Peri, ph⟩) (hm := ⟨o.Long, o.Round, o.Tilt, o.Node, o.Peri, pm⟩) (m := msN mi.val) (per := peN k.val mi.val) (rt := rtN k.val mi.val) (ne := neN k.val j.val) (fa := faN k.val j.val) (n := x.val + 1) (bst := bst) (ta := tltN o p) (tc := tltN o o) (tt := tt) (g := plN o (msN mi.val) (x.val + 1)) ?_
    exact
      { long := hlong, e1 := e1, e2 := ho, m1 := m1, m2 := m2, p1 := p1, p2 := p2, r1 := r1, r2 := r2, b1 := b1, b2 := b2, h1 := g1, h2 := g2, q1 := q1, q2 := q2
        u1 := u1
        u2 := by rw [fgt_R u2 t1]; exact decide_eq_false (by grind)
        u3 := w1
        u4 := by rw [fgt_R w2 t1]; exact decide_eq_false (by grind)
        u5 := v1
        u6 := by rw [fgt_R v4 t1]; exact decide_eq_false (by grind)
        g1 := PP.g, l1 := num_fne hO.long.1, l2 := num_fne hO.tilt.1, n1 := n1, n2 := n2, f1 := f1, f2 := f2, i1 := i1, i2 := i3, x1 := a1', x2 := a2', y1 := c1, y2 := c2
        y3 := by
          have hf : feq .f32 bst 0 = true := by rw [feq_R c3 z0.1, c4, z0.2]; rfl
          rw [fne_feq, hf]
          rfl
        z1 := L1, z2 := L2, d1 := d1, d2 := hp, t1 := A1, t2 := A2, t3 := B1, t4 := B2, t5 := C1, t6 := C2, v1 := D1, v2 := D2, w1 := E1, w2 := E2
        k1 := by rw [flt_R G1 t1]; exact decide_eq_true (by grind)
        k2 := by rw [fge_R A3 z0.1, z0.2]; exact decide_eq_true A4
        k3 := by rw [fle_R A3 k_half32.1]; exact decide_eq_true (by have := k_half32.2; grind)
        k4 := by rw [flt_R C3 kk.1.1]; exact decide_eq_true (by have := kk.1.2; grind)
        k5 := I.gt D3 (I.at kk.2.1) (by decide +kernel)
        k6 := I.lt D3 (I.at kk.2.2) (by decide +kernel) }

theorem plain3 (c : List Int) (_ : c.length ≤ maxLen) (hc : ∀ x ∈ c, (UC.int .u8).fit x) (d : List Int) (_ : d.length ≤ maxLen) (hd : ∀ x ∈ d, (UC.int .u8).fit x) : laws_FnLater_need c d = true ∧ laws_FnLater c d = true :=
  later_true c d (fun x h => u8_fit (hc x h)) (fun x h => u8_fit (hd x h))

end Go.Proofs.Ytomdjbkididieaa
