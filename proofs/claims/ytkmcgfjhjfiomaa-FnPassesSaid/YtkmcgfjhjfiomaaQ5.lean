/- The plain law of FnPasses, part 5: tracks, and what is seen. -/
import Derived.Test.YtkmcgfjhjfiomaaQ4
namespace Go.Proofs.Ytkmcgfjhjfiomaa
set_option linter.unusedVariables false
set_option linter.unusedSimpArgs false

/-! ## Sines of bounded numbers, places, rises -/

theorem fabs_I {x : Nat} {M : Rat} (h : I .f64 x (some (-M, M))) : I .f64 (math_Abs x) (some (0, M)) := by
  rw [math_Abs_eq (num_nan h.1)]
  obtain ⟨f1, f2⟩ := fabs_num h.1
  have hp := two_pos (lplace .f64)
  have hR := R_V h.1
  have hR2 := R_V f1
  rw [f2] at hR2
  have h1 := h.2.1
  have h2 := h.2.2
  rcases Int.natAbs_eq (V .f64 x) with g | g
  · rw [← g, ← hR] at hR2
    have h0 : (0 : Rat) ≤ (V .f64 x : Rat) := by
      have : (0 : Int) ≤ V .f64 x := by omega
      exact_mod_cast this
    have := Rat.mul_nonneg h0 (Rat.le_of_lt hp)
    refine ⟨f1, ?_, ?_⟩ <;> rw [hR2] <;> grind
  · have e : (((V .f64 x).natAbs : Int) : Rat) = -(V .f64 x : Rat) := by
      have : ((V .f64 x).natAbs : Int) = -(V .f64 x) := by omega
      rw [this]
      push_cast
      rfl
    rw [e] at hR2
    have h0 : (V .f64 x : Rat) ≤ 0 := by
      have : V .f64 x ≤ (0 : Int) := by omega
      exact_mod_cast this
    have := Rat.mul_nonneg (show 0 ≤ -(V .f64 x : Rat) by grind) (Rat.le_of_lt hp)
    refine ⟨f1, ?_, ?_⟩ <;> rw [hR2] <;> grind

theorem k_far : I .f64 4841369599423283200 (some (1000000, 10000000000000000)) := I.at (by decide +kernel)

theorem sineT_I {x : Nat} (h : I .f32 x (some (-100, 100))) : impl_SineTurns_need x = true ∧ I .f32 (impl_SineTurns x) (some (-1572 / 1000, 1572 / 1000)) := by
  have ha := fabs_I (M := 100) (h.up.to (by decide +kernel))
  have hfar : fge .f64 (math_Abs (fconv .f32 x .f64)) 4841369599423283200 = false := by
    rw [fge_R ha.1 k_far.1]
    exact decide_eq_false (by have := ha.2.2; have := k_far.2.1; grind)
  have hs := sine_I h.up (by decide +kernel) (by decide +kernel)
  have hf := I.fits hs (by decide +kernel) (by decide +kernel)
  unfold impl_SineTurns_need impl_SineTurns impl_SineTurns_tree
  simp only [DT.ok, DT.val, IsFinite_need, IsFinite_eq, h.1, Bool.not_true, fconvOk_up, hfar, hf]
  exact ⟨trivial, (I.down hs).to (by decide +kernel)⟩

theorem cosT_need {x : Nat} (h : I .f32 x (some (-50, 50))) : impl_cos_need x = true := by
  have hs := (I.add h k_quart32).to (lo := -100) (hi := 100) (by decide +kernel)
  unfold impl_cos_need impl_cos_tree
  simp only [DT.ok, (sineT_I hs).1]

structure MarkS (m : Mark) : Prop where
  north : I .f32 m.North (some (-1 / 4, 1 / 4))
  east : I .f32 m.East (some (-1 / 2, 1 / 2))
  high : I .f32 m.High (some (0, 1))
  ok : markB m = true

theorem place_need {b : Ball} {m : Mark} {t : Nat} (h : BallS b) (hm : MarkS m) (ht : I .f32 t (some (0, 2))) : impl_Ball_place_need b m t = true := by
  have n := cosT_need (hm.north.to (by decide +kernel))
  have f := (I.add hm.east (face_I h ht)).to (lo := -2) (hi := 2) (by decide +kernel)
  have c := cosT_need (f.to (by decide +kernel))
  have s := (sineT_I (f.to (by decide +kernel))).1
  have s2 := (sineT_I (hm.north.to (by decide +kernel))).1
  have eb : (⟨b.Mass, b.Radius, b.Spin, b.Start⟩ : Ball) = b := rfl
  unfold impl_Ball_place_need impl_Ball_place_tree
  simp only [DT.ok, eb, n, c, s, s2]

theorem rise_need {b : Ball} {m : Mark} {v : Vec} {t : Nat} (h : BallS b) (hm : MarkS m) (hv : finV v = true) (ht : I .f32 t (some (0, 2))) : impl_RiseAt_need b m v t = true := by
  obtain ⟨v1, v2⟩ := h.valid
  have hmk := ValidMark_eq m
  rw [hm.ok] at hmk
  have hf := isFiniteVector_eq v
  rw [hv] at hf
  have hp := place_need h hm ht
  have eb : (⟨b.Mass, b.Radius, b.Spin, b.Start⟩ : Ball) = b := rfl
  have em : (⟨m.North, m.East, m.High⟩ : Mark) = m := rfl
  have ev : (⟨v.X, v.Y, v.Z⟩ : Vec) = v := rfl
  have hr : impl_Ball_rise_need b m v t = true := by
    unfold impl_Ball_rise_need impl_Ball_rise_tree
    simp only [DT.ok, eb, em, hp, Size_need]
  have htold : ∀ x, impl_told_need x = true := fun x => by
    unfold impl_told_need impl_told_tree
    cases hi : impl_IsFinite x <;> simp only [DT.ok, IsFinite_need, hi, Bool.not_true, Bool.not_false]
  unfold impl_RiseAt_need impl_RiseAt_tree
  simp only [eb, em, ev, v1, v2, hmk.1, hmk.2, hf.1, hf.2, IsFinite_need, IsFinite_eq, ht.1, hr, htold, Bool.not_true]
  simp only [DT.ok]

/-! ## The times of a track -/

def tmN (k : Int) : Nat := fadd .f32 1056964608 (fmul .f32 (fofInt .f32 k) 1048576000)
theorem tm_I : ∀ k : Fin 4, atI .f32 (tmN (k.val : Int)) 0 2 = true := by decide +kernel
theorem tmI {k : Nat} (hk : k < 4) : I .f32 (tmN (k : Int)) (some (0, 2)) := I.at (tm_I ⟨k, hk⟩)

noncomputable def latN (o : Orbit) (b : Ball) (k : Int) : Orbit := (impl_LaterOrbit o b.Mass (tmN k)).1
noncomputable def plcN (o : Orbit) (b : Ball) (k : Int) : Vec := (impl_StateOf (latN o b k) b.Mass).1
noncomputable def mrkN (o : Orbit) (b : Ball) (k : Int) : Mark := (impl_MarkOf b (plcN o b k) (tmN k)).1

/-- What is known of one time of a track. -/
structure Known (o : Orbit) (b : Ball) (k : Int) : Prop where
  l1 : impl_LaterOrbit_need o b.Mass (tmN k) = true
  l2 : impl_LaterOrbit o b.Mass (tmN k) = (latN o b k, true)
  s1 : impl_StateOf_need (latN o b k) b.Mass = true
  s2 : (impl_StateOf (latN o b k) b.Mass).1 = plcN o b k
  s3 : (impl_StateOf (latN o b k) b.Mass).2.2 = true
  m1 : impl_MarkOf_need b (plcN o b k) (tmN k) = true
  m2 : impl_MarkOf b (plcN o b k) (tmN k) = (mrkN o b k, true)
  ok : markB (mrkN o b k) = true
  fin : finV (plcN o b k) = true

theorem known {o : Orbit} {b : Ball} (ho : OrbS o) (hb : BallS b) {k : Nat} (hk : k < 4) : Known o b (k : Int) := by
  have ht := tmI hk
  obtain ⟨l1, o', l2, l3⟩ := later_I ho hb.mass ht
  have e1 : latN o b (k : Int) = o' := by unfold latN; rw [l2]
  obtain ⟨s1, p, sp, s2, s3, s4⟩ := state_I l3 hb.mass
  have e2 : plcN o b (k : Int) = p := by unfold plcN; rw [e1, s2]
  obtain ⟨m1, m, m2, m3⟩ := mark_I hb s3 ht
  have e3 : mrkN o b (k : Int) = m := by unfold mrkN; rw [e2, m2]
  refine ⟨l1, by rw [e1]; exact l2, by rw [e1]; exact s1, rfl, by rw [e1, s2], by rw [e2]; exact m1, by rw [e2, e3]; exact m2, by rw [e3]; exact m3, by rw [e2]; exact s3.fin⟩

theorem passed_eq {o : Orbit} {b : Ball} {k : Int} (h : Known o b k) : impl_Ball_passed_need b o (tmN k) = true ∧ impl_Ball_passed b o (tmN k) = (plcN o b k, true) := by
  have eo : (⟨o.Long, o.Round, o.Tilt, o.Node, o.Peri, o.Phase⟩ : Orbit) = o := rfl
  have el : (⟨(latN o b k).Long, (latN o b k).Round, (latN o b k).Tilt, (latN o b k).Node, (latN o b k).Peri, (latN o b k).Phase⟩ : Orbit) = latN o b k := rfl
  unfold impl_Ball_passed_need impl_Ball_passed impl_Ball_passed_tree
  simp only [DT.ok, DT.val, eo, h.l1, h.l2, el, h.s1, h.s2, h.s3, Bool.not_true]
  exact ⟨trivial, trivial⟩

theorem is_track {o : Orbit} {b : Ball} (ho : OrbS o) (hb : BallS b) : impl_isTrack_need b o 1056964608 1048576000 4 = true ∧ impl_isTrack b o 1056964608 1048576000 4 = true := by
  obtain ⟨v1, v2⟩ := hb.valid
  have hv := ValidOrbit_eq o
  rw [ho.ok] at hv
  obtain ⟨f1, f2⟩ := areFinite_eq [1056964608, 1048576000] (by show 2 ≤ 2 ^ 62; decide)
  have f2 : impl_areFinite [1056964608, 1048576000] = true := by rw [f2]; decide +kernel
  have eo : (⟨o.Long, o.Round, o.Tilt, o.Node, o.Peri, o.Phase⟩ : Orbit) = o := rfl
  have eb : (⟨b.Mass, b.Radius, b.Spin, b.Start⟩ : Ball) = b := rfl
  have w : impl_within 4 1 64 = true := by decide
  unfold impl_isTrack_need impl_isTrack impl_isTrack_tree
  simp only [DT.ok, DT.val, eo, eb, v1, v2, hv.1, hv.2, f1, f2, w]
  exact ⟨trivial, trivial⟩

theorem track_all {o : Orbit} {b : Ball} (ho : OrbS o) (hb : BallS b) : impl_TrackOf_need b o 1056964608 1048576000 4 = true ∧ impl_TrackOf b o 1056964608 1048576000 4 = .inr ((List.range 4).map fun k : Nat => mrkN o b (k : Int)) := by
  obtain ⟨t1, t2⟩ := is_track ho hb
  obtain ⟨e1, e2⟩ := map_loop (step := impl_TrackOf_loop0_step (1056964608, 1048576000, 4, b.Mass, b.Radius, b.Spin, b.Start, o.Long, o.Round, o.Tilt, o.Node, o.Peri, o.Phase)) 4 (fun k : Nat => mrkN o b (k : Int)) .inr (fun k hk acc ha => by
    have hK := known ho hb hk
    obtain ⟨p1, p2⟩ := passed_eq hK
    have hd : decide (((k : Nat) : Int) < 4) = true := decide_eq_true (by omega)
    have ht : fadd .f32 1056964608 (fmul .f32 (fofInt .f32 ((k : Nat) : Int)) 1048576000) = tmN (k : Int) := rfl
    have eo : (⟨o.Long, o.Round, o.Tilt, o.Node, o.Peri, o.Phase⟩ : Orbit) = o := rfl
    have eb : (⟨b.Mass, b.Radius, b.Spin, b.Start⟩ : Ball) = b := rfl
    have ev : (⟨(plcN o b (k : Int)).X, (plcN o b (k : Int)).Y, (plcN o b (k : Int)).Z⟩ : Vec) = plcN o b (k : Int) := rfl
    have em : (⟨(mrkN o b (k : Int)).North, (mrkN o b (k : Int)).East, (mrkN o b (k : Int)).High⟩ : Mark) = mrkN o b (k : Int) := rfl
    refine ⟨[0, 1, 315], ?_⟩
    unfold impl_TrackOf_loop0_step
    simp only [hd, ht, eo, eb, p1, p2, ev, hK.m1, hK.m2, em, Bool.not_true, nat_next hk (show 4 ≤ 2 ^ 62 by decide), ha, List.length_singleton]
    simp only [DT.get]
    rw [room (by omega) (by decide)]) (fun acc => ⟨[2], by
    unfold impl_TrackOf_loop0_step
    simp only [DT.get]
    rfl⟩)
  have e1 : impl_TrackOf_loop0_ends (1056964608, 1048576000, 4, b.Mass, b.Radius, b.Spin, b.Start, o.Long, o.Round, o.Tilt, o.Node, o.Peri, o.Phase) (0, []) = true := e1
  have e2 : impl_TrackOf_loop0 (1056964608, 1048576000, 4, b.Mass, b.Radius, b.Spin, b.Start, o.Long, o.Round, o.Tilt, o.Node, o.Peri, o.Phase) (0, []) = .inr ((List.range 4).map fun k : Nat => mrkN o b (k : Int)) := e2
  have eo : (⟨o.Long, o.Round, o.Tilt, o.Node, o.Peri, o.Phase⟩ : Orbit) = o := rfl
  have eb : (⟨b.Mass, b.Radius, b.Spin, b.Start⟩ : Ball) = b := rfl
  unfold impl_TrackOf_need impl_TrackOf impl_TrackOf_tree
  simp only [eo, eb, t1, t2, e1, e2, isL, rightD, Bool.not_true]
  simp only [DT.ok, DT.val]
  exact ⟨trivial, trivial⟩

/-! ## What is seen -/

noncomputable def sawN (o : Orbit) (b : Ball) (m : Mark) (k : Int) : Nat × Bool := impl_RiseAt b m (plcN o b k) (tmN k)

theorem zero_sine : impl_SineTurns_need 0 = true ∧ impl_SineTurns 0 = 0 := by decide +kernel

theorem seen_all {o : Orbit} {b : Ball} {m : Mark} (ho : OrbS o) (hb : BallS b) (hm : MarkS m) : impl_SeenFrom_need b m o 0 1056964608 1048576000 4 = true ∧
    (impl_SeenFrom b m o 0 1056964608 1048576000 4 = .inl () ∨ impl_SeenFrom b m o 0 1056964608 1048576000 4 = .inr ((List.range 4).map fun k : Nat => fge .f32 (sawN o b m (k : Int)).1 0) ∧ ∀ k : Nat, k < 4 → (sawN o b m (k : Int)).2 = true) := by
  obtain ⟨t1, t2⟩ := is_track ho hb
  have hmk := ValidMark_eq m
  rw [hm.ok] at hmk
  have hz : isNum .f32 0 = true := by decide +kernel
  obtain ⟨e1, e2⟩ := loop_post (step := impl_SeenFrom_loop0_step (0, 1056964608, 1048576000, 4, b.Mass, b.Radius, b.Spin, b.Start, m.North, m.East, m.High, o.Long, o.Round, o.Tilt, o.Node, o.Peri, o.Phase))
    (fun s => ∃ k : Nat, k ≤ 4 ∧ s = (((k : Nat) : Int), (List.range k).map fun k : Nat => fge .f32 (sawN o b m (k : Int)).1 0) ∧ ∀ j : Nat, j < k → (sawN o b m (j : Int)).2 = true) (fun s => (4 - s.1).toNat)
    (fun r => r = .inl () ∨ r = .inr ((List.range 4).map fun k : Nat => fge .f32 (sawN o b m (k : Int)).1 0) ∧ ∀ k : Nat, k < 4 → (sawN o b m (k : Int)).2 = true) (by
    rintro s ⟨k, hk, rfl, hall⟩
    rcases Nat.lt_or_ge k 4 with hlt | hge
    · have hK := known ho hb hlt
      obtain ⟨p1, p2⟩ := passed_eq hK
      have hd : decide (((k : Nat) : Int) < 4) = true := decide_eq_true (by omega)
      have ht : fadd .f32 1056964608 (fmul .f32 (fofInt .f32 ((k : Nat) : Int)) 1048576000) = tmN (k : Int) := rfl
      have eo : (⟨o.Long, o.Round, o.Tilt, o.Node, o.Peri, o.Phase⟩ : Orbit) = o := rfl
      have eb : (⟨b.Mass, b.Radius, b.Spin, b.Start⟩ : Ball) = b := rfl
      have em : (⟨m.North, m.East, m.High⟩ : Mark) = m := rfl
      have ev : (⟨(plcN o b (k : Int)).X, (plcN o b (k : Int)).Y, (plcN o b (k : Int)).Z⟩ : Vec) = plcN o b (k : Int) := rfl
      have hr := rise_need hb hm hK.fin (tmI hlt)
      have hsaw : impl_RiseAt b m (plcN o b (k : Int)) (tmN (k : Int)) = sawN o b m (k : Int) := rfl
      cases hs : (sawN o b m (k : Int)).2 with
      | true =>
        refine ⟨.inl (((k + 1 : Nat) : Int), (List.range (k + 1)).map fun k : Nat => fge .f32 (sawN o b m (k : Int)).1 0), [0, 1, 2, 340], ?_, ⟨k + 1, hlt, rfl, fun j hj => ?_⟩, by show (4 - ((k + 1 : Nat) : Int)).toNat < (4 - ((k : Nat) : Int)).toNat; omega⟩
        · unfold impl_SeenFrom_loop0_step
          simp only [hd, ht, eo, eb, em, p1, p2, ev, hr, hsaw, hs, zero_sine.1, zero_sine.2, Bool.not_true, nat_next hlt (show 4 ≤ 2 ^ 62 by decide), List.length_map, List.length_range, List.length_singleton]
          simp only [DT.get]
          rw [room (by omega) (by decide), range_succ (fun k : Nat => fge .f32 (sawN o b m (k : Int)).1 0) k]
        · rcases Nat.lt_or_ge j k with g | g
          · exact hall j g
          · have : j = k := by omega
            subst this
            exact hs
      | false =>
        refine ⟨.inr (.inl ()), [], ?_, .inl rfl⟩
        unfold impl_SeenFrom_loop0_step
        simp only [hd, ht, eo, eb, em, p1, p2, ev, hr, hsaw, hs, Bool.not_true, Bool.not_false]
        simp only [DT.get]
    · have : k = 4 := by omega
      subst this
      refine ⟨.inr (.inr ((List.range 4).map fun k : Nat => fge .f32 (sawN o b m (k : Int)).1 0)), [3], ?_, .inr ⟨rfl, hall⟩⟩
      unfold impl_SeenFrom_loop0_step
      simp only [DT.get]
      rfl) (0, []) ⟨0, by decide, rfl, fun j hj => absurd hj (Nat.not_lt_zero _)⟩
  have e1 : impl_SeenFrom_loop0_ends (0, 1056964608, 1048576000, 4, b.Mass, b.Radius, b.Spin, b.Start, m.North, m.East, m.High, o.Long, o.Round, o.Tilt, o.Node, o.Peri, o.Phase) (0, []) = true := e1
  have eo : (⟨o.Long, o.Round, o.Tilt, o.Node, o.Peri, o.Phase⟩ : Orbit) = o := rfl
  have eb : (⟨b.Mass, b.Radius, b.Spin, b.Start⟩ : Ball) = b := rfl
  have em : (⟨m.North, m.East, m.High⟩ : Mark) = m := rfl
  have hL : impl_SeenFrom_need b m o 0 1056964608 1048576000 4 = true ∧ impl_SeenFrom b m o 0 1056964608 1048576000 4 = impl_SeenFrom_loop0 (0, 1056964608, 1048576000, 4, b.Mass, b.Radius, b.Spin, b.Start, m.North, m.East, m.High, o.Long, o.Round, o.Tilt, o.Node, o.Peri, o.Phase) (0, []) := by
    generalize hr : impl_SeenFrom_loop0 (0, 1056964608, 1048576000, 4, b.Mass, b.Radius, b.Spin, b.Start, m.North, m.East, m.High, o.Long, o.Round, o.Tilt, o.Node, o.Peri, o.Phase) (0, []) = r
    unfold impl_SeenFrom_need impl_SeenFrom impl_SeenFrom_tree
    simp only [eo, eb, em, t1, t2, hmk.1, hmk.2, IsFinite_need, IsFinite_eq, hz, e1, hr, Bool.not_true]
    cases r <;> simp only [DT.ok, DT.val, isL, rightD] <;> exact ⟨trivial, trivial⟩
  exact ⟨hL.1, by rw [hL.2]; exact e2⟩

end Go.Proofs.Ytkmcgfjhjfiomaa
