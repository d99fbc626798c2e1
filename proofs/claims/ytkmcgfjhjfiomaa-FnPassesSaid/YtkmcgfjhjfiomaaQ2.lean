/- The plain law of FnPasses, part 2: bounds of orbits' states. -/
import Derived.Test.YtkmcgfjhjfiomaaQ1
namespace Go.Proofs.Ytkmcgfjhjfiomaa
set_option linter.unusedVariables false
set_option linter.unusedSimpArgs false

theorem abs_R {x : Nat} {a b : Rat} (h : I .f64 x (some (a, b))) (ha : 0 ≤ a) : I .f64 (math_Abs x) (some (a, b)) := by
  have hn : isNaN .f64 x = false := by
    obtain ⟨s, m, p, hd⟩ := isNum_iff.1 h.1
    unfold isNaN; rw [hd]; rfl
  rw [math_Abs_eq hn]
  obtain ⟨f1, f2⟩ := fabs_num h.1
  have h0 : 0 ≤ V .f64 x := by
    rw [← Int.not_lt]
    intro g
    have z : V .f64 0 = 0 := by decide +kernel
    have hz : isNum .f64 0 = true ∧ R .f64 0 = 0 := by decide +kernel
    rw [← z, lt_R h.1 hz.1, hz.2] at g
    have := h.2.1
    grind
  have e : R .f64 (fabs x) = R .f64 x := (eq_R f1 h.1).1 (by rw [f2]; omega)
  exact ⟨f1, by rw [e]; exact h.2.1, by rw [e]; exact h.2.2⟩

theorem sine_I {x : Nat} {a b : Rat} (h : I .f64 x (some (a, b))) (h1 : -1000000 ≤ a) (h2 : b ≤ 1000000) : I .f64 (impl_sine x) (some (-1571 / 1000, 1571 / 1000)) := by
  have hb : Bd (R .f64 x) 4503599627370495 := by have := h.2.1; have := h.2.2; unfold Bd; constructor <;> grind
  rw [impl_sine_eq, impl_behind_eq (sm52 h.1 hb)]
  exact sineOf_bd (leftOf_bd h.1 hb)

theorem cosine_I {x : Nat} {a b : Rat} (h : I .f64 x (some (a, b))) (h1 : -1000 ≤ a) (h2 : b ≤ 1000) : I .f64 (impl_cosine x) (some (-1571 / 1000, 1571 / 1000)) := by
  have hs : I .f64 (fadd .f64 x 4598175219545276416) (some (-2000, 2000)) := (I.add (h.mono h1 h2) k_quarter).to (by decide +kernel)
  exact sine_I hs (by decide +kernel) (by decide +kernel)

/-! ## The swing -/

theorem half_R {x y : Nat} (hx : I .f64 x (some (-1, 2))) (hy : I .f64 y (some (-1, 2))) : isNum .f64 (fdiv .f64 (fadd .f64 x y) 4611686018427387904) = true ∧ Nr (R .f64 (fdiv .f64 (fadd .f64 x y) 4611686018427387904)) ((R .f64 x + R .f64 y) / 2) (1 / 1000000000000) := by
  have hG := Gr_ge
  have ht := T_le
  obtain ⟨x1, x2, x3⟩ := hx
  obtain ⟨y1, y2, y3⟩ := hy
  have b1 : Bd (R .f64 x + R .f64 y) 4 := by unfold Bd; constructor <;> grind
  have f := fadd_fl x1 y1 (b1.mono (by grind))
  have e := f.err64 b1
  have k2 := k_two
  have e2 : R .f64 4611686018427387904 = 2 := by have := k2.2.1; have := k2.2.2; grind
  have b2 := e.toBd b1
  obtain ⟨q1, q2⟩ := quot_fl (X := R .f64 (fadd .f64 x y) / 2) f.1 k2.1 (by rw [e2]; decide) (by rw [e2]; grind) (by unfold Bd at b2 ⊢; constructor <;> grind)
  have e3 := q2 3 (by unfold Bd at b2 ⊢; constructor <;> grind)
  have hU : U .f64 = 1 / 9007199254740992 := rfl
  rw [hU] at e3
  refine ⟨q1, ?_⟩
  unfold Nr at e e3 ⊢
  constructor <;> grind

theorem fifty {n : Int} (h : ¬ n < 50) : decide (n < 50) = false := decide_eq_false h

theorem swing_I {e f : Nat} {a b : Rat} (he : I .f64 e (some (0, 1))) (hf : I .f64 f (some (a, b))) (h1 : 0 ≤ a) (h2 : b ≤ 2) : impl_swing_need e f = true ∧ I .f64 (impl_swing e f) (some (-1 / 10000000, 1 + 1 / 10000000)) := by
  have key := loop_post (step := impl_swing_loop0_step (e, impl_wrap f)) (fun s => ∃ k : Nat, k ≤ 50 ∧ s.2.2 = (k : Int) ∧ I .f64 s.1 (some (-((k : Rat) / 1000000000), 1 + (k : Rat) / 1000000000)) ∧ I .f64 s.2.1 (some (-((k : Rat) / 1000000000), 1 + (k : Rat) / 1000000000)))
    (fun s => (50 - s.2.2).toNat) (fun r => I .f64 r (some (-1 / 10000000, 1 + 1 / 10000000))) (by
    rintro ⟨x, y, n⟩ ⟨k, hk, hn, hx, hy⟩
    simp only at hn hx hy
    subst hn
    have hkr : (k : Rat) ≤ 50 := by exact_mod_cast hk
    have hk0 : (0 : Rat) ≤ k := by exact_mod_cast Nat.zero_le k
    rcases Nat.lt_or_ge k 50 with hlt | hge
    · have hd : decide (((k : Nat) : Int) < 50) = true := decide_eq_true (by omega)
      have hw : IntKind.wrap .i64 (((k : Nat) : Int) + 1) = ((k + 1 : Nat) : Int) := nat_next hlt (by decide)
      obtain ⟨m1, m2⟩ := half_R (hx.mono (by grind) (by grind)) (hy.mono (by grind) (by grind))
      have hm : I .f64 (fdiv .f64 (fadd .f64 x y) 4611686018427387904) (some (-(((k + 1 : Nat) : Rat) / 1000000000), 1 + ((k + 1 : Nat) : Rat) / 1000000000)) := by
        have g1 := hx.2.1
        have g2 := hx.2.2
        have g3 := hy.2.1
        have g4 := hy.2.2
        unfold Nr at m2
        push_cast
        exact ⟨m1, by grind, by grind⟩
      have hx' : I .f64 x (some (-(((k + 1 : Nat) : Rat) / 1000000000), 1 + ((k + 1 : Nat) : Rat) / 1000000000)) := hx.mono (by push_cast; grind) (by push_cast; grind)
      have hy' : I .f64 y (some (-(((k + 1 : Nat) : Rat) / 1000000000), 1 + ((k + 1 : Nat) : Rat) / 1000000000)) := hy.mono (by push_cast; grind) (by push_cast; grind)
      cases hg : fgt .f64 (impl_phaseOfSwing e (fdiv .f64 (fadd .f64 x y) 4611686018427387904)) (impl_wrap f) with
      | true =>
        refine ⟨.inl (x, fdiv .f64 (fadd .f64 x y) 4611686018427387904, ((k + 1 : Nat) : Int)), [], ?_, ⟨k + 1, hlt, rfl, hx', hm⟩, by show (50 - ((k + 1 : Nat) : Int)).toNat < (50 - ((k : Nat) : Int)).toNat; omega⟩
        unfold impl_swing_loop0_step
        simp only [DT.get, hd, hg, hw]
      | false =>
        refine ⟨.inl (fdiv .f64 (fadd .f64 x y) 4611686018427387904, y, ((k + 1 : Nat) : Int)), [], ?_, ⟨k + 1, hlt, rfl, hm, hy'⟩, by show (50 - ((k + 1 : Nat) : Int)).toNat < (50 - ((k : Nat) : Int)).toNat; omega⟩
        unfold impl_swing_loop0_step
        simp only [DT.get, hd, hg, hw]
    · have hd : decide (((k : Nat) : Int) < 50) = false := decide_eq_false (by omega)
      refine ⟨.inr x, [], ?_, hx.mono (by grind) (by grind)⟩
      unfold impl_swing_loop0_step
      simp only [DT.get, hd]) (0, 4607182418800017408, 0) ⟨0, by decide, rfl, I.at (by decide +kernel), I.at (by decide +kernel)⟩
  obtain ⟨l1, l2⟩ := key
  have l1 : impl_swing_loop0_ends (e, impl_wrap f) (0, 4607182418800017408, 0) = true := l1
  unfold impl_swing_need impl_swing impl_swing_tree
  simp only [DT.ok, DT.val, l1]
  exact ⟨trivial, l2⟩

/-! ## Orbits of bounded size -/

structure OrbS (o : Orbit) : Prop where
  long : I .f32 o.Long (some (1, 3))
  round : I .f32 o.Round (some (0, 5 / 8))
  tilt : I .f32 o.Tilt (some (0, 1 / 2))
  node : I .f32 o.Node (some (0, 1))
  peri : I .f32 o.Peri (some (0, 1))
  phase : I .f32 o.Phase (some (0, 1))
  ok : validO o = true

theorem k_zero32 : I .f32 0 (some (0, 0)) := I.at (by decide +kernel)
theorem OrbS.gt {o : Orbit} (h : OrbS o) : fgt .f32 o.Long 0 = true := I.gt h.long k_zero32 (by decide +kernel)

theorem rate_I {o : Orbit} {m : Nat} (h : OrbS o) (hm : I .f64 m (some (1 / 2, 4))) : impl_Orbit_rate_need o m = true ∧ I .f64 (impl_Orbit_rate o m) (some (1 / 10, 21 / 10)) := by
  have a := abs_R h.long.up (by decide +kernel)
  have a2 := (I.sq a).to (lo := 999 / 1000) (hi := 91 / 10) (by decide +kernel)
  have a3 := (I.mul a2 a).to (lo := 99 / 100) (hi := 28) (by decide +kernel)
  have q := (I.div hm a3).to (lo := 1 / 60) (hi := 41 / 10) (by decide +kernel)
  have s := (I.sqrt (12 / 100) (205 / 100) q).to (lo := 1 / 10) (hi := 21 / 10) (by decide +kernel)
  have e : math_Sqrt (fdiv .f64 m (fmul .f64 (fmul .f64 (math_Abs (fconv .f32 o.Long .f64)) (math_Abs (fconv .f32 o.Long .f64))) (math_Abs (fconv .f32 o.Long .f64)))) = fsqrt (fdiv .f64 m (fmul .f64 (fmul .f64 (math_Abs (fconv .f32 o.Long .f64)) (math_Abs (fconv .f32 o.Long .f64))) (math_Abs (fconv .f32 o.Long .f64)))) := rfl
  unfold impl_Orbit_rate_need impl_Orbit_rate impl_Orbit_rate_tree
  simp only [DT.ok, DT.val, fconvOk_up]
  exact ⟨trivial, s⟩

theorem plane_I {o : Orbit} {m : Nat} (h : OrbS o) (hm : I .f64 m (some (1 / 2, 4))) : impl_Orbit_plane_need o m = true ∧ ∃ a b c d, impl_Orbit_plane o m = (a, b, c, d) ∧ I .f64 a (some (-800, 800)) ∧ I .f64 b (some (-800, 800)) ∧ I .f64 c (some (-800, 800)) ∧ I .f64 d (some (-800, 800)) := by
  obtain ⟨r1, r2⟩ := rate_I h hm
  have hgt := h.gt
  have he := h.round.up
  obtain ⟨s1, s2⟩ := swing_I (he.mono (by decide +kernel) (by decide +kernel)) h.phase.up (by decide +kernel) (by decide +kernel)
  have ha := abs_R h.long.up (by decide +kernel)
  have hs := sine_I s2 (by decide +kernel) (by decide +kernel)
  have hc := cosine_I s2 (by decide +kernel) (by decide +kernel)
  have hk := (I.sub k_one (I.mul he hc)).to (lo := 17 / 1000) (hi := 2) (by decide +kernel)
  have hq := (I.sqrt (3 / 4) (101 / 100) (I.sub k_one (I.sq he))).to (lo := 0) (hi := 11 / 10) (by decide +kernel)
  have hv : (⟨o.Long, o.Round, o.Tilt, o.Node, o.Peri, o.Phase⟩ : Orbit) = o := rfl
  have x15 := (I.mul ha (I.sub hc he)).to (lo := -600) (hi := 600) (by decide +kernel)
  have an := (I.mul ha r2).to (lo := 0) (hi := 7) (by decide +kernel)
  have x18 := (I.mul (I.mul ha hq) hs).to (lo := -600) (hi := 600) (by decide +kernel)
  have x20 := (I.div (I.mul an hs) hk)
  have x21 := (I.neg x20).to (lo := -700) (hi := 700) (by decide +kernel)
  have x24 := (I.div (I.mul (I.mul an hq) hc) hk).to (lo := -800) (hi := 800) (by decide +kernel)
  have hsq : math_Sqrt (fsub .f64 4607182418800017408 (fmul .f64 (fconv .f32 o.Round .f64) (fconv .f32 o.Round .f64))) = fsqrt (fsub .f64 4607182418800017408 (fmul .f64 (fconv .f32 o.Round .f64) (fconv .f32 o.Round .f64))) := rfl
  refine ⟨?_, _, _, _, _, ?_, x15.to (by decide +kernel), x18.to (by decide +kernel), x21.to (by decide +kernel), x24.to (by decide +kernel)⟩
  · unfold impl_Orbit_plane_need impl_Orbit_plane_tree
    simp only [DT.ok, fconvOk_up, hv, r1, hgt, s1]
  · unfold impl_Orbit_plane impl_Orbit_plane_tree
    simp only [DT.val, hv, hgt, hsq]

/-- The vector of two bounded parts. -/
theorem turned_I {o : Orbit} {u v : Nat} (h : OrbS o) (hu : I .f64 u (some (-800, 800))) (hv : I .f64 v (some (-800, 800))) : impl_Orbit_turned_need o u v = true ∧ I .f32 (impl_Orbit_turned o u v).X (some (-12000, 12000)) ∧ I .f32 (impl_Orbit_turned o u v).Y (some (-12000, 12000)) ∧ I .f32 (impl_Orbit_turned o u v).Z (some (-12000, 12000)) := by
  have pc := cosine_I h.peri.up (by decide +kernel) (by decide +kernel)
  have ps := sine_I h.peri.up (by decide +kernel) (by decide +kernel)
  have tc := cosine_I h.tilt.up (by decide +kernel) (by decide +kernel)
  have ts := sine_I h.tilt.up (by decide +kernel) (by decide +kernel)
  have nc := cosine_I h.node.up (by decide +kernel) (by decide +kernel)
  have ns := sine_I h.node.up (by decide +kernel) (by decide +kernel)
  have x6 := (I.sub (I.mul hu pc) (I.mul hv ps)).to (lo := -2600) (hi := 2600) (by decide +kernel)
  have x9 := (I.add (I.mul hu ps) (I.mul hv pc)).to (lo := -2600) (hi := 2600) (by decide +kernel)
  have x12 := (I.mul x9 tc).to (lo := -4100) (hi := 4100) (by decide +kernel)
  have x15 := (I.mul x9 ts).to (lo := -4100) (hi := 4100) (by decide +kernel)
  have x22 := (I.sub (I.mul x6 nc) (I.mul x12 ns)).to (lo := -11000) (hi := 11000) (by decide +kernel)
  have x26 := (I.add (I.mul x6 ns) (I.mul x12 nc)).to (lo := -11000) (hi := 11000) (by decide +kernel)
  have f1 := I.fits x22 (by decide +kernel) (by decide +kernel)
  have f2 := I.fits x26 (by decide +kernel) (by decide +kernel)
  have f3 := I.fits x15 (by decide +kernel) (by decide +kernel)
  have d1 := (I.down x22).to (lo := -12000) (hi := 12000) (by decide +kernel)
  have d2 := (I.down x26).to (lo := -12000) (hi := 12000) (by decide +kernel)
  have d3 := (I.down x15).to (lo := -12000) (hi := 12000) (by decide +kernel)
  unfold impl_Orbit_turned_need impl_Orbit_turned impl_Orbit_turned_tree
  simp only [DT.ok, DT.val, fconvOk_up, f1, f2, f3]
  exact ⟨trivial, d1, d2, d3⟩

theorem aLength_I {m : Nat} {a b : Rat} (hm : I .f32 m (some (a, b))) (ha : 0 < a) : impl_aLength_need m = true ∧ impl_aLength m = true := by
  have hg := I.gt hm k_zero32 ha
  unfold impl_aLength_need impl_aLength impl_aLength_tree
  simp only [DT.ok, DT.val, IsFinite_need, IsFinite_eq, hm.1, hg]
  exact ⟨trivial, trivial⟩

theorem around_I {o : Orbit} {m : Nat} (hv : validO o = true) (hm : I .f32 m (some (1 / 2, 4))) : impl_Orbit_isAround_need o m = true ∧ impl_Orbit_isAround o m = true := by
  obtain ⟨v1, v2⟩ := ValidOrbit_eq o
  rw [hv] at v2
  obtain ⟨a1, a2⟩ := aLength_I hm (by decide +kernel)
  have e : (⟨o.Long, o.Round, o.Tilt, o.Node, o.Peri, o.Phase⟩ : Orbit) = o := rfl
  unfold impl_Orbit_isAround_need impl_Orbit_isAround impl_Orbit_isAround_tree
  simp only [DT.ok, DT.val, e, v1, v2, a1, a2]
  exact ⟨trivial, trivial⟩

def VecI (v : Vec) (M : Rat) : Prop := I .f32 v.X (some (-M, M)) ∧ I .f32 v.Y (some (-M, M)) ∧ I .f32 v.Z (some (-M, M))
theorem VecI.fin {v : Vec} {M : Rat} (h : VecI v M) : finV v = true := by unfold finV; rw [h.1.1, h.2.1.1, h.2.2.1]; rfl

theorem state_I {o : Orbit} {m : Nat} (h : OrbS o) (hm : I .f32 m (some (1 / 2, 4))) : impl_StateOf_need o m = true ∧ ∃ at' sp, impl_StateOf o m = (at', sp, true) ∧ VecI at' 12000 ∧ VecI sp 12000 := by
  obtain ⟨p1, a, b, c, d, p2, ha, hb, hc, hd⟩ := plane_I h hm.up
  obtain ⟨t1, t2⟩ := turned_I h (ha.mono (by decide +kernel) (by decide +kernel)) (hb.mono (by decide +kernel) (by decide +kernel))
  obtain ⟨u1, u2⟩ := turned_I h (hc.mono (by decide +kernel) (by decide +kernel)) (hd.mono (by decide +kernel) (by decide +kernel))
  obtain ⟨a1, a2⟩ := around_I h.ok hm
  have e : (⟨o.Long, o.Round, o.Tilt, o.Node, o.Peri, o.Phase⟩ : Orbit) = o := rfl
  have V1 : VecI (impl_Orbit_turned o a b) 12000 := t2
  have V2 : VecI (impl_Orbit_turned o c d) 12000 := u2
  have s : impl_Orbit_state_need o (fconv .f32 m .f64) = true ∧ impl_Orbit_state o (fconv .f32 m .f64) = (impl_Orbit_turned o a b, impl_Orbit_turned o c d) := by
    unfold impl_Orbit_state_need impl_Orbit_state impl_Orbit_state_tree
    simp only [DT.ok, DT.val, e, p1, p2, t1, u1]
    exact ⟨trivial, trivial⟩
  have hf1 := isFiniteVector_eq (impl_Orbit_turned o a b)
  have hf2 := isFiniteVector_eq (impl_Orbit_turned o c d)
  rw [V1.fin] at hf1
  rw [V2.fin] at hf2
  have e1 : (⟨(impl_Orbit_turned o a b).X, (impl_Orbit_turned o a b).Y, (impl_Orbit_turned o a b).Z⟩ : Vec) = impl_Orbit_turned o a b := rfl
  have e2 : (⟨(impl_Orbit_turned o c d).X, (impl_Orbit_turned o c d).Y, (impl_Orbit_turned o c d).Z⟩ : Vec) = impl_Orbit_turned o c d := rfl
  refine ⟨?_, _, _, ?_, V1, V2⟩
  · unfold impl_StateOf_need impl_StateOf_tree
    simp only [DT.ok, e, a1, a2, fconvOk_up, s.1, s.2, e1, e2, hf1.1, hf1.2, hf2.1, hf2.2, Bool.not_true]
  · unfold impl_StateOf impl_StateOf_tree
    simp only [DT.val, e, a2, s.2, e1, e2, hf1.2, hf2.2, Bool.not_true]

end Go.Proofs.Ytkmcgfjhjfiomaa
