/- The plain law of FnPasses, part 8: shadows. -/
import Derived.Test.YtkmcgfjhjfiomaaQ5
namespace Go.Proofs.Ytkmcgfjhjfiomaa
set_option linter.unusedVariables false
set_option linter.unusedSimpArgs false

noncomputable def shU (s : Vec) : Vec := impl_ScaleVector s (fdiv .f32 1065353216 (impl_SizeOfVector s))
noncomputable def shA (s v : Vec) : Nat := impl_InnerOf v (shU s)
noncomputable def shB (s v : Vec) : Nat := impl_SizeOfVector (impl_LessVectors v (impl_ScaleVector (shU s) (shA s v)))

/-- Towards a sun. -/
structure SunS (s : Vec) : Prop where
  x : I .f32 s.X (some (1, 4))
  y : I .f32 s.Y (some (-2, 2))
  z : I .f32 s.Z (some (0, 0))

theorem size_I {x : Nat} {lo hi : Rat} (l h : Rat) (hx : I .f32 x (some (lo, hi))) {a b : Rat} (hh : inI a b (downI (sqrtI l h (some (lo, hi)))) = true) : I .f32 (impl_RootNumber x) (some (a, b)) := by
  have h1 := I.down (I.sqrt l h hx.up)
  have e : impl_RootNumber x = fconv .f64 (fsqrt (fconv .f32 x .f64)) .f32 := rfl
  rw [e]
  exact h1.to hh

theorem nn_I {x : Nat} {a b : Rat} (hx : I .f32 x (some (a, b))) (h : 0 ≤ R .f32 x) : I .f32 x (some (0, b)) := ⟨hx.1, h, hx.2.2⟩

theorem shadow_I {b : Ball} {s v : Vec} (hb : BallS b) (hs : SunS s) (hv : VecI v 12000) : impl_InShadow_need b s v = true ∧ impl_InShadow b s v = (flt .f32 (shA s v) 0 && flt .f32 (shB s v) b.Radius, true) := by
  obtain ⟨v1, v2⟩ := hb.valid
  have fs : finV s = true := by unfold finV; rw [hs.x.1, hs.y.1, hs.z.1]; rfl
  have hf1 := isFiniteVector_eq s
  rw [fs] at hf1
  have hf2 := isFiniteVector_eq v
  rw [hv.fin] at hf2
  -- the sun's size
  have i1 := (I.add (I.add (I.sq hs.x) (I.sq hs.y)) (I.sq hs.z)).to (lo := 9 / 10) (hi := 21) (by decide +kernel)
  have hsz : impl_SizeOfVector s = impl_RootNumber (fadd .f32 (fadd .f32 (fmul .f32 s.X s.X) (fmul .f32 s.Y s.Y)) (fmul .f32 s.Z s.Z)) := rfl
  have r1 : I .f32 (impl_SizeOfVector s) (some (8 / 10, 5)) := by rw [hsz]; exact size_I (9 / 10) (46 / 10) i1 (by decide +kernel)
  have c1 := (I.div k_one32 r1).to (lo := 0) (hi := 2) (by decide +kernel)
  have ux := (I.mul hs.x c1).to (lo := -10) (hi := 10) (by decide +kernel)
  have uy := (I.mul hs.y c1).to (lo := -10) (hi := 10) (by decide +kernel)
  have uz := (I.mul hs.z c1).to (lo := -10) (hi := 10) (by decide +kernel)
  obtain ⟨hx, hy, hz⟩ := hv
  have a1 := (I.add (I.add (I.mul hx ux) (I.mul hy uy)) (I.mul hz uz)).to (lo := -400000) (hi := 400000) (by decide +kernel)
  have dx := (I.sub hx (I.mul ux a1)).to (lo := -5000000) (hi := 5000000) (by decide +kernel)
  have dy := (I.sub hy (I.mul uy a1)).to (lo := -5000000) (hi := 5000000) (by decide +kernel)
  have dz := (I.sub hz (I.mul uz a1)).to (lo := -5000000) (hi := 5000000) (by decide +kernel)
  have s1 := I.sq dx
  have s2 := I.sq dy
  have s3 := I.sq dz
  have t1 := s1.to (lo := -10000000) (hi := 30000000000000) (by decide +kernel)
  have t2 := s2.to (lo := -10000000) (hi := 30000000000000) (by decide +kernel)
  have t3 := s3.to (lo := -10000000) (hi := 30000000000000) (by decide +kernel)
  have n1 := fmul_nn dx.1 dx.1 (sq_nonneg _)
  have n2 := fmul_nn dy.1 dy.1 (sq_nonneg _)
  have n3 := fmul_nn dz.1 dz.1 (sq_nonneg _)
  have t4 := (I.add t1 t2).to (lo := -100000000) (hi := 100000000000000) (by decide +kernel)
  have n4 := fadd_nn t1.1 t2.1 (by grind)
  have t5 := (I.add t4 t3).to (lo := -1000000000) (hi := 1000000000000000) (by decide +kernel)
  have n5 := fadd_nn t4.1 t3.1 (by grind)
  have b1 : I .f32 (shB s v) (some (-10, 100000000)) := size_I 0 40000000 (nn_I t5 n5) (by decide +kernel)
  have hu : impl_ScaleVector s (fdiv .f32 1065353216 (impl_SizeOfVector s)) = shU s := rfl
  have fu : finV (shU s) = true := by
    unfold finV
    rw [show isNum .f32 (shU s).X = true from ux.1, show isNum .f32 (shU s).Y = true from uy.1, show isNum .f32 (shU s).Z = true from uz.1]
    rfl
  have hf3 := isFiniteVector_eq (shU s)
  rw [fu] at hf3
  have ha : impl_InnerOf v (shU s) = shA s v := rfl
  have hA : I .f32 (shA s v) (some (-400000, 400000)) := a1
  have hbb : impl_SizeOfVector (impl_LessVectors v (impl_ScaleVector (shU s) (shA s v))) = shB s v := rfl
  obtain ⟨g1, g2⟩ := areFinite_eq [impl_SizeOfVector s, shA s v, shB s v] (by show 3 ≤ 2 ^ 62; decide)
  have g2 : impl_areFinite [impl_SizeOfVector s, shA s v, shB s v] = true := by
    rw [g2]
    simp only [List.all_cons, List.all_nil, r1.1, hA.1, b1.1, Bool.and_self]
  have eb : (⟨b.Mass, b.Radius, b.Spin, b.Start⟩ : Ball) = b := rfl
  have es : (⟨s.X, s.Y, s.Z⟩ : Vec) = s := rfl
  have ev : (⟨v.X, v.Y, v.Z⟩ : Vec) = v := rfl
  have eu : (⟨(shU s).X, (shU s).Y, (shU s).Z⟩ : Vec) = shU s := rfl
  have e1 : ∀ w : Vec, (⟨w.X, w.Y, w.Z⟩ : Vec) = w := fun w => rfl
  unfold impl_InShadow_need impl_InShadow impl_InShadow_tree
  simp only [eb, es, ev, v1, v2, hf1.1, hf1.2, hf2.1, hf2.2, Size_need, hu, eu, ha, e1, hbb, hf3.1, hf3.2, g1, g2, Bool.not_true]
  cases q1 : flt .f32 (shA s v) 0 with
  | true =>
    simp only [DT.ok, DT.val, Bool.true_and]
    exact ⟨trivial, trivial⟩
  | false =>
    simp only [DT.ok, DT.val, Bool.false_and]
    exact ⟨trivial, trivial⟩

/-! ## The law's suns -/

noncomputable def sunN (k j : Nat) : Vec := ⟨fofInt .f32 (IntKind.wrap .i64 (1 + (k : Int))), fofInt .f32 (IntKind.wrap .i64 ((j : Int) - 2)), 0⟩
theorem sun_I : ∀ k : Fin 4, ∀ j : Fin 5, (atI .f32 (sunN k.val j.val).X 1 4 && (atI .f32 (sunN k.val j.val).Y (-2) 2 && atI .f32 (sunN k.val j.val).Z 0 0)) = true := by decide +kernel
theorem sunS {k j : Nat} (hk : k < 4) (hj : j < 5) : SunS (sunN k j) := by
  have h := sun_I ⟨k, hk⟩ ⟨j, hj⟩
  simp only [Bool.and_eq_true] at h
  exact ⟨I.at h.1, I.at h.2.1, I.at h.2.2⟩

theorem dark_c : ∀ k : Fin 4, ∀ j : Fin 5, (flt .f32 (shA (sunN k.val j.val) (impl_ScaleVector (sunN k.val j.val) 3221225472)) 0 && atI .f32 (shB (sunN k.val j.val) (impl_ScaleVector (sunN k.val j.val) 3221225472)) (-1) (1 / 10)) = true := by decide +kernel
theorem light_c : ∀ k : Fin 4, ∀ j : Fin 5, flt .f32 (shA (sunN k.val j.val) (impl_ScaleVector (sunN k.val j.val) 1073741824)) 0 = false := by decide +kernel
def radN (r : Nat) : Nat := fdiv .f32 (fofInt .f32 (IntKind.wrap .i64 (1 + (r : Int)))) 1090519040
noncomputable def besN (k j r : Nat) : Vec := ⟨fneg .f32 (sunN k j).X, fneg .f32 (sunN k j).Y, fmul .f32 (radN r) 1073741824⟩
theorem beside_c : ∀ k : Fin 4, ∀ j : Fin 5, ∀ r : Fin 8, flt .f32 (shB (sunN k.val j.val) (besN k.val j.val r.val)) (radN r.val) = false := by decide +kernel
theorem rad_I : ∀ r : Fin 8, atI .f32 (radN r.val) (1 / 8) 1 = true := by decide +kernel

/-! ## The share of an orbit that is in the shadow -/

def phN (k : Nat) : Nat := fdiv .f64 (fofInt .f64 (k : Int)) (fofInt .f64 8)
theorem ph_I : ∀ k : Fin 8, atI .f64 (phN k.val) 0 1 = true := by decide +kernel

theorem places_all {o : Orbit} {m : Nat} (ho : OrbS o) (hm : I .f32 m (some (1 / 2, 4))) : impl_PlacesOf_need o m 8 = true ∧ ∃ l, impl_PlacesOf o m 8 = .inr l ∧ l.length = 8 ∧ ∀ j, j < l.length → VecI (l.getD j default) 12000 := by
  obtain ⟨a1, a2⟩ := around_I ho.ok hm
  have hlt : flt .f32 o.Long 0 = false := I.not_lt ho.long k_zero32 (by decide +kernel)
  have hw8 : impl_within 8 1 64 = true := by decide
  obtain ⟨e1, l, e2, e3⟩ := loop_post (step := impl_PlacesOf_loop0_step (m, 8, 8, o.Long, o.Round, o.Tilt, o.Node, o.Peri)) (fun s => ∃ k : Nat, k ≤ 8 ∧ s.1 = (k : Int) ∧ s.2.2.length = k ∧ ∀ j, j < s.2.2.length → VecI (s.2.2.getD j default) 12000) (fun s => (8 - s.1).toNat) (fun r => ∃ l, r = .inr l ∧ l.length = 8 ∧ ∀ j, j < l.length → VecI (l.getD j default) 12000) (by
    rintro ⟨n, ph, acc⟩ ⟨k, hk, hn, hlen, hall⟩
    simp only at hn hlen hall
    subst hn
    rcases Nat.lt_or_ge k 8 with hlt' | hge
    · have hI : I .f64 (phN k) (some (0, 1)) := I.at (ph_I ⟨k, hlt'⟩)
      have w := wrap_R hI.1 (by have := hI.2.1; have := hI.2.2; unfold Bd; constructor <;> grind)
      obtain ⟨n1, n2, n3⟩ := narrow_I w.1 w.2.1 (by have := w.2.2; grind)
      have hO := ho.phased n2 n3
      obtain ⟨s1, p, sp, s2, s3, s4⟩ := state_I hO hm
      have hd : decide (((k : Nat) : Int) < 8) = true := decide_eq_true (by omega)
      have hph : fdiv .f64 (fofInt .f64 ((k : Nat) : Int)) (fofInt .f64 8) = phN k := rfl
      have hwr : impl_wrap (phN k) = fsub .f64 (phN k) (ffloor (phN k)) := rfl
      have ev : (⟨p.X, p.Y, p.Z⟩ : Vec) = p := rfl
      refine ⟨.inl (((k + 1 : Nat) : Int), impl_narrowTurn (impl_wrap (phN k)), acc ++ [p]), [0, 234], ?_, ⟨k + 1, hlt', rfl, ?_, ?_⟩, by show (8 - ((k + 1 : Nat) : Int)).toNat < (8 - ((k : Nat) : Int)).toNat; omega⟩
      · unfold impl_PlacesOf_loop0_step
        simp only [hd, hph, hwr, n1, s1, s2, ev, Bool.not_true, hlen, List.length_singleton, nat_next hlt' (show 8 ≤ 2 ^ 62 by decide)]
        simp only [DT.get]
        rw [room (by omega) (by decide)]
      · show (acc ++ [p]).length = k + 1
        rw [List.length_append, List.length_singleton, hlen]
      · intro j hj
        have hj : j < (acc ++ [p]).length := hj
        show VecI ((acc ++ [p]).getD j default) 12000
        rw [List.length_append, List.length_singleton] at hj
        rcases Nat.lt_or_ge j acc.length with g | g
        · rw [List.getD_eq_getElem?_getD, List.getElem?_append_left g, ← List.getD_eq_getElem?_getD]
          exact hall j g
        · have : j = acc.length := by omega
          subst this
          rw [List.getD_eq_getElem?_getD, List.getElem?_append_right (Nat.le_refl _)]
          simpa using s3
    · have hk8 : k = 8 := by omega
      subst hk8
      refine ⟨.inr (.inr acc), [1], ?_, acc, rfl, hlen, hall⟩
      unfold impl_PlacesOf_loop0_step
      simp only [DT.get]
      rfl) (0, o.Phase, []) ⟨0, by decide, rfl, rfl, fun j hj => absurd hj (Nat.not_lt_zero _)⟩
  have e1 : impl_PlacesOf_loop0_ends (m, 8, 8, o.Long, o.Round, o.Tilt, o.Node, o.Peri) (0, o.Phase, []) = true := e1
  have e2 : impl_PlacesOf_loop0 (m, 8, 8, o.Long, o.Round, o.Tilt, o.Node, o.Peri) (0, o.Phase, []) = .inr l := e2
  have eo : (⟨o.Long, o.Round, o.Tilt, o.Node, o.Peri, o.Phase⟩ : Orbit) = o := rfl
  unfold impl_PlacesOf_need impl_PlacesOf impl_PlacesOf_tree
  simp only [eo, a1, a2, hlt, hw8, e1, e2, isL, rightD, Bool.not_true]
  simp only [DT.ok, DT.val]
  exact ⟨trivial, l, rfl, e3⟩

theorem share_c : ∀ n : Fin 9, (fge .f32 (fdiv .f32 (fofInt .f32 (n.val : Int)) (fofInt .f32 8)) 0 && fle .f32 (fdiv .f32 (fofInt .f32 (n.val : Int)) (fofInt .f32 8)) 1065353216) = true := by decide +kernel

theorem share_all {b : Ball} {o : Orbit} {s : Vec} (hb : BallS b) (ho : OrbS o) (hs : SunS s) : impl_ShadowShare_need b o s 8 = true ∧ (impl_ShadowShare b o s 8).2 = true ∧ fge .f32 (impl_ShadowShare b o s 8).1 0 = true ∧ fle .f32 (impl_ShadowShare b o s 8).1 1065353216 = true := by
  obtain ⟨p1, l, p2, p3, p4⟩ := places_all ho hb.mass
  obtain ⟨v1, v2⟩ := hb.valid
  obtain ⟨e1, n, e2, e3, e4⟩ := loop_post (step := impl_ShadowShare_loop0_step (8, 8, b.Mass, b.Radius, b.Spin, b.Start, s.X, s.Y, s.Z, l)) (fun q => ∃ k : Nat, k ≤ 8 ∧ q.2 = (k : Int) ∧ 0 ≤ q.1 ∧ q.1 ≤ (k : Int)) (fun q => (8 - q.2).toNat) (fun r => ∃ n : Int, r = .inr n ∧ 0 ≤ n ∧ n ≤ 8) (by
    rintro ⟨c, i⟩ ⟨k, hk, hi, h0, h1⟩
    simp only at hi h0 h1
    subst hi
    rcases Nat.lt_or_ge k 8 with hlt | hge
    · have hkl : k < l.length := by omega
      obtain ⟨s1, s2⟩ := shadow_I hb hs (p4 k hkl)
      have hd : decide (((k : Nat) : Int) < 8) = true := decide_eq_true (by omega)
      have hdk : decide (k < l.length) = true := decide_eq_true hkl
      have eb : (⟨b.Mass, b.Radius, b.Spin, b.Start⟩ : Ball) = b := rfl
      have es : (⟨s.X, s.Y, s.Z⟩ : Vec) = s := rfl
      have ev : (⟨(l.getD k default).X, (l.getD k default).Y, (l.getD k default).Z⟩ : Vec) = l.getD k default := rfl
      have hw : IntKind.wrap .i64 (c + 1) = c + 1 := wrap_small (by omega) (by omega)
      have hwk : IntKind.wrap .i64 (((k : Nat) : Int) + 1) = ((k + 1 : Nat) : Int) := nat_next hlt (by decide)
      cases q : (flt .f32 (shA s (l.getD k default)) 0 && flt .f32 (shB s (l.getD k default)) b.Radius) with
      | true =>
        refine ⟨.inl (c + 1, ((k + 1 : Nat) : Int)), [0, 1, 2], ?_, ⟨k + 1, hlt, rfl, by show 0 ≤ c + 1; omega, by show c + 1 ≤ ((k + 1 : Nat) : Int); push_cast; omega⟩, by show (8 - ((k + 1 : Nat) : Int)).toNat < (8 - ((k : Nat) : Int)).toNat; omega⟩
        rw [q] at s2
        unfold impl_ShadowShare_loop0_step
        simp only [hd, nat_dec hkl, nat_ge, Bool.and_true, Int.toNat_natCast, hdk, eb, es, ev, s1, s2, Bool.not_true, hw, hwk]
        simp only [DT.get]
      | false =>
        refine ⟨.inl (c, ((k + 1 : Nat) : Int)), [0, 1, 2], ?_, ⟨k + 1, hlt, rfl, h0, by show c ≤ ((k + 1 : Nat) : Int); push_cast; omega⟩, by show (8 - ((k + 1 : Nat) : Int)).toNat < (8 - ((k : Nat) : Int)).toNat; omega⟩
        rw [q] at s2
        unfold impl_ShadowShare_loop0_step
        simp only [hd, nat_dec hkl, nat_ge, Bool.and_true, Int.toNat_natCast, hdk, eb, es, ev, s1, s2, Bool.not_true, hw, hwk]
        simp only [DT.get]
    · have hk8 : k = 8 := by omega
      subst hk8
      refine ⟨.inr (.inr c), [], ?_, c, rfl, h0, h1⟩
      unfold impl_ShadowShare_loop0_step
      simp only [DT.get]
      rfl) (0, 0) ⟨0, by decide, rfl, Int.le_refl _, Int.le_refl _⟩
  have e1 : impl_ShadowShare_loop0_ends (8, 8, b.Mass, b.Radius, b.Spin, b.Start, s.X, s.Y, s.Z, l) (0, 0) = true := e1
  have e2 : impl_ShadowShare_loop0 (8, 8, b.Mass, b.Radius, b.Spin, b.Start, s.X, s.Y, s.Z, l) (0, 0) = .inr n := e2
  have eb : (⟨b.Mass, b.Radius, b.Spin, b.Start⟩ : Ball) = b := rfl
  have eo : (⟨o.Long, o.Round, o.Tilt, o.Node, o.Peri, o.Phase⟩ : Orbit) = o := rfl
  have hlen : ((l.length : Nat) : Int) = 8 := by rw [p3]; rfl
  obtain ⟨k, hk⟩ : ∃ k : Fin 9, n = (k.val : Int) := ⟨⟨n.toNat, by omega⟩, by show n = ((n.toNat : Nat) : Int); omega⟩
  have hc := share_c k
  rw [Bool.and_eq_true, ← hk] at hc
  have hform : impl_ShadowShare_need b o s 8 = true ∧ impl_ShadowShare b o s 8 = (fdiv .f32 (fofInt .f32 n) (fofInt .f32 8), true) := by
    unfold impl_ShadowShare_need impl_ShadowShare impl_ShadowShare_tree
    simp only [eb, eo, p1, p2, v1, v2, isL, rightD, hlen, e1, e2, Bool.not_true]
    simp only [DT.ok, DT.val]
    exact ⟨trivial, trivial⟩
  rw [hform.2]
  exact ⟨hform.1, rfl, hc.1, hc.2⟩

end Go.Proofs.Ytkmcgfjhjfiomaa
