/- The plain law of FnCovers, part 10: draws told exactly, drifts. -/
import Derived.Test.YtkhjcoekmamlaaaV8
namespace Go.Proofs.Ytkhjcoekmamlaaa
open Ieee
set_option linter.unusedVariables false
set_option linter.unusedSimpArgs false

def tiN (k : Nat) : Nat := fdiv .f32 (fofInt .f32 (k : Int)) 1098907648
def tnN (k : Nat) : Nat := fdiv .f32 (fofInt .f32 (k : Int)) 1098907648

theorem ball_eq2 {c : List Int} (hc : Bytes c) : spec_R8Ball_need c = true ∧ ∃ m r : Fin 8, ∃ s j : Fin 17, spec_R8Ball c = balN m.val r.val s.val j.val := by
  obtain ⟨v1, a1, s1, m1, e1, l1, u1, q1, r1⟩ := pick_eq hc 0 (a := 0) (n := 8) (by omega) (by omega) (by omega) (by omega)
  obtain ⟨v2, a2, s2, m2, e2, l2, u2, q2, r2⟩ := pick_eq hc s1 (a := a1) (n := 8) (by omega) (by omega) (by omega) (by omega)
  obtain ⟨v3, a3, s3, m3, e3, l3, u3, q3, r3⟩ := pick_eq hc s2 (a := a2) (n := 17) (by omega) (by omega) (by omega) (by omega)
  obtain ⟨v4, a4, s4, m4, e4, l4, u4, q4, r4⟩ := pick_eq hc s3 (a := a3) (n := 17) (by omega) (by omega) (by omega) (by omega)
  obtain ⟨k1, rfl⟩ := fin_of (n := 8) l1 u1
  obtain ⟨k2, rfl⟩ := fin_of (n := 8) l2 u2
  obtain ⟨k3, rfl⟩ := fin_of (n := 17) l3 u3
  obtain ⟨k4, rfl⟩ := fin_of (n := 17) l4 u4
  have f1 := I.at (d_mass k1)
  have f2 := I.at (rad_I k2)
  have f3 := I.at (d_spin k3)
  have f4 := I.at (d_start k4)
  have hr : fdiv .f32 (fofInt .f32 (IntKind.wrap .i64 (1 + (k2.val : Int)))) 1090519040 = radN k2.val := rfl
  generalize hA : fdiv .f32 (fofInt .f32 (IntKind.wrap .i64 (1 + (k1.val : Int)))) 1073741824 = A at *
  generalize hB : radN k2.val = B at *
  generalize hC : fdiv .f32 (fofInt .f32 (IntKind.wrap .i64 ((k3.val : Int) - 8))) 1115684864 = C at *
  generalize hD : fdiv .f32 (fofInt .f32 (IntKind.wrap .i64 ((k4.val : Int) - 8))) 1098907648 = D at *
  have key : spec_l06DrawOk_need c 0 0 = true ∧ spec_l06DrawOk c 0 0 = (⟨A, B, C, D⟩, a4, s4) := by
    unfold spec_l06DrawOk_need spec_l06DrawOk spec_l06DrawOk_tree
    simp only [m1, e1, m2, e2, m3, e3, m4, e4, hA, hr, hC, hD]
    simp only [DT.ok, DT.val]
    exact ⟨trivial, trivial⟩
  have hb : spec_R8Ball_need c = true ∧ spec_R8Ball c = ⟨A, B, C, D⟩ := by
    unfold spec_R8Ball_need spec_R8Ball spec_R8Ball_tree
    simp only [key.1, key.2]
    simp only [DT.ok, DT.val]
    exact ⟨trivial, trivial⟩
  refine ⟨hb.1, k1, k2, k3, k4, ?_⟩
  rw [hb.2, ← hA, ← hB, ← hC, ← hD]
  rfl

theorem orbit_eq2 {c : List Int} (hc : Bytes c) : spec_R8Orbit_need c = true ∧ OrbS (spec_R8Orbit c) ∧ ∃ k : Fin 9, ∃ i j : Fin 16, (spec_R8Orbit c).Tilt = tiN k.val ∧ (spec_R8Orbit c).Node = tnN i.val ∧ (spec_R8Orbit c).Peri = tnN j.val := by
  obtain ⟨v1, a1, s1, m1, e1, l1, u1, q1, r1⟩ := pick_eq hc 0 (a := 0) (n := 9) (by omega) (by omega) (by omega) (by omega)
  obtain ⟨v2, a2, s2, m2, e2, l2, u2, q2, r2⟩ := pick_eq hc s1 (a := a1) (n := 6) (by omega) (by omega) (by omega) (by omega)
  obtain ⟨v3, a3, s3, m3, e3, l3, u3, q3, r3⟩ := pick_eq hc s2 (a := a2) (n := 9) (by omega) (by omega) (by omega) (by omega)
  obtain ⟨v4, a4, s4, m4, e4, l4, u4, q4, r4⟩ := pick_eq hc s3 (a := a3) (n := 16) (by omega) (by omega) (by omega) (by omega)
  obtain ⟨v5, a5, s5, m5, e5, l5, u5, q5, r5⟩ := pick_eq hc s4 (a := a4) (n := 16) (by omega) (by omega) (by omega) (by omega)
  obtain ⟨v6, a6, s6, m6, e6, l6, u6, q6, r6⟩ := pick_eq hc s5 (a := a5) (n := 16) (by omega) (by omega) (by omega) (by omega)
  obtain ⟨k1, rfl⟩ := fin_of (n := 9) l1 u1
  obtain ⟨k2, rfl⟩ := fin_of (n := 6) l2 u2
  obtain ⟨k3, rfl⟩ := fin_of (n := 9) l3 u3
  obtain ⟨k4, rfl⟩ := fin_of (n := 16) l4 u4
  obtain ⟨k5, rfl⟩ := fin_of (n := 16) l5 u5
  obtain ⟨k6, rfl⟩ := fin_of (n := 16) l6 u6
  have f1 := I.at (d_long k1)
  have f2 := I.at (d_round k2)
  have f3 := I.at (d_tilt k3)
  have f4 := d_turn k4
  have f5 := d_turn k5
  have f6 := d_turn k6
  rw [Bool.and_eq_true] at f4 f5 f6
  obtain ⟨f4, t4⟩ := f4
  obtain ⟨f5, t5⟩ := f5
  obtain ⟨f6, t6⟩ := f6
  have f4 := I.at f4
  have f5 := I.at f5
  have f6 := I.at f6
  generalize hA : fdiv .f32 (fofInt .f32 (IntKind.wrap .i64 (4 + (k1.val : Int)))) 1082130432 = A at *
  generalize hB : fdiv .f32 (fofInt .f32 (k2.val : Int)) 1090519040 = B at *
  generalize hC : fdiv .f32 (fofInt .f32 (k3.val : Int)) 1098907648 = C at *
  generalize hD : fdiv .f32 (fofInt .f32 (k4.val : Int)) 1098907648 = D at *
  generalize hE : fdiv .f32 (fofInt .f32 (k5.val : Int)) 1098907648 = E at *
  generalize hF : fdiv .f32 (fofInt .f32 (k6.val : Int)) 1098907648 = F at *
  have hb : spec_R8Orbit_need c = true ∧ spec_R8Orbit c = ⟨A, B, C, D, E, F⟩ := by
    unfold spec_R8Orbit_need spec_R8Orbit spec_R8Orbit_tree
    simp only [m1, e1, m2, e2, m3, e3, m4, e4, m5, e5, m6, e6, hA, hB, hC, hD, hE, hF]
    simp only [DT.ok, DT.val]
    exact ⟨trivial, trivial⟩
  rw [hb.2]
  refine ⟨hb.1, ⟨f1, f2, f3, f4, f5, f6, ?_⟩, k3, k4, k5, hC.symm, hD.symm, hE.symm⟩
  have hgt : fgt .f32 A 0 = true := I.gt f1 k_zero32 (by decide +kernel)
  have h1 : fge .f32 B 0 = true := I.ge f2 k_zero32 (by decide +kernel)
  have h2 : flt .f32 B 1065353216 = true := I.lt f2 k_one32 (by decide +kernel)
  have h3 : fge .f32 C 0 = true := I.ge f3 k_zero32 (by decide +kernel)
  have h4 : fle .f32 C 1056964608 = true := I.le f3 k_half32 (by decide +kernel)
  unfold validO
  simp only [f1.1, f2.1, h3, h4, t4, t5, hgt, h1, h2, t6, Bool.and_self]

theorem mark_eq2 {c : List Int} (hc : Bytes c) : spec_R8Mark_need c = true ∧ ∃ n : Fin 29, ∃ e : Fin 31, (spec_R8Mark c).North = noN n.val ∧ (spec_R8Mark c).East = eaN e.val := by
  obtain ⟨v1, a1, s1, m1, e1, l1, u1, q1, r1⟩ := pick_eq hc 0 (a := 0) (n := 29) (by omega) (by omega) (by omega) (by omega)
  obtain ⟨v2, a2, s2, m2, e2, l2, u2, q2, r2⟩ := pick_eq hc s1 (a := a1) (n := 31) (by omega) (by omega) (by omega) (by omega)
  obtain ⟨v3, a3, s3, m3, e3, l3, u3, q3, r3⟩ := pick_eq hc s2 (a := a2) (n := 5) (by omega) (by omega) (by omega) (by omega)
  obtain ⟨k1, rfl⟩ := fin_of (n := 29) l1 u1
  obtain ⟨k2, rfl⟩ := fin_of (n := 31) l2 u2
  obtain ⟨k3, rfl⟩ := fin_of (n := 5) l3 u3
  have f1 := I.at (d_north k1)
  have f2 := I.at (d_east k2)
  have f3 := I.at (d_high k3)
  generalize hA : fdiv .f32 (fofInt .f32 (IntKind.wrap .i64 ((k1.val : Int) - 14))) 1115684864 = A at *
  generalize hB : fdiv .f32 (fofInt .f32 (IntKind.wrap .i64 ((k2.val : Int) - 15))) 1107296256 = B at *
  generalize hC : fdiv .f32 (fofInt .f32 (k3.val : Int)) 1082130432 = C at *
  have hb : spec_R8Mark_need c = true ∧ spec_R8Mark c = ⟨A, B, C⟩ := by
    unfold spec_R8Mark_need spec_R8Mark spec_R8Mark_tree
    simp only [m1, e1, m2, e2, m3, e3, hA, hB, hC]
    simp only [DT.ok, DT.val]
    exact ⟨trivial, trivial⟩
  rw [hb.2]
  exact ⟨hb.1, k1, k2, hA.symm, hB.symm⟩

/-! ## What is nothing -/

theorem word_zero (s : Bool) (p : Int) : canon .f32 (FloatKind.f32.format.nearest s 0 p) = 0 ∨ canon .f32 (FloatKind.f32.format.nearest s 0 p) = 2147483648 := by
  have hw : FloatKind.f32.format.nearest s 0 p = FloatKind.f32.format.word s 0 := by unfold Format.nearest; rw [if_pos rfl]
  rw [hw]
  cases s
  · exact .inl (by decide +kernel)
  · exact .inr (by decide +kernel)

theorem zero_man {s : Bool} {m : Nat} {p : Int} (h : rv (.number s m p) = 0) : m = 0 := by
  by_cases g : m = 0
  · exact g
  · have h1 : (0 : Rat) < m := by exact_mod_cast Nat.pos_of_ne_zero g
    have h2 := Rat.mul_pos h1 (two_pos p)
    rw [rv_sign] at h
    cases s <;> simp at h <;> grind

def Nought (x : Nat) : Prop := x = 0 ∨ x = 2147483648
theorem Nought.R {x : Nat} (h : Nought x) : isNum .f32 x = true ∧ R .f32 x = 0 := by
  rcases h with rfl | rfl <;> decide +kernel

theorem fmul_nought {x y : Nat} (hx : isNum .f32 x = true) (hy : isNum .f32 y = true) (h : R .f32 x = 0 ∨ R .f32 y = 0) : Nought (fmul .f32 x y) := by
  obtain ⟨s, a, p, hx⟩ := isNum_iff.1 hx
  obtain ⟨u, c, q, hy⟩ := isNum_iff.1 hy
  have e1 : R .f32 x = rv (.number s a p) := by unfold Proofs.Ytkhjcoekmamlaaa.R; rw [hx]
  have e2 : R .f32 y = rv (.number u c q) := by unfold Proofs.Ytkhjcoekmamlaaa.R; rw [hy]
  rw [e1, e2] at h
  unfold fmul Format.mul
  rw [hx, hy]
  have : a * c = 0 := by
    rcases h with h | h
    · rw [zero_man h, Nat.zero_mul]
    · rw [zero_man h, Nat.mul_zero]
  show Nought (canon .f32 (FloatKind.f32.format.nearest (s ^^ u) (a * c) (p + q)))
  rw [this]
  exact word_zero _ _

/-! ## Rates, drifts -/

theorem narrowed_I {x : Nat} {a b a' b' : Rat} (hx : I .f64 x (some (a, b))) (h1 : -1000000000000000000000000000000 ≤ a) (h2 : b ≤ 1000000000000000000000000000000) (h : inI a' b' (downI (some (a, b))) = true) : impl_narrowed_need x = true ∧ ∃ y, impl_narrowed x = (y, true) ∧ I .f32 y (some (a', b')) := by
  have hf := I.fits hx h1 h2
  have hd := (I.down hx).to h
  refine ⟨?_, fconv .f64 x .f32, ?_, hd⟩
  · unfold impl_narrowed_need impl_narrowed_tree
    simp only [hf, told_need, told_num hd.1]
    simp only [DT.ok]
  · unfold impl_narrowed impl_narrowed_tree
    simp only [told_num hd.1]
    simp only [DT.val]

theorem rateOf_I {o : Orbit} {m : Nat} (h : OrbS o) (hm : I .f32 m (some (1 / 2, 4))) : impl_RateOf_need o m = true ∧ ∃ n, impl_RateOf o m = (n, true) ∧ I .f32 n (some (9 / 100, 22 / 10)) := by
  obtain ⟨a1, a2⟩ := around_I h.ok hm
  obtain ⟨r1, r2⟩ := rate_I h hm.up
  obtain ⟨n1, n, n2, n3⟩ := narrowed_I r2 (by decide +kernel) (by decide +kernel) (a' := 9 / 100) (b' := 22 / 10) (by decide +kernel)
  have e : (⟨o.Long, o.Round, o.Tilt, o.Node, o.Peri, o.Phase⟩ : Orbit) = o := rfl
  refine ⟨?_, n, ?_, n3⟩
  · unfold impl_RateOf_need impl_RateOf_tree
    simp only [e, a1, a2, fconvOk_up, r1, n1, n2, Bool.not_true]
    simp only [DT.ok]
  · unfold impl_RateOf impl_RateOf_tree
    simp only [e, a2, n2, Bool.not_true]
    simp only [DT.val]

theorem beside_I {o : Orbit} (h : OrbS o) : impl_BesideOf_need o = true ∧ ∃ n, impl_BesideOf o = (n, true) ∧ I .f32 n (some (6 / 10, 31 / 10)) := by
  obtain ⟨v1, v2⟩ := ValidOrbit_eq o
  rw [h.ok] at v2
  have x := (I.mul h.long.up (I.sub k_one (I.sq h.round.up))).to (lo := 605 / 1000) (hi := 301 / 100) (by decide +kernel)
  obtain ⟨n1, n, n2, n3⟩ := narrowed_I x (by decide +kernel) (by decide +kernel) (a' := 6 / 10) (b' := 31 / 10) (by decide +kernel)
  have e : (⟨o.Long, o.Round, o.Tilt, o.Node, o.Peri, o.Phase⟩ : Orbit) = o := rfl
  have b : impl_Orbit_beside_need o = true ∧ impl_Orbit_beside o = fmul .f64 (fconv .f32 o.Long .f64) (fsub .f64 4607182418800017408 (fmul .f64 (fconv .f32 o.Round .f64) (fconv .f32 o.Round .f64))) := by
    unfold impl_Orbit_beside_need impl_Orbit_beside impl_Orbit_beside_tree
    simp only [fconvOk_up]
    simp only [DT.ok, DT.val]
    exact ⟨trivial, trivial⟩
  refine ⟨?_, n, ?_, n3⟩
  · unfold impl_BesideOf_need impl_BesideOf_tree
    simp only [e, v1, v2, b.1, b.2, n1, n2, Bool.not_true]
    simp only [DT.ok]
  · unfold impl_BesideOf impl_BesideOf_tree
    simp only [e, v2, b.2, n2, Bool.not_true]
    simp only [DT.val]

def buN (k : Nat) : Nat := fdiv .f32 (fofInt .f32 (k : Int)) 1115684864
theorem c_bu : ∀ k : Fin 5, (atI .f32 (buN k.val) 0 (1 / 16) && match k.val with | 0 => (buN 0 == 0) | _ => atI .f32 (buN k.val) (1 / 65) (1 / 16)) = true := by decide +kernel
noncomputable def tiltB (k : Nat) : Bool := impl_cos_need (tiN k) && match decide (k < 4), decide (4 < k) with
  | true, _ => atI .f32 (impl_cos (tiN k)) (38 / 100) (101 / 100)
  | false, true => atI .f32 (impl_cos (tiN k)) (-101 / 100) (-38 / 100)
  | false, false => atI .f32 (impl_cos (tiN k)) (-1) 1 
theorem c_ti : ∀ k : Fin 9, tiltB k.val = true := by decide +kernel
theorem k_round : I .f32 1086918619 (some (6283185 / 1000000, 6283186 / 1000000)) := I.at (by decide +kernel)
theorem k_m15 : I .f32 3217031168 (some (-3 / 2, -3 / 2)) := I.at (by decide +kernel)
theorem k_075 : I .f32 1061158912 (some (3 / 4, 3 / 4)) := I.at (by decide +kernel)
theorem k_five : I .f32 1084227584 (some (5, 5)) := I.at (by decide +kernel)

theorem div_nought {x : Nat} (h : Nought x) : Nought (fdiv .f32 x 1086918619) := by
  rcases h with rfl | rfl
  · exact .inl (by decide +kernel)
  · exact .inr (by decide +kernel)

/-- What is known of drifts. -/
structure Drift (u : Nat) (k : Nat) (x y : Nat) : Prop where
  xI : I .f32 x (some (-100, 100))
  yI : I .f32 y (some (-100, 100))
  none : R .f32 u = 0 → Nought x ∧ Nought y
  neg : k < 4 → R .f32 x ≤ 0
  pos : 4 < k → 0 ≤ R .f32 x

theorem drifts_I {o : Orbit} {b : Ball} {u : Nat} {k : Fin 9} (h : OrbS o) (hb : BallS b) (hu : I .f32 u (some (0, 1 / 16))) (hz : Nought u ∨ I .f32 u (some (1 / 65, 1 / 16))) (hk : o.Tilt = tiN k.val) :
    impl_DriftsOf_need b o u = true ∧ ∃ x y, impl_DriftsOf b o u = (x, y, true) ∧ Drift u k.val x y := by
  obtain ⟨r1, n, r2, r3⟩ := rateOf_I h hb.mass
  obtain ⟨s1, w, s2, s3⟩ := beside_I h
  obtain ⟨v1, v2⟩ := hb.valid
  have hgt := fgt_flt h.gt
  have ht := c_ti k
  unfold tiltB at ht
  rw [Bool.and_eq_true, ← hk] at ht
  obtain ⟨t1, t2⟩ := ht
  have hc : I .f32 (impl_cos o.Tilt) (some (-101 / 100, 101 / 100)) := by
    cases h4 : decide (k.val < 4) with
    | true =>
      rw [h4] at t2
      exact (I.at t2).mono (by decide +kernel) (by decide +kernel)
    | false =>
      cases h5 : decide (4 < k.val) with
      | true =>
        rw [h4, h5] at t2
        exact (I.at t2).mono (by decide +kernel) (by decide +kernel)
      | false =>
        rw [h4, h5] at t2
        exact (I.at t2).mono (by decide +kernel) (by decide +kernel)
  have q := (I.div hb.radius s3).to (lo := 4 / 100) (hi := 17 / 10) (by decide +kernel)
  have x7 := (I.mul r3 hu).to (lo := -1 / 100) (hi := 14 / 100) (by decide +kernel)
  have x8 := (I.mul x7 q).to (lo := -2 / 100) (hi := 3 / 10) (by decide +kernel)
  have x9 := (I.mul x8 q).to (lo := -4 / 100) (hi := 6 / 10) (by decide +kernel)
  have x10 := (I.div x9 k_round).to (lo := -1 / 100) (hi := 1 / 10) (by decide +kernel)
  have x11 := (I.mul k_m15 x10).to (lo := -2 / 10) (hi := 2 / 100) (by decide +kernel)
  have x12 := (I.mul x11 hc).to (lo := -1) (hi := 1) (by decide +kernel)
  have x13 := (I.mul k_075 x10).to (lo := -1) (hi := 1) (by decide +kernel)
  have x16 := (I.sub (I.mul (I.mul k_five hc) hc) k_one32).to (lo := -10) (hi := 10) (by decide +kernel)
  have x17 := (I.mul x13 x16).to (lo := -100) (hi := 100) (by decide +kernel)
  have eo : (⟨o.Long, o.Round, o.Tilt, o.Node, o.Peri, o.Phase⟩ : Orbit) = o := rfl
  have eb : (⟨b.Mass, b.Radius, b.Spin, b.Start⟩ : Ball) = b := rfl
  have D : Drift u k.val (fmul .f32 (fmul .f32 3217031168 (fdiv .f32 (fmul .f32 (fmul .f32 (fmul .f32 n u) (fdiv .f32 b.Radius w)) (fdiv .f32 b.Radius w)) 1086918619)) (impl_cos o.Tilt)) (fmul .f32 (fmul .f32 1061158912 (fdiv .f32 (fmul .f32 (fmul .f32 (fmul .f32 n u) (fdiv .f32 b.Radius w)) (fdiv .f32 b.Radius w)) 1086918619)) (fsub .f32 (fmul .f32 (fmul .f32 1084227584 (impl_cos o.Tilt)) (impl_cos o.Tilt)) 1065353216)) := by
    have hnone : R .f32 u = 0 → Nought (fdiv .f32 (fmul .f32 (fmul .f32 (fmul .f32 n u) (fdiv .f32 b.Radius w)) (fdiv .f32 b.Radius w)) 1086918619) := fun h0 =>
      div_nought (fmul_nought x8.1 q.1 (.inl (fmul_nought x7.1 q.1 (.inl (fmul_nought r3.1 hu.1 (.inr h0)).R.2)).R.2))
    have hn2 : R .f32 u = 0 → Nought (fmul .f32 (fmul .f32 3217031168 (fdiv .f32 (fmul .f32 (fmul .f32 (fmul .f32 n u) (fdiv .f32 b.Radius w)) (fdiv .f32 b.Radius w)) 1086918619)) (impl_cos o.Tilt)) := fun h0 =>
      fmul_nought x11.1 hc.1 (.inl (fmul_nought k_m15.1 x10.1 (.inr (hnone h0).R.2)).R.2)
    refine ⟨x12.to (by decide +kernel), x17.to (by decide +kernel), fun h0 => ⟨hn2 h0, fmul_nought x13.1 x16.1 (.inl (fmul_nought k_075.1 x10.1 (.inr (hnone h0).R.2)).R.2)⟩, fun h4 => ?_, fun h4 => ?_⟩
    · rcases hz with hz | hz
      · have := (hn2 hz.R.2).R.2
        grind
      · rw [decide_eq_true h4] at t2
        have y7 := (I.mul r3 hz).to (lo := 1 / 1000) (hi := 14 / 100) (by decide +kernel)
        have y8 := (I.mul y7 q).to (lo := 3 / 100000) (hi := 3 / 10) (by decide +kernel)
        have y9 := (I.mul y8 q).to (lo := 1 / 1000000) (hi := 6 / 10) (by decide +kernel)
        have y10 := (I.div y9 k_round).to (lo := 1 / 10000000) (hi := 1 / 10) (by decide +kernel)
        have y11 := (I.mul k_m15 y10).to (lo := -2 / 10) (hi := -1 / 10000000) (by decide +kernel)
        have y12 := (I.mul y11 (I.at t2)).to (lo := -1) (hi := 0) (by decide +kernel)
        exact y12.2.2
    · rcases hz with hz | hz
      · have := (hn2 hz.R.2).R.2
        grind
      · rw [decide_eq_false (show ¬ k.val < 4 by omega), decide_eq_true h4] at t2
        have y7 := (I.mul r3 hz).to (lo := 1 / 1000) (hi := 14 / 100) (by decide +kernel)
        have y8 := (I.mul y7 q).to (lo := 3 / 100000) (hi := 3 / 10) (by decide +kernel)
        have y9 := (I.mul y8 q).to (lo := 1 / 1000000) (hi := 6 / 10) (by decide +kernel)
        have y10 := (I.div y9 k_round).to (lo := 1 / 10000000) (hi := 1 / 10) (by decide +kernel)
        have y11 := (I.mul k_m15 y10).to (lo := -2 / 10) (hi := -1 / 10000000) (by decide +kernel)
        have y12 := (I.mul y11 (I.at t2)).to (lo := 0) (hi := 1) (by decide +kernel)
        exact y12.2.1
  have ha := fun (x y : Nat) (hx : isNum .f32 x = true) (hy : isNum .f32 y = true) => (show impl_areFinite_need [x, y] = true ∧ impl_areFinite [x, y] = true from by
    have a := areFinite_eq [x, y] (by simp)
    have e : [x, y].all (isNum .f32) = true := by simp only [List.all_cons, List.all_nil, hx, hy, Bool.and_self]
    rw [e] at a
    exact a)
  obtain ⟨a1, a2⟩ := ha _ _ D.xI.1 D.yI.1
  refine ⟨?_, _, _, ?_, D⟩
  · unfold impl_DriftsOf_need impl_DriftsOf_tree
    simp only [eo, eb, r1, r2, s1, s2, v1, v2, hgt, IsFinite_need, IsFinite_eq, hu.1, t1, a1, a2, Bool.not_true]
    simp only [DT.ok]
  · unfold impl_DriftsOf impl_DriftsOf_tree
    simp only [eo, eb, r2, s2, v2, hgt, IsFinite_eq, hu.1, a2, Bool.not_true]
    simp only [DT.val]

/-! ## Drifted orbits -/

noncomputable def drOK (node z : Nat) : Bool := impl_floor32_need (fadd .f32 node z) && (flt .f32 (fsub .f32 (fadd .f32 node z) (impl_floor32 (fadd .f32 node z))) 1065353216 && (fsub .f32 (fadd .f32 node z) (impl_floor32 (fadd .f32 node z)) == node))
theorem c_dr : ∀ k : Fin 16, (drOK (tnN k.val) 0 && drOK (tnN k.val) 2147483648) = true := by decide +kernel

theorem drifted_eq {k : Fin 16} {x t : Nat} (h : Nought (fmul .f32 x t)) : impl_drifted_need (tnN k.val) x t = true ∧ impl_drifted (tnN k.val) x t = tnN k.val := by
  have hd : drOK (tnN k.val) (fmul .f32 x t) = true := by
    have c := c_dr k
    rw [Bool.and_eq_true] at c
    rcases h with h | h <;> rw [h]
    · exact c.1
    · exact c.2
  unfold drOK at hd
  simp only [Bool.and_eq_true, beq_iff_eq] at hd
  obtain ⟨d1, d2, d3⟩ := hd
  unfold impl_drifted_need impl_drifted impl_drifted_tree
  simp only [d1, d2, Bool.not_true]
  simp only [DT.ok, DT.val]
  exact ⟨trivial, d3⟩

theorem driftOrbit_eq {o : Orbit} {b : Ball} {u t x y k : Nat} {i j : Fin 16} (h : OrbS o) (hb : BallS b) (hd : impl_DriftsOf_need b o u = true ∧ impl_DriftsOf b o u = (x, y, true)) (D : Drift u k x y) (hz : R .f32 u = 0 ∨ R .f32 t = 0) (ht : I .f32 t (some (0, 2))) (hi : o.Node = tnN i.val) (hj : o.Peri = tnN j.val) :
    impl_DriftOrbit_need b o u t = true ∧ ∃ o', impl_LaterOrbit o b.Mass t = (o', true) ∧ OrbS o' ∧ impl_DriftOrbit b o u t = (⟨o'.Long, o'.Round, o'.Tilt, o.Node, o.Peri, o'.Phase⟩, true) := by
  obtain ⟨l1, o', l2, l3⟩ := later_I h hb.mass ht
  have zx : Nought (fmul .f32 x t) := by
    rcases hz with hz | hz
    · exact fmul_nought D.xI.1 ht.1 (.inl (D.none hz).1.R.2)
    · exact fmul_nought D.xI.1 ht.1 (.inr hz)
  have zy : Nought (fmul .f32 y t) := by
    rcases hz with hz | hz
    · exact fmul_nought D.yI.1 ht.1 (.inl (D.none hz).2.R.2)
    · exact fmul_nought D.yI.1 ht.1 (.inr hz)
  obtain ⟨p1, p2⟩ := drifted_eq (k := i) zx
  obtain ⟨q1, q2⟩ := drifted_eq (k := j) zy
  rw [← hi] at p1 p2
  rw [← hj] at q1 q2
  have hv : validO ⟨o'.Long, o'.Round, o'.Tilt, o.Node, o.Peri, o'.Phase⟩ = true := by
    have v1 := h.ok
    have v2 := l3.ok
    have g1 := h.gt
    have g2 := l3.gt
    unfold validO at v1 v2 ⊢
    rw [g1] at v1
    rw [g2] at v2
    simp only [g2]
    simp only [Bool.and_eq_true] at v1 v2 ⊢
    obtain ⟨a1, a2, a3, a4, a5, a6, a7, a8⟩ := v1
    obtain ⟨b1, b2, b3, b4, b5, b6, b7, b8⟩ := v2
    exact ⟨b1, b2, b3, a4, a5, b6, b7, b8⟩
  obtain ⟨w1, w2⟩ := valid_I hv
  have eo : (⟨o.Long, o.Round, o.Tilt, o.Node, o.Peri, o.Phase⟩ : Orbit) = o := rfl
  have eb : (⟨b.Mass, b.Radius, b.Spin, b.Start⟩ : Ball) = b := rfl
  refine ⟨?_, o', l2, l3, ?_⟩
  · unfold impl_DriftOrbit_need impl_DriftOrbit_tree
    simp only [eo, eb, hd.1, hd.2, l1, l2, p1, p2, q1, q2, w1, w2, Bool.not_true]
    simp only [DT.ok]
  · unfold impl_DriftOrbit impl_DriftOrbit_tree
    simp only [eo, eb, hd.2, l2, p2, q2, w2, Bool.not_true]
    simp only [DT.val]

end Go.Proofs.Ytkhjcoekmamlaaa
